/-
  Sorting: parting.
-/
import Derived.Test.YtffmipimgodfdaaWS3string
set_option linter.unusedSimpArgs false
set_option linter.unusedVariables false
namespace Go.Proofs.Ytffmipimgodfdaa
open Go Go.V
set_option maxHeartbeats 1600000
set_option maxRecDepth 100000
set_option linter.unusedSimpArgs false
set_option linter.unusedVariables false
theorem part_string (b o N c : Nat) (f : Int → ByteArray) (a z p : Int) (h : 0 ≤ a ∧ z ≤ N) (hp : a ≤ p ∧ p < z) (hN : N ≤ 140737488355328) :
    Fun Try.prog 79 [slF_string b o N c, vi a, vi z, vi p] [rowF b o Value.string N f] (fun v Post => ∃ m t g, (a ≤ m ∧ m < z) ∧ Sw a z f g ∧ Parted ltS a z m g ∧ v = .tuple #[vi m, .bool t] ∧ Post = [rowF b o Value.string N g]) := by
  have hless := less_string
  refine Fun.intro low79 (by simp [F79]) ?_
  refine GOS ?_
  refine VC.loop (α := Int) (Γf := fun i => [(0, slF_string b o N c), (1, vi a), (10, vi i), (11, vi (z - 1))]) (Hf := fun i => [rowF b o Value.string N (swp f a p)])
    (I := fun i => PI ltS a z i (z - 1) (f p) (swp f a p)) (μ := fun i => (z - i).toNat) (a + 1) ?_ (by (repeat (first | exact Sub.nil | (apply Sub.cons; rfl)))) (by (first | with_reducible exact Imp.refl | with_reducible exact Imp.left | (focus ((try simp only [List.nil_append]); (repeat (first | exact Imp.nil | (apply Imp.cons; (focus ((repeat (first | with_reducible exact Tk.here | apply Tk.there)); done))))); done)))) ?_
  · refine ⟨?_, fun k k1 k2 => by omega, fun k k1 k2 => by omega, by omega, by omega, by omega⟩
    rw [swp_at]
    by_cases e : a = p
    · rw [if_pos e, e]
    · rw [if_neg e, if_pos rfl]
  have hsw : Sw a z f (swp f a p) := Sw.refl.step (by omega) (by omega)
  generalize swp f a p = g at hsw ⊢
  generalize f p = P
  intro i hI
  have i1 := hI.lo
  have i2 := hI.mid
  refine GO ?_
  by_cases hij : i ≤ z - 1
  · simp only [hij, decide_true]
    refine GOS ?_
    rw [hI.piv]
    cases hl : ltS (g i) P with
    | true =>
      refine GO ?_
      refine ⟨i + 1, hI.up hij hl, by omega, by (repeat (first | exact Sub.nil | (apply Sub.cons; rfl))), by (first | with_reducible exact Imp.refl | with_reducible exact Imp.left | (focus ((try simp only [List.nil_append]); (repeat (first | exact Imp.nil | (apply Imp.cons; (focus ((repeat (first | with_reducible exact Tk.here | apply Tk.there)); done))))); done)))⟩
    | false =>
      refine GO ?_
      refine VC.loop (α := Int) (Γf := fun j => [(0, slF_string b o N c), (1, vi a), (10, vi i), (11, vi j)]) (Hf := fun i => [rowF b o Value.string N g])
        (I := fun j => PI ltS a z i j P g) (μ := fun j => (j + 1).toNat) (z - 1) hI (by (repeat (first | exact Sub.nil | (apply Sub.cons; rfl)))) (by (first | with_reducible exact Imp.refl | with_reducible exact Imp.left | (focus ((try simp only [List.nil_append]); (repeat (first | exact Imp.nil | (apply Imp.cons; (focus ((repeat (first | with_reducible exact Tk.here | apply Tk.there)); done))))); done)))) ?_
      clear hI i2 hij
      intro j hI
      have i2 := hI.mid
      have i3 := hI.hi
      refine GO ?_
      by_cases hij : i ≤ j
      · simp only [hij, decide_true]
        refine GOS ?_
        rw [hI.piv]
        cases hl2 : ltS (g j) P with
        | false =>
          refine GO ?_
          refine ⟨j - 1, hI.down hij hl2, by omega, by (repeat (first | exact Sub.nil | (apply Sub.cons; rfl))), by (first | with_reducible exact Imp.refl | with_reducible exact Imp.left | (focus ((try simp only [List.nil_append]); (repeat (first | exact Imp.nil | (apply Imp.cons; (focus ((repeat (first | with_reducible exact Tk.here | apply Tk.there)); done))))); done)))⟩
        | true =>
          refine GO ?_
          simp only [show ¬ j < i by omega, decide_false]
          refine GOS ?_
          refine VC.loop (α := Int × Int × (Int → ByteArray)) (Γf := fun y => [(0, slF_string b o N c), (1, vi a), (10, vi y.1), (11, vi y.2.1)]) (Hf := fun y => [rowF b o Value.string N y.2.2])
            (I := fun y => Sw a z f y.2.2 ∧ PI ltS a z y.1 y.2.1 P y.2.2) (μ := fun y => (y.2.1 + 1 - y.1).toNat) (i + 1, j - 1, swp g i j) ⟨hsw.step (by omega) (by omega), hI.swap hij hl hl2⟩ (by (repeat (first | exact Sub.nil | (apply Sub.cons; rfl)))) (by (first | with_reducible exact Imp.refl | with_reducible exact Imp.left | (focus ((try simp only [List.nil_append]); (repeat (first | exact Imp.nil | (apply Imp.cons; (focus ((repeat (first | with_reducible exact Tk.here | apply Tk.there)); done))))); done)))) ?_
          clear hsw hl hI hl2 hij i1 i2 i3 g i j
          rintro ⟨i0, j0, g⟩ ⟨hsw, hI0⟩
          simp only at hsw hI0
          refine GO ?_
          refine VC.loop (α := Int) (Γf := fun i => [(0, slF_string b o N c), (1, vi a), (10, vi i), (11, vi j0)]) (Hf := fun i => [rowF b o Value.string N g])
            (I := fun i => i0 ≤ i ∧ PI ltS a z i j0 P g) (μ := fun i => (z - i).toNat) i0 ⟨by omega, hI0⟩ (by (repeat (first | exact Sub.nil | (apply Sub.cons; rfl)))) (by (first | with_reducible exact Imp.refl | with_reducible exact Imp.left | (focus ((try simp only [List.nil_append]); (repeat (first | exact Imp.nil | (apply Imp.cons; (focus ((repeat (first | with_reducible exact Tk.here | apply Tk.there)); done))))); done)))) ?_
          rintro i ⟨ii, hI⟩
          have i1 := hI.lo
          have i2 := hI.mid
          have i3 := hI.hi
          refine GO ?_
          by_cases hij : i ≤ j0
          · simp only [hij, decide_true]
            refine GOS ?_
            rw [hI.piv]
            cases hl : ltS (g i) P with
            | true =>
              refine GO ?_
              refine ⟨i + 1, ⟨by omega, hI.up hij hl⟩, by omega, by (repeat (first | exact Sub.nil | (apply Sub.cons; rfl))), by (first | with_reducible exact Imp.refl | with_reducible exact Imp.left | (focus ((try simp only [List.nil_append]); (repeat (first | exact Imp.nil | (apply Imp.cons; (focus ((repeat (first | with_reducible exact Tk.here | apply Tk.there)); done))))); done)))⟩
            | false =>
              refine GO ?_
              refine VC.loop (α := Int) (Γf := fun j => [(0, slF_string b o N c), (1, vi a), (10, vi i), (11, vi j)]) (Hf := fun i => [rowF b o Value.string N g])
                (I := fun j => j ≤ j0 ∧ PI ltS a z i j P g) (μ := fun j => (j + 1).toNat) j0 ⟨by omega, hI⟩ (by (repeat (first | exact Sub.nil | (apply Sub.cons; rfl)))) (by (first | with_reducible exact Imp.refl | with_reducible exact Imp.left | (focus ((try simp only [List.nil_append]); (repeat (first | exact Imp.nil | (apply Imp.cons; (focus ((repeat (first | with_reducible exact Tk.here | apply Tk.there)); done))))); done)))) ?_
              clear hI i2 hij i3
              rintro j ⟨jj, hI⟩
              have i2 := hI.mid
              have i3 := hI.hi
              refine GO ?_
              by_cases hij : i ≤ j
              · simp only [hij, decide_true]
                refine GOS ?_
                rw [hI.piv]
                cases hl2 : ltS (g j) P with
                | false =>
                  refine GO ?_
                  refine ⟨j - 1, ⟨by omega, hI.down hij hl2⟩, by omega, by (repeat (first | exact Sub.nil | (apply Sub.cons; rfl))), by (first | with_reducible exact Imp.refl | with_reducible exact Imp.left | (focus ((try simp only [List.nil_append]); (repeat (first | exact Imp.nil | (apply Imp.cons; (focus ((repeat (first | with_reducible exact Tk.here | apply Tk.there)); done))))); done)))⟩
                | true =>
                  refine GO ?_
                  simp only [show ¬ j < i by omega, decide_false]
                  refine GOS ?_
                  refine ⟨(i + 1, j - 1, swp g i j), ⟨hsw.step (by omega) (by omega), hI.swap hij hl hl2⟩, by simp only; omega, by (repeat (first | exact Sub.nil | (apply Sub.cons; rfl))), by (first | with_reducible exact Imp.refl | with_reducible exact Imp.left | (focus ((try simp only [List.nil_append]); (repeat (first | exact Imp.nil | (apply Imp.cons; (focus ((repeat (first | with_reducible exact Tk.here | apply Tk.there)); done))))); done)))⟩
              · obtain rfl : i = j + 1 := by omega
                simp only [hij, decide_false]
                refine GO ?_
                simp only [show j < j + 1 by omega, decide_true]
                refine GOS ?_
                refine ⟨.inr rfl, _, _, .tmp (by rfl) (.tmp (by rfl) .nil), by (first | with_reducible exact Imp.refl | with_reducible exact Imp.left | (focus ((try simp only [List.nil_append]); (repeat (first | exact Imp.nil | (apply Imp.cons; (focus ((repeat (first | with_reducible exact Tk.here | apply Tk.there)); done))))); done))), ⟨j, false, swp g j a, by omega, hsw.step (by omega) (by omega), hI.done, rfl, rfl⟩⟩
          · obtain rfl : i = j0 + 1 := by omega
            simp only [hij, decide_false]
            refine GO ?_
            refine VC.loop (α := Int) (Γf := fun j => [(0, slF_string b o N c), (1, vi a), (10, vi (j0 + 1)), (11, vi j)]) (Hf := fun i => [rowF b o Value.string N g])
              (I := fun j => j = j0) (μ := fun j => 0) j0 rfl (by (repeat (first | exact Sub.nil | (apply Sub.cons; rfl)))) (by (first | with_reducible exact Imp.refl | with_reducible exact Imp.left | (focus ((try simp only [List.nil_append]); (repeat (first | exact Imp.nil | (apply Imp.cons; (focus ((repeat (first | with_reducible exact Tk.here | apply Tk.there)); done))))); done)))) ?_
            rintro j rfl
            refine GO ?_
            simp only [hij, decide_false]
            refine GO ?_
            simp only [show j < j + 1 by omega, decide_true]
            refine GOS ?_
            refine ⟨.inr rfl, _, _, .tmp (by rfl) (.tmp (by rfl) .nil), by (first | with_reducible exact Imp.refl | with_reducible exact Imp.left | (focus ((try simp only [List.nil_append]); (repeat (first | exact Imp.nil | (apply Imp.cons; (focus ((repeat (first | with_reducible exact Tk.here | apply Tk.there)); done))))); done))), ⟨j, false, swp g j a, by omega, hsw.step (by omega) (by omega), hI.done, rfl, rfl⟩⟩
      · obtain rfl : i = j + 1 := by omega
        simp only [hij, decide_false]
        refine GO ?_
        simp only [show j < j + 1 by omega, decide_true]
        refine GOS ?_
        refine ⟨.inr rfl, _, _, .tmp (by rfl) (.tmp (by rfl) .nil), by (first | with_reducible exact Imp.refl | with_reducible exact Imp.left | (focus ((try simp only [List.nil_append]); (repeat (first | exact Imp.nil | (apply Imp.cons; (focus ((repeat (first | with_reducible exact Tk.here | apply Tk.there)); done))))); done))), ⟨j, true, swp g j a, by omega, hsw.step (by omega) (by omega), hI.done, rfl, rfl⟩⟩
  · obtain rfl : i = z := by omega
    simp only [hij, decide_false]
    refine GO ?_
    refine VC.loop (α := Int) (Γf := fun j => [(0, slF_string b o N c), (1, vi a), (10, vi i), (11, vi j)]) (Hf := fun _ => [rowF b o Value.string N g])
      (I := fun j => j = i - 1) (μ := fun j => 0) (i - 1) rfl (by (repeat (first | exact Sub.nil | (apply Sub.cons; rfl)))) (by (first | with_reducible exact Imp.refl | with_reducible exact Imp.left | (focus ((try simp only [List.nil_append]); (repeat (first | exact Imp.nil | (apply Imp.cons; (focus ((repeat (first | with_reducible exact Tk.here | apply Tk.there)); done))))); done)))) ?_
    rintro j rfl
    refine GO ?_
    simp only [hij, decide_false]
    refine GO ?_
    simp only [show i - 1 < i by omega, decide_true]
    refine GOS ?_
    refine ⟨.inr rfl, _, _, .tmp (by rfl) (.tmp (by rfl) .nil), by (first | with_reducible exact Imp.refl | with_reducible exact Imp.left | (focus ((try simp only [List.nil_append]); (repeat (first | exact Imp.nil | (apply Imp.cons; (focus ((repeat (first | with_reducible exact Tk.here | apply Tk.there)); done))))); done))), ⟨i - 1, true, swp g (i - 1) a, by omega, hsw.step (by omega) (by omega), ?_, rfl, rfl⟩⟩
    have hI' : PI ltS a i (i - 1 + 1) (i - 1) P g := by rw [Int.sub_add_cancel]; exact hI
    exact hI'.done
end Go.Proofs.Ytffmipimgodfdaa
namespace Go.Proofs.Ytffmipimgodfdaa
open Go Go.V
set_option maxHeartbeats 1600000
set_option maxRecDepth 100000
set_option linter.unusedSimpArgs false
set_option linter.unusedVariables false
theorem partial_string (b o N c : Nat) (f : Int → ByteArray) (a z : Int) (h : 0 ≤ a ∧ a < z ∧ z ≤ N) (hN : N ≤ 140737488355328) (hlo : Lo ltS a z f) :
    Fun Try.prog 76 [slF_string b o N c, vi a, vi z] [rowF b o Value.string N f] (fun v Post => ∃ t g, Sw a z f g ∧ (t = true → Srt ltS a z g) ∧ v = .bool t ∧ Post = [rowF b o Value.string N g]) := by
  have hless := less_string
  refine Fun.intro low76 (by simp [F76]) ?_
  refine GO ?_
  refine VC.loop (α := Int × Int × (Int → ByteArray)) (Γf := fun y => [(0, slF_string b o N c), (1, vi a), (2, vi z), (7, vi y.2.1), (8, vi y.1)]) (Hf := fun y => [rowF b o Value.string N y.2.2])
    (I := fun y => 0 ≤ y.1 ∧ y.1 ≤ 5 ∧ a + 1 ≤ y.2.1 ∧ y.2.1 ≤ z ∧ Sw a z f y.2.2 ∧ Srt ltS a y.2.1 y.2.2) (μ := fun y => (5 - y.1).toNat) (0, a + 1, f) ⟨by simp, by simp, by simp, by simp only; omega, .refl, fun p q h1 h2 h3 => by simp only at h3; omega⟩ (by (repeat (first | exact Sub.nil | (apply Sub.cons; rfl)))) (by (first | with_reducible exact Imp.refl | with_reducible exact Imp.left | (focus ((try simp only [List.nil_append]); (repeat (first | exact Imp.nil | (apply Imp.cons; (focus ((repeat (first | with_reducible exact Tk.here | apply Tk.there)); done))))); done)))) ?_
  rintro ⟨j, i, g⟩ ⟨hj1, hj2, hi1, hi2, hsw, hsrt⟩
  simp only at hj1 hj2 hi1 hi2 hsw hsrt
  refine GO ?_
  by_cases hj : j < 5
  rotate_left
  · simp only [hj, decide_false]
    refine GO ?_
    exact ⟨.inr rfl, _, _, .tmp (by rfl) .nil, by (first | with_reducible exact Imp.refl | with_reducible exact Imp.left | (focus ((try simp only [List.nil_append]); (repeat (first | exact Imp.nil | (apply Imp.cons; (focus ((repeat (first | with_reducible exact Tk.here | apply Tk.there)); done))))); done))), ⟨false, g, hsw, fun e => by (cases e), rfl, rfl⟩⟩
  simp only [hj, decide_true]
  refine GO ?_
  refine VC.loop (α := Int) (Γf := fun i => [(0, slF_string b o N c), (1, vi a), (2, vi z), (7, vi i), (8, vi j)]) (Hf := fun _ => [rowF b o Value.string N g])
    (I := fun i => a + 1 ≤ i ∧ i ≤ z ∧ Srt ltS a i g) (μ := fun i => (z - i).toNat) i ⟨hi1, hi2, hsrt⟩ (by (repeat (first | exact Sub.nil | (apply Sub.cons; rfl)))) (by (first | with_reducible exact Imp.refl | with_reducible exact Imp.left | (focus ((try simp only [List.nil_append]); (repeat (first | exact Imp.nil | (apply Imp.cons; (focus ((repeat (first | with_reducible exact Tk.here | apply Tk.there)); done))))); done)))) ?_
  clear hi1 hi2 hsrt i
  rintro i ⟨hi1, hi2, hsrt⟩
  refine GO ?_
  by_cases hiz : i < z
  rotate_left
  · obtain rfl : i = z := by omega
    simp only [hiz, decide_false]
    refine GO ?_
    try simp only [eq_self, decide_true]
    refine GO ?_
    exact ⟨.inr rfl, _, _, .tmp (by rfl) .nil, by (first | with_reducible exact Imp.refl | with_reducible exact Imp.left | (focus ((try simp only [List.nil_append]); (repeat (first | exact Imp.nil | (apply Imp.cons; (focus ((repeat (first | with_reducible exact Tk.here | apply Tk.there)); done))))); done))), ⟨true, g, hsw, fun _ => hsrt, rfl, rfl⟩⟩
  simp only [hiz, decide_true]
  refine GOS ?_
  cases hl : ltS (g i) (g (i - 1)) with
  | false =>
    refine GO ?_
    refine ⟨i + 1, ⟨by omega, by omega, ?_⟩, by omega, by (repeat (first | exact Sub.nil | (apply Sub.cons; rfl))), by (first | with_reducible exact Imp.refl | with_reducible exact Imp.left | (focus ((try simp only [List.nil_append]); (repeat (first | exact Imp.nil | (apply Imp.cons; (focus ((repeat (first | with_reducible exact Tk.here | apply Tk.there)); done))))); done)))⟩
    exact (InsI.start hsrt).stop ltS_ok hl (by omega)
  | true =>
    refine GO ?_
    simp only [show ¬ i = z by omega, decide_false]
    refine GO ?_
    by_cases h50 : z - a < 50
    · simp only [h50, decide_true]
      refine GO ?_
      exact ⟨.inr rfl, _, _, .tmp (by rfl) .nil, by (first | with_reducible exact Imp.refl | with_reducible exact Imp.left | (focus ((try simp only [List.nil_append]); (repeat (first | exact Imp.nil | (apply Imp.cons; (focus ((repeat (first | with_reducible exact Tk.here | apply Tk.there)); done))))); done))), ⟨false, g, hsw, fun e => by (cases e), rfl, rfl⟩⟩
    simp only [h50, decide_false]
    refine GOS ?_
    have hsw1 : Sw a z f (upd (upd g i (g (i - 1))) (i - 1) (g i)) := hsw.step (by omega) (by omega)
    have hsrt1 : Srt ltS a (i - 1) (upd (upd g i (g (i - 1))) (i - 1) (g i)) := by
      intro p q h1 h2 h3
      show ltS (swp g i (i - 1) q) (swp g i (i - 1) p) = false
      rw [swp_at, swp_at, if_neg (by omega), if_neg (by omega), if_neg (by omega), if_neg (by omega)]
      exact hsrt p q h1 h2 (by omega)
    generalize (upd (upd g i (g (i - 1))) (i - 1) (g i)) = g at hsw1 hsrt1 ⊢
    clear hsw hsrt hl
    by_cases hl2 : 2 ≤ i - a
    · simp only [hl2, decide_true]
      refine GO ?_
      refine VC.loop (α := Int × (Int → ByteArray)) (Γf := fun y => [(0, slF_string b o N c), (1, vi a), (2, vi z), (7, vi i), (8, vi j), (9, vi y.1)]) (Hf := fun y => [rowF b o Value.string N y.2])
        (I := fun y => a ≤ y.1 ∧ y.1 ≤ i - 1 ∧ Sw a z f y.2 ∧ InsI ltS a (i - 1) y.1 y.2) (μ := fun y => y.1.toNat) (i - 1, g) ⟨by simp only; omega, by simp, hsw1, .start hsrt1⟩ (by (repeat (first | exact Sub.nil | (apply Sub.cons; rfl)))) (by (first | with_reducible exact Imp.refl | with_reducible exact Imp.left | (focus ((try simp only [List.nil_append]); (repeat (first | exact Imp.nil | (apply Imp.cons; (focus ((repeat (first | with_reducible exact Tk.here | apply Tk.there)); done))))); done)))) ?_
      clear hsw1 hsrt1 g
      rintro ⟨k, g⟩ ⟨hk1, hk2, hsw, hins⟩
      simp only at hk1 hk2 hsw hins
      refine GO ?_
      by_cases hk : 1 ≤ k
      · simp only [hk, decide_true]
        refine GOS ?_
        cases hl : ltS (g k) (g (k - 1)) with
        | true =>
          have hak : a < k := by
            by_cases e : k = a
            · subst e
              rw [(hlo.sw hsw) (by omega) k (by omega) (by omega)] at hl; cases hl
            · omega
          refine GOS ?_
          refine ⟨(k - 1, swp g k (k - 1)), ⟨by simp only; omega, by simp only; omega, hsw.step (by omega) (by omega), hins.swap ltS_ok hl hak hk2⟩, by simp only; omega, by (repeat (first | exact Sub.nil | (apply Sub.cons; rfl))), by (first | with_reducible exact Imp.refl | with_reducible exact Imp.left | (focus ((try simp only [List.nil_append]); (repeat (first | exact Imp.nil | (apply Imp.cons; (focus ((repeat (first | with_reducible exact Tk.here | apply Tk.there)); done))))); done)))⟩
        | false =>
          have hsrt : Srt ltS a i g := by have := hins.stop ltS_ok hl hk2; rwa [Int.sub_add_cancel] at this
          refine GO ?_
          by_cases hr : 2 ≤ z - i
          · simp only [hr, decide_true]
            refine GO ?_
            refine VC.loop (α := Int × (Int → ByteArray)) (Γf := fun y => [(0, slF_string b o N c), (1, vi a), (2, vi z), (7, vi i), (8, vi j), (10, vi y.1)]) (Hf := fun y => [rowF b o Value.string N y.2])
              (I := fun y => i + 1 ≤ y.1 ∧ y.1 ≤ z ∧ Sw a z f y.2 ∧ Srt ltS a i y.2) (μ := fun y => (z - y.1).toNat) (i + 1, g) ⟨by simp, by simp only; omega, hsw, hsrt⟩ (by (repeat (first | exact Sub.nil | (apply Sub.cons; rfl)))) (by (first | with_reducible exact Imp.refl | with_reducible exact Imp.left | (focus ((try simp only [List.nil_append]); (repeat (first | exact Imp.nil | (apply Imp.cons; (focus ((repeat (first | with_reducible exact Tk.here | apply Tk.there)); done))))); done)))) ?_
            rintro ⟨w, G⟩ ⟨hw1, hw2, hSW, hSRT⟩
            simp only at hw1 hw2 hSW hSRT
            refine GO ?_
            (first | (apply VC.seq_cond; rfl) | (apply VC.cond; rfl))
            · intro hlt
              have hlt : w < z := by simpa using hlt
              refine GOS ?_
              cases hl : ltS (G w) (G (w - 1)) with
              | false =>
                refine GO ?_
                refine ⟨(j + 1, i, G), ⟨by simp only; omega, by simp only; omega, by simp only; omega, by simp only; omega, hSW, hSRT⟩, by simp only; omega, by (repeat (first | exact Sub.nil | (apply Sub.cons; rfl))), by (first | with_reducible exact Imp.refl | with_reducible exact Imp.left | (focus ((try simp only [List.nil_append]); (repeat (first | exact Imp.nil | (apply Imp.cons; (focus ((repeat (first | with_reducible exact Tk.here | apply Tk.there)); done))))); done)))⟩
              | true =>
                refine GOS ?_
                refine ⟨(w + 1, swp G w (w - 1)), ⟨by simp only; omega, by simp only; omega, hSW.step (by omega) (by omega), fun p q h1 h2 h3 => ?_⟩, by simp only; omega, by (repeat (first | exact Sub.nil | (apply Sub.cons; rfl))), by (first | with_reducible exact Imp.refl | with_reducible exact Imp.left | (focus ((try simp only [List.nil_append]); (repeat (first | exact Imp.nil | (apply Imp.cons; (focus ((repeat (first | with_reducible exact Tk.here | apply Tk.there)); done))))); done)))⟩
                show ltS (swp G w (w - 1) q) (swp G w (w - 1) p) = false
                rw [swp_at, swp_at, if_neg (by omega), if_neg (by omega), if_neg (by omega), if_neg (by omega)]
                exact hSRT p q h1 h2 h3
            · intro hge
              refine GO ?_
              refine ⟨(j + 1, i, G), ⟨by simp only; omega, by simp only; omega, by simp only; omega, by simp only; omega, hSW, hSRT⟩, by simp only; omega, by (repeat (first | exact Sub.nil | (apply Sub.cons; rfl))), by (first | with_reducible exact Imp.refl | with_reducible exact Imp.left | (focus ((try simp only [List.nil_append]); (repeat (first | exact Imp.nil | (apply Imp.cons; (focus ((repeat (first | with_reducible exact Tk.here | apply Tk.there)); done))))); done)))⟩
          · simp only [hr, decide_false]
            refine GO ?_
            refine ⟨(j + 1, i, g), ⟨by simp only; omega, by simp only; omega, by simp only; omega, by simp only; omega, hsw, hsrt⟩, by simp only; omega, by (repeat (first | exact Sub.nil | (apply Sub.cons; rfl))), by (first | with_reducible exact Imp.refl | with_reducible exact Imp.left | (focus ((try simp only [List.nil_append]); (repeat (first | exact Imp.nil | (apply Imp.cons; (focus ((repeat (first | with_reducible exact Tk.here | apply Tk.there)); done))))); done)))⟩
      · obtain rfl : a = k := by omega
        have hsrt : Srt ltS a i g := by have := hins.first; rwa [Int.sub_add_cancel] at this
        simp only [hk, decide_false]
        refine GO ?_
        by_cases hr : 2 ≤ z - i
        · simp only [hr, decide_true]
          refine GO ?_
          refine VC.loop (α := Int × (Int → ByteArray)) (Γf := fun y => [(0, slF_string b o N c), (1, vi a), (2, vi z), (7, vi i), (8, vi j), (10, vi y.1)]) (Hf := fun y => [rowF b o Value.string N y.2])
            (I := fun y => i + 1 ≤ y.1 ∧ y.1 ≤ z ∧ Sw a z f y.2 ∧ Srt ltS a i y.2) (μ := fun y => (z - y.1).toNat) (i + 1, g) ⟨by simp, by simp only; omega, hsw, hsrt⟩ (by (repeat (first | exact Sub.nil | (apply Sub.cons; rfl)))) (by (first | with_reducible exact Imp.refl | with_reducible exact Imp.left | (focus ((try simp only [List.nil_append]); (repeat (first | exact Imp.nil | (apply Imp.cons; (focus ((repeat (first | with_reducible exact Tk.here | apply Tk.there)); done))))); done)))) ?_
          rintro ⟨w, G⟩ ⟨hw1, hw2, hSW, hSRT⟩
          simp only at hw1 hw2 hSW hSRT
          refine GO ?_
          (first | (apply VC.seq_cond; rfl) | (apply VC.cond; rfl))
          · intro hlt
            have hlt : w < z := by simpa using hlt
            refine GOS ?_
            cases hl : ltS (G w) (G (w - 1)) with
            | false =>
              refine GO ?_
              refine ⟨(j + 1, i, G), ⟨by simp only; omega, by simp only; omega, by simp only; omega, by simp only; omega, hSW, hSRT⟩, by simp only; omega, by (repeat (first | exact Sub.nil | (apply Sub.cons; rfl))), by (first | with_reducible exact Imp.refl | with_reducible exact Imp.left | (focus ((try simp only [List.nil_append]); (repeat (first | exact Imp.nil | (apply Imp.cons; (focus ((repeat (first | with_reducible exact Tk.here | apply Tk.there)); done))))); done)))⟩
            | true =>
              refine GOS ?_
              refine ⟨(w + 1, swp G w (w - 1)), ⟨by simp only; omega, by simp only; omega, hSW.step (by omega) (by omega), fun p q h1 h2 h3 => ?_⟩, by simp only; omega, by (repeat (first | exact Sub.nil | (apply Sub.cons; rfl))), by (first | with_reducible exact Imp.refl | with_reducible exact Imp.left | (focus ((try simp only [List.nil_append]); (repeat (first | exact Imp.nil | (apply Imp.cons; (focus ((repeat (first | with_reducible exact Tk.here | apply Tk.there)); done))))); done)))⟩
              show ltS (swp G w (w - 1) q) (swp G w (w - 1) p) = false
              rw [swp_at, swp_at, if_neg (by omega), if_neg (by omega), if_neg (by omega), if_neg (by omega)]
              exact hSRT p q h1 h2 h3
          · intro hge
            refine GO ?_
            refine ⟨(j + 1, i, G), ⟨by simp only; omega, by simp only; omega, by simp only; omega, by simp only; omega, hSW, hSRT⟩, by simp only; omega, by (repeat (first | exact Sub.nil | (apply Sub.cons; rfl))), by (first | with_reducible exact Imp.refl | with_reducible exact Imp.left | (focus ((try simp only [List.nil_append]); (repeat (first | exact Imp.nil | (apply Imp.cons; (focus ((repeat (first | with_reducible exact Tk.here | apply Tk.there)); done))))); done)))⟩
        · simp only [hr, decide_false]
          refine GO ?_
          refine ⟨(j + 1, i, g), ⟨by simp only; omega, by simp only; omega, by simp only; omega, by simp only; omega, hsw, hsrt⟩, by simp only; omega, by (repeat (first | exact Sub.nil | (apply Sub.cons; rfl))), by (first | with_reducible exact Imp.refl | with_reducible exact Imp.left | (focus ((try simp only [List.nil_append]); (repeat (first | exact Imp.nil | (apply Imp.cons; (focus ((repeat (first | with_reducible exact Tk.here | apply Tk.there)); done))))); done)))⟩
    · simp only [hl2, decide_false]
      have hsrt : Srt ltS a i g := fun p q h1 h2 h3 => by omega
      have hsw := hsw1
      clear hsw1 hsrt1
      refine GO ?_
      by_cases hr : 2 ≤ z - i
      · simp only [hr, decide_true]
        refine GO ?_
        refine VC.loop (α := Int × (Int → ByteArray)) (Γf := fun y => [(0, slF_string b o N c), (1, vi a), (2, vi z), (7, vi i), (8, vi j), (10, vi y.1)]) (Hf := fun y => [rowF b o Value.string N y.2])
          (I := fun y => i + 1 ≤ y.1 ∧ y.1 ≤ z ∧ Sw a z f y.2 ∧ Srt ltS a i y.2) (μ := fun y => (z - y.1).toNat) (i + 1, g) ⟨by simp, by simp only; omega, hsw, hsrt⟩ (by (repeat (first | exact Sub.nil | (apply Sub.cons; rfl)))) (by (first | with_reducible exact Imp.refl | with_reducible exact Imp.left | (focus ((try simp only [List.nil_append]); (repeat (first | exact Imp.nil | (apply Imp.cons; (focus ((repeat (first | with_reducible exact Tk.here | apply Tk.there)); done))))); done)))) ?_
        rintro ⟨w, G⟩ ⟨hw1, hw2, hSW, hSRT⟩
        simp only at hw1 hw2 hSW hSRT
        refine GO ?_
        (first | (apply VC.seq_cond; rfl) | (apply VC.cond; rfl))
        · intro hlt
          have hlt : w < z := by simpa using hlt
          refine GOS ?_
          cases hl : ltS (G w) (G (w - 1)) with
          | false =>
            refine GO ?_
            refine ⟨(j + 1, i, G), ⟨by simp only; omega, by simp only; omega, by simp only; omega, by simp only; omega, hSW, hSRT⟩, by simp only; omega, by (repeat (first | exact Sub.nil | (apply Sub.cons; rfl))), by (first | with_reducible exact Imp.refl | with_reducible exact Imp.left | (focus ((try simp only [List.nil_append]); (repeat (first | exact Imp.nil | (apply Imp.cons; (focus ((repeat (first | with_reducible exact Tk.here | apply Tk.there)); done))))); done)))⟩
          | true =>
            refine GOS ?_
            refine ⟨(w + 1, swp G w (w - 1)), ⟨by simp only; omega, by simp only; omega, hSW.step (by omega) (by omega), fun p q h1 h2 h3 => ?_⟩, by simp only; omega, by (repeat (first | exact Sub.nil | (apply Sub.cons; rfl))), by (first | with_reducible exact Imp.refl | with_reducible exact Imp.left | (focus ((try simp only [List.nil_append]); (repeat (first | exact Imp.nil | (apply Imp.cons; (focus ((repeat (first | with_reducible exact Tk.here | apply Tk.there)); done))))); done)))⟩
            show ltS (swp G w (w - 1) q) (swp G w (w - 1) p) = false
            rw [swp_at, swp_at, if_neg (by omega), if_neg (by omega), if_neg (by omega), if_neg (by omega)]
            exact hSRT p q h1 h2 h3
        · intro hge
          refine GO ?_
          refine ⟨(j + 1, i, G), ⟨by simp only; omega, by simp only; omega, by simp only; omega, by simp only; omega, hSW, hSRT⟩, by simp only; omega, by (repeat (first | exact Sub.nil | (apply Sub.cons; rfl))), by (first | with_reducible exact Imp.refl | with_reducible exact Imp.left | (focus ((try simp only [List.nil_append]); (repeat (first | exact Imp.nil | (apply Imp.cons; (focus ((repeat (first | with_reducible exact Tk.here | apply Tk.there)); done))))); done)))⟩
      · simp only [hr, decide_false]
        refine GO ?_
        refine ⟨(j + 1, i, g), ⟨by simp only; omega, by simp only; omega, by simp only; omega, by simp only; omega, hsw, hsrt⟩, by simp only; omega, by (repeat (first | exact Sub.nil | (apply Sub.cons; rfl))), by (first | with_reducible exact Imp.refl | with_reducible exact Imp.left | (focus ((try simp only [List.nil_append]); (repeat (first | exact Imp.nil | (apply Imp.cons; (focus ((repeat (first | with_reducible exact Tk.here | apply Tk.there)); done))))); done)))⟩
end Go.Proofs.Ytffmipimgodfdaa

/-
  Sorting: which comes first; putting in.
-/
import Derived.Test.YtklkngccaemjdaaGreatSC
import Derived.Test.YtklkngccaemjdaaGreatSU
set_option linter.unusedSimpArgs false
set_option linter.unusedVariables false
namespace Go.Proofs.YtklkngccaemjdaaGreat
open Go Go.V
set_option maxHeartbeats 800000
set_option linter.unusedSimpArgs false
set_option linter.unusedVariables false
theorem isnan_int (x : Int) : Fun Tryz.prog 152 [vi x] [] (fun v Post => v = .bool false ∧ Post = []) := by
  refine Fun.intro low152 (by simp [F152]) ?_
  refine GO ?_
  refine ⟨.inr rfl, _, _, .tmp (by rfl) .nil, by (first | with_reducible exact Imp.refl | with_reducible exact Imp.left | (focus ((try simp only [List.nil_append]); (repeat (first | exact Imp.nil | (apply Imp.cons; (focus ((repeat (first | with_reducible exact Tk.here | apply Tk.there)); done))))); done))), ?_, rfl⟩
  simp [tup]

theorem less_int : LessIs Tryz.prog 133 vi ltI := by
  intro x y
  refine Fun.intro low133 (by simp [F133]) ?_
  refine GO ?_
  refine st_call (isnan_int x) (by rfl) (R := []) (by simp [V.Spl]) (fun v Post hv => ?_)
  obtain ⟨rfl, rfl⟩ := hv
  refine GO ?_
  refine ⟨.inr rfl, _, _, .tmp (by rfl) .nil, by (first | with_reducible exact Imp.refl | with_reducible exact Imp.left | (focus ((try simp only [List.nil_append]); (repeat (first | exact Imp.nil | (apply Imp.cons; (focus ((repeat (first | with_reducible exact Tk.here | apply Tk.there)); done))))); done))), ?_, rfl⟩
  rfl

abbrev slF_int (b o n c : Nat) : Value := .slice (some ⟨b, o, none⟩) n c

theorem insert_int (b o N c : Nat) (f : Int → Int) (a z : Int) (h : 0 ≤ a ∧ a ≤ z ∧ z ≤ N) (hN : N ≤ 140737488355328) :
    Fun Tryz.prog 127 [slF_int b o N c, vi a, vi z] [rowF b o vi N f] (fun v Post => v = .tuple #[] ∧ ∃ g, Sw a z f g ∧ Srt ltI a z g ∧ Post = [rowF b o vi N g]) := by
  have hless := less_int
  refine Fun.intro low127 (by simp [F127]) ?_
  refine GO ?_
  refine VC.loop (α := Int × (Int → Int)) (Γf := fun s => [(0, slF_int b o N c), (1, vi a), (2, vi z), (6, vi s.1)]) (Hf := fun s => [rowF b o vi N s.2])
    (I := fun s => a + 1 ≤ s.1 ∧ (s.1 ≤ z ∨ s.1 = a + 1) ∧ Sw a z f s.2 ∧ Srt ltI a s.1 s.2) (μ := fun s => (z + 1 - s.1).toNat) (a + 1, f) ⟨by simp, .inr rfl, .refl, fun p q h1 h2 h3 => by simp only at h3; omega⟩ (by (repeat (first | exact Sub.nil | (apply Sub.cons; rfl)))) (by (first | with_reducible exact Imp.refl | with_reducible exact Imp.left | (focus ((try simp only [List.nil_append]); (repeat (first | exact Imp.nil | (apply Imp.cons; (focus ((repeat (first | with_reducible exact Tk.here | apply Tk.there)); done))))); done)))) ?_
  rintro ⟨i, g⟩ ⟨hi1, hi2, hsw, hsrt⟩
  simp only at hi1 hi2 hsw hsrt
  refine GO ?_
  (first | (apply VC.seq_cond; rfl) | (apply VC.cond; rfl))
  · intro hlt
    have hlt : i < z := by simpa using hlt
    refine GO ?_
    refine VC.loop (α := Int × (Int → Int)) (Γf := fun s => [(0, slF_int b o N c), (1, vi a), (2, vi z), (6, vi i), (7, vi s.1)]) (Hf := fun s => [rowF b o vi N s.2])
      (I := fun s => a ≤ s.1 ∧ s.1 ≤ i ∧ Sw a z f s.2 ∧ InsI ltI a i s.1 s.2) (μ := fun s => s.1.toNat) (i, g) ⟨by simp only; omega, by simp, hsw, .start hsrt⟩ (by (repeat (first | exact Sub.nil | (apply Sub.cons; rfl)))) (by (first | with_reducible exact Imp.refl | with_reducible exact Imp.left | (focus ((try simp only [List.nil_append]); (repeat (first | exact Imp.nil | (apply Imp.cons; (focus ((repeat (first | with_reducible exact Tk.here | apply Tk.there)); done))))); done)))) ?_
    rintro ⟨j, g'⟩ ⟨hj1, hj2, hsw', hins⟩
    simp only at hj1 hj2 hsw' hins
    refine GO ?_
    by_cases hja : a < j
    · simp only [hja, decide_true]
      refine GOS ?_
      cases hl : ltI (g' j) (g' (j - 1)) with
      | true =>
        refine GOS ?_
        refine ⟨(j - 1, swp g' j (j - 1)), ⟨by simp only; omega, by simp only; omega, hsw'.step (by omega) (by omega), hins.swap ltI_ok hl hja hj2⟩, by simp only; omega, by (repeat (first | exact Sub.nil | (apply Sub.cons; rfl))), by (first | with_reducible exact Imp.refl | with_reducible exact Imp.left | (focus ((try simp only [List.nil_append]); (repeat (first | exact Imp.nil | (apply Imp.cons; (focus ((repeat (first | with_reducible exact Tk.here | apply Tk.there)); done))))); done)))⟩
      | false =>
        refine GOS ?_
        refine ⟨(i + 1, g'), ⟨by simp only; omega, by simp only; omega, hsw', hins.stop ltI_ok hl hj2⟩, by simp only; omega, by (repeat (first | exact Sub.nil | (apply Sub.cons; rfl))), by (first | with_reducible exact Imp.refl | with_reducible exact Imp.left | (focus ((try simp only [List.nil_append]); (repeat (first | exact Imp.nil | (apply Imp.cons; (focus ((repeat (first | with_reducible exact Tk.here | apply Tk.there)); done))))); done)))⟩
    · simp only [hja, decide_false]
      obtain rfl : j = a := by omega
      refine GOS ?_
      refine ⟨(i + 1, g'), ⟨by simp only; omega, by simp only; omega, hsw', hins.first⟩, by simp only; omega, by (repeat (first | exact Sub.nil | (apply Sub.cons; rfl))), by (first | with_reducible exact Imp.refl | with_reducible exact Imp.left | (focus ((try simp only [List.nil_append]); (repeat (first | exact Imp.nil | (apply Imp.cons; (focus ((repeat (first | with_reducible exact Tk.here | apply Tk.there)); done))))); done)))⟩
  · intro hge
    have hge : ¬ i < z := by simpa using hge
    refine GO ?_
    refine ⟨.inl rfl, _, _, .nil, by (first | with_reducible exact Imp.refl | with_reducible exact Imp.left | (focus ((try simp only [List.nil_append]); (repeat (first | exact Imp.nil | (apply Imp.cons; (focus ((repeat (first | with_reducible exact Tk.here | apply Tk.there)); done))))); done))), rfl, g, hsw, ?_, rfl⟩
    intro p q h1 h2 h3
    exact hsrt p q h1 h2 (by omega)
end Go.Proofs.YtklkngccaemjdaaGreat
namespace Go.Proofs.YtklkngccaemjdaaGreat
open Go Go.V
set_option maxHeartbeats 1600000
set_option linter.unusedSimpArgs false
set_option linter.unusedVariables false
theorem sift_int (b o N c : Nat) (f : Int → Int) (lo hi s : Int) (h : 0 ≤ s ∧ 0 ≤ lo ∧ s + hi ≤ N ∧ 0 ≤ hi) (hlo : lo ≤ N) (hN : N ≤ 140737488355328) (hp : Hp ltI s (lo + 1) hi f) :
    Fun Tryz.prog 147 [slF_int b o N c, vi lo, vi hi, vi s] [rowF b o vi N f] (fun v Post => v = .tuple #[] ∧ ∃ g, Sw s (s + hi) f g ∧ Hp ltI s lo hi g ∧ Post = [rowF b o vi N g]) := by
  have hless := less_int
  refine Fun.intro low147 (by simp [F147]) ?_
  refine GO ?_
  refine VC.loop (α := Int × (Int → Int)) (Γf := fun y => [(0, slF_int b o N c), (2, vi hi), (3, vi s), (8, vi y.1)]) (Hf := fun y => [rowF b o vi N y.2])
    (I := fun y => lo ≤ y.1 ∧ y.1 ≤ N ∧ Sw s (s + hi) f y.2 ∧ HpX ltI s lo hi y.1 y.2) (μ := fun y => (N - y.1).toNat) (lo, f) ⟨by simp, by simp only; omega, .refl, .start hp (by omega)⟩ (by (repeat (first | exact Sub.nil | (apply Sub.cons; rfl)))) (by (first | with_reducible exact Imp.refl | with_reducible exact Imp.left | (focus ((try simp only [List.nil_append]); (repeat (first | exact Imp.nil | (apply Imp.cons; (focus ((repeat (first | with_reducible exact Tk.here | apply Tk.there)); done))))); done)))) ?_
  rintro ⟨x, g⟩ ⟨hx1, hx2, hsw, hx⟩
  simp only at hx1 hx2 hsw hx
  refine GO ?_
  by_cases hd : hi ≤ 2 * x + 1
  · simp only [hd, decide_true]
    refine GO ?_
    exact ⟨.inl rfl, _, _, .nil, by (first | with_reducible exact Imp.refl | with_reducible exact Imp.left | (focus ((try simp only [List.nil_append]); (repeat (first | exact Imp.nil | (apply Imp.cons; (focus ((repeat (first | with_reducible exact Tk.here | apply Tk.there)); done))))); done))), rfl, g, hsw, hx.none hd, rfl⟩
  simp only [hd, decide_false]
  refine GO ?_
  by_cases hd2 : 2 * x + 1 + 1 < hi
  · simp only [hd2, decide_true]
    refine GOS ?_
    rw [show s + (2 * x + 1) + 1 = s + (2 * x + 2) by omega]
    cases hl0 : ltI (g (s + (2 * x + 1))) (g (s + (2 * x + 2))) with
    | true =>
      have hmax : ∀ c, Kid x c → c < hi → ltI (g (s + (2 * x + 1 + 1))) (g (s + c)) = false := by
        intro c hk hc
        rw [show s + (2 * x + 1 + 1) = s + (2 * x + 2) by omega]
        rcases hk with rfl | rfl
        · exact (ltI_ok).asymm _ _ hl0
        · exact (ltI_ok).refl _
      have hC : Kid x (2 * x + 1 + 1) := .inr (by omega)
      have hCi : 2 * x + 1 + 1 < hi := by omega
      refine GO ?_
      generalize 2 * x + 1 + 1 = C at hC hCi hmax ⊢
      have hCk : x < C := by unfold Kid at hC; omega
      refine GOS ?_
      cases hl : ltI (g (s + x)) (g (s + C)) with
      | true =>
        refine GOS ?_
        refine ⟨(C, swp g (s + x) (s + C)), ⟨by simp only; omega, by simp only; omega, hsw.step (by omega) (by omega), hx.down ltI_ok (by omega) hx1 hC hCi hmax hl⟩, by simp only; omega, by (repeat (first | exact Sub.nil | (apply Sub.cons; rfl))), by (first | with_reducible exact Imp.refl | with_reducible exact Imp.left | (focus ((try simp only [List.nil_append]); (repeat (first | exact Imp.nil | (apply Imp.cons; (focus ((repeat (first | with_reducible exact Tk.here | apply Tk.there)); done))))); done)))⟩
      | false =>
        refine GOS ?_
        exact ⟨.inr rfl, _, _, .nil, by (first | with_reducible exact Imp.refl | with_reducible exact Imp.left | (focus ((try simp only [List.nil_append]); (repeat (first | exact Imp.nil | (apply Imp.cons; (focus ((repeat (first | with_reducible exact Tk.here | apply Tk.there)); done))))); done))), rfl, g, hsw, hx.stop ltI_ok hmax hl, rfl⟩
    | false =>
      have hmax : ∀ c, Kid x c → c < hi → ltI (g (s + (2 * x + 1))) (g (s + c)) = false := by
        intro c hk hc
        rcases hk with rfl | rfl
        · exact (ltI_ok).refl _
        · exact hl0
      have hC : Kid x (2 * x + 1) := .inl rfl
      have hCi : 2 * x + 1 < hi := by omega
      refine GO ?_
      generalize 2 * x + 1 = C at hC hCi hmax hd hd2 hl0 ⊢
      have hCk : x < C := by unfold Kid at hC; omega
      refine GOS ?_
      cases hl : ltI (g (s + x)) (g (s + C)) with
      | true =>
        refine GOS ?_
        refine ⟨(C, swp g (s + x) (s + C)), ⟨by simp only; omega, by simp only; omega, hsw.step (by omega) (by omega), hx.down ltI_ok (by omega) hx1 hC hCi hmax hl⟩, by simp only; omega, by (repeat (first | exact Sub.nil | (apply Sub.cons; rfl))), by (first | with_reducible exact Imp.refl | with_reducible exact Imp.left | (focus ((try simp only [List.nil_append]); (repeat (first | exact Imp.nil | (apply Imp.cons; (focus ((repeat (first | with_reducible exact Tk.here | apply Tk.there)); done))))); done)))⟩
      | false =>
        refine GOS ?_
        exact ⟨.inr rfl, _, _, .nil, by (first | with_reducible exact Imp.refl | with_reducible exact Imp.left | (focus ((try simp only [List.nil_append]); (repeat (first | exact Imp.nil | (apply Imp.cons; (focus ((repeat (first | with_reducible exact Tk.here | apply Tk.there)); done))))); done))), rfl, g, hsw, hx.stop ltI_ok hmax hl, rfl⟩
  · simp only [hd2, decide_false]
    have hmax : ∀ c, Kid x c → c < hi → ltI (g (s + (2 * x + 1))) (g (s + c)) = false := by
      intro c hk hc
      rcases hk with rfl | rfl
      · exact (ltI_ok).refl _
      · omega
    have hC : Kid x (2 * x + 1) := .inl rfl
    have hCi : 2 * x + 1 < hi := by omega
    refine GO ?_
    generalize 2 * x + 1 = C at hC hCi hmax hd hd2 ⊢
    have hCk : x < C := by unfold Kid at hC; omega
    refine GOS ?_
    cases hl : ltI (g (s + x)) (g (s + C)) with
    | true =>
      refine GOS ?_
      refine ⟨(C, swp g (s + x) (s + C)), ⟨by simp only; omega, by simp only; omega, hsw.step (by omega) (by omega), hx.down ltI_ok (by omega) hx1 hC hCi hmax hl⟩, by simp only; omega, by (repeat (first | exact Sub.nil | (apply Sub.cons; rfl))), by (first | with_reducible exact Imp.refl | with_reducible exact Imp.left | (focus ((try simp only [List.nil_append]); (repeat (first | exact Imp.nil | (apply Imp.cons; (focus ((repeat (first | with_reducible exact Tk.here | apply Tk.there)); done))))); done)))⟩
    | false =>
      refine GOS ?_
      exact ⟨.inr rfl, _, _, .nil, by (first | with_reducible exact Imp.refl | with_reducible exact Imp.left | (focus ((try simp only [List.nil_append]); (repeat (first | exact Imp.nil | (apply Imp.cons; (focus ((repeat (first | with_reducible exact Tk.here | apply Tk.there)); done))))); done))), rfl, g, hsw, hx.stop ltI_ok hmax hl, rfl⟩

theorem heap_int (b o N c : Nat) (f : Int → Int) (a z : Int) (h : 0 ≤ a ∧ a ≤ z ∧ z ≤ N) (hN : N ≤ 140737488355328) :
    Fun Tryz.prog 128 [slF_int b o N c, vi a, vi z] [rowF b o vi N f] (fun v Post => v = .tuple #[] ∧ ∃ g, Sw a z f g ∧ Srt ltI a z g ∧ Post = [rowF b o vi N g]) := by
  refine Fun.intro low128 (by simp [F128]) ?_
  refine GO ?_
  have hq : IntKind.i64.wrap ((z - a - 1).tdiv 2) = (z - a - 1).tdiv 2 := wrap64 (by
    by_cases e : z - a = 0
    · rw [e]; decide
    · rw [Int.tdiv_eq_ediv_of_nonneg (by omega)]; omega)
  rw [hq]
  have hq2 : -1 ≤ (z - a - 1).tdiv 2 ∧ (z - a - 1).tdiv 2 ≤ z - a ∧ z - a ≤ 2 * ((z - a - 1).tdiv 2 + 1) + 1 := by
    by_cases e : z - a = 0
    · rw [e]; decide
    · rw [Int.tdiv_eq_ediv_of_nonneg (by omega)]; omega
  generalize (z - a - 1).tdiv 2 = m0 at hq2 ⊢
  refine GO ?_
  refine VC.loop (α := Int × (Int → Int)) (Γf := fun y => [(0, slF_int b o N c), (6, vi a), (7, vi 0), (8, vi (z - a)), (9, vi y.1)]) (Hf := fun y => [rowF b o vi N y.2])
    (I := fun y => -1 ≤ y.1 ∧ y.1 ≤ z - a ∧ Sw a z f y.2 ∧ Hp ltI a (y.1 + 1) (z - a) y.2) (μ := fun y => (y.1 + 1).toNat) (m0, f) ⟨hq2.1, hq2.2.1, .refl, .none hq2.2.2⟩ (by (repeat (first | exact Sub.nil | (apply Sub.cons; rfl)))) (by (first | with_reducible exact Imp.refl | with_reducible exact Imp.left | (focus ((try simp only [List.nil_append]); (repeat (first | exact Imp.nil | (apply Imp.cons; (focus ((repeat (first | with_reducible exact Tk.here | apply Tk.there)); done))))); done)))) ?_
  rintro ⟨i, g⟩ ⟨hi1, hi2, hsw, hp⟩
  simp only at hi1 hi2 hsw hp
  refine GO ?_
  (first | (apply VC.seq_cond; rfl) | (apply VC.cond; rfl))
  · intro hge
    have hge : 0 ≤ i := by simpa using hge
    refine GO ?_
    refine st_call (sift_int b o N c g i (z - a) a (by omega) (by omega) hN hp) (by rfl) (by (focus ((repeat (first | exact Spl.nil | (apply Spl.cons; (focus ((repeat (first | with_reducible exact Tk.here | apply Tk.there)); done))))); done))) (fun v Post hv => ?_)
    obtain ⟨rfl, g1, s1, hp1, rfl⟩ := hv
    simp only [List.cons_append, List.nil_append]
    refine GO ?_
    refine ⟨(i - 1, g1), ⟨by simp only; omega, by simp only; omega, hsw.trans (s1.wide (by omega) (by omega)), by simp only; rw [Int.sub_add_cancel]; exact hp1⟩, by simp only; omega, by (repeat (first | exact Sub.nil | (apply Sub.cons; rfl))), by (first | with_reducible exact Imp.refl | with_reducible exact Imp.left | (focus ((try simp only [List.nil_append]); (repeat (first | exact Imp.nil | (apply Imp.cons; (focus ((repeat (first | with_reducible exact Tk.here | apply Tk.there)); done))))); done)))⟩
  intro hlt
  have hlt : ¬ 0 ≤ i := by simpa using hlt
  obtain rfl : i = -1 := by omega
  refine GO ?_
  refine VC.loop (α := Int × (Int → Int)) (Γf := fun y => [(0, slF_int b o N c), (6, vi a), (7, vi 0), (10, vi y.1)]) (Hf := fun y => [rowF b o vi N y.2])
    (I := fun y => -1 ≤ y.1 ∧ y.1 < z - a ∧ Sw a z f y.2 ∧ Hp ltI a 0 (y.1 + 1) y.2 ∧ Top ltI a (y.1 + 1) (z - a) y.2) (μ := fun y => (y.1 + 1).toNat) (z - a - 1, g)
    ⟨by simp only; omega, by simp only; omega, hsw, by simp only; rw [Int.sub_add_cancel]; exact hp, fun p q h1 h2 h3 h4 => by simp only at h4; omega⟩ (by (repeat (first | exact Sub.nil | (apply Sub.cons; rfl)))) (by (first | with_reducible exact Imp.refl | with_reducible exact Imp.left | (focus ((try simp only [List.nil_append]); (repeat (first | exact Imp.nil | (apply Imp.cons; (focus ((repeat (first | with_reducible exact Tk.here | apply Tk.there)); done))))); done)))) ?_
  clear hsw hp hi1 hi2 hlt
  rintro ⟨i, g⟩ ⟨hi1, hi2, hsw, hp, ht⟩
  simp only at hi1 hi2 hsw hp ht
  refine GO ?_
  (first | (apply VC.seq_cond; rfl) | (apply VC.cond; rfl))
  · intro hge
    have hge : 0 ≤ i := by simpa using hge
    refine GOS ?_
    refine st_call (sift_int b o N c (swp g a (a + i)) 0 i a (by omega) (by omega) hN (fun r c h1 h2 h3 => (hp.popX hge).1 r c (by omega) h2 h3 (by omega))) (by rfl) (by (focus ((repeat (first | exact Spl.nil | (apply Spl.cons; (focus ((repeat (first | with_reducible exact Tk.here | apply Tk.there)); done))))); done))) (fun v Post hv => ?_)
    obtain ⟨rfl, g1, s1, hp1, rfl⟩ := hv
    simp only [List.cons_append, List.nil_append]
    refine GO ?_
    refine ⟨(i - 1, g1), ⟨by simp only; omega, by simp only; omega, (hsw.step (by omega) (by omega)).trans (s1.wide (by omega) (by omega)), by simp only; rw [Int.sub_add_cancel]; exact hp1,
      by simp only; rw [Int.sub_add_cancel]; exact ht.pop ltI_ok hp hge hi2 s1⟩, by simp only; omega, by (repeat (first | exact Sub.nil | (apply Sub.cons; rfl))), by (first | with_reducible exact Imp.refl | with_reducible exact Imp.left | (focus ((try simp only [List.nil_append]); (repeat (first | exact Imp.nil | (apply Imp.cons; (focus ((repeat (first | with_reducible exact Tk.here | apply Tk.there)); done))))); done)))⟩
  · intro hlt
    have hlt : ¬ 0 ≤ i := by simpa using hlt
    obtain rfl : i = -1 := by omega
    refine GO ?_
    refine ⟨.inl rfl, _, _, .nil, by (first | with_reducible exact Imp.refl | with_reducible exact Imp.left | (focus ((try simp only [List.nil_append]); (repeat (first | exact Imp.nil | (apply Imp.cons; (focus ((repeat (first | with_reducible exact Tk.here | apply Tk.there)); done))))); done))), rfl, g, hsw, ?_, rfl⟩
    intro p q h1 h2 h3
    have := ht (p - a) (q - a) (by omega) (by omega) (by omega) (by omega)
    rwa [show a + (q - a) = q by omega, show a + (p - a) = p by omega] at this
end Go.Proofs.YtklkngccaemjdaaGreat
namespace Go.Proofs.YtklkngccaemjdaaGreat
open Go Go.V
set_option maxHeartbeats 1600000
set_option maxRecDepth 100000
set_option linter.unusedSimpArgs false
set_option linter.unusedVariables false
theorem reverse_int (b o N c : Nat) (f : Int → Int) (a z : Int) (h : 0 ≤ a ∧ a ≤ z ∧ z ≤ N) (hN : N ≤ 140737488355328) :
    Fun Tryz.prog 131 [slF_int b o N c, vi a, vi z] [rowF b o vi N f] (fun v Post => v = .tuple #[] ∧ ∃ g, Sw a z f g ∧ Post = [rowF b o vi N g]) := by
  refine Fun.intro low131 (by simp [F131]) ?_
  refine GO ?_
  refine VC.loop (α := Int × Int × (Int → Int)) (Γf := fun y => [(0, slF_int b o N c), (6, vi y.1), (7, vi y.2.1)]) (Hf := fun y => [rowF b o vi N y.2.2])
    (I := fun y => a ≤ y.1 ∧ y.1 ≤ z ∧ a - 1 ≤ y.2.1 ∧ y.2.1 < z ∧ Sw a z f y.2.2) (μ := fun y => (y.2.1 + 1 - y.1).toNat) (a, z - 1, f) ⟨by simp, by simp only; omega, by simp only; omega, by simp only; omega, .refl⟩ (by (repeat (first | exact Sub.nil | (apply Sub.cons; rfl)))) (by (first | with_reducible exact Imp.refl | with_reducible exact Imp.left | (focus ((try simp only [List.nil_append]); (repeat (first | exact Imp.nil | (apply Imp.cons; (focus ((repeat (first | with_reducible exact Tk.here | apply Tk.there)); done))))); done)))) ?_
  rintro ⟨i, j, g⟩ ⟨h1, h2, h3, h4, hsw⟩
  simp only at h1 h2 h3 h4 hsw
  refine GO ?_
  (first | (apply VC.seq_cond; rfl) | (apply VC.cond; rfl))
  · intro hlt
    have hlt : i < j := by simpa using hlt
    refine GOS ?_
    refine ⟨(i + 1, j - 1, swp g i j), ⟨by simp only; omega, by simp only; omega, by simp only; omega, by simp only; omega, hsw.step (by omega) (by omega)⟩, by simp only; omega, by (repeat (first | exact Sub.nil | (apply Sub.cons; rfl))), by (first | with_reducible exact Imp.refl | with_reducible exact Imp.left | (focus ((try simp only [List.nil_append]); (repeat (first | exact Imp.nil | (apply Imp.cons; (focus ((repeat (first | with_reducible exact Tk.here | apply Tk.there)); done))))); done)))⟩
  · intro hge
    refine GO ?_
    exact ⟨.inl rfl, _, _, .nil, by (first | with_reducible exact Imp.refl | with_reducible exact Imp.left | (focus ((try simp only [List.nil_append]); (repeat (first | exact Imp.nil | (apply Imp.cons; (focus ((repeat (first | with_reducible exact Tk.here | apply Tk.there)); done))))); done))), rfl, g, hsw, rfl⟩

theorem order2_int (b o N c q : Nat) (f : Int → Int) (x y k : Int) (hx : 0 ≤ x ∧ x < N) (hy : 0 ≤ y ∧ y < N) (hk : 0 ≤ k ∧ k < 1000) :
    Fun Tryz.prog 157 [slF_int b o N c, vi x, vi y, ptr0 q] [rowF b o vi N f, cellsAt q 0 [vi k]] (fun v Post => ∃ p r k', ((p = x ∧ r = y) ∨ (p = y ∧ r = x)) ∧ k ≤ k' ∧ k' ≤ k + 1 ∧ v = .tuple #[vi p, vi r] ∧ Post = [rowF b o vi N f, cellsAt q 0 [vi k']]) := by
  have hless := less_int
  refine Fun.intro low157 (by simp [F157]) ?_
  refine GOS ?_
  cases hl : ltI (f y) (f x) with
  | true =>
    refine GO ?_
    refine ⟨.inr rfl, _, _, .tmp (by rfl) (.tmp (by rfl) .nil), by (first | with_reducible exact Imp.refl | with_reducible exact Imp.left | (focus ((try simp only [List.nil_append]); (repeat (first | exact Imp.nil | (apply Imp.cons; (focus ((repeat (first | with_reducible exact Tk.here | apply Tk.there)); done))))); done))), ⟨y, x, k + 1, .inr ⟨rfl, rfl⟩, by omega, by omega, rfl, rfl⟩⟩
  | false =>
    refine GO ?_
    refine ⟨.inr rfl, _, _, .tmp (by rfl) (.tmp (by rfl) .nil), by (first | with_reducible exact Imp.refl | with_reducible exact Imp.left | (focus ((try simp only [List.nil_append]); (repeat (first | exact Imp.nil | (apply Imp.cons; (focus ((repeat (first | with_reducible exact Tk.here | apply Tk.there)); done))))); done))), ⟨x, y, k, .inl ⟨rfl, rfl⟩, by omega, by omega, rfl, rfl⟩⟩

theorem median_int (b o N c q : Nat) (f : Int → Int) (x y w k : Int) (hx : 0 ≤ x ∧ x < N) (hy : 0 ≤ y ∧ y < N) (hw : 0 ≤ w ∧ w < N) (hk : 0 ≤ k ∧ k < 900) :
    Fun Tryz.prog 151 [slF_int b o N c, vi x, vi y, vi w, ptr0 q] [rowF b o vi N f, cellsAt q 0 [vi k]] (fun v Post => ∃ p k', (p = x ∨ p = y ∨ p = w) ∧ k ≤ k' ∧ k' ≤ k + 3 ∧ v = vi p ∧ Post = [rowF b o vi N f, cellsAt q 0 [vi k']]) := by
  refine Fun.intro low151 (by simp [F151]) ?_
  refine GO ?_
  refine st_call (order2_int b o N c q f x y k hx hy (by omega)) (by rfl) (by (focus ((repeat (first | exact Spl.nil | (apply Spl.cons; (focus ((repeat (first | with_reducible exact Tk.here | apply Tk.there)); done))))); done))) (fun v Post hv => ?_)
  obtain ⟨p1, r1, k1, e1, l1, u1, rfl, rfl⟩ := hv
  simp only [List.cons_append, List.nil_append]
  refine GO ?_
  refine st_call (order2_int b o N c q f r1 w k1 (by omega) hw (by omega)) (by rfl) (by (focus ((repeat (first | exact Spl.nil | (apply Spl.cons; (focus ((repeat (first | with_reducible exact Tk.here | apply Tk.there)); done))))); done))) (fun v Post hv => ?_)
  obtain ⟨p2, r2, k2, e2, l2, u2, rfl, rfl⟩ := hv
  simp only [List.cons_append, List.nil_append]
  refine GO ?_
  refine st_call (order2_int b o N c q f p1 p2 k2 (by omega) (by omega) (by omega)) (by rfl) (by (focus ((repeat (first | exact Spl.nil | (apply Spl.cons; (focus ((repeat (first | with_reducible exact Tk.here | apply Tk.there)); done))))); done))) (fun v Post hv => ?_)
  obtain ⟨p3, r3, k3, e3, l3, u3, rfl, rfl⟩ := hv
  simp only [List.cons_append, List.nil_append]
  refine GO ?_
  refine ⟨.inr rfl, _, _, .tmp (by rfl) .nil, by (first | with_reducible exact Imp.refl | with_reducible exact Imp.left | (focus ((try simp only [List.nil_append]); (repeat (first | exact Imp.nil | (apply Imp.cons; (focus ((repeat (first | with_reducible exact Tk.here | apply Tk.there)); done))))); done))), ⟨r3, k3, by omega, by omega, by omega, rfl, rfl⟩⟩

theorem adjacent_int (b o N c q : Nat) (f : Int → Int) (x k : Int) (hx : 1 ≤ x ∧ x + 1 < N) (hN : N ≤ 140737488355328) (hk : 0 ≤ k ∧ k < 900) :
    Fun Tryz.prog 150 [slF_int b o N c, vi x, ptr0 q] [rowF b o vi N f, cellsAt q 0 [vi k]] (fun v Post => ∃ p k', (x - 1 ≤ p ∧ p ≤ x + 1) ∧ k ≤ k' ∧ k' ≤ k + 3 ∧ v = vi p ∧ Post = [rowF b o vi N f, cellsAt q 0 [vi k']]) := by
  refine Fun.intro low150 (by simp [F150]) ?_
  refine GO ?_
  refine st_call (median_int b o N c q f (x - 1) x (x + 1) k (by omega) (by omega) (by omega) (by omega)) (by rfl) (by (focus ((repeat (first | exact Spl.nil | (apply Spl.cons; (focus ((repeat (first | with_reducible exact Tk.here | apply Tk.there)); done))))); done))) (fun v Post hv => ?_)
  obtain ⟨p1, k1, e1, l1, u1, rfl, rfl⟩ := hv
  simp only [List.cons_append, List.nil_append]
  refine GO ?_
  refine ⟨.inr rfl, _, _, .tmp (by rfl) .nil, by (first | with_reducible exact Imp.refl | with_reducible exact Imp.left | (focus ((try simp only [List.nil_append]); (repeat (first | exact Imp.nil | (apply Imp.cons; (focus ((repeat (first | with_reducible exact Tk.here | apply Tk.there)); done))))); done))), ⟨p1, k1, by omega, by omega, by omega, rfl, rfl⟩⟩

theorem q4_int (l : Int) (h : 0 ≤ l ∧ l ≤ 140737488355328) : IntKind.i64.wrap (l.tdiv 4) = l / 4 := by
  rw [Int.tdiv_eq_ediv_of_nonneg (by omega)]; exact wrap64 (by omega)

theorem choose_int (b o N c : Nat) (f : Int → Int) (a z : Int) (h : 0 ≤ a ∧ a + 8 ≤ z ∧ z ≤ N) (hN : N ≤ 140737488355328) :
    Fun Tryz.prog 130 [slF_int b o N c, vi a, vi z] [rowF b o vi N f] (fun v Post => ∃ p t, (a ≤ p ∧ p < z) ∧ v = .tuple #[vi p, vi t] ∧ Post = [rowF b o vi N f]) := by
  refine Fun.intro low130 (by simp [F130]) ?_
  refine GO ?_
  refine st_alloc (fun q => ?_)
  refine GO ?_
  have w0 : IntKind.i64.wrap ((z - a) / 4) = (z - a) / 4 := wrap64 (by omega)
  have w1 : IntKind.i64.wrap ((z - a) / 4 * 2) = (z - a) / 4 * 2 := wrap64 (by omega)
  have w2 : IntKind.i64.wrap ((z - a) / 4 * 3) = (z - a) / 4 * 3 := wrap64 (by omega)
  have w3 : IntKind.i64.wrap (a + (z - a) / 4) = a + (z - a) / 4 := wrap64 (by omega)
  have w4 : IntKind.i64.wrap (a + (z - a) / 4 * 2) = a + (z - a) / 4 * 2 := wrap64 (by omega)
  have w5 : IntKind.i64.wrap (a + (z - a) / 4 * 3) = a + (z - a) / 4 * 3 := wrap64 (by omega)
  simp only [q4_int (z - a) (by omega), Int.mul_one, w0, w1, w2, w3, w4, w5]
  refine GO ?_
  by_cases h50 : 50 ≤ z - a
  · simp only [show (8 : Int) ≤ z - a by omega, decide_true]
    refine GO ?_
    simp only [h50, decide_true]
    refine GO ?_
    refine st_call (adjacent_int b o N c q f (a + (z - a) / 4) 0 (by omega) hN (by omega)) (by rfl) (by (focus ((repeat (first | exact Spl.nil | (apply Spl.cons; (focus ((repeat (first | with_reducible exact Tk.here | apply Tk.there)); done))))); done))) (fun v Post hv => ?_)
    obtain ⟨i1, k1, e1, l1, u1, rfl, rfl⟩ := hv
    simp only [List.cons_append, List.nil_append]
    refine GO ?_
    refine st_call (adjacent_int b o N c q f (a + (z - a) / 4 * 2) k1 (by omega) hN (by omega)) (by rfl) (by (focus ((repeat (first | exact Spl.nil | (apply Spl.cons; (focus ((repeat (first | with_reducible exact Tk.here | apply Tk.there)); done))))); done))) (fun v Post hv => ?_)
    obtain ⟨i2, k2, e2, l2, u2, rfl, rfl⟩ := hv
    simp only [List.cons_append, List.nil_append]
    refine GO ?_
    refine st_call (adjacent_int b o N c q f (a + (z - a) / 4 * 3) k2 (by omega) hN (by omega)) (by rfl) (by (focus ((repeat (first | exact Spl.nil | (apply Spl.cons; (focus ((repeat (first | with_reducible exact Tk.here | apply Tk.there)); done))))); done))) (fun v Post hv => ?_)
    obtain ⟨i3, k3, e3, l3, u3, rfl, rfl⟩ := hv
    simp only [List.cons_append, List.nil_append]
    refine GO ?_
    refine st_call (median_int b o N c q f i1 i2 i3 k3 (by omega) (by omega) (by omega) (by omega)) (by rfl) (by (focus ((repeat (first | exact Spl.nil | (apply Spl.cons; (focus ((repeat (first | with_reducible exact Tk.here | apply Tk.there)); done))))); done))) (fun v Post hv => ?_)
    obtain ⟨p, ks, e4, l4, u4, rfl, rfl⟩ := hv
    simp only [List.cons_append, List.nil_append]
    refine GO ?_
    by_cases s0 : ks = 0
    · simp only [s0, decide_true]
      refine GO ?_
      refine ⟨.inr rfl, _, _, .tmp (by rfl) (.tmp (by rfl) .nil), by (first | with_reducible exact Imp.refl | with_reducible exact Imp.left | (focus ((try simp only [List.nil_append]); (repeat (first | exact Imp.nil | (apply Imp.cons; (focus ((repeat (first | with_reducible exact Tk.here | apply Tk.there)); done))))); done))), ⟨p, _, by omega, rfl, rfl⟩⟩
    simp only [s0, decide_false]
    refine GO ?_
    by_cases s1 : ks = 12
    · simp only [s1, decide_true]
      refine GO ?_
      refine ⟨.inr rfl, _, _, .tmp (by rfl) (.tmp (by rfl) .nil), by (first | with_reducible exact Imp.refl | with_reducible exact Imp.left | (focus ((try simp only [List.nil_append]); (repeat (first | exact Imp.nil | (apply Imp.cons; (focus ((repeat (first | with_reducible exact Tk.here | apply Tk.there)); done))))); done))), ⟨p, _, by omega, rfl, rfl⟩⟩
    simp only [s1, decide_false]
    refine GO ?_
    refine ⟨.inr rfl, _, _, .tmp (by rfl) (.tmp (by rfl) .nil), by (first | with_reducible exact Imp.refl | with_reducible exact Imp.left | (focus ((try simp only [List.nil_append]); (repeat (first | exact Imp.nil | (apply Imp.cons; (focus ((repeat (first | with_reducible exact Tk.here | apply Tk.there)); done))))); done))), ⟨p, _, by omega, rfl, rfl⟩⟩
  · simp only [show (8 : Int) ≤ z - a by omega, decide_true]
    refine GO ?_
    simp only [h50, decide_false]
    refine GO ?_
    refine st_call (median_int b o N c q f (a + (z - a) / 4) (a + (z - a) / 4 * 2) (a + (z - a) / 4 * 3) 0 (by omega) (by omega) (by omega) (by omega)) (by rfl) (by (focus ((repeat (first | exact Spl.nil | (apply Spl.cons; (focus ((repeat (first | with_reducible exact Tk.here | apply Tk.there)); done))))); done))) (fun v Post hv => ?_)
    obtain ⟨p, ks, e4, l4, u4, rfl, rfl⟩ := hv
    simp only [List.cons_append, List.nil_append]
    refine GO ?_
    by_cases s0 : ks = 0
    · simp only [s0, decide_true]
      refine GO ?_
      refine ⟨.inr rfl, _, _, .tmp (by rfl) (.tmp (by rfl) .nil), by (first | with_reducible exact Imp.refl | with_reducible exact Imp.left | (focus ((try simp only [List.nil_append]); (repeat (first | exact Imp.nil | (apply Imp.cons; (focus ((repeat (first | with_reducible exact Tk.here | apply Tk.there)); done))))); done))), ⟨p, _, by omega, rfl, rfl⟩⟩
    simp only [s0, decide_false]
    refine GO ?_
    by_cases s1 : ks = 12
    · simp only [s1, decide_true]
      refine GO ?_
      refine ⟨.inr rfl, _, _, .tmp (by rfl) (.tmp (by rfl) .nil), by (first | with_reducible exact Imp.refl | with_reducible exact Imp.left | (focus ((try simp only [List.nil_append]); (repeat (first | exact Imp.nil | (apply Imp.cons; (focus ((repeat (first | with_reducible exact Tk.here | apply Tk.there)); done))))); done))), ⟨p, _, by omega, rfl, rfl⟩⟩
    simp only [s1, decide_false]
    refine GO ?_
    refine ⟨.inr rfl, _, _, .tmp (by rfl) (.tmp (by rfl) .nil), by (first | with_reducible exact Imp.refl | with_reducible exact Imp.left | (focus ((try simp only [List.nil_append]); (repeat (first | exact Imp.nil | (apply Imp.cons; (focus ((repeat (first | with_reducible exact Tk.here | apply Tk.there)); done))))); done))), ⟨p, _, by omega, rfl, rfl⟩⟩

theorem break_int (b o N c : Nat) (f : Int → Int) (a z : Int) (h : 0 ≤ a ∧ a ≤ z ∧ z ≤ N) (hN : N ≤ 1073741823) :
    Fun Tryz.prog 129 [slF_int b o N c, vi a, vi z] [rowF b o vi N f] (fun v Post => v = .tuple #[] ∧ ∃ g, Sw a z f g ∧ Post = [rowF b o vi N g]) := by
  refine Fun.intro low129 (by simp [F129]) ?_
  refine GO ?_
  by_cases h8 : 8 ≤ z - a
  rotate_left
  · simp only [h8, decide_false]
    refine GO ?_
    refine VC.skip ?_
    exact ⟨.inl rfl, _, _, .nil, by (first | with_reducible exact Imp.refl | with_reducible exact Imp.left | (focus ((try simp only [List.nil_append]); (repeat (first | exact Imp.nil | (apply Imp.cons; (focus ((repeat (first | with_reducible exact Tk.here | apply Tk.there)); done))))); done))), rfl, f, .refl, rfl⟩
  simp only [h8, decide_true]
  refine GO ?_
  refine st_alloc (fun q => ?_)
  refine GO ?_
  obtain ⟨L, hL⟩ : ∃ L : Nat, (L : Int) = z - a := ⟨(z - a).toNat, by omega⟩
  rw [← hL]
  refine st_call (nextpow L (by omega)) (by rfl) (R := [cellsAt q 0 [.int .u64 (IntKind.u64.wrap L)], rowF b o vi N f]) (by simp [V.Spl]) (fun v Post hv => ?_)
  obtain ⟨⟨m, m1, m2, rfl⟩, rfl⟩ := hv
  have w0 : IntKind.i64.wrap ((L : Int) / 4 * 2) = (L : Int) / 4 * 2 := wrap64 (by omega)
  have w1 : IntKind.i64.wrap (a + (L : Int) / 4 * 2) = a + (L : Int) / 4 * 2 := wrap64 (by omega)
  have w2 : IntKind.i64.wrap (a + (L : Int) / 4 * 2 - 1) = a + (L : Int) / 4 * 2 - 1 := wrap64 (by omega)
  have w3 : IntKind.i64.wrap (a + (L : Int) / 4 * 2 + 1) = a + (L : Int) / 4 * 2 + 1 := wrap64 (by omega)
  simp only [List.nil_append]
  refine GO ?_
  simp only [q4_int L (by omega), w0, w1, w2, w3]
  refine VC.loop (α := Int × Int × (Int → Int)) (Γf := fun y => [(0, slF_int b o N c), (1, vi a), (6, vi L), (7, ptr0 q), (8, .int .u64 m), (9, vi y.1)]) (Hf := fun y => [cellsAt q 0 [.int .u64 y.2.1], rowF b o vi N y.2.2])
    (I := fun y => a + (L : Int) / 4 * 2 - 1 ≤ y.1 ∧ y.1 ≤ a + (L : Int) / 4 * 2 + 2 ∧ Sw a z f y.2.2) (μ := fun y => (a + (L : Int) / 4 * 2 + 2 - y.1).toNat) (a + (L : Int) / 4 * 2 - 1, IntKind.u64.wrap L, f) ⟨by simp, by simp only; omega, .refl⟩ (by (repeat (first | exact Sub.nil | (apply Sub.cons; rfl)))) (by (first | with_reducible exact Imp.refl | with_reducible exact Imp.left | (focus ((try simp only [List.nil_append]); (repeat (first | exact Imp.nil | (apply Imp.cons; (focus ((repeat (first | with_reducible exact Tk.here | apply Tk.there)); done))))); done)))) ?_
  rintro ⟨i, x, g⟩ ⟨h1, h2, hsw⟩
  simp only at h1 h2 hsw
  refine GO ?_
  simp only [q4_int L (by omega), w0, w1, w2, w3]
  (first | (apply VC.seq_cond; rfl) | (apply VC.cond; rfl))
  · intro hlt
    have hlt : i ≤ a + (L : Int) / 4 * 2 + 1 := by simpa using hlt
    refine GO ?_
    refine st_call (next_spec q x) (by rfl) (by (focus ((repeat (first | exact Spl.nil | (apply Spl.cons; (focus ((repeat (first | with_reducible exact Tk.here | apply Tk.there)); done))))); done))) (fun v Post hv => ?_)
    obtain ⟨y, rfl, rfl⟩ := hv
    simp only [List.cons_append, List.nil_append]
    refine GO ?_
    have hm : IntKind.u64.wrap ((m : Int) - 1) = (m : Int) - 1 := by simp only [IntKind.wrap, IntKind.bits, IntKind.signed]; simp; omega
    rw [hm]
    have hand : ∃ t : Nat, t < m ∧ (BitVec.ofInt 64 y &&& BitVec.ofInt 64 ((m : Int) - 1)).toNat = t := by
      refine ⟨_, ?_, rfl⟩
      rw [BitVec.toNat_and]
      refine Nat.lt_of_le_of_lt Nat.and_le_right ?_
      rw [BitVec.toNat_ofInt]
      omega
    obtain ⟨t, t1, t2⟩ := hand
    have t3 : IntKind.i64.wrap (IntKind.u64.wrap (t : Int)) = t := by simp only [IntKind.wrap, IntKind.bits, IntKind.signed]; simp; omega
    rw [show IntKind.u64.bits = 64 from rfl, t2, t3]
    refine GO ?_
    by_cases ht : (L : Int) ≤ t
    · simp only [ht, decide_true]
      refine GOS ?_
      refine ⟨(i + 1, y, swp g i (a + ((t : Int) - L))), ⟨by simp only; omega, by simp only; omega, hsw.step (by omega) (by omega)⟩, by simp only; omega, by (repeat (first | exact Sub.nil | (apply Sub.cons; rfl))), by (first | with_reducible exact Imp.refl | with_reducible exact Imp.left | (focus ((try simp only [List.nil_append]); (repeat (first | exact Imp.nil | (apply Imp.cons; (focus ((repeat (first | with_reducible exact Tk.here | apply Tk.there)); done))))); done)))⟩
    · simp only [ht, decide_false]
      refine GOS ?_
      refine ⟨(i + 1, y, swp g i (a + (t : Int))), ⟨by simp only; omega, by simp only; omega, hsw.step (by omega) (by omega)⟩, by simp only; omega, by (repeat (first | exact Sub.nil | (apply Sub.cons; rfl))), by (first | with_reducible exact Imp.refl | with_reducible exact Imp.left | (focus ((try simp only [List.nil_append]); (repeat (first | exact Imp.nil | (apply Imp.cons; (focus ((repeat (first | with_reducible exact Tk.here | apply Tk.there)); done))))); done)))⟩
  · intro hge
    refine GO ?_
    exact ⟨.inl rfl, _, _, .nil, by (first | with_reducible exact Imp.refl | with_reducible exact Imp.left | (focus ((try simp only [List.nil_append]); (repeat (first | exact Imp.nil | (apply Imp.cons; (focus ((repeat (first | with_reducible exact Tk.here | apply Tk.there)); done))))); done))), rfl, g, hsw, rfl⟩
end Go.Proofs.YtklkngccaemjdaaGreat
namespace Go.Proofs.YtklkngccaemjdaaGreat
open Go Go.V
set_option maxHeartbeats 1600000
set_option maxRecDepth 100000
set_option linter.unusedSimpArgs false
set_option linter.unusedVariables false
theorem part_int (b o N c : Nat) (f : Int → Int) (a z p : Int) (h : 0 ≤ a ∧ z ≤ N) (hp : a ≤ p ∧ p < z) (hN : N ≤ 140737488355328) :
    Fun Tryz.prog 135 [slF_int b o N c, vi a, vi z, vi p] [rowF b o vi N f] (fun v Post => ∃ m t g, (a ≤ m ∧ m < z) ∧ Sw a z f g ∧ Parted ltI a z m g ∧ v = .tuple #[vi m, .bool t] ∧ Post = [rowF b o vi N g]) := by
  have hless := less_int
  refine Fun.intro low135 (by simp [F135]) ?_
  refine GOS ?_
  refine VC.loop (α := Int) (Γf := fun i => [(0, slF_int b o N c), (1, vi a), (10, vi i), (11, vi (z - 1))]) (Hf := fun i => [rowF b o vi N (swp f a p)])
    (I := fun i => PI ltI a z i (z - 1) (f p) (swp f a p)) (μ := fun i => (z - i).toNat) (a + 1) ?_ (by (repeat (first | exact Sub.nil | (apply Sub.cons; rfl)))) (by (first | with_reducible exact Imp.refl | with_reducible exact Imp.left | (focus ((try simp only [List.nil_append]); (repeat (first | exact Imp.nil | (apply Imp.cons; (focus ((repeat (first | with_reducible exact Tk.here | apply Tk.there)); done))))); done)))) ?_
  · refine ⟨?_, fun k k1 k2 => by omega, fun k k1 k2 => by omega, by omega, by omega, by omega⟩
    rw [swp_at]
    by_cases e : a = p
    · rw [if_pos e, e]
    · rw [if_neg e, if_pos rfl]
  have hsw : Sw a z f (swp f a p) := Sw.refl.step (by omega) (by omega)
  generalize swp f a p = g at hsw ⊢
  generalize f p = P
  intro i hI
  have i1 := hI.lo
  have i2 := hI.mid
  refine GO ?_
  by_cases hij : i ≤ z - 1
  · simp only [hij, decide_true]
    refine GOS ?_
    rw [hI.piv]
    cases hl : ltI (g i) P with
    | true =>
      refine GO ?_
      refine ⟨i + 1, hI.up hij hl, by omega, by (repeat (first | exact Sub.nil | (apply Sub.cons; rfl))), by (first | with_reducible exact Imp.refl | with_reducible exact Imp.left | (focus ((try simp only [List.nil_append]); (repeat (first | exact Imp.nil | (apply Imp.cons; (focus ((repeat (first | with_reducible exact Tk.here | apply Tk.there)); done))))); done)))⟩
    | false =>
      refine GO ?_
      refine VC.loop (α := Int) (Γf := fun j => [(0, slF_int b o N c), (1, vi a), (10, vi i), (11, vi j)]) (Hf := fun i => [rowF b o vi N g])
        (I := fun j => PI ltI a z i j P g) (μ := fun j => (j + 1).toNat) (z - 1) hI (by (repeat (first | exact Sub.nil | (apply Sub.cons; rfl)))) (by (first | with_reducible exact Imp.refl | with_reducible exact Imp.left | (focus ((try simp only [List.nil_append]); (repeat (first | exact Imp.nil | (apply Imp.cons; (focus ((repeat (first | with_reducible exact Tk.here | apply Tk.there)); done))))); done)))) ?_
      clear hI i2 hij
      intro j hI
      have i2 := hI.mid
      have i3 := hI.hi
      refine GO ?_
      by_cases hij : i ≤ j
      · simp only [hij, decide_true]
        refine GOS ?_
        rw [hI.piv]
        cases hl2 : ltI (g j) P with
        | false =>
          refine GO ?_
          refine ⟨j - 1, hI.down hij hl2, by omega, by (repeat (first | exact Sub.nil | (apply Sub.cons; rfl))), by (first | with_reducible exact Imp.refl | with_reducible exact Imp.left | (focus ((try simp only [List.nil_append]); (repeat (first | exact Imp.nil | (apply Imp.cons; (focus ((repeat (first | with_reducible exact Tk.here | apply Tk.there)); done))))); done)))⟩
        | true =>
          refine GO ?_
          simp only [show ¬ j < i by omega, decide_false]
          refine GOS ?_
          refine VC.loop (α := Int × Int × (Int → Int)) (Γf := fun y => [(0, slF_int b o N c), (1, vi a), (10, vi y.1), (11, vi y.2.1)]) (Hf := fun y => [rowF b o vi N y.2.2])
            (I := fun y => Sw a z f y.2.2 ∧ PI ltI a z y.1 y.2.1 P y.2.2) (μ := fun y => (y.2.1 + 1 - y.1).toNat) (i + 1, j - 1, swp g i j) ⟨hsw.step (by omega) (by omega), hI.swap hij hl hl2⟩ (by (repeat (first | exact Sub.nil | (apply Sub.cons; rfl)))) (by (first | with_reducible exact Imp.refl | with_reducible exact Imp.left | (focus ((try simp only [List.nil_append]); (repeat (first | exact Imp.nil | (apply Imp.cons; (focus ((repeat (first | with_reducible exact Tk.here | apply Tk.there)); done))))); done)))) ?_
          clear hsw hl hI hl2 hij i1 i2 i3 g i j
          rintro ⟨i0, j0, g⟩ ⟨hsw, hI0⟩
          simp only at hsw hI0
          refine GO ?_
          refine VC.loop (α := Int) (Γf := fun i => [(0, slF_int b o N c), (1, vi a), (10, vi i), (11, vi j0)]) (Hf := fun i => [rowF b o vi N g])
            (I := fun i => i0 ≤ i ∧ PI ltI a z i j0 P g) (μ := fun i => (z - i).toNat) i0 ⟨by omega, hI0⟩ (by (repeat (first | exact Sub.nil | (apply Sub.cons; rfl)))) (by (first | with_reducible exact Imp.refl | with_reducible exact Imp.left | (focus ((try simp only [List.nil_append]); (repeat (first | exact Imp.nil | (apply Imp.cons; (focus ((repeat (first | with_reducible exact Tk.here | apply Tk.there)); done))))); done)))) ?_
          rintro i ⟨ii, hI⟩
          have i1 := hI.lo
          have i2 := hI.mid
          have i3 := hI.hi
          refine GO ?_
          by_cases hij : i ≤ j0
          · simp only [hij, decide_true]
            refine GOS ?_
            rw [hI.piv]
            cases hl : ltI (g i) P with
            | true =>
              refine GO ?_
              refine ⟨i + 1, ⟨by omega, hI.up hij hl⟩, by omega, by (repeat (first | exact Sub.nil | (apply Sub.cons; rfl))), by (first | with_reducible exact Imp.refl | with_reducible exact Imp.left | (focus ((try simp only [List.nil_append]); (repeat (first | exact Imp.nil | (apply Imp.cons; (focus ((repeat (first | with_reducible exact Tk.here | apply Tk.there)); done))))); done)))⟩
            | false =>
              refine GO ?_
              refine VC.loop (α := Int) (Γf := fun j => [(0, slF_int b o N c), (1, vi a), (10, vi i), (11, vi j)]) (Hf := fun i => [rowF b o vi N g])
                (I := fun j => j ≤ j0 ∧ PI ltI a z i j P g) (μ := fun j => (j + 1).toNat) j0 ⟨by omega, hI⟩ (by (repeat (first | exact Sub.nil | (apply Sub.cons; rfl)))) (by (first | with_reducible exact Imp.refl | with_reducible exact Imp.left | (focus ((try simp only [List.nil_append]); (repeat (first | exact Imp.nil | (apply Imp.cons; (focus ((repeat (first | with_reducible exact Tk.here | apply Tk.there)); done))))); done)))) ?_
              clear hI i2 hij i3
              rintro j ⟨jj, hI⟩
              have i2 := hI.mid
              have i3 := hI.hi
              refine GO ?_
              by_cases hij : i ≤ j
              · simp only [hij, decide_true]
                refine GOS ?_
                rw [hI.piv]
                cases hl2 : ltI (g j) P with
                | false =>
                  refine GO ?_
                  refine ⟨j - 1, ⟨by omega, hI.down hij hl2⟩, by omega, by (repeat (first | exact Sub.nil | (apply Sub.cons; rfl))), by (first | with_reducible exact Imp.refl | with_reducible exact Imp.left | (focus ((try simp only [List.nil_append]); (repeat (first | exact Imp.nil | (apply Imp.cons; (focus ((repeat (first | with_reducible exact Tk.here | apply Tk.there)); done))))); done)))⟩
                | true =>
                  refine GO ?_
                  simp only [show ¬ j < i by omega, decide_false]
                  refine GOS ?_
                  refine ⟨(i + 1, j - 1, swp g i j), ⟨hsw.step (by omega) (by omega), hI.swap hij hl hl2⟩, by simp only; omega, by (repeat (first | exact Sub.nil | (apply Sub.cons; rfl))), by (first | with_reducible exact Imp.refl | with_reducible exact Imp.left | (focus ((try simp only [List.nil_append]); (repeat (first | exact Imp.nil | (apply Imp.cons; (focus ((repeat (first | with_reducible exact Tk.here | apply Tk.there)); done))))); done)))⟩
              · obtain rfl : i = j + 1 := by omega
                simp only [hij, decide_false]
                refine GO ?_
                simp only [show j < j + 1 by omega, decide_true]
                refine GOS ?_
                refine ⟨.inr rfl, _, _, .tmp (by rfl) (.tmp (by rfl) .nil), by (first | with_reducible exact Imp.refl | with_reducible exact Imp.left | (focus ((try simp only [List.nil_append]); (repeat (first | exact Imp.nil | (apply Imp.cons; (focus ((repeat (first | with_reducible exact Tk.here | apply Tk.there)); done))))); done))), ⟨j, false, swp g j a, by omega, hsw.step (by omega) (by omega), hI.done, rfl, rfl⟩⟩
          · obtain rfl : i = j0 + 1 := by omega
            simp only [hij, decide_false]
            refine GO ?_
            refine VC.loop (α := Int) (Γf := fun j => [(0, slF_int b o N c), (1, vi a), (10, vi (j0 + 1)), (11, vi j)]) (Hf := fun i => [rowF b o vi N g])
              (I := fun j => j = j0) (μ := fun j => 0) j0 rfl (by (repeat (first | exact Sub.nil | (apply Sub.cons; rfl)))) (by (first | with_reducible exact Imp.refl | with_reducible exact Imp.left | (focus ((try simp only [List.nil_append]); (repeat (first | exact Imp.nil | (apply Imp.cons; (focus ((repeat (first | with_reducible exact Tk.here | apply Tk.there)); done))))); done)))) ?_
            rintro j rfl
            refine GO ?_
            simp only [hij, decide_false]
            refine GO ?_
            simp only [show j < j + 1 by omega, decide_true]
            refine GOS ?_
            refine ⟨.inr rfl, _, _, .tmp (by rfl) (.tmp (by rfl) .nil), by (first | with_reducible exact Imp.refl | with_reducible exact Imp.left | (focus ((try simp only [List.nil_append]); (repeat (first | exact Imp.nil | (apply Imp.cons; (focus ((repeat (first | with_reducible exact Tk.here | apply Tk.there)); done))))); done))), ⟨j, false, swp g j a, by omega, hsw.step (by omega) (by omega), hI.done, rfl, rfl⟩⟩
      · obtain rfl : i = j + 1 := by omega
        simp only [hij, decide_false]
        refine GO ?_
        simp only [show j < j + 1 by omega, decide_true]
        refine GOS ?_
        refine ⟨.inr rfl, _, _, .tmp (by rfl) (.tmp (by rfl) .nil), by (first | with_reducible exact Imp.refl | with_reducible exact Imp.left | (focus ((try simp only [List.nil_append]); (repeat (first | exact Imp.nil | (apply Imp.cons; (focus ((repeat (first | with_reducible exact Tk.here | apply Tk.there)); done))))); done))), ⟨j, true, swp g j a, by omega, hsw.step (by omega) (by omega), hI.done, rfl, rfl⟩⟩
  · obtain rfl : i = z := by omega
    simp only [hij, decide_false]
    refine GO ?_
    refine VC.loop (α := Int) (Γf := fun j => [(0, slF_int b o N c), (1, vi a), (10, vi i), (11, vi j)]) (Hf := fun _ => [rowF b o vi N g])
      (I := fun j => j = i - 1) (μ := fun j => 0) (i - 1) rfl (by (repeat (first | exact Sub.nil | (apply Sub.cons; rfl)))) (by (first | with_reducible exact Imp.refl | with_reducible exact Imp.left | (focus ((try simp only [List.nil_append]); (repeat (first | exact Imp.nil | (apply Imp.cons; (focus ((repeat (first | with_reducible exact Tk.here | apply Tk.there)); done))))); done)))) ?_
    rintro j rfl
    refine GO ?_
    simp only [hij, decide_false]
    refine GO ?_
    simp only [show i - 1 < i by omega, decide_true]
    refine GOS ?_
    refine ⟨.inr rfl, _, _, .tmp (by rfl) (.tmp (by rfl) .nil), by (first | with_reducible exact Imp.refl | with_reducible exact Imp.left | (focus ((try simp only [List.nil_append]); (repeat (first | exact Imp.nil | (apply Imp.cons; (focus ((repeat (first | with_reducible exact Tk.here | apply Tk.there)); done))))); done))), ⟨i - 1, true, swp g (i - 1) a, by omega, hsw.step (by omega) (by omega), ?_, rfl, rfl⟩⟩
    have hI' : PI ltI a i (i - 1 + 1) (i - 1) P g := by rw [Int.sub_add_cancel]; exact hI
    exact hI'.done
end Go.Proofs.YtklkngccaemjdaaGreat
namespace Go.Proofs.YtklkngccaemjdaaGreat
open Go Go.V
set_option maxHeartbeats 1600000
set_option maxRecDepth 100000
set_option linter.unusedSimpArgs false
set_option linter.unusedVariables false
theorem partial_int (b o N c : Nat) (f : Int → Int) (a z : Int) (h : 0 ≤ a ∧ a < z ∧ z ≤ N) (hN : N ≤ 140737488355328) (hlo : Lo ltI a z f) :
    Fun Tryz.prog 132 [slF_int b o N c, vi a, vi z] [rowF b o vi N f] (fun v Post => ∃ t g, Sw a z f g ∧ (t = true → Srt ltI a z g) ∧ v = .bool t ∧ Post = [rowF b o vi N g]) := by
  have hless := less_int
  refine Fun.intro low132 (by simp [F132]) ?_
  refine GO ?_
  refine VC.loop (α := Int × Int × (Int → Int)) (Γf := fun y => [(0, slF_int b o N c), (1, vi a), (2, vi z), (7, vi y.2.1), (8, vi y.1)]) (Hf := fun y => [rowF b o vi N y.2.2])
    (I := fun y => 0 ≤ y.1 ∧ y.1 ≤ 5 ∧ a + 1 ≤ y.2.1 ∧ y.2.1 ≤ z ∧ Sw a z f y.2.2 ∧ Srt ltI a y.2.1 y.2.2) (μ := fun y => (5 - y.1).toNat) (0, a + 1, f) ⟨by simp, by simp, by simp, by simp only; omega, .refl, fun p q h1 h2 h3 => by simp only at h3; omega⟩ (by (repeat (first | exact Sub.nil | (apply Sub.cons; rfl)))) (by (first | with_reducible exact Imp.refl | with_reducible exact Imp.left | (focus ((try simp only [List.nil_append]); (repeat (first | exact Imp.nil | (apply Imp.cons; (focus ((repeat (first | with_reducible exact Tk.here | apply Tk.there)); done))))); done)))) ?_
  rintro ⟨j, i, g⟩ ⟨hj1, hj2, hi1, hi2, hsw, hsrt⟩
  simp only at hj1 hj2 hi1 hi2 hsw hsrt
  refine GO ?_
  by_cases hj : j < 5
  rotate_left
  · simp only [hj, decide_false]
    refine GO ?_
    exact ⟨.inr rfl, _, _, .tmp (by rfl) .nil, by (first | with_reducible exact Imp.refl | with_reducible exact Imp.left | (focus ((try simp only [List.nil_append]); (repeat (first | exact Imp.nil | (apply Imp.cons; (focus ((repeat (first | with_reducible exact Tk.here | apply Tk.there)); done))))); done))), ⟨false, g, hsw, fun e => by (cases e), rfl, rfl⟩⟩
  simp only [hj, decide_true]
  refine GO ?_
  refine VC.loop (α := Int) (Γf := fun i => [(0, slF_int b o N c), (1, vi a), (2, vi z), (7, vi i), (8, vi j)]) (Hf := fun _ => [rowF b o vi N g])
    (I := fun i => a + 1 ≤ i ∧ i ≤ z ∧ Srt ltI a i g) (μ := fun i => (z - i).toNat) i ⟨hi1, hi2, hsrt⟩ (by (repeat (first | exact Sub.nil | (apply Sub.cons; rfl)))) (by (first | with_reducible exact Imp.refl | with_reducible exact Imp.left | (focus ((try simp only [List.nil_append]); (repeat (first | exact Imp.nil | (apply Imp.cons; (focus ((repeat (first | with_reducible exact Tk.here | apply Tk.there)); done))))); done)))) ?_
  clear hi1 hi2 hsrt i
  rintro i ⟨hi1, hi2, hsrt⟩
  refine GO ?_
  by_cases hiz : i < z
  rotate_left
  · obtain rfl : i = z := by omega
    simp only [hiz, decide_false]
    refine GO ?_
    try simp only [eq_self, decide_true]
    refine GO ?_
    exact ⟨.inr rfl, _, _, .tmp (by rfl) .nil, by (first | with_reducible exact Imp.refl | with_reducible exact Imp.left | (focus ((try simp only [List.nil_append]); (repeat (first | exact Imp.nil | (apply Imp.cons; (focus ((repeat (first | with_reducible exact Tk.here | apply Tk.there)); done))))); done))), ⟨true, g, hsw, fun _ => hsrt, rfl, rfl⟩⟩
  simp only [hiz, decide_true]
  refine GOS ?_
  cases hl : ltI (g i) (g (i - 1)) with
  | false =>
    refine GO ?_
    refine ⟨i + 1, ⟨by omega, by omega, ?_⟩, by omega, by (repeat (first | exact Sub.nil | (apply Sub.cons; rfl))), by (first | with_reducible exact Imp.refl | with_reducible exact Imp.left | (focus ((try simp only [List.nil_append]); (repeat (first | exact Imp.nil | (apply Imp.cons; (focus ((repeat (first | with_reducible exact Tk.here | apply Tk.there)); done))))); done)))⟩
    exact (InsI.start hsrt).stop ltI_ok hl (by omega)
  | true =>
    refine GO ?_
    simp only [show ¬ i = z by omega, decide_false]
    refine GO ?_
    by_cases h50 : z - a < 50
    · simp only [h50, decide_true]
      refine GO ?_
      exact ⟨.inr rfl, _, _, .tmp (by rfl) .nil, by (first | with_reducible exact Imp.refl | with_reducible exact Imp.left | (focus ((try simp only [List.nil_append]); (repeat (first | exact Imp.nil | (apply Imp.cons; (focus ((repeat (first | with_reducible exact Tk.here | apply Tk.there)); done))))); done))), ⟨false, g, hsw, fun e => by (cases e), rfl, rfl⟩⟩
    simp only [h50, decide_false]
    refine GOS ?_
    have hsw1 : Sw a z f (upd (upd g i (g (i - 1))) (i - 1) (g i)) := hsw.step (by omega) (by omega)
    have hsrt1 : Srt ltI a (i - 1) (upd (upd g i (g (i - 1))) (i - 1) (g i)) := by
      intro p q h1 h2 h3
      show ltI (swp g i (i - 1) q) (swp g i (i - 1) p) = false
      rw [swp_at, swp_at, if_neg (by omega), if_neg (by omega), if_neg (by omega), if_neg (by omega)]
      exact hsrt p q h1 h2 (by omega)
    generalize (upd (upd g i (g (i - 1))) (i - 1) (g i)) = g at hsw1 hsrt1 ⊢
    clear hsw hsrt hl
    by_cases hl2 : 2 ≤ i - a
    · simp only [hl2, decide_true]
      refine GO ?_
      refine VC.loop (α := Int × (Int → Int)) (Γf := fun y => [(0, slF_int b o N c), (1, vi a), (2, vi z), (7, vi i), (8, vi j), (9, vi y.1)]) (Hf := fun y => [rowF b o vi N y.2])
        (I := fun y => a ≤ y.1 ∧ y.1 ≤ i - 1 ∧ Sw a z f y.2 ∧ InsI ltI a (i - 1) y.1 y.2) (μ := fun y => y.1.toNat) (i - 1, g) ⟨by simp only; omega, by simp, hsw1, .start hsrt1⟩ (by (repeat (first | exact Sub.nil | (apply Sub.cons; rfl)))) (by (first | with_reducible exact Imp.refl | with_reducible exact Imp.left | (focus ((try simp only [List.nil_append]); (repeat (first | exact Imp.nil | (apply Imp.cons; (focus ((repeat (first | with_reducible exact Tk.here | apply Tk.there)); done))))); done)))) ?_
      clear hsw1 hsrt1 g
      rintro ⟨k, g⟩ ⟨hk1, hk2, hsw, hins⟩
      simp only at hk1 hk2 hsw hins
      refine GO ?_
      by_cases hk : 1 ≤ k
      · simp only [hk, decide_true]
        refine GOS ?_
        cases hl : ltI (g k) (g (k - 1)) with
        | true =>
          have hak : a < k := by
            by_cases e : k = a
            · subst e
              rw [(hlo.sw hsw) (by omega) k (by omega) (by omega)] at hl; cases hl
            · omega
          refine GOS ?_
          refine ⟨(k - 1, swp g k (k - 1)), ⟨by simp only; omega, by simp only; omega, hsw.step (by omega) (by omega), hins.swap ltI_ok hl hak hk2⟩, by simp only; omega, by (repeat (first | exact Sub.nil | (apply Sub.cons; rfl))), by (first | with_reducible exact Imp.refl | with_reducible exact Imp.left | (focus ((try simp only [List.nil_append]); (repeat (first | exact Imp.nil | (apply Imp.cons; (focus ((repeat (first | with_reducible exact Tk.here | apply Tk.there)); done))))); done)))⟩
        | false =>
          have hsrt : Srt ltI a i g := by have := hins.stop ltI_ok hl hk2; rwa [Int.sub_add_cancel] at this
          refine GO ?_
          by_cases hr : 2 ≤ z - i
          · simp only [hr, decide_true]
            refine GO ?_
            refine VC.loop (α := Int × (Int → Int)) (Γf := fun y => [(0, slF_int b o N c), (1, vi a), (2, vi z), (7, vi i), (8, vi j), (10, vi y.1)]) (Hf := fun y => [rowF b o vi N y.2])
              (I := fun y => i + 1 ≤ y.1 ∧ y.1 ≤ z ∧ Sw a z f y.2 ∧ Srt ltI a i y.2) (μ := fun y => (z - y.1).toNat) (i + 1, g) ⟨by simp, by simp only; omega, hsw, hsrt⟩ (by (repeat (first | exact Sub.nil | (apply Sub.cons; rfl)))) (by (first | with_reducible exact Imp.refl | with_reducible exact Imp.left | (focus ((try simp only [List.nil_append]); (repeat (first | exact Imp.nil | (apply Imp.cons; (focus ((repeat (first | with_reducible exact Tk.here | apply Tk.there)); done))))); done)))) ?_
            rintro ⟨w, G⟩ ⟨hw1, hw2, hSW, hSRT⟩
            simp only at hw1 hw2 hSW hSRT
            refine GO ?_
            (first | (apply VC.seq_cond; rfl) | (apply VC.cond; rfl))
            · intro hlt
              have hlt : w < z := by simpa using hlt
              refine GOS ?_
              cases hl : ltI (G w) (G (w - 1)) with
              | false =>
                refine GO ?_
                refine ⟨(j + 1, i, G), ⟨by simp only; omega, by simp only; omega, by simp only; omega, by simp only; omega, hSW, hSRT⟩, by simp only; omega, by (repeat (first | exact Sub.nil | (apply Sub.cons; rfl))), by (first | with_reducible exact Imp.refl | with_reducible exact Imp.left | (focus ((try simp only [List.nil_append]); (repeat (first | exact Imp.nil | (apply Imp.cons; (focus ((repeat (first | with_reducible exact Tk.here | apply Tk.there)); done))))); done)))⟩
              | true =>
                refine GOS ?_
                refine ⟨(w + 1, swp G w (w - 1)), ⟨by simp only; omega, by simp only; omega, hSW.step (by omega) (by omega), fun p q h1 h2 h3 => ?_⟩, by simp only; omega, by (repeat (first | exact Sub.nil | (apply Sub.cons; rfl))), by (first | with_reducible exact Imp.refl | with_reducible exact Imp.left | (focus ((try simp only [List.nil_append]); (repeat (first | exact Imp.nil | (apply Imp.cons; (focus ((repeat (first | with_reducible exact Tk.here | apply Tk.there)); done))))); done)))⟩
                show ltI (swp G w (w - 1) q) (swp G w (w - 1) p) = false
                rw [swp_at, swp_at, if_neg (by omega), if_neg (by omega), if_neg (by omega), if_neg (by omega)]
                exact hSRT p q h1 h2 h3
            · intro hge
              refine GO ?_
              refine ⟨(j + 1, i, G), ⟨by simp only; omega, by simp only; omega, by simp only; omega, by simp only; omega, hSW, hSRT⟩, by simp only; omega, by (repeat (first | exact Sub.nil | (apply Sub.cons; rfl))), by (first | with_reducible exact Imp.refl | with_reducible exact Imp.left | (focus ((try simp only [List.nil_append]); (repeat (first | exact Imp.nil | (apply Imp.cons; (focus ((repeat (first | with_reducible exact Tk.here | apply Tk.there)); done))))); done)))⟩
          · simp only [hr, decide_false]
            refine GO ?_
            refine ⟨(j + 1, i, g), ⟨by simp only; omega, by simp only; omega, by simp only; omega, by simp only; omega, hsw, hsrt⟩, by simp only; omega, by (repeat (first | exact Sub.nil | (apply Sub.cons; rfl))), by (first | with_reducible exact Imp.refl | with_reducible exact Imp.left | (focus ((try simp only [List.nil_append]); (repeat (first | exact Imp.nil | (apply Imp.cons; (focus ((repeat (first | with_reducible exact Tk.here | apply Tk.there)); done))))); done)))⟩
      · obtain rfl : a = k := by omega
        have hsrt : Srt ltI a i g := by have := hins.first; rwa [Int.sub_add_cancel] at this
        simp only [hk, decide_false]
        refine GO ?_
        by_cases hr : 2 ≤ z - i
        · simp only [hr, decide_true]
          refine GO ?_
          refine VC.loop (α := Int × (Int → Int)) (Γf := fun y => [(0, slF_int b o N c), (1, vi a), (2, vi z), (7, vi i), (8, vi j), (10, vi y.1)]) (Hf := fun y => [rowF b o vi N y.2])
            (I := fun y => i + 1 ≤ y.1 ∧ y.1 ≤ z ∧ Sw a z f y.2 ∧ Srt ltI a i y.2) (μ := fun y => (z - y.1).toNat) (i + 1, g) ⟨by simp, by simp only; omega, hsw, hsrt⟩ (by (repeat (first | exact Sub.nil | (apply Sub.cons; rfl)))) (by (first | with_reducible exact Imp.refl | with_reducible exact Imp.left | (focus ((try simp only [List.nil_append]); (repeat (first | exact Imp.nil | (apply Imp.cons; (focus ((repeat (first | with_reducible exact Tk.here | apply Tk.there)); done))))); done)))) ?_
          rintro ⟨w, G⟩ ⟨hw1, hw2, hSW, hSRT⟩
          simp only at hw1 hw2 hSW hSRT
          refine GO ?_
          (first | (apply VC.seq_cond; rfl) | (apply VC.cond; rfl))
          · intro hlt
            have hlt : w < z := by simpa using hlt
            refine GOS ?_
            cases hl : ltI (G w) (G (w - 1)) with
            | false =>
              refine GO ?_
              refine ⟨(j + 1, i, G), ⟨by simp only; omega, by simp only; omega, by simp only; omega, by simp only; omega, hSW, hSRT⟩, by simp only; omega, by (repeat (first | exact Sub.nil | (apply Sub.cons; rfl))), by (first | with_reducible exact Imp.refl | with_reducible exact Imp.left | (focus ((try simp only [List.nil_append]); (repeat (first | exact Imp.nil | (apply Imp.cons; (focus ((repeat (first | with_reducible exact Tk.here | apply Tk.there)); done))))); done)))⟩
            | true =>
              refine GOS ?_
              refine ⟨(w + 1, swp G w (w - 1)), ⟨by simp only; omega, by simp only; omega, hSW.step (by omega) (by omega), fun p q h1 h2 h3 => ?_⟩, by simp only; omega, by (repeat (first | exact Sub.nil | (apply Sub.cons; rfl))), by (first | with_reducible exact Imp.refl | with_reducible exact Imp.left | (focus ((try simp only [List.nil_append]); (repeat (first | exact Imp.nil | (apply Imp.cons; (focus ((repeat (first | with_reducible exact Tk.here | apply Tk.there)); done))))); done)))⟩
              show ltI (swp G w (w - 1) q) (swp G w (w - 1) p) = false
              rw [swp_at, swp_at, if_neg (by omega), if_neg (by omega), if_neg (by omega), if_neg (by omega)]
              exact hSRT p q h1 h2 h3
          · intro hge
            refine GO ?_
            refine ⟨(j + 1, i, G), ⟨by simp only; omega, by simp only; omega, by simp only; omega, by simp only; omega, hSW, hSRT⟩, by simp only; omega, by (repeat (first | exact Sub.nil | (apply Sub.cons; rfl))), by (first | with_reducible exact Imp.refl | with_reducible exact Imp.left | (focus ((try simp only [List.nil_append]); (repeat (first | exact Imp.nil | (apply Imp.cons; (focus ((repeat (first | with_reducible exact Tk.here | apply Tk.there)); done))))); done)))⟩
        · simp only [hr, decide_false]
          refine GO ?_
          refine ⟨(j + 1, i, g), ⟨by simp only; omega, by simp only; omega, by simp only; omega, by simp only; omega, hsw, hsrt⟩, by simp only; omega, by (repeat (first | exact Sub.nil | (apply Sub.cons; rfl))), by (first | with_reducible exact Imp.refl | with_reducible exact Imp.left | (focus ((try simp only [List.nil_append]); (repeat (first | exact Imp.nil | (apply Imp.cons; (focus ((repeat (first | with_reducible exact Tk.here | apply Tk.there)); done))))); done)))⟩
    · simp only [hl2, decide_false]
      have hsrt : Srt ltI a i g := fun p q h1 h2 h3 => by omega
      have hsw := hsw1
      clear hsw1 hsrt1
      refine GO ?_
      by_cases hr : 2 ≤ z - i
      · simp only [hr, decide_true]
        refine GO ?_
        refine VC.loop (α := Int × (Int → Int)) (Γf := fun y => [(0, slF_int b o N c), (1, vi a), (2, vi z), (7, vi i), (8, vi j), (10, vi y.1)]) (Hf := fun y => [rowF b o vi N y.2])
          (I := fun y => i + 1 ≤ y.1 ∧ y.1 ≤ z ∧ Sw a z f y.2 ∧ Srt ltI a i y.2) (μ := fun y => (z - y.1).toNat) (i + 1, g) ⟨by simp, by simp only; omega, hsw, hsrt⟩ (by (repeat (first | exact Sub.nil | (apply Sub.cons; rfl)))) (by (first | with_reducible exact Imp.refl | with_reducible exact Imp.left | (focus ((try simp only [List.nil_append]); (repeat (first | exact Imp.nil | (apply Imp.cons; (focus ((repeat (first | with_reducible exact Tk.here | apply Tk.there)); done))))); done)))) ?_
        rintro ⟨w, G⟩ ⟨hw1, hw2, hSW, hSRT⟩
        simp only at hw1 hw2 hSW hSRT
        refine GO ?_
        (first | (apply VC.seq_cond; rfl) | (apply VC.cond; rfl))
        · intro hlt
          have hlt : w < z := by simpa using hlt
          refine GOS ?_
          cases hl : ltI (G w) (G (w - 1)) with
          | false =>
            refine GO ?_
            refine ⟨(j + 1, i, G), ⟨by simp only; omega, by simp only; omega, by simp only; omega, by simp only; omega, hSW, hSRT⟩, by simp only; omega, by (repeat (first | exact Sub.nil | (apply Sub.cons; rfl))), by (first | with_reducible exact Imp.refl | with_reducible exact Imp.left | (focus ((try simp only [List.nil_append]); (repeat (first | exact Imp.nil | (apply Imp.cons; (focus ((repeat (first | with_reducible exact Tk.here | apply Tk.there)); done))))); done)))⟩
          | true =>
            refine GOS ?_
            refine ⟨(w + 1, swp G w (w - 1)), ⟨by simp only; omega, by simp only; omega, hSW.step (by omega) (by omega), fun p q h1 h2 h3 => ?_⟩, by simp only; omega, by (repeat (first | exact Sub.nil | (apply Sub.cons; rfl))), by (first | with_reducible exact Imp.refl | with_reducible exact Imp.left | (focus ((try simp only [List.nil_append]); (repeat (first | exact Imp.nil | (apply Imp.cons; (focus ((repeat (first | with_reducible exact Tk.here | apply Tk.there)); done))))); done)))⟩
            show ltI (swp G w (w - 1) q) (swp G w (w - 1) p) = false
            rw [swp_at, swp_at, if_neg (by omega), if_neg (by omega), if_neg (by omega), if_neg (by omega)]
            exact hSRT p q h1 h2 h3
        · intro hge
          refine GO ?_
          refine ⟨(j + 1, i, G), ⟨by simp only; omega, by simp only; omega, by simp only; omega, by simp only; omega, hSW, hSRT⟩, by simp only; omega, by (repeat (first | exact Sub.nil | (apply Sub.cons; rfl))), by (first | with_reducible exact Imp.refl | with_reducible exact Imp.left | (focus ((try simp only [List.nil_append]); (repeat (first | exact Imp.nil | (apply Imp.cons; (focus ((repeat (first | with_reducible exact Tk.here | apply Tk.there)); done))))); done)))⟩
      · simp only [hr, decide_false]
        refine GO ?_
        refine ⟨(j + 1, i, g), ⟨by simp only; omega, by simp only; omega, by simp only; omega, by simp only; omega, hsw, hsrt⟩, by simp only; omega, by (repeat (first | exact Sub.nil | (apply Sub.cons; rfl))), by (first | with_reducible exact Imp.refl | with_reducible exact Imp.left | (focus ((try simp only [List.nil_append]); (repeat (first | exact Imp.nil | (apply Imp.cons; (focus ((repeat (first | with_reducible exact Tk.here | apply Tk.there)); done))))); done)))⟩
end Go.Proofs.YtklkngccaemjdaaGreat
namespace Go.Proofs.YtklkngccaemjdaaGreat
open Go Go.V
set_option maxHeartbeats 3200000
set_option maxRecDepth 100000
set_option linter.unusedSimpArgs false
set_option linter.unusedVariables false
theorem pdq_int (b o N c : Nat) (hN : N ≤ 1073741823) : ∀ (d : Nat) (f : Int → Int) (a z l : Int), z - a ≤ d → 0 ≤ a ∧ a ≤ z ∧ z ≤ N → 0 ≤ l ∧ l ≤ 64 → Lo ltI a z f → Inj N f →
    Fun Tryz.prog 120 [slF_int b o N c, vi a, vi z, vi l] [rowF b o vi N f] (fun v Post => v = .tuple #[] ∧ ∃ g, Sw a z f g ∧ Srt ltI a z g ∧ Post = [rowF b o vi N g]) := by
  intro d
  induction d using Nat.strongRecOn with
  | _ d ih =>
  intro f a z l hd h hl hlo hinj
  have hless := less_int
  refine Fun.intro low120 (by simp [F120]) ?_
  refine GO ?_
  refine VC.loop (α := Int × Int × Int × Bool × Bool × (Int → Int)) (Γf := fun s => [(0, slF_int b o N c), (1, vi s.1), (2, vi s.2.1), (3, vi s.2.2.1), (8, .bool s.2.2.2.1), (9, .bool s.2.2.2.2.1)]) (Hf := fun s => [rowF b o vi N s.2.2.2.2.2])
    (I := fun s => (a ≤ s.1 ∧ s.1 ≤ s.2.1 ∧ s.2.1 ≤ z ∧ 0 ≤ s.2.2.1 ∧ s.2.2.1 ≤ 64) ∧ Sw a z f s.2.2.2.2.2 ∧ But ltI a z s.1 s.2.1 s.2.2.2.2.2) (μ := fun s => (s.2.1 - s.1).toNat)
    (a, z, l, true, true, f) ⟨⟨by simp, by simp only; omega, by simp, hl.1, hl.2⟩, .refl, .start⟩ (by (repeat (first | exact Sub.nil | (apply Sub.cons; rfl)))) (by (first | with_reducible exact Imp.refl | with_reducible exact Imp.left | (focus ((try simp only [List.nil_append]); (repeat (first | exact Imp.nil | (apply Imp.cons; (focus ((repeat (first | with_reducible exact Tk.here | apply Tk.there)); done))))); done)))) ?_
  clear hl l
  rintro ⟨x, y, l, wb, wp, g⟩ ⟨⟨hx1, hxy, hy1, hl0, hl1⟩, hsw, hbut⟩
  simp only at hx1 hxy hy1 hl0 hl1 hsw hbut
  dsimp only
  refine GO ?_
  by_cases h12 : y - x ≤ 12
  · simp only [h12, decide_true]
    refine GO ?_
    refine st_call (insert_int b o N c g x y (by omega) (by omega)) (by rfl) (by (focus ((repeat (first | exact Spl.nil | (apply Spl.cons; (focus ((repeat (first | with_reducible exact Tk.here | apply Tk.there)); done))))); done))) (fun v Post hv => ?_)
    obtain ⟨rfl, g1, s1, r1, rfl⟩ := hv
    simp only [List.cons_append, List.nil_append]
    refine GO ?_
    exact ⟨.inr rfl, _, _, .nil, by (first | with_reducible exact Imp.refl | with_reducible exact Imp.left | (focus ((try simp only [List.nil_append]); (repeat (first | exact Imp.nil | (apply Imp.cons; (focus ((repeat (first | with_reducible exact Tk.here | apply Tk.there)); done))))); done))), rfl, g1, hsw.trans (s1.wide hx1 hy1), (hbut.sw s1 hx1 hy1).done r1, rfl⟩
  simp only [h12, decide_false]
  refine GO ?_
  by_cases hl2 : l = 0
  · simp only [hl2, decide_true]
    refine GO ?_
    refine st_call (heap_int b o N c g x y (by omega) (by omega)) (by rfl) (by (focus ((repeat (first | exact Spl.nil | (apply Spl.cons; (focus ((repeat (first | with_reducible exact Tk.here | apply Tk.there)); done))))); done))) (fun v Post hv => ?_)
    obtain ⟨rfl, g1, s1, r1, rfl⟩ := hv
    simp only [List.cons_append, List.nil_append]
    refine GO ?_
    exact ⟨.inr rfl, _, _, .nil, by (first | with_reducible exact Imp.refl | with_reducible exact Imp.left | (focus ((try simp only [List.nil_append]); (repeat (first | exact Imp.nil | (apply Imp.cons; (focus ((repeat (first | with_reducible exact Tk.here | apply Tk.there)); done))))); done))), rfl, g1, hsw.trans (s1.wide hx1 hy1), (hbut.sw s1 hx1 hy1).done r1, rfl⟩
  simp only [hl2, decide_false]
  refine GO ?_
  refine VC.meet (α := Int × (Int → Int)) (fun s => [(0, slF_int b o N c), (1, vi x), (2, vi y), (3, vi s.1), (8, .bool wb), (9, .bool wp), (10, vi (y - x))]) (fun s => [rowF b o vi N s.2]) (fun s => 0 ≤ s.1 ∧ s.1 ≤ 64 ∧ Sw a z f s.2 ∧ But ltI a z x y s.2) ?_ ?_
  · cases wb with
    | true =>
      refine GO ?_
      exact ⟨(l, g), ⟨hl0, hl1, hsw, hbut⟩, by (repeat (first | exact Sub.nil | (apply Sub.cons; rfl))), by (first | with_reducible exact Imp.refl | with_reducible exact Imp.left | (focus ((try simp only [List.nil_append]); (repeat (first | exact Imp.nil | (apply Imp.cons; (focus ((repeat (first | with_reducible exact Tk.here | apply Tk.there)); done))))); done)))⟩
    | false =>
      refine GO ?_
      refine st_call (break_int b o N c g x y (by omega) (by omega)) (by rfl) (by (focus ((repeat (first | exact Spl.nil | (apply Spl.cons; (focus ((repeat (first | with_reducible exact Tk.here | apply Tk.there)); done))))); done))) (fun v Post hv => ?_)
      obtain ⟨rfl, g1, s1, rfl⟩ := hv
      simp only [List.cons_append, List.nil_append]
      refine GO ?_
      exact ⟨(l - 1, g1), ⟨by simp only; omega, by simp only; omega, hsw.trans (s1.wide hx1 hy1), hbut.sw s1 hx1 hy1⟩, by (repeat (first | exact Sub.nil | (apply Sub.cons; rfl))), by (first | with_reducible exact Imp.refl | with_reducible exact Imp.left | (focus ((try simp only [List.nil_append]); (repeat (first | exact Imp.nil | (apply Imp.cons; (focus ((repeat (first | with_reducible exact Tk.here | apply Tk.there)); done))))); done)))⟩
  clear hsw hbut g hl0 hl1 hl2 l
  rintro ⟨l, g⟩ ⟨hl0, hl1, hsw, hbut⟩
  simp only at hl0 hl1 hsw hbut
  refine GO ?_
  refine st_call (choose_int b o N c g x y (by omega) (by omega)) (by rfl) (by (focus ((repeat (first | exact Spl.nil | (apply Spl.cons; (focus ((repeat (first | with_reducible exact Tk.here | apply Tk.there)); done))))); done))) (fun v Post hv => ?_)
  obtain ⟨p, t, hp, rfl, rfl⟩ := hv
  simp only [List.cons_append, List.nil_append]
  refine GO ?_
  refine VC.meet (α := Int × Int × (Int → Int)) (fun s => [(0, slF_int b o N c), (1, vi x), (2, vi y), (3, vi l), (8, .bool wb), (9, .bool wp), (10, vi (y - x)), (11, vi s.1), (12, vi s.2.1)]) (fun s => [rowF b o vi N s.2.2]) (fun s => (x ≤ s.1 ∧ s.1 < y) ∧ Sw a z f s.2.2 ∧ But ltI a z x y s.2.2) ?_ ?_
  · by_cases ht : t = 2
    · simp only [ht, decide_true]
      refine GO ?_
      refine st_call (reverse_int b o N c g x y (by omega) (by omega)) (by rfl) (by (focus ((repeat (first | exact Spl.nil | (apply Spl.cons; (focus ((repeat (first | with_reducible exact Tk.here | apply Tk.there)); done))))); done))) (fun v Post hv => ?_)
      obtain ⟨rfl, g1, s1, rfl⟩ := hv
      simp only [List.cons_append, List.nil_append]
      refine GO ?_
      exact ⟨(y - 1 - (p - x), 1, g1), ⟨by simp only; omega, hsw.trans (s1.wide hx1 hy1), hbut.sw s1 hx1 hy1⟩, by (repeat (first | exact Sub.nil | (apply Sub.cons; rfl))), by (first | with_reducible exact Imp.refl | with_reducible exact Imp.left | (focus ((try simp only [List.nil_append]); (repeat (first | exact Imp.nil | (apply Imp.cons; (focus ((repeat (first | with_reducible exact Tk.here | apply Tk.there)); done))))); done)))⟩
    · simp only [ht, decide_false]
      refine GO ?_
      exact ⟨(p, t, g), ⟨hp, hsw, hbut⟩, by (repeat (first | exact Sub.nil | (apply Sub.cons; rfl))), by (first | with_reducible exact Imp.refl | with_reducible exact Imp.left | (focus ((try simp only [List.nil_append]); (repeat (first | exact Imp.nil | (apply Imp.cons; (focus ((repeat (first | with_reducible exact Tk.here | apply Tk.there)); done))))); done)))⟩
  clear hsw hbut hp g t p
  rintro ⟨p, t, g⟩ ⟨hp, hsw, hbut⟩
  simp only at hp hsw hbut
  dsimp only
  refine VC.join (α := Int → Int) (fun s => [(0, slF_int b o N c), (1, vi x), (2, vi y), (3, vi l), (8, .bool wb), (9, .bool wp), (10, vi (y - x)), (11, vi p)]) (fun s => [rowF b o vi N s]) (fun s => Sw a z f s ∧ But ltI a z x y s) ?_ ?_
  · cases wb with
    | false =>
      refine GO ?_
      exact ⟨g, ⟨hsw, hbut⟩, by (repeat (first | exact Sub.nil | (apply Sub.cons; rfl))), by (first | with_reducible exact Imp.refl | with_reducible exact Imp.left | (focus ((try simp only [List.nil_append]); (repeat (first | exact Imp.nil | (apply Imp.cons; (focus ((repeat (first | with_reducible exact Tk.here | apply Tk.there)); done))))); done)))⟩
    | true => cases wp with
      | false =>
        refine GO ?_
        exact ⟨g, ⟨hsw, hbut⟩, by (repeat (first | exact Sub.nil | (apply Sub.cons; rfl))), by (first | with_reducible exact Imp.refl | with_reducible exact Imp.left | (focus ((try simp only [List.nil_append]); (repeat (first | exact Imp.nil | (apply Imp.cons; (focus ((repeat (first | with_reducible exact Tk.here | apply Tk.there)); done))))); done)))⟩
      | true =>
        refine GO ?_
        by_cases ht : t = 1
        · simp only [ht, decide_true]
          refine GO ?_
          refine st_call (partial_int b o N c g x y (by omega) (by omega) (hbut.lo (hlo.sw hsw) hx1 hy1)) (by rfl) (by (focus ((repeat (first | exact Spl.nil | (apply Spl.cons; (focus ((repeat (first | with_reducible exact Tk.here | apply Tk.there)); done))))); done))) (fun v Post hv => ?_)
          obtain ⟨t1, g1, s1, r1, rfl, rfl⟩ := hv
          simp only [List.cons_append, List.nil_append]
          refine GO ?_
          cases t1 with
          | true =>
            refine GO ?_
            exact ⟨.inr rfl, _, _, .nil, by (first | with_reducible exact Imp.refl | with_reducible exact Imp.left | (focus ((try simp only [List.nil_append]); (repeat (first | exact Imp.nil | (apply Imp.cons; (focus ((repeat (first | with_reducible exact Tk.here | apply Tk.there)); done))))); done))), rfl, g1, hsw.trans (s1.wide hx1 hy1), (hbut.sw s1 hx1 hy1).done (r1 rfl), rfl⟩
          | false =>
            refine GO ?_
            exact ⟨g1, ⟨hsw.trans (s1.wide hx1 hy1), hbut.sw s1 hx1 hy1⟩, by (repeat (first | exact Sub.nil | (apply Sub.cons; rfl))), by (first | with_reducible exact Imp.refl | with_reducible exact Imp.left | (focus ((try simp only [List.nil_append]); (repeat (first | exact Imp.nil | (apply Imp.cons; (focus ((repeat (first | with_reducible exact Tk.here | apply Tk.there)); done))))); done)))⟩
        · simp only [ht, decide_false]
          refine GO ?_
          exact ⟨g, ⟨hsw, hbut⟩, by (repeat (first | exact Sub.nil | (apply Sub.cons; rfl))), by (first | with_reducible exact Imp.refl | with_reducible exact Imp.left | (focus ((try simp only [List.nil_append]); (repeat (first | exact Imp.nil | (apply Imp.cons; (focus ((repeat (first | with_reducible exact Tk.here | apply Tk.there)); done))))); done)))⟩
  clear hsw hbut t g
  rintro g ⟨hsw, hbut⟩
  have hLo := hbut.lo (hlo.sw hsw) hx1 hy1
  have hInj := hinj.sw hsw h.1 h.2.2
  refine GO ?_
  by_cases hx0 : 0 < x
  · simp only [hx0, decide_true]
    refine GOS ?_
    have hlt : ltI (g (x - 1)) (g p) = true := by
      cases e : ltI (g (x - 1)) (g p) with
      | true => rfl
      | false =>
        have e2 := hLo hx0 p hp.1 hp.2
        have e3 := (ltI_ok).eq _ _ e e2
        have e4 := hInj (x - 1) p (by omega) (by omega) (by omega) (by omega) e3
        omega
    rw [hlt]
    refine GO ?_
    refine st_call (part_int b o N c g x y p (by omega) hp (by omega)) (by rfl) (by (focus ((repeat (first | exact Spl.nil | (apply Spl.cons; (focus ((repeat (first | with_reducible exact Tk.here | apply Tk.there)); done))))); done))) (fun v Post hv => ?_)
    obtain ⟨m, t, g1, hm, s1, r1, rfl, rfl⟩ := hv
    simp only [List.cons_append, List.nil_append]
    have hsw1 := hsw.trans (s1.wide hx1 hy1)
    have hbut1 := hbut.sw s1 hx1 hy1
    have hLo1 := hbut1.lo (hlo.sw hsw1) hx1 hy1
    have hInj1 := hinj.sw hsw1 h.1 h.2.2
    refine GO ?_
    by_cases hlr : m - x < y - m
    · simp only [hlr, decide_true]
      refine GO ?_
      refine st_call (ih (m - x).toNat (by omega) g1 x m l (by omega) (by omega) ⟨hl0, hl1⟩ (fun h0 k k1 k2 => hLo1 h0 k k1 (by omega)) hInj1) (by rfl) (by (focus ((repeat (first | exact Spl.nil | (apply Spl.cons; (focus ((repeat (first | with_reducible exact Tk.here | apply Tk.there)); done))))); done))) (fun v Post hv => ?_)
      obtain ⟨rfl, g2, s2, r2, rfl⟩ := hv
      simp only [List.cons_append, List.nil_append]
      refine GO ?_
      exact ⟨(m + 1, y, l, _, t, g2), ⟨⟨by simp only; omega, by simp only; omega, by simp only; omega, hl0, hl1⟩, hsw1.trans (s2.wide hx1 (by omega)), hbut1.left ltI_ok r1 hm hx1 hy1 s2 r2⟩, by simp only; omega, by (repeat (first | exact Sub.nil | (apply Sub.cons; rfl))), by (first | with_reducible exact Imp.refl | with_reducible exact Imp.left | (focus ((try simp only [List.nil_append]); (repeat (first | exact Imp.nil | (apply Imp.cons; (focus ((repeat (first | with_reducible exact Tk.here | apply Tk.there)); done))))); done)))⟩
    · simp only [hlr, decide_false]
      refine GO ?_
      refine st_call (ih (y - (m + 1)).toNat (by omega) g1 (m + 1) y l (by omega) (by omega) ⟨hl0, hl1⟩ (fun h0 k k1 k2 => by rw [show m + 1 - 1 = m by omega]; exact r1.2 k (by omega) k2) hInj1) (by rfl) (by (focus ((repeat (first | exact Spl.nil | (apply Spl.cons; (focus ((repeat (first | with_reducible exact Tk.here | apply Tk.there)); done))))); done))) (fun v Post hv => ?_)
      obtain ⟨rfl, g2, s2, r2, rfl⟩ := hv
      simp only [List.cons_append, List.nil_append]
      refine GO ?_
      exact ⟨(x, m, l, _, t, g2), ⟨⟨hx1, by simp only; omega, by simp only; omega, hl0, hl1⟩, hsw1.trans (s2.wide (by omega) hy1), hbut1.right ltI_ok r1 hm hx1 hy1 s2 r2⟩, by simp only; omega, by (repeat (first | exact Sub.nil | (apply Sub.cons; rfl))), by (first | with_reducible exact Imp.refl | with_reducible exact Imp.left | (focus ((try simp only [List.nil_append]); (repeat (first | exact Imp.nil | (apply Imp.cons; (focus ((repeat (first | with_reducible exact Tk.here | apply Tk.there)); done))))); done)))⟩
  · simp only [hx0, decide_false]
    refine GO ?_
    refine st_call (part_int b o N c g x y p (by omega) hp (by omega)) (by rfl) (by (focus ((repeat (first | exact Spl.nil | (apply Spl.cons; (focus ((repeat (first | with_reducible exact Tk.here | apply Tk.there)); done))))); done))) (fun v Post hv => ?_)
    obtain ⟨m, t, g1, hm, s1, r1, rfl, rfl⟩ := hv
    simp only [List.cons_append, List.nil_append]
    have hsw1 := hsw.trans (s1.wide hx1 hy1)
    have hbut1 := hbut.sw s1 hx1 hy1
    have hLo1 := hbut1.lo (hlo.sw hsw1) hx1 hy1
    have hInj1 := hinj.sw hsw1 h.1 h.2.2
    refine GO ?_
    by_cases hlr : m - x < y - m
    · simp only [hlr, decide_true]
      refine GO ?_
      refine st_call (ih (m - x).toNat (by omega) g1 x m l (by omega) (by omega) ⟨hl0, hl1⟩ (fun h0 k k1 k2 => hLo1 h0 k k1 (by omega)) hInj1) (by rfl) (by (focus ((repeat (first | exact Spl.nil | (apply Spl.cons; (focus ((repeat (first | with_reducible exact Tk.here | apply Tk.there)); done))))); done))) (fun v Post hv => ?_)
      obtain ⟨rfl, g2, s2, r2, rfl⟩ := hv
      simp only [List.cons_append, List.nil_append]
      refine GO ?_
      exact ⟨(m + 1, y, l, _, t, g2), ⟨⟨by simp only; omega, by simp only; omega, by simp only; omega, hl0, hl1⟩, hsw1.trans (s2.wide hx1 (by omega)), hbut1.left ltI_ok r1 hm hx1 hy1 s2 r2⟩, by simp only; omega, by (repeat (first | exact Sub.nil | (apply Sub.cons; rfl))), by (first | with_reducible exact Imp.refl | with_reducible exact Imp.left | (focus ((try simp only [List.nil_append]); (repeat (first | exact Imp.nil | (apply Imp.cons; (focus ((repeat (first | with_reducible exact Tk.here | apply Tk.there)); done))))); done)))⟩
    · simp only [hlr, decide_false]
      refine GO ?_
      refine st_call (ih (y - (m + 1)).toNat (by omega) g1 (m + 1) y l (by omega) (by omega) ⟨hl0, hl1⟩ (fun h0 k k1 k2 => by rw [show m + 1 - 1 = m by omega]; exact r1.2 k (by omega) k2) hInj1) (by rfl) (by (focus ((repeat (first | exact Spl.nil | (apply Spl.cons; (focus ((repeat (first | with_reducible exact Tk.here | apply Tk.there)); done))))); done))) (fun v Post hv => ?_)
      obtain ⟨rfl, g2, s2, r2, rfl⟩ := hv
      simp only [List.cons_append, List.nil_append]
      refine GO ?_
      exact ⟨(x, m, l, _, t, g2), ⟨⟨hx1, by simp only; omega, by simp only; omega, hl0, hl1⟩, hsw1.trans (s2.wide (by omega) hy1), hbut1.right ltI_ok r1 hm hx1 hy1 s2 r2⟩, by simp only; omega, by (repeat (first | exact Sub.nil | (apply Sub.cons; rfl))), by (first | with_reducible exact Imp.refl | with_reducible exact Imp.left | (focus ((try simp only [List.nil_append]); (repeat (first | exact Imp.nil | (apply Imp.cons; (focus ((repeat (first | with_reducible exact Tk.here | apply Tk.there)); done))))); done)))⟩
end Go.Proofs.YtklkngccaemjdaaGreat
namespace Go.Proofs.YtklkngccaemjdaaGreat
open Go Go.V
set_option maxHeartbeats 1600000
set_option maxRecDepth 100000
set_option linter.unusedSimpArgs false
set_option linter.unusedVariables false
theorem insert0_int (sa : Option Addr) (c : Nat) : Fun Tryz.prog 127 [.slice sa 0 c, vi 0, vi 0] [] (fun v Post => v = .tuple #[] ∧ Post = []) := by
  refine Fun.intro low127 (by simp [F127]) ?_
  refine GO ?_
  refine VC.loop (α := Unit) (Γf := fun _ => [(2, vi 0), (6, vi 1)]) (Hf := fun _ => []) (I := fun _ => True) (μ := fun _ => 0) () trivial (by (repeat (first | exact Sub.nil | (apply Sub.cons; rfl)))) (by (first | with_reducible exact Imp.refl | with_reducible exact Imp.left | (focus ((try simp only [List.nil_append]); (repeat (first | exact Imp.nil | (apply Imp.cons; (focus ((repeat (first | with_reducible exact Tk.here | apply Tk.there)); done))))); done)))) ?_
  rintro _ _
  refine GO ?_
  exact ⟨.inl rfl, _, _, .nil, by (first | with_reducible exact Imp.refl | with_reducible exact Imp.left | (focus ((try simp only [List.nil_append]); (repeat (first | exact Imp.nil | (apply Imp.cons; (focus ((repeat (first | with_reducible exact Tk.here | apply Tk.there)); done))))); done))), rfl, rfl⟩

theorem pdq0_int (sa : Option Addr) (c : Nat) (l : Int) : Fun Tryz.prog 120 [.slice sa 0 c, vi 0, vi 0, vi l] [] (fun v Post => v = .tuple #[] ∧ Post = []) := by
  refine Fun.intro low120 (by simp [F120]) ?_
  refine GO ?_
  refine VC.loop (α := Unit) (Γf := fun _ => [(0, .slice sa 0 c), (1, vi 0), (2, vi 0)]) (Hf := fun _ => []) (I := fun _ => True) (μ := fun _ => 0) () trivial (by (repeat (first | exact Sub.nil | (apply Sub.cons; rfl)))) (by (first | with_reducible exact Imp.refl | with_reducible exact Imp.left | (focus ((try simp only [List.nil_append]); (repeat (first | exact Imp.nil | (apply Imp.cons; (focus ((repeat (first | with_reducible exact Tk.here | apply Tk.there)); done))))); done)))) ?_
  rintro _ _
  refine GO ?_
  refine st_call (insert0_int sa c) (by rfl) (R := []) (by simp [V.Spl]) (fun v Post hv => ?_)
  obtain ⟨rfl, rfl⟩ := hv
  refine GO ?_
  exact ⟨.inr rfl, _, _, .nil, by (first | with_reducible exact Imp.refl | with_reducible exact Imp.left | (focus ((try simp only [List.nil_append]); (repeat (first | exact Imp.nil | (apply Imp.cons; (focus ((repeat (first | with_reducible exact Tk.here | apply Tk.there)); done))))); done))), rfl, rfl⟩

theorem sort_int (sv : Value) (xs : List Int) (sp : List Value) (h : IsSl 1 sv xs.length (xs.map vi) sp) (hn : xs.length ≤ 1073741823) (hd : xs.Nodup) :
    Fun Tryz.prog 74 [sv] [slA sv (xs.map vi) sp] (fun v Post => v = .tuple #[] ∧ ∃ ys, SortedOf ltI xs ys ∧ Post = [slA sv (ys.map vi) sp]) := by
  refine Fun.intro low74 (by simp [F74]) ?_
  have hw : IntKind.u64.wrap (xs.length : Int) = xs.length := by simp only [IntKind.wrap, IntKind.bits, IntKind.signed]; simp; omega
  by_cases h0 : xs.length = 0
  · obtain rfl : xs = [] := List.eq_nil_of_length_eq_zero h0
    obtain ⟨a, c, rfl⟩ := h.form
    simp only [List.length_nil]
    refine GO ?_
    refine st_call (bitlen 0 (by omega)) (by rfl) (R := [slA (.slice a 0 c) (List.map vi []) sp]) (by simp [V.Spl]) (fun v Post hv => ?_)
    obtain ⟨⟨n, h1, h2, h3, rfl⟩, rfl⟩ := hv
    simp only [List.nil_append]
    refine GO ?_
    refine st_call (pdq0_int a c n) (by rfl) (R := [slA (.slice a 0 c) (List.map vi []) sp]) (by simp [V.Spl]) (fun v Post hv => ?_)
    obtain ⟨rfl, rfl⟩ := hv
    simp only [List.nil_append]
    refine GO ?_
    exact ⟨.inl rfl, _, _, .nil, by (first | with_reducible exact Imp.refl | with_reducible exact Imp.left | (focus ((try simp only [List.nil_append]); (repeat (first | exact Imp.nil | (apply Imp.cons; (focus ((repeat (first | with_reducible exact Tk.here | apply Tk.there)); done))))); done))), rfl, [], ⟨.refl _, .nil⟩, rfl⟩
  · obtain ⟨b, o, c, rfl, hc, hl⟩ := h.some (by omega)
    refine GO ?_
    rw [hw]
    refine st_call (bitlen xs.length (by omega)) (by rfl) (R := [slA (.slice (some ⟨b, o, none⟩) xs.length c) (xs.map vi) sp]) (by simp [V.Spl]) (fun v Post hv => ?_)
    obtain ⟨⟨n, h1, h2, h3, rfl⟩, rfl⟩ := hv
    simp only [List.nil_append]
    refine GO ?_
    refine VO.split .here (B := rowF b o vi xs.length (toF 0 xs)) (C := cellsAt b (o + xs.length) sp) ?_ ?_
    · rw [rowF_of]
      simp only [slA, cellsAt_append, List.length_map]
      exact .refl _
    refine st_call (pdq_int b o xs.length c hn xs.length (toF 0 xs) 0 xs.length n (by omega) (by omega) (by omega) (fun h => by omega) (Inj.of_nodup hd)) (by rfl) (by (focus ((repeat (first | exact Spl.nil | (apply Spl.cons; (focus ((repeat (first | with_reducible exact Tk.here | apply Tk.there)); done))))); done))) (fun v Post hv => ?_)
    obtain ⟨rfl, g, s1, r1, rfl⟩ := hv
    simp only [List.cons_append, List.nil_append]
    refine GO ?_
    refine endQ_mk (Post := [slA (.slice (some ⟨b, o, none⟩) xs.length c) ((listOf xs.length g).map vi) sp]) (.inl rfl) .nil ⟨rfl, listOf xs.length g, ⟨?_, r1.list⟩, rfl⟩ ?_
    · have := s1.perm (n := xs.length) (by omega) (by omega)
      rwa [listOf_toF] at this
    · rw [rowF_list]
      refine Imp.perm ?_
      simp only [slA, cellsAt_append, List.length_map, listOf_length, List.flatten_cons, List.flatten_nil, List.append_nil]
      exact .refl _
end Go.Proofs.YtklkngccaemjdaaGreat

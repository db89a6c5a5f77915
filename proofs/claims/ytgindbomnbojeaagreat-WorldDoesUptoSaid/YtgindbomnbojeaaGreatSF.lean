/-
  Sorting: putting in as long as little is out of order.
-/
import Derived.Test.YtgindbomnbojeaaGreatSD
set_option linter.unusedSimpArgs false
set_option linter.unusedVariables false
namespace Go.Proofs.YtgindbomnbojeaaGreat
open Go Go.V
set_option maxHeartbeats 1600000
set_option maxRecDepth 100000
theorem partial_int (b o N c : Nat) (f : Int → Int) (a z : Int) (h : 0 ≤ a ∧ a < z ∧ z ≤ N) (hN : N ≤ 140737488355328) (hlo : Lo ltI a z f) :
    Fun Tryz.prog 128 [slF_int b o N c, vi a, vi z] [rowF b o vi N f] (fun v Post => ∃ t g, Sw a z f g ∧ (t = true → Srt ltI a z g) ∧ v = .bool t ∧ Post = [rowF b o vi N g]) := by
  have hless := less_int
  refine Fun.intro low128 (by simp [n128]) ?_
  refine GO ?_
  refine VC.loop (α := Int × Int × (Int → Int)) (Γf := fun y => [(0, slF_int b o N c), (1, vi a), (2, vi z), (7, vi y.2.1), (8, vi y.1)]) (Hf := fun y => [rowF b o vi N y.2.2])
    (I := fun y => 0 ≤ y.1 ∧ y.1 ≤ 5 ∧ a + 1 ≤ y.2.1 ∧ y.2.1 ≤ z ∧ Sw a z f y.2.2 ∧ Srt ltI a y.2.1 y.2.2) (μ := fun y => (5 - y.1).toNat) (0, a + 1, f) ⟨by simp, by simp, by simp, by simp only; omega, .refl, fun p q h1 h2 h3 => by simp only at h3; omega⟩ (by exact SUx) (by exact IMx) ?_
  rintro ⟨j, i, g⟩ ⟨hj1, hj2, hi1, hi2, hsw, hsrt⟩
  simp only at hj1 hj2 hi1 hi2 hsw hsrt
  refine GO ?_
  by_cases hj : j < 5
  rotate_left
  · simp only [hj, decide_false]
    refine GO ?_
    exact ⟨.inr rfl, _, _, .tmp (by rfl) .nil, by exact IMx, ⟨false, g, hsw, fun e => by (cases e), rfl, rfl⟩⟩
  simp only [hj, decide_true]
  refine GO ?_
  refine VC.loop (α := Int) (Γf := fun i => [(0, slF_int b o N c), (1, vi a), (2, vi z), (7, vi i), (8, vi j)]) (Hf := fun _ => [rowF b o vi N g])
    (I := fun i => a + 1 ≤ i ∧ i ≤ z ∧ Srt ltI a i g) (μ := fun i => (z - i).toNat) i ⟨hi1, hi2, hsrt⟩ (by exact SUx) (by exact IMx) ?_
  clear hi1 hi2 hsrt i
  rintro i ⟨hi1, hi2, hsrt⟩
  refine GO ?_
  by_cases hiz : i < z
  rotate_left
  · obtain rfl : i = z := by omega
    simp only [hiz, decide_false]
    refine GO ?_
    try simp only [eq_self, decide_true]
    refine GO ?_
    exact ⟨.inr rfl, _, _, .tmp (by rfl) .nil, by exact IMx, ⟨true, g, hsw, fun _ => hsrt, rfl, rfl⟩⟩
  simp only [hiz, decide_true]
  refine GOS ?_
  cases hl : ltI (g i) (g (i - 1)) with
  | false =>
    refine GO ?_
    refine ⟨i + 1, ⟨by omega, by omega, ?_⟩, by omega, by exact SUx, by exact IMx⟩
    exact (InsI.start hsrt).stop ltI_ok hl (by omega)
  | true =>
    refine GO ?_
    simp only [show ¬ i = z by omega, decide_false]
    refine GO ?_
    by_cases h50 : z - a < 50
    · simp only [h50, decide_true]
      refine GO ?_
      exact ⟨.inr rfl, _, _, .tmp (by rfl) .nil, by exact IMx, ⟨false, g, hsw, fun e => by (cases e), rfl, rfl⟩⟩
    simp only [h50, decide_false]
    refine GOS ?_
    have hsw1 : Sw a z f (upd (upd g i (g (i - 1))) (i - 1) (g i)) := hsw.step (by omega) (by omega)
    have hsrt1 : Srt ltI a (i - 1) (upd (upd g i (g (i - 1))) (i - 1) (g i)) := by
      intro p q h1 h2 h3
      show ltI (swp g i (i - 1) q) (swp g i (i - 1) p) = false
      rw [swp_at, swp_at, if_neg (by omega), if_neg (by omega), if_neg (by omega), if_neg (by omega)]
      exact hsrt p q h1 h2 (by omega)
    generalize (upd (upd g i (g (i - 1))) (i - 1) (g i)) = g at hsw1 hsrt1 ⊢
    clear hsw hsrt hl
    by_cases hl2 : 2 ≤ i - a
    · simp only [hl2, decide_true]
      refine GO ?_
      refine VC.loop (α := Int × (Int → Int)) (Γf := fun y => [(0, slF_int b o N c), (1, vi a), (2, vi z), (7, vi i), (8, vi j), (9, vi y.1)]) (Hf := fun y => [rowF b o vi N y.2])
        (I := fun y => a ≤ y.1 ∧ y.1 ≤ i - 1 ∧ Sw a z f y.2 ∧ InsI ltI a (i - 1) y.1 y.2) (μ := fun y => y.1.toNat) (i - 1, g) ⟨by simp only; omega, by simp, hsw1, .start hsrt1⟩ (by exact SUx) (by exact IMx) ?_
      clear hsw1 hsrt1 g
      rintro ⟨k, g⟩ ⟨hk1, hk2, hsw, hins⟩
      simp only at hk1 hk2 hsw hins
      refine GO ?_
      by_cases hk : 1 ≤ k
      · simp only [hk, decide_true]
        refine GOS ?_
        cases hl : ltI (g k) (g (k - 1)) with
        | true =>
          have hak : a < k := by
            by_cases e : k = a
            · subst e
              rw [(hlo.sw hsw) (by omega) k (by omega) (by omega)] at hl; cases hl
            · omega
          refine GOS ?_
          refine ⟨(k - 1, swp g k (k - 1)), ⟨by simp only; omega, by simp only; omega, hsw.step (by omega) (by omega), hins.swap ltI_ok hl hak hk2⟩, by simp only; omega, by exact SUx, by exact IMx⟩
        | false =>
          have hsrt : Srt ltI a i g := by have := hins.stop ltI_ok hl hk2; rwa [Int.sub_add_cancel] at this
          refine GO ?_
          by_cases hr : 2 ≤ z - i
          · simp only [hr, decide_true]
            refine GO ?_
            refine VC.loop (α := Int × (Int → Int)) (Γf := fun y => [(0, slF_int b o N c), (1, vi a), (2, vi z), (7, vi i), (8, vi j), (10, vi y.1)]) (Hf := fun y => [rowF b o vi N y.2])
              (I := fun y => i + 1 ≤ y.1 ∧ y.1 ≤ z ∧ Sw a z f y.2 ∧ Srt ltI a i y.2) (μ := fun y => (z - y.1).toNat) (i + 1, g) ⟨by simp, by simp only; omega, hsw, hsrt⟩ (by exact SUx) (by exact IMx) ?_
            rintro ⟨w, G⟩ ⟨hw1, hw2, hSW, hSRT⟩
            simp only at hw1 hw2 hSW hSRT
            refine GO ?_
            (first | (apply VC.seq_cond; rfl) | (apply VC.cond; rfl))
            · intro hlt
              have hlt : w < z := by simpa using hlt
              refine GOS ?_
              cases hl : ltI (G w) (G (w - 1)) with
              | false =>
                refine GO ?_
                refine ⟨(j + 1, i, G), ⟨by simp only; omega, by simp only; omega, by simp only; omega, by simp only; omega, hSW, hSRT⟩, by simp only; omega, by exact SUx, by exact IMx⟩
              | true =>
                refine GOS ?_
                refine ⟨(w + 1, swp G w (w - 1)), ⟨by simp only; omega, by simp only; omega, hSW.step (by omega) (by omega), fun p q h1 h2 h3 => ?_⟩, by simp only; omega, by exact SUx, by exact IMx⟩
                show ltI (swp G w (w - 1) q) (swp G w (w - 1) p) = false
                rw [swp_at, swp_at, if_neg (by omega), if_neg (by omega), if_neg (by omega), if_neg (by omega)]
                exact hSRT p q h1 h2 h3
            · intro hge
              refine GO ?_
              refine ⟨(j + 1, i, G), ⟨by simp only; omega, by simp only; omega, by simp only; omega, by simp only; omega, hSW, hSRT⟩, by simp only; omega, by exact SUx, by exact IMx⟩
          · simp only [hr, decide_false]
            refine GO ?_
            refine ⟨(j + 1, i, g), ⟨by simp only; omega, by simp only; omega, by simp only; omega, by simp only; omega, hsw, hsrt⟩, by simp only; omega, by exact SUx, by exact IMx⟩
      · obtain rfl : a = k := by omega
        have hsrt : Srt ltI a i g := by have := hins.first; rwa [Int.sub_add_cancel] at this
        simp only [hk, decide_false]
        refine GO ?_
        by_cases hr : 2 ≤ z - i
        · simp only [hr, decide_true]
          refine GO ?_
          refine VC.loop (α := Int × (Int → Int)) (Γf := fun y => [(0, slF_int b o N c), (1, vi a), (2, vi z), (7, vi i), (8, vi j), (10, vi y.1)]) (Hf := fun y => [rowF b o vi N y.2])
            (I := fun y => i + 1 ≤ y.1 ∧ y.1 ≤ z ∧ Sw a z f y.2 ∧ Srt ltI a i y.2) (μ := fun y => (z - y.1).toNat) (i + 1, g) ⟨by simp, by simp only; omega, hsw, hsrt⟩ (by exact SUx) (by exact IMx) ?_
          rintro ⟨w, G⟩ ⟨hw1, hw2, hSW, hSRT⟩
          simp only at hw1 hw2 hSW hSRT
          refine GO ?_
          (first | (apply VC.seq_cond; rfl) | (apply VC.cond; rfl))
          · intro hlt
            have hlt : w < z := by simpa using hlt
            refine GOS ?_
            cases hl : ltI (G w) (G (w - 1)) with
            | false =>
              refine GO ?_
              refine ⟨(j + 1, i, G), ⟨by simp only; omega, by simp only; omega, by simp only; omega, by simp only; omega, hSW, hSRT⟩, by simp only; omega, by exact SUx, by exact IMx⟩
            | true =>
              refine GOS ?_
              refine ⟨(w + 1, swp G w (w - 1)), ⟨by simp only; omega, by simp only; omega, hSW.step (by omega) (by omega), fun p q h1 h2 h3 => ?_⟩, by simp only; omega, by exact SUx, by exact IMx⟩
              show ltI (swp G w (w - 1) q) (swp G w (w - 1) p) = false
              rw [swp_at, swp_at, if_neg (by omega), if_neg (by omega), if_neg (by omega), if_neg (by omega)]
              exact hSRT p q h1 h2 h3
          · intro hge
            refine GO ?_
            refine ⟨(j + 1, i, G), ⟨by simp only; omega, by simp only; omega, by simp only; omega, by simp only; omega, hSW, hSRT⟩, by simp only; omega, by exact SUx, by exact IMx⟩
        · simp only [hr, decide_false]
          refine GO ?_
          refine ⟨(j + 1, i, g), ⟨by simp only; omega, by simp only; omega, by simp only; omega, by simp only; omega, hsw, hsrt⟩, by simp only; omega, by exact SUx, by exact IMx⟩
    · simp only [hl2, decide_false]
      have hsrt : Srt ltI a i g := fun p q h1 h2 h3 => by omega
      have hsw := hsw1
      clear hsw1 hsrt1
      refine GO ?_
      by_cases hr : 2 ≤ z - i
      · simp only [hr, decide_true]
        refine GO ?_
        refine VC.loop (α := Int × (Int → Int)) (Γf := fun y => [(0, slF_int b o N c), (1, vi a), (2, vi z), (7, vi i), (8, vi j), (10, vi y.1)]) (Hf := fun y => [rowF b o vi N y.2])
          (I := fun y => i + 1 ≤ y.1 ∧ y.1 ≤ z ∧ Sw a z f y.2 ∧ Srt ltI a i y.2) (μ := fun y => (z - y.1).toNat) (i + 1, g) ⟨by simp, by simp only; omega, hsw, hsrt⟩ (by exact SUx) (by exact IMx) ?_
        rintro ⟨w, G⟩ ⟨hw1, hw2, hSW, hSRT⟩
        simp only at hw1 hw2 hSW hSRT
        refine GO ?_
        (first | (apply VC.seq_cond; rfl) | (apply VC.cond; rfl))
        · intro hlt
          have hlt : w < z := by simpa using hlt
          refine GOS ?_
          cases hl : ltI (G w) (G (w - 1)) with
          | false =>
            refine GO ?_
            refine ⟨(j + 1, i, G), ⟨by simp only; omega, by simp only; omega, by simp only; omega, by simp only; omega, hSW, hSRT⟩, by simp only; omega, by exact SUx, by exact IMx⟩
          | true =>
            refine GOS ?_
            refine ⟨(w + 1, swp G w (w - 1)), ⟨by simp only; omega, by simp only; omega, hSW.step (by omega) (by omega), fun p q h1 h2 h3 => ?_⟩, by simp only; omega, by exact SUx, by exact IMx⟩
            show ltI (swp G w (w - 1) q) (swp G w (w - 1) p) = false
            rw [swp_at, swp_at, if_neg (by omega), if_neg (by omega), if_neg (by omega), if_neg (by omega)]
            exact hSRT p q h1 h2 h3
        · intro hge
          refine GO ?_
          refine ⟨(j + 1, i, G), ⟨by simp only; omega, by simp only; omega, by simp only; omega, by simp only; omega, hSW, hSRT⟩, by simp only; omega, by exact SUx, by exact IMx⟩
      · simp only [hr, decide_false]
        refine GO ?_
        refine ⟨(j + 1, i, g), ⟨by simp only; omega, by simp only; omega, by simp only; omega, by simp only; omega, hsw, hsrt⟩, by simp only; omega, by exact SUx, by exact IMx⟩
set_option maxHeartbeats 3200000
theorem pdq_int (b o N c : Nat) (hN : N ≤ 1073741823) : ∀ (d : Nat) (f : Int → Int) (a z l : Int), z - a ≤ d → 0 ≤ a ∧ a ≤ z ∧ z ≤ N → 0 ≤ l ∧ l ≤ 64 → Lo ltI a z f → Inj N f →
    Fun Tryz.prog 113 [slF_int b o N c, vi a, vi z, vi l] [rowF b o vi N f] (fun v Post => v = .tuple #[] ∧ ∃ g, Sw a z f g ∧ Srt ltI a z g ∧ Post = [rowF b o vi N g]) := by
  intro d
  induction d using Nat.strongRecOn with
  | _ d ih =>
  intro f a z l hd h hl hlo hinj
  have hless := less_int
  refine Fun.intro low113 (by simp [n113]) ?_
  refine GO ?_
  refine VC.loop (α := Int × Int × Int × Bool × Bool × (Int → Int)) (Γf := fun s => [(0, slF_int b o N c), (1, vi s.1), (2, vi s.2.1), (3, vi s.2.2.1), (8, .bool s.2.2.2.1), (9, .bool s.2.2.2.2.1)]) (Hf := fun s => [rowF b o vi N s.2.2.2.2.2])
    (I := fun s => (a ≤ s.1 ∧ s.1 ≤ s.2.1 ∧ s.2.1 ≤ z ∧ 0 ≤ s.2.2.1 ∧ s.2.2.1 ≤ 64) ∧ Sw a z f s.2.2.2.2.2 ∧ But ltI a z s.1 s.2.1 s.2.2.2.2.2) (μ := fun s => (s.2.1 - s.1).toNat)
    (a, z, l, true, true, f) ⟨⟨by simp, by simp only; omega, by simp, hl.1, hl.2⟩, .refl, .start⟩ (by exact SUx) (by exact IMx) ?_
  clear hl l
  rintro ⟨x, y, l, wb, wp, g⟩ ⟨⟨hx1, hxy, hy1, hl0, hl1⟩, hsw, hbut⟩
  simp only at hx1 hxy hy1 hl0 hl1 hsw hbut
  dsimp only
  refine GO ?_
  by_cases h12 : y - x ≤ 12
  · simp only [h12, decide_true]
    refine GO ?_
    refine st_call (insert_int b o N c g x y (by omega) (by omega)) (by rfl) (by exact SPx) (fun v Post hv => ?_)
    obtain ⟨rfl, g1, s1, r1, rfl⟩ := hv
    simp only [CNx]
    refine GO ?_
    exact ⟨.inr rfl, _, _, .nil, by exact IMx, rfl, g1, hsw.trans (s1.wide hx1 hy1), (hbut.sw s1 hx1 hy1).done r1, rfl⟩
  simp only [h12, decide_false]
  refine GO ?_
  by_cases hl2 : l = 0
  · simp only [hl2, decide_true]
    refine GO ?_
    refine st_call (heap_int b o N c g x y (by omega) (by omega)) (by rfl) (by exact SPx) (fun v Post hv => ?_)
    obtain ⟨rfl, g1, s1, r1, rfl⟩ := hv
    simp only [CNx]
    refine GO ?_
    exact ⟨.inr rfl, _, _, .nil, by exact IMx, rfl, g1, hsw.trans (s1.wide hx1 hy1), (hbut.sw s1 hx1 hy1).done r1, rfl⟩
  simp only [hl2, decide_false]
  refine GO ?_
  refine VC.meet (α := Int × (Int → Int)) (fun s => [(0, slF_int b o N c), (1, vi x), (2, vi y), (3, vi s.1), (8, .bool wb), (9, .bool wp), (10, vi (y - x))]) (fun s => [rowF b o vi N s.2]) (fun s => 0 ≤ s.1 ∧ s.1 ≤ 64 ∧ Sw a z f s.2 ∧ But ltI a z x y s.2) ?_ ?_
  · cases wb with
    | true =>
      refine GO ?_
      exact ⟨(l, g), ⟨hl0, hl1, hsw, hbut⟩, by exact SUx, by exact IMx⟩
    | false =>
      refine GO ?_
      refine st_call (break_int b o N c g x y (by omega) (by omega)) (by rfl) (by exact SPx) (fun v Post hv => ?_)
      obtain ⟨rfl, g1, s1, rfl⟩ := hv
      simp only [CNx]
      refine GO ?_
      exact ⟨(l - 1, g1), ⟨by simp only; omega, by simp only; omega, hsw.trans (s1.wide hx1 hy1), hbut.sw s1 hx1 hy1⟩, by exact SUx, by exact IMx⟩
  clear hsw hbut g hl0 hl1 hl2 l
  rintro ⟨l, g⟩ ⟨hl0, hl1, hsw, hbut⟩
  simp only at hl0 hl1 hsw hbut
  refine GO ?_
  refine st_call (choose_int b o N c g x y (by omega) (by omega)) (by rfl) (by exact SPx) (fun v Post hv => ?_)
  obtain ⟨p, t, hp, rfl, rfl⟩ := hv
  simp only [CNx]
  refine GO ?_
  refine VC.meet (α := Int × Int × (Int → Int)) (fun s => [(0, slF_int b o N c), (1, vi x), (2, vi y), (3, vi l), (8, .bool wb), (9, .bool wp), (10, vi (y - x)), (11, vi s.1), (12, vi s.2.1)]) (fun s => [rowF b o vi N s.2.2]) (fun s => (x ≤ s.1 ∧ s.1 < y) ∧ Sw a z f s.2.2 ∧ But ltI a z x y s.2.2) ?_ ?_
  · by_cases ht : t = 2
    · simp only [ht, decide_true]
      refine GO ?_
      refine st_call (reverse_int b o N c g x y (by omega) (by omega)) (by rfl) (by exact SPx) (fun v Post hv => ?_)
      obtain ⟨rfl, g1, s1, rfl⟩ := hv
      simp only [CNx]
      refine GO ?_
      exact ⟨(y - 1 - (p - x), 1, g1), ⟨by simp only; omega, hsw.trans (s1.wide hx1 hy1), hbut.sw s1 hx1 hy1⟩, by exact SUx, by exact IMx⟩
    · simp only [ht, decide_false]
      refine GO ?_
      exact ⟨(p, t, g), ⟨hp, hsw, hbut⟩, by exact SUx, by exact IMx⟩
  clear hsw hbut hp g t p
  rintro ⟨p, t, g⟩ ⟨hp, hsw, hbut⟩
  simp only at hp hsw hbut
  dsimp only
  refine VC.join (α := Int → Int) (fun s => [(0, slF_int b o N c), (1, vi x), (2, vi y), (3, vi l), (8, .bool wb), (9, .bool wp), (10, vi (y - x)), (11, vi p)]) (fun s => [rowF b o vi N s]) (fun s => Sw a z f s ∧ But ltI a z x y s) ?_ ?_
  · cases wb with
    | false =>
      refine GO ?_
      exact ⟨g, ⟨hsw, hbut⟩, by exact SUx, by exact IMx⟩
    | true => cases wp with
      | false =>
        refine GO ?_
        exact ⟨g, ⟨hsw, hbut⟩, by exact SUx, by exact IMx⟩
      | true =>
        refine GO ?_
        by_cases ht : t = 1
        · simp only [ht, decide_true]
          refine GO ?_
          refine st_call (partial_int b o N c g x y (by omega) (by omega) (hbut.lo (hlo.sw hsw) hx1 hy1)) (by rfl) (by exact SPx) (fun v Post hv => ?_)
          obtain ⟨t1, g1, s1, r1, rfl, rfl⟩ := hv
          simp only [CNx]
          refine GO ?_
          cases t1 with
          | true =>
            refine GO ?_
            exact ⟨.inr rfl, _, _, .nil, by exact IMx, rfl, g1, hsw.trans (s1.wide hx1 hy1), (hbut.sw s1 hx1 hy1).done (r1 rfl), rfl⟩
          | false =>
            refine GO ?_
            exact ⟨g1, ⟨hsw.trans (s1.wide hx1 hy1), hbut.sw s1 hx1 hy1⟩, by exact SUx, by exact IMx⟩
        · simp only [ht, decide_false]
          refine GO ?_
          exact ⟨g, ⟨hsw, hbut⟩, by exact SUx, by exact IMx⟩
  clear hsw hbut t g
  rintro g ⟨hsw, hbut⟩
  have hLo := hbut.lo (hlo.sw hsw) hx1 hy1
  have hInj := hinj.sw hsw h.1 h.2.2
  refine GO ?_
  by_cases hx0 : 0 < x
  · simp only [hx0, decide_true]
    refine GOS ?_
    have hlt : ltI (g (x - 1)) (g p) = true := by
      cases e : ltI (g (x - 1)) (g p) with
      | true => rfl
      | false =>
        have e2 := hLo hx0 p hp.1 hp.2
        have e3 := (ltI_ok).eq _ _ e e2
        have e4 := hInj (x - 1) p (by omega) (by omega) (by omega) (by omega) e3
        omega
    rw [hlt]
    refine GO ?_
    refine st_call (part_int b o N c g x y p (by omega) hp (by omega)) (by rfl) (by exact SPx) (fun v Post hv => ?_)
    obtain ⟨m, t, g1, hm, s1, r1, rfl, rfl⟩ := hv
    simp only [CNx]
    have hsw1 := hsw.trans (s1.wide hx1 hy1)
    have hbut1 := hbut.sw s1 hx1 hy1
    have hLo1 := hbut1.lo (hlo.sw hsw1) hx1 hy1
    have hInj1 := hinj.sw hsw1 h.1 h.2.2
    refine GO ?_
    by_cases hlr : m - x < y - m
    · simp only [hlr, decide_true]
      refine GO ?_
      refine st_call (ih (m - x).toNat (by omega) g1 x m l (by omega) (by omega) ⟨hl0, hl1⟩ (fun h0 k k1 k2 => hLo1 h0 k k1 (by omega)) hInj1) (by rfl) (by exact SPx) (fun v Post hv => ?_)
      obtain ⟨rfl, g2, s2, r2, rfl⟩ := hv
      simp only [CNx]
      refine GO ?_
      exact ⟨(m + 1, y, l, _, t, g2), ⟨⟨by simp only; omega, by simp only; omega, by simp only; omega, hl0, hl1⟩, hsw1.trans (s2.wide hx1 (by omega)), hbut1.left ltI_ok r1 hm hx1 hy1 s2 r2⟩, by simp only; omega, by exact SUx, by exact IMx⟩
    · simp only [hlr, decide_false]
      refine GO ?_
      refine st_call (ih (y - (m + 1)).toNat (by omega) g1 (m + 1) y l (by omega) (by omega) ⟨hl0, hl1⟩ (fun h0 k k1 k2 => by rw [show m + 1 - 1 = m by omega]; exact r1.2 k (by omega) k2) hInj1) (by rfl) (by exact SPx) (fun v Post hv => ?_)
      obtain ⟨rfl, g2, s2, r2, rfl⟩ := hv
      simp only [CNx]
      refine GO ?_
      exact ⟨(x, m, l, _, t, g2), ⟨⟨hx1, by simp only; omega, by simp only; omega, hl0, hl1⟩, hsw1.trans (s2.wide (by omega) hy1), hbut1.right ltI_ok r1 hm hx1 hy1 s2 r2⟩, by simp only; omega, by exact SUx, by exact IMx⟩
  · simp only [hx0, decide_false]
    refine GO ?_
    refine st_call (part_int b o N c g x y p (by omega) hp (by omega)) (by rfl) (by exact SPx) (fun v Post hv => ?_)
    obtain ⟨m, t, g1, hm, s1, r1, rfl, rfl⟩ := hv
    simp only [CNx]
    have hsw1 := hsw.trans (s1.wide hx1 hy1)
    have hbut1 := hbut.sw s1 hx1 hy1
    have hLo1 := hbut1.lo (hlo.sw hsw1) hx1 hy1
    have hInj1 := hinj.sw hsw1 h.1 h.2.2
    refine GO ?_
    by_cases hlr : m - x < y - m
    · simp only [hlr, decide_true]
      refine GO ?_
      refine st_call (ih (m - x).toNat (by omega) g1 x m l (by omega) (by omega) ⟨hl0, hl1⟩ (fun h0 k k1 k2 => hLo1 h0 k k1 (by omega)) hInj1) (by rfl) (by exact SPx) (fun v Post hv => ?_)
      obtain ⟨rfl, g2, s2, r2, rfl⟩ := hv
      simp only [CNx]
      refine GO ?_
      exact ⟨(m + 1, y, l, _, t, g2), ⟨⟨by simp only; omega, by simp only; omega, by simp only; omega, hl0, hl1⟩, hsw1.trans (s2.wide hx1 (by omega)), hbut1.left ltI_ok r1 hm hx1 hy1 s2 r2⟩, by simp only; omega, by exact SUx, by exact IMx⟩
    · simp only [hlr, decide_false]
      refine GO ?_
      refine st_call (ih (y - (m + 1)).toNat (by omega) g1 (m + 1) y l (by omega) (by omega) ⟨hl0, hl1⟩ (fun h0 k k1 k2 => by rw [show m + 1 - 1 = m by omega]; exact r1.2 k (by omega) k2) hInj1) (by rfl) (by exact SPx) (fun v Post hv => ?_)
      obtain ⟨rfl, g2, s2, r2, rfl⟩ := hv
      simp only [CNx]
      refine GO ?_
      exact ⟨(x, m, l, _, t, g2), ⟨⟨hx1, by simp only; omega, by simp only; omega, hl0, hl1⟩, hsw1.trans (s2.wide (by omega) hy1), hbut1.right ltI_ok r1 hm hx1 hy1 s2 r2⟩, by simp only; omega, by exact SUx, by exact IMx⟩
set_option maxHeartbeats 1600000
theorem insert0_int (sa : Option Addr) (c : Nat) : Fun Tryz.prog 123 [.slice sa 0 c, vi 0, vi 0] [] (fun v Post => v = .tuple #[] ∧ Post = []) := by
  refine Fun.intro low123 (by simp [n123]) ?_
  refine GO ?_
  refine VC.loop (α := Unit) (Γf := fun _ => [(2, vi 0), (6, vi 1)]) (Hf := fun _ => []) (I := fun _ => True) (μ := fun _ => 0) () trivial (by exact SUx) (by exact IMx) ?_
  rintro _ _
  refine GO ?_
  exact ⟨.inl rfl, _, _, .nil, by exact IMx, rfl, rfl⟩
theorem pdq0_int (sa : Option Addr) (c : Nat) (l : Int) : Fun Tryz.prog 113 [.slice sa 0 c, vi 0, vi 0, vi l] [] (fun v Post => v = .tuple #[] ∧ Post = []) := by
  refine Fun.intro low113 (by simp [n113]) ?_
  refine GO ?_
  refine VC.loop (α := Unit) (Γf := fun _ => [(0, .slice sa 0 c), (1, vi 0), (2, vi 0)]) (Hf := fun _ => []) (I := fun _ => True) (μ := fun _ => 0) () trivial (by exact SUx) (by exact IMx) ?_
  rintro _ _
  refine GO ?_
  refine st_call (insert0_int sa c) (by rfl) (R := []) (by simp [V.Spl]) (fun v Post hv => ?_)
  obtain ⟨rfl, rfl⟩ := hv
  refine GO ?_
  exact ⟨.inr rfl, _, _, .nil, by exact IMx, rfl, rfl⟩
theorem sort_int (sv : Value) (xs : List Int) (sp : List Value) (h : IsSl 1 sv xs.length (xs.map vi) sp) (hn : xs.length ≤ 1073741823) (hd : xs.Nodup) :
    Fun Tryz.prog 62 [sv] [slA sv (xs.map vi) sp] (fun v Post => v = .tuple #[] ∧ ∃ ys, SortedOf ltI xs ys ∧ Post = [slA sv (ys.map vi) sp]) := by
  refine Fun.intro low62 (by simp [n62]) ?_
  have hw : IntKind.u64.wrap (xs.length : Int) = xs.length := by simp only [IntKind.wrap, IntKind.bits, IntKind.signed]; simp; omega
  by_cases h0 : xs.length = 0
  · obtain rfl : xs = [] := List.eq_nil_of_length_eq_zero h0
    obtain ⟨a, c, rfl⟩ := h.form
    simp only [List.length_nil]
    refine GO ?_
    refine st_call (bitlen 0 (by omega)) (by rfl) (R := [slA (.slice a 0 c) (List.map vi []) sp]) (by simp [V.Spl]) (fun v Post hv => ?_)
    obtain ⟨⟨n, h1, h2, h3, rfl⟩, rfl⟩ := hv
    simp only [List.nil_append]
    refine GO ?_
    refine st_call (pdq0_int a c n) (by rfl) (R := [slA (.slice a 0 c) (List.map vi []) sp]) (by simp [V.Spl]) (fun v Post hv => ?_)
    obtain ⟨rfl, rfl⟩ := hv
    simp only [List.nil_append]
    refine GO ?_
    exact ⟨.inl rfl, _, _, .nil, by exact IMx, rfl, [], ⟨.refl _, .nil⟩, rfl⟩
  · obtain ⟨b, o, c, rfl, hc, hl⟩ := h.some (by omega)
    refine GO ?_
    rw [hw]
    refine st_call (bitlen xs.length (by omega)) (by rfl) (R := [slA (.slice (some ⟨b, o, none⟩) xs.length c) (xs.map vi) sp]) (by simp [V.Spl]) (fun v Post hv => ?_)
    obtain ⟨⟨n, h1, h2, h3, rfl⟩, rfl⟩ := hv
    simp only [List.nil_append]
    refine GO ?_
    refine VO.split .here (B := rowF b o vi xs.length (toF 0 xs)) (C := cellsAt b (o + xs.length) sp) ?_ ?_
    · rw [rowF_of]
      simp only [slA, cellsAt_append, List.length_map]
      exact .refl _
    refine st_call (pdq_int b o xs.length c hn xs.length (toF 0 xs) 0 xs.length n (by omega) (by omega) (by omega) (fun h => by omega) (Inj.of_nodup hd)) (by rfl) (by exact SPx) (fun v Post hv => ?_)
    obtain ⟨rfl, g, s1, r1, rfl⟩ := hv
    simp only [CNx]
    refine GO ?_
    refine endQ_mk (Post := [slA (.slice (some ⟨b, o, none⟩) xs.length c) ((listOf xs.length g).map vi) sp]) (.inl rfl) .nil ⟨rfl, listOf xs.length g, ⟨?_, r1.list⟩, rfl⟩ ?_
    · have := s1.perm (n := xs.length) (by omega) (by omega)
      rwa [listOf_toF] at this
    · rw [rowF_list]
      refine Imp.perm ?_
      simp only [slA, cellsAt_append, List.length_map, listOf_length, List.flatten_cons, List.flatten_nil, List.append_nil]
      exact .refl _
end Go.Proofs.YtgindbomnbojeaaGreat

/-
  Sorting: which comes first; putting in.
-/
import Derived.Test.YtgindbomnbojeaaGreatSA
import Derived.Test.YtgindbomnbojeaaGreatSU
set_option linter.unusedSimpArgs false
set_option linter.unusedVariables false
namespace Go.Proofs.YtgindbomnbojeaaGreat
open Go Go.V
set_option maxHeartbeats 800000
theorem isnan_string (x : ByteArray) : Fun Tryz.prog 155 [Value.string x] [] (fun v Post => v = .bool false ∧ Post = []) := by
  refine Fun.intro low155 (by simp [n155]) ?_
  refine GO ?_
  refine ⟨.inr rfl, _, _, .tmp (by rfl) .nil, by exact IMx, ?_, rfl⟩
  simp [tup]
theorem less_string : LessIs Tryz.prog 148 Value.string ltS := by
  intro x y
  refine Fun.intro low148 (by simp [n148]) ?_
  refine GO ?_
  refine st_call (isnan_string x) (by rfl) (R := []) (by simp [V.Spl]) (fun v Post hv => ?_)
  obtain ⟨rfl, rfl⟩ := hv
  refine GO ?_
  refine ⟨.inr rfl, _, _, .tmp (by rfl) .nil, by exact IMx, ?_, rfl⟩
  rfl
abbrev slF_string (b o n c : Nat) : Value := .slice (some ⟨b, o, none⟩) n c
theorem insert_string (b o N c : Nat) (f : Int → ByteArray) (a z : Int) (h : 0 ≤ a ∧ a ≤ z ∧ z ≤ N) (hN : N ≤ 140737488355328) :
    Fun Tryz.prog 142 [slF_string b o N c, vi a, vi z] [rowF b o Value.string N f] (fun v Post => v = .tuple #[] ∧ ∃ g, Sw a z f g ∧ Srt ltS a z g ∧ Post = [rowF b o Value.string N g]) := by
  have hless := less_string
  refine Fun.intro low142 (by simp [n142]) ?_
  refine GO ?_
  refine VC.loop (α := Int × (Int → ByteArray)) (Γf := fun s => [(0, slF_string b o N c), (1, vi a), (2, vi z), (6, vi s.1)]) (Hf := fun s => [rowF b o Value.string N s.2])
    (I := fun s => a + 1 ≤ s.1 ∧ (s.1 ≤ z ∨ s.1 = a + 1) ∧ Sw a z f s.2 ∧ Srt ltS a s.1 s.2) (μ := fun s => (z + 1 - s.1).toNat) (a + 1, f) ⟨by simp, .inr rfl, .refl, fun p q h1 h2 h3 => by simp only at h3; omega⟩ (by exact SUx) (by exact IMx) ?_
  rintro ⟨i, g⟩ ⟨hi1, hi2, hsw, hsrt⟩
  simp only at hi1 hi2 hsw hsrt
  refine GO ?_
  (first | (apply VC.seq_cond; rfl) | (apply VC.cond; rfl))
  · intro hlt
    have hlt : i < z := by simpa using hlt
    refine GO ?_
    refine VC.loop (α := Int × (Int → ByteArray)) (Γf := fun s => [(0, slF_string b o N c), (1, vi a), (2, vi z), (6, vi i), (7, vi s.1)]) (Hf := fun s => [rowF b o Value.string N s.2])
      (I := fun s => a ≤ s.1 ∧ s.1 ≤ i ∧ Sw a z f s.2 ∧ InsI ltS a i s.1 s.2) (μ := fun s => s.1.toNat) (i, g) ⟨by simp only; omega, by simp, hsw, .start hsrt⟩ (by exact SUx) (by exact IMx) ?_
    rintro ⟨j, g'⟩ ⟨hj1, hj2, hsw', hins⟩
    simp only at hj1 hj2 hsw' hins
    refine GO ?_
    by_cases hja : a < j
    · simp only [hja, decide_true]
      refine GOS ?_
      cases hl : ltS (g' j) (g' (j - 1)) with
      | true =>
        refine GOS ?_
        refine ⟨(j - 1, swp g' j (j - 1)), ⟨by simp only; omega, by simp only; omega, hsw'.step (by omega) (by omega), hins.swap ltS_ok hl hja hj2⟩, by simp only; omega, by exact SUx, by exact IMx⟩
      | false =>
        refine GOS ?_
        refine ⟨(i + 1, g'), ⟨by simp only; omega, by simp only; omega, hsw', hins.stop ltS_ok hl hj2⟩, by simp only; omega, by exact SUx, by exact IMx⟩
    · simp only [hja, decide_false]
      obtain rfl : j = a := by omega
      refine GOS ?_
      refine ⟨(i + 1, g'), ⟨by simp only; omega, by simp only; omega, hsw', hins.first⟩, by simp only; omega, by exact SUx, by exact IMx⟩
  · intro hge
    have hge : ¬ i < z := by simpa using hge
    refine GO ?_
    refine ⟨.inl rfl, _, _, .nil, by exact IMx, rfl, g, hsw, ?_, rfl⟩
    intro p q h1 h2 h3
    exact hsrt p q h1 h2 (by omega)
set_option maxHeartbeats 1600000
theorem sift_string (b o N c : Nat) (f : Int → ByteArray) (lo hi s : Int) (h : 0 ≤ s ∧ 0 ≤ lo ∧ s + hi ≤ N ∧ 0 ≤ hi) (hlo : lo ≤ N) (hN : N ≤ 140737488355328) (hp : Hp ltS s (lo + 1) hi f) :
    Fun Tryz.prog 152 [slF_string b o N c, vi lo, vi hi, vi s] [rowF b o Value.string N f] (fun v Post => v = .tuple #[] ∧ ∃ g, Sw s (s + hi) f g ∧ Hp ltS s lo hi g ∧ Post = [rowF b o Value.string N g]) := by
  have hless := less_string
  refine Fun.intro low152 (by simp [n152]) ?_
  refine GO ?_
  refine VC.loop (α := Int × (Int → ByteArray)) (Γf := fun y => [(0, slF_string b o N c), (2, vi hi), (3, vi s), (8, vi y.1)]) (Hf := fun y => [rowF b o Value.string N y.2])
    (I := fun y => lo ≤ y.1 ∧ y.1 ≤ N ∧ Sw s (s + hi) f y.2 ∧ HpX ltS s lo hi y.1 y.2) (μ := fun y => (N - y.1).toNat) (lo, f) ⟨by simp, by simp only; omega, .refl, .start hp (by omega)⟩ (by exact SUx) (by exact IMx) ?_
  rintro ⟨x, g⟩ ⟨hx1, hx2, hsw, hx⟩
  simp only at hx1 hx2 hsw hx
  refine GO ?_
  by_cases hd : hi ≤ 2 * x + 1
  · simp only [hd, decide_true]
    refine GO ?_
    exact ⟨.inl rfl, _, _, .nil, by exact IMx, rfl, g, hsw, hx.none hd, rfl⟩
  simp only [hd, decide_false]
  refine GO ?_
  by_cases hd2 : 2 * x + 1 + 1 < hi
  · simp only [hd2, decide_true]
    refine GOS ?_
    rw [show s + (2 * x + 1) + 1 = s + (2 * x + 2) by omega]
    cases hl0 : ltS (g (s + (2 * x + 1))) (g (s + (2 * x + 2))) with
    | true =>
      have hmax : ∀ c, Kid x c → c < hi → ltS (g (s + (2 * x + 1 + 1))) (g (s + c)) = false := by
        intro c hk hc
        rw [show s + (2 * x + 1 + 1) = s + (2 * x + 2) by omega]
        rcases hk with rfl | rfl
        · exact (ltS_ok).asymm _ _ hl0
        · exact (ltS_ok).refl _
      have hC : Kid x (2 * x + 1 + 1) := .inr (by omega)
      have hCi : 2 * x + 1 + 1 < hi := by omega
      refine GO ?_
      generalize 2 * x + 1 + 1 = C at hC hCi hmax ⊢
      have hCk : x < C := by unfold Kid at hC; omega
      refine GOS ?_
      cases hl : ltS (g (s + x)) (g (s + C)) with
      | true =>
        refine GOS ?_
        refine ⟨(C, swp g (s + x) (s + C)), ⟨by simp only; omega, by simp only; omega, hsw.step (by omega) (by omega), hx.down ltS_ok (by omega) hx1 hC hCi hmax hl⟩, by simp only; omega, by exact SUx, by exact IMx⟩
      | false =>
        refine GOS ?_
        exact ⟨.inr rfl, _, _, .nil, by exact IMx, rfl, g, hsw, hx.stop ltS_ok hmax hl, rfl⟩
    | false =>
      have hmax : ∀ c, Kid x c → c < hi → ltS (g (s + (2 * x + 1))) (g (s + c)) = false := by
        intro c hk hc
        rcases hk with rfl | rfl
        · exact (ltS_ok).refl _
        · exact hl0
      have hC : Kid x (2 * x + 1) := .inl rfl
      have hCi : 2 * x + 1 < hi := by omega
      refine GO ?_
      generalize 2 * x + 1 = C at hC hCi hmax hd hd2 hl0 ⊢
      have hCk : x < C := by unfold Kid at hC; omega
      refine GOS ?_
      cases hl : ltS (g (s + x)) (g (s + C)) with
      | true =>
        refine GOS ?_
        refine ⟨(C, swp g (s + x) (s + C)), ⟨by simp only; omega, by simp only; omega, hsw.step (by omega) (by omega), hx.down ltS_ok (by omega) hx1 hC hCi hmax hl⟩, by simp only; omega, by exact SUx, by exact IMx⟩
      | false =>
        refine GOS ?_
        exact ⟨.inr rfl, _, _, .nil, by exact IMx, rfl, g, hsw, hx.stop ltS_ok hmax hl, rfl⟩
  · simp only [hd2, decide_false]
    have hmax : ∀ c, Kid x c → c < hi → ltS (g (s + (2 * x + 1))) (g (s + c)) = false := by
      intro c hk hc
      rcases hk with rfl | rfl
      · exact (ltS_ok).refl _
      · omega
    have hC : Kid x (2 * x + 1) := .inl rfl
    have hCi : 2 * x + 1 < hi := by omega
    refine GO ?_
    generalize 2 * x + 1 = C at hC hCi hmax hd hd2 ⊢
    have hCk : x < C := by unfold Kid at hC; omega
    refine GOS ?_
    cases hl : ltS (g (s + x)) (g (s + C)) with
    | true =>
      refine GOS ?_
      refine ⟨(C, swp g (s + x) (s + C)), ⟨by simp only; omega, by simp only; omega, hsw.step (by omega) (by omega), hx.down ltS_ok (by omega) hx1 hC hCi hmax hl⟩, by simp only; omega, by exact SUx, by exact IMx⟩
    | false =>
      refine GOS ?_
      exact ⟨.inr rfl, _, _, .nil, by exact IMx, rfl, g, hsw, hx.stop ltS_ok hmax hl, rfl⟩
theorem heap_string (b o N c : Nat) (f : Int → ByteArray) (a z : Int) (h : 0 ≤ a ∧ a ≤ z ∧ z ≤ N) (hN : N ≤ 140737488355328) :
    Fun Tryz.prog 143 [slF_string b o N c, vi a, vi z] [rowF b o Value.string N f] (fun v Post => v = .tuple #[] ∧ ∃ g, Sw a z f g ∧ Srt ltS a z g ∧ Post = [rowF b o Value.string N g]) := by
  refine Fun.intro low143 (by simp [n143]) ?_
  refine GO ?_
  have hq : IntKind.i64.wrap ((z - a - 1).tdiv 2) = (z - a - 1).tdiv 2 := wrap64 (by
    by_cases e : z - a = 0
    · rw [e]; decide
    · rw [Int.tdiv_eq_ediv_of_nonneg (by omega)]; omega)
  rw [hq]
  have hq2 : -1 ≤ (z - a - 1).tdiv 2 ∧ (z - a - 1).tdiv 2 ≤ z - a ∧ z - a ≤ 2 * ((z - a - 1).tdiv 2 + 1) + 1 := by
    by_cases e : z - a = 0
    · rw [e]; decide
    · rw [Int.tdiv_eq_ediv_of_nonneg (by omega)]; omega
  generalize (z - a - 1).tdiv 2 = m0 at hq2 ⊢
  refine GO ?_
  refine VC.loop (α := Int × (Int → ByteArray)) (Γf := fun y => [(0, slF_string b o N c), (6, vi a), (7, vi 0), (8, vi (z - a)), (9, vi y.1)]) (Hf := fun y => [rowF b o Value.string N y.2])
    (I := fun y => -1 ≤ y.1 ∧ y.1 ≤ z - a ∧ Sw a z f y.2 ∧ Hp ltS a (y.1 + 1) (z - a) y.2) (μ := fun y => (y.1 + 1).toNat) (m0, f) ⟨hq2.1, hq2.2.1, .refl, .none hq2.2.2⟩ (by exact SUx) (by exact IMx) ?_
  rintro ⟨i, g⟩ ⟨hi1, hi2, hsw, hp⟩
  simp only at hi1 hi2 hsw hp
  refine GO ?_
  (first | (apply VC.seq_cond; rfl) | (apply VC.cond; rfl))
  · intro hge
    have hge : 0 ≤ i := by simpa using hge
    refine GO ?_
    refine st_call (sift_string b o N c g i (z - a) a (by omega) (by omega) hN hp) (by rfl) (by exact SPx) (fun v Post hv => ?_)
    obtain ⟨rfl, g1, s1, hp1, rfl⟩ := hv
    simp only [CNx]
    refine GO ?_
    refine ⟨(i - 1, g1), ⟨by simp only; omega, by simp only; omega, hsw.trans (s1.wide (by omega) (by omega)), by simp only; rw [Int.sub_add_cancel]; exact hp1⟩, by simp only; omega, by exact SUx, by exact IMx⟩
  intro hlt
  have hlt : ¬ 0 ≤ i := by simpa using hlt
  obtain rfl : i = -1 := by omega
  refine GO ?_
  refine VC.loop (α := Int × (Int → ByteArray)) (Γf := fun y => [(0, slF_string b o N c), (6, vi a), (7, vi 0), (10, vi y.1)]) (Hf := fun y => [rowF b o Value.string N y.2])
    (I := fun y => -1 ≤ y.1 ∧ y.1 < z - a ∧ Sw a z f y.2 ∧ Hp ltS a 0 (y.1 + 1) y.2 ∧ Top ltS a (y.1 + 1) (z - a) y.2) (μ := fun y => (y.1 + 1).toNat) (z - a - 1, g)
    ⟨by simp only; omega, by simp only; omega, hsw, by simp only; rw [Int.sub_add_cancel]; exact hp, fun p q h1 h2 h3 h4 => by simp only at h4; omega⟩ (by exact SUx) (by exact IMx) ?_
  clear hsw hp hi1 hi2 hlt
  rintro ⟨i, g⟩ ⟨hi1, hi2, hsw, hp, ht⟩
  simp only at hi1 hi2 hsw hp ht
  refine GO ?_
  (first | (apply VC.seq_cond; rfl) | (apply VC.cond; rfl))
  · intro hge
    have hge : 0 ≤ i := by simpa using hge
    refine GOS ?_
    refine st_call (sift_string b o N c (swp g a (a + i)) 0 i a (by omega) (by omega) hN (fun r c h1 h2 h3 => (hp.popX hge).1 r c (by omega) h2 h3 (by omega))) (by rfl) (by exact SPx) (fun v Post hv => ?_)
    obtain ⟨rfl, g1, s1, hp1, rfl⟩ := hv
    simp only [CNx]
    refine GO ?_
    refine ⟨(i - 1, g1), ⟨by simp only; omega, by simp only; omega, (hsw.step (by omega) (by omega)).trans (s1.wide (by omega) (by omega)), by simp only; rw [Int.sub_add_cancel]; exact hp1,
      by simp only; rw [Int.sub_add_cancel]; exact ht.pop ltS_ok hp hge hi2 s1⟩, by simp only; omega, by exact SUx, by exact IMx⟩
  · intro hlt
    have hlt : ¬ 0 ≤ i := by simpa using hlt
    obtain rfl : i = -1 := by omega
    refine GO ?_
    refine ⟨.inl rfl, _, _, .nil, by exact IMx, rfl, g, hsw, ?_, rfl⟩
    intro p q h1 h2 h3
    have := ht (p - a) (q - a) (by omega) (by omega) (by omega) (by omega)
    rwa [show a + (q - a) = q by omega, show a + (p - a) = p by omega] at this
set_option maxRecDepth 100000
theorem reverse_string (b o N c : Nat) (f : Int → ByteArray) (a z : Int) (h : 0 ≤ a ∧ a ≤ z ∧ z ≤ N) (hN : N ≤ 140737488355328) :
    Fun Tryz.prog 146 [slF_string b o N c, vi a, vi z] [rowF b o Value.string N f] (fun v Post => v = .tuple #[] ∧ ∃ g, Sw a z f g ∧ Post = [rowF b o Value.string N g]) := by
  refine Fun.intro low146 (by simp [n146]) ?_
  refine GO ?_
  refine VC.loop (α := Int × Int × (Int → ByteArray)) (Γf := fun y => [(0, slF_string b o N c), (6, vi y.1), (7, vi y.2.1)]) (Hf := fun y => [rowF b o Value.string N y.2.2])
    (I := fun y => a ≤ y.1 ∧ y.1 ≤ z ∧ a - 1 ≤ y.2.1 ∧ y.2.1 < z ∧ Sw a z f y.2.2) (μ := fun y => (y.2.1 + 1 - y.1).toNat) (a, z - 1, f) ⟨by simp, by simp only; omega, by simp only; omega, by simp only; omega, .refl⟩ (by exact SUx) (by exact IMx) ?_
  rintro ⟨i, j, g⟩ ⟨h1, h2, h3, h4, hsw⟩
  simp only at h1 h2 h3 h4 hsw
  refine GO ?_
  (first | (apply VC.seq_cond; rfl) | (apply VC.cond; rfl))
  · intro hlt
    have hlt : i < j := by simpa using hlt
    refine GOS ?_
    refine ⟨(i + 1, j - 1, swp g i j), ⟨by simp only; omega, by simp only; omega, by simp only; omega, by simp only; omega, hsw.step (by omega) (by omega)⟩, by simp only; omega, by exact SUx, by exact IMx⟩
  · intro hge
    refine GO ?_
    exact ⟨.inl rfl, _, _, .nil, by exact IMx, rfl, g, hsw, rfl⟩
theorem order2_string (b o N c q : Nat) (f : Int → ByteArray) (x y k : Int) (hx : 0 ≤ x ∧ x < N) (hy : 0 ≤ y ∧ y < N) (hk : 0 ≤ k ∧ k < 1000) :
    Fun Tryz.prog 156 [slF_string b o N c, vi x, vi y, ptr0 q] [rowF b o Value.string N f, cellsAt q 0 [vi k]] (fun v Post => ∃ p r k', ((p = x ∧ r = y) ∨ (p = y ∧ r = x)) ∧ k ≤ k' ∧ k' ≤ k + 1 ∧ v = .tuple #[vi p, vi r] ∧ Post = [rowF b o Value.string N f, cellsAt q 0 [vi k']]) := by
  have hless := less_string
  refine Fun.intro low156 (by simp [n156]) ?_
  refine GOS ?_
  cases hl : ltS (f y) (f x) with
  | true =>
    refine GO ?_
    refine ⟨.inr rfl, _, _, .tmp (by rfl) (.tmp (by rfl) .nil), by exact IMx, ⟨y, x, k + 1, .inr ⟨rfl, rfl⟩, by omega, by omega, rfl, rfl⟩⟩
  | false =>
    refine GO ?_
    refine ⟨.inr rfl, _, _, .tmp (by rfl) (.tmp (by rfl) .nil), by exact IMx, ⟨x, y, k, .inl ⟨rfl, rfl⟩, by omega, by omega, rfl, rfl⟩⟩
theorem median_string (b o N c q : Nat) (f : Int → ByteArray) (x y w k : Int) (hx : 0 ≤ x ∧ x < N) (hy : 0 ≤ y ∧ y < N) (hw : 0 ≤ w ∧ w < N) (hk : 0 ≤ k ∧ k < 900) :
    Fun Tryz.prog 154 [slF_string b o N c, vi x, vi y, vi w, ptr0 q] [rowF b o Value.string N f, cellsAt q 0 [vi k]] (fun v Post => ∃ p k', (p = x ∨ p = y ∨ p = w) ∧ k ≤ k' ∧ k' ≤ k + 3 ∧ v = vi p ∧ Post = [rowF b o Value.string N f, cellsAt q 0 [vi k']]) := by
  refine Fun.intro low154 (by simp [n154]) ?_
  refine GO ?_
  refine st_call (order2_string b o N c q f x y k hx hy (by omega)) (by rfl) (by exact SPx) (fun v Post hv => ?_)
  obtain ⟨p1, r1, k1, e1, l1, u1, rfl, rfl⟩ := hv
  simp only [CNx]
  refine GO ?_
  refine st_call (order2_string b o N c q f r1 w k1 (by omega) hw (by omega)) (by rfl) (by exact SPx) (fun v Post hv => ?_)
  obtain ⟨p2, r2, k2, e2, l2, u2, rfl, rfl⟩ := hv
  simp only [CNx]
  refine GO ?_
  refine st_call (order2_string b o N c q f p1 p2 k2 (by omega) (by omega) (by omega)) (by rfl) (by exact SPx) (fun v Post hv => ?_)
  obtain ⟨p3, r3, k3, e3, l3, u3, rfl, rfl⟩ := hv
  simp only [CNx]
  refine GO ?_
  refine ⟨.inr rfl, _, _, .tmp (by rfl) .nil, by exact IMx, ⟨r3, k3, by omega, by omega, by omega, rfl, rfl⟩⟩
theorem adjacent_string (b o N c q : Nat) (f : Int → ByteArray) (x k : Int) (hx : 1 ≤ x ∧ x + 1 < N) (hN : N ≤ 140737488355328) (hk : 0 ≤ k ∧ k < 900) :
    Fun Tryz.prog 153 [slF_string b o N c, vi x, ptr0 q] [rowF b o Value.string N f, cellsAt q 0 [vi k]] (fun v Post => ∃ p k', (x - 1 ≤ p ∧ p ≤ x + 1) ∧ k ≤ k' ∧ k' ≤ k + 3 ∧ v = vi p ∧ Post = [rowF b o Value.string N f, cellsAt q 0 [vi k']]) := by
  refine Fun.intro low153 (by simp [n153]) ?_
  refine GO ?_
  refine st_call (median_string b o N c q f (x - 1) x (x + 1) k (by omega) (by omega) (by omega) (by omega)) (by rfl) (by exact SPx) (fun v Post hv => ?_)
  obtain ⟨p1, k1, e1, l1, u1, rfl, rfl⟩ := hv
  simp only [CNx]
  refine GO ?_
  refine ⟨.inr rfl, _, _, .tmp (by rfl) .nil, by exact IMx, ⟨p1, k1, by omega, by omega, by omega, rfl, rfl⟩⟩
theorem q4_string (l : Int) (h : 0 ≤ l ∧ l ≤ 140737488355328) : IntKind.i64.wrap (l.tdiv 4) = l / 4 := by
  rw [Int.tdiv_eq_ediv_of_nonneg (by omega)]; exact wrap64 (by omega)
theorem choose_string (b o N c : Nat) (f : Int → ByteArray) (a z : Int) (h : 0 ≤ a ∧ a + 8 ≤ z ∧ z ≤ N) (hN : N ≤ 140737488355328) :
    Fun Tryz.prog 145 [slF_string b o N c, vi a, vi z] [rowF b o Value.string N f] (fun v Post => ∃ p t, (a ≤ p ∧ p < z) ∧ v = .tuple #[vi p, vi t] ∧ Post = [rowF b o Value.string N f]) := by
  refine Fun.intro low145 (by simp [n145]) ?_
  refine GO ?_
  refine st_alloc (fun q => ?_)
  refine GO ?_
  have w0 : IntKind.i64.wrap ((z - a) / 4) = (z - a) / 4 := wrap64 (by omega)
  have w1 : IntKind.i64.wrap ((z - a) / 4 * 2) = (z - a) / 4 * 2 := wrap64 (by omega)
  have w2 : IntKind.i64.wrap ((z - a) / 4 * 3) = (z - a) / 4 * 3 := wrap64 (by omega)
  have w3 : IntKind.i64.wrap (a + (z - a) / 4) = a + (z - a) / 4 := wrap64 (by omega)
  have w4 : IntKind.i64.wrap (a + (z - a) / 4 * 2) = a + (z - a) / 4 * 2 := wrap64 (by omega)
  have w5 : IntKind.i64.wrap (a + (z - a) / 4 * 3) = a + (z - a) / 4 * 3 := wrap64 (by omega)
  simp only [q4_string (z - a) (by omega), Int.mul_one, w0, w1, w2, w3, w4, w5]
  refine GO ?_
  by_cases h50 : 50 ≤ z - a
  · simp only [show (8 : Int) ≤ z - a by omega, decide_true]
    refine GO ?_
    simp only [h50, decide_true]
    refine GO ?_
    refine st_call (adjacent_string b o N c q f (a + (z - a) / 4) 0 (by omega) hN (by omega)) (by rfl) (by exact SPx) (fun v Post hv => ?_)
    obtain ⟨i1, k1, e1, l1, u1, rfl, rfl⟩ := hv
    simp only [CNx]
    refine GO ?_
    refine st_call (adjacent_string b o N c q f (a + (z - a) / 4 * 2) k1 (by omega) hN (by omega)) (by rfl) (by exact SPx) (fun v Post hv => ?_)
    obtain ⟨i2, k2, e2, l2, u2, rfl, rfl⟩ := hv
    simp only [CNx]
    refine GO ?_
    refine st_call (adjacent_string b o N c q f (a + (z - a) / 4 * 3) k2 (by omega) hN (by omega)) (by rfl) (by exact SPx) (fun v Post hv => ?_)
    obtain ⟨i3, k3, e3, l3, u3, rfl, rfl⟩ := hv
    simp only [CNx]
    refine GO ?_
    refine st_call (median_string b o N c q f i1 i2 i3 k3 (by omega) (by omega) (by omega) (by omega)) (by rfl) (by exact SPx) (fun v Post hv => ?_)
    obtain ⟨p, ks, e4, l4, u4, rfl, rfl⟩ := hv
    simp only [CNx]
    refine GO ?_
    by_cases s0 : ks = 0
    · simp only [s0, decide_true]
      refine GO ?_
      refine ⟨.inr rfl, _, _, .tmp (by rfl) (.tmp (by rfl) .nil), by exact IMx, ⟨p, _, by omega, rfl, rfl⟩⟩
    simp only [s0, decide_false]
    refine GO ?_
    by_cases s1 : ks = 12
    · simp only [s1, decide_true]
      refine GO ?_
      refine ⟨.inr rfl, _, _, .tmp (by rfl) (.tmp (by rfl) .nil), by exact IMx, ⟨p, _, by omega, rfl, rfl⟩⟩
    simp only [s1, decide_false]
    refine GO ?_
    refine ⟨.inr rfl, _, _, .tmp (by rfl) (.tmp (by rfl) .nil), by exact IMx, ⟨p, _, by omega, rfl, rfl⟩⟩
  · simp only [show (8 : Int) ≤ z - a by omega, decide_true]
    refine GO ?_
    simp only [h50, decide_false]
    refine GO ?_
    refine st_call (median_string b o N c q f (a + (z - a) / 4) (a + (z - a) / 4 * 2) (a + (z - a) / 4 * 3) 0 (by omega) (by omega) (by omega) (by omega)) (by rfl) (by exact SPx) (fun v Post hv => ?_)
    obtain ⟨p, ks, e4, l4, u4, rfl, rfl⟩ := hv
    simp only [CNx]
    refine GO ?_
    by_cases s0 : ks = 0
    · simp only [s0, decide_true]
      refine GO ?_
      refine ⟨.inr rfl, _, _, .tmp (by rfl) (.tmp (by rfl) .nil), by exact IMx, ⟨p, _, by omega, rfl, rfl⟩⟩
    simp only [s0, decide_false]
    refine GO ?_
    by_cases s1 : ks = 12
    · simp only [s1, decide_true]
      refine GO ?_
      refine ⟨.inr rfl, _, _, .tmp (by rfl) (.tmp (by rfl) .nil), by exact IMx, ⟨p, _, by omega, rfl, rfl⟩⟩
    simp only [s1, decide_false]
    refine GO ?_
    refine ⟨.inr rfl, _, _, .tmp (by rfl) (.tmp (by rfl) .nil), by exact IMx, ⟨p, _, by omega, rfl, rfl⟩⟩
theorem break_string (b o N c : Nat) (f : Int → ByteArray) (a z : Int) (h : 0 ≤ a ∧ a ≤ z ∧ z ≤ N) (hN : N ≤ 1073741823) :
    Fun Tryz.prog 144 [slF_string b o N c, vi a, vi z] [rowF b o Value.string N f] (fun v Post => v = .tuple #[] ∧ ∃ g, Sw a z f g ∧ Post = [rowF b o Value.string N g]) := by
  refine Fun.intro low144 (by simp [n144]) ?_
  refine GO ?_
  by_cases h8 : 8 ≤ z - a
  rotate_left
  · simp only [h8, decide_false]
    refine GO ?_
    refine VC.skip ?_
    exact ⟨.inl rfl, _, _, .nil, by exact IMx, rfl, f, .refl, rfl⟩
  simp only [h8, decide_true]
  refine GO ?_
  refine st_alloc (fun q => ?_)
  refine GO ?_
  obtain ⟨L, hL⟩ : ∃ L : Nat, (L : Int) = z - a := ⟨(z - a).toNat, by omega⟩
  rw [← hL]
  refine st_call (nextpow L (by omega)) (by rfl) (R := [cellsAt q 0 [.int .u64 (IntKind.u64.wrap L)], rowF b o Value.string N f]) (by simp [V.Spl]) (fun v Post hv => ?_)
  obtain ⟨⟨m, m1, m2, rfl⟩, rfl⟩ := hv
  have w0 : IntKind.i64.wrap ((L : Int) / 4 * 2) = (L : Int) / 4 * 2 := wrap64 (by omega)
  have w1 : IntKind.i64.wrap (a + (L : Int) / 4 * 2) = a + (L : Int) / 4 * 2 := wrap64 (by omega)
  have w2 : IntKind.i64.wrap (a + (L : Int) / 4 * 2 - 1) = a + (L : Int) / 4 * 2 - 1 := wrap64 (by omega)
  have w3 : IntKind.i64.wrap (a + (L : Int) / 4 * 2 + 1) = a + (L : Int) / 4 * 2 + 1 := wrap64 (by omega)
  simp only [List.nil_append]
  refine GO ?_
  simp only [q4_string L (by omega), w0, w1, w2, w3]
  refine VC.loop (α := Int × Int × (Int → ByteArray)) (Γf := fun y => [(0, slF_string b o N c), (1, vi a), (6, vi L), (7, ptr0 q), (8, .int .u64 m), (9, vi y.1)]) (Hf := fun y => [cellsAt q 0 [.int .u64 y.2.1], rowF b o Value.string N y.2.2])
    (I := fun y => a + (L : Int) / 4 * 2 - 1 ≤ y.1 ∧ y.1 ≤ a + (L : Int) / 4 * 2 + 2 ∧ Sw a z f y.2.2) (μ := fun y => (a + (L : Int) / 4 * 2 + 2 - y.1).toNat) (a + (L : Int) / 4 * 2 - 1, IntKind.u64.wrap L, f) ⟨by simp, by simp only; omega, .refl⟩ (by exact SUx) (by exact IMx) ?_
  rintro ⟨i, x, g⟩ ⟨h1, h2, hsw⟩
  simp only at h1 h2 hsw
  refine GO ?_
  simp only [q4_string L (by omega), w0, w1, w2, w3]
  (first | (apply VC.seq_cond; rfl) | (apply VC.cond; rfl))
  · intro hlt
    have hlt : i ≤ a + (L : Int) / 4 * 2 + 1 := by simpa using hlt
    refine GO ?_
    refine st_call (next_spec q x) (by rfl) (by exact SPx) (fun v Post hv => ?_)
    obtain ⟨y, rfl, rfl⟩ := hv
    simp only [CNx]
    refine GO ?_
    have hm : IntKind.u64.wrap ((m : Int) - 1) = (m : Int) - 1 := by simp only [IntKind.wrap, IntKind.bits, IntKind.signed]; simp; omega
    rw [hm]
    have hand : ∃ t : Nat, t < m ∧ (BitVec.ofInt 64 y &&& BitVec.ofInt 64 ((m : Int) - 1)).toNat = t := by
      refine ⟨_, ?_, rfl⟩
      rw [BitVec.toNat_and]
      refine Nat.lt_of_le_of_lt Nat.and_le_right ?_
      rw [BitVec.toNat_ofInt]
      omega
    obtain ⟨t, t1, t2⟩ := hand
    have t3 : IntKind.i64.wrap (IntKind.u64.wrap (t : Int)) = t := by simp only [IntKind.wrap, IntKind.bits, IntKind.signed]; simp; omega
    rw [show IntKind.u64.bits = 64 from rfl, t2, t3]
    refine GO ?_
    by_cases ht : (L : Int) ≤ t
    · simp only [ht, decide_true]
      refine GOS ?_
      refine ⟨(i + 1, y, swp g i (a + ((t : Int) - L))), ⟨by simp only; omega, by simp only; omega, hsw.step (by omega) (by omega)⟩, by simp only; omega, by exact SUx, by exact IMx⟩
    · simp only [ht, decide_false]
      refine GOS ?_
      refine ⟨(i + 1, y, swp g i (a + (t : Int))), ⟨by simp only; omega, by simp only; omega, hsw.step (by omega) (by omega)⟩, by simp only; omega, by exact SUx, by exact IMx⟩
  · intro hge
    refine GO ?_
    exact ⟨.inl rfl, _, _, .nil, by exact IMx, rfl, g, hsw, rfl⟩
theorem part_string (b o N c : Nat) (f : Int → ByteArray) (a z p : Int) (h : 0 ≤ a ∧ z ≤ N) (hp : a ≤ p ∧ p < z) (hN : N ≤ 140737488355328) :
    Fun Tryz.prog 150 [slF_string b o N c, vi a, vi z, vi p] [rowF b o Value.string N f] (fun v Post => ∃ m t g, (a ≤ m ∧ m < z) ∧ Sw a z f g ∧ Parted ltS a z m g ∧ v = .tuple #[vi m, .bool t] ∧ Post = [rowF b o Value.string N g]) := by
  have hless := less_string
  refine Fun.intro low150 (by simp [n150]) ?_
  refine GOS ?_
  refine VC.loop (α := Int) (Γf := fun i => [(0, slF_string b o N c), (1, vi a), (10, vi i), (11, vi (z - 1))]) (Hf := fun i => [rowF b o Value.string N (swp f a p)])
    (I := fun i => PI ltS a z i (z - 1) (f p) (swp f a p)) (μ := fun i => (z - i).toNat) (a + 1) ?_ (by exact SUx) (by exact IMx) ?_
  · refine ⟨?_, fun k k1 k2 => by omega, fun k k1 k2 => by omega, by omega, by omega, by omega⟩
    rw [swp_at]
    by_cases e : a = p
    · rw [if_pos e, e]
    · rw [if_neg e, if_pos rfl]
  have hsw : Sw a z f (swp f a p) := Sw.refl.step (by omega) (by omega)
  generalize swp f a p = g at hsw ⊢
  generalize f p = P
  intro i hI
  have i1 := hI.lo
  have i2 := hI.mid
  refine GO ?_
  by_cases hij : i ≤ z - 1
  · simp only [hij, decide_true]
    refine GOS ?_
    rw [hI.piv]
    cases hl : ltS (g i) P with
    | true =>
      refine GO ?_
      refine ⟨i + 1, hI.up hij hl, by omega, by exact SUx, by exact IMx⟩
    | false =>
      refine GO ?_
      refine VC.loop (α := Int) (Γf := fun j => [(0, slF_string b o N c), (1, vi a), (10, vi i), (11, vi j)]) (Hf := fun i => [rowF b o Value.string N g])
        (I := fun j => PI ltS a z i j P g) (μ := fun j => (j + 1).toNat) (z - 1) hI (by exact SUx) (by exact IMx) ?_
      clear hI i2 hij
      intro j hI
      have i2 := hI.mid
      have i3 := hI.hi
      refine GO ?_
      by_cases hij : i ≤ j
      · simp only [hij, decide_true]
        refine GOS ?_
        rw [hI.piv]
        cases hl2 : ltS (g j) P with
        | false =>
          refine GO ?_
          refine ⟨j - 1, hI.down hij hl2, by omega, by exact SUx, by exact IMx⟩
        | true =>
          refine GO ?_
          simp only [show ¬ j < i by omega, decide_false]
          refine GOS ?_
          refine VC.loop (α := Int × Int × (Int → ByteArray)) (Γf := fun y => [(0, slF_string b o N c), (1, vi a), (10, vi y.1), (11, vi y.2.1)]) (Hf := fun y => [rowF b o Value.string N y.2.2])
            (I := fun y => Sw a z f y.2.2 ∧ PI ltS a z y.1 y.2.1 P y.2.2) (μ := fun y => (y.2.1 + 1 - y.1).toNat) (i + 1, j - 1, swp g i j) ⟨hsw.step (by omega) (by omega), hI.swap hij hl hl2⟩ (by exact SUx) (by exact IMx) ?_
          clear hsw hl hI hl2 hij i1 i2 i3 g i j
          rintro ⟨i0, j0, g⟩ ⟨hsw, hI0⟩
          simp only at hsw hI0
          refine GO ?_
          refine VC.loop (α := Int) (Γf := fun i => [(0, slF_string b o N c), (1, vi a), (10, vi i), (11, vi j0)]) (Hf := fun i => [rowF b o Value.string N g])
            (I := fun i => i0 ≤ i ∧ PI ltS a z i j0 P g) (μ := fun i => (z - i).toNat) i0 ⟨by omega, hI0⟩ (by exact SUx) (by exact IMx) ?_
          rintro i ⟨ii, hI⟩
          have i1 := hI.lo
          have i2 := hI.mid
          have i3 := hI.hi
          refine GO ?_
          by_cases hij : i ≤ j0
          · simp only [hij, decide_true]
            refine GOS ?_
            rw [hI.piv]
            cases hl : ltS (g i) P with
            | true =>
              refine GO ?_
              refine ⟨i + 1, ⟨by omega, hI.up hij hl⟩, by omega, by exact SUx, by exact IMx⟩
            | false =>
              refine GO ?_
              refine VC.loop (α := Int) (Γf := fun j => [(0, slF_string b o N c), (1, vi a), (10, vi i), (11, vi j)]) (Hf := fun i => [rowF b o Value.string N g])
                (I := fun j => j ≤ j0 ∧ PI ltS a z i j P g) (μ := fun j => (j + 1).toNat) j0 ⟨by omega, hI⟩ (by exact SUx) (by exact IMx) ?_
              clear hI i2 hij i3
              rintro j ⟨jj, hI⟩
              have i2 := hI.mid
              have i3 := hI.hi
              refine GO ?_
              by_cases hij : i ≤ j
              · simp only [hij, decide_true]
                refine GOS ?_
                rw [hI.piv]
                cases hl2 : ltS (g j) P with
                | false =>
                  refine GO ?_
                  refine ⟨j - 1, ⟨by omega, hI.down hij hl2⟩, by omega, by exact SUx, by exact IMx⟩
                | true =>
                  refine GO ?_
                  simp only [show ¬ j < i by omega, decide_false]
                  refine GOS ?_
                  refine ⟨(i + 1, j - 1, swp g i j), ⟨hsw.step (by omega) (by omega), hI.swap hij hl hl2⟩, by simp only; omega, by exact SUx, by exact IMx⟩
              · obtain rfl : i = j + 1 := by omega
                simp only [hij, decide_false]
                refine GO ?_
                simp only [show j < j + 1 by omega, decide_true]
                refine GOS ?_
                refine ⟨.inr rfl, _, _, .tmp (by rfl) (.tmp (by rfl) .nil), by exact IMx, ⟨j, false, swp g j a, by omega, hsw.step (by omega) (by omega), hI.done, rfl, rfl⟩⟩
          · obtain rfl : i = j0 + 1 := by omega
            simp only [hij, decide_false]
            refine GO ?_
            refine VC.loop (α := Int) (Γf := fun j => [(0, slF_string b o N c), (1, vi a), (10, vi (j0 + 1)), (11, vi j)]) (Hf := fun i => [rowF b o Value.string N g])
              (I := fun j => j = j0) (μ := fun j => 0) j0 rfl (by exact SUx) (by exact IMx) ?_
            rintro j rfl
            refine GO ?_
            simp only [hij, decide_false]
            refine GO ?_
            simp only [show j < j + 1 by omega, decide_true]
            refine GOS ?_
            refine ⟨.inr rfl, _, _, .tmp (by rfl) (.tmp (by rfl) .nil), by exact IMx, ⟨j, false, swp g j a, by omega, hsw.step (by omega) (by omega), hI.done, rfl, rfl⟩⟩
      · obtain rfl : i = j + 1 := by omega
        simp only [hij, decide_false]
        refine GO ?_
        simp only [show j < j + 1 by omega, decide_true]
        refine GOS ?_
        refine ⟨.inr rfl, _, _, .tmp (by rfl) (.tmp (by rfl) .nil), by exact IMx, ⟨j, true, swp g j a, by omega, hsw.step (by omega) (by omega), hI.done, rfl, rfl⟩⟩
  · obtain rfl : i = z := by omega
    simp only [hij, decide_false]
    refine GO ?_
    refine VC.loop (α := Int) (Γf := fun j => [(0, slF_string b o N c), (1, vi a), (10, vi i), (11, vi j)]) (Hf := fun _ => [rowF b o Value.string N g])
      (I := fun j => j = i - 1) (μ := fun j => 0) (i - 1) rfl (by exact SUx) (by exact IMx) ?_
    rintro j rfl
    refine GO ?_
    simp only [hij, decide_false]
    refine GO ?_
    simp only [show i - 1 < i by omega, decide_true]
    refine GOS ?_
    refine ⟨.inr rfl, _, _, .tmp (by rfl) (.tmp (by rfl) .nil), by exact IMx, ⟨i - 1, true, swp g (i - 1) a, by omega, hsw.step (by omega) (by omega), ?_, rfl, rfl⟩⟩
    have hI' : PI ltS a i (i - 1 + 1) (i - 1) P g := by rw [Int.sub_add_cancel]; exact hI
    exact hI'.done
end Go.Proofs.YtgindbomnbojeaaGreat

/-
  Sorting: which comes first; putting in.
-/
import Derived.Test.YtffmipimgodfdaaWS0string
import Derived.Test.YtffmipimgodfdaaVS
import Derived.KernelRfl
import Derived.Test.YtffmipimgodfdaaProg
set_option linter.unusedSimpArgs false
set_option linter.unusedVariables false
namespace Go.Proofs.Ytffmipimgodfdaa
open Go Go.V
set_option maxHeartbeats 800000
set_option linter.unusedSimpArgs false
set_option linter.unusedVariables false
theorem isnan_string (x : ByteArray) : Fun Try.prog 87 [Value.string x] [] (fun v Post => v = .bool false ∧ Post = []) := by
  refine Fun.intro low87 (by simp [F87]) ?_
  refine GO ?_
  refine ⟨.inr rfl, _, _, .tmp (by rfl) .nil, by (first | with_reducible exact Imp.refl | with_reducible exact Imp.left | (focus ((try simp only [List.nil_append]); (repeat (first | exact Imp.nil | (apply Imp.cons; (focus ((repeat (first | with_reducible exact Tk.here | apply Tk.there)); done))))); done))), ?_, rfl⟩
  simp [tup]

theorem less_string : LessIs Try.prog 77 Value.string ltS := by
  intro x y
  refine Fun.intro low77 (by simp [F77]) ?_
  refine GO ?_
  refine st_call (isnan_string x) (by rfl) (R := []) (by simp [V.Spl]) (fun v Post hv => ?_)
  obtain ⟨rfl, rfl⟩ := hv
  refine GO ?_
  refine ⟨.inr rfl, _, _, .tmp (by rfl) .nil, by (first | with_reducible exact Imp.refl | with_reducible exact Imp.left | (focus ((try simp only [List.nil_append]); (repeat (first | exact Imp.nil | (apply Imp.cons; (focus ((repeat (first | with_reducible exact Tk.here | apply Tk.there)); done))))); done))), ?_, rfl⟩
  rfl

abbrev slF_string (b o n c : Nat) : Value := .slice (some ⟨b, o, none⟩) n c

theorem insert_string (b o N c : Nat) (f : Int → ByteArray) (a z : Int) (h : 0 ≤ a ∧ a ≤ z ∧ z ≤ N) (hN : N ≤ 140737488355328) :
    Fun Try.prog 71 [slF_string b o N c, vi a, vi z] [rowF b o Value.string N f] (fun v Post => v = .tuple #[] ∧ ∃ g, Sw a z f g ∧ Srt ltS a z g ∧ Post = [rowF b o Value.string N g]) := by
  have hless := less_string
  refine Fun.intro low71 (by simp [F71]) ?_
  refine GO ?_
  refine VC.loop (α := Int × (Int → ByteArray)) (Γf := fun s => [(0, slF_string b o N c), (1, vi a), (2, vi z), (6, vi s.1)]) (Hf := fun s => [rowF b o Value.string N s.2])
    (I := fun s => a + 1 ≤ s.1 ∧ (s.1 ≤ z ∨ s.1 = a + 1) ∧ Sw a z f s.2 ∧ Srt ltS a s.1 s.2) (μ := fun s => (z + 1 - s.1).toNat) (a + 1, f) ⟨by simp, .inr rfl, .refl, fun p q h1 h2 h3 => by simp only at h3; omega⟩ (by (repeat (first | exact Sub.nil | (apply Sub.cons; rfl)))) (by (first | with_reducible exact Imp.refl | with_reducible exact Imp.left | (focus ((try simp only [List.nil_append]); (repeat (first | exact Imp.nil | (apply Imp.cons; (focus ((repeat (first | with_reducible exact Tk.here | apply Tk.there)); done))))); done)))) ?_
  rintro ⟨i, g⟩ ⟨hi1, hi2, hsw, hsrt⟩
  simp only at hi1 hi2 hsw hsrt
  refine GO ?_
  (first | (apply VC.seq_cond; rfl) | (apply VC.cond; rfl))
  · intro hlt
    have hlt : i < z := by simpa using hlt
    refine GO ?_
    refine VC.loop (α := Int × (Int → ByteArray)) (Γf := fun s => [(0, slF_string b o N c), (1, vi a), (2, vi z), (6, vi i), (7, vi s.1)]) (Hf := fun s => [rowF b o Value.string N s.2])
      (I := fun s => a ≤ s.1 ∧ s.1 ≤ i ∧ Sw a z f s.2 ∧ InsI ltS a i s.1 s.2) (μ := fun s => s.1.toNat) (i, g) ⟨by simp only; omega, by simp, hsw, .start hsrt⟩ (by (repeat (first | exact Sub.nil | (apply Sub.cons; rfl)))) (by (first | with_reducible exact Imp.refl | with_reducible exact Imp.left | (focus ((try simp only [List.nil_append]); (repeat (first | exact Imp.nil | (apply Imp.cons; (focus ((repeat (first | with_reducible exact Tk.here | apply Tk.there)); done))))); done)))) ?_
    rintro ⟨j, g'⟩ ⟨hj1, hj2, hsw', hins⟩
    simp only at hj1 hj2 hsw' hins
    refine GO ?_
    by_cases hja : a < j
    · simp only [hja, decide_true]
      refine GOS ?_
      cases hl : ltS (g' j) (g' (j - 1)) with
      | true =>
        refine GOS ?_
        refine ⟨(j - 1, swp g' j (j - 1)), ⟨by simp only; omega, by simp only; omega, hsw'.step (by omega) (by omega), hins.swap ltS_ok hl hja hj2⟩, by simp only; omega, by (repeat (first | exact Sub.nil | (apply Sub.cons; rfl))), by (first | with_reducible exact Imp.refl | with_reducible exact Imp.left | (focus ((try simp only [List.nil_append]); (repeat (first | exact Imp.nil | (apply Imp.cons; (focus ((repeat (first | with_reducible exact Tk.here | apply Tk.there)); done))))); done)))⟩
      | false =>
        refine GOS ?_
        refine ⟨(i + 1, g'), ⟨by simp only; omega, by simp only; omega, hsw', hins.stop ltS_ok hl hj2⟩, by simp only; omega, by (repeat (first | exact Sub.nil | (apply Sub.cons; rfl))), by (first | with_reducible exact Imp.refl | with_reducible exact Imp.left | (focus ((try simp only [List.nil_append]); (repeat (first | exact Imp.nil | (apply Imp.cons; (focus ((repeat (first | with_reducible exact Tk.here | apply Tk.there)); done))))); done)))⟩
    · simp only [hja, decide_false]
      obtain rfl : j = a := by omega
      refine GOS ?_
      refine ⟨(i + 1, g'), ⟨by simp only; omega, by simp only; omega, hsw', hins.first⟩, by simp only; omega, by (repeat (first | exact Sub.nil | (apply Sub.cons; rfl))), by (first | with_reducible exact Imp.refl | with_reducible exact Imp.left | (focus ((try simp only [List.nil_append]); (repeat (first | exact Imp.nil | (apply Imp.cons; (focus ((repeat (first | with_reducible exact Tk.here | apply Tk.there)); done))))); done)))⟩
  · intro hge
    have hge : ¬ i < z := by simpa using hge
    refine GO ?_
    refine ⟨.inl rfl, _, _, .nil, by (first | with_reducible exact Imp.refl | with_reducible exact Imp.left | (focus ((try simp only [List.nil_append]); (repeat (first | exact Imp.nil | (apply Imp.cons; (focus ((repeat (first | with_reducible exact Tk.here | apply Tk.there)); done))))); done))), rfl, g, hsw, ?_, rfl⟩
    intro p q h1 h2 h3
    exact hsrt p q h1 h2 (by omega)
end Go.Proofs.Ytffmipimgodfdaa
namespace Go.Proofs.Ytffmipimgodfdaa
open Go Go.V
set_option maxHeartbeats 1600000
set_option linter.unusedSimpArgs false
set_option linter.unusedVariables false
theorem sift_string (b o N c : Nat) (f : Int → ByteArray) (lo hi s : Int) (h : 0 ≤ s ∧ 0 ≤ lo ∧ s + hi ≤ N ∧ 0 ≤ hi) (hlo : lo ≤ N) (hN : N ≤ 140737488355328) (hp : Hp ltS s (lo + 1) hi f) :
    Fun Try.prog 82 [slF_string b o N c, vi lo, vi hi, vi s] [rowF b o Value.string N f] (fun v Post => v = .tuple #[] ∧ ∃ g, Sw s (s + hi) f g ∧ Hp ltS s lo hi g ∧ Post = [rowF b o Value.string N g]) := by
  have hless := less_string
  refine Fun.intro low82 (by simp [F82]) ?_
  refine GO ?_
  refine VC.loop (α := Int × (Int → ByteArray)) (Γf := fun y => [(0, slF_string b o N c), (2, vi hi), (3, vi s), (8, vi y.1)]) (Hf := fun y => [rowF b o Value.string N y.2])
    (I := fun y => lo ≤ y.1 ∧ y.1 ≤ N ∧ Sw s (s + hi) f y.2 ∧ HpX ltS s lo hi y.1 y.2) (μ := fun y => (N - y.1).toNat) (lo, f) ⟨by simp, by simp only; omega, .refl, .start hp (by omega)⟩ (by (repeat (first | exact Sub.nil | (apply Sub.cons; rfl)))) (by (first | with_reducible exact Imp.refl | with_reducible exact Imp.left | (focus ((try simp only [List.nil_append]); (repeat (first | exact Imp.nil | (apply Imp.cons; (focus ((repeat (first | with_reducible exact Tk.here | apply Tk.there)); done))))); done)))) ?_
  rintro ⟨x, g⟩ ⟨hx1, hx2, hsw, hx⟩
  simp only at hx1 hx2 hsw hx
  refine GO ?_
  by_cases hd : hi ≤ 2 * x + 1
  · simp only [hd, decide_true]
    refine GO ?_
    exact ⟨.inl rfl, _, _, .nil, by (first | with_reducible exact Imp.refl | with_reducible exact Imp.left | (focus ((try simp only [List.nil_append]); (repeat (first | exact Imp.nil | (apply Imp.cons; (focus ((repeat (first | with_reducible exact Tk.here | apply Tk.there)); done))))); done))), rfl, g, hsw, hx.none hd, rfl⟩
  simp only [hd, decide_false]
  refine GO ?_
  by_cases hd2 : 2 * x + 1 + 1 < hi
  · simp only [hd2, decide_true]
    refine GOS ?_
    rw [show s + (2 * x + 1) + 1 = s + (2 * x + 2) by omega]
    cases hl0 : ltS (g (s + (2 * x + 1))) (g (s + (2 * x + 2))) with
    | true =>
      have hmax : ∀ c, Kid x c → c < hi → ltS (g (s + (2 * x + 1 + 1))) (g (s + c)) = false := by
        intro c hk hc
        rw [show s + (2 * x + 1 + 1) = s + (2 * x + 2) by omega]
        rcases hk with rfl | rfl
        · exact (ltS_ok).asymm _ _ hl0
        · exact (ltS_ok).refl _
      have hC : Kid x (2 * x + 1 + 1) := .inr (by omega)
      have hCi : 2 * x + 1 + 1 < hi := by omega
      refine GO ?_
      generalize 2 * x + 1 + 1 = C at hC hCi hmax ⊢
      have hCk : x < C := by unfold Kid at hC; omega
      refine GOS ?_
      cases hl : ltS (g (s + x)) (g (s + C)) with
      | true =>
        refine GOS ?_
        refine ⟨(C, swp g (s + x) (s + C)), ⟨by simp only; omega, by simp only; omega, hsw.step (by omega) (by omega), hx.down ltS_ok (by omega) hx1 hC hCi hmax hl⟩, by simp only; omega, by (repeat (first | exact Sub.nil | (apply Sub.cons; rfl))), by (first | with_reducible exact Imp.refl | with_reducible exact Imp.left | (focus ((try simp only [List.nil_append]); (repeat (first | exact Imp.nil | (apply Imp.cons; (focus ((repeat (first | with_reducible exact Tk.here | apply Tk.there)); done))))); done)))⟩
      | false =>
        refine GOS ?_
        exact ⟨.inr rfl, _, _, .nil, by (first | with_reducible exact Imp.refl | with_reducible exact Imp.left | (focus ((try simp only [List.nil_append]); (repeat (first | exact Imp.nil | (apply Imp.cons; (focus ((repeat (first | with_reducible exact Tk.here | apply Tk.there)); done))))); done))), rfl, g, hsw, hx.stop ltS_ok hmax hl, rfl⟩
    | false =>
      have hmax : ∀ c, Kid x c → c < hi → ltS (g (s + (2 * x + 1))) (g (s + c)) = false := by
        intro c hk hc
        rcases hk with rfl | rfl
        · exact (ltS_ok).refl _
        · exact hl0
      have hC : Kid x (2 * x + 1) := .inl rfl
      have hCi : 2 * x + 1 < hi := by omega
      refine GO ?_
      generalize 2 * x + 1 = C at hC hCi hmax hd hd2 hl0 ⊢
      have hCk : x < C := by unfold Kid at hC; omega
      refine GOS ?_
      cases hl : ltS (g (s + x)) (g (s + C)) with
      | true =>
        refine GOS ?_
        refine ⟨(C, swp g (s + x) (s + C)), ⟨by simp only; omega, by simp only; omega, hsw.step (by omega) (by omega), hx.down ltS_ok (by omega) hx1 hC hCi hmax hl⟩, by simp only; omega, by (repeat (first | exact Sub.nil | (apply Sub.cons; rfl))), by (first | with_reducible exact Imp.refl | with_reducible exact Imp.left | (focus ((try simp only [List.nil_append]); (repeat (first | exact Imp.nil | (apply Imp.cons; (focus ((repeat (first | with_reducible exact Tk.here | apply Tk.there)); done))))); done)))⟩
      | false =>
        refine GOS ?_
        exact ⟨.inr rfl, _, _, .nil, by (first | with_reducible exact Imp.refl | with_reducible exact Imp.left | (focus ((try simp only [List.nil_append]); (repeat (first | exact Imp.nil | (apply Imp.cons; (focus ((repeat (first | with_reducible exact Tk.here | apply Tk.there)); done))))); done))), rfl, g, hsw, hx.stop ltS_ok hmax hl, rfl⟩
  · simp only [hd2, decide_false]
    have hmax : ∀ c, Kid x c → c < hi → ltS (g (s + (2 * x + 1))) (g (s + c)) = false := by
      intro c hk hc
      rcases hk with rfl | rfl
      · exact (ltS_ok).refl _
      · omega
    have hC : Kid x (2 * x + 1) := .inl rfl
    have hCi : 2 * x + 1 < hi := by omega
    refine GO ?_
    generalize 2 * x + 1 = C at hC hCi hmax hd hd2 ⊢
    have hCk : x < C := by unfold Kid at hC; omega
    refine GOS ?_
    cases hl : ltS (g (s + x)) (g (s + C)) with
    | true =>
      refine GOS ?_
      refine ⟨(C, swp g (s + x) (s + C)), ⟨by simp only; omega, by simp only; omega, hsw.step (by omega) (by omega), hx.down ltS_ok (by omega) hx1 hC hCi hmax hl⟩, by simp only; omega, by (repeat (first | exact Sub.nil | (apply Sub.cons; rfl))), by (first | with_reducible exact Imp.refl | with_reducible exact Imp.left | (focus ((try simp only [List.nil_append]); (repeat (first | exact Imp.nil | (apply Imp.cons; (focus ((repeat (first | with_reducible exact Tk.here | apply Tk.there)); done))))); done)))⟩
    | false =>
      refine GOS ?_
      exact ⟨.inr rfl, _, _, .nil, by (first | with_reducible exact Imp.refl | with_reducible exact Imp.left | (focus ((try simp only [List.nil_append]); (repeat (first | exact Imp.nil | (apply Imp.cons; (focus ((repeat (first | with_reducible exact Tk.here | apply Tk.there)); done))))); done))), rfl, g, hsw, hx.stop ltS_ok hmax hl, rfl⟩

theorem heap_string (b o N c : Nat) (f : Int → ByteArray) (a z : Int) (h : 0 ≤ a ∧ a ≤ z ∧ z ≤ N) (hN : N ≤ 140737488355328) :
    Fun Try.prog 72 [slF_string b o N c, vi a, vi z] [rowF b o Value.string N f] (fun v Post => v = .tuple #[] ∧ ∃ g, Sw a z f g ∧ Srt ltS a z g ∧ Post = [rowF b o Value.string N g]) := by
  refine Fun.intro low72 (by simp [F72]) ?_
  refine GO ?_
  have hq : IntKind.i64.wrap ((z - a - 1).tdiv 2) = (z - a - 1).tdiv 2 := wrap64 (by
    by_cases e : z - a = 0
    · rw [e]; decide
    · rw [Int.tdiv_eq_ediv_of_nonneg (by omega)]; omega)
  rw [hq]
  have hq2 : -1 ≤ (z - a - 1).tdiv 2 ∧ (z - a - 1).tdiv 2 ≤ z - a ∧ z - a ≤ 2 * ((z - a - 1).tdiv 2 + 1) + 1 := by
    by_cases e : z - a = 0
    · rw [e]; decide
    · rw [Int.tdiv_eq_ediv_of_nonneg (by omega)]; omega
  generalize (z - a - 1).tdiv 2 = m0 at hq2 ⊢
  refine GO ?_
  refine VC.loop (α := Int × (Int → ByteArray)) (Γf := fun y => [(0, slF_string b o N c), (6, vi a), (7, vi 0), (8, vi (z - a)), (9, vi y.1)]) (Hf := fun y => [rowF b o Value.string N y.2])
    (I := fun y => -1 ≤ y.1 ∧ y.1 ≤ z - a ∧ Sw a z f y.2 ∧ Hp ltS a (y.1 + 1) (z - a) y.2) (μ := fun y => (y.1 + 1).toNat) (m0, f) ⟨hq2.1, hq2.2.1, .refl, .none hq2.2.2⟩ (by (repeat (first | exact Sub.nil | (apply Sub.cons; rfl)))) (by (first | with_reducible exact Imp.refl | with_reducible exact Imp.left | (focus ((try simp only [List.nil_append]); (repeat (first | exact Imp.nil | (apply Imp.cons; (focus ((repeat (first | with_reducible exact Tk.here | apply Tk.there)); done))))); done)))) ?_
  rintro ⟨i, g⟩ ⟨hi1, hi2, hsw, hp⟩
  simp only at hi1 hi2 hsw hp
  refine GO ?_
  (first | (apply VC.seq_cond; rfl) | (apply VC.cond; rfl))
  · intro hge
    have hge : 0 ≤ i := by simpa using hge
    refine GO ?_
    refine st_call (sift_string b o N c g i (z - a) a (by omega) (by omega) hN hp) (by rfl) (by (focus ((repeat (first | exact Spl.nil | (apply Spl.cons; (focus ((repeat (first | with_reducible exact Tk.here | apply Tk.there)); done))))); done))) (fun v Post hv => ?_)
    obtain ⟨rfl, g1, s1, hp1, rfl⟩ := hv
    simp only [List.cons_append, List.nil_append]
    refine GO ?_
    refine ⟨(i - 1, g1), ⟨by simp only; omega, by simp only; omega, hsw.trans (s1.wide (by omega) (by omega)), by simp only; rw [Int.sub_add_cancel]; exact hp1⟩, by simp only; omega, by (repeat (first | exact Sub.nil | (apply Sub.cons; rfl))), by (first | with_reducible exact Imp.refl | with_reducible exact Imp.left | (focus ((try simp only [List.nil_append]); (repeat (first | exact Imp.nil | (apply Imp.cons; (focus ((repeat (first | with_reducible exact Tk.here | apply Tk.there)); done))))); done)))⟩
  intro hlt
  have hlt : ¬ 0 ≤ i := by simpa using hlt
  obtain rfl : i = -1 := by omega
  refine GO ?_
  refine VC.loop (α := Int × (Int → ByteArray)) (Γf := fun y => [(0, slF_string b o N c), (6, vi a), (7, vi 0), (10, vi y.1)]) (Hf := fun y => [rowF b o Value.string N y.2])
    (I := fun y => -1 ≤ y.1 ∧ y.1 < z - a ∧ Sw a z f y.2 ∧ Hp ltS a 0 (y.1 + 1) y.2 ∧ Top ltS a (y.1 + 1) (z - a) y.2) (μ := fun y => (y.1 + 1).toNat) (z - a - 1, g)
    ⟨by simp only; omega, by simp only; omega, hsw, by simp only; rw [Int.sub_add_cancel]; exact hp, fun p q h1 h2 h3 h4 => by simp only at h4; omega⟩ (by (repeat (first | exact Sub.nil | (apply Sub.cons; rfl)))) (by (first | with_reducible exact Imp.refl | with_reducible exact Imp.left | (focus ((try simp only [List.nil_append]); (repeat (first | exact Imp.nil | (apply Imp.cons; (focus ((repeat (first | with_reducible exact Tk.here | apply Tk.there)); done))))); done)))) ?_
  clear hsw hp hi1 hi2 hlt
  rintro ⟨i, g⟩ ⟨hi1, hi2, hsw, hp, ht⟩
  simp only at hi1 hi2 hsw hp ht
  refine GO ?_
  (first | (apply VC.seq_cond; rfl) | (apply VC.cond; rfl))
  · intro hge
    have hge : 0 ≤ i := by simpa using hge
    refine GOS ?_
    refine st_call (sift_string b o N c (swp g a (a + i)) 0 i a (by omega) (by omega) hN (fun r c h1 h2 h3 => (hp.popX hge).1 r c (by omega) h2 h3 (by omega))) (by rfl) (by (focus ((repeat (first | exact Spl.nil | (apply Spl.cons; (focus ((repeat (first | with_reducible exact Tk.here | apply Tk.there)); done))))); done))) (fun v Post hv => ?_)
    obtain ⟨rfl, g1, s1, hp1, rfl⟩ := hv
    simp only [List.cons_append, List.nil_append]
    refine GO ?_
    refine ⟨(i - 1, g1), ⟨by simp only; omega, by simp only; omega, (hsw.step (by omega) (by omega)).trans (s1.wide (by omega) (by omega)), by simp only; rw [Int.sub_add_cancel]; exact hp1,
      by simp only; rw [Int.sub_add_cancel]; exact ht.pop ltS_ok hp hge hi2 s1⟩, by simp only; omega, by (repeat (first | exact Sub.nil | (apply Sub.cons; rfl))), by (first | with_reducible exact Imp.refl | with_reducible exact Imp.left | (focus ((try simp only [List.nil_append]); (repeat (first | exact Imp.nil | (apply Imp.cons; (focus ((repeat (first | with_reducible exact Tk.here | apply Tk.there)); done))))); done)))⟩
  · intro hlt
    have hlt : ¬ 0 ≤ i := by simpa using hlt
    obtain rfl : i = -1 := by omega
    refine GO ?_
    refine ⟨.inl rfl, _, _, .nil, by (first | with_reducible exact Imp.refl | with_reducible exact Imp.left | (focus ((try simp only [List.nil_append]); (repeat (first | exact Imp.nil | (apply Imp.cons; (focus ((repeat (first | with_reducible exact Tk.here | apply Tk.there)); done))))); done))), rfl, g, hsw, ?_, rfl⟩
    intro p q h1 h2 h3
    have := ht (p - a) (q - a) (by omega) (by omega) (by omega) (by omega)
    rwa [show a + (q - a) = q by omega, show a + (p - a) = p by omega] at this
end Go.Proofs.Ytffmipimgodfdaa
namespace Go.Proofs.Ytffmipimgodfdaa
open Go Go.V
set_option maxRecDepth 100000
/- math/bits.Len -/
def kp70 : List (Nat × List Nat) := [(0, [0]), (1, [2]), (2, [2])]
def od70 : List (Nat × List (List Nat)) := []
def F70 : FIR := ⟨8, [.tmp 2],
 (.seq (.reg [⟨(some 2), none, .mv (.const (Value.int IntKind.i64 0))⟩] [0])
 (.seq (.cond (.const (Value.bool false))
 (.seq (.reg [⟨(some 3), none, .mv (.tmp 0)⟩,
 ⟨(some 4), none, .conv .u32 (.tmp 3)⟩,
 ⟨(some 5), none, .call 80 [(.tmp 4)]⟩,
 ⟨(some 2), none, .mv (.tmp 5)⟩] [2])
 .ret)
 .skip)
 (.seq (.reg [⟨(some 6), none, .mv (.tmp 0)⟩,
 ⟨(some 7), none, .call 81 [(.tmp 6)]⟩,
 ⟨(some 2), none, .mv (.tmp 7)⟩] [2])
 .ret)))⟩
theorem low70 : lowF Try.prog (assoc kp70) (assoc od70) 70 = some F70 := by kernel_rfl

/- math/bits.Len64 -/
def kp81 : List (Nat × List Nat) := [(0, [0, 2]), (1, [0, 2, 4]), (2, [0]), (3, [0, 2]), (4, [0, 2, 8]), (5, [0, 2]), (6, [0, 2]), (7, [0, 2, 14]), (8, [0, 2]), (9, [0, 2]), (10, [2])]
def od81 : List (Nat × List (List Nat)) := []
def F81 : FIR := ⟨25, [.tmp 2],
 (.seq (.reg [⟨(some 2), none, .mv (.const (Value.int IntKind.i64 0))⟩] [0, 2])
 (.seq (.seq (.reg [⟨(some 3), none, .mv (.tmp 0)⟩,
 ⟨(some 4), none, .bin .geq (.tmp 3) (.const (Value.int IntKind.u64 4294967296))⟩] [0, 2, 4])
 (.cond (.tmp 4)
 (.seq (.reg [⟨(some 5), none, .mv (.tmp 0)⟩,
 ⟨(some 6), none, .bin .shr (.tmp 5) (.const (Value.int IntKind.u64 32))⟩,
 ⟨(some 0), none, .mv (.tmp 6)⟩] [0])
 (.reg [⟨(some 2), none, .mv (.const (Value.int IntKind.i64 32))⟩] [0, 2]))
 .skip))
 (.seq (.seq (.reg [⟨(some 7), none, .mv (.tmp 0)⟩,
 ⟨(some 8), none, .bin .geq (.tmp 7) (.const (Value.int IntKind.u64 65536))⟩] [0, 2, 8])
 (.cond (.tmp 8)
 (.seq (.reg [⟨(some 9), none, .mv (.tmp 0)⟩,
 ⟨(some 10), none, .bin .shr (.tmp 9) (.const (Value.int IntKind.u64 16))⟩,
 ⟨(some 0), none, .mv (.tmp 10)⟩] [0, 2])
 (.reg [⟨(some 11), none, .mv (.tmp 2)⟩,
 ⟨(some 12), none, .bin .add (.tmp 11) (.const (Value.int IntKind.i64 16))⟩,
 ⟨(some 2), none, .mv (.tmp 12)⟩] [0, 2]))
 .skip))
 (.seq (.seq (.reg [⟨(some 13), none, .mv (.tmp 0)⟩,
 ⟨(some 14), none, .bin .geq (.tmp 13) (.const (Value.int IntKind.u64 256))⟩] [0, 2, 14])
 (.cond (.tmp 14)
 (.seq (.reg [⟨(some 15), none, .mv (.tmp 0)⟩,
 ⟨(some 16), none, .bin .shr (.tmp 15) (.const (Value.int IntKind.u64 8))⟩,
 ⟨(some 0), none, .mv (.tmp 16)⟩] [0, 2])
 (.reg [⟨(some 17), none, .mv (.tmp 2)⟩,
 ⟨(some 18), none, .bin .add (.tmp 17) (.const (Value.int IntKind.i64 8))⟩,
 ⟨(some 2), none, .mv (.tmp 18)⟩] [0, 2]))
 .skip))
 (.seq (.reg [⟨(some 19), none, .mv (.tmp 2)⟩,
 ⟨(some 20), none, .mv (.tmp 0)⟩,
 ⟨(some 21), none, .conv .u8 (.tmp 20)⟩,
 ⟨(some 22), none, .idxS (.const (Value.string ⟨#[0, 1, 2, 2, 3, 3, 3, 3, 4, 4, 4, 4, 4, 4, 4, 4, 5, 5, 5, 5, 5, 5, 5, 5, 5, 5, 5, 5, 5, 5, 5, 5, 6, 6, 6, 6, 6, 6, 6, 6, 6, 6, 6, 6, 6, 6, 6, 6, 6, 6, 6, 6, 6, 6, 6, 6, 6, 6, 6, 6, 6, 6, 6, 6, 7, 7, 7, 7, 7, 7, 7, 7, 7, 7, 7, 7, 7, 7, 7, 7, 7, 7, 7, 7, 7, 7, 7, 7, 7, 7, 7, 7, 7, 7, 7, 7, 7, 7, 7, 7, 7, 7, 7, 7, 7, 7, 7, 7, 7, 7, 7, 7, 7, 7, 7, 7, 7, 7, 7, 7, 7, 7, 7, 7, 7, 7, 7, 7, 8, 8, 8, 8, 8, 8, 8, 8, 8, 8, 8, 8, 8, 8, 8, 8, 8, 8, 8, 8, 8, 8, 8, 8, 8, 8, 8, 8, 8, 8, 8, 8, 8, 8, 8, 8, 8, 8, 8, 8, 8, 8, 8, 8, 8, 8, 8, 8, 8, 8, 8, 8, 8, 8, 8, 8, 8, 8, 8, 8, 8, 8, 8, 8, 8, 8, 8, 8, 8, 8, 8, 8, 8, 8, 8, 8, 8, 8, 8, 8, 8, 8, 8, 8, 8, 8, 8, 8, 8, 8, 8, 8, 8, 8, 8, 8, 8, 8, 8, 8, 8, 8, 8, 8, 8, 8, 8, 8, 8, 8, 8, 8, 8, 8, 8, 8, 8, 8, 8, 8, 8, 8, 8, 8, 8, 8, 8, 8]⟩)) (.tmp 21)⟩,
 ⟨(some 23), none, .conv .i64 (.tmp 22)⟩,
 ⟨(some 24), none, .bin .add (.tmp 19) (.tmp 23)⟩,
 ⟨(some 2), none, .mv (.tmp 24)⟩] [2])
 .ret)))))⟩
theorem low81 : lowF Try.prog (assoc kp81) (assoc od81) 81 = some F81 := by kernel_rfl

/- math/bits.Len32 -/
def kp80 : List (Nat × List Nat) := [(0, [0, 2]), (1, [0, 2, 4]), (2, [0]), (3, [0, 2]), (4, [0, 2, 8]), (5, [0, 2]), (6, [0, 2]), (7, [2])]
def od80 : List (Nat × List (List Nat)) := []
def F80 : FIR := ⟨19, [.tmp 2],
 (.seq (.reg [⟨(some 2), none, .mv (.const (Value.int IntKind.i64 0))⟩] [0, 2])
 (.seq (.seq (.reg [⟨(some 3), none, .mv (.tmp 0)⟩,
 ⟨(some 4), none, .bin .geq (.tmp 3) (.const (Value.int IntKind.u32 65536))⟩] [0, 2, 4])
 (.cond (.tmp 4)
 (.seq (.reg [⟨(some 5), none, .mv (.tmp 0)⟩,
 ⟨(some 6), none, .bin .shr (.tmp 5) (.const (Value.int IntKind.u64 16))⟩,
 ⟨(some 0), none, .mv (.tmp 6)⟩] [0])
 (.reg [⟨(some 2), none, .mv (.const (Value.int IntKind.i64 16))⟩] [0, 2]))
 .skip))
 (.seq (.seq (.reg [⟨(some 7), none, .mv (.tmp 0)⟩,
 ⟨(some 8), none, .bin .geq (.tmp 7) (.const (Value.int IntKind.u32 256))⟩] [0, 2, 8])
 (.cond (.tmp 8)
 (.seq (.reg [⟨(some 9), none, .mv (.tmp 0)⟩,
 ⟨(some 10), none, .bin .shr (.tmp 9) (.const (Value.int IntKind.u64 8))⟩,
 ⟨(some 0), none, .mv (.tmp 10)⟩] [0, 2])
 (.reg [⟨(some 11), none, .mv (.tmp 2)⟩,
 ⟨(some 12), none, .bin .add (.tmp 11) (.const (Value.int IntKind.i64 8))⟩,
 ⟨(some 2), none, .mv (.tmp 12)⟩] [0, 2]))
 .skip))
 (.seq (.reg [⟨(some 13), none, .mv (.tmp 2)⟩,
 ⟨(some 14), none, .mv (.tmp 0)⟩,
 ⟨(some 15), none, .conv .u8 (.tmp 14)⟩,
 ⟨(some 16), none, .idxS (.const (Value.string ⟨#[0, 1, 2, 2, 3, 3, 3, 3, 4, 4, 4, 4, 4, 4, 4, 4, 5, 5, 5, 5, 5, 5, 5, 5, 5, 5, 5, 5, 5, 5, 5, 5, 6, 6, 6, 6, 6, 6, 6, 6, 6, 6, 6, 6, 6, 6, 6, 6, 6, 6, 6, 6, 6, 6, 6, 6, 6, 6, 6, 6, 6, 6, 6, 6, 7, 7, 7, 7, 7, 7, 7, 7, 7, 7, 7, 7, 7, 7, 7, 7, 7, 7, 7, 7, 7, 7, 7, 7, 7, 7, 7, 7, 7, 7, 7, 7, 7, 7, 7, 7, 7, 7, 7, 7, 7, 7, 7, 7, 7, 7, 7, 7, 7, 7, 7, 7, 7, 7, 7, 7, 7, 7, 7, 7, 7, 7, 7, 7, 8, 8, 8, 8, 8, 8, 8, 8, 8, 8, 8, 8, 8, 8, 8, 8, 8, 8, 8, 8, 8, 8, 8, 8, 8, 8, 8, 8, 8, 8, 8, 8, 8, 8, 8, 8, 8, 8, 8, 8, 8, 8, 8, 8, 8, 8, 8, 8, 8, 8, 8, 8, 8, 8, 8, 8, 8, 8, 8, 8, 8, 8, 8, 8, 8, 8, 8, 8, 8, 8, 8, 8, 8, 8, 8, 8, 8, 8, 8, 8, 8, 8, 8, 8, 8, 8, 8, 8, 8, 8, 8, 8, 8, 8, 8, 8, 8, 8, 8, 8, 8, 8, 8, 8, 8, 8, 8, 8, 8, 8, 8, 8, 8, 8, 8, 8, 8, 8, 8, 8, 8, 8, 8, 8, 8, 8, 8, 8]⟩)) (.tmp 15)⟩,
 ⟨(some 17), none, .conv .i64 (.tmp 16)⟩,
 ⟨(some 18), none, .bin .add (.tmp 13) (.tmp 17)⟩,
 ⟨(some 2), none, .mv (.tmp 18)⟩] [2])
 .ret))))⟩
theorem low80 : lowF Try.prog (assoc kp80) (assoc od80) 80 = some F80 := by kernel_rfl

/- slices.nextPowerOfTwo -/
def kp83 : List (Nat × List Nat) := [(0, [0]), (1, [2])]
def od83 : List (Nat × List (List Nat)) := []
def F83 : FIR := ⟨7, [.tmp 2],
 (.seq (.reg [⟨(some 2), none, .mv (.const (Value.int IntKind.u64 0))⟩] [0])
 (.seq (.reg [⟨(some 3), none, .mv (.tmp 0)⟩,
 ⟨(some 4), none, .conv .u64 (.tmp 3)⟩,
 ⟨(some 5), none, .call 70 [(.tmp 4)]⟩,
 ⟨(some 6), none, .bin .shl (.const (Value.int IntKind.u64 1)) (.tmp 5)⟩,
 ⟨(some 2), none, .mv (.tmp 6)⟩] [2])
 .ret))⟩
theorem low83 : lowF Try.prog (assoc kp83) (assoc od83) 83 = some F83 := by kernel_rfl

/- (*slices.xorshift).Next -/
def kp84 : List (Nat × List Nat) := [(0, [0]), (1, [0]), (2, [0]), (3, [0]), (4, [2])]
def od84 : List (Nat × List (List Nat)) := [(1, [[0, 1, 2, 3, 4, 5, 6, 7, 8, 9]]), (2, [[0, 1, 2, 3, 4, 5, 6, 7, 8, 9]]), (3, [[0, 1, 2, 3, 4, 5, 6, 7, 8, 9]])]
def F84 : FIR := ⟨33, [.tmp 2],
 (.seq (.reg [⟨(some 2), none, .mv (.const (Value.int IntKind.u64 0))⟩] [0])
 (.seq (.draw [[⟨(some 3), none, .mv (.tmp 0)⟩,
 ⟨(some 4), none, .nilck (.tmp 3)⟩,
 ⟨(some 5), none, .load1 (.tmp 4)⟩,
 ⟨(some 6), none, .mv (.tmp 0)⟩,
 ⟨(some 7), none, .nilck (.tmp 6)⟩,
 ⟨(some 8), none, .load1 (.tmp 7)⟩,
 ⟨(some 9), none, .bin .shl (.tmp 8) (.const (Value.int IntKind.u64 13))⟩,
 ⟨(some 10), none, .bin .xor (.tmp 5) (.tmp 9)⟩,
 ⟨(some 11), none, .nilck (.tmp 3)⟩,
 ⟨none, none, .store 1 (.tmp 11) (.tmp 10)⟩]] [0])
 (.seq (.draw [[⟨(some 12), none, .mv (.tmp 0)⟩,
 ⟨(some 13), none, .nilck (.tmp 12)⟩,
 ⟨(some 14), none, .load1 (.tmp 13)⟩,
 ⟨(some 15), none, .mv (.tmp 0)⟩,
 ⟨(some 16), none, .nilck (.tmp 15)⟩,
 ⟨(some 17), none, .load1 (.tmp 16)⟩,
 ⟨(some 18), none, .bin .shr (.tmp 17) (.const (Value.int IntKind.u64 7))⟩,
 ⟨(some 19), none, .bin .xor (.tmp 14) (.tmp 18)⟩,
 ⟨(some 20), none, .nilck (.tmp 12)⟩,
 ⟨none, none, .store 1 (.tmp 20) (.tmp 19)⟩]] [0])
 (.seq (.draw [[⟨(some 21), none, .mv (.tmp 0)⟩,
 ⟨(some 22), none, .nilck (.tmp 21)⟩,
 ⟨(some 23), none, .load1 (.tmp 22)⟩,
 ⟨(some 24), none, .mv (.tmp 0)⟩,
 ⟨(some 25), none, .nilck (.tmp 24)⟩,
 ⟨(some 26), none, .load1 (.tmp 25)⟩,
 ⟨(some 27), none, .bin .shl (.tmp 26) (.const (Value.int IntKind.u64 17))⟩,
 ⟨(some 28), none, .bin .xor (.tmp 23) (.tmp 27)⟩,
 ⟨(some 29), none, .nilck (.tmp 21)⟩,
 ⟨none, none, .store 1 (.tmp 29) (.tmp 28)⟩]] [0])
 (.seq (.reg [⟨(some 30), none, .mv (.tmp 0)⟩,
 ⟨(some 31), none, .nilck (.tmp 30)⟩,
 ⟨(some 32), none, .load1 (.tmp 31)⟩,
 ⟨(some 2), none, .mv (.tmp 32)⟩] [2])
 .ret)))))⟩
theorem low84 : lowF Try.prog (assoc kp84) (assoc od84) 84 = some F84 := by kernel_rfl

end Go.Proofs.Ytffmipimgodfdaa

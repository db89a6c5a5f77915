/-
  Sorting: how many bits a number has; a power of two; a next number.
-/
import Derived.Test.YtffmipimgodfdaaWS0u
set_option linter.unusedSimpArgs false
set_option linter.unusedVariables false
namespace Go.Proofs.Ytffmipimgodfdaa
open Go Go.V
set_option maxHeartbeats 1600000
set_option maxRecDepth 100000
set_option linter.unusedSimpArgs false
set_option linter.unusedVariables false
def tab8 : ByteArray := ⟨#[0, 1, 2, 2, 3, 3, 3, 3, 4, 4, 4, 4, 4, 4, 4, 4, 5, 5, 5, 5, 5, 5, 5, 5, 5, 5, 5, 5, 5, 5, 5, 5, 6, 6, 6, 6, 6, 6, 6, 6, 6, 6, 6, 6, 6, 6, 6, 6, 6, 6, 6, 6, 6, 6, 6, 6, 6, 6, 6, 6, 6, 6, 6, 6, 7, 7, 7, 7, 7, 7, 7, 7, 7, 7, 7, 7, 7, 7, 7, 7, 7, 7, 7, 7, 7, 7, 7, 7, 7, 7, 7, 7, 7, 7, 7, 7, 7, 7, 7, 7, 7, 7, 7, 7, 7, 7, 7, 7, 7, 7, 7, 7, 7, 7, 7, 7, 7, 7, 7, 7, 7, 7, 7, 7, 7, 7, 7, 7, 8, 8, 8, 8, 8, 8, 8, 8, 8, 8, 8, 8, 8, 8, 8, 8, 8, 8, 8, 8, 8, 8, 8, 8, 8, 8, 8, 8, 8, 8, 8, 8, 8, 8, 8, 8, 8, 8, 8, 8, 8, 8, 8, 8, 8, 8, 8, 8, 8, 8, 8, 8, 8, 8, 8, 8, 8, 8, 8, 8, 8, 8, 8, 8, 8, 8, 8, 8, 8, 8, 8, 8, 8, 8, 8, 8, 8, 8, 8, 8, 8, 8, 8, 8, 8, 8, 8, 8, 8, 8, 8, 8, 8, 8, 8, 8, 8, 8, 8, 8, 8, 8, 8, 8, 8, 8, 8, 8, 8, 8, 8, 8, 8, 8, 8, 8, 8, 8, 8, 8, 8, 8, 8, 8, 8, 8, 8, 8]⟩

theorem tab8_ok : ∀ y : Fin 256, ∃ m : Fin 9, tab8[y.val]? = some (UInt8.ofNat m) ∧ y.val < 2 ^ m.val ∧ (2 ^ m.val ≤ 2 * y.val ∨ y.val = 0) := by decide +kernel

theorem fdiv_pow (x k : Nat) : ((x : Int)).fdiv (2 ^ k) = ((x / 2 ^ k : Nat) : Int) := by
  rw [Int.fdiv_eq_ediv_of_nonneg _ (by exact_mod_cast Nat.zero_le _)]
  simp

theorem len64 (x : Nat) (hx : x < 4294967296) : Fun Try.prog 81 [.int .u64 x] [] (fun v Post => (∃ n : Nat, n ≤ 64 ∧ x < 2 ^ n ∧ (2 ^ n ≤ 2 * x ∨ x = 0) ∧ v = vi n) ∧ Post = []) := by
  refine Fun.intro low81 (show 1 ≤ F81.n by decide) ?_
  refine GO ?_
  simp only [show ¬ ((4294967296 : Int) ≤ x) by omega, decide_false]
  refine GO ?_
  by_cases h1 : 65536 ≤ x
  · simp only [show ((65536 : Int) ≤ x) by omega, decide_true]
    refine GO ?_
    rw [show (min (16 : Int).toNat IntKind.u64.bits) = 16 by decide, fdiv_pow]
    by_cases h2 : 256 ≤ x / 2 ^ 16
    · simp only [show ((256 : Int) ≤ ((x / 2 ^ 16 : Nat) : Int)) by omega, decide_true]
      refine GO ?_
      rw [show (min (8 : Int).toNat IntKind.u64.bits) = 8 by decide, fdiv_pow]
      have hy : x / 2 ^ 16 / 2 ^ 8 < 256 := by omega
      have hrel : ∀ m : Nat, x / 2 ^ 16 / 2 ^ 8 < 2 ^ m → (2 ^ m ≤ 2 * (x / 2 ^ 16 / 2 ^ 8) ∨ x / 2 ^ 16 / 2 ^ 8 = 0) → x < 2 ^ (24 + m) ∧ (2 ^ (24 + m) ≤ 2 * x ∨ x = 0) := by
        intro m a1 a2
        rw [Nat.pow_add]
        generalize 2 ^ m = k at *
        omega
      generalize x / 2 ^ 16 / 2 ^ 8 = y at hy hrel ⊢
      refine GO ?_
      have hw : IntKind.u8.wrap (y : Int) = y := by simp only [IntKind.wrap, IntKind.bits, IntKind.signed]; simp; omega
      rw [hw]
      obtain ⟨m, t1, t2, t3⟩ := tab8_ok ⟨y, hy⟩
      have hm := m.isLt
      refine st_idxS (s := tab8) (j := y) (c := UInt8.ofNat m) (by rfl) (by rfl) rfl t1 ?_
      have hm2 : (UInt8.ofNat m.val).toNat = m.val := by simp; omega
      rw [hm2]
      refine st_conv (b := (m.val : Int)) (by rfl) (by simp only [IntKind.wrap, IntKind.bits, IntKind.signed]; simp; omega) ?_
      refine GO ?_
      refine ⟨.inr rfl, _, _, .tmp (by rfl) .nil, by (first | with_reducible exact Imp.refl | with_reducible exact Imp.left | (focus ((try simp only [List.nil_append]); (repeat (first | exact Imp.nil | (apply Imp.cons; (focus ((repeat (first | with_reducible exact Tk.here | apply Tk.there)); done))))); done))), ⟨⟨_, ?_, (hrel m.val t2 t3).1, (hrel m.val t2 t3).2, ?_⟩, rfl⟩⟩
      · omega
      · simp [tup]
    · simp only [show ¬ ((256 : Int) ≤ ((x / 2 ^ 16 : Nat) : Int)) by omega, decide_false]
      have hy : x / 2 ^ 16 < 256 := by omega
      have hrel : ∀ m : Nat, x / 2 ^ 16 < 2 ^ m → (2 ^ m ≤ 2 * (x / 2 ^ 16) ∨ x / 2 ^ 16 = 0) → x < 2 ^ (16 + m) ∧ (2 ^ (16 + m) ≤ 2 * x ∨ x = 0) := by
        intro m a1 a2
        rw [Nat.pow_add]
        generalize 2 ^ m = k at *
        omega
      generalize x / 2 ^ 16 = y at hy hrel h2 ⊢
      refine GO ?_
      have hw : IntKind.u8.wrap (y : Int) = y := by simp only [IntKind.wrap, IntKind.bits, IntKind.signed]; simp; omega
      rw [hw]
      obtain ⟨m, t1, t2, t3⟩ := tab8_ok ⟨y, hy⟩
      have hm := m.isLt
      refine st_idxS (s := tab8) (j := y) (c := UInt8.ofNat m) (by rfl) (by rfl) rfl t1 ?_
      have hm2 : (UInt8.ofNat m.val).toNat = m.val := by simp; omega
      rw [hm2]
      refine st_conv (b := (m.val : Int)) (by rfl) (by simp only [IntKind.wrap, IntKind.bits, IntKind.signed]; simp; omega) ?_
      refine GO ?_
      refine ⟨.inr rfl, _, _, .tmp (by rfl) .nil, by (first | with_reducible exact Imp.refl | with_reducible exact Imp.left | (focus ((try simp only [List.nil_append]); (repeat (first | exact Imp.nil | (apply Imp.cons; (focus ((repeat (first | with_reducible exact Tk.here | apply Tk.there)); done))))); done))), ⟨⟨_, ?_, (hrel m.val t2 t3).1, (hrel m.val t2 t3).2, ?_⟩, rfl⟩⟩
      · omega
      · simp [tup]
  · simp only [show ¬ ((65536 : Int) ≤ x) by omega, decide_false]
    refine GO ?_
    by_cases h2 : 256 ≤ x
    · simp only [show ((256 : Int) ≤ x) by omega, decide_true]
      refine GO ?_
      rw [show (min (8 : Int).toNat IntKind.u64.bits) = 8 by decide, fdiv_pow]
      have hy : x / 2 ^ 8 < 256 := by omega
      have hrel : ∀ m : Nat, x / 2 ^ 8 < 2 ^ m → (2 ^ m ≤ 2 * (x / 2 ^ 8) ∨ x / 2 ^ 8 = 0) → x < 2 ^ (8 + m) ∧ (2 ^ (8 + m) ≤ 2 * x ∨ x = 0) := by
        intro m a1 a2
        rw [Nat.pow_add]
        generalize 2 ^ m = k at *
        omega
      generalize x / 2 ^ 8 = y at hy hrel ⊢
      refine GO ?_
      have hw : IntKind.u8.wrap (y : Int) = y := by simp only [IntKind.wrap, IntKind.bits, IntKind.signed]; simp; omega
      rw [hw]
      obtain ⟨m, t1, t2, t3⟩ := tab8_ok ⟨y, hy⟩
      have hm := m.isLt
      refine st_idxS (s := tab8) (j := y) (c := UInt8.ofNat m) (by rfl) (by rfl) rfl t1 ?_
      have hm2 : (UInt8.ofNat m.val).toNat = m.val := by simp; omega
      rw [hm2]
      refine st_conv (b := (m.val : Int)) (by rfl) (by simp only [IntKind.wrap, IntKind.bits, IntKind.signed]; simp; omega) ?_
      refine GO ?_
      refine ⟨.inr rfl, _, _, .tmp (by rfl) .nil, by (first | with_reducible exact Imp.refl | with_reducible exact Imp.left | (focus ((try simp only [List.nil_append]); (repeat (first | exact Imp.nil | (apply Imp.cons; (focus ((repeat (first | with_reducible exact Tk.here | apply Tk.there)); done))))); done))), ⟨⟨_, ?_, (hrel m.val t2 t3).1, (hrel m.val t2 t3).2, ?_⟩, rfl⟩⟩
      · omega
      · simp [tup]
    · simp only [show ¬ ((256 : Int) ≤ x) by omega, decide_false]
      have hy : x < 256 := by omega
      have hrel : ∀ m : Nat, x < 2 ^ m → (2 ^ m ≤ 2 * x ∨ x = 0) → x < 2 ^ (0 + m) ∧ (2 ^ (0 + m) ≤ 2 * x ∨ x = 0) := by
        intro m a1 a2
        rw [Nat.zero_add]; exact ⟨a1, a2⟩
      obtain ⟨y, rfl⟩ : ∃ y, y = x := ⟨_, rfl⟩
      refine GO ?_
      have hw : IntKind.u8.wrap (y : Int) = y := by simp only [IntKind.wrap, IntKind.bits, IntKind.signed]; simp; omega
      rw [hw]
      obtain ⟨m, t1, t2, t3⟩ := tab8_ok ⟨y, hy⟩
      have hm := m.isLt
      refine st_idxS (s := tab8) (j := y) (c := UInt8.ofNat m) (by rfl) (by rfl) rfl t1 ?_
      have hm2 : (UInt8.ofNat m.val).toNat = m.val := by simp; omega
      rw [hm2]
      refine st_conv (b := (m.val : Int)) (by rfl) (by simp only [IntKind.wrap, IntKind.bits, IntKind.signed]; simp; omega) ?_
      refine GO ?_
      refine ⟨.inr rfl, _, _, .tmp (by rfl) .nil, by (first | with_reducible exact Imp.refl | with_reducible exact Imp.left | (focus ((try simp only [List.nil_append]); (repeat (first | exact Imp.nil | (apply Imp.cons; (focus ((repeat (first | with_reducible exact Tk.here | apply Tk.there)); done))))); done))), ⟨⟨_, ?_, (hrel m.val t2 t3).1, (hrel m.val t2 t3).2, ?_⟩, rfl⟩⟩
      · omega
      · simp [tup]

theorem bitlen (x : Nat) (hx : x < 4294967296) : Fun Try.prog 70 [.int .u64 x] [] (fun v Post => (∃ n : Nat, n ≤ 64 ∧ x < 2 ^ n ∧ (2 ^ n ≤ 2 * x ∨ x = 0) ∧ v = vi n) ∧ Post = []) := by
  refine Fun.intro low70 (by simp [F70]) ?_
  refine GO ?_
  refine st_call (len64 x hx) (by rfl) (R := []) (by simp [V.Spl]) (fun v Post hv => ?_)
  obtain ⟨⟨n, h1, h2, h3, rfl⟩, rfl⟩ := hv
  refine GO ?_
  refine ⟨.inr rfl, _, _, .tmp (by rfl) .nil, by (first | with_reducible exact Imp.refl | with_reducible exact Imp.left | (focus ((try simp only [List.nil_append]); (repeat (first | exact Imp.nil | (apply Imp.cons; (focus ((repeat (first | with_reducible exact Tk.here | apply Tk.there)); done))))); done))), ⟨⟨n, h1, h2, h3, rfl⟩, rfl⟩⟩

theorem nextpow (x : Nat) (hx : 0 < x ∧ x < 1073741824) : Fun Try.prog 83 [vi x] [] (fun v Post => (∃ m : Nat, x < m ∧ m ≤ 2 * x ∧ v = .int .u64 m) ∧ Post = []) := by
  refine Fun.intro low83 (by simp [F83]) ?_
  refine GO ?_
  rw [show IntKind.u64.wrap (x : Int) = x by simp only [IntKind.wrap, IntKind.bits, IntKind.signed]; simp; omega]
  refine st_call (bitlen x (by omega)) (by rfl) (R := []) (by simp [V.Spl]) (fun v Post hv => ?_)
  obtain ⟨⟨n, h1, h2, h3, rfl⟩, rfl⟩ := hv
  have h4 : 2 ^ n ≤ 2 * x := h3.resolve_right (by omega)
  have h5 : (1 : Int) * 2 ^ n = ((2 ^ n : Nat) : Int) := by simp
  refine VO.pure rfl (v := .int .u64 ((2 ^ n : Nat) : Int)) (fun ρ hρ => ?_) ?_
  · have e1 : ρ (.const (.int .u64 1)) = .int .u64 1 := hρ _ _ rfl
    have e2 : ρ (.tmp 5) = vi n := hρ _ _ rfl
    simp only [pureV, e1, e2, binV, intV, if_neg (show ¬ ((n : Int) < 0) by omega), Option.some.injEq, Value.int.injEq, true_and]
    rw [Int.toNat_natCast, show min n IntKind.u64.bits = n by simp [IntKind.bits]; omega, h5]
    generalize 2 ^ n = k at *
    simp only [IntKind.wrap, IntKind.bits, IntKind.signed]; simp; omega
  refine GO ?_
  refine ⟨.inr rfl, _, _, .tmp (by rfl) .nil, by (first | with_reducible exact Imp.refl | with_reducible exact Imp.left | (focus ((try simp only [List.nil_append]); (repeat (first | exact Imp.nil | (apply Imp.cons; (focus ((repeat (first | with_reducible exact Tk.here | apply Tk.there)); done))))); done))), ⟨⟨2 ^ n, h2, h4, rfl⟩, rfl⟩⟩

theorem next_spec (q : Nat) (x : Int) : Fun Try.prog 84 [ptr0 q] [cellsAt q 0 [.int .u64 x]] (fun v Post => ∃ y : Int, v = .int .u64 y ∧ Post = [cellsAt q 0 [.int .u64 y]]) := by
  refine Fun.intro low84 (by simp [F84]) ?_
  refine GO ?_
  refine ⟨.inr rfl, _, _, .tmp (by rfl) .nil, by (first | with_reducible exact Imp.refl | with_reducible exact Imp.left | (focus ((try simp only [List.nil_append]); (repeat (first | exact Imp.nil | (apply Imp.cons; (focus ((repeat (first | with_reducible exact Tk.here | apply Tk.there)); done))))); done))), ⟨_, rfl, rfl⟩⟩
end Go.Proofs.Ytffmipimgodfdaa
namespace Go.Proofs.Ytffmipimgodfdaa
open Go Go.V
set_option maxHeartbeats 1600000
set_option maxRecDepth 100000
set_option linter.unusedSimpArgs false
set_option linter.unusedVariables false
theorem reverse_string (b o N c : Nat) (f : Int → ByteArray) (a z : Int) (h : 0 ≤ a ∧ a ≤ z ∧ z ≤ N) (hN : N ≤ 140737488355328) :
    Fun Try.prog 75 [slF_string b o N c, vi a, vi z] [rowF b o Value.string N f] (fun v Post => v = .tuple #[] ∧ ∃ g, Sw a z f g ∧ Post = [rowF b o Value.string N g]) := by
  refine Fun.intro low75 (by simp [F75]) ?_
  refine GO ?_
  refine VC.loop (α := Int × Int × (Int → ByteArray)) (Γf := fun y => [(0, slF_string b o N c), (6, vi y.1), (7, vi y.2.1)]) (Hf := fun y => [rowF b o Value.string N y.2.2])
    (I := fun y => a ≤ y.1 ∧ y.1 ≤ z ∧ a - 1 ≤ y.2.1 ∧ y.2.1 < z ∧ Sw a z f y.2.2) (μ := fun y => (y.2.1 + 1 - y.1).toNat) (a, z - 1, f) ⟨by simp, by simp only; omega, by simp only; omega, by simp only; omega, .refl⟩ (by (repeat (first | exact Sub.nil | (apply Sub.cons; rfl)))) (by (first | with_reducible exact Imp.refl | with_reducible exact Imp.left | (focus ((try simp only [List.nil_append]); (repeat (first | exact Imp.nil | (apply Imp.cons; (focus ((repeat (first | with_reducible exact Tk.here | apply Tk.there)); done))))); done)))) ?_
  rintro ⟨i, j, g⟩ ⟨h1, h2, h3, h4, hsw⟩
  simp only at h1 h2 h3 h4 hsw
  refine GO ?_
  (first | (apply VC.seq_cond; rfl) | (apply VC.cond; rfl))
  · intro hlt
    have hlt : i < j := by simpa using hlt
    refine GOS ?_
    refine ⟨(i + 1, j - 1, swp g i j), ⟨by simp only; omega, by simp only; omega, by simp only; omega, by simp only; omega, hsw.step (by omega) (by omega)⟩, by simp only; omega, by (repeat (first | exact Sub.nil | (apply Sub.cons; rfl))), by (first | with_reducible exact Imp.refl | with_reducible exact Imp.left | (focus ((try simp only [List.nil_append]); (repeat (first | exact Imp.nil | (apply Imp.cons; (focus ((repeat (first | with_reducible exact Tk.here | apply Tk.there)); done))))); done)))⟩
  · intro hge
    refine GO ?_
    exact ⟨.inl rfl, _, _, .nil, by (first | with_reducible exact Imp.refl | with_reducible exact Imp.left | (focus ((try simp only [List.nil_append]); (repeat (first | exact Imp.nil | (apply Imp.cons; (focus ((repeat (first | with_reducible exact Tk.here | apply Tk.there)); done))))); done))), rfl, g, hsw, rfl⟩

theorem order2_string (b o N c q : Nat) (f : Int → ByteArray) (x y k : Int) (hx : 0 ≤ x ∧ x < N) (hy : 0 ≤ y ∧ y < N) (hk : 0 ≤ k ∧ k < 1000) :
    Fun Try.prog 88 [slF_string b o N c, vi x, vi y, ptr0 q] [rowF b o Value.string N f, cellsAt q 0 [vi k]] (fun v Post => ∃ p r k', ((p = x ∧ r = y) ∨ (p = y ∧ r = x)) ∧ k ≤ k' ∧ k' ≤ k + 1 ∧ v = .tuple #[vi p, vi r] ∧ Post = [rowF b o Value.string N f, cellsAt q 0 [vi k']]) := by
  have hless := less_string
  refine Fun.intro low88 (by simp [F88]) ?_
  refine GOS ?_
  cases hl : ltS (f y) (f x) with
  | true =>
    refine GO ?_
    refine ⟨.inr rfl, _, _, .tmp (by rfl) (.tmp (by rfl) .nil), by (first | with_reducible exact Imp.refl | with_reducible exact Imp.left | (focus ((try simp only [List.nil_append]); (repeat (first | exact Imp.nil | (apply Imp.cons; (focus ((repeat (first | with_reducible exact Tk.here | apply Tk.there)); done))))); done))), ⟨y, x, k + 1, .inr ⟨rfl, rfl⟩, by omega, by omega, rfl, rfl⟩⟩
  | false =>
    refine GO ?_
    refine ⟨.inr rfl, _, _, .tmp (by rfl) (.tmp (by rfl) .nil), by (first | with_reducible exact Imp.refl | with_reducible exact Imp.left | (focus ((try simp only [List.nil_append]); (repeat (first | exact Imp.nil | (apply Imp.cons; (focus ((repeat (first | with_reducible exact Tk.here | apply Tk.there)); done))))); done))), ⟨x, y, k, .inl ⟨rfl, rfl⟩, by omega, by omega, rfl, rfl⟩⟩

theorem median_string (b o N c q : Nat) (f : Int → ByteArray) (x y w k : Int) (hx : 0 ≤ x ∧ x < N) (hy : 0 ≤ y ∧ y < N) (hw : 0 ≤ w ∧ w < N) (hk : 0 ≤ k ∧ k < 900) :
    Fun Try.prog 86 [slF_string b o N c, vi x, vi y, vi w, ptr0 q] [rowF b o Value.string N f, cellsAt q 0 [vi k]] (fun v Post => ∃ p k', (p = x ∨ p = y ∨ p = w) ∧ k ≤ k' ∧ k' ≤ k + 3 ∧ v = vi p ∧ Post = [rowF b o Value.string N f, cellsAt q 0 [vi k']]) := by
  refine Fun.intro low86 (by simp [F86]) ?_
  refine GO ?_
  refine st_call (order2_string b o N c q f x y k hx hy (by omega)) (by rfl) (by (focus ((repeat (first | exact Spl.nil | (apply Spl.cons; (focus ((repeat (first | with_reducible exact Tk.here | apply Tk.there)); done))))); done))) (fun v Post hv => ?_)
  obtain ⟨p1, r1, k1, e1, l1, u1, rfl, rfl⟩ := hv
  simp only [List.cons_append, List.nil_append]
  refine GO ?_
  refine st_call (order2_string b o N c q f r1 w k1 (by omega) hw (by omega)) (by rfl) (by (focus ((repeat (first | exact Spl.nil | (apply Spl.cons; (focus ((repeat (first | with_reducible exact Tk.here | apply Tk.there)); done))))); done))) (fun v Post hv => ?_)
  obtain ⟨p2, r2, k2, e2, l2, u2, rfl, rfl⟩ := hv
  simp only [List.cons_append, List.nil_append]
  refine GO ?_
  refine st_call (order2_string b o N c q f p1 p2 k2 (by omega) (by omega) (by omega)) (by rfl) (by (focus ((repeat (first | exact Spl.nil | (apply Spl.cons; (focus ((repeat (first | with_reducible exact Tk.here | apply Tk.there)); done))))); done))) (fun v Post hv => ?_)
  obtain ⟨p3, r3, k3, e3, l3, u3, rfl, rfl⟩ := hv
  simp only [List.cons_append, List.nil_append]
  refine GO ?_
  refine ⟨.inr rfl, _, _, .tmp (by rfl) .nil, by (first | with_reducible exact Imp.refl | with_reducible exact Imp.left | (focus ((try simp only [List.nil_append]); (repeat (first | exact Imp.nil | (apply Imp.cons; (focus ((repeat (first | with_reducible exact Tk.here | apply Tk.there)); done))))); done))), ⟨r3, k3, by omega, by omega, by omega, rfl, rfl⟩⟩

theorem adjacent_string (b o N c q : Nat) (f : Int → ByteArray) (x k : Int) (hx : 1 ≤ x ∧ x + 1 < N) (hN : N ≤ 140737488355328) (hk : 0 ≤ k ∧ k < 900) :
    Fun Try.prog 85 [slF_string b o N c, vi x, ptr0 q] [rowF b o Value.string N f, cellsAt q 0 [vi k]] (fun v Post => ∃ p k', (x - 1 ≤ p ∧ p ≤ x + 1) ∧ k ≤ k' ∧ k' ≤ k + 3 ∧ v = vi p ∧ Post = [rowF b o Value.string N f, cellsAt q 0 [vi k']]) := by
  refine Fun.intro low85 (by simp [F85]) ?_
  refine GO ?_
  refine st_call (median_string b o N c q f (x - 1) x (x + 1) k (by omega) (by omega) (by omega) (by omega)) (by rfl) (by (focus ((repeat (first | exact Spl.nil | (apply Spl.cons; (focus ((repeat (first | with_reducible exact Tk.here | apply Tk.there)); done))))); done))) (fun v Post hv => ?_)
  obtain ⟨p1, k1, e1, l1, u1, rfl, rfl⟩ := hv
  simp only [List.cons_append, List.nil_append]
  refine GO ?_
  refine ⟨.inr rfl, _, _, .tmp (by rfl) .nil, by (first | with_reducible exact Imp.refl | with_reducible exact Imp.left | (focus ((try simp only [List.nil_append]); (repeat (first | exact Imp.nil | (apply Imp.cons; (focus ((repeat (first | with_reducible exact Tk.here | apply Tk.there)); done))))); done))), ⟨p1, k1, by omega, by omega, by omega, rfl, rfl⟩⟩

theorem q4_string (l : Int) (h : 0 ≤ l ∧ l ≤ 140737488355328) : IntKind.i64.wrap (l.tdiv 4) = l / 4 := by
  rw [Int.tdiv_eq_ediv_of_nonneg (by omega)]; exact wrap64 (by omega)

theorem choose_string (b o N c : Nat) (f : Int → ByteArray) (a z : Int) (h : 0 ≤ a ∧ a + 8 ≤ z ∧ z ≤ N) (hN : N ≤ 140737488355328) :
    Fun Try.prog 74 [slF_string b o N c, vi a, vi z] [rowF b o Value.string N f] (fun v Post => ∃ p t, (a ≤ p ∧ p < z) ∧ v = .tuple #[vi p, vi t] ∧ Post = [rowF b o Value.string N f]) := by
  refine Fun.intro low74 (by simp [F74]) ?_
  refine GO ?_
  refine st_alloc (fun q => ?_)
  refine GO ?_
  have w0 : IntKind.i64.wrap ((z - a) / 4) = (z - a) / 4 := wrap64 (by omega)
  have w1 : IntKind.i64.wrap ((z - a) / 4 * 2) = (z - a) / 4 * 2 := wrap64 (by omega)
  have w2 : IntKind.i64.wrap ((z - a) / 4 * 3) = (z - a) / 4 * 3 := wrap64 (by omega)
  have w3 : IntKind.i64.wrap (a + (z - a) / 4) = a + (z - a) / 4 := wrap64 (by omega)
  have w4 : IntKind.i64.wrap (a + (z - a) / 4 * 2) = a + (z - a) / 4 * 2 := wrap64 (by omega)
  have w5 : IntKind.i64.wrap (a + (z - a) / 4 * 3) = a + (z - a) / 4 * 3 := wrap64 (by omega)
  simp only [q4_string (z - a) (by omega), Int.mul_one, w0, w1, w2, w3, w4, w5]
  refine GO ?_
  by_cases h50 : 50 ≤ z - a
  · simp only [show (8 : Int) ≤ z - a by omega, decide_true]
    refine GO ?_
    simp only [h50, decide_true]
    refine GO ?_
    refine st_call (adjacent_string b o N c q f (a + (z - a) / 4) 0 (by omega) hN (by omega)) (by rfl) (by (focus ((repeat (first | exact Spl.nil | (apply Spl.cons; (focus ((repeat (first | with_reducible exact Tk.here | apply Tk.there)); done))))); done))) (fun v Post hv => ?_)
    obtain ⟨i1, k1, e1, l1, u1, rfl, rfl⟩ := hv
    simp only [List.cons_append, List.nil_append]
    refine GO ?_
    refine st_call (adjacent_string b o N c q f (a + (z - a) / 4 * 2) k1 (by omega) hN (by omega)) (by rfl) (by (focus ((repeat (first | exact Spl.nil | (apply Spl.cons; (focus ((repeat (first | with_reducible exact Tk.here | apply Tk.there)); done))))); done))) (fun v Post hv => ?_)
    obtain ⟨i2, k2, e2, l2, u2, rfl, rfl⟩ := hv
    simp only [List.cons_append, List.nil_append]
    refine GO ?_
    refine st_call (adjacent_string b o N c q f (a + (z - a) / 4 * 3) k2 (by omega) hN (by omega)) (by rfl) (by (focus ((repeat (first | exact Spl.nil | (apply Spl.cons; (focus ((repeat (first | with_reducible exact Tk.here | apply Tk.there)); done))))); done))) (fun v Post hv => ?_)
    obtain ⟨i3, k3, e3, l3, u3, rfl, rfl⟩ := hv
    simp only [List.cons_append, List.nil_append]
    refine GO ?_
    refine st_call (median_string b o N c q f i1 i2 i3 k3 (by omega) (by omega) (by omega) (by omega)) (by rfl) (by (focus ((repeat (first | exact Spl.nil | (apply Spl.cons; (focus ((repeat (first | with_reducible exact Tk.here | apply Tk.there)); done))))); done))) (fun v Post hv => ?_)
    obtain ⟨p, ks, e4, l4, u4, rfl, rfl⟩ := hv
    simp only [List.cons_append, List.nil_append]
    refine GO ?_
    by_cases s0 : ks = 0
    · simp only [s0, decide_true]
      refine GO ?_
      refine ⟨.inr rfl, _, _, .tmp (by rfl) (.tmp (by rfl) .nil), by (first | with_reducible exact Imp.refl | with_reducible exact Imp.left | (focus ((try simp only [List.nil_append]); (repeat (first | exact Imp.nil | (apply Imp.cons; (focus ((repeat (first | with_reducible exact Tk.here | apply Tk.there)); done))))); done))), ⟨p, _, by omega, rfl, rfl⟩⟩
    simp only [s0, decide_false]
    refine GO ?_
    by_cases s1 : ks = 12
    · simp only [s1, decide_true]
      refine GO ?_
      refine ⟨.inr rfl, _, _, .tmp (by rfl) (.tmp (by rfl) .nil), by (first | with_reducible exact Imp.refl | with_reducible exact Imp.left | (focus ((try simp only [List.nil_append]); (repeat (first | exact Imp.nil | (apply Imp.cons; (focus ((repeat (first | with_reducible exact Tk.here | apply Tk.there)); done))))); done))), ⟨p, _, by omega, rfl, rfl⟩⟩
    simp only [s1, decide_false]
    refine GO ?_
    refine ⟨.inr rfl, _, _, .tmp (by rfl) (.tmp (by rfl) .nil), by (first | with_reducible exact Imp.refl | with_reducible exact Imp.left | (focus ((try simp only [List.nil_append]); (repeat (first | exact Imp.nil | (apply Imp.cons; (focus ((repeat (first | with_reducible exact Tk.here | apply Tk.there)); done))))); done))), ⟨p, _, by omega, rfl, rfl⟩⟩
  · simp only [show (8 : Int) ≤ z - a by omega, decide_true]
    refine GO ?_
    simp only [h50, decide_false]
    refine GO ?_
    refine st_call (median_string b o N c q f (a + (z - a) / 4) (a + (z - a) / 4 * 2) (a + (z - a) / 4 * 3) 0 (by omega) (by omega) (by omega) (by omega)) (by rfl) (by (focus ((repeat (first | exact Spl.nil | (apply Spl.cons; (focus ((repeat (first | with_reducible exact Tk.here | apply Tk.there)); done))))); done))) (fun v Post hv => ?_)
    obtain ⟨p, ks, e4, l4, u4, rfl, rfl⟩ := hv
    simp only [List.cons_append, List.nil_append]
    refine GO ?_
    by_cases s0 : ks = 0
    · simp only [s0, decide_true]
      refine GO ?_
      refine ⟨.inr rfl, _, _, .tmp (by rfl) (.tmp (by rfl) .nil), by (first | with_reducible exact Imp.refl | with_reducible exact Imp.left | (focus ((try simp only [List.nil_append]); (repeat (first | exact Imp.nil | (apply Imp.cons; (focus ((repeat (first | with_reducible exact Tk.here | apply Tk.there)); done))))); done))), ⟨p, _, by omega, rfl, rfl⟩⟩
    simp only [s0, decide_false]
    refine GO ?_
    by_cases s1 : ks = 12
    · simp only [s1, decide_true]
      refine GO ?_
      refine ⟨.inr rfl, _, _, .tmp (by rfl) (.tmp (by rfl) .nil), by (first | with_reducible exact Imp.refl | with_reducible exact Imp.left | (focus ((try simp only [List.nil_append]); (repeat (first | exact Imp.nil | (apply Imp.cons; (focus ((repeat (first | with_reducible exact Tk.here | apply Tk.there)); done))))); done))), ⟨p, _, by omega, rfl, rfl⟩⟩
    simp only [s1, decide_false]
    refine GO ?_
    refine ⟨.inr rfl, _, _, .tmp (by rfl) (.tmp (by rfl) .nil), by (first | with_reducible exact Imp.refl | with_reducible exact Imp.left | (focus ((try simp only [List.nil_append]); (repeat (first | exact Imp.nil | (apply Imp.cons; (focus ((repeat (first | with_reducible exact Tk.here | apply Tk.there)); done))))); done))), ⟨p, _, by omega, rfl, rfl⟩⟩

theorem break_string (b o N c : Nat) (f : Int → ByteArray) (a z : Int) (h : 0 ≤ a ∧ a ≤ z ∧ z ≤ N) (hN : N ≤ 1073741823) :
    Fun Try.prog 73 [slF_string b o N c, vi a, vi z] [rowF b o Value.string N f] (fun v Post => v = .tuple #[] ∧ ∃ g, Sw a z f g ∧ Post = [rowF b o Value.string N g]) := by
  refine Fun.intro low73 (by simp [F73]) ?_
  refine GO ?_
  by_cases h8 : 8 ≤ z - a
  rotate_left
  · simp only [h8, decide_false]
    refine GO ?_
    refine VC.skip ?_
    exact ⟨.inl rfl, _, _, .nil, by (first | with_reducible exact Imp.refl | with_reducible exact Imp.left | (focus ((try simp only [List.nil_append]); (repeat (first | exact Imp.nil | (apply Imp.cons; (focus ((repeat (first | with_reducible exact Tk.here | apply Tk.there)); done))))); done))), rfl, f, .refl, rfl⟩
  simp only [h8, decide_true]
  refine GO ?_
  refine st_alloc (fun q => ?_)
  refine GO ?_
  obtain ⟨L, hL⟩ : ∃ L : Nat, (L : Int) = z - a := ⟨(z - a).toNat, by omega⟩
  rw [← hL]
  refine st_call (nextpow L (by omega)) (by rfl) (R := [cellsAt q 0 [.int .u64 (IntKind.u64.wrap L)], rowF b o Value.string N f]) (by simp [V.Spl]) (fun v Post hv => ?_)
  obtain ⟨⟨m, m1, m2, rfl⟩, rfl⟩ := hv
  have w0 : IntKind.i64.wrap ((L : Int) / 4 * 2) = (L : Int) / 4 * 2 := wrap64 (by omega)
  have w1 : IntKind.i64.wrap (a + (L : Int) / 4 * 2) = a + (L : Int) / 4 * 2 := wrap64 (by omega)
  have w2 : IntKind.i64.wrap (a + (L : Int) / 4 * 2 - 1) = a + (L : Int) / 4 * 2 - 1 := wrap64 (by omega)
  have w3 : IntKind.i64.wrap (a + (L : Int) / 4 * 2 + 1) = a + (L : Int) / 4 * 2 + 1 := wrap64 (by omega)
  simp only [List.nil_append]
  refine GO ?_
  simp only [q4_string L (by omega), w0, w1, w2, w3]
  refine VC.loop (α := Int × Int × (Int → ByteArray)) (Γf := fun y => [(0, slF_string b o N c), (1, vi a), (6, vi L), (7, ptr0 q), (8, .int .u64 m), (9, vi y.1)]) (Hf := fun y => [cellsAt q 0 [.int .u64 y.2.1], rowF b o Value.string N y.2.2])
    (I := fun y => a + (L : Int) / 4 * 2 - 1 ≤ y.1 ∧ y.1 ≤ a + (L : Int) / 4 * 2 + 2 ∧ Sw a z f y.2.2) (μ := fun y => (a + (L : Int) / 4 * 2 + 2 - y.1).toNat) (a + (L : Int) / 4 * 2 - 1, IntKind.u64.wrap L, f) ⟨by simp, by simp only; omega, .refl⟩ (by (repeat (first | exact Sub.nil | (apply Sub.cons; rfl)))) (by (first | with_reducible exact Imp.refl | with_reducible exact Imp.left | (focus ((try simp only [List.nil_append]); (repeat (first | exact Imp.nil | (apply Imp.cons; (focus ((repeat (first | with_reducible exact Tk.here | apply Tk.there)); done))))); done)))) ?_
  rintro ⟨i, x, g⟩ ⟨h1, h2, hsw⟩
  simp only at h1 h2 hsw
  refine GO ?_
  simp only [q4_string L (by omega), w0, w1, w2, w3]
  (first | (apply VC.seq_cond; rfl) | (apply VC.cond; rfl))
  · intro hlt
    have hlt : i ≤ a + (L : Int) / 4 * 2 + 1 := by simpa using hlt
    refine GO ?_
    refine st_call (next_spec q x) (by rfl) (by (focus ((repeat (first | exact Spl.nil | (apply Spl.cons; (focus ((repeat (first | with_reducible exact Tk.here | apply Tk.there)); done))))); done))) (fun v Post hv => ?_)
    obtain ⟨y, rfl, rfl⟩ := hv
    simp only [List.cons_append, List.nil_append]
    refine GO ?_
    have hm : IntKind.u64.wrap ((m : Int) - 1) = (m : Int) - 1 := by simp only [IntKind.wrap, IntKind.bits, IntKind.signed]; simp; omega
    rw [hm]
    have hand : ∃ t : Nat, t < m ∧ (BitVec.ofInt 64 y &&& BitVec.ofInt 64 ((m : Int) - 1)).toNat = t := by
      refine ⟨_, ?_, rfl⟩
      rw [BitVec.toNat_and]
      refine Nat.lt_of_le_of_lt Nat.and_le_right ?_
      rw [BitVec.toNat_ofInt]
      omega
    obtain ⟨t, t1, t2⟩ := hand
    have t3 : IntKind.i64.wrap (IntKind.u64.wrap (t : Int)) = t := by simp only [IntKind.wrap, IntKind.bits, IntKind.signed]; simp; omega
    rw [show IntKind.u64.bits = 64 from rfl, t2, t3]
    refine GO ?_
    by_cases ht : (L : Int) ≤ t
    · simp only [ht, decide_true]
      refine GOS ?_
      refine ⟨(i + 1, y, swp g i (a + ((t : Int) - L))), ⟨by simp only; omega, by simp only; omega, hsw.step (by omega) (by omega)⟩, by simp only; omega, by (repeat (first | exact Sub.nil | (apply Sub.cons; rfl))), by (first | with_reducible exact Imp.refl | with_reducible exact Imp.left | (focus ((try simp only [List.nil_append]); (repeat (first | exact Imp.nil | (apply Imp.cons; (focus ((repeat (first | with_reducible exact Tk.here | apply Tk.there)); done))))); done)))⟩
    · simp only [ht, decide_false]
      refine GOS ?_
      refine ⟨(i + 1, y, swp g i (a + (t : Int))), ⟨by simp only; omega, by simp only; omega, hsw.step (by omega) (by omega)⟩, by simp only; omega, by (repeat (first | exact Sub.nil | (apply Sub.cons; rfl))), by (first | with_reducible exact Imp.refl | with_reducible exact Imp.left | (focus ((try simp only [List.nil_append]); (repeat (first | exact Imp.nil | (apply Imp.cons; (focus ((repeat (first | with_reducible exact Tk.here | apply Tk.there)); done))))); done)))⟩
  · intro hge
    refine GO ?_
    exact ⟨.inl rfl, _, _, .nil, by (first | with_reducible exact Imp.refl | with_reducible exact Imp.left | (focus ((try simp only [List.nil_append]); (repeat (first | exact Imp.nil | (apply Imp.cons; (focus ((repeat (first | with_reducible exact Tk.here | apply Tk.there)); done))))); done))), rfl, g, hsw, rfl⟩
end Go.Proofs.Ytffmipimgodfdaa

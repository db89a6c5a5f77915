/-
  The code of functions, as terms: printed by a program, proved to be what the seat has.
-/
import Derived.Test.YtgindbomnbojeaaGreatV13
import Derived.Test.YtgindbomnbojeaaGreatV14
import Derived.KernelRfl
import Derived.Test.YtgindbomnbojeaaGreatProg
set_option linter.unusedSimpArgs false
set_option linter.unusedVariables false
namespace Go.Proofs.YtgindbomnbojeaaGreat
open Go Go.V
set_option maxRecDepth 100000
def F114 : FIR := laid (X := ⟨8, [.tmp 2],
 (qS [qk 2 0] [0]
 (.seq (.cond (.const (Value.bool false)) (qS [qm 3 0,qo 4 (.conv .u32 (.tmp 3)),qx 5 132 [4],qm 2 5] [2]
 .ret)
 .skip)
 (qS [qm 6 0,qx 7 133 [6],qm 2 7] [2]
 .ret)))⟩)
theorem n114 : F114.n = 8 := rfl
theorem low114 : lowF Tryz.prog (kpO F114) (assoc []) 114 = some F114 := by kernel_rfl
def F133 : FIR := laid (X := ⟨25, [.tmp 2],
 (qS [qk 2 0] [0,2]
 (.seq (qS [qm 3 0,qo 4 (.bin .geq (.tmp 3) (.const (Value.int IntKind.u64 4294967296)))] [0,2,4]
 (qC 4 (qS [qm 5 0,qo 6 (.bin .shr (.tmp 5) (.const (Value.int IntKind.u64 32))),qm 0 6] [0]
 (.reg [qk 2 32] [0,2]))
 .skip))
 (.seq (qS [qm 7 0,qo 8 (.bin .geq (.tmp 7) (.const (Value.int IntKind.u64 65536)))] [0,2,8]
 (qC 8 (qS [qm 9 0,qo 10 (.bin .shr (.tmp 9) (.const (Value.int IntKind.u64 16))),qm 0 10] [0,2]
 (.reg [qm 11 2,qc 12 .add 11 16,qm 2 12] [0,2]))
 .skip))
 (.seq (qS [qm 13 0,qo 14 (.bin .geq (.tmp 13) (.const (Value.int IntKind.u64 256)))] [0,2,14]
 (qC 14 (qS [qm 15 0,qo 16 (.bin .shr (.tmp 15) (.const (Value.int IntKind.u64 8))),qm 0 16] [0,2]
 (.reg [qm 17 2,qc 18 .add 17 8,qm 2 18] [0,2]))
 .skip))
 (qS [qm 19 2,qm 20 0,qo 21 (.conv .u8 (.tmp 20)),
  qo 22 (.idxS (.const (Value.string ⟨#[0, 1, 2, 2, 3, 3, 3, 3, 4, 4, 4, 4, 4, 4, 4, 4, 5, 5, 5, 5, 5, 5, 5, 5, 5, 5, 5, 5, 5, 5, 5, 5, 6, 6, 6, 6, 6, 6, 6, 6, 6, 6, 6, 6, 6, 6, 6, 6, 6, 6, 6, 6, 6, 6, 6, 6, 6, 6, 6, 6, 6, 6, 6, 6, 7, 7, 7, 7, 7, 7, 7, 7, 7, 7, 7, 7, 7, 7, 7, 7, 7, 7, 7, 7, 7, 7, 7, 7, 7, 7, 7, 7, 7, 7, 7, 7, 7, 7, 7, 7, 7, 7, 7, 7, 7, 7, 7, 7, 7, 7, 7, 7, 7, 7, 7, 7, 7, 7, 7, 7, 7, 7, 7, 7, 7, 7, 7, 7, 8, 8, 8, 8, 8, 8, 8, 8, 8, 8, 8, 8, 8, 8, 8, 8, 8, 8, 8, 8, 8, 8, 8, 8, 8, 8, 8, 8, 8, 8, 8, 8, 8, 8, 8, 8, 8, 8, 8, 8, 8, 8, 8, 8, 8, 8, 8, 8, 8, 8, 8, 8, 8, 8, 8, 8, 8, 8, 8, 8, 8, 8, 8, 8, 8, 8, 8, 8, 8, 8, 8, 8, 8, 8, 8, 8, 8, 8, 8, 8, 8, 8, 8, 8, 8, 8, 8, 8, 8, 8, 8, 8, 8, 8, 8, 8, 8, 8, 8, 8, 8, 8, 8, 8, 8, 8, 8, 8, 8, 8, 8, 8, 8, 8, 8, 8, 8, 8, 8, 8, 8, 8, 8, 8, 8, 8, 8, 8]⟩)) (.tmp 21)),
  qo 23 (.conv .i64 (.tmp 22)),qb 24 .add 19 23,qm 2 24] [2]
 .ret)))))⟩)
theorem low133 : lowF Tryz.prog (kpO F133) (assoc []) 133 = some F133 := by kernel_rfl
def F137 : FIR := laid (X := ⟨7, [.tmp 2],
 (qS [qo 2 (.mv (.const (Value.int IntKind.u64 0)))] [0]
 (qS [qm 3 0,qo 4 (.conv .u64 (.tmp 3)),qx 5 114 [4],qo 6 (.bin .shl (.const (Value.int IntKind.u64 1)) (.tmp 5)),qm 2 6] [2]
 .ret))⟩)
theorem n137 : F137.n = 7 := rfl
theorem low137 : lowF Tryz.prog (kpO F137) (assoc []) 137 = some F137 := by kernel_rfl
def F138 : FIR := laid (X := ⟨33, [.tmp 2],
 (qS [qo 2 (.mv (.const (Value.int IntKind.u64 0)))] [0]
 (.seq (qD [qm 3 0,qn 4 3,ql 5 4,qm 6 0,qn 7 6,ql 8 7,qo 9 (.bin .shl (.tmp 8) (.const (Value.int IntKind.u64 13))),qb 10 .xor 5 9,qn 11 3,
  qs 1 11 10] [[0,1,2,3,4,5,6,7,8,9]] [0])
 (.seq (qD [qm 12 0,qn 13 12,ql 14 13,qm 15 0,qn 16 15,ql 17 16,qo 18 (.bin .shr (.tmp 17) (.const (Value.int IntKind.u64 7))),qb 19 .xor 14 18,
  qn 20 12,qs 1 20 19] [[0,1,2,3,4,5,6,7,8,9]] [0])
 (.seq (qD [qm 21 0,qn 22 21,ql 23 22,qm 24 0,qn 25 24,ql 26 25,qo 27 (.bin .shl (.tmp 26) (.const (Value.int IntKind.u64 17))),
  qb 28 .xor 23 27,qn 29 21,qs 1 29 28] [[0,1,2,3,4,5,6,7,8,9]] [0])
 (qS [qm 30 0,qn 31 30,ql 32 31,qm 2 32] [2]
 .ret)))))⟩)
theorem n138 : F138.n = 33 := rfl
theorem low138 : lowF Tryz.prog (kpO F138) (assoc [(1,[[0,1,2,3,4,5,6,7,8,9]]), (2,[[0,1,2,3,4,5,6,7,8,9]]), (3,[[0,1,2,3,4,5,6,7,8,9]])]) 138 = some F138 := by kernel_rfl
set_option maxHeartbeats 1600000
def tab8 : ByteArray := ⟨#[0, 1, 2, 2, 3, 3, 3, 3, 4, 4, 4, 4, 4, 4, 4, 4, 5, 5, 5, 5, 5, 5, 5, 5, 5, 5, 5, 5, 5, 5, 5, 5, 6, 6, 6, 6, 6, 6, 6, 6, 6, 6, 6, 6, 6, 6, 6, 6, 6, 6, 6, 6, 6, 6, 6, 6, 6, 6, 6, 6, 6, 6, 6, 6, 7, 7, 7, 7, 7, 7, 7, 7, 7, 7, 7, 7, 7, 7, 7, 7, 7, 7, 7, 7, 7, 7, 7, 7, 7, 7, 7, 7, 7, 7, 7, 7, 7, 7, 7, 7, 7, 7, 7, 7, 7, 7, 7, 7, 7, 7, 7, 7, 7, 7, 7, 7, 7, 7, 7, 7, 7, 7, 7, 7, 7, 7, 7, 7, 8, 8, 8, 8, 8, 8, 8, 8, 8, 8, 8, 8, 8, 8, 8, 8, 8, 8, 8, 8, 8, 8, 8, 8, 8, 8, 8, 8, 8, 8, 8, 8, 8, 8, 8, 8, 8, 8, 8, 8, 8, 8, 8, 8, 8, 8, 8, 8, 8, 8, 8, 8, 8, 8, 8, 8, 8, 8, 8, 8, 8, 8, 8, 8, 8, 8, 8, 8, 8, 8, 8, 8, 8, 8, 8, 8, 8, 8, 8, 8, 8, 8, 8, 8, 8, 8, 8, 8, 8, 8, 8, 8, 8, 8, 8, 8, 8, 8, 8, 8, 8, 8, 8, 8, 8, 8, 8, 8, 8, 8, 8, 8, 8, 8, 8, 8, 8, 8, 8, 8, 8, 8, 8, 8, 8, 8, 8, 8]⟩
theorem tab8_ok : ∀ y : Fin 256, ∃ m : Fin 9, tab8[y.val]? = some (UInt8.ofNat m) ∧ y.val < 2 ^ m.val ∧ (2 ^ m.val ≤ 2 * y.val ∨ y.val = 0) := by decide +kernel
theorem fdiv_pow (x k : Nat) : ((x : Int)).fdiv (2 ^ k) = ((x / 2 ^ k : Nat) : Int) := by
  rw [Int.fdiv_eq_ediv_of_nonneg _ (by exact_mod_cast Nat.zero_le _)]
  simp
theorem len64 (x : Nat) (hx : x < 4294967296) : Fun Tryz.prog 133 [.int .u64 x] [] (fun v Post => (∃ n : Nat, n ≤ 64 ∧ x < 2 ^ n ∧ (2 ^ n ≤ 2 * x ∨ x = 0) ∧ v = vi n) ∧ Post = []) := by
  refine Fun.intro low133 (show 1 ≤ F133.n by decide) ?_
  refine GO ?_
  simp only [show ¬ ((4294967296 : Int) ≤ x) by omega, decide_false]
  refine GO ?_
  by_cases h1 : 65536 ≤ x
  · simp only [show ((65536 : Int) ≤ x) by omega, decide_true]
    refine GO ?_
    rw [show (min (16 : Int).toNat IntKind.u64.bits) = 16 by decide, fdiv_pow]
    by_cases h2 : 256 ≤ x / 2 ^ 16
    · simp only [show ((256 : Int) ≤ ((x / 2 ^ 16 : Nat) : Int)) by omega, decide_true]
      refine GO ?_
      rw [show (min (8 : Int).toNat IntKind.u64.bits) = 8 by decide, fdiv_pow]
      have hy : x / 2 ^ 16 / 2 ^ 8 < 256 := by omega
      have hrel : ∀ m : Nat, x / 2 ^ 16 / 2 ^ 8 < 2 ^ m → (2 ^ m ≤ 2 * (x / 2 ^ 16 / 2 ^ 8) ∨ x / 2 ^ 16 / 2 ^ 8 = 0) → x < 2 ^ (24 + m) ∧ (2 ^ (24 + m) ≤ 2 * x ∨ x = 0) := by
        intro m a1 a2
        rw [Nat.pow_add]
        generalize 2 ^ m = k at *
        omega
      generalize x / 2 ^ 16 / 2 ^ 8 = y at hy hrel ⊢
      refine GO ?_
      have hw : IntKind.u8.wrap (y : Int) = y := by simp only [IntKind.wrap, IntKind.bits, IntKind.signed]; simp; omega
      rw [hw]
      obtain ⟨m, t1, t2, t3⟩ := tab8_ok ⟨y, hy⟩
      have hm := m.isLt
      refine st_idxS (s := tab8) (j := y) (c := UInt8.ofNat m) (by rfl) (by rfl) rfl t1 ?_
      have hm2 : (UInt8.ofNat m.val).toNat = m.val := by simp; omega
      rw [hm2]
      refine st_conv (b := (m.val : Int)) (by rfl) (by simp only [IntKind.wrap, IntKind.bits, IntKind.signed]; simp; omega) ?_
      refine GO ?_
      refine ⟨.inr rfl, _, _, .tmp (by rfl) .nil, by exact IMx, ⟨⟨_, ?_, (hrel m.val t2 t3).1, (hrel m.val t2 t3).2, ?_⟩, rfl⟩⟩
      · omega
      · simp [tup]
    · simp only [show ¬ ((256 : Int) ≤ ((x / 2 ^ 16 : Nat) : Int)) by omega, decide_false]
      have hy : x / 2 ^ 16 < 256 := by omega
      have hrel : ∀ m : Nat, x / 2 ^ 16 < 2 ^ m → (2 ^ m ≤ 2 * (x / 2 ^ 16) ∨ x / 2 ^ 16 = 0) → x < 2 ^ (16 + m) ∧ (2 ^ (16 + m) ≤ 2 * x ∨ x = 0) := by
        intro m a1 a2
        rw [Nat.pow_add]
        generalize 2 ^ m = k at *
        omega
      generalize x / 2 ^ 16 = y at hy hrel h2 ⊢
      refine GO ?_
      have hw : IntKind.u8.wrap (y : Int) = y := by simp only [IntKind.wrap, IntKind.bits, IntKind.signed]; simp; omega
      rw [hw]
      obtain ⟨m, t1, t2, t3⟩ := tab8_ok ⟨y, hy⟩
      have hm := m.isLt
      refine st_idxS (s := tab8) (j := y) (c := UInt8.ofNat m) (by rfl) (by rfl) rfl t1 ?_
      have hm2 : (UInt8.ofNat m.val).toNat = m.val := by simp; omega
      rw [hm2]
      refine st_conv (b := (m.val : Int)) (by rfl) (by simp only [IntKind.wrap, IntKind.bits, IntKind.signed]; simp; omega) ?_
      refine GO ?_
      refine ⟨.inr rfl, _, _, .tmp (by rfl) .nil, by exact IMx, ⟨⟨_, ?_, (hrel m.val t2 t3).1, (hrel m.val t2 t3).2, ?_⟩, rfl⟩⟩
      · omega
      · simp [tup]
  · simp only [show ¬ ((65536 : Int) ≤ x) by omega, decide_false]
    refine GO ?_
    by_cases h2 : 256 ≤ x
    · simp only [show ((256 : Int) ≤ x) by omega, decide_true]
      refine GO ?_
      rw [show (min (8 : Int).toNat IntKind.u64.bits) = 8 by decide, fdiv_pow]
      have hy : x / 2 ^ 8 < 256 := by omega
      have hrel : ∀ m : Nat, x / 2 ^ 8 < 2 ^ m → (2 ^ m ≤ 2 * (x / 2 ^ 8) ∨ x / 2 ^ 8 = 0) → x < 2 ^ (8 + m) ∧ (2 ^ (8 + m) ≤ 2 * x ∨ x = 0) := by
        intro m a1 a2
        rw [Nat.pow_add]
        generalize 2 ^ m = k at *
        omega
      generalize x / 2 ^ 8 = y at hy hrel ⊢
      refine GO ?_
      have hw : IntKind.u8.wrap (y : Int) = y := by simp only [IntKind.wrap, IntKind.bits, IntKind.signed]; simp; omega
      rw [hw]
      obtain ⟨m, t1, t2, t3⟩ := tab8_ok ⟨y, hy⟩
      have hm := m.isLt
      refine st_idxS (s := tab8) (j := y) (c := UInt8.ofNat m) (by rfl) (by rfl) rfl t1 ?_
      have hm2 : (UInt8.ofNat m.val).toNat = m.val := by simp; omega
      rw [hm2]
      refine st_conv (b := (m.val : Int)) (by rfl) (by simp only [IntKind.wrap, IntKind.bits, IntKind.signed]; simp; omega) ?_
      refine GO ?_
      refine ⟨.inr rfl, _, _, .tmp (by rfl) .nil, by exact IMx, ⟨⟨_, ?_, (hrel m.val t2 t3).1, (hrel m.val t2 t3).2, ?_⟩, rfl⟩⟩
      · omega
      · simp [tup]
    · simp only [show ¬ ((256 : Int) ≤ x) by omega, decide_false]
      have hy : x < 256 := by omega
      have hrel : ∀ m : Nat, x < 2 ^ m → (2 ^ m ≤ 2 * x ∨ x = 0) → x < 2 ^ (0 + m) ∧ (2 ^ (0 + m) ≤ 2 * x ∨ x = 0) := by
        intro m a1 a2
        rw [Nat.zero_add]; exact ⟨a1, a2⟩
      obtain ⟨y, rfl⟩ : ∃ y, y = x := ⟨_, rfl⟩
      refine GO ?_
      have hw : IntKind.u8.wrap (y : Int) = y := by simp only [IntKind.wrap, IntKind.bits, IntKind.signed]; simp; omega
      rw [hw]
      obtain ⟨m, t1, t2, t3⟩ := tab8_ok ⟨y, hy⟩
      have hm := m.isLt
      refine st_idxS (s := tab8) (j := y) (c := UInt8.ofNat m) (by rfl) (by rfl) rfl t1 ?_
      have hm2 : (UInt8.ofNat m.val).toNat = m.val := by simp; omega
      rw [hm2]
      refine st_conv (b := (m.val : Int)) (by rfl) (by simp only [IntKind.wrap, IntKind.bits, IntKind.signed]; simp; omega) ?_
      refine GO ?_
      refine ⟨.inr rfl, _, _, .tmp (by rfl) .nil, by exact IMx, ⟨⟨_, ?_, (hrel m.val t2 t3).1, (hrel m.val t2 t3).2, ?_⟩, rfl⟩⟩
      · omega
      · simp [tup]
theorem bitlen (x : Nat) (hx : x < 4294967296) : Fun Tryz.prog 114 [.int .u64 x] [] (fun v Post => (∃ n : Nat, n ≤ 64 ∧ x < 2 ^ n ∧ (2 ^ n ≤ 2 * x ∨ x = 0) ∧ v = vi n) ∧ Post = []) := by
  refine Fun.intro low114 (by simp [n114]) ?_
  refine GO ?_
  refine st_call (len64 x hx) (by rfl) (R := []) (by simp [V.Spl]) (fun v Post hv => ?_)
  obtain ⟨⟨n, h1, h2, h3, rfl⟩, rfl⟩ := hv
  refine GO ?_
  refine ⟨.inr rfl, _, _, .tmp (by rfl) .nil, by exact IMx, ⟨⟨n, h1, h2, h3, rfl⟩, rfl⟩⟩
theorem nextpow (x : Nat) (hx : 0 < x ∧ x < 1073741824) : Fun Tryz.prog 137 [vi x] [] (fun v Post => (∃ m : Nat, x < m ∧ m ≤ 2 * x ∧ v = .int .u64 m) ∧ Post = []) := by
  refine Fun.intro low137 (by simp [n137]) ?_
  refine GO ?_
  rw [show IntKind.u64.wrap (x : Int) = x by simp only [IntKind.wrap, IntKind.bits, IntKind.signed]; simp; omega]
  refine st_call (bitlen x (by omega)) (by rfl) (R := []) (by simp [V.Spl]) (fun v Post hv => ?_)
  obtain ⟨⟨n, h1, h2, h3, rfl⟩, rfl⟩ := hv
  have h4 : 2 ^ n ≤ 2 * x := h3.resolve_right (by omega)
  have h5 : (1 : Int) * 2 ^ n = ((2 ^ n : Nat) : Int) := by simp
  refine VO.pure rfl (v := .int .u64 ((2 ^ n : Nat) : Int)) (fun ρ hρ => ?_) ?_
  · have e1 : ρ (.const (.int .u64 1)) = .int .u64 1 := hρ _ _ rfl
    have e2 : ρ (.tmp 5) = vi n := hρ _ _ rfl
    simp only [pureV, e1, e2, binV, intV, if_neg (show ¬ ((n : Int) < 0) by omega), Option.some.injEq, Value.int.injEq, true_and]
    rw [Int.toNat_natCast, show min n IntKind.u64.bits = n by simp [IntKind.bits]; omega, h5]
    generalize 2 ^ n = k at *
    simp only [IntKind.wrap, IntKind.bits, IntKind.signed]; simp; omega
  refine GO ?_
  refine ⟨.inr rfl, _, _, .tmp (by rfl) .nil, by exact IMx, ⟨⟨2 ^ n, h2, h4, rfl⟩, rfl⟩⟩
theorem next_spec (q : Nat) (x : Int) : Fun Tryz.prog 138 [ptr0 q] [cellsAt q 0 [.int .u64 x]] (fun v Post => ∃ y : Int, v = .int .u64 y ∧ Post = [cellsAt q 0 [.int .u64 y]]) := by
  refine Fun.intro low138 (by simp [n138]) ?_
  refine GO ?_
  refine ⟨.inr rfl, _, _, .tmp (by rfl) .nil, by exact IMx, ⟨_, rfl, rfl⟩⟩
end Go.Proofs.YtgindbomnbojeaaGreat

/-
  The code of functions, as terms: printed by a program, proved to be what the seat has.
-/
import Derived.Test.YtklkngccaemjdaaGreatVS
import Derived.KernelRfl
import Derived.Test.YtklkngccaemjdaaGreatProg
set_option linter.unusedSimpArgs false
set_option linter.unusedVariables false
namespace Go.Proofs.YtklkngccaemjdaaGreat
open Go Go.V
set_option maxRecDepth 100000
/- math/bits.Len -/
def kp121 : List (Nat × List Nat) := [(0, [0]), (1, [2]), (2, [2])]
def od121 : List (Nat × List (List Nat)) := []
def F121 : FIR := ⟨8, [.tmp 2],
 (.seq (.reg [⟨(some 2), none, .mv (.const (Value.int IntKind.i64 0))⟩] [0])
 (.seq (.cond (.const (Value.bool false))
     (.seq (.reg [⟨(some 3), none, .mv (.tmp 0)⟩,
         ⟨(some 4), none, .conv .u32 (.tmp 3)⟩,
         ⟨(some 5), none, .call 136 [(.tmp 4)]⟩,
         ⟨(some 2), none, .mv (.tmp 5)⟩] [2])
      .ret)
     .skip)
  (.seq (.reg [⟨(some 6), none, .mv (.tmp 0)⟩,
      ⟨(some 7), none, .call 137 [(.tmp 6)]⟩,
      ⟨(some 2), none, .mv (.tmp 7)⟩] [2])
   .ret)))⟩
theorem low121 : lowF Tryz.prog (assoc kp121) (assoc od121) 121 = some F121 := by kernel_rfl

/- math/bits.Len64 -/
def kp137 : List (Nat × List Nat) := [(0, [0, 2]), (1, [0, 2, 4]), (2, [0]), (3, [0, 2]), (4, [0, 2, 8]), (5, [0, 2]), (6, [0, 2]), (7, [0, 2, 14]), (8, [0, 2]), (9, [0, 2]), (10, [2])]
def od137 : List (Nat × List (List Nat)) := []
def F137 : FIR := ⟨25, [.tmp 2],
 (.seq (.reg [⟨(some 2), none, .mv (.const (Value.int IntKind.i64 0))⟩] [0, 2])
 (.seq (.seq (.reg [⟨(some 3), none, .mv (.tmp 0)⟩,
      ⟨(some 4), none, .bin .geq (.tmp 3) (.const (Value.int IntKind.u64 4294967296))⟩] [0, 2, 4])
   (.cond (.tmp 4)
      (.seq (.reg [⟨(some 5), none, .mv (.tmp 0)⟩,
          ⟨(some 6), none, .bin .shr (.tmp 5) (.const (Value.int IntKind.u64 32))⟩,
          ⟨(some 0), none, .mv (.tmp 6)⟩] [0])
       (.reg [⟨(some 2), none, .mv (.const (Value.int IntKind.i64 32))⟩] [0, 2]))
      .skip))
  (.seq (.seq (.reg [⟨(some 7), none, .mv (.tmp 0)⟩,
       ⟨(some 8), none, .bin .geq (.tmp 7) (.const (Value.int IntKind.u64 65536))⟩] [0, 2, 8])
    (.cond (.tmp 8)
       (.seq (.reg [⟨(some 9), none, .mv (.tmp 0)⟩,
           ⟨(some 10), none, .bin .shr (.tmp 9) (.const (Value.int IntKind.u64 16))⟩,
           ⟨(some 0), none, .mv (.tmp 10)⟩] [0, 2])
        (.reg [⟨(some 11), none, .mv (.tmp 2)⟩,
           ⟨(some 12), none, .bin .add (.tmp 11) (.const (Value.int IntKind.i64 16))⟩,
           ⟨(some 2), none, .mv (.tmp 12)⟩] [0, 2]))
       .skip))
   (.seq (.seq (.reg [⟨(some 13), none, .mv (.tmp 0)⟩,
        ⟨(some 14), none, .bin .geq (.tmp 13) (.const (Value.int IntKind.u64 256))⟩] [0, 2, 14])
     (.cond (.tmp 14)
        (.seq (.reg [⟨(some 15), none, .mv (.tmp 0)⟩,
            ⟨(some 16), none, .bin .shr (.tmp 15) (.const (Value.int IntKind.u64 8))⟩,
            ⟨(some 0), none, .mv (.tmp 16)⟩] [0, 2])
         (.reg [⟨(some 17), none, .mv (.tmp 2)⟩,
            ⟨(some 18), none, .bin .add (.tmp 17) (.const (Value.int IntKind.i64 8))⟩,
            ⟨(some 2), none, .mv (.tmp 18)⟩] [0, 2]))
        .skip))
    (.seq (.reg [⟨(some 19), none, .mv (.tmp 2)⟩,
        ⟨(some 20), none, .mv (.tmp 0)⟩,
        ⟨(some 21), none, .conv .u8 (.tmp 20)⟩,
        ⟨(some 22), none, .idxS (.const (Value.string ⟨#[0, 1, 2, 2, 3, 3, 3, 3, 4, 4, 4, 4, 4, 4, 4, 4, 5, 5, 5, 5, 5, 5, 5, 5, 5, 5, 5, 5, 5, 5, 5, 5, 6, 6, 6, 6, 6, 6, 6, 6, 6, 6, 6, 6, 6, 6, 6, 6, 6, 6, 6, 6, 6, 6, 6, 6, 6, 6, 6, 6, 6, 6, 6, 6, 7, 7, 7, 7, 7, 7, 7, 7, 7, 7, 7, 7, 7, 7, 7, 7, 7, 7, 7, 7, 7, 7, 7, 7, 7, 7, 7, 7, 7, 7, 7, 7, 7, 7, 7, 7, 7, 7, 7, 7, 7, 7, 7, 7, 7, 7, 7, 7, 7, 7, 7, 7, 7, 7, 7, 7, 7, 7, 7, 7, 7, 7, 7, 7, 8, 8, 8, 8, 8, 8, 8, 8, 8, 8, 8, 8, 8, 8, 8, 8, 8, 8, 8, 8, 8, 8, 8, 8, 8, 8, 8, 8, 8, 8, 8, 8, 8, 8, 8, 8, 8, 8, 8, 8, 8, 8, 8, 8, 8, 8, 8, 8, 8, 8, 8, 8, 8, 8, 8, 8, 8, 8, 8, 8, 8, 8, 8, 8, 8, 8, 8, 8, 8, 8, 8, 8, 8, 8, 8, 8, 8, 8, 8, 8, 8, 8, 8, 8, 8, 8, 8, 8, 8, 8, 8, 8, 8, 8, 8, 8, 8, 8, 8, 8, 8, 8, 8, 8, 8, 8, 8, 8, 8, 8, 8, 8, 8, 8, 8, 8, 8, 8, 8, 8, 8, 8, 8, 8, 8, 8, 8, 8]⟩)) (.tmp 21)⟩,
        ⟨(some 23), none, .conv .i64 (.tmp 22)⟩,
        ⟨(some 24), none, .bin .add (.tmp 19) (.tmp 23)⟩,
        ⟨(some 2), none, .mv (.tmp 24)⟩] [2])
     .ret)))))⟩
theorem low137 : lowF Tryz.prog (assoc kp137) (assoc od137) 137 = some F137 := by kernel_rfl

/- math/bits.Len32 -/
def kp136 : List (Nat × List Nat) := [(0, [0, 2]), (1, [0, 2, 4]), (2, [0]), (3, [0, 2]), (4, [0, 2, 8]), (5, [0, 2]), (6, [0, 2]), (7, [2])]
def od136 : List (Nat × List (List Nat)) := []
def F136 : FIR := ⟨19, [.tmp 2],
 (.seq (.reg [⟨(some 2), none, .mv (.const (Value.int IntKind.i64 0))⟩] [0, 2])
 (.seq (.seq (.reg [⟨(some 3), none, .mv (.tmp 0)⟩,
      ⟨(some 4), none, .bin .geq (.tmp 3) (.const (Value.int IntKind.u32 65536))⟩] [0, 2, 4])
   (.cond (.tmp 4)
      (.seq (.reg [⟨(some 5), none, .mv (.tmp 0)⟩,
          ⟨(some 6), none, .bin .shr (.tmp 5) (.const (Value.int IntKind.u64 16))⟩,
          ⟨(some 0), none, .mv (.tmp 6)⟩] [0])
       (.reg [⟨(some 2), none, .mv (.const (Value.int IntKind.i64 16))⟩] [0, 2]))
      .skip))
  (.seq (.seq (.reg [⟨(some 7), none, .mv (.tmp 0)⟩,
       ⟨(some 8), none, .bin .geq (.tmp 7) (.const (Value.int IntKind.u32 256))⟩] [0, 2, 8])
    (.cond (.tmp 8)
       (.seq (.reg [⟨(some 9), none, .mv (.tmp 0)⟩,
           ⟨(some 10), none, .bin .shr (.tmp 9) (.const (Value.int IntKind.u64 8))⟩,
           ⟨(some 0), none, .mv (.tmp 10)⟩] [0, 2])
        (.reg [⟨(some 11), none, .mv (.tmp 2)⟩,
           ⟨(some 12), none, .bin .add (.tmp 11) (.const (Value.int IntKind.i64 8))⟩,
           ⟨(some 2), none, .mv (.tmp 12)⟩] [0, 2]))
       .skip))
   (.seq (.reg [⟨(some 13), none, .mv (.tmp 2)⟩,
       ⟨(some 14), none, .mv (.tmp 0)⟩,
       ⟨(some 15), none, .conv .u8 (.tmp 14)⟩,
       ⟨(some 16), none, .idxS (.const (Value.string ⟨#[0, 1, 2, 2, 3, 3, 3, 3, 4, 4, 4, 4, 4, 4, 4, 4, 5, 5, 5, 5, 5, 5, 5, 5, 5, 5, 5, 5, 5, 5, 5, 5, 6, 6, 6, 6, 6, 6, 6, 6, 6, 6, 6, 6, 6, 6, 6, 6, 6, 6, 6, 6, 6, 6, 6, 6, 6, 6, 6, 6, 6, 6, 6, 6, 7, 7, 7, 7, 7, 7, 7, 7, 7, 7, 7, 7, 7, 7, 7, 7, 7, 7, 7, 7, 7, 7, 7, 7, 7, 7, 7, 7, 7, 7, 7, 7, 7, 7, 7, 7, 7, 7, 7, 7, 7, 7, 7, 7, 7, 7, 7, 7, 7, 7, 7, 7, 7, 7, 7, 7, 7, 7, 7, 7, 7, 7, 7, 7, 8, 8, 8, 8, 8, 8, 8, 8, 8, 8, 8, 8, 8, 8, 8, 8, 8, 8, 8, 8, 8, 8, 8, 8, 8, 8, 8, 8, 8, 8, 8, 8, 8, 8, 8, 8, 8, 8, 8, 8, 8, 8, 8, 8, 8, 8, 8, 8, 8, 8, 8, 8, 8, 8, 8, 8, 8, 8, 8, 8, 8, 8, 8, 8, 8, 8, 8, 8, 8, 8, 8, 8, 8, 8, 8, 8, 8, 8, 8, 8, 8, 8, 8, 8, 8, 8, 8, 8, 8, 8, 8, 8, 8, 8, 8, 8, 8, 8, 8, 8, 8, 8, 8, 8, 8, 8, 8, 8, 8, 8, 8, 8, 8, 8, 8, 8, 8, 8, 8, 8, 8, 8, 8, 8, 8, 8, 8, 8]⟩)) (.tmp 15)⟩,
       ⟨(some 17), none, .conv .i64 (.tmp 16)⟩,
       ⟨(some 18), none, .bin .add (.tmp 13) (.tmp 17)⟩,
       ⟨(some 2), none, .mv (.tmp 18)⟩] [2])
    .ret))))⟩
theorem low136 : lowF Tryz.prog (assoc kp136) (assoc od136) 136 = some F136 := by kernel_rfl

/- slices.nextPowerOfTwo -/
def kp148 : List (Nat × List Nat) := [(0, [0]), (1, [2])]
def od148 : List (Nat × List (List Nat)) := []
def F148 : FIR := ⟨7, [.tmp 2],
 (.seq (.reg [⟨(some 2), none, .mv (.const (Value.int IntKind.u64 0))⟩] [0])
 (.seq (.reg [⟨(some 3), none, .mv (.tmp 0)⟩,
     ⟨(some 4), none, .conv .u64 (.tmp 3)⟩,
     ⟨(some 5), none, .call 121 [(.tmp 4)]⟩,
     ⟨(some 6), none, .bin .shl (.const (Value.int IntKind.u64 1)) (.tmp 5)⟩,
     ⟨(some 2), none, .mv (.tmp 6)⟩] [2])
  .ret))⟩
theorem low148 : lowF Tryz.prog (assoc kp148) (assoc od148) 148 = some F148 := by kernel_rfl

/- (*slices.xorshift).Next -/
def kp149 : List (Nat × List Nat) := [(0, [0]), (1, [0]), (2, [0]), (3, [0]), (4, [2])]
def od149 : List (Nat × List (List Nat)) := [(1, [[0, 1, 2, 3, 4, 5, 6, 7, 8, 9]]), (2, [[0, 1, 2, 3, 4, 5, 6, 7, 8, 9]]), (3, [[0, 1, 2, 3, 4, 5, 6, 7, 8, 9]])]
def F149 : FIR := ⟨33, [.tmp 2],
 (.seq (.reg [⟨(some 2), none, .mv (.const (Value.int IntKind.u64 0))⟩] [0])
 (.seq (.draw [[⟨(some 3), none, .mv (.tmp 0)⟩,
      ⟨(some 4), none, .nilck (.tmp 3)⟩,
      ⟨(some 5), none, .load1 (.tmp 4)⟩,
      ⟨(some 6), none, .mv (.tmp 0)⟩,
      ⟨(some 7), none, .nilck (.tmp 6)⟩,
      ⟨(some 8), none, .load1 (.tmp 7)⟩,
      ⟨(some 9), none, .bin .shl (.tmp 8) (.const (Value.int IntKind.u64 13))⟩,
      ⟨(some 10), none, .bin .xor (.tmp 5) (.tmp 9)⟩,
      ⟨(some 11), none, .nilck (.tmp 3)⟩,
      ⟨none, none, .store 1 (.tmp 11) (.tmp 10)⟩]] [0])
  (.seq (.draw [[⟨(some 12), none, .mv (.tmp 0)⟩,
       ⟨(some 13), none, .nilck (.tmp 12)⟩,
       ⟨(some 14), none, .load1 (.tmp 13)⟩,
       ⟨(some 15), none, .mv (.tmp 0)⟩,
       ⟨(some 16), none, .nilck (.tmp 15)⟩,
       ⟨(some 17), none, .load1 (.tmp 16)⟩,
       ⟨(some 18), none, .bin .shr (.tmp 17) (.const (Value.int IntKind.u64 7))⟩,
       ⟨(some 19), none, .bin .xor (.tmp 14) (.tmp 18)⟩,
       ⟨(some 20), none, .nilck (.tmp 12)⟩,
       ⟨none, none, .store 1 (.tmp 20) (.tmp 19)⟩]] [0])
   (.seq (.draw [[⟨(some 21), none, .mv (.tmp 0)⟩,
        ⟨(some 22), none, .nilck (.tmp 21)⟩,
        ⟨(some 23), none, .load1 (.tmp 22)⟩,
        ⟨(some 24), none, .mv (.tmp 0)⟩,
        ⟨(some 25), none, .nilck (.tmp 24)⟩,
        ⟨(some 26), none, .load1 (.tmp 25)⟩,
        ⟨(some 27), none, .bin .shl (.tmp 26) (.const (Value.int IntKind.u64 17))⟩,
        ⟨(some 28), none, .bin .xor (.tmp 23) (.tmp 27)⟩,
        ⟨(some 29), none, .nilck (.tmp 21)⟩,
        ⟨none, none, .store 1 (.tmp 29) (.tmp 28)⟩]] [0])
    (.seq (.reg [⟨(some 30), none, .mv (.tmp 0)⟩,
        ⟨(some 31), none, .nilck (.tmp 30)⟩,
        ⟨(some 32), none, .load1 (.tmp 31)⟩,
        ⟨(some 2), none, .mv (.tmp 32)⟩] [2])
     .ret)))))⟩
theorem low149 : lowF Tryz.prog (assoc kp149) (assoc od149) 149 = some F149 := by kernel_rfl

end Go.Proofs.YtklkngccaemjdaaGreat
namespace Go.Proofs.YtklkngccaemjdaaGreat
open Go Go.V
set_option maxHeartbeats 1600000
set_option maxRecDepth 100000
set_option linter.unusedSimpArgs false
set_option linter.unusedVariables false
def tab8 : ByteArray := ⟨#[0, 1, 2, 2, 3, 3, 3, 3, 4, 4, 4, 4, 4, 4, 4, 4, 5, 5, 5, 5, 5, 5, 5, 5, 5, 5, 5, 5, 5, 5, 5, 5, 6, 6, 6, 6, 6, 6, 6, 6, 6, 6, 6, 6, 6, 6, 6, 6, 6, 6, 6, 6, 6, 6, 6, 6, 6, 6, 6, 6, 6, 6, 6, 6, 7, 7, 7, 7, 7, 7, 7, 7, 7, 7, 7, 7, 7, 7, 7, 7, 7, 7, 7, 7, 7, 7, 7, 7, 7, 7, 7, 7, 7, 7, 7, 7, 7, 7, 7, 7, 7, 7, 7, 7, 7, 7, 7, 7, 7, 7, 7, 7, 7, 7, 7, 7, 7, 7, 7, 7, 7, 7, 7, 7, 7, 7, 7, 7, 8, 8, 8, 8, 8, 8, 8, 8, 8, 8, 8, 8, 8, 8, 8, 8, 8, 8, 8, 8, 8, 8, 8, 8, 8, 8, 8, 8, 8, 8, 8, 8, 8, 8, 8, 8, 8, 8, 8, 8, 8, 8, 8, 8, 8, 8, 8, 8, 8, 8, 8, 8, 8, 8, 8, 8, 8, 8, 8, 8, 8, 8, 8, 8, 8, 8, 8, 8, 8, 8, 8, 8, 8, 8, 8, 8, 8, 8, 8, 8, 8, 8, 8, 8, 8, 8, 8, 8, 8, 8, 8, 8, 8, 8, 8, 8, 8, 8, 8, 8, 8, 8, 8, 8, 8, 8, 8, 8, 8, 8, 8, 8, 8, 8, 8, 8, 8, 8, 8, 8, 8, 8, 8, 8, 8, 8, 8, 8]⟩

theorem tab8_ok : ∀ y : Fin 256, ∃ m : Fin 9, tab8[y.val]? = some (UInt8.ofNat m) ∧ y.val < 2 ^ m.val ∧ (2 ^ m.val ≤ 2 * y.val ∨ y.val = 0) := by decide +kernel

theorem fdiv_pow (x k : Nat) : ((x : Int)).fdiv (2 ^ k) = ((x / 2 ^ k : Nat) : Int) := by
  rw [Int.fdiv_eq_ediv_of_nonneg _ (by exact_mod_cast Nat.zero_le _)]
  simp

theorem len64 (x : Nat) (hx : x < 4294967296) : Fun Tryz.prog 137 [.int .u64 x] [] (fun v Post => (∃ n : Nat, n ≤ 64 ∧ x < 2 ^ n ∧ (2 ^ n ≤ 2 * x ∨ x = 0) ∧ v = vi n) ∧ Post = []) := by
  refine Fun.intro low137 (show 1 ≤ F137.n by decide) ?_
  refine GO ?_
  simp only [show ¬ ((4294967296 : Int) ≤ x) by omega, decide_false]
  refine GO ?_
  by_cases h1 : 65536 ≤ x
  · simp only [show ((65536 : Int) ≤ x) by omega, decide_true]
    refine GO ?_
    rw [show (min (16 : Int).toNat IntKind.u64.bits) = 16 by decide, fdiv_pow]
    by_cases h2 : 256 ≤ x / 2 ^ 16
    · simp only [show ((256 : Int) ≤ ((x / 2 ^ 16 : Nat) : Int)) by omega, decide_true]
      refine GO ?_
      rw [show (min (8 : Int).toNat IntKind.u64.bits) = 8 by decide, fdiv_pow]
      have hy : x / 2 ^ 16 / 2 ^ 8 < 256 := by omega
      have hrel : ∀ m : Nat, x / 2 ^ 16 / 2 ^ 8 < 2 ^ m → (2 ^ m ≤ 2 * (x / 2 ^ 16 / 2 ^ 8) ∨ x / 2 ^ 16 / 2 ^ 8 = 0) → x < 2 ^ (24 + m) ∧ (2 ^ (24 + m) ≤ 2 * x ∨ x = 0) := by
        intro m a1 a2
        rw [Nat.pow_add]
        generalize 2 ^ m = k at *
        omega
      generalize x / 2 ^ 16 / 2 ^ 8 = y at hy hrel ⊢
      refine GO ?_
      have hw : IntKind.u8.wrap (y : Int) = y := by simp only [IntKind.wrap, IntKind.bits, IntKind.signed]; simp; omega
      rw [hw]
      obtain ⟨m, t1, t2, t3⟩ := tab8_ok ⟨y, hy⟩
      have hm := m.isLt
      refine st_idxS (s := tab8) (j := y) (c := UInt8.ofNat m) (by rfl) (by rfl) rfl t1 ?_
      have hm2 : (UInt8.ofNat m.val).toNat = m.val := by simp; omega
      rw [hm2]
      refine st_conv (b := (m.val : Int)) (by rfl) (by simp only [IntKind.wrap, IntKind.bits, IntKind.signed]; simp; omega) ?_
      refine GO ?_
      refine ⟨.inr rfl, _, _, .tmp (by rfl) .nil, by (first | with_reducible exact Imp.refl | with_reducible exact Imp.left | (focus ((try simp only [List.nil_append]); (repeat (first | exact Imp.nil | (apply Imp.cons; (focus ((repeat (first | with_reducible exact Tk.here | apply Tk.there)); done))))); done))), ⟨⟨_, ?_, (hrel m.val t2 t3).1, (hrel m.val t2 t3).2, ?_⟩, rfl⟩⟩
      · omega
      · simp [tup]
    · simp only [show ¬ ((256 : Int) ≤ ((x / 2 ^ 16 : Nat) : Int)) by omega, decide_false]
      have hy : x / 2 ^ 16 < 256 := by omega
      have hrel : ∀ m : Nat, x / 2 ^ 16 < 2 ^ m → (2 ^ m ≤ 2 * (x / 2 ^ 16) ∨ x / 2 ^ 16 = 0) → x < 2 ^ (16 + m) ∧ (2 ^ (16 + m) ≤ 2 * x ∨ x = 0) := by
        intro m a1 a2
        rw [Nat.pow_add]
        generalize 2 ^ m = k at *
        omega
      generalize x / 2 ^ 16 = y at hy hrel h2 ⊢
      refine GO ?_
      have hw : IntKind.u8.wrap (y : Int) = y := by simp only [IntKind.wrap, IntKind.bits, IntKind.signed]; simp; omega
      rw [hw]
      obtain ⟨m, t1, t2, t3⟩ := tab8_ok ⟨y, hy⟩
      have hm := m.isLt
      refine st_idxS (s := tab8) (j := y) (c := UInt8.ofNat m) (by rfl) (by rfl) rfl t1 ?_
      have hm2 : (UInt8.ofNat m.val).toNat = m.val := by simp; omega
      rw [hm2]
      refine st_conv (b := (m.val : Int)) (by rfl) (by simp only [IntKind.wrap, IntKind.bits, IntKind.signed]; simp; omega) ?_
      refine GO ?_
      refine ⟨.inr rfl, _, _, .tmp (by rfl) .nil, by (first | with_reducible exact Imp.refl | with_reducible exact Imp.left | (focus ((try simp only [List.nil_append]); (repeat (first | exact Imp.nil | (apply Imp.cons; (focus ((repeat (first | with_reducible exact Tk.here | apply Tk.there)); done))))); done))), ⟨⟨_, ?_, (hrel m.val t2 t3).1, (hrel m.val t2 t3).2, ?_⟩, rfl⟩⟩
      · omega
      · simp [tup]
  · simp only [show ¬ ((65536 : Int) ≤ x) by omega, decide_false]
    refine GO ?_
    by_cases h2 : 256 ≤ x
    · simp only [show ((256 : Int) ≤ x) by omega, decide_true]
      refine GO ?_
      rw [show (min (8 : Int).toNat IntKind.u64.bits) = 8 by decide, fdiv_pow]
      have hy : x / 2 ^ 8 < 256 := by omega
      have hrel : ∀ m : Nat, x / 2 ^ 8 < 2 ^ m → (2 ^ m ≤ 2 * (x / 2 ^ 8) ∨ x / 2 ^ 8 = 0) → x < 2 ^ (8 + m) ∧ (2 ^ (8 + m) ≤ 2 * x ∨ x = 0) := by
        intro m a1 a2
        rw [Nat.pow_add]
        generalize 2 ^ m = k at *
        omega
      generalize x / 2 ^ 8 = y at hy hrel ⊢
      refine GO ?_
      have hw : IntKind.u8.wrap (y : Int) = y := by simp only [IntKind.wrap, IntKind.bits, IntKind.signed]; simp; omega
      rw [hw]
      obtain ⟨m, t1, t2, t3⟩ := tab8_ok ⟨y, hy⟩
      have hm := m.isLt
      refine st_idxS (s := tab8) (j := y) (c := UInt8.ofNat m) (by rfl) (by rfl) rfl t1 ?_
      have hm2 : (UInt8.ofNat m.val).toNat = m.val := by simp; omega
      rw [hm2]
      refine st_conv (b := (m.val : Int)) (by rfl) (by simp only [IntKind.wrap, IntKind.bits, IntKind.signed]; simp; omega) ?_
      refine GO ?_
      refine ⟨.inr rfl, _, _, .tmp (by rfl) .nil, by (first | with_reducible exact Imp.refl | with_reducible exact Imp.left | (focus ((try simp only [List.nil_append]); (repeat (first | exact Imp.nil | (apply Imp.cons; (focus ((repeat (first | with_reducible exact Tk.here | apply Tk.there)); done))))); done))), ⟨⟨_, ?_, (hrel m.val t2 t3).1, (hrel m.val t2 t3).2, ?_⟩, rfl⟩⟩
      · omega
      · simp [tup]
    · simp only [show ¬ ((256 : Int) ≤ x) by omega, decide_false]
      have hy : x < 256 := by omega
      have hrel : ∀ m : Nat, x < 2 ^ m → (2 ^ m ≤ 2 * x ∨ x = 0) → x < 2 ^ (0 + m) ∧ (2 ^ (0 + m) ≤ 2 * x ∨ x = 0) := by
        intro m a1 a2
        rw [Nat.zero_add]; exact ⟨a1, a2⟩
      obtain ⟨y, rfl⟩ : ∃ y, y = x := ⟨_, rfl⟩
      refine GO ?_
      have hw : IntKind.u8.wrap (y : Int) = y := by simp only [IntKind.wrap, IntKind.bits, IntKind.signed]; simp; omega
      rw [hw]
      obtain ⟨m, t1, t2, t3⟩ := tab8_ok ⟨y, hy⟩
      have hm := m.isLt
      refine st_idxS (s := tab8) (j := y) (c := UInt8.ofNat m) (by rfl) (by rfl) rfl t1 ?_
      have hm2 : (UInt8.ofNat m.val).toNat = m.val := by simp; omega
      rw [hm2]
      refine st_conv (b := (m.val : Int)) (by rfl) (by simp only [IntKind.wrap, IntKind.bits, IntKind.signed]; simp; omega) ?_
      refine GO ?_
      refine ⟨.inr rfl, _, _, .tmp (by rfl) .nil, by (first | with_reducible exact Imp.refl | with_reducible exact Imp.left | (focus ((try simp only [List.nil_append]); (repeat (first | exact Imp.nil | (apply Imp.cons; (focus ((repeat (first | with_reducible exact Tk.here | apply Tk.there)); done))))); done))), ⟨⟨_, ?_, (hrel m.val t2 t3).1, (hrel m.val t2 t3).2, ?_⟩, rfl⟩⟩
      · omega
      · simp [tup]

theorem bitlen (x : Nat) (hx : x < 4294967296) : Fun Tryz.prog 121 [.int .u64 x] [] (fun v Post => (∃ n : Nat, n ≤ 64 ∧ x < 2 ^ n ∧ (2 ^ n ≤ 2 * x ∨ x = 0) ∧ v = vi n) ∧ Post = []) := by
  refine Fun.intro low121 (by simp [F121]) ?_
  refine GO ?_
  refine st_call (len64 x hx) (by rfl) (R := []) (by simp [V.Spl]) (fun v Post hv => ?_)
  obtain ⟨⟨n, h1, h2, h3, rfl⟩, rfl⟩ := hv
  refine GO ?_
  refine ⟨.inr rfl, _, _, .tmp (by rfl) .nil, by (first | with_reducible exact Imp.refl | with_reducible exact Imp.left | (focus ((try simp only [List.nil_append]); (repeat (first | exact Imp.nil | (apply Imp.cons; (focus ((repeat (first | with_reducible exact Tk.here | apply Tk.there)); done))))); done))), ⟨⟨n, h1, h2, h3, rfl⟩, rfl⟩⟩

theorem nextpow (x : Nat) (hx : 0 < x ∧ x < 1073741824) : Fun Tryz.prog 148 [vi x] [] (fun v Post => (∃ m : Nat, x < m ∧ m ≤ 2 * x ∧ v = .int .u64 m) ∧ Post = []) := by
  refine Fun.intro low148 (by simp [F148]) ?_
  refine GO ?_
  rw [show IntKind.u64.wrap (x : Int) = x by simp only [IntKind.wrap, IntKind.bits, IntKind.signed]; simp; omega]
  refine st_call (bitlen x (by omega)) (by rfl) (R := []) (by simp [V.Spl]) (fun v Post hv => ?_)
  obtain ⟨⟨n, h1, h2, h3, rfl⟩, rfl⟩ := hv
  have h4 : 2 ^ n ≤ 2 * x := h3.resolve_right (by omega)
  have h5 : (1 : Int) * 2 ^ n = ((2 ^ n : Nat) : Int) := by simp
  refine VO.pure rfl (v := .int .u64 ((2 ^ n : Nat) : Int)) (fun ρ hρ => ?_) ?_
  · have e1 : ρ (.const (.int .u64 1)) = .int .u64 1 := hρ _ _ rfl
    have e2 : ρ (.tmp 5) = vi n := hρ _ _ rfl
    simp only [pureV, e1, e2, binV, intV, if_neg (show ¬ ((n : Int) < 0) by omega), Option.some.injEq, Value.int.injEq, true_and]
    rw [Int.toNat_natCast, show min n IntKind.u64.bits = n by simp [IntKind.bits]; omega, h5]
    generalize 2 ^ n = k at *
    simp only [IntKind.wrap, IntKind.bits, IntKind.signed]; simp; omega
  refine GO ?_
  refine ⟨.inr rfl, _, _, .tmp (by rfl) .nil, by (first | with_reducible exact Imp.refl | with_reducible exact Imp.left | (focus ((try simp only [List.nil_append]); (repeat (first | exact Imp.nil | (apply Imp.cons; (focus ((repeat (first | with_reducible exact Tk.here | apply Tk.there)); done))))); done))), ⟨⟨2 ^ n, h2, h4, rfl⟩, rfl⟩⟩

theorem next_spec (q : Nat) (x : Int) : Fun Tryz.prog 149 [ptr0 q] [cellsAt q 0 [.int .u64 x]] (fun v Post => ∃ y : Int, v = .int .u64 y ∧ Post = [cellsAt q 0 [.int .u64 y]]) := by
  refine Fun.intro low149 (by simp [F149]) ?_
  refine GO ?_
  refine ⟨.inr rfl, _, _, .tmp (by rfl) .nil, by (first | with_reducible exact Imp.refl | with_reducible exact Imp.left | (focus ((try simp only [List.nil_append]); (repeat (first | exact Imp.nil | (apply Imp.cons; (focus ((repeat (first | with_reducible exact Tk.here | apply Tk.there)); done))))); done))), ⟨_, rfl, rfl⟩⟩
end Go.Proofs.YtklkngccaemjdaaGreat

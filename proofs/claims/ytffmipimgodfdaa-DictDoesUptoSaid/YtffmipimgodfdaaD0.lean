/-
  The code of functions, as terms: printed by a program, proved to be what the seat has.
-/
import Derived.Test.YtffmipimgodfdaaVP
import Derived.KernelRfl
import Derived.Test.YtffmipimgodfdaaProg
set_option linter.unusedSimpArgs false
set_option linter.unusedVariables false
namespace Go.Proofs.Ytffmipimgodfdaa
open Go Go.V
set_option maxRecDepth 100000
/- (*palaver/dict.Table).is -/
def kp25 : List (Nat × List Nat) := [(0, [0, 1, 8, 9, 10, 11, 12, 13, 14]), (1, [4])]
def od25 : List (Nat × List (List Nat)) := []
def F25 : FIR := ⟨16, [.tmp 4],
 (.seq (.reg [⟨(some 4), none, .mv (.const (Value.bool false))⟩] [0, 1, 8, 9, 10, 11, 12, 13, 14])
 (.seq (.reg [⟨(some 5), none, .mv (.tmp 1)⟩,
 ⟨(some 6), none, .bin .geq (.tmp 5) (.const (Value.int IntKind.i64 0))⟩,
 ⟨(some 7), none, .mv (.tmp 6)⟩,
 ⟨(some 8), (some (7, true)), .mv (.tmp 1)⟩,
 ⟨(some 9), (some (7, true)), .mv (.tmp 0)⟩,
 ⟨(some 10), (some (7, true)), .nilck (.tmp 9)⟩,
 ⟨(some 11), (some (7, true)), .fld 0 (.tmp 10)⟩,
 ⟨(some 12), (some (7, true)), .load1 (.tmp 11)⟩,
 ⟨(some 13), (some (7, true)), .lenL (.tmp 12)⟩,
 ⟨(some 14), (some (7, true)), .bin .lss (.tmp 8) (.tmp 13)⟩,
 ⟨(some 15), none, .pick (.tmp 7) (.tmp 14) (.const (Value.bool false))⟩,
 ⟨(some 4), none, .mv (.tmp 15)⟩] [4])
 .ret))⟩
theorem low25 : lowF Try.prog (assoc kp25) (assoc od25) 25 = some F25 := by kernel_rfl

/- (*palaver/dict.Table).Counts -/
def kp11 : List (Nat × List Nat) := [(0, [0, 2]), (1, [2])]
def od11 : List (Nat × List (List Nat)) := []
def F11 : FIR := ⟨7, [.cellN 2 5],
 (.seq (.reg [⟨(some 2), none, .alloc 36 [(Value.int IntKind.i64 0), (Value.int IntKind.i64 0), (Value.int IntKind.i64 0), (Value.int IntKind.i64 0), (Value.int IntKind.i64 0)]⟩] [0, 2])
 (.seq (.reg [⟨(some 3), none, .mv (.tmp 0)⟩,
 ⟨(some 4), none, .nilck (.tmp 3)⟩,
 ⟨(some 5), none, .fld 195 (.tmp 4)⟩,
 ⟨(some 6), none, .loadN 5 (.tmp 5)⟩,
 ⟨none, none, .store 5 (.tmp 2) (.tmp 6)⟩] [2])
 .ret))⟩
theorem low11 : lowF Try.prog (assoc kp11) (assoc od11) 11 = some F11 := by kernel_rfl

/- palaver/dict.place -/
def kp51 : List (Nat × List Nat) := [(0, [1]), (1, [1, 3]), (2, [1, 3, 14, 15]), (3, [1, 3, 14, 15, 16]), (4, [1, 3, 4, 14, 15]), (5, [1, 3, 14, 15]), (6, [1, 3, 14, 15]), (7, [2])]
def od51 : List (Nat × List (List Nat)) := []
def F51 : FIR := ⟨31, [.tmp 2],
 (.seq (.reg [⟨(some 1), none, .box 74 (.tmp 0)⟩,
 ⟨(some 2), none, .mv (.const (Value.int IntKind.i64 0))⟩] [1])
 (.seq (.reg [⟨(some 5), none, .fld 0 (.tmp 1)⟩,
 ⟨(some 6), none, .load1 (.tmp 5)⟩,
 ⟨(some 7), none, .bin .mul (.const (Value.int IntKind.i64 31)) (.tmp 6)⟩,
 ⟨(some 8), none, .fld 1 (.tmp 1)⟩,
 ⟨(some 9), none, .load1 (.tmp 8)⟩,
 ⟨(some 10), none, .lenS (.tmp 9)⟩,
 ⟨(some 11), none, .bin .add (.tmp 7) (.tmp 10)⟩,
 ⟨(some 3), none, .mv (.tmp 11)⟩] [1, 3])
 (.seq (.seq (.reg [⟨(some 12), none, .fld 1 (.tmp 1)⟩,
 ⟨(some 13), none, .load1 (.tmp 12)⟩,
 ⟨(some 14), none, .lenS (.tmp 13)⟩,
 ⟨(some 15), none, .mv (.const (Value.int IntKind.i64 0))⟩] [1, 3, 14, 15])
 (.block 0
 (.loop
 (.seq (.reg [⟨(some 16), none, .bin .lss (.tmp 15) (.tmp 14)⟩] [1, 3, 14, 15, 16])
 (.seq (.cond (.tmp 16)
 .skip
 (.exit 0))
 (.seq (.block 1
 (.seq (.reg [⟨(some 17), none, .mv (.tmp 15)⟩,
 ⟨(some 4), none, .mv (.tmp 17)⟩] [1, 3, 4, 14, 15])
 (.reg [⟨(some 18), none, .mv (.tmp 3)⟩,
 ⟨(some 19), none, .fld 1 (.tmp 1)⟩,
 ⟨(some 20), none, .load1 (.tmp 19)⟩,
 ⟨(some 21), none, .mv (.tmp 4)⟩,
 ⟨(some 22), none, .idxS (.tmp 20) (.tmp 21)⟩,
 ⟨(some 23), none, .conv .i64 (.tmp 22)⟩,
 ⟨(some 24), none, .mv (.tmp 4)⟩,
 ⟨(some 25), none, .bin .add (.tmp 24) (.const (Value.int IntKind.i64 1))⟩,
 ⟨(some 26), none, .bin .mul (.tmp 23) (.tmp 25)⟩,
 ⟨(some 27), none, .bin .add (.tmp 18) (.tmp 26)⟩,
 ⟨(some 3), none, .mv (.tmp 27)⟩] [1, 3, 14, 15])))
 (.reg [⟨(some 28), none, .bin .add (.tmp 15) (.const (Value.int IntKind.i64 1))⟩,
 ⟨(some 15), none, .mv (.tmp 28)⟩] [1, 3, 14, 15])))))))
 (.seq (.reg [⟨(some 29), none, .mv (.tmp 3)⟩,
 ⟨(some 30), none, .bin .rem (.tmp 29) (.const (Value.int IntKind.i64 64))⟩,
 ⟨(some 2), none, .mv (.tmp 30)⟩] [2])
 .ret))))⟩
theorem low51 : lowF Try.prog (assoc kp51) (assoc od51) 51 = some F51 := by kernel_rfl

/- (*palaver/dict.Table).walk -/
def kp52 : List (Nat × List Nat) := [(0, [0, 1, 2]), (1, [0, 1, 2]), (2, [0, 1, 2, 20]), (3, [0, 1, 2]), (4, [0, 1, 2]), (5, [0, 1, 2, 8, 9]), (6, [0, 1, 2, 8, 49]), (7, [6, 7]), (8, [6, 7])]
def od52 : List (Nat × List (List Nat)) := []
def F52 : FIR := ⟨51, [.tmp 6, .tmp 7],
 (.seq (.reg [⟨(some 6), none, .mv (.const (Value.int IntKind.i64 0))⟩,
 ⟨(some 7), none, .mv (.const (Value.bool false))⟩] [0, 1, 2])
 (.seq (.reg [⟨(some 10), none, .mv (.tmp 0)⟩,
 ⟨(some 11), none, .nilck (.tmp 10)⟩,
 ⟨(some 12), none, .fld 195 (.tmp 11)⟩,
 ⟨(some 13), none, .fld 3 (.tmp 12)⟩,
 ⟨(some 14), none, .load1 (.tmp 13)⟩,
 ⟨(some 15), none, .bin .add (.tmp 14) (.const (Value.int IntKind.i64 1))⟩,
 ⟨(some 16), none, .nilck (.tmp 10)⟩,
 ⟨(some 17), none, .fld 195 (.tmp 16)⟩,
 ⟨(some 18), none, .fld 3 (.tmp 17)⟩,
 ⟨none, none, .store 1 (.tmp 18) (.tmp 15)⟩] [0, 1, 2])
 (.seq (.block 0
 (.loop
 (.seq (.seq (.reg [⟨(some 19), none, .mv (.tmp 1)⟩,
 ⟨(some 20), none, .bin .geq (.tmp 19) (.const (Value.int IntKind.i64 0))⟩] [0, 1, 2, 20])
 (.cond (.tmp 20)
 .skip
 (.exit 0)))
 (.seq (.block 1
 (.seq (.reg [⟨(some 28), none, .mv (.tmp 0)⟩,
 ⟨(some 29), none, .nilck (.tmp 28)⟩,
 ⟨(some 30), none, .fld 195 (.tmp 29)⟩,
 ⟨(some 31), none, .fld 4 (.tmp 30)⟩,
 ⟨(some 32), none, .load1 (.tmp 31)⟩,
 ⟨(some 33), none, .bin .add (.tmp 32) (.const (Value.int IntKind.i64 1))⟩,
 ⟨(some 34), none, .nilck (.tmp 28)⟩,
 ⟨(some 35), none, .fld 195 (.tmp 34)⟩,
 ⟨(some 36), none, .fld 4 (.tmp 35)⟩,
 ⟨none, none, .store 1 (.tmp 36) (.tmp 33)⟩] [0, 1, 2])
 (.seq (.reg [⟨(some 38), none, .mv (.tmp 0)⟩,
 ⟨(some 39), none, .nilck (.tmp 38)⟩,
 ⟨(some 40), none, .fld 1 (.tmp 39)⟩,
 ⟨(some 41), none, .load1 (.tmp 40)⟩,
 ⟨(some 42), none, .mv (.tmp 1)⟩,
 ⟨(some 43), none, .idxL 1 (.tmp 41) (.tmp 42)⟩,
 ⟨(some 44), none, .load1 (.tmp 43)⟩,
 ⟨(some 45), none, .mv (.tmp 2)⟩,
 ⟨(some 46), none, .lookup .str (Value.int IntKind.i64 0) true (.tmp 44) (.tmp 45)⟩,
 ⟨(some 37), none, .mv (.tmp 46)⟩,
 ⟨(some 47), none, .ext (.tmp 37) 0⟩,
 ⟨(some 48), none, .ext (.tmp 37) 1⟩,
 ⟨(some 8), none, .mv (.tmp 47)⟩,
 ⟨(some 9), none, .mv (.tmp 48)⟩] [0, 1, 2, 8, 9])
 (.seq (.reg [⟨(some 49), none, .mv (.tmp 9)⟩] [0, 1, 2, 8, 49])
 (.cond (.tmp 49)
 (.seq (.reg [⟨(some 50), none, .mv (.tmp 8)⟩,
 ⟨(some 6), none, .mv (.tmp 50)⟩,
 ⟨(some 7), none, .mv (.const (Value.bool true))⟩] [6, 7])
 .ret)
 .skip)))))
 (.reg [⟨(some 21), none, .mv (.tmp 0)⟩,
 ⟨(some 22), none, .nilck (.tmp 21)⟩,
 ⟨(some 23), none, .fld 0 (.tmp 22)⟩,
 ⟨(some 24), none, .load1 (.tmp 23)⟩,
 ⟨(some 25), none, .mv (.tmp 1)⟩,
 ⟨(some 26), none, .idxL 1 (.tmp 24) (.tmp 25)⟩,
 ⟨(some 27), none, .load1 (.tmp 26)⟩,
 ⟨(some 1), none, .mv (.tmp 27)⟩] [0, 1, 2])))))
 (.seq (.reg [⟨(some 6), none, .mv (.const (Value.int IntKind.i64 0))⟩,
 ⟨(some 7), none, .mv (.const (Value.bool false))⟩] [6, 7])
 .ret))))⟩
theorem low52 : lowF Try.prog (assoc kp52) (assoc od52) 52 = some F52 := by kernel_rfl

/- (*palaver/dict.Table).Own -/
def kp14 : List (Nat × List Nat) := [(0, [0, 1, 2]), (1, [0, 1, 2, 13]), (2, [6, 7]), (3, [8, 9]), (4, [6, 7])]
def od14 : List (Nat × List (List Nat)) := []
def F14 : FIR := ⟨28, [.tmp 6, .tmp 7],
 (.seq (.reg [⟨(some 6), none, .mv (.const (Value.int IntKind.i64 0))⟩,
 ⟨(some 7), none, .mv (.const (Value.bool false))⟩] [0, 1, 2])
 (.seq (.seq (.reg [⟨(some 10), none, .mv (.tmp 0)⟩,
 ⟨(some 11), none, .mv (.tmp 1)⟩,
 ⟨(some 12), none, .call 25 [(.tmp 10), (.tmp 11)]⟩,
 ⟨(some 13), none, .un .not (.tmp 12)⟩] [0, 1, 2, 13])
 (.cond (.tmp 13)
 (.seq (.reg [⟨(some 6), none, .mv (.const (Value.int IntKind.i64 0))⟩,
 ⟨(some 7), none, .mv (.const (Value.bool false))⟩] [6, 7])
 .ret)
 .skip))
 (.seq (.reg [⟨(some 15), none, .mv (.tmp 0)⟩,
 ⟨(some 16), none, .nilck (.tmp 15)⟩,
 ⟨(some 17), none, .fld 1 (.tmp 16)⟩,
 ⟨(some 18), none, .load1 (.tmp 17)⟩,
 ⟨(some 19), none, .mv (.tmp 1)⟩,
 ⟨(some 20), none, .idxL 1 (.tmp 18) (.tmp 19)⟩,
 ⟨(some 21), none, .load1 (.tmp 20)⟩,
 ⟨(some 22), none, .mv (.tmp 2)⟩,
 ⟨(some 23), none, .lookup .str (Value.int IntKind.i64 0) true (.tmp 21) (.tmp 22)⟩,
 ⟨(some 14), none, .mv (.tmp 23)⟩,
 ⟨(some 24), none, .ext (.tmp 14) 0⟩,
 ⟨(some 25), none, .ext (.tmp 14) 1⟩,
 ⟨(some 8), none, .mv (.tmp 24)⟩,
 ⟨(some 9), none, .mv (.tmp 25)⟩] [8, 9])
 (.seq (.reg [⟨(some 26), none, .mv (.tmp 8)⟩,
 ⟨(some 27), none, .mv (.tmp 9)⟩,
 ⟨(some 6), none, .mv (.tmp 26)⟩,
 ⟨(some 7), none, .mv (.tmp 27)⟩] [6, 7])
 .ret))))⟩
theorem low14 : lowF Try.prog (assoc kp14) (assoc od14) 14 = some F14 := by kernel_rfl

/- (*palaver/dict.site).find -/
def kp26 : List (Nat × List Nat) := [(0, [0, 1]), (1, [4])]
def od26 : List (Nat × List (List Nat)) := [(1, [[0, 1, 2, 3, 4, 5, 6, 7, 8, 9, 10]])]
def F26 : FIR := ⟨15, [.tmp 4],
 (.seq (.reg [⟨(some 4), none, .mv (.const (Value.int IntKind.i64 0))⟩] [0, 1])
 (.seq (.draw [[⟨(some 5), none, .mv (.tmp 0)⟩,
 ⟨(some 6), none, .nilck (.tmp 5)⟩,
 ⟨(some 7), none, .fld 2 (.tmp 6)⟩,
 ⟨(some 8), none, .mv (.tmp 0)⟩,
 ⟨(some 9), none, .nilck (.tmp 8)⟩,
 ⟨(some 10), none, .fld 1 (.tmp 9)⟩,
 ⟨(some 11), none, .load1 (.tmp 10)⟩,
 ⟨(some 12), none, .slcA 4 1 (.tmp 7) none (some (.tmp 11))⟩,
 ⟨(some 13), none, .mv (.tmp 1)⟩,
 ⟨(some 14), none, .call 50 [(.tmp 12), (.tmp 13)]⟩,
 ⟨(some 4), none, .mv (.tmp 14)⟩]] [4])
 .ret))⟩
theorem low26 : lowF Try.prog (assoc kp26) (assoc od26) 26 = some F26 := by kernel_rfl

/- slices.Index[[]int,int] -/
def kp50 : List (Nat × List Nat) := [(0, [0, 1]), (1, [0, 1, 7, 8]), (2, [0, 1, 7, 8, 9]), (3, [0, 1, 5, 7, 8]), (4, [0, 1, 5, 7, 8, 16]), (5, [4]), (6, [0, 1, 7, 8]), (7, [4])]
def od50 : List (Nat × List (List Nat)) := []
def F50 : FIR := ⟨19, [.tmp 4],
 (.seq (.reg [⟨(some 4), none, .mv (.const (Value.int IntKind.i64 0))⟩] [0, 1])
 (.seq (.seq (.reg [⟨(some 6), none, .mv (.tmp 0)⟩,
 ⟨(some 7), none, .lenL (.tmp 6)⟩,
 ⟨(some 8), none, .mv (.const (Value.int IntKind.i64 0))⟩] [0, 1, 7, 8])
 (.block 0
 (.loop
 (.seq (.reg [⟨(some 9), none, .bin .lss (.tmp 8) (.tmp 7)⟩] [0, 1, 7, 8, 9])
 (.seq (.cond (.tmp 9)
 .skip
 (.exit 0))
 (.seq (.block 1
 (.seq (.reg [⟨(some 10), none, .mv (.tmp 8)⟩,
 ⟨(some 5), none, .mv (.tmp 10)⟩] [0, 1, 5, 7, 8])
 (.seq (.reg [⟨(some 11), none, .mv (.tmp 1)⟩,
 ⟨(some 12), none, .mv (.tmp 0)⟩,
 ⟨(some 13), none, .mv (.tmp 5)⟩,
 ⟨(some 14), none, .idxL 1 (.tmp 12) (.tmp 13)⟩,
 ⟨(some 15), none, .load1 (.tmp 14)⟩,
 ⟨(some 16), none, .bin .eql (.tmp 11) (.tmp 15)⟩] [0, 1, 5, 7, 8, 16])
 (.cond (.tmp 16)
 (.seq (.reg [⟨(some 17), none, .mv (.tmp 5)⟩,
 ⟨(some 4), none, .mv (.tmp 17)⟩] [4])
 .ret)
 .skip))))
 (.reg [⟨(some 18), none, .bin .add (.tmp 8) (.const (Value.int IntKind.i64 1))⟩,
 ⟨(some 8), none, .mv (.tmp 18)⟩] [0, 1, 7, 8])))))))
 (.seq (.reg [⟨(some 4), none, .mv (.const (Value.int IntKind.i64 (-1)))⟩] [4])
 .ret)))⟩
theorem low50 : lowF Try.prog (assoc kp50) (assoc od50) 50 = some F50 := by kernel_rfl

/- slices.Clone[[]int,int] -/
def kp23 : List (Nat × List Nat) := [(0, [0]), (1, [0, 4]), (2, [2]), (3, [2])]
def od23 : List (Nat × List (List Nat)) := []
def F23 : FIR := ⟨8, [.tmp 2],
 (.seq (.reg [⟨(some 2), none, .mv (.const (Value.slice none 0 0))⟩] [0])
 (.seq (.seq (.reg [⟨(some 3), none, .mv (.tmp 0)⟩,
 ⟨(some 4), none, .eqnil false .slice (.tmp 3)⟩] [0, 4])
 (.cond (.tmp 4)
 (.seq (.reg [⟨(some 2), none, .mv (.const (Value.slice none 0 0))⟩] [2])
 .ret)
 .skip))
 (.seq (.reg [⟨(some 5), none, .bslice 3 0 [(Value.int IntKind.i64 0)] []⟩,
 ⟨(some 6), none, .mv (.tmp 0)⟩,
 ⟨(some 7), none, .append 3 1 8 [(Value.int IntKind.i64 0)] (.tmp 5) (.tmp 6)⟩,
 ⟨(some 2), none, .mv (.tmp 7)⟩] [2])
 .ret)))⟩
theorem low23 : lowF Try.prog (assoc kp23) (assoc od23) 23 = some F23 := by kernel_rfl

/- (*palaver/dict.Table).ask -/
def kp27 : List (Nat × List Nat) := [(0, [0, 3, 22, 23, 24]), (1, [0, 3, 6, 22, 23, 24]), (2, [0, 3, 6, 25]), (3, [6]), (4, [4, 5]), (5, [3, 6, 7, 8]), (6, [3, 6, 7, 8, 48]), (7, [7, 8]), (8, [4, 5])]
def od27 : List (Nat × List (List Nat)) := [(1, [[0, 1, 2, 3, 4, 5, 6]]), (2, [[0, 1, 2, 3, 4, 5, 6, 7, 8, 9, 10]])]
def F27 : FIR := ⟨56, [.tmp 4, .tmp 5],
 (.seq (.reg [⟨(some 3), none, .box 74 (.tmp 1)⟩,
 ⟨(some 4), none, .mv (.const (Value.int IntKind.i64 0))⟩,
 ⟨(some 5), none, .mv (.const (Value.bool false))⟩] [0, 3, 22, 23, 24])
 (.seq (.draw [[⟨(some 9), none, .mv (.tmp 0)⟩,
 ⟨(some 10), none, .loadN 2 (.tmp 3)⟩,
 ⟨(some 11), none, .call 51 [(.tmp 10)]⟩,
 ⟨(some 12), none, .nilck (.tmp 9)⟩,
 ⟨(some 13), none, .fld 2 (.tmp 12)⟩,
 ⟨(some 14), none, .idxA 64 3 (.tmp 13) (.tmp 11)⟩,
 ⟨(some 6), none, .mv (.tmp 14)⟩]] [0, 3, 6, 22, 23, 24])
 (.seq (.seq (.draw [[⟨(some 15), none, .mv (.tmp 6)⟩,
 ⟨(some 16), none, .nilck (.tmp 15)⟩,
 ⟨(some 17), none, .fld 0 (.tmp 16)⟩,
 ⟨(some 18), none, .loadN 2 (.tmp 17)⟩,
 ⟨(some 19), none, .loadN 2 (.tmp 3)⟩,
 ⟨(some 20), none, .eqagg false [.int, .str] (.tmp 18) (.tmp 19)⟩,
 ⟨(some 21), none, .mv (.tmp 20)⟩,
 ⟨(some 22), (some (21, true)), .fld 1 (.tmp 3)⟩,
 ⟨(some 23), (some (21, true)), .load1 (.tmp 22)⟩,
 ⟨(some 24), (some (21, true)), .bin .neq (.tmp 23) (.const (Value.string ⟨#[]⟩))⟩,
 ⟨(some 25), none, .pick (.tmp 21) (.tmp 24) (.const (Value.bool false))⟩]] [0, 3, 6, 25])
 (.cond (.tmp 25)
 (.seq (.reg [⟨(some 26), none, .mv (.tmp 0)⟩,
 ⟨(some 27), none, .nilck (.tmp 26)⟩,
 ⟨(some 28), none, .fld 195 (.tmp 27)⟩,
 ⟨(some 29), none, .fld 2 (.tmp 28)⟩,
 ⟨(some 30), none, .load1 (.tmp 29)⟩,
 ⟨(some 31), none, .bin .add (.tmp 30) (.const (Value.int IntKind.i64 1))⟩,
 ⟨(some 32), none, .nilck (.tmp 26)⟩,
 ⟨(some 33), none, .fld 195 (.tmp 32)⟩,
 ⟨(some 34), none, .fld 2 (.tmp 33)⟩,
 ⟨none, none, .store 1 (.tmp 34) (.tmp 31)⟩] [6])
 (.seq (.reg [⟨(some 35), none, .mv (.tmp 6)⟩,
 ⟨(some 36), none, .nilck (.tmp 35)⟩,
 ⟨(some 37), none, .fld 2 (.tmp 36)⟩,
 ⟨(some 38), none, .load1 (.tmp 37)⟩,
 ⟨(some 4), none, .mv (.tmp 38)⟩,
 ⟨(some 5), none, .mv (.const (Value.bool true))⟩] [4, 5])
 .ret))
 .skip))
 (.seq (.reg [⟨(some 40), none, .mv (.tmp 0)⟩,
 ⟨(some 41), none, .fld 0 (.tmp 3)⟩,
 ⟨(some 42), none, .load1 (.tmp 41)⟩,
 ⟨(some 43), none, .fld 1 (.tmp 3)⟩,
 ⟨(some 44), none, .load1 (.tmp 43)⟩,
 ⟨(some 45), none, .call 52 [(.tmp 40), (.tmp 42), (.tmp 44)]⟩,
 ⟨(some 39), none, .mv (.tmp 45)⟩,
 ⟨(some 46), none, .ext (.tmp 39) 0⟩,
 ⟨(some 47), none, .ext (.tmp 39) 1⟩,
 ⟨(some 7), none, .mv (.tmp 46)⟩,
 ⟨(some 8), none, .mv (.tmp 47)⟩] [3, 6, 7, 8])
 (.seq (.seq (.reg [⟨(some 48), none, .mv (.tmp 8)⟩] [3, 6, 7, 8, 48])
 (.cond (.tmp 48)
 (.reg [⟨(some 49), none, .mv (.tmp 6)⟩,
 ⟨(some 50), none, .loadN 2 (.tmp 3)⟩,
 ⟨(some 51), none, .mv (.tmp 7)⟩,
 ⟨(some 52), none, .build [(Value.int IntKind.i64 0), (Value.string ⟨#[]⟩), (Value.int IntKind.i64 0)] [(0, 2, (.tmp 50)), (2, 1, (.tmp 51))]⟩,
 ⟨(some 53), none, .nilck (.tmp 49)⟩,
 ⟨none, none, .store 3 (.tmp 53) (.tmp 52)⟩] [7, 8])
 .skip))
 (.seq (.reg [⟨(some 54), none, .mv (.tmp 7)⟩,
 ⟨(some 55), none, .mv (.tmp 8)⟩,
 ⟨(some 4), none, .mv (.tmp 54)⟩,
 ⟨(some 5), none, .mv (.tmp 55)⟩] [4, 5])
 .ret))))))⟩
theorem low27 : lowF Try.prog (assoc kp27) (assoc od27) 27 = some F27 := by kernel_rfl

/- (*palaver/dict.Table).Lookup -/
def kp13 : List (Nat × List Nat) := [(0, [0, 1, 2]), (1, [0, 1, 2, 11]), (2, [6, 7]), (3, [0, 1, 2]), (4, [6, 7])]
def od13 : List (Nat × List (List Nat)) := []
def F13 : FIR := ⟨28, [.tmp 6, .tmp 7],
 (.seq (.reg [⟨(some 6), none, .mv (.const (Value.int IntKind.i64 0))⟩,
 ⟨(some 7), none, .mv (.const (Value.bool false))⟩] [0, 1, 2])
 (.seq (.seq (.reg [⟨(some 8), none, .mv (.tmp 0)⟩,
 ⟨(some 9), none, .mv (.tmp 1)⟩,
 ⟨(some 10), none, .call 25 [(.tmp 8), (.tmp 9)]⟩,
 ⟨(some 11), none, .un .not (.tmp 10)⟩] [0, 1, 2, 11])
 (.cond (.tmp 11)
 (.seq (.reg [⟨(some 6), none, .mv (.const (Value.int IntKind.i64 0))⟩,
 ⟨(some 7), none, .mv (.const (Value.bool false))⟩] [6, 7])
 .ret)
 .skip))
 (.seq (.reg [⟨(some 12), none, .mv (.tmp 0)⟩,
 ⟨(some 13), none, .nilck (.tmp 12)⟩,
 ⟨(some 14), none, .fld 195 (.tmp 13)⟩,
 ⟨(some 15), none, .fld 0 (.tmp 14)⟩,
 ⟨(some 16), none, .load1 (.tmp 15)⟩,
 ⟨(some 17), none, .bin .add (.tmp 16) (.const (Value.int IntKind.i64 1))⟩,
 ⟨(some 18), none, .nilck (.tmp 12)⟩,
 ⟨(some 19), none, .fld 195 (.tmp 18)⟩,
 ⟨(some 20), none, .fld 0 (.tmp 19)⟩,
 ⟨none, none, .store 1 (.tmp 20) (.tmp 17)⟩] [0, 1, 2])
 (.seq (.reg [⟨(some 21), none, .mv (.tmp 0)⟩,
 ⟨(some 22), none, .mv (.tmp 1)⟩,
 ⟨(some 23), none, .mv (.tmp 2)⟩,
 ⟨(some 24), none, .build [(Value.int IntKind.i64 0), (Value.string ⟨#[]⟩)] [(0, 1, (.tmp 22)), (1, 1, (.tmp 23))]⟩,
 ⟨(some 25), none, .call 27 [(.tmp 21), (.tmp 24)]⟩,
 ⟨(some 26), none, .ext (.tmp 25) 0⟩,
 ⟨(some 27), none, .ext (.tmp 25) 1⟩,
 ⟨(some 6), none, .mv (.tmp 26)⟩,
 ⟨(some 7), none, .mv (.tmp 27)⟩] [6, 7])
 .ret))))⟩
theorem low13 : lowF Try.prog (assoc kp13) (assoc od13) 13 = some F13 := by kernel_rfl

/- (*palaver/dict.Table).Send -/
def kp10 : List (Nat × List Nat) := [(0, [0, 1, 2, 3, 19, 20, 45, 46, 47, 48, 49, 50, 91, 92, 93, 94, 95]), (1, [0, 1, 2, 3, 15, 45, 46, 47, 48, 49, 50, 91, 92, 93, 94, 95]), (2, [8, 9, 10]), (3, [0, 1, 2, 3, 22, 45, 46, 47, 48, 49, 50, 91, 92, 93, 94, 95]), (4, [8, 9, 10]), (5, [0, 1, 2, 3, 45, 46, 47, 48, 49, 50, 91, 92, 93, 94, 95]), (6, [0, 1, 2, 3, 11, 45, 46, 47, 48, 49, 50, 91, 92, 93, 94, 95]), (7, [0, 1, 2, 3, 11, 51, 91, 92, 93, 94, 95]), (8, [0, 1, 2, 3, 11, 91, 92, 93, 94, 95]), (9, [0, 2, 3, 11, 91, 92, 93, 94, 95]), (10, [0, 2, 3, 11, 12, 91, 92, 93, 94, 95]), (11, [0, 2, 3, 11, 12, 65, 91, 92, 93, 94, 95]), (12, [11, 12]), (13, [8, 9, 10]), (14, [2, 11, 13, 14, 91, 92, 93, 94, 95]), (15, [2, 11, 13, 14, 96]), (16, [11, 13, 14]), (17, [13, 14]), (18, [8, 9, 10])]
def od10 : List (Nat × List (List Nat)) := [(16, [[0, 1, 2, 3, 4, 5, 6, 7, 8, 9, 10, 11, 12, 13, 14, 15, 16, 17, 18, 19]])]
def F10 : FIR := ⟨124, [.tmp 8, .tmp 9, .tmp 10],
 (.seq (.reg [⟨(some 8), none, .mv (.const (Value.int IntKind.i64 0))⟩,
 ⟨(some 9), none, .mv (.const (Value.bool false))⟩,
 ⟨(some 10), none, .mv (.const (Value.int IntKind.i64 0))⟩] [0, 1, 2, 3, 19, 20, 45, 46, 47, 48, 49, 50, 91, 92, 93, 94, 95])
 (.seq (.block 0
 (.seq (.reg [⟨(some 16), none, .mv (.tmp 1)⟩,
 ⟨(some 17), none, .bin .lss (.tmp 16) (.const (Value.int IntKind.i64 0))⟩,
 ⟨(some 18), none, .mv (.tmp 17)⟩,
 ⟨(some 19), (some (18, false)), .mv (.tmp 1)⟩,
 ⟨(some 20), (some (18, false)), .bin .geq (.tmp 19) (.const (Value.int IntKind.i64 65536))⟩,
 ⟨(some 21), none, .pick (.tmp 18) (.const (Value.bool true)) (.tmp 20)⟩,
 ⟨(some 15), none, .mv (.tmp 21)⟩] [0, 1, 2, 3, 15, 45, 46, 47, 48, 49, 50, 91, 92, 93, 94, 95])
 (.cond (.tmp 15)
 (.seq (.reg [⟨(some 8), none, .mv (.const (Value.int IntKind.i64 0))⟩,
 ⟨(some 9), none, .mv (.const (Value.bool false))⟩,
 ⟨(some 10), none, .mv (.const (Value.int IntKind.i64 224))⟩] [8, 9, 10])
 .ret)
 (.seq (.reg [⟨(some 23), none, .mv (.tmp 0)⟩,
 ⟨(some 24), none, .mv (.tmp 2)⟩,
 ⟨(some 25), none, .call 25 [(.tmp 23), (.tmp 24)]⟩,
 ⟨(some 26), none, .un .not (.tmp 25)⟩,
 ⟨(some 22), none, .mv (.tmp 26)⟩] [0, 1, 2, 3, 22, 45, 46, 47, 48, 49, 50, 91, 92, 93, 94, 95])
 (.cond (.tmp 22)
 (.seq (.reg [⟨(some 8), none, .mv (.const (Value.int IntKind.i64 0))⟩,
 ⟨(some 9), none, .mv (.const (Value.bool false))⟩,
 ⟨(some 10), none, .mv (.const (Value.int IntKind.i64 220))⟩] [8, 9, 10])
 .ret)
 .skip)))))
 (.seq (.reg [⟨(some 27), none, .mv (.tmp 0)⟩,
 ⟨(some 28), none, .nilck (.tmp 27)⟩,
 ⟨(some 29), none, .fld 195 (.tmp 28)⟩,
 ⟨(some 30), none, .fld 0 (.tmp 29)⟩,
 ⟨(some 31), none, .load1 (.tmp 30)⟩,
 ⟨(some 32), none, .bin .add (.tmp 31) (.const (Value.int IntKind.i64 1))⟩,
 ⟨(some 33), none, .nilck (.tmp 27)⟩,
 ⟨(some 34), none, .fld 195 (.tmp 33)⟩,
 ⟨(some 35), none, .fld 0 (.tmp 34)⟩,
 ⟨none, none, .store 1 (.tmp 35) (.tmp 32)⟩] [0, 1, 2, 3, 45, 46, 47, 48, 49, 50, 91, 92, 93, 94, 95])
 (.seq (.reg [⟨(some 36), none, .mv (.tmp 0)⟩,
 ⟨(some 37), none, .nilck (.tmp 36)⟩,
 ⟨(some 38), none, .fld 194 (.tmp 37)⟩,
 ⟨(some 39), none, .load1 (.tmp 38)⟩,
 ⟨(some 40), none, .mv (.tmp 1)⟩,
 ⟨(some 41), none, .lookup .int (Value.pointer none) false (.tmp 39) (.tmp 40)⟩,
 ⟨(some 11), none, .mv (.tmp 41)⟩] [0, 1, 2, 3, 11, 45, 46, 47, 48, 49, 50, 91, 92, 93, 94, 95])
 (.seq (.seq (.reg [⟨(some 42), none, .mv (.tmp 11)⟩,
 ⟨(some 43), none, .eqnil false .ptr (.tmp 42)⟩,
 ⟨(some 44), none, .mv (.tmp 43)⟩,
 ⟨(some 45), (some (44, false)), .mv (.tmp 11)⟩,
 ⟨(some 46), (some (44, false)), .nilck (.tmp 45)⟩,
 ⟨(some 47), (some (44, false)), .fld 0 (.tmp 46)⟩,
 ⟨(some 48), (some (44, false)), .load1 (.tmp 47)⟩,
 ⟨(some 49), (some (44, false)), .mv (.tmp 3)⟩,
 ⟨(some 50), (some (44, false)), .bin .neq (.tmp 48) (.tmp 49)⟩,
 ⟨(some 51), none, .pick (.tmp 44) (.const (Value.bool true)) (.tmp 50)⟩] [0, 1, 2, 3, 11, 51, 91, 92, 93, 94, 95])
 (.cond (.tmp 51)
 (.seq (.reg [⟨(some 52), none, .mv (.tmp 3)⟩,
 ⟨(some 53), none, .build [(Value.string ⟨#[]⟩), (Value.int IntKind.i64 0), (Value.int IntKind.i64 0), (Value.int IntKind.i64 0), (Value.int IntKind.i64 0), (Value.int IntKind.i64 0), (Value.int IntKind.i64 0), (Value.int IntKind.i64 0), (Value.int IntKind.i64 0), (Value.int IntKind.i64 0)] [(0, 1, (.tmp 52))]⟩,
 ⟨(some 54), none, .box 85 (.tmp 53)⟩,
 ⟨(some 11), none, .mv (.tmp 54)⟩] [0, 1, 2, 3, 11, 91, 92, 93, 94, 95])
 (.reg [⟨(some 55), none, .mv (.tmp 0)⟩,
 ⟨(some 56), none, .nilck (.tmp 55)⟩,
 ⟨(some 57), none, .fld 194 (.tmp 56)⟩,
 ⟨(some 58), none, .load1 (.tmp 57)⟩,
 ⟨(some 59), none, .mv (.tmp 1)⟩,
 ⟨(some 60), none, .mv (.tmp 11)⟩,
 ⟨none, none, .mapupd .int (.tmp 58) (.tmp 59) (.tmp 60)⟩] [0, 2, 3, 11, 91, 92, 93, 94, 95]))
 .skip))
 (.seq (.seq (.reg [⟨(some 61), none, .mv (.tmp 11)⟩,
 ⟨(some 62), none, .mv (.tmp 2)⟩,
 ⟨(some 63), none, .call 26 [(.tmp 61), (.tmp 62)]⟩,
 ⟨(some 12), none, .mv (.tmp 63)⟩] [0, 2, 3, 11, 12, 91, 92, 93, 94, 95])
 (.seq (.reg [⟨(some 64), none, .mv (.tmp 12)⟩,
 ⟨(some 65), none, .bin .geq (.tmp 64) (.const (Value.int IntKind.i64 0))⟩] [0, 2, 3, 11, 12, 65, 91, 92, 93, 94, 95])
 (.cond (.tmp 65)
 (.seq (.reg [⟨(some 66), none, .mv (.tmp 0)⟩,
 ⟨(some 67), none, .nilck (.tmp 66)⟩,
 ⟨(some 68), none, .fld 195 (.tmp 67)⟩,
 ⟨(some 69), none, .fld 1 (.tmp 68)⟩,
 ⟨(some 70), none, .load1 (.tmp 69)⟩,
 ⟨(some 71), none, .bin .add (.tmp 70) (.const (Value.int IntKind.i64 1))⟩,
 ⟨(some 72), none, .nilck (.tmp 66)⟩,
 ⟨(some 73), none, .fld 195 (.tmp 72)⟩,
 ⟨(some 74), none, .fld 1 (.tmp 73)⟩,
 ⟨none, none, .store 1 (.tmp 74) (.tmp 71)⟩] [11, 12])
 (.seq (.reg [⟨(some 75), none, .mv (.tmp 11)⟩,
 ⟨(some 76), none, .mv (.tmp 12)⟩,
 ⟨(some 77), none, .nilck (.tmp 75)⟩,
 ⟨(some 78), none, .fld 6 (.tmp 77)⟩,
 ⟨(some 79), none, .idxA 4 1 (.tmp 78) (.tmp 76)⟩,
 ⟨(some 80), none, .load1 (.tmp 79)⟩,
 ⟨(some 8), none, .mv (.tmp 80)⟩,
 ⟨(some 9), none, .mv (.const (Value.bool true))⟩,
 ⟨(some 10), none, .mv (.const (Value.int IntKind.i64 0))⟩] [8, 9, 10])
 .ret))
 .skip)))
 (.seq (.reg [⟨(some 82), none, .mv (.tmp 0)⟩,
 ⟨(some 83), none, .mv (.tmp 2)⟩,
 ⟨(some 84), none, .mv (.tmp 3)⟩,
 ⟨(some 85), none, .build [(Value.int IntKind.i64 0), (Value.string ⟨#[]⟩)] [(0, 1, (.tmp 83)), (1, 1, (.tmp 84))]⟩,
 ⟨(some 86), none, .call 27 [(.tmp 82), (.tmp 85)]⟩,
 ⟨(some 81), none, .mv (.tmp 86)⟩,
 ⟨(some 87), none, .ext (.tmp 81) 0⟩,
 ⟨(some 88), none, .ext (.tmp 81) 1⟩,
 ⟨(some 13), none, .mv (.tmp 87)⟩,
 ⟨(some 14), none, .mv (.tmp 88)⟩] [2, 11, 13, 14, 91, 92, 93, 94, 95])
 (.seq (.seq (.reg [⟨(some 89), none, .mv (.tmp 14)⟩,
 ⟨(some 90), none, .mv (.tmp 89)⟩,
 ⟨(some 91), (some (90, true)), .mv (.tmp 11)⟩,
 ⟨(some 92), (some (90, true)), .nilck (.tmp 91)⟩,
 ⟨(some 93), (some (90, true)), .fld 1 (.tmp 92)⟩,
 ⟨(some 94), (some (90, true)), .load1 (.tmp 93)⟩,
 ⟨(some 95), (some (90, true)), .bin .lss (.tmp 94) (.const (Value.int IntKind.i64 4))⟩,
 ⟨(some 96), none, .pick (.tmp 90) (.tmp 95) (.const (Value.bool false))⟩] [2, 11, 13, 14, 96])
 (.cond (.tmp 96)
 (.seq (.draw [[⟨(some 97), none, .mv (.tmp 11)⟩,
 ⟨(some 98), none, .mv (.tmp 11)⟩,
 ⟨(some 99), none, .nilck (.tmp 98)⟩,
 ⟨(some 100), none, .fld 1 (.tmp 99)⟩,
 ⟨(some 101), none, .load1 (.tmp 100)⟩,
 ⟨(some 102), none, .mv (.tmp 11)⟩,
 ⟨(some 103), none, .mv (.tmp 11)⟩,
 ⟨(some 104), none, .nilck (.tmp 103)⟩,
 ⟨(some 105), none, .fld 1 (.tmp 104)⟩,
 ⟨(some 106), none, .load1 (.tmp 105)⟩,
 ⟨(some 107), none, .mv (.tmp 2)⟩,
 ⟨(some 108), none, .mv (.tmp 13)⟩,
 ⟨(some 109), none, .nilck (.tmp 97)⟩,
 ⟨(some 110), none, .fld 2 (.tmp 109)⟩,
 ⟨(some 111), none, .idxA 4 1 (.tmp 110) (.tmp 101)⟩,
 ⟨none, none, .store 1 (.tmp 111) (.tmp 107)⟩,
 ⟨(some 112), none, .nilck (.tmp 102)⟩,
 ⟨(some 113), none, .fld 6 (.tmp 112)⟩,
 ⟨(some 114), none, .idxA 4 1 (.tmp 113) (.tmp 106)⟩,
 ⟨none, none, .store 1 (.tmp 114) (.tmp 108)⟩]] [11, 13, 14])
 (.reg [⟨(some 115), none, .mv (.tmp 11)⟩,
 ⟨(some 116), none, .nilck (.tmp 115)⟩,
 ⟨(some 117), none, .fld 1 (.tmp 116)⟩,
 ⟨(some 118), none, .load1 (.tmp 117)⟩,
 ⟨(some 119), none, .bin .add (.tmp 118) (.const (Value.int IntKind.i64 1))⟩,
 ⟨(some 120), none, .nilck (.tmp 115)⟩,
 ⟨(some 121), none, .fld 1 (.tmp 120)⟩,
 ⟨none, none, .store 1 (.tmp 121) (.tmp 119)⟩] [13, 14]))
 .skip))
 (.seq (.reg [⟨(some 122), none, .mv (.tmp 13)⟩,
 ⟨(some 123), none, .mv (.tmp 14)⟩,
 ⟨(some 8), none, .mv (.tmp 122)⟩,
 ⟨(some 9), none, .mv (.tmp 123)⟩,
 ⟨(some 10), none, .mv (.const (Value.int IntKind.i64 0))⟩] [8, 9, 10])
 .ret)))))))))⟩
theorem low10 : lowF Try.prog (assoc kp10) (assoc od10) 10 = some F10 := by kernel_rfl

/- (*palaver/dict.Table).forget -/
def kp48 : List (Nat × List Nat) := [(0, [0, 3]), (1, [0, 3, 5]), (2, [0, 3, 5, 6]), (3, [0, 3, 4, 5]), (4, [0, 3, 4, 5, 17]), (5, [0, 3, 5]), (6, [0, 3, 5]), (7, [])]
def od48 : List (Nat × List (List Nat)) := [(4, [[0, 1, 2, 3, 4, 5, 6, 7, 8, 9]])]
def F48 : FIR := ⟨31, [],
 (.seq (.reg [⟨(some 3), none, .box 103 (.tmp 1)⟩] [0, 3])
 (.seq (.seq (.reg [⟨(some 5), none, .mv (.const (Value.int IntKind.i64 0))⟩] [0, 3, 5])
 (.block 0
 (.loop
 (.seq (.reg [⟨(some 6), none, .bin .lss (.tmp 5) (.const (Value.int IntKind.i64 64))⟩] [0, 3, 5, 6])
 (.seq (.cond (.tmp 6)
 .skip
 (.exit 0))
 (.seq (.block 1
 (.seq (.reg [⟨(some 7), none, .mv (.tmp 5)⟩,
 ⟨(some 4), none, .mv (.tmp 7)⟩] [0, 3, 4, 5])
 (.seq (.draw [[⟨(some 8), none, .load1 (.tmp 3)⟩,
 ⟨(some 9), none, .mv (.tmp 0)⟩,
 ⟨(some 10), none, .mv (.tmp 4)⟩,
 ⟨(some 11), none, .nilck (.tmp 9)⟩,
 ⟨(some 12), none, .fld 2 (.tmp 11)⟩,
 ⟨(some 13), none, .idxA 64 3 (.tmp 12) (.tmp 10)⟩,
 ⟨(some 14), none, .fld 0 (.tmp 13)⟩,
 ⟨(some 15), none, .fld 1 (.tmp 14)⟩,
 ⟨(some 16), none, .load1 (.tmp 15)⟩,
 ⟨(some 17), none, .callv (.tmp 8) [(.tmp 16)]⟩]] [0, 3, 4, 5, 17])
 (.cond (.tmp 17)
 (.reg [⟨(some 18), none, .mv (.tmp 0)⟩,
 ⟨(some 19), none, .mv (.tmp 4)⟩,
 ⟨(some 20), none, .build [(Value.int IntKind.i64 0), (Value.string ⟨#[]⟩), (Value.int IntKind.i64 0)] []⟩,
 ⟨(some 21), none, .nilck (.tmp 18)⟩,
 ⟨(some 22), none, .fld 2 (.tmp 21)⟩,
 ⟨(some 23), none, .idxA 64 3 (.tmp 22) (.tmp 19)⟩,
 ⟨none, none, .store 3 (.tmp 23) (.tmp 20)⟩] [0, 3, 5])
 .skip))))
 (.reg [⟨(some 24), none, .bin .add (.tmp 5) (.const (Value.int IntKind.i64 1))⟩,
 ⟨(some 5), none, .mv (.tmp 24)⟩] [0, 3, 5])))))))
 (.reg [⟨(some 25), none, .mv (.tmp 0)⟩,
 ⟨(some 26), none, .nilck (.tmp 25)⟩,
 ⟨(some 27), none, .fld 194 (.tmp 26)⟩,
 ⟨(some 28), none, .load1 (.tmp 27)⟩,
 ⟨(some 29), none, .clos (.func 62) [] [(.tmp 3)]⟩,
 ⟨(some 30), none, .call 61 [(.tmp 28), (.tmp 29)]⟩] [])))⟩
theorem low48 : lowF Try.prog (assoc kp48) (assoc od48) 48 = some F48 := by kernel_rfl

/- (*palaver/dict.Table).forget$1 -/
def kp62 : List (Nat × List Nat) := [(0, [1, 2]), (1, [5])]
def od62 : List (Nat × List (List Nat)) := [(1, [[0, 1, 2, 3, 4, 5, 6]])]
def F62 : FIR := ⟨12, [.tmp 5],
 (.seq (.reg [⟨(some 5), none, .mv (.const (Value.bool false))⟩] [1, 2])
 (.seq (.draw [[⟨(some 6), none, .load1 (.tmp 2)⟩,
 ⟨(some 7), none, .mv (.tmp 1)⟩,
 ⟨(some 8), none, .nilck (.tmp 7)⟩,
 ⟨(some 9), none, .fld 0 (.tmp 8)⟩,
 ⟨(some 10), none, .load1 (.tmp 9)⟩,
 ⟨(some 11), none, .callv (.tmp 6) [(.tmp 10)]⟩,
 ⟨(some 5), none, .mv (.tmp 11)⟩]] [5])
 .ret))⟩
theorem low62 : lowF Try.prog (assoc kp62) (assoc od62) 62 = some F62 := by kernel_rfl

/- maps.DeleteFunc[map[int]*palaver/dict.site,int,*palaver/dict.site] -/
def kp61 : List (Nat × List Nat) := [(0, [0, 1, 7]), (1, [0, 1, 7, 9]), (2, [0, 1, 4, 5, 7]), (3, [0, 1, 4, 7, 16]), (4, [0, 1, 7])]
def od61 : List (Nat × List (List Nat)) := []
def F61 : FIR := ⟨19, [],
 (.seq (.reg [⟨(some 6), none, .mv (.tmp 0)⟩,
 ⟨(some 7), none, .rangeM (.tmp 6)⟩] [0, 1, 7])
 (.block 0
 (.loop
 (.seq (.reg [⟨(some 8), none, .next (.tmp 7) false⟩,
 ⟨(some 9), none, .ext (.tmp 8) 0⟩] [0, 1, 7, 9])
 (.seq (.cond (.tmp 9)
 .skip
 (.exit 0))
 (.block 1
 (.seq (.reg [⟨(some 10), none, .entry (.tmp 7)⟩,
 ⟨(some 11), none, .ext (.tmp 10) 0⟩,
 ⟨(some 12), none, .ext (.tmp 10) 1⟩,
 ⟨(some 4), none, .mv (.tmp 11)⟩,
 ⟨(some 5), none, .mv (.tmp 12)⟩] [0, 1, 4, 5, 7])
 (.seq (.reg [⟨(some 13), none, .mv (.tmp 1)⟩,
 ⟨(some 14), none, .mv (.tmp 4)⟩,
 ⟨(some 15), none, .mv (.tmp 5)⟩,
 ⟨(some 16), none, .callv (.tmp 13) [(.tmp 14), (.tmp 15)]⟩] [0, 1, 4, 7, 16])
 (.cond (.tmp 16)
 (.reg [⟨(some 17), none, .mv (.tmp 0)⟩,
 ⟨(some 18), none, .mv (.tmp 4)⟩,
 ⟨none, none, .delete .int (.tmp 17) (.tmp 18)⟩] [0, 1, 7])
 .skip)))))))))⟩
theorem low61 : lowF Try.prog (assoc kp61) (assoc od61) 61 = some F61 := by kernel_rfl

/- (*palaver/dict.Table).changed$1 -/
def kp60 : List (Nat × List Nat) := [(0, [0, 1]), (1, [3])]
def od60 : List (Nat × List (List Nat)) := []
def F60 : FIR := ⟨7, [.tmp 3],
 (.seq (.reg [⟨(some 3), none, .mv (.const (Value.bool false))⟩] [0, 1])
 (.seq (.reg [⟨(some 4), none, .mv (.tmp 0)⟩,
 ⟨(some 5), none, .load1 (.tmp 1)⟩,
 ⟨(some 6), none, .bin .eql (.tmp 4) (.tmp 5)⟩,
 ⟨(some 3), none, .mv (.tmp 6)⟩] [3])
 .ret))⟩
theorem low60 : lowF Try.prog (assoc kp60) (assoc od60) 60 = some F60 := by kernel_rfl

/- (*palaver/dict.Table).changed -/
def kp47 : List (Nat × List Nat) := [(0, [0, 3]), (1, []), (2, [4])]
def od47 : List (Nat × List (List Nat)) := []
def F47 : FIR := ⟨8, [.tmp 4],
 (.seq (.reg [⟨(some 3), none, .box 9 (.tmp 1)⟩,
 ⟨(some 4), none, .mv (.const (Value.int IntKind.i64 0))⟩] [0, 3])
 (.seq (.reg [⟨(some 5), none, .mv (.tmp 0)⟩,
 ⟨(some 6), none, .clos (.func 60) [] [(.tmp 3)]⟩,
 ⟨(some 7), none, .call 48 [(.tmp 5), (.tmp 6)]⟩] [])
 (.seq (.reg [⟨(some 4), none, .mv (.const (Value.int IntKind.i64 0))⟩] [4])
 .ret)))⟩
theorem low47 : lowF Try.prog (assoc kp47) (assoc od47) 47 = some F47 := by kernel_rfl

/- (*palaver/dict.Table).Flush$1 -/
def kp49 : List (Nat × List Nat) := [(0, []), (1, [2])]
def od49 : List (Nat × List (List Nat)) := []
def F49 : FIR := ⟨3, [.tmp 2],
 (.seq (.reg [⟨(some 2), none, .mv (.const (Value.bool false))⟩] [])
 (.seq (.reg [⟨(some 2), none, .mv (.const (Value.bool true))⟩] [2])
 .ret))⟩
theorem low49 : lowF Try.prog (assoc kp49) (assoc od49) 49 = some F49 := by kernel_rfl

/- (*palaver/dict.Table).Flush -/
def kp24 : List (Nat × List Nat) := [(0, [])]
def od24 : List (Nat × List (List Nat)) := []
def F24 : FIR := ⟨4, [],
 (.reg [⟨(some 2), none, .mv (.tmp 0)⟩,
 ⟨(some 3), none, .call 48 [(.tmp 2), (.func 49)]⟩] [])⟩
theorem low24 : lowF Try.prog (assoc kp24) (assoc od24) 24 = some F24 := by kernel_rfl

/- (*palaver/dict.Table).Install -/
def kp21 : List (Nat × List Nat) := [(0, [0, 1, 2, 3, 22, 23, 24, 42, 43, 44]), (1, [0, 1, 2, 3, 12, 22, 23, 24, 42, 43, 44]), (2, [8]), (3, [0, 1, 2, 3, 17, 42, 43, 44]), (4, [8]), (5, [0, 2, 3, 9, 42, 43, 44]), (6, [0, 2, 3, 9, 11, 42, 43, 44]), (7, [0, 2, 3, 9, 45]), (8, [8]), (9, [0, 2]), (10, [8])]
def od21 : List (Nat × List (List Nat)) := []
def F21 : FIR := ⟨52, [.tmp 8],
 (.seq (.reg [⟨(some 8), none, .mv (.const (Value.int IntKind.i64 0))⟩] [0, 1, 2, 3, 22, 23, 24, 42, 43, 44])
 (.seq (.block 0
 (.seq (.reg [⟨(some 13), none, .mv (.tmp 0)⟩,
 ⟨(some 14), none, .mv (.tmp 1)⟩,
 ⟨(some 15), none, .call 25 [(.tmp 13), (.tmp 14)]⟩,
 ⟨(some 16), none, .un .not (.tmp 15)⟩,
 ⟨(some 12), none, .mv (.tmp 16)⟩] [0, 1, 2, 3, 12, 22, 23, 24, 42, 43, 44])
 (.cond (.tmp 12)
 (.seq (.reg [⟨(some 8), none, .mv (.const (Value.int IntKind.i64 220))⟩] [8])
 .ret)
 (.seq (.reg [⟨(some 18), none, .mv (.tmp 2)⟩,
 ⟨(some 19), none, .lenS (.tmp 18)⟩,
 ⟨(some 20), none, .bin .lss (.tmp 19) (.const (Value.int IntKind.i64 1))⟩,
 ⟨(some 21), none, .mv (.tmp 20)⟩,
 ⟨(some 22), (some (21, false)), .mv (.tmp 2)⟩,
 ⟨(some 23), (some (21, false)), .lenS (.tmp 22)⟩,
 ⟨(some 24), (some (21, false)), .bin .gtr (.tmp 23) (.const (Value.int IntKind.i64 640))⟩,
 ⟨(some 25), none, .pick (.tmp 21) (.const (Value.bool true)) (.tmp 24)⟩,
 ⟨(some 17), none, .mv (.tmp 25)⟩] [0, 1, 2, 3, 17, 42, 43, 44])
 (.cond (.tmp 17)
 (.seq (.reg [⟨(some 8), none, .mv (.const (Value.int IntKind.i64 221))⟩] [8])
 .ret)
 .skip)))))
 (.seq (.reg [⟨(some 26), none, .mv (.tmp 0)⟩,
 ⟨(some 27), none, .nilck (.tmp 26)⟩,
 ⟨(some 28), none, .fld 1 (.tmp 27)⟩,
 ⟨(some 29), none, .load1 (.tmp 28)⟩,
 ⟨(some 30), none, .mv (.tmp 1)⟩,
 ⟨(some 31), none, .idxL 1 (.tmp 29) (.tmp 30)⟩,
 ⟨(some 32), none, .load1 (.tmp 31)⟩,
 ⟨(some 9), none, .mv (.tmp 32)⟩] [0, 2, 3, 9, 42, 43, 44])
 (.seq (.seq (.reg [⟨(some 34), none, .mv (.tmp 9)⟩,
 ⟨(some 35), none, .mv (.tmp 2)⟩,
 ⟨(some 36), none, .lookup .str (Value.int IntKind.i64 0) true (.tmp 34) (.tmp 35)⟩,
 ⟨(some 33), none, .mv (.tmp 36)⟩,
 ⟨(some 37), none, .ext (.tmp 33) 0⟩,
 ⟨(some 38), none, .ext (.tmp 33) 1⟩,
 ⟨(some 10), none, .mv (.tmp 37)⟩,
 ⟨(some 11), none, .mv (.tmp 38)⟩] [0, 2, 3, 9, 11, 42, 43, 44])
 (.seq (.reg [⟨(some 39), none, .mv (.tmp 11)⟩,
 ⟨(some 40), none, .un .not (.tmp 39)⟩,
 ⟨(some 41), none, .mv (.tmp 40)⟩,
 ⟨(some 42), (some (41, true)), .mv (.tmp 9)⟩,
 ⟨(some 43), (some (41, true)), .mlen (.tmp 42)⟩,
 ⟨(some 44), (some (41, true)), .bin .geq (.tmp 43) (.const (Value.int IntKind.i64 4096))⟩,
 ⟨(some 45), none, .pick (.tmp 41) (.tmp 44) (.const (Value.bool false))⟩] [0, 2, 3, 9, 45])
 (.cond (.tmp 45)
 (.seq (.reg [⟨(some 8), none, .mv (.const (Value.int IntKind.i64 222))⟩] [8])
 .ret)
 .skip)))
 (.seq (.reg [⟨(some 46), none, .mv (.tmp 9)⟩,
 ⟨(some 47), none, .mv (.tmp 2)⟩,
 ⟨(some 48), none, .mv (.tmp 3)⟩,
 ⟨none, none, .mapupd .str (.tmp 46) (.tmp 47) (.tmp 48)⟩] [0, 2])
 (.seq (.reg [⟨(some 49), none, .mv (.tmp 0)⟩,
 ⟨(some 50), none, .mv (.tmp 2)⟩,
 ⟨(some 51), none, .call 47 [(.tmp 49), (.tmp 50)]⟩,
 ⟨(some 8), none, .mv (.tmp 51)⟩] [8])
 .ret))))))⟩
theorem low21 : lowF Try.prog (assoc kp21) (assoc od21) 21 = some F21 := by kernel_rfl

/- (*palaver/dict.Table).Remove -/
def kp22 : List (Nat × List Nat) := [(0, [0, 1, 2]), (1, [0, 1, 2, 12]), (2, [6]), (3, [0, 1, 2, 8]), (4, [0, 1, 2, 26]), (5, [6]), (6, [0, 2]), (7, [6])]
def od22 : List (Nat × List (List Nat)) := []
def F22 : FIR := ⟨38, [.tmp 6],
 (.seq (.reg [⟨(some 6), none, .mv (.const (Value.int IntKind.i64 0))⟩] [0, 1, 2])
 (.seq (.seq (.reg [⟨(some 9), none, .mv (.tmp 0)⟩,
 ⟨(some 10), none, .mv (.tmp 1)⟩,
 ⟨(some 11), none, .call 25 [(.tmp 9), (.tmp 10)]⟩,
 ⟨(some 12), none, .un .not (.tmp 11)⟩] [0, 1, 2, 12])
 (.cond (.tmp 12)
 (.seq (.reg [⟨(some 6), none, .mv (.const (Value.int IntKind.i64 220))⟩] [6])
 .ret)
 .skip))
 (.seq (.seq (.reg [⟨(some 14), none, .mv (.tmp 0)⟩,
 ⟨(some 15), none, .nilck (.tmp 14)⟩,
 ⟨(some 16), none, .fld 1 (.tmp 15)⟩,
 ⟨(some 17), none, .load1 (.tmp 16)⟩,
 ⟨(some 18), none, .mv (.tmp 1)⟩,
 ⟨(some 19), none, .idxL 1 (.tmp 17) (.tmp 18)⟩,
 ⟨(some 20), none, .load1 (.tmp 19)⟩,
 ⟨(some 21), none, .mv (.tmp 2)⟩,
 ⟨(some 22), none, .lookup .str (Value.int IntKind.i64 0) true (.tmp 20) (.tmp 21)⟩,
 ⟨(some 13), none, .mv (.tmp 22)⟩,
 ⟨(some 23), none, .ext (.tmp 13) 0⟩,
 ⟨(some 24), none, .ext (.tmp 13) 1⟩,
 ⟨(some 7), none, .mv (.tmp 23)⟩,
 ⟨(some 8), none, .mv (.tmp 24)⟩] [0, 1, 2, 8])
 (.seq (.reg [⟨(some 25), none, .mv (.tmp 8)⟩,
 ⟨(some 26), none, .un .not (.tmp 25)⟩] [0, 1, 2, 26])
 (.cond (.tmp 26)
 (.seq (.reg [⟨(some 6), none, .mv (.const (Value.int IntKind.i64 223))⟩] [6])
 .ret)
 .skip)))
 (.seq (.reg [⟨(some 27), none, .mv (.tmp 0)⟩,
 ⟨(some 28), none, .nilck (.tmp 27)⟩,
 ⟨(some 29), none, .fld 1 (.tmp 28)⟩,
 ⟨(some 30), none, .load1 (.tmp 29)⟩,
 ⟨(some 31), none, .mv (.tmp 1)⟩,
 ⟨(some 32), none, .idxL 1 (.tmp 30) (.tmp 31)⟩,
 ⟨(some 33), none, .load1 (.tmp 32)⟩,
 ⟨(some 34), none, .mv (.tmp 2)⟩,
 ⟨none, none, .delete .str (.tmp 33) (.tmp 34)⟩] [0, 2])
 (.seq (.reg [⟨(some 35), none, .mv (.tmp 0)⟩,
 ⟨(some 36), none, .mv (.tmp 2)⟩,
 ⟨(some 37), none, .call 47 [(.tmp 35), (.tmp 36)]⟩,
 ⟨(some 6), none, .mv (.tmp 37)⟩] [6])
 .ret)))))⟩
theorem low22 : lowF Try.prog (assoc kp22) (assoc od22) 22 = some F22 := by kernel_rfl

/- palaver/dict.New -/
def kp8 : List (Nat × List Nat) := [(0, [0, 21, 22, 23]), (1, [0, 10, 21, 22, 23]), (2, [2, 3]), (3, [0, 11, 12, 13, 21, 22, 23]), (4, [0, 11, 12, 13, 14, 21, 22, 23]), (5, [0, 4, 5, 11, 12, 13, 21, 22, 23]), (6, [0, 11, 12, 13, 21, 22, 23, 24]), (7, [2, 3]), (8, [0, 11, 12, 13, 21, 22, 23]), (9, [6]), (10, [6, 38, 39]), (11, [6, 38, 39, 40]), (12, [6, 7, 38, 39]), (13, [6, 38, 39]), (14, [6, 38, 39]), (15, [2, 3])]
def od8 : List (Nat × List (List Nat)) := [(9, [[0, 1, 2, 3, 4, 5, 6, 7, 8], [0, 2, 3, 4, 1, 5, 6, 7, 8], [0, 2, 3, 4, 5, 1, 6, 7, 8], [0, 1, 2, 3, 5, 4, 6, 7, 8], [0, 2, 3, 5, 1, 4, 6, 7, 8], [0, 2, 3, 5, 4, 1, 6, 7, 8]])]
def F8 : FIR := ⟨51, [.tmp 2, .tmp 3],
 (.seq (.reg [⟨(some 2), none, .mv (.const (Value.pointer none))⟩,
 ⟨(some 3), none, .mv (.const (Value.int IntKind.i64 0))⟩] [0, 21, 22, 23])
 (.seq (.seq (.reg [⟨(some 8), none, .mv (.tmp 0)⟩,
 ⟨(some 9), none, .lenL (.tmp 8)⟩,
 ⟨(some 10), none, .bin .gtr (.tmp 9) (.const (Value.int IntKind.i64 4096))⟩] [0, 10, 21, 22, 23])
 (.cond (.tmp 10)
 (.seq (.reg [⟨(some 2), none, .mv (.const (Value.pointer none))⟩,
 ⟨(some 3), none, .mv (.const (Value.int IntKind.i64 220))⟩] [2, 3])
 .ret)
 .skip))
 (.seq (.seq (.reg [⟨(some 11), none, .mv (.tmp 0)⟩,
 ⟨(some 12), none, .lenL (.tmp 11)⟩,
 ⟨(some 13), none, .mv (.const (Value.int IntKind.i64 0))⟩] [0, 11, 12, 13, 21, 22, 23])
 (.block 0
 (.loop
 (.seq (.reg [⟨(some 14), none, .bin .lss (.tmp 13) (.tmp 12)⟩] [0, 11, 12, 13, 14, 21, 22, 23])
 (.seq (.cond (.tmp 14)
 .skip
 (.exit 0))
 (.seq (.block 1
 (.seq (.reg [⟨(some 15), none, .mv (.tmp 13)⟩,
 ⟨(some 16), none, .idxL 1 (.tmp 11) (.tmp 13)⟩,
 ⟨(some 17), none, .load1 (.tmp 16)⟩,
 ⟨(some 4), none, .mv (.tmp 15)⟩,
 ⟨(some 5), none, .mv (.tmp 17)⟩] [0, 4, 5, 11, 12, 13, 21, 22, 23])
 (.seq (.reg [⟨(some 18), none, .mv (.tmp 5)⟩,
 ⟨(some 19), none, .bin .lss (.tmp 18) (.const (Value.int IntKind.i64 (-1)))⟩,
 ⟨(some 20), none, .mv (.tmp 19)⟩,
 ⟨(some 21), (some (20, false)), .mv (.tmp 5)⟩,
 ⟨(some 22), (some (20, false)), .mv (.tmp 4)⟩,
 ⟨(some 23), (some (20, false)), .bin .geq (.tmp 21) (.tmp 22)⟩,
 ⟨(some 24), none, .pick (.tmp 20) (.const (Value.bool true)) (.tmp 23)⟩] [0, 11, 12, 13, 21, 22, 23, 24])
 (.cond (.tmp 24)
 (.seq (.reg [⟨(some 2), none, .mv (.const (Value.pointer none))⟩,
 ⟨(some 3), none, .mv (.const (Value.int IntKind.i64 220))⟩] [2, 3])
 .ret)
 .skip))))
 (.reg [⟨(some 25), none, .bin .add (.tmp 13) (.const (Value.int IntKind.i64 1))⟩,
 ⟨(some 13), none, .mv (.tmp 25)⟩] [0, 11, 12, 13, 21, 22, 23])))))))
 (.seq (.draw [[⟨(some 26), none, .mv (.tmp 0)⟩,
 ⟨(some 27), none, .call 23 [(.tmp 26)]⟩,
 ⟨(some 28), none, .mv (.tmp 0)⟩,
 ⟨(some 29), none, .lenL (.tmp 28)⟩,
 ⟨(some 30), none, .mkslice 80 1 8 [(Value.map none)] (.tmp 29) (.tmp 29)⟩,
 ⟨(some 31), none, .mkmap⟩,
 ⟨(some 32), none, .build [(Value.slice none 0 0), (Value.slice none 0 0), (Value.int IntKind.i64 0), (Value.string ⟨#[]⟩), (Value.int IntKind.i64 0), (Value.int IntKind.i64 0), (Value.string ⟨#[]⟩), (Value.int IntKind.i64 0), (Value.int IntKind.i64 0), (Value.string ⟨#[]⟩), (Value.int IntKind.i64 0), (Value.int IntKind.i64 0), (Value.string ⟨#[]⟩), (Value.int IntKind.i64 0), (Value.int IntKind.i64 0), (Value.string ⟨#[]⟩), (Value.int IntKind.i64 0), (Value.int IntKind.i64 0), (Value.string ⟨#[]⟩), (Value.int IntKind.i64 0), (Value.int IntKind.i64 0), (Value.string ⟨#[]⟩), (Value.int IntKind.i64 0), (Value.int IntKind.i64 0), (Value.string ⟨#[]⟩), (Value.int IntKind.i64 0), (Value.int IntKind.i64 0), (Value.string ⟨#[]⟩), (Value.int IntKind.i64 0), (Value.int IntKind.i64 0), (Value.string ⟨#[]⟩), (Value.int IntKind.i64 0), (Value.int IntKind.i64 0), (Value.string ⟨#[]⟩), (Value.int IntKind.i64 0), (Value.int IntKind.i64 0), (Value.string ⟨#[]⟩), (Value.int IntKind.i64 0), (Value.int IntKind.i64 0), (Value.string ⟨#[]⟩), (Value.int IntKind.i64 0), (Value.int IntKind.i64 0), (Value.string ⟨#[]⟩), (Value.int IntKind.i64 0), (Value.int IntKind.i64 0), (Value.string ⟨#[]⟩), (Value.int IntKind.i64 0), (Value.int IntKind.i64 0), (Value.string ⟨#[]⟩), (Value.int IntKind.i64 0), (Value.int IntKind.i64 0), (Value.string ⟨#[]⟩), (Value.int IntKind.i64 0), (Value.int IntKind.i64 0), (Value.string ⟨#[]⟩), (Value.int IntKind.i64 0), (Value.int IntKind.i64 0), (Value.string ⟨#[]⟩), (Value.int IntKind.i64 0), (Value.int IntKind.i64 0), (Value.string ⟨#[]⟩), (Value.int IntKind.i64 0), (Value.int IntKind.i64 0), (Value.string ⟨#[]⟩), (Value.int IntKind.i64 0), (Value.int IntKind.i64 0), (Value.string ⟨#[]⟩), (Value.int IntKind.i64 0), (Value.int IntKind.i64 0), (Value.string ⟨#[]⟩), (Value.int IntKind.i64 0), (Value.int IntKind.i64 0), (Value.string ⟨#[]⟩), (Value.int IntKind.i64 0), (Value.int IntKind.i64 0), (Value.string ⟨#[]⟩), (Value.int IntKind.i64 0), (Value.int IntKind.i64 0), (Value.string ⟨#[]⟩), (Value.int IntKind.i64 0), (Value.int IntKind.i64 0), (Value.string ⟨#[]⟩), (Value.int IntKind.i64 0), (Value.int IntKind.i64 0), (Value.string ⟨#[]⟩), (Value.int IntKind.i64 0), (Value.int IntKind.i64 0), (Value.string ⟨#[]⟩), (Value.int IntKind.i64 0), (Value.int IntKind.i64 0), (Value.string ⟨#[]⟩), (Value.int IntKind.i64 0), (Value.int IntKind.i64 0), (Value.string ⟨#[]⟩), (Value.int IntKind.i64 0), (Value.int IntKind.i64 0), (Value.string ⟨#[]⟩), (Value.int IntKind.i64 0), (Value.int IntKind.i64 0), (Value.string ⟨#[]⟩), (Value.int IntKind.i64 0), (Value.int IntKind.i64 0), (Value.string ⟨#[]⟩), (Value.int IntKind.i64 0), (Value.int IntKind.i64 0), (Value.string ⟨#[]⟩), (Value.int IntKind.i64 0), (Value.int IntKind.i64 0), (Value.string ⟨#[]⟩), (Value.int IntKind.i64 0), (Value.int IntKind.i64 0), (Value.string ⟨#[]⟩), (Value.int IntKind.i64 0), (Value.int IntKind.i64 0), (Value.string ⟨#[]⟩), (Value.int IntKind.i64 0), (Value.int IntKind.i64 0), (Value.string ⟨#[]⟩), (Value.int IntKind.i64 0), (Value.int IntKind.i64 0), (Value.string ⟨#[]⟩), (Value.int IntKind.i64 0), (Value.int IntKind.i64 0), (Value.string ⟨#[]⟩), (Value.int IntKind.i64 0), (Value.int IntKind.i64 0), (Value.string ⟨#[]⟩), (Value.int IntKind.i64 0), (Value.int IntKind.i64 0), (Value.string ⟨#[]⟩), (Value.int IntKind.i64 0), (Value.int IntKind.i64 0), (Value.string ⟨#[]⟩), (Value.int IntKind.i64 0), (Value.int IntKind.i64 0), (Value.string ⟨#[]⟩), (Value.int IntKind.i64 0), (Value.int IntKind.i64 0), (Value.string ⟨#[]⟩), (Value.int IntKind.i64 0), (Value.int IntKind.i64 0), (Value.string ⟨#[]⟩), (Value.int IntKind.i64 0), (Value.int IntKind.i64 0), (Value.string ⟨#[]⟩), (Value.int IntKind.i64 0), (Value.int IntKind.i64 0), (Value.string ⟨#[]⟩), (Value.int IntKind.i64 0), (Value.int IntKind.i64 0), (Value.string ⟨#[]⟩), (Value.int IntKind.i64 0), (Value.int IntKind.i64 0), (Value.string ⟨#[]⟩), (Value.int IntKind.i64 0), (Value.int IntKind.i64 0), (Value.string ⟨#[]⟩), (Value.int IntKind.i64 0), (Value.int IntKind.i64 0), (Value.string ⟨#[]⟩), (Value.int IntKind.i64 0), (Value.int IntKind.i64 0), (Value.string ⟨#[]⟩), (Value.int IntKind.i64 0), (Value.int IntKind.i64 0), (Value.string ⟨#[]⟩), (Value.int IntKind.i64 0), (Value.int IntKind.i64 0), (Value.string ⟨#[]⟩), (Value.int IntKind.i64 0), (Value.int IntKind.i64 0), (Value.string ⟨#[]⟩), (Value.int IntKind.i64 0), (Value.int IntKind.i64 0), (Value.string ⟨#[]⟩), (Value.int IntKind.i64 0), (Value.int IntKind.i64 0), (Value.string ⟨#[]⟩), (Value.int IntKind.i64 0), (Value.int IntKind.i64 0), (Value.string ⟨#[]⟩), (Value.int IntKind.i64 0), (Value.int IntKind.i64 0), (Value.string ⟨#[]⟩), (Value.int IntKind.i64 0), (Value.int IntKind.i64 0), (Value.string ⟨#[]⟩), (Value.int IntKind.i64 0), (Value.int IntKind.i64 0), (Value.string ⟨#[]⟩), (Value.int IntKind.i64 0), (Value.int IntKind.i64 0), (Value.string ⟨#[]⟩), (Value.int IntKind.i64 0), (Value.map none), (Value.int IntKind.i64 0), (Value.int IntKind.i64 0), (Value.int IntKind.i64 0), (Value.int IntKind.i64 0), (Value.int IntKind.i64 0)] [(0, 1, (.tmp 27)), (1, 1, (.tmp 30)), (194, 1, (.tmp 31))]⟩,
 ⟨(some 33), none, .box 79 (.tmp 32)⟩,
 ⟨(some 6), none, .mv (.tmp 33)⟩],
 [⟨(some 26), none, .mv (.tmp 0)⟩,
 ⟨(some 28), none, .mv (.tmp 0)⟩,
 ⟨(some 29), none, .lenL (.tmp 28)⟩,
 ⟨(some 30), none, .mkslice 80 1 8 [(Value.map none)] (.tmp 29) (.tmp 29)⟩,
 ⟨(some 27), none, .call 23 [(.tmp 26)]⟩,
 ⟨(some 31), none, .mkmap⟩,
 ⟨(some 32), none, .build [(Value.slice none 0 0), (Value.slice none 0 0), (Value.int IntKind.i64 0), (Value.string ⟨#[]⟩), (Value.int IntKind.i64 0), (Value.int IntKind.i64 0), (Value.string ⟨#[]⟩), (Value.int IntKind.i64 0), (Value.int IntKind.i64 0), (Value.string ⟨#[]⟩), (Value.int IntKind.i64 0), (Value.int IntKind.i64 0), (Value.string ⟨#[]⟩), (Value.int IntKind.i64 0), (Value.int IntKind.i64 0), (Value.string ⟨#[]⟩), (Value.int IntKind.i64 0), (Value.int IntKind.i64 0), (Value.string ⟨#[]⟩), (Value.int IntKind.i64 0), (Value.int IntKind.i64 0), (Value.string ⟨#[]⟩), (Value.int IntKind.i64 0), (Value.int IntKind.i64 0), (Value.string ⟨#[]⟩), (Value.int IntKind.i64 0), (Value.int IntKind.i64 0), (Value.string ⟨#[]⟩), (Value.int IntKind.i64 0), (Value.int IntKind.i64 0), (Value.string ⟨#[]⟩), (Value.int IntKind.i64 0), (Value.int IntKind.i64 0), (Value.string ⟨#[]⟩), (Value.int IntKind.i64 0), (Value.int IntKind.i64 0), (Value.string ⟨#[]⟩), (Value.int IntKind.i64 0), (Value.int IntKind.i64 0), (Value.string ⟨#[]⟩), (Value.int IntKind.i64 0), (Value.int IntKind.i64 0), (Value.string ⟨#[]⟩), (Value.int IntKind.i64 0), (Value.int IntKind.i64 0), (Value.string ⟨#[]⟩), (Value.int IntKind.i64 0), (Value.int IntKind.i64 0), (Value.string ⟨#[]⟩), (Value.int IntKind.i64 0), (Value.int IntKind.i64 0), (Value.string ⟨#[]⟩), (Value.int IntKind.i64 0), (Value.int IntKind.i64 0), (Value.string ⟨#[]⟩), (Value.int IntKind.i64 0), (Value.int IntKind.i64 0), (Value.string ⟨#[]⟩), (Value.int IntKind.i64 0), (Value.int IntKind.i64 0), (Value.string ⟨#[]⟩), (Value.int IntKind.i64 0), (Value.int IntKind.i64 0), (Value.string ⟨#[]⟩), (Value.int IntKind.i64 0), (Value.int IntKind.i64 0), (Value.string ⟨#[]⟩), (Value.int IntKind.i64 0), (Value.int IntKind.i64 0), (Value.string ⟨#[]⟩), (Value.int IntKind.i64 0), (Value.int IntKind.i64 0), (Value.string ⟨#[]⟩), (Value.int IntKind.i64 0), (Value.int IntKind.i64 0), (Value.string ⟨#[]⟩), (Value.int IntKind.i64 0), (Value.int IntKind.i64 0), (Value.string ⟨#[]⟩), (Value.int IntKind.i64 0), (Value.int IntKind.i64 0), (Value.string ⟨#[]⟩), (Value.int IntKind.i64 0), (Value.int IntKind.i64 0), (Value.string ⟨#[]⟩), (Value.int IntKind.i64 0), (Value.int IntKind.i64 0), (Value.string ⟨#[]⟩), (Value.int IntKind.i64 0), (Value.int IntKind.i64 0), (Value.string ⟨#[]⟩), (Value.int IntKind.i64 0), (Value.int IntKind.i64 0), (Value.string ⟨#[]⟩), (Value.int IntKind.i64 0), (Value.int IntKind.i64 0), (Value.string ⟨#[]⟩), (Value.int IntKind.i64 0), (Value.int IntKind.i64 0), (Value.string ⟨#[]⟩), (Value.int IntKind.i64 0), (Value.int IntKind.i64 0), (Value.string ⟨#[]⟩), (Value.int IntKind.i64 0), (Value.int IntKind.i64 0), (Value.string ⟨#[]⟩), (Value.int IntKind.i64 0), (Value.int IntKind.i64 0), (Value.string ⟨#[]⟩), (Value.int IntKind.i64 0), (Value.int IntKind.i64 0), (Value.string ⟨#[]⟩), (Value.int IntKind.i64 0), (Value.int IntKind.i64 0), (Value.string ⟨#[]⟩), (Value.int IntKind.i64 0), (Value.int IntKind.i64 0), (Value.string ⟨#[]⟩), (Value.int IntKind.i64 0), (Value.int IntKind.i64 0), (Value.string ⟨#[]⟩), (Value.int IntKind.i64 0), (Value.int IntKind.i64 0), (Value.string ⟨#[]⟩), (Value.int IntKind.i64 0), (Value.int IntKind.i64 0), (Value.string ⟨#[]⟩), (Value.int IntKind.i64 0), (Value.int IntKind.i64 0), (Value.string ⟨#[]⟩), (Value.int IntKind.i64 0), (Value.int IntKind.i64 0), (Value.string ⟨#[]⟩), (Value.int IntKind.i64 0), (Value.int IntKind.i64 0), (Value.string ⟨#[]⟩), (Value.int IntKind.i64 0), (Value.int IntKind.i64 0), (Value.string ⟨#[]⟩), (Value.int IntKind.i64 0), (Value.int IntKind.i64 0), (Value.string ⟨#[]⟩), (Value.int IntKind.i64 0), (Value.int IntKind.i64 0), (Value.string ⟨#[]⟩), (Value.int IntKind.i64 0), (Value.int IntKind.i64 0), (Value.string ⟨#[]⟩), (Value.int IntKind.i64 0), (Value.int IntKind.i64 0), (Value.string ⟨#[]⟩), (Value.int IntKind.i64 0), (Value.int IntKind.i64 0), (Value.string ⟨#[]⟩), (Value.int IntKind.i64 0), (Value.int IntKind.i64 0), (Value.string ⟨#[]⟩), (Value.int IntKind.i64 0), (Value.int IntKind.i64 0), (Value.string ⟨#[]⟩), (Value.int IntKind.i64 0), (Value.int IntKind.i64 0), (Value.string ⟨#[]⟩), (Value.int IntKind.i64 0), (Value.int IntKind.i64 0), (Value.string ⟨#[]⟩), (Value.int IntKind.i64 0), (Value.int IntKind.i64 0), (Value.string ⟨#[]⟩), (Value.int IntKind.i64 0), (Value.int IntKind.i64 0), (Value.string ⟨#[]⟩), (Value.int IntKind.i64 0), (Value.int IntKind.i64 0), (Value.string ⟨#[]⟩), (Value.int IntKind.i64 0), (Value.int IntKind.i64 0), (Value.string ⟨#[]⟩), (Value.int IntKind.i64 0), (Value.int IntKind.i64 0), (Value.string ⟨#[]⟩), (Value.int IntKind.i64 0), (Value.int IntKind.i64 0), (Value.string ⟨#[]⟩), (Value.int IntKind.i64 0), (Value.int IntKind.i64 0), (Value.string ⟨#[]⟩), (Value.int IntKind.i64 0), (Value.int IntKind.i64 0), (Value.string ⟨#[]⟩), (Value.int IntKind.i64 0), (Value.int IntKind.i64 0), (Value.string ⟨#[]⟩), (Value.int IntKind.i64 0), (Value.map none), (Value.int IntKind.i64 0), (Value.int IntKind.i64 0), (Value.int IntKind.i64 0), (Value.int IntKind.i64 0), (Value.int IntKind.i64 0)] [(0, 1, (.tmp 27)), (1, 1, (.tmp 30)), (194, 1, (.tmp 31))]⟩,
 ⟨(some 33), none, .box 79 (.tmp 32)⟩,
 ⟨(some 6), none, .mv (.tmp 33)⟩],
 [⟨(some 26), none, .mv (.tmp 0)⟩,
 ⟨(some 28), none, .mv (.tmp 0)⟩,
 ⟨(some 29), none, .lenL (.tmp 28)⟩,
 ⟨(some 30), none, .mkslice 80 1 8 [(Value.map none)] (.tmp 29) (.tmp 29)⟩,
 ⟨(some 31), none, .mkmap⟩,
 ⟨(some 27), none, .call 23 [(.tmp 26)]⟩,
 ⟨(some 32), none, .build [(Value.slice none 0 0), (Value.slice none 0 0), (Value.int IntKind.i64 0), (Value.string ⟨#[]⟩), (Value.int IntKind.i64 0), (Value.int IntKind.i64 0), (Value.string ⟨#[]⟩), (Value.int IntKind.i64 0), (Value.int IntKind.i64 0), (Value.string ⟨#[]⟩), (Value.int IntKind.i64 0), (Value.int IntKind.i64 0), (Value.string ⟨#[]⟩), (Value.int IntKind.i64 0), (Value.int IntKind.i64 0), (Value.string ⟨#[]⟩), (Value.int IntKind.i64 0), (Value.int IntKind.i64 0), (Value.string ⟨#[]⟩), (Value.int IntKind.i64 0), (Value.int IntKind.i64 0), (Value.string ⟨#[]⟩), (Value.int IntKind.i64 0), (Value.int IntKind.i64 0), (Value.string ⟨#[]⟩), (Value.int IntKind.i64 0), (Value.int IntKind.i64 0), (Value.string ⟨#[]⟩), (Value.int IntKind.i64 0), (Value.int IntKind.i64 0), (Value.string ⟨#[]⟩), (Value.int IntKind.i64 0), (Value.int IntKind.i64 0), (Value.string ⟨#[]⟩), (Value.int IntKind.i64 0), (Value.int IntKind.i64 0), (Value.string ⟨#[]⟩), (Value.int IntKind.i64 0), (Value.int IntKind.i64 0), (Value.string ⟨#[]⟩), (Value.int IntKind.i64 0), (Value.int IntKind.i64 0), (Value.string ⟨#[]⟩), (Value.int IntKind.i64 0), (Value.int IntKind.i64 0), (Value.string ⟨#[]⟩), (Value.int IntKind.i64 0), (Value.int IntKind.i64 0), (Value.string ⟨#[]⟩), (Value.int IntKind.i64 0), (Value.int IntKind.i64 0), (Value.string ⟨#[]⟩), (Value.int IntKind.i64 0), (Value.int IntKind.i64 0), (Value.string ⟨#[]⟩), (Value.int IntKind.i64 0), (Value.int IntKind.i64 0), (Value.string ⟨#[]⟩), (Value.int IntKind.i64 0), (Value.int IntKind.i64 0), (Value.string ⟨#[]⟩), (Value.int IntKind.i64 0), (Value.int IntKind.i64 0), (Value.string ⟨#[]⟩), (Value.int IntKind.i64 0), (Value.int IntKind.i64 0), (Value.string ⟨#[]⟩), (Value.int IntKind.i64 0), (Value.int IntKind.i64 0), (Value.string ⟨#[]⟩), (Value.int IntKind.i64 0), (Value.int IntKind.i64 0), (Value.string ⟨#[]⟩), (Value.int IntKind.i64 0), (Value.int IntKind.i64 0), (Value.string ⟨#[]⟩), (Value.int IntKind.i64 0), (Value.int IntKind.i64 0), (Value.string ⟨#[]⟩), (Value.int IntKind.i64 0), (Value.int IntKind.i64 0), (Value.string ⟨#[]⟩), (Value.int IntKind.i64 0), (Value.int IntKind.i64 0), (Value.string ⟨#[]⟩), (Value.int IntKind.i64 0), (Value.int IntKind.i64 0), (Value.string ⟨#[]⟩), (Value.int IntKind.i64 0), (Value.int IntKind.i64 0), (Value.string ⟨#[]⟩), (Value.int IntKind.i64 0), (Value.int IntKind.i64 0), (Value.string ⟨#[]⟩), (Value.int IntKind.i64 0), (Value.int IntKind.i64 0), (Value.string ⟨#[]⟩), (Value.int IntKind.i64 0), (Value.int IntKind.i64 0), (Value.string ⟨#[]⟩), (Value.int IntKind.i64 0), (Value.int IntKind.i64 0), (Value.string ⟨#[]⟩), (Value.int IntKind.i64 0), (Value.int IntKind.i64 0), (Value.string ⟨#[]⟩), (Value.int IntKind.i64 0), (Value.int IntKind.i64 0), (Value.string ⟨#[]⟩), (Value.int IntKind.i64 0), (Value.int IntKind.i64 0), (Value.string ⟨#[]⟩), (Value.int IntKind.i64 0), (Value.int IntKind.i64 0), (Value.string ⟨#[]⟩), (Value.int IntKind.i64 0), (Value.int IntKind.i64 0), (Value.string ⟨#[]⟩), (Value.int IntKind.i64 0), (Value.int IntKind.i64 0), (Value.string ⟨#[]⟩), (Value.int IntKind.i64 0), (Value.int IntKind.i64 0), (Value.string ⟨#[]⟩), (Value.int IntKind.i64 0), (Value.int IntKind.i64 0), (Value.string ⟨#[]⟩), (Value.int IntKind.i64 0), (Value.int IntKind.i64 0), (Value.string ⟨#[]⟩), (Value.int IntKind.i64 0), (Value.int IntKind.i64 0), (Value.string ⟨#[]⟩), (Value.int IntKind.i64 0), (Value.int IntKind.i64 0), (Value.string ⟨#[]⟩), (Value.int IntKind.i64 0), (Value.int IntKind.i64 0), (Value.string ⟨#[]⟩), (Value.int IntKind.i64 0), (Value.int IntKind.i64 0), (Value.string ⟨#[]⟩), (Value.int IntKind.i64 0), (Value.int IntKind.i64 0), (Value.string ⟨#[]⟩), (Value.int IntKind.i64 0), (Value.int IntKind.i64 0), (Value.string ⟨#[]⟩), (Value.int IntKind.i64 0), (Value.int IntKind.i64 0), (Value.string ⟨#[]⟩), (Value.int IntKind.i64 0), (Value.int IntKind.i64 0), (Value.string ⟨#[]⟩), (Value.int IntKind.i64 0), (Value.int IntKind.i64 0), (Value.string ⟨#[]⟩), (Value.int IntKind.i64 0), (Value.int IntKind.i64 0), (Value.string ⟨#[]⟩), (Value.int IntKind.i64 0), (Value.int IntKind.i64 0), (Value.string ⟨#[]⟩), (Value.int IntKind.i64 0), (Value.int IntKind.i64 0), (Value.string ⟨#[]⟩), (Value.int IntKind.i64 0), (Value.int IntKind.i64 0), (Value.string ⟨#[]⟩), (Value.int IntKind.i64 0), (Value.int IntKind.i64 0), (Value.string ⟨#[]⟩), (Value.int IntKind.i64 0), (Value.int IntKind.i64 0), (Value.string ⟨#[]⟩), (Value.int IntKind.i64 0), (Value.int IntKind.i64 0), (Value.string ⟨#[]⟩), (Value.int IntKind.i64 0), (Value.int IntKind.i64 0), (Value.string ⟨#[]⟩), (Value.int IntKind.i64 0), (Value.int IntKind.i64 0), (Value.string ⟨#[]⟩), (Value.int IntKind.i64 0), (Value.int IntKind.i64 0), (Value.string ⟨#[]⟩), (Value.int IntKind.i64 0), (Value.int IntKind.i64 0), (Value.string ⟨#[]⟩), (Value.int IntKind.i64 0), (Value.int IntKind.i64 0), (Value.string ⟨#[]⟩), (Value.int IntKind.i64 0), (Value.map none), (Value.int IntKind.i64 0), (Value.int IntKind.i64 0), (Value.int IntKind.i64 0), (Value.int IntKind.i64 0), (Value.int IntKind.i64 0)] [(0, 1, (.tmp 27)), (1, 1, (.tmp 30)), (194, 1, (.tmp 31))]⟩,
 ⟨(some 33), none, .box 79 (.tmp 32)⟩,
 ⟨(some 6), none, .mv (.tmp 33)⟩],
 [⟨(some 26), none, .mv (.tmp 0)⟩,
 ⟨(some 27), none, .call 23 [(.tmp 26)]⟩,
 ⟨(some 28), none, .mv (.tmp 0)⟩,
 ⟨(some 29), none, .lenL (.tmp 28)⟩,
 ⟨(some 31), none, .mkmap⟩,
 ⟨(some 30), none, .mkslice 80 1 8 [(Value.map none)] (.tmp 29) (.tmp 29)⟩,
 ⟨(some 32), none, .build [(Value.slice none 0 0), (Value.slice none 0 0), (Value.int IntKind.i64 0), (Value.string ⟨#[]⟩), (Value.int IntKind.i64 0), (Value.int IntKind.i64 0), (Value.string ⟨#[]⟩), (Value.int IntKind.i64 0), (Value.int IntKind.i64 0), (Value.string ⟨#[]⟩), (Value.int IntKind.i64 0), (Value.int IntKind.i64 0), (Value.string ⟨#[]⟩), (Value.int IntKind.i64 0), (Value.int IntKind.i64 0), (Value.string ⟨#[]⟩), (Value.int IntKind.i64 0), (Value.int IntKind.i64 0), (Value.string ⟨#[]⟩), (Value.int IntKind.i64 0), (Value.int IntKind.i64 0), (Value.string ⟨#[]⟩), (Value.int IntKind.i64 0), (Value.int IntKind.i64 0), (Value.string ⟨#[]⟩), (Value.int IntKind.i64 0), (Value.int IntKind.i64 0), (Value.string ⟨#[]⟩), (Value.int IntKind.i64 0), (Value.int IntKind.i64 0), (Value.string ⟨#[]⟩), (Value.int IntKind.i64 0), (Value.int IntKind.i64 0), (Value.string ⟨#[]⟩), (Value.int IntKind.i64 0), (Value.int IntKind.i64 0), (Value.string ⟨#[]⟩), (Value.int IntKind.i64 0), (Value.int IntKind.i64 0), (Value.string ⟨#[]⟩), (Value.int IntKind.i64 0), (Value.int IntKind.i64 0), (Value.string ⟨#[]⟩), (Value.int IntKind.i64 0), (Value.int IntKind.i64 0), (Value.string ⟨#[]⟩), (Value.int IntKind.i64 0), (Value.int IntKind.i64 0), (Value.string ⟨#[]⟩), (Value.int IntKind.i64 0), (Value.int IntKind.i64 0), (Value.string ⟨#[]⟩), (Value.int IntKind.i64 0), (Value.int IntKind.i64 0), (Value.string ⟨#[]⟩), (Value.int IntKind.i64 0), (Value.int IntKind.i64 0), (Value.string ⟨#[]⟩), (Value.int IntKind.i64 0), (Value.int IntKind.i64 0), (Value.string ⟨#[]⟩), (Value.int IntKind.i64 0), (Value.int IntKind.i64 0), (Value.string ⟨#[]⟩), (Value.int IntKind.i64 0), (Value.int IntKind.i64 0), (Value.string ⟨#[]⟩), (Value.int IntKind.i64 0), (Value.int IntKind.i64 0), (Value.string ⟨#[]⟩), (Value.int IntKind.i64 0), (Value.int IntKind.i64 0), (Value.string ⟨#[]⟩), (Value.int IntKind.i64 0), (Value.int IntKind.i64 0), (Value.string ⟨#[]⟩), (Value.int IntKind.i64 0), (Value.int IntKind.i64 0), (Value.string ⟨#[]⟩), (Value.int IntKind.i64 0), (Value.int IntKind.i64 0), (Value.string ⟨#[]⟩), (Value.int IntKind.i64 0), (Value.int IntKind.i64 0), (Value.string ⟨#[]⟩), (Value.int IntKind.i64 0), (Value.int IntKind.i64 0), (Value.string ⟨#[]⟩), (Value.int IntKind.i64 0), (Value.int IntKind.i64 0), (Value.string ⟨#[]⟩), (Value.int IntKind.i64 0), (Value.int IntKind.i64 0), (Value.string ⟨#[]⟩), (Value.int IntKind.i64 0), (Value.int IntKind.i64 0), (Value.string ⟨#[]⟩), (Value.int IntKind.i64 0), (Value.int IntKind.i64 0), (Value.string ⟨#[]⟩), (Value.int IntKind.i64 0), (Value.int IntKind.i64 0), (Value.string ⟨#[]⟩), (Value.int IntKind.i64 0), (Value.int IntKind.i64 0), (Value.string ⟨#[]⟩), (Value.int IntKind.i64 0), (Value.int IntKind.i64 0), (Value.string ⟨#[]⟩), (Value.int IntKind.i64 0), (Value.int IntKind.i64 0), (Value.string ⟨#[]⟩), (Value.int IntKind.i64 0), (Value.int IntKind.i64 0), (Value.string ⟨#[]⟩), (Value.int IntKind.i64 0), (Value.int IntKind.i64 0), (Value.string ⟨#[]⟩), (Value.int IntKind.i64 0), (Value.int IntKind.i64 0), (Value.string ⟨#[]⟩), (Value.int IntKind.i64 0), (Value.int IntKind.i64 0), (Value.string ⟨#[]⟩), (Value.int IntKind.i64 0), (Value.int IntKind.i64 0), (Value.string ⟨#[]⟩), (Value.int IntKind.i64 0), (Value.int IntKind.i64 0), (Value.string ⟨#[]⟩), (Value.int IntKind.i64 0), (Value.int IntKind.i64 0), (Value.string ⟨#[]⟩), (Value.int IntKind.i64 0), (Value.int IntKind.i64 0), (Value.string ⟨#[]⟩), (Value.int IntKind.i64 0), (Value.int IntKind.i64 0), (Value.string ⟨#[]⟩), (Value.int IntKind.i64 0), (Value.int IntKind.i64 0), (Value.string ⟨#[]⟩), (Value.int IntKind.i64 0), (Value.int IntKind.i64 0), (Value.string ⟨#[]⟩), (Value.int IntKind.i64 0), (Value.int IntKind.i64 0), (Value.string ⟨#[]⟩), (Value.int IntKind.i64 0), (Value.int IntKind.i64 0), (Value.string ⟨#[]⟩), (Value.int IntKind.i64 0), (Value.int IntKind.i64 0), (Value.string ⟨#[]⟩), (Value.int IntKind.i64 0), (Value.int IntKind.i64 0), (Value.string ⟨#[]⟩), (Value.int IntKind.i64 0), (Value.int IntKind.i64 0), (Value.string ⟨#[]⟩), (Value.int IntKind.i64 0), (Value.int IntKind.i64 0), (Value.string ⟨#[]⟩), (Value.int IntKind.i64 0), (Value.int IntKind.i64 0), (Value.string ⟨#[]⟩), (Value.int IntKind.i64 0), (Value.int IntKind.i64 0), (Value.string ⟨#[]⟩), (Value.int IntKind.i64 0), (Value.int IntKind.i64 0), (Value.string ⟨#[]⟩), (Value.int IntKind.i64 0), (Value.int IntKind.i64 0), (Value.string ⟨#[]⟩), (Value.int IntKind.i64 0), (Value.int IntKind.i64 0), (Value.string ⟨#[]⟩), (Value.int IntKind.i64 0), (Value.int IntKind.i64 0), (Value.string ⟨#[]⟩), (Value.int IntKind.i64 0), (Value.int IntKind.i64 0), (Value.string ⟨#[]⟩), (Value.int IntKind.i64 0), (Value.int IntKind.i64 0), (Value.string ⟨#[]⟩), (Value.int IntKind.i64 0), (Value.int IntKind.i64 0), (Value.string ⟨#[]⟩), (Value.int IntKind.i64 0), (Value.int IntKind.i64 0), (Value.string ⟨#[]⟩), (Value.int IntKind.i64 0), (Value.map none), (Value.int IntKind.i64 0), (Value.int IntKind.i64 0), (Value.int IntKind.i64 0), (Value.int IntKind.i64 0), (Value.int IntKind.i64 0)] [(0, 1, (.tmp 27)), (1, 1, (.tmp 30)), (194, 1, (.tmp 31))]⟩,
 ⟨(some 33), none, .box 79 (.tmp 32)⟩,
 ⟨(some 6), none, .mv (.tmp 33)⟩],
 [⟨(some 26), none, .mv (.tmp 0)⟩,
 ⟨(some 28), none, .mv (.tmp 0)⟩,
 ⟨(some 29), none, .lenL (.tmp 28)⟩,
 ⟨(some 31), none, .mkmap⟩,
 ⟨(some 27), none, .call 23 [(.tmp 26)]⟩,
 ⟨(some 30), none, .mkslice 80 1 8 [(Value.map none)] (.tmp 29) (.tmp 29)⟩,
 ⟨(some 32), none, .build [(Value.slice none 0 0), (Value.slice none 0 0), (Value.int IntKind.i64 0), (Value.string ⟨#[]⟩), (Value.int IntKind.i64 0), (Value.int IntKind.i64 0), (Value.string ⟨#[]⟩), (Value.int IntKind.i64 0), (Value.int IntKind.i64 0), (Value.string ⟨#[]⟩), (Value.int IntKind.i64 0), (Value.int IntKind.i64 0), (Value.string ⟨#[]⟩), (Value.int IntKind.i64 0), (Value.int IntKind.i64 0), (Value.string ⟨#[]⟩), (Value.int IntKind.i64 0), (Value.int IntKind.i64 0), (Value.string ⟨#[]⟩), (Value.int IntKind.i64 0), (Value.int IntKind.i64 0), (Value.string ⟨#[]⟩), (Value.int IntKind.i64 0), (Value.int IntKind.i64 0), (Value.string ⟨#[]⟩), (Value.int IntKind.i64 0), (Value.int IntKind.i64 0), (Value.string ⟨#[]⟩), (Value.int IntKind.i64 0), (Value.int IntKind.i64 0), (Value.string ⟨#[]⟩), (Value.int IntKind.i64 0), (Value.int IntKind.i64 0), (Value.string ⟨#[]⟩), (Value.int IntKind.i64 0), (Value.int IntKind.i64 0), (Value.string ⟨#[]⟩), (Value.int IntKind.i64 0), (Value.int IntKind.i64 0), (Value.string ⟨#[]⟩), (Value.int IntKind.i64 0), (Value.int IntKind.i64 0), (Value.string ⟨#[]⟩), (Value.int IntKind.i64 0), (Value.int IntKind.i64 0), (Value.string ⟨#[]⟩), (Value.int IntKind.i64 0), (Value.int IntKind.i64 0), (Value.string ⟨#[]⟩), (Value.int IntKind.i64 0), (Value.int IntKind.i64 0), (Value.string ⟨#[]⟩), (Value.int IntKind.i64 0), (Value.int IntKind.i64 0), (Value.string ⟨#[]⟩), (Value.int IntKind.i64 0), (Value.int IntKind.i64 0), (Value.string ⟨#[]⟩), (Value.int IntKind.i64 0), (Value.int IntKind.i64 0), (Value.string ⟨#[]⟩), (Value.int IntKind.i64 0), (Value.int IntKind.i64 0), (Value.string ⟨#[]⟩), (Value.int IntKind.i64 0), (Value.int IntKind.i64 0), (Value.string ⟨#[]⟩), (Value.int IntKind.i64 0), (Value.int IntKind.i64 0), (Value.string ⟨#[]⟩), (Value.int IntKind.i64 0), (Value.int IntKind.i64 0), (Value.string ⟨#[]⟩), (Value.int IntKind.i64 0), (Value.int IntKind.i64 0), (Value.string ⟨#[]⟩), (Value.int IntKind.i64 0), (Value.int IntKind.i64 0), (Value.string ⟨#[]⟩), (Value.int IntKind.i64 0), (Value.int IntKind.i64 0), (Value.string ⟨#[]⟩), (Value.int IntKind.i64 0), (Value.int IntKind.i64 0), (Value.string ⟨#[]⟩), (Value.int IntKind.i64 0), (Value.int IntKind.i64 0), (Value.string ⟨#[]⟩), (Value.int IntKind.i64 0), (Value.int IntKind.i64 0), (Value.string ⟨#[]⟩), (Value.int IntKind.i64 0), (Value.int IntKind.i64 0), (Value.string ⟨#[]⟩), (Value.int IntKind.i64 0), (Value.int IntKind.i64 0), (Value.string ⟨#[]⟩), (Value.int IntKind.i64 0), (Value.int IntKind.i64 0), (Value.string ⟨#[]⟩), (Value.int IntKind.i64 0), (Value.int IntKind.i64 0), (Value.string ⟨#[]⟩), (Value.int IntKind.i64 0), (Value.int IntKind.i64 0), (Value.string ⟨#[]⟩), (Value.int IntKind.i64 0), (Value.int IntKind.i64 0), (Value.string ⟨#[]⟩), (Value.int IntKind.i64 0), (Value.int IntKind.i64 0), (Value.string ⟨#[]⟩), (Value.int IntKind.i64 0), (Value.int IntKind.i64 0), (Value.string ⟨#[]⟩), (Value.int IntKind.i64 0), (Value.int IntKind.i64 0), (Value.string ⟨#[]⟩), (Value.int IntKind.i64 0), (Value.int IntKind.i64 0), (Value.string ⟨#[]⟩), (Value.int IntKind.i64 0), (Value.int IntKind.i64 0), (Value.string ⟨#[]⟩), (Value.int IntKind.i64 0), (Value.int IntKind.i64 0), (Value.string ⟨#[]⟩), (Value.int IntKind.i64 0), (Value.int IntKind.i64 0), (Value.string ⟨#[]⟩), (Value.int IntKind.i64 0), (Value.int IntKind.i64 0), (Value.string ⟨#[]⟩), (Value.int IntKind.i64 0), (Value.int IntKind.i64 0), (Value.string ⟨#[]⟩), (Value.int IntKind.i64 0), (Value.int IntKind.i64 0), (Value.string ⟨#[]⟩), (Value.int IntKind.i64 0), (Value.int IntKind.i64 0), (Value.string ⟨#[]⟩), (Value.int IntKind.i64 0), (Value.int IntKind.i64 0), (Value.string ⟨#[]⟩), (Value.int IntKind.i64 0), (Value.int IntKind.i64 0), (Value.string ⟨#[]⟩), (Value.int IntKind.i64 0), (Value.int IntKind.i64 0), (Value.string ⟨#[]⟩), (Value.int IntKind.i64 0), (Value.int IntKind.i64 0), (Value.string ⟨#[]⟩), (Value.int IntKind.i64 0), (Value.int IntKind.i64 0), (Value.string ⟨#[]⟩), (Value.int IntKind.i64 0), (Value.int IntKind.i64 0), (Value.string ⟨#[]⟩), (Value.int IntKind.i64 0), (Value.int IntKind.i64 0), (Value.string ⟨#[]⟩), (Value.int IntKind.i64 0), (Value.int IntKind.i64 0), (Value.string ⟨#[]⟩), (Value.int IntKind.i64 0), (Value.int IntKind.i64 0), (Value.string ⟨#[]⟩), (Value.int IntKind.i64 0), (Value.int IntKind.i64 0), (Value.string ⟨#[]⟩), (Value.int IntKind.i64 0), (Value.int IntKind.i64 0), (Value.string ⟨#[]⟩), (Value.int IntKind.i64 0), (Value.int IntKind.i64 0), (Value.string ⟨#[]⟩), (Value.int IntKind.i64 0), (Value.int IntKind.i64 0), (Value.string ⟨#[]⟩), (Value.int IntKind.i64 0), (Value.int IntKind.i64 0), (Value.string ⟨#[]⟩), (Value.int IntKind.i64 0), (Value.int IntKind.i64 0), (Value.string ⟨#[]⟩), (Value.int IntKind.i64 0), (Value.int IntKind.i64 0), (Value.string ⟨#[]⟩), (Value.int IntKind.i64 0), (Value.int IntKind.i64 0), (Value.string ⟨#[]⟩), (Value.int IntKind.i64 0), (Value.map none), (Value.int IntKind.i64 0), (Value.int IntKind.i64 0), (Value.int IntKind.i64 0), (Value.int IntKind.i64 0), (Value.int IntKind.i64 0)] [(0, 1, (.tmp 27)), (1, 1, (.tmp 30)), (194, 1, (.tmp 31))]⟩,
 ⟨(some 33), none, .box 79 (.tmp 32)⟩,
 ⟨(some 6), none, .mv (.tmp 33)⟩],
 [⟨(some 26), none, .mv (.tmp 0)⟩,
 ⟨(some 28), none, .mv (.tmp 0)⟩,
 ⟨(some 29), none, .lenL (.tmp 28)⟩,
 ⟨(some 31), none, .mkmap⟩,
 ⟨(some 30), none, .mkslice 80 1 8 [(Value.map none)] (.tmp 29) (.tmp 29)⟩,
 ⟨(some 27), none, .call 23 [(.tmp 26)]⟩,
 ⟨(some 32), none, .build [(Value.slice none 0 0), (Value.slice none 0 0), (Value.int IntKind.i64 0), (Value.string ⟨#[]⟩), (Value.int IntKind.i64 0), (Value.int IntKind.i64 0), (Value.string ⟨#[]⟩), (Value.int IntKind.i64 0), (Value.int IntKind.i64 0), (Value.string ⟨#[]⟩), (Value.int IntKind.i64 0), (Value.int IntKind.i64 0), (Value.string ⟨#[]⟩), (Value.int IntKind.i64 0), (Value.int IntKind.i64 0), (Value.string ⟨#[]⟩), (Value.int IntKind.i64 0), (Value.int IntKind.i64 0), (Value.string ⟨#[]⟩), (Value.int IntKind.i64 0), (Value.int IntKind.i64 0), (Value.string ⟨#[]⟩), (Value.int IntKind.i64 0), (Value.int IntKind.i64 0), (Value.string ⟨#[]⟩), (Value.int IntKind.i64 0), (Value.int IntKind.i64 0), (Value.string ⟨#[]⟩), (Value.int IntKind.i64 0), (Value.int IntKind.i64 0), (Value.string ⟨#[]⟩), (Value.int IntKind.i64 0), (Value.int IntKind.i64 0), (Value.string ⟨#[]⟩), (Value.int IntKind.i64 0), (Value.int IntKind.i64 0), (Value.string ⟨#[]⟩), (Value.int IntKind.i64 0), (Value.int IntKind.i64 0), (Value.string ⟨#[]⟩), (Value.int IntKind.i64 0), (Value.int IntKind.i64 0), (Value.string ⟨#[]⟩), (Value.int IntKind.i64 0), (Value.int IntKind.i64 0), (Value.string ⟨#[]⟩), (Value.int IntKind.i64 0), (Value.int IntKind.i64 0), (Value.string ⟨#[]⟩), (Value.int IntKind.i64 0), (Value.int IntKind.i64 0), (Value.string ⟨#[]⟩), (Value.int IntKind.i64 0), (Value.int IntKind.i64 0), (Value.string ⟨#[]⟩), (Value.int IntKind.i64 0), (Value.int IntKind.i64 0), (Value.string ⟨#[]⟩), (Value.int IntKind.i64 0), (Value.int IntKind.i64 0), (Value.string ⟨#[]⟩), (Value.int IntKind.i64 0), (Value.int IntKind.i64 0), (Value.string ⟨#[]⟩), (Value.int IntKind.i64 0), (Value.int IntKind.i64 0), (Value.string ⟨#[]⟩), (Value.int IntKind.i64 0), (Value.int IntKind.i64 0), (Value.string ⟨#[]⟩), (Value.int IntKind.i64 0), (Value.int IntKind.i64 0), (Value.string ⟨#[]⟩), (Value.int IntKind.i64 0), (Value.int IntKind.i64 0), (Value.string ⟨#[]⟩), (Value.int IntKind.i64 0), (Value.int IntKind.i64 0), (Value.string ⟨#[]⟩), (Value.int IntKind.i64 0), (Value.int IntKind.i64 0), (Value.string ⟨#[]⟩), (Value.int IntKind.i64 0), (Value.int IntKind.i64 0), (Value.string ⟨#[]⟩), (Value.int IntKind.i64 0), (Value.int IntKind.i64 0), (Value.string ⟨#[]⟩), (Value.int IntKind.i64 0), (Value.int IntKind.i64 0), (Value.string ⟨#[]⟩), (Value.int IntKind.i64 0), (Value.int IntKind.i64 0), (Value.string ⟨#[]⟩), (Value.int IntKind.i64 0), (Value.int IntKind.i64 0), (Value.string ⟨#[]⟩), (Value.int IntKind.i64 0), (Value.int IntKind.i64 0), (Value.string ⟨#[]⟩), (Value.int IntKind.i64 0), (Value.int IntKind.i64 0), (Value.string ⟨#[]⟩), (Value.int IntKind.i64 0), (Value.int IntKind.i64 0), (Value.string ⟨#[]⟩), (Value.int IntKind.i64 0), (Value.int IntKind.i64 0), (Value.string ⟨#[]⟩), (Value.int IntKind.i64 0), (Value.int IntKind.i64 0), (Value.string ⟨#[]⟩), (Value.int IntKind.i64 0), (Value.int IntKind.i64 0), (Value.string ⟨#[]⟩), (Value.int IntKind.i64 0), (Value.int IntKind.i64 0), (Value.string ⟨#[]⟩), (Value.int IntKind.i64 0), (Value.int IntKind.i64 0), (Value.string ⟨#[]⟩), (Value.int IntKind.i64 0), (Value.int IntKind.i64 0), (Value.string ⟨#[]⟩), (Value.int IntKind.i64 0), (Value.int IntKind.i64 0), (Value.string ⟨#[]⟩), (Value.int IntKind.i64 0), (Value.int IntKind.i64 0), (Value.string ⟨#[]⟩), (Value.int IntKind.i64 0), (Value.int IntKind.i64 0), (Value.string ⟨#[]⟩), (Value.int IntKind.i64 0), (Value.int IntKind.i64 0), (Value.string ⟨#[]⟩), (Value.int IntKind.i64 0), (Value.int IntKind.i64 0), (Value.string ⟨#[]⟩), (Value.int IntKind.i64 0), (Value.int IntKind.i64 0), (Value.string ⟨#[]⟩), (Value.int IntKind.i64 0), (Value.int IntKind.i64 0), (Value.string ⟨#[]⟩), (Value.int IntKind.i64 0), (Value.int IntKind.i64 0), (Value.string ⟨#[]⟩), (Value.int IntKind.i64 0), (Value.int IntKind.i64 0), (Value.string ⟨#[]⟩), (Value.int IntKind.i64 0), (Value.int IntKind.i64 0), (Value.string ⟨#[]⟩), (Value.int IntKind.i64 0), (Value.int IntKind.i64 0), (Value.string ⟨#[]⟩), (Value.int IntKind.i64 0), (Value.int IntKind.i64 0), (Value.string ⟨#[]⟩), (Value.int IntKind.i64 0), (Value.int IntKind.i64 0), (Value.string ⟨#[]⟩), (Value.int IntKind.i64 0), (Value.int IntKind.i64 0), (Value.string ⟨#[]⟩), (Value.int IntKind.i64 0), (Value.int IntKind.i64 0), (Value.string ⟨#[]⟩), (Value.int IntKind.i64 0), (Value.int IntKind.i64 0), (Value.string ⟨#[]⟩), (Value.int IntKind.i64 0), (Value.int IntKind.i64 0), (Value.string ⟨#[]⟩), (Value.int IntKind.i64 0), (Value.int IntKind.i64 0), (Value.string ⟨#[]⟩), (Value.int IntKind.i64 0), (Value.int IntKind.i64 0), (Value.string ⟨#[]⟩), (Value.int IntKind.i64 0), (Value.int IntKind.i64 0), (Value.string ⟨#[]⟩), (Value.int IntKind.i64 0), (Value.int IntKind.i64 0), (Value.string ⟨#[]⟩), (Value.int IntKind.i64 0), (Value.int IntKind.i64 0), (Value.string ⟨#[]⟩), (Value.int IntKind.i64 0), (Value.int IntKind.i64 0), (Value.string ⟨#[]⟩), (Value.int IntKind.i64 0), (Value.map none), (Value.int IntKind.i64 0), (Value.int IntKind.i64 0), (Value.int IntKind.i64 0), (Value.int IntKind.i64 0), (Value.int IntKind.i64 0)] [(0, 1, (.tmp 27)), (1, 1, (.tmp 30)), (194, 1, (.tmp 31))]⟩,
 ⟨(some 33), none, .box 79 (.tmp 32)⟩,
 ⟨(some 6), none, .mv (.tmp 33)⟩]] [6])
 (.seq (.seq (.reg [⟨(some 34), none, .mv (.tmp 6)⟩,
 ⟨(some 35), none, .nilck (.tmp 34)⟩,
 ⟨(some 36), none, .fld 1 (.tmp 35)⟩,
 ⟨(some 37), none, .load1 (.tmp 36)⟩,
 ⟨(some 38), none, .lenL (.tmp 37)⟩,
 ⟨(some 39), none, .mv (.const (Value.int IntKind.i64 0))⟩] [6, 38, 39])
 (.block 2
 (.loop
 (.seq (.reg [⟨(some 40), none, .bin .lss (.tmp 39) (.tmp 38)⟩] [6, 38, 39, 40])
 (.seq (.cond (.tmp 40)
 .skip
 (.exit 2))
 (.seq (.block 3
 (.seq (.reg [⟨(some 41), none, .mv (.tmp 39)⟩,
 ⟨(some 7), none, .mv (.tmp 41)⟩] [6, 7, 38, 39])
 (.reg [⟨(some 42), none, .mv (.tmp 6)⟩,
 ⟨(some 43), none, .nilck (.tmp 42)⟩,
 ⟨(some 44), none, .fld 1 (.tmp 43)⟩,
 ⟨(some 45), none, .load1 (.tmp 44)⟩,
 ⟨(some 46), none, .mv (.tmp 7)⟩,
 ⟨(some 47), none, .mkmap⟩,
 ⟨(some 48), none, .idxL 1 (.tmp 45) (.tmp 46)⟩,
 ⟨none, none, .store 1 (.tmp 48) (.tmp 47)⟩] [6, 38, 39])))
 (.reg [⟨(some 49), none, .bin .add (.tmp 39) (.const (Value.int IntKind.i64 1))⟩,
 ⟨(some 39), none, .mv (.tmp 49)⟩] [6, 38, 39])))))))
 (.seq (.reg [⟨(some 50), none, .mv (.tmp 6)⟩,
 ⟨(some 2), none, .mv (.tmp 50)⟩,
 ⟨(some 3), none, .mv (.const (Value.int IntKind.i64 0))⟩] [2, 3])
 .ret))))))⟩
theorem low8 : lowF Try.prog (assoc kp8) (assoc od8) 8 = some F8 := by kernel_rfl

/- palaver/palaverlaw22.call -/
def kp9 : List (Nat × List Nat) := [(0, [0, 3]), (1, [0, 3, 5]), (2, [0, 3, 5, 6]), (3, []), (4, [0, 3, 5, 16]), (5, []), (6, [0, 3, 5, 24]), (7, []), (8, [0, 3, 5, 32]), (9, []), (10, [0, 42]), (11, [])]
def od9 : List (Nat × List (List Nat)) := []
def F9 : FIR := ⟨46, [],
 (.seq (.reg [⟨(some 3), none, .box 30 (.tmp 1)⟩] [0, 3])
 (.seq (.reg [⟨(some 4), none, .fld 0 (.tmp 3)⟩,
 ⟨(some 5), none, .load1 (.tmp 4)⟩] [0, 3, 5])
 (.block 0
 (.seq (.reg [⟨(some 7), none, .bin .eql (.tmp 5) (.const (Value.int IntKind.i64 1))⟩,
 ⟨(some 6), none, .mv (.tmp 7)⟩] [0, 3, 5, 6])
 (.cond (.tmp 6)
 (.reg [⟨(some 8), none, .mv (.tmp 0)⟩,
 ⟨(some 9), none, .fld 1 (.tmp 3)⟩,
 ⟨(some 10), none, .load1 (.tmp 9)⟩,
 ⟨(some 11), none, .fld 2 (.tmp 3)⟩,
 ⟨(some 12), none, .load1 (.tmp 11)⟩,
 ⟨(some 13), none, .fld 3 (.tmp 3)⟩,
 ⟨(some 14), none, .load1 (.tmp 13)⟩,
 ⟨(some 15), none, .call 21 [(.tmp 8), (.tmp 10), (.tmp 12), (.tmp 14)]⟩] [])
 (.seq (.reg [⟨(some 17), none, .bin .eql (.tmp 5) (.const (Value.int IntKind.i64 2))⟩,
 ⟨(some 16), none, .mv (.tmp 17)⟩] [0, 3, 5, 16])
 (.cond (.tmp 16)
 (.reg [⟨(some 18), none, .mv (.tmp 0)⟩,
 ⟨(some 19), none, .fld 1 (.tmp 3)⟩,
 ⟨(some 20), none, .load1 (.tmp 19)⟩,
 ⟨(some 21), none, .fld 2 (.tmp 3)⟩,
 ⟨(some 22), none, .load1 (.tmp 21)⟩,
 ⟨(some 23), none, .call 22 [(.tmp 18), (.tmp 20), (.tmp 22)]⟩] [])
 (.seq (.reg [⟨(some 25), none, .bin .eql (.tmp 5) (.const (Value.int IntKind.i64 5))⟩,
 ⟨(some 24), none, .mv (.tmp 25)⟩] [0, 3, 5, 24])
 (.cond (.tmp 24)
 (.reg [⟨(some 26), none, .mv (.tmp 0)⟩,
 ⟨(some 27), none, .fld 1 (.tmp 3)⟩,
 ⟨(some 28), none, .load1 (.tmp 27)⟩,
 ⟨(some 29), none, .fld 2 (.tmp 3)⟩,
 ⟨(some 30), none, .load1 (.tmp 29)⟩,
 ⟨(some 31), none, .call 13 [(.tmp 26), (.tmp 28), (.tmp 30)]⟩] [])
 (.seq (.reg [⟨(some 33), none, .bin .eql (.tmp 5) (.const (Value.int IntKind.i64 6))⟩,
 ⟨(some 32), none, .mv (.tmp 33)⟩] [0, 3, 5, 32])
 (.cond (.tmp 32)
 (.reg [⟨(some 34), none, .mv (.tmp 0)⟩,
 ⟨(some 35), none, .fld 4 (.tmp 3)⟩,
 ⟨(some 36), none, .load1 (.tmp 35)⟩,
 ⟨(some 37), none, .fld 1 (.tmp 3)⟩,
 ⟨(some 38), none, .load1 (.tmp 37)⟩,
 ⟨(some 39), none, .fld 2 (.tmp 3)⟩,
 ⟨(some 40), none, .load1 (.tmp 39)⟩,
 ⟨(some 41), none, .call 10 [(.tmp 34), (.tmp 36), (.tmp 38), (.tmp 40)]⟩] [])
 (.seq (.reg [⟨(some 43), none, .bin .eql (.tmp 5) (.const (Value.int IntKind.i64 7))⟩,
 ⟨(some 42), none, .mv (.tmp 43)⟩] [0, 42])
 (.cond (.tmp 42)
 (.reg [⟨(some 44), none, .mv (.tmp 0)⟩,
 ⟨(some 45), none, .call 24 [(.tmp 44)]⟩] [])
 .skip)))))))))))))⟩
theorem low9 : lowF Try.prog (assoc kp9) (assoc od9) 9 = some F9 := by kernel_rfl

/- palaver/palaverlaw22.works -/
def kp7 : List (Nat × List Nat) := [(0, [25, 26, 64, 65, 68, 71, 72, 73, 76, 77, 80, 81, 84, 87, 88, 91, 92, 97, 98, 101, 102]), (1, [1, 2, 25, 26, 64, 65, 68, 71, 72, 73, 76, 77, 80, 81, 84, 87, 88, 91, 92, 97, 98, 101, 102]), (2, [1, 27, 64, 65, 68, 71, 72, 73, 76, 77, 80, 81, 84, 87, 88, 91, 92, 97, 98, 101, 102]), (3, [0]), (4, [1, 3, 64, 65, 68, 71, 72, 73, 76, 77, 80, 81, 84, 87, 88, 91, 92, 97, 98, 101, 102]), (5, [1, 3, 4, 5, 64, 65, 68, 71, 72, 73, 76, 77, 80, 81, 84, 87, 88, 91, 92, 97, 98, 101, 102]), (6, [1, 3, 4, 5, 64, 65, 68, 71, 72, 73, 76, 77, 80, 81, 84, 87, 88, 91, 92, 97, 98, 101, 102]), (7, [1, 3, 4, 5, 6, 64, 65, 68, 71, 72, 73, 76, 77, 80, 81, 84, 87, 88, 91, 92, 97, 98, 101, 102]), (8, [1, 3, 4, 5, 6, 7, 64, 65, 68, 71, 72, 73, 76, 77, 80, 81, 84, 87, 88, 91, 92, 97, 98, 101, 102]), (9, [1, 3, 4, 5, 6, 7, 8, 9, 64, 65, 68, 71, 72, 73, 76, 77, 80, 81, 84, 87, 88, 91, 92, 97, 98, 101, 102]), (10, [1, 3, 4, 5, 6, 7, 8, 9, 11, 64, 65, 68, 71, 72, 73, 76, 77, 80, 81, 84, 87, 88, 91, 92, 97, 98, 101, 102]), (11, [1, 3, 4, 5, 6, 7, 8, 9, 11, 14, 64, 65, 68, 71, 72, 73, 76, 77, 80, 81, 84, 87, 88, 91, 92, 97, 98, 101, 102]), (12, [1, 3, 4, 5, 6, 7, 8, 9, 11, 14, 15, 64, 65, 68, 71, 72, 73, 76, 77, 80, 81, 84, 87, 88, 91, 92, 97, 98, 101, 102]), (13, [3, 4, 5, 6, 7, 8, 9, 11, 14, 15, 16, 64, 65, 68, 71, 72, 73, 76, 77, 80, 81, 84, 87, 88, 91, 92, 97, 98, 101, 102]), (14, [0])]
def od7 : List (Nat × List (List Nat)) := []
def F7 : FIR := ⟨114, [.tmp 0],
 (.seq (.reg [⟨(some 0), none, .mv (.const (Value.bool false))⟩] [25, 26, 64, 65, 68, 71, 72, 73, 76, 77, 80, 81, 84, 87, 88, 91, 92, 97, 98, 101, 102])
 (.seq (.reg [⟨(some 18), none, .bslice 3 3 [(Value.int IntKind.i64 0)] [(0, 1, (.const (Value.int IntKind.i64 (-1)))), (1, 1, (.const (Value.int IntKind.i64 0))), (2, 1, (.const (Value.int IntKind.i64 1)))]⟩,
 ⟨(some 19), none, .call 8 [(.tmp 18)]⟩,
 ⟨(some 17), none, .mv (.tmp 19)⟩,
 ⟨(some 20), none, .ext (.tmp 17) 0⟩,
 ⟨(some 21), none, .ext (.tmp 17) 1⟩,
 ⟨(some 1), none, .mv (.tmp 20)⟩,
 ⟨(some 2), none, .mv (.tmp 21)⟩] [1, 2, 25, 26, 64, 65, 68, 71, 72, 73, 76, 77, 80, 81, 84, 87, 88, 91, 92, 97, 98, 101, 102])
 (.seq (.seq (.reg [⟨(some 22), none, .mv (.tmp 1)⟩,
 ⟨(some 23), none, .eqnil false .ptr (.tmp 22)⟩,
 ⟨(some 24), none, .mv (.tmp 23)⟩,
 ⟨(some 25), (some (24, false)), .mv (.tmp 2)⟩,
 ⟨(some 26), (some (24, false)), .bin .neq (.tmp 25) (.const (Value.int IntKind.i64 0))⟩,
 ⟨(some 27), none, .pick (.tmp 24) (.const (Value.bool true)) (.tmp 26)⟩] [1, 27, 64, 65, 68, 71, 72, 73, 76, 77, 80, 81, 84, 87, 88, 91, 92, 97, 98, 101, 102])
 (.cond (.tmp 27)
 (.seq (.reg [⟨(some 0), none, .mv (.const (Value.bool false))⟩] [0])
 .ret)
 .skip))
 (.seq (.reg [⟨(some 28), none, .mv (.tmp 1)⟩,
 ⟨(some 29), none, .call 21 [(.tmp 28), (.const (Value.int IntKind.i64 0)), (.const (Value.string ⟨#[102, 111, 111]⟩)), (.const (Value.int IntKind.i64 7))]⟩,
 ⟨(some 3), none, .mv (.tmp 29)⟩] [1, 3, 64, 65, 68, 71, 72, 73, 76, 77, 80, 81, 84, 87, 88, 91, 92, 97, 98, 101, 102])
 (.seq (.reg [⟨(some 31), none, .mv (.tmp 1)⟩,
 ⟨(some 32), none, .call 13 [(.tmp 31), (.const (Value.int IntKind.i64 2)), (.const (Value.string ⟨#[102, 111, 111]⟩))]⟩,
 ⟨(some 30), none, .mv (.tmp 32)⟩,
 ⟨(some 33), none, .ext (.tmp 30) 0⟩,
 ⟨(some 34), none, .ext (.tmp 30) 1⟩,
 ⟨(some 4), none, .mv (.tmp 33)⟩,
 ⟨(some 5), none, .mv (.tmp 34)⟩] [1, 3, 4, 5, 64, 65, 68, 71, 72, 73, 76, 77, 80, 81, 84, 87, 88, 91, 92, 97, 98, 101, 102])
 (.seq (.reg [⟨(some 35), none, .mv (.tmp 1)⟩,
 ⟨(some 36), none, .call 13 [(.tmp 35), (.const (Value.int IntKind.i64 2)), (.const (Value.string ⟨#[102, 111, 111]⟩))]⟩] [1, 3, 4, 5, 64, 65, 68, 71, 72, 73, 76, 77, 80, 81, 84, 87, 88, 91, 92, 97, 98, 101, 102])
 (.seq (.reg [⟨(some 37), none, .mv (.tmp 1)⟩,
 ⟨(some 38), none, .call 11 [(.tmp 37)]⟩,
 ⟨(some 6), none, .alloc 36 [(Value.int IntKind.i64 0), (Value.int IntKind.i64 0), (Value.int IntKind.i64 0), (Value.int IntKind.i64 0), (Value.int IntKind.i64 0)]⟩,
 ⟨none, none, .store 5 (.tmp 6) (.tmp 38)⟩] [1, 3, 4, 5, 6, 64, 65, 68, 71, 72, 73, 76, 77, 80, 81, 84, 87, 88, 91, 92, 97, 98, 101, 102])
 (.seq (.reg [⟨(some 39), none, .mv (.tmp 1)⟩,
 ⟨(some 40), none, .call 21 [(.tmp 39), (.const (Value.int IntKind.i64 1)), (.const (Value.string ⟨#[102, 111, 111]⟩)), (.const (Value.int IntKind.i64 8))]⟩,
 ⟨(some 7), none, .mv (.tmp 40)⟩] [1, 3, 4, 5, 6, 7, 64, 65, 68, 71, 72, 73, 76, 77, 80, 81, 84, 87, 88, 91, 92, 97, 98, 101, 102])
 (.seq (.reg [⟨(some 42), none, .mv (.tmp 1)⟩,
 ⟨(some 43), none, .call 13 [(.tmp 42), (.const (Value.int IntKind.i64 2)), (.const (Value.string ⟨#[102, 111, 111]⟩))]⟩,
 ⟨(some 41), none, .mv (.tmp 43)⟩,
 ⟨(some 44), none, .ext (.tmp 41) 0⟩,
 ⟨(some 45), none, .ext (.tmp 41) 1⟩,
 ⟨(some 8), none, .mv (.tmp 44)⟩,
 ⟨(some 9), none, .mv (.tmp 45)⟩] [1, 3, 4, 5, 6, 7, 8, 9, 64, 65, 68, 71, 72, 73, 76, 77, 80, 81, 84, 87, 88, 91, 92, 97, 98, 101, 102])
 (.seq (.reg [⟨(some 47), none, .bslice 3 1 [(Value.int IntKind.i64 0)] [(0, 1, (.const (Value.int IntKind.i64 0)))]⟩,
 ⟨(some 48), none, .call 8 [(.tmp 47)]⟩,
 ⟨(some 46), none, .mv (.tmp 48)⟩,
 ⟨(some 49), none, .ext (.tmp 46) 0⟩,
 ⟨(some 50), none, .ext (.tmp 46) 1⟩,
 ⟨(some 10), none, .mv (.tmp 49)⟩,
 ⟨(some 11), none, .mv (.tmp 50)⟩] [1, 3, 4, 5, 6, 7, 8, 9, 11, 64, 65, 68, 71, 72, 73, 76, 77, 80, 81, 84, 87, 88, 91, 92, 97, 98, 101, 102])
 (.seq (.reg [⟨(some 52), none, .mv (.tmp 1)⟩,
 ⟨(some 53), none, .call 10 [(.tmp 52), (.const (Value.int IntKind.i64 (-1))), (.const (Value.int IntKind.i64 0)), (.const (Value.string ⟨#[102, 111, 111]⟩))]⟩,
 ⟨(some 51), none, .mv (.tmp 53)⟩,
 ⟨(some 54), none, .ext (.tmp 51) 0⟩,
 ⟨(some 55), none, .ext (.tmp 51) 1⟩,
 ⟨(some 56), none, .ext (.tmp 51) 2⟩,
 ⟨(some 12), none, .mv (.tmp 54)⟩,
 ⟨(some 13), none, .mv (.tmp 55)⟩,
 ⟨(some 14), none, .mv (.tmp 56)⟩] [1, 3, 4, 5, 6, 7, 8, 9, 11, 14, 64, 65, 68, 71, 72, 73, 76, 77, 80, 81, 84, 87, 88, 91, 92, 97, 98, 101, 102])
 (.seq (.reg [⟨(some 57), none, .mv (.tmp 1)⟩,
 ⟨(some 58), none, .call 22 [(.tmp 57), (.const (Value.int IntKind.i64 2)), (.const (Value.string ⟨#[102, 111, 111]⟩))]⟩,
 ⟨(some 15), none, .mv (.tmp 58)⟩] [1, 3, 4, 5, 6, 7, 8, 9, 11, 14, 15, 64, 65, 68, 71, 72, 73, 76, 77, 80, 81, 84, 87, 88, 91, 92, 97, 98, 101, 102])
 (.seq (.reg [⟨(some 59), none, .mv (.tmp 1)⟩,
 ⟨(some 60), none, .call 21 [(.tmp 59), (.const (Value.int IntKind.i64 0)), (.const (Value.string ⟨#[]⟩)), (.const (Value.int IntKind.i64 1))]⟩,
 ⟨(some 16), none, .mv (.tmp 60)⟩] [3, 4, 5, 6, 7, 8, 9, 11, 14, 15, 16, 64, 65, 68, 71, 72, 73, 76, 77, 80, 81, 84, 87, 88, 91, 92, 97, 98, 101, 102])
 (.seq (.reg [⟨(some 61), none, .mv (.tmp 3)⟩,
 ⟨(some 62), none, .bin .eql (.tmp 61) (.const (Value.int IntKind.i64 0))⟩,
 ⟨(some 63), none, .mv (.tmp 62)⟩,
 ⟨(some 64), (some (63, true)), .mv (.tmp 4)⟩,
 ⟨(some 65), (some (63, true)), .bin .eql (.tmp 64) (.const (Value.int IntKind.i64 7))⟩,
 ⟨(some 66), none, .pick (.tmp 63) (.tmp 65) (.const (Value.bool false))⟩,
 ⟨(some 67), none, .mv (.tmp 66)⟩,
 ⟨(some 68), (some (67, true)), .mv (.tmp 5)⟩,
 ⟨(some 69), none, .pick (.tmp 67) (.tmp 68) (.const (Value.bool false))⟩,
 ⟨(some 70), none, .mv (.tmp 69)⟩,
 ⟨(some 71), (some (70, true)), .loadN 5 (.tmp 6)⟩,
 ⟨(some 72), (some (70, true)), .build [(Value.int IntKind.i64 0), (Value.int IntKind.i64 0), (Value.int IntKind.i64 0), (Value.int IntKind.i64 0), (Value.int IntKind.i64 0)] [(0, 1, (.const (Value.int IntKind.i64 2))), (2, 1, (.const (Value.int IntKind.i64 1))), (3, 1, (.const (Value.int IntKind.i64 1))), (4, 1, (.const (Value.int IntKind.i64 3)))]⟩,
 ⟨(some 73), (some (70, true)), .eqagg false [.int, .int, .int, .int, .int] (.tmp 71) (.tmp 72)⟩,
 ⟨(some 74), none, .pick (.tmp 70) (.tmp 73) (.const (Value.bool false))⟩,
 ⟨(some 75), none, .mv (.tmp 74)⟩,
 ⟨(some 76), (some (75, true)), .mv (.tmp 7)⟩,
 ⟨(some 77), (some (75, true)), .bin .eql (.tmp 76) (.const (Value.int IntKind.i64 0))⟩,
 ⟨(some 78), none, .pick (.tmp 75) (.tmp 77) (.const (Value.bool false))⟩,
 ⟨(some 79), none, .mv (.tmp 78)⟩,
 ⟨(some 80), (some (79, true)), .mv (.tmp 8)⟩,
 ⟨(some 81), (some (79, true)), .bin .eql (.tmp 80) (.const (Value.int IntKind.i64 8))⟩,
 ⟨(some 82), none, .pick (.tmp 79) (.tmp 81) (.const (Value.bool false))⟩,
 ⟨(some 83), none, .mv (.tmp 82)⟩,
 ⟨(some 84), (some (83, true)), .mv (.tmp 9)⟩,
 ⟨(some 85), none, .pick (.tmp 83) (.tmp 84) (.const (Value.bool false))⟩,
 ⟨(some 86), none, .mv (.tmp 85)⟩,
 ⟨(some 87), (some (86, true)), .mv (.tmp 11)⟩,
 ⟨(some 88), (some (86, true)), .bin .eql (.tmp 87) (.const (Value.int IntKind.i64 220))⟩,
 ⟨(some 89), none, .pick (.tmp 86) (.tmp 88) (.const (Value.bool false))⟩,
 ⟨(some 90), none, .mv (.tmp 89)⟩,
 ⟨(some 91), (some (90, true)), .mv (.tmp 16)⟩,
 ⟨(some 92), (some (90, true)), .bin .eql (.tmp 91) (.const (Value.int IntKind.i64 221))⟩,
 ⟨(some 93), none, .pick (.tmp 90) (.tmp 92) (.const (Value.bool false))⟩,
 ⟨(some 94), none, .mv (.tmp 93)⟩,
 ⟨(some 95), none, .pick (.tmp 94) (.const (Value.bool true)) (.const (Value.bool false))⟩,
 ⟨(some 96), none, .mv (.tmp 95)⟩,
 ⟨(some 97), (some (96, true)), .mv (.tmp 15)⟩,
 ⟨(some 98), (some (96, true)), .bin .eql (.tmp 97) (.const (Value.int IntKind.i64 223))⟩,
 ⟨(some 99), none, .pick (.tmp 96) (.tmp 98) (.const (Value.bool false))⟩,
 ⟨(some 100), none, .mv (.tmp 99)⟩,
 ⟨(some 101), (some (100, true)), .mv (.tmp 14)⟩,
 ⟨(some 102), (some (100, true)), .bin .eql (.tmp 101) (.const (Value.int IntKind.i64 224))⟩,
 ⟨(some 103), none, .pick (.tmp 100) (.tmp 102) (.const (Value.bool false))⟩,
 ⟨(some 104), none, .mv (.tmp 103)⟩,
 ⟨(some 105), none, .pick (.tmp 104) (.const (Value.bool true)) (.const (Value.bool false))⟩,
 ⟨(some 106), none, .mv (.tmp 105)⟩,
 ⟨(some 107), none, .pick (.tmp 106) (.const (Value.bool true)) (.const (Value.bool false))⟩,
 ⟨(some 108), none, .mv (.tmp 107)⟩,
 ⟨(some 109), none, .pick (.tmp 108) (.const (Value.bool true)) (.const (Value.bool false))⟩,
 ⟨(some 110), none, .mv (.tmp 109)⟩,
 ⟨(some 111), none, .pick (.tmp 110) (.const (Value.bool true)) (.const (Value.bool false))⟩,
 ⟨(some 112), none, .mv (.tmp 111)⟩,
 ⟨(some 113), none, .pick (.tmp 112) (.const (Value.bool true)) (.const (Value.bool false))⟩,
 ⟨(some 0), none, .mv (.tmp 113)⟩] [0])
 .ret))))))))))))))⟩
theorem low7 : lowF Try.prog (assoc kp7) (assoc od7) 7 = some F7 := by kernel_rfl

/- palaver/palaverlaw22.plain -/
def kp12 : List (Nat × List Nat) := [(0, [0, 1, 2, 3, 15, 16, 17, 18]), (1, [0, 1, 2, 3, 15, 16, 17, 18, 19]), (2, [0, 1, 2, 3, 10, 11, 15, 16, 17, 18]), (3, [0, 1, 2, 3, 10, 15, 16, 17, 18, 27]), (4, [8, 9]), (5, [0, 1, 2, 3, 15, 16, 17, 18]), (6, [8, 9])]
def od12 : List (Nat × List (List Nat)) := []
def F12 : FIR := ⟨33, [.tmp 8, .tmp 9],
 (.seq (.reg [⟨(some 8), none, .mv (.const (Value.int IntKind.i64 0))⟩,
 ⟨(some 9), none, .mv (.const (Value.bool false))⟩] [0, 1, 2, 3, 15, 16, 17, 18])
 (.seq (.block 0
 (.loop
 (.seq (.seq (.reg [⟨(some 12), none, .mv (.tmp 2)⟩,
 ⟨(some 13), none, .bin .geq (.tmp 12) (.const (Value.int IntKind.i64 0))⟩,
 ⟨(some 14), none, .mv (.tmp 13)⟩,
 ⟨(some 15), (some (14, true)), .mv (.tmp 2)⟩,
 ⟨(some 16), (some (14, true)), .mv (.tmp 1)⟩,
 ⟨(some 17), (some (14, true)), .lenL (.tmp 16)⟩,
 ⟨(some 18), (some (14, true)), .bin .lss (.tmp 15) (.tmp 17)⟩,
 ⟨(some 19), none, .pick (.tmp 14) (.tmp 18) (.const (Value.bool false))⟩] [0, 1, 2, 3, 15, 16, 17, 18, 19])
 (.cond (.tmp 19)
 .skip
 (.exit 0)))
 (.block 1
 (.seq (.reg [⟨(some 21), none, .mv (.tmp 0)⟩,
 ⟨(some 22), none, .mv (.tmp 2)⟩,
 ⟨(some 23), none, .mv (.tmp 3)⟩,
 ⟨(some 24), none, .call 14 [(.tmp 21), (.tmp 22), (.tmp 23)]⟩,
 ⟨(some 20), none, .mv (.tmp 24)⟩,
 ⟨(some 25), none, .ext (.tmp 20) 0⟩,
 ⟨(some 26), none, .ext (.tmp 20) 1⟩,
 ⟨(some 10), none, .mv (.tmp 25)⟩,
 ⟨(some 11), none, .mv (.tmp 26)⟩] [0, 1, 2, 3, 10, 11, 15, 16, 17, 18])
 (.seq (.seq (.reg [⟨(some 27), none, .mv (.tmp 11)⟩] [0, 1, 2, 3, 10, 15, 16, 17, 18, 27])
 (.cond (.tmp 27)
 (.seq (.reg [⟨(some 28), none, .mv (.tmp 10)⟩,
 ⟨(some 8), none, .mv (.tmp 28)⟩,
 ⟨(some 9), none, .mv (.const (Value.bool true))⟩] [8, 9])
 .ret)
 .skip))
 (.reg [⟨(some 29), none, .mv (.tmp 1)⟩,
 ⟨(some 30), none, .mv (.tmp 2)⟩,
 ⟨(some 31), none, .idxL 1 (.tmp 29) (.tmp 30)⟩,
 ⟨(some 32), none, .load1 (.tmp 31)⟩,
 ⟨(some 2), none, .mv (.tmp 32)⟩] [0, 1, 2, 3, 15, 16, 17, 18])))))))
 (.seq (.reg [⟨(some 8), none, .mv (.const (Value.int IntKind.i64 0))⟩,
 ⟨(some 9), none, .mv (.const (Value.bool false))⟩] [8, 9])
 .ret)))⟩
theorem low12 : lowF Try.prog (assoc kp12) (assoc od12) 12 = some F12 := by kernel_rfl

end Go.Proofs.Ytffmipimgodfdaa

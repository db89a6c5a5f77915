/-
 The code of functions, as terms: printed by a program, proved to be what the seat has.
-/
import Derived.Test.YtffmipimgodfdaaVS
import Derived.KernelRfl
import Derived.Test.YtffmipimgodfdaaProg
set_option linter.unusedSimpArgs false
set_option linter.unusedVariables false
namespace Go.Proofs.Ytffmipimgodfdaa
open Go Go.V
set_option maxRecDepth 100000
/- cmp.isNaN[string] -/
def kp87 : List (Nat × List Nat) := [(0, [0]), (1, [2])]
def od87 : List (Nat × List (List Nat)) := []
def F87 : FIR := ⟨6, [.tmp 2],
 (.seq (.reg [⟨(some 2), none, .mv (.const (Value.bool false))⟩] [0])
 (.seq (.reg [⟨(some 3), none, .mv (.tmp 0)⟩,
 ⟨(some 4), none, .mv (.tmp 0)⟩,
 ⟨(some 5), none, .bin .neq (.tmp 3) (.tmp 4)⟩,
 ⟨(some 2), none, .mv (.tmp 5)⟩] [2])
 .ret))⟩
theorem low87 : lowF Try.prog (assoc kp87) (assoc od87) 87 = some F87 := by kernel_rfl

/- cmp.Less[string] -/
def kp77 : List (Nat × List Nat) := [(0, [0, 1, 8, 9, 10, 13, 14, 15]), (1, [4])]
def od77 : List (Nat × List (List Nat)) := []
def F77 : FIR := ⟨17, [.tmp 4],
 (.seq (.reg [⟨(some 4), none, .mv (.const (Value.bool false))⟩] [0, 1, 8, 9, 10, 13, 14, 15])
 (.seq (.reg [⟨(some 5), none, .mv (.tmp 0)⟩,
 ⟨(some 6), none, .call 87 [(.tmp 5)]⟩,
 ⟨(some 7), none, .mv (.tmp 6)⟩,
 ⟨(some 8), (some (7, true)), .mv (.tmp 1)⟩,
 ⟨(some 9), (some (7, true)), .call 87 [(.tmp 8)]⟩,
 ⟨(some 10), (some (7, true)), .un .not (.tmp 9)⟩,
 ⟨(some 11), none, .pick (.tmp 7) (.tmp 10) (.const (Value.bool false))⟩,
 ⟨(some 12), none, .mv (.tmp 11)⟩,
 ⟨(some 13), (some (12, false)), .mv (.tmp 0)⟩,
 ⟨(some 14), (some (12, false)), .mv (.tmp 1)⟩,
 ⟨(some 15), (some (12, false)), .bin .lss (.tmp 13) (.tmp 14)⟩,
 ⟨(some 16), none, .pick (.tmp 12) (.const (Value.bool true)) (.tmp 15)⟩,
 ⟨(some 4), none, .mv (.tmp 16)⟩] [4])
 .ret))⟩
theorem low77 : lowF Try.prog (assoc kp77) (assoc od77) 77 = some F77 := by kernel_rfl

/- slices.insertionSortOrdered[string] -/
def kp71 : List (Nat × List Nat) := [(0, [0, 1, 2, 6, 20, 21, 22, 23, 24, 25, 26, 27, 28, 29]), (1, [0, 1, 2, 6, 12, 20, 21, 22, 23, 24, 25, 26, 27, 28, 29]), (2, [0, 1, 2, 6, 20, 21, 22, 23, 24, 25, 26, 27, 28, 29]), (3, [0, 1, 2, 6, 7, 20, 21, 22, 23, 24, 25, 26, 27, 28, 29]), (4, [0, 1, 2, 6, 7, 20, 21, 22, 23, 24, 25, 26, 27, 28, 29, 30]), (5, [0, 1, 2, 6, 7, 20, 21, 22, 23, 24, 25, 26, 27, 28, 29]), (6, [0, 1, 2, 6, 7, 20, 21, 22, 23, 24, 25, 26, 27, 28, 29])]
def od71 : List (Nat × List (List Nat)) := [(4, [[0, 1, 2, 3, 4, 5, 6, 7, 8, 9, 10, 11, 12, 13, 14]]), (6, [[0, 1, 2, 3, 4, 5, 6, 7, 8, 9, 10, 11, 12, 13, 14, 15, 16, 17]])]
def F71 : FIR := ⟨49, [],
 (.seq (.reg [⟨(some 8), none, .mv (.tmp 1)⟩,
 ⟨(some 9), none, .bin .add (.tmp 8) (.const (Value.int IntKind.i64 1))⟩,
 ⟨(some 6), none, .mv (.tmp 9)⟩] [0, 1, 2, 6, 20, 21, 22, 23, 24, 25, 26, 27, 28, 29])
 (.block 0
 (.loop
 (.seq (.seq (.reg [⟨(some 10), none, .mv (.tmp 6)⟩,
 ⟨(some 11), none, .mv (.tmp 2)⟩,
 ⟨(some 12), none, .bin .lss (.tmp 10) (.tmp 11)⟩] [0, 1, 2, 6, 12, 20, 21, 22, 23, 24, 25, 26, 27, 28, 29])
 (.cond (.tmp 12)
 .skip
 (.exit 0)))
 (.seq (.block 1
 (.seq (.reg [⟨(some 15), none, .mv (.tmp 6)⟩,
 ⟨(some 7), none, .mv (.tmp 15)⟩] [0, 1, 2, 6, 7, 20, 21, 22, 23, 24, 25, 26, 27, 28, 29])
 (.block 2
 (.loop
 (.seq (.seq (.draw [[⟨(some 16), none, .mv (.tmp 7)⟩,
 ⟨(some 17), none, .mv (.tmp 1)⟩,
 ⟨(some 18), none, .bin .gtr (.tmp 16) (.tmp 17)⟩,
 ⟨(some 19), none, .mv (.tmp 18)⟩,
 ⟨(some 20), (some (19, true)), .mv (.tmp 0)⟩,
 ⟨(some 21), (some (19, true)), .mv (.tmp 7)⟩,
 ⟨(some 22), (some (19, true)), .idxL 1 (.tmp 20) (.tmp 21)⟩,
 ⟨(some 23), (some (19, true)), .load1 (.tmp 22)⟩,
 ⟨(some 24), (some (19, true)), .mv (.tmp 0)⟩,
 ⟨(some 25), (some (19, true)), .mv (.tmp 7)⟩,
 ⟨(some 26), (some (19, true)), .bin .sub (.tmp 25) (.const (Value.int IntKind.i64 1))⟩,
 ⟨(some 27), (some (19, true)), .idxL 1 (.tmp 24) (.tmp 26)⟩,
 ⟨(some 28), (some (19, true)), .load1 (.tmp 27)⟩,
 ⟨(some 29), (some (19, true)), .call 77 [(.tmp 23), (.tmp 28)]⟩,
 ⟨(some 30), none, .pick (.tmp 19) (.tmp 29) (.const (Value.bool false))⟩]] [0, 1, 2, 6, 7, 20, 21, 22, 23, 24, 25, 26, 27, 28, 29, 30])
 (.cond (.tmp 30)
 .skip
 (.exit 2)))
 (.seq (.block 3
 (.draw [[⟨(some 33), none, .mv (.tmp 0)⟩,
 ⟨(some 34), none, .mv (.tmp 7)⟩,
 ⟨(some 35), none, .mv (.tmp 0)⟩,
 ⟨(some 36), none, .mv (.tmp 7)⟩,
 ⟨(some 37), none, .bin .sub (.tmp 36) (.const (Value.int IntKind.i64 1))⟩,
 ⟨(some 38), none, .mv (.tmp 0)⟩,
 ⟨(some 39), none, .mv (.tmp 7)⟩,
 ⟨(some 40), none, .bin .sub (.tmp 39) (.const (Value.int IntKind.i64 1))⟩,
 ⟨(some 41), none, .idxL 1 (.tmp 38) (.tmp 40)⟩,
 ⟨(some 42), none, .load1 (.tmp 41)⟩,
 ⟨(some 43), none, .mv (.tmp 0)⟩,
 ⟨(some 44), none, .mv (.tmp 7)⟩,
 ⟨(some 45), none, .idxL 1 (.tmp 43) (.tmp 44)⟩,
 ⟨(some 46), none, .load1 (.tmp 45)⟩,
 ⟨(some 47), none, .idxL 1 (.tmp 33) (.tmp 34)⟩,
 ⟨none, none, .store 1 (.tmp 47) (.tmp 42)⟩,
 ⟨(some 48), none, .idxL 1 (.tmp 35) (.tmp 37)⟩,
 ⟨none, none, .store 1 (.tmp 48) (.tmp 46)⟩]] [0, 1, 2, 6, 7, 20, 21, 22, 23, 24, 25, 26, 27, 28, 29]))
 (.reg [⟨(some 31), none, .mv (.tmp 7)⟩,
 ⟨(some 32), none, .bin .sub (.tmp 31) (.const (Value.int IntKind.i64 1))⟩,
 ⟨(some 7), none, .mv (.tmp 32)⟩] [0, 1, 2, 6, 7, 20, 21, 22, 23, 24, 25, 26, 27, 28, 29])))))))
 (.reg [⟨(some 13), none, .mv (.tmp 6)⟩,
 ⟨(some 14), none, .bin .add (.tmp 13) (.const (Value.int IntKind.i64 1))⟩,
 ⟨(some 6), none, .mv (.tmp 14)⟩] [0, 1, 2, 6, 20, 21, 22, 23, 24, 25, 26, 27, 28, 29]))))))⟩
theorem low71 : lowF Try.prog (assoc kp71) (assoc od71) 71 = some F71 := by kernel_rfl

/- slices.siftDownOrdered[string] -/
def kp82 : List (Nat × List Nat) := [(0, [0, 2, 3, 8, 22, 23, 24, 25, 26, 27, 28, 29, 30, 31, 32, 33, 34, 35]), (1, [0, 2, 3, 8, 9, 22, 23, 24, 25, 26, 27, 28, 29, 30, 31, 32, 33, 34, 35]), (2, [0, 2, 3, 8, 9, 16, 22, 23, 24, 25, 26, 27, 28, 29, 30, 31, 32, 33, 34, 35]), (3, [0, 2, 3, 8, 9, 22, 23, 24, 25, 26, 27, 28, 29, 30, 31, 32, 33, 34, 35, 36]), (4, [0, 2, 3, 8, 9, 22, 23, 24, 25, 26, 27, 28, 29, 30, 31, 32, 33, 34, 35]), (5, [0, 2, 3, 8, 9, 22, 23, 24, 25, 26, 27, 28, 29, 30, 31, 32, 33, 34, 35, 52]), (6, [0, 2, 3, 9, 22, 23, 24, 25, 26, 27, 28, 29, 30, 31, 32, 33, 34, 35]), (7, [0, 2, 3, 8, 22, 23, 24, 25, 26, 27, 28, 29, 30, 31, 32, 33, 34, 35])]
def od82 : List (Nat × List (List Nat)) := [(3, [[0, 1, 2, 3, 4, 5, 6, 7, 8, 9, 10, 11, 12, 13, 14, 15, 16, 17, 18, 19]]), (5, [[0, 1, 2, 3, 4, 5, 6, 7, 8, 9, 10, 11, 12, 13]]), (6, [[0, 1, 2, 3, 4, 5, 6, 7, 8, 9, 10, 11, 12, 13, 14, 15, 16, 17, 18, 19, 20, 21, 22, 23]])]
def F82 : FIR := ⟨76, [],
 (.seq (.reg [⟨(some 10), none, .mv (.tmp 1)⟩,
 ⟨(some 8), none, .mv (.tmp 10)⟩] [0, 2, 3, 8, 22, 23, 24, 25, 26, 27, 28, 29, 30, 31, 32, 33, 34, 35])
 (.block 0
 (.loop
 (.block 1
 (.seq (.reg [⟨(some 11), none, .mv (.tmp 8)⟩,
 ⟨(some 12), none, .bin .mul (.const (Value.int IntKind.i64 2)) (.tmp 11)⟩,
 ⟨(some 13), none, .bin .add (.tmp 12) (.const (Value.int IntKind.i64 1))⟩,
 ⟨(some 9), none, .mv (.tmp 13)⟩] [0, 2, 3, 8, 9, 22, 23, 24, 25, 26, 27, 28, 29, 30, 31, 32, 33, 34, 35])
 (.seq (.seq (.reg [⟨(some 14), none, .mv (.tmp 9)⟩,
 ⟨(some 15), none, .mv (.tmp 2)⟩,
 ⟨(some 16), none, .bin .geq (.tmp 14) (.tmp 15)⟩] [0, 2, 3, 8, 9, 16, 22, 23, 24, 25, 26, 27, 28, 29, 30, 31, 32, 33, 34, 35])
 (.cond (.tmp 16)
 (.exit 0)
 .skip))
 (.seq (.seq (.draw [[⟨(some 17), none, .mv (.tmp 9)⟩,
 ⟨(some 18), none, .bin .add (.tmp 17) (.const (Value.int IntKind.i64 1))⟩,
 ⟨(some 19), none, .mv (.tmp 2)⟩,
 ⟨(some 20), none, .bin .lss (.tmp 18) (.tmp 19)⟩,
 ⟨(some 21), none, .mv (.tmp 20)⟩,
 ⟨(some 22), (some (21, true)), .mv (.tmp 0)⟩,
 ⟨(some 23), (some (21, true)), .mv (.tmp 3)⟩,
 ⟨(some 24), (some (21, true)), .mv (.tmp 9)⟩,
 ⟨(some 25), (some (21, true)), .bin .add (.tmp 23) (.tmp 24)⟩,
 ⟨(some 26), (some (21, true)), .idxL 1 (.tmp 22) (.tmp 25)⟩,
 ⟨(some 27), (some (21, true)), .load1 (.tmp 26)⟩,
 ⟨(some 28), (some (21, true)), .mv (.tmp 0)⟩,
 ⟨(some 29), (some (21, true)), .mv (.tmp 3)⟩,
 ⟨(some 30), (some (21, true)), .mv (.tmp 9)⟩,
 ⟨(some 31), (some (21, true)), .bin .add (.tmp 29) (.tmp 30)⟩,
 ⟨(some 32), (some (21, true)), .bin .add (.tmp 31) (.const (Value.int IntKind.i64 1))⟩,
 ⟨(some 33), (some (21, true)), .idxL 1 (.tmp 28) (.tmp 32)⟩,
 ⟨(some 34), (some (21, true)), .load1 (.tmp 33)⟩,
 ⟨(some 35), (some (21, true)), .call 77 [(.tmp 27), (.tmp 34)]⟩,
 ⟨(some 36), none, .pick (.tmp 21) (.tmp 35) (.const (Value.bool false))⟩]] [0, 2, 3, 8, 9, 22, 23, 24, 25, 26, 27, 28, 29, 30, 31, 32, 33, 34, 35, 36])
 (.cond (.tmp 36)
 (.reg [⟨(some 37), none, .mv (.tmp 9)⟩,
 ⟨(some 38), none, .bin .add (.tmp 37) (.const (Value.int IntKind.i64 1))⟩,
 ⟨(some 9), none, .mv (.tmp 38)⟩] [0, 2, 3, 8, 9, 22, 23, 24, 25, 26, 27, 28, 29, 30, 31, 32, 33, 34, 35])
 .skip))
 (.seq (.seq (.draw [[⟨(some 39), none, .mv (.tmp 0)⟩,
 ⟨(some 40), none, .mv (.tmp 3)⟩,
 ⟨(some 41), none, .mv (.tmp 8)⟩,
 ⟨(some 42), none, .bin .add (.tmp 40) (.tmp 41)⟩,
 ⟨(some 43), none, .idxL 1 (.tmp 39) (.tmp 42)⟩,
 ⟨(some 44), none, .load1 (.tmp 43)⟩,
 ⟨(some 45), none, .mv (.tmp 0)⟩,
 ⟨(some 46), none, .mv (.tmp 3)⟩,
 ⟨(some 47), none, .mv (.tmp 9)⟩,
 ⟨(some 48), none, .bin .add (.tmp 46) (.tmp 47)⟩,
 ⟨(some 49), none, .idxL 1 (.tmp 45) (.tmp 48)⟩,
 ⟨(some 50), none, .load1 (.tmp 49)⟩,
 ⟨(some 51), none, .call 77 [(.tmp 44), (.tmp 50)]⟩,
 ⟨(some 52), none, .un .not (.tmp 51)⟩]] [0, 2, 3, 8, 9, 22, 23, 24, 25, 26, 27, 28, 29, 30, 31, 32, 33, 34, 35, 52])
 (.cond (.tmp 52)
 .ret
 .skip))
 (.seq (.draw [[⟨(some 53), none, .mv (.tmp 0)⟩,
 ⟨(some 54), none, .mv (.tmp 3)⟩,
 ⟨(some 55), none, .mv (.tmp 8)⟩,
 ⟨(some 56), none, .bin .add (.tmp 54) (.tmp 55)⟩,
 ⟨(some 57), none, .mv (.tmp 0)⟩,
 ⟨(some 58), none, .mv (.tmp 3)⟩,
 ⟨(some 59), none, .mv (.tmp 9)⟩,
 ⟨(some 60), none, .bin .add (.tmp 58) (.tmp 59)⟩,
 ⟨(some 61), none, .mv (.tmp 0)⟩,
 ⟨(some 62), none, .mv (.tmp 3)⟩,
 ⟨(some 63), none, .mv (.tmp 9)⟩,
 ⟨(some 64), none, .bin .add (.tmp 62) (.tmp 63)⟩,
 ⟨(some 65), none, .idxL 1 (.tmp 61) (.tmp 64)⟩,
 ⟨(some 66), none, .load1 (.tmp 65)⟩,
 ⟨(some 67), none, .mv (.tmp 0)⟩,
 ⟨(some 68), none, .mv (.tmp 3)⟩,
 ⟨(some 69), none, .mv (.tmp 8)⟩,
 ⟨(some 70), none, .bin .add (.tmp 68) (.tmp 69)⟩,
 ⟨(some 71), none, .idxL 1 (.tmp 67) (.tmp 70)⟩,
 ⟨(some 72), none, .load1 (.tmp 71)⟩,
 ⟨(some 73), none, .idxL 1 (.tmp 53) (.tmp 56)⟩,
 ⟨none, none, .store 1 (.tmp 73) (.tmp 66)⟩,
 ⟨(some 74), none, .idxL 1 (.tmp 57) (.tmp 60)⟩,
 ⟨none, none, .store 1 (.tmp 74) (.tmp 72)⟩]] [0, 2, 3, 9, 22, 23, 24, 25, 26, 27, 28, 29, 30, 31, 32, 33, 34, 35])
 (.reg [⟨(some 75), none, .mv (.tmp 9)⟩,
 ⟨(some 8), none, .mv (.tmp 75)⟩] [0, 2, 3, 8, 22, 23, 24, 25, 26, 27, 28, 29, 30, 31, 32, 33, 34, 35]))))))))))⟩
theorem low82 : lowF Try.prog (assoc kp82) (assoc od82) 82 = some F82 := by kernel_rfl

/- slices.heapSortOrdered[string] -/
def kp72 : List (Nat × List Nat) := [(0, [0, 1, 2, 6]), (1, [0, 1, 2, 6, 7]), (2, [0, 6, 7, 8]), (3, [0, 6, 7, 8, 9]), (4, [0, 6, 7, 8, 9, 19]), (5, [0, 6, 7, 8, 9]), (6, [0, 6, 7, 8, 9]), (7, [0, 6, 7, 10]), (8, [0, 6, 7, 10, 30]), (9, [0, 6, 7, 10]), (10, [0, 6, 7, 10]), (11, [0, 6, 7, 10])]
def od72 : List (Nat × List (List Nat)) := [(10, [[0, 1, 2, 3, 4, 5, 6, 7, 8, 9, 10, 11, 12, 13, 14, 15, 16, 17, 18, 19]])]
def F72 : FIR := ⟨56, [],
 (.seq (.reg [⟨(some 11), none, .mv (.tmp 1)⟩,
 ⟨(some 6), none, .mv (.tmp 11)⟩] [0, 1, 2, 6])
 (.seq (.reg [⟨(some 7), none, .mv (.const (Value.int IntKind.i64 0))⟩] [0, 1, 2, 6, 7])
 (.seq (.reg [⟨(some 12), none, .mv (.tmp 2)⟩,
 ⟨(some 13), none, .mv (.tmp 1)⟩,
 ⟨(some 14), none, .bin .sub (.tmp 12) (.tmp 13)⟩,
 ⟨(some 8), none, .mv (.tmp 14)⟩] [0, 6, 7, 8])
 (.seq (.seq (.reg [⟨(some 15), none, .mv (.tmp 8)⟩,
 ⟨(some 16), none, .bin .sub (.tmp 15) (.const (Value.int IntKind.i64 1))⟩,
 ⟨(some 17), none, .bin .quo (.tmp 16) (.const (Value.int IntKind.i64 2))⟩,
 ⟨(some 9), none, .mv (.tmp 17)⟩] [0, 6, 7, 8, 9])
 (.block 0
 (.loop
 (.seq (.seq (.reg [⟨(some 18), none, .mv (.tmp 9)⟩,
 ⟨(some 19), none, .bin .geq (.tmp 18) (.const (Value.int IntKind.i64 0))⟩] [0, 6, 7, 8, 9, 19])
 (.cond (.tmp 19)
 .skip
 (.exit 0)))
 (.seq (.block 1
 (.reg [⟨(some 22), none, .mv (.tmp 0)⟩,
 ⟨(some 23), none, .mv (.tmp 9)⟩,
 ⟨(some 24), none, .mv (.tmp 8)⟩,
 ⟨(some 25), none, .mv (.tmp 6)⟩,
 ⟨(some 26), none, .call 82 [(.tmp 22), (.tmp 23), (.tmp 24), (.tmp 25)]⟩] [0, 6, 7, 8, 9]))
 (.reg [⟨(some 20), none, .mv (.tmp 9)⟩,
 ⟨(some 21), none, .bin .sub (.tmp 20) (.const (Value.int IntKind.i64 1))⟩,
 ⟨(some 9), none, .mv (.tmp 21)⟩] [0, 6, 7, 8, 9]))))))
 (.seq (.reg [⟨(some 27), none, .mv (.tmp 8)⟩,
 ⟨(some 28), none, .bin .sub (.tmp 27) (.const (Value.int IntKind.i64 1))⟩,
 ⟨(some 10), none, .mv (.tmp 28)⟩] [0, 6, 7, 10])
 (.block 2
 (.loop
 (.seq (.seq (.reg [⟨(some 29), none, .mv (.tmp 10)⟩,
 ⟨(some 30), none, .bin .geq (.tmp 29) (.const (Value.int IntKind.i64 0))⟩] [0, 6, 7, 10, 30])
 (.cond (.tmp 30)
 .skip
 (.exit 2)))
 (.seq (.block 3
 (.seq (.draw [[⟨(some 33), none, .mv (.tmp 0)⟩,
 ⟨(some 34), none, .mv (.tmp 6)⟩,
 ⟨(some 35), none, .mv (.tmp 0)⟩,
 ⟨(some 36), none, .mv (.tmp 6)⟩,
 ⟨(some 37), none, .mv (.tmp 10)⟩,
 ⟨(some 38), none, .bin .add (.tmp 36) (.tmp 37)⟩,
 ⟨(some 39), none, .mv (.tmp 0)⟩,
 ⟨(some 40), none, .mv (.tmp 6)⟩,
 ⟨(some 41), none, .mv (.tmp 10)⟩,
 ⟨(some 42), none, .bin .add (.tmp 40) (.tmp 41)⟩,
 ⟨(some 43), none, .idxL 1 (.tmp 39) (.tmp 42)⟩,
 ⟨(some 44), none, .load1 (.tmp 43)⟩,
 ⟨(some 45), none, .mv (.tmp 0)⟩,
 ⟨(some 46), none, .mv (.tmp 6)⟩,
 ⟨(some 47), none, .idxL 1 (.tmp 45) (.tmp 46)⟩,
 ⟨(some 48), none, .load1 (.tmp 47)⟩,
 ⟨(some 49), none, .idxL 1 (.tmp 33) (.tmp 34)⟩,
 ⟨none, none, .store 1 (.tmp 49) (.tmp 44)⟩,
 ⟨(some 50), none, .idxL 1 (.tmp 35) (.tmp 38)⟩,
 ⟨none, none, .store 1 (.tmp 50) (.tmp 48)⟩]] [0, 6, 7, 10])
 (.reg [⟨(some 51), none, .mv (.tmp 0)⟩,
 ⟨(some 52), none, .mv (.tmp 7)⟩,
 ⟨(some 53), none, .mv (.tmp 10)⟩,
 ⟨(some 54), none, .mv (.tmp 6)⟩,
 ⟨(some 55), none, .call 82 [(.tmp 51), (.tmp 52), (.tmp 53), (.tmp 54)]⟩] [0, 6, 7, 10])))
 (.reg [⟨(some 31), none, .mv (.tmp 10)⟩,
 ⟨(some 32), none, .bin .sub (.tmp 31) (.const (Value.int IntKind.i64 1))⟩,
 ⟨(some 10), none, .mv (.tmp 32)⟩] [0, 6, 7, 10]))))))))))⟩
theorem low72 : lowF Try.prog (assoc kp72) (assoc od72) 72 = some F72 := by kernel_rfl

/- slices.reverseRangeOrdered[string] -/
def kp75 : List (Nat × List Nat) := [(0, [0, 2, 6]), (1, [0, 6, 7]), (2, [0, 6, 7, 13]), (3, [0, 6, 7]), (4, [0, 6, 7]), (5, [0, 6, 7])]
def od75 : List (Nat × List (List Nat)) := [(3, [[0, 1, 2, 3, 4, 5, 6, 7, 8, 9, 10, 11, 12, 13, 14, 15]])]
def F75 : FIR := ⟨32, [],
 (.seq (.reg [⟨(some 8), none, .mv (.tmp 1)⟩,
 ⟨(some 6), none, .mv (.tmp 8)⟩] [0, 2, 6])
 (.seq (.reg [⟨(some 9), none, .mv (.tmp 2)⟩,
 ⟨(some 10), none, .bin .sub (.tmp 9) (.const (Value.int IntKind.i64 1))⟩,
 ⟨(some 7), none, .mv (.tmp 10)⟩] [0, 6, 7])
 (.block 0
 (.loop
 (.seq (.seq (.reg [⟨(some 11), none, .mv (.tmp 6)⟩,
 ⟨(some 12), none, .mv (.tmp 7)⟩,
 ⟨(some 13), none, .bin .lss (.tmp 11) (.tmp 12)⟩] [0, 6, 7, 13])
 (.cond (.tmp 13)
 .skip
 (.exit 0)))
 (.block 1
 (.seq (.draw [[⟨(some 14), none, .mv (.tmp 0)⟩,
 ⟨(some 15), none, .mv (.tmp 6)⟩,
 ⟨(some 16), none, .mv (.tmp 0)⟩,
 ⟨(some 17), none, .mv (.tmp 7)⟩,
 ⟨(some 18), none, .mv (.tmp 0)⟩,
 ⟨(some 19), none, .mv (.tmp 7)⟩,
 ⟨(some 20), none, .idxL 1 (.tmp 18) (.tmp 19)⟩,
 ⟨(some 21), none, .load1 (.tmp 20)⟩,
 ⟨(some 22), none, .mv (.tmp 0)⟩,
 ⟨(some 23), none, .mv (.tmp 6)⟩,
 ⟨(some 24), none, .idxL 1 (.tmp 22) (.tmp 23)⟩,
 ⟨(some 25), none, .load1 (.tmp 24)⟩,
 ⟨(some 26), none, .idxL 1 (.tmp 14) (.tmp 15)⟩,
 ⟨none, none, .store 1 (.tmp 26) (.tmp 21)⟩,
 ⟨(some 27), none, .idxL 1 (.tmp 16) (.tmp 17)⟩,
 ⟨none, none, .store 1 (.tmp 27) (.tmp 25)⟩]] [0, 6, 7])
 (.seq (.reg [⟨(some 28), none, .mv (.tmp 6)⟩,
 ⟨(some 29), none, .bin .add (.tmp 28) (.const (Value.int IntKind.i64 1))⟩,
 ⟨(some 6), none, .mv (.tmp 29)⟩] [0, 6, 7])
 (.reg [⟨(some 30), none, .mv (.tmp 7)⟩,
 ⟨(some 31), none, .bin .sub (.tmp 30) (.const (Value.int IntKind.i64 1))⟩,
 ⟨(some 7), none, .mv (.tmp 31)⟩] [0, 6, 7])))))))))⟩
theorem low75 : lowF Try.prog (assoc kp75) (assoc od75) 75 = some F75 := by kernel_rfl

/- slices.partitionOrdered[string] -/
def kp79 : List (Nat × List Nat) := [(0, [0, 1, 2, 3, 34, 35, 36, 37, 38, 39, 40, 41, 42, 50, 51, 52, 53, 54, 55, 56, 57, 58, 59, 103, 104, 105, 106, 107, 108, 109, 110, 111, 119, 120, 121, 122, 123, 124, 125, 126, 127, 128]), (1, [0, 1, 2, 34, 35, 36, 37, 38, 39, 40, 41, 42, 50, 51, 52, 53, 54, 55, 56, 57, 58, 59, 103, 104, 105, 106, 107, 108, 109, 110, 111, 119, 120, 121, 122, 123, 124, 125, 126, 127, 128]), (2, [0, 1, 10, 11, 34, 35, 36, 37, 38, 39, 40, 41, 42, 50, 51, 52, 53, 54, 55, 56, 57, 58, 59, 103, 104, 105, 106, 107, 108, 109, 110, 111, 119, 120, 121, 122, 123, 124, 125, 126, 127, 128]), (3, [0, 1, 10, 11, 34, 35, 36, 37, 38, 39, 40, 41, 42, 43, 50, 51, 52, 53, 54, 55, 56, 57, 58, 59, 103, 104, 105, 106, 107, 108, 109, 110, 111, 119, 120, 121, 122, 123, 124, 125, 126, 127, 128]), (4, [0, 1, 10, 11, 34, 35, 36, 37, 38, 39, 40, 41, 42, 50, 51, 52, 53, 54, 55, 56, 57, 58, 59, 103, 104, 105, 106, 107, 108, 109, 110, 111, 119, 120, 121, 122, 123, 124, 125, 126, 127, 128]), (5, [0, 1, 10, 11, 50, 51, 52, 53, 54, 55, 56, 57, 58, 59, 60, 103, 104, 105, 106, 107, 108, 109, 110, 111, 119, 120, 121, 122, 123, 124, 125, 126, 127, 128]), (6, [0, 1, 10, 11, 50, 51, 52, 53, 54, 55, 56, 57, 58, 59, 103, 104, 105, 106, 107, 108, 109, 110, 111, 119, 120, 121, 122, 123, 124, 125, 126, 127, 128]), (7, [0, 1, 10, 11, 65, 103, 104, 105, 106, 107, 108, 109, 110, 111, 119, 120, 121, 122, 123, 124, 125, 126, 127, 128]), (8, [11]), (9, [8, 9]), (10, [0, 1, 10, 11, 103, 104, 105, 106, 107, 108, 109, 110, 111, 119, 120, 121, 122, 123, 124, 125, 126, 127, 128]), (11, [0, 1, 10, 11, 103, 104, 105, 106, 107, 108, 109, 110, 111, 119, 120, 121, 122, 123, 124, 125, 126, 127, 128]), (12, [0, 1, 10, 11, 103, 104, 105, 106, 107, 108, 109, 110, 111, 119, 120, 121, 122, 123, 124, 125, 126, 127, 128]), (13, [0, 1, 10, 11, 103, 104, 105, 106, 107, 108, 109, 110, 111, 112, 119, 120, 121, 122, 123, 124, 125, 126, 127, 128]), (14, [0, 1, 10, 11, 103, 104, 105, 106, 107, 108, 109, 110, 111, 119, 120, 121, 122, 123, 124, 125, 126, 127, 128]), (15, [0, 1, 10, 11, 103, 104, 105, 106, 107, 108, 109, 110, 111, 119, 120, 121, 122, 123, 124, 125, 126, 127, 128, 129]), (16, [0, 1, 10, 11, 103, 104, 105, 106, 107, 108, 109, 110, 111, 119, 120, 121, 122, 123, 124, 125, 126, 127, 128]), (17, [0, 1, 10, 11, 103, 104, 105, 106, 107, 108, 109, 110, 111, 119, 120, 121, 122, 123, 124, 125, 126, 127, 128, 134]), (18, [0, 1, 10, 11, 103, 104, 105, 106, 107, 108, 109, 110, 111, 119, 120, 121, 122, 123, 124, 125, 126, 127, 128]), (19, [0, 1, 10, 11, 103, 104, 105, 106, 107, 108, 109, 110, 111, 119, 120, 121, 122, 123, 124, 125, 126, 127, 128]), (20, [0, 1, 10, 11, 103, 104, 105, 106, 107, 108, 109, 110, 111, 119, 120, 121, 122, 123, 124, 125, 126, 127, 128]), (21, [11]), (22, [8, 9])]
def od79 : List (Nat × List (List Nat)) := [(1, [[0, 1, 2, 3, 4, 5, 6, 7, 8, 9, 10, 11, 12, 13, 14, 15]]), (3, [[0, 1, 2, 3, 4, 5, 6, 7, 8, 9, 10, 11, 12, 13]]), (5, [[0, 1, 2, 3, 4, 5, 6, 7, 8, 9, 10, 11, 12, 13, 14]]), (8, [[0, 1, 2, 3, 4, 5, 6, 7, 8, 9, 10, 11, 12, 13, 14, 15]]), (10, [[0, 1, 2, 3, 4, 5, 6, 7, 8, 9, 10, 11, 12, 13, 14, 15]]), (13, [[0, 1, 2, 3, 4, 5, 6, 7, 8, 9, 10, 11, 12, 13]]), (15, [[0, 1, 2, 3, 4, 5, 6, 7, 8, 9, 10, 11, 12, 13, 14]]), (18, [[0, 1, 2, 3, 4, 5, 6, 7, 8, 9, 10, 11, 12, 13, 14, 15]]), (21, [[0, 1, 2, 3, 4, 5, 6, 7, 8, 9, 10, 11, 12, 13, 14, 15]])]
def F79 : FIR := ⟨168, [.tmp 8, .tmp 9],
 (.seq (.reg [⟨(some 8), none, .mv (.const (Value.int IntKind.i64 0))⟩,
 ⟨(some 9), none, .mv (.const (Value.bool false))⟩] [0, 1, 2, 3, 34, 35, 36, 37, 38, 39, 40, 41, 42, 50, 51, 52, 53, 54, 55, 56, 57, 58, 59, 103, 104, 105, 106, 107, 108, 109, 110, 111, 119, 120, 121, 122, 123, 124, 125, 126, 127, 128])
 (.seq (.draw [[⟨(some 12), none, .mv (.tmp 0)⟩,
 ⟨(some 13), none, .mv (.tmp 1)⟩,
 ⟨(some 14), none, .mv (.tmp 0)⟩,
 ⟨(some 15), none, .mv (.tmp 3)⟩,
 ⟨(some 16), none, .mv (.tmp 0)⟩,
 ⟨(some 17), none, .mv (.tmp 3)⟩,
 ⟨(some 18), none, .idxL 1 (.tmp 16) (.tmp 17)⟩,
 ⟨(some 19), none, .load1 (.tmp 18)⟩,
 ⟨(some 20), none, .mv (.tmp 0)⟩,
 ⟨(some 21), none, .mv (.tmp 1)⟩,
 ⟨(some 22), none, .idxL 1 (.tmp 20) (.tmp 21)⟩,
 ⟨(some 23), none, .load1 (.tmp 22)⟩,
 ⟨(some 24), none, .idxL 1 (.tmp 12) (.tmp 13)⟩,
 ⟨none, none, .store 1 (.tmp 24) (.tmp 19)⟩,
 ⟨(some 25), none, .idxL 1 (.tmp 14) (.tmp 15)⟩,
 ⟨none, none, .store 1 (.tmp 25) (.tmp 23)⟩]] [0, 1, 2, 34, 35, 36, 37, 38, 39, 40, 41, 42, 50, 51, 52, 53, 54, 55, 56, 57, 58, 59, 103, 104, 105, 106, 107, 108, 109, 110, 111, 119, 120, 121, 122, 123, 124, 125, 126, 127, 128])
 (.seq (.reg [⟨(some 26), none, .mv (.tmp 1)⟩,
 ⟨(some 27), none, .bin .add (.tmp 26) (.const (Value.int IntKind.i64 1))⟩,
 ⟨(some 28), none, .mv (.tmp 2)⟩,
 ⟨(some 29), none, .bin .sub (.tmp 28) (.const (Value.int IntKind.i64 1))⟩,
 ⟨(some 10), none, .mv (.tmp 27)⟩,
 ⟨(some 11), none, .mv (.tmp 29)⟩] [0, 1, 10, 11, 34, 35, 36, 37, 38, 39, 40, 41, 42, 50, 51, 52, 53, 54, 55, 56, 57, 58, 59, 103, 104, 105, 106, 107, 108, 109, 110, 111, 119, 120, 121, 122, 123, 124, 125, 126, 127, 128])
 (.seq (.block 0
 (.loop
 (.seq (.seq (.draw [[⟨(some 30), none, .mv (.tmp 10)⟩,
 ⟨(some 31), none, .mv (.tmp 11)⟩,
 ⟨(some 32), none, .bin .leq (.tmp 30) (.tmp 31)⟩,
 ⟨(some 33), none, .mv (.tmp 32)⟩,
 ⟨(some 34), (some (33, true)), .mv (.tmp 0)⟩,
 ⟨(some 35), (some (33, true)), .mv (.tmp 10)⟩,
 ⟨(some 36), (some (33, true)), .idxL 1 (.tmp 34) (.tmp 35)⟩,
 ⟨(some 37), (some (33, true)), .load1 (.tmp 36)⟩,
 ⟨(some 38), (some (33, true)), .mv (.tmp 0)⟩,
 ⟨(some 39), (some (33, true)), .mv (.tmp 1)⟩,
 ⟨(some 40), (some (33, true)), .idxL 1 (.tmp 38) (.tmp 39)⟩,
 ⟨(some 41), (some (33, true)), .load1 (.tmp 40)⟩,
 ⟨(some 42), (some (33, true)), .call 77 [(.tmp 37), (.tmp 41)]⟩,
 ⟨(some 43), none, .pick (.tmp 33) (.tmp 42) (.const (Value.bool false))⟩]] [0, 1, 10, 11, 34, 35, 36, 37, 38, 39, 40, 41, 42, 43, 50, 51, 52, 53, 54, 55, 56, 57, 58, 59, 103, 104, 105, 106, 107, 108, 109, 110, 111, 119, 120, 121, 122, 123, 124, 125, 126, 127, 128])
 (.cond (.tmp 43)
 .skip
 (.exit 0)))
 (.block 1
 (.reg [⟨(some 44), none, .mv (.tmp 10)⟩,
 ⟨(some 45), none, .bin .add (.tmp 44) (.const (Value.int IntKind.i64 1))⟩,
 ⟨(some 10), none, .mv (.tmp 45)⟩] [0, 1, 10, 11, 34, 35, 36, 37, 38, 39, 40, 41, 42, 50, 51, 52, 53, 54, 55, 56, 57, 58, 59, 103, 104, 105, 106, 107, 108, 109, 110, 111, 119, 120, 121, 122, 123, 124, 125, 126, 127, 128])))))
 (.seq (.block 2
 (.loop
 (.seq (.seq (.draw [[⟨(some 46), none, .mv (.tmp 10)⟩,
 ⟨(some 47), none, .mv (.tmp 11)⟩,
 ⟨(some 48), none, .bin .leq (.tmp 46) (.tmp 47)⟩,
 ⟨(some 49), none, .mv (.tmp 48)⟩,
 ⟨(some 50), (some (49, true)), .mv (.tmp 0)⟩,
 ⟨(some 51), (some (49, true)), .mv (.tmp 11)⟩,
 ⟨(some 52), (some (49, true)), .idxL 1 (.tmp 50) (.tmp 51)⟩,
 ⟨(some 53), (some (49, true)), .load1 (.tmp 52)⟩,
 ⟨(some 54), (some (49, true)), .mv (.tmp 0)⟩,
 ⟨(some 55), (some (49, true)), .mv (.tmp 1)⟩,
 ⟨(some 56), (some (49, true)), .idxL 1 (.tmp 54) (.tmp 55)⟩,
 ⟨(some 57), (some (49, true)), .load1 (.tmp 56)⟩,
 ⟨(some 58), (some (49, true)), .call 77 [(.tmp 53), (.tmp 57)]⟩,
 ⟨(some 59), (some (49, true)), .un .not (.tmp 58)⟩,
 ⟨(some 60), none, .pick (.tmp 49) (.tmp 59) (.const (Value.bool false))⟩]] [0, 1, 10, 11, 50, 51, 52, 53, 54, 55, 56, 57, 58, 59, 60, 103, 104, 105, 106, 107, 108, 109, 110, 111, 119, 120, 121, 122, 123, 124, 125, 126, 127, 128])
 (.cond (.tmp 60)
 .skip
 (.exit 2)))
 (.block 3
 (.reg [⟨(some 61), none, .mv (.tmp 11)⟩,
 ⟨(some 62), none, .bin .sub (.tmp 61) (.const (Value.int IntKind.i64 1))⟩,
 ⟨(some 11), none, .mv (.tmp 62)⟩] [0, 1, 10, 11, 50, 51, 52, 53, 54, 55, 56, 57, 58, 59, 103, 104, 105, 106, 107, 108, 109, 110, 111, 119, 120, 121, 122, 123, 124, 125, 126, 127, 128])))))
 (.seq (.seq (.reg [⟨(some 63), none, .mv (.tmp 10)⟩,
 ⟨(some 64), none, .mv (.tmp 11)⟩,
 ⟨(some 65), none, .bin .gtr (.tmp 63) (.tmp 64)⟩] [0, 1, 10, 11, 65, 103, 104, 105, 106, 107, 108, 109, 110, 111, 119, 120, 121, 122, 123, 124, 125, 126, 127, 128])
 (.cond (.tmp 65)
 (.seq (.draw [[⟨(some 66), none, .mv (.tmp 0)⟩,
 ⟨(some 67), none, .mv (.tmp 11)⟩,
 ⟨(some 68), none, .mv (.tmp 0)⟩,
 ⟨(some 69), none, .mv (.tmp 1)⟩,
 ⟨(some 70), none, .mv (.tmp 0)⟩,
 ⟨(some 71), none, .mv (.tmp 1)⟩,
 ⟨(some 72), none, .idxL 1 (.tmp 70) (.tmp 71)⟩,
 ⟨(some 73), none, .load1 (.tmp 72)⟩,
 ⟨(some 74), none, .mv (.tmp 0)⟩,
 ⟨(some 75), none, .mv (.tmp 11)⟩,
 ⟨(some 76), none, .idxL 1 (.tmp 74) (.tmp 75)⟩,
 ⟨(some 77), none, .load1 (.tmp 76)⟩,
 ⟨(some 78), none, .idxL 1 (.tmp 66) (.tmp 67)⟩,
 ⟨none, none, .store 1 (.tmp 78) (.tmp 73)⟩,
 ⟨(some 79), none, .idxL 1 (.tmp 68) (.tmp 69)⟩,
 ⟨none, none, .store 1 (.tmp 79) (.tmp 77)⟩]] [11])
 (.seq (.reg [⟨(some 80), none, .mv (.tmp 11)⟩,
 ⟨(some 8), none, .mv (.tmp 80)⟩,
 ⟨(some 9), none, .mv (.const (Value.bool true))⟩] [8, 9])
 .ret))
 .skip))
 (.seq (.draw [[⟨(some 81), none, .mv (.tmp 0)⟩,
 ⟨(some 82), none, .mv (.tmp 10)⟩,
 ⟨(some 83), none, .mv (.tmp 0)⟩,
 ⟨(some 84), none, .mv (.tmp 11)⟩,
 ⟨(some 85), none, .mv (.tmp 0)⟩,
 ⟨(some 86), none, .mv (.tmp 11)⟩,
 ⟨(some 87), none, .idxL 1 (.tmp 85) (.tmp 86)⟩,
 ⟨(some 88), none, .load1 (.tmp 87)⟩,
 ⟨(some 89), none, .mv (.tmp 0)⟩,
 ⟨(some 90), none, .mv (.tmp 10)⟩,
 ⟨(some 91), none, .idxL 1 (.tmp 89) (.tmp 90)⟩,
 ⟨(some 92), none, .load1 (.tmp 91)⟩,
 ⟨(some 93), none, .idxL 1 (.tmp 81) (.tmp 82)⟩,
 ⟨none, none, .store 1 (.tmp 93) (.tmp 88)⟩,
 ⟨(some 94), none, .idxL 1 (.tmp 83) (.tmp 84)⟩,
 ⟨none, none, .store 1 (.tmp 94) (.tmp 92)⟩]] [0, 1, 10, 11, 103, 104, 105, 106, 107, 108, 109, 110, 111, 119, 120, 121, 122, 123, 124, 125, 126, 127, 128])
 (.seq (.reg [⟨(some 95), none, .mv (.tmp 10)⟩,
 ⟨(some 96), none, .bin .add (.tmp 95) (.const (Value.int IntKind.i64 1))⟩,
 ⟨(some 10), none, .mv (.tmp 96)⟩] [0, 1, 10, 11, 103, 104, 105, 106, 107, 108, 109, 110, 111, 119, 120, 121, 122, 123, 124, 125, 126, 127, 128])
 (.seq (.reg [⟨(some 97), none, .mv (.tmp 11)⟩,
 ⟨(some 98), none, .bin .sub (.tmp 97) (.const (Value.int IntKind.i64 1))⟩,
 ⟨(some 11), none, .mv (.tmp 98)⟩] [0, 1, 10, 11, 103, 104, 105, 106, 107, 108, 109, 110, 111, 119, 120, 121, 122, 123, 124, 125, 126, 127, 128])
 (.seq (.block 4
 (.loop
 (.block 5
 (.seq (.block 6
 (.loop
 (.seq (.seq (.draw [[⟨(some 99), none, .mv (.tmp 10)⟩,
 ⟨(some 100), none, .mv (.tmp 11)⟩,
 ⟨(some 101), none, .bin .leq (.tmp 99) (.tmp 100)⟩,
 ⟨(some 102), none, .mv (.tmp 101)⟩,
 ⟨(some 103), (some (102, true)), .mv (.tmp 0)⟩,
 ⟨(some 104), (some (102, true)), .mv (.tmp 10)⟩,
 ⟨(some 105), (some (102, true)), .idxL 1 (.tmp 103) (.tmp 104)⟩,
 ⟨(some 106), (some (102, true)), .load1 (.tmp 105)⟩,
 ⟨(some 107), (some (102, true)), .mv (.tmp 0)⟩,
 ⟨(some 108), (some (102, true)), .mv (.tmp 1)⟩,
 ⟨(some 109), (some (102, true)), .idxL 1 (.tmp 107) (.tmp 108)⟩,
 ⟨(some 110), (some (102, true)), .load1 (.tmp 109)⟩,
 ⟨(some 111), (some (102, true)), .call 77 [(.tmp 106), (.tmp 110)]⟩,
 ⟨(some 112), none, .pick (.tmp 102) (.tmp 111) (.const (Value.bool false))⟩]] [0, 1, 10, 11, 103, 104, 105, 106, 107, 108, 109, 110, 111, 112, 119, 120, 121, 122, 123, 124, 125, 126, 127, 128])
 (.cond (.tmp 112)
 .skip
 (.exit 6)))
 (.block 7
 (.reg [⟨(some 113), none, .mv (.tmp 10)⟩,
 ⟨(some 114), none, .bin .add (.tmp 113) (.const (Value.int IntKind.i64 1))⟩,
 ⟨(some 10), none, .mv (.tmp 114)⟩] [0, 1, 10, 11, 103, 104, 105, 106, 107, 108, 109, 110, 111, 119, 120, 121, 122, 123, 124, 125, 126, 127, 128])))))
 (.seq (.block 8
 (.loop
 (.seq (.seq (.draw [[⟨(some 115), none, .mv (.tmp 10)⟩,
 ⟨(some 116), none, .mv (.tmp 11)⟩,
 ⟨(some 117), none, .bin .leq (.tmp 115) (.tmp 116)⟩,
 ⟨(some 118), none, .mv (.tmp 117)⟩,
 ⟨(some 119), (some (118, true)), .mv (.tmp 0)⟩,
 ⟨(some 120), (some (118, true)), .mv (.tmp 11)⟩,
 ⟨(some 121), (some (118, true)), .idxL 1 (.tmp 119) (.tmp 120)⟩,
 ⟨(some 122), (some (118, true)), .load1 (.tmp 121)⟩,
 ⟨(some 123), (some (118, true)), .mv (.tmp 0)⟩,
 ⟨(some 124), (some (118, true)), .mv (.tmp 1)⟩,
 ⟨(some 125), (some (118, true)), .idxL 1 (.tmp 123) (.tmp 124)⟩,
 ⟨(some 126), (some (118, true)), .load1 (.tmp 125)⟩,
 ⟨(some 127), (some (118, true)), .call 77 [(.tmp 122), (.tmp 126)]⟩,
 ⟨(some 128), (some (118, true)), .un .not (.tmp 127)⟩,
 ⟨(some 129), none, .pick (.tmp 118) (.tmp 128) (.const (Value.bool false))⟩]] [0, 1, 10, 11, 103, 104, 105, 106, 107, 108, 109, 110, 111, 119, 120, 121, 122, 123, 124, 125, 126, 127, 128, 129])
 (.cond (.tmp 129)
 .skip
 (.exit 8)))
 (.block 9
 (.reg [⟨(some 130), none, .mv (.tmp 11)⟩,
 ⟨(some 131), none, .bin .sub (.tmp 130) (.const (Value.int IntKind.i64 1))⟩,
 ⟨(some 11), none, .mv (.tmp 131)⟩] [0, 1, 10, 11, 103, 104, 105, 106, 107, 108, 109, 110, 111, 119, 120, 121, 122, 123, 124, 125, 126, 127, 128])))))
 (.seq (.seq (.reg [⟨(some 132), none, .mv (.tmp 10)⟩,
 ⟨(some 133), none, .mv (.tmp 11)⟩,
 ⟨(some 134), none, .bin .gtr (.tmp 132) (.tmp 133)⟩] [0, 1, 10, 11, 103, 104, 105, 106, 107, 108, 109, 110, 111, 119, 120, 121, 122, 123, 124, 125, 126, 127, 128, 134])
 (.cond (.tmp 134)
 (.exit 4)
 .skip))
 (.seq (.draw [[⟨(some 135), none, .mv (.tmp 0)⟩,
 ⟨(some 136), none, .mv (.tmp 10)⟩,
 ⟨(some 137), none, .mv (.tmp 0)⟩,
 ⟨(some 138), none, .mv (.tmp 11)⟩,
 ⟨(some 139), none, .mv (.tmp 0)⟩,
 ⟨(some 140), none, .mv (.tmp 11)⟩,
 ⟨(some 141), none, .idxL 1 (.tmp 139) (.tmp 140)⟩,
 ⟨(some 142), none, .load1 (.tmp 141)⟩,
 ⟨(some 143), none, .mv (.tmp 0)⟩,
 ⟨(some 144), none, .mv (.tmp 10)⟩,
 ⟨(some 145), none, .idxL 1 (.tmp 143) (.tmp 144)⟩,
 ⟨(some 146), none, .load1 (.tmp 145)⟩,
 ⟨(some 147), none, .idxL 1 (.tmp 135) (.tmp 136)⟩,
 ⟨none, none, .store 1 (.tmp 147) (.tmp 142)⟩,
 ⟨(some 148), none, .idxL 1 (.tmp 137) (.tmp 138)⟩,
 ⟨none, none, .store 1 (.tmp 148) (.tmp 146)⟩]] [0, 1, 10, 11, 103, 104, 105, 106, 107, 108, 109, 110, 111, 119, 120, 121, 122, 123, 124, 125, 126, 127, 128])
 (.seq (.reg [⟨(some 149), none, .mv (.tmp 10)⟩,
 ⟨(some 150), none, .bin .add (.tmp 149) (.const (Value.int IntKind.i64 1))⟩,
 ⟨(some 10), none, .mv (.tmp 150)⟩] [0, 1, 10, 11, 103, 104, 105, 106, 107, 108, 109, 110, 111, 119, 120, 121, 122, 123, 124, 125, 126, 127, 128])
 (.reg [⟨(some 151), none, .mv (.tmp 11)⟩,
 ⟨(some 152), none, .bin .sub (.tmp 151) (.const (Value.int IntKind.i64 1))⟩,
 ⟨(some 11), none, .mv (.tmp 152)⟩] [0, 1, 10, 11, 103, 104, 105, 106, 107, 108, 109, 110, 111, 119, 120, 121, 122, 123, 124, 125, 126, 127, 128])))))))))
 (.seq (.draw [[⟨(some 153), none, .mv (.tmp 0)⟩,
 ⟨(some 154), none, .mv (.tmp 11)⟩,
 ⟨(some 155), none, .mv (.tmp 0)⟩,
 ⟨(some 156), none, .mv (.tmp 1)⟩,
 ⟨(some 157), none, .mv (.tmp 0)⟩,
 ⟨(some 158), none, .mv (.tmp 1)⟩,
 ⟨(some 159), none, .idxL 1 (.tmp 157) (.tmp 158)⟩,
 ⟨(some 160), none, .load1 (.tmp 159)⟩,
 ⟨(some 161), none, .mv (.tmp 0)⟩,
 ⟨(some 162), none, .mv (.tmp 11)⟩,
 ⟨(some 163), none, .idxL 1 (.tmp 161) (.tmp 162)⟩,
 ⟨(some 164), none, .load1 (.tmp 163)⟩,
 ⟨(some 165), none, .idxL 1 (.tmp 153) (.tmp 154)⟩,
 ⟨none, none, .store 1 (.tmp 165) (.tmp 160)⟩,
 ⟨(some 166), none, .idxL 1 (.tmp 155) (.tmp 156)⟩,
 ⟨none, none, .store 1 (.tmp 166) (.tmp 164)⟩]] [11])
 (.seq (.reg [⟨(some 167), none, .mv (.tmp 11)⟩,
 ⟨(some 8), none, .mv (.tmp 167)⟩,
 ⟨(some 9), none, .mv (.const (Value.bool false))⟩] [8, 9])
 .ret))))))))))))⟩
theorem low79 : lowF Try.prog (assoc kp79) (assoc od79) 79 = some F79 := by kernel_rfl

/- slices.partialInsertionSortOrdered[string] -/
def kp76 : List (Nat × List Nat) := [(0, [0, 1, 2, 21, 22, 23, 24, 25, 26, 27, 28, 29, 30, 31]), (1, [0, 1, 2, 7, 21, 22, 23, 24, 25, 26, 27, 28, 29, 30, 31]), (2, [0, 1, 2, 7, 8, 21, 22, 23, 24, 25, 26, 27, 28, 29, 30, 31]), (3, [0, 1, 2, 7, 8, 14, 21, 22, 23, 24, 25, 26, 27, 28, 29, 30, 31]), (4, [0, 1, 2, 7, 8, 21, 22, 23, 24, 25, 26, 27, 28, 29, 30, 31]), (5, [0, 1, 2, 7, 8, 21, 22, 23, 24, 25, 26, 27, 28, 29, 30, 31, 32]), (6, [0, 1, 2, 7, 8, 21, 22, 23, 24, 25, 26, 27, 28, 29, 30, 31]), (7, [0, 1, 2, 7, 8, 21, 22, 23, 24, 25, 26, 27, 28, 29, 30, 31, 37]), (8, [6]), (9, [0, 1, 2, 7, 8, 21, 22, 23, 24, 25, 26, 27, 28, 29, 30, 31, 41]), (10, [6]), (11, [0, 1, 2, 7, 8, 21, 22, 23, 24, 25, 26, 27, 28, 29, 30, 31]), (12, [0, 1, 2, 7, 8, 21, 22, 23, 24, 25, 26, 27, 28, 29, 30, 31, 61]), (13, [0, 1, 2, 7, 8, 9, 21, 22, 23, 24, 25, 26, 27, 28, 29, 30, 31]), (14, [0, 1, 2, 7, 8, 9, 21, 22, 23, 24, 25, 26, 27, 28, 29, 30, 31, 65]), (15, [0, 1, 2, 7, 8, 9, 21, 22, 23, 24, 25, 26, 27, 28, 29, 30, 31]), (16, [0, 1, 2, 7, 8, 9, 21, 22, 23, 24, 25, 26, 27, 28, 29, 30, 31, 78]), (17, [0, 1, 2, 7, 8, 9, 21, 22, 23, 24, 25, 26, 27, 28, 29, 30, 31]), (18, [0, 1, 2, 7, 8, 21, 22, 23, 24, 25, 26, 27, 28, 29, 30, 31, 98]), (19, [0, 1, 2, 7, 8, 10, 21, 22, 23, 24, 25, 26, 27, 28, 29, 30, 31]), (20, [0, 1, 2, 7, 8, 10, 21, 22, 23, 24, 25, 26, 27, 28, 29, 30, 31, 103]), (21, [0, 1, 2, 7, 8, 10, 21, 22, 23, 24, 25, 26, 27, 28, 29, 30, 31]), (22, [0, 1, 2, 7, 8, 10, 21, 22, 23, 24, 25, 26, 27, 28, 29, 30, 31, 116]), (23, [0, 1, 2, 7, 8, 10, 21, 22, 23, 24, 25, 26, 27, 28, 29, 30, 31]), (24, [6])]
def od76 : List (Nat × List (List Nat)) := [(5, [[0, 1, 2, 3, 4, 5, 6, 7, 8, 9, 10, 11, 12, 13, 14, 15]]), (11, [[0, 1, 2, 3, 4, 5, 6, 7, 8, 9, 10, 11, 12, 13, 14, 15, 16, 17]]), (16, [[0, 1, 2, 3, 4, 5, 6, 7, 8, 9, 10]]), (17, [[0, 1, 2, 3, 4, 5, 6, 7, 8, 9, 10, 11, 12, 13, 14, 15, 16, 17]]), (22, [[0, 1, 2, 3, 4, 5, 6, 7, 8, 9, 10]]), (23, [[0, 1, 2, 3, 4, 5, 6, 7, 8, 9, 10, 11, 12, 13, 14, 15, 16, 17]])]
def F76 : FIR := ⟨133, [.tmp 6],
 (.seq (.reg [⟨(some 6), none, .mv (.const (Value.bool false))⟩] [0, 1, 2, 21, 22, 23, 24, 25, 26, 27, 28, 29, 30, 31])
 (.seq (.reg [⟨(some 11), none, .mv (.tmp 1)⟩,
 ⟨(some 12), none, .bin .add (.tmp 11) (.const (Value.int IntKind.i64 1))⟩,
 ⟨(some 7), none, .mv (.tmp 12)⟩] [0, 1, 2, 7, 21, 22, 23, 24, 25, 26, 27, 28, 29, 30, 31])
 (.seq (.seq (.reg [⟨(some 8), none, .mv (.const (Value.int IntKind.i64 0))⟩] [0, 1, 2, 7, 8, 21, 22, 23, 24, 25, 26, 27, 28, 29, 30, 31])
 (.block 0
 (.loop
 (.seq (.seq (.reg [⟨(some 13), none, .mv (.tmp 8)⟩,
 ⟨(some 14), none, .bin .lss (.tmp 13) (.const (Value.int IntKind.i64 5))⟩] [0, 1, 2, 7, 8, 14, 21, 22, 23, 24, 25, 26, 27, 28, 29, 30, 31])
 (.cond (.tmp 14)
 .skip
 (.exit 0)))
 (.seq (.block 1
 (.seq (.block 2
 (.loop
 (.seq (.seq (.draw [[⟨(some 17), none, .mv (.tmp 7)⟩,
 ⟨(some 18), none, .mv (.tmp 2)⟩,
 ⟨(some 19), none, .bin .lss (.tmp 17) (.tmp 18)⟩,
 ⟨(some 20), none, .mv (.tmp 19)⟩,
 ⟨(some 21), (some (20, true)), .mv (.tmp 0)⟩,
 ⟨(some 22), (some (20, true)), .mv (.tmp 7)⟩,
 ⟨(some 23), (some (20, true)), .idxL 1 (.tmp 21) (.tmp 22)⟩,
 ⟨(some 24), (some (20, true)), .load1 (.tmp 23)⟩,
 ⟨(some 25), (some (20, true)), .mv (.tmp 0)⟩,
 ⟨(some 26), (some (20, true)), .mv (.tmp 7)⟩,
 ⟨(some 27), (some (20, true)), .bin .sub (.tmp 26) (.const (Value.int IntKind.i64 1))⟩,
 ⟨(some 28), (some (20, true)), .idxL 1 (.tmp 25) (.tmp 27)⟩,
 ⟨(some 29), (some (20, true)), .load1 (.tmp 28)⟩,
 ⟨(some 30), (some (20, true)), .call 77 [(.tmp 24), (.tmp 29)]⟩,
 ⟨(some 31), (some (20, true)), .un .not (.tmp 30)⟩,
 ⟨(some 32), none, .pick (.tmp 20) (.tmp 31) (.const (Value.bool false))⟩]] [0, 1, 2, 7, 8, 21, 22, 23, 24, 25, 26, 27, 28, 29, 30, 31, 32])
 (.cond (.tmp 32)
 .skip
 (.exit 2)))
 (.block 3
 (.reg [⟨(some 33), none, .mv (.tmp 7)⟩,
 ⟨(some 34), none, .bin .add (.tmp 33) (.const (Value.int IntKind.i64 1))⟩,
 ⟨(some 7), none, .mv (.tmp 34)⟩] [0, 1, 2, 7, 8, 21, 22, 23, 24, 25, 26, 27, 28, 29, 30, 31])))))
 (.seq (.seq (.reg [⟨(some 35), none, .mv (.tmp 7)⟩,
 ⟨(some 36), none, .mv (.tmp 2)⟩,
 ⟨(some 37), none, .bin .eql (.tmp 35) (.tmp 36)⟩] [0, 1, 2, 7, 8, 21, 22, 23, 24, 25, 26, 27, 28, 29, 30, 31, 37])
 (.cond (.tmp 37)
 (.seq (.reg [⟨(some 6), none, .mv (.const (Value.bool true))⟩] [6])
 .ret)
 .skip))
 (.seq (.seq (.reg [⟨(some 38), none, .mv (.tmp 2)⟩,
 ⟨(some 39), none, .mv (.tmp 1)⟩,
 ⟨(some 40), none, .bin .sub (.tmp 38) (.tmp 39)⟩,
 ⟨(some 41), none, .bin .lss (.tmp 40) (.const (Value.int IntKind.i64 50))⟩] [0, 1, 2, 7, 8, 21, 22, 23, 24, 25, 26, 27, 28, 29, 30, 31, 41])
 (.cond (.tmp 41)
 (.seq (.reg [⟨(some 6), none, .mv (.const (Value.bool false))⟩] [6])
 .ret)
 .skip))
 (.seq (.draw [[⟨(some 42), none, .mv (.tmp 0)⟩,
 ⟨(some 43), none, .mv (.tmp 7)⟩,
 ⟨(some 44), none, .mv (.tmp 0)⟩,
 ⟨(some 45), none, .mv (.tmp 7)⟩,
 ⟨(some 46), none, .bin .sub (.tmp 45) (.const (Value.int IntKind.i64 1))⟩,
 ⟨(some 47), none, .mv (.tmp 0)⟩,
 ⟨(some 48), none, .mv (.tmp 7)⟩,
 ⟨(some 49), none, .bin .sub (.tmp 48) (.const (Value.int IntKind.i64 1))⟩,
 ⟨(some 50), none, .idxL 1 (.tmp 47) (.tmp 49)⟩,
 ⟨(some 51), none, .load1 (.tmp 50)⟩,
 ⟨(some 52), none, .mv (.tmp 0)⟩,
 ⟨(some 53), none, .mv (.tmp 7)⟩,
 ⟨(some 54), none, .idxL 1 (.tmp 52) (.tmp 53)⟩,
 ⟨(some 55), none, .load1 (.tmp 54)⟩,
 ⟨(some 56), none, .idxL 1 (.tmp 42) (.tmp 43)⟩,
 ⟨none, none, .store 1 (.tmp 56) (.tmp 51)⟩,
 ⟨(some 57), none, .idxL 1 (.tmp 44) (.tmp 46)⟩,
 ⟨none, none, .store 1 (.tmp 57) (.tmp 55)⟩]] [0, 1, 2, 7, 8, 21, 22, 23, 24, 25, 26, 27, 28, 29, 30, 31])
 (.seq (.seq (.reg [⟨(some 58), none, .mv (.tmp 7)⟩,
 ⟨(some 59), none, .mv (.tmp 1)⟩,
 ⟨(some 60), none, .bin .sub (.tmp 58) (.tmp 59)⟩,
 ⟨(some 61), none, .bin .geq (.tmp 60) (.const (Value.int IntKind.i64 2))⟩] [0, 1, 2, 7, 8, 21, 22, 23, 24, 25, 26, 27, 28, 29, 30, 31, 61])
 (.cond (.tmp 61)
 (.seq (.reg [⟨(some 62), none, .mv (.tmp 7)⟩,
 ⟨(some 63), none, .bin .sub (.tmp 62) (.const (Value.int IntKind.i64 1))⟩,
 ⟨(some 9), none, .mv (.tmp 63)⟩] [0, 1, 2, 7, 8, 9, 21, 22, 23, 24, 25, 26, 27, 28, 29, 30, 31])
 (.block 4
 (.loop
 (.seq (.seq (.reg [⟨(some 64), none, .mv (.tmp 9)⟩,
 ⟨(some 65), none, .bin .geq (.tmp 64) (.const (Value.int IntKind.i64 1))⟩] [0, 1, 2, 7, 8, 9, 21, 22, 23, 24, 25, 26, 27, 28, 29, 30, 31, 65])
 (.cond (.tmp 65)
 .skip
 (.exit 4)))
 (.seq (.block 5
 (.seq (.seq (.draw [[⟨(some 68), none, .mv (.tmp 0)⟩,
 ⟨(some 69), none, .mv (.tmp 9)⟩,
 ⟨(some 70), none, .idxL 1 (.tmp 68) (.tmp 69)⟩,
 ⟨(some 71), none, .load1 (.tmp 70)⟩,
 ⟨(some 72), none, .mv (.tmp 0)⟩,
 ⟨(some 73), none, .mv (.tmp 9)⟩,
 ⟨(some 74), none, .bin .sub (.tmp 73) (.const (Value.int IntKind.i64 1))⟩,
 ⟨(some 75), none, .idxL 1 (.tmp 72) (.tmp 74)⟩,
 ⟨(some 76), none, .load1 (.tmp 75)⟩,
 ⟨(some 77), none, .call 77 [(.tmp 71), (.tmp 76)]⟩,
 ⟨(some 78), none, .un .not (.tmp 77)⟩]] [0, 1, 2, 7, 8, 9, 21, 22, 23, 24, 25, 26, 27, 28, 29, 30, 31, 78])
 (.cond (.tmp 78)
 (.exit 4)
 .skip))
 (.draw [[⟨(some 79), none, .mv (.tmp 0)⟩,
 ⟨(some 80), none, .mv (.tmp 9)⟩,
 ⟨(some 81), none, .mv (.tmp 0)⟩,
 ⟨(some 82), none, .mv (.tmp 9)⟩,
 ⟨(some 83), none, .bin .sub (.tmp 82) (.const (Value.int IntKind.i64 1))⟩,
 ⟨(some 84), none, .mv (.tmp 0)⟩,
 ⟨(some 85), none, .mv (.tmp 9)⟩,
 ⟨(some 86), none, .bin .sub (.tmp 85) (.const (Value.int IntKind.i64 1))⟩,
 ⟨(some 87), none, .idxL 1 (.tmp 84) (.tmp 86)⟩,
 ⟨(some 88), none, .load1 (.tmp 87)⟩,
 ⟨(some 89), none, .mv (.tmp 0)⟩,
 ⟨(some 90), none, .mv (.tmp 9)⟩,
 ⟨(some 91), none, .idxL 1 (.tmp 89) (.tmp 90)⟩,
 ⟨(some 92), none, .load1 (.tmp 91)⟩,
 ⟨(some 93), none, .idxL 1 (.tmp 79) (.tmp 80)⟩,
 ⟨none, none, .store 1 (.tmp 93) (.tmp 88)⟩,
 ⟨(some 94), none, .idxL 1 (.tmp 81) (.tmp 83)⟩,
 ⟨none, none, .store 1 (.tmp 94) (.tmp 92)⟩]] [0, 1, 2, 7, 8, 9, 21, 22, 23, 24, 25, 26, 27, 28, 29, 30, 31])))
 (.reg [⟨(some 66), none, .mv (.tmp 9)⟩,
 ⟨(some 67), none, .bin .sub (.tmp 66) (.const (Value.int IntKind.i64 1))⟩,
 ⟨(some 9), none, .mv (.tmp 67)⟩] [0, 1, 2, 7, 8, 9, 21, 22, 23, 24, 25, 26, 27, 28, 29, 30, 31]))))))
 .skip))
 (.seq (.reg [⟨(some 95), none, .mv (.tmp 2)⟩,
 ⟨(some 96), none, .mv (.tmp 7)⟩,
 ⟨(some 97), none, .bin .sub (.tmp 95) (.tmp 96)⟩,
 ⟨(some 98), none, .bin .geq (.tmp 97) (.const (Value.int IntKind.i64 2))⟩] [0, 1, 2, 7, 8, 21, 22, 23, 24, 25, 26, 27, 28, 29, 30, 31, 98])
 (.cond (.tmp 98)
 (.seq (.reg [⟨(some 99), none, .mv (.tmp 7)⟩,
 ⟨(some 100), none, .bin .add (.tmp 99) (.const (Value.int IntKind.i64 1))⟩,
 ⟨(some 10), none, .mv (.tmp 100)⟩] [0, 1, 2, 7, 8, 10, 21, 22, 23, 24, 25, 26, 27, 28, 29, 30, 31])
 (.block 6
 (.loop
 (.seq (.seq (.reg [⟨(some 101), none, .mv (.tmp 10)⟩,
 ⟨(some 102), none, .mv (.tmp 2)⟩,
 ⟨(some 103), none, .bin .lss (.tmp 101) (.tmp 102)⟩] [0, 1, 2, 7, 8, 10, 21, 22, 23, 24, 25, 26, 27, 28, 29, 30, 31, 103])
 (.cond (.tmp 103)
 .skip
 (.exit 6)))
 (.seq (.block 7
 (.seq (.seq (.draw [[⟨(some 106), none, .mv (.tmp 0)⟩,
 ⟨(some 107), none, .mv (.tmp 10)⟩,
 ⟨(some 108), none, .idxL 1 (.tmp 106) (.tmp 107)⟩,
 ⟨(some 109), none, .load1 (.tmp 108)⟩,
 ⟨(some 110), none, .mv (.tmp 0)⟩,
 ⟨(some 111), none, .mv (.tmp 10)⟩,
 ⟨(some 112), none, .bin .sub (.tmp 111) (.const (Value.int IntKind.i64 1))⟩,
 ⟨(some 113), none, .idxL 1 (.tmp 110) (.tmp 112)⟩,
 ⟨(some 114), none, .load1 (.tmp 113)⟩,
 ⟨(some 115), none, .call 77 [(.tmp 109), (.tmp 114)]⟩,
 ⟨(some 116), none, .un .not (.tmp 115)⟩]] [0, 1, 2, 7, 8, 10, 21, 22, 23, 24, 25, 26, 27, 28, 29, 30, 31, 116])
 (.cond (.tmp 116)
 (.exit 6)
 .skip))
 (.draw [[⟨(some 117), none, .mv (.tmp 0)⟩,
 ⟨(some 118), none, .mv (.tmp 10)⟩,
 ⟨(some 119), none, .mv (.tmp 0)⟩,
 ⟨(some 120), none, .mv (.tmp 10)⟩,
 ⟨(some 121), none, .bin .sub (.tmp 120) (.const (Value.int IntKind.i64 1))⟩,
 ⟨(some 122), none, .mv (.tmp 0)⟩,
 ⟨(some 123), none, .mv (.tmp 10)⟩,
 ⟨(some 124), none, .bin .sub (.tmp 123) (.const (Value.int IntKind.i64 1))⟩,
 ⟨(some 125), none, .idxL 1 (.tmp 122) (.tmp 124)⟩,
 ⟨(some 126), none, .load1 (.tmp 125)⟩,
 ⟨(some 127), none, .mv (.tmp 0)⟩,
 ⟨(some 128), none, .mv (.tmp 10)⟩,
 ⟨(some 129), none, .idxL 1 (.tmp 127) (.tmp 128)⟩,
 ⟨(some 130), none, .load1 (.tmp 129)⟩,
 ⟨(some 131), none, .idxL 1 (.tmp 117) (.tmp 118)⟩,
 ⟨none, none, .store 1 (.tmp 131) (.tmp 126)⟩,
 ⟨(some 132), none, .idxL 1 (.tmp 119) (.tmp 121)⟩,
 ⟨none, none, .store 1 (.tmp 132) (.tmp 130)⟩]] [0, 1, 2, 7, 8, 10, 21, 22, 23, 24, 25, 26, 27, 28, 29, 30, 31])))
 (.reg [⟨(some 104), none, .mv (.tmp 10)⟩,
 ⟨(some 105), none, .bin .add (.tmp 104) (.const (Value.int IntKind.i64 1))⟩,
 ⟨(some 10), none, .mv (.tmp 105)⟩] [0, 1, 2, 7, 8, 10, 21, 22, 23, 24, 25, 26, 27, 28, 29, 30, 31]))))))
 .skip))))))))
 (.reg [⟨(some 15), none, .mv (.tmp 8)⟩,
 ⟨(some 16), none, .bin .add (.tmp 15) (.const (Value.int IntKind.i64 1))⟩,
 ⟨(some 8), none, .mv (.tmp 16)⟩] [0, 1, 2, 7, 8, 21, 22, 23, 24, 25, 26, 27, 28, 29, 30, 31]))))))
 (.seq (.reg [⟨(some 6), none, .mv (.const (Value.bool false))⟩] [6])
 .ret))))⟩
theorem low76 : lowF Try.prog (assoc kp76) (assoc od76) 76 = some F76 := by kernel_rfl

/- slices.order2Ordered[string] -/
def kp88 : List (Nat × List Nat) := [(0, [0, 1, 2, 3]), (1, [1, 2, 3, 18]), (2, [1, 2]), (3, [8, 9]), (4, [8, 9])]
def od88 : List (Nat × List (List Nat)) := [(1, [[0, 1, 2, 3, 4, 5, 6, 7, 8]])]
def F88 : FIR := ⟨28, [.tmp 8, .tmp 9],
 (.seq (.reg [⟨(some 8), none, .mv (.const (Value.int IntKind.i64 0))⟩,
 ⟨(some 9), none, .mv (.const (Value.int IntKind.i64 0))⟩] [0, 1, 2, 3])
 (.seq (.seq (.draw [[⟨(some 10), none, .mv (.tmp 0)⟩,
 ⟨(some 11), none, .mv (.tmp 2)⟩,
 ⟨(some 12), none, .idxL 1 (.tmp 10) (.tmp 11)⟩,
 ⟨(some 13), none, .load1 (.tmp 12)⟩,
 ⟨(some 14), none, .mv (.tmp 0)⟩,
 ⟨(some 15), none, .mv (.tmp 1)⟩,
 ⟨(some 16), none, .idxL 1 (.tmp 14) (.tmp 15)⟩,
 ⟨(some 17), none, .load1 (.tmp 16)⟩,
 ⟨(some 18), none, .call 77 [(.tmp 13), (.tmp 17)]⟩]] [1, 2, 3, 18])
 (.cond (.tmp 18)
 (.seq (.reg [⟨(some 19), none, .mv (.tmp 3)⟩,
 ⟨(some 20), none, .nilck (.tmp 19)⟩,
 ⟨(some 21), none, .load1 (.tmp 20)⟩,
 ⟨(some 22), none, .bin .add (.tmp 21) (.const (Value.int IntKind.i64 1))⟩,
 ⟨(some 23), none, .nilck (.tmp 19)⟩,
 ⟨none, none, .store 1 (.tmp 23) (.tmp 22)⟩] [1, 2])
 (.seq (.reg [⟨(some 24), none, .mv (.tmp 2)⟩,
 ⟨(some 25), none, .mv (.tmp 1)⟩,
 ⟨(some 8), none, .mv (.tmp 24)⟩,
 ⟨(some 9), none, .mv (.tmp 25)⟩] [8, 9])
 .ret))
 .skip))
 (.seq (.reg [⟨(some 26), none, .mv (.tmp 1)⟩,
 ⟨(some 27), none, .mv (.tmp 2)⟩,
 ⟨(some 8), none, .mv (.tmp 26)⟩,
 ⟨(some 9), none, .mv (.tmp 27)⟩] [8, 9])
 .ret)))⟩
theorem low88 : lowF Try.prog (assoc kp88) (assoc od88) 88 = some F88 := by kernel_rfl

/- slices.medianOrdered[string] -/
def kp86 : List (Nat × List Nat) := [(0, [0, 1, 2, 3, 4]), (1, [0, 1, 2, 3, 4]), (2, [0, 1, 2, 4]), (3, [2]), (4, [10])]
def od86 : List (Nat × List (List Nat)) := []
def F86 : FIR := ⟨36, [.tmp 10],
 (.seq (.reg [⟨(some 10), none, .mv (.const (Value.int IntKind.i64 0))⟩] [0, 1, 2, 3, 4])
 (.seq (.reg [⟨(some 12), none, .mv (.tmp 0)⟩,
 ⟨(some 13), none, .mv (.tmp 1)⟩,
 ⟨(some 14), none, .mv (.tmp 2)⟩,
 ⟨(some 15), none, .mv (.tmp 4)⟩,
 ⟨(some 16), none, .call 88 [(.tmp 12), (.tmp 13), (.tmp 14), (.tmp 15)]⟩,
 ⟨(some 11), none, .mv (.tmp 16)⟩,
 ⟨(some 17), none, .ext (.tmp 11) 0⟩,
 ⟨(some 18), none, .ext (.tmp 11) 1⟩,
 ⟨(some 1), none, .mv (.tmp 17)⟩,
 ⟨(some 2), none, .mv (.tmp 18)⟩] [0, 1, 2, 3, 4])
 (.seq (.reg [⟨(some 20), none, .mv (.tmp 0)⟩,
 ⟨(some 21), none, .mv (.tmp 2)⟩,
 ⟨(some 22), none, .mv (.tmp 3)⟩,
 ⟨(some 23), none, .mv (.tmp 4)⟩,
 ⟨(some 24), none, .call 88 [(.tmp 20), (.tmp 21), (.tmp 22), (.tmp 23)]⟩,
 ⟨(some 19), none, .mv (.tmp 24)⟩,
 ⟨(some 25), none, .ext (.tmp 19) 0⟩,
 ⟨(some 26), none, .ext (.tmp 19) 1⟩,
 ⟨(some 2), none, .mv (.tmp 25)⟩,
 ⟨(some 3), none, .mv (.tmp 26)⟩] [0, 1, 2, 4])
 (.seq (.reg [⟨(some 28), none, .mv (.tmp 0)⟩,
 ⟨(some 29), none, .mv (.tmp 1)⟩,
 ⟨(some 30), none, .mv (.tmp 2)⟩,
 ⟨(some 31), none, .mv (.tmp 4)⟩,
 ⟨(some 32), none, .call 88 [(.tmp 28), (.tmp 29), (.tmp 30), (.tmp 31)]⟩,
 ⟨(some 27), none, .mv (.tmp 32)⟩,
 ⟨(some 33), none, .ext (.tmp 27) 0⟩,
 ⟨(some 34), none, .ext (.tmp 27) 1⟩,
 ⟨(some 1), none, .mv (.tmp 33)⟩,
 ⟨(some 2), none, .mv (.tmp 34)⟩] [2])
 (.seq (.reg [⟨(some 35), none, .mv (.tmp 2)⟩,
 ⟨(some 10), none, .mv (.tmp 35)⟩] [10])
 .ret)))))⟩
theorem low86 : lowF Try.prog (assoc kp86) (assoc od86) 86 = some F86 := by kernel_rfl

/- slices.medianAdjacentOrdered[string] -/
def kp85 : List (Nat × List Nat) := [(0, [0, 1, 2]), (1, [6])]
def od85 : List (Nat × List (List Nat)) := []
def F85 : FIR := ⟨15, [.tmp 6],
 (.seq (.reg [⟨(some 6), none, .mv (.const (Value.int IntKind.i64 0))⟩] [0, 1, 2])
 (.seq (.reg [⟨(some 7), none, .mv (.tmp 0)⟩,
 ⟨(some 8), none, .mv (.tmp 1)⟩,
 ⟨(some 9), none, .bin .sub (.tmp 8) (.const (Value.int IntKind.i64 1))⟩,
 ⟨(some 10), none, .mv (.tmp 1)⟩,
 ⟨(some 11), none, .mv (.tmp 1)⟩,
 ⟨(some 12), none, .bin .add (.tmp 11) (.const (Value.int IntKind.i64 1))⟩,
 ⟨(some 13), none, .mv (.tmp 2)⟩,
 ⟨(some 14), none, .call 86 [(.tmp 7), (.tmp 9), (.tmp 10), (.tmp 12), (.tmp 13)]⟩,
 ⟨(some 6), none, .mv (.tmp 14)⟩] [6])
 .ret))⟩
theorem low85 : lowF Try.prog (assoc kp85) (assoc od85) 85 = some F85 := by kernel_rfl

/- slices.choosePivotOrdered[string] -/
def kp74 : List (Nat × List Nat) := [(0, [0, 1, 2]), (1, [0, 1, 8]), (2, [0, 1, 8, 9]), (3, [0, 1, 8, 9, 10]), (4, [0, 1, 8, 9, 10, 11]), (5, [0, 8, 9, 10, 11, 12]), (6, [0, 8, 9, 10, 11, 12, 32]), (7, [0, 9, 10, 11, 12, 34]), (8, [0, 9, 10, 11, 12]), (9, [0, 9, 10, 11, 12]), (10, [0, 9, 10, 11, 12]), (11, [9, 11]), (12, [11, 49]), (13, [6, 7]), (14, [11, 49, 51]), (15, [6, 7]), (16, [11, 54]), (17, [6, 7])]
def od74 : List (Nat × List (List Nat)) := []
def F74 : FIR := ⟨57, [.tmp 6, .tmp 7],
 (.seq (.reg [⟨(some 6), none, .mv (.const (Value.int IntKind.i64 0))⟩,
 ⟨(some 7), none, .mv (.const (Value.int IntKind.i64 0))⟩] [0, 1, 2])
 (.seq (.reg [⟨(some 13), none, .mv (.tmp 2)⟩,
 ⟨(some 14), none, .mv (.tmp 1)⟩,
 ⟨(some 15), none, .bin .sub (.tmp 13) (.tmp 14)⟩,
 ⟨(some 8), none, .mv (.tmp 15)⟩] [0, 1, 8])
 (.seq (.reg [⟨(some 9), none, .alloc 3 [(Value.int IntKind.i64 0)]⟩] [0, 1, 8, 9])
 (.seq (.reg [⟨(some 16), none, .mv (.tmp 1)⟩,
 ⟨(some 17), none, .mv (.tmp 8)⟩,
 ⟨(some 18), none, .bin .quo (.tmp 17) (.const (Value.int IntKind.i64 4))⟩,
 ⟨(some 19), none, .bin .mul (.tmp 18) (.const (Value.int IntKind.i64 1))⟩,
 ⟨(some 20), none, .bin .add (.tmp 16) (.tmp 19)⟩,
 ⟨(some 10), none, .mv (.tmp 20)⟩] [0, 1, 8, 9, 10])
 (.seq (.reg [⟨(some 21), none, .mv (.tmp 1)⟩,
 ⟨(some 22), none, .mv (.tmp 8)⟩,
 ⟨(some 23), none, .bin .quo (.tmp 22) (.const (Value.int IntKind.i64 4))⟩,
 ⟨(some 24), none, .bin .mul (.tmp 23) (.const (Value.int IntKind.i64 2))⟩,
 ⟨(some 25), none, .bin .add (.tmp 21) (.tmp 24)⟩,
 ⟨(some 11), none, .mv (.tmp 25)⟩] [0, 1, 8, 9, 10, 11])
 (.seq (.reg [⟨(some 26), none, .mv (.tmp 1)⟩,
 ⟨(some 27), none, .mv (.tmp 8)⟩,
 ⟨(some 28), none, .bin .quo (.tmp 27) (.const (Value.int IntKind.i64 4))⟩,
 ⟨(some 29), none, .bin .mul (.tmp 28) (.const (Value.int IntKind.i64 3))⟩,
 ⟨(some 30), none, .bin .add (.tmp 26) (.tmp 29)⟩,
 ⟨(some 12), none, .mv (.tmp 30)⟩] [0, 8, 9, 10, 11, 12])
 (.seq (.seq (.reg [⟨(some 31), none, .mv (.tmp 8)⟩,
 ⟨(some 32), none, .bin .geq (.tmp 31) (.const (Value.int IntKind.i64 8))⟩] [0, 8, 9, 10, 11, 12, 32])
 (.cond (.tmp 32)
 (.seq (.seq (.reg [⟨(some 33), none, .mv (.tmp 8)⟩,
 ⟨(some 34), none, .bin .geq (.tmp 33) (.const (Value.int IntKind.i64 50))⟩] [0, 9, 10, 11, 12, 34])
 (.cond (.tmp 34)
 (.seq (.reg [⟨(some 35), none, .mv (.tmp 0)⟩,
 ⟨(some 36), none, .mv (.tmp 10)⟩,
 ⟨(some 37), none, .call 85 [(.tmp 35), (.tmp 36), (.tmp 9)]⟩,
 ⟨(some 10), none, .mv (.tmp 37)⟩] [0, 9, 10, 11, 12])
 (.seq (.reg [⟨(some 38), none, .mv (.tmp 0)⟩,
 ⟨(some 39), none, .mv (.tmp 11)⟩,
 ⟨(some 40), none, .call 85 [(.tmp 38), (.tmp 39), (.tmp 9)]⟩,
 ⟨(some 11), none, .mv (.tmp 40)⟩] [0, 9, 10, 11, 12])
 (.reg [⟨(some 41), none, .mv (.tmp 0)⟩,
 ⟨(some 42), none, .mv (.tmp 12)⟩,
 ⟨(some 43), none, .call 85 [(.tmp 41), (.tmp 42), (.tmp 9)]⟩,
 ⟨(some 12), none, .mv (.tmp 43)⟩] [0, 9, 10, 11, 12])))
 .skip))
 (.reg [⟨(some 44), none, .mv (.tmp 0)⟩,
 ⟨(some 45), none, .mv (.tmp 10)⟩,
 ⟨(some 46), none, .mv (.tmp 11)⟩,
 ⟨(some 47), none, .mv (.tmp 12)⟩,
 ⟨(some 48), none, .call 86 [(.tmp 44), (.tmp 45), (.tmp 46), (.tmp 47), (.tmp 9)]⟩,
 ⟨(some 11), none, .mv (.tmp 48)⟩] [9, 11]))
 .skip))
 (.seq (.reg [⟨(some 49), none, .load1 (.tmp 9)⟩] [11, 49])
 (.block 0
 (.seq (.reg [⟨(some 52), none, .bin .eql (.tmp 49) (.const (Value.int IntKind.i64 0))⟩,
 ⟨(some 51), none, .mv (.tmp 52)⟩] [11, 49, 51])
 (.cond (.tmp 51)
 (.seq (.reg [⟨(some 53), none, .mv (.tmp 11)⟩,
 ⟨(some 6), none, .mv (.tmp 53)⟩,
 ⟨(some 7), none, .mv (.const (Value.int IntKind.i64 1))⟩] [6, 7])
 .ret)
 (.seq (.reg [⟨(some 55), none, .bin .eql (.tmp 49) (.const (Value.int IntKind.i64 12))⟩,
 ⟨(some 54), none, .mv (.tmp 55)⟩] [11, 54])
 (.cond (.tmp 54)
 (.seq (.reg [⟨(some 56), none, .mv (.tmp 11)⟩,
 ⟨(some 6), none, .mv (.tmp 56)⟩,
 ⟨(some 7), none, .mv (.const (Value.int IntKind.i64 2))⟩] [6, 7])
 .ret)
 (.seq (.reg [⟨(some 50), none, .mv (.tmp 11)⟩,
 ⟨(some 6), none, .mv (.tmp 50)⟩,
 ⟨(some 7), none, .mv (.const (Value.int IntKind.i64 0))⟩] [6, 7])
 .ret))))))))))))))⟩
theorem low74 : lowF Try.prog (assoc kp74) (assoc od74) 74 = some F74 := by kernel_rfl

/- slices.breakPatternsOrdered[string] -/
def kp73 : List (Nat × List Nat) := [(0, [0, 1, 6]), (1, [0, 1, 6, 15]), (2, [0, 1, 6, 7]), (3, [0, 1, 6, 7, 8]), (4, [0, 1, 6, 7, 8, 9]), (5, [0, 1, 6, 7, 8, 9, 33]), (6, [0, 1, 6, 7, 8, 9]), (7, [0, 1, 6, 7, 8, 9, 10]), (8, [0, 1, 6, 7, 8, 9, 10, 43]), (9, [0, 1, 6, 7, 8, 9, 10]), (10, [0, 1, 6, 7, 8, 9])]
def od73 : List (Nat × List (List Nat)) := [(10, [[0, 1, 2, 3, 4, 5, 6, 7, 8, 9, 10, 11, 12, 13, 14, 15, 16, 17, 18, 19]])]
def F73 : FIR := ⟨65, [],
 (.seq (.reg [⟨(some 11), none, .mv (.tmp 2)⟩,
 ⟨(some 12), none, .mv (.tmp 1)⟩,
 ⟨(some 13), none, .bin .sub (.tmp 11) (.tmp 12)⟩,
 ⟨(some 6), none, .mv (.tmp 13)⟩] [0, 1, 6])
 (.seq (.reg [⟨(some 14), none, .mv (.tmp 6)⟩,
 ⟨(some 15), none, .bin .geq (.tmp 14) (.const (Value.int IntKind.i64 8))⟩] [0, 1, 6, 15])
 (.cond (.tmp 15)
 (.seq (.reg [⟨(some 16), none, .mv (.tmp 6)⟩,
 ⟨(some 17), none, .conv .u64 (.tmp 16)⟩,
 ⟨(some 7), none, .alloc 155 [(Value.int IntKind.u64 0)]⟩,
 ⟨none, none, .store 1 (.tmp 7) (.tmp 17)⟩] [0, 1, 6, 7])
 (.seq (.reg [⟨(some 18), none, .mv (.tmp 6)⟩,
 ⟨(some 19), none, .call 83 [(.tmp 18)]⟩,
 ⟨(some 8), none, .mv (.tmp 19)⟩] [0, 1, 6, 7, 8])
 (.seq (.reg [⟨(some 20), none, .mv (.tmp 1)⟩,
 ⟨(some 21), none, .mv (.tmp 6)⟩,
 ⟨(some 22), none, .bin .quo (.tmp 21) (.const (Value.int IntKind.i64 4))⟩,
 ⟨(some 23), none, .bin .mul (.tmp 22) (.const (Value.int IntKind.i64 2))⟩,
 ⟨(some 24), none, .bin .add (.tmp 20) (.tmp 23)⟩,
 ⟨(some 25), none, .bin .sub (.tmp 24) (.const (Value.int IntKind.i64 1))⟩,
 ⟨(some 9), none, .mv (.tmp 25)⟩] [0, 1, 6, 7, 8, 9])
 (.block 0
 (.loop
 (.seq (.seq (.reg [⟨(some 26), none, .mv (.tmp 9)⟩,
 ⟨(some 27), none, .mv (.tmp 1)⟩,
 ⟨(some 28), none, .mv (.tmp 6)⟩,
 ⟨(some 29), none, .bin .quo (.tmp 28) (.const (Value.int IntKind.i64 4))⟩,
 ⟨(some 30), none, .bin .mul (.tmp 29) (.const (Value.int IntKind.i64 2))⟩,
 ⟨(some 31), none, .bin .add (.tmp 27) (.tmp 30)⟩,
 ⟨(some 32), none, .bin .add (.tmp 31) (.const (Value.int IntKind.i64 1))⟩,
 ⟨(some 33), none, .bin .leq (.tmp 26) (.tmp 32)⟩] [0, 1, 6, 7, 8, 9, 33])
 (.cond (.tmp 33)
 .skip
 (.exit 0)))
 (.seq (.block 1
 (.seq (.reg [⟨(some 36), none, .call 84 [(.tmp 7)]⟩,
 ⟨(some 37), none, .mv (.tmp 8)⟩,
 ⟨(some 38), none, .bin .sub (.tmp 37) (.const (Value.int IntKind.u64 1))⟩,
 ⟨(some 39), none, .bin .and (.tmp 36) (.tmp 38)⟩,
 ⟨(some 40), none, .conv .i64 (.tmp 39)⟩,
 ⟨(some 10), none, .mv (.tmp 40)⟩] [0, 1, 6, 7, 8, 9, 10])
 (.seq (.seq (.reg [⟨(some 41), none, .mv (.tmp 10)⟩,
 ⟨(some 42), none, .mv (.tmp 6)⟩,
 ⟨(some 43), none, .bin .geq (.tmp 41) (.tmp 42)⟩] [0, 1, 6, 7, 8, 9, 10, 43])
 (.cond (.tmp 43)
 (.reg [⟨(some 44), none, .mv (.tmp 10)⟩,
 ⟨(some 45), none, .mv (.tmp 6)⟩,
 ⟨(some 46), none, .bin .sub (.tmp 44) (.tmp 45)⟩,
 ⟨(some 10), none, .mv (.tmp 46)⟩] [0, 1, 6, 7, 8, 9, 10])
 .skip))
 (.draw [[⟨(some 47), none, .mv (.tmp 0)⟩,
 ⟨(some 48), none, .mv (.tmp 9)⟩,
 ⟨(some 49), none, .mv (.tmp 0)⟩,
 ⟨(some 50), none, .mv (.tmp 1)⟩,
 ⟨(some 51), none, .mv (.tmp 10)⟩,
 ⟨(some 52), none, .bin .add (.tmp 50) (.tmp 51)⟩,
 ⟨(some 53), none, .mv (.tmp 0)⟩,
 ⟨(some 54), none, .mv (.tmp 1)⟩,
 ⟨(some 55), none, .mv (.tmp 10)⟩,
 ⟨(some 56), none, .bin .add (.tmp 54) (.tmp 55)⟩,
 ⟨(some 57), none, .idxL 1 (.tmp 53) (.tmp 56)⟩,
 ⟨(some 58), none, .load1 (.tmp 57)⟩,
 ⟨(some 59), none, .mv (.tmp 0)⟩,
 ⟨(some 60), none, .mv (.tmp 9)⟩,
 ⟨(some 61), none, .idxL 1 (.tmp 59) (.tmp 60)⟩,
 ⟨(some 62), none, .load1 (.tmp 61)⟩,
 ⟨(some 63), none, .idxL 1 (.tmp 47) (.tmp 48)⟩,
 ⟨none, none, .store 1 (.tmp 63) (.tmp 58)⟩,
 ⟨(some 64), none, .idxL 1 (.tmp 49) (.tmp 52)⟩,
 ⟨none, none, .store 1 (.tmp 64) (.tmp 62)⟩]] [0, 1, 6, 7, 8, 9]))))
 (.reg [⟨(some 34), none, .mv (.tmp 9)⟩,
 ⟨(some 35), none, .bin .add (.tmp 34) (.const (Value.int IntKind.i64 1))⟩,
 ⟨(some 9), none, .mv (.tmp 35)⟩] [0, 1, 6, 7, 8, 9]))))))))
 .skip)))⟩
theorem low73 : lowF Try.prog (assoc kp73) (assoc od73) 73 = some F73 := by kernel_rfl

/- slices.pdqsortOrdered[string] -/
def kp69 : List (Nat × List Nat) := [(0, [0, 1, 2, 3, 8, 63, 66, 67, 76, 77, 78, 79, 80, 81, 82, 83, 84, 85, 86]), (1, [0, 1, 2, 3, 8, 9, 63, 66, 67, 76, 77, 78, 79, 80, 81, 82, 83, 84, 85, 86]), (2, [0, 1, 2, 3, 8, 9, 10, 63, 66, 67, 76, 77, 78, 79, 80, 81, 82, 83, 84, 85, 86]), (3, [0, 1, 2, 3, 8, 9, 10, 23, 63, 66, 67, 76, 77, 78, 79, 80, 81, 82, 83, 84, 85, 86]), (4, []), (5, [0, 1, 2, 3, 8, 9, 10, 29, 63, 66, 67, 76, 77, 78, 79, 80, 81, 82, 83, 84, 85, 86]), (6, []), (7, [0, 1, 2, 3, 8, 9, 10, 35, 63, 66, 67, 76, 77, 78, 79, 80, 81, 82, 83, 84, 85, 86]), (8, [0, 1, 2, 3, 8, 9, 10, 63, 66, 67, 76, 77, 78, 79, 80, 81, 82, 83, 84, 85, 86]), (9, [0, 1, 2, 3, 8, 9, 10, 63, 66, 67, 76, 77, 78, 79, 80, 81, 82, 83, 84, 85, 86]), (10, [0, 1, 2, 3, 8, 9, 10, 11, 12, 63, 66, 67, 76, 77, 78, 79, 80, 81, 82, 83, 84, 85, 86]), (11, [0, 1, 2, 3, 8, 9, 10, 11, 12, 50, 63, 66, 67, 76, 77, 78, 79, 80, 81, 82, 83, 84, 85, 86]), (12, [0, 1, 2, 3, 8, 9, 10, 11, 63, 66, 67, 76, 77, 78, 79, 80, 81, 82, 83, 84, 85, 86]), (13, [0, 1, 2, 3, 8, 9, 10, 11, 63, 66, 67, 76, 77, 78, 79, 80, 81, 82, 83, 84, 85, 86]), (14, [0, 1, 2, 3, 8, 9, 10, 11, 12, 63, 66, 67, 76, 77, 78, 79, 80, 81, 82, 83, 84, 85, 86]), (15, [0, 1, 2, 3, 8, 9, 10, 11, 63, 66, 67, 68, 76, 77, 78, 79, 80, 81, 82, 83, 84, 85, 86]), (16, [0, 1, 2, 3, 8, 9, 10, 11, 63, 66, 67, 72, 76, 77, 78, 79, 80, 81, 82, 83, 84, 85, 86]), (17, [0, 1, 2, 3, 8, 9, 10, 11, 63, 66, 67, 76, 77, 78, 79, 80, 81, 82, 83, 84, 85, 86, 87]), (18, [0, 2, 3, 8, 9, 13, 63, 66, 67, 76, 77, 78, 79, 80, 81, 82, 83, 84, 85, 86]), (19, [0, 1, 2, 3, 8, 9, 63, 66, 67, 76, 77, 78, 79, 80, 81, 82, 83, 84, 85, 86]), (20, [0, 1, 2, 3, 10, 14, 15, 63, 66, 67, 76, 77, 78, 79, 80, 81, 82, 83, 84, 85, 86]), (21, [0, 1, 2, 3, 9, 10, 14, 63, 66, 67, 76, 77, 78, 79, 80, 81, 82, 83, 84, 85, 86]), (22, [0, 1, 2, 3, 9, 10, 14, 16, 17, 63, 66, 67, 76, 77, 78, 79, 80, 81, 82, 83, 84, 85, 86]), (23, [0, 1, 2, 3, 9, 14, 16, 17, 18, 63, 66, 67, 76, 77, 78, 79, 80, 81, 82, 83, 84, 85, 86]), (24, [0, 1, 2, 3, 9, 14, 16, 17, 18, 63, 66, 67, 76, 77, 78, 79, 80, 81, 82, 83, 84, 85, 86, 113]), (25, [0, 1, 2, 3, 8, 9, 14, 63, 66, 67, 76, 77, 78, 79, 80, 81, 82, 83, 84, 85, 86]), (26, [0, 2, 3, 8, 9, 14, 63, 66, 67, 76, 77, 78, 79, 80, 81, 82, 83, 84, 85, 86]), (27, [0, 1, 2, 3, 8, 9, 63, 66, 67, 76, 77, 78, 79, 80, 81, 82, 83, 84, 85, 86]), (28, [0, 1, 2, 3, 8, 9, 14, 63, 66, 67, 76, 77, 78, 79, 80, 81, 82, 83, 84, 85, 86]), (29, [0, 1, 3, 8, 9, 14, 63, 66, 67, 76, 77, 78, 79, 80, 81, 82, 83, 84, 85, 86]), (30, [0, 1, 2, 3, 8, 9, 63, 66, 67, 76, 77, 78, 79, 80, 81, 82, 83, 84, 85, 86])]
def od69 : List (Nat × List (List Nat)) := [(17, [[0, 1, 2, 3, 4, 5, 6, 7, 8, 9, 10, 11, 12, 13, 14]])]
def F69 : FIR := ⟨134, [],
 (.seq (.reg [⟨(some 8), none, .mv (.const (Value.bool true))⟩] [0, 1, 2, 3, 8, 63, 66, 67, 76, 77, 78, 79, 80, 81, 82, 83, 84, 85, 86])
 (.seq (.reg [⟨(some 9), none, .mv (.const (Value.bool true))⟩] [0, 1, 2, 3, 8, 9, 63, 66, 67, 76, 77, 78, 79, 80, 81, 82, 83, 84, 85, 86])
 (.block 0
 (.loop
 (.block 1
 (.seq (.reg [⟨(some 19), none, .mv (.tmp 2)⟩,
 ⟨(some 20), none, .mv (.tmp 1)⟩,
 ⟨(some 21), none, .bin .sub (.tmp 19) (.tmp 20)⟩,
 ⟨(some 10), none, .mv (.tmp 21)⟩] [0, 1, 2, 3, 8, 9, 10, 63, 66, 67, 76, 77, 78, 79, 80, 81, 82, 83, 84, 85, 86])
 (.seq (.seq (.reg [⟨(some 22), none, .mv (.tmp 10)⟩,
 ⟨(some 23), none, .bin .leq (.tmp 22) (.const (Value.int IntKind.i64 12))⟩] [0, 1, 2, 3, 8, 9, 10, 23, 63, 66, 67, 76, 77, 78, 79, 80, 81, 82, 83, 84, 85, 86])
 (.cond (.tmp 23)
 (.seq (.reg [⟨(some 24), none, .mv (.tmp 0)⟩,
 ⟨(some 25), none, .mv (.tmp 1)⟩,
 ⟨(some 26), none, .mv (.tmp 2)⟩,
 ⟨(some 27), none, .call 71 [(.tmp 24), (.tmp 25), (.tmp 26)]⟩] [])
 .ret)
 .skip))
 (.seq (.seq (.reg [⟨(some 28), none, .mv (.tmp 3)⟩,
 ⟨(some 29), none, .bin .eql (.tmp 28) (.const (Value.int IntKind.i64 0))⟩] [0, 1, 2, 3, 8, 9, 10, 29, 63, 66, 67, 76, 77, 78, 79, 80, 81, 82, 83, 84, 85, 86])
 (.cond (.tmp 29)
 (.seq (.reg [⟨(some 30), none, .mv (.tmp 0)⟩,
 ⟨(some 31), none, .mv (.tmp 1)⟩,
 ⟨(some 32), none, .mv (.tmp 2)⟩,
 ⟨(some 33), none, .call 72 [(.tmp 30), (.tmp 31), (.tmp 32)]⟩] [])
 .ret)
 .skip))
 (.seq (.seq (.reg [⟨(some 34), none, .mv (.tmp 8)⟩,
 ⟨(some 35), none, .un .not (.tmp 34)⟩] [0, 1, 2, 3, 8, 9, 10, 35, 63, 66, 67, 76, 77, 78, 79, 80, 81, 82, 83, 84, 85, 86])
 (.cond (.tmp 35)
 (.seq (.reg [⟨(some 36), none, .mv (.tmp 0)⟩,
 ⟨(some 37), none, .mv (.tmp 1)⟩,
 ⟨(some 38), none, .mv (.tmp 2)⟩,
 ⟨(some 39), none, .call 73 [(.tmp 36), (.tmp 37), (.tmp 38)]⟩] [0, 1, 2, 3, 8, 9, 10, 63, 66, 67, 76, 77, 78, 79, 80, 81, 82, 83, 84, 85, 86])
 (.reg [⟨(some 40), none, .mv (.tmp 3)⟩,
 ⟨(some 41), none, .bin .sub (.tmp 40) (.const (Value.int IntKind.i64 1))⟩,
 ⟨(some 3), none, .mv (.tmp 41)⟩] [0, 1, 2, 3, 8, 9, 10, 63, 66, 67, 76, 77, 78, 79, 80, 81, 82, 83, 84, 85, 86]))
 .skip))
 (.seq (.reg [⟨(some 43), none, .mv (.tmp 0)⟩,
 ⟨(some 44), none, .mv (.tmp 1)⟩,
 ⟨(some 45), none, .mv (.tmp 2)⟩,
 ⟨(some 46), none, .call 74 [(.tmp 43), (.tmp 44), (.tmp 45)]⟩,
 ⟨(some 42), none, .mv (.tmp 46)⟩,
 ⟨(some 47), none, .ext (.tmp 42) 0⟩,
 ⟨(some 48), none, .ext (.tmp 42) 1⟩,
 ⟨(some 11), none, .mv (.tmp 47)⟩,
 ⟨(some 12), none, .mv (.tmp 48)⟩] [0, 1, 2, 3, 8, 9, 10, 11, 12, 63, 66, 67, 76, 77, 78, 79, 80, 81, 82, 83, 84, 85, 86])
 (.seq (.seq (.reg [⟨(some 49), none, .mv (.tmp 12)⟩,
 ⟨(some 50), none, .bin .eql (.tmp 49) (.const (Value.int IntKind.i64 2))⟩] [0, 1, 2, 3, 8, 9, 10, 11, 12, 50, 63, 66, 67, 76, 77, 78, 79, 80, 81, 82, 83, 84, 85, 86])
 (.cond (.tmp 50)
 (.seq (.reg [⟨(some 51), none, .mv (.tmp 0)⟩,
 ⟨(some 52), none, .mv (.tmp 1)⟩,
 ⟨(some 53), none, .mv (.tmp 2)⟩,
 ⟨(some 54), none, .call 75 [(.tmp 51), (.tmp 52), (.tmp 53)]⟩] [0, 1, 2, 3, 8, 9, 10, 11, 63, 66, 67, 76, 77, 78, 79, 80, 81, 82, 83, 84, 85, 86])
 (.seq (.reg [⟨(some 55), none, .mv (.tmp 2)⟩,
 ⟨(some 56), none, .bin .sub (.tmp 55) (.const (Value.int IntKind.i64 1))⟩,
 ⟨(some 57), none, .mv (.tmp 11)⟩,
 ⟨(some 58), none, .mv (.tmp 1)⟩,
 ⟨(some 59), none, .bin .sub (.tmp 57) (.tmp 58)⟩,
 ⟨(some 60), none, .bin .sub (.tmp 56) (.tmp 59)⟩,
 ⟨(some 11), none, .mv (.tmp 60)⟩] [0, 1, 2, 3, 8, 9, 10, 11, 63, 66, 67, 76, 77, 78, 79, 80, 81, 82, 83, 84, 85, 86])
 (.reg [⟨(some 12), none, .mv (.const (Value.int IntKind.i64 1))⟩] [0, 1, 2, 3, 8, 9, 10, 11, 12, 63, 66, 67, 76, 77, 78, 79, 80, 81, 82, 83, 84, 85, 86])))
 .skip))
 (.seq (.seq (.reg [⟨(some 61), none, .mv (.tmp 8)⟩,
 ⟨(some 62), none, .mv (.tmp 61)⟩,
 ⟨(some 63), (some (62, true)), .mv (.tmp 9)⟩,
 ⟨(some 64), none, .pick (.tmp 62) (.tmp 63) (.const (Value.bool false))⟩,
 ⟨(some 65), none, .mv (.tmp 64)⟩,
 ⟨(some 66), (some (65, true)), .mv (.tmp 12)⟩,
 ⟨(some 67), (some (65, true)), .bin .eql (.tmp 66) (.const (Value.int IntKind.i64 1))⟩,
 ⟨(some 68), none, .pick (.tmp 65) (.tmp 67) (.const (Value.bool false))⟩] [0, 1, 2, 3, 8, 9, 10, 11, 63, 66, 67, 68, 76, 77, 78, 79, 80, 81, 82, 83, 84, 85, 86])
 (.cond (.tmp 68)
 (.seq (.reg [⟨(some 69), none, .mv (.tmp 0)⟩,
 ⟨(some 70), none, .mv (.tmp 1)⟩,
 ⟨(some 71), none, .mv (.tmp 2)⟩,
 ⟨(some 72), none, .call 76 [(.tmp 69), (.tmp 70), (.tmp 71)]⟩] [0, 1, 2, 3, 8, 9, 10, 11, 63, 66, 67, 72, 76, 77, 78, 79, 80, 81, 82, 83, 84, 85, 86])
 (.cond (.tmp 72)
 .ret
 .skip))
 .skip))
 (.seq (.seq (.draw [[⟨(some 73), none, .mv (.tmp 1)⟩,
 ⟨(some 74), none, .bin .gtr (.tmp 73) (.const (Value.int IntKind.i64 0))⟩,
 ⟨(some 75), none, .mv (.tmp 74)⟩,
 ⟨(some 76), (some (75, true)), .mv (.tmp 0)⟩,
 ⟨(some 77), (some (75, true)), .mv (.tmp 1)⟩,
 ⟨(some 78), (some (75, true)), .bin .sub (.tmp 77) (.const (Value.int IntKind.i64 1))⟩,
 ⟨(some 79), (some (75, true)), .idxL 1 (.tmp 76) (.tmp 78)⟩,
 ⟨(some 80), (some (75, true)), .load1 (.tmp 79)⟩,
 ⟨(some 81), (some (75, true)), .mv (.tmp 0)⟩,
 ⟨(some 82), (some (75, true)), .mv (.tmp 11)⟩,
 ⟨(some 83), (some (75, true)), .idxL 1 (.tmp 81) (.tmp 82)⟩,
 ⟨(some 84), (some (75, true)), .load1 (.tmp 83)⟩,
 ⟨(some 85), (some (75, true)), .call 77 [(.tmp 80), (.tmp 84)]⟩,
 ⟨(some 86), (some (75, true)), .un .not (.tmp 85)⟩,
 ⟨(some 87), none, .pick (.tmp 75) (.tmp 86) (.const (Value.bool false))⟩]] [0, 1, 2, 3, 8, 9, 10, 11, 63, 66, 67, 76, 77, 78, 79, 80, 81, 82, 83, 84, 85, 86, 87])
 (.cond (.tmp 87)
 (.seq (.reg [⟨(some 88), none, .mv (.tmp 0)⟩,
 ⟨(some 89), none, .mv (.tmp 1)⟩,
 ⟨(some 90), none, .mv (.tmp 2)⟩,
 ⟨(some 91), none, .mv (.tmp 11)⟩,
 ⟨(some 92), none, .call 78 [(.tmp 88), (.tmp 89), (.tmp 90), (.tmp 91)]⟩,
 ⟨(some 13), none, .mv (.tmp 92)⟩] [0, 2, 3, 8, 9, 13, 63, 66, 67, 76, 77, 78, 79, 80, 81, 82, 83, 84, 85, 86])
 (.seq (.reg [⟨(some 93), none, .mv (.tmp 13)⟩,
 ⟨(some 1), none, .mv (.tmp 93)⟩] [0, 1, 2, 3, 8, 9, 63, 66, 67, 76, 77, 78, 79, 80, 81, 82, 83, 84, 85, 86])
 (.exit 1)))
 .skip))
 (.seq (.reg [⟨(some 95), none, .mv (.tmp 0)⟩,
 ⟨(some 96), none, .mv (.tmp 1)⟩,
 ⟨(some 97), none, .mv (.tmp 2)⟩,
 ⟨(some 98), none, .mv (.tmp 11)⟩,
 ⟨(some 99), none, .call 79 [(.tmp 95), (.tmp 96), (.tmp 97), (.tmp 98)]⟩,
 ⟨(some 94), none, .mv (.tmp 99)⟩,
 ⟨(some 100), none, .ext (.tmp 94) 0⟩,
 ⟨(some 101), none, .ext (.tmp 94) 1⟩,
 ⟨(some 14), none, .mv (.tmp 100)⟩,
 ⟨(some 15), none, .mv (.tmp 101)⟩] [0, 1, 2, 3, 10, 14, 15, 63, 66, 67, 76, 77, 78, 79, 80, 81, 82, 83, 84, 85, 86])
 (.seq (.reg [⟨(some 102), none, .mv (.tmp 15)⟩,
 ⟨(some 9), none, .mv (.tmp 102)⟩] [0, 1, 2, 3, 9, 10, 14, 63, 66, 67, 76, 77, 78, 79, 80, 81, 82, 83, 84, 85, 86])
 (.seq (.reg [⟨(some 103), none, .mv (.tmp 14)⟩,
 ⟨(some 104), none, .mv (.tmp 1)⟩,
 ⟨(some 105), none, .bin .sub (.tmp 103) (.tmp 104)⟩,
 ⟨(some 106), none, .mv (.tmp 2)⟩,
 ⟨(some 107), none, .mv (.tmp 14)⟩,
 ⟨(some 108), none, .bin .sub (.tmp 106) (.tmp 107)⟩,
 ⟨(some 16), none, .mv (.tmp 105)⟩,
 ⟨(some 17), none, .mv (.tmp 108)⟩] [0, 1, 2, 3, 9, 10, 14, 16, 17, 63, 66, 67, 76, 77, 78, 79, 80, 81, 82, 83, 84, 85, 86])
 (.seq (.reg [⟨(some 109), none, .mv (.tmp 10)⟩,
 ⟨(some 110), none, .bin .quo (.tmp 109) (.const (Value.int IntKind.i64 8))⟩,
 ⟨(some 18), none, .mv (.tmp 110)⟩] [0, 1, 2, 3, 9, 14, 16, 17, 18, 63, 66, 67, 76, 77, 78, 79, 80, 81, 82, 83, 84, 85, 86])
 (.seq (.reg [⟨(some 111), none, .mv (.tmp 16)⟩,
 ⟨(some 112), none, .mv (.tmp 17)⟩,
 ⟨(some 113), none, .bin .lss (.tmp 111) (.tmp 112)⟩] [0, 1, 2, 3, 9, 14, 16, 17, 18, 63, 66, 67, 76, 77, 78, 79, 80, 81, 82, 83, 84, 85, 86, 113])
 (.cond (.tmp 113)
 (.seq (.reg [⟨(some 114), none, .mv (.tmp 16)⟩,
 ⟨(some 115), none, .mv (.tmp 18)⟩,
 ⟨(some 116), none, .bin .geq (.tmp 114) (.tmp 115)⟩,
 ⟨(some 8), none, .mv (.tmp 116)⟩] [0, 1, 2, 3, 8, 9, 14, 63, 66, 67, 76, 77, 78, 79, 80, 81, 82, 83, 84, 85, 86])
 (.seq (.reg [⟨(some 117), none, .mv (.tmp 0)⟩,
 ⟨(some 118), none, .mv (.tmp 1)⟩,
 ⟨(some 119), none, .mv (.tmp 14)⟩,
 ⟨(some 120), none, .mv (.tmp 3)⟩,
 ⟨(some 121), none, .call 69 [(.tmp 117), (.tmp 118), (.tmp 119), (.tmp 120)]⟩] [0, 2, 3, 8, 9, 14, 63, 66, 67, 76, 77, 78, 79, 80, 81, 82, 83, 84, 85, 86])
 (.reg [⟨(some 122), none, .mv (.tmp 14)⟩,
 ⟨(some 123), none, .bin .add (.tmp 122) (.const (Value.int IntKind.i64 1))⟩,
 ⟨(some 1), none, .mv (.tmp 123)⟩] [0, 1, 2, 3, 8, 9, 63, 66, 67, 76, 77, 78, 79, 80, 81, 82, 83, 84, 85, 86])))
 (.seq (.reg [⟨(some 124), none, .mv (.tmp 17)⟩,
 ⟨(some 125), none, .mv (.tmp 18)⟩,
 ⟨(some 126), none, .bin .geq (.tmp 124) (.tmp 125)⟩,
 ⟨(some 8), none, .mv (.tmp 126)⟩] [0, 1, 2, 3, 8, 9, 14, 63, 66, 67, 76, 77, 78, 79, 80, 81, 82, 83, 84, 85, 86])
 (.seq (.reg [⟨(some 127), none, .mv (.tmp 0)⟩,
 ⟨(some 128), none, .mv (.tmp 14)⟩,
 ⟨(some 129), none, .bin .add (.tmp 128) (.const (Value.int IntKind.i64 1))⟩,
 ⟨(some 130), none, .mv (.tmp 2)⟩,
 ⟨(some 131), none, .mv (.tmp 3)⟩,
 ⟨(some 132), none, .call 69 [(.tmp 127), (.tmp 129), (.tmp 130), (.tmp 131)]⟩] [0, 1, 3, 8, 9, 14, 63, 66, 67, 76, 77, 78, 79, 80, 81, 82, 83, 84, 85, 86])
 (.reg [⟨(some 133), none, .mv (.tmp 14)⟩,
 ⟨(some 2), none, .mv (.tmp 133)⟩] [0, 1, 2, 3, 8, 9, 63, 66, 67, 76, 77, 78, 79, 80, 81, 82, 83, 84, 85, 86]))))))))))))))))))))))⟩
theorem low69 : lowF Try.prog (assoc kp69) (assoc od69) 69 = some F69 := by kernel_rfl

/- slices.Sort[[]string,string] -/
def kp64 : List (Nat × List Nat) := [(0, [0, 2]), (1, [])]
def od64 : List (Nat × List (List Nat)) := []
def F64 : FIR := ⟨11, [],
 (.seq (.reg [⟨(some 3), none, .mv (.tmp 0)⟩,
 ⟨(some 4), none, .lenL (.tmp 3)⟩,
 ⟨(some 2), none, .mv (.tmp 4)⟩] [0, 2])
 (.reg [⟨(some 5), none, .mv (.tmp 0)⟩,
 ⟨(some 6), none, .mv (.tmp 2)⟩,
 ⟨(some 7), none, .mv (.tmp 2)⟩,
 ⟨(some 8), none, .conv .u64 (.tmp 7)⟩,
 ⟨(some 9), none, .call 70 [(.tmp 8)]⟩,
 ⟨(some 10), none, .call 69 [(.tmp 5), (.const (Value.int IntKind.i64 0)), (.tmp 6), (.tmp 9)]⟩] []))⟩
theorem low64 : lowF Try.prog (assoc kp64) (assoc od64) 64 = some F64 := by kernel_rfl

end Go.Proofs.Ytffmipimgodfdaa

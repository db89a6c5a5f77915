/-
 The code of functions, as terms: printed by a program, proved to be what the seat has.
-/
import Derived.Test.YtffmipimgodfdaaWM
import Derived.KernelRfl
import Derived.Test.YtffmipimgodfdaaProg
set_option linter.unusedSimpArgs false
set_option linter.unusedVariables false
namespace Go.Proofs.Ytffmipimgodfdaa
open Go Go.V
set_option maxRecDepth 100000
/- (*palaver/palaverref22.Table).is -/
def kp53 : List (Nat × List Nat) := [(0, [0, 1, 8, 9, 10, 11, 12, 13, 14]), (1, [4])]
def od53 : List (Nat × List (List Nat)) := []
def F53 : FIR := ⟨16, [.tmp 4],
 (.seq (.reg [⟨(some 4), none, .mv (.const (Value.bool false))⟩] [0, 1, 8, 9, 10, 11, 12, 13, 14])
 (.seq (.reg [⟨(some 5), none, .mv (.tmp 1)⟩,
 ⟨(some 6), none, .bin .geq (.tmp 5) (.const (Value.int IntKind.i64 0))⟩,
 ⟨(some 7), none, .mv (.tmp 6)⟩,
 ⟨(some 8), (some (7, true)), .mv (.tmp 1)⟩,
 ⟨(some 9), (some (7, true)), .mv (.tmp 0)⟩,
 ⟨(some 10), (some (7, true)), .nilck (.tmp 9)⟩,
 ⟨(some 11), (some (7, true)), .fld 0 (.tmp 10)⟩,
 ⟨(some 12), (some (7, true)), .load1 (.tmp 11)⟩,
 ⟨(some 13), (some (7, true)), .lenL (.tmp 12)⟩,
 ⟨(some 14), (some (7, true)), .bin .lss (.tmp 8) (.tmp 13)⟩,
 ⟨(some 15), none, .pick (.tmp 7) (.tmp 14) (.const (Value.bool false))⟩,
 ⟨(some 4), none, .mv (.tmp 15)⟩] [4])
 .ret))⟩
theorem low53 : lowF Try.prog (assoc kp53) (assoc od53) 53 = some F53 := by kernel_rfl

/- (*palaver/palaverref22.Table).find -/
def kp54 : List (Nat × List Nat) := [(0, [0, 1, 2]), (1, [0, 1, 2, 7]), (2, [0, 1, 2, 7, 17]), (3, [0, 1, 2, 7]), (4, [0, 1, 2, 7, 32]), (5, [6]), (6, [6])]
def od54 : List (Nat × List (List Nat)) := []
def F54 : FIR := ⟨34, [.tmp 6],
 (.seq (.reg [⟨(some 6), none, .mv (.const (Value.int IntKind.i64 0))⟩] [0, 1, 2])
 (.seq (.seq (.reg [⟨(some 7), none, .mv (.const (Value.int IntKind.i64 0))⟩] [0, 1, 2, 7])
 (.block 0
 (.loop
 (.seq (.seq (.reg [⟨(some 8), none, .mv (.tmp 7)⟩,
 ⟨(some 9), none, .mv (.tmp 0)⟩,
 ⟨(some 10), none, .nilck (.tmp 9)⟩,
 ⟨(some 11), none, .fld 1 (.tmp 10)⟩,
 ⟨(some 12), none, .load1 (.tmp 11)⟩,
 ⟨(some 13), none, .mv (.tmp 1)⟩,
 ⟨(some 14), none, .idxL 1 (.tmp 12) (.tmp 13)⟩,
 ⟨(some 15), none, .load1 (.tmp 14)⟩,
 ⟨(some 16), none, .lenL (.tmp 15)⟩,
 ⟨(some 17), none, .bin .lss (.tmp 8) (.tmp 16)⟩] [0, 1, 2, 7, 17])
 (.cond (.tmp 17)
 .skip
 (.exit 0)))
 (.seq (.block 1
 (.seq (.reg [⟨(some 20), none, .mv (.tmp 0)⟩,
 ⟨(some 21), none, .nilck (.tmp 20)⟩,
 ⟨(some 22), none, .fld 1 (.tmp 21)⟩,
 ⟨(some 23), none, .load1 (.tmp 22)⟩,
 ⟨(some 24), none, .mv (.tmp 1)⟩,
 ⟨(some 25), none, .idxL 1 (.tmp 23) (.tmp 24)⟩,
 ⟨(some 26), none, .load1 (.tmp 25)⟩,
 ⟨(some 27), none, .mv (.tmp 7)⟩,
 ⟨(some 28), none, .idxL 2 (.tmp 26) (.tmp 27)⟩,
 ⟨(some 29), none, .fld 0 (.tmp 28)⟩,
 ⟨(some 30), none, .load1 (.tmp 29)⟩,
 ⟨(some 31), none, .mv (.tmp 2)⟩,
 ⟨(some 32), none, .bin .eql (.tmp 30) (.tmp 31)⟩] [0, 1, 2, 7, 32])
 (.cond (.tmp 32)
 (.seq (.reg [⟨(some 33), none, .mv (.tmp 7)⟩,
 ⟨(some 6), none, .mv (.tmp 33)⟩] [6])
 .ret)
 .skip)))
 (.reg [⟨(some 18), none, .mv (.tmp 7)⟩,
 ⟨(some 19), none, .bin .add (.tmp 18) (.const (Value.int IntKind.i64 1))⟩,
 ⟨(some 7), none, .mv (.tmp 19)⟩] [0, 1, 2, 7]))))))
 (.seq (.reg [⟨(some 6), none, .mv (.const (Value.int IntKind.i64 (-1)))⟩] [6])
 .ret)))⟩
theorem low54 : lowF Try.prog (assoc kp54) (assoc od54) 54 = some F54 := by kernel_rfl

/- (*palaver/palaverref22.Table).forget -/
def kp55 : List (Nat × List Nat) := [(0, [0, 1, 4]), (1, [0, 1, 4, 8]), (2, [0, 1, 4]), (3, [0, 1, 4, 19]), (4, [0, 1, 4]), (5, [0, 1, 5]), (6, [0, 1, 5, 6]), (7, [0, 1, 5, 6, 32]), (8, [0, 1, 5, 6]), (9, [0, 1, 5, 6, 44]), (10, [0, 1, 5, 6]), (11, [])]
def od55 : List (Nat × List (List Nat)) := []
def F55 : FIR := ⟨59, [],
 (.seq (.seq (.reg [⟨(some 4), none, .mv (.const (Value.int IntKind.i64 0))⟩] [0, 1, 4])
 (.block 0
 (.loop
 (.seq (.seq (.reg [⟨(some 7), none, .mv (.tmp 4)⟩,
 ⟨(some 8), none, .bin .lss (.tmp 7) (.const (Value.int IntKind.i64 64))⟩] [0, 1, 4, 8])
 (.cond (.tmp 8)
 .skip
 (.exit 0)))
 (.seq (.block 1
 (.seq (.reg [⟨(some 11), none, .mv (.tmp 0)⟩,
 ⟨(some 12), none, .mv (.tmp 4)⟩,
 ⟨(some 13), none, .nilck (.tmp 11)⟩,
 ⟨(some 14), none, .fld 2 (.tmp 13)⟩,
 ⟨(some 15), none, .idxA 64 3 (.tmp 14) (.tmp 12)⟩,
 ⟨(some 16), none, .fld 1 (.tmp 15)⟩,
 ⟨(some 17), none, .load1 (.tmp 16)⟩,
 ⟨(some 18), none, .mv (.tmp 1)⟩,
 ⟨(some 19), none, .bin .eql (.tmp 17) (.tmp 18)⟩] [0, 1, 4, 19])
 (.cond (.tmp 19)
 (.reg [⟨(some 20), none, .mv (.tmp 0)⟩,
 ⟨(some 21), none, .mv (.tmp 4)⟩,
 ⟨(some 22), none, .build [(Value.int IntKind.i64 0), (Value.string ⟨#[]⟩), (Value.int IntKind.i64 0)] [(0, 1, (.const (Value.int IntKind.i64 (-1))))]⟩,
 ⟨(some 23), none, .nilck (.tmp 20)⟩,
 ⟨(some 24), none, .fld 2 (.tmp 23)⟩,
 ⟨(some 25), none, .idxA 64 3 (.tmp 24) (.tmp 21)⟩,
 ⟨none, none, .store 3 (.tmp 25) (.tmp 22)⟩] [0, 1, 4])
 .skip)))
 (.reg [⟨(some 9), none, .mv (.tmp 4)⟩,
 ⟨(some 10), none, .bin .add (.tmp 9) (.const (Value.int IntKind.i64 1))⟩,
 ⟨(some 4), none, .mv (.tmp 10)⟩] [0, 1, 4]))))))
 (.seq (.reg [⟨(some 5), none, .mv (.const (Value.slice none 0 0))⟩] [0, 1, 5])
 (.seq (.seq (.reg [⟨(some 6), none, .mv (.const (Value.int IntKind.i64 0))⟩] [0, 1, 5, 6])
 (.block 2
 (.loop
 (.seq (.seq (.reg [⟨(some 26), none, .mv (.tmp 6)⟩,
 ⟨(some 27), none, .mv (.tmp 0)⟩,
 ⟨(some 28), none, .nilck (.tmp 27)⟩,
 ⟨(some 29), none, .fld 194 (.tmp 28)⟩,
 ⟨(some 30), none, .load1 (.tmp 29)⟩,
 ⟨(some 31), none, .lenL (.tmp 30)⟩,
 ⟨(some 32), none, .bin .lss (.tmp 26) (.tmp 31)⟩] [0, 1, 5, 6, 32])
 (.cond (.tmp 32)
 .skip
 (.exit 2)))
 (.seq (.block 3
 (.seq (.reg [⟨(some 35), none, .mv (.tmp 0)⟩,
 ⟨(some 36), none, .nilck (.tmp 35)⟩,
 ⟨(some 37), none, .fld 194 (.tmp 36)⟩,
 ⟨(some 38), none, .load1 (.tmp 37)⟩,
 ⟨(some 39), none, .mv (.tmp 6)⟩,
 ⟨(some 40), none, .idxL 4 (.tmp 38) (.tmp 39)⟩,
 ⟨(some 41), none, .fld 1 (.tmp 40)⟩,
 ⟨(some 42), none, .load1 (.tmp 41)⟩,
 ⟨(some 43), none, .mv (.tmp 1)⟩,
 ⟨(some 44), none, .bin .neq (.tmp 42) (.tmp 43)⟩] [0, 1, 5, 6, 44])
 (.cond (.tmp 44)
 (.reg [⟨(some 45), none, .mv (.tmp 5)⟩,
 ⟨(some 46), none, .mv (.tmp 0)⟩,
 ⟨(some 47), none, .nilck (.tmp 46)⟩,
 ⟨(some 48), none, .fld 194 (.tmp 47)⟩,
 ⟨(some 49), none, .load1 (.tmp 48)⟩,
 ⟨(some 50), none, .mv (.tmp 6)⟩,
 ⟨(some 51), none, .idxL 4 (.tmp 49) (.tmp 50)⟩,
 ⟨(some 52), none, .loadN 4 (.tmp 51)⟩,
 ⟨(some 53), none, .bslice 116 1 [(Value.int IntKind.i64 0), (Value.string ⟨#[]⟩), (Value.slice none 0 0), (Value.slice none 0 0)] [(0, 4, (.tmp 52))]⟩,
 ⟨(some 54), none, .append 116 4 72 [(Value.int IntKind.i64 0), (Value.string ⟨#[]⟩), (Value.slice none 0 0), (Value.slice none 0 0)] (.tmp 45) (.tmp 53)⟩,
 ⟨(some 5), none, .mv (.tmp 54)⟩] [0, 1, 5, 6])
 .skip)))
 (.reg [⟨(some 33), none, .mv (.tmp 6)⟩,
 ⟨(some 34), none, .bin .add (.tmp 33) (.const (Value.int IntKind.i64 1))⟩,
 ⟨(some 6), none, .mv (.tmp 34)⟩] [0, 1, 5, 6]))))))
 (.reg [⟨(some 55), none, .mv (.tmp 0)⟩,
 ⟨(some 56), none, .mv (.tmp 5)⟩,
 ⟨(some 57), none, .nilck (.tmp 55)⟩,
 ⟨(some 58), none, .fld 194 (.tmp 57)⟩,
 ⟨none, none, .store 1 (.tmp 58) (.tmp 56)⟩] []))))⟩
theorem low55 : lowF Try.prog (assoc kp55) (assoc od55) 55 = some F55 := by kernel_rfl

/- (*palaver/palaverref22.Table).Flush -/
def kp28 : List (Nat × List Nat) := [(0, [0, 2]), (1, [0, 2, 4]), (2, [0, 2]), (3, [0, 2]), (4, [])]
def od28 : List (Nat × List (List Nat)) := []
def F28 : FIR := ⟨16, [],
 (.seq (.seq (.reg [⟨(some 2), none, .mv (.const (Value.int IntKind.i64 0))⟩] [0, 2])
 (.block 0
 (.loop
 (.seq (.seq (.reg [⟨(some 3), none, .mv (.tmp 2)⟩,
 ⟨(some 4), none, .bin .lss (.tmp 3) (.const (Value.int IntKind.i64 64))⟩] [0, 2, 4])
 (.cond (.tmp 4)
 .skip
 (.exit 0)))
 (.seq (.block 1
 (.reg [⟨(some 7), none, .mv (.tmp 0)⟩,
 ⟨(some 8), none, .mv (.tmp 2)⟩,
 ⟨(some 9), none, .build [(Value.int IntKind.i64 0), (Value.string ⟨#[]⟩), (Value.int IntKind.i64 0)] [(0, 1, (.const (Value.int IntKind.i64 (-1))))]⟩,
 ⟨(some 10), none, .nilck (.tmp 7)⟩,
 ⟨(some 11), none, .fld 2 (.tmp 10)⟩,
 ⟨(some 12), none, .idxA 64 3 (.tmp 11) (.tmp 8)⟩,
 ⟨none, none, .store 3 (.tmp 12) (.tmp 9)⟩] [0, 2]))
 (.reg [⟨(some 5), none, .mv (.tmp 2)⟩,
 ⟨(some 6), none, .bin .add (.tmp 5) (.const (Value.int IntKind.i64 1))⟩,
 ⟨(some 2), none, .mv (.tmp 6)⟩] [0, 2]))))))
 (.reg [⟨(some 13), none, .mv (.tmp 0)⟩,
 ⟨(some 14), none, .nilck (.tmp 13)⟩,
 ⟨(some 15), none, .fld 194 (.tmp 14)⟩,
 ⟨none, none, .store 1 (.tmp 15) (.const (Value.slice none 0 0))⟩] []))⟩
theorem low28 : lowF Try.prog (assoc kp28) (assoc od28) 28 = some F28 := by kernel_rfl

/- palaver/palaverref22.New -/
def kp16 : List (Nat × List Nat) := [(0, [0, 21, 22, 23, 24, 25, 26]), (1, [0, 8, 21, 22, 23, 24, 25, 26]), (2, [2, 3]), (3, [0, 4, 21, 22, 23, 24, 25, 26]), (4, [0, 4, 12, 21, 22, 23, 24, 25, 26]), (5, [0, 4, 21, 22, 23, 24, 25, 26]), (6, [0, 4, 21, 22, 23, 24, 25, 26, 27]), (7, [2, 3]), (8, [0, 5]), (9, [5]), (10, [5]), (11, [2, 3])]
def od16 : List (Nat × List (List Nat)) := []
def F16 : FIR := ⟨45, [.tmp 2, .tmp 3],
 (.seq (.reg [⟨(some 2), none, .mv (.const (Value.pointer none))⟩,
 ⟨(some 3), none, .mv (.const (Value.int IntKind.i64 0))⟩] [0, 21, 22, 23, 24, 25, 26])
 (.seq (.seq (.reg [⟨(some 6), none, .mv (.tmp 0)⟩,
 ⟨(some 7), none, .lenL (.tmp 6)⟩,
 ⟨(some 8), none, .bin .gtr (.tmp 7) (.const (Value.int IntKind.i64 4096))⟩] [0, 8, 21, 22, 23, 24, 25, 26])
 (.cond (.tmp 8)
 (.seq (.reg [⟨(some 2), none, .mv (.const (Value.pointer none))⟩,
 ⟨(some 3), none, .mv (.const (Value.int IntKind.i64 220))⟩] [2, 3])
 .ret)
 .skip))
 (.seq (.seq (.reg [⟨(some 4), none, .mv (.const (Value.int IntKind.i64 0))⟩] [0, 4, 21, 22, 23, 24, 25, 26])
 (.block 0
 (.loop
 (.seq (.seq (.reg [⟨(some 9), none, .mv (.tmp 4)⟩,
 ⟨(some 10), none, .mv (.tmp 0)⟩,
 ⟨(some 11), none, .lenL (.tmp 10)⟩,
 ⟨(some 12), none, .bin .lss (.tmp 9) (.tmp 11)⟩] [0, 4, 12, 21, 22, 23, 24, 25, 26])
 (.cond (.tmp 12)
 .skip
 (.exit 0)))
 (.seq (.block 1
 (.seq (.reg [⟨(some 15), none, .mv (.tmp 0)⟩,
 ⟨(some 16), none, .mv (.tmp 4)⟩,
 ⟨(some 17), none, .idxL 1 (.tmp 15) (.tmp 16)⟩,
 ⟨(some 18), none, .load1 (.tmp 17)⟩,
 ⟨(some 19), none, .bin .lss (.tmp 18) (.const (Value.int IntKind.i64 (-1)))⟩,
 ⟨(some 20), none, .mv (.tmp 19)⟩,
 ⟨(some 21), (some (20, false)), .mv (.tmp 0)⟩,
 ⟨(some 22), (some (20, false)), .mv (.tmp 4)⟩,
 ⟨(some 23), (some (20, false)), .idxL 1 (.tmp 21) (.tmp 22)⟩,
 ⟨(some 24), (some (20, false)), .load1 (.tmp 23)⟩,
 ⟨(some 25), (some (20, false)), .mv (.tmp 4)⟩,
 ⟨(some 26), (some (20, false)), .bin .geq (.tmp 24) (.tmp 25)⟩,
 ⟨(some 27), none, .pick (.tmp 20) (.const (Value.bool true)) (.tmp 26)⟩] [0, 4, 21, 22, 23, 24, 25, 26, 27])
 (.cond (.tmp 27)
 (.seq (.reg [⟨(some 2), none, .mv (.const (Value.pointer none))⟩,
 ⟨(some 3), none, .mv (.const (Value.int IntKind.i64 220))⟩] [2, 3])
 .ret)
 .skip)))
 (.reg [⟨(some 13), none, .mv (.tmp 4)⟩,
 ⟨(some 14), none, .bin .add (.tmp 13) (.const (Value.int IntKind.i64 1))⟩,
 ⟨(some 4), none, .mv (.tmp 14)⟩] [0, 4, 21, 22, 23, 24, 25, 26]))))))
 (.seq (.reg [⟨(some 28), none, .mv (.tmp 0)⟩,
 ⟨(some 29), none, .lenL (.tmp 28)⟩,
 ⟨(some 30), none, .mkslice 108 1 24 [(Value.slice none 0 0)] (.tmp 29) (.tmp 29)⟩,
 ⟨(some 31), none, .build [(Value.slice none 0 0), (Value.slice none 0 0), (Value.int IntKind.i64 0), (Value.string ⟨#[]⟩), (Value.int IntKind.i64 0), (Value.int IntKind.i64 0), (Value.string ⟨#[]⟩), (Value.int IntKind.i64 0), (Value.int IntKind.i64 0), (Value.string ⟨#[]⟩), (Value.int IntKind.i64 0), (Value.int IntKind.i64 0), (Value.string ⟨#[]⟩), (Value.int IntKind.i64 0), (Value.int IntKind.i64 0), (Value.string ⟨#[]⟩), (Value.int IntKind.i64 0), (Value.int IntKind.i64 0), (Value.string ⟨#[]⟩), (Value.int IntKind.i64 0), (Value.int IntKind.i64 0), (Value.string ⟨#[]⟩), (Value.int IntKind.i64 0), (Value.int IntKind.i64 0), (Value.string ⟨#[]⟩), (Value.int IntKind.i64 0), (Value.int IntKind.i64 0), (Value.string ⟨#[]⟩), (Value.int IntKind.i64 0), (Value.int IntKind.i64 0), (Value.string ⟨#[]⟩), (Value.int IntKind.i64 0), (Value.int IntKind.i64 0), (Value.string ⟨#[]⟩), (Value.int IntKind.i64 0), (Value.int IntKind.i64 0), (Value.string ⟨#[]⟩), (Value.int IntKind.i64 0), (Value.int IntKind.i64 0), (Value.string ⟨#[]⟩), (Value.int IntKind.i64 0), (Value.int IntKind.i64 0), (Value.string ⟨#[]⟩), (Value.int IntKind.i64 0), (Value.int IntKind.i64 0), (Value.string ⟨#[]⟩), (Value.int IntKind.i64 0), (Value.int IntKind.i64 0), (Value.string ⟨#[]⟩), (Value.int IntKind.i64 0), (Value.int IntKind.i64 0), (Value.string ⟨#[]⟩), (Value.int IntKind.i64 0), (Value.int IntKind.i64 0), (Value.string ⟨#[]⟩), (Value.int IntKind.i64 0), (Value.int IntKind.i64 0), (Value.string ⟨#[]⟩), (Value.int IntKind.i64 0), (Value.int IntKind.i64 0), (Value.string ⟨#[]⟩), (Value.int IntKind.i64 0), (Value.int IntKind.i64 0), (Value.string ⟨#[]⟩), (Value.int IntKind.i64 0), (Value.int IntKind.i64 0), (Value.string ⟨#[]⟩), (Value.int IntKind.i64 0), (Value.int IntKind.i64 0), (Value.string ⟨#[]⟩), (Value.int IntKind.i64 0), (Value.int IntKind.i64 0), (Value.string ⟨#[]⟩), (Value.int IntKind.i64 0), (Value.int IntKind.i64 0), (Value.string ⟨#[]⟩), (Value.int IntKind.i64 0), (Value.int IntKind.i64 0), (Value.string ⟨#[]⟩), (Value.int IntKind.i64 0), (Value.int IntKind.i64 0), (Value.string ⟨#[]⟩), (Value.int IntKind.i64 0), (Value.int IntKind.i64 0), (Value.string ⟨#[]⟩), (Value.int IntKind.i64 0), (Value.int IntKind.i64 0), (Value.string ⟨#[]⟩), (Value.int IntKind.i64 0), (Value.int IntKind.i64 0), (Value.string ⟨#[]⟩), (Value.int IntKind.i64 0), (Value.int IntKind.i64 0), (Value.string ⟨#[]⟩), (Value.int IntKind.i64 0), (Value.int IntKind.i64 0), (Value.string ⟨#[]⟩), (Value.int IntKind.i64 0), (Value.int IntKind.i64 0), (Value.string ⟨#[]⟩), (Value.int IntKind.i64 0), (Value.int IntKind.i64 0), (Value.string ⟨#[]⟩), (Value.int IntKind.i64 0), (Value.int IntKind.i64 0), (Value.string ⟨#[]⟩), (Value.int IntKind.i64 0), (Value.int IntKind.i64 0), (Value.string ⟨#[]⟩), (Value.int IntKind.i64 0), (Value.int IntKind.i64 0), (Value.string ⟨#[]⟩), (Value.int IntKind.i64 0), (Value.int IntKind.i64 0), (Value.string ⟨#[]⟩), (Value.int IntKind.i64 0), (Value.int IntKind.i64 0), (Value.string ⟨#[]⟩), (Value.int IntKind.i64 0), (Value.int IntKind.i64 0), (Value.string ⟨#[]⟩), (Value.int IntKind.i64 0), (Value.int IntKind.i64 0), (Value.string ⟨#[]⟩), (Value.int IntKind.i64 0), (Value.int IntKind.i64 0), (Value.string ⟨#[]⟩), (Value.int IntKind.i64 0), (Value.int IntKind.i64 0), (Value.string ⟨#[]⟩), (Value.int IntKind.i64 0), (Value.int IntKind.i64 0), (Value.string ⟨#[]⟩), (Value.int IntKind.i64 0), (Value.int IntKind.i64 0), (Value.string ⟨#[]⟩), (Value.int IntKind.i64 0), (Value.int IntKind.i64 0), (Value.string ⟨#[]⟩), (Value.int IntKind.i64 0), (Value.int IntKind.i64 0), (Value.string ⟨#[]⟩), (Value.int IntKind.i64 0), (Value.int IntKind.i64 0), (Value.string ⟨#[]⟩), (Value.int IntKind.i64 0), (Value.int IntKind.i64 0), (Value.string ⟨#[]⟩), (Value.int IntKind.i64 0), (Value.int IntKind.i64 0), (Value.string ⟨#[]⟩), (Value.int IntKind.i64 0), (Value.int IntKind.i64 0), (Value.string ⟨#[]⟩), (Value.int IntKind.i64 0), (Value.int IntKind.i64 0), (Value.string ⟨#[]⟩), (Value.int IntKind.i64 0), (Value.int IntKind.i64 0), (Value.string ⟨#[]⟩), (Value.int IntKind.i64 0), (Value.int IntKind.i64 0), (Value.string ⟨#[]⟩), (Value.int IntKind.i64 0), (Value.int IntKind.i64 0), (Value.string ⟨#[]⟩), (Value.int IntKind.i64 0), (Value.int IntKind.i64 0), (Value.string ⟨#[]⟩), (Value.int IntKind.i64 0), (Value.int IntKind.i64 0), (Value.string ⟨#[]⟩), (Value.int IntKind.i64 0), (Value.int IntKind.i64 0), (Value.string ⟨#[]⟩), (Value.int IntKind.i64 0), (Value.int IntKind.i64 0), (Value.string ⟨#[]⟩), (Value.int IntKind.i64 0), (Value.int IntKind.i64 0), (Value.string ⟨#[]⟩), (Value.int IntKind.i64 0), (Value.int IntKind.i64 0), (Value.string ⟨#[]⟩), (Value.int IntKind.i64 0), (Value.int IntKind.i64 0), (Value.string ⟨#[]⟩), (Value.int IntKind.i64 0), (Value.int IntKind.i64 0), (Value.string ⟨#[]⟩), (Value.int IntKind.i64 0), (Value.int IntKind.i64 0), (Value.string ⟨#[]⟩), (Value.int IntKind.i64 0), (Value.slice none 0 0), (Value.int IntKind.i64 0), (Value.int IntKind.i64 0), (Value.int IntKind.i64 0), (Value.int IntKind.i64 0), (Value.int IntKind.i64 0)] [(1, 1, (.tmp 30))]⟩,
 ⟨(some 32), none, .box 68 (.tmp 31)⟩,
 ⟨(some 5), none, .mv (.tmp 32)⟩] [0, 5])
 (.seq (.reg [⟨(some 33), none, .mv (.tmp 5)⟩,
 ⟨(some 34), none, .mv (.tmp 5)⟩,
 ⟨(some 35), none, .nilck (.tmp 34)⟩,
 ⟨(some 36), none, .fld 0 (.tmp 35)⟩,
 ⟨(some 37), none, .load1 (.tmp 36)⟩,
 ⟨(some 38), none, .mv (.tmp 0)⟩,
 ⟨(some 39), none, .append 3 1 8 [(Value.int IntKind.i64 0)] (.tmp 37) (.tmp 38)⟩,
 ⟨(some 40), none, .nilck (.tmp 33)⟩,
 ⟨(some 41), none, .fld 0 (.tmp 40)⟩,
 ⟨none, none, .store 1 (.tmp 41) (.tmp 39)⟩] [5])
 (.seq (.reg [⟨(some 42), none, .mv (.tmp 5)⟩,
 ⟨(some 43), none, .call 28 [(.tmp 42)]⟩] [5])
 (.seq (.reg [⟨(some 44), none, .mv (.tmp 5)⟩,
 ⟨(some 2), none, .mv (.tmp 44)⟩,
 ⟨(some 3), none, .mv (.const (Value.int IntKind.i64 0))⟩] [2, 3])
 .ret)))))))⟩
theorem low16 : lowF Try.prog (assoc kp16) (assoc od16) 16 = some F16 := by kernel_rfl

/- (*palaver/palaverref22.Table).Install -/
def kp30 : List (Nat × List Nat) := [(0, [0, 1, 2, 3, 18, 19, 20, 29, 30, 31, 32, 33, 34, 35, 36, 37]), (1, [0, 1, 2, 3, 13, 18, 19, 20, 29, 30, 31, 32, 33, 34, 35, 36, 37]), (2, [8]), (3, [0, 1, 2, 3, 21, 29, 30, 31, 32, 33, 34, 35, 36, 37]), (4, [8]), (5, [0, 1, 2, 3, 9, 29, 30, 31, 32, 33, 34, 35, 36, 37]), (6, [0, 1, 2, 3, 9, 38]), (7, [8]), (8, [0, 1, 2, 3, 9, 40]), (9, [0, 2]), (10, [0, 2]), (11, []), (12, [8])]
def od30 : List (Nat × List (List Nat)) := [(9, [[0, 1, 2, 3, 4, 5, 6, 7, 8, 9, 10, 11, 12, 13, 14, 15, 16, 17, 18], [0, 1, 2, 4, 5, 6, 7, 8, 3, 9, 10, 11, 12, 13, 14, 15, 16, 17, 18], [0, 1, 2, 4, 5, 6, 7, 8, 9, 10, 11, 3, 12, 13, 14, 15, 16, 17, 18], [0, 1, 2, 4, 5, 6, 7, 8, 9, 10, 11, 12, 13, 14, 15, 3, 16, 17, 18], [0, 1, 2, 4, 5, 6, 7, 8, 9, 10, 11, 12, 13, 14, 15, 16, 3, 17, 18], [0, 1, 2, 3, 4, 5, 6, 7, 8, 9, 10, 12, 13, 14, 15, 11, 16, 17, 18], [0, 1, 2, 4, 5, 6, 7, 8, 3, 9, 10, 12, 13, 14, 15, 11, 16, 17, 18], [0, 1, 2, 4, 5, 6, 7, 8, 9, 10, 12, 13, 14, 15, 3, 11, 16, 17, 18], [0, 1, 2, 4, 5, 6, 7, 8, 9, 10, 12, 13, 14, 15, 11, 3, 16, 17, 18], [0, 1, 2, 4, 5, 6, 7, 8, 9, 10, 12, 13, 14, 15, 11, 16, 3, 17, 18], [0, 1, 2, 3, 4, 5, 6, 7, 9, 12, 13, 14, 15, 8, 10, 11, 16, 17, 18], [0, 1, 2, 4, 5, 6, 7, 9, 12, 13, 14, 15, 3, 8, 10, 11, 16, 17, 18], [0, 1, 2, 4, 5, 6, 7, 9, 12, 13, 14, 15, 8, 3, 10, 11, 16, 17, 18], [0, 1, 2, 4, 5, 6, 7, 9, 12, 13, 14, 15, 8, 10, 11, 3, 16, 17, 18], [0, 1, 2, 4, 5, 6, 7, 9, 12, 13, 14, 15, 8, 10, 11, 16, 3, 17, 18]])]
def F30 : FIR := ⟨73, [.tmp 8],
 (.seq (.reg [⟨(some 8), none, .mv (.const (Value.int IntKind.i64 0))⟩] [0, 1, 2, 3, 18, 19, 20, 29, 30, 31, 32, 33, 34, 35, 36, 37])
 (.seq (.seq (.reg [⟨(some 10), none, .mv (.tmp 0)⟩,
 ⟨(some 11), none, .mv (.tmp 1)⟩,
 ⟨(some 12), none, .call 53 [(.tmp 10), (.tmp 11)]⟩,
 ⟨(some 13), none, .un .not (.tmp 12)⟩] [0, 1, 2, 3, 13, 18, 19, 20, 29, 30, 31, 32, 33, 34, 35, 36, 37])
 (.cond (.tmp 13)
 (.seq (.reg [⟨(some 8), none, .mv (.const (Value.int IntKind.i64 220))⟩] [8])
 .ret)
 .skip))
 (.seq (.seq (.reg [⟨(some 14), none, .mv (.tmp 2)⟩,
 ⟨(some 15), none, .lenS (.tmp 14)⟩,
 ⟨(some 16), none, .bin .lss (.tmp 15) (.const (Value.int IntKind.i64 1))⟩,
 ⟨(some 17), none, .mv (.tmp 16)⟩,
 ⟨(some 18), (some (17, false)), .mv (.tmp 2)⟩,
 ⟨(some 19), (some (17, false)), .lenS (.tmp 18)⟩,
 ⟨(some 20), (some (17, false)), .bin .gtr (.tmp 19) (.const (Value.int IntKind.i64 640))⟩,
 ⟨(some 21), none, .pick (.tmp 17) (.const (Value.bool true)) (.tmp 20)⟩] [0, 1, 2, 3, 21, 29, 30, 31, 32, 33, 34, 35, 36, 37])
 (.cond (.tmp 21)
 (.seq (.reg [⟨(some 8), none, .mv (.const (Value.int IntKind.i64 221))⟩] [8])
 .ret)
 .skip))
 (.seq (.reg [⟨(some 22), none, .mv (.tmp 0)⟩,
 ⟨(some 23), none, .mv (.tmp 1)⟩,
 ⟨(some 24), none, .mv (.tmp 2)⟩,
 ⟨(some 25), none, .call 54 [(.tmp 22), (.tmp 23), (.tmp 24)]⟩,
 ⟨(some 9), none, .mv (.tmp 25)⟩] [0, 1, 2, 3, 9, 29, 30, 31, 32, 33, 34, 35, 36, 37])
 (.seq (.seq (.reg [⟨(some 26), none, .mv (.tmp 9)⟩,
 ⟨(some 27), none, .bin .lss (.tmp 26) (.const (Value.int IntKind.i64 0))⟩,
 ⟨(some 28), none, .mv (.tmp 27)⟩,
 ⟨(some 29), (some (28, true)), .mv (.tmp 0)⟩,
 ⟨(some 30), (some (28, true)), .nilck (.tmp 29)⟩,
 ⟨(some 31), (some (28, true)), .fld 1 (.tmp 30)⟩,
 ⟨(some 32), (some (28, true)), .load1 (.tmp 31)⟩,
 ⟨(some 33), (some (28, true)), .mv (.tmp 1)⟩,
 ⟨(some 34), (some (28, true)), .idxL 1 (.tmp 32) (.tmp 33)⟩,
 ⟨(some 35), (some (28, true)), .load1 (.tmp 34)⟩,
 ⟨(some 36), (some (28, true)), .lenL (.tmp 35)⟩,
 ⟨(some 37), (some (28, true)), .bin .geq (.tmp 36) (.const (Value.int IntKind.i64 4096))⟩,
 ⟨(some 38), none, .pick (.tmp 28) (.tmp 37) (.const (Value.bool false))⟩] [0, 1, 2, 3, 9, 38])
 (.cond (.tmp 38)
 (.seq (.reg [⟨(some 8), none, .mv (.const (Value.int IntKind.i64 222))⟩] [8])
 .ret)
 .skip))
 (.seq (.seq (.reg [⟨(some 39), none, .mv (.tmp 9)⟩,
 ⟨(some 40), none, .bin .lss (.tmp 39) (.const (Value.int IntKind.i64 0))⟩] [0, 1, 2, 3, 9, 40])
 (.cond (.tmp 40)
 (.draw [[⟨(some 41), none, .mv (.tmp 0)⟩,
 ⟨(some 42), none, .nilck (.tmp 41)⟩,
 ⟨(some 43), none, .fld 1 (.tmp 42)⟩,
 ⟨(some 44), none, .load1 (.tmp 43)⟩,
 ⟨(some 45), none, .mv (.tmp 1)⟩,
 ⟨(some 46), none, .mv (.tmp 0)⟩,
 ⟨(some 47), none, .nilck (.tmp 46)⟩,
 ⟨(some 48), none, .fld 1 (.tmp 47)⟩,
 ⟨(some 49), none, .load1 (.tmp 48)⟩,
 ⟨(some 50), none, .mv (.tmp 1)⟩,
 ⟨(some 51), none, .idxL 1 (.tmp 49) (.tmp 50)⟩,
 ⟨(some 52), none, .load1 (.tmp 51)⟩,
 ⟨(some 53), none, .mv (.tmp 2)⟩,
 ⟨(some 54), none, .mv (.tmp 3)⟩,
 ⟨(some 55), none, .build [(Value.string ⟨#[]⟩), (Value.int IntKind.i64 0)] [(0, 1, (.tmp 53)), (1, 1, (.tmp 54))]⟩,
 ⟨(some 56), none, .bslice 110 1 [(Value.string ⟨#[]⟩), (Value.int IntKind.i64 0)] [(0, 2, (.tmp 55))]⟩,
 ⟨(some 57), none, .append 110 2 24 [(Value.string ⟨#[]⟩), (Value.int IntKind.i64 0)] (.tmp 52) (.tmp 56)⟩,
 ⟨(some 58), none, .idxL 1 (.tmp 44) (.tmp 45)⟩,
 ⟨none, none, .store 1 (.tmp 58) (.tmp 57)⟩],
 [⟨(some 41), none, .mv (.tmp 0)⟩,
 ⟨(some 42), none, .nilck (.tmp 41)⟩,
 ⟨(some 43), none, .fld 1 (.tmp 42)⟩,
 ⟨(some 45), none, .mv (.tmp 1)⟩,
 ⟨(some 46), none, .mv (.tmp 0)⟩,
 ⟨(some 47), none, .nilck (.tmp 46)⟩,
 ⟨(some 48), none, .fld 1 (.tmp 47)⟩,
 ⟨(some 49), none, .load1 (.tmp 48)⟩,
 ⟨(some 44), none, .load1 (.tmp 43)⟩,
 ⟨(some 50), none, .mv (.tmp 1)⟩,
 ⟨(some 51), none, .idxL 1 (.tmp 49) (.tmp 50)⟩,
 ⟨(some 52), none, .load1 (.tmp 51)⟩,
 ⟨(some 53), none, .mv (.tmp 2)⟩,
 ⟨(some 54), none, .mv (.tmp 3)⟩,
 ⟨(some 55), none, .build [(Value.string ⟨#[]⟩), (Value.int IntKind.i64 0)] [(0, 1, (.tmp 53)), (1, 1, (.tmp 54))]⟩,
 ⟨(some 56), none, .bslice 110 1 [(Value.string ⟨#[]⟩), (Value.int IntKind.i64 0)] [(0, 2, (.tmp 55))]⟩,
 ⟨(some 57), none, .append 110 2 24 [(Value.string ⟨#[]⟩), (Value.int IntKind.i64 0)] (.tmp 52) (.tmp 56)⟩,
 ⟨(some 58), none, .idxL 1 (.tmp 44) (.tmp 45)⟩,
 ⟨none, none, .store 1 (.tmp 58) (.tmp 57)⟩],
 [⟨(some 41), none, .mv (.tmp 0)⟩,
 ⟨(some 42), none, .nilck (.tmp 41)⟩,
 ⟨(some 43), none, .fld 1 (.tmp 42)⟩,
 ⟨(some 45), none, .mv (.tmp 1)⟩,
 ⟨(some 46), none, .mv (.tmp 0)⟩,
 ⟨(some 47), none, .nilck (.tmp 46)⟩,
 ⟨(some 48), none, .fld 1 (.tmp 47)⟩,
 ⟨(some 49), none, .load1 (.tmp 48)⟩,
 ⟨(some 50), none, .mv (.tmp 1)⟩,
 ⟨(some 51), none, .idxL 1 (.tmp 49) (.tmp 50)⟩,
 ⟨(some 52), none, .load1 (.tmp 51)⟩,
 ⟨(some 44), none, .load1 (.tmp 43)⟩,
 ⟨(some 53), none, .mv (.tmp 2)⟩,
 ⟨(some 54), none, .mv (.tmp 3)⟩,
 ⟨(some 55), none, .build [(Value.string ⟨#[]⟩), (Value.int IntKind.i64 0)] [(0, 1, (.tmp 53)), (1, 1, (.tmp 54))]⟩,
 ⟨(some 56), none, .bslice 110 1 [(Value.string ⟨#[]⟩), (Value.int IntKind.i64 0)] [(0, 2, (.tmp 55))]⟩,
 ⟨(some 57), none, .append 110 2 24 [(Value.string ⟨#[]⟩), (Value.int IntKind.i64 0)] (.tmp 52) (.tmp 56)⟩,
 ⟨(some 58), none, .idxL 1 (.tmp 44) (.tmp 45)⟩,
 ⟨none, none, .store 1 (.tmp 58) (.tmp 57)⟩],
 [⟨(some 41), none, .mv (.tmp 0)⟩,
 ⟨(some 42), none, .nilck (.tmp 41)⟩,
 ⟨(some 43), none, .fld 1 (.tmp 42)⟩,
 ⟨(some 45), none, .mv (.tmp 1)⟩,
 ⟨(some 46), none, .mv (.tmp 0)⟩,
 ⟨(some 47), none, .nilck (.tmp 46)⟩,
 ⟨(some 48), none, .fld 1 (.tmp 47)⟩,
 ⟨(some 49), none, .load1 (.tmp 48)⟩,
 ⟨(some 50), none, .mv (.tmp 1)⟩,
 ⟨(some 51), none, .idxL 1 (.tmp 49) (.tmp 50)⟩,
 ⟨(some 52), none, .load1 (.tmp 51)⟩,
 ⟨(some 53), none, .mv (.tmp 2)⟩,
 ⟨(some 54), none, .mv (.tmp 3)⟩,
 ⟨(some 55), none, .build [(Value.string ⟨#[]⟩), (Value.int IntKind.i64 0)] [(0, 1, (.tmp 53)), (1, 1, (.tmp 54))]⟩,
 ⟨(some 56), none, .bslice 110 1 [(Value.string ⟨#[]⟩), (Value.int IntKind.i64 0)] [(0, 2, (.tmp 55))]⟩,
 ⟨(some 44), none, .load1 (.tmp 43)⟩,
 ⟨(some 57), none, .append 110 2 24 [(Value.string ⟨#[]⟩), (Value.int IntKind.i64 0)] (.tmp 52) (.tmp 56)⟩,
 ⟨(some 58), none, .idxL 1 (.tmp 44) (.tmp 45)⟩,
 ⟨none, none, .store 1 (.tmp 58) (.tmp 57)⟩],
 [⟨(some 41), none, .mv (.tmp 0)⟩,
 ⟨(some 42), none, .nilck (.tmp 41)⟩,
 ⟨(some 43), none, .fld 1 (.tmp 42)⟩,
 ⟨(some 45), none, .mv (.tmp 1)⟩,
 ⟨(some 46), none, .mv (.tmp 0)⟩,
 ⟨(some 47), none, .nilck (.tmp 46)⟩,
 ⟨(some 48), none, .fld 1 (.tmp 47)⟩,
 ⟨(some 49), none, .load1 (.tmp 48)⟩,
 ⟨(some 50), none, .mv (.tmp 1)⟩,
 ⟨(some 51), none, .idxL 1 (.tmp 49) (.tmp 50)⟩,
 ⟨(some 52), none, .load1 (.tmp 51)⟩,
 ⟨(some 53), none, .mv (.tmp 2)⟩,
 ⟨(some 54), none, .mv (.tmp 3)⟩,
 ⟨(some 55), none, .build [(Value.string ⟨#[]⟩), (Value.int IntKind.i64 0)] [(0, 1, (.tmp 53)), (1, 1, (.tmp 54))]⟩,
 ⟨(some 56), none, .bslice 110 1 [(Value.string ⟨#[]⟩), (Value.int IntKind.i64 0)] [(0, 2, (.tmp 55))]⟩,
 ⟨(some 57), none, .append 110 2 24 [(Value.string ⟨#[]⟩), (Value.int IntKind.i64 0)] (.tmp 52) (.tmp 56)⟩,
 ⟨(some 44), none, .load1 (.tmp 43)⟩,
 ⟨(some 58), none, .idxL 1 (.tmp 44) (.tmp 45)⟩,
 ⟨none, none, .store 1 (.tmp 58) (.tmp 57)⟩],
 [⟨(some 41), none, .mv (.tmp 0)⟩,
 ⟨(some 42), none, .nilck (.tmp 41)⟩,
 ⟨(some 43), none, .fld 1 (.tmp 42)⟩,
 ⟨(some 44), none, .load1 (.tmp 43)⟩,
 ⟨(some 45), none, .mv (.tmp 1)⟩,
 ⟨(some 46), none, .mv (.tmp 0)⟩,
 ⟨(some 47), none, .nilck (.tmp 46)⟩,
 ⟨(some 48), none, .fld 1 (.tmp 47)⟩,
 ⟨(some 49), none, .load1 (.tmp 48)⟩,
 ⟨(some 50), none, .mv (.tmp 1)⟩,
 ⟨(some 51), none, .idxL 1 (.tmp 49) (.tmp 50)⟩,
 ⟨(some 53), none, .mv (.tmp 2)⟩,
 ⟨(some 54), none, .mv (.tmp 3)⟩,
 ⟨(some 55), none, .build [(Value.string ⟨#[]⟩), (Value.int IntKind.i64 0)] [(0, 1, (.tmp 53)), (1, 1, (.tmp 54))]⟩,
 ⟨(some 56), none, .bslice 110 1 [(Value.string ⟨#[]⟩), (Value.int IntKind.i64 0)] [(0, 2, (.tmp 55))]⟩,
 ⟨(some 52), none, .load1 (.tmp 51)⟩,
 ⟨(some 57), none, .append 110 2 24 [(Value.string ⟨#[]⟩), (Value.int IntKind.i64 0)] (.tmp 52) (.tmp 56)⟩,
 ⟨(some 58), none, .idxL 1 (.tmp 44) (.tmp 45)⟩,
 ⟨none, none, .store 1 (.tmp 58) (.tmp 57)⟩],
 [⟨(some 41), none, .mv (.tmp 0)⟩,
 ⟨(some 42), none, .nilck (.tmp 41)⟩,
 ⟨(some 43), none, .fld 1 (.tmp 42)⟩,
 ⟨(some 45), none, .mv (.tmp 1)⟩,
 ⟨(some 46), none, .mv (.tmp 0)⟩,
 ⟨(some 47), none, .nilck (.tmp 46)⟩,
 ⟨(some 48), none, .fld 1 (.tmp 47)⟩,
 ⟨(some 49), none, .load1 (.tmp 48)⟩,
 ⟨(some 44), none, .load1 (.tmp 43)⟩,
 ⟨(some 50), none, .mv (.tmp 1)⟩,
 ⟨(some 51), none, .idxL 1 (.tmp 49) (.tmp 50)⟩,
 ⟨(some 53), none, .mv (.tmp 2)⟩,
 ⟨(some 54), none, .mv (.tmp 3)⟩,
 ⟨(some 55), none, .build [(Value.string ⟨#[]⟩), (Value.int IntKind.i64 0)] [(0, 1, (.tmp 53)), (1, 1, (.tmp 54))]⟩,
 ⟨(some 56), none, .bslice 110 1 [(Value.string ⟨#[]⟩), (Value.int IntKind.i64 0)] [(0, 2, (.tmp 55))]⟩,
 ⟨(some 52), none, .load1 (.tmp 51)⟩,
 ⟨(some 57), none, .append 110 2 24 [(Value.string ⟨#[]⟩), (Value.int IntKind.i64 0)] (.tmp 52) (.tmp 56)⟩,
 ⟨(some 58), none, .idxL 1 (.tmp 44) (.tmp 45)⟩,
 ⟨none, none, .store 1 (.tmp 58) (.tmp 57)⟩],
 [⟨(some 41), none, .mv (.tmp 0)⟩,
 ⟨(some 42), none, .nilck (.tmp 41)⟩,
 ⟨(some 43), none, .fld 1 (.tmp 42)⟩,
 ⟨(some 45), none, .mv (.tmp 1)⟩,
 ⟨(some 46), none, .mv (.tmp 0)⟩,
 ⟨(some 47), none, .nilck (.tmp 46)⟩,
 ⟨(some 48), none, .fld 1 (.tmp 47)⟩,
 ⟨(some 49), none, .load1 (.tmp 48)⟩,
 ⟨(some 50), none, .mv (.tmp 1)⟩,
 ⟨(some 51), none, .idxL 1 (.tmp 49) (.tmp 50)⟩,
 ⟨(some 53), none, .mv (.tmp 2)⟩,
 ⟨(some 54), none, .mv (.tmp 3)⟩,
 ⟨(some 55), none, .build [(Value.string ⟨#[]⟩), (Value.int IntKind.i64 0)] [(0, 1, (.tmp 53)), (1, 1, (.tmp 54))]⟩,
 ⟨(some 56), none, .bslice 110 1 [(Value.string ⟨#[]⟩), (Value.int IntKind.i64 0)] [(0, 2, (.tmp 55))]⟩,
 ⟨(some 44), none, .load1 (.tmp 43)⟩,
 ⟨(some 52), none, .load1 (.tmp 51)⟩,
 ⟨(some 57), none, .append 110 2 24 [(Value.string ⟨#[]⟩), (Value.int IntKind.i64 0)] (.tmp 52) (.tmp 56)⟩,
 ⟨(some 58), none, .idxL 1 (.tmp 44) (.tmp 45)⟩,
 ⟨none, none, .store 1 (.tmp 58) (.tmp 57)⟩],
 [⟨(some 41), none, .mv (.tmp 0)⟩,
 ⟨(some 42), none, .nilck (.tmp 41)⟩,
 ⟨(some 43), none, .fld 1 (.tmp 42)⟩,
 ⟨(some 45), none, .mv (.tmp 1)⟩,
 ⟨(some 46), none, .mv (.tmp 0)⟩,
 ⟨(some 47), none, .nilck (.tmp 46)⟩,
 ⟨(some 48), none, .fld 1 (.tmp 47)⟩,
 ⟨(some 49), none, .load1 (.tmp 48)⟩,
 ⟨(some 50), none, .mv (.tmp 1)⟩,
 ⟨(some 51), none, .idxL 1 (.tmp 49) (.tmp 50)⟩,
 ⟨(some 53), none, .mv (.tmp 2)⟩,
 ⟨(some 54), none, .mv (.tmp 3)⟩,
 ⟨(some 55), none, .build [(Value.string ⟨#[]⟩), (Value.int IntKind.i64 0)] [(0, 1, (.tmp 53)), (1, 1, (.tmp 54))]⟩,
 ⟨(some 56), none, .bslice 110 1 [(Value.string ⟨#[]⟩), (Value.int IntKind.i64 0)] [(0, 2, (.tmp 55))]⟩,
 ⟨(some 52), none, .load1 (.tmp 51)⟩,
 ⟨(some 44), none, .load1 (.tmp 43)⟩,
 ⟨(some 57), none, .append 110 2 24 [(Value.string ⟨#[]⟩), (Value.int IntKind.i64 0)] (.tmp 52) (.tmp 56)⟩,
 ⟨(some 58), none, .idxL 1 (.tmp 44) (.tmp 45)⟩,
 ⟨none, none, .store 1 (.tmp 58) (.tmp 57)⟩],
 [⟨(some 41), none, .mv (.tmp 0)⟩,
 ⟨(some 42), none, .nilck (.tmp 41)⟩,
 ⟨(some 43), none, .fld 1 (.tmp 42)⟩,
 ⟨(some 45), none, .mv (.tmp 1)⟩,
 ⟨(some 46), none, .mv (.tmp 0)⟩,
 ⟨(some 47), none, .nilck (.tmp 46)⟩,
 ⟨(some 48), none, .fld 1 (.tmp 47)⟩,
 ⟨(some 49), none, .load1 (.tmp 48)⟩,
 ⟨(some 50), none, .mv (.tmp 1)⟩,
 ⟨(some 51), none, .idxL 1 (.tmp 49) (.tmp 50)⟩,
 ⟨(some 53), none, .mv (.tmp 2)⟩,
 ⟨(some 54), none, .mv (.tmp 3)⟩,
 ⟨(some 55), none, .build [(Value.string ⟨#[]⟩), (Value.int IntKind.i64 0)] [(0, 1, (.tmp 53)), (1, 1, (.tmp 54))]⟩,
 ⟨(some 56), none, .bslice 110 1 [(Value.string ⟨#[]⟩), (Value.int IntKind.i64 0)] [(0, 2, (.tmp 55))]⟩,
 ⟨(some 52), none, .load1 (.tmp 51)⟩,
 ⟨(some 57), none, .append 110 2 24 [(Value.string ⟨#[]⟩), (Value.int IntKind.i64 0)] (.tmp 52) (.tmp 56)⟩,
 ⟨(some 44), none, .load1 (.tmp 43)⟩,
 ⟨(some 58), none, .idxL 1 (.tmp 44) (.tmp 45)⟩,
 ⟨none, none, .store 1 (.tmp 58) (.tmp 57)⟩],
 [⟨(some 41), none, .mv (.tmp 0)⟩,
 ⟨(some 42), none, .nilck (.tmp 41)⟩,
 ⟨(some 43), none, .fld 1 (.tmp 42)⟩,
 ⟨(some 44), none, .load1 (.tmp 43)⟩,
 ⟨(some 45), none, .mv (.tmp 1)⟩,
 ⟨(some 46), none, .mv (.tmp 0)⟩,
 ⟨(some 47), none, .nilck (.tmp 46)⟩,
 ⟨(some 48), none, .fld 1 (.tmp 47)⟩,
 ⟨(some 50), none, .mv (.tmp 1)⟩,
 ⟨(some 53), none, .mv (.tmp 2)⟩,
 ⟨(some 54), none, .mv (.tmp 3)⟩,
 ⟨(some 55), none, .build [(Value.string ⟨#[]⟩), (Value.int IntKind.i64 0)] [(0, 1, (.tmp 53)), (1, 1, (.tmp 54))]⟩,
 ⟨(some 56), none, .bslice 110 1 [(Value.string ⟨#[]⟩), (Value.int IntKind.i64 0)] [(0, 2, (.tmp 55))]⟩,
 ⟨(some 49), none, .load1 (.tmp 48)⟩,
 ⟨(some 51), none, .idxL 1 (.tmp 49) (.tmp 50)⟩,
 ⟨(some 52), none, .load1 (.tmp 51)⟩,
 ⟨(some 57), none, .append 110 2 24 [(Value.string ⟨#[]⟩), (Value.int IntKind.i64 0)] (.tmp 52) (.tmp 56)⟩,
 ⟨(some 58), none, .idxL 1 (.tmp 44) (.tmp 45)⟩,
 ⟨none, none, .store 1 (.tmp 58) (.tmp 57)⟩],
 [⟨(some 41), none, .mv (.tmp 0)⟩,
 ⟨(some 42), none, .nilck (.tmp 41)⟩,
 ⟨(some 43), none, .fld 1 (.tmp 42)⟩,
 ⟨(some 45), none, .mv (.tmp 1)⟩,
 ⟨(some 46), none, .mv (.tmp 0)⟩,
 ⟨(some 47), none, .nilck (.tmp 46)⟩,
 ⟨(some 48), none, .fld 1 (.tmp 47)⟩,
 ⟨(some 50), none, .mv (.tmp 1)⟩,
 ⟨(some 53), none, .mv (.tmp 2)⟩,
 ⟨(some 54), none, .mv (.tmp 3)⟩,
 ⟨(some 55), none, .build [(Value.string ⟨#[]⟩), (Value.int IntKind.i64 0)] [(0, 1, (.tmp 53)), (1, 1, (.tmp 54))]⟩,
 ⟨(some 56), none, .bslice 110 1 [(Value.string ⟨#[]⟩), (Value.int IntKind.i64 0)] [(0, 2, (.tmp 55))]⟩,
 ⟨(some 44), none, .load1 (.tmp 43)⟩,
 ⟨(some 49), none, .load1 (.tmp 48)⟩,
 ⟨(some 51), none, .idxL 1 (.tmp 49) (.tmp 50)⟩,
 ⟨(some 52), none, .load1 (.tmp 51)⟩,
 ⟨(some 57), none, .append 110 2 24 [(Value.string ⟨#[]⟩), (Value.int IntKind.i64 0)] (.tmp 52) (.tmp 56)⟩,
 ⟨(some 58), none, .idxL 1 (.tmp 44) (.tmp 45)⟩,
 ⟨none, none, .store 1 (.tmp 58) (.tmp 57)⟩],
 [⟨(some 41), none, .mv (.tmp 0)⟩,
 ⟨(some 42), none, .nilck (.tmp 41)⟩,
 ⟨(some 43), none, .fld 1 (.tmp 42)⟩,
 ⟨(some 45), none, .mv (.tmp 1)⟩,
 ⟨(some 46), none, .mv (.tmp 0)⟩,
 ⟨(some 47), none, .nilck (.tmp 46)⟩,
 ⟨(some 48), none, .fld 1 (.tmp 47)⟩,
 ⟨(some 50), none, .mv (.tmp 1)⟩,
 ⟨(some 53), none, .mv (.tmp 2)⟩,
 ⟨(some 54), none, .mv (.tmp 3)⟩,
 ⟨(some 55), none, .build [(Value.string ⟨#[]⟩), (Value.int IntKind.i64 0)] [(0, 1, (.tmp 53)), (1, 1, (.tmp 54))]⟩,
 ⟨(some 56), none, .bslice 110 1 [(Value.string ⟨#[]⟩), (Value.int IntKind.i64 0)] [(0, 2, (.tmp 55))]⟩,
 ⟨(some 49), none, .load1 (.tmp 48)⟩,
 ⟨(some 44), none, .load1 (.tmp 43)⟩,
 ⟨(some 51), none, .idxL 1 (.tmp 49) (.tmp 50)⟩,
 ⟨(some 52), none, .load1 (.tmp 51)⟩,
 ⟨(some 57), none, .append 110 2 24 [(Value.string ⟨#[]⟩), (Value.int IntKind.i64 0)] (.tmp 52) (.tmp 56)⟩,
 ⟨(some 58), none, .idxL 1 (.tmp 44) (.tmp 45)⟩,
 ⟨none, none, .store 1 (.tmp 58) (.tmp 57)⟩],
 [⟨(some 41), none, .mv (.tmp 0)⟩,
 ⟨(some 42), none, .nilck (.tmp 41)⟩,
 ⟨(some 43), none, .fld 1 (.tmp 42)⟩,
 ⟨(some 45), none, .mv (.tmp 1)⟩,
 ⟨(some 46), none, .mv (.tmp 0)⟩,
 ⟨(some 47), none, .nilck (.tmp 46)⟩,
 ⟨(some 48), none, .fld 1 (.tmp 47)⟩,
 ⟨(some 50), none, .mv (.tmp 1)⟩,
 ⟨(some 53), none, .mv (.tmp 2)⟩,
 ⟨(some 54), none, .mv (.tmp 3)⟩,
 ⟨(some 55), none, .build [(Value.string ⟨#[]⟩), (Value.int IntKind.i64 0)] [(0, 1, (.tmp 53)), (1, 1, (.tmp 54))]⟩,
 ⟨(some 56), none, .bslice 110 1 [(Value.string ⟨#[]⟩), (Value.int IntKind.i64 0)] [(0, 2, (.tmp 55))]⟩,
 ⟨(some 49), none, .load1 (.tmp 48)⟩,
 ⟨(some 51), none, .idxL 1 (.tmp 49) (.tmp 50)⟩,
 ⟨(some 52), none, .load1 (.tmp 51)⟩,
 ⟨(some 44), none, .load1 (.tmp 43)⟩,
 ⟨(some 57), none, .append 110 2 24 [(Value.string ⟨#[]⟩), (Value.int IntKind.i64 0)] (.tmp 52) (.tmp 56)⟩,
 ⟨(some 58), none, .idxL 1 (.tmp 44) (.tmp 45)⟩,
 ⟨none, none, .store 1 (.tmp 58) (.tmp 57)⟩],
 [⟨(some 41), none, .mv (.tmp 0)⟩,
 ⟨(some 42), none, .nilck (.tmp 41)⟩,
 ⟨(some 43), none, .fld 1 (.tmp 42)⟩,
 ⟨(some 45), none, .mv (.tmp 1)⟩,
 ⟨(some 46), none, .mv (.tmp 0)⟩,
 ⟨(some 47), none, .nilck (.tmp 46)⟩,
 ⟨(some 48), none, .fld 1 (.tmp 47)⟩,
 ⟨(some 50), none, .mv (.tmp 1)⟩,
 ⟨(some 53), none, .mv (.tmp 2)⟩,
 ⟨(some 54), none, .mv (.tmp 3)⟩,
 ⟨(some 55), none, .build [(Value.string ⟨#[]⟩), (Value.int IntKind.i64 0)] [(0, 1, (.tmp 53)), (1, 1, (.tmp 54))]⟩,
 ⟨(some 56), none, .bslice 110 1 [(Value.string ⟨#[]⟩), (Value.int IntKind.i64 0)] [(0, 2, (.tmp 55))]⟩,
 ⟨(some 49), none, .load1 (.tmp 48)⟩,
 ⟨(some 51), none, .idxL 1 (.tmp 49) (.tmp 50)⟩,
 ⟨(some 52), none, .load1 (.tmp 51)⟩,
 ⟨(some 57), none, .append 110 2 24 [(Value.string ⟨#[]⟩), (Value.int IntKind.i64 0)] (.tmp 52) (.tmp 56)⟩,
 ⟨(some 44), none, .load1 (.tmp 43)⟩,
 ⟨(some 58), none, .idxL 1 (.tmp 44) (.tmp 45)⟩,
 ⟨none, none, .store 1 (.tmp 58) (.tmp 57)⟩]] [0, 2])
 (.reg [⟨(some 59), none, .mv (.tmp 0)⟩,
 ⟨(some 60), none, .nilck (.tmp 59)⟩,
 ⟨(some 61), none, .fld 1 (.tmp 60)⟩,
 ⟨(some 62), none, .load1 (.tmp 61)⟩,
 ⟨(some 63), none, .mv (.tmp 1)⟩,
 ⟨(some 64), none, .idxL 1 (.tmp 62) (.tmp 63)⟩,
 ⟨(some 65), none, .load1 (.tmp 64)⟩,
 ⟨(some 66), none, .mv (.tmp 9)⟩,
 ⟨(some 67), none, .mv (.tmp 3)⟩,
 ⟨(some 68), none, .idxL 2 (.tmp 65) (.tmp 66)⟩,
 ⟨(some 69), none, .fld 1 (.tmp 68)⟩,
 ⟨none, none, .store 1 (.tmp 69) (.tmp 67)⟩] [0, 2])))
 (.seq (.reg [⟨(some 70), none, .mv (.tmp 0)⟩,
 ⟨(some 71), none, .mv (.tmp 2)⟩,
 ⟨(some 72), none, .call 55 [(.tmp 70), (.tmp 71)]⟩] [])
 (.seq (.reg [⟨(some 8), none, .mv (.const (Value.int IntKind.i64 0))⟩] [8])
 .ret))))))))⟩
theorem low30 : lowF Try.prog (assoc kp30) (assoc od30) 30 = some F30 := by kernel_rfl

/- (*palaver/palaverref22.Table).Remove -/
def kp31 : List (Nat × List Nat) := [(0, [0, 1, 2]), (1, [0, 1, 2, 12]), (2, [6]), (3, [0, 1, 2, 7]), (4, [0, 1, 2, 7, 18]), (5, [6]), (6, [0, 1, 2, 7, 8]), (7, [0, 1, 2, 7, 8]), (8, [0, 2]), (9, []), (10, [6])]
def od31 : List (Nat × List (List Nat)) := [(8, [[0, 1, 2, 3, 4, 5, 6, 7, 8, 9, 10, 11, 12, 13, 14, 15, 16, 17, 18], [0, 1, 2, 4, 5, 6, 7, 8, 9, 10, 11, 12, 13, 14, 15, 16, 3, 17, 18]])]
def F31 : FIR := ⟨51, [.tmp 6],
 (.seq (.reg [⟨(some 6), none, .mv (.const (Value.int IntKind.i64 0))⟩] [0, 1, 2])
 (.seq (.seq (.reg [⟨(some 9), none, .mv (.tmp 0)⟩,
 ⟨(some 10), none, .mv (.tmp 1)⟩,
 ⟨(some 11), none, .call 53 [(.tmp 9), (.tmp 10)]⟩,
 ⟨(some 12), none, .un .not (.tmp 11)⟩] [0, 1, 2, 12])
 (.cond (.tmp 12)
 (.seq (.reg [⟨(some 6), none, .mv (.const (Value.int IntKind.i64 220))⟩] [6])
 .ret)
 .skip))
 (.seq (.reg [⟨(some 13), none, .mv (.tmp 0)⟩,
 ⟨(some 14), none, .mv (.tmp 1)⟩,
 ⟨(some 15), none, .mv (.tmp 2)⟩,
 ⟨(some 16), none, .call 54 [(.tmp 13), (.tmp 14), (.tmp 15)]⟩,
 ⟨(some 7), none, .mv (.tmp 16)⟩] [0, 1, 2, 7])
 (.seq (.seq (.reg [⟨(some 17), none, .mv (.tmp 7)⟩,
 ⟨(some 18), none, .bin .lss (.tmp 17) (.const (Value.int IntKind.i64 0))⟩] [0, 1, 2, 7, 18])
 (.cond (.tmp 18)
 (.seq (.reg [⟨(some 6), none, .mv (.const (Value.int IntKind.i64 223))⟩] [6])
 .ret)
 .skip))
 (.seq (.reg [⟨(some 8), none, .mv (.const (Value.slice none 0 0))⟩] [0, 1, 2, 7, 8])
 (.seq (.reg [⟨(some 19), none, .mv (.tmp 8)⟩,
 ⟨(some 20), none, .mv (.tmp 0)⟩,
 ⟨(some 21), none, .nilck (.tmp 20)⟩,
 ⟨(some 22), none, .fld 1 (.tmp 21)⟩,
 ⟨(some 23), none, .load1 (.tmp 22)⟩,
 ⟨(some 24), none, .mv (.tmp 1)⟩,
 ⟨(some 25), none, .idxL 1 (.tmp 23) (.tmp 24)⟩,
 ⟨(some 26), none, .load1 (.tmp 25)⟩,
 ⟨(some 27), none, .mv (.tmp 7)⟩,
 ⟨(some 28), none, .slcL 2 (.tmp 26) none (some (.tmp 27)) none⟩,
 ⟨(some 29), none, .append 110 2 24 [(Value.string ⟨#[]⟩), (Value.int IntKind.i64 0)] (.tmp 19) (.tmp 28)⟩,
 ⟨(some 8), none, .mv (.tmp 29)⟩] [0, 1, 2, 7, 8])
 (.seq (.draw [[⟨(some 30), none, .mv (.tmp 0)⟩,
 ⟨(some 31), none, .nilck (.tmp 30)⟩,
 ⟨(some 32), none, .fld 1 (.tmp 31)⟩,
 ⟨(some 33), none, .load1 (.tmp 32)⟩,
 ⟨(some 34), none, .mv (.tmp 1)⟩,
 ⟨(some 35), none, .mv (.tmp 8)⟩,
 ⟨(some 36), none, .mv (.tmp 0)⟩,
 ⟨(some 37), none, .nilck (.tmp 36)⟩,
 ⟨(some 38), none, .fld 1 (.tmp 37)⟩,
 ⟨(some 39), none, .load1 (.tmp 38)⟩,
 ⟨(some 40), none, .mv (.tmp 1)⟩,
 ⟨(some 41), none, .idxL 1 (.tmp 39) (.tmp 40)⟩,
 ⟨(some 42), none, .load1 (.tmp 41)⟩,
 ⟨(some 43), none, .mv (.tmp 7)⟩,
 ⟨(some 44), none, .bin .add (.tmp 43) (.const (Value.int IntKind.i64 1))⟩,
 ⟨(some 45), none, .slcL 2 (.tmp 42) (some (.tmp 44)) none none⟩,
 ⟨(some 46), none, .append 110 2 24 [(Value.string ⟨#[]⟩), (Value.int IntKind.i64 0)] (.tmp 35) (.tmp 45)⟩,
 ⟨(some 47), none, .idxL 1 (.tmp 33) (.tmp 34)⟩,
 ⟨none, none, .store 1 (.tmp 47) (.tmp 46)⟩],
 [⟨(some 30), none, .mv (.tmp 0)⟩,
 ⟨(some 31), none, .nilck (.tmp 30)⟩,
 ⟨(some 32), none, .fld 1 (.tmp 31)⟩,
 ⟨(some 34), none, .mv (.tmp 1)⟩,
 ⟨(some 35), none, .mv (.tmp 8)⟩,
 ⟨(some 36), none, .mv (.tmp 0)⟩,
 ⟨(some 37), none, .nilck (.tmp 36)⟩,
 ⟨(some 38), none, .fld 1 (.tmp 37)⟩,
 ⟨(some 39), none, .load1 (.tmp 38)⟩,
 ⟨(some 40), none, .mv (.tmp 1)⟩,
 ⟨(some 41), none, .idxL 1 (.tmp 39) (.tmp 40)⟩,
 ⟨(some 42), none, .load1 (.tmp 41)⟩,
 ⟨(some 43), none, .mv (.tmp 7)⟩,
 ⟨(some 44), none, .bin .add (.tmp 43) (.const (Value.int IntKind.i64 1))⟩,
 ⟨(some 45), none, .slcL 2 (.tmp 42) (some (.tmp 44)) none none⟩,
 ⟨(some 46), none, .append 110 2 24 [(Value.string ⟨#[]⟩), (Value.int IntKind.i64 0)] (.tmp 35) (.tmp 45)⟩,
 ⟨(some 33), none, .load1 (.tmp 32)⟩,
 ⟨(some 47), none, .idxL 1 (.tmp 33) (.tmp 34)⟩,
 ⟨none, none, .store 1 (.tmp 47) (.tmp 46)⟩]] [0, 2])
 (.seq (.reg [⟨(some 48), none, .mv (.tmp 0)⟩,
 ⟨(some 49), none, .mv (.tmp 2)⟩,
 ⟨(some 50), none, .call 55 [(.tmp 48), (.tmp 49)]⟩] [])
 (.seq (.reg [⟨(some 6), none, .mv (.const (Value.int IntKind.i64 0))⟩] [6])
 .ret)))))))))⟩
theorem low31 : lowF Try.prog (assoc kp31) (assoc od31) 31 = some F31 := by kernel_rfl

/- (*palaver/palaverref22.Table).Own -/
def kp32 : List (Nat × List Nat) := [(0, [0, 1, 2]), (1, [0, 1, 2, 12]), (2, [6, 7]), (3, [0, 1, 8]), (4, [0, 1, 8, 18]), (5, [6, 7]), (6, [6, 7])]
def od32 : List (Nat × List (List Nat)) := []
def F32 : FIR := ⟨30, [.tmp 6, .tmp 7],
 (.seq (.reg [⟨(some 6), none, .mv (.const (Value.int IntKind.i64 0))⟩,
 ⟨(some 7), none, .mv (.const (Value.bool false))⟩] [0, 1, 2])
 (.seq (.seq (.reg [⟨(some 9), none, .mv (.tmp 0)⟩,
 ⟨(some 10), none, .mv (.tmp 1)⟩,
 ⟨(some 11), none, .call 53 [(.tmp 9), (.tmp 10)]⟩,
 ⟨(some 12), none, .un .not (.tmp 11)⟩] [0, 1, 2, 12])
 (.cond (.tmp 12)
 (.seq (.reg [⟨(some 6), none, .mv (.const (Value.int IntKind.i64 0))⟩,
 ⟨(some 7), none, .mv (.const (Value.bool false))⟩] [6, 7])
 .ret)
 .skip))
 (.seq (.reg [⟨(some 13), none, .mv (.tmp 0)⟩,
 ⟨(some 14), none, .mv (.tmp 1)⟩,
 ⟨(some 15), none, .mv (.tmp 2)⟩,
 ⟨(some 16), none, .call 54 [(.tmp 13), (.tmp 14), (.tmp 15)]⟩,
 ⟨(some 8), none, .mv (.tmp 16)⟩] [0, 1, 8])
 (.seq (.seq (.reg [⟨(some 17), none, .mv (.tmp 8)⟩,
 ⟨(some 18), none, .bin .lss (.tmp 17) (.const (Value.int IntKind.i64 0))⟩] [0, 1, 8, 18])
 (.cond (.tmp 18)
 (.seq (.reg [⟨(some 6), none, .mv (.const (Value.int IntKind.i64 0))⟩,
 ⟨(some 7), none, .mv (.const (Value.bool false))⟩] [6, 7])
 .ret)
 .skip))
 (.seq (.reg [⟨(some 19), none, .mv (.tmp 0)⟩,
 ⟨(some 20), none, .nilck (.tmp 19)⟩,
 ⟨(some 21), none, .fld 1 (.tmp 20)⟩,
 ⟨(some 22), none, .load1 (.tmp 21)⟩,
 ⟨(some 23), none, .mv (.tmp 1)⟩,
 ⟨(some 24), none, .idxL 1 (.tmp 22) (.tmp 23)⟩,
 ⟨(some 25), none, .load1 (.tmp 24)⟩,
 ⟨(some 26), none, .mv (.tmp 8)⟩,
 ⟨(some 27), none, .idxL 2 (.tmp 25) (.tmp 26)⟩,
 ⟨(some 28), none, .fld 1 (.tmp 27)⟩,
 ⟨(some 29), none, .load1 (.tmp 28)⟩,
 ⟨(some 6), none, .mv (.tmp 29)⟩,
 ⟨(some 7), none, .mv (.const (Value.bool true))⟩] [6, 7])
 .ret)))))⟩
theorem low32 : lowF Try.prog (assoc kp32) (assoc od32) 32 = some F32 := by kernel_rfl

/- (*palaver/palaverref22.Table).Selectors -/
def kp34 : List (Nat × List Nat) := [(0, [0, 1, 52, 53, 54, 55, 56, 57, 58, 59, 62, 63, 64, 65, 66, 67, 68]), (1, [0, 1, 13, 52, 53, 54, 55, 56, 57, 58, 59, 62, 63, 64, 65, 66, 67, 68]), (2, [4, 5]), (3, [0, 1, 6, 52, 53, 54, 55, 56, 57, 58, 59, 62, 63, 64, 65, 66, 67, 68]), (4, [0, 1, 6, 24, 52, 53, 54, 55, 56, 57, 58, 59, 62, 63, 64, 65, 66, 67, 68]), (5, [0, 1, 6, 7, 52, 53, 54, 55, 56, 57, 58, 59, 62, 63, 64, 65, 66, 67, 68]), (6, [0, 1, 6, 7, 8, 52, 53, 54, 55, 56, 57, 58, 59, 62, 63, 64, 65, 66, 67, 68]), (7, [0, 1, 6, 7, 8, 34, 52, 53, 54, 55, 56, 57, 58, 59, 62, 63, 64, 65, 66, 67, 68]), (8, [0, 1, 6, 7, 8, 52, 53, 54, 55, 56, 57, 58, 59, 62, 63, 64, 65, 66, 67, 68]), (9, [0, 1, 6, 7, 8, 9, 52, 53, 54, 55, 56, 57, 58, 59, 62, 63, 64, 65, 66, 67, 68]), (10, [0, 1, 6, 7, 8, 9, 52, 53, 54, 55, 56, 57, 58, 59, 62, 63, 64, 65, 66, 67, 68, 69]), (11, [0, 1, 6, 7, 8, 52, 53, 54, 55, 56, 57, 58, 59, 62, 63, 64, 65, 66, 67, 68]), (12, [0, 1, 6, 52, 53, 54, 55, 56, 57, 58, 59, 62, 63, 64, 65, 66, 67, 68]), (13, [4, 5])]
def od34 : List (Nat × List (List Nat)) := []
def F34 : FIR := ⟨76, [.tmp 4, .tmp 5],
 (.seq (.reg [⟨(some 4), none, .mv (.const (Value.slice none 0 0))⟩,
 ⟨(some 5), none, .mv (.const (Value.int IntKind.i64 0))⟩] [0, 1, 52, 53, 54, 55, 56, 57, 58, 59, 62, 63, 64, 65, 66, 67, 68])
 (.seq (.seq (.reg [⟨(some 10), none, .mv (.tmp 0)⟩,
 ⟨(some 11), none, .mv (.tmp 1)⟩,
 ⟨(some 12), none, .call 53 [(.tmp 10), (.tmp 11)]⟩,
 ⟨(some 13), none, .un .not (.tmp 12)⟩] [0, 1, 13, 52, 53, 54, 55, 56, 57, 58, 59, 62, 63, 64, 65, 66, 67, 68])
 (.cond (.tmp 13)
 (.seq (.reg [⟨(some 4), none, .mv (.const (Value.slice none 0 0))⟩,
 ⟨(some 5), none, .mv (.const (Value.int IntKind.i64 220))⟩] [4, 5])
 .ret)
 .skip))
 (.seq (.reg [⟨(some 6), none, .mv (.const (Value.slice none 0 0))⟩] [0, 1, 6, 52, 53, 54, 55, 56, 57, 58, 59, 62, 63, 64, 65, 66, 67, 68])
 (.seq (.block 0
 (.loop
 (.seq (.seq (.reg [⟨(some 14), none, .mv (.tmp 6)⟩,
 ⟨(some 15), none, .lenL (.tmp 14)⟩,
 ⟨(some 16), none, .mv (.tmp 0)⟩,
 ⟨(some 17), none, .nilck (.tmp 16)⟩,
 ⟨(some 18), none, .fld 1 (.tmp 17)⟩,
 ⟨(some 19), none, .load1 (.tmp 18)⟩,
 ⟨(some 20), none, .mv (.tmp 1)⟩,
 ⟨(some 21), none, .idxL 1 (.tmp 19) (.tmp 20)⟩,
 ⟨(some 22), none, .load1 (.tmp 21)⟩,
 ⟨(some 23), none, .lenL (.tmp 22)⟩,
 ⟨(some 24), none, .bin .lss (.tmp 15) (.tmp 23)⟩] [0, 1, 6, 24, 52, 53, 54, 55, 56, 57, 58, 59, 62, 63, 64, 65, 66, 67, 68])
 (.cond (.tmp 24)
 .skip
 (.exit 0)))
 (.block 1
 (.seq (.reg [⟨(some 7), none, .mv (.const (Value.string ⟨#[]⟩))⟩] [0, 1, 6, 7, 52, 53, 54, 55, 56, 57, 58, 59, 62, 63, 64, 65, 66, 67, 68])
 (.seq (.seq (.reg [⟨(some 8), none, .mv (.const (Value.int IntKind.i64 0))⟩] [0, 1, 6, 7, 8, 52, 53, 54, 55, 56, 57, 58, 59, 62, 63, 64, 65, 66, 67, 68])
 (.block 2
 (.loop
 (.seq (.seq (.reg [⟨(some 25), none, .mv (.tmp 8)⟩,
 ⟨(some 26), none, .mv (.tmp 0)⟩,
 ⟨(some 27), none, .nilck (.tmp 26)⟩,
 ⟨(some 28), none, .fld 1 (.tmp 27)⟩,
 ⟨(some 29), none, .load1 (.tmp 28)⟩,
 ⟨(some 30), none, .mv (.tmp 1)⟩,
 ⟨(some 31), none, .idxL 1 (.tmp 29) (.tmp 30)⟩,
 ⟨(some 32), none, .load1 (.tmp 31)⟩,
 ⟨(some 33), none, .lenL (.tmp 32)⟩,
 ⟨(some 34), none, .bin .lss (.tmp 25) (.tmp 33)⟩] [0, 1, 6, 7, 8, 34, 52, 53, 54, 55, 56, 57, 58, 59, 62, 63, 64, 65, 66, 67, 68])
 (.cond (.tmp 34)
 .skip
 (.exit 2)))
 (.seq (.block 3
 (.seq (.reg [⟨(some 37), none, .mv (.tmp 0)⟩,
 ⟨(some 38), none, .nilck (.tmp 37)⟩,
 ⟨(some 39), none, .fld 1 (.tmp 38)⟩,
 ⟨(some 40), none, .load1 (.tmp 39)⟩,
 ⟨(some 41), none, .mv (.tmp 1)⟩,
 ⟨(some 42), none, .idxL 1 (.tmp 40) (.tmp 41)⟩,
 ⟨(some 43), none, .load1 (.tmp 42)⟩,
 ⟨(some 44), none, .mv (.tmp 8)⟩,
 ⟨(some 45), none, .idxL 2 (.tmp 43) (.tmp 44)⟩,
 ⟨(some 46), none, .fld 0 (.tmp 45)⟩,
 ⟨(some 47), none, .load1 (.tmp 46)⟩,
 ⟨(some 9), none, .mv (.tmp 47)⟩] [0, 1, 6, 7, 8, 9, 52, 53, 54, 55, 56, 57, 58, 59, 62, 63, 64, 65, 66, 67, 68])
 (.seq (.reg [⟨(some 48), none, .mv (.tmp 6)⟩,
 ⟨(some 49), none, .lenL (.tmp 48)⟩,
 ⟨(some 50), none, .bin .eql (.tmp 49) (.const (Value.int IntKind.i64 0))⟩,
 ⟨(some 51), none, .mv (.tmp 50)⟩,
 ⟨(some 52), (some (51, false)), .mv (.tmp 9)⟩,
 ⟨(some 53), (some (51, false)), .mv (.tmp 6)⟩,
 ⟨(some 54), (some (51, false)), .mv (.tmp 6)⟩,
 ⟨(some 55), (some (51, false)), .lenL (.tmp 54)⟩,
 ⟨(some 56), (some (51, false)), .bin .sub (.tmp 55) (.const (Value.int IntKind.i64 1))⟩,
 ⟨(some 57), (some (51, false)), .idxL 1 (.tmp 53) (.tmp 56)⟩,
 ⟨(some 58), (some (51, false)), .load1 (.tmp 57)⟩,
 ⟨(some 59), (some (51, false)), .bin .gtr (.tmp 52) (.tmp 58)⟩,
 ⟨(some 60), none, .pick (.tmp 51) (.const (Value.bool true)) (.tmp 59)⟩,
 ⟨(some 61), none, .mv (.tmp 60)⟩,
 ⟨(some 62), (some (61, true)), .mv (.tmp 7)⟩,
 ⟨(some 63), (some (61, true)), .bin .eql (.tmp 62) (.const (Value.string ⟨#[]⟩))⟩,
 ⟨(some 64), (some (61, true)), .mv (.tmp 63)⟩,
 ⟨(some 65), (some (64, false)), .mv (.tmp 9)⟩,
 ⟨(some 66), (some (64, false)), .mv (.tmp 7)⟩,
 ⟨(some 67), (some (64, false)), .bin .lss (.tmp 65) (.tmp 66)⟩,
 ⟨(some 68), (some (61, true)), .pick (.tmp 64) (.const (Value.bool true)) (.tmp 67)⟩,
 ⟨(some 69), none, .pick (.tmp 61) (.tmp 68) (.const (Value.bool false))⟩] [0, 1, 6, 7, 8, 9, 52, 53, 54, 55, 56, 57, 58, 59, 62, 63, 64, 65, 66, 67, 68, 69])
 (.cond (.tmp 69)
 (.reg [⟨(some 70), none, .mv (.tmp 9)⟩,
 ⟨(some 7), none, .mv (.tmp 70)⟩] [0, 1, 6, 7, 8, 52, 53, 54, 55, 56, 57, 58, 59, 62, 63, 64, 65, 66, 67, 68])
 .skip))))
 (.reg [⟨(some 35), none, .mv (.tmp 8)⟩,
 ⟨(some 36), none, .bin .add (.tmp 35) (.const (Value.int IntKind.i64 1))⟩,
 ⟨(some 8), none, .mv (.tmp 36)⟩] [0, 1, 6, 7, 8, 52, 53, 54, 55, 56, 57, 58, 59, 62, 63, 64, 65, 66, 67, 68]))))))
 (.reg [⟨(some 71), none, .mv (.tmp 6)⟩,
 ⟨(some 72), none, .mv (.tmp 7)⟩,
 ⟨(some 73), none, .bslice 9 1 [(Value.string ⟨#[]⟩)] [(0, 1, (.tmp 72))]⟩,
 ⟨(some 74), none, .append 9 1 16 [(Value.string ⟨#[]⟩)] (.tmp 71) (.tmp 73)⟩,
 ⟨(some 6), none, .mv (.tmp 74)⟩] [0, 1, 6, 52, 53, 54, 55, 56, 57, 58, 59, 62, 63, 64, 65, 66, 67, 68])))))))
 (.seq (.reg [⟨(some 75), none, .mv (.tmp 6)⟩,
 ⟨(some 4), none, .mv (.tmp 75)⟩,
 ⟨(some 5), none, .mv (.const (Value.int IntKind.i64 0))⟩] [4, 5])
 .ret)))))⟩
theorem low34 : lowF Try.prog (assoc kp34) (assoc od34) 34 = some F34 := by kernel_rfl

/- (*palaver/palaverref22.Table).Plain -/
def kp67 : List (Nat × List Nat) := [(0, [0, 1, 2]), (1, [0, 1, 2, 9]), (2, [0, 1, 2, 9, 12]), (3, [0, 1, 2, 9]), (4, [0, 1, 2, 9, 10]), (5, [0, 1, 2, 9, 10, 20]), (6, [6, 7, 8]), (7, [0, 1, 2, 9]), (8, [6, 7, 8])]
def od67 : List (Nat × List (List Nat)) := []
def F67 : FIR := ⟨41, [.tmp 6, .tmp 7, .tmp 8],
 (.seq (.reg [⟨(some 6), none, .mv (.const (Value.int IntKind.i64 0))⟩,
 ⟨(some 7), none, .mv (.const (Value.bool false))⟩,
 ⟨(some 8), none, .mv (.const (Value.int IntKind.i64 0))⟩] [0, 1, 2])
 (.seq (.reg [⟨(some 9), none, .mv (.const (Value.int IntKind.i64 0))⟩] [0, 1, 2, 9])
 (.seq (.block 0
 (.loop
 (.seq (.seq (.reg [⟨(some 11), none, .mv (.tmp 1)⟩,
 ⟨(some 12), none, .bin .geq (.tmp 11) (.const (Value.int IntKind.i64 0))⟩] [0, 1, 2, 9, 12])
 (.cond (.tmp 12)
 .skip
 (.exit 0)))
 (.block 1
 (.seq (.reg [⟨(some 13), none, .mv (.tmp 9)⟩,
 ⟨(some 14), none, .bin .add (.tmp 13) (.const (Value.int IntKind.i64 1))⟩,
 ⟨(some 9), none, .mv (.tmp 14)⟩] [0, 1, 2, 9])
 (.seq (.reg [⟨(some 15), none, .mv (.tmp 0)⟩,
 ⟨(some 16), none, .mv (.tmp 1)⟩,
 ⟨(some 17), none, .mv (.tmp 2)⟩,
 ⟨(some 18), none, .call 54 [(.tmp 15), (.tmp 16), (.tmp 17)]⟩,
 ⟨(some 10), none, .mv (.tmp 18)⟩] [0, 1, 2, 9, 10])
 (.seq (.seq (.reg [⟨(some 19), none, .mv (.tmp 10)⟩,
 ⟨(some 20), none, .bin .geq (.tmp 19) (.const (Value.int IntKind.i64 0))⟩] [0, 1, 2, 9, 10, 20])
 (.cond (.tmp 20)
 (.seq (.reg [⟨(some 21), none, .mv (.tmp 0)⟩,
 ⟨(some 22), none, .nilck (.tmp 21)⟩,
 ⟨(some 23), none, .fld 1 (.tmp 22)⟩,
 ⟨(some 24), none, .load1 (.tmp 23)⟩,
 ⟨(some 25), none, .mv (.tmp 1)⟩,
 ⟨(some 26), none, .idxL 1 (.tmp 24) (.tmp 25)⟩,
 ⟨(some 27), none, .load1 (.tmp 26)⟩,
 ⟨(some 28), none, .mv (.tmp 10)⟩,
 ⟨(some 29), none, .idxL 2 (.tmp 27) (.tmp 28)⟩,
 ⟨(some 30), none, .fld 1 (.tmp 29)⟩,
 ⟨(some 31), none, .load1 (.tmp 30)⟩,
 ⟨(some 32), none, .mv (.tmp 9)⟩,
 ⟨(some 6), none, .mv (.tmp 31)⟩,
 ⟨(some 7), none, .mv (.const (Value.bool true))⟩,
 ⟨(some 8), none, .mv (.tmp 32)⟩] [6, 7, 8])
 .ret)
 .skip))
 (.reg [⟨(some 33), none, .mv (.tmp 0)⟩,
 ⟨(some 34), none, .nilck (.tmp 33)⟩,
 ⟨(some 35), none, .fld 0 (.tmp 34)⟩,
 ⟨(some 36), none, .load1 (.tmp 35)⟩,
 ⟨(some 37), none, .mv (.tmp 1)⟩,
 ⟨(some 38), none, .idxL 1 (.tmp 36) (.tmp 37)⟩,
 ⟨(some 39), none, .load1 (.tmp 38)⟩,
 ⟨(some 1), none, .mv (.tmp 39)⟩] [0, 1, 2, 9]))))))))
 (.seq (.reg [⟨(some 40), none, .mv (.tmp 9)⟩,
 ⟨(some 6), none, .mv (.const (Value.int IntKind.i64 0))⟩,
 ⟨(some 7), none, .mv (.const (Value.bool false))⟩,
 ⟨(some 8), none, .mv (.tmp 40)⟩] [6, 7, 8])
 .ret))))⟩
theorem low67 : lowF Try.prog (assoc kp67) (assoc od67) 67 = some F67 := by kernel_rfl

/- palaver/palaverref22.place -/
def kp66 : List (Nat × List Nat) := [(0, [0, 1]), (1, [1, 5]), (2, [1, 5, 6]), (3, [1, 5, 6, 15]), (4, [1, 5, 6]), (5, [1, 5, 6]), (6, [4])]
def od66 : List (Nat × List (List Nat)) := []
def F66 : FIR := ⟨29, [.tmp 4],
 (.seq (.reg [⟨(some 4), none, .mv (.const (Value.int IntKind.i64 0))⟩] [0, 1])
 (.seq (.reg [⟨(some 7), none, .mv (.tmp 0)⟩,
 ⟨(some 8), none, .bin .mul (.const (Value.int IntKind.i64 31)) (.tmp 7)⟩,
 ⟨(some 9), none, .mv (.tmp 1)⟩,
 ⟨(some 10), none, .lenS (.tmp 9)⟩,
 ⟨(some 11), none, .bin .add (.tmp 8) (.tmp 10)⟩,
 ⟨(some 5), none, .mv (.tmp 11)⟩] [1, 5])
 (.seq (.seq (.reg [⟨(some 6), none, .mv (.const (Value.int IntKind.i64 0))⟩] [1, 5, 6])
 (.block 0
 (.loop
 (.seq (.seq (.reg [⟨(some 12), none, .mv (.tmp 6)⟩,
 ⟨(some 13), none, .mv (.tmp 1)⟩,
 ⟨(some 14), none, .lenS (.tmp 13)⟩,
 ⟨(some 15), none, .bin .lss (.tmp 12) (.tmp 14)⟩] [1, 5, 6, 15])
 (.cond (.tmp 15)
 .skip
 (.exit 0)))
 (.seq (.block 1
 (.reg [⟨(some 18), none, .mv (.tmp 5)⟩,
 ⟨(some 19), none, .mv (.tmp 1)⟩,
 ⟨(some 20), none, .mv (.tmp 6)⟩,
 ⟨(some 21), none, .idxS (.tmp 19) (.tmp 20)⟩,
 ⟨(some 22), none, .conv .i64 (.tmp 21)⟩,
 ⟨(some 23), none, .mv (.tmp 6)⟩,
 ⟨(some 24), none, .bin .add (.tmp 23) (.const (Value.int IntKind.i64 1))⟩,
 ⟨(some 25), none, .bin .mul (.tmp 22) (.tmp 24)⟩,
 ⟨(some 26), none, .bin .add (.tmp 18) (.tmp 25)⟩,
 ⟨(some 5), none, .mv (.tmp 26)⟩] [1, 5, 6]))
 (.reg [⟨(some 16), none, .mv (.tmp 6)⟩,
 ⟨(some 17), none, .bin .add (.tmp 16) (.const (Value.int IntKind.i64 1))⟩,
 ⟨(some 6), none, .mv (.tmp 17)⟩] [1, 5, 6]))))))
 (.seq (.reg [⟨(some 27), none, .mv (.tmp 5)⟩,
 ⟨(some 28), none, .bin .rem (.tmp 27) (.const (Value.int IntKind.i64 64))⟩,
 ⟨(some 4), none, .mv (.tmp 28)⟩] [4])
 .ret))))⟩
theorem low66 : lowF Try.prog (assoc kp66) (assoc od66) 66 = some F66 := by kernel_rfl

/- (*palaver/palaverref22.Table).global -/
def kp58 : List (Nat × List Nat) := [(0, [0, 1, 2, 26, 27, 28, 29, 30, 31]), (1, [0, 1, 2, 8, 26, 27, 28, 29, 30, 31]), (2, [0, 1, 2, 8, 32]), (3, [8]), (4, [6, 7]), (5, [0, 1, 2, 8, 9, 10, 11]), (6, [0, 1, 2, 8, 9, 10, 11]), (7, [1, 2, 8, 9, 10]), (8, [1, 2, 8, 9, 10, 74]), (9, [9, 10]), (10, [6, 7])]
def od58 : List (Nat × List (List Nat)) := [(1, [[0, 1, 2, 3, 4, 5, 6, 7]])]
def F58 : FIR := ⟨83, [.tmp 6, .tmp 7],
 (.seq (.reg [⟨(some 6), none, .mv (.const (Value.int IntKind.i64 0))⟩,
 ⟨(some 7), none, .mv (.const (Value.bool false))⟩] [0, 1, 2, 26, 27, 28, 29, 30, 31])
 (.seq (.draw [[⟨(some 12), none, .mv (.tmp 0)⟩,
 ⟨(some 13), none, .mv (.tmp 1)⟩,
 ⟨(some 14), none, .mv (.tmp 2)⟩,
 ⟨(some 15), none, .call 66 [(.tmp 13), (.tmp 14)]⟩,
 ⟨(some 16), none, .nilck (.tmp 12)⟩,
 ⟨(some 17), none, .fld 2 (.tmp 16)⟩,
 ⟨(some 18), none, .idxA 64 3 (.tmp 17) (.tmp 15)⟩,
 ⟨(some 8), none, .mv (.tmp 18)⟩]] [0, 1, 2, 8, 26, 27, 28, 29, 30, 31])
 (.seq (.seq (.reg [⟨(some 19), none, .mv (.tmp 8)⟩,
 ⟨(some 20), none, .nilck (.tmp 19)⟩,
 ⟨(some 21), none, .fld 0 (.tmp 20)⟩,
 ⟨(some 22), none, .load1 (.tmp 21)⟩,
 ⟨(some 23), none, .mv (.tmp 1)⟩,
 ⟨(some 24), none, .bin .eql (.tmp 22) (.tmp 23)⟩,
 ⟨(some 25), none, .mv (.tmp 24)⟩,
 ⟨(some 26), (some (25, true)), .mv (.tmp 8)⟩,
 ⟨(some 27), (some (25, true)), .nilck (.tmp 26)⟩,
 ⟨(some 28), (some (25, true)), .fld 1 (.tmp 27)⟩,
 ⟨(some 29), (some (25, true)), .load1 (.tmp 28)⟩,
 ⟨(some 30), (some (25, true)), .mv (.tmp 2)⟩,
 ⟨(some 31), (some (25, true)), .bin .eql (.tmp 29) (.tmp 30)⟩,
 ⟨(some 32), none, .pick (.tmp 25) (.tmp 31) (.const (Value.bool false))⟩] [0, 1, 2, 8, 32])
 (.cond (.tmp 32)
 (.seq (.reg [⟨(some 33), none, .mv (.tmp 0)⟩,
 ⟨(some 34), none, .nilck (.tmp 33)⟩,
 ⟨(some 35), none, .fld 195 (.tmp 34)⟩,
 ⟨(some 36), none, .fld 2 (.tmp 35)⟩,
 ⟨(some 37), none, .load1 (.tmp 36)⟩,
 ⟨(some 38), none, .bin .add (.tmp 37) (.const (Value.int IntKind.i64 1))⟩,
 ⟨(some 39), none, .nilck (.tmp 33)⟩,
 ⟨(some 40), none, .fld 195 (.tmp 39)⟩,
 ⟨(some 41), none, .fld 2 (.tmp 40)⟩,
 ⟨none, none, .store 1 (.tmp 41) (.tmp 38)⟩] [8])
 (.seq (.reg [⟨(some 42), none, .mv (.tmp 8)⟩,
 ⟨(some 43), none, .nilck (.tmp 42)⟩,
 ⟨(some 44), none, .fld 2 (.tmp 43)⟩,
 ⟨(some 45), none, .load1 (.tmp 44)⟩,
 ⟨(some 6), none, .mv (.tmp 45)⟩,
 ⟨(some 7), none, .mv (.const (Value.bool true))⟩] [6, 7])
 .ret))
 .skip))
 (.seq (.reg [⟨(some 47), none, .mv (.tmp 0)⟩,
 ⟨(some 48), none, .mv (.tmp 1)⟩,
 ⟨(some 49), none, .mv (.tmp 2)⟩,
 ⟨(some 50), none, .call 67 [(.tmp 47), (.tmp 48), (.tmp 49)]⟩,
 ⟨(some 46), none, .mv (.tmp 50)⟩,
 ⟨(some 51), none, .ext (.tmp 46) 0⟩,
 ⟨(some 52), none, .ext (.tmp 46) 1⟩,
 ⟨(some 53), none, .ext (.tmp 46) 2⟩,
 ⟨(some 9), none, .mv (.tmp 51)⟩,
 ⟨(some 10), none, .mv (.tmp 52)⟩,
 ⟨(some 11), none, .mv (.tmp 53)⟩] [0, 1, 2, 8, 9, 10, 11])
 (.seq (.reg [⟨(some 54), none, .mv (.tmp 0)⟩,
 ⟨(some 55), none, .nilck (.tmp 54)⟩,
 ⟨(some 56), none, .fld 195 (.tmp 55)⟩,
 ⟨(some 57), none, .fld 3 (.tmp 56)⟩,
 ⟨(some 58), none, .load1 (.tmp 57)⟩,
 ⟨(some 59), none, .bin .add (.tmp 58) (.const (Value.int IntKind.i64 1))⟩,
 ⟨(some 60), none, .nilck (.tmp 54)⟩,
 ⟨(some 61), none, .fld 195 (.tmp 60)⟩,
 ⟨(some 62), none, .fld 3 (.tmp 61)⟩,
 ⟨none, none, .store 1 (.tmp 62) (.tmp 59)⟩] [0, 1, 2, 8, 9, 10, 11])
 (.seq (.reg [⟨(some 63), none, .mv (.tmp 0)⟩,
 ⟨(some 64), none, .mv (.tmp 0)⟩,
 ⟨(some 65), none, .nilck (.tmp 64)⟩,
 ⟨(some 66), none, .fld 195 (.tmp 65)⟩,
 ⟨(some 67), none, .fld 4 (.tmp 66)⟩,
 ⟨(some 68), none, .load1 (.tmp 67)⟩,
 ⟨(some 69), none, .mv (.tmp 11)⟩,
 ⟨(some 70), none, .bin .add (.tmp 68) (.tmp 69)⟩,
 ⟨(some 71), none, .nilck (.tmp 63)⟩,
 ⟨(some 72), none, .fld 195 (.tmp 71)⟩,
 ⟨(some 73), none, .fld 4 (.tmp 72)⟩,
 ⟨none, none, .store 1 (.tmp 73) (.tmp 70)⟩] [1, 2, 8, 9, 10])
 (.seq (.seq (.reg [⟨(some 74), none, .mv (.tmp 10)⟩] [1, 2, 8, 9, 10, 74])
 (.cond (.tmp 74)
 (.reg [⟨(some 75), none, .mv (.tmp 8)⟩,
 ⟨(some 76), none, .mv (.tmp 1)⟩,
 ⟨(some 77), none, .mv (.tmp 2)⟩,
 ⟨(some 78), none, .mv (.tmp 9)⟩,
 ⟨(some 79), none, .build [(Value.int IntKind.i64 0), (Value.string ⟨#[]⟩), (Value.int IntKind.i64 0)] [(0, 1, (.tmp 76)), (1, 1, (.tmp 77)), (2, 1, (.tmp 78))]⟩,
 ⟨(some 80), none, .nilck (.tmp 75)⟩,
 ⟨none, none, .store 3 (.tmp 80) (.tmp 79)⟩] [9, 10])
 .skip))
 (.seq (.reg [⟨(some 81), none, .mv (.tmp 9)⟩,
 ⟨(some 82), none, .mv (.tmp 10)⟩,
 ⟨(some 6), none, .mv (.tmp 81)⟩,
 ⟨(some 7), none, .mv (.tmp 82)⟩] [6, 7])
 .ret))))))))⟩
theorem low58 : lowF Try.prog (assoc kp58) (assoc od58) 58 = some F58 := by kernel_rfl

/- (*palaver/palaverref22.Table).Lookup -/
def kp37 : List (Nat × List Nat) := [(0, [0, 1, 2]), (1, [0, 1, 2, 11]), (2, [6, 7]), (3, [0, 1, 2]), (4, [6, 7])]
def od37 : List (Nat × List (List Nat)) := []
def F37 : FIR := ⟨27, [.tmp 6, .tmp 7],
 (.seq (.reg [⟨(some 6), none, .mv (.const (Value.int IntKind.i64 0))⟩,
 ⟨(some 7), none, .mv (.const (Value.bool false))⟩] [0, 1, 2])
 (.seq (.seq (.reg [⟨(some 8), none, .mv (.tmp 0)⟩,
 ⟨(some 9), none, .mv (.tmp 1)⟩,
 ⟨(some 10), none, .call 53 [(.tmp 8), (.tmp 9)]⟩,
 ⟨(some 11), none, .un .not (.tmp 10)⟩] [0, 1, 2, 11])
 (.cond (.tmp 11)
 (.seq (.reg [⟨(some 6), none, .mv (.const (Value.int IntKind.i64 0))⟩,
 ⟨(some 7), none, .mv (.const (Value.bool false))⟩] [6, 7])
 .ret)
 .skip))
 (.seq (.reg [⟨(some 12), none, .mv (.tmp 0)⟩,
 ⟨(some 13), none, .nilck (.tmp 12)⟩,
 ⟨(some 14), none, .fld 195 (.tmp 13)⟩,
 ⟨(some 15), none, .fld 0 (.tmp 14)⟩,
 ⟨(some 16), none, .load1 (.tmp 15)⟩,
 ⟨(some 17), none, .bin .add (.tmp 16) (.const (Value.int IntKind.i64 1))⟩,
 ⟨(some 18), none, .nilck (.tmp 12)⟩,
 ⟨(some 19), none, .fld 195 (.tmp 18)⟩,
 ⟨(some 20), none, .fld 0 (.tmp 19)⟩,
 ⟨none, none, .store 1 (.tmp 20) (.tmp 17)⟩] [0, 1, 2])
 (.seq (.reg [⟨(some 21), none, .mv (.tmp 0)⟩,
 ⟨(some 22), none, .mv (.tmp 1)⟩,
 ⟨(some 23), none, .mv (.tmp 2)⟩,
 ⟨(some 24), none, .call 58 [(.tmp 21), (.tmp 22), (.tmp 23)]⟩,
 ⟨(some 25), none, .ext (.tmp 24) 0⟩,
 ⟨(some 26), none, .ext (.tmp 24) 1⟩,
 ⟨(some 6), none, .mv (.tmp 25)⟩,
 ⟨(some 7), none, .mv (.tmp 26)⟩] [6, 7])
 .ret))))⟩
theorem low37 : lowF Try.prog (assoc kp37) (assoc od37) 37 = some F37 := by kernel_rfl

/- (*palaver/palaverref22.Table).Send -/
def kp38 : List (Nat × List Nat) := [(0, [0, 1, 2, 3, 20, 21, 135, 136, 137, 138, 139, 140]), (1, [0, 1, 2, 3, 22, 135, 136, 137, 138, 139, 140]), (2, [8, 9, 10]), (3, [0, 1, 2, 3, 26, 135, 136, 137, 138, 139, 140]), (4, [8, 9, 10]), (5, [0, 1, 2, 3, 135, 136, 137, 138, 139, 140]), (6, [0, 1, 2, 3, 11, 135, 136, 137, 138, 139, 140]), (7, [0, 1, 2, 3, 11, 12, 135, 136, 137, 138, 139, 140]), (8, [0, 1, 2, 3, 11, 12, 42, 135, 136, 137, 138, 139, 140]), (9, [0, 1, 2, 3, 11, 12, 135, 136, 137, 138, 139, 140]), (10, [0, 1, 2, 3, 11, 12, 54, 135, 136, 137, 138, 139, 140]), (11, [0, 1, 2, 3, 11, 12, 135, 136, 137, 138, 139, 140]), (12, [0, 1, 2, 3, 11, 57, 135, 136, 137, 138, 139, 140]), (13, [0, 1, 2, 3, 11, 135, 136, 137, 138, 139, 140]), (14, [0, 1, 2, 3, 11, 135, 136, 137, 138, 139, 140]), (15, [0, 1, 2, 3, 13, 135, 136, 137, 138, 139, 140]), (16, [0, 1, 2, 3, 13, 86, 135, 136, 137, 138, 139, 140]), (17, [0, 2, 3, 13, 135, 136, 137, 138, 139, 140]), (18, [0, 2, 3, 13, 14, 135, 136, 137, 138, 139, 140]), (19, [0, 2, 3, 13, 14, 98, 135, 136, 137, 138, 139, 140]), (20, [0, 2, 3, 13, 14, 135, 136, 137, 138, 139, 140]), (21, [0, 2, 3, 13, 14, 109, 135, 136, 137, 138, 139, 140]), (22, [13, 14]), (23, [8, 9, 10]), (24, [2, 13, 15, 16, 135, 136, 137, 138, 139, 140]), (25, [2, 13, 15, 16, 141]), (26, [13, 15, 16]), (27, [15, 16]), (28, [8, 9, 10])]
def od38 : List (Nat × List (List Nat)) := []
def F38 : FIR := ⟨164, [.tmp 8, .tmp 9, .tmp 10],
 (.seq (.reg [⟨(some 8), none, .mv (.const (Value.int IntKind.i64 0))⟩,
 ⟨(some 9), none, .mv (.const (Value.bool false))⟩,
 ⟨(some 10), none, .mv (.const (Value.int IntKind.i64 0))⟩] [0, 1, 2, 3, 20, 21, 135, 136, 137, 138, 139, 140])
 (.seq (.seq (.reg [⟨(some 17), none, .mv (.tmp 1)⟩,
 ⟨(some 18), none, .bin .lss (.tmp 17) (.const (Value.int IntKind.i64 0))⟩,
 ⟨(some 19), none, .mv (.tmp 18)⟩,
 ⟨(some 20), (some (19, false)), .mv (.tmp 1)⟩,
 ⟨(some 21), (some (19, false)), .bin .geq (.tmp 20) (.const (Value.int IntKind.i64 65536))⟩,
 ⟨(some 22), none, .pick (.tmp 19) (.const (Value.bool true)) (.tmp 21)⟩] [0, 1, 2, 3, 22, 135, 136, 137, 138, 139, 140])
 (.cond (.tmp 22)
 (.seq (.reg [⟨(some 8), none, .mv (.const (Value.int IntKind.i64 0))⟩,
 ⟨(some 9), none, .mv (.const (Value.bool false))⟩,
 ⟨(some 10), none, .mv (.const (Value.int IntKind.i64 224))⟩] [8, 9, 10])
 .ret)
 .skip))
 (.seq (.seq (.reg [⟨(some 23), none, .mv (.tmp 0)⟩,
 ⟨(some 24), none, .mv (.tmp 2)⟩,
 ⟨(some 25), none, .call 53 [(.tmp 23), (.tmp 24)]⟩,
 ⟨(some 26), none, .un .not (.tmp 25)⟩] [0, 1, 2, 3, 26, 135, 136, 137, 138, 139, 140])
 (.cond (.tmp 26)
 (.seq (.reg [⟨(some 8), none, .mv (.const (Value.int IntKind.i64 0))⟩,
 ⟨(some 9), none, .mv (.const (Value.bool false))⟩,
 ⟨(some 10), none, .mv (.const (Value.int IntKind.i64 220))⟩] [8, 9, 10])
 .ret)
 .skip))
 (.seq (.reg [⟨(some 27), none, .mv (.tmp 0)⟩,
 ⟨(some 28), none, .nilck (.tmp 27)⟩,
 ⟨(some 29), none, .fld 195 (.tmp 28)⟩,
 ⟨(some 30), none, .fld 0 (.tmp 29)⟩,
 ⟨(some 31), none, .load1 (.tmp 30)⟩,
 ⟨(some 32), none, .bin .add (.tmp 31) (.const (Value.int IntKind.i64 1))⟩,
 ⟨(some 33), none, .nilck (.tmp 27)⟩,
 ⟨(some 34), none, .fld 195 (.tmp 33)⟩,
 ⟨(some 35), none, .fld 0 (.tmp 34)⟩,
 ⟨none, none, .store 1 (.tmp 35) (.tmp 32)⟩] [0, 1, 2, 3, 135, 136, 137, 138, 139, 140])
 (.seq (.reg [⟨(some 11), none, .mv (.const (Value.int IntKind.i64 (-1)))⟩] [0, 1, 2, 3, 11, 135, 136, 137, 138, 139, 140])
 (.seq (.seq (.reg [⟨(some 12), none, .mv (.const (Value.int IntKind.i64 0))⟩] [0, 1, 2, 3, 11, 12, 135, 136, 137, 138, 139, 140])
 (.block 0
 (.loop
 (.seq (.seq (.reg [⟨(some 36), none, .mv (.tmp 12)⟩,
 ⟨(some 37), none, .mv (.tmp 0)⟩,
 ⟨(some 38), none, .nilck (.tmp 37)⟩,
 ⟨(some 39), none, .fld 194 (.tmp 38)⟩,
 ⟨(some 40), none, .load1 (.tmp 39)⟩,
 ⟨(some 41), none, .lenL (.tmp 40)⟩,
 ⟨(some 42), none, .bin .lss (.tmp 36) (.tmp 41)⟩] [0, 1, 2, 3, 11, 12, 42, 135, 136, 137, 138, 139, 140])
 (.cond (.tmp 42)
 .skip
 (.exit 0)))
 (.seq (.block 1
 (.seq (.reg [⟨(some 45), none, .mv (.tmp 0)⟩,
 ⟨(some 46), none, .nilck (.tmp 45)⟩,
 ⟨(some 47), none, .fld 194 (.tmp 46)⟩,
 ⟨(some 48), none, .load1 (.tmp 47)⟩,
 ⟨(some 49), none, .mv (.tmp 12)⟩,
 ⟨(some 50), none, .idxL 4 (.tmp 48) (.tmp 49)⟩,
 ⟨(some 51), none, .fld 0 (.tmp 50)⟩,
 ⟨(some 52), none, .load1 (.tmp 51)⟩,
 ⟨(some 53), none, .mv (.tmp 1)⟩,
 ⟨(some 54), none, .bin .eql (.tmp 52) (.tmp 53)⟩] [0, 1, 2, 3, 11, 12, 54, 135, 136, 137, 138, 139, 140])
 (.cond (.tmp 54)
 (.reg [⟨(some 55), none, .mv (.tmp 12)⟩,
 ⟨(some 11), none, .mv (.tmp 55)⟩] [0, 1, 2, 3, 11, 12, 135, 136, 137, 138, 139, 140])
 .skip)))
 (.reg [⟨(some 43), none, .mv (.tmp 12)⟩,
 ⟨(some 44), none, .bin .add (.tmp 43) (.const (Value.int IntKind.i64 1))⟩,
 ⟨(some 12), none, .mv (.tmp 44)⟩] [0, 1, 2, 3, 11, 12, 135, 136, 137, 138, 139, 140]))))))
 (.seq (.seq (.reg [⟨(some 56), none, .mv (.tmp 11)⟩,
 ⟨(some 57), none, .bin .lss (.tmp 56) (.const (Value.int IntKind.i64 0))⟩] [0, 1, 2, 3, 11, 57, 135, 136, 137, 138, 139, 140])
 (.cond (.tmp 57)
 (.seq (.reg [⟨(some 58), none, .mv (.tmp 0)⟩,
 ⟨(some 59), none, .nilck (.tmp 58)⟩,
 ⟨(some 60), none, .fld 194 (.tmp 59)⟩,
 ⟨(some 61), none, .load1 (.tmp 60)⟩,
 ⟨(some 62), none, .lenL (.tmp 61)⟩,
 ⟨(some 11), none, .mv (.tmp 62)⟩] [0, 1, 2, 3, 11, 135, 136, 137, 138, 139, 140])
 (.reg [⟨(some 63), none, .mv (.tmp 0)⟩,
 ⟨(some 64), none, .mv (.tmp 0)⟩,
 ⟨(some 65), none, .nilck (.tmp 64)⟩,
 ⟨(some 66), none, .fld 194 (.tmp 65)⟩,
 ⟨(some 67), none, .load1 (.tmp 66)⟩,
 ⟨(some 68), none, .mv (.tmp 1)⟩,
 ⟨(some 69), none, .mv (.tmp 3)⟩,
 ⟨(some 70), none, .build [(Value.int IntKind.i64 0), (Value.string ⟨#[]⟩), (Value.slice none 0 0), (Value.slice none 0 0)] [(0, 1, (.tmp 68)), (1, 1, (.tmp 69))]⟩,
 ⟨(some 71), none, .bslice 116 1 [(Value.int IntKind.i64 0), (Value.string ⟨#[]⟩), (Value.slice none 0 0), (Value.slice none 0 0)] [(0, 4, (.tmp 70))]⟩,
 ⟨(some 72), none, .append 116 4 72 [(Value.int IntKind.i64 0), (Value.string ⟨#[]⟩), (Value.slice none 0 0), (Value.slice none 0 0)] (.tmp 67) (.tmp 71)⟩,
 ⟨(some 73), none, .nilck (.tmp 63)⟩,
 ⟨(some 74), none, .fld 194 (.tmp 73)⟩,
 ⟨none, none, .store 1 (.tmp 74) (.tmp 72)⟩] [0, 1, 2, 3, 11, 135, 136, 137, 138, 139, 140]))
 .skip))
 (.seq (.reg [⟨(some 75), none, .mv (.tmp 0)⟩,
 ⟨(some 76), none, .nilck (.tmp 75)⟩,
 ⟨(some 77), none, .fld 194 (.tmp 76)⟩,
 ⟨(some 78), none, .load1 (.tmp 77)⟩,
 ⟨(some 79), none, .mv (.tmp 11)⟩,
 ⟨(some 80), none, .idxL 4 (.tmp 78) (.tmp 79)⟩,
 ⟨(some 13), none, .mv (.tmp 80)⟩] [0, 1, 2, 3, 13, 135, 136, 137, 138, 139, 140])
 (.seq (.seq (.reg [⟨(some 81), none, .mv (.tmp 13)⟩,
 ⟨(some 82), none, .nilck (.tmp 81)⟩,
 ⟨(some 83), none, .fld 1 (.tmp 82)⟩,
 ⟨(some 84), none, .load1 (.tmp 83)⟩,
 ⟨(some 85), none, .mv (.tmp 3)⟩,
 ⟨(some 86), none, .bin .neq (.tmp 84) (.tmp 85)⟩] [0, 1, 2, 3, 13, 86, 135, 136, 137, 138, 139, 140])
 (.cond (.tmp 86)
 (.reg [⟨(some 87), none, .mv (.tmp 13)⟩,
 ⟨(some 88), none, .mv (.tmp 1)⟩,
 ⟨(some 89), none, .mv (.tmp 3)⟩,
 ⟨(some 90), none, .build [(Value.int IntKind.i64 0), (Value.string ⟨#[]⟩), (Value.slice none 0 0), (Value.slice none 0 0)] [(0, 1, (.tmp 88)), (1, 1, (.tmp 89))]⟩,
 ⟨(some 91), none, .nilck (.tmp 87)⟩,
 ⟨none, none, .store 4 (.tmp 91) (.tmp 90)⟩] [0, 2, 3, 13, 135, 136, 137, 138, 139, 140])
 .skip))
 (.seq (.seq (.reg [⟨(some 14), none, .mv (.const (Value.int IntKind.i64 0))⟩] [0, 2, 3, 13, 14, 135, 136, 137, 138, 139, 140])
 (.block 2
 (.loop
 (.seq (.seq (.reg [⟨(some 92), none, .mv (.tmp 14)⟩,
 ⟨(some 93), none, .mv (.tmp 13)⟩,
 ⟨(some 94), none, .nilck (.tmp 93)⟩,
 ⟨(some 95), none, .fld 2 (.tmp 94)⟩,
 ⟨(some 96), none, .load1 (.tmp 95)⟩,
 ⟨(some 97), none, .lenL (.tmp 96)⟩,
 ⟨(some 98), none, .bin .lss (.tmp 92) (.tmp 97)⟩] [0, 2, 3, 13, 14, 98, 135, 136, 137, 138, 139, 140])
 (.cond (.tmp 98)
 .skip
 (.exit 2)))
 (.seq (.block 3
 (.seq (.reg [⟨(some 101), none, .mv (.tmp 13)⟩,
 ⟨(some 102), none, .nilck (.tmp 101)⟩,
 ⟨(some 103), none, .fld 2 (.tmp 102)⟩,
 ⟨(some 104), none, .load1 (.tmp 103)⟩,
 ⟨(some 105), none, .mv (.tmp 14)⟩,
 ⟨(some 106), none, .idxL 1 (.tmp 104) (.tmp 105)⟩,
 ⟨(some 107), none, .load1 (.tmp 106)⟩,
 ⟨(some 108), none, .mv (.tmp 2)⟩,
 ⟨(some 109), none, .bin .eql (.tmp 107) (.tmp 108)⟩] [0, 2, 3, 13, 14, 109, 135, 136, 137, 138, 139, 140])
 (.cond (.tmp 109)
 (.seq (.reg [⟨(some 110), none, .mv (.tmp 0)⟩,
 ⟨(some 111), none, .nilck (.tmp 110)⟩,
 ⟨(some 112), none, .fld 195 (.tmp 111)⟩,
 ⟨(some 113), none, .fld 1 (.tmp 112)⟩,
 ⟨(some 114), none, .load1 (.tmp 113)⟩,
 ⟨(some 115), none, .bin .add (.tmp 114) (.const (Value.int IntKind.i64 1))⟩,
 ⟨(some 116), none, .nilck (.tmp 110)⟩,
 ⟨(some 117), none, .fld 195 (.tmp 116)⟩,
 ⟨(some 118), none, .fld 1 (.tmp 117)⟩,
 ⟨none, none, .store 1 (.tmp 118) (.tmp 115)⟩] [13, 14])
 (.seq (.reg [⟨(some 119), none, .mv (.tmp 13)⟩,
 ⟨(some 120), none, .nilck (.tmp 119)⟩,
 ⟨(some 121), none, .fld 3 (.tmp 120)⟩,
 ⟨(some 122), none, .load1 (.tmp 121)⟩,
 ⟨(some 123), none, .mv (.tmp 14)⟩,
 ⟨(some 124), none, .idxL 1 (.tmp 122) (.tmp 123)⟩,
 ⟨(some 125), none, .load1 (.tmp 124)⟩,
 ⟨(some 8), none, .mv (.tmp 125)⟩,
 ⟨(some 9), none, .mv (.const (Value.bool true))⟩,
 ⟨(some 10), none, .mv (.const (Value.int IntKind.i64 0))⟩] [8, 9, 10])
 .ret))
 .skip)))
 (.reg [⟨(some 99), none, .mv (.tmp 14)⟩,
 ⟨(some 100), none, .bin .add (.tmp 99) (.const (Value.int IntKind.i64 1))⟩,
 ⟨(some 14), none, .mv (.tmp 100)⟩] [0, 2, 3, 13, 14, 135, 136, 137, 138, 139, 140]))))))
 (.seq (.reg [⟨(some 127), none, .mv (.tmp 0)⟩,
 ⟨(some 128), none, .mv (.tmp 2)⟩,
 ⟨(some 129), none, .mv (.tmp 3)⟩,
 ⟨(some 130), none, .call 58 [(.tmp 127), (.tmp 128), (.tmp 129)]⟩,
 ⟨(some 126), none, .mv (.tmp 130)⟩,
 ⟨(some 131), none, .ext (.tmp 126) 0⟩,
 ⟨(some 132), none, .ext (.tmp 126) 1⟩,
 ⟨(some 15), none, .mv (.tmp 131)⟩,
 ⟨(some 16), none, .mv (.tmp 132)⟩] [2, 13, 15, 16, 135, 136, 137, 138, 139, 140])
 (.seq (.seq (.reg [⟨(some 133), none, .mv (.tmp 16)⟩,
 ⟨(some 134), none, .mv (.tmp 133)⟩,
 ⟨(some 135), (some (134, true)), .mv (.tmp 13)⟩,
 ⟨(some 136), (some (134, true)), .nilck (.tmp 135)⟩,
 ⟨(some 137), (some (134, true)), .fld 2 (.tmp 136)⟩,
 ⟨(some 138), (some (134, true)), .load1 (.tmp 137)⟩,
 ⟨(some 139), (some (134, true)), .lenL (.tmp 138)⟩,
 ⟨(some 140), (some (134, true)), .bin .lss (.tmp 139) (.const (Value.int IntKind.i64 4))⟩,
 ⟨(some 141), none, .pick (.tmp 134) (.tmp 140) (.const (Value.bool false))⟩] [2, 13, 15, 16, 141])
 (.cond (.tmp 141)
 (.seq (.reg [⟨(some 142), none, .mv (.tmp 13)⟩,
 ⟨(some 143), none, .mv (.tmp 13)⟩,
 ⟨(some 144), none, .nilck (.tmp 143)⟩,
 ⟨(some 145), none, .fld 2 (.tmp 144)⟩,
 ⟨(some 146), none, .load1 (.tmp 145)⟩,
 ⟨(some 147), none, .mv (.tmp 2)⟩,
 ⟨(some 148), none, .bslice 3 1 [(Value.int IntKind.i64 0)] [(0, 1, (.tmp 147))]⟩,
 ⟨(some 149), none, .append 3 1 8 [(Value.int IntKind.i64 0)] (.tmp 146) (.tmp 148)⟩,
 ⟨(some 150), none, .nilck (.tmp 142)⟩,
 ⟨(some 151), none, .fld 2 (.tmp 150)⟩,
 ⟨none, none, .store 1 (.tmp 151) (.tmp 149)⟩] [13, 15, 16])
 (.reg [⟨(some 152), none, .mv (.tmp 13)⟩,
 ⟨(some 153), none, .mv (.tmp 13)⟩,
 ⟨(some 154), none, .nilck (.tmp 153)⟩,
 ⟨(some 155), none, .fld 3 (.tmp 154)⟩,
 ⟨(some 156), none, .load1 (.tmp 155)⟩,
 ⟨(some 157), none, .mv (.tmp 15)⟩,
 ⟨(some 158), none, .bslice 3 1 [(Value.int IntKind.i64 0)] [(0, 1, (.tmp 157))]⟩,
 ⟨(some 159), none, .append 3 1 8 [(Value.int IntKind.i64 0)] (.tmp 156) (.tmp 158)⟩,
 ⟨(some 160), none, .nilck (.tmp 152)⟩,
 ⟨(some 161), none, .fld 3 (.tmp 160)⟩,
 ⟨none, none, .store 1 (.tmp 161) (.tmp 159)⟩] [15, 16]))
 .skip))
 (.seq (.reg [⟨(some 162), none, .mv (.tmp 15)⟩,
 ⟨(some 163), none, .mv (.tmp 16)⟩,
 ⟨(some 8), none, .mv (.tmp 162)⟩,
 ⟨(some 9), none, .mv (.tmp 163)⟩,
 ⟨(some 10), none, .mv (.const (Value.int IntKind.i64 0))⟩] [8, 9, 10])
 .ret)))))))))))))⟩
theorem low38 : lowF Try.prog (assoc kp38) (assoc od38) 38 = some F38 := by kernel_rfl

end Go.Proofs.Ytffmipimgodfdaa

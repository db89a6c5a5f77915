/-
 The code of functions, as terms: printed by a program, proved to be what the seat has.
-/
import Derived.Test.YtffmipimgodfdaaWM
import Derived.KernelRfl
import Derived.Test.YtffmipimgodfdaaProg
set_option linter.unusedSimpArgs false
set_option linter.unusedVariables false
namespace Go.Proofs.Ytffmipimgodfdaa
open Go Go.V
set_option maxRecDepth 100000
/- palaver/palaverref00.ownInts -/
def kp39 : List (Nat × List Nat) := [(0, [0, 93, 94, 95, 96, 97, 98, 99, 100, 101, 102, 103, 104]), (1, [0, 3, 93, 94, 95, 96, 97, 98, 99, 100, 101, 102, 103, 104]), (2, [0, 3, 16, 93, 94, 95, 96, 97, 98, 99, 100, 101, 102, 103, 104]), (3, [0, 3, 93, 94, 95, 96, 97, 98, 99, 100, 101, 102, 103, 104]), (4, [0, 3, 4, 93, 94, 95, 96, 97, 98, 99, 100, 101, 102, 103, 104]), (5, [0, 3, 4, 25, 93, 94, 95, 96, 97, 98, 99, 100, 101, 102, 103, 104]), (6, [0, 3, 4, 93, 94, 95, 96, 97, 98, 99, 100, 101, 102, 103, 104]), (7, [0, 3, 4, 93, 94, 95, 96, 97, 98, 99, 100, 101, 102, 103, 104]), (8, [0, 5, 93, 94, 95, 96, 97, 98, 99, 100, 101, 102, 103, 104]), (9, [0, 5, 6, 93, 94, 95, 96, 97, 98, 99, 100, 101, 102, 103, 104]), (10, [0, 5, 6, 41, 93, 94, 95, 96, 97, 98, 99, 100, 101, 102, 103, 104]), (11, [0, 5, 6, 93, 94, 95, 96, 97, 98, 99, 100, 101, 102, 103, 104]), (12, [0, 5, 6, 7, 93, 94, 95, 96, 97, 98, 99, 100, 101, 102, 103, 104]), (13, [0, 5, 6, 7, 8, 93, 94, 95, 96, 97, 98, 99, 100, 101, 102, 103, 104]), (14, [0, 5, 6, 7, 8, 49, 93, 94, 95, 96, 97, 98, 99, 100, 101, 102, 103, 104]), (15, [0, 5, 6, 7, 8, 93, 94, 95, 96, 97, 98, 99, 100, 101, 102, 103, 104]), (16, [0, 5, 6, 7, 8, 93, 94, 95, 96, 97, 98, 99, 100, 101, 102, 103, 104]), (17, [0, 5, 6, 93, 94, 95, 96, 97, 98, 99, 100, 101, 102, 103, 104]), (18, [0, 5, 9, 93, 94, 95, 96, 97, 98, 99, 100, 101, 102, 103, 104]), (19, [0, 5, 9, 67, 93, 94, 95, 96, 97, 98, 99, 100, 101, 102, 103, 104]), (20, [0, 5, 9, 93, 94, 95, 96, 97, 98, 99, 100, 101, 102, 103, 104]), (21, [0, 5, 9, 10, 93, 94, 95, 96, 97, 98, 99, 100, 101, 102, 103, 104]), (22, [0, 5, 9, 10, 11, 93, 94, 95, 96, 97, 98, 99, 100, 101, 102, 103, 104]), (23, [0, 5, 9, 10, 11, 77, 93, 94, 95, 96, 97, 98, 99, 100, 101, 102, 103, 104]), (24, [0, 5, 9, 10, 11, 93, 94, 95, 96, 97, 98, 99, 100, 101, 102, 103, 104]), (25, [0, 5, 9, 10, 11, 93, 94, 95, 96, 97, 98, 99, 100, 101, 102, 103, 104, 105]), (26, [2]), (27, [0, 5, 9, 10, 12, 93, 94, 95, 96, 97, 98, 99, 100, 101, 102, 103, 104]), (28, [0, 5, 9, 10, 12, 93, 94, 95, 96, 97, 98, 99, 100, 101, 102, 103, 104, 107]), (29, [0, 5, 9, 10, 12, 93, 94, 95, 96, 97, 98, 99, 100, 101, 102, 103, 104]), (30, [0, 5, 9, 10, 12, 93, 94, 95, 96, 97, 98, 99, 100, 101, 102, 103, 104, 124]), (31, [2]), (32, [2])]
def od39 : List (Nat × List (List Nat)) := []
def F39 : FIR := ⟨125, [.tmp 2],
 (.seq (.reg [⟨(some 2), none, .mv (.const (Value.bool false))⟩] [0, 93, 94, 95, 96, 97, 98, 99, 100, 101, 102, 103, 104])
 (.seq (.seq (.reg [⟨(some 3), none, .mv (.const (Value.int IntKind.i64 0))⟩] [0, 3, 93, 94, 95, 96, 97, 98, 99, 100, 101, 102, 103, 104])
 (.block 0
 (.loop
 (.seq (.seq (.reg [⟨(some 13), none, .mv (.tmp 3)⟩,
 ⟨(some 14), none, .mv (.tmp 0)⟩,
 ⟨(some 15), none, .lenL (.tmp 14)⟩,
 ⟨(some 16), none, .bin .lss (.tmp 13) (.tmp 15)⟩] [0, 3, 16, 93, 94, 95, 96, 97, 98, 99, 100, 101, 102, 103, 104])
 (.cond (.tmp 16)
 .skip
 (.exit 0)))
 (.seq (.block 1
 (.seq (.reg [⟨(some 4), none, .mv (.const (Value.int IntKind.i64 0))⟩] [0, 3, 4, 93, 94, 95, 96, 97, 98, 99, 100, 101, 102, 103, 104])
 (.block 2
 (.loop
 (.seq (.seq (.reg [⟨(some 19), none, .mv (.tmp 4)⟩,
 ⟨(some 20), none, .mv (.tmp 0)⟩,
 ⟨(some 21), none, .mv (.tmp 3)⟩,
 ⟨(some 22), none, .idxL 1 (.tmp 20) (.tmp 21)⟩,
 ⟨(some 23), none, .load1 (.tmp 22)⟩,
 ⟨(some 24), none, .lenL (.tmp 23)⟩,
 ⟨(some 25), none, .bin .lss (.tmp 19) (.tmp 24)⟩] [0, 3, 4, 25, 93, 94, 95, 96, 97, 98, 99, 100, 101, 102, 103, 104])
 (.cond (.tmp 25)
 .skip
 (.exit 2)))
 (.seq (.block 3
 (.reg [⟨(some 28), none, .mv (.tmp 0)⟩,
 ⟨(some 29), none, .mv (.tmp 3)⟩,
 ⟨(some 30), none, .idxL 1 (.tmp 28) (.tmp 29)⟩,
 ⟨(some 31), none, .load1 (.tmp 30)⟩,
 ⟨(some 32), none, .mv (.tmp 4)⟩,
 ⟨(some 33), none, .mv (.tmp 3)⟩,
 ⟨(some 34), none, .bin .mul (.tmp 33) (.const (Value.int IntKind.i64 1000))⟩,
 ⟨(some 35), none, .mv (.tmp 4)⟩,
 ⟨(some 36), none, .bin .add (.tmp 34) (.tmp 35)⟩,
 ⟨(some 37), none, .idxL 1 (.tmp 31) (.tmp 32)⟩,
 ⟨none, none, .store 1 (.tmp 37) (.tmp 36)⟩] [0, 3, 4, 93, 94, 95, 96, 97, 98, 99, 100, 101, 102, 103, 104]))
 (.reg [⟨(some 26), none, .mv (.tmp 4)⟩,
 ⟨(some 27), none, .bin .add (.tmp 26) (.const (Value.int IntKind.i64 1))⟩,
 ⟨(some 4), none, .mv (.tmp 27)⟩] [0, 3, 4, 93, 94, 95, 96, 97, 98, 99, 100, 101, 102, 103, 104])))))))
 (.reg [⟨(some 17), none, .mv (.tmp 3)⟩,
 ⟨(some 18), none, .bin .add (.tmp 17) (.const (Value.int IntKind.i64 1))⟩,
 ⟨(some 3), none, .mv (.tmp 18)⟩] [0, 3, 93, 94, 95, 96, 97, 98, 99, 100, 101, 102, 103, 104]))))))
 (.seq (.reg [⟨(some 5), none, .mv (.const (Value.slice none 0 0))⟩] [0, 5, 93, 94, 95, 96, 97, 98, 99, 100, 101, 102, 103, 104])
 (.seq (.seq (.reg [⟨(some 6), none, .mv (.const (Value.int IntKind.i64 0))⟩] [0, 5, 6, 93, 94, 95, 96, 97, 98, 99, 100, 101, 102, 103, 104])
 (.block 4
 (.loop
 (.seq (.seq (.reg [⟨(some 38), none, .mv (.tmp 6)⟩,
 ⟨(some 39), none, .mv (.tmp 0)⟩,
 ⟨(some 40), none, .lenL (.tmp 39)⟩,
 ⟨(some 41), none, .bin .lss (.tmp 38) (.tmp 40)⟩] [0, 5, 6, 41, 93, 94, 95, 96, 97, 98, 99, 100, 101, 102, 103, 104])
 (.cond (.tmp 41)
 .skip
 (.exit 4)))
 (.seq (.block 5
 (.seq (.reg [⟨(some 44), none, .mv (.tmp 0)⟩,
 ⟨(some 45), none, .mv (.tmp 6)⟩,
 ⟨(some 46), none, .idxL 1 (.tmp 44) (.tmp 45)⟩,
 ⟨(some 47), none, .load1 (.tmp 46)⟩,
 ⟨(some 7), none, .mv (.tmp 47)⟩] [0, 5, 6, 7, 93, 94, 95, 96, 97, 98, 99, 100, 101, 102, 103, 104])
 (.seq (.seq (.reg [⟨(some 8), none, .mv (.const (Value.int IntKind.i64 0))⟩] [0, 5, 6, 7, 8, 93, 94, 95, 96, 97, 98, 99, 100, 101, 102, 103, 104])
 (.block 6
 (.loop
 (.seq (.seq (.reg [⟨(some 48), none, .mv (.tmp 8)⟩,
 ⟨(some 49), none, .bin .lss (.tmp 48) (.const (Value.int IntKind.i64 16))⟩] [0, 5, 6, 7, 8, 49, 93, 94, 95, 96, 97, 98, 99, 100, 101, 102, 103, 104])
 (.cond (.tmp 49)
 .skip
 (.exit 6)))
 (.seq (.block 7
 (.reg [⟨(some 52), none, .mv (.tmp 7)⟩,
 ⟨(some 53), none, .mv (.tmp 6)⟩,
 ⟨(some 54), none, .bin .sub (.const (Value.int IntKind.i64 (-1))) (.tmp 53)⟩,
 ⟨(some 55), none, .bin .mul (.tmp 54) (.const (Value.int IntKind.i64 1000))⟩,
 ⟨(some 56), none, .mv (.tmp 8)⟩,
 ⟨(some 57), none, .bin .sub (.tmp 55) (.tmp 56)⟩,
 ⟨(some 58), none, .bslice 3 1 [(Value.int IntKind.i64 0)] [(0, 1, (.tmp 57))]⟩,
 ⟨(some 59), none, .append 3 1 8 [(Value.int IntKind.i64 0)] (.tmp 52) (.tmp 58)⟩,
 ⟨(some 7), none, .mv (.tmp 59)⟩] [0, 5, 6, 7, 8, 93, 94, 95, 96, 97, 98, 99, 100, 101, 102, 103, 104]))
 (.reg [⟨(some 50), none, .mv (.tmp 8)⟩,
 ⟨(some 51), none, .bin .add (.tmp 50) (.const (Value.int IntKind.i64 1))⟩,
 ⟨(some 8), none, .mv (.tmp 51)⟩] [0, 5, 6, 7, 8, 93, 94, 95, 96, 97, 98, 99, 100, 101, 102, 103, 104]))))))
 (.reg [⟨(some 60), none, .mv (.tmp 5)⟩,
 ⟨(some 61), none, .mv (.tmp 7)⟩,
 ⟨(some 62), none, .bslice 22 1 [(Value.slice none 0 0)] [(0, 1, (.tmp 61))]⟩,
 ⟨(some 63), none, .append 22 1 24 [(Value.slice none 0 0)] (.tmp 60) (.tmp 62)⟩,
 ⟨(some 5), none, .mv (.tmp 63)⟩] [0, 5, 6, 93, 94, 95, 96, 97, 98, 99, 100, 101, 102, 103, 104]))))
 (.reg [⟨(some 42), none, .mv (.tmp 6)⟩,
 ⟨(some 43), none, .bin .add (.tmp 42) (.const (Value.int IntKind.i64 1))⟩,
 ⟨(some 6), none, .mv (.tmp 43)⟩] [0, 5, 6, 93, 94, 95, 96, 97, 98, 99, 100, 101, 102, 103, 104]))))))
 (.seq (.seq (.reg [⟨(some 9), none, .mv (.const (Value.int IntKind.i64 0))⟩] [0, 5, 9, 93, 94, 95, 96, 97, 98, 99, 100, 101, 102, 103, 104])
 (.block 8
 (.loop
 (.seq (.seq (.reg [⟨(some 64), none, .mv (.tmp 9)⟩,
 ⟨(some 65), none, .mv (.tmp 0)⟩,
 ⟨(some 66), none, .lenL (.tmp 65)⟩,
 ⟨(some 67), none, .bin .lss (.tmp 64) (.tmp 66)⟩] [0, 5, 9, 67, 93, 94, 95, 96, 97, 98, 99, 100, 101, 102, 103, 104])
 (.cond (.tmp 67)
 .skip
 (.exit 8)))
 (.seq (.block 9
 (.seq (.reg [⟨(some 70), none, .mv (.tmp 0)⟩,
 ⟨(some 71), none, .mv (.tmp 9)⟩,
 ⟨(some 72), none, .idxL 1 (.tmp 70) (.tmp 71)⟩,
 ⟨(some 73), none, .load1 (.tmp 72)⟩,
 ⟨(some 74), none, .lenL (.tmp 73)⟩,
 ⟨(some 10), none, .mv (.tmp 74)⟩] [0, 5, 9, 10, 93, 94, 95, 96, 97, 98, 99, 100, 101, 102, 103, 104])
 (.seq (.seq (.reg [⟨(some 11), none, .mv (.const (Value.int IntKind.i64 0))⟩] [0, 5, 9, 10, 11, 93, 94, 95, 96, 97, 98, 99, 100, 101, 102, 103, 104])
 (.block 10
 (.loop
 (.seq (.seq (.reg [⟨(some 75), none, .mv (.tmp 11)⟩,
 ⟨(some 76), none, .mv (.tmp 10)⟩,
 ⟨(some 77), none, .bin .lss (.tmp 75) (.tmp 76)⟩] [0, 5, 9, 10, 11, 77, 93, 94, 95, 96, 97, 98, 99, 100, 101, 102, 103, 104])
 (.cond (.tmp 77)
 .skip
 (.exit 10)))
 (.seq (.block 11
 (.seq (.reg [⟨(some 80), none, .mv (.tmp 0)⟩,
 ⟨(some 81), none, .mv (.tmp 9)⟩,
 ⟨(some 82), none, .idxL 1 (.tmp 80) (.tmp 81)⟩,
 ⟨(some 83), none, .load1 (.tmp 82)⟩,
 ⟨(some 84), none, .mv (.tmp 11)⟩,
 ⟨(some 85), none, .idxL 1 (.tmp 83) (.tmp 84)⟩,
 ⟨(some 86), none, .load1 (.tmp 85)⟩,
 ⟨(some 87), none, .mv (.tmp 9)⟩,
 ⟨(some 88), none, .bin .mul (.tmp 87) (.const (Value.int IntKind.i64 1000))⟩,
 ⟨(some 89), none, .mv (.tmp 11)⟩,
 ⟨(some 90), none, .bin .add (.tmp 88) (.tmp 89)⟩,
 ⟨(some 91), none, .bin .neq (.tmp 86) (.tmp 90)⟩,
 ⟨(some 92), none, .mv (.tmp 91)⟩,
 ⟨(some 93), (some (92, false)), .mv (.tmp 5)⟩,
 ⟨(some 94), (some (92, false)), .mv (.tmp 9)⟩,
 ⟨(some 95), (some (92, false)), .idxL 1 (.tmp 93) (.tmp 94)⟩,
 ⟨(some 96), (some (92, false)), .load1 (.tmp 95)⟩,
 ⟨(some 97), (some (92, false)), .mv (.tmp 11)⟩,
 ⟨(some 98), (some (92, false)), .idxL 1 (.tmp 96) (.tmp 97)⟩,
 ⟨(some 99), (some (92, false)), .load1 (.tmp 98)⟩,
 ⟨(some 100), (some (92, false)), .mv (.tmp 9)⟩,
 ⟨(some 101), (some (92, false)), .bin .mul (.tmp 100) (.const (Value.int IntKind.i64 1000))⟩,
 ⟨(some 102), (some (92, false)), .mv (.tmp 11)⟩,
 ⟨(some 103), (some (92, false)), .bin .add (.tmp 101) (.tmp 102)⟩,
 ⟨(some 104), (some (92, false)), .bin .neq (.tmp 99) (.tmp 103)⟩,
 ⟨(some 105), none, .pick (.tmp 92) (.const (Value.bool true)) (.tmp 104)⟩] [0, 5, 9, 10, 11, 93, 94, 95, 96, 97, 98, 99, 100, 101, 102, 103, 104, 105])
 (.cond (.tmp 105)
 (.seq (.reg [⟨(some 2), none, .mv (.const (Value.bool false))⟩] [2])
 .ret)
 .skip)))
 (.reg [⟨(some 78), none, .mv (.tmp 11)⟩,
 ⟨(some 79), none, .bin .add (.tmp 78) (.const (Value.int IntKind.i64 1))⟩,
 ⟨(some 11), none, .mv (.tmp 79)⟩] [0, 5, 9, 10, 11, 93, 94, 95, 96, 97, 98, 99, 100, 101, 102, 103, 104]))))))
 (.seq (.reg [⟨(some 12), none, .mv (.const (Value.int IntKind.i64 0))⟩] [0, 5, 9, 10, 12, 93, 94, 95, 96, 97, 98, 99, 100, 101, 102, 103, 104])
 (.block 12
 (.loop
 (.seq (.seq (.reg [⟨(some 106), none, .mv (.tmp 12)⟩,
 ⟨(some 107), none, .bin .lss (.tmp 106) (.const (Value.int IntKind.i64 16))⟩] [0, 5, 9, 10, 12, 93, 94, 95, 96, 97, 98, 99, 100, 101, 102, 103, 104, 107])
 (.cond (.tmp 107)
 .skip
 (.exit 12)))
 (.seq (.block 13
 (.seq (.reg [⟨(some 110), none, .mv (.tmp 5)⟩,
 ⟨(some 111), none, .mv (.tmp 9)⟩,
 ⟨(some 112), none, .idxL 1 (.tmp 110) (.tmp 111)⟩,
 ⟨(some 113), none, .load1 (.tmp 112)⟩,
 ⟨(some 114), none, .mv (.tmp 10)⟩,
 ⟨(some 115), none, .mv (.tmp 12)⟩,
 ⟨(some 116), none, .bin .add (.tmp 114) (.tmp 115)⟩,
 ⟨(some 117), none, .idxL 1 (.tmp 113) (.tmp 116)⟩,
 ⟨(some 118), none, .load1 (.tmp 117)⟩,
 ⟨(some 119), none, .mv (.tmp 9)⟩,
 ⟨(some 120), none, .bin .sub (.const (Value.int IntKind.i64 (-1))) (.tmp 119)⟩,
 ⟨(some 121), none, .bin .mul (.tmp 120) (.const (Value.int IntKind.i64 1000))⟩,
 ⟨(some 122), none, .mv (.tmp 12)⟩,
 ⟨(some 123), none, .bin .sub (.tmp 121) (.tmp 122)⟩,
 ⟨(some 124), none, .bin .neq (.tmp 118) (.tmp 123)⟩] [0, 5, 9, 10, 12, 93, 94, 95, 96, 97, 98, 99, 100, 101, 102, 103, 104, 124])
 (.cond (.tmp 124)
 (.seq (.reg [⟨(some 2), none, .mv (.const (Value.bool false))⟩] [2])
 .ret)
 .skip)))
 (.reg [⟨(some 108), none, .mv (.tmp 12)⟩,
 ⟨(some 109), none, .bin .add (.tmp 108) (.const (Value.int IntKind.i64 1))⟩,
 ⟨(some 12), none, .mv (.tmp 109)⟩] [0, 5, 9, 10, 12, 93, 94, 95, 96, 97, 98, 99, 100, 101, 102, 103, 104])))))))))
 (.reg [⟨(some 68), none, .mv (.tmp 9)⟩,
 ⟨(some 69), none, .bin .add (.tmp 68) (.const (Value.int IntKind.i64 1))⟩,
 ⟨(some 9), none, .mv (.tmp 69)⟩] [0, 5, 9, 93, 94, 95, 96, 97, 98, 99, 100, 101, 102, 103, 104]))))))
 (.seq (.reg [⟨(some 2), none, .mv (.const (Value.bool true))⟩] [2])
 .ret))))))⟩
theorem low39 : lowF Try.prog (assoc kp39) (assoc od39) 39 = some F39 := by kernel_rfl

/- palaver/palaverref00.ownNumbers -/
def kp40 : List (Nat × List Nat) := [(0, [0, 99, 100, 101, 102, 103, 104, 105, 106, 107, 108, 109, 110, 111, 112]), (1, [0, 3, 99, 100, 101, 102, 103, 104, 105, 106, 107, 108, 109, 110, 111, 112]), (2, [0, 3, 16, 99, 100, 101, 102, 103, 104, 105, 106, 107, 108, 109, 110, 111, 112]), (3, [0, 3, 99, 100, 101, 102, 103, 104, 105, 106, 107, 108, 109, 110, 111, 112]), (4, [0, 3, 4, 99, 100, 101, 102, 103, 104, 105, 106, 107, 108, 109, 110, 111, 112]), (5, [0, 3, 4, 25, 99, 100, 101, 102, 103, 104, 105, 106, 107, 108, 109, 110, 111, 112]), (6, [0, 3, 4, 99, 100, 101, 102, 103, 104, 105, 106, 107, 108, 109, 110, 111, 112]), (7, [0, 3, 4, 99, 100, 101, 102, 103, 104, 105, 106, 107, 108, 109, 110, 111, 112]), (8, [0, 5, 99, 100, 101, 102, 103, 104, 105, 106, 107, 108, 109, 110, 111, 112]), (9, [0, 5, 6, 99, 100, 101, 102, 103, 104, 105, 106, 107, 108, 109, 110, 111, 112]), (10, [0, 5, 6, 43, 99, 100, 101, 102, 103, 104, 105, 106, 107, 108, 109, 110, 111, 112]), (11, [0, 5, 6, 99, 100, 101, 102, 103, 104, 105, 106, 107, 108, 109, 110, 111, 112]), (12, [0, 5, 6, 7, 99, 100, 101, 102, 103, 104, 105, 106, 107, 108, 109, 110, 111, 112]), (13, [0, 5, 6, 7, 8, 99, 100, 101, 102, 103, 104, 105, 106, 107, 108, 109, 110, 111, 112]), (14, [0, 5, 6, 7, 8, 51, 99, 100, 101, 102, 103, 104, 105, 106, 107, 108, 109, 110, 111, 112]), (15, [0, 5, 6, 7, 8, 99, 100, 101, 102, 103, 104, 105, 106, 107, 108, 109, 110, 111, 112]), (16, [0, 5, 6, 7, 8, 99, 100, 101, 102, 103, 104, 105, 106, 107, 108, 109, 110, 111, 112]), (17, [0, 5, 6, 99, 100, 101, 102, 103, 104, 105, 106, 107, 108, 109, 110, 111, 112]), (18, [0, 5, 9, 99, 100, 101, 102, 103, 104, 105, 106, 107, 108, 109, 110, 111, 112]), (19, [0, 5, 9, 71, 99, 100, 101, 102, 103, 104, 105, 106, 107, 108, 109, 110, 111, 112]), (20, [0, 5, 9, 99, 100, 101, 102, 103, 104, 105, 106, 107, 108, 109, 110, 111, 112]), (21, [0, 5, 9, 10, 99, 100, 101, 102, 103, 104, 105, 106, 107, 108, 109, 110, 111, 112]), (22, [0, 5, 9, 10, 11, 99, 100, 101, 102, 103, 104, 105, 106, 107, 108, 109, 110, 111, 112]), (23, [0, 5, 9, 10, 11, 81, 99, 100, 101, 102, 103, 104, 105, 106, 107, 108, 109, 110, 111, 112]), (24, [0, 5, 9, 10, 11, 99, 100, 101, 102, 103, 104, 105, 106, 107, 108, 109, 110, 111, 112]), (25, [0, 5, 9, 10, 11, 99, 100, 101, 102, 103, 104, 105, 106, 107, 108, 109, 110, 111, 112, 113]), (26, [2]), (27, [0, 5, 9, 10, 12, 99, 100, 101, 102, 103, 104, 105, 106, 107, 108, 109, 110, 111, 112]), (28, [0, 5, 9, 10, 12, 99, 100, 101, 102, 103, 104, 105, 106, 107, 108, 109, 110, 111, 112, 115]), (29, [0, 5, 9, 10, 12, 99, 100, 101, 102, 103, 104, 105, 106, 107, 108, 109, 110, 111, 112]), (30, [0, 5, 9, 10, 12, 99, 100, 101, 102, 103, 104, 105, 106, 107, 108, 109, 110, 111, 112, 134]), (31, [2]), (32, [2])]
def od40 : List (Nat × List (List Nat)) := []
def F40 : FIR := ⟨135, [.tmp 2],
 (.seq (.reg [⟨(some 2), none, .mv (.const (Value.bool false))⟩] [0, 99, 100, 101, 102, 103, 104, 105, 106, 107, 108, 109, 110, 111, 112])
 (.seq (.seq (.reg [⟨(some 3), none, .mv (.const (Value.int IntKind.i64 0))⟩] [0, 3, 99, 100, 101, 102, 103, 104, 105, 106, 107, 108, 109, 110, 111, 112])
 (.block 0
 (.loop
 (.seq (.seq (.reg [⟨(some 13), none, .mv (.tmp 3)⟩,
 ⟨(some 14), none, .mv (.tmp 0)⟩,
 ⟨(some 15), none, .lenL (.tmp 14)⟩,
 ⟨(some 16), none, .bin .lss (.tmp 13) (.tmp 15)⟩] [0, 3, 16, 99, 100, 101, 102, 103, 104, 105, 106, 107, 108, 109, 110, 111, 112])
 (.cond (.tmp 16)
 .skip
 (.exit 0)))
 (.seq (.block 1
 (.seq (.reg [⟨(some 4), none, .mv (.const (Value.int IntKind.i64 0))⟩] [0, 3, 4, 99, 100, 101, 102, 103, 104, 105, 106, 107, 108, 109, 110, 111, 112])
 (.block 2
 (.loop
 (.seq (.seq (.reg [⟨(some 19), none, .mv (.tmp 4)⟩,
 ⟨(some 20), none, .mv (.tmp 0)⟩,
 ⟨(some 21), none, .mv (.tmp 3)⟩,
 ⟨(some 22), none, .idxL 1 (.tmp 20) (.tmp 21)⟩,
 ⟨(some 23), none, .load1 (.tmp 22)⟩,
 ⟨(some 24), none, .lenL (.tmp 23)⟩,
 ⟨(some 25), none, .bin .lss (.tmp 19) (.tmp 24)⟩] [0, 3, 4, 25, 99, 100, 101, 102, 103, 104, 105, 106, 107, 108, 109, 110, 111, 112])
 (.cond (.tmp 25)
 .skip
 (.exit 2)))
 (.seq (.block 3
 (.reg [⟨(some 28), none, .mv (.tmp 0)⟩,
 ⟨(some 29), none, .mv (.tmp 3)⟩,
 ⟨(some 30), none, .idxL 1 (.tmp 28) (.tmp 29)⟩,
 ⟨(some 31), none, .load1 (.tmp 30)⟩,
 ⟨(some 32), none, .mv (.tmp 4)⟩,
 ⟨(some 33), none, .mv (.tmp 3)⟩,
 ⟨(some 34), none, .bin .mul (.tmp 33) (.const (Value.int IntKind.i64 1000))⟩,
 ⟨(some 35), none, .mv (.tmp 4)⟩,
 ⟨(some 36), none, .bin .add (.tmp 34) (.tmp 35)⟩,
 ⟨(some 37), none, .bin .add (.tmp 36) (.const (Value.int IntKind.i64 9000000))⟩,
 ⟨(some 38), none, .conv .u64 (.tmp 37)⟩,
 ⟨(some 39), none, .idxL 1 (.tmp 31) (.tmp 32)⟩,
 ⟨none, none, .store 1 (.tmp 39) (.tmp 38)⟩] [0, 3, 4, 99, 100, 101, 102, 103, 104, 105, 106, 107, 108, 109, 110, 111, 112]))
 (.reg [⟨(some 26), none, .mv (.tmp 4)⟩,
 ⟨(some 27), none, .bin .add (.tmp 26) (.const (Value.int IntKind.i64 1))⟩,
 ⟨(some 4), none, .mv (.tmp 27)⟩] [0, 3, 4, 99, 100, 101, 102, 103, 104, 105, 106, 107, 108, 109, 110, 111, 112])))))))
 (.reg [⟨(some 17), none, .mv (.tmp 3)⟩,
 ⟨(some 18), none, .bin .add (.tmp 17) (.const (Value.int IntKind.i64 1))⟩,
 ⟨(some 3), none, .mv (.tmp 18)⟩] [0, 3, 99, 100, 101, 102, 103, 104, 105, 106, 107, 108, 109, 110, 111, 112]))))))
 (.seq (.reg [⟨(some 5), none, .mv (.const (Value.slice none 0 0))⟩] [0, 5, 99, 100, 101, 102, 103, 104, 105, 106, 107, 108, 109, 110, 111, 112])
 (.seq (.seq (.reg [⟨(some 6), none, .mv (.const (Value.int IntKind.i64 0))⟩] [0, 5, 6, 99, 100, 101, 102, 103, 104, 105, 106, 107, 108, 109, 110, 111, 112])
 (.block 4
 (.loop
 (.seq (.seq (.reg [⟨(some 40), none, .mv (.tmp 6)⟩,
 ⟨(some 41), none, .mv (.tmp 0)⟩,
 ⟨(some 42), none, .lenL (.tmp 41)⟩,
 ⟨(some 43), none, .bin .lss (.tmp 40) (.tmp 42)⟩] [0, 5, 6, 43, 99, 100, 101, 102, 103, 104, 105, 106, 107, 108, 109, 110, 111, 112])
 (.cond (.tmp 43)
 .skip
 (.exit 4)))
 (.seq (.block 5
 (.seq (.reg [⟨(some 46), none, .mv (.tmp 0)⟩,
 ⟨(some 47), none, .mv (.tmp 6)⟩,
 ⟨(some 48), none, .idxL 1 (.tmp 46) (.tmp 47)⟩,
 ⟨(some 49), none, .load1 (.tmp 48)⟩,
 ⟨(some 7), none, .mv (.tmp 49)⟩] [0, 5, 6, 7, 99, 100, 101, 102, 103, 104, 105, 106, 107, 108, 109, 110, 111, 112])
 (.seq (.seq (.reg [⟨(some 8), none, .mv (.const (Value.int IntKind.i64 0))⟩] [0, 5, 6, 7, 8, 99, 100, 101, 102, 103, 104, 105, 106, 107, 108, 109, 110, 111, 112])
 (.block 6
 (.loop
 (.seq (.seq (.reg [⟨(some 50), none, .mv (.tmp 8)⟩,
 ⟨(some 51), none, .bin .lss (.tmp 50) (.const (Value.int IntKind.i64 16))⟩] [0, 5, 6, 7, 8, 51, 99, 100, 101, 102, 103, 104, 105, 106, 107, 108, 109, 110, 111, 112])
 (.cond (.tmp 51)
 .skip
 (.exit 6)))
 (.seq (.block 7
 (.reg [⟨(some 54), none, .mv (.tmp 7)⟩,
 ⟨(some 55), none, .mv (.tmp 6)⟩,
 ⟨(some 56), none, .bin .sub (.const (Value.int IntKind.i64 (-1))) (.tmp 55)⟩,
 ⟨(some 57), none, .bin .mul (.tmp 56) (.const (Value.int IntKind.i64 1000))⟩,
 ⟨(some 58), none, .mv (.tmp 8)⟩,
 ⟨(some 59), none, .bin .sub (.tmp 57) (.tmp 58)⟩,
 ⟨(some 60), none, .bin .add (.tmp 59) (.const (Value.int IntKind.i64 9000000))⟩,
 ⟨(some 61), none, .conv .u64 (.tmp 60)⟩,
 ⟨(some 62), none, .bslice 119 1 [(Value.int IntKind.u64 0)] [(0, 1, (.tmp 61))]⟩,
 ⟨(some 63), none, .append 119 1 8 [(Value.int IntKind.u64 0)] (.tmp 54) (.tmp 62)⟩,
 ⟨(some 7), none, .mv (.tmp 63)⟩] [0, 5, 6, 7, 8, 99, 100, 101, 102, 103, 104, 105, 106, 107, 108, 109, 110, 111, 112]))
 (.reg [⟨(some 52), none, .mv (.tmp 8)⟩,
 ⟨(some 53), none, .bin .add (.tmp 52) (.const (Value.int IntKind.i64 1))⟩,
 ⟨(some 8), none, .mv (.tmp 53)⟩] [0, 5, 6, 7, 8, 99, 100, 101, 102, 103, 104, 105, 106, 107, 108, 109, 110, 111, 112]))))))
 (.reg [⟨(some 64), none, .mv (.tmp 5)⟩,
 ⟨(some 65), none, .mv (.tmp 7)⟩,
 ⟨(some 66), none, .bslice 118 1 [(Value.slice none 0 0)] [(0, 1, (.tmp 65))]⟩,
 ⟨(some 67), none, .append 118 1 24 [(Value.slice none 0 0)] (.tmp 64) (.tmp 66)⟩,
 ⟨(some 5), none, .mv (.tmp 67)⟩] [0, 5, 6, 99, 100, 101, 102, 103, 104, 105, 106, 107, 108, 109, 110, 111, 112]))))
 (.reg [⟨(some 44), none, .mv (.tmp 6)⟩,
 ⟨(some 45), none, .bin .add (.tmp 44) (.const (Value.int IntKind.i64 1))⟩,
 ⟨(some 6), none, .mv (.tmp 45)⟩] [0, 5, 6, 99, 100, 101, 102, 103, 104, 105, 106, 107, 108, 109, 110, 111, 112]))))))
 (.seq (.seq (.reg [⟨(some 9), none, .mv (.const (Value.int IntKind.i64 0))⟩] [0, 5, 9, 99, 100, 101, 102, 103, 104, 105, 106, 107, 108, 109, 110, 111, 112])
 (.block 8
 (.loop
 (.seq (.seq (.reg [⟨(some 68), none, .mv (.tmp 9)⟩,
 ⟨(some 69), none, .mv (.tmp 0)⟩,
 ⟨(some 70), none, .lenL (.tmp 69)⟩,
 ⟨(some 71), none, .bin .lss (.tmp 68) (.tmp 70)⟩] [0, 5, 9, 71, 99, 100, 101, 102, 103, 104, 105, 106, 107, 108, 109, 110, 111, 112])
 (.cond (.tmp 71)
 .skip
 (.exit 8)))
 (.seq (.block 9
 (.seq (.reg [⟨(some 74), none, .mv (.tmp 0)⟩,
 ⟨(some 75), none, .mv (.tmp 9)⟩,
 ⟨(some 76), none, .idxL 1 (.tmp 74) (.tmp 75)⟩,
 ⟨(some 77), none, .load1 (.tmp 76)⟩,
 ⟨(some 78), none, .lenL (.tmp 77)⟩,
 ⟨(some 10), none, .mv (.tmp 78)⟩] [0, 5, 9, 10, 99, 100, 101, 102, 103, 104, 105, 106, 107, 108, 109, 110, 111, 112])
 (.seq (.seq (.reg [⟨(some 11), none, .mv (.const (Value.int IntKind.i64 0))⟩] [0, 5, 9, 10, 11, 99, 100, 101, 102, 103, 104, 105, 106, 107, 108, 109, 110, 111, 112])
 (.block 10
 (.loop
 (.seq (.seq (.reg [⟨(some 79), none, .mv (.tmp 11)⟩,
 ⟨(some 80), none, .mv (.tmp 10)⟩,
 ⟨(some 81), none, .bin .lss (.tmp 79) (.tmp 80)⟩] [0, 5, 9, 10, 11, 81, 99, 100, 101, 102, 103, 104, 105, 106, 107, 108, 109, 110, 111, 112])
 (.cond (.tmp 81)
 .skip
 (.exit 10)))
 (.seq (.block 11
 (.seq (.reg [⟨(some 84), none, .mv (.tmp 0)⟩,
 ⟨(some 85), none, .mv (.tmp 9)⟩,
 ⟨(some 86), none, .idxL 1 (.tmp 84) (.tmp 85)⟩,
 ⟨(some 87), none, .load1 (.tmp 86)⟩,
 ⟨(some 88), none, .mv (.tmp 11)⟩,
 ⟨(some 89), none, .idxL 1 (.tmp 87) (.tmp 88)⟩,
 ⟨(some 90), none, .load1 (.tmp 89)⟩,
 ⟨(some 91), none, .mv (.tmp 9)⟩,
 ⟨(some 92), none, .bin .mul (.tmp 91) (.const (Value.int IntKind.i64 1000))⟩,
 ⟨(some 93), none, .mv (.tmp 11)⟩,
 ⟨(some 94), none, .bin .add (.tmp 92) (.tmp 93)⟩,
 ⟨(some 95), none, .bin .add (.tmp 94) (.const (Value.int IntKind.i64 9000000))⟩,
 ⟨(some 96), none, .conv .u64 (.tmp 95)⟩,
 ⟨(some 97), none, .bin .neq (.tmp 90) (.tmp 96)⟩,
 ⟨(some 98), none, .mv (.tmp 97)⟩,
 ⟨(some 99), (some (98, false)), .mv (.tmp 5)⟩,
 ⟨(some 100), (some (98, false)), .mv (.tmp 9)⟩,
 ⟨(some 101), (some (98, false)), .idxL 1 (.tmp 99) (.tmp 100)⟩,
 ⟨(some 102), (some (98, false)), .load1 (.tmp 101)⟩,
 ⟨(some 103), (some (98, false)), .mv (.tmp 11)⟩,
 ⟨(some 104), (some (98, false)), .idxL 1 (.tmp 102) (.tmp 103)⟩,
 ⟨(some 105), (some (98, false)), .load1 (.tmp 104)⟩,
 ⟨(some 106), (some (98, false)), .mv (.tmp 9)⟩,
 ⟨(some 107), (some (98, false)), .bin .mul (.tmp 106) (.const (Value.int IntKind.i64 1000))⟩,
 ⟨(some 108), (some (98, false)), .mv (.tmp 11)⟩,
 ⟨(some 109), (some (98, false)), .bin .add (.tmp 107) (.tmp 108)⟩,
 ⟨(some 110), (some (98, false)), .bin .add (.tmp 109) (.const (Value.int IntKind.i64 9000000))⟩,
 ⟨(some 111), (some (98, false)), .conv .u64 (.tmp 110)⟩,
 ⟨(some 112), (some (98, false)), .bin .neq (.tmp 105) (.tmp 111)⟩,
 ⟨(some 113), none, .pick (.tmp 98) (.const (Value.bool true)) (.tmp 112)⟩] [0, 5, 9, 10, 11, 99, 100, 101, 102, 103, 104, 105, 106, 107, 108, 109, 110, 111, 112, 113])
 (.cond (.tmp 113)
 (.seq (.reg [⟨(some 2), none, .mv (.const (Value.bool false))⟩] [2])
 .ret)
 .skip)))
 (.reg [⟨(some 82), none, .mv (.tmp 11)⟩,
 ⟨(some 83), none, .bin .add (.tmp 82) (.const (Value.int IntKind.i64 1))⟩,
 ⟨(some 11), none, .mv (.tmp 83)⟩] [0, 5, 9, 10, 11, 99, 100, 101, 102, 103, 104, 105, 106, 107, 108, 109, 110, 111, 112]))))))
 (.seq (.reg [⟨(some 12), none, .mv (.const (Value.int IntKind.i64 0))⟩] [0, 5, 9, 10, 12, 99, 100, 101, 102, 103, 104, 105, 106, 107, 108, 109, 110, 111, 112])
 (.block 12
 (.loop
 (.seq (.seq (.reg [⟨(some 114), none, .mv (.tmp 12)⟩,
 ⟨(some 115), none, .bin .lss (.tmp 114) (.const (Value.int IntKind.i64 16))⟩] [0, 5, 9, 10, 12, 99, 100, 101, 102, 103, 104, 105, 106, 107, 108, 109, 110, 111, 112, 115])
 (.cond (.tmp 115)
 .skip
 (.exit 12)))
 (.seq (.block 13
 (.seq (.reg [⟨(some 118), none, .mv (.tmp 5)⟩,
 ⟨(some 119), none, .mv (.tmp 9)⟩,
 ⟨(some 120), none, .idxL 1 (.tmp 118) (.tmp 119)⟩,
 ⟨(some 121), none, .load1 (.tmp 120)⟩,
 ⟨(some 122), none, .mv (.tmp 10)⟩,
 ⟨(some 123), none, .mv (.tmp 12)⟩,
 ⟨(some 124), none, .bin .add (.tmp 122) (.tmp 123)⟩,
 ⟨(some 125), none, .idxL 1 (.tmp 121) (.tmp 124)⟩,
 ⟨(some 126), none, .load1 (.tmp 125)⟩,
 ⟨(some 127), none, .mv (.tmp 9)⟩,
 ⟨(some 128), none, .bin .sub (.const (Value.int IntKind.i64 (-1))) (.tmp 127)⟩,
 ⟨(some 129), none, .bin .mul (.tmp 128) (.const (Value.int IntKind.i64 1000))⟩,
 ⟨(some 130), none, .mv (.tmp 12)⟩,
 ⟨(some 131), none, .bin .sub (.tmp 129) (.tmp 130)⟩,
 ⟨(some 132), none, .bin .add (.tmp 131) (.const (Value.int IntKind.i64 9000000))⟩,
 ⟨(some 133), none, .conv .u64 (.tmp 132)⟩,
 ⟨(some 134), none, .bin .neq (.tmp 126) (.tmp 133)⟩] [0, 5, 9, 10, 12, 99, 100, 101, 102, 103, 104, 105, 106, 107, 108, 109, 110, 111, 112, 134])
 (.cond (.tmp 134)
 (.seq (.reg [⟨(some 2), none, .mv (.const (Value.bool false))⟩] [2])
 .ret)
 .skip)))
 (.reg [⟨(some 116), none, .mv (.tmp 12)⟩,
 ⟨(some 117), none, .bin .add (.tmp 116) (.const (Value.int IntKind.i64 1))⟩,
 ⟨(some 12), none, .mv (.tmp 117)⟩] [0, 5, 9, 10, 12, 99, 100, 101, 102, 103, 104, 105, 106, 107, 108, 109, 110, 111, 112])))))))))
 (.reg [⟨(some 72), none, .mv (.tmp 9)⟩,
 ⟨(some 73), none, .bin .add (.tmp 72) (.const (Value.int IntKind.i64 1))⟩,
 ⟨(some 9), none, .mv (.tmp 73)⟩] [0, 5, 9, 99, 100, 101, 102, 103, 104, 105, 106, 107, 108, 109, 110, 111, 112]))))))
 (.seq (.reg [⟨(some 2), none, .mv (.const (Value.bool true))⟩] [2])
 .ret))))))⟩
theorem low40 : lowF Try.prog (assoc kp40) (assoc od40) 40 = some F40 := by kernel_rfl

/- palaver/palaverref00.ownOops -/
def kp41 : List (Nat × List Nat) := [(0, [0, 99, 100, 101, 102, 103, 104, 105, 106, 107, 108, 109, 110, 111, 112]), (1, [0, 3, 99, 100, 101, 102, 103, 104, 105, 106, 107, 108, 109, 110, 111, 112]), (2, [0, 3, 16, 99, 100, 101, 102, 103, 104, 105, 106, 107, 108, 109, 110, 111, 112]), (3, [0, 3, 99, 100, 101, 102, 103, 104, 105, 106, 107, 108, 109, 110, 111, 112]), (4, [0, 3, 4, 99, 100, 101, 102, 103, 104, 105, 106, 107, 108, 109, 110, 111, 112]), (5, [0, 3, 4, 25, 99, 100, 101, 102, 103, 104, 105, 106, 107, 108, 109, 110, 111, 112]), (6, [0, 3, 4, 99, 100, 101, 102, 103, 104, 105, 106, 107, 108, 109, 110, 111, 112]), (7, [0, 3, 4, 99, 100, 101, 102, 103, 104, 105, 106, 107, 108, 109, 110, 111, 112]), (8, [0, 5, 99, 100, 101, 102, 103, 104, 105, 106, 107, 108, 109, 110, 111, 112]), (9, [0, 5, 6, 99, 100, 101, 102, 103, 104, 105, 106, 107, 108, 109, 110, 111, 112]), (10, [0, 5, 6, 43, 99, 100, 101, 102, 103, 104, 105, 106, 107, 108, 109, 110, 111, 112]), (11, [0, 5, 6, 99, 100, 101, 102, 103, 104, 105, 106, 107, 108, 109, 110, 111, 112]), (12, [0, 5, 6, 7, 99, 100, 101, 102, 103, 104, 105, 106, 107, 108, 109, 110, 111, 112]), (13, [0, 5, 6, 7, 8, 99, 100, 101, 102, 103, 104, 105, 106, 107, 108, 109, 110, 111, 112]), (14, [0, 5, 6, 7, 8, 51, 99, 100, 101, 102, 103, 104, 105, 106, 107, 108, 109, 110, 111, 112]), (15, [0, 5, 6, 7, 8, 99, 100, 101, 102, 103, 104, 105, 106, 107, 108, 109, 110, 111, 112]), (16, [0, 5, 6, 7, 8, 99, 100, 101, 102, 103, 104, 105, 106, 107, 108, 109, 110, 111, 112]), (17, [0, 5, 6, 99, 100, 101, 102, 103, 104, 105, 106, 107, 108, 109, 110, 111, 112]), (18, [0, 5, 9, 99, 100, 101, 102, 103, 104, 105, 106, 107, 108, 109, 110, 111, 112]), (19, [0, 5, 9, 71, 99, 100, 101, 102, 103, 104, 105, 106, 107, 108, 109, 110, 111, 112]), (20, [0, 5, 9, 99, 100, 101, 102, 103, 104, 105, 106, 107, 108, 109, 110, 111, 112]), (21, [0, 5, 9, 10, 99, 100, 101, 102, 103, 104, 105, 106, 107, 108, 109, 110, 111, 112]), (22, [0, 5, 9, 10, 11, 99, 100, 101, 102, 103, 104, 105, 106, 107, 108, 109, 110, 111, 112]), (23, [0, 5, 9, 10, 11, 81, 99, 100, 101, 102, 103, 104, 105, 106, 107, 108, 109, 110, 111, 112]), (24, [0, 5, 9, 10, 11, 99, 100, 101, 102, 103, 104, 105, 106, 107, 108, 109, 110, 111, 112]), (25, [0, 5, 9, 10, 11, 99, 100, 101, 102, 103, 104, 105, 106, 107, 108, 109, 110, 111, 112, 113]), (26, [2]), (27, [0, 5, 9, 10, 12, 99, 100, 101, 102, 103, 104, 105, 106, 107, 108, 109, 110, 111, 112]), (28, [0, 5, 9, 10, 12, 99, 100, 101, 102, 103, 104, 105, 106, 107, 108, 109, 110, 111, 112, 115]), (29, [0, 5, 9, 10, 12, 99, 100, 101, 102, 103, 104, 105, 106, 107, 108, 109, 110, 111, 112]), (30, [0, 5, 9, 10, 12, 99, 100, 101, 102, 103, 104, 105, 106, 107, 108, 109, 110, 111, 112, 134]), (31, [2]), (32, [2])]
def od41 : List (Nat × List (List Nat)) := []
def F41 : FIR := ⟨135, [.tmp 2],
 (.seq (.reg [⟨(some 2), none, .mv (.const (Value.bool false))⟩] [0, 99, 100, 101, 102, 103, 104, 105, 106, 107, 108, 109, 110, 111, 112])
 (.seq (.seq (.reg [⟨(some 3), none, .mv (.const (Value.int IntKind.i64 0))⟩] [0, 3, 99, 100, 101, 102, 103, 104, 105, 106, 107, 108, 109, 110, 111, 112])
 (.block 0
 (.loop
 (.seq (.seq (.reg [⟨(some 13), none, .mv (.tmp 3)⟩,
 ⟨(some 14), none, .mv (.tmp 0)⟩,
 ⟨(some 15), none, .lenL (.tmp 14)⟩,
 ⟨(some 16), none, .bin .lss (.tmp 13) (.tmp 15)⟩] [0, 3, 16, 99, 100, 101, 102, 103, 104, 105, 106, 107, 108, 109, 110, 111, 112])
 (.cond (.tmp 16)
 .skip
 (.exit 0)))
 (.seq (.block 1
 (.seq (.reg [⟨(some 4), none, .mv (.const (Value.int IntKind.i64 0))⟩] [0, 3, 4, 99, 100, 101, 102, 103, 104, 105, 106, 107, 108, 109, 110, 111, 112])
 (.block 2
 (.loop
 (.seq (.seq (.reg [⟨(some 19), none, .mv (.tmp 4)⟩,
 ⟨(some 20), none, .mv (.tmp 0)⟩,
 ⟨(some 21), none, .mv (.tmp 3)⟩,
 ⟨(some 22), none, .idxL 1 (.tmp 20) (.tmp 21)⟩,
 ⟨(some 23), none, .load1 (.tmp 22)⟩,
 ⟨(some 24), none, .lenL (.tmp 23)⟩,
 ⟨(some 25), none, .bin .lss (.tmp 19) (.tmp 24)⟩] [0, 3, 4, 25, 99, 100, 101, 102, 103, 104, 105, 106, 107, 108, 109, 110, 111, 112])
 (.cond (.tmp 25)
 .skip
 (.exit 2)))
 (.seq (.block 3
 (.reg [⟨(some 28), none, .mv (.tmp 0)⟩,
 ⟨(some 29), none, .mv (.tmp 3)⟩,
 ⟨(some 30), none, .idxL 1 (.tmp 28) (.tmp 29)⟩,
 ⟨(some 31), none, .load1 (.tmp 30)⟩,
 ⟨(some 32), none, .mv (.tmp 4)⟩,
 ⟨(some 33), none, .mv (.tmp 3)⟩,
 ⟨(some 34), none, .bin .mul (.tmp 33) (.const (Value.int IntKind.i64 1000))⟩,
 ⟨(some 35), none, .mv (.tmp 4)⟩,
 ⟨(some 36), none, .bin .add (.tmp 34) (.tmp 35)⟩,
 ⟨(some 37), none, .bin .add (.tmp 36) (.const (Value.int IntKind.i64 9000000))⟩,
 ⟨(some 38), none, .conv .u64 (.tmp 37)⟩,
 ⟨(some 39), none, .idxL 1 (.tmp 31) (.tmp 32)⟩,
 ⟨none, none, .store 1 (.tmp 39) (.tmp 38)⟩] [0, 3, 4, 99, 100, 101, 102, 103, 104, 105, 106, 107, 108, 109, 110, 111, 112]))
 (.reg [⟨(some 26), none, .mv (.tmp 4)⟩,
 ⟨(some 27), none, .bin .add (.tmp 26) (.const (Value.int IntKind.i64 1))⟩,
 ⟨(some 4), none, .mv (.tmp 27)⟩] [0, 3, 4, 99, 100, 101, 102, 103, 104, 105, 106, 107, 108, 109, 110, 111, 112])))))))
 (.reg [⟨(some 17), none, .mv (.tmp 3)⟩,
 ⟨(some 18), none, .bin .add (.tmp 17) (.const (Value.int IntKind.i64 1))⟩,
 ⟨(some 3), none, .mv (.tmp 18)⟩] [0, 3, 99, 100, 101, 102, 103, 104, 105, 106, 107, 108, 109, 110, 111, 112]))))))
 (.seq (.reg [⟨(some 5), none, .mv (.const (Value.slice none 0 0))⟩] [0, 5, 99, 100, 101, 102, 103, 104, 105, 106, 107, 108, 109, 110, 111, 112])
 (.seq (.seq (.reg [⟨(some 6), none, .mv (.const (Value.int IntKind.i64 0))⟩] [0, 5, 6, 99, 100, 101, 102, 103, 104, 105, 106, 107, 108, 109, 110, 111, 112])
 (.block 4
 (.loop
 (.seq (.seq (.reg [⟨(some 40), none, .mv (.tmp 6)⟩,
 ⟨(some 41), none, .mv (.tmp 0)⟩,
 ⟨(some 42), none, .lenL (.tmp 41)⟩,
 ⟨(some 43), none, .bin .lss (.tmp 40) (.tmp 42)⟩] [0, 5, 6, 43, 99, 100, 101, 102, 103, 104, 105, 106, 107, 108, 109, 110, 111, 112])
 (.cond (.tmp 43)
 .skip
 (.exit 4)))
 (.seq (.block 5
 (.seq (.reg [⟨(some 46), none, .mv (.tmp 0)⟩,
 ⟨(some 47), none, .mv (.tmp 6)⟩,
 ⟨(some 48), none, .idxL 1 (.tmp 46) (.tmp 47)⟩,
 ⟨(some 49), none, .load1 (.tmp 48)⟩,
 ⟨(some 7), none, .mv (.tmp 49)⟩] [0, 5, 6, 7, 99, 100, 101, 102, 103, 104, 105, 106, 107, 108, 109, 110, 111, 112])
 (.seq (.seq (.reg [⟨(some 8), none, .mv (.const (Value.int IntKind.i64 0))⟩] [0, 5, 6, 7, 8, 99, 100, 101, 102, 103, 104, 105, 106, 107, 108, 109, 110, 111, 112])
 (.block 6
 (.loop
 (.seq (.seq (.reg [⟨(some 50), none, .mv (.tmp 8)⟩,
 ⟨(some 51), none, .bin .lss (.tmp 50) (.const (Value.int IntKind.i64 16))⟩] [0, 5, 6, 7, 8, 51, 99, 100, 101, 102, 103, 104, 105, 106, 107, 108, 109, 110, 111, 112])
 (.cond (.tmp 51)
 .skip
 (.exit 6)))
 (.seq (.block 7
 (.reg [⟨(some 54), none, .mv (.tmp 7)⟩,
 ⟨(some 55), none, .mv (.tmp 6)⟩,
 ⟨(some 56), none, .bin .sub (.const (Value.int IntKind.i64 (-1))) (.tmp 55)⟩,
 ⟨(some 57), none, .bin .mul (.tmp 56) (.const (Value.int IntKind.i64 1000))⟩,
 ⟨(some 58), none, .mv (.tmp 8)⟩,
 ⟨(some 59), none, .bin .sub (.tmp 57) (.tmp 58)⟩,
 ⟨(some 60), none, .bin .add (.tmp 59) (.const (Value.int IntKind.i64 9000000))⟩,
 ⟨(some 61), none, .conv .u64 (.tmp 60)⟩,
 ⟨(some 62), none, .bslice 121 1 [(Value.int IntKind.u64 0)] [(0, 1, (.tmp 61))]⟩,
 ⟨(some 63), none, .append 121 1 8 [(Value.int IntKind.u64 0)] (.tmp 54) (.tmp 62)⟩,
 ⟨(some 7), none, .mv (.tmp 63)⟩] [0, 5, 6, 7, 8, 99, 100, 101, 102, 103, 104, 105, 106, 107, 108, 109, 110, 111, 112]))
 (.reg [⟨(some 52), none, .mv (.tmp 8)⟩,
 ⟨(some 53), none, .bin .add (.tmp 52) (.const (Value.int IntKind.i64 1))⟩,
 ⟨(some 8), none, .mv (.tmp 53)⟩] [0, 5, 6, 7, 8, 99, 100, 101, 102, 103, 104, 105, 106, 107, 108, 109, 110, 111, 112]))))))
 (.reg [⟨(some 64), none, .mv (.tmp 5)⟩,
 ⟨(some 65), none, .mv (.tmp 7)⟩,
 ⟨(some 66), none, .bslice 120 1 [(Value.slice none 0 0)] [(0, 1, (.tmp 65))]⟩,
 ⟨(some 67), none, .append 120 1 24 [(Value.slice none 0 0)] (.tmp 64) (.tmp 66)⟩,
 ⟨(some 5), none, .mv (.tmp 67)⟩] [0, 5, 6, 99, 100, 101, 102, 103, 104, 105, 106, 107, 108, 109, 110, 111, 112]))))
 (.reg [⟨(some 44), none, .mv (.tmp 6)⟩,
 ⟨(some 45), none, .bin .add (.tmp 44) (.const (Value.int IntKind.i64 1))⟩,
 ⟨(some 6), none, .mv (.tmp 45)⟩] [0, 5, 6, 99, 100, 101, 102, 103, 104, 105, 106, 107, 108, 109, 110, 111, 112]))))))
 (.seq (.seq (.reg [⟨(some 9), none, .mv (.const (Value.int IntKind.i64 0))⟩] [0, 5, 9, 99, 100, 101, 102, 103, 104, 105, 106, 107, 108, 109, 110, 111, 112])
 (.block 8
 (.loop
 (.seq (.seq (.reg [⟨(some 68), none, .mv (.tmp 9)⟩,
 ⟨(some 69), none, .mv (.tmp 0)⟩,
 ⟨(some 70), none, .lenL (.tmp 69)⟩,
 ⟨(some 71), none, .bin .lss (.tmp 68) (.tmp 70)⟩] [0, 5, 9, 71, 99, 100, 101, 102, 103, 104, 105, 106, 107, 108, 109, 110, 111, 112])
 (.cond (.tmp 71)
 .skip
 (.exit 8)))
 (.seq (.block 9
 (.seq (.reg [⟨(some 74), none, .mv (.tmp 0)⟩,
 ⟨(some 75), none, .mv (.tmp 9)⟩,
 ⟨(some 76), none, .idxL 1 (.tmp 74) (.tmp 75)⟩,
 ⟨(some 77), none, .load1 (.tmp 76)⟩,
 ⟨(some 78), none, .lenL (.tmp 77)⟩,
 ⟨(some 10), none, .mv (.tmp 78)⟩] [0, 5, 9, 10, 99, 100, 101, 102, 103, 104, 105, 106, 107, 108, 109, 110, 111, 112])
 (.seq (.seq (.reg [⟨(some 11), none, .mv (.const (Value.int IntKind.i64 0))⟩] [0, 5, 9, 10, 11, 99, 100, 101, 102, 103, 104, 105, 106, 107, 108, 109, 110, 111, 112])
 (.block 10
 (.loop
 (.seq (.seq (.reg [⟨(some 79), none, .mv (.tmp 11)⟩,
 ⟨(some 80), none, .mv (.tmp 10)⟩,
 ⟨(some 81), none, .bin .lss (.tmp 79) (.tmp 80)⟩] [0, 5, 9, 10, 11, 81, 99, 100, 101, 102, 103, 104, 105, 106, 107, 108, 109, 110, 111, 112])
 (.cond (.tmp 81)
 .skip
 (.exit 10)))
 (.seq (.block 11
 (.seq (.reg [⟨(some 84), none, .mv (.tmp 0)⟩,
 ⟨(some 85), none, .mv (.tmp 9)⟩,
 ⟨(some 86), none, .idxL 1 (.tmp 84) (.tmp 85)⟩,
 ⟨(some 87), none, .load1 (.tmp 86)⟩,
 ⟨(some 88), none, .mv (.tmp 11)⟩,
 ⟨(some 89), none, .idxL 1 (.tmp 87) (.tmp 88)⟩,
 ⟨(some 90), none, .load1 (.tmp 89)⟩,
 ⟨(some 91), none, .mv (.tmp 9)⟩,
 ⟨(some 92), none, .bin .mul (.tmp 91) (.const (Value.int IntKind.i64 1000))⟩,
 ⟨(some 93), none, .mv (.tmp 11)⟩,
 ⟨(some 94), none, .bin .add (.tmp 92) (.tmp 93)⟩,
 ⟨(some 95), none, .bin .add (.tmp 94) (.const (Value.int IntKind.i64 9000000))⟩,
 ⟨(some 96), none, .conv .u64 (.tmp 95)⟩,
 ⟨(some 97), none, .bin .neq (.tmp 90) (.tmp 96)⟩,
 ⟨(some 98), none, .mv (.tmp 97)⟩,
 ⟨(some 99), (some (98, false)), .mv (.tmp 5)⟩,
 ⟨(some 100), (some (98, false)), .mv (.tmp 9)⟩,
 ⟨(some 101), (some (98, false)), .idxL 1 (.tmp 99) (.tmp 100)⟩,
 ⟨(some 102), (some (98, false)), .load1 (.tmp 101)⟩,
 ⟨(some 103), (some (98, false)), .mv (.tmp 11)⟩,
 ⟨(some 104), (some (98, false)), .idxL 1 (.tmp 102) (.tmp 103)⟩,
 ⟨(some 105), (some (98, false)), .load1 (.tmp 104)⟩,
 ⟨(some 106), (some (98, false)), .mv (.tmp 9)⟩,
 ⟨(some 107), (some (98, false)), .bin .mul (.tmp 106) (.const (Value.int IntKind.i64 1000))⟩,
 ⟨(some 108), (some (98, false)), .mv (.tmp 11)⟩,
 ⟨(some 109), (some (98, false)), .bin .add (.tmp 107) (.tmp 108)⟩,
 ⟨(some 110), (some (98, false)), .bin .add (.tmp 109) (.const (Value.int IntKind.i64 9000000))⟩,
 ⟨(some 111), (some (98, false)), .conv .u64 (.tmp 110)⟩,
 ⟨(some 112), (some (98, false)), .bin .neq (.tmp 105) (.tmp 111)⟩,
 ⟨(some 113), none, .pick (.tmp 98) (.const (Value.bool true)) (.tmp 112)⟩] [0, 5, 9, 10, 11, 99, 100, 101, 102, 103, 104, 105, 106, 107, 108, 109, 110, 111, 112, 113])
 (.cond (.tmp 113)
 (.seq (.reg [⟨(some 2), none, .mv (.const (Value.bool false))⟩] [2])
 .ret)
 .skip)))
 (.reg [⟨(some 82), none, .mv (.tmp 11)⟩,
 ⟨(some 83), none, .bin .add (.tmp 82) (.const (Value.int IntKind.i64 1))⟩,
 ⟨(some 11), none, .mv (.tmp 83)⟩] [0, 5, 9, 10, 11, 99, 100, 101, 102, 103, 104, 105, 106, 107, 108, 109, 110, 111, 112]))))))
 (.seq (.reg [⟨(some 12), none, .mv (.const (Value.int IntKind.i64 0))⟩] [0, 5, 9, 10, 12, 99, 100, 101, 102, 103, 104, 105, 106, 107, 108, 109, 110, 111, 112])
 (.block 12
 (.loop
 (.seq (.seq (.reg [⟨(some 114), none, .mv (.tmp 12)⟩,
 ⟨(some 115), none, .bin .lss (.tmp 114) (.const (Value.int IntKind.i64 16))⟩] [0, 5, 9, 10, 12, 99, 100, 101, 102, 103, 104, 105, 106, 107, 108, 109, 110, 111, 112, 115])
 (.cond (.tmp 115)
 .skip
 (.exit 12)))
 (.seq (.block 13
 (.seq (.reg [⟨(some 118), none, .mv (.tmp 5)⟩,
 ⟨(some 119), none, .mv (.tmp 9)⟩,
 ⟨(some 120), none, .idxL 1 (.tmp 118) (.tmp 119)⟩,
 ⟨(some 121), none, .load1 (.tmp 120)⟩,
 ⟨(some 122), none, .mv (.tmp 10)⟩,
 ⟨(some 123), none, .mv (.tmp 12)⟩,
 ⟨(some 124), none, .bin .add (.tmp 122) (.tmp 123)⟩,
 ⟨(some 125), none, .idxL 1 (.tmp 121) (.tmp 124)⟩,
 ⟨(some 126), none, .load1 (.tmp 125)⟩,
 ⟨(some 127), none, .mv (.tmp 9)⟩,
 ⟨(some 128), none, .bin .sub (.const (Value.int IntKind.i64 (-1))) (.tmp 127)⟩,
 ⟨(some 129), none, .bin .mul (.tmp 128) (.const (Value.int IntKind.i64 1000))⟩,
 ⟨(some 130), none, .mv (.tmp 12)⟩,
 ⟨(some 131), none, .bin .sub (.tmp 129) (.tmp 130)⟩,
 ⟨(some 132), none, .bin .add (.tmp 131) (.const (Value.int IntKind.i64 9000000))⟩,
 ⟨(some 133), none, .conv .u64 (.tmp 132)⟩,
 ⟨(some 134), none, .bin .neq (.tmp 126) (.tmp 133)⟩] [0, 5, 9, 10, 12, 99, 100, 101, 102, 103, 104, 105, 106, 107, 108, 109, 110, 111, 112, 134])
 (.cond (.tmp 134)
 (.seq (.reg [⟨(some 2), none, .mv (.const (Value.bool false))⟩] [2])
 .ret)
 .skip)))
 (.reg [⟨(some 116), none, .mv (.tmp 12)⟩,
 ⟨(some 117), none, .bin .add (.tmp 116) (.const (Value.int IntKind.i64 1))⟩,
 ⟨(some 12), none, .mv (.tmp 117)⟩] [0, 5, 9, 10, 12, 99, 100, 101, 102, 103, 104, 105, 106, 107, 108, 109, 110, 111, 112])))))))))
 (.reg [⟨(some 72), none, .mv (.tmp 9)⟩,
 ⟨(some 73), none, .bin .add (.tmp 72) (.const (Value.int IntKind.i64 1))⟩,
 ⟨(some 9), none, .mv (.tmp 73)⟩] [0, 5, 9, 99, 100, 101, 102, 103, 104, 105, 106, 107, 108, 109, 110, 111, 112]))))))
 (.seq (.reg [⟨(some 2), none, .mv (.const (Value.bool true))⟩] [2])
 .ret))))))⟩
theorem low41 : lowF Try.prog (assoc kp41) (assoc od41) 41 = some F41 := by kernel_rfl

/- palaver/palaverref00.ownDeeds -/
def kp42 : List (Nat × List Nat) := [(0, [0, 96, 97, 98, 99, 100, 101, 102, 103, 104, 105, 106, 107, 108]), (1, [0, 3, 96, 97, 98, 99, 100, 101, 102, 103, 104, 105, 106, 107, 108]), (2, [0, 3, 16, 96, 97, 98, 99, 100, 101, 102, 103, 104, 105, 106, 107, 108]), (3, [0, 3, 96, 97, 98, 99, 100, 101, 102, 103, 104, 105, 106, 107, 108]), (4, [0, 3, 4, 96, 97, 98, 99, 100, 101, 102, 103, 104, 105, 106, 107, 108]), (5, [0, 3, 4, 25, 96, 97, 98, 99, 100, 101, 102, 103, 104, 105, 106, 107, 108]), (6, [0, 3, 4, 96, 97, 98, 99, 100, 101, 102, 103, 104, 105, 106, 107, 108]), (7, [0, 3, 4, 96, 97, 98, 99, 100, 101, 102, 103, 104, 105, 106, 107, 108]), (8, [0, 5, 96, 97, 98, 99, 100, 101, 102, 103, 104, 105, 106, 107, 108]), (9, [0, 5, 6, 96, 97, 98, 99, 100, 101, 102, 103, 104, 105, 106, 107, 108]), (10, [0, 5, 6, 42, 96, 97, 98, 99, 100, 101, 102, 103, 104, 105, 106, 107, 108]), (11, [0, 5, 6, 96, 97, 98, 99, 100, 101, 102, 103, 104, 105, 106, 107, 108]), (12, [0, 5, 6, 7, 96, 97, 98, 99, 100, 101, 102, 103, 104, 105, 106, 107, 108]), (13, [0, 5, 6, 7, 8, 96, 97, 98, 99, 100, 101, 102, 103, 104, 105, 106, 107, 108]), (14, [0, 5, 6, 7, 8, 50, 96, 97, 98, 99, 100, 101, 102, 103, 104, 105, 106, 107, 108]), (15, [0, 5, 6, 7, 8, 96, 97, 98, 99, 100, 101, 102, 103, 104, 105, 106, 107, 108]), (16, [0, 5, 6, 7, 8, 96, 97, 98, 99, 100, 101, 102, 103, 104, 105, 106, 107, 108]), (17, [0, 5, 6, 96, 97, 98, 99, 100, 101, 102, 103, 104, 105, 106, 107, 108]), (18, [0, 5, 9, 96, 97, 98, 99, 100, 101, 102, 103, 104, 105, 106, 107, 108]), (19, [0, 5, 9, 69, 96, 97, 98, 99, 100, 101, 102, 103, 104, 105, 106, 107, 108]), (20, [0, 5, 9, 96, 97, 98, 99, 100, 101, 102, 103, 104, 105, 106, 107, 108]), (21, [0, 5, 9, 10, 96, 97, 98, 99, 100, 101, 102, 103, 104, 105, 106, 107, 108]), (22, [0, 5, 9, 10, 11, 96, 97, 98, 99, 100, 101, 102, 103, 104, 105, 106, 107, 108]), (23, [0, 5, 9, 10, 11, 79, 96, 97, 98, 99, 100, 101, 102, 103, 104, 105, 106, 107, 108]), (24, [0, 5, 9, 10, 11, 96, 97, 98, 99, 100, 101, 102, 103, 104, 105, 106, 107, 108]), (25, [0, 5, 9, 10, 11, 96, 97, 98, 99, 100, 101, 102, 103, 104, 105, 106, 107, 108, 109]), (26, [2]), (27, [0, 5, 9, 10, 12, 96, 97, 98, 99, 100, 101, 102, 103, 104, 105, 106, 107, 108]), (28, [0, 5, 9, 10, 12, 96, 97, 98, 99, 100, 101, 102, 103, 104, 105, 106, 107, 108, 111]), (29, [0, 5, 9, 10, 12, 96, 97, 98, 99, 100, 101, 102, 103, 104, 105, 106, 107, 108]), (30, [0, 5, 9, 10, 12, 96, 97, 98, 99, 100, 101, 102, 103, 104, 105, 106, 107, 108, 129]), (31, [2]), (32, [2])]
def od42 : List (Nat × List (List Nat)) := []
def F42 : FIR := ⟨130, [.tmp 2],
 (.seq (.reg [⟨(some 2), none, .mv (.const (Value.bool false))⟩] [0, 96, 97, 98, 99, 100, 101, 102, 103, 104, 105, 106, 107, 108])
 (.seq (.seq (.reg [⟨(some 3), none, .mv (.const (Value.int IntKind.i64 0))⟩] [0, 3, 96, 97, 98, 99, 100, 101, 102, 103, 104, 105, 106, 107, 108])
 (.block 0
 (.loop
 (.seq (.seq (.reg [⟨(some 13), none, .mv (.tmp 3)⟩,
 ⟨(some 14), none, .mv (.tmp 0)⟩,
 ⟨(some 15), none, .lenL (.tmp 14)⟩,
 ⟨(some 16), none, .bin .lss (.tmp 13) (.tmp 15)⟩] [0, 3, 16, 96, 97, 98, 99, 100, 101, 102, 103, 104, 105, 106, 107, 108])
 (.cond (.tmp 16)
 .skip
 (.exit 0)))
 (.seq (.block 1
 (.seq (.reg [⟨(some 4), none, .mv (.const (Value.int IntKind.i64 0))⟩] [0, 3, 4, 96, 97, 98, 99, 100, 101, 102, 103, 104, 105, 106, 107, 108])
 (.block 2
 (.loop
 (.seq (.seq (.reg [⟨(some 19), none, .mv (.tmp 4)⟩,
 ⟨(some 20), none, .mv (.tmp 0)⟩,
 ⟨(some 21), none, .mv (.tmp 3)⟩,
 ⟨(some 22), none, .idxL 1 (.tmp 20) (.tmp 21)⟩,
 ⟨(some 23), none, .load1 (.tmp 22)⟩,
 ⟨(some 24), none, .lenL (.tmp 23)⟩,
 ⟨(some 25), none, .bin .lss (.tmp 19) (.tmp 24)⟩] [0, 3, 4, 25, 96, 97, 98, 99, 100, 101, 102, 103, 104, 105, 106, 107, 108])
 (.cond (.tmp 25)
 .skip
 (.exit 2)))
 (.seq (.block 3
 (.reg [⟨(some 28), none, .mv (.tmp 0)⟩,
 ⟨(some 29), none, .mv (.tmp 3)⟩,
 ⟨(some 30), none, .idxL 1 (.tmp 28) (.tmp 29)⟩,
 ⟨(some 31), none, .load1 (.tmp 30)⟩,
 ⟨(some 32), none, .mv (.tmp 4)⟩,
 ⟨(some 33), none, .mv (.tmp 3)⟩,
 ⟨(some 34), none, .bin .mul (.tmp 33) (.const (Value.int IntKind.i64 1000))⟩,
 ⟨(some 35), none, .mv (.tmp 4)⟩,
 ⟨(some 36), none, .bin .add (.tmp 34) (.tmp 35)⟩,
 ⟨(some 37), none, .build [(Value.int IntKind.u8 0), (Value.int IntKind.i64 0), (Value.string ⟨#[]⟩), (Value.string ⟨#[]⟩), (Value.int IntKind.i64 0), (Value.int IntKind.i64 0)] [(1, 1, (.tmp 36))]⟩,
 ⟨(some 38), none, .idxL 6 (.tmp 31) (.tmp 32)⟩,
 ⟨none, none, .store 6 (.tmp 38) (.tmp 37)⟩] [0, 3, 4, 96, 97, 98, 99, 100, 101, 102, 103, 104, 105, 106, 107, 108]))
 (.reg [⟨(some 26), none, .mv (.tmp 4)⟩,
 ⟨(some 27), none, .bin .add (.tmp 26) (.const (Value.int IntKind.i64 1))⟩,
 ⟨(some 4), none, .mv (.tmp 27)⟩] [0, 3, 4, 96, 97, 98, 99, 100, 101, 102, 103, 104, 105, 106, 107, 108])))))))
 (.reg [⟨(some 17), none, .mv (.tmp 3)⟩,
 ⟨(some 18), none, .bin .add (.tmp 17) (.const (Value.int IntKind.i64 1))⟩,
 ⟨(some 3), none, .mv (.tmp 18)⟩] [0, 3, 96, 97, 98, 99, 100, 101, 102, 103, 104, 105, 106, 107, 108]))))))
 (.seq (.reg [⟨(some 5), none, .mv (.const (Value.slice none 0 0))⟩] [0, 5, 96, 97, 98, 99, 100, 101, 102, 103, 104, 105, 106, 107, 108])
 (.seq (.seq (.reg [⟨(some 6), none, .mv (.const (Value.int IntKind.i64 0))⟩] [0, 5, 6, 96, 97, 98, 99, 100, 101, 102, 103, 104, 105, 106, 107, 108])
 (.block 4
 (.loop
 (.seq (.seq (.reg [⟨(some 39), none, .mv (.tmp 6)⟩,
 ⟨(some 40), none, .mv (.tmp 0)⟩,
 ⟨(some 41), none, .lenL (.tmp 40)⟩,
 ⟨(some 42), none, .bin .lss (.tmp 39) (.tmp 41)⟩] [0, 5, 6, 42, 96, 97, 98, 99, 100, 101, 102, 103, 104, 105, 106, 107, 108])
 (.cond (.tmp 42)
 .skip
 (.exit 4)))
 (.seq (.block 5
 (.seq (.reg [⟨(some 45), none, .mv (.tmp 0)⟩,
 ⟨(some 46), none, .mv (.tmp 6)⟩,
 ⟨(some 47), none, .idxL 1 (.tmp 45) (.tmp 46)⟩,
 ⟨(some 48), none, .load1 (.tmp 47)⟩,
 ⟨(some 7), none, .mv (.tmp 48)⟩] [0, 5, 6, 7, 96, 97, 98, 99, 100, 101, 102, 103, 104, 105, 106, 107, 108])
 (.seq (.seq (.reg [⟨(some 8), none, .mv (.const (Value.int IntKind.i64 0))⟩] [0, 5, 6, 7, 8, 96, 97, 98, 99, 100, 101, 102, 103, 104, 105, 106, 107, 108])
 (.block 6
 (.loop
 (.seq (.seq (.reg [⟨(some 49), none, .mv (.tmp 8)⟩,
 ⟨(some 50), none, .bin .lss (.tmp 49) (.const (Value.int IntKind.i64 16))⟩] [0, 5, 6, 7, 8, 50, 96, 97, 98, 99, 100, 101, 102, 103, 104, 105, 106, 107, 108])
 (.cond (.tmp 50)
 .skip
 (.exit 6)))
 (.seq (.block 7
 (.reg [⟨(some 53), none, .mv (.tmp 7)⟩,
 ⟨(some 54), none, .mv (.tmp 6)⟩,
 ⟨(some 55), none, .bin .sub (.const (Value.int IntKind.i64 (-1))) (.tmp 54)⟩,
 ⟨(some 56), none, .bin .mul (.tmp 55) (.const (Value.int IntKind.i64 1000))⟩,
 ⟨(some 57), none, .mv (.tmp 8)⟩,
 ⟨(some 58), none, .bin .sub (.tmp 56) (.tmp 57)⟩,
 ⟨(some 59), none, .build [(Value.int IntKind.u8 0), (Value.int IntKind.i64 0), (Value.string ⟨#[]⟩), (Value.string ⟨#[]⟩), (Value.int IntKind.i64 0), (Value.int IntKind.i64 0)] [(1, 1, (.tmp 58))]⟩,
 ⟨(some 60), none, .bslice 125 1 [(Value.int IntKind.u8 0), (Value.int IntKind.i64 0), (Value.string ⟨#[]⟩), (Value.string ⟨#[]⟩), (Value.int IntKind.i64 0), (Value.int IntKind.i64 0)] [(0, 6, (.tmp 59))]⟩,
 ⟨(some 61), none, .append 125 6 64 [(Value.int IntKind.u8 0), (Value.int IntKind.i64 0), (Value.string ⟨#[]⟩), (Value.string ⟨#[]⟩), (Value.int IntKind.i64 0), (Value.int IntKind.i64 0)] (.tmp 53) (.tmp 60)⟩,
 ⟨(some 7), none, .mv (.tmp 61)⟩] [0, 5, 6, 7, 8, 96, 97, 98, 99, 100, 101, 102, 103, 104, 105, 106, 107, 108]))
 (.reg [⟨(some 51), none, .mv (.tmp 8)⟩,
 ⟨(some 52), none, .bin .add (.tmp 51) (.const (Value.int IntKind.i64 1))⟩,
 ⟨(some 8), none, .mv (.tmp 52)⟩] [0, 5, 6, 7, 8, 96, 97, 98, 99, 100, 101, 102, 103, 104, 105, 106, 107, 108]))))))
 (.reg [⟨(some 62), none, .mv (.tmp 5)⟩,
 ⟨(some 63), none, .mv (.tmp 7)⟩,
 ⟨(some 64), none, .bslice 122 1 [(Value.slice none 0 0)] [(0, 1, (.tmp 63))]⟩,
 ⟨(some 65), none, .append 122 1 24 [(Value.slice none 0 0)] (.tmp 62) (.tmp 64)⟩,
 ⟨(some 5), none, .mv (.tmp 65)⟩] [0, 5, 6, 96, 97, 98, 99, 100, 101, 102, 103, 104, 105, 106, 107, 108]))))
 (.reg [⟨(some 43), none, .mv (.tmp 6)⟩,
 ⟨(some 44), none, .bin .add (.tmp 43) (.const (Value.int IntKind.i64 1))⟩,
 ⟨(some 6), none, .mv (.tmp 44)⟩] [0, 5, 6, 96, 97, 98, 99, 100, 101, 102, 103, 104, 105, 106, 107, 108]))))))
 (.seq (.seq (.reg [⟨(some 9), none, .mv (.const (Value.int IntKind.i64 0))⟩] [0, 5, 9, 96, 97, 98, 99, 100, 101, 102, 103, 104, 105, 106, 107, 108])
 (.block 8
 (.loop
 (.seq (.seq (.reg [⟨(some 66), none, .mv (.tmp 9)⟩,
 ⟨(some 67), none, .mv (.tmp 0)⟩,
 ⟨(some 68), none, .lenL (.tmp 67)⟩,
 ⟨(some 69), none, .bin .lss (.tmp 66) (.tmp 68)⟩] [0, 5, 9, 69, 96, 97, 98, 99, 100, 101, 102, 103, 104, 105, 106, 107, 108])
 (.cond (.tmp 69)
 .skip
 (.exit 8)))
 (.seq (.block 9
 (.seq (.reg [⟨(some 72), none, .mv (.tmp 0)⟩,
 ⟨(some 73), none, .mv (.tmp 9)⟩,
 ⟨(some 74), none, .idxL 1 (.tmp 72) (.tmp 73)⟩,
 ⟨(some 75), none, .load1 (.tmp 74)⟩,
 ⟨(some 76), none, .lenL (.tmp 75)⟩,
 ⟨(some 10), none, .mv (.tmp 76)⟩] [0, 5, 9, 10, 96, 97, 98, 99, 100, 101, 102, 103, 104, 105, 106, 107, 108])
 (.seq (.seq (.reg [⟨(some 11), none, .mv (.const (Value.int IntKind.i64 0))⟩] [0, 5, 9, 10, 11, 96, 97, 98, 99, 100, 101, 102, 103, 104, 105, 106, 107, 108])
 (.block 10
 (.loop
 (.seq (.seq (.reg [⟨(some 77), none, .mv (.tmp 11)⟩,
 ⟨(some 78), none, .mv (.tmp 10)⟩,
 ⟨(some 79), none, .bin .lss (.tmp 77) (.tmp 78)⟩] [0, 5, 9, 10, 11, 79, 96, 97, 98, 99, 100, 101, 102, 103, 104, 105, 106, 107, 108])
 (.cond (.tmp 79)
 .skip
 (.exit 10)))
 (.seq (.block 11
 (.seq (.reg [⟨(some 82), none, .mv (.tmp 0)⟩,
 ⟨(some 83), none, .mv (.tmp 9)⟩,
 ⟨(some 84), none, .idxL 1 (.tmp 82) (.tmp 83)⟩,
 ⟨(some 85), none, .load1 (.tmp 84)⟩,
 ⟨(some 86), none, .mv (.tmp 11)⟩,
 ⟨(some 87), none, .idxL 6 (.tmp 85) (.tmp 86)⟩,
 ⟨(some 88), none, .loadN 6 (.tmp 87)⟩,
 ⟨(some 89), none, .mv (.tmp 9)⟩,
 ⟨(some 90), none, .bin .mul (.tmp 89) (.const (Value.int IntKind.i64 1000))⟩,
 ⟨(some 91), none, .mv (.tmp 11)⟩,
 ⟨(some 92), none, .bin .add (.tmp 90) (.tmp 91)⟩,
 ⟨(some 93), none, .build [(Value.int IntKind.u8 0), (Value.int IntKind.i64 0), (Value.string ⟨#[]⟩), (Value.string ⟨#[]⟩), (Value.int IntKind.i64 0), (Value.int IntKind.i64 0)] [(1, 1, (.tmp 92))]⟩,
 ⟨(some 94), none, .eqagg true [.int, .int, .str, .str, .int, .int] (.tmp 88) (.tmp 93)⟩,
 ⟨(some 95), none, .mv (.tmp 94)⟩,
 ⟨(some 96), (some (95, false)), .mv (.tmp 5)⟩,
 ⟨(some 97), (some (95, false)), .mv (.tmp 9)⟩,
 ⟨(some 98), (some (95, false)), .idxL 1 (.tmp 96) (.tmp 97)⟩,
 ⟨(some 99), (some (95, false)), .load1 (.tmp 98)⟩,
 ⟨(some 100), (some (95, false)), .mv (.tmp 11)⟩,
 ⟨(some 101), (some (95, false)), .idxL 6 (.tmp 99) (.tmp 100)⟩,
 ⟨(some 102), (some (95, false)), .loadN 6 (.tmp 101)⟩,
 ⟨(some 103), (some (95, false)), .mv (.tmp 9)⟩,
 ⟨(some 104), (some (95, false)), .bin .mul (.tmp 103) (.const (Value.int IntKind.i64 1000))⟩,
 ⟨(some 105), (some (95, false)), .mv (.tmp 11)⟩,
 ⟨(some 106), (some (95, false)), .bin .add (.tmp 104) (.tmp 105)⟩,
 ⟨(some 107), (some (95, false)), .build [(Value.int IntKind.u8 0), (Value.int IntKind.i64 0), (Value.string ⟨#[]⟩), (Value.string ⟨#[]⟩), (Value.int IntKind.i64 0), (Value.int IntKind.i64 0)] [(1, 1, (.tmp 106))]⟩,
 ⟨(some 108), (some (95, false)), .eqagg true [.int, .int, .str, .str, .int, .int] (.tmp 102) (.tmp 107)⟩,
 ⟨(some 109), none, .pick (.tmp 95) (.const (Value.bool true)) (.tmp 108)⟩] [0, 5, 9, 10, 11, 96, 97, 98, 99, 100, 101, 102, 103, 104, 105, 106, 107, 108, 109])
 (.cond (.tmp 109)
 (.seq (.reg [⟨(some 2), none, .mv (.const (Value.bool false))⟩] [2])
 .ret)
 .skip)))
 (.reg [⟨(some 80), none, .mv (.tmp 11)⟩,
 ⟨(some 81), none, .bin .add (.tmp 80) (.const (Value.int IntKind.i64 1))⟩,
 ⟨(some 11), none, .mv (.tmp 81)⟩] [0, 5, 9, 10, 11, 96, 97, 98, 99, 100, 101, 102, 103, 104, 105, 106, 107, 108]))))))
 (.seq (.reg [⟨(some 12), none, .mv (.const (Value.int IntKind.i64 0))⟩] [0, 5, 9, 10, 12, 96, 97, 98, 99, 100, 101, 102, 103, 104, 105, 106, 107, 108])
 (.block 12
 (.loop
 (.seq (.seq (.reg [⟨(some 110), none, .mv (.tmp 12)⟩,
 ⟨(some 111), none, .bin .lss (.tmp 110) (.const (Value.int IntKind.i64 16))⟩] [0, 5, 9, 10, 12, 96, 97, 98, 99, 100, 101, 102, 103, 104, 105, 106, 107, 108, 111])
 (.cond (.tmp 111)
 .skip
 (.exit 12)))
 (.seq (.block 13
 (.seq (.reg [⟨(some 114), none, .mv (.tmp 5)⟩,
 ⟨(some 115), none, .mv (.tmp 9)⟩,
 ⟨(some 116), none, .idxL 1 (.tmp 114) (.tmp 115)⟩,
 ⟨(some 117), none, .load1 (.tmp 116)⟩,
 ⟨(some 118), none, .mv (.tmp 10)⟩,
 ⟨(some 119), none, .mv (.tmp 12)⟩,
 ⟨(some 120), none, .bin .add (.tmp 118) (.tmp 119)⟩,
 ⟨(some 121), none, .idxL 6 (.tmp 117) (.tmp 120)⟩,
 ⟨(some 122), none, .loadN 6 (.tmp 121)⟩,
 ⟨(some 123), none, .mv (.tmp 9)⟩,
 ⟨(some 124), none, .bin .sub (.const (Value.int IntKind.i64 (-1))) (.tmp 123)⟩,
 ⟨(some 125), none, .bin .mul (.tmp 124) (.const (Value.int IntKind.i64 1000))⟩,
 ⟨(some 126), none, .mv (.tmp 12)⟩,
 ⟨(some 127), none, .bin .sub (.tmp 125) (.tmp 126)⟩,
 ⟨(some 128), none, .build [(Value.int IntKind.u8 0), (Value.int IntKind.i64 0), (Value.string ⟨#[]⟩), (Value.string ⟨#[]⟩), (Value.int IntKind.i64 0), (Value.int IntKind.i64 0)] [(1, 1, (.tmp 127))]⟩,
 ⟨(some 129), none, .eqagg true [.int, .int, .str, .str, .int, .int] (.tmp 122) (.tmp 128)⟩] [0, 5, 9, 10, 12, 96, 97, 98, 99, 100, 101, 102, 103, 104, 105, 106, 107, 108, 129])
 (.cond (.tmp 129)
 (.seq (.reg [⟨(some 2), none, .mv (.const (Value.bool false))⟩] [2])
 .ret)
 .skip)))
 (.reg [⟨(some 112), none, .mv (.tmp 12)⟩,
 ⟨(some 113), none, .bin .add (.tmp 112) (.const (Value.int IntKind.i64 1))⟩,
 ⟨(some 12), none, .mv (.tmp 113)⟩] [0, 5, 9, 10, 12, 96, 97, 98, 99, 100, 101, 102, 103, 104, 105, 106, 107, 108])))))))))
 (.reg [⟨(some 70), none, .mv (.tmp 9)⟩,
 ⟨(some 71), none, .bin .add (.tmp 70) (.const (Value.int IntKind.i64 1))⟩,
 ⟨(some 9), none, .mv (.tmp 71)⟩] [0, 5, 9, 96, 97, 98, 99, 100, 101, 102, 103, 104, 105, 106, 107, 108]))))))
 (.seq (.reg [⟨(some 2), none, .mv (.const (Value.bool true))⟩] [2])
 .ret))))))⟩
theorem low42 : lowF Try.prog (assoc kp42) (assoc od42) 42 = some F42 := by kernel_rfl

/- palaver/palaverref00.ownFiles -/
def kp43 : List (Nat × List Nat) := [(0, [0, 99, 100, 101, 102, 103, 104, 105, 106, 107, 108, 109, 110, 111, 112]), (1, [0, 3, 99, 100, 101, 102, 103, 104, 105, 106, 107, 108, 109, 110, 111, 112]), (2, [0, 3, 16, 99, 100, 101, 102, 103, 104, 105, 106, 107, 108, 109, 110, 111, 112]), (3, [0, 3, 99, 100, 101, 102, 103, 104, 105, 106, 107, 108, 109, 110, 111, 112]), (4, [0, 3, 4, 99, 100, 101, 102, 103, 104, 105, 106, 107, 108, 109, 110, 111, 112]), (5, [0, 3, 4, 25, 99, 100, 101, 102, 103, 104, 105, 106, 107, 108, 109, 110, 111, 112]), (6, [0, 3, 4, 99, 100, 101, 102, 103, 104, 105, 106, 107, 108, 109, 110, 111, 112]), (7, [0, 3, 4, 99, 100, 101, 102, 103, 104, 105, 106, 107, 108, 109, 110, 111, 112]), (8, [0, 5, 99, 100, 101, 102, 103, 104, 105, 106, 107, 108, 109, 110, 111, 112]), (9, [0, 5, 6, 99, 100, 101, 102, 103, 104, 105, 106, 107, 108, 109, 110, 111, 112]), (10, [0, 5, 6, 43, 99, 100, 101, 102, 103, 104, 105, 106, 107, 108, 109, 110, 111, 112]), (11, [0, 5, 6, 99, 100, 101, 102, 103, 104, 105, 106, 107, 108, 109, 110, 111, 112]), (12, [0, 5, 6, 7, 99, 100, 101, 102, 103, 104, 105, 106, 107, 108, 109, 110, 111, 112]), (13, [0, 5, 6, 7, 8, 99, 100, 101, 102, 103, 104, 105, 106, 107, 108, 109, 110, 111, 112]), (14, [0, 5, 6, 7, 8, 51, 99, 100, 101, 102, 103, 104, 105, 106, 107, 108, 109, 110, 111, 112]), (15, [0, 5, 6, 7, 8, 99, 100, 101, 102, 103, 104, 105, 106, 107, 108, 109, 110, 111, 112]), (16, [0, 5, 6, 7, 8, 99, 100, 101, 102, 103, 104, 105, 106, 107, 108, 109, 110, 111, 112]), (17, [0, 5, 6, 99, 100, 101, 102, 103, 104, 105, 106, 107, 108, 109, 110, 111, 112]), (18, [0, 5, 9, 99, 100, 101, 102, 103, 104, 105, 106, 107, 108, 109, 110, 111, 112]), (19, [0, 5, 9, 71, 99, 100, 101, 102, 103, 104, 105, 106, 107, 108, 109, 110, 111, 112]), (20, [0, 5, 9, 99, 100, 101, 102, 103, 104, 105, 106, 107, 108, 109, 110, 111, 112]), (21, [0, 5, 9, 10, 99, 100, 101, 102, 103, 104, 105, 106, 107, 108, 109, 110, 111, 112]), (22, [0, 5, 9, 10, 11, 99, 100, 101, 102, 103, 104, 105, 106, 107, 108, 109, 110, 111, 112]), (23, [0, 5, 9, 10, 11, 81, 99, 100, 101, 102, 103, 104, 105, 106, 107, 108, 109, 110, 111, 112]), (24, [0, 5, 9, 10, 11, 99, 100, 101, 102, 103, 104, 105, 106, 107, 108, 109, 110, 111, 112]), (25, [0, 5, 9, 10, 11, 99, 100, 101, 102, 103, 104, 105, 106, 107, 108, 109, 110, 111, 112, 113]), (26, [2]), (27, [0, 5, 9, 10, 12, 99, 100, 101, 102, 103, 104, 105, 106, 107, 108, 109, 110, 111, 112]), (28, [0, 5, 9, 10, 12, 99, 100, 101, 102, 103, 104, 105, 106, 107, 108, 109, 110, 111, 112, 115]), (29, [0, 5, 9, 10, 12, 99, 100, 101, 102, 103, 104, 105, 106, 107, 108, 109, 110, 111, 112]), (30, [0, 5, 9, 10, 12, 99, 100, 101, 102, 103, 104, 105, 106, 107, 108, 109, 110, 111, 112, 134]), (31, [2]), (32, [2])]
def od43 : List (Nat × List (List Nat)) := [(7, [[0, 1, 2, 3, 4, 5, 6, 7, 8, 9, 10, 11, 12], [0, 1, 2, 4, 5, 6, 7, 8, 9, 3, 10, 11, 12]]), (25, [[0, 1, 2, 3, 4, 5, 6, 7, 8, 9, 10, 11, 12, 13, 14, 15, 16, 17, 18, 19, 20, 21, 22, 23, 24, 25, 26, 27, 28, 29], [0, 1, 2, 3, 4, 5, 7, 8, 9, 10, 11, 6, 12, 13, 14, 15, 16, 17, 18, 19, 20, 21, 22, 23, 24, 25, 26, 27, 28, 29], [0, 1, 2, 4, 7, 8, 9, 10, 11, 3, 5, 6, 12, 13, 14, 15, 16, 17, 18, 19, 20, 21, 22, 23, 24, 25, 26, 27, 28, 29], [0, 1, 2, 3, 4, 5, 6, 7, 8, 9, 10, 11, 12, 13, 14, 15, 16, 17, 18, 19, 20, 22, 23, 24, 25, 26, 21, 27, 28, 29], [0, 1, 2, 3, 4, 5, 7, 8, 9, 10, 11, 6, 12, 13, 14, 15, 16, 17, 18, 19, 20, 22, 23, 24, 25, 26, 21, 27, 28, 29], [0, 1, 2, 4, 7, 8, 9, 10, 11, 3, 5, 6, 12, 13, 14, 15, 16, 17, 18, 19, 20, 22, 23, 24, 25, 26, 21, 27, 28, 29], [0, 1, 2, 3, 4, 5, 6, 7, 8, 9, 10, 11, 12, 13, 14, 15, 16, 17, 19, 22, 23, 24, 25, 26, 18, 20, 21, 27, 28, 29], [0, 1, 2, 3, 4, 5, 7, 8, 9, 10, 11, 6, 12, 13, 14, 15, 16, 17, 19, 22, 23, 24, 25, 26, 18, 20, 21, 27, 28, 29], [0, 1, 2, 4, 7, 8, 9, 10, 11, 3, 5, 6, 12, 13, 14, 15, 16, 17, 19, 22, 23, 24, 25, 26, 18, 20, 21, 27, 28, 29]]), (30, [[0, 1, 2, 3, 4, 5, 6, 7, 8, 9, 10, 11, 12, 13, 14, 15, 16], [0, 1, 2, 3, 4, 5, 6, 7, 9, 10, 11, 12, 13, 14, 8, 15, 16], [0, 1, 2, 4, 5, 6, 9, 10, 11, 12, 13, 14, 3, 7, 8, 15, 16]])]
def F43 : FIR := ⟨135, [.tmp 2],
 (.seq (.reg [⟨(some 2), none, .mv (.const (Value.bool false))⟩] [0, 99, 100, 101, 102, 103, 104, 105, 106, 107, 108, 109, 110, 111, 112])
 (.seq (.seq (.reg [⟨(some 3), none, .mv (.const (Value.int IntKind.i64 0))⟩] [0, 3, 99, 100, 101, 102, 103, 104, 105, 106, 107, 108, 109, 110, 111, 112])
 (.block 0
 (.loop
 (.seq (.seq (.reg [⟨(some 13), none, .mv (.tmp 3)⟩,
 ⟨(some 14), none, .mv (.tmp 0)⟩,
 ⟨(some 15), none, .lenL (.tmp 14)⟩,
 ⟨(some 16), none, .bin .lss (.tmp 13) (.tmp 15)⟩] [0, 3, 16, 99, 100, 101, 102, 103, 104, 105, 106, 107, 108, 109, 110, 111, 112])
 (.cond (.tmp 16)
 .skip
 (.exit 0)))
 (.seq (.block 1
 (.seq (.reg [⟨(some 4), none, .mv (.const (Value.int IntKind.i64 0))⟩] [0, 3, 4, 99, 100, 101, 102, 103, 104, 105, 106, 107, 108, 109, 110, 111, 112])
 (.block 2
 (.loop
 (.seq (.seq (.reg [⟨(some 19), none, .mv (.tmp 4)⟩,
 ⟨(some 20), none, .mv (.tmp 0)⟩,
 ⟨(some 21), none, .mv (.tmp 3)⟩,
 ⟨(some 22), none, .idxL 1 (.tmp 20) (.tmp 21)⟩,
 ⟨(some 23), none, .load1 (.tmp 22)⟩,
 ⟨(some 24), none, .lenL (.tmp 23)⟩,
 ⟨(some 25), none, .bin .lss (.tmp 19) (.tmp 24)⟩] [0, 3, 4, 25, 99, 100, 101, 102, 103, 104, 105, 106, 107, 108, 109, 110, 111, 112])
 (.cond (.tmp 25)
 .skip
 (.exit 2)))
 (.seq (.block 3
 (.draw [[⟨(some 28), none, .mv (.tmp 0)⟩,
 ⟨(some 29), none, .mv (.tmp 3)⟩,
 ⟨(some 30), none, .idxL 1 (.tmp 28) (.tmp 29)⟩,
 ⟨(some 31), none, .load1 (.tmp 30)⟩,
 ⟨(some 32), none, .mv (.tmp 4)⟩,
 ⟨(some 33), none, .mv (.tmp 3)⟩,
 ⟨(some 34), none, .bin .mul (.tmp 33) (.const (Value.int IntKind.i64 1000))⟩,
 ⟨(some 35), none, .mv (.tmp 4)⟩,
 ⟨(some 36), none, .bin .add (.tmp 34) (.tmp 35)⟩,
 ⟨(some 37), none, .call 59 [(.tmp 36)]⟩,
 ⟨(some 38), none, .build [(Value.string ⟨#[]⟩), (Value.string ⟨#[]⟩)] [(0, 1, (.tmp 37))]⟩,
 ⟨(some 39), none, .idxL 2 (.tmp 31) (.tmp 32)⟩,
 ⟨none, none, .store 2 (.tmp 39) (.tmp 38)⟩],
 [⟨(some 28), none, .mv (.tmp 0)⟩,
 ⟨(some 29), none, .mv (.tmp 3)⟩,
 ⟨(some 30), none, .idxL 1 (.tmp 28) (.tmp 29)⟩,
 ⟨(some 32), none, .mv (.tmp 4)⟩,
 ⟨(some 33), none, .mv (.tmp 3)⟩,
 ⟨(some 34), none, .bin .mul (.tmp 33) (.const (Value.int IntKind.i64 1000))⟩,
 ⟨(some 35), none, .mv (.tmp 4)⟩,
 ⟨(some 36), none, .bin .add (.tmp 34) (.tmp 35)⟩,
 ⟨(some 37), none, .call 59 [(.tmp 36)]⟩,
 ⟨(some 31), none, .load1 (.tmp 30)⟩,
 ⟨(some 38), none, .build [(Value.string ⟨#[]⟩), (Value.string ⟨#[]⟩)] [(0, 1, (.tmp 37))]⟩,
 ⟨(some 39), none, .idxL 2 (.tmp 31) (.tmp 32)⟩,
 ⟨none, none, .store 2 (.tmp 39) (.tmp 38)⟩]] [0, 3, 4, 99, 100, 101, 102, 103, 104, 105, 106, 107, 108, 109, 110, 111, 112]))
 (.reg [⟨(some 26), none, .mv (.tmp 4)⟩,
 ⟨(some 27), none, .bin .add (.tmp 26) (.const (Value.int IntKind.i64 1))⟩,
 ⟨(some 4), none, .mv (.tmp 27)⟩] [0, 3, 4, 99, 100, 101, 102, 103, 104, 105, 106, 107, 108, 109, 110, 111, 112])))))))
 (.reg [⟨(some 17), none, .mv (.tmp 3)⟩,
 ⟨(some 18), none, .bin .add (.tmp 17) (.const (Value.int IntKind.i64 1))⟩,
 ⟨(some 3), none, .mv (.tmp 18)⟩] [0, 3, 99, 100, 101, 102, 103, 104, 105, 106, 107, 108, 109, 110, 111, 112]))))))
 (.seq (.reg [⟨(some 5), none, .mv (.const (Value.slice none 0 0))⟩] [0, 5, 99, 100, 101, 102, 103, 104, 105, 106, 107, 108, 109, 110, 111, 112])
 (.seq (.seq (.reg [⟨(some 6), none, .mv (.const (Value.int IntKind.i64 0))⟩] [0, 5, 6, 99, 100, 101, 102, 103, 104, 105, 106, 107, 108, 109, 110, 111, 112])
 (.block 4
 (.loop
 (.seq (.seq (.reg [⟨(some 40), none, .mv (.tmp 6)⟩,
 ⟨(some 41), none, .mv (.tmp 0)⟩,
 ⟨(some 42), none, .lenL (.tmp 41)⟩,
 ⟨(some 43), none, .bin .lss (.tmp 40) (.tmp 42)⟩] [0, 5, 6, 43, 99, 100, 101, 102, 103, 104, 105, 106, 107, 108, 109, 110, 111, 112])
 (.cond (.tmp 43)
 .skip
 (.exit 4)))
 (.seq (.block 5
 (.seq (.reg [⟨(some 46), none, .mv (.tmp 0)⟩,
 ⟨(some 47), none, .mv (.tmp 6)⟩,
 ⟨(some 48), none, .idxL 1 (.tmp 46) (.tmp 47)⟩,
 ⟨(some 49), none, .load1 (.tmp 48)⟩,
 ⟨(some 7), none, .mv (.tmp 49)⟩] [0, 5, 6, 7, 99, 100, 101, 102, 103, 104, 105, 106, 107, 108, 109, 110, 111, 112])
 (.seq (.seq (.reg [⟨(some 8), none, .mv (.const (Value.int IntKind.i64 0))⟩] [0, 5, 6, 7, 8, 99, 100, 101, 102, 103, 104, 105, 106, 107, 108, 109, 110, 111, 112])
 (.block 6
 (.loop
 (.seq (.seq (.reg [⟨(some 50), none, .mv (.tmp 8)⟩,
 ⟨(some 51), none, .bin .lss (.tmp 50) (.const (Value.int IntKind.i64 16))⟩] [0, 5, 6, 7, 8, 51, 99, 100, 101, 102, 103, 104, 105, 106, 107, 108, 109, 110, 111, 112])
 (.cond (.tmp 51)
 .skip
 (.exit 6)))
 (.seq (.block 7
 (.reg [⟨(some 54), none, .mv (.tmp 7)⟩,
 ⟨(some 55), none, .mv (.tmp 6)⟩,
 ⟨(some 56), none, .bin .sub (.const (Value.int IntKind.i64 (-1))) (.tmp 55)⟩,
 ⟨(some 57), none, .bin .mul (.tmp 56) (.const (Value.int IntKind.i64 1000))⟩,
 ⟨(some 58), none, .mv (.tmp 8)⟩,
 ⟨(some 59), none, .bin .sub (.tmp 57) (.tmp 58)⟩,
 ⟨(some 60), none, .call 59 [(.tmp 59)]⟩,
 ⟨(some 61), none, .build [(Value.string ⟨#[]⟩), (Value.string ⟨#[]⟩)] [(0, 1, (.tmp 60))]⟩,
 ⟨(some 62), none, .bslice 129 1 [(Value.string ⟨#[]⟩), (Value.string ⟨#[]⟩)] [(0, 2, (.tmp 61))]⟩,
 ⟨(some 63), none, .append 129 2 32 [(Value.string ⟨#[]⟩), (Value.string ⟨#[]⟩)] (.tmp 54) (.tmp 62)⟩,
 ⟨(some 7), none, .mv (.tmp 63)⟩] [0, 5, 6, 7, 8, 99, 100, 101, 102, 103, 104, 105, 106, 107, 108, 109, 110, 111, 112]))
 (.reg [⟨(some 52), none, .mv (.tmp 8)⟩,
 ⟨(some 53), none, .bin .add (.tmp 52) (.const (Value.int IntKind.i64 1))⟩,
 ⟨(some 8), none, .mv (.tmp 53)⟩] [0, 5, 6, 7, 8, 99, 100, 101, 102, 103, 104, 105, 106, 107, 108, 109, 110, 111, 112]))))))
 (.reg [⟨(some 64), none, .mv (.tmp 5)⟩,
 ⟨(some 65), none, .mv (.tmp 7)⟩,
 ⟨(some 66), none, .bslice 126 1 [(Value.slice none 0 0)] [(0, 1, (.tmp 65))]⟩,
 ⟨(some 67), none, .append 126 1 24 [(Value.slice none 0 0)] (.tmp 64) (.tmp 66)⟩,
 ⟨(some 5), none, .mv (.tmp 67)⟩] [0, 5, 6, 99, 100, 101, 102, 103, 104, 105, 106, 107, 108, 109, 110, 111, 112]))))
 (.reg [⟨(some 44), none, .mv (.tmp 6)⟩,
 ⟨(some 45), none, .bin .add (.tmp 44) (.const (Value.int IntKind.i64 1))⟩,
 ⟨(some 6), none, .mv (.tmp 45)⟩] [0, 5, 6, 99, 100, 101, 102, 103, 104, 105, 106, 107, 108, 109, 110, 111, 112]))))))
 (.seq (.seq (.reg [⟨(some 9), none, .mv (.const (Value.int IntKind.i64 0))⟩] [0, 5, 9, 99, 100, 101, 102, 103, 104, 105, 106, 107, 108, 109, 110, 111, 112])
 (.block 8
 (.loop
 (.seq (.seq (.reg [⟨(some 68), none, .mv (.tmp 9)⟩,
 ⟨(some 69), none, .mv (.tmp 0)⟩,
 ⟨(some 70), none, .lenL (.tmp 69)⟩,
 ⟨(some 71), none, .bin .lss (.tmp 68) (.tmp 70)⟩] [0, 5, 9, 71, 99, 100, 101, 102, 103, 104, 105, 106, 107, 108, 109, 110, 111, 112])
 (.cond (.tmp 71)
 .skip
 (.exit 8)))
 (.seq (.block 9
 (.seq (.reg [⟨(some 74), none, .mv (.tmp 0)⟩,
 ⟨(some 75), none, .mv (.tmp 9)⟩,
 ⟨(some 76), none, .idxL 1 (.tmp 74) (.tmp 75)⟩,
 ⟨(some 77), none, .load1 (.tmp 76)⟩,
 ⟨(some 78), none, .lenL (.tmp 77)⟩,
 ⟨(some 10), none, .mv (.tmp 78)⟩] [0, 5, 9, 10, 99, 100, 101, 102, 103, 104, 105, 106, 107, 108, 109, 110, 111, 112])
 (.seq (.seq (.reg [⟨(some 11), none, .mv (.const (Value.int IntKind.i64 0))⟩] [0, 5, 9, 10, 11, 99, 100, 101, 102, 103, 104, 105, 106, 107, 108, 109, 110, 111, 112])
 (.block 10
 (.loop
 (.seq (.seq (.reg [⟨(some 79), none, .mv (.tmp 11)⟩,
 ⟨(some 80), none, .mv (.tmp 10)⟩,
 ⟨(some 81), none, .bin .lss (.tmp 79) (.tmp 80)⟩] [0, 5, 9, 10, 11, 81, 99, 100, 101, 102, 103, 104, 105, 106, 107, 108, 109, 110, 111, 112])
 (.cond (.tmp 81)
 .skip
 (.exit 10)))
 (.seq (.block 11
 (.seq (.draw [[⟨(some 84), none, .mv (.tmp 0)⟩,
 ⟨(some 85), none, .mv (.tmp 9)⟩,
 ⟨(some 86), none, .idxL 1 (.tmp 84) (.tmp 85)⟩,
 ⟨(some 87), none, .load1 (.tmp 86)⟩,
 ⟨(some 88), none, .mv (.tmp 11)⟩,
 ⟨(some 89), none, .idxL 2 (.tmp 87) (.tmp 88)⟩,
 ⟨(some 90), none, .loadN 2 (.tmp 89)⟩,
 ⟨(some 91), none, .mv (.tmp 9)⟩,
 ⟨(some 92), none, .bin .mul (.tmp 91) (.const (Value.int IntKind.i64 1000))⟩,
 ⟨(some 93), none, .mv (.tmp 11)⟩,
 ⟨(some 94), none, .bin .add (.tmp 92) (.tmp 93)⟩,
 ⟨(some 95), none, .call 59 [(.tmp 94)]⟩,
 ⟨(some 96), none, .build [(Value.string ⟨#[]⟩), (Value.string ⟨#[]⟩)] [(0, 1, (.tmp 95))]⟩,
 ⟨(some 97), none, .eqagg true [.str, .str] (.tmp 90) (.tmp 96)⟩,
 ⟨(some 98), none, .mv (.tmp 97)⟩,
 ⟨(some 99), (some (98, false)), .mv (.tmp 5)⟩,
 ⟨(some 100), (some (98, false)), .mv (.tmp 9)⟩,
 ⟨(some 101), (some (98, false)), .idxL 1 (.tmp 99) (.tmp 100)⟩,
 ⟨(some 102), (some (98, false)), .load1 (.tmp 101)⟩,
 ⟨(some 103), (some (98, false)), .mv (.tmp 11)⟩,
 ⟨(some 104), (some (98, false)), .idxL 2 (.tmp 102) (.tmp 103)⟩,
 ⟨(some 105), (some (98, false)), .loadN 2 (.tmp 104)⟩,
 ⟨(some 106), (some (98, false)), .mv (.tmp 9)⟩,
 ⟨(some 107), (some (98, false)), .bin .mul (.tmp 106) (.const (Value.int IntKind.i64 1000))⟩,
 ⟨(some 108), (some (98, false)), .mv (.tmp 11)⟩,
 ⟨(some 109), (some (98, false)), .bin .add (.tmp 107) (.tmp 108)⟩,
 ⟨(some 110), (some (98, false)), .call 59 [(.tmp 109)]⟩,
 ⟨(some 111), (some (98, false)), .build [(Value.string ⟨#[]⟩), (Value.string ⟨#[]⟩)] [(0, 1, (.tmp 110))]⟩,
 ⟨(some 112), (some (98, false)), .eqagg true [.str, .str] (.tmp 105) (.tmp 111)⟩,
 ⟨(some 113), none, .pick (.tmp 98) (.const (Value.bool true)) (.tmp 112)⟩],
 [⟨(some 84), none, .mv (.tmp 0)⟩,
 ⟨(some 85), none, .mv (.tmp 9)⟩,
 ⟨(some 86), none, .idxL 1 (.tmp 84) (.tmp 85)⟩,
 ⟨(some 87), none, .load1 (.tmp 86)⟩,
 ⟨(some 88), none, .mv (.tmp 11)⟩,
 ⟨(some 89), none, .idxL 2 (.tmp 87) (.tmp 88)⟩,
 ⟨(some 91), none, .mv (.tmp 9)⟩,
 ⟨(some 92), none, .bin .mul (.tmp 91) (.const (Value.int IntKind.i64 1000))⟩,
 ⟨(some 93), none, .mv (.tmp 11)⟩,
 ⟨(some 94), none, .bin .add (.tmp 92) (.tmp 93)⟩,
 ⟨(some 95), none, .call 59 [(.tmp 94)]⟩,
 ⟨(some 90), none, .loadN 2 (.tmp 89)⟩,
 ⟨(some 96), none, .build [(Value.string ⟨#[]⟩), (Value.string ⟨#[]⟩)] [(0, 1, (.tmp 95))]⟩,
 ⟨(some 97), none, .eqagg true [.str, .str] (.tmp 90) (.tmp 96)⟩,
 ⟨(some 98), none, .mv (.tmp 97)⟩,
 ⟨(some 99), (some (98, false)), .mv (.tmp 5)⟩,
 ⟨(some 100), (some (98, false)), .mv (.tmp 9)⟩,
 ⟨(some 101), (some (98, false)), .idxL 1 (.tmp 99) (.tmp 100)⟩,
 ⟨(some 102), (some (98, false)), .load1 (.tmp 101)⟩,
 ⟨(some 103), (some (98, false)), .mv (.tmp 11)⟩,
 ⟨(some 104), (some (98, false)), .idxL 2 (.tmp 102) (.tmp 103)⟩,
 ⟨(some 105), (some (98, false)), .loadN 2 (.tmp 104)⟩,
 ⟨(some 106), (some (98, false)), .mv (.tmp 9)⟩,
 ⟨(some 107), (some (98, false)), .bin .mul (.tmp 106) (.const (Value.int IntKind.i64 1000))⟩,
 ⟨(some 108), (some (98, false)), .mv (.tmp 11)⟩,
 ⟨(some 109), (some (98, false)), .bin .add (.tmp 107) (.tmp 108)⟩,
 ⟨(some 110), (some (98, false)), .call 59 [(.tmp 109)]⟩,
 ⟨(some 111), (some (98, false)), .build [(Value.string ⟨#[]⟩), (Value.string ⟨#[]⟩)] [(0, 1, (.tmp 110))]⟩,
 ⟨(some 112), (some (98, false)), .eqagg true [.str, .str] (.tmp 105) (.tmp 111)⟩,
 ⟨(some 113), none, .pick (.tmp 98) (.const (Value.bool true)) (.tmp 112)⟩],
 [⟨(some 84), none, .mv (.tmp 0)⟩,
 ⟨(some 85), none, .mv (.tmp 9)⟩,
 ⟨(some 86), none, .idxL 1 (.tmp 84) (.tmp 85)⟩,
 ⟨(some 88), none, .mv (.tmp 11)⟩,
 ⟨(some 91), none, .mv (.tmp 9)⟩,
 ⟨(some 92), none, .bin .mul (.tmp 91) (.const (Value.int IntKind.i64 1000))⟩,
 ⟨(some 93), none, .mv (.tmp 11)⟩,
 ⟨(some 94), none, .bin .add (.tmp 92) (.tmp 93)⟩,
 ⟨(some 95), none, .call 59 [(.tmp 94)]⟩,
 ⟨(some 87), none, .load1 (.tmp 86)⟩,
 ⟨(some 89), none, .idxL 2 (.tmp 87) (.tmp 88)⟩,
 ⟨(some 90), none, .loadN 2 (.tmp 89)⟩,
 ⟨(some 96), none, .build [(Value.string ⟨#[]⟩), (Value.string ⟨#[]⟩)] [(0, 1, (.tmp 95))]⟩,
 ⟨(some 97), none, .eqagg true [.str, .str] (.tmp 90) (.tmp 96)⟩,
 ⟨(some 98), none, .mv (.tmp 97)⟩,
 ⟨(some 99), (some (98, false)), .mv (.tmp 5)⟩,
 ⟨(some 100), (some (98, false)), .mv (.tmp 9)⟩,
 ⟨(some 101), (some (98, false)), .idxL 1 (.tmp 99) (.tmp 100)⟩,
 ⟨(some 102), (some (98, false)), .load1 (.tmp 101)⟩,
 ⟨(some 103), (some (98, false)), .mv (.tmp 11)⟩,
 ⟨(some 104), (some (98, false)), .idxL 2 (.tmp 102) (.tmp 103)⟩,
 ⟨(some 105), (some (98, false)), .loadN 2 (.tmp 104)⟩,
 ⟨(some 106), (some (98, false)), .mv (.tmp 9)⟩,
 ⟨(some 107), (some (98, false)), .bin .mul (.tmp 106) (.const (Value.int IntKind.i64 1000))⟩,
 ⟨(some 108), (some (98, false)), .mv (.tmp 11)⟩,
 ⟨(some 109), (some (98, false)), .bin .add (.tmp 107) (.tmp 108)⟩,
 ⟨(some 110), (some (98, false)), .call 59 [(.tmp 109)]⟩,
 ⟨(some 111), (some (98, false)), .build [(Value.string ⟨#[]⟩), (Value.string ⟨#[]⟩)] [(0, 1, (.tmp 110))]⟩,
 ⟨(some 112), (some (98, false)), .eqagg true [.str, .str] (.tmp 105) (.tmp 111)⟩,
 ⟨(some 113), none, .pick (.tmp 98) (.const (Value.bool true)) (.tmp 112)⟩],
 [⟨(some 84), none, .mv (.tmp 0)⟩,
 ⟨(some 85), none, .mv (.tmp 9)⟩,
 ⟨(some 86), none, .idxL 1 (.tmp 84) (.tmp 85)⟩,
 ⟨(some 87), none, .load1 (.tmp 86)⟩,
 ⟨(some 88), none, .mv (.tmp 11)⟩,
 ⟨(some 89), none, .idxL 2 (.tmp 87) (.tmp 88)⟩,
 ⟨(some 90), none, .loadN 2 (.tmp 89)⟩,
 ⟨(some 91), none, .mv (.tmp 9)⟩,
 ⟨(some 92), none, .bin .mul (.tmp 91) (.const (Value.int IntKind.i64 1000))⟩,
 ⟨(some 93), none, .mv (.tmp 11)⟩,
 ⟨(some 94), none, .bin .add (.tmp 92) (.tmp 93)⟩,
 ⟨(some 95), none, .call 59 [(.tmp 94)]⟩,
 ⟨(some 96), none, .build [(Value.string ⟨#[]⟩), (Value.string ⟨#[]⟩)] [(0, 1, (.tmp 95))]⟩,
 ⟨(some 97), none, .eqagg true [.str, .str] (.tmp 90) (.tmp 96)⟩,
 ⟨(some 98), none, .mv (.tmp 97)⟩,
 ⟨(some 99), (some (98, false)), .mv (.tmp 5)⟩,
 ⟨(some 100), (some (98, false)), .mv (.tmp 9)⟩,
 ⟨(some 101), (some (98, false)), .idxL 1 (.tmp 99) (.tmp 100)⟩,
 ⟨(some 102), (some (98, false)), .load1 (.tmp 101)⟩,
 ⟨(some 103), (some (98, false)), .mv (.tmp 11)⟩,
 ⟨(some 104), (some (98, false)), .idxL 2 (.tmp 102) (.tmp 103)⟩,
 ⟨(some 106), (some (98, false)), .mv (.tmp 9)⟩,
 ⟨(some 107), (some (98, false)), .bin .mul (.tmp 106) (.const (Value.int IntKind.i64 1000))⟩,
 ⟨(some 108), (some (98, false)), .mv (.tmp 11)⟩,
 ⟨(some 109), (some (98, false)), .bin .add (.tmp 107) (.tmp 108)⟩,
 ⟨(some 110), (some (98, false)), .call 59 [(.tmp 109)]⟩,
 ⟨(some 105), (some (98, false)), .loadN 2 (.tmp 104)⟩,
 ⟨(some 111), (some (98, false)), .build [(Value.string ⟨#[]⟩), (Value.string ⟨#[]⟩)] [(0, 1, (.tmp 110))]⟩,
 ⟨(some 112), (some (98, false)), .eqagg true [.str, .str] (.tmp 105) (.tmp 111)⟩,
 ⟨(some 113), none, .pick (.tmp 98) (.const (Value.bool true)) (.tmp 112)⟩],
 [⟨(some 84), none, .mv (.tmp 0)⟩,
 ⟨(some 85), none, .mv (.tmp 9)⟩,
 ⟨(some 86), none, .idxL 1 (.tmp 84) (.tmp 85)⟩,
 ⟨(some 87), none, .load1 (.tmp 86)⟩,
 ⟨(some 88), none, .mv (.tmp 11)⟩,
 ⟨(some 89), none, .idxL 2 (.tmp 87) (.tmp 88)⟩,
 ⟨(some 91), none, .mv (.tmp 9)⟩,
 ⟨(some 92), none, .bin .mul (.tmp 91) (.const (Value.int IntKind.i64 1000))⟩,
 ⟨(some 93), none, .mv (.tmp 11)⟩,
 ⟨(some 94), none, .bin .add (.tmp 92) (.tmp 93)⟩,
 ⟨(some 95), none, .call 59 [(.tmp 94)]⟩,
 ⟨(some 90), none, .loadN 2 (.tmp 89)⟩,
 ⟨(some 96), none, .build [(Value.string ⟨#[]⟩), (Value.string ⟨#[]⟩)] [(0, 1, (.tmp 95))]⟩,
 ⟨(some 97), none, .eqagg true [.str, .str] (.tmp 90) (.tmp 96)⟩,
 ⟨(some 98), none, .mv (.tmp 97)⟩,
 ⟨(some 99), (some (98, false)), .mv (.tmp 5)⟩,
 ⟨(some 100), (some (98, false)), .mv (.tmp 9)⟩,
 ⟨(some 101), (some (98, false)), .idxL 1 (.tmp 99) (.tmp 100)⟩,
 ⟨(some 102), (some (98, false)), .load1 (.tmp 101)⟩,
 ⟨(some 103), (some (98, false)), .mv (.tmp 11)⟩,
 ⟨(some 104), (some (98, false)), .idxL 2 (.tmp 102) (.tmp 103)⟩,
 ⟨(some 106), (some (98, false)), .mv (.tmp 9)⟩,
 ⟨(some 107), (some (98, false)), .bin .mul (.tmp 106) (.const (Value.int IntKind.i64 1000))⟩,
 ⟨(some 108), (some (98, false)), .mv (.tmp 11)⟩,
 ⟨(some 109), (some (98, false)), .bin .add (.tmp 107) (.tmp 108)⟩,
 ⟨(some 110), (some (98, false)), .call 59 [(.tmp 109)]⟩,
 ⟨(some 105), (some (98, false)), .loadN 2 (.tmp 104)⟩,
 ⟨(some 111), (some (98, false)), .build [(Value.string ⟨#[]⟩), (Value.string ⟨#[]⟩)] [(0, 1, (.tmp 110))]⟩,
 ⟨(some 112), (some (98, false)), .eqagg true [.str, .str] (.tmp 105) (.tmp 111)⟩,
 ⟨(some 113), none, .pick (.tmp 98) (.const (Value.bool true)) (.tmp 112)⟩],
 [⟨(some 84), none, .mv (.tmp 0)⟩,
 ⟨(some 85), none, .mv (.tmp 9)⟩,
 ⟨(some 86), none, .idxL 1 (.tmp 84) (.tmp 85)⟩,
 ⟨(some 88), none, .mv (.tmp 11)⟩,
 ⟨(some 91), none, .mv (.tmp 9)⟩,
 ⟨(some 92), none, .bin .mul (.tmp 91) (.const (Value.int IntKind.i64 1000))⟩,
 ⟨(some 93), none, .mv (.tmp 11)⟩,
 ⟨(some 94), none, .bin .add (.tmp 92) (.tmp 93)⟩,
 ⟨(some 95), none, .call 59 [(.tmp 94)]⟩,
 ⟨(some 87), none, .load1 (.tmp 86)⟩,
 ⟨(some 89), none, .idxL 2 (.tmp 87) (.tmp 88)⟩,
 ⟨(some 90), none, .loadN 2 (.tmp 89)⟩,
 ⟨(some 96), none, .build [(Value.string ⟨#[]⟩), (Value.string ⟨#[]⟩)] [(0, 1, (.tmp 95))]⟩,
 ⟨(some 97), none, .eqagg true [.str, .str] (.tmp 90) (.tmp 96)⟩,
 ⟨(some 98), none, .mv (.tmp 97)⟩,
 ⟨(some 99), (some (98, false)), .mv (.tmp 5)⟩,
 ⟨(some 100), (some (98, false)), .mv (.tmp 9)⟩,
 ⟨(some 101), (some (98, false)), .idxL 1 (.tmp 99) (.tmp 100)⟩,
 ⟨(some 102), (some (98, false)), .load1 (.tmp 101)⟩,
 ⟨(some 103), (some (98, false)), .mv (.tmp 11)⟩,
 ⟨(some 104), (some (98, false)), .idxL 2 (.tmp 102) (.tmp 103)⟩,
 ⟨(some 106), (some (98, false)), .mv (.tmp 9)⟩,
 ⟨(some 107), (some (98, false)), .bin .mul (.tmp 106) (.const (Value.int IntKind.i64 1000))⟩,
 ⟨(some 108), (some (98, false)), .mv (.tmp 11)⟩,
 ⟨(some 109), (some (98, false)), .bin .add (.tmp 107) (.tmp 108)⟩,
 ⟨(some 110), (some (98, false)), .call 59 [(.tmp 109)]⟩,
 ⟨(some 105), (some (98, false)), .loadN 2 (.tmp 104)⟩,
 ⟨(some 111), (some (98, false)), .build [(Value.string ⟨#[]⟩), (Value.string ⟨#[]⟩)] [(0, 1, (.tmp 110))]⟩,
 ⟨(some 112), (some (98, false)), .eqagg true [.str, .str] (.tmp 105) (.tmp 111)⟩,
 ⟨(some 113), none, .pick (.tmp 98) (.const (Value.bool true)) (.tmp 112)⟩],
 [⟨(some 84), none, .mv (.tmp 0)⟩,
 ⟨(some 85), none, .mv (.tmp 9)⟩,
 ⟨(some 86), none, .idxL 1 (.tmp 84) (.tmp 85)⟩,
 ⟨(some 87), none, .load1 (.tmp 86)⟩,
 ⟨(some 88), none, .mv (.tmp 11)⟩,
 ⟨(some 89), none, .idxL 2 (.tmp 87) (.tmp 88)⟩,
 ⟨(some 90), none, .loadN 2 (.tmp 89)⟩,
 ⟨(some 91), none, .mv (.tmp 9)⟩,
 ⟨(some 92), none, .bin .mul (.tmp 91) (.const (Value.int IntKind.i64 1000))⟩,
 ⟨(some 93), none, .mv (.tmp 11)⟩,
 ⟨(some 94), none, .bin .add (.tmp 92) (.tmp 93)⟩,
 ⟨(some 95), none, .call 59 [(.tmp 94)]⟩,
 ⟨(some 96), none, .build [(Value.string ⟨#[]⟩), (Value.string ⟨#[]⟩)] [(0, 1, (.tmp 95))]⟩,
 ⟨(some 97), none, .eqagg true [.str, .str] (.tmp 90) (.tmp 96)⟩,
 ⟨(some 98), none, .mv (.tmp 97)⟩,
 ⟨(some 99), (some (98, false)), .mv (.tmp 5)⟩,
 ⟨(some 100), (some (98, false)), .mv (.tmp 9)⟩,
 ⟨(some 101), (some (98, false)), .idxL 1 (.tmp 99) (.tmp 100)⟩,
 ⟨(some 103), (some (98, false)), .mv (.tmp 11)⟩,
 ⟨(some 106), (some (98, false)), .mv (.tmp 9)⟩,
 ⟨(some 107), (some (98, false)), .bin .mul (.tmp 106) (.const (Value.int IntKind.i64 1000))⟩,
 ⟨(some 108), (some (98, false)), .mv (.tmp 11)⟩,
 ⟨(some 109), (some (98, false)), .bin .add (.tmp 107) (.tmp 108)⟩,
 ⟨(some 110), (some (98, false)), .call 59 [(.tmp 109)]⟩,
 ⟨(some 102), (some (98, false)), .load1 (.tmp 101)⟩,
 ⟨(some 104), (some (98, false)), .idxL 2 (.tmp 102) (.tmp 103)⟩,
 ⟨(some 105), (some (98, false)), .loadN 2 (.tmp 104)⟩,
 ⟨(some 111), (some (98, false)), .build [(Value.string ⟨#[]⟩), (Value.string ⟨#[]⟩)] [(0, 1, (.tmp 110))]⟩,
 ⟨(some 112), (some (98, false)), .eqagg true [.str, .str] (.tmp 105) (.tmp 111)⟩,
 ⟨(some 113), none, .pick (.tmp 98) (.const (Value.bool true)) (.tmp 112)⟩],
 [⟨(some 84), none, .mv (.tmp 0)⟩,
 ⟨(some 85), none, .mv (.tmp 9)⟩,
 ⟨(some 86), none, .idxL 1 (.tmp 84) (.tmp 85)⟩,
 ⟨(some 87), none, .load1 (.tmp 86)⟩,
 ⟨(some 88), none, .mv (.tmp 11)⟩,
 ⟨(some 89), none, .idxL 2 (.tmp 87) (.tmp 88)⟩,
 ⟨(some 91), none, .mv (.tmp 9)⟩,
 ⟨(some 92), none, .bin .mul (.tmp 91) (.const (Value.int IntKind.i64 1000))⟩,
 ⟨(some 93), none, .mv (.tmp 11)⟩,
 ⟨(some 94), none, .bin .add (.tmp 92) (.tmp 93)⟩,
 ⟨(some 95), none, .call 59 [(.tmp 94)]⟩,
 ⟨(some 90), none, .loadN 2 (.tmp 89)⟩,
 ⟨(some 96), none, .build [(Value.string ⟨#[]⟩), (Value.string ⟨#[]⟩)] [(0, 1, (.tmp 95))]⟩,
 ⟨(some 97), none, .eqagg true [.str, .str] (.tmp 90) (.tmp 96)⟩,
 ⟨(some 98), none, .mv (.tmp 97)⟩,
 ⟨(some 99), (some (98, false)), .mv (.tmp 5)⟩,
 ⟨(some 100), (some (98, false)), .mv (.tmp 9)⟩,
 ⟨(some 101), (some (98, false)), .idxL 1 (.tmp 99) (.tmp 100)⟩,
 ⟨(some 103), (some (98, false)), .mv (.tmp 11)⟩,
 ⟨(some 106), (some (98, false)), .mv (.tmp 9)⟩,
 ⟨(some 107), (some (98, false)), .bin .mul (.tmp 106) (.const (Value.int IntKind.i64 1000))⟩,
 ⟨(some 108), (some (98, false)), .mv (.tmp 11)⟩,
 ⟨(some 109), (some (98, false)), .bin .add (.tmp 107) (.tmp 108)⟩,
 ⟨(some 110), (some (98, false)), .call 59 [(.tmp 109)]⟩,
 ⟨(some 102), (some (98, false)), .load1 (.tmp 101)⟩,
 ⟨(some 104), (some (98, false)), .idxL 2 (.tmp 102) (.tmp 103)⟩,
 ⟨(some 105), (some (98, false)), .loadN 2 (.tmp 104)⟩,
 ⟨(some 111), (some (98, false)), .build [(Value.string ⟨#[]⟩), (Value.string ⟨#[]⟩)] [(0, 1, (.tmp 110))]⟩,
 ⟨(some 112), (some (98, false)), .eqagg true [.str, .str] (.tmp 105) (.tmp 111)⟩,
 ⟨(some 113), none, .pick (.tmp 98) (.const (Value.bool true)) (.tmp 112)⟩],
 [⟨(some 84), none, .mv (.tmp 0)⟩,
 ⟨(some 85), none, .mv (.tmp 9)⟩,
 ⟨(some 86), none, .idxL 1 (.tmp 84) (.tmp 85)⟩,
 ⟨(some 88), none, .mv (.tmp 11)⟩,
 ⟨(some 91), none, .mv (.tmp 9)⟩,
 ⟨(some 92), none, .bin .mul (.tmp 91) (.const (Value.int IntKind.i64 1000))⟩,
 ⟨(some 93), none, .mv (.tmp 11)⟩,
 ⟨(some 94), none, .bin .add (.tmp 92) (.tmp 93)⟩,
 ⟨(some 95), none, .call 59 [(.tmp 94)]⟩,
 ⟨(some 87), none, .load1 (.tmp 86)⟩,
 ⟨(some 89), none, .idxL 2 (.tmp 87) (.tmp 88)⟩,
 ⟨(some 90), none, .loadN 2 (.tmp 89)⟩,
 ⟨(some 96), none, .build [(Value.string ⟨#[]⟩), (Value.string ⟨#[]⟩)] [(0, 1, (.tmp 95))]⟩,
 ⟨(some 97), none, .eqagg true [.str, .str] (.tmp 90) (.tmp 96)⟩,
 ⟨(some 98), none, .mv (.tmp 97)⟩,
 ⟨(some 99), (some (98, false)), .mv (.tmp 5)⟩,
 ⟨(some 100), (some (98, false)), .mv (.tmp 9)⟩,
 ⟨(some 101), (some (98, false)), .idxL 1 (.tmp 99) (.tmp 100)⟩,
 ⟨(some 103), (some (98, false)), .mv (.tmp 11)⟩,
 ⟨(some 106), (some (98, false)), .mv (.tmp 9)⟩,
 ⟨(some 107), (some (98, false)), .bin .mul (.tmp 106) (.const (Value.int IntKind.i64 1000))⟩,
 ⟨(some 108), (some (98, false)), .mv (.tmp 11)⟩,
 ⟨(some 109), (some (98, false)), .bin .add (.tmp 107) (.tmp 108)⟩,
 ⟨(some 110), (some (98, false)), .call 59 [(.tmp 109)]⟩,
 ⟨(some 102), (some (98, false)), .load1 (.tmp 101)⟩,
 ⟨(some 104), (some (98, false)), .idxL 2 (.tmp 102) (.tmp 103)⟩,
 ⟨(some 105), (some (98, false)), .loadN 2 (.tmp 104)⟩,
 ⟨(some 111), (some (98, false)), .build [(Value.string ⟨#[]⟩), (Value.string ⟨#[]⟩)] [(0, 1, (.tmp 110))]⟩,
 ⟨(some 112), (some (98, false)), .eqagg true [.str, .str] (.tmp 105) (.tmp 111)⟩,
 ⟨(some 113), none, .pick (.tmp 98) (.const (Value.bool true)) (.tmp 112)⟩]] [0, 5, 9, 10, 11, 99, 100, 101, 102, 103, 104, 105, 106, 107, 108, 109, 110, 111, 112, 113])
 (.cond (.tmp 113)
 (.seq (.reg [⟨(some 2), none, .mv (.const (Value.bool false))⟩] [2])
 .ret)
 .skip)))
 (.reg [⟨(some 82), none, .mv (.tmp 11)⟩,
 ⟨(some 83), none, .bin .add (.tmp 82) (.const (Value.int IntKind.i64 1))⟩,
 ⟨(some 11), none, .mv (.tmp 83)⟩] [0, 5, 9, 10, 11, 99, 100, 101, 102, 103, 104, 105, 106, 107, 108, 109, 110, 111, 112]))))))
 (.seq (.reg [⟨(some 12), none, .mv (.const (Value.int IntKind.i64 0))⟩] [0, 5, 9, 10, 12, 99, 100, 101, 102, 103, 104, 105, 106, 107, 108, 109, 110, 111, 112])
 (.block 12
 (.loop
 (.seq (.seq (.reg [⟨(some 114), none, .mv (.tmp 12)⟩,
 ⟨(some 115), none, .bin .lss (.tmp 114) (.const (Value.int IntKind.i64 16))⟩] [0, 5, 9, 10, 12, 99, 100, 101, 102, 103, 104, 105, 106, 107, 108, 109, 110, 111, 112, 115])
 (.cond (.tmp 115)
 .skip
 (.exit 12)))
 (.seq (.block 13
 (.seq (.draw [[⟨(some 118), none, .mv (.tmp 5)⟩,
 ⟨(some 119), none, .mv (.tmp 9)⟩,
 ⟨(some 120), none, .idxL 1 (.tmp 118) (.tmp 119)⟩,
 ⟨(some 121), none, .load1 (.tmp 120)⟩,
 ⟨(some 122), none, .mv (.tmp 10)⟩,
 ⟨(some 123), none, .mv (.tmp 12)⟩,
 ⟨(some 124), none, .bin .add (.tmp 122) (.tmp 123)⟩,
 ⟨(some 125), none, .idxL 2 (.tmp 121) (.tmp 124)⟩,
 ⟨(some 126), none, .loadN 2 (.tmp 125)⟩,
 ⟨(some 127), none, .mv (.tmp 9)⟩,
 ⟨(some 128), none, .bin .sub (.const (Value.int IntKind.i64 (-1))) (.tmp 127)⟩,
 ⟨(some 129), none, .bin .mul (.tmp 128) (.const (Value.int IntKind.i64 1000))⟩,
 ⟨(some 130), none, .mv (.tmp 12)⟩,
 ⟨(some 131), none, .bin .sub (.tmp 129) (.tmp 130)⟩,
 ⟨(some 132), none, .call 59 [(.tmp 131)]⟩,
 ⟨(some 133), none, .build [(Value.string ⟨#[]⟩), (Value.string ⟨#[]⟩)] [(0, 1, (.tmp 132))]⟩,
 ⟨(some 134), none, .eqagg true [.str, .str] (.tmp 126) (.tmp 133)⟩],
 [⟨(some 118), none, .mv (.tmp 5)⟩,
 ⟨(some 119), none, .mv (.tmp 9)⟩,
 ⟨(some 120), none, .idxL 1 (.tmp 118) (.tmp 119)⟩,
 ⟨(some 121), none, .load1 (.tmp 120)⟩,
 ⟨(some 122), none, .mv (.tmp 10)⟩,
 ⟨(some 123), none, .mv (.tmp 12)⟩,
 ⟨(some 124), none, .bin .add (.tmp 122) (.tmp 123)⟩,
 ⟨(some 125), none, .idxL 2 (.tmp 121) (.tmp 124)⟩,
 ⟨(some 127), none, .mv (.tmp 9)⟩,
 ⟨(some 128), none, .bin .sub (.const (Value.int IntKind.i64 (-1))) (.tmp 127)⟩,
 ⟨(some 129), none, .bin .mul (.tmp 128) (.const (Value.int IntKind.i64 1000))⟩,
 ⟨(some 130), none, .mv (.tmp 12)⟩,
 ⟨(some 131), none, .bin .sub (.tmp 129) (.tmp 130)⟩,
 ⟨(some 132), none, .call 59 [(.tmp 131)]⟩,
 ⟨(some 126), none, .loadN 2 (.tmp 125)⟩,
 ⟨(some 133), none, .build [(Value.string ⟨#[]⟩), (Value.string ⟨#[]⟩)] [(0, 1, (.tmp 132))]⟩,
 ⟨(some 134), none, .eqagg true [.str, .str] (.tmp 126) (.tmp 133)⟩],
 [⟨(some 118), none, .mv (.tmp 5)⟩,
 ⟨(some 119), none, .mv (.tmp 9)⟩,
 ⟨(some 120), none, .idxL 1 (.tmp 118) (.tmp 119)⟩,
 ⟨(some 122), none, .mv (.tmp 10)⟩,
 ⟨(some 123), none, .mv (.tmp 12)⟩,
 ⟨(some 124), none, .bin .add (.tmp 122) (.tmp 123)⟩,
 ⟨(some 127), none, .mv (.tmp 9)⟩,
 ⟨(some 128), none, .bin .sub (.const (Value.int IntKind.i64 (-1))) (.tmp 127)⟩,
 ⟨(some 129), none, .bin .mul (.tmp 128) (.const (Value.int IntKind.i64 1000))⟩,
 ⟨(some 130), none, .mv (.tmp 12)⟩,
 ⟨(some 131), none, .bin .sub (.tmp 129) (.tmp 130)⟩,
 ⟨(some 132), none, .call 59 [(.tmp 131)]⟩,
 ⟨(some 121), none, .load1 (.tmp 120)⟩,
 ⟨(some 125), none, .idxL 2 (.tmp 121) (.tmp 124)⟩,
 ⟨(some 126), none, .loadN 2 (.tmp 125)⟩,
 ⟨(some 133), none, .build [(Value.string ⟨#[]⟩), (Value.string ⟨#[]⟩)] [(0, 1, (.tmp 132))]⟩,
 ⟨(some 134), none, .eqagg true [.str, .str] (.tmp 126) (.tmp 133)⟩]] [0, 5, 9, 10, 12, 99, 100, 101, 102, 103, 104, 105, 106, 107, 108, 109, 110, 111, 112, 134])
 (.cond (.tmp 134)
 (.seq (.reg [⟨(some 2), none, .mv (.const (Value.bool false))⟩] [2])
 .ret)
 .skip)))
 (.reg [⟨(some 116), none, .mv (.tmp 12)⟩,
 ⟨(some 117), none, .bin .add (.tmp 116) (.const (Value.int IntKind.i64 1))⟩,
 ⟨(some 12), none, .mv (.tmp 117)⟩] [0, 5, 9, 10, 12, 99, 100, 101, 102, 103, 104, 105, 106, 107, 108, 109, 110, 111, 112])))))))))
 (.reg [⟨(some 72), none, .mv (.tmp 9)⟩,
 ⟨(some 73), none, .bin .add (.tmp 72) (.const (Value.int IntKind.i64 1))⟩,
 ⟨(some 9), none, .mv (.tmp 73)⟩] [0, 5, 9, 99, 100, 101, 102, 103, 104, 105, 106, 107, 108, 109, 110, 111, 112]))))))
 (.seq (.reg [⟨(some 2), none, .mv (.const (Value.bool true))⟩] [2])
 .ret))))))⟩
theorem low43 : lowF Try.prog (assoc kp43) (assoc od43) 43 = some F43 := by kernel_rfl

/- palaver/palaverref00.ownChoices -/
def kp44 : List (Nat × List Nat) := [(0, [0, 96, 97, 98, 99, 100, 101, 102, 103, 104, 105, 106, 107, 108]), (1, [0, 3, 96, 97, 98, 99, 100, 101, 102, 103, 104, 105, 106, 107, 108]), (2, [0, 3, 16, 96, 97, 98, 99, 100, 101, 102, 103, 104, 105, 106, 107, 108]), (3, [0, 3, 96, 97, 98, 99, 100, 101, 102, 103, 104, 105, 106, 107, 108]), (4, [0, 3, 4, 96, 97, 98, 99, 100, 101, 102, 103, 104, 105, 106, 107, 108]), (5, [0, 3, 4, 25, 96, 97, 98, 99, 100, 101, 102, 103, 104, 105, 106, 107, 108]), (6, [0, 3, 4, 96, 97, 98, 99, 100, 101, 102, 103, 104, 105, 106, 107, 108]), (7, [0, 3, 4, 96, 97, 98, 99, 100, 101, 102, 103, 104, 105, 106, 107, 108]), (8, [0, 5, 96, 97, 98, 99, 100, 101, 102, 103, 104, 105, 106, 107, 108]), (9, [0, 5, 6, 96, 97, 98, 99, 100, 101, 102, 103, 104, 105, 106, 107, 108]), (10, [0, 5, 6, 42, 96, 97, 98, 99, 100, 101, 102, 103, 104, 105, 106, 107, 108]), (11, [0, 5, 6, 96, 97, 98, 99, 100, 101, 102, 103, 104, 105, 106, 107, 108]), (12, [0, 5, 6, 7, 96, 97, 98, 99, 100, 101, 102, 103, 104, 105, 106, 107, 108]), (13, [0, 5, 6, 7, 8, 96, 97, 98, 99, 100, 101, 102, 103, 104, 105, 106, 107, 108]), (14, [0, 5, 6, 7, 8, 50, 96, 97, 98, 99, 100, 101, 102, 103, 104, 105, 106, 107, 108]), (15, [0, 5, 6, 7, 8, 96, 97, 98, 99, 100, 101, 102, 103, 104, 105, 106, 107, 108]), (16, [0, 5, 6, 7, 8, 96, 97, 98, 99, 100, 101, 102, 103, 104, 105, 106, 107, 108]), (17, [0, 5, 6, 96, 97, 98, 99, 100, 101, 102, 103, 104, 105, 106, 107, 108]), (18, [0, 5, 9, 96, 97, 98, 99, 100, 101, 102, 103, 104, 105, 106, 107, 108]), (19, [0, 5, 9, 69, 96, 97, 98, 99, 100, 101, 102, 103, 104, 105, 106, 107, 108]), (20, [0, 5, 9, 96, 97, 98, 99, 100, 101, 102, 103, 104, 105, 106, 107, 108]), (21, [0, 5, 9, 10, 96, 97, 98, 99, 100, 101, 102, 103, 104, 105, 106, 107, 108]), (22, [0, 5, 9, 10, 11, 96, 97, 98, 99, 100, 101, 102, 103, 104, 105, 106, 107, 108]), (23, [0, 5, 9, 10, 11, 79, 96, 97, 98, 99, 100, 101, 102, 103, 104, 105, 106, 107, 108]), (24, [0, 5, 9, 10, 11, 96, 97, 98, 99, 100, 101, 102, 103, 104, 105, 106, 107, 108]), (25, [0, 5, 9, 10, 11, 96, 97, 98, 99, 100, 101, 102, 103, 104, 105, 106, 107, 108, 109]), (26, [2]), (27, [0, 5, 9, 10, 12, 96, 97, 98, 99, 100, 101, 102, 103, 104, 105, 106, 107, 108]), (28, [0, 5, 9, 10, 12, 96, 97, 98, 99, 100, 101, 102, 103, 104, 105, 106, 107, 108, 111]), (29, [0, 5, 9, 10, 12, 96, 97, 98, 99, 100, 101, 102, 103, 104, 105, 106, 107, 108]), (30, [0, 5, 9, 10, 12, 96, 97, 98, 99, 100, 101, 102, 103, 104, 105, 106, 107, 108, 129]), (31, [2]), (32, [2])]
def od44 : List (Nat × List (List Nat)) := []
def F44 : FIR := ⟨130, [.tmp 2],
 (.seq (.reg [⟨(some 2), none, .mv (.const (Value.bool false))⟩] [0, 96, 97, 98, 99, 100, 101, 102, 103, 104, 105, 106, 107, 108])
 (.seq (.seq (.reg [⟨(some 3), none, .mv (.const (Value.int IntKind.i64 0))⟩] [0, 3, 96, 97, 98, 99, 100, 101, 102, 103, 104, 105, 106, 107, 108])
 (.block 0
 (.loop
 (.seq (.seq (.reg [⟨(some 13), none, .mv (.tmp 3)⟩,
 ⟨(some 14), none, .mv (.tmp 0)⟩,
 ⟨(some 15), none, .lenL (.tmp 14)⟩,
 ⟨(some 16), none, .bin .lss (.tmp 13) (.tmp 15)⟩] [0, 3, 16, 96, 97, 98, 99, 100, 101, 102, 103, 104, 105, 106, 107, 108])
 (.cond (.tmp 16)
 .skip
 (.exit 0)))
 (.seq (.block 1
 (.seq (.reg [⟨(some 4), none, .mv (.const (Value.int IntKind.i64 0))⟩] [0, 3, 4, 96, 97, 98, 99, 100, 101, 102, 103, 104, 105, 106, 107, 108])
 (.block 2
 (.loop
 (.seq (.seq (.reg [⟨(some 19), none, .mv (.tmp 4)⟩,
 ⟨(some 20), none, .mv (.tmp 0)⟩,
 ⟨(some 21), none, .mv (.tmp 3)⟩,
 ⟨(some 22), none, .idxL 1 (.tmp 20) (.tmp 21)⟩,
 ⟨(some 23), none, .load1 (.tmp 22)⟩,
 ⟨(some 24), none, .lenL (.tmp 23)⟩,
 ⟨(some 25), none, .bin .lss (.tmp 19) (.tmp 24)⟩] [0, 3, 4, 25, 96, 97, 98, 99, 100, 101, 102, 103, 104, 105, 106, 107, 108])
 (.cond (.tmp 25)
 .skip
 (.exit 2)))
 (.seq (.block 3
 (.reg [⟨(some 28), none, .mv (.tmp 0)⟩,
 ⟨(some 29), none, .mv (.tmp 3)⟩,
 ⟨(some 30), none, .idxL 1 (.tmp 28) (.tmp 29)⟩,
 ⟨(some 31), none, .load1 (.tmp 30)⟩,
 ⟨(some 32), none, .mv (.tmp 4)⟩,
 ⟨(some 33), none, .mv (.tmp 3)⟩,
 ⟨(some 34), none, .bin .mul (.tmp 33) (.const (Value.int IntKind.i64 1000))⟩,
 ⟨(some 35), none, .mv (.tmp 4)⟩,
 ⟨(some 36), none, .bin .add (.tmp 34) (.tmp 35)⟩,
 ⟨(some 37), none, .build [(Value.int IntKind.u8 0), (Value.int IntKind.i64 0), (Value.string ⟨#[]⟩)] [(1, 1, (.tmp 36))]⟩,
 ⟨(some 38), none, .idxL 3 (.tmp 31) (.tmp 32)⟩,
 ⟨none, none, .store 3 (.tmp 38) (.tmp 37)⟩] [0, 3, 4, 96, 97, 98, 99, 100, 101, 102, 103, 104, 105, 106, 107, 108]))
 (.reg [⟨(some 26), none, .mv (.tmp 4)⟩,
 ⟨(some 27), none, .bin .add (.tmp 26) (.const (Value.int IntKind.i64 1))⟩,
 ⟨(some 4), none, .mv (.tmp 27)⟩] [0, 3, 4, 96, 97, 98, 99, 100, 101, 102, 103, 104, 105, 106, 107, 108])))))))
 (.reg [⟨(some 17), none, .mv (.tmp 3)⟩,
 ⟨(some 18), none, .bin .add (.tmp 17) (.const (Value.int IntKind.i64 1))⟩,
 ⟨(some 3), none, .mv (.tmp 18)⟩] [0, 3, 96, 97, 98, 99, 100, 101, 102, 103, 104, 105, 106, 107, 108]))))))
 (.seq (.reg [⟨(some 5), none, .mv (.const (Value.slice none 0 0))⟩] [0, 5, 96, 97, 98, 99, 100, 101, 102, 103, 104, 105, 106, 107, 108])
 (.seq (.seq (.reg [⟨(some 6), none, .mv (.const (Value.int IntKind.i64 0))⟩] [0, 5, 6, 96, 97, 98, 99, 100, 101, 102, 103, 104, 105, 106, 107, 108])
 (.block 4
 (.loop
 (.seq (.seq (.reg [⟨(some 39), none, .mv (.tmp 6)⟩,
 ⟨(some 40), none, .mv (.tmp 0)⟩,
 ⟨(some 41), none, .lenL (.tmp 40)⟩,
 ⟨(some 42), none, .bin .lss (.tmp 39) (.tmp 41)⟩] [0, 5, 6, 42, 96, 97, 98, 99, 100, 101, 102, 103, 104, 105, 106, 107, 108])
 (.cond (.tmp 42)
 .skip
 (.exit 4)))
 (.seq (.block 5
 (.seq (.reg [⟨(some 45), none, .mv (.tmp 0)⟩,
 ⟨(some 46), none, .mv (.tmp 6)⟩,
 ⟨(some 47), none, .idxL 1 (.tmp 45) (.tmp 46)⟩,
 ⟨(some 48), none, .load1 (.tmp 47)⟩,
 ⟨(some 7), none, .mv (.tmp 48)⟩] [0, 5, 6, 7, 96, 97, 98, 99, 100, 101, 102, 103, 104, 105, 106, 107, 108])
 (.seq (.seq (.reg [⟨(some 8), none, .mv (.const (Value.int IntKind.i64 0))⟩] [0, 5, 6, 7, 8, 96, 97, 98, 99, 100, 101, 102, 103, 104, 105, 106, 107, 108])
 (.block 6
 (.loop
 (.seq (.seq (.reg [⟨(some 49), none, .mv (.tmp 8)⟩,
 ⟨(some 50), none, .bin .lss (.tmp 49) (.const (Value.int IntKind.i64 16))⟩] [0, 5, 6, 7, 8, 50, 96, 97, 98, 99, 100, 101, 102, 103, 104, 105, 106, 107, 108])
 (.cond (.tmp 50)
 .skip
 (.exit 6)))
 (.seq (.block 7
 (.reg [⟨(some 53), none, .mv (.tmp 7)⟩,
 ⟨(some 54), none, .mv (.tmp 6)⟩,
 ⟨(some 55), none, .bin .sub (.const (Value.int IntKind.i64 (-1))) (.tmp 54)⟩,
 ⟨(some 56), none, .bin .mul (.tmp 55) (.const (Value.int IntKind.i64 1000))⟩,
 ⟨(some 57), none, .mv (.tmp 8)⟩,
 ⟨(some 58), none, .bin .sub (.tmp 56) (.tmp 57)⟩,
 ⟨(some 59), none, .build [(Value.int IntKind.u8 0), (Value.int IntKind.i64 0), (Value.string ⟨#[]⟩)] [(1, 1, (.tmp 58))]⟩,
 ⟨(some 60), none, .bslice 133 1 [(Value.int IntKind.u8 0), (Value.int IntKind.i64 0), (Value.string ⟨#[]⟩)] [(0, 3, (.tmp 59))]⟩,
 ⟨(some 61), none, .append 133 3 32 [(Value.int IntKind.u8 0), (Value.int IntKind.i64 0), (Value.string ⟨#[]⟩)] (.tmp 53) (.tmp 60)⟩,
 ⟨(some 7), none, .mv (.tmp 61)⟩] [0, 5, 6, 7, 8, 96, 97, 98, 99, 100, 101, 102, 103, 104, 105, 106, 107, 108]))
 (.reg [⟨(some 51), none, .mv (.tmp 8)⟩,
 ⟨(some 52), none, .bin .add (.tmp 51) (.const (Value.int IntKind.i64 1))⟩,
 ⟨(some 8), none, .mv (.tmp 52)⟩] [0, 5, 6, 7, 8, 96, 97, 98, 99, 100, 101, 102, 103, 104, 105, 106, 107, 108]))))))
 (.reg [⟨(some 62), none, .mv (.tmp 5)⟩,
 ⟨(some 63), none, .mv (.tmp 7)⟩,
 ⟨(some 64), none, .bslice 130 1 [(Value.slice none 0 0)] [(0, 1, (.tmp 63))]⟩,
 ⟨(some 65), none, .append 130 1 24 [(Value.slice none 0 0)] (.tmp 62) (.tmp 64)⟩,
 ⟨(some 5), none, .mv (.tmp 65)⟩] [0, 5, 6, 96, 97, 98, 99, 100, 101, 102, 103, 104, 105, 106, 107, 108]))))
 (.reg [⟨(some 43), none, .mv (.tmp 6)⟩,
 ⟨(some 44), none, .bin .add (.tmp 43) (.const (Value.int IntKind.i64 1))⟩,
 ⟨(some 6), none, .mv (.tmp 44)⟩] [0, 5, 6, 96, 97, 98, 99, 100, 101, 102, 103, 104, 105, 106, 107, 108]))))))
 (.seq (.seq (.reg [⟨(some 9), none, .mv (.const (Value.int IntKind.i64 0))⟩] [0, 5, 9, 96, 97, 98, 99, 100, 101, 102, 103, 104, 105, 106, 107, 108])
 (.block 8
 (.loop
 (.seq (.seq (.reg [⟨(some 66), none, .mv (.tmp 9)⟩,
 ⟨(some 67), none, .mv (.tmp 0)⟩,
 ⟨(some 68), none, .lenL (.tmp 67)⟩,
 ⟨(some 69), none, .bin .lss (.tmp 66) (.tmp 68)⟩] [0, 5, 9, 69, 96, 97, 98, 99, 100, 101, 102, 103, 104, 105, 106, 107, 108])
 (.cond (.tmp 69)
 .skip
 (.exit 8)))
 (.seq (.block 9
 (.seq (.reg [⟨(some 72), none, .mv (.tmp 0)⟩,
 ⟨(some 73), none, .mv (.tmp 9)⟩,
 ⟨(some 74), none, .idxL 1 (.tmp 72) (.tmp 73)⟩,
 ⟨(some 75), none, .load1 (.tmp 74)⟩,
 ⟨(some 76), none, .lenL (.tmp 75)⟩,
 ⟨(some 10), none, .mv (.tmp 76)⟩] [0, 5, 9, 10, 96, 97, 98, 99, 100, 101, 102, 103, 104, 105, 106, 107, 108])
 (.seq (.seq (.reg [⟨(some 11), none, .mv (.const (Value.int IntKind.i64 0))⟩] [0, 5, 9, 10, 11, 96, 97, 98, 99, 100, 101, 102, 103, 104, 105, 106, 107, 108])
 (.block 10
 (.loop
 (.seq (.seq (.reg [⟨(some 77), none, .mv (.tmp 11)⟩,
 ⟨(some 78), none, .mv (.tmp 10)⟩,
 ⟨(some 79), none, .bin .lss (.tmp 77) (.tmp 78)⟩] [0, 5, 9, 10, 11, 79, 96, 97, 98, 99, 100, 101, 102, 103, 104, 105, 106, 107, 108])
 (.cond (.tmp 79)
 .skip
 (.exit 10)))
 (.seq (.block 11
 (.seq (.reg [⟨(some 82), none, .mv (.tmp 0)⟩,
 ⟨(some 83), none, .mv (.tmp 9)⟩,
 ⟨(some 84), none, .idxL 1 (.tmp 82) (.tmp 83)⟩,
 ⟨(some 85), none, .load1 (.tmp 84)⟩,
 ⟨(some 86), none, .mv (.tmp 11)⟩,
 ⟨(some 87), none, .idxL 3 (.tmp 85) (.tmp 86)⟩,
 ⟨(some 88), none, .loadN 3 (.tmp 87)⟩,
 ⟨(some 89), none, .mv (.tmp 9)⟩,
 ⟨(some 90), none, .bin .mul (.tmp 89) (.const (Value.int IntKind.i64 1000))⟩,
 ⟨(some 91), none, .mv (.tmp 11)⟩,
 ⟨(some 92), none, .bin .add (.tmp 90) (.tmp 91)⟩,
 ⟨(some 93), none, .build [(Value.int IntKind.u8 0), (Value.int IntKind.i64 0), (Value.string ⟨#[]⟩)] [(1, 1, (.tmp 92))]⟩,
 ⟨(some 94), none, .eqagg true [.int, .int, .str] (.tmp 88) (.tmp 93)⟩,
 ⟨(some 95), none, .mv (.tmp 94)⟩,
 ⟨(some 96), (some (95, false)), .mv (.tmp 5)⟩,
 ⟨(some 97), (some (95, false)), .mv (.tmp 9)⟩,
 ⟨(some 98), (some (95, false)), .idxL 1 (.tmp 96) (.tmp 97)⟩,
 ⟨(some 99), (some (95, false)), .load1 (.tmp 98)⟩,
 ⟨(some 100), (some (95, false)), .mv (.tmp 11)⟩,
 ⟨(some 101), (some (95, false)), .idxL 3 (.tmp 99) (.tmp 100)⟩,
 ⟨(some 102), (some (95, false)), .loadN 3 (.tmp 101)⟩,
 ⟨(some 103), (some (95, false)), .mv (.tmp 9)⟩,
 ⟨(some 104), (some (95, false)), .bin .mul (.tmp 103) (.const (Value.int IntKind.i64 1000))⟩,
 ⟨(some 105), (some (95, false)), .mv (.tmp 11)⟩,
 ⟨(some 106), (some (95, false)), .bin .add (.tmp 104) (.tmp 105)⟩,
 ⟨(some 107), (some (95, false)), .build [(Value.int IntKind.u8 0), (Value.int IntKind.i64 0), (Value.string ⟨#[]⟩)] [(1, 1, (.tmp 106))]⟩,
 ⟨(some 108), (some (95, false)), .eqagg true [.int, .int, .str] (.tmp 102) (.tmp 107)⟩,
 ⟨(some 109), none, .pick (.tmp 95) (.const (Value.bool true)) (.tmp 108)⟩] [0, 5, 9, 10, 11, 96, 97, 98, 99, 100, 101, 102, 103, 104, 105, 106, 107, 108, 109])
 (.cond (.tmp 109)
 (.seq (.reg [⟨(some 2), none, .mv (.const (Value.bool false))⟩] [2])
 .ret)
 .skip)))
 (.reg [⟨(some 80), none, .mv (.tmp 11)⟩,
 ⟨(some 81), none, .bin .add (.tmp 80) (.const (Value.int IntKind.i64 1))⟩,
 ⟨(some 11), none, .mv (.tmp 81)⟩] [0, 5, 9, 10, 11, 96, 97, 98, 99, 100, 101, 102, 103, 104, 105, 106, 107, 108]))))))
 (.seq (.reg [⟨(some 12), none, .mv (.const (Value.int IntKind.i64 0))⟩] [0, 5, 9, 10, 12, 96, 97, 98, 99, 100, 101, 102, 103, 104, 105, 106, 107, 108])
 (.block 12
 (.loop
 (.seq (.seq (.reg [⟨(some 110), none, .mv (.tmp 12)⟩,
 ⟨(some 111), none, .bin .lss (.tmp 110) (.const (Value.int IntKind.i64 16))⟩] [0, 5, 9, 10, 12, 96, 97, 98, 99, 100, 101, 102, 103, 104, 105, 106, 107, 108, 111])
 (.cond (.tmp 111)
 .skip
 (.exit 12)))
 (.seq (.block 13
 (.seq (.reg [⟨(some 114), none, .mv (.tmp 5)⟩,
 ⟨(some 115), none, .mv (.tmp 9)⟩,
 ⟨(some 116), none, .idxL 1 (.tmp 114) (.tmp 115)⟩,
 ⟨(some 117), none, .load1 (.tmp 116)⟩,
 ⟨(some 118), none, .mv (.tmp 10)⟩,
 ⟨(some 119), none, .mv (.tmp 12)⟩,
 ⟨(some 120), none, .bin .add (.tmp 118) (.tmp 119)⟩,
 ⟨(some 121), none, .idxL 3 (.tmp 117) (.tmp 120)⟩,
 ⟨(some 122), none, .loadN 3 (.tmp 121)⟩,
 ⟨(some 123), none, .mv (.tmp 9)⟩,
 ⟨(some 124), none, .bin .sub (.const (Value.int IntKind.i64 (-1))) (.tmp 123)⟩,
 ⟨(some 125), none, .bin .mul (.tmp 124) (.const (Value.int IntKind.i64 1000))⟩,
 ⟨(some 126), none, .mv (.tmp 12)⟩,
 ⟨(some 127), none, .bin .sub (.tmp 125) (.tmp 126)⟩,
 ⟨(some 128), none, .build [(Value.int IntKind.u8 0), (Value.int IntKind.i64 0), (Value.string ⟨#[]⟩)] [(1, 1, (.tmp 127))]⟩,
 ⟨(some 129), none, .eqagg true [.int, .int, .str] (.tmp 122) (.tmp 128)⟩] [0, 5, 9, 10, 12, 96, 97, 98, 99, 100, 101, 102, 103, 104, 105, 106, 107, 108, 129])
 (.cond (.tmp 129)
 (.seq (.reg [⟨(some 2), none, .mv (.const (Value.bool false))⟩] [2])
 .ret)
 .skip)))
 (.reg [⟨(some 112), none, .mv (.tmp 12)⟩,
 ⟨(some 113), none, .bin .add (.tmp 112) (.const (Value.int IntKind.i64 1))⟩,
 ⟨(some 12), none, .mv (.tmp 113)⟩] [0, 5, 9, 10, 12, 96, 97, 98, 99, 100, 101, 102, 103, 104, 105, 106, 107, 108])))))))))
 (.reg [⟨(some 70), none, .mv (.tmp 9)⟩,
 ⟨(some 71), none, .bin .add (.tmp 70) (.const (Value.int IntKind.i64 1))⟩,
 ⟨(some 9), none, .mv (.tmp 71)⟩] [0, 5, 9, 96, 97, 98, 99, 100, 101, 102, 103, 104, 105, 106, 107, 108]))))))
 (.seq (.reg [⟨(some 2), none, .mv (.const (Value.bool true))⟩] [2])
 .ret))))))⟩
theorem low44 : lowF Try.prog (assoc kp44) (assoc od44) 44 = some F44 := by kernel_rfl

/- palaver/palaverref00.ownTexts -/
def kp45 : List (Nat × List Nat) := [(0, [0, 96, 97, 98, 99, 100, 101, 102, 103, 104, 105, 106, 107, 108]), (1, [0, 3, 96, 97, 98, 99, 100, 101, 102, 103, 104, 105, 106, 107, 108]), (2, [0, 3, 16, 96, 97, 98, 99, 100, 101, 102, 103, 104, 105, 106, 107, 108]), (3, [0, 3, 96, 97, 98, 99, 100, 101, 102, 103, 104, 105, 106, 107, 108]), (4, [0, 3, 4, 96, 97, 98, 99, 100, 101, 102, 103, 104, 105, 106, 107, 108]), (5, [0, 3, 4, 25, 96, 97, 98, 99, 100, 101, 102, 103, 104, 105, 106, 107, 108]), (6, [0, 3, 4, 96, 97, 98, 99, 100, 101, 102, 103, 104, 105, 106, 107, 108]), (7, [0, 3, 4, 96, 97, 98, 99, 100, 101, 102, 103, 104, 105, 106, 107, 108]), (8, [0, 5, 96, 97, 98, 99, 100, 101, 102, 103, 104, 105, 106, 107, 108]), (9, [0, 5, 6, 96, 97, 98, 99, 100, 101, 102, 103, 104, 105, 106, 107, 108]), (10, [0, 5, 6, 42, 96, 97, 98, 99, 100, 101, 102, 103, 104, 105, 106, 107, 108]), (11, [0, 5, 6, 96, 97, 98, 99, 100, 101, 102, 103, 104, 105, 106, 107, 108]), (12, [0, 5, 6, 7, 96, 97, 98, 99, 100, 101, 102, 103, 104, 105, 106, 107, 108]), (13, [0, 5, 6, 7, 8, 96, 97, 98, 99, 100, 101, 102, 103, 104, 105, 106, 107, 108]), (14, [0, 5, 6, 7, 8, 50, 96, 97, 98, 99, 100, 101, 102, 103, 104, 105, 106, 107, 108]), (15, [0, 5, 6, 7, 8, 96, 97, 98, 99, 100, 101, 102, 103, 104, 105, 106, 107, 108]), (16, [0, 5, 6, 7, 8, 96, 97, 98, 99, 100, 101, 102, 103, 104, 105, 106, 107, 108]), (17, [0, 5, 6, 96, 97, 98, 99, 100, 101, 102, 103, 104, 105, 106, 107, 108]), (18, [0, 5, 9, 96, 97, 98, 99, 100, 101, 102, 103, 104, 105, 106, 107, 108]), (19, [0, 5, 9, 69, 96, 97, 98, 99, 100, 101, 102, 103, 104, 105, 106, 107, 108]), (20, [0, 5, 9, 96, 97, 98, 99, 100, 101, 102, 103, 104, 105, 106, 107, 108]), (21, [0, 5, 9, 10, 96, 97, 98, 99, 100, 101, 102, 103, 104, 105, 106, 107, 108]), (22, [0, 5, 9, 10, 11, 96, 97, 98, 99, 100, 101, 102, 103, 104, 105, 106, 107, 108]), (23, [0, 5, 9, 10, 11, 79, 96, 97, 98, 99, 100, 101, 102, 103, 104, 105, 106, 107, 108]), (24, [0, 5, 9, 10, 11, 96, 97, 98, 99, 100, 101, 102, 103, 104, 105, 106, 107, 108]), (25, [0, 5, 9, 10, 11, 96, 97, 98, 99, 100, 101, 102, 103, 104, 105, 106, 107, 108, 109]), (26, [2]), (27, [0, 5, 9, 10, 12, 96, 97, 98, 99, 100, 101, 102, 103, 104, 105, 106, 107, 108]), (28, [0, 5, 9, 10, 12, 96, 97, 98, 99, 100, 101, 102, 103, 104, 105, 106, 107, 108, 111]), (29, [0, 5, 9, 10, 12, 96, 97, 98, 99, 100, 101, 102, 103, 104, 105, 106, 107, 108]), (30, [0, 5, 9, 10, 12, 96, 97, 98, 99, 100, 101, 102, 103, 104, 105, 106, 107, 108, 129]), (31, [2]), (32, [2])]
def od45 : List (Nat × List (List Nat)) := [(7, [[0, 1, 2, 3, 4, 5, 6, 7, 8, 9, 10, 11], [0, 1, 2, 4, 5, 6, 7, 8, 9, 3, 10, 11]]), (25, [[0, 1, 2, 3, 4, 5, 6, 7, 8, 9, 10, 11, 12, 13, 14, 15, 16, 17, 18, 19, 20, 21, 22, 23, 24, 25, 26, 27], [0, 1, 2, 3, 4, 5, 7, 8, 9, 10, 11, 6, 12, 13, 14, 15, 16, 17, 18, 19, 20, 21, 22, 23, 24, 25, 26, 27], [0, 1, 2, 4, 7, 8, 9, 10, 11, 3, 5, 6, 12, 13, 14, 15, 16, 17, 18, 19, 20, 21, 22, 23, 24, 25, 26, 27], [0, 1, 2, 3, 4, 5, 6, 7, 8, 9, 10, 11, 12, 13, 14, 15, 16, 17, 18, 19, 21, 22, 23, 24, 25, 20, 26, 27], [0, 1, 2, 3, 4, 5, 7, 8, 9, 10, 11, 6, 12, 13, 14, 15, 16, 17, 18, 19, 21, 22, 23, 24, 25, 20, 26, 27], [0, 1, 2, 4, 7, 8, 9, 10, 11, 3, 5, 6, 12, 13, 14, 15, 16, 17, 18, 19, 21, 22, 23, 24, 25, 20, 26, 27], [0, 1, 2, 3, 4, 5, 6, 7, 8, 9, 10, 11, 12, 13, 14, 15, 16, 18, 21, 22, 23, 24, 25, 17, 19, 20, 26, 27], [0, 1, 2, 3, 4, 5, 7, 8, 9, 10, 11, 6, 12, 13, 14, 15, 16, 18, 21, 22, 23, 24, 25, 17, 19, 20, 26, 27], [0, 1, 2, 4, 7, 8, 9, 10, 11, 3, 5, 6, 12, 13, 14, 15, 16, 18, 21, 22, 23, 24, 25, 17, 19, 20, 26, 27]]), (30, [[0, 1, 2, 3, 4, 5, 6, 7, 8, 9, 10, 11, 12, 13, 14, 15], [0, 1, 2, 3, 4, 5, 6, 7, 9, 10, 11, 12, 13, 14, 8, 15], [0, 1, 2, 4, 5, 6, 9, 10, 11, 12, 13, 14, 3, 7, 8, 15]])]
def F45 : FIR := ⟨130, [.tmp 2],
 (.seq (.reg [⟨(some 2), none, .mv (.const (Value.bool false))⟩] [0, 96, 97, 98, 99, 100, 101, 102, 103, 104, 105, 106, 107, 108])
 (.seq (.seq (.reg [⟨(some 3), none, .mv (.const (Value.int IntKind.i64 0))⟩] [0, 3, 96, 97, 98, 99, 100, 101, 102, 103, 104, 105, 106, 107, 108])
 (.block 0
 (.loop
 (.seq (.seq (.reg [⟨(some 13), none, .mv (.tmp 3)⟩,
 ⟨(some 14), none, .mv (.tmp 0)⟩,
 ⟨(some 15), none, .lenL (.tmp 14)⟩,
 ⟨(some 16), none, .bin .lss (.tmp 13) (.tmp 15)⟩] [0, 3, 16, 96, 97, 98, 99, 100, 101, 102, 103, 104, 105, 106, 107, 108])
 (.cond (.tmp 16)
 .skip
 (.exit 0)))
 (.seq (.block 1
 (.seq (.reg [⟨(some 4), none, .mv (.const (Value.int IntKind.i64 0))⟩] [0, 3, 4, 96, 97, 98, 99, 100, 101, 102, 103, 104, 105, 106, 107, 108])
 (.block 2
 (.loop
 (.seq (.seq (.reg [⟨(some 19), none, .mv (.tmp 4)⟩,
 ⟨(some 20), none, .mv (.tmp 0)⟩,
 ⟨(some 21), none, .mv (.tmp 3)⟩,
 ⟨(some 22), none, .idxL 1 (.tmp 20) (.tmp 21)⟩,
 ⟨(some 23), none, .load1 (.tmp 22)⟩,
 ⟨(some 24), none, .lenL (.tmp 23)⟩,
 ⟨(some 25), none, .bin .lss (.tmp 19) (.tmp 24)⟩] [0, 3, 4, 25, 96, 97, 98, 99, 100, 101, 102, 103, 104, 105, 106, 107, 108])
 (.cond (.tmp 25)
 .skip
 (.exit 2)))
 (.seq (.block 3
 (.draw [[⟨(some 28), none, .mv (.tmp 0)⟩,
 ⟨(some 29), none, .mv (.tmp 3)⟩,
 ⟨(some 30), none, .idxL 1 (.tmp 28) (.tmp 29)⟩,
 ⟨(some 31), none, .load1 (.tmp 30)⟩,
 ⟨(some 32), none, .mv (.tmp 4)⟩,
 ⟨(some 33), none, .mv (.tmp 3)⟩,
 ⟨(some 34), none, .bin .mul (.tmp 33) (.const (Value.int IntKind.i64 1000))⟩,
 ⟨(some 35), none, .mv (.tmp 4)⟩,
 ⟨(some 36), none, .bin .add (.tmp 34) (.tmp 35)⟩,
 ⟨(some 37), none, .call 59 [(.tmp 36)]⟩,
 ⟨(some 38), none, .idxL 1 (.tmp 31) (.tmp 32)⟩,
 ⟨none, none, .store 1 (.tmp 38) (.tmp 37)⟩],
 [⟨(some 28), none, .mv (.tmp 0)⟩,
 ⟨(some 29), none, .mv (.tmp 3)⟩,
 ⟨(some 30), none, .idxL 1 (.tmp 28) (.tmp 29)⟩,
 ⟨(some 32), none, .mv (.tmp 4)⟩,
 ⟨(some 33), none, .mv (.tmp 3)⟩,
 ⟨(some 34), none, .bin .mul (.tmp 33) (.const (Value.int IntKind.i64 1000))⟩,
 ⟨(some 35), none, .mv (.tmp 4)⟩,
 ⟨(some 36), none, .bin .add (.tmp 34) (.tmp 35)⟩,
 ⟨(some 37), none, .call 59 [(.tmp 36)]⟩,
 ⟨(some 31), none, .load1 (.tmp 30)⟩,
 ⟨(some 38), none, .idxL 1 (.tmp 31) (.tmp 32)⟩,
 ⟨none, none, .store 1 (.tmp 38) (.tmp 37)⟩]] [0, 3, 4, 96, 97, 98, 99, 100, 101, 102, 103, 104, 105, 106, 107, 108]))
 (.reg [⟨(some 26), none, .mv (.tmp 4)⟩,
 ⟨(some 27), none, .bin .add (.tmp 26) (.const (Value.int IntKind.i64 1))⟩,
 ⟨(some 4), none, .mv (.tmp 27)⟩] [0, 3, 4, 96, 97, 98, 99, 100, 101, 102, 103, 104, 105, 106, 107, 108])))))))
 (.reg [⟨(some 17), none, .mv (.tmp 3)⟩,
 ⟨(some 18), none, .bin .add (.tmp 17) (.const (Value.int IntKind.i64 1))⟩,
 ⟨(some 3), none, .mv (.tmp 18)⟩] [0, 3, 96, 97, 98, 99, 100, 101, 102, 103, 104, 105, 106, 107, 108]))))))
 (.seq (.reg [⟨(some 5), none, .mv (.const (Value.slice none 0 0))⟩] [0, 5, 96, 97, 98, 99, 100, 101, 102, 103, 104, 105, 106, 107, 108])
 (.seq (.seq (.reg [⟨(some 6), none, .mv (.const (Value.int IntKind.i64 0))⟩] [0, 5, 6, 96, 97, 98, 99, 100, 101, 102, 103, 104, 105, 106, 107, 108])
 (.block 4
 (.loop
 (.seq (.seq (.reg [⟨(some 39), none, .mv (.tmp 6)⟩,
 ⟨(some 40), none, .mv (.tmp 0)⟩,
 ⟨(some 41), none, .lenL (.tmp 40)⟩,
 ⟨(some 42), none, .bin .lss (.tmp 39) (.tmp 41)⟩] [0, 5, 6, 42, 96, 97, 98, 99, 100, 101, 102, 103, 104, 105, 106, 107, 108])
 (.cond (.tmp 42)
 .skip
 (.exit 4)))
 (.seq (.block 5
 (.seq (.reg [⟨(some 45), none, .mv (.tmp 0)⟩,
 ⟨(some 46), none, .mv (.tmp 6)⟩,
 ⟨(some 47), none, .idxL 1 (.tmp 45) (.tmp 46)⟩,
 ⟨(some 48), none, .load1 (.tmp 47)⟩,
 ⟨(some 7), none, .mv (.tmp 48)⟩] [0, 5, 6, 7, 96, 97, 98, 99, 100, 101, 102, 103, 104, 105, 106, 107, 108])
 (.seq (.seq (.reg [⟨(some 8), none, .mv (.const (Value.int IntKind.i64 0))⟩] [0, 5, 6, 7, 8, 96, 97, 98, 99, 100, 101, 102, 103, 104, 105, 106, 107, 108])
 (.block 6
 (.loop
 (.seq (.seq (.reg [⟨(some 49), none, .mv (.tmp 8)⟩,
 ⟨(some 50), none, .bin .lss (.tmp 49) (.const (Value.int IntKind.i64 16))⟩] [0, 5, 6, 7, 8, 50, 96, 97, 98, 99, 100, 101, 102, 103, 104, 105, 106, 107, 108])
 (.cond (.tmp 50)
 .skip
 (.exit 6)))
 (.seq (.block 7
 (.reg [⟨(some 53), none, .mv (.tmp 7)⟩,
 ⟨(some 54), none, .mv (.tmp 6)⟩,
 ⟨(some 55), none, .bin .sub (.const (Value.int IntKind.i64 (-1))) (.tmp 54)⟩,
 ⟨(some 56), none, .bin .mul (.tmp 55) (.const (Value.int IntKind.i64 1000))⟩,
 ⟨(some 57), none, .mv (.tmp 8)⟩,
 ⟨(some 58), none, .bin .sub (.tmp 56) (.tmp 57)⟩,
 ⟨(some 59), none, .call 59 [(.tmp 58)]⟩,
 ⟨(some 60), none, .bslice 9 1 [(Value.string ⟨#[]⟩)] [(0, 1, (.tmp 59))]⟩,
 ⟨(some 61), none, .append 9 1 16 [(Value.string ⟨#[]⟩)] (.tmp 53) (.tmp 60)⟩,
 ⟨(some 7), none, .mv (.tmp 61)⟩] [0, 5, 6, 7, 8, 96, 97, 98, 99, 100, 101, 102, 103, 104, 105, 106, 107, 108]))
 (.reg [⟨(some 51), none, .mv (.tmp 8)⟩,
 ⟨(some 52), none, .bin .add (.tmp 51) (.const (Value.int IntKind.i64 1))⟩,
 ⟨(some 8), none, .mv (.tmp 52)⟩] [0, 5, 6, 7, 8, 96, 97, 98, 99, 100, 101, 102, 103, 104, 105, 106, 107, 108]))))))
 (.reg [⟨(some 62), none, .mv (.tmp 5)⟩,
 ⟨(some 63), none, .mv (.tmp 7)⟩,
 ⟨(some 64), none, .bslice 88 1 [(Value.slice none 0 0)] [(0, 1, (.tmp 63))]⟩,
 ⟨(some 65), none, .append 88 1 24 [(Value.slice none 0 0)] (.tmp 62) (.tmp 64)⟩,
 ⟨(some 5), none, .mv (.tmp 65)⟩] [0, 5, 6, 96, 97, 98, 99, 100, 101, 102, 103, 104, 105, 106, 107, 108]))))
 (.reg [⟨(some 43), none, .mv (.tmp 6)⟩,
 ⟨(some 44), none, .bin .add (.tmp 43) (.const (Value.int IntKind.i64 1))⟩,
 ⟨(some 6), none, .mv (.tmp 44)⟩] [0, 5, 6, 96, 97, 98, 99, 100, 101, 102, 103, 104, 105, 106, 107, 108]))))))
 (.seq (.seq (.reg [⟨(some 9), none, .mv (.const (Value.int IntKind.i64 0))⟩] [0, 5, 9, 96, 97, 98, 99, 100, 101, 102, 103, 104, 105, 106, 107, 108])
 (.block 8
 (.loop
 (.seq (.seq (.reg [⟨(some 66), none, .mv (.tmp 9)⟩,
 ⟨(some 67), none, .mv (.tmp 0)⟩,
 ⟨(some 68), none, .lenL (.tmp 67)⟩,
 ⟨(some 69), none, .bin .lss (.tmp 66) (.tmp 68)⟩] [0, 5, 9, 69, 96, 97, 98, 99, 100, 101, 102, 103, 104, 105, 106, 107, 108])
 (.cond (.tmp 69)
 .skip
 (.exit 8)))
 (.seq (.block 9
 (.seq (.reg [⟨(some 72), none, .mv (.tmp 0)⟩,
 ⟨(some 73), none, .mv (.tmp 9)⟩,
 ⟨(some 74), none, .idxL 1 (.tmp 72) (.tmp 73)⟩,
 ⟨(some 75), none, .load1 (.tmp 74)⟩,
 ⟨(some 76), none, .lenL (.tmp 75)⟩,
 ⟨(some 10), none, .mv (.tmp 76)⟩] [0, 5, 9, 10, 96, 97, 98, 99, 100, 101, 102, 103, 104, 105, 106, 107, 108])
 (.seq (.seq (.reg [⟨(some 11), none, .mv (.const (Value.int IntKind.i64 0))⟩] [0, 5, 9, 10, 11, 96, 97, 98, 99, 100, 101, 102, 103, 104, 105, 106, 107, 108])
 (.block 10
 (.loop
 (.seq (.seq (.reg [⟨(some 77), none, .mv (.tmp 11)⟩,
 ⟨(some 78), none, .mv (.tmp 10)⟩,
 ⟨(some 79), none, .bin .lss (.tmp 77) (.tmp 78)⟩] [0, 5, 9, 10, 11, 79, 96, 97, 98, 99, 100, 101, 102, 103, 104, 105, 106, 107, 108])
 (.cond (.tmp 79)
 .skip
 (.exit 10)))
 (.seq (.block 11
 (.seq (.draw [[⟨(some 82), none, .mv (.tmp 0)⟩,
 ⟨(some 83), none, .mv (.tmp 9)⟩,
 ⟨(some 84), none, .idxL 1 (.tmp 82) (.tmp 83)⟩,
 ⟨(some 85), none, .load1 (.tmp 84)⟩,
 ⟨(some 86), none, .mv (.tmp 11)⟩,
 ⟨(some 87), none, .idxL 1 (.tmp 85) (.tmp 86)⟩,
 ⟨(some 88), none, .load1 (.tmp 87)⟩,
 ⟨(some 89), none, .mv (.tmp 9)⟩,
 ⟨(some 90), none, .bin .mul (.tmp 89) (.const (Value.int IntKind.i64 1000))⟩,
 ⟨(some 91), none, .mv (.tmp 11)⟩,
 ⟨(some 92), none, .bin .add (.tmp 90) (.tmp 91)⟩,
 ⟨(some 93), none, .call 59 [(.tmp 92)]⟩,
 ⟨(some 94), none, .bin .neq (.tmp 88) (.tmp 93)⟩,
 ⟨(some 95), none, .mv (.tmp 94)⟩,
 ⟨(some 96), (some (95, false)), .mv (.tmp 5)⟩,
 ⟨(some 97), (some (95, false)), .mv (.tmp 9)⟩,
 ⟨(some 98), (some (95, false)), .idxL 1 (.tmp 96) (.tmp 97)⟩,
 ⟨(some 99), (some (95, false)), .load1 (.tmp 98)⟩,
 ⟨(some 100), (some (95, false)), .mv (.tmp 11)⟩,
 ⟨(some 101), (some (95, false)), .idxL 1 (.tmp 99) (.tmp 100)⟩,
 ⟨(some 102), (some (95, false)), .load1 (.tmp 101)⟩,
 ⟨(some 103), (some (95, false)), .mv (.tmp 9)⟩,
 ⟨(some 104), (some (95, false)), .bin .mul (.tmp 103) (.const (Value.int IntKind.i64 1000))⟩,
 ⟨(some 105), (some (95, false)), .mv (.tmp 11)⟩,
 ⟨(some 106), (some (95, false)), .bin .add (.tmp 104) (.tmp 105)⟩,
 ⟨(some 107), (some (95, false)), .call 59 [(.tmp 106)]⟩,
 ⟨(some 108), (some (95, false)), .bin .neq (.tmp 102) (.tmp 107)⟩,
 ⟨(some 109), none, .pick (.tmp 95) (.const (Value.bool true)) (.tmp 108)⟩],
 [⟨(some 82), none, .mv (.tmp 0)⟩,
 ⟨(some 83), none, .mv (.tmp 9)⟩,
 ⟨(some 84), none, .idxL 1 (.tmp 82) (.tmp 83)⟩,
 ⟨(some 85), none, .load1 (.tmp 84)⟩,
 ⟨(some 86), none, .mv (.tmp 11)⟩,
 ⟨(some 87), none, .idxL 1 (.tmp 85) (.tmp 86)⟩,
 ⟨(some 89), none, .mv (.tmp 9)⟩,
 ⟨(some 90), none, .bin .mul (.tmp 89) (.const (Value.int IntKind.i64 1000))⟩,
 ⟨(some 91), none, .mv (.tmp 11)⟩,
 ⟨(some 92), none, .bin .add (.tmp 90) (.tmp 91)⟩,
 ⟨(some 93), none, .call 59 [(.tmp 92)]⟩,
 ⟨(some 88), none, .load1 (.tmp 87)⟩,
 ⟨(some 94), none, .bin .neq (.tmp 88) (.tmp 93)⟩,
 ⟨(some 95), none, .mv (.tmp 94)⟩,
 ⟨(some 96), (some (95, false)), .mv (.tmp 5)⟩,
 ⟨(some 97), (some (95, false)), .mv (.tmp 9)⟩,
 ⟨(some 98), (some (95, false)), .idxL 1 (.tmp 96) (.tmp 97)⟩,
 ⟨(some 99), (some (95, false)), .load1 (.tmp 98)⟩,
 ⟨(some 100), (some (95, false)), .mv (.tmp 11)⟩,
 ⟨(some 101), (some (95, false)), .idxL 1 (.tmp 99) (.tmp 100)⟩,
 ⟨(some 102), (some (95, false)), .load1 (.tmp 101)⟩,
 ⟨(some 103), (some (95, false)), .mv (.tmp 9)⟩,
 ⟨(some 104), (some (95, false)), .bin .mul (.tmp 103) (.const (Value.int IntKind.i64 1000))⟩,
 ⟨(some 105), (some (95, false)), .mv (.tmp 11)⟩,
 ⟨(some 106), (some (95, false)), .bin .add (.tmp 104) (.tmp 105)⟩,
 ⟨(some 107), (some (95, false)), .call 59 [(.tmp 106)]⟩,
 ⟨(some 108), (some (95, false)), .bin .neq (.tmp 102) (.tmp 107)⟩,
 ⟨(some 109), none, .pick (.tmp 95) (.const (Value.bool true)) (.tmp 108)⟩],
 [⟨(some 82), none, .mv (.tmp 0)⟩,
 ⟨(some 83), none, .mv (.tmp 9)⟩,
 ⟨(some 84), none, .idxL 1 (.tmp 82) (.tmp 83)⟩,
 ⟨(some 86), none, .mv (.tmp 11)⟩,
 ⟨(some 89), none, .mv (.tmp 9)⟩,
 ⟨(some 90), none, .bin .mul (.tmp 89) (.const (Value.int IntKind.i64 1000))⟩,
 ⟨(some 91), none, .mv (.tmp 11)⟩,
 ⟨(some 92), none, .bin .add (.tmp 90) (.tmp 91)⟩,
 ⟨(some 93), none, .call 59 [(.tmp 92)]⟩,
 ⟨(some 85), none, .load1 (.tmp 84)⟩,
 ⟨(some 87), none, .idxL 1 (.tmp 85) (.tmp 86)⟩,
 ⟨(some 88), none, .load1 (.tmp 87)⟩,
 ⟨(some 94), none, .bin .neq (.tmp 88) (.tmp 93)⟩,
 ⟨(some 95), none, .mv (.tmp 94)⟩,
 ⟨(some 96), (some (95, false)), .mv (.tmp 5)⟩,
 ⟨(some 97), (some (95, false)), .mv (.tmp 9)⟩,
 ⟨(some 98), (some (95, false)), .idxL 1 (.tmp 96) (.tmp 97)⟩,
 ⟨(some 99), (some (95, false)), .load1 (.tmp 98)⟩,
 ⟨(some 100), (some (95, false)), .mv (.tmp 11)⟩,
 ⟨(some 101), (some (95, false)), .idxL 1 (.tmp 99) (.tmp 100)⟩,
 ⟨(some 102), (some (95, false)), .load1 (.tmp 101)⟩,
 ⟨(some 103), (some (95, false)), .mv (.tmp 9)⟩,
 ⟨(some 104), (some (95, false)), .bin .mul (.tmp 103) (.const (Value.int IntKind.i64 1000))⟩,
 ⟨(some 105), (some (95, false)), .mv (.tmp 11)⟩,
 ⟨(some 106), (some (95, false)), .bin .add (.tmp 104) (.tmp 105)⟩,
 ⟨(some 107), (some (95, false)), .call 59 [(.tmp 106)]⟩,
 ⟨(some 108), (some (95, false)), .bin .neq (.tmp 102) (.tmp 107)⟩,
 ⟨(some 109), none, .pick (.tmp 95) (.const (Value.bool true)) (.tmp 108)⟩],
 [⟨(some 82), none, .mv (.tmp 0)⟩,
 ⟨(some 83), none, .mv (.tmp 9)⟩,
 ⟨(some 84), none, .idxL 1 (.tmp 82) (.tmp 83)⟩,
 ⟨(some 85), none, .load1 (.tmp 84)⟩,
 ⟨(some 86), none, .mv (.tmp 11)⟩,
 ⟨(some 87), none, .idxL 1 (.tmp 85) (.tmp 86)⟩,
 ⟨(some 88), none, .load1 (.tmp 87)⟩,
 ⟨(some 89), none, .mv (.tmp 9)⟩,
 ⟨(some 90), none, .bin .mul (.tmp 89) (.const (Value.int IntKind.i64 1000))⟩,
 ⟨(some 91), none, .mv (.tmp 11)⟩,
 ⟨(some 92), none, .bin .add (.tmp 90) (.tmp 91)⟩,
 ⟨(some 93), none, .call 59 [(.tmp 92)]⟩,
 ⟨(some 94), none, .bin .neq (.tmp 88) (.tmp 93)⟩,
 ⟨(some 95), none, .mv (.tmp 94)⟩,
 ⟨(some 96), (some (95, false)), .mv (.tmp 5)⟩,
 ⟨(some 97), (some (95, false)), .mv (.tmp 9)⟩,
 ⟨(some 98), (some (95, false)), .idxL 1 (.tmp 96) (.tmp 97)⟩,
 ⟨(some 99), (some (95, false)), .load1 (.tmp 98)⟩,
 ⟨(some 100), (some (95, false)), .mv (.tmp 11)⟩,
 ⟨(some 101), (some (95, false)), .idxL 1 (.tmp 99) (.tmp 100)⟩,
 ⟨(some 103), (some (95, false)), .mv (.tmp 9)⟩,
 ⟨(some 104), (some (95, false)), .bin .mul (.tmp 103) (.const (Value.int IntKind.i64 1000))⟩,
 ⟨(some 105), (some (95, false)), .mv (.tmp 11)⟩,
 ⟨(some 106), (some (95, false)), .bin .add (.tmp 104) (.tmp 105)⟩,
 ⟨(some 107), (some (95, false)), .call 59 [(.tmp 106)]⟩,
 ⟨(some 102), (some (95, false)), .load1 (.tmp 101)⟩,
 ⟨(some 108), (some (95, false)), .bin .neq (.tmp 102) (.tmp 107)⟩,
 ⟨(some 109), none, .pick (.tmp 95) (.const (Value.bool true)) (.tmp 108)⟩],
 [⟨(some 82), none, .mv (.tmp 0)⟩,
 ⟨(some 83), none, .mv (.tmp 9)⟩,
 ⟨(some 84), none, .idxL 1 (.tmp 82) (.tmp 83)⟩,
 ⟨(some 85), none, .load1 (.tmp 84)⟩,
 ⟨(some 86), none, .mv (.tmp 11)⟩,
 ⟨(some 87), none, .idxL 1 (.tmp 85) (.tmp 86)⟩,
 ⟨(some 89), none, .mv (.tmp 9)⟩,
 ⟨(some 90), none, .bin .mul (.tmp 89) (.const (Value.int IntKind.i64 1000))⟩,
 ⟨(some 91), none, .mv (.tmp 11)⟩,
 ⟨(some 92), none, .bin .add (.tmp 90) (.tmp 91)⟩,
 ⟨(some 93), none, .call 59 [(.tmp 92)]⟩,
 ⟨(some 88), none, .load1 (.tmp 87)⟩,
 ⟨(some 94), none, .bin .neq (.tmp 88) (.tmp 93)⟩,
 ⟨(some 95), none, .mv (.tmp 94)⟩,
 ⟨(some 96), (some (95, false)), .mv (.tmp 5)⟩,
 ⟨(some 97), (some (95, false)), .mv (.tmp 9)⟩,
 ⟨(some 98), (some (95, false)), .idxL 1 (.tmp 96) (.tmp 97)⟩,
 ⟨(some 99), (some (95, false)), .load1 (.tmp 98)⟩,
 ⟨(some 100), (some (95, false)), .mv (.tmp 11)⟩,
 ⟨(some 101), (some (95, false)), .idxL 1 (.tmp 99) (.tmp 100)⟩,
 ⟨(some 103), (some (95, false)), .mv (.tmp 9)⟩,
 ⟨(some 104), (some (95, false)), .bin .mul (.tmp 103) (.const (Value.int IntKind.i64 1000))⟩,
 ⟨(some 105), (some (95, false)), .mv (.tmp 11)⟩,
 ⟨(some 106), (some (95, false)), .bin .add (.tmp 104) (.tmp 105)⟩,
 ⟨(some 107), (some (95, false)), .call 59 [(.tmp 106)]⟩,
 ⟨(some 102), (some (95, false)), .load1 (.tmp 101)⟩,
 ⟨(some 108), (some (95, false)), .bin .neq (.tmp 102) (.tmp 107)⟩,
 ⟨(some 109), none, .pick (.tmp 95) (.const (Value.bool true)) (.tmp 108)⟩],
 [⟨(some 82), none, .mv (.tmp 0)⟩,
 ⟨(some 83), none, .mv (.tmp 9)⟩,
 ⟨(some 84), none, .idxL 1 (.tmp 82) (.tmp 83)⟩,
 ⟨(some 86), none, .mv (.tmp 11)⟩,
 ⟨(some 89), none, .mv (.tmp 9)⟩,
 ⟨(some 90), none, .bin .mul (.tmp 89) (.const (Value.int IntKind.i64 1000))⟩,
 ⟨(some 91), none, .mv (.tmp 11)⟩,
 ⟨(some 92), none, .bin .add (.tmp 90) (.tmp 91)⟩,
 ⟨(some 93), none, .call 59 [(.tmp 92)]⟩,
 ⟨(some 85), none, .load1 (.tmp 84)⟩,
 ⟨(some 87), none, .idxL 1 (.tmp 85) (.tmp 86)⟩,
 ⟨(some 88), none, .load1 (.tmp 87)⟩,
 ⟨(some 94), none, .bin .neq (.tmp 88) (.tmp 93)⟩,
 ⟨(some 95), none, .mv (.tmp 94)⟩,
 ⟨(some 96), (some (95, false)), .mv (.tmp 5)⟩,
 ⟨(some 97), (some (95, false)), .mv (.tmp 9)⟩,
 ⟨(some 98), (some (95, false)), .idxL 1 (.tmp 96) (.tmp 97)⟩,
 ⟨(some 99), (some (95, false)), .load1 (.tmp 98)⟩,
 ⟨(some 100), (some (95, false)), .mv (.tmp 11)⟩,
 ⟨(some 101), (some (95, false)), .idxL 1 (.tmp 99) (.tmp 100)⟩,
 ⟨(some 103), (some (95, false)), .mv (.tmp 9)⟩,
 ⟨(some 104), (some (95, false)), .bin .mul (.tmp 103) (.const (Value.int IntKind.i64 1000))⟩,
 ⟨(some 105), (some (95, false)), .mv (.tmp 11)⟩,
 ⟨(some 106), (some (95, false)), .bin .add (.tmp 104) (.tmp 105)⟩,
 ⟨(some 107), (some (95, false)), .call 59 [(.tmp 106)]⟩,
 ⟨(some 102), (some (95, false)), .load1 (.tmp 101)⟩,
 ⟨(some 108), (some (95, false)), .bin .neq (.tmp 102) (.tmp 107)⟩,
 ⟨(some 109), none, .pick (.tmp 95) (.const (Value.bool true)) (.tmp 108)⟩],
 [⟨(some 82), none, .mv (.tmp 0)⟩,
 ⟨(some 83), none, .mv (.tmp 9)⟩,
 ⟨(some 84), none, .idxL 1 (.tmp 82) (.tmp 83)⟩,
 ⟨(some 85), none, .load1 (.tmp 84)⟩,
 ⟨(some 86), none, .mv (.tmp 11)⟩,
 ⟨(some 87), none, .idxL 1 (.tmp 85) (.tmp 86)⟩,
 ⟨(some 88), none, .load1 (.tmp 87)⟩,
 ⟨(some 89), none, .mv (.tmp 9)⟩,
 ⟨(some 90), none, .bin .mul (.tmp 89) (.const (Value.int IntKind.i64 1000))⟩,
 ⟨(some 91), none, .mv (.tmp 11)⟩,
 ⟨(some 92), none, .bin .add (.tmp 90) (.tmp 91)⟩,
 ⟨(some 93), none, .call 59 [(.tmp 92)]⟩,
 ⟨(some 94), none, .bin .neq (.tmp 88) (.tmp 93)⟩,
 ⟨(some 95), none, .mv (.tmp 94)⟩,
 ⟨(some 96), (some (95, false)), .mv (.tmp 5)⟩,
 ⟨(some 97), (some (95, false)), .mv (.tmp 9)⟩,
 ⟨(some 98), (some (95, false)), .idxL 1 (.tmp 96) (.tmp 97)⟩,
 ⟨(some 100), (some (95, false)), .mv (.tmp 11)⟩,
 ⟨(some 103), (some (95, false)), .mv (.tmp 9)⟩,
 ⟨(some 104), (some (95, false)), .bin .mul (.tmp 103) (.const (Value.int IntKind.i64 1000))⟩,
 ⟨(some 105), (some (95, false)), .mv (.tmp 11)⟩,
 ⟨(some 106), (some (95, false)), .bin .add (.tmp 104) (.tmp 105)⟩,
 ⟨(some 107), (some (95, false)), .call 59 [(.tmp 106)]⟩,
 ⟨(some 99), (some (95, false)), .load1 (.tmp 98)⟩,
 ⟨(some 101), (some (95, false)), .idxL 1 (.tmp 99) (.tmp 100)⟩,
 ⟨(some 102), (some (95, false)), .load1 (.tmp 101)⟩,
 ⟨(some 108), (some (95, false)), .bin .neq (.tmp 102) (.tmp 107)⟩,
 ⟨(some 109), none, .pick (.tmp 95) (.const (Value.bool true)) (.tmp 108)⟩],
 [⟨(some 82), none, .mv (.tmp 0)⟩,
 ⟨(some 83), none, .mv (.tmp 9)⟩,
 ⟨(some 84), none, .idxL 1 (.tmp 82) (.tmp 83)⟩,
 ⟨(some 85), none, .load1 (.tmp 84)⟩,
 ⟨(some 86), none, .mv (.tmp 11)⟩,
 ⟨(some 87), none, .idxL 1 (.tmp 85) (.tmp 86)⟩,
 ⟨(some 89), none, .mv (.tmp 9)⟩,
 ⟨(some 90), none, .bin .mul (.tmp 89) (.const (Value.int IntKind.i64 1000))⟩,
 ⟨(some 91), none, .mv (.tmp 11)⟩,
 ⟨(some 92), none, .bin .add (.tmp 90) (.tmp 91)⟩,
 ⟨(some 93), none, .call 59 [(.tmp 92)]⟩,
 ⟨(some 88), none, .load1 (.tmp 87)⟩,
 ⟨(some 94), none, .bin .neq (.tmp 88) (.tmp 93)⟩,
 ⟨(some 95), none, .mv (.tmp 94)⟩,
 ⟨(some 96), (some (95, false)), .mv (.tmp 5)⟩,
 ⟨(some 97), (some (95, false)), .mv (.tmp 9)⟩,
 ⟨(some 98), (some (95, false)), .idxL 1 (.tmp 96) (.tmp 97)⟩,
 ⟨(some 100), (some (95, false)), .mv (.tmp 11)⟩,
 ⟨(some 103), (some (95, false)), .mv (.tmp 9)⟩,
 ⟨(some 104), (some (95, false)), .bin .mul (.tmp 103) (.const (Value.int IntKind.i64 1000))⟩,
 ⟨(some 105), (some (95, false)), .mv (.tmp 11)⟩,
 ⟨(some 106), (some (95, false)), .bin .add (.tmp 104) (.tmp 105)⟩,
 ⟨(some 107), (some (95, false)), .call 59 [(.tmp 106)]⟩,
 ⟨(some 99), (some (95, false)), .load1 (.tmp 98)⟩,
 ⟨(some 101), (some (95, false)), .idxL 1 (.tmp 99) (.tmp 100)⟩,
 ⟨(some 102), (some (95, false)), .load1 (.tmp 101)⟩,
 ⟨(some 108), (some (95, false)), .bin .neq (.tmp 102) (.tmp 107)⟩,
 ⟨(some 109), none, .pick (.tmp 95) (.const (Value.bool true)) (.tmp 108)⟩],
 [⟨(some 82), none, .mv (.tmp 0)⟩,
 ⟨(some 83), none, .mv (.tmp 9)⟩,
 ⟨(some 84), none, .idxL 1 (.tmp 82) (.tmp 83)⟩,
 ⟨(some 86), none, .mv (.tmp 11)⟩,
 ⟨(some 89), none, .mv (.tmp 9)⟩,
 ⟨(some 90), none, .bin .mul (.tmp 89) (.const (Value.int IntKind.i64 1000))⟩,
 ⟨(some 91), none, .mv (.tmp 11)⟩,
 ⟨(some 92), none, .bin .add (.tmp 90) (.tmp 91)⟩,
 ⟨(some 93), none, .call 59 [(.tmp 92)]⟩,
 ⟨(some 85), none, .load1 (.tmp 84)⟩,
 ⟨(some 87), none, .idxL 1 (.tmp 85) (.tmp 86)⟩,
 ⟨(some 88), none, .load1 (.tmp 87)⟩,
 ⟨(some 94), none, .bin .neq (.tmp 88) (.tmp 93)⟩,
 ⟨(some 95), none, .mv (.tmp 94)⟩,
 ⟨(some 96), (some (95, false)), .mv (.tmp 5)⟩,
 ⟨(some 97), (some (95, false)), .mv (.tmp 9)⟩,
 ⟨(some 98), (some (95, false)), .idxL 1 (.tmp 96) (.tmp 97)⟩,
 ⟨(some 100), (some (95, false)), .mv (.tmp 11)⟩,
 ⟨(some 103), (some (95, false)), .mv (.tmp 9)⟩,
 ⟨(some 104), (some (95, false)), .bin .mul (.tmp 103) (.const (Value.int IntKind.i64 1000))⟩,
 ⟨(some 105), (some (95, false)), .mv (.tmp 11)⟩,
 ⟨(some 106), (some (95, false)), .bin .add (.tmp 104) (.tmp 105)⟩,
 ⟨(some 107), (some (95, false)), .call 59 [(.tmp 106)]⟩,
 ⟨(some 99), (some (95, false)), .load1 (.tmp 98)⟩,
 ⟨(some 101), (some (95, false)), .idxL 1 (.tmp 99) (.tmp 100)⟩,
 ⟨(some 102), (some (95, false)), .load1 (.tmp 101)⟩,
 ⟨(some 108), (some (95, false)), .bin .neq (.tmp 102) (.tmp 107)⟩,
 ⟨(some 109), none, .pick (.tmp 95) (.const (Value.bool true)) (.tmp 108)⟩]] [0, 5, 9, 10, 11, 96, 97, 98, 99, 100, 101, 102, 103, 104, 105, 106, 107, 108, 109])
 (.cond (.tmp 109)
 (.seq (.reg [⟨(some 2), none, .mv (.const (Value.bool false))⟩] [2])
 .ret)
 .skip)))
 (.reg [⟨(some 80), none, .mv (.tmp 11)⟩,
 ⟨(some 81), none, .bin .add (.tmp 80) (.const (Value.int IntKind.i64 1))⟩,
 ⟨(some 11), none, .mv (.tmp 81)⟩] [0, 5, 9, 10, 11, 96, 97, 98, 99, 100, 101, 102, 103, 104, 105, 106, 107, 108]))))))
 (.seq (.reg [⟨(some 12), none, .mv (.const (Value.int IntKind.i64 0))⟩] [0, 5, 9, 10, 12, 96, 97, 98, 99, 100, 101, 102, 103, 104, 105, 106, 107, 108])
 (.block 12
 (.loop
 (.seq (.seq (.reg [⟨(some 110), none, .mv (.tmp 12)⟩,
 ⟨(some 111), none, .bin .lss (.tmp 110) (.const (Value.int IntKind.i64 16))⟩] [0, 5, 9, 10, 12, 96, 97, 98, 99, 100, 101, 102, 103, 104, 105, 106, 107, 108, 111])
 (.cond (.tmp 111)
 .skip
 (.exit 12)))
 (.seq (.block 13
 (.seq (.draw [[⟨(some 114), none, .mv (.tmp 5)⟩,
 ⟨(some 115), none, .mv (.tmp 9)⟩,
 ⟨(some 116), none, .idxL 1 (.tmp 114) (.tmp 115)⟩,
 ⟨(some 117), none, .load1 (.tmp 116)⟩,
 ⟨(some 118), none, .mv (.tmp 10)⟩,
 ⟨(some 119), none, .mv (.tmp 12)⟩,
 ⟨(some 120), none, .bin .add (.tmp 118) (.tmp 119)⟩,
 ⟨(some 121), none, .idxL 1 (.tmp 117) (.tmp 120)⟩,
 ⟨(some 122), none, .load1 (.tmp 121)⟩,
 ⟨(some 123), none, .mv (.tmp 9)⟩,
 ⟨(some 124), none, .bin .sub (.const (Value.int IntKind.i64 (-1))) (.tmp 123)⟩,
 ⟨(some 125), none, .bin .mul (.tmp 124) (.const (Value.int IntKind.i64 1000))⟩,
 ⟨(some 126), none, .mv (.tmp 12)⟩,
 ⟨(some 127), none, .bin .sub (.tmp 125) (.tmp 126)⟩,
 ⟨(some 128), none, .call 59 [(.tmp 127)]⟩,
 ⟨(some 129), none, .bin .neq (.tmp 122) (.tmp 128)⟩],
 [⟨(some 114), none, .mv (.tmp 5)⟩,
 ⟨(some 115), none, .mv (.tmp 9)⟩,
 ⟨(some 116), none, .idxL 1 (.tmp 114) (.tmp 115)⟩,
 ⟨(some 117), none, .load1 (.tmp 116)⟩,
 ⟨(some 118), none, .mv (.tmp 10)⟩,
 ⟨(some 119), none, .mv (.tmp 12)⟩,
 ⟨(some 120), none, .bin .add (.tmp 118) (.tmp 119)⟩,
 ⟨(some 121), none, .idxL 1 (.tmp 117) (.tmp 120)⟩,
 ⟨(some 123), none, .mv (.tmp 9)⟩,
 ⟨(some 124), none, .bin .sub (.const (Value.int IntKind.i64 (-1))) (.tmp 123)⟩,
 ⟨(some 125), none, .bin .mul (.tmp 124) (.const (Value.int IntKind.i64 1000))⟩,
 ⟨(some 126), none, .mv (.tmp 12)⟩,
 ⟨(some 127), none, .bin .sub (.tmp 125) (.tmp 126)⟩,
 ⟨(some 128), none, .call 59 [(.tmp 127)]⟩,
 ⟨(some 122), none, .load1 (.tmp 121)⟩,
 ⟨(some 129), none, .bin .neq (.tmp 122) (.tmp 128)⟩],
 [⟨(some 114), none, .mv (.tmp 5)⟩,
 ⟨(some 115), none, .mv (.tmp 9)⟩,
 ⟨(some 116), none, .idxL 1 (.tmp 114) (.tmp 115)⟩,
 ⟨(some 118), none, .mv (.tmp 10)⟩,
 ⟨(some 119), none, .mv (.tmp 12)⟩,
 ⟨(some 120), none, .bin .add (.tmp 118) (.tmp 119)⟩,
 ⟨(some 123), none, .mv (.tmp 9)⟩,
 ⟨(some 124), none, .bin .sub (.const (Value.int IntKind.i64 (-1))) (.tmp 123)⟩,
 ⟨(some 125), none, .bin .mul (.tmp 124) (.const (Value.int IntKind.i64 1000))⟩,
 ⟨(some 126), none, .mv (.tmp 12)⟩,
 ⟨(some 127), none, .bin .sub (.tmp 125) (.tmp 126)⟩,
 ⟨(some 128), none, .call 59 [(.tmp 127)]⟩,
 ⟨(some 117), none, .load1 (.tmp 116)⟩,
 ⟨(some 121), none, .idxL 1 (.tmp 117) (.tmp 120)⟩,
 ⟨(some 122), none, .load1 (.tmp 121)⟩,
 ⟨(some 129), none, .bin .neq (.tmp 122) (.tmp 128)⟩]] [0, 5, 9, 10, 12, 96, 97, 98, 99, 100, 101, 102, 103, 104, 105, 106, 107, 108, 129])
 (.cond (.tmp 129)
 (.seq (.reg [⟨(some 2), none, .mv (.const (Value.bool false))⟩] [2])
 .ret)
 .skip)))
 (.reg [⟨(some 112), none, .mv (.tmp 12)⟩,
 ⟨(some 113), none, .bin .add (.tmp 112) (.const (Value.int IntKind.i64 1))⟩,
 ⟨(some 12), none, .mv (.tmp 113)⟩] [0, 5, 9, 10, 12, 96, 97, 98, 99, 100, 101, 102, 103, 104, 105, 106, 107, 108])))))))))
 (.reg [⟨(some 70), none, .mv (.tmp 9)⟩,
 ⟨(some 71), none, .bin .add (.tmp 70) (.const (Value.int IntKind.i64 1))⟩,
 ⟨(some 9), none, .mv (.tmp 71)⟩] [0, 5, 9, 96, 97, 98, 99, 100, 101, 102, 103, 104, 105, 106, 107, 108]))))))
 (.seq (.reg [⟨(some 2), none, .mv (.const (Value.bool true))⟩] [2])
 .ret))))))⟩
theorem low45 : lowF Try.prog (assoc kp45) (assoc od45) 45 = some F45 := by kernel_rfl

/- palaver/palaverref00.ownBits -/
def kp46 : List (Nat × List Nat) := [(0, [0, 99, 100, 101, 102, 103, 104, 105, 106, 107, 108, 109, 110, 111, 112]), (1, [0, 3, 99, 100, 101, 102, 103, 104, 105, 106, 107, 108, 109, 110, 111, 112]), (2, [0, 3, 16, 99, 100, 101, 102, 103, 104, 105, 106, 107, 108, 109, 110, 111, 112]), (3, [0, 3, 99, 100, 101, 102, 103, 104, 105, 106, 107, 108, 109, 110, 111, 112]), (4, [0, 3, 4, 99, 100, 101, 102, 103, 104, 105, 106, 107, 108, 109, 110, 111, 112]), (5, [0, 3, 4, 25, 99, 100, 101, 102, 103, 104, 105, 106, 107, 108, 109, 110, 111, 112]), (6, [0, 3, 4, 99, 100, 101, 102, 103, 104, 105, 106, 107, 108, 109, 110, 111, 112]), (7, [0, 3, 4, 99, 100, 101, 102, 103, 104, 105, 106, 107, 108, 109, 110, 111, 112]), (8, [0, 5, 99, 100, 101, 102, 103, 104, 105, 106, 107, 108, 109, 110, 111, 112]), (9, [0, 5, 6, 99, 100, 101, 102, 103, 104, 105, 106, 107, 108, 109, 110, 111, 112]), (10, [0, 5, 6, 43, 99, 100, 101, 102, 103, 104, 105, 106, 107, 108, 109, 110, 111, 112]), (11, [0, 5, 6, 99, 100, 101, 102, 103, 104, 105, 106, 107, 108, 109, 110, 111, 112]), (12, [0, 5, 6, 7, 99, 100, 101, 102, 103, 104, 105, 106, 107, 108, 109, 110, 111, 112]), (13, [0, 5, 6, 7, 8, 99, 100, 101, 102, 103, 104, 105, 106, 107, 108, 109, 110, 111, 112]), (14, [0, 5, 6, 7, 8, 51, 99, 100, 101, 102, 103, 104, 105, 106, 107, 108, 109, 110, 111, 112]), (15, [0, 5, 6, 7, 8, 99, 100, 101, 102, 103, 104, 105, 106, 107, 108, 109, 110, 111, 112]), (16, [0, 5, 6, 7, 8, 99, 100, 101, 102, 103, 104, 105, 106, 107, 108, 109, 110, 111, 112]), (17, [0, 5, 6, 99, 100, 101, 102, 103, 104, 105, 106, 107, 108, 109, 110, 111, 112]), (18, [0, 5, 9, 99, 100, 101, 102, 103, 104, 105, 106, 107, 108, 109, 110, 111, 112]), (19, [0, 5, 9, 71, 99, 100, 101, 102, 103, 104, 105, 106, 107, 108, 109, 110, 111, 112]), (20, [0, 5, 9, 99, 100, 101, 102, 103, 104, 105, 106, 107, 108, 109, 110, 111, 112]), (21, [0, 5, 9, 10, 99, 100, 101, 102, 103, 104, 105, 106, 107, 108, 109, 110, 111, 112]), (22, [0, 5, 9, 10, 11, 99, 100, 101, 102, 103, 104, 105, 106, 107, 108, 109, 110, 111, 112]), (23, [0, 5, 9, 10, 11, 81, 99, 100, 101, 102, 103, 104, 105, 106, 107, 108, 109, 110, 111, 112]), (24, [0, 5, 9, 10, 11, 99, 100, 101, 102, 103, 104, 105, 106, 107, 108, 109, 110, 111, 112]), (25, [0, 5, 9, 10, 11, 99, 100, 101, 102, 103, 104, 105, 106, 107, 108, 109, 110, 111, 112, 113]), (26, [2]), (27, [0, 5, 9, 10, 12, 99, 100, 101, 102, 103, 104, 105, 106, 107, 108, 109, 110, 111, 112]), (28, [0, 5, 9, 10, 12, 99, 100, 101, 102, 103, 104, 105, 106, 107, 108, 109, 110, 111, 112, 115]), (29, [0, 5, 9, 10, 12, 99, 100, 101, 102, 103, 104, 105, 106, 107, 108, 109, 110, 111, 112]), (30, [0, 5, 9, 10, 12, 99, 100, 101, 102, 103, 104, 105, 106, 107, 108, 109, 110, 111, 112, 134]), (31, [2]), (32, [2])]
def od46 : List (Nat × List (List Nat)) := []
def F46 : FIR := ⟨135, [.tmp 2],
 (.seq (.reg [⟨(some 2), none, .mv (.const (Value.bool false))⟩] [0, 99, 100, 101, 102, 103, 104, 105, 106, 107, 108, 109, 110, 111, 112])
 (.seq (.seq (.reg [⟨(some 3), none, .mv (.const (Value.int IntKind.i64 0))⟩] [0, 3, 99, 100, 101, 102, 103, 104, 105, 106, 107, 108, 109, 110, 111, 112])
 (.block 0
 (.loop
 (.seq (.seq (.reg [⟨(some 13), none, .mv (.tmp 3)⟩,
 ⟨(some 14), none, .mv (.tmp 0)⟩,
 ⟨(some 15), none, .lenL (.tmp 14)⟩,
 ⟨(some 16), none, .bin .lss (.tmp 13) (.tmp 15)⟩] [0, 3, 16, 99, 100, 101, 102, 103, 104, 105, 106, 107, 108, 109, 110, 111, 112])
 (.cond (.tmp 16)
 .skip
 (.exit 0)))
 (.seq (.block 1
 (.seq (.reg [⟨(some 4), none, .mv (.const (Value.int IntKind.i64 0))⟩] [0, 3, 4, 99, 100, 101, 102, 103, 104, 105, 106, 107, 108, 109, 110, 111, 112])
 (.block 2
 (.loop
 (.seq (.seq (.reg [⟨(some 19), none, .mv (.tmp 4)⟩,
 ⟨(some 20), none, .mv (.tmp 0)⟩,
 ⟨(some 21), none, .mv (.tmp 3)⟩,
 ⟨(some 22), none, .idxL 1 (.tmp 20) (.tmp 21)⟩,
 ⟨(some 23), none, .load1 (.tmp 22)⟩,
 ⟨(some 24), none, .lenL (.tmp 23)⟩,
 ⟨(some 25), none, .bin .lss (.tmp 19) (.tmp 24)⟩] [0, 3, 4, 25, 99, 100, 101, 102, 103, 104, 105, 106, 107, 108, 109, 110, 111, 112])
 (.cond (.tmp 25)
 .skip
 (.exit 2)))
 (.seq (.block 3
 (.reg [⟨(some 28), none, .mv (.tmp 0)⟩,
 ⟨(some 29), none, .mv (.tmp 3)⟩,
 ⟨(some 30), none, .idxL 1 (.tmp 28) (.tmp 29)⟩,
 ⟨(some 31), none, .load1 (.tmp 30)⟩,
 ⟨(some 32), none, .mv (.tmp 4)⟩,
 ⟨(some 33), none, .mv (.tmp 3)⟩,
 ⟨(some 34), none, .bin .mul (.tmp 33) (.const (Value.int IntKind.i64 1000))⟩,
 ⟨(some 35), none, .mv (.tmp 4)⟩,
 ⟨(some 36), none, .bin .add (.tmp 34) (.tmp 35)⟩,
 ⟨(some 37), none, .bin .add (.tmp 36) (.const (Value.int IntKind.i64 9000000))⟩,
 ⟨(some 38), none, .conv .u32 (.tmp 37)⟩,
 ⟨(some 39), none, .idxL 1 (.tmp 31) (.tmp 32)⟩,
 ⟨none, none, .store 1 (.tmp 39) (.tmp 38)⟩] [0, 3, 4, 99, 100, 101, 102, 103, 104, 105, 106, 107, 108, 109, 110, 111, 112]))
 (.reg [⟨(some 26), none, .mv (.tmp 4)⟩,
 ⟨(some 27), none, .bin .add (.tmp 26) (.const (Value.int IntKind.i64 1))⟩,
 ⟨(some 4), none, .mv (.tmp 27)⟩] [0, 3, 4, 99, 100, 101, 102, 103, 104, 105, 106, 107, 108, 109, 110, 111, 112])))))))
 (.reg [⟨(some 17), none, .mv (.tmp 3)⟩,
 ⟨(some 18), none, .bin .add (.tmp 17) (.const (Value.int IntKind.i64 1))⟩,
 ⟨(some 3), none, .mv (.tmp 18)⟩] [0, 3, 99, 100, 101, 102, 103, 104, 105, 106, 107, 108, 109, 110, 111, 112]))))))
 (.seq (.reg [⟨(some 5), none, .mv (.const (Value.slice none 0 0))⟩] [0, 5, 99, 100, 101, 102, 103, 104, 105, 106, 107, 108, 109, 110, 111, 112])
 (.seq (.seq (.reg [⟨(some 6), none, .mv (.const (Value.int IntKind.i64 0))⟩] [0, 5, 6, 99, 100, 101, 102, 103, 104, 105, 106, 107, 108, 109, 110, 111, 112])
 (.block 4
 (.loop
 (.seq (.seq (.reg [⟨(some 40), none, .mv (.tmp 6)⟩,
 ⟨(some 41), none, .mv (.tmp 0)⟩,
 ⟨(some 42), none, .lenL (.tmp 41)⟩,
 ⟨(some 43), none, .bin .lss (.tmp 40) (.tmp 42)⟩] [0, 5, 6, 43, 99, 100, 101, 102, 103, 104, 105, 106, 107, 108, 109, 110, 111, 112])
 (.cond (.tmp 43)
 .skip
 (.exit 4)))
 (.seq (.block 5
 (.seq (.reg [⟨(some 46), none, .mv (.tmp 0)⟩,
 ⟨(some 47), none, .mv (.tmp 6)⟩,
 ⟨(some 48), none, .idxL 1 (.tmp 46) (.tmp 47)⟩,
 ⟨(some 49), none, .load1 (.tmp 48)⟩,
 ⟨(some 7), none, .mv (.tmp 49)⟩] [0, 5, 6, 7, 99, 100, 101, 102, 103, 104, 105, 106, 107, 108, 109, 110, 111, 112])
 (.seq (.seq (.reg [⟨(some 8), none, .mv (.const (Value.int IntKind.i64 0))⟩] [0, 5, 6, 7, 8, 99, 100, 101, 102, 103, 104, 105, 106, 107, 108, 109, 110, 111, 112])
 (.block 6
 (.loop
 (.seq (.seq (.reg [⟨(some 50), none, .mv (.tmp 8)⟩,
 ⟨(some 51), none, .bin .lss (.tmp 50) (.const (Value.int IntKind.i64 16))⟩] [0, 5, 6, 7, 8, 51, 99, 100, 101, 102, 103, 104, 105, 106, 107, 108, 109, 110, 111, 112])
 (.cond (.tmp 51)
 .skip
 (.exit 6)))
 (.seq (.block 7
 (.reg [⟨(some 54), none, .mv (.tmp 7)⟩,
 ⟨(some 55), none, .mv (.tmp 6)⟩,
 ⟨(some 56), none, .bin .sub (.const (Value.int IntKind.i64 (-1))) (.tmp 55)⟩,
 ⟨(some 57), none, .bin .mul (.tmp 56) (.const (Value.int IntKind.i64 1000))⟩,
 ⟨(some 58), none, .mv (.tmp 8)⟩,
 ⟨(some 59), none, .bin .sub (.tmp 57) (.tmp 58)⟩,
 ⟨(some 60), none, .bin .add (.tmp 59) (.const (Value.int IntKind.i64 9000000))⟩,
 ⟨(some 61), none, .conv .u32 (.tmp 60)⟩,
 ⟨(some 62), none, .bslice 32 1 [(Value.int IntKind.u32 0)] [(0, 1, (.tmp 61))]⟩,
 ⟨(some 63), none, .append 32 1 4 [(Value.int IntKind.u32 0)] (.tmp 54) (.tmp 62)⟩,
 ⟨(some 7), none, .mv (.tmp 63)⟩] [0, 5, 6, 7, 8, 99, 100, 101, 102, 103, 104, 105, 106, 107, 108, 109, 110, 111, 112]))
 (.reg [⟨(some 52), none, .mv (.tmp 8)⟩,
 ⟨(some 53), none, .bin .add (.tmp 52) (.const (Value.int IntKind.i64 1))⟩,
 ⟨(some 8), none, .mv (.tmp 53)⟩] [0, 5, 6, 7, 8, 99, 100, 101, 102, 103, 104, 105, 106, 107, 108, 109, 110, 111, 112]))))))
 (.reg [⟨(some 64), none, .mv (.tmp 5)⟩,
 ⟨(some 65), none, .mv (.tmp 7)⟩,
 ⟨(some 66), none, .bslice 134 1 [(Value.slice none 0 0)] [(0, 1, (.tmp 65))]⟩,
 ⟨(some 67), none, .append 134 1 24 [(Value.slice none 0 0)] (.tmp 64) (.tmp 66)⟩,
 ⟨(some 5), none, .mv (.tmp 67)⟩] [0, 5, 6, 99, 100, 101, 102, 103, 104, 105, 106, 107, 108, 109, 110, 111, 112]))))
 (.reg [⟨(some 44), none, .mv (.tmp 6)⟩,
 ⟨(some 45), none, .bin .add (.tmp 44) (.const (Value.int IntKind.i64 1))⟩,
 ⟨(some 6), none, .mv (.tmp 45)⟩] [0, 5, 6, 99, 100, 101, 102, 103, 104, 105, 106, 107, 108, 109, 110, 111, 112]))))))
 (.seq (.seq (.reg [⟨(some 9), none, .mv (.const (Value.int IntKind.i64 0))⟩] [0, 5, 9, 99, 100, 101, 102, 103, 104, 105, 106, 107, 108, 109, 110, 111, 112])
 (.block 8
 (.loop
 (.seq (.seq (.reg [⟨(some 68), none, .mv (.tmp 9)⟩,
 ⟨(some 69), none, .mv (.tmp 0)⟩,
 ⟨(some 70), none, .lenL (.tmp 69)⟩,
 ⟨(some 71), none, .bin .lss (.tmp 68) (.tmp 70)⟩] [0, 5, 9, 71, 99, 100, 101, 102, 103, 104, 105, 106, 107, 108, 109, 110, 111, 112])
 (.cond (.tmp 71)
 .skip
 (.exit 8)))
 (.seq (.block 9
 (.seq (.reg [⟨(some 74), none, .mv (.tmp 0)⟩,
 ⟨(some 75), none, .mv (.tmp 9)⟩,
 ⟨(some 76), none, .idxL 1 (.tmp 74) (.tmp 75)⟩,
 ⟨(some 77), none, .load1 (.tmp 76)⟩,
 ⟨(some 78), none, .lenL (.tmp 77)⟩,
 ⟨(some 10), none, .mv (.tmp 78)⟩] [0, 5, 9, 10, 99, 100, 101, 102, 103, 104, 105, 106, 107, 108, 109, 110, 111, 112])
 (.seq (.seq (.reg [⟨(some 11), none, .mv (.const (Value.int IntKind.i64 0))⟩] [0, 5, 9, 10, 11, 99, 100, 101, 102, 103, 104, 105, 106, 107, 108, 109, 110, 111, 112])
 (.block 10
 (.loop
 (.seq (.seq (.reg [⟨(some 79), none, .mv (.tmp 11)⟩,
 ⟨(some 80), none, .mv (.tmp 10)⟩,
 ⟨(some 81), none, .bin .lss (.tmp 79) (.tmp 80)⟩] [0, 5, 9, 10, 11, 81, 99, 100, 101, 102, 103, 104, 105, 106, 107, 108, 109, 110, 111, 112])
 (.cond (.tmp 81)
 .skip
 (.exit 10)))
 (.seq (.block 11
 (.seq (.reg [⟨(some 84), none, .mv (.tmp 0)⟩,
 ⟨(some 85), none, .mv (.tmp 9)⟩,
 ⟨(some 86), none, .idxL 1 (.tmp 84) (.tmp 85)⟩,
 ⟨(some 87), none, .load1 (.tmp 86)⟩,
 ⟨(some 88), none, .mv (.tmp 11)⟩,
 ⟨(some 89), none, .idxL 1 (.tmp 87) (.tmp 88)⟩,
 ⟨(some 90), none, .load1 (.tmp 89)⟩,
 ⟨(some 91), none, .mv (.tmp 9)⟩,
 ⟨(some 92), none, .bin .mul (.tmp 91) (.const (Value.int IntKind.i64 1000))⟩,
 ⟨(some 93), none, .mv (.tmp 11)⟩,
 ⟨(some 94), none, .bin .add (.tmp 92) (.tmp 93)⟩,
 ⟨(some 95), none, .bin .add (.tmp 94) (.const (Value.int IntKind.i64 9000000))⟩,
 ⟨(some 96), none, .conv .u32 (.tmp 95)⟩,
 ⟨(some 97), none, .bin .neq (.tmp 90) (.tmp 96)⟩,
 ⟨(some 98), none, .mv (.tmp 97)⟩,
 ⟨(some 99), (some (98, false)), .mv (.tmp 5)⟩,
 ⟨(some 100), (some (98, false)), .mv (.tmp 9)⟩,
 ⟨(some 101), (some (98, false)), .idxL 1 (.tmp 99) (.tmp 100)⟩,
 ⟨(some 102), (some (98, false)), .load1 (.tmp 101)⟩,
 ⟨(some 103), (some (98, false)), .mv (.tmp 11)⟩,
 ⟨(some 104), (some (98, false)), .idxL 1 (.tmp 102) (.tmp 103)⟩,
 ⟨(some 105), (some (98, false)), .load1 (.tmp 104)⟩,
 ⟨(some 106), (some (98, false)), .mv (.tmp 9)⟩,
 ⟨(some 107), (some (98, false)), .bin .mul (.tmp 106) (.const (Value.int IntKind.i64 1000))⟩,
 ⟨(some 108), (some (98, false)), .mv (.tmp 11)⟩,
 ⟨(some 109), (some (98, false)), .bin .add (.tmp 107) (.tmp 108)⟩,
 ⟨(some 110), (some (98, false)), .bin .add (.tmp 109) (.const (Value.int IntKind.i64 9000000))⟩,
 ⟨(some 111), (some (98, false)), .conv .u32 (.tmp 110)⟩,
 ⟨(some 112), (some (98, false)), .bin .neq (.tmp 105) (.tmp 111)⟩,
 ⟨(some 113), none, .pick (.tmp 98) (.const (Value.bool true)) (.tmp 112)⟩] [0, 5, 9, 10, 11, 99, 100, 101, 102, 103, 104, 105, 106, 107, 108, 109, 110, 111, 112, 113])
 (.cond (.tmp 113)
 (.seq (.reg [⟨(some 2), none, .mv (.const (Value.bool false))⟩] [2])
 .ret)
 .skip)))
 (.reg [⟨(some 82), none, .mv (.tmp 11)⟩,
 ⟨(some 83), none, .bin .add (.tmp 82) (.const (Value.int IntKind.i64 1))⟩,
 ⟨(some 11), none, .mv (.tmp 83)⟩] [0, 5, 9, 10, 11, 99, 100, 101, 102, 103, 104, 105, 106, 107, 108, 109, 110, 111, 112]))))))
 (.seq (.reg [⟨(some 12), none, .mv (.const (Value.int IntKind.i64 0))⟩] [0, 5, 9, 10, 12, 99, 100, 101, 102, 103, 104, 105, 106, 107, 108, 109, 110, 111, 112])
 (.block 12
 (.loop
 (.seq (.seq (.reg [⟨(some 114), none, .mv (.tmp 12)⟩,
 ⟨(some 115), none, .bin .lss (.tmp 114) (.const (Value.int IntKind.i64 16))⟩] [0, 5, 9, 10, 12, 99, 100, 101, 102, 103, 104, 105, 106, 107, 108, 109, 110, 111, 112, 115])
 (.cond (.tmp 115)
 .skip
 (.exit 12)))
 (.seq (.block 13
 (.seq (.reg [⟨(some 118), none, .mv (.tmp 5)⟩,
 ⟨(some 119), none, .mv (.tmp 9)⟩,
 ⟨(some 120), none, .idxL 1 (.tmp 118) (.tmp 119)⟩,
 ⟨(some 121), none, .load1 (.tmp 120)⟩,
 ⟨(some 122), none, .mv (.tmp 10)⟩,
 ⟨(some 123), none, .mv (.tmp 12)⟩,
 ⟨(some 124), none, .bin .add (.tmp 122) (.tmp 123)⟩,
 ⟨(some 125), none, .idxL 1 (.tmp 121) (.tmp 124)⟩,
 ⟨(some 126), none, .load1 (.tmp 125)⟩,
 ⟨(some 127), none, .mv (.tmp 9)⟩,
 ⟨(some 128), none, .bin .sub (.const (Value.int IntKind.i64 (-1))) (.tmp 127)⟩,
 ⟨(some 129), none, .bin .mul (.tmp 128) (.const (Value.int IntKind.i64 1000))⟩,
 ⟨(some 130), none, .mv (.tmp 12)⟩,
 ⟨(some 131), none, .bin .sub (.tmp 129) (.tmp 130)⟩,
 ⟨(some 132), none, .bin .add (.tmp 131) (.const (Value.int IntKind.i64 9000000))⟩,
 ⟨(some 133), none, .conv .u32 (.tmp 132)⟩,
 ⟨(some 134), none, .bin .neq (.tmp 126) (.tmp 133)⟩] [0, 5, 9, 10, 12, 99, 100, 101, 102, 103, 104, 105, 106, 107, 108, 109, 110, 111, 112, 134])
 (.cond (.tmp 134)
 (.seq (.reg [⟨(some 2), none, .mv (.const (Value.bool false))⟩] [2])
 .ret)
 .skip)))
 (.reg [⟨(some 116), none, .mv (.tmp 12)⟩,
 ⟨(some 117), none, .bin .add (.tmp 116) (.const (Value.int IntKind.i64 1))⟩,
 ⟨(some 12), none, .mv (.tmp 117)⟩] [0, 5, 9, 10, 12, 99, 100, 101, 102, 103, 104, 105, 106, 107, 108, 109, 110, 111, 112])))))))))
 (.reg [⟨(some 72), none, .mv (.tmp 9)⟩,
 ⟨(some 73), none, .bin .add (.tmp 72) (.const (Value.int IntKind.i64 1))⟩,
 ⟨(some 9), none, .mv (.tmp 73)⟩] [0, 5, 9, 99, 100, 101, 102, 103, 104, 105, 106, 107, 108, 109, 110, 111, 112]))))))
 (.seq (.reg [⟨(some 2), none, .mv (.const (Value.bool true))⟩] [2])
 .ret))))))⟩
theorem low46 : lowF Try.prog (assoc kp46) (assoc od46) 46 = some F46 := by kernel_rfl

end Go.Proofs.Ytffmipimgodfdaa

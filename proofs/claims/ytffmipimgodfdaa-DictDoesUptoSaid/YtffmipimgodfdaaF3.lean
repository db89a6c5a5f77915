/-
 The code of functions, as terms: printed by a program, proved to be what the seat has.
-/
import Derived.Test.YtffmipimgodfdaaWM
import Derived.KernelRfl
import Derived.Test.YtffmipimgodfdaaProg
set_option linter.unusedSimpArgs false
set_option linter.unusedVariables false
namespace Go.Proofs.Ytffmipimgodfdaa
open Go Go.V
set_option maxRecDepth 100000
/- palaver/palaverlaw22.does -/
def kp19 : List (Nat × List Nat) := [(0, [0, 1, 3, 6, 97, 98, 99, 125, 126, 127, 153, 154, 155, 187, 188, 189, 192, 193, 194]), (1, [0, 1, 3, 6, 34, 97, 98, 99, 125, 126, 127, 153, 154, 155, 187, 188, 189, 192, 193, 194]), (2, [0, 1, 3, 6, 34, 35, 97, 98, 99, 125, 126, 127, 153, 154, 155, 187, 188, 189, 192, 193, 194]), (3, [1, 6, 9]), (4, [9, 10]), (5, [8]), (6, [0, 1, 3, 6, 34, 56, 97, 98, 99, 125, 126, 127, 153, 154, 155, 187, 188, 189, 192, 193, 194]), (7, [1, 6, 11]), (8, [11, 12]), (9, [8]), (10, [0, 1, 3, 6, 34, 73, 97, 98, 99, 125, 126, 127, 153, 154, 155, 187, 188, 189, 192, 193, 194]), (11, [1, 6, 13, 14, 97, 98, 99]), (12, [13, 14, 15, 16, 97, 98, 99]), (13, [8]), (14, [0, 1, 3, 6, 34, 101, 125, 126, 127, 153, 154, 155, 187, 188, 189, 192, 193, 194]), (15, [1, 3, 6, 17, 18, 125, 126, 127]), (16, [3, 17, 18, 19, 20, 125, 126, 127]), (17, [3, 17, 18, 20, 21, 125, 126, 127]), (18, [18, 20, 21, 125, 126, 127]), (19, [8]), (20, [0, 1, 6, 34, 129, 153, 154, 155, 187, 188, 189, 192, 193, 194]), (21, [1, 6, 22, 23, 153, 154, 155]), (22, [22, 23, 24, 25, 153, 154, 155]), (23, [8]), (24, [0, 1, 6, 34, 157, 187, 188, 189, 192, 193, 194]), (25, [1, 6, 26, 27, 28, 187, 188, 189, 192, 193, 194]), (26, [26, 27, 28, 29, 30, 31, 187, 188, 189, 192, 193, 194]), (27, [8]), (28, [0, 1, 196]), (29, [1]), (30, []), (31, [8]), (32, [1, 32]), (33, [8])]
def od19 : List (Nat × List (List Nat)) := [(33, [[0, 1, 2, 3, 4, 5, 6]])]
def F19 : FIR := ⟨210, [.tmp 8],
 (.seq (.reg [⟨(some 6), none, .box 30 (.tmp 2)⟩,
 ⟨(some 8), none, .mv (.const (Value.bool false))⟩] [0, 1, 3, 6, 97, 98, 99, 125, 126, 127, 153, 154, 155, 187, 188, 189, 192, 193, 194])
 (.seq (.seq (.reg [⟨(some 33), none, .fld 0 (.tmp 6)⟩,
 ⟨(some 34), none, .load1 (.tmp 33)⟩] [0, 1, 3, 6, 34, 97, 98, 99, 125, 126, 127, 153, 154, 155, 187, 188, 189, 192, 193, 194])
 (.block 0
 (.seq (.reg [⟨(some 36), none, .bin .eql (.tmp 34) (.const (Value.int IntKind.i64 1))⟩,
 ⟨(some 35), none, .mv (.tmp 36)⟩] [0, 1, 3, 6, 34, 35, 97, 98, 99, 125, 126, 127, 153, 154, 155, 187, 188, 189, 192, 193, 194])
 (.cond (.tmp 35)
 (.seq (.reg [⟨(some 37), none, .mv (.tmp 0)⟩,
 ⟨(some 38), none, .fld 1 (.tmp 6)⟩,
 ⟨(some 39), none, .load1 (.tmp 38)⟩,
 ⟨(some 40), none, .fld 2 (.tmp 6)⟩,
 ⟨(some 41), none, .load1 (.tmp 40)⟩,
 ⟨(some 42), none, .fld 3 (.tmp 6)⟩,
 ⟨(some 43), none, .load1 (.tmp 42)⟩,
 ⟨(some 44), none, .call 21 [(.tmp 37), (.tmp 39), (.tmp 41), (.tmp 43)]⟩,
 ⟨(some 9), none, .mv (.tmp 44)⟩] [1, 6, 9])
 (.seq (.reg [⟨(some 45), none, .mv (.tmp 1)⟩,
 ⟨(some 46), none, .fld 1 (.tmp 6)⟩,
 ⟨(some 47), none, .load1 (.tmp 46)⟩,
 ⟨(some 48), none, .fld 2 (.tmp 6)⟩,
 ⟨(some 49), none, .load1 (.tmp 48)⟩,
 ⟨(some 50), none, .fld 3 (.tmp 6)⟩,
 ⟨(some 51), none, .load1 (.tmp 50)⟩,
 ⟨(some 52), none, .call 30 [(.tmp 45), (.tmp 47), (.tmp 49), (.tmp 51)]⟩,
 ⟨(some 10), none, .mv (.tmp 52)⟩] [9, 10])
 (.seq (.reg [⟨(some 53), none, .mv (.tmp 9)⟩,
 ⟨(some 54), none, .mv (.tmp 10)⟩,
 ⟨(some 55), none, .bin .eql (.tmp 53) (.tmp 54)⟩,
 ⟨(some 8), none, .mv (.tmp 55)⟩] [8])
 .ret)))
 (.seq (.reg [⟨(some 57), none, .bin .eql (.tmp 34) (.const (Value.int IntKind.i64 2))⟩,
 ⟨(some 56), none, .mv (.tmp 57)⟩] [0, 1, 3, 6, 34, 56, 97, 98, 99, 125, 126, 127, 153, 154, 155, 187, 188, 189, 192, 193, 194])
 (.cond (.tmp 56)
 (.seq (.reg [⟨(some 58), none, .mv (.tmp 0)⟩,
 ⟨(some 59), none, .fld 1 (.tmp 6)⟩,
 ⟨(some 60), none, .load1 (.tmp 59)⟩,
 ⟨(some 61), none, .fld 2 (.tmp 6)⟩,
 ⟨(some 62), none, .load1 (.tmp 61)⟩,
 ⟨(some 63), none, .call 22 [(.tmp 58), (.tmp 60), (.tmp 62)]⟩,
 ⟨(some 11), none, .mv (.tmp 63)⟩] [1, 6, 11])
 (.seq (.reg [⟨(some 64), none, .mv (.tmp 1)⟩,
 ⟨(some 65), none, .fld 1 (.tmp 6)⟩,
 ⟨(some 66), none, .load1 (.tmp 65)⟩,
 ⟨(some 67), none, .fld 2 (.tmp 6)⟩,
 ⟨(some 68), none, .load1 (.tmp 67)⟩,
 ⟨(some 69), none, .call 31 [(.tmp 64), (.tmp 66), (.tmp 68)]⟩,
 ⟨(some 12), none, .mv (.tmp 69)⟩] [11, 12])
 (.seq (.reg [⟨(some 70), none, .mv (.tmp 11)⟩,
 ⟨(some 71), none, .mv (.tmp 12)⟩,
 ⟨(some 72), none, .bin .eql (.tmp 70) (.tmp 71)⟩,
 ⟨(some 8), none, .mv (.tmp 72)⟩] [8])
 .ret)))
 (.seq (.reg [⟨(some 74), none, .bin .eql (.tmp 34) (.const (Value.int IntKind.i64 3))⟩,
 ⟨(some 73), none, .mv (.tmp 74)⟩] [0, 1, 3, 6, 34, 73, 97, 98, 99, 125, 126, 127, 153, 154, 155, 187, 188, 189, 192, 193, 194])
 (.cond (.tmp 73)
 (.seq (.reg [⟨(some 76), none, .mv (.tmp 0)⟩,
 ⟨(some 77), none, .fld 1 (.tmp 6)⟩,
 ⟨(some 78), none, .load1 (.tmp 77)⟩,
 ⟨(some 79), none, .fld 2 (.tmp 6)⟩,
 ⟨(some 80), none, .load1 (.tmp 79)⟩,
 ⟨(some 81), none, .call 14 [(.tmp 76), (.tmp 78), (.tmp 80)]⟩,
 ⟨(some 75), none, .mv (.tmp 81)⟩,
 ⟨(some 82), none, .ext (.tmp 75) 0⟩,
 ⟨(some 83), none, .ext (.tmp 75) 1⟩,
 ⟨(some 13), none, .mv (.tmp 82)⟩,
 ⟨(some 14), none, .mv (.tmp 83)⟩] [1, 6, 13, 14, 97, 98, 99])
 (.seq (.reg [⟨(some 85), none, .mv (.tmp 1)⟩,
 ⟨(some 86), none, .fld 1 (.tmp 6)⟩,
 ⟨(some 87), none, .load1 (.tmp 86)⟩,
 ⟨(some 88), none, .fld 2 (.tmp 6)⟩,
 ⟨(some 89), none, .load1 (.tmp 88)⟩,
 ⟨(some 90), none, .call 32 [(.tmp 85), (.tmp 87), (.tmp 89)]⟩,
 ⟨(some 84), none, .mv (.tmp 90)⟩,
 ⟨(some 91), none, .ext (.tmp 84) 0⟩,
 ⟨(some 92), none, .ext (.tmp 84) 1⟩,
 ⟨(some 15), none, .mv (.tmp 91)⟩,
 ⟨(some 16), none, .mv (.tmp 92)⟩] [13, 14, 15, 16, 97, 98, 99])
 (.seq (.reg [⟨(some 93), none, .mv (.tmp 13)⟩,
 ⟨(some 94), none, .mv (.tmp 15)⟩,
 ⟨(some 95), none, .bin .eql (.tmp 93) (.tmp 94)⟩,
 ⟨(some 96), none, .mv (.tmp 95)⟩,
 ⟨(some 97), (some (96, true)), .mv (.tmp 14)⟩,
 ⟨(some 98), (some (96, true)), .mv (.tmp 16)⟩,
 ⟨(some 99), (some (96, true)), .eqb false (.tmp 97) (.tmp 98)⟩,
 ⟨(some 100), none, .pick (.tmp 96) (.tmp 99) (.const (Value.bool false))⟩,
 ⟨(some 8), none, .mv (.tmp 100)⟩] [8])
 .ret)))
 (.seq (.reg [⟨(some 102), none, .bin .eql (.tmp 34) (.const (Value.int IntKind.i64 4))⟩,
 ⟨(some 101), none, .mv (.tmp 102)⟩] [0, 1, 3, 6, 34, 101, 125, 126, 127, 153, 154, 155, 187, 188, 189, 192, 193, 194])
 (.cond (.tmp 101)
 (.seq (.reg [⟨(some 104), none, .mv (.tmp 0)⟩,
 ⟨(some 105), none, .fld 1 (.tmp 6)⟩,
 ⟨(some 106), none, .load1 (.tmp 105)⟩,
 ⟨(some 107), none, .call 33 [(.tmp 104), (.tmp 106)]⟩,
 ⟨(some 103), none, .mv (.tmp 107)⟩,
 ⟨(some 108), none, .ext (.tmp 103) 0⟩,
 ⟨(some 109), none, .ext (.tmp 103) 1⟩,
 ⟨(some 17), none, .mv (.tmp 108)⟩,
 ⟨(some 18), none, .mv (.tmp 109)⟩] [1, 3, 6, 17, 18, 125, 126, 127])
 (.seq (.reg [⟨(some 111), none, .mv (.tmp 1)⟩,
 ⟨(some 112), none, .fld 1 (.tmp 6)⟩,
 ⟨(some 113), none, .load1 (.tmp 112)⟩,
 ⟨(some 114), none, .call 34 [(.tmp 111), (.tmp 113)]⟩,
 ⟨(some 110), none, .mv (.tmp 114)⟩,
 ⟨(some 115), none, .ext (.tmp 110) 0⟩,
 ⟨(some 116), none, .ext (.tmp 110) 1⟩,
 ⟨(some 19), none, .mv (.tmp 115)⟩,
 ⟨(some 20), none, .mv (.tmp 116)⟩] [3, 17, 18, 19, 20, 125, 126, 127])
 (.seq (.reg [⟨(some 117), none, .mv (.tmp 17)⟩,
 ⟨(some 118), none, .mv (.tmp 19)⟩,
 ⟨(some 119), none, .call 35 [(.tmp 117), (.tmp 118)]⟩,
 ⟨(some 21), none, .mv (.tmp 119)⟩] [3, 17, 18, 20, 21, 125, 126, 127])
 (.seq (.reg [⟨(some 120), none, .mv (.tmp 3)⟩,
 ⟨(some 121), none, .mv (.tmp 17)⟩,
 ⟨(some 122), none, .call 36 [(.tmp 120), (.tmp 121)]⟩] [18, 20, 21, 125, 126, 127])
 (.seq (.reg [⟨(some 123), none, .mv (.tmp 21)⟩,
 ⟨(some 124), none, .mv (.tmp 123)⟩,
 ⟨(some 125), (some (124, true)), .mv (.tmp 18)⟩,
 ⟨(some 126), (some (124, true)), .mv (.tmp 20)⟩,
 ⟨(some 127), (some (124, true)), .bin .eql (.tmp 125) (.tmp 126)⟩,
 ⟨(some 128), none, .pick (.tmp 124) (.tmp 127) (.const (Value.bool false))⟩,
 ⟨(some 8), none, .mv (.tmp 128)⟩] [8])
 .ret)))))
 (.seq (.reg [⟨(some 130), none, .bin .eql (.tmp 34) (.const (Value.int IntKind.i64 5))⟩,
 ⟨(some 129), none, .mv (.tmp 130)⟩] [0, 1, 6, 34, 129, 153, 154, 155, 187, 188, 189, 192, 193, 194])
 (.cond (.tmp 129)
 (.seq (.reg [⟨(some 132), none, .mv (.tmp 0)⟩,
 ⟨(some 133), none, .fld 1 (.tmp 6)⟩,
 ⟨(some 134), none, .load1 (.tmp 133)⟩,
 ⟨(some 135), none, .fld 2 (.tmp 6)⟩,
 ⟨(some 136), none, .load1 (.tmp 135)⟩,
 ⟨(some 137), none, .call 13 [(.tmp 132), (.tmp 134), (.tmp 136)]⟩,
 ⟨(some 131), none, .mv (.tmp 137)⟩,
 ⟨(some 138), none, .ext (.tmp 131) 0⟩,
 ⟨(some 139), none, .ext (.tmp 131) 1⟩,
 ⟨(some 22), none, .mv (.tmp 138)⟩,
 ⟨(some 23), none, .mv (.tmp 139)⟩] [1, 6, 22, 23, 153, 154, 155])
 (.seq (.reg [⟨(some 141), none, .mv (.tmp 1)⟩,
 ⟨(some 142), none, .fld 1 (.tmp 6)⟩,
 ⟨(some 143), none, .load1 (.tmp 142)⟩,
 ⟨(some 144), none, .fld 2 (.tmp 6)⟩,
 ⟨(some 145), none, .load1 (.tmp 144)⟩,
 ⟨(some 146), none, .call 37 [(.tmp 141), (.tmp 143), (.tmp 145)]⟩,
 ⟨(some 140), none, .mv (.tmp 146)⟩,
 ⟨(some 147), none, .ext (.tmp 140) 0⟩,
 ⟨(some 148), none, .ext (.tmp 140) 1⟩,
 ⟨(some 24), none, .mv (.tmp 147)⟩,
 ⟨(some 25), none, .mv (.tmp 148)⟩] [22, 23, 24, 25, 153, 154, 155])
 (.seq (.reg [⟨(some 149), none, .mv (.tmp 22)⟩,
 ⟨(some 150), none, .mv (.tmp 24)⟩,
 ⟨(some 151), none, .bin .eql (.tmp 149) (.tmp 150)⟩,
 ⟨(some 152), none, .mv (.tmp 151)⟩,
 ⟨(some 153), (some (152, true)), .mv (.tmp 23)⟩,
 ⟨(some 154), (some (152, true)), .mv (.tmp 25)⟩,
 ⟨(some 155), (some (152, true)), .eqb false (.tmp 153) (.tmp 154)⟩,
 ⟨(some 156), none, .pick (.tmp 152) (.tmp 155) (.const (Value.bool false))⟩,
 ⟨(some 8), none, .mv (.tmp 156)⟩] [8])
 .ret)))
 (.seq (.reg [⟨(some 158), none, .bin .eql (.tmp 34) (.const (Value.int IntKind.i64 6))⟩,
 ⟨(some 157), none, .mv (.tmp 158)⟩] [0, 1, 6, 34, 157, 187, 188, 189, 192, 193, 194])
 (.cond (.tmp 157)
 (.seq (.reg [⟨(some 160), none, .mv (.tmp 0)⟩,
 ⟨(some 161), none, .fld 4 (.tmp 6)⟩,
 ⟨(some 162), none, .load1 (.tmp 161)⟩,
 ⟨(some 163), none, .fld 1 (.tmp 6)⟩,
 ⟨(some 164), none, .load1 (.tmp 163)⟩,
 ⟨(some 165), none, .fld 2 (.tmp 6)⟩,
 ⟨(some 166), none, .load1 (.tmp 165)⟩,
 ⟨(some 167), none, .call 10 [(.tmp 160), (.tmp 162), (.tmp 164), (.tmp 166)]⟩,
 ⟨(some 159), none, .mv (.tmp 167)⟩,
 ⟨(some 168), none, .ext (.tmp 159) 0⟩,
 ⟨(some 169), none, .ext (.tmp 159) 1⟩,
 ⟨(some 170), none, .ext (.tmp 159) 2⟩,
 ⟨(some 26), none, .mv (.tmp 168)⟩,
 ⟨(some 27), none, .mv (.tmp 169)⟩,
 ⟨(some 28), none, .mv (.tmp 170)⟩] [1, 6, 26, 27, 28, 187, 188, 189, 192, 193, 194])
 (.seq (.reg [⟨(some 172), none, .mv (.tmp 1)⟩,
 ⟨(some 173), none, .fld 4 (.tmp 6)⟩,
 ⟨(some 174), none, .load1 (.tmp 173)⟩,
 ⟨(some 175), none, .fld 1 (.tmp 6)⟩,
 ⟨(some 176), none, .load1 (.tmp 175)⟩,
 ⟨(some 177), none, .fld 2 (.tmp 6)⟩,
 ⟨(some 178), none, .load1 (.tmp 177)⟩,
 ⟨(some 179), none, .call 38 [(.tmp 172), (.tmp 174), (.tmp 176), (.tmp 178)]⟩,
 ⟨(some 171), none, .mv (.tmp 179)⟩,
 ⟨(some 180), none, .ext (.tmp 171) 0⟩,
 ⟨(some 181), none, .ext (.tmp 171) 1⟩,
 ⟨(some 182), none, .ext (.tmp 171) 2⟩,
 ⟨(some 29), none, .mv (.tmp 180)⟩,
 ⟨(some 30), none, .mv (.tmp 181)⟩,
 ⟨(some 31), none, .mv (.tmp 182)⟩] [26, 27, 28, 29, 30, 31, 187, 188, 189, 192, 193, 194])
 (.seq (.reg [⟨(some 183), none, .mv (.tmp 26)⟩,
 ⟨(some 184), none, .mv (.tmp 29)⟩,
 ⟨(some 185), none, .bin .eql (.tmp 183) (.tmp 184)⟩,
 ⟨(some 186), none, .mv (.tmp 185)⟩,
 ⟨(some 187), (some (186, true)), .mv (.tmp 27)⟩,
 ⟨(some 188), (some (186, true)), .mv (.tmp 30)⟩,
 ⟨(some 189), (some (186, true)), .eqb false (.tmp 187) (.tmp 188)⟩,
 ⟨(some 190), none, .pick (.tmp 186) (.tmp 189) (.const (Value.bool false))⟩,
 ⟨(some 191), none, .mv (.tmp 190)⟩,
 ⟨(some 192), (some (191, true)), .mv (.tmp 28)⟩,
 ⟨(some 193), (some (191, true)), .mv (.tmp 31)⟩,
 ⟨(some 194), (some (191, true)), .bin .eql (.tmp 192) (.tmp 193)⟩,
 ⟨(some 195), none, .pick (.tmp 191) (.tmp 194) (.const (Value.bool false))⟩,
 ⟨(some 8), none, .mv (.tmp 195)⟩] [8])
 .ret)))
 (.seq (.reg [⟨(some 197), none, .bin .eql (.tmp 34) (.const (Value.int IntKind.i64 7))⟩,
 ⟨(some 196), none, .mv (.tmp 197)⟩] [0, 1, 196])
 (.cond (.tmp 196)
 (.seq (.reg [⟨(some 198), none, .mv (.tmp 0)⟩,
 ⟨(some 199), none, .call 24 [(.tmp 198)]⟩] [1])
 (.seq (.reg [⟨(some 200), none, .mv (.tmp 1)⟩,
 ⟨(some 201), none, .call 28 [(.tmp 200)]⟩] [])
 (.seq (.reg [⟨(some 8), none, .mv (.const (Value.bool true))⟩] [8])
 .ret)))
 .skip))))))))))))))))
 (.seq (.reg [⟨(some 202), none, .mv (.tmp 0)⟩,
 ⟨(some 203), none, .call 11 [(.tmp 202)]⟩,
 ⟨(some 32), none, .alloc 36 [(Value.int IntKind.i64 0), (Value.int IntKind.i64 0), (Value.int IntKind.i64 0), (Value.int IntKind.i64 0), (Value.int IntKind.i64 0)]⟩,
 ⟨none, none, .store 5 (.tmp 32) (.tmp 203)⟩] [1, 32])
 (.seq (.draw [[⟨(some 204), none, .loadN 5 (.tmp 32)⟩,
 ⟨(some 205), none, .mv (.tmp 1)⟩,
 ⟨(some 206), none, .nilck (.tmp 205)⟩,
 ⟨(some 207), none, .fld 195 (.tmp 206)⟩,
 ⟨(some 208), none, .loadN 5 (.tmp 207)⟩,
 ⟨(some 209), none, .eqagg false [.int, .int, .int, .int, .int] (.tmp 204) (.tmp 208)⟩,
 ⟨(some 8), none, .mv (.tmp 209)⟩]] [8])
 .ret))))⟩
theorem low19 : lowF Try.prog (assoc kp19) (assoc od19) 19 = some F19 := by kernel_rfl

end Go.Proofs.Ytffmipimgodfdaa

/-
  The code of the functions, as terms: printed by a program, proved to be what the seat has.
-/
import Derived.Test.YtffmipimgodfdaaVP
import Derived.KernelRfl
import Derived.Test.YtffmipimgodfdaaProg
namespace Go.Proofs.Ytffmipimgodfdaa
open Go Go.V
set_option maxRecDepth 100000
/- palaver/palaverlaw22.DictSites -/
def kp3 : List (Nat × List Nat) := [(0, [0, 1, 2, 41, 42, 45, 46, 50, 51, 52, 55, 56, 123, 124, 125, 128, 129, 130, 138, 139, 140, 141, 142]), (1, [0, 1, 2, 7, 41, 42, 45, 46, 50, 51, 52, 55, 56, 123, 124, 125, 128, 129, 130, 138, 139, 140, 141, 142]), (2, [0, 1, 2, 7, 26, 41, 42, 45, 46, 50, 51, 52, 55, 56, 123, 124, 125, 128, 129, 130, 138, 139, 140, 141, 142]), (3, [6]), (4, [0, 1, 2, 7, 8, 9, 41, 42, 45, 46, 50, 51, 52, 55, 56, 123, 124, 125, 128, 129, 130, 138, 139, 140, 141, 142]), (5, [1, 2, 7, 8, 9, 10, 11, 41, 42, 45, 46, 50, 51, 52, 55, 56, 123, 124, 125, 128, 129, 130, 138, 139, 140, 141, 142]), (6, [1, 2, 7, 8, 9, 10, 11, 47, 50, 51, 52, 55, 56, 123, 124, 125, 128, 129, 130, 138, 139, 140, 141, 142]), (7, [6]), (8, [1, 2, 7, 8, 10, 12, 123, 124, 125, 128, 129, 130, 138, 139, 140, 141, 142]), (9, [1, 2, 7, 8, 10, 12, 61, 123, 124, 125, 128, 129, 130, 138, 139, 140, 141, 142]), (10, [1, 2, 7, 8, 10, 12, 123, 124, 125, 128, 129, 130, 138, 139, 140, 141, 142]), (11, [1, 2, 7, 8, 10, 12, 13, 123, 124, 125, 128, 129, 130, 138, 139, 140, 141, 142]), (12, [1, 2, 7, 8, 10, 12, 13, 71, 123, 124, 125, 128, 129, 130, 138, 139, 140, 141, 142]), (13, [6]), (14, [1, 2, 7, 8, 10, 12, 13, 75, 123, 124, 125, 128, 129, 130, 138, 139, 140, 141, 142]), (15, [1, 2, 7, 8, 10, 12, 13, 123, 124, 125, 128, 129, 130, 138, 139, 140, 141, 142]), (16, [1, 2, 7, 8, 10, 12, 123, 124, 125, 128, 129, 130, 138, 139, 140, 141, 142]), (17, [1, 2, 7, 8, 10, 12, 13, 14, 123, 124, 125, 128, 129, 130, 138, 139, 140, 141, 142]), (18, [1, 2, 7, 8, 10, 12, 13, 14, 85, 123, 124, 125, 128, 129, 130, 138, 139, 140, 141, 142]), (19, [1, 2, 7, 8, 10, 12, 13, 14, 123, 124, 125, 128, 129, 130, 138, 139, 140, 141, 142]), (20, [1, 2, 7, 8, 10, 12, 13, 14, 15, 16, 17, 123, 124, 125, 128, 129, 130, 138, 139, 140, 141, 142]), (21, [1, 2, 7, 8, 10, 12, 15, 16, 17, 18, 19, 20, 123, 124, 125, 128, 129, 130, 138, 139, 140, 141, 142]), (22, [1, 2, 7, 8, 10, 12, 123, 124, 125, 128, 129, 130, 131, 138, 139, 140, 141, 142]), (23, [6]), (24, [7, 10, 21, 138, 139, 140, 141, 142]), (25, [7, 21, 22, 138, 139, 140, 141, 142]), (26, [6])]
def od3 : List (Nat × List (List Nat)) := []
def F3 : FIR := ⟨144, [.tmp 6],
 (.seq (.reg [⟨(some 6), none, .mv (.const (Value.bool false))⟩] [0, 1, 2, 41, 42, 45, 46, 50, 51, 52, 55, 56, 123, 124, 125, 128, 129, 130, 138, 139, 140, 141, 142])
 (.seq (.reg [⟨(some 23), none, .call 7 []⟩,
     ⟨(some 7), none, .mv (.tmp 23)⟩] [0, 1, 2, 7, 41, 42, 45, 46, 50, 51, 52, 55, 56, 123, 124, 125, 128, 129, 130, 138, 139, 140, 141, 142])
  (.seq (.seq (.reg [⟨(some 24), none, .mv (.tmp 0)⟩,
       ⟨(some 25), none, .lenL (.tmp 24)⟩,
       ⟨(some 26), none, .bin .gtr (.tmp 25) (.const (Value.int IntKind.i64 33554431))⟩] [0, 1, 2, 7, 26, 41, 42, 45, 46, 50, 51, 52, 55, 56, 123, 124, 125, 128, 129, 130, 138, 139, 140, 141, 142])
    (.cond (.tmp 26)
       (.seq (.reg [⟨(some 27), none, .mv (.tmp 7)⟩,
           ⟨(some 6), none, .mv (.tmp 27)⟩] [6])
        .ret)
       .skip))
   (.seq (.reg [⟨(some 29), none, .mv (.tmp 0)⟩,
       ⟨(some 30), none, .call 8 [(.tmp 29)]⟩,
       ⟨(some 28), none, .mv (.tmp 30)⟩,
       ⟨(some 31), none, .ext (.tmp 28) 0⟩,
       ⟨(some 32), none, .ext (.tmp 28) 1⟩,
       ⟨(some 8), none, .mv (.tmp 31)⟩,
       ⟨(some 9), none, .mv (.tmp 32)⟩] [0, 1, 2, 7, 8, 9, 41, 42, 45, 46, 50, 51, 52, 55, 56, 123, 124, 125, 128, 129, 130, 138, 139, 140, 141, 142])
    (.seq (.reg [⟨(some 34), none, .mv (.tmp 0)⟩,
        ⟨(some 35), none, .call 8 [(.tmp 34)]⟩,
        ⟨(some 33), none, .mv (.tmp 35)⟩,
        ⟨(some 36), none, .ext (.tmp 33) 0⟩,
        ⟨(some 37), none, .ext (.tmp 33) 1⟩,
        ⟨(some 10), none, .mv (.tmp 36)⟩,
        ⟨(some 11), none, .mv (.tmp 37)⟩] [1, 2, 7, 8, 9, 10, 11, 41, 42, 45, 46, 50, 51, 52, 55, 56, 123, 124, 125, 128, 129, 130, 138, 139, 140, 141, 142])
     (.seq (.seq (.reg [⟨(some 38), none, .mv (.tmp 9)⟩,
          ⟨(some 39), none, .bin .neq (.tmp 38) (.const (Value.int IntKind.i64 0))⟩,
          ⟨(some 40), none, .mv (.tmp 39)⟩,
          ⟨(some 41), (some (40, false)), .mv (.tmp 8)⟩,
          ⟨(some 42), (some (40, false)), .eqnil false .ptr (.tmp 41)⟩,
          ⟨(some 43), none, .pick (.tmp 40) (.const (Value.bool true)) (.tmp 42)⟩,
          ⟨(some 44), none, .mv (.tmp 43)⟩,
          ⟨(some 45), (some (44, false)), .mv (.tmp 10)⟩,
          ⟨(some 46), (some (44, false)), .eqnil false .ptr (.tmp 45)⟩,
          ⟨(some 47), none, .pick (.tmp 44) (.const (Value.bool true)) (.tmp 46)⟩] [1, 2, 7, 8, 9, 10, 11, 47, 50, 51, 52, 55, 56, 123, 124, 125, 128, 129, 130, 138, 139, 140, 141, 142])
       (.cond (.tmp 47)
          (.seq (.reg [⟨(some 48), none, .mv (.tmp 7)⟩,
              ⟨(some 49), none, .mv (.tmp 48)⟩,
              ⟨(some 50), (some (49, true)), .mv (.tmp 9)⟩,
              ⟨(some 51), (some (49, true)), .mv (.tmp 11)⟩,
              ⟨(some 52), (some (49, true)), .bin .eql (.tmp 50) (.tmp 51)⟩,
              ⟨(some 53), none, .pick (.tmp 49) (.tmp 52) (.const (Value.bool false))⟩,
              ⟨(some 54), none, .mv (.tmp 53)⟩,
              ⟨(some 55), (some (54, true)), .mv (.tmp 9)⟩,
              ⟨(some 56), (some (54, true)), .bin .neq (.tmp 55) (.const (Value.int IntKind.i64 0))⟩,
              ⟨(some 57), none, .pick (.tmp 54) (.tmp 56) (.const (Value.bool false))⟩,
              ⟨(some 6), none, .mv (.tmp 57)⟩] [6])
           .ret)
          .skip))
      (.seq (.seq (.reg [⟨(some 12), none, .mv (.const (Value.int IntKind.i64 0))⟩] [1, 2, 7, 8, 10, 12, 123, 124, 125, 128, 129, 130, 138, 139, 140, 141, 142])
        (.block 0
          (.loop
           (.seq (.seq (.reg [⟨(some 58), none, .mv (.tmp 12)⟩,
               ⟨(some 59), none, .mv (.tmp 1)⟩,
               ⟨(some 60), none, .lenL (.tmp 59)⟩,
               ⟨(some 61), none, .bin .lss (.tmp 58) (.tmp 60)⟩] [1, 2, 7, 8, 10, 12, 61, 123, 124, 125, 128, 129, 130, 138, 139, 140, 141, 142])
            (.cond (.tmp 61)
               .skip
               (.exit 0)))
           (.seq (.block 1
              (.seq (.reg [⟨(some 64), none, .mv (.tmp 1)⟩,
                 ⟨(some 65), none, .mv (.tmp 12)⟩,
                 ⟨(some 66), none, .idxL 5 (.tmp 64) (.tmp 65)⟩,
                 ⟨(some 67), none, .loadN 5 (.tmp 66)⟩,
                 ⟨(some 13), none, .alloc 30 [(Value.int IntKind.i64 0), (Value.int IntKind.i64 0), (Value.string ⟨#[]⟩), (Value.int IntKind.i64 0), (Value.int IntKind.i64 0)]⟩,
                 ⟨none, none, .store 5 (.tmp 13) (.tmp 67)⟩] [1, 2, 7, 8, 10, 12, 13, 123, 124, 125, 128, 129, 130, 138, 139, 140, 141, 142])
              (.seq (.seq (.reg [⟨(some 68), none, .fld 2 (.tmp 13)⟩,
                   ⟨(some 69), none, .load1 (.tmp 68)⟩,
                   ⟨(some 70), none, .lenS (.tmp 69)⟩,
                   ⟨(some 71), none, .bin .gtr (.tmp 70) (.const (Value.int IntKind.i64 1048576))⟩] [1, 2, 7, 8, 10, 12, 13, 71, 123, 124, 125, 128, 129, 130, 138, 139, 140, 141, 142])
                (.cond (.tmp 71)
                   (.seq (.reg [⟨(some 72), none, .mv (.tmp 7)⟩,
                       ⟨(some 6), none, .mv (.tmp 72)⟩] [6])
                    .ret)
                   .skip))
               (.seq (.seq (.reg [⟨(some 73), none, .fld 0 (.tmp 13)⟩,
                    ⟨(some 74), none, .load1 (.tmp 73)⟩,
                    ⟨(some 75), none, .bin .neq (.tmp 74) (.const (Value.int IntKind.i64 6))⟩] [1, 2, 7, 8, 10, 12, 13, 75, 123, 124, 125, 128, 129, 130, 138, 139, 140, 141, 142])
                 (.cond (.tmp 75)
                    (.seq (.reg [⟨(some 76), none, .mv (.tmp 8)⟩,
                        ⟨(some 77), none, .loadN 5 (.tmp 13)⟩,
                        ⟨(some 78), none, .call 9 [(.tmp 76), (.tmp 77)]⟩] [1, 2, 7, 8, 10, 12, 13, 123, 124, 125, 128, 129, 130, 138, 139, 140, 141, 142])
                     (.seq (.reg [⟨(some 79), none, .mv (.tmp 10)⟩,
                         ⟨(some 80), none, .loadN 5 (.tmp 13)⟩,
                         ⟨(some 81), none, .call 9 [(.tmp 79), (.tmp 80)]⟩] [1, 2, 7, 8, 10, 12, 123, 124, 125, 128, 129, 130, 138, 139, 140, 141, 142])
                      (.exit 1)))
                    .skip))
                (.seq (.reg [⟨(some 14), none, .mv (.const (Value.int IntKind.i64 0))⟩] [1, 2, 7, 8, 10, 12, 13, 14, 123, 124, 125, 128, 129, 130, 138, 139, 140, 141, 142])
                 (.seq (.seq (.reg [⟨(some 82), none, .mv (.tmp 12)⟩,
                      ⟨(some 83), none, .mv (.tmp 2)⟩,
                      ⟨(some 84), none, .lenL (.tmp 83)⟩,
                      ⟨(some 85), none, .bin .lss (.tmp 82) (.tmp 84)⟩] [1, 2, 7, 8, 10, 12, 13, 14, 85, 123, 124, 125, 128, 129, 130, 138, 139, 140, 141, 142])
                   (.cond (.tmp 85)
                      (.reg [⟨(some 86), none, .mv (.tmp 2)⟩,
                         ⟨(some 87), none, .mv (.tmp 12)⟩,
                         ⟨(some 88), none, .idxL 1 (.tmp 86) (.tmp 87)⟩,
                         ⟨(some 89), none, .load1 (.tmp 88)⟩,
                         ⟨(some 90), none, .conv .u32 (.tmp 89)⟩,
                         ⟨(some 91), none, .conv .i64 (.tmp 90)⟩,
                         ⟨(some 92), none, .bin .rem (.tmp 91) (.const (Value.int IntKind.i64 65536))⟩,
                         ⟨(some 14), none, .mv (.tmp 92)⟩] [1, 2, 7, 8, 10, 12, 13, 14, 123, 124, 125, 128, 129, 130, 138, 139, 140, 141, 142])
                      .skip))
                  (.seq (.reg [⟨(some 94), none, .mv (.tmp 8)⟩,
                      ⟨(some 95), none, .fld 4 (.tmp 13)⟩,
                      ⟨(some 96), none, .load1 (.tmp 95)⟩,
                      ⟨(some 97), none, .conv .u32 (.tmp 96)⟩,
                      ⟨(some 98), none, .conv .i64 (.tmp 97)⟩,
                      ⟨(some 99), none, .bin .rem (.tmp 98) (.const (Value.int IntKind.i64 65536))⟩,
                      ⟨(some 100), none, .fld 1 (.tmp 13)⟩,
                      ⟨(some 101), none, .load1 (.tmp 100)⟩,
                      ⟨(some 102), none, .fld 2 (.tmp 13)⟩,
                      ⟨(some 103), none, .load1 (.tmp 102)⟩,
                      ⟨(some 104), none, .call 10 [(.tmp 94), (.tmp 99), (.tmp 101), (.tmp 103)]⟩,
                      ⟨(some 93), none, .mv (.tmp 104)⟩,
                      ⟨(some 105), none, .ext (.tmp 93) 0⟩,
                      ⟨(some 106), none, .ext (.tmp 93) 1⟩,
                      ⟨(some 107), none, .ext (.tmp 93) 2⟩,
                      ⟨(some 15), none, .mv (.tmp 105)⟩,
                      ⟨(some 16), none, .mv (.tmp 106)⟩,
                      ⟨(some 17), none, .mv (.tmp 107)⟩] [1, 2, 7, 8, 10, 12, 13, 14, 15, 16, 17, 123, 124, 125, 128, 129, 130, 138, 139, 140, 141, 142])
                   (.seq (.reg [⟨(some 109), none, .mv (.tmp 10)⟩,
                       ⟨(some 110), none, .mv (.tmp 14)⟩,
                       ⟨(some 111), none, .fld 1 (.tmp 13)⟩,
                       ⟨(some 112), none, .load1 (.tmp 111)⟩,
                       ⟨(some 113), none, .fld 2 (.tmp 13)⟩,
                       ⟨(some 114), none, .load1 (.tmp 113)⟩,
                       ⟨(some 115), none, .call 10 [(.tmp 109), (.tmp 110), (.tmp 112), (.tmp 114)]⟩,
                       ⟨(some 108), none, .mv (.tmp 115)⟩,
                       ⟨(some 116), none, .ext (.tmp 108) 0⟩,
                       ⟨(some 117), none, .ext (.tmp 108) 1⟩,
                       ⟨(some 118), none, .ext (.tmp 108) 2⟩,
                       ⟨(some 18), none, .mv (.tmp 116)⟩,
                       ⟨(some 19), none, .mv (.tmp 117)⟩,
                       ⟨(some 20), none, .mv (.tmp 118)⟩] [1, 2, 7, 8, 10, 12, 15, 16, 17, 18, 19, 20, 123, 124, 125, 128, 129, 130, 138, 139, 140, 141, 142])
                    (.seq (.reg [⟨(some 119), none, .mv (.tmp 15)⟩,
                        ⟨(some 120), none, .mv (.tmp 18)⟩,
                        ⟨(some 121), none, .bin .neq (.tmp 119) (.tmp 120)⟩,
                        ⟨(some 122), none, .mv (.tmp 121)⟩,
                        ⟨(some 123), (some (122, false)), .mv (.tmp 16)⟩,
                        ⟨(some 124), (some (122, false)), .mv (.tmp 19)⟩,
                        ⟨(some 125), (some (122, false)), .eqb true (.tmp 123) (.tmp 124)⟩,
                        ⟨(some 126), none, .pick (.tmp 122) (.const (Value.bool true)) (.tmp 125)⟩,
                        ⟨(some 127), none, .mv (.tmp 126)⟩,
                        ⟨(some 128), (some (127, false)), .mv (.tmp 17)⟩,
                        ⟨(some 129), (some (127, false)), .mv (.tmp 20)⟩,
                        ⟨(some 130), (some (127, false)), .bin .neq (.tmp 128) (.tmp 129)⟩,
                        ⟨(some 131), none, .pick (.tmp 127) (.const (Value.bool true)) (.tmp 130)⟩] [1, 2, 7, 8, 10, 12, 123, 124, 125, 128, 129, 130, 131, 138, 139, 140, 141, 142])
                     (.cond (.tmp 131)
                        (.seq (.reg [⟨(some 6), none, .mv (.const (Value.bool false))⟩] [6])
                         .ret)
                        .skip))))))))))
            (.reg [⟨(some 62), none, .mv (.tmp 12)⟩,
               ⟨(some 63), none, .bin .add (.tmp 62) (.const (Value.int IntKind.i64 1))⟩,
               ⟨(some 12), none, .mv (.tmp 63)⟩] [1, 2, 7, 8, 10, 12, 123, 124, 125, 128, 129, 130, 138, 139, 140, 141, 142]))))))
       (.seq (.reg [⟨(some 132), none, .mv (.tmp 8)⟩,
           ⟨(some 133), none, .call 11 [(.tmp 132)]⟩,
           ⟨(some 21), none, .alloc 36 [(Value.int IntKind.i64 0), (Value.int IntKind.i64 0), (Value.int IntKind.i64 0), (Value.int IntKind.i64 0), (Value.int IntKind.i64 0)]⟩,
           ⟨none, none, .store 5 (.tmp 21) (.tmp 133)⟩] [7, 10, 21, 138, 139, 140, 141, 142])
        (.seq (.reg [⟨(some 134), none, .mv (.tmp 10)⟩,
            ⟨(some 135), none, .call 11 [(.tmp 134)]⟩,
            ⟨(some 22), none, .alloc 36 [(Value.int IntKind.i64 0), (Value.int IntKind.i64 0), (Value.int IntKind.i64 0), (Value.int IntKind.i64 0), (Value.int IntKind.i64 0)]⟩,
            ⟨none, none, .store 5 (.tmp 22) (.tmp 135)⟩] [7, 21, 22, 138, 139, 140, 141, 142])
         (.seq (.reg [⟨(some 136), none, .mv (.tmp 7)⟩,
             ⟨(some 137), none, .mv (.tmp 136)⟩,
             ⟨(some 138), (some (137, true)), .fld 0 (.tmp 21)⟩,
             ⟨(some 139), (some (137, true)), .load1 (.tmp 138)⟩,
             ⟨(some 140), (some (137, true)), .fld 0 (.tmp 22)⟩,
             ⟨(some 141), (some (137, true)), .load1 (.tmp 140)⟩,
             ⟨(some 142), (some (137, true)), .bin .eql (.tmp 139) (.tmp 141)⟩,
             ⟨(some 143), none, .pick (.tmp 137) (.tmp 142) (.const (Value.bool false))⟩,
             ⟨(some 6), none, .mv (.tmp 143)⟩] [6])
          .ret))))))))))⟩
theorem low3 : lowF Try.prog (assoc kp3) (assoc od3) 3 = some F3 := by kernel_rfl

end Go.Proofs.Ytffmipimgodfdaa

/-
  The code of functions, as terms: printed by a program, proved to be what the seat has.
-/
import Derived.Test.YtklkngccaemjdaaWOe
import Derived.KernelRfl
import Derived.Test.YtklkngccaemjdaaProg
set_option linter.unusedSimpArgs false
set_option linter.unusedVariables false
namespace Go.Proofs.Ytklkngccaemjdaa
open Go Go.V
set_option maxRecDepth 100000
/- palaver/palaverlaw03.WorldSynced -/
def kp4 : List (Nat × List Nat) := [(0, [0, 1, 2, 3, 4, 31, 32, 36, 37, 38, 39, 40, 52, 53, 63, 64, 79, 80, 83, 84, 88, 89, 92, 93, 96, 97, 136, 137, 138, 142, 143]), (1, [0, 1, 2, 3, 4, 11, 31, 32, 36, 37, 38, 39, 40, 52, 53, 63, 64, 79, 80, 83, 84, 88, 89, 92, 93, 96, 97, 136, 137, 138, 142, 143]), (2, [1, 2, 3, 4, 11, 12, 13, 31, 32, 36, 37, 38, 39, 40, 52, 53, 63, 64, 79, 80, 83, 84, 88, 89, 92, 93, 96, 97, 136, 137, 138, 142, 143]), (3, [1, 2, 3, 4, 11, 12, 13, 33, 36, 37, 38, 39, 40, 52, 53, 63, 64, 79, 80, 83, 84, 88, 89, 92, 93, 96, 97, 136, 137, 138, 142, 143]), (4, [10]), (5, [1, 2, 3, 4, 11, 12, 13, 14, 52, 53, 63, 64, 79, 80, 83, 84, 88, 89, 92, 93, 96, 97, 136, 137, 138, 142, 143]), (6, [1, 2, 3, 4, 11, 12, 14, 49, 52, 53, 63, 64, 79, 80, 83, 84, 88, 89, 92, 93, 96, 97, 136, 137, 138, 142, 143]), (7, [10]), (8, [1, 2, 3, 4, 11, 12, 13, 14, 63, 64, 79, 80, 83, 84, 88, 89, 92, 93, 96, 97, 136, 137, 138, 142, 143]), (9, [1, 2, 3, 4, 11, 12, 13, 14, 60, 63, 64, 79, 80, 83, 84, 88, 89, 92, 93, 96, 97, 136, 137, 138, 142, 143]), (10, [10]), (11, [1, 2, 3, 4, 11, 12, 14, 15, 79, 80, 83, 84, 88, 89, 92, 93, 96, 97, 136, 137, 138, 142, 143]), (12, [1, 2, 3, 4, 11, 12, 15, 16, 79, 80, 83, 84, 88, 89, 92, 93, 96, 97, 136, 137, 138, 142, 143]), (13, [1, 2, 3, 4, 11, 12, 15, 16, 17, 79, 80, 83, 84, 88, 89, 92, 93, 96, 97, 136, 137, 138, 142, 143]), (14, [1, 2, 3, 4, 11, 12, 15, 16, 17, 85, 88, 89, 92, 93, 96, 97, 136, 137, 138, 142, 143]), (15, [10]), (16, [1, 2, 3, 11, 18, 136, 137, 138, 142, 143]), (17, [1, 2, 3, 11, 18, 103, 136, 137, 138, 142, 143]), (18, [10]), (19, [1, 2, 3, 11, 19, 136, 137, 138, 142, 143]), (20, [1, 2, 3, 11, 19, 20, 136, 137, 138, 142, 143]), (21, [1, 2, 3, 11, 19, 20, 21, 136, 137, 138, 142, 143]), (22, [1, 2, 3, 11, 19, 20, 21, 109, 136, 137, 138, 142, 143]), (23, [1, 2, 3, 11, 19, 20, 21, 136, 137, 138, 142, 143]), (24, [1, 2, 3, 11, 19, 20, 21, 118, 136, 137, 138, 142, 143]), (25, [1, 2, 3, 11, 19, 20, 21, 136, 137, 138, 142, 143]), (26, [1, 2, 3, 11, 19, 20, 21, 127, 136, 137, 138, 142, 143]), (27, [10]), (28, [1, 2, 3, 11, 19, 20, 21, 136, 137, 138, 139, 142, 143]), (29, [10]), (30, [10])]
def od4 : List (Nat × List (List Nat)) := []
def F4 : FIR := ⟨145, [.tmp 10],
 (.seq (.reg [⟨(some 10), none, .mv (.const (Value.bool false))⟩] [0, 1, 2, 3, 4, 31, 32, 36, 37, 38, 39, 40, 52, 53, 63, 64, 79, 80, 83, 84, 88, 89, 92, 93, 96, 97, 136, 137, 138, 142, 143])
 (.seq (.reg [⟨(some 22), none, .call 8 []⟩,
     ⟨(some 11), none, .mv (.tmp 22)⟩] [0, 1, 2, 3, 4, 11, 31, 32, 36, 37, 38, 39, 40, 52, 53, 63, 64, 79, 80, 83, 84, 88, 89, 92, 93, 96, 97, 136, 137, 138, 142, 143])
  (.seq (.reg [⟨(some 24), none, .mv (.tmp 0)⟩,
      ⟨(some 25), none, .call 10 [(.const (Value.slice none 0 0)), (.tmp 24)]⟩,
      ⟨(some 23), none, .mv (.tmp 25)⟩,
      ⟨(some 26), none, .ext (.tmp 23) 0⟩,
      ⟨(some 27), none, .ext (.tmp 23) 1⟩,
      ⟨(some 12), none, .mv (.tmp 26)⟩,
      ⟨(some 13), none, .mv (.tmp 27)⟩] [1, 2, 3, 4, 11, 12, 13, 31, 32, 36, 37, 38, 39, 40, 52, 53, 63, 64, 79, 80, 83, 84, 88, 89, 92, 93, 96, 97, 136, 137, 138, 142, 143])
   (.seq (.seq (.reg [⟨(some 28), none, .mv (.tmp 13)⟩,
        ⟨(some 29), none, .bin .neq (.tmp 28) (.const (Value.int IntKind.i64 0))⟩,
        ⟨(some 30), none, .mv (.tmp 29)⟩,
        ⟨(some 31), (some (30, false)), .mv (.tmp 12)⟩,
        ⟨(some 32), (some (30, false)), .eqnil false .ptr (.tmp 31)⟩,
        ⟨(some 33), none, .pick (.tmp 30) (.const (Value.bool true)) (.tmp 32)⟩] [1, 2, 3, 4, 11, 12, 13, 33, 36, 37, 38, 39, 40, 52, 53, 63, 64, 79, 80, 83, 84, 88, 89, 92, 93, 96, 97, 136, 137, 138, 142, 143])
     (.cond (.tmp 33)
        (.seq (.reg [⟨(some 34), none, .mv (.tmp 11)⟩,
            ⟨(some 35), none, .mv (.tmp 34)⟩,
            ⟨(some 36), (some (35, true)), .mv (.tmp 13)⟩,
            ⟨(some 37), (some (35, true)), .bin .eql (.tmp 36) (.const (Value.int IntKind.i64 0))⟩,
            ⟨(some 38), (some (35, true)), .mv (.tmp 12)⟩,
            ⟨(some 39), (some (35, true)), .eqnil true .ptr (.tmp 38)⟩,
            ⟨(some 40), (some (35, true)), .eqb false (.tmp 37) (.tmp 39)⟩,
            ⟨(some 41), none, .pick (.tmp 35) (.tmp 40) (.const (Value.bool false))⟩,
            ⟨(some 10), none, .mv (.tmp 41)⟩] [10])
         .ret)
        .skip))
    (.seq (.reg [⟨(some 43), none, .mv (.tmp 12)⟩,
        ⟨(some 44), none, .mv (.tmp 1)⟩,
        ⟨(some 45), none, .call 11 [(.tmp 43), (.tmp 44), (.const (Value.int IntKind.i64 2))]⟩,
        ⟨(some 42), none, .mv (.tmp 45)⟩,
        ⟨(some 46), none, .ext (.tmp 42) 0⟩,
        ⟨(some 47), none, .ext (.tmp 42) 1⟩,
        ⟨(some 14), none, .mv (.tmp 46)⟩,
        ⟨(some 13), none, .mv (.tmp 47)⟩] [1, 2, 3, 4, 11, 12, 13, 14, 52, 53, 63, 64, 79, 80, 83, 84, 88, 89, 92, 93, 96, 97, 136, 137, 138, 142, 143])
     (.seq (.seq (.reg [⟨(some 48), none, .mv (.tmp 13)⟩,
          ⟨(some 49), none, .bin .neq (.tmp 48) (.const (Value.int IntKind.i64 0))⟩] [1, 2, 3, 4, 11, 12, 14, 49, 52, 53, 63, 64, 79, 80, 83, 84, 88, 89, 92, 93, 96, 97, 136, 137, 138, 142, 143])
       (.cond (.tmp 49)
          (.seq (.reg [⟨(some 50), none, .mv (.tmp 11)⟩,
              ⟨(some 51), none, .mv (.tmp 50)⟩,
              ⟨(some 52), (some (51, true)), .mv (.tmp 14)⟩,
              ⟨(some 53), (some (51, true)), .bin .eql (.tmp 52) (.const (Value.int IntKind.i64 0))⟩,
              ⟨(some 54), none, .pick (.tmp 51) (.tmp 53) (.const (Value.bool false))⟩,
              ⟨(some 10), none, .mv (.tmp 54)⟩] [10])
           .ret)
          .skip))
      (.seq (.reg [⟨(some 55), none, .mv (.tmp 12)⟩,
          ⟨(some 56), none, .mv (.tmp 14)⟩,
          ⟨(some 57), none, .mv (.tmp 3)⟩,
          ⟨(some 58), none, .call 13 [(.tmp 55), (.tmp 56), (.tmp 57)]⟩,
          ⟨(some 13), none, .mv (.tmp 58)⟩] [1, 2, 3, 4, 11, 12, 13, 14, 63, 64, 79, 80, 83, 84, 88, 89, 92, 93, 96, 97, 136, 137, 138, 142, 143])
       (.seq (.seq (.reg [⟨(some 59), none, .mv (.tmp 13)⟩,
            ⟨(some 60), none, .bin .neq (.tmp 59) (.const (Value.int IntKind.i64 0))⟩] [1, 2, 3, 4, 11, 12, 13, 14, 60, 63, 64, 79, 80, 83, 84, 88, 89, 92, 93, 96, 97, 136, 137, 138, 142, 143])
         (.cond (.tmp 60)
            (.seq (.reg [⟨(some 61), none, .mv (.tmp 11)⟩,
                ⟨(some 62), none, .mv (.tmp 61)⟩,
                ⟨(some 63), (some (62, true)), .mv (.tmp 13)⟩,
                ⟨(some 64), (some (62, true)), .bin .eql (.tmp 63) (.const (Value.int IntKind.i64 34))⟩,
                ⟨(some 65), none, .pick (.tmp 62) (.tmp 64) (.const (Value.bool false))⟩,
                ⟨(some 10), none, .mv (.tmp 65)⟩] [10])
             .ret)
            .skip))
        (.seq (.reg [⟨(some 66), none, .mv (.tmp 12)⟩,
            ⟨(some 67), none, .mv (.tmp 14)⟩,
            ⟨(some 68), none, .call 16 [(.tmp 66), (.tmp 67)]⟩,
            ⟨(some 15), none, .mv (.tmp 68)⟩] [1, 2, 3, 4, 11, 12, 14, 15, 79, 80, 83, 84, 88, 89, 92, 93, 96, 97, 136, 137, 138, 142, 143])
         (.seq (.reg [⟨(some 69), none, .mv (.tmp 12)⟩,
             ⟨(some 70), none, .mv (.tmp 14)⟩,
             ⟨(some 71), none, .call 17 [(.tmp 69), (.tmp 70)]⟩,
             ⟨(some 16), none, .mv (.tmp 71)⟩] [1, 2, 3, 4, 11, 12, 15, 16, 79, 80, 83, 84, 88, 89, 92, 93, 96, 97, 136, 137, 138, 142, 143])
          (.seq (.reg [⟨(some 72), none, .mv (.tmp 12)⟩,
              ⟨(some 73), none, .mv (.tmp 1)⟩,
              ⟨(some 74), none, .mv (.tmp 2)⟩,
              ⟨(some 75), none, .call 18 [(.tmp 72), (.tmp 73), (.tmp 74)]⟩,
              ⟨(some 17), none, .mv (.tmp 75)⟩] [1, 2, 3, 4, 11, 12, 15, 16, 17, 79, 80, 83, 84, 88, 89, 92, 93, 96, 97, 136, 137, 138, 142, 143])
           (.seq (.seq (.reg [⟨(some 76), none, .mv (.tmp 15)⟩,
                ⟨(some 77), none, .bin .neq (.tmp 76) (.const (Value.int IntKind.i64 0))⟩,
                ⟨(some 78), none, .mv (.tmp 77)⟩,
                ⟨(some 79), (some (78, false)), .mv (.tmp 16)⟩,
                ⟨(some 80), (some (78, false)), .bin .neq (.tmp 79) (.const (Value.int IntKind.i64 0))⟩,
                ⟨(some 81), none, .pick (.tmp 78) (.const (Value.bool true)) (.tmp 80)⟩,
                ⟨(some 82), none, .mv (.tmp 81)⟩,
                ⟨(some 83), (some (82, false)), .mv (.tmp 17)⟩,
                ⟨(some 84), (some (82, false)), .bin .neq (.tmp 83) (.const (Value.int IntKind.i64 0))⟩,
                ⟨(some 85), none, .pick (.tmp 82) (.const (Value.bool true)) (.tmp 84)⟩] [1, 2, 3, 4, 11, 12, 15, 16, 17, 85, 88, 89, 92, 93, 96, 97, 136, 137, 138, 142, 143])
             (.cond (.tmp 85)
                (.seq (.reg [⟨(some 86), none, .mv (.tmp 11)⟩,
                    ⟨(some 87), none, .mv (.tmp 86)⟩,
                    ⟨(some 88), (some (87, true)), .mv (.tmp 15)⟩,
                    ⟨(some 89), (some (87, true)), .bin .eql (.tmp 88) (.const (Value.int IntKind.i64 0))⟩,
                    ⟨(some 90), none, .pick (.tmp 87) (.tmp 89) (.const (Value.bool false))⟩,
                    ⟨(some 91), none, .mv (.tmp 90)⟩,
                    ⟨(some 92), (some (91, true)), .mv (.tmp 16)⟩,
                    ⟨(some 93), (some (91, true)), .bin .eql (.tmp 92) (.const (Value.int IntKind.i64 0))⟩,
                    ⟨(some 94), none, .pick (.tmp 91) (.tmp 93) (.const (Value.bool false))⟩,
                    ⟨(some 95), none, .mv (.tmp 94)⟩,
                    ⟨(some 96), (some (95, true)), .mv (.tmp 17)⟩,
                    ⟨(some 97), (some (95, true)), .bin .eql (.tmp 96) (.const (Value.int IntKind.i64 35))⟩,
                    ⟨(some 98), none, .pick (.tmp 95) (.tmp 97) (.const (Value.bool false))⟩,
                    ⟨(some 10), none, .mv (.tmp 98)⟩] [10])
                 .ret)
                .skip))
            (.seq (.reg [⟨(some 99), none, .mv (.tmp 12)⟩,
                ⟨(some 100), none, .mv (.tmp 4)⟩,
                ⟨(some 101), none, .call 19 [(.tmp 99), (.tmp 100), (.const (Value.slice none 0 0))]⟩,
                ⟨(some 18), none, .mv (.tmp 101)⟩] [1, 2, 3, 11, 18, 136, 137, 138, 142, 143])
             (.seq (.seq (.reg [⟨(some 102), none, .mv (.tmp 18)⟩,
                  ⟨(some 103), none, .eqnil false .ptr (.tmp 102)⟩] [1, 2, 3, 11, 18, 103, 136, 137, 138, 142, 143])
               (.cond (.tmp 103)
                  (.seq (.reg [⟨(some 10), none, .mv (.const (Value.bool false))⟩] [10])
                   .ret)
                  .skip))
              (.seq (.reg [⟨(some 104), none, .mv (.tmp 18)⟩,
                  ⟨(some 105), none, .call 20 [(.tmp 104)]⟩,
                  ⟨(some 19), none, .mv (.tmp 105)⟩] [1, 2, 3, 11, 19, 136, 137, 138, 142, 143])
               (.seq (.reg [⟨(some 20), none, .mv (.const (Value.int IntKind.i64 0))⟩] [1, 2, 3, 11, 19, 20, 136, 137, 138, 142, 143])
                (.seq (.seq (.reg [⟨(some 21), none, .mv (.const (Value.int IntKind.i64 0))⟩] [1, 2, 3, 11, 19, 20, 21, 136, 137, 138, 142, 143])
                  (.block 0
                    (.loop
                     (.seq (.seq (.reg [⟨(some 106), none, .mv (.tmp 21)⟩,
                         ⟨(some 107), none, .mv (.tmp 19)⟩,
                         ⟨(some 108), none, .lenL (.tmp 107)⟩,
                         ⟨(some 109), none, .bin .lss (.tmp 106) (.tmp 108)⟩] [1, 2, 3, 11, 19, 20, 21, 109, 136, 137, 138, 142, 143])
                      (.cond (.tmp 109)
                         .skip
                         (.exit 0)))
                     (.seq (.block 1
                        (.seq (.seq (.reg [⟨(some 112), none, .mv (.tmp 19)⟩,
                            ⟨(some 113), none, .mv (.tmp 21)⟩,
                            ⟨(some 114), none, .idxL 2 (.tmp 112) (.tmp 113)⟩,
                            ⟨(some 115), none, .fld 0 (.tmp 114)⟩,
                            ⟨(some 116), none, .load1 (.tmp 115)⟩,
                            ⟨(some 117), none, .mv (.tmp 2)⟩,
                            ⟨(some 118), none, .bin .eql (.tmp 116) (.tmp 117)⟩] [1, 2, 3, 11, 19, 20, 21, 118, 136, 137, 138, 142, 143])
                         (.cond (.tmp 118)
                            (.seq (.reg [⟨(some 119), none, .mv (.tmp 20)⟩,
                                ⟨(some 120), none, .bin .add (.tmp 119) (.const (Value.int IntKind.i64 1))⟩,
                                ⟨(some 20), none, .mv (.tmp 120)⟩] [1, 2, 3, 11, 19, 20, 21, 136, 137, 138, 142, 143])
                             (.seq (.reg [⟨(some 121), none, .mv (.tmp 19)⟩,
                                 ⟨(some 122), none, .mv (.tmp 21)⟩,
                                 ⟨(some 123), none, .idxL 2 (.tmp 121) (.tmp 122)⟩,
                                 ⟨(some 124), none, .fld 1 (.tmp 123)⟩,
                                 ⟨(some 125), none, .load1 (.tmp 124)⟩,
                                 ⟨(some 126), none, .mv (.tmp 3)⟩,
                                 ⟨(some 127), none, .bin .neq (.tmp 125) (.tmp 126)⟩] [1, 2, 3, 11, 19, 20, 21, 127, 136, 137, 138, 142, 143])
                              (.cond (.tmp 127)
                                 (.seq (.reg [⟨(some 10), none, .mv (.const (Value.bool false))⟩] [10])
                                  .ret)
                                 .skip)))
                            .skip))
                        (.seq (.reg [⟨(some 128), none, .mv (.tmp 19)⟩,
                            ⟨(some 129), none, .mv (.tmp 21)⟩,
                            ⟨(some 130), none, .idxL 2 (.tmp 128) (.tmp 129)⟩,
                            ⟨(some 131), none, .fld 0 (.tmp 130)⟩,
                            ⟨(some 132), none, .load1 (.tmp 131)⟩,
                            ⟨(some 133), none, .mv (.tmp 1)⟩,
                            ⟨(some 134), none, .bin .eql (.tmp 132) (.tmp 133)⟩,
                            ⟨(some 135), none, .mv (.tmp 134)⟩,
                            ⟨(some 136), (some (135, true)), .mv (.tmp 1)⟩,
                            ⟨(some 137), (some (135, true)), .mv (.tmp 2)⟩,
                            ⟨(some 138), (some (135, true)), .bin .neq (.tmp 136) (.tmp 137)⟩,
                            ⟨(some 139), none, .pick (.tmp 135) (.tmp 138) (.const (Value.bool false))⟩] [1, 2, 3, 11, 19, 20, 21, 136, 137, 138, 139, 142, 143])
                         (.cond (.tmp 139)
                            (.seq (.reg [⟨(some 10), none, .mv (.const (Value.bool false))⟩] [10])
                             .ret)
                            .skip))))
                      (.reg [⟨(some 110), none, .mv (.tmp 21)⟩,
                         ⟨(some 111), none, .bin .add (.tmp 110) (.const (Value.int IntKind.i64 1))⟩,
                         ⟨(some 21), none, .mv (.tmp 111)⟩] [1, 2, 3, 11, 19, 20, 21, 136, 137, 138, 142, 143]))))))
                 (.seq (.reg [⟨(some 140), none, .mv (.tmp 11)⟩,
                     ⟨(some 141), none, .mv (.tmp 140)⟩,
                     ⟨(some 142), (some (141, true)), .mv (.tmp 20)⟩,
                     ⟨(some 143), (some (141, true)), .bin .eql (.tmp 142) (.const (Value.int IntKind.i64 1))⟩,
                     ⟨(some 144), none, .pick (.tmp 141) (.tmp 143) (.const (Value.bool false))⟩,
                     ⟨(some 10), none, .mv (.tmp 144)⟩] [10])
                  .ret))))))))))))))))))⟩
theorem low4 : lowF Try.prog (assoc kp4) (assoc od4) 4 = some F4 := by kernel_rfl

end Go.Proofs.Ytklkngccaemjdaa

/-
  The code of the functions, as terms: printed by a program, proved to be what the seat has.
-/
import Derived.Test.YtffmipimgodfdaaVP
import Derived.KernelRfl
import Derived.Test.YtffmipimgodfdaaProg
namespace Go.Proofs.Ytffmipimgodfdaa
open Go Go.V
set_option maxRecDepth 100000
/- palaver/palaverlaw22.DictInherits -/
def kp5 : List (Nat × List Nat) := [(0, [0, 1, 2, 23, 24, 25, 36, 37, 41, 42, 43, 44, 45, 89, 90, 91, 92, 93, 94, 95, 118, 119, 120]), (1, [0, 1, 2, 7, 23, 24, 25, 36, 37, 41, 42, 43, 44, 45, 89, 90, 91, 92, 93, 94, 95, 118, 119, 120]), (2, [0, 1, 2, 7, 26, 36, 37, 41, 42, 43, 44, 45, 89, 90, 91, 92, 93, 94, 95, 118, 119, 120]), (3, [6]), (4, [0, 1, 2, 7, 8, 9, 36, 37, 41, 42, 43, 44, 45, 89, 90, 91, 92, 93, 94, 95, 118, 119, 120]), (5, [0, 1, 2, 7, 8, 9, 38, 41, 42, 43, 44, 45, 89, 90, 91, 92, 93, 94, 95, 118, 119, 120]), (6, [6]), (7, [0, 1, 2, 7, 8, 10, 89, 90, 91, 92, 93, 94, 95, 118, 119, 120]), (8, [0, 1, 2, 7, 8, 10, 50, 89, 90, 91, 92, 93, 94, 95, 118, 119, 120]), (9, [0, 1, 2, 7, 8, 10, 89, 90, 91, 92, 93, 94, 95, 118, 119, 120]), (10, [0, 1, 2, 7, 8, 10, 59, 89, 90, 91, 92, 93, 94, 95, 118, 119, 120]), (11, [6]), (12, [0, 1, 2, 7, 8, 10, 89, 90, 91, 92, 93, 94, 95, 118, 119, 120]), (13, [0, 2, 7, 8, 11, 89, 90, 91, 92, 93, 94, 95, 118, 119, 120]), (14, [0, 2, 7, 8, 11, 70, 89, 90, 91, 92, 93, 94, 95, 118, 119, 120]), (15, [0, 2, 7, 8, 11, 89, 90, 91, 92, 93, 94, 95, 118, 119, 120]), (16, [0, 2, 7, 8, 11, 12, 13, 89, 90, 91, 92, 93, 94, 95, 118, 119, 120]), (17, [0, 2, 7, 8, 11, 12, 13, 14, 15, 89, 90, 91, 92, 93, 94, 95, 118, 119, 120]), (18, [0, 2, 7, 8, 11, 12, 13, 15, 89, 90, 91, 92, 93, 94, 95, 96, 118, 119, 120]), (19, [6]), (20, [0, 2, 7, 8, 11, 12, 13, 89, 90, 91, 92, 93, 94, 95, 97, 118, 119, 120]), (21, [0, 2, 7, 8, 11, 12, 13, 89, 90, 91, 92, 93, 94, 95, 102, 118, 119, 120]), (22, [0, 2, 7, 8, 11, 89, 90, 91, 92, 93, 94, 95, 103, 118, 119, 120]), (23, [6]), (24, [0, 2, 7, 8, 11, 12, 13, 16, 17, 89, 90, 91, 92, 93, 94, 95, 118, 119, 120]), (25, [0, 2, 7, 8, 11, 89, 90, 91, 92, 93, 94, 95, 118, 119, 120, 121]), (26, [6]), (27, [6])]
def od5 : List (Nat × List (List Nat)) := []
def F5 : FIR := ⟨123, [.tmp 6],
 (.seq (.reg [⟨(some 6), none, .mv (.const (Value.bool false))⟩] [0, 1, 2, 23, 24, 25, 36, 37, 41, 42, 43, 44, 45, 89, 90, 91, 92, 93, 94, 95, 118, 119, 120])
 (.seq (.reg [⟨(some 18), none, .call 7 []⟩,
     ⟨(some 7), none, .mv (.tmp 18)⟩] [0, 1, 2, 7, 23, 24, 25, 36, 37, 41, 42, 43, 44, 45, 89, 90, 91, 92, 93, 94, 95, 118, 119, 120])
  (.seq (.seq (.reg [⟨(some 19), none, .mv (.tmp 0)⟩,
       ⟨(some 20), none, .lenL (.tmp 19)⟩,
       ⟨(some 21), none, .bin .gtr (.tmp 20) (.const (Value.int IntKind.i64 1000))⟩,
       ⟨(some 22), none, .mv (.tmp 21)⟩,
       ⟨(some 23), (some (22, false)), .mv (.tmp 2)⟩,
       ⟨(some 24), (some (22, false)), .lenS (.tmp 23)⟩,
       ⟨(some 25), (some (22, false)), .bin .gtr (.tmp 24) (.const (Value.int IntKind.i64 1048576))⟩,
       ⟨(some 26), none, .pick (.tmp 22) (.const (Value.bool true)) (.tmp 25)⟩] [0, 1, 2, 7, 26, 36, 37, 41, 42, 43, 44, 45, 89, 90, 91, 92, 93, 94, 95, 118, 119, 120])
    (.cond (.tmp 26)
       (.seq (.reg [⟨(some 27), none, .mv (.tmp 7)⟩,
           ⟨(some 6), none, .mv (.tmp 27)⟩] [6])
        .ret)
       .skip))
   (.seq (.reg [⟨(some 29), none, .mv (.tmp 0)⟩,
       ⟨(some 30), none, .call 8 [(.tmp 29)]⟩,
       ⟨(some 28), none, .mv (.tmp 30)⟩,
       ⟨(some 31), none, .ext (.tmp 28) 0⟩,
       ⟨(some 32), none, .ext (.tmp 28) 1⟩,
       ⟨(some 8), none, .mv (.tmp 31)⟩,
       ⟨(some 9), none, .mv (.tmp 32)⟩] [0, 1, 2, 7, 8, 9, 36, 37, 41, 42, 43, 44, 45, 89, 90, 91, 92, 93, 94, 95, 118, 119, 120])
    (.seq (.seq (.reg [⟨(some 33), none, .mv (.tmp 9)⟩,
         ⟨(some 34), none, .bin .neq (.tmp 33) (.const (Value.int IntKind.i64 0))⟩,
         ⟨(some 35), none, .mv (.tmp 34)⟩,
         ⟨(some 36), (some (35, false)), .mv (.tmp 8)⟩,
         ⟨(some 37), (some (35, false)), .eqnil false .ptr (.tmp 36)⟩,
         ⟨(some 38), none, .pick (.tmp 35) (.const (Value.bool true)) (.tmp 37)⟩] [0, 1, 2, 7, 8, 9, 38, 41, 42, 43, 44, 45, 89, 90, 91, 92, 93, 94, 95, 118, 119, 120])
      (.cond (.tmp 38)
         (.seq (.reg [⟨(some 39), none, .mv (.tmp 7)⟩,
             ⟨(some 40), none, .mv (.tmp 39)⟩,
             ⟨(some 41), (some (40, true)), .mv (.tmp 9)⟩,
             ⟨(some 42), (some (40, true)), .bin .eql (.tmp 41) (.const (Value.int IntKind.i64 0))⟩,
             ⟨(some 43), (some (40, true)), .mv (.tmp 8)⟩,
             ⟨(some 44), (some (40, true)), .eqnil true .ptr (.tmp 43)⟩,
             ⟨(some 45), (some (40, true)), .eqb false (.tmp 42) (.tmp 44)⟩,
             ⟨(some 46), none, .pick (.tmp 40) (.tmp 45) (.const (Value.bool false))⟩,
             ⟨(some 6), none, .mv (.tmp 46)⟩] [6])
          .ret)
         .skip))
     (.seq (.seq (.reg [⟨(some 10), none, .mv (.const (Value.int IntKind.i64 0))⟩] [0, 1, 2, 7, 8, 10, 89, 90, 91, 92, 93, 94, 95, 118, 119, 120])
       (.block 0
         (.loop
          (.seq (.seq (.reg [⟨(some 47), none, .mv (.tmp 10)⟩,
              ⟨(some 48), none, .mv (.tmp 1)⟩,
              ⟨(some 49), none, .lenL (.tmp 48)⟩,
              ⟨(some 50), none, .bin .lss (.tmp 47) (.tmp 49)⟩] [0, 1, 2, 7, 8, 10, 50, 89, 90, 91, 92, 93, 94, 95, 118, 119, 120])
           (.cond (.tmp 50)
              .skip
              (.exit 0)))
          (.seq (.block 1
             (.seq (.seq (.reg [⟨(some 53), none, .mv (.tmp 1)⟩,
                 ⟨(some 54), none, .mv (.tmp 10)⟩,
                 ⟨(some 55), none, .idxL 5 (.tmp 53) (.tmp 54)⟩,
                 ⟨(some 56), none, .fld 2 (.tmp 55)⟩,
                 ⟨(some 57), none, .load1 (.tmp 56)⟩,
                 ⟨(some 58), none, .lenS (.tmp 57)⟩,
                 ⟨(some 59), none, .bin .gtr (.tmp 58) (.const (Value.int IntKind.i64 1048576))⟩] [0, 1, 2, 7, 8, 10, 59, 89, 90, 91, 92, 93, 94, 95, 118, 119, 120])
              (.cond (.tmp 59)
                 (.seq (.reg [⟨(some 60), none, .mv (.tmp 7)⟩,
                     ⟨(some 6), none, .mv (.tmp 60)⟩] [6])
                  .ret)
                 .skip))
             (.reg [⟨(some 61), none, .mv (.tmp 8)⟩,
                ⟨(some 62), none, .mv (.tmp 1)⟩,
                ⟨(some 63), none, .mv (.tmp 10)⟩,
                ⟨(some 64), none, .idxL 5 (.tmp 62) (.tmp 63)⟩,
                ⟨(some 65), none, .loadN 5 (.tmp 64)⟩,
                ⟨(some 66), none, .call 9 [(.tmp 61), (.tmp 65)]⟩] [0, 1, 2, 7, 8, 10, 89, 90, 91, 92, 93, 94, 95, 118, 119, 120])))
           (.reg [⟨(some 51), none, .mv (.tmp 10)⟩,
              ⟨(some 52), none, .bin .add (.tmp 51) (.const (Value.int IntKind.i64 1))⟩,
              ⟨(some 10), none, .mv (.tmp 52)⟩] [0, 1, 2, 7, 8, 10, 89, 90, 91, 92, 93, 94, 95, 118, 119, 120]))))))
      (.seq (.seq (.reg [⟨(some 11), none, .mv (.const (Value.int IntKind.i64 0))⟩] [0, 2, 7, 8, 11, 89, 90, 91, 92, 93, 94, 95, 118, 119, 120])
        (.block 2
          (.loop
           (.seq (.seq (.reg [⟨(some 67), none, .mv (.tmp 11)⟩,
               ⟨(some 68), none, .mv (.tmp 0)⟩,
               ⟨(some 69), none, .lenL (.tmp 68)⟩,
               ⟨(some 70), none, .bin .lss (.tmp 67) (.tmp 69)⟩] [0, 2, 7, 8, 11, 70, 89, 90, 91, 92, 93, 94, 95, 118, 119, 120])
            (.cond (.tmp 70)
               .skip
               (.exit 2)))
           (.seq (.block 3
              (.seq (.reg [⟨(some 74), none, .mv (.tmp 8)⟩,
                 ⟨(some 75), none, .mv (.tmp 11)⟩,
                 ⟨(some 76), none, .mv (.tmp 2)⟩,
                 ⟨(some 77), none, .call 13 [(.tmp 74), (.tmp 75), (.tmp 76)]⟩,
                 ⟨(some 73), none, .mv (.tmp 77)⟩,
                 ⟨(some 78), none, .ext (.tmp 73) 0⟩,
                 ⟨(some 79), none, .ext (.tmp 73) 1⟩,
                 ⟨(some 12), none, .mv (.tmp 78)⟩,
                 ⟨(some 13), none, .mv (.tmp 79)⟩] [0, 2, 7, 8, 11, 12, 13, 89, 90, 91, 92, 93, 94, 95, 118, 119, 120])
              (.seq (.reg [⟨(some 81), none, .mv (.tmp 8)⟩,
                  ⟨(some 82), none, .mv (.tmp 11)⟩,
                  ⟨(some 83), none, .mv (.tmp 2)⟩,
                  ⟨(some 84), none, .call 14 [(.tmp 81), (.tmp 82), (.tmp 83)]⟩,
                  ⟨(some 80), none, .mv (.tmp 84)⟩,
                  ⟨(some 85), none, .ext (.tmp 80) 0⟩,
                  ⟨(some 86), none, .ext (.tmp 80) 1⟩,
                  ⟨(some 14), none, .mv (.tmp 85)⟩,
                  ⟨(some 15), none, .mv (.tmp 86)⟩] [0, 2, 7, 8, 11, 12, 13, 14, 15, 89, 90, 91, 92, 93, 94, 95, 118, 119, 120])
               (.seq (.seq (.reg [⟨(some 87), none, .mv (.tmp 15)⟩,
                    ⟨(some 88), none, .mv (.tmp 87)⟩,
                    ⟨(some 89), (some (88, true)), .mv (.tmp 13)⟩,
                    ⟨(some 90), (some (88, true)), .un .not (.tmp 89)⟩,
                    ⟨(some 91), (some (88, true)), .mv (.tmp 90)⟩,
                    ⟨(some 92), (some (91, false)), .mv (.tmp 12)⟩,
                    ⟨(some 93), (some (91, false)), .mv (.tmp 14)⟩,
                    ⟨(some 94), (some (91, false)), .bin .neq (.tmp 92) (.tmp 93)⟩,
                    ⟨(some 95), (some (88, true)), .pick (.tmp 91) (.const (Value.bool true)) (.tmp 94)⟩,
                    ⟨(some 96), none, .pick (.tmp 88) (.tmp 95) (.const (Value.bool false))⟩] [0, 2, 7, 8, 11, 12, 13, 15, 89, 90, 91, 92, 93, 94, 95, 96, 118, 119, 120])
                 (.cond (.tmp 96)
                    (.seq (.reg [⟨(some 6), none, .mv (.const (Value.bool false))⟩] [6])
                     .ret)
                    .skip))
                (.seq (.seq (.reg [⟨(some 97), none, .mv (.tmp 15)⟩] [0, 2, 7, 8, 11, 12, 13, 89, 90, 91, 92, 93, 94, 95, 97, 118, 119, 120])
                  (.cond (.tmp 97)
                     (.exit 3)
                     .skip))
                 (.seq (.seq (.reg [⟨(some 98), none, .mv (.tmp 0)⟩,
                      ⟨(some 99), none, .mv (.tmp 11)⟩,
                      ⟨(some 100), none, .idxL 1 (.tmp 98) (.tmp 99)⟩,
                      ⟨(some 101), none, .load1 (.tmp 100)⟩,
                      ⟨(some 102), none, .bin .lss (.tmp 101) (.const (Value.int IntKind.i64 0))⟩] [0, 2, 7, 8, 11, 12, 13, 89, 90, 91, 92, 93, 94, 95, 102, 118, 119, 120])
                   (.cond (.tmp 102)
                      (.seq (.seq (.reg [⟨(some 103), none, .mv (.tmp 13)⟩] [0, 2, 7, 8, 11, 89, 90, 91, 92, 93, 94, 95, 103, 118, 119, 120])
                        (.cond (.tmp 103)
                           (.seq (.reg [⟨(some 6), none, .mv (.const (Value.bool false))⟩] [6])
                            .ret)
                           .skip))
                       (.exit 3))
                      .skip))
                  (.seq (.reg [⟨(some 105), none, .mv (.tmp 8)⟩,
                      ⟨(some 106), none, .mv (.tmp 0)⟩,
                      ⟨(some 107), none, .mv (.tmp 11)⟩,
                      ⟨(some 108), none, .idxL 1 (.tmp 106) (.tmp 107)⟩,
                      ⟨(some 109), none, .load1 (.tmp 108)⟩,
                      ⟨(some 110), none, .mv (.tmp 2)⟩,
                      ⟨(some 111), none, .call 13 [(.tmp 105), (.tmp 109), (.tmp 110)]⟩,
                      ⟨(some 104), none, .mv (.tmp 111)⟩,
                      ⟨(some 112), none, .ext (.tmp 104) 0⟩,
                      ⟨(some 113), none, .ext (.tmp 104) 1⟩,
                      ⟨(some 16), none, .mv (.tmp 112)⟩,
                      ⟨(some 17), none, .mv (.tmp 113)⟩] [0, 2, 7, 8, 11, 12, 13, 16, 17, 89, 90, 91, 92, 93, 94, 95, 118, 119, 120])
                   (.seq (.reg [⟨(some 114), none, .mv (.tmp 12)⟩,
                       ⟨(some 115), none, .mv (.tmp 16)⟩,
                       ⟨(some 116), none, .bin .neq (.tmp 114) (.tmp 115)⟩,
                       ⟨(some 117), none, .mv (.tmp 116)⟩,
                       ⟨(some 118), (some (117, false)), .mv (.tmp 13)⟩,
                       ⟨(some 119), (some (117, false)), .mv (.tmp 17)⟩,
                       ⟨(some 120), (some (117, false)), .eqb true (.tmp 118) (.tmp 119)⟩,
                       ⟨(some 121), none, .pick (.tmp 117) (.const (Value.bool true)) (.tmp 120)⟩] [0, 2, 7, 8, 11, 89, 90, 91, 92, 93, 94, 95, 118, 119, 120, 121])
                    (.cond (.tmp 121)
                       (.seq (.reg [⟨(some 6), none, .mv (.const (Value.bool false))⟩] [6])
                        .ret)
                       .skip)))))))))
            (.reg [⟨(some 71), none, .mv (.tmp 11)⟩,
               ⟨(some 72), none, .bin .add (.tmp 71) (.const (Value.int IntKind.i64 1))⟩,
               ⟨(some 11), none, .mv (.tmp 72)⟩] [0, 2, 7, 8, 11, 89, 90, 91, 92, 93, 94, 95, 118, 119, 120]))))))
       (.seq (.reg [⟨(some 122), none, .mv (.tmp 7)⟩,
           ⟨(some 6), none, .mv (.tmp 122)⟩] [6])
        .ret))))))))⟩
theorem low5 : lowF Try.prog (assoc kp5) (assoc od5) 5 = some F5 := by kernel_rfl

end Go.Proofs.Ytffmipimgodfdaa

/-
  The code of functions, as terms: printed by a program, proved to be what the seat has.
-/
import Derived.Test.YtklkngccaemjdaaWOe
import Derived.Test.YtklkngccaemjdaaWO
import Derived.KernelRfl
import Derived.Test.YtklkngccaemjdaaProg
set_option linter.unusedSimpArgs false
set_option linter.unusedVariables false
namespace Go.Proofs.Ytklkngccaemjdaa
open Go Go.V
set_option maxRecDepth 100000
/- palaver/palaverlaw13.held -/
def kp22 : List (Nat × List Nat) := [(0, [0, 1]), (1, [1, 6]), (2, [1, 6, 7]), (3, [1, 6, 7, 13]), (4, [1, 6, 7]), (5, [1, 6, 7, 22]), (6, [4, 5]), (7, [4, 5])]
def od22 : List (Nat × List (List Nat)) := []
def F22 : FIR := ⟨28, [.tmp 4, .tmp 5],
 (.seq (.reg [⟨(some 4), none, .mv (.const (Value.string ⟨#[]⟩))⟩,
    ⟨(some 5), none, .mv (.const (Value.bool false))⟩] [0, 1])
 (.seq (.reg [⟨(some 8), none, .mv (.tmp 0)⟩,
     ⟨(some 9), none, .call 20 [(.tmp 8)]⟩,
     ⟨(some 6), none, .mv (.tmp 9)⟩] [1, 6])
  (.seq (.seq (.reg [⟨(some 7), none, .mv (.const (Value.int IntKind.i64 0))⟩] [1, 6, 7])
    (.block 0
      (.loop
       (.seq (.seq (.reg [⟨(some 10), none, .mv (.tmp 7)⟩,
           ⟨(some 11), none, .mv (.tmp 6)⟩,
           ⟨(some 12), none, .lenL (.tmp 11)⟩,
           ⟨(some 13), none, .bin .lss (.tmp 10) (.tmp 12)⟩] [1, 6, 7, 13])
        (.cond (.tmp 13)
           .skip
           (.exit 0)))
       (.seq (.block 1
          (.seq (.reg [⟨(some 16), none, .mv (.tmp 6)⟩,
             ⟨(some 17), none, .mv (.tmp 7)⟩,
             ⟨(some 18), none, .idxL 2 (.tmp 16) (.tmp 17)⟩,
             ⟨(some 19), none, .fld 0 (.tmp 18)⟩,
             ⟨(some 20), none, .load1 (.tmp 19)⟩,
             ⟨(some 21), none, .mv (.tmp 1)⟩,
             ⟨(some 22), none, .bin .eql (.tmp 20) (.tmp 21)⟩] [1, 6, 7, 22])
          (.cond (.tmp 22)
             (.seq (.reg [⟨(some 23), none, .mv (.tmp 6)⟩,
                 ⟨(some 24), none, .mv (.tmp 7)⟩,
                 ⟨(some 25), none, .idxL 2 (.tmp 23) (.tmp 24)⟩,
                 ⟨(some 26), none, .fld 1 (.tmp 25)⟩,
                 ⟨(some 27), none, .load1 (.tmp 26)⟩,
                 ⟨(some 4), none, .mv (.tmp 27)⟩,
                 ⟨(some 5), none, .mv (.const (Value.bool true))⟩] [4, 5])
              .ret)
             .skip)))
        (.reg [⟨(some 14), none, .mv (.tmp 7)⟩,
           ⟨(some 15), none, .bin .add (.tmp 14) (.const (Value.int IntKind.i64 1))⟩,
           ⟨(some 7), none, .mv (.tmp 15)⟩] [1, 6, 7]))))))
   (.seq (.reg [⟨(some 4), none, .mv (.const (Value.string ⟨#[]⟩))⟩,
       ⟨(some 5), none, .mv (.const (Value.bool false))⟩] [4, 5])
    .ret))))⟩
theorem low22 : lowF Try.prog (assoc kp22) (assoc od22) 22 = some F22 := by kernel_rfl

/- palaver/palaverlaw13.works -/
def kp21 : List (Nat × List Nat) := [(0, [28, 29, 44, 45, 48, 49, 64, 65, 66, 69, 70, 71, 76, 77, 78, 79, 80, 83, 84, 85, 86, 87, 91, 92, 95, 96, 97, 98, 99, 102, 103, 104, 105, 106]), (1, [1, 28, 29, 44, 45, 48, 49, 64, 65, 66, 69, 70, 71, 76, 77, 78, 79, 80, 83, 84, 85, 86, 87, 91, 92, 95, 96, 97, 98, 99, 102, 103, 104, 105, 106]), (2, [2, 3, 28, 29, 44, 45, 48, 49, 64, 65, 66, 69, 70, 71, 76, 77, 78, 79, 80, 83, 84, 85, 86, 87, 91, 92, 95, 96, 97, 98, 99, 102, 103, 104, 105, 106]), (3, [2, 30, 44, 45, 48, 49, 64, 65, 66, 69, 70, 71, 76, 77, 78, 79, 80, 83, 84, 85, 86, 87, 91, 92, 95, 96, 97, 98, 99, 102, 103, 104, 105, 106]), (4, [0]), (5, [2, 4, 44, 45, 48, 49, 64, 65, 66, 69, 70, 71, 76, 77, 78, 79, 80, 83, 84, 85, 86, 87, 91, 92, 95, 96, 97, 98, 99, 102, 103, 104, 105, 106]), (6, [4, 5, 44, 45, 48, 49, 64, 65, 66, 69, 70, 71, 76, 77, 78, 79, 80, 83, 84, 85, 86, 87, 91, 92, 95, 96, 97, 98, 99, 102, 103, 104, 105, 106]), (7, [4, 5, 6, 7, 44, 45, 48, 49, 64, 65, 66, 69, 70, 71, 76, 77, 78, 79, 80, 83, 84, 85, 86, 87, 91, 92, 95, 96, 97, 98, 99, 102, 103, 104, 105, 106]), (8, [4, 5, 6, 50, 64, 65, 66, 69, 70, 71, 76, 77, 78, 79, 80, 83, 84, 85, 86, 87, 91, 92, 95, 96, 97, 98, 99, 102, 103, 104, 105, 106]), (9, [0]), (10, [4, 5, 6, 8, 64, 65, 66, 69, 70, 71, 76, 77, 78, 79, 80, 83, 84, 85, 86, 87, 91, 92, 95, 96, 97, 98, 99, 102, 103, 104, 105, 106]), (11, [4, 5, 6, 8, 9, 64, 65, 66, 69, 70, 71, 76, 77, 78, 79, 80, 83, 84, 85, 86, 87, 91, 92, 95, 96, 97, 98, 99, 102, 103, 104, 105, 106]), (12, [4, 6, 8, 9, 10, 64, 65, 66, 69, 70, 71, 76, 77, 78, 79, 80, 83, 84, 85, 86, 87, 91, 92, 95, 96, 97, 98, 99, 102, 103, 104, 105, 106]), (13, [4, 8, 9, 10, 11, 64, 65, 66, 69, 70, 71, 76, 77, 78, 79, 80, 83, 84, 85, 86, 87, 91, 92, 95, 96, 97, 98, 99, 102, 103, 104, 105, 106]), (14, [4, 8, 9, 10, 11, 72, 76, 77, 78, 79, 80, 83, 84, 85, 86, 87, 91, 92, 95, 96, 97, 98, 99, 102, 103, 104, 105, 106]), (15, [0]), (16, [8, 9, 11, 12, 91, 92, 95, 96, 97, 98, 99, 102, 103, 104, 105, 106]), (17, [0])]
def od21 : List (Nat × List (List Nat)) := []
def F21 : FIR := ⟨108, [.tmp 0],
 (.seq (.reg [⟨(some 0), none, .mv (.const (Value.bool false))⟩] [28, 29, 44, 45, 48, 49, 64, 65, 66, 69, 70, 71, 76, 77, 78, 79, 80, 83, 84, 85, 86, 87, 91, 92, 95, 96, 97, 98, 99, 102, 103, 104, 105, 106])
 (.seq (.reg [⟨(some 13), none, .build [(Value.int IntKind.u8 0), (Value.int IntKind.i64 0), (Value.string ⟨#[]⟩)] []⟩,
     ⟨(some 14), none, .build [(Value.int IntKind.u8 0), (Value.int IntKind.i64 0), (Value.string ⟨#[]⟩)] []⟩,
     ⟨(some 15), none, .build [(Value.int IntKind.u8 0), (Value.int IntKind.i64 0), (Value.string ⟨#[]⟩)] []⟩,
     ⟨(some 16), none, .build [(Value.int IntKind.u8 0), (Value.int IntKind.i64 0), (Value.string ⟨#[]⟩)] [(0, 1, (.const (Value.int IntKind.u8 5)))]⟩,
     ⟨(some 17), none, .bslice 64 4 [(Value.int IntKind.u8 0), (Value.int IntKind.i64 0), (Value.string ⟨#[]⟩)] [(0, 3, (.tmp 13)), (3, 3, (.tmp 14)), (6, 3, (.tmp 15)), (9, 3, (.tmp 16))]⟩,
     ⟨(some 1), none, .mv (.tmp 17)⟩] [1, 28, 29, 44, 45, 48, 49, 64, 65, 66, 69, 70, 71, 76, 77, 78, 79, 80, 83, 84, 85, 86, 87, 91, 92, 95, 96, 97, 98, 99, 102, 103, 104, 105, 106])
  (.seq (.reg [⟨(some 19), none, .mv (.tmp 1)⟩,
      ⟨(some 20), none, .build [(Value.string ⟨#[]⟩), (Value.string ⟨#[]⟩)] [(0, 1, (.const (Value.string ⟨#[105, 109, 103]⟩))), (1, 1, (.const (Value.string ⟨#[111, 108, 100]⟩)))]⟩,
      ⟨(some 21), none, .bslice 46 1 [(Value.string ⟨#[]⟩), (Value.string ⟨#[]⟩)] [(0, 2, (.tmp 20))]⟩,
      ⟨(some 22), none, .call 10 [(.tmp 19), (.tmp 21)]⟩,
      ⟨(some 18), none, .mv (.tmp 22)⟩,
      ⟨(some 23), none, .ext (.tmp 18) 0⟩,
      ⟨(some 24), none, .ext (.tmp 18) 1⟩,
      ⟨(some 2), none, .mv (.tmp 23)⟩,
      ⟨(some 3), none, .mv (.tmp 24)⟩] [2, 3, 28, 29, 44, 45, 48, 49, 64, 65, 66, 69, 70, 71, 76, 77, 78, 79, 80, 83, 84, 85, 86, 87, 91, 92, 95, 96, 97, 98, 99, 102, 103, 104, 105, 106])
   (.seq (.seq (.reg [⟨(some 25), none, .mv (.tmp 2)⟩,
        ⟨(some 26), none, .eqnil false .ptr (.tmp 25)⟩,
        ⟨(some 27), none, .mv (.tmp 26)⟩,
        ⟨(some 28), (some (27, false)), .mv (.tmp 3)⟩,
        ⟨(some 29), (some (27, false)), .bin .neq (.tmp 28) (.const (Value.int IntKind.i64 0))⟩,
        ⟨(some 30), none, .pick (.tmp 27) (.const (Value.bool true)) (.tmp 29)⟩] [2, 30, 44, 45, 48, 49, 64, 65, 66, 69, 70, 71, 76, 77, 78, 79, 80, 83, 84, 85, 86, 87, 91, 92, 95, 96, 97, 98, 99, 102, 103, 104, 105, 106])
     (.cond (.tmp 30)
        (.seq (.reg [⟨(some 0), none, .mv (.const (Value.bool false))⟩] [0])
         .ret)
        .skip))
    (.seq (.reg [⟨(some 31), none, .mv (.tmp 2)⟩,
        ⟨(some 32), none, .call 23 [(.tmp 31), (.const (Value.string ⟨#[105, 109, 103]⟩)), (.const (Value.string ⟨#[110, 101, 119]⟩))]⟩,
        ⟨(some 4), none, .mv (.tmp 32)⟩] [2, 4, 44, 45, 48, 49, 64, 65, 66, 69, 70, 71, 76, 77, 78, 79, 80, 83, 84, 85, 86, 87, 91, 92, 95, 96, 97, 98, 99, 102, 103, 104, 105, 106])
     (.seq (.reg [⟨(some 33), none, .mv (.tmp 2)⟩,
         ⟨(some 34), none, .call 19 [(.tmp 33), (.const (Value.int IntKind.u64 0)), (.const (Value.slice none 0 0))]⟩,
         ⟨(some 5), none, .mv (.tmp 34)⟩] [4, 5, 44, 45, 48, 49, 64, 65, 66, 69, 70, 71, 76, 77, 78, 79, 80, 83, 84, 85, 86, 87, 91, 92, 95, 96, 97, 98, 99, 102, 103, 104, 105, 106])
      (.seq (.reg [⟨(some 36), none, .build [(Value.string ⟨#[]⟩), (Value.string ⟨#[]⟩)] [(0, 1, (.const (Value.string ⟨#[105, 109, 103]⟩))), (1, 1, (.const (Value.string ⟨#[111, 108, 100]⟩)))]⟩,
          ⟨(some 37), none, .bslice 46 1 [(Value.string ⟨#[]⟩), (Value.string ⟨#[]⟩)] [(0, 2, (.tmp 36))]⟩,
          ⟨(some 38), none, .call 10 [(.const (Value.slice none 0 0)), (.tmp 37)]⟩,
          ⟨(some 35), none, .mv (.tmp 38)⟩,
          ⟨(some 39), none, .ext (.tmp 35) 0⟩,
          ⟨(some 40), none, .ext (.tmp 35) 1⟩,
          ⟨(some 6), none, .mv (.tmp 39)⟩,
          ⟨(some 7), none, .mv (.tmp 40)⟩] [4, 5, 6, 7, 44, 45, 48, 49, 64, 65, 66, 69, 70, 71, 76, 77, 78, 79, 80, 83, 84, 85, 86, 87, 91, 92, 95, 96, 97, 98, 99, 102, 103, 104, 105, 106])
       (.seq (.seq (.reg [⟨(some 41), none, .mv (.tmp 5)⟩,
            ⟨(some 42), none, .eqnil false .ptr (.tmp 41)⟩,
            ⟨(some 43), none, .mv (.tmp 42)⟩,
            ⟨(some 44), (some (43, false)), .mv (.tmp 6)⟩,
            ⟨(some 45), (some (43, false)), .eqnil false .ptr (.tmp 44)⟩,
            ⟨(some 46), none, .pick (.tmp 43) (.const (Value.bool true)) (.tmp 45)⟩,
            ⟨(some 47), none, .mv (.tmp 46)⟩,
            ⟨(some 48), (some (47, false)), .mv (.tmp 7)⟩,
            ⟨(some 49), (some (47, false)), .bin .neq (.tmp 48) (.const (Value.int IntKind.i64 0))⟩,
            ⟨(some 50), none, .pick (.tmp 47) (.const (Value.bool true)) (.tmp 49)⟩] [4, 5, 6, 50, 64, 65, 66, 69, 70, 71, 76, 77, 78, 79, 80, 83, 84, 85, 86, 87, 91, 92, 95, 96, 97, 98, 99, 102, 103, 104, 105, 106])
         (.cond (.tmp 50)
            (.seq (.reg [⟨(some 0), none, .mv (.const (Value.bool false))⟩] [0])
             .ret)
            .skip))
        (.seq (.reg [⟨(some 51), none, .mv (.tmp 6)⟩,
            ⟨(some 52), none, .call 23 [(.tmp 51), (.const (Value.string ⟨#[105, 109, 103]⟩)), (.const (Value.string ⟨#[110, 101, 119]⟩))]⟩,
            ⟨(some 8), none, .mv (.tmp 52)⟩] [4, 5, 6, 8, 64, 65, 66, 69, 70, 71, 76, 77, 78, 79, 80, 83, 84, 85, 86, 87, 91, 92, 95, 96, 97, 98, 99, 102, 103, 104, 105, 106])
         (.seq (.reg [⟨(some 53), none, .mv (.tmp 6)⟩,
             ⟨(some 54), none, .call 26 [(.tmp 53)]⟩,
             ⟨(some 9), none, .mv (.tmp 54)⟩] [4, 5, 6, 8, 9, 64, 65, 66, 69, 70, 71, 76, 77, 78, 79, 80, 83, 84, 85, 86, 87, 91, 92, 95, 96, 97, 98, 99, 102, 103, 104, 105, 106])
          (.seq (.reg [⟨(some 55), none, .mv (.tmp 5)⟩,
              ⟨(some 56), none, .call 20 [(.tmp 55)]⟩,
              ⟨(some 10), none, .mv (.tmp 56)⟩] [4, 6, 8, 9, 10, 64, 65, 66, 69, 70, 71, 76, 77, 78, 79, 80, 83, 84, 85, 86, 87, 91, 92, 95, 96, 97, 98, 99, 102, 103, 104, 105, 106])
           (.seq (.reg [⟨(some 57), none, .mv (.tmp 6)⟩,
               ⟨(some 58), none, .call 19 [(.tmp 57), (.const (Value.int IntKind.u64 0)), (.const (Value.slice none 0 0))]⟩,
               ⟨(some 59), none, .call 20 [(.tmp 58)]⟩,
               ⟨(some 11), none, .mv (.tmp 59)⟩] [4, 8, 9, 10, 11, 64, 65, 66, 69, 70, 71, 76, 77, 78, 79, 80, 83, 84, 85, 86, 87, 91, 92, 95, 96, 97, 98, 99, 102, 103, 104, 105, 106])
            (.seq (.seq (.reg [⟨(some 60), none, .mv (.tmp 9)⟩,
                 ⟨(some 61), none, .lenL (.tmp 60)⟩,
                 ⟨(some 62), none, .bin .neq (.tmp 61) (.const (Value.int IntKind.i64 5))⟩,
                 ⟨(some 63), none, .mv (.tmp 62)⟩,
                 ⟨(some 64), (some (63, false)), .mv (.tmp 10)⟩,
                 ⟨(some 65), (some (63, false)), .lenL (.tmp 64)⟩,
                 ⟨(some 66), (some (63, false)), .bin .neq (.tmp 65) (.const (Value.int IntKind.i64 2))⟩,
                 ⟨(some 67), none, .pick (.tmp 63) (.const (Value.bool true)) (.tmp 66)⟩,
                 ⟨(some 68), none, .mv (.tmp 67)⟩,
                 ⟨(some 69), (some (68, false)), .mv (.tmp 11)⟩,
                 ⟨(some 70), (some (68, false)), .lenL (.tmp 69)⟩,
                 ⟨(some 71), (some (68, false)), .bin .neq (.tmp 70) (.const (Value.int IntKind.i64 1))⟩,
                 ⟨(some 72), none, .pick (.tmp 68) (.const (Value.bool true)) (.tmp 71)⟩] [4, 8, 9, 10, 11, 72, 76, 77, 78, 79, 80, 83, 84, 85, 86, 87, 91, 92, 95, 96, 97, 98, 99, 102, 103, 104, 105, 106])
              (.cond (.tmp 72)
                 (.seq (.reg [⟨(some 0), none, .mv (.const (Value.bool false))⟩] [0])
                  .ret)
                 .skip))
             (.seq (.reg [⟨(some 73), none, .mv (.tmp 4)⟩,
                 ⟨(some 74), none, .bin .eql (.tmp 73) (.const (Value.int IntKind.i64 36))⟩,
                 ⟨(some 75), none, .mv (.tmp 74)⟩,
                 ⟨(some 76), (some (75, true)), .mv (.tmp 10)⟩,
                 ⟨(some 77), (some (75, true)), .idxL 2 (.tmp 76) (.const (Value.int IntKind.i64 0))⟩,
                 ⟨(some 78), (some (75, true)), .loadN 2 (.tmp 77)⟩,
                 ⟨(some 79), (some (75, true)), .build [(Value.string ⟨#[]⟩), (Value.string ⟨#[]⟩)] [(0, 1, (.const (Value.string ⟨#[105, 109, 103]⟩))), (1, 1, (.const (Value.string ⟨#[111, 108, 100]⟩)))]⟩,
                 ⟨(some 80), (some (75, true)), .eqagg false [.str, .str] (.tmp 78) (.tmp 79)⟩,
                 ⟨(some 81), none, .pick (.tmp 75) (.tmp 80) (.const (Value.bool false))⟩,
                 ⟨(some 82), none, .mv (.tmp 81)⟩,
                 ⟨(some 83), (some (82, true)), .mv (.tmp 10)⟩,
                 ⟨(some 84), (some (82, true)), .idxL 2 (.tmp 83) (.const (Value.int IntKind.i64 1))⟩,
                 ⟨(some 85), (some (82, true)), .loadN 2 (.tmp 84)⟩,
                 ⟨(some 86), (some (82, true)), .build [(Value.string ⟨#[]⟩), (Value.string ⟨#[]⟩)] [(0, 1, (.const (Value.string ⟨#[105, 109, 103, 46, 116, 109, 112]⟩))), (1, 1, (.const (Value.string ⟨#[110, 101, 119]⟩)))]⟩,
                 ⟨(some 87), (some (82, true)), .eqagg false [.str, .str] (.tmp 85) (.tmp 86)⟩,
                 ⟨(some 88), none, .pick (.tmp 82) (.tmp 87) (.const (Value.bool false))⟩,
                 ⟨(some 12), none, .mv (.tmp 88)⟩] [8, 9, 11, 12, 91, 92, 95, 96, 97, 98, 99, 102, 103, 104, 105, 106])
              (.seq (.reg [⟨(some 89), none, .mv (.tmp 12)⟩,
                  ⟨(some 90), none, .mv (.tmp 89)⟩,
                  ⟨(some 91), (some (90, true)), .mv (.tmp 8)⟩,
                  ⟨(some 92), (some (90, true)), .bin .eql (.tmp 91) (.const (Value.int IntKind.i64 0))⟩,
                  ⟨(some 93), none, .pick (.tmp 90) (.tmp 92) (.const (Value.bool false))⟩,
                  ⟨(some 94), none, .mv (.tmp 93)⟩,
                  ⟨(some 95), (some (94, true)), .mv (.tmp 11)⟩,
                  ⟨(some 96), (some (94, true)), .idxL 2 (.tmp 95) (.const (Value.int IntKind.i64 0))⟩,
                  ⟨(some 97), (some (94, true)), .fld 1 (.tmp 96)⟩,
                  ⟨(some 98), (some (94, true)), .load1 (.tmp 97)⟩,
                  ⟨(some 99), (some (94, true)), .bin .eql (.tmp 98) (.const (Value.string ⟨#[110, 101, 119]⟩))⟩,
                  ⟨(some 100), none, .pick (.tmp 94) (.tmp 99) (.const (Value.bool false))⟩,
                  ⟨(some 101), none, .mv (.tmp 100)⟩,
                  ⟨(some 102), (some (101, true)), .mv (.tmp 9)⟩,
                  ⟨(some 103), (some (101, true)), .idxL 6 (.tmp 102) (.const (Value.int IntKind.i64 4))⟩,
                  ⟨(some 104), (some (101, true)), .loadN 6 (.tmp 103)⟩,
                  ⟨(some 105), (some (101, true)), .build [(Value.int IntKind.u8 0), (Value.int IntKind.i64 0), (Value.string ⟨#[]⟩), (Value.string ⟨#[]⟩), (Value.int IntKind.i64 0), (Value.int IntKind.i64 0)] [(0, 1, (.const (Value.int IntKind.u8 7))), (2, 1, (.const (Value.string ⟨#[105, 109, 103, 46, 116, 109, 112]⟩))), (3, 1, (.const (Value.string ⟨#[105, 109, 103]⟩)))]⟩,
                  ⟨(some 106), (some (101, true)), .eqagg false [.int, .int, .str, .str, .int, .int] (.tmp 104) (.tmp 105)⟩,
                  ⟨(some 107), none, .pick (.tmp 101) (.tmp 106) (.const (Value.bool false))⟩,
                  ⟨(some 0), none, .mv (.tmp 107)⟩] [0])
               .ret)))))))))))))))⟩
theorem low21 : lowF Try.prog (assoc kp21) (assoc od21) 21 = some F21 := by kernel_rfl

/- palaver/save.Save -/
def kp23 : List (Nat × List Nat) := [(0, [0, 1, 2]), (1, [0, 1, 7]), (2, [0, 1, 7, 14]), (3, [6]), (4, [6])]
def od23 : List (Nat × List (List Nat)) := []
def F23 : FIR := ⟨21, [.tmp 6],
 (.seq (.reg [⟨(some 6), none, .mv (.const (Value.int IntKind.i64 0))⟩] [0, 1, 2])
 (.seq (.seq (.reg [⟨(some 8), none, .mv (.tmp 0)⟩,
      ⟨(some 9), none, .mv (.tmp 1)⟩,
      ⟨(some 10), none, .call 51 [(.tmp 9)]⟩,
      ⟨(some 11), none, .mv (.tmp 2)⟩,
      ⟨(some 12), none, .call 50 [(.tmp 8), (.tmp 10), (.tmp 11)]⟩,
      ⟨(some 7), none, .mv (.tmp 12)⟩] [0, 1, 7])
   (.seq (.reg [⟨(some 13), none, .mv (.tmp 7)⟩,
       ⟨(some 14), none, .bin .neq (.tmp 13) (.const (Value.int IntKind.i64 0))⟩] [0, 1, 7, 14])
    (.cond (.tmp 14)
       (.seq (.reg [⟨(some 15), none, .mv (.tmp 7)⟩,
           ⟨(some 6), none, .mv (.tmp 15)⟩] [6])
        .ret)
       .skip)))
  (.seq (.reg [⟨(some 16), none, .mv (.tmp 0)⟩,
      ⟨(some 17), none, .mv (.tmp 1)⟩,
      ⟨(some 18), none, .call 51 [(.tmp 17)]⟩,
      ⟨(some 19), none, .mv (.tmp 1)⟩,
      ⟨(some 20), none, .call 18 [(.tmp 16), (.tmp 18), (.tmp 19)]⟩,
      ⟨(some 6), none, .mv (.tmp 20)⟩] [6])
   .ret)))⟩
theorem low23 : lowF Try.prog (assoc kp23) (assoc od23) 23 = some F23 := by kernel_rfl

/- palaver/save.temporary -/
def kp51 : List (Nat × List Nat) := [(0, [0]), (1, [2])]
def od51 : List (Nat × List (List Nat)) := []
def F51 : FIR := ⟨5, [.tmp 2],
 (.seq (.reg [⟨(some 2), none, .mv (.const (Value.string ⟨#[]⟩))⟩] [0])
 (.seq (.reg [⟨(some 3), none, .mv (.tmp 0)⟩,
     ⟨(some 4), none, .bin .add (.tmp 3) (.const (Value.string ⟨#[46, 116, 109, 112]⟩))⟩,
     ⟨(some 2), none, .mv (.tmp 4)⟩] [2])
  .ret))⟩
theorem low51 : lowF Try.prog (assoc kp51) (assoc od51) 51 = some F51 := by kernel_rfl

/- palaver/save.pieces -/
def kp71 : List (Nat × List Nat) := [(0, [1]), (1, [2])]
def od71 : List (Nat × List (List Nat)) := []
def F71 : FIR := ⟨4, [.tmp 2],
 (.seq (.reg [⟨(some 1), none, .box 9 (.tmp 0)⟩,
    ⟨(some 2), none, .mv (.const Value.nilFunc)⟩] [1])
 (.seq (.reg [⟨(some 3), none, .clos (.func 92) [] [(.tmp 1)]⟩,
     ⟨(some 2), none, .mv (.tmp 3)⟩] [2])
  .ret))⟩
theorem low71 : lowF Try.prog (assoc kp71) (assoc od71) 71 = some F71 := by kernel_rfl

/- palaver/save.pieces$1 -/
def kp92 : List (Nat × List Nat) := [(0, [0, 1, 6]), (1, [0, 1, 3]), (2, [0, 1, 3, 15]), (3, [0, 1])]
def od92 : List (Nat × List (List Nat)) := []
def F92 : FIR := ⟨19, [],
 (.block 0
  (.loop
   (.seq (.seq (.reg [⟨(some 4), none, .load1 (.tmp 1)⟩,
       ⟨(some 5), none, .lenS (.tmp 4)⟩,
       ⟨(some 6), none, .bin .gtr (.tmp 5) (.const (Value.int IntKind.i64 0))⟩] [0, 1, 6])
    (.cond (.tmp 6)
       .skip
       (.exit 0)))
   (.block 1
     (.seq (.reg [⟨(some 7), none, .load1 (.tmp 1)⟩,
        ⟨(some 8), none, .lenS (.tmp 7)⟩,
        ⟨(some 9), none, .min2 (.const (Value.int IntKind.i64 4096)) (.tmp 8)⟩,
        ⟨(some 3), none, .mv (.tmp 9)⟩] [0, 1, 3])
     (.seq (.seq (.reg [⟨(some 10), none, .mv (.tmp 0)⟩,
          ⟨(some 11), none, .load1 (.tmp 1)⟩,
          ⟨(some 12), none, .mv (.tmp 3)⟩,
          ⟨(some 13), none, .slcS (.tmp 11) none (some (.tmp 12))⟩,
          ⟨(some 14), none, .callv (.tmp 10) [(.tmp 13)]⟩,
          ⟨(some 15), none, .un .not (.tmp 14)⟩] [0, 1, 3, 15])
       (.cond (.tmp 15)
          .ret
          .skip))
      (.reg [⟨(some 16), none, .load1 (.tmp 1)⟩,
         ⟨(some 17), none, .mv (.tmp 3)⟩,
         ⟨(some 18), none, .slcS (.tmp 16) (some (.tmp 17)) none⟩,
         ⟨none, none, .store 1 (.tmp 1) (.tmp 18)⟩] [0, 1])))))))⟩
theorem low92 : lowF Try.prog (assoc kp92) (assoc od92) 92 = some F92 := by kernel_rfl

/- palaver/save.lay$1 -/
def kp70 : List (Nat × List Nat) := [(0, [2, 3]), (1, [2, 3, 8]), (2, [])]
def od70 : List (Nat × List (List Nat)) := []
def F70 : FIR := ⟨10, [],
 (.seq (.reg [⟨(some 4), none, .load1 (.tmp 0)⟩,
    ⟨(some 5), none, .load1 (.tmp 1)⟩,
    ⟨(some 6), none, .call 17 [(.tmp 4), (.tmp 5)]⟩,
    ⟨(some 3), none, .mv (.tmp 6)⟩] [2, 3])
 (.seq (.reg [⟨(some 7), none, .load1 (.tmp 2)⟩,
     ⟨(some 8), none, .bin .eql (.tmp 7) (.const (Value.int IntKind.i64 0))⟩] [2, 3, 8])
  (.cond (.tmp 8)
     (.reg [⟨(some 9), none, .mv (.tmp 3)⟩,
        ⟨none, none, .store 1 (.tmp 2) (.tmp 9)⟩] [])
     .skip)))⟩
theorem low70 : lowF Try.prog (assoc kp70) (assoc od70) 70 = some F70 := by kernel_rfl

/- palaver/save.lay -/
def kp50 : List (Nat × List Nat) := [(0, [1, 2, 3, 6]), (1, [2, 3, 6, 7]), (2, [2, 3, 6, 7, 17]), (3, [6]), (4, [2, 3, 6, 7]), (5, [3, 6, 7, 21]), (6, [3, 6, 7, 8]), (7, [6, 9]), (8, [6, 9, 28]), (9, [6]), (10, [6])]
def od50 : List (Nat × List (List Nat)) := []
def F50 : DIR := ⟨33, [.cell1 6],
 [(.reg [⟨(some 3), none, .box 26 (.tmp 0)⟩,
    ⟨(some 6), none, .alloc 27 [(Value.int IntKind.i64 0)]⟩] [1, 2, 3, 6]),
 (.reg [⟨(some 11), none, .load1 (.tmp 3)⟩,
    ⟨(some 12), none, .mv (.tmp 1)⟩,
    ⟨(some 13), none, .call 11 [(.tmp 11), (.tmp 12), (.const (Value.int IntKind.i64 2))]⟩,
    ⟨(some 10), none, .mv (.tmp 13)⟩,
    ⟨(some 14), none, .ext (.tmp 10) 0⟩,
    ⟨(some 15), none, .ext (.tmp 10) 1⟩,
    ⟨(some 7), none, .alloc 3 [(Value.int IntKind.i64 0)]⟩,
    ⟨none, none, .store 1 (.tmp 7) (.tmp 14)⟩,
    ⟨none, none, .store 1 (.tmp 6) (.tmp 15)⟩] [2, 3, 6, 7]),
 (.seq (.reg [⟨(some 16), none, .load1 (.tmp 6)⟩,
     ⟨(some 17), none, .bin .neq (.tmp 16) (.const (Value.int IntKind.i64 0))⟩] [2, 3, 6, 7, 17])
  (.cond (.tmp 17)
     (.seq (.reg [⟨(some 18), none, .load1 (.tmp 6)⟩,
         ⟨none, none, .store 1 (.tmp 6) (.tmp 18)⟩] [6])
      .ret)
     .skip))],
 ⟨19, 70, [(.tmp 3), (.tmp 7), (.tmp 6)]⟩,
 (.seq (.seq (.reg [⟨(some 20), none, .mv (.tmp 2)⟩,
     ⟨(some 21), none, .call 71 [(.tmp 20)]⟩] [3, 6, 7, 21])
  (.block 0
    (.rangef (.tmp 21) [22]
      (.reg [⟨(some 8), none, .mv (.tmp 22)⟩] [3, 6, 7, 8])
      (.block 1
        (.seq (.reg [⟨(some 23), none, .load1 (.tmp 3)⟩,
           ⟨(some 24), none, .load1 (.tmp 7)⟩,
           ⟨(some 25), none, .mv (.tmp 8)⟩,
           ⟨(some 26), none, .call 13 [(.tmp 23), (.tmp 24), (.tmp 25)]⟩,
           ⟨(some 9), none, .mv (.tmp 26)⟩] [6, 9])
        (.seq (.reg [⟨(some 27), none, .mv (.tmp 9)⟩,
            ⟨(some 28), none, .bin .neq (.tmp 27) (.const (Value.int IntKind.i64 0))⟩] [6, 9, 28])
         (.cond (.tmp 28)
            (.seq (.reg [⟨(some 29), none, .mv (.tmp 9)⟩,
                ⟨none, none, .store 1 (.tmp 6) (.tmp 29)⟩] [6])
             .ret)
            .skip)))))))
 (.seq (.reg [⟨(some 30), none, .load1 (.tmp 3)⟩,
     ⟨(some 31), none, .load1 (.tmp 7)⟩,
     ⟨(some 32), none, .call 16 [(.tmp 30), (.tmp 31)]⟩,
     ⟨none, none, .store 1 (.tmp 6) (.tmp 32)⟩] [6])
  .ret))⟩
theorem low50 : lowFD Try.prog (assoc kp50) (assoc od50) 50 = some F50 := by kernel_rfl

end Go.Proofs.Ytklkngccaemjdaa

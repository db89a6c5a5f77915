/-
  The code of functions, as terms: printed by a program, proved to be what the seat has.
-/
import Derived.Test.YtklkngccaemjdaaWOd
import Derived.KernelRfl
import Derived.Test.YtklkngccaemjdaaProg
set_option linter.unusedSimpArgs false
set_option linter.unusedVariables false
namespace Go.Proofs.Ytklkngccaemjdaa
open Go Go.V
set_option maxRecDepth 100000
/- palaver/world.New -/
def kp10 : List (Nat × List Nat) := [(0, [0, 1, 32, 33, 34, 35, 38, 39, 40, 41, 62, 63, 64]), (1, [0, 1, 6, 32, 33, 34, 35, 38, 39, 40, 41, 62, 63, 64]), (2, [0, 1, 6, 14, 15, 16, 32, 33, 34, 35, 38, 39, 40, 41, 62, 63, 64]), (3, [0, 1, 6, 14, 15, 16, 17, 32, 33, 34, 35, 38, 39, 40, 41, 62, 63, 64]), (4, [0, 1, 6, 8, 14, 15, 16, 32, 33, 34, 35, 38, 39, 40, 41, 62, 63, 64]), (5, [0, 1, 6, 8, 10, 14, 15, 16, 32, 33, 34, 35, 38, 39, 40, 41, 62, 63, 64]), (6, [0, 1, 6, 8, 14, 15, 16, 32, 33, 34, 35, 38, 39, 40, 41, 42, 62, 63, 64]), (7, [4, 5]), (8, [0, 1, 6, 14, 15, 16, 32, 33, 34, 35, 38, 39, 40, 41, 62, 63, 64]), (9, [0, 1, 6, 14, 15, 16, 32, 33, 34, 35, 38, 39, 40, 41, 62, 63, 64]), (10, [0, 6, 65]), (11, [4, 5]), (12, [6]), (13, [4, 5])]
def od10 : List (Nat × List (List Nat)) := [(5, [[0, 1, 2, 3, 4, 5, 6, 7, 8, 9, 10, 11]]), (8, [[0, 1, 2, 3, 4, 5, 6, 7, 9, 10, 8, 11, 12, 13, 14], [0, 1, 2, 3, 4, 5, 6, 7, 9, 10, 11, 8, 12, 13, 14]])]
def F10 : FIR := ⟨72, [.tmp 4, .tmp 5],
 (.seq (.reg [⟨(some 4), none, .mv (.const (Value.pointer none))⟩,
    ⟨(some 5), none, .mv (.const (Value.int IntKind.i64 0))⟩] [0, 1, 32, 33, 34, 35, 38, 39, 40, 41, 62, 63, 64])
 (.seq (.reg [⟨(some 11), none, .mkmap⟩,
     ⟨(some 12), none, .build [(Value.slice none 0 0), (Value.map none), (Value.slice none 0 0), (Value.slice none 0 0), (Value.int IntKind.i64 0), (Value.int IntKind.i64 0), (Value.bool false)] [(1, 1, (.tmp 11))]⟩,
     ⟨(some 13), none, .box 72 (.tmp 12)⟩,
     ⟨(some 6), none, .mv (.tmp 13)⟩] [0, 1, 6, 32, 33, 34, 35, 38, 39, 40, 41, 62, 63, 64])
  (.seq (.seq (.reg [⟨(some 14), none, .mv (.tmp 1)⟩,
       ⟨(some 15), none, .lenL (.tmp 14)⟩,
       ⟨(some 16), none, .mv (.const (Value.int IntKind.i64 0))⟩] [0, 1, 6, 14, 15, 16, 32, 33, 34, 35, 38, 39, 40, 41, 62, 63, 64])
    (.block 0
      (.loop
       (.seq (.reg [⟨(some 17), none, .bin .lss (.tmp 16) (.tmp 15)⟩] [0, 1, 6, 14, 15, 16, 17, 32, 33, 34, 35, 38, 39, 40, 41, 62, 63, 64])
       (.seq (.cond (.tmp 17)
           .skip
           (.exit 0))
        (.seq (.block 1
           (.seq (.reg [⟨(some 18), none, .idxL 2 (.tmp 14) (.tmp 16)⟩,
              ⟨(some 19), none, .loadN 2 (.tmp 18)⟩,
              ⟨(some 8), none, .alloc 46 [(Value.string ⟨#[]⟩), (Value.string ⟨#[]⟩)]⟩,
              ⟨none, none, .store 2 (.tmp 8) (.tmp 19)⟩] [0, 1, 6, 8, 14, 15, 16, 32, 33, 34, 35, 38, 39, 40, 41, 62, 63, 64])
           (.seq (.draw [[⟨(some 21), none, .mv (.tmp 6)⟩,
                ⟨(some 22), none, .nilck (.tmp 21)⟩,
                ⟨(some 23), none, .fld 1 (.tmp 22)⟩,
                ⟨(some 24), none, .load1 (.tmp 23)⟩,
                ⟨(some 25), none, .fld 0 (.tmp 8)⟩,
                ⟨(some 26), none, .load1 (.tmp 25)⟩,
                ⟨(some 27), none, .lookup .str (Value.pointer none) true (.tmp 24) (.tmp 26)⟩,
                ⟨(some 20), none, .mv (.tmp 27)⟩,
                ⟨(some 28), none, .ext (.tmp 20) 0⟩,
                ⟨(some 29), none, .ext (.tmp 20) 1⟩,
                ⟨(some 9), none, .mv (.tmp 28)⟩,
                ⟨(some 10), none, .mv (.tmp 29)⟩]] [0, 1, 6, 8, 10, 14, 15, 16, 32, 33, 34, 35, 38, 39, 40, 41, 62, 63, 64])
            (.seq (.seq (.reg [⟨(some 30), none, .mv (.tmp 10)⟩,
                 ⟨(some 31), none, .mv (.tmp 30)⟩,
                 ⟨(some 32), (some (31, false)), .fld 0 (.tmp 8)⟩,
                 ⟨(some 33), (some (31, false)), .load1 (.tmp 32)⟩,
                 ⟨(some 34), (some (31, false)), .call 29 [(.tmp 33)]⟩,
                 ⟨(some 35), (some (31, false)), .un .not (.tmp 34)⟩,
                 ⟨(some 36), none, .pick (.tmp 31) (.const (Value.bool true)) (.tmp 35)⟩,
                 ⟨(some 37), none, .mv (.tmp 36)⟩,
                 ⟨(some 38), (some (37, false)), .fld 1 (.tmp 8)⟩,
                 ⟨(some 39), (some (37, false)), .load1 (.tmp 38)⟩,
                 ⟨(some 40), (some (37, false)), .lenS (.tmp 39)⟩,
                 ⟨(some 41), (some (37, false)), .bin .gtr (.tmp 40) (.const (Value.int IntKind.i64 4194304))⟩,
                 ⟨(some 42), none, .pick (.tmp 37) (.const (Value.bool true)) (.tmp 41)⟩] [0, 1, 6, 8, 14, 15, 16, 32, 33, 34, 35, 38, 39, 40, 41, 42, 62, 63, 64])
              (.cond (.tmp 42)
                 (.seq (.reg [⟨(some 4), none, .mv (.const (Value.pointer none))⟩,
                     ⟨(some 5), none, .mv (.const (Value.int IntKind.i64 1))⟩] [4, 5])
                  .ret)
                 .skip))
             (.draw [[⟨(some 43), none, .mv (.tmp 6)⟩,
                 ⟨(some 44), none, .nilck (.tmp 43)⟩,
                 ⟨(some 45), none, .fld 1 (.tmp 44)⟩,
                 ⟨(some 46), none, .load1 (.tmp 45)⟩,
                 ⟨(some 47), none, .fld 0 (.tmp 8)⟩,
                 ⟨(some 48), none, .load1 (.tmp 47)⟩,
                 ⟨(some 49), none, .fld 1 (.tmp 8)⟩,
                 ⟨(some 50), none, .load1 (.tmp 49)⟩,
                 ⟨(some 52), none, .fld 1 (.tmp 8)⟩,
                 ⟨(some 53), none, .load1 (.tmp 52)⟩,
                 ⟨(some 51), none, .s2b 5 (.tmp 50)⟩,
                 ⟨(some 54), none, .s2b 5 (.tmp 53)⟩,
                 ⟨(some 55), none, .build [(Value.slice none 0 0), (Value.slice none 0 0), (Value.slice none 0 0)] [(0, 1, (.tmp 51)), (1, 1, (.tmp 54))]⟩,
                 ⟨(some 56), none, .box 77 (.tmp 55)⟩,
                 ⟨none, none, .mapupd .str (.tmp 46) (.tmp 48) (.tmp 56)⟩],
               [⟨(some 43), none, .mv (.tmp 6)⟩,
                 ⟨(some 44), none, .nilck (.tmp 43)⟩,
                 ⟨(some 45), none, .fld 1 (.tmp 44)⟩,
                 ⟨(some 46), none, .load1 (.tmp 45)⟩,
                 ⟨(some 47), none, .fld 0 (.tmp 8)⟩,
                 ⟨(some 48), none, .load1 (.tmp 47)⟩,
                 ⟨(some 49), none, .fld 1 (.tmp 8)⟩,
                 ⟨(some 50), none, .load1 (.tmp 49)⟩,
                 ⟨(some 52), none, .fld 1 (.tmp 8)⟩,
                 ⟨(some 53), none, .load1 (.tmp 52)⟩,
                 ⟨(some 54), none, .s2b 5 (.tmp 53)⟩,
                 ⟨(some 51), none, .s2b 5 (.tmp 50)⟩,
                 ⟨(some 55), none, .build [(Value.slice none 0 0), (Value.slice none 0 0), (Value.slice none 0 0)] [(0, 1, (.tmp 51)), (1, 1, (.tmp 54))]⟩,
                 ⟨(some 56), none, .box 77 (.tmp 55)⟩,
                 ⟨none, none, .mapupd .str (.tmp 46) (.tmp 48) (.tmp 56)⟩]] [0, 1, 6, 14, 15, 16, 32, 33, 34, 35, 38, 39, 40, 41, 62, 63, 64])))))
         (.reg [⟨(some 57), none, .bin .add (.tmp 16) (.const (Value.int IntKind.i64 1))⟩,
            ⟨(some 16), none, .mv (.tmp 57)⟩] [0, 1, 6, 14, 15, 16, 32, 33, 34, 35, 38, 39, 40, 41, 62, 63, 64])))))))
   (.seq (.seq (.reg [⟨(some 58), none, .mv (.tmp 0)⟩,
        ⟨(some 59), none, .lenL (.tmp 58)⟩,
        ⟨(some 60), none, .bin .gtr (.tmp 59) (.const (Value.int IntKind.i64 65536))⟩,
        ⟨(some 61), none, .mv (.tmp 60)⟩,
        ⟨(some 62), (some (61, false)), .mv (.tmp 1)⟩,
        ⟨(some 63), (some (61, false)), .lenL (.tmp 62)⟩,
        ⟨(some 64), (some (61, false)), .bin .gtr (.tmp 63) (.const (Value.int IntKind.i64 64))⟩,
        ⟨(some 65), none, .pick (.tmp 61) (.const (Value.bool true)) (.tmp 64)⟩] [0, 6, 65])
     (.cond (.tmp 65)
        (.seq (.reg [⟨(some 4), none, .mv (.const (Value.pointer none))⟩,
            ⟨(some 5), none, .mv (.const (Value.int IntKind.i64 1))⟩] [4, 5])
         .ret)
        .skip))
    (.seq (.reg [⟨(some 66), none, .mv (.tmp 6)⟩,
        ⟨(some 67), none, .mv (.tmp 0)⟩,
        ⟨(some 68), none, .call 30 [(.tmp 67)]⟩,
        ⟨(some 69), none, .nilck (.tmp 66)⟩,
        ⟨(some 70), none, .fld 0 (.tmp 69)⟩,
        ⟨none, none, .store 1 (.tmp 70) (.tmp 68)⟩] [6])
     (.seq (.reg [⟨(some 71), none, .mv (.tmp 6)⟩,
         ⟨(some 4), none, .mv (.tmp 71)⟩,
         ⟨(some 5), none, .mv (.const (Value.int IntKind.i64 0))⟩] [4, 5])
      .ret))))))⟩
theorem low10 : lowF Try.prog (assoc kp10) (assoc od10) 10 = some F10 := by kernel_rfl

/- (*palaver/world.World).Left -/
def kp19 : List (Nat × List Nat) := [(0, [0, 1, 2, 76, 77, 78, 79, 80]), (1, [0, 1, 2, 7, 76, 77, 78, 79, 80]), (2, [0, 1, 7, 76, 77, 78, 79, 80]), (3, [0, 1, 7, 8, 76, 77, 78, 79, 80]), (4, [0, 1, 7, 8, 41, 76, 77, 78, 79, 80]), (5, [0, 1, 7, 8, 41, 43, 76, 77, 78, 79, 80]), (6, [0, 1, 7, 8, 10, 41, 76, 77, 78, 79, 80]), (7, [0, 1, 7, 8, 41, 49, 50, 51, 76, 77, 78, 79, 80]), (8, [0, 1, 7, 8, 41, 49, 50, 51, 52, 76, 77, 78, 79, 80]), (9, [0, 1, 7, 8, 12, 41, 49, 50, 51, 76, 77, 78, 79, 80]), (10, [0, 1, 7, 8, 41, 49, 50, 51, 76, 77, 78, 79, 80]), (11, [0, 1, 7, 8, 41, 49, 50, 51, 76, 77, 78, 79, 80]), (12, [0, 1, 7, 8, 76, 77, 78, 79, 80]), (13, [0, 1, 7, 8, 13, 76, 77, 78, 79, 80]), (14, [0, 1, 7, 13, 64, 65, 66, 76, 77, 78, 79, 80]), (15, [0, 1, 7, 13, 64, 65, 66, 67, 76, 77, 78, 79, 80]), (16, [0, 1, 7, 13, 14, 15, 64, 65, 66, 76, 77, 78, 79, 80]), (17, [0, 1, 7, 13, 64, 65, 66, 76, 77, 78, 79, 80]), (18, [0, 1, 7, 13, 64, 65, 66, 76, 77, 78, 79, 80]), (19, [7, 13, 87]), (20, [7, 13, 87, 89]), (21, [7, 13, 16, 17, 87]), (22, [7, 13, 16, 17, 18, 87]), (23, [7, 13, 16, 18, 87, 101, 102, 103]), (24, [7, 13, 16, 18, 87, 101, 102, 103, 104]), (25, [7, 13, 16, 18, 20, 87, 101, 102, 103]), (26, [7, 13, 16, 18, 20, 87, 101, 102, 103, 110]), (27, [7, 13, 16, 18, 87, 101, 102, 103]), (28, [7, 13, 16, 18, 87, 101, 102, 103]), (29, [7, 13, 87]), (30, [6])]
def od19 : List (Nat × List (List Nat)) := [(29, [[0, 1, 2, 3, 4, 5, 6, 7, 8, 9, 10], [0, 1, 2, 4, 5, 6, 7, 3, 8, 9, 10]])]
def F19 : FIR := ⟨126, [.tmp 6],
 (.seq (.reg [⟨(some 6), none, .mv (.const (Value.pointer none))⟩] [0, 1, 2, 76, 77, 78, 79, 80])
 (.seq (.reg [⟨(some 21), none, .mkmap⟩,
     ⟨(some 22), none, .mv (.tmp 0)⟩,
     ⟨(some 23), none, .nilck (.tmp 22)⟩,
     ⟨(some 24), none, .fld 4 (.tmp 23)⟩,
     ⟨(some 25), none, .load1 (.tmp 24)⟩,
     ⟨(some 26), none, .build [(Value.slice none 0 0), (Value.map none), (Value.slice none 0 0), (Value.slice none 0 0), (Value.int IntKind.i64 0), (Value.int IntKind.i64 0), (Value.bool false)] [(1, 1, (.tmp 21)), (4, 1, (.tmp 25))]⟩,
     ⟨(some 27), none, .box 72 (.tmp 26)⟩,
     ⟨(some 7), none, .mv (.tmp 27)⟩] [0, 1, 2, 7, 76, 77, 78, 79, 80])
  (.seq (.reg [⟨(some 28), none, .mv (.tmp 7)⟩,
      ⟨(some 29), none, .mv (.tmp 2)⟩,
      ⟨(some 30), none, .mv (.tmp 2)⟩,
      ⟨(some 31), none, .lenL (.tmp 30)⟩,
      ⟨(some 32), none, .min2 (.tmp 31) (.const (Value.int IntKind.i64 65536))⟩,
      ⟨(some 33), none, .slcL 3 (.tmp 29) none (some (.tmp 32)) none⟩,
      ⟨(some 34), none, .call 30 [(.tmp 33)]⟩,
      ⟨(some 35), none, .nilck (.tmp 28)⟩,
      ⟨(some 36), none, .fld 0 (.tmp 35)⟩,
      ⟨none, none, .store 1 (.tmp 36) (.tmp 34)⟩] [0, 1, 7, 76, 77, 78, 79, 80])
   (.seq (.reg [⟨(some 8), none, .mv (.const (Value.slice none 0 0))⟩] [0, 1, 7, 8, 76, 77, 78, 79, 80])
    (.seq (.seq (.reg [⟨(some 37), none, .mv (.tmp 0)⟩,
         ⟨(some 38), none, .nilck (.tmp 37)⟩,
         ⟨(some 39), none, .fld 1 (.tmp 38)⟩,
         ⟨(some 40), none, .load1 (.tmp 39)⟩,
         ⟨(some 41), none, .rangeM (.tmp 40)⟩] [0, 1, 7, 8, 41, 76, 77, 78, 79, 80])
      (.block 0
        (.loop
         (.seq (.reg [⟨(some 42), none, .next (.tmp 41) false⟩,
            ⟨(some 43), none, .ext (.tmp 42) 0⟩] [0, 1, 7, 8, 41, 43, 76, 77, 78, 79, 80])
         (.seq (.cond (.tmp 43)
             .skip
             (.exit 0))
          (.block 1
            (.seq (.reg [⟨(some 44), none, .entry (.tmp 41)⟩,
               ⟨(some 45), none, .ext (.tmp 44) 1⟩,
               ⟨(some 10), none, .mv (.tmp 45)⟩] [0, 1, 7, 8, 10, 41, 76, 77, 78, 79, 80])
            (.seq (.reg [⟨(some 46), none, .mv (.tmp 10)⟩,
                ⟨(some 47), none, .nilck (.tmp 46)⟩,
                ⟨(some 48), none, .fld 2 (.tmp 47)⟩,
                ⟨(some 49), none, .load1 (.tmp 48)⟩,
                ⟨(some 50), none, .lenL (.tmp 49)⟩,
                ⟨(some 51), none, .mv (.const (Value.int IntKind.i64 0))⟩] [0, 1, 7, 8, 41, 49, 50, 51, 76, 77, 78, 79, 80])
             (.block 2
               (.loop
                (.seq (.reg [⟨(some 52), none, .bin .lss (.tmp 51) (.tmp 50)⟩] [0, 1, 7, 8, 41, 49, 50, 51, 52, 76, 77, 78, 79, 80])
                (.seq (.cond (.tmp 52)
                    .skip
                    (.exit 2))
                 (.seq (.block 3
                    (.seq (.reg [⟨(some 53), none, .idxL 4 (.tmp 49) (.tmp 51)⟩,
                       ⟨(some 54), none, .loadN 4 (.tmp 53)⟩,
                       ⟨(some 12), none, .alloc 90 [(Value.int IntKind.i64 0), (Value.int IntKind.i64 0), (Value.string ⟨#[]⟩), (Value.bool false)]⟩,
                       ⟨none, none, .store 4 (.tmp 12) (.tmp 54)⟩] [0, 1, 7, 8, 12, 41, 49, 50, 51, 76, 77, 78, 79, 80])
                    (.reg [⟨(some 55), none, .mv (.tmp 8)⟩,
                       ⟨(some 56), none, .fld 0 (.tmp 12)⟩,
                       ⟨(some 57), none, .load1 (.tmp 56)⟩,
                       ⟨(some 58), none, .bslice 3 1 [(Value.int IntKind.i64 0)] [(0, 1, (.tmp 57))]⟩,
                       ⟨(some 59), none, .append 3 1 8 [(Value.int IntKind.i64 0)] (.tmp 55) (.tmp 58)⟩,
                       ⟨(some 8), none, .mv (.tmp 59)⟩] [0, 1, 7, 8, 41, 49, 50, 51, 76, 77, 78, 79, 80])))
                  (.reg [⟨(some 60), none, .bin .add (.tmp 51) (.const (Value.int IntKind.i64 1))⟩,
                     ⟨(some 51), none, .mv (.tmp 60)⟩] [0, 1, 7, 8, 41, 49, 50, 51, 76, 77, 78, 79, 80]))))))))))))))
     (.seq (.reg [⟨(some 61), none, .mv (.tmp 8)⟩,
         ⟨(some 62), none, .call 46 [(.tmp 61)]⟩] [0, 1, 7, 8, 76, 77, 78, 79, 80])
      (.seq (.reg [⟨(some 63), none, .mkmap⟩,
          ⟨(some 13), none, .mv (.tmp 63)⟩] [0, 1, 7, 8, 13, 76, 77, 78, 79, 80])
       (.seq (.seq (.reg [⟨(some 64), none, .mv (.tmp 8)⟩,
            ⟨(some 65), none, .lenL (.tmp 64)⟩,
            ⟨(some 66), none, .mv (.const (Value.int IntKind.i64 0))⟩] [0, 1, 7, 13, 64, 65, 66, 76, 77, 78, 79, 80])
         (.block 4
           (.loop
            (.seq (.reg [⟨(some 67), none, .bin .lss (.tmp 66) (.tmp 65)⟩] [0, 1, 7, 13, 64, 65, 66, 67, 76, 77, 78, 79, 80])
            (.seq (.cond (.tmp 67)
                .skip
                (.exit 4))
             (.seq (.block 5
                (.seq (.reg [⟨(some 68), none, .mv (.tmp 66)⟩,
                   ⟨(some 69), none, .idxL 1 (.tmp 64) (.tmp 66)⟩,
                   ⟨(some 70), none, .load1 (.tmp 69)⟩,
                   ⟨(some 14), none, .mv (.tmp 68)⟩,
                   ⟨(some 15), none, .mv (.tmp 70)⟩] [0, 1, 7, 13, 14, 15, 64, 65, 66, 76, 77, 78, 79, 80])
                (.reg [⟨(some 71), none, .mv (.tmp 13)⟩,
                   ⟨(some 72), none, .mv (.tmp 15)⟩,
                   ⟨(some 73), none, .mv (.tmp 14)⟩,
                   ⟨(some 74), none, .bin .lss (.tmp 73) (.const (Value.int IntKind.i64 64))⟩,
                   ⟨(some 75), none, .mv (.tmp 74)⟩,
                   ⟨(some 76), (some (75, true)), .mv (.tmp 1)⟩,
                   ⟨(some 77), (some (75, true)), .mv (.tmp 14)⟩,
                   ⟨(some 78), (some (75, true)), .bin .shr (.tmp 76) (.tmp 77)⟩,
                   ⟨(some 79), (some (75, true)), .bin .and (.tmp 78) (.const (Value.int IntKind.u64 1))⟩,
                   ⟨(some 80), (some (75, true)), .bin .eql (.tmp 79) (.const (Value.int IntKind.u64 1))⟩,
                   ⟨(some 81), none, .pick (.tmp 75) (.tmp 80) (.const (Value.bool false))⟩,
                   ⟨none, none, .mapupd .int (.tmp 71) (.tmp 72) (.tmp 81)⟩] [0, 1, 7, 13, 64, 65, 66, 76, 77, 78, 79, 80])))
              (.reg [⟨(some 82), none, .bin .add (.tmp 66) (.const (Value.int IntKind.i64 1))⟩,
                 ⟨(some 66), none, .mv (.tmp 82)⟩] [0, 1, 7, 13, 64, 65, 66, 76, 77, 78, 79, 80])))))))
        (.seq (.seq (.reg [⟨(some 83), none, .mv (.tmp 0)⟩,
             ⟨(some 84), none, .nilck (.tmp 83)⟩,
             ⟨(some 85), none, .fld 1 (.tmp 84)⟩,
             ⟨(some 86), none, .load1 (.tmp 85)⟩,
             ⟨(some 87), none, .rangeM (.tmp 86)⟩] [7, 13, 87])
          (.block 6
            (.loop
             (.seq (.reg [⟨(some 88), none, .next (.tmp 87) false⟩,
                ⟨(some 89), none, .ext (.tmp 88) 0⟩] [7, 13, 87, 89])
             (.seq (.cond (.tmp 89)
                 .skip
                 (.exit 6))
              (.block 7
                (.seq (.reg [⟨(some 90), none, .entry (.tmp 87)⟩,
                   ⟨(some 91), none, .ext (.tmp 90) 0⟩,
                   ⟨(some 92), none, .ext (.tmp 90) 1⟩,
                   ⟨(some 16), none, .mv (.tmp 91)⟩,
                   ⟨(some 17), none, .mv (.tmp 92)⟩] [7, 13, 16, 17, 87])
                (.seq (.reg [⟨(some 93), none, .mv (.tmp 17)⟩,
                    ⟨(some 94), none, .nilck (.tmp 93)⟩,
                    ⟨(some 95), none, .fld 1 (.tmp 94)⟩,
                    ⟨(some 96), none, .load1 (.tmp 95)⟩,
                    ⟨(some 97), none, .call 42 [(.tmp 96)]⟩,
                    ⟨(some 18), none, .mv (.tmp 97)⟩] [7, 13, 16, 17, 18, 87])
                 (.seq (.seq (.reg [⟨(some 98), none, .mv (.tmp 17)⟩,
                      ⟨(some 99), none, .nilck (.tmp 98)⟩,
                      ⟨(some 100), none, .fld 2 (.tmp 99)⟩,
                      ⟨(some 101), none, .load1 (.tmp 100)⟩,
                      ⟨(some 102), none, .lenL (.tmp 101)⟩,
                      ⟨(some 103), none, .mv (.const (Value.int IntKind.i64 0))⟩] [7, 13, 16, 18, 87, 101, 102, 103])
                   (.block 8
                     (.loop
                      (.seq (.reg [⟨(some 104), none, .bin .lss (.tmp 103) (.tmp 102)⟩] [7, 13, 16, 18, 87, 101, 102, 103, 104])
                      (.seq (.cond (.tmp 104)
                          .skip
                          (.exit 8))
                       (.seq (.block 9
                          (.seq (.reg [⟨(some 105), none, .idxL 4 (.tmp 101) (.tmp 103)⟩,
                             ⟨(some 106), none, .loadN 4 (.tmp 105)⟩,
                             ⟨(some 20), none, .alloc 90 [(Value.int IntKind.i64 0), (Value.int IntKind.i64 0), (Value.string ⟨#[]⟩), (Value.bool false)]⟩,
                             ⟨none, none, .store 4 (.tmp 20) (.tmp 106)⟩] [7, 13, 16, 18, 20, 87, 101, 102, 103])
                          (.seq (.reg [⟨(some 107), none, .mv (.tmp 13)⟩,
                              ⟨(some 108), none, .fld 0 (.tmp 20)⟩,
                              ⟨(some 109), none, .load1 (.tmp 108)⟩,
                              ⟨(some 110), none, .lookup .int (Value.bool false) false (.tmp 107) (.tmp 109)⟩] [7, 13, 16, 18, 20, 87, 101, 102, 103, 110])
                           (.cond (.tmp 110)
                              (.reg [⟨(some 111), none, .loadN 4 (.tmp 20)⟩,
                                 ⟨(some 112), none, .mv (.tmp 18)⟩,
                                 ⟨(some 113), none, .call 47 [(.tmp 111), (.tmp 112)]⟩,
                                 ⟨(some 18), none, .mv (.tmp 113)⟩] [7, 13, 16, 18, 87, 101, 102, 103])
                              .skip))))
                        (.reg [⟨(some 114), none, .bin .add (.tmp 103) (.const (Value.int IntKind.i64 1))⟩,
                           ⟨(some 103), none, .mv (.tmp 114)⟩] [7, 13, 16, 18, 87, 101, 102, 103])))))))
                  (.draw [[⟨(some 115), none, .mv (.tmp 7)⟩,
                      ⟨(some 116), none, .nilck (.tmp 115)⟩,
                      ⟨(some 117), none, .fld 1 (.tmp 116)⟩,
                      ⟨(some 118), none, .load1 (.tmp 117)⟩,
                      ⟨(some 119), none, .mv (.tmp 16)⟩,
                      ⟨(some 120), none, .mv (.tmp 18)⟩,
                      ⟨(some 121), none, .mv (.tmp 18)⟩,
                      ⟨(some 122), none, .call 42 [(.tmp 121)]⟩,
                      ⟨(some 123), none, .build [(Value.slice none 0 0), (Value.slice none 0 0), (Value.slice none 0 0)] [(0, 1, (.tmp 120)), (1, 1, (.tmp 122))]⟩,
                      ⟨(some 124), none, .box 77 (.tmp 123)⟩,
                      ⟨none, none, .mapupd .str (.tmp 118) (.tmp 119) (.tmp 124)⟩],
                    [⟨(some 115), none, .mv (.tmp 7)⟩,
                      ⟨(some 116), none, .nilck (.tmp 115)⟩,
                      ⟨(some 117), none, .fld 1 (.tmp 116)⟩,
                      ⟨(some 119), none, .mv (.tmp 16)⟩,
                      ⟨(some 120), none, .mv (.tmp 18)⟩,
                      ⟨(some 121), none, .mv (.tmp 18)⟩,
                      ⟨(some 122), none, .call 42 [(.tmp 121)]⟩,
                      ⟨(some 118), none, .load1 (.tmp 117)⟩,
                      ⟨(some 123), none, .build [(Value.slice none 0 0), (Value.slice none 0 0), (Value.slice none 0 0)] [(0, 1, (.tmp 120)), (1, 1, (.tmp 122))]⟩,
                      ⟨(some 124), none, .box 77 (.tmp 123)⟩,
                      ⟨none, none, .mapupd .str (.tmp 118) (.tmp 119) (.tmp 124)⟩]] [7, 13, 87]))))))))))
         (.seq (.reg [⟨(some 125), none, .mv (.tmp 7)⟩,
             ⟨(some 6), none, .mv (.tmp 125)⟩] [6])
          .ret))))))))))⟩
theorem low19 : lowF Try.prog (assoc kp19) (assoc od19) 19 = some F19 := by kernel_rfl

/- (*palaver/world.World).Files -/
def kp20 : List (Nat × List Nat) := [(0, [0, 2]), (1, [0, 2, 10, 11, 12]), (2, [0, 2, 10, 11, 12, 13]), (3, [0, 2, 4, 10, 11, 12]), (4, [0, 2, 10, 11, 12]), (5, [0, 2, 10, 11, 12]), (6, [2])]
def od20 : List (Nat × List (List Nat)) := []
def F20 : FIR := ⟨33, [.tmp 2],
 (.seq (.reg [⟨(some 2), none, .mv (.const (Value.slice none 0 0))⟩] [0, 2])
 (.seq (.seq (.reg [⟨(some 5), none, .mv (.tmp 0)⟩,
      ⟨(some 6), none, .nilck (.tmp 5)⟩,
      ⟨(some 7), none, .fld 1 (.tmp 6)⟩,
      ⟨(some 8), none, .load1 (.tmp 7)⟩,
      ⟨(some 9), none, .call 49 [(.tmp 8)]⟩,
      ⟨(some 10), none, .call 48 [(.tmp 9)]⟩,
      ⟨(some 11), none, .lenL (.tmp 10)⟩,
      ⟨(some 12), none, .mv (.const (Value.int IntKind.i64 0))⟩] [0, 2, 10, 11, 12])
   (.block 0
     (.loop
      (.seq (.reg [⟨(some 13), none, .bin .lss (.tmp 12) (.tmp 11)⟩] [0, 2, 10, 11, 12, 13])
      (.seq (.cond (.tmp 13)
          .skip
          (.exit 0))
       (.seq (.block 1
          (.seq (.reg [⟨(some 14), none, .idxL 1 (.tmp 10) (.tmp 12)⟩,
             ⟨(some 15), none, .load1 (.tmp 14)⟩,
             ⟨(some 4), none, .mv (.tmp 15)⟩] [0, 2, 4, 10, 11, 12])
          (.reg [⟨(some 16), none, .mv (.tmp 2)⟩,
             ⟨(some 17), none, .mv (.tmp 4)⟩,
             ⟨(some 18), none, .mv (.tmp 0)⟩,
             ⟨(some 19), none, .nilck (.tmp 18)⟩,
             ⟨(some 20), none, .fld 1 (.tmp 19)⟩,
             ⟨(some 21), none, .load1 (.tmp 20)⟩,
             ⟨(some 22), none, .mv (.tmp 4)⟩,
             ⟨(some 23), none, .lookup .str (Value.pointer none) false (.tmp 21) (.tmp 22)⟩,
             ⟨(some 24), none, .nilck (.tmp 23)⟩,
             ⟨(some 25), none, .fld 0 (.tmp 24)⟩,
             ⟨(some 26), none, .load1 (.tmp 25)⟩,
             ⟨(some 27), none, .b2s (.tmp 26)⟩,
             ⟨(some 28), none, .build [(Value.string ⟨#[]⟩), (Value.string ⟨#[]⟩)] [(0, 1, (.tmp 17)), (1, 1, (.tmp 27))]⟩,
             ⟨(some 29), none, .bslice 46 1 [(Value.string ⟨#[]⟩), (Value.string ⟨#[]⟩)] [(0, 2, (.tmp 28))]⟩,
             ⟨(some 30), none, .append 46 2 32 [(Value.string ⟨#[]⟩), (Value.string ⟨#[]⟩)] (.tmp 16) (.tmp 29)⟩,
             ⟨(some 2), none, .mv (.tmp 30)⟩] [0, 2, 10, 11, 12])))
        (.reg [⟨(some 31), none, .bin .add (.tmp 12) (.const (Value.int IntKind.i64 1))⟩,
           ⟨(some 12), none, .mv (.tmp 31)⟩] [0, 2, 10, 11, 12])))))))
  (.seq (.reg [⟨(some 32), none, .mv (.tmp 2)⟩,
      ⟨(some 2), none, .mv (.tmp 32)⟩] [2])
   .ret)))⟩
theorem low20 : lowF Try.prog (assoc kp20) (assoc od20) 20 = some F20 := by kernel_rfl

/- (*palaver/world.World).Trace -/
def kp26 : List (Nat × List Nat) := [(0, [0]), (1, [2])]
def od26 : List (Nat × List (List Nat)) := []
def F26 : FIR := ⟨8, [.tmp 2],
 (.seq (.reg [⟨(some 2), none, .mv (.const (Value.slice none 0 0))⟩] [0])
 (.seq (.reg [⟨(some 3), none, .mv (.tmp 0)⟩,
     ⟨(some 4), none, .nilck (.tmp 3)⟩,
     ⟨(some 5), none, .fld 3 (.tmp 4)⟩,
     ⟨(some 6), none, .load1 (.tmp 5)⟩,
     ⟨(some 7), none, .call 58 [(.tmp 6)]⟩,
     ⟨(some 2), none, .mv (.tmp 7)⟩] [2])
  .ret))⟩
theorem low26 : lowF Try.prog (assoc kp26) (assoc od26) 26 = some F26 := by kernel_rfl

/- (*palaver/world.World).Dead -/
def kp28 : List (Nat × List Nat) := [(0, [0]), (1, [2])]
def od28 : List (Nat × List (List Nat)) := []
def F28 : FIR := ⟨7, [.tmp 2],
 (.seq (.reg [⟨(some 2), none, .mv (.const (Value.bool false))⟩] [0])
 (.seq (.reg [⟨(some 3), none, .mv (.tmp 0)⟩,
     ⟨(some 4), none, .nilck (.tmp 3)⟩,
     ⟨(some 5), none, .fld 6 (.tmp 4)⟩,
     ⟨(some 6), none, .load1 (.tmp 5)⟩,
     ⟨(some 2), none, .mv (.tmp 6)⟩] [2])
  .ret))⟩
theorem low28 : lowF Try.prog (assoc kp28) (assoc od28) 28 = some F28 := by kernel_rfl

/- slices.Clone[[]palaver/api.Choice,palaver/api.Choice] -/
def kp30 : List (Nat × List Nat) := [(0, [0]), (1, [0, 4]), (2, [2]), (3, [2])]
def od30 : List (Nat × List (List Nat)) := []
def F30 : FIR := ⟨8, [.tmp 2],
 (.seq (.reg [⟨(some 2), none, .mv (.const (Value.slice none 0 0))⟩] [0])
 (.seq (.seq (.reg [⟨(some 3), none, .mv (.tmp 0)⟩,
      ⟨(some 4), none, .eqnil false .slice (.tmp 3)⟩] [0, 4])
   (.cond (.tmp 4)
      (.seq (.reg [⟨(some 2), none, .mv (.const (Value.slice none 0 0))⟩] [2])
       .ret)
      .skip))
  (.seq (.reg [⟨(some 5), none, .bslice 64 0 [(Value.int IntKind.u8 0), (Value.int IntKind.i64 0), (Value.string ⟨#[]⟩)] []⟩,
      ⟨(some 6), none, .mv (.tmp 0)⟩,
      ⟨(some 7), none, .append 64 3 32 [(Value.int IntKind.u8 0), (Value.int IntKind.i64 0), (Value.string ⟨#[]⟩)] (.tmp 5) (.tmp 6)⟩,
      ⟨(some 2), none, .mv (.tmp 7)⟩] [2])
   .ret)))⟩
theorem low30 : lowF Try.prog (assoc kp30) (assoc od30) 30 = some F30 := by kernel_rfl

/- slices.Clone[[]palaver/api.Deed,palaver/api.Deed] -/
def kp58 : List (Nat × List Nat) := [(0, [0]), (1, [0, 4]), (2, [2]), (3, [2])]
def od58 : List (Nat × List (List Nat)) := []
def F58 : FIR := ⟨8, [.tmp 2],
 (.seq (.reg [⟨(some 2), none, .mv (.const (Value.slice none 0 0))⟩] [0])
 (.seq (.seq (.reg [⟨(some 3), none, .mv (.tmp 0)⟩,
      ⟨(some 4), none, .eqnil false .slice (.tmp 3)⟩] [0, 4])
   (.cond (.tmp 4)
      (.seq (.reg [⟨(some 2), none, .mv (.const (Value.slice none 0 0))⟩] [2])
       .ret)
      .skip))
  (.seq (.reg [⟨(some 5), none, .bslice 68 0 [(Value.int IntKind.u8 0), (Value.int IntKind.i64 0), (Value.string ⟨#[]⟩), (Value.string ⟨#[]⟩), (Value.int IntKind.i64 0), (Value.int IntKind.i64 0)] []⟩,
      ⟨(some 6), none, .mv (.tmp 0)⟩,
      ⟨(some 7), none, .append 68 6 64 [(Value.int IntKind.u8 0), (Value.int IntKind.i64 0), (Value.string ⟨#[]⟩), (Value.string ⟨#[]⟩), (Value.int IntKind.i64 0), (Value.int IntKind.i64 0)] (.tmp 5) (.tmp 6)⟩,
      ⟨(some 2), none, .mv (.tmp 7)⟩] [2])
   .ret)))⟩
theorem low58 : lowF Try.prog (assoc kp58) (assoc od58) 58 = some F58 := by kernel_rfl

/- palaver/palaverref03.Name -/
def kp9 : List (Nat × List Nat) := [(0, [0, 9, 10, 11, 25, 26, 29, 30, 31, 32, 33, 34, 37, 38, 39, 40, 41, 42, 45, 46, 49, 50, 53, 54, 57, 58]), (1, [0, 12, 25, 26, 29, 30, 31, 32, 33, 34, 37, 38, 39, 40, 41, 42, 45, 46, 49, 50, 53, 54, 57, 58]), (2, [2]), (3, [0, 3, 25, 26, 29, 30, 31, 32, 33, 34, 37, 38, 39, 40, 41, 42, 45, 46, 49, 50, 53, 54, 57, 58]), (4, [0, 3, 16, 25, 26, 29, 30, 31, 32, 33, 34, 37, 38, 39, 40, 41, 42, 45, 46, 49, 50, 53, 54, 57, 58]), (5, [0, 3, 25, 26, 29, 30, 31, 32, 33, 34, 37, 38, 39, 40, 41, 42, 45, 46, 49, 50, 53, 54, 57, 58]), (6, [0, 3, 4, 25, 26, 29, 30, 31, 32, 33, 34, 37, 38, 39, 40, 41, 42, 45, 46, 49, 50, 53, 54, 57, 58]), (7, [0, 3, 25, 26, 29, 30, 31, 32, 33, 34, 37, 38, 39, 40, 41, 42, 45, 46, 49, 50, 53, 54, 57, 58, 60]), (8, [2]), (9, [2])]
def od9 : List (Nat × List (List Nat)) := []
def F9 : FIR := ⟨61, [.tmp 2],
 (.seq (.reg [⟨(some 2), none, .mv (.const (Value.bool false))⟩] [0, 9, 10, 11, 25, 26, 29, 30, 31, 32, 33, 34, 37, 38, 39, 40, 41, 42, 45, 46, 49, 50, 53, 54, 57, 58])
 (.seq (.seq (.reg [⟨(some 5), none, .mv (.tmp 0)⟩,
      ⟨(some 6), none, .lenS (.tmp 5)⟩,
      ⟨(some 7), none, .bin .lss (.tmp 6) (.const (Value.int IntKind.i64 1))⟩,
      ⟨(some 8), none, .mv (.tmp 7)⟩,
      ⟨(some 9), (some (8, false)), .mv (.tmp 0)⟩,
      ⟨(some 10), (some (8, false)), .lenS (.tmp 9)⟩,
      ⟨(some 11), (some (8, false)), .bin .gtr (.tmp 10) (.const (Value.int IntKind.i64 64))⟩,
      ⟨(some 12), none, .pick (.tmp 8) (.const (Value.bool true)) (.tmp 11)⟩] [0, 12, 25, 26, 29, 30, 31, 32, 33, 34, 37, 38, 39, 40, 41, 42, 45, 46, 49, 50, 53, 54, 57, 58])
   (.cond (.tmp 12)
      (.seq (.reg [⟨(some 2), none, .mv (.const (Value.bool false))⟩] [2])
       .ret)
      .skip))
  (.seq (.seq (.reg [⟨(some 3), none, .mv (.const (Value.int IntKind.i64 0))⟩] [0, 3, 25, 26, 29, 30, 31, 32, 33, 34, 37, 38, 39, 40, 41, 42, 45, 46, 49, 50, 53, 54, 57, 58])
    (.block 0
      (.loop
       (.seq (.seq (.reg [⟨(some 13), none, .mv (.tmp 3)⟩,
           ⟨(some 14), none, .mv (.tmp 0)⟩,
           ⟨(some 15), none, .lenS (.tmp 14)⟩,
           ⟨(some 16), none, .bin .lss (.tmp 13) (.tmp 15)⟩] [0, 3, 16, 25, 26, 29, 30, 31, 32, 33, 34, 37, 38, 39, 40, 41, 42, 45, 46, 49, 50, 53, 54, 57, 58])
        (.cond (.tmp 16)
           .skip
           (.exit 0)))
       (.seq (.block 1
          (.seq (.reg [⟨(some 19), none, .mv (.tmp 0)⟩,
             ⟨(some 20), none, .mv (.tmp 3)⟩,
             ⟨(some 21), none, .idxS (.tmp 19) (.tmp 20)⟩,
             ⟨(some 4), none, .mv (.tmp 21)⟩] [0, 3, 4, 25, 26, 29, 30, 31, 32, 33, 34, 37, 38, 39, 40, 41, 42, 45, 46, 49, 50, 53, 54, 57, 58])
          (.seq (.reg [⟨(some 22), none, .mv (.tmp 4)⟩,
              ⟨(some 23), none, .bin .geq (.tmp 22) (.const (Value.int IntKind.u8 97))⟩,
              ⟨(some 24), none, .mv (.tmp 23)⟩,
              ⟨(some 25), (some (24, true)), .mv (.tmp 4)⟩,
              ⟨(some 26), (some (24, true)), .bin .leq (.tmp 25) (.const (Value.int IntKind.u8 122))⟩,
              ⟨(some 27), none, .pick (.tmp 24) (.tmp 26) (.const (Value.bool false))⟩,
              ⟨(some 28), none, .mv (.tmp 27)⟩,
              ⟨(some 29), (some (28, false)), .mv (.tmp 4)⟩,
              ⟨(some 30), (some (28, false)), .bin .geq (.tmp 29) (.const (Value.int IntKind.u8 65))⟩,
              ⟨(some 31), (some (28, false)), .mv (.tmp 30)⟩,
              ⟨(some 32), (some (31, true)), .mv (.tmp 4)⟩,
              ⟨(some 33), (some (31, true)), .bin .leq (.tmp 32) (.const (Value.int IntKind.u8 90))⟩,
              ⟨(some 34), (some (28, false)), .pick (.tmp 31) (.tmp 33) (.const (Value.bool false))⟩,
              ⟨(some 35), none, .pick (.tmp 28) (.const (Value.bool true)) (.tmp 34)⟩,
              ⟨(some 36), none, .mv (.tmp 35)⟩,
              ⟨(some 37), (some (36, false)), .mv (.tmp 4)⟩,
              ⟨(some 38), (some (36, false)), .bin .geq (.tmp 37) (.const (Value.int IntKind.u8 48))⟩,
              ⟨(some 39), (some (36, false)), .mv (.tmp 38)⟩,
              ⟨(some 40), (some (39, true)), .mv (.tmp 4)⟩,
              ⟨(some 41), (some (39, true)), .bin .leq (.tmp 40) (.const (Value.int IntKind.u8 57))⟩,
              ⟨(some 42), (some (36, false)), .pick (.tmp 39) (.tmp 41) (.const (Value.bool false))⟩,
              ⟨(some 43), none, .pick (.tmp 36) (.const (Value.bool true)) (.tmp 42)⟩,
              ⟨(some 44), none, .mv (.tmp 43)⟩,
              ⟨(some 45), (some (44, false)), .mv (.tmp 4)⟩,
              ⟨(some 46), (some (44, false)), .bin .eql (.tmp 45) (.const (Value.int IntKind.u8 46))⟩,
              ⟨(some 47), none, .pick (.tmp 44) (.const (Value.bool true)) (.tmp 46)⟩,
              ⟨(some 48), none, .mv (.tmp 47)⟩,
              ⟨(some 49), (some (48, false)), .mv (.tmp 4)⟩,
              ⟨(some 50), (some (48, false)), .bin .eql (.tmp 49) (.const (Value.int IntKind.u8 45))⟩,
              ⟨(some 51), none, .pick (.tmp 48) (.const (Value.bool true)) (.tmp 50)⟩,
              ⟨(some 52), none, .mv (.tmp 51)⟩,
              ⟨(some 53), (some (52, false)), .mv (.tmp 4)⟩,
              ⟨(some 54), (some (52, false)), .bin .eql (.tmp 53) (.const (Value.int IntKind.u8 95))⟩,
              ⟨(some 55), none, .pick (.tmp 52) (.const (Value.bool true)) (.tmp 54)⟩,
              ⟨(some 56), none, .mv (.tmp 55)⟩,
              ⟨(some 57), (some (56, false)), .mv (.tmp 4)⟩,
              ⟨(some 58), (some (56, false)), .bin .eql (.tmp 57) (.const (Value.int IntKind.u8 47))⟩,
              ⟨(some 59), none, .pick (.tmp 56) (.const (Value.bool true)) (.tmp 58)⟩,
              ⟨(some 60), none, .un .not (.tmp 59)⟩] [0, 3, 25, 26, 29, 30, 31, 32, 33, 34, 37, 38, 39, 40, 41, 42, 45, 46, 49, 50, 53, 54, 57, 58, 60])
           (.cond (.tmp 60)
              (.seq (.reg [⟨(some 2), none, .mv (.const (Value.bool false))⟩] [2])
               .ret)
              .skip))))
        (.reg [⟨(some 17), none, .mv (.tmp 3)⟩,
           ⟨(some 18), none, .bin .add (.tmp 17) (.const (Value.int IntKind.i64 1))⟩,
           ⟨(some 3), none, .mv (.tmp 18)⟩] [0, 3, 25, 26, 29, 30, 31, 32, 33, 34, 37, 38, 39, 40, 41, 42, 45, 46, 49, 50, 53, 54, 57, 58]))))))
   (.seq (.reg [⟨(some 2), none, .mv (.const (Value.bool true))⟩] [2])
    .ret))))⟩
theorem low9 : lowF Try.prog (assoc kp9) (assoc od9) 9 = some F9 := by kernel_rfl

end Go.Proofs.Ytklkngccaemjdaa

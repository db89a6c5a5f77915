/-
  The code of functions, as terms: printed by a program, proved to be what the seat has.
-/
import Derived.Test.YtklkngccaemjdaaGreatWOd
import Derived.KernelRfl
import Derived.Test.YtklkngccaemjdaaGreatProg
set_option linter.unusedSimpArgs false
set_option linter.unusedVariables false
namespace Go.Proofs.YtklkngccaemjdaaGreat
open Go Go.V
set_option maxRecDepth 100000
/- palaver/world.New -/
def kp6 : List (Nat × List Nat) := [(0, [0, 1, 32, 33, 34, 35, 38, 39, 40, 41, 62, 63, 64]), (1, [0, 1, 6, 32, 33, 34, 35, 38, 39, 40, 41, 62, 63, 64]), (2, [0, 1, 6, 14, 15, 16, 32, 33, 34, 35, 38, 39, 40, 41, 62, 63, 64]), (3, [0, 1, 6, 14, 15, 16, 17, 32, 33, 34, 35, 38, 39, 40, 41, 62, 63, 64]), (4, [0, 1, 6, 8, 14, 15, 16, 32, 33, 34, 35, 38, 39, 40, 41, 62, 63, 64]), (5, [0, 1, 6, 8, 10, 14, 15, 16, 32, 33, 34, 35, 38, 39, 40, 41, 62, 63, 64]), (6, [0, 1, 6, 8, 14, 15, 16, 32, 33, 34, 35, 38, 39, 40, 41, 42, 62, 63, 64]), (7, [4, 5]), (8, [0, 1, 6, 14, 15, 16, 32, 33, 34, 35, 38, 39, 40, 41, 62, 63, 64]), (9, [0, 1, 6, 14, 15, 16, 32, 33, 34, 35, 38, 39, 40, 41, 62, 63, 64]), (10, [0, 6, 65]), (11, [4, 5]), (12, [6]), (13, [4, 5])]
def od6 : List (Nat × List (List Nat)) := [(5, [[0, 1, 2, 3, 4, 5, 6, 7, 8, 9, 10, 11]]), (8, [[0, 1, 2, 3, 4, 5, 6, 7, 9, 10, 8, 11, 12, 13, 14], [0, 1, 2, 3, 4, 5, 6, 7, 9, 10, 11, 8, 12, 13, 14]])]
def F6 : FIR := ⟨72, [.tmp 4, .tmp 5],
 (.seq (.reg [⟨(some 4), none, .mv (.const (Value.pointer none))⟩,
    ⟨(some 5), none, .mv (.const (Value.int IntKind.i64 0))⟩] [0, 1, 32, 33, 34, 35, 38, 39, 40, 41, 62, 63, 64])
 (.seq (.reg [⟨(some 11), none, .mkmap⟩,
     ⟨(some 12), none, .build [(Value.slice none 0 0), (Value.map none), (Value.slice none 0 0), (Value.slice none 0 0), (Value.int IntKind.i64 0), (Value.int IntKind.i64 0), (Value.bool false)] [(1, 1, (.tmp 11))]⟩,
     ⟨(some 13), none, .box 85 (.tmp 12)⟩,
     ⟨(some 6), none, .mv (.tmp 13)⟩] [0, 1, 6, 32, 33, 34, 35, 38, 39, 40, 41, 62, 63, 64])
  (.seq (.seq (.reg [⟨(some 14), none, .mv (.tmp 1)⟩,
       ⟨(some 15), none, .lenL (.tmp 14)⟩,
       ⟨(some 16), none, .mv (.const (Value.int IntKind.i64 0))⟩] [0, 1, 6, 14, 15, 16, 32, 33, 34, 35, 38, 39, 40, 41, 62, 63, 64])
    (.block 0
      (.loop
       (.seq (.reg [⟨(some 17), none, .bin .lss (.tmp 16) (.tmp 15)⟩] [0, 1, 6, 14, 15, 16, 17, 32, 33, 34, 35, 38, 39, 40, 41, 62, 63, 64])
       (.seq (.cond (.tmp 17)
           .skip
           (.exit 0))
        (.seq (.block 1
           (.seq (.reg [⟨(some 18), none, .idxL 2 (.tmp 14) (.tmp 16)⟩,
              ⟨(some 19), none, .loadN 2 (.tmp 18)⟩,
              ⟨(some 8), none, .alloc 74 [(Value.string ⟨#[]⟩), (Value.string ⟨#[]⟩)]⟩,
              ⟨none, none, .store 2 (.tmp 8) (.tmp 19)⟩] [0, 1, 6, 8, 14, 15, 16, 32, 33, 34, 35, 38, 39, 40, 41, 62, 63, 64])
           (.seq (.draw [[⟨(some 21), none, .mv (.tmp 6)⟩,
                ⟨(some 22), none, .nilck (.tmp 21)⟩,
                ⟨(some 23), none, .fld 1 (.tmp 22)⟩,
                ⟨(some 24), none, .load1 (.tmp 23)⟩,
                ⟨(some 25), none, .fld 0 (.tmp 8)⟩,
                ⟨(some 26), none, .load1 (.tmp 25)⟩,
                ⟨(some 27), none, .lookup .str (Value.pointer none) true (.tmp 24) (.tmp 26)⟩,
                ⟨(some 20), none, .mv (.tmp 27)⟩,
                ⟨(some 28), none, .ext (.tmp 20) 0⟩,
                ⟨(some 29), none, .ext (.tmp 20) 1⟩,
                ⟨(some 9), none, .mv (.tmp 28)⟩,
                ⟨(some 10), none, .mv (.tmp 29)⟩]] [0, 1, 6, 8, 10, 14, 15, 16, 32, 33, 34, 35, 38, 39, 40, 41, 62, 63, 64])
            (.seq (.seq (.reg [⟨(some 30), none, .mv (.tmp 10)⟩,
                 ⟨(some 31), none, .mv (.tmp 30)⟩,
                 ⟨(some 32), (some (31, false)), .fld 0 (.tmp 8)⟩,
                 ⟨(some 33), (some (31, false)), .load1 (.tmp 32)⟩,
                 ⟨(some 34), (some (31, false)), .call 32 [(.tmp 33)]⟩,
                 ⟨(some 35), (some (31, false)), .un .not (.tmp 34)⟩,
                 ⟨(some 36), none, .pick (.tmp 31) (.const (Value.bool true)) (.tmp 35)⟩,
                 ⟨(some 37), none, .mv (.tmp 36)⟩,
                 ⟨(some 38), (some (37, false)), .fld 1 (.tmp 8)⟩,
                 ⟨(some 39), (some (37, false)), .load1 (.tmp 38)⟩,
                 ⟨(some 40), (some (37, false)), .lenS (.tmp 39)⟩,
                 ⟨(some 41), (some (37, false)), .bin .gtr (.tmp 40) (.const (Value.int IntKind.i64 4194304))⟩,
                 ⟨(some 42), none, .pick (.tmp 37) (.const (Value.bool true)) (.tmp 41)⟩] [0, 1, 6, 8, 14, 15, 16, 32, 33, 34, 35, 38, 39, 40, 41, 42, 62, 63, 64])
              (.cond (.tmp 42)
                 (.seq (.reg [⟨(some 4), none, .mv (.const (Value.pointer none))⟩,
                     ⟨(some 5), none, .mv (.const (Value.int IntKind.i64 1))⟩] [4, 5])
                  .ret)
                 .skip))
             (.draw [[⟨(some 43), none, .mv (.tmp 6)⟩,
                 ⟨(some 44), none, .nilck (.tmp 43)⟩,
                 ⟨(some 45), none, .fld 1 (.tmp 44)⟩,
                 ⟨(some 46), none, .load1 (.tmp 45)⟩,
                 ⟨(some 47), none, .fld 0 (.tmp 8)⟩,
                 ⟨(some 48), none, .load1 (.tmp 47)⟩,
                 ⟨(some 49), none, .fld 1 (.tmp 8)⟩,
                 ⟨(some 50), none, .load1 (.tmp 49)⟩,
                 ⟨(some 52), none, .fld 1 (.tmp 8)⟩,
                 ⟨(some 53), none, .load1 (.tmp 52)⟩,
                 ⟨(some 51), none, .s2b 5 (.tmp 50)⟩,
                 ⟨(some 54), none, .s2b 5 (.tmp 53)⟩,
                 ⟨(some 55), none, .build [(Value.slice none 0 0), (Value.slice none 0 0), (Value.slice none 0 0)] [(0, 1, (.tmp 51)), (1, 1, (.tmp 54))]⟩,
                 ⟨(some 56), none, .box 92 (.tmp 55)⟩,
                 ⟨none, none, .mapupd .str (.tmp 46) (.tmp 48) (.tmp 56)⟩],
               [⟨(some 43), none, .mv (.tmp 6)⟩,
                 ⟨(some 44), none, .nilck (.tmp 43)⟩,
                 ⟨(some 45), none, .fld 1 (.tmp 44)⟩,
                 ⟨(some 46), none, .load1 (.tmp 45)⟩,
                 ⟨(some 47), none, .fld 0 (.tmp 8)⟩,
                 ⟨(some 48), none, .load1 (.tmp 47)⟩,
                 ⟨(some 49), none, .fld 1 (.tmp 8)⟩,
                 ⟨(some 50), none, .load1 (.tmp 49)⟩,
                 ⟨(some 52), none, .fld 1 (.tmp 8)⟩,
                 ⟨(some 53), none, .load1 (.tmp 52)⟩,
                 ⟨(some 54), none, .s2b 5 (.tmp 53)⟩,
                 ⟨(some 51), none, .s2b 5 (.tmp 50)⟩,
                 ⟨(some 55), none, .build [(Value.slice none 0 0), (Value.slice none 0 0), (Value.slice none 0 0)] [(0, 1, (.tmp 51)), (1, 1, (.tmp 54))]⟩,
                 ⟨(some 56), none, .box 92 (.tmp 55)⟩,
                 ⟨none, none, .mapupd .str (.tmp 46) (.tmp 48) (.tmp 56)⟩]] [0, 1, 6, 14, 15, 16, 32, 33, 34, 35, 38, 39, 40, 41, 62, 63, 64])))))
         (.reg [⟨(some 57), none, .bin .add (.tmp 16) (.const (Value.int IntKind.i64 1))⟩,
            ⟨(some 16), none, .mv (.tmp 57)⟩] [0, 1, 6, 14, 15, 16, 32, 33, 34, 35, 38, 39, 40, 41, 62, 63, 64])))))))
   (.seq (.seq (.reg [⟨(some 58), none, .mv (.tmp 0)⟩,
        ⟨(some 59), none, .lenL (.tmp 58)⟩,
        ⟨(some 60), none, .bin .gtr (.tmp 59) (.const (Value.int IntKind.i64 65536))⟩,
        ⟨(some 61), none, .mv (.tmp 60)⟩,
        ⟨(some 62), (some (61, false)), .mv (.tmp 1)⟩,
        ⟨(some 63), (some (61, false)), .lenL (.tmp 62)⟩,
        ⟨(some 64), (some (61, false)), .bin .gtr (.tmp 63) (.const (Value.int IntKind.i64 64))⟩,
        ⟨(some 65), none, .pick (.tmp 61) (.const (Value.bool true)) (.tmp 64)⟩] [0, 6, 65])
     (.cond (.tmp 65)
        (.seq (.reg [⟨(some 4), none, .mv (.const (Value.pointer none))⟩,
            ⟨(some 5), none, .mv (.const (Value.int IntKind.i64 1))⟩] [4, 5])
         .ret)
        .skip))
    (.seq (.reg [⟨(some 66), none, .mv (.tmp 6)⟩,
        ⟨(some 67), none, .mv (.tmp 0)⟩,
        ⟨(some 68), none, .call 33 [(.tmp 67)]⟩,
        ⟨(some 69), none, .nilck (.tmp 66)⟩,
        ⟨(some 70), none, .fld 0 (.tmp 69)⟩,
        ⟨none, none, .store 1 (.tmp 70) (.tmp 68)⟩] [6])
     (.seq (.reg [⟨(some 71), none, .mv (.tmp 6)⟩,
         ⟨(some 4), none, .mv (.tmp 71)⟩,
         ⟨(some 5), none, .mv (.const (Value.int IntKind.i64 0))⟩] [4, 5])
      .ret))))))⟩
theorem low6 : lowF Tryz.prog (assoc kp6) (assoc od6) 6 = some F6 := by kernel_rfl

/- (*palaver/world.World).Left -/
def kp25 : List (Nat × List Nat) := [(0, [0, 1, 2, 76, 77, 78, 79, 80]), (1, [0, 1, 2, 7, 76, 77, 78, 79, 80]), (2, [0, 1, 7, 76, 77, 78, 79, 80]), (3, [0, 1, 7, 8, 76, 77, 78, 79, 80]), (4, [0, 1, 7, 8, 41, 76, 77, 78, 79, 80]), (5, [0, 1, 7, 8, 41, 43, 76, 77, 78, 79, 80]), (6, [0, 1, 7, 8, 10, 41, 76, 77, 78, 79, 80]), (7, [0, 1, 7, 8, 41, 49, 50, 51, 76, 77, 78, 79, 80]), (8, [0, 1, 7, 8, 41, 49, 50, 51, 52, 76, 77, 78, 79, 80]), (9, [0, 1, 7, 8, 12, 41, 49, 50, 51, 76, 77, 78, 79, 80]), (10, [0, 1, 7, 8, 41, 49, 50, 51, 76, 77, 78, 79, 80]), (11, [0, 1, 7, 8, 41, 49, 50, 51, 76, 77, 78, 79, 80]), (12, [0, 1, 7, 8, 76, 77, 78, 79, 80]), (13, [0, 1, 7, 8, 13, 76, 77, 78, 79, 80]), (14, [0, 1, 7, 13, 64, 65, 66, 76, 77, 78, 79, 80]), (15, [0, 1, 7, 13, 64, 65, 66, 67, 76, 77, 78, 79, 80]), (16, [0, 1, 7, 13, 14, 15, 64, 65, 66, 76, 77, 78, 79, 80]), (17, [0, 1, 7, 13, 64, 65, 66, 76, 77, 78, 79, 80]), (18, [0, 1, 7, 13, 64, 65, 66, 76, 77, 78, 79, 80]), (19, [7, 13, 87]), (20, [7, 13, 87, 89]), (21, [7, 13, 16, 17, 87]), (22, [7, 13, 16, 17, 18, 87]), (23, [7, 13, 16, 18, 87, 101, 102, 103]), (24, [7, 13, 16, 18, 87, 101, 102, 103, 104]), (25, [7, 13, 16, 18, 20, 87, 101, 102, 103]), (26, [7, 13, 16, 18, 20, 87, 101, 102, 103, 110]), (27, [7, 13, 16, 18, 87, 101, 102, 103]), (28, [7, 13, 16, 18, 87, 101, 102, 103]), (29, [7, 13, 87]), (30, [6])]
def od25 : List (Nat × List (List Nat)) := [(29, [[0, 1, 2, 3, 4, 5, 6, 7, 8, 9, 10], [0, 1, 2, 4, 5, 6, 7, 3, 8, 9, 10]])]
def F25 : FIR := ⟨126, [.tmp 6],
 (.seq (.reg [⟨(some 6), none, .mv (.const (Value.pointer none))⟩] [0, 1, 2, 76, 77, 78, 79, 80])
 (.seq (.reg [⟨(some 21), none, .mkmap⟩,
     ⟨(some 22), none, .mv (.tmp 0)⟩,
     ⟨(some 23), none, .nilck (.tmp 22)⟩,
     ⟨(some 24), none, .fld 4 (.tmp 23)⟩,
     ⟨(some 25), none, .load1 (.tmp 24)⟩,
     ⟨(some 26), none, .build [(Value.slice none 0 0), (Value.map none), (Value.slice none 0 0), (Value.slice none 0 0), (Value.int IntKind.i64 0), (Value.int IntKind.i64 0), (Value.bool false)] [(1, 1, (.tmp 21)), (4, 1, (.tmp 25))]⟩,
     ⟨(some 27), none, .box 85 (.tmp 26)⟩,
     ⟨(some 7), none, .mv (.tmp 27)⟩] [0, 1, 2, 7, 76, 77, 78, 79, 80])
  (.seq (.reg [⟨(some 28), none, .mv (.tmp 7)⟩,
      ⟨(some 29), none, .mv (.tmp 2)⟩,
      ⟨(some 30), none, .mv (.tmp 2)⟩,
      ⟨(some 31), none, .lenL (.tmp 30)⟩,
      ⟨(some 32), none, .min2 (.tmp 31) (.const (Value.int IntKind.i64 65536))⟩,
      ⟨(some 33), none, .slcL 3 (.tmp 29) none (some (.tmp 32)) none⟩,
      ⟨(some 34), none, .call 33 [(.tmp 33)]⟩,
      ⟨(some 35), none, .nilck (.tmp 28)⟩,
      ⟨(some 36), none, .fld 0 (.tmp 35)⟩,
      ⟨none, none, .store 1 (.tmp 36) (.tmp 34)⟩] [0, 1, 7, 76, 77, 78, 79, 80])
   (.seq (.reg [⟨(some 8), none, .mv (.const (Value.slice none 0 0))⟩] [0, 1, 7, 8, 76, 77, 78, 79, 80])
    (.seq (.seq (.reg [⟨(some 37), none, .mv (.tmp 0)⟩,
         ⟨(some 38), none, .nilck (.tmp 37)⟩,
         ⟨(some 39), none, .fld 1 (.tmp 38)⟩,
         ⟨(some 40), none, .load1 (.tmp 39)⟩,
         ⟨(some 41), none, .rangeM (.tmp 40)⟩] [0, 1, 7, 8, 41, 76, 77, 78, 79, 80])
      (.block 0
        (.loop
         (.seq (.reg [⟨(some 42), none, .next (.tmp 41) false⟩,
            ⟨(some 43), none, .ext (.tmp 42) 0⟩] [0, 1, 7, 8, 41, 43, 76, 77, 78, 79, 80])
         (.seq (.cond (.tmp 43)
             .skip
             (.exit 0))
          (.block 1
            (.seq (.reg [⟨(some 44), none, .entry (.tmp 41)⟩,
               ⟨(some 45), none, .ext (.tmp 44) 1⟩,
               ⟨(some 10), none, .mv (.tmp 45)⟩] [0, 1, 7, 8, 10, 41, 76, 77, 78, 79, 80])
            (.seq (.reg [⟨(some 46), none, .mv (.tmp 10)⟩,
                ⟨(some 47), none, .nilck (.tmp 46)⟩,
                ⟨(some 48), none, .fld 2 (.tmp 47)⟩,
                ⟨(some 49), none, .load1 (.tmp 48)⟩,
                ⟨(some 50), none, .lenL (.tmp 49)⟩,
                ⟨(some 51), none, .mv (.const (Value.int IntKind.i64 0))⟩] [0, 1, 7, 8, 41, 49, 50, 51, 76, 77, 78, 79, 80])
             (.block 2
               (.loop
                (.seq (.reg [⟨(some 52), none, .bin .lss (.tmp 51) (.tmp 50)⟩] [0, 1, 7, 8, 41, 49, 50, 51, 52, 76, 77, 78, 79, 80])
                (.seq (.cond (.tmp 52)
                    .skip
                    (.exit 2))
                 (.seq (.block 3
                    (.seq (.reg [⟨(some 53), none, .idxL 4 (.tmp 49) (.tmp 51)⟩,
                       ⟨(some 54), none, .loadN 4 (.tmp 53)⟩,
                       ⟨(some 12), none, .alloc 130 [(Value.int IntKind.i64 0), (Value.int IntKind.i64 0), (Value.string ⟨#[]⟩), (Value.bool false)]⟩,
                       ⟨none, none, .store 4 (.tmp 12) (.tmp 54)⟩] [0, 1, 7, 8, 12, 41, 49, 50, 51, 76, 77, 78, 79, 80])
                    (.reg [⟨(some 55), none, .mv (.tmp 8)⟩,
                       ⟨(some 56), none, .fld 0 (.tmp 12)⟩,
                       ⟨(some 57), none, .load1 (.tmp 56)⟩,
                       ⟨(some 58), none, .bslice 3 1 [(Value.int IntKind.i64 0)] [(0, 1, (.tmp 57))]⟩,
                       ⟨(some 59), none, .append 3 1 8 [(Value.int IntKind.i64 0)] (.tmp 55) (.tmp 58)⟩,
                       ⟨(some 8), none, .mv (.tmp 59)⟩] [0, 1, 7, 8, 41, 49, 50, 51, 76, 77, 78, 79, 80])))
                  (.reg [⟨(some 60), none, .bin .add (.tmp 51) (.const (Value.int IntKind.i64 1))⟩,
                     ⟨(some 51), none, .mv (.tmp 60)⟩] [0, 1, 7, 8, 41, 49, 50, 51, 76, 77, 78, 79, 80]))))))))))))))
     (.seq (.reg [⟨(some 61), none, .mv (.tmp 8)⟩,
         ⟨(some 62), none, .call 74 [(.tmp 61)]⟩] [0, 1, 7, 8, 76, 77, 78, 79, 80])
      (.seq (.reg [⟨(some 63), none, .mkmap⟩,
          ⟨(some 13), none, .mv (.tmp 63)⟩] [0, 1, 7, 8, 13, 76, 77, 78, 79, 80])
       (.seq (.seq (.reg [⟨(some 64), none, .mv (.tmp 8)⟩,
            ⟨(some 65), none, .lenL (.tmp 64)⟩,
            ⟨(some 66), none, .mv (.const (Value.int IntKind.i64 0))⟩] [0, 1, 7, 13, 64, 65, 66, 76, 77, 78, 79, 80])
         (.block 4
           (.loop
            (.seq (.reg [⟨(some 67), none, .bin .lss (.tmp 66) (.tmp 65)⟩] [0, 1, 7, 13, 64, 65, 66, 67, 76, 77, 78, 79, 80])
            (.seq (.cond (.tmp 67)
                .skip
                (.exit 4))
             (.seq (.block 5
                (.seq (.reg [⟨(some 68), none, .mv (.tmp 66)⟩,
                   ⟨(some 69), none, .idxL 1 (.tmp 64) (.tmp 66)⟩,
                   ⟨(some 70), none, .load1 (.tmp 69)⟩,
                   ⟨(some 14), none, .mv (.tmp 68)⟩,
                   ⟨(some 15), none, .mv (.tmp 70)⟩] [0, 1, 7, 13, 14, 15, 64, 65, 66, 76, 77, 78, 79, 80])
                (.reg [⟨(some 71), none, .mv (.tmp 13)⟩,
                   ⟨(some 72), none, .mv (.tmp 15)⟩,
                   ⟨(some 73), none, .mv (.tmp 14)⟩,
                   ⟨(some 74), none, .bin .lss (.tmp 73) (.const (Value.int IntKind.i64 64))⟩,
                   ⟨(some 75), none, .mv (.tmp 74)⟩,
                   ⟨(some 76), (some (75, true)), .mv (.tmp 1)⟩,
                   ⟨(some 77), (some (75, true)), .mv (.tmp 14)⟩,
                   ⟨(some 78), (some (75, true)), .bin .shr (.tmp 76) (.tmp 77)⟩,
                   ⟨(some 79), (some (75, true)), .bin .and (.tmp 78) (.const (Value.int IntKind.u64 1))⟩,
                   ⟨(some 80), (some (75, true)), .bin .eql (.tmp 79) (.const (Value.int IntKind.u64 1))⟩,
                   ⟨(some 81), none, .pick (.tmp 75) (.tmp 80) (.const (Value.bool false))⟩,
                   ⟨none, none, .mapupd .int (.tmp 71) (.tmp 72) (.tmp 81)⟩] [0, 1, 7, 13, 64, 65, 66, 76, 77, 78, 79, 80])))
              (.reg [⟨(some 82), none, .bin .add (.tmp 66) (.const (Value.int IntKind.i64 1))⟩,
                 ⟨(some 66), none, .mv (.tmp 82)⟩] [0, 1, 7, 13, 64, 65, 66, 76, 77, 78, 79, 80])))))))
        (.seq (.seq (.reg [⟨(some 83), none, .mv (.tmp 0)⟩,
             ⟨(some 84), none, .nilck (.tmp 83)⟩,
             ⟨(some 85), none, .fld 1 (.tmp 84)⟩,
             ⟨(some 86), none, .load1 (.tmp 85)⟩,
             ⟨(some 87), none, .rangeM (.tmp 86)⟩] [7, 13, 87])
          (.block 6
            (.loop
             (.seq (.reg [⟨(some 88), none, .next (.tmp 87) false⟩,
                ⟨(some 89), none, .ext (.tmp 88) 0⟩] [7, 13, 87, 89])
             (.seq (.cond (.tmp 89)
                 .skip
                 (.exit 6))
              (.block 7
                (.seq (.reg [⟨(some 90), none, .entry (.tmp 87)⟩,
                   ⟨(some 91), none, .ext (.tmp 90) 0⟩,
                   ⟨(some 92), none, .ext (.tmp 90) 1⟩,
                   ⟨(some 16), none, .mv (.tmp 91)⟩,
                   ⟨(some 17), none, .mv (.tmp 92)⟩] [7, 13, 16, 17, 87])
                (.seq (.reg [⟨(some 93), none, .mv (.tmp 17)⟩,
                    ⟨(some 94), none, .nilck (.tmp 93)⟩,
                    ⟨(some 95), none, .fld 1 (.tmp 94)⟩,
                    ⟨(some 96), none, .load1 (.tmp 95)⟩,
                    ⟨(some 97), none, .call 75 [(.tmp 96)]⟩,
                    ⟨(some 18), none, .mv (.tmp 97)⟩] [7, 13, 16, 17, 18, 87])
                 (.seq (.seq (.reg [⟨(some 98), none, .mv (.tmp 17)⟩,
                      ⟨(some 99), none, .nilck (.tmp 98)⟩,
                      ⟨(some 100), none, .fld 2 (.tmp 99)⟩,
                      ⟨(some 101), none, .load1 (.tmp 100)⟩,
                      ⟨(some 102), none, .lenL (.tmp 101)⟩,
                      ⟨(some 103), none, .mv (.const (Value.int IntKind.i64 0))⟩] [7, 13, 16, 18, 87, 101, 102, 103])
                   (.block 8
                     (.loop
                      (.seq (.reg [⟨(some 104), none, .bin .lss (.tmp 103) (.tmp 102)⟩] [7, 13, 16, 18, 87, 101, 102, 103, 104])
                      (.seq (.cond (.tmp 104)
                          .skip
                          (.exit 8))
                       (.seq (.block 9
                          (.seq (.reg [⟨(some 105), none, .idxL 4 (.tmp 101) (.tmp 103)⟩,
                             ⟨(some 106), none, .loadN 4 (.tmp 105)⟩,
                             ⟨(some 20), none, .alloc 130 [(Value.int IntKind.i64 0), (Value.int IntKind.i64 0), (Value.string ⟨#[]⟩), (Value.bool false)]⟩,
                             ⟨none, none, .store 4 (.tmp 20) (.tmp 106)⟩] [7, 13, 16, 18, 20, 87, 101, 102, 103])
                          (.seq (.reg [⟨(some 107), none, .mv (.tmp 13)⟩,
                              ⟨(some 108), none, .fld 0 (.tmp 20)⟩,
                              ⟨(some 109), none, .load1 (.tmp 108)⟩,
                              ⟨(some 110), none, .lookup .int (Value.bool false) false (.tmp 107) (.tmp 109)⟩] [7, 13, 16, 18, 20, 87, 101, 102, 103, 110])
                           (.cond (.tmp 110)
                              (.reg [⟨(some 111), none, .loadN 4 (.tmp 20)⟩,
                                 ⟨(some 112), none, .mv (.tmp 18)⟩,
                                 ⟨(some 113), none, .call 76 [(.tmp 111), (.tmp 112)]⟩,
                                 ⟨(some 18), none, .mv (.tmp 113)⟩] [7, 13, 16, 18, 87, 101, 102, 103])
                              .skip))))
                        (.reg [⟨(some 114), none, .bin .add (.tmp 103) (.const (Value.int IntKind.i64 1))⟩,
                           ⟨(some 103), none, .mv (.tmp 114)⟩] [7, 13, 16, 18, 87, 101, 102, 103])))))))
                  (.draw [[⟨(some 115), none, .mv (.tmp 7)⟩,
                      ⟨(some 116), none, .nilck (.tmp 115)⟩,
                      ⟨(some 117), none, .fld 1 (.tmp 116)⟩,
                      ⟨(some 118), none, .load1 (.tmp 117)⟩,
                      ⟨(some 119), none, .mv (.tmp 16)⟩,
                      ⟨(some 120), none, .mv (.tmp 18)⟩,
                      ⟨(some 121), none, .mv (.tmp 18)⟩,
                      ⟨(some 122), none, .call 75 [(.tmp 121)]⟩,
                      ⟨(some 123), none, .build [(Value.slice none 0 0), (Value.slice none 0 0), (Value.slice none 0 0)] [(0, 1, (.tmp 120)), (1, 1, (.tmp 122))]⟩,
                      ⟨(some 124), none, .box 92 (.tmp 123)⟩,
                      ⟨none, none, .mapupd .str (.tmp 118) (.tmp 119) (.tmp 124)⟩],
                    [⟨(some 115), none, .mv (.tmp 7)⟩,
                      ⟨(some 116), none, .nilck (.tmp 115)⟩,
                      ⟨(some 117), none, .fld 1 (.tmp 116)⟩,
                      ⟨(some 119), none, .mv (.tmp 16)⟩,
                      ⟨(some 120), none, .mv (.tmp 18)⟩,
                      ⟨(some 121), none, .mv (.tmp 18)⟩,
                      ⟨(some 122), none, .call 75 [(.tmp 121)]⟩,
                      ⟨(some 118), none, .load1 (.tmp 117)⟩,
                      ⟨(some 123), none, .build [(Value.slice none 0 0), (Value.slice none 0 0), (Value.slice none 0 0)] [(0, 1, (.tmp 120)), (1, 1, (.tmp 122))]⟩,
                      ⟨(some 124), none, .box 92 (.tmp 123)⟩,
                      ⟨none, none, .mapupd .str (.tmp 118) (.tmp 119) (.tmp 124)⟩]] [7, 13, 87]))))))))))
         (.seq (.reg [⟨(some 125), none, .mv (.tmp 7)⟩,
             ⟨(some 6), none, .mv (.tmp 125)⟩] [6])
          .ret))))))))))⟩
theorem low25 : lowF Tryz.prog (assoc kp25) (assoc od25) 25 = some F25 := by kernel_rfl

/- (*palaver/world.World).Files -/
def kp10 : List (Nat × List Nat) := [(0, [0, 2]), (1, [0, 2, 10, 11, 12]), (2, [0, 2, 10, 11, 12, 13]), (3, [0, 2, 4, 10, 11, 12]), (4, [0, 2, 10, 11, 12]), (5, [0, 2, 10, 11, 12]), (6, [2])]
def od10 : List (Nat × List (List Nat)) := []
def F10 : FIR := ⟨33, [.tmp 2],
 (.seq (.reg [⟨(some 2), none, .mv (.const (Value.slice none 0 0))⟩] [0, 2])
 (.seq (.seq (.reg [⟨(some 5), none, .mv (.tmp 0)⟩,
      ⟨(some 6), none, .nilck (.tmp 5)⟩,
      ⟨(some 7), none, .fld 1 (.tmp 6)⟩,
      ⟨(some 8), none, .load1 (.tmp 7)⟩,
      ⟨(some 9), none, .call 45 [(.tmp 8)]⟩,
      ⟨(some 10), none, .call 44 [(.tmp 9)]⟩,
      ⟨(some 11), none, .lenL (.tmp 10)⟩,
      ⟨(some 12), none, .mv (.const (Value.int IntKind.i64 0))⟩] [0, 2, 10, 11, 12])
   (.block 0
     (.loop
      (.seq (.reg [⟨(some 13), none, .bin .lss (.tmp 12) (.tmp 11)⟩] [0, 2, 10, 11, 12, 13])
      (.seq (.cond (.tmp 13)
          .skip
          (.exit 0))
       (.seq (.block 1
          (.seq (.reg [⟨(some 14), none, .idxL 1 (.tmp 10) (.tmp 12)⟩,
             ⟨(some 15), none, .load1 (.tmp 14)⟩,
             ⟨(some 4), none, .mv (.tmp 15)⟩] [0, 2, 4, 10, 11, 12])
          (.reg [⟨(some 16), none, .mv (.tmp 2)⟩,
             ⟨(some 17), none, .mv (.tmp 4)⟩,
             ⟨(some 18), none, .mv (.tmp 0)⟩,
             ⟨(some 19), none, .nilck (.tmp 18)⟩,
             ⟨(some 20), none, .fld 1 (.tmp 19)⟩,
             ⟨(some 21), none, .load1 (.tmp 20)⟩,
             ⟨(some 22), none, .mv (.tmp 4)⟩,
             ⟨(some 23), none, .lookup .str (Value.pointer none) false (.tmp 21) (.tmp 22)⟩,
             ⟨(some 24), none, .nilck (.tmp 23)⟩,
             ⟨(some 25), none, .fld 0 (.tmp 24)⟩,
             ⟨(some 26), none, .load1 (.tmp 25)⟩,
             ⟨(some 27), none, .b2s (.tmp 26)⟩,
             ⟨(some 28), none, .build [(Value.string ⟨#[]⟩), (Value.string ⟨#[]⟩)] [(0, 1, (.tmp 17)), (1, 1, (.tmp 27))]⟩,
             ⟨(some 29), none, .bslice 74 1 [(Value.string ⟨#[]⟩), (Value.string ⟨#[]⟩)] [(0, 2, (.tmp 28))]⟩,
             ⟨(some 30), none, .append 74 2 32 [(Value.string ⟨#[]⟩), (Value.string ⟨#[]⟩)] (.tmp 16) (.tmp 29)⟩,
             ⟨(some 2), none, .mv (.tmp 30)⟩] [0, 2, 10, 11, 12])))
        (.reg [⟨(some 31), none, .bin .add (.tmp 12) (.const (Value.int IntKind.i64 1))⟩,
           ⟨(some 12), none, .mv (.tmp 31)⟩] [0, 2, 10, 11, 12])))))))
  (.seq (.reg [⟨(some 32), none, .mv (.tmp 2)⟩,
      ⟨(some 2), none, .mv (.tmp 32)⟩] [2])
   .ret)))⟩
theorem low10 : lowF Tryz.prog (assoc kp10) (assoc od10) 10 = some F10 := by kernel_rfl

/- (*palaver/world.World).Trace -/
def kp9 : List (Nat × List Nat) := [(0, [0]), (1, [2])]
def od9 : List (Nat × List (List Nat)) := []
def F9 : FIR := ⟨8, [.tmp 2],
 (.seq (.reg [⟨(some 2), none, .mv (.const (Value.slice none 0 0))⟩] [0])
 (.seq (.reg [⟨(some 3), none, .mv (.tmp 0)⟩,
     ⟨(some 4), none, .nilck (.tmp 3)⟩,
     ⟨(some 5), none, .fld 3 (.tmp 4)⟩,
     ⟨(some 6), none, .load1 (.tmp 5)⟩,
     ⟨(some 7), none, .call 43 [(.tmp 6)]⟩,
     ⟨(some 2), none, .mv (.tmp 7)⟩] [2])
  .ret))⟩
theorem low9 : lowF Tryz.prog (assoc kp9) (assoc od9) 9 = some F9 := by kernel_rfl

/- (*palaver/world.World).Dead -/
def kp8 : List (Nat × List Nat) := [(0, [0]), (1, [2])]
def od8 : List (Nat × List (List Nat)) := []
def F8 : FIR := ⟨7, [.tmp 2],
 (.seq (.reg [⟨(some 2), none, .mv (.const (Value.bool false))⟩] [0])
 (.seq (.reg [⟨(some 3), none, .mv (.tmp 0)⟩,
     ⟨(some 4), none, .nilck (.tmp 3)⟩,
     ⟨(some 5), none, .fld 6 (.tmp 4)⟩,
     ⟨(some 6), none, .load1 (.tmp 5)⟩,
     ⟨(some 2), none, .mv (.tmp 6)⟩] [2])
  .ret))⟩
theorem low8 : lowF Tryz.prog (assoc kp8) (assoc od8) 8 = some F8 := by kernel_rfl

/- slices.Clone[[]palaver/api.Choice,palaver/api.Choice] -/
def kp33 : List (Nat × List Nat) := [(0, [0]), (1, [0, 4]), (2, [2]), (3, [2])]
def od33 : List (Nat × List (List Nat)) := []
def F33 : FIR := ⟨8, [.tmp 2],
 (.seq (.reg [⟨(some 2), none, .mv (.const (Value.slice none 0 0))⟩] [0])
 (.seq (.seq (.reg [⟨(some 3), none, .mv (.tmp 0)⟩,
      ⟨(some 4), none, .eqnil false .slice (.tmp 3)⟩] [0, 4])
   (.cond (.tmp 4)
      (.seq (.reg [⟨(some 2), none, .mv (.const (Value.slice none 0 0))⟩] [2])
       .ret)
      .skip))
  (.seq (.reg [⟨(some 5), none, .bslice 28 0 [(Value.int IntKind.u8 0), (Value.int IntKind.i64 0), (Value.string ⟨#[]⟩)] []⟩,
      ⟨(some 6), none, .mv (.tmp 0)⟩,
      ⟨(some 7), none, .append 28 3 32 [(Value.int IntKind.u8 0), (Value.int IntKind.i64 0), (Value.string ⟨#[]⟩)] (.tmp 5) (.tmp 6)⟩,
      ⟨(some 2), none, .mv (.tmp 7)⟩] [2])
   .ret)))⟩
theorem low33 : lowF Tryz.prog (assoc kp33) (assoc od33) 33 = some F33 := by kernel_rfl

/- slices.Clone[[]palaver/api.Deed,palaver/api.Deed] -/
def kp43 : List (Nat × List Nat) := [(0, [0]), (1, [0, 4]), (2, [2]), (3, [2])]
def od43 : List (Nat × List (List Nat)) := []
def F43 : FIR := ⟨8, [.tmp 2],
 (.seq (.reg [⟨(some 2), none, .mv (.const (Value.slice none 0 0))⟩] [0])
 (.seq (.seq (.reg [⟨(some 3), none, .mv (.tmp 0)⟩,
      ⟨(some 4), none, .eqnil false .slice (.tmp 3)⟩] [0, 4])
   (.cond (.tmp 4)
      (.seq (.reg [⟨(some 2), none, .mv (.const (Value.slice none 0 0))⟩] [2])
       .ret)
      .skip))
  (.seq (.reg [⟨(some 5), none, .bslice 81 0 [(Value.int IntKind.u8 0), (Value.int IntKind.i64 0), (Value.string ⟨#[]⟩), (Value.string ⟨#[]⟩), (Value.int IntKind.i64 0), (Value.int IntKind.i64 0)] []⟩,
      ⟨(some 6), none, .mv (.tmp 0)⟩,
      ⟨(some 7), none, .append 81 6 64 [(Value.int IntKind.u8 0), (Value.int IntKind.i64 0), (Value.string ⟨#[]⟩), (Value.string ⟨#[]⟩), (Value.int IntKind.i64 0), (Value.int IntKind.i64 0)] (.tmp 5) (.tmp 6)⟩,
      ⟨(some 2), none, .mv (.tmp 7)⟩] [2])
   .ret)))⟩
theorem low43 : lowF Tryz.prog (assoc kp43) (assoc od43) 43 = some F43 := by kernel_rfl

/- palaver/palaverlaw03.works -/
def kp5 : List (Nat × List Nat) := [(0, [31, 32, 60, 61, 79, 80, 83, 84, 85, 88, 89, 90, 93, 94, 95, 106, 107, 110, 111, 114, 115, 118, 119, 122, 123, 126, 127, 130, 131, 139, 140, 141, 142, 143, 146, 147, 148, 149, 150, 154, 157, 158, 161, 162, 165, 174, 175, 182, 183]), (1, [1, 2, 31, 32, 60, 61, 79, 80, 83, 84, 85, 88, 89, 90, 93, 94, 95, 106, 107, 110, 111, 114, 115, 118, 119, 122, 123, 126, 127, 130, 131, 139, 140, 141, 142, 143, 146, 147, 148, 149, 150, 154, 157, 158, 161, 162, 165, 174, 175, 182, 183]), (2, [1, 33, 60, 61, 79, 80, 83, 84, 85, 88, 89, 90, 93, 94, 95, 106, 107, 110, 111, 114, 115, 118, 119, 122, 123, 126, 127, 130, 131, 139, 140, 141, 142, 143, 146, 147, 148, 149, 150, 154, 157, 158, 161, 162, 165, 174, 175, 182, 183]), (3, [0]), (4, [1, 2, 3, 60, 61, 79, 80, 83, 84, 85, 88, 89, 90, 93, 94, 95, 106, 107, 110, 111, 114, 115, 118, 119, 122, 123, 126, 127, 130, 131, 139, 140, 141, 142, 143, 146, 147, 148, 149, 150, 154, 157, 158, 161, 162, 165, 174, 175, 182, 183]), (5, [1, 2, 3, 4, 5, 60, 61, 79, 80, 83, 84, 85, 88, 89, 90, 93, 94, 95, 106, 107, 110, 111, 114, 115, 118, 119, 122, 123, 126, 127, 130, 131, 139, 140, 141, 142, 143, 146, 147, 148, 149, 150, 154, 157, 158, 161, 162, 165, 174, 175, 182, 183]), (6, [1, 2, 3, 4, 5, 6, 60, 61, 79, 80, 83, 84, 85, 88, 89, 90, 93, 94, 95, 106, 107, 110, 111, 114, 115, 118, 119, 122, 123, 126, 127, 130, 131, 139, 140, 141, 142, 143, 146, 147, 148, 149, 150, 154, 157, 158, 161, 162, 165, 174, 175, 182, 183]), (7, [1, 2, 3, 4, 5, 6, 7, 8, 60, 61, 79, 80, 83, 84, 85, 88, 89, 90, 93, 94, 95, 106, 107, 110, 111, 114, 115, 118, 119, 122, 123, 126, 127, 130, 131, 139, 140, 141, 142, 143, 146, 147, 148, 149, 150, 154, 157, 158, 161, 162, 165, 174, 175, 182, 183]), (8, [1, 2, 3, 4, 5, 6, 7, 8, 9, 60, 61, 79, 80, 83, 84, 85, 88, 89, 90, 93, 94, 95, 106, 107, 110, 111, 114, 115, 118, 119, 122, 123, 126, 127, 130, 131, 139, 140, 141, 142, 143, 146, 147, 148, 149, 150, 154, 157, 158, 161, 162, 165, 174, 175, 182, 183]), (9, [1, 2, 3, 4, 5, 6, 7, 8, 9, 10, 60, 61, 79, 80, 83, 84, 85, 88, 89, 90, 93, 94, 95, 106, 107, 110, 111, 114, 115, 118, 119, 122, 123, 126, 127, 130, 131, 139, 140, 141, 142, 143, 146, 147, 148, 149, 150, 154, 157, 158, 161, 162, 165, 174, 175, 182, 183]), (10, [1, 2, 3, 4, 5, 6, 7, 8, 9, 10, 11, 60, 61, 79, 80, 83, 84, 85, 88, 89, 90, 93, 94, 95, 106, 107, 110, 111, 114, 115, 118, 119, 122, 123, 126, 127, 130, 131, 139, 140, 141, 142, 143, 146, 147, 148, 149, 150, 154, 157, 158, 161, 162, 165, 174, 175, 182, 183]), (11, [1, 2, 3, 4, 5, 6, 7, 8, 9, 10, 11, 62, 79, 80, 83, 84, 85, 88, 89, 90, 93, 94, 95, 106, 107, 110, 111, 114, 115, 118, 119, 122, 123, 126, 127, 130, 131, 139, 140, 141, 142, 143, 146, 147, 148, 149, 150, 154, 157, 158, 161, 162, 165, 174, 175, 182, 183]), (12, [0]), (13, [1, 2, 3, 4, 5, 6, 7, 8, 9, 11, 12, 79, 80, 83, 84, 85, 88, 89, 90, 93, 94, 95, 106, 107, 110, 111, 114, 115, 118, 119, 122, 123, 126, 127, 130, 131, 139, 140, 141, 142, 143, 146, 147, 148, 149, 150, 154, 157, 158, 161, 162, 165, 174, 175, 182, 183]), (14, [1, 2, 3, 4, 5, 6, 7, 8, 9, 12, 13, 79, 80, 83, 84, 85, 88, 89, 90, 93, 94, 95, 106, 107, 110, 111, 114, 115, 118, 119, 122, 123, 126, 127, 130, 131, 139, 140, 141, 142, 143, 146, 147, 148, 149, 150, 154, 157, 158, 161, 162, 165, 174, 175, 182, 183]), (15, [2, 3, 4, 5, 6, 7, 8, 9, 12, 13, 14, 79, 80, 83, 84, 85, 88, 89, 90, 93, 94, 95, 106, 107, 110, 111, 114, 115, 118, 119, 122, 123, 126, 127, 130, 131, 139, 140, 141, 142, 143, 146, 147, 148, 149, 150, 154, 157, 158, 161, 162, 165, 174, 175, 182, 183]), (16, [2, 3, 4, 5, 6, 7, 8, 9, 12, 13, 14, 15, 16, 79, 80, 83, 84, 85, 88, 89, 90, 93, 94, 95, 106, 107, 110, 111, 114, 115, 118, 119, 122, 123, 126, 127, 130, 131, 139, 140, 141, 142, 143, 146, 147, 148, 149, 150, 154, 157, 158, 161, 162, 165, 174, 175, 182, 183]), (17, [2, 3, 4, 5, 6, 7, 8, 9, 12, 13, 14, 15, 96, 106, 107, 110, 111, 114, 115, 118, 119, 122, 123, 126, 127, 130, 131, 139, 140, 141, 142, 143, 146, 147, 148, 149, 150, 154, 157, 158, 161, 162, 165, 174, 175, 182, 183]), (18, [0]), (19, [2, 3, 4, 5, 6, 7, 8, 9, 12, 13, 14, 15, 17, 106, 107, 110, 111, 114, 115, 118, 119, 122, 123, 126, 127, 130, 131, 139, 140, 141, 142, 143, 146, 147, 148, 149, 150, 154, 157, 158, 161, 162, 165, 174, 175, 182, 183]), (20, [2, 3, 4, 5, 6, 7, 8, 9, 12, 13, 14, 15, 17, 18, 106, 107, 110, 111, 114, 115, 118, 119, 122, 123, 126, 127, 130, 131, 139, 140, 141, 142, 143, 146, 147, 148, 149, 150, 154, 157, 158, 161, 162, 165, 174, 175, 182, 183]), (21, [2, 3, 4, 5, 6, 7, 8, 9, 12, 13, 14, 17, 18, 19, 106, 107, 110, 111, 114, 115, 118, 119, 122, 123, 126, 127, 130, 131, 139, 140, 141, 142, 143, 146, 147, 148, 149, 150, 154, 157, 158, 161, 162, 165, 174, 175, 182, 183]), (22, [6, 12, 13, 14, 17, 18, 19, 20, 139, 140, 141, 142, 143, 146, 147, 148, 149, 150, 154, 157, 158, 161, 162, 165, 174, 175, 182, 183]), (23, [6, 17, 18, 19, 20, 21, 154, 157, 158, 161, 162, 165, 174, 175, 182, 183]), (24, [0])]
def od5 : List (Nat × List (List Nat)) := []
def F5 : FIR := ⟨185, [.tmp 0],
 (.seq (.reg [⟨(some 0), none, .mv (.const (Value.bool false))⟩] [31, 32, 60, 61, 79, 80, 83, 84, 85, 88, 89, 90, 93, 94, 95, 106, 107, 110, 111, 114, 115, 118, 119, 122, 123, 126, 127, 130, 131, 139, 140, 141, 142, 143, 146, 147, 148, 149, 150, 154, 157, 158, 161, 162, 165, 174, 175, 182, 183])
 (.seq (.reg [⟨(some 23), none, .build [(Value.string ⟨#[]⟩), (Value.string ⟨#[]⟩)] [(0, 1, (.const (Value.string ⟨#[97]⟩))), (1, 1, (.const (Value.string ⟨#[120, 121, 122]⟩)))]⟩,
     ⟨(some 24), none, .bslice 74 1 [(Value.string ⟨#[]⟩), (Value.string ⟨#[]⟩)] [(0, 2, (.tmp 23))]⟩,
     ⟨(some 25), none, .call 6 [(.const (Value.slice none 0 0)), (.tmp 24)]⟩,
     ⟨(some 22), none, .mv (.tmp 25)⟩,
     ⟨(some 26), none, .ext (.tmp 22) 0⟩,
     ⟨(some 27), none, .ext (.tmp 22) 1⟩,
     ⟨(some 1), none, .mv (.tmp 26)⟩,
     ⟨(some 2), none, .mv (.tmp 27)⟩] [1, 2, 31, 32, 60, 61, 79, 80, 83, 84, 85, 88, 89, 90, 93, 94, 95, 106, 107, 110, 111, 114, 115, 118, 119, 122, 123, 126, 127, 130, 131, 139, 140, 141, 142, 143, 146, 147, 148, 149, 150, 154, 157, 158, 161, 162, 165, 174, 175, 182, 183])
  (.seq (.seq (.reg [⟨(some 28), none, .mv (.tmp 1)⟩,
       ⟨(some 29), none, .eqnil false .ptr (.tmp 28)⟩,
       ⟨(some 30), none, .mv (.tmp 29)⟩,
       ⟨(some 31), (some (30, false)), .mv (.tmp 2)⟩,
       ⟨(some 32), (some (30, false)), .bin .neq (.tmp 31) (.const (Value.int IntKind.i64 0))⟩,
       ⟨(some 33), none, .pick (.tmp 30) (.const (Value.bool true)) (.tmp 32)⟩] [1, 33, 60, 61, 79, 80, 83, 84, 85, 88, 89, 90, 93, 94, 95, 106, 107, 110, 111, 114, 115, 118, 119, 122, 123, 126, 127, 130, 131, 139, 140, 141, 142, 143, 146, 147, 148, 149, 150, 154, 157, 158, 161, 162, 165, 174, 175, 182, 183])
    (.cond (.tmp 33)
       (.seq (.reg [⟨(some 0), none, .mv (.const (Value.bool false))⟩] [0])
        .ret)
       .skip))
   (.seq (.reg [⟨(some 35), none, .mv (.tmp 1)⟩,
       ⟨(some 36), none, .call 29 [(.tmp 35), (.const (Value.string ⟨#[97]⟩)), (.const (Value.int IntKind.i64 1))]⟩,
       ⟨(some 34), none, .mv (.tmp 36)⟩,
       ⟨(some 37), none, .ext (.tmp 34) 0⟩,
       ⟨(some 38), none, .ext (.tmp 34) 1⟩,
       ⟨(some 3), none, .mv (.tmp 37)⟩,
       ⟨(some 2), none, .mv (.tmp 38)⟩] [1, 2, 3, 60, 61, 79, 80, 83, 84, 85, 88, 89, 90, 93, 94, 95, 106, 107, 110, 111, 114, 115, 118, 119, 122, 123, 126, 127, 130, 131, 139, 140, 141, 142, 143, 146, 147, 148, 149, 150, 154, 157, 158, 161, 162, 165, 174, 175, 182, 183])
    (.seq (.reg [⟨(some 40), none, .mv (.tmp 1)⟩,
        ⟨(some 41), none, .call 30 [(.tmp 40), (.const (Value.int IntKind.i64 1)), (.const (Value.int IntKind.i64 2))]⟩,
        ⟨(some 39), none, .mv (.tmp 41)⟩,
        ⟨(some 42), none, .ext (.tmp 39) 0⟩,
        ⟨(some 43), none, .ext (.tmp 39) 1⟩,
        ⟨(some 4), none, .mv (.tmp 42)⟩,
        ⟨(some 5), none, .mv (.tmp 43)⟩] [1, 2, 3, 4, 5, 60, 61, 79, 80, 83, 84, 85, 88, 89, 90, 93, 94, 95, 106, 107, 110, 111, 114, 115, 118, 119, 122, 123, 126, 127, 130, 131, 139, 140, 141, 142, 143, 146, 147, 148, 149, 150, 154, 157, 158, 161, 162, 165, 174, 175, 182, 183])
     (.seq (.reg [⟨(some 44), none, .mv (.tmp 1)⟩,
         ⟨(some 45), none, .call 31 [(.tmp 44), (.const (Value.int IntKind.i64 1)), (.const (Value.string ⟨#[113]⟩))]⟩,
         ⟨(some 6), none, .mv (.tmp 45)⟩] [1, 2, 3, 4, 5, 6, 60, 61, 79, 80, 83, 84, 85, 88, 89, 90, 93, 94, 95, 106, 107, 110, 111, 114, 115, 118, 119, 122, 123, 126, 127, 130, 131, 139, 140, 141, 142, 143, 146, 147, 148, 149, 150, 154, 157, 158, 161, 162, 165, 174, 175, 182, 183])
      (.seq (.reg [⟨(some 47), none, .mv (.tmp 1)⟩,
          ⟨(some 48), none, .call 29 [(.tmp 47), (.const (Value.string ⟨#[97]⟩)), (.const (Value.int IntKind.i64 2))]⟩,
          ⟨(some 46), none, .mv (.tmp 48)⟩,
          ⟨(some 49), none, .ext (.tmp 46) 0⟩,
          ⟨(some 50), none, .ext (.tmp 46) 1⟩,
          ⟨(some 7), none, .mv (.tmp 49)⟩,
          ⟨(some 8), none, .mv (.tmp 50)⟩] [1, 2, 3, 4, 5, 6, 7, 8, 60, 61, 79, 80, 83, 84, 85, 88, 89, 90, 93, 94, 95, 106, 107, 110, 111, 114, 115, 118, 119, 122, 123, 126, 127, 130, 131, 139, 140, 141, 142, 143, 146, 147, 148, 149, 150, 154, 157, 158, 161, 162, 165, 174, 175, 182, 183])
       (.seq (.reg [⟨(some 51), none, .mv (.tmp 1)⟩,
           ⟨(some 52), none, .call 31 [(.tmp 51), (.const (Value.int IntKind.i64 2)), (.const (Value.string ⟨#[110, 101, 119]⟩))]⟩,
           ⟨(some 9), none, .mv (.tmp 52)⟩] [1, 2, 3, 4, 5, 6, 7, 8, 9, 60, 61, 79, 80, 83, 84, 85, 88, 89, 90, 93, 94, 95, 106, 107, 110, 111, 114, 115, 118, 119, 122, 123, 126, 127, 130, 131, 139, 140, 141, 142, 143, 146, 147, 148, 149, 150, 154, 157, 158, 161, 162, 165, 174, 175, 182, 183])
        (.seq (.reg [⟨(some 53), none, .mv (.tmp 1)⟩,
            ⟨(some 54), none, .call 25 [(.tmp 53), (.const (Value.int IntKind.u64 2)), (.const (Value.slice none 0 0))]⟩,
            ⟨(some 10), none, .mv (.tmp 54)⟩] [1, 2, 3, 4, 5, 6, 7, 8, 9, 10, 60, 61, 79, 80, 83, 84, 85, 88, 89, 90, 93, 94, 95, 106, 107, 110, 111, 114, 115, 118, 119, 122, 123, 126, 127, 130, 131, 139, 140, 141, 142, 143, 146, 147, 148, 149, 150, 154, 157, 158, 161, 162, 165, 174, 175, 182, 183])
         (.seq (.reg [⟨(some 55), none, .mv (.tmp 1)⟩,
             ⟨(some 56), none, .call 25 [(.tmp 55), (.const (Value.int IntKind.u64 0)), (.const (Value.slice none 0 0))]⟩,
             ⟨(some 11), none, .mv (.tmp 56)⟩] [1, 2, 3, 4, 5, 6, 7, 8, 9, 10, 11, 60, 61, 79, 80, 83, 84, 85, 88, 89, 90, 93, 94, 95, 106, 107, 110, 111, 114, 115, 118, 119, 122, 123, 126, 127, 130, 131, 139, 140, 141, 142, 143, 146, 147, 148, 149, 150, 154, 157, 158, 161, 162, 165, 174, 175, 182, 183])
          (.seq (.seq (.reg [⟨(some 57), none, .mv (.tmp 10)⟩,
               ⟨(some 58), none, .eqnil false .ptr (.tmp 57)⟩,
               ⟨(some 59), none, .mv (.tmp 58)⟩,
               ⟨(some 60), (some (59, false)), .mv (.tmp 11)⟩,
               ⟨(some 61), (some (59, false)), .eqnil false .ptr (.tmp 60)⟩,
               ⟨(some 62), none, .pick (.tmp 59) (.const (Value.bool true)) (.tmp 61)⟩] [1, 2, 3, 4, 5, 6, 7, 8, 9, 10, 11, 62, 79, 80, 83, 84, 85, 88, 89, 90, 93, 94, 95, 106, 107, 110, 111, 114, 115, 118, 119, 122, 123, 126, 127, 130, 131, 139, 140, 141, 142, 143, 146, 147, 148, 149, 150, 154, 157, 158, 161, 162, 165, 174, 175, 182, 183])
            (.cond (.tmp 62)
               (.seq (.reg [⟨(some 0), none, .mv (.const (Value.bool false))⟩] [0])
                .ret)
               .skip))
           (.seq (.reg [⟨(some 63), none, .mv (.tmp 10)⟩,
               ⟨(some 64), none, .call 10 [(.tmp 63)]⟩,
               ⟨(some 12), none, .mv (.tmp 64)⟩] [1, 2, 3, 4, 5, 6, 7, 8, 9, 11, 12, 79, 80, 83, 84, 85, 88, 89, 90, 93, 94, 95, 106, 107, 110, 111, 114, 115, 118, 119, 122, 123, 126, 127, 130, 131, 139, 140, 141, 142, 143, 146, 147, 148, 149, 150, 154, 157, 158, 161, 162, 165, 174, 175, 182, 183])
            (.seq (.reg [⟨(some 65), none, .mv (.tmp 11)⟩,
                ⟨(some 66), none, .call 10 [(.tmp 65)]⟩,
                ⟨(some 13), none, .mv (.tmp 66)⟩] [1, 2, 3, 4, 5, 6, 7, 8, 9, 12, 13, 79, 80, 83, 84, 85, 88, 89, 90, 93, 94, 95, 106, 107, 110, 111, 114, 115, 118, 119, 122, 123, 126, 127, 130, 131, 139, 140, 141, 142, 143, 146, 147, 148, 149, 150, 154, 157, 158, 161, 162, 165, 174, 175, 182, 183])
             (.seq (.reg [⟨(some 67), none, .mv (.tmp 1)⟩,
                 ⟨(some 68), none, .call 9 [(.tmp 67)]⟩,
                 ⟨(some 14), none, .mv (.tmp 68)⟩] [2, 3, 4, 5, 6, 7, 8, 9, 12, 13, 14, 79, 80, 83, 84, 85, 88, 89, 90, 93, 94, 95, 106, 107, 110, 111, 114, 115, 118, 119, 122, 123, 126, 127, 130, 131, 139, 140, 141, 142, 143, 146, 147, 148, 149, 150, 154, 157, 158, 161, 162, 165, 174, 175, 182, 183])
              (.seq (.reg [⟨(some 70), none, .build [(Value.int IntKind.u8 0), (Value.int IntKind.i64 0), (Value.string ⟨#[]⟩)] [(0, 1, (.const (Value.int IntKind.u8 7)))]⟩,
                  ⟨(some 71), none, .build [(Value.int IntKind.u8 0), (Value.int IntKind.i64 0), (Value.string ⟨#[]⟩)] [(0, 1, (.const (Value.int IntKind.u8 5)))]⟩,
                  ⟨(some 72), none, .bslice 28 2 [(Value.int IntKind.u8 0), (Value.int IntKind.i64 0), (Value.string ⟨#[]⟩)] [(0, 3, (.tmp 70)), (3, 3, (.tmp 71))]⟩,
                  ⟨(some 73), none, .call 6 [(.tmp 72), (.const (Value.slice none 0 0))]⟩,
                  ⟨(some 69), none, .mv (.tmp 73)⟩,
                  ⟨(some 74), none, .ext (.tmp 69) 0⟩,
                  ⟨(some 75), none, .ext (.tmp 69) 1⟩,
                  ⟨(some 15), none, .mv (.tmp 74)⟩,
                  ⟨(some 16), none, .mv (.tmp 75)⟩] [2, 3, 4, 5, 6, 7, 8, 9, 12, 13, 14, 15, 16, 79, 80, 83, 84, 85, 88, 89, 90, 93, 94, 95, 106, 107, 110, 111, 114, 115, 118, 119, 122, 123, 126, 127, 130, 131, 139, 140, 141, 142, 143, 146, 147, 148, 149, 150, 154, 157, 158, 161, 162, 165, 174, 175, 182, 183])
               (.seq (.seq (.reg [⟨(some 76), none, .mv (.tmp 15)⟩,
                    ⟨(some 77), none, .eqnil false .ptr (.tmp 76)⟩,
                    ⟨(some 78), none, .mv (.tmp 77)⟩,
                    ⟨(some 79), (some (78, false)), .mv (.tmp 16)⟩,
                    ⟨(some 80), (some (78, false)), .bin .neq (.tmp 79) (.const (Value.int IntKind.i64 0))⟩,
                    ⟨(some 81), none, .pick (.tmp 78) (.const (Value.bool true)) (.tmp 80)⟩,
                    ⟨(some 82), none, .mv (.tmp 81)⟩,
                    ⟨(some 83), (some (82, false)), .mv (.tmp 12)⟩,
                    ⟨(some 84), (some (82, false)), .lenL (.tmp 83)⟩,
                    ⟨(some 85), (some (82, false)), .bin .neq (.tmp 84) (.const (Value.int IntKind.i64 1))⟩,
                    ⟨(some 86), none, .pick (.tmp 82) (.const (Value.bool true)) (.tmp 85)⟩,
                    ⟨(some 87), none, .mv (.tmp 86)⟩,
                    ⟨(some 88), (some (87, false)), .mv (.tmp 13)⟩,
                    ⟨(some 89), (some (87, false)), .lenL (.tmp 88)⟩,
                    ⟨(some 90), (some (87, false)), .bin .neq (.tmp 89) (.const (Value.int IntKind.i64 1))⟩,
                    ⟨(some 91), none, .pick (.tmp 87) (.const (Value.bool true)) (.tmp 90)⟩,
                    ⟨(some 92), none, .mv (.tmp 91)⟩,
                    ⟨(some 93), (some (92, false)), .mv (.tmp 14)⟩,
                    ⟨(some 94), (some (92, false)), .lenL (.tmp 93)⟩,
                    ⟨(some 95), (some (92, false)), .bin .neq (.tmp 94) (.const (Value.int IntKind.i64 5))⟩,
                    ⟨(some 96), none, .pick (.tmp 92) (.const (Value.bool true)) (.tmp 95)⟩] [2, 3, 4, 5, 6, 7, 8, 9, 12, 13, 14, 15, 96, 106, 107, 110, 111, 114, 115, 118, 119, 122, 123, 126, 127, 130, 131, 139, 140, 141, 142, 143, 146, 147, 148, 149, 150, 154, 157, 158, 161, 162, 165, 174, 175, 182, 183])
                 (.cond (.tmp 96)
                    (.seq (.reg [⟨(some 0), none, .mv (.const (Value.bool false))⟩] [0])
                     .ret)
                    .skip))
                (.seq (.reg [⟨(some 97), none, .mv (.tmp 15)⟩,
                    ⟨(some 98), none, .call 11 [(.tmp 97), (.const (Value.string ⟨#[49]⟩))]⟩,
                    ⟨(some 17), none, .mv (.tmp 98)⟩] [2, 3, 4, 5, 6, 7, 8, 9, 12, 13, 14, 15, 17, 106, 107, 110, 111, 114, 115, 118, 119, 122, 123, 126, 127, 130, 131, 139, 140, 141, 142, 143, 146, 147, 148, 149, 150, 154, 157, 158, 161, 162, 165, 174, 175, 182, 183])
                 (.seq (.reg [⟨(some 99), none, .mv (.tmp 15)⟩,
                     ⟨(some 100), none, .call 11 [(.tmp 99), (.const (Value.string ⟨#[50]⟩))]⟩,
                     ⟨(some 18), none, .mv (.tmp 100)⟩] [2, 3, 4, 5, 6, 7, 8, 9, 12, 13, 14, 15, 17, 18, 106, 107, 110, 111, 114, 115, 118, 119, 122, 123, 126, 127, 130, 131, 139, 140, 141, 142, 143, 146, 147, 148, 149, 150, 154, 157, 158, 161, 162, 165, 174, 175, 182, 183])
                  (.seq (.reg [⟨(some 101), none, .mv (.tmp 15)⟩,
                      ⟨(some 102), none, .call 8 [(.tmp 101)]⟩,
                      ⟨(some 19), none, .mv (.tmp 102)⟩] [2, 3, 4, 5, 6, 7, 8, 9, 12, 13, 14, 17, 18, 19, 106, 107, 110, 111, 114, 115, 118, 119, 122, 123, 126, 127, 130, 131, 139, 140, 141, 142, 143, 146, 147, 148, 149, 150, 154, 157, 158, 161, 162, 165, 174, 175, 182, 183])
                   (.seq (.reg [⟨(some 103), none, .mv (.tmp 3)⟩,
                       ⟨(some 104), none, .bin .eql (.tmp 103) (.const (Value.int IntKind.i64 1))⟩,
                       ⟨(some 105), none, .mv (.tmp 104)⟩,
                       ⟨(some 106), (some (105, true)), .mv (.tmp 2)⟩,
                       ⟨(some 107), (some (105, true)), .bin .eql (.tmp 106) (.const (Value.int IntKind.i64 0))⟩,
                       ⟨(some 108), none, .pick (.tmp 105) (.tmp 107) (.const (Value.bool false))⟩,
                       ⟨(some 109), none, .mv (.tmp 108)⟩,
                       ⟨(some 110), (some (109, true)), .mv (.tmp 4)⟩,
                       ⟨(some 111), (some (109, true)), .bin .eql (.tmp 110) (.const (Value.string ⟨#[120, 121]⟩))⟩,
                       ⟨(some 112), none, .pick (.tmp 109) (.tmp 111) (.const (Value.bool false))⟩,
                       ⟨(some 113), none, .mv (.tmp 112)⟩,
                       ⟨(some 114), (some (113, true)), .mv (.tmp 5)⟩,
                       ⟨(some 115), (some (113, true)), .bin .eql (.tmp 114) (.const (Value.int IntKind.i64 0))⟩,
                       ⟨(some 116), none, .pick (.tmp 113) (.tmp 115) (.const (Value.bool false))⟩,
                       ⟨(some 117), none, .mv (.tmp 116)⟩,
                       ⟨(some 118), (some (117, true)), .mv (.tmp 6)⟩,
                       ⟨(some 119), (some (117, true)), .bin .eql (.tmp 118) (.const (Value.int IntKind.i64 33))⟩,
                       ⟨(some 120), none, .pick (.tmp 117) (.tmp 119) (.const (Value.bool false))⟩,
                       ⟨(some 121), none, .mv (.tmp 120)⟩,
                       ⟨(some 122), (some (121, true)), .mv (.tmp 7)⟩,
                       ⟨(some 123), (some (121, true)), .bin .eql (.tmp 122) (.const (Value.int IntKind.i64 2))⟩,
                       ⟨(some 124), none, .pick (.tmp 121) (.tmp 123) (.const (Value.bool false))⟩,
                       ⟨(some 125), none, .mv (.tmp 124)⟩,
                       ⟨(some 126), (some (125, true)), .mv (.tmp 8)⟩,
                       ⟨(some 127), (some (125, true)), .bin .eql (.tmp 126) (.const (Value.int IntKind.i64 0))⟩,
                       ⟨(some 128), none, .pick (.tmp 125) (.tmp 127) (.const (Value.bool false))⟩,
                       ⟨(some 129), none, .mv (.tmp 128)⟩,
                       ⟨(some 130), (some (129, true)), .mv (.tmp 9)⟩,
                       ⟨(some 131), (some (129, true)), .bin .eql (.tmp 130) (.const (Value.int IntKind.i64 0))⟩,
                       ⟨(some 132), none, .pick (.tmp 129) (.tmp 131) (.const (Value.bool false))⟩,
                       ⟨(some 20), none, .mv (.tmp 132)⟩] [6, 12, 13, 14, 17, 18, 19, 20, 139, 140, 141, 142, 143, 146, 147, 148, 149, 150, 154, 157, 158, 161, 162, 165, 174, 175, 182, 183])
                    (.seq (.reg [⟨(some 133), none, .mv (.tmp 12)⟩,
                        ⟨(some 134), none, .idxL 2 (.tmp 133) (.const (Value.int IntKind.i64 0))⟩,
                        ⟨(some 135), none, .fld 1 (.tmp 134)⟩,
                        ⟨(some 136), none, .load1 (.tmp 135)⟩,
                        ⟨(some 137), none, .bin .eql (.tmp 136) (.const (Value.string ⟨#[110, 101, 119]⟩))⟩,
                        ⟨(some 138), none, .mv (.tmp 137)⟩,
                        ⟨(some 139), (some (138, true)), .mv (.tmp 13)⟩,
                        ⟨(some 140), (some (138, true)), .idxL 2 (.tmp 139) (.const (Value.int IntKind.i64 0))⟩,
                        ⟨(some 141), (some (138, true)), .fld 1 (.tmp 140)⟩,
                        ⟨(some 142), (some (138, true)), .load1 (.tmp 141)⟩,
                        ⟨(some 143), (some (138, true)), .bin .eql (.tmp 142) (.const (Value.string ⟨#[120, 121, 122]⟩))⟩,
                        ⟨(some 144), none, .pick (.tmp 138) (.tmp 143) (.const (Value.bool false))⟩,
                        ⟨(some 145), none, .mv (.tmp 144)⟩,
                        ⟨(some 146), (some (145, true)), .mv (.tmp 14)⟩,
                        ⟨(some 147), (some (145, true)), .idxL 6 (.tmp 146) (.const (Value.int IntKind.i64 1))⟩,
                        ⟨(some 148), (some (145, true)), .loadN 6 (.tmp 147)⟩,
                        ⟨(some 149), (some (145, true)), .build [(Value.int IntKind.u8 0), (Value.int IntKind.i64 0), (Value.string ⟨#[]⟩), (Value.string ⟨#[]⟩), (Value.int IntKind.i64 0), (Value.int IntKind.i64 0)] [(0, 1, (.const (Value.int IntKind.u8 2))), (1, 1, (.const (Value.int IntKind.i64 1))), (4, 1, (.const (Value.int IntKind.i64 2))), (2, 1, (.const (Value.string ⟨#[120, 121]⟩)))]⟩,
                        ⟨(some 150), (some (145, true)), .eqagg false [.int, .int, .str, .str, .int, .int] (.tmp 148) (.tmp 149)⟩,
                        ⟨(some 151), none, .pick (.tmp 145) (.tmp 150) (.const (Value.bool false))⟩,
                        ⟨(some 21), none, .mv (.tmp 151)⟩] [6, 17, 18, 19, 20, 21, 154, 157, 158, 161, 162, 165, 174, 175, 182, 183])
                     (.seq (.reg [⟨(some 152), none, .mv (.tmp 20)⟩,
                         ⟨(some 153), none, .mv (.tmp 152)⟩,
                         ⟨(some 154), (some (153, true)), .mv (.tmp 21)⟩,
                         ⟨(some 155), none, .pick (.tmp 153) (.tmp 154) (.const (Value.bool false))⟩,
                         ⟨(some 156), none, .mv (.tmp 155)⟩,
                         ⟨(some 157), (some (156, true)), .mv (.tmp 17)⟩,
                         ⟨(some 158), (some (156, true)), .bin .eql (.tmp 157) (.const (Value.int IntKind.i64 0))⟩,
                         ⟨(some 159), none, .pick (.tmp 156) (.tmp 158) (.const (Value.bool false))⟩,
                         ⟨(some 160), none, .mv (.tmp 159)⟩,
                         ⟨(some 161), (some (160, true)), .mv (.tmp 18)⟩,
                         ⟨(some 162), (some (160, true)), .bin .eql (.tmp 161) (.const (Value.int IntKind.i64 36))⟩,
                         ⟨(some 163), none, .pick (.tmp 160) (.tmp 162) (.const (Value.bool false))⟩,
                         ⟨(some 164), none, .mv (.tmp 163)⟩,
                         ⟨(some 165), (some (164, true)), .mv (.tmp 19)⟩,
                         ⟨(some 166), none, .pick (.tmp 164) (.tmp 165) (.const (Value.bool false))⟩,
                         ⟨(some 167), none, .mv (.tmp 166)⟩,
                         ⟨(some 168), none, .pick (.tmp 167) (.const (Value.bool true)) (.const (Value.bool false))⟩,
                         ⟨(some 169), none, .mv (.tmp 168)⟩,
                         ⟨(some 170), none, .pick (.tmp 169) (.const (Value.bool true)) (.const (Value.bool false))⟩,
                         ⟨(some 171), none, .mv (.tmp 170)⟩,
                         ⟨(some 172), none, .pick (.tmp 171) (.const (Value.bool true)) (.const (Value.bool false))⟩,
                         ⟨(some 173), none, .mv (.tmp 172)⟩,
                         ⟨(some 174), (some (173, true)), .mv (.tmp 6)⟩,
                         ⟨(some 175), (some (173, true)), .bin .eql (.tmp 174) (.const (Value.int IntKind.i64 33))⟩,
                         ⟨(some 176), none, .pick (.tmp 173) (.tmp 175) (.const (Value.bool false))⟩,
                         ⟨(some 177), none, .mv (.tmp 176)⟩,
                         ⟨(some 178), none, .pick (.tmp 177) (.const (Value.bool true)) (.const (Value.bool false))⟩,
                         ⟨(some 179), none, .mv (.tmp 178)⟩,
                         ⟨(some 180), none, .pick (.tmp 179) (.const (Value.bool true)) (.const (Value.bool false))⟩,
                         ⟨(some 181), none, .mv (.tmp 180)⟩,
                         ⟨(some 182), (some (181, true)), .mv (.tmp 18)⟩,
                         ⟨(some 183), (some (181, true)), .bin .eql (.tmp 182) (.const (Value.int IntKind.i64 36))⟩,
                         ⟨(some 184), none, .pick (.tmp 181) (.tmp 183) (.const (Value.bool false))⟩,
                         ⟨(some 0), none, .mv (.tmp 184)⟩] [0])
                      .ret))))))))))))))))))))))⟩
theorem low5 : lowF Tryz.prog (assoc kp5) (assoc od5) 5 = some F5 := by kernel_rfl

/- palaver/palaverref03.Name -/
def kp54 : List (Nat × List Nat) := [(0, [0, 9, 10, 11, 25, 26, 29, 30, 31, 32, 33, 34, 37, 38, 39, 40, 41, 42, 45, 46, 49, 50, 53, 54, 57, 58]), (1, [0, 12, 25, 26, 29, 30, 31, 32, 33, 34, 37, 38, 39, 40, 41, 42, 45, 46, 49, 50, 53, 54, 57, 58]), (2, [2]), (3, [0, 3, 25, 26, 29, 30, 31, 32, 33, 34, 37, 38, 39, 40, 41, 42, 45, 46, 49, 50, 53, 54, 57, 58]), (4, [0, 3, 16, 25, 26, 29, 30, 31, 32, 33, 34, 37, 38, 39, 40, 41, 42, 45, 46, 49, 50, 53, 54, 57, 58]), (5, [0, 3, 25, 26, 29, 30, 31, 32, 33, 34, 37, 38, 39, 40, 41, 42, 45, 46, 49, 50, 53, 54, 57, 58]), (6, [0, 3, 4, 25, 26, 29, 30, 31, 32, 33, 34, 37, 38, 39, 40, 41, 42, 45, 46, 49, 50, 53, 54, 57, 58]), (7, [0, 3, 25, 26, 29, 30, 31, 32, 33, 34, 37, 38, 39, 40, 41, 42, 45, 46, 49, 50, 53, 54, 57, 58, 60]), (8, [2]), (9, [2])]
def od54 : List (Nat × List (List Nat)) := []
def F54 : FIR := ⟨61, [.tmp 2],
 (.seq (.reg [⟨(some 2), none, .mv (.const (Value.bool false))⟩] [0, 9, 10, 11, 25, 26, 29, 30, 31, 32, 33, 34, 37, 38, 39, 40, 41, 42, 45, 46, 49, 50, 53, 54, 57, 58])
 (.seq (.seq (.reg [⟨(some 5), none, .mv (.tmp 0)⟩,
      ⟨(some 6), none, .lenS (.tmp 5)⟩,
      ⟨(some 7), none, .bin .lss (.tmp 6) (.const (Value.int IntKind.i64 1))⟩,
      ⟨(some 8), none, .mv (.tmp 7)⟩,
      ⟨(some 9), (some (8, false)), .mv (.tmp 0)⟩,
      ⟨(some 10), (some (8, false)), .lenS (.tmp 9)⟩,
      ⟨(some 11), (some (8, false)), .bin .gtr (.tmp 10) (.const (Value.int IntKind.i64 64))⟩,
      ⟨(some 12), none, .pick (.tmp 8) (.const (Value.bool true)) (.tmp 11)⟩] [0, 12, 25, 26, 29, 30, 31, 32, 33, 34, 37, 38, 39, 40, 41, 42, 45, 46, 49, 50, 53, 54, 57, 58])
   (.cond (.tmp 12)
      (.seq (.reg [⟨(some 2), none, .mv (.const (Value.bool false))⟩] [2])
       .ret)
      .skip))
  (.seq (.seq (.reg [⟨(some 3), none, .mv (.const (Value.int IntKind.i64 0))⟩] [0, 3, 25, 26, 29, 30, 31, 32, 33, 34, 37, 38, 39, 40, 41, 42, 45, 46, 49, 50, 53, 54, 57, 58])
    (.block 0
      (.loop
       (.seq (.seq (.reg [⟨(some 13), none, .mv (.tmp 3)⟩,
           ⟨(some 14), none, .mv (.tmp 0)⟩,
           ⟨(some 15), none, .lenS (.tmp 14)⟩,
           ⟨(some 16), none, .bin .lss (.tmp 13) (.tmp 15)⟩] [0, 3, 16, 25, 26, 29, 30, 31, 32, 33, 34, 37, 38, 39, 40, 41, 42, 45, 46, 49, 50, 53, 54, 57, 58])
        (.cond (.tmp 16)
           .skip
           (.exit 0)))
       (.seq (.block 1
          (.seq (.reg [⟨(some 19), none, .mv (.tmp 0)⟩,
             ⟨(some 20), none, .mv (.tmp 3)⟩,
             ⟨(some 21), none, .idxS (.tmp 19) (.tmp 20)⟩,
             ⟨(some 4), none, .mv (.tmp 21)⟩] [0, 3, 4, 25, 26, 29, 30, 31, 32, 33, 34, 37, 38, 39, 40, 41, 42, 45, 46, 49, 50, 53, 54, 57, 58])
          (.seq (.reg [⟨(some 22), none, .mv (.tmp 4)⟩,
              ⟨(some 23), none, .bin .geq (.tmp 22) (.const (Value.int IntKind.u8 97))⟩,
              ⟨(some 24), none, .mv (.tmp 23)⟩,
              ⟨(some 25), (some (24, true)), .mv (.tmp 4)⟩,
              ⟨(some 26), (some (24, true)), .bin .leq (.tmp 25) (.const (Value.int IntKind.u8 122))⟩,
              ⟨(some 27), none, .pick (.tmp 24) (.tmp 26) (.const (Value.bool false))⟩,
              ⟨(some 28), none, .mv (.tmp 27)⟩,
              ⟨(some 29), (some (28, false)), .mv (.tmp 4)⟩,
              ⟨(some 30), (some (28, false)), .bin .geq (.tmp 29) (.const (Value.int IntKind.u8 65))⟩,
              ⟨(some 31), (some (28, false)), .mv (.tmp 30)⟩,
              ⟨(some 32), (some (31, true)), .mv (.tmp 4)⟩,
              ⟨(some 33), (some (31, true)), .bin .leq (.tmp 32) (.const (Value.int IntKind.u8 90))⟩,
              ⟨(some 34), (some (28, false)), .pick (.tmp 31) (.tmp 33) (.const (Value.bool false))⟩,
              ⟨(some 35), none, .pick (.tmp 28) (.const (Value.bool true)) (.tmp 34)⟩,
              ⟨(some 36), none, .mv (.tmp 35)⟩,
              ⟨(some 37), (some (36, false)), .mv (.tmp 4)⟩,
              ⟨(some 38), (some (36, false)), .bin .geq (.tmp 37) (.const (Value.int IntKind.u8 48))⟩,
              ⟨(some 39), (some (36, false)), .mv (.tmp 38)⟩,
              ⟨(some 40), (some (39, true)), .mv (.tmp 4)⟩,
              ⟨(some 41), (some (39, true)), .bin .leq (.tmp 40) (.const (Value.int IntKind.u8 57))⟩,
              ⟨(some 42), (some (36, false)), .pick (.tmp 39) (.tmp 41) (.const (Value.bool false))⟩,
              ⟨(some 43), none, .pick (.tmp 36) (.const (Value.bool true)) (.tmp 42)⟩,
              ⟨(some 44), none, .mv (.tmp 43)⟩,
              ⟨(some 45), (some (44, false)), .mv (.tmp 4)⟩,
              ⟨(some 46), (some (44, false)), .bin .eql (.tmp 45) (.const (Value.int IntKind.u8 46))⟩,
              ⟨(some 47), none, .pick (.tmp 44) (.const (Value.bool true)) (.tmp 46)⟩,
              ⟨(some 48), none, .mv (.tmp 47)⟩,
              ⟨(some 49), (some (48, false)), .mv (.tmp 4)⟩,
              ⟨(some 50), (some (48, false)), .bin .eql (.tmp 49) (.const (Value.int IntKind.u8 45))⟩,
              ⟨(some 51), none, .pick (.tmp 48) (.const (Value.bool true)) (.tmp 50)⟩,
              ⟨(some 52), none, .mv (.tmp 51)⟩,
              ⟨(some 53), (some (52, false)), .mv (.tmp 4)⟩,
              ⟨(some 54), (some (52, false)), .bin .eql (.tmp 53) (.const (Value.int IntKind.u8 95))⟩,
              ⟨(some 55), none, .pick (.tmp 52) (.const (Value.bool true)) (.tmp 54)⟩,
              ⟨(some 56), none, .mv (.tmp 55)⟩,
              ⟨(some 57), (some (56, false)), .mv (.tmp 4)⟩,
              ⟨(some 58), (some (56, false)), .bin .eql (.tmp 57) (.const (Value.int IntKind.u8 47))⟩,
              ⟨(some 59), none, .pick (.tmp 56) (.const (Value.bool true)) (.tmp 58)⟩,
              ⟨(some 60), none, .un .not (.tmp 59)⟩] [0, 3, 25, 26, 29, 30, 31, 32, 33, 34, 37, 38, 39, 40, 41, 42, 45, 46, 49, 50, 53, 54, 57, 58, 60])
           (.cond (.tmp 60)
              (.seq (.reg [⟨(some 2), none, .mv (.const (Value.bool false))⟩] [2])
               .ret)
              .skip))))
        (.reg [⟨(some 17), none, .mv (.tmp 3)⟩,
           ⟨(some 18), none, .bin .add (.tmp 17) (.const (Value.int IntKind.i64 1))⟩,
           ⟨(some 3), none, .mv (.tmp 18)⟩] [0, 3, 25, 26, 29, 30, 31, 32, 33, 34, 37, 38, 39, 40, 41, 42, 45, 46, 49, 50, 53, 54, 57, 58]))))))
   (.seq (.reg [⟨(some 2), none, .mv (.const (Value.bool true))⟩] [2])
    .ret))))⟩
theorem low54 : lowF Tryz.prog (assoc kp54) (assoc od54) 54 = some F54 := by kernel_rfl

end Go.Proofs.YtklkngccaemjdaaGreat

/-
  The code of functions, as terms: printed by a program, proved to be what the seat has.
-/
import Derived.Test.YtklkngccaemjdaaGreatWOb
import Derived.KernelRfl
import Derived.Test.YtklkngccaemjdaaGreatProg
set_option linter.unusedSimpArgs false
set_option linter.unusedVariables false
namespace Go.Proofs.YtklkngccaemjdaaGreat
open Go Go.V
set_option maxRecDepth 100000
/- (palaver/world.write).on -/
def kp76 : List (Nat × List Nat) := [(0, [1, 2]), (1, [1, 2, 7]), (2, [4]), (3, [1, 2, 5]), (4, [1, 2, 5, 18]), (5, [1, 2]), (6, [1]), (7, [4])]
def od76 : List (Nat × List (List Nat)) := [(6, [[0, 1, 2, 3, 4, 5, 6]])]
def F76 : FIR := ⟨30, [.tmp 4],
 (.seq (.reg [⟨(some 2), none, .box 130 (.tmp 0)⟩,
    ⟨(some 4), none, .mv (.const (Value.slice none 0 0))⟩] [1, 2])
 (.seq (.seq (.reg [⟨(some 6), none, .fld 3 (.tmp 2)⟩,
      ⟨(some 7), none, .load1 (.tmp 6)⟩] [1, 2, 7])
   (.cond (.tmp 7)
      (.seq (.reg [⟨(some 4), none, .mv (.const (Value.slice none 0 0))⟩] [4])
       .ret)
      .skip))
  (.seq (.seq (.reg [⟨(some 8), none, .fld 1 (.tmp 2)⟩,
       ⟨(some 9), none, .load1 (.tmp 8)⟩,
       ⟨(some 10), none, .fld 2 (.tmp 2)⟩,
       ⟨(some 11), none, .load1 (.tmp 10)⟩,
       ⟨(some 12), none, .lenS (.tmp 11)⟩,
       ⟨(some 13), none, .bin .add (.tmp 9) (.tmp 12)⟩,
       ⟨(some 14), none, .mv (.tmp 1)⟩,
       ⟨(some 15), none, .lenL (.tmp 14)⟩,
       ⟨(some 16), none, .bin .sub (.tmp 13) (.tmp 15)⟩,
       ⟨(some 5), none, .mv (.tmp 16)⟩] [1, 2, 5])
    (.seq (.reg [⟨(some 17), none, .mv (.tmp 5)⟩,
        ⟨(some 18), none, .bin .gtr (.tmp 17) (.const (Value.int IntKind.i64 0))⟩] [1, 2, 5, 18])
     (.cond (.tmp 18)
        (.reg [⟨(some 19), none, .mv (.tmp 1)⟩,
           ⟨(some 20), none, .mv (.tmp 5)⟩,
           ⟨(some 21), none, .grow 5 1 1 [(Value.int IntKind.u8 0)] (.tmp 19) (.tmp 20)⟩,
           ⟨(some 1), none, .mv (.tmp 21)⟩] [1, 2])
        .skip)))
   (.seq (.draw [[⟨(some 22), none, .mv (.tmp 1)⟩,
        ⟨(some 23), none, .fld 1 (.tmp 2)⟩,
        ⟨(some 24), none, .load1 (.tmp 23)⟩,
        ⟨(some 25), none, .slcL 1 (.tmp 22) (some (.tmp 24)) none none⟩,
        ⟨(some 26), none, .fld 2 (.tmp 2)⟩,
        ⟨(some 27), none, .load1 (.tmp 26)⟩,
        ⟨(some 28), none, .copy 1 (.tmp 25) (.tmp 27)⟩]] [1])
    (.seq (.reg [⟨(some 29), none, .mv (.tmp 1)⟩,
        ⟨(some 4), none, .mv (.tmp 29)⟩] [4])
     .ret)))))⟩
theorem low76 : lowF Tryz.prog (assoc kp76) (assoc od76) 76 = some F76 := by kernel_rfl

/- (*palaver/world.file).does -/
def kp91 : List (Nat × List Nat) := [(0, [0, 3]), (1, [0, 3]), (2, [])]
def od91 : List (Nat × List (List Nat)) := [(1, [[0, 1, 2, 3, 4, 5, 6, 7, 8, 9]]), (2, [[0, 1, 2, 3, 4, 5, 6, 7, 8, 9, 10]])]
def F91 : FIR := ⟨23, [],
 (.seq (.reg [⟨(some 3), none, .box 130 (.tmp 1)⟩] [0, 3])
 (.seq (.draw [[⟨(some 4), none, .mv (.tmp 0)⟩,
      ⟨(some 5), none, .loadN 4 (.tmp 3)⟩,
      ⟨(some 6), none, .mv (.tmp 0)⟩,
      ⟨(some 7), none, .nilck (.tmp 6)⟩,
      ⟨(some 8), none, .fld 0 (.tmp 7)⟩,
      ⟨(some 9), none, .load1 (.tmp 8)⟩,
      ⟨(some 10), none, .call 76 [(.tmp 5), (.tmp 9)]⟩,
      ⟨(some 11), none, .nilck (.tmp 4)⟩,
      ⟨(some 12), none, .fld 0 (.tmp 11)⟩,
      ⟨none, none, .store 1 (.tmp 12) (.tmp 10)⟩]] [0, 3])
  (.draw [[⟨(some 13), none, .mv (.tmp 0)⟩,
      ⟨(some 14), none, .mv (.tmp 0)⟩,
      ⟨(some 15), none, .nilck (.tmp 14)⟩,
      ⟨(some 16), none, .fld 2 (.tmp 15)⟩,
      ⟨(some 17), none, .load1 (.tmp 16)⟩,
      ⟨(some 18), none, .loadN 4 (.tmp 3)⟩,
      ⟨(some 19), none, .bslice 130 1 [(Value.int IntKind.i64 0), (Value.int IntKind.i64 0), (Value.string ⟨#[]⟩), (Value.bool false)] [(0, 4, (.tmp 18))]⟩,
      ⟨(some 20), none, .append 130 4 40 [(Value.int IntKind.i64 0), (Value.int IntKind.i64 0), (Value.string ⟨#[]⟩), (Value.bool false)] (.tmp 17) (.tmp 19)⟩,
      ⟨(some 21), none, .nilck (.tmp 13)⟩,
      ⟨(some 22), none, .fld 2 (.tmp 21)⟩,
      ⟨none, none, .store 1 (.tmp 22) (.tmp 20)⟩]] [])))⟩
theorem low91 : lowF Tryz.prog (assoc kp91) (assoc od91) 91 = some F91 := by kernel_rfl

/- (*palaver/world.World).Open$1 -/
def kp89 : List (Nat × List Nat) := [(0, [0, 1, 2, 3, 26, 27, 33, 34, 41, 42, 43, 44, 45, 46, 47, 48, 49, 50]), (1, [0, 1, 2, 3, 6, 7, 26, 27, 33, 34, 41, 42, 43, 44, 45, 46, 47, 48, 49, 50]), (2, [0, 1, 2, 3, 6, 7, 18, 26, 27, 33, 34, 41, 42, 43, 44, 45, 46, 47, 48, 49, 50]), (3, [5]), (4, [0, 1, 2, 3, 6, 7, 22, 33, 34, 41, 42, 43, 44, 45, 46, 47, 48, 49, 50]), (5, [5]), (6, [0, 1, 2, 3, 6, 7, 29, 41, 42, 43, 44, 45, 46, 47, 48, 49, 50]), (7, [5]), (8, [0, 1, 2, 3, 6, 7, 36]), (9, [5]), (10, [0, 1, 2, 3, 6, 53]), (11, [0, 1, 2, 3, 6]), (12, [0, 1, 3, 6]), (13, [0, 1, 3, 6, 8]), (14, [0, 1, 6, 8, 66]), (15, [0, 1, 6, 8, 66, 67]), (16, [0, 1, 8]), (17, [0, 1, 6, 8, 74]), (18, [0, 1, 8]), (19, []), (20, [5])]
def od89 : List (Nat × List (List Nat)) := [(1, [[0, 1, 2, 3, 4, 5, 6, 7, 8, 9, 10]]), (12, [[0, 1, 2, 3, 4, 5, 6]])]
def F89 : FIR := ⟨90, [.tmp 5],
 (.seq (.reg [⟨(some 5), none, .mv (.const (Value.int IntKind.i64 0))⟩] [0, 1, 2, 3, 26, 27, 33, 34, 41, 42, 43, 44, 45, 46, 47, 48, 49, 50])
 (.seq (.draw [[⟨(some 10), none, .load1 (.tmp 1)⟩,
      ⟨(some 11), none, .nilck (.tmp 10)⟩,
      ⟨(some 12), none, .fld 1 (.tmp 11)⟩,
      ⟨(some 13), none, .load1 (.tmp 12)⟩,
      ⟨(some 14), none, .load1 (.tmp 2)⟩,
      ⟨(some 15), none, .lookup .str (Value.pointer none) true (.tmp 13) (.tmp 14)⟩,
      ⟨(some 9), none, .mv (.tmp 15)⟩,
      ⟨(some 16), none, .ext (.tmp 9) 0⟩,
      ⟨(some 17), none, .ext (.tmp 9) 1⟩,
      ⟨(some 6), none, .mv (.tmp 16)⟩,
      ⟨(some 7), none, .mv (.tmp 17)⟩]] [0, 1, 2, 3, 6, 7, 26, 27, 33, 34, 41, 42, 43, 44, 45, 46, 47, 48, 49, 50])
  (.seq (.block 0
     (.seq (.reg [⟨(some 19), none, .load1 (.tmp 2)⟩,
        ⟨(some 20), none, .call 32 [(.tmp 19)]⟩,
        ⟨(some 21), none, .un .not (.tmp 20)⟩,
        ⟨(some 18), none, .mv (.tmp 21)⟩] [0, 1, 2, 3, 6, 7, 18, 26, 27, 33, 34, 41, 42, 43, 44, 45, 46, 47, 48, 49, 50])
     (.cond (.tmp 18)
        (.seq (.reg [⟨(some 5), none, .mv (.const (Value.int IntKind.i64 35))⟩] [5])
         .ret)
        (.seq (.reg [⟨(some 23), none, .load1 (.tmp 3)⟩,
            ⟨(some 24), none, .bin .lss (.tmp 23) (.const (Value.int IntKind.i64 1))⟩,
            ⟨(some 25), none, .mv (.tmp 24)⟩,
            ⟨(some 26), (some (25, false)), .load1 (.tmp 3)⟩,
            ⟨(some 27), (some (25, false)), .bin .gtr (.tmp 26) (.const (Value.int IntKind.i64 3))⟩,
            ⟨(some 28), none, .pick (.tmp 25) (.const (Value.bool true)) (.tmp 27)⟩,
            ⟨(some 22), none, .mv (.tmp 28)⟩] [0, 1, 2, 3, 6, 7, 22, 33, 34, 41, 42, 43, 44, 45, 46, 47, 48, 49, 50])
         (.cond (.tmp 22)
            (.seq (.reg [⟨(some 5), none, .mv (.const (Value.int IntKind.i64 33))⟩] [5])
             .ret)
            (.seq (.reg [⟨(some 30), none, .load1 (.tmp 3)⟩,
                ⟨(some 31), none, .bin .eql (.tmp 30) (.const (Value.int IntKind.i64 1))⟩,
                ⟨(some 32), none, .mv (.tmp 31)⟩,
                ⟨(some 33), (some (32, true)), .mv (.tmp 7)⟩,
                ⟨(some 34), (some (32, true)), .un .not (.tmp 33)⟩,
                ⟨(some 35), none, .pick (.tmp 32) (.tmp 34) (.const (Value.bool false))⟩,
                ⟨(some 29), none, .mv (.tmp 35)⟩] [0, 1, 2, 3, 6, 7, 29, 41, 42, 43, 44, 45, 46, 47, 48, 49, 50])
             (.cond (.tmp 29)
                (.seq (.reg [⟨(some 5), none, .mv (.const (Value.int IntKind.i64 32))⟩] [5])
                 .ret)
                (.seq (.reg [⟨(some 37), none, .load1 (.tmp 1)⟩,
                    ⟨(some 38), none, .call 90 [(.tmp 37)]⟩,
                    ⟨(some 39), none, .bin .geq (.tmp 38) (.const (Value.int IntKind.i64 32))⟩,
                    ⟨(some 40), none, .mv (.tmp 39)⟩,
                    ⟨(some 41), (some (40, false)), .mv (.tmp 7)⟩,
                    ⟨(some 42), (some (40, false)), .un .not (.tmp 41)⟩,
                    ⟨(some 43), (some (40, false)), .mv (.tmp 42)⟩,
                    ⟨(some 44), (some (43, true)), .load1 (.tmp 1)⟩,
                    ⟨(some 45), (some (43, true)), .nilck (.tmp 44)⟩,
                    ⟨(some 46), (some (43, true)), .fld 1 (.tmp 45)⟩,
                    ⟨(some 47), (some (43, true)), .load1 (.tmp 46)⟩,
                    ⟨(some 48), (some (43, true)), .mlen (.tmp 47)⟩,
                    ⟨(some 49), (some (43, true)), .bin .geq (.tmp 48) (.const (Value.int IntKind.i64 64))⟩,
                    ⟨(some 50), (some (40, false)), .pick (.tmp 43) (.tmp 49) (.const (Value.bool false))⟩,
                    ⟨(some 51), none, .pick (.tmp 40) (.const (Value.bool true)) (.tmp 50)⟩,
                    ⟨(some 36), none, .mv (.tmp 51)⟩] [0, 1, 2, 3, 6, 7, 36])
                 (.cond (.tmp 36)
                    (.seq (.reg [⟨(some 5), none, .mv (.const (Value.int IntKind.i64 34))⟩] [5])
                     .ret)
                    .skip)))))))))
   (.seq (.seq (.reg [⟨(some 52), none, .mv (.tmp 7)⟩,
        ⟨(some 53), none, .un .not (.tmp 52)⟩] [0, 1, 2, 3, 6, 53])
     (.cond (.tmp 53)
        (.seq (.reg [⟨(some 54), none, .build [(Value.slice none 0 0), (Value.slice none 0 0), (Value.slice none 0 0)] []⟩,
            ⟨(some 55), none, .box 92 (.tmp 54)⟩,
            ⟨(some 6), none, .mv (.tmp 55)⟩] [0, 1, 2, 3, 6])
         (.draw [[⟨(some 56), none, .load1 (.tmp 1)⟩,
             ⟨(some 57), none, .nilck (.tmp 56)⟩,
             ⟨(some 58), none, .fld 1 (.tmp 57)⟩,
             ⟨(some 59), none, .load1 (.tmp 58)⟩,
             ⟨(some 60), none, .load1 (.tmp 2)⟩,
             ⟨(some 61), none, .mv (.tmp 6)⟩,
             ⟨none, none, .mapupd .str (.tmp 59) (.tmp 60) (.tmp 61)⟩]] [0, 1, 3, 6]))
        .skip))
    (.seq (.reg [⟨(some 62), none, .mv (.tmp 6)⟩,
        ⟨(some 63), none, .load1 (.tmp 3)⟩,
        ⟨(some 64), none, .build [(Value.bool false), (Value.bool false), (Value.pointer none), (Value.int IntKind.i64 0), (Value.int IntKind.i64 0)] [(2, 1, (.tmp 62)), (3, 1, (.tmp 63))]⟩,
        ⟨(some 65), none, .box 116 (.tmp 64)⟩,
        ⟨(some 8), none, .mv (.tmp 65)⟩] [0, 1, 3, 6, 8])
     (.seq (.seq (.reg [⟨(some 66), none, .load1 (.tmp 3)⟩] [0, 1, 6, 8, 66])
       (.block 1
         (.seq (.reg [⟨(some 68), none, .bin .eql (.tmp 66) (.const (Value.int IntKind.i64 2))⟩,
            ⟨(some 67), none, .mv (.tmp 68)⟩] [0, 1, 6, 8, 66, 67])
         (.cond (.tmp 67)
            (.reg [⟨(some 69), none, .mv (.tmp 6)⟩,
               ⟨(some 70), none, .load1 (.tmp 1)⟩,
               ⟨(some 71), none, .call 92 [(.tmp 70)]⟩,
               ⟨(some 72), none, .build [(Value.int IntKind.i64 0), (Value.int IntKind.i64 0), (Value.string ⟨#[]⟩), (Value.bool false)] [(0, 1, (.tmp 71)), (3, 1, (.const (Value.bool true)))]⟩,
               ⟨(some 73), none, .call 91 [(.tmp 69), (.tmp 72)]⟩] [0, 1, 8])
            (.seq (.reg [⟨(some 75), none, .bin .eql (.tmp 66) (.const (Value.int IntKind.i64 3))⟩,
                ⟨(some 74), none, .mv (.tmp 75)⟩] [0, 1, 6, 8, 74])
             (.cond (.tmp 74)
                (.reg [⟨(some 76), none, .mv (.tmp 8)⟩,
                   ⟨(some 77), none, .mv (.tmp 6)⟩,
                   ⟨(some 78), none, .nilck (.tmp 77)⟩,
                   ⟨(some 79), none, .fld 0 (.tmp 78)⟩,
                   ⟨(some 80), none, .load1 (.tmp 79)⟩,
                   ⟨(some 81), none, .lenL (.tmp 80)⟩,
                   ⟨(some 82), none, .nilck (.tmp 76)⟩,
                   ⟨(some 83), none, .fld 4 (.tmp 82)⟩,
                   ⟨none, none, .store 1 (.tmp 83) (.tmp 81)⟩] [0, 1, 8])
                .skip))))))
      (.seq (.reg [⟨(some 84), none, .mv (.tmp 0)⟩,
          ⟨(some 85), none, .load1 (.tmp 1)⟩,
          ⟨(some 86), none, .mv (.tmp 8)⟩,
          ⟨(some 87), none, .call 93 [(.tmp 85), (.tmp 86)]⟩,
          ⟨(some 88), none, .nilck (.tmp 84)⟩,
          ⟨(some 89), none, .fld 1 (.tmp 88)⟩,
          ⟨none, none, .store 1 (.tmp 89) (.tmp 87)⟩] [])
       (.seq (.reg [⟨(some 5), none, .mv (.const (Value.int IntKind.i64 0))⟩] [5])
        .ret))))))))⟩
theorem low89 : lowF Tryz.prog (assoc kp89) (assoc od89) 89 = some F89 := by kernel_rfl

/- (*palaver/world.World).Open -/
def kp29 : List (Nat × List Nat) := [(0, [3, 4, 5]), (1, [8, 9]), (2, [6, 7])]
def od29 : List (Nat × List (List Nat)) := []
def F29 : FIR := ⟨22, [.tmp 6, .tmp 7],
 (.seq (.reg [⟨(some 3), none, .box 29 (.tmp 0)⟩,
    ⟨(some 4), none, .box 9 (.tmp 1)⟩,
    ⟨(some 5), none, .box 3 (.tmp 2)⟩,
    ⟨(some 6), none, .mv (.const (Value.int IntKind.i64 0))⟩,
    ⟨(some 7), none, .mv (.const (Value.int IntKind.i64 0))⟩] [3, 4, 5])
 (.seq (.reg [⟨(some 11), none, .load1 (.tmp 3)⟩,
     ⟨(some 12), none, .load1 (.tmp 4)⟩,
     ⟨(some 13), none, .load1 (.tmp 5)⟩,
     ⟨(some 14), none, .build [(Value.int IntKind.u8 0), (Value.int IntKind.i64 0), (Value.string ⟨#[]⟩), (Value.string ⟨#[]⟩), (Value.int IntKind.i64 0), (Value.int IntKind.i64 0)] [(0, 1, (.const (Value.int IntKind.u8 1))), (2, 1, (.tmp 12)), (4, 1, (.tmp 13))]⟩,
     ⟨(some 15), none, .clos (.func 89) [] [(.tmp 3), (.tmp 4), (.tmp 5)]⟩,
     ⟨(some 16), none, .call 48 [(.tmp 11), (.tmp 14), (.tmp 15)]⟩,
     ⟨(some 10), none, .mv (.tmp 16)⟩,
     ⟨(some 17), none, .ext (.tmp 10) 0⟩,
     ⟨(some 18), none, .ext (.tmp 10) 1⟩,
     ⟨(some 8), none, .alloc 81 [(Value.int IntKind.u8 0), (Value.int IntKind.i64 0), (Value.string ⟨#[]⟩), (Value.string ⟨#[]⟩), (Value.int IntKind.i64 0), (Value.int IntKind.i64 0)]⟩,
     ⟨none, none, .store 6 (.tmp 8) (.tmp 17)⟩,
     ⟨(some 9), none, .mv (.tmp 18)⟩] [8, 9])
  (.seq (.reg [⟨(some 19), none, .fld 1 (.tmp 8)⟩,
      ⟨(some 20), none, .load1 (.tmp 19)⟩,
      ⟨(some 21), none, .mv (.tmp 9)⟩,
      ⟨(some 6), none, .mv (.tmp 20)⟩,
      ⟨(some 7), none, .mv (.tmp 21)⟩] [6, 7])
   .ret)))⟩
theorem low29 : lowF Tryz.prog (assoc kp29) (assoc od29) 29 = some F29 := by kernel_rfl

/- (*palaver/world.World).Write$1 -/
def kp95 : List (Nat × List Nat) := [(0, [1, 2, 3]), (1, [1, 3, 6, 7]), (2, [1, 3, 6, 7, 15]), (3, [5]), (4, [1, 3, 6, 19]), (5, [5]), (6, [1, 3, 6, 8]), (7, [1, 3, 6, 8, 33]), (8, [1, 3, 6, 8]), (9, [1, 3, 6, 8, 46]), (10, [5]), (11, [3, 6, 8]), (12, []), (13, [5])]
def od95 : List (Nat × List (List Nat)) := [(11, [[0, 1, 2, 3, 4, 5, 6, 7, 8, 9], [0, 1, 2, 4, 5, 3, 6, 7, 8, 9], [0, 1, 2, 4, 5, 6, 7, 3, 8, 9], [0, 1, 2, 3, 4, 6, 7, 5, 8, 9], [0, 1, 2, 4, 6, 7, 3, 5, 8, 9], [0, 1, 2, 4, 6, 7, 5, 3, 8, 9]])]
def F95 : FIR := ⟨64, [.tmp 5],
 (.seq (.reg [⟨(some 5), none, .mv (.const (Value.int IntKind.i64 0))⟩] [1, 2, 3])
 (.seq (.reg [⟨(some 10), none, .load1 (.tmp 1)⟩,
     ⟨(some 11), none, .load1 (.tmp 2)⟩,
     ⟨(some 12), none, .call 51 [(.tmp 10), (.tmp 11), (.const (Value.bool false))]⟩,
     ⟨(some 9), none, .mv (.tmp 12)⟩,
     ⟨(some 13), none, .ext (.tmp 9) 0⟩,
     ⟨(some 14), none, .ext (.tmp 9) 1⟩,
     ⟨(some 6), none, .mv (.tmp 13)⟩,
     ⟨(some 7), none, .mv (.tmp 14)⟩] [1, 3, 6, 7])
  (.seq (.block 0
     (.seq (.reg [⟨(some 16), none, .mv (.tmp 7)⟩,
        ⟨(some 17), none, .bin .neq (.tmp 16) (.const (Value.int IntKind.i64 0))⟩,
        ⟨(some 15), none, .mv (.tmp 17)⟩] [1, 3, 6, 7, 15])
     (.cond (.tmp 15)
        (.seq (.reg [⟨(some 18), none, .mv (.tmp 7)⟩,
            ⟨(some 5), none, .mv (.tmp 18)⟩] [5])
         .ret)
        (.seq (.reg [⟨(some 20), none, .mv (.tmp 6)⟩,
            ⟨(some 21), none, .nilck (.tmp 20)⟩,
            ⟨(some 22), none, .fld 3 (.tmp 21)⟩,
            ⟨(some 23), none, .load1 (.tmp 22)⟩,
            ⟨(some 24), none, .bin .eql (.tmp 23) (.const (Value.int IntKind.i64 1))⟩,
            ⟨(some 19), none, .mv (.tmp 24)⟩] [1, 3, 6, 19])
         (.cond (.tmp 19)
            (.seq (.reg [⟨(some 5), none, .mv (.const (Value.int IntKind.i64 33))⟩] [5])
             .ret)
            .skip)))))
   (.seq (.reg [⟨(some 25), none, .mv (.tmp 6)⟩,
       ⟨(some 26), none, .nilck (.tmp 25)⟩,
       ⟨(some 27), none, .fld 4 (.tmp 26)⟩,
       ⟨(some 28), none, .load1 (.tmp 27)⟩,
       ⟨(some 8), none, .mv (.tmp 28)⟩] [1, 3, 6, 8])
    (.seq (.seq (.reg [⟨(some 29), none, .mv (.tmp 6)⟩,
         ⟨(some 30), none, .nilck (.tmp 29)⟩,
         ⟨(some 31), none, .fld 3 (.tmp 30)⟩,
         ⟨(some 32), none, .load1 (.tmp 31)⟩,
         ⟨(some 33), none, .bin .eql (.tmp 32) (.const (Value.int IntKind.i64 3))⟩] [1, 3, 6, 8, 33])
      (.cond (.tmp 33)
         (.reg [⟨(some 34), none, .mv (.tmp 6)⟩,
            ⟨(some 35), none, .nilck (.tmp 34)⟩,
            ⟨(some 36), none, .fld 2 (.tmp 35)⟩,
            ⟨(some 37), none, .load1 (.tmp 36)⟩,
            ⟨(some 38), none, .nilck (.tmp 37)⟩,
            ⟨(some 39), none, .fld 0 (.tmp 38)⟩,
            ⟨(some 40), none, .load1 (.tmp 39)⟩,
            ⟨(some 41), none, .lenL (.tmp 40)⟩,
            ⟨(some 8), none, .mv (.tmp 41)⟩] [1, 3, 6, 8])
         .skip))
     (.seq (.seq (.reg [⟨(some 42), none, .load1 (.tmp 3)⟩,
          ⟨(some 43), none, .lenS (.tmp 42)⟩,
          ⟨(some 44), none, .mv (.tmp 8)⟩,
          ⟨(some 45), none, .bin .sub (.const (Value.int IntKind.i64 4194304)) (.tmp 44)⟩,
          ⟨(some 46), none, .bin .gtr (.tmp 43) (.tmp 45)⟩] [1, 3, 6, 8, 46])
       (.cond (.tmp 46)
          (.seq (.reg [⟨(some 5), none, .mv (.const (Value.int IntKind.i64 34))⟩] [5])
           .ret)
          .skip))
      (.seq (.draw [[⟨(some 47), none, .mv (.tmp 6)⟩,
           ⟨(some 48), none, .nilck (.tmp 47)⟩,
           ⟨(some 49), none, .fld 2 (.tmp 48)⟩,
           ⟨(some 50), none, .load1 (.tmp 49)⟩,
           ⟨(some 51), none, .load1 (.tmp 1)⟩,
           ⟨(some 52), none, .call 92 [(.tmp 51)]⟩,
           ⟨(some 53), none, .mv (.tmp 8)⟩,
           ⟨(some 54), none, .load1 (.tmp 3)⟩,
           ⟨(some 55), none, .build [(Value.int IntKind.i64 0), (Value.int IntKind.i64 0), (Value.string ⟨#[]⟩), (Value.bool false)] [(0, 1, (.tmp 52)), (1, 1, (.tmp 53)), (2, 1, (.tmp 54))]⟩,
           ⟨(some 56), none, .call 91 [(.tmp 50), (.tmp 55)]⟩],
         [⟨(some 47), none, .mv (.tmp 6)⟩,
           ⟨(some 48), none, .nilck (.tmp 47)⟩,
           ⟨(some 49), none, .fld 2 (.tmp 48)⟩,
           ⟨(some 51), none, .load1 (.tmp 1)⟩,
           ⟨(some 52), none, .call 92 [(.tmp 51)]⟩,
           ⟨(some 50), none, .load1 (.tmp 49)⟩,
           ⟨(some 53), none, .mv (.tmp 8)⟩,
           ⟨(some 54), none, .load1 (.tmp 3)⟩,
           ⟨(some 55), none, .build [(Value.int IntKind.i64 0), (Value.int IntKind.i64 0), (Value.string ⟨#[]⟩), (Value.bool false)] [(0, 1, (.tmp 52)), (1, 1, (.tmp 53)), (2, 1, (.tmp 54))]⟩,
           ⟨(some 56), none, .call 91 [(.tmp 50), (.tmp 55)]⟩],
         [⟨(some 47), none, .mv (.tmp 6)⟩,
           ⟨(some 48), none, .nilck (.tmp 47)⟩,
           ⟨(some 49), none, .fld 2 (.tmp 48)⟩,
           ⟨(some 51), none, .load1 (.tmp 1)⟩,
           ⟨(some 52), none, .call 92 [(.tmp 51)]⟩,
           ⟨(some 53), none, .mv (.tmp 8)⟩,
           ⟨(some 54), none, .load1 (.tmp 3)⟩,
           ⟨(some 50), none, .load1 (.tmp 49)⟩,
           ⟨(some 55), none, .build [(Value.int IntKind.i64 0), (Value.int IntKind.i64 0), (Value.string ⟨#[]⟩), (Value.bool false)] [(0, 1, (.tmp 52)), (1, 1, (.tmp 53)), (2, 1, (.tmp 54))]⟩,
           ⟨(some 56), none, .call 91 [(.tmp 50), (.tmp 55)]⟩],
         [⟨(some 47), none, .mv (.tmp 6)⟩,
           ⟨(some 48), none, .nilck (.tmp 47)⟩,
           ⟨(some 49), none, .fld 2 (.tmp 48)⟩,
           ⟨(some 50), none, .load1 (.tmp 49)⟩,
           ⟨(some 51), none, .load1 (.tmp 1)⟩,
           ⟨(some 53), none, .mv (.tmp 8)⟩,
           ⟨(some 54), none, .load1 (.tmp 3)⟩,
           ⟨(some 52), none, .call 92 [(.tmp 51)]⟩,
           ⟨(some 55), none, .build [(Value.int IntKind.i64 0), (Value.int IntKind.i64 0), (Value.string ⟨#[]⟩), (Value.bool false)] [(0, 1, (.tmp 52)), (1, 1, (.tmp 53)), (2, 1, (.tmp 54))]⟩,
           ⟨(some 56), none, .call 91 [(.tmp 50), (.tmp 55)]⟩],
         [⟨(some 47), none, .mv (.tmp 6)⟩,
           ⟨(some 48), none, .nilck (.tmp 47)⟩,
           ⟨(some 49), none, .fld 2 (.tmp 48)⟩,
           ⟨(some 51), none, .load1 (.tmp 1)⟩,
           ⟨(some 53), none, .mv (.tmp 8)⟩,
           ⟨(some 54), none, .load1 (.tmp 3)⟩,
           ⟨(some 50), none, .load1 (.tmp 49)⟩,
           ⟨(some 52), none, .call 92 [(.tmp 51)]⟩,
           ⟨(some 55), none, .build [(Value.int IntKind.i64 0), (Value.int IntKind.i64 0), (Value.string ⟨#[]⟩), (Value.bool false)] [(0, 1, (.tmp 52)), (1, 1, (.tmp 53)), (2, 1, (.tmp 54))]⟩,
           ⟨(some 56), none, .call 91 [(.tmp 50), (.tmp 55)]⟩],
         [⟨(some 47), none, .mv (.tmp 6)⟩,
           ⟨(some 48), none, .nilck (.tmp 47)⟩,
           ⟨(some 49), none, .fld 2 (.tmp 48)⟩,
           ⟨(some 51), none, .load1 (.tmp 1)⟩,
           ⟨(some 53), none, .mv (.tmp 8)⟩,
           ⟨(some 54), none, .load1 (.tmp 3)⟩,
           ⟨(some 52), none, .call 92 [(.tmp 51)]⟩,
           ⟨(some 50), none, .load1 (.tmp 49)⟩,
           ⟨(some 55), none, .build [(Value.int IntKind.i64 0), (Value.int IntKind.i64 0), (Value.string ⟨#[]⟩), (Value.bool false)] [(0, 1, (.tmp 52)), (1, 1, (.tmp 53)), (2, 1, (.tmp 54))]⟩,
           ⟨(some 56), none, .call 91 [(.tmp 50), (.tmp 55)]⟩]] [3, 6, 8])
       (.seq (.reg [⟨(some 57), none, .mv (.tmp 6)⟩,
           ⟨(some 58), none, .mv (.tmp 8)⟩,
           ⟨(some 59), none, .load1 (.tmp 3)⟩,
           ⟨(some 60), none, .lenS (.tmp 59)⟩,
           ⟨(some 61), none, .bin .add (.tmp 58) (.tmp 60)⟩,
           ⟨(some 62), none, .nilck (.tmp 57)⟩,
           ⟨(some 63), none, .fld 4 (.tmp 62)⟩,
           ⟨none, none, .store 1 (.tmp 63) (.tmp 61)⟩] [])
        (.seq (.reg [⟨(some 5), none, .mv (.const (Value.int IntKind.i64 0))⟩] [5])
         .ret)))))))))⟩
theorem low95 : lowF Tryz.prog (assoc kp95) (assoc od95) 95 = some F95 := by kernel_rfl

/- (*palaver/world.World).Write -/
def kp31 : List (Nat × List Nat) := [(0, [3, 4, 5]), (1, [8]), (2, [6])]
def od31 : List (Nat × List (List Nat)) := []
def F31 : FIR := ⟨19, [.tmp 6],
 (.seq (.reg [⟨(some 3), none, .box 29 (.tmp 0)⟩,
    ⟨(some 4), none, .box 3 (.tmp 1)⟩,
    ⟨(some 5), none, .box 9 (.tmp 2)⟩,
    ⟨(some 6), none, .mv (.const (Value.int IntKind.i64 0))⟩] [3, 4, 5])
 (.seq (.reg [⟨(some 10), none, .load1 (.tmp 3)⟩,
     ⟨(some 11), none, .load1 (.tmp 4)⟩,
     ⟨(some 12), none, .load1 (.tmp 5)⟩,
     ⟨(some 13), none, .build [(Value.int IntKind.u8 0), (Value.int IntKind.i64 0), (Value.string ⟨#[]⟩), (Value.string ⟨#[]⟩), (Value.int IntKind.i64 0), (Value.int IntKind.i64 0)] [(0, 1, (.const (Value.int IntKind.u8 3))), (1, 1, (.tmp 11)), (2, 1, (.tmp 12))]⟩,
     ⟨(some 14), none, .clos (.func 95) [] [(.tmp 3), (.tmp 4), (.tmp 5)]⟩,
     ⟨(some 15), none, .call 48 [(.tmp 10), (.tmp 13), (.tmp 14)]⟩,
     ⟨(some 9), none, .mv (.tmp 15)⟩,
     ⟨(some 16), none, .ext (.tmp 9) 0⟩,
     ⟨(some 17), none, .ext (.tmp 9) 1⟩,
     ⟨(some 7), none, .alloc 81 [(Value.int IntKind.u8 0), (Value.int IntKind.i64 0), (Value.string ⟨#[]⟩), (Value.string ⟨#[]⟩), (Value.int IntKind.i64 0), (Value.int IntKind.i64 0)]⟩,
     ⟨none, none, .store 6 (.tmp 7) (.tmp 16)⟩,
     ⟨(some 8), none, .mv (.tmp 17)⟩] [8])
  (.seq (.reg [⟨(some 18), none, .mv (.tmp 8)⟩,
      ⟨(some 6), none, .mv (.tmp 18)⟩] [6])
   .ret)))⟩
theorem low31 : lowF Tryz.prog (assoc kp31) (assoc od31) 31 = some F31 := by kernel_rfl

end Go.Proofs.YtklkngccaemjdaaGreat

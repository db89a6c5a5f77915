/-
  The code of functions, as terms: printed by a program, proved to be what the seat has.
-/
import Derived.Test.YtklkngccaemjdaaGreatWOc
import Derived.KernelRfl
import Derived.Test.YtklkngccaemjdaaGreatProg
set_option linter.unusedSimpArgs false
set_option linter.unusedVariables false
namespace Go.Proofs.YtklkngccaemjdaaGreat
open Go Go.V
set_option maxRecDepth 100000
/- (*palaver/world.World).Seek$1 -/
def kp97 : List (Nat × List Nat) := [(0, [1, 2, 3, 22, 23, 24, 25, 26, 27, 28, 29, 30, 31]), (1, [3, 6, 7, 22, 23, 24, 25, 26, 27, 28, 29, 30, 31]), (2, [3, 6, 7, 14, 22, 23, 24, 25, 26, 27, 28, 29, 30, 31]), (3, [5]), (4, [3, 6, 18]), (5, [5]), (6, []), (7, [5])]
def od97 : List (Nat × List (List Nat)) := [(4, [[0, 1, 2, 3, 4, 5, 6, 7, 8, 9, 10, 11, 12, 13, 14]])]
def F97 : FIR := ⟨37, [.tmp 5],
 (.seq (.reg [⟨(some 5), none, .mv (.const (Value.int IntKind.i64 0))⟩] [1, 2, 3, 22, 23, 24, 25, 26, 27, 28, 29, 30, 31])
 (.seq (.reg [⟨(some 9), none, .load1 (.tmp 1)⟩,
     ⟨(some 10), none, .load1 (.tmp 2)⟩,
     ⟨(some 11), none, .call 51 [(.tmp 9), (.tmp 10), (.const (Value.bool false))]⟩,
     ⟨(some 8), none, .mv (.tmp 11)⟩,
     ⟨(some 12), none, .ext (.tmp 8) 0⟩,
     ⟨(some 13), none, .ext (.tmp 8) 1⟩,
     ⟨(some 6), none, .mv (.tmp 12)⟩,
     ⟨(some 7), none, .mv (.tmp 13)⟩] [3, 6, 7, 22, 23, 24, 25, 26, 27, 28, 29, 30, 31])
  (.seq (.block 0
     (.seq (.reg [⟨(some 15), none, .mv (.tmp 7)⟩,
        ⟨(some 16), none, .bin .neq (.tmp 15) (.const (Value.int IntKind.i64 0))⟩,
        ⟨(some 14), none, .mv (.tmp 16)⟩] [3, 6, 7, 14, 22, 23, 24, 25, 26, 27, 28, 29, 30, 31])
     (.cond (.tmp 14)
        (.seq (.reg [⟨(some 17), none, .mv (.tmp 7)⟩,
            ⟨(some 5), none, .mv (.tmp 17)⟩] [5])
         .ret)
        (.seq (.draw [[⟨(some 19), none, .load1 (.tmp 3)⟩,
             ⟨(some 20), none, .bin .lss (.tmp 19) (.const (Value.int IntKind.i64 0))⟩,
             ⟨(some 21), none, .mv (.tmp 20)⟩,
             ⟨(some 22), (some (21, false)), .load1 (.tmp 3)⟩,
             ⟨(some 23), (some (21, false)), .mv (.tmp 6)⟩,
             ⟨(some 24), (some (21, false)), .nilck (.tmp 23)⟩,
             ⟨(some 25), (some (21, false)), .fld 2 (.tmp 24)⟩,
             ⟨(some 26), (some (21, false)), .load1 (.tmp 25)⟩,
             ⟨(some 27), (some (21, false)), .nilck (.tmp 26)⟩,
             ⟨(some 28), (some (21, false)), .fld 0 (.tmp 27)⟩,
             ⟨(some 29), (some (21, false)), .load1 (.tmp 28)⟩,
             ⟨(some 30), (some (21, false)), .lenL (.tmp 29)⟩,
             ⟨(some 31), (some (21, false)), .bin .gtr (.tmp 22) (.tmp 30)⟩,
             ⟨(some 32), none, .pick (.tmp 21) (.const (Value.bool true)) (.tmp 31)⟩,
             ⟨(some 18), none, .mv (.tmp 32)⟩]] [3, 6, 18])
         (.cond (.tmp 18)
            (.seq (.reg [⟨(some 5), none, .mv (.const (Value.int IntKind.i64 1))⟩] [5])
             .ret)
            .skip)))))
   (.seq (.reg [⟨(some 33), none, .mv (.tmp 6)⟩,
       ⟨(some 34), none, .load1 (.tmp 3)⟩,
       ⟨(some 35), none, .nilck (.tmp 33)⟩,
       ⟨(some 36), none, .fld 4 (.tmp 35)⟩,
       ⟨none, none, .store 1 (.tmp 36) (.tmp 34)⟩] [])
    (.seq (.reg [⟨(some 5), none, .mv (.const (Value.int IntKind.i64 0))⟩] [5])
     .ret)))))⟩
theorem low97 : lowF Tryz.prog (assoc kp97) (assoc od97) 97 = some F97 := by kernel_rfl

/- (*palaver/world.World).Seek -/
def kp34 : List (Nat × List Nat) := [(0, [3, 4, 5]), (1, [8]), (2, [6])]
def od34 : List (Nat × List (List Nat)) := []
def F34 : FIR := ⟨19, [.tmp 6],
 (.seq (.reg [⟨(some 3), none, .box 29 (.tmp 0)⟩,
    ⟨(some 4), none, .box 3 (.tmp 1)⟩,
    ⟨(some 5), none, .box 3 (.tmp 2)⟩,
    ⟨(some 6), none, .mv (.const (Value.int IntKind.i64 0))⟩] [3, 4, 5])
 (.seq (.reg [⟨(some 10), none, .load1 (.tmp 3)⟩,
     ⟨(some 11), none, .load1 (.tmp 4)⟩,
     ⟨(some 12), none, .load1 (.tmp 5)⟩,
     ⟨(some 13), none, .build [(Value.int IntKind.u8 0), (Value.int IntKind.i64 0), (Value.string ⟨#[]⟩), (Value.string ⟨#[]⟩), (Value.int IntKind.i64 0), (Value.int IntKind.i64 0)] [(0, 1, (.const (Value.int IntKind.u8 4))), (1, 1, (.tmp 11)), (4, 1, (.tmp 12))]⟩,
     ⟨(some 14), none, .clos (.func 97) [] [(.tmp 3), (.tmp 4), (.tmp 5)]⟩,
     ⟨(some 15), none, .call 48 [(.tmp 10), (.tmp 13), (.tmp 14)]⟩,
     ⟨(some 9), none, .mv (.tmp 15)⟩,
     ⟨(some 16), none, .ext (.tmp 9) 0⟩,
     ⟨(some 17), none, .ext (.tmp 9) 1⟩,
     ⟨(some 7), none, .alloc 81 [(Value.int IntKind.u8 0), (Value.int IntKind.i64 0), (Value.string ⟨#[]⟩), (Value.string ⟨#[]⟩), (Value.int IntKind.i64 0), (Value.int IntKind.i64 0)]⟩,
     ⟨none, none, .store 6 (.tmp 7) (.tmp 16)⟩,
     ⟨(some 8), none, .mv (.tmp 17)⟩] [8])
  (.seq (.reg [⟨(some 18), none, .mv (.tmp 8)⟩,
      ⟨(some 6), none, .mv (.tmp 18)⟩] [6])
   .ret)))⟩
theorem low34 : lowF Tryz.prog (assoc kp34) (assoc od34) 34 = some F34 := by kernel_rfl

/- (*palaver/world.World).Close$1 -/
def kp49 : List (Nat × List Nat) := [(0, [1, 2]), (1, [5, 6]), (2, [5, 6, 13]), (3, [4]), (4, [5, 17]), (5, [4]), (6, []), (7, [4])]
def od49 : List (Nat × List (List Nat)) := []
def F49 : FIR := ⟨27, [.tmp 4],
 (.seq (.reg [⟨(some 4), none, .mv (.const (Value.int IntKind.i64 0))⟩] [1, 2])
 (.seq (.reg [⟨(some 8), none, .load1 (.tmp 1)⟩,
     ⟨(some 9), none, .load1 (.tmp 2)⟩,
     ⟨(some 10), none, .call 50 [(.tmp 8), (.tmp 9)]⟩,
     ⟨(some 7), none, .mv (.tmp 10)⟩,
     ⟨(some 11), none, .ext (.tmp 7) 0⟩,
     ⟨(some 12), none, .ext (.tmp 7) 1⟩,
     ⟨(some 5), none, .mv (.tmp 11)⟩,
     ⟨(some 6), none, .mv (.tmp 12)⟩] [5, 6])
  (.seq (.block 0
     (.seq (.reg [⟨(some 14), none, .mv (.tmp 6)⟩,
        ⟨(some 15), none, .bin .neq (.tmp 14) (.const (Value.int IntKind.i64 0))⟩,
        ⟨(some 13), none, .mv (.tmp 15)⟩] [5, 6, 13])
     (.cond (.tmp 13)
        (.seq (.reg [⟨(some 16), none, .mv (.tmp 6)⟩,
            ⟨(some 4), none, .mv (.tmp 16)⟩] [4])
         .ret)
        (.seq (.reg [⟨(some 18), none, .mv (.tmp 5)⟩,
            ⟨(some 19), none, .nilck (.tmp 18)⟩,
            ⟨(some 20), none, .fld 0 (.tmp 19)⟩,
            ⟨(some 21), none, .fld 1 (.tmp 20)⟩,
            ⟨(some 22), none, .load1 (.tmp 21)⟩,
            ⟨(some 17), none, .mv (.tmp 22)⟩] [5, 17])
         (.cond (.tmp 17)
            (.seq (.reg [⟨(some 4), none, .mv (.const (Value.int IntKind.i64 31))⟩] [4])
             .ret)
            .skip)))))
   (.seq (.reg [⟨(some 23), none, .mv (.tmp 5)⟩,
       ⟨(some 24), none, .nilck (.tmp 23)⟩,
       ⟨(some 25), none, .fld 0 (.tmp 24)⟩,
       ⟨(some 26), none, .fld 0 (.tmp 25)⟩,
       ⟨none, none, .store 1 (.tmp 26) (.const (Value.bool true))⟩] [])
    (.seq (.reg [⟨(some 4), none, .mv (.const (Value.int IntKind.i64 0))⟩] [4])
     .ret)))))⟩
theorem low49 : lowF Tryz.prog (assoc kp49) (assoc od49) 49 = some F49 := by kernel_rfl

/- (*palaver/world.World).Close -/
def kp12 : List (Nat × List Nat) := [(0, [2, 3]), (1, [6]), (2, [4])]
def od12 : List (Nat × List (List Nat)) := []
def F12 : FIR := ⟨16, [.tmp 4],
 (.seq (.reg [⟨(some 2), none, .box 29 (.tmp 0)⟩,
    ⟨(some 3), none, .box 3 (.tmp 1)⟩,
    ⟨(some 4), none, .mv (.const (Value.int IntKind.i64 0))⟩] [2, 3])
 (.seq (.reg [⟨(some 8), none, .load1 (.tmp 2)⟩,
     ⟨(some 9), none, .load1 (.tmp 3)⟩,
     ⟨(some 10), none, .build [(Value.int IntKind.u8 0), (Value.int IntKind.i64 0), (Value.string ⟨#[]⟩), (Value.string ⟨#[]⟩), (Value.int IntKind.i64 0), (Value.int IntKind.i64 0)] [(0, 1, (.const (Value.int IntKind.u8 6))), (1, 1, (.tmp 9))]⟩,
     ⟨(some 11), none, .clos (.func 49) [] [(.tmp 2), (.tmp 3)]⟩,
     ⟨(some 12), none, .call 48 [(.tmp 8), (.tmp 10), (.tmp 11)]⟩,
     ⟨(some 7), none, .mv (.tmp 12)⟩,
     ⟨(some 13), none, .ext (.tmp 7) 0⟩,
     ⟨(some 14), none, .ext (.tmp 7) 1⟩,
     ⟨(some 5), none, .alloc 81 [(Value.int IntKind.u8 0), (Value.int IntKind.i64 0), (Value.string ⟨#[]⟩), (Value.string ⟨#[]⟩), (Value.int IntKind.i64 0), (Value.int IntKind.i64 0)]⟩,
     ⟨none, none, .store 6 (.tmp 5) (.tmp 13)⟩,
     ⟨(some 6), none, .mv (.tmp 14)⟩] [6])
  (.seq (.reg [⟨(some 15), none, .mv (.tmp 6)⟩,
      ⟨(some 4), none, .mv (.tmp 15)⟩] [4])
   .ret)))⟩
theorem low12 : lowF Tryz.prog (assoc kp12) (assoc od12) 12 = some F12 := by kernel_rfl

/- (*palaver/world.World).Sync$1 -/
def kp98 : List (Nat × List Nat) := [(0, [1, 2]), (1, [5, 6]), (2, [5, 6, 14]), (3, [6]), (4, [4])]
def od98 : List (Nat × List (List Nat)) := [(3, [[0, 1, 2, 3, 4, 5, 6, 7, 8, 9, 10, 11, 12, 13, 14, 15, 16, 17, 18, 19, 20, 21], [0, 1, 2, 4, 5, 6, 7, 3, 8, 9, 10, 11, 12, 13, 14, 15, 16, 17, 18, 19, 20, 21], [0, 1, 2, 4, 5, 6, 7, 8, 9, 10, 11, 12, 13, 14, 15, 3, 16, 17, 18, 19, 20, 21], [0, 1, 2, 3, 4, 5, 6, 8, 9, 10, 11, 12, 13, 14, 15, 7, 16, 17, 18, 19, 20, 21], [0, 1, 2, 4, 5, 6, 8, 9, 10, 11, 12, 13, 14, 15, 3, 7, 16, 17, 18, 19, 20, 21], [0, 1, 2, 4, 5, 6, 8, 9, 10, 11, 12, 13, 14, 15, 7, 3, 16, 17, 18, 19, 20, 21]])]
def F98 : FIR := ⟨36, [.tmp 4],
 (.seq (.reg [⟨(some 4), none, .mv (.const (Value.int IntKind.i64 0))⟩] [1, 2])
 (.seq (.reg [⟨(some 8), none, .load1 (.tmp 1)⟩,
     ⟨(some 9), none, .load1 (.tmp 2)⟩,
     ⟨(some 10), none, .call 51 [(.tmp 8), (.tmp 9), (.const (Value.bool false))]⟩,
     ⟨(some 7), none, .mv (.tmp 10)⟩,
     ⟨(some 11), none, .ext (.tmp 7) 0⟩,
     ⟨(some 12), none, .ext (.tmp 7) 1⟩,
     ⟨(some 5), none, .mv (.tmp 11)⟩,
     ⟨(some 6), none, .mv (.tmp 12)⟩] [5, 6])
  (.seq (.seq (.reg [⟨(some 13), none, .mv (.tmp 6)⟩,
       ⟨(some 14), none, .bin .eql (.tmp 13) (.const (Value.int IntKind.i64 0))⟩] [5, 6, 14])
    (.cond (.tmp 14)
       (.draw [[⟨(some 15), none, .mv (.tmp 5)⟩,
           ⟨(some 16), none, .nilck (.tmp 15)⟩,
           ⟨(some 17), none, .fld 2 (.tmp 16)⟩,
           ⟨(some 18), none, .load1 (.tmp 17)⟩,
           ⟨(some 19), none, .mv (.tmp 5)⟩,
           ⟨(some 20), none, .nilck (.tmp 19)⟩,
           ⟨(some 21), none, .fld 2 (.tmp 20)⟩,
           ⟨(some 22), none, .load1 (.tmp 21)⟩,
           ⟨(some 23), none, .mv (.tmp 5)⟩,
           ⟨(some 24), none, .nilck (.tmp 23)⟩,
           ⟨(some 25), none, .fld 2 (.tmp 24)⟩,
           ⟨(some 26), none, .load1 (.tmp 25)⟩,
           ⟨(some 27), none, .nilck (.tmp 26)⟩,
           ⟨(some 28), none, .fld 0 (.tmp 27)⟩,
           ⟨(some 29), none, .load1 (.tmp 28)⟩,
           ⟨(some 30), none, .call 75 [(.tmp 29)]⟩,
           ⟨(some 31), none, .nilck (.tmp 18)⟩,
           ⟨(some 32), none, .fld 1 (.tmp 31)⟩,
           ⟨none, none, .store 1 (.tmp 32) (.tmp 30)⟩,
           ⟨(some 33), none, .nilck (.tmp 22)⟩,
           ⟨(some 34), none, .fld 2 (.tmp 33)⟩,
           ⟨none, none, .store 1 (.tmp 34) (.const (Value.slice none 0 0))⟩],
         [⟨(some 15), none, .mv (.tmp 5)⟩,
           ⟨(some 16), none, .nilck (.tmp 15)⟩,
           ⟨(some 17), none, .fld 2 (.tmp 16)⟩,
           ⟨(some 19), none, .mv (.tmp 5)⟩,
           ⟨(some 20), none, .nilck (.tmp 19)⟩,
           ⟨(some 21), none, .fld 2 (.tmp 20)⟩,
           ⟨(some 22), none, .load1 (.tmp 21)⟩,
           ⟨(some 18), none, .load1 (.tmp 17)⟩,
           ⟨(some 23), none, .mv (.tmp 5)⟩,
           ⟨(some 24), none, .nilck (.tmp 23)⟩,
           ⟨(some 25), none, .fld 2 (.tmp 24)⟩,
           ⟨(some 26), none, .load1 (.tmp 25)⟩,
           ⟨(some 27), none, .nilck (.tmp 26)⟩,
           ⟨(some 28), none, .fld 0 (.tmp 27)⟩,
           ⟨(some 29), none, .load1 (.tmp 28)⟩,
           ⟨(some 30), none, .call 75 [(.tmp 29)]⟩,
           ⟨(some 31), none, .nilck (.tmp 18)⟩,
           ⟨(some 32), none, .fld 1 (.tmp 31)⟩,
           ⟨none, none, .store 1 (.tmp 32) (.tmp 30)⟩,
           ⟨(some 33), none, .nilck (.tmp 22)⟩,
           ⟨(some 34), none, .fld 2 (.tmp 33)⟩,
           ⟨none, none, .store 1 (.tmp 34) (.const (Value.slice none 0 0))⟩],
         [⟨(some 15), none, .mv (.tmp 5)⟩,
           ⟨(some 16), none, .nilck (.tmp 15)⟩,
           ⟨(some 17), none, .fld 2 (.tmp 16)⟩,
           ⟨(some 19), none, .mv (.tmp 5)⟩,
           ⟨(some 20), none, .nilck (.tmp 19)⟩,
           ⟨(some 21), none, .fld 2 (.tmp 20)⟩,
           ⟨(some 22), none, .load1 (.tmp 21)⟩,
           ⟨(some 23), none, .mv (.tmp 5)⟩,
           ⟨(some 24), none, .nilck (.tmp 23)⟩,
           ⟨(some 25), none, .fld 2 (.tmp 24)⟩,
           ⟨(some 26), none, .load1 (.tmp 25)⟩,
           ⟨(some 27), none, .nilck (.tmp 26)⟩,
           ⟨(some 28), none, .fld 0 (.tmp 27)⟩,
           ⟨(some 29), none, .load1 (.tmp 28)⟩,
           ⟨(some 30), none, .call 75 [(.tmp 29)]⟩,
           ⟨(some 18), none, .load1 (.tmp 17)⟩,
           ⟨(some 31), none, .nilck (.tmp 18)⟩,
           ⟨(some 32), none, .fld 1 (.tmp 31)⟩,
           ⟨none, none, .store 1 (.tmp 32) (.tmp 30)⟩,
           ⟨(some 33), none, .nilck (.tmp 22)⟩,
           ⟨(some 34), none, .fld 2 (.tmp 33)⟩,
           ⟨none, none, .store 1 (.tmp 34) (.const (Value.slice none 0 0))⟩],
         [⟨(some 15), none, .mv (.tmp 5)⟩,
           ⟨(some 16), none, .nilck (.tmp 15)⟩,
           ⟨(some 17), none, .fld 2 (.tmp 16)⟩,
           ⟨(some 18), none, .load1 (.tmp 17)⟩,
           ⟨(some 19), none, .mv (.tmp 5)⟩,
           ⟨(some 20), none, .nilck (.tmp 19)⟩,
           ⟨(some 21), none, .fld 2 (.tmp 20)⟩,
           ⟨(some 23), none, .mv (.tmp 5)⟩,
           ⟨(some 24), none, .nilck (.tmp 23)⟩,
           ⟨(some 25), none, .fld 2 (.tmp 24)⟩,
           ⟨(some 26), none, .load1 (.tmp 25)⟩,
           ⟨(some 27), none, .nilck (.tmp 26)⟩,
           ⟨(some 28), none, .fld 0 (.tmp 27)⟩,
           ⟨(some 29), none, .load1 (.tmp 28)⟩,
           ⟨(some 30), none, .call 75 [(.tmp 29)]⟩,
           ⟨(some 22), none, .load1 (.tmp 21)⟩,
           ⟨(some 31), none, .nilck (.tmp 18)⟩,
           ⟨(some 32), none, .fld 1 (.tmp 31)⟩,
           ⟨none, none, .store 1 (.tmp 32) (.tmp 30)⟩,
           ⟨(some 33), none, .nilck (.tmp 22)⟩,
           ⟨(some 34), none, .fld 2 (.tmp 33)⟩,
           ⟨none, none, .store 1 (.tmp 34) (.const (Value.slice none 0 0))⟩],
         [⟨(some 15), none, .mv (.tmp 5)⟩,
           ⟨(some 16), none, .nilck (.tmp 15)⟩,
           ⟨(some 17), none, .fld 2 (.tmp 16)⟩,
           ⟨(some 19), none, .mv (.tmp 5)⟩,
           ⟨(some 20), none, .nilck (.tmp 19)⟩,
           ⟨(some 21), none, .fld 2 (.tmp 20)⟩,
           ⟨(some 23), none, .mv (.tmp 5)⟩,
           ⟨(some 24), none, .nilck (.tmp 23)⟩,
           ⟨(some 25), none, .fld 2 (.tmp 24)⟩,
           ⟨(some 26), none, .load1 (.tmp 25)⟩,
           ⟨(some 27), none, .nilck (.tmp 26)⟩,
           ⟨(some 28), none, .fld 0 (.tmp 27)⟩,
           ⟨(some 29), none, .load1 (.tmp 28)⟩,
           ⟨(some 30), none, .call 75 [(.tmp 29)]⟩,
           ⟨(some 18), none, .load1 (.tmp 17)⟩,
           ⟨(some 22), none, .load1 (.tmp 21)⟩,
           ⟨(some 31), none, .nilck (.tmp 18)⟩,
           ⟨(some 32), none, .fld 1 (.tmp 31)⟩,
           ⟨none, none, .store 1 (.tmp 32) (.tmp 30)⟩,
           ⟨(some 33), none, .nilck (.tmp 22)⟩,
           ⟨(some 34), none, .fld 2 (.tmp 33)⟩,
           ⟨none, none, .store 1 (.tmp 34) (.const (Value.slice none 0 0))⟩],
         [⟨(some 15), none, .mv (.tmp 5)⟩,
           ⟨(some 16), none, .nilck (.tmp 15)⟩,
           ⟨(some 17), none, .fld 2 (.tmp 16)⟩,
           ⟨(some 19), none, .mv (.tmp 5)⟩,
           ⟨(some 20), none, .nilck (.tmp 19)⟩,
           ⟨(some 21), none, .fld 2 (.tmp 20)⟩,
           ⟨(some 23), none, .mv (.tmp 5)⟩,
           ⟨(some 24), none, .nilck (.tmp 23)⟩,
           ⟨(some 25), none, .fld 2 (.tmp 24)⟩,
           ⟨(some 26), none, .load1 (.tmp 25)⟩,
           ⟨(some 27), none, .nilck (.tmp 26)⟩,
           ⟨(some 28), none, .fld 0 (.tmp 27)⟩,
           ⟨(some 29), none, .load1 (.tmp 28)⟩,
           ⟨(some 30), none, .call 75 [(.tmp 29)]⟩,
           ⟨(some 22), none, .load1 (.tmp 21)⟩,
           ⟨(some 18), none, .load1 (.tmp 17)⟩,
           ⟨(some 31), none, .nilck (.tmp 18)⟩,
           ⟨(some 32), none, .fld 1 (.tmp 31)⟩,
           ⟨none, none, .store 1 (.tmp 32) (.tmp 30)⟩,
           ⟨(some 33), none, .nilck (.tmp 22)⟩,
           ⟨(some 34), none, .fld 2 (.tmp 33)⟩,
           ⟨none, none, .store 1 (.tmp 34) (.const (Value.slice none 0 0))⟩]] [6])
       .skip))
   (.seq (.reg [⟨(some 35), none, .mv (.tmp 6)⟩,
       ⟨(some 4), none, .mv (.tmp 35)⟩] [4])
    .ret))))⟩
theorem low98 : lowF Tryz.prog (assoc kp98) (assoc od98) 98 = some F98 := by kernel_rfl

/- (*palaver/world.World).Sync -/
def kp35 : List (Nat × List Nat) := [(0, [2, 3]), (1, [6]), (2, [4])]
def od35 : List (Nat × List (List Nat)) := []
def F35 : FIR := ⟨16, [.tmp 4],
 (.seq (.reg [⟨(some 2), none, .box 29 (.tmp 0)⟩,
    ⟨(some 3), none, .box 3 (.tmp 1)⟩,
    ⟨(some 4), none, .mv (.const (Value.int IntKind.i64 0))⟩] [2, 3])
 (.seq (.reg [⟨(some 8), none, .load1 (.tmp 2)⟩,
     ⟨(some 9), none, .load1 (.tmp 3)⟩,
     ⟨(some 10), none, .build [(Value.int IntKind.u8 0), (Value.int IntKind.i64 0), (Value.string ⟨#[]⟩), (Value.string ⟨#[]⟩), (Value.int IntKind.i64 0), (Value.int IntKind.i64 0)] [(0, 1, (.const (Value.int IntKind.u8 5))), (1, 1, (.tmp 9))]⟩,
     ⟨(some 11), none, .clos (.func 98) [] [(.tmp 2), (.tmp 3)]⟩,
     ⟨(some 12), none, .call 48 [(.tmp 8), (.tmp 10), (.tmp 11)]⟩,
     ⟨(some 7), none, .mv (.tmp 12)⟩,
     ⟨(some 13), none, .ext (.tmp 7) 0⟩,
     ⟨(some 14), none, .ext (.tmp 7) 1⟩,
     ⟨(some 5), none, .alloc 81 [(Value.int IntKind.u8 0), (Value.int IntKind.i64 0), (Value.string ⟨#[]⟩), (Value.string ⟨#[]⟩), (Value.int IntKind.i64 0), (Value.int IntKind.i64 0)]⟩,
     ⟨none, none, .store 6 (.tmp 5) (.tmp 13)⟩,
     ⟨(some 6), none, .mv (.tmp 14)⟩] [6])
  (.seq (.reg [⟨(some 15), none, .mv (.tmp 6)⟩,
      ⟨(some 4), none, .mv (.tmp 15)⟩] [4])
   .ret)))⟩
theorem low35 : lowF Tryz.prog (assoc kp35) (assoc od35) 35 = some F35 := by kernel_rfl

/- (*palaver/world.World).Rename$1 -/
def kp99 : List (Nat × List Nat) := [(0, [1, 2, 3, 22, 23, 24]), (1, [1, 2, 3, 6, 7, 22, 23, 24]), (2, [1, 2, 3, 6, 7, 17]), (3, [5]), (4, [1, 2, 3, 6, 26]), (5, [5]), (6, [1, 3, 6]), (7, []), (8, [5])]
def od99 : List (Nat × List (List Nat)) := [(1, [[0, 1, 2, 3, 4, 5, 6, 7, 8, 9, 10]]), (6, [[0, 1, 2, 3, 4, 5]]), (7, [[0, 1, 2, 3, 4, 5, 6]])]
def F99 : FIR := ⟨40, [.tmp 5],
 (.seq (.reg [⟨(some 5), none, .mv (.const (Value.int IntKind.i64 0))⟩] [1, 2, 3, 22, 23, 24])
 (.seq (.draw [[⟨(some 9), none, .load1 (.tmp 1)⟩,
      ⟨(some 10), none, .nilck (.tmp 9)⟩,
      ⟨(some 11), none, .fld 1 (.tmp 10)⟩,
      ⟨(some 12), none, .load1 (.tmp 11)⟩,
      ⟨(some 13), none, .load1 (.tmp 2)⟩,
      ⟨(some 14), none, .lookup .str (Value.pointer none) true (.tmp 12) (.tmp 13)⟩,
      ⟨(some 8), none, .mv (.tmp 14)⟩,
      ⟨(some 15), none, .ext (.tmp 8) 0⟩,
      ⟨(some 16), none, .ext (.tmp 8) 1⟩,
      ⟨(some 6), none, .mv (.tmp 15)⟩,
      ⟨(some 7), none, .mv (.tmp 16)⟩]] [1, 2, 3, 6, 7, 22, 23, 24])
  (.seq (.block 0
     (.seq (.reg [⟨(some 18), none, .load1 (.tmp 2)⟩,
        ⟨(some 19), none, .call 32 [(.tmp 18)]⟩,
        ⟨(some 20), none, .un .not (.tmp 19)⟩,
        ⟨(some 21), none, .mv (.tmp 20)⟩,
        ⟨(some 22), (some (21, false)), .load1 (.tmp 3)⟩,
        ⟨(some 23), (some (21, false)), .call 32 [(.tmp 22)]⟩,
        ⟨(some 24), (some (21, false)), .un .not (.tmp 23)⟩,
        ⟨(some 25), none, .pick (.tmp 21) (.const (Value.bool true)) (.tmp 24)⟩,
        ⟨(some 17), none, .mv (.tmp 25)⟩] [1, 2, 3, 6, 7, 17])
     (.cond (.tmp 17)
        (.seq (.reg [⟨(some 5), none, .mv (.const (Value.int IntKind.i64 35))⟩] [5])
         .ret)
        (.seq (.reg [⟨(some 27), none, .mv (.tmp 7)⟩,
            ⟨(some 28), none, .un .not (.tmp 27)⟩,
            ⟨(some 26), none, .mv (.tmp 28)⟩] [1, 2, 3, 6, 26])
         (.cond (.tmp 26)
            (.seq (.reg [⟨(some 5), none, .mv (.const (Value.int IntKind.i64 32))⟩] [5])
             .ret)
            .skip)))))
   (.seq (.draw [[⟨(some 29), none, .load1 (.tmp 1)⟩,
        ⟨(some 30), none, .nilck (.tmp 29)⟩,
        ⟨(some 31), none, .fld 1 (.tmp 30)⟩,
        ⟨(some 32), none, .load1 (.tmp 31)⟩,
        ⟨(some 33), none, .load1 (.tmp 2)⟩,
        ⟨none, none, .delete .str (.tmp 32) (.tmp 33)⟩]] [1, 3, 6])
    (.seq (.draw [[⟨(some 34), none, .load1 (.tmp 1)⟩,
         ⟨(some 35), none, .nilck (.tmp 34)⟩,
         ⟨(some 36), none, .fld 1 (.tmp 35)⟩,
         ⟨(some 37), none, .load1 (.tmp 36)⟩,
         ⟨(some 38), none, .load1 (.tmp 3)⟩,
         ⟨(some 39), none, .mv (.tmp 6)⟩,
         ⟨none, none, .mapupd .str (.tmp 37) (.tmp 38) (.tmp 39)⟩]] [])
     (.seq (.reg [⟨(some 5), none, .mv (.const (Value.int IntKind.i64 0))⟩] [5])
      .ret))))))⟩
theorem low99 : lowF Tryz.prog (assoc kp99) (assoc od99) 99 = some F99 := by kernel_rfl

/- (*palaver/world.World).Rename -/
def kp36 : List (Nat × List Nat) := [(0, [3, 4, 5]), (1, [8]), (2, [6])]
def od36 : List (Nat × List (List Nat)) := []
def F36 : FIR := ⟨19, [.tmp 6],
 (.seq (.reg [⟨(some 3), none, .box 29 (.tmp 0)⟩,
    ⟨(some 4), none, .box 9 (.tmp 1)⟩,
    ⟨(some 5), none, .box 9 (.tmp 2)⟩,
    ⟨(some 6), none, .mv (.const (Value.int IntKind.i64 0))⟩] [3, 4, 5])
 (.seq (.reg [⟨(some 10), none, .load1 (.tmp 3)⟩,
     ⟨(some 11), none, .load1 (.tmp 4)⟩,
     ⟨(some 12), none, .load1 (.tmp 5)⟩,
     ⟨(some 13), none, .build [(Value.int IntKind.u8 0), (Value.int IntKind.i64 0), (Value.string ⟨#[]⟩), (Value.string ⟨#[]⟩), (Value.int IntKind.i64 0), (Value.int IntKind.i64 0)] [(0, 1, (.const (Value.int IntKind.u8 7))), (2, 1, (.tmp 11)), (3, 1, (.tmp 12))]⟩,
     ⟨(some 14), none, .clos (.func 99) [] [(.tmp 3), (.tmp 4), (.tmp 5)]⟩,
     ⟨(some 15), none, .call 48 [(.tmp 10), (.tmp 13), (.tmp 14)]⟩,
     ⟨(some 9), none, .mv (.tmp 15)⟩,
     ⟨(some 16), none, .ext (.tmp 9) 0⟩,
     ⟨(some 17), none, .ext (.tmp 9) 1⟩,
     ⟨(some 7), none, .alloc 81 [(Value.int IntKind.u8 0), (Value.int IntKind.i64 0), (Value.string ⟨#[]⟩), (Value.string ⟨#[]⟩), (Value.int IntKind.i64 0), (Value.int IntKind.i64 0)]⟩,
     ⟨none, none, .store 6 (.tmp 7) (.tmp 16)⟩,
     ⟨(some 8), none, .mv (.tmp 17)⟩] [8])
  (.seq (.reg [⟨(some 18), none, .mv (.tmp 8)⟩,
      ⟨(some 6), none, .mv (.tmp 18)⟩] [6])
   .ret)))⟩
theorem low36 : lowF Tryz.prog (assoc kp36) (assoc od36) 36 = some F36 := by kernel_rfl

/- (*palaver/world.World).Delete$1 -/
def kp100 : List (Nat × List Nat) := [(0, [1, 2]), (1, [1, 2, 6]), (2, [1, 2, 6, 16]), (3, [4]), (4, [1, 2, 20]), (5, [4]), (6, []), (7, [4])]
def od100 : List (Nat × List (List Nat)) := [(1, [[0, 1, 2, 3, 4, 5, 6, 7, 8, 9, 10]]), (6, [[0, 1, 2, 3, 4, 5]])]
def F100 : FIR := ⟨28, [.tmp 4],
 (.seq (.reg [⟨(some 4), none, .mv (.const (Value.int IntKind.i64 0))⟩] [1, 2])
 (.seq (.draw [[⟨(some 8), none, .load1 (.tmp 1)⟩,
      ⟨(some 9), none, .nilck (.tmp 8)⟩,
      ⟨(some 10), none, .fld 1 (.tmp 9)⟩,
      ⟨(some 11), none, .load1 (.tmp 10)⟩,
      ⟨(some 12), none, .load1 (.tmp 2)⟩,
      ⟨(some 13), none, .lookup .str (Value.pointer none) true (.tmp 11) (.tmp 12)⟩,
      ⟨(some 7), none, .mv (.tmp 13)⟩,
      ⟨(some 14), none, .ext (.tmp 7) 0⟩,
      ⟨(some 15), none, .ext (.tmp 7) 1⟩,
      ⟨(some 5), none, .mv (.tmp 14)⟩,
      ⟨(some 6), none, .mv (.tmp 15)⟩]] [1, 2, 6])
  (.seq (.block 0
     (.seq (.reg [⟨(some 17), none, .load1 (.tmp 2)⟩,
        ⟨(some 18), none, .call 32 [(.tmp 17)]⟩,
        ⟨(some 19), none, .un .not (.tmp 18)⟩,
        ⟨(some 16), none, .mv (.tmp 19)⟩] [1, 2, 6, 16])
     (.cond (.tmp 16)
        (.seq (.reg [⟨(some 4), none, .mv (.const (Value.int IntKind.i64 35))⟩] [4])
         .ret)
        (.seq (.reg [⟨(some 21), none, .mv (.tmp 6)⟩,
            ⟨(some 22), none, .un .not (.tmp 21)⟩,
            ⟨(some 20), none, .mv (.tmp 22)⟩] [1, 2, 20])
         (.cond (.tmp 20)
            (.seq (.reg [⟨(some 4), none, .mv (.const (Value.int IntKind.i64 32))⟩] [4])
             .ret)
            .skip)))))
   (.seq (.draw [[⟨(some 23), none, .load1 (.tmp 1)⟩,
        ⟨(some 24), none, .nilck (.tmp 23)⟩,
        ⟨(some 25), none, .fld 1 (.tmp 24)⟩,
        ⟨(some 26), none, .load1 (.tmp 25)⟩,
        ⟨(some 27), none, .load1 (.tmp 2)⟩,
        ⟨none, none, .delete .str (.tmp 26) (.tmp 27)⟩]] [])
    (.seq (.reg [⟨(some 4), none, .mv (.const (Value.int IntKind.i64 0))⟩] [4])
     .ret)))))⟩
theorem low100 : lowF Tryz.prog (assoc kp100) (assoc od100) 100 = some F100 := by kernel_rfl

/- (*palaver/world.World).Delete -/
def kp37 : List (Nat × List Nat) := [(0, [2, 3]), (1, [6]), (2, [4])]
def od37 : List (Nat × List (List Nat)) := []
def F37 : FIR := ⟨16, [.tmp 4],
 (.seq (.reg [⟨(some 2), none, .box 29 (.tmp 0)⟩,
    ⟨(some 3), none, .box 9 (.tmp 1)⟩,
    ⟨(some 4), none, .mv (.const (Value.int IntKind.i64 0))⟩] [2, 3])
 (.seq (.reg [⟨(some 8), none, .load1 (.tmp 2)⟩,
     ⟨(some 9), none, .load1 (.tmp 3)⟩,
     ⟨(some 10), none, .build [(Value.int IntKind.u8 0), (Value.int IntKind.i64 0), (Value.string ⟨#[]⟩), (Value.string ⟨#[]⟩), (Value.int IntKind.i64 0), (Value.int IntKind.i64 0)] [(0, 1, (.const (Value.int IntKind.u8 8))), (2, 1, (.tmp 9))]⟩,
     ⟨(some 11), none, .clos (.func 100) [] [(.tmp 2), (.tmp 3)]⟩,
     ⟨(some 12), none, .call 48 [(.tmp 8), (.tmp 10), (.tmp 11)]⟩,
     ⟨(some 7), none, .mv (.tmp 12)⟩,
     ⟨(some 13), none, .ext (.tmp 7) 0⟩,
     ⟨(some 14), none, .ext (.tmp 7) 1⟩,
     ⟨(some 5), none, .alloc 81 [(Value.int IntKind.u8 0), (Value.int IntKind.i64 0), (Value.string ⟨#[]⟩), (Value.string ⟨#[]⟩), (Value.int IntKind.i64 0), (Value.int IntKind.i64 0)]⟩,
     ⟨none, none, .store 6 (.tmp 5) (.tmp 13)⟩,
     ⟨(some 6), none, .mv (.tmp 14)⟩] [6])
  (.seq (.reg [⟨(some 15), none, .mv (.tmp 6)⟩,
      ⟨(some 4), none, .mv (.tmp 15)⟩] [4])
   .ret)))⟩
theorem low37 : lowF Tryz.prog (assoc kp37) (assoc od37) 37 = some F37 := by kernel_rfl

/- (*palaver/world.World).Clock$1 -/
def kp101 : List (Nat × List Nat) := [(0, [1, 2, 3, 10, 11, 12, 15, 16, 17]), (1, [1, 2, 3, 18]), (2, [1, 2]), (3, []), (4, [5])]
def od101 : List (Nat × List (List Nat)) := [(2, [[0, 1, 2, 3, 4, 5, 6, 7, 8, 9, 10, 11]])]
def F101 : FIR := ⟨37, [.tmp 5],
 (.seq (.reg [⟨(some 3), none, .box 28 (.tmp 0)⟩,
    ⟨(some 5), none, .mv (.const (Value.int IntKind.i64 0))⟩] [1, 2, 3, 10, 11, 12, 15, 16, 17])
 (.seq (.seq (.reg [⟨(some 6), none, .fld 0 (.tmp 3)⟩,
      ⟨(some 7), none, .load1 (.tmp 6)⟩,
      ⟨(some 8), none, .bin .eql (.tmp 7) (.const (Value.int IntKind.u8 1))⟩,
      ⟨(some 9), none, .mv (.tmp 8)⟩,
      ⟨(some 10), (some (9, true)), .fld 1 (.tmp 3)⟩,
      ⟨(some 11), (some (9, true)), .load1 (.tmp 10)⟩,
      ⟨(some 12), (some (9, true)), .bin .geq (.tmp 11) (.const (Value.int IntKind.i64 0))⟩,
      ⟨(some 13), none, .pick (.tmp 9) (.tmp 12) (.const (Value.bool false))⟩,
      ⟨(some 14), none, .mv (.tmp 13)⟩,
      ⟨(some 15), (some (14, true)), .fld 1 (.tmp 3)⟩,
      ⟨(some 16), (some (14, true)), .load1 (.tmp 15)⟩,
      ⟨(some 17), (some (14, true)), .bin .leq (.tmp 16) (.const (Value.int IntKind.i64 1000000000000))⟩,
      ⟨(some 18), none, .pick (.tmp 14) (.tmp 17) (.const (Value.bool false))⟩] [1, 2, 3, 18])
   (.cond (.tmp 18)
      (.draw [[⟨(some 19), none, .load1 (.tmp 2)⟩,
          ⟨(some 20), none, .load1 (.tmp 2)⟩,
          ⟨(some 21), none, .nilck (.tmp 20)⟩,
          ⟨(some 22), none, .fld 4 (.tmp 21)⟩,
          ⟨(some 23), none, .load1 (.tmp 22)⟩,
          ⟨(some 24), none, .fld 1 (.tmp 3)⟩,
          ⟨(some 25), none, .load1 (.tmp 24)⟩,
          ⟨(some 26), none, .bin .add (.tmp 23) (.tmp 25)⟩,
          ⟨(some 27), none, .min2 (.tmp 26) (.const (Value.int IntKind.i64 1000000000000000000))⟩,
          ⟨(some 28), none, .nilck (.tmp 19)⟩,
          ⟨(some 29), none, .fld 4 (.tmp 28)⟩,
          ⟨none, none, .store 1 (.tmp 29) (.tmp 27)⟩]] [1, 2])
      .skip))
  (.seq (.reg [⟨(some 30), none, .mv (.tmp 1)⟩,
      ⟨(some 31), none, .load1 (.tmp 2)⟩,
      ⟨(some 32), none, .nilck (.tmp 31)⟩,
      ⟨(some 33), none, .fld 4 (.tmp 32)⟩,
      ⟨(some 34), none, .load1 (.tmp 33)⟩,
      ⟨(some 35), none, .nilck (.tmp 30)⟩,
      ⟨(some 36), none, .fld 4 (.tmp 35)⟩,
      ⟨none, none, .store 1 (.tmp 36) (.tmp 34)⟩] [])
   (.seq (.reg [⟨(some 5), none, .mv (.const (Value.int IntKind.i64 0))⟩] [5])
    .ret))))⟩
theorem low101 : lowF Tryz.prog (assoc kp101) (assoc od101) 101 = some F101 := by kernel_rfl

/- (*palaver/world.World).Clock -/
def kp38 : List (Nat × List Nat) := [(0, [1]), (1, [4, 5]), (2, [2, 3])]
def od38 : List (Nat × List (List Nat)) := []
def F38 : FIR := ⟨16, [.tmp 2, .tmp 3],
 (.seq (.reg [⟨(some 1), none, .box 29 (.tmp 0)⟩,
    ⟨(some 2), none, .mv (.const (Value.int IntKind.i64 0))⟩,
    ⟨(some 3), none, .mv (.const (Value.int IntKind.i64 0))⟩] [1])
 (.seq (.reg [⟨(some 7), none, .load1 (.tmp 1)⟩,
     ⟨(some 8), none, .build [(Value.int IntKind.u8 0), (Value.int IntKind.i64 0), (Value.string ⟨#[]⟩), (Value.string ⟨#[]⟩), (Value.int IntKind.i64 0), (Value.int IntKind.i64 0)] [(0, 1, (.const (Value.int IntKind.u8 9)))]⟩,
     ⟨(some 9), none, .clos (.func 101) [] [(.tmp 1)]⟩,
     ⟨(some 10), none, .call 46 [(.tmp 7), (.tmp 8), (.tmp 9)]⟩,
     ⟨(some 6), none, .mv (.tmp 10)⟩,
     ⟨(some 11), none, .ext (.tmp 6) 0⟩,
     ⟨(some 12), none, .ext (.tmp 6) 1⟩,
     ⟨(some 4), none, .alloc 81 [(Value.int IntKind.u8 0), (Value.int IntKind.i64 0), (Value.string ⟨#[]⟩), (Value.string ⟨#[]⟩), (Value.int IntKind.i64 0), (Value.int IntKind.i64 0)]⟩,
     ⟨none, none, .store 6 (.tmp 4) (.tmp 11)⟩,
     ⟨(some 5), none, .mv (.tmp 12)⟩] [4, 5])
  (.seq (.reg [⟨(some 13), none, .fld 4 (.tmp 4)⟩,
      ⟨(some 14), none, .load1 (.tmp 13)⟩,
      ⟨(some 15), none, .mv (.tmp 5)⟩,
      ⟨(some 2), none, .mv (.tmp 14)⟩,
      ⟨(some 3), none, .mv (.tmp 15)⟩] [2, 3])
   .ret)))⟩
theorem low38 : lowF Tryz.prog (assoc kp38) (assoc od38) 38 = some F38 := by kernel_rfl

/- (*palaver/world.World).Connect$1 -/
def kp102 : List (Nat × List Nat) := [(0, [1, 2, 3, 4, 16, 17, 18, 19]), (1, [1, 2, 3, 4, 7, 16, 17, 18, 19]), (2, [6]), (3, [1, 3, 4, 11]), (4, [6]), (5, [1, 3, 4, 21]), (6, [6]), (7, [1, 3, 29]), (8, [6]), (9, []), (10, [6])]
def od102 : List (Nat × List (List Nat)) := []
def F102 : FIR := ⟨40, [.tmp 6],
 (.seq (.reg [⟨(some 4), none, .box 28 (.tmp 0)⟩,
    ⟨(some 6), none, .mv (.const (Value.int IntKind.i64 0))⟩] [1, 2, 3, 4, 16, 17, 18, 19])
 (.seq (.block 0
    (.seq (.reg [⟨(some 8), none, .load1 (.tmp 2)⟩,
       ⟨(some 9), none, .call 32 [(.tmp 8)]⟩,
       ⟨(some 10), none, .un .not (.tmp 9)⟩,
       ⟨(some 7), none, .mv (.tmp 10)⟩] [1, 2, 3, 4, 7, 16, 17, 18, 19])
    (.cond (.tmp 7)
       (.seq (.reg [⟨(some 6), none, .mv (.const (Value.int IntKind.i64 35))⟩] [6])
        .ret)
       (.seq (.reg [⟨(some 12), none, .fld 0 (.tmp 4)⟩,
           ⟨(some 13), none, .load1 (.tmp 12)⟩,
           ⟨(some 14), none, .bin .neq (.tmp 13) (.const (Value.int IntKind.u8 2))⟩,
           ⟨(some 15), none, .mv (.tmp 14)⟩,
           ⟨(some 16), (some (15, false)), .fld 2 (.tmp 4)⟩,
           ⟨(some 17), (some (15, false)), .load1 (.tmp 16)⟩,
           ⟨(some 18), (some (15, false)), .load1 (.tmp 2)⟩,
           ⟨(some 19), (some (15, false)), .bin .neq (.tmp 17) (.tmp 18)⟩,
           ⟨(some 20), none, .pick (.tmp 15) (.const (Value.bool true)) (.tmp 19)⟩,
           ⟨(some 11), none, .mv (.tmp 20)⟩] [1, 3, 4, 11])
        (.cond (.tmp 11)
           (.seq (.reg [⟨(some 6), none, .mv (.const (Value.int IntKind.i64 32))⟩] [6])
            .ret)
           (.seq (.reg [⟨(some 22), none, .fld 1 (.tmp 4)⟩,
               ⟨(some 23), none, .load1 (.tmp 22)⟩,
               ⟨(some 24), none, .call 103 [(.tmp 23)]⟩,
               ⟨(some 25), none, .bin .neq (.tmp 24) (.const (Value.int IntKind.i64 0))⟩,
               ⟨(some 21), none, .mv (.tmp 25)⟩] [1, 3, 4, 21])
            (.cond (.tmp 21)
               (.seq (.reg [⟨(some 26), none, .fld 1 (.tmp 4)⟩,
                   ⟨(some 27), none, .load1 (.tmp 26)⟩,
                   ⟨(some 28), none, .call 103 [(.tmp 27)]⟩,
                   ⟨(some 6), none, .mv (.tmp 28)⟩] [6])
                .ret)
               (.seq (.reg [⟨(some 30), none, .load1 (.tmp 3)⟩,
                   ⟨(some 31), none, .call 90 [(.tmp 30)]⟩,
                   ⟨(some 32), none, .bin .geq (.tmp 31) (.const (Value.int IntKind.i64 32))⟩,
                   ⟨(some 29), none, .mv (.tmp 32)⟩] [1, 3, 29])
                (.cond (.tmp 29)
                   (.seq (.reg [⟨(some 6), none, .mv (.const (Value.int IntKind.i64 34))⟩] [6])
                    .ret)
                   .skip)))))))))
  (.seq (.reg [⟨(some 33), none, .mv (.tmp 1)⟩,
      ⟨(some 34), none, .load1 (.tmp 3)⟩,
      ⟨(some 35), none, .build [(Value.bool false), (Value.bool false), (Value.pointer none), (Value.int IntKind.i64 0), (Value.int IntKind.i64 0)] []⟩,
      ⟨(some 36), none, .box 116 (.tmp 35)⟩,
      ⟨(some 37), none, .call 93 [(.tmp 34), (.tmp 36)]⟩,
      ⟨(some 38), none, .nilck (.tmp 33)⟩,
      ⟨(some 39), none, .fld 1 (.tmp 38)⟩,
      ⟨none, none, .store 1 (.tmp 39) (.tmp 37)⟩] [])
   (.seq (.reg [⟨(some 6), none, .mv (.const (Value.int IntKind.i64 0))⟩] [6])
    .ret))))⟩
theorem low102 : lowF Tryz.prog (assoc kp102) (assoc od102) 102 = some F102 := by kernel_rfl

/- (*palaver/world.World).Connect -/
def kp39 : List (Nat × List Nat) := [(0, [2, 3]), (1, [6, 7]), (2, [4, 5])]
def od39 : List (Nat × List (List Nat)) := []
def F39 : FIR := ⟨19, [.tmp 4, .tmp 5],
 (.seq (.reg [⟨(some 2), none, .box 29 (.tmp 0)⟩,
    ⟨(some 3), none, .box 9 (.tmp 1)⟩,
    ⟨(some 4), none, .mv (.const (Value.int IntKind.i64 0))⟩,
    ⟨(some 5), none, .mv (.const (Value.int IntKind.i64 0))⟩] [2, 3])
 (.seq (.reg [⟨(some 9), none, .load1 (.tmp 2)⟩,
     ⟨(some 10), none, .load1 (.tmp 3)⟩,
     ⟨(some 11), none, .build [(Value.int IntKind.u8 0), (Value.int IntKind.i64 0), (Value.string ⟨#[]⟩), (Value.string ⟨#[]⟩), (Value.int IntKind.i64 0), (Value.int IntKind.i64 0)] [(0, 1, (.const (Value.int IntKind.u8 10))), (2, 1, (.tmp 10))]⟩,
     ⟨(some 12), none, .clos (.func 102) [] [(.tmp 3), (.tmp 2)]⟩,
     ⟨(some 13), none, .call 46 [(.tmp 9), (.tmp 11), (.tmp 12)]⟩,
     ⟨(some 8), none, .mv (.tmp 13)⟩,
     ⟨(some 14), none, .ext (.tmp 8) 0⟩,
     ⟨(some 15), none, .ext (.tmp 8) 1⟩,
     ⟨(some 6), none, .alloc 81 [(Value.int IntKind.u8 0), (Value.int IntKind.i64 0), (Value.string ⟨#[]⟩), (Value.string ⟨#[]⟩), (Value.int IntKind.i64 0), (Value.int IntKind.i64 0)]⟩,
     ⟨none, none, .store 6 (.tmp 6) (.tmp 14)⟩,
     ⟨(some 7), none, .mv (.tmp 15)⟩] [6, 7])
  (.seq (.reg [⟨(some 16), none, .fld 1 (.tmp 6)⟩,
      ⟨(some 17), none, .load1 (.tmp 16)⟩,
      ⟨(some 18), none, .mv (.tmp 7)⟩,
      ⟨(some 4), none, .mv (.tmp 17)⟩,
      ⟨(some 5), none, .mv (.tmp 18)⟩] [4, 5])
   .ret)))⟩
theorem low39 : lowF Tryz.prog (assoc kp39) (assoc od39) 39 = some F39 := by kernel_rfl

/- (*palaver/world.World).Send$1 -/
def kp104 : List (Nat × List Nat) := [(0, [2, 3]), (1, [8]), (2, [6])]
def od104 : List (Nat × List (List Nat)) := []
def F104 : FIR := ⟨16, [.tmp 6],
 (.seq (.reg [⟨(some 4), none, .box 28 (.tmp 0)⟩,
    ⟨(some 6), none, .mv (.const (Value.int IntKind.i64 0))⟩] [2, 3])
 (.seq (.reg [⟨(some 10), none, .load1 (.tmp 2)⟩,
     ⟨(some 11), none, .load1 (.tmp 3)⟩,
     ⟨(some 12), none, .call 51 [(.tmp 10), (.tmp 11), (.const (Value.bool true))]⟩,
     ⟨(some 9), none, .mv (.tmp 12)⟩,
     ⟨(some 13), none, .ext (.tmp 9) 0⟩,
     ⟨(some 14), none, .ext (.tmp 9) 1⟩,
     ⟨(some 7), none, .mv (.tmp 13)⟩,
     ⟨(some 8), none, .mv (.tmp 14)⟩] [8])
  (.seq (.reg [⟨(some 15), none, .mv (.tmp 8)⟩,
      ⟨(some 6), none, .mv (.tmp 15)⟩] [6])
   .ret)))⟩
theorem low104 : lowF Tryz.prog (assoc kp104) (assoc od104) 104 = some F104 := by kernel_rfl

/- (*palaver/world.World).Send -/
def kp40 : List (Nat × List Nat) := [(0, [2, 3, 4]), (1, [8]), (2, [6])]
def od40 : List (Nat × List (List Nat)) := []
def F40 : FIR := ⟨19, [.tmp 6],
 (.seq (.reg [⟨(some 3), none, .box 29 (.tmp 0)⟩,
    ⟨(some 4), none, .box 3 (.tmp 1)⟩,
    ⟨(some 6), none, .mv (.const (Value.int IntKind.i64 0))⟩] [2, 3, 4])
 (.seq (.reg [⟨(some 10), none, .load1 (.tmp 3)⟩,
     ⟨(some 11), none, .load1 (.tmp 4)⟩,
     ⟨(some 12), none, .mv (.tmp 2)⟩,
     ⟨(some 13), none, .build [(Value.int IntKind.u8 0), (Value.int IntKind.i64 0), (Value.string ⟨#[]⟩), (Value.string ⟨#[]⟩), (Value.int IntKind.i64 0), (Value.int IntKind.i64 0)] [(0, 1, (.const (Value.int IntKind.u8 11))), (1, 1, (.tmp 11)), (2, 1, (.tmp 12))]⟩,
     ⟨(some 14), none, .clos (.func 104) [] [(.tmp 3), (.tmp 4)]⟩,
     ⟨(some 15), none, .call 46 [(.tmp 10), (.tmp 13), (.tmp 14)]⟩,
     ⟨(some 9), none, .mv (.tmp 15)⟩,
     ⟨(some 16), none, .ext (.tmp 9) 0⟩,
     ⟨(some 17), none, .ext (.tmp 9) 1⟩,
     ⟨(some 7), none, .alloc 81 [(Value.int IntKind.u8 0), (Value.int IntKind.i64 0), (Value.string ⟨#[]⟩), (Value.string ⟨#[]⟩), (Value.int IntKind.i64 0), (Value.int IntKind.i64 0)]⟩,
     ⟨none, none, .store 6 (.tmp 7) (.tmp 16)⟩,
     ⟨(some 8), none, .mv (.tmp 17)⟩] [8])
  (.seq (.reg [⟨(some 18), none, .mv (.tmp 8)⟩,
      ⟨(some 6), none, .mv (.tmp 18)⟩] [6])
   .ret)))⟩
theorem low40 : lowF Tryz.prog (assoc kp40) (assoc od40) 40 = some F40 := by kernel_rfl

/- (*palaver/world.World).Receive$1 -/
def kp105 : List (Nat × List Nat) := [(0, [1, 2, 3, 4, 5]), (1, [1, 4, 5, 9]), (2, [1, 4, 5, 9, 16]), (3, [7]), (4, [1, 4, 5, 20]), (5, [7]), (6, [1, 4, 5, 23]), (7, [7]), (8, [1, 4, 5, 27]), (9, [7]), (10, []), (11, [7])]
def od105 : List (Nat × List (List Nat)) := []
def F105 : FIR := ⟨46, [.tmp 7],
 (.seq (.reg [⟨(some 5), none, .box 28 (.tmp 0)⟩,
    ⟨(some 7), none, .mv (.const (Value.int IntKind.i64 0))⟩] [1, 2, 3, 4, 5])
 (.seq (.reg [⟨(some 11), none, .load1 (.tmp 2)⟩,
     ⟨(some 12), none, .load1 (.tmp 3)⟩,
     ⟨(some 13), none, .call 51 [(.tmp 11), (.tmp 12), (.const (Value.bool true))]⟩,
     ⟨(some 10), none, .mv (.tmp 13)⟩,
     ⟨(some 14), none, .ext (.tmp 10) 0⟩,
     ⟨(some 15), none, .ext (.tmp 10) 1⟩,
     ⟨(some 8), none, .mv (.tmp 14)⟩,
     ⟨(some 9), none, .mv (.tmp 15)⟩] [1, 4, 5, 9])
  (.seq (.block 0
     (.seq (.reg [⟨(some 17), none, .mv (.tmp 9)⟩,
        ⟨(some 18), none, .bin .neq (.tmp 17) (.const (Value.int IntKind.i64 0))⟩,
        ⟨(some 16), none, .mv (.tmp 18)⟩] [1, 4, 5, 9, 16])
     (.cond (.tmp 16)
        (.seq (.reg [⟨(some 19), none, .mv (.tmp 9)⟩,
            ⟨(some 7), none, .mv (.tmp 19)⟩] [7])
         .ret)
        (.seq (.reg [⟨(some 21), none, .load1 (.tmp 4)⟩,
            ⟨(some 22), none, .bin .lss (.tmp 21) (.const (Value.int IntKind.i64 0))⟩,
            ⟨(some 20), none, .mv (.tmp 22)⟩] [1, 4, 5, 20])
         (.cond (.tmp 20)
            (.seq (.reg [⟨(some 7), none, .mv (.const (Value.int IntKind.i64 1))⟩] [7])
             .ret)
            (.seq (.reg [⟨(some 24), none, .fld 0 (.tmp 5)⟩,
                ⟨(some 25), none, .load1 (.tmp 24)⟩,
                ⟨(some 26), none, .bin .neq (.tmp 25) (.const (Value.int IntKind.u8 3))⟩,
                ⟨(some 23), none, .mv (.tmp 26)⟩] [1, 4, 5, 23])
             (.cond (.tmp 23)
                (.seq (.reg [⟨(some 7), none, .mv (.const (Value.int IntKind.i64 0))⟩] [7])
                 .ret)
                (.seq (.reg [⟨(some 28), none, .fld 1 (.tmp 5)⟩,
                    ⟨(some 29), none, .load1 (.tmp 28)⟩,
                    ⟨(some 30), none, .call 103 [(.tmp 29)]⟩,
                    ⟨(some 31), none, .bin .neq (.tmp 30) (.const (Value.int IntKind.i64 0))⟩,
                    ⟨(some 27), none, .mv (.tmp 31)⟩] [1, 4, 5, 27])
                 (.cond (.tmp 27)
                    (.seq (.reg [⟨(some 32), none, .fld 1 (.tmp 5)⟩,
                        ⟨(some 33), none, .load1 (.tmp 32)⟩,
                        ⟨(some 34), none, .call 103 [(.tmp 33)]⟩,
                        ⟨(some 7), none, .mv (.tmp 34)⟩] [7])
                     .ret)
                    .skip)))))))))
   (.seq (.reg [⟨(some 35), none, .mv (.tmp 1)⟩,
       ⟨(some 36), none, .fld 2 (.tmp 5)⟩,
       ⟨(some 37), none, .load1 (.tmp 36)⟩,
       ⟨(some 38), none, .load1 (.tmp 4)⟩,
       ⟨(some 39), none, .fld 2 (.tmp 5)⟩,
       ⟨(some 40), none, .load1 (.tmp 39)⟩,
       ⟨(some 41), none, .lenS (.tmp 40)⟩,
       ⟨(some 42), none, .min2 (.tmp 38) (.tmp 41)⟩,
       ⟨(some 43), none, .slcS (.tmp 37) none (some (.tmp 42))⟩,
       ⟨(some 44), none, .nilck (.tmp 35)⟩,
       ⟨(some 45), none, .fld 2 (.tmp 44)⟩,
       ⟨none, none, .store 1 (.tmp 45) (.tmp 43)⟩] [])
    (.seq (.reg [⟨(some 7), none, .mv (.const (Value.int IntKind.i64 0))⟩] [7])
     .ret)))))⟩
theorem low105 : lowF Tryz.prog (assoc kp105) (assoc od105) 105 = some F105 := by kernel_rfl

/- (*palaver/world.World).Receive -/
def kp41 : List (Nat × List Nat) := [(0, [3, 4, 5]), (1, [8, 9]), (2, [6, 7])]
def od41 : List (Nat × List (List Nat)) := []
def F41 : FIR := ⟨22, [.tmp 6, .tmp 7],
 (.seq (.reg [⟨(some 3), none, .box 29 (.tmp 0)⟩,
    ⟨(some 4), none, .box 3 (.tmp 1)⟩,
    ⟨(some 5), none, .box 3 (.tmp 2)⟩,
    ⟨(some 6), none, .mv (.const (Value.string ⟨#[]⟩))⟩,
    ⟨(some 7), none, .mv (.const (Value.int IntKind.i64 0))⟩] [3, 4, 5])
 (.seq (.reg [⟨(some 11), none, .load1 (.tmp 3)⟩,
     ⟨(some 12), none, .load1 (.tmp 4)⟩,
     ⟨(some 13), none, .load1 (.tmp 5)⟩,
     ⟨(some 14), none, .build [(Value.int IntKind.u8 0), (Value.int IntKind.i64 0), (Value.string ⟨#[]⟩), (Value.string ⟨#[]⟩), (Value.int IntKind.i64 0), (Value.int IntKind.i64 0)] [(0, 1, (.const (Value.int IntKind.u8 12))), (1, 1, (.tmp 12)), (4, 1, (.tmp 13))]⟩,
     ⟨(some 15), none, .clos (.func 105) [] [(.tmp 3), (.tmp 4), (.tmp 5)]⟩,
     ⟨(some 16), none, .call 46 [(.tmp 11), (.tmp 14), (.tmp 15)]⟩,
     ⟨(some 10), none, .mv (.tmp 16)⟩,
     ⟨(some 17), none, .ext (.tmp 10) 0⟩,
     ⟨(some 18), none, .ext (.tmp 10) 1⟩,
     ⟨(some 8), none, .alloc 81 [(Value.int IntKind.u8 0), (Value.int IntKind.i64 0), (Value.string ⟨#[]⟩), (Value.string ⟨#[]⟩), (Value.int IntKind.i64 0), (Value.int IntKind.i64 0)]⟩,
     ⟨none, none, .store 6 (.tmp 8) (.tmp 17)⟩,
     ⟨(some 9), none, .mv (.tmp 18)⟩] [8, 9])
  (.seq (.reg [⟨(some 19), none, .fld 2 (.tmp 8)⟩,
      ⟨(some 20), none, .load1 (.tmp 19)⟩,
      ⟨(some 21), none, .mv (.tmp 9)⟩,
      ⟨(some 6), none, .mv (.tmp 20)⟩,
      ⟨(some 7), none, .mv (.tmp 21)⟩] [6, 7])
   .ret)))⟩
theorem low41 : lowF Tryz.prog (assoc kp41) (assoc od41) 41 = some F41 := by kernel_rfl

/- (*palaver/world.World).Show$1 -/
def kp47 : List (Nat × List Nat) := [(0, []), (1, [4])]
def od47 : List (Nat × List (List Nat)) := []
def F47 : FIR := ⟨5, [.tmp 4],
 (.seq (.reg [⟨(some 2), none, .box 28 (.tmp 0)⟩,
    ⟨(some 4), none, .mv (.const (Value.int IntKind.i64 0))⟩] [])
 (.seq (.reg [⟨(some 4), none, .mv (.const (Value.int IntKind.i64 0))⟩] [4])
  .ret))⟩
theorem low47 : lowF Tryz.prog (assoc kp47) (assoc od47) 47 = some F47 := by kernel_rfl

/- (*palaver/world.World).Show -/
def kp11 : List (Nat × List Nat) := [(0, [0, 1]), (1, [6]), (2, [4])]
def od11 : List (Nat × List (List Nat)) := []
def F11 : FIR := ⟨15, [.tmp 4],
 (.seq (.reg [⟨(some 4), none, .mv (.const (Value.int IntKind.i64 0))⟩] [0, 1])
 (.seq (.reg [⟨(some 8), none, .mv (.tmp 0)⟩,
     ⟨(some 9), none, .mv (.tmp 1)⟩,
     ⟨(some 10), none, .build [(Value.int IntKind.u8 0), (Value.int IntKind.i64 0), (Value.string ⟨#[]⟩), (Value.string ⟨#[]⟩), (Value.int IntKind.i64 0), (Value.int IntKind.i64 0)] [(0, 1, (.const (Value.int IntKind.u8 13))), (2, 1, (.tmp 9))]⟩,
     ⟨(some 11), none, .call 46 [(.tmp 8), (.tmp 10), (.func 47)]⟩,
     ⟨(some 7), none, .mv (.tmp 11)⟩,
     ⟨(some 12), none, .ext (.tmp 7) 0⟩,
     ⟨(some 13), none, .ext (.tmp 7) 1⟩,
     ⟨(some 5), none, .alloc 81 [(Value.int IntKind.u8 0), (Value.int IntKind.i64 0), (Value.string ⟨#[]⟩), (Value.string ⟨#[]⟩), (Value.int IntKind.i64 0), (Value.int IntKind.i64 0)]⟩,
     ⟨none, none, .store 6 (.tmp 5) (.tmp 12)⟩,
     ⟨(some 6), none, .mv (.tmp 13)⟩] [6])
  (.seq (.reg [⟨(some 14), none, .mv (.tmp 6)⟩,
      ⟨(some 4), none, .mv (.tmp 14)⟩] [4])
   .ret)))⟩
theorem low11 : lowF Tryz.prog (assoc kp11) (assoc od11) 11 = some F11 := by kernel_rfl

/- (*palaver/world.World).Quit$1 -/
def kp106 : List (Nat × List Nat) := [(0, []), (1, [4])]
def od106 : List (Nat × List (List Nat)) := []
def F106 : FIR := ⟨5, [.tmp 4],
 (.seq (.reg [⟨(some 2), none, .box 28 (.tmp 0)⟩,
    ⟨(some 4), none, .mv (.const (Value.int IntKind.i64 0))⟩] [])
 (.seq (.reg [⟨(some 4), none, .mv (.const (Value.int IntKind.i64 0))⟩] [4])
  .ret))⟩
theorem low106 : lowF Tryz.prog (assoc kp106) (assoc od106) 106 = some F106 := by kernel_rfl

/- (*palaver/world.World).Quit -/
def kp42 : List (Nat × List Nat) := [(0, [0, 1]), (1, [6]), (2, [4])]
def od42 : List (Nat × List (List Nat)) := []
def F42 : FIR := ⟨15, [.tmp 4],
 (.seq (.reg [⟨(some 4), none, .mv (.const (Value.int IntKind.i64 0))⟩] [0, 1])
 (.seq (.reg [⟨(some 8), none, .mv (.tmp 0)⟩,
     ⟨(some 9), none, .mv (.tmp 1)⟩,
     ⟨(some 10), none, .build [(Value.int IntKind.u8 0), (Value.int IntKind.i64 0), (Value.string ⟨#[]⟩), (Value.string ⟨#[]⟩), (Value.int IntKind.i64 0), (Value.int IntKind.i64 0)] [(0, 1, (.const (Value.int IntKind.u8 14))), (4, 1, (.tmp 9))]⟩,
     ⟨(some 11), none, .call 46 [(.tmp 8), (.tmp 10), (.func 106)]⟩,
     ⟨(some 7), none, .mv (.tmp 11)⟩,
     ⟨(some 12), none, .ext (.tmp 7) 0⟩,
     ⟨(some 13), none, .ext (.tmp 7) 1⟩,
     ⟨(some 5), none, .alloc 81 [(Value.int IntKind.u8 0), (Value.int IntKind.i64 0), (Value.string ⟨#[]⟩), (Value.string ⟨#[]⟩), (Value.int IntKind.i64 0), (Value.int IntKind.i64 0)]⟩,
     ⟨none, none, .store 6 (.tmp 5) (.tmp 12)⟩,
     ⟨(some 6), none, .mv (.tmp 13)⟩] [6])
  (.seq (.reg [⟨(some 14), none, .mv (.tmp 6)⟩,
      ⟨(some 4), none, .mv (.tmp 14)⟩] [4])
   .ret)))⟩
theorem low42 : lowF Tryz.prog (assoc kp42) (assoc od42) 42 = some F42 := by kernel_rfl

/- (*palaver/world.World).Read$1 -/
def kp94 : List (Nat × List Nat) := [(0, [0, 1, 2, 3]), (1, [0, 3, 6, 7]), (2, [0, 3, 6, 7, 15]), (3, [5]), (4, [0, 3, 6, 19]), (5, [5]), (6, [0, 3, 6, 25]), (7, [5]), (8, [0, 3, 6, 8]), (9, [0, 6]), (10, []), (11, [5])]
def od94 : List (Nat × List (List Nat)) := [(8, [[0, 1, 2, 3, 4, 5, 6, 7, 8, 9, 10, 11, 12, 13, 14, 15, 16, 17, 18, 19, 20, 21]]), (10, [[0, 1, 2, 3, 4, 5, 6, 7, 8, 9, 10, 11, 12]])]
def F94 : FIR := ⟨71, [.tmp 5],
 (.seq (.reg [⟨(some 5), none, .mv (.const (Value.int IntKind.i64 0))⟩] [0, 1, 2, 3])
 (.seq (.reg [⟨(some 10), none, .load1 (.tmp 1)⟩,
     ⟨(some 11), none, .load1 (.tmp 2)⟩,
     ⟨(some 12), none, .call 51 [(.tmp 10), (.tmp 11), (.const (Value.bool false))]⟩,
     ⟨(some 9), none, .mv (.tmp 12)⟩,
     ⟨(some 13), none, .ext (.tmp 9) 0⟩,
     ⟨(some 14), none, .ext (.tmp 9) 1⟩,
     ⟨(some 6), none, .mv (.tmp 13)⟩,
     ⟨(some 7), none, .mv (.tmp 14)⟩] [0, 3, 6, 7])
  (.seq (.block 0
     (.seq (.reg [⟨(some 16), none, .mv (.tmp 7)⟩,
        ⟨(some 17), none, .bin .neq (.tmp 16) (.const (Value.int IntKind.i64 0))⟩,
        ⟨(some 15), none, .mv (.tmp 17)⟩] [0, 3, 6, 7, 15])
     (.cond (.tmp 15)
        (.seq (.reg [⟨(some 18), none, .mv (.tmp 7)⟩,
            ⟨(some 5), none, .mv (.tmp 18)⟩] [5])
         .ret)
        (.seq (.reg [⟨(some 20), none, .mv (.tmp 6)⟩,
            ⟨(some 21), none, .nilck (.tmp 20)⟩,
            ⟨(some 22), none, .fld 3 (.tmp 21)⟩,
            ⟨(some 23), none, .load1 (.tmp 22)⟩,
            ⟨(some 24), none, .bin .neq (.tmp 23) (.const (Value.int IntKind.i64 1))⟩,
            ⟨(some 19), none, .mv (.tmp 24)⟩] [0, 3, 6, 19])
         (.cond (.tmp 19)
            (.seq (.reg [⟨(some 5), none, .mv (.const (Value.int IntKind.i64 33))⟩] [5])
             .ret)
            (.seq (.reg [⟨(some 26), none, .load1 (.tmp 3)⟩,
                ⟨(some 27), none, .bin .lss (.tmp 26) (.const (Value.int IntKind.i64 0))⟩,
                ⟨(some 25), none, .mv (.tmp 27)⟩] [0, 3, 6, 25])
             (.cond (.tmp 25)
                (.seq (.reg [⟨(some 5), none, .mv (.const (Value.int IntKind.i64 1))⟩] [5])
                 .ret)
                .skip)))))))
   (.seq (.draw [[⟨(some 28), none, .mv (.tmp 6)⟩,
        ⟨(some 29), none, .nilck (.tmp 28)⟩,
        ⟨(some 30), none, .fld 2 (.tmp 29)⟩,
        ⟨(some 31), none, .load1 (.tmp 30)⟩,
        ⟨(some 32), none, .nilck (.tmp 31)⟩,
        ⟨(some 33), none, .fld 0 (.tmp 32)⟩,
        ⟨(some 34), none, .load1 (.tmp 33)⟩,
        ⟨(some 35), none, .mv (.tmp 6)⟩,
        ⟨(some 36), none, .nilck (.tmp 35)⟩,
        ⟨(some 37), none, .fld 4 (.tmp 36)⟩,
        ⟨(some 38), none, .load1 (.tmp 37)⟩,
        ⟨(some 39), none, .mv (.tmp 6)⟩,
        ⟨(some 40), none, .nilck (.tmp 39)⟩,
        ⟨(some 41), none, .fld 2 (.tmp 40)⟩,
        ⟨(some 42), none, .load1 (.tmp 41)⟩,
        ⟨(some 43), none, .nilck (.tmp 42)⟩,
        ⟨(some 44), none, .fld 0 (.tmp 43)⟩,
        ⟨(some 45), none, .load1 (.tmp 44)⟩,
        ⟨(some 46), none, .lenL (.tmp 45)⟩,
        ⟨(some 47), none, .min2 (.tmp 38) (.tmp 46)⟩,
        ⟨(some 48), none, .slcL 1 (.tmp 34) (some (.tmp 47)) none none⟩,
        ⟨(some 8), none, .mv (.tmp 48)⟩]] [0, 3, 6, 8])
    (.seq (.reg [⟨(some 49), none, .mv (.tmp 0)⟩,
        ⟨(some 50), none, .mv (.tmp 8)⟩,
        ⟨(some 51), none, .load1 (.tmp 3)⟩,
        ⟨(some 52), none, .mv (.tmp 8)⟩,
        ⟨(some 53), none, .lenL (.tmp 52)⟩,
        ⟨(some 54), none, .min2 (.tmp 51) (.tmp 53)⟩,
        ⟨(some 55), none, .slcL 1 (.tmp 50) none (some (.tmp 54)) none⟩,
        ⟨(some 56), none, .b2s (.tmp 55)⟩,
        ⟨(some 57), none, .nilck (.tmp 49)⟩,
        ⟨(some 58), none, .fld 2 (.tmp 57)⟩,
        ⟨none, none, .store 1 (.tmp 58) (.tmp 56)⟩] [0, 6])
     (.seq (.draw [[⟨(some 59), none, .mv (.tmp 6)⟩,
          ⟨(some 60), none, .nilck (.tmp 59)⟩,
          ⟨(some 61), none, .fld 4 (.tmp 60)⟩,
          ⟨(some 62), none, .load1 (.tmp 61)⟩,
          ⟨(some 63), none, .mv (.tmp 0)⟩,
          ⟨(some 64), none, .nilck (.tmp 63)⟩,
          ⟨(some 65), none, .fld 2 (.tmp 64)⟩,
          ⟨(some 66), none, .load1 (.tmp 65)⟩,
          ⟨(some 67), none, .lenS (.tmp 66)⟩,
          ⟨(some 68), none, .bin .add (.tmp 62) (.tmp 67)⟩,
          ⟨(some 69), none, .nilck (.tmp 59)⟩,
          ⟨(some 70), none, .fld 4 (.tmp 69)⟩,
          ⟨none, none, .store 1 (.tmp 70) (.tmp 68)⟩]] [])
      (.seq (.reg [⟨(some 5), none, .mv (.const (Value.int IntKind.i64 0))⟩] [5])
       .ret)))))))⟩
theorem low94 : lowF Tryz.prog (assoc kp94) (assoc od94) 94 = some F94 := by kernel_rfl

/- (*palaver/world.World).Read -/
def kp30 : List (Nat × List Nat) := [(0, [3, 4, 5]), (1, [8, 9]), (2, [6, 7])]
def od30 : List (Nat × List (List Nat)) := []
def F30 : FIR := ⟨22, [.tmp 6, .tmp 7],
 (.seq (.reg [⟨(some 3), none, .box 29 (.tmp 0)⟩,
    ⟨(some 4), none, .box 3 (.tmp 1)⟩,
    ⟨(some 5), none, .box 3 (.tmp 2)⟩,
    ⟨(some 6), none, .mv (.const (Value.string ⟨#[]⟩))⟩,
    ⟨(some 7), none, .mv (.const (Value.int IntKind.i64 0))⟩] [3, 4, 5])
 (.seq (.reg [⟨(some 11), none, .load1 (.tmp 3)⟩,
     ⟨(some 12), none, .load1 (.tmp 4)⟩,
     ⟨(some 13), none, .load1 (.tmp 5)⟩,
     ⟨(some 14), none, .build [(Value.int IntKind.u8 0), (Value.int IntKind.i64 0), (Value.string ⟨#[]⟩), (Value.string ⟨#[]⟩), (Value.int IntKind.i64 0), (Value.int IntKind.i64 0)] [(0, 1, (.const (Value.int IntKind.u8 2))), (1, 1, (.tmp 12)), (4, 1, (.tmp 13))]⟩,
     ⟨(some 15), none, .clos (.func 94) [] [(.tmp 3), (.tmp 4), (.tmp 5)]⟩,
     ⟨(some 16), none, .call 48 [(.tmp 11), (.tmp 14), (.tmp 15)]⟩,
     ⟨(some 10), none, .mv (.tmp 16)⟩,
     ⟨(some 17), none, .ext (.tmp 10) 0⟩,
     ⟨(some 18), none, .ext (.tmp 10) 1⟩,
     ⟨(some 8), none, .alloc 81 [(Value.int IntKind.u8 0), (Value.int IntKind.i64 0), (Value.string ⟨#[]⟩), (Value.string ⟨#[]⟩), (Value.int IntKind.i64 0), (Value.int IntKind.i64 0)]⟩,
     ⟨none, none, .store 6 (.tmp 8) (.tmp 17)⟩,
     ⟨(some 9), none, .mv (.tmp 18)⟩] [8, 9])
  (.seq (.reg [⟨(some 19), none, .fld 2 (.tmp 8)⟩,
      ⟨(some 20), none, .load1 (.tmp 19)⟩,
      ⟨(some 21), none, .mv (.tmp 9)⟩,
      ⟨(some 6), none, .mv (.tmp 20)⟩,
      ⟨(some 7), none, .mv (.tmp 21)⟩] [6, 7])
   .ret)))⟩
theorem low30 : lowF Tryz.prog (assoc kp30) (assoc od30) 30 = some F30 := by kernel_rfl

/- slices.Clone[[]byte,byte] -/
def kp75 : List (Nat × List Nat) := [(0, [0]), (1, [0, 4]), (2, [2]), (3, [2])]
def od75 : List (Nat × List (List Nat)) := []
def F75 : FIR := ⟨8, [.tmp 2],
 (.seq (.reg [⟨(some 2), none, .mv (.const (Value.slice none 0 0))⟩] [0])
 (.seq (.seq (.reg [⟨(some 3), none, .mv (.tmp 0)⟩,
      ⟨(some 4), none, .eqnil false .slice (.tmp 3)⟩] [0, 4])
   (.cond (.tmp 4)
      (.seq (.reg [⟨(some 2), none, .mv (.const (Value.slice none 0 0))⟩] [2])
       .ret)
      .skip))
  (.seq (.reg [⟨(some 5), none, .bslice 5 0 [(Value.int IntKind.u8 0)] []⟩,
      ⟨(some 6), none, .mv (.tmp 0)⟩,
      ⟨(some 7), none, .append 5 1 1 [(Value.int IntKind.u8 0)] (.tmp 5) (.tmp 6)⟩,
      ⟨(some 2), none, .mv (.tmp 7)⟩] [2])
   .ret)))⟩
theorem low75 : lowF Tryz.prog (assoc kp75) (assoc od75) 75 = some F75 := by kernel_rfl

/- (*palaver/world.World).Size -/
def kp13 : List (Nat × List Nat) := [(0, [0, 1]), (1, [0, 1, 11]), (2, [4, 5]), (3, [6, 7]), (4, [6, 7, 19]), (5, [4, 5]), (6, [4, 5])]
def od13 : List (Nat × List (List Nat)) := []
def F13 : FIR := ⟨29, [.tmp 4, .tmp 5],
 (.seq (.reg [⟨(some 4), none, .mv (.const (Value.int IntKind.i64 0))⟩,
    ⟨(some 5), none, .mv (.const (Value.int IntKind.i64 0))⟩] [0, 1])
 (.seq (.seq (.reg [⟨(some 8), none, .mv (.tmp 0)⟩,
      ⟨(some 9), none, .nilck (.tmp 8)⟩,
      ⟨(some 10), none, .fld 6 (.tmp 9)⟩,
      ⟨(some 11), none, .load1 (.tmp 10)⟩] [0, 1, 11])
   (.cond (.tmp 11)
      (.seq (.reg [⟨(some 4), none, .mv (.const (Value.int IntKind.i64 0))⟩,
          ⟨(some 5), none, .mv (.const (Value.int IntKind.i64 36))⟩] [4, 5])
       .ret)
      .skip))
  (.seq (.reg [⟨(some 13), none, .mv (.tmp 0)⟩,
      ⟨(some 14), none, .mv (.tmp 1)⟩,
      ⟨(some 15), none, .call 51 [(.tmp 13), (.tmp 14), (.const (Value.bool false))]⟩,
      ⟨(some 12), none, .mv (.tmp 15)⟩,
      ⟨(some 16), none, .ext (.tmp 12) 0⟩,
      ⟨(some 17), none, .ext (.tmp 12) 1⟩,
      ⟨(some 6), none, .mv (.tmp 16)⟩,
      ⟨(some 7), none, .mv (.tmp 17)⟩] [6, 7])
   (.seq (.seq (.reg [⟨(some 18), none, .mv (.tmp 7)⟩,
        ⟨(some 19), none, .bin .neq (.tmp 18) (.const (Value.int IntKind.i64 0))⟩] [6, 7, 19])
     (.cond (.tmp 19)
        (.seq (.reg [⟨(some 20), none, .mv (.tmp 7)⟩,
            ⟨(some 4), none, .mv (.const (Value.int IntKind.i64 0))⟩,
            ⟨(some 5), none, .mv (.tmp 20)⟩] [4, 5])
         .ret)
        .skip))
    (.seq (.reg [⟨(some 21), none, .mv (.tmp 6)⟩,
        ⟨(some 22), none, .nilck (.tmp 21)⟩,
        ⟨(some 23), none, .fld 2 (.tmp 22)⟩,
        ⟨(some 24), none, .load1 (.tmp 23)⟩,
        ⟨(some 25), none, .nilck (.tmp 24)⟩,
        ⟨(some 26), none, .fld 0 (.tmp 25)⟩,
        ⟨(some 27), none, .load1 (.tmp 26)⟩,
        ⟨(some 28), none, .lenL (.tmp 27)⟩,
        ⟨(some 4), none, .mv (.tmp 28)⟩,
        ⟨(some 5), none, .mv (.const (Value.int IntKind.i64 0))⟩] [4, 5])
     .ret)))))⟩
theorem low13 : lowF Tryz.prog (assoc kp13) (assoc od13) 13 = some F13 := by kernel_rfl

end Go.Proofs.YtklkngccaemjdaaGreat

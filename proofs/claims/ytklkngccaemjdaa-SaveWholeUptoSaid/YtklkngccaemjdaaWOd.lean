/-
  The code of functions, as terms: printed by a program, proved to be what the seat has.
-/
import Derived.Test.YtklkngccaemjdaaWOc
import Derived.KernelRfl
import Derived.Test.YtklkngccaemjdaaProg
set_option linter.unusedSimpArgs false
set_option linter.unusedVariables false
namespace Go.Proofs.Ytklkngccaemjdaa
open Go Go.V
set_option maxRecDepth 100000
/- (*palaver/world.World).Seek$1 -/
def kp37 : List (Nat × List Nat) := [(0, [1, 2, 3, 22, 23, 24, 25, 26, 27, 28, 29, 30, 31]), (1, [3, 6, 7, 22, 23, 24, 25, 26, 27, 28, 29, 30, 31]), (2, [3, 6, 7, 14, 22, 23, 24, 25, 26, 27, 28, 29, 30, 31]), (3, [5]), (4, [3, 6, 18]), (5, [5]), (6, []), (7, [5])]
def od37 : List (Nat × List (List Nat)) := [(4, [[0, 1, 2, 3, 4, 5, 6, 7, 8, 9, 10, 11, 12, 13, 14]])]
def F37 : FIR := ⟨37, [.tmp 5],
 (.seq (.reg [⟨(some 5), none, .mv (.const (Value.int IntKind.i64 0))⟩] [1, 2, 3, 22, 23, 24, 25, 26, 27, 28, 29, 30, 31])
 (.seq (.reg [⟨(some 9), none, .load1 (.tmp 1)⟩,
     ⟨(some 10), none, .load1 (.tmp 2)⟩,
     ⟨(some 11), none, .call 38 [(.tmp 9), (.tmp 10), (.const (Value.bool false))]⟩,
     ⟨(some 8), none, .mv (.tmp 11)⟩,
     ⟨(some 12), none, .ext (.tmp 8) 0⟩,
     ⟨(some 13), none, .ext (.tmp 8) 1⟩,
     ⟨(some 6), none, .mv (.tmp 12)⟩,
     ⟨(some 7), none, .mv (.tmp 13)⟩] [3, 6, 7, 22, 23, 24, 25, 26, 27, 28, 29, 30, 31])
  (.seq (.block 0
     (.seq (.reg [⟨(some 15), none, .mv (.tmp 7)⟩,
        ⟨(some 16), none, .bin .neq (.tmp 15) (.const (Value.int IntKind.i64 0))⟩,
        ⟨(some 14), none, .mv (.tmp 16)⟩] [3, 6, 7, 14, 22, 23, 24, 25, 26, 27, 28, 29, 30, 31])
     (.cond (.tmp 14)
        (.seq (.reg [⟨(some 17), none, .mv (.tmp 7)⟩,
            ⟨(some 5), none, .mv (.tmp 17)⟩] [5])
         .ret)
        (.seq (.draw [[⟨(some 19), none, .load1 (.tmp 3)⟩,
             ⟨(some 20), none, .bin .lss (.tmp 19) (.const (Value.int IntKind.i64 0))⟩,
             ⟨(some 21), none, .mv (.tmp 20)⟩,
             ⟨(some 22), (some (21, false)), .load1 (.tmp 3)⟩,
             ⟨(some 23), (some (21, false)), .mv (.tmp 6)⟩,
             ⟨(some 24), (some (21, false)), .nilck (.tmp 23)⟩,
             ⟨(some 25), (some (21, false)), .fld 2 (.tmp 24)⟩,
             ⟨(some 26), (some (21, false)), .load1 (.tmp 25)⟩,
             ⟨(some 27), (some (21, false)), .nilck (.tmp 26)⟩,
             ⟨(some 28), (some (21, false)), .fld 0 (.tmp 27)⟩,
             ⟨(some 29), (some (21, false)), .load1 (.tmp 28)⟩,
             ⟨(some 30), (some (21, false)), .lenL (.tmp 29)⟩,
             ⟨(some 31), (some (21, false)), .bin .gtr (.tmp 22) (.tmp 30)⟩,
             ⟨(some 32), none, .pick (.tmp 21) (.const (Value.bool true)) (.tmp 31)⟩,
             ⟨(some 18), none, .mv (.tmp 32)⟩]] [3, 6, 18])
         (.cond (.tmp 18)
            (.seq (.reg [⟨(some 5), none, .mv (.const (Value.int IntKind.i64 1))⟩] [5])
             .ret)
            .skip)))))
   (.seq (.reg [⟨(some 33), none, .mv (.tmp 6)⟩,
       ⟨(some 34), none, .load1 (.tmp 3)⟩,
       ⟨(some 35), none, .nilck (.tmp 33)⟩,
       ⟨(some 36), none, .fld 4 (.tmp 35)⟩,
       ⟨none, none, .store 1 (.tmp 36) (.tmp 34)⟩] [])
    (.seq (.reg [⟨(some 5), none, .mv (.const (Value.int IntKind.i64 0))⟩] [5])
     .ret)))))⟩
theorem low37 : lowF Try.prog (assoc kp37) (assoc od37) 37 = some F37 := by kernel_rfl

/- (*palaver/world.World).Seek -/
def kp12 : List (Nat × List Nat) := [(0, [3, 4, 5]), (1, [8]), (2, [6])]
def od12 : List (Nat × List (List Nat)) := []
def F12 : FIR := ⟨19, [.tmp 6],
 (.seq (.reg [⟨(some 3), none, .box 26 (.tmp 0)⟩,
    ⟨(some 4), none, .box 3 (.tmp 1)⟩,
    ⟨(some 5), none, .box 3 (.tmp 2)⟩,
    ⟨(some 6), none, .mv (.const (Value.int IntKind.i64 0))⟩] [3, 4, 5])
 (.seq (.reg [⟨(some 10), none, .load1 (.tmp 3)⟩,
     ⟨(some 11), none, .load1 (.tmp 4)⟩,
     ⟨(some 12), none, .load1 (.tmp 5)⟩,
     ⟨(some 13), none, .build [(Value.int IntKind.u8 0), (Value.int IntKind.i64 0), (Value.string ⟨#[]⟩), (Value.string ⟨#[]⟩), (Value.int IntKind.i64 0), (Value.int IntKind.i64 0)] [(0, 1, (.const (Value.int IntKind.u8 4))), (1, 1, (.tmp 11)), (4, 1, (.tmp 12))]⟩,
     ⟨(some 14), none, .clos (.func 37) [] [(.tmp 3), (.tmp 4), (.tmp 5)]⟩,
     ⟨(some 15), none, .call 31 [(.tmp 10), (.tmp 13), (.tmp 14)]⟩,
     ⟨(some 9), none, .mv (.tmp 15)⟩,
     ⟨(some 16), none, .ext (.tmp 9) 0⟩,
     ⟨(some 17), none, .ext (.tmp 9) 1⟩,
     ⟨(some 7), none, .alloc 68 [(Value.int IntKind.u8 0), (Value.int IntKind.i64 0), (Value.string ⟨#[]⟩), (Value.string ⟨#[]⟩), (Value.int IntKind.i64 0), (Value.int IntKind.i64 0)]⟩,
     ⟨none, none, .store 6 (.tmp 7) (.tmp 16)⟩,
     ⟨(some 8), none, .mv (.tmp 17)⟩] [8])
  (.seq (.reg [⟨(some 18), none, .mv (.tmp 8)⟩,
      ⟨(some 6), none, .mv (.tmp 18)⟩] [6])
   .ret)))⟩
theorem low12 : lowF Try.prog (assoc kp12) (assoc od12) 12 = some F12 := by kernel_rfl

/- (*palaver/world.World).Close$1 -/
def kp43 : List (Nat × List Nat) := [(0, [1, 2]), (1, [5, 6]), (2, [5, 6, 13]), (3, [4]), (4, [5, 17]), (5, [4]), (6, []), (7, [4])]
def od43 : List (Nat × List (List Nat)) := []
def F43 : FIR := ⟨27, [.tmp 4],
 (.seq (.reg [⟨(some 4), none, .mv (.const (Value.int IntKind.i64 0))⟩] [1, 2])
 (.seq (.reg [⟨(some 8), none, .load1 (.tmp 1)⟩,
     ⟨(some 9), none, .load1 (.tmp 2)⟩,
     ⟨(some 10), none, .call 44 [(.tmp 8), (.tmp 9)]⟩,
     ⟨(some 7), none, .mv (.tmp 10)⟩,
     ⟨(some 11), none, .ext (.tmp 7) 0⟩,
     ⟨(some 12), none, .ext (.tmp 7) 1⟩,
     ⟨(some 5), none, .mv (.tmp 11)⟩,
     ⟨(some 6), none, .mv (.tmp 12)⟩] [5, 6])
  (.seq (.block 0
     (.seq (.reg [⟨(some 14), none, .mv (.tmp 6)⟩,
        ⟨(some 15), none, .bin .neq (.tmp 14) (.const (Value.int IntKind.i64 0))⟩,
        ⟨(some 13), none, .mv (.tmp 15)⟩] [5, 6, 13])
     (.cond (.tmp 13)
        (.seq (.reg [⟨(some 16), none, .mv (.tmp 6)⟩,
            ⟨(some 4), none, .mv (.tmp 16)⟩] [4])
         .ret)
        (.seq (.reg [⟨(some 18), none, .mv (.tmp 5)⟩,
            ⟨(some 19), none, .nilck (.tmp 18)⟩,
            ⟨(some 20), none, .fld 0 (.tmp 19)⟩,
            ⟨(some 21), none, .fld 1 (.tmp 20)⟩,
            ⟨(some 22), none, .load1 (.tmp 21)⟩,
            ⟨(some 17), none, .mv (.tmp 22)⟩] [5, 17])
         (.cond (.tmp 17)
            (.seq (.reg [⟨(some 4), none, .mv (.const (Value.int IntKind.i64 31))⟩] [4])
             .ret)
            .skip)))))
   (.seq (.reg [⟨(some 23), none, .mv (.tmp 5)⟩,
       ⟨(some 24), none, .nilck (.tmp 23)⟩,
       ⟨(some 25), none, .fld 0 (.tmp 24)⟩,
       ⟨(some 26), none, .fld 0 (.tmp 25)⟩,
       ⟨none, none, .store 1 (.tmp 26) (.const (Value.bool true))⟩] [])
    (.seq (.reg [⟨(some 4), none, .mv (.const (Value.int IntKind.i64 0))⟩] [4])
     .ret)))))⟩
theorem low43 : lowF Try.prog (assoc kp43) (assoc od43) 43 = some F43 := by kernel_rfl

/- (*palaver/world.World).Close -/
def kp17 : List (Nat × List Nat) := [(0, [2, 3]), (1, [6]), (2, [4])]
def od17 : List (Nat × List (List Nat)) := []
def F17 : FIR := ⟨16, [.tmp 4],
 (.seq (.reg [⟨(some 2), none, .box 26 (.tmp 0)⟩,
    ⟨(some 3), none, .box 3 (.tmp 1)⟩,
    ⟨(some 4), none, .mv (.const (Value.int IntKind.i64 0))⟩] [2, 3])
 (.seq (.reg [⟨(some 8), none, .load1 (.tmp 2)⟩,
     ⟨(some 9), none, .load1 (.tmp 3)⟩,
     ⟨(some 10), none, .build [(Value.int IntKind.u8 0), (Value.int IntKind.i64 0), (Value.string ⟨#[]⟩), (Value.string ⟨#[]⟩), (Value.int IntKind.i64 0), (Value.int IntKind.i64 0)] [(0, 1, (.const (Value.int IntKind.u8 6))), (1, 1, (.tmp 9))]⟩,
     ⟨(some 11), none, .clos (.func 43) [] [(.tmp 2), (.tmp 3)]⟩,
     ⟨(some 12), none, .call 31 [(.tmp 8), (.tmp 10), (.tmp 11)]⟩,
     ⟨(some 7), none, .mv (.tmp 12)⟩,
     ⟨(some 13), none, .ext (.tmp 7) 0⟩,
     ⟨(some 14), none, .ext (.tmp 7) 1⟩,
     ⟨(some 5), none, .alloc 68 [(Value.int IntKind.u8 0), (Value.int IntKind.i64 0), (Value.string ⟨#[]⟩), (Value.string ⟨#[]⟩), (Value.int IntKind.i64 0), (Value.int IntKind.i64 0)]⟩,
     ⟨none, none, .store 6 (.tmp 5) (.tmp 13)⟩,
     ⟨(some 6), none, .mv (.tmp 14)⟩] [6])
  (.seq (.reg [⟨(some 15), none, .mv (.tmp 6)⟩,
      ⟨(some 4), none, .mv (.tmp 15)⟩] [4])
   .ret)))⟩
theorem low17 : lowF Try.prog (assoc kp17) (assoc od17) 17 = some F17 := by kernel_rfl

/- (*palaver/world.World).Sync$1 -/
def kp41 : List (Nat × List Nat) := [(0, [1, 2]), (1, [5, 6]), (2, [5, 6, 14]), (3, [6]), (4, [4])]
def od41 : List (Nat × List (List Nat)) := [(3, [[0, 1, 2, 3, 4, 5, 6, 7, 8, 9, 10, 11, 12, 13, 14, 15, 16, 17, 18, 19, 20, 21], [0, 1, 2, 4, 5, 6, 7, 3, 8, 9, 10, 11, 12, 13, 14, 15, 16, 17, 18, 19, 20, 21], [0, 1, 2, 4, 5, 6, 7, 8, 9, 10, 11, 12, 13, 14, 15, 3, 16, 17, 18, 19, 20, 21], [0, 1, 2, 3, 4, 5, 6, 8, 9, 10, 11, 12, 13, 14, 15, 7, 16, 17, 18, 19, 20, 21], [0, 1, 2, 4, 5, 6, 8, 9, 10, 11, 12, 13, 14, 15, 3, 7, 16, 17, 18, 19, 20, 21], [0, 1, 2, 4, 5, 6, 8, 9, 10, 11, 12, 13, 14, 15, 7, 3, 16, 17, 18, 19, 20, 21]])]
def F41 : FIR := ⟨36, [.tmp 4],
 (.seq (.reg [⟨(some 4), none, .mv (.const (Value.int IntKind.i64 0))⟩] [1, 2])
 (.seq (.reg [⟨(some 8), none, .load1 (.tmp 1)⟩,
     ⟨(some 9), none, .load1 (.tmp 2)⟩,
     ⟨(some 10), none, .call 38 [(.tmp 8), (.tmp 9), (.const (Value.bool false))]⟩,
     ⟨(some 7), none, .mv (.tmp 10)⟩,
     ⟨(some 11), none, .ext (.tmp 7) 0⟩,
     ⟨(some 12), none, .ext (.tmp 7) 1⟩,
     ⟨(some 5), none, .mv (.tmp 11)⟩,
     ⟨(some 6), none, .mv (.tmp 12)⟩] [5, 6])
  (.seq (.seq (.reg [⟨(some 13), none, .mv (.tmp 6)⟩,
       ⟨(some 14), none, .bin .eql (.tmp 13) (.const (Value.int IntKind.i64 0))⟩] [5, 6, 14])
    (.cond (.tmp 14)
       (.draw [[⟨(some 15), none, .mv (.tmp 5)⟩,
           ⟨(some 16), none, .nilck (.tmp 15)⟩,
           ⟨(some 17), none, .fld 2 (.tmp 16)⟩,
           ⟨(some 18), none, .load1 (.tmp 17)⟩,
           ⟨(some 19), none, .mv (.tmp 5)⟩,
           ⟨(some 20), none, .nilck (.tmp 19)⟩,
           ⟨(some 21), none, .fld 2 (.tmp 20)⟩,
           ⟨(some 22), none, .load1 (.tmp 21)⟩,
           ⟨(some 23), none, .mv (.tmp 5)⟩,
           ⟨(some 24), none, .nilck (.tmp 23)⟩,
           ⟨(some 25), none, .fld 2 (.tmp 24)⟩,
           ⟨(some 26), none, .load1 (.tmp 25)⟩,
           ⟨(some 27), none, .nilck (.tmp 26)⟩,
           ⟨(some 28), none, .fld 0 (.tmp 27)⟩,
           ⟨(some 29), none, .load1 (.tmp 28)⟩,
           ⟨(some 30), none, .call 42 [(.tmp 29)]⟩,
           ⟨(some 31), none, .nilck (.tmp 18)⟩,
           ⟨(some 32), none, .fld 1 (.tmp 31)⟩,
           ⟨none, none, .store 1 (.tmp 32) (.tmp 30)⟩,
           ⟨(some 33), none, .nilck (.tmp 22)⟩,
           ⟨(some 34), none, .fld 2 (.tmp 33)⟩,
           ⟨none, none, .store 1 (.tmp 34) (.const (Value.slice none 0 0))⟩],
         [⟨(some 15), none, .mv (.tmp 5)⟩,
           ⟨(some 16), none, .nilck (.tmp 15)⟩,
           ⟨(some 17), none, .fld 2 (.tmp 16)⟩,
           ⟨(some 19), none, .mv (.tmp 5)⟩,
           ⟨(some 20), none, .nilck (.tmp 19)⟩,
           ⟨(some 21), none, .fld 2 (.tmp 20)⟩,
           ⟨(some 22), none, .load1 (.tmp 21)⟩,
           ⟨(some 18), none, .load1 (.tmp 17)⟩,
           ⟨(some 23), none, .mv (.tmp 5)⟩,
           ⟨(some 24), none, .nilck (.tmp 23)⟩,
           ⟨(some 25), none, .fld 2 (.tmp 24)⟩,
           ⟨(some 26), none, .load1 (.tmp 25)⟩,
           ⟨(some 27), none, .nilck (.tmp 26)⟩,
           ⟨(some 28), none, .fld 0 (.tmp 27)⟩,
           ⟨(some 29), none, .load1 (.tmp 28)⟩,
           ⟨(some 30), none, .call 42 [(.tmp 29)]⟩,
           ⟨(some 31), none, .nilck (.tmp 18)⟩,
           ⟨(some 32), none, .fld 1 (.tmp 31)⟩,
           ⟨none, none, .store 1 (.tmp 32) (.tmp 30)⟩,
           ⟨(some 33), none, .nilck (.tmp 22)⟩,
           ⟨(some 34), none, .fld 2 (.tmp 33)⟩,
           ⟨none, none, .store 1 (.tmp 34) (.const (Value.slice none 0 0))⟩],
         [⟨(some 15), none, .mv (.tmp 5)⟩,
           ⟨(some 16), none, .nilck (.tmp 15)⟩,
           ⟨(some 17), none, .fld 2 (.tmp 16)⟩,
           ⟨(some 19), none, .mv (.tmp 5)⟩,
           ⟨(some 20), none, .nilck (.tmp 19)⟩,
           ⟨(some 21), none, .fld 2 (.tmp 20)⟩,
           ⟨(some 22), none, .load1 (.tmp 21)⟩,
           ⟨(some 23), none, .mv (.tmp 5)⟩,
           ⟨(some 24), none, .nilck (.tmp 23)⟩,
           ⟨(some 25), none, .fld 2 (.tmp 24)⟩,
           ⟨(some 26), none, .load1 (.tmp 25)⟩,
           ⟨(some 27), none, .nilck (.tmp 26)⟩,
           ⟨(some 28), none, .fld 0 (.tmp 27)⟩,
           ⟨(some 29), none, .load1 (.tmp 28)⟩,
           ⟨(some 30), none, .call 42 [(.tmp 29)]⟩,
           ⟨(some 18), none, .load1 (.tmp 17)⟩,
           ⟨(some 31), none, .nilck (.tmp 18)⟩,
           ⟨(some 32), none, .fld 1 (.tmp 31)⟩,
           ⟨none, none, .store 1 (.tmp 32) (.tmp 30)⟩,
           ⟨(some 33), none, .nilck (.tmp 22)⟩,
           ⟨(some 34), none, .fld 2 (.tmp 33)⟩,
           ⟨none, none, .store 1 (.tmp 34) (.const (Value.slice none 0 0))⟩],
         [⟨(some 15), none, .mv (.tmp 5)⟩,
           ⟨(some 16), none, .nilck (.tmp 15)⟩,
           ⟨(some 17), none, .fld 2 (.tmp 16)⟩,
           ⟨(some 18), none, .load1 (.tmp 17)⟩,
           ⟨(some 19), none, .mv (.tmp 5)⟩,
           ⟨(some 20), none, .nilck (.tmp 19)⟩,
           ⟨(some 21), none, .fld 2 (.tmp 20)⟩,
           ⟨(some 23), none, .mv (.tmp 5)⟩,
           ⟨(some 24), none, .nilck (.tmp 23)⟩,
           ⟨(some 25), none, .fld 2 (.tmp 24)⟩,
           ⟨(some 26), none, .load1 (.tmp 25)⟩,
           ⟨(some 27), none, .nilck (.tmp 26)⟩,
           ⟨(some 28), none, .fld 0 (.tmp 27)⟩,
           ⟨(some 29), none, .load1 (.tmp 28)⟩,
           ⟨(some 30), none, .call 42 [(.tmp 29)]⟩,
           ⟨(some 22), none, .load1 (.tmp 21)⟩,
           ⟨(some 31), none, .nilck (.tmp 18)⟩,
           ⟨(some 32), none, .fld 1 (.tmp 31)⟩,
           ⟨none, none, .store 1 (.tmp 32) (.tmp 30)⟩,
           ⟨(some 33), none, .nilck (.tmp 22)⟩,
           ⟨(some 34), none, .fld 2 (.tmp 33)⟩,
           ⟨none, none, .store 1 (.tmp 34) (.const (Value.slice none 0 0))⟩],
         [⟨(some 15), none, .mv (.tmp 5)⟩,
           ⟨(some 16), none, .nilck (.tmp 15)⟩,
           ⟨(some 17), none, .fld 2 (.tmp 16)⟩,
           ⟨(some 19), none, .mv (.tmp 5)⟩,
           ⟨(some 20), none, .nilck (.tmp 19)⟩,
           ⟨(some 21), none, .fld 2 (.tmp 20)⟩,
           ⟨(some 23), none, .mv (.tmp 5)⟩,
           ⟨(some 24), none, .nilck (.tmp 23)⟩,
           ⟨(some 25), none, .fld 2 (.tmp 24)⟩,
           ⟨(some 26), none, .load1 (.tmp 25)⟩,
           ⟨(some 27), none, .nilck (.tmp 26)⟩,
           ⟨(some 28), none, .fld 0 (.tmp 27)⟩,
           ⟨(some 29), none, .load1 (.tmp 28)⟩,
           ⟨(some 30), none, .call 42 [(.tmp 29)]⟩,
           ⟨(some 18), none, .load1 (.tmp 17)⟩,
           ⟨(some 22), none, .load1 (.tmp 21)⟩,
           ⟨(some 31), none, .nilck (.tmp 18)⟩,
           ⟨(some 32), none, .fld 1 (.tmp 31)⟩,
           ⟨none, none, .store 1 (.tmp 32) (.tmp 30)⟩,
           ⟨(some 33), none, .nilck (.tmp 22)⟩,
           ⟨(some 34), none, .fld 2 (.tmp 33)⟩,
           ⟨none, none, .store 1 (.tmp 34) (.const (Value.slice none 0 0))⟩],
         [⟨(some 15), none, .mv (.tmp 5)⟩,
           ⟨(some 16), none, .nilck (.tmp 15)⟩,
           ⟨(some 17), none, .fld 2 (.tmp 16)⟩,
           ⟨(some 19), none, .mv (.tmp 5)⟩,
           ⟨(some 20), none, .nilck (.tmp 19)⟩,
           ⟨(some 21), none, .fld 2 (.tmp 20)⟩,
           ⟨(some 23), none, .mv (.tmp 5)⟩,
           ⟨(some 24), none, .nilck (.tmp 23)⟩,
           ⟨(some 25), none, .fld 2 (.tmp 24)⟩,
           ⟨(some 26), none, .load1 (.tmp 25)⟩,
           ⟨(some 27), none, .nilck (.tmp 26)⟩,
           ⟨(some 28), none, .fld 0 (.tmp 27)⟩,
           ⟨(some 29), none, .load1 (.tmp 28)⟩,
           ⟨(some 30), none, .call 42 [(.tmp 29)]⟩,
           ⟨(some 22), none, .load1 (.tmp 21)⟩,
           ⟨(some 18), none, .load1 (.tmp 17)⟩,
           ⟨(some 31), none, .nilck (.tmp 18)⟩,
           ⟨(some 32), none, .fld 1 (.tmp 31)⟩,
           ⟨none, none, .store 1 (.tmp 32) (.tmp 30)⟩,
           ⟨(some 33), none, .nilck (.tmp 22)⟩,
           ⟨(some 34), none, .fld 2 (.tmp 33)⟩,
           ⟨none, none, .store 1 (.tmp 34) (.const (Value.slice none 0 0))⟩]] [6])
       .skip))
   (.seq (.reg [⟨(some 35), none, .mv (.tmp 6)⟩,
       ⟨(some 4), none, .mv (.tmp 35)⟩] [4])
    .ret))))⟩
theorem low41 : lowF Try.prog (assoc kp41) (assoc od41) 41 = some F41 := by kernel_rfl

/- (*palaver/world.World).Sync -/
def kp16 : List (Nat × List Nat) := [(0, [2, 3]), (1, [6]), (2, [4])]
def od16 : List (Nat × List (List Nat)) := []
def F16 : FIR := ⟨16, [.tmp 4],
 (.seq (.reg [⟨(some 2), none, .box 26 (.tmp 0)⟩,
    ⟨(some 3), none, .box 3 (.tmp 1)⟩,
    ⟨(some 4), none, .mv (.const (Value.int IntKind.i64 0))⟩] [2, 3])
 (.seq (.reg [⟨(some 8), none, .load1 (.tmp 2)⟩,
     ⟨(some 9), none, .load1 (.tmp 3)⟩,
     ⟨(some 10), none, .build [(Value.int IntKind.u8 0), (Value.int IntKind.i64 0), (Value.string ⟨#[]⟩), (Value.string ⟨#[]⟩), (Value.int IntKind.i64 0), (Value.int IntKind.i64 0)] [(0, 1, (.const (Value.int IntKind.u8 5))), (1, 1, (.tmp 9))]⟩,
     ⟨(some 11), none, .clos (.func 41) [] [(.tmp 2), (.tmp 3)]⟩,
     ⟨(some 12), none, .call 31 [(.tmp 8), (.tmp 10), (.tmp 11)]⟩,
     ⟨(some 7), none, .mv (.tmp 12)⟩,
     ⟨(some 13), none, .ext (.tmp 7) 0⟩,
     ⟨(some 14), none, .ext (.tmp 7) 1⟩,
     ⟨(some 5), none, .alloc 68 [(Value.int IntKind.u8 0), (Value.int IntKind.i64 0), (Value.string ⟨#[]⟩), (Value.string ⟨#[]⟩), (Value.int IntKind.i64 0), (Value.int IntKind.i64 0)]⟩,
     ⟨none, none, .store 6 (.tmp 5) (.tmp 13)⟩,
     ⟨(some 6), none, .mv (.tmp 14)⟩] [6])
  (.seq (.reg [⟨(some 15), none, .mv (.tmp 6)⟩,
      ⟨(some 4), none, .mv (.tmp 15)⟩] [4])
   .ret)))⟩
theorem low16 : lowF Try.prog (assoc kp16) (assoc od16) 16 = some F16 := by kernel_rfl

/- (*palaver/world.World).Rename$1 -/
def kp45 : List (Nat × List Nat) := [(0, [1, 2, 3, 22, 23, 24]), (1, [1, 2, 3, 6, 7, 22, 23, 24]), (2, [1, 2, 3, 6, 7, 17]), (3, [5]), (4, [1, 2, 3, 6, 26]), (5, [5]), (6, [1, 3, 6]), (7, []), (8, [5])]
def od45 : List (Nat × List (List Nat)) := [(1, [[0, 1, 2, 3, 4, 5, 6, 7, 8, 9, 10]]), (6, [[0, 1, 2, 3, 4, 5]]), (7, [[0, 1, 2, 3, 4, 5, 6]])]
def F45 : FIR := ⟨40, [.tmp 5],
 (.seq (.reg [⟨(some 5), none, .mv (.const (Value.int IntKind.i64 0))⟩] [1, 2, 3, 22, 23, 24])
 (.seq (.draw [[⟨(some 9), none, .load1 (.tmp 1)⟩,
      ⟨(some 10), none, .nilck (.tmp 9)⟩,
      ⟨(some 11), none, .fld 1 (.tmp 10)⟩,
      ⟨(some 12), none, .load1 (.tmp 11)⟩,
      ⟨(some 13), none, .load1 (.tmp 2)⟩,
      ⟨(some 14), none, .lookup .str (Value.pointer none) true (.tmp 12) (.tmp 13)⟩,
      ⟨(some 8), none, .mv (.tmp 14)⟩,
      ⟨(some 15), none, .ext (.tmp 8) 0⟩,
      ⟨(some 16), none, .ext (.tmp 8) 1⟩,
      ⟨(some 6), none, .mv (.tmp 15)⟩,
      ⟨(some 7), none, .mv (.tmp 16)⟩]] [1, 2, 3, 6, 7, 22, 23, 24])
  (.seq (.block 0
     (.seq (.reg [⟨(some 18), none, .load1 (.tmp 2)⟩,
        ⟨(some 19), none, .call 29 [(.tmp 18)]⟩,
        ⟨(some 20), none, .un .not (.tmp 19)⟩,
        ⟨(some 21), none, .mv (.tmp 20)⟩,
        ⟨(some 22), (some (21, false)), .load1 (.tmp 3)⟩,
        ⟨(some 23), (some (21, false)), .call 29 [(.tmp 22)]⟩,
        ⟨(some 24), (some (21, false)), .un .not (.tmp 23)⟩,
        ⟨(some 25), none, .pick (.tmp 21) (.const (Value.bool true)) (.tmp 24)⟩,
        ⟨(some 17), none, .mv (.tmp 25)⟩] [1, 2, 3, 6, 7, 17])
     (.cond (.tmp 17)
        (.seq (.reg [⟨(some 5), none, .mv (.const (Value.int IntKind.i64 35))⟩] [5])
         .ret)
        (.seq (.reg [⟨(some 27), none, .mv (.tmp 7)⟩,
            ⟨(some 28), none, .un .not (.tmp 27)⟩,
            ⟨(some 26), none, .mv (.tmp 28)⟩] [1, 2, 3, 6, 26])
         (.cond (.tmp 26)
            (.seq (.reg [⟨(some 5), none, .mv (.const (Value.int IntKind.i64 32))⟩] [5])
             .ret)
            .skip)))))
   (.seq (.draw [[⟨(some 29), none, .load1 (.tmp 1)⟩,
        ⟨(some 30), none, .nilck (.tmp 29)⟩,
        ⟨(some 31), none, .fld 1 (.tmp 30)⟩,
        ⟨(some 32), none, .load1 (.tmp 31)⟩,
        ⟨(some 33), none, .load1 (.tmp 2)⟩,
        ⟨none, none, .delete .str (.tmp 32) (.tmp 33)⟩]] [1, 3, 6])
    (.seq (.draw [[⟨(some 34), none, .load1 (.tmp 1)⟩,
         ⟨(some 35), none, .nilck (.tmp 34)⟩,
         ⟨(some 36), none, .fld 1 (.tmp 35)⟩,
         ⟨(some 37), none, .load1 (.tmp 36)⟩,
         ⟨(some 38), none, .load1 (.tmp 3)⟩,
         ⟨(some 39), none, .mv (.tmp 6)⟩,
         ⟨none, none, .mapupd .str (.tmp 37) (.tmp 38) (.tmp 39)⟩]] [])
     (.seq (.reg [⟨(some 5), none, .mv (.const (Value.int IntKind.i64 0))⟩] [5])
      .ret))))))⟩
theorem low45 : lowF Try.prog (assoc kp45) (assoc od45) 45 = some F45 := by kernel_rfl

/- (*palaver/world.World).Rename -/
def kp18 : List (Nat × List Nat) := [(0, [3, 4, 5]), (1, [8]), (2, [6])]
def od18 : List (Nat × List (List Nat)) := []
def F18 : FIR := ⟨19, [.tmp 6],
 (.seq (.reg [⟨(some 3), none, .box 26 (.tmp 0)⟩,
    ⟨(some 4), none, .box 9 (.tmp 1)⟩,
    ⟨(some 5), none, .box 9 (.tmp 2)⟩,
    ⟨(some 6), none, .mv (.const (Value.int IntKind.i64 0))⟩] [3, 4, 5])
 (.seq (.reg [⟨(some 10), none, .load1 (.tmp 3)⟩,
     ⟨(some 11), none, .load1 (.tmp 4)⟩,
     ⟨(some 12), none, .load1 (.tmp 5)⟩,
     ⟨(some 13), none, .build [(Value.int IntKind.u8 0), (Value.int IntKind.i64 0), (Value.string ⟨#[]⟩), (Value.string ⟨#[]⟩), (Value.int IntKind.i64 0), (Value.int IntKind.i64 0)] [(0, 1, (.const (Value.int IntKind.u8 7))), (2, 1, (.tmp 11)), (3, 1, (.tmp 12))]⟩,
     ⟨(some 14), none, .clos (.func 45) [] [(.tmp 3), (.tmp 4), (.tmp 5)]⟩,
     ⟨(some 15), none, .call 31 [(.tmp 10), (.tmp 13), (.tmp 14)]⟩,
     ⟨(some 9), none, .mv (.tmp 15)⟩,
     ⟨(some 16), none, .ext (.tmp 9) 0⟩,
     ⟨(some 17), none, .ext (.tmp 9) 1⟩,
     ⟨(some 7), none, .alloc 68 [(Value.int IntKind.u8 0), (Value.int IntKind.i64 0), (Value.string ⟨#[]⟩), (Value.string ⟨#[]⟩), (Value.int IntKind.i64 0), (Value.int IntKind.i64 0)]⟩,
     ⟨none, none, .store 6 (.tmp 7) (.tmp 16)⟩,
     ⟨(some 8), none, .mv (.tmp 17)⟩] [8])
  (.seq (.reg [⟨(some 18), none, .mv (.tmp 8)⟩,
      ⟨(some 6), none, .mv (.tmp 18)⟩] [6])
   .ret)))⟩
theorem low18 : lowF Try.prog (assoc kp18) (assoc od18) 18 = some F18 := by kernel_rfl

/- (*palaver/world.World).Delete$1 -/
def kp72 : List (Nat × List Nat) := [(0, [1, 2]), (1, [1, 2, 6]), (2, [1, 2, 6, 16]), (3, [4]), (4, [1, 2, 20]), (5, [4]), (6, []), (7, [4])]
def od72 : List (Nat × List (List Nat)) := [(1, [[0, 1, 2, 3, 4, 5, 6, 7, 8, 9, 10]]), (6, [[0, 1, 2, 3, 4, 5]])]
def F72 : FIR := ⟨28, [.tmp 4],
 (.seq (.reg [⟨(some 4), none, .mv (.const (Value.int IntKind.i64 0))⟩] [1, 2])
 (.seq (.draw [[⟨(some 8), none, .load1 (.tmp 1)⟩,
      ⟨(some 9), none, .nilck (.tmp 8)⟩,
      ⟨(some 10), none, .fld 1 (.tmp 9)⟩,
      ⟨(some 11), none, .load1 (.tmp 10)⟩,
      ⟨(some 12), none, .load1 (.tmp 2)⟩,
      ⟨(some 13), none, .lookup .str (Value.pointer none) true (.tmp 11) (.tmp 12)⟩,
      ⟨(some 7), none, .mv (.tmp 13)⟩,
      ⟨(some 14), none, .ext (.tmp 7) 0⟩,
      ⟨(some 15), none, .ext (.tmp 7) 1⟩,
      ⟨(some 5), none, .mv (.tmp 14)⟩,
      ⟨(some 6), none, .mv (.tmp 15)⟩]] [1, 2, 6])
  (.seq (.block 0
     (.seq (.reg [⟨(some 17), none, .load1 (.tmp 2)⟩,
        ⟨(some 18), none, .call 29 [(.tmp 17)]⟩,
        ⟨(some 19), none, .un .not (.tmp 18)⟩,
        ⟨(some 16), none, .mv (.tmp 19)⟩] [1, 2, 6, 16])
     (.cond (.tmp 16)
        (.seq (.reg [⟨(some 4), none, .mv (.const (Value.int IntKind.i64 35))⟩] [4])
         .ret)
        (.seq (.reg [⟨(some 21), none, .mv (.tmp 6)⟩,
            ⟨(some 22), none, .un .not (.tmp 21)⟩,
            ⟨(some 20), none, .mv (.tmp 22)⟩] [1, 2, 20])
         (.cond (.tmp 20)
            (.seq (.reg [⟨(some 4), none, .mv (.const (Value.int IntKind.i64 32))⟩] [4])
             .ret)
            .skip)))))
   (.seq (.draw [[⟨(some 23), none, .load1 (.tmp 1)⟩,
        ⟨(some 24), none, .nilck (.tmp 23)⟩,
        ⟨(some 25), none, .fld 1 (.tmp 24)⟩,
        ⟨(some 26), none, .load1 (.tmp 25)⟩,
        ⟨(some 27), none, .load1 (.tmp 2)⟩,
        ⟨none, none, .delete .str (.tmp 26) (.tmp 27)⟩]] [])
    (.seq (.reg [⟨(some 4), none, .mv (.const (Value.int IntKind.i64 0))⟩] [4])
     .ret)))))⟩
theorem low72 : lowF Try.prog (assoc kp72) (assoc od72) 72 = some F72 := by kernel_rfl

/- (*palaver/world.World).Delete -/
def kp52 : List (Nat × List Nat) := [(0, [2, 3]), (1, [6]), (2, [4])]
def od52 : List (Nat × List (List Nat)) := []
def F52 : FIR := ⟨16, [.tmp 4],
 (.seq (.reg [⟨(some 2), none, .box 26 (.tmp 0)⟩,
    ⟨(some 3), none, .box 9 (.tmp 1)⟩,
    ⟨(some 4), none, .mv (.const (Value.int IntKind.i64 0))⟩] [2, 3])
 (.seq (.reg [⟨(some 8), none, .load1 (.tmp 2)⟩,
     ⟨(some 9), none, .load1 (.tmp 3)⟩,
     ⟨(some 10), none, .build [(Value.int IntKind.u8 0), (Value.int IntKind.i64 0), (Value.string ⟨#[]⟩), (Value.string ⟨#[]⟩), (Value.int IntKind.i64 0), (Value.int IntKind.i64 0)] [(0, 1, (.const (Value.int IntKind.u8 8))), (2, 1, (.tmp 9))]⟩,
     ⟨(some 11), none, .clos (.func 72) [] [(.tmp 2), (.tmp 3)]⟩,
     ⟨(some 12), none, .call 31 [(.tmp 8), (.tmp 10), (.tmp 11)]⟩,
     ⟨(some 7), none, .mv (.tmp 12)⟩,
     ⟨(some 13), none, .ext (.tmp 7) 0⟩,
     ⟨(some 14), none, .ext (.tmp 7) 1⟩,
     ⟨(some 5), none, .alloc 68 [(Value.int IntKind.u8 0), (Value.int IntKind.i64 0), (Value.string ⟨#[]⟩), (Value.string ⟨#[]⟩), (Value.int IntKind.i64 0), (Value.int IntKind.i64 0)]⟩,
     ⟨none, none, .store 6 (.tmp 5) (.tmp 13)⟩,
     ⟨(some 6), none, .mv (.tmp 14)⟩] [6])
  (.seq (.reg [⟨(some 15), none, .mv (.tmp 6)⟩,
      ⟨(some 4), none, .mv (.tmp 15)⟩] [4])
   .ret)))⟩
theorem low52 : lowF Try.prog (assoc kp52) (assoc od52) 52 = some F52 := by kernel_rfl

/- (*palaver/world.World).Clock$1 -/
def kp73 : List (Nat × List Nat) := [(0, [1, 2, 3, 10, 11, 12, 15, 16, 17]), (1, [1, 2, 3, 18]), (2, [1, 2]), (3, []), (4, [5])]
def od73 : List (Nat × List (List Nat)) := [(2, [[0, 1, 2, 3, 4, 5, 6, 7, 8, 9, 10, 11]])]
def F73 : FIR := ⟨37, [.tmp 5],
 (.seq (.reg [⟨(some 3), none, .box 64 (.tmp 0)⟩,
    ⟨(some 5), none, .mv (.const (Value.int IntKind.i64 0))⟩] [1, 2, 3, 10, 11, 12, 15, 16, 17])
 (.seq (.seq (.reg [⟨(some 6), none, .fld 0 (.tmp 3)⟩,
      ⟨(some 7), none, .load1 (.tmp 6)⟩,
      ⟨(some 8), none, .bin .eql (.tmp 7) (.const (Value.int IntKind.u8 1))⟩,
      ⟨(some 9), none, .mv (.tmp 8)⟩,
      ⟨(some 10), (some (9, true)), .fld 1 (.tmp 3)⟩,
      ⟨(some 11), (some (9, true)), .load1 (.tmp 10)⟩,
      ⟨(some 12), (some (9, true)), .bin .geq (.tmp 11) (.const (Value.int IntKind.i64 0))⟩,
      ⟨(some 13), none, .pick (.tmp 9) (.tmp 12) (.const (Value.bool false))⟩,
      ⟨(some 14), none, .mv (.tmp 13)⟩,
      ⟨(some 15), (some (14, true)), .fld 1 (.tmp 3)⟩,
      ⟨(some 16), (some (14, true)), .load1 (.tmp 15)⟩,
      ⟨(some 17), (some (14, true)), .bin .leq (.tmp 16) (.const (Value.int IntKind.i64 1000000000000))⟩,
      ⟨(some 18), none, .pick (.tmp 14) (.tmp 17) (.const (Value.bool false))⟩] [1, 2, 3, 18])
   (.cond (.tmp 18)
      (.draw [[⟨(some 19), none, .load1 (.tmp 2)⟩,
          ⟨(some 20), none, .load1 (.tmp 2)⟩,
          ⟨(some 21), none, .nilck (.tmp 20)⟩,
          ⟨(some 22), none, .fld 4 (.tmp 21)⟩,
          ⟨(some 23), none, .load1 (.tmp 22)⟩,
          ⟨(some 24), none, .fld 1 (.tmp 3)⟩,
          ⟨(some 25), none, .load1 (.tmp 24)⟩,
          ⟨(some 26), none, .bin .add (.tmp 23) (.tmp 25)⟩,
          ⟨(some 27), none, .min2 (.tmp 26) (.const (Value.int IntKind.i64 1000000000000000000))⟩,
          ⟨(some 28), none, .nilck (.tmp 19)⟩,
          ⟨(some 29), none, .fld 4 (.tmp 28)⟩,
          ⟨none, none, .store 1 (.tmp 29) (.tmp 27)⟩]] [1, 2])
      .skip))
  (.seq (.reg [⟨(some 30), none, .mv (.tmp 1)⟩,
      ⟨(some 31), none, .load1 (.tmp 2)⟩,
      ⟨(some 32), none, .nilck (.tmp 31)⟩,
      ⟨(some 33), none, .fld 4 (.tmp 32)⟩,
      ⟨(some 34), none, .load1 (.tmp 33)⟩,
      ⟨(some 35), none, .nilck (.tmp 30)⟩,
      ⟨(some 36), none, .fld 4 (.tmp 35)⟩,
      ⟨none, none, .store 1 (.tmp 36) (.tmp 34)⟩] [])
   (.seq (.reg [⟨(some 5), none, .mv (.const (Value.int IntKind.i64 0))⟩] [5])
    .ret))))⟩
theorem low73 : lowF Try.prog (assoc kp73) (assoc od73) 73 = some F73 := by kernel_rfl

/- (*palaver/world.World).Clock -/
def kp53 : List (Nat × List Nat) := [(0, [1]), (1, [4, 5]), (2, [2, 3])]
def od53 : List (Nat × List (List Nat)) := []
def F53 : FIR := ⟨16, [.tmp 2, .tmp 3],
 (.seq (.reg [⟨(some 1), none, .box 26 (.tmp 0)⟩,
    ⟨(some 2), none, .mv (.const (Value.int IntKind.i64 0))⟩,
    ⟨(some 3), none, .mv (.const (Value.int IntKind.i64 0))⟩] [1])
 (.seq (.reg [⟨(some 7), none, .load1 (.tmp 1)⟩,
     ⟨(some 8), none, .build [(Value.int IntKind.u8 0), (Value.int IntKind.i64 0), (Value.string ⟨#[]⟩), (Value.string ⟨#[]⟩), (Value.int IntKind.i64 0), (Value.int IntKind.i64 0)] [(0, 1, (.const (Value.int IntKind.u8 9)))]⟩,
     ⟨(some 9), none, .clos (.func 73) [] [(.tmp 1)]⟩,
     ⟨(some 10), none, .call 59 [(.tmp 7), (.tmp 8), (.tmp 9)]⟩,
     ⟨(some 6), none, .mv (.tmp 10)⟩,
     ⟨(some 11), none, .ext (.tmp 6) 0⟩,
     ⟨(some 12), none, .ext (.tmp 6) 1⟩,
     ⟨(some 4), none, .alloc 68 [(Value.int IntKind.u8 0), (Value.int IntKind.i64 0), (Value.string ⟨#[]⟩), (Value.string ⟨#[]⟩), (Value.int IntKind.i64 0), (Value.int IntKind.i64 0)]⟩,
     ⟨none, none, .store 6 (.tmp 4) (.tmp 11)⟩,
     ⟨(some 5), none, .mv (.tmp 12)⟩] [4, 5])
  (.seq (.reg [⟨(some 13), none, .fld 4 (.tmp 4)⟩,
      ⟨(some 14), none, .load1 (.tmp 13)⟩,
      ⟨(some 15), none, .mv (.tmp 5)⟩,
      ⟨(some 2), none, .mv (.tmp 14)⟩,
      ⟨(some 3), none, .mv (.tmp 15)⟩] [2, 3])
   .ret)))⟩
theorem low53 : lowF Try.prog (assoc kp53) (assoc od53) 53 = some F53 := by kernel_rfl

/- (*palaver/world.World).Connect$1 -/
def kp74 : List (Nat × List Nat) := [(0, [1, 2, 3, 4, 16, 17, 18, 19]), (1, [1, 2, 3, 4, 7, 16, 17, 18, 19]), (2, [6]), (3, [1, 3, 4, 11]), (4, [6]), (5, [1, 3, 4, 21]), (6, [6]), (7, [1, 3, 29]), (8, [6]), (9, []), (10, [6])]
def od74 : List (Nat × List (List Nat)) := []
def F74 : FIR := ⟨40, [.tmp 6],
 (.seq (.reg [⟨(some 4), none, .box 64 (.tmp 0)⟩,
    ⟨(some 6), none, .mv (.const (Value.int IntKind.i64 0))⟩] [1, 2, 3, 4, 16, 17, 18, 19])
 (.seq (.block 0
    (.seq (.reg [⟨(some 8), none, .load1 (.tmp 2)⟩,
       ⟨(some 9), none, .call 29 [(.tmp 8)]⟩,
       ⟨(some 10), none, .un .not (.tmp 9)⟩,
       ⟨(some 7), none, .mv (.tmp 10)⟩] [1, 2, 3, 4, 7, 16, 17, 18, 19])
    (.cond (.tmp 7)
       (.seq (.reg [⟨(some 6), none, .mv (.const (Value.int IntKind.i64 35))⟩] [6])
        .ret)
       (.seq (.reg [⟨(some 12), none, .fld 0 (.tmp 4)⟩,
           ⟨(some 13), none, .load1 (.tmp 12)⟩,
           ⟨(some 14), none, .bin .neq (.tmp 13) (.const (Value.int IntKind.u8 2))⟩,
           ⟨(some 15), none, .mv (.tmp 14)⟩,
           ⟨(some 16), (some (15, false)), .fld 2 (.tmp 4)⟩,
           ⟨(some 17), (some (15, false)), .load1 (.tmp 16)⟩,
           ⟨(some 18), (some (15, false)), .load1 (.tmp 2)⟩,
           ⟨(some 19), (some (15, false)), .bin .neq (.tmp 17) (.tmp 18)⟩,
           ⟨(some 20), none, .pick (.tmp 15) (.const (Value.bool true)) (.tmp 19)⟩,
           ⟨(some 11), none, .mv (.tmp 20)⟩] [1, 3, 4, 11])
        (.cond (.tmp 11)
           (.seq (.reg [⟨(some 6), none, .mv (.const (Value.int IntKind.i64 32))⟩] [6])
            .ret)
           (.seq (.reg [⟨(some 22), none, .fld 1 (.tmp 4)⟩,
               ⟨(some 23), none, .load1 (.tmp 22)⟩,
               ⟨(some 24), none, .call 63 [(.tmp 23)]⟩,
               ⟨(some 25), none, .bin .neq (.tmp 24) (.const (Value.int IntKind.i64 0))⟩,
               ⟨(some 21), none, .mv (.tmp 25)⟩] [1, 3, 4, 21])
            (.cond (.tmp 21)
               (.seq (.reg [⟨(some 26), none, .fld 1 (.tmp 4)⟩,
                   ⟨(some 27), none, .load1 (.tmp 26)⟩,
                   ⟨(some 28), none, .call 63 [(.tmp 27)]⟩,
                   ⟨(some 6), none, .mv (.tmp 28)⟩] [6])
                .ret)
               (.seq (.reg [⟨(some 30), none, .load1 (.tmp 3)⟩,
                   ⟨(some 31), none, .call 33 [(.tmp 30)]⟩,
                   ⟨(some 32), none, .bin .geq (.tmp 31) (.const (Value.int IntKind.i64 32))⟩,
                   ⟨(some 29), none, .mv (.tmp 32)⟩] [1, 3, 29])
                (.cond (.tmp 29)
                   (.seq (.reg [⟨(some 6), none, .mv (.const (Value.int IntKind.i64 34))⟩] [6])
                    .ret)
                   .skip)))))))))
  (.seq (.reg [⟨(some 33), none, .mv (.tmp 1)⟩,
      ⟨(some 34), none, .load1 (.tmp 3)⟩,
      ⟨(some 35), none, .build [(Value.bool false), (Value.bool false), (Value.pointer none), (Value.int IntKind.i64 0), (Value.int IntKind.i64 0)] []⟩,
      ⟨(some 36), none, .box 87 (.tmp 35)⟩,
      ⟨(some 37), none, .call 36 [(.tmp 34), (.tmp 36)]⟩,
      ⟨(some 38), none, .nilck (.tmp 33)⟩,
      ⟨(some 39), none, .fld 1 (.tmp 38)⟩,
      ⟨none, none, .store 1 (.tmp 39) (.tmp 37)⟩] [])
   (.seq (.reg [⟨(some 6), none, .mv (.const (Value.int IntKind.i64 0))⟩] [6])
    .ret))))⟩
theorem low74 : lowF Try.prog (assoc kp74) (assoc od74) 74 = some F74 := by kernel_rfl

/- (*palaver/world.World).Connect -/
def kp54 : List (Nat × List Nat) := [(0, [2, 3]), (1, [6, 7]), (2, [4, 5])]
def od54 : List (Nat × List (List Nat)) := []
def F54 : FIR := ⟨19, [.tmp 4, .tmp 5],
 (.seq (.reg [⟨(some 2), none, .box 26 (.tmp 0)⟩,
    ⟨(some 3), none, .box 9 (.tmp 1)⟩,
    ⟨(some 4), none, .mv (.const (Value.int IntKind.i64 0))⟩,
    ⟨(some 5), none, .mv (.const (Value.int IntKind.i64 0))⟩] [2, 3])
 (.seq (.reg [⟨(some 9), none, .load1 (.tmp 2)⟩,
     ⟨(some 10), none, .load1 (.tmp 3)⟩,
     ⟨(some 11), none, .build [(Value.int IntKind.u8 0), (Value.int IntKind.i64 0), (Value.string ⟨#[]⟩), (Value.string ⟨#[]⟩), (Value.int IntKind.i64 0), (Value.int IntKind.i64 0)] [(0, 1, (.const (Value.int IntKind.u8 10))), (2, 1, (.tmp 10))]⟩,
     ⟨(some 12), none, .clos (.func 74) [] [(.tmp 3), (.tmp 2)]⟩,
     ⟨(some 13), none, .call 59 [(.tmp 9), (.tmp 11), (.tmp 12)]⟩,
     ⟨(some 8), none, .mv (.tmp 13)⟩,
     ⟨(some 14), none, .ext (.tmp 8) 0⟩,
     ⟨(some 15), none, .ext (.tmp 8) 1⟩,
     ⟨(some 6), none, .alloc 68 [(Value.int IntKind.u8 0), (Value.int IntKind.i64 0), (Value.string ⟨#[]⟩), (Value.string ⟨#[]⟩), (Value.int IntKind.i64 0), (Value.int IntKind.i64 0)]⟩,
     ⟨none, none, .store 6 (.tmp 6) (.tmp 14)⟩,
     ⟨(some 7), none, .mv (.tmp 15)⟩] [6, 7])
  (.seq (.reg [⟨(some 16), none, .fld 1 (.tmp 6)⟩,
      ⟨(some 17), none, .load1 (.tmp 16)⟩,
      ⟨(some 18), none, .mv (.tmp 7)⟩,
      ⟨(some 4), none, .mv (.tmp 17)⟩,
      ⟨(some 5), none, .mv (.tmp 18)⟩] [4, 5])
   .ret)))⟩
theorem low54 : lowF Try.prog (assoc kp54) (assoc od54) 54 = some F54 := by kernel_rfl

/- (*palaver/world.World).Send$1 -/
def kp75 : List (Nat × List Nat) := [(0, [2, 3]), (1, [8]), (2, [6])]
def od75 : List (Nat × List (List Nat)) := []
def F75 : FIR := ⟨16, [.tmp 6],
 (.seq (.reg [⟨(some 4), none, .box 64 (.tmp 0)⟩,
    ⟨(some 6), none, .mv (.const (Value.int IntKind.i64 0))⟩] [2, 3])
 (.seq (.reg [⟨(some 10), none, .load1 (.tmp 2)⟩,
     ⟨(some 11), none, .load1 (.tmp 3)⟩,
     ⟨(some 12), none, .call 38 [(.tmp 10), (.tmp 11), (.const (Value.bool true))]⟩,
     ⟨(some 9), none, .mv (.tmp 12)⟩,
     ⟨(some 13), none, .ext (.tmp 9) 0⟩,
     ⟨(some 14), none, .ext (.tmp 9) 1⟩,
     ⟨(some 7), none, .mv (.tmp 13)⟩,
     ⟨(some 8), none, .mv (.tmp 14)⟩] [8])
  (.seq (.reg [⟨(some 15), none, .mv (.tmp 8)⟩,
      ⟨(some 6), none, .mv (.tmp 15)⟩] [6])
   .ret)))⟩
theorem low75 : lowF Try.prog (assoc kp75) (assoc od75) 75 = some F75 := by kernel_rfl

/- (*palaver/world.World).Send -/
def kp55 : List (Nat × List Nat) := [(0, [2, 3, 4]), (1, [8]), (2, [6])]
def od55 : List (Nat × List (List Nat)) := []
def F55 : FIR := ⟨19, [.tmp 6],
 (.seq (.reg [⟨(some 3), none, .box 26 (.tmp 0)⟩,
    ⟨(some 4), none, .box 3 (.tmp 1)⟩,
    ⟨(some 6), none, .mv (.const (Value.int IntKind.i64 0))⟩] [2, 3, 4])
 (.seq (.reg [⟨(some 10), none, .load1 (.tmp 3)⟩,
     ⟨(some 11), none, .load1 (.tmp 4)⟩,
     ⟨(some 12), none, .mv (.tmp 2)⟩,
     ⟨(some 13), none, .build [(Value.int IntKind.u8 0), (Value.int IntKind.i64 0), (Value.string ⟨#[]⟩), (Value.string ⟨#[]⟩), (Value.int IntKind.i64 0), (Value.int IntKind.i64 0)] [(0, 1, (.const (Value.int IntKind.u8 11))), (1, 1, (.tmp 11)), (2, 1, (.tmp 12))]⟩,
     ⟨(some 14), none, .clos (.func 75) [] [(.tmp 3), (.tmp 4)]⟩,
     ⟨(some 15), none, .call 59 [(.tmp 10), (.tmp 13), (.tmp 14)]⟩,
     ⟨(some 9), none, .mv (.tmp 15)⟩,
     ⟨(some 16), none, .ext (.tmp 9) 0⟩,
     ⟨(some 17), none, .ext (.tmp 9) 1⟩,
     ⟨(some 7), none, .alloc 68 [(Value.int IntKind.u8 0), (Value.int IntKind.i64 0), (Value.string ⟨#[]⟩), (Value.string ⟨#[]⟩), (Value.int IntKind.i64 0), (Value.int IntKind.i64 0)]⟩,
     ⟨none, none, .store 6 (.tmp 7) (.tmp 16)⟩,
     ⟨(some 8), none, .mv (.tmp 17)⟩] [8])
  (.seq (.reg [⟨(some 18), none, .mv (.tmp 8)⟩,
      ⟨(some 6), none, .mv (.tmp 18)⟩] [6])
   .ret)))⟩
theorem low55 : lowF Try.prog (assoc kp55) (assoc od55) 55 = some F55 := by kernel_rfl

/- (*palaver/world.World).Receive$1 -/
def kp76 : List (Nat × List Nat) := [(0, [1, 2, 3, 4, 5]), (1, [1, 4, 5, 9]), (2, [1, 4, 5, 9, 16]), (3, [7]), (4, [1, 4, 5, 20]), (5, [7]), (6, [1, 4, 5, 23]), (7, [7]), (8, [1, 4, 5, 27]), (9, [7]), (10, []), (11, [7])]
def od76 : List (Nat × List (List Nat)) := []
def F76 : FIR := ⟨46, [.tmp 7],
 (.seq (.reg [⟨(some 5), none, .box 64 (.tmp 0)⟩,
    ⟨(some 7), none, .mv (.const (Value.int IntKind.i64 0))⟩] [1, 2, 3, 4, 5])
 (.seq (.reg [⟨(some 11), none, .load1 (.tmp 2)⟩,
     ⟨(some 12), none, .load1 (.tmp 3)⟩,
     ⟨(some 13), none, .call 38 [(.tmp 11), (.tmp 12), (.const (Value.bool true))]⟩,
     ⟨(some 10), none, .mv (.tmp 13)⟩,
     ⟨(some 14), none, .ext (.tmp 10) 0⟩,
     ⟨(some 15), none, .ext (.tmp 10) 1⟩,
     ⟨(some 8), none, .mv (.tmp 14)⟩,
     ⟨(some 9), none, .mv (.tmp 15)⟩] [1, 4, 5, 9])
  (.seq (.block 0
     (.seq (.reg [⟨(some 17), none, .mv (.tmp 9)⟩,
        ⟨(some 18), none, .bin .neq (.tmp 17) (.const (Value.int IntKind.i64 0))⟩,
        ⟨(some 16), none, .mv (.tmp 18)⟩] [1, 4, 5, 9, 16])
     (.cond (.tmp 16)
        (.seq (.reg [⟨(some 19), none, .mv (.tmp 9)⟩,
            ⟨(some 7), none, .mv (.tmp 19)⟩] [7])
         .ret)
        (.seq (.reg [⟨(some 21), none, .load1 (.tmp 4)⟩,
            ⟨(some 22), none, .bin .lss (.tmp 21) (.const (Value.int IntKind.i64 0))⟩,
            ⟨(some 20), none, .mv (.tmp 22)⟩] [1, 4, 5, 20])
         (.cond (.tmp 20)
            (.seq (.reg [⟨(some 7), none, .mv (.const (Value.int IntKind.i64 1))⟩] [7])
             .ret)
            (.seq (.reg [⟨(some 24), none, .fld 0 (.tmp 5)⟩,
                ⟨(some 25), none, .load1 (.tmp 24)⟩,
                ⟨(some 26), none, .bin .neq (.tmp 25) (.const (Value.int IntKind.u8 3))⟩,
                ⟨(some 23), none, .mv (.tmp 26)⟩] [1, 4, 5, 23])
             (.cond (.tmp 23)
                (.seq (.reg [⟨(some 7), none, .mv (.const (Value.int IntKind.i64 0))⟩] [7])
                 .ret)
                (.seq (.reg [⟨(some 28), none, .fld 1 (.tmp 5)⟩,
                    ⟨(some 29), none, .load1 (.tmp 28)⟩,
                    ⟨(some 30), none, .call 63 [(.tmp 29)]⟩,
                    ⟨(some 31), none, .bin .neq (.tmp 30) (.const (Value.int IntKind.i64 0))⟩,
                    ⟨(some 27), none, .mv (.tmp 31)⟩] [1, 4, 5, 27])
                 (.cond (.tmp 27)
                    (.seq (.reg [⟨(some 32), none, .fld 1 (.tmp 5)⟩,
                        ⟨(some 33), none, .load1 (.tmp 32)⟩,
                        ⟨(some 34), none, .call 63 [(.tmp 33)]⟩,
                        ⟨(some 7), none, .mv (.tmp 34)⟩] [7])
                     .ret)
                    .skip)))))))))
   (.seq (.reg [⟨(some 35), none, .mv (.tmp 1)⟩,
       ⟨(some 36), none, .fld 2 (.tmp 5)⟩,
       ⟨(some 37), none, .load1 (.tmp 36)⟩,
       ⟨(some 38), none, .load1 (.tmp 4)⟩,
       ⟨(some 39), none, .fld 2 (.tmp 5)⟩,
       ⟨(some 40), none, .load1 (.tmp 39)⟩,
       ⟨(some 41), none, .lenS (.tmp 40)⟩,
       ⟨(some 42), none, .min2 (.tmp 38) (.tmp 41)⟩,
       ⟨(some 43), none, .slcS (.tmp 37) none (some (.tmp 42))⟩,
       ⟨(some 44), none, .nilck (.tmp 35)⟩,
       ⟨(some 45), none, .fld 2 (.tmp 44)⟩,
       ⟨none, none, .store 1 (.tmp 45) (.tmp 43)⟩] [])
    (.seq (.reg [⟨(some 7), none, .mv (.const (Value.int IntKind.i64 0))⟩] [7])
     .ret)))))⟩
theorem low76 : lowF Try.prog (assoc kp76) (assoc od76) 76 = some F76 := by kernel_rfl

/- (*palaver/world.World).Receive -/
def kp56 : List (Nat × List Nat) := [(0, [3, 4, 5]), (1, [8, 9]), (2, [6, 7])]
def od56 : List (Nat × List (List Nat)) := []
def F56 : FIR := ⟨22, [.tmp 6, .tmp 7],
 (.seq (.reg [⟨(some 3), none, .box 26 (.tmp 0)⟩,
    ⟨(some 4), none, .box 3 (.tmp 1)⟩,
    ⟨(some 5), none, .box 3 (.tmp 2)⟩,
    ⟨(some 6), none, .mv (.const (Value.string ⟨#[]⟩))⟩,
    ⟨(some 7), none, .mv (.const (Value.int IntKind.i64 0))⟩] [3, 4, 5])
 (.seq (.reg [⟨(some 11), none, .load1 (.tmp 3)⟩,
     ⟨(some 12), none, .load1 (.tmp 4)⟩,
     ⟨(some 13), none, .load1 (.tmp 5)⟩,
     ⟨(some 14), none, .build [(Value.int IntKind.u8 0), (Value.int IntKind.i64 0), (Value.string ⟨#[]⟩), (Value.string ⟨#[]⟩), (Value.int IntKind.i64 0), (Value.int IntKind.i64 0)] [(0, 1, (.const (Value.int IntKind.u8 12))), (1, 1, (.tmp 12)), (4, 1, (.tmp 13))]⟩,
     ⟨(some 15), none, .clos (.func 76) [] [(.tmp 3), (.tmp 4), (.tmp 5)]⟩,
     ⟨(some 16), none, .call 59 [(.tmp 11), (.tmp 14), (.tmp 15)]⟩,
     ⟨(some 10), none, .mv (.tmp 16)⟩,
     ⟨(some 17), none, .ext (.tmp 10) 0⟩,
     ⟨(some 18), none, .ext (.tmp 10) 1⟩,
     ⟨(some 8), none, .alloc 68 [(Value.int IntKind.u8 0), (Value.int IntKind.i64 0), (Value.string ⟨#[]⟩), (Value.string ⟨#[]⟩), (Value.int IntKind.i64 0), (Value.int IntKind.i64 0)]⟩,
     ⟨none, none, .store 6 (.tmp 8) (.tmp 17)⟩,
     ⟨(some 9), none, .mv (.tmp 18)⟩] [8, 9])
  (.seq (.reg [⟨(some 19), none, .fld 2 (.tmp 8)⟩,
      ⟨(some 20), none, .load1 (.tmp 19)⟩,
      ⟨(some 21), none, .mv (.tmp 9)⟩,
      ⟨(some 6), none, .mv (.tmp 20)⟩,
      ⟨(some 7), none, .mv (.tmp 21)⟩] [6, 7])
   .ret)))⟩
theorem low56 : lowF Try.prog (assoc kp56) (assoc od56) 56 = some F56 := by kernel_rfl

/- (*palaver/world.World).Show$1 -/
def kp60 : List (Nat × List Nat) := [(0, []), (1, [4])]
def od60 : List (Nat × List (List Nat)) := []
def F60 : FIR := ⟨5, [.tmp 4],
 (.seq (.reg [⟨(some 2), none, .box 64 (.tmp 0)⟩,
    ⟨(some 4), none, .mv (.const (Value.int IntKind.i64 0))⟩] [])
 (.seq (.reg [⟨(some 4), none, .mv (.const (Value.int IntKind.i64 0))⟩] [4])
  .ret))⟩
theorem low60 : lowF Try.prog (assoc kp60) (assoc od60) 60 = some F60 := by kernel_rfl

/- (*palaver/world.World).Show -/
def kp27 : List (Nat × List Nat) := [(0, [0, 1]), (1, [6]), (2, [4])]
def od27 : List (Nat × List (List Nat)) := []
def F27 : FIR := ⟨15, [.tmp 4],
 (.seq (.reg [⟨(some 4), none, .mv (.const (Value.int IntKind.i64 0))⟩] [0, 1])
 (.seq (.reg [⟨(some 8), none, .mv (.tmp 0)⟩,
     ⟨(some 9), none, .mv (.tmp 1)⟩,
     ⟨(some 10), none, .build [(Value.int IntKind.u8 0), (Value.int IntKind.i64 0), (Value.string ⟨#[]⟩), (Value.string ⟨#[]⟩), (Value.int IntKind.i64 0), (Value.int IntKind.i64 0)] [(0, 1, (.const (Value.int IntKind.u8 13))), (2, 1, (.tmp 9))]⟩,
     ⟨(some 11), none, .call 59 [(.tmp 8), (.tmp 10), (.func 60)]⟩,
     ⟨(some 7), none, .mv (.tmp 11)⟩,
     ⟨(some 12), none, .ext (.tmp 7) 0⟩,
     ⟨(some 13), none, .ext (.tmp 7) 1⟩,
     ⟨(some 5), none, .alloc 68 [(Value.int IntKind.u8 0), (Value.int IntKind.i64 0), (Value.string ⟨#[]⟩), (Value.string ⟨#[]⟩), (Value.int IntKind.i64 0), (Value.int IntKind.i64 0)]⟩,
     ⟨none, none, .store 6 (.tmp 5) (.tmp 12)⟩,
     ⟨(some 6), none, .mv (.tmp 13)⟩] [6])
  (.seq (.reg [⟨(some 14), none, .mv (.tmp 6)⟩,
      ⟨(some 4), none, .mv (.tmp 14)⟩] [4])
   .ret)))⟩
theorem low27 : lowF Try.prog (assoc kp27) (assoc od27) 27 = some F27 := by kernel_rfl

/- (*palaver/world.World).Quit$1 -/
def kp77 : List (Nat × List Nat) := [(0, []), (1, [4])]
def od77 : List (Nat × List (List Nat)) := []
def F77 : FIR := ⟨5, [.tmp 4],
 (.seq (.reg [⟨(some 2), none, .box 64 (.tmp 0)⟩,
    ⟨(some 4), none, .mv (.const (Value.int IntKind.i64 0))⟩] [])
 (.seq (.reg [⟨(some 4), none, .mv (.const (Value.int IntKind.i64 0))⟩] [4])
  .ret))⟩
theorem low77 : lowF Try.prog (assoc kp77) (assoc od77) 77 = some F77 := by kernel_rfl

/- (*palaver/world.World).Quit -/
def kp57 : List (Nat × List Nat) := [(0, [0, 1]), (1, [6]), (2, [4])]
def od57 : List (Nat × List (List Nat)) := []
def F57 : FIR := ⟨15, [.tmp 4],
 (.seq (.reg [⟨(some 4), none, .mv (.const (Value.int IntKind.i64 0))⟩] [0, 1])
 (.seq (.reg [⟨(some 8), none, .mv (.tmp 0)⟩,
     ⟨(some 9), none, .mv (.tmp 1)⟩,
     ⟨(some 10), none, .build [(Value.int IntKind.u8 0), (Value.int IntKind.i64 0), (Value.string ⟨#[]⟩), (Value.string ⟨#[]⟩), (Value.int IntKind.i64 0), (Value.int IntKind.i64 0)] [(0, 1, (.const (Value.int IntKind.u8 14))), (4, 1, (.tmp 9))]⟩,
     ⟨(some 11), none, .call 59 [(.tmp 8), (.tmp 10), (.func 77)]⟩,
     ⟨(some 7), none, .mv (.tmp 11)⟩,
     ⟨(some 12), none, .ext (.tmp 7) 0⟩,
     ⟨(some 13), none, .ext (.tmp 7) 1⟩,
     ⟨(some 5), none, .alloc 68 [(Value.int IntKind.u8 0), (Value.int IntKind.i64 0), (Value.string ⟨#[]⟩), (Value.string ⟨#[]⟩), (Value.int IntKind.i64 0), (Value.int IntKind.i64 0)]⟩,
     ⟨none, none, .store 6 (.tmp 5) (.tmp 12)⟩,
     ⟨(some 6), none, .mv (.tmp 13)⟩] [6])
  (.seq (.reg [⟨(some 14), none, .mv (.tmp 6)⟩,
      ⟨(some 4), none, .mv (.tmp 14)⟩] [4])
   .ret)))⟩
theorem low57 : lowF Try.prog (assoc kp57) (assoc od57) 57 = some F57 := by kernel_rfl

/- (*palaver/world.World).Read$1 -/
def kp40 : List (Nat × List Nat) := [(0, [0, 1, 2, 3]), (1, [0, 3, 6, 7]), (2, [0, 3, 6, 7, 15]), (3, [5]), (4, [0, 3, 6, 19]), (5, [5]), (6, [0, 3, 6, 25]), (7, [5]), (8, [0, 3, 6, 8]), (9, [0, 6]), (10, []), (11, [5])]
def od40 : List (Nat × List (List Nat)) := [(8, [[0, 1, 2, 3, 4, 5, 6, 7, 8, 9, 10, 11, 12, 13, 14, 15, 16, 17, 18, 19, 20, 21]]), (10, [[0, 1, 2, 3, 4, 5, 6, 7, 8, 9, 10, 11, 12]])]
def F40 : FIR := ⟨71, [.tmp 5],
 (.seq (.reg [⟨(some 5), none, .mv (.const (Value.int IntKind.i64 0))⟩] [0, 1, 2, 3])
 (.seq (.reg [⟨(some 10), none, .load1 (.tmp 1)⟩,
     ⟨(some 11), none, .load1 (.tmp 2)⟩,
     ⟨(some 12), none, .call 38 [(.tmp 10), (.tmp 11), (.const (Value.bool false))]⟩,
     ⟨(some 9), none, .mv (.tmp 12)⟩,
     ⟨(some 13), none, .ext (.tmp 9) 0⟩,
     ⟨(some 14), none, .ext (.tmp 9) 1⟩,
     ⟨(some 6), none, .mv (.tmp 13)⟩,
     ⟨(some 7), none, .mv (.tmp 14)⟩] [0, 3, 6, 7])
  (.seq (.block 0
     (.seq (.reg [⟨(some 16), none, .mv (.tmp 7)⟩,
        ⟨(some 17), none, .bin .neq (.tmp 16) (.const (Value.int IntKind.i64 0))⟩,
        ⟨(some 15), none, .mv (.tmp 17)⟩] [0, 3, 6, 7, 15])
     (.cond (.tmp 15)
        (.seq (.reg [⟨(some 18), none, .mv (.tmp 7)⟩,
            ⟨(some 5), none, .mv (.tmp 18)⟩] [5])
         .ret)
        (.seq (.reg [⟨(some 20), none, .mv (.tmp 6)⟩,
            ⟨(some 21), none, .nilck (.tmp 20)⟩,
            ⟨(some 22), none, .fld 3 (.tmp 21)⟩,
            ⟨(some 23), none, .load1 (.tmp 22)⟩,
            ⟨(some 24), none, .bin .neq (.tmp 23) (.const (Value.int IntKind.i64 1))⟩,
            ⟨(some 19), none, .mv (.tmp 24)⟩] [0, 3, 6, 19])
         (.cond (.tmp 19)
            (.seq (.reg [⟨(some 5), none, .mv (.const (Value.int IntKind.i64 33))⟩] [5])
             .ret)
            (.seq (.reg [⟨(some 26), none, .load1 (.tmp 3)⟩,
                ⟨(some 27), none, .bin .lss (.tmp 26) (.const (Value.int IntKind.i64 0))⟩,
                ⟨(some 25), none, .mv (.tmp 27)⟩] [0, 3, 6, 25])
             (.cond (.tmp 25)
                (.seq (.reg [⟨(some 5), none, .mv (.const (Value.int IntKind.i64 1))⟩] [5])
                 .ret)
                .skip)))))))
   (.seq (.draw [[⟨(some 28), none, .mv (.tmp 6)⟩,
        ⟨(some 29), none, .nilck (.tmp 28)⟩,
        ⟨(some 30), none, .fld 2 (.tmp 29)⟩,
        ⟨(some 31), none, .load1 (.tmp 30)⟩,
        ⟨(some 32), none, .nilck (.tmp 31)⟩,
        ⟨(some 33), none, .fld 0 (.tmp 32)⟩,
        ⟨(some 34), none, .load1 (.tmp 33)⟩,
        ⟨(some 35), none, .mv (.tmp 6)⟩,
        ⟨(some 36), none, .nilck (.tmp 35)⟩,
        ⟨(some 37), none, .fld 4 (.tmp 36)⟩,
        ⟨(some 38), none, .load1 (.tmp 37)⟩,
        ⟨(some 39), none, .mv (.tmp 6)⟩,
        ⟨(some 40), none, .nilck (.tmp 39)⟩,
        ⟨(some 41), none, .fld 2 (.tmp 40)⟩,
        ⟨(some 42), none, .load1 (.tmp 41)⟩,
        ⟨(some 43), none, .nilck (.tmp 42)⟩,
        ⟨(some 44), none, .fld 0 (.tmp 43)⟩,
        ⟨(some 45), none, .load1 (.tmp 44)⟩,
        ⟨(some 46), none, .lenL (.tmp 45)⟩,
        ⟨(some 47), none, .min2 (.tmp 38) (.tmp 46)⟩,
        ⟨(some 48), none, .slcL 1 (.tmp 34) (some (.tmp 47)) none none⟩,
        ⟨(some 8), none, .mv (.tmp 48)⟩]] [0, 3, 6, 8])
    (.seq (.reg [⟨(some 49), none, .mv (.tmp 0)⟩,
        ⟨(some 50), none, .mv (.tmp 8)⟩,
        ⟨(some 51), none, .load1 (.tmp 3)⟩,
        ⟨(some 52), none, .mv (.tmp 8)⟩,
        ⟨(some 53), none, .lenL (.tmp 52)⟩,
        ⟨(some 54), none, .min2 (.tmp 51) (.tmp 53)⟩,
        ⟨(some 55), none, .slcL 1 (.tmp 50) none (some (.tmp 54)) none⟩,
        ⟨(some 56), none, .b2s (.tmp 55)⟩,
        ⟨(some 57), none, .nilck (.tmp 49)⟩,
        ⟨(some 58), none, .fld 2 (.tmp 57)⟩,
        ⟨none, none, .store 1 (.tmp 58) (.tmp 56)⟩] [0, 6])
     (.seq (.draw [[⟨(some 59), none, .mv (.tmp 6)⟩,
          ⟨(some 60), none, .nilck (.tmp 59)⟩,
          ⟨(some 61), none, .fld 4 (.tmp 60)⟩,
          ⟨(some 62), none, .load1 (.tmp 61)⟩,
          ⟨(some 63), none, .mv (.tmp 0)⟩,
          ⟨(some 64), none, .nilck (.tmp 63)⟩,
          ⟨(some 65), none, .fld 2 (.tmp 64)⟩,
          ⟨(some 66), none, .load1 (.tmp 65)⟩,
          ⟨(some 67), none, .lenS (.tmp 66)⟩,
          ⟨(some 68), none, .bin .add (.tmp 62) (.tmp 67)⟩,
          ⟨(some 69), none, .nilck (.tmp 59)⟩,
          ⟨(some 70), none, .fld 4 (.tmp 69)⟩,
          ⟨none, none, .store 1 (.tmp 70) (.tmp 68)⟩]] [])
      (.seq (.reg [⟨(some 5), none, .mv (.const (Value.int IntKind.i64 0))⟩] [5])
       .ret)))))))⟩
theorem low40 : lowF Try.prog (assoc kp40) (assoc od40) 40 = some F40 := by kernel_rfl

/- (*palaver/world.World).Read -/
def kp15 : List (Nat × List Nat) := [(0, [3, 4, 5]), (1, [8, 9]), (2, [6, 7])]
def od15 : List (Nat × List (List Nat)) := []
def F15 : FIR := ⟨22, [.tmp 6, .tmp 7],
 (.seq (.reg [⟨(some 3), none, .box 26 (.tmp 0)⟩,
    ⟨(some 4), none, .box 3 (.tmp 1)⟩,
    ⟨(some 5), none, .box 3 (.tmp 2)⟩,
    ⟨(some 6), none, .mv (.const (Value.string ⟨#[]⟩))⟩,
    ⟨(some 7), none, .mv (.const (Value.int IntKind.i64 0))⟩] [3, 4, 5])
 (.seq (.reg [⟨(some 11), none, .load1 (.tmp 3)⟩,
     ⟨(some 12), none, .load1 (.tmp 4)⟩,
     ⟨(some 13), none, .load1 (.tmp 5)⟩,
     ⟨(some 14), none, .build [(Value.int IntKind.u8 0), (Value.int IntKind.i64 0), (Value.string ⟨#[]⟩), (Value.string ⟨#[]⟩), (Value.int IntKind.i64 0), (Value.int IntKind.i64 0)] [(0, 1, (.const (Value.int IntKind.u8 2))), (1, 1, (.tmp 12)), (4, 1, (.tmp 13))]⟩,
     ⟨(some 15), none, .clos (.func 40) [] [(.tmp 3), (.tmp 4), (.tmp 5)]⟩,
     ⟨(some 16), none, .call 31 [(.tmp 11), (.tmp 14), (.tmp 15)]⟩,
     ⟨(some 10), none, .mv (.tmp 16)⟩,
     ⟨(some 17), none, .ext (.tmp 10) 0⟩,
     ⟨(some 18), none, .ext (.tmp 10) 1⟩,
     ⟨(some 8), none, .alloc 68 [(Value.int IntKind.u8 0), (Value.int IntKind.i64 0), (Value.string ⟨#[]⟩), (Value.string ⟨#[]⟩), (Value.int IntKind.i64 0), (Value.int IntKind.i64 0)]⟩,
     ⟨none, none, .store 6 (.tmp 8) (.tmp 17)⟩,
     ⟨(some 9), none, .mv (.tmp 18)⟩] [8, 9])
  (.seq (.reg [⟨(some 19), none, .fld 2 (.tmp 8)⟩,
      ⟨(some 20), none, .load1 (.tmp 19)⟩,
      ⟨(some 21), none, .mv (.tmp 9)⟩,
      ⟨(some 6), none, .mv (.tmp 20)⟩,
      ⟨(some 7), none, .mv (.tmp 21)⟩] [6, 7])
   .ret)))⟩
theorem low15 : lowF Try.prog (assoc kp15) (assoc od15) 15 = some F15 := by kernel_rfl

/- slices.Clone[[]byte,byte] -/
def kp42 : List (Nat × List Nat) := [(0, [0]), (1, [0, 4]), (2, [2]), (3, [2])]
def od42 : List (Nat × List (List Nat)) := []
def F42 : FIR := ⟨8, [.tmp 2],
 (.seq (.reg [⟨(some 2), none, .mv (.const (Value.slice none 0 0))⟩] [0])
 (.seq (.seq (.reg [⟨(some 3), none, .mv (.tmp 0)⟩,
      ⟨(some 4), none, .eqnil false .slice (.tmp 3)⟩] [0, 4])
   (.cond (.tmp 4)
      (.seq (.reg [⟨(some 2), none, .mv (.const (Value.slice none 0 0))⟩] [2])
       .ret)
      .skip))
  (.seq (.reg [⟨(some 5), none, .bslice 5 0 [(Value.int IntKind.u8 0)] []⟩,
      ⟨(some 6), none, .mv (.tmp 0)⟩,
      ⟨(some 7), none, .append 5 1 1 [(Value.int IntKind.u8 0)] (.tmp 5) (.tmp 6)⟩,
      ⟨(some 2), none, .mv (.tmp 7)⟩] [2])
   .ret)))⟩
theorem low42 : lowF Try.prog (assoc kp42) (assoc od42) 42 = some F42 := by kernel_rfl

/- (*palaver/world.World).Size -/
def kp14 : List (Nat × List Nat) := [(0, [0, 1]), (1, [0, 1, 11]), (2, [4, 5]), (3, [6, 7]), (4, [6, 7, 19]), (5, [4, 5]), (6, [4, 5])]
def od14 : List (Nat × List (List Nat)) := []
def F14 : FIR := ⟨29, [.tmp 4, .tmp 5],
 (.seq (.reg [⟨(some 4), none, .mv (.const (Value.int IntKind.i64 0))⟩,
    ⟨(some 5), none, .mv (.const (Value.int IntKind.i64 0))⟩] [0, 1])
 (.seq (.seq (.reg [⟨(some 8), none, .mv (.tmp 0)⟩,
      ⟨(some 9), none, .nilck (.tmp 8)⟩,
      ⟨(some 10), none, .fld 6 (.tmp 9)⟩,
      ⟨(some 11), none, .load1 (.tmp 10)⟩] [0, 1, 11])
   (.cond (.tmp 11)
      (.seq (.reg [⟨(some 4), none, .mv (.const (Value.int IntKind.i64 0))⟩,
          ⟨(some 5), none, .mv (.const (Value.int IntKind.i64 36))⟩] [4, 5])
       .ret)
      .skip))
  (.seq (.reg [⟨(some 13), none, .mv (.tmp 0)⟩,
      ⟨(some 14), none, .mv (.tmp 1)⟩,
      ⟨(some 15), none, .call 38 [(.tmp 13), (.tmp 14), (.const (Value.bool false))]⟩,
      ⟨(some 12), none, .mv (.tmp 15)⟩,
      ⟨(some 16), none, .ext (.tmp 12) 0⟩,
      ⟨(some 17), none, .ext (.tmp 12) 1⟩,
      ⟨(some 6), none, .mv (.tmp 16)⟩,
      ⟨(some 7), none, .mv (.tmp 17)⟩] [6, 7])
   (.seq (.seq (.reg [⟨(some 18), none, .mv (.tmp 7)⟩,
        ⟨(some 19), none, .bin .neq (.tmp 18) (.const (Value.int IntKind.i64 0))⟩] [6, 7, 19])
     (.cond (.tmp 19)
        (.seq (.reg [⟨(some 20), none, .mv (.tmp 7)⟩,
            ⟨(some 4), none, .mv (.const (Value.int IntKind.i64 0))⟩,
            ⟨(some 5), none, .mv (.tmp 20)⟩] [4, 5])
         .ret)
        .skip))
    (.seq (.reg [⟨(some 21), none, .mv (.tmp 6)⟩,
        ⟨(some 22), none, .nilck (.tmp 21)⟩,
        ⟨(some 23), none, .fld 2 (.tmp 22)⟩,
        ⟨(some 24), none, .load1 (.tmp 23)⟩,
        ⟨(some 25), none, .nilck (.tmp 24)⟩,
        ⟨(some 26), none, .fld 0 (.tmp 25)⟩,
        ⟨(some 27), none, .load1 (.tmp 26)⟩,
        ⟨(some 28), none, .lenL (.tmp 27)⟩,
        ⟨(some 4), none, .mv (.tmp 28)⟩,
        ⟨(some 5), none, .mv (.const (Value.int IntKind.i64 0))⟩] [4, 5])
     .ret)))))⟩
theorem low14 : lowF Try.prog (assoc kp14) (assoc od14) 14 = some F14 := by kernel_rfl

end Go.Proofs.Ytklkngccaemjdaa

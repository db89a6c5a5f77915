/-
  The code of functions, as terms: printed by a program, proved to be what the seat has.
-/
import Derived.Test.YtklkngccaemjdaaWOc
import Derived.KernelRfl
import Derived.Test.YtklkngccaemjdaaProg
set_option linter.unusedSimpArgs false
set_option linter.unusedVariables false
namespace Go.Proofs.Ytklkngccaemjdaa
open Go Go.V
set_option maxRecDepth 100000
/- (*palaver/world.World).Seek$1 -/
def kp37 : List (Nat × List Nat) := [(0, [1, 2, 3, 22, 23, 24, 25, 26, 27, 28, 29, 30, 31]), (1, [3, 6, 7, 22, 23, 24, 25, 26, 27, 28, 29, 30, 31]), (2, [3, 6, 7, 14, 22, 23, 24, 25, 26, 27, 28, 29, 30, 31]), (3, [5]), (4, [3, 6, 18]), (5, [5]), (6, []), (7, [5])]
def od37 : List (Nat × List (List Nat)) := [(4, [[0, 1, 2, 3, 4, 5, 6, 7, 8, 9, 10, 11, 12, 13, 14]])]
def F37 : FIR := ⟨37, [.tmp 5],
 (.seq (.reg [⟨(some 5), none, .mv (.const (Value.int IntKind.i64 0))⟩] [1, 2, 3, 22, 23, 24, 25, 26, 27, 28, 29, 30, 31])
 (.seq (.reg [⟨(some 9), none, .load1 (.tmp 1)⟩,
     ⟨(some 10), none, .load1 (.tmp 2)⟩,
     ⟨(some 11), none, .call 38 [(.tmp 9), (.tmp 10), (.const (Value.bool false))]⟩,
     ⟨(some 8), none, .mv (.tmp 11)⟩,
     ⟨(some 12), none, .ext (.tmp 8) 0⟩,
     ⟨(some 13), none, .ext (.tmp 8) 1⟩,
     ⟨(some 6), none, .mv (.tmp 12)⟩,
     ⟨(some 7), none, .mv (.tmp 13)⟩] [3, 6, 7, 22, 23, 24, 25, 26, 27, 28, 29, 30, 31])
  (.seq (.block 0
     (.seq (.reg [⟨(some 15), none, .mv (.tmp 7)⟩,
        ⟨(some 16), none, .bin .neq (.tmp 15) (.const (Value.int IntKind.i64 0))⟩,
        ⟨(some 14), none, .mv (.tmp 16)⟩] [3, 6, 7, 14, 22, 23, 24, 25, 26, 27, 28, 29, 30, 31])
     (.cond (.tmp 14)
        (.seq (.reg [⟨(some 17), none, .mv (.tmp 7)⟩,
            ⟨(some 5), none, .mv (.tmp 17)⟩] [5])
         .ret)
        (.seq (.draw [[⟨(some 19), none, .load1 (.tmp 3)⟩,
             ⟨(some 20), none, .bin .lss (.tmp 19) (.const (Value.int IntKind.i64 0))⟩,
             ⟨(some 21), none, .mv (.tmp 20)⟩,
             ⟨(some 22), (some (21, false)), .load1 (.tmp 3)⟩,
             ⟨(some 23), (some (21, false)), .mv (.tmp 6)⟩,
             ⟨(some 24), (some (21, false)), .nilck (.tmp 23)⟩,
             ⟨(some 25), (some (21, false)), .fld 2 (.tmp 24)⟩,
             ⟨(some 26), (some (21, false)), .load1 (.tmp 25)⟩,
             ⟨(some 27), (some (21, false)), .nilck (.tmp 26)⟩,
             ⟨(some 28), (some (21, false)), .fld 0 (.tmp 27)⟩,
             ⟨(some 29), (some (21, false)), .load1 (.tmp 28)⟩,
             ⟨(some 30), (some (21, false)), .lenL (.tmp 29)⟩,
             ⟨(some 31), (some (21, false)), .bin .gtr (.tmp 22) (.tmp 30)⟩,
             ⟨(some 32), none, .pick (.tmp 21) (.const (Value.bool true)) (.tmp 31)⟩,
             ⟨(some 18), none, .mv (.tmp 32)⟩]] [3, 6, 18])
         (.cond (.tmp 18)
            (.seq (.reg [⟨(some 5), none, .mv (.const (Value.int IntKind.i64 1))⟩] [5])
             .ret)
            .skip)))))
   (.seq (.reg [⟨(some 33), none, .mv (.tmp 6)⟩,
       ⟨(some 34), none, .load1 (.tmp 3)⟩,
       ⟨(some 35), none, .nilck (.tmp 33)⟩,
       ⟨(some 36), none, .fld 4 (.tmp 35)⟩,
       ⟨none, none, .store 1 (.tmp 36) (.tmp 34)⟩] [])
    (.seq (.reg [⟨(some 5), none, .mv (.const (Value.int IntKind.i64 0))⟩] [5])
     .ret)))))⟩
theorem low37 : lowF Try.prog (assoc kp37) (assoc od37) 37 = some F37 := by kernel_rfl

/- (*palaver/world.World).Close$1 -/
def kp43 : List (Nat × List Nat) := [(0, [1, 2]), (1, [5, 6]), (2, [5, 6, 13]), (3, [4]), (4, [5, 17]), (5, [4]), (6, []), (7, [4])]
def od43 : List (Nat × List (List Nat)) := []
def F43 : FIR := ⟨27, [.tmp 4],
 (.seq (.reg [⟨(some 4), none, .mv (.const (Value.int IntKind.i64 0))⟩] [1, 2])
 (.seq (.reg [⟨(some 8), none, .load1 (.tmp 1)⟩,
     ⟨(some 9), none, .load1 (.tmp 2)⟩,
     ⟨(some 10), none, .call 44 [(.tmp 8), (.tmp 9)]⟩,
     ⟨(some 7), none, .mv (.tmp 10)⟩,
     ⟨(some 11), none, .ext (.tmp 7) 0⟩,
     ⟨(some 12), none, .ext (.tmp 7) 1⟩,
     ⟨(some 5), none, .mv (.tmp 11)⟩,
     ⟨(some 6), none, .mv (.tmp 12)⟩] [5, 6])
  (.seq (.block 0
     (.seq (.reg [⟨(some 14), none, .mv (.tmp 6)⟩,
        ⟨(some 15), none, .bin .neq (.tmp 14) (.const (Value.int IntKind.i64 0))⟩,
        ⟨(some 13), none, .mv (.tmp 15)⟩] [5, 6, 13])
     (.cond (.tmp 13)
        (.seq (.reg [⟨(some 16), none, .mv (.tmp 6)⟩,
            ⟨(some 4), none, .mv (.tmp 16)⟩] [4])
         .ret)
        (.seq (.reg [⟨(some 18), none, .mv (.tmp 5)⟩,
            ⟨(some 19), none, .nilck (.tmp 18)⟩,
            ⟨(some 20), none, .fld 0 (.tmp 19)⟩,
            ⟨(some 21), none, .fld 1 (.tmp 20)⟩,
            ⟨(some 22), none, .load1 (.tmp 21)⟩,
            ⟨(some 17), none, .mv (.tmp 22)⟩] [5, 17])
         (.cond (.tmp 17)
            (.seq (.reg [⟨(some 4), none, .mv (.const (Value.int IntKind.i64 31))⟩] [4])
             .ret)
            .skip)))))
   (.seq (.reg [⟨(some 23), none, .mv (.tmp 5)⟩,
       ⟨(some 24), none, .nilck (.tmp 23)⟩,
       ⟨(some 25), none, .fld 0 (.tmp 24)⟩,
       ⟨(some 26), none, .fld 0 (.tmp 25)⟩,
       ⟨none, none, .store 1 (.tmp 26) (.const (Value.bool true))⟩] [])
    (.seq (.reg [⟨(some 4), none, .mv (.const (Value.int IntKind.i64 0))⟩] [4])
     .ret)))))⟩
theorem low43 : lowF Try.prog (assoc kp43) (assoc od43) 43 = some F43 := by kernel_rfl

/- (*palaver/world.World).Close -/
def kp17 : List (Nat × List Nat) := [(0, [2, 3]), (1, [6]), (2, [4])]
def od17 : List (Nat × List (List Nat)) := []
def F17 : FIR := ⟨16, [.tmp 4],
 (.seq (.reg [⟨(some 2), none, .box 26 (.tmp 0)⟩,
    ⟨(some 3), none, .box 3 (.tmp 1)⟩,
    ⟨(some 4), none, .mv (.const (Value.int IntKind.i64 0))⟩] [2, 3])
 (.seq (.reg [⟨(some 8), none, .load1 (.tmp 2)⟩,
     ⟨(some 9), none, .load1 (.tmp 3)⟩,
     ⟨(some 10), none, .build [(Value.int IntKind.u8 0), (Value.int IntKind.i64 0), (Value.string ⟨#[]⟩), (Value.string ⟨#[]⟩), (Value.int IntKind.i64 0), (Value.int IntKind.i64 0)] [(0, 1, (.const (Value.int IntKind.u8 6))), (1, 1, (.tmp 9))]⟩,
     ⟨(some 11), none, .clos (.func 43) [] [(.tmp 2), (.tmp 3)]⟩,
     ⟨(some 12), none, .call 31 [(.tmp 8), (.tmp 10), (.tmp 11)]⟩,
     ⟨(some 7), none, .mv (.tmp 12)⟩,
     ⟨(some 13), none, .ext (.tmp 7) 0⟩,
     ⟨(some 14), none, .ext (.tmp 7) 1⟩,
     ⟨(some 5), none, .alloc 68 [(Value.int IntKind.u8 0), (Value.int IntKind.i64 0), (Value.string ⟨#[]⟩), (Value.string ⟨#[]⟩), (Value.int IntKind.i64 0), (Value.int IntKind.i64 0)]⟩,
     ⟨none, none, .store 6 (.tmp 5) (.tmp 13)⟩,
     ⟨(some 6), none, .mv (.tmp 14)⟩] [6])
  (.seq (.reg [⟨(some 15), none, .mv (.tmp 6)⟩,
      ⟨(some 4), none, .mv (.tmp 15)⟩] [4])
   .ret)))⟩
theorem low17 : lowF Try.prog (assoc kp17) (assoc od17) 17 = some F17 := by kernel_rfl

/- (*palaver/world.World).Sync$1 -/
def kp41 : List (Nat × List Nat) := [(0, [1, 2]), (1, [5, 6]), (2, [5, 6, 14]), (3, [6]), (4, [4])]
def od41 : List (Nat × List (List Nat)) := [(3, [[0, 1, 2, 3, 4, 5, 6, 7, 8, 9, 10, 11, 12, 13, 14, 15, 16, 17, 18, 19, 20, 21], [0, 1, 2, 4, 5, 6, 7, 3, 8, 9, 10, 11, 12, 13, 14, 15, 16, 17, 18, 19, 20, 21], [0, 1, 2, 4, 5, 6, 7, 8, 9, 10, 11, 12, 13, 14, 15, 3, 16, 17, 18, 19, 20, 21], [0, 1, 2, 3, 4, 5, 6, 8, 9, 10, 11, 12, 13, 14, 15, 7, 16, 17, 18, 19, 20, 21], [0, 1, 2, 4, 5, 6, 8, 9, 10, 11, 12, 13, 14, 15, 3, 7, 16, 17, 18, 19, 20, 21], [0, 1, 2, 4, 5, 6, 8, 9, 10, 11, 12, 13, 14, 15, 7, 3, 16, 17, 18, 19, 20, 21]])]
def F41 : FIR := ⟨36, [.tmp 4],
 (.seq (.reg [⟨(some 4), none, .mv (.const (Value.int IntKind.i64 0))⟩] [1, 2])
 (.seq (.reg [⟨(some 8), none, .load1 (.tmp 1)⟩,
     ⟨(some 9), none, .load1 (.tmp 2)⟩,
     ⟨(some 10), none, .call 38 [(.tmp 8), (.tmp 9), (.const (Value.bool false))]⟩,
     ⟨(some 7), none, .mv (.tmp 10)⟩,
     ⟨(some 11), none, .ext (.tmp 7) 0⟩,
     ⟨(some 12), none, .ext (.tmp 7) 1⟩,
     ⟨(some 5), none, .mv (.tmp 11)⟩,
     ⟨(some 6), none, .mv (.tmp 12)⟩] [5, 6])
  (.seq (.seq (.reg [⟨(some 13), none, .mv (.tmp 6)⟩,
       ⟨(some 14), none, .bin .eql (.tmp 13) (.const (Value.int IntKind.i64 0))⟩] [5, 6, 14])
    (.cond (.tmp 14)
       (.draw [[⟨(some 15), none, .mv (.tmp 5)⟩,
           ⟨(some 16), none, .nilck (.tmp 15)⟩,
           ⟨(some 17), none, .fld 2 (.tmp 16)⟩,
           ⟨(some 18), none, .load1 (.tmp 17)⟩,
           ⟨(some 19), none, .mv (.tmp 5)⟩,
           ⟨(some 20), none, .nilck (.tmp 19)⟩,
           ⟨(some 21), none, .fld 2 (.tmp 20)⟩,
           ⟨(some 22), none, .load1 (.tmp 21)⟩,
           ⟨(some 23), none, .mv (.tmp 5)⟩,
           ⟨(some 24), none, .nilck (.tmp 23)⟩,
           ⟨(some 25), none, .fld 2 (.tmp 24)⟩,
           ⟨(some 26), none, .load1 (.tmp 25)⟩,
           ⟨(some 27), none, .nilck (.tmp 26)⟩,
           ⟨(some 28), none, .fld 0 (.tmp 27)⟩,
           ⟨(some 29), none, .load1 (.tmp 28)⟩,
           ⟨(some 30), none, .call 42 [(.tmp 29)]⟩,
           ⟨(some 31), none, .nilck (.tmp 18)⟩,
           ⟨(some 32), none, .fld 1 (.tmp 31)⟩,
           ⟨none, none, .store 1 (.tmp 32) (.tmp 30)⟩,
           ⟨(some 33), none, .nilck (.tmp 22)⟩,
           ⟨(some 34), none, .fld 2 (.tmp 33)⟩,
           ⟨none, none, .store 1 (.tmp 34) (.const (Value.slice none 0 0))⟩],
         [⟨(some 15), none, .mv (.tmp 5)⟩,
           ⟨(some 16), none, .nilck (.tmp 15)⟩,
           ⟨(some 17), none, .fld 2 (.tmp 16)⟩,
           ⟨(some 19), none, .mv (.tmp 5)⟩,
           ⟨(some 20), none, .nilck (.tmp 19)⟩,
           ⟨(some 21), none, .fld 2 (.tmp 20)⟩,
           ⟨(some 22), none, .load1 (.tmp 21)⟩,
           ⟨(some 18), none, .load1 (.tmp 17)⟩,
           ⟨(some 23), none, .mv (.tmp 5)⟩,
           ⟨(some 24), none, .nilck (.tmp 23)⟩,
           ⟨(some 25), none, .fld 2 (.tmp 24)⟩,
           ⟨(some 26), none, .load1 (.tmp 25)⟩,
           ⟨(some 27), none, .nilck (.tmp 26)⟩,
           ⟨(some 28), none, .fld 0 (.tmp 27)⟩,
           ⟨(some 29), none, .load1 (.tmp 28)⟩,
           ⟨(some 30), none, .call 42 [(.tmp 29)]⟩,
           ⟨(some 31), none, .nilck (.tmp 18)⟩,
           ⟨(some 32), none, .fld 1 (.tmp 31)⟩,
           ⟨none, none, .store 1 (.tmp 32) (.tmp 30)⟩,
           ⟨(some 33), none, .nilck (.tmp 22)⟩,
           ⟨(some 34), none, .fld 2 (.tmp 33)⟩,
           ⟨none, none, .store 1 (.tmp 34) (.const (Value.slice none 0 0))⟩],
         [⟨(some 15), none, .mv (.tmp 5)⟩,
           ⟨(some 16), none, .nilck (.tmp 15)⟩,
           ⟨(some 17), none, .fld 2 (.tmp 16)⟩,
           ⟨(some 19), none, .mv (.tmp 5)⟩,
           ⟨(some 20), none, .nilck (.tmp 19)⟩,
           ⟨(some 21), none, .fld 2 (.tmp 20)⟩,
           ⟨(some 22), none, .load1 (.tmp 21)⟩,
           ⟨(some 23), none, .mv (.tmp 5)⟩,
           ⟨(some 24), none, .nilck (.tmp 23)⟩,
           ⟨(some 25), none, .fld 2 (.tmp 24)⟩,
           ⟨(some 26), none, .load1 (.tmp 25)⟩,
           ⟨(some 27), none, .nilck (.tmp 26)⟩,
           ⟨(some 28), none, .fld 0 (.tmp 27)⟩,
           ⟨(some 29), none, .load1 (.tmp 28)⟩,
           ⟨(some 30), none, .call 42 [(.tmp 29)]⟩,
           ⟨(some 18), none, .load1 (.tmp 17)⟩,
           ⟨(some 31), none, .nilck (.tmp 18)⟩,
           ⟨(some 32), none, .fld 1 (.tmp 31)⟩,
           ⟨none, none, .store 1 (.tmp 32) (.tmp 30)⟩,
           ⟨(some 33), none, .nilck (.tmp 22)⟩,
           ⟨(some 34), none, .fld 2 (.tmp 33)⟩,
           ⟨none, none, .store 1 (.tmp 34) (.const (Value.slice none 0 0))⟩],
         [⟨(some 15), none, .mv (.tmp 5)⟩,
           ⟨(some 16), none, .nilck (.tmp 15)⟩,
           ⟨(some 17), none, .fld 2 (.tmp 16)⟩,
           ⟨(some 18), none, .load1 (.tmp 17)⟩,
           ⟨(some 19), none, .mv (.tmp 5)⟩,
           ⟨(some 20), none, .nilck (.tmp 19)⟩,
           ⟨(some 21), none, .fld 2 (.tmp 20)⟩,
           ⟨(some 23), none, .mv (.tmp 5)⟩,
           ⟨(some 24), none, .nilck (.tmp 23)⟩,
           ⟨(some 25), none, .fld 2 (.tmp 24)⟩,
           ⟨(some 26), none, .load1 (.tmp 25)⟩,
           ⟨(some 27), none, .nilck (.tmp 26)⟩,
           ⟨(some 28), none, .fld 0 (.tmp 27)⟩,
           ⟨(some 29), none, .load1 (.tmp 28)⟩,
           ⟨(some 30), none, .call 42 [(.tmp 29)]⟩,
           ⟨(some 22), none, .load1 (.tmp 21)⟩,
           ⟨(some 31), none, .nilck (.tmp 18)⟩,
           ⟨(some 32), none, .fld 1 (.tmp 31)⟩,
           ⟨none, none, .store 1 (.tmp 32) (.tmp 30)⟩,
           ⟨(some 33), none, .nilck (.tmp 22)⟩,
           ⟨(some 34), none, .fld 2 (.tmp 33)⟩,
           ⟨none, none, .store 1 (.tmp 34) (.const (Value.slice none 0 0))⟩],
         [⟨(some 15), none, .mv (.tmp 5)⟩,
           ⟨(some 16), none, .nilck (.tmp 15)⟩,
           ⟨(some 17), none, .fld 2 (.tmp 16)⟩,
           ⟨(some 19), none, .mv (.tmp 5)⟩,
           ⟨(some 20), none, .nilck (.tmp 19)⟩,
           ⟨(some 21), none, .fld 2 (.tmp 20)⟩,
           ⟨(some 23), none, .mv (.tmp 5)⟩,
           ⟨(some 24), none, .nilck (.tmp 23)⟩,
           ⟨(some 25), none, .fld 2 (.tmp 24)⟩,
           ⟨(some 26), none, .load1 (.tmp 25)⟩,
           ⟨(some 27), none, .nilck (.tmp 26)⟩,
           ⟨(some 28), none, .fld 0 (.tmp 27)⟩,
           ⟨(some 29), none, .load1 (.tmp 28)⟩,
           ⟨(some 30), none, .call 42 [(.tmp 29)]⟩,
           ⟨(some 18), none, .load1 (.tmp 17)⟩,
           ⟨(some 22), none, .load1 (.tmp 21)⟩,
           ⟨(some 31), none, .nilck (.tmp 18)⟩,
           ⟨(some 32), none, .fld 1 (.tmp 31)⟩,
           ⟨none, none, .store 1 (.tmp 32) (.tmp 30)⟩,
           ⟨(some 33), none, .nilck (.tmp 22)⟩,
           ⟨(some 34), none, .fld 2 (.tmp 33)⟩,
           ⟨none, none, .store 1 (.tmp 34) (.const (Value.slice none 0 0))⟩],
         [⟨(some 15), none, .mv (.tmp 5)⟩,
           ⟨(some 16), none, .nilck (.tmp 15)⟩,
           ⟨(some 17), none, .fld 2 (.tmp 16)⟩,
           ⟨(some 19), none, .mv (.tmp 5)⟩,
           ⟨(some 20), none, .nilck (.tmp 19)⟩,
           ⟨(some 21), none, .fld 2 (.tmp 20)⟩,
           ⟨(some 23), none, .mv (.tmp 5)⟩,
           ⟨(some 24), none, .nilck (.tmp 23)⟩,
           ⟨(some 25), none, .fld 2 (.tmp 24)⟩,
           ⟨(some 26), none, .load1 (.tmp 25)⟩,
           ⟨(some 27), none, .nilck (.tmp 26)⟩,
           ⟨(some 28), none, .fld 0 (.tmp 27)⟩,
           ⟨(some 29), none, .load1 (.tmp 28)⟩,
           ⟨(some 30), none, .call 42 [(.tmp 29)]⟩,
           ⟨(some 22), none, .load1 (.tmp 21)⟩,
           ⟨(some 18), none, .load1 (.tmp 17)⟩,
           ⟨(some 31), none, .nilck (.tmp 18)⟩,
           ⟨(some 32), none, .fld 1 (.tmp 31)⟩,
           ⟨none, none, .store 1 (.tmp 32) (.tmp 30)⟩,
           ⟨(some 33), none, .nilck (.tmp 22)⟩,
           ⟨(some 34), none, .fld 2 (.tmp 33)⟩,
           ⟨none, none, .store 1 (.tmp 34) (.const (Value.slice none 0 0))⟩]] [6])
       .skip))
   (.seq (.reg [⟨(some 35), none, .mv (.tmp 6)⟩,
       ⟨(some 4), none, .mv (.tmp 35)⟩] [4])
    .ret))))⟩
theorem low41 : lowF Try.prog (assoc kp41) (assoc od41) 41 = some F41 := by kernel_rfl

/- (*palaver/world.World).Sync -/
def kp16 : List (Nat × List Nat) := [(0, [2, 3]), (1, [6]), (2, [4])]
def od16 : List (Nat × List (List Nat)) := []
def F16 : FIR := ⟨16, [.tmp 4],
 (.seq (.reg [⟨(some 2), none, .box 26 (.tmp 0)⟩,
    ⟨(some 3), none, .box 3 (.tmp 1)⟩,
    ⟨(some 4), none, .mv (.const (Value.int IntKind.i64 0))⟩] [2, 3])
 (.seq (.reg [⟨(some 8), none, .load1 (.tmp 2)⟩,
     ⟨(some 9), none, .load1 (.tmp 3)⟩,
     ⟨(some 10), none, .build [(Value.int IntKind.u8 0), (Value.int IntKind.i64 0), (Value.string ⟨#[]⟩), (Value.string ⟨#[]⟩), (Value.int IntKind.i64 0), (Value.int IntKind.i64 0)] [(0, 1, (.const (Value.int IntKind.u8 5))), (1, 1, (.tmp 9))]⟩,
     ⟨(some 11), none, .clos (.func 41) [] [(.tmp 2), (.tmp 3)]⟩,
     ⟨(some 12), none, .call 31 [(.tmp 8), (.tmp 10), (.tmp 11)]⟩,
     ⟨(some 7), none, .mv (.tmp 12)⟩,
     ⟨(some 13), none, .ext (.tmp 7) 0⟩,
     ⟨(some 14), none, .ext (.tmp 7) 1⟩,
     ⟨(some 5), none, .alloc 68 [(Value.int IntKind.u8 0), (Value.int IntKind.i64 0), (Value.string ⟨#[]⟩), (Value.string ⟨#[]⟩), (Value.int IntKind.i64 0), (Value.int IntKind.i64 0)]⟩,
     ⟨none, none, .store 6 (.tmp 5) (.tmp 13)⟩,
     ⟨(some 6), none, .mv (.tmp 14)⟩] [6])
  (.seq (.reg [⟨(some 15), none, .mv (.tmp 6)⟩,
      ⟨(some 4), none, .mv (.tmp 15)⟩] [4])
   .ret)))⟩
theorem low16 : lowF Try.prog (assoc kp16) (assoc od16) 16 = some F16 := by kernel_rfl

/- (*palaver/world.World).Rename$1 -/
def kp45 : List (Nat × List Nat) := [(0, [1, 2, 3, 22, 23, 24]), (1, [1, 2, 3, 6, 7, 22, 23, 24]), (2, [1, 2, 3, 6, 7, 17]), (3, [5]), (4, [1, 2, 3, 6, 26]), (5, [5]), (6, [1, 3, 6]), (7, []), (8, [5])]
def od45 : List (Nat × List (List Nat)) := [(1, [[0, 1, 2, 3, 4, 5, 6, 7, 8, 9, 10]]), (6, [[0, 1, 2, 3, 4, 5]]), (7, [[0, 1, 2, 3, 4, 5, 6]])]
def F45 : FIR := ⟨40, [.tmp 5],
 (.seq (.reg [⟨(some 5), none, .mv (.const (Value.int IntKind.i64 0))⟩] [1, 2, 3, 22, 23, 24])
 (.seq (.draw [[⟨(some 9), none, .load1 (.tmp 1)⟩,
      ⟨(some 10), none, .nilck (.tmp 9)⟩,
      ⟨(some 11), none, .fld 1 (.tmp 10)⟩,
      ⟨(some 12), none, .load1 (.tmp 11)⟩,
      ⟨(some 13), none, .load1 (.tmp 2)⟩,
      ⟨(some 14), none, .lookup .str (Value.pointer none) true (.tmp 12) (.tmp 13)⟩,
      ⟨(some 8), none, .mv (.tmp 14)⟩,
      ⟨(some 15), none, .ext (.tmp 8) 0⟩,
      ⟨(some 16), none, .ext (.tmp 8) 1⟩,
      ⟨(some 6), none, .mv (.tmp 15)⟩,
      ⟨(some 7), none, .mv (.tmp 16)⟩]] [1, 2, 3, 6, 7, 22, 23, 24])
  (.seq (.block 0
     (.seq (.reg [⟨(some 18), none, .load1 (.tmp 2)⟩,
        ⟨(some 19), none, .call 29 [(.tmp 18)]⟩,
        ⟨(some 20), none, .un .not (.tmp 19)⟩,
        ⟨(some 21), none, .mv (.tmp 20)⟩,
        ⟨(some 22), (some (21, false)), .load1 (.tmp 3)⟩,
        ⟨(some 23), (some (21, false)), .call 29 [(.tmp 22)]⟩,
        ⟨(some 24), (some (21, false)), .un .not (.tmp 23)⟩,
        ⟨(some 25), none, .pick (.tmp 21) (.const (Value.bool true)) (.tmp 24)⟩,
        ⟨(some 17), none, .mv (.tmp 25)⟩] [1, 2, 3, 6, 7, 17])
     (.cond (.tmp 17)
        (.seq (.reg [⟨(some 5), none, .mv (.const (Value.int IntKind.i64 35))⟩] [5])
         .ret)
        (.seq (.reg [⟨(some 27), none, .mv (.tmp 7)⟩,
            ⟨(some 28), none, .un .not (.tmp 27)⟩,
            ⟨(some 26), none, .mv (.tmp 28)⟩] [1, 2, 3, 6, 26])
         (.cond (.tmp 26)
            (.seq (.reg [⟨(some 5), none, .mv (.const (Value.int IntKind.i64 32))⟩] [5])
             .ret)
            .skip)))))
   (.seq (.draw [[⟨(some 29), none, .load1 (.tmp 1)⟩,
        ⟨(some 30), none, .nilck (.tmp 29)⟩,
        ⟨(some 31), none, .fld 1 (.tmp 30)⟩,
        ⟨(some 32), none, .load1 (.tmp 31)⟩,
        ⟨(some 33), none, .load1 (.tmp 2)⟩,
        ⟨none, none, .delete .str (.tmp 32) (.tmp 33)⟩]] [1, 3, 6])
    (.seq (.draw [[⟨(some 34), none, .load1 (.tmp 1)⟩,
         ⟨(some 35), none, .nilck (.tmp 34)⟩,
         ⟨(some 36), none, .fld 1 (.tmp 35)⟩,
         ⟨(some 37), none, .load1 (.tmp 36)⟩,
         ⟨(some 38), none, .load1 (.tmp 3)⟩,
         ⟨(some 39), none, .mv (.tmp 6)⟩,
         ⟨none, none, .mapupd .str (.tmp 37) (.tmp 38) (.tmp 39)⟩]] [])
     (.seq (.reg [⟨(some 5), none, .mv (.const (Value.int IntKind.i64 0))⟩] [5])
      .ret))))))⟩
theorem low45 : lowF Try.prog (assoc kp45) (assoc od45) 45 = some F45 := by kernel_rfl

/- (*palaver/world.World).Rename -/
def kp18 : List (Nat × List Nat) := [(0, [3, 4, 5]), (1, [8]), (2, [6])]
def od18 : List (Nat × List (List Nat)) := []
def F18 : FIR := ⟨19, [.tmp 6],
 (.seq (.reg [⟨(some 3), none, .box 26 (.tmp 0)⟩,
    ⟨(some 4), none, .box 9 (.tmp 1)⟩,
    ⟨(some 5), none, .box 9 (.tmp 2)⟩,
    ⟨(some 6), none, .mv (.const (Value.int IntKind.i64 0))⟩] [3, 4, 5])
 (.seq (.reg [⟨(some 10), none, .load1 (.tmp 3)⟩,
     ⟨(some 11), none, .load1 (.tmp 4)⟩,
     ⟨(some 12), none, .load1 (.tmp 5)⟩,
     ⟨(some 13), none, .build [(Value.int IntKind.u8 0), (Value.int IntKind.i64 0), (Value.string ⟨#[]⟩), (Value.string ⟨#[]⟩), (Value.int IntKind.i64 0), (Value.int IntKind.i64 0)] [(0, 1, (.const (Value.int IntKind.u8 7))), (2, 1, (.tmp 11)), (3, 1, (.tmp 12))]⟩,
     ⟨(some 14), none, .clos (.func 45) [] [(.tmp 3), (.tmp 4), (.tmp 5)]⟩,
     ⟨(some 15), none, .call 31 [(.tmp 10), (.tmp 13), (.tmp 14)]⟩,
     ⟨(some 9), none, .mv (.tmp 15)⟩,
     ⟨(some 16), none, .ext (.tmp 9) 0⟩,
     ⟨(some 17), none, .ext (.tmp 9) 1⟩,
     ⟨(some 7), none, .alloc 68 [(Value.int IntKind.u8 0), (Value.int IntKind.i64 0), (Value.string ⟨#[]⟩), (Value.string ⟨#[]⟩), (Value.int IntKind.i64 0), (Value.int IntKind.i64 0)]⟩,
     ⟨none, none, .store 6 (.tmp 7) (.tmp 16)⟩,
     ⟨(some 8), none, .mv (.tmp 17)⟩] [8])
  (.seq (.reg [⟨(some 18), none, .mv (.tmp 8)⟩,
      ⟨(some 6), none, .mv (.tmp 18)⟩] [6])
   .ret)))⟩
theorem low18 : lowF Try.prog (assoc kp18) (assoc od18) 18 = some F18 := by kernel_rfl

/- slices.Clone[[]byte,byte] -/
def kp42 : List (Nat × List Nat) := [(0, [0]), (1, [0, 4]), (2, [2]), (3, [2])]
def od42 : List (Nat × List (List Nat)) := []
def F42 : FIR := ⟨8, [.tmp 2],
 (.seq (.reg [⟨(some 2), none, .mv (.const (Value.slice none 0 0))⟩] [0])
 (.seq (.seq (.reg [⟨(some 3), none, .mv (.tmp 0)⟩,
      ⟨(some 4), none, .eqnil false .slice (.tmp 3)⟩] [0, 4])
   (.cond (.tmp 4)
      (.seq (.reg [⟨(some 2), none, .mv (.const (Value.slice none 0 0))⟩] [2])
       .ret)
      .skip))
  (.seq (.reg [⟨(some 5), none, .bslice 5 0 [(Value.int IntKind.u8 0)] []⟩,
      ⟨(some 6), none, .mv (.tmp 0)⟩,
      ⟨(some 7), none, .append 5 1 1 [(Value.int IntKind.u8 0)] (.tmp 5) (.tmp 6)⟩,
      ⟨(some 2), none, .mv (.tmp 7)⟩] [2])
   .ret)))⟩
theorem low42 : lowF Try.prog (assoc kp42) (assoc od42) 42 = some F42 := by kernel_rfl

end Go.Proofs.Ytklkngccaemjdaa

/-
  The code of functions, as terms: printed by a program, proved to be what the seat has.
-/
import Derived.Test.YtklkngccaemjdaaGreatWOa
import Derived.KernelRfl
import Derived.Test.YtklkngccaemjdaaGreatProg
set_option linter.unusedSimpArgs false
set_option linter.unusedVariables false
namespace Go.Proofs.YtklkngccaemjdaaGreat
open Go Go.V
set_option maxRecDepth 100000
/- (*palaver/world.World).deed -/
def kp46 : List (Nat × List Nat) := [(0, [0, 2, 4, 6]), (1, [0, 2, 4, 6, 8, 9]), (2, [0, 2, 4, 6, 8, 18]), (3, [6, 7]), (4, [0, 2, 4, 6, 8, 10]), (5, [0, 4, 6, 10, 11]), (6, [0, 4, 6, 10, 11, 25]), (7, [0, 6, 10, 11]), (8, [0, 6, 10]), (9, [6, 10]), (10, [6, 7])]
def od46 : List (Nat × List (List Nat)) := [(9, [[0, 1, 2, 3, 4, 5, 6, 7, 8, 9, 10]]), (10, [[0, 1, 2, 3, 4], [0, 1, 3, 2, 4]])]
def F46 : FIR := ⟨42, [.cellN 6 6, .tmp 7],
 (.seq (.reg [⟨(some 4), none, .box 81 (.tmp 1)⟩,
    ⟨(some 6), none, .alloc 81 [(Value.int IntKind.u8 0), (Value.int IntKind.i64 0), (Value.string ⟨#[]⟩), (Value.string ⟨#[]⟩), (Value.int IntKind.i64 0), (Value.int IntKind.i64 0)]⟩,
    ⟨(some 7), none, .mv (.const (Value.int IntKind.i64 0))⟩] [0, 2, 4, 6])
 (.seq (.reg [⟨(some 13), none, .mv (.tmp 0)⟩,
     ⟨(some 14), none, .call 110 [(.tmp 13)]⟩,
     ⟨(some 12), none, .mv (.tmp 14)⟩,
     ⟨(some 15), none, .ext (.tmp 12) 0⟩,
     ⟨(some 16), none, .ext (.tmp 12) 1⟩,
     ⟨(some 8), none, .alloc 28 [(Value.int IntKind.u8 0), (Value.int IntKind.i64 0), (Value.string ⟨#[]⟩)]⟩,
     ⟨none, none, .store 3 (.tmp 8) (.tmp 15)⟩,
     ⟨(some 9), none, .mv (.tmp 16)⟩] [0, 2, 4, 6, 8, 9])
  (.seq (.seq (.reg [⟨(some 17), none, .mv (.tmp 9)⟩,
       ⟨(some 18), none, .un .not (.tmp 17)⟩] [0, 2, 4, 6, 8, 18])
    (.cond (.tmp 18)
       (.seq (.reg [⟨(some 19), none, .build [(Value.int IntKind.u8 0), (Value.int IntKind.i64 0), (Value.string ⟨#[]⟩), (Value.string ⟨#[]⟩), (Value.int IntKind.i64 0), (Value.int IntKind.i64 0)] []⟩,
           ⟨none, none, .store 6 (.tmp 6) (.tmp 19)⟩,
           ⟨(some 7), none, .mv (.const (Value.int IntKind.i64 36))⟩] [6, 7])
        .ret)
       .skip))
   (.seq (.reg [⟨(some 20), none, .loadN 6 (.tmp 4)⟩,
       ⟨(some 10), none, .alloc 81 [(Value.int IntKind.u8 0), (Value.int IntKind.i64 0), (Value.string ⟨#[]⟩), (Value.string ⟨#[]⟩), (Value.int IntKind.i64 0), (Value.int IntKind.i64 0)]⟩,
       ⟨none, none, .store 6 (.tmp 10) (.tmp 20)⟩] [0, 2, 4, 6, 8, 10])
    (.seq (.seq (.reg [⟨(some 21), none, .mv (.tmp 2)⟩,
         ⟨(some 22), none, .loadN 3 (.tmp 8)⟩,
         ⟨(some 23), none, .callv (.tmp 21) [(.tmp 22), (.tmp 10)]⟩,
         ⟨(some 11), none, .mv (.tmp 23)⟩] [0, 4, 6, 10, 11])
      (.seq (.reg [⟨(some 24), none, .mv (.tmp 11)⟩,
          ⟨(some 25), none, .bin .neq (.tmp 24) (.const (Value.int IntKind.i64 0))⟩] [0, 4, 6, 10, 11, 25])
       (.cond (.tmp 25)
          (.seq (.reg [⟨(some 26), none, .loadN 6 (.tmp 4)⟩,
              ⟨none, none, .store 6 (.tmp 10) (.tmp 26)⟩] [0, 6, 10, 11])
           (.reg [⟨(some 27), none, .mv (.tmp 11)⟩,
              ⟨(some 28), none, .fld 5 (.tmp 10)⟩,
              ⟨none, none, .store 1 (.tmp 28) (.tmp 27)⟩] [0, 6, 10]))
          .skip)))
     (.seq (.draw [[⟨(some 29), none, .mv (.tmp 0)⟩,
          ⟨(some 30), none, .mv (.tmp 0)⟩,
          ⟨(some 31), none, .nilck (.tmp 30)⟩,
          ⟨(some 32), none, .fld 3 (.tmp 31)⟩,
          ⟨(some 33), none, .load1 (.tmp 32)⟩,
          ⟨(some 34), none, .loadN 6 (.tmp 10)⟩,
          ⟨(some 35), none, .bslice 81 1 [(Value.int IntKind.u8 0), (Value.int IntKind.i64 0), (Value.string ⟨#[]⟩), (Value.string ⟨#[]⟩), (Value.int IntKind.i64 0), (Value.int IntKind.i64 0)] [(0, 6, (.tmp 34))]⟩,
          ⟨(some 36), none, .append 81 6 64 [(Value.int IntKind.u8 0), (Value.int IntKind.i64 0), (Value.string ⟨#[]⟩), (Value.string ⟨#[]⟩), (Value.int IntKind.i64 0), (Value.int IntKind.i64 0)] (.tmp 33) (.tmp 35)⟩,
          ⟨(some 37), none, .nilck (.tmp 29)⟩,
          ⟨(some 38), none, .fld 3 (.tmp 37)⟩,
          ⟨none, none, .store 1 (.tmp 38) (.tmp 36)⟩]] [6, 10])
      (.seq (.draw [[⟨(some 39), none, .loadN 6 (.tmp 10)⟩,
           ⟨(some 40), none, .fld 5 (.tmp 10)⟩,
           ⟨(some 41), none, .load1 (.tmp 40)⟩,
           ⟨none, none, .store 6 (.tmp 6) (.tmp 39)⟩,
           ⟨(some 7), none, .mv (.tmp 41)⟩],
         [⟨(some 39), none, .loadN 6 (.tmp 10)⟩,
           ⟨(some 40), none, .fld 5 (.tmp 10)⟩,
           ⟨none, none, .store 6 (.tmp 6) (.tmp 39)⟩,
           ⟨(some 41), none, .load1 (.tmp 40)⟩,
           ⟨(some 7), none, .mv (.tmp 41)⟩]] [6, 7])
       .ret)))))))⟩
theorem low46 : lowF Tryz.prog (assoc kp46) (assoc od46) 46 = some F46 := by kernel_rfl

/- (*palaver/world.World).filed -/
def kp48 : List (Nat × List Nat) := [(0, [0, 4, 5, 6]), (1, [6, 7])]
def od48 : List (Nat × List (List Nat)) := []
def F48 : FIR := ⟨14, [.cellN 6 6, .tmp 7],
 (.seq (.reg [⟨(some 4), none, .box 81 (.tmp 1)⟩,
    ⟨(some 5), none, .box 117 (.tmp 2)⟩,
    ⟨(some 6), none, .alloc 81 [(Value.int IntKind.u8 0), (Value.int IntKind.i64 0), (Value.string ⟨#[]⟩), (Value.string ⟨#[]⟩), (Value.int IntKind.i64 0), (Value.int IntKind.i64 0)]⟩,
    ⟨(some 7), none, .mv (.const (Value.int IntKind.i64 0))⟩] [0, 4, 5, 6])
 (.seq (.reg [⟨(some 8), none, .mv (.tmp 0)⟩,
     ⟨(some 9), none, .loadN 6 (.tmp 4)⟩,
     ⟨(some 10), none, .clos (.func 111) [] [(.tmp 5)]⟩,
     ⟨(some 11), none, .call 46 [(.tmp 8), (.tmp 9), (.tmp 10)]⟩,
     ⟨(some 12), none, .ext (.tmp 11) 0⟩,
     ⟨(some 13), none, .ext (.tmp 11) 1⟩,
     ⟨none, none, .store 6 (.tmp 6) (.tmp 12)⟩,
     ⟨(some 7), none, .mv (.tmp 13)⟩] [6, 7])
  .ret))⟩
theorem low48 : lowF Tryz.prog (assoc kp48) (assoc od48) 48 = some F48 := by kernel_rfl

/- (*palaver/world.World).filed$1 -/
def kp111 : List (Nat × List Nat) := [(0, [1, 2, 3]), (1, [1, 2, 3, 9]), (2, [1, 2, 6]), (3, [1, 2, 6, 14]), (4, [5]), (5, [5])]
def od111 : List (Nat × List (List Nat)) := []
def F111 : FIR := ⟨19, [.tmp 5],
 (.seq (.reg [⟨(some 3), none, .box 28 (.tmp 0)⟩,
    ⟨(some 5), none, .mv (.const (Value.int IntKind.i64 0))⟩] [1, 2, 3])
 (.seq (.seq (.reg [⟨(some 7), none, .fld 0 (.tmp 3)⟩,
      ⟨(some 8), none, .load1 (.tmp 7)⟩,
      ⟨(some 9), none, .bin .eql (.tmp 8) (.const (Value.int IntKind.u8 4))⟩] [1, 2, 3, 9])
   (.cond (.tmp 9)
      (.seq (.reg [⟨(some 10), none, .fld 1 (.tmp 3)⟩,
          ⟨(some 11), none, .load1 (.tmp 10)⟩,
          ⟨(some 12), none, .call 103 [(.tmp 11)]⟩,
          ⟨(some 6), none, .mv (.tmp 12)⟩] [1, 2, 6])
       (.seq (.reg [⟨(some 13), none, .mv (.tmp 6)⟩,
           ⟨(some 14), none, .bin .neq (.tmp 13) (.const (Value.int IntKind.i64 0))⟩] [1, 2, 6, 14])
        (.cond (.tmp 14)
           (.seq (.reg [⟨(some 15), none, .mv (.tmp 6)⟩,
               ⟨(some 5), none, .mv (.tmp 15)⟩] [5])
            .ret)
           .skip)))
      .skip))
  (.seq (.reg [⟨(some 16), none, .load1 (.tmp 2)⟩,
      ⟨(some 17), none, .mv (.tmp 1)⟩,
      ⟨(some 18), none, .callv (.tmp 16) [(.tmp 17)]⟩,
      ⟨(some 5), none, .mv (.tmp 18)⟩] [5])
   .ret)))⟩
theorem low111 : lowF Tryz.prog (assoc kp111) (assoc od111) 111 = some F111 := by kernel_rfl

end Go.Proofs.YtklkngccaemjdaaGreat

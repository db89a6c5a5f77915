/-
  The code of functions, as terms: printed by a program, proved to be what the seat has.
-/
import Derived.Test.YtklkngccaemjdaaGreatWM
import Derived.KernelRfl
import Derived.Test.YtklkngccaemjdaaGreatProg
set_option linter.unusedSimpArgs false
set_option linter.unusedVariables false
namespace Go.Proofs.YtklkngccaemjdaaGreat
open Go Go.V
set_option maxRecDepth 100000
/- palaver/world.inName -/
def kp96 : List (Nat × List Nat) := [(0, [0, 7, 8, 13, 14, 19, 20, 25, 26, 29, 30, 33, 34]), (1, [0, 3, 13, 14, 19, 20, 25, 26, 29, 30, 33, 34]), (2, [0, 3, 19, 20, 25, 26, 29, 30, 33, 34]), (3, [0, 3, 25, 26, 29, 30, 33, 34]), (4, [2]), (5, [2])]
def od96 : List (Nat × List (List Nat)) := []
def F96 : FIR := ⟨36, [.tmp 2],
 (.seq (.reg [⟨(some 2), none, .mv (.const (Value.bool false))⟩] [0, 7, 8, 13, 14, 19, 20, 25, 26, 29, 30, 33, 34])
 (.seq (.block 0
    (.seq (.seq (.reg [⟨(some 4), none, .mv (.tmp 0)⟩,
        ⟨(some 5), none, .bin .geq (.tmp 4) (.const (Value.int IntKind.u8 97))⟩,
        ⟨(some 6), none, .mv (.tmp 5)⟩,
        ⟨(some 7), (some (6, true)), .mv (.tmp 0)⟩,
        ⟨(some 8), (some (6, true)), .bin .leq (.tmp 7) (.const (Value.int IntKind.u8 122))⟩,
        ⟨(some 9), none, .pick (.tmp 6) (.tmp 8) (.const (Value.bool false))⟩,
        ⟨(some 3), none, .mv (.tmp 9)⟩] [0, 3, 13, 14, 19, 20, 25, 26, 29, 30, 33, 34])
     (.cond (.tmp 3)
        .skip
        (.seq (.reg [⟨(some 10), none, .mv (.tmp 0)⟩,
            ⟨(some 11), none, .bin .geq (.tmp 10) (.const (Value.int IntKind.u8 65))⟩,
            ⟨(some 12), none, .mv (.tmp 11)⟩,
            ⟨(some 13), (some (12, true)), .mv (.tmp 0)⟩,
            ⟨(some 14), (some (12, true)), .bin .leq (.tmp 13) (.const (Value.int IntKind.u8 90))⟩,
            ⟨(some 15), none, .pick (.tmp 12) (.tmp 14) (.const (Value.bool false))⟩,
            ⟨(some 3), none, .mv (.tmp 15)⟩] [0, 3, 19, 20, 25, 26, 29, 30, 33, 34])
         (.cond (.tmp 3)
            .skip
            (.reg [⟨(some 16), none, .mv (.tmp 0)⟩,
               ⟨(some 17), none, .bin .geq (.tmp 16) (.const (Value.int IntKind.u8 48))⟩,
               ⟨(some 18), none, .mv (.tmp 17)⟩,
               ⟨(some 19), (some (18, true)), .mv (.tmp 0)⟩,
               ⟨(some 20), (some (18, true)), .bin .leq (.tmp 19) (.const (Value.int IntKind.u8 57))⟩,
               ⟨(some 21), none, .pick (.tmp 18) (.tmp 20) (.const (Value.bool false))⟩,
               ⟨(some 3), none, .mv (.tmp 21)⟩] [0, 3, 25, 26, 29, 30, 33, 34])))))
    (.cond (.tmp 3)
       (.seq (.reg [⟨(some 2), none, .mv (.const (Value.bool true))⟩] [2])
        .ret)
       .skip)))
  (.seq (.reg [⟨(some 22), none, .mv (.tmp 0)⟩,
      ⟨(some 23), none, .bin .eql (.tmp 22) (.const (Value.int IntKind.u8 46))⟩,
      ⟨(some 24), none, .mv (.tmp 23)⟩,
      ⟨(some 25), (some (24, false)), .mv (.tmp 0)⟩,
      ⟨(some 26), (some (24, false)), .bin .eql (.tmp 25) (.const (Value.int IntKind.u8 45))⟩,
      ⟨(some 27), none, .pick (.tmp 24) (.const (Value.bool true)) (.tmp 26)⟩,
      ⟨(some 28), none, .mv (.tmp 27)⟩,
      ⟨(some 29), (some (28, false)), .mv (.tmp 0)⟩,
      ⟨(some 30), (some (28, false)), .bin .eql (.tmp 29) (.const (Value.int IntKind.u8 95))⟩,
      ⟨(some 31), none, .pick (.tmp 28) (.const (Value.bool true)) (.tmp 30)⟩,
      ⟨(some 32), none, .mv (.tmp 31)⟩,
      ⟨(some 33), (some (32, false)), .mv (.tmp 0)⟩,
      ⟨(some 34), (some (32, false)), .bin .eql (.tmp 33) (.const (Value.int IntKind.u8 47))⟩,
      ⟨(some 35), none, .pick (.tmp 32) (.const (Value.bool true)) (.tmp 34)⟩,
      ⟨(some 2), none, .mv (.tmp 35)⟩] [2])
   .ret)))⟩
theorem low96 : lowF Tryz.prog (assoc kp96) (assoc od96) 96 = some F96 := by kernel_rfl

/- palaver/world.isName -/
def kp32 : List (Nat × List Nat) := [(0, [0, 19, 20, 21]), (1, [0, 5, 6, 19, 20, 21]), (2, [0, 5, 6, 7, 19, 20, 21]), (3, [0, 3, 5, 6, 19, 20, 21]), (4, [0, 5, 6, 13, 19, 20, 21]), (5, [2]), (6, [0, 5, 6, 19, 20, 21]), (7, [2])]
def od32 : List (Nat × List (List Nat)) := []
def F32 : FIR := ⟨23, [.tmp 2],
 (.seq (.reg [⟨(some 2), none, .mv (.const (Value.bool false))⟩] [0, 19, 20, 21])
 (.seq (.seq (.reg [⟨(some 4), none, .mv (.tmp 0)⟩,
      ⟨(some 5), none, .lenS (.tmp 4)⟩,
      ⟨(some 6), none, .mv (.const (Value.int IntKind.i64 0))⟩] [0, 5, 6, 19, 20, 21])
   (.block 0
     (.loop
      (.seq (.reg [⟨(some 7), none, .bin .lss (.tmp 6) (.tmp 5)⟩] [0, 5, 6, 7, 19, 20, 21])
      (.seq (.cond (.tmp 7)
          .skip
          (.exit 0))
       (.seq (.block 1
          (.seq (.reg [⟨(some 8), none, .mv (.tmp 6)⟩,
             ⟨(some 3), none, .mv (.tmp 8)⟩] [0, 3, 5, 6, 19, 20, 21])
          (.seq (.reg [⟨(some 9), none, .mv (.tmp 0)⟩,
              ⟨(some 10), none, .mv (.tmp 3)⟩,
              ⟨(some 11), none, .idxS (.tmp 9) (.tmp 10)⟩,
              ⟨(some 12), none, .call 96 [(.tmp 11)]⟩,
              ⟨(some 13), none, .un .not (.tmp 12)⟩] [0, 5, 6, 13, 19, 20, 21])
           (.cond (.tmp 13)
              (.seq (.reg [⟨(some 2), none, .mv (.const (Value.bool false))⟩] [2])
               .ret)
              .skip))))
        (.reg [⟨(some 14), none, .bin .add (.tmp 6) (.const (Value.int IntKind.i64 1))⟩,
           ⟨(some 6), none, .mv (.tmp 14)⟩] [0, 5, 6, 19, 20, 21])))))))
  (.seq (.reg [⟨(some 15), none, .mv (.tmp 0)⟩,
      ⟨(some 16), none, .lenS (.tmp 15)⟩,
      ⟨(some 17), none, .bin .geq (.tmp 16) (.const (Value.int IntKind.i64 1))⟩,
      ⟨(some 18), none, .mv (.tmp 17)⟩,
      ⟨(some 19), (some (18, true)), .mv (.tmp 0)⟩,
      ⟨(some 20), (some (18, true)), .lenS (.tmp 19)⟩,
      ⟨(some 21), (some (18, true)), .bin .leq (.tmp 20) (.const (Value.int IntKind.i64 64))⟩,
      ⟨(some 22), none, .pick (.tmp 18) (.tmp 21) (.const (Value.bool false))⟩,
      ⟨(some 2), none, .mv (.tmp 22)⟩] [2])
   .ret)))⟩
theorem low32 : lowF Tryz.prog (assoc kp32) (assoc od32) 32 = some F32 := by kernel_rfl

/- palaver/world.chosen -/
def kp103 : List (Nat × List Nat) := [(0, [0, 6, 7]), (1, [0, 8]), (2, [2]), (3, [2])]
def od103 : List (Nat × List (List Nat)) := []
def F103 : FIR := ⟨10, [.tmp 2],
 (.seq (.reg [⟨(some 2), none, .mv (.const (Value.int IntKind.i64 0))⟩] [0, 6, 7])
 (.seq (.seq (.reg [⟨(some 3), none, .mv (.tmp 0)⟩,
      ⟨(some 4), none, .bin .geq (.tmp 3) (.const (Value.int IntKind.i64 30))⟩,
      ⟨(some 5), none, .mv (.tmp 4)⟩,
      ⟨(some 6), (some (5, true)), .mv (.tmp 0)⟩,
      ⟨(some 7), (some (5, true)), .bin .leq (.tmp 6) (.const (Value.int IntKind.i64 35))⟩,
      ⟨(some 8), none, .pick (.tmp 5) (.tmp 7) (.const (Value.bool false))⟩] [0, 8])
   (.cond (.tmp 8)
      (.seq (.reg [⟨(some 9), none, .mv (.tmp 0)⟩,
          ⟨(some 2), none, .mv (.tmp 9)⟩] [2])
       .ret)
      .skip))
  (.seq (.reg [⟨(some 2), none, .mv (.const (Value.int IntKind.i64 0))⟩] [2])
   .ret)))⟩
theorem low103 : lowF Tryz.prog (assoc kp103) (assoc od103) 103 = some F103 := by kernel_rfl

/- (palaver/world.common).over -/
def kp123 : List (Nat × List Nat) := [(0, [1, 6, 7]), (1, [2])]
def od123 : List (Nat × List (List Nat)) := []
def F123 : FIR := ⟨9, [.tmp 2],
 (.seq (.reg [⟨(some 1), none, .box 114 (.tmp 0)⟩,
    ⟨(some 2), none, .mv (.const (Value.bool false))⟩] [1, 6, 7])
 (.seq (.reg [⟨(some 3), none, .fld 0 (.tmp 1)⟩,
     ⟨(some 4), none, .load1 (.tmp 3)⟩,
     ⟨(some 5), none, .mv (.tmp 4)⟩,
     ⟨(some 6), (some (5, false)), .fld 1 (.tmp 1)⟩,
     ⟨(some 7), (some (5, false)), .load1 (.tmp 6)⟩,
     ⟨(some 8), none, .pick (.tmp 5) (.const (Value.bool true)) (.tmp 7)⟩,
     ⟨(some 2), none, .mv (.tmp 8)⟩] [2])
  .ret))⟩
theorem low123 : lowF Tryz.prog (assoc kp123) (assoc od123) 123 = some F123 := by kernel_rfl

/- (*palaver/world.World).next -/
def kp92 : List (Nat × List Nat) := [(0, [0]), (1, [0]), (2, [2])]
def od92 : List (Nat × List (List Nat)) := []
def F92 : FIR := ⟨14, [.tmp 2],
 (.seq (.reg [⟨(some 2), none, .mv (.const (Value.int IntKind.i64 0))⟩] [0])
 (.seq (.reg [⟨(some 3), none, .mv (.tmp 0)⟩,
     ⟨(some 4), none, .nilck (.tmp 3)⟩,
     ⟨(some 5), none, .fld 5 (.tmp 4)⟩,
     ⟨(some 6), none, .load1 (.tmp 5)⟩,
     ⟨(some 7), none, .bin .add (.tmp 6) (.const (Value.int IntKind.i64 1))⟩,
     ⟨(some 8), none, .nilck (.tmp 3)⟩,
     ⟨(some 9), none, .fld 5 (.tmp 8)⟩,
     ⟨none, none, .store 1 (.tmp 9) (.tmp 7)⟩] [0])
  (.seq (.reg [⟨(some 10), none, .mv (.tmp 0)⟩,
      ⟨(some 11), none, .nilck (.tmp 10)⟩,
      ⟨(some 12), none, .fld 5 (.tmp 11)⟩,
      ⟨(some 13), none, .load1 (.tmp 12)⟩,
      ⟨(some 2), none, .mv (.tmp 13)⟩] [2])
   .ret)))⟩
theorem low92 : lowF Tryz.prog (assoc kp92) (assoc od92) 92 = some F92 := by kernel_rfl

/- (*palaver/world.World).give -/
def kp93 : List (Nat × List Nat) := [(0, [0, 1]), (1, [0]), (2, [4])]
def od93 : List (Nat × List (List Nat)) := []
def F93 : FIR := ⟨20, [.tmp 4],
 (.seq (.reg [⟨(some 4), none, .mv (.const (Value.int IntKind.i64 0))⟩] [0, 1])
 (.seq (.reg [⟨(some 5), none, .mv (.tmp 0)⟩,
     ⟨(some 6), none, .mv (.tmp 0)⟩,
     ⟨(some 7), none, .nilck (.tmp 6)⟩,
     ⟨(some 8), none, .fld 2 (.tmp 7)⟩,
     ⟨(some 9), none, .load1 (.tmp 8)⟩,
     ⟨(some 10), none, .mv (.tmp 1)⟩,
     ⟨(some 11), none, .bslice 110 1 [(Value.pointer none)] [(0, 1, (.tmp 10))]⟩,
     ⟨(some 12), none, .append 110 1 8 [(Value.pointer none)] (.tmp 9) (.tmp 11)⟩,
     ⟨(some 13), none, .nilck (.tmp 5)⟩,
     ⟨(some 14), none, .fld 2 (.tmp 13)⟩,
     ⟨none, none, .store 1 (.tmp 14) (.tmp 12)⟩] [0])
  (.seq (.reg [⟨(some 15), none, .mv (.tmp 0)⟩,
      ⟨(some 16), none, .nilck (.tmp 15)⟩,
      ⟨(some 17), none, .fld 2 (.tmp 16)⟩,
      ⟨(some 18), none, .load1 (.tmp 17)⟩,
      ⟨(some 19), none, .lenL (.tmp 18)⟩,
      ⟨(some 4), none, .mv (.tmp 19)⟩] [4])
   .ret)))⟩
theorem low93 : lowF Tryz.prog (assoc kp93) (assoc od93) 93 = some F93 := by kernel_rfl

/- (*palaver/world.World).used -/
def kp90 : List (Nat × List Nat) := [(0, [0, 2]), (1, [2, 8, 9, 10]), (2, [2, 8, 9, 10, 11]), (3, [2, 4, 8, 9, 10]), (4, [2, 8, 9, 10, 19]), (5, [2, 8, 9, 10]), (6, [2, 8, 9, 10]), (7, [2])]
def od90 : List (Nat × List (List Nat)) := []
def F90 : FIR := ⟨24, [.tmp 2],
 (.seq (.reg [⟨(some 2), none, .mv (.const (Value.int IntKind.i64 0))⟩] [0, 2])
 (.seq (.seq (.reg [⟨(some 5), none, .mv (.tmp 0)⟩,
      ⟨(some 6), none, .nilck (.tmp 5)⟩,
      ⟨(some 7), none, .fld 2 (.tmp 6)⟩,
      ⟨(some 8), none, .load1 (.tmp 7)⟩,
      ⟨(some 9), none, .lenL (.tmp 8)⟩,
      ⟨(some 10), none, .mv (.const (Value.int IntKind.i64 0))⟩] [2, 8, 9, 10])
   (.block 0
     (.loop
      (.seq (.reg [⟨(some 11), none, .bin .lss (.tmp 10) (.tmp 9)⟩] [2, 8, 9, 10, 11])
      (.seq (.cond (.tmp 11)
          .skip
          (.exit 0))
       (.seq (.block 1
          (.seq (.reg [⟨(some 12), none, .idxL 1 (.tmp 8) (.tmp 10)⟩,
             ⟨(some 13), none, .load1 (.tmp 12)⟩,
             ⟨(some 4), none, .mv (.tmp 13)⟩] [2, 4, 8, 9, 10])
          (.seq (.reg [⟨(some 14), none, .mv (.tmp 4)⟩,
              ⟨(some 15), none, .nilck (.tmp 14)⟩,
              ⟨(some 16), none, .fld 0 (.tmp 15)⟩,
              ⟨(some 17), none, .loadN 2 (.tmp 16)⟩,
              ⟨(some 18), none, .call 123 [(.tmp 17)]⟩,
              ⟨(some 19), none, .un .not (.tmp 18)⟩] [2, 8, 9, 10, 19])
           (.cond (.tmp 19)
              (.reg [⟨(some 20), none, .mv (.tmp 2)⟩,
                 ⟨(some 21), none, .bin .add (.tmp 20) (.const (Value.int IntKind.i64 1))⟩,
                 ⟨(some 2), none, .mv (.tmp 21)⟩] [2, 8, 9, 10])
              .skip))))
        (.reg [⟨(some 22), none, .bin .add (.tmp 10) (.const (Value.int IntKind.i64 1))⟩,
           ⟨(some 10), none, .mv (.tmp 22)⟩] [2, 8, 9, 10])))))))
  (.seq (.reg [⟨(some 23), none, .mv (.tmp 2)⟩,
      ⟨(some 2), none, .mv (.tmp 23)⟩] [2])
   .ret)))⟩
theorem low90 : lowF Tryz.prog (assoc kp90) (assoc od90) 90 = some F90 := by kernel_rfl

/- (*palaver/world.World).any -/
def kp50 : List (Nat × List Nat) := [(0, [0, 1, 9, 10, 11, 12, 13, 14, 15, 18, 19, 20, 21, 22, 23, 24, 25, 26, 27, 28, 29]), (1, [0, 1, 30]), (2, [4, 5]), (3, [4, 5])]
def od50 : List (Nat × List (List Nat)) := []
def F50 : FIR := ⟨39, [.tmp 4, .tmp 5],
 (.seq (.reg [⟨(some 4), none, .mv (.const (Value.pointer none))⟩,
    ⟨(some 5), none, .mv (.const (Value.int IntKind.i64 0))⟩] [0, 1, 9, 10, 11, 12, 13, 14, 15, 18, 19, 20, 21, 22, 23, 24, 25, 26, 27, 28, 29])
 (.seq (.seq (.reg [⟨(some 6), none, .mv (.tmp 1)⟩,
      ⟨(some 7), none, .bin .lss (.tmp 6) (.const (Value.int IntKind.i64 1))⟩,
      ⟨(some 8), none, .mv (.tmp 7)⟩,
      ⟨(some 9), (some (8, false)), .mv (.tmp 1)⟩,
      ⟨(some 10), (some (8, false)), .mv (.tmp 0)⟩,
      ⟨(some 11), (some (8, false)), .nilck (.tmp 10)⟩,
      ⟨(some 12), (some (8, false)), .fld 2 (.tmp 11)⟩,
      ⟨(some 13), (some (8, false)), .load1 (.tmp 12)⟩,
      ⟨(some 14), (some (8, false)), .lenL (.tmp 13)⟩,
      ⟨(some 15), (some (8, false)), .bin .gtr (.tmp 9) (.tmp 14)⟩,
      ⟨(some 16), none, .pick (.tmp 8) (.const (Value.bool true)) (.tmp 15)⟩,
      ⟨(some 17), none, .mv (.tmp 16)⟩,
      ⟨(some 18), (some (17, false)), .mv (.tmp 0)⟩,
      ⟨(some 19), (some (17, false)), .nilck (.tmp 18)⟩,
      ⟨(some 20), (some (17, false)), .fld 2 (.tmp 19)⟩,
      ⟨(some 21), (some (17, false)), .load1 (.tmp 20)⟩,
      ⟨(some 22), (some (17, false)), .mv (.tmp 1)⟩,
      ⟨(some 23), (some (17, false)), .bin .sub (.tmp 22) (.const (Value.int IntKind.i64 1))⟩,
      ⟨(some 24), (some (17, false)), .idxL 1 (.tmp 21) (.tmp 23)⟩,
      ⟨(some 25), (some (17, false)), .load1 (.tmp 24)⟩,
      ⟨(some 26), (some (17, false)), .nilck (.tmp 25)⟩,
      ⟨(some 27), (some (17, false)), .fld 0 (.tmp 26)⟩,
      ⟨(some 28), (some (17, false)), .fld 0 (.tmp 27)⟩,
      ⟨(some 29), (some (17, false)), .load1 (.tmp 28)⟩,
      ⟨(some 30), none, .pick (.tmp 17) (.const (Value.bool true)) (.tmp 29)⟩] [0, 1, 30])
   (.cond (.tmp 30)
      (.seq (.reg [⟨(some 4), none, .mv (.const (Value.pointer none))⟩,
          ⟨(some 5), none, .mv (.const (Value.int IntKind.i64 30))⟩] [4, 5])
       .ret)
      .skip))
  (.seq (.reg [⟨(some 31), none, .mv (.tmp 0)⟩,
      ⟨(some 32), none, .nilck (.tmp 31)⟩,
      ⟨(some 33), none, .fld 2 (.tmp 32)⟩,
      ⟨(some 34), none, .load1 (.tmp 33)⟩,
      ⟨(some 35), none, .mv (.tmp 1)⟩,
      ⟨(some 36), none, .bin .sub (.tmp 35) (.const (Value.int IntKind.i64 1))⟩,
      ⟨(some 37), none, .idxL 1 (.tmp 34) (.tmp 36)⟩,
      ⟨(some 38), none, .load1 (.tmp 37)⟩,
      ⟨(some 4), none, .mv (.tmp 38)⟩,
      ⟨(some 5), none, .mv (.const (Value.int IntKind.i64 0))⟩] [4, 5])
   .ret)))⟩
theorem low50 : lowF Tryz.prog (assoc kp50) (assoc od50) 50 = some F50 := by kernel_rfl

/- (*palaver/world.World).held -/
def kp51 : List (Nat × List Nat) := [(0, [0, 1, 2]), (1, [2, 8, 9]), (2, [2, 8, 9, 16]), (3, [6, 7]), (4, [8, 20]), (5, [6, 7]), (6, [8, 28]), (7, [6, 7]), (8, [6, 7])]
def od51 : List (Nat × List (List Nat)) := []
def F51 : FIR := ⟨35, [.tmp 6, .tmp 7],
 (.seq (.reg [⟨(some 6), none, .mv (.const (Value.pointer none))⟩,
    ⟨(some 7), none, .mv (.const (Value.int IntKind.i64 0))⟩] [0, 1, 2])
 (.seq (.reg [⟨(some 11), none, .mv (.tmp 0)⟩,
     ⟨(some 12), none, .mv (.tmp 1)⟩,
     ⟨(some 13), none, .call 50 [(.tmp 11), (.tmp 12)]⟩,
     ⟨(some 10), none, .mv (.tmp 13)⟩,
     ⟨(some 14), none, .ext (.tmp 10) 0⟩,
     ⟨(some 15), none, .ext (.tmp 10) 1⟩,
     ⟨(some 8), none, .mv (.tmp 14)⟩,
     ⟨(some 9), none, .mv (.tmp 15)⟩] [2, 8, 9])
  (.seq (.block 0
     (.seq (.reg [⟨(some 17), none, .mv (.tmp 9)⟩,
        ⟨(some 18), none, .bin .neq (.tmp 17) (.const (Value.int IntKind.i64 0))⟩,
        ⟨(some 16), none, .mv (.tmp 18)⟩] [2, 8, 9, 16])
     (.cond (.tmp 16)
        (.seq (.reg [⟨(some 19), none, .mv (.tmp 9)⟩,
            ⟨(some 6), none, .mv (.const (Value.pointer none))⟩,
            ⟨(some 7), none, .mv (.tmp 19)⟩] [6, 7])
         .ret)
        (.seq (.reg [⟨(some 21), none, .mv (.tmp 8)⟩,
            ⟨(some 22), none, .nilck (.tmp 21)⟩,
            ⟨(some 23), none, .fld 2 (.tmp 22)⟩,
            ⟨(some 24), none, .load1 (.tmp 23)⟩,
            ⟨(some 25), none, .eqnil false .ptr (.tmp 24)⟩,
            ⟨(some 26), none, .mv (.tmp 2)⟩,
            ⟨(some 27), none, .eqb true (.tmp 25) (.tmp 26)⟩,
            ⟨(some 20), none, .mv (.tmp 27)⟩] [8, 20])
         (.cond (.tmp 20)
            (.seq (.reg [⟨(some 6), none, .mv (.const (Value.pointer none))⟩,
                ⟨(some 7), none, .mv (.const (Value.int IntKind.i64 30))⟩] [6, 7])
             .ret)
            (.seq (.reg [⟨(some 29), none, .mv (.tmp 8)⟩,
                ⟨(some 30), none, .nilck (.tmp 29)⟩,
                ⟨(some 31), none, .fld 0 (.tmp 30)⟩,
                ⟨(some 32), none, .fld 1 (.tmp 31)⟩,
                ⟨(some 33), none, .load1 (.tmp 32)⟩,
                ⟨(some 28), none, .mv (.tmp 33)⟩] [8, 28])
             (.cond (.tmp 28)
                (.seq (.reg [⟨(some 6), none, .mv (.const (Value.pointer none))⟩,
                    ⟨(some 7), none, .mv (.const (Value.int IntKind.i64 31))⟩] [6, 7])
                 .ret)
                .skip)))))))
   (.seq (.reg [⟨(some 34), none, .mv (.tmp 8)⟩,
       ⟨(some 6), none, .mv (.tmp 34)⟩,
       ⟨(some 7), none, .mv (.const (Value.int IntKind.i64 0))⟩] [6, 7])
    .ret))))⟩
theorem low51 : lowF Tryz.prog (assoc kp51) (assoc od51) 51 = some F51 := by kernel_rfl

/- (*palaver/world.World).take -/
def kp110 : List (Nat × List Nat) := [(0, [0, 2]), (1, [0, 2, 7]), (2, [2, 3]), (3, [0, 2, 14]), (4, [0, 2]), (5, [0, 2]), (6, [2, 3])]
def od110 : List (Nat × List (List Nat)) := [(4, [[0, 1, 2, 3, 4, 5, 6, 7, 8, 9, 10, 11, 12, 13, 14, 15], [0, 1, 2, 3, 4, 5, 6, 7, 8, 9, 12, 10, 11, 13, 14, 15]]), (6, [[0, 1, 2, 3, 4, 5, 6, 7], [0, 1, 2, 3, 6, 4, 5, 7]])]
def F110 : FIR := ⟨41, [.cellN 2 3, .tmp 3],
 (.seq (.reg [⟨(some 2), none, .alloc 28 [(Value.int IntKind.u8 0), (Value.int IntKind.i64 0), (Value.string ⟨#[]⟩)]⟩,
    ⟨(some 3), none, .mv (.const (Value.bool false))⟩] [0, 2])
 (.seq (.seq (.reg [⟨(some 4), none, .mv (.tmp 0)⟩,
      ⟨(some 5), none, .nilck (.tmp 4)⟩,
      ⟨(some 6), none, .fld 6 (.tmp 5)⟩,
      ⟨(some 7), none, .load1 (.tmp 6)⟩] [0, 2, 7])
   (.cond (.tmp 7)
      (.seq (.reg [⟨(some 8), none, .loadN 3 (.tmp 2)⟩,
          ⟨none, none, .store 3 (.tmp 2) (.tmp 8)⟩,
          ⟨(some 3), none, .mv (.const (Value.bool false))⟩] [2, 3])
       .ret)
      .skip))
  (.seq (.seq (.reg [⟨(some 9), none, .mv (.tmp 0)⟩,
       ⟨(some 10), none, .nilck (.tmp 9)⟩,
       ⟨(some 11), none, .fld 0 (.tmp 10)⟩,
       ⟨(some 12), none, .load1 (.tmp 11)⟩,
       ⟨(some 13), none, .lenL (.tmp 12)⟩,
       ⟨(some 14), none, .bin .gtr (.tmp 13) (.const (Value.int IntKind.i64 0))⟩] [0, 2, 14])
    (.cond (.tmp 14)
       (.draw [[⟨(some 15), none, .mv (.tmp 0)⟩,
           ⟨(some 16), none, .mv (.tmp 0)⟩,
           ⟨(some 17), none, .nilck (.tmp 16)⟩,
           ⟨(some 18), none, .fld 0 (.tmp 17)⟩,
           ⟨(some 19), none, .load1 (.tmp 18)⟩,
           ⟨(some 20), none, .idxL 3 (.tmp 19) (.const (Value.int IntKind.i64 0))⟩,
           ⟨(some 21), none, .loadN 3 (.tmp 20)⟩,
           ⟨(some 22), none, .mv (.tmp 0)⟩,
           ⟨(some 23), none, .nilck (.tmp 22)⟩,
           ⟨(some 24), none, .fld 0 (.tmp 23)⟩,
           ⟨(some 25), none, .load1 (.tmp 24)⟩,
           ⟨(some 26), none, .slcL 3 (.tmp 25) (some (.const (Value.int IntKind.i64 1))) none none⟩,
           ⟨none, none, .store 3 (.tmp 2) (.tmp 21)⟩,
           ⟨(some 27), none, .nilck (.tmp 15)⟩,
           ⟨(some 28), none, .fld 0 (.tmp 27)⟩,
           ⟨none, none, .store 1 (.tmp 28) (.tmp 26)⟩],
         [⟨(some 15), none, .mv (.tmp 0)⟩,
           ⟨(some 16), none, .mv (.tmp 0)⟩,
           ⟨(some 17), none, .nilck (.tmp 16)⟩,
           ⟨(some 18), none, .fld 0 (.tmp 17)⟩,
           ⟨(some 19), none, .load1 (.tmp 18)⟩,
           ⟨(some 20), none, .idxL 3 (.tmp 19) (.const (Value.int IntKind.i64 0))⟩,
           ⟨(some 21), none, .loadN 3 (.tmp 20)⟩,
           ⟨(some 22), none, .mv (.tmp 0)⟩,
           ⟨(some 23), none, .nilck (.tmp 22)⟩,
           ⟨(some 24), none, .fld 0 (.tmp 23)⟩,
           ⟨none, none, .store 3 (.tmp 2) (.tmp 21)⟩,
           ⟨(some 25), none, .load1 (.tmp 24)⟩,
           ⟨(some 26), none, .slcL 3 (.tmp 25) (some (.const (Value.int IntKind.i64 1))) none none⟩,
           ⟨(some 27), none, .nilck (.tmp 15)⟩,
           ⟨(some 28), none, .fld 0 (.tmp 27)⟩,
           ⟨none, none, .store 1 (.tmp 28) (.tmp 26)⟩]] [0, 2])
       .skip))
   (.seq (.reg [⟨(some 29), none, .mv (.tmp 0)⟩,
       ⟨(some 30), none, .fld 0 (.tmp 2)⟩,
       ⟨(some 31), none, .load1 (.tmp 30)⟩,
       ⟨(some 32), none, .bin .eql (.tmp 31) (.const (Value.int IntKind.u8 5))⟩,
       ⟨(some 33), none, .nilck (.tmp 29)⟩,
       ⟨(some 34), none, .fld 6 (.tmp 33)⟩,
       ⟨none, none, .store 1 (.tmp 34) (.tmp 32)⟩] [0, 2])
    (.seq (.draw [[⟨(some 35), none, .loadN 3 (.tmp 2)⟩,
         ⟨(some 36), none, .mv (.tmp 0)⟩,
         ⟨(some 37), none, .nilck (.tmp 36)⟩,
         ⟨(some 38), none, .fld 6 (.tmp 37)⟩,
         ⟨(some 39), none, .load1 (.tmp 38)⟩,
         ⟨(some 40), none, .un .not (.tmp 39)⟩,
         ⟨none, none, .store 3 (.tmp 2) (.tmp 35)⟩,
         ⟨(some 3), none, .mv (.tmp 40)⟩],
       [⟨(some 35), none, .loadN 3 (.tmp 2)⟩,
         ⟨(some 36), none, .mv (.tmp 0)⟩,
         ⟨(some 37), none, .nilck (.tmp 36)⟩,
         ⟨(some 38), none, .fld 6 (.tmp 37)⟩,
         ⟨none, none, .store 3 (.tmp 2) (.tmp 35)⟩,
         ⟨(some 39), none, .load1 (.tmp 38)⟩,
         ⟨(some 40), none, .un .not (.tmp 39)⟩,
         ⟨(some 3), none, .mv (.tmp 40)⟩]] [2, 3])
     .ret)))))⟩
theorem low110 : lowF Tryz.prog (assoc kp110) (assoc od110) 110 = some F110 := by kernel_rfl

end Go.Proofs.YtklkngccaemjdaaGreat

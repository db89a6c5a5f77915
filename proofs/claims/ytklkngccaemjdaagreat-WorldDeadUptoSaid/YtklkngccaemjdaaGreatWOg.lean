/-
  The code of functions, as terms: printed by a program, proved to be what the seat has.
-/
import Derived.Test.YtklkngccaemjdaaGreatWOe
import Derived.KernelRfl
import Derived.Test.YtklkngccaemjdaaGreatProg
set_option linter.unusedSimpArgs false
set_option linter.unusedVariables false
namespace Go.Proofs.YtklkngccaemjdaaGreat
open Go Go.V
set_option maxRecDepth 100000
/- palaver/palaverlaw03.call -/
def kp7 : List (Nat × List Nat) := [(0, [0, 3]), (1, [0, 3, 5]), (2, [0, 3, 5, 7]), (3, [0, 3, 5, 7, 8]), (4, [5]), (5, [0, 3, 5, 7, 19]), (6, [5]), (7, [0, 3, 5, 7, 30]), (8, [5]), (9, [0, 3, 5, 7, 38]), (10, [5]), (11, [0, 3, 5, 7, 46]), (12, [5]), (13, [0, 3, 5, 7, 52]), (14, [5]), (15, [0, 3, 5, 7, 58]), (16, [5]), (17, [0, 3, 5, 7, 66]), (18, [5]), (19, [0, 3, 5, 7, 72]), (20, [5]), (21, [0, 3, 5, 7, 79]), (22, [5]), (23, [0, 3, 5, 7, 88]), (24, [5]), (25, [0, 3, 5, 7, 96]), (26, [5]), (27, [0, 3, 5, 7, 107]), (28, [5]), (29, [0, 3, 5, 113]), (30, [5]), (31, [4])]
def od7 : List (Nat × List (List Nat)) := []
def F7 : FIR := ⟨120, [.tmp 4],
 (.seq (.reg [⟨(some 3), none, .box 35 (.tmp 1)⟩,
    ⟨(some 4), none, .mv (.const (Value.int IntKind.i64 0))⟩] [0, 3])
 (.seq (.reg [⟨(some 5), none, .mv (.const (Value.int IntKind.i64 0))⟩] [0, 3, 5])
  (.seq (.seq (.reg [⟨(some 6), none, .fld 0 (.tmp 3)⟩,
       ⟨(some 7), none, .load1 (.tmp 6)⟩] [0, 3, 5, 7])
    (.block 0
      (.seq (.reg [⟨(some 9), none, .bin .eql (.tmp 7) (.const (Value.int IntKind.i64 1))⟩,
         ⟨(some 8), none, .mv (.tmp 9)⟩] [0, 3, 5, 7, 8])
      (.cond (.tmp 8)
         (.reg [⟨(some 11), none, .mv (.tmp 0)⟩,
            ⟨(some 12), none, .fld 1 (.tmp 3)⟩,
            ⟨(some 13), none, .load1 (.tmp 12)⟩,
            ⟨(some 14), none, .fld 3 (.tmp 3)⟩,
            ⟨(some 15), none, .load1 (.tmp 14)⟩,
            ⟨(some 16), none, .call 29 [(.tmp 11), (.tmp 13), (.tmp 15)]⟩,
            ⟨(some 10), none, .mv (.tmp 16)⟩,
            ⟨(some 17), none, .ext (.tmp 10) 0⟩,
            ⟨(some 18), none, .ext (.tmp 10) 1⟩,
            ⟨(some 5), none, .mv (.tmp 18)⟩] [5])
         (.seq (.reg [⟨(some 20), none, .bin .eql (.tmp 7) (.const (Value.int IntKind.i64 2))⟩,
             ⟨(some 19), none, .mv (.tmp 20)⟩] [0, 3, 5, 7, 19])
          (.cond (.tmp 19)
             (.reg [⟨(some 22), none, .mv (.tmp 0)⟩,
                ⟨(some 23), none, .fld 3 (.tmp 3)⟩,
                ⟨(some 24), none, .load1 (.tmp 23)⟩,
                ⟨(some 25), none, .fld 4 (.tmp 3)⟩,
                ⟨(some 26), none, .load1 (.tmp 25)⟩,
                ⟨(some 27), none, .call 30 [(.tmp 22), (.tmp 24), (.tmp 26)]⟩,
                ⟨(some 21), none, .mv (.tmp 27)⟩,
                ⟨(some 28), none, .ext (.tmp 21) 0⟩,
                ⟨(some 29), none, .ext (.tmp 21) 1⟩,
                ⟨(some 5), none, .mv (.tmp 29)⟩] [5])
             (.seq (.reg [⟨(some 31), none, .bin .eql (.tmp 7) (.const (Value.int IntKind.i64 3))⟩,
                 ⟨(some 30), none, .mv (.tmp 31)⟩] [0, 3, 5, 7, 30])
              (.cond (.tmp 30)
                 (.reg [⟨(some 32), none, .mv (.tmp 0)⟩,
                    ⟨(some 33), none, .fld 3 (.tmp 3)⟩,
                    ⟨(some 34), none, .load1 (.tmp 33)⟩,
                    ⟨(some 35), none, .fld 2 (.tmp 3)⟩,
                    ⟨(some 36), none, .load1 (.tmp 35)⟩,
                    ⟨(some 37), none, .call 31 [(.tmp 32), (.tmp 34), (.tmp 36)]⟩,
                    ⟨(some 5), none, .mv (.tmp 37)⟩] [5])
                 (.seq (.reg [⟨(some 39), none, .bin .eql (.tmp 7) (.const (Value.int IntKind.i64 4))⟩,
                     ⟨(some 38), none, .mv (.tmp 39)⟩] [0, 3, 5, 7, 38])
                  (.cond (.tmp 38)
                     (.reg [⟨(some 40), none, .mv (.tmp 0)⟩,
                        ⟨(some 41), none, .fld 3 (.tmp 3)⟩,
                        ⟨(some 42), none, .load1 (.tmp 41)⟩,
                        ⟨(some 43), none, .fld 4 (.tmp 3)⟩,
                        ⟨(some 44), none, .load1 (.tmp 43)⟩,
                        ⟨(some 45), none, .call 34 [(.tmp 40), (.tmp 42), (.tmp 44)]⟩,
                        ⟨(some 5), none, .mv (.tmp 45)⟩] [5])
                     (.seq (.reg [⟨(some 47), none, .bin .eql (.tmp 7) (.const (Value.int IntKind.i64 5))⟩,
                         ⟨(some 46), none, .mv (.tmp 47)⟩] [0, 3, 5, 7, 46])
                      (.cond (.tmp 46)
                         (.reg [⟨(some 48), none, .mv (.tmp 0)⟩,
                            ⟨(some 49), none, .fld 3 (.tmp 3)⟩,
                            ⟨(some 50), none, .load1 (.tmp 49)⟩,
                            ⟨(some 51), none, .call 35 [(.tmp 48), (.tmp 50)]⟩,
                            ⟨(some 5), none, .mv (.tmp 51)⟩] [5])
                         (.seq (.reg [⟨(some 53), none, .bin .eql (.tmp 7) (.const (Value.int IntKind.i64 6))⟩,
                             ⟨(some 52), none, .mv (.tmp 53)⟩] [0, 3, 5, 7, 52])
                          (.cond (.tmp 52)
                             (.reg [⟨(some 54), none, .mv (.tmp 0)⟩,
                                ⟨(some 55), none, .fld 3 (.tmp 3)⟩,
                                ⟨(some 56), none, .load1 (.tmp 55)⟩,
                                ⟨(some 57), none, .call 12 [(.tmp 54), (.tmp 56)]⟩,
                                ⟨(some 5), none, .mv (.tmp 57)⟩] [5])
                             (.seq (.reg [⟨(some 59), none, .bin .eql (.tmp 7) (.const (Value.int IntKind.i64 7))⟩,
                                 ⟨(some 58), none, .mv (.tmp 59)⟩] [0, 3, 5, 7, 58])
                              (.cond (.tmp 58)
                                 (.reg [⟨(some 60), none, .mv (.tmp 0)⟩,
                                    ⟨(some 61), none, .fld 1 (.tmp 3)⟩,
                                    ⟨(some 62), none, .load1 (.tmp 61)⟩,
                                    ⟨(some 63), none, .fld 2 (.tmp 3)⟩,
                                    ⟨(some 64), none, .load1 (.tmp 63)⟩,
                                    ⟨(some 65), none, .call 36 [(.tmp 60), (.tmp 62), (.tmp 64)]⟩,
                                    ⟨(some 5), none, .mv (.tmp 65)⟩] [5])
                                 (.seq (.reg [⟨(some 67), none, .bin .eql (.tmp 7) (.const (Value.int IntKind.i64 8))⟩,
                                     ⟨(some 66), none, .mv (.tmp 67)⟩] [0, 3, 5, 7, 66])
                                  (.cond (.tmp 66)
                                     (.reg [⟨(some 68), none, .mv (.tmp 0)⟩,
                                        ⟨(some 69), none, .fld 1 (.tmp 3)⟩,
                                        ⟨(some 70), none, .load1 (.tmp 69)⟩,
                                        ⟨(some 71), none, .call 37 [(.tmp 68), (.tmp 70)]⟩,
                                        ⟨(some 5), none, .mv (.tmp 71)⟩] [5])
                                     (.seq (.reg [⟨(some 73), none, .bin .eql (.tmp 7) (.const (Value.int IntKind.i64 9))⟩,
                                         ⟨(some 72), none, .mv (.tmp 73)⟩] [0, 3, 5, 7, 72])
                                      (.cond (.tmp 72)
                                         (.reg [⟨(some 75), none, .mv (.tmp 0)⟩,
                                            ⟨(some 76), none, .call 38 [(.tmp 75)]⟩,
                                            ⟨(some 74), none, .mv (.tmp 76)⟩,
                                            ⟨(some 77), none, .ext (.tmp 74) 0⟩,
                                            ⟨(some 78), none, .ext (.tmp 74) 1⟩,
                                            ⟨(some 5), none, .mv (.tmp 78)⟩] [5])
                                         (.seq (.reg [⟨(some 80), none, .bin .eql (.tmp 7) (.const (Value.int IntKind.i64 10))⟩,
                                             ⟨(some 79), none, .mv (.tmp 80)⟩] [0, 3, 5, 7, 79])
                                          (.cond (.tmp 79)
                                             (.reg [⟨(some 82), none, .mv (.tmp 0)⟩,
                                                ⟨(some 83), none, .fld 1 (.tmp 3)⟩,
                                                ⟨(some 84), none, .load1 (.tmp 83)⟩,
                                                ⟨(some 85), none, .call 39 [(.tmp 82), (.tmp 84)]⟩,
                                                ⟨(some 81), none, .mv (.tmp 85)⟩,
                                                ⟨(some 86), none, .ext (.tmp 81) 0⟩,
                                                ⟨(some 87), none, .ext (.tmp 81) 1⟩,
                                                ⟨(some 5), none, .mv (.tmp 87)⟩] [5])
                                             (.seq (.reg [⟨(some 89), none, .bin .eql (.tmp 7) (.const (Value.int IntKind.i64 11))⟩,
                                                 ⟨(some 88), none, .mv (.tmp 89)⟩] [0, 3, 5, 7, 88])
                                              (.cond (.tmp 88)
                                                 (.reg [⟨(some 90), none, .mv (.tmp 0)⟩,
                                                    ⟨(some 91), none, .fld 3 (.tmp 3)⟩,
                                                    ⟨(some 92), none, .load1 (.tmp 91)⟩,
                                                    ⟨(some 93), none, .fld 2 (.tmp 3)⟩,
                                                    ⟨(some 94), none, .load1 (.tmp 93)⟩,
                                                    ⟨(some 95), none, .call 40 [(.tmp 90), (.tmp 92), (.tmp 94)]⟩,
                                                    ⟨(some 5), none, .mv (.tmp 95)⟩] [5])
                                                 (.seq (.reg [⟨(some 97), none, .bin .eql (.tmp 7) (.const (Value.int IntKind.i64 12))⟩,
                                                     ⟨(some 96), none, .mv (.tmp 97)⟩] [0, 3, 5, 7, 96])
                                                  (.cond (.tmp 96)
                                                     (.reg [⟨(some 99), none, .mv (.tmp 0)⟩,
                                                        ⟨(some 100), none, .fld 3 (.tmp 3)⟩,
                                                        ⟨(some 101), none, .load1 (.tmp 100)⟩,
                                                        ⟨(some 102), none, .fld 4 (.tmp 3)⟩,
                                                        ⟨(some 103), none, .load1 (.tmp 102)⟩,
                                                        ⟨(some 104), none, .call 41 [(.tmp 99), (.tmp 101), (.tmp 103)]⟩,
                                                        ⟨(some 98), none, .mv (.tmp 104)⟩,
                                                        ⟨(some 105), none, .ext (.tmp 98) 0⟩,
                                                        ⟨(some 106), none, .ext (.tmp 98) 1⟩,
                                                        ⟨(some 5), none, .mv (.tmp 106)⟩] [5])
                                                     (.seq (.reg [⟨(some 108), none, .bin .eql (.tmp 7) (.const (Value.int IntKind.i64 13))⟩,
                                                         ⟨(some 107), none, .mv (.tmp 108)⟩] [0, 3, 5, 7, 107])
                                                      (.cond (.tmp 107)
                                                         (.reg [⟨(some 109), none, .mv (.tmp 0)⟩,
                                                            ⟨(some 110), none, .fld 2 (.tmp 3)⟩,
                                                            ⟨(some 111), none, .load1 (.tmp 110)⟩,
                                                            ⟨(some 112), none, .call 11 [(.tmp 109), (.tmp 111)]⟩,
                                                            ⟨(some 5), none, .mv (.tmp 112)⟩] [5])
                                                         (.seq (.reg [⟨(some 114), none, .bin .eql (.tmp 7) (.const (Value.int IntKind.i64 14))⟩,
                                                             ⟨(some 113), none, .mv (.tmp 114)⟩] [0, 3, 5, 113])
                                                          (.cond (.tmp 113)
                                                             (.reg [⟨(some 115), none, .mv (.tmp 0)⟩,
                                                                ⟨(some 116), none, .fld 4 (.tmp 3)⟩,
                                                                ⟨(some 117), none, .load1 (.tmp 116)⟩,
                                                                ⟨(some 118), none, .call 42 [(.tmp 115), (.tmp 117)]⟩,
                                                                ⟨(some 5), none, .mv (.tmp 118)⟩] [5])
                                                             .skip))))))))))))))))))))))))))))))
   (.seq (.reg [⟨(some 119), none, .mv (.tmp 5)⟩,
       ⟨(some 4), none, .mv (.tmp 119)⟩] [4])
    .ret))))⟩
theorem low7 : lowF Tryz.prog (assoc kp7) (assoc od7) 7 = some F7 := by kernel_rfl

/- palaver/palaverref00.SameFiles -/
def kp16 : List (Nat × List Nat) := [(0, [0, 1]), (1, [0, 1, 10]), (2, [4]), (3, [0, 1, 5]), (4, [0, 1, 5, 14]), (5, [0, 1, 5]), (6, [0, 1, 5, 25]), (7, [4]), (8, [4])]
def od16 : List (Nat × List (List Nat)) := [(6, [[0, 1, 2, 3, 4, 5, 6, 7, 8]])]
def F16 : FIR := ⟨26, [.tmp 4],
 (.seq (.reg [⟨(some 4), none, .mv (.const (Value.bool false))⟩] [0, 1])
 (.seq (.seq (.reg [⟨(some 6), none, .mv (.tmp 0)⟩,
      ⟨(some 7), none, .lenL (.tmp 6)⟩,
      ⟨(some 8), none, .mv (.tmp 1)⟩,
      ⟨(some 9), none, .lenL (.tmp 8)⟩,
      ⟨(some 10), none, .bin .neq (.tmp 7) (.tmp 9)⟩] [0, 1, 10])
   (.cond (.tmp 10)
      (.seq (.reg [⟨(some 4), none, .mv (.const (Value.bool false))⟩] [4])
       .ret)
      .skip))
  (.seq (.seq (.reg [⟨(some 5), none, .mv (.const (Value.int IntKind.i64 0))⟩] [0, 1, 5])
    (.block 0
      (.loop
       (.seq (.seq (.reg [⟨(some 11), none, .mv (.tmp 5)⟩,
           ⟨(some 12), none, .mv (.tmp 0)⟩,
           ⟨(some 13), none, .lenL (.tmp 12)⟩,
           ⟨(some 14), none, .bin .lss (.tmp 11) (.tmp 13)⟩] [0, 1, 5, 14])
        (.cond (.tmp 14)
           .skip
           (.exit 0)))
       (.seq (.block 1
          (.seq (.draw [[⟨(some 17), none, .mv (.tmp 0)⟩,
              ⟨(some 18), none, .mv (.tmp 5)⟩,
              ⟨(some 19), none, .idxL 2 (.tmp 17) (.tmp 18)⟩,
              ⟨(some 20), none, .loadN 2 (.tmp 19)⟩,
              ⟨(some 21), none, .mv (.tmp 1)⟩,
              ⟨(some 22), none, .mv (.tmp 5)⟩,
              ⟨(some 23), none, .idxL 2 (.tmp 21) (.tmp 22)⟩,
              ⟨(some 24), none, .loadN 2 (.tmp 23)⟩,
              ⟨(some 25), none, .eqagg true [.str, .str] (.tmp 20) (.tmp 24)⟩]] [0, 1, 5, 25])
          (.cond (.tmp 25)
             (.seq (.reg [⟨(some 4), none, .mv (.const (Value.bool false))⟩] [4])
              .ret)
             .skip)))
        (.reg [⟨(some 15), none, .mv (.tmp 5)⟩,
           ⟨(some 16), none, .bin .add (.tmp 15) (.const (Value.int IntKind.i64 1))⟩,
           ⟨(some 5), none, .mv (.tmp 16)⟩] [0, 1, 5]))))))
   (.seq (.reg [⟨(some 4), none, .mv (.const (Value.bool true))⟩] [4])
    .ret))))⟩
theorem low16 : lowF Tryz.prog (assoc kp16) (assoc od16) 16 = some F16 := by kernel_rfl

/- (*palaver/world.World).Signal -/
def kp14 : List (Nat × List Nat) := [(0, [0, 10, 11, 12, 13, 14, 15, 18, 19, 20, 21, 22, 23, 24, 25]), (1, [0, 26]), (2, [2, 3]), (3, [0, 4]), (4, [4]), (5, [2, 3])]
def od14 : List (Nat × List (List Nat)) := []
def F14 : FIR := ⟨43, [.tmp 2, .tmp 3],
 (.seq (.reg [⟨(some 2), none, .mv (.const (Value.int IntKind.i64 0))⟩,
    ⟨(some 3), none, .mv (.const (Value.bool false))⟩] [0, 10, 11, 12, 13, 14, 15, 18, 19, 20, 21, 22, 23, 24, 25])
 (.seq (.seq (.reg [⟨(some 5), none, .mv (.tmp 0)⟩,
      ⟨(some 6), none, .nilck (.tmp 5)⟩,
      ⟨(some 7), none, .fld 6 (.tmp 6)⟩,
      ⟨(some 8), none, .load1 (.tmp 7)⟩,
      ⟨(some 9), none, .mv (.tmp 8)⟩,
      ⟨(some 10), (some (9, false)), .mv (.tmp 0)⟩,
      ⟨(some 11), (some (9, false)), .nilck (.tmp 10)⟩,
      ⟨(some 12), (some (9, false)), .fld 0 (.tmp 11)⟩,
      ⟨(some 13), (some (9, false)), .load1 (.tmp 12)⟩,
      ⟨(some 14), (some (9, false)), .lenL (.tmp 13)⟩,
      ⟨(some 15), (some (9, false)), .bin .eql (.tmp 14) (.const (Value.int IntKind.i64 0))⟩,
      ⟨(some 16), none, .pick (.tmp 9) (.const (Value.bool true)) (.tmp 15)⟩,
      ⟨(some 17), none, .mv (.tmp 16)⟩,
      ⟨(some 18), (some (17, false)), .mv (.tmp 0)⟩,
      ⟨(some 19), (some (17, false)), .nilck (.tmp 18)⟩,
      ⟨(some 20), (some (17, false)), .fld 0 (.tmp 19)⟩,
      ⟨(some 21), (some (17, false)), .load1 (.tmp 20)⟩,
      ⟨(some 22), (some (17, false)), .idxL 3 (.tmp 21) (.const (Value.int IntKind.i64 0))⟩,
      ⟨(some 23), (some (17, false)), .fld 0 (.tmp 22)⟩,
      ⟨(some 24), (some (17, false)), .load1 (.tmp 23)⟩,
      ⟨(some 25), (some (17, false)), .bin .neq (.tmp 24) (.const (Value.int IntKind.u8 6))⟩,
      ⟨(some 26), none, .pick (.tmp 17) (.const (Value.bool true)) (.tmp 25)⟩] [0, 26])
   (.cond (.tmp 26)
      (.seq (.reg [⟨(some 2), none, .mv (.const (Value.int IntKind.i64 0))⟩,
          ⟨(some 3), none, .mv (.const (Value.bool false))⟩] [2, 3])
       .ret)
      .skip))
  (.seq (.reg [⟨(some 27), none, .mv (.tmp 0)⟩,
      ⟨(some 28), none, .nilck (.tmp 27)⟩,
      ⟨(some 29), none, .fld 0 (.tmp 28)⟩,
      ⟨(some 30), none, .load1 (.tmp 29)⟩,
      ⟨(some 31), none, .idxL 3 (.tmp 30) (.const (Value.int IntKind.i64 0))⟩,
      ⟨(some 32), none, .fld 1 (.tmp 31)⟩,
      ⟨(some 33), none, .load1 (.tmp 32)⟩,
      ⟨(some 4), none, .mv (.tmp 33)⟩] [0, 4])
   (.seq (.reg [⟨(some 34), none, .mv (.tmp 0)⟩,
       ⟨(some 35), none, .mv (.tmp 0)⟩,
       ⟨(some 36), none, .nilck (.tmp 35)⟩,
       ⟨(some 37), none, .fld 0 (.tmp 36)⟩,
       ⟨(some 38), none, .load1 (.tmp 37)⟩,
       ⟨(some 39), none, .slcL 3 (.tmp 38) (some (.const (Value.int IntKind.i64 1))) none none⟩,
       ⟨(some 40), none, .nilck (.tmp 34)⟩,
       ⟨(some 41), none, .fld 0 (.tmp 40)⟩,
       ⟨none, none, .store 1 (.tmp 41) (.tmp 39)⟩] [4])
    (.seq (.reg [⟨(some 42), none, .mv (.tmp 4)⟩,
        ⟨(some 2), none, .mv (.tmp 42)⟩,
        ⟨(some 3), none, .mv (.const (Value.bool true))⟩] [2, 3])
     .ret)))))⟩
theorem low14 : lowF Tryz.prog (assoc kp14) (assoc od14) 14 = some F14 := by kernel_rfl

/- palaver/palaverref00.SameDeeds -/
def kp15 : List (Nat × List Nat) := [(0, [0, 1]), (1, [0, 1, 10]), (2, [4]), (3, [0, 1, 5]), (4, [0, 1, 5, 14]), (5, [0, 1, 5]), (6, [0, 1, 5, 25]), (7, [4]), (8, [4])]
def od15 : List (Nat × List (List Nat)) := [(6, [[0, 1, 2, 3, 4, 5, 6, 7, 8]])]
def F15 : FIR := ⟨26, [.tmp 4],
 (.seq (.reg [⟨(some 4), none, .mv (.const (Value.bool false))⟩] [0, 1])
 (.seq (.seq (.reg [⟨(some 6), none, .mv (.tmp 0)⟩,
      ⟨(some 7), none, .lenL (.tmp 6)⟩,
      ⟨(some 8), none, .mv (.tmp 1)⟩,
      ⟨(some 9), none, .lenL (.tmp 8)⟩,
      ⟨(some 10), none, .bin .neq (.tmp 7) (.tmp 9)⟩] [0, 1, 10])
   (.cond (.tmp 10)
      (.seq (.reg [⟨(some 4), none, .mv (.const (Value.bool false))⟩] [4])
       .ret)
      .skip))
  (.seq (.seq (.reg [⟨(some 5), none, .mv (.const (Value.int IntKind.i64 0))⟩] [0, 1, 5])
    (.block 0
      (.loop
       (.seq (.seq (.reg [⟨(some 11), none, .mv (.tmp 5)⟩,
           ⟨(some 12), none, .mv (.tmp 0)⟩,
           ⟨(some 13), none, .lenL (.tmp 12)⟩,
           ⟨(some 14), none, .bin .lss (.tmp 11) (.tmp 13)⟩] [0, 1, 5, 14])
        (.cond (.tmp 14)
           .skip
           (.exit 0)))
       (.seq (.block 1
          (.seq (.draw [[⟨(some 17), none, .mv (.tmp 0)⟩,
              ⟨(some 18), none, .mv (.tmp 5)⟩,
              ⟨(some 19), none, .idxL 6 (.tmp 17) (.tmp 18)⟩,
              ⟨(some 20), none, .loadN 6 (.tmp 19)⟩,
              ⟨(some 21), none, .mv (.tmp 1)⟩,
              ⟨(some 22), none, .mv (.tmp 5)⟩,
              ⟨(some 23), none, .idxL 6 (.tmp 21) (.tmp 22)⟩,
              ⟨(some 24), none, .loadN 6 (.tmp 23)⟩,
              ⟨(some 25), none, .eqagg true [.int, .int, .str, .str, .int, .int] (.tmp 20) (.tmp 24)⟩]] [0, 1, 5, 25])
          (.cond (.tmp 25)
             (.seq (.reg [⟨(some 4), none, .mv (.const (Value.bool false))⟩] [4])
              .ret)
             .skip)))
        (.reg [⟨(some 15), none, .mv (.tmp 5)⟩,
           ⟨(some 16), none, .bin .add (.tmp 15) (.const (Value.int IntKind.i64 1))⟩,
           ⟨(some 5), none, .mv (.tmp 16)⟩] [0, 1, 5]))))))
   (.seq (.reg [⟨(some 4), none, .mv (.const (Value.bool true))⟩] [4])
    .ret))))⟩
theorem low15 : lowF Tryz.prog (assoc kp15) (assoc od15) 15 = some F15 := by kernel_rfl

end Go.Proofs.YtklkngccaemjdaaGreat
namespace Go.Proofs.YtklkngccaemjdaaGreat
open Go Go.V
set_option maxRecDepth 100000
/- palaver/palaverlaw03.WorldDead -/
def kp3 : List (Nat × List Nat) := [(0, [0, 1, 2, 3, 94, 95, 98, 99, 103, 104, 105, 108, 109, 110, 111, 112, 115, 116, 136, 137, 174, 175, 178, 179, 180, 183, 184, 185, 188, 189, 190, 193, 194, 197, 200, 203, 223]), (1, [0, 1, 2, 3, 9, 94, 95, 98, 99, 103, 104, 105, 108, 109, 110, 111, 112, 115, 116, 136, 137, 174, 175, 178, 179, 180, 183, 184, 185, 188, 189, 190, 193, 194, 197, 200, 203, 223]), (2, [0, 1, 2, 3, 9, 41, 94, 95, 98, 99, 103, 104, 105, 108, 109, 110, 111, 112, 115, 116, 136, 137, 174, 175, 178, 179, 180, 183, 184, 185, 188, 189, 190, 193, 194, 197, 200, 203, 223]), (3, [8]), (4, [0, 1, 2, 3, 9, 44, 94, 95, 98, 99, 103, 104, 105, 108, 109, 110, 111, 112, 115, 116, 136, 137, 174, 175, 178, 179, 180, 183, 184, 185, 188, 189, 190, 193, 194, 197, 200, 203, 223]), (5, [0, 1, 2, 3, 9, 94, 95, 98, 99, 103, 104, 105, 108, 109, 110, 111, 112, 115, 116, 136, 137, 174, 175, 178, 179, 180, 183, 184, 185, 188, 189, 190, 193, 194, 197, 200, 203, 223]), (6, [0, 1, 2, 3, 9, 94, 95, 98, 99, 103, 104, 105, 108, 109, 110, 111, 112, 115, 116, 136, 137, 174, 175, 178, 179, 180, 183, 184, 185, 188, 189, 190, 193, 194, 197, 200, 203, 223]), (7, [0, 1, 2, 3, 9, 10, 94, 95, 98, 99, 103, 104, 105, 108, 109, 110, 111, 112, 115, 116, 136, 137, 174, 175, 178, 179, 180, 183, 184, 185, 188, 189, 190, 193, 194, 197, 200, 203, 223]), (8, [0, 1, 2, 3, 9, 10, 11, 94, 95, 98, 99, 103, 104, 105, 108, 109, 110, 111, 112, 115, 116, 136, 137, 174, 175, 178, 179, 180, 183, 184, 185, 188, 189, 190, 193, 194, 197, 200, 203, 223]), (9, [0, 1, 2, 3, 9, 10, 11, 55, 94, 95, 98, 99, 103, 104, 105, 108, 109, 110, 111, 112, 115, 116, 136, 137, 174, 175, 178, 179, 180, 183, 184, 185, 188, 189, 190, 193, 194, 197, 200, 203, 223]), (10, [0, 1, 2, 3, 9, 10, 11, 94, 95, 98, 99, 103, 104, 105, 108, 109, 110, 111, 112, 115, 116, 136, 137, 174, 175, 178, 179, 180, 183, 184, 185, 188, 189, 190, 193, 194, 197, 200, 203, 223]), (11, [0, 1, 2, 3, 9, 10, 11, 63, 94, 95, 98, 99, 103, 104, 105, 108, 109, 110, 111, 112, 115, 116, 136, 137, 174, 175, 178, 179, 180, 183, 184, 185, 188, 189, 190, 193, 194, 197, 200, 203, 223]), (12, [0, 1, 2, 3, 9, 10, 11, 94, 95, 98, 99, 103, 104, 105, 108, 109, 110, 111, 112, 115, 116, 136, 137, 174, 175, 178, 179, 180, 183, 184, 185, 188, 189, 190, 193, 194, 197, 200, 203, 223]), (13, [1, 2, 9, 10, 12, 94, 95, 98, 99, 103, 104, 105, 108, 109, 110, 111, 112, 115, 116, 136, 137, 174, 175, 178, 179, 180, 183, 184, 185, 188, 189, 190, 193, 194, 197, 200, 203, 223]), (14, [1, 2, 9, 10, 12, 94, 95, 98, 99, 103, 104, 105, 108, 109, 110, 111, 112, 115, 116, 136, 137, 174, 175, 178, 179, 180, 183, 184, 185, 188, 189, 190, 193, 194, 197, 200, 203, 223]), (15, [1, 2, 9, 10, 12, 94, 95, 98, 99, 103, 104, 105, 108, 109, 110, 111, 112, 115, 116, 136, 137, 174, 175, 178, 179, 180, 183, 184, 185, 188, 189, 190, 193, 194, 197, 200, 203, 223]), (16, [1, 2, 9, 12, 13, 14, 94, 95, 98, 99, 103, 104, 105, 108, 109, 110, 111, 112, 115, 116, 136, 137, 174, 175, 178, 179, 180, 183, 184, 185, 188, 189, 190, 193, 194, 197, 200, 203, 223]), (17, [2, 9, 13, 14, 15, 16, 94, 95, 98, 99, 103, 104, 105, 108, 109, 110, 111, 112, 115, 116, 136, 137, 174, 175, 178, 179, 180, 183, 184, 185, 188, 189, 190, 193, 194, 197, 200, 203, 223]), (18, [2, 9, 13, 14, 15, 16, 100, 103, 104, 105, 108, 109, 110, 111, 112, 115, 116, 136, 137, 174, 175, 178, 179, 180, 183, 184, 185, 188, 189, 190, 193, 194, 197, 200, 203, 223]), (19, [8]), (20, [2, 9, 13, 15, 17, 136, 137, 174, 175, 178, 179, 180, 183, 184, 185, 188, 189, 190, 193, 194, 197, 200, 203, 223]), (21, [2, 9, 13, 15, 17, 121, 136, 137, 174, 175, 178, 179, 180, 183, 184, 185, 188, 189, 190, 193, 194, 197, 200, 203, 223]), (22, [2, 9, 13, 15, 17, 136, 137, 174, 175, 178, 179, 180, 183, 184, 185, 188, 189, 190, 193, 194, 197, 200, 203, 223]), (23, [2, 9, 13, 15, 17, 18, 136, 137, 174, 175, 178, 179, 180, 183, 184, 185, 188, 189, 190, 193, 194, 197, 200, 203, 223]), (24, [2, 9, 13, 15, 17, 18, 19, 136, 137, 174, 175, 178, 179, 180, 183, 184, 185, 188, 189, 190, 193, 194, 197, 200, 203, 223]), (25, [2, 9, 13, 15, 17, 18, 132, 136, 137, 174, 175, 178, 179, 180, 183, 184, 185, 188, 189, 190, 193, 194, 197, 200, 203, 223]), (26, [9, 13, 15, 18, 138, 174, 175, 178, 179, 180, 183, 184, 185, 188, 189, 190, 193, 194, 197, 200, 203]), (27, [8]), (28, [9, 13, 15, 18, 20, 174, 175, 178, 179, 180, 183, 184, 185, 188, 189, 190, 193, 194, 197, 200, 203]), (29, [9, 13, 15, 18, 20, 21, 174, 175, 178, 179, 180, 183, 184, 185, 188, 189, 190, 193, 194, 197, 200, 203]), (30, [9, 13, 15, 18, 20, 21, 22, 174, 175, 178, 179, 180, 183, 184, 185, 188, 189, 190, 193, 194, 197, 200, 203]), (31, [9, 13, 15, 18, 20, 21, 22, 23, 174, 175, 178, 179, 180, 183, 184, 185, 188, 189, 190, 193, 194, 197, 200, 203]), (32, [9, 13, 15, 18, 20, 21, 22, 23, 25, 174, 175, 178, 179, 180, 183, 184, 185, 188, 189, 190, 193, 194, 197, 200, 203]), (33, [9, 13, 15, 18, 20, 21, 22, 23, 25, 27, 174, 175, 178, 179, 180, 183, 184, 185, 188, 189, 190, 193, 194, 197, 200, 203]), (34, [9, 13, 15, 18, 20, 21, 22, 23, 25, 27, 28, 174, 175, 178, 179, 180, 183, 184, 185, 188, 189, 190, 193, 194, 197, 200, 203]), (35, [9, 15, 18, 20, 21, 22, 23, 25, 27, 28, 29, 174, 175, 178, 179, 180, 183, 184, 185, 188, 189, 190, 193, 194, 197, 200, 203]), (36, [9, 15, 18, 20, 21, 22, 23, 25, 27, 29, 30, 174, 175, 178, 179, 180, 183, 184, 185, 188, 189, 190, 193, 194, 197, 200, 203]), (37, [9, 15, 18, 20, 22, 23, 25, 27, 30, 31, 174, 175, 178, 179, 180, 183, 184, 185, 188, 189, 190, 193, 194, 197, 200, 203]), (38, [9, 18, 20, 22, 23, 25, 27, 30, 31, 32, 174, 175, 178, 179, 180, 183, 184, 185, 188, 189, 190, 193, 194, 197, 200, 203]), (39, [9, 18, 22, 23, 25, 27, 30, 31, 33, 174, 175, 178, 179, 180, 183, 184, 185, 188, 189, 190, 193, 194, 197, 200, 203]), (40, [8]), (41, [2, 9, 13, 15, 17, 18, 34, 136, 137, 174, 175, 178, 179, 180, 183, 184, 185, 188, 189, 190, 193, 194, 197, 200, 203, 223]), (42, [2, 9, 13, 15, 17, 136, 137, 174, 175, 178, 179, 180, 183, 184, 185, 188, 189, 190, 193, 194, 197, 200, 203, 213, 223]), (43, [8]), (44, [9, 15, 35, 223]), (45, [9, 35, 36, 223]), (46, [9, 37, 223]), (47, [8])]
def od3 : List (Nat × List (List Nat)) := []
def F3 : FIR := ⟨225, [.tmp 8],
 (.seq (.reg [⟨(some 8), none, .mv (.const (Value.bool false))⟩] [0, 1, 2, 3, 94, 95, 98, 99, 103, 104, 105, 108, 109, 110, 111, 112, 115, 116, 136, 137, 174, 175, 178, 179, 180, 183, 184, 185, 188, 189, 190, 193, 194, 197, 200, 203, 223])
 (.seq (.reg [⟨(some 38), none, .call 5 []⟩,
     ⟨(some 9), none, .mv (.tmp 38)⟩] [0, 1, 2, 3, 9, 94, 95, 98, 99, 103, 104, 105, 108, 109, 110, 111, 112, 115, 116, 136, 137, 174, 175, 178, 179, 180, 183, 184, 185, 188, 189, 190, 193, 194, 197, 200, 203, 223])
  (.seq (.seq (.reg [⟨(some 39), none, .mv (.tmp 0)⟩,
       ⟨(some 40), none, .lenL (.tmp 39)⟩,
       ⟨(some 41), none, .bin .gtr (.tmp 40) (.const (Value.int IntKind.i64 65535))⟩] [0, 1, 2, 3, 9, 41, 94, 95, 98, 99, 103, 104, 105, 108, 109, 110, 111, 112, 115, 116, 136, 137, 174, 175, 178, 179, 180, 183, 184, 185, 188, 189, 190, 193, 194, 197, 200, 203, 223])
    (.cond (.tmp 41)
       (.seq (.reg [⟨(some 42), none, .mv (.tmp 9)⟩,
           ⟨(some 8), none, .mv (.tmp 42)⟩] [8])
        .ret)
       .skip))
   (.seq (.seq (.reg [⟨(some 43), none, .mv (.tmp 3)⟩,
        ⟨(some 44), none, .bin .lss (.tmp 43) (.const (Value.int IntKind.i64 0))⟩] [0, 1, 2, 3, 9, 44, 94, 95, 98, 99, 103, 104, 105, 108, 109, 110, 111, 112, 115, 116, 136, 137, 174, 175, 178, 179, 180, 183, 184, 185, 188, 189, 190, 193, 194, 197, 200, 203, 223])
     (.cond (.tmp 44)
        (.reg [⟨(some 45), none, .mv (.tmp 3)⟩,
           ⟨(some 46), none, .bin .add (.tmp 45) (.const (Value.int IntKind.i64 1))⟩,
           ⟨(some 47), none, .un .neg (.tmp 46)⟩,
           ⟨(some 3), none, .mv (.tmp 47)⟩] [0, 1, 2, 3, 9, 94, 95, 98, 99, 103, 104, 105, 108, 109, 110, 111, 112, 115, 116, 136, 137, 174, 175, 178, 179, 180, 183, 184, 185, 188, 189, 190, 193, 194, 197, 200, 203, 223])
        .skip))
    (.seq (.reg [⟨(some 48), none, .mv (.tmp 3)⟩,
        ⟨(some 49), none, .mv (.tmp 0)⟩,
        ⟨(some 50), none, .lenL (.tmp 49)⟩,
        ⟨(some 51), none, .bin .add (.tmp 50) (.const (Value.int IntKind.i64 1))⟩,
        ⟨(some 52), none, .bin .rem (.tmp 48) (.tmp 51)⟩,
        ⟨(some 3), none, .mv (.tmp 52)⟩] [0, 1, 2, 3, 9, 94, 95, 98, 99, 103, 104, 105, 108, 109, 110, 111, 112, 115, 116, 136, 137, 174, 175, 178, 179, 180, 183, 184, 185, 188, 189, 190, 193, 194, 197, 200, 203, 223])
     (.seq (.reg [⟨(some 10), none, .mv (.const (Value.slice none 0 0))⟩] [0, 1, 2, 3, 9, 10, 94, 95, 98, 99, 103, 104, 105, 108, 109, 110, 111, 112, 115, 116, 136, 137, 174, 175, 178, 179, 180, 183, 184, 185, 188, 189, 190, 193, 194, 197, 200, 203, 223])
      (.seq (.seq (.reg [⟨(some 11), none, .mv (.const (Value.int IntKind.i64 0))⟩] [0, 1, 2, 3, 9, 10, 11, 94, 95, 98, 99, 103, 104, 105, 108, 109, 110, 111, 112, 115, 116, 136, 137, 174, 175, 178, 179, 180, 183, 184, 185, 188, 189, 190, 193, 194, 197, 200, 203, 223])
        (.block 0
          (.loop
           (.seq (.seq (.reg [⟨(some 53), none, .mv (.tmp 11)⟩,
               ⟨(some 54), none, .mv (.tmp 3)⟩,
               ⟨(some 55), none, .bin .lss (.tmp 53) (.tmp 54)⟩] [0, 1, 2, 3, 9, 10, 11, 55, 94, 95, 98, 99, 103, 104, 105, 108, 109, 110, 111, 112, 115, 116, 136, 137, 174, 175, 178, 179, 180, 183, 184, 185, 188, 189, 190, 193, 194, 197, 200, 203, 223])
            (.cond (.tmp 55)
               .skip
               (.exit 0)))
           (.seq (.block 1
              (.seq (.reg [⟨(some 58), none, .mv (.tmp 0)⟩,
                 ⟨(some 59), none, .mv (.tmp 11)⟩,
                 ⟨(some 60), none, .idxL 3 (.tmp 58) (.tmp 59)⟩,
                 ⟨(some 61), none, .fld 0 (.tmp 60)⟩,
                 ⟨(some 62), none, .load1 (.tmp 61)⟩,
                 ⟨(some 63), none, .bin .neq (.tmp 62) (.const (Value.int IntKind.u8 5))⟩] [0, 1, 2, 3, 9, 10, 11, 63, 94, 95, 98, 99, 103, 104, 105, 108, 109, 110, 111, 112, 115, 116, 136, 137, 174, 175, 178, 179, 180, 183, 184, 185, 188, 189, 190, 193, 194, 197, 200, 203, 223])
              (.cond (.tmp 63)
                 (.reg [⟨(some 64), none, .mv (.tmp 10)⟩,
                    ⟨(some 65), none, .mv (.tmp 0)⟩,
                    ⟨(some 66), none, .mv (.tmp 11)⟩,
                    ⟨(some 67), none, .idxL 3 (.tmp 65) (.tmp 66)⟩,
                    ⟨(some 68), none, .loadN 3 (.tmp 67)⟩,
                    ⟨(some 69), none, .bslice 28 1 [(Value.int IntKind.u8 0), (Value.int IntKind.i64 0), (Value.string ⟨#[]⟩)] [(0, 3, (.tmp 68))]⟩,
                    ⟨(some 70), none, .append 28 3 32 [(Value.int IntKind.u8 0), (Value.int IntKind.i64 0), (Value.string ⟨#[]⟩)] (.tmp 64) (.tmp 69)⟩,
                    ⟨(some 10), none, .mv (.tmp 70)⟩] [0, 1, 2, 3, 9, 10, 11, 94, 95, 98, 99, 103, 104, 105, 108, 109, 110, 111, 112, 115, 116, 136, 137, 174, 175, 178, 179, 180, 183, 184, 185, 188, 189, 190, 193, 194, 197, 200, 203, 223])
                 .skip)))
            (.reg [⟨(some 56), none, .mv (.tmp 11)⟩,
               ⟨(some 57), none, .bin .add (.tmp 56) (.const (Value.int IntKind.i64 1))⟩,
               ⟨(some 11), none, .mv (.tmp 57)⟩] [0, 1, 2, 3, 9, 10, 11, 94, 95, 98, 99, 103, 104, 105, 108, 109, 110, 111, 112, 115, 116, 136, 137, 174, 175, 178, 179, 180, 183, 184, 185, 188, 189, 190, 193, 194, 197, 200, 203, 223]))))))
       (.seq (.reg [⟨(some 12), none, .mv (.const (Value.slice none 0 0))⟩] [1, 2, 9, 10, 12, 94, 95, 98, 99, 103, 104, 105, 108, 109, 110, 111, 112, 115, 116, 136, 137, 174, 175, 178, 179, 180, 183, 184, 185, 188, 189, 190, 193, 194, 197, 200, 203, 223])
        (.seq (.reg [⟨(some 71), none, .mv (.tmp 12)⟩,
            ⟨(some 72), none, .mv (.tmp 10)⟩,
            ⟨(some 73), none, .append 28 3 32 [(Value.int IntKind.u8 0), (Value.int IntKind.i64 0), (Value.string ⟨#[]⟩)] (.tmp 71) (.tmp 72)⟩,
            ⟨(some 12), none, .mv (.tmp 73)⟩] [1, 2, 9, 10, 12, 94, 95, 98, 99, 103, 104, 105, 108, 109, 110, 111, 112, 115, 116, 136, 137, 174, 175, 178, 179, 180, 183, 184, 185, 188, 189, 190, 193, 194, 197, 200, 203, 223])
         (.seq (.reg [⟨(some 74), none, .mv (.tmp 10)⟩,
             ⟨(some 75), none, .build [(Value.int IntKind.u8 0), (Value.int IntKind.i64 0), (Value.string ⟨#[]⟩)] [(0, 1, (.const (Value.int IntKind.u8 5)))]⟩,
             ⟨(some 76), none, .bslice 28 1 [(Value.int IntKind.u8 0), (Value.int IntKind.i64 0), (Value.string ⟨#[]⟩)] [(0, 3, (.tmp 75))]⟩,
             ⟨(some 77), none, .append 28 3 32 [(Value.int IntKind.u8 0), (Value.int IntKind.i64 0), (Value.string ⟨#[]⟩)] (.tmp 74) (.tmp 76)⟩,
             ⟨(some 10), none, .mv (.tmp 77)⟩] [1, 2, 9, 10, 12, 94, 95, 98, 99, 103, 104, 105, 108, 109, 110, 111, 112, 115, 116, 136, 137, 174, 175, 178, 179, 180, 183, 184, 185, 188, 189, 190, 193, 194, 197, 200, 203, 223])
          (.seq (.reg [⟨(some 79), none, .mv (.tmp 10)⟩,
              ⟨(some 80), none, .mv (.tmp 1)⟩,
              ⟨(some 81), none, .call 6 [(.tmp 79), (.tmp 80)]⟩,
              ⟨(some 78), none, .mv (.tmp 81)⟩,
              ⟨(some 82), none, .ext (.tmp 78) 0⟩,
              ⟨(some 83), none, .ext (.tmp 78) 1⟩,
              ⟨(some 13), none, .mv (.tmp 82)⟩,
              ⟨(some 14), none, .mv (.tmp 83)⟩] [1, 2, 9, 12, 13, 14, 94, 95, 98, 99, 103, 104, 105, 108, 109, 110, 111, 112, 115, 116, 136, 137, 174, 175, 178, 179, 180, 183, 184, 185, 188, 189, 190, 193, 194, 197, 200, 203, 223])
           (.seq (.reg [⟨(some 85), none, .mv (.tmp 12)⟩,
               ⟨(some 86), none, .mv (.tmp 1)⟩,
               ⟨(some 87), none, .call 6 [(.tmp 85), (.tmp 86)]⟩,
               ⟨(some 84), none, .mv (.tmp 87)⟩,
               ⟨(some 88), none, .ext (.tmp 84) 0⟩,
               ⟨(some 89), none, .ext (.tmp 84) 1⟩,
               ⟨(some 15), none, .mv (.tmp 88)⟩,
               ⟨(some 16), none, .mv (.tmp 89)⟩] [2, 9, 13, 14, 15, 16, 94, 95, 98, 99, 103, 104, 105, 108, 109, 110, 111, 112, 115, 116, 136, 137, 174, 175, 178, 179, 180, 183, 184, 185, 188, 189, 190, 193, 194, 197, 200, 203, 223])
            (.seq (.seq (.reg [⟨(some 90), none, .mv (.tmp 14)⟩,
                 ⟨(some 91), none, .mv (.tmp 16)⟩,
                 ⟨(some 92), none, .bin .neq (.tmp 90) (.tmp 91)⟩,
                 ⟨(some 93), none, .mv (.tmp 92)⟩,
                 ⟨(some 94), (some (93, false)), .mv (.tmp 13)⟩,
                 ⟨(some 95), (some (93, false)), .eqnil false .ptr (.tmp 94)⟩,
                 ⟨(some 96), none, .pick (.tmp 93) (.const (Value.bool true)) (.tmp 95)⟩,
                 ⟨(some 97), none, .mv (.tmp 96)⟩,
                 ⟨(some 98), (some (97, false)), .mv (.tmp 15)⟩,
                 ⟨(some 99), (some (97, false)), .eqnil false .ptr (.tmp 98)⟩,
                 ⟨(some 100), none, .pick (.tmp 97) (.const (Value.bool true)) (.tmp 99)⟩] [2, 9, 13, 14, 15, 16, 100, 103, 104, 105, 108, 109, 110, 111, 112, 115, 116, 136, 137, 174, 175, 178, 179, 180, 183, 184, 185, 188, 189, 190, 193, 194, 197, 200, 203, 223])
              (.cond (.tmp 100)
                 (.seq (.reg [⟨(some 101), none, .mv (.tmp 9)⟩,
                     ⟨(some 102), none, .mv (.tmp 101)⟩,
                     ⟨(some 103), (some (102, true)), .mv (.tmp 14)⟩,
                     ⟨(some 104), (some (102, true)), .mv (.tmp 16)⟩,
                     ⟨(some 105), (some (102, true)), .bin .eql (.tmp 103) (.tmp 104)⟩,
                     ⟨(some 106), none, .pick (.tmp 102) (.tmp 105) (.const (Value.bool false))⟩,
                     ⟨(some 107), none, .mv (.tmp 106)⟩,
                     ⟨(some 108), (some (107, true)), .mv (.tmp 13)⟩,
                     ⟨(some 109), (some (107, true)), .eqnil false .ptr (.tmp 108)⟩,
                     ⟨(some 110), (some (107, true)), .mv (.tmp 15)⟩,
                     ⟨(some 111), (some (107, true)), .eqnil false .ptr (.tmp 110)⟩,
                     ⟨(some 112), (some (107, true)), .eqb false (.tmp 109) (.tmp 111)⟩,
                     ⟨(some 113), none, .pick (.tmp 107) (.tmp 112) (.const (Value.bool false))⟩,
                     ⟨(some 114), none, .mv (.tmp 113)⟩,
                     ⟨(some 115), (some (114, true)), .mv (.tmp 14)⟩,
                     ⟨(some 116), (some (114, true)), .bin .eql (.tmp 115) (.const (Value.int IntKind.i64 1))⟩,
                     ⟨(some 117), none, .pick (.tmp 114) (.tmp 116) (.const (Value.bool false))⟩,
                     ⟨(some 8), none, .mv (.tmp 117)⟩] [8])
                  .ret)
                 .skip))
             (.seq (.seq (.reg [⟨(some 17), none, .mv (.const (Value.int IntKind.i64 0))⟩] [2, 9, 13, 15, 17, 136, 137, 174, 175, 178, 179, 180, 183, 184, 185, 188, 189, 190, 193, 194, 197, 200, 203, 223])
               (.block 2
                 (.loop
                  (.seq (.seq (.reg [⟨(some 118), none, .mv (.tmp 17)⟩,
                      ⟨(some 119), none, .mv (.tmp 2)⟩,
                      ⟨(some 120), none, .lenL (.tmp 119)⟩,
                      ⟨(some 121), none, .bin .lss (.tmp 118) (.tmp 120)⟩] [2, 9, 13, 15, 17, 121, 136, 137, 174, 175, 178, 179, 180, 183, 184, 185, 188, 189, 190, 193, 194, 197, 200, 203, 223])
                   (.cond (.tmp 121)
                      .skip
                      (.exit 2)))
                  (.seq (.block 3
                     (.seq (.reg [⟨(some 124), none, .mv (.tmp 13)⟩,
                        ⟨(some 125), none, .mv (.tmp 2)⟩,
                        ⟨(some 126), none, .mv (.tmp 17)⟩,
                        ⟨(some 127), none, .idxL 5 (.tmp 125) (.tmp 126)⟩,
                        ⟨(some 128), none, .loadN 5 (.tmp 127)⟩,
                        ⟨(some 129), none, .call 7 [(.tmp 124), (.tmp 128)]⟩,
                        ⟨(some 18), none, .mv (.tmp 129)⟩] [2, 9, 13, 15, 17, 18, 136, 137, 174, 175, 178, 179, 180, 183, 184, 185, 188, 189, 190, 193, 194, 197, 200, 203, 223])
                     (.seq (.reg [⟨(some 130), none, .mv (.tmp 13)⟩,
                         ⟨(some 131), none, .call 8 [(.tmp 130)]⟩,
                         ⟨(some 19), none, .mv (.tmp 131)⟩] [2, 9, 13, 15, 17, 18, 19, 136, 137, 174, 175, 178, 179, 180, 183, 184, 185, 188, 189, 190, 193, 194, 197, 200, 203, 223])
                      (.seq (.seq (.reg [⟨(some 132), none, .mv (.tmp 19)⟩] [2, 9, 13, 15, 17, 18, 132, 136, 137, 174, 175, 178, 179, 180, 183, 184, 185, 188, 189, 190, 193, 194, 197, 200, 203, 223])
                        (.cond (.tmp 132)
                           (.seq (.seq (.reg [⟨(some 133), none, .mv (.tmp 18)⟩,
                                ⟨(some 134), none, .bin .neq (.tmp 133) (.const (Value.int IntKind.i64 36))⟩,
                                ⟨(some 135), none, .mv (.tmp 134)⟩,
                                ⟨(some 136), (some (135, true)), .mv (.tmp 18)⟩,
                                ⟨(some 137), (some (135, true)), .bin .neq (.tmp 136) (.const (Value.int IntKind.i64 0))⟩,
                                ⟨(some 138), none, .pick (.tmp 135) (.tmp 137) (.const (Value.bool false))⟩] [9, 13, 15, 18, 138, 174, 175, 178, 179, 180, 183, 184, 185, 188, 189, 190, 193, 194, 197, 200, 203])
                             (.cond (.tmp 138)
                                (.seq (.reg [⟨(some 8), none, .mv (.const (Value.bool false))⟩] [8])
                                 .ret)
                                .skip))
                            (.seq (.reg [⟨(some 139), none, .mv (.tmp 13)⟩,
                                ⟨(some 140), none, .call 9 [(.tmp 139)]⟩,
                                ⟨(some 20), none, .mv (.tmp 140)⟩] [9, 13, 15, 18, 20, 174, 175, 178, 179, 180, 183, 184, 185, 188, 189, 190, 193, 194, 197, 200, 203])
                             (.seq (.reg [⟨(some 141), none, .mv (.tmp 13)⟩,
                                 ⟨(some 142), none, .call 10 [(.tmp 141)]⟩,
                                 ⟨(some 21), none, .mv (.tmp 142)⟩] [9, 13, 15, 18, 20, 21, 174, 175, 178, 179, 180, 183, 184, 185, 188, 189, 190, 193, 194, 197, 200, 203])
                              (.seq (.reg [⟨(some 143), none, .mv (.tmp 13)⟩,
                                  ⟨(some 144), none, .call 11 [(.tmp 143), (.const (Value.string ⟨#[120]⟩))]⟩,
                                  ⟨(some 22), none, .mv (.tmp 144)⟩] [9, 13, 15, 18, 20, 21, 22, 174, 175, 178, 179, 180, 183, 184, 185, 188, 189, 190, 193, 194, 197, 200, 203])
                               (.seq (.reg [⟨(some 145), none, .mv (.tmp 13)⟩,
                                   ⟨(some 146), none, .call 12 [(.tmp 145), (.const (Value.int IntKind.i64 1))]⟩,
                                   ⟨(some 23), none, .mv (.tmp 146)⟩] [9, 13, 15, 18, 20, 21, 22, 23, 174, 175, 178, 179, 180, 183, 184, 185, 188, 189, 190, 193, 194, 197, 200, 203])
                                (.seq (.reg [⟨(some 148), none, .mv (.tmp 13)⟩,
                                    ⟨(some 149), none, .call 13 [(.tmp 148), (.const (Value.int IntKind.i64 1))]⟩,
                                    ⟨(some 147), none, .mv (.tmp 149)⟩,
                                    ⟨(some 150), none, .ext (.tmp 147) 0⟩,
                                    ⟨(some 151), none, .ext (.tmp 147) 1⟩,
                                    ⟨(some 24), none, .mv (.tmp 150)⟩,
                                    ⟨(some 25), none, .mv (.tmp 151)⟩] [9, 13, 15, 18, 20, 21, 22, 23, 25, 174, 175, 178, 179, 180, 183, 184, 185, 188, 189, 190, 193, 194, 197, 200, 203])
                                 (.seq (.reg [⟨(some 153), none, .mv (.tmp 13)⟩,
                                     ⟨(some 154), none, .call 14 [(.tmp 153)]⟩,
                                     ⟨(some 152), none, .mv (.tmp 154)⟩,
                                     ⟨(some 155), none, .ext (.tmp 152) 0⟩,
                                     ⟨(some 156), none, .ext (.tmp 152) 1⟩,
                                     ⟨(some 26), none, .mv (.tmp 155)⟩,
                                     ⟨(some 27), none, .mv (.tmp 156)⟩] [9, 13, 15, 18, 20, 21, 22, 23, 25, 27, 174, 175, 178, 179, 180, 183, 184, 185, 188, 189, 190, 193, 194, 197, 200, 203])
                                  (.seq (.reg [⟨(some 157), none, .mv (.tmp 13)⟩,
                                      ⟨(some 158), none, .call 9 [(.tmp 157)]⟩,
                                      ⟨(some 28), none, .mv (.tmp 158)⟩] [9, 13, 15, 18, 20, 21, 22, 23, 25, 27, 28, 174, 175, 178, 179, 180, 183, 184, 185, 188, 189, 190, 193, 194, 197, 200, 203])
                                   (.seq (.reg [⟨(some 159), none, .mv (.tmp 13)⟩,
                                       ⟨(some 160), none, .call 10 [(.tmp 159)]⟩,
                                       ⟨(some 29), none, .mv (.tmp 160)⟩] [9, 15, 18, 20, 21, 22, 23, 25, 27, 28, 29, 174, 175, 178, 179, 180, 183, 184, 185, 188, 189, 190, 193, 194, 197, 200, 203])
                                    (.seq (.reg [⟨(some 161), none, .mv (.tmp 20)⟩,
                                        ⟨(some 162), none, .mv (.tmp 28)⟩,
                                        ⟨(some 163), none, .call 15 [(.tmp 161), (.tmp 162)]⟩,
                                        ⟨(some 30), none, .mv (.tmp 163)⟩] [9, 15, 18, 20, 21, 22, 23, 25, 27, 29, 30, 174, 175, 178, 179, 180, 183, 184, 185, 188, 189, 190, 193, 194, 197, 200, 203])
                                     (.seq (.reg [⟨(some 164), none, .mv (.tmp 21)⟩,
                                         ⟨(some 165), none, .mv (.tmp 29)⟩,
                                         ⟨(some 166), none, .call 16 [(.tmp 164), (.tmp 165)]⟩,
                                         ⟨(some 31), none, .mv (.tmp 166)⟩] [9, 15, 18, 20, 22, 23, 25, 27, 30, 31, 174, 175, 178, 179, 180, 183, 184, 185, 188, 189, 190, 193, 194, 197, 200, 203])
                                      (.seq (.reg [⟨(some 167), none, .mv (.tmp 15)⟩,
                                          ⟨(some 168), none, .call 9 [(.tmp 167)]⟩,
                                          ⟨(some 32), none, .mv (.tmp 168)⟩] [9, 18, 20, 22, 23, 25, 27, 30, 31, 32, 174, 175, 178, 179, 180, 183, 184, 185, 188, 189, 190, 193, 194, 197, 200, 203])
                                       (.seq (.reg [⟨(some 169), none, .mv (.tmp 20)⟩,
                                           ⟨(some 170), none, .mv (.tmp 32)⟩,
                                           ⟨(some 171), none, .call 15 [(.tmp 169), (.tmp 170)]⟩,
                                           ⟨(some 33), none, .mv (.tmp 171)⟩] [9, 18, 22, 23, 25, 27, 30, 31, 33, 174, 175, 178, 179, 180, 183, 184, 185, 188, 189, 190, 193, 194, 197, 200, 203])
                                        (.seq (.reg [⟨(some 172), none, .mv (.tmp 9)⟩,
                                            ⟨(some 173), none, .mv (.tmp 172)⟩,
                                            ⟨(some 174), (some (173, true)), .mv (.tmp 18)⟩,
                                            ⟨(some 175), (some (173, true)), .bin .eql (.tmp 174) (.const (Value.int IntKind.i64 36))⟩,
                                            ⟨(some 176), none, .pick (.tmp 173) (.tmp 175) (.const (Value.bool false))⟩,
                                            ⟨(some 177), none, .mv (.tmp 176)⟩,
                                            ⟨(some 178), (some (177, true)), .mv (.tmp 22)⟩,
                                            ⟨(some 179), (some (177, true)), .mv (.tmp 18)⟩,
                                            ⟨(some 180), (some (177, true)), .bin .eql (.tmp 178) (.tmp 179)⟩,
                                            ⟨(some 181), none, .pick (.tmp 177) (.tmp 180) (.const (Value.bool false))⟩,
                                            ⟨(some 182), none, .mv (.tmp 181)⟩,
                                            ⟨(some 183), (some (182, true)), .mv (.tmp 23)⟩,
                                            ⟨(some 184), (some (182, true)), .mv (.tmp 18)⟩,
                                            ⟨(some 185), (some (182, true)), .bin .eql (.tmp 183) (.tmp 184)⟩,
                                            ⟨(some 186), none, .pick (.tmp 182) (.tmp 185) (.const (Value.bool false))⟩,
                                            ⟨(some 187), none, .mv (.tmp 186)⟩,
                                            ⟨(some 188), (some (187, true)), .mv (.tmp 25)⟩,
                                            ⟨(some 189), (some (187, true)), .mv (.tmp 18)⟩,
                                            ⟨(some 190), (some (187, true)), .bin .eql (.tmp 188) (.tmp 189)⟩,
                                            ⟨(some 191), none, .pick (.tmp 187) (.tmp 190) (.const (Value.bool false))⟩,
                                            ⟨(some 192), none, .mv (.tmp 191)⟩,
                                            ⟨(some 193), (some (192, true)), .mv (.tmp 27)⟩,
                                            ⟨(some 194), (some (192, true)), .un .not (.tmp 193)⟩,
                                            ⟨(some 195), none, .pick (.tmp 192) (.tmp 194) (.const (Value.bool false))⟩,
                                            ⟨(some 196), none, .mv (.tmp 195)⟩,
                                            ⟨(some 197), (some (196, true)), .mv (.tmp 30)⟩,
                                            ⟨(some 198), none, .pick (.tmp 196) (.tmp 197) (.const (Value.bool false))⟩,
                                            ⟨(some 199), none, .mv (.tmp 198)⟩,
                                            ⟨(some 200), (some (199, true)), .mv (.tmp 31)⟩,
                                            ⟨(some 201), none, .pick (.tmp 199) (.tmp 200) (.const (Value.bool false))⟩,
                                            ⟨(some 202), none, .mv (.tmp 201)⟩,
                                            ⟨(some 203), (some (202, true)), .mv (.tmp 33)⟩,
                                            ⟨(some 204), none, .pick (.tmp 202) (.tmp 203) (.const (Value.bool false))⟩,
                                            ⟨(some 8), none, .mv (.tmp 204)⟩] [8])
                                         .ret))))))))))))))
                           .skip))
                       (.seq (.reg [⟨(some 205), none, .mv (.tmp 15)⟩,
                           ⟨(some 206), none, .mv (.tmp 2)⟩,
                           ⟨(some 207), none, .mv (.tmp 17)⟩,
                           ⟨(some 208), none, .idxL 5 (.tmp 206) (.tmp 207)⟩,
                           ⟨(some 209), none, .loadN 5 (.tmp 208)⟩,
                           ⟨(some 210), none, .call 7 [(.tmp 205), (.tmp 209)]⟩,
                           ⟨(some 34), none, .mv (.tmp 210)⟩] [2, 9, 13, 15, 17, 18, 34, 136, 137, 174, 175, 178, 179, 180, 183, 184, 185, 188, 189, 190, 193, 194, 197, 200, 203, 223])
                        (.seq (.reg [⟨(some 211), none, .mv (.tmp 18)⟩,
                            ⟨(some 212), none, .mv (.tmp 34)⟩,
                            ⟨(some 213), none, .bin .neq (.tmp 211) (.tmp 212)⟩] [2, 9, 13, 15, 17, 136, 137, 174, 175, 178, 179, 180, 183, 184, 185, 188, 189, 190, 193, 194, 197, 200, 203, 213, 223])
                         (.cond (.tmp 213)
                            (.seq (.reg [⟨(some 8), none, .mv (.const (Value.bool false))⟩] [8])
                             .ret)
                            .skip)))))))
                   (.reg [⟨(some 122), none, .mv (.tmp 17)⟩,
                      ⟨(some 123), none, .bin .add (.tmp 122) (.const (Value.int IntKind.i64 1))⟩,
                      ⟨(some 17), none, .mv (.tmp 123)⟩] [2, 9, 13, 15, 17, 136, 137, 174, 175, 178, 179, 180, 183, 184, 185, 188, 189, 190, 193, 194, 197, 200, 203, 223]))))))
              (.seq (.reg [⟨(some 214), none, .mv (.tmp 13)⟩,
                  ⟨(some 215), none, .call 9 [(.tmp 214)]⟩,
                  ⟨(some 35), none, .mv (.tmp 215)⟩] [9, 15, 35, 223])
               (.seq (.reg [⟨(some 216), none, .mv (.tmp 15)⟩,
                   ⟨(some 217), none, .call 9 [(.tmp 216)]⟩,
                   ⟨(some 36), none, .mv (.tmp 217)⟩] [9, 35, 36, 223])
                (.seq (.reg [⟨(some 218), none, .mv (.tmp 35)⟩,
                    ⟨(some 219), none, .mv (.tmp 36)⟩,
                    ⟨(some 220), none, .call 15 [(.tmp 218), (.tmp 219)]⟩,
                    ⟨(some 37), none, .mv (.tmp 220)⟩] [9, 37, 223])
                 (.seq (.reg [⟨(some 221), none, .mv (.tmp 9)⟩,
                     ⟨(some 222), none, .mv (.tmp 221)⟩,
                     ⟨(some 223), (some (222, true)), .mv (.tmp 37)⟩,
                     ⟨(some 224), none, .pick (.tmp 222) (.tmp 223) (.const (Value.bool false))⟩,
                     ⟨(some 8), none, .mv (.tmp 224)⟩] [8])
                  .ret))))))))))))))))))⟩
theorem low3 : lowF Tryz.prog (assoc kp3) (assoc od3) 3 = some F3 := by kernel_rfl

end Go.Proofs.YtklkngccaemjdaaGreat

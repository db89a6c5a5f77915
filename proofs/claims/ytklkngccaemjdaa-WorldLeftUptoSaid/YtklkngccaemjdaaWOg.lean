/-
  The code of functions, as terms: printed by a program, proved to be what the seat has.
-/
import Derived.Test.YtklkngccaemjdaaWOe
import Derived.KernelRfl
import Derived.Test.YtklkngccaemjdaaProg
set_option linter.unusedSimpArgs false
set_option linter.unusedVariables false
namespace Go.Proofs.Ytklkngccaemjdaa
open Go Go.V
set_option maxRecDepth 100000
/- palaver/palaverlaw03.call -/
def kp24 : List (Nat × List Nat) := [(0, [0, 3]), (1, [0, 3, 5]), (2, [0, 3, 5, 7]), (3, [0, 3, 5, 7, 8]), (4, [5]), (5, [0, 3, 5, 7, 19]), (6, [5]), (7, [0, 3, 5, 7, 30]), (8, [5]), (9, [0, 3, 5, 7, 38]), (10, [5]), (11, [0, 3, 5, 7, 46]), (12, [5]), (13, [0, 3, 5, 7, 52]), (14, [5]), (15, [0, 3, 5, 7, 58]), (16, [5]), (17, [0, 3, 5, 7, 66]), (18, [5]), (19, [0, 3, 5, 7, 72]), (20, [5]), (21, [0, 3, 5, 7, 79]), (22, [5]), (23, [0, 3, 5, 7, 88]), (24, [5]), (25, [0, 3, 5, 7, 96]), (26, [5]), (27, [0, 3, 5, 7, 107]), (28, [5]), (29, [0, 3, 5, 113]), (30, [5]), (31, [4])]
def od24 : List (Nat × List (List Nat)) := []
def F24 : FIR := ⟨120, [.tmp 4],
 (.seq (.reg [⟨(some 3), none, .box 57 (.tmp 1)⟩,
    ⟨(some 4), none, .mv (.const (Value.int IntKind.i64 0))⟩] [0, 3])
 (.seq (.reg [⟨(some 5), none, .mv (.const (Value.int IntKind.i64 0))⟩] [0, 3, 5])
  (.seq (.seq (.reg [⟨(some 6), none, .fld 0 (.tmp 3)⟩,
       ⟨(some 7), none, .load1 (.tmp 6)⟩] [0, 3, 5, 7])
    (.block 0
      (.seq (.reg [⟨(some 9), none, .bin .eql (.tmp 7) (.const (Value.int IntKind.i64 1))⟩,
         ⟨(some 8), none, .mv (.tmp 9)⟩] [0, 3, 5, 7, 8])
      (.cond (.tmp 8)
         (.reg [⟨(some 11), none, .mv (.tmp 0)⟩,
            ⟨(some 12), none, .fld 1 (.tmp 3)⟩,
            ⟨(some 13), none, .load1 (.tmp 12)⟩,
            ⟨(some 14), none, .fld 3 (.tmp 3)⟩,
            ⟨(some 15), none, .load1 (.tmp 14)⟩,
            ⟨(some 16), none, .call 11 [(.tmp 11), (.tmp 13), (.tmp 15)]⟩,
            ⟨(some 10), none, .mv (.tmp 16)⟩,
            ⟨(some 17), none, .ext (.tmp 10) 0⟩,
            ⟨(some 18), none, .ext (.tmp 10) 1⟩,
            ⟨(some 5), none, .mv (.tmp 18)⟩] [5])
         (.seq (.reg [⟨(some 20), none, .bin .eql (.tmp 7) (.const (Value.int IntKind.i64 2))⟩,
             ⟨(some 19), none, .mv (.tmp 20)⟩] [0, 3, 5, 7, 19])
          (.cond (.tmp 19)
             (.reg [⟨(some 22), none, .mv (.tmp 0)⟩,
                ⟨(some 23), none, .fld 3 (.tmp 3)⟩,
                ⟨(some 24), none, .load1 (.tmp 23)⟩,
                ⟨(some 25), none, .fld 4 (.tmp 3)⟩,
                ⟨(some 26), none, .load1 (.tmp 25)⟩,
                ⟨(some 27), none, .call 15 [(.tmp 22), (.tmp 24), (.tmp 26)]⟩,
                ⟨(some 21), none, .mv (.tmp 27)⟩,
                ⟨(some 28), none, .ext (.tmp 21) 0⟩,
                ⟨(some 29), none, .ext (.tmp 21) 1⟩,
                ⟨(some 5), none, .mv (.tmp 29)⟩] [5])
             (.seq (.reg [⟨(some 31), none, .bin .eql (.tmp 7) (.const (Value.int IntKind.i64 3))⟩,
                 ⟨(some 30), none, .mv (.tmp 31)⟩] [0, 3, 5, 7, 30])
              (.cond (.tmp 30)
                 (.reg [⟨(some 32), none, .mv (.tmp 0)⟩,
                    ⟨(some 33), none, .fld 3 (.tmp 3)⟩,
                    ⟨(some 34), none, .load1 (.tmp 33)⟩,
                    ⟨(some 35), none, .fld 2 (.tmp 3)⟩,
                    ⟨(some 36), none, .load1 (.tmp 35)⟩,
                    ⟨(some 37), none, .call 13 [(.tmp 32), (.tmp 34), (.tmp 36)]⟩,
                    ⟨(some 5), none, .mv (.tmp 37)⟩] [5])
                 (.seq (.reg [⟨(some 39), none, .bin .eql (.tmp 7) (.const (Value.int IntKind.i64 4))⟩,
                     ⟨(some 38), none, .mv (.tmp 39)⟩] [0, 3, 5, 7, 38])
                  (.cond (.tmp 38)
                     (.reg [⟨(some 40), none, .mv (.tmp 0)⟩,
                        ⟨(some 41), none, .fld 3 (.tmp 3)⟩,
                        ⟨(some 42), none, .load1 (.tmp 41)⟩,
                        ⟨(some 43), none, .fld 4 (.tmp 3)⟩,
                        ⟨(some 44), none, .load1 (.tmp 43)⟩,
                        ⟨(some 45), none, .call 12 [(.tmp 40), (.tmp 42), (.tmp 44)]⟩,
                        ⟨(some 5), none, .mv (.tmp 45)⟩] [5])
                     (.seq (.reg [⟨(some 47), none, .bin .eql (.tmp 7) (.const (Value.int IntKind.i64 5))⟩,
                         ⟨(some 46), none, .mv (.tmp 47)⟩] [0, 3, 5, 7, 46])
                      (.cond (.tmp 46)
                         (.reg [⟨(some 48), none, .mv (.tmp 0)⟩,
                            ⟨(some 49), none, .fld 3 (.tmp 3)⟩,
                            ⟨(some 50), none, .load1 (.tmp 49)⟩,
                            ⟨(some 51), none, .call 16 [(.tmp 48), (.tmp 50)]⟩,
                            ⟨(some 5), none, .mv (.tmp 51)⟩] [5])
                         (.seq (.reg [⟨(some 53), none, .bin .eql (.tmp 7) (.const (Value.int IntKind.i64 6))⟩,
                             ⟨(some 52), none, .mv (.tmp 53)⟩] [0, 3, 5, 7, 52])
                          (.cond (.tmp 52)
                             (.reg [⟨(some 54), none, .mv (.tmp 0)⟩,
                                ⟨(some 55), none, .fld 3 (.tmp 3)⟩,
                                ⟨(some 56), none, .load1 (.tmp 55)⟩,
                                ⟨(some 57), none, .call 17 [(.tmp 54), (.tmp 56)]⟩,
                                ⟨(some 5), none, .mv (.tmp 57)⟩] [5])
                             (.seq (.reg [⟨(some 59), none, .bin .eql (.tmp 7) (.const (Value.int IntKind.i64 7))⟩,
                                 ⟨(some 58), none, .mv (.tmp 59)⟩] [0, 3, 5, 7, 58])
                              (.cond (.tmp 58)
                                 (.reg [⟨(some 60), none, .mv (.tmp 0)⟩,
                                    ⟨(some 61), none, .fld 1 (.tmp 3)⟩,
                                    ⟨(some 62), none, .load1 (.tmp 61)⟩,
                                    ⟨(some 63), none, .fld 2 (.tmp 3)⟩,
                                    ⟨(some 64), none, .load1 (.tmp 63)⟩,
                                    ⟨(some 65), none, .call 18 [(.tmp 60), (.tmp 62), (.tmp 64)]⟩,
                                    ⟨(some 5), none, .mv (.tmp 65)⟩] [5])
                                 (.seq (.reg [⟨(some 67), none, .bin .eql (.tmp 7) (.const (Value.int IntKind.i64 8))⟩,
                                     ⟨(some 66), none, .mv (.tmp 67)⟩] [0, 3, 5, 7, 66])
                                  (.cond (.tmp 66)
                                     (.reg [⟨(some 68), none, .mv (.tmp 0)⟩,
                                        ⟨(some 69), none, .fld 1 (.tmp 3)⟩,
                                        ⟨(some 70), none, .load1 (.tmp 69)⟩,
                                        ⟨(some 71), none, .call 52 [(.tmp 68), (.tmp 70)]⟩,
                                        ⟨(some 5), none, .mv (.tmp 71)⟩] [5])
                                     (.seq (.reg [⟨(some 73), none, .bin .eql (.tmp 7) (.const (Value.int IntKind.i64 9))⟩,
                                         ⟨(some 72), none, .mv (.tmp 73)⟩] [0, 3, 5, 7, 72])
                                      (.cond (.tmp 72)
                                         (.reg [⟨(some 75), none, .mv (.tmp 0)⟩,
                                            ⟨(some 76), none, .call 53 [(.tmp 75)]⟩,
                                            ⟨(some 74), none, .mv (.tmp 76)⟩,
                                            ⟨(some 77), none, .ext (.tmp 74) 0⟩,
                                            ⟨(some 78), none, .ext (.tmp 74) 1⟩,
                                            ⟨(some 5), none, .mv (.tmp 78)⟩] [5])
                                         (.seq (.reg [⟨(some 80), none, .bin .eql (.tmp 7) (.const (Value.int IntKind.i64 10))⟩,
                                             ⟨(some 79), none, .mv (.tmp 80)⟩] [0, 3, 5, 7, 79])
                                          (.cond (.tmp 79)
                                             (.reg [⟨(some 82), none, .mv (.tmp 0)⟩,
                                                ⟨(some 83), none, .fld 1 (.tmp 3)⟩,
                                                ⟨(some 84), none, .load1 (.tmp 83)⟩,
                                                ⟨(some 85), none, .call 54 [(.tmp 82), (.tmp 84)]⟩,
                                                ⟨(some 81), none, .mv (.tmp 85)⟩,
                                                ⟨(some 86), none, .ext (.tmp 81) 0⟩,
                                                ⟨(some 87), none, .ext (.tmp 81) 1⟩,
                                                ⟨(some 5), none, .mv (.tmp 87)⟩] [5])
                                             (.seq (.reg [⟨(some 89), none, .bin .eql (.tmp 7) (.const (Value.int IntKind.i64 11))⟩,
                                                 ⟨(some 88), none, .mv (.tmp 89)⟩] [0, 3, 5, 7, 88])
                                              (.cond (.tmp 88)
                                                 (.reg [⟨(some 90), none, .mv (.tmp 0)⟩,
                                                    ⟨(some 91), none, .fld 3 (.tmp 3)⟩,
                                                    ⟨(some 92), none, .load1 (.tmp 91)⟩,
                                                    ⟨(some 93), none, .fld 2 (.tmp 3)⟩,
                                                    ⟨(some 94), none, .load1 (.tmp 93)⟩,
                                                    ⟨(some 95), none, .call 55 [(.tmp 90), (.tmp 92), (.tmp 94)]⟩,
                                                    ⟨(some 5), none, .mv (.tmp 95)⟩] [5])
                                                 (.seq (.reg [⟨(some 97), none, .bin .eql (.tmp 7) (.const (Value.int IntKind.i64 12))⟩,
                                                     ⟨(some 96), none, .mv (.tmp 97)⟩] [0, 3, 5, 7, 96])
                                                  (.cond (.tmp 96)
                                                     (.reg [⟨(some 99), none, .mv (.tmp 0)⟩,
                                                        ⟨(some 100), none, .fld 3 (.tmp 3)⟩,
                                                        ⟨(some 101), none, .load1 (.tmp 100)⟩,
                                                        ⟨(some 102), none, .fld 4 (.tmp 3)⟩,
                                                        ⟨(some 103), none, .load1 (.tmp 102)⟩,
                                                        ⟨(some 104), none, .call 56 [(.tmp 99), (.tmp 101), (.tmp 103)]⟩,
                                                        ⟨(some 98), none, .mv (.tmp 104)⟩,
                                                        ⟨(some 105), none, .ext (.tmp 98) 0⟩,
                                                        ⟨(some 106), none, .ext (.tmp 98) 1⟩,
                                                        ⟨(some 5), none, .mv (.tmp 106)⟩] [5])
                                                     (.seq (.reg [⟨(some 108), none, .bin .eql (.tmp 7) (.const (Value.int IntKind.i64 13))⟩,
                                                         ⟨(some 107), none, .mv (.tmp 108)⟩] [0, 3, 5, 7, 107])
                                                      (.cond (.tmp 107)
                                                         (.reg [⟨(some 109), none, .mv (.tmp 0)⟩,
                                                            ⟨(some 110), none, .fld 2 (.tmp 3)⟩,
                                                            ⟨(some 111), none, .load1 (.tmp 110)⟩,
                                                            ⟨(some 112), none, .call 27 [(.tmp 109), (.tmp 111)]⟩,
                                                            ⟨(some 5), none, .mv (.tmp 112)⟩] [5])
                                                         (.seq (.reg [⟨(some 114), none, .bin .eql (.tmp 7) (.const (Value.int IntKind.i64 14))⟩,
                                                             ⟨(some 113), none, .mv (.tmp 114)⟩] [0, 3, 5, 113])
                                                          (.cond (.tmp 113)
                                                             (.reg [⟨(some 115), none, .mv (.tmp 0)⟩,
                                                                ⟨(some 116), none, .fld 4 (.tmp 3)⟩,
                                                                ⟨(some 117), none, .load1 (.tmp 116)⟩,
                                                                ⟨(some 118), none, .call 57 [(.tmp 115), (.tmp 117)]⟩,
                                                                ⟨(some 5), none, .mv (.tmp 118)⟩] [5])
                                                             .skip))))))))))))))))))))))))))))))
   (.seq (.reg [⟨(some 119), none, .mv (.tmp 5)⟩,
       ⟨(some 4), none, .mv (.tmp 119)⟩] [4])
    .ret))))⟩
theorem low24 : lowF Try.prog (assoc kp24) (assoc od24) 24 = some F24 := by kernel_rfl

/- palaver/palaverref00.SameFiles -/
def kp25 : List (Nat × List Nat) := [(0, [0, 1]), (1, [0, 1, 10]), (2, [4]), (3, [0, 1, 5]), (4, [0, 1, 5, 14]), (5, [0, 1, 5]), (6, [0, 1, 5, 25]), (7, [4]), (8, [4])]
def od25 : List (Nat × List (List Nat)) := [(6, [[0, 1, 2, 3, 4, 5, 6, 7, 8]])]
def F25 : FIR := ⟨26, [.tmp 4],
 (.seq (.reg [⟨(some 4), none, .mv (.const (Value.bool false))⟩] [0, 1])
 (.seq (.seq (.reg [⟨(some 6), none, .mv (.tmp 0)⟩,
      ⟨(some 7), none, .lenL (.tmp 6)⟩,
      ⟨(some 8), none, .mv (.tmp 1)⟩,
      ⟨(some 9), none, .lenL (.tmp 8)⟩,
      ⟨(some 10), none, .bin .neq (.tmp 7) (.tmp 9)⟩] [0, 1, 10])
   (.cond (.tmp 10)
      (.seq (.reg [⟨(some 4), none, .mv (.const (Value.bool false))⟩] [4])
       .ret)
      .skip))
  (.seq (.seq (.reg [⟨(some 5), none, .mv (.const (Value.int IntKind.i64 0))⟩] [0, 1, 5])
    (.block 0
      (.loop
       (.seq (.seq (.reg [⟨(some 11), none, .mv (.tmp 5)⟩,
           ⟨(some 12), none, .mv (.tmp 0)⟩,
           ⟨(some 13), none, .lenL (.tmp 12)⟩,
           ⟨(some 14), none, .bin .lss (.tmp 11) (.tmp 13)⟩] [0, 1, 5, 14])
        (.cond (.tmp 14)
           .skip
           (.exit 0)))
       (.seq (.block 1
          (.seq (.draw [[⟨(some 17), none, .mv (.tmp 0)⟩,
              ⟨(some 18), none, .mv (.tmp 5)⟩,
              ⟨(some 19), none, .idxL 2 (.tmp 17) (.tmp 18)⟩,
              ⟨(some 20), none, .loadN 2 (.tmp 19)⟩,
              ⟨(some 21), none, .mv (.tmp 1)⟩,
              ⟨(some 22), none, .mv (.tmp 5)⟩,
              ⟨(some 23), none, .idxL 2 (.tmp 21) (.tmp 22)⟩,
              ⟨(some 24), none, .loadN 2 (.tmp 23)⟩,
              ⟨(some 25), none, .eqagg true [.str, .str] (.tmp 20) (.tmp 24)⟩]] [0, 1, 5, 25])
          (.cond (.tmp 25)
             (.seq (.reg [⟨(some 4), none, .mv (.const (Value.bool false))⟩] [4])
              .ret)
             .skip)))
        (.reg [⟨(some 15), none, .mv (.tmp 5)⟩,
           ⟨(some 16), none, .bin .add (.tmp 15) (.const (Value.int IntKind.i64 1))⟩,
           ⟨(some 5), none, .mv (.tmp 16)⟩] [0, 1, 5]))))))
   (.seq (.reg [⟨(some 4), none, .mv (.const (Value.bool true))⟩] [4])
    .ret))))⟩
theorem low25 : lowF Try.prog (assoc kp25) (assoc od25) 25 = some F25 := by kernel_rfl

/- palaver/palaverlaw03.WorldLeft -/
def kp7 : List (Nat × List Nat) := [(0, [0, 1, 2, 3, 34, 35, 39, 40, 41, 42, 43, 50, 51, 71, 72, 84, 85, 86, 87, 88, 120, 123, 124, 125]), (1, [0, 1, 2, 3, 9, 34, 35, 39, 40, 41, 42, 43, 50, 51, 71, 72, 84, 85, 86, 87, 88, 120, 123, 124, 125]), (2, [2, 3, 9, 10, 11, 34, 35, 39, 40, 41, 42, 43, 50, 51, 71, 72, 84, 85, 86, 87, 88, 120, 123, 124, 125]), (3, [2, 3, 9, 10, 11, 36, 39, 40, 41, 42, 43, 50, 51, 71, 72, 84, 85, 86, 87, 88, 120, 123, 124, 125]), (4, [8]), (5, [2, 3, 9, 10, 12, 50, 51, 71, 72, 84, 85, 86, 87, 88, 120, 123, 124, 125]), (6, [2, 3, 9, 10, 12, 50, 51, 52, 71, 72, 84, 85, 86, 87, 88, 120, 123, 124, 125]), (7, [2, 3, 9, 10, 12, 50, 51, 71, 72, 84, 85, 86, 87, 88, 120, 123, 124, 125]), (8, [2, 3, 9, 10, 12, 50, 51, 71, 72, 84, 85, 86, 87, 88, 120, 123, 124, 125]), (9, [3, 9, 10, 13, 71, 72, 84, 85, 86, 87, 88, 120, 123, 124, 125]), (10, [3, 9, 10, 13, 14, 71, 72, 84, 85, 86, 87, 88, 120, 123, 124, 125]), (11, [9, 13, 14, 15, 71, 72, 84, 85, 86, 87, 88, 120, 123, 124, 125]), (12, [9, 13, 14, 15, 73, 84, 85, 86, 87, 88, 120, 123, 124, 125]), (13, [8]), (14, [9, 13, 15, 16, 84, 85, 86, 87, 88, 120, 123, 124, 125]), (15, [9, 13, 15, 16, 17, 84, 85, 86, 87, 88, 120, 123, 124, 125]), (16, [9, 13, 15, 17, 18, 84, 85, 86, 87, 88, 120, 123, 124, 125]), (17, [9, 13, 15, 17, 89, 120, 123, 124, 125]), (18, [8]), (19, [9, 13, 15, 17, 19, 120, 123, 124, 125]), (20, [9, 13, 15, 17, 19, 93, 120, 123, 124, 125]), (21, [9, 13, 15, 17, 19, 120, 123, 124, 125]), (22, [9, 13, 15, 17, 19, 106, 120, 123, 124, 125]), (23, [8]), (24, [9, 15, 17, 20, 120, 123, 124, 125]), (25, [9, 15, 17, 20, 110, 120, 123, 124, 125]), (26, [8]), (27, [9, 15, 17, 21, 120, 123, 124, 125]), (28, [9, 15, 22, 120, 123, 124, 125]), (29, [9, 22, 23, 120, 123, 124, 125]), (30, [8])]
def od7 : List (Nat × List (List Nat)) := [(22, [[0, 1, 2, 3, 4, 5, 6, 7, 8, 9, 10]])]
def F7 : FIR := ⟨127, [.tmp 8],
 (.seq (.reg [⟨(some 8), none, .mv (.const (Value.bool false))⟩] [0, 1, 2, 3, 34, 35, 39, 40, 41, 42, 43, 50, 51, 71, 72, 84, 85, 86, 87, 88, 120, 123, 124, 125])
 (.seq (.reg [⟨(some 24), none, .call 8 []⟩,
     ⟨(some 9), none, .mv (.tmp 24)⟩] [0, 1, 2, 3, 9, 34, 35, 39, 40, 41, 42, 43, 50, 51, 71, 72, 84, 85, 86, 87, 88, 120, 123, 124, 125])
  (.seq (.reg [⟨(some 26), none, .mv (.tmp 0)⟩,
      ⟨(some 27), none, .mv (.tmp 1)⟩,
      ⟨(some 28), none, .call 10 [(.tmp 26), (.tmp 27)]⟩,
      ⟨(some 25), none, .mv (.tmp 28)⟩,
      ⟨(some 29), none, .ext (.tmp 25) 0⟩,
      ⟨(some 30), none, .ext (.tmp 25) 1⟩,
      ⟨(some 10), none, .mv (.tmp 29)⟩,
      ⟨(some 11), none, .mv (.tmp 30)⟩] [2, 3, 9, 10, 11, 34, 35, 39, 40, 41, 42, 43, 50, 51, 71, 72, 84, 85, 86, 87, 88, 120, 123, 124, 125])
   (.seq (.seq (.reg [⟨(some 31), none, .mv (.tmp 11)⟩,
        ⟨(some 32), none, .bin .neq (.tmp 31) (.const (Value.int IntKind.i64 0))⟩,
        ⟨(some 33), none, .mv (.tmp 32)⟩,
        ⟨(some 34), (some (33, false)), .mv (.tmp 10)⟩,
        ⟨(some 35), (some (33, false)), .eqnil false .ptr (.tmp 34)⟩,
        ⟨(some 36), none, .pick (.tmp 33) (.const (Value.bool true)) (.tmp 35)⟩] [2, 3, 9, 10, 11, 36, 39, 40, 41, 42, 43, 50, 51, 71, 72, 84, 85, 86, 87, 88, 120, 123, 124, 125])
     (.cond (.tmp 36)
        (.seq (.reg [⟨(some 37), none, .mv (.tmp 9)⟩,
            ⟨(some 38), none, .mv (.tmp 37)⟩,
            ⟨(some 39), (some (38, true)), .mv (.tmp 11)⟩,
            ⟨(some 40), (some (38, true)), .bin .eql (.tmp 39) (.const (Value.int IntKind.i64 0))⟩,
            ⟨(some 41), (some (38, true)), .mv (.tmp 10)⟩,
            ⟨(some 42), (some (38, true)), .eqnil true .ptr (.tmp 41)⟩,
            ⟨(some 43), (some (38, true)), .eqb false (.tmp 40) (.tmp 42)⟩,
            ⟨(some 44), none, .pick (.tmp 38) (.tmp 43) (.const (Value.bool false))⟩,
            ⟨(some 8), none, .mv (.tmp 44)⟩] [8])
         .ret)
        .skip))
    (.seq (.seq (.reg [⟨(some 12), none, .mv (.const (Value.int IntKind.i64 0))⟩] [2, 3, 9, 10, 12, 50, 51, 71, 72, 84, 85, 86, 87, 88, 120, 123, 124, 125])
      (.block 0
        (.loop
         (.seq (.seq (.reg [⟨(some 45), none, .mv (.tmp 12)⟩,
             ⟨(some 46), none, .mv (.tmp 2)⟩,
             ⟨(some 47), none, .lenL (.tmp 46)⟩,
             ⟨(some 48), none, .bin .lss (.tmp 45) (.tmp 47)⟩,
             ⟨(some 49), none, .mv (.tmp 48)⟩,
             ⟨(some 50), (some (49, true)), .mv (.tmp 12)⟩,
             ⟨(some 51), (some (49, true)), .bin .lss (.tmp 50) (.const (Value.int IntKind.i64 64))⟩,
             ⟨(some 52), none, .pick (.tmp 49) (.tmp 51) (.const (Value.bool false))⟩] [2, 3, 9, 10, 12, 50, 51, 52, 71, 72, 84, 85, 86, 87, 88, 120, 123, 124, 125])
          (.cond (.tmp 52)
             .skip
             (.exit 0)))
         (.seq (.block 1
            (.reg [⟨(some 55), none, .mv (.tmp 10)⟩,
              ⟨(some 56), none, .mv (.tmp 2)⟩,
              ⟨(some 57), none, .mv (.tmp 12)⟩,
              ⟨(some 58), none, .idxL 5 (.tmp 56) (.tmp 57)⟩,
              ⟨(some 59), none, .loadN 5 (.tmp 58)⟩,
              ⟨(some 60), none, .call 24 [(.tmp 55), (.tmp 59)]⟩] [2, 3, 9, 10, 12, 50, 51, 71, 72, 84, 85, 86, 87, 88, 120, 123, 124, 125]))
          (.reg [⟨(some 53), none, .mv (.tmp 12)⟩,
             ⟨(some 54), none, .bin .add (.tmp 53) (.const (Value.int IntKind.i64 1))⟩,
             ⟨(some 12), none, .mv (.tmp 54)⟩] [2, 3, 9, 10, 12, 50, 51, 71, 72, 84, 85, 86, 87, 88, 120, 123, 124, 125]))))))
     (.seq (.reg [⟨(some 61), none, .mv (.tmp 10)⟩,
         ⟨(some 62), none, .call 20 [(.tmp 61)]⟩,
         ⟨(some 13), none, .mv (.tmp 62)⟩] [3, 9, 10, 13, 71, 72, 84, 85, 86, 87, 88, 120, 123, 124, 125])
      (.seq (.reg [⟨(some 63), none, .mv (.tmp 10)⟩,
          ⟨(some 64), none, .call 19 [(.tmp 63), (.const (Value.int IntKind.u64 18446744073709551615)), (.const (Value.slice none 0 0))]⟩,
          ⟨(some 14), none, .mv (.tmp 64)⟩] [3, 9, 10, 13, 14, 71, 72, 84, 85, 86, 87, 88, 120, 123, 124, 125])
       (.seq (.reg [⟨(some 65), none, .mv (.tmp 10)⟩,
           ⟨(some 66), none, .mv (.tmp 3)⟩,
           ⟨(some 67), none, .call 19 [(.tmp 65), (.tmp 66), (.const (Value.slice none 0 0))]⟩,
           ⟨(some 15), none, .mv (.tmp 67)⟩] [9, 13, 14, 15, 71, 72, 84, 85, 86, 87, 88, 120, 123, 124, 125])
        (.seq (.seq (.reg [⟨(some 68), none, .mv (.tmp 14)⟩,
             ⟨(some 69), none, .eqnil false .ptr (.tmp 68)⟩,
             ⟨(some 70), none, .mv (.tmp 69)⟩,
             ⟨(some 71), (some (70, false)), .mv (.tmp 15)⟩,
             ⟨(some 72), (some (70, false)), .eqnil false .ptr (.tmp 71)⟩,
             ⟨(some 73), none, .pick (.tmp 70) (.const (Value.bool true)) (.tmp 72)⟩] [9, 13, 14, 15, 73, 84, 85, 86, 87, 88, 120, 123, 124, 125])
          (.cond (.tmp 73)
             (.seq (.reg [⟨(some 8), none, .mv (.const (Value.bool false))⟩] [8])
              .ret)
             .skip))
         (.seq (.reg [⟨(some 74), none, .mv (.tmp 14)⟩,
             ⟨(some 75), none, .call 20 [(.tmp 74)]⟩,
             ⟨(some 16), none, .mv (.tmp 75)⟩] [9, 13, 15, 16, 84, 85, 86, 87, 88, 120, 123, 124, 125])
          (.seq (.reg [⟨(some 76), none, .mv (.tmp 15)⟩,
              ⟨(some 77), none, .call 20 [(.tmp 76)]⟩,
              ⟨(some 17), none, .mv (.tmp 77)⟩] [9, 13, 15, 16, 17, 84, 85, 86, 87, 88, 120, 123, 124, 125])
           (.seq (.reg [⟨(some 78), none, .mv (.tmp 16)⟩,
               ⟨(some 79), none, .mv (.tmp 13)⟩,
               ⟨(some 80), none, .call 25 [(.tmp 78), (.tmp 79)]⟩,
               ⟨(some 18), none, .mv (.tmp 80)⟩] [9, 13, 15, 17, 18, 84, 85, 86, 87, 88, 120, 123, 124, 125])
            (.seq (.seq (.reg [⟨(some 81), none, .mv (.tmp 18)⟩,
                 ⟨(some 82), none, .un .not (.tmp 81)⟩,
                 ⟨(some 83), none, .mv (.tmp 82)⟩,
                 ⟨(some 84), (some (83, false)), .mv (.tmp 17)⟩,
                 ⟨(some 85), (some (83, false)), .lenL (.tmp 84)⟩,
                 ⟨(some 86), (some (83, false)), .mv (.tmp 13)⟩,
                 ⟨(some 87), (some (83, false)), .lenL (.tmp 86)⟩,
                 ⟨(some 88), (some (83, false)), .bin .neq (.tmp 85) (.tmp 87)⟩,
                 ⟨(some 89), none, .pick (.tmp 83) (.const (Value.bool true)) (.tmp 88)⟩] [9, 13, 15, 17, 89, 120, 123, 124, 125])
              (.cond (.tmp 89)
                 (.seq (.reg [⟨(some 8), none, .mv (.const (Value.bool false))⟩] [8])
                  .ret)
                 .skip))
             (.seq (.seq (.reg [⟨(some 19), none, .mv (.const (Value.int IntKind.i64 0))⟩] [9, 13, 15, 17, 19, 120, 123, 124, 125])
               (.block 2
                 (.loop
                  (.seq (.seq (.reg [⟨(some 90), none, .mv (.tmp 19)⟩,
                      ⟨(some 91), none, .mv (.tmp 17)⟩,
                      ⟨(some 92), none, .lenL (.tmp 91)⟩,
                      ⟨(some 93), none, .bin .lss (.tmp 90) (.tmp 92)⟩] [9, 13, 15, 17, 19, 93, 120, 123, 124, 125])
                   (.cond (.tmp 93)
                      .skip
                      (.exit 2)))
                  (.seq (.block 3
                     (.seq (.draw [[⟨(some 96), none, .mv (.tmp 17)⟩,
                         ⟨(some 97), none, .mv (.tmp 19)⟩,
                         ⟨(some 98), none, .idxL 2 (.tmp 96) (.tmp 97)⟩,
                         ⟨(some 99), none, .fld 0 (.tmp 98)⟩,
                         ⟨(some 100), none, .load1 (.tmp 99)⟩,
                         ⟨(some 101), none, .mv (.tmp 13)⟩,
                         ⟨(some 102), none, .mv (.tmp 19)⟩,
                         ⟨(some 103), none, .idxL 2 (.tmp 101) (.tmp 102)⟩,
                         ⟨(some 104), none, .fld 0 (.tmp 103)⟩,
                         ⟨(some 105), none, .load1 (.tmp 104)⟩,
                         ⟨(some 106), none, .bin .neq (.tmp 100) (.tmp 105)⟩]] [9, 13, 15, 17, 19, 106, 120, 123, 124, 125])
                     (.cond (.tmp 106)
                        (.seq (.reg [⟨(some 8), none, .mv (.const (Value.bool false))⟩] [8])
                         .ret)
                        .skip)))
                   (.reg [⟨(some 94), none, .mv (.tmp 19)⟩,
                      ⟨(some 95), none, .bin .add (.tmp 94) (.const (Value.int IntKind.i64 1))⟩,
                      ⟨(some 19), none, .mv (.tmp 95)⟩] [9, 13, 15, 17, 19, 120, 123, 124, 125]))))))
              (.seq (.reg [⟨(some 107), none, .mv (.tmp 15)⟩,
                  ⟨(some 108), none, .call 19 [(.tmp 107), (.const (Value.int IntKind.u64 0)), (.const (Value.slice none 0 0))]⟩,
                  ⟨(some 20), none, .mv (.tmp 108)⟩] [9, 15, 17, 20, 120, 123, 124, 125])
               (.seq (.seq (.reg [⟨(some 109), none, .mv (.tmp 20)⟩,
                    ⟨(some 110), none, .eqnil false .ptr (.tmp 109)⟩] [9, 15, 17, 20, 110, 120, 123, 124, 125])
                 (.cond (.tmp 110)
                    (.seq (.reg [⟨(some 8), none, .mv (.const (Value.bool false))⟩] [8])
                     .ret)
                    .skip))
                (.seq (.reg [⟨(some 111), none, .mv (.tmp 20)⟩,
                    ⟨(some 112), none, .call 20 [(.tmp 111)]⟩,
                    ⟨(some 21), none, .mv (.tmp 112)⟩] [9, 15, 17, 21, 120, 123, 124, 125])
                 (.seq (.reg [⟨(some 113), none, .mv (.tmp 17)⟩,
                     ⟨(some 114), none, .mv (.tmp 21)⟩,
                     ⟨(some 115), none, .call 25 [(.tmp 113), (.tmp 114)]⟩,
                     ⟨(some 22), none, .mv (.tmp 115)⟩] [9, 15, 22, 120, 123, 124, 125])
                  (.seq (.reg [⟨(some 116), none, .mv (.tmp 15)⟩,
                      ⟨(some 117), none, .call 26 [(.tmp 116)]⟩,
                      ⟨(some 23), none, .mv (.tmp 117)⟩] [9, 22, 23, 120, 123, 124, 125])
                   (.seq (.reg [⟨(some 118), none, .mv (.tmp 9)⟩,
                       ⟨(some 119), none, .mv (.tmp 118)⟩,
                       ⟨(some 120), (some (119, true)), .mv (.tmp 22)⟩,
                       ⟨(some 121), none, .pick (.tmp 119) (.tmp 120) (.const (Value.bool false))⟩,
                       ⟨(some 122), none, .mv (.tmp 121)⟩,
                       ⟨(some 123), (some (122, true)), .mv (.tmp 23)⟩,
                       ⟨(some 124), (some (122, true)), .lenL (.tmp 123)⟩,
                       ⟨(some 125), (some (122, true)), .bin .eql (.tmp 124) (.const (Value.int IntKind.i64 0))⟩,
                       ⟨(some 126), none, .pick (.tmp 122) (.tmp 125) (.const (Value.bool false))⟩,
                       ⟨(some 8), none, .mv (.tmp 126)⟩] [8])
                    .ret))))))))))))))))))))⟩
theorem low7 : lowF Try.prog (assoc kp7) (assoc od7) 7 = some F7 := by kernel_rfl

end Go.Proofs.Ytklkngccaemjdaa

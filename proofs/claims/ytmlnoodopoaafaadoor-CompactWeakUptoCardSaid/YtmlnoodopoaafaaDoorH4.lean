/-
  The code of functions, as terms: printed by a program, proved to be what the seat has.
-/
import Derived.Test.YtmlnoodopoaafaaDoorH3
import Derived.KernelRfl
import Derived.Test.YtmlnoodopoaafaaDoorProg
import Derived.Test.YtmlnoodopoaafaaDoorV9
set_option linter.unusedSimpArgs false
set_option linter.unusedVariables false
namespace Go.Proofs.YtmlnoodopoaafaaDoor
open Go Go.V
set_option maxRecDepth 100000
def F91 : FIR := laid (X := ⟨11, [.tmp 6],
 (qS [qB 5 37 2,qk 6 0] [0,1,5]
 (qS [qm 7 0,qm 8 1,qo 9 (.clos (.func 110) [] [(.tmp 5)]),qx 10 51 [7,8,9],qm 6 10] [6]
 .ret))⟩)
theorem n91 : F91.n = 11 := rfl
theorem low91 : lowF Tryd.prog (kpO F91) (assoc []) 91 = some F91 := by kernel_rfl
def F110 : FIR := laid (X := ⟨32, [.tmp 3],
 (qS [qk 3 0] [0,1]
 (.seq (.block 0 (qS [qm 5 0,qn 6 5,qf 7 1 6,ql 8 7,qo 9 (.bin .gtr (.tmp 8) (.const (Value.int IntKind.u8 3))),qm 10 9,qu 10 (ql 11 1),
  qu 10 (qo 12 (.bin .lss (.tmp 11) (.const (Value.int IntKind.u8 1)))),qr 13 10 12,qm 14 13,qu 14 (ql 15 1),
  qu 14 (qo 16 (.bin .gtr (.tmp 15) (.const (Value.int IntKind.u8 3)))),qr 17 14 16,qm 4 17] [0,1,4]
 (qC 4 (qS [qk 3 44] [3]
 .ret)
 (qS [ql 19 1,qo 20 (.bin .eql (.tmp 19) (.const (Value.int IntKind.u8 3))),qm 21 20,qt 21 (qm 22 0),qt 21 (qn 23 22),qt 21 (qf 24 5 23),
  qt 21 (ql 25 24),qt 21 (qc 26 .eql 25 0),qa 27 21 26,qm 18 27] [0,1,18]
 (qC 18 (qS [qk 3 1] [3]
 .ret)
 .skip)))))
 (qS [qm 28 0,ql 29 1,qn 30 28,qf 31 1 30,qs 1 31 29] []
 (qS [qk 3 0] [3]
 .ret))))⟩)
theorem n110 : F110.n = 32 := rfl
theorem low110 : lowF Tryd.prog (kpO F110) (assoc []) 110 = some F110 := by kernel_rfl
def F57 : FIR := laid (X := ⟨14, [.cell1 6, .tmp 7],
 (qS [qB 5 4 2,qo 6 (.alloc 4 [(Value.bool false)]),qk 7 0] [0,1,5,6]
 (qS [qm 8 0,qm 9 1,qo 10 (.clos (.func 87) [] [(.tmp 5), (.tmp 6)]),qx 11 51 [8,9,10],qm 7 11] [6,7]
 (qS [ql 12 6,qm 13 7,qs 1 6 12,qm 7 13] [6,7]
 .ret)))⟩)
theorem n57 : F57.n = 14 := rfl
theorem low57 : lowF Tryd.prog (kpO F57) (assoc []) 57 = some F57 := by kernel_rfl
def F87 : FIR := laid (X := ⟨13, [.tmp 4],
 (qS [qk 4 0] [0,1,2]
 (.seq (qD [qm 5 0,qm 6 0,qn 7 6,qf 8 6 7,ql 9 8,ql 10 1,qs 1 2 9,qn 11 5,qf 12 6 11,qs 1 12 10] [[0,1,2,3,4,5,6,7,8,9], [0,1,2,3,4,6,5,7,8,9]] [])
 (qS [qk 4 0] [4]
 .ret)))⟩)
theorem n87 : F87.n = 13 := rfl
theorem low87 : lowF Tryd.prog (kpO F87) (assoc [(1,[[0,1,2,3,4,5,6,7,8,9], [0,1,2,3,4,6,5,7,8,9]])]) 87 = some F87 := by kernel_rfl
def F22 : FIR := laid (X := ⟨14, [.tmp 4, .tmp 5],
 (qS [qo 4 (.mv (.const (Value.int IntKind.u64 0))),qk 5 0] [0,1]
 (qS [qm 6 0,qn 7 6,qf 8 20 7,qo 9 (.slcA 64 1 (.tmp 8) none none),qm 10 1,qx 11 50 [9,10],qe 12 11 0,qe 13 11 1,qm 4 12,qm 5 13] [4,5]
 .ret))⟩)
theorem n22 : F22.n = 14 := rfl
theorem low22 : lowF Tryd.prog (kpO F22) (assoc []) 22 = some F22 := by kernel_rfl
def F20 : FIR := laid (X := ⟨15, [.tmp 6],
 (qS [qk 6 0] [0,1,2]
 (qS [qm 7 0,qm 8 0,qn 9 8,qf 10 20 9,qo 11 (.slcA 64 1 (.tmp 10) none none),qm 12 1,qm 13 2,qx 14 54 [7,11,12,13],qm 6 14] [6]
 .ret))⟩)
theorem n20 : F20.n = 15 := rfl
theorem low20 : lowF Tryd.prog (kpO F20) (assoc []) 20 = some F20 := by kernel_rfl
def F96 : FIR := laid (X := ⟨18, [.tmp 4],
 (qS [qk 4 0] [0,1]
 (qS [qm 8 0,qm 9 1,qx 10 34 [8,9],qm 7 10,qe 11 7 0,qe 12 7 1,qm 5 11,qm 6 12] [0,5,6]
 (.seq (qS [qm 13 6,qo 14 (.un .not (.tmp 13))] [0,5,14]
 (qC 14 (qS [qk 4 42] [4]
 .ret)
 .skip))
 (qS [qm 15 0,qm 16 5,qx 17 111 [15,16]] []
 (qS [qk 4 0] [4]
 .ret)))))⟩)
theorem n96 : F96.n = 18 := rfl
theorem low96 : lowF Tryd.prog (kpO F96) (assoc []) 96 = some F96 := by kernel_rfl
def F111 : FIR := laid (X := ⟨20, [],
 (qS [qB 3 3 1] [0,3]
 (.seq (qS [qm 4 0,ql 5 3,qx 6 35 [4,5],qo 7 (.fldV 7 1 false (.tmp 6))] [0,3,7]
 (qC 7 (.reg [qm 8 0,qm 9 0,qn 10 9,qf 11 4182 10,ql 12 11,qo 13 (.clos (.func 115) [] [(.tmp 3)]),qx 14 114 [12,13],qn 15 8,qf 16 4182 15,
  qs 1 16 14] [0,3])
 .skip))
 (.reg [qm 17 0,ql 18 3,qo 19 (.call 65 [(.tmp 17), (.tmp 18), (.const (Value.bool false))])] [])))⟩)
theorem n111 : F111.n = 20 := rfl
theorem low111 : lowF Tryd.prog (kpO F111) (assoc []) 111 = some F111 := by kernel_rfl
def F62 : FIR := laid (X := ⟨100, [.tmp 2],
 (qS [qk 2 0] [0]
 (qS [qm 8 0,qn 9 8,qf 10 2 9,qo 11 (.idxA 6 3 (.tmp 10) (.const (Value.int IntKind.u8 4))),qm 3 11] [0,3]
 (qS [qo 12 (.mkmap),qm 4 12] [0,3,4]
 (qS [qm 13 3,qn 14 13,qf 15 0 14,ql 16 15,qm 5 16] [0,3,4,5]
 (.seq (.seq (qD [qm 17 0,qm 18 3,qn 19 18,qf 20 0 19,ql 21 20,qm 22 3,qn 23 22,qf 24 1 23,ql 25 24,qx 26 98 [17,21,25],qm 6 26] [[0,1,2,3,4,5,6,7,8,9,10]] [0,3,4,5,6])
 (.block 0 (.loop (.seq (qS [qm 27 6,qc 28 .geq 27 0] [0,3,4,5,6,28]
 (qC 28 .skip
 (.exit 0)))
 (.seq (.block 1 (qS [qm 37 0,qn 38 37,qf 39 0 38,ql 40 39,qm 41 6,qc 42 .add 41 1,qi 43 1 40 42,ql 44 43,qo 45 (.conv .i64 (.tmp 44)),
  qo 46 (.bin .add (.const (Value.int IntKind.i64 2)) (.tmp 45)),qm 7 46] [0,3,4,5,6,7]
 (.seq (qS [qm 47 5,qm 48 6,qb 49 .neq 47 48] [0,3,4,5,6,7,49]
 (qC 49 (qS [qm 50 0,qm 51 6,qo 52 (.call 65 [(.tmp 50), (.tmp 51), (.const (Value.bool false))])] [0,3,4,5,6,7]
 (.seq (qD [qm 53 0,qn 54 53,qf 55 0 54,ql 56 55,qm 57 5,qm 58 5,qm 59 7,qb 60 .add 58 59,
  qo 61 (.slcL 1 (.tmp 56) (some (.tmp 57)) (some (.tmp 60)) none),qm 62 0,qn 63 62,qf 64 0 63,ql 65 64,qm 66 6,qm 67 6,qm 68 7,qb 69 .add 67 68,
  qo 70 (.slcL 1 (.tmp 65) (some (.tmp 66)) (some (.tmp 69)) none),qo 71 (.copy 1 (.tmp 61) (.tmp 70))] [[0,1,2,3,4,5,6,7,8,9,10,11,12,13,14,15,16,17,18]] [0,3,4,5,6,7])
 (qS [qm 72 0,qm 73 5,qo 74 (.call 65 [(.tmp 72), (.tmp 73), (.const (Value.bool true))])] [0,3,4,5,6,7]
 (.reg [qm 75 4,qm 76 6,qx 77 32 [76],qm 78 5,qx 79 32 [78],⟨none,none,.mapupd .int (.tmp 75) (.tmp 77) (.tmp 79)⟩] [0,3,4,5,6,7]))))
 .skip))
 (.reg [qm 80 5,qm 81 7,qb 82 .add 80 81,qm 5 82] [0,3,4,5,6]))))
 (.reg [qm 29 0,qm 30 6,qc 31 .add 30 1,qm 32 3,qn 33 32,qf 34 1 33,ql 35 34,qx 36 98 [29,31,35],qm 6 36] [0,3,4,5,6]))))))
 (qS [qm 83 3,qm 84 5,qn 85 83,qf 86 2 85,qs 1 86 84] [0,3,4]
 (qS [qm 87 0,qm 88 3,qn 89 88,qN 90 3 89,qx 91 99 [87,90]] [0,4]
 (.seq (qS [qm 92 4,qo 93 (.mlen (.tmp 92)),qc 94 .gtr 93 0] [0,4,94]
 (qC 94 (.reg [qm 95 0,qm 96 4,qx 97 100 [95,96]] [4])
 .skip))
 (qS [qm 98 4,qo 99 (.mlen (.tmp 98)),qm 2 99] [2]
 .ret)))))))))⟩)
theorem n62 : F62.n = 100 := rfl
theorem low62 : lowF Tryd.prog (kpO F62) (assoc [(4,[[0,1,2,3,4,5,6,7,8,9,10]]), (10,[[0,1,2,3,4,5,6,7,8,9,10,11,12,13,14,15,16,17,18]])]) 62 = some F62 := by kernel_rfl
def F99 : FIR := laid (X := ⟨36, [],
 (qS [qB 3 71 1] [0,3]
 (qS [qm 7 0,qn 8 7,qf 9 4183 8,ql 10 9,qo 11 (.rangeM (.tmp 10))] [0,3,11]
 (.block 0 (.loop (qS [qo 12 (.next (.tmp 11) false),qe 13 12 0] [0,3,11,13]
 (.seq (qC 13 .skip
 (.exit 0))
 (.block 1 (qS [qo 14 (.entry (.tmp 11)),qe 15 14 0,qm 4 15] [0,3,4,11]
 (qS [qm 17 4,qx 18 68 [17],qm 16 18,qe 19 16 0,qe 20 16 1,qm 5 19,qm 6 20] [0,3,4,5,11]
 (qS [qm 21 5,qf 22 0 3,ql 23 22,qb 24 .geq 21 23,qm 25 24,qt 25 (qm 26 5),qt 25 (qf 27 1 3),qt 25 (ql 28 27),qt 25 (qb 29 .lss 26 28),
  qa 30 25 29] [0,3,4,11,30]
 (qC 30 (.reg [qm 31 0,qn 32 31,qf 33 4183 32,ql 34 33,qm 35 4,⟨none,none,.delete .int (.tmp 34) (.tmp 35)⟩] [0,3,11])
 .skip)))))))))))⟩)
theorem n99 : F99.n = 36 := rfl
theorem low99 : lowF Tryd.prog (kpO F99) (assoc []) 99 = some F99 := by kernel_rfl
def F100 : FIR := laid (X := ⟨99, [],
 (qS [qB 2 25 0,qB 3 69 1] [2,3]
 (qS [qo 21 (.clos (.func 113) [] [(.tmp 3)]),qm 4 21] [2,3,4]
 (.seq (qS [ql 22 2,qx 23 77 [22],qk 24 0] [2,3,4,23,24]
 (.block 0 (.loop (qS [qc 25 .lss 24 4] [2,3,4,23,24,25]
 (.seq (qC 25 .skip
 (.exit 0))
 (.seq (.block 1 (qS [qo 26 (.idxV 4 1 false (.tmp 23) (.tmp 24)),qm 6 26] [2,3,4,6,23,24]
 (.reg [qm 27 4,qm 28 6,qo 29 (.callv (.tmp 27) [(.tmp 28)])] [2,3,4,23,24])))
 (.reg [qc 30 .add 24 1,qm 24 30] [2,3,4,23,24])))))))
 (qS [qm 31 4,ql 32 2,qn 33 32,qf 34 4182 33,ql 35 34,qo 36 (.callv (.tmp 31) [(.tmp 35)])] [2,3]
 (.seq (qS [ql 37 2,qn 38 37,qf 39 4183 38,ql 40 39,qo 41 (.rangeM (.tmp 40))] [2,3,41]
 (.block 2 (.loop (qS [qo 42 (.next (.tmp 41) false),qe 43 42 0] [2,3,41,43]
 (.seq (qC 43 .skip
 (.exit 2))
 (.block 3 (qS [qo 44 (.entry (.tmp 41)),qe 45 44 0,qe 46 44 1,qm 7 45,qm 8 46] [2,3,7,8,41]
 (qS [ql 48 3,qm 49 8,qo 50 (.lookup .int (Value.int IntKind.u64 0) true (.tmp 48) (.tmp 49)),qm 47 50,qe 51 47 0,qe 52 47 1,qm 9 51,
  qm 10 52] [2,3,7,9,10,41]
 (qS [qm 53 10] [2,3,7,9,41,53]
 (qC 53 (.reg [ql 54 2,qn 55 54,qf 56 4183 55,ql 57 56,qm 58 7,qm 59 9,⟨none,none,.mapupd .int (.tmp 57) (.tmp 58) (.tmp 59)⟩] [2,3,41])
 .skip))))))))))
 (qS [qo 11 (.mv (.const (Value.int IntKind.u8 1)))] [2,3,11]
 (.block 4 (.loop (.seq (qS [qm 60 11,qo 61 (.bin .leq (.tmp 60) (.const (Value.int IntKind.u8 5)))] [2,3,11,61]
 (qC 61 .skip
 (.exit 4)))
 (.seq (.block 5 (qS [ql 64 2,qm 65 11,qx 66 61 [64,65]] [2,3,11,66]
 (.block 6 (.rangef (.tmp 66) [67] (.reg [qm 12 67] [2,3,12])
 (.block 7 (qS [ql 69 2,qm 70 12,qx 71 34 [69,70],qm 68 71,qe 72 68 0,qe 73 68 1,qm 13 72,qm 14 73] [2,3,13]
 (qS [ql 75 2,qm 76 13,qx 77 67 [75,76],qm 74 77,qe 78 74 0,qe 79 74 1,qm 15 78,qm 16 79] [3,15]
 (qS [qm 80 15,qL 81 80,qk 82 0] [3,15,80,81,82]
 (.block 8 (.loop (qS [qb 83 .lss 82 81] [3,15,80,81,82,83]
 (.seq (qC 83 .skip
 (.exit 8))
 (.seq (.block 9 (qS [qm 84 82,qi 85 1 80 82,ql 86 85,qm 17 84,qm 18 86] [3,15,17,18,80,81,82]
 (qS [ql 88 3,qm 89 18,qo 90 (.lookup .int (Value.int IntKind.u64 0) true (.tmp 88) (.tmp 89)),qm 87 90,qe 91 87 0,qe 92 87 1,qm 19 91,
  qm 20 92] [3,15,17,19,20,80,81,82]
 (qS [qm 93 20] [3,15,17,19,80,81,82,93]
 (qC 93 (.reg [qm 94 15,qm 95 17,qm 96 19,qi 97 1 94 95,qs 1 97 96] [3,15,80,81,82])
 .skip)))))
 (.reg [qc 98 .add 82 1,qm 82 98] [3,15,80,81,82]))))))))))))))
 (.reg [qm 62 11,qo 63 (.bin .add (.tmp 62) (.const (Value.int IntKind.u8 1))),qm 11 63] [2,3,11])))))))))))⟩)
theorem n100 : F100.n = 99 := rfl
theorem low100 : lowF Tryd.prog (kpO F100) (assoc []) 100 = some F100 := by kernel_rfl
def F113 : FIR := laid (X := ⟨26, [],
 (qS [qm 7 0,qL 8 7,qk 9 0] [0,1,7,8,9]
 (.block 0 (.loop (qS [qb 10 .lss 9 8] [0,1,7,8,9,10]
 (.seq (qC 10 .skip
 (.exit 0))
 (.seq (.block 1 (qS [qm 11 9,qi 12 1 7 9,ql 13 12,qm 3 11,qm 4 13] [0,1,3,4,7,8,9]
 (qS [ql 15 1,qm 16 4,qo 17 (.lookup .int (Value.int IntKind.u64 0) true (.tmp 15) (.tmp 16)),qm 14 17,qe 18 14 0,qe 19 14 1,qm 5 18,
  qm 6 19] [0,1,3,5,6,7,8,9]
 (qS [qm 20 6] [0,1,3,5,7,8,9,20]
 (qC 20 (.reg [qm 21 0,qm 22 3,qm 23 5,qi 24 1 21 22,qs 1 24 23] [0,1,7,8,9])
 .skip)))))
 (.reg [qc 25 .add 9 1,qm 9 25] [0,1,7,8,9])))))))⟩)
theorem n113 : F113.n = 26 := rfl
theorem low113 : lowF Tryd.prog (kpO F113) (assoc []) 113 = some F113 := by kernel_rfl
def F55 : FIR := laid (X := ⟨20, [],
 (qS [qB 3 120 1] [0,3]
 (qS [qo 4 (.alloc 36 [(Value.int IntKind.u8 0)]),⟨none,none,.store 1 (.tmp 4) (.const (Value.int IntKind.u8 1))⟩] [0,3,4]
 (.block 0 (.loop (.seq (qS [ql 6 4,qo 7 (.bin .leq (.tmp 6) (.const (Value.int IntKind.u8 5)))] [0,3,4,7]
 (qC 7 .skip
 (.exit 0)))
 (.seq (.block 1 (qS [qm 10 0,ql 11 4,qx 12 61 [10,11]] [0,3,4,12]
 (.block 2 (.rangef (.tmp 12) [13] (.reg [qm 5 13] [3,4,5])
 (.block 3 (qS [ql 14 3,ql 15 4,qm 16 5,qo 17 (.callv (.tmp 14) [(.tmp 15), (.tmp 16)]),qo 18 (.un .not (.tmp 17))] [18]
 (qC 18 .ret
 .skip)))))))
 (.seq (qS [ql 19 4] [0,3,19]
 (.reg [qo 4 (.alloc 36 [(Value.int IntKind.u8 0)]),qs 1 4 19] [0,3,4]))
 (.reg [ql 8 4,qo 9 (.bin .add (.tmp 8) (.const (Value.int IntKind.u8 1))),qs 1 4 9] [0,3,4]))))))))⟩)
theorem n55 : F55.n = 20 := rfl
theorem low55 : lowF Tryd.prog (assoc [(0, [0,3]), (1, [0,3,4]), (2, [0,3,4,7]), (3, [0,3,4]), (4, [0,3,4,12]), (5, [3,4,5]), (6, [18]), (7, [0,3,19]), (8, [0,3,4])]) (assoc []) 55 = some F55 := by kernel_rfl
def F88 : FIR := laid (X := ⟨31, [],
 (qS [qm 7 0,qn 8 7,qf 9 0 8,ql 10 9,qm 11 1,qo 12 (.call 57 [(.tmp 10), (.tmp 11), (.const (Value.bool true))]),qm 6 12,qe 13 6 0,
  qe 14 6 1,qm 4 13,qm 5 14] [0,1,4,5]
 (qS [qm 15 5,qc 16 .eql 15 0,qm 17 16,qt 17 (qm 18 4),qt 17 (qo 19 (.un .not (.tmp 18))),qa 20 17 19] [0,1,20]
 (qC 20 (.reg [qm 21 0,qm 22 0,qn 23 22,qf 24 1 23,ql 25 24,qm 26 1,qo 27 (.bslice 33 1 [(Value.int IntKind.u64 0)] [(0, 1, (.tmp 26))]),
  qo 28 (.append 33 1 8 [(Value.int IntKind.u64 0)] (.tmp 25) (.tmp 27)),qn 29 21,qf 30 1 29,qs 1 30 28] [])
 .skip)))⟩)
theorem n88 : F88.n = 31 := rfl
theorem low88 : lowF Tryd.prog (kpO F88) (assoc []) 88 = some F88 := by kernel_rfl
def F92 : FIR := laid (X := ⟨36, [],
 (qS [qm 10 0,qn 11 10,qf 12 0 11,ql 13 12,qm 14 1,qx 15 80 [13,14],qm 9 15,qe 16 9 0,qe 17 9 1,qm 4 16,qm 5 17] [0,1,4]
 (qS [qm 18 4,qk 19 0] [0,1,18,19]
 (.block 0 (.loop (qS [qb 20 .lss 19 18] [0,1,18,19,20]
 (.seq (qC 20 .skip
 (.exit 0))
 (.seq (.block 1 (qS [qm 21 19,qm 6 21] [0,1,6,18,19]
 (qS [qm 23 0,qn 24 23,qf 25 0 24,ql 26 25,qm 27 1,qm 28 6,qx 29 16 [26,27,28],qm 22 29,qe 30 22 0,qe 31 22 1,qm 7 30,qm 8 31] [0,1,7,18,19]
 (.reg [qm 32 0,qm 33 7,qx 34 88 [32,33]] [0,1,18,19]))))
 (.reg [qc 35 .add 19 1,qm 19 35] [0,1,18,19]))))))))⟩)
theorem n92 : F92.n = 36 := rfl
theorem low92 : lowF Tryd.prog (kpO F92) (assoc []) 92 = some F92 := by kernel_rfl
def F94 : FIR := laid (X := ⟨23, [.tmp 4],
 (qS [qz 4 false] [0,1]
 (qS [qm 8 0,qn 9 8,qf 10 0 9,ql 11 10,qm 12 1,qx 13 23 [11,12],qm 7 13,qe 14 7 0,qe 15 7 1,
  qo 5 (.alloc 62 [(Value.int IntKind.i64 0), (Value.int IntKind.u8 0), (Value.int IntKind.i64 0), (Value.int IntKind.i64 0), (Value.int IntKind.i64 0), (Value.int IntKind.i64 0), (Value.bool false), (Value.bool false)]),
  qs 8 5 14,qm 6 15] [5,6]
 (qS [qm 16 6,qc 17 .eql 16 0,qm 18 17,qt 18 (qf 19 6 5),qt 18 (ql 20 19),qt 18 (qo 21 (.un .not (.tmp 20))),qa 22 18 21,qm 4 22] [4]
 .ret)))⟩)
theorem n94 : F94.n = 23 := rfl
theorem low94 : lowF Tryd.prog (kpO F94) (assoc []) 94 = some F94 := by kernel_rfl
def F109 : FIR := laid (X := ⟨19, [.tmp 4],
 (qS [qz 4 false] [0,1]
 (qS [qm 8 0,qn 9 8,qf 10 0 9,ql 11 10,qm 12 1,qo 13 (.call 16 [(.tmp 11), (.tmp 12), (.const (Value.int IntKind.i64 0))]),qm 7 13,
  qe 14 7 0,qe 15 7 1,qm 5 14,qm 6 15] [0,5]
 (qS [qm 16 0,qm 17 5,qx 18 94 [16,17],qm 4 18] [4]
 .ret)))⟩)
theorem n109 : F109.n = 19 := rfl
theorem low109 : lowF Tryd.prog (kpO F109) (assoc []) 109 = some F109 := by kernel_rfl
def F89 : FIR := laid (X := ⟨38, [],
 (qS [qm 7 0,qn 8 7,qf 9 0 8,ql 10 9,qm 11 1,qx 12 23 [10,11],qm 6 12,qe 13 6 0,qe 14 6 1,
  qo 4 (.alloc 62 [(Value.int IntKind.i64 0), (Value.int IntKind.u8 0), (Value.int IntKind.i64 0), (Value.int IntKind.i64 0), (Value.int IntKind.i64 0), (Value.int IntKind.i64 0), (Value.bool false), (Value.bool false)]),
  qs 8 4 13,qm 5 14] [0,1,4]
 (qS [qf 15 1 4,ql 16 15] [0,1,16]
 (.block 0 (.seq (.block 2 (.seq (.block 1 (.seq (.seq (qS [qo 18 (.bin .eql (.tmp 16) (.const (Value.int IntKind.u8 3))),qm 17 18] [0,1,16,17]
 (qC 17 (.exit 1)
 .skip))
 (.seq (qS [qo 20 (.bin .eql (.tmp 16) (.const (Value.int IntKind.u8 1))),qm 19 20] [0,1,16,19]
 (qC 19 .skip
 (.reg [qo 21 (.bin .eql (.tmp 16) (.const (Value.int IntKind.u8 6))),qm 19 21] [0,1,19])))
 (qC 19 (.exit 2)
 .skip)))
 (.exit 0)))
 (qS [qm 22 0,qm 23 1,qx 24 109 [22,23]] [0,1,24]
 (qC 24 (qS [qm 25 0,qm 26 0,qn 27 26,qf 28 2 27,ql 29 28,qm 30 1,qo 31 (.bslice 33 1 [(Value.int IntKind.u64 0)] [(0, 1, (.tmp 30))]),
  qo 32 (.append 33 1 8 [(Value.int IntKind.u64 0)] (.tmp 29) (.tmp 31)),qn 33 25,qf 34 2 33,qs 1 34 32] []
 .ret)
 .skip))))
 (qS [qm 35 0,qm 36 1,qx 37 92 [35,36]] []
 (.exit 0))))))⟩)
theorem n89 : F89.n = 38 := rfl
theorem low89 : lowF Tryd.prog (kpO F89) (assoc []) 89 = some F89 := by kernel_rfl
def F90 : FIR := laid (X := ⟨44, [.tmp 2],
 (qS [qz 2 false] [0]
 (qS [qm 6 0,qn 7 6,qf 8 2 7,ql 9 8,qm 3 9] [0,3]
 (qS [qm 10 0,qn 11 10,qf 12 2 11,⟨none,none,.store 1 (.tmp 12) (.const (Value.slice none 0 0))⟩] [0,3]
 (.seq (qS [qm 13 3,qL 14 13,qk 15 0] [0,3,13,14,15]
 (.block 0 (.loop (qS [qb 16 .lss 15 14] [0,3,13,14,15,16]
 (.seq (qC 16 .skip
 (.exit 0))
 (.seq (.block 1 (qS [qi 17 1 13 15,ql 18 17,qm 5 18] [0,3,5,13,14,15]
 (.seq (qS [qm 19 0,qm 20 5,qx 21 109 [19,20]] [0,3,5,13,14,15,21]
 (qC 21 (qS [qm 22 0,qm 23 0,qn 24 23,qf 25 2 24,ql 26 25,qm 27 5,qo 28 (.bslice 33 1 [(Value.int IntKind.u64 0)] [(0, 1, (.tmp 27))]),
  qo 29 (.append 33 1 8 [(Value.int IntKind.u64 0)] (.tmp 26) (.tmp 28)),qn 30 22,qf 31 2 30,qs 1 31 29] [0,3,13,14,15]
 (.exit 1))
 .skip))
 (.reg [qm 32 0,qm 33 5,qx 34 92 [32,33]] [0,3,13,14,15]))))
 (.reg [qc 35 .add 15 1,qm 15 35] [0,3,13,14,15])))))))
 (qS [qm 36 0,qn 37 36,qf 38 2 37,ql 39 38,qL 40 39,qm 41 3,qL 42 41,qb 43 .lss 40 42,qm 2 43] [2]
 .ret)))))⟩)
theorem n90 : F90.n = 44 := rfl
theorem low90 : lowF Tryd.prog (kpO F90) (assoc []) 90 = some F90 := by kernel_rfl
def F58 : FIR := laid (X := ⟨76, [],
 (qS [qB 1 121 0] [1]
 (.scope (.seq (qS [ql 7 1,qn 8 7,qf 9 0 8,ql 10 9,qx 11 43 [10]] [1,11]
 (.block 0 (.rangef (.tmp 11) [12] (.reg [qm 2 12] [1,2])
 (.block 1 (.reg [ql 13 1,qm 14 2,qx 15 88 [13,14]] [])))))
 (qS [qk 3 0] [1,3]
 (.seq (.label 0)
 (.block 2 (.loop (.block 3 (.seq (.block 4 (.loop (.seq (qS [qm 16 3,ql 17 1,qn 18 17,qf 19 1 18,ql 20 19,qL 21 20,qb 22 .lss 16 21] [1,3,22]
 (qC 22 .skip
 (.exit 4)))
 (.seq (.block 5 (qD [ql 25 1,ql 26 1,qn 27 26,qf 28 1 27,ql 29 28,qm 30 3,qi 31 1 29 30,ql 32 31,qx 33 89 [25,32]] [[0,1,2,3,4,5,6,7,8]] [1,3]))
 (.reg [qm 23 3,qc 24 .add 23 1,qm 3 24] [1,3])))))
 (.seq (.block 6 (qS [ql 35 1,qx 36 90 [35],qm 34 36] [1,3,34]
 (qC 34 (.exit 3)
 (qS [ql 38 1,qn 39 38,qf 40 2 39,ql 41 40,qL 42 41,qc 43 .eql 42 0,qm 37 43] [1,3,37]
 (qC 37 (.exit 2)
 .skip)))))
 (qS [ql 44 1,qn 45 44,qf 46 2 45,ql 47 46,qm 4 47] [1,3,4]
 (qS [ql 48 1,qn 49 48,qf 50 2 49,⟨none,none,.store 1 (.tmp 50) (.const (Value.slice none 0 0))⟩] [1,3,4]
 (.seq (qD [ql 51 1,ql 52 1,qn 53 52,qf 54 3 53,ql 55 54,qm 56 4,qo 57 (.append 33 1 8 [(Value.int IntKind.u64 0)] (.tmp 55) (.tmp 56)),
  qn 58 51,qf 59 3 58,qs 1 59 57] [[0,1,2,3,4,5,6,7,8,9], [1,2,3,4,5,6,0,7,8,9]] [1,3,4])
 (qS [qm 60 4,qL 61 60,qk 62 0] [1,3,60,61,62]
 (.block 7 (.loop (qS [qb 63 .lss 62 61] [1,3,60,61,62,63]
 (.seq (qC 63 .skip
 (.exit 7))
 (.seq (.block 8 (qS [qi 64 1 60 62,ql 65 64,qm 6 65] [1,3,6,60,61,62]
 (qS [ql 66 1,qn 67 66,qf 68 0 67,ql 69 68,qm 70 6,qo 71 (.call 91 [(.tmp 69), (.tmp 70), (.const (Value.int IntKind.u8 1))])] [1,3,6,60,61,62]
 (.reg [ql 72 1,qm 73 6,qx 74 92 [72,73]] [1,3,60,61,62]))))
 (.reg [qc 75 .add 62 1,qm 62 75] [1,3,60,61,62]))))))))))))))))))))⟩)
theorem n58 : F58.n = 76 := rfl
theorem low58 : lowF Tryd.prog (kpO F58) (assoc [(7,[[0,1,2,3,4,5,6,7,8]]), (12,[[0,1,2,3,4,5,6,7,8,9], [1,2,3,4,5,6,0,7,8,9]])]) 58 = some F58 := by kernel_rfl
def F59 : FIR := laid (X := ⟨20, [.cell1 2],
 (qS [qB 1 121 0,qo 2 (.alloc 3 [(Value.int IntKind.i64 0)])] [1,2]
 (qS [ql 6 1,qn 7 6,qf 8 0 7,ql 9 8,qo 10 (.call 22 [(.tmp 9), (.const (Value.int IntKind.i64 0))]),qm 5 10,qe 11 5 0,qe 12 5 1,
  qo 3 (.alloc 33 [(Value.int IntKind.u64 0)]),qs 1 3 11,qm 4 12] [1,2,3]
 (qS [ql 13 1,qn 14 13,qf 15 0 14,ql 16 15,qo 17 (.clos (.func 93) [] [(.tmp 1), (.tmp 3), (.tmp 2)]),qx 18 55 [16,17]] [2]
 (qS [ql 19 2,qs 1 2 19] [2]
 .ret))))⟩)
theorem n59 : F59.n = 20 := rfl
theorem low59 : lowF Tryd.prog (kpO F59) (assoc []) 59 = some F59 := by kernel_rfl
def F93 : FIR := laid (X := ⟨59, [.tmp 7],
 (qS [qz 7 false] [1,2,3,4]
 (qS [ql 14 2,qn 15 14,qf 16 0 15,ql 17 16,qm 18 1,qx 19 23 [17,18],qm 13 19,qe 20 13 0,qe 21 13 1,
  qo 8 (.alloc 62 [(Value.int IntKind.i64 0), (Value.int IntKind.u8 0), (Value.int IntKind.i64 0), (Value.int IntKind.i64 0), (Value.int IntKind.i64 0), (Value.int IntKind.i64 0), (Value.bool false), (Value.bool false)]),
  qs 8 8 20,qm 9 21] [1,2,3,4,8]
 (.seq (qS [qf 22 1 8,ql 23 22,qo 24 (.bin .neq (.tmp 23) (.const (Value.int IntKind.u8 2))),qm 25 24,qu 25 (qf 26 6 8),qu 25 (ql 27 26),
  qu 25 (qo 28 (.un .not (.tmp 27))),qr 29 25 28] [1,2,3,4,8,29]
 (qC 29 (qS [qz 7 true] [7]
 .ret)
 .skip))
 (.seq (qS [qf 30 5 8,ql 31 30,qk 32 0] [1,2,3,4,31,32]
 (.block 0 (.loop (qS [qb 33 .lss 32 31] [1,2,3,4,31,32,33]
 (.seq (qC 33 .skip
 (.exit 0))
 (.seq (.block 1 (qS [qm 34 32,qm 10 34] [1,2,3,4,10,31,32]
 (qS [ql 36 2,qn 37 36,qf 38 0 37,ql 39 38,qm 40 1,qm 41 10,qx 42 16 [39,40,41],qm 35 42,qe 43 35 0,qe 44 35 1,qm 11 43,qm 12 44] [1,2,3,4,10,11,31,32]
 (qS [ql 45 2,qm 46 11,qx 47 94 [45,46]] [1,2,3,4,10,31,32,47]
 (qC 47 (.seq (qD [ql 48 2,qn 49 48,qf 50 0 49,ql 51 50,qm 52 1,qm 53 10,ql 54 3,qx 55 9 [51,52,53,54]] [[0,1,2,3,4,5,6,7]] [1,2,3,4,31,32])
 (.reg [ql 56 4,qc 57 .add 56 1,qs 1 4 57] [1,2,3,4,31,32]))
 .skip)))))
 (.reg [qc 58 .add 32 1,qm 32 58] [1,2,3,4,31,32])))))))
 (qS [qz 7 true] [7]
 .ret)))))⟩)
theorem n93 : F93.n = 59 := rfl
theorem low93 : lowF Tryd.prog (kpO F93) (assoc [(9,[[0,1,2,3,4,5,6,7]])]) 93 = some F93 := by kernel_rfl
def F60 : FIR := laid (X := ⟨45, [.tmp 2],
 (qS [qB 1 121 0,qk 2 0] [1]
 (qS [qo 3 (.alloc 31 [(Value.slice none 0 0)])] [1,3]
 (qS [ql 8 1,qn 9 8,qf 10 0 9,ql 11 10,qo 12 (.clos (.func 95) [] [(.tmp 1), (.tmp 3)]),qx 13 55 [11,12]] [1,3]
 (.seq (qS [ql 14 3,qL 15 14,qk 16 0] [1,3,14,15,16]
 (.block 0 (.loop (qS [qb 17 .lss 16 15] [1,3,14,15,16,17]
 (.seq (qC 17 .skip
 (.exit 0))
 (.seq (.block 1 (qS [qi 18 1 14 16,ql 19 18,qm 5 19] [1,3,5,14,15,16]
 (.reg [ql 20 1,qn 21 20,qf 22 0 21,ql 23 22,qm 24 5,qx 25 96 [23,24]] [1,3,14,15,16])))
 (.reg [qc 26 .add 16 1,qm 16 26] [1,3,14,15,16])))))))
 (.seq (qS [ql 27 1,qn 28 27,qf 29 1 28,ql 30 29,qL 31 30,qk 32 0] [1,3,30,31,32]
 (.block 2 (.loop (qS [qb 33 .lss 32 31] [1,3,30,31,32,33]
 (.seq (qC 33 .skip
 (.exit 2))
 (.seq (.block 3 (qS [qi 34 1 30 32,ql 35 34,qm 7 35] [1,3,7,30,31,32]
 (.reg [ql 36 1,qn 37 36,qf 38 0 37,ql 39 38,qm 40 7,qo 41 (.call 57 [(.tmp 39), (.tmp 40), (.const (Value.bool false))])] [1,3,30,31,32])))
 (.reg [qc 42 .add 32 1,qm 32 42] [1,3,30,31,32])))))))
 (qS [ql 43 3,qL 44 43,qm 2 44] [2]
 .ret))))))⟩)
theorem n60 : F60.n = 45 := rfl
theorem low60 : lowF Tryd.prog (kpO F60) (assoc []) 60 = some F60 := by kernel_rfl
def F95 : FIR := laid (X := ⟨14, [.tmp 6],
 (qS [qz 6 false] [1,2,3]
 (.seq (qS [ql 7 2,qm 8 1,qx 9 94 [7,8]] [1,3,9]
 (qC 9 (.reg [ql 10 3,qm 11 1,qo 12 (.bslice 33 1 [(Value.int IntKind.u64 0)] [(0, 1, (.tmp 11))]),
  qo 13 (.append 33 1 8 [(Value.int IntKind.u64 0)] (.tmp 10) (.tmp 12)),qs 1 3 13] [])
 .skip))
 (qS [qz 6 true] [6]
 .ret)))⟩)
theorem n95 : F95.n = 14 := rfl
theorem low95 : lowF Tryd.prog (kpO F95) (assoc []) 95 = some F95 := by kernel_rfl
def F21 : FIR := laid (X := ⟨100, [.cellN 2 6],
 (qS [qB 1 25 0,
  qo 2 (.alloc 59 [(Value.int IntKind.i64 0), (Value.int IntKind.i64 0), (Value.int IntKind.i64 0), (Value.int IntKind.i64 0), (Value.int IntKind.i64 0), (Value.slice none 0 0)])] [1,2]
 (qS [ql 17 1,qo 18 (.clos (.func 56) [] [(.tmp 1)]),qx 19 55 [17,18]] [1,2]
 (qS [ql 20 1,
  qo 21 (.build [(Value.pointer none), (Value.slice none 0 0), (Value.slice none 0 0), (Value.slice none 0 0)] [(0, 1, (.tmp 20))]),qB 22 123 21,qm 3 22] [1,2,3]
 (qS [qm 23 3,qx 24 58 [23]] [1,2,3]
 (.seq (qD [qm 25 3,qn 26 25,qf 27 1 26,ql 28 27,qL 29 28,qm 30 3,qx 31 59 [30],
  qo 32 (.build [(Value.int IntKind.i64 0), (Value.int IntKind.i64 0), (Value.int IntKind.i64 0), (Value.int IntKind.i64 0), (Value.int IntKind.i64 0), (Value.slice none 0 0)] [(0, 1, (.tmp 29)), (4, 1, (.tmp 31))]),
  qo 4 (.alloc 59 [(Value.int IntKind.i64 0), (Value.int IntKind.i64 0), (Value.int IntKind.i64 0), (Value.int IntKind.i64 0), (Value.int IntKind.i64 0), (Value.slice none 0 0)]),
  qs 6 4 32] [[0,1,2,3,4,5,6,7,8,9], [0,1,2,5,6,3,4,7,8,9], [0,1,2,5,6,8,3,4,7,9], [0,1,2,3,4,5,8,6,7,9], [0,1,2,5,8,3,4,6,7,9], [0,1,2,5,8,6,3,4,7,9]] [1,2,3,4])
 (qS [qm 33 3,qx 34 60 [33],qf 35 1 4,qs 1 35 34] [1,2,3,4]
 (qS [qo 36 (.mkmap),qo 5 (.alloc 96 [(Value.map none)]),qs 1 5 36] [1,2,3,4,5]
 (.seq (qS [qm 37 3,qn 38 37,qf 39 3 38,ql 40 39,qL 41 40,qk 42 0] [1,2,3,4,5,40,41,42]
 (.block 0 (.loop (qS [qb 43 .lss 42 41] [1,2,3,4,5,40,41,42,43]
 (.seq (qC 43 .skip
 (.exit 0))
 (.seq (.block 1 (qS [qi 44 1 40 42,ql 45 44,qm 7 45] [1,2,3,4,5,7,40,41,42]
 (.reg [ql 46 5,qm 47 7,⟨none,none,.mapupd .int (.tmp 46) (.tmp 47) (.const (Value.int IntKind.i64 (-1)))⟩] [1,2,3,4,5,40,41,42])))
 (.reg [qc 48 .add 42 1,qm 42 48] [1,2,3,4,5,40,41,42])))))))
 (qS [qo 8 (.alloc 3 [(Value.int IntKind.i64 0)]),⟨none,none,.store 1 (.tmp 8) (.const (Value.int IntKind.i64 0))⟩] [1,2,3,4,5,8]
 (.seq (qS [ql 49 1,qo 50 (.call 61 [(.tmp 49), (.const (Value.int IntKind.u8 4))])] [1,2,3,4,5,8,50]
 (.block 2 (.rangef (.tmp 50) [51] (.reg [qm 9 51] [5,8,9])
 (.block 3 (.seq (qS [ql 53 5,qm 54 9,qo 55 (.lookup .int (Value.int IntKind.i64 0) true (.tmp 53) (.tmp 54)),qm 52 55,qe 56 52 0,qe 57 52 1,qm 10 56,
  qm 11 57] [5,8,9,11]
 (qS [qm 58 11] [5,8,9,58]
 (qC 58 (.reg [ql 59 5,qm 60 9,ql 61 8,⟨none,none,.mapupd .int (.tmp 59) (.tmp 60) (.tmp 61)⟩] [8])
 .skip)))
 (.reg [ql 62 8,qc 63 .add 62 1,qs 1 8 63] []))))))
 (qS [ql 64 1,qx 65 62 [64],qf 66 3 4,qs 1 66 65] [1,2,3,4,5]
 (qS [qo 12 (.alloc 31 [(Value.slice none 0 0)])] [1,2,3,4,5,12]
 (.seq (qS [ql 67 1,qo 68 (.call 61 [(.tmp 67), (.const (Value.int IntKind.u8 4))])] [2,3,4,5,12,68]
 (.block 4 (.rangef (.tmp 68) [69] (.reg [qm 13 69] [12,13])
 (.block 5 (.reg [ql 70 12,qm 71 13,qo 72 (.bslice 33 1 [(Value.int IntKind.u64 0)] [(0, 1, (.tmp 71))]),
  qo 73 (.append 33 1 8 [(Value.int IntKind.u64 0)] (.tmp 70) (.tmp 72)),qs 1 12 73] [])))))
 (.seq (qS [qm 74 3,qn 75 74,qf 76 3 75,ql 77 76,qL 78 77,qk 79 0] [2,4,5,12,77,78,79]
 (.block 6 (.loop (qS [qb 80 .lss 79 78] [2,4,5,12,77,78,79,80]
 (.seq (qC 80 .skip
 (.exit 6))
 (.seq (.block 7 (qS [qi 81 1 77 79,ql 82 81,qm 15 82] [2,4,5,12,15,77,78,79]
 (.seq (qS [ql 83 5,qm 84 15,qo 85 (.lookup .int (Value.int IntKind.i64 0) false (.tmp 83) (.tmp 84)),qm 16 85] [2,4,5,12,15,16,77,78,79]
 (qS [qm 86 16,qc 87 .geq 86 0] [2,4,5,12,15,16,77,78,79,87]
 (qC 87 (.reg [ql 88 12,qm 89 16,qi 90 1 88 89,ql 91 90,qm 15 91] [2,4,5,12,15,77,78,79])
 .skip)))
 (.reg [qf 92 5 4,ql 93 92,qm 94 15,qo 95 (.bslice 33 1 [(Value.int IntKind.u64 0)] [(0, 1, (.tmp 94))]),
  qo 96 (.append 33 1 8 [(Value.int IntKind.u64 0)] (.tmp 93) (.tmp 95)),qf 97 5 4,qs 1 97 96] [2,4,5,12,77,78,79]))))
 (.reg [qc 98 .add 79 1,qm 79 98] [2,4,5,12,77,78,79])))))))
 (qS [qN 99 6 4,qs 6 2 99] [2]
 .ret)))))))))))))))⟩)
theorem n21 : F21.n = 100 := rfl
theorem low21 : lowF Tryd.prog (kpO F21) (assoc [(4,[[0,1,2,3,4,5,6,7,8,9], [0,1,2,5,6,3,4,7,8,9], [0,1,2,5,6,8,3,4,7,9], [0,1,2,3,4,5,8,6,7,9], [0,1,2,5,8,3,4,6,7,9], [0,1,2,5,8,6,3,4,7,9]])]) 21 = some F21 := by kernel_rfl
def F56 : FIR := laid (X := ⟨9, [.tmp 5],
 (qS [qz 5 false] [1,2]
 (qS [ql 6 2,qm 7 1,qo 8 (.call 57 [(.tmp 6), (.tmp 7), (.const (Value.bool false))])] []
 (qS [qz 5 true] [5]
 .ret)))⟩)
theorem n56 : F56.n = 9 := rfl
theorem low56 : lowF Tryd.prog (kpO F56) (assoc []) 56 = some F56 := by kernel_rfl
def F84 : FIR := laid (X := ⟨14, [.tmp 4],
 (qS [qz 4 false] [0,1]
 (.seq (qS [qm 5 1,qx 6 71 [5]] [0,1,6]
 (.block 0 (.seq (qS [qo 8 (.bin .eql (.tmp 6) (.const (Value.int IntKind.u8 0))),qm 7 8] [0,1,6,7]
 (qC 7 .skip
 (qS [qo 9 (.bin .eql (.tmp 6) (.const (Value.int IntKind.u8 1))),qm 7 9] [0,1,6,7]
 (qC 7 .skip
 (.reg [qo 10 (.bin .eql (.tmp 6) (.const (Value.int IntKind.u8 2))),qm 7 10] [0,1,7])))))
 (qC 7 (qS [qz 4 true] [4]
 .ret)
 .skip))))
 (qS [qm 11 0,qm 12 1,qx 13 72 [11,12],qm 4 13] [4]
 .ret)))⟩)
theorem n84 : F84.n = 14 := rfl
theorem low84 : lowF Tryd.prog (kpO F84) (assoc []) 84 = some F84 := by kernel_rfl
def F86 : FIR := laid (X := ⟨70, [.tmp 6],
 (qS [qk 6 0] [0,1,2]
 (qS [qm 17 0,qm 18 2,qx 19 23 [17,18],qm 16 19,qe 20 16 0,qe 21 16 1,
  qo 7 (.alloc 62 [(Value.int IntKind.i64 0), (Value.int IntKind.u8 0), (Value.int IntKind.i64 0), (Value.int IntKind.i64 0), (Value.int IntKind.i64 0), (Value.int IntKind.i64 0), (Value.bool false), (Value.bool false)]),
  qs 8 7 20,qm 8 21] [0,1,2,7]
 (qS [qm 23 0,qm 24 2,qx 25 80 [23,24],qm 22 25,qe 26 22 0,qe 27 22 1,qm 9 26,qm 10 27] [0,1,2,7,9]
 (qS [qz 11 false] [0,1,2,7,9,11]
 (.seq (qS [qm 28 9,qk 29 0] [0,1,2,7,11,28,29]
 (.block 0 (.loop (qS [qb 30 .lss 29 28] [0,1,2,7,11,28,29,30]
 (.seq (qC 30 .skip
 (.exit 0))
 (.seq (.block 1 (qS [qm 31 29,qm 12 31] [0,1,2,7,11,12,28,29]
 (qS [qm 33 0,qm 34 2,qm 35 12,qx 36 16 [33,34,35],qm 32 36,qe 37 32 0,qe 38 32 1,qm 13 37,qm 14 38] [0,1,2,7,11,13,28,29]
 (.seq (qS [qm 39 0,qm 40 13,qx 41 84 [39,40],qo 42 (.un .not (.tmp 41))] [0,1,2,7,11,13,28,29,42]
 (qC 42 (qS [qk 6 42] [6]
 .ret)
 .skip))
 (qS [qm 43 0,qm 44 13,qx 45 73 [43,44],qm 15 45] [0,1,2,7,11,15,28,29]
 (.reg [qm 46 11,qm 47 46,qu 47 (qm 48 15),qu 47 (qo 49 (.bin .geq (.tmp 48) (.const (Value.int IntKind.u8 1)))),qu 47 (qm 50 49),
  qt 50 (qm 51 15),qt 50 (qo 52 (.bin .leq (.tmp 51) (.const (Value.int IntKind.u8 3)))),qu 47 (qa 53 50 52),qr 54 47 53,qm 11 54] [0,1,2,7,11,28,29]))))))
 (.reg [qc 55 .add 29 1,qm 29 55] [0,1,2,7,11,28,29])))))))
 (.seq (.block 2 (qS [qm 57 11,qm 58 57,qt 58 (qm 59 1),qt 58 (qo 60 (.bin .geq (.tmp 59) (.const (Value.int IntKind.u8 4)))),qa 61 58 60,qm 62 61,
  qt 62 (qf 63 7 7),qt 62 (ql 64 63),qt 62 (qo 65 (.un .not (.tmp 64))),qa 66 62 65,qm 56 66] [7,56]
 (qC 56 (qS [qk 6 44] [6]
 .ret)
 (qS [qf 68 6 7,ql 69 68,qm 67 69] [67]
 (qC 67 (qS [qk 6 1] [6]
 .ret)
 .skip)))))
 (qS [qk 6 0] [6]
 .ret)))))))⟩)
theorem n86 : F86.n = 70 := rfl
theorem low86 : lowF Tryd.prog (kpO F86) (assoc []) 86 = some F86 := by kernel_rfl
def F53 : FIR := laid (X := ⟨17, [.cell1 2, .cell1 3],
 (qS [qB 1 25 0,qo 2 (.alloc 26 [(Value.int IntKind.i64 0)]),qo 3 (.alloc 33 [(Value.int IntKind.u64 0)])] [1,2,3]
 (.seq (qS [ql 5 1,qx 6 43 [5]] [1,2,3,6]
 (.block 0 (.rangef (.tmp 6) [7] (.reg [qm 4 7] [1,2,3,4])
 (.block 1 (qS [ql 8 1,qm 9 4,qx 10 84 [8,9],qo 11 (.un .not (.tmp 10))] [2,3,11]
 (qC 11 (qS [⟨none,none,.store 1 (.tmp 2) (.const (Value.int IntKind.i64 45))⟩,⟨none,none,.store 1 (.tmp 3) (.const (Value.int IntKind.u64 0))⟩] [2,3]
 .ret)
 .skip))))))
 (qS [ql 12 1,qo 13 (.clos (.func 85) [] [(.tmp 1), (.tmp 2), (.tmp 3)]),qx 14 55 [12,13]] [2,3]
 (.seq (qD [ql 15 2,ql 16 3,qs 1 2 15,qs 1 3 16] [[0,1,2,3], [0,2,1,3]] [2,3])
 .ret))))⟩)
theorem n53 : F53.n = 17 := rfl
theorem low53 : lowF Tryd.prog (kpO F53) (assoc [(6,[[0,1,2,3], [0,2,1,3]])]) 53 = some F53 := by kernel_rfl
def F85 : FIR := laid (X := ⟨17, [.tmp 7],
 (qS [qz 7 false] [0,1,2,3,4]
 (.seq (qS [ql 8 2,qm 9 0,qm 10 1,qx 11 86 [8,9,10],qs 1 3 11] [1,3,4]
 (qS [ql 12 3,qc 13 .neq 12 0] [1,3,4,13]
 (qC 13 (.reg [qm 14 1,qs 1 4 14] [3])
 .skip)))
 (qS [ql 15 3,qc 16 .eql 15 0,qm 7 16] [7]
 .ret)))⟩)
theorem n85 : F85.n = 17 := rfl
theorem low85 : lowF Tryd.prog (kpO F85) (assoc []) 85 = some F85 := by kernel_rfl
def F19 : FIR := laid (X := ⟨178, [.tmp 0],
 (qS [qz 0 false] []
 (qS [qo 29 (.build [(Value.int IntKind.i64 0), (Value.int IntKind.i64 0), (Value.int IntKind.i64 0), (Value.int IntKind.i64 0), (Value.int IntKind.i64 0)] [(0, 1, (.const (Value.int IntKind.i64 64))), (1, 1, (.const (Value.int IntKind.i64 16))), (2, 1, (.const (Value.int IntKind.i64 64)))]),
  qx 30 7 [29],qm 28 30,qe 31 28 0,qe 32 28 1,qm 1 31,qm 2 32] [1,2]
 (.seq (qS [qm 33 1,qo 34 (.eqnil false .ptr (.tmp 33)),qm 35 34,qu 35 (qm 36 2),qu 35 (qc 37 .neq 36 0),qr 38 35 37] [1,38]
 (qC 38 (qS [qz 0 false] [0]
 .ret)
 .skip))
 (qS [qm 40 1,
  qo 41 (.call 8 [(.tmp 40), (.const (Value.int IntKind.u8 4)), (.const (Value.int IntKind.i64 1)), (.const (Value.int IntKind.u8 1)), (.const (Value.int IntKind.i64 0))]),
  qm 39 41,qe 42 39 0,qe 43 39 1,qm 3 42,qm 4 43] [1,3]
 (qS [qm 45 1,
  qo 46 (.call 8 [(.tmp 45), (.const (Value.int IntKind.u8 4)), (.const (Value.int IntKind.i64 1)), (.const (Value.int IntKind.u8 2)), (.const (Value.int IntKind.i64 2))]),
  qm 44 46,qe 47 44 0,qe 48 44 1,qm 5 47,qm 6 48] [1,3,5]
 (qS [qm 50 1,
  qo 51 (.call 8 [(.tmp 50), (.const (Value.int IntKind.u8 4)), (.const (Value.int IntKind.i64 1)), (.const (Value.int IntKind.u8 1)), (.const (Value.int IntKind.i64 0))]),
  qm 49 51,qe 52 49 0,qe 53 49 1,qm 7 52,qm 8 53] [1,3,5,7]
 (qS [qm 54 1,qm 55 5,qm 56 3,qo 57 (.call 9 [(.tmp 54), (.tmp 55), (.const (Value.int IntKind.i64 0)), (.tmp 56)])] [1,5,7]
 (qS [qm 58 1,qm 59 5,qm 60 7,qo 61 (.call 9 [(.tmp 58), (.tmp 59), (.const (Value.int IntKind.i64 1)), (.tmp 60)])] [1,5,7]
 (qS [qm 62 1,qm 63 5,qx 64 10 [62,63]] [1,7]
 (qS [qm 65 1,qm 66 7,qx 67 10 [65,66]] [1]
 (qS [qm 69 1,
  qo 70 (.call 8 [(.tmp 69), (.const (Value.int IntKind.u8 1)), (.const (Value.int IntKind.i64 1)), (.const (Value.int IntKind.u8 3)), (.const (Value.int IntKind.i64 2))]),
  qm 68 70,qe 71 68 0,qe 72 68 1,qm 9 71,qm 10 72] [1,9]
 (qS [qm 74 1,
  qo 75 (.call 8 [(.tmp 74), (.const (Value.int IntKind.u8 1)), (.const (Value.int IntKind.i64 1)), (.const (Value.int IntKind.u8 1)), (.const (Value.int IntKind.i64 0))]),
  qm 73 75,qe 76 73 0,qe 77 73 1,qm 11 76,qm 12 77] [1,9,11]
 (qS [qm 78 1,qm 79 9,qm 80 11,qo 81 (.call 9 [(.tmp 78), (.tmp 79), (.const (Value.int IntKind.i64 0)), (.tmp 80)])] [1,9]
 (qS [qm 82 1,qm 83 9,qx 84 10 [82,83]] [1,9]
 (qS [qm 85 1,qx 86 21 [85],
  qo 13 (.alloc 59 [(Value.int IntKind.i64 0), (Value.int IntKind.i64 0), (Value.int IntKind.i64 0), (Value.int IntKind.i64 0), (Value.int IntKind.i64 0), (Value.slice none 0 0)]),
  qs 6 13 86] [1,9,13]
 (qS [qm 88 1,qo 89 (.call 15 [(.tmp 88), (.const (Value.int IntKind.i64 0))]),qm 87 89,qe 90 87 0,qe 91 87 1,qm 14 90,qm 15 91] [1,9,13,14]
 (qS [qm 93 1,qm 94 14,qo 95 (.call 16 [(.tmp 93), (.tmp 94), (.const (Value.int IntKind.i64 0))]),qm 92 95,qe 96 92 0,qe 97 92 1,
  qm 16 96,qm 17 97] [1,9,13,14,16]
 (qS [qm 99 1,qm 100 14,qo 101 (.call 16 [(.tmp 99), (.tmp 100), (.const (Value.int IntKind.i64 1))]),qm 98 101,qe 102 98 0,qe 103 98 1,
  qm 18 102,qm 19 103] [1,9,13,16,18]
 (qS [qm 105 1,qo 106 (.call 15 [(.tmp 105), (.const (Value.int IntKind.i64 1))]),qm 104 106,qe 107 104 0,qe 108 104 1,qm 20 107,
  qm 21 108] [1,9,13,16,18,20]
 (qS [qm 110 1,qm 111 9,qx 112 23 [110,111],qm 109 112,qe 113 109 0,qe 114 109 1,
  qo 22 (.alloc 62 [(Value.int IntKind.i64 0), (Value.int IntKind.u8 0), (Value.int IntKind.i64 0), (Value.int IntKind.i64 0), (Value.int IntKind.i64 0), (Value.int IntKind.i64 0), (Value.bool false), (Value.bool false)]),
  qs 8 22 113,qm 23 114] [1,9,13,16,18,20,22]
 (qS [qm 116 1,qx 117 53 [116],qm 115 117,qe 118 115 0,qe 119 115 1,qm 24 118,qm 25 119] [9,13,16,18,20,22,24,25]
 (qS [qf 120 5 13,ql 121 120,qm 122 9,qo 123 (.bslice 33 1 [(Value.int IntKind.u64 0)] [(0, 1, (.tmp 122))]),qx 124 25 [121,123],
  qm 26 124] [13,16,18,20,22,24,25,26]
 (qS [qf 125 0 13,ql 126 125,qc 127 .eql 126 4,qm 128 127,qt 128 (qf 129 1 13),qt 128 (ql 130 129),qt 128 (qc 131 .eql 130 1),
  qa 132 128 131,qm 133 132,qt 133 (qf 134 3 13),qt 133 (ql 135 134),qt 133 (qc 136 .eql 135 2),qa 137 133 136,qm 138 137,qt 138 (qf 139 4 13),
  qt 138 (ql 140 139),qt 138 (qc 141 .eql 140 1),qa 142 138 141,qm 143 142,qt 143 (qm 144 26),qa 145 143 144,qm 146 145,qt 146 (qf 147 2 13),
  qt 146 (ql 148 147),qt 146 (qc 149 .eql 148 0),qa 150 146 149,qm 27 150] [16,18,20,22,24,25,27]
 (qS [qm 151 27,qm 152 151,qt 152 (qm 153 16),qt 152 (qo 154 (.bin .eql (.tmp 153) (.const (Value.int IntKind.u64 0)))),qa 155 152 154,
  qm 156 155,qt 156 (qm 157 18),qt 156 (qm 158 20),qt 156 (qb 159 .eql 157 158),qa 160 156 159,qm 161 160,qt 161 (qm 162 18),
  qt 161 (qo 163 (.bin .neq (.tmp 162) (.const (Value.int IntKind.u64 0)))),qa 164 161 163,qm 165 164,qt 165 (qf 166 1 22),qt 165 (ql 167 166),
  qt 165 (qo 168 (.bin .eql (.tmp 167) (.const (Value.int IntKind.u8 1)))),qa 169 165 168,qm 170 169,qt 170 (qm 171 24),qt 170 (qc 172 .eql 171 0),
  qa 173 170 172,qm 174 173,qt 174 (qm 175 25),qt 174 (qo 176 (.bin .eql (.tmp 175) (.const (Value.int IntKind.u64 0)))),qa 177 174 176,qm 0 177] [0]
 .ret))))))))))))))))))))))))⟩)
theorem n19 : F19.n = 178 := rfl
theorem low19 : lowF Tryd.prog (kpO F19) (assoc []) 19 = some F19 := by kernel_rfl
def F5 : FIR := laid (X := ⟨210, [.tmp 6],
 (qS [qz 6 false] [0,1,2]
 (qS [qx 30 19 [],qm 7 30] [0,1,2,7]
 (qS [qo 32 (.build [(Value.int IntKind.i64 0), (Value.int IntKind.i64 0), (Value.int IntKind.i64 0), (Value.int IntKind.i64 0), (Value.int IntKind.i64 0)] [(0, 1, (.const (Value.int IntKind.i64 2048))), (1, 1, (.const (Value.int IntKind.i64 1024))), (2, 1, (.const (Value.int IntKind.i64 4096)))]),
  qx 33 7 [32],qm 31 33,qe 34 31 0,qe 35 31 1,qm 8 34,qm 9 35] [0,1,2,7,8,9]
 (.seq (qS [qm 36 8,qo 37 (.eqnil false .ptr (.tmp 36)),qm 38 37,qu 38 (qm 39 9),qu 38 (qc 40 .neq 39 0),qr 41 38 40] [0,1,2,7,8,41]
 (qC 41 (qS [qz 6 false] [6]
 .ret)
 .skip))
 (qS [qm 42 0,qL 43 42,qo 44 (.min2 (.tmp 43) (.const (Value.int IntKind.i64 100))),qm 10 44] [0,1,2,7,8,10]
 (qS [qm 46 8,
  qo 47 (.call 8 [(.tmp 46), (.const (Value.int IntKind.u8 4)), (.const (Value.int IntKind.i64 4000)), (.const (Value.int IntKind.u8 1)), (.const (Value.int IntKind.i64 0))]),
  qm 45 47,qe 48 45 0,qe 49 45 1,qm 11 48,qm 12 49] [0,1,2,7,8,10,11]
 (qS [qm 50 8,qm 51 11,qo 52 (.call 20 [(.tmp 50), (.const (Value.int IntKind.i64 0)), (.tmp 51)])] [0,1,2,7,8,10]
 (qS [qo 13 (.mv (.const (Value.slice none 0 0)))] [0,1,2,7,8,10,13]
 (.seq (qS [qk 14 0] [0,1,2,7,8,10,13,14]
 (.block 0 (.loop (.seq (qS [qm 53 14,qm 54 10,qb 55 .lss 53 54] [0,1,2,7,8,10,13,14,55]
 (qC 55 .skip
 (.exit 0)))
 (.seq (.block 1 (qS [qo 15 (.mv (.const (Value.int IntKind.u8 1)))] [0,1,2,7,8,10,13,14,15]
 (.seq (qS [qm 58 0,qm 59 14,qi 60 1 58 59,ql 61 60,qc 62 .rem 61 2,qc 63 .eql 62 0] [0,1,2,7,8,10,13,14,15,63]
 (qC 63 (.reg [qo 15 (.mv (.const (Value.int IntKind.u8 4)))] [0,1,2,7,8,10,13,14,15])
 .skip))
 (qS [qm 65 8,qm 66 15,qm 67 14,
  qo 68 (.call 8 [(.tmp 65), (.tmp 66), (.tmp 67), (.const (Value.int IntKind.u8 5)), (.const (Value.int IntKind.i64 0))]),qm 64 68,qe 69 64 0,qe 70 64 1,
  qm 16 69,qm 17 70] [0,1,2,7,8,10,13,14,16,17]
 (.seq (qS [qm 71 17,qc 72 .neq 71 0] [0,1,2,7,8,10,13,14,16,72]
 (qC 72 (qS [qz 6 false] [6]
 .ret)
 .skip))
 (qS [qm 73 13,qm 74 16,qo 75 (.bslice 33 1 [(Value.int IntKind.u64 0)] [(0, 1, (.tmp 74))]),
  qo 76 (.append 33 1 8 [(Value.int IntKind.u64 0)] (.tmp 73) (.tmp 75)),qm 13 76] [0,1,2,7,8,10,13,14,16]
 (qS [qm 77 14,qm 78 2,qL 79 78,qb 80 .lss 77 79,qm 81 80,qt 81 (qm 82 2),qt 81 (qm 83 14),qt 81 (qi 84 1 82 83),qt 81 (ql 85 84),
  qa 86 81 85] [0,1,2,7,8,10,13,14,16,86]
 (qC 86 (.reg [qm 87 8,qm 88 16,qx 89 10 [87,88]] [0,1,2,7,8,10,13,14])
 .skip))))))))
 (.reg [qm 56 14,qc 57 .add 56 1,qm 14 57] [0,1,2,7,8,10,13,14]))))))
 (qS [qm 90 1,qL 91 90,qo 92 (.min2 (.tmp 91) (.const (Value.int IntKind.i64 100))),qm 18 92] [1,2,7,8,10,13,18]
 (qS [qm 94 8,qm 95 18,
  qo 96 (.call 8 [(.tmp 94), (.const (Value.int IntKind.u8 4)), (.const (Value.int IntKind.i64 4001)), (.const (Value.int IntKind.u8 2)), (.tmp 95)]),
  qm 93 96,qe 97 93 0,qe 98 93 1,qm 19 97,qm 20 98] [1,2,7,8,10,13,18,19,20]
 (.seq (qS [qm 99 20,qc 100 .neq 99 0] [1,2,7,8,10,13,18,19,100]
 (qC 100 (qS [qz 6 false] [6]
 .ret)
 .skip))
 (qS [qm 101 8,qm 102 19,qo 103 (.call 20 [(.tmp 101), (.const (Value.int IntKind.i64 1)), (.tmp 102)])] [1,2,7,8,10,13,18,19]
 (.seq (qS [qk 21 0] [1,2,7,8,10,13,18,19,21]
 (.block 2 (.loop (.seq (qS [qm 104 21,qm 105 18,qb 106 .lss 104 105,qm 107 106,qt 107 (qm 108 10),qt 107 (qc 109 .gtr 108 0),qa 110 107 109] [1,2,7,8,10,13,18,19,21,110]
 (qC 110 .skip
 (.exit 2)))
 (.seq (.block 3 (qS [qm 113 1,qm 114 21,qi 115 1 113 114,ql 116 115,qm 117 10,qb 118 .rem 116 117,qm 22 118] [1,2,7,8,10,13,18,19,21,22]
 (.seq (qS [qm 119 22,qc 120 .lss 119 0] [1,2,7,8,10,13,18,19,21,22,120]
 (qC 120 (.reg [qm 121 22,qo 122 (.un .neg (.tmp 121)),qm 22 122] [1,2,7,8,10,13,18,19,21,22])
 .skip))
 (.reg [qm 123 8,qm 124 19,qm 125 21,qm 126 13,qm 127 22,qi 128 1 126 127,ql 129 128,qx 130 9 [123,124,125,129]] [1,2,7,8,10,13,18,19,21]))))
 (.reg [qm 111 21,qc 112 .add 111 1,qm 21 112] [1,2,7,8,10,13,18,19,21]))))))
 (qS [qm 131 8,qx 132 21 [131]] [1,2,7,8,10,18]
 (qS [qm 134 8,qo 135 (.call 22 [(.tmp 134), (.const (Value.int IntKind.i64 1))]),qm 133 135,qe 136 133 0,qe 137 133 1,qm 19 136] [1,2,7,8,10,18,19]
 (qS [qm 139 8,qo 140 (.call 22 [(.tmp 139), (.const (Value.int IntKind.i64 0))]),qm 138 140,qe 141 138 0,qe 142 138 1,qm 11 141] [1,2,7,8,10,11,18,19]
 (.seq (qS [qk 23 0] [1,2,7,8,10,11,18,19,23]
 (.block 4 (.loop (.seq (qS [qm 143 23,qm 144 18,qb 145 .lss 143 144,qm 146 145,qt 146 (qm 147 10),qt 146 (qc 148 .gtr 147 0),qa 149 146 148] [1,2,7,8,10,11,18,19,23,149]
 (qC 149 .skip
 (.exit 4)))
 (.seq (.block 5 (qS [qm 152 1,qm 153 23,qi 154 1 152 153,ql 155 154,qm 156 10,qb 157 .rem 155 156,qm 24 157] [1,2,7,8,10,11,18,19,23,24]
 (.seq (qS [qm 158 24,qc 159 .lss 158 0] [1,2,7,8,10,11,18,19,23,24,159]
 (qC 159 (.reg [qm 160 24,qo 161 (.un .neg (.tmp 160)),qm 24 161] [1,2,7,8,10,11,18,19,23,24])
 .skip))
 (qS [qm 163 8,qm 164 19,qm 165 23,qx 166 16 [163,164,165],qm 162 166,qe 167 162 0,qe 168 162 1,qm 25 167,qm 26 168] [1,2,7,8,10,11,18,19,23,24,25,26]
 (qS [qm 169 24,qm 170 2,qL 171 170,qb 172 .lss 169 171,qm 173 172,qt 173 (qm 174 2),qt 173 (qm 175 24),qt 173 (qi 176 1 174 175),
  qt 173 (ql 177 176),qa 178 173 177,qm 27 178] [1,2,7,8,10,11,18,19,23,24,25,26,27]
 (qS [qm 180 8,qm 181 25,qx 182 23 [180,181],qm 179 182,qe 183 179 0,qe 184 179 1,
  qo 28 (.alloc 62 [(Value.int IntKind.i64 0), (Value.int IntKind.u8 0), (Value.int IntKind.i64 0), (Value.int IntKind.i64 0), (Value.int IntKind.i64 0), (Value.int IntKind.i64 0), (Value.bool false), (Value.bool false)]),
  qs 8 28 183,qm 29 184] [1,2,7,8,10,11,18,19,23,24,25,26,27,28,29]
 (qS [qm 185 26,qc 186 .neq 185 0,qm 187 186,qu 187 (qm 188 29),qu 187 (qc 189 .neq 188 0),qr 190 187 189,qm 191 190,qu 191 (qm 192 27),
  qu 191 (qm 193 192),qt 193 (qf 194 0 28),qt 193 (ql 195 194),qt 193 (qm 196 24),qt 193 (qb 197 .neq 195 196),qu 191 (qa 198 193 197),qr 199 191 198,
  qm 200 199,qu 200 (qm 201 27),qu 200 (qo 202 (.un .not (.tmp 201))),qu 200 (qm 203 202),qt 203 (qm 204 25),qt 203 (qm 205 11),
  qt 203 (qb 206 .neq 204 205),qu 200 (qa 207 203 206),qr 208 200 207] [1,2,7,8,10,11,18,19,23,208]
 (qC 208 (qS [qz 6 false] [6]
 .ret)
 .skip))))))))
 (.reg [qm 150 23,qc 151 .add 150 1,qm 23 151] [1,2,7,8,10,11,18,19,23]))))))
 (qS [qm 209 7,qm 6 209] [6]
 .ret)))))))))))))))))))⟩)
theorem n5 : F5.n = 210 := rfl
theorem low5 : lowF Tryd.prog (kpO F5) (assoc []) 5 = some F5 := by kernel_rfl
set_option maxHeartbeats 3200000
def turnW (x : HW) (b : Ob) (g : Hd → Hd) : HW := { x with a := headA x.a b g, ws := (x.ws.set b.at_ (pk (g b.hd))).set (b.at_ + 1) b.hd.slots }
theorem turnX_spec (p : Nat) (x : HW) (hx : HOk x) (o : Nat) (b : Ob) (hb : getO x.a.obs o = some b) (ho : o < 18446744073709551616) (fv : Value) (X X' : List Atom) (g : Hd → Hd) (hg : ∀ d, (g d).slots = d.slots) (hm : (g b.hd).May) (h6 : (g b.hd).fmt = 6 → b.hd.fmt = 6)
    (hf : ∀ q, FunV Tryd.prog fv [ptr0 q] [cellsAt q 0 (hdEnc b.hd), X] (fun v Post => v = vi 0 ∧ Post = [cellsAt q 0 (hdEnc (g b.hd)), X'])) :
    Fun Tryd.prog 51 [ptr0 p, uv o, fv] [HA p x, X] (fun r Post => (r = vi 0 ∧ HOk (turnW x b g)) ∧ Post = [HA p (turnW x b g), X']) := by
  obtain ⟨hw, hmm⟩ := hx.word hb
  have ha := at_spec p x hx o ho
  have hh := head_spec p x hx b hmm
  have key := hx.setH hmm hg hm h6
  have hlt := hx.lay.at_lt hmm
  have hset := setHead_spec p x b.at_ (g b.hd) hm hlt hx.lay.len
  rw [hg] at hset
  rw [hb, hw] at ha
  simp only [hdEnc] at hh hf hset
  refine Fun.intro low51 (by simp [n51]) ?_
  refine GOH ?_
  refine st_callS ha (by rfl) (by exact TKx) ?_
  refine GOH ?_
  refine st_callS hh (by rfl) (by exact TKx) ?_
  refine st_alloc (fun q => ?_)
  refine GOH ?_
  refine st_callV (by rfl) (hf q) (by rfl) (by exact SPx) (fun v Post hv => ?_)
  obtain ⟨rfl, rfl⟩ := hv
  simp only [CNx]
  refine GOH ?_
  refine st_call hset (by rfl) (by exact SPx) (fun v Post hv => ?_)
  obtain ⟨rfl, rfl⟩ := hv
  simp only [CNx]
  refine GOH ?_
  exact endQ_mk (.inr rfl) (.tmp (by rfl) .nil) ⟨⟨rfl, key⟩, rfl⟩ (by show Imp _ [HA p { x with ws := (x.ws.set b.at_ (pk (g b.hd))).set (b.at_ + 1) b.hd.slots }, X']; exact IMx)
theorem turn0_spec (p : Nat) (x : HW) (hx : HOk x) (o : Nat) (hb : getO x.a.obs o = none) (ho : o < 18446744073709551616) (fv : Value) (X : List Atom) (hfv : fv.cells = #[fv]) :
    Fun Tryd.prog 51 [ptr0 p, uv o, fv] [HA p x, X] (fun r Post => r = vi 42 ∧ Post = [HA p x, X]) := by
  have ha := at_spec p x hx o ho
  rw [hb] at ha
  refine Fun.intro low51 (by simp [n51]) ?_
  refine GOH ?_
  refine st_callS ha (by rfl) (by exact TKx) ?_
  refine GOH ?_
  exact endQ_mk (.inr rfl) (.tmp (by rfl) .nil) ⟨rfl, rfl⟩ (by exact IMx)
theorem may_setMk {h : Hd} (hm : h.May) (m : Bool) : (setMk m h).May := ⟨hm.cls, hm.hash, hm.age, hm.slots, hm.spare, hm.fmt, hm.plain, hm.eph, hm.meth, hm.some⟩
theorem may_setFm {h : Hd} (hm : h.May) (h3 : h.fmt ≤ 3) : (setFm h).May :=
  ⟨hm.cls, hm.hash, hm.age, hm.slots, hm.spare, by show 1 ≤ 1 ∧ 1 ≤ 6; omega, fun _ => hm.plain (by omega), fun e => absurd e (by show ¬ 1 = 3; omega), fun e => absurd e (by show ¬ 1 = 6; omega), fun e => absurd (hm.plain (by omega)) e⟩
theorem mark1_spec (h : Hd) (m w : Bool) (k1 k2 q : Nat) : FunV Tryd.prog (.func (.func 87) #[] #[ptr0 k1, ptr0 k2]) [ptr0 q] [cellsAt q 0 (hdEnc h), cellsAt k1 0 [.bool m] ++ cellsAt k2 0 [.bool w]]
    (fun v Post => v = vi 0 ∧ Post = [cellsAt q 0 (hdEnc (setMk m h)), cellsAt k1 0 [.bool m] ++ cellsAt k2 0 [.bool h.marked]]) := by
  refine FunV.of_fun ?_
  simp only [hdEnc, List.nil_append, List.cons_append]
  refine Fun.intro low87 (by simp [n87]) ?_
  refine VC.imp (H' := [cellsAt q 0 [vi h.cls, cv h.fmt, vi h.spare, vi h.hash, vi h.age, vi h.slots, .bool h.marked, .bool h.noted], cellsAt k1 0 [.bool m], cellsAt k2 0 [.bool w]]) (Imp.perm (by simp)) ?_
  refine GOH ?_
  refine VC.seq_draws (α := Unit) (fun _ => []) (fun _ => [cellsAt q 0 [vi h.cls, cv h.fmt, vi h.spare, vi h.hash, vi h.age, vi h.slots, .bool m, .bool h.noted], cellsAt k1 0 [.bool m], cellsAt k2 0 [.bool h.marked]]) (fun _ => True) ⟨?_, ?_, trivial⟩ (fun s _ => ?_)
  · refine GOH ?_
    exact ⟨(), trivial, by exact SUx, by exact IMx⟩
  · refine GOH ?_
    exact ⟨(), trivial, by exact SUx, by exact IMx⟩
  · refine GOH ?_
    refine endQ_mk (.inr rfl) (.tmp (by rfl) .nil) ⟨rfl, rfl⟩ (Imp.cut (M := [cellsAt q 0 [vi h.cls, cv h.fmt, vi h.spare, vi h.hash, vi h.age, vi h.slots, .bool m, .bool h.noted], cellsAt k1 0 [.bool m], cellsAt k2 0 [.bool h.marked]]) (by exact IMx) (Imp.perm (by simp [setMk])))
theorem mark_spec (p : Nat) (x : HW) (hx : HOk x) (o : Nat) (b : Ob) (hb : getO x.a.obs o = some b) (ho : o < 18446744073709551616) (m : Bool) :
    Fun Tryd.prog 57 [ptr0 p, uv o, .bool m] [HA p x] (fun r Post => (r = .tuple #[.bool b.hd.marked, vi 0] ∧ HOk (turnW x b (setMk m))) ∧ Post = [HA p (turnW x b (setMk m))]) := by
  have hok := (hx.lay.ok b (hx.word hb).2).may
  refine Fun.intro low57 (by simp [n57]) ?_
  refine VC.seq_reg ?_
  refine st_box (by rfl) (fun k1 => ?_)
  refine st_alloc (fun k2 => ?_)
  simp only [Value.cells]
  refine GOH ?_
  refine VO.imp (H' := [HA p x, cellsAt k1 0 [.bool m] ++ cellsAt k2 0 [.bool false]]) (Imp.cut (M := [HA p x, cellsAt k1 0 [.bool m], cellsAt k2 0 [.bool false]]) (by exact IMx) (Imp.perm (by simp))) ?_
  refine st_call (turnX_spec p x hx o b hb ho _ _ _ (setMk m) (fun _ => rfl) (may_setMk hok m) (fun e => e) (mark1_spec b.hd m false k1 k2)) (by rfl) (by exact SPx) (fun v Post hv => ?_)
  obtain ⟨⟨rfl, h1⟩, rfl⟩ := hv
  simp only [CNx]
  refine VO.imp (H' := [HA p (turnW x b (setMk m)), cellsAt k1 0 [.bool m], cellsAt k2 0 [.bool b.hd.marked]]) (Imp.perm (by simp)) ?_
  refine GOH ?_
  refine ⟨.inr rfl, _, _, .cell1 (by rfl) (by simp only [List.flatten_cons, List.mem_append, cellsAt, List.mem_singleton, List.mem_cons]; simp) (.tmp (by rfl) .nil), ?_, ⟨⟨rfl, h1⟩, rfl⟩⟩
  exact IMx
theorem mark0_spec (p : Nat) (x : HW) (hx : HOk x) (o : Nat) (hb : getO x.a.obs o = none) (ho : o < 18446744073709551616) (m : Bool) :
    Fun Tryd.prog 57 [ptr0 p, uv o, .bool m] [HA p x] (fun r Post => r = .tuple #[.bool false, vi 42] ∧ Post = [HA p x]) := by
  refine Fun.intro low57 (by simp [n57]) ?_
  refine VC.seq_reg ?_
  refine st_box (by rfl) (fun k1 => ?_)
  refine st_alloc (fun k2 => ?_)
  simp only [Value.cells]
  refine GOH ?_
  refine VO.imp (H' := [HA p x, [], cellsAt k2 0 [.bool false], cellsAt k1 0 [.bool m]]) (Imp.cut (M := [HA p x, cellsAt k2 0 [.bool false], cellsAt k1 0 [.bool m]]) (by exact IMx) (Imp.perm (by simp))) ?_
  refine st_call (turn0_spec p x hx o hb ho _ [] rfl) (by rfl) (by exact SPx) (fun v Post hv => ?_)
  obtain ⟨rfl, rfl⟩ := hv
  simp only [CNx]
  refine GOH ?_
  refine ⟨.inr rfl, _, _, .cell1 (by rfl) (by simp only [List.flatten_cons, List.mem_append, cellsAt, List.mem_singleton, List.mem_cons]; simp) (.tmp (by rfl) .nil), ?_, ⟨rfl, rfl⟩⟩
  exact IMx
theorem setFormat_spec (p : Nat) (x : HW) (hx : HOk x) (o : Nat) (b : Ob) (hb : getO x.a.obs o = some b) (ho : o < 18446744073709551616) (h3 : b.hd.fmt ≤ 3) :
    Fun Tryd.prog 91 [ptr0 p, uv o, cv 1] [HA p x] (fun r Post => (r = vi 0 ∧ HOk (turnW x b setFm)) ∧ Post = [HA p (turnW x b setFm)]) := by
  have hok := (hx.lay.ok b (hx.word hb).2).may
  have hf : ∀ k q, FunV Tryd.prog (.func (.func 110) #[] #[ptr0 k]) [ptr0 q] [cellsAt q 0 (hdEnc b.hd), cellsAt k 0 [cv 1]] (fun v Post => v = vi 0 ∧ Post = [cellsAt q 0 (hdEnc (setFm b.hd)), cellsAt k 0 [cv 1]]) := fun k q => by
    refine FunV.of_fun ?_
    simp only [hdEnc, List.nil_append, List.cons_append]
    have e3 : decide ((3 : Int) < (b.hd.fmt : Int)) = false := decide_eq_false (by omega)
    refine Fun.intro low110 (by simp [n110]) ?_
    refine GOH ?_
    rw [e3]
    refine GOH ?_
    exact endQ_mk (.inr rfl) (.tmp (by rfl) .nil) ⟨rfl, rfl⟩ (by simp only [setFm]; exact IMx)
  refine Fun.intro low91 (by simp [n91]) ?_
  refine VC.seq_reg ?_
  refine st_box (by rfl) (fun k => ?_)
  simp only [Value.cells]
  refine GOH ?_
  refine st_call (turnX_spec p x hx o b hb ho _ (cellsAt k 0 [cv 1]) (cellsAt k 0 [cv 1]) setFm (fun _ => rfl) (may_setFm hok h3) (fun e => absurd e (by show ¬ 1 = 6; omega)) (hf k)) (by rfl) (by exact SPx) (fun v Post hv => ?_)
  obtain ⟨⟨rfl, h1⟩, rfl⟩ := hv
  simp only [CNx]
  refine GOH ?_
  exact endQ_mk (.inr rfl) (.tmp (by rfl) .nil) ⟨⟨rfl, h1⟩, rfl⟩ (by exact IMx)
end Go.Proofs.YtmlnoodopoaafaaDoor

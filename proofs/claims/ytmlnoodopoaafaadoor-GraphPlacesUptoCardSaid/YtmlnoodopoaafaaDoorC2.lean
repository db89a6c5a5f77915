/-
  The code of functions, as terms: printed by a program, proved to be what the seat has.
-/
import Derived.Test.YtmlnoodopoaafaaDoorC1
import Derived.KernelRfl
import Derived.Test.YtmlnoodopoaafaaDoorProg
set_option linter.unusedSimpArgs false
set_option linter.unusedVariables false
namespace Go.Proofs.YtmlnoodopoaafaaDoor
open Go Go.V
set_option maxRecDepth 100000
def F106 : FIR := laid (X := ⟨39, [],
 (qS [qm 4 0,qn 5 4,qf 6 2 5,ql 7 6,qm 8 1,qo 9 (.lookup .int (Value.int IntKind.i64 0) false (.tmp 7) (.tmp 8)),qc 10 .eql 9 0,qm 11 10,
  qt 11 (qm 12 0),qt 11 (qn 13 12),qt 11 (qf 14 0 13),qt 11 (ql 15 14),qt 11 (qm 16 1),qt 11 (qx 17 72 [15,16]),qa 18 11 17] [0,1,18]
 (qC 18 (qS [qm 19 0,qm 20 0,qn 21 20,qf 22 1 21,ql 23 22,qm 24 1,qo 25 (.bslice 33 1 [(Value.int IntKind.u64 0)] [(0, 1, (.tmp 24))]),
  qo 26 (.append 33 1 8 [(Value.int IntKind.u64 0)] (.tmp 23) (.tmp 25)),qn 27 19,qf 28 1 27,qs 1 28 26] [0,1]
 (qD [qm 29 0,qn 30 29,qf 31 2 30,ql 32 31,qm 33 1,qm 34 0,qn 35 34,qf 36 1 35,ql 37 36,qL 38 37,
  ⟨none,none,.mapupd .int (.tmp 32) (.tmp 33) (.tmp 38)⟩] [[0,1,2,3,4,5,6,7,8,9,10]] []))
 .skip))⟩)
theorem n106 : F106.n = 39 := rfl
theorem low106 : lowF Tryd.prog (kpO F106) (assoc [(2,[[0,1,2,3,4,5,6,7,8,9,10]])]) 106 = some F106 := by kernel_rfl
def F75 : FIR := laid (X := ⟨21, [],
 (qS [qm 6 0,qn 7 6,qf 8 0 7,ql 9 8,qm 10 1,qx 11 46 [9,10],qL 12 11,qk 13 0] [0,11,12,13]
 (.block 0 (.loop (qS [qb 14 .lss 13 12] [0,11,12,13,14]
 (.seq (qC 14 .skip
 (.exit 0))
 (.seq (.block 1 (qS [qi 15 1 11 13,ql 16 15,qm 5 16] [0,5,11,12,13]
 (.reg [qm 17 0,qm 18 5,qx 19 106 [17,18]] [0,11,12,13])))
 (.reg [qc 20 .add 13 1,qm 13 20] [0,11,12,13])))))))⟩)
theorem n75 : F75.n = 21 := rfl
theorem low75 : lowF Tryd.prog (kpO F75) (assoc []) 75 = some F75 := by kernel_rfl
def F44 : FIR := laid (X := ⟨29, [.tmp 4],
 (qS [qo 4 (.mv (.const (Value.int IntKind.u64 0)))] [0,1]
 (.seq (qS [qm 8 1,qx 9 71 [8]] [0,1,9]
 (.block 0 (.seq (qS [qo 11 (.bin .eql (.tmp 9) (.const (Value.int IntKind.u8 0))),qm 10 11] [0,1,9,10]
 (qC 10 .skip
 (qS [qo 12 (.bin .eql (.tmp 9) (.const (Value.int IntKind.u8 1))),qm 10 12] [0,1,9,10]
 (qC 10 .skip
 (.reg [qo 13 (.bin .eql (.tmp 9) (.const (Value.int IntKind.u8 2))),qm 10 13] [0,1,10])))))
 (qC 10 (qS [qm 14 1,qm 4 14] [4]
 .ret)
 .skip))))
 (.seq (qS [qm 15 0,qn 16 15,qf 17 2 16,ql 18 17,qm 19 1,qo 20 (.lookup .int (Value.int IntKind.i64 0) false (.tmp 18) (.tmp 19)),qm 5 20] [5]
 (qS [qm 21 5,qc 22 .gtr 21 0] [5,22]
 (qC 22 (qS [qm 24 5,qx 25 66 [24],qm 23 25,qe 26 23 0,qe 27 23 1,qm 6 26,qm 7 27] [6]
 (qS [qm 28 6,qm 4 28] [4]
 .ret))
 .skip)))
 (qS [qo 4 (.mv (.const (Value.int IntKind.u64 4)))] [4]
 .ret))))⟩)
theorem n44 : F44.n = 29 := rfl
theorem low44 : lowF Tryd.prog (kpO F44) (assoc []) 44 = some F44 := by kernel_rfl
def F46 : FIR := laid (X := ⟨34, [.tmp 4],
 (qS [qo 4 (.mv (.const (Value.slice none 0 0)))] [0,1]
 (qS [qm 10 0,qm 11 1,qx 12 80 [10,11],qm 9 12,qe 13 9 0,qe 14 9 1,qm 5 13,qm 6 14] [0,1,5]
 (qS [qm 15 5,qo 16 (.mkslice 33 1 8 [(Value.int IntKind.u64 0)] (.tmp 15) (.tmp 15)),qm 7 16] [0,1,7]
 (.seq (qS [qm 17 7,qL 18 17,qk 19 0] [0,1,7,18,19]
 (.block 0 (.loop (qS [qb 20 .lss 19 18] [0,1,7,18,19,20]
 (.seq (qC 20 .skip
 (.exit 0))
 (.seq (.block 1 (qS [qm 21 19,qm 8 21] [0,1,7,8,18,19]
 (.reg [qm 23 7,qm 24 8,qm 25 0,qm 26 1,qm 27 8,qx 28 16 [25,26,27],qm 22 28,qe 29 22 0,qe 30 22 1,qi 31 1 23 24,qs 1 31 29] [0,1,7,18,19])))
 (.reg [qc 32 .add 19 1,qm 19 32] [0,1,7,18,19])))))))
 (qS [qm 33 7,qm 4 33] [4]
 .ret)))))⟩)
theorem n46 : F46.n = 34 := rfl
theorem low46 : lowF Tryd.prog (kpO F46) (assoc []) 46 = some F46 := by kernel_rfl
def F74 : FIR := laid (X := ⟨16, [.tmp 2],
 (qS [qo 2 (.mv (.const (Value.pointer none)))] [0]
 (qS [qm 5 0,qo 6 (.mkmap),
  qo 7 (.build [(Value.pointer none), (Value.slice none 0 0), (Value.map none)] [(0, 1, (.tmp 5)), (2, 1, (.tmp 6))]),qB 8 98 7,
  qo 3 (.alloc 94 [(Value.pointer none)]),qs 1 3 8] [0,3]
 (.seq (qS [qm 9 0,qx 10 43 [9]] [3,10]
 (.block 0 (.rangef (.tmp 10) [11] (.reg [qm 4 11] [3,4])
 (.block 1 (.reg [ql 12 3,qm 13 4,qx 14 106 [12,13]] [])))))
 (qS [ql 15 3,qm 2 15] [2]
 .ret))))⟩)
theorem n74 : F74.n = 16 := rfl
theorem low74 : lowF Tryd.prog (kpO F74) (assoc []) 74 = some F74 := by kernel_rfl
def F40 : FIR := laid (X := ⟨26, [.tmp 2],
 (qS [qo 2 (.mv (.const (Value.pointer none)))] [0]
 (qS [qm 5 0,qx 6 74 [5],qm 3 6] [3]
 (.seq (qS [qk 4 0] [3,4]
 (.block 0 (.loop (.seq (qS [qm 7 4,qm 8 3,qn 9 8,qf 10 1 9,ql 11 10,qL 12 11,qb 13 .lss 7 12] [3,4,13]
 (qC 13 .skip
 (.exit 0)))
 (.seq (.block 1 (.reg [qm 16 3,qm 17 3,qn 18 17,qf 19 1 18,ql 20 19,qm 21 4,qi 22 1 20 21,ql 23 22,qx 24 75 [16,23]] [3,4]))
 (.reg [qm 14 4,qc 15 .add 14 1,qm 4 15] [3,4]))))))
 (qS [qm 25 3,qm 2 25] [2]
 .ret))))⟩)
theorem n40 : F40.n = 26 := rfl
theorem low40 : lowF Tryd.prog (kpO F40) (assoc []) 40 = some F40 := by kernel_rfl
def F24 : FIR := laid (X := ⟨8, [.tmp 2],
 (qS [qo 2 (.mv (.const (Value.slice none 0 0)))] [0]
 (qS [qm 3 0,qx 4 40 [3],qn 5 4,qf 6 1 5,ql 7 6,qm 2 7] [2]
 .ret))⟩)
theorem n24 : F24.n = 8 := rfl
theorem low24 : lowF Tryd.prog (kpO F24) (assoc []) 24 = some F24 := by kernel_rfl
def F47 : FIR := laid (X := ⟨74, [.tmp 6],
 (qS [qB 5 62 2,qo 6 (.mv (.const (Value.slice none 0 0)))] [0,1,5,6]
 (.seq (qS [qf 15 1 5,ql 16 15,qo 17 (.bin .eql (.tmp 16) (.const (Value.int IntKind.u8 4)))] [0,1,5,6,17]
 (qC 17 (.seq (qS [qf 18 5 5,ql 19 18,qk 20 0] [0,1,6,19,20]
 (.block 0 (.loop (qS [qb 21 .lss 20 19] [0,1,6,19,20,21]
 (.seq (qC 21 .skip
 (.exit 0))
 (.seq (.block 1 (qS [qm 22 20,qm 7 22] [0,1,6,7,19,20]
 (qS [qm 24 0,qm 25 1,qm 26 7,qx 27 81 [24,25,26],qm 23 27,qe 28 23 0,qe 29 23 1,qm 8 28,qm 9 29] [0,1,6,8,19,20]
 (.reg [qm 30 6,qm 31 8,qo 32 (.bslice 32 1 [(Value.int IntKind.u64 0)] [(0, 1, (.tmp 31))]),
  qo 33 (.append 32 1 8 [(Value.int IntKind.u64 0)] (.tmp 30) (.tmp 32)),qm 6 33] [0,1,6,19,20]))))
 (.reg [qc 34 .add 20 1,qm 20 34] [0,1,6,19,20])))))))
 (qS [qm 35 6,qm 6 35] [6]
 .ret))
 .skip))
 (qS [qm 37 0,qm 38 1,qx 39 82 [37,38],qm 36 39,qe 40 36 0,qe 41 36 1,qm 10 40,qm 11 41] [0,1,6,10]
 (.seq (qS [qm 42 10,qk 43 0] [0,1,6,42,43]
 (.block 2 (.loop (qS [qb 44 .lss 43 42] [0,1,6,42,43,44]
 (.seq (qC 44 .skip
 (.exit 2))
 (.seq (.block 3 (qS [qm 45 43,qm 12 45] [0,1,6,12,42,43]
 (qS [qm 47 0,qm 48 1,qm 49 12,qx 50 17 [47,48,49],qm 46 50,qe 51 46 0,qe 52 46 1,qm 13 51,qm 14 52] [0,1,6,12,13,42,43]
 (.seq (qS [qm 53 12,qc 54 .rem 53 8,qc 55 .eql 54 0] [0,1,6,12,13,42,43,55]
 (qC 55 (.reg [qm 56 6,qo 57 (.bslice 32 1 [(Value.int IntKind.u64 0)] [(0, 1, (.const (Value.int IntKind.u64 0)))]),
  qo 58 (.append 32 1 8 [(Value.int IntKind.u64 0)] (.tmp 56) (.tmp 57)),qm 6 58] [0,1,6,12,13,42,43])
 .skip))
 (qD [qm 59 6,qm 60 12,qc 61 .quo 60 8,qi 62 1 59 61,ql 63 62,qm 64 13,qo 65 (.conv .u64 (.tmp 64)),qm 66 12,qc 67 .rem 66 8,
  qc 68 .mul 67 8,qb 69 .shl 65 68,qb 70 .or 63 69,qi 71 1 59 61,qs 1 71 70] [[0,1,2,3,4,5,6,7,8,9,10,11,12,13]] [0,1,6,42,43])))))
 (.reg [qc 72 .add 43 1,qm 43 72] [0,1,6,42,43])))))))
 (qS [qm 73 6,qm 6 73] [6]
 .ret)))))⟩)
theorem n47 : F47.n = 74 := rfl
theorem low47 : lowF Tryd.prog (kpO F47) (assoc [(16,[[0,1,2,3,4,5,6,7,8,9,10,11,12,13]])]) 47 = some F47 := by kernel_rfl
def F11 : FIR := laid (X := ⟨91, [.tmp 2],
 (qS [qo 2 (.mv (.const (Value.slice none 0 0)))] [0]
 (qS [qm 15 0,qx 16 40 [15],qo 3 (.alloc 94 [(Value.pointer none)]),qs 1 3 16] [0,3]
 (.seq (qD [ql 17 3,qn 18 17,qf 19 1 18,ql 20 19,qL 21 20,qo 22 (.conv .u64 (.tmp 21)),qm 23 0,qx 24 41 [23],qo 25 (.conv .u64 (.tmp 24)),
  qm 26 0,qx 27 42 [26],qo 28 (.conv .u64 (.tmp 27)),
  qo 29 (.bslice 32 3 [(Value.int IntKind.u64 0)] [(0, 1, (.tmp 22)), (1, 1, (.tmp 25)), (2, 1, (.tmp 28))]),qo 4 (.alloc 42 [(Value.slice none 0 0)]),
  qs 1 4 29] [[0,1,2,3,4,5,6,7,8,9,10,11,12,13,14], [0,1,2,6,7,3,4,5,8,9,10,11,12,13,14], [6,7,0,1,2,3,4,5,8,9,10,11,12,13,14], [0,1,2,6,7,8,9,10,3,4,5,11,12,13,14], [6,7,0,1,2,8,9,10,3,4,5,11,12,13,14], [6,7,8,9,10,0,1,2,3,4,5,11,12,13,14], [0,1,2,3,4,5,6,7,8,9,10,11,13,12,14], [0,1,2,6,7,3,4,5,8,9,10,11,13,12,14], [6,7,0,1,2,3,4,5,8,9,10,11,13,12,14], [0,1,2,6,7,8,9,10,3,4,5,11,13,12,14], [6,7,0,1,2,8,9,10,3,4,5,11,13,12,14], [6,7,8,9,10,0,1,2,3,4,5,11,13,12,14], [0,1,2,6,7,8,9,10,11,13,3,4,5,12,14], [6,7,0,1,2,8,9,10,11,13,3,4,5,12,14], [6,7,8,9,10,0,1,2,11,13,3,4,5,12,14], [6,7,8,9,10,11,13,0,1,2,3,4,5,12,14], [0,1,2,3,4,5,6,7,8,9,13,10,11,12,14], [0,1,2,6,7,3,4,5,8,9,13,10,11,12,14], [6,7,0,1,2,3,4,5,8,9,13,10,11,12,14], [0,1,2,6,7,8,9,13,3,4,5,10,11,12,14], [6,7,0,1,2,8,9,13,3,4,5,10,11,12,14], [6,7,8,9,13,0,1,2,3,4,5,10,11,12,14], [0,1,2,6,7,8,9,13,10,3,4,5,11,12,14], [6,7,0,1,2,8,9,13,10,3,4,5,11,12,14], [6,7,8,9,13,0,1,2,10,3,4,5,11,12,14], [6,7,8,9,13,10,0,1,2,3,4,5,11,12,14], [0,1,2,3,4,5,6,9,13,7,8,10,11,12,14], [0,1,2,6,9,13,3,4,5,7,8,10,11,12,14], [6,9,13,0,1,2,3,4,5,7,8,10,11,12,14], [0,1,2,6,9,13,7,3,4,5,8,10,11,12,14], [6,9,13,0,1,2,7,3,4,5,8,10,11,12,14], [6,9,13,7,0,1,2,3,4,5,8,10,11,12,14], [0,1,2,6,9,13,7,8,10,3,4,5,11,12,14], [6,9,13,0,1,2,7,8,10,3,4,5,11,12,14], [6,9,13,7,0,1,2,8,10,3,4,5,11,12,14], [6,9,13,7,8,10,0,1,2,3,4,5,11,12,14]] [0,3,4])
 (.seq (qS [qm 30 0,qx 31 43 [30]] [0,3,4,31]
 (.block 0 (.rangef (.tmp 31) [32] (.reg [qm 5 32] [3,4,5])
 (.block 1 (qD [ql 33 4,ql 34 3,qm 35 5,qx 36 44 [34,35],qo 37 (.bslice 32 1 [(Value.int IntKind.u64 0)] [(0, 1, (.tmp 36))]),
  qo 38 (.append 32 1 8 [(Value.int IntKind.u64 0)] (.tmp 33) (.tmp 37)),qs 1 4 38] [[0,1,2,3,4,5,6], [1,2,3,0,4,5,6]] [])))))
 (.seq (qS [ql 39 3,qn 40 39,qf 41 1 40,ql 42 41,qL 43 42,qk 44 0] [0,3,4,42,43,44]
 (.block 2 (.loop (qS [qb 45 .lss 44 43] [0,3,4,42,43,44,45]
 (.seq (qC 45 .skip
 (.exit 2))
 (.seq (.block 3 (qS [qi 46 1 42 44,ql 47 46,qm 7 47] [0,3,4,7,42,43,44]
 (qS [qm 49 0,qm 50 7,qx 51 23 [49,50],qm 48 51,qe 52 48 0,qe 53 48 1,
  qo 8 (.alloc 62 [(Value.int IntKind.i64 0), (Value.int IntKind.u8 0), (Value.int IntKind.i64 0), (Value.int IntKind.i64 0), (Value.int IntKind.i64 0), (Value.int IntKind.i64 0), (Value.bool false), (Value.bool false)]),
  qs 8 8 52,qm 9 53] [0,3,4,7,8,42,43,44]
 (qS [qf 54 4 8,⟨none,none,.store 1 (.tmp 54) (.const (Value.int IntKind.i64 0))⟩,qf 55 6 8,
  ⟨none,none,.store 1 (.tmp 55) (.const (Value.bool false))⟩,qf 56 7 8,⟨none,none,.store 1 (.tmp 56) (.const (Value.bool false))⟩] [0,3,4,7,8,42,43,44]
 (qS [qN 58 8 8,qx 59 45 [58],qm 57 59,qe 60 57 0,qe 61 57 1,qe 62 57 2,qm 10 60,qm 11 61,qm 12 62] [0,3,4,7,8,10,11,42,43,44]
 (qS [ql 63 4,qm 64 10,qm 65 11,qo 66 (.bslice 32 2 [(Value.int IntKind.u64 0)] [(0, 1, (.tmp 64)), (1, 1, (.tmp 65))]),
  qo 67 (.append 32 1 8 [(Value.int IntKind.u64 0)] (.tmp 63) (.tmp 66)),qs 1 4 67] [0,3,4,7,8,42,43,44]
 (.seq (qS [qm 68 0,qm 69 7,qx 70 46 [68,69],qL 71 70,qk 72 0] [0,3,4,7,8,42,43,44,70,71,72]
 (.block 4 (.loop (qS [qb 73 .lss 72 71] [0,3,4,7,8,42,43,44,70,71,72,73]
 (.seq (qC 73 .skip
 (.exit 4))
 (.seq (.block 5 (qS [qi 74 1 70 72,ql 75 74,qm 14 75] [0,3,4,7,8,14,42,43,44,70,71,72]
 (qD [ql 76 4,ql 77 3,qm 78 14,qx 79 44 [77,78],qo 80 (.bslice 32 1 [(Value.int IntKind.u64 0)] [(0, 1, (.tmp 79))]),
  qo 81 (.append 32 1 8 [(Value.int IntKind.u64 0)] (.tmp 76) (.tmp 80)),qs 1 4 81] [[0,1,2,3,4,5,6], [1,2,3,0,4,5,6]] [0,3,4,7,8,42,43,44,70,71,72])))
 (.reg [qc 82 .add 72 1,qm 72 82] [0,3,4,7,8,42,43,44,70,71,72])))))))
 (qD [ql 83 4,qm 84 0,qm 85 7,qN 86 8 8,qx 87 47 [84,85,86],qo 88 (.append 32 1 8 [(Value.int IntKind.u64 0)] (.tmp 83) (.tmp 87)),
  qs 1 4 88] [[0,1,2,3,4,5,6], [1,2,3,4,0,5,6]] [0,3,4,42,43,44]))))))))
 (.reg [qc 89 .add 44 1,qm 44 89] [0,3,4,42,43,44])))))))
 (qS [ql 90 4,qm 2 90] [2]
 .ret))))))⟩)
theorem n11 : F11.n = 91 := rfl
theorem low11 : lowF Tryd.prog (kpO F11) (assoc [(2,[[0,1,2,3,4,5,6,7,8,9,10,11,12,13,14], [0,1,2,6,7,3,4,5,8,9,10,11,12,13,14], [6,7,0,1,2,3,4,5,8,9,10,11,12,13,14], [0,1,2,6,7,8,9,10,3,4,5,11,12,13,14], [6,7,0,1,2,8,9,10,3,4,5,11,12,13,14], [6,7,8,9,10,0,1,2,3,4,5,11,12,13,14], [0,1,2,3,4,5,6,7,8,9,10,11,13,12,14], [0,1,2,6,7,3,4,5,8,9,10,11,13,12,14], [6,7,0,1,2,3,4,5,8,9,10,11,13,12,14], [0,1,2,6,7,8,9,10,3,4,5,11,13,12,14], [6,7,0,1,2,8,9,10,3,4,5,11,13,12,14], [6,7,8,9,10,0,1,2,3,4,5,11,13,12,14], [0,1,2,6,7,8,9,10,11,13,3,4,5,12,14], [6,7,0,1,2,8,9,10,11,13,3,4,5,12,14], [6,7,8,9,10,0,1,2,11,13,3,4,5,12,14], [6,7,8,9,10,11,13,0,1,2,3,4,5,12,14], [0,1,2,3,4,5,6,7,8,9,13,10,11,12,14], [0,1,2,6,7,3,4,5,8,9,13,10,11,12,14], [6,7,0,1,2,3,4,5,8,9,13,10,11,12,14], [0,1,2,6,7,8,9,13,3,4,5,10,11,12,14], [6,7,0,1,2,8,9,13,3,4,5,10,11,12,14], [6,7,8,9,13,0,1,2,3,4,5,10,11,12,14], [0,1,2,6,7,8,9,13,10,3,4,5,11,12,14], [6,7,0,1,2,8,9,13,10,3,4,5,11,12,14], [6,7,8,9,13,0,1,2,10,3,4,5,11,12,14], [6,7,8,9,13,10,0,1,2,3,4,5,11,12,14], [0,1,2,3,4,5,6,9,13,7,8,10,11,12,14], [0,1,2,6,9,13,3,4,5,7,8,10,11,12,14], [6,9,13,0,1,2,3,4,5,7,8,10,11,12,14], [0,1,2,6,9,13,7,3,4,5,8,10,11,12,14], [6,9,13,0,1,2,7,3,4,5,8,10,11,12,14], [6,9,13,7,0,1,2,3,4,5,8,10,11,12,14], [0,1,2,6,9,13,7,8,10,3,4,5,11,12,14], [6,9,13,0,1,2,7,8,10,3,4,5,11,12,14], [6,9,13,7,0,1,2,8,10,3,4,5,11,12,14], [6,9,13,7,8,10,0,1,2,3,4,5,11,12,14]]), (5,[[0,1,2,3,4,5,6], [1,2,3,0,4,5,6]]), (16,[[0,1,2,3,4,5,6], [1,2,3,0,4,5,6]]), (18,[[0,1,2,3,4,5,6], [1,2,3,4,0,5,6]])]) 11 = some F11 := by kernel_rfl
def F13 : FIR := laid (X := ⟨10, [.tmp 4],
 (qS [qz 4 false] [0,1]
 (qS [qm 5 0,qx 6 11 [5],qm 7 1,qx 8 11 [7],qx 9 48 [6,8],qm 4 9] [4]
 .ret))⟩)
theorem n13 : F13.n = 10 := rfl
theorem low13 : lowF Tryd.prog (kpO F13) (assoc []) 13 = some F13 := by kernel_rfl
def F12 : FIR := laid (X := ⟨26, [.tmp 4],
 (qS [qz 4 false] [0,1]
 (.seq (qS [qm 6 0,qL 7 6,qm 8 1,qL 9 8,qb 10 .neq 7 9] [0,1,10]
 (qC 10 (qS [qz 4 false] [4]
 .ret)
 .skip))
 (.seq (qS [qk 5 0] [0,1,5]
 (.block 0 (.loop (.seq (qS [qm 11 5,qm 12 0,qL 13 12,qb 14 .lss 11 13] [0,1,5,14]
 (qC 14 .skip
 (.exit 0)))
 (.seq (.block 1 (.seq (qD [qm 17 0,qm 18 5,qi 19 1 17 18,ql 20 19,qm 21 1,qm 22 5,qi 23 1 21 22,ql 24 23,qb 25 .neq 20 24] [[0,1,2,3,4,5,6,7,8]] [0,1,5,25])
 (qC 25 (qS [qz 4 false] [4]
 .ret)
 .skip)))
 (.reg [qm 15 5,qc 16 .add 15 1,qm 5 16] [0,1,5]))))))
 (qS [qz 4 true] [4]
 .ret))))⟩)
theorem n12 : F12.n = 26 := rfl
theorem low12 : lowF Tryd.prog (kpO F12) (assoc [(6,[[0,1,2,3,4,5,6,7,8]])]) 12 = some F12 := by kernel_rfl
def F25 : FIR := laid (X := ⟨26, [.tmp 4],
 (qS [qz 4 false] [0,1]
 (.seq (qS [qm 6 0,qL 7 6,qm 8 1,qL 9 8,qb 10 .neq 7 9] [0,1,10]
 (qC 10 (qS [qz 4 false] [4]
 .ret)
 .skip))
 (.seq (qS [qk 5 0] [0,1,5]
 (.block 0 (.loop (.seq (qS [qm 11 5,qm 12 0,qL 13 12,qb 14 .lss 11 13] [0,1,5,14]
 (qC 14 .skip
 (.exit 0)))
 (.seq (.block 1 (.seq (qD [qm 17 0,qm 18 5,qi 19 1 17 18,ql 20 19,qm 21 1,qm 22 5,qi 23 1 21 22,ql 24 23,qb 25 .neq 20 24] [[0,1,2,3,4,5,6,7,8]] [0,1,5,25])
 (qC 25 (qS [qz 4 false] [4]
 .ret)
 .skip)))
 (.reg [qm 15 5,qc 16 .add 15 1,qm 5 16] [0,1,5]))))))
 (qS [qz 4 true] [4]
 .ret))))⟩)
theorem n25 : F25.n = 26 := rfl
theorem low25 : lowF Tryd.prog (kpO F25) (assoc [(6,[[0,1,2,3,4,5,6,7,8]])]) 25 = some F25 := by kernel_rfl
def F48 : FIR := laid (X := ⟨26, [.tmp 4],
 (qS [qz 4 false] [0,1]
 (.seq (qS [qm 6 0,qL 7 6,qm 8 1,qL 9 8,qb 10 .neq 7 9] [0,1,10]
 (qC 10 (qS [qz 4 false] [4]
 .ret)
 .skip))
 (.seq (qS [qm 11 0,qL 12 11,qk 13 0] [0,1,12,13]
 (.block 0 (.loop (qS [qb 14 .lss 13 12] [0,1,12,13,14]
 (.seq (qC 14 .skip
 (.exit 0))
 (.seq (.block 1 (qS [qm 15 13,qm 5 15] [0,1,5,12,13]
 (.seq (qD [qm 16 0,qm 17 5,qi 18 1 16 17,ql 19 18,qm 20 1,qm 21 5,qi 22 1 20 21,ql 23 22,qb 24 .neq 19 23] [[0,1,2,3,4,5,6,7,8]] [0,1,12,13,24])
 (qC 24 (qS [qz 4 false] [4]
 .ret)
 .skip))))
 (.reg [qc 25 .add 13 1,qm 13 25] [0,1,12,13])))))))
 (qS [qz 4 true] [4]
 .ret))))⟩)
theorem n48 : F48.n = 26 := rfl
theorem low48 : lowF Tryd.prog (kpO F48) (assoc [(6,[[0,1,2,3,4,5,6,7,8]])]) 48 = some F48 := by kernel_rfl
def F6 : FIR := laid (X := ⟨112, [.tmp 0],
 (qS [qz 0 false] []
 (qS [qo 10 (.build [(Value.int IntKind.i64 0), (Value.int IntKind.i64 0), (Value.int IntKind.i64 0), (Value.int IntKind.i64 0), (Value.int IntKind.i64 0)] [(0, 1, (.const (Value.int IntKind.i64 64))), (1, 1, (.const (Value.int IntKind.i64 16))), (2, 1, (.const (Value.int IntKind.i64 64)))]),
  qx 11 7 [10],qm 9 11,qe 12 9 0,qe 13 9 1,qm 1 12,qm 2 13] [1,2]
 (.seq (qS [qm 14 1,qo 15 (.eqnil false .ptr (.tmp 14)),qm 16 15,qu 16 (qm 17 2),qu 16 (qc 18 .neq 17 0),qr 19 16 18] [1,19]
 (qC 19 (qS [qz 0 false] [0]
 .ret)
 .skip))
 (qS [qm 21 1,
  qo 22 (.call 8 [(.tmp 21), (.const (Value.int IntKind.u8 1)), (.const (Value.int IntKind.i64 5)), (.const (Value.int IntKind.u8 1)), (.const (Value.int IntKind.i64 2))]),
  qm 20 22,qe 23 20 0,qe 24 20 1,qm 3 23,qm 4 24] [1,3]
 (qS [qm 25 1,qm 26 3,qm 27 3,qo 28 (.call 9 [(.tmp 25), (.tmp 26), (.const (Value.int IntKind.i64 0)), (.tmp 27)])] [1,3]
 (qS [qm 29 1,qm 30 3,qo 31 (.call 9 [(.tmp 29), (.tmp 30), (.const (Value.int IntKind.i64 1)), (.const (Value.int IntKind.u64 9))])] [1,3]
 (qS [qm 32 1,qm 33 3,qx 34 10 [32,33]] [1,3]
 (qS [qm 35 1,qx 36 11 [35],qm 5 36] [1,3,5]
 (qS [qm 37 5,qL 38 37,qm 6 38] [1,3,5,6]
 (.seq (qS [qm 39 6,qc 40 .neq 39 4168] [1,3,5,6,40]
 (qC 40 (qS [qz 0 false] [0]
 .ret)
 .skip))
 (qS [qm 41 1,qx 42 24 [41],qm 7 42] [3,5,6,7]
 (qS [qm 43 7,qm 44 3,qo 45 (.bslice 33 1 [(Value.int IntKind.u64 0)] [(0, 1, (.tmp 44))]),qx 46 25 [43,45],qm 8 46] [5,6,8]
 (qS [qm 47 8,qm 48 47,qt 48 (qm 49 5),qt 48 (qo 50 (.idxL 1 (.tmp 49) (.const (Value.int IntKind.i64 0)))),qt 48 (ql 51 50),
  qt 48 (qo 52 (.bin .eql (.tmp 51) (.const (Value.int IntKind.u64 1)))),qa 53 48 52,qm 54 53,qt 54 (qm 55 5),
  qt 54 (qo 56 (.idxL 1 (.tmp 55) (.const (Value.int IntKind.i64 1)))),qt 54 (ql 57 56),
  qt 54 (qo 58 (.bin .eql (.tmp 57) (.const (Value.int IntKind.u64 1)))),qa 59 54 58,qm 60 59,qt 60 (qm 61 5),
  qt 60 (qo 62 (.idxL 1 (.tmp 61) (.const (Value.int IntKind.i64 2)))),qt 60 (ql 63 62),
  qt 60 (qo 64 (.bin .eql (.tmp 63) (.const (Value.int IntKind.u64 0)))),qa 65 60 64,qm 66 65,qt 66 (qm 67 5),
  qt 66 (qo 68 (.idxL 1 (.tmp 67) (.const (Value.int IntKind.i64 3)))),qt 66 (ql 69 68),
  qt 66 (qo 70 (.bin .eql (.tmp 69) (.const (Value.int IntKind.u64 0)))),qa 71 66 70,qm 72 71,qt 72 (qm 73 5),qt 72 (qm 74 6),qt 72 (qc 75 .sub 74 5),
  qt 72 (qi 76 1 73 75),qt 72 (ql 77 76),qt 72 (qo 78 (.bin .eql (.tmp 77) (.const (Value.int IntKind.u64 8)))),qa 79 72 78,qm 80 79,qt 80 (qm 81 5),
  qt 80 (qm 82 6),qt 80 (qc 83 .sub 82 4),qt 80 (qi 84 1 81 83),qt 80 (ql 85 84),
  qt 80 (qo 86 (.bin .eql (.tmp 85) (.const (Value.int IntKind.u64 4101)))),qa 87 80 86,qm 88 87,qt 88 (qm 89 5),qt 88 (qm 90 6),qt 88 (qc 91 .sub 90 3),
  qt 88 (qi 92 1 89 91),qt 88 (ql 93 92),qt 88 (qo 94 (.bin .eql (.tmp 93) (.const (Value.int IntKind.u64 2)))),qa 95 88 94,qm 96 95,qt 96 (qm 97 5),
  qt 96 (qm 98 6),qt 96 (qc 99 .sub 98 2),qt 96 (qi 100 1 97 99),qt 96 (ql 101 100),
  qt 96 (qo 102 (.bin .eql (.tmp 101) (.const (Value.int IntKind.u64 8)))),qa 103 96 102,qm 104 103,qt 104 (qm 105 5),qt 104 (qm 106 6),
  qt 104 (qc 107 .sub 106 1),qt 104 (qi 108 1 105 107),qt 104 (ql 109 108),qt 104 (qo 110 (.bin .eql (.tmp 109) (.const (Value.int IntKind.u64 9)))),
  qa 111 104 110,qm 0 111] [0]
 .ret)))))))))))))⟩)
theorem n6 : F6.n = 112 := rfl
theorem low6 : lowF Tryd.prog (kpO F6) (assoc []) 6 = some F6 := by kernel_rfl
def F3 : FIR := laid (X := ⟨242, [.tmp 4],
 (qS [qz 4 false] [0,1]
 (qS [qx 24 6 [],qm 5 24] [0,1,5]
 (qS [qm 25 0,qL 26 25,qo 27 (.min2 (.tmp 26) (.const (Value.int IntKind.i64 60))),qm 6 27] [0,1,5,6]
 (qS [qo 29 (.build [(Value.int IntKind.i64 0), (Value.int IntKind.i64 0), (Value.int IntKind.i64 0), (Value.int IntKind.i64 0), (Value.int IntKind.i64 0)] [(0, 1, (.const (Value.int IntKind.i64 4096))), (1, 1, (.const (Value.int IntKind.i64 64))), (2, 1, (.const (Value.int IntKind.i64 4096))), (3, 1, (.const (Value.int IntKind.i64 4096)))]),
  qx 30 7 [29],qm 28 30,qe 31 28 0,qe 32 28 1,qm 7 31,qm 8 32] [0,1,5,6,7,8]
 (qS [qo 34 (.build [(Value.int IntKind.i64 0), (Value.int IntKind.i64 0), (Value.int IntKind.i64 0), (Value.int IntKind.i64 0), (Value.int IntKind.i64 0)] [(0, 1, (.const (Value.int IntKind.i64 8192))), (1, 1, (.const (Value.int IntKind.i64 64))), (2, 1, (.const (Value.int IntKind.i64 8192))), (3, 1, (.const (Value.int IntKind.i64 4096)))]),
  qx 35 7 [34],qm 33 35,qe 36 33 0,qe 37 33 1,qm 9 36,qm 10 37] [0,1,5,6,7,8,9,10]
 (.seq (qS [qm 38 7,qo 39 (.eqnil false .ptr (.tmp 38)),qm 40 39,qu 40 (qm 41 9),qu 40 (qo 42 (.eqnil false .ptr (.tmp 41))),qr 43 40 42,
  qm 44 43,qu 44 (qm 45 8),qu 44 (qc 46 .neq 45 0),qr 47 44 46,qm 48 47,qu 48 (qm 49 10),qu 48 (qc 50 .neq 49 0),qr 51 48 50] [0,1,5,6,7,9,51]
 (qC 51 (qS [qz 4 false] [4]
 .ret)
 .skip))
 (qS [qm 52 6,qo 53 (.mkslice 33 1 8 [(Value.int IntKind.u64 0)] (.tmp 52) (.tmp 52)),qm 11 53] [0,1,5,6,7,9,11]
 (qS [qm 54 6,qo 55 (.mkslice 33 1 8 [(Value.int IntKind.u64 0)] (.tmp 54) (.tmp 54)),qm 12 55] [0,1,5,6,7,9,11,12]
 (.seq (qS [qk 13 0] [0,1,5,6,7,9,11,12,13]
 (.block 0 (.loop (.seq (qS [qm 56 13,qm 57 6,qb 58 .lss 56 57] [0,1,5,6,7,9,11,12,13,58]
 (qC 58 .skip
 (.exit 0)))
 (.seq (.block 1 (qS [qm 62 11,qm 63 13,qm 64 7,qm 65 13,qm 66 0,qm 67 13,qi 68 1 66 67,ql 69 68,qL 70 69,
  qo 71 (.min2 (.tmp 70) (.const (Value.int IntKind.i64 8))),
  qo 72 (.call 8 [(.tmp 64), (.const (Value.int IntKind.u8 1)), (.tmp 65), (.const (Value.int IntKind.u8 1)), (.tmp 71)]),qm 61 72,qe 73 61 0,qe 74 61 1,
  qi 75 1 62 63,qs 1 75 73,qm 8 74] [0,1,5,6,7,8,9,11,12,13]
 (qS [qm 76 8,qc 77 .neq 76 0] [0,1,5,6,7,9,11,12,13,77]
 (qC 77 (qS [qm 78 5,qm 4 78] [4]
 .ret)
 .skip))))
 (.reg [qm 59 13,qc 60 .add 59 1,qm 13 60] [0,1,5,6,7,9,11,12,13]))))))
 (.seq (qS [qk 14 0] [0,1,5,6,7,9,11,12,14]
 (.block 2 (.loop (.seq (qS [qm 79 14,qm 80 6,qb 81 .lss 79 80] [0,1,5,6,7,9,11,12,14,81]
 (qC 81 .skip
 (.exit 2)))
 (.seq (.block 3 (qS [qk 15 (-1)] [0,1,5,6,7,9,11,12,14,15]
 (.seq (qS [qm 84 14,qm 85 1,qL 86 85,qb 87 .lss 84 86,qm 88 87,qt 88 (qm 89 1),qt 88 (qm 90 14),qt 88 (qi 91 1 89 90),qt 88 (ql 92 91),
  qt 88 (qc 93 .geq 92 0),qa 94 88 93,qm 95 94,qt 95 (qm 96 1),qt 95 (qm 97 14),qt 95 (qi 98 1 96 97),qt 95 (ql 99 98),qt 95 (qm 100 6),
  qt 95 (qb 101 .lss 99 100),qa 102 95 101,qm 103 102,qt 103 (qm 104 12),qt 103 (qm 105 1),qt 103 (qm 106 14),qt 103 (qi 107 1 105 106),
  qt 103 (ql 108 107),qt 103 (qi 109 1 104 108),qt 103 (ql 110 109),qt 103 (qo 111 (.bin .eql (.tmp 110) (.const (Value.int IntKind.u64 0)))),
  qa 112 103 111] [0,1,5,6,7,9,11,12,14,15,112]
 (qC 112 (.reg [qm 113 1,qm 114 14,qi 115 1 113 114,ql 116 115,qm 15 116] [0,1,5,6,7,9,11,12,14,15])
 .skip))
 (.seq (qS [qm 117 6,qc 118 .sub 117 1,qm 16 118] [0,1,5,6,7,9,11,12,14,15,16]
 (.block 4 (.loop (.seq (qS [qm 119 16,qc 120 .geq 119 0,qm 121 120,qt 121 (qm 122 15),qt 121 (qc 123 .lss 122 0),qa 124 121 123] [0,1,5,6,7,9,11,12,14,15,16,124]
 (qC 124 .skip
 (.exit 4)))
 (.seq (.block 5 (qS [qm 127 12,qm 128 16,qi 129 1 127 128,ql 130 129,qo 131 (.bin .eql (.tmp 130) (.const (Value.int IntKind.u64 0)))] [0,1,5,6,7,9,11,12,14,15,16,131]
 (qC 131 (.reg [qm 132 16,qm 15 132] [0,1,5,6,7,9,11,12,14,15,16])
 .skip)))
 (.reg [qm 125 16,qc 126 .sub 125 1,qm 16 126] [0,1,5,6,7,9,11,12,14,15,16]))))))
 (.seq (qD [qm 134 12,qm 135 15,qm 136 9,qm 138 14,qc 139 .rem 138 3,qm 142 15,qm 143 0,qm 144 15,qi 145 1 143 144,ql 146 145,qL 147 146,
  qo 148 (.min2 (.tmp 147) (.const (Value.int IntKind.i64 8))),
  qo 137 (.bslice 36 3 [(Value.int IntKind.u8 0)] [(0, 1, (.const (Value.int IntKind.u8 1))), (1, 1, (.const (Value.int IntKind.u8 4))), (2, 1, (.const (Value.int IntKind.u8 5)))]),
  qi 140 1 137 139,ql 141 140,qo 149 (.call 8 [(.tmp 136), (.tmp 141), (.tmp 142), (.const (Value.int IntKind.u8 1)), (.tmp 148)]),qm 133 149,
  qe 150 133 0,qe 151 133 1,qi 152 1 134 135,qs 1 152 150,qm 10 151] [[0,1,2,3,4,5,6,7,8,9,10,11,12,13,14,15,16,17,18,19,20,21]] [0,1,5,6,7,9,10,11,12,14])
 (qS [qm 153 10,qc 154 .neq 153 0] [0,1,5,6,7,9,11,12,14,154]
 (qC 154 (qS [qm 155 5,qm 4 155] [4]
 .ret)
 .skip)))))))
 (.reg [qm 82 14,qc 83 .add 82 1,qm 14 83] [0,1,5,6,7,9,11,12,14]))))))
 (.seq (qS [qk 17 0] [0,5,6,7,9,11,12,17]
 (.block 6 (.loop (.seq (qS [qm 156 17,qm 157 6,qb 158 .lss 156 157] [0,5,6,7,9,11,12,17,158]
 (qC 158 .skip
 (.exit 6)))
 (.seq (.block 7 (qS [qk 18 0] [0,5,6,7,9,11,12,17,18]
 (.block 8 (.loop (.seq (qS [qm 161 18,qm 162 0,qm 163 17,qi 164 1 162 163,ql 165 164,qL 166 165,qb 167 .lss 161 166,qm 168 167,qt 168 (qm 169 18),
  qt 168 (qc 170 .lss 169 8),qa 171 168 170] [0,5,6,7,9,11,12,17,18,171]
 (qC 171 .skip
 (.exit 8)))
 (.seq (.block 9 (qS [qm 174 0,qm 175 17,qi 176 1 174 175,ql 177 176,qm 178 18,qi 179 1 177 178,ql 180 179,qm 181 6,qb 182 .rem 180 181,qm 19 182] [0,5,6,7,9,11,12,17,18,19]
 (.seq (qS [qm 183 19,qc 184 .lss 183 0] [0,5,6,7,9,11,12,17,18,19,184]
 (qC 184 (.reg [qm 185 19,qo 186 (.un .neg (.tmp 185)),qm 19 186] [0,5,6,7,9,11,12,17,18,19])
 .skip))
 (.seq (qD [qm 187 7,qm 188 11,qm 189 17,qi 190 1 188 189,ql 191 190,qm 192 18,qm 193 11,qm 194 19,qi 195 1 193 194,ql 196 195,
  qx 197 9 [187,191,192,196]] [[0,1,2,3,4,5,6,7,8,9,10]] [0,5,6,7,9,11,12,17,18,19])
 (qD [qm 198 9,qm 199 12,qm 200 17,qi 201 1 199 200,ql 202 201,qm 203 18,qm 204 12,qm 205 19,qi 206 1 204 205,ql 207 206,
  qx 208 9 [198,202,203,207]] [[0,1,2,3,4,5,6,7,8,9,10]] [0,5,6,7,9,11,12,17,18])))))
 (.reg [qm 172 18,qc 173 .add 172 1,qm 18 173] [0,5,6,7,9,11,12,17,18])))))))
 (.reg [qm 159 17,qc 160 .add 159 1,qm 17 160] [0,5,6,7,9,11,12,17]))))))
 (.seq (qS [qm 209 6,qc 210 .gtr 209 0] [5,6,7,9,11,12,210]
 (qC 210 (qS [qm 211 7,qm 212 11,qm 213 6,qc 214 .sub 213 1,qi 215 1 212 214,ql 216 215,qx 217 10 [211,216]] [5,6,7,9,12]
 (.reg [qm 218 9,qm 219 12,qm 220 6,qc 221 .sub 220 1,qi 222 1 219 221,ql 223 222,qx 224 10 [218,223]] [5,7,9]))
 .skip))
 (qS [qm 225 7,qx 226 11 [225],qm 20 226] [5,7,9,20]
 (qS [qm 227 9,qx 228 11 [227],qm 21 228] [5,7,9,20,21]
 (qS [qm 229 20,qm 230 21,qx 231 12 [229,230],qm 22 231] [5,7,9,22]
 (qS [qm 232 7,qm 233 9,qx 234 13 [232,233],qm 23 234] [5,22,23]
 (qS [qm 235 5,qm 236 235,qt 236 (qm 237 22),qa 238 236 237,qm 239 238,qt 239 (qm 240 23),qa 241 239 240,qm 4 241] [4]
 .ret)))))))))))))))))⟩)
theorem n3 : F3.n = 242 := rfl
theorem low3 : lowF Tryd.prog (kpO F3) (assoc [(26,[[0,1,2,4,5,8,9,10,11,12,13,14,3,6,7,15,16,17,18,19,20,21]]), (38,[[0,1,2,3,4,5,6,7,8,9,10]]), (39,[[0,1,2,3,4,5,6,7,8,9,10]])]) 3 = some F3 := by kernel_rfl
def F14 : FIR := laid (X := ⟨36, [.tmp 8],
 (qS [qk 8 0] [0,1,2,3]
 (qS [qm 13 0,qm 14 1,qm 15 2,qx 16 49 [13,14,15],qm 12 16,qe 17 12 0,qe 18 12 1,qe 19 12 2,qm 9 17,qm 10 18,qm 11 19] [3,9,10,11]
 (.seq (qS [qm 20 11,qc 21 .neq 20 0] [3,9,10,11,21]
 (qC 21 (qS [qm 22 11,qm 8 22] [8]
 .ret)
 .skip))
 (.seq (qD [qm 23 9,qm 24 9,qn 25 24,ql 26 25,qm 27 10,qo 28 (.bin .shl (.const (Value.int IntKind.u64 255)) (.tmp 27)),qb 29 .andNot 26 28,
  qm 30 3,qo 31 (.conv .u64 (.tmp 30)),qm 32 10,qb 33 .shl 31 32,qb 34 .or 29 33,qn 35 23,qs 1 35 34] [[0,1,2,3,4,5,6,7,8,9,10,11,12,13]] [])
 (qS [qk 8 0] [8]
 .ret)))))⟩)
theorem n14 : F14.n = 36 := rfl
theorem low14 : lowF Tryd.prog (kpO F14) (assoc [(4,[[0,1,2,3,4,5,6,7,8,9,10,11,12,13]])]) 14 = some F14 := by kernel_rfl
def F15 : FIR := laid (X := ⟨14, [.tmp 4, .tmp 5],
 (qS [qo 4 (.mv (.const (Value.int IntKind.u64 0))),qk 5 0] [0,1]
 (qS [qm 6 0,qn 7 6,qf 8 4180 7,ql 9 8,qm 10 1,qx 11 50 [9,10],qe 12 11 0,qe 13 11 1,qm 4 12,qm 5 13] [4,5]
 .ret))⟩)
theorem n15 : F15.n = 14 := rfl
theorem low15 : lowF Tryd.prog (kpO F15) (assoc []) 15 = some F15 := by kernel_rfl
def F54 : FIR := laid (X := ⟨27, [.tmp 8],
 (qS [qk 8 0] [0,1,2,3]
 (.seq (.block 0 (qS [qm 10 2,qc 11 .lss 10 0,qm 12 11,qu 12 (qm 13 2),qu 12 (qm 14 1),qu 12 (qL 15 14),qu 12 (qb 16 .geq 13 15),qr 17 12 16,qm 9 17] [0,1,2,3,9]
 (qC 9 (qS [qk 8 45] [8]
 .ret)
 (qS [qm 19 0,qm 20 3,qx 21 36 [19,20],qo 22 (.un .not (.tmp 21)),qm 18 22] [1,2,3,18]
 (qC 18 (qS [qk 8 1] [8]
 .ret)
 .skip)))))
 (qS [qm 23 1,qm 24 2,qm 25 3,qi 26 1 23 24,qs 1 26 25] []
 (qS [qk 8 0] [8]
 .ret))))⟩)
theorem n54 : F54.n = 27 := rfl
theorem low54 : lowF Tryd.prog (kpO F54) (assoc []) 54 = some F54 := by kernel_rfl
def F18 : FIR := laid (X := ⟨11, [.tmp 6],
 (qS [qB 5 3 2,qk 6 0] [0,1,5]
 (qS [qm 7 0,qm 8 1,qo 9 (.clos (.func 52) [] [(.tmp 5)]),qx 10 51 [7,8,9],qm 6 10] [6]
 .ret))⟩)
theorem n18 : F18.n = 11 := rfl
theorem low18 : lowF Tryd.prog (kpO F18) (assoc []) 18 = some F18 := by kernel_rfl
def F52 : FIR := laid (X := ⟨11, [.tmp 3],
 (qS [qk 3 0] [0,1]
 (.seq (qS [ql 4 1,qo 5 (.call 26 [(.tmp 4), (.const (Value.int IntKind.i64 0)), (.const (Value.int IntKind.i64 4095))]),
  qo 6 (.un .not (.tmp 5))] [0,1,6]
 (qC 6 (qS [qk 3 1] [3]
 .ret)
 .skip))
 (qS [qm 7 0,ql 8 1,qn 9 7,qf 10 0 9,qs 1 10 8] []
 (qS [qk 3 0] [3]
 .ret))))⟩)
theorem n52 : F52.n = 11 := rfl
theorem low52 : lowF Tryd.prog (kpO F52) (assoc []) 52 = some F52 := by kernel_rfl
def F51 : FIR := laid (X := ⟨31, [.tmp 6],
 (qS [qk 6 0] [0,1,2]
 (qS [qm 12 0,qm 13 1,qx 14 34 [12,13],qm 11 14,qe 15 11 0,qe 16 11 1,qm 7 15,qm 8 16] [0,2,7,8]
 (.seq (qS [qm 17 8,qo 18 (.un .not (.tmp 17))] [0,2,7,18]
 (qC 18 (qS [qk 6 42] [6]
 .ret)
 .skip))
 (qS [qm 19 0,qm 20 7,qx 21 35 [19,20],
  qo 9 (.alloc 62 [(Value.int IntKind.i64 0), (Value.int IntKind.u8 0), (Value.int IntKind.i64 0), (Value.int IntKind.i64 0), (Value.int IntKind.i64 0), (Value.int IntKind.i64 0), (Value.bool false), (Value.bool false)]),
  qs 8 9 21] [0,2,7,9]
 (.seq (qS [qm 22 2,qo 23 (.callv (.tmp 22) [(.tmp 9)]),qm 10 23] [0,7,9,10]
 (qS [qm 24 10,qc 25 .neq 24 0] [0,7,9,10,25]
 (qC 25 (qS [qm 26 10,qm 6 26] [6]
 .ret)
 .skip)))
 (qS [qm 27 0,qm 28 7,qN 29 8 9,qx 30 64 [27,28,29]] []
 (qS [qk 6 0] [6]
 .ret)))))))⟩)
theorem n51 : F51.n = 31 := rfl
theorem low51 : lowF Tryd.prog (kpO F51) (assoc []) 51 = some F51 := by kernel_rfl
def F4 : FIR := laid (X := ⟨239, [.tmp 10],
 (qS [qz 10 false] [0,1,2,3,4]
 (qS [qx 33 6 [],qm 11 33] [0,1,2,3,4,11]
 (.seq (qS [qm 34 0,qc 35 .lss 34 0,qm 36 35,qu 36 (qm 37 0),qu 36 (qc 38 .geq 37 4095),qr 39 36 38,qm 40 39,qu 40 (qm 41 1),qu 40 (qL 42 41),
  qu 40 (qc 43 .gtr 42 1000),qr 44 40 43,qm 45 44,qu 45 (qm 46 2),qu 45 (qo 47 (.lenS (.tmp 46))),qu 45 (qc 48 .gtr 47 1000),qr 49 45 48] [0,1,2,3,4,11,49]
 (qC 49 (qS [qm 50 11,qm 10 50] [10]
 .ret)
 .skip))
 (qS [qo 12 (.alloc 48 [(Value.pointer none), (Value.pointer none)])] [0,1,2,3,4,11,12]
 (.seq (qS [qk 13 0] [0,1,2,3,4,11,12,13]
 (.block 0 (.loop (.seq (qS [qm 51 13,qc 52 .lss 51 2] [0,1,2,3,4,11,12,13,52]
 (qC 52 .skip
 (.exit 0)))
 (.seq (.block 1 (qS [qo 56 (.build [(Value.int IntKind.i64 0), (Value.int IntKind.i64 0), (Value.int IntKind.i64 0), (Value.int IntKind.i64 0), (Value.int IntKind.i64 0)] [(0, 1, (.const (Value.int IntKind.i64 4096))), (1, 1, (.const (Value.int IntKind.i64 64))), (2, 1, (.const (Value.int IntKind.i64 64)))]),
  qx 57 7 [56],qm 55 57,qe 58 55 0,qe 59 55 1,qm 14 58,qm 15 59] [0,1,2,3,4,11,12,13,14,15]
 (.seq (qS [qm 60 14,qo 61 (.eqnil false .ptr (.tmp 60)),qm 62 61,qu 62 (qm 63 15),qu 62 (qc 64 .neq 63 0),qr 65 62 64] [0,1,2,3,4,11,12,13,14,65]
 (qC 65 (qS [qz 10 false] [10]
 .ret)
 .skip))
 (qS [qm 67 14,qm 68 0,qm 69 1,qL 70 69,qc 71 .add 70 1,
  qo 72 (.call 8 [(.tmp 67), (.const (Value.int IntKind.u8 1)), (.tmp 68), (.const (Value.int IntKind.u8 1)), (.tmp 71)]),qm 66 72,qe 73 66 0,qe 74 66 1,
  qm 16 73,qm 17 74] [0,1,2,3,4,11,12,13,14,16,17]
 (qS [qm 76 14,qm 77 2,qo 78 (.lenS (.tmp 77)),
  qo 79 (.call 8 [(.tmp 76), (.const (Value.int IntKind.u8 1)), (.const (Value.int IntKind.i64 1)), (.const (Value.int IntKind.u8 5)), (.tmp 78)]),
  qm 75 79,qe 80 75 0,qe 81 75 1,qm 18 80,qm 19 81] [0,1,2,3,4,11,12,13,14,16,17,18,19]
 (.seq (qS [qm 82 17,qc 83 .neq 82 0,qm 84 83,qu 84 (qm 85 19),qu 84 (qc 86 .neq 85 0),qr 87 84 86] [0,1,2,3,4,11,12,13,14,16,18,87]
 (qC 87 (qS [qm 88 11,qm 10 88] [10]
 .ret)
 .skip))
 (qS [qm 89 14,qm 90 16,qx 91 10 [89,90]] [0,1,2,3,4,11,12,13,14,16,18]
 (.seq (qS [qk 20 0] [0,1,2,3,4,11,12,13,14,16,18,20]
 (.block 2 (.loop (.seq (qS [qm 92 20,qm 93 1,qL 94 93,qb 95 .lss 92 94] [0,1,2,3,4,11,12,13,14,16,18,20,95]
 (qC 95 .skip
 (.exit 2)))
 (.seq (.block 3 (.reg [qm 98 14,qm 99 16,qm 100 20,qm 101 1,qm 102 20,qi 103 1 101 102,ql 104 103,qc 105 .rem 104 1000,
  qo 106 (.bin .mul (.const (Value.int IntKind.i64 8)) (.tmp 105)),qc 107 .add 106 1,qo 108 (.conv .u64 (.tmp 107)),qx 109 9 [98,99,100,108]] [0,1,2,3,4,11,12,13,14,16,18,20]))
 (.reg [qm 96 20,qc 97 .add 96 1,qm 20 97] [0,1,2,3,4,11,12,13,14,16,18,20]))))))
 (qS [qm 110 14,qm 111 16,qm 112 1,qL 113 112,qm 114 18,qx 115 9 [110,111,113,114]] [0,1,2,3,4,11,12,13,14,18]
 (.seq (qS [qk 21 0] [0,1,2,3,4,11,12,13,14,18,21]
 (.block 4 (.loop (.seq (qS [qm 116 21,qm 117 2,qo 118 (.lenS (.tmp 117)),qb 119 .lss 116 118] [0,1,2,3,4,11,12,13,14,18,21,119]
 (qC 119 .skip
 (.exit 4)))
 (.seq (.block 5 (.reg [qm 122 14,qm 123 18,qm 124 21,qm 125 2,qm 126 21,qo 127 (.idxS (.tmp 125) (.tmp 126)),qx 128 14 [122,123,124,127]] [0,1,2,3,4,11,12,13,14,18,21]))
 (.reg [qm 120 21,qc 121 .add 120 1,qm 21 121] [0,1,2,3,4,11,12,13,14,18,21]))))))
 (.reg [qm 129 13,qm 130 14,qo 131 (.idxA 2 1 (.tmp 12) (.tmp 129)),qs 1 131 130] [0,1,2,3,4,11,12,13])))))))))))
 (.reg [qm 53 13,qc 54 .add 53 1,qm 13 54] [0,1,2,3,4,11,12,13]))))))
 (qS [qo 132 (.idxA 2 1 (.tmp 12) (.const (Value.int IntKind.i64 0))),ql 133 132,
  qo 134 (.idxA 2 1 (.tmp 12) (.const (Value.int IntKind.i64 1))),ql 135 134,qx 136 13 [133,135],qm 22 136] [0,1,2,3,4,11,12,22]
 (.seq (qS [qm 137 3,qc 138 .lss 137 0] [0,1,2,3,4,11,12,22,138]
 (qC 138 (.reg [qm 139 3,qc 140 .add 139 1,qo 141 (.un .neg (.tmp 140)),qm 3 141] [0,1,2,3,4,11,12,22])
 .skip))
 (qS [qo 143 (.idxA 2 1 (.tmp 12) (.const (Value.int IntKind.i64 1))),ql 144 143,
  qo 145 (.call 15 [(.tmp 144), (.const (Value.int IntKind.i64 0))]),qm 142 145,qe 146 142 0,qe 147 142 1,qm 23 146,qm 24 147] [0,1,2,3,4,11,12,22,23]
 (qS [qo 149 (.idxA 2 1 (.tmp 12) (.const (Value.int IntKind.i64 1))),ql 150 149,qm 151 23,qm 152 1,qL 153 152,qx 154 16 [150,151,153],
  qm 148 154,qe 155 148 0,qe 156 148 1,qm 25 155,qm 26 156] [0,1,2,3,4,11,12,22,23,25]
 (qS [qm 157 3,qm 158 1,qL 159 158,qc 160 .add 159 1,qb 161 .rem 157 160,qm 27 161] [0,2,3,4,11,12,22,23,25,27]
 (.seq (qS [qm 162 4,qc 163 .rem 162 3] [0,2,3,11,12,22,23,25,27,163]
 (.block 6 (qS [qc 171 .eql 163 0,qm 170 171] [0,2,3,11,12,22,23,25,27,163,170]
 (qC 170 (qS [qo 173 (.idxA 2 1 (.tmp 12) (.const (Value.int IntKind.i64 1))),ql 174 173,qm 175 23,qm 176 27,qx 177 16 [174,175,176],qm 172 177,
  qe 178 172 0,qe 179 172 1,qm 28 178,qm 29 179] [11,12,22,23,25,27,28]
 (qS [qm 180 28,qm 181 25,qb 182 .eql 180 181] [11,12,22,23,27,28,182]
 (qC 182 (.reg [qo 183 (.idxA 2 1 (.tmp 12) (.const (Value.int IntKind.i64 1))),ql 184 183,qm 185 23,qm 186 27,qm 187 23,qx 188 9 [184,185,186,187]] [11,12,22])
 (.reg [qo 189 (.idxA 2 1 (.tmp 12) (.const (Value.int IntKind.i64 1))),ql 190 189,qm 191 23,qm 192 27,qm 193 28,
  qo 194 (.bin .xor (.tmp 193) (.const (Value.int IntKind.u64 8))),qx 195 9 [190,191,192,194]] [11,12,22]))))
 (qS [qc 197 .eql 163 1,qm 196 197] [0,2,3,11,12,22,23,25,196]
 (qC 196 (.seq (qS [qm 198 2,qo 199 (.lenS (.tmp 198)),qc 200 .eql 199 0] [2,3,11,12,22,25,200]
 (qC 200 (qS [qm 201 11,qm 202 201,qt 202 (qm 203 22),qa 204 202 203,qm 10 204] [10]
 .ret)
 .skip))
 (.seq (qD [qo 206 (.idxA 2 1 (.tmp 12) (.const (Value.int IntKind.i64 1))),ql 207 206,qm 208 25,qm 209 3,qm 210 2,qo 211 (.lenS (.tmp 210)),
  qb 212 .rem 209 211,qx 213 17 [207,208,212],qm 205 213,qe 214 205 0,qe 215 205 1,qm 30 214,qm 31 215] [[0,1,2,3,4,5,6,7,8,9,10,11,12]] [2,3,11,12,22,25,30])
 (qD [qo 216 (.idxA 2 1 (.tmp 12) (.const (Value.int IntKind.i64 1))),ql 217 216,qm 218 25,qm 219 3,qm 220 2,qo 221 (.lenS (.tmp 220)),
  qb 222 .rem 219 221,qm 223 30,qo 224 (.bin .xor (.tmp 223) (.const (Value.int IntKind.u8 1))),qx 225 14 [217,218,222,224]] [[0,1,2,3,4,5,6,7,8,9]] [11,12,22])))
 (.reg [qo 164 (.idxA 2 1 (.tmp 12) (.const (Value.int IntKind.i64 1))),ql 165 164,qm 166 23,qm 167 0,qc 168 .add 167 1,
  qx 169 18 [165,166,168]] [11,12,22])))))))
 (qS [qo 226 (.idxA 2 1 (.tmp 12) (.const (Value.int IntKind.i64 0))),ql 227 226,
  qo 228 (.idxA 2 1 (.tmp 12) (.const (Value.int IntKind.i64 1))),ql 229 228,qx 230 13 [227,229],qm 32 230] [11,22,32]
 (qS [qm 231 11,qm 232 231,qt 232 (qm 233 22),qa 234 232 233,qm 235 234,qt 235 (qm 236 32),qt 235 (qo 237 (.un .not (.tmp 236))),
  qa 238 235 237,qm 10 238] [10]
 .ret)))))))))))))⟩)
theorem n4 : F4.n = 239 := rfl
theorem low4 : lowF Tryd.prog (assoc [(0, [0,1,2,3,4]), (1, [0,1,2,3,4,11]), (2, [0,1,2,3,4,11,49]), (3, [10]), (4, [0,1,2,3,4,11,12]), (5, [0,1,2,3,4,11,12,13]), (6, [0,1,2,3,4,11,12,13,52]), (7, [0,1,2,3,4,11,12,13]), (8, [0,1,2,3,4,11,12,13,14,15]), (9, [0,1,2,3,4,11,12,13,14,65]), (10, [10]), (11, [0,1,2,3,4,11,12,13,14,16,17]), (12, [0,1,2,3,4,11,12,13,14,16,17,18,19]), (13, [0,1,2,3,4,11,12,13,14,16,18,87]), (14, [10]), (15, [0,1,2,3,4,11,12,13,14,16,18]), (16, [0,1,2,3,4,11,12,13,14,16,18,20]), (17, [0,1,2,3,4,11,12,13,14,16,18,20,95]), (18, [0,1,2,3,4,11,12,13,14,16,18,20]), (19, [0,1,2,3,4,11,12,13,14,16,18,20]), (20, [0,1,2,3,4,11,12,13,14,18]), (21, [0,1,2,3,4,11,12,13,14,18,21]), (22, [0,1,2,3,4,11,12,13,14,18,21,119]), (23, [0,1,2,3,4,11,12,13,14,18,21]), (24, [0,1,2,3,4,11,12,13,14,18,21]), (25, [0,1,2,3,4,11,12,13]), (26, [0,1,2,3,4,11,12,22]), (27, [0,1,2,3,4,11,12,22,138]), (28, [0,1,2,3,4,11,12,22]), (29, [0,1,2,3,4,11,12,22,23]), (30, [0,1,2,3,4,11,12,22,23,25]), (31, [0,2,3,4,11,12,22,23,25,27]), (32, [0,2,3,11,12,22,23,25,27,163]), (33, [11,12,22]), (34, [0,2,3,11,12,22,23,25,27,163,170]), (35, [11,12,22,23,25,27,28]), (36, [11,12,22,23,27,28,182]), (37, [11,12,22]), (38, [11,12,22]), (39, [0,2,3,11,12,22,23,25,196]), (40, [2,3,11,12,22,25,200]), (41, [10]), (42, [2,3,11,12,22,25,30]), (43, [11,12,22]), (44, [11,22,32]), (45, [10])]) (assoc [(42,[[0,1,2,3,4,5,6,7,8,9,10,11,12]]), (43,[[0,1,2,3,4,5,6,7,8,9]])]) 4 = some F4 := by kernel_rfl
end Go.Proofs.YtmlnoodopoaafaaDoor

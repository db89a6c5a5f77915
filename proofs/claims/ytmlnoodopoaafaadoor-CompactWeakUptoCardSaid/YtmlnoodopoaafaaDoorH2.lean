/-
  The code of functions, as terms: printed by a program, proved to be what the seat has.
-/
import Derived.Test.YtmlnoodopoaafaaDoorH1
import Derived.KernelRfl
import Derived.Test.YtmlnoodopoaafaaDoorProg
import Derived.Test.YtmlnoodopoaafaaDoorV8
import Derived.Test.YtmlnoodopoaafaaDoorV9
set_option linter.unusedSimpArgs false
set_option linter.unusedVariables false
namespace Go.Proofs.YtmlnoodopoaafaaDoor
open Go Go.V
set_option maxRecDepth 100000
def F69 : FIR := laid (X := ⟨27, [.tmp 4],
 (qS [qz 4 false] [0,1]
 (qS [qm 5 1,qm 6 0,qn 7 6,qf 8 0 7,ql 9 8,qL 10 9,qb 11 .lss 5 10,qm 12 11,qt 12 (qm 13 0),qt 12 (qn 14 13),qt 12 (qf 15 1 14),
  qt 12 (ql 16 15),qt 12 (qm 17 1),qt 12 (qc 18 .quo 17 64),qt 12 (qi 19 1 16 18),qt 12 (ql 20 19),qt 12 (qm 21 1),qt 12 (qc 22 .rem 21 64),
  qt 12 (qb 23 .shr 20 22),qt 12 (qo 24 (.bin .and (.tmp 23) (.const (Value.int IntKind.u64 1)))),
  qt 12 (qo 25 (.bin .eql (.tmp 24) (.const (Value.int IntKind.u64 1)))),qa 26 12 25,qm 4 26] [4]
 .ret))⟩)
theorem n69 : F69.n = 27 := rfl
theorem low69 : lowF Tryd.prog (kpO F69) (assoc []) 69 = some F69 := by kernel_rfl
def F65 : FIR := laid (X := ⟨33, [],
 (.seq (qD [qm 6 0,qn 7 6,qf 8 1 7,ql 9 8,qm 10 1,qc 11 .quo 10 64,qi 12 1 9 11,ql 13 12,qm 14 1,qc 15 .rem 14 64,
  qo 16 (.bin .shl (.const (Value.int IntKind.u64 1)) (.tmp 15)),qb 17 .andNot 13 16,qi 18 1 9 11,qs 1 18 17] [[0,1,2,3,4,5,6,7,8,9,10,11,12,13]] [0,1,2])
 (qS [qm 19 2] [0,1,19]
 (qC 19 (qD [qm 20 0,qn 21 20,qf 22 1 21,ql 23 22,qm 24 1,qc 25 .quo 24 64,qi 26 1 23 25,ql 27 26,qm 28 1,qc 29 .rem 28 64,
  qo 30 (.bin .shl (.const (Value.int IntKind.u64 1)) (.tmp 29)),qb 31 .or 27 30,qi 32 1 23 25,qs 1 32 31] [[0,1,2,3,4,5,6,7,8,9,10,11,12,13]] [])
 .skip)))⟩)
theorem n65 : F65.n = 33 := rfl
theorem low65 : lowF Tryd.prog (kpO F65) (assoc [(0,[[0,1,2,3,4,5,6,7,8,9,10,11,12,13]]), (2,[[0,1,2,3,4,5,6,7,8,9,10,11,12,13]])]) 65 = some F65 := by kernel_rfl
def F34 : FIR := laid (X := ⟨20, [.tmp 4, .tmp 5],
 (qS [qk 4 0,qz 5 false] [0,1]
 (qS [qm 9 1,qx 10 68 [9],qm 8 10,qe 11 8 0,qe 12 8 1,qm 6 11,qm 7 12] [0,6,7]
 (qS [qm 13 6,qm 14 7,qm 15 14,qt 15 (qm 16 0),qt 15 (qm 17 6),qt 15 (qx 18 69 [16,17]),qa 19 15 18,qm 4 13,qm 5 19] [4,5]
 .ret)))⟩)
theorem n34 : F34.n = 20 := rfl
theorem low34 : lowF Tryd.prog (kpO F34) (assoc []) 34 = some F34 := by kernel_rfl
def F72 : FIR := laid (X := ⟨14, [.tmp 4],
 (qS [qz 4 false] [0,1]
 (qS [qm 8 0,qm 9 1,qx 10 34 [8,9],qm 7 10,qe 11 7 0,qe 12 7 1,qm 5 11,qm 6 12] [6]
 (qS [qm 13 6,qm 4 13] [4]
 .ret)))⟩)
theorem n72 : F72.n = 14 := rfl
theorem low72 : lowF Tryd.prog (kpO F72) (assoc []) 72 = some F72 := by kernel_rfl
def F35 : FIR := laid (X := ⟨27, [.cellN 4 8],
 (qS [qo 4 (.alloc 62 [(Value.int IntKind.i64 0), (Value.int IntKind.u8 0), (Value.int IntKind.i64 0), (Value.int IntKind.i64 0), (Value.int IntKind.i64 0), (Value.int IntKind.i64 0), (Value.bool false), (Value.bool false)])] [0,1,4]
 (.seq (qD [qm 8 0,qn 9 8,qf 10 0 9,ql 11 10,qm 12 1,qi 13 1 11 12,ql 14 13,qm 15 0,qn 16 15,qf 17 0 16,ql 18 17,qm 19 1,qc 20 .add 19 1,
  qi 21 1 18 20,ql 22 21,qx 23 70 [14,22],qm 7 23,qe 24 7 0,qe 25 7 1,
  qo 5 (.alloc 62 [(Value.int IntKind.i64 0), (Value.int IntKind.u8 0), (Value.int IntKind.i64 0), (Value.int IntKind.i64 0), (Value.int IntKind.i64 0), (Value.int IntKind.i64 0), (Value.bool false), (Value.bool false)]),
  qs 8 5 24,qm 6 25] [[0,1,2,3,4,5,6,7,8,9,10,11,12,13,14,15,16,17,18,19,20,21], [0,1,2,3,4,5,6,7,8,9,10,11,12,13,14,19,15,16,17,18,20,21]] [4,5])
 (qS [qN 26 8 5,qs 8 4 26] [4]
 .ret)))⟩)
theorem n35 : F35.n = 27 := rfl
theorem low35 : lowF Tryd.prog (kpO F35) (assoc [(1,[[0,1,2,3,4,5,6,7,8,9,10,11,12,13,14,15,16,17,18,19,20,21], [0,1,2,3,4,5,6,7,8,9,10,11,12,13,14,19,15,16,17,18,20,21]])]) 35 = some F35 := by kernel_rfl
def F64 : FIR := laid (X := ⟨25, [],
 (qS [qB 5 62 2] [0,1,5]
 (qD [qm 7 0,qn 8 7,qf 9 0 8,ql 10 9,qm 11 1,qm 12 0,qn 13 12,qf 14 0 13,ql 15 14,qm 16 1,qc 17 .add 16 1,qN 18 8 5,qx 19 45 [18],qm 6 19,
  qe 20 6 0,qe 21 6 1,qe 22 6 2,qi 23 1 10 11,qs 1 23 20,qi 24 1 15 17,qs 1 24 21] [[0,1,2,3,4,5,6,7,8,9,10,11,12,13,14,15,16,17,18,19,20], [0,1,2,4,5,6,7,8,3,9,10,11,12,13,14,15,16,17,18,19,20], [0,1,2,4,5,6,7,8,9,10,11,12,3,13,14,15,16,17,18,19,20], [0,1,2,3,4,5,6,7,9,10,11,12,8,13,14,15,16,17,18,19,20], [0,1,2,4,5,6,7,9,10,11,12,3,8,13,14,15,16,17,18,19,20], [0,1,2,4,5,6,7,9,10,11,12,8,3,13,14,15,16,17,18,19,20]] []))⟩)
theorem n64 : F64.n = 25 := rfl
theorem low64 : lowF Tryd.prog (kpO F64) (assoc [(1,[[0,1,2,3,4,5,6,7,8,9,10,11,12,13,14,15,16,17,18,19,20], [0,1,2,4,5,6,7,8,3,9,10,11,12,13,14,15,16,17,18,19,20], [0,1,2,4,5,6,7,8,9,10,11,12,3,13,14,15,16,17,18,19,20], [0,1,2,3,4,5,6,7,9,10,11,12,8,13,14,15,16,17,18,19,20], [0,1,2,4,5,6,7,9,10,11,12,3,8,13,14,15,16,17,18,19,20], [0,1,2,4,5,6,7,9,10,11,12,8,3,13,14,15,16,17,18,19,20]])]) 64 = some F64 := by kernel_rfl
def F31 : FIR := laid (X := ⟨27, [.tmp 4],
 (qS [qo 4 (.mv (.const (Value.slice none 0 0)))] [0,1]
 (qS [qm 6 1,qc 7 .add 6 2,qm 8 0,qn 9 8,qf 10 0 9,ql 11 10,qm 12 1,qc 13 .add 12 1,qi 14 1 11 13,ql 15 14,qo 16 (.conv .i64 (.tmp 15)),
  qb 17 .add 7 16,qm 5 17] [0,1,5]
 (qS [qm 18 0,qn 19 18,qf 20 0 19,ql 21 20,qm 22 1,qc 23 .add 22 2,qm 24 5,qm 25 5,
  qo 26 (.slcL 1 (.tmp 21) (some (.tmp 23)) (some (.tmp 24)) (some (.tmp 25))),qm 4 26] [4]
 .ret)))⟩)
theorem n31 : F31.n = 27 := rfl
theorem low31 : lowF Tryd.prog (kpO F31) (assoc []) 31 = some F31 := by kernel_rfl
def F37 : FIR := laid (X := ⟨31, [.tmp 4],
 (qS [qo 4 (.mv (.const (Value.int IntKind.u8 0)))] [0,1]
 (.seq (qS [qo 5 (.mv (.const (Value.int IntKind.u8 1)))] [0,1,5]
 (.block 0 (.loop (.seq (qS [qm 6 5,qo 7 (.bin .leq (.tmp 6) (.const (Value.int IntKind.u8 5)))] [0,1,5,7]
 (qC 7 .skip
 (.exit 0)))
 (.seq (.block 1 (qS [qm 10 1,qm 11 0,qm 12 5,qn 13 11,qf 14 2 13,qo 15 (.idxA 6 3 (.tmp 14) (.tmp 12)),qf 16 0 15,ql 17 16,qb 18 .geq 10 17,qm 19 18,
  qt 19 (qm 20 1),qt 19 (qm 21 0),qt 19 (qm 22 5),qt 19 (qn 23 21),qt 19 (qf 24 2 23),qt 19 (qo 25 (.idxA 6 3 (.tmp 24) (.tmp 22))),qt 19 (qf 26 1 25),
  qt 19 (ql 27 26),qt 19 (qb 28 .lss 20 27),qa 29 19 28] [0,1,5,29]
 (qC 29 (qS [qm 30 5,qm 4 30] [4]
 .ret)
 .skip)))
 (.reg [qm 8 5,qo 9 (.bin .add (.tmp 8) (.const (Value.int IntKind.u8 1))),qm 5 9] [0,1,5]))))))
 (qS [qo 4 (.mv (.const (Value.int IntKind.u8 0)))] [4]
 .ret)))⟩)
theorem n37 : F37.n = 31 := rfl
theorem low37 : lowF Tryd.prog (kpO F37) (assoc []) 37 = some F37 := by kernel_rfl
def F73 : FIR := laid (X := ⟨18, [.tmp 4],
 (qS [qo 4 (.mv (.const (Value.int IntKind.u8 0)))] [0,1]
 (qS [qm 8 0,qm 9 1,qx 10 34 [8,9],qm 7 10,qe 11 7 0,qe 12 7 1,qm 5 11,qm 6 12] [0,5,6]
 (.seq (qS [qm 13 6,qo 14 (.un .not (.tmp 13))] [0,5,14]
 (qC 14 (qS [qo 4 (.mv (.const (Value.int IntKind.u8 0)))] [4]
 .ret)
 .skip))
 (qS [qm 15 0,qm 16 5,qx 17 37 [15,16],qm 4 17] [4]
 .ret))))⟩)
theorem n73 : F73.n = 18 := rfl
theorem low73 : lowF Tryd.prog (kpO F73) (assoc []) 73 = some F73 := by kernel_rfl
def F38 : FIR := laid (X := ⟨15, [.tmp 4],
 (qS [qz 4 false] [0,1]
 (qS [qm 6 0,qm 7 1,qx 8 73 [6,7],qm 5 8] [5]
 (qS [qm 9 5,qo 10 (.bin .geq (.tmp 9) (.const (Value.int IntKind.u8 1))),qm 11 10,qt 11 (qm 12 5),
  qt 11 (qo 13 (.bin .leq (.tmp 12) (.const (Value.int IntKind.u8 3)))),qa 14 11 13,qm 4 14] [4]
 .ret)))⟩)
theorem n38 : F38.n = 15 := rfl
theorem low38 : lowF Tryd.prog (kpO F38) (assoc []) 38 = some F38 := by kernel_rfl
def F39 : FIR := laid (X := ⟨26, [],
 (qS [qm 5 0,qm 6 1,qx 7 35 [5,6],
  qo 4 (.alloc 62 [(Value.int IntKind.i64 0), (Value.int IntKind.u8 0), (Value.int IntKind.i64 0), (Value.int IntKind.i64 0), (Value.int IntKind.i64 0), (Value.int IntKind.i64 0), (Value.bool false), (Value.bool false)]),
  qs 8 4 7] [0,1,4]
 (.seq (qS [qf 8 7 4,ql 9 8] [0,1,4,9]
 (qC 9 .ret
 .skip))
 (qS [qf 10 7 4,⟨none,none,.store 1 (.tmp 10) (.const (Value.bool true))⟩] [0,1,4]
 (qS [qm 11 0,qm 12 1,qN 13 8 4,qx 14 64 [11,12,13]] [0,1]
 (qD [qm 15 0,qm 16 0,qn 17 16,qf 18 4182 17,ql 19 18,qm 20 1,qx 21 32 [20],
  qo 22 (.bslice 33 1 [(Value.int IntKind.u64 0)] [(0, 1, (.tmp 21))]),qo 23 (.append 33 1 8 [(Value.int IntKind.u64 0)] (.tmp 19) (.tmp 22)),qn 24 15,
  qf 25 4182 24,qs 1 25 23] [[0,1,2,3,4,5,6,7,8,9,10,11], [0,1,2,3,5,6,4,7,8,9,10,11]] [])))))⟩)
theorem n39 : F39.n = 26 := rfl
theorem low39 : lowF Tryd.prog (kpO F39) (assoc [(4,[[0,1,2,3,4,5,6,7,8,9,10,11], [0,1,2,3,5,6,4,7,8,9,10,11]])]) 39 = some F39 := by kernel_rfl
def F98 : FIR := laid (X := ⟨37, [.tmp 6],
 (qS [qk 6 0] [0,1,2]
 (.seq (.block 0 (.loop (.seq (qS [qm 8 1,qm 9 2,qb 10 .lss 8 9] [0,1,2,10]
 (qC 10 .skip
 (.exit 0)))
 (.block 1 (.seq (qS [qm 11 0,qn 12 11,qf 13 1 12,ql 14 13,qm 15 1,qc 16 .quo 15 64,qi 17 1 14 16,ql 18 17,qm 19 1,qc 20 .rem 19 64,qb 21 .shr 18 20,
  qm 7 21] [0,1,2,7]
 (qS [qm 22 7,qo 23 (.bin .neq (.tmp 22) (.const (Value.int IntKind.u64 0)))] [0,1,2,7,23]
 (qC 23 (qS [qm 24 1,qm 25 7,qx 26 112 [25],qb 27 .add 24 26,qm 1 27] [1,2]
 (.seq (qS [qm 28 1,qm 29 2,qb 30 .geq 28 29] [1,30]
 (qC 30 (qS [qk 6 (-1)] [6]
 .ret)
 .skip))
 (qS [qm 31 1,qm 6 31] [6]
 .ret)))
 .skip)))
 (.reg [qm 32 1,qm 33 1,qc 34 .rem 33 64,qo 35 (.bin .sub (.const (Value.int IntKind.i64 64)) (.tmp 34)),qb 36 .add 32 35,qm 1 36] [0,1,2]))))))
 (qS [qk 6 (-1)] [6]
 .ret)))⟩)
theorem n98 : F98.n = 37 := rfl
theorem low98 : lowF Tryd.prog (kpO F98) (assoc []) 98 = some F98 := by kernel_rfl
def F97 : FIR := laid (X := ⟨37, [],
 (.seq (qS [ql 6 1,qo 7 (.bin .lss (.tmp 6) (.const (Value.int IntKind.u8 1))),qm 8 7,qu 8 (ql 9 1),
  qu 8 (qo 10 (.bin .gtr (.tmp 9) (.const (Value.int IntKind.u8 5)))),qr 11 8 10] [0,1,2,11]
 (qC 11 .ret
 .skip))
 (.seq (qD [ql 12 2,ql 13 1,qn 14 12,qf 15 2 14,qo 16 (.idxA 6 3 (.tmp 15) (.tmp 13)),qN 17 3 16,
  qo 4 (.alloc 71 [(Value.int IntKind.i64 0), (Value.int IntKind.i64 0), (Value.int IntKind.i64 0)]),qs 3 4 17] [[0,1,2,3,4,5,6,7]] [0,2,4])
 (qS [ql 18 2,qf 19 0 4,ql 20 19,qf 21 1 4,ql 22 21,qx 23 98 [18,20,22],qm 5 23] [0,2,4,5]
 (.block 0 (.loop (.seq (qS [qm 24 5,qc 25 .geq 24 0] [0,2,4,5,25]
 (qC 25 .skip
 (.exit 0)))
 (.seq (.block 1 (qS [qm 32 0,qm 33 5,qx 34 32 [33],qo 35 (.callv (.tmp 32) [(.tmp 34)]),qo 36 (.un .not (.tmp 35))] [0,2,4,5,36]
 (qC 36 .ret
 .skip)))
 (.reg [ql 26 2,qm 27 5,qc 28 .add 27 1,qf 29 1 4,ql 30 29,qx 31 98 [26,28,30],qm 5 31] [0,2,4,5]))))))))⟩)
theorem n97 : F97.n = 37 := rfl
theorem low97 : lowF Tryd.prog (kpO F97) (assoc [(1,[[0,1,2,3,4,5,6,7]])]) 97 = some F97 := by kernel_rfl
def F61 : FIR := laid (X := ⟨6, [.tmp 4],
 (qS [qB 2 25 0,qB 3 36 1,qo 4 (.mv (.const Value.nilFunc))] [2,3]
 (qS [qo 5 (.clos (.func 97) [] [(.tmp 3), (.tmp 2)]),qm 4 5] [4]
 .ret))⟩)
theorem n61 : F61.n = 6 := rfl
theorem low61 : lowF Tryd.prog (kpO F61) (assoc []) 61 = some F61 := by kernel_rfl
def F63 : FIR := laid (X := ⟨52, [.cell1 6],
 (qS [qB 5 3 2,qo 6 (.alloc 3 [(Value.int IntKind.i64 0)])] [0,1,5,6]
 (.seq (qS [qm 10 1,qo 11 (.bin .neq (.tmp 10) (.const (Value.int IntKind.u8 5)))] [0,1,5,6,11]
 (qC 11 (qS [qm 12 0,qm 13 1,qn 14 12,qf 15 2 14,qo 16 (.idxA 6 3 (.tmp 15) (.tmp 13)),qf 17 2 16,ql 18 17,qm 7 18] [0,1,5,6,7]
 (.seq (.seq (qD [qm 19 0,qm 20 1,qn 21 19,qf 22 2 21,qo 23 (.idxA 6 3 (.tmp 22) (.tmp 20)),qf 24 1 23,ql 25 24,qm 26 7,qb 27 .sub 25 26,ql 28 5,
  qb 29 .lss 27 28] [[0,1,2,3,4,5,6,7,8,9,10]] [0,1,5,6,7,29])
 (qC 29 (qS [⟨none,none,.store 1 (.tmp 6) (.const (Value.int IntKind.i64 (-1)))⟩] [6]
 .ret)
 .skip))
 (.seq (qD [qm 30 0,qm 31 1,qn 32 30,qf 33 2 32,qo 34 (.idxA 6 3 (.tmp 33) (.tmp 31)),qf 35 2 34,ql 36 35,ql 37 5,qb 38 .add 36 37,qn 39 30,
  qf 40 2 39,qo 41 (.idxA 6 3 (.tmp 40) (.tmp 31)),qf 42 2 41,qs 1 42 38] [[0,1,2,3,4,5,6,7,8,9,10,11,12,13]] [6,7])
 (qS [qm 43 7,qs 1 6 43] [6]
 .ret))))
 .skip))
 (.seq (qS [qm 44 0,qo 45 (.clos (.func 101) [(.tmp 44)] [])] [5,6,45]
 (.block 0 (.rangef (.tmp 45) [46,47] (qS [qm 8 46] [5,6,8,47]
 (.reg [qm 9 47] [5,6,8,9]))
 (.block 1 (qS [qm 48 9,ql 49 5,qb 50 .geq 48 49] [6,8,50]
 (qC 50 (qS [qm 51 8,qs 1 6 51] [6]
 .ret)
 .skip))))))
 (qS [⟨none,none,.store 1 (.tmp 6) (.const (Value.int IntKind.i64 (-1)))⟩] [6]
 .ret))))⟩)
theorem n63 : F63.n = 52 := rfl
theorem low63 : lowF Tryd.prog (kpO F63) (assoc [(3,[[0,1,2,3,4,5,6,7,8,9,10]]), (5,[[0,1,2,3,4,5,6,7,8,9,10,11,12,13]])]) 63 = some F63 := by kernel_rfl
def F29 : FIR := laid (X := ⟨28, [.tmp 6, .tmp 7],
 (qS [qB 5 62 2,qk 6 0,qk 7 0] [0,1,5]
 (qS [qm 9 0,qm 10 1,qf 11 5 5,ql 12 11,qo 13 (.bin .add (.const (Value.int IntKind.i64 2)) (.tmp 12)),qx 14 63 [9,10,13],qm 8 14] [0,5,8]
 (.seq (qS [qm 15 8,qc 16 .lss 15 0] [0,5,8,16]
 (qC 16 (qS [qk 6 0,qk 7 41] [6,7]
 .ret)
 .skip))
 (qS [qm 17 0,qm 18 8,qN 19 8 5,qx 20 64 [17,18,19]] [0,8]
 (qS [qm 21 0,qm 22 8,qx 23 31 [21,22],⟨none,none,.clr [(Value.int IntKind.u64 0)] (.tmp 23)⟩] [0,8]
 (qS [qm 24 0,qm 25 8,qo 26 (.call 65 [(.tmp 24), (.tmp 25), (.const (Value.bool true))])] [8]
 (qS [qm 27 8,qm 6 27,qk 7 0] [6,7]
 .ret)))))))⟩)
theorem n29 : F29.n = 28 := rfl
theorem low29 : lowF Tryd.prog (kpO F29) (assoc []) 29 = some F29 := by kernel_rfl
def F30 : FIR := laid (X := ⟨40, [],
 (qS [qm 8 0,qn 9 8,qf 10 20 9,qo 11 (.idxA 64 1 (.tmp 10) (.const (Value.int IntKind.i64 0))),ql 12 11,qm 6 12] [0,1,2,6]
 (.seq (qS [qm 13 2,qL 14 13,qk 15 0] [0,1,2,6,14,15]
 (.block 0 (.loop (qS [qb 16 .lss 15 14] [0,1,2,6,14,15,16]
 (.seq (qC 16 .skip
 (.exit 0))
 (.seq (.block 1 (qS [qm 17 15,qm 7 17] [0,1,2,6,7,14,15]
 (.reg [qm 18 2,qm 19 7,qm 20 6,qi 21 1 18 19,qs 1 21 20] [0,1,2,6,14,15])))
 (.reg [qc 22 .add 15 1,qm 15 22] [0,1,2,6,14,15])))))))
 (qS [qm 23 2,qL 24 23,qc 25 .gtr 24 0,qm 26 25,qt 26 (qm 27 0),qt 26 (qm 28 1),qt 26 (qx 29 37 [27,28]),
  qt 26 (qo 30 (.bin .geq (.tmp 29) (.const (Value.int IntKind.u8 4)))),qa 31 26 30,qm 32 31,qt 32 (qm 33 0),qt 32 (qm 34 6),qt 32 (qx 35 38 [33,34]),
  qa 36 32 35] [0,1,36]
 (qC 36 (.reg [qm 37 0,qm 38 1,qx 39 39 [37,38]] [])
 .skip))))⟩)
theorem n30 : F30.n = 40 := rfl
theorem low30 : lowF Tryd.prog (kpO F30) (assoc []) 30 = some F30 := by kernel_rfl
def F8 : FIR := laid (X := ⟨74, [.tmp 10, .tmp 11],
 (qS [qo 10 (.mv (.const (Value.int IntKind.u64 0))),qk 11 0] [0,1,2,3,4]
 (qS [qm 19 4,qm 12 19,qk 13 0,qk 14 0] [0,1,2,3,4,12,13,14]
 (.seq (qS [qm 20 3] [0,1,2,3,4,12,13,14,20]
 (.block 0 (.seq (.block 4 (.seq (.block 3 (.seq (.block 2 (.seq (.block 1 (.seq (.seq (qS [qo 22 (.bin .eql (.tmp 20) (.const (Value.int IntKind.u8 5))),qm 21 22] [0,1,2,3,4,12,13,14,20,21]
 (qC 21 (.exit 1)
 .skip))
 (.seq (qS [qo 24 (.bin .eql (.tmp 20) (.const (Value.int IntKind.u8 3))),qm 23 24] [0,1,2,3,12,13,14,20,23]
 (qC 23 (.exit 2)
 .skip))
 (.seq (qS [qo 26 (.bin .eql (.tmp 20) (.const (Value.int IntKind.u8 1))),qm 25 26] [0,1,2,3,12,13,14,20,25]
 (qC 25 .skip
 (qS [qo 27 (.bin .eql (.tmp 20) (.const (Value.int IntKind.u8 2))),qm 25 27] [0,1,2,3,12,13,14,20,25]
 (qC 25 .skip
 (.reg [qo 28 (.bin .eql (.tmp 20) (.const (Value.int IntKind.u8 4))),qm 25 28] [0,1,2,3,12,13,14,25])))))
 (qC 25 (.exit 3)
 .skip))))
 (.exit 4)))
 (qS [qm 29 4,qk 12 0,qm 13 29] [0,1,2,3,12,13,14]
 (.exit 0))))
 (.reg [qm 30 14,qc 31 .add 30 1,qm 14 31] [0,1,2,3,12,13,14])))
 (.exit 0)))
 (.seq (qS [qo 10 (.mv (.const (Value.int IntKind.u64 0))),qk 11 1] [10,11]
 .ret)
 (.exit 0)))))
 (qS [qm 33 2,qm 34 3,
  qo 35 (.build [(Value.int IntKind.i64 0), (Value.int IntKind.u8 0), (Value.int IntKind.i64 0), (Value.int IntKind.i64 0), (Value.int IntKind.i64 0), (Value.int IntKind.i64 0), (Value.bool false), (Value.bool false)] [(0, 1, (.tmp 33)), (1, 1, (.tmp 34))]),
  qm 36 12,qm 37 13,qx 38 27 [35,36,37],qm 32 38,qe 39 32 0,qe 40 32 1,
  qo 15 (.alloc 62 [(Value.int IntKind.i64 0), (Value.int IntKind.u8 0), (Value.int IntKind.i64 0), (Value.int IntKind.i64 0), (Value.int IntKind.i64 0), (Value.int IntKind.i64 0), (Value.bool false), (Value.bool false)]),
  qs 8 15 39,qm 16 40] [0,1,3,14,15,16]
 (.seq (qS [qm 41 16,qo 42 (.un .not (.tmp 41)),qm 43 42,qu 43 (qm 44 1),qu 43 (qx 45 28 [44]),qu 43 (qo 46 (.un .not (.tmp 45))),qr 47 43 46,
  qm 48 47,qu 48 (qf 49 5 15),qu 48 (ql 50 49),qu 48 (qm 51 14),qu 48 (qb 52 .lss 50 51),qr 53 48 52] [0,1,3,15,53]
 (qC 53 (qS [qo 10 (.mv (.const (Value.int IntKind.u64 0))),qk 11 1] [10,11]
 .ret)
 .skip))
 (qS [qm 55 0,qm 56 1,qN 57 8 15,qx 58 29 [55,56,57],qm 54 58,qe 59 54 0,qe 60 54 1,qm 17 59,qm 18 60] [0,3,17,18]
 (.seq (qS [qm 61 18,qc 62 .neq 61 0] [0,3,17,18,62]
 (qC 62 (qS [qm 63 18,qo 10 (.mv (.const (Value.int IntKind.u64 0))),qm 11 63] [10,11]
 .ret)
 .skip))
 (.seq (qS [qm 64 3,qo 65 (.bin .leq (.tmp 64) (.const (Value.int IntKind.u8 3)))] [0,17,65]
 (qC 65 (.reg [qm 66 0,qm 67 17,qm 68 0,qm 69 17,qx 70 31 [68,69],qx 71 30 [66,67,70]] [17])
 .skip))
 (qS [qm 72 17,qx 73 32 [72],qm 10 73,qk 11 0] [10,11]
 .ret)))))))))⟩)
theorem n8 : F8.n = 74 := rfl
theorem low8 : lowF Tryd.prog (kpO F8) (assoc []) 8 = some F8 := by kernel_rfl
def F67 : FIR := laid (X := ⟨40, [.tmp 4, .tmp 5],
 (qS [qo 4 (.mv (.const (Value.slice none 0 0))),qo 5 (.mv (.const (Value.slice none 0 0)))] [0,1]
 (qS [qm 10 0,qm 11 1,qx 12 31 [10,11],qm 6 12] [0,1,6]
 (qS [qk 7 0] [0,1,6,7]
 (.seq (qS [qm 13 0,qm 14 1,qx 15 35 [13,14],qo 16 (.fldV 1 1 false (.tmp 15))] [6,7,16]
 (.block 0 (qS [qo 20 (.bin .eql (.tmp 16) (.const (Value.int IntKind.u8 6))),qm 19 20] [6,7,16,19]
 (qC 19 (qS [qm 22 6,qo 23 (.idxL 1 (.tmp 22) (.const (Value.int IntKind.i64 0))),ql 24 23,qx 25 103 [24],qm 21 25,qe 26 21 0,qe 27 21 1,qm 8 26,
  qm 9 27] [6,8]
 (.reg [qm 28 8,qc 29 .add 28 1,qm 7 29] [6,7]))
 (.seq (qS [qo 31 (.bin .eql (.tmp 16) (.const (Value.int IntKind.u8 4))),qm 30 31] [6,7,16,30]
 (qC 30 .skip
 (.reg [qo 32 (.bin .eql (.tmp 16) (.const (Value.int IntKind.u8 5))),qm 30 32] [6,7,30])))
 (qC 30 .skip
 (.reg [qm 17 6,qL 18 17,qm 7 18] [6,7])))))))
 (.seq (qD [qm 33 6,qm 34 7,qm 35 7,qo 36 (.slcL 1 (.tmp 33) none (some (.tmp 34)) (some (.tmp 35))),qm 37 6,qm 38 7,
  qo 39 (.slcL 1 (.tmp 37) (some (.tmp 38)) none none),qm 4 36,qm 5 39] [[0,1,2,3,4,5,6,7,8]] [4,5])
 .ret)))))⟩)
theorem n67 : F67.n = 40 := rfl
theorem low67 : lowF Tryd.prog (assoc [(0, [0,1]), (1, [0,1,6]), (2, [0,1,6,7]), (3, [6,7,16]), (4, [6,7]), (5, [6,7,16,19]), (6, [6,8]), (7, [6,7]), (8, [6,7,16,30]), (9, [6,7,30]), (10, [4,5])]) (assoc [(10,[[0,1,2,3,4,5,6,7,8]])]) 67 = some F67 := by kernel_rfl
def F80 : FIR := laid (X := ⟨26, [.tmp 4, .tmp 5],
 (qS [qk 4 0,qk 5 0] [0,1]
 (qS [qm 11 0,qm 12 1,qx 13 34 [11,12],qm 10 13,qe 14 10 0,qe 15 10 1,qm 6 14,qm 7 15] [0,6,7]
 (.seq (qS [qm 16 7,qo 17 (.un .not (.tmp 16))] [0,6,17]
 (qC 17 (qS [qk 4 0,qk 5 42] [4,5]
 .ret)
 .skip))
 (qS [qm 19 0,qm 20 6,qx 21 67 [19,20],qm 18 21,qe 22 18 0,qe 23 18 1,qm 8 22,qm 9 23] [8]
 (qS [qm 24 8,qL 25 24,qm 4 25,qk 5 0] [4,5]
 .ret)))))⟩)
theorem n80 : F80.n = 26 := rfl
theorem low80 : lowF Tryd.prog (kpO F80) (assoc []) 80 = some F80 := by kernel_rfl
def F33 : FIR := laid (X := ⟨37, [.tmp 6, .tmp 7],
 (qS [qo 6 (.mv (.const (Value.pointer none))),qk 7 0] [0,1,2]
 (qS [qm 13 0,qm 14 1,qx 15 34 [13,14],qm 12 15,qe 16 12 0,qe 17 12 1,qm 8 16,qm 9 17] [0,2,8,9]
 (.seq (qS [qm 18 9,qo 19 (.un .not (.tmp 18))] [0,2,8,19]
 (qC 19 (qS [qo 6 (.mv (.const (Value.pointer none))),qk 7 42] [6,7]
 .ret)
 .skip))
 (qS [qm 21 0,qm 22 8,qx 23 67 [21,22],qm 20 23,qe 24 20 0,qe 25 20 1,qm 10 24,qm 11 25] [2,10]
 (.seq (qS [qm 26 2,qc 27 .lss 26 0,qm 28 27,qu 28 (qm 29 2),qu 28 (qm 30 10),qu 28 (qL 31 30),qu 28 (qb 32 .geq 29 31),qr 33 28 32] [2,10,33]
 (qC 33 (qS [qo 6 (.mv (.const (Value.pointer none))),qk 7 43] [6,7]
 .ret)
 .skip))
 (qS [qm 34 10,qm 35 2,qi 36 1 34 35,qm 6 36,qk 7 0] [6,7]
 .ret))))))⟩)
theorem n33 : F33.n = 37 := rfl
theorem low33 : lowF Tryd.prog (kpO F33) (assoc []) 33 = some F33 := by kernel_rfl
def F16 : FIR := laid (X := ⟨23, [.tmp 6, .tmp 7],
 (qS [qo 6 (.mv (.const (Value.int IntKind.u64 0))),qk 7 0] [0,1,2]
 (qS [qm 11 0,qm 12 1,qm 13 2,qx 14 33 [11,12,13],qm 10 14,qe 15 10 0,qe 16 10 1,qm 8 15,qm 9 16] [8,9]
 (.seq (qS [qm 17 9,qc 18 .neq 17 0] [8,9,18]
 (qC 18 (qS [qm 19 9,qo 6 (.mv (.const (Value.int IntKind.u64 0))),qm 7 19] [6,7]
 .ret)
 .skip))
 (qS [qm 20 8,qn 21 20,ql 22 21,qm 6 22,qk 7 0] [6,7]
 .ret))))⟩)
theorem n16 : F16.n = 23 := rfl
theorem low16 : lowF Tryd.prog (kpO F16) (assoc []) 16 = some F16 := by kernel_rfl
def F36 : FIR := laid (X := ⟨14, [.tmp 4],
 (qS [qz 4 false] [0,1]
 (.seq (qS [qm 5 1,qx 6 71 [5]] [0,1,6]
 (.block 0 (.seq (qS [qo 8 (.bin .eql (.tmp 6) (.const (Value.int IntKind.u8 0))),qm 7 8] [0,1,6,7]
 (qC 7 .skip
 (qS [qo 9 (.bin .eql (.tmp 6) (.const (Value.int IntKind.u8 1))),qm 7 9] [0,1,6,7]
 (qC 7 .skip
 (.reg [qo 10 (.bin .eql (.tmp 6) (.const (Value.int IntKind.u8 2))),qm 7 10] [0,1,7])))))
 (qC 7 (qS [qz 4 true] [4]
 .ret)
 .skip))))
 (qS [qm 11 0,qm 12 1,qx 13 72 [11,12],qm 4 13] [4]
 .ret)))⟩)
theorem n36 : F36.n = 14 := rfl
theorem low36 : lowF Tryd.prog (kpO F36) (assoc []) 36 = some F36 := by kernel_rfl
def F9 : FIR := laid (X := ⟨59, [.tmp 8],
 (qS [qk 8 0] [0,1,2,3]
 (qS [qm 14 0,qm 15 1,qm 16 2,qx 17 33 [14,15,16],qm 13 17,qe 18 13 0,qe 19 13 1,qm 9 18,qm 10 19] [0,1,2,3,9,10]
 (.seq (qS [qm 20 10,qc 21 .neq 20 0] [0,1,2,3,9,10,21]
 (qC 21 (qS [qm 22 10,qm 8 22] [8]
 .ret)
 .skip))
 (qS [qm 24 0,qm 25 1,qx 26 34 [24,25],qm 23 26,qe 27 23 0,qe 28 23 1,qm 11 27,qm 12 28] [0,2,3,9,11]
 (.seq (.block 0 (qS [qm 30 2,qc 31 .eql 30 0,qm 32 31,qt 32 (qm 33 0),qt 32 (qm 34 11),qt 32 (qx 35 35 [33,34]),
  qt 32 (qo 36 (.fldV 1 1 false (.tmp 35))),qt 32 (qo 37 (.bin .eql (.tmp 36) (.const (Value.int IntKind.u8 6)))),qa 38 32 37,qm 29 38] [0,3,9,11,29]
 (qC 29 (qS [qk 8 44] [8]
 .ret)
 (qS [qm 40 0,qm 41 3,qx 42 36 [40,41],qo 43 (.un .not (.tmp 42)),qm 39 43] [0,3,9,11,39]
 (qC 39 (qS [qk 8 1] [8]
 .ret)
 .skip)))))
 (qS [qm 44 9,qm 45 3,qn 46 44,qs 1 46 45] [0,3,11]
 (.seq (qS [qm 47 0,qm 48 11,qx 49 37 [47,48],qo 50 (.bin .geq (.tmp 49) (.const (Value.int IntKind.u8 4))),qm 51 50,qt 51 (qm 52 0),
  qt 51 (qm 53 3),qt 51 (qx 54 38 [52,53]),qa 55 51 54] [0,11,55]
 (qC 55 (.reg [qm 56 0,qm 57 11,qx 58 39 [56,57]] [])
 .skip))
 (qS [qk 8 0] [8]
 .ret))))))))⟩)
theorem n9 : F9.n = 59 := rfl
theorem low9 : lowF Tryd.prog (kpO F9) (assoc []) 9 = some F9 := by kernel_rfl
def F10 : FIR := laid (X := ⟨34, [.tmp 4, .tmp 5],
 (qS [qk 4 0,qk 5 0] [0,1]
 (.seq (.block 0 (qS [qm 7 0,qn 8 7,qf 9 4180 8,ql 10 9,qL 11 10,qc 12 .geq 11 4096,qm 6 12] [0,1,6]
 (qC 6 (qS [qk 4 0,qk 5 45] [4,5]
 .ret)
 (qS [qm 14 0,qm 15 1,qx 16 36 [14,15],qo 17 (.un .not (.tmp 16)),qm 13 17] [0,1,13]
 (qC 13 (qS [qk 4 0,qk 5 1] [4,5]
 .ret)
 .skip)))))
 (qS [qm 18 0,qm 19 0,qn 20 19,qf 21 4180 20,ql 22 21,qm 23 1,qo 24 (.bslice 33 1 [(Value.int IntKind.u64 0)] [(0, 1, (.tmp 23))]),
  qo 25 (.append 33 1 8 [(Value.int IntKind.u64 0)] (.tmp 22) (.tmp 24)),qn 26 18,qf 27 4180 26,qs 1 27 25] [0]
 (qS [qm 28 0,qn 29 28,qf 30 4180 29,ql 31 30,qL 32 31,qc 33 .sub 32 1,qm 4 33,qk 5 0] [4,5]
 .ret))))⟩)
theorem n10 : F10.n = 34 := rfl
theorem low10 : lowF Tryd.prog (kpO F10) (assoc []) 10 = some F10 := by kernel_rfl
def F23 : FIR := laid (X := ⟨20, [.cellN 4 8, .tmp 5],
 (qS [qo 4 (.alloc 62 [(Value.int IntKind.i64 0), (Value.int IntKind.u8 0), (Value.int IntKind.i64 0), (Value.int IntKind.i64 0), (Value.int IntKind.i64 0), (Value.int IntKind.i64 0), (Value.bool false), (Value.bool false)]),
  qk 5 0] [0,1,4]
 (qS [qm 9 0,qm 10 1,qx 11 34 [9,10],qm 8 11,qe 12 8 0,qe 13 8 1,qm 6 12,qm 7 13] [0,4,6,7]
 (.seq (qS [qm 14 7,qo 15 (.un .not (.tmp 14))] [0,4,6,15]
 (qC 15 (qS [qo 16 (.build [(Value.int IntKind.i64 0), (Value.int IntKind.u8 0), (Value.int IntKind.i64 0), (Value.int IntKind.i64 0), (Value.int IntKind.i64 0), (Value.int IntKind.i64 0), (Value.bool false), (Value.bool false)] []),
  qs 8 4 16,qk 5 42] [4,5]
 .ret)
 .skip))
 (qS [qm 17 0,qm 18 6,qx 19 35 [17,18],qs 8 4 19,qk 5 0] [4,5]
 .ret))))⟩)
theorem n23 : F23.n = 20 := rfl
theorem low23 : lowF Tryd.prog (kpO F23) (assoc []) 23 = some F23 := by kernel_rfl
def F76 : FIR := laid (X := ⟨24, [],
 (qS [ql 7 1,qx 8 77 [7],qk 9 0] [0,8,9]
 (.block 0 (.loop (qS [qc 10 .lss 9 4] [0,8,9,10]
 (.seq (qC 10 .skip
 (.exit 0))
 (.seq (.block 1 (qS [qo 11 (.idxV 4 1 false (.tmp 8) (.tmp 9)),qm 4 11] [0,4,8,9]
 (qS [qm 12 4,qL 13 12,qk 14 0] [0,8,9,12,13,14]
 (.block 2 (.loop (qS [qb 15 .lss 14 13] [0,8,9,12,13,14,15]
 (.seq (qC 15 .skip
 (.exit 2))
 (.seq (.block 3 (qS [qi 16 1 12 14,ql 17 16,qm 6 17] [0,6,8,9,12,13,14]
 (qS [qm 18 0,qm 19 6,qo 20 (.callv (.tmp 18) [(.tmp 19)]),qo 21 (.un .not (.tmp 20))] [0,8,9,12,13,14,21]
 (qC 21 .ret
 .skip))))
 (.reg [qc 22 .add 14 1,qm 14 22] [0,8,9,12,13,14])))))))))
 (.reg [qc 23 .add 9 1,qm 9 23] [0,8,9])))))))⟩)
theorem n76 : F76.n = 24 := rfl
theorem low76 : lowF Tryd.prog (kpO F76) (assoc []) 76 = some F76 := by kernel_rfl
def F43 : FIR := laid (X := ⟨4, [.tmp 2],
 (qS [qB 1 25 0,qo 2 (.mv (.const Value.nilFunc))] [1]
 (qS [qo 3 (.clos (.func 76) [] [(.tmp 1)]),qm 2 3] [2]
 .ret))⟩)
theorem n43 : F43.n = 4 := rfl
theorem low43 : lowF Tryd.prog (kpO F43) (assoc []) 43 = some F43 := by kernel_rfl
def F77 : FIR := laid (X := ⟨20, [.cellN 2 4],
 (qS [qo 2 (.alloc 138 [(Value.slice none 0 0), (Value.slice none 0 0), (Value.slice none 0 0), (Value.slice none 0 0)])] [0,2]
 (.seq (qD [qm 3 0,qn 4 3,qf 5 20 4,qo 6 (.slcA 64 1 (.tmp 5) none none),qm 7 0,qn 8 7,qf 9 84 8,qo 10 (.slcA 4096 1 (.tmp 9) none none),
  qm 11 0,qn 12 11,qf 13 4180 12,ql 14 13,qm 15 0,qn 16 15,qf 17 4181 16,ql 18 17,
  qo 19 (.build [(Value.slice none 0 0), (Value.slice none 0 0), (Value.slice none 0 0), (Value.slice none 0 0)] [(0, 1, (.tmp 6)), (1, 1, (.tmp 10)), (2, 1, (.tmp 14)), (3, 1, (.tmp 18))]),
  qs 4 2 19] [[0,1,2,3,4,5,6,7,8,9,10,11,12,13,14,15,16,17]] [2])
 .ret))⟩)
theorem n77 : F77.n = 20 := rfl
theorem low77 : lowF Tryd.prog (kpO F77) (assoc [(1,[[0,1,2,3,4,5,6,7,8,9,10,11,12,13,14,15,16,17]])]) 77 = some F77 := by kernel_rfl
def F7 : FIR := laid (X := ⟨86, [.tmp 2, .tmp 3],
 (qS [qB 1 30 0,qo 2 (.mv (.const (Value.pointer none))),qk 3 0] [1]
 (.seq (.block 0 (.seq (qS [qf 9 0 1,ql 10 9,qo 11 (.call 26 [(.tmp 10), (.const (Value.int IntKind.i64 64)), (.const (Value.int IntKind.i64 65536))]),
  qo 12 (.un .not (.tmp 11)),qm 8 12] [1,8]
 (qC 8 .skip
 (qS [qf 13 1 1,ql 14 13,qf 15 0 1,ql 16 15,qo 17 (.call 26 [(.tmp 14), (.const (Value.int IntKind.i64 16)), (.tmp 16)]),
  qo 18 (.un .not (.tmp 17)),qm 8 18] [1,8]
 (qC 8 .skip
 (.reg [qf 19 2 1,ql 20 19,qo 21 (.call 26 [(.tmp 20), (.const (Value.int IntKind.i64 64)), (.const (Value.int IntKind.i64 1048576))]),
  qo 22 (.un .not (.tmp 21)),qm 8 22] [1,8])))))
 (qC 8 (qS [qo 2 (.mv (.const (Value.pointer none))),qk 3 40] [2,3]
 .ret)
 (.seq (qS [qf 24 3 1,ql 25 24,qo 26 (.call 26 [(.tmp 25), (.const (Value.int IntKind.i64 0)), (.const (Value.int IntKind.i64 65536))]),
  qo 27 (.un .not (.tmp 26)),qm 23 27] [1,23]
 (qC 23 .skip
 (.reg [qf 28 4 1,ql 29 28,qo 30 (.call 26 [(.tmp 29), (.const (Value.int IntKind.i64 0)), (.const (Value.int IntKind.i64 15))]),
  qo 31 (.un .not (.tmp 30)),qm 23 31] [1,23])))
 (qC 23 (qS [qo 2 (.mv (.const (Value.pointer none))),qk 3 40] [2,3]
 .ret)
 .skip)))))
 (qS [qo 32 (.mkmap),
  qo 33 (.build ([(Value.slice none 0 0), (Value.slice none 0 0)] ++ rep 18 [(Value.int IntKind.i64 0)] ++ rep 4160 [(Value.int IntKind.u64 0)] ++ [(Value.slice none 0 0), (Value.slice none 0 0), (Value.slice none 0 0), (Value.map none), (Value.int IntKind.i64 0)]) [(4183, 1, (.tmp 32))]),
  qB 34 76 33,qm 4 34] [1,4]
 (qS [qk 5 2] [1,4,5]
 (.seq (qS [qf 35 0 1,ql 36 35,qf 37 1 1,ql 38 37,qf 39 1 1,ql 40 39,qf 41 2 1,ql 42 41,qf 43 0 1,ql 44 43,qb 45 .add 42 44,qf 46 1 1,ql 47 46,
  qo 48 (.bin .mul (.const (Value.int IntKind.i64 2)) (.tmp 47)),qb 49 .add 45 48,qf 50 3 1,ql 51 50,
  qo 52 (.build [(Value.int IntKind.i64 0), (Value.int IntKind.i64 0), (Value.int IntKind.i64 0), (Value.int IntKind.i64 0), (Value.int IntKind.i64 0)] [(0, 1, (.tmp 36)), (1, 1, (.tmp 38)), (2, 1, (.tmp 40)), (3, 1, (.tmp 49)), (4, 1, (.tmp 51))]),
  qk 53 0] [4,5,52,53]
 (.block 1 (.loop (qS [qc 54 .lss 53 5] [4,5,52,53,54]
 (.seq (qC 54 .skip
 (.exit 1))
 (.seq (.block 2 (qS [qm 55 53,qo 56 (.idxV 5 1 false (.tmp 52) (.tmp 53)),qm 6 55,qm 7 56] [4,5,6,7,52,53]
 (qS [qm 57 4,qm 58 6,qc 59 .add 58 1,qm 60 5,qm 61 5,qm 62 7,qb 63 .add 61 62,qm 64 5,
  qo 65 (.build [(Value.int IntKind.i64 0), (Value.int IntKind.i64 0), (Value.int IntKind.i64 0)] [(0, 1, (.tmp 60)), (1, 1, (.tmp 63)), (2, 1, (.tmp 64))]),
  qn 66 57,qf 67 2 66,qo 68 (.idxA 6 3 (.tmp 67) (.tmp 59)),qs 3 68 65] [4,5,7,52,53]
 (.reg [qm 69 5,qm 70 7,qb 71 .add 69 70,qm 5 71] [4,5,52,53]))))
 (.reg [qc 72 .add 53 1,qm 53 72] [4,5,52,53])))))))
 (.seq (qD [qm 73 4,qm 74 4,qm 75 5,qo 76 (.mkslice 32 1 8 [(Value.int IntKind.u64 0)] (.tmp 75) (.tmp 75)),qm 77 5,qc 78 .quo 77 64,
  qc 79 .add 78 1,qo 80 (.mkslice 32 1 8 [(Value.int IntKind.u64 0)] (.tmp 79) (.tmp 79)),qn 81 73,qf 82 0 81,qs 1 82 76,qn 83 74,qf 84 1 83,qs 1 84 80] [[0,1,2,3,4,5,6,7,8,9,10,11,12,13], [0,1,2,4,5,6,7,3,8,9,10,11,12,13], [0,1,2,3,4,5,6,8,9,10,7,11,12,13]] [4])
 (qS [qm 85 4,qm 2 85,qk 3 0] [2,3]
 .ret)))))))⟩)
theorem n7 : F7.n = 86 := rfl
theorem low7 : lowF Tryd.prog (kpO F7) (assoc [(16,[[0,1,2,3,4,5,6,7,8,9,10,11,12,13], [0,1,2,4,5,6,7,3,8,9,10,11,12,13], [0,1,2,3,4,5,6,8,9,10,7,11,12,13]])]) 7 = some F7 := by kernel_rfl
def F112 : FIR := laid (X := ⟨14, [.tmp 2],
 (qS [qk 2 0] [0]
 (.seq (qS [qm 3 0,qo 4 (.bin .eql (.tmp 3) (.const (Value.int IntKind.u64 0)))] [0,4]
 (qC 4 (qS [qk 2 64] [2]
 .ret)
 .skip))
 (qS [qm 5 0,qm 6 0,qo 7 (.un .neg (.tmp 6)),qb 8 .and 5 7,qo 9 (.bin .mul (.tmp 8) (.const (Value.int IntKind.u64 285870213051353865))),
  qo 10 (.bin .shr (.tmp 9) (.const (Value.int IntKind.u64 58))),qo 11 (.idxA 64 1 (.global 0) (.tmp 10)),ql 12 11,qo 13 (.conv .i64 (.tmp 12)),qm 2 13] [2]
 .ret)))⟩)
theorem n112 : F112.n = 14 := rfl
theorem low112 : lowF Tryd.prog (kpO F112) (assoc []) 112 = some F112 := by kernel_rfl
set_option maxHeartbeats 3200000
theorem begins_spec (p : Nat) (x : HW) (hx : HOk x) (w : Nat) (hw : w < 1073741824) : Fun Tryd.prog 69 [ptr0 p, vi w] [HA p x] (fun v Post => v = .bool (isAt x.a.obs w) ∧ Post = [HA p x]) := by
  refine Fun.haR ?_
  refine Fun.intro low69 (by simp [n69]) ?_
  have hstl := hx.lay.stl
  by_cases hlt : w < x.ws.length
  · have hi : w / 64 < x.st.length := by omega
    have hst : x.st[w / 64]? = some x.st[w / 64] := List.getElem?_eq_getElem hi
    have hsm := hx.lay.sts _ (List.getElem_mem hi)
    have hb : isAt x.a.obs w = decide (x.st[w / 64] / 2 ^ (w % 64) % 2 = 1) := by
      rw [hx.lay.isAt hlt]; unfold bitAt
      rw [List.getD_eq_getElem?_getD, hst, Option.getD_some, Nat.testBit_eq_decide_div_mod_eq]
    have ms := mem_u0 (b := x.sb) hst
    rw [hb]
    simp only [HMem, arrV]
    generalize x.st[w / 64] = s at ms hsm ⊢
    generalize cellsAt x.sb 0 (x.st.map uv) = B at ms ⊢
    refine GOH ?_
    rw [decide_eq_true (show (w : Int) < (x.ws.length : Int) by omega)]
    refine GOH ?_
    refine endQ_mk (.inr rfl) (.tmp (by rfl) .nil) ⟨?_, rfl⟩ (by exact IMx)
    generalize s / 2 ^ (w % 64) % 2 = z
    simp only [tup, Value.bool.injEq, decide_eq_decide]; omega
  · rw [hx.lay.isAt_no hlt]
    simp only [HMem, arrV]
    refine GOH ?_
    rw [decide_eq_false (show ¬ (w : Int) < (x.ws.length : Int) by omega)]
    refine GOH ?_
    exact endQ_mk (.inr rfl) (.tmp (by rfl) .nil) ⟨rfl, rfl⟩ (by exact IMx)
theorem at_spec (p : Nat) (x : HW) (hx : HOk x) (o : Nat) (ho : o < 18446744073709551616) : Fun Tryd.prog 34 [ptr0 p, uv o] [HA p x] (fun v Post => v = .tuple #[vi (wordO o : Nat), .bool (getO x.a.obs o).isSome] ∧ Post = [HA p x]) := by
  have hw : wordO o < 1073741824 := by
    unfold wordO; split
    · rename_i e; have := tagO_three e; omega
    · omega
  rw [getO_is (fun b hb => hx.range hb)]
  refine Fun.intro low34 (by simp [n34]) ?_
  refine GOH ?_
  refine st_callP (wordOf_spec o ho) (by rfl) ?_
  refine GOH ?_
  by_cases e : tagO o = 3
  · rw [decide_eq_true e]
    refine GOH ?_
    refine st_callS (begins_spec p x hx _ hw) (by rfl) .here ?_
    refine GOH ?_
    exact endQ_mk (.inr rfl) (.tmp (by rfl) (.tmp (by rfl) .nil)) ⟨by rw [Bool.true_and]; rfl, rfl⟩ (by exact IMx)
  · rw [decide_eq_false e]
    refine GOH ?_
    exact endQ_mk (.inr rfl) (.tmp (by rfl) (.tmp (by rfl) .nil)) ⟨by rw [Bool.false_and]; rfl, rfl⟩ (by exact IMx)
theorem is_spec (p : Nat) (x : HW) (hx : HOk x) (o : Nat) (ho : o < 18446744073709551616) : Fun Tryd.prog 72 [ptr0 p, uv o] [HA p x] (fun v Post => v = .bool (getO x.a.obs o).isSome ∧ Post = [HA p x]) := by
  refine Fun.intro low72 (by simp [n72]) ?_
  refine GOH ?_
  refine st_callS (at_spec p x hx o ho) (by rfl) .here ?_
  refine GOH ?_
  exact endQ_mk (.inr rfl) (.tmp (by rfl) .nil) ⟨rfl, rfl⟩ (by exact IMx)
theorem head_spec (p : Nat) (x : HW) (hx : HOk x) (b : Ob) (hb : b ∈ x.a.obs) : Fun Tryd.prog 35 [ptr0 p, vi b.at_] [HA p x] (fun v Post => v = .agg (hdEnc b.hd).toArray ∧ Post = [HA p x]) := by
  refine Fun.haR ?_
  refine Fun.intro low35 (by simp [n35]) ?_
  obtain ⟨h1, h2⟩ := hx.lay.head b hb
  have hlt := hx.lay.at_lt hb
  have hlen := hx.lay.len
  have m1 := mem_u0 (b := x.wb) h1
  have m2 := mem_u0 (b := x.wb) h2
  have hu := unpack_spec b.hd (hx.lay.ok b hb).may
  rw [hmw]
  generalize cellsAt x.wb 0 (x.ws.map uv) = B at m1 m2 ⊢
  simp only [hdEnc] at hu ⊢
  refine VC.seq_reg ?_
  refine st_alloc (fun q => ?_)
  simp only [HMw]
  refine GOH ?_
  refine VC.seq_draws (α := Nat) (fun r => [(4, ptr0 q), (5, ptr0 r)]) (fun r => cellsAt r 0 (hdEnc b.hd) :: cellsAt q 0 [.int .i64 0, .int .u8 0, .int .i64 0, .int .i64 0, .int .i64 0, .int .i64 0, .bool false, .bool false] :: HMw p x B) (fun _ => True) ⟨?_, ?_, trivial⟩ (fun r _ => ?_)
  rotate_right
  · simp only [hdEnc, HMw]
    refine GOH ?_
    refine ⟨.inr rfl, _, _, .cellN (us := hdEnc b.hd) (by rfl) (by rfl) (fun y hy => by simp only [List.flatten_cons, List.mem_append]; first | exact .inl hy | exact .inr (.inl hy)) .nil, ?_, ⟨rfl, rfl⟩⟩
    exact IMx
  all_goals
    repeat' first
      | refine GOPH ?_
      | refine st_callP hu (by rfl) ?_
      | refine st_alloc (fun r => ?_)
    exact ⟨_, trivial, by exact SUx, by simp only [hdEnc, HMw]; exact IMx⟩
theorem slotsW_spec (p : Nat) (x : HW) (w n : Nat) (h2 : x.ws[w + 1]? = some n) (hst : w + 2 + n ≤ x.ws.length) (hlen : x.ws.length < 4194304) : Fun Tryd.prog 31 [ptr0 p, vi w] [HA p x] (fun v Post => v = .slice (some ⟨x.wb, if n = 0 then 0 else w + 2, none⟩) n n ∧ Post = [HA p x]) := by
  refine Fun.haR ?_
  refine Fun.intro low31 (by simp [n31]) ?_
  have m2 := mem_u0 (b := x.wb) h2
  simp only [HMem, arrV]
  generalize cellsAt x.wb 0 (x.ws.map uv) = B at m2 ⊢
  refine GOH ?_
  refine st_slcL3 (l := w + 2) (h := w + 2 + n) (m := w + 2 + n) (by rfl) (by rfl) (by rfl) (by rfl) (by omega) (by omega) (by omega) (by omega) rfl ?_
  refine GOH ?_
  refine endQ_mk (.inr rfl) (.tmp (by rfl) .nil) ⟨?_, rfl⟩ (by exact IMx)
  have e1 : w + 2 + n - (w + 2) = n := by omega
  simp only [tup, e1]
  congr 3
  split <;> split <;> omega
theorem slots_spec (p : Nat) (x : HW) (hx : HOk x) (b : Ob) (hb : b ∈ x.a.obs) : Fun Tryd.prog 31 [ptr0 p, vi b.at_] [HA p x] (fun v Post => v = .slice (some ⟨x.wb, if b.hd.slots = 0 then 0 else b.at_ + 2, none⟩) b.hd.slots b.hd.slots ∧ Post = [HA p x]) :=
  slotsW_spec p x b.at_ b.hd.slots (hx.lay.head b hb).2 (hx.lay.high b hb) hx.lay.len
theorem where_spec (p : Nat) (x : HW) (hx : HOk x) (w : Nat) (hw : w < 1073741824) : Fun Tryd.prog 37 [ptr0 p, vi w] [HA p x] (fun v Post => v = cv (spaceW x.a.rm w) ∧ Post = [HA p x]) := by
  refine Fun.haR ?_
  refine Fun.intro low37 (by simp [n37]) ?_
  obtain ⟨r0, r1, r2, r3, r4, r5, hrm⟩ := rm_six hx.rm.len
  have hin : ∀ i, inRm x.a.rm i w = decide (((([r0, r1, r2, r3, r4, r5] : List (Nat × Nat × Nat))[i]?).getD (0, 0, 0)).1 ≤ w ∧ w < ((([r0, r1, r2, r3, r4, r5] : List (Nat × Nat × Nat))[i]?).getD (0, 0, 0)).2.1) := fun i => by rw [← hrm]; rfl
  generalize hsp : spaceW x.a.rm w = s
  have hs0 : (∀ j, 1 ≤ j → j < 6 → inRm x.a.rm j w = false) → s = 0 := fun h => hsp.symm.trans (spaceW_none h)
  have hs1 : ∀ i, 1 ≤ i → i ≤ 5 → inRm x.a.rm i w = true → (∀ j, 1 ≤ j → j < i → inRm x.a.rm j w = false) → s = i := fun i h1 h2 h3 h4 => hsp.symm.trans (spaceW_some h1 h2 h3 h4)
  simp only [HMem, arrV, hrm, List.flatMap_cons, List.flatMap_nil, rmEnc, List.cons_append, List.nil_append]
  refine GOH ?_
  refine VC.loop (α := Nat) (Γf := fun i => [(0, ptr0 p), (1, vi w), (5, cv i)]) (Hf := fun _ => _) (I := fun i => 1 ≤ i ∧ i ≤ 6 ∧ ∀ j, 1 ≤ j → j < i → inRm x.a.rm j w = false) (μ := fun i => 6 - i) 1 ⟨by omega, by omega, by omega⟩ (by exact SUx) (Imp.refl _) ?_
  intro i ⟨i1, i2, i3⟩
  have step : ∀ b, inRm x.a.rm i w = b → b = false → ∀ j, 1 ≤ j → j < i + 1 → inRm x.a.rm j w = false := fun b hb e j h1 h2 => by
    by_cases hj : j = i
    · subst hj; rw [hb, e]
    · exact i3 j h1 (by omega)
  have hi := hin i
  have hii : i = 1 ∨ i = 2 ∨ i = 3 ∨ i = 4 ∨ i = 5 ∨ i = 6 := by omega
  rcases hii with rfl | rfl | rfl | rfl | rfl | rfl
  rotate_right
  · refine GOH ?_
    exact endQ_mk (.inr rfl) (.tmp (by rfl) .nil) ⟨by rw [hs0 i3]; rfl, rfl⟩ (by exact IMx)
  all_goals
    simp only [List.getElem?_cons_succ, List.getElem?_cons_zero, Option.getD_some] at hi
    (repeat' (first | refine GOPH ?_ | refine st_gcase (by rfl) (fun _ => ?_) (fun _ => ?_) | refine st_pcase (by rfl) (fun _ => ?_) (fun _ => ?_) | refine VC.seq_cond (by rfl) (fun _ => ?_) (fun _ => ?_) | refine VC.cond (by rfl) (fun _ => ?_) (fun _ => ?_)))
    all_goals
      simp only [decide_eq_true_eq, decide_eq_false_iff_not] at *
    all_goals first
      | exact endQ_mk (.inr rfl) (.tmp (by rfl) .nil) ⟨by rw [hs1 _ i1 (by omega) (hi.trans (decide_eq_true (by omega))) i3]; rfl, rfl⟩ (by exact IMx)
      | exact ⟨_, ⟨by omega, by omega, step _ (hi.trans (decide_eq_false (by omega))) rfl⟩, by omega, by exact SUx, Imp.refl _⟩
theorem space_spec (p : Nat) (x : HW) (hx : HOk x) (o : Nat) (ho : o < 18446744073709551616) : Fun Tryd.prog 73 [ptr0 p, uv o] [HA p x] (fun v Post => v = cv (spaceO x.a o) ∧ Post = [HA p x]) := by
  refine Fun.intro low73 (by simp [n73]) ?_
  have ha := at_spec p x hx o ho
  unfold spaceO
  cases hg : getO x.a.obs o with
  | none =>
    rw [hg] at ha
    refine GOH ?_
    refine st_callS ha (by rfl) .here ?_
    refine GOH ?_
    exact endQ_mk (.inr rfl) (.tmp (by rfl) .nil) ⟨rfl, rfl⟩ (by exact IMx)
  | some b =>
    obtain ⟨hw, hb⟩ := hx.word hg
    have hr := hx.range hb
    rw [hg, hw] at ha
    refine GOH ?_
    refine st_callS ha (by rfl) .here ?_
    refine GOH ?_
    refine st_callS (where_spec p x hx b.at_ (by omega)) (by rfl) .here ?_
    refine GOH ?_
    exact endQ_mk (.inr rfl) (.tmp (by rfl) .nil) ⟨rfl, rfl⟩ (by exact IMx)
theorem young_spec (p : Nat) (x : HW) (hx : HOk x) (o : Nat) (ho : o < 18446744073709551616) : Fun Tryd.prog 38 [ptr0 p, uv o] [HA p x] (fun v Post => v = .bool (youngO x.a o) ∧ Post = [HA p x]) := by
  refine Fun.intro low38 (by simp [n38]) ?_
  have hs : spaceO x.a o ≤ 5 := by unfold spaceO; split <;> first | exact spaceW_le _ _ | omega
  unfold youngO
  refine GOH ?_
  refine st_callS (space_spec p x hx o ho) (by rfl) .here ?_
  (repeat' (first | refine GOPH ?_ | refine st_gcase (by rfl) (fun _ => ?_) (fun _ => ?_) | refine st_pcase (by rfl) (fun _ => ?_) (fun _ => ?_) | refine VC.seq_cond (by rfl) (fun _ => ?_) (fun _ => ?_) | refine VC.cond (by rfl) (fun _ => ?_) (fun _ => ?_)))
  all_goals
    simp only [decide_eq_true_eq, decide_eq_false_iff_not] at *
    refine endQ_mk (.inr rfl) (.tmp (by rfl) .nil) ⟨?_, rfl⟩ (by exact IMx)
    simp only [tup, Value.bool.injEq]
    first
      | (rw [decide_eq_decide]; omega)
      | (symm; rw [decide_eq_false_iff_not]; omega)
theorem begin_spec (p : Nat) (x : HW) (w : Nat) (b : Bool) (hw : w / 64 < x.st.length) (hl : x.st.length < 1073741824) (hs : ∀ y ∈ x.st, y < 18446744073709551616) :
    Fun Tryd.prog 65 [ptr0 p, vi w, .bool b] [HA p x] (fun v Post => v = .tuple #[] ∧ Post = [HA p { x with st := setBit x.st w b }]) := by
  refine Fun.conv (Pre := HMem p x) (R := []) (Q := fun v Post => v = .tuple #[] ∧ Post = HMem p { x with st := setBit x.st w b }) ?_ (ha_spl p x) (fun v Post hv => by obtain ⟨rfl, rfl⟩ := hv; exact ⟨_, ⟨rfl, rfl⟩, ha_back p _⟩)
  refine Fun.intro low65 (by simp [n65]) ?_
  have hst : x.st[w / 64]? = some x.st[w / 64] := List.getElem?_eq_getElem hw
  have hsm := hs _ (List.getElem_mem hw)
  have hp := pow_lt64 (i := w % 64) (by omega)
  have hg : x.st.getD (w / 64) 0 = x.st[w / 64] := by rw [List.getD_eq_getElem?_getD, hst]; rfl
  have hset : ∀ b, setBit x.st w b = x.st.set (w / 64) (if b then andN x.st[w / 64] (2 ^ (w % 64)) ||| 2 ^ (w % 64) else andN x.st[w / 64] (2 ^ (w % 64))) := fun b => by unfold setBit; rw [hg]
  rw [hset]
  generalize x.st[w / 64] = s at hst hsm ⊢
  have hn := andN_lt (b := 2 ^ (w % 64)) hsm
  simp only [HMem, arrV, List.length_set]
  have hmod : 1 * 2 ^ (w % 64) % 18446744073709551616 = 2 ^ (w % 64) := by rw [Nat.one_mul, Nat.mod_eq_of_lt hp]
  have ms := mem_u0 (b := x.sb) hst
  generalize hB : cellsAt x.sb 0 (x.st.map uv) = B at ms ⊢
  refine GOH ?_
  subst hB
  rw [hmod]
  refine st_storeU (i := w / 64) (by rfl) (by rfl) (by exact TKx) (by omega) hw ?_
  have h2 : (x.st.set (w / 64) (andN s (2 ^ (w % 64))))[w / 64]? = some (andN s (2 ^ (w % 64))) := by rw [List.getElem?_set_self hw]
  have ms2 := mem_u0 (b := x.sb) h2
  cases b with
  | false =>
    refine GOH ?_
    exact endQ_mk (.inl rfl) .nil ⟨rfl, rfl⟩ (by simp only [Bool.false_eq_true, if_false]; exact IMx)
  | true =>
    generalize hB : cellsAt x.sb 0 ((x.st.set (w / 64) (andN s (2 ^ (w % 64)))).map uv) = B at ms2 ⊢
    have hl2 : (x.st.set (w / 64) (andN s (2 ^ (w % 64)))).length = x.st.length := List.length_set
    refine GOH ?_
    subst hB
    rw [hmod]
    refine st_storeU (i := w / 64) (by rfl) (by rfl) (by exact TKx) (by omega) (by rw [hl2]; exact hw) ?_
    rw [List.set_set]
    refine GOH ?_
    exact endQ_mk (.inl rfl) .nil ⟨rfl, rfl⟩ (by exact IMx)
theorem setHead_spec (p : Nat) (x : HW) (w : Nat) (h : Hd) (m : h.May) (hw : w + 1 < x.ws.length) (hl : x.ws.length < 4194304) :
    Fun Tryd.prog 64 [ptr0 p, vi w, .agg (hdEnc h).toArray] [HA p x] (fun v Post => v = .tuple #[] ∧ Post = [HA p { x with ws := (x.ws.set w (pk h)).set (w + 1) h.slots }]) := by
  refine Fun.conv (Pre := HMem p x) (R := []) (Q := fun v Post => v = .tuple #[] ∧ Post = HMem p { x with ws := (x.ws.set w (pk h)).set (w + 1) h.slots }) ?_ (ha_spl p x) (fun v Post hv => by obtain ⟨rfl, rfl⟩ := hv; exact ⟨_, ⟨rfl, rfl⟩, ha_back p _⟩)
  refine Fun.intro low64 (by simp [n64]) ?_
  have hp := pack_spec h m
  have hs := m.slots
  simp only [HMem, arrV, List.length_set]
  refine VC.seq_reg ?_
  refine st_box (by rfl) (fun q => ?_)
  simp only [Value.cells, hdEnc] at hp ⊢
  refine GOH ?_
  refine VC.draws ⟨?_, ?_, ?_, ?_, ?_, ?_, trivial⟩
  all_goals
    repeat' first
      | refine GOPH ?_
      | refine st_callP hp (by rfl) ?_
    refine st_storeU (i := w) (by rfl) (by rfl) (by exact TKx) (by omega) (by omega) ?_
    refine GOH ?_
    refine st_storeU (i := w + 1) (by rfl) (by rfl) (by exact TKx) (by omega) (by rw [List.length_set]; omega) ?_
    refine GOH ?_
    exact endQ_mk (.inl rfl) .nil ⟨rfl, rfl⟩ (by exact IMx)
def roomA (a : AH) (sp : Nat) : Nat × Nat × Nat := (a.rm[sp]?).getD (0, 0, 0)
def tookA (a : AH) (sp n : Nat) : AH := { a with rm := a.rm.set sp ((roomA a sp).1, (roomA a sp).2.1, (roomA a sp).2.2 + n) }
theorem take_spec (p : Nat) (x : HW) (hx : HOk x) (sp n : Nat) (h1 : 1 ≤ sp) (h4 : sp ≤ 4) (hn : n ≤ 1073741824) : Fun Tryd.prog 63 [ptr0 p, cv sp, vi n] [HA p x]
    (fun v Post => ∃ y, ((((roomA x.a sp).2.1 : Int) - (roomA x.a sp).2.2 < n ∧ v = vi (-1) ∧ y = x) ∨ (¬ ((roomA x.a sp).2.1 : Int) - (roomA x.a sp).2.2 < n ∧ v = vi (roomA x.a sp).2.2 ∧ y = { x with a := tookA x.a sp n })) ∧ Post = [HA p y]) := by
  refine Fun.haT ?_
  refine Fun.intro low63 (by simp [n63]) ?_
  obtain ⟨r0, r1, r2, r3, r4, r5, hrm⟩ := rm_six hx.rm.len
  have hrng := hx.rm.rng
  have hlen := hx.lay.len
  have k1 := hrng 1 r1 (by rw [hrm]; rfl)
  have k2 := hrng 2 r2 (by rw [hrm]; rfl)
  have k3 := hrng 3 r3 (by rw [hrm]; rfl)
  have k4 := hrng 4 r4 (by rw [hrm]; rfl)
  obtain ⟨r1a, r1b, r1c⟩ := r1
  obtain ⟨r2a, r2b, r2c⟩ := r2
  obtain ⟨r3a, r3b, r3c⟩ := r3
  obtain ⟨r4a, r4b, r4c⟩ := r4
  simp only at k1 k2 k3 k4
  have hs : sp = 1 ∨ sp = 2 ∨ sp = 3 ∨ sp = 4 := by omega
  refine VC.seq_reg ?_
  refine st_box (by rfl) (fun q => ?_)
  refine st_alloc (fun q2 => ?_)
  simp only [HMem, arrV, hrm, List.flatMap_cons, List.flatMap_nil, rmEnc, List.cons_append, List.nil_append, Value.cells]
  rcases hs with rfl | rfl | rfl | rfl
  all_goals
    simp only [roomA, hrm, List.getElem?_cons_succ, List.getElem?_cons_zero, Option.getD_some]
    refine GOH ?_
    (first | (apply VC.seq_cond; rfl) | (apply VC.cond; rfl))
    · intro ht
      have ht := of_decide_eq_true ht
      refine GOH ?_
      refine ⟨.inr rfl, _, _, .cell1 (v := vi (-1)) (by rfl) (by simp [cellsAt]) .nil, ?_, ⟨x, .inl ⟨ht, rfl, rfl⟩, rfl⟩⟩
      simp only [HMem, arrV, hrm, List.flatMap_cons, List.flatMap_nil, rmEnc, List.cons_append, List.nil_append]
      exact IMx
    · intro ht
      have ht := of_decide_eq_false ht
      refine GOH ?_
      refine ⟨.inr rfl, _, _, .cell1 (v := vi _) (by rfl) (List.mem_append_left _ (List.mem_cons_self ..)) .nil, ?_, ⟨{ x with a := tookA x.a _ n }, .inr ⟨ht, rfl, rfl⟩, rfl⟩⟩
      simp only [HMem, arrV, tookA, roomA, hrm, List.getElem?_cons_succ, List.getElem?_cons_zero, Option.getD_some, List.set_cons_succ, List.set_cons_zero, List.flatMap_cons, List.flatMap_nil, rmEnc, List.cons_append, List.nil_append, Int.natCast_add]
      exact IMx
def newO (w : Nat) (h : Hd) : Ob := ⟨w, h, List.replicate h.slots 0⟩
def laidA (a : AH) (sp : Nat) (h : Hd) : AH := { tookA a sp (2 + h.slots) with obs := insO (newO (roomA a sp).2.2 h) a.obs }
theorem lay_spec (p : Nat) (x : HW) (hx : HOk x) (sp : Nat) (h : Hd) (m : h.May) (hm6 : h.fmt ≠ 6) (h1 : 1 ≤ sp) (h4 : sp ≤ 4) : Fun Tryd.prog 29 [ptr0 p, cv sp, .agg (hdEnc h).toArray] [HA p x]
    (fun v Post => ∃ y, ((((roomA x.a sp).2.1 : Int) - (roomA x.a sp).2.2 < 2 + h.slots ∧ v = .tuple #[vi 0, vi 41] ∧ y = x) ∨ (¬ ((roomA x.a sp).2.1 : Int) - (roomA x.a sp).2.2 < 2 + h.slots ∧ v = .tuple #[vi (roomA x.a sp).2.2, vi 0] ∧ HOk y ∧ y.a = laidA x.a sp h)) ∧ Post = [HA p y]) := by
  refine Fun.intro low29 (by simp [n29]) ?_
  have hms := m.slots
  have hlen := hx.lay.len
  have hlen6 := hx.rm.len
  obtain ⟨r, hr⟩ : ∃ r, x.a.rm[sp]? = some r := ⟨_, List.getElem?_eq_getElem (by omega)⟩
  have hroom : roomA x.a sp = r := by unfold roomA; rw [hr]; rfl
  have hrg := hx.rm.rng sp r hr
  have hlow := hx.rm.low sp r h1 hr
  have ht := take_spec p x hx sp (2 + h.slots) h1 h4 (by omega)
  rw [hroom] at ht
  simp only [hroom]
  obtain ⟨f, t, w⟩ := r
  simp only at hrg hlow ht ⊢
  refine VC.seq_reg ?_
  refine st_box (by rfl) (fun q => ?_)
  simp only [Value.cells, hdEnc]
  refine GOH ?_
  rw [show (2 + (h.slots : Int)) = ((2 + h.slots : Nat) : Int) by omega]
  refine st_call ht (by rfl) (by exact SPx) (fun v Post hv => ?_)
  obtain ⟨y, hy, rfl⟩ := hv
  rcases hy with ⟨hlt, rfl, rfl⟩ | ⟨hlt, rfl, rfl⟩
  · refine GOH ?_
    exact endQ_mk (.inr rfl) (.tmp (by rfl) (.tmp (by rfl) .nil)) ⟨y, .inl ⟨by omega, rfl, rfl⟩, rfl⟩ (by exact IMx)
  have hfit : w + 2 + h.slots ≤ t := by omega
  refine GOH ?_
  rw [show decide ((w : Int) < 0) = false from decide_eq_false (by omega)]
  refine GOH ?_
  have hwl : w + 2 + h.slots ≤ x.ws.length := by omega
  simp only [CNx]
  obtain ⟨x1, hx1⟩ : ∃ x1 : HW, x1 = { x with a := tookA x.a sp (2 + h.slots) } := ⟨_, rfl⟩
  rw [← hx1]
  have e1 : x1.ws = x.ws := by rw [hx1]
  refine st_call (setHead_spec p x1 w h m (by rw [e1]; omega) (by rw [e1]; exact hlen)) (by rfl) (by exact SPx) (fun v Post hv => ?_)
  obtain ⟨rfl, rfl⟩ := hv
  simp only [CNx]
  obtain ⟨x2, hx2⟩ : ∃ x2 : HW, x2 = { x1 with ws := (x1.ws.set w (pk h)).set (w + 1) h.slots } := ⟨_, rfl⟩
  rw [← hx2]
  have e2 : x2.ws = (x.ws.set w (pk h)).set (w + 1) h.slots := by rw [hx2, e1]
  have l2 : x2.ws.length = x.ws.length := by rw [e2]; simp
  have g2 : x2.ws[w + 1]? = some h.slots := by rw [e2, List.getElem?_set_self (by simp; omega)]
  refine GOH ?_
  refine st_callS (slotsW_spec p x2 w h.slots g2 (by rw [l2]; omega) (by rw [l2]; exact hlen)) (by rfl) .here ?_
  refine st_clrW (w := w) (by rw [l2]; omega) (by rfl) .here ?_
  obtain ⟨x3, hx3⟩ : ∃ x3 : HW, x3 = { x2 with ws := clrW x2.ws w h.slots } := ⟨_, rfl⟩
  rw [← hx3]
  have e3 : x3.ws = clrW x2.ws w h.slots := by rw [hx3]
  have s3 : x3.st = x.st := by rw [hx3, hx2, hx1]
  have hstl := hx.lay.stl
  refine GOH ?_
  refine st_call (begin_spec p x3 w true (by rw [s3]; omega) (by rw [s3]; omega) (by rw [s3]; exact hx.lay.sts)) (by rfl) (by exact SPx) (fun v Post hv => ?_)
  obtain ⟨rfl, rfl⟩ := hv
  simp only [CNx]
  refine GOH ?_
  have hb : (newO w h).Ok := ⟨m, by simp [newO], fun y hy => by simp [newO] at hy; omega, fun e => absurd e hm6⟩
  have key := hx.newO (sp := sp) h1 hr hb (b := newO w h) (by
      have := hx.free h1 (by omega) hr (e := w + 2 + h.slots) (by omega)
      exact this) (by show f ≤ w; omega) (by show w + 2 + h.slots ≤ t; omega) (rm' := x.a.rm.set sp (f, t, w + 2 + h.slots)) (.inr ⟨by omega, rfl, rfl⟩) (ws' := x3.ws)
      (by rw [e3, clrW_len (by rw [l2]; omega), l2])
      (by
        rw [e3]
        intro y hy
        obtain ⟨i, hi⟩ := List.getElem?_of_mem hy
        rw [clrW_get (by rw [l2]; omega)] at hi
        split at hi
        · cases hi; omega
        · have := List.mem_of_getElem? hi
          rw [e2] at this
          rcases List.mem_or_eq_of_mem_set this with h | rfl
          · rcases List.mem_or_eq_of_mem_set h with h | rfl
            · exact hx.lay.small y h
            · have := m.lt; omega
          · omega)
      (by
        intro i hi
        rw [e3, clrW_get (by rw [l2]; omega), if_neg (by have : (newO w h).stop = w + 2 + h.slots := rfl; have : (newO w h).at_ = w := rfl; omega), e2]
        have : (newO w h).stop = w + 2 + h.slots := rfl
        have : (newO w h).at_ = w := rfl
        rw [List.getElem?_set_ne (by omega), List.getElem?_set_ne (by omega)])
      (by
        have : (newO w h).at_ = w := rfl
        rw [this, e3, clrW_get (by rw [l2]; omega), clrW_get (by rw [l2]; omega), if_neg (by omega), if_neg (by omega), e2]
        rw [List.getElem?_set_self (by simp; omega), List.getElem?_set_ne (by omega), List.getElem?_set_self (by omega)]
        exact ⟨rfl, rfl⟩)
      (by
        intro i hi
        have : (newO w h).at_ = w := rfl
        have hi' : i < h.slots := hi
        rw [this, e3, clrW_get (by rw [l2]; omega), if_pos (by omega)]
        show some 0 = (List.replicate h.slots 0)[i]?
        rw [List.getElem?_replicate, if_pos hi'])
  have ea : tookA x.a sp (2 + h.slots) = { x.a with rm := x.a.rm.set sp (f, t, w + 2 + h.slots) } := by
    unfold tookA; rw [hroom, show w + (2 + h.slots) = w + 2 + h.slots by omega]
  refine endQ_mk (.inr rfl) (.tmp (by rfl) (.tmp (by rfl) .nil)) ⟨_, .inr ⟨by omega, rfl, key, ?_⟩, rfl⟩ ?_
  · unfold laidA
    rw [ea, hroom]
  · have : ({ x with a := { x.a with rm := x.a.rm.set sp (f, t, w + 2 + h.slots), obs := insO (newO w h) x.a.obs }, ws := x3.ws, st := setBit x.st (newO w h).at_ true } : HW) = { x3 with a := { x3.a with obs := insO (newO w h) x.a.obs }, st := setBit x3.st w true } := by
      rw [hx3, hx2, hx1, ea]; rfl
    rw [this]
    show Imp _ [HA p { x3 with st := setBit x3.st w true }]
    exact IMx
end Go.Proofs.YtmlnoodopoaafaaDoor

/-
  The code of functions, as terms: printed by a program, proved to be what the seat has.
-/
import Derived.Test.YtmlnoodopoaafaaDoorV14
import Derived.Test.YtmlnoodopoaafaaDoorH1
import Derived.KernelRfl
import Derived.Test.YtmlnoodopoaafaaDoorProg
set_option linter.unusedSimpArgs false
set_option linter.unusedVariables false
namespace Go.Proofs.YtmlnoodopoaafaaDoor
open Go Go.V
set_option maxRecDepth 100000
def F71 : FIR := laid (X := ⟨20, [.tmp 2],
 (qS [qo 2 (.mv (.const (Value.int IntKind.u8 0)))] [0]
 (qS [qm 4 0,qo 5 (.bin .shr (.tmp 4) (.const (Value.int IntKind.u64 3))),qm 3 5] [0,3]
 (.seq (qS [qm 6 0,qo 7 (.bin .and (.tmp 6) (.const (Value.int IntKind.u64 7)))] [3,7]
 (.block 0 (qS [qo 9 (.bin .eql (.tmp 7) (.const (Value.int IntKind.u64 1))),qm 8 9] [3,7,8]
 (qC 8 (qS [qo 2 (.mv (.const (Value.int IntKind.u8 1)))] [2]
 .ret)
 (qS [qo 11 (.bin .eql (.tmp 7) (.const (Value.int IntKind.u64 2))),qm 10 11] [3,7,10]
 (qC 10 (qS [qm 12 3,qo 13 (.bin .leq (.tmp 12) (.const (Value.int IntKind.u64 2097151)))] [13]
 (qC 13 (qS [qo 2 (.mv (.const (Value.int IntKind.u8 2)))] [2]
 .ret)
 .skip))
 (qS [qo 15 (.bin .eql (.tmp 7) (.const (Value.int IntKind.u64 0))),qm 14 15] [3,14]
 (qC 14 (.seq (qS [qm 16 3,qo 17 (.bin .eql (.tmp 16) (.const (Value.int IntKind.u64 0)))] [3,17]
 (qC 17 (qS [qo 2 (.mv (.const (Value.int IntKind.u8 0)))] [2]
 .ret)
 .skip))
 (qS [qm 18 3,qo 19 (.bin .leq (.tmp 18) (.const (Value.int IntKind.u64 268435455)))] [19]
 (qC 19 (qS [qo 2 (.mv (.const (Value.int IntKind.u8 3)))] [2]
 .ret)
 .skip)))
 .skip))))))))
 (qS [qo 2 (.mv (.const (Value.int IntKind.u8 4)))] [2]
 .ret))))⟩)
theorem n71 : F71.n = 20 := rfl
theorem low71 : lowF Tryd.prog (kpO F71) (assoc []) 71 = some F71 := by kernel_rfl
def F104 : FIR := laid (X := ⟨13, [.tmp 4, .tmp 5],
 (qS [qk 4 0,qz 5 false] [0,1]
 (.seq (qS [qm 6 0,qx 7 71 [6],qm 8 1,qb 9 .neq 7 8] [0,9]
 (qC 9 (qS [qk 4 0,qz 5 false] [4,5]
 .ret)
 .skip))
 (qS [qm 10 0,qo 11 (.bin .shr (.tmp 10) (.const (Value.int IntKind.u64 3))),qo 12 (.conv .i64 (.tmp 11)),qm 4 12,qz 5 true] [4,5]
 .ret)))⟩)
theorem n104 : F104.n = 13 := rfl
theorem low104 : lowF Tryd.prog (kpO F104) (assoc []) 104 = some F104 := by kernel_rfl
def F68 : FIR := laid (X := ⟨8, [.tmp 2, .tmp 3],
 (qS [qk 2 0,qz 3 false] [0]
 (qS [qm 4 0,qo 5 (.call 104 [(.tmp 4), (.const (Value.int IntKind.u8 3))]),qe 6 5 0,qe 7 5 1,qm 2 6,qm 3 7] [2,3]
 .ret))⟩)
theorem n68 : F68.n = 8 := rfl
theorem low68 : lowF Tryd.prog (kpO F68) (assoc []) 68 = some F68 := by kernel_rfl
def F102 : FIR := laid (X := ⟨23, [.tmp 8, .tmp 9],
 (qS [qo 8 (.mv (.const (Value.int IntKind.u64 0))),qz 9 false] [0,1,2,3]
 (.seq (qS [qm 10 0,qm 11 1,qb 12 .lss 10 11,qm 13 12,qu 13 (qm 14 0),qu 13 (qm 15 2),qu 13 (qb 16 .gtr 14 15),qr 17 13 16] [0,3,17]
 (qC 17 (qS [qo 8 (.mv (.const (Value.int IntKind.u64 0))),qz 9 false] [8,9]
 .ret)
 .skip))
 (qS [qm 18 0,qo 19 (.conv .u64 (.tmp 18)),qo 20 (.bin .shl (.tmp 19) (.const (Value.int IntKind.u64 3))),qm 21 3,qb 22 .or 20 21,qm 8 22,
  qz 9 true] [8,9]
 .ret)))⟩)
theorem n102 : F102.n = 23 := rfl
theorem low102 : lowF Tryd.prog (kpO F102) (assoc []) 102 = some F102 := by kernel_rfl
def F66 : FIR := laid (X := ⟨8, [.tmp 2, .tmp 3],
 (qS [qo 2 (.mv (.const (Value.int IntKind.u64 0))),qz 3 false] [0]
 (qS [qm 4 0,
  qo 5 (.call 102 [(.tmp 4), (.const (Value.int IntKind.i64 1)), (.const (Value.int IntKind.i64 268435455)), (.const (Value.int IntKind.u64 0))]),
  qe 6 5 0,qe 7 5 1,qm 2 6,qm 3 7] [2,3]
 .ret))⟩)
theorem n66 : F66.n = 8 := rfl
theorem low66 : lowF Tryd.prog (kpO F66) (assoc []) 66 = some F66 := by kernel_rfl
def F26 : FIR := laid (X := ⟨15, [.tmp 6],
 (qS [qz 6 false] [0,1,2]
 (qS [qm 7 0,qm 8 1,qb 9 .geq 7 8,qm 10 9,qt 10 (qm 11 0),qt 10 (qm 12 2),qt 10 (qb 13 .leq 11 12),qa 14 10 13,qm 6 14] [6]
 .ret))⟩)
theorem n26 : F26.n = 15 := rfl
theorem low26 : lowF Tryd.prog (kpO F26) (assoc []) 26 = some F26 := by kernel_rfl
def F32 : FIR := laid (X := ⟨11, [.tmp 2],
 (qS [qo 2 (.mv (.const (Value.int IntKind.u64 0)))] [0]
 (qS [qm 6 0,qx 7 66 [6],qm 5 7,qe 8 5 0,qe 9 5 1,qm 3 8,qm 4 9] [3]
 (qS [qm 10 3,qm 2 10] [2]
 .ret)))⟩)
theorem n32 : F32.n = 11 := rfl
theorem low32 : lowF Tryd.prog (kpO F32) (assoc []) 32 = some F32 := by kernel_rfl
def F79 : FIR := laid (X := ⟨8, [.tmp 4],
 (qS [qo 4 (.mv (.const (Value.int IntKind.u64 0)))] [0,1]
 (.seq (qS [qm 5 0] [1,5]
 (qC 5 (qS [qm 6 1,qo 7 (.bin .shl (.const (Value.int IntKind.u64 1)) (.tmp 6)),qm 4 7] [4]
 .ret)
 .skip))
 (qS [qo 4 (.mv (.const (Value.int IntKind.u64 0)))] [4]
 .ret)))⟩)
theorem n79 : F79.n = 8 := rfl
theorem low79 : lowF Tryd.prog (kpO F79) (assoc []) 79 = some F79 := by kernel_rfl
def F107 : FIR := laid (X := ⟨12, [.tmp 4],
 (qS [qz 4 false] [0,1]
 (qS [qm 5 0,qc 6 .geq 5 0,qm 7 6,qt 7 (qm 8 0),qt 7 (qm 9 1),qt 7 (qb 10 .leq 8 9),qa 11 7 10,qm 4 11] [4]
 .ret))⟩)
theorem n107 : F107.n = 12 := rfl
theorem low107 : lowF Tryd.prog (kpO F107) (assoc []) 107 = some F107 := by kernel_rfl
def F78 : FIR := laid (X := ⟨69, [.tmp 2],
 (qS [qB 1 62 0,qz 2 false] [1]
 (.seq (qS [qf 4 0 1,ql 5 4,qo 6 (.call 107 [(.tmp 5), (.const (Value.int IntKind.i64 4095))]),qo 7 (.un .not (.tmp 6)),qm 8 7,qu 8 (qf 9 3 1),
  qu 8 (ql 10 9),qu 8 (qo 11 (.call 107 [(.tmp 10), (.const (Value.int IntKind.i64 4194303))])),qu 8 (qo 12 (.un .not (.tmp 11))),qr 13 8 12,qm 14 13,
  qu 14 (qf 15 4 1),qu 14 (ql 16 15),qu 14 (qo 17 (.call 107 [(.tmp 16), (.const (Value.int IntKind.i64 15))])),qu 14 (qo 18 (.un .not (.tmp 17))),
  qr 19 14 18,qm 20 19,qu 20 (qf 21 5 1),qu 20 (ql 22 21),qu 20 (qo 23 (.call 107 [(.tmp 22), (.const (Value.int IntKind.i64 65536))])),
  qu 20 (qo 24 (.un .not (.tmp 23))),qr 25 20 24,qm 26 25,qu 26 (qf 27 2 1),qu 26 (ql 28 27),
  qu 26 (qo 29 (.call 107 [(.tmp 28), (.const (Value.int IntKind.i64 7))])),qu 26 (qo 30 (.un .not (.tmp 29))),qr 31 26 30] [1,31]
 (qC 31 (qS [qz 2 false] [2]
 .ret)
 .skip))
 (qS [qk 3 0] [1,3]
 (.seq (qS [qf 32 1 1,ql 33 32] [1,3,33]
 (.block 0 (.seq (.block 4 (.seq (.block 3 (.seq (.block 2 (.seq (.block 1 (.seq (.seq (.seq (qS [qo 35 (.bin .eql (.tmp 33) (.const (Value.int IntKind.u8 1))),qm 34 35] [1,3,33,34]
 (qC 34 .skip
 (qS [qo 36 (.bin .eql (.tmp 33) (.const (Value.int IntKind.u8 2))),qm 34 36] [1,3,33,34]
 (qC 34 .skip
 (.reg [qo 37 (.bin .eql (.tmp 33) (.const (Value.int IntKind.u8 4))),qm 34 37] [1,3,33,34])))))
 (qC 34 (.exit 1)
 .skip))
 (.seq (qS [qo 39 (.bin .eql (.tmp 33) (.const (Value.int IntKind.u8 3))),qm 38 39] [1,3,33,38]
 (qC 38 (.exit 2)
 .skip))
 (.seq (qS [qo 41 (.bin .eql (.tmp 33) (.const (Value.int IntKind.u8 6))),qm 40 41] [1,3,33,40]
 (qC 40 (.exit 3)
 .skip))
 (qS [qo 43 (.bin .eql (.tmp 33) (.const (Value.int IntKind.u8 5))),qm 42 43] [1,3,42]
 (qC 42 (.exit 4)
 .skip)))))
 (.exit 0)))
 (.seq (qS [qf 44 2 1,ql 45 44,qc 46 .eql 45 0,qm 2 46] [2]
 .ret)
 (.exit 0))))
 (.seq (qS [qf 47 2 1,ql 48 47,qc 49 .eql 48 0,qm 50 49,qt 50 (qf 51 5 1),qt 50 (ql 52 51),qt 50 (qc 53 .gtr 52 0),qa 54 50 53,qm 2 54] [2]
 .ret)
 (.exit 0))))
 (.seq (qS [qf 55 5 1,ql 56 55,qc 57 .eql 56 0] [1,3,57]
 (qC 57 (qS [qz 2 false] [2]
 .ret)
 .skip))
 (.reg [qm 58 3,qc 59 .add 58 1,qm 3 59] [1,3]))))
 (.seq (qS [qf 60 2 1,ql 61 60,qc 62 .eql 61 0,qm 63 62,qu 63 (qf 64 5 1),qu 63 (ql 65 64),qu 63 (qm 66 3),qu 63 (qb 67 .gtr 65 66),qr 68 63 67,
  qm 2 68] [2]
 .ret)
 (.exit 0)))))
 (qS [qz 2 false] [2]
 .ret)))))⟩)
theorem n78 : F78.n = 69 := rfl
theorem low78 : lowF Tryd.prog (kpO F78) (assoc []) 78 = some F78 := by kernel_rfl
def F45 : FIR := laid (X := ⟨44, [.tmp 2, .tmp 3, .tmp 4],
 (qS [qB 1 62 0,qo 2 (.mv (.const (Value.int IntKind.u64 0))),qo 3 (.mv (.const (Value.int IntKind.u64 0))),qk 4 0] [1]
 (.seq (qS [qN 6 8 1,qx 7 78 [6],qo 8 (.un .not (.tmp 7))] [1,8]
 (qC 8 (qS [qo 2 (.mv (.const (Value.int IntKind.u64 0))),qo 3 (.mv (.const (Value.int IntKind.u64 0))),qk 4 10] [2,3,4]
 .ret)
 .skip))
 (qS [qf 9 0 1,ql 10 9,qo 11 (.conv .u64 (.tmp 10)),qf 12 1 1,ql 13 12,qo 14 (.conv .u64 (.tmp 13)),
  qo 15 (.bin .shl (.tmp 14) (.const (Value.int IntKind.u64 12))),qb 16 .or 11 15,qf 17 2 1,ql 18 17,qo 19 (.conv .u64 (.tmp 18)),
  qo 20 (.bin .shl (.tmp 19) (.const (Value.int IntKind.u64 15))),qb 21 .or 16 20,qf 22 3 1,ql 23 22,qo 24 (.conv .u64 (.tmp 23)),
  qo 25 (.bin .shl (.tmp 24) (.const (Value.int IntKind.u64 18))),qb 26 .or 21 25,qf 27 4 1,ql 28 27,qo 29 (.conv .u64 (.tmp 28)),
  qo 30 (.bin .shl (.tmp 29) (.const (Value.int IntKind.u64 40))),qb 31 .or 26 30,qm 5 31] [1,5]
 (.seq (qD [qm 32 5,qf 33 6 1,ql 34 33,qo 35 (.call 79 [(.tmp 34), (.const (Value.int IntKind.i64 44))]),qb 36 .or 32 35,qf 37 7 1,ql 38 37,
  qo 39 (.call 79 [(.tmp 38), (.const (Value.int IntKind.i64 45))]),qb 40 .or 36 39,qf 41 5 1,ql 42 41,qo 43 (.conv .u64 (.tmp 42)),qm 2 40,qm 3 43,
  qk 4 0] [[0,1,2,3,4,5,6,7,8,9,10,11,12,13,14], [0,1,2,5,6,3,4,7,8,9,10,11,12,13,14], [0,1,2,3,4,5,6,9,10,7,8,11,12,13,14], [0,1,2,5,6,3,4,9,10,7,8,11,12,13,14], [0,1,2,5,6,9,10,3,4,7,8,11,12,13,14], [0,1,2,3,4,5,9,10,6,7,8,11,12,13,14], [0,1,2,5,9,10,3,4,6,7,8,11,12,13,14], [0,1,2,5,9,10,6,3,4,7,8,11,12,13,14]] [2,3,4])
 .ret))))⟩)
theorem n45 : F45.n = 44 := rfl
theorem low45 : lowF Tryd.prog (kpO F45) (assoc [(4,[[0,1,2,3,4,5,6,7,8,9,10,11,12,13,14], [0,1,2,5,6,3,4,7,8,9,10,11,12,13,14], [0,1,2,3,4,5,6,9,10,7,8,11,12,13,14], [0,1,2,5,6,3,4,9,10,7,8,11,12,13,14], [0,1,2,5,6,9,10,3,4,7,8,11,12,13,14], [0,1,2,3,4,5,9,10,6,7,8,11,12,13,14], [0,1,2,5,9,10,3,4,6,7,8,11,12,13,14], [0,1,2,5,9,10,6,3,4,7,8,11,12,13,14]])]) 45 = some F45 := by kernel_rfl
def F105 : FIR := laid (X := ⟨15, [.tmp 6],
 (qS [qk 6 0] [0,1,2]
 (.seq (qD [qm 7 0,qm 8 1,qb 9 .shr 7 8,qm 10 2,qo 11 (.bin .shl (.const (Value.int IntKind.u64 1)) (.tmp 10)),
  qo 12 (.bin .sub (.tmp 11) (.const (Value.int IntKind.u64 1))),qb 13 .and 9 12,qo 14 (.conv .i64 (.tmp 13)),qm 6 14] [[0,1,2,3,4,5,6,7,8]] [6])
 .ret))⟩)
theorem n105 : F105.n = 15 := rfl
theorem low105 : lowF Tryd.prog (kpO F105) (assoc [(1,[[0,1,2,3,4,5,6,7,8]])]) 105 = some F105 := by kernel_rfl
def F70 : FIR := laid (X := ⟨40, [.cellN 4 8, .tmp 5],
 (qS [qo 4 (.alloc 62 [(Value.int IntKind.i64 0), (Value.int IntKind.u8 0), (Value.int IntKind.i64 0), (Value.int IntKind.i64 0), (Value.int IntKind.i64 0), (Value.int IntKind.i64 0), (Value.bool false), (Value.bool false)]),
  qk 5 0] [0,1,4]
 (.seq (qS [qm 7 0,qo 8 (.bin .shr (.tmp 7) (.const (Value.int IntKind.u64 46))),qo 9 (.bin .neq (.tmp 8) (.const (Value.int IntKind.u64 0))),
  qm 10 9,qu 10 (qm 11 1),qu 10 (qo 12 (.bin .gtr (.tmp 11) (.const (Value.int IntKind.u64 65536)))),qr 13 10 12] [0,1,4,13]
 (qC 13 (qS [qo 14 (.build [(Value.int IntKind.i64 0), (Value.int IntKind.u8 0), (Value.int IntKind.i64 0), (Value.int IntKind.i64 0), (Value.int IntKind.i64 0), (Value.int IntKind.i64 0), (Value.bool false), (Value.bool false)] []),
  qs 8 4 14,qk 5 10] [4,5]
 .ret)
 .skip))
 (qS [qm 15 0,qo 16 (.call 105 [(.tmp 15), (.const (Value.int IntKind.i64 0)), (.const (Value.int IntKind.i64 12))]),qm 17 0,
  qo 18 (.call 105 [(.tmp 17), (.const (Value.int IntKind.i64 12)), (.const (Value.int IntKind.i64 3))]),qo 19 (.conv .u8 (.tmp 18)),qm 20 0,
  qo 21 (.call 105 [(.tmp 20), (.const (Value.int IntKind.i64 15)), (.const (Value.int IntKind.i64 3))]),qm 22 0,
  qo 23 (.call 105 [(.tmp 22), (.const (Value.int IntKind.i64 18)), (.const (Value.int IntKind.i64 22))]),qm 24 0,
  qo 25 (.call 105 [(.tmp 24), (.const (Value.int IntKind.i64 40)), (.const (Value.int IntKind.i64 4))]),qm 26 0,
  qo 27 (.call 105 [(.tmp 26), (.const (Value.int IntKind.i64 44)), (.const (Value.int IntKind.i64 1))]),qc 28 .eql 27 1,qm 29 0,
  qo 30 (.call 105 [(.tmp 29), (.const (Value.int IntKind.i64 45)), (.const (Value.int IntKind.i64 1))]),qc 31 .eql 30 1,qm 32 1,
  qo 33 (.conv .i64 (.tmp 32)),
  qo 34 (.build [(Value.int IntKind.i64 0), (Value.int IntKind.u8 0), (Value.int IntKind.i64 0), (Value.int IntKind.i64 0), (Value.int IntKind.i64 0), (Value.int IntKind.i64 0), (Value.bool false), (Value.bool false)] [(0, 1, (.tmp 16)), (1, 1, (.tmp 19)), (2, 1, (.tmp 21)), (3, 1, (.tmp 23)), (4, 1, (.tmp 25)), (6, 1, (.tmp 28)), (7, 1, (.tmp 31)), (5, 1, (.tmp 33))]),
  qo 6 (.alloc 62 [(Value.int IntKind.i64 0), (Value.int IntKind.u8 0), (Value.int IntKind.i64 0), (Value.int IntKind.i64 0), (Value.int IntKind.i64 0), (Value.int IntKind.i64 0), (Value.bool false), (Value.bool false)]),
  qs 8 6 34] [4,6]
 (.seq (qS [qN 35 8 6,qx 36 78 [35],qo 37 (.un .not (.tmp 36))] [4,6,37]
 (qC 37 (qS [qo 38 (.build [(Value.int IntKind.i64 0), (Value.int IntKind.u8 0), (Value.int IntKind.i64 0), (Value.int IntKind.i64 0), (Value.int IntKind.i64 0), (Value.int IntKind.i64 0), (Value.bool false), (Value.bool false)] []),
  qs 8 4 38,qk 5 10] [4,5]
 .ret)
 .skip))
 (qS [qN 39 8 6,qs 8 4 39,qk 5 0] [4,5]
 .ret)))))⟩)
theorem n70 : F70.n = 40 := rfl
theorem low70 : lowF Tryd.prog (kpO F70) (assoc []) 70 = some F70 := by kernel_rfl
def F103 : FIR := laid (X := ⟨10, [.tmp 2, .tmp 3],
 (qS [qk 2 0,qz 3 false] [0]
 (.seq (qS [qm 4 0,qo 5 (.bin .and (.tmp 4) (.const (Value.int IntKind.u64 7))),qo 6 (.bin .neq (.tmp 5) (.const (Value.int IntKind.u64 1)))] [0,6]
 (qC 6 (qS [qk 2 0,qz 3 false] [2,3]
 .ret)
 .skip))
 (qS [qm 7 0,qo 8 (.conv .i64 (.tmp 7)),qo 9 (.bin .shr (.tmp 8) (.const (Value.int IntKind.u64 3))),qm 2 9,qz 3 true] [2,3]
 .ret)))⟩)
theorem n103 : F103.n = 10 := rfl
theorem low103 : lowF Tryd.prog (kpO F103) (assoc []) 103 = some F103 := by kernel_rfl
def F28 : FIR := laid (X := ⟨13, [.tmp 2],
 (qS [qz 2 false] [0]
 (qS [qm 3 0,qo 4 (.bin .eql (.tmp 3) (.const (Value.int IntKind.u8 1))),qm 5 4,qu 5 (qm 6 0),
  qu 5 (qo 7 (.bin .geq (.tmp 6) (.const (Value.int IntKind.u8 3)))),qu 5 (qm 8 7),qt 8 (qm 9 0),
  qt 8 (qo 10 (.bin .leq (.tmp 9) (.const (Value.int IntKind.u8 5)))),qu 5 (qa 11 8 10),qr 12 5 11,qm 2 12] [2]
 .ret))⟩)
theorem n28 : F28.n = 13 := rfl
theorem low28 : lowF Tryd.prog (kpO F28) (assoc []) 28 = some F28 := by kernel_rfl
def F27 : FIR := laid (X := ⟨46, [.cellN 6 8, .tmp 7],
 (qS [qB 3 62 0,
  qo 6 (.alloc 62 [(Value.int IntKind.i64 0), (Value.int IntKind.u8 0), (Value.int IntKind.i64 0), (Value.int IntKind.i64 0), (Value.int IntKind.i64 0), (Value.int IntKind.i64 0), (Value.bool false), (Value.bool false)]),
  qz 7 false] [1,2,3,6]
 (.seq (qS [qm 9 1,qc 10 .lss 9 0,qm 11 10,qu 11 (qm 12 1),qu 11 (qc 13 .gtr 12 65536),qr 14 11 13,qm 15 14,qu 15 (qm 16 2),
  qu 15 (qc 17 .lss 16 0),qr 18 15 17,qm 19 18,qu 19 (qm 20 2),qu 19 (qc 21 .gtr 20 524288),qr 22 19 21] [1,2,3,6,22]
 (qC 22 (qS [qN 23 8 3,qs 8 6 23,qz 7 false] [6,7]
 .ret)
 .skip))
 (qS [qm 24 2,qc 25 .add 24 8,qc 26 .sub 25 1,qc 27 .quo 26 8,qm 8 27] [1,2,3,6,8]
 (qS [qm 28 1,qm 29 8,qb 30 .add 28 29,qm 31 8,qc 32 .mul 31 8,qm 33 2,qb 34 .sub 32 33,qf 35 5 3,qs 1 35 30,qf 36 2 3,qs 1 36 34] [3,6]
 (.seq (qD [qN 37 8 3,qf 38 5 3,ql 39 38,qc 40 .leq 39 65536,qm 41 40,qt 41 (qf 42 0 3),qt 41 (ql 43 42),
  qt 41 (qo 44 (.call 26 [(.tmp 43), (.const (Value.int IntKind.i64 0)), (.const (Value.int IntKind.i64 4095))])),qa 45 41 44,qs 8 6 37,qm 7 45] [[0,1,2,3,4,5,6,7,8,9,10], [1,2,3,4,5,6,7,0,8,9,10]] [6,7])
 .ret)))))⟩)
theorem n27 : F27.n = 46 := rfl
theorem low27 : lowF Tryd.prog (kpO F27) (assoc [(5,[[0,1,2,3,4,5,6,7,8,9,10], [1,2,3,4,5,6,7,0,8,9,10]])]) 27 = some F27 := by kernel_rfl
def F50 : FIR := laid (X := ⟨18, [.tmp 4, .tmp 5],
 (qS [qo 4 (.mv (.const (Value.int IntKind.u64 0))),qk 5 0] [0,1]
 (.seq (qS [qm 6 1,qc 7 .lss 6 0,qm 8 7,qu 8 (qm 9 1),qu 8 (qm 10 0),qu 8 (qL 11 10),qu 8 (qb 12 .geq 9 11),qr 13 8 12] [0,1,13]
 (qC 13 (qS [qo 4 (.mv (.const (Value.int IntKind.u64 0))),qk 5 45] [4,5]
 .ret)
 .skip))
 (qS [qm 14 0,qm 15 1,qi 16 1 14 15,ql 17 16,qm 4 17,qk 5 0] [4,5]
 .ret)))⟩)
theorem n50 : F50.n = 18 := rfl
theorem low50 : lowF Tryd.prog (kpO F50) (assoc []) 50 = some F50 := by kernel_rfl
def F69 : FIR := laid (X := ⟨27, [.tmp 4],
 (qS [qz 4 false] [0,1]
 (qS [qm 5 1,qm 6 0,qn 7 6,qf 8 0 7,ql 9 8,qL 10 9,qb 11 .lss 5 10,qm 12 11,qt 12 (qm 13 0),qt 12 (qn 14 13),qt 12 (qf 15 1 14),
  qt 12 (ql 16 15),qt 12 (qm 17 1),qt 12 (qc 18 .quo 17 64),qt 12 (qi 19 1 16 18),qt 12 (ql 20 19),qt 12 (qm 21 1),qt 12 (qc 22 .rem 21 64),
  qt 12 (qb 23 .shr 20 22),qt 12 (qo 24 (.bin .and (.tmp 23) (.const (Value.int IntKind.u64 1)))),
  qt 12 (qo 25 (.bin .eql (.tmp 24) (.const (Value.int IntKind.u64 1)))),qa 26 12 25,qm 4 26] [4]
 .ret))⟩)
theorem n69 : F69.n = 27 := rfl
theorem low69 : lowF Tryd.prog (kpO F69) (assoc []) 69 = some F69 := by kernel_rfl
def F65 : FIR := laid (X := ⟨33, [],
 (.seq (qD [qm 6 0,qn 7 6,qf 8 1 7,ql 9 8,qm 10 1,qc 11 .quo 10 64,qi 12 1 9 11,ql 13 12,qm 14 1,qc 15 .rem 14 64,
  qo 16 (.bin .shl (.const (Value.int IntKind.u64 1)) (.tmp 15)),qb 17 .andNot 13 16,qi 18 1 9 11,qs 1 18 17] [[0,1,2,3,4,5,6,7,8,9,10,11,12,13]] [0,1,2])
 (qS [qm 19 2] [0,1,19]
 (qC 19 (qD [qm 20 0,qn 21 20,qf 22 1 21,ql 23 22,qm 24 1,qc 25 .quo 24 64,qi 26 1 23 25,ql 27 26,qm 28 1,qc 29 .rem 28 64,
  qo 30 (.bin .shl (.const (Value.int IntKind.u64 1)) (.tmp 29)),qb 31 .or 27 30,qi 32 1 23 25,qs 1 32 31] [[0,1,2,3,4,5,6,7,8,9,10,11,12,13]] [])
 .skip)))⟩)
theorem n65 : F65.n = 33 := rfl
theorem low65 : lowF Tryd.prog (kpO F65) (assoc [(0,[[0,1,2,3,4,5,6,7,8,9,10,11,12,13]]), (2,[[0,1,2,3,4,5,6,7,8,9,10,11,12,13]])]) 65 = some F65 := by kernel_rfl
def F34 : FIR := laid (X := ⟨20, [.tmp 4, .tmp 5],
 (qS [qk 4 0,qz 5 false] [0,1]
 (qS [qm 9 1,qx 10 68 [9],qm 8 10,qe 11 8 0,qe 12 8 1,qm 6 11,qm 7 12] [0,6,7]
 (qS [qm 13 6,qm 14 7,qm 15 14,qt 15 (qm 16 0),qt 15 (qm 17 6),qt 15 (qx 18 69 [16,17]),qa 19 15 18,qm 4 13,qm 5 19] [4,5]
 .ret)))⟩)
theorem n34 : F34.n = 20 := rfl
theorem low34 : lowF Tryd.prog (kpO F34) (assoc []) 34 = some F34 := by kernel_rfl
def F72 : FIR := laid (X := ⟨14, [.tmp 4],
 (qS [qz 4 false] [0,1]
 (qS [qm 8 0,qm 9 1,qx 10 34 [8,9],qm 7 10,qe 11 7 0,qe 12 7 1,qm 5 11,qm 6 12] [6]
 (qS [qm 13 6,qm 4 13] [4]
 .ret)))⟩)
theorem n72 : F72.n = 14 := rfl
theorem low72 : lowF Tryd.prog (kpO F72) (assoc []) 72 = some F72 := by kernel_rfl
def F35 : FIR := laid (X := ⟨27, [.cellN 4 8],
 (qS [qo 4 (.alloc 62 [(Value.int IntKind.i64 0), (Value.int IntKind.u8 0), (Value.int IntKind.i64 0), (Value.int IntKind.i64 0), (Value.int IntKind.i64 0), (Value.int IntKind.i64 0), (Value.bool false), (Value.bool false)])] [0,1,4]
 (.seq (qD [qm 8 0,qn 9 8,qf 10 0 9,ql 11 10,qm 12 1,qi 13 1 11 12,ql 14 13,qm 15 0,qn 16 15,qf 17 0 16,ql 18 17,qm 19 1,qc 20 .add 19 1,
  qi 21 1 18 20,ql 22 21,qx 23 70 [14,22],qm 7 23,qe 24 7 0,qe 25 7 1,
  qo 5 (.alloc 62 [(Value.int IntKind.i64 0), (Value.int IntKind.u8 0), (Value.int IntKind.i64 0), (Value.int IntKind.i64 0), (Value.int IntKind.i64 0), (Value.int IntKind.i64 0), (Value.bool false), (Value.bool false)]),
  qs 8 5 24,qm 6 25] [[0,1,2,3,4,5,6,7,8,9,10,11,12,13,14,15,16,17,18,19,20,21], [0,1,2,3,4,5,6,7,8,9,10,11,12,13,14,19,15,16,17,18,20,21]] [4,5])
 (qS [qN 26 8 5,qs 8 4 26] [4]
 .ret)))⟩)
theorem n35 : F35.n = 27 := rfl
theorem low35 : lowF Tryd.prog (kpO F35) (assoc [(1,[[0,1,2,3,4,5,6,7,8,9,10,11,12,13,14,15,16,17,18,19,20,21], [0,1,2,3,4,5,6,7,8,9,10,11,12,13,14,19,15,16,17,18,20,21]])]) 35 = some F35 := by kernel_rfl
def F64 : FIR := laid (X := ⟨25, [],
 (qS [qB 5 62 2] [0,1,5]
 (qD [qm 7 0,qn 8 7,qf 9 0 8,ql 10 9,qm 11 1,qm 12 0,qn 13 12,qf 14 0 13,ql 15 14,qm 16 1,qc 17 .add 16 1,qN 18 8 5,qx 19 45 [18],qm 6 19,
  qe 20 6 0,qe 21 6 1,qe 22 6 2,qi 23 1 10 11,qs 1 23 20,qi 24 1 15 17,qs 1 24 21] [[0,1,2,3,4,5,6,7,8,9,10,11,12,13,14,15,16,17,18,19,20], [0,1,2,4,5,6,7,8,3,9,10,11,12,13,14,15,16,17,18,19,20], [0,1,2,4,5,6,7,8,9,10,11,12,3,13,14,15,16,17,18,19,20], [0,1,2,3,4,5,6,7,9,10,11,12,8,13,14,15,16,17,18,19,20], [0,1,2,4,5,6,7,9,10,11,12,3,8,13,14,15,16,17,18,19,20], [0,1,2,4,5,6,7,9,10,11,12,8,3,13,14,15,16,17,18,19,20]] []))⟩)
theorem n64 : F64.n = 25 := rfl
theorem low64 : lowF Tryd.prog (kpO F64) (assoc [(1,[[0,1,2,3,4,5,6,7,8,9,10,11,12,13,14,15,16,17,18,19,20], [0,1,2,4,5,6,7,8,3,9,10,11,12,13,14,15,16,17,18,19,20], [0,1,2,4,5,6,7,8,9,10,11,12,3,13,14,15,16,17,18,19,20], [0,1,2,3,4,5,6,7,9,10,11,12,8,13,14,15,16,17,18,19,20], [0,1,2,4,5,6,7,9,10,11,12,3,8,13,14,15,16,17,18,19,20], [0,1,2,4,5,6,7,9,10,11,12,8,3,13,14,15,16,17,18,19,20]])]) 64 = some F64 := by kernel_rfl
def F31 : FIR := laid (X := ⟨27, [.tmp 4],
 (qS [qo 4 (.mv (.const (Value.slice none 0 0)))] [0,1]
 (qS [qm 6 1,qc 7 .add 6 2,qm 8 0,qn 9 8,qf 10 0 9,ql 11 10,qm 12 1,qc 13 .add 12 1,qi 14 1 11 13,ql 15 14,qo 16 (.conv .i64 (.tmp 15)),
  qb 17 .add 7 16,qm 5 17] [0,1,5]
 (qS [qm 18 0,qn 19 18,qf 20 0 19,ql 21 20,qm 22 1,qc 23 .add 22 2,qm 24 5,qm 25 5,
  qo 26 (.slcL 1 (.tmp 21) (some (.tmp 23)) (some (.tmp 24)) (some (.tmp 25))),qm 4 26] [4]
 .ret)))⟩)
theorem n31 : F31.n = 27 := rfl
theorem low31 : lowF Tryd.prog (kpO F31) (assoc []) 31 = some F31 := by kernel_rfl
def F37 : FIR := laid (X := ⟨31, [.tmp 4],
 (qS [qo 4 (.mv (.const (Value.int IntKind.u8 0)))] [0,1]
 (.seq (qS [qo 5 (.mv (.const (Value.int IntKind.u8 1)))] [0,1,5]
 (.block 0 (.loop (.seq (qS [qm 6 5,qo 7 (.bin .leq (.tmp 6) (.const (Value.int IntKind.u8 5)))] [0,1,5,7]
 (qC 7 .skip
 (.exit 0)))
 (.seq (.block 1 (qS [qm 10 1,qm 11 0,qm 12 5,qn 13 11,qf 14 2 13,qo 15 (.idxA 6 3 (.tmp 14) (.tmp 12)),qf 16 0 15,ql 17 16,qb 18 .geq 10 17,qm 19 18,
  qt 19 (qm 20 1),qt 19 (qm 21 0),qt 19 (qm 22 5),qt 19 (qn 23 21),qt 19 (qf 24 2 23),qt 19 (qo 25 (.idxA 6 3 (.tmp 24) (.tmp 22))),qt 19 (qf 26 1 25),
  qt 19 (ql 27 26),qt 19 (qb 28 .lss 20 27),qa 29 19 28] [0,1,5,29]
 (qC 29 (qS [qm 30 5,qm 4 30] [4]
 .ret)
 .skip)))
 (.reg [qm 8 5,qo 9 (.bin .add (.tmp 8) (.const (Value.int IntKind.u8 1))),qm 5 9] [0,1,5]))))))
 (qS [qo 4 (.mv (.const (Value.int IntKind.u8 0)))] [4]
 .ret)))⟩)
theorem n37 : F37.n = 31 := rfl
theorem low37 : lowF Tryd.prog (kpO F37) (assoc []) 37 = some F37 := by kernel_rfl
def F73 : FIR := laid (X := ⟨18, [.tmp 4],
 (qS [qo 4 (.mv (.const (Value.int IntKind.u8 0)))] [0,1]
 (qS [qm 8 0,qm 9 1,qx 10 34 [8,9],qm 7 10,qe 11 7 0,qe 12 7 1,qm 5 11,qm 6 12] [0,5,6]
 (.seq (qS [qm 13 6,qo 14 (.un .not (.tmp 13))] [0,5,14]
 (qC 14 (qS [qo 4 (.mv (.const (Value.int IntKind.u8 0)))] [4]
 .ret)
 .skip))
 (qS [qm 15 0,qm 16 5,qx 17 37 [15,16],qm 4 17] [4]
 .ret))))⟩)
theorem n73 : F73.n = 18 := rfl
theorem low73 : lowF Tryd.prog (kpO F73) (assoc []) 73 = some F73 := by kernel_rfl
def F38 : FIR := laid (X := ⟨15, [.tmp 4],
 (qS [qz 4 false] [0,1]
 (qS [qm 6 0,qm 7 1,qx 8 73 [6,7],qm 5 8] [5]
 (qS [qm 9 5,qo 10 (.bin .geq (.tmp 9) (.const (Value.int IntKind.u8 1))),qm 11 10,qt 11 (qm 12 5),
  qt 11 (qo 13 (.bin .leq (.tmp 12) (.const (Value.int IntKind.u8 3)))),qa 14 11 13,qm 4 14] [4]
 .ret)))⟩)
theorem n38 : F38.n = 15 := rfl
theorem low38 : lowF Tryd.prog (kpO F38) (assoc []) 38 = some F38 := by kernel_rfl
def F39 : FIR := laid (X := ⟨26, [],
 (qS [qm 5 0,qm 6 1,qx 7 35 [5,6],
  qo 4 (.alloc 62 [(Value.int IntKind.i64 0), (Value.int IntKind.u8 0), (Value.int IntKind.i64 0), (Value.int IntKind.i64 0), (Value.int IntKind.i64 0), (Value.int IntKind.i64 0), (Value.bool false), (Value.bool false)]),
  qs 8 4 7] [0,1,4]
 (.seq (qS [qf 8 7 4,ql 9 8] [0,1,4,9]
 (qC 9 .ret
 .skip))
 (qS [qf 10 7 4,⟨none,none,.store 1 (.tmp 10) (.const (Value.bool true))⟩] [0,1,4]
 (qS [qm 11 0,qm 12 1,qN 13 8 4,qx 14 64 [11,12,13]] [0,1]
 (qD [qm 15 0,qm 16 0,qn 17 16,qf 18 4182 17,ql 19 18,qm 20 1,qx 21 32 [20],
  qo 22 (.bslice 33 1 [(Value.int IntKind.u64 0)] [(0, 1, (.tmp 21))]),qo 23 (.append 33 1 8 [(Value.int IntKind.u64 0)] (.tmp 19) (.tmp 22)),qn 24 15,
  qf 25 4182 24,qs 1 25 23] [[0,1,2,3,4,5,6,7,8,9,10,11], [0,1,2,3,5,6,4,7,8,9,10,11]] [])))))⟩)
theorem n39 : F39.n = 26 := rfl
theorem low39 : lowF Tryd.prog (kpO F39) (assoc [(4,[[0,1,2,3,4,5,6,7,8,9,10,11], [0,1,2,3,5,6,4,7,8,9,10,11]])]) 39 = some F39 := by kernel_rfl
def F98 : FIR := laid (X := ⟨37, [.tmp 6],
 (qS [qk 6 0] [0,1,2]
 (.seq (.block 0 (.loop (.seq (qS [qm 8 1,qm 9 2,qb 10 .lss 8 9] [0,1,2,10]
 (qC 10 .skip
 (.exit 0)))
 (.block 1 (.seq (qS [qm 11 0,qn 12 11,qf 13 1 12,ql 14 13,qm 15 1,qc 16 .quo 15 64,qi 17 1 14 16,ql 18 17,qm 19 1,qc 20 .rem 19 64,qb 21 .shr 18 20,
  qm 7 21] [0,1,2,7]
 (qS [qm 22 7,qo 23 (.bin .neq (.tmp 22) (.const (Value.int IntKind.u64 0)))] [0,1,2,7,23]
 (qC 23 (qS [qm 24 1,qm 25 7,qx 26 112 [25],qb 27 .add 24 26,qm 1 27] [1,2]
 (.seq (qS [qm 28 1,qm 29 2,qb 30 .geq 28 29] [1,30]
 (qC 30 (qS [qk 6 (-1)] [6]
 .ret)
 .skip))
 (qS [qm 31 1,qm 6 31] [6]
 .ret)))
 .skip)))
 (.reg [qm 32 1,qm 33 1,qc 34 .rem 33 64,qo 35 (.bin .sub (.const (Value.int IntKind.i64 64)) (.tmp 34)),qb 36 .add 32 35,qm 1 36] [0,1,2]))))))
 (qS [qk 6 (-1)] [6]
 .ret)))⟩)
theorem n98 : F98.n = 37 := rfl
theorem low98 : lowF Tryd.prog (kpO F98) (assoc []) 98 = some F98 := by kernel_rfl
def F97 : FIR := laid (X := ⟨37, [],
 (.seq (qS [ql 6 1,qo 7 (.bin .lss (.tmp 6) (.const (Value.int IntKind.u8 1))),qm 8 7,qu 8 (ql 9 1),
  qu 8 (qo 10 (.bin .gtr (.tmp 9) (.const (Value.int IntKind.u8 5)))),qr 11 8 10] [0,1,2,11]
 (qC 11 .ret
 .skip))
 (.seq (qD [ql 12 2,ql 13 1,qn 14 12,qf 15 2 14,qo 16 (.idxA 6 3 (.tmp 15) (.tmp 13)),qN 17 3 16,
  qo 4 (.alloc 71 [(Value.int IntKind.i64 0), (Value.int IntKind.i64 0), (Value.int IntKind.i64 0)]),qs 3 4 17] [[0,1,2,3,4,5,6,7]] [0,2,4])
 (qS [ql 18 2,qf 19 0 4,ql 20 19,qf 21 1 4,ql 22 21,qx 23 98 [18,20,22],qm 5 23] [0,2,4,5]
 (.block 0 (.loop (.seq (qS [qm 24 5,qc 25 .geq 24 0] [0,2,4,5,25]
 (qC 25 .skip
 (.exit 0)))
 (.seq (.block 1 (qS [qm 32 0,qm 33 5,qx 34 32 [33],qo 35 (.callv (.tmp 32) [(.tmp 34)]),qo 36 (.un .not (.tmp 35))] [0,2,4,5,36]
 (qC 36 .ret
 .skip)))
 (.reg [ql 26 2,qm 27 5,qc 28 .add 27 1,qf 29 1 4,ql 30 29,qx 31 98 [26,28,30],qm 5 31] [0,2,4,5]))))))))⟩)
theorem n97 : F97.n = 37 := rfl
theorem low97 : lowF Tryd.prog (kpO F97) (assoc [(1,[[0,1,2,3,4,5,6,7]])]) 97 = some F97 := by kernel_rfl
def F61 : FIR := laid (X := ⟨6, [.tmp 4],
 (qS [qB 2 25 0,qB 3 36 1,qo 4 (.mv (.const Value.nilFunc))] [2,3]
 (qS [qo 5 (.clos (.func 97) [] [(.tmp 3), (.tmp 2)]),qm 4 5] [4]
 .ret))⟩)
theorem n61 : F61.n = 6 := rfl
theorem low61 : lowF Tryd.prog (kpO F61) (assoc []) 61 = some F61 := by kernel_rfl
def F101 : FIR := laid (X := ⟨60, [],
 (qS [qB 2 25 0,qB 3 161 1] [2,3]
 (qS [ql 9 2,qn 10 9,qf 11 2 10,qo 12 (.idxA 6 3 (.tmp 11) (.const (Value.int IntKind.u8 5))),qN 13 3 12,
  qo 4 (.alloc 71 [(Value.int IntKind.i64 0), (Value.int IntKind.i64 0), (Value.int IntKind.i64 0)]),qs 3 4 13] [2,3,4]
 (qS [qf 14 0 4,ql 15 14,qo 5 (.alloc 3 [(Value.int IntKind.i64 0)]),qs 1 5 15] [2,3,4,5]
 (.seq (qS [ql 16 2,qo 17 (.call 61 [(.tmp 16), (.const (Value.int IntKind.u8 5))])] [2,3,4,5,17]
 (.block 0 (.rangef (.tmp 17) [18] (.reg [qm 6 18] [2,3,5,6])
 (.block 1 (qS [ql 20 2,qm 21 6,qx 22 34 [20,21],qm 19 22,qe 23 19 0,qe 24 19 1,qm 7 23,qm 8 24] [2,3,5,7]
 (.seq (qS [qm 25 7,ql 26 5,qb 27 .gtr 25 26,qm 28 27,qt 28 (ql 29 3),qt 28 (ql 30 5),qt 28 (qm 31 7),qt 28 (ql 32 5),qt 28 (qb 33 .sub 31 32),
  qt 28 (qo 34 (.callv (.tmp 29) [(.tmp 30), (.tmp 33)])),qt 28 (qo 35 (.un .not (.tmp 34))),qa 36 28 35] [2,5,7,36]
 (qC 36 .ret
 .skip))
 (.reg [qm 37 7,qc 38 .add 37 2,ql 39 2,qn 40 39,qf 41 0 40,ql 42 41,qm 43 7,qc 44 .add 43 1,qi 45 1 42 44,ql 46 45,
  qo 47 (.conv .i64 (.tmp 46)),qb 48 .add 38 47,qs 1 5 48] [])))))))
 (qS [ql 49 5,qf 50 1 4,ql 51 50,qb 52 .lss 49 51] [3,4,5,52]
 (qC 52 (.reg [ql 53 3,ql 54 5,qf 55 1 4,ql 56 55,ql 57 5,qb 58 .sub 56 57,qo 59 (.callv (.tmp 53) [(.tmp 54), (.tmp 58)])] [])
 .skip))))))⟩)
theorem n101 : F101.n = 60 := rfl
theorem low101 : lowF Tryd.prog (kpO F101) (assoc []) 101 = some F101 := by kernel_rfl
def F63 : FIR := laid (X := ⟨52, [.cell1 6],
 (qS [qB 5 3 2,qo 6 (.alloc 3 [(Value.int IntKind.i64 0)])] [0,1,5,6]
 (.seq (qS [qm 10 1,qo 11 (.bin .neq (.tmp 10) (.const (Value.int IntKind.u8 5)))] [0,1,5,6,11]
 (qC 11 (qS [qm 12 0,qm 13 1,qn 14 12,qf 15 2 14,qo 16 (.idxA 6 3 (.tmp 15) (.tmp 13)),qf 17 2 16,ql 18 17,qm 7 18] [0,1,5,6,7]
 (.seq (.seq (qD [qm 19 0,qm 20 1,qn 21 19,qf 22 2 21,qo 23 (.idxA 6 3 (.tmp 22) (.tmp 20)),qf 24 1 23,ql 25 24,qm 26 7,qb 27 .sub 25 26,ql 28 5,
  qb 29 .lss 27 28] [[0,1,2,3,4,5,6,7,8,9,10]] [0,1,5,6,7,29])
 (qC 29 (qS [⟨none,none,.store 1 (.tmp 6) (.const (Value.int IntKind.i64 (-1)))⟩] [6]
 .ret)
 .skip))
 (.seq (qD [qm 30 0,qm 31 1,qn 32 30,qf 33 2 32,qo 34 (.idxA 6 3 (.tmp 33) (.tmp 31)),qf 35 2 34,ql 36 35,ql 37 5,qb 38 .add 36 37,qn 39 30,
  qf 40 2 39,qo 41 (.idxA 6 3 (.tmp 40) (.tmp 31)),qf 42 2 41,qs 1 42 38] [[0,1,2,3,4,5,6,7,8,9,10,11,12,13]] [6,7])
 (qS [qm 43 7,qs 1 6 43] [6]
 .ret))))
 .skip))
 (.seq (qS [qm 44 0,qo 45 (.clos (.func 101) [(.tmp 44)] [])] [5,6,45]
 (.block 0 (.rangef (.tmp 45) [46,47] (qS [qm 8 46] [5,6,8,47]
 (.reg [qm 9 47] [5,6,8,9]))
 (.block 1 (qS [qm 48 9,ql 49 5,qb 50 .geq 48 49] [6,8,50]
 (qC 50 (qS [qm 51 8,qs 1 6 51] [6]
 .ret)
 .skip))))))
 (qS [⟨none,none,.store 1 (.tmp 6) (.const (Value.int IntKind.i64 (-1)))⟩] [6]
 .ret))))⟩)
theorem n63 : F63.n = 52 := rfl
theorem low63 : lowF Tryd.prog (kpO F63) (assoc [(3,[[0,1,2,3,4,5,6,7,8,9,10]]), (5,[[0,1,2,3,4,5,6,7,8,9,10,11,12,13]])]) 63 = some F63 := by kernel_rfl
def F29 : FIR := laid (X := ⟨28, [.tmp 6, .tmp 7],
 (qS [qB 5 62 2,qk 6 0,qk 7 0] [0,1,5]
 (qS [qm 9 0,qm 10 1,qf 11 5 5,ql 12 11,qo 13 (.bin .add (.const (Value.int IntKind.i64 2)) (.tmp 12)),qx 14 63 [9,10,13],qm 8 14] [0,5,8]
 (.seq (qS [qm 15 8,qc 16 .lss 15 0] [0,5,8,16]
 (qC 16 (qS [qk 6 0,qk 7 41] [6,7]
 .ret)
 .skip))
 (qS [qm 17 0,qm 18 8,qN 19 8 5,qx 20 64 [17,18,19]] [0,8]
 (qS [qm 21 0,qm 22 8,qx 23 31 [21,22],⟨none,none,.clr [(Value.int IntKind.u64 0)] (.tmp 23)⟩] [0,8]
 (qS [qm 24 0,qm 25 8,qo 26 (.call 65 [(.tmp 24), (.tmp 25), (.const (Value.bool true))])] [8]
 (qS [qm 27 8,qm 6 27,qk 7 0] [6,7]
 .ret)))))))⟩)
theorem n29 : F29.n = 28 := rfl
theorem low29 : lowF Tryd.prog (kpO F29) (assoc []) 29 = some F29 := by kernel_rfl
def F30 : FIR := laid (X := ⟨40, [],
 (qS [qm 8 0,qn 9 8,qf 10 20 9,qo 11 (.idxA 64 1 (.tmp 10) (.const (Value.int IntKind.i64 0))),ql 12 11,qm 6 12] [0,1,2,6]
 (.seq (qS [qm 13 2,qL 14 13,qk 15 0] [0,1,2,6,14,15]
 (.block 0 (.loop (qS [qb 16 .lss 15 14] [0,1,2,6,14,15,16]
 (.seq (qC 16 .skip
 (.exit 0))
 (.seq (.block 1 (qS [qm 17 15,qm 7 17] [0,1,2,6,7,14,15]
 (.reg [qm 18 2,qm 19 7,qm 20 6,qi 21 1 18 19,qs 1 21 20] [0,1,2,6,14,15])))
 (.reg [qc 22 .add 15 1,qm 15 22] [0,1,2,6,14,15])))))))
 (qS [qm 23 2,qL 24 23,qc 25 .gtr 24 0,qm 26 25,qt 26 (qm 27 0),qt 26 (qm 28 1),qt 26 (qx 29 37 [27,28]),
  qt 26 (qo 30 (.bin .geq (.tmp 29) (.const (Value.int IntKind.u8 4)))),qa 31 26 30,qm 32 31,qt 32 (qm 33 0),qt 32 (qm 34 6),qt 32 (qx 35 38 [33,34]),
  qa 36 32 35] [0,1,36]
 (qC 36 (.reg [qm 37 0,qm 38 1,qx 39 39 [37,38]] [])
 .skip))))⟩)
theorem n30 : F30.n = 40 := rfl
theorem low30 : lowF Tryd.prog (kpO F30) (assoc []) 30 = some F30 := by kernel_rfl
def F8 : FIR := laid (X := ⟨74, [.tmp 10, .tmp 11],
 (qS [qo 10 (.mv (.const (Value.int IntKind.u64 0))),qk 11 0] [0,1,2,3,4]
 (qS [qm 19 4,qm 12 19,qk 13 0,qk 14 0] [0,1,2,3,4,12,13,14]
 (.seq (qS [qm 20 3] [0,1,2,3,4,12,13,14,20]
 (.block 0 (.seq (.block 4 (.seq (.block 3 (.seq (.block 2 (.seq (.block 1 (.seq (.seq (qS [qo 22 (.bin .eql (.tmp 20) (.const (Value.int IntKind.u8 5))),qm 21 22] [0,1,2,3,4,12,13,14,20,21]
 (qC 21 (.exit 1)
 .skip))
 (.seq (qS [qo 24 (.bin .eql (.tmp 20) (.const (Value.int IntKind.u8 3))),qm 23 24] [0,1,2,3,12,13,14,20,23]
 (qC 23 (.exit 2)
 .skip))
 (.seq (qS [qo 26 (.bin .eql (.tmp 20) (.const (Value.int IntKind.u8 1))),qm 25 26] [0,1,2,3,12,13,14,20,25]
 (qC 25 .skip
 (qS [qo 27 (.bin .eql (.tmp 20) (.const (Value.int IntKind.u8 2))),qm 25 27] [0,1,2,3,12,13,14,20,25]
 (qC 25 .skip
 (.reg [qo 28 (.bin .eql (.tmp 20) (.const (Value.int IntKind.u8 4))),qm 25 28] [0,1,2,3,12,13,14,25])))))
 (qC 25 (.exit 3)
 .skip))))
 (.exit 4)))
 (qS [qm 29 4,qk 12 0,qm 13 29] [0,1,2,3,12,13,14]
 (.exit 0))))
 (.reg [qm 30 14,qc 31 .add 30 1,qm 14 31] [0,1,2,3,12,13,14])))
 (.exit 0)))
 (.seq (qS [qo 10 (.mv (.const (Value.int IntKind.u64 0))),qk 11 1] [10,11]
 .ret)
 (.exit 0)))))
 (qS [qm 33 2,qm 34 3,
  qo 35 (.build [(Value.int IntKind.i64 0), (Value.int IntKind.u8 0), (Value.int IntKind.i64 0), (Value.int IntKind.i64 0), (Value.int IntKind.i64 0), (Value.int IntKind.i64 0), (Value.bool false), (Value.bool false)] [(0, 1, (.tmp 33)), (1, 1, (.tmp 34))]),
  qm 36 12,qm 37 13,qx 38 27 [35,36,37],qm 32 38,qe 39 32 0,qe 40 32 1,
  qo 15 (.alloc 62 [(Value.int IntKind.i64 0), (Value.int IntKind.u8 0), (Value.int IntKind.i64 0), (Value.int IntKind.i64 0), (Value.int IntKind.i64 0), (Value.int IntKind.i64 0), (Value.bool false), (Value.bool false)]),
  qs 8 15 39,qm 16 40] [0,1,3,14,15,16]
 (.seq (qS [qm 41 16,qo 42 (.un .not (.tmp 41)),qm 43 42,qu 43 (qm 44 1),qu 43 (qx 45 28 [44]),qu 43 (qo 46 (.un .not (.tmp 45))),qr 47 43 46,
  qm 48 47,qu 48 (qf 49 5 15),qu 48 (ql 50 49),qu 48 (qm 51 14),qu 48 (qb 52 .lss 50 51),qr 53 48 52] [0,1,3,15,53]
 (qC 53 (qS [qo 10 (.mv (.const (Value.int IntKind.u64 0))),qk 11 1] [10,11]
 .ret)
 .skip))
 (qS [qm 55 0,qm 56 1,qN 57 8 15,qx 58 29 [55,56,57],qm 54 58,qe 59 54 0,qe 60 54 1,qm 17 59,qm 18 60] [0,3,17,18]
 (.seq (qS [qm 61 18,qc 62 .neq 61 0] [0,3,17,18,62]
 (qC 62 (qS [qm 63 18,qo 10 (.mv (.const (Value.int IntKind.u64 0))),qm 11 63] [10,11]
 .ret)
 .skip))
 (.seq (qS [qm 64 3,qo 65 (.bin .leq (.tmp 64) (.const (Value.int IntKind.u8 3)))] [0,17,65]
 (qC 65 (.reg [qm 66 0,qm 67 17,qm 68 0,qm 69 17,qx 70 31 [68,69],qx 71 30 [66,67,70]] [17])
 .skip))
 (qS [qm 72 17,qx 73 32 [72],qm 10 73,qk 11 0] [10,11]
 .ret)))))))))⟩)
theorem n8 : F8.n = 74 := rfl
theorem low8 : lowF Tryd.prog (kpO F8) (assoc []) 8 = some F8 := by kernel_rfl
def F67 : FIR := laid (X := ⟨40, [.tmp 4, .tmp 5],
 (qS [qo 4 (.mv (.const (Value.slice none 0 0))),qo 5 (.mv (.const (Value.slice none 0 0)))] [0,1]
 (qS [qm 10 0,qm 11 1,qx 12 31 [10,11],qm 6 12] [0,1,6]
 (qS [qk 7 0] [0,1,6,7]
 (.seq (qS [qm 13 0,qm 14 1,qx 15 35 [13,14],qo 16 (.fldV 1 1 false (.tmp 15))] [6,7,16]
 (.block 0 (qS [qo 20 (.bin .eql (.tmp 16) (.const (Value.int IntKind.u8 6))),qm 19 20] [6,7,16,19]
 (qC 19 (qS [qm 22 6,qo 23 (.idxL 1 (.tmp 22) (.const (Value.int IntKind.i64 0))),ql 24 23,qx 25 103 [24],qm 21 25,qe 26 21 0,qe 27 21 1,qm 8 26,
  qm 9 27] [6,8]
 (.reg [qm 28 8,qc 29 .add 28 1,qm 7 29] [6,7]))
 (.seq (qS [qo 31 (.bin .eql (.tmp 16) (.const (Value.int IntKind.u8 4))),qm 30 31] [6,7,16,30]
 (qC 30 .skip
 (.reg [qo 32 (.bin .eql (.tmp 16) (.const (Value.int IntKind.u8 5))),qm 30 32] [6,7,30])))
 (qC 30 .skip
 (.reg [qm 17 6,qL 18 17,qm 7 18] [6,7])))))))
 (.seq (qD [qm 33 6,qm 34 7,qm 35 7,qo 36 (.slcL 1 (.tmp 33) none (some (.tmp 34)) (some (.tmp 35))),qm 37 6,qm 38 7,
  qo 39 (.slcL 1 (.tmp 37) (some (.tmp 38)) none none),qm 4 36,qm 5 39] [[0,1,2,3,4,5,6,7,8]] [4,5])
 .ret)))))⟩)
theorem n67 : F67.n = 40 := rfl
theorem low67 : lowF Tryd.prog (assoc [(0, [0,1]), (1, [0,1,6]), (2, [0,1,6,7]), (3, [6,7,16]), (4, [6,7]), (5, [6,7,16,19]), (6, [6,8]), (7, [6,7]), (8, [6,7,16,30]), (9, [6,7,30]), (10, [4,5])]) (assoc [(10,[[0,1,2,3,4,5,6,7,8]])]) 67 = some F67 := by kernel_rfl
def F80 : FIR := laid (X := ⟨26, [.tmp 4, .tmp 5],
 (qS [qk 4 0,qk 5 0] [0,1]
 (qS [qm 11 0,qm 12 1,qx 13 34 [11,12],qm 10 13,qe 14 10 0,qe 15 10 1,qm 6 14,qm 7 15] [0,6,7]
 (.seq (qS [qm 16 7,qo 17 (.un .not (.tmp 16))] [0,6,17]
 (qC 17 (qS [qk 4 0,qk 5 42] [4,5]
 .ret)
 .skip))
 (qS [qm 19 0,qm 20 6,qx 21 67 [19,20],qm 18 21,qe 22 18 0,qe 23 18 1,qm 8 22,qm 9 23] [8]
 (qS [qm 24 8,qL 25 24,qm 4 25,qk 5 0] [4,5]
 .ret)))))⟩)
theorem n80 : F80.n = 26 := rfl
theorem low80 : lowF Tryd.prog (kpO F80) (assoc []) 80 = some F80 := by kernel_rfl
def F33 : FIR := laid (X := ⟨37, [.tmp 6, .tmp 7],
 (qS [qo 6 (.mv (.const (Value.pointer none))),qk 7 0] [0,1,2]
 (qS [qm 13 0,qm 14 1,qx 15 34 [13,14],qm 12 15,qe 16 12 0,qe 17 12 1,qm 8 16,qm 9 17] [0,2,8,9]
 (.seq (qS [qm 18 9,qo 19 (.un .not (.tmp 18))] [0,2,8,19]
 (qC 19 (qS [qo 6 (.mv (.const (Value.pointer none))),qk 7 42] [6,7]
 .ret)
 .skip))
 (qS [qm 21 0,qm 22 8,qx 23 67 [21,22],qm 20 23,qe 24 20 0,qe 25 20 1,qm 10 24,qm 11 25] [2,10]
 (.seq (qS [qm 26 2,qc 27 .lss 26 0,qm 28 27,qu 28 (qm 29 2),qu 28 (qm 30 10),qu 28 (qL 31 30),qu 28 (qb 32 .geq 29 31),qr 33 28 32] [2,10,33]
 (qC 33 (qS [qo 6 (.mv (.const (Value.pointer none))),qk 7 43] [6,7]
 .ret)
 .skip))
 (qS [qm 34 10,qm 35 2,qi 36 1 34 35,qm 6 36,qk 7 0] [6,7]
 .ret))))))⟩)
theorem n33 : F33.n = 37 := rfl
theorem low33 : lowF Tryd.prog (kpO F33) (assoc []) 33 = some F33 := by kernel_rfl
def F16 : FIR := laid (X := ⟨23, [.tmp 6, .tmp 7],
 (qS [qo 6 (.mv (.const (Value.int IntKind.u64 0))),qk 7 0] [0,1,2]
 (qS [qm 11 0,qm 12 1,qm 13 2,qx 14 33 [11,12,13],qm 10 14,qe 15 10 0,qe 16 10 1,qm 8 15,qm 9 16] [8,9]
 (.seq (qS [qm 17 9,qc 18 .neq 17 0] [8,9,18]
 (qC 18 (qS [qm 19 9,qo 6 (.mv (.const (Value.int IntKind.u64 0))),qm 7 19] [6,7]
 .ret)
 .skip))
 (qS [qm 20 8,qn 21 20,ql 22 21,qm 6 22,qk 7 0] [6,7]
 .ret))))⟩)
theorem n16 : F16.n = 23 := rfl
theorem low16 : lowF Tryd.prog (kpO F16) (assoc []) 16 = some F16 := by kernel_rfl
def F36 : FIR := laid (X := ⟨14, [.tmp 4],
 (qS [qz 4 false] [0,1]
 (.seq (qS [qm 5 1,qx 6 71 [5]] [0,1,6]
 (.block 0 (.seq (qS [qo 8 (.bin .eql (.tmp 6) (.const (Value.int IntKind.u8 0))),qm 7 8] [0,1,6,7]
 (qC 7 .skip
 (qS [qo 9 (.bin .eql (.tmp 6) (.const (Value.int IntKind.u8 1))),qm 7 9] [0,1,6,7]
 (qC 7 .skip
 (.reg [qo 10 (.bin .eql (.tmp 6) (.const (Value.int IntKind.u8 2))),qm 7 10] [0,1,7])))))
 (qC 7 (qS [qz 4 true] [4]
 .ret)
 .skip))))
 (qS [qm 11 0,qm 12 1,qx 13 72 [11,12],qm 4 13] [4]
 .ret)))⟩)
theorem n36 : F36.n = 14 := rfl
theorem low36 : lowF Tryd.prog (kpO F36) (assoc []) 36 = some F36 := by kernel_rfl
def F9 : FIR := laid (X := ⟨59, [.tmp 8],
 (qS [qk 8 0] [0,1,2,3]
 (qS [qm 14 0,qm 15 1,qm 16 2,qx 17 33 [14,15,16],qm 13 17,qe 18 13 0,qe 19 13 1,qm 9 18,qm 10 19] [0,1,2,3,9,10]
 (.seq (qS [qm 20 10,qc 21 .neq 20 0] [0,1,2,3,9,10,21]
 (qC 21 (qS [qm 22 10,qm 8 22] [8]
 .ret)
 .skip))
 (qS [qm 24 0,qm 25 1,qx 26 34 [24,25],qm 23 26,qe 27 23 0,qe 28 23 1,qm 11 27,qm 12 28] [0,2,3,9,11]
 (.seq (.block 0 (qS [qm 30 2,qc 31 .eql 30 0,qm 32 31,qt 32 (qm 33 0),qt 32 (qm 34 11),qt 32 (qx 35 35 [33,34]),
  qt 32 (qo 36 (.fldV 1 1 false (.tmp 35))),qt 32 (qo 37 (.bin .eql (.tmp 36) (.const (Value.int IntKind.u8 6)))),qa 38 32 37,qm 29 38] [0,3,9,11,29]
 (qC 29 (qS [qk 8 44] [8]
 .ret)
 (qS [qm 40 0,qm 41 3,qx 42 36 [40,41],qo 43 (.un .not (.tmp 42)),qm 39 43] [0,3,9,11,39]
 (qC 39 (qS [qk 8 1] [8]
 .ret)
 .skip)))))
 (qS [qm 44 9,qm 45 3,qn 46 44,qs 1 46 45] [0,3,11]
 (.seq (qS [qm 47 0,qm 48 11,qx 49 37 [47,48],qo 50 (.bin .geq (.tmp 49) (.const (Value.int IntKind.u8 4))),qm 51 50,qt 51 (qm 52 0),
  qt 51 (qm 53 3),qt 51 (qx 54 38 [52,53]),qa 55 51 54] [0,11,55]
 (qC 55 (.reg [qm 56 0,qm 57 11,qx 58 39 [56,57]] [])
 .skip))
 (qS [qk 8 0] [8]
 .ret))))))))⟩)
theorem n9 : F9.n = 59 := rfl
theorem low9 : lowF Tryd.prog (kpO F9) (assoc []) 9 = some F9 := by kernel_rfl
def F10 : FIR := laid (X := ⟨34, [.tmp 4, .tmp 5],
 (qS [qk 4 0,qk 5 0] [0,1]
 (.seq (.block 0 (qS [qm 7 0,qn 8 7,qf 9 4180 8,ql 10 9,qL 11 10,qc 12 .geq 11 4096,qm 6 12] [0,1,6]
 (qC 6 (qS [qk 4 0,qk 5 45] [4,5]
 .ret)
 (qS [qm 14 0,qm 15 1,qx 16 36 [14,15],qo 17 (.un .not (.tmp 16)),qm 13 17] [0,1,13]
 (qC 13 (qS [qk 4 0,qk 5 1] [4,5]
 .ret)
 .skip)))))
 (qS [qm 18 0,qm 19 0,qn 20 19,qf 21 4180 20,ql 22 21,qm 23 1,qo 24 (.bslice 33 1 [(Value.int IntKind.u64 0)] [(0, 1, (.tmp 23))]),
  qo 25 (.append 33 1 8 [(Value.int IntKind.u64 0)] (.tmp 22) (.tmp 24)),qn 26 18,qf 27 4180 26,qs 1 27 25] [0]
 (qS [qm 28 0,qn 29 28,qf 30 4180 29,ql 31 30,qL 32 31,qc 33 .sub 32 1,qm 4 33,qk 5 0] [4,5]
 .ret))))⟩)
theorem n10 : F10.n = 34 := rfl
theorem low10 : lowF Tryd.prog (kpO F10) (assoc []) 10 = some F10 := by kernel_rfl
def F41 : FIR := laid (X := ⟨8, [.tmp 2],
 (qS [qk 2 0] [0]
 (qS [qm 3 0,qn 4 3,qf 5 4180 4,ql 6 5,qL 7 6,qm 2 7] [2]
 .ret))⟩)
theorem n41 : F41.n = 8 := rfl
theorem low41 : lowF Tryd.prog (kpO F41) (assoc []) 41 = some F41 := by kernel_rfl
def F42 : FIR := laid (X := ⟨8, [.tmp 2],
 (qS [qk 2 0] [0]
 (qS [qm 3 0,qn 4 3,qf 5 4181 4,ql 6 5,qL 7 6,qm 2 7] [2]
 .ret))⟩)
theorem n42 : F42.n = 8 := rfl
theorem low42 : lowF Tryd.prog (kpO F42) (assoc []) 42 = some F42 := by kernel_rfl
def F23 : FIR := laid (X := ⟨20, [.cellN 4 8, .tmp 5],
 (qS [qo 4 (.alloc 62 [(Value.int IntKind.i64 0), (Value.int IntKind.u8 0), (Value.int IntKind.i64 0), (Value.int IntKind.i64 0), (Value.int IntKind.i64 0), (Value.int IntKind.i64 0), (Value.bool false), (Value.bool false)]),
  qk 5 0] [0,1,4]
 (qS [qm 9 0,qm 10 1,qx 11 34 [9,10],qm 8 11,qe 12 8 0,qe 13 8 1,qm 6 12,qm 7 13] [0,4,6,7]
 (.seq (qS [qm 14 7,qo 15 (.un .not (.tmp 14))] [0,4,6,15]
 (qC 15 (qS [qo 16 (.build [(Value.int IntKind.i64 0), (Value.int IntKind.u8 0), (Value.int IntKind.i64 0), (Value.int IntKind.i64 0), (Value.int IntKind.i64 0), (Value.int IntKind.i64 0), (Value.bool false), (Value.bool false)] []),
  qs 8 4 16,qk 5 42] [4,5]
 .ret)
 .skip))
 (qS [qm 17 0,qm 18 6,qx 19 35 [17,18],qs 8 4 19,qk 5 0] [4,5]
 .ret))))⟩)
theorem n23 : F23.n = 20 := rfl
theorem low23 : lowF Tryd.prog (kpO F23) (assoc []) 23 = some F23 := by kernel_rfl
def F83 : FIR := laid (X := ⟨28, [.tmp 4, .tmp 5],
 (qS [qk 4 0,qo 5 (.mv (.const (Value.slice none 0 0)))] [0,1]
 (qS [qm 9 0,qm 10 1,qx 11 35 [9,10],
  qo 6 (.alloc 62 [(Value.int IntKind.i64 0), (Value.int IntKind.u8 0), (Value.int IntKind.i64 0), (Value.int IntKind.i64 0), (Value.int IntKind.i64 0), (Value.int IntKind.i64 0), (Value.bool false), (Value.bool false)]),
  qs 8 6 11] [0,1,6]
 (.seq (qS [qf 12 1 6,ql 13 12,qo 14 (.bin .lss (.tmp 13) (.const (Value.int IntKind.u8 5)))] [0,1,6,14]
 (qC 14 (qS [qk 4 0,qo 5 (.mv (.const (Value.slice none 0 0)))] [4,5]
 .ret)
 .skip))
 (qS [qm 16 0,qm 17 1,qx 18 67 [16,17],qm 15 18,qe 19 15 0,qe 20 15 1,qm 7 19,qm 8 20] [6,8]
 (qS [qm 21 8,qL 22 21,qc 23 .mul 22 8,qf 24 2 6,ql 25 24,qb 26 .sub 23 25,qm 27 8,qm 4 26,qm 5 27] [4,5]
 .ret)))))⟩)
theorem n83 : F83.n = 28 := rfl
theorem low83 : lowF Tryd.prog (kpO F83) (assoc []) 83 = some F83 := by kernel_rfl
def F82 : FIR := laid (X := ⟨25, [.tmp 4, .tmp 5],
 (qS [qk 4 0,qk 5 0] [0,1]
 (qS [qm 11 0,qm 12 1,qx 13 34 [11,12],qm 10 13,qe 14 10 0,qe 15 10 1,qm 6 14,qm 7 15] [0,6,7]
 (.seq (qS [qm 16 7,qo 17 (.un .not (.tmp 16))] [0,6,17]
 (qC 17 (qS [qk 4 0,qk 5 42] [4,5]
 .ret)
 .skip))
 (qS [qm 19 0,qm 20 6,qx 21 83 [19,20],qm 18 21,qe 22 18 0,qe 23 18 1,qm 8 22,qm 9 23] [8]
 (qS [qm 24 8,qm 4 24,qk 5 0] [4,5]
 .ret)))))⟩)
theorem n82 : F82.n = 25 := rfl
theorem low82 : lowF Tryd.prog (kpO F82) (assoc []) 82 = some F82 := by kernel_rfl
def F49 : FIR := laid (X := ⟨41, [.tmp 6, .tmp 7, .tmp 8],
 (qS [qo 6 (.mv (.const (Value.pointer none))),qk 7 0,qk 8 0] [0,1,2]
 (qS [qm 14 0,qm 15 1,qx 16 34 [14,15],qm 13 16,qe 17 13 0,qe 18 13 1,qm 9 17,qm 10 18] [0,2,9,10]
 (.seq (qS [qm 19 10,qo 20 (.un .not (.tmp 19))] [0,2,9,20]
 (qC 20 (qS [qo 6 (.mv (.const (Value.pointer none))),qk 7 0,qk 8 42] [6,7,8]
 .ret)
 .skip))
 (qS [qm 22 0,qm 23 9,qx 24 83 [22,23],qm 21 24,qe 25 21 0,qe 26 21 1,qm 11 25,qm 12 26] [2,11,12]
 (.seq (qS [qm 27 2,qc 28 .lss 27 0,qm 29 28,qu 29 (qm 30 2),qu 29 (qm 31 11),qu 29 (qb 32 .geq 30 31),qr 33 29 32] [2,12,33]
 (qC 33 (qS [qo 6 (.mv (.const (Value.pointer none))),qk 7 0,qk 8 43] [6,7,8]
 .ret)
 .skip))
 (qS [qm 34 12,qm 35 2,qc 36 .quo 35 8,qi 37 1 34 36,qm 38 2,qc 39 .rem 38 8,qc 40 .mul 39 8,qm 6 37,qm 7 40,qk 8 0] [6,7,8]
 .ret))))))⟩)
theorem n49 : F49.n = 41 := rfl
theorem low49 : lowF Tryd.prog (kpO F49) (assoc []) 49 = some F49 := by kernel_rfl
def F17 : FIR := laid (X := ⟨28, [.tmp 6, .tmp 7],
 (qS [qo 6 (.mv (.const (Value.int IntKind.u8 0))),qk 7 0] [0,1,2]
 (qS [qm 12 0,qm 13 1,qm 14 2,qx 15 49 [12,13,14],qm 11 15,qe 16 11 0,qe 17 11 1,qe 18 11 2,qm 8 16,qm 9 17,qm 10 18] [8,9,10]
 (.seq (qS [qm 19 10,qc 20 .neq 19 0] [8,9,10,20]
 (qC 20 (qS [qm 21 10,qo 6 (.mv (.const (Value.int IntKind.u8 0))),qm 7 21] [6,7]
 .ret)
 .skip))
 (qS [qm 22 8,qn 23 22,ql 24 23,qm 25 9,qb 26 .shr 24 25,qo 27 (.conv .u8 (.tmp 26)),qm 6 27,qk 7 0] [6,7]
 .ret))))⟩)
theorem n17 : F17.n = 28 := rfl
theorem low17 : lowF Tryd.prog (kpO F17) (assoc []) 17 = some F17 := by kernel_rfl
def F108 : FIR := laid (X := ⟨40, [.tmp 6, .tmp 7],
 (qS [qo 6 (.mv (.const (Value.pointer none))),qk 7 0] [0,1,2]
 (qS [qm 12 0,qm 13 1,qx 14 34 [12,13],qm 11 14,qe 15 11 0,qe 16 11 1,qm 8 15,qm 9 16] [0,2,8,9]
 (.seq (qS [qm 17 9,qo 18 (.un .not (.tmp 17))] [0,2,8,18]
 (qC 18 (qS [qo 6 (.mv (.const (Value.pointer none))),qk 7 42] [6,7]
 .ret)
 .skip))
 (qS [qm 19 0,qm 20 8,qx 21 31 [19,20],qm 10 21] [0,2,8,10]
 (.seq (.block 0 (qS [qm 23 0,qm 24 8,qx 25 35 [23,24],qo 26 (.fldV 1 1 false (.tmp 25)),qo 27 (.bin .neq (.tmp 26) (.const (Value.int IntKind.u8 4))),
  qm 22 27] [2,10,22]
 (qC 22 (qS [qo 6 (.mv (.const (Value.pointer none))),qk 7 44] [6,7]
 .ret)
 (qS [qm 29 2,qc 30 .lss 29 0,qm 31 30,qu 31 (qm 32 2),qu 31 (qm 33 10),qu 31 (qL 34 33),qu 31 (qb 35 .geq 32 34),qr 36 31 35,qm 28 36] [2,10,28]
 (qC 28 (qS [qo 6 (.mv (.const (Value.pointer none))),qk 7 43] [6,7]
 .ret)
 .skip)))))
 (qS [qm 37 10,qm 38 2,qi 39 1 37 38,qm 6 39,qk 7 0] [6,7]
 .ret))))))⟩)
theorem n108 : F108.n = 40 := rfl
theorem low108 : lowF Tryd.prog (kpO F108) (assoc []) 108 = some F108 := by kernel_rfl
def F81 : FIR := laid (X := ⟨23, [.tmp 6, .tmp 7],
 (qS [qo 6 (.mv (.const (Value.int IntKind.u64 0))),qk 7 0] [0,1,2]
 (qS [qm 11 0,qm 12 1,qm 13 2,qx 14 108 [11,12,13],qm 10 14,qe 15 10 0,qe 16 10 1,qm 8 15,qm 9 16] [8,9]
 (.seq (qS [qm 17 9,qc 18 .neq 17 0] [8,9,18]
 (qC 18 (qS [qm 19 9,qo 6 (.mv (.const (Value.int IntKind.u64 0))),qm 7 19] [6,7]
 .ret)
 .skip))
 (qS [qm 20 8,qn 21 20,ql 22 21,qm 6 22,qk 7 0] [6,7]
 .ret))))⟩)
theorem n81 : F81.n = 23 := rfl
theorem low81 : lowF Tryd.prog (kpO F81) (assoc []) 81 = some F81 := by kernel_rfl
def F76 : FIR := laid (X := ⟨24, [],
 (qS [ql 7 1,qx 8 77 [7],qk 9 0] [0,8,9]
 (.block 0 (.loop (qS [qc 10 .lss 9 4] [0,8,9,10]
 (.seq (qC 10 .skip
 (.exit 0))
 (.seq (.block 1 (qS [qo 11 (.idxV 4 1 false (.tmp 8) (.tmp 9)),qm 4 11] [0,4,8,9]
 (qS [qm 12 4,qL 13 12,qk 14 0] [0,8,9,12,13,14]
 (.block 2 (.loop (qS [qb 15 .lss 14 13] [0,8,9,12,13,14,15]
 (.seq (qC 15 .skip
 (.exit 2))
 (.seq (.block 3 (qS [qi 16 1 12 14,ql 17 16,qm 6 17] [0,6,8,9,12,13,14]
 (qS [qm 18 0,qm 19 6,qo 20 (.callv (.tmp 18) [(.tmp 19)]),qo 21 (.un .not (.tmp 20))] [0,8,9,12,13,14,21]
 (qC 21 .ret
 .skip))))
 (.reg [qc 22 .add 14 1,qm 14 22] [0,8,9,12,13,14])))))))))
 (.reg [qc 23 .add 9 1,qm 9 23] [0,8,9])))))))⟩)
theorem n76 : F76.n = 24 := rfl
theorem low76 : lowF Tryd.prog (kpO F76) (assoc []) 76 = some F76 := by kernel_rfl
def F43 : FIR := laid (X := ⟨4, [.tmp 2],
 (qS [qB 1 25 0,qo 2 (.mv (.const Value.nilFunc))] [1]
 (qS [qo 3 (.clos (.func 76) [] [(.tmp 1)]),qm 2 3] [2]
 .ret))⟩)
theorem n43 : F43.n = 4 := rfl
theorem low43 : lowF Tryd.prog (kpO F43) (assoc []) 43 = some F43 := by kernel_rfl
def F77 : FIR := laid (X := ⟨20, [.cellN 2 4],
 (qS [qo 2 (.alloc 138 [(Value.slice none 0 0), (Value.slice none 0 0), (Value.slice none 0 0), (Value.slice none 0 0)])] [0,2]
 (.seq (qD [qm 3 0,qn 4 3,qf 5 20 4,qo 6 (.slcA 64 1 (.tmp 5) none none),qm 7 0,qn 8 7,qf 9 84 8,qo 10 (.slcA 4096 1 (.tmp 9) none none),
  qm 11 0,qn 12 11,qf 13 4180 12,ql 14 13,qm 15 0,qn 16 15,qf 17 4181 16,ql 18 17,
  qo 19 (.build [(Value.slice none 0 0), (Value.slice none 0 0), (Value.slice none 0 0), (Value.slice none 0 0)] [(0, 1, (.tmp 6)), (1, 1, (.tmp 10)), (2, 1, (.tmp 14)), (3, 1, (.tmp 18))]),
  qs 4 2 19] [[0,1,2,3,4,5,6,7,8,9,10,11,12,13,14,15,16,17]] [2])
 .ret))⟩)
theorem n77 : F77.n = 20 := rfl
theorem low77 : lowF Tryd.prog (kpO F77) (assoc [(1,[[0,1,2,3,4,5,6,7,8,9,10,11,12,13,14,15,16,17]])]) 77 = some F77 := by kernel_rfl
def F7 : FIR := laid (X := ⟨86, [.tmp 2, .tmp 3],
 (qS [qB 1 30 0,qo 2 (.mv (.const (Value.pointer none))),qk 3 0] [1]
 (.seq (.block 0 (.seq (qS [qf 9 0 1,ql 10 9,qo 11 (.call 26 [(.tmp 10), (.const (Value.int IntKind.i64 64)), (.const (Value.int IntKind.i64 65536))]),
  qo 12 (.un .not (.tmp 11)),qm 8 12] [1,8]
 (qC 8 .skip
 (qS [qf 13 1 1,ql 14 13,qf 15 0 1,ql 16 15,qo 17 (.call 26 [(.tmp 14), (.const (Value.int IntKind.i64 16)), (.tmp 16)]),
  qo 18 (.un .not (.tmp 17)),qm 8 18] [1,8]
 (qC 8 .skip
 (.reg [qf 19 2 1,ql 20 19,qo 21 (.call 26 [(.tmp 20), (.const (Value.int IntKind.i64 64)), (.const (Value.int IntKind.i64 1048576))]),
  qo 22 (.un .not (.tmp 21)),qm 8 22] [1,8])))))
 (qC 8 (qS [qo 2 (.mv (.const (Value.pointer none))),qk 3 40] [2,3]
 .ret)
 (.seq (qS [qf 24 3 1,ql 25 24,qo 26 (.call 26 [(.tmp 25), (.const (Value.int IntKind.i64 0)), (.const (Value.int IntKind.i64 65536))]),
  qo 27 (.un .not (.tmp 26)),qm 23 27] [1,23]
 (qC 23 .skip
 (.reg [qf 28 4 1,ql 29 28,qo 30 (.call 26 [(.tmp 29), (.const (Value.int IntKind.i64 0)), (.const (Value.int IntKind.i64 15))]),
  qo 31 (.un .not (.tmp 30)),qm 23 31] [1,23])))
 (qC 23 (qS [qo 2 (.mv (.const (Value.pointer none))),qk 3 40] [2,3]
 .ret)
 .skip)))))
 (qS [qo 32 (.mkmap),
  qo 33 (.build ([(Value.slice none 0 0), (Value.slice none 0 0)] ++ rep 18 [(Value.int IntKind.i64 0)] ++ rep 4160 [(Value.int IntKind.u64 0)] ++ [(Value.slice none 0 0), (Value.slice none 0 0), (Value.slice none 0 0), (Value.map none), (Value.int IntKind.i64 0)]) [(4183, 1, (.tmp 32))]),
  qB 34 76 33,qm 4 34] [1,4]
 (qS [qk 5 2] [1,4,5]
 (.seq (qS [qf 35 0 1,ql 36 35,qf 37 1 1,ql 38 37,qf 39 1 1,ql 40 39,qf 41 2 1,ql 42 41,qf 43 0 1,ql 44 43,qb 45 .add 42 44,qf 46 1 1,ql 47 46,
  qo 48 (.bin .mul (.const (Value.int IntKind.i64 2)) (.tmp 47)),qb 49 .add 45 48,qf 50 3 1,ql 51 50,
  qo 52 (.build [(Value.int IntKind.i64 0), (Value.int IntKind.i64 0), (Value.int IntKind.i64 0), (Value.int IntKind.i64 0), (Value.int IntKind.i64 0)] [(0, 1, (.tmp 36)), (1, 1, (.tmp 38)), (2, 1, (.tmp 40)), (3, 1, (.tmp 49)), (4, 1, (.tmp 51))]),
  qk 53 0] [4,5,52,53]
 (.block 1 (.loop (qS [qc 54 .lss 53 5] [4,5,52,53,54]
 (.seq (qC 54 .skip
 (.exit 1))
 (.seq (.block 2 (qS [qm 55 53,qo 56 (.idxV 5 1 false (.tmp 52) (.tmp 53)),qm 6 55,qm 7 56] [4,5,6,7,52,53]
 (qS [qm 57 4,qm 58 6,qc 59 .add 58 1,qm 60 5,qm 61 5,qm 62 7,qb 63 .add 61 62,qm 64 5,
  qo 65 (.build [(Value.int IntKind.i64 0), (Value.int IntKind.i64 0), (Value.int IntKind.i64 0)] [(0, 1, (.tmp 60)), (1, 1, (.tmp 63)), (2, 1, (.tmp 64))]),
  qn 66 57,qf 67 2 66,qo 68 (.idxA 6 3 (.tmp 67) (.tmp 59)),qs 3 68 65] [4,5,7,52,53]
 (.reg [qm 69 5,qm 70 7,qb 71 .add 69 70,qm 5 71] [4,5,52,53]))))
 (.reg [qc 72 .add 53 1,qm 53 72] [4,5,52,53])))))))
 (.seq (qD [qm 73 4,qm 74 4,qm 75 5,qo 76 (.mkslice 32 1 8 [(Value.int IntKind.u64 0)] (.tmp 75) (.tmp 75)),qm 77 5,qc 78 .quo 77 64,
  qc 79 .add 78 1,qo 80 (.mkslice 32 1 8 [(Value.int IntKind.u64 0)] (.tmp 79) (.tmp 79)),qn 81 73,qf 82 0 81,qs 1 82 76,qn 83 74,qf 84 1 83,qs 1 84 80] [[0,1,2,3,4,5,6,7,8,9,10,11,12,13], [0,1,2,4,5,6,7,3,8,9,10,11,12,13], [0,1,2,3,4,5,6,8,9,10,7,11,12,13]] [4])
 (qS [qm 85 4,qm 2 85,qk 3 0] [2,3]
 .ret)))))))⟩)
theorem n7 : F7.n = 86 := rfl
theorem low7 : lowF Tryd.prog (kpO F7) (assoc [(16,[[0,1,2,3,4,5,6,7,8,9,10,11,12,13], [0,1,2,4,5,6,7,3,8,9,10,11,12,13], [0,1,2,3,4,5,6,8,9,10,7,11,12,13]])]) 7 = some F7 := by kernel_rfl
def F112 : FIR := laid (X := ⟨14, [.tmp 2],
 (qS [qk 2 0] [0]
 (.seq (qS [qm 3 0,qo 4 (.bin .eql (.tmp 3) (.const (Value.int IntKind.u64 0)))] [0,4]
 (qC 4 (qS [qk 2 64] [2]
 .ret)
 .skip))
 (qS [qm 5 0,qm 6 0,qo 7 (.un .neg (.tmp 6)),qb 8 .and 5 7,qo 9 (.bin .mul (.tmp 8) (.const (Value.int IntKind.u64 285870213051353865))),
  qo 10 (.bin .shr (.tmp 9) (.const (Value.int IntKind.u64 58))),qo 11 (.idxA 64 1 (.global 0) (.tmp 10)),ql 12 11,qo 13 (.conv .i64 (.tmp 12)),qm 2 13] [2]
 .ret)))⟩)
theorem n112 : F112.n = 14 := rfl
theorem low112 : lowF Tryd.prog (kpO F112) (assoc []) 112 = some F112 := by kernel_rfl
end Go.Proofs.YtmlnoodopoaafaaDoor

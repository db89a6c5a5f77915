/-
  The code of functions, as terms: printed by a program, proved to be what the seat has.
-/
import Derived.Test.YtmlnoodopoaafaaDoorV7
import Derived.Test.YtmlnoodopoaafaaDoorV8
import Derived.KernelRfl
import Derived.Test.YtmlnoodopoaafaaDoorProg
set_option linter.unusedSimpArgs false
set_option linter.unusedVariables false
namespace Go.Proofs.YtmlnoodopoaafaaDoor
open Go Go.V
set_option maxRecDepth 100000
def F71 : FIR := laid (X := ⟨20, [.tmp 2],
 (qS [qo 2 (.mv (.const (Value.int IntKind.u8 0)))] [0]
 (qS [qm 4 0,qo 5 (.bin .shr (.tmp 4) (.const (Value.int IntKind.u64 3))),qm 3 5] [0,3]
 (.seq (qS [qm 6 0,qo 7 (.bin .and (.tmp 6) (.const (Value.int IntKind.u64 7)))] [3,7]
 (.block 0 (qS [qo 9 (.bin .eql (.tmp 7) (.const (Value.int IntKind.u64 1))),qm 8 9] [3,7,8]
 (qC 8 (qS [qo 2 (.mv (.const (Value.int IntKind.u8 1)))] [2]
 .ret)
 (qS [qo 11 (.bin .eql (.tmp 7) (.const (Value.int IntKind.u64 2))),qm 10 11] [3,7,10]
 (qC 10 (qS [qm 12 3,qo 13 (.bin .leq (.tmp 12) (.const (Value.int IntKind.u64 2097151)))] [13]
 (qC 13 (qS [qo 2 (.mv (.const (Value.int IntKind.u8 2)))] [2]
 .ret)
 .skip))
 (qS [qo 15 (.bin .eql (.tmp 7) (.const (Value.int IntKind.u64 0))),qm 14 15] [3,14]
 (qC 14 (.seq (qS [qm 16 3,qo 17 (.bin .eql (.tmp 16) (.const (Value.int IntKind.u64 0)))] [3,17]
 (qC 17 (qS [qo 2 (.mv (.const (Value.int IntKind.u8 0)))] [2]
 .ret)
 .skip))
 (qS [qm 18 3,qo 19 (.bin .leq (.tmp 18) (.const (Value.int IntKind.u64 268435455)))] [19]
 (qC 19 (qS [qo 2 (.mv (.const (Value.int IntKind.u8 3)))] [2]
 .ret)
 .skip)))
 .skip))))))))
 (qS [qo 2 (.mv (.const (Value.int IntKind.u8 4)))] [2]
 .ret))))⟩)
theorem n71 : F71.n = 20 := rfl
theorem low71 : lowF Tryd.prog (kpO F71) (assoc []) 71 = some F71 := by kernel_rfl
def F104 : FIR := laid (X := ⟨13, [.tmp 4, .tmp 5],
 (qS [qk 4 0,qz 5 false] [0,1]
 (.seq (qS [qm 6 0,qx 7 71 [6],qm 8 1,qb 9 .neq 7 8] [0,9]
 (qC 9 (qS [qk 4 0,qz 5 false] [4,5]
 .ret)
 .skip))
 (qS [qm 10 0,qo 11 (.bin .shr (.tmp 10) (.const (Value.int IntKind.u64 3))),qo 12 (.conv .i64 (.tmp 11)),qm 4 12,qz 5 true] [4,5]
 .ret)))⟩)
theorem n104 : F104.n = 13 := rfl
theorem low104 : lowF Tryd.prog (kpO F104) (assoc []) 104 = some F104 := by kernel_rfl
def F68 : FIR := laid (X := ⟨8, [.tmp 2, .tmp 3],
 (qS [qk 2 0,qz 3 false] [0]
 (qS [qm 4 0,qo 5 (.call 104 [(.tmp 4), (.const (Value.int IntKind.u8 3))]),qe 6 5 0,qe 7 5 1,qm 2 6,qm 3 7] [2,3]
 .ret))⟩)
theorem n68 : F68.n = 8 := rfl
theorem low68 : lowF Tryd.prog (kpO F68) (assoc []) 68 = some F68 := by kernel_rfl
def F102 : FIR := laid (X := ⟨23, [.tmp 8, .tmp 9],
 (qS [qo 8 (.mv (.const (Value.int IntKind.u64 0))),qz 9 false] [0,1,2,3]
 (.seq (qS [qm 10 0,qm 11 1,qb 12 .lss 10 11,qm 13 12,qu 13 (qm 14 0),qu 13 (qm 15 2),qu 13 (qb 16 .gtr 14 15),qr 17 13 16] [0,3,17]
 (qC 17 (qS [qo 8 (.mv (.const (Value.int IntKind.u64 0))),qz 9 false] [8,9]
 .ret)
 .skip))
 (qS [qm 18 0,qo 19 (.conv .u64 (.tmp 18)),qo 20 (.bin .shl (.tmp 19) (.const (Value.int IntKind.u64 3))),qm 21 3,qb 22 .or 20 21,qm 8 22,
  qz 9 true] [8,9]
 .ret)))⟩)
theorem n102 : F102.n = 23 := rfl
theorem low102 : lowF Tryd.prog (kpO F102) (assoc []) 102 = some F102 := by kernel_rfl
def F66 : FIR := laid (X := ⟨8, [.tmp 2, .tmp 3],
 (qS [qo 2 (.mv (.const (Value.int IntKind.u64 0))),qz 3 false] [0]
 (qS [qm 4 0,
  qo 5 (.call 102 [(.tmp 4), (.const (Value.int IntKind.i64 1)), (.const (Value.int IntKind.i64 268435455)), (.const (Value.int IntKind.u64 0))]),
  qe 6 5 0,qe 7 5 1,qm 2 6,qm 3 7] [2,3]
 .ret))⟩)
theorem n66 : F66.n = 8 := rfl
theorem low66 : lowF Tryd.prog (kpO F66) (assoc []) 66 = some F66 := by kernel_rfl
def F26 : FIR := laid (X := ⟨15, [.tmp 6],
 (qS [qz 6 false] [0,1,2]
 (qS [qm 7 0,qm 8 1,qb 9 .geq 7 8,qm 10 9,qt 10 (qm 11 0),qt 10 (qm 12 2),qt 10 (qb 13 .leq 11 12),qa 14 10 13,qm 6 14] [6]
 .ret))⟩)
theorem n26 : F26.n = 15 := rfl
theorem low26 : lowF Tryd.prog (kpO F26) (assoc []) 26 = some F26 := by kernel_rfl
def F32 : FIR := laid (X := ⟨11, [.tmp 2],
 (qS [qo 2 (.mv (.const (Value.int IntKind.u64 0)))] [0]
 (qS [qm 6 0,qx 7 66 [6],qm 5 7,qe 8 5 0,qe 9 5 1,qm 3 8,qm 4 9] [3]
 (qS [qm 10 3,qm 2 10] [2]
 .ret)))⟩)
theorem n32 : F32.n = 11 := rfl
theorem low32 : lowF Tryd.prog (kpO F32) (assoc []) 32 = some F32 := by kernel_rfl
def F79 : FIR := laid (X := ⟨8, [.tmp 4],
 (qS [qo 4 (.mv (.const (Value.int IntKind.u64 0)))] [0,1]
 (.seq (qS [qm 5 0] [1,5]
 (qC 5 (qS [qm 6 1,qo 7 (.bin .shl (.const (Value.int IntKind.u64 1)) (.tmp 6)),qm 4 7] [4]
 .ret)
 .skip))
 (qS [qo 4 (.mv (.const (Value.int IntKind.u64 0)))] [4]
 .ret)))⟩)
theorem n79 : F79.n = 8 := rfl
theorem low79 : lowF Tryd.prog (kpO F79) (assoc []) 79 = some F79 := by kernel_rfl
def F107 : FIR := laid (X := ⟨12, [.tmp 4],
 (qS [qz 4 false] [0,1]
 (qS [qm 5 0,qc 6 .geq 5 0,qm 7 6,qt 7 (qm 8 0),qt 7 (qm 9 1),qt 7 (qb 10 .leq 8 9),qa 11 7 10,qm 4 11] [4]
 .ret))⟩)
theorem n107 : F107.n = 12 := rfl
theorem low107 : lowF Tryd.prog (kpO F107) (assoc []) 107 = some F107 := by kernel_rfl
def F78 : FIR := laid (X := ⟨69, [.tmp 2],
 (qS [qB 1 62 0,qz 2 false] [1]
 (.seq (qS [qf 4 0 1,ql 5 4,qo 6 (.call 107 [(.tmp 5), (.const (Value.int IntKind.i64 4095))]),qo 7 (.un .not (.tmp 6)),qm 8 7,qu 8 (qf 9 3 1),
  qu 8 (ql 10 9),qu 8 (qo 11 (.call 107 [(.tmp 10), (.const (Value.int IntKind.i64 4194303))])),qu 8 (qo 12 (.un .not (.tmp 11))),qr 13 8 12,qm 14 13,
  qu 14 (qf 15 4 1),qu 14 (ql 16 15),qu 14 (qo 17 (.call 107 [(.tmp 16), (.const (Value.int IntKind.i64 15))])),qu 14 (qo 18 (.un .not (.tmp 17))),
  qr 19 14 18,qm 20 19,qu 20 (qf 21 5 1),qu 20 (ql 22 21),qu 20 (qo 23 (.call 107 [(.tmp 22), (.const (Value.int IntKind.i64 65536))])),
  qu 20 (qo 24 (.un .not (.tmp 23))),qr 25 20 24,qm 26 25,qu 26 (qf 27 2 1),qu 26 (ql 28 27),
  qu 26 (qo 29 (.call 107 [(.tmp 28), (.const (Value.int IntKind.i64 7))])),qu 26 (qo 30 (.un .not (.tmp 29))),qr 31 26 30] [1,31]
 (qC 31 (qS [qz 2 false] [2]
 .ret)
 .skip))
 (qS [qk 3 0] [1,3]
 (.seq (qS [qf 32 1 1,ql 33 32] [1,3,33]
 (.block 0 (.seq (.block 4 (.seq (.block 3 (.seq (.block 2 (.seq (.block 1 (.seq (.seq (.seq (qS [qo 35 (.bin .eql (.tmp 33) (.const (Value.int IntKind.u8 1))),qm 34 35] [1,3,33,34]
 (qC 34 .skip
 (qS [qo 36 (.bin .eql (.tmp 33) (.const (Value.int IntKind.u8 2))),qm 34 36] [1,3,33,34]
 (qC 34 .skip
 (.reg [qo 37 (.bin .eql (.tmp 33) (.const (Value.int IntKind.u8 4))),qm 34 37] [1,3,33,34])))))
 (qC 34 (.exit 1)
 .skip))
 (.seq (qS [qo 39 (.bin .eql (.tmp 33) (.const (Value.int IntKind.u8 3))),qm 38 39] [1,3,33,38]
 (qC 38 (.exit 2)
 .skip))
 (.seq (qS [qo 41 (.bin .eql (.tmp 33) (.const (Value.int IntKind.u8 6))),qm 40 41] [1,3,33,40]
 (qC 40 (.exit 3)
 .skip))
 (qS [qo 43 (.bin .eql (.tmp 33) (.const (Value.int IntKind.u8 5))),qm 42 43] [1,3,42]
 (qC 42 (.exit 4)
 .skip)))))
 (.exit 0)))
 (.seq (qS [qf 44 2 1,ql 45 44,qc 46 .eql 45 0,qm 2 46] [2]
 .ret)
 (.exit 0))))
 (.seq (qS [qf 47 2 1,ql 48 47,qc 49 .eql 48 0,qm 50 49,qt 50 (qf 51 5 1),qt 50 (ql 52 51),qt 50 (qc 53 .gtr 52 0),qa 54 50 53,qm 2 54] [2]
 .ret)
 (.exit 0))))
 (.seq (qS [qf 55 5 1,ql 56 55,qc 57 .eql 56 0] [1,3,57]
 (qC 57 (qS [qz 2 false] [2]
 .ret)
 .skip))
 (.reg [qm 58 3,qc 59 .add 58 1,qm 3 59] [1,3]))))
 (.seq (qS [qf 60 2 1,ql 61 60,qc 62 .eql 61 0,qm 63 62,qu 63 (qf 64 5 1),qu 63 (ql 65 64),qu 63 (qm 66 3),qu 63 (qb 67 .gtr 65 66),qr 68 63 67,
  qm 2 68] [2]
 .ret)
 (.exit 0)))))
 (qS [qz 2 false] [2]
 .ret)))))⟩)
theorem n78 : F78.n = 69 := rfl
theorem low78 : lowF Tryd.prog (kpO F78) (assoc []) 78 = some F78 := by kernel_rfl
def F45 : FIR := laid (X := ⟨44, [.tmp 2, .tmp 3, .tmp 4],
 (qS [qB 1 62 0,qo 2 (.mv (.const (Value.int IntKind.u64 0))),qo 3 (.mv (.const (Value.int IntKind.u64 0))),qk 4 0] [1]
 (.seq (qS [qN 6 8 1,qx 7 78 [6],qo 8 (.un .not (.tmp 7))] [1,8]
 (qC 8 (qS [qo 2 (.mv (.const (Value.int IntKind.u64 0))),qo 3 (.mv (.const (Value.int IntKind.u64 0))),qk 4 10] [2,3,4]
 .ret)
 .skip))
 (qS [qf 9 0 1,ql 10 9,qo 11 (.conv .u64 (.tmp 10)),qf 12 1 1,ql 13 12,qo 14 (.conv .u64 (.tmp 13)),
  qo 15 (.bin .shl (.tmp 14) (.const (Value.int IntKind.u64 12))),qb 16 .or 11 15,qf 17 2 1,ql 18 17,qo 19 (.conv .u64 (.tmp 18)),
  qo 20 (.bin .shl (.tmp 19) (.const (Value.int IntKind.u64 15))),qb 21 .or 16 20,qf 22 3 1,ql 23 22,qo 24 (.conv .u64 (.tmp 23)),
  qo 25 (.bin .shl (.tmp 24) (.const (Value.int IntKind.u64 18))),qb 26 .or 21 25,qf 27 4 1,ql 28 27,qo 29 (.conv .u64 (.tmp 28)),
  qo 30 (.bin .shl (.tmp 29) (.const (Value.int IntKind.u64 40))),qb 31 .or 26 30,qm 5 31] [1,5]
 (.seq (qD [qm 32 5,qf 33 6 1,ql 34 33,qo 35 (.call 79 [(.tmp 34), (.const (Value.int IntKind.i64 44))]),qb 36 .or 32 35,qf 37 7 1,ql 38 37,
  qo 39 (.call 79 [(.tmp 38), (.const (Value.int IntKind.i64 45))]),qb 40 .or 36 39,qf 41 5 1,ql 42 41,qo 43 (.conv .u64 (.tmp 42)),qm 2 40,qm 3 43,
  qk 4 0] [[0,1,2,3,4,5,6,7,8,9,10,11,12,13,14], [0,1,2,5,6,3,4,7,8,9,10,11,12,13,14], [0,1,2,3,4,5,6,9,10,7,8,11,12,13,14], [0,1,2,5,6,3,4,9,10,7,8,11,12,13,14], [0,1,2,5,6,9,10,3,4,7,8,11,12,13,14], [0,1,2,3,4,5,9,10,6,7,8,11,12,13,14], [0,1,2,5,9,10,3,4,6,7,8,11,12,13,14], [0,1,2,5,9,10,6,3,4,7,8,11,12,13,14]] [2,3,4])
 .ret))))⟩)
theorem n45 : F45.n = 44 := rfl
theorem low45 : lowF Tryd.prog (kpO F45) (assoc [(4,[[0,1,2,3,4,5,6,7,8,9,10,11,12,13,14], [0,1,2,5,6,3,4,7,8,9,10,11,12,13,14], [0,1,2,3,4,5,6,9,10,7,8,11,12,13,14], [0,1,2,5,6,3,4,9,10,7,8,11,12,13,14], [0,1,2,5,6,9,10,3,4,7,8,11,12,13,14], [0,1,2,3,4,5,9,10,6,7,8,11,12,13,14], [0,1,2,5,9,10,3,4,6,7,8,11,12,13,14], [0,1,2,5,9,10,6,3,4,7,8,11,12,13,14]])]) 45 = some F45 := by kernel_rfl
def F105 : FIR := laid (X := ⟨15, [.tmp 6],
 (qS [qk 6 0] [0,1,2]
 (.seq (qD [qm 7 0,qm 8 1,qb 9 .shr 7 8,qm 10 2,qo 11 (.bin .shl (.const (Value.int IntKind.u64 1)) (.tmp 10)),
  qo 12 (.bin .sub (.tmp 11) (.const (Value.int IntKind.u64 1))),qb 13 .and 9 12,qo 14 (.conv .i64 (.tmp 13)),qm 6 14] [[0,1,2,3,4,5,6,7,8]] [6])
 .ret))⟩)
theorem n105 : F105.n = 15 := rfl
theorem low105 : lowF Tryd.prog (kpO F105) (assoc [(1,[[0,1,2,3,4,5,6,7,8]])]) 105 = some F105 := by kernel_rfl
def F70 : FIR := laid (X := ⟨40, [.cellN 4 8, .tmp 5],
 (qS [qo 4 (.alloc 62 [(Value.int IntKind.i64 0), (Value.int IntKind.u8 0), (Value.int IntKind.i64 0), (Value.int IntKind.i64 0), (Value.int IntKind.i64 0), (Value.int IntKind.i64 0), (Value.bool false), (Value.bool false)]),
  qk 5 0] [0,1,4]
 (.seq (qS [qm 7 0,qo 8 (.bin .shr (.tmp 7) (.const (Value.int IntKind.u64 46))),qo 9 (.bin .neq (.tmp 8) (.const (Value.int IntKind.u64 0))),
  qm 10 9,qu 10 (qm 11 1),qu 10 (qo 12 (.bin .gtr (.tmp 11) (.const (Value.int IntKind.u64 65536)))),qr 13 10 12] [0,1,4,13]
 (qC 13 (qS [qo 14 (.build [(Value.int IntKind.i64 0), (Value.int IntKind.u8 0), (Value.int IntKind.i64 0), (Value.int IntKind.i64 0), (Value.int IntKind.i64 0), (Value.int IntKind.i64 0), (Value.bool false), (Value.bool false)] []),
  qs 8 4 14,qk 5 10] [4,5]
 .ret)
 .skip))
 (qS [qm 15 0,qo 16 (.call 105 [(.tmp 15), (.const (Value.int IntKind.i64 0)), (.const (Value.int IntKind.i64 12))]),qm 17 0,
  qo 18 (.call 105 [(.tmp 17), (.const (Value.int IntKind.i64 12)), (.const (Value.int IntKind.i64 3))]),qo 19 (.conv .u8 (.tmp 18)),qm 20 0,
  qo 21 (.call 105 [(.tmp 20), (.const (Value.int IntKind.i64 15)), (.const (Value.int IntKind.i64 3))]),qm 22 0,
  qo 23 (.call 105 [(.tmp 22), (.const (Value.int IntKind.i64 18)), (.const (Value.int IntKind.i64 22))]),qm 24 0,
  qo 25 (.call 105 [(.tmp 24), (.const (Value.int IntKind.i64 40)), (.const (Value.int IntKind.i64 4))]),qm 26 0,
  qo 27 (.call 105 [(.tmp 26), (.const (Value.int IntKind.i64 44)), (.const (Value.int IntKind.i64 1))]),qc 28 .eql 27 1,qm 29 0,
  qo 30 (.call 105 [(.tmp 29), (.const (Value.int IntKind.i64 45)), (.const (Value.int IntKind.i64 1))]),qc 31 .eql 30 1,qm 32 1,
  qo 33 (.conv .i64 (.tmp 32)),
  qo 34 (.build [(Value.int IntKind.i64 0), (Value.int IntKind.u8 0), (Value.int IntKind.i64 0), (Value.int IntKind.i64 0), (Value.int IntKind.i64 0), (Value.int IntKind.i64 0), (Value.bool false), (Value.bool false)] [(0, 1, (.tmp 16)), (1, 1, (.tmp 19)), (2, 1, (.tmp 21)), (3, 1, (.tmp 23)), (4, 1, (.tmp 25)), (6, 1, (.tmp 28)), (7, 1, (.tmp 31)), (5, 1, (.tmp 33))]),
  qo 6 (.alloc 62 [(Value.int IntKind.i64 0), (Value.int IntKind.u8 0), (Value.int IntKind.i64 0), (Value.int IntKind.i64 0), (Value.int IntKind.i64 0), (Value.int IntKind.i64 0), (Value.bool false), (Value.bool false)]),
  qs 8 6 34] [4,6]
 (.seq (qS [qN 35 8 6,qx 36 78 [35],qo 37 (.un .not (.tmp 36))] [4,6,37]
 (qC 37 (qS [qo 38 (.build [(Value.int IntKind.i64 0), (Value.int IntKind.u8 0), (Value.int IntKind.i64 0), (Value.int IntKind.i64 0), (Value.int IntKind.i64 0), (Value.int IntKind.i64 0), (Value.bool false), (Value.bool false)] []),
  qs 8 4 38,qk 5 10] [4,5]
 .ret)
 .skip))
 (qS [qN 39 8 6,qs 8 4 39,qk 5 0] [4,5]
 .ret)))))⟩)
theorem n70 : F70.n = 40 := rfl
theorem low70 : lowF Tryd.prog (kpO F70) (assoc []) 70 = some F70 := by kernel_rfl
def F103 : FIR := laid (X := ⟨10, [.tmp 2, .tmp 3],
 (qS [qk 2 0,qz 3 false] [0]
 (.seq (qS [qm 4 0,qo 5 (.bin .and (.tmp 4) (.const (Value.int IntKind.u64 7))),qo 6 (.bin .neq (.tmp 5) (.const (Value.int IntKind.u64 1)))] [0,6]
 (qC 6 (qS [qk 2 0,qz 3 false] [2,3]
 .ret)
 .skip))
 (qS [qm 7 0,qo 8 (.conv .i64 (.tmp 7)),qo 9 (.bin .shr (.tmp 8) (.const (Value.int IntKind.u64 3))),qm 2 9,qz 3 true] [2,3]
 .ret)))⟩)
theorem n103 : F103.n = 10 := rfl
theorem low103 : lowF Tryd.prog (kpO F103) (assoc []) 103 = some F103 := by kernel_rfl
def F28 : FIR := laid (X := ⟨13, [.tmp 2],
 (qS [qz 2 false] [0]
 (qS [qm 3 0,qo 4 (.bin .eql (.tmp 3) (.const (Value.int IntKind.u8 1))),qm 5 4,qu 5 (qm 6 0),
  qu 5 (qo 7 (.bin .geq (.tmp 6) (.const (Value.int IntKind.u8 3)))),qu 5 (qm 8 7),qt 8 (qm 9 0),
  qt 8 (qo 10 (.bin .leq (.tmp 9) (.const (Value.int IntKind.u8 5)))),qu 5 (qa 11 8 10),qr 12 5 11,qm 2 12] [2]
 .ret))⟩)
theorem n28 : F28.n = 13 := rfl
theorem low28 : lowF Tryd.prog (kpO F28) (assoc []) 28 = some F28 := by kernel_rfl
def F27 : FIR := laid (X := ⟨46, [.cellN 6 8, .tmp 7],
 (qS [qB 3 62 0,
  qo 6 (.alloc 62 [(Value.int IntKind.i64 0), (Value.int IntKind.u8 0), (Value.int IntKind.i64 0), (Value.int IntKind.i64 0), (Value.int IntKind.i64 0), (Value.int IntKind.i64 0), (Value.bool false), (Value.bool false)]),
  qz 7 false] [1,2,3,6]
 (.seq (qS [qm 9 1,qc 10 .lss 9 0,qm 11 10,qu 11 (qm 12 1),qu 11 (qc 13 .gtr 12 65536),qr 14 11 13,qm 15 14,qu 15 (qm 16 2),
  qu 15 (qc 17 .lss 16 0),qr 18 15 17,qm 19 18,qu 19 (qm 20 2),qu 19 (qc 21 .gtr 20 524288),qr 22 19 21] [1,2,3,6,22]
 (qC 22 (qS [qN 23 8 3,qs 8 6 23,qz 7 false] [6,7]
 .ret)
 .skip))
 (qS [qm 24 2,qc 25 .add 24 8,qc 26 .sub 25 1,qc 27 .quo 26 8,qm 8 27] [1,2,3,6,8]
 (qS [qm 28 1,qm 29 8,qb 30 .add 28 29,qm 31 8,qc 32 .mul 31 8,qm 33 2,qb 34 .sub 32 33,qf 35 5 3,qs 1 35 30,qf 36 2 3,qs 1 36 34] [3,6]
 (.seq (qD [qN 37 8 3,qf 38 5 3,ql 39 38,qc 40 .leq 39 65536,qm 41 40,qt 41 (qf 42 0 3),qt 41 (ql 43 42),
  qt 41 (qo 44 (.call 26 [(.tmp 43), (.const (Value.int IntKind.i64 0)), (.const (Value.int IntKind.i64 4095))])),qa 45 41 44,qs 8 6 37,qm 7 45] [[0,1,2,3,4,5,6,7,8,9,10], [1,2,3,4,5,6,7,0,8,9,10]] [6,7])
 .ret)))))⟩)
theorem n27 : F27.n = 46 := rfl
theorem low27 : lowF Tryd.prog (kpO F27) (assoc [(5,[[0,1,2,3,4,5,6,7,8,9,10], [1,2,3,4,5,6,7,0,8,9,10]])]) 27 = some F27 := by kernel_rfl
def F50 : FIR := laid (X := ⟨18, [.tmp 4, .tmp 5],
 (qS [qo 4 (.mv (.const (Value.int IntKind.u64 0))),qk 5 0] [0,1]
 (.seq (qS [qm 6 1,qc 7 .lss 6 0,qm 8 7,qu 8 (qm 9 1),qu 8 (qm 10 0),qu 8 (qL 11 10),qu 8 (qb 12 .geq 9 11),qr 13 8 12] [0,1,13]
 (qC 13 (qS [qo 4 (.mv (.const (Value.int IntKind.u64 0))),qk 5 45] [4,5]
 .ret)
 .skip))
 (qS [qm 14 0,qm 15 1,qi 16 1 14 15,ql 17 16,qm 4 17,qk 5 0] [4,5]
 .ret)))⟩)
theorem n50 : F50.n = 18 := rfl
theorem low50 : lowF Tryd.prog (kpO F50) (assoc []) 50 = some F50 := by kernel_rfl
set_option maxHeartbeats 3200000
theorem tag_spec (o : Nat) (ho : o < 18446744073709551616) : Fun Tryd.prog 71 [uv o] [] (fun v Post => v = cv (tagO o) ∧ Post = []) := by
  refine Fun.intro low71 (by simp [n71]) ?_
  (repeat' (first | refine GOPH ?_ | refine st_gcase (by rfl) (fun _ => ?_) (fun _ => ?_) | refine st_pcase (by rfl) (fun _ => ?_) (fun _ => ?_) | refine VC.seq_cond (by rfl) (fun _ => ?_) (fun _ => ?_) | refine VC.cond (by rfl) (fun _ => ?_) (fun _ => ?_)))
  all_goals
    refine endQ_mk (Post := []) (.inr rfl) (.tmp (by rfl) .nil) ⟨?_, rfl⟩ Imp.nil
    simp only [decide_eq_true_eq, decide_eq_false_iff_not] at *
    unfold tagO
    repeat' split
    all_goals (first | rfl | (exfalso; omega))
theorem of_spec (o t : Nat) (ho : o < 18446744073709551616) : Fun Tryd.prog 104 [uv o, cv t] [] (fun v Post => v = .tuple #[vi ((if tagO o = t then o / 8 else 0 : Nat) : Int), .bool (decide (tagO o = t))] ∧ Post = []) := by
  refine Fun.intro low104 (by simp [n104]) ?_
  refine GOH ?_
  refine st_callP (tag_spec o ho) (by rfl) ?_
  (repeat' (first | refine GOPH ?_ | refine st_gcase (by rfl) (fun _ => ?_) (fun _ => ?_) | refine st_pcase (by rfl) (fun _ => ?_) (fun _ => ?_) | refine VC.seq_cond (by rfl) (fun _ => ?_) (fun _ => ?_) | refine VC.cond (by rfl) (fun _ => ?_) (fun _ => ?_)))
  all_goals
    refine endQ_mk (Post := []) (.inr rfl) (.tmp (by rfl) (.tmp (by rfl) .nil)) ⟨?_, rfl⟩ Imp.nil
    rename_i h
    have e : decide (tagO o = t) = decide ((tagO o : Int) = (t : Int)) := by simp only [decide_eq_decide]; omega
    simp only [Bool.not_eq_eq_eq_not, Bool.not_true, Bool.not_false] at h
    rw [e, h]
    simp only [decide_eq_true_eq, decide_eq_false_iff_not] at h
    first
      | rw [if_pos (by omega)]; rfl
      | rw [if_neg (by omega)]; rfl
theorem wordOf_spec (o : Nat) (ho : o < 18446744073709551616) : Fun Tryd.prog 68 [uv o] [] (fun v Post => v = .tuple #[vi (wordO o : Nat), .bool (decide (tagO o = 3))] ∧ Post = []) := by
  refine Fun.intro low68 (by simp [n68]) ?_
  refine GOH ?_
  refine st_callP (of_spec o 3 ho) (by rfl) ?_
  refine GOH ?_
  refine endQ_mk (Post := []) (.inr rfl) (.tmp (by rfl) (.tmp (by rfl) .nil)) ⟨?_, rfl⟩ Imp.nil
  rfl
theorem object_spec (w : Nat) (h1 : 1 ≤ w) (h2 : w ≤ 268435455) : Fun Tryd.prog 66 [vi w] [] (fun v Post => v = .tuple #[uv (8 * w), .bool true] ∧ Post = []) := by
  have hw : Fun Tryd.prog 102 [vi w, vi 1, vi 268435455, uv 0] [] (fun v Post => v = .tuple #[uv (8 * w), .bool true] ∧ Post = []) := by
    refine Fun.intro low102 (by simp [n102]) ?_
    (repeat' (first | refine GOPH ?_ | refine st_gcase (by rfl) (fun _ => ?_) (fun _ => ?_) | refine st_pcase (by rfl) (fun _ => ?_) (fun _ => ?_) | refine VC.seq_cond (by rfl) (fun _ => ?_) (fun _ => ?_) | refine VC.cond (by rfl) (fun _ => ?_) (fun _ => ?_)))
    all_goals first
      | (exfalso; simp only [decide_eq_true_eq, decide_eq_false_iff_not] at *; omega)
      | skip
    refine endQ_mk (Post := []) (.inr rfl) (.tmp (by rfl) (.tmp (by rfl) .nil)) ⟨?_, rfl⟩ Imp.nil
    rw [Nat.or_zero, Nat.mod_eq_of_lt (by omega), Nat.mul_comm]; rfl
  refine Fun.intro low66 (by simp [n66]) ?_
  refine GOH ?_
  refine st_callP hw (by rfl) ?_
  refine GOH ?_
  refine endQ_mk (Post := []) (.inr rfl) (.tmp (by rfl) (.tmp (by rfl) .nil)) ⟨?_, rfl⟩ Imp.nil
  rfl
theorem oop_spec (w : Nat) (h1 : 1 ≤ w) (h2 : w ≤ 268435455) : Fun Tryd.prog 32 [vi w] [] (fun v Post => v = uv (8 * w) ∧ Post = []) := by
  refine Fun.intro low32 (by simp [n32]) ?_
  refine GOH ?_
  refine st_callP (object_spec w h1 h2) (by rfl) ?_
  refine GOH ?_
  refine endQ_mk (Post := []) (.inr rfl) (.tmp (by rfl) .nil) ⟨?_, rfl⟩ Imp.nil
  rfl
theorem hwithin_spec (n l m : Int) : Fun Tryd.prog 26 [vi n, vi l, vi m] [] (fun v Post => v = .bool (decide (l ≤ n ∧ n ≤ m)) ∧ Post = []) := by
  refine Fun.intro low26 (by simp [n26]) ?_
  (repeat' (first | refine GOPH ?_ | refine st_gcase (by rfl) (fun _ => ?_) (fun _ => ?_) | refine st_pcase (by rfl) (fun _ => ?_) (fun _ => ?_) | refine VC.seq_cond (by rfl) (fun _ => ?_) (fun _ => ?_) | refine VC.cond (by rfl) (fun _ => ?_) (fun _ => ?_)))
  all_goals
    refine endQ_mk (Post := []) (.inr rfl) (.tmp (by rfl) .nil) ⟨?_, rfl⟩ Imp.nil
    rename_i h
    simp only [decide_eq_true_eq, decide_eq_false_iff_not] at h
    simp [tup]; omega
theorem in_spec (n m : Int) : Fun Tryd.prog 107 [vi n, vi m] [] (fun v Post => v = .bool (decide (0 ≤ n ∧ n ≤ m)) ∧ Post = []) := by
  refine Fun.intro low107 (by simp [n107]) ?_
  (repeat' (first | refine GOPH ?_ | refine st_gcase (by rfl) (fun _ => ?_) (fun _ => ?_) | refine st_pcase (by rfl) (fun _ => ?_) (fun _ => ?_) | refine VC.seq_cond (by rfl) (fun _ => ?_) (fun _ => ?_) | refine VC.cond (by rfl) (fun _ => ?_) (fun _ => ?_)))
  all_goals
    refine endQ_mk (Post := []) (.inr rfl) (.tmp (by rfl) .nil) ⟨?_, rfl⟩ Imp.nil
    rename_i h
    simp only [decide_eq_true_eq, decide_eq_false_iff_not] at h
    simp [tup]; omega
theorem bit_spec (b : Bool) (c : Int) (m : Nat) (hc : 0 ≤ c ∧ c < 64) (em : 2 ^ c.toNat = m) : Fun Tryd.prog 79 [.bool b, vi c] [] (fun v Post => v = uv (b2n b * m) ∧ Post = []) := by
  subst em
  refine Fun.intro low79 (by simp [n79]) ?_
  have hp := pow_lt64 (i := c.toNat) (by omega)
  cases b
  · refine GOH ?_
    refine endQ_mk (Post := []) (.inr rfl) (.tmp (by rfl) .nil) ⟨?_, rfl⟩ Imp.nil
    simp [b2n, tup]
  · refine GOH ?_
    refine endQ_mk (Post := []) (.inr rfl) (.tmp (by rfl) .nil) ⟨?_, rfl⟩ Imp.nil
    rw [Nat.mod_eq_of_lt (by omega)]; rfl
theorem may_spec (h : Hd) (m : h.May) : Fun Tryd.prog 78 [.agg (hdEnc h).toArray] [] (fun v Post => v = .bool true ∧ Post = []) := by
  refine Fun.intro low78 (by simp [n78]) ?_
  have h1 : ∀ (n k : Nat), n ≤ k → Fun Tryd.prog 107 [vi n, vi k] [] (fun v Post => v = .bool true ∧ Post = []) := fun n k h => (in_spec n k).mono (fun v Post hv => by
    obtain ⟨rfl, rfl⟩ := hv; exact ⟨by rw [decide_eq_true]; omega, rfl⟩)
  obtain ⟨m1, m2, m3, m4, m5, ⟨m6, m7⟩, m8, m9, m10, m11⟩ := m
  obtain ⟨cls, fmt, spare, hash, age, slots, mk, nt⟩ := h
  simp only at m1 m2 m3 m4 m5 m6 m7 m8 m9 m10 m11
  refine VC.seq_reg ?_
  refine st_box (by rfl) (fun p => ?_)
  simp only [Value.cells, hdEnc]
  refine GOH ?_
  refine st_callP (h1 cls 4095 m1) (by rfl) ?_
  refine GOH ?_
  refine st_callP (h1 hash 4194303 m2) (by rfl) ?_
  refine GOH ?_
  refine st_callP (h1 age 15 m3) (by rfl) ?_
  refine GOH ?_
  refine st_callP (h1 slots 65536 m4) (by rfl) ?_
  refine GOH ?_
  refine st_callP (h1 spare 7 m5) (by rfl) ?_
  refine GOH ?_
  have hf : fmt = 1 ∨ fmt = 2 ∨ fmt = 3 ∨ fmt = 4 ∨ fmt = 5 ∨ fmt = 6 := by omega
  have e1 : ∀ n : Nat, decide ((n : Int) = 0) = decide (n = 0) := fun n => by simp only [decide_eq_decide]; omega
  rcases hf with rfl | rfl | rfl | rfl | rfl | rfl
  · obtain rfl : spare = 0 := m8 (by omega)
    refine GOH ?_
    exact endQ_mk (Post := []) (.inr rfl) (.tmp (by rfl) .nil) ⟨rfl, rfl⟩ Imp.nil
  · obtain rfl : spare = 0 := m8 (by omega)
    refine GOH ?_
    exact endQ_mk (Post := []) (.inr rfl) (.tmp (by rfl) .nil) ⟨rfl, rfl⟩ Imp.nil
  · obtain rfl : spare = 0 := m8 (by omega)
    refine GOH ?_
    have := m9 rfl
    refine endQ_mk (Post := []) (.inr rfl) (.tmp (by rfl) .nil) ⟨?_, rfl⟩ Imp.nil
    simp only [tup, Value.bool.injEq, decide_eq_true_eq]; omega
  · obtain rfl : spare = 0 := m8 (by omega)
    refine GOH ?_
    exact endQ_mk (Post := []) (.inr rfl) (.tmp (by rfl) .nil) ⟨rfl, rfl⟩ Imp.nil
  · (repeat' (first | refine GOPH ?_ | refine st_gcase (by rfl) (fun _ => ?_) (fun _ => ?_) | refine st_pcase (by rfl) (fun _ => ?_) (fun _ => ?_) | refine VC.seq_cond (by rfl) (fun _ => ?_) (fun _ => ?_) | refine VC.cond (by rfl) (fun _ => ?_) (fun _ => ?_)))
    all_goals
      refine endQ_mk (Post := []) (.inr rfl) (.tmp (by rfl) .nil) ⟨?_, rfl⟩ Imp.nil
      rename_i h
      simp only [decide_eq_true_eq, decide_eq_false_iff_not] at h
      simp only [tup, Value.bool.injEq, decide_eq_true_eq]
      try (have := m11 (by omega); simp at this; omega)
  · have k10 : 0 < slots := m10 rfl
    have k11 : spare ≠ 0 → 1 < slots := by simpa using m11
    clear m8 m9 m10 m11 e1
    (repeat' (first | refine GOPH ?_ | refine st_gcase (by rfl) (fun _ => ?_) (fun _ => ?_) | refine st_pcase (by rfl) (fun _ => ?_) (fun _ => ?_) | refine VC.seq_cond (by rfl) (fun _ => ?_) (fun _ => ?_) | refine VC.cond (by rfl) (fun _ => ?_) (fun _ => ?_)))
    all_goals
      refine endQ_mk (Post := []) (.inr rfl) (.tmp (by rfl) .nil) ⟨?_, rfl⟩ Imp.nil
      rename_i h
      simp only [decide_eq_true_eq, decide_eq_false_iff_not] at h
      simp only [tup, Value.bool.injEq, decide_eq_true_eq]
      try omega
theorem bits_ex (b : Bool) (c : Int) (m : Nat) (hc : 0 ≤ c ∧ c < 64) (em : 2 ^ c.toNat = m) : ∃ y, y = b2n b * m ∧ y ≤ m ∧ Fun Tryd.prog 79 [.bool b, vi c] [] (fun v Post => v = uv y ∧ Post = []) :=
  ⟨_, rfl, by cases b <;> simp [b2n], bit_spec b c m hc em⟩
theorem pack_spec (h : Hd) (m : h.May) : Fun Tryd.prog 45 [.agg (hdEnc h).toArray] [] (fun v Post => v = .tuple #[uv (pk h), uv h.slots, vi 0] ∧ Post = []) := by
  obtain ⟨y1, hy1, hx1, c1⟩ := bits_ex h.marked 44 17592186044416 (by omega) (by simp)
  obtain ⟨y2, hy2, hx2, c2⟩ := bits_ex h.noted 45 35184372088832 (by omega) (by simp)
  have hpk : pk0 h ||| y1 ||| y2 = pk h := by rw [hy1, hy2]; exact pk_or m
  clear hy1 hy2
  have hm := may_spec h m
  have hlt := pk0_lt m
  have hor := pk0_or m
  obtain ⟨m1, m2, m3, m4, m5, ⟨m6, m7⟩, m8, m9, m10, m11⟩ := m
  clear m8 m9 m10 m11
  refine Fun.intro low45 (by simp [n45]) ?_
  refine VC.seq_reg ?_
  refine st_box (by rfl) (fun p => ?_)
  simp only [Value.cells, hdEnc] at hm ⊢
  refine GOH ?_
  refine st_callP hm (by rfl) ?_
  refine GOH ?_
  rw [hor]
  generalize pk0 h = z at hpk hlt ⊢
  clear hor hm
  refine VC.seq_draws (α := Unit) (fun _ => [(2, uv (z ||| y1 ||| y2)), (3, uv h.slots), (4, vi 0)]) (fun _ => []) (fun _ => True) ⟨?_, ?_, ?_, ?_, ?_, ?_, ?_, ?_, trivial⟩ (fun _ _ => ?_)
  rotate_right
  · rw [hpk]
    refine GOH ?_
    exact endQ_mk (Post := []) (.inr rfl) (.tmp (by rfl) (.tmp (by rfl) (.tmp (by rfl) .nil))) ⟨rfl, rfl⟩ Imp.nil
  all_goals
    repeat' first
      | refine GOPH ?_
      | refine st_callP c1 (by rfl) ?_
      | refine st_callP c2 (by rfl) ?_
    exact ⟨(), trivial, by exact SUx, Imp.nil⟩
theorem field_spec (a : Nat) (c1 c2 : Int) (m1 m2 : Nat) (ha : a < 18446744073709551616) (h1 : 0 ≤ c1 ∧ c1 ≤ 63) (h2 : 0 ≤ c2 ∧ c2 ≤ 62) (e1 : 2 ^ c1.toNat = m1) (e2 : 2 ^ c2.toNat = m2) :
    Fun Tryd.prog 105 [uv a, vi c1, vi c2] [] (fun v Post => v = vi ((a / m1 % m2 : Nat) : Int) ∧ Post = []) := by
  refine Fun.intro low105 (by simp [n105]) ?_
  have hm : m2 ≤ 4611686018427387904 := by rw [← e2]; exact Nat.le_trans (Nat.pow_le_pow_right (by omega) (show c2.toNat ≤ 62 by omega)) (by decide)
  have hm0 : 0 < m2 := by rw [← e2]; exact Nat.two_pow_pos _
  have hd : a / m1 < 18446744073709551616 := Nat.lt_of_le_of_lt (Nat.div_le_self _ _) ha
  have hmask : ∀ x, x &&& (m2 - 1) = x % m2 := fun x => by rw [← e2]; exact Nat.and_two_pow_sub_one_eq_mod x _
  refine GOH ?_
  rw [show (1 * m2 % 18446744073709551616 - 1) = m2 - 1 by omega, hmask]
  have hr : a / m1 % m2 < 4611686018427387904 := Nat.lt_of_lt_of_le (Nat.mod_lt _ hm0) hm
  rw [wrapI (by omega)]
  exact endQ_mk (Post := []) (.inr rfl) (.tmp (by rfl) .nil) ⟨rfl, rfl⟩ Imp.nil
theorem unpack_spec (h : Hd) (m : h.May) : Fun Tryd.prog 70 [uv (pk h), uv h.slots] [] (fun v Post => v = .tuple #[.agg (hdEnc h).toArray, vi 0] ∧ Post = []) := by
  have hm := may_spec h m
  have hlt := m.lt
  obtain ⟨f1, f2, f3, f4, f5, f6, f7⟩ := pk_fields m
  have c1 := field_spec (pk h) 0 12 1 4096 (by omega) (by omega) (by omega) (by simp) (by simp)
  have c2 := field_spec (pk h) 12 3 4096 8 (by omega) (by omega) (by omega) (by simp) (by simp)
  have c3 := field_spec (pk h) 15 3 32768 8 (by omega) (by omega) (by omega) (by simp) (by simp)
  have c4 := field_spec (pk h) 18 22 262144 4194304 (by omega) (by omega) (by omega) (by simp) (by simp)
  have c5 := field_spec (pk h) 40 4 1099511627776 16 (by omega) (by omega) (by omega) (by simp) (by simp)
  have c6 := field_spec (pk h) 44 1 17592186044416 2 (by omega) (by omega) (by omega) (by simp) (by simp)
  have c7 := field_spec (pk h) 45 1 35184372088832 2 (by omega) (by omega) (by omega) (by simp) (by simp)
  rw [Nat.div_one, f1] at c1
  rw [f2] at c2
  rw [f3] at c3
  rw [f4] at c4
  rw [f5] at c5
  rw [f6] at c6
  rw [f7] at c7
  have hq : pk h / 70368744177664 = 0 := Nat.div_eq_of_lt hlt
  obtain ⟨m1, m2, m3, m4, m5, ⟨m6, m7⟩, m8, m9, m10, m11⟩ := m
  clear m8 m9 m10 m11 f1 f2 f3 f4 f5 f6 f7
  have hpb : pk h < 18446744073709551616 := by omega
  generalize pk h = z at *
  refine Fun.intro low70 (by simp [n70]) ?_
  refine VC.seq_reg ?_
  refine st_alloc (fun p => ?_)
  refine GOH ?_
  rw [hq]
  refine GOH ?_
  rw [show (decide ((65536 : Int) < (h.slots : Int))) = false from decide_eq_false (by omega)]
  refine GOH ?_
  refine st_callP c1 (by rfl) ?_
  refine GOH ?_
  refine st_callP c2 (by rfl) ?_
  refine GOH ?_
  refine st_callP c3 (by rfl) ?_
  refine GOH ?_
  refine st_callP c4 (by rfl) ?_
  refine GOH ?_
  refine st_callP c5 (by rfl) ?_
  refine GOH ?_
  refine st_callP c6 (by rfl) ?_
  refine GOH ?_
  refine st_callP c7 (by rfl) ?_
  refine GOH ?_
  refine st_alloc (fun q => ?_)
  refine GOH ?_
  have hb : ∀ b : Bool, decide (((b2n b : Nat) : Int) = 1) = b := fun b => by cases b <;> rfl
  simp only [hb]
  simp only [hdEnc] at hm ⊢
  refine GOH ?_
  refine st_callP hm (by rfl) ?_
  refine GOH ?_
  refine ⟨.inr rfl, _, _, .cellN (us := hdEnc h) (by rfl) (by rfl) (fun x hx => by simp only [List.flatten_cons, List.mem_append]; first | exact .inl hx | exact .inr (.inl hx)) (.tmp (by rfl) .nil), Imp.nil, ?_⟩
  exact ⟨rfl, rfl⟩
theorem smallOf_spec (n : Nat) (hn : n < 1152921504606846976) : Fun Tryd.prog 103 [uv (8 * n + 1)] [] (fun v Post => v = .tuple #[vi n, .bool true] ∧ Post = []) := by
  refine Fun.intro low103 (by simp [n103]) ?_
  have h1 : 8 * n + 1 < 18446744073709551616 := by omega
  have h2 : (8 * n + 1) % 8 = 1 := by omega
  have h3 : (8 * n + 1) / 8 = n := by omega
  refine GOH ?_
  rw [h2]
  refine GOH ?_
  have h4 : ((8 * n + 1 : Nat) : Int).fdiv (2 ^ min (Int.toNat 3) IntKind.i64.bits) = (n : Int) := by
    show ((8 * n + 1 : Nat) : Int).fdiv 8 = (n : Int)
    rw [Int.fdiv_eq_ediv_of_nonneg _ (by omega)]; omega
  rw [h4]
  exact endQ_mk (Post := []) (.inr rfl) (.tmp (by rfl) (.tmp (by rfl) .nil)) ⟨rfl, rfl⟩ Imp.nil
theorem makes_spec (s : Nat) (hs : s < 256) : Fun Tryd.prog 28 [cv s] [] (fun v Post => v = .bool (decide (s = 1 ∨ (3 ≤ s ∧ s ≤ 5))) ∧ Post = []) := by
  refine Fun.intro low28 (by simp [n28]) ?_
  (repeat' (first | refine GOPH ?_ | refine st_gcase (by rfl) (fun _ => ?_) (fun _ => ?_) | refine st_pcase (by rfl) (fun _ => ?_) (fun _ => ?_) | refine VC.seq_cond (by rfl) (fun _ => ?_) (fun _ => ?_) | refine VC.cond (by rfl) (fun _ => ?_) (fun _ => ?_)))
  all_goals
    refine endQ_mk (Post := []) (.inr rfl) (.tmp (by rfl) .nil) ⟨?_, rfl⟩ Imp.nil
    simp only [tup, Value.bool.injEq]
    simp only [decide_eq_true_eq, decide_eq_false_iff_not] at *
    first
      | (rw [eq_comm, decide_eq_true_eq]; omega)
      | (rw [eq_comm, decide_eq_false_iff_not]; omega)
      | (rw [decide_eq_decide]; omega)
      | skip
def okS (c slots bytes : Int) : Prop := 0 ≤ slots ∧ slots ≤ 65536 ∧ 0 ≤ bytes ∧ bytes ≤ 524288 ∧ slots + (bytes + 7) / 8 ≤ 65536 ∧ 0 ≤ c ∧ c ≤ 4095
instance (c slots bytes : Int) : Decidable (okS c slots bytes) := by unfold okS; infer_instance
theorem sized_spec (c : Int) (f : Nat) (slots bytes : Int) : Fun Tryd.prog 27 [.agg #[vi c, cv f, vi 0, vi 0, vi 0, vi 0, .bool false, .bool false], vi slots, vi bytes] []
    (fun v Post => (∃ us : List Value, v = .tuple #[.agg us.toArray, .bool (decide (okS c slots bytes))] ∧ (∃ a b d, us = [vi c, cv f, vi a, vi 0, vi 0, vi b, .bool d, .bool d]) ∧ (okS c slots bytes → us = [vi c, cv f, vi ((bytes + 7) / 8 * 8 - bytes), vi 0, vi 0, vi (slots + (bytes + 7) / 8), .bool false, .bool false])) ∧ Post = []) := by
  refine Fun.intro low27 (by simp [n27]) ?_
  refine VC.seq_reg ?_
  refine st_box (by rfl) (fun p => ?_)
  simp only [Value.cells]
  refine st_alloc (fun q => ?_)
  by_cases hin : (0 ≤ slots ∧ slots ≤ 65536) ∧ 0 ≤ bytes ∧ bytes ≤ 524288
  rotate_left
  · have hno : ¬ okS c slots bytes := fun h => hin ⟨⟨h.1, h.2.1⟩, h.2.2.1, h.2.2.2.1⟩
    (repeat' (first | refine GOPH ?_ | refine st_gcase (by rfl) (fun _ => ?_) (fun _ => ?_) | refine st_pcase (by rfl) (fun _ => ?_) (fun _ => ?_) | refine VC.seq_cond (by rfl) (fun _ => ?_) (fun _ => ?_) | refine VC.cond (by rfl) (fun _ => ?_) (fun _ => ?_)))
    all_goals first
      | (exfalso; clear hno; simp only [decide_eq_true_eq, decide_eq_false_iff_not] at *; omega)
      | skip
    all_goals
      refine ⟨.inr rfl, _, _, .cellN (us := [vi c, cv f, vi 0, vi 0, vi 0, vi 0, .bool false, .bool false]) (by rfl) (by rfl) (fun x hx => by simp only [List.flatten_cons, List.mem_append]; first | exact .inl hx | exact .inr (.inl hx)) (.tmp (by rfl) .nil), Imp.nil, ?_⟩
      exact ⟨⟨_, by rw [decide_eq_false hno]; rfl, ⟨_, _, _, rfl⟩, fun h => absurd h hno⟩, rfl⟩
  obtain ⟨⟨i1, i2⟩, i3, i4⟩ := hin
  refine GOH ?_
  rw [show decide (slots < 0) = false from decide_eq_false (by omega)]
  refine GOH ?_
  rw [show decide (65536 < slots) = false from decide_eq_false (by omega)]
  refine GOH ?_
  rw [show decide (bytes < 0) = false from decide_eq_false (by omega)]
  refine GOH ?_
  rw [show decide (524288 < bytes) = false from decide_eq_false (by omega)]
  refine GOH ?_
  rw [show (((bytes + 8 - 1).toNat / 8 : Nat) : Int) = (bytes + 7) / 8 by omega]
  have hf0 : (0 : Int) ≤ (bytes + 7) / 8 ∧ (bytes + 7) / 8 ≤ 65536 := by omega
  have hok : okS c slots bytes ↔ (slots + (bytes + 7) / 8 ≤ 65536 ∧ 0 ≤ c ∧ c ≤ 4095) := ⟨fun h => h.2.2.2.2, fun h => ⟨i1, i2, i3, i4, h⟩⟩
  generalize (bytes + 7) / 8 = g at hf0 hok ⊢
  refine VC.seq_draws (α := Unit) (fun _ => [(6, ptr0 q), (7, .bool (decide (okS c slots bytes)))]) (fun _ => [cellsAt q 0 [vi c, cv f, vi (g * 8 - bytes), vi 0, vi 0, vi (slots + g), .bool false, .bool false]]) (fun _ => True) ⟨?_, ?_, trivial⟩ (fun _ _ => ?_)
  rotate_right
  · refine GOH ?_
    refine ⟨.inr rfl, _, _, .cellN (us := [vi c, cv f, vi (g * 8 - bytes), vi 0, vi 0, vi (slots + g), .bool false, .bool false]) (by rfl) (by rfl) (fun x hx => by simp only [List.flatten_cons, List.mem_append]; exact .inl hx) (.tmp (by rfl) .nil), Imp.nil, ?_⟩
    exact ⟨⟨_, rfl, ⟨_, _, _, rfl⟩, fun _ => rfl⟩, rfl⟩
  all_goals
    refine GOH ?_
    by_cases hN : slots + g ≤ 65536
    · rw [show decide (slots + g ≤ 65536) = true from decide_eq_true hN]
      refine GOH ?_
      refine st_callP (hwithin_spec c 0 4095) (by rfl) ?_
      rw [show decide (0 ≤ c ∧ c ≤ 4095) = decide (okS c slots bytes) by rw [decide_eq_decide, hok]; simp [hN]]
      refine GOH ?_
      exact ⟨(), trivial, by exact SUx, by exact IMx⟩
    · rw [show decide (slots + g ≤ 65536) = false from decide_eq_false hN, show decide (okS c slots bytes) = false from decide_eq_false (fun h => hN (hok.1 h).1)]
      refine GOH ?_
      exact ⟨(), trivial, by exact SUx, by exact IMx⟩
end Go.Proofs.YtmlnoodopoaafaaDoor

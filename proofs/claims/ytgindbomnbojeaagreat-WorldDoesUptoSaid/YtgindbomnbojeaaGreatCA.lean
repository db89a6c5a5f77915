/-
  The code of functions, as terms: printed by a program, proved to be what the seat has.
-/
import Derived.Test.YtgindbomnbojeaaGreatV14
import Derived.KernelRfl
import Derived.Test.YtgindbomnbojeaaGreatProg
set_option linter.unusedSimpArgs false
set_option linter.unusedVariables false
namespace Go.Proofs.YtgindbomnbojeaaGreat
open Go Go.V
set_option maxRecDepth 100000
def F92 : FIR := laid (X := ⟨36, [.tmp 2],
 (qS [qz 2 false] [0]
 (.seq (.block 0 (.seq (qS [qm 4 0,qo 5 (.bin .geq (.tmp 4) (.const (Value.int IntKind.u8 97))),qm 6 5,qt 6 (qm 7 0),
  qt 6 (qo 8 (.bin .leq (.tmp 7) (.const (Value.int IntKind.u8 122)))),qa 9 6 8,qm 3 9] [0,3]
 (qC 3 .skip
 (qS [qm 10 0,qo 11 (.bin .geq (.tmp 10) (.const (Value.int IntKind.u8 65))),qm 12 11,qt 12 (qm 13 0),
  qt 12 (qo 14 (.bin .leq (.tmp 13) (.const (Value.int IntKind.u8 90)))),qa 15 12 14,qm 3 15] [0,3]
 (qC 3 .skip
 (.reg [qm 16 0,qo 17 (.bin .geq (.tmp 16) (.const (Value.int IntKind.u8 48))),qm 18 17,qt 18 (qm 19 0),
  qt 18 (qo 20 (.bin .leq (.tmp 19) (.const (Value.int IntKind.u8 57)))),qa 21 18 20,qm 3 21] [0,3])))))
 (qC 3 (qS [qz 2 true] [2]
 .ret)
 .skip)))
 (qS [qm 22 0,qo 23 (.bin .eql (.tmp 22) (.const (Value.int IntKind.u8 46))),qm 24 23,qu 24 (qm 25 0),
  qu 24 (qo 26 (.bin .eql (.tmp 25) (.const (Value.int IntKind.u8 45)))),qr 27 24 26,qm 28 27,qu 28 (qm 29 0),
  qu 28 (qo 30 (.bin .eql (.tmp 29) (.const (Value.int IntKind.u8 95)))),qr 31 28 30,qm 32 31,qu 32 (qm 33 0),
  qu 32 (qo 34 (.bin .eql (.tmp 33) (.const (Value.int IntKind.u8 47)))),qr 35 32 34,qm 2 35] [2]
 .ret)))⟩)
theorem n92 : F92.n = 36 := rfl
theorem low92 : lowF Tryz.prog (kpO F92) (assoc []) 92 = some F92 := by kernel_rfl
def F26 : FIR := laid (X := ⟨23, [.tmp 2],
 (qS [qz 2 false] [0]
 (.seq (qS [qm 4 0,qo 5 (.lenS (.tmp 4)),qk 6 0] [0,5,6]
 (.block 0 (.loop (qS [qb 7 .lss 6 5] [0,5,6,7]
 (.seq (qC 7 .skip
 (.exit 0))
 (.seq (.block 1 (qS [qm 8 6,qm 3 8] [0,3,5,6]
 (qS [qm 9 0,qm 10 3,qo 11 (.idxS (.tmp 9) (.tmp 10)),qx 12 92 [11],qo 13 (.un .not (.tmp 12))] [0,5,6,13]
 (qC 13 (qS [qz 2 false] [2]
 .ret)
 .skip))))
 (.reg [qc 14 .add 6 1,qm 6 14] [0,5,6])))))))
 (qS [qm 15 0,qo 16 (.lenS (.tmp 15)),qc 17 .geq 16 1,qm 18 17,qt 18 (qm 19 0),qt 18 (qo 20 (.lenS (.tmp 19))),qt 18 (qc 21 .leq 20 64),
  qa 22 18 21,qm 2 22] [2]
 .ret)))⟩)
theorem n26 : F26.n = 23 := rfl
theorem low26 : lowF Tryz.prog (kpO F26) (assoc []) 26 = some F26 := by kernel_rfl
def F108 : FIR := laid (X := ⟨10, [.tmp 2],
 (qS [qk 2 0] [0]
 (.seq (qS [qm 3 0,qc 4 .geq 3 30,qm 5 4,qt 5 (qm 6 0),qt 5 (qc 7 .leq 6 35),qa 8 5 7] [0,8]
 (qC 8 (qS [qm 9 0,qm 2 9] [2]
 .ret)
 .skip))
 (qS [qk 2 0] [2]
 .ret)))⟩)
theorem n108 : F108.n = 10 := rfl
theorem low108 : lowF Tryz.prog (kpO F108) (assoc []) 108 = some F108 := by kernel_rfl
def F120 : FIR := laid (X := ⟨9, [.tmp 2],
 (qS [qB 1 136 0,qz 2 false] [1]
 (qS [qf 3 0 1,ql 4 3,qm 5 4,qu 5 (qf 6 1 1),qu 5 (ql 7 6),qr 8 5 7,qm 2 8] [2]
 .ret))⟩)
theorem n120 : F120.n = 9 := rfl
theorem low120 : lowF Tryz.prog (kpO F120) (assoc []) 120 = some F120 := by kernel_rfl
def F85 : FIR := laid (X := ⟨14, [.tmp 2],
 (qS [qk 2 0] [0]
 (qS [qm 3 0,qn 4 3,qf 5 5 4,ql 6 5,qc 7 .add 6 1,qn 8 3,qf 9 5 8,qs 1 9 7] [0]
 (qS [qm 10 0,qn 11 10,qf 12 5 11,ql 13 12,qm 2 13] [2]
 .ret)))⟩)
theorem n85 : F85.n = 14 := rfl
theorem low85 : lowF Tryz.prog (kpO F85) (assoc []) 85 = some F85 := by kernel_rfl
def F86 : FIR := laid (X := ⟨20, [.tmp 4],
 (qS [qk 4 0] [0,1]
 (qS [qm 5 0,qm 6 0,qn 7 6,qf 8 2 7,ql 9 8,qm 10 1,qo 11 (.bslice 134 1 [(Value.pointer none)] [(0, 1, (.tmp 10))]),
  qo 12 (.append 134 1 8 [(Value.pointer none)] (.tmp 9) (.tmp 11)),qn 13 5,qf 14 2 13,qs 1 14 12] [0]
 (qS [qm 15 0,qn 16 15,qf 17 2 16,ql 18 17,qL 19 18,qm 4 19] [4]
 .ret)))⟩)
theorem n86 : F86.n = 20 := rfl
theorem low86 : lowF Tryz.prog (kpO F86) (assoc []) 86 = some F86 := by kernel_rfl
def F83 : FIR := laid (X := ⟨24, [.tmp 2],
 (qS [qk 2 0] [0,2]
 (.seq (qS [qm 5 0,qn 6 5,qf 7 2 6,ql 8 7,qL 9 8,qk 10 0] [2,8,9,10]
 (.block 0 (.loop (qS [qb 11 .lss 10 9] [2,8,9,10,11]
 (.seq (qC 11 .skip
 (.exit 0))
 (.seq (.block 1 (qS [qi 12 1 8 10,ql 13 12,qm 4 13] [2,4,8,9,10]
 (qS [qm 14 4,qn 15 14,qf 16 0 15,qN 17 2 16,qx 18 120 [17],qo 19 (.un .not (.tmp 18))] [2,8,9,10,19]
 (qC 19 (.reg [qm 20 2,qc 21 .add 20 1,qm 2 21] [2,8,9,10])
 .skip))))
 (.reg [qc 22 .add 10 1,qm 10 22] [2,8,9,10])))))))
 (qS [qm 23 2,qm 2 23] [2]
 .ret)))⟩)
theorem n83 : F83.n = 24 := rfl
theorem low83 : lowF Tryz.prog (kpO F83) (assoc []) 83 = some F83 := by kernel_rfl
def F103 : FIR := laid (X := ⟨39, [.tmp 4, .tmp 5],
 (qS [qo 4 (.mv (.const (Value.pointer none))),qk 5 0] [0,1]
 (.seq (qS [qm 6 1,qc 7 .lss 6 1,qm 8 7,qu 8 (qm 9 1),qu 8 (qm 10 0),qu 8 (qn 11 10),qu 8 (qf 12 2 11),qu 8 (ql 13 12),qu 8 (qL 14 13),
  qu 8 (qb 15 .gtr 9 14),qr 16 8 15,qm 17 16,qu 17 (qm 18 0),qu 17 (qn 19 18),qu 17 (qf 20 2 19),qu 17 (ql 21 20),qu 17 (qm 22 1),qu 17 (qc 23 .sub 22 1),
  qu 17 (qi 24 1 21 23),qu 17 (ql 25 24),qu 17 (qn 26 25),qu 17 (qf 27 0 26),qu 17 (qf 28 0 27),qu 17 (ql 29 28),qr 30 17 29] [0,1,30]
 (qC 30 (qS [qo 4 (.mv (.const (Value.pointer none))),qk 5 30] [4,5]
 .ret)
 .skip))
 (qS [qm 31 0,qn 32 31,qf 33 2 32,ql 34 33,qm 35 1,qc 36 .sub 35 1,qi 37 1 34 36,ql 38 37,qm 4 38,qk 5 0] [4,5]
 .ret)))⟩)
theorem n103 : F103.n = 39 := rfl
theorem low103 : lowF Tryz.prog (kpO F103) (assoc []) 103 = some F103 := by kernel_rfl
def F88 : FIR := laid (X := ⟨35, [.tmp 6, .tmp 7],
 (qS [qo 6 (.mv (.const (Value.pointer none))),qk 7 0] [0,1,2]
 (qS [qm 11 0,qm 12 1,qx 13 103 [11,12],qm 10 13,qe 14 10 0,qe 15 10 1,qm 8 14,qm 9 15] [2,8,9]
 (.seq (.block 0 (qS [qm 17 9,qc 18 .neq 17 0,qm 16 18] [2,8,9,16]
 (qC 16 (qS [qm 19 9,qo 6 (.mv (.const (Value.pointer none))),qm 7 19] [6,7]
 .ret)
 (qS [qm 21 8,qn 22 21,qf 23 2 22,ql 24 23,qo 25 (.eqnil false .ptr (.tmp 24)),qm 26 2,qo 27 (.eqb true (.tmp 25) (.tmp 26)),qm 20 27] [8,20]
 (qC 20 (qS [qo 6 (.mv (.const (Value.pointer none))),qk 7 30] [6,7]
 .ret)
 (qS [qm 29 8,qn 30 29,qf 31 0 30,qf 32 1 31,ql 33 32,qm 28 33] [8,28]
 (qC 28 (qS [qo 6 (.mv (.const (Value.pointer none))),qk 7 31] [6,7]
 .ret)
 .skip)))))))
 (qS [qm 34 8,qm 6 34,qk 7 0] [6,7]
 .ret))))⟩)
theorem n88 : F88.n = 35 := rfl
theorem low88 : lowF Tryz.prog (kpO F88) (assoc []) 88 = some F88 := by kernel_rfl
def F121 : FIR := laid (X := ⟨41, [.cellN 2 3, .tmp 3],
 (qS [qo 2 (.alloc 70 [(Value.int IntKind.u8 0), (Value.int IntKind.i64 0), (Value.string ⟨#[]⟩)]),qz 3 false] [0,2]
 (.seq (qS [qm 4 0,qn 5 4,qf 6 6 5,ql 7 6] [0,2,7]
 (qC 7 (qS [qN 8 3 2,qs 3 2 8,qz 3 false] [2,3]
 .ret)
 .skip))
 (.seq (qS [qm 9 0,qn 10 9,qf 11 0 10,ql 12 11,qL 13 12,qc 14 .gtr 13 0] [0,2,14]
 (qC 14 (qD [qm 15 0,qm 16 0,qn 17 16,qf 18 0 17,ql 19 18,qo 20 (.idxL 3 (.tmp 19) (.const (Value.int IntKind.i64 0))),qN 21 3 20,qm 22 0,
  qn 23 22,qf 24 0 23,ql 25 24,qo 26 (.slcL 3 (.tmp 25) (some (.const (Value.int IntKind.i64 1))) none none),qs 3 2 21,qn 27 15,qf 28 0 27,qs 1 28 26] [[0,1,2,3,4,5,6,7,8,9,10,11,12,13,14,15], [0,1,2,3,4,5,6,7,8,9,12,10,11,13,14,15]] [0,2])
 .skip))
 (qS [qm 29 0,qf 30 0 2,ql 31 30,qo 32 (.bin .eql (.tmp 31) (.const (Value.int IntKind.u8 5))),qn 33 29,qf 34 6 33,qs 1 34 32] [0,2]
 (.seq (qD [qN 35 3 2,qm 36 0,qn 37 36,qf 38 6 37,ql 39 38,qo 40 (.un .not (.tmp 39)),qs 3 2 35,qm 3 40] [[0,1,2,3,4,5,6,7], [0,1,2,3,6,4,5,7]] [2,3])
 .ret)))))⟩)
theorem n121 : F121.n = 41 := rfl
theorem low121 : lowF Tryz.prog (kpO F121) (assoc [(4,[[0,1,2,3,4,5,6,7,8,9,10,11,12,13,14,15], [0,1,2,3,4,5,6,7,8,9,12,10,11,13,14,15]]), (6,[[0,1,2,3,4,5,6,7], [0,1,2,3,6,4,5,7]])]) 121 = some F121 := by kernel_rfl
def F90 : FIR := laid (X := ⟨42, [.cellN 6 6, .tmp 7],
 (qS [qB 4 74 1,
  qo 6 (.alloc 74 [(Value.int IntKind.u8 0), (Value.int IntKind.i64 0), (Value.string ⟨#[]⟩), (Value.string ⟨#[]⟩), (Value.int IntKind.i64 0), (Value.int IntKind.i64 0)]),
  qk 7 0] [0,2,4,6]
 (qS [qm 13 0,qx 14 121 [13],qm 12 14,qe 15 12 0,qe 16 12 1,
  qo 8 (.alloc 70 [(Value.int IntKind.u8 0), (Value.int IntKind.i64 0), (Value.string ⟨#[]⟩)]),qs 3 8 15,qm 9 16] [0,2,4,6,8,9]
 (.seq (qS [qm 17 9,qo 18 (.un .not (.tmp 17))] [0,2,4,6,8,18]
 (qC 18 (qS [qo 19 (.build [(Value.int IntKind.u8 0), (Value.int IntKind.i64 0), (Value.string ⟨#[]⟩), (Value.string ⟨#[]⟩), (Value.int IntKind.i64 0), (Value.int IntKind.i64 0)] []),
  qs 6 6 19,qk 7 36] [6,7]
 .ret)
 .skip))
 (qS [qN 20 6 4,
  qo 10 (.alloc 74 [(Value.int IntKind.u8 0), (Value.int IntKind.i64 0), (Value.string ⟨#[]⟩), (Value.string ⟨#[]⟩), (Value.int IntKind.i64 0), (Value.int IntKind.i64 0)]),
  qs 6 10 20] [0,2,4,6,8,10]
 (.seq (qS [qm 21 2,qN 22 3 8,qo 23 (.callv (.tmp 21) [(.tmp 22), (.tmp 10)]),qm 11 23] [0,4,6,10,11]
 (qS [qm 24 11,qc 25 .neq 24 0] [0,4,6,10,11,25]
 (qC 25 (qS [qN 26 6 4,qs 6 10 26] [0,6,10,11]
 (.reg [qm 27 11,qf 28 5 10,qs 1 28 27] [0,6,10]))
 .skip)))
 (.seq (qD [qm 29 0,qm 30 0,qn 31 30,qf 32 3 31,ql 33 32,qN 34 6 10,
  qo 35 (.bslice 74 1 [(Value.int IntKind.u8 0), (Value.int IntKind.i64 0), (Value.string ⟨#[]⟩), (Value.string ⟨#[]⟩), (Value.int IntKind.i64 0), (Value.int IntKind.i64 0)] [(0, 6, (.tmp 34))]),
  qo 36 (.append 74 6 64 [(Value.int IntKind.u8 0), (Value.int IntKind.i64 0), (Value.string ⟨#[]⟩), (Value.string ⟨#[]⟩), (Value.int IntKind.i64 0), (Value.int IntKind.i64 0)] (.tmp 33) (.tmp 35)),
  qn 37 29,qf 38 3 37,qs 1 38 36] [[0,1,2,3,4,5,6,7,8,9,10]] [6,10])
 (.seq (qD [qN 39 6 10,qf 40 5 10,ql 41 40,qs 6 6 39,qm 7 41] [[0,1,2,3,4], [0,1,3,2,4]] [6,7])
 .ret)))))))⟩)
theorem n90 : F90.n = 42 := rfl
theorem low90 : lowF Tryz.prog (kpO F90) (assoc [(9,[[0,1,2,3,4,5,6,7,8,9,10]]), (10,[[0,1,2,3,4], [0,1,3,2,4]])]) 90 = some F90 := by kernel_rfl
def F81 : FIR := laid (X := ⟨14, [.cellN 6 6, .tmp 7],
 (qS [qB 4 74 1,qB 5 141 2,
  qo 6 (.alloc 74 [(Value.int IntKind.u8 0), (Value.int IntKind.i64 0), (Value.string ⟨#[]⟩), (Value.string ⟨#[]⟩), (Value.int IntKind.i64 0), (Value.int IntKind.i64 0)]),
  qk 7 0] [0,4,5,6]
 (qS [qm 8 0,qN 9 6 4,qo 10 (.clos (.func 119) [] [(.tmp 5)]),qx 11 90 [8,9,10],qe 12 11 0,qe 13 11 1,qs 6 6 12,qm 7 13] [6,7]
 .ret))⟩)
theorem n81 : F81.n = 14 := rfl
theorem low81 : lowF Tryz.prog (kpO F81) (assoc []) 81 = some F81 := by kernel_rfl
def F119 : FIR := laid (X := ⟨19, [.tmp 5],
 (qS [qB 3 70 0,qk 5 0] [1,2,3]
 (.seq (qS [qf 7 0 3,ql 8 7,qo 9 (.bin .eql (.tmp 8) (.const (Value.int IntKind.u8 4)))] [1,2,3,9]
 (qC 9 (qS [qf 10 1 3,ql 11 10,qx 12 108 [11],qm 6 12] [1,2,6]
 (qS [qm 13 6,qc 14 .neq 13 0] [1,2,6,14]
 (qC 14 (qS [qm 15 6,qm 5 15] [5]
 .ret)
 .skip)))
 .skip))
 (qS [ql 16 2,qm 17 1,qo 18 (.callv (.tmp 16) [(.tmp 17)]),qm 5 18] [5]
 .ret)))⟩)
theorem n119 : F119.n = 19 := rfl
theorem low119 : lowF Tryz.prog (kpO F119) (assoc []) 119 = some F119 := by kernel_rfl
def F64 : FIR := laid (X := ⟨30, [.tmp 4],
 (qS [qB 2 107 0,qo 4 (.mv (.const (Value.slice none 0 0)))] [1,2]
 (.seq (qS [qf 6 3 2,ql 7 6] [1,2,7]
 (qC 7 (qS [qo 4 (.mv (.const (Value.slice none 0 0)))] [4]
 .ret)
 .skip))
 (.seq (qS [qf 8 1 2,ql 9 8,qf 10 2 2,ql 11 10,qo 12 (.lenS (.tmp 11)),qb 13 .add 9 12,qm 14 1,qL 15 14,qb 16 .sub 13 15,qm 5 16] [1,2,5]
 (qS [qm 17 5,qc 18 .gtr 17 0] [1,2,5,18]
 (qC 18 (.reg [qm 19 1,qm 20 5,qo 21 (.grow 5 1 1 [(Value.int IntKind.u8 0)] (.tmp 19) (.tmp 20)),qm 1 21] [1,2])
 .skip)))
 (.seq (qD [qm 22 1,qf 23 1 2,ql 24 23,qo 25 (.slcL 1 (.tmp 22) (some (.tmp 24)) none none),qf 26 2 2,ql 27 26,
  qo 28 (.copy 1 (.tmp 25) (.tmp 27))] [[0,1,2,3,4,5,6]] [1])
 (qS [qm 29 1,qm 4 29] [4]
 .ret)))))⟩)
theorem n64 : F64.n = 30 := rfl
theorem low64 : lowF Tryz.prog (kpO F64) (assoc [(6,[[0,1,2,3,4,5,6]])]) 64 = some F64 := by kernel_rfl
def F84 : FIR := laid (X := ⟨23, [],
 (qS [qB 3 107 1] [0,3]
 (.seq (qD [qm 4 0,qN 5 4 3,qm 6 0,qn 7 6,qf 8 0 7,ql 9 8,qx 10 64 [5,9],qn 11 4,qf 12 0 11,qs 1 12 10] [[0,1,2,3,4,5,6,7,8,9]] [0,3])
 (qD [qm 13 0,qm 14 0,qn 15 14,qf 16 2 15,ql 17 16,qN 18 4 3,
  qo 19 (.bslice 107 1 [(Value.int IntKind.i64 0), (Value.int IntKind.i64 0), (Value.string ⟨#[]⟩), (Value.bool false)] [(0, 4, (.tmp 18))]),
  qo 20 (.append 107 4 40 [(Value.int IntKind.i64 0), (Value.int IntKind.i64 0), (Value.string ⟨#[]⟩), (Value.bool false)] (.tmp 17) (.tmp 19)),qn 21 13,
  qf 22 2 21,qs 1 22 20] [[0,1,2,3,4,5,6,7,8,9,10]] [])))⟩)
theorem n84 : F84.n = 23 := rfl
theorem low84 : lowF Tryz.prog (kpO F84) (assoc [(1,[[0,1,2,3,4,5,6,7,8,9]]), (2,[[0,1,2,3,4,5,6,7,8,9,10]])]) 84 = some F84 := by kernel_rfl
def F82 : FIR := laid (X := ⟨90, [.tmp 5],
 (qS [qk 5 0] [0,1,2,3]
 (.seq (qD [ql 10 1,qn 11 10,qf 12 1 11,ql 13 12,ql 14 2,qo 15 (.lookup .str (Value.pointer none) true (.tmp 13) (.tmp 14)),qm 9 15,qe 16 9 0,
  qe 17 9 1,qm 6 16,qm 7 17] [[0,1,2,3,4,5,6,7,8,9,10]] [0,1,2,3,6,7])
 (.seq (.block 0 (qS [ql 19 2,qx 20 26 [19],qo 21 (.un .not (.tmp 20)),qm 18 21] [0,1,2,3,6,7,18]
 (qC 18 (qS [qk 5 35] [5]
 .ret)
 (qS [ql 23 3,qc 24 .lss 23 1,qm 25 24,qu 25 (ql 26 3),qu 25 (qc 27 .gtr 26 3),qr 28 25 27,qm 22 28] [0,1,2,3,6,7,22]
 (qC 22 (qS [qk 5 33] [5]
 .ret)
 (qS [ql 30 3,qc 31 .eql 30 1,qm 32 31,qt 32 (qm 33 7),qt 32 (qo 34 (.un .not (.tmp 33))),qa 35 32 34,qm 29 35] [0,1,2,3,6,7,29]
 (qC 29 (qS [qk 5 32] [5]
 .ret)
 (qS [ql 37 1,qx 38 83 [37],qc 39 .geq 38 32,qm 40 39,qu 40 (qm 41 7),qu 40 (qo 42 (.un .not (.tmp 41))),qu 40 (qm 43 42),qt 43 (ql 44 1),
  qt 43 (qn 45 44),qt 43 (qf 46 1 45),qt 43 (ql 47 46),qt 43 (qo 48 (.mlen (.tmp 47))),qt 43 (qc 49 .geq 48 64),qu 40 (qa 50 43 49),qr 51 40 50,qm 36 51] [0,1,2,3,6,7,36]
 (qC 36 (qS [qk 5 34] [5]
 .ret)
 .skip)))))))))
 (.seq (qS [qm 52 7,qo 53 (.un .not (.tmp 52))] [0,1,2,3,6,53]
 (qC 53 (qS [qo 54 (.build [(Value.slice none 0 0), (Value.slice none 0 0), (Value.slice none 0 0)] []),qB 55 86 54,qm 6 55] [0,1,2,3,6]
 (qD [ql 56 1,qn 57 56,qf 58 1 57,ql 59 58,ql 60 2,qm 61 6,⟨none,none,.mapupd .str (.tmp 59) (.tmp 60) (.tmp 61)⟩] [[0,1,2,3,4,5,6]] [0,1,3,6]))
 .skip))
 (qS [qm 62 6,ql 63 3,
  qo 64 (.build [(Value.bool false), (Value.bool false), (Value.pointer none), (Value.int IntKind.i64 0), (Value.int IntKind.i64 0)] [(2, 1, (.tmp 62)), (3, 1, (.tmp 63))]),
  qB 65 138 64,qm 8 65] [0,1,3,6,8]
 (.seq (qS [ql 66 3] [0,1,6,8,66]
 (.block 1 (qS [qc 68 .eql 66 2,qm 67 68] [0,1,6,8,66,67]
 (qC 67 (.reg [qm 69 6,ql 70 1,qx 71 85 [70],
  qo 72 (.build [(Value.int IntKind.i64 0), (Value.int IntKind.i64 0), (Value.string ⟨#[]⟩), (Value.bool false)] [(0, 1, (.tmp 71)), (3, 1, (.const (Value.bool true)))]),
  qx 73 84 [69,72]] [0,1,8])
 (qS [qc 75 .eql 66 3,qm 74 75] [0,1,6,8,74]
 (qC 74 (.reg [qm 76 8,qm 77 6,qn 78 77,qf 79 0 78,ql 80 79,qL 81 80,qn 82 76,qf 83 4 82,qs 1 83 81] [0,1,8])
 .skip))))))
 (qS [qm 84 0,ql 85 1,qm 86 8,qx 87 86 [85,86],qn 88 84,qf 89 1 88,qs 1 89 87] []
 (qS [qk 5 0] [5]
 .ret))))))))⟩)
theorem n82 : F82.n = 90 := rfl
theorem low82 : lowF Tryz.prog (kpO F82) (assoc [(1,[[0,1,2,3,4,5,6,7,8,9,10]]), (12,[[0,1,2,3,4,5,6]])]) 82 = some F82 := by kernel_rfl
def F20 : FIR := laid (X := ⟨22, [.tmp 6, .tmp 7],
 (qS [qB 3 29 0,qB 4 9 1,qB 5 3 2,qk 6 0,qk 7 0] [3,4,5]
 (qS [ql 11 3,ql 12 4,ql 13 5,
  qo 14 (.build [(Value.int IntKind.u8 0), (Value.int IntKind.i64 0), (Value.string ⟨#[]⟩), (Value.string ⟨#[]⟩), (Value.int IntKind.i64 0), (Value.int IntKind.i64 0)] [(0, 1, (.const (Value.int IntKind.u8 1))), (2, 1, (.tmp 12)), (4, 1, (.tmp 13))]),
  qo 15 (.clos (.func 82) [] [(.tmp 3), (.tmp 4), (.tmp 5)]),qx 16 81 [11,14,15],qm 10 16,qe 17 10 0,qe 18 10 1,
  qo 8 (.alloc 74 [(Value.int IntKind.u8 0), (Value.int IntKind.i64 0), (Value.string ⟨#[]⟩), (Value.string ⟨#[]⟩), (Value.int IntKind.i64 0), (Value.int IntKind.i64 0)]),
  qs 6 8 17,qm 9 18] [8,9]
 (qS [qf 19 1 8,ql 20 19,qm 21 9,qm 6 20,qm 7 21] [6,7]
 .ret)))⟩)
theorem n20 : F20.n = 22 := rfl
theorem low20 : lowF Tryz.prog (kpO F20) (assoc []) 20 = some F20 := by kernel_rfl
def F89 : FIR := laid (X := ⟨64, [.tmp 5],
 (qS [qk 5 0] [1,2,3]
 (qS [ql 10 1,ql 11 2,qo 12 (.call 88 [(.tmp 10), (.tmp 11), (.const (Value.bool false))]),qm 9 12,qe 13 9 0,qe 14 9 1,qm 6 13,qm 7 14] [1,3,6,7]
 (.seq (.block 0 (qS [qm 16 7,qc 17 .neq 16 0,qm 15 17] [1,3,6,7,15]
 (qC 15 (qS [qm 18 7,qm 5 18] [5]
 .ret)
 (qS [qm 20 6,qn 21 20,qf 22 3 21,ql 23 22,qc 24 .eql 23 1,qm 19 24] [1,3,6,19]
 (qC 19 (qS [qk 5 33] [5]
 .ret)
 .skip)))))
 (qS [qm 25 6,qn 26 25,qf 27 4 26,ql 28 27,qm 8 28] [1,3,6,8]
 (.seq (qS [qm 29 6,qn 30 29,qf 31 3 30,ql 32 31,qc 33 .eql 32 3] [1,3,6,8,33]
 (qC 33 (.reg [qm 34 6,qn 35 34,qf 36 2 35,ql 37 36,qn 38 37,qf 39 0 38,ql 40 39,qL 41 40,qm 8 41] [1,3,6,8])
 .skip))
 (.seq (qS [ql 42 3,qo 43 (.lenS (.tmp 42)),qm 44 8,qo 45 (.bin .sub (.const (Value.int IntKind.i64 4194304)) (.tmp 44)),qb 46 .gtr 43 45] [1,3,6,8,46]
 (qC 46 (qS [qk 5 34] [5]
 .ret)
 .skip))
 (.seq (qD [qm 47 6,qn 48 47,qf 49 2 48,ql 50 49,ql 51 1,qx 52 85 [51],qm 53 8,ql 54 3,
  qo 55 (.build [(Value.int IntKind.i64 0), (Value.int IntKind.i64 0), (Value.string ⟨#[]⟩), (Value.bool false)] [(0, 1, (.tmp 52)), (1, 1, (.tmp 53)), (2, 1, (.tmp 54))]),
  qx 56 84 [50,55]] [[0,1,2,3,4,5,6,7,8,9], [0,1,2,4,5,3,6,7,8,9], [0,1,2,4,5,6,7,3,8,9], [0,1,2,3,4,6,7,5,8,9], [0,1,2,4,6,7,3,5,8,9], [0,1,2,4,6,7,5,3,8,9]] [3,6,8])
 (qS [qm 57 6,qm 58 8,ql 59 3,qo 60 (.lenS (.tmp 59)),qb 61 .add 58 60,qn 62 57,qf 63 4 62,qs 1 63 61] []
 (qS [qk 5 0] [5]
 .ret)))))))))⟩)
theorem n89 : F89.n = 64 := rfl
theorem low89 : lowF Tryz.prog (kpO F89) (assoc [(11,[[0,1,2,3,4,5,6,7,8,9], [0,1,2,4,5,3,6,7,8,9], [0,1,2,4,5,6,7,3,8,9], [0,1,2,3,4,6,7,5,8,9], [0,1,2,4,6,7,3,5,8,9], [0,1,2,4,6,7,5,3,8,9]])]) 89 = some F89 := by kernel_rfl
def F22 : FIR := laid (X := ⟨19, [.tmp 6],
 (qS [qB 3 29 0,qB 4 3 1,qB 5 9 2,qk 6 0] [3,4,5]
 (qS [ql 10 3,ql 11 4,ql 12 5,
  qo 13 (.build [(Value.int IntKind.u8 0), (Value.int IntKind.i64 0), (Value.string ⟨#[]⟩), (Value.string ⟨#[]⟩), (Value.int IntKind.i64 0), (Value.int IntKind.i64 0)] [(0, 1, (.const (Value.int IntKind.u8 3))), (1, 1, (.tmp 11)), (2, 1, (.tmp 12))]),
  qo 14 (.clos (.func 89) [] [(.tmp 3), (.tmp 4), (.tmp 5)]),qx 15 81 [10,13,14],qm 9 15,qe 16 9 0,qe 17 9 1,
  qo 7 (.alloc 74 [(Value.int IntKind.u8 0), (Value.int IntKind.i64 0), (Value.string ⟨#[]⟩), (Value.string ⟨#[]⟩), (Value.int IntKind.i64 0), (Value.int IntKind.i64 0)]),
  qs 6 7 16,qm 8 17] [8]
 (qS [qm 18 8,qm 6 18] [6]
 .ret)))⟩)
theorem n22 : F22.n = 19 := rfl
theorem low22 : lowF Tryz.prog (kpO F22) (assoc []) 22 = some F22 := by kernel_rfl
end Go.Proofs.YtgindbomnbojeaaGreat

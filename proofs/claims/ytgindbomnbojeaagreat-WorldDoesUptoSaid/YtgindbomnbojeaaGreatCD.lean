/-
  The code of functions, as terms: printed by a program, proved to be what the seat has.
-/
import Derived.Test.YtgindbomnbojeaaGreatCB
import Derived.KernelRfl
import Derived.Test.YtgindbomnbojeaaGreatProg
set_option linter.unusedSimpArgs false
set_option linter.unusedVariables false
namespace Go.Proofs.YtgindbomnbojeaaGreat
open Go Go.V
set_option maxRecDepth 100000
def F99 : FIR := laid (X := ⟨18, [.tmp 2],
 (qS [qB 1 70 0,qk 2 0] [1]
 (.seq (qS [qf 3 0 1,ql 4 3,qo 5 (.bin .eql (.tmp 4) (.const (Value.int IntKind.u8 4))),qm 6 5,qt 6 (qf 7 1 1),qt 6 (ql 8 7),
  qt 6 (qc 9 .geq 8 30),qa 10 6 9,qm 11 10,qt 11 (qf 12 1 1),qt 11 (ql 13 12),qt 11 (qc 14 .leq 13 35),qa 15 11 14] [1,15]
 (qC 15 (qS [qf 16 1 1,ql 17 16,qm 2 17] [2]
 .ret)
 .skip))
 (qS [qk 2 0] [2]
 .ret)))⟩)
theorem n99 : F99.n = 18 := rfl
theorem low99 : lowF Tryz.prog (kpO F99) (assoc []) 99 = some F99 := by kernel_rfl
def F93 : FIR := laid (X := ⟨39, [.cellN 2 3, .tmp 3],
 (qS [qo 2 (.alloc 70 [(Value.int IntKind.u8 0), (Value.int IntKind.i64 0), (Value.string ⟨#[]⟩)]),qz 3 false] [0,2]
 (.seq (qS [qm 5 0,qn 6 5,qf 7 6 6,ql 8 7] [0,2,8]
 (qC 8 (qS [qo 9 (.build [(Value.int IntKind.u8 0), (Value.int IntKind.i64 0), (Value.string ⟨#[]⟩)] []),qs 3 2 9,qz 3 false] [2,3]
 .ret)
 .skip))
 (.seq (qS [qm 10 0,qn 11 10,qf 12 0 11,ql 13 12,qL 14 13,qc 15 .eql 14 0] [0,2,15]
 (qC 15 (qS [qo 16 (.build [(Value.int IntKind.u8 0), (Value.int IntKind.i64 0), (Value.string ⟨#[]⟩)] []),qs 3 2 16,qz 3 true] [2,3]
 .ret)
 .skip))
 (qS [qm 17 0,qn 18 17,qf 19 0 18,ql 20 19,qo 21 (.idxL 3 (.tmp 20) (.const (Value.int IntKind.i64 0))),qN 22 3 21,
  qo 4 (.alloc 70 [(Value.int IntKind.u8 0), (Value.int IntKind.i64 0), (Value.string ⟨#[]⟩)]),qs 3 4 22] [0,2,4]
 (qS [qm 23 0,qm 24 0,qn 25 24,qf 26 0 25,ql 27 26,qo 28 (.slcL 3 (.tmp 27) (some (.const (Value.int IntKind.i64 1))) none none),qn 29 23,
  qf 30 0 29,qs 1 30 28] [0,2,4]
 (.seq (qS [qf 31 0 4,ql 32 31,qo 33 (.bin .eql (.tmp 32) (.const (Value.int IntKind.u8 5)))] [0,2,4,33]
 (qC 33 (qS [qm 34 0,qn 35 34,qf 36 6 35,⟨none,none,.store 1 (.tmp 36) (.const (Value.bool true))⟩] [2]
 (qS [qo 37 (.build [(Value.int IntKind.u8 0), (Value.int IntKind.i64 0), (Value.string ⟨#[]⟩)] []),qs 3 2 37,qz 3 false] [2,3]
 .ret))
 .skip))
 (qS [qN 38 3 4,qs 3 2 38,qz 3 true] [2,3]
 .ret)))))))⟩)
theorem n93 : F93.n = 39 := rfl
theorem low93 : lowF Tryz.prog (kpO F93) (assoc []) 93 = some F93 := by kernel_rfl
def F95 : FIR := laid (X := ⟨14, [],
 (qS [qB 3 74 1] [0,3]
 (qD [qm 4 0,qm 5 0,qn 6 5,qf 7 4 6,ql 8 7,qN 9 6 3,
  qo 10 (.bslice 74 1 [(Value.int IntKind.u8 0), (Value.int IntKind.i64 0), (Value.string ⟨#[]⟩), (Value.string ⟨#[]⟩), (Value.int IntKind.i64 0), (Value.int IntKind.i64 0)] [(0, 6, (.tmp 9))]),
  qo 11 (.append 74 6 64 [(Value.int IntKind.u8 0), (Value.int IntKind.i64 0), (Value.string ⟨#[]⟩), (Value.string ⟨#[]⟩), (Value.int IntKind.i64 0), (Value.int IntKind.i64 0)] (.tmp 8) (.tmp 10)),
  qn 12 4,qf 13 4 12,qs 1 13 11] [[0,1,2,3,4,5,6,7,8,9,10]] []))⟩)
theorem n95 : F95.n = 14 := rfl
theorem low95 : lowF Tryz.prog (kpO F95) (assoc [(1,[[0,1,2,3,4,5,6,7,8,9,10]])]) 95 = some F95 := by kernel_rfl
def F109 : FIR := laid (X := ⟨37, [.tmp 2],
 (qS [qk 2 0] [0]
 (qS [qk 3 0] [0,3]
 (.seq (qS [qk 4 0] [0,3,4]
 (.block 0 (.loop (.seq (qS [qm 5 4,qm 6 0,qn 7 6,qf 8 3 7,ql 9 8,qL 10 9,qb 11 .lss 5 10] [0,3,4,11]
 (qC 11 .skip
 (.exit 0)))
 (.seq (.block 1 (qS [qm 14 0,qn 15 14,qf 16 3 15,ql 17 16,qm 18 4,qi 19 6 17 18,qf 20 4 19,ql 21 20,qo 22 (.un .not (.tmp 21)),qm 23 22,qt 23 (qm 24 0),
  qt 23 (qn 25 24),qt 23 (qf 26 3 25),qt 23 (ql 27 26),qt 23 (qm 28 4),qt 23 (qi 29 6 27 28),qt 23 (qf 30 5 29),qt 23 (ql 31 30),
  qt 23 (qo 32 (.un .not (.tmp 31))),qa 33 23 32] [0,3,4,33]
 (qC 33 (.reg [qm 34 3,qc 35 .add 34 1,qm 3 35] [0,3,4])
 .skip)))
 (.reg [qm 12 4,qc 13 .add 12 1,qm 4 13] [0,3,4]))))))
 (qS [qm 36 3,qm 2 36] [2]
 .ret))))⟩)
theorem n109 : F109.n = 37 := rfl
theorem low109 : lowF Tryz.prog (kpO F109) (assoc []) 109 = some F109 := by kernel_rfl
def F122 : FIR := laid (X := ⟨26, [.tmp 2],
 (qS [qk 2 0] [0]
 (qS [qk 3 0] [0,3]
 (.seq (qS [qk 4 0] [0,3,4]
 (.block 0 (.loop (.seq (qS [qm 5 4,qm 6 0,qn 7 6,qf 8 1 7,ql 9 8,qL 10 9,qb 11 .lss 5 10] [0,3,4,11]
 (qC 11 .skip
 (.exit 0)))
 (.seq (.block 1 (qS [qm 14 0,qn 15 14,qf 16 1 15,ql 17 16,qm 18 4,qi 19 3 17 18,qf 20 0 19,ql 21 20,
  qo 22 (.bin .neq (.tmp 21) (.const (Value.string ⟨#[]⟩)))] [0,3,4,22]
 (qC 22 (.reg [qm 23 3,qc 24 .add 23 1,qm 3 24] [0,3,4])
 .skip)))
 (.reg [qm 12 4,qc 13 .add 12 1,qm 4 13] [0,3,4]))))))
 (qS [qm 25 3,qm 2 25] [2]
 .ret))))⟩)
theorem n122 : F122.n = 26 := rfl
theorem low122 : lowF Tryz.prog (kpO F122) (assoc []) 122 = some F122 := by kernel_rfl
def F31 : FIR := laid (X := ⟨30, [.tmp 4],
 (qS [qk 4 0] [0,1]
 (.seq (qS [qk 5 0] [0,1,5]
 (.block 0 (.loop (.seq (qS [qm 6 5,qm 7 0,qn 8 7,qf 9 1 8,ql 10 9,qL 11 10,qb 12 .lss 6 11] [0,1,5,12]
 (qC 12 .skip
 (.exit 0)))
 (.seq (.block 1 (qS [qm 15 0,qn 16 15,qf 17 1 16,ql 18 17,qm 19 5,qi 20 3 18 19,qf 21 0 20,ql 22 21,qm 23 1,qb 24 .eql 22 23,qm 25 24,qt 25 (qm 26 1),
  qt 25 (qo 27 (.bin .neq (.tmp 26) (.const (Value.string ⟨#[]⟩)))),qa 28 25 27] [0,1,5,28]
 (qC 28 (qS [qm 29 5,qm 4 29] [4]
 .ret)
 .skip)))
 (.reg [qm 13 5,qc 14 .add 13 1,qm 5 14] [0,1,5]))))))
 (qS [qk 4 (-1)] [4]
 .ret)))⟩)
theorem n31 : F31.n = 30 := rfl
theorem low31 : lowF Tryz.prog (kpO F31) (assoc []) 31 = some F31 := by kernel_rfl
def F65 : FIR := laid (X := ⟨41, [.tmp 4],
 (qS [qB 3 113 1,qo 4 (.mv (.const (Value.string ⟨#[]⟩)))] [0,3]
 (.seq (qS [qf 6 3 3,ql 7 6] [0,3,7]
 (qC 7 (qS [qo 4 (.mv (.const (Value.string ⟨#[]⟩)))] [4]
 .ret)
 .skip))
 (.seq (.block 0 (.loop (.seq (qS [qm 8 0,qo 9 (.lenS (.tmp 8)),qf 10 1 3,ql 11 10,qb 12 .lss 9 11] [0,3,12]
 (qC 12 .skip
 (.exit 0)))
 (.block 1 (.reg [qm 13 0,qo 14 (.bin .add (.tmp 13) (.const (Value.string ⟨#[0]⟩))),qm 0 14] [0,3])))))
 (qS [qo 5 (.mv (.const (Value.string ⟨#[]⟩)))] [0,3,5]
 (.seq (qS [qm 15 0,qo 16 (.lenS (.tmp 15)),qf 17 1 3,ql 18 17,qf 19 2 3,ql 20 19,qo 21 (.lenS (.tmp 20)),qb 22 .add 18 21,qb 23 .gtr 16 22] [0,3,5,23]
 (qC 23 (.reg [qm 24 0,qf 25 1 3,ql 26 25,qf 27 2 3,ql 28 27,qo 29 (.lenS (.tmp 28)),qb 30 .add 26 29,
  qo 31 (.slcS (.tmp 24) (some (.tmp 30)) none),qm 5 31] [0,3,5])
 .skip))
 (.seq (qD [qm 32 0,qf 33 1 3,ql 34 33,qo 35 (.slcS (.tmp 32) none (some (.tmp 34))),qf 36 2 3,ql 37 36,qb 38 .add 35 37,qm 39 5,
  qb 40 .add 38 39,qm 4 40] [[0,1,2,3,4,5,6,7,8,9]] [4])
 .ret))))))⟩)
theorem n65 : F65.n = 41 := rfl
theorem low65 : lowF Tryz.prog (kpO F65) (assoc [(8,[[0,1,2,3,4,5,6,7,8,9]])]) 65 = some F65 := by kernel_rfl
def F100 : FIR := laid (X := ⟨51, [.tmp 6],
 (qS [qk 6 0] [0,1,2]
 (.seq (qS [qm 7 1,qc 8 .lss 7 1,qm 9 8,qu 9 (qm 10 1),qu 9 (qm 11 0),qu 9 (qn 12 11),qu 9 (qf 13 3 12),qu 9 (ql 14 13),qu 9 (qL 15 14),
  qu 9 (qb 16 .gtr 10 15),qr 17 9 16,qm 18 17,qu 18 (qm 19 0),qu 18 (qn 20 19),qu 18 (qf 21 3 20),qu 18 (ql 22 21),qu 18 (qm 23 1),
  qu 18 (qc 24 .sub 23 1),qu 18 (qi 25 6 22 24),qu 18 (qf 26 4 25),qu 18 (ql 27 26),qr 28 18 27,qm 29 28,qu 29 (qm 30 0),qu 29 (qn 31 30),
  qu 29 (qf 32 3 31),qu 29 (ql 33 32),qu 29 (qm 34 1),qu 29 (qc 35 .sub 34 1),qu 29 (qi 36 6 33 35),qu 29 (qf 37 1 36),qu 29 (ql 38 37),qu 29 (qm 39 2),
  qu 29 (qo 40 (.eqb true (.tmp 38) (.tmp 39))),qr 41 29 40] [0,1,41]
 (qC 41 (qS [qk 6 30] [6]
 .ret)
 .skip))
 (.seq (qS [qm 42 0,qn 43 42,qf 44 3 43,ql 45 44,qm 46 1,qc 47 .sub 46 1,qi 48 6 45 47,qf 49 5 48,ql 50 49] [50]
 (qC 50 (qS [qk 6 31] [6]
 .ret)
 .skip))
 (qS [qk 6 0] [6]
 .ret))))⟩)
theorem n100 : F100.n = 51 := rfl
theorem low100 : lowF Tryz.prog (kpO F100) (assoc []) 100 = some F100 := by kernel_rfl
def F61 : FIR := laid (X := ⟨34, [.tmp 4, .tmp 5],
 (qS [qk 4 0,qk 5 0] [0,1]
 (.seq (qS [qm 7 0,qn 8 7,qf 9 6 8,ql 10 9] [0,1,10]
 (qC 10 (qS [qk 4 0,qk 5 36] [4,5]
 .ret)
 .skip))
 (qS [qm 11 0,qm 12 1,qo 13 (.call 100 [(.tmp 11), (.tmp 12), (.const (Value.bool false))]),qm 6 13] [0,1,6]
 (.seq (qS [qm 14 6,qc 15 .neq 14 0] [0,1,6,15]
 (qC 15 (qS [qm 16 6,qk 4 0,qm 5 16] [4,5]
 .ret)
 .skip))
 (.seq (qD [qm 17 0,qn 18 17,qf 19 1 18,ql 20 19,qm 21 0,qn 22 21,qf 23 3 22,ql 24 23,qm 25 1,qc 26 .sub 25 1,qi 27 6 24 26,qf 28 0 27,ql 29 28,
  qi 30 3 20 29,qf 31 1 30,ql 32 31,qo 33 (.lenS (.tmp 32)),qm 4 33,qk 5 0] [[0,1,2,3,4,5,6,7,8,9,10,11,12,13,14,15,16,17,18]] [4,5])
 .ret)))))⟩)
theorem n61 : F61.n = 34 := rfl
theorem low61 : lowF Tryz.prog (kpO F61) (assoc [(6,[[0,1,2,3,4,5,6,7,8,9,10,11,12,13,14,15,16,17,18]])]) 61 = some F61 := by kernel_rfl
def F57 : FIR := laid (X := ⟨43, [.tmp 2, .tmp 3],
 (qS [qk 2 0,qz 3 false] [0]
 (.seq (qS [qm 5 0,qn 6 5,qf 7 6 6,ql 8 7,qm 9 8,qu 9 (qm 10 0),qu 9 (qn 11 10),qu 9 (qf 12 0 11),qu 9 (ql 13 12),qu 9 (qL 14 13),
  qu 9 (qc 15 .eql 14 0),qr 16 9 15,qm 17 16,qu 17 (qm 18 0),qu 17 (qn 19 18),qu 17 (qf 20 0 19),qu 17 (ql 21 20),
  qu 17 (qo 22 (.idxL 3 (.tmp 21) (.const (Value.int IntKind.i64 0)))),qu 17 (qf 23 0 22),qu 17 (ql 24 23),
  qu 17 (qo 25 (.bin .neq (.tmp 24) (.const (Value.int IntKind.u8 6)))),qr 26 17 25] [0,26]
 (qC 26 (qS [qk 2 0,qz 3 false] [2,3]
 .ret)
 .skip))
 (qS [qm 27 0,qn 28 27,qf 29 0 28,ql 30 29,qo 31 (.idxL 3 (.tmp 30) (.const (Value.int IntKind.i64 0))),qf 32 1 31,ql 33 32,qm 4 33] [0,4]
 (qS [qm 34 0,qm 35 0,qn 36 35,qf 37 0 36,ql 38 37,qo 39 (.slcL 3 (.tmp 38) (some (.const (Value.int IntKind.i64 1))) none none),qn 40 34,
  qf 41 0 40,qs 1 41 39] [4]
 (qS [qm 42 4,qm 2 42,qz 3 true] [2,3]
 .ret)))))⟩)
theorem n57 : F57.n = 43 := rfl
theorem low57 : lowF Tryz.prog (kpO F57) (assoc []) 57 = some F57 := by kernel_rfl
def F59 : FIR := laid (X := ⟨28, [],
 (qS [qk 2 0] [0,2]
 (.block 0 (.loop (.seq (qS [qm 3 2,qm 4 0,qn 5 4,qf 6 3 5,ql 7 6,qL 8 7,qb 9 .lss 3 8] [0,2,9]
 (qC 9 .skip
 (.exit 0)))
 (.seq (.block 1 (qS [qm 12 0,qn 13 12,qf 14 3 13,ql 15 14,qm 16 2,qi 17 6 15 16,qf 18 4 17,ql 19 18,qo 20 (.un .not (.tmp 19))] [0,2,20]
 (qC 20 (.reg [qm 21 0,qn 22 21,qf 23 3 22,ql 24 23,qm 25 2,qi 26 6 24 25,qf 27 5 26,⟨none,none,.store 1 (.tmp 27) (.const (Value.bool true))⟩] [0,2])
 .skip)))
 (.reg [qm 10 2,qc 11 .add 10 1,qm 2 11] [0,2]))))))⟩)
theorem n59 : F59.n = 28 := rfl
theorem low59 : lowF Tryz.prog (kpO F59) (assoc []) 59 = some F59 := by kernel_rfl
def F53 : FIR := laid (X := ⟨18, [.tmp 4],
 (qS [qk 4 0] [0,1]
 (qS [qm 8 0,qx 9 93 [8],qm 7 9,qe 10 7 0,qe 11 7 1,
  qo 5 (.alloc 70 [(Value.int IntKind.u8 0), (Value.int IntKind.i64 0), (Value.string ⟨#[]⟩)]),qs 3 5 10,qm 6 11] [0,1,6]
 (.seq (qS [qm 12 6,qo 13 (.un .not (.tmp 12))] [0,1,13]
 (qC 13 (qS [qk 4 36] [4]
 .ret)
 .skip))
 (qS [qm 14 0,qm 15 1,
  qo 16 (.build [(Value.int IntKind.u8 0), (Value.int IntKind.i64 0), (Value.string ⟨#[]⟩), (Value.string ⟨#[]⟩), (Value.int IntKind.i64 0), (Value.int IntKind.i64 0)] [(0, 1, (.const (Value.int IntKind.u8 13))), (2, 1, (.tmp 15))]),
  qx 17 95 [14,16]] []
 (qS [qk 4 0] [4]
 .ret)))))⟩)
theorem n53 : F53.n = 18 := rfl
theorem low53 : lowF Tryz.prog (kpO F53) (assoc []) 53 = some F53 := by kernel_rfl
def F55 : FIR := laid (X := ⟨18, [.tmp 4],
 (qS [qk 4 0] [0,1]
 (qS [qm 8 0,qx 9 93 [8],qm 7 9,qe 10 7 0,qe 11 7 1,
  qo 5 (.alloc 70 [(Value.int IntKind.u8 0), (Value.int IntKind.i64 0), (Value.string ⟨#[]⟩)]),qs 3 5 10,qm 6 11] [0,1,6]
 (.seq (qS [qm 12 6,qo 13 (.un .not (.tmp 12))] [0,1,13]
 (qC 13 (qS [qk 4 36] [4]
 .ret)
 .skip))
 (qS [qm 14 0,qm 15 1,
  qo 16 (.build [(Value.int IntKind.u8 0), (Value.int IntKind.i64 0), (Value.string ⟨#[]⟩), (Value.string ⟨#[]⟩), (Value.int IntKind.i64 0), (Value.int IntKind.i64 0)] [(0, 1, (.const (Value.int IntKind.u8 14))), (4, 1, (.tmp 15))]),
  qx 17 95 [14,16]] []
 (qS [qk 4 0] [4]
 .ret)))))⟩)
theorem n55 : F55.n = 18 := rfl
theorem low55 : lowF Tryz.prog (kpO F55) (assoc []) 55 = some F55 := by kernel_rfl
def F50 : FIR := laid (X := ⟨27, [.tmp 6],
 (qS [qk 6 0] [0,1,2]
 (qS [qm 11 0,qx 12 93 [11],qm 10 12,qe 13 10 0,qe 14 10 1,
  qo 7 (.alloc 70 [(Value.int IntKind.u8 0), (Value.int IntKind.i64 0), (Value.string ⟨#[]⟩)]),qs 3 7 13,qm 8 14] [0,1,2,8]
 (.seq (qS [qm 15 8,qo 16 (.un .not (.tmp 15))] [0,1,2,16]
 (qC 16 (qS [qk 6 36] [6]
 .ret)
 .skip))
 (qS [qm 17 0,qm 18 1,qo 19 (.call 100 [(.tmp 17), (.tmp 18), (.const (Value.bool true))]),qm 9 19] [0,1,2,9]
 (qS [qm 20 0,qm 21 1,qm 22 2,qm 23 9,
  qo 24 (.build [(Value.int IntKind.u8 0), (Value.int IntKind.i64 0), (Value.string ⟨#[]⟩), (Value.string ⟨#[]⟩), (Value.int IntKind.i64 0), (Value.int IntKind.i64 0)] [(0, 1, (.const (Value.int IntKind.u8 11))), (1, 1, (.tmp 21)), (2, 1, (.tmp 22)), (5, 1, (.tmp 23))]),
  qx 25 95 [20,24]] [9]
 (qS [qm 26 9,qm 6 26] [6]
 .ret))))))⟩)
theorem n50 : F50.n = 27 := rfl
theorem low50 : lowF Tryz.prog (kpO F50) (assoc []) 50 = some F50 := by kernel_rfl
def F52 : FIR := laid (X := ⟨62, [.tmp 6, .tmp 7],
 (qS [qo 6 (.mv (.const (Value.string ⟨#[]⟩))),qk 7 0] [0,1,2]
 (qS [qm 13 0,qx 14 93 [13],qm 12 14,qe 15 12 0,qe 16 12 1,
  qo 8 (.alloc 70 [(Value.int IntKind.u8 0), (Value.int IntKind.i64 0), (Value.string ⟨#[]⟩)]),qs 3 8 15,qm 9 16] [0,1,2,8,9]
 (.seq (qS [qm 17 9,qo 18 (.un .not (.tmp 17))] [0,1,2,8,18]
 (qC 18 (qS [qo 6 (.mv (.const (Value.string ⟨#[]⟩))),qk 7 36] [6,7]
 .ret)
 .skip))
 (qS [qm 19 0,qm 20 1,qo 21 (.call 100 [(.tmp 19), (.tmp 20), (.const (Value.bool true))]),qm 10 21] [0,1,2,8,10]
 (.seq (qS [qm 22 10,qc 23 .eql 22 0,qm 24 23,qt 24 (qm 25 2),qt 24 (qc 26 .lss 25 0),qa 27 24 26] [0,1,2,8,10,27]
 (qC 27 (.reg [qk 10 1] [0,1,2,8,10])
 .skip))
 (qS [qo 11 (.mv (.const (Value.string ⟨#[]⟩)))] [0,1,2,8,10,11]
 (.seq (qS [qm 28 10,qc 29 .eql 28 0,qm 30 29,qt 30 (qf 31 0 8),qt 30 (ql 32 31),
  qt 30 (qo 33 (.bin .eql (.tmp 32) (.const (Value.int IntKind.u8 3)))),qa 34 30 33] [0,1,2,8,10,11,34]
 (qC 34 (qS [qf 35 1 8,ql 36 35,qc 37 .geq 36 30,qm 38 37,qt 38 (qf 39 1 8),qt 38 (ql 40 39),qt 38 (qc 41 .leq 40 35),qa 42 38 41] [0,1,2,8,10,11,42]
 (qC 42 (.reg [qf 43 1 8,ql 44 43,qm 10 44] [0,1,2,10,11])
 (.reg [qf 45 2 8,ql 46 45,qf 47 2 8,ql 48 47,qo 49 (.lenS (.tmp 48)),qm 50 2,qo 51 (.min2 (.tmp 49) (.tmp 50)),
  qo 52 (.slcS (.tmp 46) none (some (.tmp 51))),qm 11 52] [0,1,2,10,11])))
 .skip))
 (qS [qm 53 0,qm 54 1,qm 55 2,qm 56 11,qm 57 10,
  qo 58 (.build [(Value.int IntKind.u8 0), (Value.int IntKind.i64 0), (Value.string ⟨#[]⟩), (Value.string ⟨#[]⟩), (Value.int IntKind.i64 0), (Value.int IntKind.i64 0)] [(0, 1, (.const (Value.int IntKind.u8 12))), (1, 1, (.tmp 54)), (4, 1, (.tmp 55)), (2, 1, (.tmp 56)), (5, 1, (.tmp 57))]),
  qx 59 95 [53,58]] [10,11]
 (qS [qm 60 11,qm 61 10,qm 6 60,qm 7 61] [6,7]
 .ret)))))))))⟩)
theorem n52 : F52.n = 62 := rfl
theorem low52 : lowF Tryz.prog (kpO F52) (assoc []) 52 = some F52 := by kernel_rfl
def F46 : FIR := laid (X := ⟨48, [.tmp 2, .tmp 3],
 (qS [qk 2 0,qk 3 0] [0]
 (qS [qm 7 0,qx 8 93 [7],qm 6 8,qe 9 6 0,qe 10 6 1,
  qo 4 (.alloc 70 [(Value.int IntKind.u8 0), (Value.int IntKind.i64 0), (Value.string ⟨#[]⟩)]),qs 3 4 9,qm 5 10] [0,4,5]
 (.seq (qS [qm 11 5,qo 12 (.un .not (.tmp 11))] [0,4,12]
 (qC 12 (qS [qk 2 0,qk 3 36] [2,3]
 .ret)
 .skip))
 (.seq (qS [qf 13 0 4,ql 14 13,qo 15 (.bin .eql (.tmp 14) (.const (Value.int IntKind.u8 1))),qm 16 15,qt 16 (qf 17 1 4),qt 16 (ql 18 17),
  qt 16 (qc 19 .geq 18 0),qa 20 16 19,qm 21 20,qt 21 (qf 22 1 4),qt 21 (ql 23 22),qt 21 (qc 24 .leq 23 1000000000000),qa 25 21 24] [0,4,25]
 (qC 25 (qD [qm 26 0,qm 27 0,qn 28 27,qf 29 5 28,ql 30 29,qf 31 1 4,ql 32 31,qb 33 .add 30 32,
  qo 34 (.min2 (.tmp 33) (.const (Value.int IntKind.i64 1000000000000000000))),qn 35 26,qf 36 5 35,qs 1 36 34] [[0,1,2,3,4,5,6,7,8,9,10,11]] [0])
 .skip))
 (qS [qm 37 0,qm 38 0,qn 39 38,qf 40 5 39,ql 41 40,
  qo 42 (.build [(Value.int IntKind.u8 0), (Value.int IntKind.i64 0), (Value.string ⟨#[]⟩), (Value.string ⟨#[]⟩), (Value.int IntKind.i64 0), (Value.int IntKind.i64 0)] [(0, 1, (.const (Value.int IntKind.u8 9))), (4, 1, (.tmp 41))]),
  qx 43 95 [37,42]] [0]
 (qS [qm 44 0,qn 45 44,qf 46 5 45,ql 47 46,qm 2 47,qk 3 0] [2,3]
 .ret))))))⟩)
theorem n46 : F46.n = 48 := rfl
theorem low46 : lowF Tryz.prog (kpO F46) (assoc [(5,[[0,1,2,3,4,5,6,7,8,9,10,11]])]) 46 = some F46 := by kernel_rfl
def F48 : FIR := laid (X := ⟨71, [.tmp 4, .tmp 5],
 (qS [qk 4 0,qk 5 0] [0,1]
 (qS [qm 12 0,qx 13 93 [12],qm 11 13,qe 14 11 0,qe 15 11 1,
  qo 6 (.alloc 70 [(Value.int IntKind.u8 0), (Value.int IntKind.i64 0), (Value.string ⟨#[]⟩)]),qs 3 6 14,qm 7 15] [0,1,6,7]
 (.seq (qS [qm 16 7,qo 17 (.un .not (.tmp 16))] [0,1,6,17]
 (qC 17 (qS [qk 4 0,qk 5 36] [4,5]
 .ret)
 .skip))
 (qS [qk 8 0] [0,1,6,8]
 (qS [qk 9 0] [0,1,6,8,9]
 (qS [qm 18 1,qx 19 30 [18],qm 10 19] [0,1,6,8,9,10]
 (.seq (.block 0 (qS [qm 36 10,qo 37 (.un .not (.tmp 36)),qm 35 37] [0,1,6,8,9,35]
 (qC 35 (.reg [qk 9 35] [0,1,8,9])
 (qS [qf 39 0 6,ql 40 39,qo 41 (.bin .neq (.tmp 40) (.const (Value.int IntKind.u8 2))),qm 42 41,qu 42 (qf 43 2 6),qu 42 (ql 44 43),
  qu 42 (qm 45 1),qu 42 (qb 46 .neq 44 45),qr 47 42 46,qm 38 47] [0,1,6,8,9,38]
 (qC 38 (.reg [qk 9 32] [0,1,8,9])
 (qS [qf 49 1 6,ql 50 49,qc 51 .geq 50 30,qm 52 51,qt 52 (qf 53 1 6),qt 52 (ql 54 53),qt 52 (qc 55 .leq 54 35),qa 56 52 55,qm 48 56] [0,1,6,8,9,48]
 (qC 48 (.reg [qf 57 1 6,ql 58 57,qm 9 58] [0,1,8,9])
 (qS [qm 60 0,qx 61 109 [60],qc 62 .geq 61 32,qm 59 62] [0,1,8,9,59]
 (qC 59 (.reg [qk 9 34] [0,1,8,9])
 (qS [qm 20 0,qm 21 0,qn 22 21,qf 23 3 22,ql 24 23,
  qo 25 (.build [(Value.int IntKind.i64 0), (Value.bool false), (Value.int IntKind.i64 0), (Value.int IntKind.i64 0), (Value.bool false), (Value.bool false)] [(1, 1, (.const (Value.bool true)))]),
  qo 26 (.bslice 156 1 [(Value.int IntKind.i64 0), (Value.bool false), (Value.int IntKind.i64 0), (Value.int IntKind.i64 0), (Value.bool false), (Value.bool false)] [(0, 6, (.tmp 25))]),
  qo 27 (.append 156 6 40 [(Value.int IntKind.i64 0), (Value.bool false), (Value.int IntKind.i64 0), (Value.int IntKind.i64 0), (Value.bool false), (Value.bool false)] (.tmp 24) (.tmp 26)),
  qn 28 20,qf 29 3 28,qs 1 29 27] [0,1,9]
 (.reg [qm 30 0,qn 31 30,qf 32 3 31,ql 33 32,qL 34 33,qm 8 34] [0,1,8,9])))))))))))
 (qS [qm 63 0,qm 64 1,qm 65 8,qm 66 9,
  qo 67 (.build [(Value.int IntKind.u8 0), (Value.int IntKind.i64 0), (Value.string ⟨#[]⟩), (Value.string ⟨#[]⟩), (Value.int IntKind.i64 0), (Value.int IntKind.i64 0)] [(0, 1, (.const (Value.int IntKind.u8 10))), (2, 1, (.tmp 64)), (1, 1, (.tmp 65)), (5, 1, (.tmp 66))]),
  qx 68 95 [63,67]] [8,9]
 (qS [qm 69 8,qm 70 9,qm 4 69,qm 5 70] [4,5]
 .ret)))))))))⟩)
theorem n48 : F48.n = 71 := rfl
theorem low48 : lowF Tryz.prog (assoc [(0, [0,1]), (1, [0,1,6,7]), (2, [0,1,6,17]), (3, [4,5]), (4, [0,1,6,8]), (5, [0,1,6,8,9]), (6, [0,1,6,8,9,10]), (7, [0,1,9]), (8, [0,1,8,9]), (9, [0,1,6,8,9,35]), (10, [0,1,8,9]), (11, [0,1,6,8,9,38]), (12, [0,1,8,9]), (13, [0,1,6,8,9,48]), (14, [0,1,8,9]), (15, [0,1,8,9,59]), (16, [0,1,8,9]), (17, [8,9]), (18, [4,5])]) (assoc []) 48 = some F48 := by kernel_rfl
def F36 : FIR := laid (X := ⟨69, [.tmp 6],
 (qS [qk 6 0] [0,1,2]
 (qS [qm 11 0,qx 12 93 [11],qm 10 12,qe 13 10 0,qe 14 10 1,
  qo 7 (.alloc 70 [(Value.int IntKind.u8 0), (Value.int IntKind.i64 0), (Value.string ⟨#[]⟩)]),qs 3 7 13,qm 8 14] [0,1,2,7,8]
 (.seq (qS [qm 15 8,qo 16 (.un .not (.tmp 15))] [0,1,2,7,16]
 (qC 16 (qS [qk 6 36] [6]
 .ret)
 .skip))
 (qS [qN 17 3 7,qx 18 99 [17],qm 9 18] [0,1,2,9]
 (.seq (qS [qm 19 9,qc 20 .eql 19 0] [0,1,2,9,20]
 (qC 20 (.reg [qm 21 0,qm 22 1,qo 23 (.call 100 [(.tmp 21), (.tmp 22), (.const (Value.bool false))]),qm 9 23] [0,1,2,9])
 .skip))
 (.seq (.seq (qD [qm 24 9,qc 25 .eql 24 0,qm 26 25,qt 26 (qm 27 2),qt 26 (qc 28 .lss 27 0),qt 26 (qm 29 28),qu 29 (qm 30 2),qu 29 (qm 31 0),
  qu 29 (qn 32 31),qu 29 (qf 33 1 32),qu 29 (ql 34 33),qu 29 (qm 35 0),qu 29 (qn 36 35),qu 29 (qf 37 3 36),qu 29 (ql 38 37),qu 29 (qm 39 1),
  qu 29 (qc 40 .sub 39 1),qu 29 (qi 41 6 38 40),qu 29 (qf 42 0 41),qu 29 (ql 43 42),qu 29 (qi 44 3 34 43),qu 29 (qf 45 1 44),qu 29 (ql 46 45),
  qu 29 (qo 47 (.lenS (.tmp 46))),qu 29 (qb 48 .gtr 30 47),qt 26 (qr 49 29 48),qa 50 26 49] [[0,1,2,3,4,5,6,7,8,9,10,11,12,13,14,15,16,17,18,19,20,21,22,23,24,25,26]] [0,1,2,9,50])
 (qC 50 (.reg [qk 9 1] [0,1,2,9])
 .skip))
 (.seq (qS [qm 51 9,qc 52 .eql 51 0] [0,1,2,9,52]
 (qC 52 (.reg [qm 53 0,qn 54 53,qf 55 3 54,ql 56 55,qm 57 1,qc 58 .sub 57 1,qm 59 2,qi 60 6 56 58,qf 61 3 60,qs 1 61 59] [0,1,2,9])
 .skip))
 (qS [qm 62 0,qm 63 1,qm 64 2,qm 65 9,
  qo 66 (.build [(Value.int IntKind.u8 0), (Value.int IntKind.i64 0), (Value.string ⟨#[]⟩), (Value.string ⟨#[]⟩), (Value.int IntKind.i64 0), (Value.int IntKind.i64 0)] [(0, 1, (.const (Value.int IntKind.u8 4))), (1, 1, (.tmp 63)), (4, 1, (.tmp 64)), (5, 1, (.tmp 65))]),
  qx 67 95 [62,66]] [9]
 (qS [qm 68 9,qm 6 68] [6]
 .ret)))))))))⟩)
theorem n36 : F36.n = 69 := rfl
theorem low36 : lowF Tryz.prog (kpO F36) (assoc [(7,[[0,1,2,3,4,5,6,7,8,9,10,11,12,13,14,15,16,17,18,19,20,21,22,23,24,25,26]])]) 36 = some F36 := by kernel_rfl
def F10 : FIR := laid (X := ⟨89, [.tmp 4, .tmp 5],
 (qS [qo 4 (.mv (.const (Value.pointer none))),qk 5 0] [0,1]
 (.seq (qS [qm 10 0,qL 11 10,qc 12 .gtr 11 65536,qm 13 12,qu 13 (qm 14 1),qu 13 (qL 15 14),qu 13 (qc 16 .gtr 15 64),qr 17 13 16] [0,1,17]
 (qC 17 (qS [qo 4 (.mv (.const (Value.pointer none))),qk 5 1] [4,5]
 .ret)
 .skip))
 (qS [qo 18 (.build [(Value.slice none 0 0), (Value.slice none 0 0), (Value.slice none 0 0), (Value.slice none 0 0), (Value.slice none 0 0), (Value.int IntKind.i64 0), (Value.bool false)] []),
  qB 19 91 18,qm 6 19] [0,1,6]
 (qS [qm 20 6,qm 21 6,qn 22 21,qf 23 0 22,ql 24 23,qm 25 0,
  qo 26 (.append 70 3 32 [(Value.int IntKind.u8 0), (Value.int IntKind.i64 0), (Value.string ⟨#[]⟩)] (.tmp 24) (.tmp 25)),qn 27 20,qf 28 0 27,qs 1 28 26] [1,6]
 (.seq (qS [qk 7 0] [1,6,7]
 (.block 0 (.loop (.seq (qS [qm 29 7,qm 30 1,qL 31 30,qb 32 .lss 29 31] [1,6,7,32]
 (qC 32 .skip
 (.exit 0)))
 (.seq (.block 1 (qS [qm 35 1,qm 36 7,qi 37 2 35 36,qf 38 0 37,ql 39 38,qx 40 30 [39],qm 8 40] [1,6,7,8]
 (qS [qm 41 6,qm 42 1,qm 43 7,qi 44 2 42 43,qf 45 0 44,ql 46 45,qx 47 31 [41,46],qm 9 47] [1,6,7,8,9]
 (.seq (qS [qm 48 8,qo 49 (.un .not (.tmp 48)),qm 50 49,qu 50 (qm 51 9),qu 50 (qc 52 .geq 51 0),qr 53 50 52,qm 54 53,qu 54 (qm 55 1),
  qu 54 (qm 56 7),qu 54 (qi 57 2 55 56),qu 54 (qf 58 1 57),qu 54 (ql 59 58),qu 54 (qo 60 (.lenS (.tmp 59))),qu 54 (qc 61 .gtr 60 4194304),qr 62 54 61] [1,6,7,62]
 (qC 62 (qS [qo 4 (.mv (.const (Value.pointer none))),qk 5 1] [4,5]
 .ret)
 .skip))
 (qD [qm 63 6,qm 64 6,qn 65 64,qf 66 1 65,ql 67 66,qm 68 1,qm 69 7,qi 70 2 68 69,qf 71 0 70,ql 72 71,qm 73 1,qm 74 7,qi 75 2 73 74,
  qf 76 1 75,ql 77 76,qm 78 1,qm 79 7,qi 80 2 78 79,qf 81 1 80,ql 82 81,
  qo 83 (.build [(Value.string ⟨#[]⟩), (Value.string ⟨#[]⟩), (Value.string ⟨#[]⟩)] [(0, 1, (.tmp 72)), (1, 1, (.tmp 77)), (2, 1, (.tmp 82))]),
  qo 84 (.bslice 94 1 [(Value.string ⟨#[]⟩), (Value.string ⟨#[]⟩), (Value.string ⟨#[]⟩)] [(0, 3, (.tmp 83))]),
  qo 85 (.append 94 3 48 [(Value.string ⟨#[]⟩), (Value.string ⟨#[]⟩), (Value.string ⟨#[]⟩)] (.tmp 67) (.tmp 84)),qn 86 63,qf 87 1 86,qs 1 87 85] [[0,1,2,3,4,5,6,7,8,9,10,11,12,13,14,15,16,17,18,19,20,21,22,23,24,25]] [1,6,7])))))
 (.reg [qm 33 7,qc 34 .add 33 1,qm 7 34] [1,6,7]))))))
 (qS [qm 88 6,qm 4 88,qk 5 0] [4,5]
 .ret))))))⟩)
theorem n10 : F10.n = 89 := rfl
theorem low10 : lowF Tryz.prog (kpO F10) (assoc [(12,[[0,1,2,3,4,5,6,7,8,9,10,11,12,13,14,15,16,17,18,19,20,21,22,23,24,25]])]) 10 = some F10 := by kernel_rfl
def F94 : FIR := laid (X := ⟨121, [.tmp 8, .tmp 9],
 (qS [qB 7 70 3,qk 8 0,qk 9 0] [0,1,2,7]
 (qS [qN 14 3 7,qx 15 99 [14],qm 10 15] [0,1,2,10]
 (.seq (qS [qm 16 10,qc 17 .neq 16 0] [0,1,2,10,17]
 (qC 17 (qS [qm 18 10,qk 8 0,qm 9 18] [8,9]
 .ret)
 .skip))
 (qS [qm 19 1,qx 20 30 [19],qm 11 20] [0,1,2,11]
 (qS [qm 21 0,qm 22 1,qx 23 31 [21,22],qm 12 23] [0,1,2,11,12]
 (.seq (.block 0 (qS [qm 25 11,qo 26 (.un .not (.tmp 25)),qm 24 26] [0,1,2,12,24]
 (qC 24 (qS [qk 8 0,qk 9 35] [8,9]
 .ret)
 (qS [qm 28 2,qc 29 .lss 28 1,qm 30 29,qu 30 (qm 31 2),qu 30 (qc 32 .gtr 31 3),qr 33 30 32,qm 27 33] [0,1,2,12,27]
 (qC 27 (qS [qk 8 0,qk 9 33] [8,9]
 .ret)
 (qS [qm 35 2,qc 36 .eql 35 1,qm 37 36,qt 37 (qm 38 12),qt 37 (qc 39 .lss 38 0),qa 40 37 39,qm 34 40] [0,1,2,12,34]
 (qC 34 (qS [qk 8 0,qk 9 32] [8,9]
 .ret)
 .skip)))))))
 (.seq (qS [qm 41 0,qx 42 109 [41],qc 43 .geq 42 32,qm 44 43,qu 44 (qm 45 12),qu 44 (qc 46 .lss 45 0),qu 44 (qm 47 46),qt 47 (qm 48 0),
  qt 47 (qx 49 122 [48]),qt 47 (qc 50 .geq 49 64),qu 44 (qa 51 47 50),qr 52 44 51] [0,1,2,12,52]
 (qC 52 (qS [qk 8 0,qk 9 34] [8,9]
 .ret)
 .skip))
 (.seq (qS [qm 53 12,qc 54 .lss 53 0] [0,1,2,12,54]
 (qC 54 (qS [qm 55 0,qn 56 55,qf 57 1 56,ql 58 57,qL 59 58,qm 12 59] [0,1,2,12]
 (.reg [qm 60 0,qm 61 0,qn 62 61,qf 63 1 62,ql 64 63,qm 65 1,
  qo 66 (.build [(Value.string ⟨#[]⟩), (Value.string ⟨#[]⟩), (Value.string ⟨#[]⟩)] [(0, 1, (.tmp 65))]),
  qo 67 (.bslice 94 1 [(Value.string ⟨#[]⟩), (Value.string ⟨#[]⟩), (Value.string ⟨#[]⟩)] [(0, 3, (.tmp 66))]),
  qo 68 (.append 94 3 48 [(Value.string ⟨#[]⟩), (Value.string ⟨#[]⟩), (Value.string ⟨#[]⟩)] (.tmp 64) (.tmp 67)),qn 69 60,qf 70 1 69,qs 1 70 68] [0,2,12]))
 .skip))
 (qS [qm 71 12,qm 72 2,
  qo 73 (.build [(Value.int IntKind.i64 0), (Value.bool false), (Value.int IntKind.i64 0), (Value.int IntKind.i64 0), (Value.bool false), (Value.bool false)] [(0, 1, (.tmp 71)), (2, 1, (.tmp 72))]),
  qo 13 (.alloc 156 [(Value.int IntKind.i64 0), (Value.bool false), (Value.int IntKind.i64 0), (Value.int IntKind.i64 0), (Value.bool false), (Value.bool false)]),
  qs 6 13 73] [0,2,12,13]
 (.seq (qS [qm 74 2,qc 75 .eql 74 2] [0,2,12,13,75]
 (qC 75 (qS [qm 76 0,qn 77 76,qf 78 1 77,ql 79 78,qm 80 12,qi 81 3 79 80,qf 82 1 81,⟨none,none,.store 1 (.tmp 82) (.const (Value.string ⟨#[]⟩))⟩] [0,2,12,13]
 (.reg [qm 83 0,qm 84 0,qn 85 84,qf 86 2 85,ql 87 86,qm 88 12,
  qo 89 (.build [(Value.int IntKind.i64 0), (Value.int IntKind.i64 0), (Value.string ⟨#[]⟩), (Value.bool false)] [(0, 1, (.tmp 88)), (3, 1, (.const (Value.bool true)))]),
  qo 90 (.bslice 113 1 [(Value.int IntKind.i64 0), (Value.int IntKind.i64 0), (Value.string ⟨#[]⟩), (Value.bool false)] [(0, 4, (.tmp 89))]),
  qo 91 (.append 113 4 40 [(Value.int IntKind.i64 0), (Value.int IntKind.i64 0), (Value.string ⟨#[]⟩), (Value.bool false)] (.tmp 87) (.tmp 90)),qn 92 83,
  qf 93 2 92,qs 1 93 91] [0,2,12,13]))
 .skip))
 (.seq (qS [qm 94 2,qc 95 .eql 94 3] [0,12,13,95]
 (qC 95 (.reg [qm 96 0,qn 97 96,qf 98 1 97,ql 99 98,qm 100 12,qi 101 3 99 100,qf 102 1 101,ql 103 102,qo 104 (.lenS (.tmp 103)),qf 105 3 13,
  qs 1 105 104] [0,13])
 .skip))
 (.seq (qD [qm 106 0,qm 107 0,qn 108 107,qf 109 3 108,ql 110 109,qN 111 6 13,
  qo 112 (.bslice 156 1 [(Value.int IntKind.i64 0), (Value.bool false), (Value.int IntKind.i64 0), (Value.int IntKind.i64 0), (Value.bool false), (Value.bool false)] [(0, 6, (.tmp 111))]),
  qo 113 (.append 156 6 40 [(Value.int IntKind.i64 0), (Value.bool false), (Value.int IntKind.i64 0), (Value.int IntKind.i64 0), (Value.bool false), (Value.bool false)] (.tmp 110) (.tmp 112)),
  qn 114 106,qf 115 3 114,qs 1 115 113] [[0,1,2,3,4,5,6,7,8,9,10]] [0])
 (qS [qm 116 0,qn 117 116,qf 118 3 117,ql 119 118,qL 120 119,qm 8 120,qk 9 0] [8,9]
 .ret)))))))))))))⟩)
theorem n94 : F94.n = 121 := rfl
theorem low94 : lowF Tryz.prog (kpO F94) (assoc [(23,[[0,1,2,3,4,5,6,7,8,9,10]])]) 94 = some F94 := by kernel_rfl
def F32 : FIR := laid (X := ⟨36, [.tmp 6, .tmp 7],
 (qS [qk 6 0,qk 7 0] [0,1,2]
 (qS [qm 13 0,qx 14 93 [13],qm 12 14,qe 15 12 0,qe 16 12 1,
  qo 8 (.alloc 70 [(Value.int IntKind.u8 0), (Value.int IntKind.i64 0), (Value.string ⟨#[]⟩)]),qs 3 8 15,qm 9 16] [0,1,2,8,9]
 (.seq (qS [qm 17 9,qo 18 (.un .not (.tmp 17))] [0,1,2,8,18]
 (qC 18 (qS [qk 6 0,qk 7 36] [6,7]
 .ret)
 .skip))
 (qS [qm 20 0,qm 21 1,qm 22 2,qN 23 3 8,qx 24 94 [20,21,22,23],qm 19 24,qe 25 19 0,qe 26 19 1,qm 10 25,qm 11 26] [0,1,2,10,11]
 (qS [qm 27 0,qm 28 1,qm 29 2,qm 30 10,qm 31 11,
  qo 32 (.build [(Value.int IntKind.u8 0), (Value.int IntKind.i64 0), (Value.string ⟨#[]⟩), (Value.string ⟨#[]⟩), (Value.int IntKind.i64 0), (Value.int IntKind.i64 0)] [(0, 1, (.const (Value.int IntKind.u8 1))), (2, 1, (.tmp 28)), (4, 1, (.tmp 29)), (1, 1, (.tmp 30)), (5, 1, (.tmp 31))]),
  qx 33 95 [27,32]] [10,11]
 (qS [qm 34 10,qm 35 11,qm 6 34,qm 7 35] [6,7]
 .ret))))))⟩)
theorem n32 : F32.n = 36 := rfl
theorem low32 : lowF Tryz.prog (kpO F32) (assoc []) 32 = some F32 := by kernel_rfl
def F96 : FIR := laid (X := ⟨88, [.tmp 8, .tmp 9],
 (qS [qB 7 70 3,qo 8 (.mv (.const (Value.string ⟨#[]⟩))),qk 9 0] [0,1,2,7]
 (qS [qN 15 3 7,qx 16 99 [15],qm 10 16] [0,1,2,10]
 (.seq (qS [qm 17 10,qc 18 .eql 17 0] [0,1,2,10,18]
 (qC 18 (.reg [qm 19 0,qm 20 1,qo 21 (.call 100 [(.tmp 19), (.tmp 20), (.const (Value.bool false))]),qm 10 21] [0,1,2,10])
 .skip))
 (.seq (.block 0 (qS [qm 23 10,qc 24 .neq 23 0,qm 22 24] [0,1,2,10,22]
 (qC 22 (qS [qm 25 10,qo 8 (.mv (.const (Value.string ⟨#[]⟩))),qm 9 25] [8,9]
 .ret)
 (qS [qm 27 0,qn 28 27,qf 29 3 28,ql 30 29,qm 31 1,qc 32 .sub 31 1,qi 33 6 30 32,qf 34 2 33,ql 35 34,qc 36 .neq 35 1,qm 26 36] [0,1,2,26]
 (qC 26 (qS [qo 8 (.mv (.const (Value.string ⟨#[]⟩))),qk 9 33] [8,9]
 .ret)
 (qS [qm 38 2,qc 39 .lss 38 0,qm 37 39] [0,1,2,37]
 (qC 37 (qS [qo 8 (.mv (.const (Value.string ⟨#[]⟩))),qk 9 1] [8,9]
 .ret)
 .skip)))))))
 (qS [qm 40 0,qn 41 40,qf 42 3 41,ql 43 42,qm 44 1,qc 45 .sub 44 1,qi 46 6 43 45,qN 47 6 46,
  qo 11 (.alloc 156 [(Value.int IntKind.i64 0), (Value.bool false), (Value.int IntKind.i64 0), (Value.int IntKind.i64 0), (Value.bool false), (Value.bool false)]),
  qs 6 11 47] [0,1,2,11]
 (.seq (qD [qm 48 0,qn 49 48,qf 50 1 49,ql 51 50,qf 52 0 11,ql 53 52,qi 54 3 51 53,qf 55 1 54,ql 56 55,qm 12 56] [[0,1,2,3,4,5,6,7,8,9]] [0,1,2,11,12])
 (qS [qf 57 3 11,ql 58 57,qm 59 12,qo 60 (.lenS (.tmp 59)),qo 61 (.min2 (.tmp 58) (.tmp 60)),qm 13 61] [0,1,2,11,12,13]
 (qS [qm 62 12,qo 63 (.lenS (.tmp 62)),qm 14 63] [0,1,2,11,12,13,14]
 (.seq (qS [qm 64 2,qm 65 14,qm 66 13,qb 67 .sub 65 66,qb 68 .lss 64 67] [0,1,2,11,12,13,14,68]
 (qC 68 (.reg [qm 69 13,qm 70 2,qb 71 .add 69 70,qm 14 71] [0,1,11,12,13,14])
 .skip))
 (.seq (qD [qm 72 0,qn 73 72,qf 74 3 73,ql 75 74,qm 76 1,qc 77 .sub 76 1,qf 78 3 11,ql 79 78,qm 80 14,qo 81 (.max2 (.tmp 79) (.tmp 80)),
  qi 82 6 75 77,qf 83 3 82,qs 1 83 81] [[0,1,2,3,4,5,6,7,8,9,10,11,12]] [12,13,14])
 (qS [qm 84 12,qm 85 13,qm 86 14,qo 87 (.slcS (.tmp 84) (some (.tmp 85)) (some (.tmp 86))),qm 8 87,qk 9 0] [8,9]
 .ret)))))))))))⟩)
theorem n96 : F96.n = 88 := rfl
theorem low96 : lowF Tryz.prog (kpO F96) (assoc [(11,[[0,1,2,3,4,5,6,7,8,9]]), (16,[[0,1,2,3,4,5,6,7,8,9,10,11,12]])]) 96 = some F96 := by kernel_rfl
def F33 : FIR := laid (X := ⟨36, [.tmp 6, .tmp 7],
 (qS [qo 6 (.mv (.const (Value.string ⟨#[]⟩))),qk 7 0] [0,1,2]
 (qS [qm 13 0,qx 14 93 [13],qm 12 14,qe 15 12 0,qe 16 12 1,
  qo 8 (.alloc 70 [(Value.int IntKind.u8 0), (Value.int IntKind.i64 0), (Value.string ⟨#[]⟩)]),qs 3 8 15,qm 9 16] [0,1,2,8,9]
 (.seq (qS [qm 17 9,qo 18 (.un .not (.tmp 17))] [0,1,2,8,18]
 (qC 18 (qS [qo 6 (.mv (.const (Value.string ⟨#[]⟩))),qk 7 36] [6,7]
 .ret)
 .skip))
 (qS [qm 20 0,qm 21 1,qm 22 2,qN 23 3 8,qx 24 96 [20,21,22,23],qm 19 24,qe 25 19 0,qe 26 19 1,qm 10 25,qm 11 26] [0,1,2,10,11]
 (qS [qm 27 0,qm 28 1,qm 29 2,qm 30 10,qm 31 11,
  qo 32 (.build [(Value.int IntKind.u8 0), (Value.int IntKind.i64 0), (Value.string ⟨#[]⟩), (Value.string ⟨#[]⟩), (Value.int IntKind.i64 0), (Value.int IntKind.i64 0)] [(0, 1, (.const (Value.int IntKind.u8 2))), (1, 1, (.tmp 28)), (4, 1, (.tmp 29)), (2, 1, (.tmp 30)), (5, 1, (.tmp 31))]),
  qx 33 95 [27,32]] [10,11]
 (qS [qm 34 10,qm 35 11,qm 6 34,qm 7 35] [6,7]
 .ret))))))⟩)
theorem n33 : F33.n = 36 := rfl
theorem low33 : lowF Tryz.prog (kpO F33) (assoc []) 33 = some F33 := by kernel_rfl
def F97 : FIR := laid (X := ⟨103, [.tmp 8],
 (qS [qB 7 70 3,qk 8 0] [0,1,2,7]
 (qS [qN 14 3 7,qx 15 99 [14],qm 9 15] [0,1,2,9]
 (.seq (qS [qm 16 9,qc 17 .eql 16 0] [0,1,2,9,17]
 (qC 17 (.reg [qm 18 0,qm 19 1,qo 20 (.call 100 [(.tmp 18), (.tmp 19), (.const (Value.bool false))]),qm 9 20] [0,1,2,9])
 .skip))
 (.seq (.block 0 (qS [qm 22 9,qc 23 .neq 22 0,qm 21 23] [0,1,2,9,21]
 (qC 21 (qS [qm 24 9,qm 8 24] [8]
 .ret)
 (qS [qm 26 0,qn 27 26,qf 28 3 27,ql 29 28,qm 30 1,qc 31 .sub 30 1,qi 32 6 29 31,qf 33 2 32,ql 34 33,qc 35 .eql 34 1,qm 25 35] [0,1,2,25]
 (qC 25 (qS [qk 8 33] [8]
 .ret)
 .skip)))))
 (qS [qm 36 0,qn 37 36,qf 38 3 37,ql 39 38,qm 40 1,qc 41 .sub 40 1,qi 42 6 39 41,qN 43 6 42,
  qo 10 (.alloc 156 [(Value.int IntKind.i64 0), (Value.bool false), (Value.int IntKind.i64 0), (Value.int IntKind.i64 0), (Value.bool false), (Value.bool false)]),
  qs 6 10 43] [0,1,2,10]
 (.seq (qD [qm 44 0,qn 45 44,qf 46 1 45,ql 47 46,qf 48 0 10,ql 49 48,qi 50 3 47 49,qf 51 1 50,ql 52 51,qm 11 52] [[0,1,2,3,4,5,6,7,8,9]] [0,1,2,10,11])
 (qS [qf 53 3 10,ql 54 53,qm 12 54] [0,1,2,10,11,12]
 (.seq (qS [qf 55 2 10,ql 56 55,qc 57 .eql 56 3] [0,1,2,10,11,12,57]
 (qC 57 (.reg [qm 58 11,qo 59 (.lenS (.tmp 58)),qm 12 59] [0,1,2,10,11,12])
 .skip))
 (.seq (qS [qm 60 2,qo 61 (.lenS (.tmp 60)),qm 62 12,qo 63 (.bin .sub (.const (Value.int IntKind.i64 4194304)) (.tmp 62)),qb 64 .gtr 61 63] [0,1,2,10,11,12,64]
 (qC 64 (qS [qk 8 34] [8]
 .ret)
 .skip))
 (qS [qf 65 0 10,ql 66 65,qm 67 12,qm 68 2,
  qo 69 (.build [(Value.int IntKind.i64 0), (Value.int IntKind.i64 0), (Value.string ⟨#[]⟩), (Value.bool false)] [(0, 1, (.tmp 66)), (1, 1, (.tmp 67)), (2, 1, (.tmp 68))]),
  qo 13 (.alloc 113 [(Value.int IntKind.i64 0), (Value.int IntKind.i64 0), (Value.string ⟨#[]⟩), (Value.bool false)]),qs 4 13 69] [0,1,2,10,11,12,13]
 (.seq (qD [qm 70 0,qn 71 70,qf 72 1 71,ql 73 72,qf 74 0 10,ql 75 74,qm 76 11,qN 77 4 13,qx 78 65 [76,77],qi 79 3 73 75,qf 80 1 79,qs 1 80 78] [[0,1,2,3,4,5,6,7,8,9,10,11], [0,1,2,4,5,3,6,7,8,9,10,11], [0,1,2,4,5,6,7,8,3,9,10,11], [0,1,2,3,4,6,7,8,5,9,10,11], [0,1,2,4,6,7,8,3,5,9,10,11], [0,1,2,4,6,7,8,5,3,9,10,11]] [0,1,2,12,13])
 (.seq (qD [qm 81 0,qm 82 0,qn 83 82,qf 84 2 83,ql 85 84,qN 86 4 13,
  qo 87 (.bslice 113 1 [(Value.int IntKind.i64 0), (Value.int IntKind.i64 0), (Value.string ⟨#[]⟩), (Value.bool false)] [(0, 4, (.tmp 86))]),
  qo 88 (.append 113 4 40 [(Value.int IntKind.i64 0), (Value.int IntKind.i64 0), (Value.string ⟨#[]⟩), (Value.bool false)] (.tmp 85) (.tmp 87)),qn 89 81,
  qf 90 2 89,qs 1 90 88] [[0,1,2,3,4,5,6,7,8,9,10]] [0,1,2,12])
 (qS [qm 91 0,qn 92 91,qf 93 3 92,ql 94 93,qm 95 1,qc 96 .sub 95 1,qm 97 12,qm 98 2,qo 99 (.lenS (.tmp 98)),qb 100 .add 97 99,
  qi 101 6 94 96,qf 102 3 101,qs 1 102 100] []
 (qS [qk 8 0] [8]
 .ret))))))))))))))⟩)
theorem n97 : F97.n = 103 := rfl
theorem low97 : lowF Tryz.prog (kpO F97) (assoc [(9,[[0,1,2,3,4,5,6,7,8,9]]), (16,[[0,1,2,3,4,5,6,7,8,9,10,11], [0,1,2,4,5,3,6,7,8,9,10,11], [0,1,2,4,5,6,7,8,3,9,10,11], [0,1,2,3,4,6,7,8,5,9,10,11], [0,1,2,4,6,7,8,3,5,9,10,11], [0,1,2,4,6,7,8,5,3,9,10,11]]), (17,[[0,1,2,3,4,5,6,7,8,9,10]])]) 97 = some F97 := by kernel_rfl
def F34 : FIR := laid (X := ⟨29, [.tmp 6],
 (qS [qk 6 0] [0,1,2]
 (qS [qm 11 0,qx 12 93 [11],qm 10 12,qe 13 10 0,qe 14 10 1,
  qo 7 (.alloc 70 [(Value.int IntKind.u8 0), (Value.int IntKind.i64 0), (Value.string ⟨#[]⟩)]),qs 3 7 13,qm 8 14] [0,1,2,7,8]
 (.seq (qS [qm 15 8,qo 16 (.un .not (.tmp 15))] [0,1,2,7,16]
 (qC 16 (qS [qk 6 36] [6]
 .ret)
 .skip))
 (qS [qm 17 0,qm 18 1,qm 19 2,qN 20 3 7,qx 21 97 [17,18,19,20],qm 9 21] [0,1,2,9]
 (qS [qm 22 0,qm 23 1,qm 24 2,qm 25 9,
  qo 26 (.build [(Value.int IntKind.u8 0), (Value.int IntKind.i64 0), (Value.string ⟨#[]⟩), (Value.string ⟨#[]⟩), (Value.int IntKind.i64 0), (Value.int IntKind.i64 0)] [(0, 1, (.const (Value.int IntKind.u8 3))), (1, 1, (.tmp 23)), (2, 1, (.tmp 24)), (5, 1, (.tmp 25))]),
  qx 27 95 [22,26]] [9]
 (qS [qm 28 9,qm 6 28] [6]
 .ret))))))⟩)
theorem n34 : F34.n = 29 := rfl
theorem low34 : lowF Tryz.prog (kpO F34) (assoc []) 34 = some F34 := by kernel_rfl
def F38 : FIR := laid (X := ⟨90, [.tmp 4],
 (qS [qk 4 0] [0,1]
 (qS [qm 12 0,qx 13 93 [12],qm 11 13,qe 14 11 0,qe 15 11 1,
  qo 5 (.alloc 70 [(Value.int IntKind.u8 0), (Value.int IntKind.i64 0), (Value.string ⟨#[]⟩)]),qs 3 5 14,qm 6 15] [0,1,5,6]
 (.seq (qS [qm 16 6,qo 17 (.un .not (.tmp 16))] [0,1,5,17]
 (qC 17 (qS [qk 4 36] [4]
 .ret)
 .skip))
 (qS [qN 18 3 5,qx 19 99 [18],qm 7 19] [0,1,7]
 (.seq (qS [qm 20 7,qc 21 .eql 20 0] [0,1,7,21]
 (qC 21 (.reg [qm 22 0,qm 23 1,qo 24 (.call 100 [(.tmp 22), (.tmp 23), (.const (Value.bool false))]),qm 7 24] [0,1,7])
 .skip))
 (.seq (qS [qm 25 7,qc 26 .eql 25 0] [0,1,7,26]
 (qC 26 (qS [qm 27 0,qn 28 27,qf 29 3 28,ql 30 29,qm 31 1,qc 32 .sub 31 1,qi 33 6 30 32,qf 34 0 33,ql 35 34,qm 8 35] [0,1,7,8]
 (.seq (qD [qm 36 0,qn 37 36,qf 38 1 37,ql 39 38,qm 40 8,qm 41 0,qn 42 41,qf 43 1 42,ql 44 43,qm 45 8,qi 46 3 44 45,qf 47 1 46,ql 48 47,
  qi 49 3 39 40,qf 50 2 49,qs 1 50 48] [[0,1,2,3,4,5,6,7,8,9,10,11,12,13,14,15]] [0,1,7,8])
 (qS [qo 9 (.mv (.const (Value.slice none 0 0)))] [0,1,7,8,9]
 (.seq (qS [qk 10 0] [0,1,7,8,9,10]
 (.block 0 (.loop (.seq (qS [qm 51 10,qm 52 0,qn 53 52,qf 54 2 53,ql 55 54,qL 56 55,qb 57 .lss 51 56] [0,1,7,8,9,10,57]
 (qC 57 .skip
 (.exit 0)))
 (.seq (.block 1 (qS [qm 60 0,qn 61 60,qf 62 2 61,ql 63 62,qm 64 10,qi 65 4 63 64,qf 66 0 65,ql 67 66,qm 68 8,qb 69 .neq 67 68] [0,1,7,8,9,10,69]
 (qC 69 (.reg [qm 70 9,qm 71 0,qn 72 71,qf 73 2 72,ql 74 73,qm 75 10,qi 76 4 74 75,qN 77 4 76,
  qo 78 (.bslice 113 1 [(Value.int IntKind.i64 0), (Value.int IntKind.i64 0), (Value.string ⟨#[]⟩), (Value.bool false)] [(0, 4, (.tmp 77))]),
  qo 79 (.append 113 4 40 [(Value.int IntKind.i64 0), (Value.int IntKind.i64 0), (Value.string ⟨#[]⟩), (Value.bool false)] (.tmp 70) (.tmp 78)),qm 9 79] [0,1,7,8,9,10])
 .skip)))
 (.reg [qm 58 10,qc 59 .add 58 1,qm 10 59] [0,1,7,8,9,10]))))))
 (.reg [qm 80 0,qm 81 9,qn 82 80,qf 83 2 82,qs 1 83 81] [0,1,7])))))
 .skip))
 (qS [qm 84 0,qm 85 1,qm 86 7,
  qo 87 (.build [(Value.int IntKind.u8 0), (Value.int IntKind.i64 0), (Value.string ⟨#[]⟩), (Value.string ⟨#[]⟩), (Value.int IntKind.i64 0), (Value.int IntKind.i64 0)] [(0, 1, (.const (Value.int IntKind.u8 5))), (1, 1, (.tmp 85)), (5, 1, (.tmp 86))]),
  qx 88 95 [84,87]] [7]
 (qS [qm 89 7,qm 4 89] [4]
 .ret))))))))⟩)
theorem n38 : F38.n = 90 := rfl
theorem low38 : lowF Tryz.prog (kpO F38) (assoc [(9,[[0,1,2,3,4,5,6,7,8,9,10,11,12,13,14,15]])]) 38 = some F38 := by kernel_rfl
def F40 : FIR := laid (X := ⟨72, [.tmp 4],
 (qS [qk 4 0] [0,1]
 (qS [qm 9 0,qx 10 93 [9],qm 8 10,qe 11 8 0,qe 12 8 1,
  qo 5 (.alloc 70 [(Value.int IntKind.u8 0), (Value.int IntKind.i64 0), (Value.string ⟨#[]⟩)]),qs 3 5 11,qm 6 12] [0,1,5,6]
 (.seq (qS [qm 13 6,qo 14 (.un .not (.tmp 13))] [0,1,5,14]
 (qC 14 (qS [qk 4 36] [4]
 .ret)
 .skip))
 (qS [qN 15 3 5,qx 16 99 [15],qm 7 16] [0,1,7]
 (.seq (qS [qm 17 7,qc 18 .eql 17 0,qm 19 18,qt 19 (qm 20 1),qt 19 (qc 21 .lss 20 1),qt 19 (qm 22 21),qu 22 (qm 23 1),qu 22 (qm 24 0),
  qu 22 (qn 25 24),qu 22 (qf 26 3 25),qu 22 (ql 27 26),qu 22 (qL 28 27),qu 22 (qb 29 .gtr 23 28),qt 19 (qr 30 22 29),qt 19 (qm 31 30),qu 31 (qm 32 0),
  qu 31 (qn 33 32),qu 31 (qf 34 3 33),qu 31 (ql 35 34),qu 31 (qm 36 1),qu 31 (qc 37 .sub 36 1),qu 31 (qi 38 6 35 37),qu 31 (qf 39 4 38),qu 31 (ql 40 39),
  qt 19 (qr 41 31 40),qa 42 19 41] [0,1,7,42]
 (qC 42 (.reg [qk 7 30] [0,1,7])
 .skip))
 (.seq (qS [qm 43 7,qc 44 .eql 43 0,qm 45 44,qt 45 (qm 46 0),qt 45 (qn 47 46),qt 45 (qf 48 3 47),qt 45 (ql 49 48),qt 45 (qm 50 1),
  qt 45 (qc 51 .sub 50 1),qt 45 (qi 52 6 49 51),qt 45 (qf 53 5 52),qt 45 (ql 54 53),qa 55 45 54] [0,1,7,55]
 (qC 55 (.reg [qk 7 31] [0,1,7])
 .skip))
 (.seq (qS [qm 56 7,qc 57 .eql 56 0] [0,1,7,57]
 (qC 57 (.reg [qm 58 0,qn 59 58,qf 60 3 59,ql 61 60,qm 62 1,qc 63 .sub 62 1,qi 64 6 61 63,qf 65 4 64,
  ⟨none,none,.store 1 (.tmp 65) (.const (Value.bool true))⟩] [0,1,7])
 .skip))
 (qS [qm 66 0,qm 67 1,qm 68 7,
  qo 69 (.build [(Value.int IntKind.u8 0), (Value.int IntKind.i64 0), (Value.string ⟨#[]⟩), (Value.string ⟨#[]⟩), (Value.int IntKind.i64 0), (Value.int IntKind.i64 0)] [(0, 1, (.const (Value.int IntKind.u8 6))), (1, 1, (.tmp 67)), (5, 1, (.tmp 68))]),
  qx 70 95 [66,69]] [7]
 (qS [qm 71 7,qm 4 71] [4]
 .ret)))))))))⟩)
theorem n40 : F40.n = 72 := rfl
theorem low40 : lowF Tryz.prog (kpO F40) (assoc []) 40 = some F40 := by kernel_rfl
def F42 : FIR := laid (X := ⟨80, [.tmp 6],
 (qS [qk 6 0] [0,1,2]
 (qS [qm 15 0,qx 16 93 [15],qm 14 16,qe 17 14 0,qe 18 14 1,
  qo 7 (.alloc 70 [(Value.int IntKind.u8 0), (Value.int IntKind.i64 0), (Value.string ⟨#[]⟩)]),qs 3 7 17,qm 8 18] [0,1,2,7,8]
 (.seq (qS [qm 19 8,qo 20 (.un .not (.tmp 19))] [0,1,2,7,20]
 (qC 20 (qS [qk 6 36] [6]
 .ret)
 .skip))
 (qS [qN 21 3 7,qx 22 99 [21],qm 9 22] [0,1,2,9]
 (qS [qm 23 1,qx 24 30 [23],qm 10 24] [0,1,2,9,10]
 (qS [qm 25 2,qx 26 30 [25],qm 11 26] [0,1,2,9,10,11]
 (qS [qm 27 0,qm 28 1,qx 29 31 [27,28],qm 12 29] [0,1,2,9,10,11,12]
 (.seq (qS [qm 30 9,qc 31 .eql 30 0,qm 32 31,qt 32 (qm 33 10),qt 32 (qo 34 (.un .not (.tmp 33))),qt 32 (qm 35 34),qu 35 (qm 36 11),
  qu 35 (qo 37 (.un .not (.tmp 36))),qt 32 (qr 38 35 37),qa 39 32 38] [0,1,2,9,12,39]
 (qC 39 (.reg [qk 9 35] [0,1,2,9,12])
 .skip))
 (.seq (qS [qm 40 9,qc 41 .eql 40 0,qm 42 41,qt 42 (qm 43 12),qt 42 (qc 44 .lss 43 0),qa 45 42 44] [0,1,2,9,12,45]
 (qC 45 (.reg [qk 9 32] [0,1,2,9,12])
 .skip))
 (.seq (qS [qm 46 9,qc 47 .eql 46 0,qm 48 47,qt 48 (qm 49 1),qt 48 (qm 50 2),qt 48 (qb 51 .neq 49 50),qa 52 48 51] [0,1,2,9,12,52]
 (qC 52 (qS [qm 53 0,qm 54 2,qx 55 31 [53,54],qm 13 55] [0,1,2,9,12,13]
 (.seq (qS [qm 56 13,qc 57 .geq 56 0] [0,1,2,9,12,13,57]
 (qC 57 (.reg [qm 58 0,qn 59 58,qf 60 1 59,ql 61 60,qm 62 13,qi 63 3 61 62,qf 64 0 63,⟨none,none,.store 1 (.tmp 64) (.const (Value.string ⟨#[]⟩))⟩] [0,1,2,9,12])
 .skip))
 (.reg [qm 65 0,qn 66 65,qf 67 1 66,ql 68 67,qm 69 12,qm 70 2,qi 71 3 68 69,qf 72 0 71,qs 1 72 70] [0,1,2,9])))
 .skip))
 (qS [qm 73 0,qm 74 1,qm 75 2,qm 76 9,
  qo 77 (.build [(Value.int IntKind.u8 0), (Value.int IntKind.i64 0), (Value.string ⟨#[]⟩), (Value.string ⟨#[]⟩), (Value.int IntKind.i64 0), (Value.int IntKind.i64 0)] [(0, 1, (.const (Value.int IntKind.u8 7))), (2, 1, (.tmp 74)), (3, 1, (.tmp 75)), (5, 1, (.tmp 76))]),
  qx 78 95 [73,77]] [9]
 (qS [qm 79 9,qm 6 79] [6]
 .ret))))))))))))⟩)
theorem n42 : F42.n = 80 := rfl
theorem low42 : lowF Tryz.prog (kpO F42) (assoc []) 42 = some F42 := by kernel_rfl
def F44 : FIR := laid (X := ⟨51, [.tmp 4],
 (qS [qk 4 0] [0,1]
 (qS [qm 11 0,qx 12 93 [11],qm 10 12,qe 13 10 0,qe 14 10 1,
  qo 5 (.alloc 70 [(Value.int IntKind.u8 0), (Value.int IntKind.i64 0), (Value.string ⟨#[]⟩)]),qs 3 5 13,qm 6 14] [0,1,5,6]
 (.seq (qS [qm 15 6,qo 16 (.un .not (.tmp 15))] [0,1,5,16]
 (qC 16 (qS [qk 4 36] [4]
 .ret)
 .skip))
 (qS [qN 17 3 5,qx 18 99 [17],qm 7 18] [0,1,7]
 (qS [qm 19 1,qx 20 30 [19],qm 8 20] [0,1,7,8]
 (qS [qm 21 0,qm 22 1,qx 23 31 [21,22],qm 9 23] [0,1,7,8,9]
 (.seq (qS [qm 24 7,qc 25 .eql 24 0,qm 26 25,qt 26 (qm 27 8),qt 26 (qo 28 (.un .not (.tmp 27))),qa 29 26 28] [0,1,7,9,29]
 (qC 29 (.reg [qk 7 35] [0,1,7,9])
 .skip))
 (.seq (qS [qm 30 7,qc 31 .eql 30 0,qm 32 31,qt 32 (qm 33 9),qt 32 (qc 34 .lss 33 0),qa 35 32 34] [0,1,7,9,35]
 (qC 35 (.reg [qk 7 32] [0,1,7,9])
 .skip))
 (.seq (qS [qm 36 7,qc 37 .eql 36 0] [0,1,7,9,37]
 (qC 37 (.reg [qm 38 0,qn 39 38,qf 40 1 39,ql 41 40,qm 42 9,qi 43 3 41 42,qf 44 0 43,⟨none,none,.store 1 (.tmp 44) (.const (Value.string ⟨#[]⟩))⟩] [0,1,7])
 .skip))
 (qS [qm 45 0,qm 46 1,qm 47 7,
  qo 48 (.build [(Value.int IntKind.u8 0), (Value.int IntKind.i64 0), (Value.string ⟨#[]⟩), (Value.string ⟨#[]⟩), (Value.int IntKind.i64 0), (Value.int IntKind.i64 0)] [(0, 1, (.const (Value.int IntKind.u8 8))), (2, 1, (.tmp 46)), (5, 1, (.tmp 47))]),
  qx 49 95 [45,48]] [7]
 (qS [qm 50 7,qm 4 50] [4]
 .ret)))))))))))⟩)
theorem n44 : F44.n = 51 := rfl
theorem low44 : lowF Tryz.prog (kpO F44) (assoc []) 44 = some F44 := by kernel_rfl
def F115 : FIR := laid (X := ⟨59, [.tmp 2],
 (qS [qo 2 (.mv (.const (Value.slice none 0 0)))] [0]
 (qS [qo 3 (.mv (.const (Value.slice none 0 0)))] [0,3]
 (.seq (.block 0 (.loop (.seq (qS [qm 6 3,qL 7 6,qm 8 0,qL 9 8,qb 10 .lss 7 9] [0,3,10]
 (qC 10 .skip
 (.exit 0)))
 (.block 1 (qS [qk 4 (-1)] [0,3,4]
 (.seq (qS [qk 5 0] [0,3,4,5]
 (.block 2 (.loop (.seq (qS [qm 11 5,qm 12 0,qL 13 12,qb 14 .lss 11 13] [0,3,4,5,14]
 (qC 14 .skip
 (.exit 2)))
 (.seq (.block 3 (.seq (.seq (qD [qm 17 3,qL 18 17,qc 19 .gtr 18 0,qm 20 19,qt 20 (qm 21 0),qt 20 (qm 22 5),qt 20 (qi 23 2 21 22),qt 20 (qf 24 0 23),qt 20 (ql 25 24),
  qt 20 (qm 26 3),qt 20 (qm 27 3),qt 20 (qL 28 27),qt 20 (qc 29 .sub 28 1),qt 20 (qi 30 2 26 29),qt 20 (qf 31 0 30),qt 20 (ql 32 31),
  qt 20 (qb 33 .leq 25 32),qa 34 20 33] [[0,1,2,3,4,5,6,7,8,9,10,11,12,13,14,15,16,17]] [0,3,4,5,34])
 (qC 34 (.exit 3)
 .skip))
 (.seq (qD [qm 35 4,qc 36 .lss 35 0,qm 37 36,qu 37 (qm 38 0),qu 37 (qm 39 5),qu 37 (qi 40 2 38 39),qu 37 (qf 41 0 40),qu 37 (ql 42 41),
  qu 37 (qm 43 0),qu 37 (qm 44 4),qu 37 (qi 45 2 43 44),qu 37 (qf 46 0 45),qu 37 (ql 47 46),qu 37 (qb 48 .lss 42 47),qr 49 37 48] [[0,1,2,3,4,5,6,7,8,9,10,11,12,13,14]] [0,3,4,5,49])
 (qC 49 (.reg [qm 50 5,qm 4 50] [0,3,4,5])
 .skip))))
 (.reg [qm 15 5,qc 16 .add 15 1,qm 5 16] [0,3,4,5]))))))
 (.reg [qm 51 3,qm 52 0,qm 53 4,qi 54 2 52 53,qN 55 2 54,
  qo 56 (.bslice 62 1 [(Value.string ⟨#[]⟩), (Value.string ⟨#[]⟩)] [(0, 2, (.tmp 55))]),
  qo 57 (.append 62 2 32 [(Value.string ⟨#[]⟩), (Value.string ⟨#[]⟩)] (.tmp 51) (.tmp 56)),qm 3 57] [0,3])))))))
 (qS [qm 58 3,qm 2 58] [2]
 .ret))))⟩)
theorem n115 : F115.n = 59 := rfl
theorem low115 : lowF Tryz.prog (kpO F115) (assoc [(7,[[0,1,2,3,4,5,6,7,8,9,10,11,12,13,14,15,16,17]]), (8,[[0,1,2,3,4,5,6,7,8,9,10,11,12,13,14]])]) 115 = some F115 := by kernel_rfl
def F66 : FIR := laid (X := ⟨45, [.tmp 2],
 (qS [qo 2 (.mv (.const (Value.slice none 0 0)))] [0]
 (qS [qo 3 (.mv (.const (Value.slice none 0 0)))] [0,3]
 (.seq (qS [qk 4 0] [0,3,4]
 (.block 0 (.loop (.seq (qS [qm 5 4,qm 6 0,qn 7 6,qf 8 1 7,ql 9 8,qL 10 9,qb 11 .lss 5 10] [0,3,4,11]
 (qC 11 .skip
 (.exit 0)))
 (.seq (.block 1 (qS [qm 14 0,qn 15 14,qf 16 1 15,ql 17 16,qm 18 4,qi 19 3 17 18,qf 20 0 19,ql 21 20,
  qo 22 (.bin .neq (.tmp 21) (.const (Value.string ⟨#[]⟩)))] [0,3,4,22]
 (qC 22 (qD [qm 23 3,qm 24 0,qn 25 24,qf 26 1 25,ql 27 26,qm 28 4,qi 29 3 27 28,qf 30 0 29,ql 31 30,qm 32 0,qn 33 32,qf 34 1 33,ql 35 34,qm 36 4,
  qi 37 3 35 36,qf 38 1 37,ql 39 38,qo 40 (.build [(Value.string ⟨#[]⟩), (Value.string ⟨#[]⟩)] [(0, 1, (.tmp 31)), (1, 1, (.tmp 39))]),
  qo 41 (.bslice 62 1 [(Value.string ⟨#[]⟩), (Value.string ⟨#[]⟩)] [(0, 2, (.tmp 40))]),
  qo 42 (.append 62 2 32 [(Value.string ⟨#[]⟩), (Value.string ⟨#[]⟩)] (.tmp 23) (.tmp 41)),qm 3 42] [[0,1,2,3,4,5,6,7,8,9,10,11,12,13,14,15,16,17,18,19,20]] [0,3,4])
 .skip)))
 (.reg [qm 12 4,qc 13 .add 12 1,qm 4 13] [0,3,4]))))))
 (qS [qm 43 3,qx 44 115 [43],qm 2 44] [2]
 .ret))))⟩)
theorem n66 : F66.n = 45 := rfl
theorem low66 : lowF Tryz.prog (kpO F66) (assoc [(6,[[0,1,2,3,4,5,6,7,8,9,10,11,12,13,14,15,16,17,18,19,20]])]) 66 = some F66 := by kernel_rfl
def F15 : FIR := laid (X := ⟨156, [.tmp 6],
 (qS [qo 6 (.mv (.const (Value.pointer none)))] [0,1,2]
 (qS [qm 14 0,qn 15 14,qf 16 5 15,ql 17 16,
  qo 18 (.build [(Value.slice none 0 0), (Value.slice none 0 0), (Value.slice none 0 0), (Value.slice none 0 0), (Value.slice none 0 0), (Value.int IntKind.i64 0), (Value.bool false)] [(5, 1, (.tmp 17))]),
  qB 19 91 18,qm 7 19] [0,1,2,7]
 (.seq (qD [qm 20 7,qm 21 7,qn 22 21,qf 23 0 22,ql 24 23,qm 25 2,qm 26 2,qL 27 26,
  qo 28 (.min2 (.tmp 27) (.const (Value.int IntKind.i64 65536))),qo 29 (.slcL 3 (.tmp 25) none (some (.tmp 28)) none),
  qo 30 (.append 70 3 32 [(Value.int IntKind.u8 0), (Value.int IntKind.i64 0), (Value.string ⟨#[]⟩)] (.tmp 24) (.tmp 29)),qn 31 20,qf 32 0 31,qs 1 32 30] [[0,1,2,3,4,5,6,7,8,9,10,11,12,13]] [0,1,7])
 (qS [qm 33 0,qn 34 33,qf 35 1 34,ql 36 35,qL 37 36,qo 38 (.mkslice 9 1 16 [(Value.string ⟨#[]⟩)] (.tmp 37) (.tmp 37)),qm 8 38] [0,1,7,8]
 (.seq (qS [qk 9 0] [0,1,7,8,9]
 (.block 0 (.loop (.seq (qS [qm 39 9,qm 40 0,qn 41 40,qf 42 1 41,ql 43 42,qL 44 43,qb 45 .lss 39 44] [0,1,7,8,9,45]
 (qC 45 .skip
 (.exit 0)))
 (.seq (.block 1 (.reg [qm 48 8,qm 49 9,qm 50 0,qn 51 50,qf 52 1 51,ql 53 52,qm 54 9,qi 55 3 53 54,qf 56 2 55,ql 57 56,qi 58 1 48 49,qs 1 58 57] [0,1,7,8,9]))
 (.reg [qm 46 9,qc 47 .add 46 1,qm 9 47] [0,1,7,8,9]))))))
 (qS [qk 10 0] [0,1,7,8,10]
 (.seq (qS [qk 11 0] [0,1,7,8,10,11]
 (.block 2 (.loop (.seq (qS [qm 59 11,qm 60 0,qn 61 60,qf 62 2 61,ql 63 62,qL 64 63,qb 65 .lss 59 64] [0,1,7,8,10,11,65]
 (qC 65 .skip
 (.exit 2)))
 (.seq (.block 3 (qS [qm 68 0,qn 69 68,qf 70 2 69,ql 71 70,qm 72 11,qi 73 4 71 72,qf 74 0 73,ql 75 74,qm 12 75] [0,1,7,8,10,11,12]
 (.seq (qS [qm 76 0,qn 77 76,qf 78 1 77,ql 79 78,qm 80 12,qi 81 3 79 80,qf 82 0 81,ql 83 82,
  qo 84 (.bin .eql (.tmp 83) (.const (Value.string ⟨#[]⟩)))] [0,1,7,8,10,11,12,84]
 (qC 84 (.exit 3)
 .skip))
 (.seq (qS [qm 85 10,qc 86 .lss 85 64,qm 87 86,qt 87 (qm 88 1),qt 87 (qo 89 (.bin .rem (.tmp 88) (.const (Value.int IntKind.u64 2)))),
  qt 87 (qo 90 (.bin .eql (.tmp 89) (.const (Value.int IntKind.u64 1)))),qa 91 87 90] [0,1,7,8,10,11,12,91]
 (qC 91 (qD [qm 92 8,qm 93 12,qm 94 8,qm 95 12,qi 96 1 94 95,ql 97 96,qm 98 0,qn 99 98,qf 100 2 99,ql 101 100,qm 102 11,qi 103 4 101 102,
  qN 104 4 103,qx 105 65 [97,104],qi 106 1 92 93,qs 1 106 105] [[0,1,2,3,4,5,6,7,8,9,10,11,12,13,14,15]] [0,1,7,8,10,11])
 .skip))
 (qS [qm 107 1,qo 108 (.bin .quo (.tmp 107) (.const (Value.int IntKind.u64 2))),qm 1 108] [0,1,7,8,10,11]
 (.reg [qm 109 10,qc 110 .add 109 1,qm 10 110] [0,1,7,8,10,11]))))))
 (.reg [qm 66 11,qc 67 .add 66 1,qm 11 67] [0,1,7,8,10,11]))))))
 (.seq (qS [qk 13 0] [0,7,8,13]
 (.block 4 (.loop (.seq (qS [qm 111 13,qm 112 0,qn 113 112,qf 114 1 113,ql 115 114,qL 116 115,qb 117 .lss 111 116] [0,7,8,13,117]
 (qC 117 .skip
 (.exit 4)))
 (.seq (.block 5 (qS [qm 120 0,qn 121 120,qf 122 1 121,ql 123 122,qm 124 13,qi 125 3 123 124,qf 126 0 125,ql 127 126,
  qo 128 (.bin .neq (.tmp 127) (.const (Value.string ⟨#[]⟩)))] [0,7,8,13,128]
 (qC 128 (qD [qm 129 7,qm 130 7,qn 131 130,qf 132 1 131,ql 133 132,qm 134 0,qn 135 134,qf 136 1 135,ql 137 136,qm 138 13,qi 139 3 137 138,
  qf 140 0 139,ql 141 140,qm 142 8,qm 143 13,qi 144 1 142 143,ql 145 144,qm 146 8,qm 147 13,qi 148 1 146 147,ql 149 148,
  qo 150 (.build [(Value.string ⟨#[]⟩), (Value.string ⟨#[]⟩), (Value.string ⟨#[]⟩)] [(0, 1, (.tmp 141)), (1, 1, (.tmp 145)), (2, 1, (.tmp 149))]),
  qo 151 (.bslice 94 1 [(Value.string ⟨#[]⟩), (Value.string ⟨#[]⟩), (Value.string ⟨#[]⟩)] [(0, 3, (.tmp 150))]),
  qo 152 (.append 94 3 48 [(Value.string ⟨#[]⟩), (Value.string ⟨#[]⟩), (Value.string ⟨#[]⟩)] (.tmp 133) (.tmp 151)),qn 153 129,qf 154 1 153,qs 1 154 152] [[0,1,2,3,4,5,6,7,8,9,10,11,12,13,14,15,16,17,18,19,20,21,22,23,24,25,26]] [0,7,8,13])
 .skip)))
 (.reg [qm 118 13,qc 119 .add 118 1,qm 13 119] [0,7,8,13]))))))
 (qS [qm 155 7,qm 6 155] [6]
 .ret)))))))))⟩)
theorem n15 : F15.n = 156 := rfl
theorem low15 : lowF Tryz.prog (kpO F15) (assoc [(2,[[0,1,2,3,4,5,6,7,8,9,10,11,12,13]]), (15,[[0,1,2,3,4,5,6,7,8,9,10,11,12,13,14,15]]), (22,[[0,1,2,3,4,5,6,7,8,9,10,11,12,13,14,15,16,17,18,19,20,21,22,23,24,25,26]])]) 15 = some F15 := by kernel_rfl
end Go.Proofs.YtgindbomnbojeaaGreat

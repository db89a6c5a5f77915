/-
  The code of functions, as terms: printed by a program, proved to be what the seat has.
-/
import Derived.Test.YtgindbomnbojeaaGreatCA
import Derived.KernelRfl
import Derived.Test.YtgindbomnbojeaaGreatProg
set_option linter.unusedSimpArgs false
set_option linter.unusedVariables false
namespace Go.Proofs.YtgindbomnbojeaaGreat
open Go Go.V
set_option maxRecDepth 100000
def F98 : FIR := laid (X := ⟨37, [.tmp 5],
 (qS [qk 5 0] [1,2,3]
 (qS [ql 9 1,ql 10 2,qo 11 (.call 88 [(.tmp 9), (.tmp 10), (.const (Value.bool false))]),qm 8 11,qe 12 8 0,qe 13 8 1,qm 6 12,qm 7 13] [3,6,7]
 (.seq (.block 0 (qS [qm 15 7,qc 16 .neq 15 0,qm 14 16] [3,6,7,14]
 (qC 14 (qS [qm 17 7,qm 5 17] [5]
 .ret)
 (.seq (qD [ql 19 3,qc 20 .lss 19 0,qm 21 20,qu 21 (ql 22 3),qu 21 (qm 23 6),qu 21 (qn 24 23),qu 21 (qf 25 2 24),qu 21 (ql 26 25),
  qu 21 (qn 27 26),qu 21 (qf 28 0 27),qu 21 (ql 29 28),qu 21 (qL 30 29),qu 21 (qb 31 .gtr 22 30),qr 32 21 31,qm 18 32] [[0,1,2,3,4,5,6,7,8,9,10,11,12,13,14]] [3,6,18])
 (qC 18 (qS [qk 5 1] [5]
 .ret)
 .skip)))))
 (qS [qm 33 6,ql 34 3,qn 35 33,qf 36 4 35,qs 1 36 34] []
 (qS [qk 5 0] [5]
 .ret)))))⟩)
theorem n98 : F98.n = 37 := rfl
theorem low98 : lowF Tryz.prog (kpO F98) (assoc [(4,[[0,1,2,3,4,5,6,7,8,9,10,11,12,13,14]])]) 98 = some F98 := by kernel_rfl
def F35 : FIR := laid (X := ⟨19, [.tmp 6],
 (qS [qB 3 29 0,qB 4 3 1,qB 5 3 2,qk 6 0] [3,4,5]
 (qS [ql 10 3,ql 11 4,ql 12 5,
  qo 13 (.build [(Value.int IntKind.u8 0), (Value.int IntKind.i64 0), (Value.string ⟨#[]⟩), (Value.string ⟨#[]⟩), (Value.int IntKind.i64 0), (Value.int IntKind.i64 0)] [(0, 1, (.const (Value.int IntKind.u8 4))), (1, 1, (.tmp 11)), (4, 1, (.tmp 12))]),
  qo 14 (.clos (.func 98) [] [(.tmp 3), (.tmp 4), (.tmp 5)]),qx 15 81 [10,13,14],qm 9 15,qe 16 9 0,qe 17 9 1,
  qo 7 (.alloc 74 [(Value.int IntKind.u8 0), (Value.int IntKind.i64 0), (Value.string ⟨#[]⟩), (Value.string ⟨#[]⟩), (Value.int IntKind.i64 0), (Value.int IntKind.i64 0)]),
  qs 6 7 16,qm 8 17] [8]
 (qS [qm 18 8,qm 6 18] [6]
 .ret)))⟩)
theorem n35 : F35.n = 19 := rfl
theorem low35 : lowF Tryz.prog (kpO F35) (assoc []) 35 = some F35 := by kernel_rfl
def F102 : FIR := laid (X := ⟨27, [.tmp 4],
 (qS [qk 4 0] [1,2]
 (qS [ql 8 1,ql 9 2,qx 10 103 [8,9],qm 7 10,qe 11 7 0,qe 12 7 1,qm 5 11,qm 6 12] [5,6]
 (.seq (.block 0 (qS [qm 14 6,qc 15 .neq 14 0,qm 13 15] [5,6,13]
 (qC 13 (qS [qm 16 6,qm 4 16] [4]
 .ret)
 (qS [qm 18 5,qn 19 18,qf 20 0 19,qf 21 1 20,ql 22 21,qm 17 22] [5,17]
 (qC 17 (qS [qk 4 31] [4]
 .ret)
 .skip)))))
 (qS [qm 23 5,qn 24 23,qf 25 0 24,qf 26 0 25,⟨none,none,.store 1 (.tmp 26) (.const (Value.bool true))⟩] []
 (qS [qk 4 0] [4]
 .ret)))))⟩)
theorem n102 : F102.n = 27 := rfl
theorem low102 : lowF Tryz.prog (kpO F102) (assoc []) 102 = some F102 := by kernel_rfl
def F39 : FIR := laid (X := ⟨16, [.tmp 4],
 (qS [qB 2 29 0,qB 3 3 1,qk 4 0] [2,3]
 (qS [ql 8 2,ql 9 3,
  qo 10 (.build [(Value.int IntKind.u8 0), (Value.int IntKind.i64 0), (Value.string ⟨#[]⟩), (Value.string ⟨#[]⟩), (Value.int IntKind.i64 0), (Value.int IntKind.i64 0)] [(0, 1, (.const (Value.int IntKind.u8 6))), (1, 1, (.tmp 9))]),
  qo 11 (.clos (.func 102) [] [(.tmp 2), (.tmp 3)]),qx 12 81 [8,10,11],qm 7 12,qe 13 7 0,qe 14 7 1,
  qo 5 (.alloc 74 [(Value.int IntKind.u8 0), (Value.int IntKind.i64 0), (Value.string ⟨#[]⟩), (Value.string ⟨#[]⟩), (Value.int IntKind.i64 0), (Value.int IntKind.i64 0)]),
  qs 6 5 13,qm 6 14] [6]
 (qS [qm 15 6,qm 4 15] [4]
 .ret)))⟩)
theorem n39 : F39.n = 16 := rfl
theorem low39 : lowF Tryz.prog (kpO F39) (assoc []) 39 = some F39 := by kernel_rfl
def F101 : FIR := laid (X := ⟨36, [.tmp 4],
 (qS [qk 4 0] [1,2]
 (qS [ql 8 1,ql 9 2,qo 10 (.call 88 [(.tmp 8), (.tmp 9), (.const (Value.bool false))]),qm 7 10,qe 11 7 0,qe 12 7 1,qm 5 11,qm 6 12] [5,6]
 (.seq (qS [qm 13 6,qc 14 .eql 13 0] [5,6,14]
 (qC 14 (qD [qm 15 5,qn 16 15,qf 17 2 16,ql 18 17,qm 19 5,qn 20 19,qf 21 2 20,ql 22 21,qm 23 5,qn 24 23,qf 25 2 24,ql 26 25,qn 27 26,qf 28 0 27,
  ql 29 28,qx 30 63 [29],qn 31 18,qf 32 1 31,qs 1 32 30,qn 33 22,qf 34 2 33,⟨none,none,.store 1 (.tmp 34) (.const (Value.slice none 0 0))⟩] [[0,1,2,3,4,5,6,7,8,9,10,11,12,13,14,15,16,17,18,19,20,21], [0,1,2,4,5,6,7,3,8,9,10,11,12,13,14,15,16,17,18,19,20,21], [0,1,2,4,5,6,7,8,9,10,11,12,13,14,15,3,16,17,18,19,20,21], [0,1,2,3,4,5,6,8,9,10,11,12,13,14,15,7,16,17,18,19,20,21], [0,1,2,4,5,6,8,9,10,11,12,13,14,15,3,7,16,17,18,19,20,21], [0,1,2,4,5,6,8,9,10,11,12,13,14,15,7,3,16,17,18,19,20,21]] [6])
 .skip))
 (qS [qm 35 6,qm 4 35] [4]
 .ret))))⟩)
theorem n101 : F101.n = 36 := rfl
theorem low101 : lowF Tryz.prog (kpO F101) (assoc [(3,[[0,1,2,3,4,5,6,7,8,9,10,11,12,13,14,15,16,17,18,19,20,21], [0,1,2,4,5,6,7,3,8,9,10,11,12,13,14,15,16,17,18,19,20,21], [0,1,2,4,5,6,7,8,9,10,11,12,13,14,15,3,16,17,18,19,20,21], [0,1,2,3,4,5,6,8,9,10,11,12,13,14,15,7,16,17,18,19,20,21], [0,1,2,4,5,6,8,9,10,11,12,13,14,15,3,7,16,17,18,19,20,21], [0,1,2,4,5,6,8,9,10,11,12,13,14,15,7,3,16,17,18,19,20,21]])]) 101 = some F101 := by kernel_rfl
def F37 : FIR := laid (X := ⟨16, [.tmp 4],
 (qS [qB 2 29 0,qB 3 3 1,qk 4 0] [2,3]
 (qS [ql 8 2,ql 9 3,
  qo 10 (.build [(Value.int IntKind.u8 0), (Value.int IntKind.i64 0), (Value.string ⟨#[]⟩), (Value.string ⟨#[]⟩), (Value.int IntKind.i64 0), (Value.int IntKind.i64 0)] [(0, 1, (.const (Value.int IntKind.u8 5))), (1, 1, (.tmp 9))]),
  qo 11 (.clos (.func 101) [] [(.tmp 2), (.tmp 3)]),qx 12 81 [8,10,11],qm 7 12,qe 13 7 0,qe 14 7 1,
  qo 5 (.alloc 74 [(Value.int IntKind.u8 0), (Value.int IntKind.i64 0), (Value.string ⟨#[]⟩), (Value.string ⟨#[]⟩), (Value.int IntKind.i64 0), (Value.int IntKind.i64 0)]),
  qs 6 5 13,qm 6 14] [6]
 (qS [qm 15 6,qm 4 15] [4]
 .ret)))⟩)
theorem n37 : F37.n = 16 := rfl
theorem low37 : lowF Tryz.prog (kpO F37) (assoc []) 37 = some F37 := by kernel_rfl
def F104 : FIR := laid (X := ⟨40, [.tmp 5],
 (qS [qk 5 0] [1,2,3]
 (.seq (qD [ql 9 1,qn 10 9,qf 11 1 10,ql 12 11,ql 13 2,qo 14 (.lookup .str (Value.pointer none) true (.tmp 12) (.tmp 13)),qm 8 14,qe 15 8 0,
  qe 16 8 1,qm 6 15,qm 7 16] [[0,1,2,3,4,5,6,7,8,9,10]] [1,2,3,6,7])
 (.seq (.block 0 (qS [ql 18 2,qx 19 26 [18],qo 20 (.un .not (.tmp 19)),qm 21 20,qu 21 (ql 22 3),qu 21 (qx 23 26 [22]),qu 21 (qo 24 (.un .not (.tmp 23))),
  qr 25 21 24,qm 17 25] [1,2,3,6,7,17]
 (qC 17 (qS [qk 5 35] [5]
 .ret)
 (qS [qm 27 7,qo 28 (.un .not (.tmp 27)),qm 26 28] [1,2,3,6,26]
 (qC 26 (qS [qk 5 32] [5]
 .ret)
 .skip)))))
 (.seq (qD [ql 29 1,qn 30 29,qf 31 1 30,ql 32 31,ql 33 2,⟨none,none,.delete .str (.tmp 32) (.tmp 33)⟩] [[0,1,2,3,4,5]] [1,3,6])
 (.seq (qD [ql 34 1,qn 35 34,qf 36 1 35,ql 37 36,ql 38 3,qm 39 6,⟨none,none,.mapupd .str (.tmp 37) (.tmp 38) (.tmp 39)⟩] [[0,1,2,3,4,5,6]] [])
 (qS [qk 5 0] [5]
 .ret))))))⟩)
theorem n104 : F104.n = 40 := rfl
theorem low104 : lowF Tryz.prog (kpO F104) (assoc [(1,[[0,1,2,3,4,5,6,7,8,9,10]]), (6,[[0,1,2,3,4,5]]), (7,[[0,1,2,3,4,5,6]])]) 104 = some F104 := by kernel_rfl
def F41 : FIR := laid (X := ⟨19, [.tmp 6],
 (qS [qB 3 29 0,qB 4 9 1,qB 5 9 2,qk 6 0] [3,4,5]
 (qS [ql 10 3,ql 11 4,ql 12 5,
  qo 13 (.build [(Value.int IntKind.u8 0), (Value.int IntKind.i64 0), (Value.string ⟨#[]⟩), (Value.string ⟨#[]⟩), (Value.int IntKind.i64 0), (Value.int IntKind.i64 0)] [(0, 1, (.const (Value.int IntKind.u8 7))), (2, 1, (.tmp 11)), (3, 1, (.tmp 12))]),
  qo 14 (.clos (.func 104) [] [(.tmp 3), (.tmp 4), (.tmp 5)]),qx 15 81 [10,13,14],qm 9 15,qe 16 9 0,qe 17 9 1,
  qo 7 (.alloc 74 [(Value.int IntKind.u8 0), (Value.int IntKind.i64 0), (Value.string ⟨#[]⟩), (Value.string ⟨#[]⟩), (Value.int IntKind.i64 0), (Value.int IntKind.i64 0)]),
  qs 6 7 16,qm 8 17] [8]
 (qS [qm 18 8,qm 6 18] [6]
 .ret)))⟩)
theorem n41 : F41.n = 19 := rfl
theorem low41 : lowF Tryz.prog (kpO F41) (assoc []) 41 = some F41 := by kernel_rfl
def F105 : FIR := laid (X := ⟨28, [.tmp 4],
 (qS [qk 4 0] [1,2]
 (.seq (qD [ql 8 1,qn 9 8,qf 10 1 9,ql 11 10,ql 12 2,qo 13 (.lookup .str (Value.pointer none) true (.tmp 11) (.tmp 12)),qm 7 13,qe 14 7 0,
  qe 15 7 1,qm 5 14,qm 6 15] [[0,1,2,3,4,5,6,7,8,9,10]] [1,2,6])
 (.seq (.block 0 (qS [ql 17 2,qx 18 26 [17],qo 19 (.un .not (.tmp 18)),qm 16 19] [1,2,6,16]
 (qC 16 (qS [qk 4 35] [4]
 .ret)
 (qS [qm 21 6,qo 22 (.un .not (.tmp 21)),qm 20 22] [1,2,20]
 (qC 20 (qS [qk 4 32] [4]
 .ret)
 .skip)))))
 (.seq (qD [ql 23 1,qn 24 23,qf 25 1 24,ql 26 25,ql 27 2,⟨none,none,.delete .str (.tmp 26) (.tmp 27)⟩] [[0,1,2,3,4,5]] [])
 (qS [qk 4 0] [4]
 .ret)))))⟩)
theorem n105 : F105.n = 28 := rfl
theorem low105 : lowF Tryz.prog (kpO F105) (assoc [(1,[[0,1,2,3,4,5,6,7,8,9,10]]), (6,[[0,1,2,3,4,5]])]) 105 = some F105 := by kernel_rfl
def F43 : FIR := laid (X := ⟨16, [.tmp 4],
 (qS [qB 2 29 0,qB 3 9 1,qk 4 0] [2,3]
 (qS [ql 8 2,ql 9 3,
  qo 10 (.build [(Value.int IntKind.u8 0), (Value.int IntKind.i64 0), (Value.string ⟨#[]⟩), (Value.string ⟨#[]⟩), (Value.int IntKind.i64 0), (Value.int IntKind.i64 0)] [(0, 1, (.const (Value.int IntKind.u8 8))), (2, 1, (.tmp 9))]),
  qo 11 (.clos (.func 105) [] [(.tmp 2), (.tmp 3)]),qx 12 81 [8,10,11],qm 7 12,qe 13 7 0,qe 14 7 1,
  qo 5 (.alloc 74 [(Value.int IntKind.u8 0), (Value.int IntKind.i64 0), (Value.string ⟨#[]⟩), (Value.string ⟨#[]⟩), (Value.int IntKind.i64 0), (Value.int IntKind.i64 0)]),
  qs 6 5 13,qm 6 14] [6]
 (qS [qm 15 6,qm 4 15] [4]
 .ret)))⟩)
theorem n43 : F43.n = 16 := rfl
theorem low43 : lowF Tryz.prog (kpO F43) (assoc []) 43 = some F43 := by kernel_rfl
def F106 : FIR := laid (X := ⟨37, [.tmp 5],
 (qS [qB 3 70 0,qk 5 0] [1,2,3]
 (.seq (qS [qf 6 0 3,ql 7 6,qo 8 (.bin .eql (.tmp 7) (.const (Value.int IntKind.u8 1))),qm 9 8,qt 9 (qf 10 1 3),qt 9 (ql 11 10),
  qt 9 (qc 12 .geq 11 0),qa 13 9 12,qm 14 13,qt 14 (qf 15 1 3),qt 14 (ql 16 15),qt 14 (qc 17 .leq 16 1000000000000),qa 18 14 17] [1,2,3,18]
 (qC 18 (qD [ql 19 2,ql 20 2,qn 21 20,qf 22 4 21,ql 23 22,qf 24 1 3,ql 25 24,qb 26 .add 23 25,
  qo 27 (.min2 (.tmp 26) (.const (Value.int IntKind.i64 1000000000000000000))),qn 28 19,qf 29 4 28,qs 1 29 27] [[0,1,2,3,4,5,6,7,8,9,10,11]] [1,2])
 .skip))
 (qS [qm 30 1,ql 31 2,qn 32 31,qf 33 4 32,ql 34 33,qn 35 30,qf 36 4 35,qs 1 36 34] []
 (qS [qk 5 0] [5]
 .ret))))⟩)
theorem n106 : F106.n = 37 := rfl
theorem low106 : lowF Tryz.prog (kpO F106) (assoc [(2,[[0,1,2,3,4,5,6,7,8,9,10,11]])]) 106 = some F106 := by kernel_rfl
def F45 : FIR := laid (X := ⟨16, [.tmp 2, .tmp 3],
 (qS [qB 1 29 0,qk 2 0,qk 3 0] [1]
 (qS [ql 7 1,
  qo 8 (.build [(Value.int IntKind.u8 0), (Value.int IntKind.i64 0), (Value.string ⟨#[]⟩), (Value.string ⟨#[]⟩), (Value.int IntKind.i64 0), (Value.int IntKind.i64 0)] [(0, 1, (.const (Value.int IntKind.u8 9)))]),
  qo 9 (.clos (.func 106) [] [(.tmp 1)]),qx 10 90 [7,8,9],qm 6 10,qe 11 6 0,qe 12 6 1,
  qo 4 (.alloc 74 [(Value.int IntKind.u8 0), (Value.int IntKind.i64 0), (Value.string ⟨#[]⟩), (Value.string ⟨#[]⟩), (Value.int IntKind.i64 0), (Value.int IntKind.i64 0)]),
  qs 6 4 11,qm 5 12] [4,5]
 (qS [qf 13 4 4,ql 14 13,qm 15 5,qm 2 14,qm 3 15] [2,3]
 .ret)))⟩)
theorem n45 : F45.n = 16 := rfl
theorem low45 : lowF Tryz.prog (kpO F45) (assoc []) 45 = some F45 := by kernel_rfl
def F107 : FIR := laid (X := ⟨40, [.tmp 6],
 (qS [qB 4 70 0,qk 6 0] [1,2,3,4]
 (.seq (.block 0 (qS [ql 8 2,qx 9 26 [8],qo 10 (.un .not (.tmp 9)),qm 7 10] [1,2,3,4,7]
 (qC 7 (qS [qk 6 35] [6]
 .ret)
 (qS [qf 12 0 4,ql 13 12,qo 14 (.bin .neq (.tmp 13) (.const (Value.int IntKind.u8 2))),qm 15 14,qu 15 (qf 16 2 4),qu 15 (ql 17 16),
  qu 15 (ql 18 2),qu 15 (qb 19 .neq 17 18),qr 20 15 19,qm 11 20] [1,3,4,11]
 (qC 11 (qS [qk 6 32] [6]
 .ret)
 (qS [qf 22 1 4,ql 23 22,qx 24 108 [23],qc 25 .neq 24 0,qm 21 25] [1,3,4,21]
 (qC 21 (qS [qf 26 1 4,ql 27 26,qx 28 108 [27],qm 6 28] [6]
 .ret)
 (qS [ql 30 3,qx 31 83 [30],qc 32 .geq 31 32,qm 29 32] [1,3,29]
 (qC 29 (qS [qk 6 34] [6]
 .ret)
 .skip)))))))))
 (qS [qm 33 1,ql 34 3,
  qo 35 (.build [(Value.bool false), (Value.bool false), (Value.pointer none), (Value.int IntKind.i64 0), (Value.int IntKind.i64 0)] []),qB 36 138 35,
  qx 37 86 [34,36],qn 38 33,qf 39 1 38,qs 1 39 37] []
 (qS [qk 6 0] [6]
 .ret))))⟩)
theorem n107 : F107.n = 40 := rfl
theorem low107 : lowF Tryz.prog (kpO F107) (assoc []) 107 = some F107 := by kernel_rfl
def F47 : FIR := laid (X := ⟨19, [.tmp 4, .tmp 5],
 (qS [qB 2 29 0,qB 3 9 1,qk 4 0,qk 5 0] [2,3]
 (qS [ql 9 2,ql 10 3,
  qo 11 (.build [(Value.int IntKind.u8 0), (Value.int IntKind.i64 0), (Value.string ⟨#[]⟩), (Value.string ⟨#[]⟩), (Value.int IntKind.i64 0), (Value.int IntKind.i64 0)] [(0, 1, (.const (Value.int IntKind.u8 10))), (2, 1, (.tmp 10))]),
  qo 12 (.clos (.func 107) [] [(.tmp 3), (.tmp 2)]),qx 13 90 [9,11,12],qm 8 13,qe 14 8 0,qe 15 8 1,
  qo 6 (.alloc 74 [(Value.int IntKind.u8 0), (Value.int IntKind.i64 0), (Value.string ⟨#[]⟩), (Value.string ⟨#[]⟩), (Value.int IntKind.i64 0), (Value.int IntKind.i64 0)]),
  qs 6 6 14,qm 7 15] [6,7]
 (qS [qf 16 1 6,ql 17 16,qm 18 7,qm 4 17,qm 5 18] [4,5]
 .ret)))⟩)
theorem n47 : F47.n = 19 := rfl
theorem low47 : lowF Tryz.prog (kpO F47) (assoc []) 47 = some F47 := by kernel_rfl
def F110 : FIR := laid (X := ⟨16, [.tmp 6],
 (qS [qB 4 70 0,qk 6 0] [2,3]
 (qS [ql 10 2,ql 11 3,qo 12 (.call 88 [(.tmp 10), (.tmp 11), (.const (Value.bool true))]),qm 9 12,qe 13 9 0,qe 14 9 1,qm 7 13,qm 8 14] [8]
 (qS [qm 15 8,qm 6 15] [6]
 .ret)))⟩)
theorem n110 : F110.n = 16 := rfl
theorem low110 : lowF Tryz.prog (kpO F110) (assoc []) 110 = some F110 := by kernel_rfl
def F49 : FIR := laid (X := ⟨19, [.tmp 6],
 (qS [qB 3 29 0,qB 4 3 1,qk 6 0] [2,3,4]
 (qS [ql 10 3,ql 11 4,qm 12 2,
  qo 13 (.build [(Value.int IntKind.u8 0), (Value.int IntKind.i64 0), (Value.string ⟨#[]⟩), (Value.string ⟨#[]⟩), (Value.int IntKind.i64 0), (Value.int IntKind.i64 0)] [(0, 1, (.const (Value.int IntKind.u8 11))), (1, 1, (.tmp 11)), (2, 1, (.tmp 12))]),
  qo 14 (.clos (.func 110) [] [(.tmp 3), (.tmp 4)]),qx 15 90 [10,13,14],qm 9 15,qe 16 9 0,qe 17 9 1,
  qo 7 (.alloc 74 [(Value.int IntKind.u8 0), (Value.int IntKind.i64 0), (Value.string ⟨#[]⟩), (Value.string ⟨#[]⟩), (Value.int IntKind.i64 0), (Value.int IntKind.i64 0)]),
  qs 6 7 16,qm 8 17] [8]
 (qS [qm 18 8,qm 6 18] [6]
 .ret)))⟩)
theorem n49 : F49.n = 19 := rfl
theorem low49 : lowF Tryz.prog (kpO F49) (assoc []) 49 = some F49 := by kernel_rfl
def F111 : FIR := laid (X := ⟨46, [.tmp 7],
 (qS [qB 5 70 0,qk 7 0] [1,2,3,4,5]
 (qS [ql 11 2,ql 12 3,qo 13 (.call 88 [(.tmp 11), (.tmp 12), (.const (Value.bool true))]),qm 10 13,qe 14 10 0,qe 15 10 1,qm 8 14,qm 9 15] [1,4,5,9]
 (.seq (.block 0 (qS [qm 17 9,qc 18 .neq 17 0,qm 16 18] [1,4,5,9,16]
 (qC 16 (qS [qm 19 9,qm 7 19] [7]
 .ret)
 (qS [ql 21 4,qc 22 .lss 21 0,qm 20 22] [1,4,5,20]
 (qC 20 (qS [qk 7 1] [7]
 .ret)
 (qS [qf 24 0 5,ql 25 24,qo 26 (.bin .neq (.tmp 25) (.const (Value.int IntKind.u8 3))),qm 23 26] [1,4,5,23]
 (qC 23 (qS [qk 7 0] [7]
 .ret)
 (qS [qf 28 1 5,ql 29 28,qx 30 108 [29],qc 31 .neq 30 0,qm 27 31] [1,4,5,27]
 (qC 27 (qS [qf 32 1 5,ql 33 32,qx 34 108 [33],qm 7 34] [7]
 .ret)
 .skip)))))))))
 (qS [qm 35 1,qf 36 2 5,ql 37 36,ql 38 4,qf 39 2 5,ql 40 39,qo 41 (.lenS (.tmp 40)),qo 42 (.min2 (.tmp 38) (.tmp 41)),
  qo 43 (.slcS (.tmp 37) none (some (.tmp 42))),qn 44 35,qf 45 2 44,qs 1 45 43] []
 (qS [qk 7 0] [7]
 .ret)))))⟩)
theorem n111 : F111.n = 46 := rfl
theorem low111 : lowF Tryz.prog (kpO F111) (assoc []) 111 = some F111 := by kernel_rfl
def F51 : FIR := laid (X := ⟨22, [.tmp 6, .tmp 7],
 (qS [qB 3 29 0,qB 4 3 1,qB 5 3 2,qo 6 (.mv (.const (Value.string ⟨#[]⟩))),qk 7 0] [3,4,5]
 (qS [ql 11 3,ql 12 4,ql 13 5,
  qo 14 (.build [(Value.int IntKind.u8 0), (Value.int IntKind.i64 0), (Value.string ⟨#[]⟩), (Value.string ⟨#[]⟩), (Value.int IntKind.i64 0), (Value.int IntKind.i64 0)] [(0, 1, (.const (Value.int IntKind.u8 12))), (1, 1, (.tmp 12)), (4, 1, (.tmp 13))]),
  qo 15 (.clos (.func 111) [] [(.tmp 3), (.tmp 4), (.tmp 5)]),qx 16 90 [11,14,15],qm 10 16,qe 17 10 0,qe 18 10 1,
  qo 8 (.alloc 74 [(Value.int IntKind.u8 0), (Value.int IntKind.i64 0), (Value.string ⟨#[]⟩), (Value.string ⟨#[]⟩), (Value.int IntKind.i64 0), (Value.int IntKind.i64 0)]),
  qs 6 8 17,qm 9 18] [8,9]
 (qS [qf 19 2 8,ql 20 19,qm 21 9,qm 6 20,qm 7 21] [6,7]
 .ret)))⟩)
theorem n51 : F51.n = 22 := rfl
theorem low51 : lowF Tryz.prog (kpO F51) (assoc []) 51 = some F51 := by kernel_rfl
def F91 : FIR := laid (X := ⟨5, [.tmp 4],
 (qS [qB 2 70 0,qk 4 0] []
 (qS [qk 4 0] [4]
 .ret))⟩)
theorem n91 : F91.n = 5 := rfl
theorem low91 : lowF Tryz.prog (kpO F91) (assoc []) 91 = some F91 := by kernel_rfl
def F23 : FIR := laid (X := ⟨15, [.tmp 4],
 (qS [qk 4 0] [0,1]
 (qS [qm 8 0,qm 9 1,
  qo 10 (.build [(Value.int IntKind.u8 0), (Value.int IntKind.i64 0), (Value.string ⟨#[]⟩), (Value.string ⟨#[]⟩), (Value.int IntKind.i64 0), (Value.int IntKind.i64 0)] [(0, 1, (.const (Value.int IntKind.u8 13))), (2, 1, (.tmp 9))]),
  qo 11 (.call 90 [(.tmp 8), (.tmp 10), (.func 91)]),qm 7 11,qe 12 7 0,qe 13 7 1,
  qo 5 (.alloc 74 [(Value.int IntKind.u8 0), (Value.int IntKind.i64 0), (Value.string ⟨#[]⟩), (Value.string ⟨#[]⟩), (Value.int IntKind.i64 0), (Value.int IntKind.i64 0)]),
  qs 6 5 12,qm 6 13] [6]
 (qS [qm 14 6,qm 4 14] [4]
 .ret)))⟩)
theorem n23 : F23.n = 15 := rfl
theorem low23 : lowF Tryz.prog (kpO F23) (assoc []) 23 = some F23 := by kernel_rfl
def F112 : FIR := laid (X := ⟨5, [.tmp 4],
 (qS [qB 2 70 0,qk 4 0] []
 (qS [qk 4 0] [4]
 .ret))⟩)
theorem n112 : F112.n = 5 := rfl
theorem low112 : lowF Tryz.prog (kpO F112) (assoc []) 112 = some F112 := by kernel_rfl
def F54 : FIR := laid (X := ⟨15, [.tmp 4],
 (qS [qk 4 0] [0,1]
 (qS [qm 8 0,qm 9 1,
  qo 10 (.build [(Value.int IntKind.u8 0), (Value.int IntKind.i64 0), (Value.string ⟨#[]⟩), (Value.string ⟨#[]⟩), (Value.int IntKind.i64 0), (Value.int IntKind.i64 0)] [(0, 1, (.const (Value.int IntKind.u8 14))), (4, 1, (.tmp 9))]),
  qo 11 (.call 90 [(.tmp 8), (.tmp 10), (.func 112)]),qm 7 11,qe 12 7 0,qe 13 7 1,
  qo 5 (.alloc 74 [(Value.int IntKind.u8 0), (Value.int IntKind.i64 0), (Value.string ⟨#[]⟩), (Value.string ⟨#[]⟩), (Value.int IntKind.i64 0), (Value.int IntKind.i64 0)]),
  qs 6 5 12,qm 6 13] [6]
 (qS [qm 14 6,qm 4 14] [4]
 .ret)))⟩)
theorem n54 : F54.n = 15 := rfl
theorem low54 : lowF Tryz.prog (kpO F54) (assoc []) 54 = some F54 := by kernel_rfl
def F87 : FIR := laid (X := ⟨71, [.tmp 5],
 (qS [qk 5 0] [0,1,2,3]
 (qS [ql 10 1,ql 11 2,qo 12 (.call 88 [(.tmp 10), (.tmp 11), (.const (Value.bool false))]),qm 9 12,qe 13 9 0,qe 14 9 1,qm 6 13,qm 7 14] [0,3,6,7]
 (.seq (.block 0 (qS [qm 16 7,qc 17 .neq 16 0,qm 15 17] [0,3,6,7,15]
 (qC 15 (qS [qm 18 7,qm 5 18] [5]
 .ret)
 (qS [qm 20 6,qn 21 20,qf 22 3 21,ql 23 22,qc 24 .neq 23 1,qm 19 24] [0,3,6,19]
 (qC 19 (qS [qk 5 33] [5]
 .ret)
 (qS [ql 26 3,qc 27 .lss 26 0,qm 25 27] [0,3,6,25]
 (qC 25 (qS [qk 5 1] [5]
 .ret)
 .skip)))))))
 (.seq (qD [qm 28 6,qn 29 28,qf 30 2 29,ql 31 30,qn 32 31,qf 33 0 32,ql 34 33,qm 35 6,qn 36 35,qf 37 4 36,ql 38 37,qm 39 6,qn 40 39,qf 41 2 40,
  ql 42 41,qn 43 42,qf 44 0 43,ql 45 44,qL 46 45,qo 47 (.min2 (.tmp 38) (.tmp 46)),qo 48 (.slcL 1 (.tmp 34) (some (.tmp 47)) none none),qm 8 48] [[0,1,2,3,4,5,6,7,8,9,10,11,12,13,14,15,16,17,18,19,20,21]] [0,3,6,8])
 (qS [qm 49 0,qm 50 8,ql 51 3,qm 52 8,qL 53 52,qo 54 (.min2 (.tmp 51) (.tmp 53)),qo 55 (.slcL 1 (.tmp 50) none (some (.tmp 54)) none),
  qo 56 (.b2s (.tmp 55)),qn 57 49,qf 58 2 57,qs 1 58 56] [0,6]
 (.seq (qD [qm 59 6,qn 60 59,qf 61 4 60,ql 62 61,qm 63 0,qn 64 63,qf 65 2 64,ql 66 65,qo 67 (.lenS (.tmp 66)),qb 68 .add 62 67,qn 69 59,
  qf 70 4 69,qs 1 70 68] [[0,1,2,3,4,5,6,7,8,9,10,11,12]] [])
 (qS [qk 5 0] [5]
 .ret)))))))⟩)
theorem n87 : F87.n = 71 := rfl
theorem low87 : lowF Tryz.prog (kpO F87) (assoc [(8,[[0,1,2,3,4,5,6,7,8,9,10,11,12,13,14,15,16,17,18,19,20,21]]), (10,[[0,1,2,3,4,5,6,7,8,9,10,11,12]])]) 87 = some F87 := by kernel_rfl
def F21 : FIR := laid (X := ⟨22, [.tmp 6, .tmp 7],
 (qS [qB 3 29 0,qB 4 3 1,qB 5 3 2,qo 6 (.mv (.const (Value.string ⟨#[]⟩))),qk 7 0] [3,4,5]
 (qS [ql 11 3,ql 12 4,ql 13 5,
  qo 14 (.build [(Value.int IntKind.u8 0), (Value.int IntKind.i64 0), (Value.string ⟨#[]⟩), (Value.string ⟨#[]⟩), (Value.int IntKind.i64 0), (Value.int IntKind.i64 0)] [(0, 1, (.const (Value.int IntKind.u8 2))), (1, 1, (.tmp 12)), (4, 1, (.tmp 13))]),
  qo 15 (.clos (.func 87) [] [(.tmp 3), (.tmp 4), (.tmp 5)]),qx 16 81 [11,14,15],qm 10 16,qe 17 10 0,qe 18 10 1,
  qo 8 (.alloc 74 [(Value.int IntKind.u8 0), (Value.int IntKind.i64 0), (Value.string ⟨#[]⟩), (Value.string ⟨#[]⟩), (Value.int IntKind.i64 0), (Value.int IntKind.i64 0)]),
  qs 6 8 17,qm 9 18] [8,9]
 (qS [qf 19 2 8,ql 20 19,qm 21 9,qm 6 20,qm 7 21] [6,7]
 .ret)))⟩)
theorem n21 : F21.n = 22 := rfl
theorem low21 : lowF Tryz.prog (kpO F21) (assoc []) 21 = some F21 := by kernel_rfl
def F63 : FIR := laid (X := ⟨8, [.tmp 2],
 (qS [qo 2 (.mv (.const (Value.slice none 0 0)))] [0]
 (.seq (qS [qm 3 0,qo 4 (.eqnil false .slice (.tmp 3))] [0,4]
 (qC 4 (qS [qo 2 (.mv (.const (Value.slice none 0 0)))] [2]
 .ret)
 .skip))
 (qS [qo 5 (.bslice 5 0 [(Value.int IntKind.u8 0)] []),qm 6 0,qo 7 (.append 5 1 1 [(Value.int IntKind.u8 0)] (.tmp 5) (.tmp 6)),qm 2 7] [2]
 .ret)))⟩)
theorem n63 : F63.n = 8 := rfl
theorem low63 : lowF Tryz.prog (kpO F63) (assoc []) 63 = some F63 := by kernel_rfl
def F60 : FIR := laid (X := ⟨29, [.tmp 4, .tmp 5],
 (qS [qk 4 0,qk 5 0] [0,1]
 (.seq (qS [qm 8 0,qn 9 8,qf 10 6 9,ql 11 10] [0,1,11]
 (qC 11 (qS [qk 4 0,qk 5 36] [4,5]
 .ret)
 .skip))
 (qS [qm 13 0,qm 14 1,qo 15 (.call 88 [(.tmp 13), (.tmp 14), (.const (Value.bool false))]),qm 12 15,qe 16 12 0,qe 17 12 1,qm 6 16,qm 7 17] [6,7]
 (.seq (qS [qm 18 7,qc 19 .neq 18 0] [6,7,19]
 (qC 19 (qS [qm 20 7,qk 4 0,qm 5 20] [4,5]
 .ret)
 .skip))
 (qS [qm 21 6,qn 22 21,qf 23 2 22,ql 24 23,qn 25 24,qf 26 0 25,ql 27 26,qL 28 27,qm 4 28,qk 5 0] [4,5]
 .ret)))))⟩)
theorem n60 : F60.n = 29 := rfl
theorem low60 : lowF Tryz.prog (kpO F60) (assoc []) 60 = some F60 := by kernel_rfl
def F7 : FIR := laid (X := ⟨72, [.tmp 4, .tmp 5],
 (qS [qo 4 (.mv (.const (Value.pointer none))),qk 5 0] [0,1]
 (qS [qo 11 (.mkmap),
  qo 12 (.build [(Value.slice none 0 0), (Value.map none), (Value.slice none 0 0), (Value.slice none 0 0), (Value.int IntKind.i64 0), (Value.int IntKind.i64 0), (Value.bool false)] [(1, 1, (.tmp 11))]),
  qB 13 79 12,qm 6 13] [0,1,6]
 (.seq (qS [qm 14 1,qL 15 14,qk 16 0] [0,1,6,14,15,16]
 (.block 0 (.loop (qS [qb 17 .lss 16 15] [0,1,6,14,15,16,17]
 (.seq (qC 17 .skip
 (.exit 0))
 (.seq (.block 1 (qS [qi 18 2 14 16,qN 19 2 18,qo 8 (.alloc 62 [(Value.string ⟨#[]⟩), (Value.string ⟨#[]⟩)]),qs 2 8 19] [0,1,6,8,14,15,16]
 (.seq (qD [qm 21 6,qn 22 21,qf 23 1 22,ql 24 23,qf 25 0 8,ql 26 25,qo 27 (.lookup .str (Value.pointer none) true (.tmp 24) (.tmp 26)),qm 20 27,
  qe 28 20 0,qe 29 20 1,qm 9 28,qm 10 29] [[0,1,2,3,4,5,6,7,8,9,10,11]] [0,1,6,8,10,14,15,16])
 (.seq (qS [qm 30 10,qm 31 30,qu 31 (qf 32 0 8),qu 31 (ql 33 32),qu 31 (qx 34 26 [33]),qu 31 (qo 35 (.un .not (.tmp 34))),qr 36 31 35,qm 37 36,
  qu 37 (qf 38 1 8),qu 37 (ql 39 38),qu 37 (qo 40 (.lenS (.tmp 39))),qu 37 (qc 41 .gtr 40 4194304),qr 42 37 41] [0,1,6,8,14,15,16,42]
 (qC 42 (qS [qo 4 (.mv (.const (Value.pointer none))),qk 5 1] [4,5]
 .ret)
 .skip))
 (qD [qm 43 6,qn 44 43,qf 45 1 44,ql 46 45,qf 47 0 8,ql 48 47,qf 49 1 8,ql 50 49,qf 52 1 8,ql 53 52,qo 51 (.s2b 5 (.tmp 50)),
  qo 54 (.s2b 5 (.tmp 53)),qo 55 (.build [(Value.slice none 0 0), (Value.slice none 0 0), (Value.slice none 0 0)] [(0, 1, (.tmp 51)), (1, 1, (.tmp 54))]),
  qB 56 86 55,⟨none,none,.mapupd .str (.tmp 46) (.tmp 48) (.tmp 56)⟩] [[0,1,2,3,4,5,6,7,8,9,10,11,12,13,14], [0,1,2,3,4,5,6,7,8,9,11,10,12,13,14]] [0,1,6,14,15,16])))))
 (.reg [qc 57 .add 16 1,qm 16 57] [0,1,6,14,15,16])))))))
 (.seq (qS [qm 58 0,qL 59 58,qc 60 .gtr 59 65536,qm 61 60,qu 61 (qm 62 1),qu 61 (qL 63 62),qu 61 (qc 64 .gtr 63 64),qr 65 61 64] [0,6,65]
 (qC 65 (qS [qo 4 (.mv (.const (Value.pointer none))),qk 5 1] [4,5]
 .ret)
 .skip))
 (qS [qm 66 6,qm 67 0,qx 68 27 [67],qn 69 66,qf 70 0 69,qs 1 70 68] [6]
 (qS [qm 71 6,qm 4 71,qk 5 0] [4,5]
 .ret))))))⟩)
theorem n7 : F7.n = 72 := rfl
theorem low7 : lowF Tryz.prog (kpO F7) (assoc [(5,[[0,1,2,3,4,5,6,7,8,9,10,11]]), (8,[[0,1,2,3,4,5,6,7,9,10,8,11,12,13,14], [0,1,2,3,4,5,6,7,9,10,11,8,12,13,14]])]) 7 = some F7 := by kernel_rfl
def F14 : FIR := laid (X := ⟨126, [.tmp 6],
 (qS [qo 6 (.mv (.const (Value.pointer none)))] [0,1,2]
 (qS [qo 21 (.mkmap),qm 22 0,qn 23 22,qf 24 4 23,ql 25 24,
  qo 26 (.build [(Value.slice none 0 0), (Value.map none), (Value.slice none 0 0), (Value.slice none 0 0), (Value.int IntKind.i64 0), (Value.int IntKind.i64 0), (Value.bool false)] [(1, 1, (.tmp 21)), (4, 1, (.tmp 25))]),
  qB 27 79 26,qm 7 27] [0,1,2,7]
 (qS [qm 28 7,qm 29 2,qm 30 2,qL 31 30,qo 32 (.min2 (.tmp 31) (.const (Value.int IntKind.i64 65536))),
  qo 33 (.slcL 3 (.tmp 29) none (some (.tmp 32)) none),qx 34 27 [33],qn 35 28,qf 36 0 35,qs 1 36 34] [0,1,7]
 (qS [qo 8 (.mv (.const (Value.slice none 0 0)))] [0,1,7,8]
 (.seq (qS [qm 37 0,qn 38 37,qf 39 1 38,ql 40 39,qo 41 (.rangeM (.tmp 40))] [0,1,7,8,41]
 (.block 0 (.loop (qS [qo 42 (.next (.tmp 41) false),qe 43 42 0] [0,1,7,8,41,43]
 (.seq (qC 43 .skip
 (.exit 0))
 (.block 1 (qS [qo 44 (.entry (.tmp 41)),qe 45 44 1,qm 10 45] [0,1,7,8,10,41]
 (qS [qm 46 10,qn 47 46,qf 48 2 47,ql 49 48,qL 50 49,qk 51 0] [0,1,7,8,41,49,50,51]
 (.block 2 (.loop (qS [qb 52 .lss 51 50] [0,1,7,8,41,49,50,51,52]
 (.seq (qC 52 .skip
 (.exit 2))
 (.seq (.block 3 (qS [qi 53 4 49 51,qN 54 4 53,
  qo 12 (.alloc 107 [(Value.int IntKind.i64 0), (Value.int IntKind.i64 0), (Value.string ⟨#[]⟩), (Value.bool false)]),qs 4 12 54] [0,1,7,8,12,41,49,50,51]
 (.reg [qm 55 8,qf 56 0 12,ql 57 56,qo 58 (.bslice 3 1 [(Value.int IntKind.i64 0)] [(0, 1, (.tmp 57))]),
  qo 59 (.append 3 1 8 [(Value.int IntKind.i64 0)] (.tmp 55) (.tmp 58)),qm 8 59] [0,1,7,8,41,49,50,51])))
 (.reg [qc 60 .add 51 1,qm 51 60] [0,1,7,8,41,49,50,51]))))))))))))))
 (qS [qm 61 8,qx 62 62 [61]] [0,1,7,8]
 (qS [qo 63 (.mkmap),qm 13 63] [0,1,7,8,13]
 (.seq (qS [qm 64 8,qL 65 64,qk 66 0] [0,1,7,13,64,65,66]
 (.block 4 (.loop (qS [qb 67 .lss 66 65] [0,1,7,13,64,65,66,67]
 (.seq (qC 67 .skip
 (.exit 4))
 (.seq (.block 5 (qS [qm 68 66,qi 69 1 64 66,ql 70 69,qm 14 68,qm 15 70] [0,1,7,13,14,15,64,65,66]
 (.reg [qm 71 13,qm 72 15,qm 73 14,qc 74 .lss 73 64,qm 75 74,qt 75 (qm 76 1),qt 75 (qm 77 14),qt 75 (qb 78 .shr 76 77),
  qt 75 (qo 79 (.bin .and (.tmp 78) (.const (Value.int IntKind.u64 1)))),qt 75 (qo 80 (.bin .eql (.tmp 79) (.const (Value.int IntKind.u64 1)))),
  qa 81 75 80,⟨none,none,.mapupd .int (.tmp 71) (.tmp 72) (.tmp 81)⟩] [0,1,7,13,64,65,66])))
 (.reg [qc 82 .add 66 1,qm 66 82] [0,1,7,13,64,65,66])))))))
 (.seq (qS [qm 83 0,qn 84 83,qf 85 1 84,ql 86 85,qo 87 (.rangeM (.tmp 86))] [7,13,87]
 (.block 6 (.loop (qS [qo 88 (.next (.tmp 87) false),qe 89 88 0] [7,13,87,89]
 (.seq (qC 89 .skip
 (.exit 6))
 (.block 7 (qS [qo 90 (.entry (.tmp 87)),qe 91 90 0,qe 92 90 1,qm 16 91,qm 17 92] [7,13,16,17,87]
 (qS [qm 93 17,qn 94 93,qf 95 1 94,ql 96 95,qx 97 63 [96],qm 18 97] [7,13,16,17,18,87]
 (.seq (qS [qm 98 17,qn 99 98,qf 100 2 99,ql 101 100,qL 102 101,qk 103 0] [7,13,16,18,87,101,102,103]
 (.block 8 (.loop (qS [qb 104 .lss 103 102] [7,13,16,18,87,101,102,103,104]
 (.seq (qC 104 .skip
 (.exit 8))
 (.seq (.block 9 (qS [qi 105 4 101 103,qN 106 4 105,
  qo 20 (.alloc 107 [(Value.int IntKind.i64 0), (Value.int IntKind.i64 0), (Value.string ⟨#[]⟩), (Value.bool false)]),qs 4 20 106] [7,13,16,18,20,87,101,102,103]
 (qS [qm 107 13,qf 108 0 20,ql 109 108,qo 110 (.lookup .int (Value.bool false) false (.tmp 107) (.tmp 109))] [7,13,16,18,20,87,101,102,103,110]
 (qC 110 (.reg [qN 111 4 20,qm 112 18,qx 113 64 [111,112],qm 18 113] [7,13,16,18,87,101,102,103])
 .skip))))
 (.reg [qc 114 .add 103 1,qm 103 114] [7,13,16,18,87,101,102,103])))))))
 (qD [qm 115 7,qn 116 115,qf 117 1 116,ql 118 117,qm 119 16,qm 120 18,qm 121 18,qx 122 63 [121],
  qo 123 (.build [(Value.slice none 0 0), (Value.slice none 0 0), (Value.slice none 0 0)] [(0, 1, (.tmp 120)), (1, 1, (.tmp 122))]),qB 124 86 123,
  ⟨none,none,.mapupd .str (.tmp 118) (.tmp 119) (.tmp 124)⟩] [[0,1,2,3,4,5,6,7,8,9,10], [0,1,2,4,5,6,7,3,8,9,10]] [7,13,87]))))))))))
 (qS [qm 125 7,qm 6 125] [6]
 .ret))))))))))⟩)
theorem n14 : F14.n = 126 := rfl
theorem low14 : lowF Tryz.prog (kpO F14) (assoc [(29,[[0,1,2,3,4,5,6,7,8,9,10], [0,1,2,4,5,6,7,3,8,9,10]])]) 14 = some F14 := by kernel_rfl
def F17 : FIR := laid (X := ⟨33, [.tmp 2],
 (qS [qo 2 (.mv (.const (Value.slice none 0 0)))] [0,2]
 (.seq (qS [qm 5 0,qn 6 5,qf 7 1 6,ql 8 7,qx 9 71 [8],qx 10 70 [9],qL 11 10,qk 12 0] [0,2,10,11,12]
 (.block 0 (.loop (qS [qb 13 .lss 12 11] [0,2,10,11,12,13]
 (.seq (qC 13 .skip
 (.exit 0))
 (.seq (.block 1 (qS [qi 14 1 10 12,ql 15 14,qm 4 15] [0,2,4,10,11,12]
 (.reg [qm 16 2,qm 17 4,qm 18 0,qn 19 18,qf 20 1 19,ql 21 20,qm 22 4,qo 23 (.lookup .str (Value.pointer none) false (.tmp 21) (.tmp 22)),
  qn 24 23,qf 25 0 24,ql 26 25,qo 27 (.b2s (.tmp 26)),qo 28 (.build [(Value.string ⟨#[]⟩), (Value.string ⟨#[]⟩)] [(0, 1, (.tmp 17)), (1, 1, (.tmp 27))]),
  qo 29 (.bslice 62 1 [(Value.string ⟨#[]⟩), (Value.string ⟨#[]⟩)] [(0, 2, (.tmp 28))]),
  qo 30 (.append 62 2 32 [(Value.string ⟨#[]⟩), (Value.string ⟨#[]⟩)] (.tmp 16) (.tmp 29)),qm 2 30] [0,2,10,11,12])))
 (.reg [qc 31 .add 12 1,qm 12 31] [0,2,10,11,12])))))))
 (qS [qm 32 2,qm 2 32] [2]
 .ret)))⟩)
theorem n17 : F17.n = 33 := rfl
theorem low17 : lowF Tryz.prog (kpO F17) (assoc []) 17 = some F17 := by kernel_rfl
def F18 : FIR := laid (X := ⟨8, [.tmp 2],
 (qS [qo 2 (.mv (.const (Value.slice none 0 0)))] [0]
 (qS [qm 3 0,qn 4 3,qf 5 3 4,ql 6 5,qx 7 72 [6],qm 2 7] [2]
 .ret))⟩)
theorem n18 : F18.n = 8 := rfl
theorem low18 : lowF Tryz.prog (kpO F18) (assoc []) 18 = some F18 := by kernel_rfl
def F24 : FIR := laid (X := ⟨7, [.tmp 2],
 (qS [qz 2 false] [0]
 (qS [qm 3 0,qn 4 3,qf 5 6 4,ql 6 5,qm 2 6] [2]
 .ret))⟩)
theorem n24 : F24.n = 7 := rfl
theorem low24 : lowF Tryz.prog (kpO F24) (assoc []) 24 = some F24 := by kernel_rfl
def F27 : FIR := laid (X := ⟨8, [.tmp 2],
 (qS [qo 2 (.mv (.const (Value.slice none 0 0)))] [0]
 (.seq (qS [qm 3 0,qo 4 (.eqnil false .slice (.tmp 3))] [0,4]
 (qC 4 (qS [qo 2 (.mv (.const (Value.slice none 0 0)))] [2]
 .ret)
 .skip))
 (qS [qo 5 (.bslice 70 0 [(Value.int IntKind.u8 0), (Value.int IntKind.i64 0), (Value.string ⟨#[]⟩)] []),qm 6 0,
  qo 7 (.append 70 3 32 [(Value.int IntKind.u8 0), (Value.int IntKind.i64 0), (Value.string ⟨#[]⟩)] (.tmp 5) (.tmp 6)),qm 2 7] [2]
 .ret)))⟩)
theorem n27 : F27.n = 8 := rfl
theorem low27 : lowF Tryz.prog (kpO F27) (assoc []) 27 = some F27 := by kernel_rfl
def F72 : FIR := laid (X := ⟨8, [.tmp 2],
 (qS [qo 2 (.mv (.const (Value.slice none 0 0)))] [0]
 (.seq (qS [qm 3 0,qo 4 (.eqnil false .slice (.tmp 3))] [0,4]
 (qC 4 (qS [qo 2 (.mv (.const (Value.slice none 0 0)))] [2]
 .ret)
 .skip))
 (qS [qo 5 (.bslice 74 0 [(Value.int IntKind.u8 0), (Value.int IntKind.i64 0), (Value.string ⟨#[]⟩), (Value.string ⟨#[]⟩), (Value.int IntKind.i64 0), (Value.int IntKind.i64 0)] []),
  qm 6 0,
  qo 7 (.append 74 6 64 [(Value.int IntKind.u8 0), (Value.int IntKind.i64 0), (Value.string ⟨#[]⟩), (Value.string ⟨#[]⟩), (Value.int IntKind.i64 0), (Value.int IntKind.i64 0)] (.tmp 5) (.tmp 6)),
  qm 2 7] [2]
 .ret)))⟩)
theorem n72 : F72.n = 8 := rfl
theorem low72 : lowF Tryz.prog (kpO F72) (assoc []) 72 = some F72 := by kernel_rfl
def F4 : FIR := laid (X := ⟨185, [.tmp 0],
 (qS [qz 0 false] []
 (qS [qo 23 (.build [(Value.string ⟨#[]⟩), (Value.string ⟨#[]⟩)] [(0, 1, (.const (Value.string ⟨#[97]⟩))), (1, 1, (.const (Value.string ⟨#[120, 121, 122]⟩)))]),
  qo 24 (.bslice 62 1 [(Value.string ⟨#[]⟩), (Value.string ⟨#[]⟩)] [(0, 2, (.tmp 23))]),qo 25 (.call 7 [(.const (Value.slice none 0 0)), (.tmp 24)]),
  qm 22 25,qe 26 22 0,qe 27 22 1,qm 1 26,qm 2 27] [1,2]
 (.seq (qS [qm 28 1,qo 29 (.eqnil false .ptr (.tmp 28)),qm 30 29,qu 30 (qm 31 2),qu 30 (qc 32 .neq 31 0),qr 33 30 32] [1,33]
 (qC 33 (qS [qz 0 false] [0]
 .ret)
 .skip))
 (qS [qm 35 1,qo 36 (.call 20 [(.tmp 35), (.const (Value.string ⟨#[97]⟩)), (.const (Value.int IntKind.i64 1))]),qm 34 36,qe 37 34 0,
  qe 38 34 1,qm 3 37,qm 2 38] [1,2,3]
 (qS [qm 40 1,qo 41 (.call 21 [(.tmp 40), (.const (Value.int IntKind.i64 1)), (.const (Value.int IntKind.i64 2))]),qm 39 41,qe 42 39 0,
  qe 43 39 1,qm 4 42,qm 5 43] [1,2,3,4,5]
 (qS [qm 44 1,qo 45 (.call 22 [(.tmp 44), (.const (Value.int IntKind.i64 1)), (.const (Value.string ⟨#[113]⟩))]),qm 6 45] [1,2,3,4,5,6]
 (qS [qm 47 1,qo 48 (.call 20 [(.tmp 47), (.const (Value.string ⟨#[97]⟩)), (.const (Value.int IntKind.i64 2))]),qm 46 48,qe 49 46 0,
  qe 50 46 1,qm 7 49,qm 8 50] [1,2,3,4,5,6,7,8]
 (qS [qm 51 1,qo 52 (.call 22 [(.tmp 51), (.const (Value.int IntKind.i64 2)), (.const (Value.string ⟨#[110, 101, 119]⟩))]),qm 9 52] [1,2,3,4,5,6,7,8,9]
 (qS [qm 53 1,qo 54 (.call 14 [(.tmp 53), (.const (Value.int IntKind.u64 2)), (.const (Value.slice none 0 0))]),qm 10 54] [1,2,3,4,5,6,7,8,9,10]
 (qS [qm 55 1,qo 56 (.call 14 [(.tmp 55), (.const (Value.int IntKind.u64 0)), (.const (Value.slice none 0 0))]),qm 11 56] [1,2,3,4,5,6,7,8,9,10,11]
 (.seq (qS [qm 57 10,qo 58 (.eqnil false .ptr (.tmp 57)),qm 59 58,qu 59 (qm 60 11),qu 59 (qo 61 (.eqnil false .ptr (.tmp 60))),qr 62 59 61] [1,2,3,4,5,6,7,8,9,10,11,62]
 (qC 62 (qS [qz 0 false] [0]
 .ret)
 .skip))
 (qS [qm 63 10,qx 64 17 [63],qm 12 64] [1,2,3,4,5,6,7,8,9,11,12]
 (qS [qm 65 11,qx 66 17 [65],qm 13 66] [1,2,3,4,5,6,7,8,9,12,13]
 (qS [qm 67 1,qx 68 18 [67],qm 14 68] [2,3,4,5,6,7,8,9,12,13,14]
 (qS [qo 70 (.build [(Value.int IntKind.u8 0), (Value.int IntKind.i64 0), (Value.string ⟨#[]⟩)] [(0, 1, (.const (Value.int IntKind.u8 7)))]),
  qo 71 (.build [(Value.int IntKind.u8 0), (Value.int IntKind.i64 0), (Value.string ⟨#[]⟩)] [(0, 1, (.const (Value.int IntKind.u8 5)))]),
  qo 72 (.bslice 70 2 [(Value.int IntKind.u8 0), (Value.int IntKind.i64 0), (Value.string ⟨#[]⟩)] [(0, 3, (.tmp 70)), (3, 3, (.tmp 71))]),
  qo 73 (.call 7 [(.tmp 72), (.const (Value.slice none 0 0))]),qm 69 73,qe 74 69 0,qe 75 69 1,qm 15 74,qm 16 75] [2,3,4,5,6,7,8,9,12,13,14,15,16]
 (.seq (qS [qm 76 15,qo 77 (.eqnil false .ptr (.tmp 76)),qm 78 77,qu 78 (qm 79 16),qu 78 (qc 80 .neq 79 0),qr 81 78 80,qm 82 81,
  qu 82 (qm 83 12),qu 82 (qL 84 83),qu 82 (qc 85 .neq 84 1),qr 86 82 85,qm 87 86,qu 87 (qm 88 13),qu 87 (qL 89 88),qu 87 (qc 90 .neq 89 1),qr 91 87 90,
  qm 92 91,qu 92 (qm 93 14),qu 92 (qL 94 93),qu 92 (qc 95 .neq 94 5),qr 96 92 95] [2,3,4,5,6,7,8,9,12,13,14,15,96]
 (qC 96 (qS [qz 0 false] [0]
 .ret)
 .skip))
 (qS [qm 97 15,qo 98 (.call 23 [(.tmp 97), (.const (Value.string ⟨#[49]⟩))]),qm 17 98] [2,3,4,5,6,7,8,9,12,13,14,15,17]
 (qS [qm 99 15,qo 100 (.call 23 [(.tmp 99), (.const (Value.string ⟨#[50]⟩))]),qm 18 100] [2,3,4,5,6,7,8,9,12,13,14,15,17,18]
 (qS [qm 101 15,qx 102 24 [101],qm 19 102] [2,3,4,5,6,7,8,9,12,13,14,17,18,19]
 (qS [qm 103 3,qc 104 .eql 103 1,qm 105 104,qt 105 (qm 106 2),qt 105 (qc 107 .eql 106 0),qa 108 105 107,qm 109 108,qt 109 (qm 110 4),
  qt 109 (qo 111 (.bin .eql (.tmp 110) (.const (Value.string ⟨#[120, 121]⟩)))),qa 112 109 111,qm 113 112,qt 113 (qm 114 5),qt 113 (qc 115 .eql 114 0),
  qa 116 113 115,qm 117 116,qt 117 (qm 118 6),qt 117 (qc 119 .eql 118 33),qa 120 117 119,qm 121 120,qt 121 (qm 122 7),qt 121 (qc 123 .eql 122 2),
  qa 124 121 123,qm 125 124,qt 125 (qm 126 8),qt 125 (qc 127 .eql 126 0),qa 128 125 127,qm 129 128,qt 129 (qm 130 9),qt 129 (qc 131 .eql 130 0),
  qa 132 129 131,qm 20 132] [6,12,13,14,17,18,19,20]
 (qS [qm 133 12,qo 134 (.idxL 2 (.tmp 133) (.const (Value.int IntKind.i64 0))),qf 135 1 134,ql 136 135,
  qo 137 (.bin .eql (.tmp 136) (.const (Value.string ⟨#[110, 101, 119]⟩))),qm 138 137,qt 138 (qm 139 13),
  qt 138 (qo 140 (.idxL 2 (.tmp 139) (.const (Value.int IntKind.i64 0)))),qt 138 (qf 141 1 140),qt 138 (ql 142 141),
  qt 138 (qo 143 (.bin .eql (.tmp 142) (.const (Value.string ⟨#[120, 121, 122]⟩)))),qa 144 138 143,qm 145 144,qt 145 (qm 146 14),
  qt 145 (qo 147 (.idxL 6 (.tmp 146) (.const (Value.int IntKind.i64 1)))),qt 145 (qN 148 6 147),
  qt 145 (qo 149 (.build [(Value.int IntKind.u8 0), (Value.int IntKind.i64 0), (Value.string ⟨#[]⟩), (Value.string ⟨#[]⟩), (Value.int IntKind.i64 0), (Value.int IntKind.i64 0)] [(0, 1, (.const (Value.int IntKind.u8 2))), (1, 1, (.const (Value.int IntKind.i64 1))), (4, 1, (.const (Value.int IntKind.i64 2))), (2, 1, (.const (Value.string ⟨#[120, 121]⟩)))])),
  qt 145 (qo 150 (.eqagg false [.int, .int, .str, .str, .int, .int] (.tmp 148) (.tmp 149))),qa 151 145 150,qm 21 151] [6,17,18,19,20,21]
 (qS [qm 152 20,qm 153 152,qt 153 (qm 154 21),qa 155 153 154,qm 156 155,qt 156 (qm 157 17),qt 156 (qc 158 .eql 157 0),qa 159 156 158,
  qm 160 159,qt 160 (qm 161 18),qt 160 (qc 162 .eql 161 36),qa 163 160 162,qm 164 163,qt 164 (qm 165 19),qa 166 164 165,qm 167 166,
  qo 168 (.pick (.tmp 167) (.const (Value.bool true)) (.const (Value.bool false))),qm 169 168,
  qo 170 (.pick (.tmp 169) (.const (Value.bool true)) (.const (Value.bool false))),qm 171 170,
  qo 172 (.pick (.tmp 171) (.const (Value.bool true)) (.const (Value.bool false))),qm 173 172,qt 173 (qm 174 6),qt 173 (qc 175 .eql 174 33),
  qa 176 173 175,qm 177 176,qo 178 (.pick (.tmp 177) (.const (Value.bool true)) (.const (Value.bool false))),qm 179 178,
  qo 180 (.pick (.tmp 179) (.const (Value.bool true)) (.const (Value.bool false))),qm 181 180,qt 181 (qm 182 18),qt 181 (qc 183 .eql 182 36),
  qa 184 181 183,qm 0 184] [0]
 .ret))))))))))))))))))))))⟩)
theorem n4 : F4.n = 185 := rfl
theorem low4 : lowF Tryz.prog (kpO F4) (assoc []) 4 = some F4 := by kernel_rfl
def F30 : FIR := laid (X := ⟨61, [.tmp 2],
 (qS [qz 2 false] [0]
 (.seq (qS [qm 5 0,qo 6 (.lenS (.tmp 5)),qc 7 .lss 6 1,qm 8 7,qu 8 (qm 9 0),qu 8 (qo 10 (.lenS (.tmp 9))),qu 8 (qc 11 .gtr 10 64),qr 12 8 11] [0,12]
 (qC 12 (qS [qz 2 false] [2]
 .ret)
 .skip))
 (.seq (qS [qk 3 0] [0,3]
 (.block 0 (.loop (.seq (qS [qm 13 3,qm 14 0,qo 15 (.lenS (.tmp 14)),qb 16 .lss 13 15] [0,3,16]
 (qC 16 .skip
 (.exit 0)))
 (.seq (.block 1 (qS [qm 19 0,qm 20 3,qo 21 (.idxS (.tmp 19) (.tmp 20)),qm 4 21] [0,3,4]
 (qS [qm 22 4,qo 23 (.bin .geq (.tmp 22) (.const (Value.int IntKind.u8 97))),qm 24 23,qt 24 (qm 25 4),
  qt 24 (qo 26 (.bin .leq (.tmp 25) (.const (Value.int IntKind.u8 122)))),qa 27 24 26,qm 28 27,qu 28 (qm 29 4),
  qu 28 (qo 30 (.bin .geq (.tmp 29) (.const (Value.int IntKind.u8 65)))),qu 28 (qm 31 30),qt 31 (qm 32 4),
  qt 31 (qo 33 (.bin .leq (.tmp 32) (.const (Value.int IntKind.u8 90)))),qu 28 (qa 34 31 33),qr 35 28 34,qm 36 35,qu 36 (qm 37 4),
  qu 36 (qo 38 (.bin .geq (.tmp 37) (.const (Value.int IntKind.u8 48)))),qu 36 (qm 39 38),qt 39 (qm 40 4),
  qt 39 (qo 41 (.bin .leq (.tmp 40) (.const (Value.int IntKind.u8 57)))),qu 36 (qa 42 39 41),qr 43 36 42,qm 44 43,qu 44 (qm 45 4),
  qu 44 (qo 46 (.bin .eql (.tmp 45) (.const (Value.int IntKind.u8 46)))),qr 47 44 46,qm 48 47,qu 48 (qm 49 4),
  qu 48 (qo 50 (.bin .eql (.tmp 49) (.const (Value.int IntKind.u8 45)))),qr 51 48 50,qm 52 51,qu 52 (qm 53 4),
  qu 52 (qo 54 (.bin .eql (.tmp 53) (.const (Value.int IntKind.u8 95)))),qr 55 52 54,qm 56 55,qu 56 (qm 57 4),
  qu 56 (qo 58 (.bin .eql (.tmp 57) (.const (Value.int IntKind.u8 47)))),qr 59 56 58,qo 60 (.un .not (.tmp 59))] [0,3,60]
 (qC 60 (qS [qz 2 false] [2]
 .ret)
 .skip))))
 (.reg [qm 17 3,qc 18 .add 17 1,qm 3 18] [0,3]))))))
 (qS [qz 2 true] [2]
 .ret))))⟩)
theorem n30 : F30.n = 61 := rfl
theorem low30 : lowF Tryz.prog (kpO F30) (assoc []) 30 = some F30 := by kernel_rfl
def F29 : FIR := laid (X := ⟨26, [.tmp 4],
 (qS [qz 4 false] [0,1]
 (.seq (qS [qm 6 0,qL 7 6,qm 8 1,qL 9 8,qb 10 .neq 7 9] [0,1,10]
 (qC 10 (qS [qz 4 false] [4]
 .ret)
 .skip))
 (.seq (qS [qk 5 0] [0,1,5]
 (.block 0 (.loop (.seq (qS [qm 11 5,qm 12 0,qL 13 12,qb 14 .lss 11 13] [0,1,5,14]
 (qC 14 .skip
 (.exit 0)))
 (.seq (.block 1 (.seq (qD [qm 17 0,qm 18 5,qi 19 2 17 18,qN 20 2 19,qm 21 1,qm 22 5,qi 23 2 21 22,qN 24 2 23,
  qo 25 (.eqagg true [.str, .str] (.tmp 20) (.tmp 24))] [[0,1,2,3,4,5,6,7,8]] [0,1,5,25])
 (qC 25 (qS [qz 4 false] [4]
 .ret)
 .skip)))
 (.reg [qm 15 5,qc 16 .add 15 1,qm 5 16] [0,1,5]))))))
 (qS [qz 4 true] [4]
 .ret))))⟩)
theorem n29 : F29.n = 26 := rfl
theorem low29 : lowF Tryz.prog (kpO F29) (assoc [(6,[[0,1,2,3,4,5,6,7,8]])]) 29 = some F29 := by kernel_rfl
def F56 : FIR := laid (X := ⟨43, [.tmp 2, .tmp 3],
 (qS [qk 2 0,qz 3 false] [0]
 (.seq (qS [qm 5 0,qn 6 5,qf 7 6 6,ql 8 7,qm 9 8,qu 9 (qm 10 0),qu 9 (qn 11 10),qu 9 (qf 12 0 11),qu 9 (ql 13 12),qu 9 (qL 14 13),
  qu 9 (qc 15 .eql 14 0),qr 16 9 15,qm 17 16,qu 17 (qm 18 0),qu 17 (qn 19 18),qu 17 (qf 20 0 19),qu 17 (ql 21 20),
  qu 17 (qo 22 (.idxL 3 (.tmp 21) (.const (Value.int IntKind.i64 0)))),qu 17 (qf 23 0 22),qu 17 (ql 24 23),
  qu 17 (qo 25 (.bin .neq (.tmp 24) (.const (Value.int IntKind.u8 6)))),qr 26 17 25] [0,26]
 (qC 26 (qS [qk 2 0,qz 3 false] [2,3]
 .ret)
 .skip))
 (qS [qm 27 0,qn 28 27,qf 29 0 28,ql 30 29,qo 31 (.idxL 3 (.tmp 30) (.const (Value.int IntKind.i64 0))),qf 32 1 31,ql 33 32,qm 4 33] [0,4]
 (qS [qm 34 0,qm 35 0,qn 36 35,qf 37 0 36,ql 38 37,qo 39 (.slcL 3 (.tmp 38) (some (.const (Value.int IntKind.i64 1))) none none),qn 40 34,
  qf 41 0 40,qs 1 41 39] [4]
 (qS [qm 42 4,qm 2 42,qz 3 true] [2,3]
 .ret)))))⟩)
theorem n56 : F56.n = 43 := rfl
theorem low56 : lowF Tryz.prog (kpO F56) (assoc []) 56 = some F56 := by kernel_rfl
def F58 : FIR := laid (X := ⟨18, [],
 (qS [qm 4 0,qn 5 4,qf 6 2 5,ql 7 6,qL 8 7,qk 9 0] [7,8,9]
 (.block 0 (.loop (qS [qb 10 .lss 9 8] [7,8,9,10]
 (.seq (qC 10 .skip
 (.exit 0))
 (.seq (.block 1 (qS [qi 11 1 7 9,ql 12 11,qm 3 12] [3,7,8,9]
 (.reg [qm 13 3,qn 14 13,qf 15 0 14,qf 16 1 15,⟨none,none,.store 1 (.tmp 16) (.const (Value.bool true))⟩] [7,8,9])))
 (.reg [qc 17 .add 9 1,qm 9 17] [7,8,9])))))))⟩)
theorem n58 : F58.n = 18 := rfl
theorem low58 : lowF Tryz.prog (kpO F58) (assoc []) 58 = some F58 := by kernel_rfl
def F67 : FIR := laid (X := ⟨26, [.tmp 4],
 (qS [qz 4 false] [0,1]
 (.seq (qS [qm 6 0,qL 7 6,qm 8 1,qL 9 8,qb 10 .neq 7 9] [0,1,10]
 (qC 10 (qS [qz 4 false] [4]
 .ret)
 .skip))
 (.seq (qS [qk 5 0] [0,1,5]
 (.block 0 (.loop (.seq (qS [qm 11 5,qm 12 0,qL 13 12,qb 14 .lss 11 13] [0,1,5,14]
 (qC 14 .skip
 (.exit 0)))
 (.seq (.block 1 (.seq (qD [qm 17 0,qm 18 5,qi 19 6 17 18,qN 20 6 19,qm 21 1,qm 22 5,qi 23 6 21 22,qN 24 6 23,
  qo 25 (.eqagg true [.int, .int, .str, .str, .int, .int] (.tmp 20) (.tmp 24))] [[0,1,2,3,4,5,6,7,8]] [0,1,5,25])
 (qC 25 (qS [qz 4 false] [4]
 .ret)
 .skip)))
 (.reg [qm 15 5,qc 16 .add 15 1,qm 5 16] [0,1,5]))))))
 (qS [qz 4 true] [4]
 .ret))))⟩)
theorem n67 : F67.n = 26 := rfl
theorem low67 : lowF Tryz.prog (kpO F67) (assoc [(6,[[0,1,2,3,4,5,6,7,8]])]) 67 = some F67 := by kernel_rfl
def F28 : FIR := laid (X := ⟨26, [.tmp 4],
 (qS [qz 4 false] [0,1]
 (.seq (qS [qm 6 0,qL 7 6,qm 8 1,qL 9 8,qb 10 .neq 7 9] [0,1,10]
 (qC 10 (qS [qz 4 false] [4]
 .ret)
 .skip))
 (.seq (qS [qk 5 0] [0,1,5]
 (.block 0 (.loop (.seq (qS [qm 11 5,qm 12 0,qL 13 12,qb 14 .lss 11 13] [0,1,5,14]
 (qC 14 .skip
 (.exit 0)))
 (.seq (.block 1 (.seq (qD [qm 17 0,qm 18 5,qi 19 3 17 18,qN 20 3 19,qm 21 1,qm 22 5,qi 23 3 21 22,qN 24 3 23,
  qo 25 (.eqagg true [.int, .int, .str] (.tmp 20) (.tmp 24))] [[0,1,2,3,4,5,6,7,8]] [0,1,5,25])
 (qC 25 (qS [qz 4 false] [4]
 .ret)
 .skip)))
 (.reg [qm 15 5,qc 16 .add 15 1,qm 5 16] [0,1,5]))))))
 (qS [qz 4 true] [4]
 .ret))))⟩)
theorem n28 : F28.n = 26 := rfl
theorem low28 : lowF Tryz.prog (kpO F28) (assoc [(6,[[0,1,2,3,4,5,6,7,8]])]) 28 = some F28 := by kernel_rfl
end Go.Proofs.YtgindbomnbojeaaGreat

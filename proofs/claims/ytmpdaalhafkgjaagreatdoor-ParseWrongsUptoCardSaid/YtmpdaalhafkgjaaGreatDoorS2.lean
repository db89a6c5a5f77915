/-
  The code of functions, as terms: printed by a program, proved to be what the seat has.
-/
import Derived.Test.YtmpdaalhafkgjaaGreatDoorS1
import Derived.KernelRfl
import Derived.Test.YtmpdaalhafkgjaaGreatDoorProg
set_option linter.unusedSimpArgs false
set_option linter.unusedVariables false
namespace Go.Proofs.YtmpdaalhafkgjaaGreatDoor
open Go Go.V
set_option maxRecDepth 100000
def F5 : FIR := laid (X := ⟨21, [.tmp 2, .tmp 3],
 (qS [qk 2 0,qk 3 0] [0]
 (.seq (qS [qm 7 0,qo 8 (.eqnil false .iface (.tmp 7))] [0,8]
 (qC 8 (qS [qk 2 0,qk 3 0] [2,3]
 .ret)
 .skip))
 (qS [qo 4 (.alloc 23 [(Value.int IntKind.i64 0)]),⟨none,none,.store 1 (.tmp 4) (.const (Value.int IntKind.i64 (-1)))⟩,qk 5 0] [0,4,5]
 (qS [qo 6 (.alloc 26 [(Value.pointer none)])] [0,4,5,6]
 (.seq (qS [qm 9 0,qo 10 (.mkif 48 (.tmp 6)),qx 11 9 [9,10]] [0,4,5,6,11]
 (qC 11 (.reg [ql 12 6,qn 13 12,qf 14 1 13,ql 15 14,qm 5 15] [0,4,5])
 .skip))
 (qS [qm 16 0,qo 17 (.mkif 49 (.tmp 4)),qx 18 9 [16,17]] [4,5]
 (qS [ql 19 4,qm 20 5,qm 2 19,qm 3 20] [2,3]
 .ret)))))))⟩)
theorem n5 : F5.n = 21 := rfl
theorem low5 : lowF Tryz.prog (kpO F5) (assoc []) 5 = some F5 := by kernel_rfl
def F6 : FIR := laid (X := ⟨7, [.tmp 2],
 (qS [qo 2 (.mv (.const Value.nilIface))] [0]
 (qS [qm 3 0,qo 4 (.build [(Value.string ⟨#[]⟩)] [(0, 1, (.tmp 3))]),qB 5 52 4,qo 6 (.mkif 50 (.tmp 5)),qm 2 6] [2]
 .ret))⟩)
theorem n6 : F6.n = 7 := rfl
theorem low6 : lowF Tryz.prog (kpO F6) (assoc []) 6 = some F6 := by kernel_rfl
def F7 : FIR := laid (X := ⟨8, [.cellN 2 5, .tmp 3],
 (qS [qo 2 (.alloc 36 [(Value.string ⟨#[]⟩), (Value.slice none 0 0), (Value.slice none 0 0), (Value.int IntKind.i64 0), (Value.slice none 0 0)]),
  qo 3 (.mv (.const Value.nilIface))] [0,2]
 (qS [qm 4 0,qo 5 (.call 10 [(.const (Value.string ⟨#[67, 111, 100, 101]⟩)), (.tmp 4), (.func 11)]),qe 6 5 0,qe 7 5 1,qs 5 2 6,qm 3 7] [2,3]
 .ret))⟩)
theorem low7 : lowF Tryz.prog (kpO F7) (assoc []) 7 = some F7 := by kernel_rfl
def F8 : FIR := laid (X := ⟨8, [.cellN 2 5, .tmp 3],
 (qS [qo 2 (.alloc 36 [(Value.string ⟨#[]⟩), (Value.slice none 0 0), (Value.slice none 0 0), (Value.int IntKind.i64 0), (Value.slice none 0 0)]),
  qo 3 (.mv (.const Value.nilIface))] [0,2]
 (qS [qm 4 0,qo 5 (.call 10 [(.const (Value.string ⟨#[77, 101, 116, 104, 111, 100]⟩)), (.tmp 4), (.func 12)]),qe 6 5 0,qe 7 5 1,qs 5 2 6,
  qm 3 7] [2,3]
 .ret))⟩)
theorem n8 : F8.n = 8 := rfl
theorem low8 : lowF Tryz.prog (kpO F8) (assoc []) 8 = some F8 := by kernel_rfl
def F11 : FIR := laid (X := ⟨11, [.cellN 2 5],
 (qS [qo 2 (.alloc 36 [(Value.string ⟨#[]⟩), (Value.slice none 0 0), (Value.slice none 0 0), (Value.int IntKind.i64 0), (Value.slice none 0 0)])] [0,2]
 (qS [qm 4 0,qx 5 20 [4],
  qo 6 (.build [(Value.string ⟨#[]⟩), (Value.slice none 0 0), (Value.slice none 0 0), (Value.int IntKind.i64 0), (Value.slice none 0 0)] [(0, 1, (.const (Value.string ⟨#[100, 111, 73, 116]⟩))), (2, 1, (.tmp 5))]),
  qo 3 (.alloc 36 [(Value.string ⟨#[]⟩), (Value.slice none 0 0), (Value.slice none 0 0), (Value.int IntKind.i64 0), (Value.slice none 0 0)]),qs 5 3 6] [0,2,3]
 (qS [qm 7 0,qo 8 (.call 21 [(.tmp 7), (.const (Value.int IntKind.i64 0))]),qf 9 4 3,qs 1 9 8] [2,3]
 (qS [qN 10 5 3,qs 5 2 10] [2]
 .ret))))⟩)
theorem low11 : lowF Tryz.prog (kpO F11) (assoc []) 11 = some F11 := by kernel_rfl
def F12 : FIR := laid (X := ⟨79, [.cellN 2 5],
 (qS [qo 2 (.alloc 36 [(Value.string ⟨#[]⟩), (Value.slice none 0 0), (Value.slice none 0 0), (Value.int IntKind.i64 0), (Value.slice none 0 0)])] [0,2]
 (qS [qo 3 (.alloc 36 [(Value.string ⟨#[]⟩), (Value.slice none 0 0), (Value.slice none 0 0), (Value.int IntKind.i64 0), (Value.slice none 0 0)])] [0,2,3]
 (.seq (qS [qm 4 0,qn 5 4,qf 6 1 5,qf 7 0 6,ql 8 7] [0,2,3,8]
 (.block 0 (qS [qo 12 (.bin .eql (.tmp 8) (.const (Value.int IntKind.u8 1))),qm 11 12] [0,2,3,8,11]
 (qC 11 (qS [qm 13 0,qn 14 13,qf 15 1 14,qf 16 1 15,ql 17 16,qf 18 0 3,qs 1 18 17] [0,2,3]
 (.reg [qm 19 0,qx 20 18 [19]] [0,2,3]))
 (qS [qo 22 (.bin .eql (.tmp 8) (.const (Value.int IntKind.u8 3))),qm 21 22] [0,2,3,8,21]
 (qC 21 (qS [qm 23 0,qn 24 23,qf 25 1 24,qf 26 1 25,ql 27 26,qf 28 0 3,qs 1 28 27] [0,2,3]
 (qS [qm 29 0,qx 30 18 [29]] [0,2,3]
 (qD [qf 31 1 3,ql 32 31,qm 33 0,qx 34 22 [33],qo 35 (.bslice 9 1 [(Value.string ⟨#[]⟩)] [(0, 1, (.tmp 34))]),
  qo 36 (.append 9 1 16 [(Value.string ⟨#[]⟩)] (.tmp 32) (.tmp 35)),qf 37 1 3,qs 1 37 36] [[0,1,2,3,4,5,6,7], [0,2,3,1,4,5,6,7]] [0,2,3])))
 (qS [qo 39 (.bin .eql (.tmp 8) (.const (Value.int IntKind.u8 2))),qm 38 39] [0,2,3,38]
 (qC 38 (.block 1 (.loop (.seq (qS [qm 40 0,qn 41 40,qf 42 1 41,qf 43 0 42,ql 44 43,qo 45 (.bin .eql (.tmp 44) (.const (Value.int IntKind.u8 2)))] [0,2,3,45]
 (qC 45 .skip
 (.exit 1)))
 (.block 2 (qS [qm 46 0,qf 47 1 3,ql 48 47,qL 49 48,qo 50 (.call 23 [(.tmp 46), (.tmp 49), (.const (Value.int IntKind.i64 15))])] [0,2,3]
 (.seq (qD [qf 51 0 3,ql 52 51,qm 53 0,qn 54 53,qf 55 1 54,qf 56 1 55,ql 57 56,qb 58 .add 52 57,qf 59 0 3,qs 1 59 58] [[0,1,2,3,4,5,6,7,8,9]] [0,2,3])
 (qS [qm 60 0,qx 61 18 [60]] [0,2,3]
 (qD [qf 62 1 3,ql 63 62,qm 64 0,qx 65 22 [64],qo 66 (.bslice 9 1 [(Value.string ⟨#[]⟩)] [(0, 1, (.tmp 65))]),
  qo 67 (.append 9 1 16 [(Value.string ⟨#[]⟩)] (.tmp 63) (.tmp 66)),qf 68 1 3,qs 1 68 67] [[0,1,2,3,4,5,6,7], [0,2,3,1,4,5,6,7]] [0,2,3]))))))))
 (.reg [qm 9 0,qo 10 (.call 19 [(.tmp 9), (.const (Value.int IntKind.i64 160))])] [0,2,3])))))))))
 (qS [qm 69 0,qx 70 24 [69],qf 71 3 3,qs 1 71 70] [0,2,3]
 (qS [qm 72 0,qx 73 20 [72],qf 74 2 3,qs 1 74 73] [0,2,3]
 (qS [qm 75 0,qo 76 (.call 21 [(.tmp 75), (.const (Value.int IntKind.i64 0))]),qf 77 4 3,qs 1 77 76] [2,3]
 (qS [qN 78 5 3,qs 5 2 78] [2]
 .ret)))))))⟩)
theorem low12 : lowF Tryz.prog (assoc [(0, [0,2]), (1, [0,2,3]), (2, [0,2,3,8]), (3, [0,2,3]), (4, [0,2,3,8,11]), (5, [0,2,3]), (6, [0,2,3]), (7, [0,2,3,8,21]), (8, [0,2,3]), (9, [0,2,3]), (10, [0,2,3]), (11, [0,2,3,38]), (12, [0,2,3,45]), (13, [0,2,3]), (14, [0,2,3]), (15, [0,2,3]), (16, [0,2,3]), (17, [0,2,3]), (18, [0,2,3]), (19, [2,3]), (20, [2])]) (assoc [(10,[[0,1,2,3,4,5,6,7], [0,2,3,1,4,5,6,7]]), (14,[[0,1,2,3,4,5,6,7,8,9]]), (16,[[0,1,2,3,4,5,6,7], [0,2,3,1,4,5,6,7]])]) 12 = some F12 := by kernel_rfl
def F18 : FIR := laid (X := ⟨31, [],
 (qS [qm 3 0,qx 4 28 [3],
  qo 2 (.alloc 72 [(Value.int IntKind.u8 0), (Value.string ⟨#[]⟩), (Value.int IntKind.i64 0), (Value.int IntKind.u8 0), (Value.int IntKind.i64 0), (Value.int IntKind.u64 0), (Value.string ⟨#[]⟩), (Value.slice none 0 0)]),
  qs 8 2 4] [0,2]
 (.seq (qS [qm 5 0,qn 6 5,qf 7 19 6,ql 8 7,qo 9 (.eqnil true .ptr (.tmp 8))] [0,2,9]
 (qC 9 (.reg [qm 10 0,qn 11 10,qf 12 19 11,ql 13 12,qo 14 (.mkif 26 (.tmp 13)),⟨none,none,.pnc (.tmp 14)⟩] [0,2])
 .skip))
 (qD [qm 15 0,qm 16 0,qm 17 0,qN 18 8 2,qf 19 2 2,ql 20 19,qf 21 1 2,ql 22 21,qo 23 (.lenS (.tmp 22)),qb 24 .add 20 23,qn 25 15,
  qf 26 1 25,qs 8 26 18,qn 27 16,qf 28 9 27,qs 1 28 24,qn 29 17,qf 30 18 29,⟨none,none,.store 1 (.tmp 30) (.const (Value.bool false))⟩] [[0,1,2,3,4,5,6,7,8,9,10,11,12,13,14,15,16,17,18], [0,1,2,3,4,6,7,5,8,9,10,11,12,13,14,15,16,17,18], [0,1,2,3,4,6,7,8,10,11,12,5,9,13,14,15,16,17,18], [0,1,2,3,4,5,6,10,11,12,7,8,9,13,14,15,16,17,18], [0,1,2,3,4,6,10,11,12,5,7,8,9,13,14,15,16,17,18], [0,1,2,3,4,6,10,11,12,7,5,8,9,13,14,15,16,17,18]] [])))⟩)
theorem low18 : lowF Tryz.prog (kpO F18) (assoc [(3,[[0,1,2,3,4,5,6,7,8,9,10,11,12,13,14,15,16,17,18], [0,1,2,3,4,6,7,5,8,9,10,11,12,13,14,15,16,17,18], [0,1,2,3,4,6,7,8,10,11,12,5,9,13,14,15,16,17,18], [0,1,2,3,4,5,6,10,11,12,7,8,9,13,14,15,16,17,18], [0,1,2,3,4,6,10,11,12,5,7,8,9,13,14,15,16,17,18], [0,1,2,3,4,6,10,11,12,7,5,8,9,13,14,15,16,17,18]])]) 18 = some F18 := by kernel_rfl
def F19 : FIR := laid (X := ⟨14, [],
 (.reg [qm 4 0,qn 5 4,qf 6 1 5,qf 7 2 6,ql 8 7,qm 9 1,qo 10 (.mkif 23 (.tmp 9)),
  qo 11 (.build [(Value.string ⟨#[]⟩), (Value.int IntKind.i64 0), Value.nilIface] [(1, 1, (.tmp 8)), (2, 1, (.tmp 10))]),qB 12 30 11,
  qo 13 (.mkif 26 (.tmp 12)),⟨none,none,.pnc (.tmp 13)⟩] [])⟩)
theorem low19 : lowF Tryz.prog (kpO F19) (assoc []) 19 = some F19 := by kernel_rfl
def F20 : FIR := laid (X := ⟨39, [.tmp 2],
 (qS [qo 2 (.mv (.const (Value.slice none 0 0)))] [0]
 (qS [qo 3 (.mv (.const (Value.slice none 0 0)))] [0,3]
 (.seq (qS [qm 4 0,qo 5 (.call 29 [(.tmp 4), (.const (Value.string ⟨#[124]⟩))]),qo 6 (.un .not (.tmp 5))] [0,3,6]
 (qC 6 (qS [qo 2 (.mv (.const (Value.slice none 0 0)))] [2]
 .ret)
 .skip))
 (qS [qm 7 0,qx 8 18 [7]] [0,3]
 (.seq (.block 0 (.loop (.seq (qS [qm 9 0,qo 10 (.call 29 [(.tmp 9), (.const (Value.string ⟨#[124]⟩))]),qo 11 (.un .not (.tmp 10))] [0,3,11]
 (qC 11 .skip
 (.exit 0)))
 (.block 1 (.seq (qS [qm 12 0,qn 13 12,qf 14 1 13,qf 15 0 14,ql 16 15,qo 17 (.bin .eql (.tmp 16) (.const (Value.int IntKind.u8 1))),qm 18 17,
  qt 18 (qm 19 0),qt 18 (qn 20 19),qt 18 (qf 21 1 20),qt 18 (qf 22 1 21),qt 18 (ql 23 22),qt 18 (qx 24 30 [23]),qt 18 (qo 25 (.un .not (.tmp 24))),
  qa 26 18 25] [0,3,26]
 (qC 26 (.reg [qm 27 0,qm 28 3,qL 29 28,qo 30 (.call 23 [(.tmp 27), (.tmp 29), (.const (Value.int IntKind.i64 63))])] [0,3])
 .skip))
 (.reg [qm 31 3,qm 32 0,qx 33 22 [32],qo 34 (.bslice 9 1 [(Value.string ⟨#[]⟩)] [(0, 1, (.tmp 33))]),
  qo 35 (.append 9 1 16 [(Value.string ⟨#[]⟩)] (.tmp 31) (.tmp 34)),qm 3 35] [0,3]))))))
 (qS [qm 36 0,qx 37 18 [36]] [3]
 (qS [qm 38 3,qm 2 38] [2]
 .ret)))))))⟩)
theorem low20 : lowF Tryz.prog (kpO F20) (assoc []) 20 = some F20 := by kernel_rfl
def F21 : FIR := laid (X := ⟨46, [.tmp 4],
 (qS [qo 4 (.mv (.const (Value.slice none 0 0)))] [0,1]
 (qS [qo 5 (.mv (.const (Value.slice none 0 0)))] [0,1,5]
 (.block 0 (.loop (.block 1 (.seq (qS [qm 7 0,qo 8 (.call 29 [(.tmp 7), (.const (Value.string ⟨#[94]⟩))])] [0,1,5,8]
 (qC 8 (qS [qm 9 0,qn 10 9,qf 11 1 10,qf 12 2 11,ql 13 12,
  qo 14 (.build [(Value.int IntKind.u8 0), (Value.string ⟨#[]⟩), (Value.int IntKind.u8 0), (Value.int IntKind.i64 0), (Value.int IntKind.u64 0), (Value.string ⟨#[]⟩), (Value.slice none 0 0), (Value.slice none 0 0), (Value.slice none 0 0), (Value.slice none 0 0), (Value.int IntKind.i64 0)] [(0, 1, (.const (Value.int IntKind.u8 9))), (10, 1, (.tmp 13))]),
  qo 6 (.alloc 46 [(Value.int IntKind.u8 0), (Value.string ⟨#[]⟩), (Value.int IntKind.u8 0), (Value.int IntKind.i64 0), (Value.int IntKind.u64 0), (Value.string ⟨#[]⟩), (Value.slice none 0 0), (Value.slice none 0 0), (Value.slice none 0 0), (Value.slice none 0 0), (Value.int IntKind.i64 0)]),
  qs 11 6 14] [0,1,5,6]
 (qS [qm 15 0,qx 16 18 [15]] [0,1,5,6]
 (qS [qm 17 0,qm 18 1,qx 19 31 [17,18],
  qo 20 (.bslice 46 1 [(Value.int IntKind.u8 0), (Value.string ⟨#[]⟩), (Value.int IntKind.u8 0), (Value.int IntKind.i64 0), (Value.int IntKind.u64 0), (Value.string ⟨#[]⟩), (Value.slice none 0 0), (Value.slice none 0 0), (Value.slice none 0 0), (Value.slice none 0 0), (Value.int IntKind.i64 0)] [(0, 11, (.tmp 19))]),
  qf 21 9 6,qs 1 21 20] [0,5,6]
 (.seq (qS [qm 22 0,qo 23 (.call 29 [(.tmp 22), (.const (Value.string ⟨#[46]⟩))])] [0,5,6,23]
 (qC 23 (.reg [qm 24 0,qx 25 18 [24]] [5,6])
 .skip))
 (qS [qm 26 5,qN 27 11 6,
  qo 28 (.bslice 46 1 [(Value.int IntKind.u8 0), (Value.string ⟨#[]⟩), (Value.int IntKind.u8 0), (Value.int IntKind.i64 0), (Value.int IntKind.u64 0), (Value.string ⟨#[]⟩), (Value.slice none 0 0), (Value.slice none 0 0), (Value.slice none 0 0), (Value.slice none 0 0), (Value.int IntKind.i64 0)] [(0, 11, (.tmp 27))]),
  qo 29 (.append 46 11 168 [(Value.int IntKind.u8 0), (Value.string ⟨#[]⟩), (Value.int IntKind.u8 0), (Value.int IntKind.i64 0), (Value.int IntKind.u64 0), (Value.string ⟨#[]⟩), (Value.slice none 0 0), (Value.slice none 0 0), (Value.slice none 0 0), (Value.slice none 0 0), (Value.int IntKind.i64 0)] (.tmp 26) (.tmp 28)),
  qm 4 29] [4]
 .ret)))))
 .skip))
 (.seq (qS [qm 30 0,qx 31 32 [30],qo 32 (.un .not (.tmp 31))] [0,1,5,32]
 (qC 32 (qS [qm 33 5,qm 4 33] [4]
 .ret)
 .skip))
 (qS [qm 34 5,qm 35 0,qm 36 1,qx 37 31 [35,36],
  qo 38 (.bslice 46 1 [(Value.int IntKind.u8 0), (Value.string ⟨#[]⟩), (Value.int IntKind.u8 0), (Value.int IntKind.i64 0), (Value.int IntKind.u64 0), (Value.string ⟨#[]⟩), (Value.slice none 0 0), (Value.slice none 0 0), (Value.slice none 0 0), (Value.slice none 0 0), (Value.int IntKind.i64 0)] [(0, 11, (.tmp 37))]),
  qo 39 (.append 46 11 168 [(Value.int IntKind.u8 0), (Value.string ⟨#[]⟩), (Value.int IntKind.u8 0), (Value.int IntKind.i64 0), (Value.int IntKind.u64 0), (Value.string ⟨#[]⟩), (Value.slice none 0 0), (Value.slice none 0 0), (Value.slice none 0 0), (Value.slice none 0 0), (Value.int IntKind.i64 0)] (.tmp 34) (.tmp 38)),
  qm 5 39] [0,1,5]
 (.seq (qS [qm 40 0,qo 41 (.call 29 [(.tmp 40), (.const (Value.string ⟨#[46]⟩))]),qo 42 (.un .not (.tmp 41))] [0,1,5,42]
 (qC 42 (qS [qm 43 5,qm 4 43] [4]
 .ret)
 .skip))
 (.reg [qm 44 0,qx 45 18 [44]] [0,1,5]))))))))))⟩)
theorem low21 : lowF Tryz.prog (kpO F21) (assoc []) 21 = some F21 := by kernel_rfl
def F22 : FIR := laid (X := ⟨24, [.tmp 2],
 (qS [qo 2 (.mv (.const (Value.string ⟨#[]⟩)))] [0]
 (qS [qm 4 0,qn 5 4,qf 6 1 5,qf 7 1 6,ql 8 7,qm 3 8] [0,3]
 (.seq (qS [qm 9 0,qn 10 9,qf 11 1 10,qf 12 0 11,ql 13 12,qo 14 (.bin .neq (.tmp 13) (.const (Value.int IntKind.u8 1))),qm 15 14,
  qu 15 (qm 16 3),qu 15 (qx 17 30 [16]),qr 18 15 17] [0,3,18]
 (qC 18 (.reg [qm 19 0,qo 20 (.call 19 [(.tmp 19), (.const (Value.int IntKind.i64 160))])] [0,3])
 .skip))
 (qS [qm 21 0,qx 22 18 [21]] [3]
 (qS [qm 23 3,qm 2 23] [2]
 .ret)))))⟩)
theorem low22 : lowF Tryz.prog (kpO F22) (assoc []) 22 = some F22 := by kernel_rfl
def F23 : FIR := laid (X := ⟨11, [],
 (qS [qm 6 1,qm 7 2,qb 8 .geq 6 7] [0,8]
 (qC 8 (.reg [qm 9 0,qo 10 (.call 19 [(.tmp 9), (.const (Value.int IntKind.i64 161))])] [])
 .skip))⟩)
theorem low23 : lowF Tryz.prog (kpO F23) (assoc []) 23 = some F23 := by kernel_rfl
def F24 : FIR := laid (X := ⟨61, [.tmp 2],
 (qS [qk 2 0] [0]
 (.seq (qS [qm 4 0,qo 5 (.call 29 [(.tmp 4), (.const (Value.string ⟨#[60]⟩))]),qo 6 (.un .not (.tmp 5))] [0,6]
 (qC 6 (qS [qk 2 0] [2]
 .ret)
 .skip))
 (qS [qm 7 0,qx 8 18 [7]] [0]
 (.seq (qS [qm 9 0,qn 10 9,qf 11 1 10,qf 12 0 11,ql 13 12,qo 14 (.bin .neq (.tmp 13) (.const (Value.int IntKind.u8 2))),qm 15 14,
  qu 15 (qm 16 0),qu 15 (qn 17 16),qu 15 (qf 18 1 17),qu 15 (qf 19 1 18),qu 15 (ql 20 19),
  qu 15 (qo 21 (.bin .neq (.tmp 20) (.const (Value.string ⟨#[112, 114, 105, 109, 105, 116, 105, 118, 101, 58]⟩)))),qr 22 15 21] [0,22]
 (qC 22 (.reg [qm 23 0,qo 24 (.call 19 [(.tmp 23), (.const (Value.int IntKind.i64 160))])] [0])
 .skip))
 (qS [qm 25 0,qx 26 18 [25]] [0]
 (qS [qm 27 0,qn 28 27,qf 29 1 28,qf 30 3 29,qN 31 5 30,
  qo 3 (.alloc 44 [(Value.int IntKind.u8 0), (Value.int IntKind.i64 0), (Value.int IntKind.u64 0), (Value.string ⟨#[]⟩), (Value.slice none 0 0)]),
  qs 5 3 31] [0,3]
 (.seq (qS [qm 32 0,qn 33 32,qf 34 1 33,qf 35 0 34,ql 36 35,qo 37 (.bin .neq (.tmp 36) (.const (Value.int IntKind.u8 4))),qm 38 37,
  qu 38 (qf 39 0 3),qu 38 (ql 40 39),qu 38 (qo 41 (.bin .neq (.tmp 40) (.const (Value.int IntKind.u8 4)))),qr 42 38 41,qm 43 42,qu 43 (qf 44 1 3),
  qu 43 (ql 45 44),qu 43 (qc 46 .lss 45 1),qr 47 43 46,qm 48 47,qu 48 (qf 49 1 3),qu 48 (ql 50 49),qu 48 (qc 51 .gtr 50 255),qr 52 48 51] [0,3,52]
 (qC 52 (.reg [qm 53 0,qo 54 (.call 19 [(.tmp 53), (.const (Value.int IntKind.i64 160))])] [0,3])
 .skip))
 (qS [qm 55 0,qx 56 18 [55]] [0,3]
 (qS [qm 57 0,qo 58 (.call 33 [(.tmp 57), (.const (Value.string ⟨#[62]⟩))])] [3]
 (qS [qf 59 1 3,ql 60 59,qm 2 60] [2]
 .ret))))))))))⟩)
theorem low24 : lowF Tryz.prog (kpO F24) (assoc []) 24 = some F24 := by kernel_rfl
def F28 : FIR := laid (X := ⟨36, [.cellN 2 8],
 (qS [qo 2 (.alloc 72 [(Value.int IntKind.u8 0), (Value.string ⟨#[]⟩), (Value.int IntKind.i64 0), (Value.int IntKind.u8 0), (Value.int IntKind.i64 0), (Value.int IntKind.u64 0), (Value.string ⟨#[]⟩), (Value.slice none 0 0)])] [0,2]
 (.seq (qS [qm 3 0,qn 4 3,qf 5 18 4,ql 6 5,qo 7 (.un .not (.tmp 6))] [0,2,7]
 (qC 7 (qS [qm 9 0,qm 10 0,qm 11 0,qm 12 0,qn 13 12,qf 14 9 13,ql 15 14,qx 16 34 [11,15],qm 8 16,qe 17 8 0,qe 18 8 1,qn 19 9,qf 20 10 19,
  qs 8 20 17,qn 21 10,qf 22 19 21,qs 1 22 18] [0,2]
 (.reg [qm 23 0,qn 24 23,qf 25 18 24,⟨none,none,.store 1 (.tmp 25) (.const (Value.bool true))⟩] [0,2]))
 .skip))
 (.seq (qS [qm 26 0,qn 27 26,qf 28 19 27,ql 29 28,qo 30 (.eqnil true .ptr (.tmp 29))] [0,2,30]
 (qC 30 (qS [qo 31 (.build [(Value.int IntKind.u8 0), (Value.string ⟨#[]⟩), (Value.int IntKind.i64 0), (Value.int IntKind.u8 0), (Value.int IntKind.i64 0), (Value.int IntKind.u64 0), (Value.string ⟨#[]⟩), (Value.slice none 0 0)] []),
  qs 8 2 31] [2]
 .ret)
 .skip))
 (qS [qm 32 0,qn 33 32,qf 34 10 33,qN 35 8 34,qs 8 2 35] [2]
 .ret))))⟩)
theorem low28 : lowF Tryz.prog (kpO F28) (assoc []) 28 = some F28 := by kernel_rfl
def F29 : FIR := laid (X := ⟨28, [.tmp 4],
 (qS [qz 4 false] [0,1]
 (qS [qm 5 0,qn 6 5,qf 7 1 6,qf 8 0 7,ql 9 8,qo 10 (.bin .eql (.tmp 9) (.const (Value.int IntKind.u8 8))),qm 11 10,qu 11 (qm 12 0),
  qu 11 (qn 13 12),qu 11 (qf 14 1 13),qu 11 (qf 15 0 14),qu 11 (ql 16 15),qu 11 (qo 17 (.bin .eql (.tmp 16) (.const (Value.int IntKind.u8 3)))),
  qr 18 11 17,qm 19 18,qt 19 (qm 20 0),qt 19 (qn 21 20),qt 19 (qf 22 1 21),qt 19 (qf 23 1 22),qt 19 (ql 24 23),qt 19 (qm 25 1),qt 19 (qb 26 .eql 24 25),
  qa 27 19 26,qm 4 27] [4]
 .ret))⟩)
theorem low29 : lowF Tryz.prog (kpO F29) (assoc []) 29 = some F29 := by kernel_rfl
def F30 : FIR := laid (X := ⟨10, [.tmp 2],
 (qS [qz 2 false] [0]
 (.seq (qS [qm 3 0] [3]
 (.block 0 (.seq (qS [qo 5 (.bin .eql (.tmp 3) (.const (Value.string ⟨#[115, 101, 108, 102]⟩))),qm 4 5] [3,4]
 (qC 4 .skip
 (qS [qo 6 (.bin .eql (.tmp 3) (.const (Value.string ⟨#[115, 117, 112, 101, 114]⟩))),qm 4 6] [3,4]
 (qC 4 .skip
 (qS [qo 7 (.bin .eql (.tmp 3) (.const (Value.string ⟨#[110, 105, 108]⟩))),qm 4 7] [3,4]
 (qC 4 .skip
 (qS [qo 8 (.bin .eql (.tmp 3) (.const (Value.string ⟨#[116, 114, 117, 101]⟩))),qm 4 8] [3,4]
 (qC 4 .skip
 (.reg [qo 9 (.bin .eql (.tmp 3) (.const (Value.string ⟨#[102, 97, 108, 115, 101]⟩))),qm 4 9] [4])))))))))
 (qC 4 (qS [qz 2 true] [2]
 .ret)
 .skip))))
 (qS [qz 2 false] [2]
 .ret)))⟩)
theorem low30 : lowF Tryz.prog (kpO F30) (assoc []) 30 = some F30 := by kernel_rfl
def F31 : FIR := laid (X := ⟨141, [.cellN 4 11],
 (qS [qo 4 (.alloc 46 [(Value.int IntKind.u8 0), (Value.string ⟨#[]⟩), (Value.int IntKind.u8 0), (Value.int IntKind.i64 0), (Value.int IntKind.u64 0), (Value.string ⟨#[]⟩), (Value.slice none 0 0), (Value.slice none 0 0), (Value.slice none 0 0), (Value.slice none 0 0), (Value.int IntKind.i64 0)])] [0,1,4]
 (.seq (qS [qm 10 0,qn 11 10,qf 12 1 11,qf 13 0 12,ql 14 13,qo 15 (.bin .eql (.tmp 14) (.const (Value.int IntKind.u8 1))),qm 16 15,
  qt 16 (qm 17 0),qt 16 (qn 18 17),qt 16 (qf 19 1 18),qt 16 (qf 20 1 19),qt 16 (ql 21 20),qt 16 (qx 22 30 [21]),qt 16 (qo 23 (.un .not (.tmp 22))),
  qa 24 16 23] [0,1,4,24]
 (qC 24 (qS [qm 25 0,qx 26 28 [25],
  qo 5 (.alloc 72 [(Value.int IntKind.u8 0), (Value.string ⟨#[]⟩), (Value.int IntKind.i64 0), (Value.int IntKind.u8 0), (Value.int IntKind.i64 0), (Value.int IntKind.u64 0), (Value.string ⟨#[]⟩), (Value.slice none 0 0)]),
  qs 8 5 26] [0,1,4,5]
 (qS [qf 27 0 5,ql 28 27,qo 29 (.bin .eql (.tmp 28) (.const (Value.int IntKind.u8 8))),qm 30 29,qt 30 (qf 31 1 5),qt 30 (ql 32 31),
  qt 30 (qo 33 (.bin .eql (.tmp 32) (.const (Value.string ⟨#[58, 61]⟩)))),qa 34 30 33] [0,1,4,34]
 (qC 34 (.seq (qD [qm 35 0,qn 36 35,qf 37 1 36,qf 38 1 37,ql 39 38,qm 40 0,qn 41 40,qf 42 1 41,qf 43 2 42,ql 44 43,
  qo 45 (.build [(Value.int IntKind.u8 0), (Value.string ⟨#[]⟩), (Value.int IntKind.u8 0), (Value.int IntKind.i64 0), (Value.int IntKind.u64 0), (Value.string ⟨#[]⟩), (Value.slice none 0 0), (Value.slice none 0 0), (Value.slice none 0 0), (Value.slice none 0 0), (Value.int IntKind.i64 0)] [(0, 1, (.const (Value.int IntKind.u8 3))), (1, 1, (.tmp 39)), (10, 1, (.tmp 44))]),
  qo 6 (.alloc 46 [(Value.int IntKind.u8 0), (Value.string ⟨#[]⟩), (Value.int IntKind.u8 0), (Value.int IntKind.i64 0), (Value.int IntKind.u64 0), (Value.string ⟨#[]⟩), (Value.slice none 0 0), (Value.slice none 0 0), (Value.slice none 0 0), (Value.slice none 0 0), (Value.int IntKind.i64 0)]),
  qs 11 6 45] [[0,1,2,3,4,5,6,7,8,9,10,11,12]] [0,1,4,6])
 (qS [qm 46 0,qx 47 18 [46]] [0,1,4,6]
 (qS [qm 48 0,qx 49 18 [48]] [0,1,4,6]
 (qS [qm 50 0,qm 51 1,qx 52 31 [50,51],
  qo 53 (.bslice 46 1 [(Value.int IntKind.u8 0), (Value.string ⟨#[]⟩), (Value.int IntKind.u8 0), (Value.int IntKind.i64 0), (Value.int IntKind.u64 0), (Value.string ⟨#[]⟩), (Value.slice none 0 0), (Value.slice none 0 0), (Value.slice none 0 0), (Value.slice none 0 0), (Value.int IntKind.i64 0)] [(0, 11, (.tmp 52))]),
  qf 54 9 6,qs 1 54 53] [4,6]
 (qS [qN 55 11 6,qs 11 4 55] [4]
 .ret)))))
 .skip)))
 .skip))
 (qS [qm 57 0,qm 58 1,qo 59 (.call 35 [(.tmp 57), (.tmp 58), (.const (Value.int IntKind.i64 3))]),qm 56 59,qe 60 56 0,qe 61 56 1,
  qo 7 (.alloc 46 [(Value.int IntKind.u8 0), (Value.string ⟨#[]⟩), (Value.int IntKind.u8 0), (Value.int IntKind.i64 0), (Value.int IntKind.u64 0), (Value.string ⟨#[]⟩), (Value.slice none 0 0), (Value.slice none 0 0), (Value.slice none 0 0), (Value.slice none 0 0), (Value.int IntKind.i64 0)]),
  qs 11 7 60,qm 8 61] [0,1,4,7,8]
 (.seq (qS [qm 62 8,qo 63 (.un .not (.tmp 62)),qm 64 63,qu 64 (qm 65 0),qu 64 (qo 66 (.call 29 [(.tmp 65), (.const (Value.string ⟨#[59]⟩))])),
  qu 64 (qo 67 (.un .not (.tmp 66))),qr 68 64 67] [0,1,4,7,68]
 (qC 68 (qS [qN 69 11 7,qs 11 4 69] [4]
 .ret)
 .skip))
 (qS [qm 70 0,qn 71 70,qf 72 1 71,qf 73 2 72,ql 74 73,
  qo 75 (.build [(Value.int IntKind.u8 0), (Value.string ⟨#[]⟩), (Value.int IntKind.u8 0), (Value.int IntKind.i64 0), (Value.int IntKind.u64 0), (Value.string ⟨#[]⟩), (Value.slice none 0 0), (Value.slice none 0 0), (Value.slice none 0 0), (Value.slice none 0 0), (Value.int IntKind.i64 0)] [(0, 1, (.const (Value.int IntKind.u8 5))), (10, 1, (.tmp 74))]),
  qo 9 (.alloc 46 [(Value.int IntKind.u8 0), (Value.string ⟨#[]⟩), (Value.int IntKind.u8 0), (Value.int IntKind.i64 0), (Value.int IntKind.u64 0), (Value.string ⟨#[]⟩), (Value.slice none 0 0), (Value.slice none 0 0), (Value.slice none 0 0), (Value.slice none 0 0), (Value.int IntKind.i64 0)]),
  qs 11 9 75] [0,1,4,7,9]
 (.seq (qD [qf 76 9 9,ql 77 76,qf 78 9 7,ql 79 78,qo 80 (.idxL 11 (.tmp 79) (.const (Value.int IntKind.i64 0))),qN 81 11 80,qf 82 1 7,ql 83 82,
  qf 84 9 7,ql 85 84,qo 86 (.slcL 11 (.tmp 85) (some (.const (Value.int IntKind.i64 1))) none none),qf 88 10 7,ql 89 88,
  qo 87 (.append 46 11 168 [(Value.int IntKind.u8 0), (Value.string ⟨#[]⟩), (Value.int IntKind.u8 0), (Value.int IntKind.i64 0), (Value.int IntKind.u64 0), (Value.string ⟨#[]⟩), (Value.slice none 0 0), (Value.slice none 0 0), (Value.slice none 0 0), (Value.slice none 0 0), (Value.int IntKind.i64 0)] (.const (Value.slice none 0 0)) (.tmp 86)),
  qo 90 (.build [(Value.int IntKind.u8 0), (Value.string ⟨#[]⟩), (Value.int IntKind.u8 0), (Value.int IntKind.i64 0), (Value.int IntKind.u64 0), (Value.string ⟨#[]⟩), (Value.slice none 0 0), (Value.slice none 0 0), (Value.slice none 0 0), (Value.slice none 0 0), (Value.int IntKind.i64 0)] [(0, 1, (.const (Value.int IntKind.u8 6))), (1, 1, (.tmp 83)), (9, 1, (.tmp 87)), (10, 1, (.tmp 89))]),
  qo 91 (.bslice 46 2 [(Value.int IntKind.u8 0), (Value.string ⟨#[]⟩), (Value.int IntKind.u8 0), (Value.int IntKind.i64 0), (Value.int IntKind.u64 0), (Value.string ⟨#[]⟩), (Value.slice none 0 0), (Value.slice none 0 0), (Value.slice none 0 0), (Value.slice none 0 0), (Value.int IntKind.i64 0)] [(0, 11, (.tmp 81)), (11, 11, (.tmp 90))]),
  qo 92 (.append 46 11 168 [(Value.int IntKind.u8 0), (Value.string ⟨#[]⟩), (Value.int IntKind.u8 0), (Value.int IntKind.i64 0), (Value.int IntKind.u64 0), (Value.string ⟨#[]⟩), (Value.slice none 0 0), (Value.slice none 0 0), (Value.slice none 0 0), (Value.slice none 0 0), (Value.int IntKind.i64 0)] (.tmp 77) (.tmp 91)),
  qf 93 9 9,qs 1 93 92] [[0,1,2,3,4,5,6,7,8,9,10,11,12,13,14,15,16,17,18]] [0,1,4,9])
 (.seq (.block 0 (.loop (.seq (qS [qm 94 0,qo 95 (.call 29 [(.tmp 94), (.const (Value.string ⟨#[59]⟩))])] [0,1,4,9,95]
 (qC 95 .skip
 (.exit 0)))
 (.block 1 (qS [qm 96 0,qf 97 9 9,ql 98 97,qL 99 98,qc 100 .sub 99 1,
  qo 101 (.call 23 [(.tmp 96), (.tmp 100), (.const (Value.int IntKind.i64 255))])] [0,1,4,9]
 (qS [qm 102 0,qx 103 18 [102]] [0,1,4,9]
 (qS [qm 104 0,qn 105 104,qf 106 1 105,qf 107 0 106,ql 108 107] [0,1,4,9,108]
 (.block 2 (qS [qo 112 (.bin .eql (.tmp 108) (.const (Value.int IntKind.u8 1))),qm 111 112] [0,1,4,9,108,111]
 (qC 111 (qD [qf 113 9 9,ql 114 113,qm 115 0,qx 116 36 [115],
  qo 117 (.bslice 46 1 [(Value.int IntKind.u8 0), (Value.string ⟨#[]⟩), (Value.int IntKind.u8 0), (Value.int IntKind.i64 0), (Value.int IntKind.u64 0), (Value.string ⟨#[]⟩), (Value.slice none 0 0), (Value.slice none 0 0), (Value.slice none 0 0), (Value.slice none 0 0), (Value.int IntKind.i64 0)] [(0, 11, (.tmp 116))]),
  qo 118 (.append 46 11 168 [(Value.int IntKind.u8 0), (Value.string ⟨#[]⟩), (Value.int IntKind.u8 0), (Value.int IntKind.i64 0), (Value.int IntKind.u64 0), (Value.string ⟨#[]⟩), (Value.slice none 0 0), (Value.slice none 0 0), (Value.slice none 0 0), (Value.slice none 0 0), (Value.int IntKind.i64 0)] (.tmp 114) (.tmp 117)),
  qf 119 9 9,qs 1 119 118] [[0,1,2,3,4,5,6,7], [0,2,3,1,4,5,6,7]] [0,1,4,9])
 (qS [qo 121 (.bin .eql (.tmp 108) (.const (Value.int IntKind.u8 3))),qm 120 121] [0,1,4,9,108,120]
 (qC 120 (qD [qf 122 9 9,ql 123 122,qm 124 0,qm 125 1,qx 126 37 [124,125],
  qo 127 (.bslice 46 1 [(Value.int IntKind.u8 0), (Value.string ⟨#[]⟩), (Value.int IntKind.u8 0), (Value.int IntKind.i64 0), (Value.int IntKind.u64 0), (Value.string ⟨#[]⟩), (Value.slice none 0 0), (Value.slice none 0 0), (Value.slice none 0 0), (Value.slice none 0 0), (Value.int IntKind.i64 0)] [(0, 11, (.tmp 126))]),
  qo 128 (.append 46 11 168 [(Value.int IntKind.u8 0), (Value.string ⟨#[]⟩), (Value.int IntKind.u8 0), (Value.int IntKind.i64 0), (Value.int IntKind.u64 0), (Value.string ⟨#[]⟩), (Value.slice none 0 0), (Value.slice none 0 0), (Value.slice none 0 0), (Value.slice none 0 0), (Value.int IntKind.i64 0)] (.tmp 123) (.tmp 127)),
  qf 129 9 9,qs 1 129 128] [[0,1,2,3,4,5,6,7,8], [0,2,3,4,1,5,6,7,8]] [0,1,4,9])
 (qS [qo 131 (.bin .eql (.tmp 108) (.const (Value.int IntKind.u8 2))),qm 130 131] [0,1,4,9,130]
 (qC 130 (qD [qf 132 9 9,ql 133 132,qm 134 0,qm 135 1,qx 136 38 [134,135],
  qo 137 (.bslice 46 1 [(Value.int IntKind.u8 0), (Value.string ⟨#[]⟩), (Value.int IntKind.u8 0), (Value.int IntKind.i64 0), (Value.int IntKind.u64 0), (Value.string ⟨#[]⟩), (Value.slice none 0 0), (Value.slice none 0 0), (Value.slice none 0 0), (Value.slice none 0 0), (Value.int IntKind.i64 0)] [(0, 11, (.tmp 136))]),
  qo 138 (.append 46 11 168 [(Value.int IntKind.u8 0), (Value.string ⟨#[]⟩), (Value.int IntKind.u8 0), (Value.int IntKind.i64 0), (Value.int IntKind.u64 0), (Value.string ⟨#[]⟩), (Value.slice none 0 0), (Value.slice none 0 0), (Value.slice none 0 0), (Value.slice none 0 0), (Value.int IntKind.i64 0)] (.tmp 133) (.tmp 137)),
  qf 139 9 9,qs 1 139 138] [[0,1,2,3,4,5,6,7,8], [0,2,3,4,1,5,6,7,8]] [0,1,4,9])
 (.reg [qm 109 0,qo 110 (.call 19 [(.tmp 109), (.const (Value.int IntKind.i64 160))])] [0,1,4,9])))))))))))))))
 (qS [qN 140 11 9,qs 11 4 140] [4]
 .ret))))))))⟩)
theorem low31 : lowF Tryz.prog (assoc [(0, [0,1,4]), (1, [0,1,4,24]), (2, [0,1,4,5]), (3, [0,1,4,34]), (4, [0,1,4,6]), (5, [0,1,4,6]), (6, [0,1,4,6]), (7, [4,6]), (8, [4]), (9, [0,1,4,7,8]), (10, [0,1,4,7,68]), (11, [4]), (12, [0,1,4,7,9]), (13, [0,1,4,9]), (14, [0,1,4,9,95]), (15, [0,1,4,9]), (16, [0,1,4,9]), (17, [0,1,4,9,108]), (18, [0,1,4,9]), (19, [0,1,4,9,108,111]), (20, [0,1,4,9]), (21, [0,1,4,9,108,120]), (22, [0,1,4,9]), (23, [0,1,4,9,130]), (24, [0,1,4,9]), (25, [4])]) (assoc [(4,[[0,1,2,3,4,5,6,7,8,9,10,11,12]]), (13,[[0,1,2,3,4,5,6,7,8,9,10,12,13,11,14,15,16,17,18]]), (20,[[0,1,2,3,4,5,6,7], [0,2,3,1,4,5,6,7]]), (22,[[0,1,2,3,4,5,6,7,8], [0,2,3,4,1,5,6,7,8]]), (24,[[0,1,2,3,4,5,6,7,8], [0,2,3,4,1,5,6,7,8]])]) 31 = some F31 := by kernel_rfl
def F32 : FIR := laid (X := ⟨34, [.tmp 2],
 (qS [qz 2 false] [0]
 (.seq (qS [qm 3 0,qn 4 3,qf 5 1 4,qf 6 0 5,ql 7 6,qo 8 (.bin .eql (.tmp 7) (.const (Value.int IntKind.u8 8)))] [0,8]
 (qC 8 (.seq (qS [qm 9 0,qn 10 9,qf 11 1 10,qf 12 1 11,ql 13 12] [13]
 (.block 0 (.seq (qS [qo 15 (.bin .eql (.tmp 13) (.const (Value.string ⟨#[40]⟩))),qm 14 15] [13,14]
 (qC 14 .skip
 (qS [qo 16 (.bin .eql (.tmp 13) (.const (Value.string ⟨#[91]⟩))),qm 14 16] [13,14]
 (qC 14 .skip
 (qS [qo 17 (.bin .eql (.tmp 13) (.const (Value.string ⟨#[123]⟩))),qm 14 17] [13,14]
 (qC 14 .skip
 (qS [qo 18 (.bin .eql (.tmp 13) (.const (Value.string ⟨#[35, 40]⟩))),qm 14 18] [13,14]
 (qC 14 .skip
 (.reg [qo 19 (.bin .eql (.tmp 13) (.const (Value.string ⟨#[35, 91]⟩))),qm 14 19] [14])))))))))
 (qC 14 (qS [qz 2 true] [2]
 .ret)
 .skip))))
 (qS [qz 2 false] [2]
 .ret))
 .skip))
 (qS [qm 20 0,qx 21 39 [20],qm 22 21,qu 22 (qm 23 0),qu 22 (qn 24 23),qu 22 (qf 25 1 24),qu 22 (qf 26 0 25),qu 22 (ql 27 26),
  qu 22 (qo 28 (.bin .eql (.tmp 27) (.const (Value.int IntKind.u8 1)))),qr 29 22 28,qm 30 29,qu 30 (qm 31 0),qu 30 (qx 32 40 [31]),qr 33 30 32,qm 2 33] [2]
 .ret)))⟩)
theorem low32 : lowF Tryz.prog (kpO F32) (assoc []) 32 = some F32 := by kernel_rfl
def F33 : FIR := laid (X := ⟨12, [],
 (.seq (qS [qm 4 0,qm 5 1,qx 6 29 [4,5],qo 7 (.un .not (.tmp 6))] [0,7]
 (qC 7 (.reg [qm 8 0,qo 9 (.call 19 [(.tmp 8), (.const (Value.int IntKind.i64 160))])] [0])
 .skip))
 (.reg [qm 10 0,qx 11 18 [10]] []))⟩)
theorem low33 : lowF Tryz.prog (kpO F33) (assoc []) 33 = some F33 := by kernel_rfl
def F34 : FIR := laid (X := ⟨52, [.cellN 4 8, .tmp 5],
 (qS [qo 4 (.alloc 72 [(Value.int IntKind.u8 0), (Value.string ⟨#[]⟩), (Value.int IntKind.i64 0), (Value.int IntKind.u8 0), (Value.int IntKind.i64 0), (Value.int IntKind.u64 0), (Value.string ⟨#[]⟩), (Value.slice none 0 0)]),
  qo 5 (.mv (.const (Value.pointer none)))] [0,1,4]
 (qS [qm 14 0,qn 15 14,qf 16 0 15,ql 17 16,qm 18 1,qx 19 41 [17,18],qm 13 19,qe 20 13 0,qe 21 13 1,qe 22 13 2,
  qo 6 (.alloc 72 [(Value.int IntKind.u8 0), (Value.string ⟨#[]⟩), (Value.int IntKind.i64 0), (Value.int IntKind.u8 0), (Value.int IntKind.i64 0), (Value.int IntKind.u64 0), (Value.string ⟨#[]⟩), (Value.slice none 0 0)]),
  qs 8 6 20,qm 7 21,qm 8 22] [0,1,4,6,8]
 (.seq (qS [qm 23 8,qc 24 .eql 23 0] [0,1,4,6,8,24]
 (qC 24 (qS [qN 25 8 6,qs 8 4 25,qo 5 (.mv (.const (Value.pointer none)))] [4,5]
 .ret)
 .skip))
 (qS [qk 9 0] [0,1,4,6,8,9]
 (.seq (qS [qm 26 8,qc 27 .neq 26 140] [0,1,4,6,8,9,27]
 (qC 27 (qS [qm 29 0,qn 30 29,qf 31 0 30,ql 32 31,qm 33 1,qo 34 (.slcS (.tmp 32) (some (.tmp 33)) none),qx 35 42 [34],qm 28 35,qe 36 28 0,
  qe 37 28 1,qe 38 28 2,qm 10 36,qm 11 37,qm 12 38] [1,4,6,8,12]
 (.reg [qm 39 1,qm 40 12,qb 41 .add 39 40,qm 9 41] [4,6,8,9]))
 .skip))
 (qS [qN 42 8 6,qm 43 9,qm 44 9,qm 45 8,qo 46 (.mkif 23 (.tmp 45)),
  qo 47 (.build [(Value.string ⟨#[]⟩), (Value.int IntKind.i64 0), Value.nilIface] [(0, 1, (.const (Value.string ⟨#[84, 111, 107, 101, 110, 115]⟩))), (1, 1, (.tmp 44)), (2, 1, (.tmp 46))]),
  qB 48 30 47,qo 49 (.mkif 26 (.tmp 48)),
  qo 50 (.build [(Value.string ⟨#[]⟩), (Value.int IntKind.i64 0), Value.nilIface] [(1, 1, (.tmp 43)), (2, 1, (.tmp 49))]),qB 51 30 50,qs 8 4 42,qm 5 51] [4,5]
 .ret))))))⟩)
theorem low34 : lowF Tryz.prog (kpO F34) (assoc []) 34 = some F34 := by kernel_rfl
def F35 : FIR := laid (X := ⟨77, [.cellN 6 11, .tmp 7],
 (qS [qo 6 (.alloc 46 [(Value.int IntKind.u8 0), (Value.string ⟨#[]⟩), (Value.int IntKind.u8 0), (Value.int IntKind.i64 0), (Value.int IntKind.u64 0), (Value.string ⟨#[]⟩), (Value.slice none 0 0), (Value.slice none 0 0), (Value.slice none 0 0), (Value.slice none 0 0), (Value.int IntKind.i64 0)]),
  qz 7 false] [0,1,2,6]
 (qS [qm 10 0,qm 11 1,qx 12 43 [10,11],
  qo 8 (.alloc 46 [(Value.int IntKind.u8 0), (Value.string ⟨#[]⟩), (Value.int IntKind.u8 0), (Value.int IntKind.i64 0), (Value.int IntKind.u64 0), (Value.string ⟨#[]⟩), (Value.slice none 0 0), (Value.slice none 0 0), (Value.slice none 0 0), (Value.slice none 0 0), (Value.int IntKind.i64 0)]),
  qs 11 8 12] [0,1,2,6,8]
 (qS [qz 9 false] [0,1,2,6,8,9]
 (.block 0 (.loop (.block 1 (.seq (.block 2 (qS [qm 20 0,qn 21 20,qf 22 1 21,qf 23 0 22,ql 24 23,qo 25 (.bin .eql (.tmp 24) (.const (Value.int IntKind.u8 1))),qm 19 25] [0,1,2,6,8,9,19]
 (qC 19 (qD [qN 26 11 8,qm 27 0,qx 28 36 [27],qx 29 44 [26,28],qs 11 8 29] [[0,1,2,3,4], [1,2,0,3,4]] [0,1,2,6,8])
 (qS [qm 31 0,qn 32 31,qf 33 1 32,qf 34 0 33,ql 35 34,qo 36 (.bin .eql (.tmp 35) (.const (Value.int IntKind.u8 3))),qm 37 36,
  qt 37 (qm 38 2),qt 37 (qc 39 .gtr 38 1),qa 40 37 39,qm 30 40] [0,1,2,6,8,9,30]
 (qC 30 (qS [qm 41 0,qN 42 11 8,qm 43 1,qx 44 45 [41,42,43],qs 11 8 44] [0,1,2,6,8]
 (.seq (qS [qm 45 2,qc 46 .eql 45 3,qm 47 46,qt 47 (qm 48 0),qt 47 (qn 49 48),qt 47 (qf 50 1 49),qt 47 (qf 51 0 50),qt 47 (ql 52 51),
  qt 47 (qo 53 (.bin .eql (.tmp 52) (.const (Value.int IntKind.u8 2)))),qa 54 47 53] [0,1,6,8,54]
 (qC 54 (qD [qN 55 11 8,qm 56 0,qm 57 1,qx 58 38 [56,57],qx 59 44 [55,58],qs 11 8 59] [[0,1,2,3,4,5], [1,2,3,0,4,5]] [6,8])
 .skip))
 (qS [qN 60 11 8,qs 11 6 60,qz 7 true] [6,7]
 .ret)))
 (qS [qm 62 0,qn 63 62,qf 64 1 63,qf 65 0 64,ql 66 65,qo 67 (.bin .eql (.tmp 66) (.const (Value.int IntKind.u8 2))),qm 68 67,
  qt 68 (qm 69 2),qt 68 (qc 70 .gtr 69 2),qa 71 68 70,qm 61 71] [0,1,6,8,9,61]
 (qC 61 (.seq (qD [qN 72 11 8,qm 73 0,qm 74 1,qx 75 38 [73,74],qx 76 44 [72,75],qs 11 6 76,qz 7 true] [[0,1,2,3,4,5,6], [1,2,3,0,4,5,6]] [6,7])
 .ret)
 (.seq (qS [qN 13 11 8,qx 14 46 [13]] [0,6,8,9,14]
 (qC 14 (.reg [qm 15 0,qo 16 (.call 19 [(.tmp 15), (.const (Value.int IntKind.i64 160))])] [6,8,9])
 .skip))
 (qS [qN 17 11 8,qm 18 9,qs 11 6 17,qm 7 18] [6,7]
 .ret)))))))))
 (.reg [qz 9 true] [0,1,2,6,8,9]))))))))⟩)
theorem low35 : lowF Tryz.prog (assoc [(0, [0,1,2,6]), (1, [0,1,2,6,8]), (2, [0,1,2,6,8,9]), (3, [0,6,8,9,14]), (4, [6,8,9]), (5, [6,7]), (6, [0,1,2,6,8,9,19]), (7, [0,1,2,6,8]), (8, [0,1,2,6,8,9,30]), (9, [0,1,2,6,8]), (10, [0,1,6,8,54]), (11, [6,8]), (12, [6,7]), (13, [0,1,6,8,9,61]), (14, [6,7]), (15, [0,1,2,6,8,9])]) (assoc [(7,[[0,1,2,3,4], [1,2,0,3,4]]), (11,[[0,1,2,3,4,5], [1,2,3,0,4,5]]), (14,[[0,1,2,3,4,5,6], [1,2,3,0,4,5,6]])]) 35 = some F35 := by kernel_rfl
def F36 : FIR := laid (X := ⟨18, [.cellN 2 11],
 (qS [qo 2 (.alloc 46 [(Value.int IntKind.u8 0), (Value.string ⟨#[]⟩), (Value.int IntKind.u8 0), (Value.int IntKind.i64 0), (Value.int IntKind.u64 0), (Value.string ⟨#[]⟩), (Value.slice none 0 0), (Value.slice none 0 0), (Value.slice none 0 0), (Value.slice none 0 0), (Value.int IntKind.i64 0)])] [0,2]
 (.seq (qD [qm 4 0,qn 5 4,qf 6 1 5,qf 7 1 6,ql 8 7,qm 9 0,qn 10 9,qf 11 1 10,qf 12 2 11,ql 13 12,
  qo 14 (.build [(Value.int IntKind.u8 0), (Value.string ⟨#[]⟩), (Value.int IntKind.u8 0), (Value.int IntKind.i64 0), (Value.int IntKind.u64 0), (Value.string ⟨#[]⟩), (Value.slice none 0 0), (Value.slice none 0 0), (Value.slice none 0 0), (Value.slice none 0 0), (Value.int IntKind.i64 0)] [(0, 1, (.const (Value.int IntKind.u8 6))), (1, 1, (.tmp 8)), (10, 1, (.tmp 13))]),
  qo 3 (.alloc 46 [(Value.int IntKind.u8 0), (Value.string ⟨#[]⟩), (Value.int IntKind.u8 0), (Value.int IntKind.i64 0), (Value.int IntKind.u64 0), (Value.string ⟨#[]⟩), (Value.slice none 0 0), (Value.slice none 0 0), (Value.slice none 0 0), (Value.slice none 0 0), (Value.int IntKind.i64 0)]),
  qs 11 3 14] [[0,1,2,3,4,5,6,7,8,9,10,11,12]] [0,2,3])
 (qS [qm 15 0,qx 16 18 [15]] [2,3]
 (qS [qN 17 11 3,qs 11 2 17] [2]
 .ret))))⟩)
theorem low36 : lowF Tryz.prog (kpO F36) (assoc [(1,[[0,1,2,3,4,5,6,7,8,9,10,11,12]])]) 36 = some F36 := by kernel_rfl
def F37 : FIR := laid (X := ⟨14, [.cellN 4 11],
 (qS [qo 4 (.alloc 46 [(Value.int IntKind.u8 0), (Value.string ⟨#[]⟩), (Value.int IntKind.u8 0), (Value.int IntKind.i64 0), (Value.int IntKind.u64 0), (Value.string ⟨#[]⟩), (Value.slice none 0 0), (Value.slice none 0 0), (Value.slice none 0 0), (Value.slice none 0 0), (Value.int IntKind.i64 0)])] [0,1,4]
 (qS [qm 6 0,qx 7 36 [6],
  qo 5 (.alloc 46 [(Value.int IntKind.u8 0), (Value.string ⟨#[]⟩), (Value.int IntKind.u8 0), (Value.int IntKind.i64 0), (Value.int IntKind.u64 0), (Value.string ⟨#[]⟩), (Value.slice none 0 0), (Value.slice none 0 0), (Value.slice none 0 0), (Value.slice none 0 0), (Value.int IntKind.i64 0)]),
  qs 11 5 7] [0,1,4,5]
 (qS [qm 8 0,qm 9 1,qo 10 (.call 47 [(.tmp 8), (.tmp 9), (.const (Value.int IntKind.i64 1))]),
  qo 11 (.bslice 46 1 [(Value.int IntKind.u8 0), (Value.string ⟨#[]⟩), (Value.int IntKind.u8 0), (Value.int IntKind.i64 0), (Value.int IntKind.u64 0), (Value.string ⟨#[]⟩), (Value.slice none 0 0), (Value.slice none 0 0), (Value.slice none 0 0), (Value.slice none 0 0), (Value.int IntKind.i64 0)] [(0, 11, (.tmp 10))]),
  qf 12 9 5,qs 1 12 11] [4,5]
 (qS [qN 13 11 5,qs 11 4 13] [4]
 .ret))))⟩)
theorem low37 : lowF Tryz.prog (kpO F37) (assoc []) 37 = some F37 := by kernel_rfl
def F38 : FIR := laid (X := ⟨43, [.cellN 4 11],
 (qS [qo 4 (.alloc 46 [(Value.int IntKind.u8 0), (Value.string ⟨#[]⟩), (Value.int IntKind.u8 0), (Value.int IntKind.i64 0), (Value.int IntKind.u64 0), (Value.string ⟨#[]⟩), (Value.slice none 0 0), (Value.slice none 0 0), (Value.slice none 0 0), (Value.slice none 0 0), (Value.int IntKind.i64 0)])] [0,1,4]
 (qS [qm 6 0,qn 7 6,qf 8 1 7,qf 9 2 8,ql 10 9,
  qo 11 (.build [(Value.int IntKind.u8 0), (Value.string ⟨#[]⟩), (Value.int IntKind.u8 0), (Value.int IntKind.i64 0), (Value.int IntKind.u64 0), (Value.string ⟨#[]⟩), (Value.slice none 0 0), (Value.slice none 0 0), (Value.slice none 0 0), (Value.slice none 0 0), (Value.int IntKind.i64 0)] [(0, 1, (.const (Value.int IntKind.u8 6))), (10, 1, (.tmp 10))]),
  qo 5 (.alloc 46 [(Value.int IntKind.u8 0), (Value.string ⟨#[]⟩), (Value.int IntKind.u8 0), (Value.int IntKind.i64 0), (Value.int IntKind.u64 0), (Value.string ⟨#[]⟩), (Value.slice none 0 0), (Value.slice none 0 0), (Value.slice none 0 0), (Value.slice none 0 0), (Value.int IntKind.i64 0)]),
  qs 11 5 11] [0,1,4,5]
 (.seq (.block 0 (.loop (.seq (qS [qm 12 0,qn 13 12,qf 14 1 13,qf 15 0 14,ql 16 15,qo 17 (.bin .eql (.tmp 16) (.const (Value.int IntKind.u8 2)))] [0,1,4,5,17]
 (qC 17 .skip
 (.exit 0)))
 (.block 1 (qS [qm 18 0,qf 19 9 5,ql 20 19,qL 21 20,qo 22 (.call 23 [(.tmp 18), (.tmp 21), (.const (Value.int IntKind.i64 15))])] [0,1,4,5]
 (.seq (qD [qf 23 1 5,ql 24 23,qm 25 0,qn 26 25,qf 27 1 26,qf 28 1 27,ql 29 28,qb 30 .add 24 29,qf 31 1 5,qs 1 31 30] [[0,1,2,3,4,5,6,7,8,9]] [0,1,4,5])
 (qS [qm 32 0,qx 33 18 [32]] [0,1,4,5]
 (qD [qf 34 9 5,ql 35 34,qm 36 0,qm 37 1,qo 38 (.call 47 [(.tmp 36), (.tmp 37), (.const (Value.int IntKind.i64 2))]),
  qo 39 (.bslice 46 1 [(Value.int IntKind.u8 0), (Value.string ⟨#[]⟩), (Value.int IntKind.u8 0), (Value.int IntKind.i64 0), (Value.int IntKind.u64 0), (Value.string ⟨#[]⟩), (Value.slice none 0 0), (Value.slice none 0 0), (Value.slice none 0 0), (Value.slice none 0 0), (Value.int IntKind.i64 0)] [(0, 11, (.tmp 38))]),
  qo 40 (.append 46 11 168 [(Value.int IntKind.u8 0), (Value.string ⟨#[]⟩), (Value.int IntKind.u8 0), (Value.int IntKind.i64 0), (Value.int IntKind.u64 0), (Value.string ⟨#[]⟩), (Value.slice none 0 0), (Value.slice none 0 0), (Value.slice none 0 0), (Value.slice none 0 0), (Value.int IntKind.i64 0)] (.tmp 35) (.tmp 39)),
  qf 41 9 5,qs 1 41 40] [[0,1,2,3,4,5,6,7,8], [0,2,3,4,1,5,6,7,8]] [0,1,4,5]))))))))
 (qS [qN 42 11 5,qs 11 4 42] [4]
 .ret))))⟩)
theorem low38 : lowF Tryz.prog (kpO F38) (assoc [(4,[[0,1,2,3,4,5,6,7,8,9]]), (6,[[0,1,2,3,4,5,6,7,8], [0,2,3,4,1,5,6,7,8]])]) 38 = some F38 := by kernel_rfl
def F39 : FIR := laid (X := ⟨13, [.tmp 2],
 (qS [qz 2 false] [0]
 (.seq (qS [qm 3 0,qn 4 3,qf 5 1 4,qf 6 0 5,ql 7 6] [7]
 (.block 0 (.seq (qS [qo 9 (.bin .eql (.tmp 7) (.const (Value.int IntKind.u8 4))),qm 8 9] [7,8]
 (qC 8 .skip
 (qS [qo 10 (.bin .eql (.tmp 7) (.const (Value.int IntKind.u8 5))),qm 8 10] [7,8]
 (qC 8 .skip
 (qS [qo 11 (.bin .eql (.tmp 7) (.const (Value.int IntKind.u8 6))),qm 8 11] [7,8]
 (qC 8 .skip
 (.reg [qo 12 (.bin .eql (.tmp 7) (.const (Value.int IntKind.u8 7))),qm 8 12] [8])))))))
 (qC 8 (qS [qz 2 true] [2]
 .ret)
 .skip))))
 (qS [qz 2 false] [2]
 .ret)))⟩)
theorem low39 : lowF Tryz.prog (kpO F39) (assoc []) 39 = some F39 := by kernel_rfl
def F40 : FIR := laid (X := ⟨9, [.tmp 2],
 (qS [qz 2 false] [0]
 (qS [qm 3 0,qo 4 (.call 29 [(.tmp 3), (.const (Value.string ⟨#[45]⟩))]),qm 5 4,qt 5 (qm 6 0),
  qt 5 (qo 7 (.call 48 [(.tmp 6), (.const (Value.int IntKind.u8 4))])),qa 8 5 7,qm 2 8] [2]
 .ret))⟩)
theorem low40 : lowF Tryz.prog (kpO F40) (assoc []) 40 = some F40 := by kernel_rfl
def F43 : FIR := laid (X := ⟨100, [.cellN 4 11],
 (qS [qo 4 (.alloc 46 [(Value.int IntKind.u8 0), (Value.string ⟨#[]⟩), (Value.int IntKind.u8 0), (Value.int IntKind.i64 0), (Value.int IntKind.u64 0), (Value.string ⟨#[]⟩), (Value.slice none 0 0), (Value.slice none 0 0), (Value.slice none 0 0), (Value.slice none 0 0), (Value.int IntKind.i64 0)])] [0,1,4]
 (qS [qm 8 0,qn 9 8,qf 10 1 9,qf 11 2 10,ql 12 11,
  qo 13 (.build [(Value.int IntKind.u8 0), (Value.string ⟨#[]⟩), (Value.int IntKind.u8 0), (Value.int IntKind.i64 0), (Value.int IntKind.u64 0), (Value.string ⟨#[]⟩), (Value.slice none 0 0), (Value.slice none 0 0), (Value.slice none 0 0), (Value.slice none 0 0), (Value.int IntKind.i64 0)] [(0, 1, (.const (Value.int IntKind.u8 1))), (10, 1, (.tmp 12))]),
  qo 5 (.alloc 46 [(Value.int IntKind.u8 0), (Value.string ⟨#[]⟩), (Value.int IntKind.u8 0), (Value.int IntKind.i64 0), (Value.int IntKind.u64 0), (Value.string ⟨#[]⟩), (Value.slice none 0 0), (Value.slice none 0 0), (Value.slice none 0 0), (Value.slice none 0 0), (Value.int IntKind.i64 0)]),
  qs 11 5 13] [0,1,4,5]
 (.seq (.block 0 (qS [qm 25 0,qx 26 32 [25],qo 27 (.un .not (.tmp 26)),qm 24 27] [0,1,4,5,24]
 (qC 24 (.reg [qm 28 0,qo 29 (.call 19 [(.tmp 28), (.const (Value.int IntKind.i64 160))])] [4,5])
 (qS [qm 31 0,qx 32 39 [31],qm 30 32] [0,1,4,5,30]
 (qC 30 (qS [qm 33 0,qn 34 33,qf 35 1 34,qf 36 3 35,qN 37 5 36,qf 38 2 5,qs 5 38 37] [0,4,5]
 (.reg [qm 39 0,qx 40 18 [39]] [4,5]))
 (qS [qm 42 0,qx 43 40 [42],qm 41 43] [0,1,4,5,41]
 (qC 41 (.reg [qm 44 0,qx 45 50 [44],qf 46 2 5,qs 5 46 45] [4,5])
 (qS [qm 48 0,qn 49 48,qf 50 1 49,qf 51 0 50,ql 52 51,qo 53 (.bin .eql (.tmp 52) (.const (Value.int IntKind.u8 1))),qm 47 53] [0,1,4,5,47]
 (qC 47 (.seq (qD [qm 54 0,qn 55 54,qf 56 1 55,qf 57 1 56,ql 58 57,qf 59 0 5,⟨none,none,.store 1 (.tmp 59) (.const (Value.int IntKind.u8 2))⟩,
  qf 60 1 5,qs 1 60 58] [[0,1,2,3,4,5,6,7,8], [0,1,2,3,5,6,4,7,8]] [0,4,5])
 (.reg [qm 61 0,qx 62 18 [61]] [4,5]))
 (qS [qm 64 0,qo 65 (.call 29 [(.tmp 64), (.const (Value.string ⟨#[35, 40]⟩))]),qm 63 65] [0,1,4,5,63]
 (qC 63 (.reg [qm 66 0,qm 67 1,qx 68 51 [66,67],qf 69 2 5,qs 5 69 68] [4,5])
 (qS [qm 71 0,qo 72 (.call 29 [(.tmp 71), (.const (Value.string ⟨#[35, 91]⟩))]),qm 70 72] [0,1,4,5,70]
 (qC 70 (.reg [qm 73 0,qx 74 52 [73],qf 75 2 5,qs 5 75 74] [4,5])
 (qS [qm 77 0,qo 78 (.call 29 [(.tmp 77), (.const (Value.string ⟨#[91]⟩))]),qm 76 78] [0,1,4,5,76]
 (qC 76 (qS [qm 79 0,qm 80 1,qx 81 53 [79,80],qs 11 4 81] [4]
 .ret)
 (qS [qm 83 0,qo 84 (.call 29 [(.tmp 83), (.const (Value.string ⟨#[123]⟩))]),qm 82 84] [0,1,4,5,82]
 (qC 82 (qS [qm 85 0,qm 86 1,qx 87 54 [85,86],qm 6 87] [0,4,5,6]
 (qS [qm 88 0,qx 89 18 [88]] [0,4,5,6]
 (qS [qm 90 0,qm 91 6,qm 92 0,qo 93 (.clos (.func 31) [(.tmp 92)] []),qx 94 55 [90,91,93],qf 95 0 5,
  ⟨none,none,.store 1 (.tmp 95) (.const (Value.int IntKind.u8 8))⟩,qf 96 9 5,qs 1 96 94] [0,4,5]
 (.reg [qm 97 0,qo 98 (.call 33 [(.tmp 97), (.const (Value.string ⟨#[125]⟩))])] [4,5]))))
 (qS [qm 14 0,qm 15 1,qx 16 54 [14,15],qm 7 16] [0,4,5,7]
 (qS [qm 17 0,qx 18 18 [17]] [0,4,5,7]
 (qS [qm 19 0,qm 20 7,qx 21 31 [19,20],qs 11 5 21] [0,4,5]
 (.reg [qm 22 0,qo 23 (.call 33 [(.tmp 22), (.const (Value.string ⟨#[41]⟩))])] [4,5])))))))))))))))))))))
 (qS [qN 99 11 5,qs 11 4 99] [4]
 .ret))))⟩)
theorem low43 : lowF Tryz.prog (assoc [(0, [0,1,4]), (1, [0,1,4,5]), (2, [0,4,5,7]), (3, [0,4,5,7]), (4, [0,4,5]), (5, [4,5]), (6, [0,1,4,5,24]), (7, [4,5]), (8, [0,1,4,5,30]), (9, [0,4,5]), (10, [4,5]), (11, [0,1,4,5,41]), (12, [4,5]), (13, [0,1,4,5,47]), (14, [0,4,5]), (15, [4,5]), (16, [0,1,4,5,63]), (17, [4,5]), (18, [0,1,4,5,70]), (19, [4,5]), (20, [0,1,4,5,76]), (21, [4]), (22, [0,1,4,5,82]), (23, [0,4,5,6]), (24, [0,4,5,6]), (25, [0,4,5]), (26, [4,5]), (27, [4])]) (assoc [(14,[[0,1,2,3,4,5,6,7,8], [0,1,2,3,5,6,4,7,8]])]) 43 = some F43 := by kernel_rfl
def F44 : FIR := laid (X := ⟨15, [.cellN 4 11],
 (qS [qB 2 46 0,qB 3 46 1,
  qo 4 (.alloc 46 [(Value.int IntKind.u8 0), (Value.string ⟨#[]⟩), (Value.int IntKind.u8 0), (Value.int IntKind.i64 0), (Value.int IntKind.u64 0), (Value.string ⟨#[]⟩), (Value.slice none 0 0), (Value.slice none 0 0), (Value.slice none 0 0), (Value.slice none 0 0), (Value.int IntKind.i64 0)])] [2,3,4]
 (.seq (qD [qf 5 1 3,ql 6 5,qN 7 11 2,
  qo 8 (.bslice 46 1 [(Value.int IntKind.u8 0), (Value.string ⟨#[]⟩), (Value.int IntKind.u8 0), (Value.int IntKind.i64 0), (Value.int IntKind.u64 0), (Value.string ⟨#[]⟩), (Value.slice none 0 0), (Value.slice none 0 0), (Value.slice none 0 0), (Value.slice none 0 0), (Value.int IntKind.i64 0)] [(0, 11, (.tmp 7))]),
  qf 9 9 3,ql 10 9,
  qo 11 (.append 46 11 168 [(Value.int IntKind.u8 0), (Value.string ⟨#[]⟩), (Value.int IntKind.u8 0), (Value.int IntKind.i64 0), (Value.int IntKind.u64 0), (Value.string ⟨#[]⟩), (Value.slice none 0 0), (Value.slice none 0 0), (Value.slice none 0 0), (Value.slice none 0 0), (Value.int IntKind.i64 0)] (.tmp 8) (.tmp 10)),
  qf 12 10 3,ql 13 12,
  qo 14 (.build [(Value.int IntKind.u8 0), (Value.string ⟨#[]⟩), (Value.int IntKind.u8 0), (Value.int IntKind.i64 0), (Value.int IntKind.u64 0), (Value.string ⟨#[]⟩), (Value.slice none 0 0), (Value.slice none 0 0), (Value.slice none 0 0), (Value.slice none 0 0), (Value.int IntKind.i64 0)] [(0, 1, (.const (Value.int IntKind.u8 4))), (1, 1, (.tmp 6)), (9, 1, (.tmp 11)), (10, 1, (.tmp 13))]),
  qs 11 4 14] [[0,1,2,3,4,5,6,7,8,9,10], [0,2,3,1,4,5,6,7,8,9,10], [0,2,3,4,5,1,6,7,8,9,10], [0,2,3,4,5,6,1,7,8,9,10], [0,2,3,4,5,6,7,8,1,9,10], [0,1,2,4,5,3,6,7,8,9,10], [0,2,4,5,1,3,6,7,8,9,10], [0,2,4,5,3,1,6,7,8,9,10], [0,2,4,5,3,6,1,7,8,9,10], [0,2,4,5,3,6,7,8,1,9,10], [0,1,2,3,4,5,7,8,6,9,10], [0,2,3,1,4,5,7,8,6,9,10], [0,2,3,4,5,1,7,8,6,9,10], [0,2,3,4,5,7,8,1,6,9,10], [0,2,3,4,5,7,8,6,1,9,10], [0,1,2,4,5,3,7,8,6,9,10], [0,2,4,5,1,3,7,8,6,9,10], [0,2,4,5,3,1,7,8,6,9,10], [0,2,4,5,3,7,8,1,6,9,10], [0,2,4,5,3,7,8,6,1,9,10], [0,1,2,4,5,7,8,3,6,9,10], [0,2,4,5,1,7,8,3,6,9,10], [0,2,4,5,7,8,1,3,6,9,10], [0,2,4,5,7,8,3,1,6,9,10], [0,2,4,5,7,8,3,6,1,9,10], [0,1,2,3,4,7,8,5,6,9,10], [0,2,3,1,4,7,8,5,6,9,10], [0,2,3,4,7,8,1,5,6,9,10], [0,2,3,4,7,8,5,1,6,9,10], [0,2,3,4,7,8,5,6,1,9,10], [0,1,2,4,7,8,3,5,6,9,10], [0,2,4,7,8,1,3,5,6,9,10], [0,2,4,7,8,3,1,5,6,9,10], [0,2,4,7,8,3,5,1,6,9,10], [0,2,4,7,8,3,5,6,1,9,10], [0,1,2,4,7,8,5,3,6,9,10], [0,2,4,7,8,1,5,3,6,9,10], [0,2,4,7,8,5,1,3,6,9,10], [0,2,4,7,8,5,3,1,6,9,10], [0,2,4,7,8,5,3,6,1,9,10]] [4])
 .ret))⟩)
theorem low44 : lowF Tryz.prog (kpO F44) (assoc [(1,[[0,1,2,3,4,5,6,7,8,9,10], [0,2,3,1,4,5,6,7,8,9,10], [0,2,3,4,5,1,6,7,8,9,10], [0,2,3,4,5,6,1,7,8,9,10], [0,2,3,4,5,6,7,8,1,9,10], [0,1,2,4,5,3,6,7,8,9,10], [0,2,4,5,1,3,6,7,8,9,10], [0,2,4,5,3,1,6,7,8,9,10], [0,2,4,5,3,6,1,7,8,9,10], [0,2,4,5,3,6,7,8,1,9,10], [0,1,2,3,4,5,7,8,6,9,10], [0,2,3,1,4,5,7,8,6,9,10], [0,2,3,4,5,1,7,8,6,9,10], [0,2,3,4,5,7,8,1,6,9,10], [0,2,3,4,5,7,8,6,1,9,10], [0,1,2,4,5,3,7,8,6,9,10], [0,2,4,5,1,3,7,8,6,9,10], [0,2,4,5,3,1,7,8,6,9,10], [0,2,4,5,3,7,8,1,6,9,10], [0,2,4,5,3,7,8,6,1,9,10], [0,1,2,4,5,7,8,3,6,9,10], [0,2,4,5,1,7,8,3,6,9,10], [0,2,4,5,7,8,1,3,6,9,10], [0,2,4,5,7,8,3,1,6,9,10], [0,2,4,5,7,8,3,6,1,9,10], [0,1,2,3,4,7,8,5,6,9,10], [0,2,3,1,4,7,8,5,6,9,10], [0,2,3,4,7,8,1,5,6,9,10], [0,2,3,4,7,8,5,1,6,9,10], [0,2,3,4,7,8,5,6,1,9,10], [0,1,2,4,7,8,3,5,6,9,10], [0,2,4,7,8,1,3,5,6,9,10], [0,2,4,7,8,3,1,5,6,9,10], [0,2,4,7,8,3,5,1,6,9,10], [0,2,4,7,8,3,5,6,1,9,10], [0,1,2,4,7,8,5,3,6,9,10], [0,2,4,7,8,1,5,3,6,9,10], [0,2,4,7,8,5,1,3,6,9,10], [0,2,4,7,8,5,3,1,6,9,10], [0,2,4,7,8,5,3,6,1,9,10]])]) 44 = some F44 := by kernel_rfl
def F45 : FIR := laid (X := ⟨19, [.cellN 6 11],
 (qS [qB 4 46 1,
  qo 6 (.alloc 46 [(Value.int IntKind.u8 0), (Value.string ⟨#[]⟩), (Value.int IntKind.u8 0), (Value.int IntKind.i64 0), (Value.int IntKind.u64 0), (Value.string ⟨#[]⟩), (Value.slice none 0 0), (Value.slice none 0 0), (Value.slice none 0 0), (Value.slice none 0 0), (Value.int IntKind.i64 0)])] [0,2,4,6]
 (.seq (.block 0 (.loop (.seq (qS [qm 7 0,qn 8 7,qf 9 1 8,qf 10 0 9,ql 11 10,qo 12 (.bin .eql (.tmp 11) (.const (Value.int IntKind.u8 3)))] [0,2,4,6,12]
 (qC 12 .skip
 (.exit 0)))
 (.block 1 (qD [qN 13 11 4,qm 14 0,qm 15 2,qx 16 37 [14,15],qx 17 44 [13,16],qs 11 4 17] [[0,1,2,3,4,5], [1,2,3,0,4,5]] [0,2,4,6])))))
 (qS [qN 18 11 4,qs 11 6 18] [6]
 .ret)))⟩)
theorem low45 : lowF Tryz.prog (kpO F45) (assoc [(2,[[0,1,2,3,4,5], [1,2,3,0,4,5]])]) 45 = some F45 := by kernel_rfl
def F46 : FIR := laid (X := ⟨11, [.tmp 2],
 (qS [qB 1 46 0,qz 2 false] [1]
 (qS [qf 3 0 1,ql 4 3,qo 5 (.bin .eql (.tmp 4) (.const (Value.int IntKind.u8 2))),qm 6 5,qt 6 (qf 7 1 1),qt 6 (ql 8 7),
  qt 6 (qo 9 (.bin .eql (.tmp 8) (.const (Value.string ⟨#[115, 117, 112, 101, 114]⟩)))),qa 10 6 9,qm 2 10] [2]
 .ret))⟩)
theorem low46 : lowF Tryz.prog (kpO F46) (assoc []) 46 = some F46 := by kernel_rfl
def F47 : FIR := laid (X := ⟨17, [.cellN 6 11],
 (qS [qo 6 (.alloc 46 [(Value.int IntKind.u8 0), (Value.string ⟨#[]⟩), (Value.int IntKind.u8 0), (Value.int IntKind.i64 0), (Value.int IntKind.u64 0), (Value.string ⟨#[]⟩), (Value.slice none 0 0), (Value.slice none 0 0), (Value.slice none 0 0), (Value.slice none 0 0), (Value.int IntKind.i64 0)])] [0,1,2,6]
 (qS [qm 10 0,qm 11 1,qm 12 2,qx 13 35 [10,11,12],qm 9 13,qe 14 9 0,qe 15 9 1,
  qo 7 (.alloc 46 [(Value.int IntKind.u8 0), (Value.string ⟨#[]⟩), (Value.int IntKind.u8 0), (Value.int IntKind.i64 0), (Value.int IntKind.u64 0), (Value.string ⟨#[]⟩), (Value.slice none 0 0), (Value.slice none 0 0), (Value.slice none 0 0), (Value.slice none 0 0), (Value.int IntKind.i64 0)]),
  qs 11 7 14,qm 8 15] [6,7]
 (qS [qN 16 11 7,qs 11 6 16] [6]
 .ret)))⟩)
theorem low47 : lowF Tryz.prog (kpO F47) (assoc []) 47 = some F47 := by kernel_rfl
def F48 : FIR := laid (X := ⟨26, [.tmp 4],
 (qS [qz 4 false] [0,1]
 (qS [qm 6 0,qx 7 28 [6],
  qo 5 (.alloc 72 [(Value.int IntKind.u8 0), (Value.string ⟨#[]⟩), (Value.int IntKind.i64 0), (Value.int IntKind.u8 0), (Value.int IntKind.i64 0), (Value.int IntKind.u64 0), (Value.string ⟨#[]⟩), (Value.slice none 0 0)]),
  qs 8 5 7] [0,1,5]
 (.seq (qD [qf 8 0 5,ql 9 8,qm 10 1,qb 11 .eql 9 10,qm 12 11,qt 12 (qf 13 2 5),qt 12 (ql 14 13),qt 12 (qm 15 0),qt 12 (qn 16 15),
  qt 12 (qf 17 9 16),qt 12 (ql 18 17),qt 12 (qb 19 .eql 14 18),qa 20 12 19,qm 21 20,qt 21 (qf 22 1 5),qt 21 (ql 23 22),
  qt 21 (qo 24 (.bin .neq (.tmp 23) (.const (Value.string ⟨#[]⟩)))),qa 25 21 24,qm 4 25] [[0,1,2,3,4,5,6,7,8,9,10,11,12,13,14,15,16,17,18]] [4])
 .ret)))⟩)
theorem low48 : lowF Tryz.prog (kpO F48) (assoc [(2,[[0,1,2,3,4,5,6,7,8,9,10,11,12,13,14,15,16,17,18]])]) 48 = some F48 := by kernel_rfl
def F50 : FIR := laid (X := ⟨19, [.cellN 2 5],
 (qS [qo 2 (.alloc 44 [(Value.int IntKind.u8 0), (Value.int IntKind.i64 0), (Value.int IntKind.u64 0), (Value.string ⟨#[]⟩), (Value.slice none 0 0)])] [0,2]
 (qS [qm 5 0,qx 6 18 [5]] [0,2]
 (qS [qm 8 0,qn 9 8,qf 10 1 9,qf 11 3 10,qN 12 5 11,qx 13 58 [12],qm 7 13,qe 14 7 0,qe 15 7 1,
  qo 3 (.alloc 44 [(Value.int IntKind.u8 0), (Value.int IntKind.i64 0), (Value.int IntKind.u64 0), (Value.string ⟨#[]⟩), (Value.slice none 0 0)]),
  qs 5 3 14,qm 4 15] [0,2,3]
 (qS [qm 16 0,qx 17 18 [16]] [2,3]
 (qS [qN 18 5 3,qs 5 2 18] [2]
 .ret)))))⟩)
theorem low50 : lowF Tryz.prog (kpO F50) (assoc []) 50 = some F50 := by kernel_rfl
def F51 : FIR := laid (X := ⟨40, [.cellN 4 5],
 (qS [qo 4 (.alloc 44 [(Value.int IntKind.u8 0), (Value.int IntKind.i64 0), (Value.int IntKind.u64 0), (Value.string ⟨#[]⟩), (Value.slice none 0 0)])] [0,1,4]
 (qS [qm 9 0,qm 10 1,qx 11 54 [9,10],qm 5 11] [0,4,5]
 (qS [qm 12 0,qx 13 18 [12]] [0,4,5]
 (qS [qo 14 (.build [(Value.int IntKind.u8 0), (Value.int IntKind.i64 0), (Value.int IntKind.u64 0), (Value.string ⟨#[]⟩), (Value.slice none 0 0)] [(0, 1, (.const (Value.int IntKind.u8 10)))]),
  qo 6 (.alloc 44 [(Value.int IntKind.u8 0), (Value.int IntKind.i64 0), (Value.int IntKind.u64 0), (Value.string ⟨#[]⟩), (Value.slice none 0 0)]),
  qs 5 6 14] [0,4,5,6]
 (.seq (.block 0 (.loop (.seq (qS [qm 15 0,qo 16 (.call 29 [(.tmp 15), (.const (Value.string ⟨#[41]⟩))]),qo 17 (.un .not (.tmp 16))] [0,4,5,6,17]
 (qC 17 .skip
 (.exit 0)))
 (.block 1 (qS [qm 19 0,qm 20 5,qf 21 4 6,ql 22 21,qL 23 22,qx 24 59 [19,20,23],qm 18 24,qe 25 18 0,qe 26 18 1,
  qo 7 (.alloc 44 [(Value.int IntKind.u8 0), (Value.int IntKind.i64 0), (Value.int IntKind.u64 0), (Value.string ⟨#[]⟩), (Value.slice none 0 0)]),
  qs 5 7 25,qm 8 26] [0,4,5,6,7,8]
 (.seq (qS [qm 27 8,qo 28 (.un .not (.tmp 27))] [0,4,5,6,7,28]
 (qC 28 (.reg [qm 29 0,qo 30 (.call 19 [(.tmp 29), (.const (Value.int IntKind.i64 160))])] [0,4,5,6,7])
 .skip))
 (.reg [qf 31 4 6,ql 32 31,qN 33 5 7,
  qo 34 (.bslice 44 1 [(Value.int IntKind.u8 0), (Value.int IntKind.i64 0), (Value.int IntKind.u64 0), (Value.string ⟨#[]⟩), (Value.slice none 0 0)] [(0, 5, (.tmp 33))]),
  qo 35 (.append 44 5 64 [(Value.int IntKind.u8 0), (Value.int IntKind.i64 0), (Value.int IntKind.u64 0), (Value.string ⟨#[]⟩), (Value.slice none 0 0)] (.tmp 32) (.tmp 34)),
  qf 36 4 6,qs 1 36 35] [0,4,5,6])))))))
 (qS [qm 37 0,qx 38 18 [37]] [4,6]
 (qS [qN 39 5 6,qs 5 4 39] [4]
 .ret)))))))⟩)
theorem low51 : lowF Tryz.prog (kpO F51) (assoc []) 51 = some F51 := by kernel_rfl
def F52 : FIR := laid (X := ⟨50, [.cellN 2 5],
 (qS [qo 2 (.alloc 44 [(Value.int IntKind.u8 0), (Value.int IntKind.i64 0), (Value.int IntKind.u64 0), (Value.string ⟨#[]⟩), (Value.slice none 0 0)])] [0,2]
 (qS [qm 5 0,qx 6 18 [5]] [0,2]
 (qS [qo 3 (.mv (.const (Value.slice none 0 0)))] [0,2,3]
 (.seq (.block 0 (.loop (.seq (qS [qm 7 0,qo 8 (.call 29 [(.tmp 7), (.const (Value.string ⟨#[93]⟩))]),qo 9 (.un .not (.tmp 8))] [0,2,3,9]
 (qC 9 .skip
 (.exit 0)))
 (.block 1 (qS [qm 10 0,qn 11 10,qf 12 1 11,qf 13 3 12,qN 14 5 13,
  qo 4 (.alloc 44 [(Value.int IntKind.u8 0), (Value.int IntKind.i64 0), (Value.int IntKind.u64 0), (Value.string ⟨#[]⟩), (Value.slice none 0 0)]),
  qs 5 4 14] [0,2,3,4]
 (.seq (qS [qm 15 0,qn 16 15,qf 17 1 16,qf 18 0 17,ql 19 18,qo 20 (.bin .neq (.tmp 19) (.const (Value.int IntKind.u8 4))),qm 21 20,
  qu 21 (qf 22 0 4),qu 21 (ql 23 22),qu 21 (qo 24 (.bin .neq (.tmp 23) (.const (Value.int IntKind.u8 4)))),qr 25 21 24,qm 26 25,qu 26 (qf 27 1 4),
  qu 26 (ql 28 27),qu 26 (qc 29 .gtr 28 255),qr 30 26 29] [0,2,3,4,30]
 (qC 30 (.reg [qm 31 0,qo 32 (.call 19 [(.tmp 31), (.const (Value.int IntKind.i64 160))])] [0,2,3,4])
 .skip))
 (qS [qm 33 0,qm 34 3,qL 35 34,qo 36 (.call 23 [(.tmp 33), (.tmp 35), (.const (Value.int IntKind.i64 255))])] [0,2,3,4]
 (qS [qm 37 3,qf 38 1 4,ql 39 38,qo 40 (.conv .u8 (.tmp 39)),qo 41 (.bslice 5 1 [(Value.int IntKind.u8 0)] [(0, 1, (.tmp 40))]),
  qo 42 (.append 5 1 1 [(Value.int IntKind.u8 0)] (.tmp 37) (.tmp 41)),qm 3 42] [0,2,3]
 (.reg [qm 43 0,qx 44 18 [43]] [0,2,3])))))))))
 (qS [qm 45 0,qx 46 18 [45]] [2,3]
 (qS [qm 47 3,qo 48 (.b2s (.tmp 47)),
  qo 49 (.build [(Value.int IntKind.u8 0), (Value.int IntKind.i64 0), (Value.int IntKind.u64 0), (Value.string ⟨#[]⟩), (Value.slice none 0 0)] [(0, 1, (.const (Value.int IntKind.u8 11))), (3, 1, (.tmp 48))]),
  qs 5 2 49] [2]
 .ret))))))⟩)
theorem low52 : lowF Tryz.prog (kpO F52) (assoc []) 52 = some F52 := by kernel_rfl
def F53 : FIR := laid (X := ⟨55, [.cellN 4 11],
 (qS [qo 4 (.alloc 46 [(Value.int IntKind.u8 0), (Value.string ⟨#[]⟩), (Value.int IntKind.u8 0), (Value.int IntKind.i64 0), (Value.int IntKind.u64 0), (Value.string ⟨#[]⟩), (Value.slice none 0 0), (Value.slice none 0 0), (Value.slice none 0 0), (Value.slice none 0 0), (Value.int IntKind.i64 0)])] [0,1,4]
 (qS [qm 7 0,qn 8 7,qf 9 1 8,qf 10 2 9,ql 11 10,
  qo 12 (.build [(Value.int IntKind.u8 0), (Value.string ⟨#[]⟩), (Value.int IntKind.u8 0), (Value.int IntKind.i64 0), (Value.int IntKind.u64 0), (Value.string ⟨#[]⟩), (Value.slice none 0 0), (Value.slice none 0 0), (Value.slice none 0 0), (Value.slice none 0 0), (Value.int IntKind.i64 0)] [(0, 1, (.const (Value.int IntKind.u8 7))), (10, 1, (.tmp 11))]),
  qo 5 (.alloc 46 [(Value.int IntKind.u8 0), (Value.string ⟨#[]⟩), (Value.int IntKind.u8 0), (Value.int IntKind.i64 0), (Value.int IntKind.u64 0), (Value.string ⟨#[]⟩), (Value.slice none 0 0), (Value.slice none 0 0), (Value.slice none 0 0), (Value.slice none 0 0), (Value.int IntKind.i64 0)]),
  qs 11 5 12] [0,1,4,5]
 (qS [qm 13 0,qm 14 1,qx 15 54 [13,14],qm 6 15] [0,4,5,6]
 (qS [qm 16 0,qx 17 18 [16]] [0,4,5,6]
 (.seq (.block 0 (.loop (.seq (qS [qm 18 0,qo 19 (.call 29 [(.tmp 18), (.const (Value.string ⟨#[58]⟩))])] [0,4,5,6,19]
 (qC 19 .skip
 (.exit 0)))
 (.block 1 (qS [qm 20 0,qf 21 7 5,ql 22 21,qL 23 22,qo 24 (.call 23 [(.tmp 20), (.tmp 23), (.const (Value.int IntKind.i64 15))])] [0,4,5,6]
 (qS [qm 25 0,qx 26 18 [25]] [0,4,5,6]
 (qD [qf 27 7 5,ql 28 27,qm 29 0,qx 30 22 [29],qo 31 (.bslice 9 1 [(Value.string ⟨#[]⟩)] [(0, 1, (.tmp 30))]),
  qo 32 (.append 9 1 16 [(Value.string ⟨#[]⟩)] (.tmp 28) (.tmp 31)),qf 33 7 5,qs 1 33 32] [[0,1,2,3,4,5,6,7], [0,2,3,1,4,5,6,7]] [0,4,5,6])))))))
 (.seq (qS [qf 34 7 5,ql 35 34,qL 36 35,qc 37 .gtr 36 0,qm 38 37,qt 38 (qm 39 0),
  qt 38 (qo 40 (.call 29 [(.tmp 39), (.const (Value.string ⟨#[93]⟩))])),qt 38 (qo 41 (.un .not (.tmp 40))),qa 42 38 41] [0,4,5,6,42]
 (qC 42 (.reg [qm 43 0,qo 44 (.call 33 [(.tmp 43), (.const (Value.string ⟨#[124]⟩))])] [0,4,5,6])
 .skip))
 (qS [qm 45 0,qx 46 20 [45],qf 47 8 5,qs 1 47 46] [0,4,5,6]
 (qS [qm 48 0,qm 49 6,qx 50 21 [48,49],qf 51 9 5,qs 1 51 50] [0,4,5]
 (qS [qm 52 0,qo 53 (.call 33 [(.tmp 52), (.const (Value.string ⟨#[93]⟩))])] [4,5]
 (qS [qN 54 11 5,qs 11 4 54] [4]
 .ret))))))))))⟩)
theorem low53 : lowF Tryz.prog (kpO F53) (assoc [(7,[[0,1,2,3,4,5,6,7], [0,2,3,1,4,5,6,7]])]) 53 = some F53 := by kernel_rfl
def F54 : FIR := laid (X := ⟨11, [.tmp 4],
 (qS [qk 4 0] [0,1]
 (.seq (qS [qm 5 1,qc 6 .eql 5 40] [0,1,6]
 (qC 6 (.reg [qm 7 0,qo 8 (.call 19 [(.tmp 7), (.const (Value.int IntKind.i64 162))])] [1])
 .skip))
 (qS [qm 9 1,qc 10 .add 9 1,qm 4 10] [4]
 .ret)))⟩)
theorem low54 : lowF Tryz.prog (kpO F54) (assoc []) 54 = some F54 := by kernel_rfl
def F55 : FIR := laid (X := ⟨26, [.tmp 6],
 (qS [qo 6 (.mv (.const (Value.slice none 0 0)))] [0,1,2]
 (qS [qo 7 (.mv (.const (Value.slice none 0 0)))] [0,1,2,7]
 (.seq (.block 0 (.loop (.seq (qS [qm 8 0,qx 9 32 [8]] [0,1,2,7,9]
 (qC 9 .skip
 (.exit 0)))
 (.block 1 (qS [qm 10 0,qm 11 7,qL 12 11,qo 13 (.call 23 [(.tmp 10), (.tmp 12), (.const (Value.int IntKind.i64 255))])] [0,1,2,7]
 (qS [qm 14 7,qm 15 2,qm 16 1,qo 17 (.callv (.tmp 15) [(.tmp 16)]),
  qo 18 (.bslice 46 1 [(Value.int IntKind.u8 0), (Value.string ⟨#[]⟩), (Value.int IntKind.u8 0), (Value.int IntKind.i64 0), (Value.int IntKind.u64 0), (Value.string ⟨#[]⟩), (Value.slice none 0 0), (Value.slice none 0 0), (Value.slice none 0 0), (Value.slice none 0 0), (Value.int IntKind.i64 0)] [(0, 11, (.tmp 17))]),
  qo 19 (.append 46 11 168 [(Value.int IntKind.u8 0), (Value.string ⟨#[]⟩), (Value.int IntKind.u8 0), (Value.int IntKind.i64 0), (Value.int IntKind.u64 0), (Value.string ⟨#[]⟩), (Value.slice none 0 0), (Value.slice none 0 0), (Value.slice none 0 0), (Value.slice none 0 0), (Value.int IntKind.i64 0)] (.tmp 14) (.tmp 18)),
  qm 7 19] [0,1,2,7]
 (.seq (qS [qm 20 0,qo 21 (.call 29 [(.tmp 20), (.const (Value.string ⟨#[46]⟩))]),qo 22 (.un .not (.tmp 21))] [0,1,2,7,22]
 (qC 22 (.exit 0)
 .skip))
 (.reg [qm 23 0,qx 24 18 [23]] [0,1,2,7]))))))))
 (qS [qm 25 7,qm 6 25] [6]
 .ret))))⟩)
theorem low55 : lowF Tryz.prog (kpO F55) (assoc []) 55 = some F55 := by kernel_rfl
def F59 : FIR := laid (X := ⟨87, [.cellN 6 5, .tmp 7],
 (qS [qo 6 (.alloc 44 [(Value.int IntKind.u8 0), (Value.int IntKind.i64 0), (Value.int IntKind.u64 0), (Value.string ⟨#[]⟩), (Value.slice none 0 0)]),
  qz 7 false] [0,1,2,6]
 (qS [qm 11 0,qn 12 11,qf 13 1 12,qN 14 8 13,
  qo 8 (.alloc 72 [(Value.int IntKind.u8 0), (Value.string ⟨#[]⟩), (Value.int IntKind.i64 0), (Value.int IntKind.u8 0), (Value.int IntKind.i64 0), (Value.int IntKind.u64 0), (Value.string ⟨#[]⟩), (Value.slice none 0 0)]),
  qs 8 8 14] [0,1,2,6,8]
 (.seq (qS [qf 15 0 8,ql 16 15] [0,1,2,6,8,16]
 (.block 0 (qS [qo 18 (.bin .eql (.tmp 16) (.const (Value.int IntKind.u8 0))),qm 17 18] [0,1,2,6,8,16,17]
 (qC 17 (qS [qo 19 (.build [(Value.int IntKind.u8 0), (Value.int IntKind.i64 0), (Value.int IntKind.u64 0), (Value.string ⟨#[]⟩), (Value.slice none 0 0)] []),
  qs 5 6 19,qz 7 false] [6,7]
 .ret)
 (qS [qo 21 (.bin .eql (.tmp 16) (.const (Value.int IntKind.u8 8))),qm 20 21] [0,1,2,6,8,20]
 (qC 20 (.seq (qS [qf 22 1 8,ql 23 22] [0,1,2,6,23]
 (.block 1 (.seq (qS [qo 25 (.bin .eql (.tmp 23) (.const (Value.string ⟨#[40]⟩))),qm 24 25] [0,1,2,6,23,24]
 (qC 24 .skip
 (.reg [qo 26 (.bin .eql (.tmp 23) (.const (Value.string ⟨#[35, 40]⟩))),qm 24 26] [0,1,2,6,23,24])))
 (qC 24 (qS [qm 27 0,qm 28 2,qo 29 (.call 23 [(.tmp 27), (.tmp 28), (.const (Value.int IntKind.i64 255))])] [0,1,6]
 (qS [qm 30 0,qm 31 1,qx 32 51 [30,31],qs 5 6 32,qz 7 true] [6,7]
 .ret))
 (qS [qo 34 (.bin .eql (.tmp 23) (.const (Value.string ⟨#[35, 91]⟩))),qm 33 34] [0,2,6,33]
 (qC 33 (qS [qm 35 0,qm 36 2,qo 37 (.call 23 [(.tmp 35), (.tmp 36), (.const (Value.int IntKind.i64 255))])] [0,6]
 (qS [qm 38 0,qx 39 52 [38],qs 5 6 39,qz 7 true] [6,7]
 .ret))
 .skip))))))
 (qS [qo 40 (.build [(Value.int IntKind.u8 0), (Value.int IntKind.i64 0), (Value.int IntKind.u64 0), (Value.string ⟨#[]⟩), (Value.slice none 0 0)] []),
  qs 5 6 40,qz 7 false] [6,7]
 .ret))
 .skip))))))
 (qS [qm 41 0,qm 42 2,qo 43 (.call 23 [(.tmp 41), (.tmp 42), (.const (Value.int IntKind.i64 255))])] [0,6,8]
 (.seq (.block 2 (qS [qm 45 0,qx 46 39 [45],qm 44 46] [0,6,8,44]
 (qC 44 (qS [qm 47 0,qx 48 18 [47]] [6,8]
 (qS [qf 49 3 8,qN 50 5 49,qs 5 6 50,qz 7 true] [6,7]
 .ret))
 (qS [qm 52 0,qx 53 40 [52],qm 51 53] [0,6,8,51]
 (qC 51 (qS [qm 54 0,qx 55 50 [54],qs 5 6 55,qz 7 true] [6,7]
 .ret)
 (qS [qf 57 0 8,ql 58 57,qo 59 (.bin .eql (.tmp 58) (.const (Value.int IntKind.u8 1))),qm 56 59] [0,6,8,56]
 (qC 56 (qS [qm 60 0,qx 61 18 [60]] [6,8]
 (qS [qf 62 1 8,ql 63 62,qx 64 74 [63],qs 5 6 64,qz 7 true] [6,7]
 .ret))
 .skip)))))))
 (qS [qo 65 (.build [(Value.int IntKind.u8 0), (Value.int IntKind.i64 0), (Value.int IntKind.u64 0), (Value.string ⟨#[]⟩), (Value.slice none 0 0)] [(0, 1, (.const (Value.int IntKind.u8 9)))]),
  qo 9 (.alloc 44 [(Value.int IntKind.u8 0), (Value.int IntKind.i64 0), (Value.int IntKind.u64 0), (Value.string ⟨#[]⟩), (Value.slice none 0 0)]),
  qs 5 9 65] [0,6,8,9]
 (.block 3 (.loop (.block 4 (.seq (qD [qf 66 3 9,ql 67 66,qm 68 0,qn 69 68,qf 70 1 69,qf 71 1 70,ql 72 71,qb 73 .add 67 72,qf 74 3 9,qs 1 74 73] [[0,1,2,3,4,5,6,7,8,9]] [0,6,8,9])
 (qS [qf 75 0 8,ql 76 75,qo 77 (.bin .eql (.tmp 76) (.const (Value.int IntKind.u8 2))),qm 78 77,qt 78 (qm 79 0),
  qt 78 (qo 80 (.call 48 [(.tmp 79), (.const (Value.int IntKind.u8 2))])),qa 81 78 80,qm 10 81] [0,6,8,9,10]
 (qS [qm 82 0,qx 83 18 [82]] [0,6,8,9,10]
 (qS [qm 84 10,qo 85 (.un .not (.tmp 84))] [0,6,8,9,85]
 (qC 85 (qS [qN 86 5 9,qs 5 6 86,qz 7 true] [6,7]
 .ret)
 .skip))))))))))))))⟩)
theorem low59 : lowF Tryz.prog (kpO F59) (assoc [(25,[[0,1,2,3,4,5,6,7,8,9]])]) 59 = some F59 := by kernel_rfl
def F74 : FIR := laid (X := ⟨15, [.cellN 2 5],
 (qS [qo 2 (.alloc 44 [(Value.int IntKind.u8 0), (Value.int IntKind.i64 0), (Value.int IntKind.u64 0), (Value.string ⟨#[]⟩), (Value.slice none 0 0)])] [0,2]
 (.seq (qS [qm 3 0] [0,2,3]
 (.block 0 (qS [qo 5 (.bin .eql (.tmp 3) (.const (Value.string ⟨#[110, 105, 108]⟩))),qm 4 5] [0,2,3,4]
 (qC 4 (qS [qo 6 (.build [(Value.int IntKind.u8 0), (Value.int IntKind.i64 0), (Value.int IntKind.u64 0), (Value.string ⟨#[]⟩), (Value.slice none 0 0)] [(0, 1, (.const (Value.int IntKind.u8 1)))]),
  qs 5 2 6] [2]
 .ret)
 (qS [qo 8 (.bin .eql (.tmp 3) (.const (Value.string ⟨#[116, 114, 117, 101]⟩))),qm 7 8] [0,2,3,7]
 (qC 7 (qS [qo 9 (.build [(Value.int IntKind.u8 0), (Value.int IntKind.i64 0), (Value.int IntKind.u64 0), (Value.string ⟨#[]⟩), (Value.slice none 0 0)] [(0, 1, (.const (Value.int IntKind.u8 2)))]),
  qs 5 2 9] [2]
 .ret)
 (qS [qo 11 (.bin .eql (.tmp 3) (.const (Value.string ⟨#[102, 97, 108, 115, 101]⟩))),qm 10 11] [0,2,10]
 (qC 10 (qS [qo 12 (.build [(Value.int IntKind.u8 0), (Value.int IntKind.i64 0), (Value.int IntKind.u64 0), (Value.string ⟨#[]⟩), (Value.slice none 0 0)] [(0, 1, (.const (Value.int IntKind.u8 3)))]),
  qs 5 2 12] [2]
 .ret)
 .skip))))))))
 (qS [qm 13 0,
  qo 14 (.build [(Value.int IntKind.u8 0), (Value.int IntKind.i64 0), (Value.int IntKind.u64 0), (Value.string ⟨#[]⟩), (Value.slice none 0 0)] [(0, 1, (.const (Value.int IntKind.u8 9))), (3, 1, (.tmp 13))]),
  qs 5 2 14] [2]
 .ret)))⟩)
theorem low74 : lowF Tryz.prog (kpO F74) (assoc []) 74 = some F74 := by kernel_rfl
def F4 : FIR := laid (X := ⟨132, [.tmp 0],
 (qS [qz 0 false] []
 (qS [qo 16 (.call 7 [(.const (Value.string ⟨#[97, 32, 102, 111, 111, 58, 32, 49, 32, 43, 32, 50, 59, 32, 98, 97, 114]⟩))]),qm 15 16,
  qe 17 15 0,qe 18 15 1,
  qo 1 (.alloc 36 [(Value.string ⟨#[]⟩), (Value.slice none 0 0), (Value.slice none 0 0), (Value.int IntKind.i64 0), (Value.slice none 0 0)]),qs 5 1 17,
  qm 2 18] [1,2]
 (qS [qm 20 2,qx 21 5 [20],qm 19 21,qe 22 19 0,qe 23 19 1,qm 3 22,qm 4 23] [1,2,3,4]
 (qS [qo 25 (.call 7 [(.const (Value.string ⟨#[94, 49, 46, 32, 50]⟩))]),qm 24 25,qe 26 24 0,qe 27 24 1,
  qo 5 (.alloc 36 [(Value.string ⟨#[]⟩), (Value.slice none 0 0), (Value.slice none 0 0), (Value.int IntKind.i64 0), (Value.slice none 0 0)]),qs 5 5 26,
  qm 6 27] [1,2,3,4,6]
 (qS [qm 29 6,qx 30 5 [29],qm 28 30,qe 31 28 0,qe 32 28 1,qm 7 31,qm 8 32] [1,2,3,4,7,8]
 (qS [qo 34 (.call 8 [(.const (Value.string ⟨#[43, 32, 97, 32, 94, 97]⟩))]),qm 33 34,qe 35 33 0,qe 36 33 1,
  qo 9 (.alloc 36 [(Value.string ⟨#[]⟩), (Value.slice none 0 0), (Value.slice none 0 0), (Value.int IntKind.i64 0), (Value.slice none 0 0)]),qs 5 9 35,
  qm 10 36] [1,2,3,4,7,8,9,10]
 (qS [qo 38 (.call 8 [(.const (Value.string ⟨#[102, 111, 111, 58, 32, 115, 101, 108, 102]⟩))]),qm 37 38,qe 39 37 0,qe 40 37 1,
  qo 11 (.alloc 36 [(Value.string ⟨#[]⟩), (Value.slice none 0 0), (Value.slice none 0 0), (Value.int IntKind.i64 0), (Value.slice none 0 0)]),qs 5 11 39,
  qm 12 40] [1,2,3,4,7,8,9,10,12]
 (qS [qm 42 12,qx 43 5 [42],qm 41 43,qe 44 41 0,qe 45 41 1,qm 13 44,qm 14 45] [1,2,3,4,7,8,9,10,13,14]
 (.seq (qS [qm 46 2,qo 47 (.eqnil true .iface (.tmp 46)),qm 48 47,qu 48 (qm 49 3),qu 48 (qc 50 .neq 49 0),qr 51 48 50,qm 52 51,qu 52 (qm 53 4),
  qu 52 (qc 54 .neq 53 0),qr 55 52 54,qm 56 55,qu 56 (qf 57 4 1),qu 56 (ql 58 57),qu 56 (qL 59 58),qu 56 (qc 60 .neq 59 1),qr 61 56 60,qm 62 61,
  qu 62 (qf 63 4 1),qu 62 (ql 64 63),qu 62 (qo 65 (.idxL 11 (.tmp 64) (.const (Value.int IntKind.i64 0)))),qu 62 (qf 66 9 65),qu 62 (ql 67 66),
  qu 62 (qL 68 67),qu 62 (qc 69 .neq 68 3),qr 70 62 69,qm 71 70,qu 71 (qm 72 10),qu 71 (qo 73 (.eqnil true .iface (.tmp 72))),qr 74 71 73,qm 75 74,
  qu 75 (qf 76 1 9),qu 75 (ql 77 76),qu 75 (qL 78 77),qu 75 (qc 79 .neq 78 1),qr 80 75 79] [1,7,8,9,13,14,80]
 (qC 80 (qS [qz 0 false] [0]
 .ret)
 .skip))
 (qS [qf 81 0 1,ql 82 81,qo 83 (.bin .eql (.tmp 82) (.const (Value.string ⟨#[100, 111, 73, 116]⟩))),qm 84 83,qt 84 (qf 85 4 1),
  qt 84 (ql 86 85),qt 84 (qo 87 (.idxL 11 (.tmp 86) (.const (Value.int IntKind.i64 0)))),qt 84 (qf 88 0 87),qt 84 (ql 89 88),
  qt 84 (qo 90 (.bin .eql (.tmp 89) (.const (Value.int IntKind.u8 5)))),qa 91 84 90,qm 92 91,qt 92 (qf 93 4 1),qt 92 (ql 94 93),
  qt 92 (qo 95 (.idxL 11 (.tmp 94) (.const (Value.int IntKind.i64 0)))),qt 92 (qf 96 10 95),qt 92 (ql 97 96),qt 92 (qc 98 .eql 97 12),qa 99 92 98,
  qm 100 99,qt 100 (qf 101 4 1),qt 100 (ql 102 101),qt 100 (qo 103 (.idxL 11 (.tmp 102) (.const (Value.int IntKind.i64 0)))),qt 100 (qf 104 9 103),
  qt 100 (ql 105 104),qt 100 (qo 106 (.idxL 11 (.tmp 105) (.const (Value.int IntKind.i64 1)))),qt 100 (qf 107 10 106),qt 100 (ql 108 107),
  qt 100 (qc 109 .eql 108 2),qa 110 100 109,qm 111 110,qt 111 (qm 112 7),qt 111 (qc 113 .eql 112 160),qa 114 111 113,qm 115 114,qt 115 (qm 116 8),
  qt 115 (qc 117 .eql 116 4),qa 118 115 117,qm 119 118,qt 119 (qf 120 0 9),qt 119 (ql 121 120),
  qt 119 (qo 122 (.bin .eql (.tmp 121) (.const (Value.string ⟨#[43]⟩)))),qa 123 119 122,qm 124 123,qt 124 (qm 125 13),qt 124 (qc 126 .eql 125 160),
  qa 127 124 126,qm 128 127,qt 128 (qm 129 14),qt 128 (qc 130 .eql 129 5),qa 131 128 130,qm 0 131] [0]
 .ret))))))))))⟩)
theorem low4 : lowF Tryz.prog (kpO F4) (assoc []) 4 = some F4 := by kernel_rfl
def F3 : FIR := laid (X := ⟨108, [.tmp 8],
 (qS [qz 8 false] [0,1,2,3]
 (qS [qx 19 4 [],qm 9 19] [0,1,2,3,9]
 (.seq (qS [qm 20 9,qo 21 (.un .not (.tmp 20)),qm 22 21,qu 22 (qm 23 3),qu 22 (qo 24 (.lenS (.tmp 23))),qu 22 (qc 25 .gtr 24 1048576),
  qr 26 22 25] [0,1,2,3,9,26]
 (qC 26 (qS [qm 27 9,qm 8 27] [8]
 .ret)
 .skip))
 (qS [qm 28 0,qm 10 28] [1,2,3,10]
 (qS [qm 30 10,qo 31 (.mkif 23 (.tmp 30)),qx 32 5 [31],qm 29 32,qe 33 29 0,qe 34 29 1,qm 11 33,qm 12 34] [1,2,3,10,11,12]
 (qS [qm 36 3,qm 37 1,qm 38 10,qo 39 (.mkif 23 (.tmp 38)),
  qo 40 (.build [(Value.string ⟨#[]⟩), (Value.int IntKind.i64 0), Value.nilIface] [(0, 1, (.tmp 36)), (1, 1, (.tmp 37)), (2, 1, (.tmp 39))]),qB 41 30 40,
  qo 42 (.mkif 26 (.tmp 41)),qx 43 5 [42],qm 35 43,qe 44 35 0,qe 45 35 1,qm 13 44,qm 14 45] [1,2,3,10,11,12,13,14]
 (qS [qm 47 3,qm 48 2,qm 49 1,qm 50 10,qo 51 (.mkif 23 (.tmp 50)),
  qo 52 (.build [(Value.string ⟨#[]⟩), (Value.int IntKind.i64 0), Value.nilIface] [(0, 1, (.const (Value.string ⟨#[120]⟩))), (1, 1, (.tmp 49)), (2, 1, (.tmp 51))]),
  qB 53 30 52,qo 54 (.mkif 26 (.tmp 53)),
  qo 55 (.build [(Value.string ⟨#[]⟩), (Value.int IntKind.i64 0), Value.nilIface] [(0, 1, (.tmp 47)), (1, 1, (.tmp 48)), (2, 1, (.tmp 54))]),qB 56 30 55,
  qo 57 (.mkif 26 (.tmp 56)),qx 58 5 [57],qm 46 58,qe 59 46 0,qe 60 46 1,qm 15 59,qm 16 60] [1,2,3,10,11,12,13,14,15,16]
 (qS [qm 62 3,qm 63 2,qm 64 3,qx 65 6 [64],
  qo 66 (.build [(Value.string ⟨#[]⟩), (Value.int IntKind.i64 0), Value.nilIface] [(0, 1, (.tmp 62)), (1, 1, (.tmp 63)), (2, 1, (.tmp 65))]),qB 67 30 66,
  qo 68 (.mkif 26 (.tmp 67)),qx 69 5 [68],qm 61 69,qe 70 61 0,qe 71 61 1,qm 17 70,qm 18 71] [1,2,10,11,12,13,14,15,16,17,18]
 (qS [qm 72 11,qm 73 10,qb 74 .eql 72 73,qm 75 74,qt 75 (qm 76 12),qt 75 (qc 77 .eql 76 0),qa 78 75 77,qm 79 78,qt 79 (qm 80 13),
  qt 79 (qm 81 10),qt 79 (qb 82 .eql 80 81),qa 83 79 82,qm 84 83,qt 84 (qm 85 14),qt 84 (qm 86 1),qt 84 (qb 87 .eql 85 86),qa 88 84 87,qm 89 88,
  qt 89 (qm 90 15),qt 89 (qm 91 10),qt 89 (qb 92 .eql 90 91),qa 93 89 92,qm 94 93,qt 94 (qm 95 16),qt 94 (qm 96 2),qt 94 (qb 97 .eql 95 96),qa 98 94 97,
  qm 99 98,qt 99 (qm 100 17),qt 99 (qc 101 .eql 100 (-1)),qa 102 99 101,qm 103 102,qt 103 (qm 104 18),qt 103 (qm 105 2),qt 103 (qb 106 .eql 104 105),
  qa 107 103 106,qm 8 107] [8]
 .ret)))))))))⟩)
theorem n3 : F3.n = 108 := rfl
theorem low3 : lowF Tryz.prog (kpO F3) (assoc []) 3 = some F3 := by kernel_rfl
def F10 : DIR := laidA (X := ⟨27, [.cellN 6 5, .cell1 7],
 [(.reg [qB 3 9 0,
  qo 6 (.alloc 36 [(Value.string ⟨#[]⟩), (Value.slice none 0 0), (Value.slice none 0 0), (Value.int IntKind.i64 0), (Value.slice none 0 0)]),
  qo 7 (.alloc 28 [Value.nilIface])] [1,2,3,6,7])],
 ⟨9, 17, [(.tmp 3), (.tmp 6), (.tmp 7)]⟩,
 (qS [qm 10 1,
  qo 11 (.build ([(Value.string ⟨#[]⟩), (Value.int IntKind.u8 0), (Value.string ⟨#[]⟩), (Value.int IntKind.i64 0), (Value.int IntKind.u8 0), (Value.int IntKind.i64 0), (Value.int IntKind.u64 0), (Value.string ⟨#[]⟩), (Value.slice none 0 0), (Value.int IntKind.i64 0), (Value.int IntKind.u8 0), (Value.string ⟨#[]⟩), (Value.int IntKind.i64 0), (Value.int IntKind.u8 0), (Value.int IntKind.i64 0), (Value.int IntKind.u64 0), (Value.string ⟨#[]⟩), (Value.slice none 0 0), (Value.bool false), (Value.pointer none)]) [(0, 1, (.tmp 10))]),
  qB 12 74 11,qm 8 12] [2,6,7,8]
 (qS [qm 13 8,qx 14 18 [13]] [2,6,7,8]
 (qS [qm 15 2,qm 16 8,qo 17 (.callv (.tmp 15) [(.tmp 16)]),qs 5 6 17] [6,7,8]
 (.seq (qS [qm 18 8,qn 19 18,qf 20 1 19,qf 21 0 20,ql 22 21,qo 23 (.bin .neq (.tmp 22) (.const (Value.int IntKind.u8 0)))] [6,7,8,23]
 (qC 23 (.reg [qm 24 8,qo 25 (.call 19 [(.tmp 24), (.const (Value.int IntKind.i64 160))])] [6,7])
 .skip))
 (qS [qN 26 5 6,qs 5 6 26,⟨none,none,.store 1 (.tmp 7) (.const Value.nilIface)⟩] [6,7]
 .ret)))))⟩)
theorem low10 : lowFD Tryz.prog (assoc [(0, [1,2,3,6,7]), (1, [1,2,6,7]), (2, [2,6,7,8]), (3, [2,6,7,8]), (4, [6,7,8]), (5, [6,7,8,23]), (6, [6,7]), (7, [6,7])]) (assoc []) 10 = some F10 := by kernel_rfl
def F17 : RIR := laidA (X := ⟨18, [], 6, [qo 7 (.tassert 26 (Value.pointer none) true (.tmp 6)),qm 5 7,qe 8 5 0,qe 9 5 1,qm 3 8,qm 4 9],
 (qS [qm 10 4] [0,1,2,3,10]
 (qC 10 (qS [qm 11 3,ql 12 0,qn 13 11,qf 14 0 13,qs 1 14 12] [1,2,3]
 (.reg [qo 15 (.build [(Value.string ⟨#[]⟩), (Value.slice none 0 0), (Value.slice none 0 0), (Value.int IntKind.i64 0), (Value.slice none 0 0)] []),
  qm 16 3,qo 17 (.mkif 26 (.tmp 16)),qs 5 1 15,qs 1 2 17] []))
 .skip))⟩)
theorem low17 : lowFR Tryz.prog (assoc [(0, [0,1,2,3,4]), (1, [0,1,2,3,10]), (2, [1,2,3]), (3, [])]) (assoc []) 17 = some F17 := by kernel_rfl
end Go.Proofs.YtmpdaalhafkgjaaGreatDoor

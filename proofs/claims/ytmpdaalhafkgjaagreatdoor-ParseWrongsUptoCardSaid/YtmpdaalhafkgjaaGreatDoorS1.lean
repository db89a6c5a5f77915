/-
  The code of functions, as terms: printed by a program, proved to be what the seat has.
-/
import Derived.Test.YtmpdaalhafkgjaaGreatDoorV7
import Derived.KernelRfl
import Derived.Test.YtmpdaalhafkgjaaGreatDoorProg
set_option linter.unusedSimpArgs false
set_option linter.unusedVariables false
namespace Go.Proofs.YtmpdaalhafkgjaaGreatDoor
open Go Go.V
set_option maxRecDepth 100000
def F63 : FIR := laid (X := ⟨21, [.tmp 2],
 (qS [qz 2 false] [0]
 (qS [qm 3 0,qo 4 (.bin .leq (.const (Value.int IntKind.u8 97)) (.tmp 3)),qm 5 4,qt 5 (qm 6 0),
  qt 5 (qo 7 (.bin .leq (.tmp 6) (.const (Value.int IntKind.u8 122)))),qa 8 5 7,qm 9 8,qu 9 (qm 10 0),
  qu 9 (qo 11 (.bin .leq (.const (Value.int IntKind.u8 65)) (.tmp 10))),qu 9 (qm 12 11),qt 12 (qm 13 0),
  qt 12 (qo 14 (.bin .leq (.tmp 13) (.const (Value.int IntKind.u8 90)))),qu 9 (qa 15 12 14),qr 16 9 15,qm 17 16,qu 17 (qm 18 0),
  qu 17 (qo 19 (.bin .eql (.tmp 18) (.const (Value.int IntKind.u8 95)))),qr 20 17 19,qm 2 20] [2]
 .ret))⟩)
theorem low63 : lowF Tryz.prog (kpO F63) (assoc []) 63 = some F63 := by kernel_rfl
def F61 : FIR := laid (X := ⟨9, [.tmp 2],
 (qS [qz 2 false] [0]
 (qS [qm 3 0,qo 4 (.bin .leq (.const (Value.int IntKind.u8 48)) (.tmp 3)),qm 5 4,qt 5 (qm 6 0),
  qt 5 (qo 7 (.bin .leq (.tmp 6) (.const (Value.int IntKind.u8 57)))),qa 8 5 7,qm 2 8] [2]
 .ret))⟩)
theorem low61 : lowF Tryz.prog (kpO F61) (assoc []) 61 = some F61 := by kernel_rfl
def F79 : FIR := laid (X := ⟨9, [.tmp 2],
 (qS [qz 2 false] [0]
 (qS [qm 3 0,qx 4 63 [3],qm 5 4,qu 5 (qm 6 0),qu 5 (qx 7 61 [6]),qr 8 5 7,qm 2 8] [2]
 .ret))⟩)
theorem low79 : lowF Tryz.prog (kpO F79) (assoc []) 79 = some F79 := by kernel_rfl
def F76 : FIR := laid (X := ⟨21, [.tmp 6],
 (qS [qk 6 0] [0,1,2]
 (.seq (.block 0 (.loop (.seq (qS [qm 7 1,qm 8 0,qo 9 (.lenS (.tmp 8)),qb 10 .lss 7 9,qm 11 10,qt 11 (qm 12 2),qt 11 (qm 13 0),qt 11 (qm 14 1),
  qt 11 (qo 15 (.idxS (.tmp 13) (.tmp 14))),qt 11 (qo 16 (.callv (.tmp 12) [(.tmp 15)])),qa 17 11 16] [0,1,2,17]
 (qC 17 .skip
 (.exit 0)))
 (.block 1 (.reg [qm 18 1,qc 19 .add 18 1,qm 1 19] [0,1,2])))))
 (qS [qm 20 1,qm 6 20] [6]
 .ret)))⟩)
theorem low76 : lowF Tryz.prog (kpO F76) (assoc []) 76 = some F76 := by kernel_rfl
def F65 : FIR := laid (X := ⟨6, [.tmp 2],
 (qS [qz 2 false] [0]
 (qS [qm 3 0,qo 4 (.call 60 [(.const (Value.string ⟨#[43, 45, 42, 47, 92, 126, 60, 62, 61, 64, 37, 38, 63, 44, 33]⟩)), (.tmp 3)]),
  qc 5 .geq 4 0,qm 2 5] [2]
 .ret))⟩)
theorem low65 : lowF Tryz.prog (kpO F65) (assoc []) 65 = some F65 := by kernel_rfl
def F69 : FIR := laid (X := ⟨12, [.tmp 4],
 (qS [qo 4 (.mv (.const (Value.int IntKind.u8 0)))] [0,1]
 (.seq (qS [qm 5 1,qm 6 0,qo 7 (.lenS (.tmp 6)),qb 8 .lss 5 7] [0,1,8]
 (qC 8 (qS [qm 9 0,qm 10 1,qo 11 (.idxS (.tmp 9) (.tmp 10)),qm 4 11] [4]
 .ret)
 .skip))
 (qS [qo 4 (.mv (.const (Value.int IntKind.u8 0)))] [4]
 .ret)))⟩)
theorem low69 : lowF Tryz.prog (kpO F69) (assoc []) 69 = some F69 := by kernel_rfl
def F66 : FIR := laid (X := ⟨17, [.tmp 4],
 (qS [qB 2 9 0,qB 3 3 1,qk 4 0] [2,3]
 (.seq (qS [ql 6 2,ql 7 3,qo 8 (.idxS (.tmp 6) (.tmp 7)),qo 9 (.bin .eql (.tmp 8) (.const (Value.int IntKind.u8 124)))] [2,3,9]
 (qC 9 (qS [ql 10 3,qc 11 .add 10 1,qm 4 11] [4]
 .ret)
 .skip))
 (qS [ql 12 3,qo 5 (.alloc 3 [(Value.int IntKind.i64 0)]),qs 1 5 12] [2,3,5]
 (qS [ql 13 2,ql 14 3,qo 15 (.clos (.func 81) [] [(.tmp 3), (.tmp 5), (.tmp 2)]),qx 16 76 [13,14,15],qm 4 16] [4]
 .ret))))⟩)
theorem low66 : lowF Tryz.prog (kpO F66) (assoc []) 66 = some F66 := by kernel_rfl
def F81 : FIR := laid (X := ⟨29, [.tmp 5],
 (qS [qz 5 false] [0,1,2,3]
 (qS [qm 7 0,qx 8 65 [7],qm 9 8,qt 9 (ql 10 1),qt 9 (ql 11 2),qt 9 (qb 12 .eql 10 11),qt 9 (qm 13 12),qu 13 (qm 14 0),
  qu 13 (qo 15 (.bin .neq (.tmp 14) (.const (Value.int IntKind.u8 45)))),qt 9 (qr 16 13 15),qt 9 (qm 17 16),qu 17 (ql 18 3),qu 17 (ql 19 1),
  qu 17 (qc 20 .add 19 1),qu 17 (qx 21 69 [18,20]),qu 17 (qx 22 61 [21]),qu 17 (qo 23 (.un .not (.tmp 22))),qt 9 (qr 24 17 23),qa 25 9 24,qm 6 25] [1,6]
 (qS [ql 26 1,qc 27 .add 26 1,qs 1 1 27] [6]
 (qS [qm 28 6,qm 5 28] [5]
 .ret))))⟩)
theorem low81 : lowF Tryz.prog (kpO F81) (assoc []) 81 = some F81 := by kernel_rfl
def F60 : FIR := laid (X := ⟨8, [.tmp 4],
 (qS [qk 4 0] [0,1]
 (qS [qm 5 0,qm 6 1,qx 7 75 [5,6],qm 4 7] [4]
 .ret))⟩)
theorem low60 : lowF Tryz.prog (kpO F60) (assoc []) 60 = some F60 := by kernel_rfl
def F73 : FIR := laid (X := ⟨31, [.cellN 2 5, .tmp 3],
 (qS [qo 2 (.alloc 44 [(Value.int IntKind.u8 0), (Value.int IntKind.i64 0), (Value.int IntKind.u64 0), (Value.string ⟨#[]⟩), (Value.slice none 0 0)]),
  qk 3 0] [0,2]
 (qS [qm 7 0,qo 8 (.call 70 [(.tmp 7), (.const (Value.string ⟨#[45]⟩))]),qm 6 8,qe 9 6 0,qe 10 6 1,qm 0 9,qm 4 10] [0,2,4]
 (qS [qm 11 0,qx 12 86 [11],qm 5 12] [0,2,4,5]
 (.seq (qS [qm 13 0,qo 14 (.bin .eql (.tmp 13) (.const (Value.string ⟨#[]⟩))),qm 15 14,qu 15 (qm 16 5),qu 15 (qo 17 (.lenS (.tmp 16))),
  qu 15 (qc 18 .gtr 17 255),qr 19 15 18,qm 20 19,qu 20 (qm 21 0),qu 20 (qo 22 (.call 76 [(.tmp 21), (.const (Value.int IntKind.i64 0)), (.func 61)])),
  qu 20 (qm 23 0),qu 20 (qo 24 (.lenS (.tmp 23))),qu 20 (qb 25 .neq 22 24),qr 26 20 25] [2,4,5,26]
 (qC 26 (qS [qo 27 (.build [(Value.int IntKind.u8 0), (Value.int IntKind.i64 0), (Value.int IntKind.u64 0), (Value.string ⟨#[]⟩), (Value.slice none 0 0)] []),
  qs 5 2 27,qk 3 144] [2,3]
 .ret)
 .skip))
 (qS [qm 28 5,qm 29 4,qx 30 72 [28,29],qs 5 2 30,qk 3 0] [2,3]
 .ret)))))⟩)
theorem low73 : lowF Tryz.prog (kpO F73) (assoc []) 73 = some F73 := by kernel_rfl
def F70 : FIR := laid (X := ⟨11, [.tmp 4, .tmp 5],
 (qS [qo 4 (.mv (.const (Value.string ⟨#[]⟩))),qz 5 false] [0,1]
 (qS [qm 6 0,qm 7 1,qx 8 83 [6,7],qe 9 8 0,qe 10 8 1,qm 4 9,qm 5 10] [4,5]
 .ret))⟩)
theorem low70 : lowF Tryz.prog (kpO F70) (assoc []) 70 = some F70 := by kernel_rfl
def F83 : FIR := laid (X := ⟨15, [.tmp 4, .tmp 5],
 (qS [qo 4 (.mv (.const (Value.string ⟨#[]⟩))),qz 5 false] [0,1]
 (.seq (qS [qm 6 0,qm 7 1,qx 8 95 [6,7],qo 9 (.un .not (.tmp 8))] [0,1,9]
 (qC 9 (qS [qm 10 0,qm 4 10,qz 5 false] [4,5]
 .ret)
 .skip))
 (qS [qm 11 0,qm 12 1,qo 13 (.lenS (.tmp 12)),qo 14 (.slcS (.tmp 11) (some (.tmp 13)) none),qm 4 14,qz 5 true] [4,5]
 .ret)))⟩)
theorem low83 : lowF Tryz.prog (kpO F83) (assoc []) 83 = some F83 := by kernel_rfl
def F95 : FIR := laid (X := ⟨18, [.tmp 4],
 (qS [qz 4 false] [0,1]
 (qS [qm 5 0,qo 6 (.lenS (.tmp 5)),qm 7 1,qo 8 (.lenS (.tmp 7)),qb 9 .geq 6 8,qm 10 9,qt 10 (qm 11 0),qt 10 (qm 12 1),
  qt 10 (qo 13 (.lenS (.tmp 12))),qt 10 (qo 14 (.slcS (.tmp 11) none (some (.tmp 13)))),qt 10 (qm 15 1),qt 10 (qb 16 .eql 14 15),qa 17 10 16,qm 4 17] [4]
 .ret))⟩)
theorem low95 : lowF Tryz.prog (kpO F95) (assoc []) 95 = some F95 := by kernel_rfl
def F86 : FIR := laid (X := ⟨13, [.tmp 2],
 (qS [qo 2 (.mv (.const (Value.string ⟨#[]⟩)))] [0]
 (qS [qm 4 0,qo 5 (.call 102 [(.tmp 4), (.const (Value.string ⟨#[48]⟩))]),qm 3 5] [0,3]
 (.seq (qS [qm 6 3,qo 7 (.bin .eql (.tmp 6) (.const (Value.string ⟨#[]⟩))),qm 8 7,qt 8 (qm 9 0),
  qt 8 (qo 10 (.bin .neq (.tmp 9) (.const (Value.string ⟨#[]⟩)))),qa 11 8 10] [3,11]
 (qC 11 (qS [qo 2 (.mv (.const (Value.string ⟨#[48]⟩)))] [2]
 .ret)
 .skip))
 (qS [qm 12 3,qm 2 12] [2]
 .ret))))⟩)
theorem low86 : lowF Tryz.prog (kpO F86) (assoc []) 86 = some F86 := by kernel_rfl
def F102 : FIR := laid (X := ⟨37, [.tmp 4],
 (qS [qo 4 (.mv (.const (Value.string ⟨#[]⟩)))] [0,1]
 (.seq (qS [qm 7 0,qo 8 (.bin .eql (.tmp 7) (.const (Value.string ⟨#[]⟩))),qm 9 8,qu 9 (qm 10 1),
  qu 9 (qo 11 (.bin .eql (.tmp 10) (.const (Value.string ⟨#[]⟩)))),qr 12 9 11] [0,1,12]
 (qC 12 (qS [qm 13 0,qm 4 13] [4]
 .ret)
 .skip))
 (.seq (qS [qm 14 1,qo 15 (.lenS (.tmp 14)),qc 16 .eql 15 1,qm 17 16,qt 17 (qm 18 1),
  qt 17 (qo 19 (.idxS (.tmp 18) (.const (Value.int IntKind.i64 0)))),qt 17 (qo 20 (.bin .lss (.tmp 19) (.const (Value.int IntKind.u8 128)))),qa 21 17 20] [0,1,21]
 (qC 21 (qS [qm 22 0,qm 23 1,qo 24 (.idxS (.tmp 23) (.const (Value.int IntKind.i64 0))),qx 25 129 [22,24],qm 4 25] [4]
 .ret)
 .skip))
 (.seq (qS [qm 27 1,qx 28 130 [27],qm 26 28,qe 29 26 0,qe 30 26 1,qo 5 (.alloc 199 (rep 256 [(Value.bool false)])),qs 256 5 29,qm 6 30] [0,1,5,6]
 (qS [qm 31 6] [0,1,5,31]
 (qC 31 (qS [qm 32 0,qx 33 131 [32,5],qm 4 33] [4]
 .ret)
 .skip)))
 (qS [qm 34 0,qm 35 1,qx 36 132 [34,35],qm 4 36] [4]
 .ret)))))⟩)
theorem low102 : lowF Tryz.prog (kpO F102) (assoc []) 102 = some F102 := by kernel_rfl
def F129 : FIR := laid (X := ⟨17, [.tmp 4],
 (qS [qo 4 (.mv (.const (Value.string ⟨#[]⟩)))] [0,1]
 (.seq (.block 0 (.loop (.seq (qS [qm 5 0,qo 6 (.lenS (.tmp 5)),qc 7 .gtr 6 0,qm 8 7,qt 8 (qm 9 0),qt 8 (qo 10 (.idxS (.tmp 9) (.const (Value.int IntKind.i64 0)))),
  qt 8 (qm 11 1),qt 8 (qb 12 .eql 10 11),qa 13 8 12] [0,1,13]
 (qC 13 .skip
 (.exit 0)))
 (.block 1 (.reg [qm 14 0,qo 15 (.slcS (.tmp 14) (some (.const (Value.int IntKind.i64 1))) none),qm 0 15] [0,1])))))
 (qS [qm 16 0,qm 4 16] [4]
 .ret)))⟩)
theorem low129 : lowF Tryz.prog (kpO F129) (assoc []) 129 = some F129 := by kernel_rfl
def F72 : FIR := laid (X := ⟨35, [.cellN 4 5],
 (qS [qo 4 (.alloc 44 [(Value.int IntKind.u8 0), (Value.int IntKind.i64 0), (Value.int IntKind.u64 0), (Value.string ⟨#[]⟩), (Value.slice none 0 0)])] [0,1,4]
 (.seq (qS [qm 7 0,qo 8 (.lenS (.tmp 7)),qc 9 .leq 8 19] [0,1,4,9]
 (qC 9 (qS [qm 11 0,qo 12 (.call 85 [(.tmp 11), (.const (Value.int IntKind.i64 10)), (.const (Value.int IntKind.i64 64))]),qm 10 12,qe 13 10 0,
  qe 14 10 1,qm 5 13,qm 6 14] [0,1,4,5,6]
 (.seq (qS [qm 15 1] [0,1,4,5,6,15]
 (qC 15 (.reg [qm 16 5,qo 17 (.un .neg (.tmp 16)),qm 5 17] [0,1,4,5,6])
 .skip))
 (qS [qm 18 6,qo 19 (.eqnil false .iface (.tmp 18)),qm 20 19,qt 20 (qm 21 5),
  qt 20 (qo 22 (.bin .leq (.const (Value.int IntKind.i64 (-1152921504606846976))) (.tmp 21))),qa 23 20 22,qm 24 23,qt 24 (qm 25 5),
  qt 24 (qc 26 .leq 25 1152921504606846975),qa 27 24 26] [0,1,4,5,27]
 (qC 27 (qS [qm 28 5,
  qo 29 (.build [(Value.int IntKind.u8 0), (Value.int IntKind.i64 0), (Value.int IntKind.u64 0), (Value.string ⟨#[]⟩), (Value.slice none 0 0)] [(0, 1, (.const (Value.int IntKind.u8 4))), (1, 1, (.tmp 28))]),
  qs 5 4 29] [4]
 .ret)
 .skip))))
 .skip))
 (.seq (qS [qm 30 1] [0,4,30]
 (qC 30 (.reg [qm 31 0,qo 32 (.bin .add (.const (Value.string ⟨#[45]⟩)) (.tmp 31)),qm 0 32] [0,4])
 .skip))
 (qS [qm 33 0,
  qo 34 (.build [(Value.int IntKind.u8 0), (Value.int IntKind.i64 0), (Value.int IntKind.u64 0), (Value.string ⟨#[]⟩), (Value.slice none 0 0)] [(0, 1, (.const (Value.int IntKind.u8 5))), (3, 1, (.tmp 33))]),
  qs 5 4 34] [4]
 .ret))))⟩)
theorem low72 : lowF Tryz.prog (kpO F72) (assoc []) 72 = some F72 := by kernel_rfl
def F85 : FIR := laid (X := ⟨25, [.tmp 6, .tmp 7],
 (qS [qk 6 0,qo 7 (.mv (.const Value.nilIface))] [0,1,2]
 (qS [qm 10 0,qm 11 1,qm 12 2,qx 13 100 [10,11,12],qm 9 13,qe 14 9 0,qe 15 9 1,qm 8 14,qm 7 15] [0,1,2,7,8]
 (.seq (qS [qm 16 7,qo 17 (.eqnil true .iface (.tmp 16))] [0,1,2,7,8,17]
 (qC 17 (qS [qm 18 8,qm 19 0,qm 20 1,qm 21 2,qm 22 7,
  qo 23 (.call 101 [(.const (Value.string ⟨#[80, 97, 114, 115, 101, 73, 110, 116]⟩)), (.tmp 19), (.tmp 20), (.tmp 21), (.tmp 22)]),qm 6 18,qm 7 23] [6,7]
 .ret)
 .skip))
 (qS [qm 24 8,qm 6 24,qo 7 (.mv (.const Value.nilIface))] [6,7]
 .ret))))⟩)
theorem low85 : lowF Tryz.prog (kpO F85) (assoc []) 85 = some F85 := by kernel_rfl
def F56 : FIR := laid (X := ⟨37, [.tmp 4, .tmp 5],
 (qS [qk 4 0,qz 5 false] [0,1]
 (.scope (.seq (.label 0)
 (.seq (.block 0 (.loop (.seq (qS [qm 7 1,qm 8 0,qo 9 (.lenS (.tmp 8)),qb 10 .lss 7 9] [0,1,10]
 (qC 10 .skip
 (.exit 0)))
 (.block 1 (qS [qm 11 0,qm 12 1,qo 13 (.idxS (.tmp 11) (.tmp 12))] [0,1,13]
 (.block 2 (.seq (qS [qo 15 (.bin .eql (.tmp 13) (.const (Value.int IntKind.u8 32))),qm 14 15] [0,1,13,14]
 (qC 14 .skip
 (qS [qo 16 (.bin .eql (.tmp 13) (.const (Value.int IntKind.u8 9))),qm 14 16] [0,1,13,14]
 (qC 14 .skip
 (qS [qo 17 (.bin .eql (.tmp 13) (.const (Value.int IntKind.u8 10))),qm 14 17] [0,1,13,14]
 (qC 14 .skip
 (qS [qo 18 (.bin .eql (.tmp 13) (.const (Value.int IntKind.u8 12))),qm 14 18] [0,1,13,14]
 (qC 14 .skip
 (.reg [qo 19 (.bin .eql (.tmp 13) (.const (Value.int IntKind.u8 13))),qm 14 19] [0,1,13,14])))))))))
 (qC 14 (.reg [qm 20 1,qc 21 .add 20 1,qm 1 21] [0,1])
 (qS [qo 23 (.bin .eql (.tmp 13) (.const (Value.int IntKind.u8 34))),qm 22 23] [0,1,22]
 (qC 22 (qS [qm 24 0,qm 25 1,qc 26 .add 25 1,qo 27 (.slcS (.tmp 24) (some (.tmp 26)) none),
  qo 28 (.call 60 [(.tmp 27), (.const (Value.int IntKind.u8 34))]),qm 6 28] [0,1,6]
 (.seq (qS [qm 29 6,qc 30 .lss 29 0] [0,1,6,30]
 (qC 30 (qS [qm 31 1,qm 4 31,qz 5 false] [4,5]
 .ret)
 .skip))
 (.reg [qm 32 1,qm 33 6,qc 34 .add 33 2,qb 35 .add 32 34,qm 1 35] [0,1])))
 (.exit 0)))))))))))
 (qS [qm 36 1,qm 4 36,qz 5 true] [4,5]
 .ret)))))⟩)
theorem low56 : lowF Tryz.prog (kpO F56) (assoc []) 56 = some F56 := by kernel_rfl
def F80 : FIR := laid (X := ⟨16, [.tmp 4],
 (qS [qz 4 false] [0,1]
 (qS [qm 5 0,qm 6 1,qx 7 69 [5,6],qo 8 (.bin .eql (.tmp 7) (.const (Value.int IntKind.u8 58))),qm 9 8,qt 9 (qm 10 0),qt 9 (qm 11 1),
  qt 9 (qc 12 .add 11 1),qt 9 (qx 13 69 [10,12]),qt 9 (qo 14 (.bin .neq (.tmp 13) (.const (Value.int IntKind.u8 61)))),qa 15 9 14,qm 4 15] [4]
 .ret))⟩)
theorem low80 : lowF Tryz.prog (kpO F80) (assoc []) 80 = some F80 := by kernel_rfl
def F57 : FIR := laid (X := ⟨122, [.cellN 4 8, .tmp 5],
 (qS [qo 4 (.alloc 72 [(Value.int IntKind.u8 0), (Value.string ⟨#[]⟩), (Value.int IntKind.i64 0), (Value.int IntKind.u8 0), (Value.int IntKind.i64 0), (Value.int IntKind.u64 0), (Value.string ⟨#[]⟩), (Value.slice none 0 0)]),
  qk 5 0] [0,1,4]
 (qS [qm 14 0,qm 15 1,qo 16 (.idxS (.tmp 14) (.tmp 15)),qm 6 16] [0,1,4,6]
 (qS [qm 17 1,
  qo 18 (.build [(Value.int IntKind.u8 0), (Value.string ⟨#[]⟩), (Value.int IntKind.i64 0), (Value.int IntKind.u8 0), (Value.int IntKind.i64 0), (Value.int IntKind.u64 0), (Value.string ⟨#[]⟩), (Value.slice none 0 0)] [(0, 1, (.const (Value.int IntKind.u8 8))), (2, 1, (.tmp 17))]),
  qo 7 (.alloc 72 [(Value.int IntKind.u8 0), (Value.string ⟨#[]⟩), (Value.int IntKind.i64 0), (Value.int IntKind.u8 0), (Value.int IntKind.i64 0), (Value.int IntKind.u64 0), (Value.string ⟨#[]⟩), (Value.slice none 0 0)]),
  qs 8 7 18] [0,1,4,6,7]
 (qS [qm 19 1,qc 20 .add 19 1,qm 8 20] [0,1,4,6,7,8]
 (.seq (.block 0 (qS [qm 22 6,qx 23 61 [22],qm 21 23] [0,1,4,6,7,8,21]
 (qC 21 (qS [qm 24 0,qm 25 1,qx 26 62 [24,25],qe 27 26 0,qe 28 26 1,qs 8 4 27,qm 5 28] [4,5]
 .ret)
 (qS [qm 30 6,qx 31 63 [30],qm 29 31] [0,1,4,6,7,8,29]
 (qC 29 (qS [qm 33 0,qm 34 1,qo 35 (.call 64 [(.tmp 33), (.tmp 34), (.const (Value.bool false))]),qm 32 35,qe 36 32 0,qe 37 32 1,qe 38 32 2,
  qm 9 36,qm 10 37,qm 11 38] [0,1,4,7,9,10,11]
 (.seq (qS [qm 39 11,qc 40 .neq 39 0] [0,1,4,7,9,10,11,40]
 (qC 40 (qS [qo 41 (.build [(Value.int IntKind.u8 0), (Value.string ⟨#[]⟩), (Value.int IntKind.i64 0), (Value.int IntKind.u8 0), (Value.int IntKind.i64 0), (Value.int IntKind.u64 0), (Value.string ⟨#[]⟩), (Value.slice none 0 0)] []),
  qm 42 11,qs 8 4 41,qm 5 42] [4,5]
 .ret)
 .skip))
 (qS [qm 43 9,qf 44 0 7,⟨none,none,.store 1 (.tmp 44) (.const (Value.int IntKind.u8 1))⟩,qm 8 43] [0,1,4,7,8,10]
 (qS [qm 45 10] [0,1,4,7,8,45]
 (qC 45 (.reg [qf 46 0 7,⟨none,none,.store 1 (.tmp 46) (.const (Value.int IntKind.u8 2))⟩] [0,1,4,7,8])
 .skip)))))
 (qS [qm 48 6,qx 49 65 [48],qm 50 49,qu 50 (qm 51 6),qu 50 (qo 52 (.bin .eql (.tmp 51) (.const (Value.int IntKind.u8 124)))),qr 53 50 52,
  qm 47 53] [0,1,4,6,7,8,47]
 (qC 47 (.reg [qm 54 0,qm 55 1,qx 56 66 [54,55],qf 57 0 7,⟨none,none,.store 1 (.tmp 57) (.const (Value.int IntKind.u8 3))⟩,qm 8 56] [0,1,4,7,8])
 (qS [qm 59 6,qo 60 (.bin .eql (.tmp 59) (.const (Value.int IntKind.u8 35))),qm 58 60] [0,1,4,6,7,8,58]
 (qC 58 (qS [qm 61 0,qm 62 1,qx 63 67 [61,62],qe 64 63 0,qe 65 63 1,qs 8 4 64,qm 5 65] [4,5]
 .ret)
 (qS [qm 67 6,qo 68 (.bin .eql (.tmp 67) (.const (Value.int IntKind.u8 39))),qm 66 68] [0,1,4,6,7,8,66]
 (qC 66 (qS [qm 70 0,qm 71 1,qx 72 68 [70,71],qm 69 72,qe 73 69 0,qe 74 69 1,qm 12 73,qm 13 74] [0,1,4,7,12,13]
 (.seq (qS [qm 75 13,qc 76 .eql 75 0] [0,1,4,7,12,13,76]
 (qC 76 (qS [qo 77 (.build [(Value.int IntKind.u8 0), (Value.string ⟨#[]⟩), (Value.int IntKind.i64 0), (Value.int IntKind.u8 0), (Value.int IntKind.i64 0), (Value.int IntKind.u64 0), (Value.string ⟨#[]⟩), (Value.slice none 0 0)] []),
  qs 8 4 77,qk 5 142] [4,5]
 .ret)
 .skip))
 (.reg [qm 78 13,qm 79 12,
  qo 80 (.build [(Value.int IntKind.u8 0), (Value.int IntKind.i64 0), (Value.int IntKind.u64 0), (Value.string ⟨#[]⟩), (Value.slice none 0 0)] [(0, 1, (.const (Value.int IntKind.u8 8))), (3, 1, (.tmp 79))]),
  qf 81 0 7,⟨none,none,.store 1 (.tmp 81) (.const (Value.int IntKind.u8 5))⟩,qm 8 78,qf 82 3 7,qs 5 82 80] [0,1,4,7,8])))
 (qS [qm 84 6,qo 85 (.bin .eql (.tmp 84) (.const (Value.int IntKind.u8 36))),qm 83 85] [0,1,4,6,7,8,83]
 (qC 83 (.seq (qS [qm 86 8,qm 87 0,qo 88 (.lenS (.tmp 87)),qb 89 .eql 86 88] [0,1,4,7,8,89]
 (qC 89 (qS [qo 90 (.build [(Value.int IntKind.u8 0), (Value.string ⟨#[]⟩), (Value.int IntKind.i64 0), (Value.int IntKind.u8 0), (Value.int IntKind.i64 0), (Value.int IntKind.u64 0), (Value.string ⟨#[]⟩), (Value.slice none 0 0)] []),
  qs 8 4 90,qk 5 142] [4,5]
 .ret)
 .skip))
 (qD [qm 91 0,qm 92 8,qo 93 (.idxS (.tmp 91) (.tmp 92)),qo 94 (.conv .i64 (.tmp 93)),
  qo 95 (.build [(Value.int IntKind.u8 0), (Value.int IntKind.i64 0), (Value.int IntKind.u64 0), (Value.string ⟨#[]⟩), (Value.slice none 0 0)] [(0, 1, (.const (Value.int IntKind.u8 7))), (1, 1, (.tmp 94))]),
  qm 96 8,qc 97 .add 96 1,qf 98 0 7,⟨none,none,.store 1 (.tmp 98) (.const (Value.int IntKind.u8 7))⟩,qf 99 3 7,qs 5 99 95,qm 8 97] [[0,1,2,3,4,5,6,7,8,9,10,11]] [0,1,4,7,8]))
 (qS [qm 101 6,qo 102 (.bin .eql (.tmp 101) (.const (Value.int IntKind.u8 58))),qm 103 102,qt 103 (qm 104 0),qt 103 (qm 105 8),
  qt 103 (qx 106 69 [104,105]),qt 103 (qo 107 (.bin .eql (.tmp 106) (.const (Value.int IntKind.u8 61)))),qa 108 103 107,qm 100 108] [0,1,4,6,7,8,100]
 (qC 100 (.reg [qm 109 8,qc 110 .add 109 1,qm 8 110] [0,1,4,7,8])
 (qS [qm 112 6,qo 113 (.call 60 [(.const (Value.string ⟨#[40, 41, 91, 93, 123, 125, 94, 46, 59, 58]⟩)), (.tmp 112)]),qc 114 .lss 113 0,
  qm 111 114] [0,1,4,7,8,111]
 (qC 111 (qS [qo 115 (.build [(Value.int IntKind.u8 0), (Value.string ⟨#[]⟩), (Value.int IntKind.i64 0), (Value.int IntKind.u8 0), (Value.int IntKind.i64 0), (Value.int IntKind.u64 0), (Value.string ⟨#[]⟩), (Value.slice none 0 0)] []),
  qs 8 4 115,qk 5 141] [4,5]
 .ret)
 .skip)))))))))))))))))
 (qS [qm 116 0,qm 117 1,qm 118 8,qo 119 (.slcS (.tmp 116) (some (.tmp 117)) (some (.tmp 118))),qf 120 1 7,qs 1 120 119] [4,7]
 (qS [qN 121 8 7,qs 8 4 121,qk 5 0] [4,5]
 .ret)))))))⟩)
theorem low57 : lowF Tryz.prog (kpO F57) (assoc [(25,[[0,1,2,3,4,5,6,7,8,9,10,11]])]) 57 = some F57 := by kernel_rfl
def F49 : FIR := laid (X := ⟨38, [.cellN 4 8, .tmp 5, .tmp 6],
 (qS [qo 4 (.alloc 72 [(Value.int IntKind.u8 0), (Value.string ⟨#[]⟩), (Value.int IntKind.i64 0), (Value.int IntKind.u8 0), (Value.int IntKind.i64 0), (Value.int IntKind.u64 0), (Value.string ⟨#[]⟩), (Value.slice none 0 0)]),
  qk 5 0,qk 6 0] [0,1,4]
 (qS [qm 11 0,qm 12 1,qx 13 56 [11,12],qm 10 13,qe 14 10 0,qe 15 10 1,qm 1 14,qm 7 15] [0,1,4,7]
 (.seq (qS [qm 16 7,qo 17 (.un .not (.tmp 16))] [0,1,4,17]
 (qC 17 (qS [qo 18 (.build [(Value.int IntKind.u8 0), (Value.string ⟨#[]⟩), (Value.int IntKind.i64 0), (Value.int IntKind.u8 0), (Value.int IntKind.i64 0), (Value.int IntKind.u64 0), (Value.string ⟨#[]⟩), (Value.slice none 0 0)] []),
  qm 19 1,qs 8 4 18,qk 5 142,qm 6 19] [4,5,6]
 .ret)
 .skip))
 (.seq (qS [qm 20 1,qm 21 0,qo 22 (.lenS (.tmp 21)),qb 23 .eql 20 22] [0,1,4,23]
 (qC 23 (qS [qm 24 1,
  qo 25 (.build [(Value.int IntKind.u8 0), (Value.string ⟨#[]⟩), (Value.int IntKind.i64 0), (Value.int IntKind.u8 0), (Value.int IntKind.i64 0), (Value.int IntKind.u64 0), (Value.string ⟨#[]⟩), (Value.slice none 0 0)] [(2, 1, (.tmp 24))]),
  qs 8 4 25,qk 5 0,qk 6 0] [4,5,6]
 .ret)
 .skip))
 (qS [qm 27 0,qm 28 1,qx 29 57 [27,28],qm 26 29,qe 30 26 0,qe 31 26 1,
  qo 8 (.alloc 72 [(Value.int IntKind.u8 0), (Value.string ⟨#[]⟩), (Value.int IntKind.i64 0), (Value.int IntKind.u8 0), (Value.int IntKind.i64 0), (Value.int IntKind.u64 0), (Value.string ⟨#[]⟩), (Value.slice none 0 0)]),
  qs 8 8 30,qm 9 31] [1,4,8,9]
 (.seq (qS [qm 32 9,qc 33 .neq 32 0] [1,4,8,9,33]
 (qC 33 (qS [qo 34 (.build [(Value.int IntKind.u8 0), (Value.string ⟨#[]⟩), (Value.int IntKind.i64 0), (Value.int IntKind.u8 0), (Value.int IntKind.i64 0), (Value.int IntKind.u64 0), (Value.string ⟨#[]⟩), (Value.slice none 0 0)] []),
  qm 35 9,qm 36 1,qs 8 4 34,qm 5 35,qm 6 36] [4,5,6]
 .ret)
 .skip))
 (qS [qN 37 8 8,qs 8 4 37,qk 5 0,qk 6 0] [4,5,6]
 .ret)))))))⟩)
theorem low49 : lowF Tryz.prog (kpO F49) (assoc []) 49 = some F49 := by kernel_rfl
def F41 : FIR := laid (X := ⟨43, [.cellN 4 8, .tmp 5, .tmp 6],
 (qS [qo 4 (.alloc 72 [(Value.int IntKind.u8 0), (Value.string ⟨#[]⟩), (Value.int IntKind.i64 0), (Value.int IntKind.u8 0), (Value.int IntKind.i64 0), (Value.int IntKind.u64 0), (Value.string ⟨#[]⟩), (Value.slice none 0 0)]),
  qk 5 0,qk 6 0] [0,1,4]
 (.seq (.block 0 (qS [qm 11 0,qo 12 (.lenS (.tmp 11)),qc 13 .gtr 12 16384,qm 10 13] [0,1,4,10]
 (qC 10 (qS [qo 14 (.build [(Value.int IntKind.u8 0), (Value.string ⟨#[]⟩), (Value.int IntKind.i64 0), (Value.int IntKind.u8 0), (Value.int IntKind.i64 0), (Value.int IntKind.u64 0), (Value.string ⟨#[]⟩), (Value.slice none 0 0)] []),
  qs 8 4 14,qk 5 0,qk 6 140] [4,5,6]
 .ret)
 (qS [qm 16 1,qc 17 .lss 16 0,qm 18 17,qu 18 (qm 19 1),qu 18 (qm 20 0),qu 18 (qo 21 (.lenS (.tmp 20))),qu 18 (qb 22 .gtr 19 21),
  qr 23 18 22,qm 15 23] [0,1,4,15]
 (qC 15 (qS [qo 24 (.build [(Value.int IntKind.u8 0), (Value.string ⟨#[]⟩), (Value.int IntKind.i64 0), (Value.int IntKind.u8 0), (Value.int IntKind.i64 0), (Value.int IntKind.u64 0), (Value.string ⟨#[]⟩), (Value.slice none 0 0)] []),
  qs 8 4 24,qk 5 0,qk 6 1] [4,5,6]
 .ret)
 .skip)))))
 (qS [qm 26 0,qm 27 1,qx 28 49 [26,27],qm 25 28,qe 29 25 0,qe 30 25 1,qe 31 25 2,
  qo 7 (.alloc 72 [(Value.int IntKind.u8 0), (Value.string ⟨#[]⟩), (Value.int IntKind.i64 0), (Value.int IntKind.u8 0), (Value.int IntKind.i64 0), (Value.int IntKind.u64 0), (Value.string ⟨#[]⟩), (Value.slice none 0 0)]),
  qs 8 7 29,qm 8 30,qm 9 31] [4,7,8]
 (.seq (qS [qm 32 8,qc 33 .neq 32 0] [4,7,8,33]
 (qC 33 (qS [qo 34 (.build [(Value.int IntKind.u8 0), (Value.string ⟨#[]⟩), (Value.int IntKind.i64 0), (Value.int IntKind.u8 0), (Value.int IntKind.i64 0), (Value.int IntKind.u64 0), (Value.string ⟨#[]⟩), (Value.slice none 0 0)] []),
  qm 35 8,qs 8 4 34,qk 5 0,qm 6 35] [4,5,6]
 .ret)
 .skip))
 (.seq (qD [qN 36 8 7,qf 37 2 7,ql 38 37,qf 39 1 7,ql 40 39,qo 41 (.lenS (.tmp 40)),qb 42 .add 38 41,qs 8 4 36,qm 5 42,qk 6 0] [[0,1,2,3,4,5,6,7,8,9], [0,1,3,4,2,5,6,7,8,9], [0,1,3,4,5,7,2,6,8,9], [0,1,2,3,7,4,5,6,8,9], [0,1,3,7,2,4,5,6,8,9], [0,1,3,7,4,2,5,6,8,9]] [4,5,6])
 .ret)))))⟩)
theorem low41 : lowF Tryz.prog (kpO F41) (assoc [(8,[[0,1,2,3,4,5,6,7,8,9], [0,1,3,4,2,5,6,7,8,9], [0,1,3,4,5,7,2,6,8,9], [0,1,2,3,7,4,5,6,8,9], [0,1,3,7,2,4,5,6,8,9], [0,1,3,7,4,2,5,6,8,9]])]) 41 = some F41 := by kernel_rfl
def F42 : FIR := laid (X := ⟨38, [.tmp 2, .tmp 3, .tmp 4],
 (qS [qo 2 (.mv (.const (Value.slice none 0 0))),qk 3 0,qk 4 0] [0]
 (.seq (qS [qm 10 0,qo 11 (.lenS (.tmp 10)),qc 12 .gtr 11 16384] [0,12]
 (qC 12 (qS [qo 2 (.mv (.const (Value.slice none 0 0))),qk 3 140,qk 4 0] [2,3,4]
 .ret)
 .skip))
 (qS [qo 5 (.mv (.const (Value.slice none 0 0)))] [0,5]
 (qS [qk 6 0] [0,5,6]
 (.block 0 (.loop (.block 1 (qS [qm 14 0,qm 15 6,qx 16 49 [14,15],qm 13 16,qe 17 13 0,qe 18 13 1,qe 19 13 2,
  qo 7 (.alloc 72 [(Value.int IntKind.u8 0), (Value.string ⟨#[]⟩), (Value.int IntKind.i64 0), (Value.int IntKind.u8 0), (Value.int IntKind.i64 0), (Value.int IntKind.u64 0), (Value.string ⟨#[]⟩), (Value.slice none 0 0)]),
  qs 8 7 17,qm 8 18,qm 9 19] [0,5,7,8,9]
 (.seq (qS [qm 20 8,qc 21 .neq 20 0] [0,5,7,8,9,21]
 (qC 21 (qS [qm 22 8,qm 23 9,qo 2 (.mv (.const (Value.slice none 0 0))),qm 3 22,qm 4 23] [2,3,4]
 .ret)
 .skip))
 (qS [qm 24 5,qN 25 8 7,
  qo 26 (.bslice 72 1 [(Value.int IntKind.u8 0), (Value.string ⟨#[]⟩), (Value.int IntKind.i64 0), (Value.int IntKind.u8 0), (Value.int IntKind.i64 0), (Value.int IntKind.u64 0), (Value.string ⟨#[]⟩), (Value.slice none 0 0)] [(0, 8, (.tmp 25))]),
  qo 27 (.append 72 8 96 [(Value.int IntKind.u8 0), (Value.string ⟨#[]⟩), (Value.int IntKind.i64 0), (Value.int IntKind.u8 0), (Value.int IntKind.i64 0), (Value.int IntKind.u64 0), (Value.string ⟨#[]⟩), (Value.slice none 0 0)] (.tmp 24) (.tmp 26)),
  qm 5 27] [0,5,7]
 (.seq (qS [qf 28 0 7,ql 29 28,qo 30 (.bin .eql (.tmp 29) (.const (Value.int IntKind.u8 0)))] [0,5,7,30]
 (qC 30 (qS [qm 31 5,qm 2 31,qk 3 0,qk 4 0] [2,3,4]
 .ret)
 .skip))
 (.reg [qf 32 2 7,ql 33 32,qf 34 1 7,ql 35 34,qo 36 (.lenS (.tmp 35)),qb 37 .add 33 36,qm 6 37] [0,5,6]))))))))))))⟩)
theorem low42 : lowF Tryz.prog (kpO F42) (assoc []) 42 = some F42 := by kernel_rfl
def F62 : FIR := laid (X := ⟨113, [.cellN 4 8, .tmp 5],
 (qS [qo 4 (.alloc 72 [(Value.int IntKind.u8 0), (Value.string ⟨#[]⟩), (Value.int IntKind.i64 0), (Value.int IntKind.u8 0), (Value.int IntKind.i64 0), (Value.int IntKind.u64 0), (Value.string ⟨#[]⟩), (Value.slice none 0 0)]),
  qk 5 0] [0,1,4]
 (qS [qm 15 0,qm 16 1,qo 17 (.call 76 [(.tmp 15), (.tmp 16), (.func 61)]),qm 6 17] [0,1,4,6]
 (qS [qm 18 1,
  qo 19 (.build [(Value.int IntKind.u8 0), (Value.string ⟨#[]⟩), (Value.int IntKind.i64 0), (Value.int IntKind.u8 0), (Value.int IntKind.i64 0), (Value.int IntKind.u64 0), (Value.string ⟨#[]⟩), (Value.slice none 0 0)] [(0, 1, (.const (Value.int IntKind.u8 4))), (2, 1, (.tmp 18))]),
  qo 7 (.alloc 72 [(Value.int IntKind.u8 0), (Value.string ⟨#[]⟩), (Value.int IntKind.i64 0), (Value.int IntKind.u8 0), (Value.int IntKind.i64 0), (Value.int IntKind.u64 0), (Value.string ⟨#[]⟩), (Value.slice none 0 0)]),
  qs 8 7 19] [0,1,4,6,7]
 (qS [qz 8 true] [0,1,4,6,7]
 (.seq (.block 0 (qS [qm 33 0,qm 34 6,qx 35 69 [33,34],qo 36 (.bin .eql (.tmp 35) (.const (Value.int IntKind.u8 114))),qm 32 36] [0,1,4,6,7,32]
 (qC 32 (.reg [qm 38 0,qm 39 0,qm 40 1,qm 41 6,qo 42 (.slcS (.tmp 39) (some (.tmp 40)) (some (.tmp 41))),qm 43 6,qc 44 .add 43 1,
  qx 45 77 [38,42,44],qm 37 45,qe 46 37 0,qe 47 37 1,qe 48 37 2,qf 49 3 7,qs 5 49 46,qm 6 47,qm 8 48] [0,1,4,6,7,8])
 (qS [qm 51 0,qm 52 6,qx 53 69 [51,52],qo 54 (.bin .eql (.tmp 53) (.const (Value.int IntKind.u8 46))),qm 55 54,qt 55 (qm 56 0),
  qt 55 (qm 57 6),qt 55 (qc 58 .add 57 1),qt 55 (qx 59 69 [56,58]),qt 55 (qx 60 61 [59]),qa 61 55 60,qm 50 61] [0,1,4,6,7,50]
 (qC 50 (qS [qm 62 0,qm 63 6,qc 64 .add 63 1,qo 65 (.call 76 [(.tmp 62), (.tmp 64), (.func 61)]),qm 6 65] [0,1,4,6,7]
 (.seq (qS [qm 66 0,qm 67 6,qx 68 69 [66,67],qo 69 (.bin .eql (.tmp 68) (.const (Value.int IntKind.u8 101)))] [0,1,4,6,7,69]
 (qC 69 (qS [qm 70 6,qc 71 .add 70 1,qm 9 71] [0,1,4,6,7,9]
 (.seq (qS [qm 72 0,qm 73 9,qx 74 69 [72,73],qo 75 (.bin .eql (.tmp 74) (.const (Value.int IntKind.u8 45)))] [0,1,4,6,7,9,75]
 (qC 75 (.reg [qm 76 9,qc 77 .add 76 1,qm 9 77] [0,1,4,6,7,9])
 .skip))
 (qS [qm 78 0,qm 79 9,qo 80 (.call 76 [(.tmp 78), (.tmp 79), (.func 61)]),qm 10 80] [0,1,4,6,7,9,10]
 (qS [qm 81 10,qm 82 9,qb 83 .gtr 81 82] [0,1,4,6,7,10,83]
 (qC 83 (.reg [qm 84 10,qm 6 84] [0,1,4,6,7])
 .skip)))))
 .skip))
 (qS [qm 86 0,qm 87 1,qm 88 6,qo 89 (.slcS (.tmp 86) (some (.tmp 87)) (some (.tmp 88))),qx 90 78 [89],qm 85 90,qe 91 85 0,qe 92 85 1,
  qm 11 91,qm 12 92] [0,1,4,6,7,11,12]
 (.reg [qm 93 11,
  qo 94 (.build [(Value.int IntKind.u8 0), (Value.int IntKind.i64 0), (Value.int IntKind.u64 0), (Value.string ⟨#[]⟩), (Value.slice none 0 0)] [(0, 1, (.const (Value.int IntKind.u8 6))), (2, 1, (.tmp 93))]),
  qm 95 12,qc 96 .eql 95 0,qf 97 3 7,qs 5 97 94,qm 8 96] [0,1,4,6,7,8]))))
 (qS [qm 21 0,qm 22 1,qm 23 6,qo 24 (.slcS (.tmp 21) (some (.tmp 22)) (some (.tmp 23))),qx 25 73 [24],qm 20 25,qe 26 20 0,qe 27 20 1,
  qo 13 (.alloc 44 [(Value.int IntKind.u8 0), (Value.int IntKind.i64 0), (Value.int IntKind.u64 0), (Value.string ⟨#[]⟩), (Value.slice none 0 0)]),
  qs 5 13 26,qm 14 27] [0,1,4,6,7,13,14]
 (.reg [qN 28 5 13,qm 29 14,qc 30 .eql 29 0,qf 31 3 7,qs 5 31 28,qm 8 30] [0,1,4,6,7,8])))))))
 (.seq (qS [qm 98 8,qo 99 (.un .not (.tmp 98)),qm 100 99,qu 100 (qm 101 0),qu 100 (qm 102 6),qu 100 (qx 103 69 [101,102]),
  qu 100 (qx 104 63 [103]),qr 105 100 104] [0,1,4,6,7,105]
 (qC 105 (qS [qo 106 (.build [(Value.int IntKind.u8 0), (Value.string ⟨#[]⟩), (Value.int IntKind.i64 0), (Value.int IntKind.u8 0), (Value.int IntKind.i64 0), (Value.int IntKind.u64 0), (Value.string ⟨#[]⟩), (Value.slice none 0 0)] []),
  qs 8 4 106,qk 5 144] [4,5]
 .ret)
 .skip))
 (qS [qm 107 0,qm 108 1,qm 109 6,qo 110 (.slcS (.tmp 107) (some (.tmp 108)) (some (.tmp 109))),qf 111 1 7,qs 1 111 110] [4,7]
 (qS [qN 112 8 7,qs 8 4 112,qk 5 0] [4,5]
 .ret))))))))⟩)
theorem low62 : lowF Tryz.prog (assoc [(0, [0,1,4]), (1, [0,1,4,6]), (2, [0,1,4,6,7]), (3, [0,1,4,6,7]), (4, [0,1,4,6,7,13,14]), (5, [0,1,4,6,7,8]), (6, [0,1,4,6,7,32]), (7, [0,1,4,6,7,8]), (8, [0,1,4,6,7,50]), (9, [0,1,4,6,7]), (10, [0,1,4,6,7,69]), (11, [0,1,4,6,7,9]), (12, [0,1,4,6,7,9,75]), (13, [0,1,4,6,7,9]), (14, [0,1,4,6,7,9,10]), (15, [0,1,4,6,7,10,83]), (16, [0,1,4,6,7]), (17, [0,1,4,6,7,11,12]), (18, [0,1,4,6,7,8]), (19, [0,1,4,6,7,105]), (20, [4,5]), (21, [4,7]), (22, [4,5])]) (assoc []) 62 = some F62 := by kernel_rfl
def F67 : FIR := laid (X := ⟨100, [.cellN 4 8, .tmp 5],
 (qS [qo 4 (.alloc 72 [(Value.int IntKind.u8 0), (Value.string ⟨#[]⟩), (Value.int IntKind.i64 0), (Value.int IntKind.u8 0), (Value.int IntKind.i64 0), (Value.int IntKind.u64 0), (Value.string ⟨#[]⟩), (Value.slice none 0 0)]),
  qk 5 0] [0,1,4]
 (qS [qm 13 1,
  qo 14 (.build [(Value.int IntKind.u8 0), (Value.string ⟨#[]⟩), (Value.int IntKind.i64 0), (Value.int IntKind.u8 0), (Value.int IntKind.i64 0), (Value.int IntKind.u64 0), (Value.string ⟨#[]⟩), (Value.slice none 0 0)] [(0, 1, (.const (Value.int IntKind.u8 6))), (2, 1, (.tmp 13))]),
  qo 6 (.alloc 72 [(Value.int IntKind.u8 0), (Value.string ⟨#[]⟩), (Value.int IntKind.i64 0), (Value.int IntKind.u8 0), (Value.int IntKind.i64 0), (Value.int IntKind.u64 0), (Value.string ⟨#[]⟩), (Value.slice none 0 0)]),
  qs 8 6 14] [0,1,4,6]
 (qS [qo 7 (.mv (.const (Value.string ⟨#[]⟩))),qk 8 0] [0,1,4,6]
 (.seq (qS [qm 15 0,qm 16 1,qc 17 .add 16 1,qx 18 69 [15,17],qm 9 18] [0,1,4,6,9]
 (.block 0 (qS [qm 21 9,qo 22 (.bin .eql (.tmp 21) (.const (Value.int IntKind.u8 40))),qm 23 22,qu 23 (qm 24 9),
  qu 23 (qo 25 (.bin .eql (.tmp 24) (.const (Value.int IntKind.u8 91)))),qr 26 23 25,qm 20 26] [0,1,4,6,9,20]
 (qC 20 (qS [qm 27 0,qm 28 1,qm 29 1,qc 30 .add 29 2,qo 31 (.slcS (.tmp 27) (some (.tmp 28)) (some (.tmp 30))),qm 32 1,
  qo 33 (.build [(Value.int IntKind.u8 0), (Value.string ⟨#[]⟩), (Value.int IntKind.i64 0), (Value.int IntKind.u8 0), (Value.int IntKind.i64 0), (Value.int IntKind.u64 0), (Value.string ⟨#[]⟩), (Value.slice none 0 0)] [(0, 1, (.const (Value.int IntKind.u8 8))), (1, 1, (.tmp 31)), (2, 1, (.tmp 32))]),
  qs 8 4 33,qk 5 0] [4,5]
 .ret)
 (qS [qm 35 9,qo 36 (.bin .eql (.tmp 35) (.const (Value.int IntKind.u8 39))),qm 34 36] [0,1,4,6,9,34]
 (qC 34 (qS [qm 38 0,qm 39 1,qc 40 .add 39 1,qx 41 68 [38,40],qm 37 41,qe 42 37 0,qe 43 37 1,qm 7 42,qm 8 43] [0,1,4,6,7,8]
 (qS [qm 44 8,qc 45 .eql 44 0] [0,1,4,6,7,8,45]
 (qC 45 (qS [qo 46 (.build [(Value.int IntKind.u8 0), (Value.string ⟨#[]⟩), (Value.int IntKind.i64 0), (Value.int IntKind.u8 0), (Value.int IntKind.i64 0), (Value.int IntKind.u64 0), (Value.string ⟨#[]⟩), (Value.slice none 0 0)] []),
  qs 8 4 46,qk 5 142] [4,5]
 .ret)
 .skip)))
 (qS [qm 48 1,qc 49 .add 48 1,qm 50 0,qo 51 (.lenS (.tmp 50)),qb 52 .lss 49 51,qm 53 52,qt 53 (qm 54 9),qt 53 (qx 55 65 [54]),
  qt 53 (qm 56 55),qu 56 (qm 57 9),qu 56 (qo 58 (.bin .eql (.tmp 57) (.const (Value.int IntKind.u8 124)))),qt 53 (qr 59 56 58),qa 60 53 59,qm 47 60] [0,1,4,6,9,47]
 (qC 47 (qS [qm 61 0,qm 62 1,qc 63 .add 62 1,qx 64 66 [61,63],qm 8 64] [0,1,4,6,8]
 (.reg [qm 65 0,qm 66 1,qc 67 .add 66 1,qm 68 8,qo 69 (.slcS (.tmp 65) (some (.tmp 67)) (some (.tmp 68))),qm 7 69] [0,1,4,6,7,8]))
 (qS [qm 71 9,qx 72 63 [71],qm 70 72] [0,1,4,6,70]
 (qC 70 (qS [qm 74 0,qm 75 1,qc 76 .add 75 1,qo 77 (.call 64 [(.tmp 74), (.tmp 76), (.const (Value.bool true))]),qm 73 77,qe 78 73 0,qe 79 73 1,
  qe 80 73 2,qm 10 78,qm 11 79,qm 12 80] [0,1,4,6,10,12]
 (.seq (qS [qm 81 12,qc 82 .neq 81 0] [0,1,4,6,10,12,82]
 (qC 82 (qS [qo 83 (.build [(Value.int IntKind.u8 0), (Value.string ⟨#[]⟩), (Value.int IntKind.i64 0), (Value.int IntKind.u8 0), (Value.int IntKind.i64 0), (Value.int IntKind.u64 0), (Value.string ⟨#[]⟩), (Value.slice none 0 0)] []),
  qm 84 12,qs 8 4 83,qm 5 84] [4,5]
 .ret)
 .skip))
 (.reg [qm 85 0,qm 86 1,qc 87 .add 86 1,qm 88 10,qo 89 (.slcS (.tmp 85) (some (.tmp 87)) (some (.tmp 88))),qm 90 10,qm 7 89,qm 8 90] [0,1,4,6,7,8])))
 (qS [qo 19 (.build [(Value.int IntKind.u8 0), (Value.string ⟨#[]⟩), (Value.int IntKind.i64 0), (Value.int IntKind.u8 0), (Value.int IntKind.i64 0), (Value.int IntKind.u64 0), (Value.string ⟨#[]⟩), (Value.slice none 0 0)] []),
  qs 8 4 19,qk 5 141] [4,5]
 .ret)))))))))))
 (qS [qm 91 0,qm 92 1,qm 93 8,qo 94 (.slcS (.tmp 91) (some (.tmp 92)) (some (.tmp 93))),qm 95 7,
  qo 96 (.build [(Value.int IntKind.u8 0), (Value.int IntKind.i64 0), (Value.int IntKind.u64 0), (Value.string ⟨#[]⟩), (Value.slice none 0 0)] [(0, 1, (.const (Value.int IntKind.u8 9))), (3, 1, (.tmp 95))]),
  qf 97 1 6,qs 1 97 94,qf 98 3 6,qs 5 98 96] [4,6]
 (qS [qN 99 8 6,qs 8 4 99,qk 5 0] [4,5]
 .ret))))))⟩)
theorem low67 : lowF Tryz.prog (assoc [(0, [0,1,4]), (1, [0,1,4,6]), (2, [0,1,4,6]), (3, [0,1,4,6,9]), (4, [4,5]), (5, [0,1,4,6,9,20]), (6, [4,5]), (7, [0,1,4,6,9,34]), (8, [0,1,4,6,7,8]), (9, [0,1,4,6,7,8,45]), (10, [4,5]), (11, [0,1,4,6,9,47]), (12, [0,1,4,6,8]), (13, [0,1,4,6,7,8]), (14, [0,1,4,6,70]), (15, [0,1,4,6,10,12]), (16, [0,1,4,6,10,12,82]), (17, [4,5]), (18, [0,1,4,6,7,8]), (19, [4,6]), (20, [4,5])]) (assoc []) 67 = some F67 := by kernel_rfl
def F64 : FIR := laid (X := ⟨51, [.tmp 6, .tmp 7, .tmp 8],
 (qS [qk 6 0,qz 7 false,qk 8 0] [0,1,2]
 (qS [qz 9 false] [0,1,2,9]
 (.block 0 (.loop (.block 1 (qS [qm 12 0,qm 13 1,qo 14 (.call 76 [(.tmp 12), (.tmp 13), (.func 79)]),qm 10 14] [0,1,2,9,10]
 (qS [qk 11 0] [0,1,2,9,10,11]
 (.seq (.block 2 (.seq (.block 4 (.seq (.block 3 (.seq (.seq (qS [qm 16 0,qm 17 10,qx 18 80 [16,17],qm 15 18] [0,1,2,9,10,11,15]
 (qC 15 (.exit 3)
 .skip))
 (qS [qm 20 9,qo 21 (.un .not (.tmp 20)),qm 19 21] [0,1,2,9,10,11,19]
 (qC 19 (.exit 4)
 .skip)))
 (.exit 2)))
 (.reg [qm 22 11,qc 23 .add 22 1,qm 11 23] [0,1,2,9,10,11])))
 (qS [qm 24 11,qc 25 .add 24 1,qm 11 25] [0,1,2,9,10,11]
 (.exit 2))))
 (.seq (qS [qm 26 11,qc 27 .eql 26 0,qm 28 27,qu 28 (qm 29 9),qu 28 (qm 30 29),qt 30 (qm 31 0),qt 30 (qm 32 1),qt 30 (qx 33 69 [31,32]),
  qt 30 (qx 34 63 [33]),qt 30 (qo 35 (.un .not (.tmp 34))),qu 28 (qa 36 30 35),qr 37 28 36] [0,1,2,10,11,37]
 (qC 37 (qS [qm 38 1,qm 6 38,qz 7 true,qk 8 0] [6,7,8]
 .ret)
 .skip))
 (.seq (qS [qm 39 10,qm 40 1,qb 41 .sub 39 40,qc 42 .gtr 41 40] [0,2,10,11,42]
 (qC 42 (qS [qk 6 0,qz 7 false,qk 8 143] [6,7,8]
 .ret)
 .skip))
 (.seq (qS [qm 43 11,qc 44 .eql 43 1] [0,2,10,44]
 (qC 44 (qS [qm 45 10,qm 6 45,qz 7 false,qk 8 0] [6,7,8]
 .ret)
 .skip))
 (qS [qm 46 10,qc 47 .add 46 1,qm 1 47,qz 9 true] [0,1,2,9]
 (qS [qm 48 2,qo 49 (.un .not (.tmp 48))] [0,1,2,9,49]
 (qC 49 (qS [qm 50 1,qm 6 50,qz 7 true,qk 8 0] [6,7,8]
 .ret)
 .skip))))))))))))))⟩)
theorem low64 : lowF Tryz.prog (kpO F64) (assoc []) 64 = some F64 := by kernel_rfl
end Go.Proofs.YtmpdaalhafkgjaaGreatDoor

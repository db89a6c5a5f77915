/-
  The code of functions, as terms: printed by a program, proved to be what the seat has.
-/
import Derived.Test.YtmnmandpdadedaaGreatDoorV8
import Derived.KernelRfl
import Derived.Test.YtmnmandpdadedaaGreatDoorProg
set_option linter.unusedSimpArgs false
set_option linter.unusedVariables false
namespace Go.Proofs.YtmnmandpdadedaaGreatDoor
open Go Go.V
set_option maxRecDepth 100000
def F121 : FIR := laid (X := ⟨21, [.tmp 2],
 (qS [qz 2 false] [0]
 (qS [qm 3 0,qo 4 (.bin .leq (.const (Value.int IntKind.u8 97)) (.tmp 3)),qm 5 4,qt 5 (qm 6 0),
  qt 5 (qo 7 (.bin .leq (.tmp 6) (.const (Value.int IntKind.u8 122)))),qa 8 5 7,qm 9 8,qu 9 (qm 10 0),
  qu 9 (qo 11 (.bin .leq (.const (Value.int IntKind.u8 65)) (.tmp 10))),qu 9 (qm 12 11),qt 12 (qm 13 0),
  qt 12 (qo 14 (.bin .leq (.tmp 13) (.const (Value.int IntKind.u8 90)))),qu 9 (qa 15 12 14),qr 16 9 15,qm 17 16,qu 17 (qm 18 0),
  qu 17 (qo 19 (.bin .eql (.tmp 18) (.const (Value.int IntKind.u8 95)))),qr 20 17 19,qm 2 20] [2]
 .ret))⟩)
theorem n121 : F121.n = 21 := rfl
theorem low121 : lowF Tryz.prog (kpO F121) (assoc []) 121 = some F121 := by kernel_rfl
def F126 : FIR := laid (X := ⟨9, [.tmp 2],
 (qS [qz 2 false] [0]
 (qS [qm 3 0,qo 4 (.bin .leq (.const (Value.int IntKind.u8 48)) (.tmp 3)),qm 5 4,qt 5 (qm 6 0),
  qt 5 (qo 7 (.bin .leq (.tmp 6) (.const (Value.int IntKind.u8 57)))),qa 8 5 7,qm 2 8] [2]
 .ret))⟩)
theorem n126 : F126.n = 9 := rfl
theorem low126 : lowF Tryz.prog (kpO F126) (assoc []) 126 = some F126 := by kernel_rfl
def F123 : FIR := laid (X := ⟨9, [.tmp 2],
 (qS [qz 2 false] [0]
 (qS [qm 3 0,qx 4 121 [3],qm 5 4,qu 5 (qm 6 0),qu 5 (qx 7 126 [6]),qr 8 5 7,qm 2 8] [2]
 .ret))⟩)
theorem n123 : F123.n = 9 := rfl
theorem low123 : lowF Tryz.prog (kpO F123) (assoc []) 123 = some F123 := by kernel_rfl
def F122 : FIR := laid (X := ⟨21, [.tmp 6],
 (qS [qk 6 0] [0,1,2]
 (.seq (.block 0 (.loop (.seq (qS [qm 7 1,qm 8 0,qo 9 (.lenS (.tmp 8)),qb 10 .lss 7 9,qm 11 10,qt 11 (qm 12 2),qt 11 (qm 13 0),qt 11 (qm 14 1),
  qt 11 (qo 15 (.idxS (.tmp 13) (.tmp 14))),qt 11 (qo 16 (.callv (.tmp 12) [(.tmp 15)])),qa 17 11 16] [0,1,2,17]
 (qC 17 .skip
 (.exit 0)))
 (.block 1 (.reg [qm 18 1,qc 19 .add 18 1,qm 1 19] [0,1,2])))))
 (qS [qm 20 1,qm 6 20] [6]
 .ret)))⟩)
theorem n122 : F122.n = 21 := rfl
theorem low122 : lowF Tryz.prog (kpO F122) (assoc []) 122 = some F122 := by kernel_rfl
def F88 : FIR := laid (X := ⟨22, [.tmp 2],
 (qS [qz 2 false] [0]
 (qS [qm 3 0,qo 4 (.bin .neq (.tmp 3) (.const (Value.string ⟨#[]⟩))),qm 5 4,qt 5 (qm 6 0),qt 5 (qo 7 (.lenS (.tmp 6))),
  qt 5 (qc 8 .leq 7 40),qa 9 5 8,qm 10 9,qt 10 (qm 11 0),qt 10 (qo 12 (.idxS (.tmp 11) (.const (Value.int IntKind.i64 0)))),qt 10 (qx 13 121 [12]),
  qa 14 10 13,qm 15 14,qt 15 (qm 16 0),qt 15 (qo 17 (.call 122 [(.tmp 16), (.const (Value.int IntKind.i64 0)), (.func 123)])),qt 15 (qm 18 0),
  qt 15 (qo 19 (.lenS (.tmp 18))),qt 15 (qb 20 .eql 17 19),qa 21 15 20,qm 2 21] [2]
 .ret))⟩)
theorem n88 : F88.n = 22 := rfl
theorem low88 : lowF Tryz.prog (kpO F88) (assoc []) 88 = some F88 := by kernel_rfl
def F89 : FIR := laid (X := ⟨6, [.tmp 2],
 (qS [qz 2 false] [0]
 (qS [qm 3 0,qo 4 (.call 124 [(.const (Value.string ⟨#[43, 45, 42, 47, 92, 126, 60, 62, 61, 64, 37, 38, 63, 44, 33]⟩)), (.tmp 3)]),
  qc 5 .geq 4 0,qm 2 5] [2]
 .ret))⟩)
theorem n89 : F89.n = 6 := rfl
theorem low89 : lowF Tryz.prog (kpO F89) (assoc []) 89 = some F89 := by kernel_rfl
def F127 : FIR := laid (X := ⟨12, [.tmp 4],
 (qS [qo 4 (.mv (.const (Value.int IntKind.u8 0)))] [0,1]
 (.seq (qS [qm 5 1,qm 6 0,qo 7 (.lenS (.tmp 6)),qb 8 .lss 5 7] [0,1,8]
 (qC 8 (qS [qm 9 0,qm 10 1,qo 11 (.idxS (.tmp 9) (.tmp 10)),qm 4 11] [4]
 .ret)
 .skip))
 (qS [qo 4 (.mv (.const (Value.int IntKind.u8 0)))] [4]
 .ret)))⟩)
theorem n127 : F127.n = 12 := rfl
theorem low127 : lowF Tryz.prog (kpO F127) (assoc []) 127 = some F127 := by kernel_rfl
def F90 : FIR := laid (X := ⟨17, [.tmp 4],
 (qS [qB 2 9 0,qB 3 3 1,qk 4 0] [2,3]
 (.seq (qS [ql 6 2,ql 7 3,qo 8 (.idxS (.tmp 6) (.tmp 7)),qo 9 (.bin .eql (.tmp 8) (.const (Value.int IntKind.u8 124)))] [2,3,9]
 (qC 9 (qS [ql 10 3,qc 11 .add 10 1,qm 4 11] [4]
 .ret)
 .skip))
 (qS [ql 12 3,qo 5 (.alloc 3 [(Value.int IntKind.i64 0)]),qs 1 5 12] [2,3,5]
 (qS [ql 13 2,ql 14 3,qo 15 (.clos (.func 125) [] [(.tmp 3), (.tmp 5), (.tmp 2)]),qx 16 122 [13,14,15],qm 4 16] [4]
 .ret))))⟩)
theorem n90 : F90.n = 17 := rfl
theorem low90 : lowF Tryz.prog (kpO F90) (assoc []) 90 = some F90 := by kernel_rfl
def F125 : FIR := laid (X := ⟨29, [.tmp 5],
 (qS [qz 5 false] [0,1,2,3]
 (qS [qm 7 0,qx 8 89 [7],qm 9 8,qt 9 (ql 10 1),qt 9 (ql 11 2),qt 9 (qb 12 .eql 10 11),qt 9 (qm 13 12),qu 13 (qm 14 0),
  qu 13 (qo 15 (.bin .neq (.tmp 14) (.const (Value.int IntKind.u8 45)))),qt 9 (qr 16 13 15),qt 9 (qm 17 16),qu 17 (ql 18 3),qu 17 (ql 19 1),
  qu 17 (qc 20 .add 19 1),qu 17 (qx 21 127 [18,20]),qu 17 (qx 22 126 [21]),qu 17 (qo 23 (.un .not (.tmp 22))),qt 9 (qr 24 17 23),qa 25 9 24,qm 6 25] [1,6]
 (qS [ql 26 1,qc 27 .add 26 1,qs 1 1 27] [6]
 (qS [qm 28 6,qm 5 28] [5]
 .ret))))⟩)
theorem n125 : F125.n = 29 := rfl
theorem low125 : lowF Tryz.prog (kpO F125) (assoc []) 125 = some F125 := by kernel_rfl
def F124 : FIR := laid (X := ⟨8, [.tmp 4],
 (qS [qk 4 0] [0,1]
 (qS [qm 5 0,qm 6 1,qx 7 143 [5,6],qm 4 7] [4]
 .ret))⟩)
theorem n124 : F124.n = 8 := rfl
theorem low124 : lowF Tryz.prog (kpO F124) (assoc []) 124 = some F124 := by kernel_rfl
def F91 : FIR := laid (X := ⟨10, [.tmp 4],
 (qS [qo 4 (.mv (.const Value.nilFunc))] [0,1]
 (qS [qm 5 0,qm 6 1,qm 7 1,qo 8 (.lenS (.tmp 7)),qx 9 128 [5,6,8],qm 4 9] [4]
 .ret))⟩)
theorem n91 : F91.n = 10 := rfl
theorem low91 : lowF Tryz.prog (kpO F91) (assoc []) 91 = some F91 := by kernel_rfl
def F128 : FIR := laid (X := ⟨8, [.tmp 6],
 (qS [qB 3 9 0,qB 4 9 1,qB 5 3 2,qo 6 (.mv (.const Value.nilFunc))] [3,4,5]
 (qS [qo 7 (.clos (.func 144) [] [(.tmp 4), (.tmp 3), (.tmp 5)]),qm 6 7] [6]
 .ret))⟩)
theorem n128 : F128.n = 8 := rfl
theorem low128 : lowF Tryz.prog (kpO F128) (assoc []) 128 = some F128 := by kernel_rfl
def F144 : FIR := laid (X := ⟨52, [],
 (.seq (qS [ql 9 1,qo 10 (.lenS (.tmp 9)),qc 11 .eql 10 0] [0,1,2,3,11]
 (qC 11 (.seq (.block 0 (.loop (.seq (qS [ql 12 2,qo 13 (.lenS (.tmp 12)),qc 14 .gtr 13 0] [0,2,14]
 (qC 14 .skip
 (.exit 0)))
 (.block 1 (qS [ql 16 2,qx 17 145 [16],qm 15 17,qe 18 15 0,qe 19 15 1,qm 5 18,qm 6 19] [0,2,6]
 (.seq (qS [qm 20 0,ql 21 2,qm 22 6,qo 23 (.slcS (.tmp 21) none (some (.tmp 22))),qo 24 (.callv (.tmp 20) [(.tmp 23)]),
  qo 25 (.un .not (.tmp 24))] [0,2,6,25]
 (qC 25 .ret
 .skip))
 (.reg [ql 26 2,qm 27 6,qo 28 (.slcS (.tmp 26) (some (.tmp 27)) none),qs 1 2 28] [0,2])))))))
 .ret)
 .skip))
 (.seq (.block 2 (.loop (.block 3 (qS [ql 29 2,ql 30 1,qx 31 146 [29,30],qm 7 31] [0,1,2,3,7]
 (.seq (qS [qm 32 7,qc 33 .lss 32 0] [0,1,2,3,7,33]
 (qC 33 (.exit 2)
 .skip))
 (qS [ql 34 2,qm 35 7,ql 36 3,qb 37 .add 35 36,qo 38 (.slcS (.tmp 34) none (some (.tmp 37))),qm 8 38] [0,1,2,3,7,8]
 (.seq (qS [qm 39 0,qm 40 8,qo 41 (.callv (.tmp 39) [(.tmp 40)]),qo 42 (.un .not (.tmp 41))] [0,1,2,3,7,42]
 (qC 42 .ret
 .skip))
 (.reg [ql 43 2,qm 44 7,ql 45 1,qo 46 (.lenS (.tmp 45)),qb 47 .add 44 46,qo 48 (.slcS (.tmp 43) (some (.tmp 47)) none),qs 1 2 48] [0,1,2,3]))))))))
 (.reg [qm 49 0,ql 50 2,qo 51 (.callv (.tmp 49) [(.tmp 50)])] [])))⟩)
theorem n144 : F144.n = 52 := rfl
theorem low144 : lowF Tryz.prog (kpO F144) (assoc []) 144 = some F144 := by kernel_rfl
def F146 : FIR := laid (X := ⟨8, [.tmp 4],
 (qS [qk 4 0] [0,1]
 (qS [qm 5 0,qm 6 1,qx 7 155 [5,6],qm 4 7] [4]
 .ret))⟩)
theorem n146 : F146.n = 8 := rfl
theorem low146 : lowF Tryz.prog (kpO F146) (assoc []) 146 = some F146 := by kernel_rfl
def F92 : FIR := laid (X := ⟨11, [.tmp 4, .tmp 5],
 (qS [qo 4 (.mv (.const (Value.string ⟨#[]⟩))),qz 5 false] [0,1]
 (qS [qm 6 0,qm 7 1,qx 8 129 [6,7],qe 9 8 0,qe 10 8 1,qm 4 9,qm 5 10] [4,5]
 .ret))⟩)
theorem n92 : F92.n = 11 := rfl
theorem low92 : lowF Tryz.prog (kpO F92) (assoc []) 92 = some F92 := by kernel_rfl
def F129 : FIR := laid (X := ⟨18, [.tmp 4, .tmp 5],
 (qS [qo 4 (.mv (.const (Value.string ⟨#[]⟩))),qz 5 false] [0,1]
 (.seq (qS [qm 6 0,qm 7 1,qx 8 147 [6,7],qo 9 (.un .not (.tmp 8))] [0,1,9]
 (qC 9 (qS [qm 10 0,qm 4 10,qz 5 false] [4,5]
 .ret)
 .skip))
 (qS [qm 11 0,qm 12 0,qo 13 (.lenS (.tmp 12)),qm 14 1,qo 15 (.lenS (.tmp 14)),qb 16 .sub 13 15,
  qo 17 (.slcS (.tmp 11) none (some (.tmp 16))),qm 4 17,qz 5 true] [4,5]
 .ret)))⟩)
theorem n129 : F129.n = 18 := rfl
theorem low129 : lowF Tryz.prog (kpO F129) (assoc []) 129 = some F129 := by kernel_rfl
def F147 : FIR := laid (X := ⟨21, [.tmp 4],
 (qS [qz 4 false] [0,1]
 (qS [qm 5 0,qo 6 (.lenS (.tmp 5)),qm 7 1,qo 8 (.lenS (.tmp 7)),qb 9 .geq 6 8,qm 10 9,qt 10 (qm 11 0),qt 10 (qm 12 0),
  qt 10 (qo 13 (.lenS (.tmp 12))),qt 10 (qm 14 1),qt 10 (qo 15 (.lenS (.tmp 14))),qt 10 (qb 16 .sub 13 15),
  qt 10 (qo 17 (.slcS (.tmp 11) (some (.tmp 16)) none)),qt 10 (qm 18 1),qt 10 (qb 19 .eql 17 18),qa 20 10 19,qm 4 20] [4]
 .ret))⟩)
theorem n147 : F147.n = 21 := rfl
theorem low147 : lowF Tryz.prog (kpO F147) (assoc []) 147 = some F147 := by kernel_rfl
def F48 : FIR := laid (X := ⟨47, [.cell1 2],
 (qS [qo 2 (.alloc 3 [(Value.int IntKind.i64 0)])] [0,2]
 (.seq (.block 0 (qS [qm 8 0,qx 9 88 [8],qm 7 9] [0,2,7]
 (qC 7 (qS [⟨none,none,.store 1 (.tmp 2) (.const (Value.int IntKind.i64 0))⟩] [2]
 .ret)
 (qS [qm 11 0,qo 12 (.bin .eql (.tmp 11) (.const (Value.string ⟨#[]⟩))),qm 10 12] [0,2,10]
 (qC 10 (qS [⟨none,none,.store 1 (.tmp 2) (.const (Value.int IntKind.i64 (-1)))⟩] [2]
 .ret)
 (qS [qm 14 0,qo 15 (.idxS (.tmp 14) (.const (Value.int IntKind.i64 0))),qx 16 89 [15],qm 17 16,qu 17 (qm 18 0),
  qu 17 (qo 19 (.idxS (.tmp 18) (.const (Value.int IntKind.i64 0)))),qu 17 (qo 20 (.bin .eql (.tmp 19) (.const (Value.int IntKind.u8 124)))),qr 21 17 20,
  qm 13 21] [0,2,13]
 (qC 13 (.seq (qS [qm 22 0,qo 23 (.call 90 [(.tmp 22), (.const (Value.int IntKind.i64 0))]),qm 24 0,qo 25 (.lenS (.tmp 24)),qb 26 .eql 23 25] [2,26]
 (qC 26 (qS [⟨none,none,.store 1 (.tmp 2) (.const (Value.int IntKind.i64 1))⟩] [2]
 .ret)
 .skip))
 (qS [⟨none,none,.store 1 (.tmp 2) (.const (Value.int IntKind.i64 (-1)))⟩] [2]
 .ret))
 .skip)))))))
 (qS [qo 3 (.alloc 3 [(Value.int IntKind.i64 0)]),⟨none,none,.store 1 (.tmp 3) (.const (Value.int IntKind.i64 0))⟩] [0,2,3]
 (.seq (qS [qm 27 0,qo 28 (.call 91 [(.tmp 27), (.const (Value.string ⟨#[58]⟩))])] [2,3,28]
 (.block 1 (.rangef (.tmp 28) [29] (.reg [qm 4 29] [2,3,4])
 (.block 2 (.seq (qS [qm 30 4,qo 31 (.bin .eql (.tmp 30) (.const (Value.string ⟨#[]⟩)))] [2,3,4,31]
 (qC 31 (.exit 1)
 .skip))
 (qS [qm 33 4,qo 34 (.call 92 [(.tmp 33), (.const (Value.string ⟨#[58]⟩))]),qm 32 34,qe 35 32 0,qe 36 32 1,qm 5 35,qm 6 36] [2,3,5,6]
 (.seq (qS [qm 37 6,qo 38 (.un .not (.tmp 37)),qm 39 38,qu 39 (qm 40 5),qu 39 (qx 41 88 [40]),qu 39 (qo 42 (.un .not (.tmp 41))),qr 43 39 42] [2,3,43]
 (qC 43 (qS [⟨none,none,.store 1 (.tmp 2) (.const (Value.int IntKind.i64 (-1)))⟩] [2]
 .ret)
 .skip))
 (.reg [ql 44 3,qc 45 .add 44 1,qs 1 3 45] []))))))))
 (qS [ql 46 3,qs 1 2 46] [2]
 .ret)))))⟩)
theorem n48 : F48.n = 47 := rfl
theorem low48 : lowF Tryz.prog (kpO F48) (assoc []) 48 = some F48 := by kernel_rfl
def F39 : FIR := laid (X := ⟨4, [.tmp 2],
 (qS [qB 1 48 0,qo 2 (.mv (.const Value.nilFunc))] [1]
 (qS [qo 3 (.clos (.func 82) [] [(.tmp 1)]),qm 2 3] [2]
 .ret))⟩)
theorem n39 : F39.n = 4 := rfl
theorem low39 : lowF Tryz.prog (kpO F39) (assoc []) 39 = some F39 := by kernel_rfl
def F82 : FIR := laid (X := ⟨8, [],
 (qS [qB 2 49 0] [1,2]
 (qS [qo 3 (.alloc 49 [Value.nilFunc])] [1,2,3]
 (qS [qo 4 (.clos (.func 83) [] [(.tmp 2), (.tmp 3)]),qs 1 3 4] [1,3]
 (.reg [ql 5 3,qN 6 11 1,qo 7 (.callv (.tmp 5) [(.tmp 6)])] []))))⟩)
theorem n82 : F82.n = 8 := rfl
theorem low82 : lowF Tryz.prog (kpO F82) (assoc []) 82 = some F82 := by kernel_rfl
def F83 : FIR := laid (X := ⟨23, [.tmp 4],
 (qS [qB 3 48 0,qz 4 false] [1,2,3]
 (.seq (qS [ql 7 1,qN 8 11 3,qo 9 (.callv (.tmp 7) [(.tmp 8)]),qo 10 (.un .not (.tmp 9))] [2,3,10]
 (qC 10 (qS [qz 4 false] [4]
 .ret)
 .skip))
 (.seq (qS [qf 11 9 3,ql 12 11,qL 13 12,qk 14 0] [2,12,13,14]
 (.block 0 (.loop (qS [qb 15 .lss 14 13] [2,12,13,14,15]
 (.seq (qC 15 .skip
 (.exit 0))
 (.seq (.block 1 (qS [qi 16 11 12 14,qN 17 11 16,
  qo 6 (.alloc 48 [(Value.int IntKind.u8 0), (Value.string ⟨#[]⟩), (Value.int IntKind.u8 0), (Value.int IntKind.i64 0), (Value.int IntKind.u64 0), (Value.string ⟨#[]⟩), (Value.slice none 0 0), (Value.slice none 0 0), (Value.slice none 0 0), (Value.slice none 0 0), (Value.int IntKind.i64 0)]),
  qs 11 6 17] [2,6,12,13,14]
 (qS [ql 18 2,qN 19 11 6,qo 20 (.callv (.tmp 18) [(.tmp 19)]),qo 21 (.un .not (.tmp 20))] [2,12,13,14,21]
 (qC 21 (qS [qz 4 false] [4]
 .ret)
 .skip))))
 (.reg [qc 22 .add 14 1,qm 14 22] [2,12,13,14])))))))
 (qS [qz 4 true] [4]
 .ret))))⟩)
theorem n83 : F83.n = 23 := rfl
theorem low83 : lowF Tryz.prog (kpO F83) (assoc []) 83 = some F83 := by kernel_rfl
def F27 : FIR := laid (X := ⟨10, [.tmp 2],
 (qS [qB 1 48 0,qk 2 0] [1]
 (qS [qo 3 (.alloc 3 [(Value.int IntKind.i64 0)]),⟨none,none,.store 1 (.tmp 3) (.const (Value.int IntKind.i64 0))⟩] [1,3]
 (.seq (qS [qN 4 11 1,qx 5 39 [4]] [3,5]
 (.block 0 (.rangef (.tmp 5) [6] .skip
 (.block 1 (.reg [ql 7 3,qc 8 .add 7 1,qs 1 3 8] [])))))
 (qS [ql 9 3,qm 2 9] [2]
 .ret))))⟩)
theorem n27 : F27.n = 10 := rfl
theorem low27 : lowF Tryz.prog (kpO F27) (assoc []) 27 = some F27 := by kernel_rfl
def F28 : FIR := laid (X := ⟨45, [.tmp 4],
 (qS [qB 2 48 0,qB 3 48 1,qz 4 false] [2,3]
 (qS [qf 5 0 2,ql 6 5,qf 7 0 3,ql 8 7,qb 9 .eql 6 8,qm 10 9,qt 10 (qf 11 1 2),qt 10 (ql 12 11),qt 10 (qf 13 1 3),qt 10 (ql 14 13),
  qt 10 (qb 15 .eql 12 14),qa 16 10 15,qm 17 16,qt 17 (qf 18 7 2),qt 17 (ql 19 18),qt 17 (qf 20 7 3),qt 17 (ql 21 20),qt 17 (qx 22 51 [19,21]),
  qa 23 17 22,qm 24 23,qt 24 (qf 25 8 2),qt 24 (ql 26 25),qt 24 (qf 27 8 3),qt 24 (ql 28 27),qt 24 (qx 29 51 [26,28]),qa 30 24 29,qm 31 30,
  qt 31 (qf 32 2 2),qt 31 (qN 33 5 32),qt 31 (qf 34 2 3),qt 31 (qN 35 5 34),qt 31 (qx 36 76 [33,35]),qa 37 31 36,qm 38 37,qt 38 (qf 39 9 2),
  qt 38 (ql 40 39),qt 38 (qf 41 9 3),qt 38 (ql 42 41),qt 38 (qo 43 (.call 52 [(.tmp 40), (.tmp 42), (.func 28)])),qa 44 38 43,qm 4 44] [4]
 .ret))⟩)
theorem n28 : F28.n = 45 := rfl
theorem low28 : lowF Tryz.prog (kpO F28) (assoc []) 28 = some F28 := by kernel_rfl
def F76 : FIR := laid (X := ⟨38, [.tmp 4],
 (qS [qB 2 46 0,qB 3 46 1,qz 4 false] [2,3]
 (qS [qf 5 0 2,ql 6 5,qf 7 0 3,ql 8 7,qb 9 .eql 6 8,qm 10 9,qt 10 (qf 11 1 2),qt 10 (ql 12 11),qt 10 (qf 13 1 3),qt 10 (ql 14 13),
  qt 10 (qb 15 .eql 12 14),qa 16 10 15,qm 17 16,qt 17 (qf 18 2 2),qt 17 (ql 19 18),qt 17 (qf 20 2 3),qt 17 (ql 21 20),qt 17 (qb 22 .eql 19 21),
  qa 23 17 22,qm 24 23,qt 24 (qf 25 3 2),qt 24 (ql 26 25),qt 24 (qf 27 3 3),qt 24 (ql 28 27),qt 24 (qb 29 .eql 26 28),qa 30 24 29,qm 31 30,
  qt 31 (qf 32 4 2),qt 31 (ql 33 32),qt 31 (qf 34 4 3),qt 31 (ql 35 34),qt 31 (qo 36 (.call 116 [(.tmp 33), (.tmp 35), (.func 76)])),qa 37 31 36,qm 4 37] [4]
 .ret))⟩)
theorem n76 : F76.n = 38 := rfl
theorem low76 : lowF Tryz.prog (kpO F76) (assoc []) 76 = some F76 := by kernel_rfl
def F51 : FIR := laid (X := ⟨26, [.tmp 4],
 (qS [qz 4 false] [0,1]
 (.seq (qS [qm 6 0,qL 7 6,qm 8 1,qL 9 8,qb 10 .neq 7 9] [0,1,10]
 (qC 10 (qS [qz 4 false] [4]
 .ret)
 .skip))
 (.seq (qS [qm 11 0,qL 12 11,qk 13 0] [0,1,12,13]
 (.block 0 (.loop (qS [qb 14 .lss 13 12] [0,1,12,13,14]
 (.seq (qC 14 .skip
 (.exit 0))
 (.seq (.block 1 (qS [qm 15 13,qm 5 15] [0,1,5,12,13]
 (.seq (qD [qm 16 0,qm 17 5,qi 18 1 16 17,ql 19 18,qm 20 1,qm 21 5,qi 22 1 20 21,ql 23 22,qb 24 .neq 19 23] [[0,1,2,3,4,5,6,7,8]] [0,1,12,13,24])
 (qC 24 (qS [qz 4 false] [4]
 .ret)
 .skip))))
 (.reg [qc 25 .add 13 1,qm 13 25] [0,1,12,13])))))))
 (qS [qz 4 true] [4]
 .ret))))⟩)
theorem n51 : F51.n = 26 := rfl
theorem low51 : lowF Tryz.prog (kpO F51) (assoc [(6,[[0,1,2,3,4,5,6,7,8]])]) 51 = some F51 := by kernel_rfl
def F52 : FIR := laid (X := ⟨32, [.tmp 6],
 (qS [qz 6 false] [0,1,2]
 (.seq (qS [qm 10 0,qL 11 10,qm 12 1,qL 13 12,qb 14 .neq 11 13] [0,1,2,14]
 (qC 14 (qS [qz 6 false] [6]
 .ret)
 .skip))
 (.seq (qS [qm 15 0,qL 16 15,qk 17 0] [1,2,15,16,17]
 (.block 0 (.loop (qS [qb 18 .lss 17 16] [1,2,15,16,17,18]
 (.seq (qC 18 .skip
 (.exit 0))
 (.seq (.block 1 (qS [qm 19 17,qi 20 11 15 17,qN 21 11 20,
  qo 8 (.alloc 48 [(Value.int IntKind.u8 0), (Value.string ⟨#[]⟩), (Value.int IntKind.u8 0), (Value.int IntKind.i64 0), (Value.int IntKind.u64 0), (Value.string ⟨#[]⟩), (Value.slice none 0 0), (Value.slice none 0 0), (Value.slice none 0 0), (Value.slice none 0 0), (Value.int IntKind.i64 0)]),
  qm 7 19,qs 11 8 21] [1,2,7,8,15,16,17]
 (qS [qm 22 1,qm 23 7,qi 24 11 22 23,qN 25 11 24,
  qo 9 (.alloc 48 [(Value.int IntKind.u8 0), (Value.string ⟨#[]⟩), (Value.int IntKind.u8 0), (Value.int IntKind.i64 0), (Value.int IntKind.u64 0), (Value.string ⟨#[]⟩), (Value.slice none 0 0), (Value.slice none 0 0), (Value.slice none 0 0), (Value.slice none 0 0), (Value.int IntKind.i64 0)]),
  qs 11 9 25] [1,2,8,9,15,16,17]
 (qS [qm 26 2,qN 27 11 8,qN 28 11 9,qo 29 (.callv (.tmp 26) [(.tmp 27), (.tmp 28)]),qo 30 (.un .not (.tmp 29))] [1,2,15,16,17,30]
 (qC 30 (qS [qz 6 false] [6]
 .ret)
 .skip)))))
 (.reg [qc 31 .add 17 1,qm 17 31] [1,2,15,16,17])))))))
 (qS [qz 6 true] [6]
 .ret))))⟩)
theorem n52 : F52.n = 32 := rfl
theorem low52 : lowF Tryz.prog (kpO F52) (assoc []) 52 = some F52 := by kernel_rfl
def F116 : FIR := laid (X := ⟨32, [.tmp 6],
 (qS [qz 6 false] [0,1,2]
 (.seq (qS [qm 10 0,qL 11 10,qm 12 1,qL 13 12,qb 14 .neq 11 13] [0,1,2,14]
 (qC 14 (qS [qz 6 false] [6]
 .ret)
 .skip))
 (.seq (qS [qm 15 0,qL 16 15,qk 17 0] [1,2,15,16,17]
 (.block 0 (.loop (qS [qb 18 .lss 17 16] [1,2,15,16,17,18]
 (.seq (qC 18 .skip
 (.exit 0))
 (.seq (.block 1 (qS [qm 19 17,qi 20 5 15 17,qN 21 5 20,
  qo 8 (.alloc 46 [(Value.int IntKind.u8 0), (Value.int IntKind.i64 0), (Value.int IntKind.u64 0), (Value.string ⟨#[]⟩), (Value.slice none 0 0)]),qm 7 19,
  qs 5 8 21] [1,2,7,8,15,16,17]
 (qS [qm 22 1,qm 23 7,qi 24 5 22 23,qN 25 5 24,
  qo 9 (.alloc 46 [(Value.int IntKind.u8 0), (Value.int IntKind.i64 0), (Value.int IntKind.u64 0), (Value.string ⟨#[]⟩), (Value.slice none 0 0)]),
  qs 5 9 25] [1,2,8,9,15,16,17]
 (qS [qm 26 2,qN 27 5 8,qN 28 5 9,qo 29 (.callv (.tmp 26) [(.tmp 27), (.tmp 28)]),qo 30 (.un .not (.tmp 29))] [1,2,15,16,17,30]
 (qC 30 (qS [qz 6 false] [6]
 .ret)
 .skip)))))
 (.reg [qc 31 .add 17 1,qm 17 31] [1,2,15,16,17])))))))
 (qS [qz 6 true] [6]
 .ret))))⟩)
theorem n116 : F116.n = 32 := rfl
theorem low116 : lowF Tryz.prog (kpO F116) (assoc []) 116 = some F116 := by kernel_rfl
def F14 : FIR := laid (X := ⟨38, [.tmp 4],
 (qS [qB 2 25 0,qB 3 25 1,qz 4 false] [2,3]
 (qS [qf 5 0 2,ql 6 5,qf 7 0 3,ql 8 7,qb 9 .eql 6 8,qm 10 9,qt 10 (qf 11 3 2),qt 10 (ql 12 11),qt 10 (qf 13 3 3),qt 10 (ql 14 13),
  qt 10 (qb 15 .eql 12 14),qa 16 10 15,qm 17 16,qt 17 (qf 18 1 2),qt 17 (ql 19 18),qt 17 (qf 20 1 3),qt 17 (ql 21 20),qt 17 (qx 22 51 [19,21]),
  qa 23 17 22,qm 24 23,qt 24 (qf 25 2 2),qt 24 (ql 26 25),qt 24 (qf 27 2 3),qt 24 (ql 28 27),qt 24 (qx 29 51 [26,28]),qa 30 24 29,qm 31 30,
  qt 31 (qf 32 4 2),qt 31 (ql 33 32),qt 31 (qf 34 4 3),qt 31 (ql 35 34),qt 31 (qo 36 (.call 52 [(.tmp 33), (.tmp 35), (.func 28)])),qa 37 31 36,qm 4 37] [4]
 .ret))⟩)
theorem n14 : F14.n = 38 := rfl
theorem low14 : lowF Tryz.prog (kpO F14) (assoc []) 14 = some F14 := by kernel_rfl
def F35 : FIR := laid (X := ⟨44, [.tmp 2],
 (qS [qB 1 25 0,qo 2 (.mv (.const (Value.slice none 0 0)))] [1]
 (qS [qo 3 (.alloc 22 [(Value.slice none 0 0)])] [1,3]
 (qS [qo 8 (.mkmap),qo 4 (.alloc 93 [(Value.map none)]),qs 1 4 8] [1,3,4]
 (.seq (qS [qf 9 4 1,ql 10 9,qL 11 10,qk 12 0] [3,4,10,11,12]
 (.block 0 (.loop (qS [qb 13 .lss 12 11] [3,4,10,11,12,13]
 (.seq (qC 13 .skip
 (.exit 0))
 (.seq (.block 1 (qS [qi 14 11 10 12,qN 15 11 14,
  qo 6 (.alloc 48 [(Value.int IntKind.u8 0), (Value.string ⟨#[]⟩), (Value.int IntKind.u8 0), (Value.int IntKind.i64 0), (Value.int IntKind.u64 0), (Value.string ⟨#[]⟩), (Value.slice none 0 0), (Value.slice none 0 0), (Value.slice none 0 0), (Value.slice none 0 0), (Value.int IntKind.i64 0)]),
  qs 11 6 15] [3,4,6,10,11,12]
 (qS [qN 16 11 6,qx 17 39 [16]] [3,4,10,11,12,17]
 (.block 2 (.rangef (.tmp 17) [18] (.reg [qo 7 (.alloc 48 [(Value.int IntKind.u8 0), (Value.string ⟨#[]⟩), (Value.int IntKind.u8 0), (Value.int IntKind.i64 0), (Value.int IntKind.u64 0), (Value.string ⟨#[]⟩), (Value.slice none 0 0), (Value.slice none 0 0), (Value.slice none 0 0), (Value.slice none 0 0), (Value.int IntKind.i64 0)]),
  qs 11 7 18] [3,4,7])
 (.block 3 (.seq (qS [qf 19 0 7,ql 20 19,qo 21 (.bin .neq (.tmp 20) (.const (Value.int IntKind.u8 4))),qm 22 21,qt 22 (qf 23 0 7),qt 22 (ql 24 23),
  qt 22 (qo 25 (.bin .neq (.tmp 24) (.const (Value.int IntKind.u8 6)))),qa 26 22 25] [3,4,7,26]
 (qC 26 (.exit 3)
 .skip))
 (qS [ql 27 4,qf 28 1 7,ql 29 28,qo 30 (.lookup .str (Value.int IntKind.i64 0) false (.tmp 27) (.tmp 29)),qc 31 .add 30 1,
  ⟨none,none,.mapupd .str (.tmp 27) (.tmp 29) (.tmp 31)⟩] [3,4,7]
 (qS [ql 32 4,qf 33 1 7,ql 34 33,qo 35 (.lookup .str (Value.int IntKind.i64 0) false (.tmp 32) (.tmp 34)),qc 36 .eql 35 1] [3,7,36]
 (qC 36 (.reg [ql 37 3,qf 38 1 7,ql 39 38,qo 40 (.bslice 9 1 [(Value.string ⟨#[]⟩)] [(0, 1, (.tmp 39))]),
  qo 41 (.append 9 1 16 [(Value.string ⟨#[]⟩)] (.tmp 37) (.tmp 40)),qs 1 3 41] [])
 .skip))))))))))
 (.reg [qc 42 .add 12 1,qm 12 42] [3,4,10,11,12])))))))
 (qS [ql 43 3,qm 2 43] [2]
 .ret)))))⟩)
theorem n35 : F35.n = 44 := rfl
theorem low35 : lowF Tryz.prog (kpO F35) (assoc []) 35 = some F35 := by kernel_rfl
def F53 : FIR := laid (X := ⟨8, [.tmp 2],
 (qS [qo 2 (.mv (.const (Value.slice none 0 0)))] [0]
 (.seq (qS [qm 3 0,qo 4 (.eqnil false .slice (.tmp 3))] [0,4]
 (qC 4 (qS [qo 2 (.mv (.const (Value.slice none 0 0)))] [2]
 .ret)
 .skip))
 (qS [qo 5 (.bslice 9 0 [(Value.string ⟨#[]⟩)] []),qm 6 0,qo 7 (.append 9 1 16 [(Value.string ⟨#[]⟩)] (.tmp 5) (.tmp 6)),qm 2 7] [2]
 .ret)))⟩)
theorem n53 : F53.n = 8 := rfl
theorem low53 : lowF Tryz.prog (kpO F53) (assoc []) 53 = some F53 := by kernel_rfl
def F70 : FIR := laid (X := ⟨48, [.tmp 6],
 (qS [qB 3 48 0,qk 6 0] [1,2,3]
 (qS [qf 8 2 3,qN 9 5 8,qm 10 1,qc 11 .add 10 1,qf 12 1 3,ql 13 12,qo 14 (.lenS (.tmp 13)),qb 15 .add 11 14,
  qo 16 (.call 111 [(.tmp 9), (.tmp 15), (.const (Value.int IntKind.i64 0))]),qm 1 16] [1,2,3]
 (qS [qf 17 7 3,ql 18 17,qm 19 1,qx 20 86 [18,19],qm 1 20] [1,2,3]
 (qS [qf 21 8 3,ql 22 21,qm 23 1,qx 24 86 [22,23],qm 1 24] [1,2,3]
 (.seq (qS [qm 25 2,qc 26 .gtr 25 60000] [1,2,3,26]
 (qC 26 (qS [qk 6 262145] [6]
 .ret)
 .skip))
 (.seq (qS [qk 7 0] [1,2,3,7]
 (.block 0 (.loop (.seq (qS [qm 27 7,qf 28 9 3,ql 29 28,qL 30 29,qb 31 .lss 27 30,qm 32 31,qt 32 (qm 33 1),qt 32 (qc 34 .leq 33 262144),qa 35 32 34] [1,2,3,7,35]
 (qC 35 .skip
 (.exit 0)))
 (.seq (.block 1 (.reg [qf 38 9 3,ql 39 38,qm 40 7,qi 41 11 39 40,qN 42 11 41,qm 43 1,qm 44 2,qc 45 .add 44 1,qx 46 70 [42,43,45],qm 1 46] [1,2,3,7]))
 (.reg [qm 36 7,qc 37 .add 36 1,qm 7 37] [1,2,3,7]))))))
 (qS [qm 47 1,qm 6 47] [6]
 .ret)))))))⟩)
theorem n70 : F70.n = 48 := rfl
theorem low70 : lowF Tryz.prog (kpO F70) (assoc []) 70 = some F70 := by kernel_rfl
def F111 : FIR := laid (X := ⟨37, [.tmp 6],
 (qS [qB 3 46 0,qk 6 0] [1,2,3]
 (qS [qm 8 1,qc 9 .add 8 1,qf 10 3 3,ql 11 10,qo 12 (.lenS (.tmp 11)),qb 13 .add 9 12,qm 1 13] [1,2,3]
 (.seq (qS [qm 14 2,qc 15 .gtr 14 60000] [1,2,3,15]
 (qC 15 (qS [qk 6 262145] [6]
 .ret)
 .skip))
 (.seq (qS [qk 7 0] [1,2,3,7]
 (.block 0 (.loop (.seq (qS [qm 16 7,qf 17 4 3,ql 18 17,qL 19 18,qb 20 .lss 16 19,qm 21 20,qt 21 (qm 22 1),qt 21 (qc 23 .leq 22 262144),qa 24 21 23] [1,2,3,7,24]
 (qC 24 .skip
 (.exit 0)))
 (.seq (.block 1 (.reg [qf 27 4 3,ql 28 27,qm 29 7,qi 30 5 28 29,qN 31 5 30,qm 32 1,qm 33 2,qc 34 .add 33 1,qx 35 111 [31,32,34],qm 1 35] [1,2,3,7]))
 (.reg [qm 25 7,qc 26 .add 25 1,qm 7 26] [1,2,3,7]))))))
 (qS [qm 36 1,qm 6 36] [6]
 .ret)))))⟩)
theorem n111 : F111.n = 37 := rfl
theorem low111 : lowF Tryz.prog (kpO F111) (assoc []) 111 = some F111 := by kernel_rfl
def F86 : FIR := laid (X := ⟨25, [.tmp 4],
 (qS [qk 4 0] [0,1]
 (.seq (qS [qk 5 0] [0,1,5]
 (.block 0 (.loop (.seq (qS [qm 6 5,qm 7 0,qL 8 7,qb 9 .lss 6 8,qm 10 9,qt 10 (qm 11 1),qt 10 (qc 12 .leq 11 262144),qa 13 10 12] [0,1,5,13]
 (qC 13 .skip
 (.exit 0)))
 (.seq (.block 1 (.reg [qm 16 1,qc 17 .add 16 1,qm 18 0,qm 19 5,qi 20 1 18 19,ql 21 20,qo 22 (.lenS (.tmp 21)),qb 23 .add 17 22,qm 1 23] [0,1,5]))
 (.reg [qm 14 5,qc 15 .add 14 1,qm 5 15] [0,1,5]))))))
 (qS [qm 24 1,qm 4 24] [4]
 .ret)))⟩)
theorem n86 : F86.n = 25 := rfl
theorem low86 : lowF Tryz.prog (kpO F86) (assoc []) 86 = some F86 := by kernel_rfl
def F10 : FIR := laid (X := ⟨111, [.tmp 0],
 (qS [qz 0 false] []
 (qS [qx 14 42 [],
  qo 1 (.alloc 48 [(Value.int IntKind.u8 0), (Value.string ⟨#[]⟩), (Value.int IntKind.u8 0), (Value.int IntKind.i64 0), (Value.int IntKind.u64 0), (Value.string ⟨#[]⟩), (Value.slice none 0 0), (Value.slice none 0 0), (Value.slice none 0 0), (Value.slice none 0 0), (Value.int IntKind.i64 0)]),
  qs 11 1 14] [1]
 (qS [qN 15 11 1,qx 16 25 [15],qm 2 16] [1,2]
 (qS [qN 17 11 1,qx 18 26 [17],qm 3 18] [1,2,3]
 (qS [qN 19 11 1,qx 20 27 [19],qm 4 20] [1,2,3,4]
 (qS [qN 21 11 1,qx 22 24 [21],qm 5 22] [1,2,3,4,5]
 (qS [qo 23 (.build [(Value.int IntKind.u8 0), (Value.string ⟨#[]⟩), (Value.int IntKind.u8 0), (Value.int IntKind.i64 0), (Value.int IntKind.u64 0), (Value.string ⟨#[]⟩), (Value.slice none 0 0), (Value.slice none 0 0), (Value.slice none 0 0), (Value.slice none 0 0), (Value.int IntKind.i64 0)] [(0, 1, (.const (Value.int IntKind.u8 2))), (1, 1, (.const (Value.string ⟨#[115, 117, 112, 101, 114]⟩)))]),
  qx 24 24 [23],qm 6 24] [1,2,3,4,5,6]
 (qS [qN 25 11 1,
  qo 26 (.bslice 48 1 [(Value.int IntKind.u8 0), (Value.string ⟨#[]⟩), (Value.int IntKind.u8 0), (Value.int IntKind.i64 0), (Value.int IntKind.u64 0), (Value.string ⟨#[]⟩), (Value.slice none 0 0), (Value.slice none 0 0), (Value.slice none 0 0), (Value.slice none 0 0), (Value.int IntKind.i64 0)] [(0, 11, (.tmp 25))]),
  qo 27 (.build [(Value.string ⟨#[]⟩), (Value.slice none 0 0), (Value.slice none 0 0), (Value.int IntKind.i64 0), (Value.slice none 0 0)] [(0, 1, (.const (Value.string ⟨#[120]⟩))), (4, 1, (.tmp 26))]),
  qo 7 (.alloc 25 [(Value.string ⟨#[]⟩), (Value.slice none 0 0), (Value.slice none 0 0), (Value.int IntKind.i64 0), (Value.slice none 0 0)]),qs 5 7 27] [1,2,3,4,5,6,7]
 (qS [qN 28 5 7,qx 29 13 [28],qm 8 29] [1,2,3,4,5,6,7,8]
 (qS [qo 30 (.build [(Value.string ⟨#[]⟩), (Value.slice none 0 0), (Value.slice none 0 0), (Value.int IntKind.i64 0), (Value.slice none 0 0)] [(0, 1, (.const (Value.string ⟨#[120, 58]⟩)))]),
  qx 31 13 [30],qm 9 31] [1,2,3,4,5,6,7,8,9]
 (qS [qN 32 5 7,qx 33 35 [32],qm 10 33] [1,2,3,4,5,6,7,8,9,10]
 (qS [qN 34 5 7,qx 35 15 [34],
  qo 11 (.alloc 25 [(Value.string ⟨#[]⟩), (Value.slice none 0 0), (Value.slice none 0 0), (Value.int IntKind.i64 0), (Value.slice none 0 0)]),qs 5 11 35] [1,2,3,4,5,6,7,8,9,10,11]
 (qS [qN 36 5 7,qN 37 5 11,qx 38 14 [36,37],qm 12 38] [1,2,3,4,5,6,8,9,10,11,12]
 (qS [qN 39 11 1,qN 40 11 1,qx 41 28 [39,40],qm 13 41] [2,3,4,5,6,8,9,10,11,12,13]
 (qS [qm 42 2,qc 43 .eql 42 4,qm 44 43,qt 44 (qm 45 3),qt 44 (qc 46 .eql 45 1),qa 47 44 46,qm 48 47,qt 48 (qm 49 4),
  qt 48 (qc 50 .eql 49 5),qa 51 48 50,qm 52 51,qt 52 (qm 53 5),qt 52 (qc 54 .eql 53 0),qa 55 52 54,qm 56 55,qt 56 (qm 57 6),qt 56 (qc 58 .eql 57 150),
  qa 59 56 58,qm 60 59,qt 60 (qm 61 8),qt 60 (qc 62 .eql 61 0),qa 63 60 62,qm 64 63,qt 64 (qm 65 9),qt 64 (qc 66 .eql 65 150),qa 67 64 66,qm 68 67,
  qt 68 (qm 69 10),qt 68 (qL 70 69),qt 68 (qc 71 .eql 70 2),qa 72 68 71,qm 73 72,qt 73 (qm 74 10),
  qt 73 (qo 75 (.idxL 1 (.tmp 74) (.const (Value.int IntKind.i64 0)))),qt 73 (ql 76 75),
  qt 73 (qo 77 (.bin .eql (.tmp 76) (.const (Value.string ⟨#[43]⟩)))),qa 78 73 77,qm 79 78,qt 79 (qm 80 12),qa 81 79 80,qm 82 81,qt 82 (qm 83 13),
  qa 84 82 83,qm 85 84,qt 85 (qf 86 4 11),qt 85 (ql 87 86),qt 85 (qL 88 87),qt 85 (qc 89 .eql 88 1),qa 90 85 89,qm 91 90,qt 91 (qf 92 4 11),
  qt 91 (ql 93 92),qt 91 (qo 94 (.idxL 11 (.tmp 93) (.const (Value.int IntKind.i64 0)))),qt 91 (qf 95 9 94),qt 91 (ql 96 95),qt 91 (qL 97 96),
  qt 91 (qc 98 .eql 97 2),qa 99 91 98,qm 100 99,qt 100 (qf 101 4 11),qt 100 (ql 102 101),
  qt 100 (qo 103 (.idxL 11 (.tmp 102) (.const (Value.int IntKind.i64 0)))),qt 100 (qf 104 9 103),qt 100 (ql 105 104),
  qt 100 (qo 106 (.idxL 11 (.tmp 105) (.const (Value.int IntKind.i64 1)))),qt 100 (qf 107 10 106),qt 100 (ql 108 107),qt 100 (qc 109 .eql 108 0),
  qa 110 100 109,qm 0 110] [0]
 .ret)))))))))))))))⟩)
theorem n10 : F10.n = 111 := rfl
theorem low10 : lowF Tryz.prog (kpO F10) (assoc []) 10 = some F10 := by kernel_rfl
def F117 : FIR := laid (X := ⟨62, [.tmp 4],
 (qS [qB 2 46 0,qB 3 46 1,qz 4 false] [2,3]
 (.seq (qS [qf 7 0 2,ql 8 7,qf 9 0 3,ql 10 9,qb 11 .neq 8 10,qm 12 11,qu 12 (qf 13 1 2),qu 12 (ql 14 13),qu 12 (qf 15 1 3),qu 12 (ql 16 15),
  qu 12 (qb 17 .neq 14 16),qr 18 12 17,qm 19 18,qu 19 (qf 20 2 2),qu 19 (ql 21 20),qu 19 (qf 22 2 3),qu 19 (ql 23 22),qu 19 (qb 24 .neq 21 23),
  qr 25 19 24,qm 26 25,qu 26 (qf 27 3 2),qu 26 (ql 28 27),qu 26 (qf 29 3 3),qu 26 (ql 30 29),qu 26 (qb 31 .neq 28 30),qr 32 26 31,qm 33 32,
  qu 33 (qf 34 4 2),qu 33 (ql 35 34),qu 33 (qL 36 35),qu 33 (qf 37 4 3),qu 33 (ql 38 37),qu 33 (qL 39 38),qu 33 (qb 40 .neq 36 39),qr 41 33 40] [2,3,41]
 (qC 41 (qS [qz 4 false] [4]
 .ret)
 .skip))
 (.seq (qS [qk 5 0] [2,3,5]
 (.block 0 (.loop (.seq (qS [qm 42 5,qf 43 4 2,ql 44 43,qL 45 44,qb 46 .lss 42 45] [2,3,5,46]
 (qC 46 .skip
 (.exit 0)))
 (.seq (.block 1 (.seq (qD [qf 49 4 2,ql 50 49,qm 51 5,qi 52 5 50 51,qN 53 5 52,qf 54 4 3,ql 55 54,qm 56 5,qi 57 5 55 56,qN 58 5 57,qx 59 117 [53,58],qm 6 59] [[0,1,2,3,4,5,6,7,8,9,10,11]] [2,3,5,6])
 (qS [qm 60 6,qo 61 (.un .not (.tmp 60))] [2,3,5,61]
 (qC 61 (qS [qz 4 false] [4]
 .ret)
 .skip))))
 (.reg [qm 47 5,qc 48 .add 47 1,qm 5 48] [2,3,5]))))))
 (qS [qz 4 true] [4]
 .ret))))⟩)
theorem n117 : F117.n = 62 := rfl
theorem low117 : lowF Tryz.prog (kpO F117) (assoc [(6,[[0,1,2,3,4,5,6,7,8,9,10,11]])]) 117 = some F117 := by kernel_rfl
def F37 : FIR := laid (X := ⟨26, [.tmp 4],
 (qS [qz 4 false] [0,1]
 (.seq (qS [qm 6 0,qL 7 6,qm 8 1,qL 9 8,qb 10 .neq 7 9] [0,1,10]
 (qC 10 (qS [qz 4 false] [4]
 .ret)
 .skip))
 (.seq (qS [qk 5 0] [0,1,5]
 (.block 0 (.loop (.seq (qS [qm 11 5,qm 12 0,qL 13 12,qb 14 .lss 11 13] [0,1,5,14]
 (qC 14 .skip
 (.exit 0)))
 (.seq (.block 1 (.seq (qD [qm 17 0,qm 18 5,qi 19 1 17 18,ql 20 19,qm 21 1,qm 22 5,qi 23 1 21 22,ql 24 23,qb 25 .neq 20 24] [[0,1,2,3,4,5,6,7,8]] [0,1,5,25])
 (qC 25 (qS [qz 4 false] [4]
 .ret)
 .skip)))
 (.reg [qm 15 5,qc 16 .add 15 1,qm 5 16] [0,1,5]))))))
 (qS [qz 4 true] [4]
 .ret))))⟩)
theorem n37 : F37.n = 26 := rfl
theorem low37 : lowF Tryz.prog (kpO F37) (assoc [(6,[[0,1,2,3,4,5,6,7,8]])]) 37 = some F37 := by kernel_rfl
def F77 : FIR := laid (X := ⟨53, [.tmp 4],
 (qS [qB 2 48 0,qB 3 48 1,qz 4 false] [2,3]
 (qS [qf 8 2 2,qN 9 5 8,qf 10 2 3,qN 11 5 10,qx 12 117 [9,11],qm 5 12] [2,3,5]
 (qS [qf 13 7 2,ql 14 13,qf 15 7 3,ql 16 15,qx 17 37 [14,16],qm 6 17] [2,3,5,6]
 (qS [qf 18 8 2,ql 19 18,qf 20 8 3,ql 21 20,qx 22 37 [19,21],qm 7 22] [2,3,5,6,7]
 (qS [qm 23 5,qm 24 23,qt 24 (qm 25 6),qa 26 24 25,qm 27 26,qt 27 (qm 28 7),qa 29 27 28,qm 30 29,qt 30 (qf 31 0 2),qt 30 (ql 32 31),
  qt 30 (qf 33 0 3),qt 30 (ql 34 33),qt 30 (qb 35 .eql 32 34),qa 36 30 35,qm 37 36,qt 37 (qf 38 1 2),qt 37 (ql 39 38),qt 37 (qf 40 1 3),qt 37 (ql 41 40),
  qt 37 (qb 42 .eql 39 41),qa 43 37 42,qm 44 43,qt 44 (qf 45 9 2),qt 44 (ql 46 45),qt 44 (qL 47 46),qt 44 (qf 48 9 3),qt 44 (ql 49 48),qt 44 (qL 50 49),
  qt 44 (qb 51 .eql 47 50),qa 52 44 51,qm 4 52] [4]
 .ret)))))⟩)
theorem n77 : F77.n = 53 := rfl
theorem low77 : lowF Tryz.prog (kpO F77) (assoc []) 77 = some F77 := by kernel_rfl
def F30 : FIR := laid (X := ⟨32, [.tmp 4],
 (qS [qB 2 48 0,qB 3 48 1,qz 4 false] [2,3]
 (qS [qN 7 11 2,qN 8 11 3,qx 9 77 [7,8],qm 5 9] [2,3,5]
 (.seq (qS [qk 6 0] [2,3,5,6]
 (.block 0 (.loop (.seq (qS [qm 10 6,qf 11 9 2,ql 12 11,qL 13 12,qb 14 .lss 10 13,qm 15 14,qt 15 (qm 16 5),qa 17 15 16] [2,3,5,6,17]
 (qC 17 .skip
 (.exit 0)))
 (.seq (.block 1 (qD [qf 20 9 2,ql 21 20,qm 22 6,qi 23 11 21 22,qN 24 11 23,qf 25 9 3,ql 26 25,qm 27 6,qi 28 11 26 27,qN 29 11 28,qx 30 30 [24,29],
  qm 5 30] [[0,1,2,3,4,5,6,7,8,9,10,11]] [2,3,5,6]))
 (.reg [qm 18 6,qc 19 .add 18 1,qm 6 19] [2,3,5,6]))))))
 (qS [qm 31 5,qm 4 31] [4]
 .ret))))⟩)
theorem n30 : F30.n = 32 := rfl
theorem low30 : lowF Tryz.prog (kpO F30) (assoc [(5,[[0,1,2,3,4,5,6,7,8,9,10,11]])]) 30 = some F30 := by kernel_rfl
def F40 : FIR := laid (X := ⟨40, [.tmp 4],
 (qS [qB 2 48 0,qB 3 48 1,qz 4 false] [2,3]
 (qS [qN 8 11 2,qN 9 11 3,qx 10 77 [8,9],qm 5 10] [2,3,5]
 (.seq (qS [qm 11 5,qo 12 (.un .not (.tmp 11)),qm 13 12,qu 13 (qf 14 10 2),qu 13 (ql 15 14),qu 13 (qf 16 10 3),qu 13 (ql 17 16),
  qu 13 (qb 18 .neq 15 17),qr 19 13 18] [2,3,19]
 (qC 19 (qS [qz 4 false] [4]
 .ret)
 .skip))
 (.seq (qS [qk 6 0] [2,3,6]
 (.block 0 (.loop (.seq (qS [qm 20 6,qf 21 9 2,ql 22 21,qL 23 22,qb 24 .lss 20 23] [2,3,6,24]
 (qC 24 .skip
 (.exit 0)))
 (.seq (.block 1 (.seq (qD [qf 27 9 2,ql 28 27,qm 29 6,qi 30 11 28 29,qN 31 11 30,qf 32 9 3,ql 33 32,qm 34 6,qi 35 11 33 34,qN 36 11 35,qx 37 40 [31,36],
  qm 7 37] [[0,1,2,3,4,5,6,7,8,9,10,11]] [2,3,6,7])
 (qS [qm 38 7,qo 39 (.un .not (.tmp 38))] [2,3,6,39]
 (qC 39 (qS [qz 4 false] [4]
 .ret)
 .skip))))
 (.reg [qm 25 6,qc 26 .add 25 1,qm 6 26] [2,3,6]))))))
 (qS [qz 4 true] [4]
 .ret)))))⟩)
theorem n40 : F40.n = 40 := rfl
theorem low40 : lowF Tryz.prog (kpO F40) (assoc [(7,[[0,1,2,3,4,5,6,7,8,9,10,11]])]) 40 = some F40 := by kernel_rfl
def F18 : FIR := laid (X := ⟨82, [.tmp 6],
 (qS [qB 3 25 0,qB 4 25 1,qz 6 false] [2,3,4]
 (qS [qf 11 1 3,ql 12 11,qf 13 1 4,ql 14 13,qx 15 37 [12,14],qm 7 15] [2,3,4,7]
 (qS [qf 16 2 3,ql 17 16,qf 18 2 4,ql 19 18,qx 20 37 [17,19],qm 8 20] [2,3,4,7,8]
 (.seq (qS [qm 21 7,qo 22 (.un .not (.tmp 21)),qm 23 22,qu 23 (qm 24 8),qu 23 (qo 25 (.un .not (.tmp 24))),qr 26 23 25,qm 27 26,
  qu 27 (qf 28 0 3),qu 27 (ql 29 28),qu 27 (qf 30 0 4),qu 27 (ql 31 30),qu 27 (qb 32 .neq 29 31),qr 33 27 32,qm 34 33,qu 34 (qf 35 3 3),qu 34 (ql 36 35),
  qu 34 (qf 37 3 4),qu 34 (ql 38 37),qu 34 (qb 39 .neq 36 38),qr 40 34 39,qm 41 40,qu 41 (qf 42 4 3),qu 41 (ql 43 42),qu 41 (qL 44 43),qu 41 (qf 45 4 4),
  qu 41 (ql 46 45),qu 41 (qL 47 46),qu 41 (qb 48 .neq 44 47),qr 49 41 48] [2,3,4,49]
 (qC 49 (qS [qz 6 false] [6]
 .ret)
 .skip))
 (.seq (qS [qk 9 0] [2,3,4,9]
 (.block 0 (.loop (.seq (qS [qm 50 9,qf 51 4 3,ql 52 51,qL 53 52,qb 54 .lss 50 53] [2,3,4,9,54]
 (qC 54 .skip
 (.exit 0)))
 (.seq (.block 1 (.seq (qD [qf 57 4 3,ql 58 57,qm 59 9,qi 60 11 58 59,qN 61 11 60,qf 62 4 4,ql 63 62,qm 64 9,qi 65 11 63 64,qN 66 11 65,qx 67 30 [61,66],
  qm 10 67] [[0,1,2,3,4,5,6,7,8,9,10,11]] [2,3,4,9,10])
 (.seq (qS [qm 68 2] [2,3,4,9,10,68]
 (qC 68 (qD [qf 69 4 3,ql 70 69,qm 71 9,qi 72 11 70 71,qN 73 11 72,qf 74 4 4,ql 75 74,qm 76 9,qi 77 11 75 76,qN 78 11 77,qx 79 40 [73,78],
  qm 10 79] [[0,1,2,3,4,5,6,7,8,9,10,11]] [2,3,4,9,10])
 .skip))
 (qS [qm 80 10,qo 81 (.un .not (.tmp 80))] [2,3,4,9,81]
 (qC 81 (qS [qz 6 false] [6]
 .ret)
 .skip)))))
 (.reg [qm 55 9,qc 56 .add 55 1,qm 9 56] [2,3,4,9]))))))
 (qS [qz 6 true] [6]
 .ret))))))⟩)
theorem n18 : F18.n = 82 := rfl
theorem low18 : lowF Tryz.prog (kpO F18) (assoc [(8,[[0,1,2,3,4,5,6,7,8,9,10,11]]), (10,[[0,1,2,3,4,5,6,7,8,9,10,11]])]) 18 = some F18 := by kernel_rfl
def F43 : FIR := laid (X := ⟨34, [.tmp 2],
 (qS [qB 1 25 0,qk 2 0] [1]
 (qS [qf 5 1 1,ql 6 5,qf 7 0 1,ql 8 7,qo 9 (.lenS (.tmp 8)),qx 10 86 [6,9],qm 3 10] [1,3]
 (qS [qf 11 2 1,ql 12 11,qm 13 3,qx 14 86 [12,13],qm 3 14] [1,3]
 (.seq (qS [qk 4 0] [1,3,4]
 (.block 0 (.loop (.seq (qS [qm 15 4,qf 16 4 1,ql 17 16,qL 18 17,qb 19 .lss 15 18,qm 20 19,qt 20 (qm 21 3),qt 20 (qc 22 .leq 21 262144),qa 23 20 22] [1,3,4,23]
 (qC 23 .skip
 (.exit 0)))
 (.seq (.block 1 (.reg [qf 26 4 1,ql 27 26,qm 28 4,qi 29 11 27 28,qN 30 11 29,qm 31 3,
  qo 32 (.call 70 [(.tmp 30), (.tmp 31), (.const (Value.int IntKind.i64 0))]),qm 3 32] [1,3,4]))
 (.reg [qm 24 4,qc 25 .add 24 1,qm 4 25] [1,3,4]))))))
 (qS [qm 33 3,qm 2 33] [2]
 .ret)))))⟩)
theorem n43 : F43.n = 34 := rfl
theorem low43 : lowF Tryz.prog (kpO F43) (assoc []) 43 = some F43 := by kernel_rfl
def F11 : FIR := laid (X := ⟨6, [.tmp 2],
 (qS [qB 1 25 0,qz 2 false] [1]
 (qS [qN 3 5 1,qx 4 43 [3],qc 5 .gtr 4 262144,qm 2 5] [2]
 .ret))⟩)
theorem n11 : F11.n = 6 := rfl
theorem low11 : lowF Tryz.prog (kpO F11) (assoc []) 11 = some F11 := by kernel_rfl
def F31 : FIR := laid (X := ⟨5, [.tmp 2],
 (qS [qB 1 48 0,qo 2 (.mv (.const (Value.slice none 0 0)))] [1]
 (qS [qN 3 11 1,qo 4 (.call 78 [(.const (Value.slice none 0 0)), (.tmp 3)]),qm 2 4] [2]
 .ret))⟩)
theorem n31 : F31.n = 5 := rfl
theorem low31 : lowF Tryz.prog (kpO F31) (assoc []) 31 = some F31 := by kernel_rfl
def F78 : FIR := laid (X := ⟨25, [.tmp 4],
 (qS [qB 3 48 1,qo 4 (.mv (.const (Value.slice none 0 0)))] [0,3]
 (qS [qm 6 0,qN 7 11 3,
  qo 8 (.bslice 48 1 [(Value.int IntKind.u8 0), (Value.string ⟨#[]⟩), (Value.int IntKind.u8 0), (Value.int IntKind.i64 0), (Value.int IntKind.u64 0), (Value.string ⟨#[]⟩), (Value.slice none 0 0), (Value.slice none 0 0), (Value.slice none 0 0), (Value.slice none 0 0), (Value.int IntKind.i64 0)] [(0, 11, (.tmp 7))]),
  qo 9 (.append 48 11 168 [(Value.int IntKind.u8 0), (Value.string ⟨#[]⟩), (Value.int IntKind.u8 0), (Value.int IntKind.i64 0), (Value.int IntKind.u64 0), (Value.string ⟨#[]⟩), (Value.slice none 0 0), (Value.slice none 0 0), (Value.slice none 0 0), (Value.slice none 0 0), (Value.int IntKind.i64 0)] (.tmp 6) (.tmp 8)),
  qm 0 9] [0,3]
 (.seq (qS [qk 5 0] [0,3,5]
 (.block 0 (.loop (.seq (qS [qm 10 5,qf 11 9 3,ql 12 11,qL 13 12,qb 14 .lss 10 13] [0,3,5,14]
 (qC 14 .skip
 (.exit 0)))
 (.seq (.block 1 (.reg [qm 17 0,qf 18 9 3,ql 19 18,qm 20 5,qi 21 11 19 20,qN 22 11 21,qx 23 78 [17,22],qm 0 23] [0,3,5]))
 (.reg [qm 15 5,qc 16 .add 15 1,qm 5 16] [0,3,5]))))))
 (qS [qm 24 0,qm 4 24] [4]
 .ret))))⟩)
theorem n78 : F78.n = 25 := rfl
theorem low78 : lowF Tryz.prog (kpO F78) (assoc []) 78 = some F78 := by kernel_rfl
def F44 : FIR := laid (X := ⟨35, [.tmp 2],
 (qS [qo 2 (.mv (.const (Value.slice none 0 0)))] [0]
 (qS [qm 5 0,qL 6 5,qc 7 .add 6 2,qo 8 (.mkslice 9 1 16 [(Value.string ⟨#[]⟩)] (.tmp 7) (.tmp 7)),qm 3 8] [0,3]
 (.seq (qS [qk 4 0] [0,3,4]
 (.block 0 (.loop (.seq (qS [qm 9 4,qm 10 0,qL 11 10,qb 12 .lss 9 11] [0,3,4,12]
 (qC 12 .skip
 (.exit 0)))
 (.seq (.block 1 (.reg [qm 15 3,qm 16 4,qm 17 0,qm 18 4,qi 19 1 17 18,ql 20 19,qi 21 1 15 16,qs 1 21 20] [0,3,4]))
 (.reg [qm 13 4,qc 14 .add 13 1,qm 4 14] [0,3,4]))))))
 (qS [qm 22 3,qm 23 0,qL 24 23,qi 25 1 22 24,⟨none,none,.store 1 (.tmp 25) (.const (Value.string ⟨#[114, 111, 111, 109]⟩))⟩] [0,3]
 (qS [qm 26 3,qm 27 0,qL 28 27,qc 29 .add 28 1,qi 30 1 26 29,
  ⟨none,none,.store 1 (.tmp 30) (.const (Value.string ⟨#[109, 111, 114, 101]⟩))⟩] [0,3]
 (qS [qm 31 3,qm 32 0,qL 33 32,qo 34 (.slcL 1 (.tmp 31) none (some (.tmp 33)) none),qm 2 34] [2]
 .ret))))))⟩)
theorem n44 : F44.n = 35 := rfl
theorem low44 : lowF Tryz.prog (kpO F44) (assoc []) 44 = some F44 := by kernel_rfl
def F56 : FIR := laid (X := ⟨24, [.tmp 2],
 (qS [qz 2 false] [0]
 (qS [qm 4 0,qm 5 0,qL 6 5,qc 7 .add 6 2,qo 8 (.slcL 1 (.tmp 4) none (some (.tmp 7)) none),qm 3 8] [0,3]
 (qS [qm 9 3,qm 10 0,qL 11 10,qi 12 1 9 11,ql 13 12,qo 14 (.bin .eql (.tmp 13) (.const (Value.string ⟨#[114, 111, 111, 109]⟩))),qm 15 14,
  qt 15 (qm 16 3),qt 15 (qm 17 0),qt 15 (qL 18 17),qt 15 (qc 19 .add 18 1),qt 15 (qi 20 1 16 19),qt 15 (ql 21 20),
  qt 15 (qo 22 (.bin .eql (.tmp 21) (.const (Value.string ⟨#[109, 111, 114, 101]⟩)))),qa 23 15 22,qm 2 23] [2]
 .ret)))⟩)
theorem n56 : F56.n = 24 := rfl
theorem low56 : lowF Tryz.prog (kpO F56) (assoc []) 56 = some F56 := by kernel_rfl
def F71 : FIR := laid (X := ⟨39, [.cellN 2 5],
 (qS [qB 1 46 0,
  qo 2 (.alloc 46 [(Value.int IntKind.u8 0), (Value.int IntKind.i64 0), (Value.int IntKind.u64 0), (Value.string ⟨#[]⟩), (Value.slice none 0 0)])] [1,2]
 (qS [qf 5 4 1,ql 6 5,qL 7 6,qc 8 .add 7 1,
  qo 9 (.mkslice 46 5 64 [(Value.int IntKind.u8 0), (Value.int IntKind.i64 0), (Value.int IntKind.u64 0), (Value.string ⟨#[]⟩), (Value.slice none 0 0)] (.tmp 8) (.tmp 8)),
  qm 3 9] [1,2,3]
 (.seq (qS [qk 4 0] [1,2,3,4]
 (.block 0 (.loop (.seq (qS [qm 10 4,qf 11 4 1,ql 12 11,qL 13 12,qb 14 .lss 10 13] [1,2,3,4,14]
 (qC 14 .skip
 (.exit 0)))
 (.seq (.block 1 (.reg [qm 17 3,qm 18 4,qf 19 4 1,ql 20 19,qm 21 4,qi 22 5 20 21,qN 23 5 22,qx 24 71 [23],qi 25 5 17 18,qs 5 25 24] [1,2,3,4]))
 (.reg [qm 15 4,qc 16 .add 15 1,qm 4 16] [1,2,3,4]))))))
 (qS [qm 26 3,qf 27 4 1,ql 28 27,qL 29 28,qi 30 5 26 29,qf 31 1 30,⟨none,none,.store 1 (.tmp 31) (.const (Value.int IntKind.i64 (-771)))⟩] [1,2,3]
 (qS [qm 32 3,qf 33 4 1,ql 34 33,qL 35 34,qo 36 (.slcL 5 (.tmp 32) none (some (.tmp 35)) none),qf 37 4 1,qs 1 37 36] [1,2]
 (qS [qN 38 5 1,qs 5 2 38] [2]
 .ret))))))⟩)
theorem n71 : F71.n = 39 := rfl
theorem low71 : lowF Tryz.prog (kpO F71) (assoc []) 71 = some F71 := by kernel_rfl
def F98 : FIR := laid (X := ⟨38, [.tmp 2],
 (qS [qB 1 46 0,qz 2 false] [1]
 (qS [qf 6 4 1,ql 7 6,qf 8 4 1,ql 9 8,qL 10 9,qc 11 .add 10 1,qo 12 (.slcL 5 (.tmp 7) none (some (.tmp 11)) none),qm 3 12] [1,3]
 (qS [qm 13 3,qf 14 4 1,ql 15 14,qL 16 15,qi 17 5 13 16,qf 18 1 17,ql 19 18,qc 20 .eql 19 (-771),qm 4 20] [1,4]
 (.seq (qS [qk 5 0] [1,4,5]
 (.block 0 (.loop (.seq (qS [qm 21 5,qf 22 4 1,ql 23 22,qL 24 23,qb 25 .lss 21 24,qm 26 25,qt 26 (qm 27 4),qa 28 26 27] [1,4,5,28]
 (qC 28 .skip
 (.exit 0)))
 (.seq (.block 1 (.reg [qf 31 4 1,ql 32 31,qm 33 5,qi 34 5 32 33,qN 35 5 34,qx 36 98 [35],qm 4 36] [1,4,5]))
 (.reg [qm 29 5,qc 30 .add 29 1,qm 5 30] [1,4,5]))))))
 (qS [qm 37 4,qm 2 37] [2]
 .ret)))))⟩)
theorem n98 : F98.n = 38 := rfl
theorem low98 : lowF Tryz.prog (kpO F98) (assoc []) 98 = some F98 := by kernel_rfl
def F23 : FIR := laid (X := ⟨53, [.cellN 2 11],
 (qS [qB 1 48 0,
  qo 2 (.alloc 48 [(Value.int IntKind.u8 0), (Value.string ⟨#[]⟩), (Value.int IntKind.u8 0), (Value.int IntKind.i64 0), (Value.int IntKind.u64 0), (Value.string ⟨#[]⟩), (Value.slice none 0 0), (Value.slice none 0 0), (Value.slice none 0 0), (Value.slice none 0 0), (Value.int IntKind.i64 0)])] [1,2]
 (qS [qf 5 9 1,ql 6 5,qL 7 6,qc 8 .add 7 1,
  qo 9 (.mkslice 48 11 168 [(Value.int IntKind.u8 0), (Value.string ⟨#[]⟩), (Value.int IntKind.u8 0), (Value.int IntKind.i64 0), (Value.int IntKind.u64 0), (Value.string ⟨#[]⟩), (Value.slice none 0 0), (Value.slice none 0 0), (Value.slice none 0 0), (Value.slice none 0 0), (Value.int IntKind.i64 0)] (.tmp 8) (.tmp 8)),
  qm 3 9] [1,2,3]
 (.seq (qS [qk 4 0] [1,2,3,4]
 (.block 0 (.loop (.seq (qS [qm 10 4,qf 11 9 1,ql 12 11,qL 13 12,qb 14 .lss 10 13] [1,2,3,4,14]
 (qC 14 .skip
 (.exit 0)))
 (.seq (.block 1 (.reg [qm 17 3,qm 18 4,qf 19 9 1,ql 20 19,qm 21 4,qi 22 11 20 21,qN 23 11 22,qx 24 23 [23],qi 25 11 17 18,qs 11 25 24] [1,2,3,4]))
 (.reg [qm 15 4,qc 16 .add 15 1,qm 4 16] [1,2,3,4]))))))
 (qS [qm 26 3,qf 27 9 1,ql 28 27,qL 29 28,qi 30 11 26 29,qf 31 10 30,
  ⟨none,none,.store 1 (.tmp 31) (.const (Value.int IntKind.i64 (-771)))⟩] [1,2,3]
 (.seq (.free [qf 32 0 1,ql 33 32,qf 34 1 1,ql 35 34,qf 36 2 1,qN 37 5 36,qx 38 71 [37],qf 39 7 1,ql 40 39,qx 41 44 [40],qf 42 8 1,ql 43 42,
  qx 44 44 [43],qm 45 3,qf 46 9 1,ql 47 46,qL 48 47,qo 49 (.slcL 11 (.tmp 45) none (some (.tmp 48)) none),qf 50 10 1,ql 51 50,
  qo 52 (.build [(Value.int IntKind.u8 0), (Value.string ⟨#[]⟩), (Value.int IntKind.u8 0), (Value.int IntKind.i64 0), (Value.int IntKind.u64 0), (Value.string ⟨#[]⟩), (Value.slice none 0 0), (Value.slice none 0 0), (Value.slice none 0 0), (Value.slice none 0 0), (Value.int IntKind.i64 0)] [(0, 1, (.tmp 33)), (1, 1, (.tmp 35)), (2, 5, (.tmp 38)), (7, 1, (.tmp 41)), (8, 1, (.tmp 44)), (9, 1, (.tmp 49)), (10, 1, (.tmp 51))]),
  qs 11 2 52] [[], [0], [], [2], [], [4], [4,5], [], [7], [5,4,6,7,8], [], [10], [8,7,6,4,5,9,10,11], [], [], [14], [14,15], [15,14,16,13], [], [18], [18,19,13,16,14,15,17,11,10,12,8,7,9,5,4,6,2,3,0,1], [1,0,3,2,6,4,5,9,7,8,12,10,11,17,15,14,16,13,19,18,20]] [2])
 .ret)))))⟩)
theorem n23 : F23.n = 53 := rfl
theorem low23 : lowF Tryz.prog (kpO F23) (assoc [(7,[])]) 23 = some F23 := by kernel_rfl
def F57 : FIR := laid (X := ⟨59, [.tmp 2],
 (qS [qB 1 48 0,qz 2 false] [1]
 (qS [qf 9 9 1,ql 10 9,qf 11 9 1,ql 12 11,qL 13 12,qc 14 .add 13 1,qo 15 (.slcL 11 (.tmp 10) none (some (.tmp 14)) none),qm 3 15] [1,3]
 (qS [qf 16 2 1,qN 17 5 16,qx 18 98 [17],qm 4 18] [1,3,4]
 (qS [qf 19 7 1,ql 20 19,qx 21 56 [20],qm 5 21] [1,3,4,5]
 (qS [qf 22 8 1,ql 23 22,qx 24 56 [23],qm 6 24] [1,3,4,5,6]
 (qS [qm 25 4,qm 26 25,qt 26 (qm 27 5),qa 28 26 27,qm 29 28,qt 29 (qm 30 6),qa 31 29 30,qm 32 31,qt 32 (qm 33 3),qt 32 (qf 34 9 1),
  qt 32 (ql 35 34),qt 32 (qL 36 35),qt 32 (qi 37 11 33 36),qt 32 (qf 38 10 37),qt 32 (ql 39 38),qt 32 (qc 40 .eql 39 (-771)),qa 41 32 40,qm 7 41] [1,7]
 (.seq (qS [qk 8 0] [1,7,8]
 (.block 0 (.loop (.seq (qS [qm 42 8,qf 43 9 1,ql 44 43,qL 45 44,qb 46 .lss 42 45,qm 47 46,qt 47 (qm 48 7),qa 49 47 48] [1,7,8,49]
 (qC 49 .skip
 (.exit 0)))
 (.seq (.block 1 (.reg [qf 52 9 1,ql 53 52,qm 54 8,qi 55 11 53 54,qN 56 11 55,qx 57 57 [56],qm 7 57] [1,7,8]))
 (.reg [qm 50 8,qc 51 .add 50 1,qm 8 51] [1,7,8]))))))
 (qS [qm 58 7,qm 2 58] [2]
 .ret))))))))⟩)
theorem n57 : F57.n = 59 := rfl
theorem low57 : lowF Tryz.prog (kpO F57) (assoc []) 57 = some F57 := by kernel_rfl
end Go.Proofs.YtmnmandpdadedaaGreatDoor

/-
  The code of functions, as terms: printed by a program, proved to be what the seat has.
-/
import Derived.Test.YtmnmandpdadedaaGreatDoorV4
import Derived.KernelRfl
import Derived.Test.YtmnmandpdadedaaGreatDoorProg
set_option linter.unusedSimpArgs false
set_option linter.unusedVariables false
namespace Go.Proofs.YtmnmandpdadedaaGreatDoor
open Go Go.V
set_option maxRecDepth 100000
def F121 : FIR := laid (X := ⟨21, [.tmp 2], (qS [qz 2 false] [0] (qS [qm 3 0,qo 4 (.bin .leq (.const (.int .u8 97)) (.tmp 3)),qm 5 4,qt 5 (qm 6 0),
  qt 5 (qo 7 (.bin .leq (.tmp 6) (.const (.int .u8 122)))),qa 8 5 7,qm 9 8,qu 9 (qm 10 0),
  qu 9 (qo 11 (.bin .leq (.const (.int .u8 65)) (.tmp 10))),qu 9 (qm 12 11),qt 12 (qm 13 0),
  qt 12 (qo 14 (.bin .leq (.tmp 13) (.const (.int .u8 90)))),qu 9 (qa 15 12 14),qr 16 9 15,qm 17 16,qu 17 (qm 18 0),
  qu 17 (qo 19 (.bin .eql (.tmp 18) (.const (.int .u8 95)))),qr 20 17 19,qm 2 20] [2] .ret))⟩)
theorem n121 : F121.n = 21 := rfl
theorem low121 : kV Tryz.prog (kpO F121) (kM []) 121 = some F121 := by kernel_rfl
def F126 : FIR := laid (X := ⟨9, [.tmp 2], (qS [qz 2 false] [0] (qS [qm 3 0,qo 4 (.bin .leq (.const (.int .u8 48)) (.tmp 3)),qm 5 4,qt 5 (qm 6 0),
  qt 5 (qo 7 (.bin .leq (.tmp 6) (.const (.int .u8 57)))),qa 8 5 7,qm 2 8] [2] .ret))⟩)
theorem n126 : F126.n = 9 := rfl
theorem low126 : kV Tryz.prog (kpO F126) (kM []) 126 = some F126 := by kernel_rfl
def F123 : FIR := laid (X := ⟨9, [.tmp 2], (qS [qz 2 false] [0] (qS [qm 3 0,qx 4 121 [3],qm 5 4,qu 5 (qm 6 0),qu 5 (qx 7 126 [6]),qr 8 5 7,qm 2 8] [2] .ret))⟩)
theorem n123 : F123.n = 9 := rfl
theorem low123 : kV Tryz.prog (kpO F123) (kM []) 123 = some F123 := by kernel_rfl
def F122 : FIR := laid (X := ⟨21, [.tmp 6], (qS [qk 6 0] [0,1,2] (.seq (.block 0 (.loop (.seq (qS [qm 7 1,qm 8 0,qo 9 (.lenS (.tmp 8)),qb 10 .lss 7 9,qm 11 10,qt 11 (qm 12 2),qt 11 (qm 13 0),qt 11 (qm 14 1),
  qt 11 (qo 15 (.idxS (.tmp 13) (.tmp 14))),qt 11 (qo 16 (.callv (.tmp 12) [(.tmp 15)])),qa 17 11 16] [0,1,2,17] (qC 17 .skip (.exit 0))) (.block 1 (.reg [qm 18 1,qc 19 .add 18 1,qm 1 19] [0,1,2]))))) (qS [qm 20 1,qm 6 20] [6] .ret)))⟩)
theorem n122 : F122.n = 21 := rfl
theorem low122 : kV Tryz.prog (kpO F122) (kM []) 122 = some F122 := by kernel_rfl
def F88 : FIR := laid (X := ⟨22, [.tmp 2], (qS [qz 2 false] [0] (qS [qm 3 0,qo 4 (.bin .neq (.tmp 3) (.const (.string ⟨#[]⟩))),qm 5 4,qt 5 (qm 6 0),qt 5 (qo 7 (.lenS (.tmp 6))),
  qt 5 (qc 8 .leq 7 40),qa 9 5 8,qm 10 9,qt 10 (qm 11 0),qt 10 (qo 12 (.idxS (.tmp 11) (.const (.int .i64 0)))),qt 10 (qx 13 121 [12]),
  qa 14 10 13,qm 15 14,qt 15 (qm 16 0),qt 15 (qo 17 (.call 122 [(.tmp 16), (.const (.int .i64 0)), (.func 123)])),qt 15 (qm 18 0),
  qt 15 (qo 19 (.lenS (.tmp 18))),qt 15 (qb 20 .eql 17 19),qa 21 15 20,qm 2 21] [2] .ret))⟩)
theorem n88 : F88.n = 22 := rfl
theorem low88 : kV Tryz.prog (kpO F88) (kM []) 88 = some F88 := by kernel_rfl
def F89 : FIR := laid (X := ⟨6, [.tmp 2], (qS [qz 2 false] [0] (qS [qm 3 0,qo 4 (.call 124 [(.const (.string ⟨#[43, 45, 42, 47, 92, 126, 60, 62, 61, 64, 37, 38, 63, 44, 33]⟩)), (.tmp 3)]),
  qc 5 .geq 4 0,qm 2 5] [2] .ret))⟩)
theorem n89 : F89.n = 6 := rfl
theorem low89 : kV Tryz.prog (kpO F89) (kM []) 89 = some F89 := by kernel_rfl
def F127 : FIR := laid (X := ⟨12, [.tmp 4], (qS [qo 4 (.mv (.const (.int .u8 0)))] [0,1] (.seq (qS [qm 5 1,qm 6 0,qo 7 (.lenS (.tmp 6)),qb 8 .lss 5 7] [0,1,8] (qC 8 (qS [qm 9 0,qm 10 1,qo 11 (.idxS (.tmp 9) (.tmp 10)),qm 4 11] [4] .ret) .skip)) (qS [qo 4 (.mv (.const (.int .u8 0)))] [4] .ret)))⟩)
theorem n127 : F127.n = 12 := rfl
theorem low127 : kV Tryz.prog (kpO F127) (kM []) 127 = some F127 := by kernel_rfl
def F90 : FIR := laid (X := ⟨17, [.tmp 4], (qS [qB 2 9 0,qB 3 3 1,qk 4 0] [2,3] (.seq (qS [ql 6 2,ql 7 3,qo 8 (.idxS (.tmp 6) (.tmp 7)),qo 9 (.bin .eql (.tmp 8) (.const (.int .u8 124)))] [2,3,9] (qC 9 (qS [ql 10 3,qc 11 .add 10 1,qm 4 11] [4] .ret) .skip)) (qS [ql 12 3,qo 5 (.alloc 3 [(.int .i64 0)]),qs 1 5 12] [2,3,5] (qS [ql 13 2,ql 14 3,qo 15 (.clos (.func 125) [] [(.tmp 3), (.tmp 5), (.tmp 2)]),qx 16 122 [13,14,15],qm 4 16] [4] .ret))))⟩)
theorem n90 : F90.n = 17 := rfl
theorem low90 : kV Tryz.prog (kpO F90) (kM []) 90 = some F90 := by kernel_rfl
def F125 : FIR := laid (X := ⟨29, [.tmp 5], (qS [qz 5 false] [0,1,2,3] (qS [qm 7 0,qx 8 89 [7],qm 9 8,qt 9 (ql 10 1),qt 9 (ql 11 2),qt 9 (qb 12 .eql 10 11),qt 9 (qm 13 12),qu 13 (qm 14 0),
  qu 13 (qo 15 (.bin .neq (.tmp 14) (.const (.int .u8 45)))),qt 9 (qr 16 13 15),qt 9 (qm 17 16),qu 17 (ql 18 3),qu 17 (ql 19 1),
  qu 17 (qc 20 .add 19 1),qu 17 (qx 21 127 [18,20]),qu 17 (qx 22 126 [21]),qu 17 (qo 23 (.un .not (.tmp 22))),qt 9 (qr 24 17 23),qa 25 9 24,qm 6 25] [1,6] (qS [ql 26 1,qc 27 .add 26 1,qs 1 1 27] [6] (qS [qm 28 6,qm 5 28] [5] .ret))))⟩)
theorem n125 : F125.n = 29 := rfl
theorem low125 : kV Tryz.prog (kpO F125) (kM []) 125 = some F125 := by kernel_rfl
def F124 : FIR := laid (X := ⟨8, [.tmp 4], (qS [qk 4 0] [0,1] (qS [qm 5 0,qm 6 1,qx 7 143 [5,6],qm 4 7] [4] .ret))⟩)
theorem n124 : F124.n = 8 := rfl
theorem low124 : kV Tryz.prog (kpO F124) (kM []) 124 = some F124 := by kernel_rfl
def F91 : FIR := laid (X := ⟨10, [.tmp 4], (qS [qo 4 (.mv (.const Value.nilFunc))] [0,1] (qS [qm 5 0,qm 6 1,qm 7 1,qo 8 (.lenS (.tmp 7)),qx 9 128 [5,6,8],qm 4 9] [4] .ret))⟩)
theorem n91 : F91.n = 10 := rfl
theorem low91 : kV Tryz.prog (kpO F91) (kM []) 91 = some F91 := by kernel_rfl
def F128 : FIR := laid (X := ⟨8, [.tmp 6], (qS [qB 3 9 0,qB 4 9 1,qB 5 3 2,qo 6 (.mv (.const Value.nilFunc))] [3,4,5] (qS [qo 7 (.clos (.func 144) [] [(.tmp 4), (.tmp 3), (.tmp 5)]),qm 6 7] [6] .ret))⟩)
theorem n128 : F128.n = 8 := rfl
theorem low128 : kV Tryz.prog (kpO F128) (kM []) 128 = some F128 := by kernel_rfl
def F144 : FIR := laid (X := ⟨52, [], (.seq (qS [ql 9 1,qo 10 (.lenS (.tmp 9)),qc 11 .eql 10 0] [0,1,2,3,11] (qC 11 (.seq (.block 0 (.loop (.seq (qS [ql 12 2,qo 13 (.lenS (.tmp 12)),qc 14 .gtr 13 0] [0,2,14] (qC 14 .skip (.exit 0))) (.block 1 (qS [ql 16 2,qx 17 145 [16],qm 15 17,qe 18 15 0,qe 19 15 1,qm 5 18,qm 6 19] [0,2,6] (.seq (qS [qm 20 0,ql 21 2,qm 22 6,qo 23 (.slcS (.tmp 21) none (some (.tmp 22))),qo 24 (.callv (.tmp 20) [(.tmp 23)]),
  qo 25 (.un .not (.tmp 24))] [0,2,6,25] (qC 25 .ret .skip)) (.reg [ql 26 2,qm 27 6,qo 28 (.slcS (.tmp 26) (some (.tmp 27)) none),qs 1 2 28] [0,2]))))))) .ret) .skip)) (.seq (.block 2 (.loop (.block 3 (qS [ql 29 2,ql 30 1,qx 31 146 [29,30],qm 7 31] [0,1,2,3,7] (.seq (qS [qm 32 7,qc 33 .lss 32 0] [0,1,2,3,7,33] (qC 33 (.exit 2) .skip)) (qS [ql 34 2,qm 35 7,ql 36 3,qb 37 .add 35 36,qo 38 (.slcS (.tmp 34) none (some (.tmp 37))),qm 8 38] [0,1,2,3,7,8] (.seq (qS [qm 39 0,qm 40 8,qo 41 (.callv (.tmp 39) [(.tmp 40)]),qo 42 (.un .not (.tmp 41))] [0,1,2,3,7,42] (qC 42 .ret .skip)) (.reg [ql 43 2,qm 44 7,ql 45 1,qo 46 (.lenS (.tmp 45)),qb 47 .add 44 46,qo 48 (.slcS (.tmp 43) (some (.tmp 47)) none),qs 1 2 48] [0,1,2,3])))))))) (.reg [qm 49 0,ql 50 2,qo 51 (.callv (.tmp 49) [(.tmp 50)])] [])))⟩)
theorem n144 : F144.n = 52 := rfl
theorem low144 : kV Tryz.prog (kpO F144) (kM []) 144 = some F144 := by kernel_rfl
def F146 : FIR := laid (X := ⟨8, [.tmp 4], (qS [qk 4 0] [0,1] (qS [qm 5 0,qm 6 1,qx 7 155 [5,6],qm 4 7] [4] .ret))⟩)
theorem n146 : F146.n = 8 := rfl
theorem low146 : kV Tryz.prog (kpO F146) (kM []) 146 = some F146 := by kernel_rfl
def F92 : FIR := laid (X := ⟨11, [.tmp 4, .tmp 5], (qS [qo 4 (.mv (.const (.string ⟨#[]⟩))),qz 5 false] [0,1] (qS [qm 6 0,qm 7 1,qx 8 129 [6,7],qe 9 8 0,qe 10 8 1,qm 4 9,qm 5 10] [4,5] .ret))⟩)
theorem n92 : F92.n = 11 := rfl
theorem low92 : kV Tryz.prog (kpO F92) (kM []) 92 = some F92 := by kernel_rfl
def F129 : FIR := laid (X := ⟨18, [.tmp 4, .tmp 5], (qS [qo 4 (.mv (.const (.string ⟨#[]⟩))),qz 5 false] [0,1] (.seq (qS [qm 6 0,qm 7 1,qx 8 147 [6,7],qo 9 (.un .not (.tmp 8))] [0,1,9] (qC 9 (qS [qm 10 0,qm 4 10,qz 5 false] [4,5] .ret) .skip)) (qS [qm 11 0,qm 12 0,qo 13 (.lenS (.tmp 12)),qm 14 1,qo 15 (.lenS (.tmp 14)),qb 16 .sub 13 15,
  qo 17 (.slcS (.tmp 11) none (some (.tmp 16))),qm 4 17,qz 5 true] [4,5] .ret)))⟩)
theorem n129 : F129.n = 18 := rfl
theorem low129 : kV Tryz.prog (kpO F129) (kM []) 129 = some F129 := by kernel_rfl
def F147 : FIR := laid (X := ⟨21, [.tmp 4], (qS [qz 4 false] [0,1] (qS [qm 5 0,qo 6 (.lenS (.tmp 5)),qm 7 1,qo 8 (.lenS (.tmp 7)),qb 9 .geq 6 8,qm 10 9,qt 10 (qm 11 0),qt 10 (qm 12 0),
  qt 10 (qo 13 (.lenS (.tmp 12))),qt 10 (qm 14 1),qt 10 (qo 15 (.lenS (.tmp 14))),qt 10 (qb 16 .sub 13 15),
  qt 10 (qo 17 (.slcS (.tmp 11) (some (.tmp 16)) none)),qt 10 (qm 18 1),qt 10 (qb 19 .eql 17 18),qa 20 10 19,qm 4 20] [4] .ret))⟩)
theorem n147 : F147.n = 21 := rfl
theorem low147 : kV Tryz.prog (kpO F147) (kM []) 147 = some F147 := by kernel_rfl
def F48 : FIR := laid (X := ⟨47, [.cell1 2], (qS [qo 2 (.alloc 3 [(.int .i64 0)])] [0,2] (.seq (.block 0 (qS [qm 8 0,qx 9 88 [8],qm 7 9] [0,2,7] (qC 7 (qS [⟨none,none,.store 1 (.tmp 2) (.const (.int .i64 0))⟩] [2] .ret) (qS [qm 11 0,qo 12 (.bin .eql (.tmp 11) (.const (.string ⟨#[]⟩))),qm 10 12] [0,2,10] (qC 10 (qS [⟨none,none,.store 1 (.tmp 2) (.const (.int .i64 (-1)))⟩] [2] .ret) (qS [qm 14 0,qo 15 (.idxS (.tmp 14) (.const (.int .i64 0))),qx 16 89 [15],qm 17 16,qu 17 (qm 18 0),
  qu 17 (qo 19 (.idxS (.tmp 18) (.const (.int .i64 0)))),qu 17 (qo 20 (.bin .eql (.tmp 19) (.const (.int .u8 124)))),qr 21 17 20,
  qm 13 21] [0,2,13] (qC 13 (.seq (qS [qm 22 0,qo 23 (.call 90 [(.tmp 22), (.const (.int .i64 0))]),qm 24 0,qo 25 (.lenS (.tmp 24)),qb 26 .eql 23 25] [2,26] (qC 26 (qS [⟨none,none,.store 1 (.tmp 2) (.const (.int .i64 1))⟩] [2] .ret) .skip)) (qS [⟨none,none,.store 1 (.tmp 2) (.const (.int .i64 (-1)))⟩] [2] .ret)) .skip))))))) (qS [qo 3 (.alloc 3 [(.int .i64 0)]),⟨none,none,.store 1 (.tmp 3) (.const (.int .i64 0))⟩] [0,2,3] (.seq (qS [qm 27 0,qo 28 (.call 91 [(.tmp 27), (.const (.string ⟨#[58]⟩))])] [2,3,28] (.block 1 (.rangef (.tmp 28) [29] (.reg [qm 4 29] [2,3,4]) (.block 2 (.seq (qS [qm 30 4,qo 31 (.bin .eql (.tmp 30) (.const (.string ⟨#[]⟩)))] [2,3,4,31] (qC 31 (.exit 1) .skip)) (qS [qm 33 4,qo 34 (.call 92 [(.tmp 33), (.const (.string ⟨#[58]⟩))]),qm 32 34,qe 35 32 0,qe 36 32 1,qm 5 35,qm 6 36] [2,3,5,6] (.seq (qS [qm 37 6,qo 38 (.un .not (.tmp 37)),qm 39 38,qu 39 (qm 40 5),qu 39 (qx 41 88 [40]),qu 39 (qo 42 (.un .not (.tmp 41))),qr 43 39 42] [2,3,43] (qC 43 (qS [⟨none,none,.store 1 (.tmp 2) (.const (.int .i64 (-1)))⟩] [2] .ret) .skip)) (.reg [ql 44 3,qc 45 .add 44 1,qs 1 3 45] [])))))))) (qS [ql 46 3,qs 1 2 46] [2] .ret)))))⟩)
theorem n48 : F48.n = 47 := rfl
theorem low48 : kV Tryz.prog (kpO F48) (kM []) 48 = some F48 := by kernel_rfl
end Go.Proofs.YtmnmandpdadedaaGreatDoor
namespace Go.Proofs.YtmnmandpdadedaaGreatDoor
open Go Go.V
set_option maxRecDepth 100000
def F39 : FIR := laid (X := ⟨4, [.tmp 2], (qS [qB 1 48 0,qo 2 (.mv (.const Value.nilFunc))] [1] (qS [qo 3 (.clos (.func 82) [] [(.tmp 1)]),qm 2 3] [2] .ret))⟩)
theorem n39 : F39.n = 4 := rfl
theorem low39 : kV Tryz.prog (kpO F39) (kM []) 39 = some F39 := by kernel_rfl
def F82 : FIR := laid (X := ⟨8, [], (qS [qB 2 49 0] [1,2] (qS [qo 3 (.alloc 49 [Value.nilFunc])] [1,2,3] (qS [qo 4 (.clos (.func 83) [] [(.tmp 2), (.tmp 3)]),qs 1 3 4] [1,3] (.reg [ql 5 3,qN 6 11 1,qo 7 (.callv (.tmp 5) [(.tmp 6)])] []))))⟩)
theorem n82 : F82.n = 8 := rfl
theorem low82 : kV Tryz.prog (kpO F82) (kM []) 82 = some F82 := by kernel_rfl
def F83 : FIR := laid (X := ⟨23, [.tmp 4], (qS [qB 3 48 0,qz 4 false] [1,2,3] (.seq (qS [ql 7 1,qN 8 11 3,qo 9 (.callv (.tmp 7) [(.tmp 8)]),qo 10 (.un .not (.tmp 9))] [2,3,10] (qC 10 (qS [qz 4 false] [4] .ret) .skip)) (.seq (qS [qf 11 9 3,ql 12 11,qL 13 12,qk 14 0] [2,12,13,14] (.block 0 (.loop (qS [qb 15 .lss 14 13] [2,12,13,14,15] (.seq (qC 15 .skip (.exit 0)) (.seq (.block 1 (qS [qi 16 11 12 14,qN 17 11 16,
  qo 6 (.alloc 48 [(.int .u8 0), (.string ⟨#[]⟩), (.int .u8 0), (.int .i64 0), (.int .u64 0), (.string ⟨#[]⟩), (.slice none 0 0), (.slice none 0 0), (.slice none 0 0), (.slice none 0 0), (.int .i64 0)]),
  qs 11 6 17] [2,6,12,13,14] (qS [ql 18 2,qN 19 11 6,qo 20 (.callv (.tmp 18) [(.tmp 19)]),qo 21 (.un .not (.tmp 20))] [2,12,13,14,21] (qC 21 (qS [qz 4 false] [4] .ret) .skip)))) (.reg [qc 22 .add 14 1,qm 14 22] [2,12,13,14]))))))) (qS [qz 4 true] [4] .ret))))⟩)
theorem n83 : F83.n = 23 := rfl
theorem low83 : kV Tryz.prog (kpO F83) (kM []) 83 = some F83 := by kernel_rfl
def F27 : FIR := laid (X := ⟨10, [.tmp 2], (qS [qB 1 48 0,qk 2 0] [1] (qS [qo 3 (.alloc 3 [(.int .i64 0)]),⟨none,none,.store 1 (.tmp 3) (.const (.int .i64 0))⟩] [1,3] (.seq (qS [qN 4 11 1,qx 5 39 [4]] [3,5] (.block 0 (.rangef (.tmp 5) [6] .skip (.block 1 (.reg [ql 7 3,qc 8 .add 7 1,qs 1 3 8] []))))) (qS [ql 9 3,qm 2 9] [2] .ret))))⟩)
theorem n27 : F27.n = 10 := rfl
theorem low27 : kV Tryz.prog (kpO F27) (kM []) 27 = some F27 := by kernel_rfl
def F28 : FIR := laid (X := ⟨45, [.tmp 4], (qS [qB 2 48 0,qB 3 48 1,qz 4 false] [2,3] (qS [qf 5 0 2,ql 6 5,qf 7 0 3,ql 8 7,qb 9 .eql 6 8,qm 10 9,qt 10 (qf 11 1 2),qt 10 (ql 12 11),qt 10 (qf 13 1 3),qt 10 (ql 14 13),
  qt 10 (qb 15 .eql 12 14),qa 16 10 15,qm 17 16,qt 17 (qf 18 7 2),qt 17 (ql 19 18),qt 17 (qf 20 7 3),qt 17 (ql 21 20),qt 17 (qx 22 51 [19,21]),
  qa 23 17 22,qm 24 23,qt 24 (qf 25 8 2),qt 24 (ql 26 25),qt 24 (qf 27 8 3),qt 24 (ql 28 27),qt 24 (qx 29 51 [26,28]),qa 30 24 29,qm 31 30,
  qt 31 (qf 32 2 2),qt 31 (qN 33 5 32),qt 31 (qf 34 2 3),qt 31 (qN 35 5 34),qt 31 (qx 36 76 [33,35]),qa 37 31 36,qm 38 37,qt 38 (qf 39 9 2),
  qt 38 (ql 40 39),qt 38 (qf 41 9 3),qt 38 (ql 42 41),qt 38 (qo 43 (.call 52 [(.tmp 40), (.tmp 42), (.func 28)])),qa 44 38 43,qm 4 44] [4] .ret))⟩)
theorem n28 : F28.n = 45 := rfl
theorem low28 : kV Tryz.prog (kpO F28) (kM []) 28 = some F28 := by kernel_rfl
def F76 : FIR := laid (X := ⟨38, [.tmp 4], (qS [qB 2 46 0,qB 3 46 1,qz 4 false] [2,3] (qS [qf 5 0 2,ql 6 5,qf 7 0 3,ql 8 7,qb 9 .eql 6 8,qm 10 9,qt 10 (qf 11 1 2),qt 10 (ql 12 11),qt 10 (qf 13 1 3),qt 10 (ql 14 13),
  qt 10 (qb 15 .eql 12 14),qa 16 10 15,qm 17 16,qt 17 (qf 18 2 2),qt 17 (ql 19 18),qt 17 (qf 20 2 3),qt 17 (ql 21 20),qt 17 (qb 22 .eql 19 21),
  qa 23 17 22,qm 24 23,qt 24 (qf 25 3 2),qt 24 (ql 26 25),qt 24 (qf 27 3 3),qt 24 (ql 28 27),qt 24 (qb 29 .eql 26 28),qa 30 24 29,qm 31 30,
  qt 31 (qf 32 4 2),qt 31 (ql 33 32),qt 31 (qf 34 4 3),qt 31 (ql 35 34),qt 31 (qo 36 (.call 116 [(.tmp 33), (.tmp 35), (.func 76)])),qa 37 31 36,qm 4 37] [4] .ret))⟩)
theorem n76 : F76.n = 38 := rfl
theorem low76 : kV Tryz.prog (kpO F76) (kM []) 76 = some F76 := by kernel_rfl
def F51 : FIR := laid (X := ⟨26, [.tmp 4], (qS [qz 4 false] [0,1] (.seq (qS [qm 6 0,qL 7 6,qm 8 1,qL 9 8,qb 10 .neq 7 9] [0,1,10] (qC 10 (qS [qz 4 false] [4] .ret) .skip)) (.seq (qS [qm 11 0,qL 12 11,qk 13 0] [0,1,12,13] (.block 0 (.loop (qS [qb 14 .lss 13 12] [0,1,12,13,14] (.seq (qC 14 .skip (.exit 0)) (.seq (.block 1 (qS [qm 15 13,qm 5 15] [0,1,5,12,13] (.seq (qD [qm 16 0,qm 17 5,qi 18 1 16 17,ql 19 18,qm 20 1,qm 21 5,qi 22 1 20 21,ql 23 22,qb 24 .neq 19 23] [[0,1,2,3,4,5,6,7,8]] [0,1,12,13,24]) (qC 24 (qS [qz 4 false] [4] .ret) .skip)))) (.reg [qc 25 .add 13 1,qm 13 25] [0,1,12,13]))))))) (qS [qz 4 true] [4] .ret))))⟩)
theorem n51 : F51.n = 26 := rfl
theorem low51 : kV Tryz.prog (kpO F51) (kM [(6,[[0,1,2,3,4,5,6,7,8]])]) 51 = some F51 := by kernel_rfl
def F52 : FIR := laid (X := ⟨32, [.tmp 6], (qS [qz 6 false] [0,1,2] (.seq (qS [qm 10 0,qL 11 10,qm 12 1,qL 13 12,qb 14 .neq 11 13] [0,1,2,14] (qC 14 (qS [qz 6 false] [6] .ret) .skip)) (.seq (qS [qm 15 0,qL 16 15,qk 17 0] [1,2,15,16,17] (.block 0 (.loop (qS [qb 18 .lss 17 16] [1,2,15,16,17,18] (.seq (qC 18 .skip (.exit 0)) (.seq (.block 1 (qS [qm 19 17,qi 20 11 15 17,qN 21 11 20,
  qo 8 (.alloc 48 [(.int .u8 0), (.string ⟨#[]⟩), (.int .u8 0), (.int .i64 0), (.int .u64 0), (.string ⟨#[]⟩), (.slice none 0 0), (.slice none 0 0), (.slice none 0 0), (.slice none 0 0), (.int .i64 0)]),
  qm 7 19,qs 11 8 21] [1,2,7,8,15,16,17] (qS [qm 22 1,qm 23 7,qi 24 11 22 23,qN 25 11 24,
  qo 9 (.alloc 48 [(.int .u8 0), (.string ⟨#[]⟩), (.int .u8 0), (.int .i64 0), (.int .u64 0), (.string ⟨#[]⟩), (.slice none 0 0), (.slice none 0 0), (.slice none 0 0), (.slice none 0 0), (.int .i64 0)]),
  qs 11 9 25] [1,2,8,9,15,16,17] (qS [qm 26 2,qN 27 11 8,qN 28 11 9,qo 29 (.callv (.tmp 26) [(.tmp 27), (.tmp 28)]),qo 30 (.un .not (.tmp 29))] [1,2,15,16,17,30] (qC 30 (qS [qz 6 false] [6] .ret) .skip))))) (.reg [qc 31 .add 17 1,qm 17 31] [1,2,15,16,17]))))))) (qS [qz 6 true] [6] .ret))))⟩)
theorem n52 : F52.n = 32 := rfl
theorem low52 : kV Tryz.prog (kpO F52) (kM []) 52 = some F52 := by kernel_rfl
def F116 : FIR := laid (X := ⟨32, [.tmp 6], (qS [qz 6 false] [0,1,2] (.seq (qS [qm 10 0,qL 11 10,qm 12 1,qL 13 12,qb 14 .neq 11 13] [0,1,2,14] (qC 14 (qS [qz 6 false] [6] .ret) .skip)) (.seq (qS [qm 15 0,qL 16 15,qk 17 0] [1,2,15,16,17] (.block 0 (.loop (qS [qb 18 .lss 17 16] [1,2,15,16,17,18] (.seq (qC 18 .skip (.exit 0)) (.seq (.block 1 (qS [qm 19 17,qi 20 5 15 17,qN 21 5 20,
  qo 8 (.alloc 46 [(.int .u8 0), (.int .i64 0), (.int .u64 0), (.string ⟨#[]⟩), (.slice none 0 0)]),qm 7 19,
  qs 5 8 21] [1,2,7,8,15,16,17] (qS [qm 22 1,qm 23 7,qi 24 5 22 23,qN 25 5 24,
  qo 9 (.alloc 46 [(.int .u8 0), (.int .i64 0), (.int .u64 0), (.string ⟨#[]⟩), (.slice none 0 0)]),
  qs 5 9 25] [1,2,8,9,15,16,17] (qS [qm 26 2,qN 27 5 8,qN 28 5 9,qo 29 (.callv (.tmp 26) [(.tmp 27), (.tmp 28)]),qo 30 (.un .not (.tmp 29))] [1,2,15,16,17,30] (qC 30 (qS [qz 6 false] [6] .ret) .skip))))) (.reg [qc 31 .add 17 1,qm 17 31] [1,2,15,16,17]))))))) (qS [qz 6 true] [6] .ret))))⟩)
theorem n116 : F116.n = 32 := rfl
theorem low116 : kV Tryz.prog (kpO F116) (kM []) 116 = some F116 := by kernel_rfl
def F14 : FIR := laid (X := ⟨38, [.tmp 4], (qS [qB 2 25 0,qB 3 25 1,qz 4 false] [2,3] (qS [qf 5 0 2,ql 6 5,qf 7 0 3,ql 8 7,qb 9 .eql 6 8,qm 10 9,qt 10 (qf 11 3 2),qt 10 (ql 12 11),qt 10 (qf 13 3 3),qt 10 (ql 14 13),
  qt 10 (qb 15 .eql 12 14),qa 16 10 15,qm 17 16,qt 17 (qf 18 1 2),qt 17 (ql 19 18),qt 17 (qf 20 1 3),qt 17 (ql 21 20),qt 17 (qx 22 51 [19,21]),
  qa 23 17 22,qm 24 23,qt 24 (qf 25 2 2),qt 24 (ql 26 25),qt 24 (qf 27 2 3),qt 24 (ql 28 27),qt 24 (qx 29 51 [26,28]),qa 30 24 29,qm 31 30,
  qt 31 (qf 32 4 2),qt 31 (ql 33 32),qt 31 (qf 34 4 3),qt 31 (ql 35 34),qt 31 (qo 36 (.call 52 [(.tmp 33), (.tmp 35), (.func 28)])),qa 37 31 36,qm 4 37] [4] .ret))⟩)
theorem n14 : F14.n = 38 := rfl
theorem low14 : kV Tryz.prog (kpO F14) (kM []) 14 = some F14 := by kernel_rfl
def F35 : FIR := laid (X := ⟨44, [.tmp 2], (qS [qB 1 25 0,qo 2 (.mv (.const (.slice none 0 0)))] [1] (qS [qo 3 (.alloc 22 [(.slice none 0 0)])] [1,3] (qS [qo 8 (.mkmap),qo 4 (.alloc 93 [(Value.map none)]),qs 1 4 8] [1,3,4] (.seq (qS [qf 9 4 1,ql 10 9,qL 11 10,qk 12 0] [3,4,10,11,12] (.block 0 (.loop (qS [qb 13 .lss 12 11] [3,4,10,11,12,13] (.seq (qC 13 .skip (.exit 0)) (.seq (.block 1 (qS [qi 14 11 10 12,qN 15 11 14,
  qo 6 (.alloc 48 [(.int .u8 0), (.string ⟨#[]⟩), (.int .u8 0), (.int .i64 0), (.int .u64 0), (.string ⟨#[]⟩), (.slice none 0 0), (.slice none 0 0), (.slice none 0 0), (.slice none 0 0), (.int .i64 0)]),
  qs 11 6 15] [3,4,6,10,11,12] (qS [qN 16 11 6,qx 17 39 [16]] [3,4,10,11,12,17] (.block 2 (.rangef (.tmp 17) [18] (.reg [qo 7 (.alloc 48 [(.int .u8 0), (.string ⟨#[]⟩), (.int .u8 0), (.int .i64 0), (.int .u64 0), (.string ⟨#[]⟩), (.slice none 0 0), (.slice none 0 0), (.slice none 0 0), (.slice none 0 0), (.int .i64 0)]),
  qs 11 7 18] [3,4,7]) (.block 3 (.seq (qS [qf 19 0 7,ql 20 19,qo 21 (.bin .neq (.tmp 20) (.const (.int .u8 4))),qm 22 21,qt 22 (qf 23 0 7),qt 22 (ql 24 23),
  qt 22 (qo 25 (.bin .neq (.tmp 24) (.const (.int .u8 6)))),qa 26 22 25] [3,4,7,26] (qC 26 (.exit 3) .skip)) (qS [ql 27 4,qf 28 1 7,ql 29 28,qo 30 (.lookup .str (.int .i64 0) false (.tmp 27) (.tmp 29)),qc 31 .add 30 1,
  ⟨none,none,.mapupd .str (.tmp 27) (.tmp 29) (.tmp 31)⟩] [3,4,7] (qS [ql 32 4,qf 33 1 7,ql 34 33,qo 35 (.lookup .str (.int .i64 0) false (.tmp 32) (.tmp 34)),qc 36 .eql 35 1] [3,7,36] (qC 36 (.reg [ql 37 3,qf 38 1 7,ql 39 38,qo 40 (.bslice 9 1 [(.string ⟨#[]⟩)] [(0, 1, (.tmp 39))]),
  qo 41 (.append 9 1 16 [(.string ⟨#[]⟩)] (.tmp 37) (.tmp 40)),qs 1 3 41] []) .skip)))))))))) (.reg [qc 42 .add 12 1,qm 12 42] [3,4,10,11,12]))))))) (qS [ql 43 3,qm 2 43] [2] .ret)))))⟩)
theorem n35 : F35.n = 44 := rfl
theorem low35 : kV Tryz.prog (kpO F35) (kM []) 35 = some F35 := by kernel_rfl
def F53 : FIR := laid (X := ⟨8, [.tmp 2], (qS [qo 2 (.mv (.const (.slice none 0 0)))] [0] (.seq (qS [qm 3 0,qo 4 (.eqnil false .slice (.tmp 3))] [0,4] (qC 4 (qS [qo 2 (.mv (.const (.slice none 0 0)))] [2] .ret) .skip)) (qS [qo 5 (.bslice 9 0 [(.string ⟨#[]⟩)] []),qm 6 0,qo 7 (.append 9 1 16 [(.string ⟨#[]⟩)] (.tmp 5) (.tmp 6)),qm 2 7] [2] .ret)))⟩)
theorem n53 : F53.n = 8 := rfl
theorem low53 : kV Tryz.prog (kpO F53) (kM []) 53 = some F53 := by kernel_rfl
def F70 : FIR := laid (X := ⟨48, [.tmp 6], (qS [qB 3 48 0,qk 6 0] [1,2,3] (qS [qf 8 2 3,qN 9 5 8,qm 10 1,qc 11 .add 10 1,qf 12 1 3,ql 13 12,qo 14 (.lenS (.tmp 13)),qb 15 .add 11 14,
  qo 16 (.call 111 [(.tmp 9), (.tmp 15), (.const (.int .i64 0))]),qm 1 16] [1,2,3] (qS [qf 17 7 3,ql 18 17,qm 19 1,qx 20 86 [18,19],qm 1 20] [1,2,3] (qS [qf 21 8 3,ql 22 21,qm 23 1,qx 24 86 [22,23],qm 1 24] [1,2,3] (.seq (qS [qm 25 2,qc 26 .gtr 25 60000] [1,2,3,26] (qC 26 (qS [qk 6 262145] [6] .ret) .skip)) (.seq (qS [qk 7 0] [1,2,3,7] (.block 0 (.loop (.seq (qS [qm 27 7,qf 28 9 3,ql 29 28,qL 30 29,qb 31 .lss 27 30,qm 32 31,qt 32 (qm 33 1),qt 32 (qc 34 .leq 33 262144),qa 35 32 34] [1,2,3,7,35] (qC 35 .skip (.exit 0))) (.seq (.block 1 (.reg [qf 38 9 3,ql 39 38,qm 40 7,qi 41 11 39 40,qN 42 11 41,qm 43 1,qm 44 2,qc 45 .add 44 1,qx 46 70 [42,43,45],qm 1 46] [1,2,3,7])) (.reg [qm 36 7,qc 37 .add 36 1,qm 7 37] [1,2,3,7])))))) (qS [qm 47 1,qm 6 47] [6] .ret)))))))⟩)
theorem n70 : F70.n = 48 := rfl
theorem low70 : kV Tryz.prog (kpO F70) (kM []) 70 = some F70 := by kernel_rfl
def F111 : FIR := laid (X := ⟨37, [.tmp 6], (qS [qB 3 46 0,qk 6 0] [1,2,3] (qS [qm 8 1,qc 9 .add 8 1,qf 10 3 3,ql 11 10,qo 12 (.lenS (.tmp 11)),qb 13 .add 9 12,qm 1 13] [1,2,3] (.seq (qS [qm 14 2,qc 15 .gtr 14 60000] [1,2,3,15] (qC 15 (qS [qk 6 262145] [6] .ret) .skip)) (.seq (qS [qk 7 0] [1,2,3,7] (.block 0 (.loop (.seq (qS [qm 16 7,qf 17 4 3,ql 18 17,qL 19 18,qb 20 .lss 16 19,qm 21 20,qt 21 (qm 22 1),qt 21 (qc 23 .leq 22 262144),qa 24 21 23] [1,2,3,7,24] (qC 24 .skip (.exit 0))) (.seq (.block 1 (.reg [qf 27 4 3,ql 28 27,qm 29 7,qi 30 5 28 29,qN 31 5 30,qm 32 1,qm 33 2,qc 34 .add 33 1,qx 35 111 [31,32,34],qm 1 35] [1,2,3,7])) (.reg [qm 25 7,qc 26 .add 25 1,qm 7 26] [1,2,3,7])))))) (qS [qm 36 1,qm 6 36] [6] .ret)))))⟩)
theorem n111 : F111.n = 37 := rfl
theorem low111 : kV Tryz.prog (kpO F111) (kM []) 111 = some F111 := by kernel_rfl
def F86 : FIR := laid (X := ⟨25, [.tmp 4], (qS [qk 4 0] [0,1] (.seq (qS [qk 5 0] [0,1,5] (.block 0 (.loop (.seq (qS [qm 6 5,qm 7 0,qL 8 7,qb 9 .lss 6 8,qm 10 9,qt 10 (qm 11 1),qt 10 (qc 12 .leq 11 262144),qa 13 10 12] [0,1,5,13] (qC 13 .skip (.exit 0))) (.seq (.block 1 (.reg [qm 16 1,qc 17 .add 16 1,qm 18 0,qm 19 5,qi 20 1 18 19,ql 21 20,qo 22 (.lenS (.tmp 21)),qb 23 .add 17 22,qm 1 23] [0,1,5])) (.reg [qm 14 5,qc 15 .add 14 1,qm 5 15] [0,1,5])))))) (qS [qm 24 1,qm 4 24] [4] .ret)))⟩)
theorem n86 : F86.n = 25 := rfl
theorem low86 : kV Tryz.prog (kpO F86) (kM []) 86 = some F86 := by kernel_rfl
def F10 : FIR := laid (X := ⟨111, [.tmp 0], (qS [qz 0 false] [] (qS [qx 14 42 [],
  qo 1 (.alloc 48 [(.int .u8 0), (.string ⟨#[]⟩), (.int .u8 0), (.int .i64 0), (.int .u64 0), (.string ⟨#[]⟩), (.slice none 0 0), (.slice none 0 0), (.slice none 0 0), (.slice none 0 0), (.int .i64 0)]),
  qs 11 1 14] [1] (qS [qN 15 11 1,qx 16 25 [15],qm 2 16] [1,2] (qS [qN 17 11 1,qx 18 26 [17],qm 3 18] [1,2,3] (qS [qN 19 11 1,qx 20 27 [19],qm 4 20] [1,2,3,4] (qS [qN 21 11 1,qx 22 24 [21],qm 5 22] [1,2,3,4,5] (qS [qo 23 (.build [(.int .u8 0), (.string ⟨#[]⟩), (.int .u8 0), (.int .i64 0), (.int .u64 0), (.string ⟨#[]⟩), (.slice none 0 0), (.slice none 0 0), (.slice none 0 0), (.slice none 0 0), (.int .i64 0)] [(0, 1, (.const (.int .u8 2))), (1, 1, (.const (.string ⟨#[115, 117, 112, 101, 114]⟩)))]),
  qx 24 24 [23],qm 6 24] [1,2,3,4,5,6] (qS [qN 25 11 1,
  qo 26 (.bslice 48 1 [(.int .u8 0), (.string ⟨#[]⟩), (.int .u8 0), (.int .i64 0), (.int .u64 0), (.string ⟨#[]⟩), (.slice none 0 0), (.slice none 0 0), (.slice none 0 0), (.slice none 0 0), (.int .i64 0)] [(0, 11, (.tmp 25))]),
  qo 27 (.build [(.string ⟨#[]⟩), (.slice none 0 0), (.slice none 0 0), (.int .i64 0), (.slice none 0 0)] [(0, 1, (.const (.string ⟨#[120]⟩))), (4, 1, (.tmp 26))]),
  qo 7 (.alloc 25 [(.string ⟨#[]⟩), (.slice none 0 0), (.slice none 0 0), (.int .i64 0), (.slice none 0 0)]),qs 5 7 27] [1,2,3,4,5,6,7] (qS [qN 28 5 7,qx 29 13 [28],qm 8 29] [1,2,3,4,5,6,7,8] (qS [qo 30 (.build [(.string ⟨#[]⟩), (.slice none 0 0), (.slice none 0 0), (.int .i64 0), (.slice none 0 0)] [(0, 1, (.const (.string ⟨#[120, 58]⟩)))]),
  qx 31 13 [30],qm 9 31] [1,2,3,4,5,6,7,8,9] (qS [qN 32 5 7,qx 33 35 [32],qm 10 33] [1,2,3,4,5,6,7,8,9,10] (qS [qN 34 5 7,qx 35 15 [34],
  qo 11 (.alloc 25 [(.string ⟨#[]⟩), (.slice none 0 0), (.slice none 0 0), (.int .i64 0), (.slice none 0 0)]),qs 5 11 35] [1,2,3,4,5,6,7,8,9,10,11] (qS [qN 36 5 7,qN 37 5 11,qx 38 14 [36,37],qm 12 38] [1,2,3,4,5,6,8,9,10,11,12] (qS [qN 39 11 1,qN 40 11 1,qx 41 28 [39,40],qm 13 41] [2,3,4,5,6,8,9,10,11,12,13] (qS [qm 42 2,qc 43 .eql 42 4,qm 44 43,qt 44 (qm 45 3),qt 44 (qc 46 .eql 45 1),qa 47 44 46,qm 48 47,qt 48 (qm 49 4),
  qt 48 (qc 50 .eql 49 5),qa 51 48 50,qm 52 51,qt 52 (qm 53 5),qt 52 (qc 54 .eql 53 0),qa 55 52 54,qm 56 55,qt 56 (qm 57 6),qt 56 (qc 58 .eql 57 150),
  qa 59 56 58,qm 60 59,qt 60 (qm 61 8),qt 60 (qc 62 .eql 61 0),qa 63 60 62,qm 64 63,qt 64 (qm 65 9),qt 64 (qc 66 .eql 65 150),qa 67 64 66,qm 68 67,
  qt 68 (qm 69 10),qt 68 (qL 70 69),qt 68 (qc 71 .eql 70 2),qa 72 68 71,qm 73 72,qt 73 (qm 74 10),
  qt 73 (qo 75 (.idxL 1 (.tmp 74) (.const (.int .i64 0)))),qt 73 (ql 76 75),
  qt 73 (qo 77 (.bin .eql (.tmp 76) (.const (.string ⟨#[43]⟩)))),qa 78 73 77,qm 79 78,qt 79 (qm 80 12),qa 81 79 80,qm 82 81,qt 82 (qm 83 13),
  qa 84 82 83,qm 85 84,qt 85 (qf 86 4 11),qt 85 (ql 87 86),qt 85 (qL 88 87),qt 85 (qc 89 .eql 88 1),qa 90 85 89,qm 91 90,qt 91 (qf 92 4 11),
  qt 91 (ql 93 92),qt 91 (qo 94 (.idxL 11 (.tmp 93) (.const (.int .i64 0)))),qt 91 (qf 95 9 94),qt 91 (ql 96 95),qt 91 (qL 97 96),
  qt 91 (qc 98 .eql 97 2),qa 99 91 98,qm 100 99,qt 100 (qf 101 4 11),qt 100 (ql 102 101),
  qt 100 (qo 103 (.idxL 11 (.tmp 102) (.const (.int .i64 0)))),qt 100 (qf 104 9 103),qt 100 (ql 105 104),
  qt 100 (qo 106 (.idxL 11 (.tmp 105) (.const (.int .i64 1)))),qt 100 (qf 107 10 106),qt 100 (ql 108 107),qt 100 (qc 109 .eql 108 0),
  qa 110 100 109,qm 0 110] [0] .ret)))))))))))))))⟩)
theorem n10 : F10.n = 111 := rfl
theorem low10 : kV Tryz.prog (kpO F10) (kM []) 10 = some F10 := by kernel_rfl
end Go.Proofs.YtmnmandpdadedaaGreatDoor
namespace Go.Proofs.YtmnmandpdadedaaGreatDoor
open Go Go.V
set_option maxRecDepth 100000
def F117 : FIR := laid (X := ⟨62, [.tmp 4], (qS [qB 2 46 0,qB 3 46 1,qz 4 false] [2,3] (.seq (qS [qf 7 0 2,ql 8 7,qf 9 0 3,ql 10 9,qb 11 .neq 8 10,qm 12 11,qu 12 (qf 13 1 2),qu 12 (ql 14 13),qu 12 (qf 15 1 3),qu 12 (ql 16 15),
  qu 12 (qb 17 .neq 14 16),qr 18 12 17,qm 19 18,qu 19 (qf 20 2 2),qu 19 (ql 21 20),qu 19 (qf 22 2 3),qu 19 (ql 23 22),qu 19 (qb 24 .neq 21 23),
  qr 25 19 24,qm 26 25,qu 26 (qf 27 3 2),qu 26 (ql 28 27),qu 26 (qf 29 3 3),qu 26 (ql 30 29),qu 26 (qb 31 .neq 28 30),qr 32 26 31,qm 33 32,
  qu 33 (qf 34 4 2),qu 33 (ql 35 34),qu 33 (qL 36 35),qu 33 (qf 37 4 3),qu 33 (ql 38 37),qu 33 (qL 39 38),qu 33 (qb 40 .neq 36 39),qr 41 33 40] [2,3,41] (qC 41 (qS [qz 4 false] [4] .ret) .skip)) (.seq (qS [qk 5 0] [2,3,5] (.block 0 (.loop (.seq (qS [qm 42 5,qf 43 4 2,ql 44 43,qL 45 44,qb 46 .lss 42 45] [2,3,5,46] (qC 46 .skip (.exit 0))) (.seq (.block 1 (.seq (qD [qf 49 4 2,ql 50 49,qm 51 5,qi 52 5 50 51,qN 53 5 52,qf 54 4 3,ql 55 54,qm 56 5,qi 57 5 55 56,qN 58 5 57,qx 59 117 [53,58],qm 6 59] [[0,1,2,3,4,5,6,7,8,9,10,11]] [2,3,5,6]) (qS [qm 60 6,qo 61 (.un .not (.tmp 60))] [2,3,5,61] (qC 61 (qS [qz 4 false] [4] .ret) .skip)))) (.reg [qm 47 5,qc 48 .add 47 1,qm 5 48] [2,3,5])))))) (qS [qz 4 true] [4] .ret))))⟩)
theorem n117 : F117.n = 62 := rfl
theorem low117 : kV Tryz.prog (kpO F117) (kM [(6,[[0,1,2,3,4,5,6,7,8,9,10,11]])]) 117 = some F117 := by kernel_rfl
def F37 : FIR := laid (X := ⟨26, [.tmp 4], (qS [qz 4 false] [0,1] (.seq (qS [qm 6 0,qL 7 6,qm 8 1,qL 9 8,qb 10 .neq 7 9] [0,1,10] (qC 10 (qS [qz 4 false] [4] .ret) .skip)) (.seq (qS [qk 5 0] [0,1,5] (.block 0 (.loop (.seq (qS [qm 11 5,qm 12 0,qL 13 12,qb 14 .lss 11 13] [0,1,5,14] (qC 14 .skip (.exit 0))) (.seq (.block 1 (.seq (qD [qm 17 0,qm 18 5,qi 19 1 17 18,ql 20 19,qm 21 1,qm 22 5,qi 23 1 21 22,ql 24 23,qb 25 .neq 20 24] [[0,1,2,3,4,5,6,7,8]] [0,1,5,25]) (qC 25 (qS [qz 4 false] [4] .ret) .skip))) (.reg [qm 15 5,qc 16 .add 15 1,qm 5 16] [0,1,5])))))) (qS [qz 4 true] [4] .ret))))⟩)
theorem n37 : F37.n = 26 := rfl
theorem low37 : kV Tryz.prog (kpO F37) (kM [(6,[[0,1,2,3,4,5,6,7,8]])]) 37 = some F37 := by kernel_rfl
def F77 : FIR := laid (X := ⟨53, [.tmp 4], (qS [qB 2 48 0,qB 3 48 1,qz 4 false] [2,3] (qS [qf 8 2 2,qN 9 5 8,qf 10 2 3,qN 11 5 10,qx 12 117 [9,11],qm 5 12] [2,3,5] (qS [qf 13 7 2,ql 14 13,qf 15 7 3,ql 16 15,qx 17 37 [14,16],qm 6 17] [2,3,5,6] (qS [qf 18 8 2,ql 19 18,qf 20 8 3,ql 21 20,qx 22 37 [19,21],qm 7 22] [2,3,5,6,7] (qS [qm 23 5,qm 24 23,qt 24 (qm 25 6),qa 26 24 25,qm 27 26,qt 27 (qm 28 7),qa 29 27 28,qm 30 29,qt 30 (qf 31 0 2),qt 30 (ql 32 31),
  qt 30 (qf 33 0 3),qt 30 (ql 34 33),qt 30 (qb 35 .eql 32 34),qa 36 30 35,qm 37 36,qt 37 (qf 38 1 2),qt 37 (ql 39 38),qt 37 (qf 40 1 3),qt 37 (ql 41 40),
  qt 37 (qb 42 .eql 39 41),qa 43 37 42,qm 44 43,qt 44 (qf 45 9 2),qt 44 (ql 46 45),qt 44 (qL 47 46),qt 44 (qf 48 9 3),qt 44 (ql 49 48),qt 44 (qL 50 49),
  qt 44 (qb 51 .eql 47 50),qa 52 44 51,qm 4 52] [4] .ret)))))⟩)
theorem n77 : F77.n = 53 := rfl
theorem low77 : kV Tryz.prog (kpO F77) (kM []) 77 = some F77 := by kernel_rfl
def F30 : FIR := laid (X := ⟨32, [.tmp 4], (qS [qB 2 48 0,qB 3 48 1,qz 4 false] [2,3] (qS [qN 7 11 2,qN 8 11 3,qx 9 77 [7,8],qm 5 9] [2,3,5] (.seq (qS [qk 6 0] [2,3,5,6] (.block 0 (.loop (.seq (qS [qm 10 6,qf 11 9 2,ql 12 11,qL 13 12,qb 14 .lss 10 13,qm 15 14,qt 15 (qm 16 5),qa 17 15 16] [2,3,5,6,17] (qC 17 .skip (.exit 0))) (.seq (.block 1 (qD [qf 20 9 2,ql 21 20,qm 22 6,qi 23 11 21 22,qN 24 11 23,qf 25 9 3,ql 26 25,qm 27 6,qi 28 11 26 27,qN 29 11 28,qx 30 30 [24,29],
  qm 5 30] [[0,1,2,3,4,5,6,7,8,9,10,11]] [2,3,5,6])) (.reg [qm 18 6,qc 19 .add 18 1,qm 6 19] [2,3,5,6])))))) (qS [qm 31 5,qm 4 31] [4] .ret))))⟩)
theorem n30 : F30.n = 32 := rfl
theorem low30 : kV Tryz.prog (kpO F30) (kM [(5,[[0,1,2,3,4,5,6,7,8,9,10,11]])]) 30 = some F30 := by kernel_rfl
def F40 : FIR := laid (X := ⟨40, [.tmp 4], (qS [qB 2 48 0,qB 3 48 1,qz 4 false] [2,3] (qS [qN 8 11 2,qN 9 11 3,qx 10 77 [8,9],qm 5 10] [2,3,5] (.seq (qS [qm 11 5,qo 12 (.un .not (.tmp 11)),qm 13 12,qu 13 (qf 14 10 2),qu 13 (ql 15 14),qu 13 (qf 16 10 3),qu 13 (ql 17 16),
  qu 13 (qb 18 .neq 15 17),qr 19 13 18] [2,3,19] (qC 19 (qS [qz 4 false] [4] .ret) .skip)) (.seq (qS [qk 6 0] [2,3,6] (.block 0 (.loop (.seq (qS [qm 20 6,qf 21 9 2,ql 22 21,qL 23 22,qb 24 .lss 20 23] [2,3,6,24] (qC 24 .skip (.exit 0))) (.seq (.block 1 (.seq (qD [qf 27 9 2,ql 28 27,qm 29 6,qi 30 11 28 29,qN 31 11 30,qf 32 9 3,ql 33 32,qm 34 6,qi 35 11 33 34,qN 36 11 35,qx 37 40 [31,36],
  qm 7 37] [[0,1,2,3,4,5,6,7,8,9,10,11]] [2,3,6,7]) (qS [qm 38 7,qo 39 (.un .not (.tmp 38))] [2,3,6,39] (qC 39 (qS [qz 4 false] [4] .ret) .skip)))) (.reg [qm 25 6,qc 26 .add 25 1,qm 6 26] [2,3,6])))))) (qS [qz 4 true] [4] .ret)))))⟩)
theorem n40 : F40.n = 40 := rfl
theorem low40 : kV Tryz.prog (kpO F40) (kM [(7,[[0,1,2,3,4,5,6,7,8,9,10,11]])]) 40 = some F40 := by kernel_rfl
def F18 : FIR := laid (X := ⟨82, [.tmp 6], (qS [qB 3 25 0,qB 4 25 1,qz 6 false] [2,3,4] (qS [qf 11 1 3,ql 12 11,qf 13 1 4,ql 14 13,qx 15 37 [12,14],qm 7 15] [2,3,4,7] (qS [qf 16 2 3,ql 17 16,qf 18 2 4,ql 19 18,qx 20 37 [17,19],qm 8 20] [2,3,4,7,8] (.seq (qS [qm 21 7,qo 22 (.un .not (.tmp 21)),qm 23 22,qu 23 (qm 24 8),qu 23 (qo 25 (.un .not (.tmp 24))),qr 26 23 25,qm 27 26,
  qu 27 (qf 28 0 3),qu 27 (ql 29 28),qu 27 (qf 30 0 4),qu 27 (ql 31 30),qu 27 (qb 32 .neq 29 31),qr 33 27 32,qm 34 33,qu 34 (qf 35 3 3),qu 34 (ql 36 35),
  qu 34 (qf 37 3 4),qu 34 (ql 38 37),qu 34 (qb 39 .neq 36 38),qr 40 34 39,qm 41 40,qu 41 (qf 42 4 3),qu 41 (ql 43 42),qu 41 (qL 44 43),qu 41 (qf 45 4 4),
  qu 41 (ql 46 45),qu 41 (qL 47 46),qu 41 (qb 48 .neq 44 47),qr 49 41 48] [2,3,4,49] (qC 49 (qS [qz 6 false] [6] .ret) .skip)) (.seq (qS [qk 9 0] [2,3,4,9] (.block 0 (.loop (.seq (qS [qm 50 9,qf 51 4 3,ql 52 51,qL 53 52,qb 54 .lss 50 53] [2,3,4,9,54] (qC 54 .skip (.exit 0))) (.seq (.block 1 (.seq (qD [qf 57 4 3,ql 58 57,qm 59 9,qi 60 11 58 59,qN 61 11 60,qf 62 4 4,ql 63 62,qm 64 9,qi 65 11 63 64,qN 66 11 65,qx 67 30 [61,66],
  qm 10 67] [[0,1,2,3,4,5,6,7,8,9,10,11]] [2,3,4,9,10]) (.seq (qS [qm 68 2] [2,3,4,9,10,68] (qC 68 (qD [qf 69 4 3,ql 70 69,qm 71 9,qi 72 11 70 71,qN 73 11 72,qf 74 4 4,ql 75 74,qm 76 9,qi 77 11 75 76,qN 78 11 77,qx 79 40 [73,78],
  qm 10 79] [[0,1,2,3,4,5,6,7,8,9,10,11]] [2,3,4,9,10]) .skip)) (qS [qm 80 10,qo 81 (.un .not (.tmp 80))] [2,3,4,9,81] (qC 81 (qS [qz 6 false] [6] .ret) .skip))))) (.reg [qm 55 9,qc 56 .add 55 1,qm 9 56] [2,3,4,9])))))) (qS [qz 6 true] [6] .ret))))))⟩)
theorem n18 : F18.n = 82 := rfl
theorem low18 : kV Tryz.prog (kpO F18) (kM [(8,[[0,1,2,3,4,5,6,7,8,9,10,11]]), (10,[[0,1,2,3,4,5,6,7,8,9,10,11]])]) 18 = some F18 := by kernel_rfl
def F43 : FIR := laid (X := ⟨34, [.tmp 2], (qS [qB 1 25 0,qk 2 0] [1] (qS [qf 5 1 1,ql 6 5,qf 7 0 1,ql 8 7,qo 9 (.lenS (.tmp 8)),qx 10 86 [6,9],qm 3 10] [1,3] (qS [qf 11 2 1,ql 12 11,qm 13 3,qx 14 86 [12,13],qm 3 14] [1,3] (.seq (qS [qk 4 0] [1,3,4] (.block 0 (.loop (.seq (qS [qm 15 4,qf 16 4 1,ql 17 16,qL 18 17,qb 19 .lss 15 18,qm 20 19,qt 20 (qm 21 3),qt 20 (qc 22 .leq 21 262144),qa 23 20 22] [1,3,4,23] (qC 23 .skip (.exit 0))) (.seq (.block 1 (.reg [qf 26 4 1,ql 27 26,qm 28 4,qi 29 11 27 28,qN 30 11 29,qm 31 3,
  qo 32 (.call 70 [(.tmp 30), (.tmp 31), (.const (.int .i64 0))]),qm 3 32] [1,3,4])) (.reg [qm 24 4,qc 25 .add 24 1,qm 4 25] [1,3,4])))))) (qS [qm 33 3,qm 2 33] [2] .ret)))))⟩)
theorem n43 : F43.n = 34 := rfl
theorem low43 : kV Tryz.prog (kpO F43) (kM []) 43 = some F43 := by kernel_rfl
def F11 : FIR := laid (X := ⟨6, [.tmp 2], (qS [qB 1 25 0,qz 2 false] [1] (qS [qN 3 5 1,qx 4 43 [3],qc 5 .gtr 4 262144,qm 2 5] [2] .ret))⟩)
theorem n11 : F11.n = 6 := rfl
theorem low11 : kV Tryz.prog (kpO F11) (kM []) 11 = some F11 := by kernel_rfl
end Go.Proofs.YtmnmandpdadedaaGreatDoor
namespace Go.Proofs.YtmnmandpdadedaaGreatDoor
open Go Go.V
set_option maxRecDepth 100000
end Go.Proofs.YtmnmandpdadedaaGreatDoor
namespace Go.Proofs.YtmnmandpdadedaaGreatDoor
open Go Go.V
set_option maxRecDepth 100000
def F84 : FIR := laid (X := ⟨24, [.cellN 2 5], (qS [qB 1 46 0,
  qo 2 (.alloc 46 [(.int .u8 0), (.int .i64 0), (.int .u64 0), (.string ⟨#[]⟩), (.slice none 0 0)])] [1,2] (qS [qo 3 (.mv (.const (.slice none 0 0)))] [1,2,3] (.seq (qS [qk 4 0] [1,2,3,4] (.block 0 (.loop (.seq (qS [qm 5 4,qf 6 4 1,ql 7 6,qL 8 7,qb 9 .lss 5 8] [1,2,3,4,9] (qC 9 .skip (.exit 0))) (.seq (.block 1 (.reg [qm 12 3,qf 13 4 1,ql 14 13,qm 15 4,qi 16 5 14 15,qN 17 5 16,qx 18 84 [17],
  qo 19 (.bslice 46 1 [(.int .u8 0), (.int .i64 0), (.int .u64 0), (.string ⟨#[]⟩), (.slice none 0 0)] [(0, 5, (.tmp 18))]),
  qo 20 (.append 46 5 64 [(.int .u8 0), (.int .i64 0), (.int .u64 0), (.string ⟨#[]⟩), (.slice none 0 0)] (.tmp 12) (.tmp 19)),
  qm 3 20] [1,2,3,4])) (.reg [qm 10 4,qc 11 .add 10 1,qm 4 11] [1,2,3,4])))))) (qS [qm 21 3,qf 22 4 1,qs 1 22 21] [1,2] (qS [qN 23 5 1,qs 5 2 23] [2] .ret)))))⟩)
theorem n84 : F84.n = 24 := rfl
theorem low84 : kV Tryz.prog (kpO F84) (kM []) 84 = some F84 := by kernel_rfl
def F85 : FIR := laid (X := ⟨7, [.tmp 2], (qS [qo 2 (.mv (.const (.slice none 0 0)))] [0] (qS [qo 3 (.mv (.const (.slice none 0 0)))] [0,3] (qS [qm 4 3,qm 5 0,qo 6 (.append 9 1 16 [(.string ⟨#[]⟩)] (.tmp 4) (.tmp 5)),qm 2 6] [2] .ret)))⟩)
theorem n85 : F85.n = 7 := rfl
theorem low85 : kV Tryz.prog (kpO F85) (kM []) 85 = some F85 := by kernel_rfl
def F41 : FIR := laid (X := ⟨38, [.cellN 2 11], (qS [qB 1 48 0,
  qo 2 (.alloc 48 [(.int .u8 0), (.string ⟨#[]⟩), (.int .u8 0), (.int .i64 0), (.int .u64 0), (.string ⟨#[]⟩), (.slice none 0 0), (.slice none 0 0), (.slice none 0 0), (.slice none 0 0), (.int .i64 0)])] [1,2] (qS [qo 3 (.mv (.const (.slice none 0 0)))] [1,2,3] (.seq (qS [qk 4 0] [1,2,3,4] (.block 0 (.loop (.seq (qS [qm 5 4,qf 6 9 1,ql 7 6,qL 8 7,qb 9 .lss 5 8] [1,2,3,4,9] (qC 9 .skip (.exit 0))) (.seq (.block 1 (.reg [qm 12 3,qf 13 9 1,ql 14 13,qm 15 4,qi 16 11 14 15,qN 17 11 16,qx 18 41 [17],
  qo 19 (.bslice 48 1 [(.int .u8 0), (.string ⟨#[]⟩), (.int .u8 0), (.int .i64 0), (.int .u64 0), (.string ⟨#[]⟩), (.slice none 0 0), (.slice none 0 0), (.slice none 0 0), (.slice none 0 0), (.int .i64 0)] [(0, 11, (.tmp 18))]),
  qo 20 (.append 48 11 168 [(.int .u8 0), (.string ⟨#[]⟩), (.int .u8 0), (.int .i64 0), (.int .u64 0), (.string ⟨#[]⟩), (.slice none 0 0), (.slice none 0 0), (.slice none 0 0), (.slice none 0 0), (.int .i64 0)] (.tmp 12) (.tmp 19)),
  qm 3 20] [1,2,3,4])) (.reg [qm 10 4,qc 11 .add 10 1,qm 4 11] [1,2,3,4])))))) (.seq (.free [qf 21 0 1,ql 22 21,qf 23 1 1,ql 24 23,qf 25 2 1,qN 26 5 25,qx 27 84 [26],qf 28 7 1,ql 29 28,qx 30 85 [29],qf 31 8 1,ql 32 31,
  qx 33 85 [32],qm 34 3,qf 35 10 1,ql 36 35,
  qo 37 (.build [(.int .u8 0), (.string ⟨#[]⟩), (.int .u8 0), (.int .i64 0), (.int .u64 0), (.string ⟨#[]⟩), (.slice none 0 0), (.slice none 0 0), (.slice none 0 0), (.slice none 0 0), (.int .i64 0)] [(0, 1, (.tmp 22)), (1, 1, (.tmp 24)), (2, 5, (.tmp 27)), (7, 1, (.tmp 30)), (8, 1, (.tmp 33)), (9, 1, (.tmp 34)), (10, 1, (.tmp 36))]),
  qs 11 2 37] [[], [0], [], [2], [], [4], [4,5], [], [7], [5,4,6,7,8], [], [10], [8,7,6,4,5,9,10,11], [], [], [14], [14,15,13,11,10,12,8,7,9,5,4,6,2,3,0,1], [1,0,3,2,6,4,5,9,7,8,12,10,11,13,15,14,16]] [2]) .ret))))⟩)
theorem n41 : F41.n = 38 := rfl
theorem low41 : kV Tryz.prog (kpO F41) (kM [(6,[])]) 41 = some F41 := by kernel_rfl
end Go.Proofs.YtmnmandpdadedaaGreatDoor
namespace Go.Proofs.YtmnmandpdadedaaGreatDoor
open Go Go.V
set_option maxRecDepth 100000
def F135 : FIR := laid (X := ⟨21, [.tmp 2], (qS [qz 2 false] [0] (qS [qm 3 0,qo 4 (.bin .geq (.tmp 3) (.const (.int .u8 97))),qm 5 4,qt 5 (qm 6 0),
  qt 5 (qo 7 (.bin .leq (.tmp 6) (.const (.int .u8 122)))),qa 8 5 7,qm 9 8,qu 9 (qm 10 0),
  qu 9 (qo 11 (.bin .geq (.tmp 10) (.const (.int .u8 65)))),qu 9 (qm 12 11),qt 12 (qm 13 0),
  qt 12 (qo 14 (.bin .leq (.tmp 13) (.const (.int .u8 90)))),qu 9 (qa 15 12 14),qr 16 9 15,qm 17 16,qu 17 (qm 18 0),
  qu 17 (qo 19 (.bin .eql (.tmp 18) (.const (.int .u8 95)))),qr 20 17 19,qm 2 20] [2] .ret))⟩)
theorem n135 : F135.n = 21 := rfl
theorem low135 : kV Tryz.prog (kpO F135) (kM []) 135 = some F135 := by kernel_rfl
def F137 : FIR := laid (X := ⟨9, [.tmp 2], (qS [qz 2 false] [0] (qS [qm 3 0,qo 4 (.bin .geq (.tmp 3) (.const (.int .u8 48))),qm 5 4,qt 5 (qm 6 0),
  qt 5 (qo 7 (.bin .leq (.tmp 6) (.const (.int .u8 57)))),qa 8 5 7,qm 2 8] [2] .ret))⟩)
theorem n137 : F137.n = 9 := rfl
theorem low137 : kV Tryz.prog (kpO F137) (kM []) 137 = some F137 := by kernel_rfl
def F151 : FIR := laid (X := ⟨9, [.tmp 2], (qS [qz 2 false] [0] (qS [qm 3 0,qx 4 135 [3],qm 5 4,qu 5 (qm 6 0),qu 5 (qx 7 137 [6]),qr 8 5 7,qm 2 8] [2] .ret))⟩)
theorem n151 : F151.n = 9 := rfl
theorem low151 : kV Tryz.prog (kpO F151) (kM []) 151 = some F151 := by kernel_rfl
def F104 : FIR := laid (X := ⟨16, [.tmp 2], (qS [qz 2 false] [0] (qS [qo 3 (.mv (.const (.string ⟨#[43, 45, 42, 47, 92, 126, 60, 62, 61, 64, 37, 38, 63, 44, 33]⟩)))] [0,3] (.seq (qS [qk 4 0] [0,3,4] (.block 0 (.loop (.seq (qS [qm 5 4,qm 6 3,qo 7 (.lenS (.tmp 6)),qb 8 .lss 5 7] [0,3,4,8] (qC 8 .skip (.exit 0))) (.seq (.block 1 (qS [qm 11 3,qm 12 4,qo 13 (.idxS (.tmp 11) (.tmp 12)),qm 14 0,qb 15 .eql 13 14] [0,3,4,15] (qC 15 (qS [qz 2 true] [2] .ret) .skip))) (.reg [qm 9 4,qc 10 .add 9 1,qm 4 10] [0,3,4])))))) (qS [qz 2 false] [2] .ret))))⟩)
theorem n104 : F104.n = 16 := rfl
theorem low104 : kV Tryz.prog (kpO F104) (kM []) 104 = some F104 := by kernel_rfl
def F138 : FIR := laid (X := ⟨12, [.tmp 4], (qS [qo 4 (.mv (.const (.int .u8 0)))] [0,1] (.seq (qS [qm 5 1,qm 6 0,qo 7 (.lenS (.tmp 6)),qb 8 .lss 5 7] [0,1,8] (qC 8 (qS [qm 9 0,qm 10 1,qo 11 (.idxS (.tmp 9) (.tmp 10)),qm 4 11] [4] .ret) .skip)) (qS [qo 4 (.mv (.const (.int .u8 0)))] [4] .ret)))⟩)
theorem n138 : F138.n = 12 := rfl
theorem low138 : kV Tryz.prog (kpO F138) (kM []) 138 = some F138 := by kernel_rfl
def F136 : FIR := laid (X := ⟨18, [.tmp 4], (qS [qk 4 0] [0,1] (.seq (.block 0 (.loop (.seq (qS [qm 5 1,qm 6 0,qo 7 (.lenS (.tmp 6)),qb 8 .lss 5 7,qm 9 8,qt 9 (qm 10 0),qt 9 (qm 11 1),qt 9 (qo 12 (.idxS (.tmp 10) (.tmp 11))),
  qt 9 (qx 13 151 [12]),qa 14 9 13] [0,1,14] (qC 14 .skip (.exit 0))) (.block 1 (.reg [qm 15 1,qc 16 .add 15 1,qm 1 16] [0,1]))))) (qS [qm 17 1,qm 4 17] [4] .ret)))⟩)
theorem n136 : F136.n = 18 := rfl
theorem low136 : kV Tryz.prog (kpO F136) (kM []) 136 = some F136 := by kernel_rfl
def F105 : FIR := laid (X := ⟨45, [.tmp 4], (qS [qk 4 0] [0,1] (.seq (qS [qm 6 0,qm 7 1,qo 8 (.idxS (.tmp 6) (.tmp 7)),qo 9 (.bin .eql (.tmp 8) (.const (.int .u8 124)))] [0,1,9] (qC 9 (qS [qm 10 1,qc 11 .add 10 1,qm 4 11] [4] .ret) .skip)) (qS [qm 12 1,qm 5 12] [0,1,5] (.seq (.block 0 (.loop (.seq (qS [qm 13 5,qm 14 0,qo 15 (.lenS (.tmp 14)),qb 16 .lss 13 15,qm 17 16,qt 17 (qm 18 0),qt 17 (qm 19 5),
  qt 17 (qo 20 (.idxS (.tmp 18) (.tmp 19))),qt 17 (qx 21 104 [20]),qa 22 17 21,qm 23 22,qt 23 (qm 24 5),qt 23 (qm 25 1),qt 23 (qb 26 .gtr 24 25),
  qt 23 (qm 27 26),qt 27 (qm 28 0),qt 27 (qm 29 5),qt 27 (qo 30 (.idxS (.tmp 28) (.tmp 29))),
  qt 27 (qo 31 (.bin .eql (.tmp 30) (.const (.int .u8 45)))),qt 23 (qa 32 27 31),qt 23 (qm 33 32),qt 33 (qm 34 0),qt 33 (qm 35 5),
  qt 33 (qc 36 .add 35 1),qt 33 (qx 37 138 [34,36]),qt 33 (qx 38 137 [37]),qt 23 (qa 39 33 38),qt 23 (qo 40 (.un .not (.tmp 39))),qa 41 23 40] [0,1,5,41] (qC 41 .skip (.exit 0))) (.block 1 (.reg [qm 42 5,qc 43 .add 42 1,qm 5 43] [0,1,5]))))) (qS [qm 44 5,qm 4 44] [4] .ret)))))⟩)
theorem n105 : F105.n = 45 := rfl
theorem low105 : kV Tryz.prog (kpO F105) (kM []) 105 = some F105 := by kernel_rfl
def F159 : FIR := laid (X := ⟨14, [.tmp 2], (qS [qo 2 (.mv (.const (.string ⟨#[]⟩)))] [0] (.seq (.block 0 (.loop (.seq (qS [qm 3 0,qo 4 (.lenS (.tmp 3)),qc 5 .gtr 4 1,qm 6 5,qt 6 (qm 7 0),qt 6 (qo 8 (.idxS (.tmp 7) (.const (.int .i64 0)))),
  qt 6 (qo 9 (.bin .eql (.tmp 8) (.const (.int .u8 48)))),qa 10 6 9] [0,10] (qC 10 .skip (.exit 0))) (.block 1 (.reg [qm 11 0,qo 12 (.slcS (.tmp 11) (some (.const (.int .i64 1))) none),qm 0 12] [0]))))) (qS [qm 13 0,qm 2 13] [2] .ret)))⟩)
theorem n159 : F159.n = 14 := rfl
theorem low159 : kV Tryz.prog (kpO F159) (kM []) 159 = some F159 := by kernel_rfl
def F167 : FIR := laid (X := ⟨22, [.tmp 4], (qS [qz 4 false] [0,1] (qS [qm 5 0,qo 6 (.lenS (.tmp 5)),qm 7 1,qo 8 (.lenS (.tmp 7)),qb 9 .gtr 6 8,qm 10 9,qu 10 (qm 11 0),qu 10 (qo 12 (.lenS (.tmp 11))),
  qu 10 (qm 13 1),qu 10 (qo 14 (.lenS (.tmp 13))),qu 10 (qb 15 .eql 12 14),qu 10 (qm 16 15),qt 16 (qm 17 0),qt 16 (qm 18 1),qt 16 (qb 19 .gtr 17 18),
  qu 10 (qa 20 16 19),qr 21 10 20,qm 4 21] [4] .ret))⟩)
theorem n167 : F167.n = 22 := rfl
theorem low167 : kV Tryz.prog (kpO F167) (kM []) 167 = some F167 := by kernel_rfl
def F160 : FIR := laid (X := ⟨30, [.cellN 4 5], (qS [qo 4 (.alloc 46 [(.int .u8 0), (.int .i64 0), (.int .u64 0), (.string ⟨#[]⟩), (.slice none 0 0)])] [0,1,4] (.seq (qS [qm 8 0,qo 9 (.bin .eql (.tmp 8) (.const (.string ⟨#[48]⟩)))] [0,1,4,9] (qC 9 (qS [qo 10 (.build [(.int .u8 0), (.int .i64 0), (.int .u64 0), (.string ⟨#[]⟩), (.slice none 0 0)] [(0, 1, (.const (.int .u8 4)))]),
  qs 5 4 10] [4] .ret) .skip)) (qS [qo 5 (.mv (.const (.string ⟨#[49, 49, 53, 50, 57, 50, 49, 53, 48, 52, 54, 48, 54, 56, 52, 54, 57, 55, 53]⟩)))] [0,1,4,5] (.seq (qS [qm 11 1] [0,1,4,5,11] (qC 11 (.reg [qo 5 (.mv (.const (.string ⟨#[49, 49, 53, 50, 57, 50, 49, 53, 48, 52, 54, 48, 54, 56, 52, 54, 57, 55, 54]⟩)))] [0,1,4,5]) .skip)) (.seq (qS [qm 12 0,qm 13 5,qx 14 167 [12,13]] [0,1,4,14] (qC 14 (.seq (qS [qm 15 1] [0,4,15] (qC 15 (.reg [qm 16 0,qo 17 (.bin .add (.const (.string ⟨#[45]⟩)) (.tmp 16)),qm 0 17] [0,4]) .skip)) (qS [qm 18 0,
  qo 19 (.build [(.int .u8 0), (.int .i64 0), (.int .u64 0), (.string ⟨#[]⟩), (.slice none 0 0)] [(0, 1, (.const (.int .u8 5))), (3, 1, (.tmp 18))]),
  qs 5 4 19] [4] .ret)) .skip)) (qS [qm 21 0,qo 22 (.call 166 [(.tmp 21), (.const (.int .i64 10)), (.const (.int .i64 64))]),qm 20 22,qe 23 20 0,
  qe 24 20 1,qm 6 23,qm 7 24] [1,4,6] (.seq (qS [qm 25 1] [4,6,25] (qC 25 (.reg [qm 26 6,qo 27 (.un .neg (.tmp 26)),qm 6 27] [4,6]) .skip)) (qS [qm 28 6,
  qo 29 (.build [(.int .u8 0), (.int .i64 0), (.int .u64 0), (.string ⟨#[]⟩), (.slice none 0 0)] [(0, 1, (.const (.int .u8 4))), (1, 1, (.tmp 28))]),
  qs 5 4 29] [4] .ret))))))))⟩)
theorem n160 : F160.n = 30 := rfl
theorem low160 : kV Tryz.prog (kpO F160) (kM []) 160 = some F160 := by kernel_rfl
def F103 : FIR := laid (X := ⟨23, [.tmp 2], (qS [qz 2 false] [0] (qS [qm 3 0,qo 4 (.lenS (.tmp 3)),qc 5 .gtr 4 0,qm 6 5,qt 6 (qm 7 0),qt 6 (qo 8 (.lenS (.tmp 7))),qt 6 (qc 9 .leq 8 40),qa 10 6 9,
  qm 11 10,qt 11 (qm 12 0),qt 11 (qo 13 (.idxS (.tmp 12) (.const (.int .i64 0)))),qt 11 (qx 14 135 [13]),qa 15 11 14,qm 16 15,qt 16 (qm 17 0),
  qt 16 (qo 18 (.call 136 [(.tmp 17), (.const (.int .i64 0))])),qt 16 (qm 19 0),qt 16 (qo 20 (.lenS (.tmp 19))),qt 16 (qb 21 .eql 18 20),
  qa 22 16 21,qm 2 22] [2] .ret))⟩)
theorem n103 : F103.n = 23 := rfl
theorem low103 : kV Tryz.prog (kpO F103) (kM []) 103 = some F103 := by kernel_rfl
def F106 : FIR := laid (X := ⟨32, [.tmp 2], (qS [qk 2 0] [0] (qS [qk 3 0] [0,3] (qS [qk 4 0] [0,3,4] (.seq (.block 0 (.loop (.seq (qS [qm 7 4,qm 8 0,qo 9 (.lenS (.tmp 8)),qb 10 .lss 7 9] [0,3,4,10] (qC 10 .skip (.exit 0))) (.block 1 (qS [qm 11 0,qm 12 4,qx 13 136 [11,12],qm 5 13] [0,3,4,5] (qS [qm 14 0,qm 15 4,qm 16 5,qo 17 (.slcS (.tmp 14) (some (.tmp 15)) (some (.tmp 16))),qx 18 103 [17],qm 6 18] [0,3,5,6] (.seq (qS [qm 19 6,qo 20 (.un .not (.tmp 19)),qm 21 20,qu 21 (qm 22 0),qu 21 (qm 23 5),qu 21 (qx 24 138 [22,23]),
  qu 21 (qo 25 (.bin .neq (.tmp 24) (.const (.int .u8 58)))),qr 26 21 25] [0,3,5,26] (qC 26 (qS [qk 2 (-1)] [2] .ret) .skip)) (qS [qm 27 3,qc 28 .add 27 1,qm 3 28] [0,3,5] (.reg [qm 29 5,qc 30 .add 29 1,qm 4 30] [0,3,4]))))))))) (qS [qm 31 3,qm 2 31] [2] .ret)))))⟩)
theorem n106 : F106.n = 32 := rfl
theorem low106 : kV Tryz.prog (kpO F106) (kM []) 106 = some F106 := by kernel_rfl
def F65 : FIR := laid (X := ⟨28, [.tmp 2], (qS [qk 2 0] [0] (qS [qm 4 0,qx 5 103 [4],qm 3 5] [0,3] (.seq (.block 0 (qS [qm 7 0,qo 8 (.lenS (.tmp 7)),qc 9 .eql 8 0,qm 6 9] [0,3,6] (qC 6 (qS [qk 2 (-1)] [2] .ret) (qS [qm 11 3,qm 10 11] [0,10] (qC 10 (qS [qk 2 0] [2] .ret) (qS [qm 13 0,qo 14 (.idxS (.tmp 13) (.const (.int .i64 0))),qx 15 104 [14],qm 16 15,qu 16 (qm 17 0),
  qu 16 (qo 18 (.idxS (.tmp 17) (.const (.int .i64 0)))),qu 16 (qo 19 (.bin .eql (.tmp 18) (.const (.int .u8 124)))),qr 20 16 19,
  qm 12 20] [0,12] (qC 12 (.seq (qS [qm 21 0,qo 22 (.call 105 [(.tmp 21), (.const (.int .i64 0))]),qm 23 0,qo 24 (.lenS (.tmp 23)),qb 25 .eql 22 24] [25] (qC 25 (qS [qk 2 1] [2] .ret) .skip)) (qS [qk 2 (-1)] [2] .ret)) .skip))))))) (qS [qm 26 0,qx 27 106 [26],qm 2 27] [2] .ret))))⟩)
theorem n65 : F65.n = 28 := rfl
theorem low65 : kV Tryz.prog (kpO F65) (kM []) 65 = some F65 := by kernel_rfl
def F152 : FIR := laid (X := ⟨38, [.cellN 2 5, .tmp 3], (qS [qo 2 (.alloc 46 [(.int .u8 0), (.int .i64 0), (.int .u64 0), (.string ⟨#[]⟩), (.slice none 0 0)]),
  qk 3 0] [0,2] (qS [qm 6 0,qo 7 (.call 138 [(.tmp 6), (.const (.int .i64 0))]),qo 8 (.bin .eql (.tmp 7) (.const (.int .u8 45))),
  qm 4 8] [0,2,4] (.seq (qS [qm 9 4] [0,2,4,9] (qC 9 (.reg [qm 10 0,qo 11 (.slcS (.tmp 10) (some (.const (.int .i64 1))) none),qm 0 11] [0,2,4]) .skip)) (.seq (qS [qk 5 0] [0,2,4,5] (.block 0 (.loop (.seq (qS [qm 12 5,qm 13 0,qo 14 (.lenS (.tmp 13)),qb 15 .lss 12 14] [0,2,4,5,15] (qC 15 .skip (.exit 0))) (.seq (.block 1 (qS [qm 18 0,qm 19 5,qo 20 (.idxS (.tmp 18) (.tmp 19)),qx 21 137 [20],qo 22 (.un .not (.tmp 21))] [0,2,4,5,22] (qC 22 (qS [qo 23 (.build [(.int .u8 0), (.int .i64 0), (.int .u64 0), (.string ⟨#[]⟩), (.slice none 0 0)] []),
  qs 5 2 23,qk 3 144] [2,3] .ret) .skip))) (.reg [qm 16 5,qc 17 .add 16 1,qm 5 17] [0,2,4,5])))))) (qS [qm 24 0,qx 25 159 [24],qm 0 25] [0,2,4] (.seq (qS [qm 26 0,qo 27 (.lenS (.tmp 26)),qc 28 .lss 27 1,qm 29 28,qu 29 (qm 30 0),qu 29 (qo 31 (.lenS (.tmp 30))),qu 29 (qc 32 .gtr 31 255),
  qr 33 29 32] [0,2,4,33] (qC 33 (qS [qo 34 (.build [(.int .u8 0), (.int .i64 0), (.int .u64 0), (.string ⟨#[]⟩), (.slice none 0 0)] []),
  qs 5 2 34,qk 3 144] [2,3] .ret) .skip)) (qS [qm 35 0,qm 36 4,qx 37 160 [35,36],qs 5 2 37,qk 3 0] [2,3] .ret)))))))⟩)
theorem n152 : F152.n = 38 := rfl
theorem low152 : kV Tryz.prog (kpO F152) (kM []) 152 = some F152 := by kernel_rfl
end Go.Proofs.YtmnmandpdadedaaGreatDoor
namespace Go.Proofs.YtmnmandpdadedaaGreatDoor
open Go Go.V
set_option maxRecDepth 100000
def F139 : FIR := laid (X := ⟨21, [.tmp 2], (qS [qz 2 false] [0] (qS [qm 3 0,qo 4 (.bin .eql (.tmp 3) (.const (.string ⟨#[115, 101, 108, 102]⟩))),qm 5 4,qu 5 (qm 6 0),
  qu 5 (qo 7 (.bin .eql (.tmp 6) (.const (.string ⟨#[115, 117, 112, 101, 114]⟩)))),qr 8 5 7,qm 9 8,qu 9 (qm 10 0),
  qu 9 (qo 11 (.bin .eql (.tmp 10) (.const (.string ⟨#[110, 105, 108]⟩)))),qr 12 9 11,qm 13 12,qu 13 (qm 14 0),
  qu 13 (qo 15 (.bin .eql (.tmp 14) (.const (.string ⟨#[116, 114, 117, 101]⟩)))),qr 16 13 15,qm 17 16,qu 17 (qm 18 0),
  qu 17 (qo 19 (.bin .eql (.tmp 18) (.const (.string ⟨#[102, 97, 108, 115, 101]⟩)))),qr 20 17 19,qm 2 20] [2] .ret))⟩)
theorem n139 : F139.n = 21 := rfl
theorem low139 : kV Tryz.prog (kpO F139) (kM []) 139 = some F139 := by kernel_rfl
def F107 : FIR := laid (X := ⟨14, [.tmp 2], (qS [qz 2 false] [0] (qS [qm 5 0,qx 6 103 [5],qm 3 6] [0,3] (qS [qm 7 0,qx 8 139 [7],qm 4 8] [3,4] (qS [qm 9 3,qm 10 9,qt 10 (qm 11 4),qt 10 (qo 12 (.un .not (.tmp 11))),qa 13 10 12,qm 2 13] [2] .ret))))⟩)
theorem n107 : F107.n = 14 := rfl
theorem low107 : kV Tryz.prog (kpO F107) (kM []) 107 = some F107 := by kernel_rfl
def F66 : FIR := laid (X := ⟨18, [.tmp 2], (qS [qz 2 false] [0] (.seq (qS [qk 3 0] [0,3] (.block 0 (.loop (.seq (qS [qm 5 3,qm 6 0,qL 7 6,qb 8 .lss 5 7] [0,3,8] (qC 8 .skip (.exit 0))) (.seq (.block 1 (qS [qm 11 0,qm 12 3,qi 13 1 11 12,ql 14 13,qx 15 107 [14],qm 4 15] [0,3,4] (qS [qm 16 4,qo 17 (.un .not (.tmp 16))] [0,3,17] (qC 17 (qS [qz 2 false] [2] .ret) .skip)))) (.reg [qm 9 3,qc 10 .add 9 1,qm 3 10] [0,3])))))) (qS [qz 2 true] [2] .ret)))⟩)
theorem n66 : F66.n = 18 := rfl
theorem low66 : kV Tryz.prog (kpO F66) (kM []) 66 = some F66 := by kernel_rfl
def F141 : FIR := laid (X := ⟨115, [.tmp 4], (qS [qB 2 46 0,qz 4 false] [1,2] (qS [qz 5 false] [1,2,5] (.seq (qS [qf 9 0 2,ql 10 9] [1,2,5,10] (.block 0 (.seq (qS [qo 12 (.bin .eql (.tmp 10) (.const (.int .u8 1))),qm 11 12] [1,2,5,10,11] (qC 11 .skip (qS [qo 13 (.bin .eql (.tmp 10) (.const (.int .u8 2))),qm 11 13] [1,2,5,10,11] (qC 11 .skip (.reg [qo 14 (.bin .eql (.tmp 10) (.const (.int .u8 3))),qm 11 14] [1,2,5,10,11]))))) (qC 11 (.reg [qm 15 1,qm 5 15] [2,5]) (qS [qo 17 (.bin .eql (.tmp 10) (.const (.int .u8 4))),qm 16 17] [2,5,10,16] (qC 16 (qS [qf 18 1 2,ql 19 18,qc 20 .geq 19 (-1152921504606846976),qm 21 20,qt 21 (qf 22 1 2),qt 21 (ql 23 22),
  qt 21 (qc 24 .leq 23 1152921504606846975),qa 25 21 24,qm 5 25] [2,5] (.reg [qf 26 1 2,⟨none,none,.store 1 (.tmp 26) (.const (.int .i64 0))⟩] [2,5])) (qS [qo 28 (.bin .eql (.tmp 10) (.const (.int .u8 5))),qm 27 28] [2,5,10,27] (qC 27 (qS [qf 30 3 2,ql 31 30,qx 32 152 [31],qm 29 32,qe 33 29 0,qe 34 29 1,
  qo 6 (.alloc 46 [(.int .u8 0), (.int .i64 0), (.int .u64 0), (.string ⟨#[]⟩), (.slice none 0 0)]),
  qs 5 6 33,qm 7 34] [2,6,7] (qS [qm 35 7,qc 36 .eql 35 0,qm 37 36,qt 37 (qf 38 0 6),qt 37 (ql 39 38),
  qt 37 (qo 40 (.bin .eql (.tmp 39) (.const (.int .u8 5)))),qa 41 37 40,qm 42 41,qt 42 (qf 43 3 6),qt 42 (ql 44 43),qt 42 (qf 45 3 2),
  qt 42 (ql 46 45),qt 42 (qb 47 .eql 44 46),qa 48 42 47,qm 5 48] [2,5] (.reg [qf 49 3 2,⟨none,none,.store 1 (.tmp 49) (.const (.string ⟨#[]⟩))⟩] [2,5]))) (qS [qo 51 (.bin .eql (.tmp 10) (.const (.int .u8 6))),qm 50 51] [2,5,10,50] (qC 50 (qS [qf 52 2 2,ql 53 52,qo 54 (.bin .shr (.tmp 53) (.const (.int .u64 52))),
  qo 55 (.bin .and (.tmp 54) (.const (.int .u64 2047))),qo 56 (.bin .neq (.tmp 55) (.const (.int .u64 2047))),qm 5 56] [2,5] (.reg [qf 57 2 2,⟨none,none,.store 1 (.tmp 57) (.const (.int .u64 0))⟩] [2,5])) (qS [qo 59 (.bin .eql (.tmp 10) (.const (.int .u8 7))),qm 58 59] [2,5,10,58] (qC 58 (qS [qf 60 1 2,ql 61 60,qc 62 .geq 61 0,qm 63 62,qt 63 (qf 64 1 2),qt 63 (ql 65 64),qt 63 (qc 66 .leq 65 255),qa 67 63 66,qm 5 67] [2,5] (.reg [qf 68 1 2,⟨none,none,.store 1 (.tmp 68) (.const (.int .i64 0))⟩] [2,5])) (.seq (qS [qo 70 (.bin .eql (.tmp 10) (.const (.int .u8 8))),qm 69 70] [2,5,10,69] (qC 69 .skip (qS [qo 71 (.bin .eql (.tmp 10) (.const (.int .u8 9))),qm 69 71] [2,5,10,69] (qC 69 .skip (.reg [qo 72 (.bin .eql (.tmp 10) (.const (.int .u8 11))),qm 69 72] [2,5,10,69]))))) (qC 69 (qS [qz 5 true] [2,5] (.reg [qf 73 3 2,⟨none,none,.store 1 (.tmp 73) (.const (.string ⟨#[]⟩))⟩] [2,5])) (qS [qo 75 (.bin .eql (.tmp 10) (.const (.int .u8 10))),qm 74 75] [2,5,74] (qC 74 (qS [qz 5 true] [2,5] (.seq (qS [qk 8 0] [2,5,8] (.block 1 (.loop (.seq (qS [qm 76 8,qf 77 4 2,ql 78 77,qL 79 78,qb 80 .lss 76 79,qm 81 80,qt 81 (qm 82 5),qa 83 81 82] [2,5,8,83] (qC 83 .skip (.exit 1))) (.seq (.block 2 (.reg [qf 86 4 2,ql 87 86,qm 88 8,qi 89 5 87 88,qN 90 5 89,qo 91 (.call 141 [(.tmp 90), (.const (.bool true))]),qm 5 91] [2,5,8])) (.reg [qm 84 8,qc 85 .add 84 1,qm 8 85] [2,5,8])))))) (.reg [qf 92 4 2,⟨none,none,.store 1 (.tmp 92) (.const (.slice none 0 0))⟩] [2,5]))) .skip)))))))))))))))) (qS [qm 93 5,qm 94 93,qt 94 (qf 95 1 2),qt 94 (ql 96 95),qt 94 (qc 97 .eql 96 0),qa 98 94 97,qm 99 98,qt 99 (qf 100 2 2),
  qt 99 (ql 101 100),qt 99 (qo 102 (.bin .eql (.tmp 101) (.const (.int .u64 0)))),qa 103 99 102,qm 104 103,qt 104 (qf 105 3 2),
  qt 104 (ql 106 105),qt 104 (qo 107 (.bin .eql (.tmp 106) (.const (.string ⟨#[]⟩)))),qa 108 104 107,qm 109 108,qt 109 (qf 110 4 2),
  qt 109 (ql 111 110),qt 109 (qL 112 111),qt 109 (qc 113 .eql 112 0),qa 114 109 113,qm 4 114] [4] .ret))))⟩)
theorem n141 : F141.n = 115 := rfl
theorem low141 : kV Tryz.prog (kpO F141) (kM []) 141 = some F141 := by kernel_rfl
def F142 : FIR := laid (X := ⟨49, [.tmp 2], (qS [qB 1 48 0,qz 2 false] [1] (qS [qf 3 1 1,ql 4 3,qo 5 (.bin .eql (.tmp 4) (.const (.string ⟨#[]⟩))),qm 6 5,qt 6 (qf 7 2 1),qt 6 (qf 8 0 7),qt 6 (ql 9 8),
  qt 6 (qo 10 (.bin .eql (.tmp 9) (.const (.int .u8 0)))),qa 11 6 10,qm 12 11,qt 12 (qf 13 2 1),qt 12 (qf 14 1 13),qt 12 (ql 15 14),
  qt 12 (qc 16 .eql 15 0),qa 17 12 16,qm 18 17,qt 18 (qf 19 2 1),qt 18 (qf 20 2 19),qt 18 (ql 21 20),
  qt 18 (qo 22 (.bin .eql (.tmp 21) (.const (.int .u64 0)))),qa 23 18 22,qm 24 23,qt 24 (qf 25 2 1),qt 24 (qf 26 3 25),qt 24 (ql 27 26),
  qt 24 (qo 28 (.bin .eql (.tmp 27) (.const (.string ⟨#[]⟩)))),qa 29 24 28,qm 30 29,qt 30 (qf 31 2 1),qt 30 (qf 32 4 31),qt 30 (ql 33 32),
  qt 30 (qL 34 33),qt 30 (qc 35 .eql 34 0),qa 36 30 35,qm 37 36,qt 37 (qf 38 7 1),qt 37 (ql 39 38),qt 37 (qL 40 39),qt 37 (qc 41 .eql 40 0),qa 42 37 41,
  qm 43 42,qt 43 (qf 44 8 1),qt 43 (ql 45 44),qt 43 (qL 46 45),qt 43 (qc 47 .eql 46 0),qa 48 43 47,qm 2 48] [2] .ret))⟩)
theorem n142 : F142.n = 49 := rfl
theorem low142 : kV Tryz.prog (kpO F142) (kM []) 142 = some F142 := by kernel_rfl
def F118 : FIR := laid (X := ⟨72, [.tmp 2, .tmp 3], (qS [qB 1 48 0,qz 2 false,qk 3 0] [1] (qS [qz 4 false] [1,4] (qS [qk 5 0] [1,4,5] (.seq (qS [qf 6 0 1,ql 7 6] [1,4,5,7] (.block 0 (qS [qo 9 (.bin .eql (.tmp 7) (.const (.int .u8 1))),qm 8 9] [1,4,5,7,8] (qC 8 (qS [qf 10 2 1,qN 11 5 10,qo 12 (.call 141 [(.tmp 11), (.const (.bool false))]),qm 4 12] [1,4,5] (.reg [qo 13 (.build [(.int .u8 0), (.int .i64 0), (.int .u64 0), (.string ⟨#[]⟩), (.slice none 0 0)] []),
  qf 14 2 1,qs 5 14 13] [1,4,5])) (qS [qo 16 (.bin .eql (.tmp 7) (.const (.int .u8 2))),qm 15 16] [1,4,5,7,15] (qC 15 (qS [qf 17 1 1,ql 18 17,qx 19 103 [18],qm 4 19] [1,4,5] (.reg [qf 20 1 1,⟨none,none,.store 1 (.tmp 20) (.const (.string ⟨#[]⟩))⟩] [1,4,5])) (qS [qo 22 (.bin .eql (.tmp 7) (.const (.int .u8 3))),qm 21 22] [1,4,5,7,21] (qC 21 (qS [qf 23 1 1,ql 24 23,qx 25 107 [24],qm 4 25] [1,4] (qS [qk 5 1] [1,4,5] (.reg [qf 26 1 1,⟨none,none,.store 1 (.tmp 26) (.const (.string ⟨#[]⟩))⟩] [1,4,5]))) (qS [qo 28 (.bin .eql (.tmp 7) (.const (.int .u8 4))),qm 27 28] [1,4,5,7,27] (qC 27 (qS [qf 29 1 1,ql 30 29,qx 31 65 [30],qc 32 .add 31 1,qm 5 32] [1,5] (qS [qm 33 5,qc 34 .gtr 33 0,qm 4 34] [1,4,5] (.reg [qf 35 1 1,⟨none,none,.store 1 (.tmp 35) (.const (.string ⟨#[]⟩))⟩] [1,4,5]))) (qS [qo 37 (.bin .eql (.tmp 7) (.const (.int .u8 5))),qm 36 37] [1,4,5,7,36] (qC 36 (qS [qf 38 9 1,ql 39 38,qL 40 39,qc 41 .gtr 40 2,qm 4 41] [1,4] (.reg [qk 5 (-1)] [1,4,5])) (qS [qo 43 (.bin .eql (.tmp 7) (.const (.int .u8 6))),qm 42 43] [1,4,5,7,42] (qC 42 (qS [qf 44 1 1,ql 45 44,qx 46 65 [45],qm 5 46] [1,5] (qS [qm 47 5,qc 48 .geq 47 0,qm 4 48] [1,4,5] (.reg [qf 49 1 1,⟨none,none,.store 1 (.tmp 49) (.const (.string ⟨#[]⟩))⟩] [1,4,5]))) (qS [qo 51 (.bin .eql (.tmp 7) (.const (.int .u8 7))),qm 50 51] [1,4,5,7,50] (qC 50 (qS [qf 52 7 1,ql 53 52,qx 54 66 [53],qm 55 54,qt 55 (qf 56 8 1),qt 55 (ql 57 56),qt 55 (qx 58 66 [57]),qa 59 55 58,qm 4 59] [1,4] (qS [qk 5 (-1)] [1,4,5] (qS [qf 60 7 1,⟨none,none,.store 1 (.tmp 60) (.const (.slice none 0 0))⟩] [1,4,5] (.reg [qf 61 8 1,⟨none,none,.store 1 (.tmp 61) (.const (.slice none 0 0))⟩] [1,4,5])))) (qS [qo 63 (.bin .eql (.tmp 7) (.const (.int .u8 8))),qm 62 63] [1,4,5,7,62] (qC 62 (qS [qz 4 true] [1,4] (.reg [qk 5 (-1)] [1,4,5])) (qS [qo 65 (.bin .eql (.tmp 7) (.const (.int .u8 9))),qm 64 65] [1,4,5,64] (qC 64 (qS [qz 4 true] [1,4] (.reg [qk 5 1] [1,4,5])) .skip)))))))))))))))))))) (qS [qm 66 4,qm 67 66,qt 67 (qN 68 11 1),qt 67 (qx 69 142 [68]),qa 70 67 69,qm 71 5,qm 2 70,qm 3 71] [2,3] .ret)))))⟩)
theorem n118 : F118.n = 72 := rfl
theorem low118 : kV Tryz.prog (kpO F118) (kM []) 118 = some F118 := by kernel_rfl
def F119 : FIR := laid (X := ⟨11, [.tmp 2], (qS [qB 1 48 0,qz 2 false] [1] (qS [qf 3 0 1,ql 4 3,qo 5 (.bin .eql (.tmp 4) (.const (.int .u8 2))),qm 6 5,qt 6 (qf 7 1 1),qt 6 (ql 8 7),
  qt 6 (qo 9 (.bin .eql (.tmp 8) (.const (.string ⟨#[115, 117, 112, 101, 114]⟩)))),qa 10 6 9,qm 2 10] [2] .ret))⟩)
theorem n119 : F119.n = 11 := rfl
theorem low119 : kV Tryz.prog (kpO F119) (kM []) 119 = some F119 := by kernel_rfl
def F79 : FIR := laid (X := ⟨98, [.tmp 2], (qS [qB 1 48 0,qz 2 false] [1] (qS [qN 11 11 1,qx 12 118 [11],qm 10 12,qe 13 10 0,qe 14 10 1,qm 3 13,qm 4 14] [1,3,4] (.seq (qS [qm 15 3,qo 16 (.un .not (.tmp 15)),qm 17 16,qu 17 (qm 18 4),qu 17 (qc 19 .geq 18 0),qu 17 (qm 20 19),qt 20 (qm 21 4),
  qt 20 (qf 22 9 1),qt 20 (ql 23 22),qt 20 (qL 24 23),qt 20 (qb 25 .neq 21 24),qu 17 (qa 26 20 25),qr 27 17 26] [1,27] (qC 27 (qS [qz 2 false] [2] .ret) .skip)) (.seq (qS [qk 5 0] [1,5] (.block 0 (.loop (.seq (qS [qm 28 5,qf 29 9 1,ql 30 29,qL 31 30,qb 32 .lss 28 31] [1,5,32] (qC 32 .skip (.exit 0))) (.seq (.block 1 (qS [qf 35 9 1,ql 36 35,qm 37 5,qi 38 11 36 37,qN 39 11 38,
  qo 6 (.alloc 48 [(.int .u8 0), (.string ⟨#[]⟩), (.int .u8 0), (.int .i64 0), (.int .u64 0), (.string ⟨#[]⟩), (.slice none 0 0), (.slice none 0 0), (.slice none 0 0), (.slice none 0 0), (.int .i64 0)]),
  qs 11 6 39] [1,5,6] (qS [qN 40 11 6,qx 41 79 [40],qm 3 41] [1,3,5,6] (qS [qm 42 5,qc 43 .eql 42 0,qm 44 43,qt 44 (qf 45 0 1),qt 44 (ql 46 45),
  qt 44 (qo 47 (.bin .eql (.tmp 46) (.const (.int .u8 4)))),qt 44 (qm 48 47),qu 48 (qf 49 0 1),qu 48 (ql 50 49),
  qu 48 (qo 51 (.bin .eql (.tmp 50) (.const (.int .u8 5)))),qt 44 (qr 52 48 51),qa 53 44 52,qm 7 53] [1,3,5,6,7] (qS [qm 54 5,qf 55 9 1,ql 56 55,qL 57 56,qc 58 .sub 57 1,qb 59 .eql 54 58,qm 60 59,qt 60 (qf 61 0 1),qt 60 (ql 62 61),
  qt 60 (qo 63 (.bin .eql (.tmp 62) (.const (.int .u8 7)))),qa 64 60 63,qm 8 64] [1,3,5,6,7,8] (qS [qf 65 0 1,ql 66 65,qo 67 (.bin .eql (.tmp 66) (.const (.int .u8 5))),qm 68 67,qt 68 (qm 69 5),qt 68 (qc 70 .gtr 69 0),
  qa 71 68 70,qm 9 71] [1,3,5,6,7,8,9] (qS [qm 72 3,qo 73 (.un .not (.tmp 72)),qm 74 73,qu 74 (qN 75 11 6),qu 74 (qx 76 119 [75]),qu 74 (qm 77 76),qt 77 (qm 78 7),
  qt 77 (qo 79 (.un .not (.tmp 78))),qu 74 (qa 80 77 79),qr 81 74 80,qm 82 81,qu 82 (qf 83 0 6),qu 82 (ql 84 83),
  qu 82 (qo 85 (.bin .eql (.tmp 84) (.const (.int .u8 9)))),qu 82 (qm 86 85),qt 86 (qm 87 8),qt 86 (qo 88 (.un .not (.tmp 87))),
  qu 82 (qa 89 86 88),qr 90 82 89,qm 91 90,qu 91 (qf 92 0 6),qu 91 (ql 93 92),qu 91 (qo 94 (.bin .eql (.tmp 93) (.const (.int .u8 6)))),
  qu 91 (qm 95 9),qu 91 (qo 96 (.eqb true (.tmp 94) (.tmp 95))),qr 97 91 96] [1,5,97] (qC 97 (qS [qz 2 false] [2] .ret) .skip)))))))) (.reg [qm 33 5,qc 34 .add 33 1,qm 5 34] [1,5])))))) (qS [qz 2 true] [2] .ret)))))⟩)
theorem n79 : F79.n = 98 := rfl
theorem low79 : kV Tryz.prog (kpO F79) (kM []) 79 = some F79 := by kernel_rfl
def F108 : FIR := laid (X := ⟨34, [.tmp 2], (qS [qB 1 46 0,qz 2 false] [1] (.seq (qS [qf 5 4 1,ql 6 5,qL 7 6,qc 8 .gtr 7 255,qm 9 8,qu 9 (qf 10 0 1),qu 9 (ql 11 10),
  qu 9 (qo 12 (.bin .eql (.tmp 11) (.const (.int .u8 11)))),qu 9 (qm 13 12),qt 13 (qf 14 3 1),qt 13 (ql 15 14),
  qt 13 (qo 16 (.lenS (.tmp 15))),qt 13 (qc 17 .gtr 16 255),qu 9 (qa 18 13 17),qr 19 9 18] [1,19] (qC 19 (qS [qz 2 true] [2] .ret) .skip)) (.seq (qS [qk 3 0] [1,3] (.block 0 (.loop (.seq (qS [qm 20 3,qf 21 4 1,ql 22 21,qL 23 22,qb 24 .lss 20 23] [1,3,24] (qC 24 .skip (.exit 0))) (.seq (.block 1 (qS [qf 27 4 1,ql 28 27,qm 29 3,qi 30 5 28 29,qN 31 5 30,qx 32 108 [31],qm 4 32] [1,3,4] (qS [qm 33 4] [1,3,33] (qC 33 (qS [qz 2 true] [2] .ret) .skip)))) (.reg [qm 25 3,qc 26 .add 25 1,qm 3 26] [1,3])))))) (qS [qz 2 false] [2] .ret))))⟩)
theorem n108 : F108.n = 34 := rfl
theorem low108 : kV Tryz.prog (kpO F108) (kM []) 108 = some F108 := by kernel_rfl
def F68 : FIR := laid (X := ⟨80, [.tmp 2], (qS [qB 1 48 0,qz 2 false] [1] (qS [qf 7 2 1,qN 8 5 7,qx 9 108 [8],qm 3 9] [1,3] (.seq (qS [qm 10 3,qm 11 10,qu 11 (qf 12 7 1),qu 11 (ql 13 12),qu 11 (qL 14 13),qu 11 (qc 15 .gtr 14 15),qr 16 11 15,qm 17 16,
  qu 17 (qf 18 8 1),qu 17 (ql 19 18),qu 17 (qL 20 19),qu 17 (qc 21 .gtr 20 63),qr 22 17 21] [1,22] (qC 22 (qS [qz 2 true] [2] .ret) .skip)) (qS [qf 23 0 1,ql 24 23,qo 25 (.bin .eql (.tmp 24) (.const (.int .u8 4))),qm 26 25,qt 26 (qf 27 9 1),qt 26 (ql 28 27),
  qt 26 (qL 29 28),qt 26 (qc 30 .gtr 29 16),qa 31 26 30,qm 32 31,qu 32 (qf 33 0 1),qu 32 (ql 34 33),
  qu 32 (qo 35 (.bin .eql (.tmp 34) (.const (.int .u8 6)))),qu 32 (qm 36 35),qt 36 (qf 37 9 1),qt 36 (ql 38 37),qt 36 (qL 39 38),
  qt 36 (qc 40 .gtr 39 15),qu 32 (qa 41 36 40),qr 42 32 41,qm 4 42] [1,4] (.seq (qS [qm 43 4,qm 44 43,qu 44 (qf 45 0 1),qu 44 (ql 46 45),qu 44 (qo 47 (.bin .eql (.tmp 46) (.const (.int .u8 5)))),
  qu 44 (qm 48 47),qt 48 (qf 49 9 1),qt 48 (ql 50 49),qt 48 (qL 51 50),qt 48 (qc 52 .gtr 51 256),qu 44 (qa 53 48 52),qr 54 44 53,qm 55 54,
  qu 55 (qf 56 0 1),qu 55 (ql 57 56),qu 55 (qo 58 (.bin .eql (.tmp 57) (.const (.int .u8 8)))),qu 55 (qm 59 58),qt 59 (qf 60 9 1),
  qt 59 (ql 61 60),qt 59 (qL 62 61),qt 59 (qc 63 .gtr 62 255),qu 55 (qa 64 59 63),qr 65 55 64] [1,65] (qC 65 (qS [qz 2 true] [2] .ret) .skip)) (.seq (qS [qk 5 0] [1,5] (.block 0 (.loop (.seq (qS [qm 66 5,qf 67 9 1,ql 68 67,qL 69 68,qb 70 .lss 66 69] [1,5,70] (qC 70 .skip (.exit 0))) (.seq (.block 1 (qS [qf 73 9 1,ql 74 73,qm 75 5,qi 76 11 74 75,qN 77 11 76,qx 78 68 [77],qm 6 78] [1,5,6] (qS [qm 79 6] [1,5,79] (qC 79 (qS [qz 2 true] [2] .ret) .skip)))) (.reg [qm 71 5,qc 72 .add 71 1,qm 5 72] [1,5])))))) (qS [qz 2 false] [2] .ret)))))))⟩)
theorem n68 : F68.n = 80 := rfl
theorem low68 : kV Tryz.prog (kpO F68) (kM []) 68 = some F68 := by kernel_rfl
def F120 : FIR := laid (X := ⟨14, [.tmp 2], (qS [qk 2 0] [0] (qS [qm 4 0,qx 5 65 [4],qm 3 5] [0,3] (.seq (qS [qm 6 3,qc 7 .eql 6 0] [0,7] (qC 7 (qS [qk 2 5] [2] .ret) .skip)) (.seq (qS [qm 8 0,qm 9 0,qo 10 (.lenS (.tmp 9)),qc 11 .sub 10 1,qo 12 (.idxS (.tmp 8) (.tmp 11)),
  qo 13 (.bin .eql (.tmp 12) (.const (.int .u8 58)))] [13] (qC 13 (qS [qk 2 3] [2] .ret) .skip)) (qS [qk 2 4] [2] .ret)))))⟩)
theorem n120 : F120.n = 14 := rfl
theorem low120 : kV Tryz.prog (kpO F120) (kM []) 120 = some F120 := by kernel_rfl
def F81 : FIR := laid (X := ⟨14, [.tmp 2], (qS [qB 1 48 0,qk 2 0] [1] (.seq (qS [qf 3 0 1,ql 4 3] [1,4] (.block 0 (qS [qo 6 (.bin .eql (.tmp 4) (.const (.int .u8 3))),qm 5 6] [1,4,5] (qC 5 (qS [qk 2 1] [2] .ret) (qS [qo 8 (.bin .eql (.tmp 4) (.const (.int .u8 5))),qm 7 8] [1,4,7] (qC 7 (qS [qk 2 2] [2] .ret) (qS [qo 10 (.bin .eql (.tmp 4) (.const (.int .u8 4))),qm 9 10] [1,9] (qC 9 (qS [qf 11 1 1,ql 12 11,qx 13 120 [12],qm 2 13] [2] .ret) .skip)))))))) (qS [qk 2 6] [2] .ret)))⟩)
theorem n81 : F81.n = 14 := rfl
theorem low81 : kV Tryz.prog (kpO F81) (kM []) 81 = some F81 := by kernel_rfl
def F140 : FIR := laid (X := ⟨57, [.tmp 4], (qS [qB 2 48 0,qk 4 0] [1,2] (qS [qf 8 1 2,ql 9 8,qm 5 9] [1,2,5] (qS [qm 10 1,qc 11 .eql 10 0,qm 12 11,qt 12 (qf 13 0 2),qt 12 (ql 14 13),
  qt 12 (qo 15 (.bin .eql (.tmp 14) (.const (.int .u8 4)))),qa 16 12 15,qm 6 16] [1,2,5,6] (.seq (qS [qf 17 0 2,ql 18 17,qo 19 (.bin .eql (.tmp 18) (.const (.int .u8 5)))] [1,2,5,6,19] (qC 19 (qS [qf 20 9 2,ql 21 20,qo 22 (.idxL 11 (.tmp 21) (.const (.int .i64 1))),qf 23 1 22,ql 24 23,qm 5 24] [1,2,5] (.reg [qm 25 1,qc 26 .eql 25 0,qm 6 26] [1,2,5,6])) .skip)) (qS [qf 27 0 2,ql 28 27,qo 29 (.bin .eql (.tmp 28) (.const (.int .u8 4))),qm 30 29,qt 30 (qm 31 1),qt 30 (qc 32 .gtr 31 0),
  qa 33 30 32,qm 34 33,qu 34 (qf 35 0 2),qu 34 (ql 36 35),qu 34 (qo 37 (.bin .eql (.tmp 36) (.const (.int .u8 6)))),qr 38 34 37,qm 7 38] [5,6,7] (.seq (.block 0 (qS [qm 40 6,qm 41 40,qt 41 (qm 42 5),qt 41 (qx 43 120 [42]),qt 41 (qc 44 .eql 43 5),qa 45 41 44,qm 39 45] [5,6,7,39] (qC 39 (qS [qk 4 5] [4] .ret) (qS [qm 47 6,qm 46 47] [5,7,46] (qC 46 (qS [qk 4 4] [4] .ret) (qS [qm 49 7,qm 50 49,qt 50 (qm 51 5),qt 50 (qx 52 120 [51]),qt 50 (qc 53 .eql 52 4),qa 54 50 53,qm 48 54] [7,48] (qC 48 (qS [qk 4 5] [4] .ret) (qS [qm 56 7,qm 55 56] [55] (qC 55 (qS [qk 4 4] [4] .ret) .skip))))))))) (qS [qk 4 1] [4] .ret)))))))⟩)
theorem n140 : F140.n = 57 := rfl
theorem low140 : kV Tryz.prog (kpO F140) (kM []) 140 = some F140 := by kernel_rfl
def F110 : FIR := laid (X := ⟨25, [.tmp 4], (qS [qB 2 48 0,qz 4 false] [1,2] (qS [qf 6 9 2,ql 7 6,qm 8 1,qi 9 11 7 8,qN 10 11 9,
  qo 5 (.alloc 48 [(.int .u8 0), (.string ⟨#[]⟩), (.int .u8 0), (.int .i64 0), (.int .u64 0), (.string ⟨#[]⟩), (.slice none 0 0), (.slice none 0 0), (.slice none 0 0), (.slice none 0 0), (.int .i64 0)]),
  qs 11 5 10] [1,2,5] (.seq (qS [qf 11 0 5,ql 12 11,qo 13 (.bin .eql (.tmp 12) (.const (.int .u8 6))),qm 14 13,qu 14 (qf 15 0 5),qu 14 (ql 16 15),
  qu 14 (qo 17 (.bin .eql (.tmp 16) (.const (.int .u8 9)))),qr 18 14 17] [1,2,5,18] (qC 18 (qS [qz 4 false] [4] .ret) .skip)) (.seq (qD [qN 19 11 5,qx 20 81 [19],qN 21 11 2,qm 22 1,qx 23 140 [21,22],qb 24 .lss 20 23,qm 4 24] [[0,1,2,3,4,5,6], [0,2,1,3,4,5,6]] [4]) .ret))))⟩)
theorem n110 : F110.n = 25 := rfl
theorem low110 : kV Tryz.prog (kpO F110) (kM [(4,[[0,1,2,3,4,5,6], [0,2,1,3,4,5,6]])]) 110 = some F110 := by kernel_rfl
def F109 : FIR := laid (X := ⟨28, [.tmp 2], (qS [qB 1 46 0,qk 2 0] [1] (.seq (qS [qf 6 0 1,ql 7 6,qo 8 (.bin .neq (.tmp 7) (.const (.int .u8 10)))] [1,8] (qC 8 (qS [qk 2 0] [2] .ret) .skip)) (qS [qk 3 0] [1,3] (.seq (qS [qk 4 0] [1,3,4] (.block 0 (.loop (.seq (qS [qm 9 4,qf 10 4 1,ql 11 10,qL 12 11,qb 13 .lss 9 12] [1,3,4,13] (qC 13 .skip (.exit 0))) (.seq (.block 1 (qS [qf 16 4 1,ql 17 16,qm 18 4,qi 19 5 17 18,qN 20 5 19,qx 21 109 [20],qm 5 21] [1,3,4,5] (qS [qm 22 5,qm 23 3,qb 24 .gtr 22 23] [1,3,4,5,24] (qC 24 (.reg [qm 25 5,qm 3 25] [1,3,4]) .skip)))) (.reg [qm 14 4,qc 15 .add 14 1,qm 4 15] [1,3,4])))))) (qS [qm 26 3,qc 27 .add 26 1,qm 2 27] [2] .ret)))))⟩)
theorem n109 : F109.n = 28 := rfl
theorem low109 : kV Tryz.prog (kpO F109) (kM []) 109 = some F109 := by kernel_rfl
def F69 : FIR := laid (X := ⟨44, [.tmp 2], (qS [qB 1 48 0,qk 2 0] [1] (qS [qf 7 2 1,qN 8 5 7,qx 9 109 [8],qm 3 9] [1,3] (.seq (qS [qk 4 0] [1,3,4] (.block 0 (.loop (.seq (qS [qm 10 4,qf 11 9 1,ql 12 11,qL 13 12,qb 14 .lss 10 13] [1,3,4,14] (qC 14 .skip (.exit 0))) (.seq (.block 1 (qS [qf 17 9 1,ql 18 17,qm 19 4,qi 20 11 18 19,qN 21 11 20,qx 22 69 [21],qm 5 22] [1,3,4,5] (qS [qN 23 11 1,qm 24 4,qx 25 110 [23,24],qm 6 25] [1,3,4,5,6] (.seq (qS [qm 26 6] [1,3,4,5,26] (qC 26 (.reg [qm 27 5,qc 28 .add 27 1,qm 5 28] [1,3,4,5]) .skip)) (qS [qm 29 5,qm 30 3,qb 31 .gtr 29 30] [1,3,4,5,31] (qC 31 (.reg [qm 32 5,qm 3 32] [1,3,4]) .skip)))))) (.reg [qm 15 4,qc 16 .add 15 1,qm 4 16] [1,3,4])))))) (.seq (qS [qf 33 0 1,ql 34 33,qo 35 (.bin .eql (.tmp 34) (.const (.int .u8 7))),qm 36 35,qu 36 (qf 37 0 1),qu 36 (ql 38 37),
  qu 36 (qo 39 (.bin .eql (.tmp 38) (.const (.int .u8 8)))),qr 40 36 39] [3,40] (qC 40 (.reg [qm 41 3,qc 42 .add 41 1,qm 3 42] [3]) .skip)) (qS [qm 43 3,qm 2 43] [2] .ret)))))⟩)
theorem n69 : F69.n = 44 := rfl
theorem low69 : kV Tryz.prog (kpO F69) (kM []) 69 = some F69 := by kernel_rfl
def F80 : FIR := laid (X := ⟨16, [.tmp 2], (qS [qB 1 48 0,qz 2 false] [1] (qS [qf 3 0 1,ql 4 3,qo 5 (.bin .neq (.tmp 4) (.const (.int .u8 6))),qm 6 5,qt 6 (qf 7 0 1),qt 6 (ql 8 7),
  qt 6 (qo 9 (.bin .neq (.tmp 8) (.const (.int .u8 9)))),qa 10 6 9,qm 11 10,qt 11 (qN 12 11 1),qt 11 (qx 13 119 [12]),
  qt 11 (qo 14 (.un .not (.tmp 13))),qa 15 11 14,qm 2 15] [2] .ret))⟩)
theorem n80 : F80.n = 16 := rfl
theorem low80 : kV Tryz.prog (kpO F80) (kM []) 80 = some F80 := by kernel_rfl
end Go.Proofs.YtmnmandpdadedaaGreatDoor
namespace Go.Proofs.YtmnmandpdadedaaGreatDoor
open Go Go.V
set_option maxRecDepth 100000
def F44 : FIR := laid (X := ⟨35, [.tmp 2], (qS [qo 2 (.mv (.const (.slice none 0 0)))] [0] (qS [qm 5 0,qL 6 5,qc 7 .add 6 2,qo 8 (.mkslice 9 1 16 [(.string ⟨#[]⟩)] (.tmp 7) (.tmp 7)),qm 3 8] [0,3] (.seq (qS [qk 4 0] [0,3,4] (.block 0 (.loop (.seq (qS [qm 9 4,qm 10 0,qL 11 10,qb 12 .lss 9 11] [0,3,4,12] (qC 12 .skip (.exit 0))) (.seq (.block 1 (.reg [qm 15 3,qm 16 4,qm 17 0,qm 18 4,qi 19 1 17 18,ql 20 19,qi 21 1 15 16,qs 1 21 20] [0,3,4])) (.reg [qm 13 4,qc 14 .add 13 1,qm 4 14] [0,3,4])))))) (qS [qm 22 3,qm 23 0,qL 24 23,qi 25 1 22 24,⟨none,none,.store 1 (.tmp 25) (.const (.string ⟨#[114, 111, 111, 109]⟩))⟩] [0,3] (qS [qm 26 3,qm 27 0,qL 28 27,qc 29 .add 28 1,qi 30 1 26 29,
  ⟨none,none,.store 1 (.tmp 30) (.const (.string ⟨#[109, 111, 114, 101]⟩))⟩] [0,3] (qS [qm 31 3,qm 32 0,qL 33 32,qo 34 (.slcL 1 (.tmp 31) none (some (.tmp 33)) none),qm 2 34] [2] .ret))))))⟩)
theorem n44 : F44.n = 35 := rfl
theorem low44 : kV Tryz.prog (kpO F44) (kM []) 44 = some F44 := by kernel_rfl
def F56 : FIR := laid (X := ⟨24, [.tmp 2], (qS [qz 2 false] [0] (qS [qm 4 0,qm 5 0,qL 6 5,qc 7 .add 6 2,qo 8 (.slcL 1 (.tmp 4) none (some (.tmp 7)) none),qm 3 8] [0,3] (qS [qm 9 3,qm 10 0,qL 11 10,qi 12 1 9 11,ql 13 12,qo 14 (.bin .eql (.tmp 13) (.const (.string ⟨#[114, 111, 111, 109]⟩))),qm 15 14,
  qt 15 (qm 16 3),qt 15 (qm 17 0),qt 15 (qL 18 17),qt 15 (qc 19 .add 18 1),qt 15 (qi 20 1 16 19),qt 15 (ql 21 20),
  qt 15 (qo 22 (.bin .eql (.tmp 21) (.const (.string ⟨#[109, 111, 114, 101]⟩)))),qa 23 15 22,qm 2 23] [2] .ret)))⟩)
theorem n56 : F56.n = 24 := rfl
theorem low56 : kV Tryz.prog (kpO F56) (kM []) 56 = some F56 := by kernel_rfl
def F71 : FIR := laid (X := ⟨39, [.cellN 2 5], (qS [qB 1 46 0,
  qo 2 (.alloc 46 [(.int .u8 0), (.int .i64 0), (.int .u64 0), (.string ⟨#[]⟩), (.slice none 0 0)])] [1,2] (qS [qf 5 4 1,ql 6 5,qL 7 6,qc 8 .add 7 1,
  qo 9 (.mkslice 46 5 64 [(.int .u8 0), (.int .i64 0), (.int .u64 0), (.string ⟨#[]⟩), (.slice none 0 0)] (.tmp 8) (.tmp 8)),
  qm 3 9] [1,2,3] (.seq (qS [qk 4 0] [1,2,3,4] (.block 0 (.loop (.seq (qS [qm 10 4,qf 11 4 1,ql 12 11,qL 13 12,qb 14 .lss 10 13] [1,2,3,4,14] (qC 14 .skip (.exit 0))) (.seq (.block 1 (.reg [qm 17 3,qm 18 4,qf 19 4 1,ql 20 19,qm 21 4,qi 22 5 20 21,qN 23 5 22,qx 24 71 [23],qi 25 5 17 18,qs 5 25 24] [1,2,3,4])) (.reg [qm 15 4,qc 16 .add 15 1,qm 4 16] [1,2,3,4])))))) (qS [qm 26 3,qf 27 4 1,ql 28 27,qL 29 28,qi 30 5 26 29,qf 31 1 30,⟨none,none,.store 1 (.tmp 31) (.const (.int .i64 (-771)))⟩] [1,2,3] (qS [qm 32 3,qf 33 4 1,ql 34 33,qL 35 34,qo 36 (.slcL 5 (.tmp 32) none (some (.tmp 35)) none),qf 37 4 1,qs 1 37 36] [1,2] (qS [qN 38 5 1,qs 5 2 38] [2] .ret))))))⟩)
theorem n71 : F71.n = 39 := rfl
theorem low71 : kV Tryz.prog (kpO F71) (kM []) 71 = some F71 := by kernel_rfl
def F98 : FIR := laid (X := ⟨38, [.tmp 2], (qS [qB 1 46 0,qz 2 false] [1] (qS [qf 6 4 1,ql 7 6,qf 8 4 1,ql 9 8,qL 10 9,qc 11 .add 10 1,qo 12 (.slcL 5 (.tmp 7) none (some (.tmp 11)) none),qm 3 12] [1,3] (qS [qm 13 3,qf 14 4 1,ql 15 14,qL 16 15,qi 17 5 13 16,qf 18 1 17,ql 19 18,qc 20 .eql 19 (-771),qm 4 20] [1,4] (.seq (qS [qk 5 0] [1,4,5] (.block 0 (.loop (.seq (qS [qm 21 5,qf 22 4 1,ql 23 22,qL 24 23,qb 25 .lss 21 24,qm 26 25,qt 26 (qm 27 4),qa 28 26 27] [1,4,5,28] (qC 28 .skip (.exit 0))) (.seq (.block 1 (.reg [qf 31 4 1,ql 32 31,qm 33 5,qi 34 5 32 33,qN 35 5 34,qx 36 98 [35],qm 4 36] [1,4,5])) (.reg [qm 29 5,qc 30 .add 29 1,qm 5 30] [1,4,5])))))) (qS [qm 37 4,qm 2 37] [2] .ret)))))⟩)
theorem n98 : F98.n = 38 := rfl
theorem low98 : kV Tryz.prog (kpO F98) (kM []) 98 = some F98 := by kernel_rfl
def F23 : FIR := laid (X := ⟨53, [.cellN 2 11], (qS [qB 1 48 0,
  qo 2 (.alloc 48 [(.int .u8 0), (.string ⟨#[]⟩), (.int .u8 0), (.int .i64 0), (.int .u64 0), (.string ⟨#[]⟩), (.slice none 0 0), (.slice none 0 0), (.slice none 0 0), (.slice none 0 0), (.int .i64 0)])] [1,2] (qS [qf 5 9 1,ql 6 5,qL 7 6,qc 8 .add 7 1,
  qo 9 (.mkslice 48 11 168 [(.int .u8 0), (.string ⟨#[]⟩), (.int .u8 0), (.int .i64 0), (.int .u64 0), (.string ⟨#[]⟩), (.slice none 0 0), (.slice none 0 0), (.slice none 0 0), (.slice none 0 0), (.int .i64 0)] (.tmp 8) (.tmp 8)),
  qm 3 9] [1,2,3] (.seq (qS [qk 4 0] [1,2,3,4] (.block 0 (.loop (.seq (qS [qm 10 4,qf 11 9 1,ql 12 11,qL 13 12,qb 14 .lss 10 13] [1,2,3,4,14] (qC 14 .skip (.exit 0))) (.seq (.block 1 (.reg [qm 17 3,qm 18 4,qf 19 9 1,ql 20 19,qm 21 4,qi 22 11 20 21,qN 23 11 22,qx 24 23 [23],qi 25 11 17 18,qs 11 25 24] [1,2,3,4])) (.reg [qm 15 4,qc 16 .add 15 1,qm 4 16] [1,2,3,4])))))) (qS [qm 26 3,qf 27 9 1,ql 28 27,qL 29 28,qi 30 11 26 29,qf 31 10 30,
  ⟨none,none,.store 1 (.tmp 31) (.const (.int .i64 (-771)))⟩] [1,2,3] (.seq (.free [qf 32 0 1,ql 33 32,qf 34 1 1,ql 35 34,qf 36 2 1,qN 37 5 36,qx 38 71 [37],qf 39 7 1,ql 40 39,qx 41 44 [40],qf 42 8 1,ql 43 42,
  qx 44 44 [43],qm 45 3,qf 46 9 1,ql 47 46,qL 48 47,qo 49 (.slcL 11 (.tmp 45) none (some (.tmp 48)) none),qf 50 10 1,ql 51 50,
  qo 52 (.build [(.int .u8 0), (.string ⟨#[]⟩), (.int .u8 0), (.int .i64 0), (.int .u64 0), (.string ⟨#[]⟩), (.slice none 0 0), (.slice none 0 0), (.slice none 0 0), (.slice none 0 0), (.int .i64 0)] [(0, 1, (.tmp 33)), (1, 1, (.tmp 35)), (2, 5, (.tmp 38)), (7, 1, (.tmp 41)), (8, 1, (.tmp 44)), (9, 1, (.tmp 49)), (10, 1, (.tmp 51))]),
  qs 11 2 52] [[], [0], [], [2], [], [4], [4,5], [], [7], [5,4,6,7,8], [], [10], [8,7,6,4,5,9,10,11], [], [], [14], [14,15], [15,14,16,13], [], [18], [18,19,13,16,14,15,17,11,10,12,8,7,9,5,4,6,2,3,0,1], [1,0,3,2,6,4,5,9,7,8,12,10,11,17,15,14,16,13,19,18,20]] [2]) .ret)))))⟩)
theorem n23 : F23.n = 53 := rfl
theorem low23 : kV Tryz.prog (kpO F23) (kM [(7,[])]) 23 = some F23 := by kernel_rfl
def F57 : FIR := laid (X := ⟨59, [.tmp 2], (qS [qB 1 48 0,qz 2 false] [1] (qS [qf 9 9 1,ql 10 9,qf 11 9 1,ql 12 11,qL 13 12,qc 14 .add 13 1,qo 15 (.slcL 11 (.tmp 10) none (some (.tmp 14)) none),qm 3 15] [1,3] (qS [qf 16 2 1,qN 17 5 16,qx 18 98 [17],qm 4 18] [1,3,4] (qS [qf 19 7 1,ql 20 19,qx 21 56 [20],qm 5 21] [1,3,4,5] (qS [qf 22 8 1,ql 23 22,qx 24 56 [23],qm 6 24] [1,3,4,5,6] (qS [qm 25 4,qm 26 25,qt 26 (qm 27 5),qa 28 26 27,qm 29 28,qt 29 (qm 30 6),qa 31 29 30,qm 32 31,qt 32 (qm 33 3),qt 32 (qf 34 9 1),
  qt 32 (ql 35 34),qt 32 (qL 36 35),qt 32 (qi 37 11 33 36),qt 32 (qf 38 10 37),qt 32 (ql 39 38),qt 32 (qc 40 .eql 39 (-771)),qa 41 32 40,qm 7 41] [1,7] (.seq (qS [qk 8 0] [1,7,8] (.block 0 (.loop (.seq (qS [qm 42 8,qf 43 9 1,ql 44 43,qL 45 44,qb 46 .lss 42 45,qm 47 46,qt 47 (qm 48 7),qa 49 47 48] [1,7,8,49] (qC 49 .skip (.exit 0))) (.seq (.block 1 (.reg [qf 52 9 1,ql 53 52,qm 54 8,qi 55 11 53 54,qN 56 11 55,qx 57 57 [56],qm 7 57] [1,7,8])) (.reg [qm 50 8,qc 51 .add 50 1,qm 8 51] [1,7,8])))))) (qS [qm 58 7,qm 2 58] [2] .ret))))))))⟩)
theorem n57 : F57.n = 59 := rfl
theorem low57 : kV Tryz.prog (kpO F57) (kM []) 57 = some F57 := by kernel_rfl
end Go.Proofs.YtmnmandpdadedaaGreatDoor
namespace Go.Proofs.YtmnmandpdadedaaGreatDoor
open Go Go.V
set_option maxRecDepth 100000
def F12 : FIR := laid (X := ⟨48, [.cellN 2 5], (qS [qB 1 25 0,
  qo 2 (.alloc 25 [(.string ⟨#[]⟩), (.slice none 0 0), (.slice none 0 0), (.int .i64 0), (.slice none 0 0)])] [1,2] (qS [qf 5 4 1,ql 6 5,qL 7 6,qc 8 .add 7 1,
  qo 9 (.mkslice 48 11 168 [(.int .u8 0), (.string ⟨#[]⟩), (.int .u8 0), (.int .i64 0), (.int .u64 0), (.string ⟨#[]⟩), (.slice none 0 0), (.slice none 0 0), (.slice none 0 0), (.slice none 0 0), (.int .i64 0)] (.tmp 8) (.tmp 8)),
  qm 3 9] [1,2,3] (.seq (qS [qk 4 0] [1,2,3,4] (.block 0 (.loop (.seq (qS [qm 10 4,qf 11 4 1,ql 12 11,qL 13 12,qb 14 .lss 10 13] [1,2,3,4,14] (qC 14 .skip (.exit 0))) (.seq (.block 1 (.reg [qm 17 3,qm 18 4,qf 19 4 1,ql 20 19,qm 21 4,qi 22 11 20 21,qN 23 11 22,qx 24 23 [23],qi 25 11 17 18,qs 11 25 24] [1,2,3,4])) (.reg [qm 15 4,qc 16 .add 15 1,qm 4 16] [1,2,3,4])))))) (qS [qm 26 3,qf 27 4 1,ql 28 27,qL 29 28,qi 30 11 26 29,qf 31 10 30,
  ⟨none,none,.store 1 (.tmp 31) (.const (.int .i64 (-771)))⟩] [1,2,3] (.seq (.free [qf 32 0 1,ql 33 32,qf 34 1 1,ql 35 34,qx 36 44 [35],qf 37 2 1,ql 38 37,qx 39 44 [38],qf 40 3 1,ql 41 40,qm 42 3,qf 43 4 1,ql 44 43,
  qL 45 44,qo 46 (.slcL 11 (.tmp 42) none (some (.tmp 45)) none),
  qo 47 (.build [(.string ⟨#[]⟩), (.slice none 0 0), (.slice none 0 0), (.int .i64 0), (.slice none 0 0)] [(0, 1, (.tmp 33)), (1, 1, (.tmp 36)), (2, 1, (.tmp 39)), (3, 1, (.tmp 41)), (4, 1, (.tmp 46))]),
  qs 5 2 47] [[], [0], [], [2], [2,3], [], [5], [3,2,4,5,6], [], [8], [], [], [11], [11,12], [12,11,13,10], [10,13,11,12,14,8,9,6,5,7,3,2,4,0,1], [1,0,4,2,3,7,5,6,9,8,14,12,11,13,10,15]] [2]) .ret)))))⟩)
theorem n12 : F12.n = 48 := rfl
theorem low12 : kV Tryz.prog (kpO F12) (kM [(7,[])]) 12 = some F12 := by kernel_rfl
def F16 : FIR := laid (X := ⟨60, [.tmp 4], (qS [qB 2 25 0,qB 3 25 1,qz 4 false] [2,3] (qS [qN 11 5 2,qN 12 5 3,qo 13 (.call 18 [(.tmp 11), (.tmp 12), (.const (.bool true))]),qm 5 13] [2,5] (.seq (qS [qm 14 5,qo 15 (.un .not (.tmp 14))] [2,15] (qC 15 (qS [qz 4 false] [4] .ret) .skip)) (qS [qf 16 4 2,ql 17 16,qf 18 4 2,ql 19 18,qL 20 19,qc 21 .add 20 1,qo 22 (.slcL 11 (.tmp 17) none (some (.tmp 21)) none),qm 6 22] [2,6] (qS [qf 23 1 2,ql 24 23,qx 25 56 [24],qm 7 25] [2,6,7] (qS [qf 26 2 2,ql 27 26,qx 28 56 [27],qm 8 28] [2,6,7,8] (qS [qm 29 7,qm 30 29,qt 30 (qm 31 8),qa 32 30 31,qm 33 32,qt 33 (qm 34 6),qt 33 (qf 35 4 2),qt 33 (ql 36 35),qt 33 (qL 37 36),
  qt 33 (qi 38 11 34 37),qt 33 (qf 39 10 38),qt 33 (ql 40 39),qt 33 (qc 41 .eql 40 (-771)),qa 42 33 41,qm 9 42] [2,9] (.seq (qS [qk 10 0] [2,9,10] (.block 0 (.loop (.seq (qS [qm 43 10,qf 44 4 2,ql 45 44,qL 46 45,qb 47 .lss 43 46,qm 48 47,qt 48 (qm 49 9),qa 50 48 49] [2,9,10,50] (qC 50 .skip (.exit 0))) (.seq (.block 1 (.reg [qf 53 4 2,ql 54 53,qm 55 10,qi 56 11 54 55,qN 57 11 56,qx 58 57 [57],qm 9 58] [2,9,10])) (.reg [qm 51 10,qc 52 .add 51 1,qm 10 52] [2,9,10])))))) (qS [qm 59 9,qm 4 59] [4] .ret)))))))))⟩)
theorem n16 : F16.n = 60 := rfl
theorem low16 : kV Tryz.prog (kpO F16) (kM []) 16 = some F16 := by kernel_rfl
end Go.Proofs.YtmnmandpdadedaaGreatDoor
namespace Go.Proofs.YtmnmandpdadedaaGreatDoor
open Go Go.V
set_option maxRecDepth 100000
def F20 : FIR := laid (X := ⟨37, [.tmp 2], (qS [qz 2 false] [0] (qS [qm 7 0,qn 8 7,qf 9 0 8,ql 10 9,qx 11 61 [10],qm 3 11] [0,3] (qS [qm 12 0,qn 13 12,qf 14 1 13,ql 15 14,qx 16 62 [15],qm 4 16] [0,3,4] (qS [qm 17 0,qn 18 17,qf 19 2 18,ql 20 19,qx 21 63 [20],qm 5 21] [0,3,4,5] (qS [qm 22 0,qn 23 22,qf 24 3 23,ql 25 24,qx 26 64 [25],qm 6 26] [3,4,5,6] (qS [qm 27 3,qm 28 27,qt 28 (qm 29 4),qa 30 28 29,qm 31 30,qt 31 (qm 32 5),qa 33 31 32,qm 34 33,qt 34 (qm 35 6),qa 36 34 35,qm 2 36] [2] .ret))))))⟩)
theorem n20 : F20.n = 37 := rfl
theorem low20 : kV Tryz.prog (kpO F20) (kM []) 20 = some F20 := by kernel_rfl
def F61 : FIR := laid (X := ⟨123, [.tmp 2], (qS [qz 2 false] [0] (qS [qo 3 (.mv (.const (.slice none 0 0)))] [0,3] (.seq (qS [qk 4 0] [0,3,4] (.block 0 (.loop (.seq (qS [qm 13 4,qm 14 0,qL 15 14,qb 16 .lss 13 15] [0,3,4,16] (qC 16 .skip (.exit 0))) (.seq (.block 1 (qS [qk 5 0] [0,3,4,5] (.block 2 (.loop (.seq (qS [qm 19 5,qm 20 0,qm 21 4,qi 22 1 20 21,ql 23 22,qL 24 23,qb 25 .lss 19 24] [0,3,4,5,25] (qC 25 .skip (.exit 2))) (.seq (.block 3 (qD [qm 28 0,qm 29 4,qi 30 1 28 29,ql 31 30,qm 32 5,qm 33 4,qm 34 5,qx 35 100 [33,34],qi 36 8 31 32,qf 37 2 36,qs 1 37 35] [[0,1,2,3,4,5,6,7,8,9,10], [0,1,2,4,5,6,7,3,8,9,10]] [0,3,4,5])) (.reg [qm 26 5,qc 27 .add 26 1,qm 5 27] [0,3,4,5]))))))) (.reg [qm 17 4,qc 18 .add 17 1,qm 4 18] [0,3,4])))))) (.seq (qS [qk 6 0] [0,3,6] (.block 4 (.loop (.seq (qS [qm 38 6,qm 39 0,qL 40 39,qb 41 .lss 38 40] [0,3,6,41] (qC 41 .skip (.exit 4))) (.seq (.block 5 (qS [qm 44 0,qm 45 6,qi 46 1 44 45,ql 47 46,qm 7 47] [0,3,6,7] (.seq (qS [qk 8 0] [0,3,6,7,8] (.block 6 (.loop (.seq (qS [qm 48 8,qc 49 .lss 48 8] [0,3,6,7,8,49] (qC 49 .skip (.exit 6))) (.seq (.block 7 (.reg [qm 52 7,qm 53 6,qm 54 8,qx 55 101 [53,54],
  qo 56 (.build [(.int .u8 0), (.string ⟨#[]⟩), (.int .i64 0), (.int .u8 0), (.int .i64 0), (.int .u64 0), (.string ⟨#[]⟩), (.slice none 0 0)] [(2, 1, (.tmp 55))]),
  qo 57 (.bslice 113 1 [(.int .u8 0), (.string ⟨#[]⟩), (.int .i64 0), (.int .u8 0), (.int .i64 0), (.int .u64 0), (.string ⟨#[]⟩), (.slice none 0 0)] [(0, 8, (.tmp 56))]),
  qo 58 (.append 113 8 96 [(.int .u8 0), (.string ⟨#[]⟩), (.int .i64 0), (.int .u8 0), (.int .i64 0), (.int .u64 0), (.string ⟨#[]⟩), (.slice none 0 0)] (.tmp 52) (.tmp 57)),
  qm 7 58] [0,3,6,7,8])) (.reg [qm 50 8,qc 51 .add 50 1,qm 8 51] [0,3,6,7,8])))))) (.reg [qm 59 3,qm 60 7,qo 61 (.bslice 109 1 [(.slice none 0 0)] [(0, 1, (.tmp 60))]),
  qo 62 (.append 109 1 24 [(.slice none 0 0)] (.tmp 59) (.tmp 61)),qm 3 62] [0,3,6])))) (.reg [qm 42 6,qc 43 .add 42 1,qm 6 43] [0,3,6])))))) (.seq (qS [qk 9 0] [0,3,9] (.block 8 (.loop (.seq (qS [qm 63 9,qm 64 0,qL 65 64,qb 66 .lss 63 65] [0,3,9,66] (qC 66 .skip (.exit 8))) (.seq (.block 9 (qS [qm 69 0,qm 70 9,qi 71 1 69 70,ql 72 71,qL 73 72,qm 10 73] [0,3,9,10] (.seq (qS [qk 11 0] [0,3,9,10,11] (.block 10 (.loop (.seq (qS [qm 74 11,qm 75 10,qb 76 .lss 74 75] [0,3,9,10,11,76] (qC 76 .skip (.exit 10))) (.seq (.block 11 (.seq (qD [qm 79 0,qm 80 9,qi 81 1 79 80,ql 82 81,qm 83 11,qi 84 8 82 83,qf 85 2 84,ql 86 85,qm 87 9,qm 88 11,qx 89 100 [87,88],
  qb 90 .neq 86 89,qm 91 90,qu 91 (qm 92 3),qu 91 (qm 93 9),qu 91 (qi 94 1 92 93),qu 91 (ql 95 94),qu 91 (qm 96 11),qu 91 (qi 97 8 95 96),
  qu 91 (qf 98 2 97),qu 91 (ql 99 98),qu 91 (qm 100 9),qu 91 (qm 101 11),qu 91 (qx 102 100 [100,101]),qu 91 (qb 103 .neq 99 102),qr 104 91 103] [[0,1,2,3,4,5,6,7,8,9,10,11,12,13,14,15,16,17,18,19,20,21,22,23,24,25], [0,1,2,3,4,5,6,8,9,10,7,11,12,13,14,15,16,17,18,19,20,21,22,23,24,25], [0,1,2,4,8,9,10,3,5,6,7,11,12,13,14,15,16,17,18,19,20,21,22,23,24,25], [0,1,2,3,4,5,6,7,8,9,10,11,12,13,14,15,16,17,18,19,21,22,23,20,24,25], [0,1,2,3,4,5,6,8,9,10,7,11,12,13,14,15,16,17,18,19,21,22,23,20,24,25], [0,1,2,4,8,9,10,3,5,6,7,11,12,13,14,15,16,17,18,19,21,22,23,20,24,25], [0,1,2,3,4,5,6,7,8,9,10,11,12,13,14,15,17,21,22,23,16,18,19,20,24,25], [0,1,2,3,4,5,6,8,9,10,7,11,12,13,14,15,17,21,22,23,16,18,19,20,24,25], [0,1,2,4,8,9,10,3,5,6,7,11,12,13,14,15,17,21,22,23,16,18,19,20,24,25]] [0,3,9,10,11,104]) (qC 104 (qS [qz 2 false] [2] .ret) .skip))) (.reg [qm 77 11,qc 78 .add 77 1,qm 11 78] [0,3,9,10,11])))))) (qS [qk 12 0] [0,3,9,10,12] (.block 12 (.loop (.seq (qS [qm 105 12,qc 106 .lss 105 8] [0,3,9,10,12,106] (qC 106 .skip (.exit 12))) (.seq (.block 13 (.seq (qD [qm 109 3,qm 110 9,qi 111 1 109 110,ql 112 111,qm 113 10,qm 114 12,qb 115 .add 113 114,qi 116 8 112 115,qf 117 2 116,ql 118 117,
  qm 119 9,qm 120 12,qx 121 101 [119,120],qb 122 .neq 118 121] [[0,1,2,3,4,5,6,7,8,9,10,11,12,13], [0,1,2,3,4,5,6,7,8,10,11,12,9,13], [0,1,2,4,5,6,10,11,12,3,7,8,9,13]] [0,3,9,10,12,122]) (qC 122 (qS [qz 2 false] [2] .ret) .skip))) (.reg [qm 107 12,qc 108 .add 107 1,qm 12 108] [0,3,9,10,12]))))))))) (.reg [qm 67 9,qc 68 .add 67 1,qm 9 68] [0,3,9])))))) (qS [qz 2 true] [2] .ret))))))⟩)
theorem n61 : F61.n = 123 := rfl
theorem low61 : kV Tryz.prog (kpO F61) (kM [(8,[[0,1,2,3,4,5,6,7,8,9,10], [0,1,2,4,5,6,7,3,8,9,10]]), (25,[[0,1,2,3,4,5,6,7,8,9,10,11,12,13,14,15,16,17,18,19,20,21,22,23,24,25], [0,1,2,3,4,5,6,8,9,10,7,11,12,13,14,15,16,17,18,19,20,21,22,23,24,25], [0,1,2,4,8,9,10,3,5,6,7,11,12,13,14,15,16,17,18,19,20,21,22,23,24,25], [0,1,2,3,4,5,6,7,8,9,10,11,12,13,14,15,16,17,18,19,21,22,23,20,24,25], [0,1,2,3,4,5,6,8,9,10,7,11,12,13,14,15,16,17,18,19,21,22,23,20,24,25], [0,1,2,4,8,9,10,3,5,6,7,11,12,13,14,15,16,17,18,19,21,22,23,20,24,25], [0,1,2,3,4,5,6,7,8,9,10,11,12,13,14,15,17,21,22,23,16,18,19,20,24,25], [0,1,2,3,4,5,6,8,9,10,7,11,12,13,14,15,17,21,22,23,16,18,19,20,24,25], [0,1,2,4,8,9,10,3,5,6,7,11,12,13,14,15,17,21,22,23,16,18,19,20,24,25]]), (30,[[0,1,2,3,4,5,6,7,8,9,10,11,12,13], [0,1,2,3,4,5,6,7,8,10,11,12,9,13], [0,1,2,4,5,6,10,11,12,3,7,8,9,13]])]) 61 = some F61 := by kernel_rfl
def F62 : FIR := laid (X := ⟨123, [.tmp 2], (qS [qz 2 false] [0] (qS [qo 3 (.mv (.const (.slice none 0 0)))] [0,3] (.seq (qS [qk 4 0] [0,3,4] (.block 0 (.loop (.seq (qS [qm 13 4,qm 14 0,qL 15 14,qb 16 .lss 13 15] [0,3,4,16] (qC 16 .skip (.exit 0))) (.seq (.block 1 (qS [qk 5 0] [0,3,4,5] (.block 2 (.loop (.seq (qS [qm 19 5,qm 20 0,qm 21 4,qi 22 1 20 21,ql 23 22,qL 24 23,qb 25 .lss 19 24] [0,3,4,5,25] (qC 25 .skip (.exit 2))) (.seq (.block 3 (qD [qm 28 0,qm 29 4,qi 30 1 28 29,ql 31 30,qm 32 5,qm 33 4,qm 34 5,qx 35 100 [33,34],qi 36 5 31 32,qf 37 1 36,qs 1 37 35] [[0,1,2,3,4,5,6,7,8,9,10], [0,1,2,4,5,6,7,3,8,9,10]] [0,3,4,5])) (.reg [qm 26 5,qc 27 .add 26 1,qm 5 27] [0,3,4,5]))))))) (.reg [qm 17 4,qc 18 .add 17 1,qm 4 18] [0,3,4])))))) (.seq (qS [qk 6 0] [0,3,6] (.block 4 (.loop (.seq (qS [qm 38 6,qm 39 0,qL 40 39,qb 41 .lss 38 40] [0,3,6,41] (qC 41 .skip (.exit 4))) (.seq (.block 5 (qS [qm 44 0,qm 45 6,qi 46 1 44 45,ql 47 46,qm 7 47] [0,3,6,7] (.seq (qS [qk 8 0] [0,3,6,7,8] (.block 6 (.loop (.seq (qS [qm 48 8,qc 49 .lss 48 8] [0,3,6,7,8,49] (qC 49 .skip (.exit 6))) (.seq (.block 7 (.reg [qm 52 7,qm 53 6,qm 54 8,qx 55 101 [53,54],
  qo 56 (.build [(.int .u8 0), (.int .i64 0), (.int .u64 0), (.string ⟨#[]⟩), (.slice none 0 0)] [(1, 1, (.tmp 55))]),
  qo 57 (.bslice 46 1 [(.int .u8 0), (.int .i64 0), (.int .u64 0), (.string ⟨#[]⟩), (.slice none 0 0)] [(0, 5, (.tmp 56))]),
  qo 58 (.append 46 5 64 [(.int .u8 0), (.int .i64 0), (.int .u64 0), (.string ⟨#[]⟩), (.slice none 0 0)] (.tmp 52) (.tmp 57)),
  qm 7 58] [0,3,6,7,8])) (.reg [qm 50 8,qc 51 .add 50 1,qm 8 51] [0,3,6,7,8])))))) (.reg [qm 59 3,qm 60 7,qo 61 (.bslice 44 1 [(.slice none 0 0)] [(0, 1, (.tmp 60))]),
  qo 62 (.append 44 1 24 [(.slice none 0 0)] (.tmp 59) (.tmp 61)),qm 3 62] [0,3,6])))) (.reg [qm 42 6,qc 43 .add 42 1,qm 6 43] [0,3,6])))))) (.seq (qS [qk 9 0] [0,3,9] (.block 8 (.loop (.seq (qS [qm 63 9,qm 64 0,qL 65 64,qb 66 .lss 63 65] [0,3,9,66] (qC 66 .skip (.exit 8))) (.seq (.block 9 (qS [qm 69 0,qm 70 9,qi 71 1 69 70,ql 72 71,qL 73 72,qm 10 73] [0,3,9,10] (.seq (qS [qk 11 0] [0,3,9,10,11] (.block 10 (.loop (.seq (qS [qm 74 11,qm 75 10,qb 76 .lss 74 75] [0,3,9,10,11,76] (qC 76 .skip (.exit 10))) (.seq (.block 11 (.seq (qD [qm 79 0,qm 80 9,qi 81 1 79 80,ql 82 81,qm 83 11,qi 84 5 82 83,qf 85 1 84,ql 86 85,qm 87 9,qm 88 11,qx 89 100 [87,88],
  qb 90 .neq 86 89,qm 91 90,qu 91 (qm 92 3),qu 91 (qm 93 9),qu 91 (qi 94 1 92 93),qu 91 (ql 95 94),qu 91 (qm 96 11),qu 91 (qi 97 5 95 96),
  qu 91 (qf 98 1 97),qu 91 (ql 99 98),qu 91 (qm 100 9),qu 91 (qm 101 11),qu 91 (qx 102 100 [100,101]),qu 91 (qb 103 .neq 99 102),qr 104 91 103] [[0,1,2,3,4,5,6,7,8,9,10,11,12,13,14,15,16,17,18,19,20,21,22,23,24,25], [0,1,2,3,4,5,6,8,9,10,7,11,12,13,14,15,16,17,18,19,20,21,22,23,24,25], [0,1,2,4,8,9,10,3,5,6,7,11,12,13,14,15,16,17,18,19,20,21,22,23,24,25], [0,1,2,3,4,5,6,7,8,9,10,11,12,13,14,15,16,17,18,19,21,22,23,20,24,25], [0,1,2,3,4,5,6,8,9,10,7,11,12,13,14,15,16,17,18,19,21,22,23,20,24,25], [0,1,2,4,8,9,10,3,5,6,7,11,12,13,14,15,16,17,18,19,21,22,23,20,24,25], [0,1,2,3,4,5,6,7,8,9,10,11,12,13,14,15,17,21,22,23,16,18,19,20,24,25], [0,1,2,3,4,5,6,8,9,10,7,11,12,13,14,15,17,21,22,23,16,18,19,20,24,25], [0,1,2,4,8,9,10,3,5,6,7,11,12,13,14,15,17,21,22,23,16,18,19,20,24,25]] [0,3,9,10,11,104]) (qC 104 (qS [qz 2 false] [2] .ret) .skip))) (.reg [qm 77 11,qc 78 .add 77 1,qm 11 78] [0,3,9,10,11])))))) (qS [qk 12 0] [0,3,9,10,12] (.block 12 (.loop (.seq (qS [qm 105 12,qc 106 .lss 105 8] [0,3,9,10,12,106] (qC 106 .skip (.exit 12))) (.seq (.block 13 (.seq (qD [qm 109 3,qm 110 9,qi 111 1 109 110,ql 112 111,qm 113 10,qm 114 12,qb 115 .add 113 114,qi 116 5 112 115,qf 117 1 116,ql 118 117,
  qm 119 9,qm 120 12,qx 121 101 [119,120],qb 122 .neq 118 121] [[0,1,2,3,4,5,6,7,8,9,10,11,12,13], [0,1,2,3,4,5,6,7,8,10,11,12,9,13], [0,1,2,4,5,6,10,11,12,3,7,8,9,13]] [0,3,9,10,12,122]) (qC 122 (qS [qz 2 false] [2] .ret) .skip))) (.reg [qm 107 12,qc 108 .add 107 1,qm 12 108] [0,3,9,10,12]))))))))) (.reg [qm 67 9,qc 68 .add 67 1,qm 9 68] [0,3,9])))))) (qS [qz 2 true] [2] .ret))))))⟩)
theorem n62 : F62.n = 123 := rfl
theorem low62 : kV Tryz.prog (kpO F62) (kM [(8,[[0,1,2,3,4,5,6,7,8,9,10], [0,1,2,4,5,6,7,3,8,9,10]]), (25,[[0,1,2,3,4,5,6,7,8,9,10,11,12,13,14,15,16,17,18,19,20,21,22,23,24,25], [0,1,2,3,4,5,6,8,9,10,7,11,12,13,14,15,16,17,18,19,20,21,22,23,24,25], [0,1,2,4,8,9,10,3,5,6,7,11,12,13,14,15,16,17,18,19,20,21,22,23,24,25], [0,1,2,3,4,5,6,7,8,9,10,11,12,13,14,15,16,17,18,19,21,22,23,20,24,25], [0,1,2,3,4,5,6,8,9,10,7,11,12,13,14,15,16,17,18,19,21,22,23,20,24,25], [0,1,2,4,8,9,10,3,5,6,7,11,12,13,14,15,16,17,18,19,21,22,23,20,24,25], [0,1,2,3,4,5,6,7,8,9,10,11,12,13,14,15,17,21,22,23,16,18,19,20,24,25], [0,1,2,3,4,5,6,8,9,10,7,11,12,13,14,15,17,21,22,23,16,18,19,20,24,25], [0,1,2,4,8,9,10,3,5,6,7,11,12,13,14,15,17,21,22,23,16,18,19,20,24,25]]), (30,[[0,1,2,3,4,5,6,7,8,9,10,11,12,13], [0,1,2,3,4,5,6,7,8,10,11,12,9,13], [0,1,2,4,5,6,10,11,12,3,7,8,9,13]])]) 62 = some F62 := by kernel_rfl
def F63 : FIR := laid (X := ⟨123, [.tmp 2], (qS [qz 2 false] [0] (qS [qo 3 (.mv (.const (.slice none 0 0)))] [0,3] (.seq (qS [qk 4 0] [0,3,4] (.block 0 (.loop (.seq (qS [qm 13 4,qm 14 0,qL 15 14,qb 16 .lss 13 15] [0,3,4,16] (qC 16 .skip (.exit 0))) (.seq (.block 1 (qS [qk 5 0] [0,3,4,5] (.block 2 (.loop (.seq (qS [qm 19 5,qm 20 0,qm 21 4,qi 22 1 20 21,ql 23 22,qL 24 23,qb 25 .lss 19 24] [0,3,4,5,25] (qC 25 .skip (.exit 2))) (.seq (.block 3 (qD [qm 28 0,qm 29 4,qi 30 1 28 29,ql 31 30,qm 32 5,qm 33 4,qm 34 5,qx 35 100 [33,34],qi 36 11 31 32,qf 37 10 36,qs 1 37 35] [[0,1,2,3,4,5,6,7,8,9,10], [0,1,2,4,5,6,7,3,8,9,10]] [0,3,4,5])) (.reg [qm 26 5,qc 27 .add 26 1,qm 5 27] [0,3,4,5]))))))) (.reg [qm 17 4,qc 18 .add 17 1,qm 4 18] [0,3,4])))))) (.seq (qS [qk 6 0] [0,3,6] (.block 4 (.loop (.seq (qS [qm 38 6,qm 39 0,qL 40 39,qb 41 .lss 38 40] [0,3,6,41] (qC 41 .skip (.exit 4))) (.seq (.block 5 (qS [qm 44 0,qm 45 6,qi 46 1 44 45,ql 47 46,qm 7 47] [0,3,6,7] (.seq (qS [qk 8 0] [0,3,6,7,8] (.block 6 (.loop (.seq (qS [qm 48 8,qc 49 .lss 48 8] [0,3,6,7,8,49] (qC 49 .skip (.exit 6))) (.seq (.block 7 (.reg [qm 52 7,qm 53 6,qm 54 8,qx 55 101 [53,54],
  qo 56 (.build [(.int .u8 0), (.string ⟨#[]⟩), (.int .u8 0), (.int .i64 0), (.int .u64 0), (.string ⟨#[]⟩), (.slice none 0 0), (.slice none 0 0), (.slice none 0 0), (.slice none 0 0), (.int .i64 0)] [(10, 1, (.tmp 55))]),
  qo 57 (.bslice 48 1 [(.int .u8 0), (.string ⟨#[]⟩), (.int .u8 0), (.int .i64 0), (.int .u64 0), (.string ⟨#[]⟩), (.slice none 0 0), (.slice none 0 0), (.slice none 0 0), (.slice none 0 0), (.int .i64 0)] [(0, 11, (.tmp 56))]),
  qo 58 (.append 48 11 168 [(.int .u8 0), (.string ⟨#[]⟩), (.int .u8 0), (.int .i64 0), (.int .u64 0), (.string ⟨#[]⟩), (.slice none 0 0), (.slice none 0 0), (.slice none 0 0), (.slice none 0 0), (.int .i64 0)] (.tmp 52) (.tmp 57)),
  qm 7 58] [0,3,6,7,8])) (.reg [qm 50 8,qc 51 .add 50 1,qm 8 51] [0,3,6,7,8])))))) (.reg [qm 59 3,qm 60 7,qo 61 (.bslice 23 1 [(.slice none 0 0)] [(0, 1, (.tmp 60))]),
  qo 62 (.append 23 1 24 [(.slice none 0 0)] (.tmp 59) (.tmp 61)),qm 3 62] [0,3,6])))) (.reg [qm 42 6,qc 43 .add 42 1,qm 6 43] [0,3,6])))))) (.seq (qS [qk 9 0] [0,3,9] (.block 8 (.loop (.seq (qS [qm 63 9,qm 64 0,qL 65 64,qb 66 .lss 63 65] [0,3,9,66] (qC 66 .skip (.exit 8))) (.seq (.block 9 (qS [qm 69 0,qm 70 9,qi 71 1 69 70,ql 72 71,qL 73 72,qm 10 73] [0,3,9,10] (.seq (qS [qk 11 0] [0,3,9,10,11] (.block 10 (.loop (.seq (qS [qm 74 11,qm 75 10,qb 76 .lss 74 75] [0,3,9,10,11,76] (qC 76 .skip (.exit 10))) (.seq (.block 11 (.seq (qD [qm 79 0,qm 80 9,qi 81 1 79 80,ql 82 81,qm 83 11,qi 84 11 82 83,qf 85 10 84,ql 86 85,qm 87 9,qm 88 11,qx 89 100 [87,88],
  qb 90 .neq 86 89,qm 91 90,qu 91 (qm 92 3),qu 91 (qm 93 9),qu 91 (qi 94 1 92 93),qu 91 (ql 95 94),qu 91 (qm 96 11),qu 91 (qi 97 11 95 96),
  qu 91 (qf 98 10 97),qu 91 (ql 99 98),qu 91 (qm 100 9),qu 91 (qm 101 11),qu 91 (qx 102 100 [100,101]),qu 91 (qb 103 .neq 99 102),qr 104 91 103] [[0,1,2,3,4,5,6,7,8,9,10,11,12,13,14,15,16,17,18,19,20,21,22,23,24,25], [0,1,2,3,4,5,6,8,9,10,7,11,12,13,14,15,16,17,18,19,20,21,22,23,24,25], [0,1,2,4,8,9,10,3,5,6,7,11,12,13,14,15,16,17,18,19,20,21,22,23,24,25], [0,1,2,3,4,5,6,7,8,9,10,11,12,13,14,15,16,17,18,19,21,22,23,20,24,25], [0,1,2,3,4,5,6,8,9,10,7,11,12,13,14,15,16,17,18,19,21,22,23,20,24,25], [0,1,2,4,8,9,10,3,5,6,7,11,12,13,14,15,16,17,18,19,21,22,23,20,24,25], [0,1,2,3,4,5,6,7,8,9,10,11,12,13,14,15,17,21,22,23,16,18,19,20,24,25], [0,1,2,3,4,5,6,8,9,10,7,11,12,13,14,15,17,21,22,23,16,18,19,20,24,25], [0,1,2,4,8,9,10,3,5,6,7,11,12,13,14,15,17,21,22,23,16,18,19,20,24,25]] [0,3,9,10,11,104]) (qC 104 (qS [qz 2 false] [2] .ret) .skip))) (.reg [qm 77 11,qc 78 .add 77 1,qm 11 78] [0,3,9,10,11])))))) (qS [qk 12 0] [0,3,9,10,12] (.block 12 (.loop (.seq (qS [qm 105 12,qc 106 .lss 105 8] [0,3,9,10,12,106] (qC 106 .skip (.exit 12))) (.seq (.block 13 (.seq (qD [qm 109 3,qm 110 9,qi 111 1 109 110,ql 112 111,qm 113 10,qm 114 12,qb 115 .add 113 114,qi 116 11 112 115,qf 117 10 116,ql 118 117,
  qm 119 9,qm 120 12,qx 121 101 [119,120],qb 122 .neq 118 121] [[0,1,2,3,4,5,6,7,8,9,10,11,12,13], [0,1,2,3,4,5,6,7,8,10,11,12,9,13], [0,1,2,4,5,6,10,11,12,3,7,8,9,13]] [0,3,9,10,12,122]) (qC 122 (qS [qz 2 false] [2] .ret) .skip))) (.reg [qm 107 12,qc 108 .add 107 1,qm 12 108] [0,3,9,10,12]))))))))) (.reg [qm 67 9,qc 68 .add 67 1,qm 9 68] [0,3,9])))))) (qS [qz 2 true] [2] .ret))))))⟩)
theorem n63 : F63.n = 123 := rfl
theorem low63 : kV Tryz.prog (kpO F63) (kM [(8,[[0,1,2,3,4,5,6,7,8,9,10], [0,1,2,4,5,6,7,3,8,9,10]]), (25,[[0,1,2,3,4,5,6,7,8,9,10,11,12,13,14,15,16,17,18,19,20,21,22,23,24,25], [0,1,2,3,4,5,6,8,9,10,7,11,12,13,14,15,16,17,18,19,20,21,22,23,24,25], [0,1,2,4,8,9,10,3,5,6,7,11,12,13,14,15,16,17,18,19,20,21,22,23,24,25], [0,1,2,3,4,5,6,7,8,9,10,11,12,13,14,15,16,17,18,19,21,22,23,20,24,25], [0,1,2,3,4,5,6,8,9,10,7,11,12,13,14,15,16,17,18,19,21,22,23,20,24,25], [0,1,2,4,8,9,10,3,5,6,7,11,12,13,14,15,16,17,18,19,21,22,23,20,24,25], [0,1,2,3,4,5,6,7,8,9,10,11,12,13,14,15,17,21,22,23,16,18,19,20,24,25], [0,1,2,3,4,5,6,8,9,10,7,11,12,13,14,15,17,21,22,23,16,18,19,20,24,25], [0,1,2,4,8,9,10,3,5,6,7,11,12,13,14,15,17,21,22,23,16,18,19,20,24,25]]), (30,[[0,1,2,3,4,5,6,7,8,9,10,11,12,13], [0,1,2,3,4,5,6,7,8,10,11,12,9,13], [0,1,2,4,5,6,10,11,12,3,7,8,9,13]])]) 63 = some F63 := by kernel_rfl
def F100 : FIR := laid (X := ⟨9, [.tmp 4], (qS [qk 4 0] [0,1] (qS [qm 5 0,qc 6 .mul 5 20000,qm 7 1,qb 8 .add 6 7,qm 4 8] [4] .ret))⟩)
theorem n100 : F100.n = 9 := rfl
theorem low100 : kV Tryz.prog (kpO F100) (kM []) 100 = some F100 := by kernel_rfl
def F101 : FIR := laid (X := ⟨10, [.tmp 4], (qS [qk 4 0] [0,1] (qS [qm 5 0,qc 6 .mul 5 20,qo 7 (.bin .sub (.const (.int .i64 (-1))) (.tmp 6)),qm 8 1,qb 9 .sub 7 8,qm 4 9] [4] .ret))⟩)
theorem n101 : F101.n = 10 := rfl
theorem low101 : kV Tryz.prog (kpO F101) (kM []) 101 = some F101 := by kernel_rfl
def F102 : FIR := laid (X := ⟨24, [.tmp 2], (qS [qo 2 (.mv (.const (.string ⟨#[]⟩)))] [0] (.seq (qS [qm 4 0,qc 5 .lss 4 0] [0,5] (qC 5 (qS [qm 6 0,qo 7 (.un .neg (.tmp 6)),qx 8 102 [7],qo 9 (.bin .add (.const (.string ⟨#[45]⟩)) (.tmp 8)),qm 2 9] [2] .ret) .skip)) (qS [qm 10 0,qc 11 .rem 10 26,qo 12 (.bin .add (.const (.int .i64 97)) (.tmp 11)),qo 13 (.conv .u8 (.tmp 12)),
  qo 14 (.bslice 5 1 [(.int .u8 0)] [(0, 1, (.tmp 13))]),qo 15 (.b2s (.tmp 14)),qm 3 15] [0,3] (.seq (qS [qm 16 0,qc 17 .geq 16 26] [0,3,17] (qC 17 (qS [qm 18 0,qc 19 .quo 18 26,qx 20 102 [19],qm 21 3,qb 22 .add 20 21,qm 2 22] [2] .ret) .skip)) (qS [qm 23 3,qm 2 23] [2] .ret)))))⟩)
theorem n102 : F102.n = 24 := rfl
theorem low102 : kV Tryz.prog (kpO F102) (kM []) 102 = some F102 := by kernel_rfl
end Go.Proofs.YtmnmandpdadedaaGreatDoor
namespace Go.V
open Go
def chB (n : Nat) : ByteArray := ⟨#[UInt8.ofNat (97 + n % 26)]⟩
def markN (n : Nat) : ByteArray := if _h : 26 <= n then markN (n / 26) ++ chB n else chB n
termination_by n
decreasing_by omega
def minusB : ByteArray := ⟨#[45]⟩
def zc (z : Int) : ByteArray := if z < 0 then minusB ++ markN (-z).toNat else markN z.toNat
theorem markN_size : ∀ (f n : Nat), n < 26 ^ (f + 1) -> (markN n).size <= f + 1 := by
  intro f
  induction f with
  | zero =>
    intro n h;unfold markN;rw [dif_neg (by simp at h;omega)];exact Nat.le_refl _
  | succ f ih =>
    intro n h;unfold markN;split
    · have : n / 26 < 26 ^ (f + 1) := by
        rw [Nat.div_lt_iff_lt_mul Zo];rw [Nat.pow_succ] at h;exact h
      have := ih _ this;rw [ByteArray.size_append];have e : (chB n).size = 1 := rfl;omega
    · have e : (chB n).size = 1 := rfl;omega
theorem markN_small {n : Nat} (h : n <= 4611686018427387904) : (markN n).size <= 14 := by
  refine markN_size 13 n ?_;rw [show (26 : Nat) ^ (13 + 1) = 64509974703297150976 by decide];omega
theorem ch_txt (n : Nat) : ftxt [UInt8.ofNat (97 + n % 26)] = chB n := rfl
end Go.V
namespace Go.Proofs.YtmnmandpdadedaaGreatDoor
open Go Go.V
set_option maxHeartbeats 6400000
set_option maxRecDepth 100000
theorem markN_spec : ∀ n : Nat, n <= 4611686018427387904 -> Fun Tryz.prog 102 [vi n] [] (fun v Post => v = .string (markN n) /\ Post = []) := by
  intro n
  induction n using Nat.strongRecOn with
  | _ n ih =>
  intro hn;refine Fun.intro low102 (by simp [n102]) ?_;refine GO ?_;have hr : (n : Int).tmod 26 = ((n % 26 : Nat) : Int) := by rw [Int.tmod_eq_emod_of_nonneg Zo];omega
  have he : IntKind.u8.wrap (IntKind.i64.wrap (97 + (n : Int).tmod 26)) = ((UInt8.ofNat (97 + n % 26)).toNat : Int) := by
    rw [hr, wrap64 ⟨Zo, Zo⟩];have : (UInt8.ofNat (97 + n % 26)).toNat = 97 + n % 26 := by simp;omega
    rw [this];simp [IntKind.wrap, IntKind.bits, IntKind.signed];omega
  rw [he];refine ki (out := [u8v (UInt8.ofNat (97 + n % 26))]) Zr Zr (fun q => ?_);refine GO ?_;refine st_b2s (l := [UInt8.ofNat (97 + n % 26)]) Zr ((ku.mk (b := q) (o := 0) (n := 1) (c := 1) (xs := [u8v (UInt8.ofNat (97 + n % 26))]) (sp := []) rfl rfl (Nat.le_refl _)).bytes .here) ?_;rw [ch_txt];refine GO ?_;by_cases h26 : 26 <= n
  · simp only [show (26 : Int) <= (n : Int) by omega, decide_true, show ((n : Int) ≥ 26) by omega];refine GO ?_;have hq : IntKind.i64.wrap ((n : Int).tdiv 26) = ((n / 26 : Nat) : Int) := by
      rw [Int.tdiv_eq_ediv_of_nonneg Zo];rw [wrap64 ⟨Zo, Zo⟩];omega
    rw [hq];refine GO ?_;refine kD (ih (n / 26) Zo Zo) Zr Spl.nil (fun v Post hv => ?_);obtain ⟨rfl, rfl⟩ := hv;simp only [List.nil_append];have hs := markN_small (n := n / 26) Zo;refine GO ?_;refine st_cat Zr Zr (by have e : (chB n).size = 1 := rfl;omega) ?_;refine GO ?_;exact kC (Post := []) (.inr rfl) (.tmp Zr .nil) ⟨by rw [show markN n = markN (n / 26) ++ chB n by rw [markN, dif_pos h26]];rfl, rfl⟩ ZI
  · simp only [show ¬ ((n : Int) ≥ 26) by omega, decide_false];refine GO ?_;exact kC (Post := []) (.inr rfl) (.tmp Zr .nil) ⟨by rw [show markN n = chB n by rw [markN, dif_neg h26]];rfl, rfl⟩ ZI
theorem mark_spec (z : Int) (h1 : -4611686018427387904 <= z) (h2 : z <= 4611686018427387904) : Fun Tryz.prog 102 [vi z] [] (fun v Post => v = .string (zc z) /\ Post = []) := by
  by_cases hz : z < 0;rotate_left
  · obtain ⟨n, rfl⟩ := Int.eq_ofNat_of_zero_le (show 0 <= z by omega);rw [show zc n = markN n by unfold zc;rw [if_neg Zo];rfl];exact markN_spec n Zo
  refine Fun.intro low102 (by simp [n102]) ?_;refine GO ?_;simp only [Zt hz];refine GO ?_;have hw : IntKind.i64.wrap (0 - z) = (((-z).toNat : Nat) : Int) := by rw [wrap64 ⟨Zo, Zo⟩];omega
  rw [hw];refine kD (markN_spec (-z).toNat Zo) Zr Spl.nil (fun v Post hv => ?_);obtain ⟨rfl, rfl⟩ := hv;simp only [List.nil_append];have hs := markN_small (n := (-z).toNat) Zo;refine GO ?_;refine st_cat Zr Zr (by have e : (ByteArray.mk #[45]).size = 1 := rfl;omega) ?_;refine GO ?_;exact kC (Post := []) (.inr rfl) (.tmp Zr .nil) ⟨by rw [show zc z = minusB ++ markN (-z).toNat by unfold zc;rw [if_pos hz]];rfl, rfl⟩ ZI
def jr (i k : Nat) : Int := (i : Int) * 20000 + k
def behZ (i k : Nat) : Int := -1 - (i : Int) * 20 - k
theorem z5 (i k : Nat) (hi : i <= 1073741824) (hk : k <= 1073741824) : Fun Tryz.prog 100 [vi i, vi k] [] (fun v Post => v = vi (jr i k) /\ Post = []) := by
  refine Fun.intro low100 (by simp [n100]) ?_;refine GO ?_;exact kC (Post := []) (.inr rfl) (.tmp Zr .nil) ⟨rfl, rfl⟩ Imp.nil
theorem beh_spec (i k : Nat) (hi : i <= 1073741824) (hk : k <= 1073741824) : Fun Tryz.prog 101 [vi i, vi k] [] (fun v Post => v = vi (behZ i k) /\ Post = []) := by
  refine Fun.intro low101 (by simp [n101]) ?_;refine GO ?_;exact kC (Post := []) (.inr rfl) (.tmp Zr .nil) ⟨rfl, rfl⟩ Imp.nil
end Go.Proofs.YtmnmandpdadedaaGreatDoor

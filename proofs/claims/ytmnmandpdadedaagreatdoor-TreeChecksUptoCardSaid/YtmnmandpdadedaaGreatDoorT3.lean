/-
  The code of functions, as terms: printed by a program, proved to be what the seat has.
-/
import Derived.Test.YtmnmandpdadedaaGreatDoorT1
import Derived.KernelRfl
import Derived.Test.YtmnmandpdadedaaGreatDoorProg
import Derived.Test.YtmnmandpdadedaaGreatDoorT2
import Derived.Test.YtmnmandpdadedaaGreatDoorV4
import Derived.Shelf.Strconv.ParseIntPublic10
import Derived.Test.YtmnmandpdadedaaGreatDoorV5
import Derived.Test.YtmnmandpdadedaaGreatDoorV3
set_option linter.unusedSimpArgs false
set_option linter.unusedVariables false
namespace Go.Proofs.YtmnmandpdadedaaGreatDoor
open Go Go.V
set_option maxRecDepth 100000
def F47 : FIR := laid (X := ⟨6, [], (qS [qm 2 0,qo 3 (.un .not (.tmp 2))] [3] (qC 3 (.reg [qo 4 (.build [(.int .i64 0)] [(0, 1, (.const (.int .i64 150)))]),qo 5 (.mkif 96 (.tmp 4)),
  ⟨none,none,.pnc (.tmp 5)⟩] []) .skip))⟩)
theorem n47 : F47.n = 6 := rfl
theorem low47 : kV Tryz.prog (kpO F47) (kM []) 47 = some F47 := by kernel_rfl
def F95 : FIR := laid (X := ⟨12, [.tmp 2], (qS [qz 2 false] [0] (.seq (qS [qm 3 0] [0,3] (.block 0 (.seq (qS [qo 5 (.bin .eql (.tmp 3) (.const (.string ⟨#[115, 101, 108, 102]⟩))),qm 4 5] [0,3,4] (qC 4 .skip (qS [qo 6 (.bin .eql (.tmp 3) (.const (.string ⟨#[115, 117, 112, 101, 114]⟩))),qm 4 6] [0,3,4] (qC 4 .skip (qS [qo 7 (.bin .eql (.tmp 3) (.const (.string ⟨#[110, 105, 108]⟩))),qm 4 7] [0,3,4] (qC 4 .skip (qS [qo 8 (.bin .eql (.tmp 3) (.const (.string ⟨#[116, 114, 117, 101]⟩))),qm 4 8] [0,3,4] (qC 4 .skip (.reg [qo 9 (.bin .eql (.tmp 3) (.const (.string ⟨#[102, 97, 108, 115, 101]⟩))),qm 4 9] [0,4]))))))))) (qC 4 (qS [qz 2 false] [2] .ret) .skip)))) (qS [qm 10 0,qx 11 88 [10],qm 2 11] [2] .ret)))⟩)
theorem n95 : F95.n = 12 := rfl
theorem low95 : kV Tryz.prog (kpO F95) (kM []) 95 = some F95 := by kernel_rfl
def F94 : FIR := laid (X := ⟨6, [.tmp 2], (qS [qz 2 false] [0] (qS [qm 3 0,qx 4 95 [3],qo 5 (.un .not (.tmp 4)),qm 2 5] [2] .ret))⟩)
theorem n94 : F94.n = 6 := rfl
theorem low94 : kV Tryz.prog (kpO F94) (kM []) 94 = some F94 := by kernel_rfl
def F130 : FIR := laid (X := ⟨19, [.tmp 4], (qS [qk 4 0] [0,1] (.seq (qS [qm 6 0,qL 7 6,qk 8 0] [0,1,7,8] (.block 0 (.loop (qS [qb 9 .lss 8 7] [0,1,7,8,9] (.seq (qC 9 .skip (.exit 0)) (.seq (.block 1 (qS [qm 10 8,qm 5 10] [0,1,5,7,8] (qS [qm 11 1,qm 12 0,qm 13 5,qi 14 1 12 13,ql 15 14,qo 16 (.callv (.tmp 11) [(.tmp 15)])] [0,1,5,7,8,16] (qC 16 (qS [qm 17 5,qm 4 17] [4] .ret) .skip)))) (.reg [qc 18 .add 8 1,qm 8 18] [0,1,7,8]))))))) (qS [qk 4 (-1)] [4] .ret)))⟩)
theorem n130 : F130.n = 19 := rfl
theorem low130 : kV Tryz.prog (kpO F130) (kM []) 130 = some F130 := by kernel_rfl
def F93 : FIR := laid (X := ⟨9, [.tmp 4], (qS [qz 4 false] [0,1] (qS [qm 5 0,qm 6 1,qx 7 130 [5,6],qc 8 .geq 7 0,qm 4 8] [4] .ret))⟩)
theorem n93 : F93.n = 9 := rfl
theorem low93 : kV Tryz.prog (kpO F93) (kM []) 93 = some F93 := by kernel_rfl
def F49 : FIR := laid (X := ⟨23, [], (qS [qm 6 0,qm 7 0,qn 8 7,qf 9 0 8,ql 10 9,qm 11 10,qu 11 (qm 12 2),qu 11 (qL 13 12),qu 11 (qm 14 1),qu 11 (qb 15 .gtr 13 14),
  qr 16 11 15,qn 17 6,qf 18 0 17,qs 1 18 16] [2] (.reg [qm 19 2,qo 20 (.call 93 [(.tmp 19), (.func 94)]),qo 21 (.un .not (.tmp 20)),qx 22 47 [21]] []))⟩)
theorem n49 : F49.n = 23 := rfl
theorem low49 : kV Tryz.prog (kpO F49) (kM []) 49 = some F49 := by kernel_rfl
def F131 : FIR := laid (X := ⟨151, [.tmp 6], (qS [qB 4 46 1,qk 6 0] [0,2,4] (qS [qk 7 0] [0,2,4,7] (qS [qN 13 5 4,
  qo 8 (.alloc 46 [(.int .u8 0), (.int .i64 0), (.int .u64 0), (.string ⟨#[]⟩), (.slice none 0 0)]),
  qs 5 8 13] [0,2,4,7,8] (.seq (qS [qf 14 0 4,ql 15 14] [0,2,4,7,8,15] (.block 0 (.seq (.block 9 (.seq (.block 8 (.seq (.block 7 (.seq (.block 6 (.seq (.block 5 (.seq (.block 4 (.seq (.block 3 (.seq (.block 2 (.seq (.block 1 (.seq (.seq (.seq (qS [qo 17 (.bin .eql (.tmp 15) (.const (.int .u8 1))),qm 16 17] [0,2,4,7,8,15,16] (qC 16 .skip (qS [qo 18 (.bin .eql (.tmp 15) (.const (.int .u8 2))),qm 16 18] [0,2,4,7,8,15,16] (qC 16 .skip (.reg [qo 19 (.bin .eql (.tmp 15) (.const (.int .u8 3))),qm 16 19] [0,2,4,7,8,15,16]))))) (qC 16 (.exit 1) .skip)) (.seq (qS [qo 21 (.bin .eql (.tmp 15) (.const (.int .u8 4))),qm 20 21] [0,4,7,8,15,20] (qC 20 (.exit 2) .skip)) (.seq (qS [qo 23 (.bin .eql (.tmp 15) (.const (.int .u8 5))),qm 22 23] [0,4,7,8,15,22] (qC 22 (.exit 3) .skip)) (.seq (qS [qo 25 (.bin .eql (.tmp 15) (.const (.int .u8 6))),qm 24 25] [0,4,7,8,15,24] (qC 24 (.exit 4) .skip)) (.seq (qS [qo 27 (.bin .eql (.tmp 15) (.const (.int .u8 7))),qm 26 27] [0,4,7,8,15,26] (qC 26 (.exit 5) .skip)) (.seq (qS [qo 29 (.bin .eql (.tmp 15) (.const (.int .u8 11))),qm 28 29] [0,4,7,8,15,28] (qC 28 (.exit 6) .skip)) (.seq (.seq (qS [qo 31 (.bin .eql (.tmp 15) (.const (.int .u8 8))),qm 30 31] [0,4,7,8,15,30] (qC 30 .skip (.reg [qo 32 (.bin .eql (.tmp 15) (.const (.int .u8 9))),qm 30 32] [0,4,7,8,15,30]))) (qC 30 (.exit 7) .skip)) (qS [qo 34 (.bin .eql (.tmp 15) (.const (.int .u8 10))),qm 33 34] [0,4,7,8,33] (qC 33 (.exit 8) .skip))))))))) (.exit 9))) (qS [qm 35 2,qx 36 47 [35]] [7,8] (.exit 0)))) (.seq (qS [qf 37 1 4,ql 38 37,qo 39 (.bin .leq (.const (.int .i64 (-1152921504606846976))) (.tmp 38)),qm 40 39,qt 40 (qf 41 1 4),
  qt 40 (ql 42 41),qt 40 (qc 43 .leq 42 1152921504606846975),qa 44 40 43,qx 45 47 [44]] [7,8] (.reg [qf 46 1 8,⟨none,none,.store 1 (.tmp 46) (.const (.int .i64 0))⟩] [7,8])) (.exit 0)))) (.seq (qS [qf 48 3 4,ql 49 48,qx 50 148 [49],qm 47 50,qe 51 47 0,qe 52 47 1,
  qo 9 (.alloc 46 [(.int .u8 0), (.int .i64 0), (.int .u64 0), (.string ⟨#[]⟩), (.slice none 0 0)]),
  qs 5 9 51,qm 10 52] [4,7,8,9,10] (qS [qm 53 10,qc 54 .eql 53 0,qm 55 54,qt 55 (qf 56 0 9),qt 55 (ql 57 56),
  qt 55 (qo 58 (.bin .eql (.tmp 57) (.const (.int .u8 5)))),qa 59 55 58,qm 60 59,qt 60 (qf 61 3 9),qt 60 (ql 62 61),qt 60 (qf 63 3 4),
  qt 60 (ql 64 63),qt 60 (qb 65 .eql 62 64),qa 66 60 65,qx 67 47 [66]] [7,8] (.reg [qf 68 3 8,⟨none,none,.store 1 (.tmp 68) (.const (.string ⟨#[]⟩))⟩] [7,8]))) (.exit 0)))) (.seq (qS [qf 69 2 4,ql 70 69,qo 71 (.bin .shl (.tmp 70) (.const (.int .u64 1))),
  qo 72 (.bin .shr (.tmp 71) (.const (.int .u64 53))),qo 73 (.bin .neq (.tmp 72) (.const (.int .u64 2047))),qx 74 47 [73]] [7,8] (.reg [qf 75 2 8,⟨none,none,.store 1 (.tmp 75) (.const (.int .u64 0))⟩] [7,8])) (.exit 0)))) (.seq (qS [qf 76 1 4,ql 77 76,qo 78 (.bin .leq (.const (.int .i64 0)) (.tmp 77)),qm 79 78,qt 79 (qf 80 1 4),qt 79 (ql 81 80),
  qt 79 (qc 82 .leq 81 255),qa 83 79 82,qx 84 47 [83]] [7,8] (.reg [qf 85 1 8,⟨none,none,.store 1 (.tmp 85) (.const (.int .i64 0))⟩] [7,8])) (.exit 0)))) (.reg [qm 86 0,qm 87 0,qn 88 87,qf 89 0 88,ql 90 89,qm 91 90,qu 91 (qf 92 3 4),qu 91 (ql 93 92),qu 91 (qo 94 (.lenS (.tmp 93))),
  qu 91 (qc 95 .gtr 94 255),qr 96 91 95,qn 97 86,qf 98 0 97,qs 1 98 96] [7,8]))) (qS [qf 99 3 8,⟨none,none,.store 1 (.tmp 99) (.const (.string ⟨#[]⟩))⟩] [7,8] (.exit 0)))) (.seq (qS [qm 100 0,qm 101 0,qn 102 101,qf 103 0 102,ql 104 103,qm 105 104,qu 105 (qf 106 4 4),qu 105 (ql 107 106),qu 105 (qL 108 107),
  qu 105 (qc 109 .gtr 108 255),qr 110 105 109,qn 111 100,qf 112 0 111,qs 1 112 110] [0,4,7,8] (.seq (qS [qf 113 4 4,ql 114 113,qL 115 114,qk 116 0] [0,7,8,114,115,116] (.block 10 (.loop (qS [qb 117 .lss 116 115] [0,7,8,114,115,116,117] (.seq (qC 117 .skip (.exit 10)) (.seq (.block 11 (qS [qi 118 5 114 116,qN 119 5 118,
  qo 12 (.alloc 46 [(.int .u8 0), (.int .i64 0), (.int .u64 0), (.string ⟨#[]⟩), (.slice none 0 0)]),
  qs 5 12 119] [0,7,8,12,114,115,116] (.reg [qm 120 7,qm 121 0,qN 122 5 12,qo 123 (.call 131 [(.tmp 121), (.tmp 122), (.const (.bool true))]),
  qo 124 (.max2 (.tmp 120) (.tmp 123)),qm 7 124] [0,7,8,114,115,116]))) (.reg [qc 125 .add 116 1,qm 116 125] [0,7,8,114,115,116]))))))) (qS [qm 126 7,qc 127 .add 126 1,qm 7 127] [7,8] (.reg [qf 128 4 8,⟨none,none,.store 1 (.tmp 128) (.const (.slice none 0 0))⟩] [7,8])))) (.exit 0)))) (qS [qo 129 (.call 47 [(.const (.bool false))])] [7,8] (.exit 0))))) (qS [qf 130 1 8,ql 131 130,qc 132 .eql 131 0,qm 133 132,qt 133 (qf 134 2 8),qt 133 (ql 135 134),
  qt 133 (qo 136 (.bin .eql (.tmp 135) (.const (.int .u64 0)))),qa 137 133 136,qm 138 137,qt 138 (qf 139 3 8),qt 138 (ql 140 139),
  qt 138 (qo 141 (.bin .eql (.tmp 140) (.const (.string ⟨#[]⟩)))),qa 142 138 141,qm 143 142,qt 143 (qf 144 4 8),qt 143 (ql 145 144),
  qt 143 (qL 146 145),qt 143 (qc 147 .eql 146 0),qa 148 143 147,qx 149 47 [148]] [7] (qS [qm 150 7,qm 6 150] [6] .ret))))))⟩)
theorem n131 : F131.n = 151 := rfl
theorem low131 : kV Tryz.prog (kpO F131) (kM []) 131 = some F131 := by kernel_rfl
def F112 : FIR := laid (X := ⟨11, [.tmp 2], (qS [qB 1 48 0,qz 2 false] [1] (qS [qf 3 0 1,ql 4 3,qo 5 (.bin .eql (.tmp 4) (.const (.int .u8 2))),qm 6 5,qt 6 (qf 7 1 1),qt 6 (ql 8 7),
  qt 6 (qo 9 (.bin .eql (.tmp 8) (.const (.string ⟨#[115, 117, 112, 101, 114]⟩)))),qa 10 6 9,qm 2 10] [2] .ret))⟩)
theorem n112 : F112.n = 11 := rfl
theorem low112 : kV Tryz.prog (kpO F112) (kM []) 112 = some F112 := by kernel_rfl
def F115 : FIR := laid (X := ⟨15, [.tmp 2], (qS [qk 2 0] [0] (.seq (qS [qm 3 0,qx 4 48 [3]] [0,4] (.block 0 (qS [qc 6 .eql 4 0,qm 5 6] [0,4,5] (qC 5 (qS [qk 2 5] [2] .ret) (qS [qc 8 .eql 4 1,qm 7 8] [0,7] (qC 7 (qS [qm 9 0,qm 10 0,qo 11 (.lenS (.tmp 10)),qc 12 .sub 11 1,qo 13 (.idxS (.tmp 9) (.tmp 12)),
  qo 14 (.bin .neq (.tmp 13) (.const (.int .u8 58)))] [14] (qC 14 (qS [qk 2 4] [2] .ret) .skip)) .skip)))))) (qS [qk 2 3] [2] .ret)))⟩)
theorem n115 : F115.n = 15 := rfl
theorem low115 : kV Tryz.prog (kpO F115) (kM []) 115 = some F115 := by kernel_rfl
def F75 : FIR := laid (X := ⟨14, [.tmp 2], (qS [qB 1 48 0,qk 2 0] [1] (.seq (qS [qf 3 0 1,ql 4 3] [1,4] (.block 0 (qS [qo 6 (.bin .eql (.tmp 4) (.const (.int .u8 3))),qm 5 6] [1,4,5] (qC 5 (qS [qk 2 1] [2] .ret) (qS [qo 8 (.bin .eql (.tmp 4) (.const (.int .u8 5))),qm 7 8] [1,4,7] (qC 7 (qS [qk 2 2] [2] .ret) (qS [qo 10 (.bin .eql (.tmp 4) (.const (.int .u8 4))),qm 9 10] [1,9] (qC 9 (qS [qf 11 1 1,ql 12 11,qx 13 115 [12],qm 2 13] [2] .ret) .skip)))))))) (qS [qk 2 6] [2] .ret)))⟩)
theorem n75 : F75.n = 14 := rfl
theorem low75 : kV Tryz.prog (kpO F75) (kM []) 75 = some F75 := by kernel_rfl
def F149 : FIR := laid (X := ⟨6, [.tmp 2], (qS [qk 2 0] [0] (qS [qm 3 0,qx 4 115 [3],qo 5 (.max2 (.const (.int .i64 4)) (.tmp 4)),qm 2 5] [2] .ret))⟩)
theorem n149 : F149.n = 6 := rfl
theorem low149 : kV Tryz.prog (kpO F149) (kM []) 149 = some F149 := by kernel_rfl
def F150 : FIR := laid (X := ⟨6, [.tmp 2], (qS [qk 2 0] [0] (.seq (qS [qm 3 0,qx 4 115 [3],qc 5 .eql 4 4] [5] (qC 5 (qS [qk 2 5] [2] .ret) .skip)) (qS [qk 2 4] [2] .ret)))⟩)
theorem n150 : F150.n = 6 := rfl
theorem low150 : kV Tryz.prog (kpO F150) (kM []) 150 = some F150 := by kernel_rfl
def F113 : FIR := laid (X := ⟨27, [.tmp 6], (qS [qB 4 48 1,qk 6 0] [0,2,4] (qS [qf 8 0 4,ql 9 8,qo 10 (.bin .neq (.tmp 9) (.const (.int .u8 9))),qm 11 10,qt 11 (qf 12 0 4),qt 11 (ql 13 12),
  qt 11 (qo 14 (.bin .neq (.tmp 13) (.const (.int .u8 6)))),qa 15 11 14,qx 16 47 [15]] [0,2,4] (qS [qm 17 0,qN 18 11 4,qx 19 96 [17,18],qm 7 19] [2,4,7] (.seq (qS [qN 20 11 4,qx 21 75 [20],qm 22 2,qb 23 .lss 21 22] [7,23] (qC 23 (.reg [qm 24 7,qc 25 .add 24 1,qm 7 25] [7]) .skip)) (qS [qm 26 7,qm 6 26] [6] .ret)))))⟩)
theorem n113 : F113.n = 27 := rfl
theorem low113 : kV Tryz.prog (kpO F113) (kM []) 113 = some F113 := by kernel_rfl
def F73 : FIR := laid (X := ⟨15, [.tmp 6], (qS [qB 4 48 1,qk 6 0] [0,2,4] (qS [qN 7 11 4,qx 8 112 [7],qo 9 (.un .not (.tmp 8)),qx 10 47 [9]] [0,2,4] (qS [qm 11 0,qN 12 11 4,qm 13 2,qx 14 113 [11,12,13],qm 6 14] [6] .ret)))⟩)
theorem n73 : F73.n = 15 := rfl
theorem low73 : kV Tryz.prog (kpO F73) (kM []) 73 = some F73 := by kernel_rfl
def F132 : FIR := laid (X := ⟨17, [.tmp 6], (qS [qB 4 48 1,qk 6 0] [0,2,4] (.seq (qS [qN 7 11 4,qx 8 112 [7]] [0,2,4,8] (qC 8 (qS [qm 9 0,qN 10 11 4,qx 11 96 [9,10],qm 6 11] [6] .ret) .skip)) (.seq (qD [qm 12 0,qN 13 11 4,qm 14 2,qx 15 149 [14],qx 16 73 [12,13,15],qm 6 16] [[0,1,2,3,4,5], [0,2,3,1,4,5]] [6]) .ret)))⟩)
theorem n132 : F132.n = 17 := rfl
theorem low132 : kV Tryz.prog (kpO F132) (kM [(3,[[0,1,2,3,4,5], [0,2,3,1,4,5]])]) 132 = some F132 := by kernel_rfl
def F133 : FIR := laid (X := ⟨44, [.tmp 6], (qS [qk 6 0] [0,1,2] (qS [qm 11 1,qx 12 48 [11],qm 7 12] [0,1,2,7] (qS [qm 13 7,qm 14 2,qL 15 14,qb 16 .eql 13 15,qx 17 47 [16]] [0,1,2,7] (qS [qm 18 0,qm 19 0,qn 20 19,qf 21 0 20,ql 22 21,qm 23 22,qu 23 (qm 24 7),qu 23 (qc 25 .gtr 24 15),qr 26 23 25,qn 27 18,qf 28 0 27,
  qs 1 28 26] [0,1,2] (qS [qk 8 0] [0,1,2,8] (.seq (qS [qm 29 2,qL 30 29,qk 31 0] [0,1,8,29,30,31] (.block 0 (.loop (qS [qb 32 .lss 31 30] [0,1,8,29,30,31,32] (.seq (qC 32 .skip (.exit 0)) (.seq (.block 1 (qS [qi 33 11 29 31,qN 34 11 33,
  qo 10 (.alloc 48 [(.int .u8 0), (.string ⟨#[]⟩), (.int .u8 0), (.int .i64 0), (.int .u64 0), (.string ⟨#[]⟩), (.slice none 0 0), (.slice none 0 0), (.slice none 0 0), (.slice none 0 0), (.int .i64 0)]),
  qs 11 10 34] [0,1,8,10,29,30,31] (qD [qm 35 8,qm 36 0,qN 37 11 10,qm 38 1,qx 39 150 [38],qx 40 73 [36,37,39],qo 41 (.max2 (.tmp 35) (.tmp 40)),qm 8 41] [[0,1,2,3,4,5,6,7], [0,1,3,4,2,5,6,7]] [0,1,8,29,30,31]))) (.reg [qc 42 .add 31 1,qm 31 42] [0,1,8,29,30,31]))))))) (qS [qm 43 8,qm 6 43] [6] .ret)))))))⟩)
theorem n133 : F133.n = 44 := rfl
theorem low133 : kV Tryz.prog (kpO F133) (kM [(8,[[0,1,2,3,4,5,6,7], [0,1,3,4,2,5,6,7]])]) 133 = some F133 := by kernel_rfl
def F50 : FIR := laid (X := ⟨37, [.tmp 4], (qS [qk 4 0] [0,1] (qS [qk 5 0] [0,1,5] (.seq (qS [qm 8 1,qL 9 8,qk 10 0] [0,1,5,8,9,10] (.block 0 (.loop (qS [qb 11 .lss 10 9] [0,1,5,8,9,10,11] (.seq (qC 11 .skip (.exit 0)) (.seq (.block 1 (qS [qm 12 10,qi 13 11 8 10,qN 14 11 13,
  qo 7 (.alloc 48 [(.int .u8 0), (.string ⟨#[]⟩), (.int .u8 0), (.int .i64 0), (.int .u64 0), (.string ⟨#[]⟩), (.slice none 0 0), (.slice none 0 0), (.slice none 0 0), (.slice none 0 0), (.int .i64 0)]),
  qm 6 12,qs 11 7 14] [0,1,5,6,7,8,9,10] (.seq (qS [qf 15 0 7,ql 16 15,qo 17 (.bin .eql (.tmp 16) (.const (.int .u8 9))),qm 18 17,qt 18 (qm 19 6),qt 18 (qm 20 1),
  qt 18 (qL 21 20),qt 18 (qc 22 .sub 21 1),qt 18 (qb 23 .eql 19 22),qa 24 18 23] [0,1,5,7,8,9,10,24] (qC 24 (qS [qm 25 5,qm 26 0,qN 27 11 7,qx 28 96 [26,27],qo 29 (.max2 (.tmp 25) (.tmp 28)),qm 5 29] [0,1,5,8,9,10] (.exit 1)) .skip)) (.reg [qm 30 5,qm 31 0,qN 32 11 7,qo 33 (.call 73 [(.tmp 31), (.tmp 32), (.const (.int .i64 1))]),
  qo 34 (.max2 (.tmp 30) (.tmp 33)),qm 5 34] [0,1,5,8,9,10])))) (.reg [qc 35 .add 10 1,qm 10 35] [0,1,5,8,9,10]))))))) (qS [qm 36 5,qm 4 36] [4] .ret))))⟩)
theorem n50 : F50.n = 37 := rfl
theorem low50 : kV Tryz.prog (kpO F50) (kM []) 50 = some F50 := by kernel_rfl
def F96 : FIR := laid (X := ⟨257, [.tmp 4], (qS [qB 3 48 1,qk 4 0] [0,3] (qS [qN 12 11 3,
  qo 5 (.alloc 48 [(.int .u8 0), (.string ⟨#[]⟩), (.int .u8 0), (.int .i64 0), (.int .u64 0), (.string ⟨#[]⟩), (.slice none 0 0), (.slice none 0 0), (.slice none 0 0), (.slice none 0 0), (.int .i64 0)]),
  qs 11 5 12] [0,3,5] (qS [qf 13 9 5,⟨none,none,.store 1 (.tmp 13) (.const (.slice none 0 0))⟩] [0,3,5] (qS [qk 6 0] [0,3,5,6] (.seq (qS [qf 14 0 3,ql 15 14] [0,3,5,6,15] (.block 0 (qS [qo 18 (.bin .eql (.tmp 15) (.const (.int .u8 1))),qm 17 18] [0,3,5,6,15,17] (qC 17 (qS [qf 19 9 3,ql 20 19,qL 21 20,qc 22 .eql 21 0,qx 23 47 [22]] [0,3,5] (qS [qm 24 0,qf 25 2 3,qN 26 5 25,qo 27 (.call 131 [(.tmp 24), (.tmp 26), (.const (.bool false))]),qm 6 27] [5,6] (.reg [qo 28 (.build [(.int .u8 0), (.int .i64 0), (.int .u64 0), (.string ⟨#[]⟩), (.slice none 0 0)] []),
  qf 29 2 5,qs 5 29 28] [5,6]))) (qS [qo 31 (.bin .eql (.tmp 15) (.const (.int .u8 2))),qm 30 31] [0,3,5,6,15,30] (qC 30 (qS [qf 32 9 3,ql 33 32,qL 34 33,qc 35 .eql 34 0,qm 36 35,qt 36 (qf 37 1 3),qt 36 (ql 38 37),qt 36 (qx 39 88 [38]),qa 40 36 39,
  qx 41 47 [40]] [5,6] (.reg [qf 42 1 5,⟨none,none,.store 1 (.tmp 42) (.const (.string ⟨#[]⟩))⟩] [5,6])) (qS [qo 44 (.bin .eql (.tmp 15) (.const (.int .u8 3))),qm 43 44] [0,3,5,6,15,43] (qC 43 (qS [qm 45 0,qf 46 1 3,ql 47 46,qo 48 (.bslice 9 1 [(.string ⟨#[]⟩)] [(0, 1, (.tmp 47))]),
  qo 49 (.call 49 [(.tmp 45), (.const (.int .i64 1)), (.tmp 48)])] [0,3,5] (qS [qf 50 1 5,⟨none,none,.store 1 (.tmp 50) (.const (.string ⟨#[]⟩))⟩] [0,3,5] (qS [qf 51 9 3,ql 52 51,qL 53 52,qc 54 .eql 53 1,qx 55 47 [54]] [0,3,5] (.reg [qm 56 0,qf 57 9 3,ql 58 57,qo 59 (.idxL 11 (.tmp 58) (.const (.int .i64 0))),qN 60 11 59,
  qo 61 (.call 73 [(.tmp 56), (.tmp 60), (.const (.int .i64 1))]),qm 6 61] [5,6])))) (qS [qo 63 (.bin .eql (.tmp 15) (.const (.int .u8 4))),qm 62 63] [0,3,5,6,15,62] (qC 62 (qS [qf 64 9 3,ql 65 64,qL 66 65,qc 67 .gtr 66 0,qm 68 67,qt 68 (qf 69 1 3),qt 68 (ql 70 69),qt 68 (qx 71 48 [70]),
  qt 68 (qc 72 .geq 71 0),qa 73 68 72,qx 74 47 [73]] [0,3,5] (qS [qf 75 1 5,⟨none,none,.store 1 (.tmp 75) (.const (.string ⟨#[]⟩))⟩] [0,3,5] (qD [qm 76 0,qf 77 9 3,ql 78 77,qo 79 (.idxL 11 (.tmp 78) (.const (.int .i64 0))),qN 80 11 79,qf 81 1 3,ql 82 81,
  qx 83 132 [76,80,82],qm 84 0,qf 85 1 3,ql 86 85,qf 87 9 3,ql 88 87,qo 89 (.slcL 11 (.tmp 88) (some (.const (.int .i64 1))) none none),
  qx 90 133 [84,86,89],qo 91 (.max2 (.tmp 83) (.tmp 90)),qm 6 91] [[0,1,2,3,4,5,6,7,8,9,10,11,12,13,14,15,16], [0,1,2,3,4,5,6,8,9,10,7,11,12,13,14,15,16], [0,1,2,3,4,5,6,8,9,10,11,12,7,13,14,15,16], [0,1,2,3,4,5,6,7,8,9,11,12,10,13,14,15,16], [0,1,2,3,4,5,6,8,9,11,12,7,10,13,14,15,16], [0,1,2,3,4,5,6,8,9,11,12,10,7,13,14,15,16]] [5,6]))) (qS [qo 93 (.bin .eql (.tmp 15) (.const (.int .u8 6))),qm 92 93] [0,3,5,6,15,92] (qC 92 (qS [qf 94 1 5,⟨none,none,.store 1 (.tmp 94) (.const (.string ⟨#[]⟩))⟩] [0,3,5] (.reg [qm 95 0,qf 96 1 3,ql 97 96,qf 98 9 3,ql 99 98,qx 100 133 [95,97,99],qm 6 100] [5,6])) (qS [qo 102 (.bin .eql (.tmp 15) (.const (.int .u8 5))),qm 101 102] [0,3,5,6,15,101] (qC 101 (qS [qf 103 9 3,ql 104 103,qL 105 104,qc 106 .gtr 105 2,qx 107 47 [106]] [0,3,5,6] (qS [qm 108 0,qm 109 0,qn 110 109,qf 111 0 110,ql 112 111,qm 113 112,qu 113 (qf 114 9 3),qu 113 (ql 115 114),qu 113 (qL 116 115),
  qu 113 (qc 117 .gtr 116 256),qr 118 113 117,qn 119 108,qf 120 0 119,qs 1 120 118] [0,3,5,6] (.seq (qS [qf 121 9 3,ql 122 121,qo 123 (.slcL 11 (.tmp 122) (some (.const (.int .i64 1))) none none),qL 124 123,qk 125 0] [0,3,5,6,123,124,125] (.block 1 (.loop (qS [qb 126 .lss 125 124] [0,3,5,6,123,124,125,126] (.seq (qC 126 .skip (.exit 1)) (.seq (.block 2 (qS [qi 127 11 123 125,qN 128 11 127,
  qo 8 (.alloc 48 [(.int .u8 0), (.string ⟨#[]⟩), (.int .u8 0), (.int .i64 0), (.int .u64 0), (.string ⟨#[]⟩), (.slice none 0 0), (.slice none 0 0), (.slice none 0 0), (.slice none 0 0), (.int .i64 0)]),
  qs 11 8 128] [0,3,5,6,8,123,124,125] (qS [qf 129 0 8,ql 130 129,qo 131 (.bin .eql (.tmp 130) (.const (.int .u8 6))),qx 132 47 [131]] [0,3,5,6,8,123,124,125] (.reg [qm 133 6,qm 134 0,qN 135 11 8,qx 136 96 [134,135],qo 137 (.max2 (.tmp 133) (.tmp 136)),qm 6 137] [0,3,5,6,123,124,125])))) (.reg [qc 138 .add 125 1,qm 125 138] [0,3,5,6,123,124,125]))))))) (qD [qm 139 6,qm 140 0,qf 141 9 3,ql 142 141,qo 143 (.idxL 11 (.tmp 142) (.const (.int .i64 0))),qN 144 11 143,qf 145 9 3,
  ql 146 145,qo 147 (.idxL 11 (.tmp 146) (.const (.int .i64 1))),qf 148 1 147,ql 149 148,qx 150 132 [140,144,149],
  qo 151 (.max2 (.tmp 139) (.tmp 150)),qm 6 151] [[0,1,2,3,4,5,6,7,8,9,10,11,12,13]] [5,6])))) (qS [qo 153 (.bin .eql (.tmp 15) (.const (.int .u8 7))),qm 152 153] [0,3,5,6,15,152] (qC 152 (qS [qm 154 0,qf 155 7 3,ql 156 155,qo 157 (.call 49 [(.tmp 154), (.const (.int .i64 15)), (.tmp 156)])] [0,3,5] (qS [qm 158 0,qf 159 8 3,ql 160 159,qo 161 (.call 49 [(.tmp 158), (.const (.int .i64 63)), (.tmp 160)])] [0,3,5] (qS [qf 162 7 5,⟨none,none,.store 1 (.tmp 162) (.const (.slice none 0 0))⟩,qf 163 8 5,
  ⟨none,none,.store 1 (.tmp 163) (.const (.slice none 0 0))⟩] [0,3,5] (.reg [qm 164 0,qf 165 9 3,ql 166 165,qx 167 50 [164,166],qc 168 .add 167 1,qm 6 168] [5,6])))) (qS [qo 170 (.bin .eql (.tmp 15) (.const (.int .u8 8))),qm 169 170] [0,3,5,6,15,169] (qC 169 (qS [qm 171 0,qm 172 0,qn 173 172,qf 174 0 173,ql 175 174,qm 176 175,qu 176 (qf 177 9 3),qu 176 (ql 178 177),qu 176 (qL 179 178),
  qu 176 (qc 180 .gtr 179 255),qr 181 176 180,qn 182 171,qf 183 0 182,qs 1 183 181] [0,3,5,6] (.seq (qS [qf 184 9 3,ql 185 184,qL 186 185,qk 187 0] [0,5,6,185,186,187] (.block 3 (.loop (qS [qb 188 .lss 187 186] [0,5,6,185,186,187,188] (.seq (qC 188 .skip (.exit 3)) (.seq (.block 4 (qS [qi 189 11 185 187,qN 190 11 189,
  qo 10 (.alloc 48 [(.int .u8 0), (.string ⟨#[]⟩), (.int .u8 0), (.int .i64 0), (.int .u64 0), (.string ⟨#[]⟩), (.slice none 0 0), (.slice none 0 0), (.slice none 0 0), (.slice none 0 0), (.int .i64 0)]),
  qs 11 10 190] [0,5,6,10,185,186,187] (.reg [qm 191 6,qm 192 0,qN 193 11 10,qo 194 (.call 73 [(.tmp 192), (.tmp 193), (.const (.int .i64 1))]),
  qo 195 (.max2 (.tmp 191) (.tmp 194)),qm 6 195] [0,5,6,185,186,187]))) (.reg [qc 196 .add 187 1,qm 187 196] [0,5,6,185,186,187]))))))) (.reg [qm 197 6,qc 198 .add 197 1,qm 6 198] [5,6]))) (qS [qo 200 (.bin .eql (.tmp 15) (.const (.int .u8 9))),qm 199 200] [0,3,5,6,199] (qC 199 (qS [qf 201 9 3,ql 202 201,qL 203 202,qc 204 .eql 203 1,qx 205 47 [204]] [0,3,5] (.reg [qm 206 0,qf 207 9 3,ql 208 207,qo 209 (.idxL 11 (.tmp 208) (.const (.int .i64 0))),qN 210 11 209,
  qo 211 (.call 73 [(.tmp 206), (.tmp 210), (.const (.int .i64 1))]),qm 6 211] [5,6])) (.reg [qo 16 (.call 47 [(.const (.bool false))])] [5,6]))))))))))))))))))))) (qS [qf 212 2 5,qN 213 5 212,
  qo 11 (.alloc 46 [(.int .u8 0), (.int .i64 0), (.int .u64 0), (.string ⟨#[]⟩), (.slice none 0 0)]),
  qs 5 11 213] [5,6,11] (qS [qf 214 1 5,ql 215 214,qo 216 (.bin .eql (.tmp 215) (.const (.string ⟨#[]⟩))),qm 217 216,qt 217 (qf 218 7 5),
  qt 217 (ql 219 218),qt 217 (qL 220 219),qt 217 (qc 221 .eql 220 0),qa 222 217 221,qm 223 222,qt 223 (qf 224 8 5),qt 223 (ql 225 224),
  qt 223 (qL 226 225),qt 223 (qc 227 .eql 226 0),qa 228 223 227,qm 229 228,qt 229 (qf 230 0 11),qt 229 (ql 231 230),
  qt 229 (qo 232 (.bin .eql (.tmp 231) (.const (.int .u8 0)))),qa 233 229 232,qm 234 233,qt 234 (qf 235 1 11),qt 234 (ql 236 235),
  qt 234 (qc 237 .eql 236 0),qa 238 234 237,qm 239 238,qt 239 (qf 240 2 11),qt 239 (ql 241 240),
  qt 239 (qo 242 (.bin .eql (.tmp 241) (.const (.int .u64 0)))),qa 243 239 242,qm 244 243,qt 244 (qf 245 3 11),qt 244 (ql 246 245),
  qt 244 (qo 247 (.bin .eql (.tmp 246) (.const (.string ⟨#[]⟩)))),qa 248 244 247,qm 249 248,qt 249 (qf 250 4 11),qt 249 (ql 251 250),
  qt 249 (qL 252 251),qt 249 (qc 253 .eql 252 0),qa 254 249 253,qx 255 47 [254]] [6] (qS [qm 256 6,qm 4 256] [4] .ret))))))))⟩)
theorem n96 : F96.n = 257 := rfl
theorem low96 : kV Tryz.prog (kM [(0, [0,3]), (1, [0,3,5]), (2, [0,3,5]), (3, [0,3,5,6]), (4, [0,3,5,6,15]), (5, [5,6]), (6, [0,3,5,6,15,17]), (7, [0,3,5]), (8, [5,6]), (9, [5,6]), (10, [0,3,5,6,15,30]), (11, [5,6]), (12, [5,6]), (13, [0,3,5,6,15,43]), (14, [0,3,5]), (15, [0,3,5]), (16, [0,3,5]), (17, [5,6]), (18, [0,3,5,6,15,62]), (19, [0,3,5]), (20, [0,3,5]), (21, [5,6]), (22, [0,3,5,6,15,92]), (23, [0,3,5]), (24, [5,6]), (25, [0,3,5,6,15,101]), (26, [0,3,5,6]), (27, [0,3,5,6]), (28, [0,3,5,6,123,124,125]), (29, [0,3,5,6,123,124,125,126]), (30, [0,3,5,6,8,123,124,125]), (31, [0,3,5,6,8,123,124,125]), (32, [0,3,5,6,123,124,125]), (33, [0,3,5,6,123,124,125]), (34, [5,6]), (35, [0,3,5,6,15,152]), (36, [0,3,5]), (37, [0,3,5]), (38, [0,3,5]), (39, [5,6]), (40, [0,3,5,6,15,169]), (41, [0,3,5,6]), (42, [0,5,6,185,186,187]), (43, [0,5,6,185,186,187,188]), (44, [0,5,6,10,185,186,187]), (45, [0,5,6,185,186,187]), (46, [0,5,6,185,186,187]), (47, [5,6]), (48, [0,3,5,6,199]), (49, [0,3,5]), (50, [5,6]), (51, [5,6,11]), (52, [6]), (53, [4])]) (kM [(21,[[0,1,2,3,4,5,6,7,8,9,10,11,12,13,14,15,16], [0,1,2,3,4,5,6,8,9,10,7,11,12,13,14,15,16], [0,1,2,3,4,5,6,8,9,10,11,12,7,13,14,15,16], [0,1,2,3,4,5,6,7,8,9,11,12,10,13,14,15,16], [0,1,2,3,4,5,6,8,9,11,12,7,10,13,14,15,16], [0,1,2,3,4,5,6,8,9,11,12,10,7,13,14,15,16]]), (34,[[0,1,2,3,4,5,6,7,8,9,10,11,12,13]])]) 96 = some F96 := by kernel_rfl
def F45 : DIR := laidA (X := ⟨20, [.cell1 2], [(.reg [qo 2 (.alloc 29 [(.int .i64 0)])] [0,2]), (.reg [qo 4 (.build [(.bool false), (.bool false)] []),qB 5 75 4,qm 3 5] [0,2,3])], ⟨6, 87, [(.tmp 2)]⟩, (qS [qm 7 0,qm 8 3,qo 9 (.callv (.tmp 7) [(.tmp 8)])] [2,3] (.seq (.block 0 (qS [qm 11 3,qn 12 11,qf 13 0 12,ql 14 13,qm 10 14] [2,3,10] (qC 10 (qS [⟨none,none,.store 1 (.tmp 2) (.const (.int .i64 151))⟩] [2] .ret) (qS [qm 16 3,qn 17 16,qf 18 1 17,ql 19 18,qm 15 19] [2,15] (qC 15 (qS [⟨none,none,.store 1 (.tmp 2) (.const (.int .i64 152))⟩] [2] .ret) .skip))))) (qS [⟨none,none,.store 1 (.tmp 2) (.const (.int .i64 0))⟩] [2] .ret)))⟩)
theorem n45 : F45.n = 20 := rfl
theorem low45 : lowFD Tryz.prog (kM [(0, [0,2]), (1, [0,2,3]), (2, [0,2,3]), (3, [2,3]), (4, [2,3,10]), (5, [2]), (6, [2,15]), (7, [2]), (8, [2])]) (kM []) 45 = some F45 := by kernel_rfl
def F24 : FIR := laid (X := ⟨5, [.tmp 2], (qS [qB 1 48 0,qk 2 0] [1] (qS [qo 3 (.clos (.func 72) [] [(.tmp 1)]),qx 4 45 [3],qm 2 4] [2] .ret))⟩)
theorem n24 : F24.n = 5 := rfl
theorem low24 : kV Tryz.prog (kpO F24) (kM []) 24 = some F24 := by kernel_rfl
def F72 : FIR := laid (X := ⟨10, [], (.reg [qm 3 0,qm 4 0,qN 5 11 1,qo 6 (.call 73 [(.tmp 4), (.tmp 5), (.const (.int .i64 0))]),qc 7 .gtr 6 40,qn 8 3,qf 9 1 8,
  qs 1 9 7] [])⟩)
theorem n72 : F72.n = 10 := rfl
theorem low72 : kV Tryz.prog (kpO F72) (kM []) 72 = some F72 := by kernel_rfl
def F74 : FIR := laid (X := ⟨10, [.cell1 2, .tmp 3], (qS [qB 1 48 0,qo 2 (.alloc 3 [(.int .i64 0)]),qz 3 false] [1,2] (qS [qo 5 (.clos (.func 114) [] [(.tmp 1), (.tmp 2)]),qx 6 45 [5],qm 4 6] [2,4] (qS [ql 7 2,qm 8 4,qc 9 .eql 8 0,qs 1 2 7,qm 3 9] [2,3] .ret)))⟩)
theorem n74 : F74.n = 10 := rfl
theorem low74 : kV Tryz.prog (kpO F74) (kM []) 74 = some F74 := by kernel_rfl
def F114 : FIR := laid (X := ⟨7, [], (.reg [qm 4 0,qN 5 11 1,qx 6 96 [4,5],qs 1 2 6] [])⟩)
theorem n114 : F114.n = 7 := rfl
theorem low114 : kV Tryz.prog (kpO F114) (kM []) 114 = some F114 := by kernel_rfl
def F25 : FIR := laid (X := ⟨14, [.tmp 2], (qS [qB 1 48 0,qk 2 0] [1] (.seq (qS [qN 6 11 1,qx 7 74 [6],qm 5 7,qe 8 5 0,qe 9 5 1,qm 3 8,qm 4 9] [1,4] (qS [qm 10 4,qo 11 (.un .not (.tmp 10))] [1,11] (qC 11 (qS [qk 2 0] [2] .ret) .skip))) (qS [qN 12 11 1,qx 13 75 [12],qm 2 13] [2] .ret)))⟩)
theorem n25 : F25.n = 14 := rfl
theorem low25 : kV Tryz.prog (kpO F25) (kM []) 25 = some F25 := by kernel_rfl
def F26 : FIR := laid (X := ⟨13, [.tmp 2], (qS [qB 1 48 0,qk 2 0] [1] (qS [qN 6 11 1,qx 7 74 [6],qm 5 7,qe 8 5 0,qe 9 5 1,qm 3 8,qm 4 9] [3,4] (.seq (qS [qm 10 4,qo 11 (.un .not (.tmp 10))] [3,11] (qC 11 (qS [qk 2 0] [2] .ret) .skip)) (qS [qm 12 3,qm 2 12] [2] .ret))))⟩)
theorem n26 : F26.n = 13 := rfl
theorem low26 : kV Tryz.prog (kpO F26) (kM []) 26 = some F26 := by kernel_rfl
def F13 : FIR := laid (X := ⟨5, [.tmp 2], (qS [qB 1 25 0,qk 2 0] [1] (qS [qo 3 (.clos (.func 46) [] [(.tmp 1)]),qx 4 45 [3],qm 2 4] [2] .ret))⟩)
theorem n13 : F13.n = 5 := rfl
theorem low13 : kV Tryz.prog (kpO F13) (kM []) 13 = some F13 := by kernel_rfl
def F46 : FIR := laid (X := ⟨37, [], (.seq (qD [qf 3 0 1,ql 4 3,qx 5 48 [4],qf 6 1 1,ql 7 6,qL 8 7,qb 9 .eql 5 8,qm 10 9,qt 10 (qf 11 3 1),qt 10 (ql 12 11),
  qt 10 (qo 13 (.bin .leq (.const (.int .i64 0)) (.tmp 12))),qa 14 10 13,qm 15 14,qt 15 (qf 16 3 1),qt 15 (ql 17 16),
  qt 15 (qc 18 .leq 17 255),qa 19 15 18,qx 20 47 [19]] [[0,1,2,3,4,5,6,7,8,9,10,11,12,13,14,15,16,17], [0,1,3,4,2,5,6,7,8,9,10,11,12,13,14,15,16,17]] [0,1]) (qS [qm 21 0,qf 22 1 1,ql 23 22,qo 24 (.call 49 [(.tmp 21), (.const (.int .i64 15)), (.tmp 23)])] [0,1] (qS [qm 25 0,qf 26 2 1,ql 27 26,qo 28 (.call 49 [(.tmp 25), (.const (.int .i64 63)), (.tmp 27)])] [0,1] (.reg [qm 29 0,qm 30 0,qf 31 4 1,ql 32 31,qx 33 50 [30,32],qc 34 .gtr 33 40,qn 35 29,qf 36 1 35,qs 1 36 34] []))))⟩)
theorem n46 : F46.n = 37 := rfl
theorem low46 : kV Tryz.prog (kpO F46) (kM [(0,[[0,1,2,3,4,5,6,7,8,9,10,11,12,13,14,15,16,17], [0,1,3,4,2,5,6,7,8,9,10,11,12,13,14,15,16,17]])]) 46 = some F46 := by kernel_rfl
end Go.Proofs.YtmnmandpdadedaaGreatDoor
namespace Go.Proofs.YtmnmandpdadedaaGreatDoor
open Go Go.V
set_option maxHeartbeats 3200000
set_option maxRecDepth 100000
def wJ (k : Nat) (s : ByteArray) : Bool := decide (k = 2) && decide (kB s = [115, 117, 112, 101, 114])
def zl (k : Nat) (s : ByteArray) : Nat := if k = 3 then 1 else if k = 5 then 2 else if k = 4 then zf s else 6
theorem super_spec (k : Nat) (s : ByteArray) (c2 c3 c4 c5 c6 c7 c8 c9 c10 : Value) : Fun Tryz.prog 112 [.agg #[cv k, .string s, c2, c3, c4, c5, c6, c7, c8, c9, c10]] [] (fun v Post => v = .bool (wJ k s) /\ Post = []) := by
  refine Fun.intro low112 (by simp [n112]) ?_;refine GOH ?_;refine kS Zr (fun q => ?_);simp only [Value.cells];refine GOH ?_;by_cases h1 : k = 2
  · rw [show decide ((k : Int) = 2) = true from Zt Zo];refine GOH ?_;refine kC (Post := []) (.inr rfl) (.tmp Zr .nil) ⟨?_, rfl⟩ ZI;have : (s = ⟨#[115, 117, 112, 101, 114]⟩) ↔ kB s = [115, 117, 112, 101, 114] := ⟨fun e => by rw [e];rfl, fun e => kq (by rw [e];rfl)⟩;simp [tup, wJ, h1, this]
  · rw [show decide ((k : Int) = 2) = false from Zf Zo];refine GOH ?_;refine kC (Post := []) (.inr rfl) (.tmp Zr .nil) ⟨by simp [tup, wJ, h1], rfl⟩ ZI
theorem bind_spec (s : ByteArray) (hs : s.size <= 140737488355328) : Fun Tryz.prog 115 [.string s] [] (fun v Post => v = vi (zf s) /\ Post = []) := by
  refine Fun.intro low115 (by simp [n115]) ?_;have hlen := kT s;refine GOH ?_;refine kH (jv s hs) Zr ?_;have hb : zf s = if kR s = 0 then 5 else if kR s = 1 /\ (kB s).getLast? ≠ some 58 then 4 else 3 := rfl;have hne : kR s = 1 -> 0 < s.size := fun h => by
    rcases Nat.eq_zero_or_pos s.size with h2 | h2
    · have : kB s = [] := List.length_eq_zero_iff.1 Zo;unfold kR at h;rw [this] at h;exact absurd h Zd
    · exact h2
  obtain ⟨z, hz⟩ : ∃ z, kR s = z := ⟨_, rfl⟩;rw [hz] at hb hne |-;refine GOH ?_;by_cases h0 : z = 0
  · rw [Zt h0];rw [if_pos h0] at hb;refine GOH ?_;refine kC (Post := []) (.inr rfl) (.tmp Zr .nil) ⟨by rw [hb];rfl, rfl⟩ ZI
  rw [Zf h0];rw [if_neg h0] at hb;refine GOH ?_;by_cases h1 : z = 1;rotate_left
  · rw [Zf h1];rw [if_neg (fun h => h1 h.1)] at hb;refine GOH ?_;refine kC (Post := []) (.inr rfl) (.tmp Zr .nil) ⟨by rw [hb];rfl, rfl⟩ ZI
  rw [Zt h1];have hpos := hne h1;obtain ⟨c, hc, hc2⟩ := jQ (s := s) (i := s.size - 1) Zo;have hlast : (kB s).getLast? = some c.toNat := by rw [List.getLast?_eq_getElem?, hlen];exact hc2
  refine GOH ?_;refine jY Zr Zr (j := s.size - 1) Zo hc ?_;refine GOH ?_;by_cases h58 : c.toNat = 58
  · rw [show decide ((c.toNat : Int) = 58) = true from Zt Zo];rw [if_neg (fun h => h.2 (by rw [hlast, h58]))] at hb;refine GOH ?_;refine kC (Post := []) (.inr rfl) (.tmp Zr .nil) ⟨by rw [hb];rfl, rfl⟩ ZI
  · rw [show decide ((c.toNat : Int) = 58) = false from Zf Zo];rw [if_pos ⟨h1, by rw [hlast];simpa using h58⟩] at hb;refine GOH ?_;refine kC (Post := []) (.inr rfl) (.tmp Zr .nil) ⟨by rw [hb];rfl, rfl⟩ ZI
theorem level_spec (k : Nat) (s : ByteArray) (hs : s.size <= 140737488355328) (c2 c3 c4 c5 c6 c7 c8 c9 c10 : Value) : Fun Tryz.prog 75 [.agg #[cv k, .string s, c2, c3, c4, c5, c6, c7, c8, c9, c10]] [] (fun v Post => v = vi (zl k s) /\ Post = []) := by
  refine Fun.intro low75 (by simp [n75]) ?_;refine GOH ?_;refine kS Zr (fun q => ?_);simp only [Value.cells];refine GOH ?_;by_cases h3 : k = 3
  · rw [show decide ((k : Int) = 3) = true from Zt Zo];refine GOH ?_;refine kC (Post := []) (.inr rfl) (.tmp Zr .nil) ⟨by simp [tup, zl, h3], rfl⟩ ZI
  rw [show decide ((k : Int) = 3) = false from Zf Zo];refine GOH ?_;by_cases h5 : k = 5
  · rw [show decide ((k : Int) = 5) = true from Zt Zo];refine GOH ?_;refine kC (Post := []) (.inr rfl) (.tmp Zr .nil) ⟨by simp [tup, zl, h5], rfl⟩ ZI
  rw [show decide ((k : Int) = 5) = false from Zf Zo];refine GOH ?_;by_cases h4 : k = 4
  · rw [show decide ((k : Int) = 4) = true from Zt Zo];refine GOH ?_;refine kH (bind_spec s hs) Zr ?_;refine GOH ?_;refine kC (Post := []) (.inr rfl) (.tmp Zr .nil) ⟨by simp [tup, zl, h4], rfl⟩ ZI
  rw [show decide ((k : Int) = 4) = false from Zf Zo];refine GOH ?_;refine kC (Post := []) (.inr rfl) (.tmp Zr .nil) ⟨by simp [tup, zl, h3, h4, h5], rfl⟩ ZI
theorem receiver_spec (s : ByteArray) (hs : s.size <= 140737488355328) : Fun Tryz.prog 149 [.string s] [] (fun v Post => v = vi (recvS s) /\ Post = []) := by
  refine Fun.intro low149 (by simp [n149]) ?_;refine GOH ?_;refine kH (bind_spec s hs) Zr ?_;refine GOH ?_;refine kC (Post := []) (.inr rfl) (.tmp Zr .nil) ⟨?_, rfl⟩ ZI;simp only [tup, recvS, Value.int.injEq, true_and];split <;> omega
theorem jn (s : ByteArray) (hs : s.size <= 140737488355328) : Fun Tryz.prog 150 [.string s] [] (fun v Post => v = vi (argS s) /\ Post = []) := by
  refine Fun.intro low150 (by simp [n150]) ?_;refine GOH ?_;refine kH (bind_spec s hs) Zr ?_;refine GOH ?_;by_cases h : zf s = 4
  · rw [show decide (((zf s : Nat) : Int) = 4) = true from Zt Zo];refine GOH ?_;refine kC (Post := []) (.inr rfl) (.tmp Zr .nil) ⟨by simp [tup, argS, h], rfl⟩ ZI
  · rw [show decide (((zf s : Nat) : Int) = 4) = false from Zf Zo];refine GOH ?_;refine kC (Post := []) (.inr rfl) (.tmp Zr .nil) ⟨by simp [tup, argS, h], rfl⟩ ZI
end Go.Proofs.YtmnmandpdadedaaGreatDoor
namespace Go.Proofs.YtmnmandpdadedaaGreatDoor
open Go Go.V
set_option maxRecDepth 100000
def F148 : FIR := laid (X := ⟨31, [.cellN 2 5, .tmp 3], (qS [qo 2 (.alloc 46 [(.int .u8 0), (.int .i64 0), (.int .u64 0), (.string ⟨#[]⟩), (.slice none 0 0)]),
  qk 3 0] [0,2] (qS [qm 7 0,qo 8 (.call 156 [(.tmp 7), (.const (.string ⟨#[45]⟩))]),qm 6 8,qe 9 6 0,qe 10 6 1,qm 0 9,qm 4 10] [0,2,4] (qS [qm 11 0,qx 12 157 [11],qm 5 12] [0,2,4,5] (.seq (qS [qm 13 0,qo 14 (.bin .eql (.tmp 13) (.const (.string ⟨#[]⟩))),qm 15 14,qu 15 (qm 16 5),qu 15 (qo 17 (.lenS (.tmp 16))),
  qu 15 (qc 18 .gtr 17 255),qr 19 15 18,qm 20 19,qu 20 (qm 21 0),qu 20 (qo 22 (.call 122 [(.tmp 21), (.const (.int .i64 0)), (.func 126)])),
  qu 20 (qm 23 0),qu 20 (qo 24 (.lenS (.tmp 23))),qu 20 (qb 25 .neq 22 24),qr 26 20 25] [2,4,5,26] (qC 26 (qS [qo 27 (.build [(.int .u8 0), (.int .i64 0), (.int .u64 0), (.string ⟨#[]⟩), (.slice none 0 0)] []),
  qs 5 2 27,qk 3 144] [2,3] .ret) .skip)) (qS [qm 28 5,qm 29 4,qx 30 158 [28,29],qs 5 2 30,qk 3 0] [2,3] .ret)))))⟩)
theorem n148 : F148.n = 31 := rfl
theorem low148 : kV Tryz.prog (kpO F148) (kM []) 148 = some F148 := by kernel_rfl
def F156 : FIR := laid (X := ⟨11, [.tmp 4, .tmp 5], (qS [qo 4 (.mv (.const (.string ⟨#[]⟩))),qz 5 false] [0,1] (qS [qm 6 0,qm 7 1,qx 8 164 [6,7],qe 9 8 0,qe 10 8 1,qm 4 9,qm 5 10] [4,5] .ret))⟩)
theorem n156 : F156.n = 11 := rfl
theorem low156 : kV Tryz.prog (kpO F156) (kM []) 156 = some F156 := by kernel_rfl
def F164 : FIR := laid (X := ⟨15, [.tmp 4, .tmp 5], (qS [qo 4 (.mv (.const (.string ⟨#[]⟩))),qz 5 false] [0,1] (.seq (qS [qm 6 0,qm 7 1,qx 8 169 [6,7],qo 9 (.un .not (.tmp 8))] [0,1,9] (qC 9 (qS [qm 10 0,qm 4 10,qz 5 false] [4,5] .ret) .skip)) (qS [qm 11 0,qm 12 1,qo 13 (.lenS (.tmp 12)),qo 14 (.slcS (.tmp 11) (some (.tmp 13)) none),qm 4 14,qz 5 true] [4,5] .ret)))⟩)
theorem n164 : F164.n = 15 := rfl
theorem low164 : kV Tryz.prog (kpO F164) (kM []) 164 = some F164 := by kernel_rfl
def F169 : FIR := laid (X := ⟨18, [.tmp 4], (qS [qz 4 false] [0,1] (qS [qm 5 0,qo 6 (.lenS (.tmp 5)),qm 7 1,qo 8 (.lenS (.tmp 7)),qb 9 .geq 6 8,qm 10 9,qt 10 (qm 11 0),qt 10 (qm 12 1),
  qt 10 (qo 13 (.lenS (.tmp 12))),qt 10 (qo 14 (.slcS (.tmp 11) none (some (.tmp 13)))),qt 10 (qm 15 1),qt 10 (qb 16 .eql 14 15),qa 17 10 16,qm 4 17] [4] .ret))⟩)
theorem n169 : F169.n = 18 := rfl
theorem low169 : kV Tryz.prog (kpO F169) (kM []) 169 = some F169 := by kernel_rfl
def F157 : FIR := laid (X := ⟨13, [.tmp 2], (qS [qo 2 (.mv (.const (.string ⟨#[]⟩)))] [0] (qS [qm 4 0,qo 5 (.call 165 [(.tmp 4), (.const (.string ⟨#[48]⟩))]),qm 3 5] [0,3] (.seq (qS [qm 6 3,qo 7 (.bin .eql (.tmp 6) (.const (.string ⟨#[]⟩))),qm 8 7,qt 8 (qm 9 0),
  qt 8 (qo 10 (.bin .neq (.tmp 9) (.const (.string ⟨#[]⟩)))),qa 11 8 10] [3,11] (qC 11 (qS [qo 2 (.mv (.const (.string ⟨#[48]⟩)))] [2] .ret) .skip)) (qS [qm 12 3,qm 2 12] [2] .ret))))⟩)
theorem n157 : F157.n = 13 := rfl
theorem low157 : kV Tryz.prog (kpO F157) (kM []) 157 = some F157 := by kernel_rfl
def F165 : FIR := laid (X := ⟨37, [.tmp 4], (qS [qo 4 (.mv (.const (.string ⟨#[]⟩)))] [0,1] (.seq (qS [qm 7 0,qo 8 (.bin .eql (.tmp 7) (.const (.string ⟨#[]⟩))),qm 9 8,qu 9 (qm 10 1),
  qu 9 (qo 11 (.bin .eql (.tmp 10) (.const (.string ⟨#[]⟩)))),qr 12 9 11] [0,1,12] (qC 12 (qS [qm 13 0,qm 4 13] [4] .ret) .skip)) (.seq (qS [qm 14 1,qo 15 (.lenS (.tmp 14)),qc 16 .eql 15 1,qm 17 16,qt 17 (qm 18 1),
  qt 17 (qo 19 (.idxS (.tmp 18) (.const (.int .i64 0)))),qt 17 (qo 20 (.bin .lss (.tmp 19) (.const (.int .u8 128)))),qa 21 17 20] [0,1,21] (qC 21 (qS [qm 22 0,qm 23 1,qo 24 (.idxS (.tmp 23) (.const (.int .i64 0))),qx 25 170 [22,24],qm 4 25] [4] .ret) .skip)) (.seq (qS [qm 27 1,qx 28 171 [27],qm 26 28,qe 29 26 0,qe 30 26 1,qo 5 (.alloc 154 (rep 256 [(.bool false)])),qs 256 5 29,qm 6 30] [0,1,5,6] (qS [qm 31 6] [0,1,5,31] (qC 31 (qS [qm 32 0,qx 33 172 [32,5],qm 4 33] [4] .ret) .skip))) (qS [qm 34 0,qm 35 1,qx 36 173 [34,35],qm 4 36] [4] .ret)))))⟩)
theorem n165 : F165.n = 37 := rfl
theorem low165 : kV Tryz.prog (kpO F165) (kM []) 165 = some F165 := by kernel_rfl
def F170 : FIR := laid (X := ⟨17, [.tmp 4], (qS [qo 4 (.mv (.const (.string ⟨#[]⟩)))] [0,1] (.seq (.block 0 (.loop (.seq (qS [qm 5 0,qo 6 (.lenS (.tmp 5)),qc 7 .gtr 6 0,qm 8 7,qt 8 (qm 9 0),qt 8 (qo 10 (.idxS (.tmp 9) (.const (.int .i64 0)))),
  qt 8 (qm 11 1),qt 8 (qb 12 .eql 10 11),qa 13 8 12] [0,1,13] (qC 13 .skip (.exit 0))) (.block 1 (.reg [qm 14 0,qo 15 (.slcS (.tmp 14) (some (.const (.int .i64 1))) none),qm 0 15] [0,1]))))) (qS [qm 16 0,qm 4 16] [4] .ret)))⟩)
theorem n170 : F170.n = 17 := rfl
theorem low170 : kV Tryz.prog (kpO F170) (kM []) 170 = some F170 := by kernel_rfl
def F158 : FIR := laid (X := ⟨35, [.cellN 4 5], (qS [qo 4 (.alloc 46 [(.int .u8 0), (.int .i64 0), (.int .u64 0), (.string ⟨#[]⟩), (.slice none 0 0)])] [0,1,4] (.seq (qS [qm 7 0,qo 8 (.lenS (.tmp 7)),qc 9 .leq 8 19] [0,1,4,9] (qC 9 (qS [qm 11 0,qo 12 (.call 166 [(.tmp 11), (.const (.int .i64 10)), (.const (.int .i64 64))]),qm 10 12,qe 13 10 0,
  qe 14 10 1,qm 5 13,qm 6 14] [0,1,4,5,6] (.seq (qS [qm 15 1] [0,1,4,5,6,15] (qC 15 (.reg [qm 16 5,qo 17 (.un .neg (.tmp 16)),qm 5 17] [0,1,4,5,6]) .skip)) (qS [qm 18 6,qo 19 (.eqnil false .iface (.tmp 18)),qm 20 19,qt 20 (qm 21 5),
  qt 20 (qo 22 (.bin .leq (.const (.int .i64 (-1152921504606846976))) (.tmp 21))),qa 23 20 22,qm 24 23,qt 24 (qm 25 5),
  qt 24 (qc 26 .leq 25 1152921504606846975),qa 27 24 26] [0,1,4,5,27] (qC 27 (qS [qm 28 5,
  qo 29 (.build [(.int .u8 0), (.int .i64 0), (.int .u64 0), (.string ⟨#[]⟩), (.slice none 0 0)] [(0, 1, (.const (.int .u8 4))), (1, 1, (.tmp 28))]),
  qs 5 4 29] [4] .ret) .skip)))) .skip)) (.seq (qS [qm 30 1] [0,4,30] (qC 30 (.reg [qm 31 0,qo 32 (.bin .add (.const (.string ⟨#[45]⟩)) (.tmp 31)),qm 0 32] [0,4]) .skip)) (qS [qm 33 0,
  qo 34 (.build [(.int .u8 0), (.int .i64 0), (.int .u64 0), (.string ⟨#[]⟩), (.slice none 0 0)] [(0, 1, (.const (.int .u8 5))), (3, 1, (.tmp 33))]),
  qs 5 4 34] [4] .ret))))⟩)
theorem n158 : F158.n = 35 := rfl
theorem low158 : kV Tryz.prog (kpO F158) (kM []) 158 = some F158 := by kernel_rfl
end Go.Proofs.YtmnmandpdadedaaGreatDoor
namespace Go.Proofs.YtmnmandpdadedaaGreatDoor
open Go Go.V Go.Shelf
set_option maxHeartbeats 3200000
set_option maxRecDepth 100000
shelf_lay LaysC.n174 Nm 174 at Tryz as Tryz.sl174
def ErA (A : List kE) : Prop := ∃ ev, kE.cell (Tryz.sl174_ren.g 16) 0 ev ∈ A /\ (ev = .nilIface ∨ ∃ te pe, ev = .iface te pe)
theorem parseM_ok : ∀ (l : List UInt8) (acc k : Nat), (∀ c ∈ l, jt c.toNat = true) -> acc < 10 ^ k -> k + l.length <= 19 -> Lib.parseUintM (2 ^ 64 - 1) acc l = .ok ((l.map UInt8.toNat).foldl (fun n c => n * 10 + (c - 48)) acc) := by
  intro l
  induction l with
  | nil => intro acc k _ _ _;rfl
  | cons c r ih =>
    intro acc k hd ha hk;have hc := hd c Zs;simp only [jt, Bool.and_eq_true, decide_eq_true_eq] at hc;simp only [List.length_cons] at hk;have hp : 10 ^ k <= 10 ^ 18 := Nat.pow_le_pow_right Zo Zo;have h18 : (10 : Nat) ^ 18 = 1000000000000000000 := by decide
    have h64 : (2 : Nat) ^ 64 - 1 = 18446744073709551615 := by decide
    have hs : (10 : Nat) ^ (k + 1) = 10 ^ k * 10 := Nat.pow_succ ..;simp only [Lib.parseUintM, if_pos hc, if_neg (show ¬ 1844674407370955162 <= acc by omega), if_neg (show ¬ (2 ^ 64 - 1 < acc * 10 + (c.toNat - 48)) by omega), List.map_cons, List.foldl_cons];exact ih _ (k + 1) (fun x hx => hd x (by simp [hx])) Zo Zo
theorem numL_lt : ∀ (l : List Nat) (acc k : Nat), (∀ c ∈ l, jt c = true) -> acc < 10 ^ k -> l.foldl (fun n c => n * 10 + (c - 48)) acc < 10 ^ (k + l.length) := by
  intro l
  induction l with
  | nil => intro acc k _ h;exact h
  | cons c r ih =>
    intro acc k hd ha;have hc := hd c Zs;simp only [jt, Bool.and_eq_true, decide_eq_true_eq] at hc;have hs : (10 : Nat) ^ (k + 1) = 10 ^ k * 10 := Nat.pow_succ ..;simp only [List.foldl_cons, List.length_cons];rw [show k + (r.length + 1) = (k + 1) + r.length by omega];exact ih _ (k + 1) (fun x hx => hd x (by simp [hx])) Zo
theorem numL_ge : ∀ (l : List Nat) (acc k : Nat), 10 ^ k <= acc -> 10 ^ (k + l.length) <= l.foldl (fun n c => n * 10 + (c - 48)) acc := by
  intro l
  induction l with
  | nil => intro acc k h;exact h
  | cons c r ih =>
    intro acc k ha;have hs : (10 : Nat) ^ (k + 1) = 10 ^ k * 10 := Nat.pow_succ ..;simp only [List.foldl_cons, List.length_cons];rw [show k + (r.length + 1) = (k + 1) + r.length by omega];exact ih _ (k + 1) Zo
theorem parseInt_spec (A : List kE) (hE : ErA A) (s : ByteArray) (h0 : kB s ≠ []) (hd : (kB s).all jt = true) (hl : s.size <= 19) :
    Fun Tryz.prog 166 [.string s, vi 10, vi 64] [A] (fun v Post => ((wq (kB s) <= 9223372036854775807 /\ v = .tuple #[vi (wq (kB s)), .nilIface]) ∨ (9223372036854775807 < wq (kB s) /\ ∃ z t p, v = .tuple #[vi z, .iface t p] /\ -9223372036854775808 <= z /\ z <= 9223372036854775807)) /\ Post = [A]) := by
  have hall : ∀ c ∈ s.data.toList, jt c.toNat = true := fun c hc => List.all_eq_true.1 hd _ (List.mem_map.2 ⟨c, hc, rfl⟩)
  have hlen : s.data.toList.length = s.size := by simp
  have hu := parseM_ok s.data.toList 0 0 hall Zd Zo;have hu2 : Lib.parseUintM (2 ^ 64 - 1) 0 s.data.toList = .ok (wq (kB s)) := hu;have hne : s.data.toList ≠ [] := fun e => h0 (by simp [kB, e])
  have hp : Lib.parseIntB 64 s.data.toList = if 9223372036854775808 <= wq (kB s) then .range else .ok ((wq (kB s) : Nat) : Int) := by
    unfold Lib.parseIntB;cases hs : s.data.toList with
    | nil => exact absurd hs hne
    | cons c r =>
      have hc := hall c (by rw [hs];simp);simp only [jt, Bool.and_eq_true, decide_eq_true_eq] at hc;rw [hs] at hu2;simp only [if_neg (show ¬ (c.toNat = 43 ∨ c.toNat = 45) by omega), Lib.parseUintB, if_neg (show ¬ (c :: r = []) by simp), hu2];have h45 : ¬ c.toNat = 45 := by omega
      by_cases hbig : 9223372036854775808 <= wq (kB s)
      · simp [h45, hbig]
      · simp [h45, hbig]
  obtain ⟨ev, hev, hev2⟩ := hE;by_cases hbig : 9223372036854775808 <= wq (kB s)
  · rw [if_pos hbig] at hp;refine Fun.of_calls2 (by kernel_rfl) (fun w F hs => ?_);have hcell := (hs.cell (Zw _ hev)).1;refine (Any.strconv_ParseInt_10_at64_range Tryz.sl174 s Zo hp ev w hcell hev2).mono ?_
    rintro e w' ⟨N, rfl, _, _, hb⟩
    refine ⟨_, rfl, .inr ⟨Zo, _, _, _, rfl, ?_⟩, hb⟩;unfold Lib.intSat;split <;> decide
  · rw [if_neg hbig] at hp;refine Fun.of_calls2 (by kernel_rfl) (fun w F hs => ?_);refine (Any.strconv_ParseInt_10_at64_ok Tryz.sl174 s Zo _ hp w).mono ?_
    rintro e w' ⟨rfl, hb⟩
    refine ⟨_, rfl, .inl ⟨Zo, rfl⟩, ?_⟩;rcases hb with rfl | ⟨t, rfl⟩
    · exact .refl _ _
    · exact Lib.bytesWorld_below _ _ _
end Go.Proofs.YtmnmandpdadedaaGreatDoor
namespace Go.Proofs.YtmnmandpdadedaaGreatDoor
open Go Go.V
set_option maxHeartbeats 3200000
set_option maxRecDepth 100000
theorem cutPrefix_spec (s : ByteArray) (hs : s.size <= 140737488355328) : Fun Tryz.prog 156 [.string s, .string ⟨#[45]⟩] [] (fun v Post => ∃ t, v = .tuple #[.string t, .bool (decide ((kB s).head? = some 45))] /\ kB t = (if (kB s).head? = some 45 then (kB s).tail else kB s) /\ t.size <= s.size /\ Post = []) := by
  have hlen := kT s;have hhead : ∀ (h : 1 <= s.size), s.extract 0 1 = ⟨#[45]⟩ ↔ (kB s).head? = some 45 := fun h => by
    have hb : kB (s.extract 0 1) = (kB s).take 1 := by rw [jG, List.drop_zero]
    cases hx : kB s with
    | nil => rw [hx] at hlen;simp at hlen;omega
    | cons a r =>
      rw [hx] at hb;constructor
      · intro e;rw [e] at hb;have : [45] = [a] := hb;simp at this;simp [<- this]
      · intro e;simp at e;apply kq;rw [hb, e];rfl
  have hpre : Fun Tryz.prog 169 [.string s, .string ⟨#[45]⟩] [] (fun v Post => v = .bool (decide ((kB s).head? = some 45)) /\ Post = []) := by
    refine Fun.intro low169 (by simp [n169]) ?_;refine GOH ?_;rw [show (((⟨#[45]⟩ : ByteArray).size : Nat) : Int) = 1 from rfl];by_cases h : 1 <= s.size
    · rw [Zt (show (s.size : Int) ≥ 1 by omega)];refine GOH ?_;rw [show (((⟨#[45]⟩ : ByteArray).size : Nat) : Int) = 1 from rfl];refine st_slcS (l := 0) (h := 1) Zr .dft (.num Zr) Zo ?_;refine GOH ?_;refine ⟨.inr rfl, _, _, .tmp Zr .nil, ZI, ?_, rfl⟩;simp only [tup, hhead h]
    · rw [Zf (show ¬ (s.size : Int) ≥ 1 by omega)];refine GOH ?_;refine ⟨.inr rfl, _, _, .tmp Zr .nil, ZI, ?_, rfl⟩;have : kB s = [] := List.length_eq_zero_iff.1 Zo;simp [tup, this]
  have hcut : Fun Tryz.prog 164 [.string s, .string ⟨#[45]⟩] [] (fun v Post => ∃ t, v = .tuple #[.string t, .bool (decide ((kB s).head? = some 45))] /\ kB t = (if (kB s).head? = some 45 then (kB s).tail else kB s) /\ t.size <= s.size /\ Post = []) := by
    refine Fun.intro low164 (by simp [n164]) ?_;refine GOH ?_;refine kH hpre Zr ?_;by_cases h : (kB s).head? = some 45
    · have hpos : 1 <= s.size := by
        cases hb : kB s with
        | nil => rw [hb] at h;cases h
        | cons a r => rw [<- hlen, hb];simp
      rw [Zt h];refine GOH ?_;rw [show (((⟨#[45]⟩ : ByteArray).size : Nat) : Int) = 1 from rfl];refine st_slcS (l := 1) (h := s.size) Zr (.num Zr) .dft Zo ?_;refine GOH ?_;have hb : kB (s.extract 1 s.size) = (kB s).tail := by rw [jG, List.take_of_length_le Zo, List.drop_one]
      refine kC (Post := []) (.inr rfl) (.tmp Zr (.tmp Zr .nil)) ⟨_, rfl, by rw [if_pos h, hb], ?_, rfl⟩ ZI;rw [<- kT, hb, <- hlen];simp
    · rw [Zf h];refine GOH ?_;refine kC (Post := []) (.inr rfl) (.tmp Zr (.tmp Zr .nil)) ⟨_, rfl, by rw [if_neg h], Nat.le_refl _, rfl⟩ ZI
  refine Fun.intro low156 (by simp [n156]) ?_;refine GOH ?_;refine kD hcut Zr ZP (fun v Post hv => ?_);obtain ⟨t, rfl, h1, h2, rfl⟩ := hv;simp only [List.nil_append];refine GOH ?_;refine kC (Post := []) (.inr rfl) (.tmp Zr (.tmp Zr .nil)) ⟨t, rfl, h1, h2, rfl⟩ ZI
theorem trimByte_spec (s : ByteArray) (hs : s.size <= 140737488355328) : Fun Tryz.prog 170 [.string s, .int .u8 48] [] (fun v Post => ∃ t, v = .string t /\ kB t = (kB s).dropWhile (fun c => decide (c = 48)) /\ Post = []) := by
  refine Fun.intro low170 (by simp [n170]) ?_;refine GOH ?_;refine VC.loop (α := ByteArray) (Γf := fun t => [(0, .string t), (1, .int .u8 48)]) (Hf := fun _ => []) (I := fun t => t.size <= s.size /\ (kB t).dropWhile (fun c => decide (c = 48)) = (kB s).dropWhile (fun c => decide (c = 48))) (μ := fun t => t.size) s ⟨Nat.le_refl _, rfl⟩ ZU ZI ?_
  rintro t ⟨i1, i2⟩
  have hlen := kT t;refine GOH ?_;by_cases h0 : t = ⟨#[]⟩
  · subst h0;refine GOH ?_;refine kC (Post := []) (.inr rfl) (.tmp Zr .nil) ⟨_, rfl, by rw [<- i2];rfl, rfl⟩ ZI
  obtain ⟨c, r, hc, hr, hc256, hpos⟩ := bytesN_cons h0;rw [Zt (show (t.size : Int) > 0 by omega)];refine GOH ?_;refine jY Zr Zr (j := 0) rfl hc ?_;refine GOH ?_;by_cases h48 : c.toNat = 48
  · rw [show decide ((c.toNat : Int) = 48) = true from Zt Zo];refine GOH ?_;refine st_slcS (l := 1) (h := t.size) Zr (.num Zr) .dft Zo ?_;refine GOH ?_;have hb : kB (t.extract 1 t.size) = r := by rw [jG, List.take_of_length_le Zo, List.drop_one, hr];rfl
    have hz : (t.extract 1 t.size).size + 1 = t.size := by rw [<- kT, hb, <- hlen, hr];rfl
    refine ⟨t.extract 1 t.size, ⟨Zo, ?_⟩, Zo, ZU, ZI⟩;rw [hb, <- i2, hr, List.dropWhile_cons_of_pos (by simp [h48])]
  · rw [show decide ((c.toNat : Int) = 48) = false from Zf Zo];refine GOH ?_;refine kC (Post := []) (.inr rfl) (.tmp Zr .nil) ⟨_, rfl, ?_, rfl⟩ ZI;rw [<- i2, hr, List.dropWhile_cons_of_neg (by simp [h48])]
theorem plainL_eq (l : List Nat) : jh l = if l.dropWhile (fun c => decide (c = 48)) = [] /\ l ≠ [] then [48] else l.dropWhile (fun c => decide (c = 48)) := by
  induction l with
  | nil => rfl
  | cons a l ih =>
    by_cases ha : a = 48
    · subst ha;cases l with
      | nil => rfl
      | cons b r =>
        rw [jh, ih, show List.dropWhile (fun c => decide (c = 48)) (48 :: b :: r) = List.dropWhile (fun c => decide (c = 48)) (b :: r) from List.dropWhile_cons_of_pos Zs];simp
    · rw [List.dropWhile_cons_of_neg (by simp [ha])];have : jh (a :: l) = a :: l := by
        cases l with
        | nil => simp [jh]
        | cons b r => simp [jh, ha]
      simp [this]
theorem plain_spec (s : ByteArray) (hs : s.size <= 140737488355328) : Fun Tryz.prog 157 [.string s] [] (fun v Post => ∃ t, v = .string t /\ kB t = jh (kB s) /\ Post = []) := by
  have htrim : Fun Tryz.prog 165 [.string s, .string ⟨#[48]⟩] [] (fun v Post => ∃ t, v = .string t /\ kB t = (kB s).dropWhile (fun c => decide (c = 48)) /\ Post = []) := by
    refine Fun.intro low165 (by simp [n165]) ?_;refine GOH ?_;by_cases h0 : s = ⟨#[]⟩
    · subst h0;refine GOH ?_;refine kC (Post := []) (.inr rfl) (.tmp Zr .nil) ⟨_, rfl, rfl, rfl⟩ ZI
    rw [Zf h0];refine GOH ?_;refine kD (trimByte_spec s hs) Zr ZP (fun v Post hv => ?_);obtain ⟨t, rfl, h1, rfl⟩ := hv;simp only [List.nil_append];refine GOH ?_;refine kC (Post := []) (.inr rfl) (.tmp Zr .nil) ⟨_, rfl, h1, rfl⟩ ZI
  refine Fun.intro low157 (by simp [n157]) ?_;refine GOH ?_;refine kD htrim Zr ZP (fun v Post hv => ?_);obtain ⟨t, rfl, h1, rfl⟩ := hv;simp only [List.nil_append];refine GOH ?_;have hp := plainL_eq (kB s);rw [<- h1] at hp;by_cases ht : t = ⟨#[]⟩
  · rw [Zt ht];have hb : kB t = [] := by rw [ht];rfl
    refine GOH ?_;by_cases h0 : s = ⟨#[]⟩
    · subst h0;refine GOH ?_;refine kC (Post := []) (.inr rfl) (.tmp Zr .nil) ⟨_, rfl, by rw [hb];rfl, rfl⟩ ZI
    · rw [Zf h0, Bool.not_false];have hs0 : kB s ≠ [] := fun e => h0 (kq (by rw [e];rfl))
      refine GOH ?_;refine kC (Post := []) (.inr rfl) (.tmp Zr .nil) ⟨_, rfl, by rw [hp, if_pos ⟨hb, hs0⟩];rfl, rfl⟩ ZI
  · rw [Zf ht];have hb : kB t ≠ [] := fun e => ht (kq (by rw [e];rfl))
    refine GOH ?_;refine kC (Post := []) (.inr rfl) (.tmp Zr .nil) ⟨_, rfl, by rw [hp, if_neg (fun h => hb h.1)], rfl⟩ ZI
end Go.Proofs.YtmnmandpdadedaaGreatDoor
namespace Go.Proofs.YtmnmandpdadedaaGreatDoor
open Go Go.V
set_option maxHeartbeats 3200000
set_option maxRecDepth 100000
def wV (m : Bool) (l : List Nat) : Prop := l.length <= 19 /\ wq l <= (if m = true then 1152921504606846976 else 1152921504606846975)
def WholeQ (m : Bool) (t : ByteArray) (v : Value) : Prop :=
  (wV m (kB t) /\ v = .agg #[cv 4, vi (if m = true then -(wq (kB t) : Int) else (wq (kB t) : Int)), uv 0, .string ⟨#[]⟩, .slice none 0 0]) ∨
  (¬ wV m (kB t) /\ ∃ u, v = .agg #[cv 5, vi 0, uv 0, .string u, .slice none 0 0] /\ kB u = if m = true then 45 :: kB t else kB t)
theorem whole_spec (A : List kE) (hE : ErA A) (t : ByteArray) (h0 : kB t ≠ []) (hd : (kB t).all jt = true) (hl : t.size <= 255) (m : Bool) : Fun Tryz.prog 158 [.string t, .bool m] [A] (fun v Post => WholeQ m t v /\ Post = [A]) := by
  refine Fun.intro low158 (by simp [n158]) ?_;have hlen := kT t;have hcat : zg .add (.string ⟨#[45]⟩) (.string t) = some (.string (⟨#[45]⟩ ++ t)) := if_pos (by show 1 + t.size <= 9223372036854775807;omega);refine GOH ?_;refine kP (fun b => ?_);refine GOH ?_;by_cases h19 : t.size <= 19;rotate_left
  · rw [Zf (show ¬ (t.size : Int) <= 19 by omega)];have hns : ¬ wV m (kB t) := fun hs => by have := hs.1;omega
    cases m with
    | true =>
      refine GOH ?_;refine zT Zr Zr hcat ?_;refine GOH ?_;refine ⟨.inr rfl, _, _, .cellN (us := [cv 5, vi 0, uv 0, .string (⟨#[45]⟩ ++ t), .slice none 0 0]) Zr Zr Zag .nil, ZI, .inr ⟨hns, _, rfl, by rw [bytesN_append];rfl⟩, rfl⟩
    | false =>
      refine GOH ?_;refine ⟨.inr rfl, _, _, .cellN (us := [cv 5, vi 0, uv 0, .string t, .slice none 0 0]) Zr Zr Zag .nil, ZI, .inr ⟨hns, _, rfl, rfl⟩, rfl⟩
  rw [Zt (show (t.size : Int) <= 19 by omega)];refine GOH ?_;refine kD (parseInt_spec A hE t h0 hd h19) Zr ZP (fun v Post hv => ?_);rcases hv with ⟨⟨hn, rfl⟩ | ⟨hn, z, ty, pp, rfl, hz⟩, rfl⟩
  · simp only [CNx];obtain ⟨N, hN⟩ : ∃ N, wq (kB t) = N := ⟨_, rfl⟩;rw [hN] at hn |-;have hsm2 : ∀ m, wV m (kB t) ↔ N <= (if m = true then 1152921504606846976 else 1152921504606846975) := fun m => by
      unfold wV;rw [hN];exact ⟨fun h => h.2, fun h => ⟨Zo, h⟩⟩
    cases m with
    | true =>
      refine GOH ?_;rw [show IntKind.i64.wrap (0 - (N : Int)) = -(N : Int) by rw [Int.zero_sub];exact wrap64 ⟨Zo, Zo⟩];by_cases hs : N <= 1152921504606846976
      · have hsm : wV true (kB t) := (hsm2 true).2 hs;rw [Zt (show (-1152921504606846976 : Int) <= -(N : Int) by omega)];refine GOH ?_;rw [Zt (show -(N : Int) <= 1152921504606846975 by omega)];refine GOH ?_;refine ⟨.inr rfl, _, _, .cellN (us := [cv 4, vi (-(N : Int)), uv 0, .string ⟨#[]⟩, .slice none 0 0]) Zr Zr Zag .nil, ZI, .inl ⟨hsm, by rw [hN];rfl⟩, rfl⟩
      · have hns : ¬ wV true (kB t) := fun h => hs ((hsm2 true).1 h)
        rw [Zf (show ¬ (-1152921504606846976 : Int) <= -(N : Int) by omega)];refine GOH ?_;refine zT Zr Zr hcat ?_;refine GOH ?_;refine ⟨.inr rfl, _, _, .cellN (us := [cv 5, vi 0, uv 0, .string (⟨#[45]⟩ ++ t), .slice none 0 0]) Zr Zr Zag .nil, ZI, .inr ⟨hns, _, rfl, by rw [bytesN_append];rfl⟩, rfl⟩
    | false =>
      refine GOH ?_;by_cases hs : N <= 1152921504606846975
      · have hsm : wV false (kB t) := (hsm2 false).2 hs;rw [Zt (show (N : Int) <= 1152921504606846975 by omega)];refine GOH ?_;refine ⟨.inr rfl, _, _, .cellN (us := [cv 4, vi (N : Int), uv 0, .string ⟨#[]⟩, .slice none 0 0]) Zr Zr Zag .nil, ZI, .inl ⟨hsm, by rw [hN];rfl⟩, rfl⟩
      · have hns : ¬ wV false (kB t) := fun h => hs ((hsm2 false).1 h)
        rw [Zf (show ¬ (N : Int) <= 1152921504606846975 by omega)];refine GOH ?_;refine ⟨.inr rfl, _, _, .cellN (us := [cv 5, vi 0, uv 0, .string t, .slice none 0 0]) Zr Zr Zag .nil, ZI, .inr ⟨hns, _, rfl, rfl⟩, rfl⟩
  · simp only [CNx];have hns : ¬ wV m (kB t) := fun hs => by have := hs.2;split at this <;> omega
    cases m with
    | true =>
      refine GOH ?_;refine zT Zr Zr hcat ?_;refine GOH ?_;refine ⟨.inr rfl, _, _, .cellN (us := [cv 5, vi 0, uv 0, .string (⟨#[45]⟩ ++ t), .slice none 0 0]) Zr Zr Zag .nil, ZI, .inr ⟨hns, _, rfl, by rw [bytesN_append];rfl⟩, rfl⟩
    | false =>
      refine GOH ?_;refine ⟨.inr rfl, _, _, .cellN (us := [cv 5, vi 0, uv 0, .string t, .slice none 0 0]) Zr Zr Zag .nil, ZI, .inr ⟨hns, _, rfl, rfl⟩, rfl⟩
def wd (l : List Nat) : List Nat := if l.head? = some 45 then l.tail else l
def wt (l : List Nat) : Bool := decide (l.head? = some 45)
def zn (l : List Nat) : Bool := decide (wd l ≠ []) && decide ((jh (wd l)).length <= 255) && (wd l).all jt
def IntQ (s : ByteArray) (v : Value) : Prop :=
  (zn (kB s) = false /\ v = .tuple #[.agg #[cv 0, vi 0, uv 0, .string ⟨#[]⟩, .slice none 0 0], vi 144]) ∨
  (zn (kB s) = true /\ ∃ t u, kB t = jh (wd (kB s)) /\ WholeQ (wt (kB s)) t u /\ v = .tuple #[u, vi 0])
theorem plainL_dig {l : List Nat} (h : l.all jt = true) : (jh l).all jt = true := by
  rw [plainL_eq];split
  · rfl
  · rw [List.all_eq_true] at h |-;intro x hx;exact h x ((List.dropWhile_sublist _).subset hx)
theorem plainL_ne {l : List Nat} (h : l ≠ []) : jh l ≠ [] := by
  rw [plainL_eq];split
  · simp
  · rename_i h2;intro e;exact h2 ⟨e, h⟩
theorem integer_spec (A : List kE) (hE : ErA A) (s : ByteArray) (hs : s.size <= 140737488355328) : Fun Tryz.prog 148 [.string s] [A] (fun v Post => IntQ s v /\ Post = [A]) := by
  refine Fun.intro low148 (by simp [n148]) ?_;refine GOH ?_;refine kP (fun b => ?_);refine GOH ?_;refine kD (cutPrefix_spec s hs) Zr ZP (fun v Post hv => ?_);obtain ⟨d, rfl, hd, hds, rfl⟩ := hv;simp only [List.nil_append];have hdig : kB d = wd (kB s) := hd;have hm : decide ((kB s).head? = some 45) = wt (kB s) := rfl;rw [hm];obtain ⟨m, hmm⟩ : ∃ m, wt (kB s) = m := ⟨_, rfl⟩;rw [hmm];refine GOH ?_;refine kD (plain_spec d Zo) Zr ZP (fun v Post hv => ?_);obtain ⟨t, rfl, ht, rfl⟩ := hv;simp only [List.nil_append];have hlt := kT t;have hld := kT d;have hIntB : zn (kB s) = false -> IntQ s (.tuple #[.agg #[cv 0, vi 0, uv 0, .string ⟨#[]⟩, .slice none 0 0], vi 144]) := fun h => .inl ⟨h, rfl⟩
  have hg : zn (kB s) = (decide (kB d ≠ []) && decide (t.size <= 255) && (kB d).all jt) := by
    unfold zn;rw [<- hdig, <- ht, hlt]
  refine GOH ?_;by_cases h0 : d = ⟨#[]⟩
  · rw [Zt h0];have hb : zn (kB s) = false := by rw [hg, h0];rfl
    refine GOH ?_;refine ⟨.inr rfl, _, _, .cellN (us := [cv 0, vi 0, uv 0, .string ⟨#[]⟩, .slice none 0 0]) Zr Zr Zag (.tmp Zr .nil), ZI, hIntB hb, rfl⟩
  rw [Zf h0];have hd0 : kB d ≠ [] := fun e => h0 (kq (by rw [e];rfl))
  refine GOH ?_;by_cases h255 : t.size <= 255;rotate_left
  · rw [Zt (show (t.size : Int) > 255 by omega)];have hb : zn (kB s) = false := by rw [hg, Zf h255];simp
    refine GOH ?_;refine ⟨.inr rfl, _, _, .cellN (us := [cv 0, vi 0, uv 0, .string ⟨#[]⟩, .slice none 0 0]) Zr Zr Zag (.tmp Zr .nil), ZI, hIntB hb, rfl⟩
  rw [Zf (show ¬ (t.size : Int) > 255 by omega)];refine GOH ?_;have hrun := run_spec d Zo 0 Zo (.func (.func 126) #[] #[]) (fun _ => []) (fun k => jt ((kB d).getD k 0)) (fun k x _ hx => zD.of_fun (by
    rw [List.getD_eq_getElem?_getD, hx];exact digit_spec _ (zA d _ (Zv hx))))
  refine kD hrun Zr ZP (fun v Post hv => ?_);obtain ⟨e, j, rfl, e1, e2, e3, e4, rfl⟩ := hv;have hall := all_run (l := kB d) (p := jt) (e := e) Zo (fun k hk => e3 k Zo hk) (fun hk => e4 Zo);simp only [List.nil_append];refine GOH ?_;by_cases he : e = (kB d).length;rotate_left
  · have hb : zn (kB s) = false := by rw [hg, hall, Zf he];simp
    rw [Zf (show ¬ (e : Int) = (d.size : Int) by omega)];refine GOH ?_;refine ⟨.inr rfl, _, _, .cellN (us := [cv 0, vi 0, uv 0, .string ⟨#[]⟩, .slice none 0 0]) Zr Zr Zag (.tmp Zr .nil), ZI, hIntB hb, rfl⟩
  rw [Zt (show (e : Int) = (d.size : Int) by omega)];rw [Zt he] at hall;have hgt : zn (kB s) = true := by rw [hg, hall, Zt h255, Zt hd0];rfl
  refine GOH ?_;refine kD (whole_spec A hE t (by rw [ht];exact plainL_ne hd0) (by rw [ht];exact plainL_dig hall) h255 m) Zr ZP (fun v Post hv => ?_);obtain ⟨hw, rfl⟩ := hv;have fin : ∀ u, WholeQ m t u -> IntQ s (.tuple #[u, vi 0]) := fun u hu => .inr ⟨hgt, t, u, by rw [ht, hdig], by rw [hmm];exact hu, rfl⟩
  have hfin := fin _ hw;simp only [CNx];rcases hw with ⟨_, rfl⟩ | ⟨_, u, rfl, _⟩
  · generalize (if m = true then -(wq (kB t) : Int) else (wq (kB t) : Int)) = z at hfin |-;refine GOH ?_;refine ⟨.inr rfl, _, _, .cellN (us := [cv 4, vi z, uv 0, .string ⟨#[]⟩, .slice none 0 0]) Zr Zr Zag (.tmp Zr .nil), ZI, hfin, rfl⟩
  · refine GOH ?_;refine ⟨.inr rfl, _, _, .cellN (us := [cv 5, vi 0, uv 0, .string u, .slice none 0 0]) Zr Zr Zag (.tmp Zr .nil), ZI, hfin, rfl⟩
end Go.Proofs.YtmnmandpdadedaaGreatDoor
namespace Go.Proofs.YtmnmandpdadedaaGreatDoor
open Go Go.V
set_option maxHeartbeats 3200000
set_option maxRecDepth 100000
theorem largeL_eq (l : List Nat) : largeL l = (decide (wd l ≠ []) && (wd l).all jt && decide (jh (wd l) = wd l) && decide ((wd l).length <= 255) && decide ((if wt l = true then 1152921504606846976 else 1152921504606846975) < wq (wd l))) := by
  unfold largeL;cases l with
  | nil => rfl
  | cons a r =>
    by_cases ha : a = 45
    · subst ha;rfl
    · have h1 : wd (a :: r) = a :: r := by simp [wd, ha]
      have h2 : wt (a :: r) = false := by simp [wt, ha]
      rw [h1, h2];split;rename_i d m h;split at h
      · rename_i heq;cases heq;exact absurd rfl ha
      · cases h;rfl
theorem small_plain {d : List Nat} {m : Bool} (h0 : d ≠ []) (hd : d.all jt = true) (hp : jh d = d) : wV m d ↔ ¬ (if m = true then 1152921504606846976 else 1152921504606846975) < wq d := by
  unfold wV;constructor
  · intro h;have := h.2;omega
  · intro h;refine ⟨?_, Zo⟩;apply Classical.byContradiction;intro hl;cases d with
    | nil => exact h0 rfl
    | cons c r =>
      have hc : c ≠ 48 := by
        intro e;subst e;cases r with
        | nil => simp at hl
        | cons b q =>
          rw [plainL_eq] at hp;split at hp
          · cases hp
          · rw [List.dropWhile_cons_of_pos Zs] at hp;have h1 := (List.dropWhile_sublist (l := b :: q) (fun c => decide (c = 48))).length_le;rw [hp] at h1;simp at h1;omega
      have hc2 := List.all_eq_true.1 hd c Zs;simp only [jt, Bool.and_eq_true, decide_eq_true_eq] at hc2;have h1 := numL_ge r (0 * 10 + (c - 48)) 0 Zam;have h2 : wq (c :: r) = r.foldl (fun n c => n * 10 + (c - 48)) (0 * 10 + (c - 48)) := rfl;have h3 : (10 : Nat) ^ 19 <= 10 ^ (0 + r.length) := Nat.pow_le_pow_right Zo (by simp at hl;omega);have h4 : (10 : Nat) ^ 19 = 10000000000000000000 := by decide
      rw [<- h2] at h1;split at h <;> omega
theorem signed_eq (l : List Nat) : (if wt l = true then 45 :: wd l else wd l) = l := by
  cases l with
  | nil => rfl
  | cons a r =>
    by_cases ha : a = 45
    · subst ha;rfl
    · simp [wt, wd, ha]
theorem IntQ.large {s : ByteArray} {v : Value} (h : IntQ s v) : ∃ (k : Nat) (n : Int) (t : ByteArray) (e : Nat), v = .tuple #[.agg #[cv k, vi n, uv 0, .string t, .slice none 0 0], vi e] /\ (e = 0 /\ k = 5 /\ t = s ↔ largeL (kB s) = true) := by
  have hq := largeL_eq (kB s);rcases h with ⟨hg, rfl⟩ | ⟨hg, t, u, ht, hw, rfl⟩
  · refine ⟨0, 0, _, 144, rfl, ⟨fun h => by simp at h, fun h => ?_⟩⟩;rw [hq] at h;simp only [Bool.and_eq_true, decide_eq_true_eq] at h;unfold zn at hg;rw [h.1.1.2, Zt h.1.1.1.1, h.1.1.1.2, Zt h.1.2] at hg;cases hg
  · simp only [zn, Bool.and_eq_true, decide_eq_true_eq] at hg;obtain ⟨⟨g1, g2⟩, g3⟩ := hg;have hse := signed_eq (kB s);rcases hw with ⟨hs, rfl⟩ | ⟨hs, u, rfl, hu⟩
    · refine ⟨4, _, _, 0, rfl, ⟨fun h => by simp at h, fun h => ?_⟩⟩;rw [hq] at h;simp only [Bool.and_eq_true, decide_eq_true_eq] at h;rw [ht, h.1.1.2] at hs;exact absurd h.2 ((small_plain g1 g3 h.1.1.2).1 hs)
    · refine ⟨5, 0, u, 0, rfl, ⟨fun h => ?_, fun h => ?_⟩⟩
      · have hp : jh (wd (kB s)) = wd (kB s) := by
          have h2 : (if wt (kB s) = true then 45 :: jh (wd (kB s)) else jh (wd (kB s))) = (if wt (kB s) = true then 45 :: wd (kB s) else wd (kB s)) := by
            rw [hse, <- ht, <- hu, h.2.2]
          cases hm : wt (kB s) with
          | true => rw [hm] at h2;simpa using h2
          | false => rw [hm] at h2;simpa using h2
        rw [hq];rw [ht, hp, small_plain g1 g3 hp] at hs;simp only [Bool.and_eq_true, decide_eq_true_eq];rw [hp] at g2;exact ⟨⟨⟨⟨g1, g3⟩, hp⟩, g2⟩, Classical.not_not.1 hs⟩
      · rw [hq] at h;simp only [Bool.and_eq_true, decide_eq_true_eq] at h;refine ⟨rfl, rfl, kq ?_⟩;rw [hu, ht, h.1.1.2, hse]
end Go.Proofs.YtmnmandpdadedaaGreatDoor
namespace Go.Proofs.YtmnmandpdadedaaGreatDoor
open Go Go.V
set_option maxHeartbeats 3200000
set_option maxRecDepth 100000
def wrongV : Value := .iface 96 (.agg #[vi 150])
def jR : List PanicEntry := [{ v := wrongV, recovered := false }]
theorem kJ (b : Bool) : wE Tryz.prog 47 [.bool b] [] (fun v Post => b = true /\ v = .tuple #[] /\ Post = []) (fun ch Post => b = false /\ ch = jR /\ Post = []) := by
  refine wE.intro low47 (by simp [n47]) ?_;cases b with
  | true =>
    refine GOH ?_;exact jk (kC (Post := []) (.inl rfl) .nil ⟨by trivial, rfl, rfl⟩ ZI)
  | false =>
    refine GOH ?_;refine st_pnc Zr ?_;exact ⟨[], Imp.nil, by trivial, rfl, rfl⟩
theorem free_spec (s : ByteArray) (hs : s.size <= 140737488355328) : Fun Tryz.prog 95 [.string s] [] (fun v Post => v = .bool (jH s) /\ Post = []) := by
  refine Fun.intro low95 (by simp [n95]) ?_;have hin : ∀ t : ByteArray, kB t ∈ takenL -> s = t -> jH s = false := fun t ht e => by
    subst e;have : takenL.contains (kB s) = true := List.contains_iff_mem.2 ht;unfold jH;rw [this];rfl
  refine GOH ?_;by_cases h1 : s = ⟨#[115, 101, 108, 102]⟩
  · have hf := hin _ Zd h1;rw [Zt h1];refine GOH ?_;refine kC (Post := []) (.inr rfl) (.tmp Zr .nil) ⟨by rw [hf];rfl, rfl⟩ ZI
  rw [Zf h1];refine GOH ?_;by_cases h2 : s = ⟨#[115, 117, 112, 101, 114]⟩
  · have hf := hin _ Zd h2;rw [Zt h2];refine GOH ?_;refine kC (Post := []) (.inr rfl) (.tmp Zr .nil) ⟨by rw [hf];rfl, rfl⟩ ZI
  rw [Zf h2];refine GOH ?_;by_cases h3 : s = ⟨#[110, 105, 108]⟩
  · have hf := hin _ Zd h3;rw [Zt h3];refine GOH ?_;refine kC (Post := []) (.inr rfl) (.tmp Zr .nil) ⟨by rw [hf];rfl, rfl⟩ ZI
  rw [Zf h3];refine GOH ?_;by_cases h4 : s = ⟨#[116, 114, 117, 101]⟩
  · have hf := hin _ Zd h4;rw [Zt h4];refine GOH ?_;refine kC (Post := []) (.inr rfl) (.tmp Zr .nil) ⟨by rw [hf];rfl, rfl⟩ ZI
  rw [Zf h4];refine GOH ?_;by_cases h5 : s = ⟨#[102, 97, 108, 115, 101]⟩
  · have hf := hin _ Zd h5;rw [Zt h5];refine GOH ?_;refine kC (Post := []) (.inr rfl) (.tmp Zr .nil) ⟨by rw [hf];rfl, rfl⟩ ZI
  rw [Zf h5];have hno : takenL.contains (kB s) = false := by
    rw [Bool.eq_false_iff];intro h;rw [List.contains_iff_mem] at h;simp only [takenL, List.mem_cons, List.not_mem_nil, or_false] at h;rcases h with h | h | h | h | h
    · exact h1 (kq (by rw [h];rfl))
    · exact h2 (kq (by rw [h];rfl))
    · exact h3 (kq (by rw [h];rfl))
    · exact h4 (kq (by rw [h];rfl))
    · exact h5 (kq (by rw [h];rfl))
  have hf : jH s = nameS s := by unfold jH;rw [hno];rfl
  refine GOH ?_;refine kH (name_spec s hs) Zr ?_;refine GOH ?_;refine kC (Post := []) (.inr rfl) (.tmp Zr .nil) ⟨by rw [hf];rfl, rfl⟩ ZI
theorem names1_spec (s : ByteArray) (hs : s.size <= 140737488355328) : Fun Tryz.prog 94 [.string s] [] (fun v Post => v = .bool (!jH s) /\ Post = []) := by
  refine Fun.intro low94 (by simp [n94]) ?_;refine GOH ?_;refine kH (free_spec s hs) Zr ?_;refine GOH ?_;refine kC (Post := []) (.inr rfl) (.tmp Zr .nil) ⟨rfl, rfl⟩ ZI
theorem indexFunc_spec (B : List kE) (v : Value) (l : List ByteArray) (h : RdT B v l) : Fun Tryz.prog 93 [v, .func (.func 94) #[] #[]] [B] (fun u Post => u = .bool (!l.all jH) /\ Post = [B]) := by
  obtain ⟨a, c, rfl, hl, hr⟩ := h;have hi : Fun Tryz.prog 130 [.slice a l.length c, .func (.func 94) #[] #[]] [B] (fun u Post => (∃ i : Int, u = vi i /\ decide (0 <= i) = !l.all jH) /\ Post = [B]) := by
    refine Fun.intro low130 (by simp [n130]) ?_;refine GOH ?_;refine VC.loop (α := Nat) (Γf := fun k => [(0, .slice a l.length c), (1, .func (.func 94) #[] #[]), (7, vi l.length), (8, vi k)]) (Hf := fun _ => [B]) (I := fun k => k <= l.length /\ (l.take k).all jH = true) (μ := fun k => l.length - k) 0 ⟨Nat.zero_le _, rfl⟩ ZU (Imp.refl _) ?_
    rintro k ⟨i1, i2⟩
    refine GOH ?_;by_cases hk : k < l.length;rotate_left
    · rw [Zf (show ¬ (k : Int) < (l.length : Int) by omega)];have : l.take k = l := List.take_of_length_le Zo;rw [this] at i2;refine GOH ?_;refine kC (Post := [B]) (.inr rfl) (.tmp Zr .nil) ⟨⟨-1, rfl, by rw [i2];rfl⟩, rfl⟩ ZI
    rw [Zt (show (k : Int) < (l.length : Int) by omega)];have hk2 : l[k]? = some l[k] := Zg hk;obtain ⟨b, o, rfl, hm, hsz⟩ := hr k _ hk2;have ht : (l.take (k + 1)).all jH = jH l[k] := by
      rw [List.take_add_one, hk2, List.all_append, i2];simp
    have hrest : jH l[k] = false -> l.all jH = false := fun hf => by
      rw [<- List.take_append_drop (k + 1) l, List.all_append, ht, hf, Bool.false_and]
    generalize l[k] = t at *;have hfv : zD Tryz.prog (.func (.func 94) #[] #[]) [.string t] [] (fun v Post => v = .bool (!jH t) /\ Post = []) := zD.of_fun (names1_spec t hsz);refine GOH ?_;refine wm Zr hfv Zr ZP (fun v Post hv => ?_);obtain ⟨rfl, rfl⟩ := hv;simp only [List.nil_append];cases hf : jH t with
    | true =>
      refine GOH ?_;exact ⟨k + 1, ⟨Zo, by rw [ht, hf]⟩, Zo, ZU, ZI⟩
    | false =>
      refine GOH ?_;refine kC (Post := [B]) (.inr rfl) (.tmp Zr .nil) ⟨⟨k, rfl, by rw [hrest hf];simp⟩, rfl⟩ ZI
  refine Fun.intro low93 (by simp [n93]) ?_;refine GOH ?_;refine kD hi Zr ZP (fun v Post hv => ?_);obtain ⟨⟨i, rfl, h⟩, rfl⟩ := hv;simp only [CNx];refine GOH ?_;refine kC (Post := [B]) (.inr rfl) (.tmp Zr .nil) ⟨by rw [<- h];rfl, rfl⟩ ZI
end Go.Proofs.YtmnmandpdadedaaGreatDoor
namespace Go.Proofs.YtmnmandpdadedaaGreatDoor
open Go Go.V
set_option maxHeartbeats 3200000
set_option maxRecDepth 100000
abbrev lkA (lb : Nat) (m d : Bool) : List kE := kA lb 0 [.bool m, .bool d]
def LkQ (A : List kE) (lb : Nat) (m0 deep : Bool) (r : Rs) : Value -> SH -> Prop := fun v Post => ∃ (d : Nat) (m : Bool), r = some (d, m) /\ v = vi d /\ Post = [A, lkA lb (m0 || m) deep]
def LkZ (A : List kE) (lb : Nat) (deep : Bool) (r : Rs) : List PanicEntry -> SH -> Prop := fun ch Post => r = none /\ ch = jR /\ ∃ m, Post = [A, lkA lb m deep]
abbrev Look (f : Nat) (args : List Value) (A : List kE) (lb : Nat) (m0 deep : Bool) (r : Rs) : Prop := wE Tryz.prog f args [A, lkA lb m0 deep] (LkQ A lb m0 deep r) (LkZ A lb deep r)
theorem zV (B : List kE) (v : Value) (l : List ByteArray) (h : RdT B v l) (lb most : Nat) (m0 deep : Bool) : wE Tryz.prog 49 [kN lb, vi most, v] [B, lkA lb m0 deep]
    (fun v Post => l.all jH = true /\ v = .tuple #[] /\ Post = [B, lkA lb (m0 || decide (most < l.length)) deep]) (fun ch Post => l.all jH = false /\ ch = jR /\ ∃ m, Post = [B, lkA lb m deep]) := by
  refine wE.intro low49 (by simp [n49]) ?_;have hc := indexFunc_spec B v l h;obtain ⟨a, c, rfl, hl, hr⟩ := h;cases m0 with
  | true =>
    refine GOH ?_;refine kD hc Zr ZP (fun v Post hv => ?_);obtain ⟨rfl, rfl⟩ := hv;simp only [CNx];refine GOH ?_;refine kG (kJ _) Zr ZP (fun v Post hv => ?_) (fun ch Post hz => ?_)
    · obtain ⟨h1, rfl, rfl⟩ := hv;simp only [List.nil_append];refine GOH ?_;exact jk (kC (Post := [B, lkA lb true deep]) (.inl rfl) .nil ⟨by simpa using h1, rfl, rfl⟩ ZI)
    · obtain ⟨h1, rfl, rfl⟩ := hz;exact ⟨[B, lkA lb true deep], ZI, by simpa using h1, rfl, true, rfl⟩
  | false =>
    refine GOH ?_;by_cases hm : most < l.length
    · rw [show decide ((l.length : Int) > (most : Int)) = true from Zt Zo, Zt hm];refine GOH ?_;refine kD hc Zr ZP (fun v Post hv => ?_);obtain ⟨rfl, rfl⟩ := hv;simp only [CNx];refine GOH ?_;refine kG (kJ _) Zr ZP (fun v Post hv => ?_) (fun ch Post hz => ?_)
      · obtain ⟨h1, rfl, rfl⟩ := hv;simp only [List.nil_append];refine GOH ?_;exact jk (kC (Post := [B, lkA lb true deep]) (.inl rfl) .nil ⟨by simpa using h1, rfl, rfl⟩ ZI)
      · obtain ⟨h1, rfl, rfl⟩ := hz;exact ⟨[B, lkA lb true deep], ZI, by simpa using h1, rfl, true, rfl⟩
    · rw [show decide ((l.length : Int) > (most : Int)) = false from Zf Zo, Zf hm];refine GOH ?_;refine kD hc Zr ZP (fun v Post hv => ?_);obtain ⟨rfl, rfl⟩ := hv;simp only [CNx];refine GOH ?_;refine kG (kJ _) Zr ZP (fun v Post hv => ?_) (fun ch Post hz => ?_)
      · obtain ⟨h1, rfl, rfl⟩ := hv;simp only [List.nil_append];refine GOH ?_;exact jk (kC (Post := [B, lkA lb false deep]) (.inl rfl) .nil ⟨by simpa using h1, rfl, rfl⟩ ZI)
      · obtain ⟨h1, rfl, rfl⟩ := hz;exact ⟨[B, lkA lb false deep], ZI, by simpa using h1, rfl, false, rfl⟩
end Go.Proofs.YtmnmandpdadedaaGreatDoor
namespace Go.Proofs.YtmnmandpdadedaaGreatDoor
open Go Go.V
set_option maxHeartbeats 3200000
set_option maxRecDepth 100000
theorem nd_open {A : List kE} {x : Nd} {vs : List Value} (h : kf A x vs) : ∃ c2 c3 c4 c5 c6 c7 c8 c9 c10, vs = [cv x.kind, .string x.name, c2, c3, c4, c5, c6, c7, c8, c9, c10] /\ x.name.size <= 140737488355328 /\ x.kind < 256 := by
  cases h with
  | mk wf hl hav htv ha hm hr =>
    cases hl with
    | mk wf2 ha2 hm2 hr2 => exact ⟨_, _, _, _, _, _, _, _, _, rfl, wf.name, wf.kind⟩
def jw (A : List kE) (x : Nd) (vs : List Value) : Prop := (∀ lb m0 deep, Look 96 [kN lb, .agg vs.toArray] A lb m0 deep (kO x)) /\ ∀ d m, kO x = some (d, m) -> d <= 1099511627776
theorem part_spec (A : List kE) (x : Nd) (vs : List Value) (h : kf A x vs) (hn : jw A x vs) (place lb : Nat) (m0 deep : Bool) : Look 113 [kN lb, .agg vs.toArray, vi place] A lb m0 deep (partR x place (kO x)) := by
  obtain ⟨hn1, hn2⟩ := hn;obtain ⟨c2, c3, c4, c5, c6, c7, c8, c9, c10, rfl, hsz, hk⟩ := nd_open h;have hlev : jU x = zl x.kind x.name := rfl;have hls := level_spec x.kind x.name hsz c2 c3 c4 c5 c6 c7 c8 c9 c10;have hcall := hn1 lb m0 deep;refine wE.intro low113 (by simp [n113]) ?_;unfold partR;rw [hlev];generalize x.kind = k at *;generalize x.name = s at *;generalize kO x = r at *;generalize zl k s = lv at *;refine GOH ?_;refine kS Zr (fun q => ?_);simp only [Value.cells];refine GOH ?_;by_cases h9 : k = 9
  · have hnone : kK (decide (k ≠ 9 /\ k ≠ 6)) (if lv < place then w5 r else r) = none := by simp [kK, h9]
    rw [show decide ((k : Int) = 9) = true from Zt Zo, Bool.not_true];refine GOH ?_;refine kG (kJ false) Zr ZP Zai (fun ch Post hz => ?_);obtain ⟨_, rfl, rfl⟩ := hz;exact ⟨[A, lkA lb m0 deep], ZI, hnone, rfl, m0, rfl⟩
  rw [show decide ((k : Int) = 9) = false from Zf Zo, Bool.not_false];refine GOH ?_;by_cases h6 : k = 6
  · have hnone : kK (decide (k ≠ 9 /\ k ≠ 6)) (if lv < place then w5 r else r) = none := by simp [kK, h6]
    rw [show decide ((k : Int) = 6) = true from Zt Zo, Bool.not_true];refine GOH ?_;refine kG (kJ false) Zr ZP Zai (fun ch Post hz => ?_);obtain ⟨_, rfl, rfl⟩ := hz;exact ⟨[A, lkA lb m0 deep], ZI, hnone, rfl, m0, rfl⟩
  rw [show decide ((k : Int) = 6) = false from Zf Zo, Bool.not_false];have hmust : kK (decide (k ≠ 9 /\ k ≠ 6)) (if lv < place then w5 r else r) = (if lv < place then w5 r else r) := by simp [kK, h9, h6]
  rw [hmust];refine GOH ?_;refine kG (kJ true) Zr ZP (fun v Post hv => ?_) Zaj;obtain ⟨_, rfl, rfl⟩ := hv;simp only [List.nil_append];refine GOH ?_;refine kG hcall Zr ZP (fun v Post hv => ?_) (fun ch Post hz => ?_);rotate_left
  · obtain ⟨hb, rfl, m2, rfl⟩ := hz;exact ⟨[A, lkA lb m2 deep], ZI, by rw [hb];split <;> rfl, rfl, m2, rfl⟩
  obtain ⟨d, m2, he, rfl, rfl⟩ := hv;have hd := hn2 d m2 he;simp only [CNx];refine GOH ?_;refine kH hls Zr ?_;refine GOH ?_;by_cases hlt : lv < place
  · rw [show decide ((lv : Int) < (place : Int)) = true from Zt Zo];refine GOH ?_;refine jk (kC (Post := [A, lkA lb (m0 || m2) deep]) (.inr rfl) (.tmp Zr .nil) ⟨d + 1, m2, by rw [if_pos hlt, he];rfl, rfl, rfl⟩ ZI)
  · rw [show decide ((lv : Int) < (place : Int)) = false from Zf Zo];refine GOH ?_;refine jk (kC (Post := [A, lkA lb (m0 || m2) deep]) (.inr rfl) (.tmp Zr .nil) ⟨d, m2, by rw [if_neg hlt, he], rfl, rfl⟩ ZI)
theorem wF (A : List kE) (x : Nd) (vs : List Value) (h : kf A x vs) (hn : jw A x vs) (place lb : Nat) (m0 deep : Bool) : Look 73 [kN lb, .agg vs.toArray, vi place] A lb m0 deep (j5 x place (kO x)) := by
  have hp := part_spec A x vs h hn place lb m0 deep;obtain ⟨c2, c3, c4, c5, c6, c7, c8, c9, c10, rfl, hsz, hk⟩ := nd_open h;have hsu : jy x = wJ x.kind x.name := rfl;have hss := super_spec x.kind x.name c2 c3 c4 c5 c6 c7 c8 c9 c10;refine wE.intro low73 (by simp [n73]) ?_;unfold j5;rw [hsu];generalize partR x place (kO x) = r at *;refine GOH ?_;refine kS Zr (fun q => ?_);simp only [Value.cells];refine GOH ?_;refine kH hss Zr ?_;cases hs : wJ x.kind x.name with
  | true =>
    have hnone : kK (!true) r = none := rfl;refine GOH ?_;refine kG (kJ false) Zr ZP Zai (fun ch Post hz => ?_);obtain ⟨_, rfl, rfl⟩ := hz;exact ⟨[A, lkA lb m0 deep], ZI, hnone, rfl, m0, rfl⟩
  | false =>
    have hm : kK (!false) r = r := rfl;rw [hm];refine GOH ?_;refine kG (kJ true) Zr ZP (fun v Post hv => ?_) Zaj;obtain ⟨_, rfl, rfl⟩ := hv;simp only [List.nil_append];refine GOH ?_;refine kG hp Zr ZP (fun v Post hv => ?_) (fun ch Post hz => ?_);rotate_left
    · obtain ⟨hb, rfl, m2, rfl⟩ := hz;exact ⟨[A, lkA lb m2 deep], ZI, hb, rfl, m2, rfl⟩
    obtain ⟨d, m2, he, rfl, rfl⟩ := hv;simp only [CNx];refine GOH ?_;refine jk (kC (Post := [A, lkA lb (m0 || m2) deep]) (.inr rfl) (.tmp Zr .nil) ⟨d, m2, he, rfl, rfl⟩ ZI)
end Go.Proofs.YtmnmandpdadedaaGreatDoor
namespace Go.Proofs.YtmnmandpdadedaaGreatDoor
open Go Go.V
set_option maxHeartbeats 3200000
set_option maxRecDepth 100000
theorem first_spec (A : List kE) (x : Nd) (vs : List Value) (h : kf A x vs) (hn : jw A x vs) (sel : ByteArray) (hsel : sel.size <= 140737488355328) (lb : Nat) (m0 deep : Bool) : Look 132 [kN lb, .agg vs.toArray, .string sel] A lb m0 deep (we x sel (kO x)) := by
  have hv := wF A x vs h hn (recvS sel) lb m0 deep;have hcall := hn.1 lb m0 deep;obtain ⟨c2, c3, c4, c5, c6, c7, c8, c9, c10, rfl, hsz, hk⟩ := nd_open h;have hsu : jy x = wJ x.kind x.name := rfl;have hss := super_spec x.kind x.name c2 c3 c4 c5 c6 c7 c8 c9 c10;refine wE.intro low132 (by simp [n132]) ?_;unfold we;rw [hsu];refine GOH ?_;refine kS Zr (fun q => ?_);simp only [Value.cells];refine GOH ?_;refine kH hss Zr ?_;cases hs : wJ x.kind x.name with
  | true =>
    rw [if_pos rfl];refine GOH ?_;refine kG hcall Zr ZP (fun v Post hv => ?_) (fun ch Post hz => ?_);rotate_left
    · obtain ⟨hb, rfl, m2, rfl⟩ := hz;exact ⟨[A, lkA lb m2 deep], ZI, hb, rfl, m2, rfl⟩
    obtain ⟨d, m2, he, rfl, rfl⟩ := hv;simp only [CNx];refine GOH ?_;refine jk (kC (Post := [A, lkA lb (m0 || m2) deep]) (.inr rfl) (.tmp Zr .nil) ⟨d, m2, he, rfl, rfl⟩ ZI)
  | false =>
    rw [if_neg Zs];refine GOH ?_;generalize j5 x (recvS sel) (kO x) = r at hv |-;cases r with
    | some dm =>
      obtain ⟨d, m2⟩ := dm;have hvf : wE Tryz.prog 73 [kN lb, .agg #[cv x.kind, .string x.name, c2, c3, c4, c5, c6, c7, c8, c9, c10], vi (recvS sel)] [A, lkA lb m0 deep] (fun v Post => v = vi d /\ Post = [A, lkA lb (m0 || m2) deep]) (fun _ _ => False) :=
        wE.mono hv (fun v Post ⟨d', m', e, h1, h2⟩ => by cases e;exact ⟨h1, h2⟩) (fun ch Post hz => by cases hz.1)
      refine VC.seq (VC.draws ⟨?_, ?_, trivial⟩)
      · refine GOH ?_;refine kH (receiver_spec sel hsel) Zr ?_;refine GOH ?_;refine kD hvf.fun Zr ZP (fun v Post hv => ?_);obtain ⟨rfl, rfl⟩ := hv;simp only [CNx];refine GOH ?_;refine jk (kC (Post := [A, lkA lb (m0 || m2) deep]) (.inr rfl) (.tmp Zr .nil) ⟨d, m2, rfl, rfl, rfl⟩ ZI)
      · refine GOH ?_;refine kH (receiver_spec sel hsel) Zr ?_;refine GOH ?_;refine kD hvf.fun Zr ZP (fun v Post hv => ?_);obtain ⟨rfl, rfl⟩ := hv;simp only [CNx];refine GOH ?_;refine jk (kC (Post := [A, lkA lb (m0 || m2) deep]) (.inr rfl) (.tmp Zr .nil) ⟨d, m2, rfl, rfl, rfl⟩ ZI)
    | none =>
      have hvz : wE Tryz.prog 73 [kN lb, .agg #[cv x.kind, .string x.name, c2, c3, c4, c5, c6, c7, c8, c9, c10], vi (recvS sel)] [A, lkA lb m0 deep] (fun v Post => False) (fun ch Post => ch = jR /\ ∃ m, Post = [A, lkA lb m deep]) :=
        wE.mono hv (fun v Post ⟨d', m', e, _⟩ => by cases e) (fun ch Post hz => hz.2)
      refine VC.seq (VC.drawZ (fun ch H' => ch = jR /\ ∃ m, Imp H' [A, lkA lb m deep]) (fun H' => H' = [kA q 0 [cv x.kind, .string x.name, c2, c3, c4, c5, c6, c7, c8, c9, c10], A, lkA lb m0 deep]) rfl ?_ (fun ch H' hp => ?_))
      · intro rs hrs;rcases List.mem_cons.1 hrs with rfl | hrs
        · skip
          refine ⟨rfl, kN lb, True, fun Γ H hΓ hH => ?_, ?_⟩
          · subst hH;exact ka (hΓ 0 Zd _ rfl) Zaf
          refine ⟨rfl, .agg #[cv x.kind, .string x.name, c2, c3, c4, c5, c6, c7, c8, c9, c10], True, fun Γ H hΓ hH => ?_, ?_⟩
          · subst hH;exact jq (hΓ 4 Zd _ rfl) Zab Zaf
          refine ⟨rfl, .string sel, True, fun Γ H hΓ hH => ?_, ?_⟩
          · subst hH;exact ka (hΓ 2 Zd _ rfl) Zaf
          refine ⟨rfl, vi (recvS sel), True, fun Γ H hΓ hH => ?_, ?_⟩
          · subst hH;exact kH (receiver_spec sel hsel) (by simp only [V.evs, V.ev, hΓ 14 Zd _ rfl]) Zaf
          refine ⟨rfl, vi 0, False, fun Γ H hΓ hH => ?_, ?_⟩
          · subst hH;refine kG hvz (by simp only [V.evs, V.ev, hΓ 12 Zd _ rfl, hΓ 13 Zd _ rfl, hΓ 15 Zd _ rfl]) ZP (fun v Post hv => hv.elim) (fun ch Post hz => ?_);obtain ⟨rfl, m, rfl⟩ := hz;exact ⟨rfl, m, ZI⟩
          refine ⟨rfl, vi 0, True, fun Γ H hΓ hH => ?_, ?_⟩
          · subst hH;exact ka (hΓ 16 Zd _ rfl) Zaf
          exact fun hh => by simp at hh
        rcases List.mem_cons.1 hrs with rfl | hrs
        · skip
          refine ⟨rfl, kN lb, True, fun Γ H hΓ hH => ?_, ?_⟩
          · subst hH;exact ka (hΓ 0 Zd _ rfl) Zaf
          refine ⟨rfl, .string sel, True, fun Γ H hΓ hH => ?_, ?_⟩
          · subst hH;exact ka (hΓ 2 Zd _ rfl) Zaf
          refine ⟨rfl, vi (recvS sel), True, fun Γ H hΓ hH => ?_, ?_⟩
          · subst hH;exact kH (receiver_spec sel hsel) (by simp only [V.evs, V.ev, hΓ 14 Zd _ rfl]) Zaf
          refine ⟨rfl, .agg #[cv x.kind, .string x.name, c2, c3, c4, c5, c6, c7, c8, c9, c10], True, fun Γ H hΓ hH => ?_, ?_⟩
          · subst hH;exact jq (hΓ 4 Zd _ rfl) Zab Zaf
          refine ⟨rfl, vi 0, False, fun Γ H hΓ hH => ?_, ?_⟩
          · subst hH;refine kG hvz (by simp only [V.evs, V.ev, hΓ 12 Zd _ rfl, hΓ 13 Zd _ rfl, hΓ 15 Zd _ rfl]) ZP (fun v Post hv => hv.elim) (fun ch Post hz => ?_);obtain ⟨rfl, m, rfl⟩ := hz;exact ⟨rfl, m, ZI⟩
          refine ⟨rfl, vi 0, True, fun Γ H hΓ hH => ?_, ?_⟩
          · subst hH;exact ka (hΓ 16 Zd _ rfl) Zaf
          exact fun hh => by simp at hh
        · cases hrs
      · obtain ⟨rfl, m, hi⟩ := hp;exact ⟨_, hi, rfl, rfl, m, rfl⟩
end Go.Proofs.YtmnmandpdadedaaGreatDoor
namespace Go.Proofs.YtmnmandpdadedaaGreatDoor
open Go Go.V
set_option maxHeartbeats 3200000
set_option maxRecDepth 100000
theorem km {A : List kE} {y : Nd} {vs : List Value} (h : kf A y vs) : ∃ (e1 : Nat) (e2 : Int) (e3 : Nat) (e4 : ByteArray) (e5 : Option Addr) (e6 e7 : Nat) (e8 : Option Addr) (e9 e10 : Nat) (e11 : Option Addr) (e12 e13 : Nat) (e14 : Option Addr) (e15 e16 : Nat) (e17 : Int),
    vs = [cv y.kind, .string y.name, cv e1, vi e2, uv e3, .string e4, .slice e5 e6 e7, .slice e8 e9 e10, .slice e11 e12 e13, .slice e14 e15 e16, vi e17] /\ y.name.size <= 140737488355328 /\ y.kind < 256 := by
  cases h with
  | mk wf hl hav htv ha hm hr =>
    obtain ⟨_, _, rfl, _⟩ := hav;obtain ⟨_, _, rfl, _⟩ := htv;cases hl with
    | mk wf2 ha2 hm2 hr2 => exact ⟨_, _, _, _, _, _, _, _, _, _, _, _, _, _, _, _, _, rfl, wf.name, wf.kind⟩
structure za (A : List kE) (l : List Nd) (a : Option Addr) (bk o : Nat) (us : Nat -> List Value) : Prop where
  at_ : 0 < l.length -> a = some ⟨bk, o, none⟩
  many : l.length <= 140737488355328
  mem : ∀ i, i < l.length -> ∀ y ∈ kA bk (o + i * 11) (us i), y ∈ A
  rd : ∀ i x, l[i]? = some x -> kf A x (us i)
  ok : ∀ i x, l[i]? = some x -> jw A x (us i)
theorem arguments_spec (A : List kE) (l : List Nd) (a : Option Addr) (c bk o : Nat) (us : Nat -> List Value) (hk : za A l a bk o us) (sel : ByteArray) (hsel : sel.size <= 140737488355328) (lb : Nat) (m0 deep : Bool) :
    Look 133 [kN lb, .string sel, .slice a l.length c] A lb m0 deep (argsR sel l (l.map kO)) := by
  refine wE.intro low133 (by simp [n133]) ?_;unfold Go.V.argsR;rw [valuesR_map];obtain ⟨RR, hRR⟩ : ∃ RR, RR = kK (decide (kR sel = l.length)) (jm (decide (15 < kR sel)) (jF (l.map fun x => j5 x (argS sel) (kO x)))) := ⟨_, rfl⟩;rw [<- hRR];have hmany := hk.many;refine GOH ?_;refine kH (jv sel hsel) Zr ?_;refine GOH ?_;by_cases har : kR sel = (l.length : Int);rotate_left
  · have hnone : RR = none := by simp [hRR, kK, har]
    rw [Zf har];refine GOH ?_;refine kG (kJ false) Zr ZP Zai (fun ch Post hz => ?_);obtain ⟨_, rfl, rfl⟩ := hz;exact ⟨[A, lkA lb m0 deep], ZI, hnone, rfl, m0, rfl⟩
  have hm1 : RR = jm (decide (15 < kR sel)) (jF (l.map fun x => j5 x (argS sel) (kO x))) := by simp [hRR, kK, har]
  rw [Zt har];refine GOH ?_;refine kG (kJ true) Zr ZP (fun v Post hv => ?_) Zaj;obtain ⟨_, rfl, rfl⟩ := hv;simp only [List.nil_append];refine GOH ?_;obtain ⟨m0', hm0'⟩ : ∃ m0', m0' = m0 := ⟨_, rfl⟩;cases m0 with
  | true =>
    obtain ⟨mB, hmB⟩ : ∃ b, b = (true || decide (15 < kR sel)) := ⟨_, rfl⟩;have hmB0 : mB = true := by rw [hmB, Bool.true_or]
    refine GOH ?_;refine VC.loop (α := Nat × Nat × Bool) (Γf := fun s => [(0, kN lb), (1, .string sel), (8, vi s.2.1), (29, .slice a l.length c), (30, vi l.length), (31, vi s.1)]) (Hf := fun s => [A, lkA lb (mB || s.2.2) deep])
      (I := fun s => s.1 <= l.length /\ jF ((l.take s.1).map fun x => j5 x (argS sel) (kO x)) = some (s.2.1, s.2.2)) (μ := fun s => l.length - s.1) (0, 0, false) ⟨Nat.zero_le _, rfl⟩ ZU (by show Imp _ [A, lkA lb (mB || false) deep];rw [Bool.or_false, hmB0];exact IMx) ?_
    rintro ⟨j, d, mm⟩ ⟨i1, i2⟩
    simp only at i1 i2;dsimp only;refine GOH ?_;by_cases hj : j < l.length;rotate_left
    · rw [show decide ((j : Int) < (l.length : Int)) = false from Zf Zo];have htk : l.take j = l := List.take_of_length_le Zo;rw [htk] at i2;refine GOH ?_;refine jk (kC (Post := [A, lkA lb (m0' || (decide (15 < kR sel) || mm)) deep]) (.inr rfl) (.tmp Zr .nil) ⟨d, _, by rw [hm1, i2];rfl, rfl, by rw [hm0']⟩ (by rw [hm0', <- Bool.or_assoc, <- hmB];exact IMx))
    obtain rfl := hk.at_ Zo;rw [show decide ((j : Int) < (l.length : Int)) = true from Zt Zo];obtain ⟨y, hy⟩ : ∃ y, l[j]? = some y := ⟨_, Zg hj⟩;have hyr := hk.rd j y hy;have hym := hk.mem j hj;have hv := wF A y _ hyr (hk.ok j y hy) (argS sel) lb (mB || mm) deep;generalize us j = uj at hyr hym hv;obtain ⟨e1, e2, e3, e4, e5, e6, e7, e8, e9, e10, e11, e12, e13, e14, e15, e16, e17, rfl, hsz, hkk⟩ := km hyr;have htk : l.take (j + 1) = l.take j ++ [y] := by rw [List.take_add_one, hy];rfl
    refine GOH ?_;refine kL Zr Zah rfl ?_;refine GOH ?_;refine kP (fun q => ?_);refine GOH ?_;cases he : j5 y (argS sel) (kO y) with
    | some dm =>
      obtain ⟨e, m2⟩ := dm;rw [he] at hv;have hvf : wE Tryz.prog 73 [kN lb, .agg #[cv y.kind, .string y.name, cv e1, vi e2, uv e3, .string e4, .slice e5 e6 e7, .slice e8 e9 e10, .slice e11 e12 e13, .slice e14 e15 e16, vi e17], vi (argS sel)] [A, lkA lb (mB || mm) deep] (fun v Post => v = vi e /\ Post = [A, lkA lb (mB || mm || m2) deep]) (fun _ _ => False) :=
        wE.mono hv (fun v Post ⟨d', m', e, h1, h2⟩ => by cases e;exact ⟨h1, h2⟩) (fun ch Post hz => by cases hz.1)
      refine VC.draws ⟨?_, ?_, trivial⟩
      · skip
        refine GOH ?_;refine kH (jn sel hsel) Zr ?_;refine GOH ?_;refine kD hvf.fun Zr ZP (fun v Post hv => ?_);obtain ⟨rfl, rfl⟩ := hv;simp only [CNx];refine GOH ?_;rw [show (if (e : Int) > (d : Int) then (e : Int) else (d : Int)) = ((max d e : Nat) : Int) by split <;> omega];refine ⟨(j + 1, max d e, mm || m2), ⟨by simp only;omega, ?_⟩, by simp only;omega, ZU, ?_⟩
        · simp only [htk, List.map_append, List.map_cons, List.map_nil, he];exact jZ i2
        · simp only [Bool.or_assoc];exact IMx
      · skip
        refine GOH ?_;refine kH (jn sel hsel) Zr ?_;refine GOH ?_;refine kD hvf.fun Zr ZP (fun v Post hv => ?_);obtain ⟨rfl, rfl⟩ := hv;simp only [CNx];refine GOH ?_;rw [show (if (e : Int) > (d : Int) then (e : Int) else (d : Int)) = ((max d e : Nat) : Int) by split <;> omega];refine ⟨(j + 1, max d e, mm || m2), ⟨by simp only;omega, ?_⟩, by simp only;omega, ZU, ?_⟩
        · simp only [htk, List.map_append, List.map_cons, List.map_nil, he];exact jZ i2
        · simp only [Bool.or_assoc];exact IMx
    | none =>
      rw [he] at hv;have hnone : RR = none := by
        rw [hRR, ja (List.mem_map.2 ⟨y, Zv hy, he⟩)];unfold kK;split <;> rfl
      have hvz : wE Tryz.prog 73 [kN lb, .agg #[cv y.kind, .string y.name, cv e1, vi e2, uv e3, .string e4, .slice e5 e6 e7, .slice e8 e9 e10, .slice e11 e12 e13, .slice e14 e15 e16, vi e17], vi (argS sel)] [A, lkA lb (mB || mm) deep] (fun v Post => False) (fun ch Post => ch = jR /\ ∃ m, Post = [A, lkA lb m deep]) :=
        wE.mono hv (fun v Post ⟨d', m', e, _⟩ => by cases e) (fun ch Post hz => hz.2)
      refine VC.drawZ (fun ch H' => ch = jR /\ ∃ m, Imp H' [A, lkA lb m deep]) (fun H' => H' = [kA q 0 [cv y.kind, .string y.name, cv e1, vi e2, uv e3, .string e4, .slice e5 e6 e7, .slice e8 e9 e10, .slice e11 e12 e13, .slice e14 e15 e16, vi e17], A, lkA lb (mB || mm) deep]) rfl ?_ (fun ch H' hp => ?_)
      · intro rs hrs;rcases List.mem_cons.1 hrs with rfl | hrs
        · skip
          refine ⟨rfl, vi d, True, fun Γ H hΓ hH => ?_, ?_⟩
          · subst hH;exact ka (hΓ 8 Zd _ rfl) Zaf
          refine ⟨rfl, kN lb, True, fun Γ H hΓ hH => ?_, ?_⟩
          · subst hH;exact ka (hΓ 0 Zd _ rfl) Zaf
          refine ⟨rfl, .agg #[cv y.kind, .string y.name, cv e1, vi e2, uv e3, .string e4, .slice e5 e6 e7, .slice e8 e9 e10, .slice e11 e12 e13, .slice e14 e15 e16, vi e17], True, fun Γ H hΓ hH => ?_, ?_⟩
          · subst hH;exact jq (hΓ 10 Zd _ rfl) Zab Zaf
          refine ⟨rfl, .string sel, True, fun Γ H hΓ hH => ?_, ?_⟩
          · subst hH;exact ka (hΓ 1 Zd _ rfl) Zaf
          refine ⟨rfl, vi (argS sel), True, fun Γ H hΓ hH => ?_, ?_⟩
          · subst hH;exact kH (jn sel hsel) (by simp only [V.evs, V.ev, hΓ 38 Zd _ rfl]) Zaf
          refine ⟨rfl, vi 0, False, fun Γ H hΓ hH => ?_, ?_⟩
          · subst hH;refine kG hvz Zap ZP (fun v Post hv => hv.elim) (fun ch Post hz => ?_);obtain ⟨rfl, m, rfl⟩ := hz;exact ⟨rfl, m, ZI⟩
          refine ⟨rfl, vi d, True, fun Γ H hΓ hH => ?_, ?_⟩
          · subst hH;exact st_max (a := d) (b := 0) (by simp only [V.ev, hΓ 35 Zd _ rfl]) (by simp only [V.ev, hΓ 40 Zd _ rfl];rfl) (VO.nil ⟨by rw [Nat.max_zero], rfl, trivial⟩)
          refine ⟨rfl, vi d, True, fun Γ H hΓ hH => ?_, ?_⟩
          · subst hH;exact ka (hΓ 41 Zd _ rfl) Zaf
          exact fun hh => by simp at hh
        rcases List.mem_cons.1 hrs with rfl | hrs
        · skip
          refine ⟨rfl, vi d, True, fun Γ H hΓ hH => ?_, ?_⟩
          · subst hH;exact ka (hΓ 8 Zd _ rfl) Zaf
          refine ⟨rfl, kN lb, True, fun Γ H hΓ hH => ?_, ?_⟩
          · subst hH;exact ka (hΓ 0 Zd _ rfl) Zaf
          refine ⟨rfl, .string sel, True, fun Γ H hΓ hH => ?_, ?_⟩
          · subst hH;exact ka (hΓ 1 Zd _ rfl) Zaf
          refine ⟨rfl, vi (argS sel), True, fun Γ H hΓ hH => ?_, ?_⟩
          · subst hH;exact kH (jn sel hsel) (by simp only [V.evs, V.ev, hΓ 38 Zd _ rfl]) Zaf
          refine ⟨rfl, .agg #[cv y.kind, .string y.name, cv e1, vi e2, uv e3, .string e4, .slice e5 e6 e7, .slice e8 e9 e10, .slice e11 e12 e13, .slice e14 e15 e16, vi e17], True, fun Γ H hΓ hH => ?_, ?_⟩
          · subst hH;exact jq (hΓ 10 Zd _ rfl) Zab Zaf
          refine ⟨rfl, vi 0, False, fun Γ H hΓ hH => ?_, ?_⟩
          · subst hH;refine kG hvz Zap ZP (fun v Post hv => hv.elim) (fun ch Post hz => ?_);obtain ⟨rfl, m, rfl⟩ := hz;exact ⟨rfl, m, ZI⟩
          refine ⟨rfl, vi d, True, fun Γ H hΓ hH => ?_, ?_⟩
          · subst hH;exact st_max (a := d) (b := 0) (by simp only [V.ev, hΓ 35 Zd _ rfl]) (by simp only [V.ev, hΓ 40 Zd _ rfl];rfl) (VO.nil ⟨by rw [Nat.max_zero], rfl, trivial⟩)
          refine ⟨rfl, vi d, True, fun Γ H hΓ hH => ?_, ?_⟩
          · subst hH;exact ka (hΓ 41 Zd _ rfl) Zaf
          exact fun hh => by simp at hh
        · cases hrs
      · obtain ⟨rfl, m, hi⟩ := hp;exact ⟨_, hi, hnone, rfl, m, rfl⟩
  | false =>
    obtain ⟨mB, hmB⟩ : ∃ b, b = (false || decide (15 < kR sel)) := ⟨_, rfl⟩;have hmB0 : mB = decide (kR sel > 15) := by rw [hmB, Bool.false_or]
    refine GOH ?_;refine VC.loop (α := Nat × Nat × Bool) (Γf := fun s => [(0, kN lb), (1, .string sel), (8, vi s.2.1), (29, .slice a l.length c), (30, vi l.length), (31, vi s.1)]) (Hf := fun s => [A, lkA lb (mB || s.2.2) deep])
      (I := fun s => s.1 <= l.length /\ jF ((l.take s.1).map fun x => j5 x (argS sel) (kO x)) = some (s.2.1, s.2.2)) (μ := fun s => l.length - s.1) (0, 0, false) ⟨Nat.zero_le _, rfl⟩ ZU (by show Imp _ [A, lkA lb (mB || false) deep];rw [Bool.or_false, hmB0];exact IMx) ?_
    rintro ⟨j, d, mm⟩ ⟨i1, i2⟩
    simp only at i1 i2;dsimp only;refine GOH ?_;by_cases hj : j < l.length;rotate_left
    · rw [show decide ((j : Int) < (l.length : Int)) = false from Zf Zo];have htk : l.take j = l := List.take_of_length_le Zo;rw [htk] at i2;refine GOH ?_;refine jk (kC (Post := [A, lkA lb (m0' || (decide (15 < kR sel) || mm)) deep]) (.inr rfl) (.tmp Zr .nil) ⟨d, _, by rw [hm1, i2];rfl, rfl, by rw [hm0']⟩ (by rw [hm0', <- Bool.or_assoc, <- hmB];exact IMx))
    obtain rfl := hk.at_ Zo;rw [show decide ((j : Int) < (l.length : Int)) = true from Zt Zo];obtain ⟨y, hy⟩ : ∃ y, l[j]? = some y := ⟨_, Zg hj⟩;have hyr := hk.rd j y hy;have hym := hk.mem j hj;have hv := wF A y _ hyr (hk.ok j y hy) (argS sel) lb (mB || mm) deep;generalize us j = uj at hyr hym hv;obtain ⟨e1, e2, e3, e4, e5, e6, e7, e8, e9, e10, e11, e12, e13, e14, e15, e16, e17, rfl, hsz, hkk⟩ := km hyr;have htk : l.take (j + 1) = l.take j ++ [y] := by rw [List.take_add_one, hy];rfl
    refine GOH ?_;refine kL Zr Zah rfl ?_;refine GOH ?_;refine kP (fun q => ?_);refine GOH ?_;cases he : j5 y (argS sel) (kO y) with
    | some dm =>
      obtain ⟨e, m2⟩ := dm;rw [he] at hv;have hvf : wE Tryz.prog 73 [kN lb, .agg #[cv y.kind, .string y.name, cv e1, vi e2, uv e3, .string e4, .slice e5 e6 e7, .slice e8 e9 e10, .slice e11 e12 e13, .slice e14 e15 e16, vi e17], vi (argS sel)] [A, lkA lb (mB || mm) deep] (fun v Post => v = vi e /\ Post = [A, lkA lb (mB || mm || m2) deep]) (fun _ _ => False) :=
        wE.mono hv (fun v Post ⟨d', m', e, h1, h2⟩ => by cases e;exact ⟨h1, h2⟩) (fun ch Post hz => by cases hz.1)
      refine VC.draws ⟨?_, ?_, trivial⟩
      · skip
        refine GOH ?_;refine kH (jn sel hsel) Zr ?_;refine GOH ?_;refine kD hvf.fun Zr ZP (fun v Post hv => ?_);obtain ⟨rfl, rfl⟩ := hv;simp only [CNx];refine GOH ?_;rw [show (if (e : Int) > (d : Int) then (e : Int) else (d : Int)) = ((max d e : Nat) : Int) by split <;> omega];refine ⟨(j + 1, max d e, mm || m2), ⟨by simp only;omega, ?_⟩, by simp only;omega, ZU, ?_⟩
        · simp only [htk, List.map_append, List.map_cons, List.map_nil, he];exact jZ i2
        · simp only [Bool.or_assoc];exact IMx
      · skip
        refine GOH ?_;refine kH (jn sel hsel) Zr ?_;refine GOH ?_;refine kD hvf.fun Zr ZP (fun v Post hv => ?_);obtain ⟨rfl, rfl⟩ := hv;simp only [CNx];refine GOH ?_;rw [show (if (e : Int) > (d : Int) then (e : Int) else (d : Int)) = ((max d e : Nat) : Int) by split <;> omega];refine ⟨(j + 1, max d e, mm || m2), ⟨by simp only;omega, ?_⟩, by simp only;omega, ZU, ?_⟩
        · simp only [htk, List.map_append, List.map_cons, List.map_nil, he];exact jZ i2
        · simp only [Bool.or_assoc];exact IMx
    | none =>
      rw [he] at hv;have hnone : RR = none := by
        rw [hRR, ja (List.mem_map.2 ⟨y, Zv hy, he⟩)];unfold kK;split <;> rfl
      have hvz : wE Tryz.prog 73 [kN lb, .agg #[cv y.kind, .string y.name, cv e1, vi e2, uv e3, .string e4, .slice e5 e6 e7, .slice e8 e9 e10, .slice e11 e12 e13, .slice e14 e15 e16, vi e17], vi (argS sel)] [A, lkA lb (mB || mm) deep] (fun v Post => False) (fun ch Post => ch = jR /\ ∃ m, Post = [A, lkA lb m deep]) :=
        wE.mono hv (fun v Post ⟨d', m', e, _⟩ => by cases e) (fun ch Post hz => hz.2)
      refine VC.drawZ (fun ch H' => ch = jR /\ ∃ m, Imp H' [A, lkA lb m deep]) (fun H' => H' = [kA q 0 [cv y.kind, .string y.name, cv e1, vi e2, uv e3, .string e4, .slice e5 e6 e7, .slice e8 e9 e10, .slice e11 e12 e13, .slice e14 e15 e16, vi e17], A, lkA lb (mB || mm) deep]) rfl ?_ (fun ch H' hp => ?_)
      · intro rs hrs;rcases List.mem_cons.1 hrs with rfl | hrs
        · skip
          refine ⟨rfl, vi d, True, fun Γ H hΓ hH => ?_, ?_⟩
          · subst hH;exact ka (hΓ 8 Zd _ rfl) Zaf
          refine ⟨rfl, kN lb, True, fun Γ H hΓ hH => ?_, ?_⟩
          · subst hH;exact ka (hΓ 0 Zd _ rfl) Zaf
          refine ⟨rfl, .agg #[cv y.kind, .string y.name, cv e1, vi e2, uv e3, .string e4, .slice e5 e6 e7, .slice e8 e9 e10, .slice e11 e12 e13, .slice e14 e15 e16, vi e17], True, fun Γ H hΓ hH => ?_, ?_⟩
          · subst hH;exact jq (hΓ 10 Zd _ rfl) Zab Zaf
          refine ⟨rfl, .string sel, True, fun Γ H hΓ hH => ?_, ?_⟩
          · subst hH;exact ka (hΓ 1 Zd _ rfl) Zaf
          refine ⟨rfl, vi (argS sel), True, fun Γ H hΓ hH => ?_, ?_⟩
          · subst hH;exact kH (jn sel hsel) (by simp only [V.evs, V.ev, hΓ 38 Zd _ rfl]) Zaf
          refine ⟨rfl, vi 0, False, fun Γ H hΓ hH => ?_, ?_⟩
          · subst hH;refine kG hvz Zap ZP (fun v Post hv => hv.elim) (fun ch Post hz => ?_);obtain ⟨rfl, m, rfl⟩ := hz;exact ⟨rfl, m, ZI⟩
          refine ⟨rfl, vi d, True, fun Γ H hΓ hH => ?_, ?_⟩
          · subst hH;exact st_max (a := d) (b := 0) (by simp only [V.ev, hΓ 35 Zd _ rfl]) (by simp only [V.ev, hΓ 40 Zd _ rfl];rfl) (VO.nil ⟨by rw [Nat.max_zero], rfl, trivial⟩)
          refine ⟨rfl, vi d, True, fun Γ H hΓ hH => ?_, ?_⟩
          · subst hH;exact ka (hΓ 41 Zd _ rfl) Zaf
          exact fun hh => by simp at hh
        rcases List.mem_cons.1 hrs with rfl | hrs
        · skip
          refine ⟨rfl, vi d, True, fun Γ H hΓ hH => ?_, ?_⟩
          · subst hH;exact ka (hΓ 8 Zd _ rfl) Zaf
          refine ⟨rfl, kN lb, True, fun Γ H hΓ hH => ?_, ?_⟩
          · subst hH;exact ka (hΓ 0 Zd _ rfl) Zaf
          refine ⟨rfl, .string sel, True, fun Γ H hΓ hH => ?_, ?_⟩
          · subst hH;exact ka (hΓ 1 Zd _ rfl) Zaf
          refine ⟨rfl, vi (argS sel), True, fun Γ H hΓ hH => ?_, ?_⟩
          · subst hH;exact kH (jn sel hsel) (by simp only [V.evs, V.ev, hΓ 38 Zd _ rfl]) Zaf
          refine ⟨rfl, .agg #[cv y.kind, .string y.name, cv e1, vi e2, uv e3, .string e4, .slice e5 e6 e7, .slice e8 e9 e10, .slice e11 e12 e13, .slice e14 e15 e16, vi e17], True, fun Γ H hΓ hH => ?_, ?_⟩
          · subst hH;exact jq (hΓ 10 Zd _ rfl) Zab Zaf
          refine ⟨rfl, vi 0, False, fun Γ H hΓ hH => ?_, ?_⟩
          · subst hH;refine kG hvz Zap ZP (fun v Post hv => hv.elim) (fun ch Post hz => ?_);obtain ⟨rfl, m, rfl⟩ := hz;exact ⟨rfl, m, ZI⟩
          refine ⟨rfl, vi d, True, fun Γ H hΓ hH => ?_, ?_⟩
          · subst hH;exact st_max (a := d) (b := 0) (by simp only [V.ev, hΓ 35 Zd _ rfl]) (by simp only [V.ev, hΓ 40 Zd _ rfl];rfl) (VO.nil ⟨by rw [Nat.max_zero], rfl, trivial⟩)
          refine ⟨rfl, vi d, True, fun Γ H hΓ hH => ?_, ?_⟩
          · subst hH;exact ka (hΓ 41 Zd _ rfl) Zaf
          exact fun hh => by simp at hh
        · cases hrs
      · obtain ⟨rfl, m, hi⟩ := hp;exact ⟨_, hi, hnone, rfl, m, rfl⟩
end Go.Proofs.YtmnmandpdadedaaGreatDoor
namespace Go.Proofs.YtmnmandpdadedaaGreatDoor
open Go Go.V
set_option maxHeartbeats 3200000
set_option maxRecDepth 100000
theorem statements_spec (A : List kE) (l : List Nd) (a : Option Addr) (c bk o : Nat) (us : Nat -> List Value) (hk : za A l a bk o us) (lb : Nat) (m0 deep : Bool) :
    Look 50 [kN lb, .slice a l.length c] A lb m0 deep (jF (wL l (l.map kO))) := by
  refine wE.intro low50 (by simp [n50]) ?_;have hmany := hk.many;refine GOH ?_;refine VC.loop (α := Nat × Nat × Bool) (Γf := fun s => [(0, kN lb), (1, .slice a l.length c), (5, vi s.2.1), (8, .slice a l.length c), (9, vi l.length), (10, vi s.1)]) (Hf := fun s => [A, lkA lb (m0 || s.2.2) deep])
    (I := fun s => s.1 <= l.length /\ jF ((wL l (l.map kO)).take s.1) = some (s.2.1, s.2.2)) (μ := fun s => l.length - s.1) (0, 0, false) ⟨Nat.zero_le _, rfl⟩ ZU (by show Imp _ [A, lkA lb (m0 || false) deep];rw [Bool.or_false];exact IMx) ?_
  rintro ⟨j, d, mm⟩ ⟨i1, i2⟩
  simp only at i1 i2;dsimp only;refine GOH ?_;by_cases hj : j < l.length;rotate_left
  · rw [show decide ((j : Int) < (l.length : Int)) = false from Zf Zo];rw [List.take_of_length_le (by rw [stmtsR_len];omega)] at i2;refine GOH ?_;refine jk (kC (Post := [A, lkA lb (m0 || mm) deep]) (.inr rfl) (.tmp Zr .nil) ⟨d, mm, i2, rfl, rfl⟩ ZI)
  obtain rfl := hk.at_ Zo;rw [show decide ((j : Int) < (l.length : Int)) = true from Zt Zo];obtain ⟨y, hy⟩ : ∃ y, l[j]? = some y := ⟨_, Zg hj⟩;have hyr := hk.rd j y hy;have hym := hk.mem j hj;have hget := stmtsR_get l j y hy;have hok := hk.ok j y hy;generalize us j = uj at hyr hym hok;obtain ⟨e1, e2, e3, e4, e5, e6, e7, e8, e9, e10, e11, e12, e13, e14, e15, e16, e17, rfl, hsz, hkk⟩ := km hyr;refine GOH ?_;refine kL Zr Zah rfl ?_;refine GOH ?_;refine kP (fun q => ?_);refine GOH ?_;by_cases h9 : y.kind = 9
  · rw [show decide ((y.kind : Int) = 9) = true from Zt Zo];refine GOH ?_;by_cases hl : j + 1 = l.length
    · rw [show decide ((j : Int) = (l.length : Int) - 1) = true from Zt Zo];rw [if_pos ⟨h9, hl⟩] at hget;have hv := hok.1 lb (m0 || mm) deep;refine GOH ?_;refine kG hv Zr ZP (fun v Post hv => ?_) (fun ch Post hz => ?_);rotate_left
      · obtain ⟨hb, rfl, m2, rfl⟩ := hz;exact ⟨[A, lkA lb m2 deep], ZI, ja (by rw [<- hb];exact Zv hget), rfl, m2, rfl⟩
      obtain ⟨e, m2, he, rfl, rfl⟩ := hv;simp only [CNx];refine GOH ?_;rw [show (if (e : Int) > (d : Int) then (e : Int) else (d : Int)) = ((max d e : Nat) : Int) by split <;> omega];refine ⟨(j + 1, max d e, mm || m2), ⟨by simp only;omega, ?_⟩, by simp only;omega, ZU, ?_⟩
      · simp only;rw [List.take_add_one, hget, he];exact jZ i2
      · simp only [Bool.or_assoc];exact IMx
    · rw [show decide ((j : Int) = (l.length : Int) - 1) = false from Zf Zo];rw [if_neg (fun h => hl h.2)] at hget;have hv := wF A y _ hyr hok 1 lb (m0 || mm) deep;refine GOH ?_;refine kG hv Zr ZP (fun v Post hv => ?_) (fun ch Post hz => ?_);rotate_left
      · obtain ⟨hb, rfl, m2, rfl⟩ := hz;exact ⟨[A, lkA lb m2 deep], ZI, ja (by rw [<- hb];exact Zv hget), rfl, m2, rfl⟩
      obtain ⟨e, m2, he, rfl, rfl⟩ := hv;simp only [CNx];refine GOH ?_;rw [show (if (e : Int) > (d : Int) then (e : Int) else (d : Int)) = ((max d e : Nat) : Int) by split <;> omega];refine ⟨(j + 1, max d e, mm || m2), ⟨by simp only;omega, ?_⟩, by simp only;omega, ZU, ?_⟩
      · simp only;rw [List.take_add_one, hget, he];exact jZ i2
      · simp only [Bool.or_assoc];exact IMx
  · rw [show decide ((y.kind : Int) = 9) = false from Zf Zo];rw [if_neg (fun h => h9 h.1)] at hget;have hv := wF A y _ hyr hok 1 lb (m0 || mm) deep;refine GOH ?_;refine kG hv Zr ZP (fun v Post hv => ?_) (fun ch Post hz => ?_);rotate_left
    · obtain ⟨hb, rfl, m2, rfl⟩ := hz;exact ⟨[A, lkA lb m2 deep], ZI, ja (by rw [<- hb];exact Zv hget), rfl, m2, rfl⟩
    obtain ⟨e, m2, he, rfl, rfl⟩ := hv;simp only [CNx];refine GOH ?_;rw [show (if (e : Int) > (d : Int) then (e : Int) else (d : Int)) = ((max d e : Nat) : Int) by split <;> omega];refine ⟨(j + 1, max d e, mm || m2), ⟨by simp only;omega, ?_⟩, by simp only;omega, ZU, ?_⟩
    · simp only;rw [List.take_add_one, hget, he];exact jZ i2
    · simp only [Bool.or_assoc];exact IMx
end Go.Proofs.YtmnmandpdadedaaGreatDoor

/-
  The code of functions, as terms: printed by a program, proved to be what the seat has.
-/
import Derived.Test.YtijnokbblmbpkaaGreatDoorS10
import Derived.KernelRfl
import Derived.Test.YtijnokbblmbpkaaGreatDoorProg
import Derived.Test.YtijnokbblmbpkaaGreatDoorS7
import Derived.Shelf.Strconv.ParseIntPublic10
set_option linter.unusedSimpArgs false
set_option linter.unusedVariables false
namespace Go.Proofs.YtijnokbblmbpkaaGreatDoor
open Go Go.V
set_option maxRecDepth 100000
def F104:FIR:=laid (X:=⟨6,[],(qS [qm 2 0,qo 3 (.un .not (.tmp 2))] [3] (qC 3 (.reg [qo 4 (.build [(.int .i64 0)] [(0,1,(.const (.int .i64 150)))]),qo 5 (.mkif 262 (.tmp 4)),
 ⟨none,none,.pnc (.tmp 5)⟩] []) .skip))⟩)
theorem n104:F104.n=6:=rfl
theorem low104:ki Tryz.prog (kpO F104) (kQ []) 104=some F104:=by kernel_rfl
def F168:FIR:=laid (X:=⟨12,[.tmp 2],(qS [qz 2 false] [0] (.seq (qS [qm 3 0] [0,3] (.block 0 (.seq (qS [qo 5 (.bin .eql (.tmp 3) (.const (.string ⟨#[115,101,108,102]⟩))),qm 4 5] [0,3,4] (qC 4 .skip (qS [qo 6 (.bin .eql (.tmp 3) (.const (.string ⟨#[115,117,112,101,114]⟩))),qm 4 6] [0,3,4] (qC 4 .skip (qS [qo 7 (.bin .eql (.tmp 3) (.const (.string ⟨#[110,105,108]⟩))),qm 4 7] [0,3,4] (qC 4 .skip (qS [qo 8 (.bin .eql (.tmp 3) (.const (.string ⟨#[116,114,117,101]⟩))),qm 4 8] [0,3,4] (qC 4 .skip (.reg [qo 9 (.bin .eql (.tmp 3) (.const (.string ⟨#[102,97,108,115,101]⟩))),qm 4 9] [0,4]))))))))) (qC 4 (qS [qz 2 false] [2] .ret) .skip)))) (qS [qm 10 0,qx 11 161 [10],qm 2 11] [2] .ret)))⟩)
theorem n168:F168.n=12:=rfl
theorem low168:ki Tryz.prog (kpO F168) (kQ []) 168=some F168:=by kernel_rfl
def F167:FIR:=laid (X:=⟨6,[.tmp 2],(qS [qz 2 false] [0] (qS [qm 3 0,qx 4 168 [3],qo 5 (.un .not (.tmp 4)),qm 2 5] [2] .ret))⟩)
theorem n167:F167.n=6:=rfl
theorem low167:ki Tryz.prog (kpO F167) (kQ []) 167=some F167:=by kernel_rfl
def F201:FIR:=laid (X:=⟨19,[.tmp 4],(qS [qk 4 0] [0,1] (.seq (qS [qm 6 0,qL 7 6,qk 8 0] [0,1,7,8] (.block 0 (.loop (qS [qb 9 .lss 8 7] [0,1,7,8,9] (.seq (qC 9 .skip (.exit 0)) (.seq (.block 1 (qS [qm 10 8,qm 5 10] [0,1,5,7,8] (qS [qm 11 1,qm 12 0,qm 13 5,qi 14 1 12 13,ql 15 14,qo 16 (.callv (.tmp 11) [(.tmp 15)])] [0,1,5,7,8,16] (qC 16 (qS [qm 17 5,qm 4 17] [4] .ret) .skip)))) (.reg [qc 18 .add 8 1,qm 8 18] [0,1,7,8]))))))) (qS [qk 4 (-1)] [4] .ret)))⟩)
theorem n201:F201.n=19:=rfl
theorem low201:ki Tryz.prog (kpO F201) (kQ []) 201=some F201:=by kernel_rfl
def F166:FIR:=laid (X:=⟨9,[.tmp 4],(qS [qz 4 false] [0,1] (qS [qm 5 0,qm 6 1,qx 7 201 [5,6],qc 8 .geq 7 0,qm 4 8] [4] .ret))⟩)
theorem n166:F166.n=9:=rfl
theorem low166:ki Tryz.prog (kpO F166) (kQ []) 166=some F166:=by kernel_rfl
def F106:FIR:=laid (X:=⟨23,[],(qS [qm 6 0,qm 7 0,qn 8 7,qf 9 0 8,ql 10 9,qm 11 10,qu 11 (qm 12 2),qu 11 (qL 13 12),qu 11 (qm 14 1),qu 11 (qb 15 .gtr 13 14),
 qr 16 11 15,qn 17 6,qf 18 0 17,qs 1 18 16] [2] (.reg [qm 19 2,qo 20 (.call 166 [(.tmp 19),(.func 167)]),qo 21 (.un .not (.tmp 20)),qx 22 104 [21]] []))⟩)
theorem n106:F106.n=23:=rfl
theorem low106:ki Tryz.prog (kpO F106) (kQ []) 106=some F106:=by kernel_rfl
def F202:FIR:=laid (X:=⟨151,[.tmp 6],(qS [qB 4 70 1,qk 6 0] [0,2,4] (qS [qk 7 0] [0,2,4,7] (qS [qN 13 5 4,
 qo 8 (.alloc 70 [(.int .u8 0),(.int .i64 0),(.int .u64 0),(.string ⟨#[]⟩),(.slice none 0 0)]),
 qs 5 8 13] [0,2,4,7,8] (.seq (qS [qf 14 0 4,ql 15 14] [0,2,4,7,8,15] (.block 0 (.seq (.block 9 (.seq (.block 8 (.seq (.block 7 (.seq (.block 6 (.seq (.block 5 (.seq (.block 4 (.seq (.block 3 (.seq (.block 2 (.seq (.block 1 (.seq (.seq (.seq (qS [qo 17 (.bin .eql (.tmp 15) (.const (.int .u8 1))),qm 16 17] [0,2,4,7,8,15,16] (qC 16 .skip (qS [qo 18 (.bin .eql (.tmp 15) (.const (.int .u8 2))),qm 16 18] [0,2,4,7,8,15,16] (qC 16 .skip (.reg [qo 19 (.bin .eql (.tmp 15) (.const (.int .u8 3))),qm 16 19] [0,2,4,7,8,15,16]))))) (qC 16 (.exit 1) .skip)) (.seq (qS [qo 21 (.bin .eql (.tmp 15) (.const (.int .u8 4))),qm 20 21] [0,4,7,8,15,20] (qC 20 (.exit 2) .skip)) (.seq (qS [qo 23 (.bin .eql (.tmp 15) (.const (.int .u8 5))),qm 22 23] [0,4,7,8,15,22] (qC 22 (.exit 3) .skip)) (.seq (qS [qo 25 (.bin .eql (.tmp 15) (.const (.int .u8 6))),qm 24 25] [0,4,7,8,15,24] (qC 24 (.exit 4) .skip)) (.seq (qS [qo 27 (.bin .eql (.tmp 15) (.const (.int .u8 7))),qm 26 27] [0,4,7,8,15,26] (qC 26 (.exit 5) .skip)) (.seq (qS [qo 29 (.bin .eql (.tmp 15) (.const (.int .u8 11))),qm 28 29] [0,4,7,8,15,28] (qC 28 (.exit 6) .skip)) (.seq (.seq (qS [qo 31 (.bin .eql (.tmp 15) (.const (.int .u8 8))),qm 30 31] [0,4,7,8,15,30] (qC 30 .skip (.reg [qo 32 (.bin .eql (.tmp 15) (.const (.int .u8 9))),qm 30 32] [0,4,7,8,15,30]))) (qC 30 (.exit 7) .skip)) (qS [qo 34 (.bin .eql (.tmp 15) (.const (.int .u8 10))),qm 33 34] [0,4,7,8,33] (qC 33 (.exit 8) .skip))))))))) (.exit 9))) (qS [qm 35 2,qx 36 104 [35]] [7,8] (.exit 0)))) (.seq (qS [qf 37 1 4,ql 38 37,qo 39 (.bin .leq (.const (.int .i64 (-1152921504606846976))) (.tmp 38)),qm 40 39,qt 40 (qf 41 1 4),
 qt 40 (ql 42 41),qt 40 (qc 43 .leq 42 1152921504606846975),qa 44 40 43,qx 45 104 [44]] [7,8] (.reg [qf 46 1 8,⟨none,none,.store 1 (.tmp 46) (.const (.int .i64 0))⟩] [7,8])) (.exit 0)))) (.seq (qS [qf 48 3 4,ql 49 48,qx 50 227 [49],qm 47 50,qe 51 47 0,qe 52 47 1,
 qo 9 (.alloc 70 [(.int .u8 0),(.int .i64 0),(.int .u64 0),(.string ⟨#[]⟩),(.slice none 0 0)]),
 qs 5 9 51,qm 10 52] [4,7,8,9,10] (qS [qm 53 10,qc 54 .eql 53 0,qm 55 54,qt 55 (qf 56 0 9),qt 55 (ql 57 56),
 qt 55 (qo 58 (.bin .eql (.tmp 57) (.const (.int .u8 5)))),qa 59 55 58,qm 60 59,qt 60 (qf 61 3 9),qt 60 (ql 62 61),qt 60 (qf 63 3 4),
 qt 60 (ql 64 63),qt 60 (qb 65 .eql 62 64),qa 66 60 65,qx 67 104 [66]] [7,8] (.reg [qf 68 3 8,⟨none,none,.store 1 (.tmp 68) (.const (.string ⟨#[]⟩))⟩] [7,8]))) (.exit 0)))) (.seq (qS [qf 69 2 4,ql 70 69,qo 71 (.bin .shl (.tmp 70) (.const (.int .u64 1))),
 qo 72 (.bin .shr (.tmp 71) (.const (.int .u64 53))),qo 73 (.bin .neq (.tmp 72) (.const (.int .u64 2047))),qx 74 104 [73]] [7,8] (.reg [qf 75 2 8,⟨none,none,.store 1 (.tmp 75) (.const (.int .u64 0))⟩] [7,8])) (.exit 0)))) (.seq (qS [qf 76 1 4,ql 77 76,qo 78 (.bin .leq (.const (.int .i64 0)) (.tmp 77)),qm 79 78,qt 79 (qf 80 1 4),qt 79 (ql 81 80),
 qt 79 (qc 82 .leq 81 255),qa 83 79 82,qx 84 104 [83]] [7,8] (.reg [qf 85 1 8,⟨none,none,.store 1 (.tmp 85) (.const (.int .i64 0))⟩] [7,8])) (.exit 0)))) (.reg [qm 86 0,qm 87 0,qn 88 87,qf 89 0 88,ql 90 89,qm 91 90,qu 91 (qf 92 3 4),qu 91 (ql 93 92),qu 91 (qo 94 (.lenS (.tmp 93))),
 qu 91 (qc 95 .gtr 94 255),qr 96 91 95,qn 97 86,qf 98 0 97,qs 1 98 96] [7,8]))) (qS [qf 99 3 8,⟨none,none,.store 1 (.tmp 99) (.const (.string ⟨#[]⟩))⟩] [7,8] (.exit 0)))) (.seq (qS [qm 100 0,qm 101 0,qn 102 101,qf 103 0 102,ql 104 103,qm 105 104,qu 105 (qf 106 4 4),qu 105 (ql 107 106),qu 105 (qL 108 107),
 qu 105 (qc 109 .gtr 108 255),qr 110 105 109,qn 111 100,qf 112 0 111,qs 1 112 110] [0,4,7,8] (.seq (qS [qf 113 4 4,ql 114 113,qL 115 114,qk 116 0] [0,7,8,114,115,116] (.block 10 (.loop (qS [qb 117 .lss 116 115] [0,7,8,114,115,116,117] (.seq (qC 117 .skip (.exit 10)) (.seq (.block 11 (qS [qi 118 5 114 116,qN 119 5 118,
 qo 12 (.alloc 70 [(.int .u8 0),(.int .i64 0),(.int .u64 0),(.string ⟨#[]⟩),(.slice none 0 0)]),
 qs 5 12 119] [0,7,8,12,114,115,116] (.reg [qm 120 7,qm 121 0,qN 122 5 12,qo 123 (.call 202 [(.tmp 121),(.tmp 122),(.const (.bool true))]),
 qo 124 (.max2 (.tmp 120) (.tmp 123)),qm 7 124] [0,7,8,114,115,116]))) (.reg [qc 125 .add 116 1,qm 116 125] [0,7,8,114,115,116]))))))) (qS [qm 126 7,qc 127 .add 126 1,qm 7 127] [7,8] (.reg [qf 128 4 8,⟨none,none,.store 1 (.tmp 128) (.const (.slice none 0 0))⟩] [7,8])))) (.exit 0)))) (qS [qo 129 (.call 104 [(.const (.bool false))])] [7,8] (.exit 0))))) (qS [qf 130 1 8,ql 131 130,qc 132 .eql 131 0,qm 133 132,qt 133 (qf 134 2 8),qt 133 (ql 135 134),
 qt 133 (qo 136 (.bin .eql (.tmp 135) (.const (.int .u64 0)))),qa 137 133 136,qm 138 137,qt 138 (qf 139 3 8),qt 138 (ql 140 139),
 qt 138 (qo 141 (.bin .eql (.tmp 140) (.const (.string ⟨#[]⟩)))),qa 142 138 141,qm 143 142,qt 143 (qf 144 4 8),qt 143 (ql 145 144),
 qt 143 (qL 146 145),qt 143 (qc 147 .eql 146 0),qa 148 143 147,qx 149 104 [148]] [7] (qS [qm 150 7,qm 6 150] [6] .ret))))))⟩)
theorem n202:F202.n=151:=rfl
theorem low202:ki Tryz.prog (kpO F202) (kQ []) 202=some F202:=by kernel_rfl
def F205:FIR:=laid (X:=⟨11,[.tmp 2],(qS [qB 1 72 0,qz 2 false] [1] (qS [qf 3 0 1,ql 4 3,qo 5 (.bin .eql (.tmp 4) (.const (.int .u8 2))),qm 6 5,qt 6 (qf 7 1 1),qt 6 (ql 8 7),
 qt 6 (qo 9 (.bin .eql (.tmp 8) (.const (.string ⟨#[115,117,112,101,114]⟩)))),qa 10 6 9,qm 2 10] [2] .ret))⟩)
theorem n205:F205.n=11:=rfl
theorem low205:ki Tryz.prog (kpO F205) (kQ []) 205=some F205:=by kernel_rfl
def F250:FIR:=laid (X:=⟨15,[.tmp 2],(qS [qk 2 0] [0] (.seq (qS [qm 3 0,qx 4 105 [3]] [0,4] (.block 0 (qS [qc 6 .eql 4 0,qm 5 6] [0,4,5] (qC 5 (qS [qk 2 5] [2] .ret) (qS [qc 8 .eql 4 1,qm 7 8] [0,7] (qC 7 (qS [qm 9 0,qm 10 0,qo 11 (.lenS (.tmp 10)),qc 12 .sub 11 1,qo 13 (.idxS (.tmp 9) (.tmp 12)),
 qo 14 (.bin .neq (.tmp 13) (.const (.int .u8 58)))] [14] (qC 14 (qS [qk 2 4] [2] .ret) .skip)) .skip)))))) (qS [qk 2 3] [2] .ret)))⟩)
theorem n250:F250.n=15:=rfl
theorem low250:ki Tryz.prog (kpO F250) (kQ []) 250=some F250:=by kernel_rfl
def F230:FIR:=laid (X:=⟨14,[.tmp 2],(qS [qB 1 72 0,qk 2 0] [1] (.seq (qS [qf 3 0 1,ql 4 3] [1,4] (.block 0 (qS [qo 6 (.bin .eql (.tmp 4) (.const (.int .u8 3))),qm 5 6] [1,4,5] (qC 5 (qS [qk 2 1] [2] .ret) (qS [qo 8 (.bin .eql (.tmp 4) (.const (.int .u8 5))),qm 7 8] [1,4,7] (qC 7 (qS [qk 2 2] [2] .ret) (qS [qo 10 (.bin .eql (.tmp 4) (.const (.int .u8 4))),qm 9 10] [1,9] (qC 9 (qS [qf 11 1 1,ql 12 11,qx 13 250 [12],qm 2 13] [2] .ret) .skip)))))))) (qS [qk 2 6] [2] .ret)))⟩)
theorem n230:F230.n=14:=rfl
theorem low230:ki Tryz.prog (kpO F230) (kQ []) 230=some F230:=by kernel_rfl
def F228:FIR:=laid (X:=⟨6,[.tmp 2],(qS [qk 2 0] [0] (qS [qm 3 0,qx 4 250 [3],qo 5 (.max2 (.const (.int .i64 4)) (.tmp 4)),qm 2 5] [2] .ret))⟩)
theorem n228:F228.n=6:=rfl
theorem low228:ki Tryz.prog (kpO F228) (kQ []) 228=some F228:=by kernel_rfl
def F229:FIR:=laid (X:=⟨6,[.tmp 2],(qS [qk 2 0] [0] (.seq (qS [qm 3 0,qx 4 250 [3],qc 5 .eql 4 4] [5] (qC 5 (qS [qk 2 5] [2] .ret) .skip)) (qS [qk 2 4] [2] .ret)))⟩)
theorem n229:F229.n=6:=rfl
theorem low229:ki Tryz.prog (kpO F229) (kQ []) 229=some F229:=by kernel_rfl
def F206:FIR:=laid (X:=⟨27,[.tmp 6],(qS [qB 4 72 1,qk 6 0] [0,2,4] (qS [qf 8 0 4,ql 9 8,qo 10 (.bin .neq (.tmp 9) (.const (.int .u8 9))),qm 11 10,qt 11 (qf 12 0 4),qt 11 (ql 13 12),
 qt 11 (qo 14 (.bin .neq (.tmp 13) (.const (.int .u8 6)))),qa 15 11 14,qx 16 104 [15]] [0,2,4] (qS [qm 17 0,qN 18 11 4,qx 19 169 [17,18],qm 7 19] [2,4,7] (.seq (qS [qN 20 11 4,qx 21 230 [20],qm 22 2,qb 23 .lss 21 22] [7,23] (qC 23 (.reg [qm 24 7,qc 25 .add 24 1,qm 7 25] [7]) .skip)) (qS [qm 26 7,qm 6 26] [6] .ret)))))⟩)
theorem n206:F206.n=27:=rfl
theorem low206:ki Tryz.prog (kpO F206) (kQ []) 206=some F206:=by kernel_rfl
def F170:FIR:=laid (X:=⟨15,[.tmp 6],(qS [qB 4 72 1,qk 6 0] [0,2,4] (qS [qN 7 11 4,qx 8 205 [7],qo 9 (.un .not (.tmp 8)),qx 10 104 [9]] [0,2,4] (qS [qm 11 0,qN 12 11 4,qm 13 2,qx 14 206 [11,12,13],qm 6 14] [6] .ret)))⟩)
theorem n170:F170.n=15:=rfl
theorem low170:ki Tryz.prog (kpO F170) (kQ []) 170=some F170:=by kernel_rfl
def F203:FIR:=laid (X:=⟨17,[.tmp 6],(qS [qB 4 72 1,qk 6 0] [0,2,4] (.seq (qS [qN 7 11 4,qx 8 205 [7]] [0,2,4,8] (qC 8 (qS [qm 9 0,qN 10 11 4,qx 11 169 [9,10],qm 6 11] [6] .ret) .skip)) (.seq (qD [qm 12 0,qN 13 11 4,qm 14 2,qx 15 228 [14],qx 16 170 [12,13,15],qm 6 16] [[0,1,2,3,4,5],[0,2,3,1,4,5]] [6]) .ret)))⟩)
theorem n203:F203.n=17:=rfl
theorem low203:ki Tryz.prog (kpO F203) (kQ [(3,[[0,1,2,3,4,5],[0,2,3,1,4,5]])]) 203=some F203:=by kernel_rfl
def F204:FIR:=laid (X:=⟨44,[.tmp 6],(qS [qk 6 0] [0,1,2] (qS [qm 11 1,qx 12 105 [11],qm 7 12] [0,1,2,7] (qS [qm 13 7,qm 14 2,qL 15 14,qb 16 .eql 13 15,qx 17 104 [16]] [0,1,2,7] (qS [qm 18 0,qm 19 0,qn 20 19,qf 21 0 20,ql 22 21,qm 23 22,qu 23 (qm 24 7),qu 23 (qc 25 .gtr 24 15),qr 26 23 25,qn 27 18,qf 28 0 27,
 qs 1 28 26] [0,1,2] (qS [qk 8 0] [0,1,2,8] (.seq (qS [qm 29 2,qL 30 29,qk 31 0] [0,1,8,29,30,31] (.block 0 (.loop (qS [qb 32 .lss 31 30] [0,1,8,29,30,31,32] (.seq (qC 32 .skip (.exit 0)) (.seq (.block 1 (qS [qi 33 11 29 31,qN 34 11 33,
 qo 10 (.alloc 72 [(.int .u8 0),(.string ⟨#[]⟩),(.int .u8 0),(.int .i64 0),(.int .u64 0),(.string ⟨#[]⟩),(.slice none 0 0),(.slice none 0 0),(.slice none 0 0),(.slice none 0 0),(.int .i64 0)]),
 qs 11 10 34] [0,1,8,10,29,30,31] (qD [qm 35 8,qm 36 0,qN 37 11 10,qm 38 1,qx 39 229 [38],qx 40 170 [36,37,39],qo 41 (.max2 (.tmp 35) (.tmp 40)),qm 8 41] [[0,1,2,3,4,5,6,7],[0,1,3,4,2,5,6,7]] [0,1,8,29,30,31]))) (.reg [qc 42 .add 31 1,qm 31 42] [0,1,8,29,30,31]))))))) (qS [qm 43 8,qm 6 43] [6] .ret)))))))⟩)
theorem n204:F204.n=44:=rfl
theorem low204:ki Tryz.prog (kpO F204) (kQ [(8,[[0,1,2,3,4,5,6,7],[0,1,3,4,2,5,6,7]])]) 204=some F204:=by kernel_rfl
def F107:FIR:=laid (X:=⟨37,[.tmp 4],(qS [qk 4 0] [0,1] (qS [qk 5 0] [0,1,5] (.seq (qS [qm 8 1,qL 9 8,qk 10 0] [0,1,5,8,9,10] (.block 0 (.loop (qS [qb 11 .lss 10 9] [0,1,5,8,9,10,11] (.seq (qC 11 .skip (.exit 0)) (.seq (.block 1 (qS [qm 12 10,qi 13 11 8 10,qN 14 11 13,
 qo 7 (.alloc 72 [(.int .u8 0),(.string ⟨#[]⟩),(.int .u8 0),(.int .i64 0),(.int .u64 0),(.string ⟨#[]⟩),(.slice none 0 0),(.slice none 0 0),(.slice none 0 0),(.slice none 0 0),(.int .i64 0)]),
 qm 6 12,qs 11 7 14] [0,1,5,6,7,8,9,10] (.seq (qS [qf 15 0 7,ql 16 15,qo 17 (.bin .eql (.tmp 16) (.const (.int .u8 9))),qm 18 17,qt 18 (qm 19 6),qt 18 (qm 20 1),
 qt 18 (qL 21 20),qt 18 (qc 22 .sub 21 1),qt 18 (qb 23 .eql 19 22),qa 24 18 23] [0,1,5,7,8,9,10,24] (qC 24 (qS [qm 25 5,qm 26 0,qN 27 11 7,qx 28 169 [26,27],qo 29 (.max2 (.tmp 25) (.tmp 28)),qm 5 29] [0,1,5,8,9,10] (.exit 1)) .skip)) (.reg [qm 30 5,qm 31 0,qN 32 11 7,qo 33 (.call 170 [(.tmp 31),(.tmp 32),(.const (.int .i64 1))]),
 qo 34 (.max2 (.tmp 30) (.tmp 33)),qm 5 34] [0,1,5,8,9,10])))) (.reg [qc 35 .add 10 1,qm 10 35] [0,1,5,8,9,10]))))))) (qS [qm 36 5,qm 4 36] [4] .ret))))⟩)
theorem n107:F107.n=37:=rfl
theorem low107:ki Tryz.prog (kpO F107) (kQ []) 107=some F107:=by kernel_rfl
def F169:FIR:=laid (X:=⟨257,[.tmp 4],(qS [qB 3 72 1,qk 4 0] [0,3] (qS [qN 12 11 3,
 qo 5 (.alloc 72 [(.int .u8 0),(.string ⟨#[]⟩),(.int .u8 0),(.int .i64 0),(.int .u64 0),(.string ⟨#[]⟩),(.slice none 0 0),(.slice none 0 0),(.slice none 0 0),(.slice none 0 0),(.int .i64 0)]),
 qs 11 5 12] [0,3,5] (qS [qf 13 9 5,⟨none,none,.store 1 (.tmp 13) (.const (.slice none 0 0))⟩] [0,3,5] (qS [qk 6 0] [0,3,5,6] (.seq (qS [qf 14 0 3,ql 15 14] [0,3,5,6,15] (.block 0 (qS [qo 18 (.bin .eql (.tmp 15) (.const (.int .u8 1))),qm 17 18] [0,3,5,6,15,17] (qC 17 (qS [qf 19 9 3,ql 20 19,qL 21 20,qc 22 .eql 21 0,qx 23 104 [22]] [0,3,5] (qS [qm 24 0,qf 25 2 3,qN 26 5 25,qo 27 (.call 202 [(.tmp 24),(.tmp 26),(.const (.bool false))]),qm 6 27] [5,6] (.reg [qo 28 (.build [(.int .u8 0),(.int .i64 0),(.int .u64 0),(.string ⟨#[]⟩),(.slice none 0 0)] []),
 qf 29 2 5,qs 5 29 28] [5,6]))) (qS [qo 31 (.bin .eql (.tmp 15) (.const (.int .u8 2))),qm 30 31] [0,3,5,6,15,30] (qC 30 (qS [qf 32 9 3,ql 33 32,qL 34 33,qc 35 .eql 34 0,qm 36 35,qt 36 (qf 37 1 3),qt 36 (ql 38 37),qt 36 (qx 39 161 [38]),qa 40 36 39,
 qx 41 104 [40]] [5,6] (.reg [qf 42 1 5,⟨none,none,.store 1 (.tmp 42) (.const (.string ⟨#[]⟩))⟩] [5,6])) (qS [qo 44 (.bin .eql (.tmp 15) (.const (.int .u8 3))),qm 43 44] [0,3,5,6,15,43] (qC 43 (qS [qm 45 0,qf 46 1 3,ql 47 46,qo 48 (.bslice 9 1 [(.string ⟨#[]⟩)] [(0,1,(.tmp 47))]),
 qo 49 (.call 106 [(.tmp 45),(.const (.int .i64 1)),(.tmp 48)])] [0,3,5] (qS [qf 50 1 5,⟨none,none,.store 1 (.tmp 50) (.const (.string ⟨#[]⟩))⟩] [0,3,5] (qS [qf 51 9 3,ql 52 51,qL 53 52,qc 54 .eql 53 1,qx 55 104 [54]] [0,3,5] (.reg [qm 56 0,qf 57 9 3,ql 58 57,qo 59 (.idxL 11 (.tmp 58) (.const (.int .i64 0))),qN 60 11 59,
 qo 61 (.call 170 [(.tmp 56),(.tmp 60),(.const (.int .i64 1))]),qm 6 61] [5,6])))) (qS [qo 63 (.bin .eql (.tmp 15) (.const (.int .u8 4))),qm 62 63] [0,3,5,6,15,62] (qC 62 (qS [qf 64 9 3,ql 65 64,qL 66 65,qc 67 .gtr 66 0,qm 68 67,qt 68 (qf 69 1 3),qt 68 (ql 70 69),qt 68 (qx 71 105 [70]),
 qt 68 (qc 72 .geq 71 0),qa 73 68 72,qx 74 104 [73]] [0,3,5] (qS [qf 75 1 5,⟨none,none,.store 1 (.tmp 75) (.const (.string ⟨#[]⟩))⟩] [0,3,5] (qD [qm 76 0,qf 77 9 3,ql 78 77,qo 79 (.idxL 11 (.tmp 78) (.const (.int .i64 0))),qN 80 11 79,qf 81 1 3,ql 82 81,
 qx 83 203 [76,80,82],qm 84 0,qf 85 1 3,ql 86 85,qf 87 9 3,ql 88 87,qo 89 (.slcL 11 (.tmp 88) (some (.const (.int .i64 1))) none none),
 qx 90 204 [84,86,89],qo 91 (.max2 (.tmp 83) (.tmp 90)),qm 6 91] [[0,1,2,3,4,5,6,7,8,9,10,11,12,13,14,15,16],[0,1,2,3,4,5,6,8,9,10,7,11,12,13,14,15,16],[0,1,2,3,4,5,6,8,9,10,11,12,7,13,14,15,16],[0,1,2,3,4,5,6,7,8,9,11,12,10,13,14,15,16],[0,1,2,3,4,5,6,8,9,11,12,7,10,13,14,15,16],[0,1,2,3,4,5,6,8,9,11,12,10,7,13,14,15,16]] [5,6]))) (qS [qo 93 (.bin .eql (.tmp 15) (.const (.int .u8 6))),qm 92 93] [0,3,5,6,15,92] (qC 92 (qS [qf 94 1 5,⟨none,none,.store 1 (.tmp 94) (.const (.string ⟨#[]⟩))⟩] [0,3,5] (.reg [qm 95 0,qf 96 1 3,ql 97 96,qf 98 9 3,ql 99 98,qx 100 204 [95,97,99],qm 6 100] [5,6])) (qS [qo 102 (.bin .eql (.tmp 15) (.const (.int .u8 5))),qm 101 102] [0,3,5,6,15,101] (qC 101 (qS [qf 103 9 3,ql 104 103,qL 105 104,qc 106 .gtr 105 2,qx 107 104 [106]] [0,3,5,6] (qS [qm 108 0,qm 109 0,qn 110 109,qf 111 0 110,ql 112 111,qm 113 112,qu 113 (qf 114 9 3),qu 113 (ql 115 114),qu 113 (qL 116 115),
 qu 113 (qc 117 .gtr 116 256),qr 118 113 117,qn 119 108,qf 120 0 119,qs 1 120 118] [0,3,5,6] (.seq (qS [qf 121 9 3,ql 122 121,qo 123 (.slcL 11 (.tmp 122) (some (.const (.int .i64 1))) none none),qL 124 123,qk 125 0] [0,3,5,6,123,124,125] (.block 1 (.loop (qS [qb 126 .lss 125 124] [0,3,5,6,123,124,125,126] (.seq (qC 126 .skip (.exit 1)) (.seq (.block 2 (qS [qi 127 11 123 125,qN 128 11 127,
 qo 8 (.alloc 72 [(.int .u8 0),(.string ⟨#[]⟩),(.int .u8 0),(.int .i64 0),(.int .u64 0),(.string ⟨#[]⟩),(.slice none 0 0),(.slice none 0 0),(.slice none 0 0),(.slice none 0 0),(.int .i64 0)]),
 qs 11 8 128] [0,3,5,6,8,123,124,125] (qS [qf 129 0 8,ql 130 129,qo 131 (.bin .eql (.tmp 130) (.const (.int .u8 6))),qx 132 104 [131]] [0,3,5,6,8,123,124,125] (.reg [qm 133 6,qm 134 0,qN 135 11 8,qx 136 169 [134,135],qo 137 (.max2 (.tmp 133) (.tmp 136)),qm 6 137] [0,3,5,6,123,124,125])))) (.reg [qc 138 .add 125 1,qm 125 138] [0,3,5,6,123,124,125]))))))) (qD [qm 139 6,qm 140 0,qf 141 9 3,ql 142 141,qo 143 (.idxL 11 (.tmp 142) (.const (.int .i64 0))),qN 144 11 143,qf 145 9 3,
 ql 146 145,qo 147 (.idxL 11 (.tmp 146) (.const (.int .i64 1))),qf 148 1 147,ql 149 148,qx 150 203 [140,144,149],
 qo 151 (.max2 (.tmp 139) (.tmp 150)),qm 6 151] [[0,1,2,3,4,5,6,7,8,9,10,11,12,13]] [5,6])))) (qS [qo 153 (.bin .eql (.tmp 15) (.const (.int .u8 7))),qm 152 153] [0,3,5,6,15,152] (qC 152 (qS [qm 154 0,qf 155 7 3,ql 156 155,qo 157 (.call 106 [(.tmp 154),(.const (.int .i64 15)),(.tmp 156)])] [0,3,5] (qS [qm 158 0,qf 159 8 3,ql 160 159,qo 161 (.call 106 [(.tmp 158),(.const (.int .i64 63)),(.tmp 160)])] [0,3,5] (qS [qf 162 7 5,⟨none,none,.store 1 (.tmp 162) (.const (.slice none 0 0))⟩,qf 163 8 5,
 ⟨none,none,.store 1 (.tmp 163) (.const (.slice none 0 0))⟩] [0,3,5] (.reg [qm 164 0,qf 165 9 3,ql 166 165,qx 167 107 [164,166],qc 168 .add 167 1,qm 6 168] [5,6])))) (qS [qo 170 (.bin .eql (.tmp 15) (.const (.int .u8 8))),qm 169 170] [0,3,5,6,15,169] (qC 169 (qS [qm 171 0,qm 172 0,qn 173 172,qf 174 0 173,ql 175 174,qm 176 175,qu 176 (qf 177 9 3),qu 176 (ql 178 177),qu 176 (qL 179 178),
 qu 176 (qc 180 .gtr 179 255),qr 181 176 180,qn 182 171,qf 183 0 182,qs 1 183 181] [0,3,5,6] (.seq (qS [qf 184 9 3,ql 185 184,qL 186 185,qk 187 0] [0,5,6,185,186,187] (.block 3 (.loop (qS [qb 188 .lss 187 186] [0,5,6,185,186,187,188] (.seq (qC 188 .skip (.exit 3)) (.seq (.block 4 (qS [qi 189 11 185 187,qN 190 11 189,
 qo 10 (.alloc 72 [(.int .u8 0),(.string ⟨#[]⟩),(.int .u8 0),(.int .i64 0),(.int .u64 0),(.string ⟨#[]⟩),(.slice none 0 0),(.slice none 0 0),(.slice none 0 0),(.slice none 0 0),(.int .i64 0)]),
 qs 11 10 190] [0,5,6,10,185,186,187] (.reg [qm 191 6,qm 192 0,qN 193 11 10,qo 194 (.call 170 [(.tmp 192),(.tmp 193),(.const (.int .i64 1))]),
 qo 195 (.max2 (.tmp 191) (.tmp 194)),qm 6 195] [0,5,6,185,186,187]))) (.reg [qc 196 .add 187 1,qm 187 196] [0,5,6,185,186,187]))))))) (.reg [qm 197 6,qc 198 .add 197 1,qm 6 198] [5,6]))) (qS [qo 200 (.bin .eql (.tmp 15) (.const (.int .u8 9))),qm 199 200] [0,3,5,6,199] (qC 199 (qS [qf 201 9 3,ql 202 201,qL 203 202,qc 204 .eql 203 1,qx 205 104 [204]] [0,3,5] (.reg [qm 206 0,qf 207 9 3,ql 208 207,qo 209 (.idxL 11 (.tmp 208) (.const (.int .i64 0))),qN 210 11 209,
 qo 211 (.call 170 [(.tmp 206),(.tmp 210),(.const (.int .i64 1))]),qm 6 211] [5,6])) (.reg [qo 16 (.call 104 [(.const (.bool false))])] [5,6]))))))))))))))))))))) (qS [qf 212 2 5,qN 213 5 212,
 qo 11 (.alloc 70 [(.int .u8 0),(.int .i64 0),(.int .u64 0),(.string ⟨#[]⟩),(.slice none 0 0)]),
 qs 5 11 213] [5,6,11] (qS [qf 214 1 5,ql 215 214,qo 216 (.bin .eql (.tmp 215) (.const (.string ⟨#[]⟩))),qm 217 216,qt 217 (qf 218 7 5),
 qt 217 (ql 219 218),qt 217 (qL 220 219),qt 217 (qc 221 .eql 220 0),qa 222 217 221,qm 223 222,qt 223 (qf 224 8 5),qt 223 (ql 225 224),
 qt 223 (qL 226 225),qt 223 (qc 227 .eql 226 0),qa 228 223 227,qm 229 228,qt 229 (qf 230 0 11),qt 229 (ql 231 230),
 qt 229 (qo 232 (.bin .eql (.tmp 231) (.const (.int .u8 0)))),qa 233 229 232,qm 234 233,qt 234 (qf 235 1 11),qt 234 (ql 236 235),
 qt 234 (qc 237 .eql 236 0),qa 238 234 237,qm 239 238,qt 239 (qf 240 2 11),qt 239 (ql 241 240),
 qt 239 (qo 242 (.bin .eql (.tmp 241) (.const (.int .u64 0)))),qa 243 239 242,qm 244 243,qt 244 (qf 245 3 11),qt 244 (ql 246 245),
 qt 244 (qo 247 (.bin .eql (.tmp 246) (.const (.string ⟨#[]⟩)))),qa 248 244 247,qm 249 248,qt 249 (qf 250 4 11),qt 249 (ql 251 250),
 qt 249 (qL 252 251),qt 249 (qc 253 .eql 252 0),qa 254 249 253,qx 255 104 [254]] [6] (qS [qm 256 6,qm 4 256] [4] .ret))))))))⟩)
theorem n169:F169.n=257:=rfl
theorem low169:ki Tryz.prog (kQ [(0,[0,3]),(1,[0,3,5]),(2,[0,3,5]),(3,[0,3,5,6]),(4,[0,3,5,6,15]),(5,[5,6]),(6,[0,3,5,6,15,17]),(7,[0,3,5]),(8,[5,6]),(9,[5,6]),(10,[0,3,5,6,15,30]),(11,[5,6]),(12,[5,6]),(13,[0,3,5,6,15,43]),(14,[0,3,5]),(15,[0,3,5]),(16,[0,3,5]),(17,[5,6]),(18,[0,3,5,6,15,62]),(19,[0,3,5]),(20,[0,3,5]),(21,[5,6]),(22,[0,3,5,6,15,92]),(23,[0,3,5]),(24,[5,6]),(25,[0,3,5,6,15,101]),(26,[0,3,5,6]),(27,[0,3,5,6]),(28,[0,3,5,6,123,124,125]),(29,[0,3,5,6,123,124,125,126]),(30,[0,3,5,6,8,123,124,125]),(31,[0,3,5,6,8,123,124,125]),(32,[0,3,5,6,123,124,125]),(33,[0,3,5,6,123,124,125]),(34,[5,6]),(35,[0,3,5,6,15,152]),(36,[0,3,5]),(37,[0,3,5]),(38,[0,3,5]),(39,[5,6]),(40,[0,3,5,6,15,169]),(41,[0,3,5,6]),(42,[0,5,6,185,186,187]),(43,[0,5,6,185,186,187,188]),(44,[0,5,6,10,185,186,187]),(45,[0,5,6,185,186,187]),(46,[0,5,6,185,186,187]),(47,[5,6]),(48,[0,3,5,6,199]),(49,[0,3,5]),(50,[5,6]),(51,[5,6,11]),(52,[6]),(53,[4])]) (kQ [(21,[[0,1,2,3,4,5,6,7,8,9,10,11,12,13,14,15,16],[0,1,2,3,4,5,6,8,9,10,7,11,12,13,14,15,16],[0,1,2,3,4,5,6,8,9,10,11,12,7,13,14,15,16],[0,1,2,3,4,5,6,7,8,9,11,12,10,13,14,15,16],[0,1,2,3,4,5,6,8,9,11,12,7,10,13,14,15,16],[0,1,2,3,4,5,6,8,9,11,12,10,7,13,14,15,16]]),(34,[[0,1,2,3,4,5,6,7,8,9,10,11,12,13]])]) 169=some F169:=by kernel_rfl
def F102:DIR:=laidA (X:=⟨20,[.cell1 2],[(.reg [qo 2 (.alloc 44 [(.int .i64 0)])] [0,2]),(.reg [qo 4 (.build [(.bool false),(.bool false)] []),qB 5 197 4,qm 3 5] [0,2,3])],⟨6,160,[(.tmp 2)]⟩,(qS [qm 7 0,qm 8 3,qo 9 (.callv (.tmp 7) [(.tmp 8)])] [2,3] (.seq (.block 0 (qS [qm 11 3,qn 12 11,qf 13 0 12,ql 14 13,qm 10 14] [2,3,10] (qC 10 (qS [⟨none,none,.store 1 (.tmp 2) (.const (.int .i64 151))⟩] [2] .ret) (qS [qm 16 3,qn 17 16,qf 18 1 17,ql 19 18,qm 15 19] [2,15] (qC 15 (qS [⟨none,none,.store 1 (.tmp 2) (.const (.int .i64 152))⟩] [2] .ret) .skip))))) (qS [⟨none,none,.store 1 (.tmp 2) (.const (.int .i64 0))⟩] [2] .ret)))⟩)
theorem n102:F102.n=20:=rfl
theorem low102:lowFD Tryz.prog (kQ [(0,[0,2]),(1,[0,2,3]),(2,[0,2,3]),(3,[2,3]),(4,[2,3,10]),(5,[2]),(6,[2,15]),(7,[2]),(8,[2])]) (kQ []) 102=some F102:=by kernel_rfl
def F47:FIR:=laid (X:=⟨5,[.tmp 2],(qS [qB 1 25 0,qk 2 0] [1] (qS [qo 3 (.clos (.func 103) [] [(.tmp 1)]),qx 4 102 [3],qm 2 4] [2] .ret))⟩)
theorem n47:F47.n=5:=rfl
theorem low47:ki Tryz.prog (kpO F47) (kQ []) 47=some F47:=by kernel_rfl
def F103:FIR:=laid (X:=⟨37,[],(.seq (qD [qf 3 0 1,ql 4 3,qx 5 105 [4],qf 6 1 1,ql 7 6,qL 8 7,qb 9 .eql 5 8,qm 10 9,qt 10 (qf 11 3 1),qt 10 (ql 12 11),
 qt 10 (qo 13 (.bin .leq (.const (.int .i64 0)) (.tmp 12))),qa 14 10 13,qm 15 14,qt 15 (qf 16 3 1),qt 15 (ql 17 16),
 qt 15 (qc 18 .leq 17 255),qa 19 15 18,qx 20 104 [19]] [[0,1,2,3,4,5,6,7,8,9,10,11,12,13,14,15,16,17],[0,1,3,4,2,5,6,7,8,9,10,11,12,13,14,15,16,17]] [0,1]) (qS [qm 21 0,qf 22 1 1,ql 23 22,qo 24 (.call 106 [(.tmp 21),(.const (.int .i64 15)),(.tmp 23)])] [0,1] (qS [qm 25 0,qf 26 2 1,ql 27 26,qo 28 (.call 106 [(.tmp 25),(.const (.int .i64 63)),(.tmp 27)])] [0,1] (.reg [qm 29 0,qm 30 0,qf 31 4 1,ql 32 31,qx 33 107 [30,32],qc 34 .gtr 33 40,qn 35 29,qf 36 1 35,qs 1 36 34] []))))⟩)
theorem n103:F103.n=37:=rfl
theorem low103:ki Tryz.prog (kpO F103) (kQ [(0,[[0,1,2,3,4,5,6,7,8,9,10,11,12,13,14,15,16,17],[0,1,3,4,2,5,6,7,8,9,10,11,12,13,14,15,16,17]])]) 103=some F103:=by kernel_rfl
end Go.Proofs.YtijnokbblmbpkaaGreatDoor
namespace Go.Proofs.YtijnokbblmbpkaaGreatDoor
open Go Go.V
set_option maxHeartbeats 3200000
set_option maxRecDepth 100000
def superKS(k:Nat)(s:ByteArray):Bool:=decide (k=2)&&decide (kF s=[115,117,112,101,114])
def levelKS(k:Nat)(s:ByteArray):Nat:=if k=3 then 1 else if k=5 then 2 else if k=4 then bindS s else 6
theorem super_spec(k:Nat)(s:ByteArray)(c2 c3 c4 c5 c6 c7 c8 c9 c10:Value):Fun Tryz.prog 205 [.agg #[cv k,.string s,c2,c3,c4,c5,c6,c7,c8,c9,c10]] [] (fun v Post=>v=.bool (superKS k s)/\Post=[]):=by
 refine Fun.intro low205 (by simp[n205]) ?_;refine GOH ?_;refine kd Zr (fun q=>?_);simp only[Value.cells];refine GOH ?_;by_cases h1:k=2
 ·rw[show decide ((k:Int)=2)=true from Zt Zo];refine GOH ?_;refine kG (Post:=[]) (.inr rfl) (.tmp Zr .nil) ⟨?_,rfl⟩ ZI;have:(s=⟨#[115,117,112,101,114]⟩)↔kF s=[115,117,112,101,114]:=⟨fun e=>by rw[e];rfl,fun e=>jX (by rw[e];rfl)⟩;simp[tup,superKS,h1,this]
 ·rw[show decide ((k:Int)=2)=false from Zf Zo];refine GOH ?_;refine kG (Post:=[]) (.inr rfl) (.tmp Zr .nil) ⟨by simp[tup,superKS,h1],rfl⟩ ZI
theorem bind_spec(s:ByteArray)(hs:s.size<=140737488355328):Fun Tryz.prog 250 [.string s] [] (fun v Post=>v=vi (bindS s)/\Post=[]):=by
 refine Fun.intro low250 (by simp[n250]) ?_;have hlen:=jH s;refine GOH ?_;refine kV (arity_spec s hs) Zr ?_;have hb:bindS s=if j7 s=0 then 5 else if j7 s=1/\(kF s).getLast?≠some 58 then 4 else 3:=rfl;have hne:j7 s=1->0 < s.size:=fun h=>by
  rcases Nat.eq_zero_or_pos s.size with h2|h2
  ·have:kF s=[]:=List.length_eq_zero_iff.1 Zo;unfold j7 at h;rw[this]at h;exact absurd h Zd
  ·exact h2
 obtain⟨z,hz⟩:∃z,j7 s=z:=⟨_,rfl⟩;rw[hz]at hb hne|-;refine GOH ?_;by_cases h0:z=0
 ·rw[Zt h0];rw[if_pos h0]at hb;exact zBT
 rw[Zf h0];rw[if_neg h0]at hb;refine GOH ?_;by_cases h1:z=1;rotate_left
 ·rw[Zf h1];rw[if_neg (fun h=>h1 h.1)]at hb;exact zBT
 rw[Zt h1];have hpos:=hne h1;obtain⟨c,hc,hc2⟩:=bytesN_ex (s:=s) (i:=s.size - 1) Zo;have hlast:(kF s).getLast? =some c.toNat:=by rw[List.getLast?_eq_getElem?,hlen];exact hc2
 refine GOH ?_;refine st_idxS Zr Zr (j:=s.size - 1) Zo hc ?_;refine GOH ?_;by_cases h58:c.toNat=58
 ·rw[show decide ((c.toNat:Int)=58)=true from Zt Zo];rw[if_neg (fun h=>h.2 (by rw[hlast,h58]))]at hb;exact zBT
 ·rw[show decide ((c.toNat:Int)=58)=false from Zf Zo];rw[if_pos ⟨h1,by rw[hlast];simpa using h58⟩]at hb;exact zBT
theorem level_spec(k:Nat)(s:ByteArray)(hs:s.size<=140737488355328)(c2 c3 c4 c5 c6 c7 c8 c9 c10:Value):Fun Tryz.prog 230 [.agg #[cv k,.string s,c2,c3,c4,c5,c6,c7,c8,c9,c10]] [] (fun v Post=>v=vi (levelKS k s)/\Post=[]):=by
 refine Fun.intro low230 (by simp[n230]) ?_;refine GOH ?_;refine kd Zr (fun q=>?_);simp only[Value.cells];refine GOH ?_;by_cases h3:k=3
 ·rw[show decide ((k:Int)=3)=true from Zt Zo];refine GOH ?_;refine kG (Post:=[]) (.inr rfl) (.tmp Zr .nil) ⟨by simp[tup,levelKS,h3],rfl⟩ ZI
 rw[show decide ((k:Int)=3)=false from Zf Zo];refine GOH ?_;by_cases h5:k=5
 ·rw[show decide ((k:Int)=5)=true from Zt Zo];refine GOH ?_;refine kG (Post:=[]) (.inr rfl) (.tmp Zr .nil) ⟨by simp[tup,levelKS,h5],rfl⟩ ZI
 rw[show decide ((k:Int)=5)=false from Zf Zo];refine GOH ?_;by_cases h4:k=4
 ·rw[show decide ((k:Int)=4)=true from Zt Zo];refine GOH ?_;refine kV (bind_spec s hs) Zr ?_;refine GOH ?_;refine kG (Post:=[]) (.inr rfl) (.tmp Zr .nil) ⟨by simp[tup,levelKS,h4],rfl⟩ ZI
 rw[show decide ((k:Int)=4)=false from Zf Zo];refine GOH ?_;refine kG (Post:=[]) (.inr rfl) (.tmp Zr .nil) ⟨by simp[tup,levelKS,h3,h4,h5],rfl⟩ ZI
theorem receiver_spec(s:ByteArray)(hs:s.size<=140737488355328):Fun Tryz.prog 228 [.string s] [] (fun v Post=>v=vi (recvS s)/\Post=[]):=by
 refine Fun.intro low228 (by simp[n228]) ?_;refine GOH ?_;refine kV (bind_spec s hs) Zr ?_;refine GOH ?_;refine kG (Post:=[]) (.inr rfl) (.tmp Zr .nil) ⟨?_,rfl⟩ ZI;simp only[tup,recvS,Value.int.injEq,true_and];split <;> omega
theorem argument_spec(s:ByteArray)(hs:s.size<=140737488355328):Fun Tryz.prog 229 [.string s] [] (fun v Post=>v=vi (argS s)/\Post=[]):=by
 refine Fun.intro low229 (by simp[n229]) ?_;refine GOH ?_;refine kV (bind_spec s hs) Zr ?_;refine GOH ?_;by_cases h:bindS s=4
 ·rw[show decide (((bindS s:Nat):Int)=4)=true from Zt Zo];exact zE1
 ·rw[show decide (((bindS s:Nat):Int)=4)=false from Zf Zo];exact zE1
end Go.Proofs.YtijnokbblmbpkaaGreatDoor
namespace Go.Proofs.YtijnokbblmbpkaaGreatDoor
open Go Go.V
set_option maxRecDepth 100000
def F227:FIR:=laid (X:=⟨31,[.cellN 2 5,.tmp 3],(qS [qo 2 (.alloc 70 [(.int .u8 0),(.int .i64 0),(.int .u64 0),(.string ⟨#[]⟩),(.slice none 0 0)]),
 qk 3 0] [0,2] (qS [qm 7 0,qo 8 (.call 247 [(.tmp 7),(.const (.string ⟨#[45]⟩))]),qm 6 8,qe 9 6 0,qe 10 6 1,qm 0 9,qm 4 10] [0,2,4] (qS [qm 11 0,qx 12 248 [11],qm 5 12] [0,2,4,5] (.seq (qS [qm 13 0,qo 14 (.bin .eql (.tmp 13) (.const (.string ⟨#[]⟩))),qm 15 14,qu 15 (qm 16 5),qu 15 (qo 17 (.lenS (.tmp 16))),
 qu 15 (qc 18 .gtr 17 255),qr 19 15 18,qm 20 19,qu 20 (qm 21 0),qu 20 (qo 22 (.call 193 [(.tmp 21),(.const (.int .i64 0)),(.func 197)])),
 qu 20 (qm 23 0),qu 20 (qo 24 (.lenS (.tmp 23))),qu 20 (qb 25 .neq 22 24),qr 26 20 25] [2,4,5,26] (qC 26 (qS [qo 27 (.build [(.int .u8 0),(.int .i64 0),(.int .u64 0),(.string ⟨#[]⟩),(.slice none 0 0)] []),
 qs 5 2 27,qk 3 144] [2,3] .ret) .skip)) (qS [qm 28 5,qm 29 4,qx 30 249 [28,29],qs 5 2 30,qk 3 0] [2,3] .ret)))))⟩)
theorem n227:F227.n=31:=rfl
theorem low227:ki Tryz.prog (kpO F227) (kQ []) 227=some F227:=by kernel_rfl
def F247:FIR:=laid (X:=⟨11,[.tmp 4,.tmp 5],(qS [qo 4 (.mv (.const (.string ⟨#[]⟩))),qz 5 false] [0,1] (qS [qm 6 0,qm 7 1,qx 8 264 [6,7],qe 9 8 0,qe 10 8 1,qm 4 9,qm 5 10] [4,5] .ret))⟩)
theorem n247:F247.n=11:=rfl
theorem low247:ki Tryz.prog (kpO F247) (kQ []) 247=some F247:=by kernel_rfl
def F264:FIR:=laid (X:=⟨15,[.tmp 4,.tmp 5],(qS [qo 4 (.mv (.const (.string ⟨#[]⟩))),qz 5 false] [0,1] (.seq (qS [qm 6 0,qm 7 1,qx 8 281 [6,7],qo 9 (.un .not (.tmp 8))] [0,1,9] (qC 9 (qS [qm 10 0,qm 4 10,qz 5 false] [4,5] .ret) .skip)) (qS [qm 11 0,qm 12 1,qo 13 (.lenS (.tmp 12)),qo 14 (.slcS (.tmp 11) (some (.tmp 13)) none),qm 4 14,qz 5 true] [4,5] .ret)))⟩)
theorem n264:F264.n=15:=rfl
theorem low264:ki Tryz.prog (kpO F264) (kQ []) 264=some F264:=by kernel_rfl
def F281:FIR:=laid (X:=⟨18,[.tmp 4],(qS [qz 4 false] [0,1] (qS [qm 5 0,qo 6 (.lenS (.tmp 5)),qm 7 1,qo 8 (.lenS (.tmp 7)),qb 9 .geq 6 8,qm 10 9,qt 10 (qm 11 0),qt 10 (qm 12 1),
 qt 10 (qo 13 (.lenS (.tmp 12))),qt 10 (qo 14 (.slcS (.tmp 11) none (some (.tmp 13)))),qt 10 (qm 15 1),qt 10 (qb 16 .eql 14 15),qa 17 10 16,qm 4 17] [4] .ret))⟩)
theorem n281:F281.n=18:=rfl
theorem low281:ki Tryz.prog (kpO F281) (kQ []) 281=some F281:=by kernel_rfl
def F248:FIR:=laid (X:=⟨13,[.tmp 2],(qS [qo 2 (.mv (.const (.string ⟨#[]⟩)))] [0] (qS [qm 4 0,qo 5 (.call 265 [(.tmp 4),(.const (.string ⟨#[48]⟩))]),qm 3 5] [0,3] (.seq (qS [qm 6 3,qo 7 (.bin .eql (.tmp 6) (.const (.string ⟨#[]⟩))),qm 8 7,qt 8 (qm 9 0),
 qt 8 (qo 10 (.bin .neq (.tmp 9) (.const (.string ⟨#[]⟩)))),qa 11 8 10] [3,11] (qC 11 (qS [qo 2 (.mv (.const (.string ⟨#[48]⟩)))] [2] .ret) .skip)) (qS [qm 12 3,qm 2 12] [2] .ret))))⟩)
theorem n248:F248.n=13:=rfl
theorem low248:ki Tryz.prog (kpO F248) (kQ []) 248=some F248:=by kernel_rfl
def F265:FIR:=laid (X:=⟨37,[.tmp 4],(qS [qo 4 (.mv (.const (.string ⟨#[]⟩)))] [0,1] (.seq (qS [qm 7 0,qo 8 (.bin .eql (.tmp 7) (.const (.string ⟨#[]⟩))),qm 9 8,qu 9 (qm 10 1),
 qu 9 (qo 11 (.bin .eql (.tmp 10) (.const (.string ⟨#[]⟩)))),qr 12 9 11] [0,1,12] (qC 12 (qS [qm 13 0,qm 4 13] [4] .ret) .skip)) (.seq (qS [qm 14 1,qo 15 (.lenS (.tmp 14)),qc 16 .eql 15 1,qm 17 16,qt 17 (qm 18 1),
 qt 17 (qo 19 (.idxS (.tmp 18) (.const (.int .i64 0)))),qt 17 (qo 20 (.bin .lss (.tmp 19) (.const (.int .u8 128)))),qa 21 17 20] [0,1,21] (qC 21 (qS [qm 22 0,qm 23 1,qo 24 (.idxS (.tmp 23) (.const (.int .i64 0))),qx 25 282 [22,24],qm 4 25] [4] .ret) .skip)) (.seq (qS [qm 27 1,qx 28 283 [27],qm 26 28,qe 29 26 0,qe 30 26 1,qo 5 (.alloc 351 (rep 256 [(.bool false)])),qs 256 5 29,qm 6 30] [0,1,5,6] (qS [qm 31 6] [0,1,5,31] (qC 31 (qS [qm 32 0,qx 33 284 [32,5],qm 4 33] [4] .ret) .skip))) (qS [qm 34 0,qm 35 1,qx 36 285 [34,35],qm 4 36] [4] .ret)))))⟩)
theorem n265:F265.n=37:=rfl
theorem low265:ki Tryz.prog (kpO F265) (kQ []) 265=some F265:=by kernel_rfl
def F282:FIR:=laid (X:=⟨17,[.tmp 4],(qS [qo 4 (.mv (.const (.string ⟨#[]⟩)))] [0,1] (.seq (.block 0 (.loop (.seq (qS [qm 5 0,qo 6 (.lenS (.tmp 5)),qc 7 .gtr 6 0,qm 8 7,qt 8 (qm 9 0),qt 8 (qo 10 (.idxS (.tmp 9) (.const (.int .i64 0)))),
 qt 8 (qm 11 1),qt 8 (qb 12 .eql 10 11),qa 13 8 12] [0,1,13] (qC 13 .skip (.exit 0))) (.block 1 (.reg [qm 14 0,qo 15 (.slcS (.tmp 14) (some (.const (.int .i64 1))) none),qm 0 15] [0,1]))))) (qS [qm 16 0,qm 4 16] [4] .ret)))⟩)
theorem n282:F282.n=17:=rfl
theorem low282:ki Tryz.prog (kpO F282) (kQ []) 282=some F282:=by kernel_rfl
def F249:FIR:=laid (X:=⟨35,[.cellN 4 5],(qS [qo 4 (.alloc 70 [(.int .u8 0),(.int .i64 0),(.int .u64 0),(.string ⟨#[]⟩),(.slice none 0 0)])] [0,1,4] (.seq (qS [qm 7 0,qo 8 (.lenS (.tmp 7)),qc 9 .leq 8 19] [0,1,4,9] (qC 9 (qS [qm 11 0,qo 12 (.call 266 [(.tmp 11),(.const (.int .i64 10)),(.const (.int .i64 64))]),qm 10 12,qe 13 10 0,
 qe 14 10 1,qm 5 13,qm 6 14] [0,1,4,5,6] (.seq (qS [qm 15 1] [0,1,4,5,6,15] (qC 15 (.reg [qm 16 5,qo 17 (.un .neg (.tmp 16)),qm 5 17] [0,1,4,5,6]) .skip)) (qS [qm 18 6,qo 19 (.eqnil false .iface (.tmp 18)),qm 20 19,qt 20 (qm 21 5),
 qt 20 (qo 22 (.bin .leq (.const (.int .i64 (-1152921504606846976))) (.tmp 21))),qa 23 20 22,qm 24 23,qt 24 (qm 25 5),
 qt 24 (qc 26 .leq 25 1152921504606846975),qa 27 24 26] [0,1,4,5,27] (qC 27 (qS [qm 28 5,
 qo 29 (.build [(.int .u8 0),(.int .i64 0),(.int .u64 0),(.string ⟨#[]⟩),(.slice none 0 0)] [(0,1,(.const (.int .u8 4))),(1,1,(.tmp 28))]),
 qs 5 4 29] [4] .ret) .skip)))) .skip)) (.seq (qS [qm 30 1] [0,4,30] (qC 30 (.reg [qm 31 0,qo 32 (.bin .add (.const (.string ⟨#[45]⟩)) (.tmp 31)),qm 0 32] [0,4]) .skip)) (qS [qm 33 0,
 qo 34 (.build [(.int .u8 0),(.int .i64 0),(.int .u64 0),(.string ⟨#[]⟩),(.slice none 0 0)] [(0,1,(.const (.int .u8 5))),(3,1,(.tmp 33))]),
 qs 5 4 34] [4] .ret))))⟩)
theorem n249:F249.n=35:=rfl
theorem low249:ki Tryz.prog (kpO F249) (kQ []) 249=some F249:=by kernel_rfl
end Go.Proofs.YtijnokbblmbpkaaGreatDoor
namespace Go.Proofs.YtijnokbblmbpkaaGreatDoor
open Go Go.V Go.Shelf
set_option maxHeartbeats 3200000
set_option maxRecDepth 100000
shelf_lay LaysC.n174 Nm 174 at Tryz as Tryz.sl174
def ErA(A:List kC):Prop:=∃ev,kC.cell (Tryz.sl174_ren.g 16) 0 ev∈A/\(ev=.nilIface∨∃te pe,ev=.iface te pe)
theorem parseM_ok:∀(l:List UInt8) (acc k:Nat),(∀c∈l,digB c.toNat=true)->acc < 10 ^ k->k+l.length<=19->Lib.parseUintM (2 ^ 64 - 1) acc l=.ok ((l.map UInt8.toNat).foldl (fun n c=>n*10+(c - 48)) acc):=by
 intro l
 induction l with
 |nil=>intro acc k _ _ _;rfl
 |cons c r ih=>
  intro acc k hd ha hk;have hc:=hd c Zs;simp only[digB,vF,decide_eq_true_eq]at hc;simp only[Vl]at hk;have hp:10 ^ k<=10 ^ 18:=Nat.pow_le_pow_right Zo Zo;have h18:(10:Nat) ^ 18=1000000000000000000:=by decide
  have h64:(2:Nat) ^ 64 - 1=18446744073709551615:=by decide
  have hs:(10:Nat) ^ (k+1)=10 ^ k*10:=Nat.pow_succ ..;simp only[Lib.parseUintM,if_pos hc,if_neg (show ¬1844674407370955162<=acc by omega),if_neg (show ¬(2 ^ 64 - 1 < acc*10+(c.toNat - 48)) by omega),Vy,List.foldl_cons];exact ih _ (k+1) (fun x hx=>hd x (by simp[hx])) Zo Zo
theorem numL_ge:∀(l:List Nat) (acc k:Nat),10 ^ k<=acc->10 ^ (k+l.length)<=l.foldl (fun n c=>n*10+(c - 48)) acc:=by
 intro l
 induction l with
 |nil=>intro acc k h;exact h
 |cons c r ih=>
  intro acc k ha;have hs:(10:Nat) ^ (k+1)=10 ^ k*10:=Nat.pow_succ ..;simp only[List.foldl_cons,Vl];rw[show k+(r.length+1)=(k+1)+r.length by omega];exact ih _ (k+1) Zo
theorem parseInt_spec(A:List kC)(hE:ErA A)(s:ByteArray)(h0:kF s≠[])(hd:(kF s).all digB=true)(hl:s.size<=19):
 Fun Tryz.prog 266 [.string s,vi 10,vi 64] [A] (fun v Post=>((numL (kF s)<=9223372036854775807/\v=.tuple #[vi (numL (kF s)),.nilIface])∨(9223372036854775807 < numL (kF s)/\∃z t p,v=.tuple #[vi z,.iface t p]/\-9223372036854775808<=z/\z<=9223372036854775807))/\Post=[A]):=by
 have hall:∀c∈s.data.toList,digB c.toNat=true:=fun c hc=>vX.1 hd _ (Q9.2 ⟨c,hc,rfl⟩)
 have hlen:s.data.toList.length=s.size:=by simp
 have hu:=parseM_ok s.data.toList 0 0 hall Zd Zo;have hu2:Lib.parseUintM (2 ^ 64 - 1) 0 s.data.toList=.ok (numL (kF s)):=hu;have hne:s.data.toList≠[]:=fun e=>h0 (by simp[kF,e])
 have hp:Lib.parseIntB 64 s.data.toList=if 9223372036854775808<=numL (kF s)then .range else .ok ((numL (kF s):Nat):Int):=by
  unfold Lib.parseIntB;cases hs:s.data.toList with
  |nil=>exact absurd hs hne
  |cons c r=>
   have hc:=hall c (by rw[hs];simp);simp only[digB,vF,decide_eq_true_eq]at hc;rw[hs]at hu2;simp only[if_neg (show ¬(c.toNat=43∨c.toNat=45) by omega),Lib.parseUintB,if_neg (show ¬(c::r=[]) by simp),hu2];have h45:¬c.toNat=45:=by omega
   by_cases hbig:9223372036854775808<=numL (kF s)
   ·simp[h45,hbig]
   ·simp[h45,hbig]
 obtain⟨ev,hev,hev2⟩:=hE;by_cases hbig:9223372036854775808<=numL (kF s)
 ·rw[if_pos hbig]at hp;refine Fun.of_calls2 (by kernel_rfl) (fun w F hs=>?_);have hcell:=(hs.cell (Zw _ hev)).1;refine(Any.strconv_ParseInt_10_at64_range Tryz.sl174 s Zo hp ev w hcell hev2).mono ?_
  rintro e w' ⟨N,rfl,_,_,hb⟩
  refine⟨_,rfl,.inr ⟨Zo,_,_,_,rfl,?_⟩,hb⟩;unfold Lib.intSat;split <;> decide
 ·rw[if_neg hbig]at hp;refine Fun.of_calls2 (by kernel_rfl) (fun w F hs=>?_);refine(Any.strconv_ParseInt_10_at64_ok Tryz.sl174 s Zo _ hp w).mono ?_
  rintro e w' ⟨rfl,hb⟩
  refine⟨_,rfl,.inl ⟨Zo,rfl⟩,?_⟩;rcases hb with rfl|⟨t,rfl⟩
  ·exact .refl _ _
  ·exact Lib.bytesWorld_below _ _ _
end Go.Proofs.YtijnokbblmbpkaaGreatDoor
namespace Go.Proofs.YtijnokbblmbpkaaGreatDoor
open Go Go.V
set_option maxHeartbeats 3200000
set_option maxRecDepth 100000
theorem cutPrefix_spec(s:ByteArray)(hs:s.size<=140737488355328):Fun Tryz.prog 247 [.string s,.string ⟨#[45]⟩] [] (fun v Post=>∃t,v=.tuple #[.string t,.bool (decide ((kF s).head? =some 45))]/\kF t=(if(kF s).head? =some 45 then(kF s).tail else kF s)/\t.size<=s.size/\Post=[]):=by
 have hlen:=jH s;have hhead:∀(h:1<=s.size),s.extract 0 1=⟨#[45]⟩↔(kF s).head? =some 45:=fun h=>by
  have hb:kF (s.extract 0 1)=(kF s).take 1:=by rw[jt,List.drop_zero]
  cases hx:kF s with
  |nil=>rw[hx]at hlen;simp at hlen;omega
  |cons a r=>
   rw[hx]at hb;constructor
   ·intro e;rw[e]at hb;have:[45]=[a]:=hb;simp at this;simp[<- this]
   ·intro e;simp at e;apply jX;rw[hb,e];rfl
 have hpre:Fun Tryz.prog 281 [.string s,.string ⟨#[45]⟩] [] (fun v Post=>v=.bool (decide ((kF s).head? =some 45))/\Post=[]):=by
  refine Fun.intro low281 (by simp[n281]) ?_;refine GOH ?_;rw[show(((⟨#[45]⟩:ByteArray).size:Nat):Int)=1 from rfl];by_cases h:1<=s.size
  ·rw[Zt (show(s.size:Int) ≥ 1 by omega)];refine GOH ?_;rw[show(((⟨#[45]⟩:ByteArray).size:Nat):Int)=1 from rfl];refine st_slcS (l:=0) (h:=1) Zr .dft (.num Zr) Zo ?_;refine GOH ?_;refine⟨.inr rfl,_,_,.tmp Zr .nil,ZI,?_,rfl⟩;simp only[tup,hhead h]
  ·exact zCI
 have hcut:Fun Tryz.prog 264 [.string s,.string ⟨#[45]⟩] [] (fun v Post=>∃t,v=.tuple #[.string t,.bool (decide ((kF s).head? =some 45))]/\kF t=(if(kF s).head? =some 45 then(kF s).tail else kF s)/\t.size<=s.size/\Post=[]):=by
  refine Fun.intro low264 (by simp[n264]) ?_;refine GOH ?_;refine kV hpre Zr ?_;by_cases h:(kF s).head? =some 45
  ·have hpos:1<=s.size:=by
    cases hb:kF s with
    |nil=>rw[hb]at h;cases h
    |cons a r=>rw[<- hlen,hb];simp
   rw[Zt h];refine GOH ?_;rw[show(((⟨#[45]⟩:ByteArray).size:Nat):Int)=1 from rfl];refine st_slcS (l:=1) (h:=s.size) Zr (.num Zr) .dft Zo ?_;refine GOH ?_;have hb:kF (s.extract 1 s.size)=(kF s).tail:=by rw[jt,QR Zo,List.drop_one]
   refine kG (Post:=[]) (.inr rfl) (.tmp Zr (.tmp Zr .nil)) ⟨_,rfl,by rw[if_pos h,hb],?_,rfl⟩ ZI;rw[<- jH,hb,<- hlen];simp
  ·rw[Zf h];refine GOH ?_;refine kG (Post:=[]) (.inr rfl) (.tmp Zr (.tmp Zr .nil)) ⟨_,rfl,by rw[if_neg h],QW _,rfl⟩ ZI
 refine Fun.intro low247 (by simp[n247]) ?_;exact zBZ
theorem trimByte_spec(s:ByteArray)(hs:s.size<=140737488355328):Fun Tryz.prog 282 [.string s,.int .u8 48] [] (fun v Post=>∃t,v=.string t/\kF t=(kF s).dropWhile (fun c=>decide (c=48))/\Post=[]):=by
 refine Fun.intro low282 (by simp[n282]) ?_;refine GOH ?_;refine VC.loop (α:=ByteArray) (Γf:=fun t=>[(0,.string t),(1,.int .u8 48)]) (Hf:=fun _=>[]) (I:=fun t=>t.size<=s.size/\(kF t).dropWhile (fun c=>decide (c=48))=(kF s).dropWhile (fun c=>decide (c=48))) (μ:=fun t=>t.size) s ⟨QW _,rfl⟩ ZU ZI ?_
 rintro t ⟨i1,i2⟩
 have hlen:=jH t;refine GOH ?_;by_cases h0:t=⟨#[]⟩
 ·subst h0;refine GOH ?_;refine kG (Post:=[]) (.inr rfl) (.tmp Zr .nil) ⟨_,rfl,by rw[<- i2];rfl,rfl⟩ ZI
 obtain⟨c,r,hc,hr,hc256,hpos⟩:=bytesN_cons h0;rw[Zt (show(t.size:Int) > 0 by omega)];refine GOH ?_;refine st_idxS Zr Zr (j:=0) rfl hc ?_;refine GOH ?_;by_cases h48:c.toNat=48
 ·rw[show decide ((c.toNat:Int)=48)=true from Zt Zo];refine GOH ?_;refine st_slcS (l:=1) (h:=t.size) Zr (.num Zr) .dft Zo ?_;refine GOH ?_;have hb:kF (t.extract 1 t.size)=r:=by rw[jt,QR Zo,List.drop_one,hr];rfl
  have hz:(t.extract 1 t.size).size+1=t.size:=by rw[<- jH,hb,<- hlen,hr];rfl
  refine⟨t.extract 1 t.size,⟨Zo,?_⟩,Zo,ZU,ZI⟩;rw[hb,<- i2,hr,List.dropWhile_cons_of_pos (by simp[h48])]
 ·rw[show decide ((c.toNat:Int)=48)=false from Zf Zo];refine GOH ?_;refine kG (Post:=[]) (.inr rfl) (.tmp Zr .nil) ⟨_,rfl,?_,rfl⟩ ZI;rw[<- i2,hr,List.dropWhile_cons_of_neg (by simp[h48])]
theorem plainL_eq(l:List Nat):wm l=if l.dropWhile (fun c=>decide (c=48))=[]/\l≠[]then [48]else l.dropWhile (fun c=>decide (c=48)):=by
 induction l with
 |nil=>rfl
 |cons a l ih=>
  by_cases ha:a=48
  ·subst ha;cases l with
   |nil=>rfl
   |cons b r=>
    rw[wm,ih,show List.dropWhile (fun c=>decide (c=48)) (48::b::r)=List.dropWhile (fun c=>decide (c=48)) (b::r)from List.dropWhile_cons_of_pos Zs];simp
  ·rw[List.dropWhile_cons_of_neg (by simp[ha])];have:wm (a::l)=a::l:=by
    cases l with
    |nil=>simp[wm]
    |cons b r=>simp[wm,ha]
   simp[this]
theorem plain_spec(s:ByteArray)(hs:s.size<=140737488355328):Fun Tryz.prog 248 [.string s] [] (fun v Post=>∃t,v=.string t/\kF t=wm (kF s)/\Post=[]):=by
 have htrim:Fun Tryz.prog 265 [.string s,.string ⟨#[48]⟩] [] (fun v Post=>∃t,v=.string t/\kF t=(kF s).dropWhile (fun c=>decide (c=48))/\Post=[]):=by
  refine Fun.intro low265 (by simp[n265]) ?_;refine GOH ?_;by_cases h0:s=⟨#[]⟩
  ·subst h0;refine GOH ?_;refine kG (Post:=[]) (.inr rfl) (.tmp Zr .nil) ⟨_,rfl,rfl,rfl⟩ ZI
  rw[Zf h0];refine GOH ?_;refine kM (trimByte_spec s hs) Zr ZP (fun v Post hv=>?_);obtain⟨t,rfl,h1,rfl⟩:=hv;simp only[QD];refine GOH ?_;refine kG (Post:=[]) (.inr rfl) (.tmp Zr .nil) ⟨_,rfl,h1,rfl⟩ ZI
 refine Fun.intro low248 (by simp[n248]) ?_;refine GOH ?_;refine kM htrim Zr ZP (fun v Post hv=>?_);obtain⟨t,rfl,h1,rfl⟩:=hv;simp only[QD];refine GOH ?_;have hp:=plainL_eq (kF s);rw[<- h1]at hp;by_cases ht:t=⟨#[]⟩
 ·rw[Zt ht];have hb:kF t=[]:=by rw[ht];rfl
  refine GOH ?_;by_cases h0:s=⟨#[]⟩
  ·subst h0;refine GOH ?_;refine kG (Post:=[]) (.inr rfl) (.tmp Zr .nil) ⟨_,rfl,by rw[hb];rfl,rfl⟩ ZI
  ·rw[Zf h0,vL];have hs0:kF s≠[]:=fun e=>h0 (jX (by rw[e];rfl))
   refine GOH ?_;refine kG (Post:=[]) (.inr rfl) (.tmp Zr .nil) ⟨_,rfl,by rw[hp,if_pos ⟨hb,hs0⟩];rfl,rfl⟩ ZI
 ·rw[Zf ht];have hb:kF t≠[]:=fun e=>ht (jX (by rw[e];rfl))
  refine GOH ?_;refine kG (Post:=[]) (.inr rfl) (.tmp Zr .nil) ⟨_,rfl,by rw[hp,if_neg (fun h=>hb h.1)],rfl⟩ ZI
end Go.Proofs.YtijnokbblmbpkaaGreatDoor
namespace Go.Proofs.YtijnokbblmbpkaaGreatDoor
open Go Go.V
set_option maxHeartbeats 3200000
set_option maxRecDepth 100000
def smallD(m:Bool)(l:List Nat):Prop:=l.length<=19/\numL l<=(if m=true then 1152921504606846976 else 1152921504606846975)
def WholeQ(m:Bool)(t:ByteArray)(v:Value):Prop:=
 (smallD m (kF t)/\v=.agg #[cv 4,vi (if m=true then -(numL (kF t):Int)else(numL (kF t):Int)),uv 0,.string ⟨#[]⟩,.slice none 0 0])∨
 (¬smallD m (kF t)/\∃u,v=.agg #[cv 5,vi 0,uv 0,.string u,.slice none 0 0]/\kF u=if m=true then 45::kF t else kF t)
theorem whole_spec(A:List kC)(hE:ErA A)(t:ByteArray)(h0:kF t≠[])(hd:(kF t).all digB=true)(hl:t.size<=255)(m:Bool):Fun Tryz.prog 249 [.string t,.bool m] [A] (fun v Post=>WholeQ m t v/\Post=[A]):=by
 refine Fun.intro low249 (by simp[n249]) ?_;have hlen:=jH t;have hcat:zQ .add (.string ⟨#[45]⟩) (.string t)=some (.string (⟨#[45]⟩++t)):=if_pos (by show 1+t.size<=9223372036854775807;omega);refine GOH ?_;refine kL (fun b=>?_);refine GOH ?_;by_cases h19:t.size<=19;rotate_left
 ·rw[Zf (show ¬(t.size:Int)<=19 by omega)];have hns:¬smallD m (kF t):=fun hs=>by have:=hs.1;omega
  cases m with
  |true=>
   exact zAY
  |false=>
   exact zBJ
 rw[Zt (show(t.size:Int)<=19 by omega)];refine GOH ?_;refine kM (parseInt_spec A hE t h0 hd h19) Zr ZP (fun v Post hv=>?_);rcases hv with⟨⟨hn,rfl⟩|⟨hn,z,ty,pp,rfl,hz⟩,rfl⟩
 ·simp only[CNx];obtain⟨N,hN⟩:∃N,numL (kF t)=N:=⟨_,rfl⟩;rw[hN]at hn|-;have hsm2:∀m,smallD m (kF t)↔N<=(if m=true then 1152921504606846976 else 1152921504606846975):=fun m=>by
   unfold smallD;rw[hN];exact⟨fun h=>h.2,fun h=>⟨Zo,h⟩⟩
  cases m with
  |true=>
   refine GOH ?_;rw[show IntKind.i64.wrap (0 - (N:Int))=-(N:Int) by rw[Int.zero_sub];exact wrap64 ⟨Zo,Zo⟩];by_cases hs:N<=1152921504606846976
   ·have hsm:smallD true (kF t):=(hsm2 true).2 hs;rw[Zt (show(-1152921504606846976:Int)<=-(N:Int) by omega)];refine GOH ?_;rw[Zt (show -(N:Int)<=1152921504606846975 by omega)];refine GOH ?_;refine⟨.inr rfl,_,_,.cellN (us:=[cv 4,vi (-(N:Int)),uv 0,.string ⟨#[]⟩,.slice none 0 0]) Zr Zr Zag .nil,ZI,.inl ⟨hsm,by rw[hN];rfl⟩,rfl⟩
   ·have hns:¬smallD true (kF t):=fun h=>hs ((hsm2 true).1 h)
    rw[Zf (show ¬(-1152921504606846976:Int)<=-(N:Int) by omega)];exact zAY
  |false=>
   refine GOH ?_;by_cases hs:N<=1152921504606846975
   ·have hsm:smallD false (kF t):=(hsm2 false).2 hs;rw[Zt (show(N:Int)<=1152921504606846975 by omega)];refine GOH ?_;refine⟨.inr rfl,_,_,.cellN (us:=[cv 4,vi (N:Int),uv 0,.string ⟨#[]⟩,.slice none 0 0]) Zr Zr Zag .nil,ZI,.inl ⟨hsm,by rw[hN];rfl⟩,rfl⟩
   ·have hns:¬smallD false (kF t):=fun h=>hs ((hsm2 false).1 h)
    rw[Zf (show ¬(N:Int)<=1152921504606846975 by omega)];exact zBJ
 ·simp only[CNx];have hns:¬smallD m (kF t):=fun hs=>by have:=hs.2;split at this <;> omega
  cases m with
  |true=>
   exact zAY
  |false=>
   exact zBJ
def z8(l:List Nat):List Nat:=if l.head? =some 45 then l.tail else l
def minusL(l:List Nat):Bool:=decide (l.head? =some 45)
def goodL(l:List Nat):Bool:=decide (z8 l≠[])&&decide ((wm (z8 l)).length<=255)&&(z8 l).all digB
def IntQ(s:ByteArray)(v:Value):Prop:=
 (goodL (kF s)=false/\v=.tuple #[.agg #[cv 0,vi 0,uv 0,.string ⟨#[]⟩,.slice none 0 0],vi 144])∨
 (goodL (kF s)=true/\∃t u,kF t=wm (z8 (kF s))/\WholeQ (minusL (kF s)) t u/\v=.tuple #[u,vi 0])
theorem plainL_dig {l:List Nat}(h:l.all digB=true):(wm l).all digB=true:=by
 rw[plainL_eq];split
 ·rfl
 ·rw[vX]at h|-;intro x hx;exact h x ((List.dropWhile_sublist _).subset hx)
theorem plainL_ne {l:List Nat}(h:l≠[]):wm l≠[]:=by
 rw[plainL_eq];split
 ·simp
 ·rename_i h2;intro e;exact h2 ⟨e,h⟩
theorem integer_spec(A:List kC)(hE:ErA A)(s:ByteArray)(hs:s.size<=140737488355328):Fun Tryz.prog 227 [.string s] [A] (fun v Post=>IntQ s v/\Post=[A]):=by
 refine Fun.intro low227 (by simp[n227]) ?_;refine GOH ?_;refine kL (fun b=>?_);refine GOH ?_;refine kM (cutPrefix_spec s hs) Zr ZP (fun v Post hv=>?_);obtain⟨d,rfl,hd,hds,rfl⟩:=hv;simp only[QD];have hdig:kF d=z8 (kF s):=hd;have hm:decide ((kF s).head? =some 45)=minusL (kF s):=rfl;rw[hm];obtain⟨m,hmm⟩:∃m,minusL (kF s)=m:=⟨_,rfl⟩;rw[hmm];refine GOH ?_;refine kM (plain_spec d Zo) Zr ZP (fun v Post hv=>?_);obtain⟨t,rfl,ht,rfl⟩:=hv;simp only[QD];have hlt:=jH t;have hld:=jH d;have hIntB:goodL (kF s)=false->IntQ s (.tuple #[.agg #[cv 0,vi 0,uv 0,.string ⟨#[]⟩,.slice none 0 0],vi 144]):=fun h=>.inl ⟨h,rfl⟩
 have hg:goodL (kF s)=(decide (kF d≠[])&&decide (t.size<=255)&&(kF d).all digB):=by
  unfold goodL;rw[<- hdig,<- ht,hlt]
 refine GOH ?_;by_cases h0:d=⟨#[]⟩
 ·rw[Zt h0];have hb:goodL (kF s)=false:=by rw[hg,h0];rfl
  exact zBK
 rw[Zf h0];have hd0:kF d≠[]:=fun e=>h0 (jX (by rw[e];rfl))
 refine GOH ?_;by_cases h255:t.size<=255;rotate_left
 ·rw[Zt (show(t.size:Int) > 255 by omega)];have hb:goodL (kF s)=false:=by rw[hg,Zf h255];simp
  exact zBK
 rw[Zf (show ¬(t.size:Int) > 255 by omega)];refine GOH ?_;have hrun:=run_spec d Zo 0 Zo (.func (.func 197) #[] #[]) (fun _=>[]) (fun k=>digB ((kF d).getD k 0)) (fun k x _ hx=>FunV.of_fun (by
  rw[V5,hx];exact digit_spec _ (bytesN_lt d _ (Zv hx))))
 refine kM hrun Zr ZP (fun v Post hv=>?_);obtain⟨e,j,rfl,e1,e2,e3,e4,rfl⟩:=hv;have hall:=all_run (l:=kF d) (p:=digB) (e:=e) Zo (fun k hk=>e3 k Zo hk) (fun hk=>e4 Zo);simp only[QD];refine GOH ?_;by_cases he:e=(kF d).length;rotate_left
 ·have hb:goodL (kF s)=false:=by rw[hg,hall,Zf he];simp
  rw[Zf (show ¬(e:Int)=(d.size:Int) by omega)];exact zBK
 rw[Zt (show(e:Int)=(d.size:Int) by omega)];rw[Zt he]at hall;have hgt:goodL (kF s)=true:=by rw[hg,hall,Zt h255,Zt hd0];rfl
 refine GOH ?_;refine kM (whole_spec A hE t (by rw[ht];exact plainL_ne hd0) (by rw[ht];exact plainL_dig hall) h255 m) Zr ZP (fun v Post hv=>?_);obtain⟨hw,rfl⟩:=hv;have fin:∀u,WholeQ m t u->IntQ s (.tuple #[u,vi 0]):=fun u hu=>.inr ⟨hgt,t,u,by rw[ht,hdig],by rw[hmm];exact hu,rfl⟩
 have hfin:=fin _ hw;simp only[CNx];rcases hw with⟨_,rfl⟩|⟨_,u,rfl,_⟩
 ·generalize (if m=true then -(numL (kF t):Int)else(numL (kF t):Int))=z at hfin|-;refine GOH ?_;refine⟨.inr rfl,_,_,.cellN (us:=[cv 4,vi z,uv 0,.string ⟨#[]⟩,.slice none 0 0]) Zr Zr Zag (.tmp Zr .nil),ZI,hfin,rfl⟩
 ·refine GOH ?_;refine⟨.inr rfl,_,_,.cellN (us:=[cv 5,vi 0,uv 0,.string u,.slice none 0 0]) Zr Zr Zag (.tmp Zr .nil),ZI,hfin,rfl⟩
end Go.Proofs.YtijnokbblmbpkaaGreatDoor
namespace Go.Proofs.YtijnokbblmbpkaaGreatDoor
open Go Go.V
set_option maxHeartbeats 3200000
set_option maxRecDepth 100000
theorem largeL_eq(l:List Nat):largeL l=(decide (z8 l≠[])&&(z8 l).all digB&&decide (wm (z8 l)=z8 l)&&decide ((z8 l).length<=255)&&decide ((if minusL l=true then 1152921504606846976 else 1152921504606846975) < numL (z8 l))):=by
 unfold largeL;cases l with
 |nil=>rfl
 |cons a r=>
  by_cases ha:a=45
  ·subst ha;rfl
  ·have h1:z8 (a::r)=a::r:=by simp[z8,ha]
   have h2:minusL (a::r)=false:=by simp[minusL,ha]
   rw[h1,h2];split;rename_i d m h;split at h
   ·rename_i heq;cases heq;exact absurd rfl ha
   ·cases h;rfl
theorem small_plain {d:List Nat}{m:Bool}(h0:d≠[])(hd:d.all digB=true)(hp:wm d=d):smallD m d↔¬(if m=true then 1152921504606846976 else 1152921504606846975) < numL d:=by
 unfold smallD;constructor
 ·intro h;have:=h.2;omega
 ·intro h;refine⟨?_,Zo⟩;apply Classical.byContradiction;intro hl;cases d with
  |nil=>exact h0 rfl
  |cons c r=>
   have hc:c≠48:=by
    intro e;subst e;cases r with
    |nil=>simp at hl
    |cons b q=>
     rw[plainL_eq]at hp;split at hp
     ·cases hp
     ·rw[List.dropWhile_cons_of_pos Zs]at hp;have h1:=(List.dropWhile_sublist (l:=b::q) (fun c=>decide (c=48))).length_le;rw[hp]at h1;simp at h1;omega
   have hc2:=vX.1 hd c Zs;simp only[digB,vF,decide_eq_true_eq]at hc2;have h1:=numL_ge r (0*10+(c - 48)) 0 Zam;have h2:numL (c::r)=r.foldl (fun n c=>n*10+(c - 48)) (0*10+(c - 48)):=rfl;have h3:(10:Nat) ^ 19<=10 ^ (0+r.length):=Nat.pow_le_pow_right Zo (by simp at hl;omega);have h4:(10:Nat) ^ 19=10000000000000000000:=by decide
   rw[<- h2]at h1;split at h <;> omega
theorem signed_eq(l:List Nat):(if minusL l=true then 45::z8 l else z8 l)=l:=by
 cases l with
 |nil=>rfl
 |cons a r=>
  by_cases ha:a=45
  ·subst ha;rfl
  ·simp[minusL,z8,ha]
theorem IntQ.large {s:ByteArray}{v:Value}(h:IntQ s v):∃(k:Nat) (n:Int) (t:ByteArray) (e:Nat),v=.tuple #[.agg #[cv k,vi n,uv 0,.string t,.slice none 0 0],vi e]/\(e=0/\k=5/\t=s↔largeL (kF s)=true):=by
 have hq:=largeL_eq (kF s);rcases h with⟨hg,rfl⟩|⟨hg,t,u,ht,hw,rfl⟩
 ·refine⟨0,0,_,144,rfl,⟨fun h=>by simp at h,fun h=>?_⟩⟩;rw[hq]at h;simp only[vF,decide_eq_true_eq]at h;unfold goodL at hg;rw[h.1.1.2,Zt h.1.1.1.1,h.1.1.1.2,Zt h.1.2]at hg;cases hg
 ·simp only[goodL,vF,decide_eq_true_eq]at hg;obtain⟨⟨g1,g2⟩,g3⟩:=hg;have hse:=signed_eq (kF s);rcases hw with⟨hs,rfl⟩|⟨hs,u,rfl,hu⟩
  ·refine⟨4,_,_,0,rfl,⟨fun h=>by simp at h,fun h=>?_⟩⟩;rw[hq]at h;simp only[vF,decide_eq_true_eq]at h;rw[ht,h.1.1.2]at hs;exact absurd h.2 ((small_plain g1 g3 h.1.1.2).1 hs)
  ·refine⟨5,0,u,0,rfl,⟨fun h=>?_,fun h=>?_⟩⟩
   ·have hp:wm (z8 (kF s))=z8 (kF s):=by
     have h2:(if minusL (kF s)=true then 45::wm (z8 (kF s))else wm (z8 (kF s)))=(if minusL (kF s)=true then 45::z8 (kF s)else z8 (kF s)):=by
      rw[hse,<- ht,<- hu,h.2.2]
     cases hm:minusL (kF s)with
     |true=>rw[hm]at h2;simpa using h2
     |false=>rw[hm]at h2;simpa using h2
    rw[hq];rw[ht,hp,small_plain g1 g3 hp]at hs;simp only[vF,decide_eq_true_eq];rw[hp]at g2;exact⟨⟨⟨⟨g1,g3⟩,hp⟩,g2⟩,Classical.not_not.1 hs⟩
   ·rw[hq]at h;simp only[vF,decide_eq_true_eq]at h;refine⟨rfl,rfl,jX ?_⟩;rw[hu,ht,h.1.1.2,hse]
end Go.Proofs.YtijnokbblmbpkaaGreatDoor

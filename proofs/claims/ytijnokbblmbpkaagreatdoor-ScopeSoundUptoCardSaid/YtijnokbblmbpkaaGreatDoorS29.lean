/-
  The code of functions, as terms: printed by a program, proved to be what the seat has.
-/
import Derived.Test.YtijnokbblmbpkaaGreatDoorS10
import Derived.KernelRfl
import Derived.Test.YtijnokbblmbpkaaGreatDoorProg
import Derived.Test.YtijnokbblmbpkaaGreatDoorS28
import Derived.Test.YtijnokbblmbpkaaGreatDoorS7
import Derived.Test.YtijnokbblmbpkaaGreatDoorS26
import Derived.Test.YtijnokbblmbpkaaGreatDoorS27
set_option linter.unusedSimpArgs false
set_option linter.unusedVariables false
namespace Go.Proofs.YtijnokbblmbpkaaGreatDoor
open Go Go.V
set_option maxRecDepth 100000
def F24:FIR:=laid (X:=⟨48,[.tmp 6],(qS [qB 3 72 0,qk 6 0] [1,2,3] (qS [qf 8 2 3,qN 9 5 8,qm 10 1,qc 11 .add 10 1,qf 12 1 3,ql 13 12,qo 14 (.lenS (.tmp 13)),qb 15 .add 11 14,
 qo 16 (.call 67 [(.tmp 9),(.tmp 15),(.const (.int .i64 0))]),qm 1 16] [1,2,3] (qS [qf 17 7 3,ql 18 17,qm 19 1,qx 20 68 [18,19],qm 1 20] [1,2,3] (qS [qf 21 8 3,ql 22 21,qm 23 1,qx 24 68 [22,23],qm 1 24] [1,2,3] (.seq (qS [qm 25 2,qc 26 .gtr 25 60000] [1,2,3,26] (qC 26 (qS [qk 6 262145] [6] .ret) .skip)) (.seq (qS [qk 7 0] [1,2,3,7] (.block 0 (.loop (.seq (qS [qm 27 7,qf 28 9 3,ql 29 28,qL 30 29,qb 31 .lss 27 30,qm 32 31,qt 32 (qm 33 1),qt 32 (qc 34 .leq 33 262144),qa 35 32 34] [1,2,3,7,35] (qC 35 .skip (.exit 0))) (.seq (.block 1 (.reg [qf 38 9 3,ql 39 38,qm 40 7,qi 41 11 39 40,qN 42 11 41,qm 43 1,qm 44 2,qc 45 .add 44 1,qx 46 24 [42,43,45],qm 1 46] [1,2,3,7])) (.reg [qm 36 7,qc 37 .add 36 1,qm 7 37] [1,2,3,7])))))) (qS [qm 47 1,qm 6 47] [6] .ret)))))))⟩)
theorem n24:F24.n=48:=rfl
theorem low24:ki Tryz.prog (kpO F24) (kQ []) 24=some F24:=by kernel_rfl
def F67:FIR:=laid (X:=⟨37,[.tmp 6],(qS [qB 3 70 0,qk 6 0] [1,2,3] (qS [qm 8 1,qc 9 .add 8 1,qf 10 3 3,ql 11 10,qo 12 (.lenS (.tmp 11)),qb 13 .add 9 12,qm 1 13] [1,2,3] (.seq (qS [qm 14 2,qc 15 .gtr 14 60000] [1,2,3,15] (qC 15 (qS [qk 6 262145] [6] .ret) .skip)) (.seq (qS [qk 7 0] [1,2,3,7] (.block 0 (.loop (.seq (qS [qm 16 7,qf 17 4 3,ql 18 17,qL 19 18,qb 20 .lss 16 19,qm 21 20,qt 21 (qm 22 1),qt 21 (qc 23 .leq 22 262144),qa 24 21 23] [1,2,3,7,24] (qC 24 .skip (.exit 0))) (.seq (.block 1 (.reg [qf 27 4 3,ql 28 27,qm 29 7,qi 30 5 28 29,qN 31 5 30,qm 32 1,qm 33 2,qc 34 .add 33 1,qx 35 67 [31,32,34],qm 1 35] [1,2,3,7])) (.reg [qm 25 7,qc 26 .add 25 1,qm 7 26] [1,2,3,7])))))) (qS [qm 36 1,qm 6 36] [6] .ret)))))⟩)
theorem n67:F67.n=37:=rfl
theorem low67:ki Tryz.prog (kpO F67) (kQ []) 67=some F67:=by kernel_rfl
def F68:FIR:=laid (X:=⟨25,[.tmp 4],(qS [qk 4 0] [0,1] (.seq (qS [qk 5 0] [0,1,5] (.block 0 (.loop (.seq (qS [qm 6 5,qm 7 0,qL 8 7,qb 9 .lss 6 8,qm 10 9,qt 10 (qm 11 1),qt 10 (qc 12 .leq 11 262144),qa 13 10 12] [0,1,5,13] (qC 13 .skip (.exit 0))) (.seq (.block 1 (.reg [qm 16 1,qc 17 .add 16 1,qm 18 0,qm 19 5,qi 20 1 18 19,ql 21 20,qo 22 (.lenS (.tmp 21)),qb 23 .add 17 22,qm 1 23] [0,1,5])) (.reg [qm 14 5,qc 15 .add 14 1,qm 5 15] [0,1,5])))))) (qS [qm 24 1,qm 4 24] [4] .ret)))⟩)
theorem n68:F68.n=25:=rfl
theorem low68:ki Tryz.prog (kpO F68) (kQ []) 68=some F68:=by kernel_rfl
def F42:FIR:=laid (X:=⟨34,[.tmp 2],(qS [qB 1 25 0,qk 2 0] [1] (qS [qf 5 1 1,ql 6 5,qf 7 0 1,ql 8 7,qo 9 (.lenS (.tmp 8)),qx 10 68 [6,9],qm 3 10] [1,3] (qS [qf 11 2 1,ql 12 11,qm 13 3,qx 14 68 [12,13],qm 3 14] [1,3] (.seq (qS [qk 4 0] [1,3,4] (.block 0 (.loop (.seq (qS [qm 15 4,qf 16 4 1,ql 17 16,qL 18 17,qb 19 .lss 15 18,qm 20 19,qt 20 (qm 21 3),qt 20 (qc 22 .leq 21 262144),qa 23 20 22] [1,3,4,23] (qC 23 .skip (.exit 0))) (.seq (.block 1 (.reg [qf 26 4 1,ql 27 26,qm 28 4,qi 29 11 27 28,qN 30 11 29,qm 31 3,
 qo 32 (.call 24 [(.tmp 30),(.tmp 31),(.const (.int .i64 0))]),qm 3 32] [1,3,4])) (.reg [qm 24 4,qc 25 .add 24 1,qm 4 25] [1,3,4])))))) (qS [qm 33 3,qm 2 33] [2] .ret)))))⟩)
theorem n42:F42.n=34:=rfl
theorem low42:ki Tryz.prog (kpO F42) (kQ []) 42=some F42:=by kernel_rfl
def F12:FIR:=laid (X:=⟨20,[.tmp 6],(qS [qB 3 25 0,qz 6 false] [1,2,3] (qS [qN 7 5 3,qx 8 42 [7],qc 9 .gtr 8 65536,qm 10 9,qu 10 (qm 11 1),qu 10 (qL 12 11),qu 10 (qc 13 .gtr 12 65536),qr 14 10 13,qm 15 14,
 qu 15 (qm 16 2),qu 15 (qL 17 16),qu 15 (qc 18 .gtr 17 65536),qr 19 15 18,qm 6 19] [6] .ret))⟩)
theorem n12:F12.n=20:=rfl
theorem low12:ki Tryz.prog (kpO F12) (kQ []) 12=some F12:=by kernel_rfl
def F39:FIR:=laid (X:=⟨19,[.tmp 2],(qS [qB 1 93 0,qk 2 0] [1] (qS [qf 4 1 1,ql 5 4,qf 6 2 1,ql 7 6,qL 8 7,qb 9 .add 5 8,qf 10 3 1,ql 11 10,qb 12 .add 9 11,qm 3 12] [1,3] (.seq (qS [qf 13 4 1,ql 14 13,qc 15 .gtr 14 0] [3,15] (qC 15 (.reg [qm 16 3,qc 17 .add 16 1,qm 3 17] [3]) .skip)) (qS [qm 18 3,qm 2 18] [2] .ret))))⟩)
theorem n39:F39.n=19:=rfl
theorem low39:ki Tryz.prog (kpO F39) (kQ []) 39=some F39:=by kernel_rfl
def F40:FIR:=laid (X:=⟨87,[.tmp 6],(qS [qB 3 97 0,qz 6 false] [1,2,3] (.seq (qS [qk 7 0] [1,2,3,7] (.block 0 (.loop (.seq (qS [qm 11 7,qf 12 7 3,ql 13 12,qL 14 13,qb 15 .lss 11 14] [1,2,3,7,15] (qC 15 .skip (.exit 0))) (.seq (.block 1 (qS [qf 18 7 3,ql 19 18,qm 20 7,qi 21 4 19 20,qN 22 4 21,
 qo 8 (.alloc 102 [(.int .u8 0),(.int .i64 0),(.int .i64 0),(.string ⟨#[]⟩)]),qs 4 8 22] [1,2,3,7,8] (qS [qf 23 1 8,ql 24 23,qc 25 .lss 24 0,qm 26 25,qu 26 (qf 27 2 8),qu 26 (ql 28 27),qu 26 (qc 29 .lss 28 0),qr 30 26 29,qm 31 30,
 qu 31 (qf 32 0 8),qu 31 (ql 33 32),qu 31 (qo 34 (.bin .eql (.tmp 33) (.const (.int .u8 5)))),qu 31 (qm 35 34),qu 35 (qf 36 0 8),
 qu 35 (ql 37 36),qu 35 (qo 38 (.bin .eql (.tmp 37) (.const (.int .u8 6)))),qu 31 (qr 39 35 38),qu 31 (qm 40 39),qt 40 (qf 41 1 8),
 qt 40 (ql 42 41),qt 40 (qm 43 1),qt 40 (qb 44 .geq 42 43),qu 31 (qa 45 40 44),qr 46 31 45,qm 47 46,qu 47 (qf 48 0 8),qu 47 (ql 49 48),
 qu 47 (qo 50 (.bin .eql (.tmp 49) (.const (.int .u8 8)))),qu 47 (qf 51 3 8),qu 47 (ql 52 51),
 qu 47 (qo 53 (.bin .neq (.tmp 52) (.const (.string ⟨#[]⟩)))),qu 47 (qo 54 (.eqb true (.tmp 50) (.tmp 53))),qr 55 47 54] [1,2,3,7,55] (qC 55 (qS [qz 6 false] [6] .ret) .skip)))) (.reg [qm 16 7,qc 17 .add 16 1,qm 7 17] [1,2,3,7])))))) (.seq (qS [qf 56 0 3,ql 57 56,qo 58 (.bin .eql (.tmp 57) (.const (.int .u8 8))),qm 59 58,qt 59 (qf 60 8 3),qt 59 (ql 61 60),
 qt 59 (qc 62 .lss 61 1),qt 59 (qm 63 62),qu 63 (qf 64 8 3),qu 63 (ql 65 64),qu 63 (qm 66 2),qu 63 (qb 67 .geq 65 66),qt 59 (qr 68 63 67),qa 69 59 68] [1,2,3,69] (qC 69 (qS [qz 6 false] [6] .ret) .skip)) (.seq (qS [qk 9 0] [1,2,3,9] (.block 2 (.loop (.seq (qS [qm 70 9,qf 71 10 3,ql 72 71,qL 73 72,qb 74 .lss 70 73] [1,2,3,9,74] (qC 74 .skip (.exit 2))) (.seq (.block 3 (qS [qf 77 10 3,ql 78 77,qm 79 9,qi 80 11 78 79,qN 81 11 80,qm 82 1,qm 83 2,qx 84 40 [81,82,83],qm 10 84] [1,2,3,9,10] (qS [qm 85 10,qo 86 (.un .not (.tmp 85))] [1,2,3,9,86] (qC 86 (qS [qz 6 false] [6] .ret) .skip)))) (.reg [qm 75 9,qc 76 .add 75 1,qm 9 76] [1,2,3,9])))))) (qS [qz 6 true] [6] .ret)))))⟩)
theorem n40:F40.n=87:=rfl
theorem low40:ki Tryz.prog (kpO F40) (kQ []) 40=some F40:=by kernel_rfl
def F8:FIR:=laid (X:=⟨183,[.tmp 6],(qS [qB 3 25 0,qz 6 false] [1,2,3] (qS [qx 17 11 [],qm 7 17] [1,2,3,7] (qS [qN 18 5 3,qm 19 1,qm 20 2,qx 21 12 [18,19,20],qm 8 21] [1,2,3,7,8] (.seq (qS [qm 22 7,qo 23 (.un .not (.tmp 22)),qm 24 23,qu 24 (qm 25 8),qr 26 24 25] [1,2,3,7,26] (qC 26 (qS [qm 27 7,qm 6 27] [6] .ret) .skip)) (qS [qN 29 5 3,qm 30 1,qm 31 2,qx 32 15 [29,30,31],qm 28 32,qe 33 28 0,qe 34 28 1,
 qo 9 (.alloc 43 [(.string ⟨#[]⟩),(.int .i64 0),(.slice none 0 0)]),qs 3 9 33,qm 10 34] [3,9,10] (.seq (qS [qm 35 10,qo 36 (.eqnil true .iface (.tmp 35))] [3,9,36] (qC 36 (qS [qf 37 2 9,ql 38 37,qL 39 38,qc 40 .eql 39 0,qm 6 40] [6] .ret) .skip)) (.seq (.seq (qD [qf 41 2 9,ql 42 41,qL 43 42,qc 44 .eql 43 0,qm 45 44,qu 45 (qf 46 2 9),qu 45 (ql 47 46),qu 45 (qL 48 47),qu 45 (qc 49 .gtr 48 255),
 qr 50 45 49,qm 51 50,qu 51 (qf 52 2 9),qu 51 (ql 53 52),qu 51 (qo 54 (.idxL 6 (.tmp 53) (.const (.int .i64 0)))),qu 51 (qf 55 0 54),
 qu 51 (ql 56 55),qu 51 (qc 57 .neq 56 (-1)),qr 58 51 57,qm 59 58,qu 59 (qf 60 2 9),qu 59 (ql 61 60),
 qu 59 (qo 62 (.idxL 6 (.tmp 61) (.const (.int .i64 0)))),qu 59 (qf 63 2 62),qu 59 (ql 64 63),qu 59 (qL 65 64),qu 59 (qc 66 .neq 65 0),
 qr 67 59 66,qm 68 67,qu 68 (qf 69 2 9),qu 68 (ql 70 69),qu 68 (qo 71 (.idxL 6 (.tmp 70) (.const (.int .i64 0)))),qu 68 (qf 72 1 71),
 qu 68 (ql 73 72),qu 68 (qf 74 1 3),qu 68 (ql 75 74),qu 68 (qL 76 75),qu 68 (qb 77 .neq 73 76),qr 78 68 77] [[0,1,2,3,4,5,6,7,8,9,10,11,12,13,14,15,16,17,18,19,20,21,22,23,24,25,26,27,28,29,30,31,32,33,34,35,36,37]] [9,78]) (qC 78 (qS [qz 6 false] [6] .ret) .skip)) (.seq (qS [qk 11 0] [9,11] (.block 0 (.loop (.seq (qS [qm 79 11,qf 80 2 9,ql 81 80,qL 82 81,qb 83 .lss 79 82] [9,11,83] (qC 83 .skip (.exit 0))) (.seq (.block 1 (qS [qf 86 2 9,ql 87 86,qm 88 11,qi 89 6 87 88,qN 90 6 89,
 qo 12 (.alloc 93 [(.int .i64 0),(.int .i64 0),(.slice none 0 0),(.int .i64 0),(.int .i64 0),(.slice none 0 0)]),
 qs 6 12 90] [9,11,12] (qS [qN 91 6 12,qx 92 39 [91],qm 13 92] [9,11,12,13] (.seq (qS [qm 93 13,qc 94 .gtr 93 63,qm 95 94,qu 95 (qf 96 4 12),qu 95 (ql 97 96),qu 95 (qc 98 .gtr 97 63),qr 99 95 98,qm 100 99,
 qu 100 (qf 101 1 12),qu 100 (ql 102 101),qu 100 (qc 103 .lss 102 0),qr 104 100 103,qm 105 104,qu 105 (qf 106 3 12),qu 105 (ql 107 106),
 qu 105 (qc 108 .lss 107 0),qr 109 105 108,qm 110 109,qu 110 (qm 111 11),qu 110 (qc 112 .gtr 111 0),qu 110 (qm 113 112),qt 113 (qf 114 0 12),
 qt 113 (ql 115 114),qt 113 (qc 116 .lss 115 0),qt 113 (qm 117 116),qu 117 (qf 118 0 12),qu 117 (ql 119 118),qu 117 (qm 120 11),
 qu 117 (qb 121 .geq 119 120),qt 113 (qr 122 117 121),qu 110 (qa 123 113 122),qr 124 110 123] [9,11,12,13,124] (qC 124 (qS [qz 6 false] [6] .ret) .skip)) (.seq (qS [qk 14 0] [9,11,12,13,14] (.block 2 (.loop (.seq (qS [qm 125 14,qf 126 2 12,ql 127 126,qL 128 127,qb 129 .lss 125 128] [9,11,12,13,14,129] (qC 129 .skip (.exit 2))) (.seq (.block 3 (.seq (qD [qf 132 2 12,ql 133 132,qm 134 14,qi 135 4 133 134,qf 136 0 135,ql 137 136,
 qo 138 (.bin .neq (.tmp 137) (.const (.int .u8 5))),qm 139 138,qu 139 (qf 140 2 12),qu 139 (ql 141 140),qu 139 (qm 142 14),
 qu 139 (qi 143 4 141 142),qu 139 (qf 144 1 143),qu 139 (ql 145 144),qu 139 (qc 146 .lss 145 0),qr 147 139 146,qm 148 147,qu 148 (qf 149 2 12),
 qu 148 (ql 150 149),qu 148 (qm 151 14),qu 148 (qi 152 4 150 151),qu 148 (qf 153 1 152),qu 148 (ql 154 153),qu 148 (qf 155 2 9),qu 148 (ql 156 155),
 qu 148 (qf 157 0 12),qu 148 (ql 158 157),qu 148 (qi 159 6 156 158),qu 148 (qN 160 6 159),qu 148 (qx 161 39 [160]),qu 148 (qb 162 .geq 154 161),
 qr 163 148 162] [[0,1,2,3,4,5,6,7,8,9,10,11,12,13,14,15,16,17,18,19,20,21,22,23,24,25,26,27,28,29,30,31],[0,1,2,3,4,5,6,7,8,9,10,11,12,13,14,15,16,17,18,19,20,21,23,24,25,26,27,28,29,22,30,31],[0,1,2,3,4,5,6,7,8,9,10,11,12,13,14,15,16,17,19,23,24,25,26,27,28,29,18,20,21,22,30,31]] [9,11,12,13,14,163]) (qC 163 (qS [qz 6 false] [6] .ret) .skip))) (.reg [qm 130 14,qc 131 .add 130 1,qm 14 131] [9,11,12,13,14])))))) (qS [qk 15 0] [9,11,12,13,15] (.block 4 (.loop (.seq (qS [qm 164 15,qf 165 5 12,ql 166 165,qL 167 166,qb 168 .lss 164 167] [9,11,12,13,15,168] (qC 168 .skip (.exit 4))) (.seq (.block 5 (.seq (qD [qf 171 5 12,ql 172 171,qm 173 15,qi 174 11 172 173,qN 175 11 174,qm 176 13,qf 177 2 9,ql 178 177,qL 179 178,qx 180 40 [175,176,179],
 qm 16 180] [[0,1,2,3,4,5,6,7,8,9,10]] [9,11,12,13,15,16]) (qS [qm 181 16,qo 182 (.un .not (.tmp 181))] [9,11,12,13,15,182] (qC 182 (qS [qz 6 false] [6] .ret) .skip)))) (.reg [qm 169 15,qc 170 .add 169 1,qm 15 170] [9,11,12,13,15]))))))))))) (.reg [qm 84 11,qc 85 .add 84 1,qm 11 85] [9,11])))))) (qS [qz 6 true] [6] .ret)))))))))⟩)
theorem n8:F8.n=183:=rfl
theorem low8:ki Tryz.prog (kpO F8) (kQ [(8,[[0,1,2,3,4,5,6,7,8,9,10,11,12,13,14,15,16,17,18,19,20,21,22,23,24,25,26,27,28,29,30,31,32,33,34,35,36,37]]),(20,[[0,1,2,3,4,5,6,7,8,9,10,11,12,13,14,15,16,17,18,19,20,21,22,23,24,25,26,27,28,29,30,31],[0,1,2,3,4,5,6,7,8,9,10,11,12,13,14,15,16,17,18,19,20,21,23,24,25,26,27,28,29,22,30,31],[0,1,2,3,4,5,6,7,8,9,10,11,12,13,14,15,16,17,19,23,24,25,26,27,28,29,18,20,21,22,30,31]]),(25,[[0,1,2,3,4,5,6,7,8,9,10]])]) 8=some F8:=by kernel_rfl
end Go.Proofs.YtijnokbblmbpkaaGreatDoor
namespace Go.V
open Go
theorem lsizes_app(b:List Lt):∀(a:List Lt),Lt.sizes (a++b)=Lt.sizes a+Lt.sizes b
 |[]=>by rw[QD,Lt.sizes,Qe]
 |x::r=>by rw[vf,Lt.sizes,Lt.sizes,lsizes_app b r,QT]
theorem lt_take {l:List Lt}{j:Nat}{y:Lt}(h:l[j]? =some y):Lt.sizes (l.take (j+1))=Lt.sizes (l.take j)+y.size:=by
 rw[QO,h,lsizes_app];simp only[Option.toList,Lt.sizes];omega
theorem nd_take {l:List Nd}{j:Nat}{y:Nd}(h:l[j]? =some y):Nd.ws (l.take (j+1))=Nd.ws (l.take j)+y.w:=by
 rw[QO,h,nws_app];simp only[Option.toList,Nd.ws];omega
mutual
theorem size_w:∀(x:Nd),x.size<=x.w
 |.mk k s lit args temps kids p=>by
  have:=sizes_ws kids;simp only[Nd.size,Nd.w];omega
theorem sizes_ws:∀(l:List Nd),Nd.sizes l<=Nd.ws l
 |[]=>QW _
 |x::r=>by
  have h1:=size_w x;have h2:=sizes_ws r;simp only[Nd.sizes,Nd.ws];omega
end
mutual
theorem cntN_w:∀(x:Nd),cntN x<=x.w
 |.mk k s lit args temps kids p=>by
  have:=cntsN_ws kids;simp only[cntN,cntR,Nd.w];omega
theorem cntsN_ws:∀(l:List Nd),jK l<=Nd.ws l
 |[]=>QW _
 |x::r=>by
  have h1:=cntN_w x;have h2:=cntsN_ws r;simp only[jK,Nd.ws];omega
end
end Go.V
namespace Go.Proofs.YtijnokbblmbpkaaGreatDoor
open Go Go.V
set_option maxHeartbeats 3200000
set_option maxRecDepth 100000
theorem lt_open {A:List kC}{x:Lt}{vs:List Value}(h:LtRd A x vs):∃(e:Option Addr) (c:Nat),vs=[cv x.kind,vi x.n,uv x.bits,.string x.text,.slice e x.items.length c]:=by
 cases h with
 |mk wf ha hm hr=>exact⟨_,_,rfl⟩
def wB(s:Int):Int:=max s 262144+140737488355329
theorem zH(A:List kC)(av:Value)(l:List ByteArray)(h:RdT A av l)(s:Int)(hs:0<=s/\s<=2305843009213693952):Fun Tryz.prog 68 [av,vi s] [A] (fun v Post=>∃r,v=vi r/\0<=r/\r<=wB s/\(r<=262144->s+l.length<=r)/\Post=[A]):=by
 obtain⟨a,c,rfl,hl,hr⟩:=h;refine Fun.intro low68 (by simp[n68]) ?_;refine GOH ?_;refine VC.loop (α:=Nat×Int) (Γf:=fun z=>[(0,.slice a l.length c),(1,vi z.2),(5,vi z.1)]) (Hf:=fun _=>[A])
  (I:=fun z=>z.1<=l.length/\0<=z.2/\z.2<=wB s/\s+z.1<=z.2) (μ:=fun z=>l.length - z.1) (0,s) ⟨Qf _,hs.1,by unfold wB;omega,by simp only;omega⟩ ZU ZI ?_
 rintro⟨j,r⟩ ⟨i1,i2,i3,i4⟩
 simp only at i1 i2 i3 i4;dsimp only;unfold wB at i3;refine GOH ?_;by_cases hj:j < l.length;rotate_left
 ·rw[show decide ((j:Int) < (l.length:Int))=false from Zf Zo];exact zDC
 rw[show decide ((j:Int) < (l.length:Int))=true from Zt Zo];refine GOH ?_;by_cases hr2:r<=262144;rotate_left
 ·rw[Zf hr2];exact zDC
 rw[Zt hr2];obtain⟨x,hx⟩:∃x,l[j]? =some x:=⟨_,Zg hj⟩;obtain⟨b1,o1,rfl,hc1,hs1⟩:=hr j x hx;refine GOH ?_;refine⟨(j+1,r+1+x.size),⟨by simp only;omega,by simp only;omega,by simp only;unfold wB;omega,by simp only;omega⟩,by simp only;omega,ZU,ZI⟩
theorem weighLit_spec(A:List kC):∀(N:Nat) (x:Lt),x.size<=N->∀vs,LtRd A x vs->∀(s d:Int),0<=s->s<=2305843009213693952->0<=d->d<=60001->Fun Tryz.prog 67 [.agg vs.toArray,vi s,vi d] [A] (fun v Post=>∃r,v=vi r/\0<=r/\r<=wB s/\(r<=262144->s+x.size<=r)/\Post=[A]):=by
 intro N
 induction N with
 |zero=>intro x hx;have:=x.size_pos;omega
 |succ N ih=>
  intro x hx vs h s d hs1 hs2 hd1 hd2;cases h with
  |@mk k n b t items a c bk o us wf ha hm hr=>
  have hmany:=wf.many;have htx:=wf.text;refine Fun.intro low67 (by simp[n67]) ?_;refine GOH ?_;refine kd Zr (fun q=>?_);simp only[Value.cells];refine GOH ?_;by_cases hd:d > 60000
  ·rw[Zt hd];refine GOH ?_;exact kG (Post:=[A]) (.inr rfl) (.tmp Zr .nil) ⟨262145,rfl,Zo,by unfold wB;omega,fun hh=>absurd hh Zd,rfl⟩ ZI
  rw[Zf hd];refine GOH ?_;refine VC.loop (α:=Nat×Int) (Γf:=fun z=>[(1,vi z.2),(2,vi d),(3,kE q),(7,vi z.1)]) (Hf:=fun _=>[A,kA q 0 [cv k,vi n,uv b,.string t,.slice a items.length c]])
   (I:=fun z=>z.1<=items.length/\0<=z.2/\z.2<=wB s/\(z.2<=262144->s+1+Lt.sizes (items.take z.1)<=z.2)) (μ:=fun z=>items.length - z.1) (0,s+1+t.size) ⟨Qf _,by simp only;omega,by simp only;unfold wB;omega,fun _=>by simp only[QS,Lt.sizes];omega⟩ ZU ZI ?_
  rintro⟨j,r⟩ ⟨i1,i2,i3,i4⟩
  simp only at i1 i2 i3 i4;dsimp only;unfold wB at i3;refine GOH ?_;by_cases hj:j < items.length;rotate_left
  ·rw[show decide ((j:Int) < (items.length:Int))=false from Zf Zo];refine GOH ?_;exact kG (Post:=[A]) (.inr rfl) (.tmp Zr .nil) ⟨r,rfl,i2,by unfold wB;omega,fun hh=>(by have:=i4 hh;rw[QR Zo]at this;simp only[Lt.size];omega),rfl⟩ ZI
  rw[show decide ((j:Int) < (items.length:Int))=true from Zt Zo];refine GOH ?_;by_cases hr2:r<=262144;rotate_left
  ·rw[Zf hr2];refine GOH ?_;exact kG (Post:=[A]) (.inr rfl) (.tmp Zr .nil) ⟨r,rfl,i2,by unfold wB;omega,fun hh=>absurd hh hr2,rfl⟩ ZI
  rw[Zt hr2];obtain rfl:=ha Zo;obtain⟨y,hy⟩:∃y,items[j]? =some y:=⟨_,Zg hj⟩;have hym:=hm j hj;have hyr:=hr j y hy;have hyl:=hyr.len;have h1:=Lt.sizes_mem (Zv hy);simp only[Lt.size]at hx;have hcall:=ih y Zo _ hyr r (d+1) i2 Zo Zo Zo;refine GOH ?_;refine kZ Zr Zah hyl ?_;refine GOH ?_;refine kM hcall Zr ZP (fun v Post hv=>?_);obtain⟨r',rfl,h2,h3,h9,rfl⟩:=hv;have i5:=i4 hr2;have htk:=lt_take hy;unfold wB at h3;simp only[CNx];refine GOH ?_;refine⟨(j+1,r'),⟨by simp only;omega,by simp only;omega,by simp only;unfold wB;omega,fun hh=>by simp only at hh|-;have:=h9 hh;rw[htk];omega⟩,by simp only;omega,ZU,ZI⟩
def wN(s:Int):Int:=max s 262144+562949953421316
theorem weighNode_spec(A:List kC):∀(N:Nat) (x:Nd),x.w<=N->∀vs,jQ A x vs->∀(s d:Int),0<=s->s<=1152921504606846976->0<=d->d<=60001->Fun Tryz.prog 24 [.agg vs.toArray,vi s,vi d] [A] (fun v Post=>∃r,v=vi r/\0<=r/\r<=wN s/\(r<=262144->s+x.w<=r)/\Post=[A]):=by
 intro N
 induction N with
 |zero=>intro x hx;have:=x.w_pos;omega
 |succ N ih=>
  intro x hx vs h s d hs1 hs2 hd1 hd2;cases h with
  |@mk k nm lit args temps kids p lv av tv a c bk o us wf hl hav htv ha hm hr hcp=>
  have hmany:=wf.many;have hnm:=wf.name;have hlit:=fun s hs1 hs2=>weighLit_spec A _ lit (QW _) lv hl s 0 hs1 hs2 Zo Zo
  have hat:=fun s hs=>zH A av args hav s hs
  have htt:=fun s hs=>zH A tv temps htv s hs
  obtain⟨aa,ac,rfl,_,_⟩:=hav;obtain⟨ta,tc,rfl,_,_⟩:=htv;obtain⟨la,lc,rfl⟩:=lt_open hl;refine Fun.intro low24 (by simp[n24]) ?_;simp only[CNx];refine GOH ?_;refine kd Zr (fun q=>?_);simp only[Value.cells];refine GOH ?_;refine kM (hlit (s+1+nm.size) Zo Zo) Zr ZP (fun v Post hv=>?_);obtain⟨r1,rfl,h1,h2,w1,rfl⟩:=hv;unfold wB at h2;simp only[CNx];refine GOH ?_;refine kM (hat r1 Zo) Zr ZP (fun v Post hv=>?_);obtain⟨r2,rfl,h3,h4,w2,rfl⟩:=hv;unfold wB at h4;simp only[CNx];refine GOH ?_;refine kM (htt r2 Zo) Zr ZP (fun v Post hv=>?_);obtain⟨r3,rfl,h5,h6,w3,rfl⟩:=hv;unfold wB at h6;simp only[CNx];have w4:r3<=262144->s+1+nm.size+lit.size+args.length+temps.length<=r3:=fun hh=>by
   have a3:=w3 hh;have a2:=w2 Zo;have a1:=w1 Zo;omega
  clear w1 w2 w3;have h7:r3<=wN s:=by unfold wN;omega
  clear h2 h4 h6;refine GOH ?_;by_cases hd:d > 60000
  ·rw[Zt hd];refine GOH ?_;exact kG (Post:=[A]) (.inr rfl) (.tmp Zr .nil) ⟨262145,rfl,Zo,by unfold wN;omega,fun hh=>absurd hh Zd,rfl⟩ ZI
  rw[Zf hd];refine GOH ?_;refine VC.loop (α:=Nat×Int) (Γf:=fun z=>[(1,vi z.2),(2,vi d),(3,kE q),(7,vi z.1)]) (Hf:=fun _=>[A,kA q 0 [cv k,.string nm,cv lit.kind,vi lit.n,uv lit.bits,.string lit.text,.slice la lit.items.length lc,.slice aa args.length ac,.slice ta temps.length tc,.slice a kids.length c,vi p]])
   (I:=fun z=>z.1<=kids.length/\0<=z.2/\z.2<=wN s/\(z.2<=262144->s+1+nm.size+lit.size+args.length+temps.length+Nd.ws (kids.take z.1)<=z.2)) (μ:=fun z=>kids.length - z.1) (0,r3) ⟨Qf _,h5,h7,fun hh=>by simp only at hh|-;have:=w4 hh;simp only[QS,Nd.ws];omega⟩ ZU ZI ?_
  rintro⟨j,r⟩ ⟨i1,i2,i3,i4⟩
  simp only at i1 i2 i3 i4;dsimp only;unfold wN at i3;refine GOH ?_;by_cases hj:j < kids.length;rotate_left
  ·rw[show decide ((j:Int) < (kids.length:Int))=false from Zf Zo];refine GOH ?_;exact kG (Post:=[A]) (.inr rfl) (.tmp Zr .nil) ⟨r,rfl,i2,by unfold wN;omega,fun hh=>(by have:=i4 hh;rw[QR Zo]at this;simp only[Nd.w];omega),rfl⟩ ZI
  rw[show decide ((j:Int) < (kids.length:Int))=true from Zt Zo];refine GOH ?_;by_cases hr2:r<=262144;rotate_left
  ·rw[Zf hr2];refine GOH ?_;exact kG (Post:=[A]) (.inr rfl) (.tmp Zr .nil) ⟨r,rfl,i2,by unfold wN;omega,fun hh=>absurd hh hr2,rfl⟩ ZI
  rw[Zt hr2];obtain rfl:=ha Zo;obtain⟨y,hy⟩:∃y,kids[j]? =some y:=⟨_,Zg hj⟩;have hym:=hm j hj;have hyr:=hr j y hy;have hyl:=hyr.len;have h1:=Nd.ws_mem (Zv hy);simp only[Nd.w]at hx;have hcall:=ih y Zo _ hyr r (d+1) i2 Zo Zo Zo;refine GOH ?_;refine kZ Zr Zah hyl ?_;refine GOH ?_;refine kM hcall Zr ZP (fun v Post hv=>?_);obtain⟨r',rfl,h2,h3,h9,rfl⟩:=hv;have i5:=i4 hr2;have htk:=nd_take hy;unfold wN at h3;exact zC2
theorem weighMethod_spec(A:List kC)(x:Md)(vs:List Value)(h:MdW A x vs):Fun Tryz.prog 42 [.agg vs.toArray] [A] (fun v Post=>∃r,v=vi r/\(r<=262144->x.args.length+x.temps.length+Nd.ws x.body<=r)/\Post=[A]):=by
 obtain⟨⟨aa,ac,ta,tc,a,c,bk,o,us,rfl,hav,htv,hk⟩,hsel,hprim⟩:=h;have hat:=fun s hs=>zH A _ x.args hav s hs
 have htt:=fun s hs=>zH A _ x.temps htv s hs
 obtain⟨s,args,temps,p,body⟩:=x;simp only at*;have hmany:=hk.many;refine Fun.intro low42 (by simp[n42]) ?_;refine GOH ?_;refine kd Zr (fun q=>?_);simp only[Value.cells];refine GOH ?_;refine kM (hat s.size Zo) Zr ZP (fun v Post hv=>?_);obtain⟨r1,rfl,h1,h2,w1,rfl⟩:=hv;unfold wB at h2;simp only[CNx];refine GOH ?_;refine kM (htt r1 Zo) Zr ZP (fun v Post hv=>?_);obtain⟨r2,rfl,h3,h4,w2,rfl⟩:=hv;have w4:r2<=262144->args.length+temps.length<=r2:=fun hh=>by
  have a2:=w2 hh;have a1:=w1 Zo;omega
 clear w1 w2;unfold wB at h4;simp only[CNx];have h5:r2<=wN 0+1000000000000000:=by unfold wN;omega
 clear h2 h4;refine GOH ?_;refine VC.loop (α:=Nat×Int) (Γf:=fun z=>[(1,kE q),(3,vi z.2),(4,vi z.1)]) (Hf:=fun _=>[A,kA q 0 [.string s,.slice aa args.length ac,.slice ta temps.length tc,vi p,.slice a body.length c]])
  (I:=fun z=>z.1<=body.length/\0<=z.2/\z.2<=wN 0+1000000000000000/\(z.2<=262144->args.length+temps.length+Nd.ws (body.take z.1)<=z.2)) (μ:=fun z=>body.length - z.1) (0,r2) ⟨Qf _,h3,h5,fun hh=>by simp only at hh|-;have:=w4 hh;simp only[QS,Nd.ws];omega⟩ ZU ZI ?_
 rintro⟨j,r⟩ ⟨i1,i2,i3,i4⟩
 simp only at i1 i2 i3 i4;dsimp only;unfold wN at i3;refine GOH ?_;by_cases hj:j < body.length;rotate_left
 ·rw[show decide ((j:Int) < (body.length:Int))=false from Zf Zo];refine GOH ?_;exact kG (Post:=[A]) (.inr rfl) (.tmp Zr .nil) ⟨r,rfl,fun hh=>(by have:=i4 hh;rw[QR Zo]at this;omega),rfl⟩ ZI
 rw[show decide ((j:Int) < (body.length:Int))=true from Zt Zo];refine GOH ?_;by_cases hr2:r<=262144;rotate_left
 ·rw[Zf hr2];refine GOH ?_;exact kG (Post:=[A]) (.inr rfl) (.tmp Zr .nil) ⟨r,rfl,fun hh=>absurd hh hr2,rfl⟩ ZI
 rw[Zt hr2];obtain rfl:=hk.at_ Zo;obtain⟨y,hy⟩:∃y,body[j]? =some y:=⟨_,Zg hj⟩;have hym:=hk.mem j hj;have hyl:=(hk.rd j y hy).len;have hcall:=weighNode_spec A _ y (QW _) _ (hk.rd j y hy) r 0 i2 Zo Zo Zo;refine GOH ?_;refine kZ Zr Zah hyl ?_;refine GOH ?_;refine kM hcall Zr ZP (fun v Post hv=>?_);obtain⟨r',rfl,h2,h4,h9,rfl⟩:=hv;have i5:=i4 hr2;have htk:=nd_take hy;unfold wN at h4;exact zC2
theorem far_spec(A:List kC)(x:Md)(vs:List Value)(h:MdW A x vs)(F G:List ByteArray)(fv gv:Value)(hF:RdT A fv F)(hG:RdT A gv G):Fun Tryz.prog 12 [.agg vs.toArray,fv,gv] [A] (fun v Post=>∃b,v=.bool b/\(b=false->cntM x.args x.temps x.body<=1048576/\Nd.ws x.body<=65536/\F.length<=65536/\G.length<=65536)/\Post=[A]):=by
 have hw:=weighMethod_spec A x vs h;have hcw:=cntsN_ws x.body;obtain⟨⟨aa,ac,ta,tc,a,c,bk,o,us,rfl,hav,htv,hk⟩,hsel,hprim⟩:=h;obtain⟨fa,fc,rfl,hfl,_⟩:=hF;obtain⟨ga,gc,rfl,hgl,_⟩:=hG;refine Fun.intro low12 (by simp[n12]) ?_;refine GOH ?_;refine kd Zr (fun q=>?_);simp only[Value.cells];refine GOH ?_;refine kM hw Zr ZP (fun v Post hv=>?_);obtain⟨r,rfl,hr,rfl⟩:=hv;simp only[CNx];refine GOH ?_;by_cases h1:65536 < r
 ·rw[Zt h1];exact zDO
 rw[Zf h1];refine GOH ?_;by_cases h2:65536 < (F.length:Int)
 ·rw[Zt h2];exact zDO
 rw[Zf h2];refine GOH ?_;have hr:=hr Zo;exact kG (Post:=[A]) (.inr rfl) (.tmp Zr .nil) ⟨_,rfl,fun hh=>⟨by unfold cntM cntR;omega,Zo,Zo,by simp at hh;omega⟩,rfl⟩ ZI
end Go.Proofs.YtijnokbblmbpkaaGreatDoor
namespace Go.V
open Go
mutual
theorem finS_w(st:SSt)(u:Nat):∀(x:PN),PN.w (finS st u x)=PN.w x
 |.mk k s l rs n b kids=>by
  rw[finS];simp only[PN.w,Vp];rw[finsS_ws st u kids]
theorem finsS_ws(st:SSt)(u:Nat):∀(l:List PN),PN.ws (finsS st u l)=PN.ws l
 |[]=>by rw[finsS]
 |x::r=>by
  rw[finsS];simp only[PN.ws];rw[finS_w st u x,finsS_ws st u r]
end
structure SoundL (l:List wZ)(n c:Nat):Prop where
 pos:0 < l.length
 many:l.length<=255
 first:∃y,l[0]? =some y/\y.outer=-1/\y.copied=[]/\y.args=(n:Int)
 unit:∀i x,l[i]? =some x->UnitOk l i x/\x.frame<=63/\x.vector<=63/\PN.ws x.body<=2*c
theorem root_sound(F G args temps:List ByteArray)(kids:List Nd)(hk:∀y∈kids,kO y≠none){l:List wZ}(hf:(rootS F G args temps kids).f=none)(h:(rootS F G args temps kids).answer=(l,0,0)):SoundL l args.length (cntM args temps kids):=by
 have hr:=root_ok F G args temps kids;have hp:=root_pp F G args temps kids hk;generalize rootS F G args temps kids=st at hf h hr hp;unfold SSt.answer at h;rw[hf]at h;simp only at h;split at h
 ·cases h
 rename_i h255;split at h
 ·cases h
 rename_i hbig;have h1:(List.range st.outer.length).map st.unitR=l:=congrArg Prod.fst h;have h0:=hr.first.1
 have hl0:0 < st.outer.length:=(Vd.1 h0).1;have hll:l.length=st.outer.length:=by rw[<- h1];simp
 have hget:∀i,i < st.outer.length->l[i]? =some (st.unitR i):=fun i hi=>by rw[<- h1];simp[hi]
 refine⟨Zo,Zo,⟨st.unitR 0,hget 0 hl0,?_,?_,?_⟩,fun i x hx=>?_⟩
 ·show st.outer.getD 0 (-1)=-1;rw[V5,h0];rfl
 ·show(st.copied 0).map _=[];rw[hr.copied0,Q0]
 ·show((st.args.getD 0 0:Nat):Int)=args.length;rw[V5,hr.first.2];rfl
 ·have hi:i < st.outer.length:=by
   have:=(Vd.1 hx).1;omega
  have e:=hget i hi;rw[hx]at e;obtain rfl:=Qn e;have hb:(st.unitR i).big=false:=by
   rw[Bool.not_eq_true]at hbig;rw[List.any_eq_false]at hbig;have:=hbig (st.unitR i) (Zv (by rw[h1];exact hget i hi));simpa using this
  unfold wZ.big at hb;rw[vN]at hb;have b1:=of_decide_eq_false hb.1;have b2:=of_decide_eq_false hb.2;refine⟨by rw[<- h1];exact hr.ph.unit hp hi,Zo,Zo,?_⟩;show PN.ws (finsS st i (st.bodies.getD i []))<=_;rw[finsS_ws];refine hr.bw.bd _ ?_;have hbl:i < st.bodies.length:=by rw[hr.ph.wf.bl];exact hi
  rw[V5,Zg hbl];exact List.getElem_mem hbl
end Go.V
namespace Go.Proofs.YtijnokbblmbpkaaGreatDoor
open Go Go.V
set_option maxHeartbeats 6400000
set_option maxRecDepth 100000
theorem frame_spec(T:List kC)(x:wZ)(vs:List Value)(h:URd T x vs)(h1:0<=x.args)(h2:0<=x.locals)(h3:x.frame<=63):Fun Tryz.prog 39 [.agg vs.toArray] [T] (fun v Post=>v=.int .i64 x.frame/\Post=[T]):=by
 obtain⟨cv,bv,rfl,⟨ca,cc,rfl,hc⟩,⟨ba,bc,bk,bo,us,rfl,_⟩⟩:=h;have hfr:x.frame=x.args+x.copied.length+x.locals+(if 0 < x.vector then 1 else 0):=rfl;refine Fun.intro low39 (by simp[n39]) ?_;unfold unitRow;by_cases hv:0 < x.vector
 ·rw[if_pos hv]at hfr;refine jU ?_;refine kd Zr (fun q=>?_);simp only[Value.cells];refine GOH ?_;rw[show decide (x.vector > 0)=true from Zt hv];refine GOH ?_;exact kG (Post:=[T]) (.inr rfl) (.tmp Zr .nil) ⟨by rw[hfr];rfl,rfl⟩ ZI
 ·rw[if_neg hv]at hfr;refine jU ?_;refine kd Zr (fun q=>?_);simp only[Value.cells];refine GOH ?_;rw[show decide (x.vector > 0)=false from Zf hv];refine GOH ?_;exact kG (Post:=[T]) (.inr rfl) (.tmp Zr .nil) ⟨by rw[hfr,Int.add_zero];rfl,rfl⟩ ZI
theorem liesPs_mem {n m:Int}:∀{l:List PN} {x:PN},liesPs n m l=true->x∈l->liesP n m x=true
 |[],_,_,h=>by cases h
 |y::r,x,h,hx=>by
  rw[liesPs,vF]at h;rcases Q4.1 hx with rfl|hx
  ·exact h.1
  ·exact liesPs_mem h.2 hx
theorem pws_len:∀(l:List PN),l.length<=PN.ws l
 |[]=>QW _
 |x::r=>by
  have:=pws_len r;have:0 < PN.w x:=by cases x;simp only[PN.w];omega
  rw[Vl];simp only[PN.ws];omega
theorem lies_spec(T:List kC)(n m:Int):∀(N:Nat) (x:PN),PN.w x<=N->∀vs,PRd T x vs->liesP n m x=true->PN.w x<=1099511627776->Fun Tryz.prog 40 [.agg vs.toArray,.int .i64 n,.int .i64 m] [T] (fun v Post=>v=.bool true/\Post=[T]):=by
 intro N
 induction N with
 |zero=>intro x hx;cases x;simp only[PN.w]at hx;omega
 |succ N ih=>
  intro x hx vs h hli hw;cases h with
  |@mk k nm lit refs un sup kids lv rv a c bk o us hl hr ha hm hs=>
  obtain⟨ra,rc,rfl,hrr⟩:=hr;obtain⟨la,lc,rfl⟩:=lt_open hl;rw[liesP]at hli;simp only[PN.w]at hx hw;rw[vF,vF]at hli;obtain⟨⟨hl1,hl2⟩,hl3⟩:=hli;refine Fun.intro low40 (by simp[n40]) ?_;simp only[CNx];refine jU ?_;refine kd Zr (fun q=>?_);simp only[Value.cells];refine jU ?_;obtain⟨X,hX⟩:∃X,X=[cv k,.string nm,cv lit.kind,vi lit.n,uv lit.bits,.string lit.text,.slice la lit.items.length lc,.slice ra refs.length rc,.int .i64 un,.bool sup,.slice a kids.length c]:=⟨_,rfl⟩;refine VC.join (α:=Unit) (Γf:=fun _=>[(1,.int .i64 n),(2,.int .i64 m),(3,kE q)]) (Hf:=fun _=>[kA q 0 [cv k,.string nm,cv lit.kind,vi lit.n,uv lit.bits,.string lit.text,.slice la lit.items.length lc,.slice ra refs.length rc,.int .i64 un,.bool sup,.slice a kids.length c],T]) (I:=fun _=>True) ?_ ?_
  ·refine GOH ?_;refine VC.loop (α:=Nat) (Γf:=fun j=>[(1,.int .i64 n),(2,.int .i64 m),(3,kE q),(7,vi j)]) (Hf:=fun _=>[kA q 0 [cv k,.string nm,cv lit.kind,vi lit.n,uv lit.bits,.string lit.text,.slice la lit.items.length lc,.slice ra refs.length rc,.int .i64 un,.bool sup,.slice a kids.length c],T]) (I:=fun j=>j<=refs.length) (μ:=fun j=>refs.length - j) 0 (Qf _) ZU ZI ?_;intro j hj;refine GOH ?_;by_cases hlt:j < refs.length;rotate_left
   ·rw[show decide ((j:Int) < (refs.length:Int))=false from Zf Zo];exact zAP
   rw[show decide ((j:Int) < (refs.length:Int))=true from Zt Zo];obtain⟨r,hrj⟩:∃r,refs[j]? =some r:=⟨_,Zg hlt⟩;obtain⟨rb,ro,rfl,hrm⟩:=hrr j r hrj;have hlr:=vX.1 hl1 r (Zv hrj);unfold liesR at hlr;rw[vK,vN,vN,vN]at hlr;obtain⟨⟨⟨t1,t2⟩,t3⟩,t4⟩:=hlr;have hx55:(!(decide ((r.kind:Int)=8)==!decide (r.name=⟨#[]⟩)))=false:=by
    have e1:decide ((r.kind:Int)=8)=decide (r.kind=8):=by
     by_cases c:r.kind=8
     ·rw[Zt c,Zt Zo]
     ·rw[Zf c,Zf Zo]
    rw[show decide (r.name≠e0)=!decide (r.name=e0)from decide_not]at t4;rw[e1];exact t4
   refine GOH ?_;refine kZ (us:=jG r) Zr (fun u hu=>Q3 _ (Zw _ (hrm u hu))) rfl ?_;unfold jG;refine GOH ?_;refine kL (fun q8=>?_);refine GOH ?_;rw[t1];refine GOH ?_;rw[t2];refine GOH ?_;by_cases c5:r.kind=5
   ·have hni:¬n<=r.index:=fun hh=>by rw[Zt (Or.inl c5:r.kind=5∨r.kind=6),Zt hh]at t3;cases t3
    rw[show decide ((r.kind:Int)=5)=true from Zt Zo];refine GOH ?_;rw[show decide (r.index ≥ n)=false from Zf hni];refine GOH ?_;rw[hx55];exact zD1
   rw[show decide ((r.kind:Int)=5)=false from Zf Zo];refine GOH ?_;by_cases c6:r.kind=6
   ·have hni:¬n<=r.index:=fun hh=>by rw[Zt (Or.inr c6:r.kind=5∨r.kind=6),Zt hh]at t3;cases t3
    rw[show decide ((r.kind:Int)=6)=true from Zt Zo];refine GOH ?_;rw[show decide (r.index ≥ n)=false from Zf hni];refine GOH ?_;rw[hx55];exact zD1
   rw[show decide ((r.kind:Int)=6)=false from Zf Zo];refine GOH ?_;rw[hx55];exact zD1
  rintro⟨⟩ -
  refine VC.join (α:=Unit) (Γf:=fun _=>[(1,.int .i64 n),(2,.int .i64 m),(3,kE q)]) (Hf:=fun _=>[kA q 0 [cv k,.string nm,cv lit.kind,vi lit.n,uv lit.bits,.string lit.text,.slice la lit.items.length lc,.slice ra refs.length rc,.int .i64 un,.bool sup,.slice a kids.length c],T]) (I:=fun _=>True) ?_ ?_
  ·refine GOH ?_;by_cases c8:k=8
   ·rw[Zt c8,vR,vK,vN]at hl2;rw[show decide ((k:Int)=8)=true from Zt Zo];refine GOH ?_;rw[hl2.1];refine GOH ?_;rw[show decide (un ≥ m)=false from hl2.2];exact zAP
   ·rw[show decide ((k:Int)=8)=false from Zf Zo];exact zAP
  rintro⟨⟩ -
  refine VC.join (α:=Unit) (Γf:=fun _=>[(1,.int .i64 n),(2,.int .i64 m),(3,kE q)]) (Hf:=fun _=>[kA q 0 [cv k,.string nm,cv lit.kind,vi lit.n,uv lit.bits,.string lit.text,.slice la lit.items.length lc,.slice ra refs.length rc,.int .i64 un,.bool sup,.slice a kids.length c],T]) (I:=fun _=>True) ?_ ?_
  ·refine GOH ?_;refine VC.loop (α:=Nat) (Γf:=fun j=>[(1,.int .i64 n),(2,.int .i64 m),(3,kE q),(9,vi j)]) (Hf:=fun _=>[kA q 0 [cv k,.string nm,cv lit.kind,vi lit.n,uv lit.bits,.string lit.text,.slice la lit.items.length lc,.slice ra refs.length rc,.int .i64 un,.bool sup,.slice a kids.length c],T]) (I:=fun j=>j<=kids.length) (μ:=fun j=>kids.length - j) 0 (Qf _) ZU ZI ?_;intro j hj;have hkl:=pws_len kids;refine GOH ?_;by_cases hlt:j < kids.length;rotate_left
   ·rw[show decide ((j:Int) < (kids.length:Int))=false from Zf Zo];exact zAP
   rw[show decide ((j:Int) < (kids.length:Int))=true from Zt Zo];obtain⟨y,hy⟩:∃y,kids[j]? =some y:=⟨_,Zg hlt⟩;obtain rfl:=ha Zo;have hyw:=PN.w_mem (Zv hy);have hcall:=ih y Zo (us j) (hs j y hy) (liesPs_mem hl3 (Zv hy)) Zo;refine GOH ?_;refine kZ (us:=us j) Zr (fun u hu=>Q3 _ (Zw _ (hm j hlt u hu))) (hs j y hy).len ?_;refine GOH ?_;refine kM hcall Zr ZP (fun v Post hv=>?_);obtain⟨rfl,rfl⟩:=hv;simp only[CNx];exact zD1
  rintro⟨⟩ -
  refine GOH ?_;exact kG (Post:=[T]) (.inr rfl) (.tmp Zr .nil) ⟨rfl,rfl⟩ ZI
end Go.Proofs.YtijnokbblmbpkaaGreatDoor
namespace Go.Proofs.YtijnokbblmbpkaaGreatDoor
open Go Go.V
set_option maxHeartbeats 12800000
set_option maxRecDepth 100000
theorem ans_sound {F G:List ByteArray}{x:Md}{l:List wZ}(h:ansM F G x=(l,0,0)):SoundL l x.args.length (cntM x.args x.temps x.body):=by
 unfold ansM at h;split at h
 case isFalse hc=>exact absurd (congrArg (fun t=>t.2.1) h) hc
 rename_i hc;have hk:=stmts_all hc;refine root_sound F G x.args x.temps x.body hk ?_ h;cases hf:(rootS F G x.args x.temps x.body).f with
 |none=>rfl
 |some e=>
  obtain⟨e,p⟩:=e;have h1:=answer_f hf;rw[h]at h1;have h2:=root_err F G x.args x.temps x.body hf;have h3:(0:Nat)=e:=congrArg (fun t=>t.2.1) h1;unfold errW at h2;omega
theorem ScopeSound_spec(A:List kC)(hE:ErA A)(hT:EtA∈A)(x:Md)(vs:List Value)(h:MdW A x vs)(F G:List ByteArray)(fv gv:Value)(hF:RdT A fv F)(hG:RdT A gv G):Fun Tryz.prog 8 [.agg vs.toArray,fv,gv] [A] (fun v Post=>v=.bool true/\Post=[A]):=by
 have hfar:=far_spec A x vs h F G fv gv hF hG;have hres:=fun hw=>Resolve_spec A x vs (h.ok hE hw) F G fv gv hF hG
 have hsz:=sizes_ws x.body;have hargs:x.args.length<=1099511627776:=by
  obtain⟨⟨aa,ac,ta,tc,a,c,bk,o,us,_,hav,_⟩,_⟩:=h;obtain⟨_,_,_,g,_⟩:=hav;exact g
 obtain⟨⟨aa,ac,ta,tc,a,c,bk,o,us,rfl,hav,htv,hk⟩,hsel,hprim⟩:=h;obtain⟨fa,fc,rfl,hfl,hfr⟩:=hF;obtain⟨ga,gc,rfl,hgl,hgr⟩:=hG;refine Fun.intro low8 (by simp[n8]) ?_;refine GOH ?_;refine kd Zr (fun q3=>?_);simp only[Value.cells];refine GOH ?_;refine kM (awake_spec A hE hT) Zr ZP (fun v Post hv=>?_);obtain⟨rfl,rfl⟩:=hv;simp only[CNx];refine GOH ?_;refine kM hfar Zr ZP (fun v Post hv=>?_);obtain⟨b,rfl,hb,rfl⟩:=hv;simp only[CNx];cases b with
 |true=>
  exact zC0
 |false=>
 obtain⟨hb1,hb2,hb3,hb4⟩:=hb rfl;refine GOH ?_;refine kM (hres Zo Zo Zo hb1 Zo Zo) Zr ZP (fun v Post hv=>?_);rcases hv with⟨l,usv,B,e1,rfl,hus,rfl⟩|⟨e,p,q,e1,hne,rfl,rfl⟩
 rotate_left
 ·simp only[CNx];refine GOH ?_;refine kL (fun q9=>?_);exact zC0
 simp only[CNx];have hs:=ans_sound e1;clear hfar hres e1;obtain⟨la,lc,bk',lo,ws,rfl,g1,g2,g3⟩:=hus;obtain rfl:=g1 hs.pos;obtain⟨y0,hy0,hy1,hy2,hy3⟩:=hs.first
 have hpos:=hs.pos;have h255:=hs.many;refine jU ?_;refine kL (fun q9=>?_);refine jU ?_;have n0:=g2 0 hpos;obtain⟨cv0,bv0,hr0,⟨ca0,cc0,rfl,_⟩,_⟩:=g3 0 y0 hy0;rw[hr0,hy2]at n0;have f0:kC.cell bk' lo (.int .i64 (-1))∈B:=n0 _ (kI.2 ⟨0,_,rfl,by simp[hy1]⟩);have f1:kC.cell bk' (lo+1) (.int .i64 x.args.length)∈B:=n0 _ (kI.2 ⟨1,_,rfl,by simp[hy3]⟩);have f2:kC.cell bk' (lo+2) (.slice ca0 0 cc0)∈B:=n0 _ (kI.2 ⟨2,_,rfl,Zs⟩);refine VC.join (α:=Unit) (Γf:=fun _=>[(3,kE q3),(9,kE q9)]) (Hf:=fun _=>[kA q9 0 [.string x.sel,vi x.prim,.slice (some ⟨bk',lo,none⟩) l.length lc],kA q3 0 [.string x.sel,.slice aa x.args.length ac,.slice ta x.temps.length tc,vi x.prim,.slice a x.body.length c],A,B]) (I:=fun _=>True) ?_ ?_
 ·exact zAP
 rintro⟨⟩ -
 refine VC.join (α:=Unit) (Γf:=fun _=>[(9,kE q9)]) (Hf:=fun _=>[kA q9 0 [.string x.sel,vi x.prim,.slice (some ⟨bk',lo,none⟩) l.length lc],A,B]) (I:=fun _=>True) ?_ ?_
 ·refine VC.seq (VC.draws ⟨?_,trivial⟩);refine GOH ?_;rw[show decide ((l.length:Int)=0)=false from Zf Zo];refine GOH ?_;rw[show decide ((l.length:Int) > 255)=false from Zf Zo];exact zAP
 rintro⟨⟩ -
 refine VC.join (α:=Unit) (Γf:=fun _=>[(9,kE q9)]) (Hf:=fun _=>[kA q9 0 [.string x.sel,vi x.prim,.slice (some ⟨bk',lo,none⟩) l.length lc],A,B]) (I:=fun _=>True) ?_ ?_;rotate_left
 ·rintro⟨⟩ -
  exact zC0
 refine GOH ?_;refine VC.loop (α:=Nat) (Γf:=fun j=>[(9,kE q9),(11,vi j)]) (Hf:=fun _=>[kA q9 0 [.string x.sel,vi x.prim,.slice (some ⟨bk',lo,none⟩) l.length lc],A,B]) (I:=fun j=>j<=l.length) (μ:=fun j=>l.length - j) 0 (Qf _) ZU ZI ?_;intro i hi;refine GOH ?_;by_cases hlt:i < l.length;rotate_left
 ·rw[show decide ((i:Int) < (l.length:Int))=false from Zf Zo];exact zAP
 rw[show decide ((i:Int) < (l.length:Int))=true from Zt Zo];obtain⟨y,hy⟩:∃y,l[i]? =some y:=⟨_,Zg hlt⟩;have hur:=g3 i y hy;have hum:=g2 i hlt;obtain⟨huo,hu1,hu2,hu3⟩:=hs.unit i y hy;have hframe:=frame_spec B y (ws i) hur huo.args huo.locals hu1;have hul:=hur.len;obtain⟨cv,bv,hws,hcr,hbr⟩:=hur;obtain⟨ca,cc,rfl,hcm⟩:=hcr;obtain⟨ba,bc,bbk,bo,bus,rfl,hba,hbm,hbs⟩:=hbr;refine GOH ?_;refine kZ (us:=ws i) Zr (fun u hu=>by have:=hum u hu;simp only[vz,Q1];simp[this]) hul ?_;rw[hws]at hframe|-;unfold unitRow at hframe|-;refine GOH ?_;refine kL (fun q12=>?_);refine GOH ?_;refine kM hframe Zr ZP (fun v Post hv=>?_);obtain⟨rfl,rfl⟩:=hv;simp only[CNx];refine jU ?_;refine VC.join (α:=Unit) (Γf:=fun _=>[(9,kE q9),(11,vi i),(12,kE q12),(13,.int .i64 y.frame)]) (Hf:=fun _=>[kA q12 0 [.int .i64 y.outer,.int .i64 y.args,.slice ca y.copied.length cc,.int .i64 y.locals,.int .i64 y.vector,.slice ba y.body.length bc],kA q9 0 [.string x.sel,vi x.prim,.slice (some ⟨bk',lo,none⟩) l.length lc],A,B]) (I:=fun _=>True) ?_ ?_
 ·refine GOH ?_;rw[show decide (y.frame > 63)=false from Zf Zo];refine GOH ?_;rw[show decide (y.vector > 63)=false from Zf Zo];refine GOH ?_;have ha0:=huo.args;have hl0:=huo.locals;rw[show decide (y.args < 0)=false from Zf Zo];refine GOH ?_;rw[show decide (y.locals < 0)=false from Zf Zo];refine GOH ?_;by_cases hi0:0 < i
  ·obtain⟨ho1,ho2⟩:=huo.outer hi0;rw[show decide ((i:Int) > 0)=true from Zt Zo];refine GOH ?_;rw[show decide (y.outer < 0)=false from Zf Zo];refine GOH ?_;rw[show decide (y.outer ≥ (i:Int))=false from Zf Zo];exact zAP
  ·rw[show decide ((i:Int) > 0)=false from Zf Zo];exact zAP
 rintro⟨⟩ -
 have hcl:y.copied.length<=63:=by
  have ha0:=huo.args;have hl0:=huo.locals;have:y.frame=y.args+y.copied.length+y.locals+(if 0 < y.vector then 1 else 0):=rfl;split at this <;> omega
 have hbl:=pws_len y.body;refine VC.join (α:=Unit) (Γf:=fun _=>[(9,kE q9),(11,vi i),(12,kE q12),(13,.int .i64 y.frame)]) (Hf:=fun _=>[kA q12 0 [.int .i64 y.outer,.int .i64 y.args,.slice ca y.copied.length cc,.int .i64 y.locals,.int .i64 y.vector,.slice ba y.body.length bc],kA q9 0 [.string x.sel,vi x.prim,.slice (some ⟨bk',lo,none⟩) l.length lc],A,B]) (I:=fun _=>True) ?_ ?_
 ·refine GOH ?_;refine VC.loop (α:=Nat) (Γf:=fun j=>[(9,kE q9),(11,vi i),(12,kE q12),(13,.int .i64 y.frame),(14,vi j)]) (Hf:=fun _=>[kA q12 0 [.int .i64 y.outer,.int .i64 y.args,.slice ca y.copied.length cc,.int .i64 y.locals,.int .i64 y.vector,.slice ba y.body.length bc],kA q9 0 [.string x.sel,vi x.prim,.slice (some ⟨bk',lo,none⟩) l.length lc],A,B]) (I:=fun j=>j<=y.copied.length) (μ:=fun j=>y.copied.length - j) 0 (Qf _) ZU ZI ?_;intro k hk';refine GOH ?_;by_cases hkl:k < y.copied.length;rotate_left
  ·rw[show decide ((k:Int) < (y.copied.length:Int))=false from Zf Zo];exact zAP
  rw[show decide ((k:Int) < (y.copied.length:Int))=true from Zt Zo];obtain⟨r,hr⟩:∃r,y.copied[k]? =some r:=⟨_,Zg hkl⟩;obtain⟨cb,co,rfl,hrm⟩:=hcm k r hr;obtain⟨hk5,hri,o',z,ho,hz,hrz⟩:=huo.cop r (Zv hr);have e5:jG r=[.int .u8 5,.int .i64 r.index,.int .i64 r.slot,.string r.name]:=by unfold jG;rw[hk5];rfl
  rw[e5]at hrm;have k0:kC.cell cb (co+k*4) (.int .u8 5)∈B:=hrm _ (kI.2 ⟨0,_,rfl,Zs⟩);have k1:kC.cell cb (co+k*4+1) (.int .i64 r.index)∈B:=hrm _ (kI.2 ⟨1,_,rfl,Zs⟩);have hol:=(Vd.1 hz).1;obtain⟨zuo,zu1,zu2,zu3⟩:=hs.unit o' z hz;have hzr:=g3 o' z hz;have hzm:=g2 o' hol;have hzf:=frame_spec B z (ws o') hzr zuo.args zuo.locals zu1;have hzl:=hzr.len;rw[ho];refine jU ?_;refine VC.join (α:=Unit) (Γf:=fun _=>[(9,kE q9),(11,vi i),(12,kE q12),(13,.int .i64 y.frame),(14,vi k),(163,.bool false)]) (Hf:=fun _=>[kA q12 0 [.int .i64 (o':Int),.int .i64 y.args,.slice (some ⟨cb,co,none⟩) y.copied.length cc,.int .i64 y.locals,.int .i64 y.vector,.slice ba y.body.length bc],kA q9 0 [.string x.sel,vi x.prim,.slice (some ⟨bk',lo,none⟩) l.length lc],A,B]) (I:=fun _=>True) ?_ ?_
  ·refine VC.draws ⟨?_,?_,?_,trivial⟩
   ·skip
    exact zAM
   ·skip
    exact zAM
   ·skip
    exact zAM
  rintro⟨⟩ -
  refine GOH ?_;exact⟨k+1,Zo,Zo,ZU,ZI⟩
 rintro⟨⟩ -
 have hwb:=hu3
 ·refine GOH ?_;refine VC.loop (α:=Nat) (Γf:=fun j=>[(9,kE q9),(11,vi i),(12,kE q12),(13,.int .i64 y.frame),(15,vi j)]) (Hf:=fun _=>[kA q12 0 [.int .i64 y.outer,.int .i64 y.args,.slice ca y.copied.length cc,.int .i64 y.locals,.int .i64 y.vector,.slice ba y.body.length bc],kA q9 0 [.string x.sel,vi x.prim,.slice (some ⟨bk',lo,none⟩) l.length lc],A,B]) (I:=fun j=>j<=y.body.length) (μ:=fun j=>y.body.length - j) 0 (Qf _) ZU ZI ?_;intro k hk';refine GOH ?_;by_cases hkl:k < y.body.length;rotate_left
  ·rw[show decide ((k:Int) < (y.body.length:Int))=false from Zf Zo];refine GOH ?_;exact⟨i+1,Zo,Zo,ZU,ZI⟩
  rw[show decide ((k:Int) < (y.body.length:Int))=true from Zt Zo];obtain⟨p,hp⟩:∃p,y.body[k]? =some p:=⟨_,Zg hkl⟩;obtain rfl:=hba Zo;have hpw:=PN.w_mem (Zv hp);have hcall:=lies_spec B y.frame l.length _ p (QW _) (bus k) (hbs k p hp) (liesPs_mem huo.body (Zv hp)) Zo;have hbk:=hbm k hkl;refine GOH ?_;refine kZ (us:=bus k) Zr (fun u hu=>by have:=hbk u hu;simp only[vz,Q1];simp[this]) (hbs k p hp).len ?_;refine GOH ?_;refine kM hcall Zr ZP (fun v Post hv=>?_);obtain⟨rfl,rfl⟩:=hv;simp only[CNx];refine GOH ?_;exact⟨k+1,Zo,Zo,ZU,ZI⟩
end Go.Proofs.YtijnokbblmbpkaaGreatDoor

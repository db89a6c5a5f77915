/-
  The code of functions, as terms: printed by a program, proved to be what the seat has.
-/
import Derived.Test.YtijnokbblmbpkaaGreatDoorS17
import Derived.KernelRfl
import Derived.Test.YtijnokbblmbpkaaGreatDoorProg
import Derived.Test.YtijnokbblmbpkaaGreatDoorS10
set_option linter.unusedSimpArgs false
set_option linter.unusedVariables false
namespace Go.Proofs.YtijnokbblmbpkaaGreatDoor
open Go Go.V
set_option maxRecDepth 100000
def F108:FIR:=laid (X:=⟨34,[.tmp 8],(qS [qo 8 (.mv (.const (Value.map none)))] [0,1,2,3] (qS [qm 12 0,qx 13 171 [12],qm 9 13] [1,2,3,9] (.seq (qS [qm 14 2,qL 15 14,qk 16 0] [1,3,9,14,15,16] (.block 0 (.loop (qS [qb 17 .lss 16 15] [1,3,9,14,15,16,17] (.seq (qC 17 .skip (.exit 0)) (.seq (.block 1 (qS [qm 18 16,qi 19 1 14 16,ql 20 19,qm 10 18,qm 11 20] [1,3,9,10,11,14,15,16] (.seq (qS [qm 21 9,qm 22 11,qo 23 (.lookup .str (.pointer none) false (.tmp 21) (.tmp 22)),qo 24 (.eqnil true .ptr (.tmp 23))] [1,3,9,10,11,14,15,16,24] (qC 24 (.reg [qm 25 1,qo 26 (.call 113 [(.const (.int .i64 180)),(.tmp 25)])] [1,3,9,10,11,14,15,16]) .skip)) (.reg [qm 27 9,qm 28 11,qm 29 3,qm 30 10,qo 31 (.callv (.tmp 29) [(.tmp 30)]),⟨none,none,.mapupd .str (.tmp 27) (.tmp 28) (.tmp 31)⟩] [1,3,9,14,15,16])))) (.reg [qc 32 .add 16 1,qm 16 32] [1,3,9,14,15,16]))))))) (qS [qm 33 9,qm 8 33] [8] .ret))))⟩)
theorem n108:F108.n=34:=rfl
theorem low108:ki Tryz.prog (kpO F108) (kQ []) 108=some F108:=by kernel_rfl
def F209:FIR:=laid (X:=⟨78,[.cellN 8 4,.tmp 9],(qS [qB 5 72 1,qo 8 (.alloc 102 [(.int .u8 0),(.int .i64 0),(.int .i64 0),(.string ⟨#[]⟩)]),
 qo 9 (.mv (.const (.pointer none)))] [0,2,3,5,8] (.seq (qS [qf 13 1 5,ql 14 13] [0,2,3,5,8,14] (.block 0 (.seq (qS [qo 16 (.bin .eql (.tmp 14) (.const (.string ⟨#[115,101,108,102]⟩))),qm 15 16] [0,2,3,5,8,14,15] (qC 15 .skip (.reg [qo 17 (.bin .eql (.tmp 14) (.const (.string ⟨#[115,117,112,101,114]⟩))),qm 15 17] [0,2,3,5,8,14,15]))) (qC 15 (qS [qo 18 (.build [(.int .u8 0),(.int .i64 0),(.int .i64 0),(.string ⟨#[]⟩)] [(0,1,(.const (.int .u8 1)))]),
 qs 4 8 18,qo 9 (.mv (.const (.pointer none)))] [8,9] .ret) (qS [qo 20 (.bin .eql (.tmp 14) (.const (.string ⟨#[110,105,108]⟩))),qm 19 20] [0,2,3,5,8,14,19] (qC 19 (qS [qo 21 (.build [(.int .u8 0),(.int .i64 0),(.int .i64 0),(.string ⟨#[]⟩)] [(0,1,(.const (.int .u8 2)))]),
 qs 4 8 21,qo 9 (.mv (.const (.pointer none)))] [8,9] .ret) (qS [qo 23 (.bin .eql (.tmp 14) (.const (.string ⟨#[116,114,117,101]⟩))),qm 22 23] [0,2,3,5,8,14,22] (qC 22 (qS [qo 24 (.build [(.int .u8 0),(.int .i64 0),(.int .i64 0),(.string ⟨#[]⟩)] [(0,1,(.const (.int .u8 3)))]),
 qs 4 8 24,qo 9 (.mv (.const (.pointer none)))] [8,9] .ret) (qS [qo 26 (.bin .eql (.tmp 14) (.const (.string ⟨#[102,97,108,115,101]⟩))),qm 25 26] [0,2,3,5,8,25] (qC 25 (qS [qo 27 (.build [(.int .u8 0),(.int .i64 0),(.int .i64 0),(.string ⟨#[]⟩)] [(0,1,(.const (.int .u8 4)))]),
 qs 4 8 27,qo 9 (.mv (.const (.pointer none)))] [8,9] .ret) .skip)))))))))) (.seq (qS [qm 28 3,qf 29 1 5,ql 30 29,qo 31 (.lookup .str (.pointer none) false (.tmp 28) (.tmp 30)),qm 10 31] [0,2,5,8,10] (qS [qm 32 10,qo 33 (.eqnil true .ptr (.tmp 32))] [0,2,5,8,10,33] (qC 33 (.seq (qS [qm 34 10,qn 35 34,qf 36 2 35,ql 37 36,qm 38 37,qt 38 (qf 39 0 5),qt 38 (ql 40 39),
 qt 38 (qo 41 (.bin .eql (.tmp 40) (.const (.int .u8 3)))),qa 42 38 41] [2,5,8,10,42] (qC 42 (.reg [qf 43 10 5,ql 44 43,qo 45 (.call 113 [(.const (.int .i64 182)),(.tmp 44)])] [2,8,10]) .skip)) (qS [qm 46 2,qm 47 10,qx 48 232 [46,47]] [8,10] (qS [qo 49 (.build [(.int .u8 0),(.int .i64 0),(.int .i64 0),(.string ⟨#[]⟩)] []),qm 50 10,
 qs 4 8 49,qm 9 50] [8,9] .ret))) .skip))) (.seq (.seq (qD [qm 52 0,qn 53 52,qf 54 0 53,ql 55 54,qf 56 1 5,ql 57 56,qo 58 (.lookup .str (.int .i64 0) true (.tmp 55) (.tmp 57)),
 qm 51 58,qe 59 51 0,qe 60 51 1,qm 11 59,qm 12 60] [[0,1,2,3,4,5,6,7,8,9,10,11]] [0,5,8,11,12]) (qS [qm 61 12] [0,5,8,11,61] (qC 61 (qS [qm 62 11,
 qo 63 (.build [(.int .u8 0),(.int .i64 0),(.int .i64 0),(.string ⟨#[]⟩)] [(0,1,(.const (.int .u8 7))),(1,1,(.tmp 62))]),
 qs 4 8 63,qo 9 (.mv (.const (.pointer none)))] [8,9] .ret) .skip))) (.seq (.seq (qD [qm 64 0,qn 65 64,qf 66 1 65,ql 67 66,qf 68 1 5,ql 69 68,qo 70 (.lookup .str (.int .i64 0) false (.tmp 67) (.tmp 69)),
 qc 71 .eql 70 0] [[0,1,2,3,4,5,6,7]] [5,8,71]) (qC 71 (.reg [qf 72 10 5,ql 73 72,qo 74 (.call 113 [(.const (.int .i64 181)),(.tmp 73)])] [5,8]) .skip)) (qS [qf 75 1 5,ql 76 75,
 qo 77 (.build [(.int .u8 0),(.int .i64 0),(.int .i64 0),(.string ⟨#[]⟩)] [(0,1,(.const (.int .u8 8))),(3,1,(.tmp 76))]),
 qs 4 8 77,qo 9 (.mv (.const (.pointer none)))] [8,9] .ret))))))⟩)
theorem n209:F209.n=78:=rfl
theorem low209:ki Tryz.prog (kpO F209) (kQ [(17,[[0,1,2,3,4,5,6,7,8,9,10,11]]),(20,[[0,1,2,3,4,5,6,7]])]) 209=some F209:=by kernel_rfl
def F112:FIR:=laid (X:=⟨28,[.tmp 8],(qS [qo 8 (.mv (.const (.slice none 0 0)))] [0,1,2,3] (qS [qo 9 (.mv (.const (.slice none 0 0)))] [0,1,2,3,9] (.seq (qS [qm 12 1,qL 13 12,qk 14 0] [0,2,3,9,12,13,14] (.block 0 (.loop (qS [qb 15 .lss 14 13] [0,2,3,9,12,13,14,15] (.seq (qC 15 .skip (.exit 0)) (.seq (.block 1 (qS [qi 16 11 12 14,qN 17 11 16,
 qo 11 (.alloc 72 [(.int .u8 0),(.string ⟨#[]⟩),(.int .u8 0),(.int .i64 0),(.int .u64 0),(.string ⟨#[]⟩),(.slice none 0 0),(.slice none 0 0),(.slice none 0 0),(.slice none 0 0),(.int .i64 0)]),
 qs 11 11 17] [0,2,3,9,11,12,13,14] (.reg [qm 18 9,qm 19 0,qN 20 11 11,qm 21 2,qm 22 3,qx 23 172 [19,20,21,22],
 qo 24 (.bslice 220 1 ([(.int .u8 0),(.string ⟨#[]⟩),(.int .u8 0),(.int .i64 0),(.int .u64 0),(.string ⟨#[]⟩),(.slice none 0 0),(.slice none 0 0),(.int .i64 0),(.bool false),(.slice none 0 0),(.slice none 0 0),(.slice none 0 0)]) [(0,13,(.tmp 23))]),
 qo 25 (.append 220 13 200 ([(.int .u8 0),(.string ⟨#[]⟩),(.int .u8 0),(.int .i64 0),(.int .u64 0),(.string ⟨#[]⟩),(.slice none 0 0),(.slice none 0 0),(.int .i64 0),(.bool false),(.slice none 0 0),(.slice none 0 0),(.slice none 0 0)]) (.tmp 18) (.tmp 24)),
 qm 9 25] [0,2,3,9,12,13,14]))) (.reg [qc 26 .add 14 1,qm 14 26] [0,2,3,9,12,13,14]))))))) (qS [qm 27 9,qm 8 27] [8] .ret))))⟩)
theorem n112:F112.n=28:=rfl
theorem low112:ki Tryz.prog (kpO F112) (kQ []) 112=some F112:=by kernel_rfl
def F49:FIR:=laid (X:=⟨60,[.tmp 8],(qS [qB 5 72 1,qo 8 (.mv (.const (.pointer none)))] [0,2,3,5] (qS [qm 10 2,qm 11 0,qn 12 11,qf 13 2 12,ql 14 13,qL 15 14,qo 16 (.mkmap),
 qo 17 (.build [(.int .i64 0),(.int .i64 0),(.int .i64 0),(.pointer none),(.int .i64 0),(.slice none 0 0),(Value.map none),(.slice none 0 0),(.slice none 0 0)] [(3,1,(.tmp 10)),(4,1,(.tmp 15)),(6,1,(.tmp 16))]),
 qB 18 206 17,qo 9 (.alloc 124 [(.pointer none)]),qs 1 9 18] [0,3,5,9] (qS [ql 19 9,qf 20 7 5,ql 21 20,qL 22 21,qn 23 19,qf 24 0 23,qf 25 0 24,qs 1 25 22] [0,3,5,9] (.seq (qD [qm 26 0,qm 27 0,qn 28 27,qf 29 2 28,ql 30 29,ql 31 9,qo 32 (.bslice 124 1 [(.pointer none)] [(0,1,(.tmp 31))]),
 qo 33 (.append 124 1 8 [(.pointer none)] (.tmp 30) (.tmp 32)),qn 34 26,qf 35 2 34,qs 1 35 33] [[0,1,2,3,4,5,6,7,8,9,10]] [0,3,5,9]) (qS [qm 36 3,qf 37 10 5,ql 38 37,qf 39 7 5,ql 40 39,qo 41 (.clos (.func 109) [] [(.tmp 9)]),qx 42 108 [36,38,40,41],qm 3 42] [0,3,5,9] (qS [qm 43 3,qf 44 10 5,ql 45 44,qf 46 8 5,ql 47 46,qo 48 (.clos (.func 110) [] [(.tmp 9)]),qx 49 108 [43,45,47,48],qm 3 49] [0,3,5,9] (.seq (qD [ql 50 9,qm 51 0,qf 52 9 5,ql 53 52,ql 54 9,qm 55 3,qx 56 112 [51,53,54,55],qn 57 50,qf 58 8 57,qs 1 58 56] [[0,1,2,3,4,5,6,7,8,9],[1,2,3,4,5,6,0,7,8,9]] [9]) (qS [ql 59 9,qm 8 59] [8] .ret))))))))⟩)
theorem n49:F49.n=60:=rfl
theorem low49:ki Tryz.prog (kpO F49) (kQ [(3,[[0,1,2,3,4,5,6,7,8,9,10]]),(6,[[0,1,2,3,4,5,6,7,8,9],[1,2,3,4,5,6,0,7,8,9]])]) 49=some F49:=by kernel_rfl
def F109:FIR:=laid (X:=⟨8,[.tmp 3],(qS [qo 3 (.mv (.const (.pointer none)))] [0,1] (qS [ql 4 1,qm 5 0,
 qo 6 (.build [(.pointer none),(.int .i64 0),(.bool false),(.bool false),(.int .i64 0)] [(0,1,(.tmp 4)),(1,1,(.tmp 5)),(2,1,(.const (.bool true)))]),
 qB 7 210 6,qm 3 7] [3] .ret))⟩)
theorem n109:F109.n=8:=rfl
theorem low109:ki Tryz.prog (kpO F109) (kQ []) 109=some F109:=by kernel_rfl
def F110:FIR:=laid (X:=⟨6,[.tmp 3],(qS [qo 3 (.mv (.const (.pointer none)))] [1] (qS [ql 4 1,qo 5 (.call 111 [(.tmp 4),(.const (.bool false))]),qm 3 5] [3] .ret))⟩)
theorem n110:F110.n=6:=rfl
theorem low110:ki Tryz.prog (kpO F110) (kQ []) 110=some F110:=by kernel_rfl
def F231:FIR:=laid (X:=⟨37,[.cellN 8 13,.tmp 9],(qS [qB 5 72 1,qB 6 124 2,
 qo 8 (.alloc 220 ([(.int .u8 0),(.string ⟨#[]⟩),(.int .u8 0),(.int .i64 0),(.int .u64 0),(.string ⟨#[]⟩),(.slice none 0 0),(.slice none 0 0),(.int .i64 0),(.bool false),(.slice none 0 0),(.slice none 0 0),(.slice none 0 0)])),
 qo 9 (.mv (.const (.pointer none)))] [0,3,5,6,8] (qS [qo 10 (.alloc 208 [(.pointer none)])] [0,3,5,6,8,10] (qS [qo 12 (.build [(.int .u8 0),(.string ⟨#[]⟩),(.int .u8 0),(.int .i64 0),(.int .u64 0),(.string ⟨#[]⟩),(.slice none 0 0),(.slice none 0 0),(.int .i64 0),(.bool false),(.slice none 0 0)] [(0,1,(.const (.int .u8 14)))]),
 qo 13 (.build ([(.int .u8 0),(.string ⟨#[]⟩),(.int .u8 0),(.int .i64 0),(.int .u64 0),(.string ⟨#[]⟩),(.slice none 0 0),(.slice none 0 0),(.int .i64 0),(.bool false),(.slice none 0 0),(.slice none 0 0),(.slice none 0 0)]) [(0,11,(.tmp 12))]),
 qo 11 (.alloc 220 ([(.int .u8 0),(.string ⟨#[]⟩),(.int .u8 0),(.int .i64 0),(.int .u64 0),(.string ⟨#[]⟩),(.slice none 0 0),(.slice none 0 0),(.int .i64 0),(.bool false),(.slice none 0 0),(.slice none 0 0),(.slice none 0 0)])),
 qs 13 11 13] [0,3,5,6,8,10,11] (qS [qm 14 3,qf 15 10 5,ql 16 15,qf 17 7 5,ql 18 17,qo 19 (.clos (.func 251) [] [(.tmp 6),(.tmp 10)]),qx 20 108 [14,16,18,19],qm 3 20] [0,3,5,6,8,10,11] (qS [qm 21 3,qf 22 10 5,ql 23 22,qf 24 8 5,ql 25 24,qo 26 (.clos (.func 252) [] [(.tmp 6),(.tmp 11)]),qx 27 108 [21,23,25,26],qm 3 27] [0,3,5,6,8,10,11] (qS [qm 28 0,qf 29 9 5,ql 30 29,ql 31 6,qm 32 3,qx 33 112 [28,30,31,32],qf 34 12 11,qs 1 34 33] [8,10,11] (.seq (qD [qN 35 13 11,ql 36 10,qs 13 8 35,qm 9 36] [[0,1,2,3],[0,2,1,3]] [8,9]) .ret)))))))⟩)
theorem n231:F231.n=37:=rfl
theorem low231:ki Tryz.prog (kpO F231) (kQ [(6,[[0,1,2,3],[0,2,1,3]])]) 231=some F231:=by kernel_rfl
def F251:FIR:=laid (X:=⟨8,[.tmp 4],(qS [qo 4 (.mv (.const (.pointer none)))] [1,2] (qS [ql 5 1,qo 6 (.call 111 [(.tmp 5),(.const (.bool true))]),qs 1 2 6] [2] (qS [ql 7 2,qm 4 7] [4] .ret)))⟩)
theorem n251:F251.n=8:=rfl
theorem low251:ki Tryz.prog (kpO F251) (kQ []) 251=some F251:=by kernel_rfl
def F252:FIR:=laid (X:=⟨15,[.tmp 4],(qS [qo 4 (.mv (.const (.pointer none)))] [1,2] (qS [ql 6 1,qo 7 (.call 111 [(.tmp 6),(.const (.bool false))]),qm 5 7] [2,5] (qS [qf 8 11 2,ql 9 8,qm 10 5,qo 11 (.bslice 208 1 [(.pointer none)] [(0,1,(.tmp 10))]),
 qo 12 (.append 208 1 8 [(.pointer none)] (.tmp 9) (.tmp 11)),qf 13 11 2,qs 1 13 12] [5] (qS [qm 14 5,qm 4 14] [4] .ret))))⟩)
theorem n252:F252.n=15:=rfl
theorem low252:ki Tryz.prog (kpO F252) (kQ []) 252=some F252:=by kernel_rfl
def F207:FIR:=laid (X:=⟨85,[.cellN 12 13],(qS [qB 7 72 1,
 qo 12 (.alloc 220 ([(.int .u8 0),(.string ⟨#[]⟩),(.int .u8 0),(.int .i64 0),(.int .u64 0),(.string ⟨#[]⟩),(.slice none 0 0),(.slice none 0 0),(.int .i64 0),(.bool false),(.slice none 0 0),(.slice none 0 0),(.slice none 0 0)]))] [0,2,3,4,5,7,12] (qS [qf 18 1 7,ql 19 18,
 qo 20 (.build [(.int .u8 0),(.string ⟨#[]⟩),(.int .u8 0),(.int .i64 0),(.int .u64 0),(.string ⟨#[]⟩),(.slice none 0 0),(.slice none 0 0),(.int .i64 0),(.bool false),(.slice none 0 0)] [(0,1,(.const (.int .u8 11))),(1,1,(.tmp 19))]),
 qo 21 (.build ([(.int .u8 0),(.string ⟨#[]⟩),(.int .u8 0),(.int .i64 0),(.int .u64 0),(.string ⟨#[]⟩),(.slice none 0 0),(.slice none 0 0),(.int .i64 0),(.bool false),(.slice none 0 0),(.slice none 0 0),(.slice none 0 0)]) [(0,11,(.tmp 20))]),
 qo 13 (.alloc 220 ([(.int .u8 0),(.string ⟨#[]⟩),(.int .u8 0),(.int .i64 0),(.int .u64 0),(.string ⟨#[]⟩),(.slice none 0 0),(.slice none 0 0),(.int .i64 0),(.bool false),(.slice none 0 0),(.slice none 0 0),(.slice none 0 0)])),
 qs 13 13 21] [0,2,3,4,5,7,12,13] (.seq (.block 0 (qS [qm 23 2,qc 24 .eql 23 0,qm 22 24] [0,2,3,4,5,7,12,13,22] (qC 22 (.reg [qf 25 0 13,qf 26 0 25,⟨none,none,.store 1 (.tmp 26) (.const (.int .u8 12))⟩] [0,2,3,4,5,7,12,13]) (qS [qf 28 1 7,ql 29 28,qo 30 (.bin .eql (.tmp 29) (.const (.string ⟨#[116,111,58,100,111,58]⟩))),qm 27 30] [0,2,3,4,5,7,12,13,27] (qC 27 (.reg [qf 31 0 13,qf 32 0 31,⟨none,none,.store 1 (.tmp 32) (.const (.int .u8 13))⟩,qf 33 0 13,qf 34 1 33,
 ⟨none,none,.store 1 (.tmp 34) (.const (.string ⟨#[]⟩))⟩] [0,2,3,4,5,7,12,13]) .skip))))) (.seq (qS [qf 35 9 7,ql 36 35,qL 37 36,qk 38 0] [0,2,3,4,5,12,13,36,37,38] (.block 1 (.loop (qS [qb 39 .lss 38 37] [0,2,3,4,5,12,13,36,37,38,39] (.seq (qC 39 .skip (.exit 1)) (.seq (.block 2 (qS [qm 40 38,qi 41 11 36 38,qN 42 11 41,
 qo 15 (.alloc 72 [(.int .u8 0),(.string ⟨#[]⟩),(.int .u8 0),(.int .i64 0),(.int .u64 0),(.string ⟨#[]⟩),(.slice none 0 0),(.slice none 0 0),(.slice none 0 0),(.slice none 0 0),(.int .i64 0)]),
 qm 14 40,qs 11 15 42] [0,2,3,4,5,12,13,14,15,36,37,38] (.seq (qS [qm 43 14,qm 44 2,qb 45 .lss 43 44,qm 46 45,qu 46 (qm 47 14),qu 46 (qm 48 3),qu 46 (qb 49 .geq 47 48),qr 50 46 49] [0,2,3,4,5,12,13,15,36,37,38,50] (qC 50 (.seq (qD [qf 51 12 13,ql 52 51,qm 53 0,qN 54 11 15,qm 55 4,qm 56 5,qx 57 172 [53,54,55,56],
 qo 58 (.bslice 220 1 ([(.int .u8 0),(.string ⟨#[]⟩),(.int .u8 0),(.int .i64 0),(.int .u64 0),(.string ⟨#[]⟩),(.slice none 0 0),(.slice none 0 0),(.int .i64 0),(.bool false),(.slice none 0 0),(.slice none 0 0),(.slice none 0 0)]) [(0,13,(.tmp 57))]),
 qo 59 (.append 220 13 200 ([(.int .u8 0),(.string ⟨#[]⟩),(.int .u8 0),(.int .i64 0),(.int .u64 0),(.string ⟨#[]⟩),(.slice none 0 0),(.slice none 0 0),(.int .i64 0),(.bool false),(.slice none 0 0),(.slice none 0 0),(.slice none 0 0)]) (.tmp 52) (.tmp 58)),
 qf 60 12 13,qs 1 60 59] [[0,1,2,3,4,5,6,7,8,9,10],[0,2,3,4,5,6,1,7,8,9,10]] [0,2,3,4,5,12,13,36,37,38]) (.exit 2)) .skip)) (qS [qm 62 0,qN 63 11 15,qm 64 4,qm 65 5,qx 66 231 [62,63,64,65],qm 61 66,qe 67 61 0,qe 68 61 1,
 qo 16 (.alloc 220 ([(.int .u8 0),(.string ⟨#[]⟩),(.int .u8 0),(.int .i64 0),(.int .u64 0),(.string ⟨#[]⟩),(.slice none 0 0),(.slice none 0 0),(.int .i64 0),(.bool false),(.slice none 0 0),(.slice none 0 0),(.slice none 0 0)])),
 qs 13 16 67,qm 17 68] [0,2,3,4,5,12,13,16,17,36,37,38] (qS [qf 69 12 13,ql 70 69,qN 71 13 16,
 qo 72 (.bslice 220 1 ([(.int .u8 0),(.string ⟨#[]⟩),(.int .u8 0),(.int .i64 0),(.int .u64 0),(.string ⟨#[]⟩),(.slice none 0 0),(.slice none 0 0),(.int .i64 0),(.bool false),(.slice none 0 0),(.slice none 0 0),(.slice none 0 0)]) [(0,13,(.tmp 71))]),
 qo 73 (.append 220 13 200 ([(.int .u8 0),(.string ⟨#[]⟩),(.int .u8 0),(.int .i64 0),(.int .u64 0),(.string ⟨#[]⟩),(.slice none 0 0),(.slice none 0 0),(.int .i64 0),(.bool false),(.slice none 0 0),(.slice none 0 0),(.slice none 0 0)]) (.tmp 70) (.tmp 72)),
 qf 74 12 13,qs 1 74 73] [0,2,3,4,5,12,13,17,36,37,38] (qS [qm 75 17,qo 76 (.eqnil true .ptr (.tmp 75))] [0,2,3,4,5,12,13,17,36,37,38,76] (qC 76 (.reg [qf 77 11 13,ql 78 77,qm 79 17,qo 80 (.bslice 208 1 [(.pointer none)] [(0,1,(.tmp 79))]),
 qo 81 (.append 208 1 8 [(.pointer none)] (.tmp 78) (.tmp 80)),qf 82 11 13,qs 1 82 81] [0,2,3,4,5,12,13,36,37,38]) .skip))))))) (.reg [qc 83 .add 38 1,qm 38 83] [0,2,3,4,5,12,13,36,37,38]))))))) (qS [qN 84 13 13,qs 13 12 84] [12] .ret)))))⟩)
theorem n207:F207.n=85:=rfl
theorem low207:ki Tryz.prog (kpO F207) (kQ [(10,[[0,1,2,3,4,5,6,7,8,9,10],[0,2,3,4,5,6,1,7,8,9,10]])]) 207=some F207:=by kernel_rfl
def F172:FIR:=laid (X:=⟨158,[.cellN 8 13],(qS [qB 5 72 1,
 qo 8 (.alloc 220 ([(.int .u8 0),(.string ⟨#[]⟩),(.int .u8 0),(.int .i64 0),(.int .u64 0),(.string ⟨#[]⟩),(.slice none 0 0),(.slice none 0 0),(.int .i64 0),(.bool false),(.slice none 0 0),(.slice none 0 0),(.slice none 0 0)]))] [0,2,3,5,8] (.seq (qS [qN 19 11 5,qx 20 70 [19],qm 18 20,qe 21 18 0,qe 22 18 1,qe 23 18 2,qm 9 21,qm 10 22,qm 11 23] [0,2,3,5,8,9,10,11] (qS [qm 24 11] [0,2,3,5,8,9,10,24] (qC 24 (qS [qm 25 0,qN 26 11 5,qm 27 9,qm 28 10,qm 29 2,qm 30 3,qx 31 207 [25,26,27,28,29,30],qs 13 8 31] [8] .ret) .skip))) (qS [qo 12 (.alloc 220 ([(.int .u8 0),(.string ⟨#[]⟩),(.int .u8 0),(.int .i64 0),(.int .u64 0),(.string ⟨#[]⟩),(.slice none 0 0),(.slice none 0 0),(.int .i64 0),(.bool false),(.slice none 0 0),(.slice none 0 0),(.slice none 0 0)]))] [0,2,3,5,8,12] (qS [qf 32 9 5,ql 33 32,qm 13 33] [0,2,3,5,8,12,13] (qS [qm 34 13,qL 35 34,qc 36 .gtr 35 0,qm 37 36,qt 37 (qm 38 13),qt 37 (qo 39 (.idxL 11 (.tmp 38) (.const (.int .i64 0)))),
 qt 37 (qf 40 0 39),qt 37 (ql 41 40),qt 37 (qo 42 (.bin .eql (.tmp 41) (.const (.int .u8 2)))),qa 43 37 42,qm 44 43,qt 44 (qm 45 13),
 qt 44 (qo 46 (.idxL 11 (.tmp 45) (.const (.int .i64 0)))),qt 44 (qf 47 1 46),qt 44 (ql 48 47),
 qt 44 (qo 49 (.bin .eql (.tmp 48) (.const (.string ⟨#[115,117,112,101,114]⟩)))),qa 50 44 49,qm 14 50] [0,2,3,5,8,12,13,14] (.seq (qS [qf 51 0 5,ql 52 51] [0,2,3,5,8,12,13,14,52] (.block 0 (qS [qo 65 (.bin .eql (.tmp 52) (.const (.int .u8 1))),qm 64 65] [0,2,3,5,8,12,13,14,52,64] (qC 64 (.reg [qf 66 2 5,qN 67 5 66,qx 68 208 [67],qf 69 0 12,qf 70 0 69,⟨none,none,.store 1 (.tmp 70) (.const (.int .u8 1))⟩,
 qf 71 0 12,qf 72 2 71,qs 5 72 68] [0,2,3,5,8,12,13,14]) (.seq (qS [qo 74 (.bin .eql (.tmp 52) (.const (.int .u8 2))),qm 73 74] [0,2,3,5,8,12,13,14,52,73] (qC 73 .skip (.reg [qo 75 (.bin .eql (.tmp 52) (.const (.int .u8 3))),qm 73 75] [0,2,3,5,8,12,13,14,52,73]))) (qC 73 (qS [qf 76 0 12,qf 77 0 76,⟨none,none,.store 1 (.tmp 77) (.const (.int .u8 2))⟩] [0,2,3,5,8,12,13,14] (.seq (qS [qf 78 0 5,ql 79 78,qo 80 (.bin .eql (.tmp 79) (.const (.int .u8 3)))] [0,2,3,5,8,12,13,14,80] (qC 80 (.reg [qf 81 0 12,qf 82 0 81,⟨none,none,.store 1 (.tmp 82) (.const (.int .u8 3))⟩] [0,2,3,5,8,12,13,14]) .skip)) (qS [qm 84 0,qN 85 11 5,qm 86 2,qm 87 3,qx 88 209 [84,85,86,87],qm 83 88,qe 89 83 0,qe 90 83 1,
 qo 15 (.alloc 102 [(.int .u8 0),(.int .i64 0),(.int .i64 0),(.string ⟨#[]⟩)]),qs 4 15 89,qm 16 90] [0,2,3,5,8,12,13,14,15,16] (qS [qm 91 16,qo 92 (.eqnil true .ptr (.tmp 91))] [0,2,3,5,8,12,13,14,15,16,92] (qC 92 (.reg [qm 93 16,qo 94 (.bslice 208 1 [(.pointer none)] [(0,1,(.tmp 93))]),qf 95 11 12,qs 1 95 94] [0,2,3,5,8,12,13,14]) (.reg [qN 96 4 15,
 qo 97 (.bslice 102 1 [(.int .u8 0),(.int .i64 0),(.int .i64 0),(.string ⟨#[]⟩)] [(0,4,(.tmp 96))]),
 qf 98 0 12,qf 99 7 98,qs 1 99 97] [0,2,3,5,8,12,13,14])))))) (qS [qo 101 (.bin .eql (.tmp 52) (.const (.int .u8 7))),qm 100 101] [0,2,3,5,8,12,13,14,52,100] (qC 100 (qS [qm 102 0,qN 103 11 5,qm 104 2,qm 105 3,qx 106 49 [102,103,104,105],qn 107 106,qf 108 4 107,ql 109 108,
 qo 110 (.build [(.int .u8 0),(.string ⟨#[]⟩),(.int .u8 0),(.int .i64 0),(.int .u64 0),(.string ⟨#[]⟩),(.slice none 0 0),(.slice none 0 0),(.int .i64 0),(.bool false),(.slice none 0 0)] [(0,1,(.const (.int .u8 8))),(8,1,(.tmp 109))]),
 qo 111 (.build ([(.int .u8 0),(.string ⟨#[]⟩),(.int .u8 0),(.int .i64 0),(.int .u64 0),(.string ⟨#[]⟩),(.slice none 0 0),(.slice none 0 0),(.int .i64 0),(.bool false),(.slice none 0 0),(.slice none 0 0),(.slice none 0 0)]) [(0,11,(.tmp 110))]),
 qs 13 8 111] [8] .ret) (qS [qo 113 (.bin .eql (.tmp 52) (.const (.int .u8 8))),qm 112 113] [0,2,3,5,8,12,13,14,52,112] (qC 112 (.reg [qf 114 0 12,qf 115 0 114,⟨none,none,.store 1 (.tmp 115) (.const (.int .u8 9))⟩] [0,2,3,5,8,12,13,14]) (qS [qo 117 (.bin .eql (.tmp 52) (.const (.int .u8 9))),qm 116 117] [0,2,3,5,8,12,13,14,52,116] (qC 116 (.reg [qf 118 0 12,qf 119 0 118,⟨none,none,.store 1 (.tmp 119) (.const (.int .u8 10))⟩] [0,2,3,5,8,12,13,14]) (qS [qo 121 (.bin .eql (.tmp 52) (.const (.int .u8 6))),qm 120 121] [0,2,3,5,8,12,13,14,52,120] (qC 120 (qD [qf 122 1 5,ql 123 122,qf 124 0 12,qf 125 0 124,⟨none,none,.store 1 (.tmp 125) (.const (.int .u8 7))⟩,qf 126 0 12,
 qf 127 1 126,qs 1 127 123] [[0,1,2,3,4,5,6,7],[0,2,3,4,1,5,6,7]] [0,2,3,5,8,12,13,14]) (qS [qo 129 (.bin .eql (.tmp 52) (.const (.int .u8 5))),qm 128 129] [0,2,3,5,8,12,13,14,128] (qC 128 (.reg [qf 130 0 12,qf 131 0 130,⟨none,none,.store 1 (.tmp 131) (.const (.int .u8 6))⟩] [0,2,3,5,8,12,13,14]) (.seq (qD [qf 53 1 5,ql 54 53,qf 55 0 12,qf 56 0 55,⟨none,none,.store 1 (.tmp 56) (.const (.int .u8 4))⟩,qf 57 0 12,qf 58 1 57,
 qs 1 58 54] [[0,1,2,3,4,5,6,7],[0,2,3,4,1,5,6,7]] [0,2,3,5,8,12,13,14]) (qS [qm 59 14] [0,2,3,5,8,12,13,14,59] (qC 59 (qD [qm 60 13,qo 61 (.slcL 11 (.tmp 60) (some (.const (.int .i64 1))) none none),qf 62 0 12,qf 63 0 62,
 ⟨none,none,.store 1 (.tmp 63) (.const (.int .u8 5))⟩,qm 13 61] [[0,1,2,3,4,5]] [0,2,3,5,8,12,13,14]) .skip))))))))))))))))))) (qS [qm 132 0,qm 133 13,qm 134 2,qm 135 3,qx 136 112 [132,133,134,135],qf 137 12 12,qs 1 137 136] [5,8,12,14] (.seq (qS [qf 138 0 5,ql 139 138,qo 140 (.bin .eql (.tmp 139) (.const (.int .u8 5)))] [8,12,14,140] (qC 140 (qS [qf 141 12 12,ql 142 141,qo 143 (.slcL 13 (.tmp 142) (some (.const (.int .i64 1))) none none),qL 144 143,qk 145 0] [8,12,14,144,145] (.block 1 (.loop (qS [qb 146 .lss 145 144] [8,12,14,144,145,146] (.seq (qC 146 .skip (.exit 1)) (.seq (.block 2 (qS [qm 147 145,qm 17 147] [8,12,14,17,144,145] (.reg [qf 148 12 12,ql 149 148,qm 150 17,qc 151 .add 150 1,qm 152 14,qi 153 13 149 151,qf 154 0 153,qf 155 9 154,qs 1 155 152] [8,12,14,144,145]))) (.reg [qc 156 .add 145 1,qm 145 156] [8,12,14,144,145]))))))) .skip)) (qS [qN 157 13 12,qs 13 8 157] [8] .ret)))))))))⟩)
theorem n172:F172.n=158:=rfl
theorem low172:ki Tryz.prog (kQ [(0,[0,2,3,5,8]),(1,[0,2,3,5,8,9,10,11]),(2,[0,2,3,5,8,9,10,24]),(3,[8]),(4,[0,2,3,5,8,12]),(5,[0,2,3,5,8,12,13]),(6,[0,2,3,5,8,12,13,14]),(7,[0,2,3,5,8,12,13,14,52]),(8,[0,2,3,5,8,12,13,14]),(9,[0,2,3,5,8,12,13,14,59]),(10,[0,2,3,5,8,12,13,14]),(11,[0,2,3,5,8,12,13,14,52,64]),(12,[0,2,3,5,8,12,13,14]),(13,[0,2,3,5,8,12,13,14,52,73]),(14,[0,2,3,5,8,12,13,14,52,73]),(15,[0,2,3,5,8,12,13,14]),(16,[0,2,3,5,8,12,13,14,80]),(17,[0,2,3,5,8,12,13,14]),(18,[0,2,3,5,8,12,13,14,15,16]),(19,[0,2,3,5,8,12,13,14,15,16,92]),(20,[0,2,3,5,8,12,13,14]),(21,[0,2,3,5,8,12,13,14]),(22,[0,2,3,5,8,12,13,14,52,100]),(23,[8]),(24,[0,2,3,5,8,12,13,14,52,112]),(25,[0,2,3,5,8,12,13,14]),(26,[0,2,3,5,8,12,13,14,52,116]),(27,[0,2,3,5,8,12,13,14]),(28,[0,2,3,5,8,12,13,14,52,120]),(29,[0,2,3,5,8,12,13,14]),(30,[0,2,3,5,8,12,13,14,128]),(31,[0,2,3,5,8,12,13,14]),(32,[5,8,12,14]),(33,[8,12,14,140]),(34,[8,12,14,144,145]),(35,[8,12,14,144,145,146]),(36,[8,12,14,17,144,145]),(37,[8,12,14,144,145]),(38,[8,12,14,144,145]),(39,[8])]) (kQ [(29,[[0,1,2,3,4,5,6,7],[0,2,3,4,1,5,6,7]]),(8,[[0,1,2,3,4,5,6,7],[0,2,3,4,1,5,6,7]]),(10,[[0,1,2,3,4,5]])]) 172=some F172:=by kernel_rfl
end Go.Proofs.YtijnokbblmbpkaaGreatDoor
namespace Go.Proofs.YtijnokbblmbpkaaGreatDoor
open Go Go.V
set_option maxRecDepth 100000
def F114:FIR:=laid (X:=⟨111,[],(qS [qB 1 124 0] [1] (.scope (.seq (qS [ql 10 1,qn 11 10,qf 12 5 11,ql 13 12,qL 14 13,qk 15 0] [1,13,14,15] (.block 0 (.loop (qS [qb 16 .lss 15 14] [1,13,14,15,16] (.seq (qC 16 .skip (.exit 0)) (.seq (.block 1 (qS [qi 17 1 13 15,ql 18 17,qm 3 18] [1,3,13,14,15] (.seq (qS [qm 19 3,qn 20 19,qf 21 3 20,ql 22 21] [1,3,13,14,15,22] (qC 22 (qS [qm 23 3,ql 24 1,qn 25 24,qf 26 0 25,qf 27 2 26,ql 28 27,qn 29 23,qf 30 4 29,qs 1 30 28] [1,13,14,15] (qS [ql 31 1,qn 32 31,qf 33 0 32,qf 34 2 33,ql 35 34,qc 36 .add 35 1,qn 37 31,qf 38 0 37,qf 39 2 38,qs 1 39 36] [1,13,14,15] (.exit 1))) .skip)) (qS [qm 40 3,ql 41 1,qn 42 41,qf 43 0 42,qf 44 1 43,ql 45 44,qn 46 40,qf 47 4 46,qs 1 47 45] [1,13,14,15] (.reg [ql 48 1,qn 49 48,qf 50 0 49,qf 51 1 50,ql 52 51,qc 53 .add 52 1,qn 54 48,qf 55 0 54,qf 56 1 55,qs 1 56 53] [1,13,14,15]))))) (.reg [qc 57 .add 15 1,qm 15 57] [1,13,14,15]))))))) (qS [qo 4 (.mv (.const (.slice none 0 0)))] [1,4] (.seq (qS [ql 58 1,qn 59 58,qf 60 3 59,ql 61 60,qm 5 61] [1,4,5] (.block 2 (.loop (.seq (qS [qm 62 5,qo 63 (.eqnil true .ptr (.tmp 62))] [1,4,5,63] (qC 63 .skip (.exit 2))) (.seq (.block 3 (.reg [qm 68 4,qm 69 5,qo 70 (.bslice 124 1 [(.pointer none)] [(0,1,(.tmp 69))]),
 qo 71 (.append 124 1 8 [(.pointer none)] (.tmp 68) (.tmp 70)),qm 4 71] [1,4,5])) (.reg [qm 64 5,qn 65 64,qf 66 3 65,ql 67 66,qm 5 67] [1,4,5])))))) (.seq (.label 0) (qS [qm 72 4,qx 73 173 [72]] [1,73] (.block 4 (.rangef (.tmp 73) [74,75] (.reg [qm 7 75] [1,7]) (.block 5 (qS [qk 8 (-1)] [1,7,8] (.block 6 (.loop (.seq (qS [qm 76 8,qm 77 7,qn 78 77,qf 79 0 78,qf 80 0 79,ql 81 80,qb 82 .lss 76 81] [1,7,8,82] (qC 82 .skip (.exit 6))) (.seq (.block 7 (.seq (qS [ql 85 1,qn 86 85,qf 87 6 86,ql 88 87,qo 89 (.mlen (.tmp 88)),qc 90 .eql 89 0] [1,7,8,90] (qC 90 (.exit 4) .skip)) (qS [qm 91 7,qm 92 8,qo 93 (.build [(.pointer none),(.int .i64 0)] [(0,1,(.tmp 91)),(1,1,(.tmp 92))]),
 qo 9 (.alloc 217 [(.pointer none),(.int .i64 0)]),qs 2 9 93] [1,7,8,9] (.seq (qD [ql 94 1,qn 95 94,qf 96 6 95,ql 97 96,qN 98 2 9,qo 99 (.lookt 199 false (.tmp 97) (.tmp 98)),qc 100 .gtr 99 0] [[0,1,2,3,4,5,6]] [1,7,8,9,100]) (qC 100 (qD [ql 101 1,ql 102 1,qn 103 102,qf 104 7 103,ql 105 104,qN 106 2 9,
 qo 107 (.bslice 217 1 [(.pointer none),(.int .i64 0)] [(0,2,(.tmp 106))]),
 qo 108 (.append 217 2 16 [(.pointer none),(.int .i64 0)] (.tmp 105) (.tmp 107)),qn 109 101,qf 110 7 109,qs 1 110 108] [[0,1,2,3,4,5,6,7,8,9,10],[1,0,2,3,4,5,6,7,8,9,10],[1,2,3,4,0,5,6,7,8,9,10],[1,2,3,4,5,6,0,7,8,9,10],[1,2,3,4,5,6,7,0,8,9,10],[0,1,2,3,5,6,4,7,8,9,10],[1,0,2,3,5,6,4,7,8,9,10],[1,2,3,5,6,0,4,7,8,9,10],[1,2,3,5,6,4,0,7,8,9,10],[1,2,3,5,6,4,7,0,8,9,10],[0,5,6,1,2,3,4,7,8,9,10],[5,6,0,1,2,3,4,7,8,9,10],[5,6,1,0,2,3,4,7,8,9,10],[5,6,1,2,3,4,0,7,8,9,10],[5,6,1,2,3,4,7,0,8,9,10]] [1,7,8]) .skip))))) (.reg [qm 83 8,qc 84 .add 83 1,qm 8 84] [1,7,8]))))))))))))))))⟩)
theorem n114:F114.n=111:=rfl
theorem low114:ki Tryz.prog (kpO F114) (kQ [(22,[[0,1,2,3,4,5,6]]),(23,[[0,1,2,3,4,5,6,7,8,9,10],[1,0,2,3,4,5,6,7,8,9,10],[1,2,3,4,0,5,6,7,8,9,10],[1,2,3,4,5,6,0,7,8,9,10],[1,2,3,4,5,6,7,0,8,9,10],[0,1,2,3,5,6,4,7,8,9,10],[1,0,2,3,5,6,4,7,8,9,10],[1,2,3,5,6,0,4,7,8,9,10],[1,2,3,5,6,4,0,7,8,9,10],[1,2,3,5,6,4,7,0,8,9,10],[0,5,6,1,2,3,4,7,8,9,10],[5,6,0,1,2,3,4,7,8,9,10],[5,6,1,0,2,3,4,7,8,9,10],[5,6,1,2,3,4,0,7,8,9,10],[5,6,1,2,3,4,7,0,8,9,10]])]) 114=some F114:=by kernel_rfl
def F173:FIR:=laid (X:=⟨4,[.tmp 2],(qS [qB 1 120 0,qo 2 (.mv (.const Value.nilFunc))] [1] (qS [qo 3 (.clos (.func 210) [] [(.tmp 1)]),qm 2 3] [2] .ret))⟩)
theorem n173:F173.n=4:=rfl
theorem low173:ki Tryz.prog (kpO F173) (kQ []) 173=some F173:=by kernel_rfl
def F210:FIR:=laid (X:=⟨19,[],(qS [ql 4 1,qL 5 4,qc 6 .sub 5 1,qm 3 6] [0,1,3] (.block 0 (.loop (.seq (qS [qm 7 3,qc 8 .geq 7 0] [0,1,3,8] (qC 8 .skip (.exit 0))) (.seq (.block 1 (qS [qm 11 0,qm 12 3,ql 13 1,qm 14 3,qi 15 1 13 14,ql 16 15,qo 17 (.callv (.tmp 11) [(.tmp 12),(.tmp 16)]),qo 18 (.un .not (.tmp 17))] [0,1,3,18] (qC 18 .ret .skip))) (.reg [qm 9 3,qc 10 .sub 9 1,qm 3 10] [0,1,3]))))))⟩)
theorem n210:F210.n=19:=rfl
theorem low210:ki Tryz.prog (kpO F210) (kQ []) 210=some F210:=by kernel_rfl
def F50:FIR:=laid (X:=⟨145,[.cellN 4 3],(qS [qB 3 25 1,qo 4 (.alloc 43 [(.string ⟨#[]⟩),(.int .i64 0),(.slice none 0 0)])] [0,3,4] (qS [qf 15 0 3,ql 16 15,qf 17 3 3,ql 18 17,
 qo 19 (.build [(.string ⟨#[]⟩),(.int .i64 0),(.slice none 0 0)] [(0,1,(.tmp 16)),(1,1,(.tmp 18))]),
 qo 5 (.alloc 43 [(.string ⟨#[]⟩),(.int .i64 0),(.slice none 0 0)]),qs 3 5 19] [0,4,5] (.seq (qS [qm 20 0,qn 21 20,qf 22 2 21,ql 23 22,qL 24 23,qc 25 .gtr 24 255] [0,4,5,25] (qC 25 (.reg [qo 26 (.call 113 [(.const (.int .i64 183)),(.const (.int .i64 0))])] [0,4,5]) .skip)) (.seq (qS [qm 27 0,qn 28 27,qf 29 2 28,ql 30 29,qL 31 30,qk 32 0] [0,4,5,30,31,32] (.block 0 (.loop (qS [qb 33 .lss 32 31] [0,4,5,30,31,32,33] (.seq (qC 33 .skip (.exit 0)) (.seq (.block 1 (qS [qi 34 1 30 32,ql 35 34,qm 7 35] [0,4,5,7,30,31,32] (.reg [qm 36 7,qx 37 114 [36]] [0,4,5,30,31,32]))) (.reg [qc 38 .add 32 1,qm 32 38] [0,4,5,30,31,32]))))))) (.seq (qS [qm 39 0,qn 40 39,qf 41 2 40,ql 42 41,qL 43 42,qk 44 0] [4,5,42,43,44] (.block 2 (.loop (qS [qb 45 .lss 44 43] [4,5,42,43,44,45] (.seq (qC 45 .skip (.exit 2)) (.seq (.block 3 (qS [qi 46 1 42 44,ql 47 46,qm 9 47] [4,5,9,42,43,44] (.seq (.seq (qD [qm 48 9,qn 49 48,qf 50 0 49,qN 51 3 50,qm 52 9,qn 53 52,qf 54 7 53,ql 55 54,qL 56 55,qx 57 115 [51,56],qc 58 .gtr 57 63,qm 59 58,
 qu 59 (qm 60 9),qu 59 (qn 61 60),qu 59 (qf 62 0 61),qu 59 (qf 63 2 62),qu 59 (ql 64 63),qu 59 (qc 65 .gtr 64 63),qr 66 59 65] [[0,1,2,3,4,5,6,7,8,9,10,11,12,13,14,15,16,17,18]] [4,5,9,42,43,44,66]) (qC 66 (.reg [qo 67 (.call 113 [(.const (.int .i64 183)),(.const (.int .i64 0))])] [4,5,9,42,43,44]) .skip)) (.seq (qD [qm 68 9,qn 69 68,qf 70 0 69,qf 71 0 70,ql 72 71,qm 73 9,qn 74 73,qf 75 0 74,qf 76 1 75,ql 77 76,qm 78 9,qn 79 78,qf 80 0 79,
 qf 81 2 80,ql 82 81,
 qo 83 (.build [(.int .i64 0),(.int .i64 0),(.slice none 0 0),(.int .i64 0),(.int .i64 0),(.slice none 0 0)] [(0,1,(.const (.int .i64 (-1)))),(1,1,(.tmp 72)),(3,1,(.tmp 77)),(4,1,(.tmp 82))]),
 qo 10 (.alloc 93 [(.int .i64 0),(.int .i64 0),(.slice none 0 0),(.int .i64 0),(.int .i64 0),(.slice none 0 0)]),
 qs 6 10 83] [[0,1,2,3,4,5,6,7,8,9,10,11,12,13,14,15,16,17]] [4,5,9,10,42,43,44]) (.seq (qS [qm 84 9,qn 85 84,qf 86 3 85,ql 87 86,qo 88 (.eqnil true .ptr (.tmp 87))] [4,5,9,10,42,43,44,88] (qC 88 (.reg [qm 89 9,qn 90 89,qf 91 3 90,ql 92 91,qn 93 92,qf 94 4 93,ql 95 94,qf 96 0 10,qs 1 96 95] [4,5,9,10,42,43,44]) .skip)) (.seq (qS [qm 97 9,qn 98 97,qf 99 7 98,ql 100 99,qL 101 100,qk 102 0] [4,5,9,10,42,43,44,100,101,102] (.block 4 (.loop (qS [qb 103 .lss 102 101] [4,5,9,10,42,43,44,100,101,102,103] (.seq (qC 103 .skip (.exit 4)) (.seq (.block 5 (qS [qi 104 2 100 102,qN 105 2 104,qo 12 (.alloc 217 [(.pointer none),(.int .i64 0)]),qs 2 12 105] [4,5,9,10,12,42,43,44,100,101,102] (qD [qf 106 2 10,ql 107 106,qm 108 9,qn 109 108,qf 110 3 109,ql 111 110,qN 112 2 12,qx 113 116 [111,112],
 qo 114 (.build [(.int .u8 0),(.int .i64 0),(.int .i64 0),(.string ⟨#[]⟩)] [(0,1,(.const (.int .u8 5))),(1,1,(.tmp 113))]),
 qo 115 (.bslice 102 1 [(.int .u8 0),(.int .i64 0),(.int .i64 0),(.string ⟨#[]⟩)] [(0,4,(.tmp 114))]),
 qo 116 (.append 102 4 40 [(.int .u8 0),(.int .i64 0),(.int .i64 0),(.string ⟨#[]⟩)] (.tmp 107) (.tmp 115)),
 qf 117 2 10,qs 1 117 116] [[0,1,2,3,4,5,6,7,8,9,10,11,12],[0,2,3,4,5,6,7,1,8,9,10,11,12]] [4,5,9,10,42,43,44,100,101,102]))) (.reg [qc 118 .add 102 1,qm 102 118] [4,5,9,10,42,43,44,100,101,102]))))))) (.seq (qS [qm 119 9,qn 120 119,qf 121 8 120,ql 122 121,qL 123 122,qk 124 0] [4,5,9,10,42,43,44,122,123,124] (.block 6 (.loop (qS [qb 125 .lss 124 123] [4,5,9,10,42,43,44,122,123,124,125] (.seq (qC 125 .skip (.exit 6)) (.seq (.block 7 (qS [qi 126 13 122 124,qN 127 13 126,
 qo 14 (.alloc 220 ([(.int .u8 0),(.string ⟨#[]⟩),(.int .u8 0),(.int .i64 0),(.int .u64 0),(.string ⟨#[]⟩),(.slice none 0 0),(.slice none 0 0),(.int .i64 0),(.bool false),(.slice none 0 0),(.slice none 0 0),(.slice none 0 0)])),
 qs 13 14 127] [4,5,9,10,14,42,43,44,122,123,124] (qD [qf 128 5 10,ql 129 128,qm 130 9,qN 131 13 14,qx 132 117 [130,131],
 qo 133 (.bslice 97 1 [(.int .u8 0),(.string ⟨#[]⟩),(.int .u8 0),(.int .i64 0),(.int .u64 0),(.string ⟨#[]⟩),(.slice none 0 0),(.slice none 0 0),(.int .i64 0),(.bool false),(.slice none 0 0)] [(0,11,(.tmp 132))]),
 qo 134 (.append 97 11 152 [(.int .u8 0),(.string ⟨#[]⟩),(.int .u8 0),(.int .i64 0),(.int .u64 0),(.string ⟨#[]⟩),(.slice none 0 0),(.slice none 0 0),(.int .i64 0),(.bool false),(.slice none 0 0)] (.tmp 129) (.tmp 133)),
 qf 135 5 10,qs 1 135 134] [[0,1,2,3,4,5,6,7,8],[0,2,3,4,1,5,6,7,8]] [4,5,9,10,42,43,44,122,123,124]))) (.reg [qc 136 .add 124 1,qm 124 136] [4,5,9,10,42,43,44,122,123,124]))))))) (.reg [qf 137 2 5,ql 138 137,qN 139 6 10,
 qo 140 (.bslice 93 1 [(.int .i64 0),(.int .i64 0),(.slice none 0 0),(.int .i64 0),(.int .i64 0),(.slice none 0 0)] [(0,6,(.tmp 139))]),
 qo 141 (.append 93 6 80 [(.int .i64 0),(.int .i64 0),(.slice none 0 0),(.int .i64 0),(.int .i64 0),(.slice none 0 0)] (.tmp 138) (.tmp 140)),
 qf 142 2 5,qs 1 142 141] [4,5,42,43,44])))))))) (.reg [qc 143 .add 44 1,qm 44 143] [4,5,42,43,44]))))))) (qS [qN 144 3 5,qs 3 4 144] [4] .ret))))))⟩)
theorem n50:F50.n=145:=rfl
theorem low50:ki Tryz.prog (kpO F50) (kQ [(12,[[0,1,2,3,4,5,6,7,8,9,10,11,12,13,14,15,16,17,18]]),(14,[[0,1,2,3,4,5,6,7,8,9,10,11,12,13,14,15,16,17]]),(20,[[0,1,2,3,4,5,6,7,8,9,10,11,12],[0,2,3,4,5,6,7,1,8,9,10,11,12]]),(25,[[0,1,2,3,4,5,6,7,8],[0,2,3,4,1,5,6,7,8]])]) 50=some F50:=by kernel_rfl
def F15:DIR:=laidA (X:=⟨83,[.cellN 6 3,.cell1 7],[(.reg [qB 3 25 0,qo 6 (.alloc 43 [(.string ⟨#[]⟩),(.int .i64 0),(.slice none 0 0)]),
 qo 7 (.alloc 50 [Value.nilIface])] [1,2,3,6,7]),(qS [qN 16 5 3,qx 17 47 [16],qm 8 17] [1,2,3,6,7,8] (qS [qm 18 8,qc 19 .neq 18 0] [1,2,3,6,7,8,19] (qC 19 (qS [qo 20 (.build [(.string ⟨#[]⟩),(.int .i64 0),(.slice none 0 0)] []),qm 21 8,qo 22 (.mkif 44 (.tmp 21)),
 qo 23 (.build [(.string ⟨#[]⟩),(.int .i64 0),Value.nilIface] [(0,1,(.const (.string ⟨#[82,101,115,111,108,118,101]⟩))),(2,1,(.tmp 22))]),
 qB 24 84 23,qo 25 (.mkif 80 (.tmp 24)),qs 3 6 20,qs 1 7 25] [6,7] .ret) .skip)))],⟨26,48,[(.tmp 6),(.tmp 7)]⟩,(qS [qo 27 (.mkmap),qo 28 (.mkmap),
 qo 29 (.build [(Value.map none),(Value.map none),(.slice none 0 0)] [(0,1,(.tmp 27)),(1,1,(.tmp 28))]),qB 30 122 29,qm 9 30] [1,2,3,6,7,9] (.seq (qS [qm 31 1,qL 32 31,qk 33 0] [2,3,6,7,9,31,32,33] (.block 0 (.loop (qS [qb 34 .lss 33 32] [2,3,6,7,9,31,32,33,34] (.seq (qC 34 .skip (.exit 0)) (.seq (.block 1 (qS [qm 35 33,qi 36 1 31 33,ql 37 36,qm 10 35,qm 11 37] [2,3,6,7,9,10,11,31,32,33] (qS [qm 39 9,qn 40 39,qf 41 0 40,ql 42 41,qm 43 11,qo 44 (.lookup .str (.int .i64 0) true (.tmp 42) (.tmp 43)),qm 38 44,
 qe 45 38 0,qe 46 38 1,qm 12 45,qm 13 46] [2,3,6,7,9,10,11,13,31,32,33] (qS [qm 47 13,qo 48 (.un .not (.tmp 47))] [2,3,6,7,9,10,11,31,32,33,48] (qC 48 (.reg [qm 49 9,qn 50 49,qf 51 0 50,ql 52 51,qm 53 11,qm 54 10,⟨none,none,.mapupd .str (.tmp 52) (.tmp 53) (.tmp 54)⟩] [2,3,6,7,9,31,32,33]) .skip))))) (.reg [qc 55 .add 33 1,qm 33 55] [2,3,6,7,9,31,32,33]))))))) (.seq (qS [qm 56 2,qL 57 56,qk 58 0] [3,6,7,9,56,57,58] (.block 2 (.loop (qS [qb 59 .lss 58 57] [3,6,7,9,56,57,58,59] (.seq (qC 59 .skip (.exit 2)) (.seq (.block 3 (qS [qi 60 1 56 58,ql 61 60,qm 15 61] [3,6,7,9,15,56,57,58] (.reg [qm 62 9,qn 63 62,qf 64 1 63,ql 65 64,qm 66 15,qo 67 (.lookup .str (.int .i64 0) false (.tmp 65) (.tmp 66)),
 qc 68 .add 67 1,⟨none,none,.mapupd .str (.tmp 65) (.tmp 66) (.tmp 68)⟩] [3,6,7,9,56,57,58]))) (.reg [qc 69 .add 58 1,qm 58 69] [3,6,7,9,56,57,58]))))))) (qS [qm 70 9,qf 71 1 3,ql 72 71,qf 73 2 3,ql 74 73,qf 75 4 3,ql 76 75,
 qo 77 (.build [(.int .u8 0),(.string ⟨#[]⟩),(.int .u8 0),(.int .i64 0),(.int .u64 0),(.string ⟨#[]⟩),(.slice none 0 0),(.slice none 0 0),(.slice none 0 0),(.slice none 0 0),(.int .i64 0)] [(7,1,(.tmp 72)),(8,1,(.tmp 74)),(9,1,(.tmp 76))]),
 qo 78 (.mkmap),qo 79 (.call 49 [(.tmp 70),(.tmp 77),(.const (.pointer none)),(.tmp 78)])] [3,6,7,9] (qS [qm 80 9,qN 81 5 3,qx 82 50 [80,81],qs 3 6 82,⟨none,none,.store 1 (.tmp 7) (.const Value.nilIface)⟩] [6,7] .ret)))))⟩)
theorem n15:F15.n=83:=rfl
theorem low15:lowFD Tryz.prog (kQ [(0,[1,2,3,6,7]),(1,[1,2,3,6,7,8]),(2,[1,2,3,6,7,8,19]),(3,[6,7]),(4,[1,2,3,6,7]),(5,[1,2,3,6,7,9]),(6,[2,3,6,7,9,31,32,33]),(7,[2,3,6,7,9,31,32,33,34]),(8,[2,3,6,7,9,10,11,31,32,33]),(9,[2,3,6,7,9,10,11,13,31,32,33]),(10,[2,3,6,7,9,10,11,31,32,33,48]),(11,[2,3,6,7,9,31,32,33]),(12,[2,3,6,7,9,31,32,33]),(13,[3,6,7,9,56,57,58]),(14,[3,6,7,9,56,57,58,59]),(15,[3,6,7,9,15,56,57,58]),(16,[3,6,7,9,56,57,58]),(17,[3,6,7,9,56,57,58]),(18,[3,6,7,9]),(19,[6,7])]) (kQ []) 15=some F15:=by kernel_rfl
def F48:RIR:=laidA (X:=⟨13,[],5,[qo 6 (.tassert 80 (.pointer none) true (.tmp 5)),qm 4 6,qe 7 4 0,qe 8 4 1,qm 2 7,qm 3 8],(qS [qm 9 3] [0,1,2,9] (qC 9 (.reg [qo 10 (.build [(.string ⟨#[]⟩),(.int .i64 0),(.slice none 0 0)] []),qm 11 2,qo 12 (.mkif 80 (.tmp 11)),
 qs 3 0 10,qs 1 1 12] []) .skip))⟩)
theorem n48:F48.n=13:=rfl
theorem low48:lowFR Tryz.prog (kQ [(0,[0,1,2,3]),(1,[0,1,2,9]),(2,[])]) (kQ []) 48=some F48:=by kernel_rfl
def F27:FIR:=laid (X:=⟨14,[.tmp 2],(qS [qB 1 72 0,qo 2 (.mv (.const (.slice none 0 0)))] [1] (qS [qo 3 (.alloc 22 [(.slice none 0 0)])] [1,3] (qS [qo 6 (.mkmap),⟨none,none,.mapupd .str (.tmp 6) (.const (.string ⟨#[115,101,108,102]⟩)) (.const (.int .i64 1))⟩,
 ⟨none,none,.mapupd .str (.tmp 6) (.const (.string ⟨#[115,117,112,101,114]⟩)) (.const (.int .i64 1))⟩,
 ⟨none,none,.mapupd .str (.tmp 6) (.const (.string ⟨#[110,105,108]⟩)) (.const (.int .i64 1))⟩,
 ⟨none,none,.mapupd .str (.tmp 6) (.const (.string ⟨#[116,114,117,101]⟩)) (.const (.int .i64 1))⟩,
 ⟨none,none,.mapupd .str (.tmp 6) (.const (.string ⟨#[102,97,108,115,101]⟩)) (.const (.int .i64 1))⟩,qm 7 6,
 qo 4 (.alloc 119 [(Value.map none)]),qs 1 4 7] [1,3,4] (qS [qo 5 (.alloc 152 [Value.nilFunc])] [1,3,4,5] (qS [qo 8 (.clos (.func 71) [] [(.tmp 4),(.tmp 3),(.tmp 5)]),qs 1 5 8] [1,3,5] (qS [ql 9 5,qN 10 11 1,qo 11 (.mkmap),qo 12 (.callv (.tmp 9) [(.tmp 10),(.tmp 11)])] [3] (qS [ql 13 3,qm 2 13] [2] .ret)))))))⟩)
theorem n27:F27.n=14:=rfl
theorem low27:ki Tryz.prog (kpO F27) (kQ []) 27=some F27:=by kernel_rfl
def F71:FIR:=laid (X:=⟨70,[],(qS [qB 5 72 0] [1,2,3,4,5] (.seq (qS [qf 11 0 5,ql 12 11] [1,2,3,4,5,12] (.block 0 (.seq (qS [qo 14 (.bin .eql (.tmp 12) (.const (.int .u8 2))),qm 13 14] [1,2,3,4,5,12,13] (qC 13 .skip (.reg [qo 15 (.bin .eql (.tmp 12) (.const (.int .u8 3))),qm 13 15] [1,2,3,4,5,12,13]))) (qC 13 (qS [qm 16 1,qf 17 1 5,ql 18 17,qo 19 (.lookup .str (.int .i64 0) false (.tmp 16) (.tmp 18)),qc 20 .eql 19 0,qm 21 20,
 qt 21 (ql 22 2),qt 21 (qf 23 1 5),qt 21 (ql 24 23),qt 21 (qo 25 (.lookup .str (.int .i64 0) false (.tmp 22) (.tmp 24))),
 qt 21 (qc 26 .eql 25 0),qa 27 21 26] [1,2,3,4,5,27] (qC 27 (qS [ql 28 2,qf 29 1 5,ql 30 29,qo 31 (.lookup .str (.int .i64 0) false (.tmp 28) (.tmp 30)),qc 32 .add 31 1,
 ⟨none,none,.mapupd .str (.tmp 28) (.tmp 30) (.tmp 32)⟩] [1,3,4,5] (.reg [ql 33 3,qf 34 1 5,ql 35 34,qo 36 (.bslice 9 1 [(.string ⟨#[]⟩)] [(0,1,(.tmp 35))]),
 qo 37 (.append 9 1 16 [(.string ⟨#[]⟩)] (.tmp 33) (.tmp 36)),qs 1 3 37] [1,4,5])) .skip)) (qS [qo 39 (.bin .eql (.tmp 12) (.const (.int .u8 7))),qm 38 39] [1,4,5,38] (qC 38 (qS [qm 40 1,qx 41 72 [40],qm 1 41] [1,4,5] (.seq (qD [qf 42 7 5,ql 43 42,qx 44 73 [43],qf 45 8 5,ql 46 45,qo 47 (.append 9 1 16 [(.string ⟨#[]⟩)] (.tmp 44) (.tmp 46)),qL 48 47,
 qk 49 0] [[0,1,2,3,4,5,6,7],[0,1,3,4,2,5,6,7]] [1,4,5,47,48,49]) (.block 1 (.loop (qS [qb 50 .lss 49 48] [1,4,5,47,48,49,50] (.seq (qC 50 .skip (.exit 1)) (.seq (.block 2 (qS [qi 51 1 47 49,ql 52 51,qm 8 52] [1,4,5,8,47,48,49] (.reg [qm 53 1,qm 54 8,qo 55 (.lookup .str (.int .i64 0) false (.tmp 53) (.tmp 54)),qc 56 .add 55 1,
 ⟨none,none,.mapupd .str (.tmp 53) (.tmp 54) (.tmp 56)⟩] [1,4,5,47,48,49]))) (.reg [qc 57 .add 49 1,qm 49 57] [1,4,5,47,48,49])))))))) .skip)))))) (qS [qf 58 9 5,ql 59 58,qL 60 59,qk 61 0] [1,4,59,60,61] (.block 3 (.loop (qS [qb 62 .lss 61 60] [1,4,59,60,61,62] (.seq (qC 62 .skip (.exit 3)) (.seq (.block 4 (qS [qi 63 11 59 61,qN 64 11 63,
 qo 10 (.alloc 72 [(.int .u8 0),(.string ⟨#[]⟩),(.int .u8 0),(.int .i64 0),(.int .u64 0),(.string ⟨#[]⟩),(.slice none 0 0),(.slice none 0 0),(.slice none 0 0),(.slice none 0 0),(.int .i64 0)]),
 qs 11 10 64] [1,4,10,59,60,61] (.reg [ql 65 4,qN 66 11 10,qm 67 1,qo 68 (.callv (.tmp 65) [(.tmp 66),(.tmp 67)])] [1,4,59,60,61]))) (.reg [qc 69 .add 61 1,qm 61 69] [1,4,59,60,61])))))))))⟩)
theorem n71:F71.n=70:=rfl
theorem low71:ki Tryz.prog (kpO F71) (kQ [(9,[[0,1,2,3,4,5,6,7],[0,1,3,4,2,5,6,7]])]) 71=some F71:=by kernel_rfl
end Go.Proofs.YtijnokbblmbpkaaGreatDoor
namespace Go.V
open Go
structure SVar where
 name:ByteArray
 unit:Nat
 arg:Bool
 own:Int
structure z7 where
 kind:Nat
 index:Int
 slot:Int
 name:ByteArray
inductive PN where
 |mk (kind:Nat) (name:ByteArray) (lit:Lt) (refs:List z7) (unit:Int) (super:Bool) (kids:List PN)
def PN.kind:PN->Nat|.mk k _ _ _ _ _ _=>k
def PN.name:PN->ByteArray|.mk _ s _ _ _ _ _=>s
def PN.lit:PN->Lt|.mk _ _ l _ _ _ _=>l
def PN.refs:PN->List z7|.mk _ _ _ r _ _ _=>r
def PN.unit:PN->Int|.mk _ _ _ _ u _ _=>u
def PN.super:PN->Bool|.mk _ _ _ _ _ b _=>b
def PN.kids:PN->List PN|.mk _ _ _ _ _ _ l=>l
def PN.setSuper(b:Bool):PN->PN|.mk k s l r u _ ks=>.mk k s l r u b ks
structure SSt where
 vars:List SVar
 outer:List Int
 args:List Nat
 uses:List (Nat×Nat)
 bodies:List (List PN)
 f:Option (Nat×Int)
def e0:ByteArray:=⟨#[]⟩
def lt0:Lt:=.mk 0 0 0 e0 []
def SSt.wrong(st:SSt)(e:Nat)(at_:Int):SSt:=if st.f.isNone then {st with f:=some (e,at_)}else st
def nmIfT:ByteArray:=⟨#[105,102,84,114,117,101,58]⟩
def nmIfF:ByteArray:=⟨#[105,102,70,97,108,115,101,58]⟩
def nmAnd:ByteArray:=⟨#[97,110,100,58]⟩
def nmOr:ByteArray:=⟨#[111,114,58]⟩
def nmTF:ByteArray:=⟨#[105,102,84,114,117,101,58,105,102,70,97,108,115,101,58]⟩
def nmFT:ByteArray:=⟨#[105,102,70,97,108,115,101,58,105,102,84,114,117,101,58]⟩
def nmWT1:ByteArray:=⟨#[119,104,105,108,101,84,114,117,101,58]⟩
def nmWF1:ByteArray:=⟨#[119,104,105,108,101,70,97,108,115,101,58]⟩
def nmWT:ByteArray:=⟨#[119,104,105,108,101,84,114,117,101]⟩
def nmWF:ByteArray:=⟨#[119,104,105,108,101,70,97,108,115,101]⟩
def nmTo:ByteArray:=⟨#[116,111,58,100,111,58]⟩
def jM(s:ByteArray):Nat:=
 if s=nmIfT∨s=nmIfF∨s=nmAnd∨s=nmOr then 1
 else if s=nmTF∨s=nmFT then 2
 else if s=nmWT1∨s=nmWF1 then 3
 else if s=nmWT∨s=nmWF then 4
 else if s=nmTo then 5 else 0
def jg(x:Nd):Bool:=decide (x.kind=7)&&decide (x.args.length=0)
def jS:List Nd->Bool
 |r::_=>wh r
 |[]=>false
def fitK(n:Nat)(kids:List Nd):Bool:=
 match n with
 |1=>match kids with|[_,b]=>jg b|_=>false
 |2=>match kids with|[_,b,c]=>jg b&&jg c|_=>false
 |3=>match kids with|[a,b]=>jg a&&jg b|_=>false
 |4=>match kids with|[a]=>jg a|_=>false
 |5=>match kids with|[_,_,b]=>decide (b.kind=7)&&decide (b.args.length=1)|_=>false
 |_=>false
def inlP(k:Nat)(s:ByteArray)(kids:List Nd):Bool:=decide (k=4)&&!jS kids&&fitK (jM s) kids
def inlN(x:Nd):Bool:=inlP x.kind x.name x.kids
def inlK(s:ByteArray)(i:Nat):Bool:=
 match jM s with
 |3=>true
 |4=>true
 |5=>decide (i=2)
 |_=>decide (0 < i)
def speK(s:ByteArray):Nat:=match jM s with|3=>12|4=>12|5=>13|_=>11
def speN(s:ByteArray):ByteArray:=if jM s=5 then e0 else s
def nmSelf:ByteArray:=⟨#[115,101,108,102]⟩
def nmSuper:ByteArray:=⟨#[115,117,112,101,114]⟩
def nmNil:ByteArray:=⟨#[110,105,108]⟩
def nmTrue:ByteArray:=⟨#[116,114,117,101]⟩
def nmFalse:ByteArray:=⟨#[102,97,108,115,101]⟩
def zW(s:ByteArray):Nat:=if s=nmSelf∨s=nmSuper then 1 else if s=nmNil then 2 else if s=nmTrue then 3 else if s=nmFalse then 4 else 0
def wG(vs:List SVar)(env:List Nat)(nm:ByteArray):Option Nat:=env.reverse.find? fun v=>decide ((vs[v]?).map (·.name)=some nm)
def rawR(v:Nat):z7:=⟨99,v,0,e0⟩
def kN(unit:Nat)(arg own:Bool)(at_:Int):List ByteArray->Nat->SSt->List Nat->SSt×List Nat
 |[],_,st,env=>(st,env)
 |nm::r,i,st,env=>
  kN unit arg own at_ r (i+1) {(if(wG st.vars env nm).isSome then st.wrong 180 at_ else st)with vars:=st.vars++[⟨nm,unit,arg,if arg&&own then i else -1⟩]} (env++[st.vars.length])
def jv(F G:List ByteArray)(st:SSt)(env:List Nat)(nm:ByteArray)(u:Nat)(at_:Int)(put:Bool):z7×SSt:=
 if zW nm≠0 then(⟨zW nm,0,0,e0⟩,st)
 else match wG st.vars env nm with
  |some v=>(rawR v,{(if put&&((st.vars[v]?).map (·.arg)).getD false then st.wrong 182 at_ else st)with uses:=st.uses++[(u,v)]})
  |none=>match F.findIdx? (fun s=>decide (s=nm))with
   |some i=>(⟨7,i,0,e0⟩,st)
   |none=>(⟨8,0,0,nm⟩,if G.any (fun s=>decide (s=nm))then st else st.wrong 181 at_)
def wR(b:Bool):List PN->List PN
 |x::r=>x::r.map (PN.setSuper b)
 |[]=>[]
mutual
def jD(F G:List ByteArray):Nd->SSt->List Nat->Nat->PN×SSt
 |.mk k s lit args temps kids p,st,env,u=>
  if inlP k s kids then
   match ky F G s kids 0 st env u with
   |(ks,rs,st1)=>(.mk (speK s) (speN s) lt0 rs 0 false ks,st1)
  else if k=1 then(.mk 1 e0 lit [] 0 false [],st)
  else if k=2 then
   match jv F G st env s u p false with
   |(r,st1)=>(.mk 2 e0 lt0 [r] 0 false [],st1)
  else if k=3 then
   match jv F G st env s u p true with
   |(r,st1)=>match kR F G kids st1 env u with
    |(ks,st2)=>(.mk 3 e0 lt0 [r] 0 false ks,st2)
  else if k=7 then
   match kN st.outer.length true true p args 0 {st with outer:=st.outer++[(u:Int)],args:=st.args++[args.length],bodies:=st.bodies++[[]]} env with
   |(st1,env1)=>match kN st.outer.length false true p temps 0 st1 env1 with
    |(st2,env2)=>match kR F G kids st2 env2 st.outer.length with
     |(b,st3)=>(.mk 8 e0 lt0 [] st.outer.length false [],{st3 with bodies:=st3.bodies.set st.outer.length b})
  else if k=8 then match kR F G kids st env u with|(ks,st1)=>(.mk 9 e0 lt0 [] 0 false ks,st1)
  else if k=9 then match kR F G kids st env u with|(ks,st1)=>(.mk 10 e0 lt0 [] 0 false ks,st1)
  else if k=6 then match kR F G kids st env u with|(ks,st1)=>(.mk 7 s lt0 [] 0 false ks,st1)
  else if k=5 then match kR F G kids st env u with|(ks,st1)=>(.mk 6 e0 lt0 [] 0 false (wR (jS kids) ks),st1)
  else if jS kids then match kids with
   |[]=>(.mk 5 s lt0 [] 0 false [],st)
   |_::r=>match kR F G r st env u with|(ks,st1)=>(.mk 5 s lt0 [] 0 false ks,st1)
  else match kR F G kids st env u with|(ks,st1)=>(.mk 4 s lt0 [] 0 false ks,st1)
def kR(F G:List ByteArray):List Nd->SSt->List Nat->Nat->List PN×SSt
 |[],st,_,_=>([],st)
 |x::r,st,env,u=>
  match jD F G x st env u with
  |(q,st1)=>match kR F G r st1 env u with
   |(qs,st2)=>(q::qs,st2)
def ky(F G:List ByteArray)(s:ByteArray):List Nd->Nat->SSt->List Nat->Nat->List PN×List z7×SSt
 |[],_,st,_,_=>([],[],st)
 |x::r,i,st,env,u=>
  if inlK s i then
   match inlS F G x st env u with
   |(q,st1)=>match ky F G s r (i+1) st1 env u with
    |(qs,fs,st2)=>(q::qs,(if jM s=5 then rawR st.vars.length::fs else fs),st2)
  else match jD F G x st env u with
   |(q,st1)=>match ky F G s r (i+1) st1 env u with
    |(qs,fs,st2)=>(q::qs,fs,st2)
def inlS(F G:List ByteArray):Nd->SSt->List Nat->Nat->PN×SSt
 |.mk _ _ _ args temps kids p,st,env,u=>
  match kN u true false p args 0 st env with
  |(st1,env1)=>match kN u false false p temps 0 st1 env1 with
   |(st2,env2)=>match kR F G kids st2 env2 u with
    |(ks,st3)=>(.mk 14 e0 lt0 ((List.range' st1.vars.length temps.length).map rawR) 0 false ks,st3)
end
def unitS(F G:List ByteArray)(args temps:List ByteArray)(kids:List Nd)(p:Int)(st:SSt)(env:List Nat)(o:Int):SSt:=
 match kN st.outer.length true true p args 0 {st with outer:=st.outer++[o],args:=st.args++[args.length],bodies:=st.bodies++[[]]} env with
 |(st1,env1)=>match kN st.outer.length false true p temps 0 st1 env1 with
  |(st2,env2)=>match kR F G kids st2 env2 st.outer.length with
   |(b,st3)=>{st3 with bodies:=st3.bodies.set st.outer.length b}
def st0:SSt:=⟨[],[],[],[],[],none⟩
def rootS(F G:List ByteArray)(args temps:List ByteArray)(kids:List Nd):SSt:=unitS F G args temps kids 0 st0 [] (-1)
def upsO(outer:List Int):Nat->Int->List Nat
 |0,_=>[]
 |n+1,u=>if u < 0 then []else u.toNat::upsO outer n (outer.getD u.toNat (-1))
def SSt.line(st:SSt)(u:Nat):List Nat:=upsO st.outer (st.outer.length+1) u
def SSt.unitOf(st:SSt)(v:Nat):Nat:=((st.vars[v]?).map (·.unit)).getD 0
def SSt.ownOf(st:SSt)(v:Nat):Int:=((st.vars[v]?).map (·.own)).getD 0
def SSt.rem(st:SSt)(v:Nat):Bool:=st.uses.any fun q=>decide (q.2=v)&&decide (st.ownOf v < 0)&&decide (st.unitOf v≠q.1)
def SSt.way(st:SSt)(u v:Nat):List Nat:=(st.line u).takeWhile fun w=>decide (w≠st.unitOf v)
def SSt.need(st:SSt)(u:Nat)(t:Nat×Int):Bool:=st.uses.any fun q=>decide ((st.unitOf q.2,st.ownOf q.2)=t)&&decide (u∈st.way q.1 q.2)
def SSt.things(st:SSt)(o:Nat):List (Nat×Int):=(List.range (st.args.getD o 0+1)).map fun i:Nat=>(o,(i:Int) - 1)
def SSt.copied(st:SSt)(u:Nat):List (Nat×Int):=((st.line u).drop 1).reverse.flatMap fun o=>(st.things o).filter (st.need u)
def SSt.locals(st:SSt)(u:Nat)(r:Bool):List Nat:=(List.range st.vars.length).filter fun v=>decide (st.unitOf v=u)&&decide (st.ownOf v < 0)&&decide (st.rem v=r)
def idxI {α:Type}[DecidableEq α](l:List α)(x:α):Int:=match l.findIdx? (fun y=>decide (y=x))with|some i=>i|none=>-1
def SSt.place(st:SSt)(u:Nat)(t:Nat×Int):Int:=
 if t.1=u then(if 0<=t.2 then t.2 else st.args.getD u 0+(st.copied u).length+(st.locals u false).length)
 else match(st.copied u).findIdx? (fun y=>decide (y=t))with
  |some i=>st.args.getD u 0+i
  |none=>-1
def SSt.known(st:SSt)(u v:Nat):z7:=
 if 0<=st.ownOf v then⟨5,st.place u (st.unitOf v,st.ownOf v),0,e0⟩
 else if st.rem v then⟨6,st.place u (st.unitOf v,-1),idxI (st.locals (st.unitOf v) true) v,e0⟩
 else⟨5,st.args.getD u 0+(st.copied u).length+idxI (st.locals u false) v,0,e0⟩
def SSt.fix(st:SSt)(u:Nat)(r:z7):z7:=if r.kind=99 then st.known u r.index.toNat else r
mutual
def finS(st:SSt)(u:Nat):PN->PN
 |.mk k s l rs n b kids=>.mk k s l (rs.map (st.fix u)) n b (finsS st u kids)
def finsS(st:SSt)(u:Nat):List PN->List PN
 |[]=>[]
 |x::r=>finS st u x::finsS st u r
end
structure wZ where
 outer:Int
 args:Int
 copied:List z7
 locals:Int
 vector:Int
 body:List PN
def SSt.unitR(st:SSt)(u:Nat):wZ:=
 ⟨st.outer.getD u (-1),st.args.getD u 0,(st.copied u).map fun t=>⟨5,st.place (st.outer.getD u (-1)).toNat t,0,e0⟩,(st.locals u false).length,(st.locals u true).length,finsS st u (st.bodies.getD u [])⟩
def wZ.frame(x:wZ):Int:=x.args+x.copied.length+x.locals+(if 0 < x.vector then 1 else 0)
def wZ.big(x:wZ):Bool:=decide (63 < x.frame)||decide (63 < x.vector)
def SSt.answer(st:SSt):List wZ×Nat×Int:=
 match st.f with
 |some f=>([],f)
 |none=>if 255 < st.outer.length then([],183,0)
  else if((List.range st.outer.length).map st.unitR).any wZ.big then([],183,0)
  else((List.range st.outer.length).map st.unitR,0,0)
end Go.V

/-
  The code of functions, as terms: printed by a program, proved to be what the seat has.
-/
import Derived.Test.YtmnmandpdadedaaGreatDoorT1
import Derived.KernelRfl
import Derived.Test.YtmnmandpdadedaaGreatDoorProg
import Derived.Test.YtmnmandpdadedaaGreatDoorT7
import Derived.Test.YtmnmandpdadedaaGreatDoorV5
set_option linter.unusedSimpArgs false
set_option linter.unusedVariables false
namespace Go.Proofs.YtmnmandpdadedaaGreatDoor
open Go Go.V
set_option maxRecDepth 100000
def F67 : FIR := laid (X := ⟨44, [.tmp 2], (qS [qz 2 false] [0] (.seq (qS [qk 3 0] [0,3] (.block 0 (.loop (.seq (qS [qm 6 3,qm 7 0,qL 8 7,qb 9 .lss 6 8] [0,3,9] (qC 9 .skip (.exit 0))) (.seq (.block 1 (qS [qm 12 0,qm 13 3,qi 14 11 12 13,qN 15 11 14,qx 16 79 [15],qm 4 16] [0,3,4] (qS [qm 17 0,qm 18 3,qi 19 11 17 18,qf 20 0 19,ql 21 20,qo 22 (.bin .eql (.tmp 21) (.const (.int .u8 9))),qm 23 22,
  qt 23 (qm 24 3),qt 23 (qm 25 0),qt 23 (qL 26 25),qt 23 (qc 27 .sub 26 1),qt 23 (qb 28 .eql 24 27),qa 29 23 28,qm 5 29] [0,3,4,5] (qS [qm 30 4,qo 31 (.un .not (.tmp 30)),qm 32 31,qu 32 (qm 33 5),qu 32 (qo 34 (.un .not (.tmp 33))),qu 32 (qm 35 34),qt 35 (qm 36 0),
  qt 35 (qm 37 3),qt 35 (qi 38 11 36 37),qt 35 (qN 39 11 38),qt 35 (qx 40 80 [39]),qt 35 (qo 41 (.un .not (.tmp 40))),qu 32 (qa 42 35 41),qr 43 32 42] [0,3,43] (qC 43 (qS [qz 2 false] [2] .ret) .skip))))) (.reg [qm 10 3,qc 11 .add 10 1,qm 3 11] [0,3])))))) (qS [qz 2 true] [2] .ret)))⟩)
theorem n67 : F67.n = 44 := rfl
theorem low67 : kV Tryz.prog (kpO F67) (kM []) 67 = some F67 := by kernel_rfl
def F21 : FIR := laid (X := ⟨88, [.tmp 2], (qS [qB 1 25 0,qk 2 0] [1] (qS [qf 9 0 1,ql 10 9,qx 11 65 [10],qm 3 11] [1,3] (qS [qf 12 1 1,ql 13 12,qx 14 66 [13],qm 15 14,qt 15 (qf 16 2 1),qt 15 (ql 17 16),qt 15 (qx 18 66 [17]),qa 19 15 18,qm 4 19] [1,3,4] (qS [qf 20 4 1,ql 21 20,qx 22 67 [21],qm 5 22] [1,3,4,5] (.seq (qS [qm 23 3,qc 24 .lss 23 0,qm 25 24,qu 25 (qm 26 3),qu 25 (qf 27 1 1),qu 25 (ql 28 27),qu 25 (qL 29 28),qu 25 (qb 30 .neq 26 29),
  qr 31 25 30,qm 32 31,qu 32 (qm 33 4),qu 32 (qo 34 (.un .not (.tmp 33))),qr 35 32 34,qm 36 35,qu 36 (qf 37 3 1),qu 36 (ql 38 37),qu 36 (qc 39 .lss 38 0),
  qr 40 36 39,qm 41 40,qu 41 (qf 42 3 1),qu 41 (ql 43 42),qu 41 (qc 44 .gtr 43 255),qr 45 41 44,qm 46 45,qu 46 (qm 47 5),
  qu 46 (qo 48 (.un .not (.tmp 47))),qr 49 46 48] [1,49] (qC 49 (qS [qk 2 150] [2] .ret) .skip)) (qS [qf 50 1 1,ql 51 50,qL 52 51,qc 53 .gtr 52 15,qm 54 53,qu 54 (qf 55 2 1),qu 54 (ql 56 55),qu 54 (qL 57 56),qu 54 (qc 58 .gtr 57 63),
  qr 59 54 58,qm 6 59] [1,6] (qS [qz 7 false] [1,6,7] (.seq (qS [qk 8 0] [1,6,7,8] (.block 0 (.loop (.seq (qS [qm 60 8,qf 61 4 1,ql 62 61,qL 63 62,qb 64 .lss 60 63] [1,6,7,8,64] (qC 64 .skip (.exit 0))) (.seq (.block 1 (qS [qm 67 6,qm 68 67,qu 68 (qf 69 4 1),qu 68 (ql 70 69),qu 68 (qm 71 8),qu 68 (qi 72 11 70 71),qu 68 (qN 73 11 72),
  qu 68 (qx 74 68 [73]),qr 75 68 74,qm 6 75] [1,6,7,8] (.reg [qm 76 7,qm 77 76,qu 77 (qf 78 4 1),qu 77 (ql 79 78),qu 77 (qm 80 8),qu 77 (qi 81 11 79 80),qu 77 (qN 82 11 81),
  qu 77 (qx 83 69 [82]),qu 77 (qc 84 .gtr 83 40),qr 85 77 84,qm 7 85] [1,6,7,8]))) (.reg [qm 65 8,qc 66 .add 65 1,qm 8 66] [1,6,7,8])))))) (.seq (qS [qm 86 6] [7,86] (qC 86 (qS [qk 2 151] [2] .ret) .skip)) (.seq (qS [qm 87 7] [87] (qC 87 (qS [qk 2 152] [2] .ret) .skip)) (qS [qk 2 0] [2] .ret)))))))))))⟩)
theorem n21 : F21.n = 88 := rfl
theorem low21 : kV Tryz.prog (kpO F21) (kM []) 21 = some F21 := by kernel_rfl
def F58 : FIR := laid (X := ⟨33, [.cellN 2 5], (qS [qB 1 25 0,
  qo 2 (.alloc 25 [(.string ⟨#[]⟩), (.slice none 0 0), (.slice none 0 0), (.int .i64 0), (.slice none 0 0)])] [1,2] (qS [qo 3 (.mv (.const (.slice none 0 0)))] [1,2,3] (.seq (qS [qk 4 0] [1,2,3,4] (.block 0 (.loop (.seq (qS [qm 5 4,qf 6 4 1,ql 7 6,qL 8 7,qb 9 .lss 5 8] [1,2,3,4,9] (qC 9 .skip (.exit 0))) (.seq (.block 1 (.reg [qm 12 3,qf 13 4 1,ql 14 13,qm 15 4,qi 16 11 14 15,qN 17 11 16,qx 18 41 [17],
  qo 19 (.bslice 48 1 [(.int .u8 0), (.string ⟨#[]⟩), (.int .u8 0), (.int .i64 0), (.int .u64 0), (.string ⟨#[]⟩), (.slice none 0 0), (.slice none 0 0), (.slice none 0 0), (.slice none 0 0), (.int .i64 0)] [(0, 11, (.tmp 18))]),
  qo 20 (.append 48 11 168 [(.int .u8 0), (.string ⟨#[]⟩), (.int .u8 0), (.int .i64 0), (.int .u64 0), (.string ⟨#[]⟩), (.slice none 0 0), (.slice none 0 0), (.slice none 0 0), (.slice none 0 0), (.int .i64 0)] (.tmp 12) (.tmp 19)),
  qm 3 20] [1,2,3,4])) (.reg [qm 10 4,qc 11 .add 10 1,qm 4 11] [1,2,3,4])))))) (.seq (.free [qf 21 0 1,ql 22 21,qf 23 1 1,ql 24 23,qx 25 85 [24],qf 26 2 1,ql 27 26,qx 28 85 [27],qf 29 3 1,ql 30 29,qm 31 3,
  qo 32 (.build [(.string ⟨#[]⟩), (.slice none 0 0), (.slice none 0 0), (.int .i64 0), (.slice none 0 0)] [(0, 1, (.tmp 22)), (1, 1, (.tmp 25)), (2, 1, (.tmp 28)), (3, 1, (.tmp 30)), (4, 1, (.tmp 31))]),
  qs 5 2 32] [[], [0], [], [2], [2,3], [], [5], [3,2,4,5,6], [], [8], [], [10,8,9,6,5,7,3,2,4,0,1], [1,0,4,2,3,7,5,6,9,8,10,11]] [2]) .ret))))⟩)
theorem n58 : F58.n = 33 := rfl
theorem low58 : kV Tryz.prog (kpO F58) (kM [(6,[])]) 58 = some F58 := by kernel_rfl
def F59 : FIR := laid (X := ⟨36, [.cellN 2 11], (qS [qB 1 48 0,
  qo 2 (.alloc 48 [(.int .u8 0), (.string ⟨#[]⟩), (.int .u8 0), (.int .i64 0), (.int .u64 0), (.string ⟨#[]⟩), (.slice none 0 0), (.slice none 0 0), (.slice none 0 0), (.slice none 0 0), (.int .i64 0)])] [1,2] (qS [qo 3 (.mv (.const (.slice none 0 0)))] [1,2,3] (.seq (qS [qk 4 0] [1,2,3,4] (.block 0 (.loop (.seq (qS [qm 5 4,qf 6 9 1,ql 7 6,qL 8 7,qb 9 .lss 5 8] [1,2,3,4,9] (qC 9 .skip (.exit 0))) (.seq (.block 1 (.reg [qm 12 3,qf 13 9 1,ql 14 13,qm 15 4,qi 16 11 14 15,qN 17 11 16,qx 18 59 [17],
  qo 19 (.bslice 48 1 [(.int .u8 0), (.string ⟨#[]⟩), (.int .u8 0), (.int .i64 0), (.int .u64 0), (.string ⟨#[]⟩), (.slice none 0 0), (.slice none 0 0), (.slice none 0 0), (.slice none 0 0), (.int .i64 0)] [(0, 11, (.tmp 18))]),
  qo 20 (.append 48 11 168 [(.int .u8 0), (.string ⟨#[]⟩), (.int .u8 0), (.int .i64 0), (.int .u64 0), (.string ⟨#[]⟩), (.slice none 0 0), (.slice none 0 0), (.slice none 0 0), (.slice none 0 0), (.int .i64 0)] (.tmp 12) (.tmp 19)),
  qm 3 20] [1,2,3,4])) (.reg [qm 10 4,qc 11 .add 10 1,qm 4 11] [1,2,3,4])))))) (.seq (.free [qf 21 0 1,ql 22 21,qf 23 1 1,ql 24 23,qf 25 2 1,qN 26 5 25,qx 27 84 [26],qf 28 7 1,ql 29 28,qx 30 85 [29],qf 31 8 1,ql 32 31,
  qx 33 85 [32],qm 34 3,
  qo 35 (.build [(.int .u8 0), (.string ⟨#[]⟩), (.int .u8 0), (.int .i64 0), (.int .u64 0), (.string ⟨#[]⟩), (.slice none 0 0), (.slice none 0 0), (.slice none 0 0), (.slice none 0 0), (.int .i64 0)] [(0, 1, (.tmp 22)), (1, 1, (.tmp 24)), (2, 5, (.tmp 27)), (7, 1, (.tmp 30)), (8, 1, (.tmp 33)), (9, 1, (.tmp 34))]),
  qs 11 2 35] [[], [0], [], [2], [], [4], [4,5], [], [7], [5,4,6,7,8], [], [10], [8,7,6,4,5,9,10,11], [], [13,11,10,12,8,7,9,5,4,6,2,3,0,1], [1,0,3,2,6,4,5,9,7,8,12,10,11,13,14]] [2]) .ret))))⟩)
theorem n59 : F59.n = 36 := rfl
theorem low59 : kV Tryz.prog (kpO F59) (kM [(6,[])]) 59 = some F59 := by kernel_rfl
def F17 : FIR := laid (X := ⟨25, [.cellN 2 5], (qS [qB 1 25 0,
  qo 2 (.alloc 25 [(.string ⟨#[]⟩), (.slice none 0 0), (.slice none 0 0), (.int .i64 0), (.slice none 0 0)])] [1,2] (qS [qN 5 5 1,qx 6 58 [5],
  qo 3 (.alloc 25 [(.string ⟨#[]⟩), (.slice none 0 0), (.slice none 0 0), (.int .i64 0), (.slice none 0 0)]),qs 5 3 6] [2,3] (.seq (qS [qk 4 0] [2,3,4] (.block 0 (.loop (.seq (qS [qm 7 4,qf 8 4 3,ql 9 8,qL 10 9,qb 11 .lss 7 10] [2,3,4,11] (qC 11 .skip (.exit 0))) (.seq (.block 1 (qD [qf 14 4 3,ql 15 14,qm 16 4,qf 17 4 3,ql 18 17,qm 19 4,qi 20 11 18 19,qN 21 11 20,qx 22 59 [21],qi 23 11 15 16,qs 11 23 22] [[0,1,2,3,4,5,6,7,8,9,10], [0,2,3,4,5,6,7,8,1,9,10]] [2,3,4])) (.reg [qm 12 4,qc 13 .add 12 1,qm 4 13] [2,3,4])))))) (qS [qN 24 5 3,qs 5 2 24] [2] .ret))))⟩)
theorem n17 : F17.n = 25 := rfl
theorem low17 : kV Tryz.prog (kpO F17) (kM [(5,[[0,1,2,3,4,5,6,7,8,9,10], [0,2,3,4,5,6,7,8,1,9,10]])]) 17 = some F17 := by kernel_rfl
def F99 : FIR := laid (X := ⟨30, [], (qS [qB 3 46 1] [0,3] (.seq (qD [qm 5 0,qm 6 0,qn 7 6,qf 8 1 7,ql 9 8,qf 10 4 3,ql 11 10,qo 12 (.bslice 44 1 [(.slice none 0 0)] [(0, 1, (.tmp 11))]),
  qo 13 (.append 44 1 24 [(.slice none 0 0)] (.tmp 9) (.tmp 12)),qn 14 5,qf 15 1 14,qs 1 15 13] [[0,1,2,3,4,5,6,7,8,9,10,11]] [0,3]) (qS [qk 4 0] [0,3,4] (.block 0 (.loop (.seq (qS [qm 16 4,qf 17 4 3,ql 18 17,qL 19 18,qb 20 .lss 16 19] [0,3,4,20] (qC 20 .skip (.exit 0))) (.seq (.block 1 (.reg [qm 23 0,qf 24 4 3,ql 25 24,qm 26 4,qi 27 5 25 26,qN 28 5 27,qx 29 99 [23,28]] [0,3,4])) (.reg [qm 21 4,qc 22 .add 21 1,qm 4 22] [0,3,4]))))))))⟩)
theorem n99 : F99.n = 30 := rfl
theorem low99 : kV Tryz.prog (kpO F99) (kM [(1,[[0,1,2,3,4,5,6,7,8,9,10,11]])]) 99 = some F99 := by kernel_rfl
def F60 : FIR := laid (X := ⟨56, [], (qS [qB 3 48 1] [0,3] (.seq (qD [qm 5 0,qm 6 0,qn 7 6,qf 8 2 7,ql 9 8,qf 10 9 3,ql 11 10,qo 12 (.bslice 23 1 [(.slice none 0 0)] [(0, 1, (.tmp 11))]),
  qo 13 (.append 23 1 24 [(.slice none 0 0)] (.tmp 9) (.tmp 12)),qn 14 5,qf 15 2 14,qs 1 15 13] [[0,1,2,3,4,5,6,7,8,9,10,11]] [0,3]) (.seq (qD [qm 16 0,qm 17 0,qn 18 17,qf 19 3 18,ql 20 19,qf 21 7 3,ql 22 21,qo 23 (.bslice 22 1 [(.slice none 0 0)] [(0, 1, (.tmp 22))]),
  qo 24 (.append 22 1 24 [(.slice none 0 0)] (.tmp 20) (.tmp 23)),qn 25 16,qf 26 3 25,qs 1 26 24] [[0,1,2,3,4,5,6,7,8,9,10,11]] [0,3]) (.seq (qD [qm 27 0,qm 28 0,qn 29 28,qf 30 3 29,ql 31 30,qf 32 8 3,ql 33 32,qo 34 (.bslice 22 1 [(.slice none 0 0)] [(0, 1, (.tmp 33))]),
  qo 35 (.append 22 1 24 [(.slice none 0 0)] (.tmp 31) (.tmp 34)),qn 36 27,qf 37 3 36,qs 1 37 35] [[0,1,2,3,4,5,6,7,8,9,10,11]] [0,3]) (qS [qm 38 0,qf 39 2 3,qN 40 5 39,qx 41 99 [38,40]] [0,3] (qS [qk 4 0] [0,3,4] (.block 0 (.loop (.seq (qS [qm 42 4,qf 43 9 3,ql 44 43,qL 45 44,qb 46 .lss 42 45] [0,3,4,46] (qC 46 .skip (.exit 0))) (.seq (.block 1 (.reg [qm 49 0,qf 50 9 3,ql 51 50,qm 52 4,qi 53 11 51 52,qN 54 11 53,qx 55 60 [49,54]] [0,3,4])) (.reg [qm 47 4,qc 48 .add 47 1,qm 4 48] [0,3,4])))))))))))⟩)
theorem n60 : F60.n = 56 := rfl
theorem low60 : kV Tryz.prog (kpO F60) (kM [(1,[[0,1,2,3,4,5,6,7,8,9,10,11]]), (2,[[0,1,2,3,4,5,6,7,8,9,10,11]]), (3,[[0,1,2,3,4,5,6,7,8,9,10,11]])]) 60 = some F60 := by kernel_rfl
def F19 : FIR := laid (X := ⟨52, [], (qS [qB 3 25 1] [0,3] (.seq (qD [qm 5 0,qm 6 0,qn 7 6,qf 8 3 7,ql 9 8,qf 10 1 3,ql 11 10,qo 12 (.bslice 22 1 [(.slice none 0 0)] [(0, 1, (.tmp 11))]),
  qo 13 (.append 22 1 24 [(.slice none 0 0)] (.tmp 9) (.tmp 12)),qn 14 5,qf 15 3 14,qs 1 15 13] [[0,1,2,3,4,5,6,7,8,9,10,11]] [0,3]) (.seq (qD [qm 16 0,qm 17 0,qn 18 17,qf 19 3 18,ql 20 19,qf 21 2 3,ql 22 21,qo 23 (.bslice 22 1 [(.slice none 0 0)] [(0, 1, (.tmp 22))]),
  qo 24 (.append 22 1 24 [(.slice none 0 0)] (.tmp 20) (.tmp 23)),qn 25 16,qf 26 3 25,qs 1 26 24] [[0,1,2,3,4,5,6,7,8,9,10,11]] [0,3]) (.seq (qD [qm 27 0,qm 28 0,qn 29 28,qf 30 2 29,ql 31 30,qf 32 4 3,ql 33 32,qo 34 (.bslice 23 1 [(.slice none 0 0)] [(0, 1, (.tmp 33))]),
  qo 35 (.append 23 1 24 [(.slice none 0 0)] (.tmp 31) (.tmp 34)),qn 36 27,qf 37 2 36,qs 1 37 35] [[0,1,2,3,4,5,6,7,8,9,10,11]] [0,3]) (qS [qk 4 0] [0,3,4] (.block 0 (.loop (.seq (qS [qm 38 4,qf 39 4 3,ql 40 39,qL 41 40,qb 42 .lss 38 41] [0,3,4,42] (qC 42 .skip (.exit 0))) (.seq (.block 1 (.reg [qm 45 0,qf 46 4 3,ql 47 46,qm 48 4,qi 49 11 47 48,qN 50 11 49,qx 51 60 [45,50]] [0,3,4])) (.reg [qm 43 4,qc 44 .add 43 1,qm 4 44] [0,3,4]))))))))))⟩)
theorem n19 : F19.n = 52 := rfl
theorem low19 : kV Tryz.prog (kpO F19) (kM [(1,[[0,1,2,3,4,5,6,7,8,9,10,11]]), (2,[[0,1,2,3,4,5,6,7,8,9,10,11]]), (3,[[0,1,2,3,4,5,6,7,8,9,10,11]])]) 19 = some F19 := by kernel_rfl
def F3 : FIR := laid (X := ⟨110, [.tmp 4], (qS [qB 2 25 0,qB 3 25 1,qz 4 false] [2,3] (qS [qx 23 10 [],qm 5 23] [2,3,5] (qS [qN 24 5 2,qx 25 11 [24],qm 6 25] [2,3,5,6] (qS [qN 26 5 3,qx 27 11 [26],qm 7 27] [2,3,5,6,7] (.seq (qS [qm 28 5,qo 29 (.un .not (.tmp 28)),qm 30 29,qu 30 (qm 31 6),qr 32 30 31,qm 33 32,qu 33 (qm 34 7),qr 35 33 34] [2,3,5,35] (qC 35 (qS [qm 36 5,qm 4 36] [4] .ret) .skip)) (qS [qN 37 5 2,qx 38 12 [37],
  qo 8 (.alloc 25 [(.string ⟨#[]⟩), (.slice none 0 0), (.slice none 0 0), (.int .i64 0), (.slice none 0 0)]),qs 5 8 38] [2,3,8] (qS [qN 39 5 3,qx 40 12 [39],
  qo 9 (.alloc 25 [(.string ⟨#[]⟩), (.slice none 0 0), (.slice none 0 0), (.int .i64 0), (.slice none 0 0)]),qs 5 9 40] [2,3,8,9] (qS [qN 41 5 8,qx 42 13 [41],qm 10 42] [2,3,8,9,10] (qS [qN 43 5 8,qN 44 5 9,qx 45 14 [43,44],qm 11 45] [2,3,8,9,10,11] (qS [qN 46 5 8,qN 47 5 8,qx 48 14 [46,47],qm 12 48] [2,3,8,9,10,11,12] (qS [qN 49 5 8,qx 50 15 [49],
  qo 13 (.alloc 25 [(.string ⟨#[]⟩), (.slice none 0 0), (.slice none 0 0), (.int .i64 0), (.slice none 0 0)]),qs 5 13 50] [2,3,8,9,10,11,12,13] (qS [qN 51 5 8,qx 52 15 [51],
  qo 14 (.alloc 25 [(.string ⟨#[]⟩), (.slice none 0 0), (.slice none 0 0), (.int .i64 0), (.slice none 0 0)]),qs 5 14 52] [2,3,8,9,10,11,12,13,14] (qS [qN 53 5 8,qN 54 5 2,qx 55 16 [53,54],qm 15 55] [2,3,8,9,10,11,12,13,14,15] (qS [qN 56 5 9,qN 57 5 3,qx 58 16 [56,57],qm 16 58] [2,3,8,10,11,12,13,14,15,16] (qS [qN 59 5 2,qx 60 17 [59],
  qo 17 (.alloc 25 [(.string ⟨#[]⟩), (.slice none 0 0), (.slice none 0 0), (.int .i64 0), (.slice none 0 0)]),qs 5 17 60] [2,3,8,10,11,12,13,14,15,16,17] (qS [qN 61 5 13,qN 62 5 17,qo 63 (.call 18 [(.tmp 61), (.tmp 62), (.const (.bool true))]),qm 18 63] [2,3,8,10,11,12,13,14,15,16,17,18] (qS [qN 64 5 14,qN 65 5 17,qo 66 (.call 18 [(.tmp 64), (.tmp 65), (.const (.bool true))]),qm 19 66] [2,3,8,10,11,12,13,14,15,16,18,19] (qS [qN 67 5 2,qN 68 5 3,qo 69 (.call 18 [(.tmp 67), (.tmp 68), (.const (.bool false))]),qm 20 69] [2,8,10,11,12,13,14,15,16,18,19,20] (qS [qo 70 (.build [(.slice none 0 0), (.slice none 0 0), (.slice none 0 0), (.slice none 0 0)] []),qB 71 39 70,
  qm 21 71] [2,8,10,11,12,13,14,15,16,18,19,20,21] (qS [qm 72 21,qN 73 5 13,qx 74 19 [72,73]] [2,8,10,11,12,14,15,16,18,19,20,21] (qS [qm 75 21,qN 76 5 14,qx 77 19 [75,76]] [2,8,10,11,12,15,16,18,19,20,21] (qS [qm 78 21,qN 79 5 8,qx 80 19 [78,79]] [2,10,11,12,15,16,18,19,20,21] (qS [qm 81 21,qx 82 20 [81],qm 22 82] [2,10,11,12,15,16,18,19,20,22] (qS [qm 83 10,qN 84 5 2,qx 85 21 [84],qb 86 .eql 83 85,qm 87 86,qt 87 (qm 88 11),qt 87 (qm 89 20),
  qt 87 (qo 90 (.eqb false (.tmp 88) (.tmp 89))),qa 91 87 90,qm 92 91,qt 92 (qm 93 12),qa 94 92 93,qm 95 94,qt 95 (qm 96 18),qa 97 95 96,qm 98 97,
  qt 98 (qm 99 19),qa 100 98 99,qm 101 100,qt 101 (qm 102 15),qa 103 101 102,qm 104 103,qt 104 (qm 105 16),qa 106 104 105,qm 107 106,qt 107 (qm 108 22),
  qa 109 107 108,qm 4 109] [4] .ret))))))))))))))))))))))))⟩)
theorem n3 : F3.n = 110 := rfl
theorem low3 : kV Tryz.prog (kpO F3) (kM []) 3 = some F3 := by kernel_rfl
end Go.Proofs.YtmnmandpdadedaaGreatDoor
namespace Go.Proofs.YtmnmandpdadedaaGreatDoor
open Go Go.V
set_option maxHeartbeats 3200000
set_option maxRecDepth 100000
theorem eachNodes_spec (A : List kE) (l : List Nd) (a : Option Addr) (c bk o : Nat) (us : Nat -> List Value) (hla : l.length <= 274877906944) (ha : 0 < l.length -> a = some ⟨bk, o, none⟩) (hm : ∀ i, i < l.length -> ∀ y ∈ kA bk (o + i * 11) (us i), y ∈ A) (hr : ∀ i x, l[i]? = some x -> kf A x (us i))
    (fv : Value) (hfv : ∀ i x, l[i]? = some x -> zD Tryz.prog fv [.agg (us i).toArray] [A] (fun v Post => ∃ ws B, v = .agg ws.toArray /\ wD x.bare ws B /\ Post = [A, B])) :
    Fun Tryz.prog 54 [.slice a l.length c, fv] [A] (fun v Post => ∃ (rows : List (List Value)) (sp : List Value) (B : List kE), ku 11 v l.length rows.flatten sp /\ jl (l.map Nd.bare) rows B /\ Post = [A, slA v rows.flatten sp, B]) := by
  refine Fun.intro low54 (by simp [n54]) ?_;refine GOH ?_;refine VC.loop (α := Nat × Value × List (List Value) × List Value × List kE) (Γf := fun s => [(1, fv), (5, s.2.1), (8, .slice a l.length c), (9, vi l.length), (10, vi s.1)]) (Hf := fun s => [A, slA s.2.1 s.2.2.1.flatten s.2.2.2.1, s.2.2.2.2])
    (I := fun s => s.1 <= l.length /\ ku 11 s.2.1 s.1 s.2.2.1.flatten s.2.2.2.1 /\ jl ((l.take s.1).map Nd.bare) s.2.2.1 s.2.2.2.2) (μ := fun s => l.length - s.1) (0, .slice none 0 0, [], [], []) ⟨Nat.zero_le _, .nil, jl.nil⟩ ZU ⟨[], by simp [V.Spl, slA]⟩ ?_
  rintro ⟨j, sv, rows, sp, B⟩ ⟨i1, i2, i3⟩
  simp only at i1 i2 i3;dsimp only;refine GOH ?_;by_cases hj : j < l.length;rotate_left
  · rw [show decide ((j : Int) < (l.length : Int)) = false from Zf Zo];have hjl : j = l.length := by omega
    subst hjl;rw [List.take_length] at i3;refine GOH ?_;exact kC (Post := [A, slA sv rows.flatten sp, B]) (.inr rfl) (.tmp Zr .nil) ⟨rows, sp, B, i2, i3, rfl⟩ ZI
  obtain rfl := ha Zo;rw [show decide ((j : Int) < (l.length : Int)) = true from Zt Zo];obtain ⟨y, hy⟩ : ∃ y, l[j]? = some y := ⟨_, Zg hj⟩;have hym := hm j hj;have hyr := hr j y hy;have hcall := hfv j y hy;generalize us j = uj at *;obtain ⟨e1, e2, e3, e4, e5, e6, e7, e8, e9, e10, e11, e12, e13, e14, e15, e16, e17, rfl, _, _⟩ := km hyr;refine GOH ?_;refine kL Zr Zah rfl ?_;refine GOH ?_;refine kP (fun q => ?_);refine GOH ?_;refine wm Zr hcall Zr ZP (fun v Post hv => ?_);obtain ⟨ws, B2, rfl, hw, rfl⟩ := hv;simp only [CNx];have hwr := hw.rd;obtain ⟨f1, f2, f3, f4, f5, f6, f7, f8, f9, f10, f11, f12, f13, f14, f15, f16, f17, rfl, _, _⟩ := km hwr;have hsn := i3.snoc hw;rw [show (l.take j).map Nd.bare ++ [y.bare] = (l.take (j + 1)).map Nd.bare by rw [List.take_add_one, hy];simp] at hsn;refine ki (out := [cv y.bare.kind, .string y.bare.name, cv f1, vi f2, uv f3, .string f4, .slice f5 f6 f7, .slice f8 f9 f10, .slice f11 f12 f13, .slice f14 f15 f16, vi f17]) Zr Zr (fun r => ?_);refine j8 (k := j) (m := 1) (xs := rows.flatten) (sp := sp) (ys := [cv y.bare.kind, .string y.bare.name, cv f1, vi f2, uv f3, .string f4, .slice f5 f6 f7, .slice f8 f9 f10, .slice f11 f12 f13, .slice f14 f15 f16, vi f17]) Zr Zr i2 ZK Zr ?_ rfl Zr Zr Zd Zo (fun sv' sp' hsl' => ?_)
  · exact Zal
  have hfl : rows.flatten ++ [cv y.bare.kind, .string y.bare.name, cv f1, vi f2, uv f3, .string f4, .slice f5 f6 f7, .slice f8 f9 f10, .slice f11 f12 f13, .slice f14 f15 f16, vi f17] = (rows ++ [[cv y.bare.kind, .string y.bare.name, cv f1, vi f2, uv f3, .string f4, .slice f5 f6 f7, .slice f8 f9 f10, .slice f11 f12 f13, .slice f14 f15 f16, vi f17]]).flatten := by simp
  rw [hfl] at hsl' |-;refine GOH ?_;refine ⟨(j + 1, sv', rows ++ [[cv y.bare.kind, .string y.bare.name, cv f1, vi f2, uv f3, .string f4, .slice f5 f6 f7, .slice f8 f9 f10, .slice f11 f12 f13, .slice f14 f15 f16, vi f17]], sp', B ++ B2), ⟨by simp only;omega, hsl', hsn⟩, by simp only;omega, ZU, ?_⟩;simp only;refine Imp.cut (M := [A, slA sv' (rows ++ [[cv y.bare.kind, .string y.bare.name, cv f1, vi f2, uv f3, .string f4, .slice f5 f6 f7, .slice f8 f9 f10, .slice f11 f12 f13, .slice f14 f15 f16, vi f17]]).flatten sp', B, B2]) ZI (Imp.perm Zs)
theorem VO.sub {P : Program} {n : Nat} {rs : List RO} {Γ Δ : Env} {H : SH} {Z : List PanicEntry -> Env -> SH -> Prop} {K : Env -> SH -> Prop} (hs : V.Sub Γ Δ) (h : VO P n rs Δ H Z K) : VO P n rs Γ H Z K :=
  fun l hl a w F ZZ Q ha hsat hq hz => h l hl a w F ZZ Q ⟨ha.size, fun t v e => ha.slots t v (hs t v e)⟩ hsat hq hz
theorem bares_map : ∀ l : List Nd, Nd.bares l = l.map Nd.bare := by
  intro l
  induction l with
  | nil => rfl
  | cons x r ih => simp only [Nd.bares, ih, List.map_cons]
theorem bare_spec (A : List kE) : ∀ (N : Nat) (x : Nd), x.w <= N -> x.w <= 274877906944 -> ∀ vs, kf A x vs -> Fun Tryz.prog 55 [.agg vs.toArray] [A] (fun v Post => ∃ ws B, v = .agg ws.toArray /\ wD x.bare ws B /\ Post = [A, B]) := by
  intro N
  induction N with
  | zero => intro x hx;have := x.w_pos;omega
  | succ N ih =>
    intro x hx hb vs h;cases h with
    | @mk k s lit args temps kids p lv av tv a c bk o us wf hl hav htv ha hm hr hcp =>
    simp only [Nd.w] at hx hb;have hge := ws_ge kids;have hkids := eachNodes_spec A kids a c bk o us Zo ha hm hr (.func (.func 55) #[] #[]) (fun i x e1 => by
      have h1 := Nd.ws_mem (Zv e1);exact zD.of_fun (first := #[]) (cap := #[]) (ih x Zo Zo _ (hr i x e1)))
    have hown := own_spec A _ lit (Nat.le_refl _) Zo lv hl;have hca := zS A av args hav;have hct := zS A tv temps htv;have hl2 := hl;cases hl2 with
    | @mk lk ln lbt lt items la lc lbk lo lus lwf lha lhm lhr =>
    obtain ⟨aa, ac, rfl, hal, har⟩ := hav;obtain ⟨ta, tc, rfl, htl, htr⟩ := htv;refine Fun.intro low55 (by simp [n55]) ?_;simp only [CNx];refine GOH ?_;refine kS Zr (fun q => ?_);refine kP (fun q2 => ?_);simp only [Value.cells];refine GOH ?_;refine VC.seq (VC.free 16 (fun i v B => match i with
      | 0 => v = .pointer (some ⟨q, 0, none⟩) /\ B = []
      | 1 => v = cv k /\ B = []
      | 2 => v = .pointer (some ⟨q, 1, none⟩) /\ B = []
      | 3 => v = .string s /\ B = []
      | 4 => v = .pointer (some ⟨q, 2, none⟩) /\ B = []
      | 5 => v = .agg [cv lk, vi ln, uv lbt, .string lt, .slice la items.length lc].toArray /\ B = []
      | 6 => ∃ ws, v = .agg ws.toArray /\ wS (.mk lk ln lbt lt items) ws B
      | 7 => v = .pointer (some ⟨q, 7, none⟩) /\ B = []
      | 8 => v = .slice aa args.length ac /\ B = []
      | 9 => wC v args B
      | 10 => v = .pointer (some ⟨q, 8, none⟩) /\ B = []
      | 11 => v = .slice ta temps.length tc /\ B = []
      | 12 => wC v temps B
      | 13 => v = .pointer (some ⟨q, 9, none⟩) /\ B = []
      | 14 => v = .slice a kids.length c /\ B = []
      | 15 => ∃ (rows : List (List Value)) (sp : List Value) (B' : List kE), ku 11 v kids.length rows.flatten sp /\ jl (kids.map Nd.bare) rows B' /\ B = slA v rows.flatten sp ++ B'
      | _ => True) Zd Zd Zd ?_ ?_)
    · intro i hi vv hg Γ' hh hkp
      match i, hi with
    | 0, _ =>
      show VO _ _ [⟨some 3, none, .fld 0 (.tmp 1)⟩] _ _ _ _;exact kQ (hkp 1 _ rfl Zd) rfl Zad
    | 1, _ =>
      show VO _ _ [⟨some 4, none, .load1 (.tmp 3)⟩] _ _ _ _;have e := hh 0 Zd 3 rfl;rw [(hg 0 Zd).1] at e;exact kI e Zh Zad
    | 2, _ =>
      show VO _ _ [⟨some 5, none, .fld 1 (.tmp 1)⟩] _ _ _ _;exact kQ (hkp 1 _ rfl Zd) rfl Zad
    | 3, _ =>
      show VO _ _ [⟨some 6, none, .load1 (.tmp 5)⟩] _ _ _ _;have e := hh 2 Zd 5 rfl;rw [(hg 2 Zd).1] at e;exact kI e Zh Zad
    | 4, _ =>
      show VO _ _ [⟨some 7, none, .fld 2 (.tmp 1)⟩] _ _ _ _;exact kQ (hkp 1 _ rfl Zd) rfl Zad
    | 5, _ =>
      show VO _ _ [⟨some 8, none, .loadN 5 (.tmp 7)⟩] _ _ _ _;have e := hh 4 Zd 7 rfl;rw [(hg 4 Zd).1] at e;exact jq e Zab Zad
    | 6, _ =>
      show VO _ _ [⟨some 9, none, .call 97 [.tmp 8]⟩] _ _ _ _;have e := hh 5 Zd 8 rfl;rw [(hg 5 Zd).1] at e;refine kD hown Zao ZP (fun v Post hv => ?_);obtain ⟨ws, B, rfl, hw, rfl⟩ := hv;exact VO.nil ⟨_, B, rfl, ⟨ws, rfl, hw⟩, by simp only [CNx];exact IMx⟩
    | 7, _ =>
      show VO _ _ [⟨some 10, none, .fld 7 (.tmp 1)⟩] _ _ _ _;exact kQ (hkp 1 _ rfl Zd) rfl Zad
    | 8, _ =>
      show VO _ _ [⟨some 11, none, .load1 (.tmp 10)⟩] _ _ _ _;have e := hh 7 Zd 10 rfl;rw [(hg 7 Zd).1] at e;exact kI e Zh Zad
    | 9, _ =>
      show VO _ _ [⟨some 12, none, .call 53 [.tmp 11]⟩] _ _ _ _;have e := hh 8 Zd 11 rfl;rw [(hg 8 Zd).1] at e;refine kD hca Zao ZP (fun v Post hv => ?_);obtain ⟨B, hw, rfl⟩ := hv;exact VO.nil ⟨_, B, rfl, hw, by simp only [CNx];exact IMx⟩
    | 10, _ =>
      show VO _ _ [⟨some 13, none, .fld 8 (.tmp 1)⟩] _ _ _ _;exact kQ (hkp 1 _ rfl Zd) rfl Zad
    | 11, _ =>
      show VO _ _ [⟨some 14, none, .load1 (.tmp 13)⟩] _ _ _ _;have e := hh 10 Zd 13 rfl;rw [(hg 10 Zd).1] at e;exact kI e Zh Zad
    | 12, _ =>
      show VO _ _ [⟨some 15, none, .call 53 [.tmp 14]⟩] _ _ _ _;have e := hh 11 Zd 14 rfl;rw [(hg 11 Zd).1] at e;refine kD hct Zao ZP (fun v Post hv => ?_);obtain ⟨B, hw, rfl⟩ := hv;exact VO.nil ⟨_, B, rfl, hw, by simp only [CNx];exact IMx⟩
    | 13, _ =>
      show VO _ _ [⟨some 16, none, .fld 9 (.tmp 1)⟩] _ _ _ _;exact kQ (hkp 1 _ rfl Zd) rfl Zad
    | 14, _ =>
      show VO _ _ [⟨some 17, none, .load1 (.tmp 16)⟩] _ _ _ _;have e := hh 13 Zd 16 rfl;rw [(hg 13 Zd).1] at e;exact kI e Zh Zad
    | 15, _ =>
      show VO _ _ [⟨some 18, none, .call 54 [.tmp 17, .func 55]⟩] _ _ _ _;have e := hh 14 Zd 17 rfl;rw [(hg 14 Zd).1] at e;refine kD hkids Zao ZP (fun v Post hv => ?_);obtain ⟨rows, sp, B, h1, h2, rfl⟩ := hv;exact VO.nil ⟨_, slA v rows.flatten sp ++ B, rfl, ⟨rows, sp, B, h1, h2, rfl⟩, Imp.cut (M := [slA v rows.flatten sp, B, kA q2 0 [.int .u8 0, .string ⟨#[]⟩, .int .u8 0, .int .i64 0, .int .u64 0, .string ⟨#[]⟩, .slice none 0 0, .slice none 0 0, .slice none 0 0, .slice none 0 0, .int .i64 0], kA q 0 [cv k, .string s, cv lk, vi ln, uv lbt, .string lt, .slice la items.length lc, .slice aa args.length ac, .slice ta temps.length tc, .slice a kids.length c, vi p], A]) (by simp only [CNx];exact IMx) (Imp.perm Zs)⟩
    | n + 16, h => exact absurd h Zo
    · intro vv hg Γ' hh hkp;show VO _ _ _ _ [(vv 0).2, (vv 1).2, (vv 2).2, (vv 3).2, (vv 4).2, (vv 5).2, (vv 6).2, (vv 7).2, (vv 8).2, (vv 9).2, (vv 10).2, (vv 11).2, (vv 12).2, (vv 13).2, (vv 14).2, (vv 15).2, kA q2 0 [.int .u8 0, .string ⟨#[]⟩, .int .u8 0, .int .i64 0, .int .u64 0, .string ⟨#[]⟩, .slice none 0 0, .slice none 0 0, .slice none 0 0, .slice none 0 0, .int .i64 0], kA q 0 [cv k, .string s, cv lk, vi ln, uv lbt, .string lt, .slice la items.length lc, .slice aa args.length ac, .slice ta temps.length tc, .slice a kids.length c, vi p], A] _ _;refine VO.imp (H' := [kA q2 0 [.int .u8 0, .string ⟨#[]⟩, .int .u8 0, .int .i64 0, .int .u64 0, .string ⟨#[]⟩, .slice none 0 0, .slice none 0 0, .slice none 0 0, .slice none 0 0, .int .i64 0], A, (vv 6).2, (vv 9).2, (vv 12).2, (vv 15).2]) ZI ?_;obtain ⟨ws, e6, h6⟩ := hg 6 Zo;have h9 := hg 9 Zo;have h12 := hg 12 Zo;obtain ⟨rows, sp, B', h15, hrr, e15⟩ := hg 15 Zo;have s4 := hh 1 Zd 4 rfl;have s6 := hh 3 Zd 6 rfl;have s9 := hh 6 Zd 9 rfl;have s12 := hh 9 Zd 12 rfl;have s15 := hh 12 Zd 15 rfl;have s18 := hh 15 Zd 18 rfl;rw [(hg 1 Zo).1] at s4;rw [(hg 3 Zo).1] at s6;rw [e6] at s9;have s2 := hkp 2 _ rfl Zd;clear hg hh hkp;simp only at h9 h12;generalize (vv 6).2 = B6 at *;generalize vv 9 = p9 at *;generalize vv 12 = p12 at *;generalize vv 15 = p15 at *;obtain ⟨v9, B9⟩ := p9;obtain ⟨v12, B12⟩ := p12;obtain ⟨v15, B15⟩ := p15;simp only at *;subst e15;have hmade := wD.of (p := 0) (k := k) (s := s) (kids := kids.map Nd.bare) (by rw [List.length_map];exact h15) hrr ⟨wf.kind, wf.name, by rw [List.length_map];exact wf.many, Zo⟩ h6 h9 h12;rw [<- bares_map] at hmade;have h6r := h6.rd;obtain ⟨e1, c1, rfl⟩ := jx h6r;obtain ⟨a9, c9, rfl, _, _⟩ := h9.rd;obtain ⟨a12, c12, rfl, _, _⟩ := h12.rd;obtain ⟨a15, c15, rfl⟩ := h15.form;simp only [Lt.kind, Lt.n, Lt.bits, Lt.text, Lt.items] at *;refine VO.sub (Δ := [(2, kN q2), (4, cv k), (6, .string s), (9, .agg #[cv lk, vi ln, uv lbt, .string lt, .slice e1 items.length c1]), (12, .slice a9 args.length c9), (15, .slice a12 temps.length c12), (18, .slice a15 kids.length c15)]) (Sub.cons s2 (Sub.cons s4 (Sub.cons s6 (Sub.cons s9 (Sub.cons s12 (Sub.cons s15 (Sub.cons s18 Sub.nil))))))) ?_;refine GOH ?_;exact ⟨.inr rfl, [.agg #[cv k, .string s, cv lk, vi ln, uv lbt, .string lt, .slice e1 items.length c1, .slice a9 args.length c9, .slice a12 temps.length c12, .slice a15 kids.length c15, .int .i64 0]], [A, B6 ++ (B9 ++ (B12 ++ (slA (.slice a15 kids.length c15) rows.flatten sp ++ B')))], .cellN (us := [cv k, .string s, cv lk, vi ln, uv lbt, .string lt, .slice e1 items.length c1, .slice a9 args.length c9, .slice a12 temps.length c12, .slice a15 kids.length c15, .int .i64 0]) Zr Zr Zak .nil,
        Imp.cut (M := [A, B6, B9, B12, slA (.slice a15 kids.length c15) rows.flatten sp ++ B']) ZI (Imp.perm Zs), ⟨_, _, rfl, hmade, rfl⟩⟩
end Go.Proofs.YtmnmandpdadedaaGreatDoor
namespace Go.Proofs.YtmnmandpdadedaaGreatDoor
open Go Go.V
set_option maxHeartbeats 3200000
set_option maxRecDepth 100000
theorem BareNode_spec (A : List kE) : ∀ (N : Nat) (x : Nd), x.w <= N -> x.w <= 274877906944 -> ∀ vs, kf A x vs -> Fun Tryz.prog 59 [.agg vs.toArray] [A] (fun v Post => ∃ ws B, v = .agg ws.toArray /\ wD x.bare ws B /\ Post = [A, B]) := by
  intro N
  induction N with
  | zero => intro x hx;have := x.w_pos;omega
  | succ N ih =>
    intro x hx hb vs h;cases h with
    | @mk k s lit args temps kids p lv av tv a c bk o us wf hl hav htv ha hm hr hcp =>
    simp only [Nd.w] at hx hb;have hge := ws_ge kids;have hown := CopyLit_spec A _ lit (Nat.le_refl _) Zo lv hl;have hca := wR A av args hav;have hct := wR A tv temps htv;have hl2 := hl;cases hl2 with
    | @mk lk ln lbt lt items la lc lbk lo lus lwf lha lhm lhr =>
    obtain ⟨aa, ac, rfl, hal, har⟩ := hav;obtain ⟨ta, tc, rfl, htl, htr⟩ := htv;refine Fun.intro low59 (by simp [n59]) ?_;simp only [CNx];refine GOH ?_;refine kS Zr (fun q => ?_);refine kP (fun q2 => ?_);simp only [Value.cells];refine GOH ?_;refine VC.loop (α := Nat × Value × List (List Value) × List Value × List kE) (Γf := fun z => [(1, kN q), (2, kN q2), (3, z.2.1), (4, vi z.1)]) (Hf := fun z => [A, kA q 0 [cv k, .string s, cv lk, vi ln, uv lbt, .string lt, .slice la items.length lc, .slice aa args.length ac, .slice ta temps.length tc, .slice a kids.length c, vi p], kA q2 0 [.int .u8 0, .string ⟨#[]⟩, .int .u8 0, .int .i64 0, .int .u64 0, .string ⟨#[]⟩, .slice none 0 0, .slice none 0 0, .slice none 0 0, .slice none 0 0, .int .i64 0], slA z.2.1 z.2.2.1.flatten z.2.2.2.1, z.2.2.2.2])
      (I := fun z => z.1 <= kids.length /\ ku 11 z.2.1 z.1 z.2.2.1.flatten z.2.2.2.1 /\ jl ((kids.take z.1).map Nd.bare) z.2.2.1 z.2.2.2.2) (μ := fun z => kids.length - z.1) (0, .slice none 0 0, [], [], []) ⟨Nat.zero_le _, .nil, jl.nil⟩ ZU (Imp.cut (M := [A, kA q 0 [cv k, .string s, cv lk, vi ln, uv lbt, .string lt, .slice la items.length lc, .slice aa args.length ac, .slice ta temps.length tc, .slice a kids.length c, vi p], kA q2 0 [.int .u8 0, .string ⟨#[]⟩, .int .u8 0, .int .i64 0, .int .u64 0, .string ⟨#[]⟩, .slice none 0 0, .slice none 0 0, .slice none 0 0, .slice none 0 0, .int .i64 0]]) ZI (Imp.perm (by simp [slA]))) ?_
    rintro ⟨j, sv, rows, sp, K⟩ ⟨i1, i2, i3⟩
    simp only at i1 i2 i3;dsimp only;refine GOH ?_;by_cases hj : j < kids.length
    · obtain rfl := ha Zo;rw [show decide ((j : Int) < (kids.length : Int)) = true from Zt Zo];obtain ⟨y, hy⟩ : ∃ y, kids[j]? = some y := ⟨_, Zg hj⟩;have hym := hm j hj;have hyr := hr j y hy;have h1 := Nd.ws_mem (Zv hy);have hcall := ih y Zo Zo _ hyr;have hyl := hyr.len;generalize us j = uj at *;refine GOH ?_;refine kL Zr Zah hyl ?_;refine GOH ?_;refine kD hcall Zr ZP (fun v Post hv => ?_);obtain ⟨ws, B2, rfl, hw, rfl⟩ := hv;simp only [CNx];have hws := hw.rd;obtain ⟨f1, f2, f3, f4, f5, f6, f7, f8, f9, f10, f11, f12, f13, f14, f15, f16, f17, rfl, _, _⟩ := km hws;refine ki (out := [cv y.bare.kind, .string y.bare.name, cv f1, vi f2, uv f3, .string f4, .slice f5 f6 f7, .slice f8 f9 f10, .slice f11 f12 f13, .slice f14 f15 f16, vi f17]) Zr Zr (fun r => ?_);refine j8 (k := j) (m := 1) (xs := rows.flatten) (sp := sp) (ys := [cv y.bare.kind, .string y.bare.name, cv f1, vi f2, uv f3, .string f4, .slice f5 f6 f7, .slice f8 f9 f10, .slice f11 f12 f13, .slice f14 f15 f16, vi f17]) Zr Zr i2 ZK Zr ?_ rfl Zr Zr Zd Zo (fun sv' sp' hsl' => ?_)
      · exact Zal
      have hfl : rows.flatten ++ [cv y.bare.kind, .string y.bare.name, cv f1, vi f2, uv f3, .string f4, .slice f5 f6 f7, .slice f8 f9 f10, .slice f11 f12 f13, .slice f14 f15 f16, vi f17] = (rows ++ [[cv y.bare.kind, .string y.bare.name, cv f1, vi f2, uv f3, .string f4, .slice f5 f6 f7, .slice f8 f9 f10, .slice f11 f12 f13, .slice f14 f15 f16, vi f17]]).flatten := by simp
      rw [hfl] at hsl' |-;have hsn := i3.snoc hw;rw [show (kids.take j).map Nd.bare ++ [y.bare] = (kids.take (j + 1)).map Nd.bare by rw [List.take_add_one, hy];simp] at hsn;refine GOH ?_;refine ⟨(j + 1, sv', rows ++ [[cv y.bare.kind, .string y.bare.name, cv f1, vi f2, uv f3, .string f4, .slice f5 f6 f7, .slice f8 f9 f10, .slice f11 f12 f13, .slice f14 f15 f16, vi f17]], sp', K ++ B2), ⟨by simp only;omega, hsl', hsn⟩, by simp only;omega, ZU, ?_⟩;simp only;refine Imp.cut (M := [A, kA q 0 [cv k, .string s, cv lk, vi ln, uv lbt, .string lt, .slice la items.length lc, .slice aa args.length ac, .slice ta temps.length tc, .slice (some ⟨bk, o, none⟩) kids.length c, vi p], kA q2 0 [.int .u8 0, .string ⟨#[]⟩, .int .u8 0, .int .i64 0, .int .u64 0, .string ⟨#[]⟩, .slice none 0 0, .slice none 0 0, .slice none 0 0, .slice none 0 0, .int .i64 0], slA sv' (rows ++ [[cv y.bare.kind, .string y.bare.name, cv f1, vi f2, uv f3, .string f4, .slice f5 f6 f7, .slice f8 f9 f10, .slice f11 f12 f13, .slice f14 f15 f16, vi f17]]).flatten sp', K, B2]) ZI (Imp.perm Zs)
    rw [show decide ((j : Int) < (kids.length : Int)) = false from Zf Zo];have hjl : j = kids.length := by omega
    subst hjl;rw [List.take_length] at i3;obtain ⟨sa, sc, rfl⟩ := i2.form;generalize hSL : slA (.slice sa kids.length sc) rows.flatten sp = SL;refine GOH ?_;refine VC.imp (H' := [kA q 0 [cv k, .string s, cv lk, vi ln, uv lbt, .string lt, .slice la items.length lc, .slice aa args.length ac, .slice ta temps.length tc, .slice a kids.length c, vi p], kA q2 0 [.int .u8 0, .string ⟨#[]⟩, .int .u8 0, .int .i64 0, .int .u64 0, .string ⟨#[]⟩, .slice none 0 0, .slice none 0 0, .slice none 0 0, .slice none 0 0, .int .i64 0], SL, K, A]) ZI ?_;refine VC.seq (VC.free 14 (fun i v B => match i with
      | 0 => v = .pointer (some ⟨q, 0, none⟩) /\ B = []
      | 1 => v = cv k /\ B = []
      | 2 => v = .pointer (some ⟨q, 1, none⟩) /\ B = []
      | 3 => v = .string s /\ B = []
      | 4 => v = .pointer (some ⟨q, 2, none⟩) /\ B = []
      | 5 => v = .agg [cv lk, vi ln, uv lbt, .string lt, .slice la items.length lc].toArray /\ B = []
      | 6 => ∃ ws, v = .agg ws.toArray /\ wS (.mk lk ln lbt lt items) ws B
      | 7 => v = .pointer (some ⟨q, 7, none⟩) /\ B = []
      | 8 => v = .slice aa args.length ac /\ B = []
      | 9 => wC v args B
      | 10 => v = .pointer (some ⟨q, 8, none⟩) /\ B = []
      | 11 => v = .slice ta temps.length tc /\ B = []
      | 12 => wC v temps B
      | 13 => v = .slice sa kids.length sc /\ B = []
      | _ => True) Zd Zd Zd ?_ ?_)
    · intro i hi vv hg Γ' hh hkp
      match i, hi with
    | 0, _ =>
      show VO _ _ [⟨some 21, none, .fld 0 (.tmp 1)⟩] _ _ _ _;exact kQ (hkp 1 _ rfl Zd) rfl Zad
    | 1, _ =>
      show VO _ _ [⟨some 22, none, .load1 (.tmp 21)⟩] _ _ _ _;have e := hh 0 Zd 21 rfl;rw [(hg 0 Zd).1] at e;exact kI e Zh Zad
    | 2, _ =>
      show VO _ _ [⟨some 23, none, .fld 1 (.tmp 1)⟩] _ _ _ _;exact kQ (hkp 1 _ rfl Zd) rfl Zad
    | 3, _ =>
      show VO _ _ [⟨some 24, none, .load1 (.tmp 23)⟩] _ _ _ _;have e := hh 2 Zd 23 rfl;rw [(hg 2 Zd).1] at e;exact kI e Zh Zad
    | 4, _ =>
      show VO _ _ [⟨some 25, none, .fld 2 (.tmp 1)⟩] _ _ _ _;exact kQ (hkp 1 _ rfl Zd) rfl Zad
    | 5, _ =>
      show VO _ _ [⟨some 26, none, .loadN 5 (.tmp 25)⟩] _ _ _ _;have e := hh 4 Zd 25 rfl;rw [(hg 4 Zd).1] at e;exact jq e Zab Zad
    | 6, _ =>
      show VO _ _ [⟨some 27, none, .call 84 [.tmp 26]⟩] _ _ _ _;have e := hh 5 Zd 26 rfl;rw [(hg 5 Zd).1] at e;refine kD hown Zao ZP (fun v Post hv => ?_);obtain ⟨ws, B, rfl, hw, rfl⟩ := hv;exact VO.nil ⟨_, B, rfl, ⟨ws, rfl, hw⟩, by simp only [CNx];exact IMx⟩
    | 7, _ =>
      show VO _ _ [⟨some 28, none, .fld 7 (.tmp 1)⟩] _ _ _ _;exact kQ (hkp 1 _ rfl Zd) rfl Zad
    | 8, _ =>
      show VO _ _ [⟨some 29, none, .load1 (.tmp 28)⟩] _ _ _ _;have e := hh 7 Zd 28 rfl;rw [(hg 7 Zd).1] at e;exact kI e Zh Zad
    | 9, _ =>
      show VO _ _ [⟨some 30, none, .call 85 [.tmp 29]⟩] _ _ _ _;have e := hh 8 Zd 29 rfl;rw [(hg 8 Zd).1] at e;refine kD hca Zao ZP (fun v Post hv => ?_);obtain ⟨B, hw, rfl⟩ := hv;exact VO.nil ⟨_, B, rfl, hw, by simp only [CNx];exact IMx⟩
    | 10, _ =>
      show VO _ _ [⟨some 31, none, .fld 8 (.tmp 1)⟩] _ _ _ _;exact kQ (hkp 1 _ rfl Zd) rfl Zad
    | 11, _ =>
      show VO _ _ [⟨some 32, none, .load1 (.tmp 31)⟩] _ _ _ _;have e := hh 10 Zd 31 rfl;rw [(hg 10 Zd).1] at e;exact kI e Zh Zad
    | 12, _ =>
      show VO _ _ [⟨some 33, none, .call 85 [.tmp 32]⟩] _ _ _ _;have e := hh 11 Zd 32 rfl;rw [(hg 11 Zd).1] at e;refine kD hct Zao ZP (fun v Post hv => ?_);obtain ⟨B, hw, rfl⟩ := hv;exact VO.nil ⟨_, B, rfl, hw, by simp only [CNx];exact IMx⟩
    | 13, _ =>
      show VO _ _ [⟨some 34, none, .mv (.tmp 3)⟩] _ _ _ _;exact ka (hkp 3 _ rfl Zd) Zad
    | n + 14, h => exact absurd h Zo
    · intro vv hg Γ' hh hkp;show VO _ _ _ _ [(vv 0).2, (vv 1).2, (vv 2).2, (vv 3).2, (vv 4).2, (vv 5).2, (vv 6).2, (vv 7).2, (vv 8).2, (vv 9).2, (vv 10).2, (vv 11).2, (vv 12).2, (vv 13).2, kA q 0 [cv k, .string s, cv lk, vi ln, uv lbt, .string lt, .slice la items.length lc, .slice aa args.length ac, .slice ta temps.length tc, .slice a kids.length c, vi p], kA q2 0 [.int .u8 0, .string ⟨#[]⟩, .int .u8 0, .int .i64 0, .int .u64 0, .string ⟨#[]⟩, .slice none 0 0, .slice none 0 0, .slice none 0 0, .slice none 0 0, .int .i64 0], SL, K, A] _ _;refine VO.imp (H' := [kA q2 0 [.int .u8 0, .string ⟨#[]⟩, .int .u8 0, .int .i64 0, .int .u64 0, .string ⟨#[]⟩, .slice none 0 0, .slice none 0 0, .slice none 0 0, .slice none 0 0, .int .i64 0], A, (vv 6).2, (vv 9).2, (vv 12).2, SL, K]) ZI ?_;obtain ⟨ws, e6, h6⟩ := hg 6 Zo;have h9 := hg 9 Zo;have h12 := hg 12 Zo;have s22 := hh 1 Zd 22 rfl;have s24 := hh 3 Zd 24 rfl;have s27 := hh 6 Zd 27 rfl;have s30 := hh 9 Zd 30 rfl;have s33 := hh 12 Zd 33 rfl;have s34 := hh 13 Zd 34 rfl;rw [(hg 1 Zo).1] at s22;rw [(hg 3 Zo).1] at s24;rw [e6] at s27;rw [(hg 13 Zo).1] at s34;have s2 := hkp 2 _ rfl Zd;clear hg hh hkp;simp only at h9 h12;generalize (vv 6).2 = B6 at *;generalize vv 9 = p9 at *;generalize vv 12 = p12 at *;obtain ⟨v9, B9⟩ := p9;obtain ⟨v12, B12⟩ := p12;simp only at *;have hmade := wD.of (p := 0) (k := k) (s := s) (kids := kids.map Nd.bare) (by rw [List.length_map];exact i2) i3 ⟨wf.kind, wf.name, by rw [List.length_map];exact wf.many, Zo⟩ h6 h9 h12;have h6r := h6.rd;obtain ⟨a9, c9, rfl, _, _⟩ := h9.rd;obtain ⟨a12, c12, rfl, _, _⟩ := h12.rd;obtain ⟨e1, c1, rfl⟩ := jx h6r;simp only [Lt.kind, Lt.n, Lt.bits, Lt.text, Lt.items] at *;rw [hSL] at hmade;rw [<- bares_eq] at hmade;refine VO.sub (Δ := [(2, kN q2), (22, cv k), (24, .string s), (27, .agg #[cv lk, vi ln, uv lbt, .string lt, .slice e1 items.length c1]), (30, .slice a9 args.length c9), (33, .slice a12 temps.length c12), (34, .slice sa kids.length sc)]) (Sub.cons s2 (Sub.cons s22 (Sub.cons s24 (Sub.cons s27 (Sub.cons s30 (Sub.cons s33 (Sub.cons s34 Sub.nil))))))) ?_;refine GOH ?_;exact ⟨.inr rfl, [.agg #[cv k, .string s, cv lk, vi ln, uv lbt, .string lt, .slice e1 items.length c1, .slice a9 args.length c9, .slice a12 temps.length c12, .slice sa kids.length sc, .int .i64 0]], [A, B6 ++ (B9 ++ (B12 ++ (SL ++ K)))], .cellN (us := [cv k, .string s, cv lk, vi ln, uv lbt, .string lt, .slice e1 items.length c1, .slice a9 args.length c9, .slice a12 temps.length c12, .slice sa kids.length sc, .int .i64 0]) Zr Zr Zak .nil,
        Imp.cut (M := [A, B6, B9, B12, SL, K]) ZI (Imp.perm Zs), ⟨_, _, rfl, hmade, rfl⟩⟩
end Go.Proofs.YtmnmandpdadedaaGreatDoor
namespace Go.Proofs.YtmnmandpdadedaaGreatDoor
open Go Go.V
set_option maxHeartbeats 3200000
set_option maxRecDepth 100000
theorem CopyNode_spec (A : List kE) : ∀ (N : Nat) (x : Nd), x.w <= N -> x.w <= 274877906944 -> ∀ vs, kf A x vs -> Fun Tryz.prog 41 [.agg vs.toArray] [A] (fun v Post => ∃ ws B, v = .agg ws.toArray /\ wD x ws B /\ Post = [A, B]) := by
  intro N
  induction N with
  | zero => intro x hx;have := x.w_pos;omega
  | succ N ih =>
    intro x hx hb vs h;cases h with
    | @mk k s lit args temps kids p lv av tv a c bk o us wf hl hav htv ha hm hr hcp =>
    simp only [Nd.w] at hx hb;have hge := ws_ge kids;have hown := CopyLit_spec A _ lit (Nat.le_refl _) Zo lv hl;have hca := wR A av args hav;have hct := wR A tv temps htv;have hl2 := hl;cases hl2 with
    | @mk lk ln lbt lt items la lc lbk lo lus lwf lha lhm lhr =>
    obtain ⟨aa, ac, rfl, hal, har⟩ := hav;obtain ⟨ta, tc, rfl, htl, htr⟩ := htv;refine Fun.intro low41 (by simp [n41]) ?_;simp only [CNx];refine GOH ?_;refine kS Zr (fun q => ?_);refine kP (fun q2 => ?_);simp only [Value.cells];refine GOH ?_;refine VC.loop (α := Nat × Value × List (List Value) × List Value × List kE) (Γf := fun z => [(1, kN q), (2, kN q2), (3, z.2.1), (4, vi z.1)]) (Hf := fun z => [A, kA q 0 [cv k, .string s, cv lk, vi ln, uv lbt, .string lt, .slice la items.length lc, .slice aa args.length ac, .slice ta temps.length tc, .slice a kids.length c, vi p], kA q2 0 [.int .u8 0, .string ⟨#[]⟩, .int .u8 0, .int .i64 0, .int .u64 0, .string ⟨#[]⟩, .slice none 0 0, .slice none 0 0, .slice none 0 0, .slice none 0 0, .int .i64 0], slA z.2.1 z.2.2.1.flatten z.2.2.2.1, z.2.2.2.2])
      (I := fun z => z.1 <= kids.length /\ ku 11 z.2.1 z.1 z.2.2.1.flatten z.2.2.2.1 /\ jl (kids.take z.1) z.2.2.1 z.2.2.2.2) (μ := fun z => kids.length - z.1) (0, .slice none 0 0, [], [], []) ⟨Nat.zero_le _, .nil, jl.nil⟩ ZU (Imp.cut (M := [A, kA q 0 [cv k, .string s, cv lk, vi ln, uv lbt, .string lt, .slice la items.length lc, .slice aa args.length ac, .slice ta temps.length tc, .slice a kids.length c, vi p], kA q2 0 [.int .u8 0, .string ⟨#[]⟩, .int .u8 0, .int .i64 0, .int .u64 0, .string ⟨#[]⟩, .slice none 0 0, .slice none 0 0, .slice none 0 0, .slice none 0 0, .int .i64 0]]) ZI (Imp.perm (by simp [slA]))) ?_
    rintro ⟨j, sv, rows, sp, K⟩ ⟨i1, i2, i3⟩
    simp only at i1 i2 i3;dsimp only;refine GOH ?_;by_cases hj : j < kids.length
    · obtain rfl := ha Zo;rw [show decide ((j : Int) < (kids.length : Int)) = true from Zt Zo];obtain ⟨y, hy⟩ : ∃ y, kids[j]? = some y := ⟨_, Zg hj⟩;have hym := hm j hj;have hyr := hr j y hy;have h1 := Nd.ws_mem (Zv hy);have hcall := ih y Zo Zo _ hyr;have hyl := hyr.len;generalize us j = uj at *;refine GOH ?_;refine kL Zr Zah hyl ?_;refine GOH ?_;refine kD hcall Zr ZP (fun v Post hv => ?_);obtain ⟨ws, B2, rfl, hw, rfl⟩ := hv;simp only [CNx];have hws := hw.rd;obtain ⟨f1, f2, f3, f4, f5, f6, f7, f8, f9, f10, f11, f12, f13, f14, f15, f16, f17, rfl, _, _⟩ := km hws;refine ki (out := [cv y.kind, .string y.name, cv f1, vi f2, uv f3, .string f4, .slice f5 f6 f7, .slice f8 f9 f10, .slice f11 f12 f13, .slice f14 f15 f16, vi f17]) Zr Zr (fun r => ?_);refine j8 (k := j) (m := 1) (xs := rows.flatten) (sp := sp) (ys := [cv y.kind, .string y.name, cv f1, vi f2, uv f3, .string f4, .slice f5 f6 f7, .slice f8 f9 f10, .slice f11 f12 f13, .slice f14 f15 f16, vi f17]) Zr Zr i2 ZK Zr ?_ rfl Zr Zr Zd Zo (fun sv' sp' hsl' => ?_)
      · exact Zal
      have hfl : rows.flatten ++ [cv y.kind, .string y.name, cv f1, vi f2, uv f3, .string f4, .slice f5 f6 f7, .slice f8 f9 f10, .slice f11 f12 f13, .slice f14 f15 f16, vi f17] = (rows ++ [[cv y.kind, .string y.name, cv f1, vi f2, uv f3, .string f4, .slice f5 f6 f7, .slice f8 f9 f10, .slice f11 f12 f13, .slice f14 f15 f16, vi f17]]).flatten := by simp
      rw [hfl] at hsl' |-;have hsn := i3.snoc hw;rw [show kids.take j ++ [y] = kids.take (j + 1) by rw [List.take_add_one, hy];rfl] at hsn;refine GOH ?_;refine ⟨(j + 1, sv', rows ++ [[cv y.kind, .string y.name, cv f1, vi f2, uv f3, .string f4, .slice f5 f6 f7, .slice f8 f9 f10, .slice f11 f12 f13, .slice f14 f15 f16, vi f17]], sp', K ++ B2), ⟨by simp only;omega, hsl', hsn⟩, by simp only;omega, ZU, ?_⟩;simp only;refine Imp.cut (M := [A, kA q 0 [cv k, .string s, cv lk, vi ln, uv lbt, .string lt, .slice la items.length lc, .slice aa args.length ac, .slice ta temps.length tc, .slice (some ⟨bk, o, none⟩) kids.length c, vi p], kA q2 0 [.int .u8 0, .string ⟨#[]⟩, .int .u8 0, .int .i64 0, .int .u64 0, .string ⟨#[]⟩, .slice none 0 0, .slice none 0 0, .slice none 0 0, .slice none 0 0, .int .i64 0], slA sv' (rows ++ [[cv y.kind, .string y.name, cv f1, vi f2, uv f3, .string f4, .slice f5 f6 f7, .slice f8 f9 f10, .slice f11 f12 f13, .slice f14 f15 f16, vi f17]]).flatten sp', K, B2]) ZI (Imp.perm Zs)
    rw [show decide ((j : Int) < (kids.length : Int)) = false from Zf Zo];have hjl : j = kids.length := by omega
    subst hjl;rw [List.take_length] at i3;obtain ⟨sa, sc, rfl⟩ := i2.form;generalize hSL : slA (.slice sa kids.length sc) rows.flatten sp = SL;refine GOH ?_;refine VC.imp (H' := [kA q 0 [cv k, .string s, cv lk, vi ln, uv lbt, .string lt, .slice la items.length lc, .slice aa args.length ac, .slice ta temps.length tc, .slice a kids.length c, vi p], kA q2 0 [.int .u8 0, .string ⟨#[]⟩, .int .u8 0, .int .i64 0, .int .u64 0, .string ⟨#[]⟩, .slice none 0 0, .slice none 0 0, .slice none 0 0, .slice none 0 0, .int .i64 0], SL, K, A]) ZI ?_;refine VC.seq (VC.free 16 (fun i v B => match i with
      | 0 => v = .pointer (some ⟨q, 0, none⟩) /\ B = []
      | 1 => v = cv k /\ B = []
      | 2 => v = .pointer (some ⟨q, 1, none⟩) /\ B = []
      | 3 => v = .string s /\ B = []
      | 4 => v = .pointer (some ⟨q, 2, none⟩) /\ B = []
      | 5 => v = .agg [cv lk, vi ln, uv lbt, .string lt, .slice la items.length lc].toArray /\ B = []
      | 6 => ∃ ws, v = .agg ws.toArray /\ wS (.mk lk ln lbt lt items) ws B
      | 7 => v = .pointer (some ⟨q, 7, none⟩) /\ B = []
      | 8 => v = .slice aa args.length ac /\ B = []
      | 9 => wC v args B
      | 10 => v = .pointer (some ⟨q, 8, none⟩) /\ B = []
      | 11 => v = .slice ta temps.length tc /\ B = []
      | 12 => wC v temps B
      | 13 => v = .slice sa kids.length sc /\ B = []
      | 14 => v = .pointer (some ⟨q, 10, none⟩) /\ B = []
      | 15 => v = vi p /\ B = []
      | _ => True) Zd Zd Zd ?_ ?_)
    · intro i hi vv hg Γ' hh hkp
      match i, hi with
    | 0, _ =>
      show VO _ _ [⟨some 21, none, .fld 0 (.tmp 1)⟩] _ _ _ _;exact kQ (hkp 1 _ rfl Zd) rfl Zad
    | 1, _ =>
      show VO _ _ [⟨some 22, none, .load1 (.tmp 21)⟩] _ _ _ _;have e := hh 0 Zd 21 rfl;rw [(hg 0 Zd).1] at e;exact kI e Zh Zad
    | 2, _ =>
      show VO _ _ [⟨some 23, none, .fld 1 (.tmp 1)⟩] _ _ _ _;exact kQ (hkp 1 _ rfl Zd) rfl Zad
    | 3, _ =>
      show VO _ _ [⟨some 24, none, .load1 (.tmp 23)⟩] _ _ _ _;have e := hh 2 Zd 23 rfl;rw [(hg 2 Zd).1] at e;exact kI e Zh Zad
    | 4, _ =>
      show VO _ _ [⟨some 25, none, .fld 2 (.tmp 1)⟩] _ _ _ _;exact kQ (hkp 1 _ rfl Zd) rfl Zad
    | 5, _ =>
      show VO _ _ [⟨some 26, none, .loadN 5 (.tmp 25)⟩] _ _ _ _;have e := hh 4 Zd 25 rfl;rw [(hg 4 Zd).1] at e;exact jq e Zab Zad
    | 6, _ =>
      show VO _ _ [⟨some 27, none, .call 84 [.tmp 26]⟩] _ _ _ _;have e := hh 5 Zd 26 rfl;rw [(hg 5 Zd).1] at e;refine kD hown Zao ZP (fun v Post hv => ?_);obtain ⟨ws, B, rfl, hw, rfl⟩ := hv;exact VO.nil ⟨_, B, rfl, ⟨ws, rfl, hw⟩, by simp only [CNx];exact IMx⟩
    | 7, _ =>
      show VO _ _ [⟨some 28, none, .fld 7 (.tmp 1)⟩] _ _ _ _;exact kQ (hkp 1 _ rfl Zd) rfl Zad
    | 8, _ =>
      show VO _ _ [⟨some 29, none, .load1 (.tmp 28)⟩] _ _ _ _;have e := hh 7 Zd 28 rfl;rw [(hg 7 Zd).1] at e;exact kI e Zh Zad
    | 9, _ =>
      show VO _ _ [⟨some 30, none, .call 85 [.tmp 29]⟩] _ _ _ _;have e := hh 8 Zd 29 rfl;rw [(hg 8 Zd).1] at e;refine kD hca Zao ZP (fun v Post hv => ?_);obtain ⟨B, hw, rfl⟩ := hv;exact VO.nil ⟨_, B, rfl, hw, by simp only [CNx];exact IMx⟩
    | 10, _ =>
      show VO _ _ [⟨some 31, none, .fld 8 (.tmp 1)⟩] _ _ _ _;exact kQ (hkp 1 _ rfl Zd) rfl Zad
    | 11, _ =>
      show VO _ _ [⟨some 32, none, .load1 (.tmp 31)⟩] _ _ _ _;have e := hh 10 Zd 31 rfl;rw [(hg 10 Zd).1] at e;exact kI e Zh Zad
    | 12, _ =>
      show VO _ _ [⟨some 33, none, .call 85 [.tmp 32]⟩] _ _ _ _;have e := hh 11 Zd 32 rfl;rw [(hg 11 Zd).1] at e;refine kD hct Zao ZP (fun v Post hv => ?_);obtain ⟨B, hw, rfl⟩ := hv;exact VO.nil ⟨_, B, rfl, hw, by simp only [CNx];exact IMx⟩
    | 13, _ =>
      show VO _ _ [⟨some 34, none, .mv (.tmp 3)⟩] _ _ _ _;exact ka (hkp 3 _ rfl Zd) Zad
    | 14, _ =>
      show VO _ _ [⟨some 35, none, .fld 10 (.tmp 1)⟩] _ _ _ _;exact kQ (hkp 1 _ rfl Zd) rfl Zad
    | 15, _ =>
      show VO _ _ [⟨some 36, none, .load1 (.tmp 35)⟩] _ _ _ _;have e := hh 14 Zd 35 rfl;rw [(hg 14 Zd).1] at e;exact kI e Zh Zad
    | n + 16, h => exact absurd h Zo
    · intro vv hg Γ' hh hkp;show VO _ _ _ _ [(vv 0).2, (vv 1).2, (vv 2).2, (vv 3).2, (vv 4).2, (vv 5).2, (vv 6).2, (vv 7).2, (vv 8).2, (vv 9).2, (vv 10).2, (vv 11).2, (vv 12).2, (vv 13).2, (vv 14).2, (vv 15).2, kA q 0 [cv k, .string s, cv lk, vi ln, uv lbt, .string lt, .slice la items.length lc, .slice aa args.length ac, .slice ta temps.length tc, .slice a kids.length c, vi p], kA q2 0 [.int .u8 0, .string ⟨#[]⟩, .int .u8 0, .int .i64 0, .int .u64 0, .string ⟨#[]⟩, .slice none 0 0, .slice none 0 0, .slice none 0 0, .slice none 0 0, .int .i64 0], SL, K, A] _ _;refine VO.imp (H' := [kA q2 0 [.int .u8 0, .string ⟨#[]⟩, .int .u8 0, .int .i64 0, .int .u64 0, .string ⟨#[]⟩, .slice none 0 0, .slice none 0 0, .slice none 0 0, .slice none 0 0, .int .i64 0], A, (vv 6).2, (vv 9).2, (vv 12).2, SL, K]) ZI ?_;obtain ⟨ws, e6, h6⟩ := hg 6 Zo;have h9 := hg 9 Zo;have h12 := hg 12 Zo;have s22 := hh 1 Zd 22 rfl;have s24 := hh 3 Zd 24 rfl;have s27 := hh 6 Zd 27 rfl;have s30 := hh 9 Zd 30 rfl;have s33 := hh 12 Zd 33 rfl;have s34 := hh 13 Zd 34 rfl;have s36 := hh 15 Zd 36 rfl;rw [(hg 1 Zo).1] at s22;rw [(hg 3 Zo).1] at s24;rw [e6] at s27;rw [(hg 13 Zo).1] at s34;rw [(hg 15 Zo).1] at s36;have s2 := hkp 2 _ rfl Zd;clear hg hh hkp;simp only at h9 h12;generalize (vv 6).2 = B6 at *;generalize vv 9 = p9 at *;generalize vv 12 = p12 at *;obtain ⟨v9, B9⟩ := p9;obtain ⟨v12, B12⟩ := p12;simp only at *;have hmade := wD.of (p := p) (k := k) (s := s) i2 i3 wf h6 h9 h12;have h6r := h6.rd;obtain ⟨a9, c9, rfl, _, _⟩ := h9.rd;obtain ⟨a12, c12, rfl, _, _⟩ := h12.rd;obtain ⟨e1, c1, rfl⟩ := jx h6r;simp only [Lt.kind, Lt.n, Lt.bits, Lt.text, Lt.items] at *;rw [hSL] at hmade;refine VO.sub (Δ := [(2, kN q2), (22, cv k), (24, .string s), (27, .agg #[cv lk, vi ln, uv lbt, .string lt, .slice e1 items.length c1]), (30, .slice a9 args.length c9), (33, .slice a12 temps.length c12), (34, .slice sa kids.length sc), (36, vi p)]) (Sub.cons s2 (Sub.cons s22 (Sub.cons s24 (Sub.cons s27 (Sub.cons s30 (Sub.cons s33 (Sub.cons s34 (Sub.cons s36 Sub.nil)))))))) ?_;refine GOH ?_;exact ⟨.inr rfl, [.agg #[cv k, .string s, cv lk, vi ln, uv lbt, .string lt, .slice e1 items.length c1, .slice a9 args.length c9, .slice a12 temps.length c12, .slice sa kids.length sc, vi p]], [A, B6 ++ (B9 ++ (B12 ++ (SL ++ K)))], .cellN (us := [cv k, .string s, cv lk, vi ln, uv lbt, .string lt, .slice e1 items.length c1, .slice a9 args.length c9, .slice a12 temps.length c12, .slice sa kids.length sc, vi p]) Zr Zr Zak .nil,
        Imp.cut (M := [A, B6, B9, B12, SL, K]) ZI (Imp.perm Zs), ⟨_, _, rfl, hmade, rfl⟩⟩
end Go.Proofs.YtmnmandpdadedaaGreatDoor

/-
  The code of functions, as terms: printed by a program, proved to be what the seat has.
-/
import Derived.Test.YtmnmandpdadedaaGreatDoorT1
import Derived.KernelRfl
import Derived.Test.YtmnmandpdadedaaGreatDoorProg
import Derived.Test.YtmnmandpdadedaaGreatDoorV9
import Derived.Test.YtmnmandpdadedaaGreatDoorV11
import Derived.Test.YtmnmandpdadedaaGreatDoorV10
set_option linter.unusedSimpArgs false
set_option linter.unusedVariables false
namespace Go.Proofs.YtmnmandpdadedaaGreatDoor
open Go Go.V
set_option maxRecDepth 100000
def F12 : FIR := laid (X := ⟨48, [.cellN 2 5],
 (qS [qB 1 25 0,
  qo 2 (.alloc 25 [(Value.string ⟨#[]⟩), (Value.slice none 0 0), (Value.slice none 0 0), (Value.int IntKind.i64 0), (Value.slice none 0 0)])] [1,2]
 (qS [qf 5 4 1,ql 6 5,qL 7 6,qc 8 .add 7 1,
  qo 9 (.mkslice 48 11 168 [(Value.int IntKind.u8 0), (Value.string ⟨#[]⟩), (Value.int IntKind.u8 0), (Value.int IntKind.i64 0), (Value.int IntKind.u64 0), (Value.string ⟨#[]⟩), (Value.slice none 0 0), (Value.slice none 0 0), (Value.slice none 0 0), (Value.slice none 0 0), (Value.int IntKind.i64 0)] (.tmp 8) (.tmp 8)),
  qm 3 9] [1,2,3]
 (.seq (qS [qk 4 0] [1,2,3,4]
 (.block 0 (.loop (.seq (qS [qm 10 4,qf 11 4 1,ql 12 11,qL 13 12,qb 14 .lss 10 13] [1,2,3,4,14]
 (qC 14 .skip
 (.exit 0)))
 (.seq (.block 1 (.reg [qm 17 3,qm 18 4,qf 19 4 1,ql 20 19,qm 21 4,qi 22 11 20 21,qN 23 11 22,qx 24 23 [23],qi 25 11 17 18,qs 11 25 24] [1,2,3,4]))
 (.reg [qm 15 4,qc 16 .add 15 1,qm 4 16] [1,2,3,4]))))))
 (qS [qm 26 3,qf 27 4 1,ql 28 27,qL 29 28,qi 30 11 26 29,qf 31 10 30,
  ⟨none,none,.store 1 (.tmp 31) (.const (Value.int IntKind.i64 (-771)))⟩] [1,2,3]
 (.seq (.free [qf 32 0 1,ql 33 32,qf 34 1 1,ql 35 34,qx 36 44 [35],qf 37 2 1,ql 38 37,qx 39 44 [38],qf 40 3 1,ql 41 40,qm 42 3,qf 43 4 1,ql 44 43,
  qL 45 44,qo 46 (.slcL 11 (.tmp 42) none (some (.tmp 45)) none),
  qo 47 (.build [(Value.string ⟨#[]⟩), (Value.slice none 0 0), (Value.slice none 0 0), (Value.int IntKind.i64 0), (Value.slice none 0 0)] [(0, 1, (.tmp 33)), (1, 1, (.tmp 36)), (2, 1, (.tmp 39)), (3, 1, (.tmp 41)), (4, 1, (.tmp 46))]),
  qs 5 2 47] [[], [0], [], [2], [2,3], [], [5], [3,2,4,5,6], [], [8], [], [], [11], [11,12], [12,11,13,10], [10,13,11,12,14,8,9,6,5,7,3,2,4,0,1], [1,0,4,2,3,7,5,6,9,8,14,12,11,13,10,15]] [2])
 .ret)))))⟩)
theorem n12 : F12.n = 48 := rfl
theorem low12 : lowF Tryz.prog (kpO F12) (assoc [(7,[])]) 12 = some F12 := by kernel_rfl
def F16 : FIR := laid (X := ⟨60, [.tmp 4],
 (qS [qB 2 25 0,qB 3 25 1,qz 4 false] [2,3]
 (qS [qN 11 5 2,qN 12 5 3,qo 13 (.call 18 [(.tmp 11), (.tmp 12), (.const (Value.bool true))]),qm 5 13] [2,5]
 (.seq (qS [qm 14 5,qo 15 (.un .not (.tmp 14))] [2,15]
 (qC 15 (qS [qz 4 false] [4]
 .ret)
 .skip))
 (qS [qf 16 4 2,ql 17 16,qf 18 4 2,ql 19 18,qL 20 19,qc 21 .add 20 1,qo 22 (.slcL 11 (.tmp 17) none (some (.tmp 21)) none),qm 6 22] [2,6]
 (qS [qf 23 1 2,ql 24 23,qx 25 56 [24],qm 7 25] [2,6,7]
 (qS [qf 26 2 2,ql 27 26,qx 28 56 [27],qm 8 28] [2,6,7,8]
 (qS [qm 29 7,qm 30 29,qt 30 (qm 31 8),qa 32 30 31,qm 33 32,qt 33 (qm 34 6),qt 33 (qf 35 4 2),qt 33 (ql 36 35),qt 33 (qL 37 36),
  qt 33 (qi 38 11 34 37),qt 33 (qf 39 10 38),qt 33 (ql 40 39),qt 33 (qc 41 .eql 40 (-771)),qa 42 33 41,qm 9 42] [2,9]
 (.seq (qS [qk 10 0] [2,9,10]
 (.block 0 (.loop (.seq (qS [qm 43 10,qf 44 4 2,ql 45 44,qL 46 45,qb 47 .lss 43 46,qm 48 47,qt 48 (qm 49 9),qa 50 48 49] [2,9,10,50]
 (qC 50 .skip
 (.exit 0)))
 (.seq (.block 1 (.reg [qf 53 4 2,ql 54 53,qm 55 10,qi 56 11 54 55,qN 57 11 56,qx 58 57 [57],qm 9 58] [2,9,10]))
 (.reg [qm 51 10,qc 52 .add 51 1,qm 10 52] [2,9,10]))))))
 (qS [qm 59 9,qm 4 59] [4]
 .ret)))))))))⟩)
theorem n16 : F16.n = 60 := rfl
theorem low16 : lowF Tryz.prog (kpO F16) (assoc []) 16 = some F16 := by kernel_rfl
def F36 : FIR := laid (X := ⟨71, [.tmp 2],
 (qS [qB 1 25 0,qo 2 (.mv (.const (Value.slice none 0 0)))] [1]
 (qS [qo 3 (.mv (.const (Value.slice none 0 0)))] [1,3]
 (.seq (qS [qk 4 0] [1,3,4]
 (.block 0 (.loop (.seq (qS [qm 9 4,qf 10 4 1,ql 11 10,qL 12 11,qb 13 .lss 9 12] [1,3,4,13]
 (qC 13 .skip
 (.exit 0)))
 (.seq (.block 1 (qS [qf 16 4 1,ql 17 16,qm 18 4,qi 19 11 17 18,qN 20 11 19,qx 21 31 [20],qm 5 21] [1,3,4,5]
 (qS [qk 6 0] [1,3,4,5,6]
 (.block 2 (.loop (.seq (qS [qm 22 6,qm 23 5,qL 24 23,qb 25 .lss 22 24] [1,3,4,5,6,25]
 (qC 25 .skip
 (.exit 2)))
 (.seq (.block 3 (qS [qm 28 5,qm 29 6,qi 30 11 28 29,qf 31 0 30,ql 32 31,qo 33 (.bin .eql (.tmp 32) (.const (Value.int IntKind.u8 4))),qm 34 33,
  qu 34 (qm 35 5),qu 34 (qm 36 6),qu 34 (qi 37 11 35 36),qu 34 (qf 38 0 37),qu 34 (ql 39 38),
  qu 34 (qo 40 (.bin .eql (.tmp 39) (.const (Value.int IntKind.u8 6)))),qr 41 34 40,qm 7 41] [1,3,4,5,6,7]
 (.seq (qS [qk 8 0] [1,3,4,5,6,7,8]
 (.block 4 (.loop (.seq (qS [qm 42 8,qm 43 3,qL 44 43,qb 45 .lss 42 44] [1,3,4,5,6,7,8,45]
 (qC 45 .skip
 (.exit 4)))
 (.seq (.block 5 (qD [qm 48 7,qm 49 48,qt 49 (qm 50 3),qt 49 (qm 51 8),qt 49 (qi 52 1 50 51),qt 49 (ql 53 52),qt 49 (qm 54 5),qt 49 (qm 55 6),
  qt 49 (qi 56 11 54 55),qt 49 (qf 57 1 56),qt 49 (ql 58 57),qt 49 (qb 59 .neq 53 58),qa 60 49 59,qm 7 60] [[0,1,2,3,4,5,6,7,8,9,10,11,12,13]] [1,3,4,5,6,7,8]))
 (.reg [qm 46 8,qc 47 .add 46 1,qm 8 47] [1,3,4,5,6,7,8]))))))
 (qS [qm 61 7] [1,3,4,5,6,61]
 (qC 61 (.reg [qm 62 3,qm 63 5,qm 64 6,qi 65 11 63 64,qf 66 1 65,ql 67 66,qo 68 (.bslice 9 1 [(Value.string ⟨#[]⟩)] [(0, 1, (.tmp 67))]),
  qo 69 (.append 9 1 16 [(Value.string ⟨#[]⟩)] (.tmp 62) (.tmp 68)),qm 3 69] [1,3,4,5,6])
 .skip)))))
 (.reg [qm 26 6,qc 27 .add 26 1,qm 6 27] [1,3,4,5,6]))))))))
 (.reg [qm 14 4,qc 15 .add 14 1,qm 4 15] [1,3,4]))))))
 (qS [qm 70 3,qm 2 70] [2]
 .ret))))⟩)
theorem n36 : F36.n = 71 := rfl
theorem low36 : lowF Tryz.prog (kpO F36) (assoc [(13,[[0,1,2,3,4,5,6,7,8,9,10,11,12,13]])]) 36 = some F36 := by kernel_rfl
def F38 : FIR := laid (X := ⟨14, [],
 (.reg [qm 4 0,qm 5 0,qn 6 5,qf 7 3 6,ql 8 7,qm 9 1,qo 10 (.bslice 22 1 [(Value.slice none 0 0)] [(0, 1, (.tmp 9))]),
  qo 11 (.append 22 1 24 [(Value.slice none 0 0)] (.tmp 8) (.tmp 10)),qn 12 4,qf 13 3 12,qs 1 13 11] [])⟩)
theorem n38 : F38.n = 14 := rfl
theorem low38 : lowF Tryz.prog (kpO F38) (assoc []) 38 = some F38 := by kernel_rfl
def F20 : FIR := laid (X := ⟨37, [.tmp 2],
 (qS [qz 2 false] [0]
 (qS [qm 7 0,qn 8 7,qf 9 0 8,ql 10 9,qx 11 61 [10],qm 3 11] [0,3]
 (qS [qm 12 0,qn 13 12,qf 14 1 13,ql 15 14,qx 16 62 [15],qm 4 16] [0,3,4]
 (qS [qm 17 0,qn 18 17,qf 19 2 18,ql 20 19,qx 21 63 [20],qm 5 21] [0,3,4,5]
 (qS [qm 22 0,qn 23 22,qf 24 3 23,ql 25 24,qx 26 64 [25],qm 6 26] [3,4,5,6]
 (qS [qm 27 3,qm 28 27,qt 28 (qm 29 4),qa 30 28 29,qm 31 30,qt 31 (qm 32 5),qa 33 31 32,qm 34 33,qt 34 (qm 35 6),qa 36 34 35,qm 2 36] [2]
 .ret))))))⟩)
theorem n20 : F20.n = 37 := rfl
theorem low20 : lowF Tryz.prog (kpO F20) (assoc []) 20 = some F20 := by kernel_rfl
def F61 : FIR := laid (X := ⟨123, [.tmp 2],
 (qS [qz 2 false] [0]
 (qS [qo 3 (.mv (.const (Value.slice none 0 0)))] [0,3]
 (.seq (qS [qk 4 0] [0,3,4]
 (.block 0 (.loop (.seq (qS [qm 13 4,qm 14 0,qL 15 14,qb 16 .lss 13 15] [0,3,4,16]
 (qC 16 .skip
 (.exit 0)))
 (.seq (.block 1 (qS [qk 5 0] [0,3,4,5]
 (.block 2 (.loop (.seq (qS [qm 19 5,qm 20 0,qm 21 4,qi 22 1 20 21,ql 23 22,qL 24 23,qb 25 .lss 19 24] [0,3,4,5,25]
 (qC 25 .skip
 (.exit 2)))
 (.seq (.block 3 (qD [qm 28 0,qm 29 4,qi 30 1 28 29,ql 31 30,qm 32 5,qm 33 4,qm 34 5,qx 35 100 [33,34],qi 36 8 31 32,qf 37 2 36,qs 1 37 35] [[0,1,2,3,4,5,6,7,8,9,10], [0,1,2,4,5,6,7,3,8,9,10]] [0,3,4,5]))
 (.reg [qm 26 5,qc 27 .add 26 1,qm 5 27] [0,3,4,5])))))))
 (.reg [qm 17 4,qc 18 .add 17 1,qm 4 18] [0,3,4]))))))
 (.seq (qS [qk 6 0] [0,3,6]
 (.block 4 (.loop (.seq (qS [qm 38 6,qm 39 0,qL 40 39,qb 41 .lss 38 40] [0,3,6,41]
 (qC 41 .skip
 (.exit 4)))
 (.seq (.block 5 (qS [qm 44 0,qm 45 6,qi 46 1 44 45,ql 47 46,qm 7 47] [0,3,6,7]
 (.seq (qS [qk 8 0] [0,3,6,7,8]
 (.block 6 (.loop (.seq (qS [qm 48 8,qc 49 .lss 48 8] [0,3,6,7,8,49]
 (qC 49 .skip
 (.exit 6)))
 (.seq (.block 7 (.reg [qm 52 7,qm 53 6,qm 54 8,qx 55 101 [53,54],
  qo 56 (.build [(Value.int IntKind.u8 0), (Value.string ⟨#[]⟩), (Value.int IntKind.i64 0), (Value.int IntKind.u8 0), (Value.int IntKind.i64 0), (Value.int IntKind.u64 0), (Value.string ⟨#[]⟩), (Value.slice none 0 0)] [(2, 1, (.tmp 55))]),
  qo 57 (.bslice 113 1 [(Value.int IntKind.u8 0), (Value.string ⟨#[]⟩), (Value.int IntKind.i64 0), (Value.int IntKind.u8 0), (Value.int IntKind.i64 0), (Value.int IntKind.u64 0), (Value.string ⟨#[]⟩), (Value.slice none 0 0)] [(0, 8, (.tmp 56))]),
  qo 58 (.append 113 8 96 [(Value.int IntKind.u8 0), (Value.string ⟨#[]⟩), (Value.int IntKind.i64 0), (Value.int IntKind.u8 0), (Value.int IntKind.i64 0), (Value.int IntKind.u64 0), (Value.string ⟨#[]⟩), (Value.slice none 0 0)] (.tmp 52) (.tmp 57)),
  qm 7 58] [0,3,6,7,8]))
 (.reg [qm 50 8,qc 51 .add 50 1,qm 8 51] [0,3,6,7,8]))))))
 (.reg [qm 59 3,qm 60 7,qo 61 (.bslice 109 1 [(Value.slice none 0 0)] [(0, 1, (.tmp 60))]),
  qo 62 (.append 109 1 24 [(Value.slice none 0 0)] (.tmp 59) (.tmp 61)),qm 3 62] [0,3,6]))))
 (.reg [qm 42 6,qc 43 .add 42 1,qm 6 43] [0,3,6]))))))
 (.seq (qS [qk 9 0] [0,3,9]
 (.block 8 (.loop (.seq (qS [qm 63 9,qm 64 0,qL 65 64,qb 66 .lss 63 65] [0,3,9,66]
 (qC 66 .skip
 (.exit 8)))
 (.seq (.block 9 (qS [qm 69 0,qm 70 9,qi 71 1 69 70,ql 72 71,qL 73 72,qm 10 73] [0,3,9,10]
 (.seq (qS [qk 11 0] [0,3,9,10,11]
 (.block 10 (.loop (.seq (qS [qm 74 11,qm 75 10,qb 76 .lss 74 75] [0,3,9,10,11,76]
 (qC 76 .skip
 (.exit 10)))
 (.seq (.block 11 (.seq (qD [qm 79 0,qm 80 9,qi 81 1 79 80,ql 82 81,qm 83 11,qi 84 8 82 83,qf 85 2 84,ql 86 85,qm 87 9,qm 88 11,qx 89 100 [87,88],
  qb 90 .neq 86 89,qm 91 90,qu 91 (qm 92 3),qu 91 (qm 93 9),qu 91 (qi 94 1 92 93),qu 91 (ql 95 94),qu 91 (qm 96 11),qu 91 (qi 97 8 95 96),
  qu 91 (qf 98 2 97),qu 91 (ql 99 98),qu 91 (qm 100 9),qu 91 (qm 101 11),qu 91 (qx 102 100 [100,101]),qu 91 (qb 103 .neq 99 102),qr 104 91 103] [[0,1,2,3,4,5,6,7,8,9,10,11,12,13,14,15,16,17,18,19,20,21,22,23,24,25], [0,1,2,3,4,5,6,8,9,10,7,11,12,13,14,15,16,17,18,19,20,21,22,23,24,25], [0,1,2,4,8,9,10,3,5,6,7,11,12,13,14,15,16,17,18,19,20,21,22,23,24,25], [0,1,2,3,4,5,6,7,8,9,10,11,12,13,14,15,16,17,18,19,21,22,23,20,24,25], [0,1,2,3,4,5,6,8,9,10,7,11,12,13,14,15,16,17,18,19,21,22,23,20,24,25], [0,1,2,4,8,9,10,3,5,6,7,11,12,13,14,15,16,17,18,19,21,22,23,20,24,25], [0,1,2,3,4,5,6,7,8,9,10,11,12,13,14,15,17,21,22,23,16,18,19,20,24,25], [0,1,2,3,4,5,6,8,9,10,7,11,12,13,14,15,17,21,22,23,16,18,19,20,24,25], [0,1,2,4,8,9,10,3,5,6,7,11,12,13,14,15,17,21,22,23,16,18,19,20,24,25]] [0,3,9,10,11,104])
 (qC 104 (qS [qz 2 false] [2]
 .ret)
 .skip)))
 (.reg [qm 77 11,qc 78 .add 77 1,qm 11 78] [0,3,9,10,11]))))))
 (qS [qk 12 0] [0,3,9,10,12]
 (.block 12 (.loop (.seq (qS [qm 105 12,qc 106 .lss 105 8] [0,3,9,10,12,106]
 (qC 106 .skip
 (.exit 12)))
 (.seq (.block 13 (.seq (qD [qm 109 3,qm 110 9,qi 111 1 109 110,ql 112 111,qm 113 10,qm 114 12,qb 115 .add 113 114,qi 116 8 112 115,qf 117 2 116,ql 118 117,
  qm 119 9,qm 120 12,qx 121 101 [119,120],qb 122 .neq 118 121] [[0,1,2,3,4,5,6,7,8,9,10,11,12,13], [0,1,2,3,4,5,6,7,8,10,11,12,9,13], [0,1,2,4,5,6,10,11,12,3,7,8,9,13]] [0,3,9,10,12,122])
 (qC 122 (qS [qz 2 false] [2]
 .ret)
 .skip)))
 (.reg [qm 107 12,qc 108 .add 107 1,qm 12 108] [0,3,9,10,12])))))))))
 (.reg [qm 67 9,qc 68 .add 67 1,qm 9 68] [0,3,9]))))))
 (qS [qz 2 true] [2]
 .ret))))))⟩)
theorem n61 : F61.n = 123 := rfl
theorem low61 : lowF Tryz.prog (kpO F61) (assoc [(8,[[0,1,2,3,4,5,6,7,8,9,10], [0,1,2,4,5,6,7,3,8,9,10]]), (25,[[0,1,2,3,4,5,6,7,8,9,10,11,12,13,14,15,16,17,18,19,20,21,22,23,24,25], [0,1,2,3,4,5,6,8,9,10,7,11,12,13,14,15,16,17,18,19,20,21,22,23,24,25], [0,1,2,4,8,9,10,3,5,6,7,11,12,13,14,15,16,17,18,19,20,21,22,23,24,25], [0,1,2,3,4,5,6,7,8,9,10,11,12,13,14,15,16,17,18,19,21,22,23,20,24,25], [0,1,2,3,4,5,6,8,9,10,7,11,12,13,14,15,16,17,18,19,21,22,23,20,24,25], [0,1,2,4,8,9,10,3,5,6,7,11,12,13,14,15,16,17,18,19,21,22,23,20,24,25], [0,1,2,3,4,5,6,7,8,9,10,11,12,13,14,15,17,21,22,23,16,18,19,20,24,25], [0,1,2,3,4,5,6,8,9,10,7,11,12,13,14,15,17,21,22,23,16,18,19,20,24,25], [0,1,2,4,8,9,10,3,5,6,7,11,12,13,14,15,17,21,22,23,16,18,19,20,24,25]]), (30,[[0,1,2,3,4,5,6,7,8,9,10,11,12,13], [0,1,2,3,4,5,6,7,8,10,11,12,9,13], [0,1,2,4,5,6,10,11,12,3,7,8,9,13]])]) 61 = some F61 := by kernel_rfl
def F62 : FIR := laid (X := ⟨123, [.tmp 2],
 (qS [qz 2 false] [0]
 (qS [qo 3 (.mv (.const (Value.slice none 0 0)))] [0,3]
 (.seq (qS [qk 4 0] [0,3,4]
 (.block 0 (.loop (.seq (qS [qm 13 4,qm 14 0,qL 15 14,qb 16 .lss 13 15] [0,3,4,16]
 (qC 16 .skip
 (.exit 0)))
 (.seq (.block 1 (qS [qk 5 0] [0,3,4,5]
 (.block 2 (.loop (.seq (qS [qm 19 5,qm 20 0,qm 21 4,qi 22 1 20 21,ql 23 22,qL 24 23,qb 25 .lss 19 24] [0,3,4,5,25]
 (qC 25 .skip
 (.exit 2)))
 (.seq (.block 3 (qD [qm 28 0,qm 29 4,qi 30 1 28 29,ql 31 30,qm 32 5,qm 33 4,qm 34 5,qx 35 100 [33,34],qi 36 5 31 32,qf 37 1 36,qs 1 37 35] [[0,1,2,3,4,5,6,7,8,9,10], [0,1,2,4,5,6,7,3,8,9,10]] [0,3,4,5]))
 (.reg [qm 26 5,qc 27 .add 26 1,qm 5 27] [0,3,4,5])))))))
 (.reg [qm 17 4,qc 18 .add 17 1,qm 4 18] [0,3,4]))))))
 (.seq (qS [qk 6 0] [0,3,6]
 (.block 4 (.loop (.seq (qS [qm 38 6,qm 39 0,qL 40 39,qb 41 .lss 38 40] [0,3,6,41]
 (qC 41 .skip
 (.exit 4)))
 (.seq (.block 5 (qS [qm 44 0,qm 45 6,qi 46 1 44 45,ql 47 46,qm 7 47] [0,3,6,7]
 (.seq (qS [qk 8 0] [0,3,6,7,8]
 (.block 6 (.loop (.seq (qS [qm 48 8,qc 49 .lss 48 8] [0,3,6,7,8,49]
 (qC 49 .skip
 (.exit 6)))
 (.seq (.block 7 (.reg [qm 52 7,qm 53 6,qm 54 8,qx 55 101 [53,54],
  qo 56 (.build [(Value.int IntKind.u8 0), (Value.int IntKind.i64 0), (Value.int IntKind.u64 0), (Value.string ⟨#[]⟩), (Value.slice none 0 0)] [(1, 1, (.tmp 55))]),
  qo 57 (.bslice 46 1 [(Value.int IntKind.u8 0), (Value.int IntKind.i64 0), (Value.int IntKind.u64 0), (Value.string ⟨#[]⟩), (Value.slice none 0 0)] [(0, 5, (.tmp 56))]),
  qo 58 (.append 46 5 64 [(Value.int IntKind.u8 0), (Value.int IntKind.i64 0), (Value.int IntKind.u64 0), (Value.string ⟨#[]⟩), (Value.slice none 0 0)] (.tmp 52) (.tmp 57)),
  qm 7 58] [0,3,6,7,8]))
 (.reg [qm 50 8,qc 51 .add 50 1,qm 8 51] [0,3,6,7,8]))))))
 (.reg [qm 59 3,qm 60 7,qo 61 (.bslice 44 1 [(Value.slice none 0 0)] [(0, 1, (.tmp 60))]),
  qo 62 (.append 44 1 24 [(Value.slice none 0 0)] (.tmp 59) (.tmp 61)),qm 3 62] [0,3,6]))))
 (.reg [qm 42 6,qc 43 .add 42 1,qm 6 43] [0,3,6]))))))
 (.seq (qS [qk 9 0] [0,3,9]
 (.block 8 (.loop (.seq (qS [qm 63 9,qm 64 0,qL 65 64,qb 66 .lss 63 65] [0,3,9,66]
 (qC 66 .skip
 (.exit 8)))
 (.seq (.block 9 (qS [qm 69 0,qm 70 9,qi 71 1 69 70,ql 72 71,qL 73 72,qm 10 73] [0,3,9,10]
 (.seq (qS [qk 11 0] [0,3,9,10,11]
 (.block 10 (.loop (.seq (qS [qm 74 11,qm 75 10,qb 76 .lss 74 75] [0,3,9,10,11,76]
 (qC 76 .skip
 (.exit 10)))
 (.seq (.block 11 (.seq (qD [qm 79 0,qm 80 9,qi 81 1 79 80,ql 82 81,qm 83 11,qi 84 5 82 83,qf 85 1 84,ql 86 85,qm 87 9,qm 88 11,qx 89 100 [87,88],
  qb 90 .neq 86 89,qm 91 90,qu 91 (qm 92 3),qu 91 (qm 93 9),qu 91 (qi 94 1 92 93),qu 91 (ql 95 94),qu 91 (qm 96 11),qu 91 (qi 97 5 95 96),
  qu 91 (qf 98 1 97),qu 91 (ql 99 98),qu 91 (qm 100 9),qu 91 (qm 101 11),qu 91 (qx 102 100 [100,101]),qu 91 (qb 103 .neq 99 102),qr 104 91 103] [[0,1,2,3,4,5,6,7,8,9,10,11,12,13,14,15,16,17,18,19,20,21,22,23,24,25], [0,1,2,3,4,5,6,8,9,10,7,11,12,13,14,15,16,17,18,19,20,21,22,23,24,25], [0,1,2,4,8,9,10,3,5,6,7,11,12,13,14,15,16,17,18,19,20,21,22,23,24,25], [0,1,2,3,4,5,6,7,8,9,10,11,12,13,14,15,16,17,18,19,21,22,23,20,24,25], [0,1,2,3,4,5,6,8,9,10,7,11,12,13,14,15,16,17,18,19,21,22,23,20,24,25], [0,1,2,4,8,9,10,3,5,6,7,11,12,13,14,15,16,17,18,19,21,22,23,20,24,25], [0,1,2,3,4,5,6,7,8,9,10,11,12,13,14,15,17,21,22,23,16,18,19,20,24,25], [0,1,2,3,4,5,6,8,9,10,7,11,12,13,14,15,17,21,22,23,16,18,19,20,24,25], [0,1,2,4,8,9,10,3,5,6,7,11,12,13,14,15,17,21,22,23,16,18,19,20,24,25]] [0,3,9,10,11,104])
 (qC 104 (qS [qz 2 false] [2]
 .ret)
 .skip)))
 (.reg [qm 77 11,qc 78 .add 77 1,qm 11 78] [0,3,9,10,11]))))))
 (qS [qk 12 0] [0,3,9,10,12]
 (.block 12 (.loop (.seq (qS [qm 105 12,qc 106 .lss 105 8] [0,3,9,10,12,106]
 (qC 106 .skip
 (.exit 12)))
 (.seq (.block 13 (.seq (qD [qm 109 3,qm 110 9,qi 111 1 109 110,ql 112 111,qm 113 10,qm 114 12,qb 115 .add 113 114,qi 116 5 112 115,qf 117 1 116,ql 118 117,
  qm 119 9,qm 120 12,qx 121 101 [119,120],qb 122 .neq 118 121] [[0,1,2,3,4,5,6,7,8,9,10,11,12,13], [0,1,2,3,4,5,6,7,8,10,11,12,9,13], [0,1,2,4,5,6,10,11,12,3,7,8,9,13]] [0,3,9,10,12,122])
 (qC 122 (qS [qz 2 false] [2]
 .ret)
 .skip)))
 (.reg [qm 107 12,qc 108 .add 107 1,qm 12 108] [0,3,9,10,12])))))))))
 (.reg [qm 67 9,qc 68 .add 67 1,qm 9 68] [0,3,9]))))))
 (qS [qz 2 true] [2]
 .ret))))))⟩)
theorem n62 : F62.n = 123 := rfl
theorem low62 : lowF Tryz.prog (kpO F62) (assoc [(8,[[0,1,2,3,4,5,6,7,8,9,10], [0,1,2,4,5,6,7,3,8,9,10]]), (25,[[0,1,2,3,4,5,6,7,8,9,10,11,12,13,14,15,16,17,18,19,20,21,22,23,24,25], [0,1,2,3,4,5,6,8,9,10,7,11,12,13,14,15,16,17,18,19,20,21,22,23,24,25], [0,1,2,4,8,9,10,3,5,6,7,11,12,13,14,15,16,17,18,19,20,21,22,23,24,25], [0,1,2,3,4,5,6,7,8,9,10,11,12,13,14,15,16,17,18,19,21,22,23,20,24,25], [0,1,2,3,4,5,6,8,9,10,7,11,12,13,14,15,16,17,18,19,21,22,23,20,24,25], [0,1,2,4,8,9,10,3,5,6,7,11,12,13,14,15,16,17,18,19,21,22,23,20,24,25], [0,1,2,3,4,5,6,7,8,9,10,11,12,13,14,15,17,21,22,23,16,18,19,20,24,25], [0,1,2,3,4,5,6,8,9,10,7,11,12,13,14,15,17,21,22,23,16,18,19,20,24,25], [0,1,2,4,8,9,10,3,5,6,7,11,12,13,14,15,17,21,22,23,16,18,19,20,24,25]]), (30,[[0,1,2,3,4,5,6,7,8,9,10,11,12,13], [0,1,2,3,4,5,6,7,8,10,11,12,9,13], [0,1,2,4,5,6,10,11,12,3,7,8,9,13]])]) 62 = some F62 := by kernel_rfl
def F63 : FIR := laid (X := ⟨123, [.tmp 2],
 (qS [qz 2 false] [0]
 (qS [qo 3 (.mv (.const (Value.slice none 0 0)))] [0,3]
 (.seq (qS [qk 4 0] [0,3,4]
 (.block 0 (.loop (.seq (qS [qm 13 4,qm 14 0,qL 15 14,qb 16 .lss 13 15] [0,3,4,16]
 (qC 16 .skip
 (.exit 0)))
 (.seq (.block 1 (qS [qk 5 0] [0,3,4,5]
 (.block 2 (.loop (.seq (qS [qm 19 5,qm 20 0,qm 21 4,qi 22 1 20 21,ql 23 22,qL 24 23,qb 25 .lss 19 24] [0,3,4,5,25]
 (qC 25 .skip
 (.exit 2)))
 (.seq (.block 3 (qD [qm 28 0,qm 29 4,qi 30 1 28 29,ql 31 30,qm 32 5,qm 33 4,qm 34 5,qx 35 100 [33,34],qi 36 11 31 32,qf 37 10 36,qs 1 37 35] [[0,1,2,3,4,5,6,7,8,9,10], [0,1,2,4,5,6,7,3,8,9,10]] [0,3,4,5]))
 (.reg [qm 26 5,qc 27 .add 26 1,qm 5 27] [0,3,4,5])))))))
 (.reg [qm 17 4,qc 18 .add 17 1,qm 4 18] [0,3,4]))))))
 (.seq (qS [qk 6 0] [0,3,6]
 (.block 4 (.loop (.seq (qS [qm 38 6,qm 39 0,qL 40 39,qb 41 .lss 38 40] [0,3,6,41]
 (qC 41 .skip
 (.exit 4)))
 (.seq (.block 5 (qS [qm 44 0,qm 45 6,qi 46 1 44 45,ql 47 46,qm 7 47] [0,3,6,7]
 (.seq (qS [qk 8 0] [0,3,6,7,8]
 (.block 6 (.loop (.seq (qS [qm 48 8,qc 49 .lss 48 8] [0,3,6,7,8,49]
 (qC 49 .skip
 (.exit 6)))
 (.seq (.block 7 (.reg [qm 52 7,qm 53 6,qm 54 8,qx 55 101 [53,54],
  qo 56 (.build [(Value.int IntKind.u8 0), (Value.string ⟨#[]⟩), (Value.int IntKind.u8 0), (Value.int IntKind.i64 0), (Value.int IntKind.u64 0), (Value.string ⟨#[]⟩), (Value.slice none 0 0), (Value.slice none 0 0), (Value.slice none 0 0), (Value.slice none 0 0), (Value.int IntKind.i64 0)] [(10, 1, (.tmp 55))]),
  qo 57 (.bslice 48 1 [(Value.int IntKind.u8 0), (Value.string ⟨#[]⟩), (Value.int IntKind.u8 0), (Value.int IntKind.i64 0), (Value.int IntKind.u64 0), (Value.string ⟨#[]⟩), (Value.slice none 0 0), (Value.slice none 0 0), (Value.slice none 0 0), (Value.slice none 0 0), (Value.int IntKind.i64 0)] [(0, 11, (.tmp 56))]),
  qo 58 (.append 48 11 168 [(Value.int IntKind.u8 0), (Value.string ⟨#[]⟩), (Value.int IntKind.u8 0), (Value.int IntKind.i64 0), (Value.int IntKind.u64 0), (Value.string ⟨#[]⟩), (Value.slice none 0 0), (Value.slice none 0 0), (Value.slice none 0 0), (Value.slice none 0 0), (Value.int IntKind.i64 0)] (.tmp 52) (.tmp 57)),
  qm 7 58] [0,3,6,7,8]))
 (.reg [qm 50 8,qc 51 .add 50 1,qm 8 51] [0,3,6,7,8]))))))
 (.reg [qm 59 3,qm 60 7,qo 61 (.bslice 23 1 [(Value.slice none 0 0)] [(0, 1, (.tmp 60))]),
  qo 62 (.append 23 1 24 [(Value.slice none 0 0)] (.tmp 59) (.tmp 61)),qm 3 62] [0,3,6]))))
 (.reg [qm 42 6,qc 43 .add 42 1,qm 6 43] [0,3,6]))))))
 (.seq (qS [qk 9 0] [0,3,9]
 (.block 8 (.loop (.seq (qS [qm 63 9,qm 64 0,qL 65 64,qb 66 .lss 63 65] [0,3,9,66]
 (qC 66 .skip
 (.exit 8)))
 (.seq (.block 9 (qS [qm 69 0,qm 70 9,qi 71 1 69 70,ql 72 71,qL 73 72,qm 10 73] [0,3,9,10]
 (.seq (qS [qk 11 0] [0,3,9,10,11]
 (.block 10 (.loop (.seq (qS [qm 74 11,qm 75 10,qb 76 .lss 74 75] [0,3,9,10,11,76]
 (qC 76 .skip
 (.exit 10)))
 (.seq (.block 11 (.seq (qD [qm 79 0,qm 80 9,qi 81 1 79 80,ql 82 81,qm 83 11,qi 84 11 82 83,qf 85 10 84,ql 86 85,qm 87 9,qm 88 11,qx 89 100 [87,88],
  qb 90 .neq 86 89,qm 91 90,qu 91 (qm 92 3),qu 91 (qm 93 9),qu 91 (qi 94 1 92 93),qu 91 (ql 95 94),qu 91 (qm 96 11),qu 91 (qi 97 11 95 96),
  qu 91 (qf 98 10 97),qu 91 (ql 99 98),qu 91 (qm 100 9),qu 91 (qm 101 11),qu 91 (qx 102 100 [100,101]),qu 91 (qb 103 .neq 99 102),qr 104 91 103] [[0,1,2,3,4,5,6,7,8,9,10,11,12,13,14,15,16,17,18,19,20,21,22,23,24,25], [0,1,2,3,4,5,6,8,9,10,7,11,12,13,14,15,16,17,18,19,20,21,22,23,24,25], [0,1,2,4,8,9,10,3,5,6,7,11,12,13,14,15,16,17,18,19,20,21,22,23,24,25], [0,1,2,3,4,5,6,7,8,9,10,11,12,13,14,15,16,17,18,19,21,22,23,20,24,25], [0,1,2,3,4,5,6,8,9,10,7,11,12,13,14,15,16,17,18,19,21,22,23,20,24,25], [0,1,2,4,8,9,10,3,5,6,7,11,12,13,14,15,16,17,18,19,21,22,23,20,24,25], [0,1,2,3,4,5,6,7,8,9,10,11,12,13,14,15,17,21,22,23,16,18,19,20,24,25], [0,1,2,3,4,5,6,8,9,10,7,11,12,13,14,15,17,21,22,23,16,18,19,20,24,25], [0,1,2,4,8,9,10,3,5,6,7,11,12,13,14,15,17,21,22,23,16,18,19,20,24,25]] [0,3,9,10,11,104])
 (qC 104 (qS [qz 2 false] [2]
 .ret)
 .skip)))
 (.reg [qm 77 11,qc 78 .add 77 1,qm 11 78] [0,3,9,10,11]))))))
 (qS [qk 12 0] [0,3,9,10,12]
 (.block 12 (.loop (.seq (qS [qm 105 12,qc 106 .lss 105 8] [0,3,9,10,12,106]
 (qC 106 .skip
 (.exit 12)))
 (.seq (.block 13 (.seq (qD [qm 109 3,qm 110 9,qi 111 1 109 110,ql 112 111,qm 113 10,qm 114 12,qb 115 .add 113 114,qi 116 11 112 115,qf 117 10 116,ql 118 117,
  qm 119 9,qm 120 12,qx 121 101 [119,120],qb 122 .neq 118 121] [[0,1,2,3,4,5,6,7,8,9,10,11,12,13], [0,1,2,3,4,5,6,7,8,10,11,12,9,13], [0,1,2,4,5,6,10,11,12,3,7,8,9,13]] [0,3,9,10,12,122])
 (qC 122 (qS [qz 2 false] [2]
 .ret)
 .skip)))
 (.reg [qm 107 12,qc 108 .add 107 1,qm 12 108] [0,3,9,10,12])))))))))
 (.reg [qm 67 9,qc 68 .add 67 1,qm 9 68] [0,3,9]))))))
 (qS [qz 2 true] [2]
 .ret))))))⟩)
theorem n63 : F63.n = 123 := rfl
theorem low63 : lowF Tryz.prog (kpO F63) (assoc [(8,[[0,1,2,3,4,5,6,7,8,9,10], [0,1,2,4,5,6,7,3,8,9,10]]), (25,[[0,1,2,3,4,5,6,7,8,9,10,11,12,13,14,15,16,17,18,19,20,21,22,23,24,25], [0,1,2,3,4,5,6,8,9,10,7,11,12,13,14,15,16,17,18,19,20,21,22,23,24,25], [0,1,2,4,8,9,10,3,5,6,7,11,12,13,14,15,16,17,18,19,20,21,22,23,24,25], [0,1,2,3,4,5,6,7,8,9,10,11,12,13,14,15,16,17,18,19,21,22,23,20,24,25], [0,1,2,3,4,5,6,8,9,10,7,11,12,13,14,15,16,17,18,19,21,22,23,20,24,25], [0,1,2,4,8,9,10,3,5,6,7,11,12,13,14,15,16,17,18,19,21,22,23,20,24,25], [0,1,2,3,4,5,6,7,8,9,10,11,12,13,14,15,17,21,22,23,16,18,19,20,24,25], [0,1,2,3,4,5,6,8,9,10,7,11,12,13,14,15,17,21,22,23,16,18,19,20,24,25], [0,1,2,4,8,9,10,3,5,6,7,11,12,13,14,15,17,21,22,23,16,18,19,20,24,25]]), (30,[[0,1,2,3,4,5,6,7,8,9,10,11,12,13], [0,1,2,3,4,5,6,7,8,10,11,12,9,13], [0,1,2,4,5,6,10,11,12,3,7,8,9,13]])]) 63 = some F63 := by kernel_rfl
def F100 : FIR := laid (X := ⟨9, [.tmp 4],
 (qS [qk 4 0] [0,1]
 (qS [qm 5 0,qc 6 .mul 5 20000,qm 7 1,qb 8 .add 6 7,qm 4 8] [4]
 .ret))⟩)
theorem n100 : F100.n = 9 := rfl
theorem low100 : lowF Tryz.prog (kpO F100) (assoc []) 100 = some F100 := by kernel_rfl
def F101 : FIR := laid (X := ⟨10, [.tmp 4],
 (qS [qk 4 0] [0,1]
 (qS [qm 5 0,qc 6 .mul 5 20,qo 7 (.bin .sub (.const (Value.int IntKind.i64 (-1))) (.tmp 6)),qm 8 1,qb 9 .sub 7 8,qm 4 9] [4]
 .ret))⟩)
theorem n101 : F101.n = 10 := rfl
theorem low101 : lowF Tryz.prog (kpO F101) (assoc []) 101 = some F101 := by kernel_rfl
def F102 : FIR := laid (X := ⟨24, [.tmp 2],
 (qS [qo 2 (.mv (.const (Value.string ⟨#[]⟩)))] [0]
 (.seq (qS [qm 4 0,qc 5 .lss 4 0] [0,5]
 (qC 5 (qS [qm 6 0,qo 7 (.un .neg (.tmp 6)),qx 8 102 [7],qo 9 (.bin .add (.const (Value.string ⟨#[45]⟩)) (.tmp 8)),qm 2 9] [2]
 .ret)
 .skip))
 (qS [qm 10 0,qc 11 .rem 10 26,qo 12 (.bin .add (.const (Value.int IntKind.i64 97)) (.tmp 11)),qo 13 (.conv .u8 (.tmp 12)),
  qo 14 (.bslice 5 1 [(Value.int IntKind.u8 0)] [(0, 1, (.tmp 13))]),qo 15 (.b2s (.tmp 14)),qm 3 15] [0,3]
 (.seq (qS [qm 16 0,qc 17 .geq 16 26] [0,3,17]
 (qC 17 (qS [qm 18 0,qc 19 .quo 18 26,qx 20 102 [19],qm 21 3,qb 22 .add 20 21,qm 2 22] [2]
 .ret)
 .skip))
 (qS [qm 23 3,qm 2 23] [2]
 .ret)))))⟩)
theorem n102 : F102.n = 24 := rfl
theorem low102 : lowF Tryz.prog (kpO F102) (assoc []) 102 = some F102 := by kernel_rfl
end Go.Proofs.YtmnmandpdadedaaGreatDoor
namespace Go.V
open Go
def chB (n : Nat) : ByteArray := ⟨#[UInt8.ofNat (97 + n % 26)]⟩
def markN (n : Nat) : ByteArray := if _h : 26 ≤ n then markN (n / 26) ++ chB n else chB n
termination_by n
decreasing_by omega
def minusB : ByteArray := ⟨#[45]⟩
def markZ (z : Int) : ByteArray := if z < 0 then minusB ++ markN (-z).toNat else markN z.toNat
theorem markN_size : ∀ (f n : Nat), n < 26 ^ (f + 1) → (markN n).size ≤ f + 1 := by
  intro f
  induction f with
  | zero =>
    intro n h
    unfold markN
    rw [dif_neg (by simp at h; omega)]
    exact Nat.le_refl _
  | succ f ih =>
    intro n h
    unfold markN
    split
    · have : n / 26 < 26 ^ (f + 1) := by
        rw [Nat.div_lt_iff_lt_mul (by omega)]; rw [Nat.pow_succ] at h; exact h
      have := ih _ this
      rw [ByteArray.size_append]
      have e : (chB n).size = 1 := rfl
      omega
    · have e : (chB n).size = 1 := rfl
      omega
theorem markN_small {n : Nat} (h : n ≤ 4611686018427387904) : (markN n).size ≤ 14 := by
  refine markN_size 13 n ?_
  rw [show (26 : Nat) ^ (13 + 1) = 64509974703297150976 by decide]
  omega
theorem ch_txt (n : Nat) : ftxt [UInt8.ofNat (97 + n % 26)] = chB n := rfl
end Go.V
namespace Go.Proofs.YtmnmandpdadedaaGreatDoor
open Go Go.V
set_option maxHeartbeats 6400000
set_option maxRecDepth 100000
theorem markN_spec : ∀ n : Nat, n ≤ 4611686018427387904 → Fun Tryz.prog 102 [vi n] [] (fun v Post => v = .string (markN n) ∧ Post = []) := by
  intro n
  induction n using Nat.strongRecOn with
  | _ n ih =>
  intro hn
  refine Fun.intro low102 (by simp [n102]) ?_
  refine GO ?_
  have hr : (n : Int).tmod 26 = ((n % 26 : Nat) : Int) := by rw [Int.tmod_eq_emod_of_nonneg (by omega)]; omega
  have he : IntKind.u8.wrap (IntKind.i64.wrap (97 + (n : Int).tmod 26)) = ((UInt8.ofNat (97 + n % 26)).toNat : Int) := by
    rw [hr, wrap64 ⟨by omega, by omega⟩]
    have : (UInt8.ofNat (97 + n % 26)).toNat = 97 + n % 26 := by simp; omega
    rw [this]
    simp [IntKind.wrap, IntKind.bits, IntKind.signed]; omega
  rw [he]
  refine st_bslice (out := [u8v (UInt8.ofNat (97 + n % 26))]) (by rfl) (by rfl) (fun q => ?_)
  refine GO ?_
  refine st_b2s (l := [UInt8.ofNat (97 + n % 26)]) (by rfl) ((IsSl.mk (b := q) (o := 0) (n := 1) (c := 1) (xs := [u8v (UInt8.ofNat (97 + n % 26))]) (sp := []) rfl rfl (Nat.le_refl _)).bytes .here) ?_
  rw [ch_txt]
  refine GO ?_
  by_cases h26 : 26 ≤ n
  · simp only [show (26 : Int) ≤ (n : Int) by omega, decide_true, show ((n : Int) ≥ 26) by omega]
    refine GO ?_
    have hq : IntKind.i64.wrap ((n : Int).tdiv 26) = ((n / 26 : Nat) : Int) := by
      rw [Int.tdiv_eq_ediv_of_nonneg (by omega)]
      rw [wrap64 ⟨by omega, by omega⟩]; omega
    rw [hq]
    refine GO ?_
    refine st_call (ih (n / 26) (by omega) (by omega)) (by rfl) Spl.nil (fun v Post hv => ?_)
    obtain ⟨rfl, rfl⟩ := hv
    simp only [List.nil_append]
    have hs := markN_small (n := n / 26) (by omega)
    refine GO ?_
    refine st_cat (by rfl) (by rfl) (by have e : (chB n).size = 1 := rfl; omega) ?_
    refine GO ?_
    exact endQ_mk (Post := []) (.inr rfl) (.tmp (by rfl) .nil) ⟨by rw [show markN n = markN (n / 26) ++ chB n by rw [markN, dif_pos h26]]; rfl, rfl⟩ (by exact IMx)
  · simp only [show ¬ ((n : Int) ≥ 26) by omega, decide_false]
    refine GO ?_
    exact endQ_mk (Post := []) (.inr rfl) (.tmp (by rfl) .nil) ⟨by rw [show markN n = chB n by rw [markN, dif_neg h26]]; rfl, rfl⟩ (by exact IMx)
theorem mark_spec (z : Int) (h1 : -4611686018427387904 ≤ z) (h2 : z ≤ 4611686018427387904) : Fun Tryz.prog 102 [vi z] [] (fun v Post => v = .string (markZ z) ∧ Post = []) := by
  by_cases hz : z < 0
  rotate_left
  · obtain ⟨n, rfl⟩ := Int.eq_ofNat_of_zero_le (show 0 ≤ z by omega)
    rw [show markZ n = markN n by unfold markZ; rw [if_neg (by omega)]; rfl]
    exact markN_spec n (by omega)
  refine Fun.intro low102 (by simp [n102]) ?_
  refine GO ?_
  simp only [decide_eq_true hz]
  refine GO ?_
  have hw : IntKind.i64.wrap (0 - z) = (((-z).toNat : Nat) : Int) := by rw [wrap64 ⟨by omega, by omega⟩]; omega
  rw [hw]
  refine st_call (markN_spec (-z).toNat (by omega)) (by rfl) Spl.nil (fun v Post hv => ?_)
  obtain ⟨rfl, rfl⟩ := hv
  simp only [List.nil_append]
  have hs := markN_small (n := (-z).toNat) (by omega)
  refine GO ?_
  refine st_cat (by rfl) (by rfl) (by have e : (ByteArray.mk #[45]).size = 1 := rfl; omega) ?_
  refine GO ?_
  exact endQ_mk (Post := []) (.inr rfl) (.tmp (by rfl) .nil) ⟨by rw [show markZ z = minusB ++ markN (-z).toNat by unfold markZ; rw [if_pos hz]]; rfl, rfl⟩ (by exact IMx)
def spotZ (i k : Nat) : Int := (i : Int) * 20000 + k
def behZ (i k : Nat) : Int := -1 - (i : Int) * 20 - k
theorem spot_spec (i k : Nat) (hi : i ≤ 1073741824) (hk : k ≤ 1073741824) : Fun Tryz.prog 100 [vi i, vi k] [] (fun v Post => v = vi (spotZ i k) ∧ Post = []) := by
  refine Fun.intro low100 (by simp [n100]) ?_
  refine GO ?_
  exact endQ_mk (Post := []) (.inr rfl) (.tmp (by rfl) .nil) ⟨rfl, rfl⟩ Imp.nil
theorem beh_spec (i k : Nat) (hi : i ≤ 1073741824) (hk : k ≤ 1073741824) : Fun Tryz.prog 101 [vi i, vi k] [] (fun v Post => v = vi (behZ i k) ∧ Post = []) := by
  refine Fun.intro low101 (by simp [n101]) ?_
  refine GO ?_
  exact endQ_mk (Post := []) (.inr rfl) (.tmp (by rfl) .nil) ⟨rfl, rfl⟩ Imp.nil
theorem ownNodes_spec (lv : Value) (ps : List OwnR) (lsp : List Value) (hl : IsSl 1 lv ps.length (ps.map (·.v)) lsp) (hps : ∀ p ∈ ps, OkR 11 p) (hN : ps.length ≤ 1073741824) :
    Fun Tryz.prog 63 [lv] [slA lv (ps.map (·.v)) lsp, ps.flatMap owR] (fun v Post => v = .bool true ∧ Post = []) := by
  obtain ⟨MK, hMK⟩ : ∃ MK : Nat → Nat → Value, MK = fun i k => vi (spotZ i k) := ⟨_, rfl⟩
  have hMKe : ∀ i k, MK i k = vi (spotZ i k) := fun i k => by rw [hMK]
  obtain ⟨MB, hMB⟩ : ∃ MB : Nat → Nat → Value, MB = fun i k => vi (behZ i k) := ⟨_, rfl⟩
  have hMBe : ∀ i k, MB i k = vi (behZ i k) := fun i k => by rw [hMB]
  obtain ⟨ZR, hZR⟩ : ∃ ZR : List Value, ZR = [.int .u8 0, .string ⟨#[]⟩, .int .u8 0, .int .i64 0, .int .u64 0, .string ⟨#[]⟩, .slice none 0 0, .slice none 0 0, .slice none 0 0, .slice none 0 0, .int .i64 0] := ⟨_, rfl⟩
  have hZl : ZR.length = 11 := by rw [hZR]; rfl
  refine Fun.intro low63 (by simp [n63]) ?_
  obtain ⟨la, lc, hle⟩ := hl.form
  have hrd := hl.rd
  rw [hle] at hrd ⊢
  generalize slA (.slice la ps.length lc) (ps.map (·.v)) lsp = L at hrd ⊢
  refine GO ?_
  refine VC.loop (α := Nat) (Γf := fun i => [(0, .slice la ps.length lc), (3, .slice none 0 0), (4, vi i)]) (Hf := fun i => [L, (phK MK 10 i ps).flatMap owR]) (I := fun i => i ≤ ps.length) (μ := fun i => ps.length - i) 0 (Nat.zero_le _) (by exact SUx) (by rw [phK_zero]; exact IMx) ?_
  intro i hi
  refine GO ?_
  by_cases hlt : i < ps.length
  · obtain ⟨⟨pv, prows, psp⟩, hp⟩ : ∃ p, ps[i]? = some p := ⟨ps[i], List.getElem?_eq_getElem hlt⟩
    have hpm := List.mem_of_getElem? hp
    obtain ⟨hpo, hpl, hpn⟩ := hps _ hpm
    simp only at hpo hpl hpn
    obtain ⟨b, o, c, hve, m1⟩ := (show RdRow 1 L (.slice la ps.length lc) ps.length (ps.map fun q => q.v) from hrd).cell hp
    simp only [Value.slice.injEq, true_and] at hve
    obtain ⟨rfl, rfl⟩ := hve
    have hg := phK_get (mk := MK) (f := 10) (i := i) hp
    rw [if_neg (by omega)] at hg
    obtain ⟨rest, hr1, hr2⟩ := flat_take (f := owR) hg
    have hr3 := hr2 ⟨pv, markK (MK i) 10 prows.length prows, psp⟩
    rw [← phK_succ hp] at hr3
    obtain ⟨pa, pc, hpv⟩ := hpo.form
    simp only [hpv] at m1
    rw [show decide ((i : Int) < (ps.length : Int)) = true from decide_eq_true (by omega)]
    refine GO ?_
    refine VC.loop (α := Nat) (Γf := fun k => [(0, .slice (some ⟨b, o, none⟩) ps.length lc), (3, .slice none 0 0), (4, vi i), (5, vi k)]) (Hf := fun k => [L, slA (.slice pa prows.length pc) (markK (MK i) 10 k prows).flatten psp, rest]) (I := fun k => k ≤ prows.length) (μ := fun k => prows.length - k) 0 (Nat.zero_le _) (by exact SUx)
      (Imp.perm (by rw [markK_zero]; simp only [List.flatten_cons, List.flatten_nil, List.append_nil]; refine List.Perm.append_left _ ?_; simpa [owR, hpv] using hr1)) ?_
    intro k hk
    refine GO ?_
    by_cases hlk : k < prows.length
    rotate_left
    · obtain rfl : k = prows.length := by omega
      rw [show decide ((prows.length : Int) < (prows.length : Int)) = false from decide_eq_false (by omega)]
      refine GO ?_
      refine ⟨i + 1, by omega, by omega, by exact SUx, Imp.perm ?_⟩
      simp only [List.flatten_cons, List.flatten_nil, List.append_nil]
      refine List.Perm.append_left _ ?_
      simpa [owR, hpv] using hr3.symm
    rw [show decide ((k : Int) < (prows.length : Int)) = true from decide_eq_true (by omega)]
    have hfl := rows_len (markK_all (mk := MK i) (f := 10) (k := k) hpl)
    rw [markK_len] at hfl
    have hms := mark_flat (mk := MK i) (f := 10) (k := k) (by omega) hpl hlk
    rw [hpv] at hpo
    obtain ⟨b2, o2, c2, hpe, _, _⟩ := hpo.some (by omega)
    simp only [Value.slice.injEq, true_and] at hpe
    obtain ⟨rfl, rfl⟩ := hpe
    have hu : Upd [cellsAt b2 o2 ((markK (MK i) 10 k prows).flatten ++ psp), L, rest] b2 (o2 + (k * 11 + 10)) [MK i k] [cellsAt b2 o2 ((markK (MK i) 10 (k + 1) prows).flatten ++ psp), L, rest] := by
      rw [hms, ← List.set_append_left _ _ (by omega)]
      exact Upd.set1 rfl (by rw [List.length_append]; omega)
    rw [hMKe] at hu
    refine GO ?_
    refine VC.draws ⟨?_, ?_, trivial⟩
    all_goals
      refine GO ?_
      refine st_callP (spot_spec i k (by omega) (by omega)) (by rfl) ?_
      refine GO ?_
      refine VO.imp (H' := [cellsAt b2 o2 ((markK (MK i) 10 k prows).flatten ++ psp), L, rest]) (Imp.perm (by simp only [slA, List.flatten_cons, List.flatten_nil]; exact perm_lead _ _ _)) ?_
      refine st_store' (us := [vi (spotZ i k)]) (by rfl) (by rfl) (by rfl) (by rfl) (by rfl) hu ?_
      refine GO ?_
      exact ⟨k + 1, by omega, by omega, by exact SUx, Imp.cut (M := [L, cellsAt b2 o2 ((markK (MK i) 10 (k + 1) prows).flatten ++ psp), rest]) (by exact IMx) (by simp only [slA]; exact Imp.refl _)⟩
  obtain rfl : i = ps.length := by omega
  rw [show decide ((ps.length : Int) < (ps.length : Int)) = false from decide_eq_false (by omega)]
  refine GO ?_
  refine VC.loop (α := Nat × Value × List Value × List Value × List Atom) (Γf := fun s => [(0, .slice la ps.length lc), (3, s.2.1), (6, vi s.1)]) (Hf := fun s => [L, slA s.2.1 s.2.2.1 s.2.2.2.1, s.2.2.2.2, ((phK MK 10 ps.length ps).drop s.1).flatMap owR])
    (I := fun s => s.1 ≤ ps.length ∧ s.2.2.1.length = s.1 ∧ IsSl 1 s.2.1 s.1 s.2.2.1 s.2.2.2.1 ∧ ∀ j p, j < s.1 → ps[j]? = some p → RdRow 11 s.2.2.2.2 p.v p.rows.length (markK (MK j) 10 p.rows.length p.rows).flatten ∧ ∃ xv, s.2.2.1[j]? = some xv ∧ RdRow 11 s.2.2.2.2 xv (p.rows.length + 8) ((markK (MK j) 10 p.rows.length p.rows).flatten ++ (bkR (MB j) ZR 10 8).flatten)) (μ := fun s => ps.length - s.1) (0, .slice none 0 0, [], [], []) ⟨Nat.zero_le _, rfl, .nil, fun j p h => by omega⟩ (by exact SUx)
    (Imp.perm (by simp [slA])) ?_
  rintro ⟨i, lv2, ws, lsp2, D⟩ ⟨hi, hws, hl2, hD⟩
  simp only at hi hws hl2 hD
  obtain ⟨ma, mc, rfl⟩ := hl2.form
  refine GO ?_
  by_cases hlt : i < ps.length
  · obtain ⟨⟨pv, prows, psp⟩, hp⟩ : ∃ p, ps[i]? = some p := ⟨ps[i], List.getElem?_eq_getElem hlt⟩
    have hpm := List.mem_of_getElem? hp
    obtain ⟨hpo, hpl, hpn⟩ := hps _ hpm
    simp only at hpo hpl hpn
    obtain ⟨b, o, c, hve, m1⟩ := (show RdRow 1 L (.slice la ps.length lc) ps.length (ps.map fun q => q.v) from hrd).cell hp
    simp only [Value.slice.injEq, true_and] at hve
    obtain ⟨rfl, rfl⟩ := hve
    obtain ⟨pa, pc, hpv⟩ := hpo.form
    have hml := rows_len (markK_all (mk := MK i) (f := 10) (k := prows.length) hpl)
    rw [markK_len] at hml
    obtain ⟨ms, hms⟩ : ∃ ms, ms = (markK (MK i) 10 prows.length prows).flatten := ⟨_, rfl⟩
    have hpo2 : IsSl 11 pv prows.length ms psp := by
      rw [← hms] at hml
      have hol := hpo.len
      generalize hpf : prows.flatten = pf at hpo hol
      generalize prows.length = pn at *
      cases hpo with
      | mk q1 q2 q3 => exact .mk hml (by omega) q3
      | nil =>
        have : ms = [] := List.length_eq_zero_iff.1 (by omega)
        rw [this]; exact .nil
    rw [phK_all hp]
    simp only [← hms] at hml ⊢
    simp only at m1
    have hms2 : (markK (MK i) 10 prows.length prows).flatten = ms := hms.symm
    generalize hpnn : prows.length = pn at *
    rw [show decide ((i : Int) < (ps.length : Int)) = true from decide_eq_true (by omega)]
    refine GO ?_
    refine VC.loop (α := Nat × Value × List Value × List Atom) (Γf := fun s => [(0, .slice (some ⟨b, o, none⟩) ps.length lc), (3, .slice ma i mc), (6, vi i), (7, s.2.1), (8, vi s.1)]) (Hf := fun s => [L, slA (.slice ma i mc) ws lsp2, D, slA s.2.1 (ms ++ (bkR (MB i) ZR 10 s.1).flatten) s.2.2.1, s.2.2.2, ((phK MK 10 ps.length ps).drop (i + 1)).flatMap owR])
      (I := fun s => s.1 ≤ 8 ∧ IsSl 11 s.2.1 (pn + s.1) (ms ++ (bkR (MB i) ZR 10 s.1).flatten) s.2.2.1 ∧ Kept 11 s.2.2.2 pv pn ms s.2.1 (pn + s.1)) (μ := fun s => 8 - s.1) (0, pv, psp, []) ⟨Nat.zero_le _, by simpa [bkR] using hpo2, Kept.start hpo2⟩ (by exact SUx)
      (Imp.perm (by simp [bkR])) ?_
    rintro ⟨k, xv, xsp, E⟩ ⟨hk, hxv, hE⟩
    simp only at hk hxv hE
    obtain ⟨xa, xc, rfl⟩ := hxv.form
    by_cases h16 : k < 8
    · refine GO ?_
      simp only [show (k : Int) < 8 by omega, decide_true]
      refine GO ?_
      refine st_callP (beh_spec i k (by omega) (by omega)) (by rfl) ?_
      refine GO ?_
      have hrow : (bkR (MB i) ZR 10 (k + 1)).flatten = (bkR (MB i) ZR 10 k).flatten ++ ZR.set 10 (vi (behZ i k)) := by rw [bkR_succ, hMBe]; simp
      refine st_bslice (out := ZR.set 10 (vi (behZ i k))) (by rfl) (by rw [hZR]; rfl) (fun q3 => ?_)
      have hsucc := hrow
      refine st_append2 (k := pn + k) (m := 1) (xs := ms ++ (bkR (MB i) ZR 10 k).flatten) (sp := xsp) (ys := ZR.set 10 (vi (behZ i k))) (by rfl) (by rfl) hxv (by exact TKx) (by rfl) ?_ (by rw [hZR]; rfl) (by rw [hZR]; rfl) (by rfl) (by decide) (by omega) ?_ ?_
      · exact ⟨by rw [List.length_set, hZl], fun a ha => by simp only [List.flatten_cons, List.mem_append]; exact .inl ha⟩
      · intro b3 o3 c3 sp' hxe hsl'
        rw [List.append_assoc, ← hsucc] at hsl' ⊢
        simp only [Value.slice.injEq, true_and] at hxe
        obtain ⟨rfl, rfl⟩ := hxe
        refine GO ?_
        refine ⟨(k + 1, .slice (some ⟨b3, o3, none⟩) (pn + k + 1) xc, sp', E), ⟨by show k + 1 ≤ 8; omega, hsl', ?_⟩, by simp only; omega, by exact SUx, by exact IMx⟩
        rcases hE with h | ⟨h1, b4, o4, c4, h2, h3⟩
        · exact .inl h
        · simp only [Value.slice.injEq, Option.some.injEq, Addr.mk.injEq, and_true] at h3
          obtain ⟨⟨rfl, rfl⟩, _, rfl⟩ := h3
          exact .inr ⟨h1, _, _, _, h2, rfl⟩
      · intro sv' sp' hsl'
        rw [List.append_assoc, ← hsucc] at hsl' ⊢
        obtain ⟨a', c', rfl⟩ := hsl'.form
        refine GO ?_
        exact ⟨(k + 1, .slice a' (pn + k + 1) c', sp', slA (.slice xa (pn + k) xc) (ms ++ (bkR (MB i) ZR 10 k).flatten) xsp ++ E), ⟨by show k + 1 ≤ 8; omega, hsl', hE.moved hxv hml (by omega)⟩, by simp only; omega, by exact SUx, Imp.cut (M := [L, slA (.slice ma i mc) ws lsp2, D, slA (.slice a' (pn + k + 1) c') (ms ++ (bkR (MB i) ZR 10 (k + 1)).flatten) sp', slA (.slice xa (pn + k) xc) (ms ++ (bkR (MB i) ZR 10 k).flatten) xsp, E, ((phK MK 10 ps.length ps).drop (i + 1)).flatMap owR]) (by exact IMx) (Imp.perm (by simp))⟩
    · obtain rfl : k = 8 := by omega
      refine GO ?_
      refine st_bslice (out := [.slice xa (pn + 8) xc]) (by rfl) (by rfl) (fun q3 => ?_)
      refine GO ?_
      refine st_append (k := i) (m := 1) (xs := ws) (sp := lsp2) (ys := [.slice xa (pn + 8) xc]) (by rfl) (by rfl) hl2 (by exact TKx) (by rfl) ?_ rfl (by rfl) (by rfl) (by decide) (by omega) (fun sv' sp' hsl' => ?_)
      · exact ⟨rfl, fun a ha => by simp only [List.flatten_cons, List.mem_append]; exact .inl ha⟩
      obtain ⟨a', c', rfl⟩ := hsl'.form
      refine GO ?_
      have hdone := hE.done hxv hml (by omega)
      have hx16 : RdRow 11 (slA (.slice xa (pn + 8) xc) (ms ++ (bkR (MB i) ZR 10 8).flatten) xsp ++ E) (.slice xa (pn + 8) xc) (pn + 8) (ms ++ (bkR (MB i) ZR 10 8).flatten) := hxv.rd.mono (fun a ha => List.mem_append_left _ ha)
      refine ⟨(i + 1, .slice a' (i + 1) c', ws ++ [.slice xa (pn + 8) xc], sp', D ++ (slA (.slice xa (pn + 8) xc) (ms ++ (bkR (MB i) ZR 10 8).flatten) xsp ++ E)), ⟨by show i + 1 ≤ ps.length; omega, by simp [hws], hsl', fun j p hj hpj => ?_⟩, by simp only; omega, by exact SUx, Imp.cut (M := [L, slA (.slice a' (i + 1) c') (ws ++ [.slice xa (pn + 8) xc]) sp', D, slA (.slice xa (pn + 8) xc) (ms ++ (bkR (MB i) ZR 10 8).flatten) xsp, E, ((phK MK 10 ps.length ps).drop (i + 1)).flatMap owR]) (by exact IMx) (Imp.perm (by simp))⟩
      simp only at hj ⊢
      by_cases hji : j < i
      · obtain ⟨d1, yv, d2, d3⟩ := hD j p hji hpj
        exact ⟨d1.mono (fun a ha => List.mem_append_left _ ha), yv, by rw [List.getElem?_append_left (by omega)]; exact d2, d3.mono (fun a ha => List.mem_append_left _ ha)⟩
      · obtain rfl : j = i := by omega
        rw [hp] at hpj
        cases hpj
        simp only [hpnn, hms2]
        exact ⟨hdone.mono (fun a ha => List.mem_append_right _ ha), _, by rw [List.getElem?_append_right (by omega), hws]; simp, hx16.mono (fun a ha => List.mem_append_right _ ha)⟩
  obtain rfl : i = ps.length := by omega
  have hrd2 := hl2.rd
  generalize slA (.slice ma ps.length mc) ws lsp2 = L2 at hrd2 ⊢
  generalize ((phK MK 10 ps.length ps).drop ps.length).flatMap owR = D0
  rw [show decide ((ps.length : Int) < (ps.length : Int)) = false from decide_eq_false (by omega)]
  refine GO ?_
  refine VC.loop (α := Nat) (Γf := fun i => [(0, .slice la ps.length lc), (3, .slice ma ps.length mc), (9, vi i)]) (Hf := fun i => [L, L2, D]) (I := fun i => i ≤ ps.length) (μ := fun i => ps.length - i) 0 (Nat.zero_le _) (by exact SUx) (by exact IMx) ?_
  intro i hi
  refine GO ?_
  by_cases hlt : i < ps.length
  rotate_left
  · skip
    rw [show decide ((i : Int) < (ps.length : Int)) = false from decide_eq_false (by omega)]
    refine GO ?_
    exact endQ_mk (Post := []) (.inr rfl) (.tmp (by rfl) .nil) ⟨rfl, rfl⟩ Imp.nil
  obtain ⟨⟨pv, prows, psp⟩, hp⟩ : ∃ p, ps[i]? = some p := ⟨ps[i], List.getElem?_eq_getElem hlt⟩
  obtain ⟨hpo, hpl, hpn⟩ := hps _ (List.mem_of_getElem? hp)
  obtain ⟨d1, xv, d2, d3⟩ := hD i _ hlt hp
  simp only at hpl hpn d1 d3
  obtain ⟨b, o, c, hve, m1⟩ := (show RdRow 1 L (.slice la ps.length lc) ps.length (ps.map fun q => q.v) from hrd).cell hp
  simp only [Value.slice.injEq, true_and] at hve
  obtain ⟨rfl, rfl⟩ := hve
  have hwm : RdRow 1 L2 (.slice ma ws.length mc) ws.length (ws.map fun q => q) := by rw [List.map_id', hws]; exact hrd2
  obtain ⟨b2, o2, c2, hve2, m2⟩ := hwm.cell d2
  simp only [Value.slice.injEq, true_and] at hve2
  obtain ⟨rfl, rfl⟩ := hve2
  obtain ⟨pa, pc, rfl⟩ := d1.form
  obtain ⟨xa, xc, rfl⟩ := d3.form
  simp only at m1
  have hml := rows_len (markK_all (mk := MK i) (f := 10) (k := prows.length) hpl)
  rw [markK_len] at hml
  have hc1 : ∀ k, k < prows.length → (markK (MK i) 10 prows.length prows).flatten[k * 11 + 10]? = some (vi (spotZ i k)) := fun k hk => by rw [mark_cell (by omega) hpl hk hk, hMKe]
  have hc2 : ∀ k, k < 8 → ((markK (MK i) 10 prows.length prows).flatten ++ (bkR (MB i) ZR 10 8).flatten)[(prows.length + k) * 11 + 10]? = some (vi (behZ i k)) := fun k hk => by
    rw [List.getElem?_append_right (by rw [hml, Nat.add_mul]; omega), hml, show (prows.length + k) * 11 + 10 - prows.length * 11 = k * 11 + 10 by rw [Nat.add_mul]; omega]
    rw [flat_get (by omega) (fun r hr => by rw [bkR_all r hr, hZl]) (bkR_get hk), List.getElem?_set_self (by omega), hMBe]
  have hc3 : ∀ k, k < prows.length → ((markK (MK i) 10 prows.length prows).flatten ++ (bkR (MB i) ZR 10 8).flatten)[k * 11 + 10]? = some (vi (spotZ i k)) := fun k hk => by
    have := hc1 k hk
    rw [List.getElem?_append_left (List.getElem?_eq_some_iff.1 this).1]
    exact this
  generalize (markK (MK i) 10 prows.length prows).flatten ++ (bkR (MB i) ZR 10 8).flatten = ms2 at d3 hc2 hc3
  generalize (markK (MK i) 10 prows.length prows).flatten = ms at d1 hc1
  generalize hpnn : prows.length = pn at *
  rw [show decide ((i : Int) < (ps.length : Int)) = true from decide_eq_true (by omega)]
  refine GO ?_
  refine VC.loop (α := Nat) (Γf := fun k => [(0, .slice (some ⟨b, o, none⟩) ps.length lc), (3, .slice (some ⟨b2, o2, none⟩) ps.length mc), (9, vi i), (10, vi pn), (11, vi k)]) (Hf := fun i => [L, L2, D]) (I := fun k => k ≤ pn) (μ := fun k => pn - k) 0 (Nat.zero_le _) (by exact SUx) (by exact IMx) ?_
  intro k hk
  refine GO ?_
  by_cases hlk : k < pn
  · obtain ⟨b3, o3, c3, hve3, e1⟩ := d1.part (hc1 k hlk) (by omega)
    obtain ⟨b4, o4, c4, hve4, e2⟩ := d3.part (hc3 k hlk) (by omega)
    simp only [Value.slice.injEq, true_and] at hve3 hve4
    obtain ⟨rfl, rfl⟩ := hve3
    obtain ⟨rfl, rfl⟩ := hve4
    rw [show decide ((k : Int) < (pn : Int)) = true from decide_eq_true (by omega)]
    refine GO ?_
    refine VC.seq_draws (α := Unit) (fun _ => [(0, .slice (some ⟨b, o, none⟩) ps.length lc), (3, .slice (some ⟨b2, o2, none⟩) ps.length mc), (9, vi i), (10, vi pn), (11, vi k), (104, .bool false)]) (fun _ => [L, L2, D]) (fun _ => True) ⟨?_, ?_, ?_, ?_, ?_, ?_, ?_, ?_, ?_, trivial⟩ (fun _ _ => ?_)
    all_goals first
      | (refine GO ?_
         refine st_callP (spot_spec i k (by omega) (by omega)) (by rfl) ?_
         refine GO ?_
         simp only [eq_self, decide_true, Bool.not_true]
         refine GO ?_
         refine st_callP (spot_spec i k (by omega) (by omega)) (by rfl) ?_
         refine GO ?_
         (try simp only [eq_self, decide_true, Bool.not_true])
         (try refine GO ?_)
         exact ⟨(), trivial, by exact SUx, by exact IMx⟩)
      | skip
    refine GO ?_
    exact ⟨k + 1, by omega, by omega, by exact SUx, by exact IMx⟩
  rw [show decide ((k : Int) < (pn : Int)) = false from decide_eq_false (by omega)]
  refine GO ?_
  refine VC.loop (α := Nat) (Γf := fun k => [(0, .slice (some ⟨b, o, none⟩) ps.length lc), (3, .slice (some ⟨b2, o2, none⟩) ps.length mc), (9, vi i), (10, vi pn), (12, vi k)]) (Hf := fun _ => [L, L2, D]) (I := fun k => k ≤ 8) (μ := fun k => 8 - k) 0 (Nat.zero_le _) (by exact SUx) (by exact IMx) ?_
  intro k hk
  by_cases h16 : k < 8
  · refine GO ?_
    simp only [show (k : Int) < 8 by omega, decide_true]
    obtain ⟨b4, o4, c4, hve4, e1⟩ := d3.part (hc2 k h16) (by omega)
    simp only [Value.slice.injEq, true_and] at hve4
    obtain ⟨rfl, rfl⟩ := hve4
    refine GO ?_
    refine VC.seq_draws (α := Unit) (fun _ => [(0, .slice (some ⟨b, o, none⟩) ps.length lc), (3, .slice (some ⟨b2, o2, none⟩) ps.length mc), (9, vi i), (10, vi pn), (12, vi k), (122, .bool false)]) (fun _ => [L, L2, D]) (fun _ => True) ⟨?_, ?_, ?_, trivial⟩ (fun _ _ => ?_)
    all_goals first
      | (refine GO ?_
         refine st_callP (beh_spec i k (by omega) (by omega)) (by rfl) ?_
         refine GO ?_
         (try simp only [eq_self, decide_true, Bool.not_true])
         (try refine GO ?_)
         exact ⟨(), trivial, by exact SUx, by exact IMx⟩)
      | skip
    refine GO ?_
    exact ⟨k + 1, by omega, by omega, by exact SUx, by exact IMx⟩
  · obtain rfl : k = 8 := by omega
    refine GO ?_
    exact ⟨i + 1, by omega, by omega, by exact SUx, by exact IMx⟩
end Go.Proofs.YtmnmandpdadedaaGreatDoor

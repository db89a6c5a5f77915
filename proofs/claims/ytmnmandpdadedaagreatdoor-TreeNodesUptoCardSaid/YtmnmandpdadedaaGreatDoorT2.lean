/-
  The code of functions, as terms: printed by a program, proved to be what the seat has.
-/
import Derived.Test.YtmnmandpdadedaaGreatDoorT1
import Derived.KernelRfl
import Derived.Test.YtmnmandpdadedaaGreatDoorProg
import Derived.Test.YtmnmandpdadedaaGreatDoorV12
import Derived.Shelf.Strings.Search2
import Derived.Shelf.Lay
set_option linter.unusedSimpArgs false
set_option linter.unusedVariables false
namespace Go.Proofs.YtmnmandpdadedaaGreatDoor
open Go Go.V
set_option maxRecDepth 100000
def F139 : FIR := laid (X := ⟨21, [.tmp 2],
 (qS [qz 2 false] [0]
 (qS [qm 3 0,qo 4 (.bin .eql (.tmp 3) (.const (Value.string ⟨#[115, 101, 108, 102]⟩))),qm 5 4,qu 5 (qm 6 0),
  qu 5 (qo 7 (.bin .eql (.tmp 6) (.const (Value.string ⟨#[115, 117, 112, 101, 114]⟩)))),qr 8 5 7,qm 9 8,qu 9 (qm 10 0),
  qu 9 (qo 11 (.bin .eql (.tmp 10) (.const (Value.string ⟨#[110, 105, 108]⟩)))),qr 12 9 11,qm 13 12,qu 13 (qm 14 0),
  qu 13 (qo 15 (.bin .eql (.tmp 14) (.const (Value.string ⟨#[116, 114, 117, 101]⟩)))),qr 16 13 15,qm 17 16,qu 17 (qm 18 0),
  qu 17 (qo 19 (.bin .eql (.tmp 18) (.const (Value.string ⟨#[102, 97, 108, 115, 101]⟩)))),qr 20 17 19,qm 2 20] [2]
 .ret))⟩)
theorem n139 : F139.n = 21 := rfl
theorem low139 : lowF Tryz.prog (kpO F139) (assoc []) 139 = some F139 := by kernel_rfl
def F107 : FIR := laid (X := ⟨14, [.tmp 2],
 (qS [qz 2 false] [0]
 (qS [qm 5 0,qx 6 103 [5],qm 3 6] [0,3]
 (qS [qm 7 0,qx 8 139 [7],qm 4 8] [3,4]
 (qS [qm 9 3,qm 10 9,qt 10 (qm 11 4),qt 10 (qo 12 (.un .not (.tmp 11))),qa 13 10 12,qm 2 13] [2]
 .ret))))⟩)
theorem n107 : F107.n = 14 := rfl
theorem low107 : lowF Tryz.prog (kpO F107) (assoc []) 107 = some F107 := by kernel_rfl
def F66 : FIR := laid (X := ⟨18, [.tmp 2],
 (qS [qz 2 false] [0]
 (.seq (qS [qk 3 0] [0,3]
 (.block 0 (.loop (.seq (qS [qm 5 3,qm 6 0,qL 7 6,qb 8 .lss 5 7] [0,3,8]
 (qC 8 .skip
 (.exit 0)))
 (.seq (.block 1 (qS [qm 11 0,qm 12 3,qi 13 1 11 12,ql 14 13,qx 15 107 [14],qm 4 15] [0,3,4]
 (qS [qm 16 4,qo 17 (.un .not (.tmp 16))] [0,3,17]
 (qC 17 (qS [qz 2 false] [2]
 .ret)
 .skip))))
 (.reg [qm 9 3,qc 10 .add 9 1,qm 3 10] [0,3]))))))
 (qS [qz 2 true] [2]
 .ret)))⟩)
theorem n66 : F66.n = 18 := rfl
theorem low66 : lowF Tryz.prog (kpO F66) (assoc []) 66 = some F66 := by kernel_rfl
def F141 : FIR := laid (X := ⟨115, [.tmp 4],
 (qS [qB 2 46 0,qz 4 false] [1,2]
 (qS [qz 5 false] [1,2,5]
 (.seq (qS [qf 9 0 2,ql 10 9] [1,2,5,10]
 (.block 0 (.seq (qS [qo 12 (.bin .eql (.tmp 10) (.const (Value.int IntKind.u8 1))),qm 11 12] [1,2,5,10,11]
 (qC 11 .skip
 (qS [qo 13 (.bin .eql (.tmp 10) (.const (Value.int IntKind.u8 2))),qm 11 13] [1,2,5,10,11]
 (qC 11 .skip
 (.reg [qo 14 (.bin .eql (.tmp 10) (.const (Value.int IntKind.u8 3))),qm 11 14] [1,2,5,10,11])))))
 (qC 11 (.reg [qm 15 1,qm 5 15] [2,5])
 (qS [qo 17 (.bin .eql (.tmp 10) (.const (Value.int IntKind.u8 4))),qm 16 17] [2,5,10,16]
 (qC 16 (qS [qf 18 1 2,ql 19 18,qc 20 .geq 19 (-1152921504606846976),qm 21 20,qt 21 (qf 22 1 2),qt 21 (ql 23 22),
  qt 21 (qc 24 .leq 23 1152921504606846975),qa 25 21 24,qm 5 25] [2,5]
 (.reg [qf 26 1 2,⟨none,none,.store 1 (.tmp 26) (.const (Value.int IntKind.i64 0))⟩] [2,5]))
 (qS [qo 28 (.bin .eql (.tmp 10) (.const (Value.int IntKind.u8 5))),qm 27 28] [2,5,10,27]
 (qC 27 (qS [qf 30 3 2,ql 31 30,qx 32 152 [31],qm 29 32,qe 33 29 0,qe 34 29 1,
  qo 6 (.alloc 46 [(Value.int IntKind.u8 0), (Value.int IntKind.i64 0), (Value.int IntKind.u64 0), (Value.string ⟨#[]⟩), (Value.slice none 0 0)]),
  qs 5 6 33,qm 7 34] [2,6,7]
 (qS [qm 35 7,qc 36 .eql 35 0,qm 37 36,qt 37 (qf 38 0 6),qt 37 (ql 39 38),
  qt 37 (qo 40 (.bin .eql (.tmp 39) (.const (Value.int IntKind.u8 5)))),qa 41 37 40,qm 42 41,qt 42 (qf 43 3 6),qt 42 (ql 44 43),qt 42 (qf 45 3 2),
  qt 42 (ql 46 45),qt 42 (qb 47 .eql 44 46),qa 48 42 47,qm 5 48] [2,5]
 (.reg [qf 49 3 2,⟨none,none,.store 1 (.tmp 49) (.const (Value.string ⟨#[]⟩))⟩] [2,5])))
 (qS [qo 51 (.bin .eql (.tmp 10) (.const (Value.int IntKind.u8 6))),qm 50 51] [2,5,10,50]
 (qC 50 (qS [qf 52 2 2,ql 53 52,qo 54 (.bin .shr (.tmp 53) (.const (Value.int IntKind.u64 52))),
  qo 55 (.bin .and (.tmp 54) (.const (Value.int IntKind.u64 2047))),qo 56 (.bin .neq (.tmp 55) (.const (Value.int IntKind.u64 2047))),qm 5 56] [2,5]
 (.reg [qf 57 2 2,⟨none,none,.store 1 (.tmp 57) (.const (Value.int IntKind.u64 0))⟩] [2,5]))
 (qS [qo 59 (.bin .eql (.tmp 10) (.const (Value.int IntKind.u8 7))),qm 58 59] [2,5,10,58]
 (qC 58 (qS [qf 60 1 2,ql 61 60,qc 62 .geq 61 0,qm 63 62,qt 63 (qf 64 1 2),qt 63 (ql 65 64),qt 63 (qc 66 .leq 65 255),qa 67 63 66,qm 5 67] [2,5]
 (.reg [qf 68 1 2,⟨none,none,.store 1 (.tmp 68) (.const (Value.int IntKind.i64 0))⟩] [2,5]))
 (.seq (qS [qo 70 (.bin .eql (.tmp 10) (.const (Value.int IntKind.u8 8))),qm 69 70] [2,5,10,69]
 (qC 69 .skip
 (qS [qo 71 (.bin .eql (.tmp 10) (.const (Value.int IntKind.u8 9))),qm 69 71] [2,5,10,69]
 (qC 69 .skip
 (.reg [qo 72 (.bin .eql (.tmp 10) (.const (Value.int IntKind.u8 11))),qm 69 72] [2,5,10,69])))))
 (qC 69 (qS [qz 5 true] [2,5]
 (.reg [qf 73 3 2,⟨none,none,.store 1 (.tmp 73) (.const (Value.string ⟨#[]⟩))⟩] [2,5]))
 (qS [qo 75 (.bin .eql (.tmp 10) (.const (Value.int IntKind.u8 10))),qm 74 75] [2,5,74]
 (qC 74 (qS [qz 5 true] [2,5]
 (.seq (qS [qk 8 0] [2,5,8]
 (.block 1 (.loop (.seq (qS [qm 76 8,qf 77 4 2,ql 78 77,qL 79 78,qb 80 .lss 76 79,qm 81 80,qt 81 (qm 82 5),qa 83 81 82] [2,5,8,83]
 (qC 83 .skip
 (.exit 1)))
 (.seq (.block 2 (.reg [qf 86 4 2,ql 87 86,qm 88 8,qi 89 5 87 88,qN 90 5 89,qo 91 (.call 141 [(.tmp 90), (.const (Value.bool true))]),qm 5 91] [2,5,8]))
 (.reg [qm 84 8,qc 85 .add 84 1,qm 8 85] [2,5,8]))))))
 (.reg [qf 92 4 2,⟨none,none,.store 1 (.tmp 92) (.const (Value.slice none 0 0))⟩] [2,5])))
 .skip))))))))))))))))
 (qS [qm 93 5,qm 94 93,qt 94 (qf 95 1 2),qt 94 (ql 96 95),qt 94 (qc 97 .eql 96 0),qa 98 94 97,qm 99 98,qt 99 (qf 100 2 2),
  qt 99 (ql 101 100),qt 99 (qo 102 (.bin .eql (.tmp 101) (.const (Value.int IntKind.u64 0)))),qa 103 99 102,qm 104 103,qt 104 (qf 105 3 2),
  qt 104 (ql 106 105),qt 104 (qo 107 (.bin .eql (.tmp 106) (.const (Value.string ⟨#[]⟩)))),qa 108 104 107,qm 109 108,qt 109 (qf 110 4 2),
  qt 109 (ql 111 110),qt 109 (qL 112 111),qt 109 (qc 113 .eql 112 0),qa 114 109 113,qm 4 114] [4]
 .ret))))⟩)
theorem n141 : F141.n = 115 := rfl
theorem low141 : lowF Tryz.prog (kpO F141) (assoc []) 141 = some F141 := by kernel_rfl
def F142 : FIR := laid (X := ⟨49, [.tmp 2],
 (qS [qB 1 48 0,qz 2 false] [1]
 (qS [qf 3 1 1,ql 4 3,qo 5 (.bin .eql (.tmp 4) (.const (Value.string ⟨#[]⟩))),qm 6 5,qt 6 (qf 7 2 1),qt 6 (qf 8 0 7),qt 6 (ql 9 8),
  qt 6 (qo 10 (.bin .eql (.tmp 9) (.const (Value.int IntKind.u8 0)))),qa 11 6 10,qm 12 11,qt 12 (qf 13 2 1),qt 12 (qf 14 1 13),qt 12 (ql 15 14),
  qt 12 (qc 16 .eql 15 0),qa 17 12 16,qm 18 17,qt 18 (qf 19 2 1),qt 18 (qf 20 2 19),qt 18 (ql 21 20),
  qt 18 (qo 22 (.bin .eql (.tmp 21) (.const (Value.int IntKind.u64 0)))),qa 23 18 22,qm 24 23,qt 24 (qf 25 2 1),qt 24 (qf 26 3 25),qt 24 (ql 27 26),
  qt 24 (qo 28 (.bin .eql (.tmp 27) (.const (Value.string ⟨#[]⟩)))),qa 29 24 28,qm 30 29,qt 30 (qf 31 2 1),qt 30 (qf 32 4 31),qt 30 (ql 33 32),
  qt 30 (qL 34 33),qt 30 (qc 35 .eql 34 0),qa 36 30 35,qm 37 36,qt 37 (qf 38 7 1),qt 37 (ql 39 38),qt 37 (qL 40 39),qt 37 (qc 41 .eql 40 0),qa 42 37 41,
  qm 43 42,qt 43 (qf 44 8 1),qt 43 (ql 45 44),qt 43 (qL 46 45),qt 43 (qc 47 .eql 46 0),qa 48 43 47,qm 2 48] [2]
 .ret))⟩)
theorem n142 : F142.n = 49 := rfl
theorem low142 : lowF Tryz.prog (kpO F142) (assoc []) 142 = some F142 := by kernel_rfl
def F118 : FIR := laid (X := ⟨72, [.tmp 2, .tmp 3],
 (qS [qB 1 48 0,qz 2 false,qk 3 0] [1]
 (qS [qz 4 false] [1,4]
 (qS [qk 5 0] [1,4,5]
 (.seq (qS [qf 6 0 1,ql 7 6] [1,4,5,7]
 (.block 0 (qS [qo 9 (.bin .eql (.tmp 7) (.const (Value.int IntKind.u8 1))),qm 8 9] [1,4,5,7,8]
 (qC 8 (qS [qf 10 2 1,qN 11 5 10,qo 12 (.call 141 [(.tmp 11), (.const (Value.bool false))]),qm 4 12] [1,4,5]
 (.reg [qo 13 (.build [(Value.int IntKind.u8 0), (Value.int IntKind.i64 0), (Value.int IntKind.u64 0), (Value.string ⟨#[]⟩), (Value.slice none 0 0)] []),
  qf 14 2 1,qs 5 14 13] [1,4,5]))
 (qS [qo 16 (.bin .eql (.tmp 7) (.const (Value.int IntKind.u8 2))),qm 15 16] [1,4,5,7,15]
 (qC 15 (qS [qf 17 1 1,ql 18 17,qx 19 103 [18],qm 4 19] [1,4,5]
 (.reg [qf 20 1 1,⟨none,none,.store 1 (.tmp 20) (.const (Value.string ⟨#[]⟩))⟩] [1,4,5]))
 (qS [qo 22 (.bin .eql (.tmp 7) (.const (Value.int IntKind.u8 3))),qm 21 22] [1,4,5,7,21]
 (qC 21 (qS [qf 23 1 1,ql 24 23,qx 25 107 [24],qm 4 25] [1,4]
 (qS [qk 5 1] [1,4,5]
 (.reg [qf 26 1 1,⟨none,none,.store 1 (.tmp 26) (.const (Value.string ⟨#[]⟩))⟩] [1,4,5])))
 (qS [qo 28 (.bin .eql (.tmp 7) (.const (Value.int IntKind.u8 4))),qm 27 28] [1,4,5,7,27]
 (qC 27 (qS [qf 29 1 1,ql 30 29,qx 31 65 [30],qc 32 .add 31 1,qm 5 32] [1,5]
 (qS [qm 33 5,qc 34 .gtr 33 0,qm 4 34] [1,4,5]
 (.reg [qf 35 1 1,⟨none,none,.store 1 (.tmp 35) (.const (Value.string ⟨#[]⟩))⟩] [1,4,5])))
 (qS [qo 37 (.bin .eql (.tmp 7) (.const (Value.int IntKind.u8 5))),qm 36 37] [1,4,5,7,36]
 (qC 36 (qS [qf 38 9 1,ql 39 38,qL 40 39,qc 41 .gtr 40 2,qm 4 41] [1,4]
 (.reg [qk 5 (-1)] [1,4,5]))
 (qS [qo 43 (.bin .eql (.tmp 7) (.const (Value.int IntKind.u8 6))),qm 42 43] [1,4,5,7,42]
 (qC 42 (qS [qf 44 1 1,ql 45 44,qx 46 65 [45],qm 5 46] [1,5]
 (qS [qm 47 5,qc 48 .geq 47 0,qm 4 48] [1,4,5]
 (.reg [qf 49 1 1,⟨none,none,.store 1 (.tmp 49) (.const (Value.string ⟨#[]⟩))⟩] [1,4,5])))
 (qS [qo 51 (.bin .eql (.tmp 7) (.const (Value.int IntKind.u8 7))),qm 50 51] [1,4,5,7,50]
 (qC 50 (qS [qf 52 7 1,ql 53 52,qx 54 66 [53],qm 55 54,qt 55 (qf 56 8 1),qt 55 (ql 57 56),qt 55 (qx 58 66 [57]),qa 59 55 58,qm 4 59] [1,4]
 (qS [qk 5 (-1)] [1,4,5]
 (qS [qf 60 7 1,⟨none,none,.store 1 (.tmp 60) (.const (Value.slice none 0 0))⟩] [1,4,5]
 (.reg [qf 61 8 1,⟨none,none,.store 1 (.tmp 61) (.const (Value.slice none 0 0))⟩] [1,4,5]))))
 (qS [qo 63 (.bin .eql (.tmp 7) (.const (Value.int IntKind.u8 8))),qm 62 63] [1,4,5,7,62]
 (qC 62 (qS [qz 4 true] [1,4]
 (.reg [qk 5 (-1)] [1,4,5]))
 (qS [qo 65 (.bin .eql (.tmp 7) (.const (Value.int IntKind.u8 9))),qm 64 65] [1,4,5,64]
 (qC 64 (qS [qz 4 true] [1,4]
 (.reg [qk 5 1] [1,4,5]))
 .skip))))))))))))))))))))
 (qS [qm 66 4,qm 67 66,qt 67 (qN 68 11 1),qt 67 (qx 69 142 [68]),qa 70 67 69,qm 71 5,qm 2 70,qm 3 71] [2,3]
 .ret)))))⟩)
theorem n118 : F118.n = 72 := rfl
theorem low118 : lowF Tryz.prog (kpO F118) (assoc []) 118 = some F118 := by kernel_rfl
def F119 : FIR := laid (X := ⟨11, [.tmp 2],
 (qS [qB 1 48 0,qz 2 false] [1]
 (qS [qf 3 0 1,ql 4 3,qo 5 (.bin .eql (.tmp 4) (.const (Value.int IntKind.u8 2))),qm 6 5,qt 6 (qf 7 1 1),qt 6 (ql 8 7),
  qt 6 (qo 9 (.bin .eql (.tmp 8) (.const (Value.string ⟨#[115, 117, 112, 101, 114]⟩)))),qa 10 6 9,qm 2 10] [2]
 .ret))⟩)
theorem n119 : F119.n = 11 := rfl
theorem low119 : lowF Tryz.prog (kpO F119) (assoc []) 119 = some F119 := by kernel_rfl
def F79 : FIR := laid (X := ⟨98, [.tmp 2],
 (qS [qB 1 48 0,qz 2 false] [1]
 (qS [qN 11 11 1,qx 12 118 [11],qm 10 12,qe 13 10 0,qe 14 10 1,qm 3 13,qm 4 14] [1,3,4]
 (.seq (qS [qm 15 3,qo 16 (.un .not (.tmp 15)),qm 17 16,qu 17 (qm 18 4),qu 17 (qc 19 .geq 18 0),qu 17 (qm 20 19),qt 20 (qm 21 4),
  qt 20 (qf 22 9 1),qt 20 (ql 23 22),qt 20 (qL 24 23),qt 20 (qb 25 .neq 21 24),qu 17 (qa 26 20 25),qr 27 17 26] [1,27]
 (qC 27 (qS [qz 2 false] [2]
 .ret)
 .skip))
 (.seq (qS [qk 5 0] [1,5]
 (.block 0 (.loop (.seq (qS [qm 28 5,qf 29 9 1,ql 30 29,qL 31 30,qb 32 .lss 28 31] [1,5,32]
 (qC 32 .skip
 (.exit 0)))
 (.seq (.block 1 (qS [qf 35 9 1,ql 36 35,qm 37 5,qi 38 11 36 37,qN 39 11 38,
  qo 6 (.alloc 48 [(Value.int IntKind.u8 0), (Value.string ⟨#[]⟩), (Value.int IntKind.u8 0), (Value.int IntKind.i64 0), (Value.int IntKind.u64 0), (Value.string ⟨#[]⟩), (Value.slice none 0 0), (Value.slice none 0 0), (Value.slice none 0 0), (Value.slice none 0 0), (Value.int IntKind.i64 0)]),
  qs 11 6 39] [1,5,6]
 (qS [qN 40 11 6,qx 41 79 [40],qm 3 41] [1,3,5,6]
 (qS [qm 42 5,qc 43 .eql 42 0,qm 44 43,qt 44 (qf 45 0 1),qt 44 (ql 46 45),
  qt 44 (qo 47 (.bin .eql (.tmp 46) (.const (Value.int IntKind.u8 4)))),qt 44 (qm 48 47),qu 48 (qf 49 0 1),qu 48 (ql 50 49),
  qu 48 (qo 51 (.bin .eql (.tmp 50) (.const (Value.int IntKind.u8 5)))),qt 44 (qr 52 48 51),qa 53 44 52,qm 7 53] [1,3,5,6,7]
 (qS [qm 54 5,qf 55 9 1,ql 56 55,qL 57 56,qc 58 .sub 57 1,qb 59 .eql 54 58,qm 60 59,qt 60 (qf 61 0 1),qt 60 (ql 62 61),
  qt 60 (qo 63 (.bin .eql (.tmp 62) (.const (Value.int IntKind.u8 7)))),qa 64 60 63,qm 8 64] [1,3,5,6,7,8]
 (qS [qf 65 0 1,ql 66 65,qo 67 (.bin .eql (.tmp 66) (.const (Value.int IntKind.u8 5))),qm 68 67,qt 68 (qm 69 5),qt 68 (qc 70 .gtr 69 0),
  qa 71 68 70,qm 9 71] [1,3,5,6,7,8,9]
 (qS [qm 72 3,qo 73 (.un .not (.tmp 72)),qm 74 73,qu 74 (qN 75 11 6),qu 74 (qx 76 119 [75]),qu 74 (qm 77 76),qt 77 (qm 78 7),
  qt 77 (qo 79 (.un .not (.tmp 78))),qu 74 (qa 80 77 79),qr 81 74 80,qm 82 81,qu 82 (qf 83 0 6),qu 82 (ql 84 83),
  qu 82 (qo 85 (.bin .eql (.tmp 84) (.const (Value.int IntKind.u8 9)))),qu 82 (qm 86 85),qt 86 (qm 87 8),qt 86 (qo 88 (.un .not (.tmp 87))),
  qu 82 (qa 89 86 88),qr 90 82 89,qm 91 90,qu 91 (qf 92 0 6),qu 91 (ql 93 92),qu 91 (qo 94 (.bin .eql (.tmp 93) (.const (Value.int IntKind.u8 6)))),
  qu 91 (qm 95 9),qu 91 (qo 96 (.eqb true (.tmp 94) (.tmp 95))),qr 97 91 96] [1,5,97]
 (qC 97 (qS [qz 2 false] [2]
 .ret)
 .skip))))))))
 (.reg [qm 33 5,qc 34 .add 33 1,qm 5 34] [1,5]))))))
 (qS [qz 2 true] [2]
 .ret)))))⟩)
theorem n79 : F79.n = 98 := rfl
theorem low79 : lowF Tryz.prog (kpO F79) (assoc []) 79 = some F79 := by kernel_rfl
def F108 : FIR := laid (X := ⟨34, [.tmp 2],
 (qS [qB 1 46 0,qz 2 false] [1]
 (.seq (qS [qf 5 4 1,ql 6 5,qL 7 6,qc 8 .gtr 7 255,qm 9 8,qu 9 (qf 10 0 1),qu 9 (ql 11 10),
  qu 9 (qo 12 (.bin .eql (.tmp 11) (.const (Value.int IntKind.u8 11)))),qu 9 (qm 13 12),qt 13 (qf 14 3 1),qt 13 (ql 15 14),
  qt 13 (qo 16 (.lenS (.tmp 15))),qt 13 (qc 17 .gtr 16 255),qu 9 (qa 18 13 17),qr 19 9 18] [1,19]
 (qC 19 (qS [qz 2 true] [2]
 .ret)
 .skip))
 (.seq (qS [qk 3 0] [1,3]
 (.block 0 (.loop (.seq (qS [qm 20 3,qf 21 4 1,ql 22 21,qL 23 22,qb 24 .lss 20 23] [1,3,24]
 (qC 24 .skip
 (.exit 0)))
 (.seq (.block 1 (qS [qf 27 4 1,ql 28 27,qm 29 3,qi 30 5 28 29,qN 31 5 30,qx 32 108 [31],qm 4 32] [1,3,4]
 (qS [qm 33 4] [1,3,33]
 (qC 33 (qS [qz 2 true] [2]
 .ret)
 .skip))))
 (.reg [qm 25 3,qc 26 .add 25 1,qm 3 26] [1,3]))))))
 (qS [qz 2 false] [2]
 .ret))))⟩)
theorem n108 : F108.n = 34 := rfl
theorem low108 : lowF Tryz.prog (kpO F108) (assoc []) 108 = some F108 := by kernel_rfl
def F68 : FIR := laid (X := ⟨80, [.tmp 2],
 (qS [qB 1 48 0,qz 2 false] [1]
 (qS [qf 7 2 1,qN 8 5 7,qx 9 108 [8],qm 3 9] [1,3]
 (.seq (qS [qm 10 3,qm 11 10,qu 11 (qf 12 7 1),qu 11 (ql 13 12),qu 11 (qL 14 13),qu 11 (qc 15 .gtr 14 15),qr 16 11 15,qm 17 16,
  qu 17 (qf 18 8 1),qu 17 (ql 19 18),qu 17 (qL 20 19),qu 17 (qc 21 .gtr 20 63),qr 22 17 21] [1,22]
 (qC 22 (qS [qz 2 true] [2]
 .ret)
 .skip))
 (qS [qf 23 0 1,ql 24 23,qo 25 (.bin .eql (.tmp 24) (.const (Value.int IntKind.u8 4))),qm 26 25,qt 26 (qf 27 9 1),qt 26 (ql 28 27),
  qt 26 (qL 29 28),qt 26 (qc 30 .gtr 29 16),qa 31 26 30,qm 32 31,qu 32 (qf 33 0 1),qu 32 (ql 34 33),
  qu 32 (qo 35 (.bin .eql (.tmp 34) (.const (Value.int IntKind.u8 6)))),qu 32 (qm 36 35),qt 36 (qf 37 9 1),qt 36 (ql 38 37),qt 36 (qL 39 38),
  qt 36 (qc 40 .gtr 39 15),qu 32 (qa 41 36 40),qr 42 32 41,qm 4 42] [1,4]
 (.seq (qS [qm 43 4,qm 44 43,qu 44 (qf 45 0 1),qu 44 (ql 46 45),qu 44 (qo 47 (.bin .eql (.tmp 46) (.const (Value.int IntKind.u8 5)))),
  qu 44 (qm 48 47),qt 48 (qf 49 9 1),qt 48 (ql 50 49),qt 48 (qL 51 50),qt 48 (qc 52 .gtr 51 256),qu 44 (qa 53 48 52),qr 54 44 53,qm 55 54,
  qu 55 (qf 56 0 1),qu 55 (ql 57 56),qu 55 (qo 58 (.bin .eql (.tmp 57) (.const (Value.int IntKind.u8 8)))),qu 55 (qm 59 58),qt 59 (qf 60 9 1),
  qt 59 (ql 61 60),qt 59 (qL 62 61),qt 59 (qc 63 .gtr 62 255),qu 55 (qa 64 59 63),qr 65 55 64] [1,65]
 (qC 65 (qS [qz 2 true] [2]
 .ret)
 .skip))
 (.seq (qS [qk 5 0] [1,5]
 (.block 0 (.loop (.seq (qS [qm 66 5,qf 67 9 1,ql 68 67,qL 69 68,qb 70 .lss 66 69] [1,5,70]
 (qC 70 .skip
 (.exit 0)))
 (.seq (.block 1 (qS [qf 73 9 1,ql 74 73,qm 75 5,qi 76 11 74 75,qN 77 11 76,qx 78 68 [77],qm 6 78] [1,5,6]
 (qS [qm 79 6] [1,5,79]
 (qC 79 (qS [qz 2 true] [2]
 .ret)
 .skip))))
 (.reg [qm 71 5,qc 72 .add 71 1,qm 5 72] [1,5]))))))
 (qS [qz 2 false] [2]
 .ret)))))))⟩)
theorem n68 : F68.n = 80 := rfl
theorem low68 : lowF Tryz.prog (kpO F68) (assoc []) 68 = some F68 := by kernel_rfl
def F120 : FIR := laid (X := ⟨14, [.tmp 2],
 (qS [qk 2 0] [0]
 (qS [qm 4 0,qx 5 65 [4],qm 3 5] [0,3]
 (.seq (qS [qm 6 3,qc 7 .eql 6 0] [0,7]
 (qC 7 (qS [qk 2 5] [2]
 .ret)
 .skip))
 (.seq (qS [qm 8 0,qm 9 0,qo 10 (.lenS (.tmp 9)),qc 11 .sub 10 1,qo 12 (.idxS (.tmp 8) (.tmp 11)),
  qo 13 (.bin .eql (.tmp 12) (.const (Value.int IntKind.u8 58)))] [13]
 (qC 13 (qS [qk 2 3] [2]
 .ret)
 .skip))
 (qS [qk 2 4] [2]
 .ret)))))⟩)
theorem n120 : F120.n = 14 := rfl
theorem low120 : lowF Tryz.prog (kpO F120) (assoc []) 120 = some F120 := by kernel_rfl
def F81 : FIR := laid (X := ⟨14, [.tmp 2],
 (qS [qB 1 48 0,qk 2 0] [1]
 (.seq (qS [qf 3 0 1,ql 4 3] [1,4]
 (.block 0 (qS [qo 6 (.bin .eql (.tmp 4) (.const (Value.int IntKind.u8 3))),qm 5 6] [1,4,5]
 (qC 5 (qS [qk 2 1] [2]
 .ret)
 (qS [qo 8 (.bin .eql (.tmp 4) (.const (Value.int IntKind.u8 5))),qm 7 8] [1,4,7]
 (qC 7 (qS [qk 2 2] [2]
 .ret)
 (qS [qo 10 (.bin .eql (.tmp 4) (.const (Value.int IntKind.u8 4))),qm 9 10] [1,9]
 (qC 9 (qS [qf 11 1 1,ql 12 11,qx 13 120 [12],qm 2 13] [2]
 .ret)
 .skip))))))))
 (qS [qk 2 6] [2]
 .ret)))⟩)
theorem n81 : F81.n = 14 := rfl
theorem low81 : lowF Tryz.prog (kpO F81) (assoc []) 81 = some F81 := by kernel_rfl
def F140 : FIR := laid (X := ⟨57, [.tmp 4],
 (qS [qB 2 48 0,qk 4 0] [1,2]
 (qS [qf 8 1 2,ql 9 8,qm 5 9] [1,2,5]
 (qS [qm 10 1,qc 11 .eql 10 0,qm 12 11,qt 12 (qf 13 0 2),qt 12 (ql 14 13),
  qt 12 (qo 15 (.bin .eql (.tmp 14) (.const (Value.int IntKind.u8 4)))),qa 16 12 15,qm 6 16] [1,2,5,6]
 (.seq (qS [qf 17 0 2,ql 18 17,qo 19 (.bin .eql (.tmp 18) (.const (Value.int IntKind.u8 5)))] [1,2,5,6,19]
 (qC 19 (qS [qf 20 9 2,ql 21 20,qo 22 (.idxL 11 (.tmp 21) (.const (Value.int IntKind.i64 1))),qf 23 1 22,ql 24 23,qm 5 24] [1,2,5]
 (.reg [qm 25 1,qc 26 .eql 25 0,qm 6 26] [1,2,5,6]))
 .skip))
 (qS [qf 27 0 2,ql 28 27,qo 29 (.bin .eql (.tmp 28) (.const (Value.int IntKind.u8 4))),qm 30 29,qt 30 (qm 31 1),qt 30 (qc 32 .gtr 31 0),
  qa 33 30 32,qm 34 33,qu 34 (qf 35 0 2),qu 34 (ql 36 35),qu 34 (qo 37 (.bin .eql (.tmp 36) (.const (Value.int IntKind.u8 6)))),qr 38 34 37,qm 7 38] [5,6,7]
 (.seq (.block 0 (qS [qm 40 6,qm 41 40,qt 41 (qm 42 5),qt 41 (qx 43 120 [42]),qt 41 (qc 44 .eql 43 5),qa 45 41 44,qm 39 45] [5,6,7,39]
 (qC 39 (qS [qk 4 5] [4]
 .ret)
 (qS [qm 47 6,qm 46 47] [5,7,46]
 (qC 46 (qS [qk 4 4] [4]
 .ret)
 (qS [qm 49 7,qm 50 49,qt 50 (qm 51 5),qt 50 (qx 52 120 [51]),qt 50 (qc 53 .eql 52 4),qa 54 50 53,qm 48 54] [7,48]
 (qC 48 (qS [qk 4 5] [4]
 .ret)
 (qS [qm 56 7,qm 55 56] [55]
 (qC 55 (qS [qk 4 4] [4]
 .ret)
 .skip)))))))))
 (qS [qk 4 1] [4]
 .ret)))))))⟩)
theorem n140 : F140.n = 57 := rfl
theorem low140 : lowF Tryz.prog (kpO F140) (assoc []) 140 = some F140 := by kernel_rfl
def F110 : FIR := laid (X := ⟨25, [.tmp 4],
 (qS [qB 2 48 0,qz 4 false] [1,2]
 (qS [qf 6 9 2,ql 7 6,qm 8 1,qi 9 11 7 8,qN 10 11 9,
  qo 5 (.alloc 48 [(Value.int IntKind.u8 0), (Value.string ⟨#[]⟩), (Value.int IntKind.u8 0), (Value.int IntKind.i64 0), (Value.int IntKind.u64 0), (Value.string ⟨#[]⟩), (Value.slice none 0 0), (Value.slice none 0 0), (Value.slice none 0 0), (Value.slice none 0 0), (Value.int IntKind.i64 0)]),
  qs 11 5 10] [1,2,5]
 (.seq (qS [qf 11 0 5,ql 12 11,qo 13 (.bin .eql (.tmp 12) (.const (Value.int IntKind.u8 6))),qm 14 13,qu 14 (qf 15 0 5),qu 14 (ql 16 15),
  qu 14 (qo 17 (.bin .eql (.tmp 16) (.const (Value.int IntKind.u8 9)))),qr 18 14 17] [1,2,5,18]
 (qC 18 (qS [qz 4 false] [4]
 .ret)
 .skip))
 (.seq (qD [qN 19 11 5,qx 20 81 [19],qN 21 11 2,qm 22 1,qx 23 140 [21,22],qb 24 .lss 20 23,qm 4 24] [[0,1,2,3,4,5,6], [0,2,1,3,4,5,6]] [4])
 .ret))))⟩)
theorem n110 : F110.n = 25 := rfl
theorem low110 : lowF Tryz.prog (kpO F110) (assoc [(4,[[0,1,2,3,4,5,6], [0,2,1,3,4,5,6]])]) 110 = some F110 := by kernel_rfl
def F109 : FIR := laid (X := ⟨28, [.tmp 2],
 (qS [qB 1 46 0,qk 2 0] [1]
 (.seq (qS [qf 6 0 1,ql 7 6,qo 8 (.bin .neq (.tmp 7) (.const (Value.int IntKind.u8 10)))] [1,8]
 (qC 8 (qS [qk 2 0] [2]
 .ret)
 .skip))
 (qS [qk 3 0] [1,3]
 (.seq (qS [qk 4 0] [1,3,4]
 (.block 0 (.loop (.seq (qS [qm 9 4,qf 10 4 1,ql 11 10,qL 12 11,qb 13 .lss 9 12] [1,3,4,13]
 (qC 13 .skip
 (.exit 0)))
 (.seq (.block 1 (qS [qf 16 4 1,ql 17 16,qm 18 4,qi 19 5 17 18,qN 20 5 19,qx 21 109 [20],qm 5 21] [1,3,4,5]
 (qS [qm 22 5,qm 23 3,qb 24 .gtr 22 23] [1,3,4,5,24]
 (qC 24 (.reg [qm 25 5,qm 3 25] [1,3,4])
 .skip))))
 (.reg [qm 14 4,qc 15 .add 14 1,qm 4 15] [1,3,4]))))))
 (qS [qm 26 3,qc 27 .add 26 1,qm 2 27] [2]
 .ret)))))⟩)
theorem n109 : F109.n = 28 := rfl
theorem low109 : lowF Tryz.prog (kpO F109) (assoc []) 109 = some F109 := by kernel_rfl
def F69 : FIR := laid (X := ⟨44, [.tmp 2],
 (qS [qB 1 48 0,qk 2 0] [1]
 (qS [qf 7 2 1,qN 8 5 7,qx 9 109 [8],qm 3 9] [1,3]
 (.seq (qS [qk 4 0] [1,3,4]
 (.block 0 (.loop (.seq (qS [qm 10 4,qf 11 9 1,ql 12 11,qL 13 12,qb 14 .lss 10 13] [1,3,4,14]
 (qC 14 .skip
 (.exit 0)))
 (.seq (.block 1 (qS [qf 17 9 1,ql 18 17,qm 19 4,qi 20 11 18 19,qN 21 11 20,qx 22 69 [21],qm 5 22] [1,3,4,5]
 (qS [qN 23 11 1,qm 24 4,qx 25 110 [23,24],qm 6 25] [1,3,4,5,6]
 (.seq (qS [qm 26 6] [1,3,4,5,26]
 (qC 26 (.reg [qm 27 5,qc 28 .add 27 1,qm 5 28] [1,3,4,5])
 .skip))
 (qS [qm 29 5,qm 30 3,qb 31 .gtr 29 30] [1,3,4,5,31]
 (qC 31 (.reg [qm 32 5,qm 3 32] [1,3,4])
 .skip))))))
 (.reg [qm 15 4,qc 16 .add 15 1,qm 4 16] [1,3,4]))))))
 (.seq (qS [qf 33 0 1,ql 34 33,qo 35 (.bin .eql (.tmp 34) (.const (Value.int IntKind.u8 7))),qm 36 35,qu 36 (qf 37 0 1),qu 36 (ql 38 37),
  qu 36 (qo 39 (.bin .eql (.tmp 38) (.const (Value.int IntKind.u8 8)))),qr 40 36 39] [3,40]
 (qC 40 (.reg [qm 41 3,qc 42 .add 41 1,qm 3 42] [3])
 .skip))
 (qS [qm 43 3,qm 2 43] [2]
 .ret)))))⟩)
theorem n69 : F69.n = 44 := rfl
theorem low69 : lowF Tryz.prog (kpO F69) (assoc []) 69 = some F69 := by kernel_rfl
def F80 : FIR := laid (X := ⟨16, [.tmp 2],
 (qS [qB 1 48 0,qz 2 false] [1]
 (qS [qf 3 0 1,ql 4 3,qo 5 (.bin .neq (.tmp 4) (.const (Value.int IntKind.u8 6))),qm 6 5,qt 6 (qf 7 0 1),qt 6 (ql 8 7),
  qt 6 (qo 9 (.bin .neq (.tmp 8) (.const (Value.int IntKind.u8 9)))),qa 10 6 9,qm 11 10,qt 11 (qN 12 11 1),qt 11 (qx 13 119 [12]),
  qt 11 (qo 14 (.un .not (.tmp 13))),qa 15 11 14,qm 2 15] [2]
 .ret))⟩)
theorem n80 : F80.n = 16 := rfl
theorem low80 : lowF Tryz.prog (kpO F80) (assoc []) 80 = some F80 := by kernel_rfl
def F32 : FIR := laid (X := ⟨18, [.tmp 2],
 (qS [qB 1 48 0,qk 2 0] [1]
 (qS [qN 4 11 1,qx 5 79 [4],qm 3 5] [1,3]
 (.seq (qS [qm 6 3,qo 7 (.un .not (.tmp 6)),qm 8 7,qu 8 (qN 9 11 1),qu 8 (qx 10 80 [9]),qu 8 (qo 11 (.un .not (.tmp 10))),qr 12 8 11] [1,12]
 (qC 12 (qS [qk 2 150] [2]
 .ret)
 .skip))
 (.seq (qS [qN 13 11 1,qx 14 68 [13]] [1,14]
 (qC 14 (qS [qk 2 151] [2]
 .ret)
 .skip))
 (.seq (qS [qN 15 11 1,qx 16 69 [15],qc 17 .gtr 16 40] [17]
 (qC 17 (qS [qk 2 152] [2]
 .ret)
 .skip))
 (qS [qk 2 0] [2]
 .ret))))))⟩)
theorem n32 : F32.n = 18 := rfl
theorem low32 : lowF Tryz.prog (kpO F32) (assoc []) 32 = some F32 := by kernel_rfl
def F33 : FIR := laid (X := ⟨14, [.tmp 2],
 (qS [qB 1 48 0,qk 2 0] [1]
 (qS [qN 4 11 1,qx 5 79 [4],qm 3 5] [1,3]
 (.seq (qS [qm 6 3,qo 7 (.un .not (.tmp 6)),qm 8 7,qu 8 (qN 9 11 1),qu 8 (qx 10 68 [9]),qr 11 8 10] [1,11]
 (qC 11 (qS [qk 2 0] [2]
 .ret)
 .skip))
 (qS [qN 12 11 1,qx 13 81 [12],qm 2 13] [2]
 .ret))))⟩)
theorem n33 : F33.n = 14 := rfl
theorem low33 : lowF Tryz.prog (kpO F33) (assoc []) 33 = some F33 := by kernel_rfl
def F34 : FIR := laid (X := ⟨14, [.tmp 2],
 (qS [qB 1 48 0,qk 2 0] [1]
 (qS [qN 4 11 1,qx 5 79 [4],qm 3 5] [1,3]
 (.seq (qS [qm 6 3,qo 7 (.un .not (.tmp 6)),qm 8 7,qu 8 (qN 9 11 1),qu 8 (qx 10 68 [9]),qr 11 8 10] [1,11]
 (qC 11 (qS [qk 2 0] [2]
 .ret)
 .skip))
 (qS [qN 12 11 1,qx 13 69 [12],qm 2 13] [2]
 .ret))))⟩)
theorem n34 : F34.n = 14 := rfl
theorem low34 : lowF Tryz.prog (kpO F34) (assoc []) 34 = some F34 := by kernel_rfl
def F44 : FIR := laid (X := ⟨35, [.tmp 2],
 (qS [qo 2 (.mv (.const (Value.slice none 0 0)))] [0]
 (qS [qm 5 0,qL 6 5,qc 7 .add 6 2,qo 8 (.mkslice 9 1 16 [(Value.string ⟨#[]⟩)] (.tmp 7) (.tmp 7)),qm 3 8] [0,3]
 (.seq (qS [qk 4 0] [0,3,4]
 (.block 0 (.loop (.seq (qS [qm 9 4,qm 10 0,qL 11 10,qb 12 .lss 9 11] [0,3,4,12]
 (qC 12 .skip
 (.exit 0)))
 (.seq (.block 1 (.reg [qm 15 3,qm 16 4,qm 17 0,qm 18 4,qi 19 1 17 18,ql 20 19,qi 21 1 15 16,qs 1 21 20] [0,3,4]))
 (.reg [qm 13 4,qc 14 .add 13 1,qm 4 14] [0,3,4]))))))
 (qS [qm 22 3,qm 23 0,qL 24 23,qi 25 1 22 24,⟨none,none,.store 1 (.tmp 25) (.const (Value.string ⟨#[114, 111, 111, 109]⟩))⟩] [0,3]
 (qS [qm 26 3,qm 27 0,qL 28 27,qc 29 .add 28 1,qi 30 1 26 29,
  ⟨none,none,.store 1 (.tmp 30) (.const (Value.string ⟨#[109, 111, 114, 101]⟩))⟩] [0,3]
 (qS [qm 31 3,qm 32 0,qL 33 32,qo 34 (.slcL 1 (.tmp 31) none (some (.tmp 33)) none),qm 2 34] [2]
 .ret))))))⟩)
theorem n44 : F44.n = 35 := rfl
theorem low44 : lowF Tryz.prog (kpO F44) (assoc []) 44 = some F44 := by kernel_rfl
def F56 : FIR := laid (X := ⟨24, [.tmp 2],
 (qS [qz 2 false] [0]
 (qS [qm 4 0,qm 5 0,qL 6 5,qc 7 .add 6 2,qo 8 (.slcL 1 (.tmp 4) none (some (.tmp 7)) none),qm 3 8] [0,3]
 (qS [qm 9 3,qm 10 0,qL 11 10,qi 12 1 9 11,ql 13 12,qo 14 (.bin .eql (.tmp 13) (.const (Value.string ⟨#[114, 111, 111, 109]⟩))),qm 15 14,
  qt 15 (qm 16 3),qt 15 (qm 17 0),qt 15 (qL 18 17),qt 15 (qc 19 .add 18 1),qt 15 (qi 20 1 16 19),qt 15 (ql 21 20),
  qt 15 (qo 22 (.bin .eql (.tmp 21) (.const (Value.string ⟨#[109, 111, 114, 101]⟩)))),qa 23 15 22,qm 2 23] [2]
 .ret)))⟩)
theorem n56 : F56.n = 24 := rfl
theorem low56 : lowF Tryz.prog (kpO F56) (assoc []) 56 = some F56 := by kernel_rfl
def F71 : FIR := laid (X := ⟨39, [.cellN 2 5],
 (qS [qB 1 46 0,
  qo 2 (.alloc 46 [(Value.int IntKind.u8 0), (Value.int IntKind.i64 0), (Value.int IntKind.u64 0), (Value.string ⟨#[]⟩), (Value.slice none 0 0)])] [1,2]
 (qS [qf 5 4 1,ql 6 5,qL 7 6,qc 8 .add 7 1,
  qo 9 (.mkslice 46 5 64 [(Value.int IntKind.u8 0), (Value.int IntKind.i64 0), (Value.int IntKind.u64 0), (Value.string ⟨#[]⟩), (Value.slice none 0 0)] (.tmp 8) (.tmp 8)),
  qm 3 9] [1,2,3]
 (.seq (qS [qk 4 0] [1,2,3,4]
 (.block 0 (.loop (.seq (qS [qm 10 4,qf 11 4 1,ql 12 11,qL 13 12,qb 14 .lss 10 13] [1,2,3,4,14]
 (qC 14 .skip
 (.exit 0)))
 (.seq (.block 1 (.reg [qm 17 3,qm 18 4,qf 19 4 1,ql 20 19,qm 21 4,qi 22 5 20 21,qN 23 5 22,qx 24 71 [23],qi 25 5 17 18,qs 5 25 24] [1,2,3,4]))
 (.reg [qm 15 4,qc 16 .add 15 1,qm 4 16] [1,2,3,4]))))))
 (qS [qm 26 3,qf 27 4 1,ql 28 27,qL 29 28,qi 30 5 26 29,qf 31 1 30,⟨none,none,.store 1 (.tmp 31) (.const (Value.int IntKind.i64 (-771)))⟩] [1,2,3]
 (qS [qm 32 3,qf 33 4 1,ql 34 33,qL 35 34,qo 36 (.slcL 5 (.tmp 32) none (some (.tmp 35)) none),qf 37 4 1,qs 1 37 36] [1,2]
 (qS [qN 38 5 1,qs 5 2 38] [2]
 .ret))))))⟩)
theorem n71 : F71.n = 39 := rfl
theorem low71 : lowF Tryz.prog (kpO F71) (assoc []) 71 = some F71 := by kernel_rfl
def F98 : FIR := laid (X := ⟨38, [.tmp 2],
 (qS [qB 1 46 0,qz 2 false] [1]
 (qS [qf 6 4 1,ql 7 6,qf 8 4 1,ql 9 8,qL 10 9,qc 11 .add 10 1,qo 12 (.slcL 5 (.tmp 7) none (some (.tmp 11)) none),qm 3 12] [1,3]
 (qS [qm 13 3,qf 14 4 1,ql 15 14,qL 16 15,qi 17 5 13 16,qf 18 1 17,ql 19 18,qc 20 .eql 19 (-771),qm 4 20] [1,4]
 (.seq (qS [qk 5 0] [1,4,5]
 (.block 0 (.loop (.seq (qS [qm 21 5,qf 22 4 1,ql 23 22,qL 24 23,qb 25 .lss 21 24,qm 26 25,qt 26 (qm 27 4),qa 28 26 27] [1,4,5,28]
 (qC 28 .skip
 (.exit 0)))
 (.seq (.block 1 (.reg [qf 31 4 1,ql 32 31,qm 33 5,qi 34 5 32 33,qN 35 5 34,qx 36 98 [35],qm 4 36] [1,4,5]))
 (.reg [qm 29 5,qc 30 .add 29 1,qm 5 30] [1,4,5]))))))
 (qS [qm 37 4,qm 2 37] [2]
 .ret)))))⟩)
theorem n98 : F98.n = 38 := rfl
theorem low98 : lowF Tryz.prog (kpO F98) (assoc []) 98 = some F98 := by kernel_rfl
def F23 : FIR := laid (X := ⟨53, [.cellN 2 11],
 (qS [qB 1 48 0,
  qo 2 (.alloc 48 [(Value.int IntKind.u8 0), (Value.string ⟨#[]⟩), (Value.int IntKind.u8 0), (Value.int IntKind.i64 0), (Value.int IntKind.u64 0), (Value.string ⟨#[]⟩), (Value.slice none 0 0), (Value.slice none 0 0), (Value.slice none 0 0), (Value.slice none 0 0), (Value.int IntKind.i64 0)])] [1,2]
 (qS [qf 5 9 1,ql 6 5,qL 7 6,qc 8 .add 7 1,
  qo 9 (.mkslice 48 11 168 [(Value.int IntKind.u8 0), (Value.string ⟨#[]⟩), (Value.int IntKind.u8 0), (Value.int IntKind.i64 0), (Value.int IntKind.u64 0), (Value.string ⟨#[]⟩), (Value.slice none 0 0), (Value.slice none 0 0), (Value.slice none 0 0), (Value.slice none 0 0), (Value.int IntKind.i64 0)] (.tmp 8) (.tmp 8)),
  qm 3 9] [1,2,3]
 (.seq (qS [qk 4 0] [1,2,3,4]
 (.block 0 (.loop (.seq (qS [qm 10 4,qf 11 9 1,ql 12 11,qL 13 12,qb 14 .lss 10 13] [1,2,3,4,14]
 (qC 14 .skip
 (.exit 0)))
 (.seq (.block 1 (.reg [qm 17 3,qm 18 4,qf 19 9 1,ql 20 19,qm 21 4,qi 22 11 20 21,qN 23 11 22,qx 24 23 [23],qi 25 11 17 18,qs 11 25 24] [1,2,3,4]))
 (.reg [qm 15 4,qc 16 .add 15 1,qm 4 16] [1,2,3,4]))))))
 (qS [qm 26 3,qf 27 9 1,ql 28 27,qL 29 28,qi 30 11 26 29,qf 31 10 30,
  ⟨none,none,.store 1 (.tmp 31) (.const (Value.int IntKind.i64 (-771)))⟩] [1,2,3]
 (.seq (.free [qf 32 0 1,ql 33 32,qf 34 1 1,ql 35 34,qf 36 2 1,qN 37 5 36,qx 38 71 [37],qf 39 7 1,ql 40 39,qx 41 44 [40],qf 42 8 1,ql 43 42,
  qx 44 44 [43],qm 45 3,qf 46 9 1,ql 47 46,qL 48 47,qo 49 (.slcL 11 (.tmp 45) none (some (.tmp 48)) none),qf 50 10 1,ql 51 50,
  qo 52 (.build [(Value.int IntKind.u8 0), (Value.string ⟨#[]⟩), (Value.int IntKind.u8 0), (Value.int IntKind.i64 0), (Value.int IntKind.u64 0), (Value.string ⟨#[]⟩), (Value.slice none 0 0), (Value.slice none 0 0), (Value.slice none 0 0), (Value.slice none 0 0), (Value.int IntKind.i64 0)] [(0, 1, (.tmp 33)), (1, 1, (.tmp 35)), (2, 5, (.tmp 38)), (7, 1, (.tmp 41)), (8, 1, (.tmp 44)), (9, 1, (.tmp 49)), (10, 1, (.tmp 51))]),
  qs 11 2 52] [[], [0], [], [2], [], [4], [4,5], [], [7], [5,4,6,7,8], [], [10], [8,7,6,4,5,9,10,11], [], [], [14], [14,15], [15,14,16,13], [], [18], [18,19,13,16,14,15,17,11,10,12,8,7,9,5,4,6,2,3,0,1], [1,0,3,2,6,4,5,9,7,8,12,10,11,17,15,14,16,13,19,18,20]] [2])
 .ret)))))⟩)
theorem n23 : F23.n = 53 := rfl
theorem low23 : lowF Tryz.prog (kpO F23) (assoc [(7,[])]) 23 = some F23 := by kernel_rfl
def F57 : FIR := laid (X := ⟨59, [.tmp 2],
 (qS [qB 1 48 0,qz 2 false] [1]
 (qS [qf 9 9 1,ql 10 9,qf 11 9 1,ql 12 11,qL 13 12,qc 14 .add 13 1,qo 15 (.slcL 11 (.tmp 10) none (some (.tmp 14)) none),qm 3 15] [1,3]
 (qS [qf 16 2 1,qN 17 5 16,qx 18 98 [17],qm 4 18] [1,3,4]
 (qS [qf 19 7 1,ql 20 19,qx 21 56 [20],qm 5 21] [1,3,4,5]
 (qS [qf 22 8 1,ql 23 22,qx 24 56 [23],qm 6 24] [1,3,4,5,6]
 (qS [qm 25 4,qm 26 25,qt 26 (qm 27 5),qa 28 26 27,qm 29 28,qt 29 (qm 30 6),qa 31 29 30,qm 32 31,qt 32 (qm 33 3),qt 32 (qf 34 9 1),
  qt 32 (ql 35 34),qt 32 (qL 36 35),qt 32 (qi 37 11 33 36),qt 32 (qf 38 10 37),qt 32 (ql 39 38),qt 32 (qc 40 .eql 39 (-771)),qa 41 32 40,qm 7 41] [1,7]
 (.seq (qS [qk 8 0] [1,7,8]
 (.block 0 (.loop (.seq (qS [qm 42 8,qf 43 9 1,ql 44 43,qL 45 44,qb 46 .lss 42 45,qm 47 46,qt 47 (qm 48 7),qa 49 47 48] [1,7,8,49]
 (qC 49 .skip
 (.exit 0)))
 (.seq (.block 1 (.reg [qf 52 9 1,ql 53 52,qm 54 8,qi 55 11 53 54,qN 56 11 55,qx 57 57 [56],qm 7 57] [1,7,8]))
 (.reg [qm 50 8,qc 51 .add 50 1,qm 8 51] [1,7,8]))))))
 (qS [qm 58 7,qm 2 58] [2]
 .ret))))))))⟩)
theorem n57 : F57.n = 59 := rfl
theorem low57 : lowF Tryz.prog (kpO F57) (assoc []) 57 = some F57 := by kernel_rfl
def F29 : FIR := laid (X := ⟨14, [.tmp 4],
 (qS [qB 2 48 0,qB 3 48 1,qz 4 false] [2,3]
 (qS [qN 6 11 2,qN 7 11 3,qx 8 40 [6,7],qm 5 8] [2,5]
 (qS [qm 9 5,qm 10 9,qt 10 (qN 11 11 2),qt 10 (qx 12 57 [11]),qa 13 10 12,qm 4 13] [4]
 .ret)))⟩)
theorem n29 : F29.n = 14 := rfl
theorem low29 : lowF Tryz.prog (kpO F29) (assoc []) 29 = some F29 := by kernel_rfl
def F4 : FIR := laid (X := ⟨90, [.tmp 4],
 (qS [qB 2 48 0,qB 3 48 1,qz 4 false] [2,3]
 (qS [qx 19 10 [],qm 5 19] [2,3,5]
 (qS [qN 20 11 2,qx 21 22 [20],qm 6 21] [2,3,5,6]
 (qS [qN 22 11 3,qx 23 22 [22],qm 7 23] [2,3,5,6,7]
 (.seq (qS [qm 24 5,qo 25 (.un .not (.tmp 24)),qm 26 25,qu 26 (qm 27 6),qr 28 26 27,qm 29 28,qu 29 (qm 30 7),qr 31 29 30] [2,3,5,31]
 (qC 31 (qS [qm 32 5,qm 4 32] [4]
 .ret)
 .skip))
 (qS [qN 33 11 2,qx 34 23 [33],
  qo 8 (.alloc 48 [(Value.int IntKind.u8 0), (Value.string ⟨#[]⟩), (Value.int IntKind.u8 0), (Value.int IntKind.i64 0), (Value.int IntKind.u64 0), (Value.string ⟨#[]⟩), (Value.slice none 0 0), (Value.slice none 0 0), (Value.slice none 0 0), (Value.slice none 0 0), (Value.int IntKind.i64 0)]),
  qs 11 8 34] [2,3,8]
 (qS [qN 35 11 3,qx 36 23 [35],
  qo 9 (.alloc 48 [(Value.int IntKind.u8 0), (Value.string ⟨#[]⟩), (Value.int IntKind.u8 0), (Value.int IntKind.i64 0), (Value.int IntKind.u64 0), (Value.string ⟨#[]⟩), (Value.slice none 0 0), (Value.slice none 0 0), (Value.slice none 0 0), (Value.slice none 0 0), (Value.int IntKind.i64 0)]),
  qs 11 9 36] [2,3,8,9]
 (qS [qN 37 11 8,qx 38 24 [37],qm 10 38] [2,3,8,9,10]
 (qS [qN 39 11 8,qx 40 25 [39],qm 11 40] [2,3,8,9,10,11]
 (qS [qN 41 11 8,qx 42 26 [41],qm 12 42] [2,3,8,9,10,11,12]
 (qS [qN 43 11 8,qx 44 27 [43],qm 13 44] [2,3,8,9,10,11,12,13]
 (qS [qN 45 11 8,qN 46 11 9,qx 47 28 [45,46],qm 14 47] [2,3,8,9,10,11,12,13,14]
 (qS [qN 48 11 8,qN 49 11 2,qx 50 29 [48,49],qm 15 50] [2,3,9,10,11,12,13,14,15]
 (qS [qN 51 11 9,qN 52 11 3,qx 53 29 [51,52],qm 16 53] [2,3,10,11,12,13,14,15,16]
 (qS [qN 54 11 2,qN 55 11 3,qx 56 30 [54,55],qm 17 56] [2,10,11,12,13,14,15,16,17]
 (qS [qN 57 11 2,qx 58 31 [57],qm 18 58] [2,10,11,12,13,14,15,16,17,18]
 (.seq (qS [qm 59 10,qN 60 11 2,qx 61 32 [60],qb 62 .neq 59 61,qm 63 62,qu 63 (qm 64 11),qu 63 (qN 65 11 2),qu 63 (qx 66 33 [65]),
  qu 63 (qb 67 .neq 64 66),qr 68 63 67,qm 69 68,qu 69 (qm 70 12),qu 69 (qN 71 11 2),qu 69 (qx 72 34 [71]),qu 69 (qb 73 .neq 70 72),qr 74 69 73,qm 75 74,
  qu 75 (qm 76 13),qu 75 (qm 77 18),qu 75 (qL 78 77),qu 75 (qb 79 .neq 76 78),qr 80 75 79] [14,15,16,17,80]
 (qC 80 (qS [qz 4 false] [4]
 .ret)
 .skip))
 (qS [qm 81 14,qm 82 17,qo 83 (.eqb false (.tmp 81) (.tmp 82)),qm 84 83,qt 84 (qm 85 15),qa 86 84 85,qm 87 86,qt 87 (qm 88 16),
  qa 89 87 88,qm 4 89] [4]
 .ret))))))))))))))))))⟩)
theorem n4 : F4.n = 90 := rfl
theorem low4 : lowF Tryz.prog (kpO F4) (assoc []) 4 = some F4 := by kernel_rfl
open Go Go.V Go.Shelf
set_option maxHeartbeats 3200000
shelf_lay Lays.n217 Nm 217 at Tryz as Tryz.sl217
shelf_lay Lays.n219 Nm 219 at Tryz as Tryz.sl219
theorem ixb_spec (s : ByteArray) (c : Nat) (hc : c < 256) : Fun Tryz.prog 143 [.string s, cv c] [] (fun v Post => v = vi (ixN (bytesN s) c) ∧ Post = []) := by
  refine Fun.of_calls (by kernel_rfl) (fun w => (Any.stringslite_IndexByte Tryz.sl217 s c w).mono ?_)
  rintro e w' ⟨rfl, rfl⟩
  refine ⟨_, rfl, ?_, rfl⟩
  have hx : ((c : Int).toNat.toUInt8).toNat = c := by
    rw [Int.toNat_natCast]
    exact Nat.mod_eq_of_lt hc
  rw [ix_eq, hx]; rfl
theorem ixs_spec (s : ByteArray) : Fun Tryz.prog 155 [.string s, .string ⟨#[58]⟩] [] (fun v Post => v = vi (ixN (bytesN s) 58) ∧ Post = []) := by
  refine Fun.of_calls (by kernel_rfl) (fun w => (Any.stringslite_Index_one Tryz.sl219 s 58 w).mono ?_)
  rintro e w' ⟨rfl, rfl⟩
  exact ⟨_, rfl, by rw [ix_eq]; rfl, rfl⟩
theorem letter_spec (c : Nat) (hc : c < 256) : Fun Tryz.prog 121 [cv c] [] (fun v Post => v = .bool (letB c) ∧ Post = []) := by
  refine Fun.intro low121 (by simp [n121]) ?_
  (repeat' (first | refine GOPH ?_ | refine st_gcase (by rfl) (fun _ => ?_) (fun _ => ?_) | refine st_pcase (by rfl) (fun _ => ?_) (fun _ => ?_) | refine VC.seq_cond (by rfl) (fun _ => ?_) (fun _ => ?_) | refine VC.cond (by rfl) (fun _ => ?_) (fun _ => ?_)))
  all_goals refine ⟨.inr rfl, _, _, .tmp (by rfl) .nil, by exact IMx, ?_, rfl⟩
  all_goals (simp only [tup, letB, Value.bool.injEq, decide_eq_true_eq, decide_eq_false_iff_not] at *)
  all_goals (rw [Bool.eq_iff_iff]; simp only [Bool.or_eq_true, Bool.and_eq_true, Bool.not_eq_true', decide_eq_true_eq, decide_eq_false_iff_not, true_iff, iff_true, reduceCtorEq, false_iff, iff_false]; omega)
theorem digit_spec (c : Nat) (hc : c < 256) : Fun Tryz.prog 126 [cv c] [] (fun v Post => v = .bool (digB c) ∧ Post = []) := by
  refine Fun.intro low126 (by simp [n126]) ?_
  (repeat' (first | refine GOPH ?_ | refine st_gcase (by rfl) (fun _ => ?_) (fun _ => ?_) | refine st_pcase (by rfl) (fun _ => ?_) (fun _ => ?_) | refine VC.seq_cond (by rfl) (fun _ => ?_) (fun _ => ?_) | refine VC.cond (by rfl) (fun _ => ?_) (fun _ => ?_)))
  all_goals refine ⟨.inr rfl, _, _, .tmp (by rfl) .nil, by exact IMx, ?_, rfl⟩
  all_goals (simp only [tup, digB, Value.bool.injEq, decide_eq_true_eq, decide_eq_false_iff_not] at *)
  all_goals (rw [Bool.eq_iff_iff]; simp only [Bool.or_eq_true, Bool.and_eq_true, Bool.not_eq_true', decide_eq_true_eq, decide_eq_false_iff_not, true_iff, iff_true, reduceCtorEq, false_iff, iff_false]; omega)
theorem inner_spec (c : Nat) (hc : c < 256) : Fun Tryz.prog 123 [cv c] [] (fun v Post => v = .bool (innB c) ∧ Post = []) := by
  refine Fun.intro low123 (by simp [n123]) ?_
  refine GOH ?_
  refine st_callP (letter_spec c hc) (by rfl) ?_
  cases hl : letB c with
  | true =>
    refine GOH ?_
    refine ⟨.inr rfl, _, _, .tmp (by rfl) .nil, by exact IMx, ?_, rfl⟩
    simp [tup, innB, hl]
  | false =>
    refine GOH ?_
    refine st_callP (digit_spec c hc) (by rfl) ?_
    refine GOH ?_
    refine ⟨.inr rfl, _, _, .tmp (by rfl) .nil, by exact IMx, ?_, rfl⟩
    simp [tup, innB, hl]
theorem binary_spec (c : Nat) (hc : c < 256) : Fun Tryz.prog 89 [cv c] [] (fun v Post => v = .bool (binB c) ∧ Post = []) := by
  refine Fun.intro low89 (by simp [n89]) ?_
  have hb := ixN_bin hc
  have h : Fun Tryz.prog 124 [.string ⟨#[43, 45, 42, 47, 92, 126, 60, 62, 61, 64, 37, 38, 63, 44, 33]⟩, cv c] [] (fun v Post => v = vi (ixN [43, 45, 42, 47, 92, 126, 60, 62, 61, 64, 37, 38, 63, 44, 33] c) ∧ Post = []) := by
    refine Fun.intro low124 (by simp [n124]) ?_
    refine GOH ?_
    refine st_callP (ixb_spec _ c hc) (by rfl) ?_
    refine GOH ?_
    refine ⟨.inr rfl, _, _, .tmp (by rfl) .nil, by exact IMx, ?_, rfl⟩
    rfl
  generalize ixN [43, 45, 42, 47, 92, 126, 60, 62, 61, 64, 37, 38, 63, 44, 33] c = z at h hb
  refine GOH ?_
  refine st_callP h (by rfl) ?_
  refine GOH ?_
  refine ⟨.inr rfl, _, _, .tmp (by rfl) .nil, by exact IMx, ?_, rfl⟩
  simp only [tup, ← hb]
theorem peek_spec (s : ByteArray) (hs : s.size ≤ 140737488355328) (k : Nat) : Fun Tryz.prog 127 [.string s, vi k] [] (fun v Post => v = cv ((bytesN s).getD k 0) ∧ Post = []) := by
  refine Fun.intro low127 (by simp [n127]) ?_
  refine GOH ?_
  by_cases h : k < s.size
  · rw [decide_eq_true (by omega)]
    obtain ⟨c, hc, hc2⟩ := bytesN_ex h
    refine GOH ?_
    refine st_idxS (by rfl) (by rfl) (j := k) rfl hc ?_
    refine GOH ?_
    refine ⟨.inr rfl, _, _, .tmp (by rfl) .nil, by exact IMx, ?_, rfl⟩
    simp [tup, List.getD_eq_getElem?_getD, hc2]
  · rw [decide_eq_false (by omega)]
    refine GOH ?_
    refine ⟨.inr rfl, _, _, .tmp (by rfl) .nil, by exact IMx, ?_, rfl⟩
    have : (bytesN s)[k]? = none := List.getElem?_eq_none (by rw [bytesN_len]; omega)
    simp [tup, List.getD_eq_getElem?_getD, this]
theorem run_spec (s : ByteArray) (hs : s.size ≤ 140737488355328) (a : Nat) (ha : a ≤ s.size) (fv : Value) (I : Nat → SH) (on : Nat → Bool)
    (h : ∀ k c, a ≤ k → (bytesN s)[k]? = some c → FunV Tryz.prog fv [cv c] (I k) (fun v Post => v = .bool (on k) ∧ Post = I (k + 1))) :
    Fun Tryz.prog 122 [.string s, vi a, fv] (I a) (fun v Post => ∃ e j : Nat, v = vi e ∧ a ≤ e ∧ e ≤ s.size ∧ (∀ k, a ≤ k → k < e → on k = true) ∧ (e < s.size → on e = false) ∧ Post = I j) := by
  refine Fun.intro low122 (by simp [n122]) ?_
  refine GOH ?_
  refine VC.loop (α := Nat) (Γf := fun k => [(0, .string s), (1, vi k), (2, fv)]) (Hf := fun k => I k) (I := fun k => a ≤ k ∧ k ≤ s.size ∧ ∀ i, a ≤ i → i < k → on i = true) (μ := fun k => s.size - k) a ⟨Nat.le_refl _, ha, fun i _ _ => by omega⟩ (by exact SUx) (Imp.refl _) ?_
  rintro k ⟨i1, i2, i3⟩
  refine GOH ?_
  by_cases hk : k < s.size
  · rw [decide_eq_true (by omega)]
    obtain ⟨c, hc, hc2⟩ := bytesN_ex hk
    refine GOH ?_
    refine st_idxS (by rfl) (by rfl) (j := k) rfl hc ?_
    refine GOH ?_
    refine st_callV (by rfl) (h k _ i1 hc2) (by rfl) (R := []) (by simp [V.Spl]) ?_
    rintro v Post ⟨rfl, rfl⟩
    rw [List.append_nil]
    cases ho : on k with
    | true =>
      refine GOH ?_
      refine ⟨k + 1, ⟨by omega, by omega, fun i g1 g2 => ?_⟩, by omega, by exact SUx, Imp.refl _⟩
      by_cases e : i = k
      · subst e; exact ho
      · exact i3 i g1 (by omega)
    | false =>
      refine GOH ?_
      exact endQ_mk (Post := I (k + 1)) (.inr rfl) (.tmp (by rfl) .nil) ⟨k, k + 1, rfl, i1, i2, i3, fun _ => ho, rfl⟩ (Imp.refl _)
  · rw [decide_eq_false (by omega)]
    refine GOH ?_
    exact endQ_mk (Post := I k) (.inr rfl) (.tmp (by rfl) .nil) ⟨k, k, rfl, i1, i2, i3, fun hh => absurd hh hk, rfl⟩ (Imp.refl _)
theorem name_spec (s : ByteArray) (hs : s.size ≤ 140737488355328) : Fun Tryz.prog 88 [.string s] [] (fun v Post => v = .bool (nameS s) ∧ Post = []) := by
  refine Fun.intro low88 (by simp [n88]) ?_
  have hlen := bytesN_len s
  unfold nameS nameL
  refine GOH ?_
  by_cases h0 : s = ⟨#[]⟩
  · subst h0
    refine GOH ?_
    refine ⟨.inr rfl, _, _, .tmp (by rfl) .nil, by exact IMx, ?_, rfl⟩
    rfl
  obtain ⟨c, r, hc, hr, hc256, hpos⟩ := bytesN_cons h0
  rw [decide_eq_false h0, Bool.not_false]
  refine GOH ?_
  by_cases h40 : s.size ≤ 40
  rotate_left
  · rw [decide_eq_false (by omega)]
    refine GOH ?_
    refine ⟨.inr rfl, _, _, .tmp (by rfl) .nil, by exact IMx, ?_, rfl⟩
    have h2 : ¬ (c.toNat :: r).length ≤ 40 := by rw [← hr]; omega
    simp only [tup, hr, decide_eq_false h2, Bool.false_and]
  rw [decide_eq_true (by omega)]
  refine GOH ?_
  refine st_idxS (by rfl) (by rfl) (j := 0) rfl hc ?_
  refine GOH ?_
  refine st_callP (letter_spec _ hc256) (by rfl) ?_
  cases hl : letB c.toNat with
  | false =>
    refine GOH ?_
    refine ⟨.inr rfl, _, _, .tmp (by rfl) .nil, by exact IMx, ?_, rfl⟩
    simp [tup, hr, hl]
  | true =>
    refine GOH ?_
    refine st_call (run_spec s hs 0 (by omega) (.func (.func 123) #[] #[]) (fun _ => []) (fun k => innB ((bytesN s).getD k 0)) (fun k x _ hx => FunV.of_fun ?_)) (by rfl) (by exact SPx) (fun v Post hv => ?_)
    · rw [List.getD_eq_getElem?_getD, hx]
      exact inner_spec _ (bytesN_lt s _ (List.mem_of_getElem? hx))
    obtain ⟨e, j, rfl, e1, e2, e3, e4, rfl⟩ := hv
    have hall := all_run (l := bytesN s) (p := innB) (e := e) (by omega) (fun k hk => e3 k (by omega) hk) (fun hk => e4 (by omega))
    have h2 : (c.toNat :: r).length ≤ 40 := by rw [← hr]; omega
    simp only [List.nil_append]
    refine GOH ?_
    refine ⟨.inr rfl, _, _, .tmp (by rfl) .nil, by exact IMx, ?_, rfl⟩
    rw [hr] at hall
    simp only [tup, hr, decide_eq_true h2, hl, hall, Bool.true_and, Value.bool.injEq]
    rw [← hr, hlen]
    (rw [Bool.eq_iff_iff]; simp only [Bool.or_eq_true, Bool.and_eq_true, Bool.not_eq_true', decide_eq_true_eq, decide_eq_false_iff_not, true_iff, iff_true, reduceCtorEq, false_iff, iff_false]; omega)
end Go.Proofs.YtmnmandpdadedaaGreatDoor

/-
  The code of functions, as terms: printed by a program, proved to be what the seat has.
-/
import Derived.Test.YtgindbomnbojeaaGreatV14
import Derived.KernelRfl
import Derived.Test.YtgindbomnbojeaaGreatProg
set_option linter.unusedSimpArgs false
set_option linter.unusedVariables false
namespace Go.Proofs.YtgindbomnbojeaaGreat
open Go Go.V
set_option maxRecDepth 100000
def F73 : FIR := laid (X := ⟨125, [.tmp 2],
 (qS [qz 2 false] [0]
 (.seq (qS [qk 3 0] [0,3]
 (.block 0 (.loop (.seq (qS [qm 13 3,qm 14 0,qL 15 14,qb 16 .lss 13 15] [0,3,16]
 (qC 16 .skip
 (.exit 0)))
 (.seq (.block 1 (qS [qk 4 0] [0,3,4]
 (.block 2 (.loop (.seq (qS [qm 19 4,qm 20 0,qm 21 3,qi 22 1 20 21,ql 23 22,qL 24 23,qb 25 .lss 19 24] [0,3,4,25]
 (qC 25 .skip
 (.exit 2)))
 (.seq (.block 3 (.reg [qm 28 0,qm 29 3,qi 30 1 28 29,ql 31 30,qm 32 4,qm 33 3,qc 34 .mul 33 1000,qm 35 4,qb 36 .add 34 35,qi 37 1 31 32,qs 1 37 36] [0,3,4]))
 (.reg [qm 26 4,qc 27 .add 26 1,qm 4 27] [0,3,4])))))))
 (.reg [qm 17 3,qc 18 .add 17 1,qm 3 18] [0,3]))))))
 (qS [qo 5 (.mv (.const (Value.slice none 0 0)))] [0,5]
 (.seq (qS [qk 6 0] [0,5,6]
 (.block 4 (.loop (.seq (qS [qm 38 6,qm 39 0,qL 40 39,qb 41 .lss 38 40] [0,5,6,41]
 (qC 41 .skip
 (.exit 4)))
 (.seq (.block 5 (qS [qm 44 0,qm 45 6,qi 46 1 44 45,ql 47 46,qm 7 47] [0,5,6,7]
 (.seq (qS [qk 8 0] [0,5,6,7,8]
 (.block 6 (.loop (.seq (qS [qm 48 8,qc 49 .lss 48 16] [0,5,6,7,8,49]
 (qC 49 .skip
 (.exit 6)))
 (.seq (.block 7 (.reg [qm 52 7,qm 53 6,qo 54 (.bin .sub (.const (Value.int IntKind.i64 (-1))) (.tmp 53)),qc 55 .mul 54 1000,qm 56 8,qb 57 .sub 55 56,
  qo 58 (.bslice 3 1 [(Value.int IntKind.i64 0)] [(0, 1, (.tmp 57))]),qo 59 (.append 3 1 8 [(Value.int IntKind.i64 0)] (.tmp 52) (.tmp 58)),qm 7 59] [0,5,6,7,8]))
 (.reg [qm 50 8,qc 51 .add 50 1,qm 8 51] [0,5,6,7,8]))))))
 (.reg [qm 60 5,qm 61 7,qo 62 (.bslice 105 1 [(Value.slice none 0 0)] [(0, 1, (.tmp 61))]),
  qo 63 (.append 105 1 24 [(Value.slice none 0 0)] (.tmp 60) (.tmp 62)),qm 5 63] [0,5,6]))))
 (.reg [qm 42 6,qc 43 .add 42 1,qm 6 43] [0,5,6]))))))
 (.seq (qS [qk 9 0] [0,5,9]
 (.block 8 (.loop (.seq (qS [qm 64 9,qm 65 0,qL 66 65,qb 67 .lss 64 66] [0,5,9,67]
 (qC 67 .skip
 (.exit 8)))
 (.seq (.block 9 (qS [qm 70 0,qm 71 9,qi 72 1 70 71,ql 73 72,qL 74 73,qm 10 74] [0,5,9,10]
 (.seq (qS [qk 11 0] [0,5,9,10,11]
 (.block 10 (.loop (.seq (qS [qm 75 11,qm 76 10,qb 77 .lss 75 76] [0,5,9,10,11,77]
 (qC 77 .skip
 (.exit 10)))
 (.seq (.block 11 (qS [qm 80 0,qm 81 9,qi 82 1 80 81,ql 83 82,qm 84 11,qi 85 1 83 84,ql 86 85,qm 87 9,qc 88 .mul 87 1000,qm 89 11,qb 90 .add 88 89,
  qb 91 .neq 86 90,qm 92 91,qu 92 (qm 93 5),qu 92 (qm 94 9),qu 92 (qi 95 1 93 94),qu 92 (ql 96 95),qu 92 (qm 97 11),qu 92 (qi 98 1 96 97),
  qu 92 (ql 99 98),qu 92 (qm 100 9),qu 92 (qc 101 .mul 100 1000),qu 92 (qm 102 11),qu 92 (qb 103 .add 101 102),qu 92 (qb 104 .neq 99 103),qr 105 92 104] [0,5,9,10,11,105]
 (qC 105 (qS [qz 2 false] [2]
 .ret)
 .skip)))
 (.reg [qm 78 11,qc 79 .add 78 1,qm 11 79] [0,5,9,10,11]))))))
 (qS [qk 12 0] [0,5,9,10,12]
 (.block 12 (.loop (.seq (qS [qm 106 12,qc 107 .lss 106 16] [0,5,9,10,12,107]
 (qC 107 .skip
 (.exit 12)))
 (.seq (.block 13 (qS [qm 110 5,qm 111 9,qi 112 1 110 111,ql 113 112,qm 114 10,qm 115 12,qb 116 .add 114 115,qi 117 1 113 116,ql 118 117,qm 119 9,
  qo 120 (.bin .sub (.const (Value.int IntKind.i64 (-1))) (.tmp 119)),qc 121 .mul 120 1000,qm 122 12,qb 123 .sub 121 122,qb 124 .neq 118 123] [0,5,9,10,12,124]
 (qC 124 (qS [qz 2 false] [2]
 .ret)
 .skip)))
 (.reg [qm 108 12,qc 109 .add 108 1,qm 12 109] [0,5,9,10,12])))))))))
 (.reg [qm 68 9,qc 69 .add 68 1,qm 9 69] [0,5,9]))))))
 (qS [qz 2 true] [2]
 .ret))))))⟩)
theorem n73 : F73.n = 125 := rfl
theorem low73 : lowF Tryz.prog (kpO F73) (assoc []) 73 = some F73 := by kernel_rfl
def F74 : FIR := laid (X := ⟨135, [.tmp 2],
 (qS [qz 2 false] [0]
 (.seq (qS [qk 3 0] [0,3]
 (.block 0 (.loop (.seq (qS [qm 13 3,qm 14 0,qL 15 14,qb 16 .lss 13 15] [0,3,16]
 (qC 16 .skip
 (.exit 0)))
 (.seq (.block 1 (qS [qk 4 0] [0,3,4]
 (.block 2 (.loop (.seq (qS [qm 19 4,qm 20 0,qm 21 3,qi 22 1 20 21,ql 23 22,qL 24 23,qb 25 .lss 19 24] [0,3,4,25]
 (qC 25 .skip
 (.exit 2)))
 (.seq (.block 3 (.reg [qm 28 0,qm 29 3,qi 30 1 28 29,ql 31 30,qm 32 4,qm 33 3,qc 34 .mul 33 1000,qm 35 4,qb 36 .add 34 35,qc 37 .add 36 9000000,
  qo 38 (.conv .u64 (.tmp 37)),qi 39 1 31 32,qs 1 39 38] [0,3,4]))
 (.reg [qm 26 4,qc 27 .add 26 1,qm 4 27] [0,3,4])))))))
 (.reg [qm 17 3,qc 18 .add 17 1,qm 3 18] [0,3]))))))
 (qS [qo 5 (.mv (.const (Value.slice none 0 0)))] [0,5]
 (.seq (qS [qk 6 0] [0,5,6]
 (.block 4 (.loop (.seq (qS [qm 40 6,qm 41 0,qL 42 41,qb 43 .lss 40 42] [0,5,6,43]
 (qC 43 .skip
 (.exit 4)))
 (.seq (.block 5 (qS [qm 46 0,qm 47 6,qi 48 1 46 47,ql 49 48,qm 7 49] [0,5,6,7]
 (.seq (qS [qk 8 0] [0,5,6,7,8]
 (.block 6 (.loop (.seq (qS [qm 50 8,qc 51 .lss 50 16] [0,5,6,7,8,51]
 (qC 51 .skip
 (.exit 6)))
 (.seq (.block 7 (.reg [qm 54 7,qm 55 6,qo 56 (.bin .sub (.const (Value.int IntKind.i64 (-1))) (.tmp 55)),qc 57 .mul 56 1000,qm 58 8,qb 59 .sub 57 58,
  qc 60 .add 59 9000000,qo 61 (.conv .u64 (.tmp 60)),qo 62 (.bslice 25 1 [(Value.int IntKind.u64 0)] [(0, 1, (.tmp 61))]),
  qo 63 (.append 25 1 8 [(Value.int IntKind.u64 0)] (.tmp 54) (.tmp 62)),qm 7 63] [0,5,6,7,8]))
 (.reg [qm 52 8,qc 53 .add 52 1,qm 8 53] [0,5,6,7,8]))))))
 (.reg [qm 64 5,qm 65 7,qo 66 (.bslice 162 1 [(Value.slice none 0 0)] [(0, 1, (.tmp 65))]),
  qo 67 (.append 162 1 24 [(Value.slice none 0 0)] (.tmp 64) (.tmp 66)),qm 5 67] [0,5,6]))))
 (.reg [qm 44 6,qc 45 .add 44 1,qm 6 45] [0,5,6]))))))
 (.seq (qS [qk 9 0] [0,5,9]
 (.block 8 (.loop (.seq (qS [qm 68 9,qm 69 0,qL 70 69,qb 71 .lss 68 70] [0,5,9,71]
 (qC 71 .skip
 (.exit 8)))
 (.seq (.block 9 (qS [qm 74 0,qm 75 9,qi 76 1 74 75,ql 77 76,qL 78 77,qm 10 78] [0,5,9,10]
 (.seq (qS [qk 11 0] [0,5,9,10,11]
 (.block 10 (.loop (.seq (qS [qm 79 11,qm 80 10,qb 81 .lss 79 80] [0,5,9,10,11,81]
 (qC 81 .skip
 (.exit 10)))
 (.seq (.block 11 (qS [qm 84 0,qm 85 9,qi 86 1 84 85,ql 87 86,qm 88 11,qi 89 1 87 88,ql 90 89,qm 91 9,qc 92 .mul 91 1000,qm 93 11,qb 94 .add 92 93,
  qc 95 .add 94 9000000,qo 96 (.conv .u64 (.tmp 95)),qb 97 .neq 90 96,qm 98 97,qu 98 (qm 99 5),qu 98 (qm 100 9),qu 98 (qi 101 1 99 100),
  qu 98 (ql 102 101),qu 98 (qm 103 11),qu 98 (qi 104 1 102 103),qu 98 (ql 105 104),qu 98 (qm 106 9),qu 98 (qc 107 .mul 106 1000),qu 98 (qm 108 11),
  qu 98 (qb 109 .add 107 108),qu 98 (qc 110 .add 109 9000000),qu 98 (qo 111 (.conv .u64 (.tmp 110))),qu 98 (qb 112 .neq 105 111),qr 113 98 112] [0,5,9,10,11,113]
 (qC 113 (qS [qz 2 false] [2]
 .ret)
 .skip)))
 (.reg [qm 82 11,qc 83 .add 82 1,qm 11 83] [0,5,9,10,11]))))))
 (qS [qk 12 0] [0,5,9,10,12]
 (.block 12 (.loop (.seq (qS [qm 114 12,qc 115 .lss 114 16] [0,5,9,10,12,115]
 (qC 115 .skip
 (.exit 12)))
 (.seq (.block 13 (qS [qm 118 5,qm 119 9,qi 120 1 118 119,ql 121 120,qm 122 10,qm 123 12,qb 124 .add 122 123,qi 125 1 121 124,ql 126 125,qm 127 9,
  qo 128 (.bin .sub (.const (Value.int IntKind.i64 (-1))) (.tmp 127)),qc 129 .mul 128 1000,qm 130 12,qb 131 .sub 129 130,qc 132 .add 131 9000000,
  qo 133 (.conv .u64 (.tmp 132)),qb 134 .neq 126 133] [0,5,9,10,12,134]
 (qC 134 (qS [qz 2 false] [2]
 .ret)
 .skip)))
 (.reg [qm 116 12,qc 117 .add 116 1,qm 12 117] [0,5,9,10,12])))))))))
 (.reg [qm 72 9,qc 73 .add 72 1,qm 9 73] [0,5,9]))))))
 (qS [qz 2 true] [2]
 .ret))))))⟩)
theorem n74 : F74.n = 135 := rfl
theorem low74 : lowF Tryz.prog (kpO F74) (assoc []) 74 = some F74 := by kernel_rfl
def F75 : FIR := laid (X := ⟨135, [.tmp 2],
 (qS [qz 2 false] [0]
 (.seq (qS [qk 3 0] [0,3]
 (.block 0 (.loop (.seq (qS [qm 13 3,qm 14 0,qL 15 14,qb 16 .lss 13 15] [0,3,16]
 (qC 16 .skip
 (.exit 0)))
 (.seq (.block 1 (qS [qk 4 0] [0,3,4]
 (.block 2 (.loop (.seq (qS [qm 19 4,qm 20 0,qm 21 3,qi 22 1 20 21,ql 23 22,qL 24 23,qb 25 .lss 19 24] [0,3,4,25]
 (qC 25 .skip
 (.exit 2)))
 (.seq (.block 3 (.reg [qm 28 0,qm 29 3,qi 30 1 28 29,ql 31 30,qm 32 4,qm 33 3,qc 34 .mul 33 1000,qm 35 4,qb 36 .add 34 35,qc 37 .add 36 9000000,
  qo 38 (.conv .u64 (.tmp 37)),qi 39 1 31 32,qs 1 39 38] [0,3,4]))
 (.reg [qm 26 4,qc 27 .add 26 1,qm 4 27] [0,3,4])))))))
 (.reg [qm 17 3,qc 18 .add 17 1,qm 3 18] [0,3]))))))
 (qS [qo 5 (.mv (.const (Value.slice none 0 0)))] [0,5]
 (.seq (qS [qk 6 0] [0,5,6]
 (.block 4 (.loop (.seq (qS [qm 40 6,qm 41 0,qL 42 41,qb 43 .lss 40 42] [0,5,6,43]
 (qC 43 .skip
 (.exit 4)))
 (.seq (.block 5 (qS [qm 46 0,qm 47 6,qi 48 1 46 47,ql 49 48,qm 7 49] [0,5,6,7]
 (.seq (qS [qk 8 0] [0,5,6,7,8]
 (.block 6 (.loop (.seq (qS [qm 50 8,qc 51 .lss 50 16] [0,5,6,7,8,51]
 (qC 51 .skip
 (.exit 6)))
 (.seq (.block 7 (.reg [qm 54 7,qm 55 6,qo 56 (.bin .sub (.const (Value.int IntKind.i64 (-1))) (.tmp 55)),qc 57 .mul 56 1000,qm 58 8,qb 59 .sub 57 58,
  qc 60 .add 59 9000000,qo 61 (.conv .u64 (.tmp 60)),qo 62 (.bslice 164 1 [(Value.int IntKind.u64 0)] [(0, 1, (.tmp 61))]),
  qo 63 (.append 164 1 8 [(Value.int IntKind.u64 0)] (.tmp 54) (.tmp 62)),qm 7 63] [0,5,6,7,8]))
 (.reg [qm 52 8,qc 53 .add 52 1,qm 8 53] [0,5,6,7,8]))))))
 (.reg [qm 64 5,qm 65 7,qo 66 (.bslice 163 1 [(Value.slice none 0 0)] [(0, 1, (.tmp 65))]),
  qo 67 (.append 163 1 24 [(Value.slice none 0 0)] (.tmp 64) (.tmp 66)),qm 5 67] [0,5,6]))))
 (.reg [qm 44 6,qc 45 .add 44 1,qm 6 45] [0,5,6]))))))
 (.seq (qS [qk 9 0] [0,5,9]
 (.block 8 (.loop (.seq (qS [qm 68 9,qm 69 0,qL 70 69,qb 71 .lss 68 70] [0,5,9,71]
 (qC 71 .skip
 (.exit 8)))
 (.seq (.block 9 (qS [qm 74 0,qm 75 9,qi 76 1 74 75,ql 77 76,qL 78 77,qm 10 78] [0,5,9,10]
 (.seq (qS [qk 11 0] [0,5,9,10,11]
 (.block 10 (.loop (.seq (qS [qm 79 11,qm 80 10,qb 81 .lss 79 80] [0,5,9,10,11,81]
 (qC 81 .skip
 (.exit 10)))
 (.seq (.block 11 (qS [qm 84 0,qm 85 9,qi 86 1 84 85,ql 87 86,qm 88 11,qi 89 1 87 88,ql 90 89,qm 91 9,qc 92 .mul 91 1000,qm 93 11,qb 94 .add 92 93,
  qc 95 .add 94 9000000,qo 96 (.conv .u64 (.tmp 95)),qb 97 .neq 90 96,qm 98 97,qu 98 (qm 99 5),qu 98 (qm 100 9),qu 98 (qi 101 1 99 100),
  qu 98 (ql 102 101),qu 98 (qm 103 11),qu 98 (qi 104 1 102 103),qu 98 (ql 105 104),qu 98 (qm 106 9),qu 98 (qc 107 .mul 106 1000),qu 98 (qm 108 11),
  qu 98 (qb 109 .add 107 108),qu 98 (qc 110 .add 109 9000000),qu 98 (qo 111 (.conv .u64 (.tmp 110))),qu 98 (qb 112 .neq 105 111),qr 113 98 112] [0,5,9,10,11,113]
 (qC 113 (qS [qz 2 false] [2]
 .ret)
 .skip)))
 (.reg [qm 82 11,qc 83 .add 82 1,qm 11 83] [0,5,9,10,11]))))))
 (qS [qk 12 0] [0,5,9,10,12]
 (.block 12 (.loop (.seq (qS [qm 114 12,qc 115 .lss 114 16] [0,5,9,10,12,115]
 (qC 115 .skip
 (.exit 12)))
 (.seq (.block 13 (qS [qm 118 5,qm 119 9,qi 120 1 118 119,ql 121 120,qm 122 10,qm 123 12,qb 124 .add 122 123,qi 125 1 121 124,ql 126 125,qm 127 9,
  qo 128 (.bin .sub (.const (Value.int IntKind.i64 (-1))) (.tmp 127)),qc 129 .mul 128 1000,qm 130 12,qb 131 .sub 129 130,qc 132 .add 131 9000000,
  qo 133 (.conv .u64 (.tmp 132)),qb 134 .neq 126 133] [0,5,9,10,12,134]
 (qC 134 (qS [qz 2 false] [2]
 .ret)
 .skip)))
 (.reg [qm 116 12,qc 117 .add 116 1,qm 12 117] [0,5,9,10,12])))))))))
 (.reg [qm 72 9,qc 73 .add 72 1,qm 9 73] [0,5,9]))))))
 (qS [qz 2 true] [2]
 .ret))))))⟩)
theorem n75 : F75.n = 135 := rfl
theorem low75 : lowF Tryz.prog (kpO F75) (assoc []) 75 = some F75 := by kernel_rfl
def F76 : FIR := laid (X := ⟨130, [.tmp 2],
 (qS [qz 2 false] [0]
 (.seq (qS [qk 3 0] [0,3]
 (.block 0 (.loop (.seq (qS [qm 13 3,qm 14 0,qL 15 14,qb 16 .lss 13 15] [0,3,16]
 (qC 16 .skip
 (.exit 0)))
 (.seq (.block 1 (qS [qk 4 0] [0,3,4]
 (.block 2 (.loop (.seq (qS [qm 19 4,qm 20 0,qm 21 3,qi 22 1 20 21,ql 23 22,qL 24 23,qb 25 .lss 19 24] [0,3,4,25]
 (qC 25 .skip
 (.exit 2)))
 (.seq (.block 3 (.reg [qm 28 0,qm 29 3,qi 30 1 28 29,ql 31 30,qm 32 4,qm 33 3,qc 34 .mul 33 1000,qm 35 4,qb 36 .add 34 35,
  qo 37 (.build [(Value.int IntKind.u8 0), (Value.int IntKind.i64 0), (Value.string ⟨#[]⟩), (Value.string ⟨#[]⟩), (Value.int IntKind.i64 0), (Value.int IntKind.i64 0)] [(1, 1, (.tmp 36))]),
  qi 38 6 31 32,qs 6 38 37] [0,3,4]))
 (.reg [qm 26 4,qc 27 .add 26 1,qm 4 27] [0,3,4])))))))
 (.reg [qm 17 3,qc 18 .add 17 1,qm 3 18] [0,3]))))))
 (qS [qo 5 (.mv (.const (Value.slice none 0 0)))] [0,5]
 (.seq (qS [qk 6 0] [0,5,6]
 (.block 4 (.loop (.seq (qS [qm 39 6,qm 40 0,qL 41 40,qb 42 .lss 39 41] [0,5,6,42]
 (qC 42 .skip
 (.exit 4)))
 (.seq (.block 5 (qS [qm 45 0,qm 46 6,qi 47 1 45 46,ql 48 47,qm 7 48] [0,5,6,7]
 (.seq (qS [qk 8 0] [0,5,6,7,8]
 (.block 6 (.loop (.seq (qS [qm 49 8,qc 50 .lss 49 16] [0,5,6,7,8,50]
 (qC 50 .skip
 (.exit 6)))
 (.seq (.block 7 (.reg [qm 53 7,qm 54 6,qo 55 (.bin .sub (.const (Value.int IntKind.i64 (-1))) (.tmp 54)),qc 56 .mul 55 1000,qm 57 8,qb 58 .sub 56 57,
  qo 59 (.build [(Value.int IntKind.u8 0), (Value.int IntKind.i64 0), (Value.string ⟨#[]⟩), (Value.string ⟨#[]⟩), (Value.int IntKind.i64 0), (Value.int IntKind.i64 0)] [(1, 1, (.tmp 58))]),
  qo 60 (.bslice 74 1 [(Value.int IntKind.u8 0), (Value.int IntKind.i64 0), (Value.string ⟨#[]⟩), (Value.string ⟨#[]⟩), (Value.int IntKind.i64 0), (Value.int IntKind.i64 0)] [(0, 6, (.tmp 59))]),
  qo 61 (.append 74 6 64 [(Value.int IntKind.u8 0), (Value.int IntKind.i64 0), (Value.string ⟨#[]⟩), (Value.string ⟨#[]⟩), (Value.int IntKind.i64 0), (Value.int IntKind.i64 0)] (.tmp 53) (.tmp 60)),
  qm 7 61] [0,5,6,7,8]))
 (.reg [qm 51 8,qc 52 .add 51 1,qm 8 52] [0,5,6,7,8]))))))
 (.reg [qm 62 5,qm 63 7,qo 64 (.bslice 58 1 [(Value.slice none 0 0)] [(0, 1, (.tmp 63))]),
  qo 65 (.append 58 1 24 [(Value.slice none 0 0)] (.tmp 62) (.tmp 64)),qm 5 65] [0,5,6]))))
 (.reg [qm 43 6,qc 44 .add 43 1,qm 6 44] [0,5,6]))))))
 (.seq (qS [qk 9 0] [0,5,9]
 (.block 8 (.loop (.seq (qS [qm 66 9,qm 67 0,qL 68 67,qb 69 .lss 66 68] [0,5,9,69]
 (qC 69 .skip
 (.exit 8)))
 (.seq (.block 9 (qS [qm 72 0,qm 73 9,qi 74 1 72 73,ql 75 74,qL 76 75,qm 10 76] [0,5,9,10]
 (.seq (qS [qk 11 0] [0,5,9,10,11]
 (.block 10 (.loop (.seq (qS [qm 77 11,qm 78 10,qb 79 .lss 77 78] [0,5,9,10,11,79]
 (qC 79 .skip
 (.exit 10)))
 (.seq (.block 11 (qS [qm 82 0,qm 83 9,qi 84 1 82 83,ql 85 84,qm 86 11,qi 87 6 85 86,qN 88 6 87,qm 89 9,qc 90 .mul 89 1000,qm 91 11,qb 92 .add 90 91,
  qo 93 (.build [(Value.int IntKind.u8 0), (Value.int IntKind.i64 0), (Value.string ⟨#[]⟩), (Value.string ⟨#[]⟩), (Value.int IntKind.i64 0), (Value.int IntKind.i64 0)] [(1, 1, (.tmp 92))]),
  qo 94 (.eqagg true [.int, .int, .str, .str, .int, .int] (.tmp 88) (.tmp 93)),qm 95 94,qu 95 (qm 96 5),qu 95 (qm 97 9),qu 95 (qi 98 1 96 97),
  qu 95 (ql 99 98),qu 95 (qm 100 11),qu 95 (qi 101 6 99 100),qu 95 (qN 102 6 101),qu 95 (qm 103 9),qu 95 (qc 104 .mul 103 1000),qu 95 (qm 105 11),
  qu 95 (qb 106 .add 104 105),
  qu 95 (qo 107 (.build [(Value.int IntKind.u8 0), (Value.int IntKind.i64 0), (Value.string ⟨#[]⟩), (Value.string ⟨#[]⟩), (Value.int IntKind.i64 0), (Value.int IntKind.i64 0)] [(1, 1, (.tmp 106))])),
  qu 95 (qo 108 (.eqagg true [.int, .int, .str, .str, .int, .int] (.tmp 102) (.tmp 107))),qr 109 95 108] [0,5,9,10,11,109]
 (qC 109 (qS [qz 2 false] [2]
 .ret)
 .skip)))
 (.reg [qm 80 11,qc 81 .add 80 1,qm 11 81] [0,5,9,10,11]))))))
 (qS [qk 12 0] [0,5,9,10,12]
 (.block 12 (.loop (.seq (qS [qm 110 12,qc 111 .lss 110 16] [0,5,9,10,12,111]
 (qC 111 .skip
 (.exit 12)))
 (.seq (.block 13 (qS [qm 114 5,qm 115 9,qi 116 1 114 115,ql 117 116,qm 118 10,qm 119 12,qb 120 .add 118 119,qi 121 6 117 120,qN 122 6 121,qm 123 9,
  qo 124 (.bin .sub (.const (Value.int IntKind.i64 (-1))) (.tmp 123)),qc 125 .mul 124 1000,qm 126 12,qb 127 .sub 125 126,
  qo 128 (.build [(Value.int IntKind.u8 0), (Value.int IntKind.i64 0), (Value.string ⟨#[]⟩), (Value.string ⟨#[]⟩), (Value.int IntKind.i64 0), (Value.int IntKind.i64 0)] [(1, 1, (.tmp 127))]),
  qo 129 (.eqagg true [.int, .int, .str, .str, .int, .int] (.tmp 122) (.tmp 128))] [0,5,9,10,12,129]
 (qC 129 (qS [qz 2 false] [2]
 .ret)
 .skip)))
 (.reg [qm 112 12,qc 113 .add 112 1,qm 12 113] [0,5,9,10,12])))))))))
 (.reg [qm 70 9,qc 71 .add 70 1,qm 9 71] [0,5,9]))))))
 (qS [qz 2 true] [2]
 .ret))))))⟩)
theorem n76 : F76.n = 130 := rfl
theorem low76 : lowF Tryz.prog (kpO F76) (assoc []) 76 = some F76 := by kernel_rfl
def F77 : FIR := laid (X := ⟨135, [.tmp 2],
 (qS [qz 2 false] [0]
 (.seq (qS [qk 3 0] [0,3]
 (.block 0 (.loop (.seq (qS [qm 13 3,qm 14 0,qL 15 14,qb 16 .lss 13 15] [0,3,16]
 (qC 16 .skip
 (.exit 0)))
 (.seq (.block 1 (qS [qk 4 0] [0,3,4]
 (.block 2 (.loop (.seq (qS [qm 19 4,qm 20 0,qm 21 3,qi 22 1 20 21,ql 23 22,qL 24 23,qb 25 .lss 19 24] [0,3,4,25]
 (qC 25 .skip
 (.exit 2)))
 (.seq (.block 3 (qD [qm 28 0,qm 29 3,qi 30 1 28 29,ql 31 30,qm 32 4,qm 33 3,qc 34 .mul 33 1000,qm 35 4,qb 36 .add 34 35,qx 37 25 [36],
  qo 38 (.build [(Value.string ⟨#[]⟩), (Value.string ⟨#[]⟩)] [(0, 1, (.tmp 37))]),qi 39 2 31 32,qs 2 39 38] [[0,1,2,3,4,5,6,7,8,9,10,11,12], [0,1,2,4,5,6,7,8,9,3,10,11,12]] [0,3,4]))
 (.reg [qm 26 4,qc 27 .add 26 1,qm 4 27] [0,3,4])))))))
 (.reg [qm 17 3,qc 18 .add 17 1,qm 3 18] [0,3]))))))
 (qS [qo 5 (.mv (.const (Value.slice none 0 0)))] [0,5]
 (.seq (qS [qk 6 0] [0,5,6]
 (.block 4 (.loop (.seq (qS [qm 40 6,qm 41 0,qL 42 41,qb 43 .lss 40 42] [0,5,6,43]
 (qC 43 .skip
 (.exit 4)))
 (.seq (.block 5 (qS [qm 46 0,qm 47 6,qi 48 1 46 47,ql 49 48,qm 7 49] [0,5,6,7]
 (.seq (qS [qk 8 0] [0,5,6,7,8]
 (.block 6 (.loop (.seq (qS [qm 50 8,qc 51 .lss 50 16] [0,5,6,7,8,51]
 (qC 51 .skip
 (.exit 6)))
 (.seq (.block 7 (.reg [qm 54 7,qm 55 6,qo 56 (.bin .sub (.const (Value.int IntKind.i64 (-1))) (.tmp 55)),qc 57 .mul 56 1000,qm 58 8,qb 59 .sub 57 58,
  qx 60 25 [59],qo 61 (.build [(Value.string ⟨#[]⟩), (Value.string ⟨#[]⟩)] [(0, 1, (.tmp 60))]),
  qo 62 (.bslice 62 1 [(Value.string ⟨#[]⟩), (Value.string ⟨#[]⟩)] [(0, 2, (.tmp 61))]),
  qo 63 (.append 62 2 32 [(Value.string ⟨#[]⟩), (Value.string ⟨#[]⟩)] (.tmp 54) (.tmp 62)),qm 7 63] [0,5,6,7,8]))
 (.reg [qm 52 8,qc 53 .add 52 1,qm 8 53] [0,5,6,7,8]))))))
 (.reg [qm 64 5,qm 65 7,qo 66 (.bslice 23 1 [(Value.slice none 0 0)] [(0, 1, (.tmp 65))]),
  qo 67 (.append 23 1 24 [(Value.slice none 0 0)] (.tmp 64) (.tmp 66)),qm 5 67] [0,5,6]))))
 (.reg [qm 44 6,qc 45 .add 44 1,qm 6 45] [0,5,6]))))))
 (.seq (qS [qk 9 0] [0,5,9]
 (.block 8 (.loop (.seq (qS [qm 68 9,qm 69 0,qL 70 69,qb 71 .lss 68 70] [0,5,9,71]
 (qC 71 .skip
 (.exit 8)))
 (.seq (.block 9 (qS [qm 74 0,qm 75 9,qi 76 1 74 75,ql 77 76,qL 78 77,qm 10 78] [0,5,9,10]
 (.seq (qS [qk 11 0] [0,5,9,10,11]
 (.block 10 (.loop (.seq (qS [qm 79 11,qm 80 10,qb 81 .lss 79 80] [0,5,9,10,11,81]
 (qC 81 .skip
 (.exit 10)))
 (.seq (.block 11 (.seq (qD [qm 84 0,qm 85 9,qi 86 1 84 85,ql 87 86,qm 88 11,qi 89 2 87 88,qN 90 2 89,qm 91 9,qc 92 .mul 91 1000,qm 93 11,qb 94 .add 92 93,
  qx 95 25 [94],qo 96 (.build [(Value.string ⟨#[]⟩), (Value.string ⟨#[]⟩)] [(0, 1, (.tmp 95))]),qo 97 (.eqagg true [.str, .str] (.tmp 90) (.tmp 96)),
  qm 98 97,qu 98 (qm 99 5),qu 98 (qm 100 9),qu 98 (qi 101 1 99 100),qu 98 (ql 102 101),qu 98 (qm 103 11),qu 98 (qi 104 2 102 103),qu 98 (qN 105 2 104),
  qu 98 (qm 106 9),qu 98 (qc 107 .mul 106 1000),qu 98 (qm 108 11),qu 98 (qb 109 .add 107 108),qu 98 (qx 110 25 [109]),
  qu 98 (qo 111 (.build [(Value.string ⟨#[]⟩), (Value.string ⟨#[]⟩)] [(0, 1, (.tmp 110))])),
  qu 98 (qo 112 (.eqagg true [.str, .str] (.tmp 105) (.tmp 111))),qr 113 98 112] [[0,1,2,3,4,5,6,7,8,9,10,11,12,13,14,15,16,17,18,19,20,21,22,23,24,25,26,27,28,29], [0,1,2,3,4,5,7,8,9,10,11,6,12,13,14,15,16,17,18,19,20,21,22,23,24,25,26,27,28,29], [0,1,2,4,7,8,9,10,11,3,5,6,12,13,14,15,16,17,18,19,20,21,22,23,24,25,26,27,28,29], [0,1,2,3,4,5,6,7,8,9,10,11,12,13,14,15,16,17,18,19,20,22,23,24,25,26,21,27,28,29], [0,1,2,3,4,5,7,8,9,10,11,6,12,13,14,15,16,17,18,19,20,22,23,24,25,26,21,27,28,29], [0,1,2,4,7,8,9,10,11,3,5,6,12,13,14,15,16,17,18,19,20,22,23,24,25,26,21,27,28,29], [0,1,2,3,4,5,6,7,8,9,10,11,12,13,14,15,16,17,19,22,23,24,25,26,18,20,21,27,28,29], [0,1,2,3,4,5,7,8,9,10,11,6,12,13,14,15,16,17,19,22,23,24,25,26,18,20,21,27,28,29], [0,1,2,4,7,8,9,10,11,3,5,6,12,13,14,15,16,17,19,22,23,24,25,26,18,20,21,27,28,29]] [0,5,9,10,11,113])
 (qC 113 (qS [qz 2 false] [2]
 .ret)
 .skip)))
 (.reg [qm 82 11,qc 83 .add 82 1,qm 11 83] [0,5,9,10,11]))))))
 (qS [qk 12 0] [0,5,9,10,12]
 (.block 12 (.loop (.seq (qS [qm 114 12,qc 115 .lss 114 16] [0,5,9,10,12,115]
 (qC 115 .skip
 (.exit 12)))
 (.seq (.block 13 (.seq (qD [qm 118 5,qm 119 9,qi 120 1 118 119,ql 121 120,qm 122 10,qm 123 12,qb 124 .add 122 123,qi 125 2 121 124,qN 126 2 125,qm 127 9,
  qo 128 (.bin .sub (.const (Value.int IntKind.i64 (-1))) (.tmp 127)),qc 129 .mul 128 1000,qm 130 12,qb 131 .sub 129 130,qx 132 25 [131],
  qo 133 (.build [(Value.string ⟨#[]⟩), (Value.string ⟨#[]⟩)] [(0, 1, (.tmp 132))]),qo 134 (.eqagg true [.str, .str] (.tmp 126) (.tmp 133))] [[0,1,2,3,4,5,6,7,8,9,10,11,12,13,14,15,16], [0,1,2,3,4,5,6,7,9,10,11,12,13,14,8,15,16], [0,1,2,4,5,6,9,10,11,12,13,14,3,7,8,15,16]] [0,5,9,10,12,134])
 (qC 134 (qS [qz 2 false] [2]
 .ret)
 .skip)))
 (.reg [qm 116 12,qc 117 .add 116 1,qm 12 117] [0,5,9,10,12])))))))))
 (.reg [qm 72 9,qc 73 .add 72 1,qm 9 73] [0,5,9]))))))
 (qS [qz 2 true] [2]
 .ret))))))⟩)
theorem n77 : F77.n = 135 := rfl
theorem low77 : lowF Tryz.prog (kpO F77) (assoc [(7,[[0,1,2,3,4,5,6,7,8,9,10,11,12], [0,1,2,4,5,6,7,8,9,3,10,11,12]]), (25,[[0,1,2,3,4,5,6,7,8,9,10,11,12,13,14,15,16,17,18,19,20,21,22,23,24,25,26,27,28,29], [0,1,2,3,4,5,7,8,9,10,11,6,12,13,14,15,16,17,18,19,20,21,22,23,24,25,26,27,28,29], [0,1,2,4,7,8,9,10,11,3,5,6,12,13,14,15,16,17,18,19,20,21,22,23,24,25,26,27,28,29], [0,1,2,3,4,5,6,7,8,9,10,11,12,13,14,15,16,17,18,19,20,22,23,24,25,26,21,27,28,29], [0,1,2,3,4,5,7,8,9,10,11,6,12,13,14,15,16,17,18,19,20,22,23,24,25,26,21,27,28,29], [0,1,2,4,7,8,9,10,11,3,5,6,12,13,14,15,16,17,18,19,20,22,23,24,25,26,21,27,28,29], [0,1,2,3,4,5,6,7,8,9,10,11,12,13,14,15,16,17,19,22,23,24,25,26,18,20,21,27,28,29], [0,1,2,3,4,5,7,8,9,10,11,6,12,13,14,15,16,17,19,22,23,24,25,26,18,20,21,27,28,29], [0,1,2,4,7,8,9,10,11,3,5,6,12,13,14,15,16,17,19,22,23,24,25,26,18,20,21,27,28,29]]), (30,[[0,1,2,3,4,5,6,7,8,9,10,11,12,13,14,15,16], [0,1,2,3,4,5,6,7,9,10,11,12,13,14,8,15,16], [0,1,2,4,5,6,9,10,11,12,13,14,3,7,8,15,16]])]) 77 = some F77 := by kernel_rfl
def F78 : FIR := laid (X := ⟨130, [.tmp 2],
 (qS [qz 2 false] [0]
 (.seq (qS [qk 3 0] [0,3]
 (.block 0 (.loop (.seq (qS [qm 13 3,qm 14 0,qL 15 14,qb 16 .lss 13 15] [0,3,16]
 (qC 16 .skip
 (.exit 0)))
 (.seq (.block 1 (qS [qk 4 0] [0,3,4]
 (.block 2 (.loop (.seq (qS [qm 19 4,qm 20 0,qm 21 3,qi 22 1 20 21,ql 23 22,qL 24 23,qb 25 .lss 19 24] [0,3,4,25]
 (qC 25 .skip
 (.exit 2)))
 (.seq (.block 3 (.reg [qm 28 0,qm 29 3,qi 30 1 28 29,ql 31 30,qm 32 4,qm 33 3,qc 34 .mul 33 1000,qm 35 4,qb 36 .add 34 35,
  qo 37 (.build [(Value.int IntKind.u8 0), (Value.int IntKind.i64 0), (Value.string ⟨#[]⟩)] [(1, 1, (.tmp 36))]),qi 38 3 31 32,qs 3 38 37] [0,3,4]))
 (.reg [qm 26 4,qc 27 .add 26 1,qm 4 27] [0,3,4])))))))
 (.reg [qm 17 3,qc 18 .add 17 1,qm 3 18] [0,3]))))))
 (qS [qo 5 (.mv (.const (Value.slice none 0 0)))] [0,5]
 (.seq (qS [qk 6 0] [0,5,6]
 (.block 4 (.loop (.seq (qS [qm 39 6,qm 40 0,qL 41 40,qb 42 .lss 39 41] [0,5,6,42]
 (qC 42 .skip
 (.exit 4)))
 (.seq (.block 5 (qS [qm 45 0,qm 46 6,qi 47 1 45 46,ql 48 47,qm 7 48] [0,5,6,7]
 (.seq (qS [qk 8 0] [0,5,6,7,8]
 (.block 6 (.loop (.seq (qS [qm 49 8,qc 50 .lss 49 16] [0,5,6,7,8,50]
 (qC 50 .skip
 (.exit 6)))
 (.seq (.block 7 (.reg [qm 53 7,qm 54 6,qo 55 (.bin .sub (.const (Value.int IntKind.i64 (-1))) (.tmp 54)),qc 56 .mul 55 1000,qm 57 8,qb 58 .sub 56 57,
  qo 59 (.build [(Value.int IntKind.u8 0), (Value.int IntKind.i64 0), (Value.string ⟨#[]⟩)] [(1, 1, (.tmp 58))]),
  qo 60 (.bslice 70 1 [(Value.int IntKind.u8 0), (Value.int IntKind.i64 0), (Value.string ⟨#[]⟩)] [(0, 3, (.tmp 59))]),
  qo 61 (.append 70 3 32 [(Value.int IntKind.u8 0), (Value.int IntKind.i64 0), (Value.string ⟨#[]⟩)] (.tmp 53) (.tmp 60)),qm 7 61] [0,5,6,7,8]))
 (.reg [qm 51 8,qc 52 .add 51 1,qm 8 52] [0,5,6,7,8]))))))
 (.reg [qm 62 5,qm 63 7,qo 64 (.bslice 22 1 [(Value.slice none 0 0)] [(0, 1, (.tmp 63))]),
  qo 65 (.append 22 1 24 [(Value.slice none 0 0)] (.tmp 62) (.tmp 64)),qm 5 65] [0,5,6]))))
 (.reg [qm 43 6,qc 44 .add 43 1,qm 6 44] [0,5,6]))))))
 (.seq (qS [qk 9 0] [0,5,9]
 (.block 8 (.loop (.seq (qS [qm 66 9,qm 67 0,qL 68 67,qb 69 .lss 66 68] [0,5,9,69]
 (qC 69 .skip
 (.exit 8)))
 (.seq (.block 9 (qS [qm 72 0,qm 73 9,qi 74 1 72 73,ql 75 74,qL 76 75,qm 10 76] [0,5,9,10]
 (.seq (qS [qk 11 0] [0,5,9,10,11]
 (.block 10 (.loop (.seq (qS [qm 77 11,qm 78 10,qb 79 .lss 77 78] [0,5,9,10,11,79]
 (qC 79 .skip
 (.exit 10)))
 (.seq (.block 11 (qS [qm 82 0,qm 83 9,qi 84 1 82 83,ql 85 84,qm 86 11,qi 87 3 85 86,qN 88 3 87,qm 89 9,qc 90 .mul 89 1000,qm 91 11,qb 92 .add 90 91,
  qo 93 (.build [(Value.int IntKind.u8 0), (Value.int IntKind.i64 0), (Value.string ⟨#[]⟩)] [(1, 1, (.tmp 92))]),
  qo 94 (.eqagg true [.int, .int, .str] (.tmp 88) (.tmp 93)),qm 95 94,qu 95 (qm 96 5),qu 95 (qm 97 9),qu 95 (qi 98 1 96 97),qu 95 (ql 99 98),
  qu 95 (qm 100 11),qu 95 (qi 101 3 99 100),qu 95 (qN 102 3 101),qu 95 (qm 103 9),qu 95 (qc 104 .mul 103 1000),qu 95 (qm 105 11),
  qu 95 (qb 106 .add 104 105),qu 95 (qo 107 (.build [(Value.int IntKind.u8 0), (Value.int IntKind.i64 0), (Value.string ⟨#[]⟩)] [(1, 1, (.tmp 106))])),
  qu 95 (qo 108 (.eqagg true [.int, .int, .str] (.tmp 102) (.tmp 107))),qr 109 95 108] [0,5,9,10,11,109]
 (qC 109 (qS [qz 2 false] [2]
 .ret)
 .skip)))
 (.reg [qm 80 11,qc 81 .add 80 1,qm 11 81] [0,5,9,10,11]))))))
 (qS [qk 12 0] [0,5,9,10,12]
 (.block 12 (.loop (.seq (qS [qm 110 12,qc 111 .lss 110 16] [0,5,9,10,12,111]
 (qC 111 .skip
 (.exit 12)))
 (.seq (.block 13 (qS [qm 114 5,qm 115 9,qi 116 1 114 115,ql 117 116,qm 118 10,qm 119 12,qb 120 .add 118 119,qi 121 3 117 120,qN 122 3 121,qm 123 9,
  qo 124 (.bin .sub (.const (Value.int IntKind.i64 (-1))) (.tmp 123)),qc 125 .mul 124 1000,qm 126 12,qb 127 .sub 125 126,
  qo 128 (.build [(Value.int IntKind.u8 0), (Value.int IntKind.i64 0), (Value.string ⟨#[]⟩)] [(1, 1, (.tmp 127))]),
  qo 129 (.eqagg true [.int, .int, .str] (.tmp 122) (.tmp 128))] [0,5,9,10,12,129]
 (qC 129 (qS [qz 2 false] [2]
 .ret)
 .skip)))
 (.reg [qm 112 12,qc 113 .add 112 1,qm 12 113] [0,5,9,10,12])))))))))
 (.reg [qm 70 9,qc 71 .add 70 1,qm 9 71] [0,5,9]))))))
 (qS [qz 2 true] [2]
 .ret))))))⟩)
theorem n78 : F78.n = 130 := rfl
theorem low78 : lowF Tryz.prog (kpO F78) (assoc []) 78 = some F78 := by kernel_rfl
def F79 : FIR := laid (X := ⟨130, [.tmp 2],
 (qS [qz 2 false] [0]
 (.seq (qS [qk 3 0] [0,3]
 (.block 0 (.loop (.seq (qS [qm 13 3,qm 14 0,qL 15 14,qb 16 .lss 13 15] [0,3,16]
 (qC 16 .skip
 (.exit 0)))
 (.seq (.block 1 (qS [qk 4 0] [0,3,4]
 (.block 2 (.loop (.seq (qS [qm 19 4,qm 20 0,qm 21 3,qi 22 1 20 21,ql 23 22,qL 24 23,qb 25 .lss 19 24] [0,3,4,25]
 (qC 25 .skip
 (.exit 2)))
 (.seq (.block 3 (qD [qm 28 0,qm 29 3,qi 30 1 28 29,ql 31 30,qm 32 4,qm 33 3,qc 34 .mul 33 1000,qm 35 4,qb 36 .add 34 35,qx 37 25 [36],qi 38 1 31 32,
  qs 1 38 37] [[0,1,2,3,4,5,6,7,8,9,10,11], [0,1,2,4,5,6,7,8,9,3,10,11]] [0,3,4]))
 (.reg [qm 26 4,qc 27 .add 26 1,qm 4 27] [0,3,4])))))))
 (.reg [qm 17 3,qc 18 .add 17 1,qm 3 18] [0,3]))))))
 (qS [qo 5 (.mv (.const (Value.slice none 0 0)))] [0,5]
 (.seq (qS [qk 6 0] [0,5,6]
 (.block 4 (.loop (.seq (qS [qm 39 6,qm 40 0,qL 41 40,qb 42 .lss 39 41] [0,5,6,42]
 (qC 42 .skip
 (.exit 4)))
 (.seq (.block 5 (qS [qm 45 0,qm 46 6,qi 47 1 45 46,ql 48 47,qm 7 48] [0,5,6,7]
 (.seq (qS [qk 8 0] [0,5,6,7,8]
 (.block 6 (.loop (.seq (qS [qm 49 8,qc 50 .lss 49 16] [0,5,6,7,8,50]
 (qC 50 .skip
 (.exit 6)))
 (.seq (.block 7 (.reg [qm 53 7,qm 54 6,qo 55 (.bin .sub (.const (Value.int IntKind.i64 (-1))) (.tmp 54)),qc 56 .mul 55 1000,qm 57 8,qb 58 .sub 56 57,
  qx 59 25 [58],qo 60 (.bslice 9 1 [(Value.string ⟨#[]⟩)] [(0, 1, (.tmp 59))]),qo 61 (.append 9 1 16 [(Value.string ⟨#[]⟩)] (.tmp 53) (.tmp 60)),qm 7 61] [0,5,6,7,8]))
 (.reg [qm 51 8,qc 52 .add 51 1,qm 8 52] [0,5,6,7,8]))))))
 (.reg [qm 62 5,qm 63 7,qo 64 (.bslice 111 1 [(Value.slice none 0 0)] [(0, 1, (.tmp 63))]),
  qo 65 (.append 111 1 24 [(Value.slice none 0 0)] (.tmp 62) (.tmp 64)),qm 5 65] [0,5,6]))))
 (.reg [qm 43 6,qc 44 .add 43 1,qm 6 44] [0,5,6]))))))
 (.seq (qS [qk 9 0] [0,5,9]
 (.block 8 (.loop (.seq (qS [qm 66 9,qm 67 0,qL 68 67,qb 69 .lss 66 68] [0,5,9,69]
 (qC 69 .skip
 (.exit 8)))
 (.seq (.block 9 (qS [qm 72 0,qm 73 9,qi 74 1 72 73,ql 75 74,qL 76 75,qm 10 76] [0,5,9,10]
 (.seq (qS [qk 11 0] [0,5,9,10,11]
 (.block 10 (.loop (.seq (qS [qm 77 11,qm 78 10,qb 79 .lss 77 78] [0,5,9,10,11,79]
 (qC 79 .skip
 (.exit 10)))
 (.seq (.block 11 (.seq (qD [qm 82 0,qm 83 9,qi 84 1 82 83,ql 85 84,qm 86 11,qi 87 1 85 86,ql 88 87,qm 89 9,qc 90 .mul 89 1000,qm 91 11,qb 92 .add 90 91,
  qx 93 25 [92],qb 94 .neq 88 93,qm 95 94,qu 95 (qm 96 5),qu 95 (qm 97 9),qu 95 (qi 98 1 96 97),qu 95 (ql 99 98),qu 95 (qm 100 11),
  qu 95 (qi 101 1 99 100),qu 95 (ql 102 101),qu 95 (qm 103 9),qu 95 (qc 104 .mul 103 1000),qu 95 (qm 105 11),qu 95 (qb 106 .add 104 105),
  qu 95 (qx 107 25 [106]),qu 95 (qb 108 .neq 102 107),qr 109 95 108] [[0,1,2,3,4,5,6,7,8,9,10,11,12,13,14,15,16,17,18,19,20,21,22,23,24,25,26,27], [0,1,2,3,4,5,7,8,9,10,11,6,12,13,14,15,16,17,18,19,20,21,22,23,24,25,26,27], [0,1,2,4,7,8,9,10,11,3,5,6,12,13,14,15,16,17,18,19,20,21,22,23,24,25,26,27], [0,1,2,3,4,5,6,7,8,9,10,11,12,13,14,15,16,17,18,19,21,22,23,24,25,20,26,27], [0,1,2,3,4,5,7,8,9,10,11,6,12,13,14,15,16,17,18,19,21,22,23,24,25,20,26,27], [0,1,2,4,7,8,9,10,11,3,5,6,12,13,14,15,16,17,18,19,21,22,23,24,25,20,26,27], [0,1,2,3,4,5,6,7,8,9,10,11,12,13,14,15,16,18,21,22,23,24,25,17,19,20,26,27], [0,1,2,3,4,5,7,8,9,10,11,6,12,13,14,15,16,18,21,22,23,24,25,17,19,20,26,27], [0,1,2,4,7,8,9,10,11,3,5,6,12,13,14,15,16,18,21,22,23,24,25,17,19,20,26,27]] [0,5,9,10,11,109])
 (qC 109 (qS [qz 2 false] [2]
 .ret)
 .skip)))
 (.reg [qm 80 11,qc 81 .add 80 1,qm 11 81] [0,5,9,10,11]))))))
 (qS [qk 12 0] [0,5,9,10,12]
 (.block 12 (.loop (.seq (qS [qm 110 12,qc 111 .lss 110 16] [0,5,9,10,12,111]
 (qC 111 .skip
 (.exit 12)))
 (.seq (.block 13 (.seq (qD [qm 114 5,qm 115 9,qi 116 1 114 115,ql 117 116,qm 118 10,qm 119 12,qb 120 .add 118 119,qi 121 1 117 120,ql 122 121,qm 123 9,
  qo 124 (.bin .sub (.const (Value.int IntKind.i64 (-1))) (.tmp 123)),qc 125 .mul 124 1000,qm 126 12,qb 127 .sub 125 126,qx 128 25 [127],
  qb 129 .neq 122 128] [[0,1,2,3,4,5,6,7,8,9,10,11,12,13,14,15], [0,1,2,3,4,5,6,7,9,10,11,12,13,14,8,15], [0,1,2,4,5,6,9,10,11,12,13,14,3,7,8,15]] [0,5,9,10,12,129])
 (qC 129 (qS [qz 2 false] [2]
 .ret)
 .skip)))
 (.reg [qm 112 12,qc 113 .add 112 1,qm 12 113] [0,5,9,10,12])))))))))
 (.reg [qm 70 9,qc 71 .add 70 1,qm 9 71] [0,5,9]))))))
 (qS [qz 2 true] [2]
 .ret))))))⟩)
theorem n79 : F79.n = 130 := rfl
theorem low79 : lowF Tryz.prog (kpO F79) (assoc [(7,[[0,1,2,3,4,5,6,7,8,9,10,11], [0,1,2,4,5,6,7,8,9,3,10,11]]), (25,[[0,1,2,3,4,5,6,7,8,9,10,11,12,13,14,15,16,17,18,19,20,21,22,23,24,25,26,27], [0,1,2,3,4,5,7,8,9,10,11,6,12,13,14,15,16,17,18,19,20,21,22,23,24,25,26,27], [0,1,2,4,7,8,9,10,11,3,5,6,12,13,14,15,16,17,18,19,20,21,22,23,24,25,26,27], [0,1,2,3,4,5,6,7,8,9,10,11,12,13,14,15,16,17,18,19,21,22,23,24,25,20,26,27], [0,1,2,3,4,5,7,8,9,10,11,6,12,13,14,15,16,17,18,19,21,22,23,24,25,20,26,27], [0,1,2,4,7,8,9,10,11,3,5,6,12,13,14,15,16,17,18,19,21,22,23,24,25,20,26,27], [0,1,2,3,4,5,6,7,8,9,10,11,12,13,14,15,16,18,21,22,23,24,25,17,19,20,26,27], [0,1,2,3,4,5,7,8,9,10,11,6,12,13,14,15,16,18,21,22,23,24,25,17,19,20,26,27], [0,1,2,4,7,8,9,10,11,3,5,6,12,13,14,15,16,18,21,22,23,24,25,17,19,20,26,27]]), (30,[[0,1,2,3,4,5,6,7,8,9,10,11,12,13,14,15], [0,1,2,3,4,5,6,7,9,10,11,12,13,14,8,15], [0,1,2,4,5,6,9,10,11,12,13,14,3,7,8,15]])]) 79 = some F79 := by kernel_rfl
def F80 : FIR := laid (X := ⟨135, [.tmp 2],
 (qS [qz 2 false] [0]
 (.seq (qS [qk 3 0] [0,3]
 (.block 0 (.loop (.seq (qS [qm 13 3,qm 14 0,qL 15 14,qb 16 .lss 13 15] [0,3,16]
 (qC 16 .skip
 (.exit 0)))
 (.seq (.block 1 (qS [qk 4 0] [0,3,4]
 (.block 2 (.loop (.seq (qS [qm 19 4,qm 20 0,qm 21 3,qi 22 1 20 21,ql 23 22,qL 24 23,qb 25 .lss 19 24] [0,3,4,25]
 (qC 25 .skip
 (.exit 2)))
 (.seq (.block 3 (.reg [qm 28 0,qm 29 3,qi 30 1 28 29,ql 31 30,qm 32 4,qm 33 3,qc 34 .mul 33 1000,qm 35 4,qb 36 .add 34 35,qc 37 .add 36 9000000,
  qo 38 (.conv .u32 (.tmp 37)),qi 39 1 31 32,qs 1 39 38] [0,3,4]))
 (.reg [qm 26 4,qc 27 .add 26 1,qm 4 27] [0,3,4])))))))
 (.reg [qm 17 3,qc 18 .add 17 1,qm 3 18] [0,3]))))))
 (qS [qo 5 (.mv (.const (Value.slice none 0 0)))] [0,5]
 (.seq (qS [qk 6 0] [0,5,6]
 (.block 4 (.loop (.seq (qS [qm 40 6,qm 41 0,qL 42 41,qb 43 .lss 40 42] [0,5,6,43]
 (qC 43 .skip
 (.exit 4)))
 (.seq (.block 5 (qS [qm 46 0,qm 47 6,qi 48 1 46 47,ql 49 48,qm 7 49] [0,5,6,7]
 (.seq (qS [qk 8 0] [0,5,6,7,8]
 (.block 6 (.loop (.seq (qS [qm 50 8,qc 51 .lss 50 16] [0,5,6,7,8,51]
 (qC 51 .skip
 (.exit 6)))
 (.seq (.block 7 (.reg [qm 54 7,qm 55 6,qo 56 (.bin .sub (.const (Value.int IntKind.i64 (-1))) (.tmp 55)),qc 57 .mul 56 1000,qm 58 8,qb 59 .sub 57 58,
  qc 60 .add 59 9000000,qo 61 (.conv .u32 (.tmp 60)),qo 62 (.bslice 166 1 [(Value.int IntKind.u32 0)] [(0, 1, (.tmp 61))]),
  qo 63 (.append 166 1 4 [(Value.int IntKind.u32 0)] (.tmp 54) (.tmp 62)),qm 7 63] [0,5,6,7,8]))
 (.reg [qm 52 8,qc 53 .add 52 1,qm 8 53] [0,5,6,7,8]))))))
 (.reg [qm 64 5,qm 65 7,qo 66 (.bslice 165 1 [(Value.slice none 0 0)] [(0, 1, (.tmp 65))]),
  qo 67 (.append 165 1 24 [(Value.slice none 0 0)] (.tmp 64) (.tmp 66)),qm 5 67] [0,5,6]))))
 (.reg [qm 44 6,qc 45 .add 44 1,qm 6 45] [0,5,6]))))))
 (.seq (qS [qk 9 0] [0,5,9]
 (.block 8 (.loop (.seq (qS [qm 68 9,qm 69 0,qL 70 69,qb 71 .lss 68 70] [0,5,9,71]
 (qC 71 .skip
 (.exit 8)))
 (.seq (.block 9 (qS [qm 74 0,qm 75 9,qi 76 1 74 75,ql 77 76,qL 78 77,qm 10 78] [0,5,9,10]
 (.seq (qS [qk 11 0] [0,5,9,10,11]
 (.block 10 (.loop (.seq (qS [qm 79 11,qm 80 10,qb 81 .lss 79 80] [0,5,9,10,11,81]
 (qC 81 .skip
 (.exit 10)))
 (.seq (.block 11 (qS [qm 84 0,qm 85 9,qi 86 1 84 85,ql 87 86,qm 88 11,qi 89 1 87 88,ql 90 89,qm 91 9,qc 92 .mul 91 1000,qm 93 11,qb 94 .add 92 93,
  qc 95 .add 94 9000000,qo 96 (.conv .u32 (.tmp 95)),qb 97 .neq 90 96,qm 98 97,qu 98 (qm 99 5),qu 98 (qm 100 9),qu 98 (qi 101 1 99 100),
  qu 98 (ql 102 101),qu 98 (qm 103 11),qu 98 (qi 104 1 102 103),qu 98 (ql 105 104),qu 98 (qm 106 9),qu 98 (qc 107 .mul 106 1000),qu 98 (qm 108 11),
  qu 98 (qb 109 .add 107 108),qu 98 (qc 110 .add 109 9000000),qu 98 (qo 111 (.conv .u32 (.tmp 110))),qu 98 (qb 112 .neq 105 111),qr 113 98 112] [0,5,9,10,11,113]
 (qC 113 (qS [qz 2 false] [2]
 .ret)
 .skip)))
 (.reg [qm 82 11,qc 83 .add 82 1,qm 11 83] [0,5,9,10,11]))))))
 (qS [qk 12 0] [0,5,9,10,12]
 (.block 12 (.loop (.seq (qS [qm 114 12,qc 115 .lss 114 16] [0,5,9,10,12,115]
 (qC 115 .skip
 (.exit 12)))
 (.seq (.block 13 (qS [qm 118 5,qm 119 9,qi 120 1 118 119,ql 121 120,qm 122 10,qm 123 12,qb 124 .add 122 123,qi 125 1 121 124,ql 126 125,qm 127 9,
  qo 128 (.bin .sub (.const (Value.int IntKind.i64 (-1))) (.tmp 127)),qc 129 .mul 128 1000,qm 130 12,qb 131 .sub 129 130,qc 132 .add 131 9000000,
  qo 133 (.conv .u32 (.tmp 132)),qb 134 .neq 126 133] [0,5,9,10,12,134]
 (qC 134 (qS [qz 2 false] [2]
 .ret)
 .skip)))
 (.reg [qm 116 12,qc 117 .add 116 1,qm 12 117] [0,5,9,10,12])))))))))
 (.reg [qm 72 9,qc 73 .add 72 1,qm 9 73] [0,5,9]))))))
 (qS [qz 2 true] [2]
 .ret))))))⟩)
theorem n80 : F80.n = 135 := rfl
theorem low80 : lowF Tryz.prog (kpO F80) (assoc []) 80 = some F80 := by kernel_rfl
def F25 : FIR := laid (X := ⟨24, [.tmp 2],
 (qS [qo 2 (.mv (.const (Value.string ⟨#[]⟩)))] [0]
 (.seq (qS [qm 4 0,qc 5 .lss 4 0] [0,5]
 (qC 5 (qS [qm 6 0,qo 7 (.un .neg (.tmp 6)),qx 8 25 [7],qo 9 (.bin .add (.const (Value.string ⟨#[45]⟩)) (.tmp 8)),qm 2 9] [2]
 .ret)
 .skip))
 (qS [qm 10 0,qc 11 .rem 10 26,qo 12 (.bin .add (.const (Value.int IntKind.i64 97)) (.tmp 11)),qo 13 (.conv .u8 (.tmp 12)),
  qo 14 (.bslice 5 1 [(Value.int IntKind.u8 0)] [(0, 1, (.tmp 13))]),qo 15 (.b2s (.tmp 14)),qm 3 15] [0,3]
 (.seq (qS [qm 16 0,qc 17 .geq 16 26] [0,3,17]
 (qC 17 (qS [qm 18 0,qc 19 .quo 18 26,qx 20 25 [19],qm 21 3,qb 22 .add 20 21,qm 2 22] [2]
 .ret)
 .skip))
 (qS [qm 23 3,qm 2 23] [2]
 .ret)))))⟩)
theorem n25 : F25.n = 24 := rfl
theorem low25 : lowF Tryz.prog (kpO F25) (assoc []) 25 = some F25 := by kernel_rfl
end Go.Proofs.YtgindbomnbojeaaGreat

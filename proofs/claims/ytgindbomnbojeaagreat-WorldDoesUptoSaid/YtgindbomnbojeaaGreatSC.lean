/-
  The code of functions, as terms: printed by a program, proved to be what the seat has.
-/
import Derived.Test.YtgindbomnbojeaaGreatV13
import Derived.Test.YtgindbomnbojeaaGreatV14
import Derived.KernelRfl
import Derived.Test.YtgindbomnbojeaaGreatProg
set_option linter.unusedSimpArgs false
set_option linter.unusedVariables false
namespace Go.Proofs.YtgindbomnbojeaaGreat
open Go Go.V
set_option maxRecDepth 100000
def F141 : FIR := laid (X := ⟨6, [.tmp 2],
 (qS [qz 2 false] [0]
 (qS [qm 3 0,qm 4 0,qb 5 .neq 3 4,qm 2 5] [2]
 .ret))⟩)
theorem n141 : F141.n = 6 := rfl
theorem low141 : lowF Tryz.prog (kpO F141) (assoc []) 141 = some F141 := by kernel_rfl
def F129 : FIR := laid (X := ⟨17, [.tmp 4],
 (qS [qz 4 false] [0,1]
 (qS [qm 5 0,qx 6 141 [5],qm 7 6,qt 7 (qm 8 1),qt 7 (qx 9 141 [8]),qt 7 (qo 10 (.un .not (.tmp 9))),qa 11 7 10,qm 12 11,qu 12 (qm 13 0),
  qu 12 (qm 14 1),qu 12 (qb 15 .lss 13 14),qr 16 12 15,qm 4 16] [4]
 .ret))⟩)
theorem n129 : F129.n = 17 := rfl
theorem low129 : lowF Tryz.prog (kpO F129) (assoc []) 129 = some F129 := by kernel_rfl
def F123 : FIR := laid (X := ⟨49, [],
 (qS [qm 8 1,qc 9 .add 8 1,qm 6 9] [0,1,2,6]
 (.block 0 (.loop (.seq (qS [qm 10 6,qm 11 2,qb 12 .lss 10 11] [0,1,2,6,12]
 (qC 12 .skip
 (.exit 0)))
 (.seq (.block 1 (qS [qm 15 6,qm 7 15] [0,1,2,6,7]
 (.block 2 (.loop (.seq (.seq (qD [qm 16 7,qm 17 1,qb 18 .gtr 16 17,qm 19 18,qt 19 (qm 20 0),qt 19 (qm 21 7),qt 19 (qi 22 1 20 21),qt 19 (ql 23 22),qt 19 (qm 24 0),
  qt 19 (qm 25 7),qt 19 (qc 26 .sub 25 1),qt 19 (qi 27 1 24 26),qt 19 (ql 28 27),qt 19 (qx 29 129 [23,28]),qa 30 19 29] [[0,1,2,3,4,5,6,7,8,9,10,11,12,13,14]] [0,1,2,6,7,30])
 (qC 30 .skip
 (.exit 2)))
 (.seq (.block 3 (qD [qm 33 0,qm 34 7,qm 35 0,qm 36 7,qc 37 .sub 36 1,qm 38 0,qm 39 7,qc 40 .sub 39 1,qi 41 1 38 40,ql 42 41,qm 43 0,qm 44 7,
  qi 45 1 43 44,ql 46 45,qi 47 1 33 34,qs 1 47 42,qi 48 1 35 37,qs 1 48 46] [[0,1,2,3,4,5,6,7,8,9,10,11,12,13,14,15,16,17]] [0,1,2,6,7]))
 (.reg [qm 31 7,qc 32 .sub 31 1,qm 7 32] [0,1,2,6,7])))))))
 (.reg [qm 13 6,qc 14 .add 13 1,qm 6 14] [0,1,2,6]))))))⟩)
theorem n123 : F123.n = 49 := rfl
theorem low123 : lowF Tryz.prog (kpO F123) (assoc [(4,[[0,1,2,3,4,5,6,7,8,9,10,11,12,13,14]]), (6,[[0,1,2,3,4,5,6,7,8,9,10,11,12,13,14,15,16,17]])]) 123 = some F123 := by kernel_rfl
def F136 : FIR := laid (X := ⟨76, [],
 (qS [qm 10 1,qm 8 10] [0,2,3,8]
 (.block 0 (.loop (.block 1 (qS [qm 11 8,qo 12 (.bin .mul (.const (Value.int IntKind.i64 2)) (.tmp 11)),qc 13 .add 12 1,qm 9 13] [0,2,3,8,9]
 (.seq (qS [qm 14 9,qm 15 2,qb 16 .geq 14 15] [0,2,3,8,9,16]
 (qC 16 (.exit 0)
 .skip))
 (.seq (.seq (qD [qm 17 9,qc 18 .add 17 1,qm 19 2,qb 20 .lss 18 19,qm 21 20,qt 21 (qm 22 0),qt 21 (qm 23 3),qt 21 (qm 24 9),qt 21 (qb 25 .add 23 24),
  qt 21 (qi 26 1 22 25),qt 21 (ql 27 26),qt 21 (qm 28 0),qt 21 (qm 29 3),qt 21 (qm 30 9),qt 21 (qb 31 .add 29 30),qt 21 (qc 32 .add 31 1),
  qt 21 (qi 33 1 28 32),qt 21 (ql 34 33),qt 21 (qx 35 129 [27,34]),qa 36 21 35] [[0,1,2,3,4,5,6,7,8,9,10,11,12,13,14,15,16,17,18,19]] [0,2,3,8,9,36])
 (qC 36 (.reg [qm 37 9,qc 38 .add 37 1,qm 9 38] [0,2,3,8,9])
 .skip))
 (.seq (.seq (qD [qm 39 0,qm 40 3,qm 41 8,qb 42 .add 40 41,qi 43 1 39 42,ql 44 43,qm 45 0,qm 46 3,qm 47 9,qb 48 .add 46 47,qi 49 1 45 48,ql 50 49,
  qx 51 129 [44,50],qo 52 (.un .not (.tmp 51))] [[0,1,2,3,4,5,6,7,8,9,10,11,12,13]] [0,2,3,8,9,52])
 (qC 52 .ret
 .skip))
 (.seq (qD [qm 53 0,qm 54 3,qm 55 8,qb 56 .add 54 55,qm 57 0,qm 58 3,qm 59 9,qb 60 .add 58 59,qm 61 0,qm 62 3,qm 63 9,qb 64 .add 62 63,
  qi 65 1 61 64,ql 66 65,qm 67 0,qm 68 3,qm 69 8,qb 70 .add 68 69,qi 71 1 67 70,ql 72 71,qi 73 1 53 56,qs 1 73 66,qi 74 1 57 60,qs 1 74 72] [[0,1,2,3,4,5,6,7,8,9,10,11,12,13,14,15,16,17,18,19,20,21,22,23]] [0,2,3,9])
 (.reg [qm 75 9,qm 8 75] [0,2,3,8]))))))))))⟩)
theorem n136 : F136.n = 76 := rfl
theorem low136 : lowF Tryz.prog (kpO F136) (assoc [(3,[[0,1,2,3,4,5,6,7,8,9,10,11,12,13,14,15,16,17,18,19]]), (5,[[0,1,2,3,4,5,6,7,8,9,10,11,12,13]]), (6,[[0,1,2,3,4,5,6,7,8,9,10,11,12,13,14,15,16,17,18,19,20,21,22,23]])]) 136 = some F136 := by kernel_rfl
def F124 : FIR := laid (X := ⟨56, [],
 (qS [qm 11 1,qm 6 11] [0,1,2,6]
 (qS [qk 7 0] [0,1,2,6,7]
 (qS [qm 12 2,qm 13 1,qb 14 .sub 12 13,qm 8 14] [0,6,7,8]
 (.seq (qS [qm 15 8,qc 16 .sub 15 1,qc 17 .quo 16 2,qm 9 17] [0,6,7,8,9]
 (.block 0 (.loop (.seq (qS [qm 18 9,qc 19 .geq 18 0] [0,6,7,8,9,19]
 (qC 19 .skip
 (.exit 0)))
 (.seq (.block 1 (.reg [qm 22 0,qm 23 9,qm 24 8,qm 25 6,qx 26 136 [22,23,24,25]] [0,6,7,8,9]))
 (.reg [qm 20 9,qc 21 .sub 20 1,qm 9 21] [0,6,7,8,9]))))))
 (qS [qm 27 8,qc 28 .sub 27 1,qm 10 28] [0,6,7,10]
 (.block 2 (.loop (.seq (qS [qm 29 10,qc 30 .geq 29 0] [0,6,7,10,30]
 (qC 30 .skip
 (.exit 2)))
 (.seq (.block 3 (.seq (qD [qm 33 0,qm 34 6,qm 35 0,qm 36 6,qm 37 10,qb 38 .add 36 37,qm 39 0,qm 40 6,qm 41 10,qb 42 .add 40 41,qi 43 1 39 42,ql 44 43,qm 45 0,
  qm 46 6,qi 47 1 45 46,ql 48 47,qi 49 1 33 34,qs 1 49 44,qi 50 1 35 38,qs 1 50 48] [[0,1,2,3,4,5,6,7,8,9,10,11,12,13,14,15,16,17,18,19]] [0,6,7,10])
 (.reg [qm 51 0,qm 52 7,qm 53 10,qm 54 6,qx 55 136 [51,52,53,54]] [0,6,7,10])))
 (.reg [qm 31 10,qc 32 .sub 31 1,qm 10 32] [0,6,7,10]))))))))))⟩)
theorem n124 : F124.n = 56 := rfl
theorem low124 : lowF Tryz.prog (kpO F124) (assoc [(10,[[0,1,2,3,4,5,6,7,8,9,10,11,12,13,14,15,16,17,18,19]])]) 124 = some F124 := by kernel_rfl
def F127 : FIR := laid (X := ⟨32, [],
 (qS [qm 8 1,qm 6 8] [0,2,6]
 (qS [qm 9 2,qc 10 .sub 9 1,qm 7 10] [0,6,7]
 (.block 0 (.loop (.seq (qS [qm 11 6,qm 12 7,qb 13 .lss 11 12] [0,6,7,13]
 (qC 13 .skip
 (.exit 0)))
 (.block 1 (.seq (qD [qm 14 0,qm 15 6,qm 16 0,qm 17 7,qm 18 0,qm 19 7,qi 20 1 18 19,ql 21 20,qm 22 0,qm 23 6,qi 24 1 22 23,ql 25 24,qi 26 1 14 15,
  qs 1 26 21,qi 27 1 16 17,qs 1 27 25] [[0,1,2,3,4,5,6,7,8,9,10,11,12,13,14,15]] [0,6,7])
 (qS [qm 28 6,qc 29 .add 28 1,qm 6 29] [0,6,7]
 (.reg [qm 30 7,qc 31 .sub 30 1,qm 7 31] [0,6,7])))))))))⟩)
theorem n127 : F127.n = 32 := rfl
theorem low127 : lowF Tryz.prog (kpO F127) (assoc [(3,[[0,1,2,3,4,5,6,7,8,9,10,11,12,13,14,15]])]) 127 = some F127 := by kernel_rfl
def F131 : FIR := laid (X := ⟨168, [.tmp 8, .tmp 9],
 (qS [qk 8 0,qz 9 false] [0,1,2,3]
 (.seq (qD [qm 12 0,qm 13 1,qm 14 0,qm 15 3,qm 16 0,qm 17 3,qi 18 1 16 17,ql 19 18,qm 20 0,qm 21 1,qi 22 1 20 21,ql 23 22,qi 24 1 12 13,
  qs 1 24 19,qi 25 1 14 15,qs 1 25 23] [[0,1,2,3,4,5,6,7,8,9,10,11,12,13,14,15]] [0,1,2])
 (qS [qm 26 1,qc 27 .add 26 1,qm 28 2,qc 29 .sub 28 1,qm 10 27,qm 11 29] [0,1,10,11]
 (.seq (.block 0 (.loop (.seq (.seq (qD [qm 30 10,qm 31 11,qb 32 .leq 30 31,qm 33 32,qt 33 (qm 34 0),qt 33 (qm 35 10),qt 33 (qi 36 1 34 35),qt 33 (ql 37 36),qt 33 (qm 38 0),
  qt 33 (qm 39 1),qt 33 (qi 40 1 38 39),qt 33 (ql 41 40),qt 33 (qx 42 129 [37,41]),qa 43 33 42] [[0,1,2,3,4,5,6,7,8,9,10,11,12,13]] [0,1,10,11,43])
 (qC 43 .skip
 (.exit 0)))
 (.block 1 (.reg [qm 44 10,qc 45 .add 44 1,qm 10 45] [0,1,10,11])))))
 (.seq (.block 2 (.loop (.seq (.seq (qD [qm 46 10,qm 47 11,qb 48 .leq 46 47,qm 49 48,qt 49 (qm 50 0),qt 49 (qm 51 11),qt 49 (qi 52 1 50 51),qt 49 (ql 53 52),qt 49 (qm 54 0),
  qt 49 (qm 55 1),qt 49 (qi 56 1 54 55),qt 49 (ql 57 56),qt 49 (qx 58 129 [53,57]),qt 49 (qo 59 (.un .not (.tmp 58))),qa 60 49 59] [[0,1,2,3,4,5,6,7,8,9,10,11,12,13,14]] [0,1,10,11,60])
 (qC 60 .skip
 (.exit 2)))
 (.block 3 (.reg [qm 61 11,qc 62 .sub 61 1,qm 11 62] [0,1,10,11])))))
 (.seq (qS [qm 63 10,qm 64 11,qb 65 .gtr 63 64] [0,1,10,11,65]
 (qC 65 (.seq (qD [qm 66 0,qm 67 11,qm 68 0,qm 69 1,qm 70 0,qm 71 1,qi 72 1 70 71,ql 73 72,qm 74 0,qm 75 11,qi 76 1 74 75,ql 77 76,qi 78 1 66 67,
  qs 1 78 73,qi 79 1 68 69,qs 1 79 77] [[0,1,2,3,4,5,6,7,8,9,10,11,12,13,14,15]] [11])
 (qS [qm 80 11,qm 8 80,qz 9 true] [8,9]
 .ret))
 .skip))
 (.seq (qD [qm 81 0,qm 82 10,qm 83 0,qm 84 11,qm 85 0,qm 86 11,qi 87 1 85 86,ql 88 87,qm 89 0,qm 90 10,qi 91 1 89 90,ql 92 91,qi 93 1 81 82,
  qs 1 93 88,qi 94 1 83 84,qs 1 94 92] [[0,1,2,3,4,5,6,7,8,9,10,11,12,13,14,15]] [0,1,10,11])
 (qS [qm 95 10,qc 96 .add 95 1,qm 10 96] [0,1,10,11]
 (qS [qm 97 11,qc 98 .sub 97 1,qm 11 98] [0,1,10,11]
 (.seq (.block 4 (.loop (.block 5 (.seq (.block 6 (.loop (.seq (.seq (qD [qm 99 10,qm 100 11,qb 101 .leq 99 100,qm 102 101,qt 102 (qm 103 0),qt 102 (qm 104 10),qt 102 (qi 105 1 103 104),qt 102 (ql 106 105),
  qt 102 (qm 107 0),qt 102 (qm 108 1),qt 102 (qi 109 1 107 108),qt 102 (ql 110 109),qt 102 (qx 111 129 [106,110]),qa 112 102 111] [[0,1,2,3,4,5,6,7,8,9,10,11,12,13]] [0,1,10,11,112])
 (qC 112 .skip
 (.exit 6)))
 (.block 7 (.reg [qm 113 10,qc 114 .add 113 1,qm 10 114] [0,1,10,11])))))
 (.seq (.block 8 (.loop (.seq (.seq (qD [qm 115 10,qm 116 11,qb 117 .leq 115 116,qm 118 117,qt 118 (qm 119 0),qt 118 (qm 120 11),qt 118 (qi 121 1 119 120),
  qt 118 (ql 122 121),qt 118 (qm 123 0),qt 118 (qm 124 1),qt 118 (qi 125 1 123 124),qt 118 (ql 126 125),qt 118 (qx 127 129 [122,126]),
  qt 118 (qo 128 (.un .not (.tmp 127))),qa 129 118 128] [[0,1,2,3,4,5,6,7,8,9,10,11,12,13,14]] [0,1,10,11,129])
 (qC 129 .skip
 (.exit 8)))
 (.block 9 (.reg [qm 130 11,qc 131 .sub 130 1,qm 11 131] [0,1,10,11])))))
 (.seq (qS [qm 132 10,qm 133 11,qb 134 .gtr 132 133] [0,1,10,11,134]
 (qC 134 (.exit 4)
 .skip))
 (.seq (qD [qm 135 0,qm 136 10,qm 137 0,qm 138 11,qm 139 0,qm 140 11,qi 141 1 139 140,ql 142 141,qm 143 0,qm 144 10,qi 145 1 143 144,ql 146 145,
  qi 147 1 135 136,qs 1 147 142,qi 148 1 137 138,qs 1 148 146] [[0,1,2,3,4,5,6,7,8,9,10,11,12,13,14,15]] [0,1,10,11])
 (qS [qm 149 10,qc 150 .add 149 1,qm 10 150] [0,1,10,11]
 (.reg [qm 151 11,qc 152 .sub 151 1,qm 11 152] [0,1,10,11])))))))))
 (.seq (qD [qm 153 0,qm 154 11,qm 155 0,qm 156 1,qm 157 0,qm 158 1,qi 159 1 157 158,ql 160 159,qm 161 0,qm 162 11,qi 163 1 161 162,ql 164 163,
  qi 165 1 153 154,qs 1 165 160,qi 166 1 155 156,qs 1 166 164] [[0,1,2,3,4,5,6,7,8,9,10,11,12,13,14,15]] [11])
 (qS [qm 167 11,qm 8 167,qz 9 false] [8,9]
 .ret))))))))))))⟩)
theorem n131 : F131.n = 168 := rfl
theorem low131 : lowF Tryz.prog (kpO F131) (assoc [(1,[[0,1,2,3,4,5,6,7,8,9,10,11,12,13,14,15]]), (3,[[0,1,2,3,4,5,6,7,8,9,10,11,12,13]]), (5,[[0,1,2,3,4,5,6,7,8,9,10,11,12,13,14]]), (8,[[0,1,2,3,4,5,6,7,8,9,10,11,12,13,14,15]]), (10,[[0,1,2,3,4,5,6,7,8,9,10,11,12,13,14,15]]), (13,[[0,1,2,3,4,5,6,7,8,9,10,11,12,13]]), (15,[[0,1,2,3,4,5,6,7,8,9,10,11,12,13,14]]), (18,[[0,1,2,3,4,5,6,7,8,9,10,11,12,13,14,15]]), (21,[[0,1,2,3,4,5,6,7,8,9,10,11,12,13,14,15]])]) 131 = some F131 := by kernel_rfl
def F128 : FIR := laid (X := ⟨133, [.tmp 6],
 (qS [qz 6 false] [0,1,2]
 (qS [qm 11 1,qc 12 .add 11 1,qm 7 12] [0,1,2,7]
 (.seq (qS [qk 8 0] [0,1,2,7,8]
 (.block 0 (.loop (.seq (qS [qm 13 8,qc 14 .lss 13 5] [0,1,2,7,8,14]
 (qC 14 .skip
 (.exit 0)))
 (.seq (.block 1 (.seq (.block 2 (.loop (.seq (.seq (qD [qm 17 7,qm 18 2,qb 19 .lss 17 18,qm 20 19,qt 20 (qm 21 0),qt 20 (qm 22 7),qt 20 (qi 23 1 21 22),qt 20 (ql 24 23),qt 20 (qm 25 0),
  qt 20 (qm 26 7),qt 20 (qc 27 .sub 26 1),qt 20 (qi 28 1 25 27),qt 20 (ql 29 28),qt 20 (qx 30 129 [24,29]),qt 20 (qo 31 (.un .not (.tmp 30))),qa 32 20 31] [[0,1,2,3,4,5,6,7,8,9,10,11,12,13,14,15]] [0,1,2,7,8,32])
 (qC 32 .skip
 (.exit 2)))
 (.block 3 (.reg [qm 33 7,qc 34 .add 33 1,qm 7 34] [0,1,2,7,8])))))
 (.seq (qS [qm 35 7,qm 36 2,qb 37 .eql 35 36] [0,1,2,7,8,37]
 (qC 37 (qS [qz 6 true] [6]
 .ret)
 .skip))
 (.seq (qS [qm 38 2,qm 39 1,qb 40 .sub 38 39,qc 41 .lss 40 50] [0,1,2,7,8,41]
 (qC 41 (qS [qz 6 false] [6]
 .ret)
 .skip))
 (.seq (qD [qm 42 0,qm 43 7,qm 44 0,qm 45 7,qc 46 .sub 45 1,qm 47 0,qm 48 7,qc 49 .sub 48 1,qi 50 1 47 49,ql 51 50,qm 52 0,qm 53 7,
  qi 54 1 52 53,ql 55 54,qi 56 1 42 43,qs 1 56 51,qi 57 1 44 46,qs 1 57 55] [[0,1,2,3,4,5,6,7,8,9,10,11,12,13,14,15,16,17]] [0,1,2,7,8])
 (.seq (qS [qm 58 7,qm 59 1,qb 60 .sub 58 59,qc 61 .geq 60 2] [0,1,2,7,8,61]
 (qC 61 (qS [qm 62 7,qc 63 .sub 62 1,qm 9 63] [0,1,2,7,8,9]
 (.block 4 (.loop (.seq (qS [qm 64 9,qc 65 .geq 64 1] [0,1,2,7,8,9,65]
 (qC 65 .skip
 (.exit 4)))
 (.seq (.block 5 (.seq (.seq (qD [qm 68 0,qm 69 9,qi 70 1 68 69,ql 71 70,qm 72 0,qm 73 9,qc 74 .sub 73 1,qi 75 1 72 74,ql 76 75,qx 77 129 [71,76],
  qo 78 (.un .not (.tmp 77))] [[0,1,2,3,4,5,6,7,8,9,10]] [0,1,2,7,8,9,78])
 (qC 78 (.exit 4)
 .skip))
 (qD [qm 79 0,qm 80 9,qm 81 0,qm 82 9,qc 83 .sub 82 1,qm 84 0,qm 85 9,qc 86 .sub 85 1,qi 87 1 84 86,ql 88 87,qm 89 0,qm 90 9,
  qi 91 1 89 90,ql 92 91,qi 93 1 79 80,qs 1 93 88,qi 94 1 81 83,qs 1 94 92] [[0,1,2,3,4,5,6,7,8,9,10,11,12,13,14,15,16,17]] [0,1,2,7,8,9])))
 (.reg [qm 66 9,qc 67 .sub 66 1,qm 9 67] [0,1,2,7,8,9]))))))
 .skip))
 (qS [qm 95 2,qm 96 7,qb 97 .sub 95 96,qc 98 .geq 97 2] [0,1,2,7,8,98]
 (qC 98 (qS [qm 99 7,qc 100 .add 99 1,qm 10 100] [0,1,2,7,8,10]
 (.block 6 (.loop (.seq (qS [qm 101 10,qm 102 2,qb 103 .lss 101 102] [0,1,2,7,8,10,103]
 (qC 103 .skip
 (.exit 6)))
 (.seq (.block 7 (.seq (.seq (qD [qm 106 0,qm 107 10,qi 108 1 106 107,ql 109 108,qm 110 0,qm 111 10,qc 112 .sub 111 1,qi 113 1 110 112,ql 114 113,
  qx 115 129 [109,114],qo 116 (.un .not (.tmp 115))] [[0,1,2,3,4,5,6,7,8,9,10]] [0,1,2,7,8,10,116])
 (qC 116 (.exit 6)
 .skip))
 (qD [qm 117 0,qm 118 10,qm 119 0,qm 120 10,qc 121 .sub 120 1,qm 122 0,qm 123 10,qc 124 .sub 123 1,qi 125 1 122 124,ql 126 125,qm 127 0,
  qm 128 10,qi 129 1 127 128,ql 130 129,qi 131 1 117 118,qs 1 131 126,qi 132 1 119 121,qs 1 132 130] [[0,1,2,3,4,5,6,7,8,9,10,11,12,13,14,15,16,17]] [0,1,2,7,8,10])))
 (.reg [qm 104 10,qc 105 .add 104 1,qm 10 105] [0,1,2,7,8,10]))))))
 .skip))))))))
 (.reg [qm 15 8,qc 16 .add 15 1,qm 8 16] [0,1,2,7,8]))))))
 (qS [qz 6 false] [6]
 .ret))))⟩)
theorem n128 : F128.n = 133 := rfl
theorem low128 : lowF Tryz.prog (kpO F128) (assoc [(5,[[0,1,2,3,4,5,6,7,8,9,10,11,12,13,14,15]]), (11,[[0,1,2,3,4,5,6,7,8,9,10,11,12,13,14,15,16,17]]), (16,[[0,1,2,3,4,5,6,7,8,9,10]]), (17,[[0,1,2,3,4,5,6,7,8,9,10,11,12,13,14,15,16,17]]), (22,[[0,1,2,3,4,5,6,7,8,9,10]]), (23,[[0,1,2,3,4,5,6,7,8,9,10,11,12,13,14,15,16,17]])]) 128 = some F128 := by kernel_rfl
def F151 : FIR := laid (X := ⟨28, [.tmp 8, .tmp 9],
 (qS [qk 8 0,qk 9 0] [0,1,2,3]
 (.seq (.seq (qD [qm 10 0,qm 11 2,qi 12 1 10 11,ql 13 12,qm 14 0,qm 15 1,qi 16 1 14 15,ql 17 16,qx 18 129 [13,17]] [[0,1,2,3,4,5,6,7,8]] [1,2,3,18])
 (qC 18 (qS [qm 19 3,qn 20 19,ql 21 20,qc 22 .add 21 1,qn 23 19,qs 1 23 22] [1,2]
 (qS [qm 24 2,qm 25 1,qm 8 24,qm 9 25] [8,9]
 .ret))
 .skip))
 (qS [qm 26 1,qm 27 2,qm 8 26,qm 9 27] [8,9]
 .ret)))⟩)
theorem n151 : F151.n = 28 := rfl
theorem low151 : lowF Tryz.prog (kpO F151) (assoc [(1,[[0,1,2,3,4,5,6,7,8]])]) 151 = some F151 := by kernel_rfl
def F140 : FIR := laid (X := ⟨36, [.tmp 10],
 (qS [qk 10 0] [0,1,2,3,4]
 (qS [qm 12 0,qm 13 1,qm 14 2,qm 15 4,qx 16 151 [12,13,14,15],qm 11 16,qe 17 11 0,qe 18 11 1,qm 1 17,qm 2 18] [0,1,2,3,4]
 (qS [qm 20 0,qm 21 2,qm 22 3,qm 23 4,qx 24 151 [20,21,22,23],qm 19 24,qe 25 19 0,qe 26 19 1,qm 2 25,qm 3 26] [0,1,2,4]
 (qS [qm 28 0,qm 29 1,qm 30 2,qm 31 4,qx 32 151 [28,29,30,31],qm 27 32,qe 33 27 0,qe 34 27 1,qm 1 33,qm 2 34] [2]
 (qS [qm 35 2,qm 10 35] [10]
 .ret)))))⟩)
theorem n140 : F140.n = 36 := rfl
theorem low140 : lowF Tryz.prog (kpO F140) (assoc []) 140 = some F140 := by kernel_rfl
def F139 : FIR := laid (X := ⟨15, [.tmp 6],
 (qS [qk 6 0] [0,1,2]
 (qS [qm 7 0,qm 8 1,qc 9 .sub 8 1,qm 10 1,qm 11 1,qc 12 .add 11 1,qm 13 2,qx 14 140 [7,9,10,12,13],qm 6 14] [6]
 .ret))⟩)
theorem n139 : F139.n = 15 := rfl
theorem low139 : lowF Tryz.prog (kpO F139) (assoc []) 139 = some F139 := by kernel_rfl
def F126 : FIR := laid (X := ⟨57, [.tmp 6, .tmp 7],
 (qS [qk 6 0,qk 7 0] [0,1,2]
 (qS [qm 13 2,qm 14 1,qb 15 .sub 13 14,qm 8 15] [0,1,8]
 (qS [qo 9 (.alloc 3 [(Value.int IntKind.i64 0)])] [0,1,8,9]
 (qS [qm 16 1,qm 17 8,qc 18 .quo 17 4,qc 19 .mul 18 1,qb 20 .add 16 19,qm 10 20] [0,1,8,9,10]
 (qS [qm 21 1,qm 22 8,qc 23 .quo 22 4,qc 24 .mul 23 2,qb 25 .add 21 24,qm 11 25] [0,1,8,9,10,11]
 (qS [qm 26 1,qm 27 8,qc 28 .quo 27 4,qc 29 .mul 28 3,qb 30 .add 26 29,qm 12 30] [0,8,9,10,11,12]
 (.seq (qS [qm 31 8,qc 32 .geq 31 8] [0,8,9,10,11,12,32]
 (qC 32 (.seq (qS [qm 33 8,qc 34 .geq 33 50] [0,9,10,11,12,34]
 (qC 34 (qS [qm 35 0,qm 36 10,qx 37 139 [35,36,9],qm 10 37] [0,9,10,11,12]
 (qS [qm 38 0,qm 39 11,qx 40 139 [38,39,9],qm 11 40] [0,9,10,11,12]
 (.reg [qm 41 0,qm 42 12,qx 43 139 [41,42,9],qm 12 43] [0,9,10,11,12])))
 .skip))
 (.reg [qm 44 0,qm 45 10,qm 46 11,qm 47 12,qx 48 140 [44,45,46,47,9],qm 11 48] [9,11]))
 .skip))
 (qS [ql 49 9] [11,49]
 (.block 0 (qS [qc 52 .eql 49 0,qm 51 52] [11,49,51]
 (qC 51 (qS [qm 53 11,qm 6 53,qk 7 1] [6,7]
 .ret)
 (qS [qc 55 .eql 49 12,qm 54 55] [11,54]
 (qC 54 (qS [qm 56 11,qm 6 56,qk 7 2] [6,7]
 .ret)
 (qS [qm 50 11,qm 6 50,qk 7 0] [6,7]
 .ret))))))))))))))⟩)
theorem n126 : F126.n = 57 := rfl
theorem low126 : lowF Tryz.prog (assoc [(0, [0,1,2]), (1, [0,1,8]), (2, [0,1,8,9]), (3, [0,1,8,9,10]), (4, [0,1,8,9,10,11]), (5, [0,8,9,10,11,12]), (6, [0,8,9,10,11,12,32]), (7, [0,9,10,11,12,34]), (8, [0,9,10,11,12]), (9, [0,9,10,11,12]), (10, [0,9,10,11,12]), (11, [9,11]), (12, [11,49]), (13, [6,7]), (14, [11,49,51]), (15, [6,7]), (16, [11,54]), (17, [6,7])]) (assoc []) 126 = some F126 := by kernel_rfl
def F125 : FIR := laid (X := ⟨65, [],
 (qS [qm 11 2,qm 12 1,qb 13 .sub 11 12,qm 6 13] [0,1,6]
 (qS [qm 14 6,qc 15 .geq 14 8] [0,1,6,15]
 (qC 15 (qS [qm 16 6,qo 17 (.conv .u64 (.tmp 16)),qo 7 (.alloc 180 [(Value.int IntKind.u64 0)]),qs 1 7 17] [0,1,6,7]
 (qS [qm 18 6,qx 19 137 [18],qm 8 19] [0,1,6,7,8]
 (qS [qm 20 1,qm 21 6,qc 22 .quo 21 4,qc 23 .mul 22 2,qb 24 .add 20 23,qc 25 .sub 24 1,qm 9 25] [0,1,6,7,8,9]
 (.block 0 (.loop (.seq (qS [qm 26 9,qm 27 1,qm 28 6,qc 29 .quo 28 4,qc 30 .mul 29 2,qb 31 .add 27 30,qc 32 .add 31 1,qb 33 .leq 26 32] [0,1,6,7,8,9,33]
 (qC 33 .skip
 (.exit 0)))
 (.seq (.block 1 (qS [qx 36 138 [7],qm 37 8,qo 38 (.bin .sub (.tmp 37) (.const (Value.int IntKind.u64 1))),qb 39 .and 36 38,qo 40 (.conv .i64 (.tmp 39)),
  qm 10 40] [0,1,6,7,8,9,10]
 (.seq (qS [qm 41 10,qm 42 6,qb 43 .geq 41 42] [0,1,6,7,8,9,10,43]
 (qC 43 (.reg [qm 44 10,qm 45 6,qb 46 .sub 44 45,qm 10 46] [0,1,6,7,8,9,10])
 .skip))
 (qD [qm 47 0,qm 48 9,qm 49 0,qm 50 1,qm 51 10,qb 52 .add 50 51,qm 53 0,qm 54 1,qm 55 10,qb 56 .add 54 55,qi 57 1 53 56,ql 58 57,qm 59 0,
  qm 60 9,qi 61 1 59 60,ql 62 61,qi 63 1 47 48,qs 1 63 58,qi 64 1 49 52,qs 1 64 62] [[0,1,2,3,4,5,6,7,8,9,10,11,12,13,14,15,16,17,18,19]] [0,1,6,7,8,9]))))
 (.reg [qm 34 9,qc 35 .add 34 1,qm 9 35] [0,1,6,7,8,9]))))))))
 .skip)))⟩)
theorem n125 : F125.n = 65 := rfl
theorem low125 : lowF Tryz.prog (kpO F125) (assoc [(10,[[0,1,2,3,4,5,6,7,8,9,10,11,12,13,14,15,16,17,18,19]])]) 125 = some F125 := by kernel_rfl
def F113 : FIR := laid (X := ⟨134, [],
 (qS [qz 8 true] [0,1,2,3,8]
 (qS [qz 9 true] [0,1,2,3,8,9]
 (.block 0 (.loop (.block 1 (qS [qm 19 2,qm 20 1,qb 21 .sub 19 20,qm 10 21] [0,1,2,3,8,9,10]
 (.seq (qS [qm 22 10,qc 23 .leq 22 12] [0,1,2,3,8,9,10,23]
 (qC 23 (qS [qm 24 0,qm 25 1,qm 26 2,qx 27 123 [24,25,26]] []
 .ret)
 .skip))
 (.seq (qS [qm 28 3,qc 29 .eql 28 0] [0,1,2,3,8,9,10,29]
 (qC 29 (qS [qm 30 0,qm 31 1,qm 32 2,qx 33 124 [30,31,32]] []
 .ret)
 .skip))
 (.seq (qS [qm 34 8,qo 35 (.un .not (.tmp 34))] [0,1,2,3,8,9,10,35]
 (qC 35 (qS [qm 36 0,qm 37 1,qm 38 2,qx 39 125 [36,37,38]] [0,1,2,3,8,9,10]
 (.reg [qm 40 3,qc 41 .sub 40 1,qm 3 41] [0,1,2,3,8,9,10]))
 .skip))
 (qS [qm 43 0,qm 44 1,qm 45 2,qx 46 126 [43,44,45],qm 42 46,qe 47 42 0,qe 48 42 1,qm 11 47,qm 12 48] [0,1,2,3,8,9,10,11,12]
 (.seq (qS [qm 49 12,qc 50 .eql 49 2] [0,1,2,3,8,9,10,11,12,50]
 (qC 50 (qS [qm 51 0,qm 52 1,qm 53 2,qx 54 127 [51,52,53]] [0,1,2,3,8,9,10,11]
 (qS [qm 55 2,qc 56 .sub 55 1,qm 57 11,qm 58 1,qb 59 .sub 57 58,qb 60 .sub 56 59,qm 11 60] [0,1,2,3,8,9,10,11]
 (.reg [qk 12 1] [0,1,2,3,8,9,10,11,12])))
 .skip))
 (.seq (qS [qm 61 8,qm 62 61,qt 62 (qm 63 9),qa 64 62 63,qm 65 64,qt 65 (qm 66 12),qt 65 (qc 67 .eql 66 1),qa 68 65 67] [0,1,2,3,8,9,10,11,68]
 (qC 68 (qS [qm 69 0,qm 70 1,qm 71 2,qx 72 128 [69,70,71]] [0,1,2,3,8,9,10,11,72]
 (qC 72 .ret
 .skip))
 .skip))
 (.seq (.seq (qD [qm 73 1,qc 74 .gtr 73 0,qm 75 74,qt 75 (qm 76 0),qt 75 (qm 77 1),qt 75 (qc 78 .sub 77 1),qt 75 (qi 79 1 76 78),qt 75 (ql 80 79),
  qt 75 (qm 81 0),qt 75 (qm 82 11),qt 75 (qi 83 1 81 82),qt 75 (ql 84 83),qt 75 (qx 85 129 [80,84]),qt 75 (qo 86 (.un .not (.tmp 85))),qa 87 75 86] [[0,1,2,3,4,5,6,7,8,9,10,11,12,13,14]] [0,1,2,3,8,9,10,11,87])
 (qC 87 (qS [qm 88 0,qm 89 1,qm 90 2,qm 91 11,qx 92 130 [88,89,90,91],qm 13 92] [0,2,3,8,9,13]
 (qS [qm 93 13,qm 1 93] [0,1,2,3,8,9]
 (.exit 1)))
 .skip))
 (qS [qm 95 0,qm 96 1,qm 97 2,qm 98 11,qx 99 131 [95,96,97,98],qm 94 99,qe 100 94 0,qe 101 94 1,qm 14 100,qm 15 101] [0,1,2,3,10,14,15]
 (qS [qm 102 15,qm 9 102] [0,1,2,3,9,10,14]
 (qS [qm 103 14,qm 104 1,qb 105 .sub 103 104,qm 106 2,qm 107 14,qb 108 .sub 106 107,qm 16 105,qm 17 108] [0,1,2,3,9,10,14,16,17]
 (qS [qm 109 10,qc 110 .quo 109 8,qm 18 110] [0,1,2,3,9,14,16,17,18]
 (qS [qm 111 16,qm 112 17,qb 113 .lss 111 112] [0,1,2,3,9,14,16,17,18,113]
 (qC 113 (qS [qm 114 16,qm 115 18,qb 116 .geq 114 115,qm 8 116] [0,1,2,3,8,9,14]
 (qS [qm 117 0,qm 118 1,qm 119 14,qm 120 3,qx 121 113 [117,118,119,120]] [0,2,3,8,9,14]
 (.reg [qm 122 14,qc 123 .add 122 1,qm 1 123] [0,1,2,3,8,9])))
 (qS [qm 124 17,qm 125 18,qb 126 .geq 124 125,qm 8 126] [0,1,2,3,8,9,14]
 (qS [qm 127 0,qm 128 14,qc 129 .add 128 1,qm 130 2,qm 131 3,qx 132 113 [127,129,130,131]] [0,1,3,8,9,14]
 (.reg [qm 133 14,qm 2 133] [0,1,2,3,8,9]))))))))))))))))))))))⟩)
theorem n113 : F113.n = 134 := rfl
theorem low113 : lowF Tryz.prog (kpO F113) (assoc [(17,[[0,1,2,3,4,5,6,7,8,9,10,11,12,13,14]])]) 113 = some F113 := by kernel_rfl
def F62 : FIR := laid (X := ⟨11, [],
 (qS [qm 3 0,qL 4 3,qm 2 4] [0,2]
 (.reg [qm 5 0,qm 6 2,qm 7 2,qo 8 (.conv .u64 (.tmp 7)),qx 9 114 [8],
  qo 10 (.call 113 [(.tmp 5), (.const (Value.int IntKind.i64 0)), (.tmp 6), (.tmp 9)])] []))⟩)
theorem n62 : F62.n = 11 := rfl
theorem low62 : lowF Tryz.prog (kpO F62) (assoc []) 62 = some F62 := by kernel_rfl
end Go.Proofs.YtgindbomnbojeaaGreat

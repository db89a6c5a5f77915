/-
  The code of functions, as terms: printed by a program, proved to be what the seat has.
-/
import Derived.Test.YtgindbomnbojeaaGreatV14
import Derived.KernelRfl
import Derived.Test.YtgindbomnbojeaaGreatProg
set_option linter.unusedSimpArgs false
set_option linter.unusedVariables false
namespace Go.Proofs.YtgindbomnbojeaaGreat
open Go Go.V
set_option maxRecDepth 100000
def F5 : FIR := laid (X := ⟨20, [.tmp 2],
 (qS [qo 2 (.mv (.const (Value.slice none 0 0)))] [0]
 (qS [qm 5 0,qL 6 5,qc 7 .add 6 2,
  qo 8 (.mkslice 70 3 32 [(Value.int IntKind.u8 0), (Value.int IntKind.i64 0), (Value.string ⟨#[]⟩)] (.const (Value.int IntKind.i64 0)) (.tmp 7)),qm 9 0,
  qo 10 (.append 70 3 32 [(Value.int IntKind.u8 0), (Value.int IntKind.i64 0), (Value.string ⟨#[]⟩)] (.tmp 8) (.tmp 9)),qm 3 10] [0,3]
 (qS [qm 11 3,
  qo 12 (.build [(Value.int IntKind.u8 0), (Value.int IntKind.i64 0), (Value.string ⟨#[]⟩)] [(1, 1, (.const (Value.int IntKind.i64 (-771))))]),
  qo 13 (.build [(Value.int IntKind.u8 0), (Value.int IntKind.i64 0), (Value.string ⟨#[]⟩)] [(1, 1, (.const (Value.int IntKind.i64 (-772))))]),
  qo 14 (.bslice 70 2 [(Value.int IntKind.u8 0), (Value.int IntKind.i64 0), (Value.string ⟨#[]⟩)] [(0, 3, (.tmp 12)), (3, 3, (.tmp 13))]),
  qo 15 (.append 70 3 32 [(Value.int IntKind.u8 0), (Value.int IntKind.i64 0), (Value.string ⟨#[]⟩)] (.tmp 11) (.tmp 14)),qm 4 15] [0,4]
 (qS [qm 16 4,qm 17 0,qL 18 17,qo 19 (.slcL 3 (.tmp 16) none (some (.tmp 18)) none),qm 2 19] [2]
 .ret))))⟩)
theorem n5 : F5.n = 20 := rfl
theorem low5 : lowF Tryz.prog (kpO F5) (assoc []) 5 = some F5 := by kernel_rfl
def F6 : FIR := laid (X := ⟨22, [.tmp 2],
 (qS [qo 2 (.mv (.const (Value.slice none 0 0)))] [0]
 (qS [qm 5 0,qL 6 5,qc 7 .add 6 2,
  qo 8 (.mkslice 62 2 32 [(Value.string ⟨#[]⟩), (Value.string ⟨#[]⟩)] (.const (Value.int IntKind.i64 0)) (.tmp 7)),qm 9 0,
  qo 10 (.append 62 2 32 [(Value.string ⟨#[]⟩), (Value.string ⟨#[]⟩)] (.tmp 8) (.tmp 9)),qm 3 10] [0,3]
 (qS [qm 11 3,qo 12 (.call 25 [(.const (Value.int IntKind.i64 (-771)))]),
  qo 13 (.build [(Value.string ⟨#[]⟩), (Value.string ⟨#[]⟩)] [(0, 1, (.tmp 12))]),qo 14 (.call 25 [(.const (Value.int IntKind.i64 (-772)))]),
  qo 15 (.build [(Value.string ⟨#[]⟩), (Value.string ⟨#[]⟩)] [(0, 1, (.tmp 14))]),
  qo 16 (.bslice 62 2 [(Value.string ⟨#[]⟩), (Value.string ⟨#[]⟩)] [(0, 2, (.tmp 13)), (2, 2, (.tmp 15))]),
  qo 17 (.append 62 2 32 [(Value.string ⟨#[]⟩), (Value.string ⟨#[]⟩)] (.tmp 11) (.tmp 16)),qm 4 17] [0,4]
 (qS [qm 18 4,qm 19 0,qL 20 19,qo 21 (.slcL 2 (.tmp 18) none (some (.tmp 20)) none),qm 2 21] [2]
 .ret))))⟩)
theorem n6 : F6.n = 22 := rfl
theorem low6 : lowF Tryz.prog (kpO F6) (assoc []) 6 = some F6 := by kernel_rfl
def F8 : FIR := laid (X := ⟨41, [.tmp 4],
 (qS [qz 4 false] [0,1]
 (.seq (qS [qm 7 0,qo 8 (.cap (.tmp 7)),qm 9 0,qL 10 9,qc 11 .add 10 2,qb 12 .lss 8 11] [0,1,12]
 (qC 12 (qS [qz 4 false] [4]
 .ret)
 .skip))
 (qS [qm 13 0,qm 14 0,qL 15 14,qc 16 .add 15 2,qo 17 (.slcL 3 (.tmp 13) none (some (.tmp 16)) none),qm 5 17] [0,1,5]
 (qS [qm 18 0,qm 19 1,qx 20 28 [18,19],qm 6 20] [0,5,6]
 (qS [qm 21 6,qm 22 21,qt 22 (qm 23 5),qt 22 (qm 24 0),qt 22 (qL 25 24),qt 22 (qi 26 3 23 25),qt 22 (qN 27 3 26),
  qt 22 (qo 28 (.build [(Value.int IntKind.u8 0), (Value.int IntKind.i64 0), (Value.string ⟨#[]⟩)] [(1, 1, (.const (Value.int IntKind.i64 (-771))))])),
  qt 22 (qo 29 (.eqagg false [.int, .int, .str] (.tmp 27) (.tmp 28))),qa 30 22 29,qm 31 30,qt 31 (qm 32 5),qt 31 (qm 33 0),qt 31 (qL 34 33),
  qt 31 (qc 35 .add 34 1),qt 31 (qi 36 3 32 35),qt 31 (qN 37 3 36),
  qt 31 (qo 38 (.build [(Value.int IntKind.u8 0), (Value.int IntKind.i64 0), (Value.string ⟨#[]⟩)] [(1, 1, (.const (Value.int IntKind.i64 (-772))))])),
  qt 31 (qo 39 (.eqagg false [.int, .int, .str] (.tmp 37) (.tmp 38))),qa 40 31 39,qm 4 40] [4]
 .ret)))))⟩)
theorem n8 : F8.n = 41 := rfl
theorem low8 : lowF Tryz.prog (kpO F8) (assoc []) 8 = some F8 := by kernel_rfl
def F9 : FIR := laid (X := ⟨43, [.tmp 4],
 (qS [qz 4 false] [0,1]
 (.seq (qS [qm 7 0,qo 8 (.cap (.tmp 7)),qm 9 0,qL 10 9,qc 11 .add 10 2,qb 12 .lss 8 11] [0,1,12]
 (qC 12 (qS [qz 4 false] [4]
 .ret)
 .skip))
 (qS [qm 13 0,qm 14 0,qL 15 14,qc 16 .add 15 2,qo 17 (.slcL 2 (.tmp 13) none (some (.tmp 16)) none),qm 5 17] [0,1,5]
 (qS [qm 18 0,qm 19 1,qx 20 29 [18,19],qm 6 20] [0,5,6]
 (.seq (qD [qm 21 6,qm 22 21,qt 22 (qm 23 5),qt 22 (qm 24 0),qt 22 (qL 25 24),qt 22 (qi 26 2 23 25),qt 22 (qN 27 2 26),
  qt 22 (qo 28 (.call 25 [(.const (Value.int IntKind.i64 (-771)))])),
  qt 22 (qo 29 (.build [(Value.string ⟨#[]⟩), (Value.string ⟨#[]⟩)] [(0, 1, (.tmp 28))])),qt 22 (qo 30 (.eqagg false [.str, .str] (.tmp 27) (.tmp 29))),
  qa 31 22 30,qm 32 31,qt 32 (qm 33 5),qt 32 (qm 34 0),qt 32 (qL 35 34),qt 32 (qc 36 .add 35 1),qt 32 (qi 37 2 33 36),qt 32 (qN 38 2 37),
  qt 32 (qo 39 (.call 25 [(.const (Value.int IntKind.i64 (-772)))])),
  qt 32 (qo 40 (.build [(Value.string ⟨#[]⟩), (Value.string ⟨#[]⟩)] [(0, 1, (.tmp 39))])),qt 32 (qo 41 (.eqagg false [.str, .str] (.tmp 38) (.tmp 40))),
  qa 42 32 41,qm 4 42] [[0,1,2,3,4,5,6,7,8,9,10,11,12,13,14,15,16,17,18,19,20,21,22], [0,1,2,3,4,5,7,6,8,9,10,11,12,13,14,15,16,17,18,19,20,21,22], [0,1,2,3,4,5,6,7,8,9,10,11,12,13,14,15,16,18,17,19,20,21,22], [0,1,2,3,4,5,7,6,8,9,10,11,12,13,14,15,16,18,17,19,20,21,22]] [4])
 .ret)))))⟩)
theorem n9 : F9.n = 43 := rfl
theorem low9 : lowF Tryz.prog (kpO F9) (assoc [(5,[[0,1,2,3,4,5,6,7,8,9,10,11,12,13,14,15,16,17,18,19,20,21,22], [0,1,2,3,4,5,7,6,8,9,10,11,12,13,14,15,16,17,18,19,20,21,22], [0,1,2,3,4,5,6,7,8,9,10,11,12,13,14,15,16,18,17,19,20,21,22], [0,1,2,3,4,5,7,6,8,9,10,11,12,13,14,15,16,18,17,19,20,21,22]])]) 9 = some F9 := by kernel_rfl
def F11 : FIR := laid (X := ⟨18, [],
 (qS [qm 4 0,qm 5 0,qo 6 (.cap (.tmp 5)),qo 7 (.slcL 3 (.tmp 4) none (some (.tmp 6)) none),qm 2 7] [2]
 (qS [qk 3 0] [2,3]
 (.block 0 (.loop (.seq (qS [qm 8 3,qm 9 2,qL 10 9,qb 11 .lss 8 10] [2,3,11]
 (qC 11 .skip
 (.exit 0)))
 (.seq (.block 1 (.reg [qm 14 2,qm 15 3,
  qo 16 (.build [(Value.int IntKind.u8 0), (Value.int IntKind.i64 0), (Value.string ⟨#[]⟩)] [(1, 1, (.const (Value.int IntKind.i64 (-779))))]),
  qi 17 3 14 15,qs 3 17 16] [2,3]))
 (.reg [qm 12 3,qc 13 .add 12 1,qm 3 13] [2,3])))))))⟩)
theorem n11 : F11.n = 18 := rfl
theorem low11 : lowF Tryz.prog (kpO F11) (assoc []) 11 = some F11 := by kernel_rfl
def F12 : FIR := laid (X := ⟨19, [],
 (qS [qm 4 0,qm 5 0,qo 6 (.cap (.tmp 5)),qo 7 (.slcL 2 (.tmp 4) none (some (.tmp 6)) none),qm 2 7] [2]
 (qS [qk 3 0] [2,3]
 (.block 0 (.loop (.seq (qS [qm 8 3,qm 9 2,qL 10 9,qb 11 .lss 8 10] [2,3,11]
 (qC 11 .skip
 (.exit 0)))
 (.seq (.block 1 (.reg [qm 14 2,qm 15 3,qo 16 (.call 25 [(.const (Value.int IntKind.i64 (-779)))]),
  qo 17 (.build [(Value.string ⟨#[]⟩), (Value.string ⟨#[]⟩)] [(0, 1, (.tmp 16))]),qi 18 2 14 15,qs 2 18 17] [2,3]))
 (.reg [qm 12 3,qc 13 .add 12 1,qm 3 13] [2,3])))))))⟩)
theorem n12 : F12.n = 19 := rfl
theorem low12 : lowF Tryz.prog (kpO F12) (assoc []) 12 = some F12 := by kernel_rfl
def F68 : FIR := laid (X := ⟨14, [],
 (.reg [qm 4 0,qm 5 0,qn 6 5,qf 7 3 6,ql 8 7,qm 9 1,qo 10 (.bslice 58 1 [(Value.slice none 0 0)] [(0, 1, (.tmp 9))]),
  qo 11 (.append 58 1 24 [(Value.slice none 0 0)] (.tmp 8) (.tmp 10)),qn 12 4,qf 13 3 12,qs 1 13 11] [])⟩)
theorem n68 : F68.n = 14 := rfl
theorem low68 : lowF Tryz.prog (kpO F68) (assoc []) 68 = some F68 := by kernel_rfl
def F69 : FIR := laid (X := ⟨14, [],
 (.reg [qm 4 0,qm 5 0,qn 6 5,qf 7 4 6,ql 8 7,qm 9 1,qo 10 (.bslice 23 1 [(Value.slice none 0 0)] [(0, 1, (.tmp 9))]),
  qo 11 (.append 23 1 24 [(Value.slice none 0 0)] (.tmp 8) (.tmp 10)),qn 12 4,qf 13 4 12,qs 1 13 11] [])⟩)
theorem n69 : F69.n = 14 := rfl
theorem low69 : lowF Tryz.prog (kpO F69) (assoc []) 69 = some F69 := by kernel_rfl
def F19 : FIR := laid (X := ⟨73, [.tmp 2],
 (qS [qz 2 false] [0]
 (qS [qm 11 0,qn 12 11,qf 13 0 12,ql 14 13,qx 15 73 [14],qm 3 15] [0,3]
 (qS [qm 16 0,qn 17 16,qf 18 1 17,ql 19 18,qx 20 74 [19],qm 4 20] [0,3,4]
 (qS [qm 21 0,qn 22 21,qf 23 2 22,ql 24 23,qx 25 75 [24],qm 5 25] [0,3,4,5]
 (qS [qm 26 0,qn 27 26,qf 28 3 27,ql 29 28,qx 30 76 [29],qm 6 30] [0,3,4,5,6]
 (qS [qm 31 0,qn 32 31,qf 33 4 32,ql 34 33,qx 35 77 [34],qm 7 35] [0,3,4,5,6,7]
 (qS [qm 36 0,qn 37 36,qf 38 5 37,ql 39 38,qx 40 78 [39],qm 8 40] [0,3,4,5,6,7,8]
 (qS [qm 41 0,qn 42 41,qf 43 6 42,ql 44 43,qx 45 79 [44],qm 9 45] [0,3,4,5,6,7,8,9]
 (qS [qm 46 0,qn 47 46,qf 48 7 47,ql 49 48,qx 50 80 [49],qm 10 50] [3,4,5,6,7,8,9,10]
 (qS [qm 51 3,qm 52 51,qt 52 (qm 53 4),qa 54 52 53,qm 55 54,qt 55 (qm 56 5),qa 57 55 56,qm 58 57,qt 58 (qm 59 6),qa 60 58 59,qm 61 60,
  qt 61 (qm 62 7),qa 63 61 62,qm 64 63,qt 64 (qm 65 8),qa 66 64 65,qm 67 66,qt 67 (qm 68 9),qa 69 67 68,qm 70 69,qt 70 (qm 71 10),qa 72 70 71,qm 2 72] [2]
 .ret))))))))))⟩)
theorem n19 : F19.n = 73 := rfl
theorem low19 : lowF Tryz.prog (kpO F19) (assoc []) 19 = some F19 := by kernel_rfl
def F16 : FIR := laid (X := ⟨48, [.tmp 6],
 (qS [qz 6 false] [0,1,2]
 (qS [qm 13 0,qx 14 18 [13],qm 7 14] [0,1,2,7]
 (qS [qm 15 0,qx 16 17 [15],qm 8 16] [0,1,2,7,8]
 (qS [qm 17 0,qx 18 24 [17],qm 9 18] [1,2,7,8,9]
 (qS [qm 19 1,qx 20 66 [19],qm 10 20] [1,2,7,8,9,10]
 (qS [qm 21 7,qm 22 1,qn 23 22,qf 24 4 23,ql 25 24,qx 26 67 [21,25],qm 11 26] [1,2,7,8,9,10,11]
 (qS [qm 27 8,qm 28 10,qx 29 29 [27,28],qm 12 29] [1,2,7,8,9,11,12]
 (qS [qm 30 2,qm 31 7,qx 32 68 [30,31]] [1,2,8,9,11,12]
 (qS [qm 33 2,qm 34 8,qx 35 69 [33,34]] [1,9,11,12]
 (qS [qm 36 11,qm 37 36,qt 37 (qm 38 12),qa 39 37 38,qm 40 39,qt 40 (qm 41 9),qt 40 (qm 42 1),qt 40 (qn 43 42),qt 40 (qf 44 6 43),
  qt 40 (ql 45 44),qt 40 (qo 46 (.eqb false (.tmp 41) (.tmp 45))),qa 47 40 46,qm 6 47] [6]
 .ret))))))))))⟩)
theorem n16 : F16.n = 48 := rfl
theorem low16 : lowF Tryz.prog (kpO F16) (assoc []) 16 = some F16 := by kernel_rfl
def F13 : FIR := laid (X := ⟨372, [.tmp 8],
 (qS [qB 6 53 2,qz 8 false] [0,1,3,6]
 (.seq (qS [qf 55 0 6,ql 56 55] [0,1,3,6,56]
 (.block 0 (qS [qc 58 .eql 56 1,qm 57 58] [0,1,3,6,56,57]
 (qC 57 (qS [qm 60 0,qf 61 1 6,ql 62 61,qf 63 3 6,ql 64 63,qx 65 20 [60,62,64],qm 59 65,qe 66 59 0,qe 67 59 1,qm 9 66,qm 10 67] [1,6,9,10]
 (qS [qm 69 1,qf 70 1 6,ql 71 70,qf 72 3 6,ql 73 72,qx 74 32 [69,71,73],qm 68 74,qe 75 68 0,qe 76 68 1,qm 11 75,qm 12 76] [9,10,11,12]
 (qS [qm 77 9,qm 78 11,qb 79 .eql 77 78,qm 80 79,qt 80 (qm 81 10),qt 80 (qm 82 12),qt 80 (qb 83 .eql 81 82),qa 84 80 83,qm 8 84] [8]
 .ret)))
 (qS [qc 86 .eql 56 2,qm 85 86] [0,1,3,6,56,85]
 (qC 85 (qS [qm 88 0,qf 89 3 6,ql 90 89,qf 91 4 6,ql 92 91,qx 93 21 [88,90,92],qm 87 93,qe 94 87 0,qe 95 87 1,qm 13 94,qm 14 95] [1,6,13,14]
 (qS [qm 97 1,qf 98 3 6,ql 99 98,qf 100 4 6,ql 101 100,qx 102 33 [97,99,101],qm 96 102,qe 103 96 0,qe 104 96 1,qm 15 103,qm 16 104] [13,14,15,16]
 (qS [qm 105 13,qm 106 15,qb 107 .eql 105 106,qm 108 107,qt 108 (qm 109 14),qt 108 (qm 110 16),qt 108 (qb 111 .eql 109 110),
  qa 112 108 111,qm 8 112] [8]
 .ret)))
 (qS [qc 114 .eql 56 3,qm 113 114] [0,1,3,6,56,113]
 (qC 113 (qS [qm 115 0,qf 116 3 6,ql 117 116,qf 118 2 6,ql 119 118,qx 120 22 [115,117,119],qm 17 120] [1,6,17]
 (qS [qm 121 1,qf 122 3 6,ql 123 122,qf 124 2 6,ql 125 124,qx 126 34 [121,123,125],qm 18 126] [17,18]
 (qS [qm 127 17,qm 128 18,qb 129 .eql 127 128,qm 8 129] [8]
 .ret)))
 (qS [qc 131 .eql 56 4,qm 130 131] [0,1,3,6,56,130]
 (qC 130 (qS [qm 132 0,qf 133 3 6,ql 134 133,qf 135 4 6,ql 136 135,qx 137 35 [132,134,136],qm 19 137] [1,6,19]
 (qS [qm 138 1,qf 139 3 6,ql 140 139,qf 141 4 6,ql 142 141,qx 143 36 [138,140,142],qm 20 143] [19,20]
 (qS [qm 144 19,qm 145 20,qb 146 .eql 144 145,qm 8 146] [8]
 .ret)))
 (qS [qc 148 .eql 56 5,qm 147 148] [0,1,3,6,56,147]
 (qC 147 (qS [qm 149 0,qf 150 3 6,ql 151 150,qx 152 37 [149,151],qm 21 152] [1,6,21]
 (qS [qm 153 1,qf 154 3 6,ql 155 154,qx 156 38 [153,155],qm 22 156] [21,22]
 (qS [qm 157 21,qm 158 22,qb 159 .eql 157 158,qm 8 159] [8]
 .ret)))
 (qS [qc 161 .eql 56 6,qm 160 161] [0,1,3,6,56,160]
 (qC 160 (qS [qm 162 0,qf 163 3 6,ql 164 163,qx 165 39 [162,164],qm 23 165] [1,6,23]
 (qS [qm 166 1,qf 167 3 6,ql 168 167,qx 169 40 [166,168],qm 24 169] [23,24]
 (qS [qm 170 23,qm 171 24,qb 172 .eql 170 171,qm 8 172] [8]
 .ret)))
 (qS [qc 174 .eql 56 7,qm 173 174] [0,1,3,6,56,173]
 (qC 173 (qS [qm 175 0,qf 176 1 6,ql 177 176,qf 178 2 6,ql 179 178,qx 180 41 [175,177,179],qm 25 180] [1,6,25]
 (qS [qm 181 1,qf 182 1 6,ql 183 182,qf 184 2 6,ql 185 184,qx 186 42 [181,183,185],qm 26 186] [25,26]
 (qS [qm 187 25,qm 188 26,qb 189 .eql 187 188,qm 8 189] [8]
 .ret)))
 (qS [qc 191 .eql 56 8,qm 190 191] [0,1,3,6,56,190]
 (qC 190 (qS [qm 192 0,qf 193 1 6,ql 194 193,qx 195 43 [192,194],qm 27 195] [1,6,27]
 (qS [qm 196 1,qf 197 1 6,ql 198 197,qx 199 44 [196,198],qm 28 199] [27,28]
 (qS [qm 200 27,qm 201 28,qb 202 .eql 200 201,qm 8 202] [8]
 .ret)))
 (qS [qc 204 .eql 56 9,qm 203 204] [0,1,3,6,56,203]
 (qC 203 (qS [qm 206 0,qx 207 45 [206],qm 205 207,qe 208 205 0,qe 209 205 1,qm 29 208,qm 30 209] [1,29,30]
 (qS [qm 211 1,qx 212 46 [211],qm 210 212,qe 213 210 0,qe 214 210 1,qm 31 213,qm 32 214] [29,30,31,32]
 (qS [qm 215 29,qm 216 31,qb 217 .eql 215 216,qm 218 217,qt 218 (qm 219 30),qt 218 (qm 220 32),qt 218 (qb 221 .eql 219 220),
  qa 222 218 221,qm 8 222] [8]
 .ret)))
 (qS [qc 224 .eql 56 10,qm 223 224] [0,1,3,6,56,223]
 (qC 223 (qS [qm 226 0,qf 227 1 6,ql 228 227,qx 229 47 [226,228],qm 225 229,qe 230 225 0,qe 231 225 1,qm 33 230,qm 34 231] [1,6,33,34]
 (qS [qm 233 1,qf 234 1 6,ql 235 234,qx 236 48 [233,235],qm 232 236,qe 237 232 0,qe 238 232 1,qm 35 237,qm 36 238] [33,34,35,36]
 (qS [qm 239 33,qm 240 35,qb 241 .eql 239 240,qm 242 241,qt 242 (qm 243 34),qt 242 (qm 244 36),qt 242 (qb 245 .eql 243 244),
  qa 246 242 245,qm 8 246] [8]
 .ret)))
 (qS [qc 248 .eql 56 11,qm 247 248] [0,1,3,6,56,247]
 (qC 247 (qS [qm 249 0,qf 250 3 6,ql 251 250,qf 252 2 6,ql 253 252,qx 254 49 [249,251,253],qm 37 254] [1,6,37]
 (qS [qm 255 1,qf 256 3 6,ql 257 256,qf 258 2 6,ql 259 258,qx 260 50 [255,257,259],qm 38 260] [37,38]
 (qS [qm 261 37,qm 262 38,qb 263 .eql 261 262,qm 8 263] [8]
 .ret)))
 (qS [qc 265 .eql 56 12,qm 264 265] [0,1,3,6,56,264]
 (qC 264 (qS [qm 267 0,qf 268 3 6,ql 269 268,qf 270 4 6,ql 271 270,qx 272 51 [267,269,271],qm 266 272,qe 273 266 0,qe 274 266 1,qm 39 273,
  qm 40 274] [1,6,39,40]
 (qS [qm 276 1,qf 277 3 6,ql 278 277,qf 279 4 6,ql 280 279,qx 281 52 [276,278,280],qm 275 281,qe 282 275 0,qe 283 275 1,qm 41 282,
  qm 42 283] [39,40,41,42]
 (qS [qm 284 39,qm 285 41,qb 286 .eql 284 285,qm 287 286,qt 287 (qm 288 40),qt 287 (qm 289 42),qt 287 (qb 290 .eql 288 289),
  qa 291 287 290,qm 8 291] [8]
 .ret)))
 (qS [qc 293 .eql 56 13,qm 292 293] [0,1,3,6,56,292]
 (qC 292 (qS [qm 294 0,qf 295 2 6,ql 296 295,qx 297 23 [294,296],qm 43 297] [1,6,43]
 (qS [qm 298 1,qf 299 2 6,ql 300 299,qx 301 53 [298,300],qm 44 301] [43,44]
 (qS [qm 302 43,qm 303 44,qb 304 .eql 302 303,qm 8 304] [8]
 .ret)))
 (qS [qc 306 .eql 56 14,qm 305 306] [0,1,3,6,56,305]
 (qC 305 (qS [qm 307 0,qf 308 4 6,ql 309 308,qx 310 54 [307,309],qm 45 310] [1,6,45]
 (qS [qm 311 1,qf 312 4 6,ql 313 312,qx 314 55 [311,313],qm 46 314] [45,46]
 (qS [qm 315 45,qm 316 46,qb 317 .eql 315 316,qm 8 317] [8]
 .ret)))
 (qS [qc 319 .eql 56 15,qm 318 319] [0,1,3,6,56,318]
 (qC 318 (qS [qm 321 0,qx 322 56 [321],qm 320 322,qe 323 320 0,qe 324 320 1,qm 47 323,qm 48 324] [1,47,48]
 (qS [qm 326 1,qx 327 57 [326],qm 325 327,qe 328 325 0,qe 329 325 1,qm 49 328,qm 50 329] [47,48,49,50]
 (qS [qm 330 47,qm 331 49,qb 332 .eql 330 331,qm 333 332,qt 333 (qm 334 48),qt 333 (qm 335 50),
  qt 333 (qo 336 (.eqb false (.tmp 334) (.tmp 335))),qa 337 333 336,qm 8 337] [8]
 .ret)))
 (qS [qc 339 .eql 56 16,qm 338 339] [0,1,3,6,56,338]
 (qC 338 (qS [qm 340 0,qx 341 58 [340]] [1]
 (qS [qm 342 1,qx 343 59 [342]] []
 (qS [qz 8 true] [8]
 .ret)))
 (qS [qc 345 .eql 56 17,qm 344 345] [0,1,3,6,344]
 (qC 344 (qS [qm 347 0,qf 348 3 6,ql 349 348,qx 350 60 [347,349],qm 346 350,qe 351 346 0,qe 352 346 1,qm 51 351,qm 52 352] [1,6,51,52]
 (qS [qm 354 1,qf 355 3 6,ql 356 355,qx 357 61 [354,356],qm 353 357,qe 358 353 0,qe 359 353 1,qm 53 358,qm 54 359] [51,52,53,54]
 (qS [qm 360 51,qm 361 53,qb 362 .eql 360 361,qm 363 362,qt 363 (qm 364 52),qt 363 (qm 365 54),qt 363 (qb 366 .eql 364 365),
  qa 367 363 366,qm 8 367] [8]
 .ret)))
 .skip))))))))))))))))))))))))))))))))))))
 (qS [qm 368 0,qm 369 1,qm 370 3,qx 371 16 [368,369,370],qm 8 371] [8]
 .ret)))⟩)
theorem n13 : F13.n = 372 := rfl
theorem low13 : lowF Tryz.prog (kpO F13) (assoc []) 13 = some F13 := by kernel_rfl
def F3 : FIR := laid (X := ⟨196, [.tmp 10],
 (qS [qz 10 false] [0,1,2,3,4]
 (qS [qx 36 4 [],qm 11 36] [0,1,2,3,4,11]
 (.seq (qS [qm 37 0,qL 38 37,qc 39 .gtr 38 33554431,qm 40 39,qu 40 (qm 41 1),qu 40 (qL 42 41),qu 40 (qc 43 .gtr 42 33554431),qr 44 40 43,
  qm 45 44,qu 45 (qm 46 4),qu 45 (qL 47 46),qu 45 (qc 48 .gtr 47 33554431),qr 49 45 48] [0,1,2,3,4,11,49]
 (qC 49 (qS [qm 50 11,qm 10 50] [10]
 .ret)
 .skip))
 (qS [qm 51 0,qx 52 5 [51],qm 12 52] [0,1,2,3,4,11,12]
 (qS [qm 53 1,qx 54 6 [53],qm 13 54] [0,1,2,3,4,11,12,13]
 (qS [qm 56 12,qm 57 13,qx 58 7 [56,57],qm 55 58,qe 59 55 0,qe 60 55 1,qm 14 59,qm 15 60] [0,1,2,3,4,11,12,13,14,15]
 (qS [qm 61 12,qm 62 0,qx 63 8 [61,62],qm 16 63] [0,1,2,3,4,11,12,13,14,15,16]
 (qS [qm 64 13,qm 65 1,qx 66 9 [64,65],qm 17 66] [0,1,2,3,4,11,12,13,14,15,16,17]
 (qS [qm 68 0,qm 69 1,qx 70 10 [68,69],qm 67 70,qe 71 67 0,qe 72 67 1,qm 18 71,qm 19 72] [2,3,4,11,12,13,14,15,16,17,18,19]
 (.seq (qS [qm 73 15,qm 74 19,qb 75 .neq 73 74,qm 76 75,qu 76 (qm 77 14),qu 76 (qo 78 (.eqnil false .ptr (.tmp 77))),qu 76 (qm 79 18),
  qu 76 (qo 80 (.eqnil false .ptr (.tmp 79))),qu 76 (qo 81 (.eqb true (.tmp 78) (.tmp 80))),qr 82 76 81,qm 83 82,qu 83 (qm 84 16),
  qu 83 (qo 85 (.un .not (.tmp 84))),qr 86 83 85,qm 87 86,qu 87 (qm 88 17),qu 87 (qo 89 (.un .not (.tmp 88))),qr 90 87 89] [2,3,4,11,12,13,14,18,90]
 (qC 90 (qS [qz 10 false] [10]
 .ret)
 .skip))
 (.seq (qS [qm 91 14,qo 92 (.eqnil false .ptr (.tmp 91))] [2,3,4,11,12,13,14,18,92]
 (qC 92 (qS [qm 93 11,qm 10 93] [10]
 .ret)
 .skip))
 (qS [qm 94 12,qx 95 11 [94]] [2,3,4,11,13,14,18]
 (qS [qm 96 13,qx 97 12 [96]] [2,3,4,11,14,18]
 (qS [qo 99 (.call 7 [(.const (Value.slice none 0 0)), (.const (Value.slice none 0 0))]),qm 98 99,qe 100 98 0,qe 101 98 1,qm 20 100,
  qm 21 101] [2,3,4,11,14,18,20,21]
 (.seq (qS [qm 102 20,qo 103 (.eqnil false .ptr (.tmp 102)),qm 104 103,qu 104 (qm 105 21),qu 104 (qc 106 .neq 105 0),qr 107 104 106] [2,3,4,11,14,18,20,107]
 (qC 107 (qS [qz 10 false] [10]
 .ret)
 .skip))
 (qS [qo 108 (.build [(Value.slice none 0 0), (Value.slice none 0 0), (Value.slice none 0 0), (Value.slice none 0 0), (Value.slice none 0 0), (Value.slice none 0 0), (Value.slice none 0 0), (Value.slice none 0 0)] []),
  qB 109 50 108,qm 22 109] [2,3,4,11,14,18,20,22]
 (.seq (qS [qk 23 0] [2,3,4,11,14,18,20,22,23]
 (.block 0 (.loop (.seq (qS [qm 110 23,qm 111 2,qL 112 111,qb 113 .lss 110 112] [2,3,4,11,14,18,20,22,23,113]
 (qC 113 .skip
 (.exit 0)))
 (.seq (.block 1 (qS [qm 116 14,qm 117 18,qm 118 2,qm 119 23,qi 120 5 118 119,qN 121 5 120,qm 122 22,qx 123 13 [116,117,121,122],qm 24 123] [2,3,4,11,14,18,20,22,23,24]
 (qS [qm 124 24,qo 125 (.un .not (.tmp 124))] [2,3,4,11,14,18,20,22,23,125]
 (qC 125 (qS [qz 10 false] [10]
 .ret)
 .skip))))
 (.reg [qm 114 23,qc 115 .add 114 1,qm 23 115] [2,3,4,11,14,18,20,22,23]))))))
 (qS [qm 126 4,qx 127 5 [126],qm 25 127] [2,3,4,11,14,18,20,22,25]
 (qS [qm 128 14,qm 129 3,qm 130 25,qx 131 14 [128,129,130],qm 26 131] [2,3,4,11,14,18,20,22,25,26]
 (qS [qm 132 18,qm 133 3,qm 134 4,qx 135 15 [132,133,134],qm 27 135] [2,4,11,14,18,20,22,25,26,27]
 (.seq (qS [qm 136 26,qo 137 (.eqnil false .ptr (.tmp 136))] [2,4,11,14,18,20,22,25,26,27,137]
 (qC 137 (qS [qz 10 false] [10]
 .ret)
 .skip))
 (qS [qm 138 25,qm 139 4,qx 140 8 [138,139],qm 28 140] [2,11,14,18,20,22,25,26,27,28]
 (qS [qm 141 25,qx 142 11 [141]] [2,11,14,18,20,22,26,27,28]
 (.seq (qS [qk 29 0] [2,11,14,18,20,22,26,27,28,29]
 (.block 2 (.loop (.seq (qS [qm 143 29,qm 144 2,qL 145 144,qb 146 .lss 143 145] [2,11,14,18,20,22,26,27,28,29,146]
 (qC 146 .skip
 (.exit 2)))
 (.seq (.block 3 (qS [qm 149 26,qm 150 27,qm 151 2,qm 152 29,qi 153 5 151 152,qN 154 5 153,qm 155 22,qx 156 13 [149,150,154,155],qm 30 156] [2,11,14,18,20,22,26,27,28,29,30]
 (qS [qm 157 30,qo 158 (.un .not (.tmp 157))] [2,11,14,18,20,22,26,27,28,29,158]
 (qC 158 (qS [qz 10 false] [10]
 .ret)
 .skip))))
 (.reg [qm 147 29,qc 148 .add 147 1,qm 29 148] [2,11,14,18,20,22,26,27,28,29]))))))
 (qS [qm 159 14,qm 160 18,qm 161 22,qx 162 16 [159,160,161],qm 31 162] [11,20,22,26,27,28,31]
 (qS [qm 163 26,qm 164 27,qm 165 22,qx 166 16 [163,164,165],qm 32 166] [11,20,22,28,31,32]
 (qS [qm 167 20,qx 168 17 [167],qm 33 168] [11,20,22,28,31,32,33]
 (qS [qm 169 20,qx 170 18 [169],qm 34 170] [11,22,28,31,32,33,34]
 (qS [qm 171 22,qx 172 19 [171],qm 35 172] [11,28,31,32,33,34,35]
 (qS [qm 173 11,qm 174 173,qt 174 (qm 175 28),qa 176 174 175,qm 177 176,qt 177 (qm 178 31),qa 179 177 178,qm 180 179,qt 180 (qm 181 32),
  qa 182 180 181,qm 183 182,qt 183 (qm 184 33),qt 183 (qL 185 184),qt 183 (qc 186 .eql 185 0),qa 187 183 186,qm 188 187,qt 188 (qm 189 34),
  qt 188 (qL 190 189),qt 188 (qc 191 .eql 190 0),qa 192 188 191,qm 193 192,qt 193 (qm 194 35),qa 195 193 194,qm 10 195] [10]
 .ret))))))))))))))))))))))))))))))⟩)
theorem n3 : F3.n = 196 := rfl
theorem low3 : lowF Tryz.prog (kpO F3) (assoc []) 3 = some F3 := by kernel_rfl
end Go.Proofs.YtgindbomnbojeaaGreat

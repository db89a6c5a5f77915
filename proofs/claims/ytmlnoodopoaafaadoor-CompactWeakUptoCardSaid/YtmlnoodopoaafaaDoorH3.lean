/-
  The heap: what an object has.
-/
import Derived.Test.YtmlnoodopoaafaaDoorH2
import Derived.KernelRfl
import Derived.Test.YtmlnoodopoaafaaDoorProg
import Derived.Test.YtmlnoodopoaafaaDoorV9
import Derived.Test.YtmlnoodopoaafaaDoorV6
set_option linter.unusedSimpArgs false
set_option linter.unusedVariables false
namespace Go.Proofs.YtmlnoodopoaafaaDoor
open Go Go.V
set_option maxHeartbeats 3200000
set_option maxRecDepth 100000
def partA (x : HW) (b : Ob) : Value := .slice (some ⟨x.wb, b.off, none⟩) b.many b.many
def partB (x : HW) (b : Ob) : Value := .slice (some ⟨x.wb, if b.hd.slots = b.many then b.off else b.off + b.many * 1, none⟩) (b.hd.slots - b.many) (b.hd.slots - b.many)
theorem parts_spec (p : Nat) (x : HW) (hx : HOk x) (b : Ob) (hb : b ∈ x.a.obs) : Fun Tryd.prog 67 [ptr0 p, vi b.at_] [HA p x] (fun v Post => v = .tuple #[partA x b, partB x b] ∧ Post = [HA p x]) := by
  have hs := slots_spec p x hx b hb
  have hh := head_spec p x hx b hb
  have hok := hx.lay.ok b hb
  have hmany := hok.many
  have hsl := hok.may.slots
  obtain ⟨f1, f6⟩ := hok.may.fmt
  refine Fun.intro low67 (by simp [n67]) ?_
  rw [show (if b.hd.slots = 0 then 0 else b.at_ + 2) = b.off from rfl] at hs
  simp only [hdEnc] at hh
  unfold partA partB
  refine GOH ?_
  refine st_callS hs (by rfl) .here ?_
  refine GOH ?_
  refine st_callS hh (by rfl) .here ?_
  refine GOH ?_
  have hfm : b.hd.fmt = 1 ∨ b.hd.fmt = 2 ∨ b.hd.fmt = 3 ∨ b.hd.fmt = 4 ∨ b.hd.fmt = 5 ∨ b.hd.fmt = 6 := by omega
  have e6 : b.hd.fmt = 6 → ∃ n, b.many = n + 1 ∧ n < 1152921504606846976 ∧ Atom.cell x.wb b.off (uv (8 * n + 1)) ∈ HA p x := fun e => by
    obtain ⟨n, r, e1, e2⟩ := hok.meth e
    have hl := hok.len
    rw [e1] at hl
    simp only [List.length_cons] at hl
    refine ⟨n, ?_, by omega, ?_⟩
    · unfold Ob.many; rw [if_pos e, e1]; simp only [List.headD_cons]; omega
    · have := (hx.slot hb (i := 0) (v := 8 * n + 1) (by rw [e1]; rfl)).1
      exact ha_mem this
  have eN : b.hd.fmt = 1 ∨ b.hd.fmt = 2 ∨ b.hd.fmt = 3 → b.many = b.hd.slots := fun e => by
    unfold Ob.many; rw [if_neg (by omega), if_neg (by omega)]
  have e0 : b.hd.fmt = 4 ∨ b.hd.fmt = 5 → b.many = 0 := fun e => by
    unfold Ob.many; rw [if_neg (by omega), if_pos e]
  rcases hfm with e | e | e | e | e | e
  rotate_right
  · rw [e]
    obtain ⟨n, k1, k2, k3⟩ := e6 e
    have hsl0 := hok.may.meth e
    refine GOH ?_
    refine st_callP (smallOf_spec n k2) (by rfl) ?_
    refine GOH ?_
    refine st_slcL2 (h := b.many) (by rfl) (by rfl) (by rfl) (by omega) (by omega) (by omega) ?_
    refine GOH ?_
    refine st_slcL1 (l := b.many) (by rfl) (by rfl) (by omega) (by omega) ?_
    refine GOH ?_
    exact endQ_mk (.inr rfl) (.tmp (by rfl) (.tmp (by rfl) .nil)) ⟨rfl, rfl⟩ (by exact IMx)
  all_goals
    rw [e]
    first
      | (have em := eN (by omega)
         refine GOH ?_
         refine st_slcL2 (h := b.many) (by rfl) (by rfl) (by rfl) (by omega) (by omega) (by omega) ?_
         refine GOH ?_
         refine st_slcL1 (l := b.many) (by rfl) (by rfl) (by omega) (by omega) ?_
         refine GOH ?_
         exact endQ_mk (.inr rfl) (.tmp (by rfl) (.tmp (by rfl) .nil)) ⟨rfl, rfl⟩ (by exact IMx))
      | (have em := e0 (by omega)
         rw [em]
         refine GOH ?_
         refine endQ_mk (.inr rfl) (.tmp (by rfl) (.tmp (by rfl) .nil)) ⟨?_, rfl⟩ (by exact IMx)
         simp [tup]; done)
theorem oops_spec (p : Nat) (x : HW) (hx : HOk x) (o : Nat) (b : Ob) (hb : getO x.a.obs o = some b) (ho : o < 18446744073709551616) : Fun Tryd.prog 80 [ptr0 p, uv o] [HA p x] (fun v Post => v = .tuple #[vi b.many, vi 0] ∧ Post = [HA p x]) := by
  obtain ⟨hw, hm⟩ := hx.word hb
  have ha := at_spec p x hx o ho
  rw [hb, hw] at ha
  refine Fun.intro low80 (by simp [n80]) ?_
  refine GOH ?_
  refine st_callS ha (by rfl) .here ?_
  refine GOH ?_
  refine st_callS (parts_spec p x hx b hm) (by rfl) .here ?_
  unfold partA
  refine GOH ?_
  exact endQ_mk (.inr rfl) (.tmp (by rfl) (.tmp (by rfl) .nil)) ⟨rfl, rfl⟩ (by exact IMx)
theorem slot_spec (p : Nat) (x : HW) (hx : HOk x) (o : Nat) (b : Ob) (hb : getO x.a.obs o = some b) (ho : o < 18446744073709551616) (i : Nat) (hi : i < b.many) : Fun Tryd.prog 33 [ptr0 p, uv o, vi i] [HA p x] (fun v Post => v = .tuple #[.pointer (some ⟨x.wb, b.off + i, none⟩), vi 0] ∧ Post = [HA p x]) := by
  obtain ⟨hw, hm⟩ := hx.word hb
  have ha := at_spec p x hx o ho
  have hmany := (hx.lay.ok b hm).many
  have hsl := (hx.lay.ok b hm).may.slots
  rw [hb, hw] at ha
  refine Fun.intro low33 (by simp [n33]) ?_
  refine GOH ?_
  refine st_callS ha (by rfl) .here ?_
  refine GOH ?_
  refine st_callS (parts_spec p x hx b hm) (by rfl) .here ?_
  unfold partA
  refine GOH ?_
  rw [show decide ((b.many : Int) ≤ (i : Int)) = false from decide_eq_false (by omega)]
  refine GOH ?_
  exact endQ_mk (.inr rfl) (.tmp (by rfl) (.tmp (by rfl) .nil)) ⟨rfl, rfl⟩ (by exact IMx)
theorem slotV_spec (p : Nat) (x : HW) (hx : HOk x) (o : Nat) (b : Ob) (hb : getO x.a.obs o = some b) (ho : o < 18446744073709551616) (i u : Nat) (hi : i < b.many) (hu : b.body[i]? = some u) : Fun Tryd.prog 16 [ptr0 p, uv o, vi i] [HA p x] (fun v Post => v = .tuple #[uv u, vi 0] ∧ Post = [HA p x]) := by
  obtain ⟨hw, hm⟩ := hx.word hb
  have hmem := ha_mem (p := p) (hx.slot hm hu).1
  refine Fun.intro low16 (by simp [n16]) ?_
  refine GOH ?_
  refine st_callS (slot_spec p x hx o b hb ho i hi) (by rfl) .here ?_
  refine GOH ?_
  exact endQ_mk (.inr rfl) (.tmp (by rfl) (.tmp (by rfl) .nil)) ⟨rfl, rfl⟩ (by exact IMx)
def mayO (a : AH) (o : Nat) : Bool := decide (tagO o ≤ 2) || (getO a.obs o).isSome
theorem hmay_spec (p : Nat) (x : HW) (hx : HOk x) (o : Nat) (ho : o < 18446744073709551616) : Fun Tryd.prog 36 [ptr0 p, uv o] [HA p x] (fun v Post => v = .bool (mayO x.a o) ∧ Post = [HA p x]) := by
  have hi := is_spec p x hx o ho
  refine Fun.intro low36 (by simp [n36]) ?_
  unfold mayO
  have ht : tagO o ≤ 4 := by unfold tagO; repeat' split
                             all_goals omega
  refine GOH ?_
  refine st_callP (tag_spec o ho) (by rfl) ?_
  by_cases h : tagO o ≤ 2
  · rw [decide_eq_true h, Bool.true_or]
    have h3 : tagO o = 0 ∨ tagO o = 1 ∨ tagO o = 2 := by omega
    rcases h3 with e | e | e
    all_goals
      rw [e]
      refine GOH ?_
      exact endQ_mk (.inr rfl) (.tmp (by rfl) .nil) ⟨rfl, rfl⟩ (by exact IMx)
  · rw [decide_eq_false h, Bool.false_or]
    have h3 : tagO o = 3 ∨ tagO o = 4 := by omega
    rcases h3 with e | e
    all_goals
      rw [e]
      refine GOH ?_
      refine st_callS hi (by rfl) .here ?_
      refine GOH ?_
      exact endQ_mk (.inr rfl) (.tmp (by rfl) .nil) ⟨rfl, rfl⟩ (by exact IMx)
def F12 : FIR := laid (X := ⟨26, [.tmp 4],
 (qS [qz 4 false] [0,1]
 (.seq (qS [qm 6 0,qL 7 6,qm 8 1,qL 9 8,qb 10 .neq 7 9] [0,1,10]
 (qC 10 (qS [qz 4 false] [4]
 .ret)
 .skip))
 (.seq (qS [qk 5 0] [0,1,5]
 (.block 0 (.loop (.seq (qS [qm 11 5,qm 12 0,qL 13 12,qb 14 .lss 11 13] [0,1,5,14]
 (qC 14 .skip
 (.exit 0)))
 (.seq (.block 1 (.seq (qD [qm 17 0,qm 18 5,qi 19 1 17 18,ql 20 19,qm 21 1,qm 22 5,qi 23 1 21 22,ql 24 23,qb 25 .neq 20 24] [[0,1,2,3,4,5,6,7,8]] [0,1,5,25])
 (qC 25 (qS [qz 4 false] [4]
 .ret)
 .skip)))
 (.reg [qm 15 5,qc 16 .add 15 1,qm 5 16] [0,1,5]))))))
 (qS [qz 4 true] [4]
 .ret))))⟩)
theorem n12 : F12.n = 26 := rfl
theorem low12 : lowF Tryd.prog (kpO F12) (assoc [(6,[[0,1,2,3,4,5,6,7,8]])]) 12 = some F12 := by kernel_rfl
def F25 : FIR := laid (X := ⟨26, [.tmp 4],
 (qS [qz 4 false] [0,1]
 (.seq (qS [qm 6 0,qL 7 6,qm 8 1,qL 9 8,qb 10 .neq 7 9] [0,1,10]
 (qC 10 (qS [qz 4 false] [4]
 .ret)
 .skip))
 (.seq (qS [qk 5 0] [0,1,5]
 (.block 0 (.loop (.seq (qS [qm 11 5,qm 12 0,qL 13 12,qb 14 .lss 11 13] [0,1,5,14]
 (qC 14 .skip
 (.exit 0)))
 (.seq (.block 1 (.seq (qD [qm 17 0,qm 18 5,qi 19 1 17 18,ql 20 19,qm 21 1,qm 22 5,qi 23 1 21 22,ql 24 23,qb 25 .neq 20 24] [[0,1,2,3,4,5,6,7,8]] [0,1,5,25])
 (qC 25 (qS [qz 4 false] [4]
 .ret)
 .skip)))
 (.reg [qm 15 5,qc 16 .add 15 1,qm 5 16] [0,1,5]))))))
 (qS [qz 4 true] [4]
 .ret))))⟩)
theorem n25 : F25.n = 26 := rfl
theorem low25 : lowF Tryd.prog (kpO F25) (assoc [(6,[[0,1,2,3,4,5,6,7,8]])]) 25 = some F25 := by kernel_rfl
def F3 : FIR := laid (X := ⟨242, [.tmp 4],
 (qS [qz 4 false] [0,1]
 (qS [qx 24 6 [],qm 5 24] [0,1,5]
 (qS [qm 25 0,qL 26 25,qo 27 (.min2 (.tmp 26) (.const (Value.int IntKind.i64 60))),qm 6 27] [0,1,5,6]
 (qS [qo 29 (.build [(Value.int IntKind.i64 0), (Value.int IntKind.i64 0), (Value.int IntKind.i64 0), (Value.int IntKind.i64 0), (Value.int IntKind.i64 0)] [(0, 1, (.const (Value.int IntKind.i64 4096))), (1, 1, (.const (Value.int IntKind.i64 64))), (2, 1, (.const (Value.int IntKind.i64 4096))), (3, 1, (.const (Value.int IntKind.i64 4096)))]),
  qx 30 7 [29],qm 28 30,qe 31 28 0,qe 32 28 1,qm 7 31,qm 8 32] [0,1,5,6,7,8]
 (qS [qo 34 (.build [(Value.int IntKind.i64 0), (Value.int IntKind.i64 0), (Value.int IntKind.i64 0), (Value.int IntKind.i64 0), (Value.int IntKind.i64 0)] [(0, 1, (.const (Value.int IntKind.i64 8192))), (1, 1, (.const (Value.int IntKind.i64 64))), (2, 1, (.const (Value.int IntKind.i64 8192))), (3, 1, (.const (Value.int IntKind.i64 4096)))]),
  qx 35 7 [34],qm 33 35,qe 36 33 0,qe 37 33 1,qm 9 36,qm 10 37] [0,1,5,6,7,8,9,10]
 (.seq (qS [qm 38 7,qo 39 (.eqnil false .ptr (.tmp 38)),qm 40 39,qu 40 (qm 41 9),qu 40 (qo 42 (.eqnil false .ptr (.tmp 41))),qr 43 40 42,
  qm 44 43,qu 44 (qm 45 8),qu 44 (qc 46 .neq 45 0),qr 47 44 46,qm 48 47,qu 48 (qm 49 10),qu 48 (qc 50 .neq 49 0),qr 51 48 50] [0,1,5,6,7,9,51]
 (qC 51 (qS [qz 4 false] [4]
 .ret)
 .skip))
 (qS [qm 52 6,qo 53 (.mkslice 33 1 8 [(Value.int IntKind.u64 0)] (.tmp 52) (.tmp 52)),qm 11 53] [0,1,5,6,7,9,11]
 (qS [qm 54 6,qo 55 (.mkslice 33 1 8 [(Value.int IntKind.u64 0)] (.tmp 54) (.tmp 54)),qm 12 55] [0,1,5,6,7,9,11,12]
 (.seq (qS [qk 13 0] [0,1,5,6,7,9,11,12,13]
 (.block 0 (.loop (.seq (qS [qm 56 13,qm 57 6,qb 58 .lss 56 57] [0,1,5,6,7,9,11,12,13,58]
 (qC 58 .skip
 (.exit 0)))
 (.seq (.block 1 (qS [qm 62 11,qm 63 13,qm 64 7,qm 65 13,qm 66 0,qm 67 13,qi 68 1 66 67,ql 69 68,qL 70 69,
  qo 71 (.min2 (.tmp 70) (.const (Value.int IntKind.i64 8))),
  qo 72 (.call 8 [(.tmp 64), (.const (Value.int IntKind.u8 1)), (.tmp 65), (.const (Value.int IntKind.u8 1)), (.tmp 71)]),qm 61 72,qe 73 61 0,qe 74 61 1,
  qi 75 1 62 63,qs 1 75 73,qm 8 74] [0,1,5,6,7,8,9,11,12,13]
 (qS [qm 76 8,qc 77 .neq 76 0] [0,1,5,6,7,9,11,12,13,77]
 (qC 77 (qS [qm 78 5,qm 4 78] [4]
 .ret)
 .skip))))
 (.reg [qm 59 13,qc 60 .add 59 1,qm 13 60] [0,1,5,6,7,9,11,12,13]))))))
 (.seq (qS [qk 14 0] [0,1,5,6,7,9,11,12,14]
 (.block 2 (.loop (.seq (qS [qm 79 14,qm 80 6,qb 81 .lss 79 80] [0,1,5,6,7,9,11,12,14,81]
 (qC 81 .skip
 (.exit 2)))
 (.seq (.block 3 (qS [qk 15 (-1)] [0,1,5,6,7,9,11,12,14,15]
 (.seq (qS [qm 84 14,qm 85 1,qL 86 85,qb 87 .lss 84 86,qm 88 87,qt 88 (qm 89 1),qt 88 (qm 90 14),qt 88 (qi 91 1 89 90),qt 88 (ql 92 91),
  qt 88 (qc 93 .geq 92 0),qa 94 88 93,qm 95 94,qt 95 (qm 96 1),qt 95 (qm 97 14),qt 95 (qi 98 1 96 97),qt 95 (ql 99 98),qt 95 (qm 100 6),
  qt 95 (qb 101 .lss 99 100),qa 102 95 101,qm 103 102,qt 103 (qm 104 12),qt 103 (qm 105 1),qt 103 (qm 106 14),qt 103 (qi 107 1 105 106),
  qt 103 (ql 108 107),qt 103 (qi 109 1 104 108),qt 103 (ql 110 109),qt 103 (qo 111 (.bin .eql (.tmp 110) (.const (Value.int IntKind.u64 0)))),
  qa 112 103 111] [0,1,5,6,7,9,11,12,14,15,112]
 (qC 112 (.reg [qm 113 1,qm 114 14,qi 115 1 113 114,ql 116 115,qm 15 116] [0,1,5,6,7,9,11,12,14,15])
 .skip))
 (.seq (qS [qm 117 6,qc 118 .sub 117 1,qm 16 118] [0,1,5,6,7,9,11,12,14,15,16]
 (.block 4 (.loop (.seq (qS [qm 119 16,qc 120 .geq 119 0,qm 121 120,qt 121 (qm 122 15),qt 121 (qc 123 .lss 122 0),qa 124 121 123] [0,1,5,6,7,9,11,12,14,15,16,124]
 (qC 124 .skip
 (.exit 4)))
 (.seq (.block 5 (qS [qm 127 12,qm 128 16,qi 129 1 127 128,ql 130 129,qo 131 (.bin .eql (.tmp 130) (.const (Value.int IntKind.u64 0)))] [0,1,5,6,7,9,11,12,14,15,16,131]
 (qC 131 (.reg [qm 132 16,qm 15 132] [0,1,5,6,7,9,11,12,14,15,16])
 .skip)))
 (.reg [qm 125 16,qc 126 .sub 125 1,qm 16 126] [0,1,5,6,7,9,11,12,14,15,16]))))))
 (.seq (qD [qm 134 12,qm 135 15,qm 136 9,qm 138 14,qc 139 .rem 138 3,qm 142 15,qm 143 0,qm 144 15,qi 145 1 143 144,ql 146 145,qL 147 146,
  qo 148 (.min2 (.tmp 147) (.const (Value.int IntKind.i64 8))),
  qo 137 (.bslice 36 3 [(Value.int IntKind.u8 0)] [(0, 1, (.const (Value.int IntKind.u8 1))), (1, 1, (.const (Value.int IntKind.u8 4))), (2, 1, (.const (Value.int IntKind.u8 5)))]),
  qi 140 1 137 139,ql 141 140,qo 149 (.call 8 [(.tmp 136), (.tmp 141), (.tmp 142), (.const (Value.int IntKind.u8 1)), (.tmp 148)]),qm 133 149,
  qe 150 133 0,qe 151 133 1,qi 152 1 134 135,qs 1 152 150,qm 10 151] [[0,1,2,3,4,5,6,7,8,9,10,11,12,13,14,15,16,17,18,19,20,21]] [0,1,5,6,7,9,10,11,12,14])
 (qS [qm 153 10,qc 154 .neq 153 0] [0,1,5,6,7,9,11,12,14,154]
 (qC 154 (qS [qm 155 5,qm 4 155] [4]
 .ret)
 .skip)))))))
 (.reg [qm 82 14,qc 83 .add 82 1,qm 14 83] [0,1,5,6,7,9,11,12,14]))))))
 (.seq (qS [qk 17 0] [0,5,6,7,9,11,12,17]
 (.block 6 (.loop (.seq (qS [qm 156 17,qm 157 6,qb 158 .lss 156 157] [0,5,6,7,9,11,12,17,158]
 (qC 158 .skip
 (.exit 6)))
 (.seq (.block 7 (qS [qk 18 0] [0,5,6,7,9,11,12,17,18]
 (.block 8 (.loop (.seq (qS [qm 161 18,qm 162 0,qm 163 17,qi 164 1 162 163,ql 165 164,qL 166 165,qb 167 .lss 161 166,qm 168 167,qt 168 (qm 169 18),
  qt 168 (qc 170 .lss 169 8),qa 171 168 170] [0,5,6,7,9,11,12,17,18,171]
 (qC 171 .skip
 (.exit 8)))
 (.seq (.block 9 (qS [qm 174 0,qm 175 17,qi 176 1 174 175,ql 177 176,qm 178 18,qi 179 1 177 178,ql 180 179,qm 181 6,qb 182 .rem 180 181,qm 19 182] [0,5,6,7,9,11,12,17,18,19]
 (.seq (qS [qm 183 19,qc 184 .lss 183 0] [0,5,6,7,9,11,12,17,18,19,184]
 (qC 184 (.reg [qm 185 19,qo 186 (.un .neg (.tmp 185)),qm 19 186] [0,5,6,7,9,11,12,17,18,19])
 .skip))
 (.seq (qD [qm 187 7,qm 188 11,qm 189 17,qi 190 1 188 189,ql 191 190,qm 192 18,qm 193 11,qm 194 19,qi 195 1 193 194,ql 196 195,
  qx 197 9 [187,191,192,196]] [[0,1,2,3,4,5,6,7,8,9,10]] [0,5,6,7,9,11,12,17,18,19])
 (qD [qm 198 9,qm 199 12,qm 200 17,qi 201 1 199 200,ql 202 201,qm 203 18,qm 204 12,qm 205 19,qi 206 1 204 205,ql 207 206,
  qx 208 9 [198,202,203,207]] [[0,1,2,3,4,5,6,7,8,9,10]] [0,5,6,7,9,11,12,17,18])))))
 (.reg [qm 172 18,qc 173 .add 172 1,qm 18 173] [0,5,6,7,9,11,12,17,18])))))))
 (.reg [qm 159 17,qc 160 .add 159 1,qm 17 160] [0,5,6,7,9,11,12,17]))))))
 (.seq (qS [qm 209 6,qc 210 .gtr 209 0] [5,6,7,9,11,12,210]
 (qC 210 (qS [qm 211 7,qm 212 11,qm 213 6,qc 214 .sub 213 1,qi 215 1 212 214,ql 216 215,qx 217 10 [211,216]] [5,6,7,9,12]
 (.reg [qm 218 9,qm 219 12,qm 220 6,qc 221 .sub 220 1,qi 222 1 219 221,ql 223 222,qx 224 10 [218,223]] [5,7,9]))
 .skip))
 (qS [qm 225 7,qx 226 11 [225],qm 20 226] [5,7,9,20]
 (qS [qm 227 9,qx 228 11 [227],qm 21 228] [5,7,9,20,21]
 (qS [qm 229 20,qm 230 21,qx 231 12 [229,230],qm 22 231] [5,7,9,22]
 (qS [qm 232 7,qm 233 9,qx 234 13 [232,233],qm 23 234] [5,22,23]
 (qS [qm 235 5,qm 236 235,qt 236 (qm 237 22),qa 238 236 237,qm 239 238,qt 239 (qm 240 23),qa 241 239 240,qm 4 241] [4]
 .ret)))))))))))))))))⟩)
theorem n3 : F3.n = 242 := rfl
def F15 : FIR := laid (X := ⟨14, [.tmp 4, .tmp 5],
 (qS [qo 4 (.mv (.const (Value.int IntKind.u64 0))),qk 5 0] [0,1]
 (qS [qm 6 0,qn 7 6,qf 8 4180 7,ql 9 8,qm 10 1,qx 11 50 [9,10],qe 12 11 0,qe 13 11 1,qm 4 12,qm 5 13] [4,5]
 .ret))⟩)
theorem n15 : F15.n = 14 := rfl
theorem low15 : lowF Tryd.prog (kpO F15) (assoc []) 15 = some F15 := by kernel_rfl
def F54 : FIR := laid (X := ⟨27, [.tmp 8],
 (qS [qk 8 0] [0,1,2,3]
 (.seq (.block 0 (qS [qm 10 2,qc 11 .lss 10 0,qm 12 11,qu 12 (qm 13 2),qu 12 (qm 14 1),qu 12 (qL 15 14),qu 12 (qb 16 .geq 13 15),qr 17 12 16,qm 9 17] [0,1,2,3,9]
 (qC 9 (qS [qk 8 45] [8]
 .ret)
 (qS [qm 19 0,qm 20 3,qx 21 36 [19,20],qo 22 (.un .not (.tmp 21)),qm 18 22] [1,2,3,18]
 (qC 18 (qS [qk 8 1] [8]
 .ret)
 .skip)))))
 (qS [qm 23 1,qm 24 2,qm 25 3,qi 26 1 23 24,qs 1 26 25] []
 (qS [qk 8 0] [8]
 .ret))))⟩)
theorem n54 : F54.n = 27 := rfl
theorem low54 : lowF Tryd.prog (kpO F54) (assoc []) 54 = some F54 := by kernel_rfl
def F51 : FIR := laid (X := ⟨31, [.tmp 6],
 (qS [qk 6 0] [0,1,2]
 (qS [qm 12 0,qm 13 1,qx 14 34 [12,13],qm 11 14,qe 15 11 0,qe 16 11 1,qm 7 15,qm 8 16] [0,2,7,8]
 (.seq (qS [qm 17 8,qo 18 (.un .not (.tmp 17))] [0,2,7,18]
 (qC 18 (qS [qk 6 42] [6]
 .ret)
 .skip))
 (qS [qm 19 0,qm 20 7,qx 21 35 [19,20],
  qo 9 (.alloc 62 [(Value.int IntKind.i64 0), (Value.int IntKind.u8 0), (Value.int IntKind.i64 0), (Value.int IntKind.i64 0), (Value.int IntKind.i64 0), (Value.int IntKind.i64 0), (Value.bool false), (Value.bool false)]),
  qs 8 9 21] [0,2,7,9]
 (.seq (qS [qm 22 2,qo 23 (.callv (.tmp 22) [(.tmp 9)]),qm 10 23] [0,7,9,10]
 (qS [qm 24 10,qc 25 .neq 24 0] [0,7,9,10,25]
 (qC 25 (qS [qm 26 10,qm 6 26] [6]
 .ret)
 .skip)))
 (qS [qm 27 0,qm 28 7,qN 29 8 9,qx 30 64 [27,28,29]] []
 (qS [qk 6 0] [6]
 .ret)))))))⟩)
theorem n51 : F51.n = 31 := rfl
theorem low51 : lowF Tryd.prog (kpO F51) (assoc []) 51 = some F51 := by kernel_rfl
theorem headV_spec (p : Nat) (x : HW) (hx : HOk x) (o : Nat) (b : Ob) (hb : getO x.a.obs o = some b) (ho : o < 18446744073709551616) : Fun Tryd.prog 23 [ptr0 p, uv o] [HA p x] (fun v Post => v = .tuple #[.agg (hdEnc b.hd).toArray, vi 0] ∧ Post = [HA p x]) := by
  obtain ⟨hw, hm⟩ := hx.word hb
  have ha := at_spec p x hx o ho
  have hh := head_spec p x hx b hm
  rw [hb, hw] at ha
  simp only [hdEnc] at hh ⊢
  refine Fun.intro low23 (by simp [n23]) ?_
  refine VC.seq_reg ?_
  refine st_alloc (fun q => ?_)
  refine GOH ?_
  refine st_callS ha (by rfl) (by exact TKx) ?_
  refine GOH ?_
  refine st_callS hh (by rfl) (by exact TKx) ?_
  refine GOH ?_
  refine ⟨.inr rfl, _, _, .cellN (us := hdEnc b.hd) (by rfl) (by rfl) (fun y hy => by simp only [List.flatten_cons, List.mem_append]; exact .inl hy) (.tmp (by rfl) .nil), ?_, ⟨rfl, rfl⟩⟩
  exact IMx
theorem get_spec (A : List Atom) (b o n c i u : Nat) (hi : i < n) (hn : n ≤ 1073741824) (hm : Atom.cell b (o + i) (uv u) ∈ A) : Fun Tryd.prog 50 [.slice (some ⟨b, o, none⟩) n c, vi i] [A] (fun v Post => v = .tuple #[uv u, vi 0] ∧ Post = [A]) := by
  refine Fun.intro low50 (by simp [n50]) ?_
  refine GOH ?_
  rw [show decide ((n : Int) ≤ (i : Int)) = false from decide_eq_false (by omega)]
  refine GOH ?_
  exact endQ_mk (.inr rfl) (.tmp (by rfl) (.tmp (by rfl) .nil)) ⟨rfl, rfl⟩ (by exact IMx)
theorem root_spec (p : Nat) (x : HW) (hx : HOk x) (i u : Nat) (hu : x.a.stack[i]? = some u) : Fun Tryd.prog 15 [ptr0 p, vi i] [HA p x] (fun v Post => v = .tuple #[uv u, vi 0] ∧ Post = [HA p x]) := by
  have hi := (List.getElem?_eq_some_iff.1 hu).1
  obtain ⟨b, o, c, hk, hc, hl⟩ := hx.stk.some (by omega)
  have hm := (ha_kv (p := p) (x := x)).1
  have hdp := hx.deep
  have hmu : Atom.cell b (o + i) (uv u) ∈ HA p x := by
    simp only [HA, HMem, List.flatten_cons, List.mem_append]
    refine .inr (.inr (.inr (.inr (.inr (.inr (.inr (.inl ?_)))))))
    rw [hk]
    refine mem_cellsAt.2 ⟨i, uv u, ?_, rfl⟩
    rw [List.getElem?_append_left (by simpa using hi)]; simp [hu]
  rw [hk] at hm
  refine Fun.intro low15 (by simp [n15]) ?_
  refine GOH ?_
  refine st_callS (get_spec (HA p x) b o x.a.stack.length c i u hi (by omega) hmu) (by rfl) (by exact TKx) ?_
  refine GOH ?_
  exact endQ_mk (.inr rfl) (.tmp (by rfl) (.tmp (by rfl) .nil)) ⟨rfl, rfl⟩ (by exact IMx)
def slotA (a : AH) (b : Ob) (i v : Nat) : AH := { a with obs := updO b.at_ (setB i v) a.obs }
theorem push_spec (p : Nat) (x : HW) (hx : HOk x) (v : Nat) (hv : v < 18446744073709551616) (hmay : mayO x.a v = true) (hd : x.a.stack.length < 4096) :
    Fun Tryd.prog 10 [ptr0 p, uv v] [HA p x] (fun r Post => ∃ y, (r = .tuple #[vi x.a.stack.length, vi 0] ∧ HOk y ∧ y.a = { x.a with stack := x.a.stack ++ [v] }) ∧ Post = [HA p y]) := by
  have hM := hmay_spec p x hx v hv
  rw [hmay] at hM
  obtain ⟨a, c, hk⟩ := hx.stk.form
  have hkm := (ha_kv (p := p) (x := x)).1
  rw [hk] at hkm
  have hsl := hx.stk
  rw [hk] at hsl
  refine Fun.intro low10 (by simp [n10]) ?_
  refine GOH ?_
  rw [show decide ((4096 : Int) ≤ (x.a.stack.length : Int)) = false from decide_eq_false (by omega)]
  refine GOH ?_
  refine st_callS hM (by rfl) (by exact TKx) ?_
  refine GOH ?_
  refine VO.imp (ha_out p x) ?_
  simp only [HMem, arrV, hk]
  refine st_bslice (out := [uv v]) (by rfl) (by rfl) (fun q => ?_)
  refine st_append (k := x.a.stack.length) (m := 1) (xs := x.a.stack.map uv) (sp := x.ks) (ys := [uv v]) (by rfl) (by rfl) hsl (by exact TKx) (by rfl) ?_ rfl (by rfl) (by rfl) (by decide) (by omega) (fun sv' sp' hsl' => ?_)
  · exact ⟨rfl, fun a ha => by simp only [List.flatten_cons, List.mem_append]; exact .inl ha⟩
  have hsl2 : IsSl 1 sv' (x.a.stack ++ [v]).length ((x.a.stack ++ [v]).map uv) sp' := by simpa using hsl'
  have key : HOk { x with a := { x.a with stack := x.a.stack ++ [v] }, kv := sv', ks := sp' } := by
    refine ⟨hx.lay, ⟨hx.rm.len, hx.rm.zero, hx.rm.rng, hx.rm.low, hx.rm.apart, hx.rm.inn⟩, hx.spl, hx.cll, hx.sps, hx.cls, ?_, hx.ques, hx.nots, hsl2, hx.que, hx.note, hx.map, hx.given, by simp; omega, hx.few⟩
    intro o ho
    rcases List.mem_append.1 ho with h | h
    · exact hx.stks o h
    · rw [List.mem_singleton.1 h]; exact hv
  have hmap : (x.a.stack ++ [v]).map uv = x.a.stack.map uv ++ [uv v] := by simp
  obtain ⟨a', c', rfl⟩ := hsl'.form
  refine GOH ?_
  refine endQ_mk (.inr rfl) (.tmp (by rfl) (.tmp (by rfl) .nil)) ⟨_, ⟨?_, key, rfl⟩, rfl⟩ (Imp.cut ?_ (ha_in p _))
  · rw [show ((((x.a.stack.length + 1 : Nat)) : Int) - 1) = (x.a.stack.length : Int) by omega]; rfl
  · simp only [HMem, arrV, hmap]
    exact IMx
def headA (a : AH) (b : Ob) (g : Hd → Hd) : AH := { a with obs := updO b.at_ (setH g) a.obs }
end Go.Proofs.YtmlnoodopoaafaaDoor

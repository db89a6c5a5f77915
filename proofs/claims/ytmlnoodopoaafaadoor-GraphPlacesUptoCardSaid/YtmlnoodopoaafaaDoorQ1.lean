/-
  The walk of GraphTells.
-/
import Derived.Test.YtmlnoodopoaafaaDoorP9
set_option linter.unusedSimpArgs false
set_option linter.unusedVariables false
namespace Go.V
open Go Go.Proofs.YtmlnoodopoaafaaDoor
def RdI (A : List Atom) (v : Value) (xs : List Int) : Prop := ∃ a c, v = .slice a xs.length c ∧ ∀ (i : Nat) k, xs[i]? = some k → ∃ b o, a = some ⟨b, o, none⟩ ∧ Atom.cell b (o + i) (.int .i64 k) ∈ A
theorem tmod_bound (k : Int) : -999 ≤ k.tmod 1000 ∧ k.tmod 1000 ≤ 999 := by
  have h1 := Int.tmod_lt_of_pos k (show (0 : Int) < 1000 by decide)
  have h2 := Int.tmod_lt_of_pos (-k) (show (0 : Int) < 1000 by decide)
  rw [Int.neg_tmod] at h2
  omega
def slotN (k : Int) : Nat := if k.tmod 1000 < 0 then (18446744073709551617 + 8 * k.tmod 1000).toNat else (8 * k.tmod 1000 + 1).toNat
theorem slotN_lt (k : Int) : slotN k < 18446744073709551616 := by
  have := tmod_bound k
  unfold slotN; split <;> omega
theorem slotN_num (k : Int) : numO (slotN k) := by
  have := tmod_bound k
  unfold numO slotN; split <;> omega
theorem slotN_wrap (k : Int) : IntKind.u64.wrap (8 * k.tmod 1000 + 1) = (slotN k : Int) := by
  have := tmod_bound k
  unfold slotN
  generalize k.tmod 1000 = r at *
  split
  · rw [show IntKind.u64.wrap (8 * r + 1) = (8 * r + 1) % 18446744073709551616 from rfl]; omega
  · rw [show IntKind.u64.wrap (8 * r + 1) = (8 * r + 1) % 18446744073709551616 from rfl]; omega
def fillL (xs : List Int) (k : Nat) : List Nat := (xs.take k).map slotN ++ List.replicate (xs.length + 1 - k) 0
theorem fillL_zero (xs : List Int) : fillL xs 0 = List.replicate (xs.length + 1) 0 := by simp [fillL]
theorem fillL_set {xs : List Int} {k : Nat} {v : Int} (h : xs[k]? = some v) : (fillL xs k).set k (slotN v) = fillL xs (k + 1) := by
  have hk := (List.getElem?_eq_some_iff.1 h).1
  unfold fillL
  rw [List.set_append_right _ _ (by simp; omega), List.take_add_one, h]
  simp only [List.length_map, List.length_take, Option.toList_some, List.map_append, List.map_cons, List.map_nil, List.append_assoc]
  rw [show k - min k xs.length = 0 by omega, show xs.length + 1 - k = (xs.length + 1 - (k + 1)) + 1 by omega, List.replicate_succ, List.set_cons_zero]
  rfl
theorem fillL_end (xs : List Int) : fillL xs xs.length = xs.map slotN ++ [0] := by
  unfold fillL
  rw [List.take_length, show xs.length + 1 - xs.length = 1 by omega]; rfl
theorem fillL_len {xs : List Int} {k : Nat} (h : k ≤ xs.length) : (fillL xs k).length = xs.length + 1 := by
  simp [fillL]; omega
def bsA (t : ByteArray) : Nat → List Nat
  | 0 => List.replicate ((t.size + 7) / 8) 0
  | k + 1 => putB k ((t[k]?).getD 0).toNat (bsA t k)
def finG (c : Nat) (xs : List Int) (t : ByteArray) : AH := teG c xs.length t.size (xs.map slotN ++ [8 * (5 + xs.length)]) (bsA t t.size) [16]
def csG : List (Nat × HW) → List Value
  | [] => [.pointer none, .pointer none]
  | [z] => [ptr0 z.1, .pointer none]
  | z :: w :: _ => [ptr0 z.1, ptr0 w.1]
theorem perm_lead2 {α : Type} (a b c : List α) : (a ++ (b ++ c)).Perm (b ++ (c ++ a)) := by
  rw [← List.append_assoc b]; exact List.perm_append_comm
theorem perm_lead3 {α : Type} (a b c d : List α) : (a ++ (b ++ (c ++ d))).Perm (b ++ (c ++ (d ++ a))) := by
  simpa [List.append_assoc] using (List.perm_append_comm (l₁ := a) (l₂ := b ++ (c ++ d)))
theorem xorUW {a : Nat} (ha : a < 18446744073709551616) : IntKind.u64.wrap ((BitVec.ofInt IntKind.u64.bits (a : Int) ^^^ BitVec.ofInt IntKind.u64.bits 8).toNat : Int) = ((a ^^^ 8 : Nat) : Int) := by
  show IntKind.u64.wrap ((BitVec.ofInt 64 (a : Int) ^^^ BitVec.ofInt 64 8).toNat : Int) = _
  rw [BitVec.toNat_xor, bvN ha, show (BitVec.ofInt 64 8).toNat = 8 from rfl, wrapU_lt (Nat.xor_lt_two_pow (n := 64) ha (by decide))]
theorem xorBW {a : Nat} (ha : a < 256) : IntKind.u8.wrap ((BitVec.ofInt IntKind.u8.bits (a : Int) ^^^ BitVec.ofInt IntKind.u8.bits 1).toNat : Int) = ((a ^^^ 1 : Nat) : Int) := by
  show IntKind.u8.wrap ((BitVec.ofInt 8 (a : Int) ^^^ BitVec.ofInt 8 1).toNat : Int) = _
  have e : (BitVec.ofInt 8 (a : Int)).toNat = a := by rw [BitVec.toNat_ofInt]; omega
  rw [BitVec.toNat_xor, e, show (BitVec.ofInt 8 1).toNat = 1 from rfl, wrapB_lt (Nat.xor_lt_two_pow (n := 8) ha (by decide))]
theorem VC.join2 {P : Program} {n : Nat} {Γ : Env} {H : SH} {Q : Exit → Env → SH → Prop} {x z : IC} {α : Type} (Γf : α → Env) (Hf : α → SH) (I : α → Prop) (h1 : VC P n x Γ H (thenQ (fun Γ' H' => ∃ s, I s ∧ Sub Γ' (Γf s) ∧ Imp H' (Hf s)) Q))
    (h2 : ∀ s, I s → VC P n z (Γf s) (Hf s) Q) : VC P n x Γ H (thenQ (fun Γ' H' => VC P n z Γ' H' Q) Q) := by
  refine h1.mono ?_
  intro e Γ' H' q
  cases e <;> first
    | (obtain ⟨s, i1, i2, i3⟩ := q; exact VC.sub i2 (VC.imp i3 (h2 s i1)))
    | exact q
theorem bsA_len (t : ByteArray) : ∀ k, (bsA t k).length = (t.size + 7) / 8 := by
  intro k
  induction k with
  | zero => simp [bsA]
  | succ k ih => simp [bsA, putB, ih]
end Go.V
namespace Go.Proofs.YtmlnoodopoaafaaDoor
open Go Go.V
set_option maxHeartbeats 6400000
set_option maxRecDepth 100000
theorem graphTells_spec (S : List Atom) (c : Int) (sv : Value) (xs : List Int) (hs : RdI S sv xs) (t : ByteArray) (at_ how : Int) (ha : -9223372036854775808 ≤ at_ ∧ at_ ≤ 9223372036854775807) :
    Fun Tryd.prog 4 [.int .i64 c, sv, .string t, .int .i64 at_, .int .i64 how] [S] (fun v Post => v = .bool true ∧ Post = [S]) := by
  obtain ⟨sa, sc, rfl, hm⟩ := hs
  refine Fun.intro low4 (by simp [n4]) ?_
  refine GOH ?_
  refine st_call works_spec (by rfl) (by exact SPx) (fun v Post hv => ?_)
  obtain ⟨rfl, rfl⟩ := hv
  simp only [CNx]
  refine GOH ?_
  by_cases hc0 : c < 0
  · rw [decide_eq_true hc0]
    refine GOH ?_
    exact endQ_mk (.inr rfl) (.tmp (by rfl) .nil) ⟨rfl, rfl⟩ (by exact IMx)
  rw [decide_eq_false hc0]
  refine GOH ?_
  by_cases hc1 : 4095 ≤ c
  · rw [decide_eq_true hc1]
    refine GOH ?_
    exact endQ_mk (.inr rfl) (.tmp (by rfl) .nil) ⟨rfl, rfl⟩ (by exact IMx)
  rw [decide_eq_false hc1]
  refine GOH ?_
  by_cases hn : xs.length ≤ 1000
  rotate_left
  · rw [show decide ((1000 : Int) < (xs.length : Int)) = true from decide_eq_true (by omega)]
    refine GOH ?_
    exact endQ_mk (.inr rfl) (.tmp (by rfl) .nil) ⟨rfl, rfl⟩ (by exact IMx)
  rw [show decide ((1000 : Int) < (xs.length : Int)) = false from decide_eq_false (by omega)]
  refine GOH ?_
  by_cases hts : t.size ≤ 1000
  rotate_left
  · rw [show decide ((1000 : Int) < (t.size : Int)) = true from decide_eq_true (by omega)]
    refine GOH ?_
    exact endQ_mk (.inr rfl) (.tmp (by rfl) .nil) ⟨rfl, rfl⟩ (by exact IMx)
  rw [show decide ((1000 : Int) < (t.size : Int)) = false from decide_eq_false (by omega)]
  obtain ⟨c, rfl⟩ := Int.eq_ofNat_of_zero_le (by omega : 0 ≤ c)
  refine GOH ?_
  refine st_alloc (fun q => ?_)
  refine GOH ?_
  refine VC.loop (α := List (Nat × HW)) (Γf := fun y => [(0, vi c), (1, .slice sa xs.length sc), (2, .string t), (3, .int .i64 at_), (4, .int .i64 how), (11, .bool true), (12, ptr0 q), (13, vi y.length)])
    (Hf := fun y => [cellsAt q 0 (csG y), S, (y.map fun z => HA z.1 z.2).flatten]) (I := fun y => y.length ≤ 2 ∧ ∀ z ∈ y, HOk z.2 ∧ z.2.a = finG c xs t) (μ := fun y => 2 - y.length) [] ⟨by decide, by simp⟩ (by exact SUx) (Imp.perm (by simp [csG])) ?_
  rintro y ⟨hy2, hy⟩
  refine GOH ?_
  by_cases hlt : y.length < 2
  rotate_left
  · rw [show decide ((y.length : Int) < 2) = false from decide_eq_false (by omega)]
    obtain ⟨⟨p1, x1⟩, ⟨p2, x2⟩, rfl⟩ : ∃ z w, y = [z, w] := by
      rcases y with _ | ⟨z, _ | ⟨w, _ | ⟨u, r⟩⟩⟩
      · simp at hlt
      · simp at hlt
      · exact ⟨z, w, rfl⟩
      · simp at hy2
    obtain ⟨hx1, hx1a⟩ := hy (p1, x1) (by simp)
    obtain ⟨hx2, hx2a⟩ := hy (p2, x2) (by simp)
    simp only at hx1 hx1a hx2 hx2a
    clear hy hy2 hm hlt
    refine VC.imp (H' := [HA p1 x1, HA p2 x2, cellsAt q 0 [ptr0 p1, ptr0 p2], S]) (Imp.perm ?_) ?_
    · simp only [csG, List.map_cons, List.map_nil, List.flatten_cons, List.flatten_nil, List.append_nil]
      rw [← List.append_assoc, ← List.append_assoc (HA p1 x1)]
      exact List.perm_append_comm
    refine GOH ?_
    refine st_call (same_spec p1 p2 x1 x2 hx1 hx2) (by rfl) (by exact SPx) (fun v Post hv => ?_)
    obtain ⟨rfl, rfl⟩ := hv
    simp only [CNx]
    rw [hx1a, hx2a, decide_eq_true rfl]
    refine GOH ?_
    refine VC.join2 (α := Nat) (fun m => [(0, vi c), (1, .slice sa xs.length sc), (2, .string t), (3, vi m), (4, .int .i64 how), (11, .bool true), (12, ptr0 q), (22, .bool true)]) (fun _ => [HA p1 x1, HA p2 x2, cellsAt q 0 [ptr0 p1, ptr0 p2], S]) (fun m => m < 9223372036854775808) ?_ (fun m hm => ?_)
    · by_cases hneg : at_ < 0
      · rw [decide_eq_true hneg]
        refine GOH ?_
        exact ⟨(-(at_ + 1)).toNat, by omega, by
          have : IntKind.i64.wrap (0 - (at_ + 1)) = (((-(at_ + 1)).toNat : Nat) : Int) := by rw [Int.toNat_of_nonneg (by omega), show 0 - (at_ + 1) = -(at_ + 1) by omega]; exact wrap64 ⟨by omega, by omega⟩
          rw [this]; exact SUx, by exact IMx⟩
      · rw [decide_eq_false hneg]
        obtain ⟨m, rfl⟩ := Int.eq_ofNat_of_zero_le (by omega : 0 ≤ at_)
        refine GOH ?_
        exact ⟨m, by omega, by exact SUx, by exact IMx⟩
    have hst : x2.a.stack[0]? = some 16 := by rw [hx2a]; rfl
    have hg1 : getO x2.a.obs 16 = some (o1G c xs.length (xs.map slotN ++ [8 * (5 + xs.length)])) := by rw [hx2a]; exact o1_get
    have hg2 : getO x2.a.obs (8 * (5 + xs.length)) = some (o2G xs.length t.size (bsA t t.size)) := by rw [hx2a]; exact o2_get
    have hsp1 : spaceW x2.a.rm 2 < 4 := by rw [hx2a]; exact (by decide : spaceW [(0, 0, 0), (2, 4098, 0)] 2 < 4)
    have hbl : (xs.map slotN ++ [8 * (5 + xs.length)]).length = xs.length + 1 := by simp
    refine GOH ?_
    refine st_callS (root_spec p2 x2 hx2 0 16 hst) (by rfl) (by exact TKx) ?_
    refine GOH ?_
    refine st_callS (slotV_spec p2 x2 hx2 16 _ hg1 (by decide) xs.length (8 * (5 + xs.length)) (by rw [o1_many]; omega) (by show (xs.map slotN ++ [8 * (5 + xs.length)])[xs.length]? = _; rw [List.getElem?_append_right (by simp)]; simp)) (by rfl) (by exact TKx) ?_
    refine GOH ?_
    rw [show (((xs.length : Nat) : Int) + 1).toNat = xs.length + 1 by omega]
    have hkl : m % (xs.length + 1) < xs.length + 1 := Nat.mod_lt _ (by omega)
    have hF1 : formA x1.a = formA (teG c xs.length t.size (xs.map slotN ++ [8 * (5 + xs.length)]) (bsA t t.size) [16]) := by rw [hx1a]; rfl
    have h0 : ∀ k ∈ xs.map slotN, numO k := by
      intro k hk
      obtain ⟨v, _, rfl⟩ := List.mem_map.1 hk
      exact slotN_num v
    have hml : (xs.map slotN).length = xs.length := by simp
    by_cases hw0 : how.tmod 3 = 0
    · rw [decide_eq_true hw0]
      generalize m % (xs.length + 1) = k at hkl ⊢
      refine GOH ?_
      by_cases hk : k = xs.length
      · subst hk
        refine st_callS (slotV_spec p2 x2 hx2 16 _ hg1 (by decide) xs.length (8 * (5 + xs.length)) (by rw [o1_many]; omega) (by show (xs.map slotN ++ [8 * (5 + xs.length)])[xs.length]? = _; rw [List.getElem?_append_right (by simp)]; simp)) (by rfl) (by exact TKx) ?_
        refine GOH ?_
        refine st_call (setSlot_spec p2 x2 hx2 16 _ hg1 (by decide) xs.length 16 (by rw [o1_many]; omega) (by decide) (show (1 : Nat) ≠ 6 by decide) (by unfold mayO; rw [hg1]; rfl) hsp1) (by rfl) (by exact SPx) (fun r Post hv => ?_)
        obtain ⟨z, ⟨rfl, hz, hza⟩, rfl⟩ := hv
        simp only [CNx]
        have hze : z.a = teG c xs.length t.size (xs.map slotN ++ [16]) (bsA t t.size) [16] := by
          rw [hza, hx2a]
          unfold finG teG
          rw [slot_one _ _ _ _ _ _ _ _ _ (by simp [o1G, o2G]; omega)]
          unfold V.setB o1G
          simp only
          rw [List.set_append_right _ _ (by simp)]
          simp
        have hne : ¬ formA x1.a = formA z.a := by rw [hF1, hze]; exact tell_last hn hml h0
        refine GOH ?_
        refine st_call (same_spec p1 p2 x1 z hx1 hz) (by rfl) (by exact SPx) (fun v Post hv => ?_)
        obtain ⟨rfl, rfl⟩ := hv
        simp only [CNx]
        rw [decide_eq_false hne]
        refine GOH ?_
        exact endQ_mk (.inr rfl) (.tmp (by rfl) .nil) ⟨rfl, rfl⟩ (by exact IMx)
      · have hk2 : k < xs.length := by omega
        have hv : (xs.map slotN)[k]? = some (slotN xs[k]) := by rw [List.getElem?_map, List.getElem?_eq_getElem hk2]; rfl
        generalize xs[k] = w at hv
        have hlt := slotN_lt w
        have hnum := slotN_num w
        obtain ⟨hx8, hx8n, hx8e⟩ := xor8 hlt
        refine st_callS (slotV_spec p2 x2 hx2 16 _ hg1 (by decide) k (slotN w) (by rw [o1_many]; omega) (by show (xs.map slotN ++ [8 * (5 + xs.length)])[k]? = _; rw [List.getElem?_append_left (by simpa using hk2)]; exact hv)) (by rfl) (by exact TKx) ?_
        refine GOH ?_
        rw [show decide (((slotN w : Nat) : Int) = ((8 * (5 + xs.length) : Nat) : Int)) = false from decide_eq_false (by unfold numO at hnum; omega)]
        refine GOH ?_
        rw [xorUW hlt]
        have hnum8 := hx8n hnum
        refine st_call (setSlot_spec p2 x2 hx2 16 _ hg1 (by decide) k (slotN w ^^^ 8) (by rw [o1_many]; omega) hx8 (show (1 : Nat) ≠ 6 by decide) (by unfold mayO; rw [hnum8.tag]; rfl) hsp1) (by rfl) (by exact SPx) (fun r Post hv => ?_)
        obtain ⟨z, ⟨rfl, hz, hza⟩, rfl⟩ := hv
        simp only [CNx]
        have hze : z.a = teG c xs.length t.size ((xs.map slotN).set k (slotN w ^^^ 8) ++ [8 * (5 + xs.length)]) (bsA t t.size) [16] := by
          rw [hza, hx2a]
          unfold finG teG
          rw [slot_one _ _ _ _ _ _ _ _ _ (by simp [o1G, o2G]; omega)]
          unfold V.setB o1G
          simp only
          rw [List.set_append_left _ _ (by simpa using hk2)]
        have hne : ¬ formA x1.a = formA z.a := by
          rw [hF1, hze]
          refine tell_slot hn hml h0 (by simp) (fun j hj => ?_) (fun e => ?_)
          · rcases List.mem_or_eq_of_mem_set hj with h | rfl
            · exact h0 j h
            · exact hnum8
          · have e1 := congrArg (fun l : List Nat => l[k]?) e
            simp only [List.getElem?_set_self (show k < (xs.map slotN).length by simpa using hk2), hv, Option.some.injEq] at e1
            exact hx8e e1.symm
        refine GOH ?_
        refine st_call (same_spec p1 p2 x1 z hx1 hz) (by rfl) (by exact SPx) (fun v Post hv => ?_)
        obtain ⟨rfl, rfl⟩ := hv
        simp only [CNx]
        rw [decide_eq_false hne]
        refine GOH ?_
        exact endQ_mk (.inr rfl) (.tmp (by rfl) .nil) ⟨rfl, rfl⟩ (by exact IMx)
    · rw [decide_eq_false hw0]
      refine GOH ?_
      by_cases hw1 : how.tmod 3 = 1
      · rw [decide_eq_true hw1]
        refine GOH ?_
        by_cases ht0 : t.size = 0
        · rw [show decide ((t.size : Int) = 0) = true from decide_eq_true (by omega)]
          refine GOH ?_
          exact endQ_mk (.inr rfl) (.tmp (by rfl) .nil) ⟨rfl, rfl⟩ (by exact IMx)
        rw [show decide ((t.size : Int) = 0) = false from decide_eq_false (by omega)]
        refine GOH ?_
        have hil : m % t.size < t.size := Nat.mod_lt _ (by omega)
        generalize hi : m % t.size = i at hil ⊢
        have hbl2 := bsA_len t t.size
        have hu : (bsA t t.size)[i / 8]? = some ((bsA t t.size).getD (i / 8) 0) := by
          rw [List.getD_eq_getElem?_getD, List.getElem?_eq_getElem (by omega)]; rfl
        have hsm : ∀ y ∈ bsA t t.size, y < 18446744073709551616 := (hx2.lay.ok _ (hx2.word hg2).2).small
        have hb0 : byteB (bsA t t.size) i < 256 := Nat.mod_lt _ (by decide)
        obtain ⟨hb1, hb2⟩ := xor1 hb0
        refine st_callS (byte_spec p2 x2 hx2 (8 * (5 + xs.length)) _ hg2 (by omega) i ((bsA t t.size).getD (i / 8) 0) (by rw [o2_bytes]; omega) (by rw [o2_many, Nat.zero_add]; exact hu)) (by rfl) (by exact TKx) ?_
        rw [show (bsA t t.size).getD (i / 8) 0 / 2 ^ (i % 8 * 8) % 256 = byteB (bsA t t.size) i from rfl]
        generalize hbb : byteB (bsA t t.size) i = bb at hb0 hb1 hb2 ⊢
        refine GOH ?_
        rw [hi, xorBW hb0]
        refine st_call (setByte_spec p2 x2 hx2 (8 * (5 + xs.length)) _ hg2 (by omega) i ((bsA t t.size).getD (i / 8) 0) (bb ^^^ 1) (by rw [o2_bytes]; omega) (by rw [o2_many, Nat.zero_add]; exact hu) hb1 rfl) (by rfl) (by exact SPx) (fun r Post hv => ?_)
        obtain ⟨z, ⟨rfl, hz, hza⟩, rfl⟩ := hv
        simp only [CNx]
        have hze : z.a = teG c xs.length t.size (xs.map slotN ++ [8 * (5 + xs.length)]) (putB i (bb ^^^ 1) (bsA t t.size)) [16] := by
          rw [hza, hx2a]
          unfold finG teG
          rw [slot_two _ _ _ _ _ _ _ _ _ (by simp [o1G, o2G]; omega)]
          rw [o2_many, Nat.zero_add]
          unfold V.setB o2G
          rfl
        have hne : ¬ formA x1.a = formA z.a := by
          rw [hF1, hze]
          refine tell_byte hn hml h0 hil ?_
          rw [hbb, byteB_putB (by omega) hsm hb1]
          exact fun e => hb2 e.symm
        refine GOH ?_
        refine st_call (same_spec p1 p2 x1 z hx1 hz) (by rfl) (by exact SPx) (fun v Post hv => ?_)
        obtain ⟨rfl, rfl⟩ := hv
        simp only [CNx]
        rw [decide_eq_false hne]
        refine GOH ?_
        exact endQ_mk (.inr rfl) (.tmp (by rfl) .nil) ⟨rfl, rfl⟩ (by exact IMx)
      · rw [decide_eq_false hw1]
        refine GOH ?_
        refine st_call (setClass_spec p2 x2 hx2 16 _ hg1 (by decide) (c + 1) (by omega)) (by rfl) (by exact SPx) (fun r Post hv => ?_)
        obtain ⟨z, ⟨rfl, hz, hza⟩, rfl⟩ := hv
        simp only [CNx]
        have hze : z.a = teG (c + 1) xs.length t.size (xs.map slotN ++ [8 * (5 + xs.length)]) (bsA t t.size) [16] := by
          rw [hza, hx2a]
          unfold finG teG
          rw [head_one _ _ _ _ _ _ _ _ (by simp [o1G, o2G]; omega)]
          rfl
        have hne : ¬ formA x1.a = formA z.a := by rw [hF1, hze]; exact tell_class hn hml h0 (by omega)
        refine GOH ?_
        refine st_call (same_spec p1 p2 x1 z hx1 hz) (by rfl) (by exact SPx) (fun v Post hv => ?_)
        obtain ⟨rfl, rfl⟩ := hv
        simp only [CNx]
        rw [decide_eq_false hne]
        refine GOH ?_
        exact endQ_mk (.inr rfl) (.tmp (by rfl) .nil) ⟨rfl, rfl⟩ (by exact IMx)
  rw [show decide ((y.length : Int) < 2) = true from decide_eq_true (by omega)]
  generalize hR : (y.map fun z => HA z.1 z.2).flatten = R
  refine GOH ?_
  refine st_call (new_spec 4096 64 64 0 0 (by decide) (by decide) (by decide) (by decide) (by decide)) (by rfl) (by exact SPx) (fun v Post hv => ?_)
  obtain ⟨p, x, ⟨rfl, hx, hxa⟩, rfl⟩ := hv
  simp only [CNx]
  refine GOH ?_
  refine st_call (alloc_spec p x hx 1 c 1 (xs.length + 1) (by decide) (by omega) (by decide) (by omega) (fun e => absurd e (by decide)) (fun _ => .inl (by decide))) (by rfl) (by exact SPx) (fun v Post hv => ?_)
  obtain ⟨x1, hv, rfl⟩ := hv
  simp only [CNx]
  rcases hv with ⟨hf, _, _⟩ | ⟨_, rfl, hx1, hxa1⟩
  · rw [hxa] at hf
    unfold fullA at hf
    rw [room_new, show (hdOf c 1 (xs.length + 1)).slots = xs.length + 1 from rfl] at hf
    simp only at hf
    omega
  rw [hxa, alloc_one] at hxa1
  rw [hxa, show 8 * (roomA (newH 4096 64 64 0) 1).2.2 = 16 from rfl]
  refine GOH ?_
  refine st_call (alloc_spec p x1 hx1 1 1 5 t.size (by decide) (by decide) (by decide) (by omega) (fun e => absurd e (by decide)) (fun _ => .inl (by decide))) (by rfl) (by exact SPx) (fun v Post hv => ?_)
  obtain ⟨x2, hv, rfl⟩ := hv
  simp only [CNx]
  rcases hv with ⟨hf, _, _⟩ | ⟨_, rfl, hx2, hxa2⟩
  · rw [hxa1] at hf
    unfold fullA at hf
    rw [room_te, show (hdOf 1 5 t.size).slots = (t.size + 7) / 8 from rfl] at hf
    simp only at hf
    omega
  rw [hxa1, alloc_two _ _ _ _ _ _ _ (by show 2 < 4 + (xs.length + 1); omega)] at hxa2
  rw [hxa1, room_te, show 8 * (4 + (xs.length + 1)) = 8 * (5 + xs.length) by omega]
  replace hxa2 : x2.a = teG c xs.length t.size (fillL xs 0) (bsA t 0) [] := by
    rw [hxa2, fillL_zero]
    unfold teG o1G o2G
    rw [show 4 + (xs.length + 1) = 5 + xs.length by omega]; rfl
  refine GOH ?_
  refine st_call (push_spec p x2 hx2 16 (by decide) (by unfold mayO; rw [hxa2]; unfold teG teA; rw [o1_get]; rfl) (by rw [hxa2]; exact (by decide : 0 < 4096))) (by rfl) (by exact SPx) (fun v Post hv => ?_)
  obtain ⟨x3, ⟨rfl, hx3, hxa3⟩, rfl⟩ := hv
  rw [hxa2] at hxa3
  replace hxa3 : x3.a = teG c xs.length t.size (fillL xs 0) (bsA t 0) [16] := hxa3
  simp only [CNx]
  refine GOH ?_
  refine VC.loop (α := Nat × HW) (Γf := fun z => [(0, vi c), (1, .slice sa xs.length sc), (2, .string t), (3, .int .i64 at_), (4, .int .i64 how), (11, .bool true), (12, ptr0 q), (13, vi y.length), (14, ptr0 p), (16, uv 16), (18, uv (8 * (5 + xs.length))), (20, vi z.1)])
    (Hf := fun z => [HA p z.2, cellsAt q 0 (csG y), S, R]) (I := fun z => z.1 ≤ xs.length ∧ HOk z.2 ∧ z.2.a = teG c xs.length t.size (fillL xs z.1) (bsA t 0) [16]) (μ := fun z => xs.length - z.1) (0, x3) ⟨Nat.zero_le _, hx3, hxa3⟩ (by exact SUx) (Imp.refl _) ?_
  rintro ⟨k, z⟩ ⟨hk, hz, hza⟩
  simp only at hk hz hza
  refine GOH ?_
  have hbl : (fillL xs k).length = xs.length + 1 := fillL_len hk
  have hg1 : getO z.a.obs 16 = some (o1G c xs.length (fillL xs k)) := by rw [hza]; exact o1_get
  have hsp1 : spaceW z.a.rm 2 < 4 := by rw [hza]; exact (by decide : spaceW [(0, 0, 0), (2, 4098, 0)] 2 < 4)
  by_cases hkl : k < xs.length
  · rw [show decide ((k : Int) < (xs.length : Int)) = true from decide_eq_true (by omega)]
    obtain ⟨v, hv⟩ : ∃ v, xs[k]? = some v := ⟨_, List.getElem?_eq_getElem hkl⟩
    obtain ⟨b, o, rfl, hmv⟩ := hm k v hv
    have htb := tmod_bound v
    have hnum := slotN_num v
    refine GOH ?_
    rw [slotN_wrap v]
    refine st_call (setSlot_spec p z hz 16 _ hg1 (by decide) k (slotN v) (by rw [o1_many]; omega) (slotN_lt v) (show (1 : Nat) ≠ 6 by decide) (by unfold mayO; rw [hnum.tag]; rfl) hsp1) (by rfl) (by exact SPx) (fun r Post hv => ?_)
    obtain ⟨z2, ⟨rfl, hz2, hza2⟩, rfl⟩ := hv
    simp only [CNx]
    refine GOH ?_
    have hz2e : z2.a = teG c xs.length t.size (fillL xs (k + 1)) (bsA t 0) [16] := by
      rw [hza2, hza]
      unfold teG
      rw [slot_one _ _ _ _ _ _ _ _ _ (by simp [o1G, o2G]; omega)]
      unfold V.setB o1G
      simp only
      rw [fillL_set hv]
    exact ⟨(k + 1, z2), ⟨hkl, hz2, hz2e⟩, by show xs.length - (k + 1) < xs.length - k; omega, by exact SUx, Imp.refl _⟩
  rw [show decide ((k : Int) < (xs.length : Int)) = false from decide_eq_false (by omega)]
  obtain rfl : k = xs.length := by omega
  clear hm
  refine GOH ?_
  refine st_call (setSlot_spec p z hz 16 _ hg1 (by decide) xs.length (8 * (5 + xs.length)) (by rw [o1_many]; omega) (by omega) (show (1 : Nat) ≠ 6 by decide) (by unfold mayO; rw [hza, show getO (teG c xs.length t.size (fillL xs xs.length) (bsA t 0) [16]).obs (8 * (5 + xs.length)) = _ from o2_get]; simp) hsp1) (by rfl) (by exact SPx) (fun r Post hv => ?_)
  obtain ⟨z2, ⟨rfl, hz2, hza2⟩, rfl⟩ := hv
  simp only [CNx]
  have hz2e : z2.a = teG c xs.length t.size (xs.map slotN ++ [8 * (5 + xs.length)]) (bsA t 0) [16] := by
    rw [hza2, hza]
    unfold teG
    rw [slot_one _ _ _ _ _ _ _ _ _ (by simp [o1G, o2G]; omega)]
    unfold V.setB o1G
    simp only
    rw [fillL_end, List.set_append_right _ _ (by simp)]
    simp
  refine GOH ?_
  clear hxa3 hxa2 hxa1 hxa hx hx1 hx2 hx3 hza hza2 hz hbl hg1 hsp1
  refine VC.loop (α := Nat × HW) (Γf := fun z => [(0, vi c), (1, .slice sa xs.length sc), (2, .string t), (3, .int .i64 at_), (4, .int .i64 how), (11, .bool true), (12, ptr0 q), (13, vi y.length), (14, ptr0 p), (18, uv (8 * (5 + xs.length))), (21, vi z.1)])
    (Hf := fun z => [HA p z.2, cellsAt q 0 (csG y), S, R]) (I := fun z => z.1 ≤ t.size ∧ HOk z.2 ∧ z.2.a = teG c xs.length t.size (xs.map slotN ++ [8 * (5 + xs.length)]) (bsA t z.1) [16]) (μ := fun z => t.size - z.1) (0, z2) ⟨Nat.zero_le _, hz2, hz2e⟩ (by exact SUx) (Imp.refl _) ?_
  clear hz2e hz2
  rintro ⟨k, z⟩ ⟨hk, hz, hza⟩
  simp only at hk hz hza
  refine GOH ?_
  have hg2 : getO z.a.obs (8 * (5 + xs.length)) = some (o2G xs.length t.size (bsA t k)) := by rw [hza]; exact o2_get
  by_cases hkl : k < t.size
  · rw [show decide ((k : Int) < (t.size : Int)) = true from decide_eq_true (by omega)]
    obtain ⟨ch, hch⟩ : ∃ ch, t[k]? = some ch := ⟨_, getElem?_pos t k hkl⟩
    have hbl := bsA_len t k
    have hu : (bsA t k)[k / 8]? = some ((bsA t k).getD (k / 8) 0) := by
      rw [List.getD_eq_getElem?_getD, List.getElem?_eq_getElem (by omega)]; rfl
    refine GOH ?_
    refine st_idxS (by rfl) (by rfl) rfl hch ?_
    refine GOH ?_
    refine st_call (setByte_spec p z hz (8 * (5 + xs.length)) _ hg2 (by omega) k ((bsA t k).getD (k / 8) 0) ch.toNat (by rw [o2_bytes]; omega) (by rw [o2_many, Nat.zero_add]; exact hu) ch.toNat_lt rfl) (by rfl) (by exact SPx) (fun r Post hv => ?_)
    obtain ⟨z2, ⟨rfl, hz2, hza2⟩, rfl⟩ := hv
    simp only [CNx]
    have hz2e : z2.a = teG c xs.length t.size (xs.map slotN ++ [8 * (5 + xs.length)]) (bsA t (k + 1)) [16] := by
      rw [hza2, hza]
      unfold teG
      rw [slot_two _ _ _ _ _ _ _ _ _ (by simp [o1G, o2G]; omega)]
      rw [o2_many, Nat.zero_add]
      unfold V.setB o2G
      simp only
      rw [bsA, hch]; rfl
    refine GOH ?_
    exact ⟨(k + 1, z2), ⟨hkl, hz2, hz2e⟩, by show t.size - (k + 1) < t.size - k; omega, by exact SUx, Imp.refl _⟩
  rw [show decide ((k : Int) < (t.size : Int)) = false from decide_eq_false (by omega)]
  obtain rfl : k = t.size := by omega
  rw [show bsA t t.size = bsA t t.size from rfl] at hza
  rcases y with _ | ⟨z0, _ | ⟨w0, r0⟩⟩
  · simp only [csG, List.length_nil]
    refine GOH ?_
    subst hR
    exact ⟨[(p, z)], ⟨by simp, by intro u hu; rw [List.mem_singleton.1 hu]; exact ⟨hz, hza⟩⟩, by simp, by exact SUx, Imp.perm (by
      simp only [csG, List.map_cons, List.map_nil, List.flatten_cons, List.flatten_nil, List.append_nil]
      exact perm_lead2 _ _ _)⟩
  · simp only [csG, List.length_cons, List.length_nil]
    refine GOH ?_
    subst hR
    refine ⟨[z0, (p, z)], ⟨by simp, ?_⟩, by simp, by exact SUx, Imp.perm (by
      simp only [csG, List.map_cons, List.map_nil, List.flatten_cons, List.flatten_nil, List.append_nil]
      exact perm_lead3 _ _ _ _)⟩
    intro u hu
    rcases List.mem_cons.1 hu with rfl | hu
    · exact hy u (by simp)
    · rw [List.mem_singleton.1 hu]; exact ⟨hz, hza⟩
  · simp only [List.length_cons] at hlt; omega
end Go.Proofs.YtmlnoodopoaafaaDoor

/-
  A heap of Eden alone: an object of slots, and one of bytes behind it; its form.
-/
import Derived.Test.YtmlnoodopoaafaaDoorP8
import Derived.Test.YtmlnoodopoaafaaDoorP5
import Derived.Test.YtmlnoodopoaafaaDoorP4
set_option linter.unusedSimpArgs false
set_option linter.unusedVariables false
namespace Go.V
open Go Go.Proofs.YtmlnoodopoaafaaDoor
def teA (E S B top : Nat) (obs : List Ob) (st : List Nat) : AH := { newH E S B 0 with rm := (newH E S B 0).rm.set 1 (2, 2 + E, top), obs := obs, stack := st }
theorem hd1 (c n : Nat) : hdOf c 1 n = ⟨c, 1, 0, 0, 0, n, false, false⟩ := rfl
theorem hd5 (c n : Nat) : hdOf c 5 n = ⟨c, 5, (n + 7) / 8 * 8 - n, 0, 0, (n + 7) / 8, false, false⟩ := rfl
theorem room_new (E S B : Nat) : roomA (newH E S B 0) 1 = (2, 2 + E, 2) := rfl
theorem room_te (E S B top : Nat) (obs : List Ob) (st : List Nat) : roomA (teA E S B top obs st) 1 = (2, 2 + E, top) := rfl
theorem alloc_one (E S B c n : Nat) : allocA (newH E S B 0) 1 (hdOf c 1 n) = teA E S B (4 + n) [⟨2, hdOf c 1 n, List.replicate n 0⟩] [] := by
  unfold allocA
  rw [if_pos (show (hdOf c 1 n).fmt ≤ 3 from (by decide : (1 : Nat) ≤ 3)), room_new]
  unfold filledA laidA tookA teA
  rw [room_new, hd1]
  simp only [newO, insO, updO, fillB, List.drop_replicate, Nat.sub_self, List.replicate_zero, List.append_nil]
  rw [show 2 + (2 + n) = 4 + n by omega]
  simp only [newH, List.set_cons_succ, List.set_cons_zero]
  rw [show (List.replicate 64 0).headD 0 = 0 from rfl]
  simp only [insO, List.map_cons, List.map_nil, ↓reduceIte, List.drop_replicate, Nat.sub_self, List.replicate_zero, List.append_nil]
theorem alloc_two (E S B top m : Nat) (o1 : Ob) (st : List Nat) (h : o1.at_ < top) : allocA (teA E S B top [o1] st) 1 (hdOf 1 5 m) = teA E S B (top + (2 + (m + 7) / 8)) [o1, ⟨top, hdOf 1 5 m, List.replicate ((m + 7) / 8) 0⟩] st := by
  unfold allocA
  rw [if_neg (show ¬ (hdOf 1 5 m).fmt ≤ 3 from (by decide : ¬ (5 : Nat) ≤ 3))]
  unfold laidA tookA
  rw [room_te]
  simp only [newO, insO, hd5, teA]
  rw [if_pos h]
  rfl
theorem updO_no {w : Nat} {f : Ob → Ob} {r : List Ob} (h : ∀ o ∈ r, o.at_ ≠ w) : (r.map fun b => if b.at_ = w then f b else b) = r := by
  induction r with
  | nil => rfl
  | cons b r ih => rw [List.map_cons, if_neg (h b (by simp)), ih (fun o ho => h o (by simp [ho]))]
theorem slot_one (E S B top i v : Nat) (o1 : Ob) (r : List Ob) (st : List Nat) (h : ∀ o ∈ r, o.at_ ≠ o1.at_) : slotA (teA E S B top (o1 :: r) st) o1 i v = teA E S B top (setB i v o1 :: r) st := by
  unfold slotA teA updO
  simp only [List.map_cons, ↓reduceIte]
  rw [updO_no h]
theorem slot_two (E S B top i v : Nat) (o1 o2 : Ob) (st : List Nat) (h : o1.at_ ≠ o2.at_) : slotA (teA E S B top [o1, o2] st) o2 i v = teA E S B top [o1, setB i v o2] st := by
  unfold slotA teA updO
  simp only [List.map_cons, List.map_nil, ↓reduceIte]
  rw [if_neg h]
theorem head_one (E S B top : Nat) (g : Hd → Hd) (o1 : Ob) (r : List Ob) (st : List Nat) (h : ∀ o ∈ r, o.at_ ≠ o1.at_) : headA (teA E S B top (o1 :: r) st) o1 g = teA E S B top (setH g o1 :: r) st := by
  unfold headA teA updO
  simp only [List.map_cons, ↓reduceIte]
  rw [updO_no h]
theorem getO_cons (b : Ob) (r : List Ob) (o : Nat) : getO (b :: r) o = if b.oop = o then some b else getO r o := by
  unfold getO
  rw [List.find?_cons]
  by_cases h : b.oop = o
  · rw [if_pos h, decide_eq_true h]
  · rw [if_neg h, decide_eq_false h]
theorem getO_nil (o : Nat) : getO [] o = none := rfl
theorem getO_tag {obs : List Ob} {o : Nat} (hl : ∀ b ∈ obs, 1 ≤ b.at_ ∧ b.at_ ≤ 268435455) (h : tagO o ≠ 3) : getO obs o = none := by
  cases e : getO obs o with
  | none => rfl
  | some b =>
    obtain ⟨h1, rfl⟩ := getO_some e
    exact absurd (tagO_obj (hl b h1).1 (hl b h1).2) h
theorem meets_none {a : AH} : ∀ {ks l : List Nat}, (∀ k ∈ ks, k ∈ l ∨ getO a.obs k = none) → ks.foldl (meetA a) l = l := by
  intro ks
  induction ks with
  | nil => intro l _; rfl
  | cons k ks ih =>
    intro l h
    have hk : meetA a l k = l := by
      unfold meetA
      rcases h k (by simp) with h1 | h1
      · rw [if_pos h1]
      · by_cases h2 : k ∈ l
        · rw [if_pos h2]
        · rw [if_neg h2, h1]; rfl
    rw [List.foldl_cons, hk]
    exact ih (fun k' hk' => h k' (by simp [hk']))
theorem roots_te (E S B top : Nat) (obs : List Ob) (st : List Nat) : rootsA (teA E S B top obs st) = List.replicate 4160 0 ++ st := by
  unfold rootsA teA newH
  simp only [List.append_nil]
  rw [← List.append_assoc, List.replicate_append_replicate]
theorem rooted_te (E S B top : Nat) (obs : List Ob) (o : Nat) (hl : ∀ b ∈ obs, 1 ≤ b.at_ ∧ b.at_ ≤ 268435455) (h : (getO obs o).isSome = true) : rootedA (teA E S B top obs [o]) = [o] := by
  have e1 := meets_none (a := teA E S B top obs [o]) (ks := List.replicate 4160 0) (l := []) (fun k hk => .inr (by rw [(List.mem_replicate.1 hk).2]; exact getO_tag hl (by decide)))
  unfold rootedA
  rw [roots_te, List.foldl_append, e1, List.foldl_cons, List.foldl_nil]
  unfold meetA
  rw [if_neg (List.not_mem_nil), if_pos (show (getO (teA E S B top obs [o]).obs o).isSome = true from h)]; rfl
theorem goA_end {a : AH} {n i : Nat} {l : List Nat} (h : l.length ≤ i) : goA a n i l = l := by
  cases n with
  | zero => rfl
  | succ n => simp only [goA, List.getElem?_eq_none h]
theorem goA_at {a : AH} {n i o : Nat} {l : List Nat} (h : l[i]? = some o) : goA a (n + 1) i l = goA a n (i + 1) ((kidsA a o).foldl (meetA a) l) := by
  simp only [goA, h]
theorem kids_of {a : AH} {o : Nat} {b : Ob} (h : getO a.obs o = some b) : kidsA a o = b.body.take b.many := by unfold kidsA; rw [h]
theorem reached_one (E S B top : Nat) (obs : List Ob) (o : Nat) (b : Ob) (hl : ∀ b ∈ obs, 1 ≤ b.at_ ∧ b.at_ ≤ 268435455) (hb : getO obs o = some b) (hk : ∀ k ∈ b.body.take b.many, k = o ∨ tagO k ≠ 3) : reachedA (teA E S B top obs [o]) = [o] := by
  unfold reachedA
  rw [rooted_te E S B top obs o hl (by rw [hb]; rfl), goA_at (o := o) rfl, kids_of (a := teA E S B top obs [o]) hb, meets_none (fun k h => ?_), goA_end (by simp)]
  rcases hk k h with rfl | h
  · exact .inl (by simp)
  · exact .inr (getO_tag hl h)
theorem reached_two (E S B top : Nat) (obs : List Ob) (o w : Nat) (b c : Ob) (l : List Nat) (hl : ∀ b ∈ obs, 1 ≤ b.at_ ∧ b.at_ ≤ 268435455) (hb : getO obs o = some b) (hc : getO obs w = some c) (hne : w ≠ o) (hk : b.body.take b.many = l ++ [w]) (hk1 : ∀ k ∈ l, tagO k ≠ 3) (hc0 : c.many = 0)
    (h2 : 0 < obs.length) : reachedA (teA E S B top obs [o]) = [o, w] := by
  obtain ⟨m, hm⟩ : ∃ m, obs.length = m + 1 := ⟨obs.length - 1, by omega⟩
  have e1 : l.foldl (meetA (teA E S B top obs [o])) [o] = [o] := meets_none (fun k h => .inr (getO_tag hl (hk1 k h)))
  unfold reachedA
  rw [rooted_te E S B top obs o hl (by rw [hb]; rfl), goA_at (o := o) rfl, kids_of (a := teA E S B top obs [o]) hb, hk, List.foldl_append, e1, List.foldl_cons, List.foldl_nil]
  have e2 : meetA (teA E S B top obs [o]) [o] w = [o, w] := by
    unfold meetA
    rw [if_neg (by simp [hne]), if_pos (show (getO (teA E S B top obs [o]).obs w).isSome = true from by show (getO obs w).isSome = true; rw [hc]; rfl)]; rfl
  rw [e2]
  show goA (teA E S B top obs [o]) obs.length (0 + 1) [o, w] = _
  rw [hm, goA_at (o := w) rfl, kids_of (a := teA E S B top obs [o]) hc, hc0, List.take_zero, List.foldl_nil, goA_end (by simp)]
theorem form_te (E S B top : Nat) (obs : List Ob) (o : Nat) (R : List Nat) (h : reachedA (teA E S B top obs [o]) = R) : formA (teA E S B top obs [o]) = [R.length, 1, 0] ++ (List.replicate 4160 0 ++ [nameA R o]) ++ R.flatMap (oneA (teA E S B top obs [o]) R) := by
  unfold formA
  rw [h, roots_te, List.map_append, List.map_replicate]
  rfl
end Go.V
namespace Go.Proofs.YtmlnoodopoaafaaDoor
open Go Go.V
set_option maxHeartbeats 6400000
set_option maxRecDepth 100000
theorem works_spec : Fun Tryd.prog 6 [] [] (fun v Post => v = .bool true ∧ Post = []) := by
  refine Fun.intro low6 (by simp [n6]) ?_
  refine GOH ?_
  refine st_call (new_spec 64 16 64 0 0 (by decide) (by decide) (by decide) (by decide) (by decide)) (by rfl) (by exact SPx) (fun v Post hv => ?_)
  obtain ⟨p, x, ⟨rfl, hx, hxa⟩, rfl⟩ := hv
  simp only [CNx]
  refine GOH ?_
  refine st_call (alloc_spec p x hx 1 5 1 2 (by decide) (by decide) (by decide) (by decide) (by decide) (fun _ => .inl (by decide))) (by rfl) (by exact SPx) (fun v Post hv => ?_)
  obtain ⟨y, hv, rfl⟩ := hv
  simp only [CNx]
  rcases hv with ⟨hf, _, _⟩ | ⟨_, rfl, hy, hya⟩
  · rw [hxa] at hf
    exact absurd hf (by unfold fullA; rw [room_new]; decide)
  rw [hxa, alloc_one] at hya
  replace hya : y.a = teA 64 16 64 6 [⟨2, hdOf 5 1 2, [0, 0]⟩] [] := hya
  rw [hxa, show 8 * (roomA (newH 64 16 64 0) 1).2.2 = 16 from rfl]
  have hg : getO y.a.obs 16 = some ⟨2, hdOf 5 1 2, [0, 0]⟩ := by rw [hya]; rfl
  have hsp : spaceW y.a.rm 2 < 4 := by rw [hya]; decide
  refine GOH ?_
  refine st_call (setSlot_spec p y hy 16 _ hg (by decide) 0 16 (by decide) (by decide) (by decide) (by unfold mayO; rw [hg]; rfl) hsp) (by rfl) (by exact SPx) (fun v Post hv => ?_)
  obtain ⟨y2, ⟨rfl, hy2, hya2⟩, rfl⟩ := hv
  rw [hya, slot_one _ _ _ _ _ _ _ _ _ (by simp)] at hya2
  replace hya2 : y2.a = teA 64 16 64 6 [⟨2, hdOf 5 1 2, [16, 0]⟩] [] := hya2
  simp only [CNx]
  have hg2 : getO y2.a.obs 16 = some ⟨2, hdOf 5 1 2, [16, 0]⟩ := by rw [hya2]; rfl
  have hsp2 : spaceW y2.a.rm 2 < 4 := by rw [hya2]; decide
  refine GOH ?_
  refine st_call (setSlot_spec p y2 hy2 16 _ hg2 (by decide) 1 9 (by decide) (by decide) (by decide) (by unfold mayO; rfl) hsp2) (by rfl) (by exact SPx) (fun v Post hv => ?_)
  obtain ⟨y3, ⟨rfl, hy3, hya3⟩, rfl⟩ := hv
  rw [hya2, slot_one _ _ _ _ _ _ _ _ _ (by simp)] at hya3
  replace hya3 : y3.a = teA 64 16 64 6 [⟨2, hdOf 5 1 2, [16, 9]⟩] [] := hya3
  simp only [CNx]
  refine GOH ?_
  refine st_call (push_spec p y3 hy3 16 (by decide) (by unfold mayO; rw [hya3]; rfl) (by rw [hya3]; decide)) (by rfl) (by exact SPx) (fun v Post hv => ?_)
  obtain ⟨y4, ⟨rfl, hy4, hya4⟩, rfl⟩ := hv
  rw [hya3] at hya4
  replace hya4 : y4.a = teA 64 16 64 6 [⟨2, hdOf 5 1 2, [16, 9]⟩] [16] := hya4
  simp only [CNx]
  have hR : reachedA y4.a = [16] := by
    rw [hya4]
    refine reached_one 64 16 64 6 _ 16 _ (by simp) rfl (fun k hk => ?_)
    have : k = 16 ∨ k = 9 := by simpa [Ob.many, hd1] using hk
    rcases this with rfl | rfl
    · exact .inl rfl
    · exact .inr (by decide)
  have hF : formA y4.a = [1, 1, 0] ++ (List.replicate 4160 0 ++ [8]) ++ [4101, 2, 8, 9] := by
    rw [hya4] at hR ⊢
    rw [form_te _ _ _ _ _ _ _ hR]; rfl
  refine GOH ?_
  refine st_call (form_spec p y4 hy4) (by rfl) (by exact SPx) (fun v Post hv => ?_)
  obtain ⟨sp, hs, rfl⟩ := hv
  rw [hF] at hs ⊢
  have hl : ([1, 1, 0] ++ (List.replicate 4160 0 ++ [8]) ++ [4101, 2, 8, 9] : List Nat).length = 4168 := by simp
  rw [hl] at hs
  have h0 := @slA_mem
  obtain ⟨b, o, c, rfl, _, _⟩ := hs.some (by omega)
  simp only [CNx]
  refine GOH ?_
  refine st_call (reachedV_spec p y4 hy4) (by rfl) (by exact SPx) (fun v Post hv => ?_)
  obtain ⟨sp2, hs2, rfl⟩ := hv
  rw [hR] at hs2 ⊢
  simp only [CNx]
  refine GOH ?_
  refine st_bslice (out := [uv 16]) (by rfl) (by rfl) (fun b2 => ?_)
  have hrd : RdU (cellsAt b2 0 [uv 16]) (.slice (some ⟨b2, 0, none⟩) (1 : Nat) 1) [16] := ⟨some ⟨b2, 0, none⟩, 1, rfl, fun i u hu => ⟨b2, 0, rfl, by
    have hi : i < 1 := (List.getElem?_eq_some_iff.1 hu).1
    obtain rfl : i = 0 := by omega
    obtain rfl : 16 = u := by simpa using hu
    simp [cellsAt]⟩⟩
  refine st_call (sameO_spec _ _ v _ [16] [16] hs2.rdU hrd (by decide)) (by rfl) (by exact SPx) (fun w Post hv => ?_)
  obtain ⟨rfl, rfl⟩ := hv
  simp only [List.cons_append, List.nil_append, decide_true]
  have hM : ∀ i u : Nat, (1 :: 1 :: 0 :: (List.replicate 4160 0 ++ [8] ++ [4101, 2, 8, 9]))[i]? = some u → Atom.cell b (o + i) (uv u) ∈ slA (.slice (some ⟨b, o, none⟩) (4168 : Nat) c) (List.map uv (1 :: 1 :: 0 :: (List.replicate 4160 0 ++ [8] ++ [4101, 2, 8, 9]))) sp := fun i u h => slA_mem h
  generalize slA (.slice (some ⟨b, o, none⟩) (4168 : Nat) c) (List.map uv (1 :: 1 :: 0 :: (List.replicate 4160 0 ++ [8] ++ [4101, 2, 8, 9]))) sp = A at *
  have m0 := hM 0 1 rfl
  have m1 := hM 1 1 rfl
  have m2 := hM 2 0 rfl
  have m3 := hM 3 0 rfl
  have m4 := hM 4163 8 (by decide +kernel)
  have m5 := hM 4164 4101 (by decide +kernel)
  have m6 := hM 4165 2 (by decide +kernel)
  have m7 := hM 4166 8 (by decide +kernel)
  have m8 := hM 4167 9 (by decide +kernel)
  rw [Nat.add_zero] at m0
  rw [show ((4168 : Nat) : Int) = 4168 from rfl]
  refine GOH ?_
  exact endQ_mk (Post := []) (.inr rfl) (.tmp (by rfl) .nil) ⟨rfl, rfl⟩ Imp.nil
end Go.Proofs.YtmlnoodopoaafaaDoor
namespace Go.V
open Go Go.Proofs.YtmlnoodopoaafaaDoor
theorem byte_or {x y s t : Nat} (hy : y < 256) : (x ||| y * 2 ^ (8 * t)) / 2 ^ (8 * s) % 256 = (x / 2 ^ (8 * s) % 256) ||| (if s = t then y else 0) := by
  apply Nat.eq_of_testBit_eq
  intro k
  have e : (256 : Nat) = 2 ^ 8 := rfl
  rw [e, Nat.testBit_or, Nat.testBit_mod_two_pow, Nat.testBit_mod_two_pow, Nat.testBit_div_two_pow, Nat.testBit_div_two_pow, Nat.testBit_or, Nat.testBit_mul_two_pow]
  by_cases hk : k < 8
  · simp only [hk, decide_true, Bool.true_and]
    congr 1
    by_cases hst : s = t
    · subst hst
      rw [if_pos rfl, decide_eq_true (by omega), Bool.true_and]
      congr 1; omega
    · rw [if_neg hst, Nat.zero_testBit]
      rcases Nat.lt_or_gt_of_ne hst with h | h
      · rw [decide_eq_false (by omega), Bool.false_and]
      · rw [Nat.testBit_lt_two_pow (x := y) (Nat.lt_of_lt_of_le hy (by rw [e]; exact Nat.pow_le_pow_right (by decide) (by omega))), Bool.and_false]
  · simp only [hk, decide_false, Bool.false_and, Bool.false_or]
    split
    · exact (Nat.testBit_lt_two_pow (Nat.lt_of_lt_of_le hy (by rw [e]; exact Nat.pow_le_pow_right (by decide) (by omega)))).symm
    · rw [Nat.zero_testBit]
theorem byte_and {u t : Nat} (hu : u < 18446744073709551616) (ht : t < 8) : andN u (255 * 2 ^ (8 * t)) / 2 ^ (8 * t) % 256 = 0 := by
  have hb : 255 * 2 ^ (8 * t) < 18446744073709551616 := by
    have h1 : 2 ^ (8 * t) ≤ 2 ^ 56 := Nat.pow_le_pow_right (by decide) (by omega)
    have e : (2 : Nat) ^ 56 = 72057594037927936 := rfl
    omega
  apply Nat.eq_of_testBit_eq
  intro k
  have e : (256 : Nat) = 2 ^ 8 := rfl
  rw [e, Nat.testBit_mod_two_pow, Nat.testBit_div_two_pow, testBit_andN hu hb, Nat.testBit_mul_two_pow, Nat.zero_testBit]
  by_cases hk : k < 8
  · rw [decide_eq_true (show 8 * t ≤ k + 8 * t by omega), show k + 8 * t - 8 * t = k by omega, show (255 : Nat) = 2 ^ 8 - 1 from rfl, Nat.testBit_two_pow_sub_one]
    simp [hk]
  · simp [hk]
def byteB (body : List Nat) (i : Nat) : Nat := body.getD (i / 8) 0 / 2 ^ (i % 8 * 8) % 256
def putB (i c : Nat) (body : List Nat) : List Nat := body.set (i / 8) (andN (body.getD (i / 8) 0) (255 * 2 ^ (i % 8 * 8)) ||| c * 2 ^ (i % 8 * 8))
theorem byteB_putB {i c : Nat} {body : List Nat} (h : i / 8 < body.length) (hs : ∀ x ∈ body, x < 18446744073709551616) (hc : c < 256) : byteB (putB i c body) i = c := by
  have hu : body.getD (i / 8) 0 < 18446744073709551616 := by
    rw [List.getD_eq_getElem?_getD, List.getElem?_eq_getElem h]; exact hs _ (List.getElem_mem h)
  unfold byteB putB
  rw [List.getD_eq_getElem?_getD (l := body.set _ _), List.getElem?_set_self h, Option.getD_some, Nat.mul_comm (i % 8) 8, byte_or hc, byte_and hu (by omega), if_pos rfl, Nat.zero_or]
theorem packA_bytes (b : Ob) : ∀ n i, byteB (packA b n) i = if i < n then byteA b i else 0 := by
  intro n
  induction n with
  | zero => intro i; simp [packA, byteB]
  | succ n ih =>
    intro i
    have hpl := packA_len b n
    have key : ∀ l : List Nat, l.length = n / 8 + 1 → (∀ j, byteB l j = if j < n then byteA b j else 0) → byteB (l.set (n / 8) (l.getD (n / 8) 0 ||| byteA b n * 2 ^ (n % 8 * 8))) i = if i < n + 1 then byteA b i else 0 := by
      intro l hl hb
      have hlt : byteA b n < 256 := Nat.mod_lt _ (by decide)
      by_cases hw : i / 8 = n / 8
      · have h0 := hb i
        unfold byteB at h0 ⊢
        rw [List.getD_eq_getElem?_getD (l := l.set _ _), hw, List.getElem?_set_self (by omega), Option.getD_some, Nat.mul_comm (i % 8) 8, Nat.mul_comm (n % 8) 8, byte_or hlt]
        rw [hw, Nat.mul_comm (i % 8) 8] at h0
        rw [h0]
        by_cases hin : i = n
        · subst hin; rw [if_neg (by omega), if_pos rfl, if_pos (by omega), Nat.zero_or]
        · rw [if_neg (show ¬ i % 8 = n % 8 by omega), Nat.or_zero]
          by_cases hlt : i < n
          · rw [if_pos hlt, if_pos (by omega)]
          · rw [if_neg hlt, if_neg (by omega)]
      · have h0 := hb i
        unfold byteB at h0 ⊢
        rw [List.getD_eq_getElem?_getD (l := l.set _ _), List.getElem?_set_ne (Ne.symm hw), ← List.getD_eq_getElem?_getD, h0]
        by_cases hlt : i < n
        · rw [if_pos hlt, if_pos (by omega)]
        · rw [if_neg hlt, if_neg (by omega)]
    simp only [packA]
    split
    · rename_i h8
      refine key _ (by rw [List.length_append, hpl, List.length_singleton]; omega) (fun j => ?_)
      rw [← ih j]
      unfold byteB
      congr 2
      rw [List.getD_eq_getElem?_getD, List.getD_eq_getElem?_getD]
      by_cases hj : j / 8 < (packA b n).length
      · rw [List.getElem?_append_left hj]
      · rw [List.getElem?_append_right (by omega), List.getElem?_eq_none (show (packA b n).length ≤ j / 8 by omega)]
        cases j / 8 - (packA b n).length <;> rfl
    · rename_i h8
      exact key _ (by rw [hpl]; omega) ih
def topG (n : Nat) : Nat := 5 + n
def o1G (c n : Nat) (l : List Nat) : Ob := ⟨2, hdOf c 1 (n + 1), l⟩
def o2G (n m : Nat) (bs : List Nat) : Ob := ⟨5 + n, hdOf 1 5 m, bs⟩
def teG (c n m : Nat) (l bs : List Nat) (st : List Nat) : AH := teA 4096 64 64 (5 + n + (2 + (m + 7) / 8)) [o1G c n l, o2G n m bs] st
section
variable {c n m : Nat} {l bs : List Nat}
theorem o1_get : getO [o1G c n l, o2G n m bs] 16 = some (o1G c n l) := by rw [getO_cons, if_pos (show (o1G c n l).oop = 16 from rfl)]
theorem o2_get : getO [o1G c n l, o2G n m bs] (8 * (5 + n)) = some (o2G n m bs) := by
  rw [getO_cons, if_neg (by show ¬ 8 * 2 = 8 * (5 + n); omega), getO_cons, if_pos (show (o2G n m bs).oop = 8 * (5 + n) from rfl)]
theorem o_low (hn : n ≤ 1000) : ∀ b ∈ [o1G c n l, o2G n m bs], 1 ≤ b.at_ ∧ b.at_ ≤ 268435455 := by
  intro b hb
  simp only [List.mem_cons, List.not_mem_nil, or_false] at hb
  rcases hb with rfl | rfl
  · exact ⟨(by decide : 1 ≤ 2), (by decide : 2 ≤ 268435455)⟩
  · exact ⟨by show 1 ≤ 5 + n; omega, by show 5 + n ≤ 268435455; omega⟩
theorem o1_many : (o1G c n l).many = n + 1 := rfl
theorem o2_many : (o2G n m bs).many = 0 := rfl
theorem o2_bytes : (o2G n m bs).bytesI = m := by
  unfold Ob.bytesI
  rw [o2_many, if_neg (show ¬ (o2G n m bs).hd.fmt < 5 from (by decide : ¬ (5 : Nat) < 5))]
  show ((((m + 7) / 8 - 0 : Nat)) : Int) * 8 - (((m + 7) / 8 * 8 - m : Nat) : Int) = m
  omega
theorem o2_byte (i : Nat) : byteA (o2G n m bs) i = byteB bs i := by
  unfold byteA byteB; rw [o2_many, Nat.zero_add]; rfl
def numO (k : Nat) : Prop := k % 8 = 1
theorem numO.tag {k : Nat} (h : numO k) : tagO k = 1 := by unfold tagO; rw [if_pos (show k % 8 = 1 from h)]
def preG (r : Nat) : List Nat := [r, 1, 0] ++ (List.replicate 4160 0 ++ [8])
theorem form_two (hn : n ≤ 1000) {l0 : List Nat} (hl : l0.length = n) (h0 : ∀ k ∈ l0, numO k) :
    formA (teG c n m (l0 ++ [8 * (5 + n)]) bs [16]) = preG 2 ++ ((c + 4096) :: (n + 1) :: (l0 ++ [16] ++ (pk (hdOf 1 5 m) :: (m + 7) / 8 :: packA (o2G n m bs) m))) := by
  have hR : reachedA (teG c n m (l0 ++ [8 * (5 + n)]) bs [16]) = [16, 8 * (5 + n)] := by
    refine reached_two _ _ _ _ _ 16 (8 * (5 + n)) _ _ l0 (o_low hn) o1_get o2_get (by omega) ?_ (fun k hk => by rw [(h0 k hk).tag]; decide) rfl (by simp)
    rw [o1_many]
    exact List.take_of_length_le (by show (l0 ++ [8 * (5 + n)]).length ≤ n + 1; simp [hl])
  have hw : tagO (8 * (5 + n)) = 3 := tagO_obj (by omega) (by omega)
  have hA : oneA (teG c n m (l0 ++ [8 * (5 + n)]) bs [16]) [16, 8 * (5 + n)] 16 = (c + 4096) :: (n + 1) :: (l0 ++ [16]) := by
    unfold oneA
    rw [show getO (teG c n m (l0 ++ [8 * (5 + n)]) bs [16]).obs 16 = _ from o1_get]
    simp only
    rw [kids_of (a := teG c n m (l0 ++ [8 * (5 + n)]) bs [16]) o1_get, o1_many]
    rw [show (o1G c n (l0 ++ [8 * (5 + n)])).body = l0 ++ [8 * (5 + n)] from rfl, List.take_of_length_le (by simp [hl]), List.map_append]
    rw [List.map_congr_left (g := id) (fun k hk => by unfold nameA; rw [(h0 k hk).tag]; rfl), List.map_id]
    have e1 : pk (plainH (o1G c n (l0 ++ [8 * (5 + n)])).hd) = c + 4096 := by
      show c + 1 * 4096 + 0 * 32768 + 0 * 262144 + 0 * 1099511627776 + 0 * 17592186044416 + 0 * 35184372088832 = _
      omega
    have e2 : nameA [16, 8 * (5 + n)] (8 * (5 + n)) = 16 := by
      unfold nameA
      rw [hw, if_neg (by decide), if_pos (by simp), List.idxOf_cons, List.idxOf_cons]
      rw [show ((16 : Nat) == 8 * (5 + n)) = false from by rw [beq_eq_false_iff_ne]; omega]
      simp
    have e3 : restA (o1G c n (l0 ++ [8 * (5 + n)])) = [] := by
      unfold restA
      rw [if_neg (show ¬ (o1G c n (l0 ++ [8 * (5 + n)])).hd.fmt = 4 from (by decide : ¬ (1 : Nat) = 4))]
      rfl
    rw [e1, List.map_cons, List.map_nil, e2, e3]
    simp only [List.append_nil, List.cons_append, List.nil_append]
    rfl
  have hB : oneA (teG c n m (l0 ++ [8 * (5 + n)]) bs [16]) [16, 8 * (5 + n)] (8 * (5 + n)) = pk (hdOf 1 5 m) :: (m + 7) / 8 :: packA (o2G n m bs) m := by
    unfold oneA
    rw [show getO (teG c n m (l0 ++ [8 * (5 + n)]) bs [16]).obs (8 * (5 + n)) = _ from o2_get]
    simp only
    rw [kids_of (a := teG c n m (l0 ++ [8 * (5 + n)]) bs [16]) o2_get, o2_many, List.take_zero, List.map_nil, List.nil_append]
    have e3 : restA (o2G n m bs) = packA (o2G n m bs) m := by
      unfold restA
      rw [if_neg (show ¬ (o2G n m bs).hd.fmt = 4 from (by decide : ¬ (5 : Nat) = 4)), o2_bytes, Int.toNat_natCast]
    rw [e3]
    rfl
  unfold teG at hR hA hB ⊢
  rw [form_te _ _ _ _ _ _ _ hR, List.flatMap_cons, List.flatMap_cons, List.flatMap_nil, hA, hB, List.append_nil]
  rw [show nameA [16, 8 * (5 + n)] 16 = 8 from by unfold nameA; rw [show tagO 16 = 3 from rfl, if_neg (by decide), if_pos (by simp)]; simp]
  unfold preG
  simp only [List.append_assoc, List.cons_append, List.nil_append, List.length_cons, List.length_nil]
theorem form_self (hn : n ≤ 1000) {l0 : List Nat} (hl : l0.length = n) (h0 : ∀ k ∈ l0, numO k) : ∃ r, formA (teG c n m (l0 ++ [16]) bs [16]) = preG 1 ++ r := by
  have hR : reachedA (teG c n m (l0 ++ [16]) bs [16]) = [16] := by
    refine reached_one _ _ _ _ _ 16 _ (o_low hn) o1_get (fun k hk => ?_)
    have := List.mem_of_mem_take hk
    rcases List.mem_append.1 this with h | h
    · exact .inr (by rw [(h0 k h).tag]; decide)
    · exact .inl (by simpa using h)
  unfold teG at hR ⊢
  exact ⟨_, by rw [form_te _ _ _ _ _ _ _ hR]; rfl⟩
theorem preG_len (r : Nat) : (preG r).length = 4164 := by
  unfold preG
  simp only [List.length_append, List.length_cons, List.length_nil, List.length_replicate]
theorem tell_class {c' : Nat} (hn : n ≤ 1000) {l0 : List Nat} (hl : l0.length = n) (h0 : ∀ k ∈ l0, numO k) (hc : c ≠ c') : formA (teG c n m (l0 ++ [8 * (5 + n)]) bs [16]) ≠ formA (teG c' n m (l0 ++ [8 * (5 + n)]) bs [16]) := by
  rw [form_two hn hl h0, form_two hn hl h0]
  intro e
  have := List.append_cancel_left e
  rw [List.cons_eq_cons] at this
  omega
theorem tell_slot (hn : n ≤ 1000) {l0 l1 : List Nat} (hl : l0.length = n) (h0 : ∀ k ∈ l0, numO k) (hl1 : l1.length = n) (h1 : ∀ k ∈ l1, numO k) (hne : l0 ≠ l1) : formA (teG c n m (l0 ++ [8 * (5 + n)]) bs [16]) ≠ formA (teG c n m (l1 ++ [8 * (5 + n)]) bs [16]) := by
  rw [form_two hn hl h0, form_two hn hl1 h1]
  intro e
  have e1 := List.append_cancel_left e
  simp only [List.cons_eq_cons, true_and, List.append_assoc] at e1
  exact hne (List.append_inj e1 (by omega)).1
theorem tell_last (hn : n ≤ 1000) {l0 : List Nat} (hl : l0.length = n) (h0 : ∀ k ∈ l0, numO k) : formA (teG c n m (l0 ++ [8 * (5 + n)]) bs [16]) ≠ formA (teG c n m (l0 ++ [16]) bs [16]) := by
  obtain ⟨r, e⟩ := form_self (c := c) (m := m) (bs := bs) hn hl h0
  rw [form_two hn hl h0, e]
  intro e
  have := (List.append_inj e (by rw [preG_len, preG_len])).1
  unfold preG at this
  simp only [List.cons_append, List.cons_eq_cons] at this
  omega
theorem tell_byte (hn : n ≤ 1000) {l0 bs' : List Nat} (hl : l0.length = n) (h0 : ∀ k ∈ l0, numO k) {i : Nat} (hi : i < m) (hne : byteB bs i ≠ byteB bs' i) : formA (teG c n m (l0 ++ [8 * (5 + n)]) bs [16]) ≠ formA (teG c n m (l0 ++ [8 * (5 + n)]) bs' [16]) := by
  rw [form_two hn hl h0, form_two hn hl h0]
  intro e
  have e1 := List.append_cancel_left e
  simp only [List.cons_eq_cons, true_and, List.append_assoc, List.append_cancel_left_eq] at e1
  have e2 := packA_bytes (o2G n m bs) m i
  have e3 := packA_bytes (o2G n m bs') m i
  rw [e1, e3, if_pos hi, if_pos hi, o2_byte, o2_byte] at e2
  exact hne e2.symm
end
theorem xor8 {v : Nat} (hv : v < 18446744073709551616) : v ^^^ 8 < 18446744073709551616 ∧ (numO v → numO (v ^^^ 8)) ∧ v ^^^ 8 ≠ v := by
  refine ⟨?_, ?_, ?_⟩
  · exact Nat.xor_lt_two_pow (n := 64) hv (by decide)
  · intro h
    unfold numO at h ⊢
    have : (v ^^^ 8) % 2 ^ 3 = (v % 2 ^ 3) ^^^ (8 % 2 ^ 3) := Nat.xor_mod_two_pow
    simp only [Nat.reducePow] at this
    rw [this, h]; rfl
  · intro e
    have : v ^^^ (v ^^^ 8) = v ^^^ v := by rw [e]
    rw [← Nat.xor_assoc, Nat.xor_self, Nat.zero_xor] at this
    omega
theorem xor1 {v : Nat} (hv : v < 256) : v ^^^ 1 < 256 ∧ v ^^^ 1 ≠ v := by
  refine ⟨Nat.xor_lt_two_pow (n := 8) hv (by decide), ?_⟩
  intro e
  have : v ^^^ (v ^^^ 1) = v ^^^ v := by rw [e]
  rw [← Nat.xor_assoc, Nat.xor_self, Nat.zero_xor] at this
  omega
end Go.V

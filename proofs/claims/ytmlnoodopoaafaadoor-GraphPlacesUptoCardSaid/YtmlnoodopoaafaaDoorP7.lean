/-
  What an oop is called; what an object has behind its oops.
-/
import Derived.Test.YtmlnoodopoaafaaDoorP6
set_option linter.unusedSimpArgs false
set_option linter.unusedVariables false
namespace Go.V
open Go
theorem HOk.few_obs {x : HW} (hx : HOk x) : x.a.obs.length < 4194304 := by
  have h1 : (x.a.obs.map Ob.at_).Nodup := by
    rw [List.nodup_iff_pairwise_ne, List.pairwise_map]
    exact hx.lay.sort.imp (fun {a b} h e => by unfold Ob.stop at h; omega)
  have h2 := nodup_le (m := List.range x.ws.length) h1 (fun y hy => by
    obtain ⟨b, hb, rfl⟩ := List.mem_map.1 hy
    have := hx.lay.at_lt hb
    exact List.mem_range.2 (by omega))
  have h3 := hx.lay.len
  simp only [List.length_map, List.length_range] at h2
  omega
def nameA (l : List Nat) (o : Nat) : Nat := if tagO o ≤ 2 then o else if o ∈ l then 8 * (l.idxOf o + 1) else 4
def byteA (b : Ob) (i : Nat) : Nat := b.body.getD (b.many + i / 8) 0 / 2 ^ (i % 8 * 8) % 256
def packA (b : Ob) : Nat → List Nat
  | 0 => []
  | i + 1 => let l := if i % 8 = 0 then packA b i ++ [0] else packA b i
    l.set (i / 8) (l.getD (i / 8) 0 ||| byteA b i * 2 ^ (i % 8 * 8))
def restA (b : Ob) : List Nat := if b.hd.fmt = 4 then b.body else packA b b.bytesI.toNat
theorem packA_len (b : Ob) : ∀ i, (packA b i).length = (i + 7) / 8 := by
  intro i
  induction i with
  | zero => rfl
  | succ i ih =>
    simp only [packA, List.length_set]
    split
    · rw [List.length_append, ih]; simp; omega
    · rw [ih]; omega
theorem byteA_lt (b : Ob) (i : Nat) : byteA b i < 256 := Nat.mod_lt _ (by omega)
theorem packA_small (b : Ob) : ∀ i, ∀ y ∈ packA b i, y < 18446744073709551616 := by
  intro i
  induction i with
  | zero => intro y hy; cases hy
  | succ i ih =>
    have hl : ∀ y ∈ (if i % 8 = 0 then packA b i ++ [0] else packA b i), y < 18446744073709551616 := by
      intro y hy
      split at hy
      · rcases List.mem_append.1 hy with h | h
        · exact ih y h
        · rw [List.mem_singleton.1 h]; omega
      · exact ih y hy
    intro y hy
    simp only [packA] at hy
    rcases List.mem_or_eq_of_mem_set hy with h | rfl
    · exact hl y h
    · refine orC ?_ ?_
      · rw [List.getD_eq_getElem?_getD]
        cases e : (if i % 8 = 0 then packA b i ++ [0] else packA b i)[i / 8]? with
        | none => simp
        | some z => exact hl z (List.mem_of_getElem? e)
      · have h1 := byteA_lt b i
        have h2 : 2 ^ (i % 8 * 8) ≤ 72057594037927936 := Nat.le_trans (Nat.pow_le_pow_right (by omega) (show i % 8 * 8 ≤ 56 by omega)) (by decide)
        exact Nat.lt_of_le_of_lt (Nat.mul_le_mul (show byteA b i ≤ 255 by omega) h2) (by decide)
end Go.V
namespace Go.Proofs.YtmlnoodopoaafaaDoor
open Go Go.V
set_option maxHeartbeats 6400000
set_option maxRecDepth 100000
theorem name_spec (p q : Nat) (a : AH) (m : LN) (hm : LOk a m) (ha : a.obs.length < 4194304) (o : Nat) (ho : o < 18446744073709551616) :
    Fun Tryd.prog 44 [ptr0 q, uv o] [LA q p m] (fun v Post => v = uv (nameA m.l o) ∧ Post = [LA q p m]) := by
  have hll := line_len hm.nodup hm.obs
  refine Fun.conv (Pre := LMem q p m) (R := []) (Q := fun v Post => v = uv (nameA m.l o) ∧ Post = LMem q p m) ?_ (by simp [V.Spl, LA]) (fun v Post hv => by obtain ⟨rfl, rfl⟩ := hv; exact ⟨_, ⟨rfl, rfl⟩, Imp.perm (by simp [LA])⟩)
  refine Fun.intro low44 (by simp [n44]) ?_
  have ht : tagO o ≤ 4 := by unfold tagO; repeat' split
                             all_goals omega
  simp only [LMem]
  unfold nameA
  refine GOH ?_
  refine st_callP (tag_spec o ho) (by rfl) ?_
  by_cases h : tagO o ≤ 2
  · rw [if_pos h]
    have h3 : tagO o = 0 ∨ tagO o = 1 ∨ tagO o = 2 := by omega
    rcases h3 with e | e | e
    all_goals
      rw [e]
      refine GOH ?_
      exact endQ_mk (.inr rfl) (.tmp (by rfl) .nil) ⟨rfl, rfl⟩ (by exact IMx)
  · rw [if_neg h]
    have h3 : tagO o = 3 ∨ tagO o = 4 := by omega
    by_cases hmem : o ∈ m.l
    · rw [if_pos hmem]
      have hg := met_some hm.nodup hmem
      have hidx := List.idxOf_lt_length_iff.2 hmem
      have hob := object_spec (m.l.idxOf o + 1) (by omega) (by omega)
      generalize m.l.idxOf o = k at *
      rcases h3 with e | e
      all_goals
        rw [e]
        refine GOH ?_
        refine st_lookup (E := kU) (k := o) (by rfl) (by rfl) rfl (by (focus ((repeat (first | with_reducible exact HasO.here | apply HasO.there)); done))) hm.map ?_
        rw [hg]
        simp only [Option.map_some, lookV, Bool.false_eq_true, if_false]
        refine GOH ?_
        rw [show decide ((0 : Int) < ((k + 1 : Nat) : Int)) = true from decide_eq_true (by omega)]
        refine GOH ?_
        refine st_callP hob (by rfl) ?_
        refine GOH ?_
        exact endQ_mk (.inr rfl) (.tmp (by rfl) .nil) ⟨rfl, rfl⟩ (by exact IMx)
    · rw [if_neg hmem]
      have hg := met_none hmem
      rcases h3 with e | e
      all_goals
        rw [e]
        refine GOH ?_
        refine st_lookup (E := kU) (k := o) (by rfl) (by rfl) rfl (by (focus ((repeat (first | with_reducible exact HasO.here | apply HasO.there)); done))) hm.map ?_
        rw [hg]
        simp only [Option.map_none, lookV, Bool.false_eq_true, if_false]
        refine GOH ?_
        exact endQ_mk (.inr rfl) (.tmp (by rfl) .nil) ⟨rfl, rfl⟩ (by exact IMx)
theorem rest_spec (p : Nat) (x : HW) (hx : HOk x) (o : Nat) (b : Ob) (hb : getO x.a.obs o = some b) (ho : o < 18446744073709551616) (hd : Hd) (hf : hd.fmt = b.hd.fmt) (hs : hd.slots = b.hd.slots) :
    Fun Tryd.prog 47 [ptr0 p, uv o, .agg (hdEnc hd).toArray] [HA p x] (fun v Post => ∃ sp, IsSl 1 v (restA b).length ((restA b).map uv) sp ∧ Post = [slA v ((restA b).map uv) sp, HA p x]) := by
  obtain ⟨hw, hm⟩ := hx.word hb
  have hok := hx.lay.ok b hm
  have hmany := hok.many
  have hsl := hok.may.slots
  have hlen := hok.len
  have hby := bytesV_spec p x hx o b hb ho
  refine Fun.intro low47 (by simp [n47]) ?_
  refine VC.seq_reg ?_
  refine st_box (by rfl) (fun q => ?_)
  simp only [Value.cells, hdEnc, hf, hs]
  unfold restA
  by_cases h4 : b.hd.fmt = 4
  · rw [if_pos h4]
    refine GOH ?_
    rw [show decide ((b.hd.fmt : Int) = 4) = true from decide_eq_true (by omega)]
    refine GOH ?_
    refine VC.loop (α := Nat × Value × List Value) (Γf := fun s => [(0, ptr0 p), (1, uv o), (6, s.2.1), (19, vi b.hd.slots), (20, vi s.1)]) (Hf := fun s => [slA s.2.1 ((b.body.take s.1).map uv) s.2.2, HA p x])
      (I := fun s => s.1 ≤ b.hd.slots ∧ IsSl 1 s.2.1 s.1 ((b.body.take s.1).map uv) s.2.2) (μ := fun s => b.hd.slots - s.1) (0, .slice none 0 0, []) ⟨Nat.zero_le _, .nil⟩ (by exact SUx) ?_ ?_
    · exact Imp.cut (M := [HA p x]) (by exact IMx) Imp.fresh
    rintro ⟨i, sv, sp⟩ ⟨i1, i2⟩
    simp only at i1 i2 ⊢
    obtain ⟨a1, c1, rfl⟩ := i2.form
    refine GOH ?_
    by_cases hlt : i < b.hd.slots
    · rw [show decide ((i : Int) < (b.hd.slots : Int)) = true from decide_eq_true (by omega)]
      obtain ⟨u, hu⟩ : ∃ u, b.body[i]? = some u := ⟨_, List.getElem?_eq_getElem (by omega)⟩
      refine GOH ?_
      refine st_callS (wordV_spec p x hx o b hb ho h4 i u hu) (by rfl) (by exact TKx) ?_
      refine GOH ?_
      refine st_bslice (out := [uv u]) (by rfl) (by rfl) (fun r => ?_)
      refine st_append (k := i) (m := 1) (xs := (b.body.take i).map uv) (sp := sp) (ys := [uv u]) (by rfl) (by rfl) i2 (by exact TKx) (by rfl) ?_ rfl (by rfl) (by rfl) (by decide) (by omega) (fun sv' sp' hsl' => ?_)
      · exact ⟨rfl, fun a ha => by simp only [List.flatten_cons, List.mem_append]; exact .inl ha⟩
      have hmap : (b.body.take i).map uv ++ [uv u] = (b.body.take (i + 1)).map uv := by rw [List.take_add_one, hu]; simp
      rw [hmap] at hsl' ⊢
      refine GOH ?_
      exact ⟨(i + 1, sv', sp'), ⟨by simp only; omega, hsl'⟩, by simp only; omega, by exact SUx, by exact IMx⟩
    · rw [show decide ((i : Int) < (b.hd.slots : Int)) = false from decide_eq_false (by omega)]
      rw [List.take_of_length_le (by omega)] at i2 ⊢
      have hi : i = b.body.length := by omega
      subst hi
      refine GOH ?_
      exact endQ_mk (.inr rfl) (.tmp (by rfl) .nil) ⟨sp, i2, rfl⟩ (by simp only [tup]; exact IMx)
  · rw [if_neg h4]
    refine GOH ?_
    rw [show decide ((b.hd.fmt : Int) = 4) = false from decide_eq_false (by omega)]
    refine GOH ?_
    refine st_callS hby (by rfl) (by exact TKx) ?_
    refine GOH ?_
    have hbI : b.bytesI ≤ ((b.hd.slots - b.many : Nat) : Int) * 8 := by unfold Ob.bytesI; split <;> omega
    generalize hN : b.bytesI.toNat = N
    refine VC.loop (α := Nat × Value × List Value) (Γf := fun s => [(0, ptr0 p), (1, uv o), (6, s.2.1), (42, vi b.bytesI), (43, vi s.1)]) (Hf := fun s => [slA s.2.1 ((packA b s.1).map uv) s.2.2, HA p x])
      (I := fun s => s.1 ≤ N ∧ IsSl 1 s.2.1 (packA b s.1).length ((packA b s.1).map uv) s.2.2) (μ := fun s => N - s.1) (0, .slice none 0 0, []) ⟨Nat.zero_le _, .nil⟩ (by exact SUx) ?_ ?_
    · exact Imp.cut (M := [HA p x]) (by exact IMx) Imp.fresh
    rintro ⟨i, sv, sp⟩ ⟨i1, i2⟩
    simp only at i1 i2 ⊢
    obtain ⟨a1, c1, rfl⟩ := i2.form
    have hpl := packA_len b i
    have hps := packA_small b i
    refine GOH ?_
    by_cases hlt : i < N
    · rw [show decide ((i : Int) < b.bytesI) = true from decide_eq_true (by omega)]
      obtain ⟨u, hu⟩ : ∃ u, b.body[b.many + i / 8]? = some u := ⟨_, List.getElem?_eq_getElem (by omega)⟩
      have hby2 := byte_spec p x hx o b hb ho i u (by omega) hu
      have hbe : u / 2 ^ (i % 8 * 8) % 256 = byteA b i := by unfold byteA; rw [List.getD_eq_getElem?_getD, hu]; rfl
      rw [hbe] at hby2
      have hbl := byteA_lt b i
      have hsh : 2 ^ (i % 8 * 8) ≤ 72057594037927936 := Nat.le_trans (Nat.pow_le_pow_right (by omega) (show i % 8 * 8 ≤ 56 by omega)) (by decide)
      have hmod : byteA b i * 2 ^ (i % 8 * 8) % 18446744073709551616 = byteA b i * 2 ^ (i % 8 * 8) := Nat.mod_eq_of_lt (Nat.lt_of_le_of_lt (Nat.mul_le_mul (show byteA b i ≤ 255 by omega) hsh) (by decide))
      have hstep : packA b (i + 1) = (if i % 8 = 0 then packA b i ++ [0] else packA b i).set (i / 8) ((if i % 8 = 0 then packA b i ++ [0] else packA b i).getD (i / 8) 0 ||| byteA b i * 2 ^ (i % 8 * 8)) := rfl
      have hj56 : i % 8 * 8 ≤ 56 := by omega
      generalize byteA b i = y at *
      refine GOH ?_
      refine st_callS hby2 (by rfl) (by exact TKx) ?_
      refine GOH ?_
      by_cases h8 : i % 8 = 0
      · rw [if_pos h8] at hstep
        rw [show decide (((i % 8 : Nat) : Int) = 0) = true from decide_eq_true (by omega)]
        refine GOH ?_
        refine st_bslice (out := [uv 0]) (by rfl) (by rfl) (fun r => ?_)
        refine st_append (k := (packA b i).length) (m := 1) (xs := (packA b i).map uv) (sp := sp) (ys := [uv 0]) (by rfl) (by rfl) i2 (by exact TKx) (by rfl) ?_ rfl (by rfl) (by rfl) (by decide) (by omega) (fun sv' sp' hsl' => ?_)
        · exact ⟨rfl, fun a ha => by simp only [List.flatten_cons, List.mem_append]; exact .inl ha⟩
        have hmap : (packA b i).map uv ++ [uv 0] = (packA b i ++ [0]).map uv := by simp
        have hlq : (packA b i).length + 1 = (packA b i ++ [0]).length := by simp
        rw [hmap, hlq] at hsl'
        rw [hmap]
        have hps' : ∀ w ∈ packA b i ++ [0], w < 18446744073709551616 := fun w hw => by
          rcases List.mem_append.1 hw with h | h
          · exact hps w h
          · rw [List.mem_singleton.1 h]; omega
        obtain ⟨a', c', rfl⟩ := hsl'.form
        have hl : i / 8 < (packA b i ++ [0]).length := by simp; omega
        obtain ⟨w, hw2⟩ : ∃ w, (packA b i ++ [0])[i / 8]? = some w := ⟨_, List.getElem?_eq_getElem hl⟩
        have hwl := hps' w (List.mem_of_getElem? hw2)
        have hgd : (packA b i ++ [0]).getD (i / 8) 0 = w := by rw [List.getD_eq_getElem?_getD, hw2]; rfl
        rw [hgd] at hstep
        obtain ⟨bb, oo, cc, hk2, _, _⟩ := hsl'.some (by omega)
        simp only [Value.slice.injEq] at hk2
        obtain ⟨rfl, hk3, rfl⟩ := hk2
        have hmem := slA_mem (b := bb) (o := oo) (n := (packA b i ++ [0]).length) (c := c') (sp := sp') hw2
        have ej : (((i % 8 : Nat) : Int) * 8).toNat = i % 8 * 8 := by omega
        have hset := IsSl.setU (i := i / 8) (m := w ||| y * 2 ^ (i % 8 * 8)) hsl'
        have hsl3 : (((packA b i ++ [0]).set (i / 8) (w ||| y * 2 ^ (i % 8 * 8)))).length = (packA b i ++ [0]).length := List.length_set
        refine GOH ?_
        rw [ej, hmod]
        refine st_storeS (i := i / 8) (by rfl) (by rfl) (by exact TKx) (by omega) hl ?_
        refine GOH ?_
        refine ⟨(i + 1, _, sp'), ⟨by simp only; omega, ?_⟩, by simp only; omega, by exact SUx, ?_⟩
        · simp only [hstep, hsl3]; exact hset
        · simp only [hstep]; exact IMx
      · rw [if_neg h8] at hstep
        rw [show decide (((i % 8 : Nat) : Int) = 0) = false from decide_eq_false (by omega)]
        have hsl' := i2
        have hps' := hps
        obtain ⟨sp', rfl⟩ : ∃ sp', sp' = sp := ⟨_, rfl⟩
        obtain ⟨c', rfl⟩ : ∃ c', c' = c1 := ⟨_, rfl⟩
        have hl : i / 8 < (packA b i).length := by omega
        obtain ⟨w, hw2⟩ : ∃ w, (packA b i)[i / 8]? = some w := ⟨_, List.getElem?_eq_getElem hl⟩
        have hwl := hps' w (List.mem_of_getElem? hw2)
        have hgd : (packA b i).getD (i / 8) 0 = w := by rw [List.getD_eq_getElem?_getD, hw2]; rfl
        rw [hgd] at hstep
        obtain ⟨bb, oo, cc, hk2, _, _⟩ := hsl'.some (by omega)
        simp only [Value.slice.injEq] at hk2
        obtain ⟨rfl, hk3, rfl⟩ := hk2
        have hmem := slA_mem (b := bb) (o := oo) (n := (packA b i).length) (c := c') (sp := sp') hw2
        have ej : (((i % 8 : Nat) : Int) * 8).toNat = i % 8 * 8 := by omega
        have hset := IsSl.setU (i := i / 8) (m := w ||| y * 2 ^ (i % 8 * 8)) hsl'
        have hsl3 : (((packA b i).set (i / 8) (w ||| y * 2 ^ (i % 8 * 8)))).length = (packA b i).length := List.length_set
        refine GOH ?_
        rw [ej, hmod]
        refine st_storeS (i := i / 8) (by rfl) (by rfl) (by exact TKx) (by omega) hl ?_
        refine GOH ?_
        refine ⟨(i + 1, _, sp'), ⟨by simp only; omega, ?_⟩, by simp only; omega, by exact SUx, ?_⟩
        · simp only [hstep, hsl3]; exact hset
        · simp only [hstep]; exact IMx
    · rw [show decide ((i : Int) < b.bytesI) = false from decide_eq_false (by omega)]
      have hi : i = N := by omega
      subst hi
      refine GOH ?_
      exact endQ_mk (.inr rfl) (.tmp (by rfl) .nil) ⟨sp, i2, rfl⟩ (by simp only [tup]; exact IMx)
end Go.Proofs.YtmlnoodopoaafaaDoor
namespace Go.V
open Go
def RdU (A : List Atom) (v : Value) (xs : List Nat) : Prop := ∃ a c, v = .slice a xs.length c ∧ ∀ i u, xs[i]? = some u → ∃ b o, a = some ⟨b, o, none⟩ ∧ Atom.cell b (o + i) (uv u) ∈ A
theorem IsSl.rdU {v : Value} {xs : List Nat} {sp : List Value} (h : IsSl 1 v xs.length (xs.map uv) sp) : RdU (slA v (xs.map uv) sp) v xs := by
  by_cases h0 : 0 < xs.length
  · obtain ⟨b, o, c, rfl, _, _⟩ := h.some h0
    exact ⟨_, _, rfl, fun i u hu => ⟨b, o, rfl, slA_mem hu⟩⟩
  · obtain ⟨a, c, rfl⟩ := h.form
    exact ⟨_, _, rfl, fun i u hu => by have := (List.getElem?_eq_some_iff.1 hu).1; omega⟩
theorem take_same {xs ys : List Nat} {i u : Nat} (h : xs.take i = ys.take i) (hx : xs[i]? = some u) (hy : ys[i]? = some u) : xs.take (i + 1) = ys.take (i + 1) := by
  rw [List.take_add_one, List.take_add_one, hx, hy, h]
end Go.V
namespace Go.Proofs.YtmlnoodopoaafaaDoor
open Go Go.V
set_option maxHeartbeats 6400000
set_option maxRecDepth 100000
theorem sameN_spec (A B : List Atom) (v1 v2 : Value) (xs ys : List Nat) (h1 : RdU A v1 xs) (h2 : RdU B v2 ys) (hl : xs.length ≤ 4611686018427387904) : Fun Tryd.prog 12 [v1, v2] [A, B] (fun v Post => v = .bool (decide (xs = ys)) ∧ Post = [A, B]) := by
  obtain ⟨a1, c1, rfl, m1⟩ := h1
  obtain ⟨a2, c2, rfl, m2⟩ := h2
  refine Fun.intro low12 (by simp [n12]) ?_
  refine GOH ?_
  by_cases hle : xs.length = ys.length
  rotate_left
  · rw [show decide ((xs.length : Int) = (ys.length : Int)) = false from decide_eq_false (by omega), decide_eq_false (show ¬ xs = ys from fun e => hle (by rw [e]))]
    refine GOH ?_
    exact endQ_mk (.inr rfl) (.tmp (by rfl) .nil) ⟨rfl, rfl⟩ (by exact IMx)
  rw [show decide ((xs.length : Int) = (ys.length : Int)) = true from decide_eq_true (by omega)]
  rw [← hle]
  refine GOH ?_
  refine VC.loop (α := Nat) (Γf := fun i => [(0, .slice a1 xs.length c1), (1, .slice a2 xs.length c2), (5, vi i)]) (Hf := fun _ => [A, B]) (I := fun i => i ≤ xs.length ∧ xs.take i = ys.take i) (μ := fun i => xs.length - i) 0 ⟨Nat.zero_le _, rfl⟩ (by exact SUx) (Imp.refl _) ?_
  rintro i ⟨i1, i2⟩
  refine GOH ?_
  by_cases hlt : i < xs.length
  · rw [show decide ((i : Int) < (xs.length : Int)) = true from decide_eq_true (by omega)]
    obtain ⟨u, hu⟩ : ∃ u, xs[i]? = some u := ⟨_, List.getElem?_eq_getElem hlt⟩
    obtain ⟨w, hw⟩ : ∃ w, ys[i]? = some w := ⟨_, List.getElem?_eq_getElem (by omega)⟩
    obtain ⟨b1, o1, rfl, k1⟩ := m1 i u hu
    obtain ⟨b2, o2, rfl, k2⟩ := m2 i w hw
    refine GOH ?_
    by_cases e : u = w
    · subst e
      rw [show decide ((u : Int) = (u : Int)) = true from decide_eq_true rfl]
      refine GOH ?_
      exact ⟨i + 1, ⟨by omega, take_same i2 hu hw⟩, by omega, by exact SUx, Imp.refl _⟩
    · rw [show decide ((u : Int) = (w : Int)) = false from decide_eq_false (by omega), decide_eq_false (show ¬ xs = ys from fun e2 => e (by rw [e2] at hu; rw [hu] at hw; exact Option.some.inj hw))]
      refine GOH ?_
      exact endQ_mk (.inr rfl) (.tmp (by rfl) .nil) ⟨rfl, rfl⟩ (by exact IMx)
  · rw [show decide ((i : Int) < (xs.length : Int)) = false from decide_eq_false (by omega)]
    rw [List.take_of_length_le (by omega), List.take_of_length_le (by omega)] at i2
    rw [decide_eq_true i2]
    refine GOH ?_
    exact endQ_mk (.inr rfl) (.tmp (by rfl) .nil) ⟨rfl, rfl⟩ (by exact IMx)
theorem sameO_spec (A B : List Atom) (v1 v2 : Value) (xs ys : List Nat) (h1 : RdU A v1 xs) (h2 : RdU B v2 ys) (hl : xs.length ≤ 4611686018427387904) : Fun Tryd.prog 25 [v1, v2] [A, B] (fun v Post => v = .bool (decide (xs = ys)) ∧ Post = [A, B]) := by
  obtain ⟨a1, c1, rfl, m1⟩ := h1
  obtain ⟨a2, c2, rfl, m2⟩ := h2
  refine Fun.intro low25 (by simp [n25]) ?_
  refine GOH ?_
  by_cases hle : xs.length = ys.length
  rotate_left
  · rw [show decide ((xs.length : Int) = (ys.length : Int)) = false from decide_eq_false (by omega), decide_eq_false (show ¬ xs = ys from fun e => hle (by rw [e]))]
    refine GOH ?_
    exact endQ_mk (.inr rfl) (.tmp (by rfl) .nil) ⟨rfl, rfl⟩ (by exact IMx)
  rw [show decide ((xs.length : Int) = (ys.length : Int)) = true from decide_eq_true (by omega)]
  rw [← hle]
  refine GOH ?_
  refine VC.loop (α := Nat) (Γf := fun i => [(0, .slice a1 xs.length c1), (1, .slice a2 xs.length c2), (5, vi i)]) (Hf := fun _ => [A, B]) (I := fun i => i ≤ xs.length ∧ xs.take i = ys.take i) (μ := fun i => xs.length - i) 0 ⟨Nat.zero_le _, rfl⟩ (by exact SUx) (Imp.refl _) ?_
  rintro i ⟨i1, i2⟩
  refine GOH ?_
  by_cases hlt : i < xs.length
  · rw [show decide ((i : Int) < (xs.length : Int)) = true from decide_eq_true (by omega)]
    obtain ⟨u, hu⟩ : ∃ u, xs[i]? = some u := ⟨_, List.getElem?_eq_getElem hlt⟩
    obtain ⟨w, hw⟩ : ∃ w, ys[i]? = some w := ⟨_, List.getElem?_eq_getElem (by omega)⟩
    obtain ⟨b1, o1, rfl, k1⟩ := m1 i u hu
    obtain ⟨b2, o2, rfl, k2⟩ := m2 i w hw
    refine GOH ?_
    by_cases e : u = w
    · subst e
      rw [show decide ((u : Int) = (u : Int)) = true from decide_eq_true rfl]
      refine GOH ?_
      exact ⟨i + 1, ⟨by omega, take_same i2 hu hw⟩, by omega, by exact SUx, Imp.refl _⟩
    · rw [show decide ((u : Int) = (w : Int)) = false from decide_eq_false (by omega), decide_eq_false (show ¬ xs = ys from fun e2 => e (by rw [e2] at hu; rw [hu] at hw; exact Option.some.inj hw))]
      refine GOH ?_
      exact endQ_mk (.inr rfl) (.tmp (by rfl) .nil) ⟨rfl, rfl⟩ (by exact IMx)
  · rw [show decide ((i : Int) < (xs.length : Int)) = false from decide_eq_false (by omega)]
    rw [List.take_of_length_le (by omega), List.take_of_length_le (by omega)] at i2
    rw [decide_eq_true i2]
    refine GOH ?_
    exact endQ_mk (.inr rfl) (.tmp (by rfl) .nil) ⟨rfl, rfl⟩ (by exact IMx)
theorem equalN_spec (A B : List Atom) (v1 v2 : Value) (xs ys : List Nat) (h1 : RdU A v1 xs) (h2 : RdU B v2 ys) (hl : xs.length ≤ 4611686018427387904) : Fun Tryd.prog 48 [v1, v2] [A, B] (fun v Post => v = .bool (decide (xs = ys)) ∧ Post = [A, B]) := by
  obtain ⟨a1, c1, rfl, m1⟩ := h1
  obtain ⟨a2, c2, rfl, m2⟩ := h2
  refine Fun.intro low48 (by simp [n48]) ?_
  refine GOH ?_
  by_cases hle : xs.length = ys.length
  rotate_left
  · rw [show decide ((xs.length : Int) = (ys.length : Int)) = false from decide_eq_false (by omega), decide_eq_false (show ¬ xs = ys from fun e => hle (by rw [e]))]
    refine GOH ?_
    exact endQ_mk (.inr rfl) (.tmp (by rfl) .nil) ⟨rfl, rfl⟩ (by exact IMx)
  rw [show decide ((xs.length : Int) = (ys.length : Int)) = true from decide_eq_true (by omega)]
  rw [← hle]
  refine GOH ?_
  refine VC.loop (α := Nat) (Γf := fun i => [(0, .slice a1 xs.length c1), (1, .slice a2 xs.length c2), (12, vi xs.length), (13, vi i)]) (Hf := fun _ => [A, B]) (I := fun i => i ≤ xs.length ∧ xs.take i = ys.take i) (μ := fun i => xs.length - i) 0 ⟨Nat.zero_le _, rfl⟩ (by exact SUx) (Imp.refl _) ?_
  rintro i ⟨i1, i2⟩
  refine GOH ?_
  by_cases hlt : i < xs.length
  · rw [show decide ((i : Int) < (xs.length : Int)) = true from decide_eq_true (by omega)]
    obtain ⟨u, hu⟩ : ∃ u, xs[i]? = some u := ⟨_, List.getElem?_eq_getElem hlt⟩
    obtain ⟨w, hw⟩ : ∃ w, ys[i]? = some w := ⟨_, List.getElem?_eq_getElem (by omega)⟩
    obtain ⟨b1, o1, rfl, k1⟩ := m1 i u hu
    obtain ⟨b2, o2, rfl, k2⟩ := m2 i w hw
    refine GOH ?_
    by_cases e : u = w
    · subst e
      rw [show decide ((u : Int) = (u : Int)) = true from decide_eq_true rfl]
      refine GOH ?_
      exact ⟨i + 1, ⟨by omega, take_same i2 hu hw⟩, by omega, by exact SUx, Imp.refl _⟩
    · rw [show decide ((u : Int) = (w : Int)) = false from decide_eq_false (by omega), decide_eq_false (show ¬ xs = ys from fun e2 => e (by rw [e2] at hu; rw [hu] at hw; exact Option.some.inj hw))]
      refine GOH ?_
      exact endQ_mk (.inr rfl) (.tmp (by rfl) .nil) ⟨rfl, rfl⟩ (by exact IMx)
  · rw [show decide ((i : Int) < (xs.length : Int)) = false from decide_eq_false (by omega)]
    rw [List.take_of_length_le (by omega), List.take_of_length_le (by omega)] at i2
    rw [decide_eq_true i2]
    refine GOH ?_
    exact endQ_mk (.inr rfl) (.tmp (by rfl) .nil) ⟨rfl, rfl⟩ (by exact IMx)
end Go.Proofs.YtmlnoodopoaafaaDoor

/-
  The chapter's examples.
-/
import Derived.Test.YtmnmandpdadedaaGreatDoorT15
import Derived.Test.YtmnmandpdadedaaGreatDoorT1
import Derived.Test.YtmnmandpdadedaaGreatDoorV14
import Derived.Test.YtmnmandpdadedaaGreatDoorV12
set_option linter.unusedSimpArgs false
set_option linter.unusedVariables false
namespace Go.Proofs.YtmnmandpdadedaaGreatDoor
open Go Go.V
set_option maxHeartbeats 3200000
set_option maxRecDepth 100000
theorem ErA.more {A B : List Atom} (h : ErA A) (hs : ∀ z ∈ A, z ∈ B) : ErA B := by
  obtain ⟨ev, h1, h2⟩ := h
  exact ⟨ev, hs _ h1, h2⟩
theorem badM_rd (A : List Atom) : MdW A badM [.string ⟨#[120, 58]⟩, .slice none 0 0, .slice none 0 0, .int .i64 0, .slice none 0 0] :=
  ⟨⟨none, 0, none, 0, none, 0, 0, 0, fun _ => [], rfl, ⟨none, 0, rfl, by decide, fun i t e => by simp [badM] at e⟩, ⟨none, 0, rfl, by decide, fun i t e => by simp [badM] at e⟩, ⟨fun h => absurd h (by decide), by decide, fun i hi => absurd hi (by simp [badM]), fun i x e => by simp [badM] at e⟩⟩, by decide, by decide⟩
theorem sumM_rd {A : List Atom} {q2 : Nat} (h : NdRd A sumN (sendC ⟨#[43]⟩ q2 0)) (q3 : Nat) : MdW (A ++ cellsAt q3 0 (sendC ⟨#[43]⟩ q2 0)) sumM [.string ⟨#[120]⟩, .slice none 0 0, .slice none 0 0, .int .i64 0, .slice (some ⟨q3, 0, none⟩) 1 1] :=
  ⟨⟨none, 0, none, 0, some ⟨q3, 0, none⟩, 1, q3, 0, fun _ => sendC ⟨#[43]⟩ q2 0, rfl, ⟨none, 0, rfl, by decide, fun i t e => by simp [sumM] at e⟩, ⟨none, 0, rfl, by decide, fun i t e => by simp [sumM] at e⟩,
    ⟨fun _ => rfl, by decide, fun i hi y hy => by
      have : i = 0 := by simp [sumM] at hi; omega
      subst this
      exact List.mem_append_right _ (by simpa using hy), fun i x e => by
      match i, e with
      | 0, e => cases e; exact h.more fun z hz => List.mem_append_left _ hz
      | i + 1, e => simp [sumM] at e⟩⟩, by decide, by decide⟩
theorem bare_at {B : List Atom} {ws : List Value} (h : MdW B sumM.bare ws) : ∃ aa ac ta tc c bk o bk2 o2 c2, ws = [.string ⟨#[120]⟩, .slice aa 0 ac, .slice ta 0 tc, vi 0, .slice (some ⟨bk, o, none⟩) 1 c] ∧ Atom.cell bk (o + 9) (.slice (some ⟨bk2, o2, none⟩) 2 c2) ∈ B ∧ Atom.cell bk2 (o2 + 21) (vi 0) ∈ B := by
  obtain ⟨⟨aa, ac, ta, tc, a, c, bk, o, us, rfl, _, _, hk⟩, _, _⟩ := h
  have ha := hk.at_ (by decide)
  have hm := hk.mem 0 (by decide)
  have hr := hk.rd 0 sumN.bare rfl
  obtain ⟨e1, e2, e3, e4, e5, e6, e7, e8, e9, e10, e11, e12, e13, a2, c2, bk2, o2, us2, hvs, hmany, ha2, hm2, hr2⟩ := nd_at hr
  rw [hvs] at hm
  have ha3 := ha2 (by decide)
  have hk2 := hm2 1 (by decide)
  have hr3 := hr2 1 mulN.bare rfl
  obtain ⟨f1, f2, f3, f4, f5, f6, f7, f8, f9, f10, f11, f12, f13, f14, f15, f16, hws⟩ := nd_open3 hr3
  rw [hws] at hk2
  subst ha ha3
  refine ⟨aa, ac, ta, tc, c, bk, o, bk2, o2, c2, rfl, ?_, ?_⟩
  · exact hm _ (mem_cellsAt.2 ⟨9, _, rfl, by rw [Nat.zero_mul, Nat.add_zero]; rfl⟩)
  · exact hk2 _ (mem_cellsAt.2 ⟨10, _, rfl, by rw [show o2 + 1 * 11 + 10 = o2 + 21 by omega]; rfl⟩)
theorem awake_spec (A : List Atom) (hE : ErA A) : Fun Tryz.prog 10 [] [A] (fun v Post => v = .bool true ∧ Post = [A]) := by
  refine Fun.intro low10 (by simp [n10]) ?_
  refine GOH ?_
  refine st_call sum_spec (by rfl) (by exact SPx) (fun v Post hv => ?_)
  obtain ⟨q, q2, rfl, rfl⟩ := hv
  simp only [CNx]
  obtain ⟨A1, hA1⟩ : ∃ A1, A1 = A ++ (cellsAt q2 0 (leafC ⟨#[97]⟩ ++ sendC ⟨#[42]⟩ q 5) ++ cellsAt q 0 (leafC ⟨#[98]⟩ ++ leafC ⟨#[99]⟩)) := ⟨_, rfl⟩
  have hE1 : ErA A1 := hE.more fun z hz => by rw [hA1]; exact List.mem_append_left _ hz
  have hn : NdRd A1 sumN (sendC ⟨#[43]⟩ q2 0) := (sum_rd q q2).more fun z hz => by rw [hA1]; exact List.mem_append_right _ hz
  have hnok := node_spec A1 hE1 sumN (by decide) _ hn
  refine VO.imp (H' := [A1]) (Imp.perm (by rw [hA1]; simp only [List.flatten_cons, List.flatten_nil, List.append_nil]; rw [← List.append_assoc]; exact List.perm_append_comm)) ?_
  have hsub1 : ∀ z ∈ A, z ∈ A1 := fun z hz => by rw [hA1]; exact List.mem_append_left _ hz
  have hA1p : ∃ X, A1.Perm (A ++ X) := ⟨_, by rw [hA1]⟩
  clear hA1
  refine st_alloc (fun p1 => ?_)
  refine GOH ?_
  refine st_call (Level_spec A1 sumN _ hn hnok) (by rfl) (by exact SPx) (fun v Post hv => ?_)
  obtain ⟨rfl, rfl⟩ := hv
  rw [e_level]
  simp only [CNx]
  refine GOH ?_
  refine st_call (Depth_spec A1 sumN _ hn hnok) (by rfl) (by exact SPx) (fun v Post hv => ?_)
  obtain ⟨rfl, rfl⟩ := hv
  rw [e_depth]
  simp only [CNx]
  refine GOH ?_
  refine st_call (Size_spec A1 sumN _ hn (by decide)) (by rfl) (by exact SPx) (fun v Post hv => ?_)
  obtain ⟨rfl, rfl⟩ := hv
  rw [e_size]
  simp only [CNx]
  refine GOH ?_
  refine st_call (checkNode_spec A1 sumN _ hn hnok) (by rfl) (by exact SPx) (fun v Post hv => ?_)
  obtain ⟨rfl, rfl⟩ := hv
  rw [e_check]
  simp only [CNx]
  refine GOH ?_
  have hl := (leaf_rd ⟨#[115, 117, 112, 101, 114]⟩ (by decide)).more (B := A1) (fun z hz => by cases hz)
  refine st_call (checkNode_spec A1 (leafN ⟨#[115, 117, 112, 101, 114]⟩) _ hl (node_spec A1 hE1 _ (by decide) _ hl)) (by rfl) (by exact SPx) (fun v Post hv => ?_)
  obtain ⟨rfl, rfl⟩ := hv
  rw [e_super]
  simp only [CNx]
  refine GOH ?_
  refine st_bslice (out := sendC ⟨#[43]⟩ q2 0) (by rfl) (by rfl) (fun q3 => ?_)
  refine GOH ?_
  refine st_alloc (fun p7 => ?_)
  refine GOH ?_
  obtain ⟨A2, hA2⟩ : ∃ A2, A2 = A1 ++ cellsAt q3 0 (sendC ⟨#[43]⟩ q2 0) := ⟨_, rfl⟩
  have hE2 : ErA A2 := hE1.more fun z hz => by rw [hA2]; exact List.mem_append_left _ hz
  have hmw : MdW A2 sumM [.string ⟨#[120]⟩, .slice none 0 0, .slice none 0 0, .int .i64 0, .slice (some ⟨q3, 0, none⟩) 1 1] := by rw [hA2]; exact sumM_rd hn q3
  have hm := hmw.ok hE2 (by decide)
  have hn2 : NdRd A2 sumN (sendC ⟨#[43]⟩ q2 0) := hn.more fun z hz => by rw [hA2]; exact List.mem_append_left _ hz
  have hA2p : ∃ X, A2.Perm (A ++ X) := by
    obtain ⟨X, hX⟩ := hA1p
    exact ⟨X ++ cellsAt q3 0 (sendC ⟨#[43]⟩ q2 0), by rw [hA2, ← List.append_assoc]; exact hX.append_right _⟩
  refine VO.imp (H' := [A2, cellsAt p7 0 [.string ⟨#[120]⟩, .slice none 0 0, .slice none 0 0, .int .i64 0, .slice (some ⟨q3, 0, none⟩) 1 1], cellsAt p1 0 (sendC ⟨#[43]⟩ q2 0)]) (Imp.cut (M := [A1, cellsAt q3 0 (sendC ⟨#[43]⟩ q2 0), cellsAt p7 0 [.string ⟨#[120]⟩, .slice none 0 0, .slice none 0 0, .int .i64 0, .slice (some ⟨q3, 0, none⟩) 1 1], cellsAt p1 0 (sendC ⟨#[43]⟩ q2 0)]) (by exact IMx) (Imp.perm (by rw [hA2]; simp))) ?_
  clear hA2
  refine st_call (Check_spec A2 sumM _ hm) (by rfl) (by exact SPx) (fun v Post hv => ?_)
  obtain ⟨rfl, rfl⟩ := hv
  rw [e_m]
  simp only [CNx]
  refine GOH ?_
  refine st_call (Check_spec A2 badM _ ((badM_rd A2).ok hE2 (by decide))) (by rfl) (by exact SPx) (fun v Post hv => ?_)
  obtain ⟨rfl, rfl⟩ := hv
  rw [e_bad]
  simp only [CNx]
  refine GOH ?_
  refine st_call (Sends_spec A2 sumM _ hm (by decide)) (by rfl) (by exact SPx) (fun v Post hv => ?_)
  obtain ⟨ssp, hsl, rfl⟩ := hv
  rw [e_sends] at *
  rw [show ([⟨#[43]⟩, ⟨#[42]⟩] : List ByteArray).length = 2 from rfl, show List.map Value.string [⟨#[43]⟩, ⟨#[42]⟩] = [.string ⟨#[43]⟩, .string ⟨#[42]⟩] from rfl] at *
  obtain ⟨sb, so, sc, rfl, hsc, hsl2⟩ := hsl.some (by decide)
  simp only [CNx]
  have hs0 : Atom.cell sb (so + 0) (.string ⟨#[43]⟩) ∈ slA (.slice (some ⟨sb, so, none⟩) 2 sc) [.string ⟨#[43]⟩, .string ⟨#[42]⟩] ssp := by
    simp [slA, cellsAt]
  refine GOH ?_
  refine st_call (Bare_spec A2 sumM _ hmw (by decide)) (by rfl) (by exact SPx) (fun v Post hv => ?_)
  obtain ⟨ws, B2, rfl, hb, rfl⟩ := hv
  simp only [CNx]
  obtain ⟨aa, ac, ta, tc, c, bk, o, bk2, o2, c2, rfl, hb1, hb2⟩ := bare_at hb
  refine GOH ?_
  refine st_alloc (fun p11 => ?_)
  refine GOH ?_
  obtain ⟨A3, hA3⟩ : ∃ A3, A3 = A2 ++ B2 := ⟨_, rfl⟩
  have hE3 : ErA A3 := hE2.more fun z hz => by rw [hA3]; exact List.mem_append_left _ hz
  have hm3 := (hmw.more (B := A3) fun z hz => by rw [hA3]; exact List.mem_append_left _ hz).ok hE3 (by decide)
  have hbb := (hb.more (B := A3) fun z hz => by rw [hA3]; exact List.mem_append_right _ hz).ok hE3 (by decide)
  have hn3 : NdRd A3 sumN (sendC ⟨#[43]⟩ q2 0) := hn2.more fun z hz => by rw [hA3]; exact List.mem_append_left _ hz
  have hc1 : Atom.cell bk (o + 9) (.slice (some ⟨bk2, o2, none⟩) 2 c2) ∈ A3 := by rw [hA3]; exact List.mem_append_right _ hb1
  have hc2 : Atom.cell bk2 (o2 + 21) (vi 0) ∈ A3 := by rw [hA3]; exact List.mem_append_right _ hb2
  have hA3p : ∃ X, A3.Perm (A ++ X) := by
    obtain ⟨X, hX⟩ := hA2p
    exact ⟨X ++ B2, by rw [hA3, ← List.append_assoc]; exact hX.append_right _⟩
  have hS : ∃ S, S = slA (.slice (some ⟨sb, so, none⟩) 2 sc) [.string ⟨#[43]⟩, .string ⟨#[42]⟩] ssp := ⟨_, rfl⟩
  obtain ⟨S, hS⟩ := hS
  rw [← hS] at hs0 ⊢
  clear hS
  refine VO.imp (H' := [A3, S, cellsAt p11 0 [.string ⟨#[120]⟩, .slice aa 0 ac, .slice ta 0 tc, vi 0, .slice (some ⟨bk, o, none⟩) 1 c], cellsAt p1 0 (sendC ⟨#[43]⟩ q2 0)]) (Imp.cut (M := [A2, B2, S, cellsAt p11 0 [.string ⟨#[120]⟩, .slice aa 0 ac, .slice ta 0 tc, vi 0, .slice (some ⟨bk, o, none⟩) 1 c], cellsAt p1 0 (sendC ⟨#[43]⟩ q2 0)]) (by exact IMx) (Imp.perm (by rw [hA3]; simp))) ?_
  clear hA3
  refine st_call (Same_spec A3 sumM sumM.bare _ _ hm3 hbb) (by rfl) (by exact SPx) (fun v Post hv => ?_)
  obtain ⟨rfl, rfl⟩ := hv
  rw [e_same]
  simp only [CNx]
  refine GOH ?_
  refine st_call (SameNode_spec A3 sumN sumN _ _ hn3 hn3) (by rfl) (by exact SPx) (fun v Post hv => ?_)
  obtain ⟨rfl, rfl⟩ := hv
  rw [e_one]
  simp only [CNx]
  refine GOH ?_
  obtain ⟨X, hX⟩ := hA3p
  exact endQ_mk (Post := [A]) (.inr rfl) (.tmp (by rfl) .nil) ⟨rfl, rfl⟩ (Imp.cut (M := [A3]) (by exact IMx) ⟨[X], by simpa [V.Spl] using hX⟩)
theorem Has.at {b o i : Nat} {vs : List Value} {v : Value} {L : SH} (h : vs[i]? = some v) : Has (cellsAt b o vs :: L) b (o + i) v := .cells (by omega) (by rw [Nat.add_sub_cancel_left]; exact h)
theorem Upd.at {b o i : Nat} {vs ws : List Value} {u : Value} {L : SH} (h : i < vs.length) (hw : vs.set i u = ws) : Upd (cellsAt b o vs :: L) b (o + i) [u] (cellsAt b o ws :: L) := by
  subst hw
  exact Upd.set1 rfl h
set_option maxHeartbeats 1600000
theorem txLen_of {l : List ByteArray} {tl : List Value} {b : Nat} (ht : tl.length = 2) (hl : l.length ≤ 1099511627776) (hsz : ∀ t ∈ l, t.size ≤ 140737488355328) : TxLen (cellsAt b 0 (((l.map Value.string ++ tl).set l.length (.string roomT)).set (l.length + 1) (.string moreT))) (.slice (some ⟨b, 0, none⟩) l.length (l.length + 2)) l := by
  refine ⟨b, _, rfl, Nat.le_refl _, hl, fun i t hi => ⟨?_, hsz t (List.mem_of_getElem? hi)⟩, ?_, ?_⟩
  · have hil := (List.getElem?_eq_some_iff.1 hi).1
    refine mem_cellsAt.2 ⟨i, _, ?_, by rw [Nat.zero_add]⟩
    rw [List.getElem?_set_ne (by omega), List.getElem?_set_ne (by omega), List.getElem?_append_left (by simpa using hil), List.getElem?_map, hi]; rfl
  · refine mem_cellsAt.2 ⟨l.length, _, ?_, by rw [Nat.zero_add]⟩
    rw [List.getElem?_set_ne (by omega), List.getElem?_set_self (by simp [ht])]
  · refine mem_cellsAt.2 ⟨l.length + 1, _, ?_, by rw [Nat.zero_add]⟩
    rw [List.getElem?_set_self (by simp [ht])]
theorem txOwn_of {l : List ByteArray} {tl : List Value} {b : Nat} (ht : tl.length = 2) (hl : l.length ≤ 1099511627776) (hsz : ∀ t ∈ l, t.size ≤ 140737488355328) : TxOwn (.slice (some ⟨b, 0, none⟩) l.length (l.length + 2)) l (cellsAt b 0 (((l.map Value.string ++ tl).set l.length (.string roomT)).set (l.length + 1) (.string moreT))) := by
  obtain ⟨u, w, rfl⟩ : ∃ u w, tl = [u, w] := by
    rcases tl with _ | ⟨u, _ | ⟨w, _ | ⟨z, r⟩⟩⟩
    · simp at ht
    · simp at ht
    · exact ⟨u, w, rfl⟩
    · simp at ht
  have e : ((l.map Value.string ++ [u, w]).set l.length (.string roomT)).set (l.length + 1) (.string moreT) = l.map Value.string ++ [.string roomT, .string moreT] := by
    rw [List.set_append_right _ _ (by simp), List.length_map, Nat.sub_self, List.set_append_right _ _ (by simp), List.length_map, Nat.add_sub_cancel_left]
    rfl
  refine ⟨[.string roomT, .string moreT], .mk (by simp) (by simp) (by omega), ?_, hl, hsz⟩
  rw [e]; rfl
theorem lendNames_spec (A : List Atom) (av : Value) (l : List ByteArray) (h : RdT A av l) (hll : l.length ≤ 1099511627776) : Fun Tryz.prog 44 [av] [A] (fun v Post => ∃ B, (TxLen B v l ∧ TxOwn v l B) ∧ Post = [A, B]) := by
  obtain ⟨a, c, rfl, hl, hr⟩ := h
  have hsz : ∀ t ∈ l, t.size ≤ 140737488355328 := fun t ht => by
    obtain ⟨i, hi⟩ := List.getElem?_of_mem ht
    obtain ⟨_, _, _, _, h⟩ := hr i t hi
    exact h
  refine Fun.intro low44 (by simp [n44]) ?_
  refine GOH ?_
  refine st_mkslice (li := (l.length : Int) + 2) (ci := (l.length : Int) + 2) (by rfl) (by rfl) (by omega) (by rfl) (fun db => ?_)
  rw [show ((l.length : Int) + 2).toNat = l.length + 2 by omega]
  have hz := zeroRow_length (l.length + 2) [Value.string ⟨#[]⟩]
  generalize zeroRow (l.length + 2) [Value.string ⟨#[]⟩] = tl0 at hz ⊢
  simp only [List.length_singleton, Nat.mul_one] at hz
  refine GOH ?_
  refine VC.loop (α := Nat × List Value) (Γf := fun z => [(0, .slice a l.length c), (3, .slice (some ⟨db, 0, none⟩) (l.length + 2) (l.length + 2)), (4, vi z.1)]) (Hf := fun z => [A, cellsAt db 0 ((l.take z.1).map Value.string ++ z.2)]) (I := fun z => z.1 ≤ l.length ∧ z.2.length = l.length + 2 - z.1) (μ := fun z => l.length - z.1) (0, tl0) ⟨Nat.zero_le _, hz⟩ (by exact SUx) (by simp only [List.take_zero, List.map_nil, List.nil_append]; exact IMx) ?_
  rintro ⟨j, tl⟩ ⟨i1, i2⟩
  simp only at i1 i2
  dsimp only
  refine GOH ?_
  by_cases hj : j < l.length
  rotate_left
  · rw [List.take_of_length_le (by omega)]
    rw [show decide ((j : Int) < (l.length : Int)) = false from decide_eq_false (by omega)]
    refine GOH ?_
    have hlen : (l.map Value.string ++ tl).length = l.length + 2 := by rw [List.length_append, List.length_map]; omega
    generalize hL : l.map Value.string ++ tl = L at hlen ⊢
    refine st_store' (by rfl) (by rfl) (by rfl) (by rfl) (by rfl) (Upd.there (Upd.set1 (i := l.length) (Nat.zero_add _) (by omega))) ?_
    have hlen2 : (L.set l.length (.string roomT)).length = l.length + 2 := by rw [List.length_set]; exact hlen
    have hmade := And.intro (txLen_of (l := l) (tl := tl) (b := db) (by omega) hl hsz) (txOwn_of (l := l) (tl := tl) (b := db) (by omega) hl hsz)
    rw [hL] at hmade
    change VO _ _ _ _ [A, cellsAt db 0 (L.set l.length (.string roomT))] _ _
    generalize L.set l.length (.string roomT) = L2 at hlen2 hmade ⊢
    refine GOH ?_
    refine st_store' (by rfl) (by rfl) (by rfl) (by rfl) (by rfl) (Upd.there (Upd.set1 (i := l.length + 1) (Nat.zero_add _) (by omega))) ?_
    change VO _ _ _ _ [A, cellsAt db 0 (L2.set (l.length + 1) (.string moreT))] _ _
    generalize L2.set (l.length + 1) (.string moreT) = L3 at hmade ⊢
    refine GOH ?_
    refine st_slcL (l := 0) (h := l.length) (o' := 0) (by rfl) .dft (.num (by rfl)) ⟨by omega, by omega⟩ (by split <;> omega) ?_
    refine GOH ?_
    exact endQ_mk (Post := [A, cellsAt db 0 L3]) (.inr rfl) (.tmp (by rfl) .nil) ⟨_, hmade, rfl⟩ (by exact IMx)
  rw [show decide ((j : Int) < (l.length : Int)) = true from decide_eq_true (by omega)]
  obtain ⟨t, ht⟩ : ∃ t, l[j]? = some t := ⟨_, List.getElem?_eq_getElem hj⟩
  obtain ⟨b, o, rfl, hm, hts⟩ := hr j t ht
  have htk : l.take (j + 1) = l.take j ++ [t] := by rw [List.take_add_one, ht]; rfl
  have hlj : ((l.take j).map Value.string).length = j := by simp; omega
  have hset : (((l.take j).map Value.string) ++ tl).set j (.string t) = (l.take (j + 1)).map Value.string ++ tl.drop 1 := by
    rw [List.set_append_right _ _ (by omega), hlj, Nat.sub_self, htk, List.map_append, List.append_assoc]
    cases tl with
    | nil => simp at i2; omega
    | cons u tl => simp
  refine GOH ?_
  refine st_store' (by rfl) (by rfl) (by rfl) (by rfl) (by rfl) (Upd.there (Upd.set1 (i := j) (Nat.zero_add _) (by rw [List.length_append, hlj]; omega))) ?_
  rw [hset]
  refine GOH ?_
  exact ⟨(j + 1, tl.drop 1), ⟨by simp only; omega, by simp only [List.length_drop]; omega⟩, by simp only; omega, by exact SUx, by exact IMx⟩
theorem wholeNames_spec (A : List Atom) (av : Value) (l : List ByteArray) (h : TxLen A av l) : Fun Tryz.prog 56 [av] [A] (fun v Post => v = .bool true ∧ Post = [A]) := by
  obtain ⟨b, c, rfl, h1, h2, h3, h4, h5⟩ := h
  refine Fun.intro low56 (by simp [n56]) ?_
  refine GOH ?_
  refine st_slcL (l := 0) (h := l.length + 2) (o' := 0) (by rfl) .dft (.num (by rfl)) ⟨by omega, by omega⟩ (by split <;> omega) ?_
  refine GOH ?_
  exact endQ_mk (Post := [A]) (.inr rfl) (.tmp (by rfl) .nil) ⟨rfl, rfl⟩ (by exact IMx)
theorem ltOwn_lent {k : Nat} {n : Int} {b : Nat} {t : ByteArray} {items : List Lt} {rows : List (List Value)} {tl : List Value} {K : List Atom} {db : Nat} (h : LtRows items rows K) (wf : LtWf k n b t items.length) (ht : tl.length = 5) :
    LtOwn (.mk k n b t items) [cv k, vi n, uv b, .string t, .slice (some ⟨db, 0, none⟩) items.length (items.length + 1)] (cellsAt db 0 ((rows.flatten ++ tl).set (items.length * 5 + 1) (vi (-771))) ++ K) := by
  have hl := rows_len h.2.1
  rw [h.1] at hl
  have hsl : IsSl 5 (.slice (some ⟨db, 0, none⟩) items.length (items.length + 1)) items.length rows.flatten (tl.set 1 (vi (-771))) := .mk hl (by rw [List.length_set]; omega) (by omega)
  have hmade := LtOwn.of hsl h wf
  have e : (rows.flatten ++ tl).set (items.length * 5 + 1) (vi (-771)) = rows.flatten ++ tl.set 1 (vi (-771)) := by
    rw [List.set_append_right _ _ (by omega), hl, Nat.add_sub_cancel_left]
  rw [e]; exact hmade
theorem LendLit_spec (A : List Atom) : ∀ (N : Nat) (x : Lt), x.size ≤ N → x.size ≤ 274877906944 → ∀ vs, LtRd A x vs → Fun Tryz.prog 71 [.agg vs.toArray] [A] (fun v Post => ∃ ws B, v = .agg ws.toArray ∧ (LtLen B x ws ∧ LtOwn x ws B) ∧ Post = [A, B]) := by
  intro N
  induction N with
  | zero => intro x hx; have := x.size_pos; omega
  | succ N ih =>
    intro x hx hb vs h
    cases h with
    | @mk k n b t items a c bk o us wf ha hm hr =>
    simp only [Lt.size] at hx hb
    have hge := sizes_ge items
    refine Fun.intro low71 (by simp [n71]) ?_
    refine GOH ?_
    refine st_box (by rfl) (fun q => ?_)
    refine st_alloc (fun q2 => ?_)
    simp only [Value.cells]
    refine GOH ?_
    refine st_mkslice (li := (items.length : Int) + 1) (ci := (items.length : Int) + 1) (by rfl) (by rfl) (by omega) (by rfl) (fun db => ?_)
    rw [show ((items.length : Int) + 1).toNat = items.length + 1 by omega]
    have hz := zeroRow_length (items.length + 1) [Value.int .u8 0, .int .i64 0, .int .u64 0, .string ⟨#[]⟩, .slice none 0 0]
    generalize zeroRow (items.length + 1) [Value.int .u8 0, .int .i64 0, .int .u64 0, .string ⟨#[]⟩, .slice none 0 0] = tl0 at hz ⊢
    simp only [List.length_cons, List.length_nil, Nat.zero_add, Nat.reduceAdd] at hz
    refine GOH ?_
    refine VC.loop (α := Nat × List (List Value) × List Value × List Atom) (Γf := fun z => [(1, ptr0 q), (2, ptr0 q2), (3, .slice (some ⟨db, 0, none⟩) (items.length + 1) (items.length + 1)), (4, vi z.1)]) (Hf := fun z => [A, cellsAt q 0 [cv k, vi n, uv b, .string t, .slice a items.length c], cellsAt q2 0 [.int .u8 0, .int .i64 0, .int .u64 0, .string ⟨#[]⟩, .slice none 0 0], cellsAt db 0 (z.2.1.flatten ++ z.2.2.1), z.2.2.2])
      (I := fun z => z.1 ≤ items.length ∧ LtRowsL (items.take z.1) z.2.1 z.2.2.2 ∧ z.2.2.1.length = (items.length + 1 - z.1) * 5 ∧ LtRows (items.take z.1) z.2.1 z.2.2.2) (μ := fun z => items.length - z.1) (0, [], tl0, []) ⟨Nat.zero_le _, LtRowsL.nil, by simpa using hz, LtRows.nil⟩ (by exact SUx) (Imp.cut (M := [A, cellsAt q 0 [cv k, vi n, uv b, .string t, .slice a items.length c], cellsAt q2 0 [.int .u8 0, .int .i64 0, .int .u64 0, .string ⟨#[]⟩, .slice none 0 0], cellsAt db 0 tl0]) (by exact IMx) (Imp.perm (by simp))) ?_
    rintro ⟨j, rows, tl, K⟩ ⟨i1, i2, i3, i4⟩
    simp only at i1 i2 i3 i4
    dsimp only
    have hrl : rows.length = j := by rw [i2.1, List.length_take]; omega
    have hfl := rows_len i2.2.1
    rw [hrl] at hfl
    refine GOH ?_
    by_cases hj : j < items.length
    rotate_left
    · obtain rfl : j = items.length := by omega
      rw [List.take_length] at i2 i4
      have hmade := And.intro (LtLen.of (tl := tl) (bk := db) (c := items.length + 1) i2 wf (by omega) (Nat.le_refl _)) (ltOwn_lent (tl := tl) (db := db) i4 wf (by omega))
      have hlen : (rows.flatten ++ tl).length = items.length * 5 + 5 := by rw [List.length_append]; omega
      generalize rows.flatten ++ tl = L at hmade hlen ⊢
      rw [show decide ((items.length : Int) < (items.length : Int)) = false from decide_eq_false (by omega)]
      refine GOH ?_
      refine st_store' (by rfl) (by rfl) (by rfl) (by rfl) (by rfl) (Upd.there (Upd.there (Upd.there (Upd.set1 (i := items.length * 5 + 1) (Nat.zero_add _) (by omega))))) ?_
      change VO _ _ _ _ [A, _, _, cellsAt db 0 (L.set (items.length * 5 + 1) (vi (-771))), K] _ _
      generalize L.set (items.length * 5 + 1) (vi (-771)) = L2 at hmade ⊢
      refine GOH ?_
      refine st_slcL (l := 0) (h := items.length) (o' := 0) (by rfl) .dft (.num (by rfl)) ⟨by omega, by omega⟩ (by split <;> omega) ?_
      refine GOH ?_
      exact ⟨.inr rfl, [.agg #[cv k, vi n, uv b, .string t, .slice (some ⟨db, 0, none⟩) items.length (items.length + 1)]], [A, cellsAt db 0 L2 ++ K], .cellN (us := [cv k, vi n, uv b, .string t, .slice (some ⟨db, 0, none⟩) items.length (items.length + 1)]) (by rfl) (by rfl) (fun y hy => by simp only [List.flatten_cons, List.mem_append]; first | exact .inl hy | exact .inr (.inl hy) | exact .inr (.inr (.inl hy)) | exact .inr (.inr (.inr (.inl hy))) | exact .inr (.inr (.inr (.inr (.inl hy))))) .nil, Imp.cut (M := [A, cellsAt db 0 L2, K]) (by exact IMx) (Imp.perm (by simp)), ⟨_, _, rfl, hmade, rfl⟩⟩
    obtain rfl := ha (by omega)
    rw [show decide ((j : Int) < (items.length : Int)) = true from decide_eq_true (by omega)]
    obtain ⟨y, hy⟩ : ∃ y, items[j]? = some y := ⟨_, List.getElem?_eq_getElem hj⟩
    have hym := hm j hj
    have hyr := hr j y hy
    have h1 := Lt.sizes_mem (List.mem_of_getElem? hy)
    have hcall := ih y (by omega) (by omega) _ hyr
    have hyl := hyr.len
    generalize us j = uj at *
    refine GOH ?_
    refine st_loadA (by rfl) (fun z hz => List.mem_append_left _ (hym z hz)) hyl ?_
    refine GOH ?_
    refine st_call hcall (by rfl) (by exact SPx) (fun v Post hv => ?_)
    obtain ⟨ws, B2, rfl, hw, rfl⟩ := hv
    simp only [CNx]
    have hwl := hw.1.len
    have hsn := i2.snoc hw.1
    have hsn2 := i4.snoc hw.2
    rw [show items.take j ++ [y] = items.take (j + 1) by rw [List.take_add_one, hy]; rfl] at hsn hsn2
    obtain ⟨e2, c2, hwe⟩ := lt_open hw.1.rd
    have hupd := row_upd (tl := tl) hfl hwl
    refine GOH ?_
    refine st_store' (us := ws) (by rfl) (by rfl) (by rfl) hwl (by rw [hwe]; rfl) (Upd.there (Upd.there (Upd.there (Upd.there (Upd.cells (k := j * 5) (o := 0) (vs := rows.flatten ++ tl) (us := ws) (Nat.zero_le _) (by rw [List.length_append]; omega) hupd))))) ?_
    refine GOH ?_
    refine ⟨(j + 1, rows ++ [ws], tl.drop 5, K ++ B2), ⟨by simp only; omega, hsn, by simp only [List.length_drop]; omega, hsn2⟩, by simp only; omega, by exact SUx, ?_⟩
    simp only
    refine Imp.cut (M := [A, cellsAt q 0 [cv k, vi n, uv b, .string t, .slice (some ⟨bk, o, none⟩) items.length c], cellsAt q2 0 [.int .u8 0, .int .i64 0, .int .u64 0, .string ⟨#[]⟩, .slice none 0 0], cellsAt db 0 ((rows ++ [ws]).flatten ++ tl.drop 5), K, B2]) (by exact IMx) (Imp.perm (by simp))
theorem roomLit_spec (A : List Atom) : ∀ (N : Nat) (x : Lt), x.size ≤ N → ∀ vs, LtLen A x vs → Fun Tryz.prog 98 [.agg vs.toArray] [A] (fun v Post => v = .bool true ∧ Post = [A]) := by
  intro N
  induction N with
  | zero => intro x hx; have := x.size_pos; omega
  | succ N ih =>
    intro x hx vs h
    cases h with
    | @mk k n b t items c bk us wf hm hr hroom hc =>
    simp only [Lt.size] at hx
    have hmany := wf.many
    refine Fun.intro low98 (by simp [n98]) ?_
    refine GOH ?_
    refine st_box (by rfl) (fun q => ?_)
    simp only [Value.cells]
    refine GOH ?_
    refine st_slcL (l := 0) (h := items.length + 1) (o' := 0) (by rfl) .dft (.num (by rfl)) ⟨by omega, by omega⟩ (by split <;> omega) ?_
    refine GOH ?_
    refine VC.loop (α := Nat) (Γf := fun j => [(1, ptr0 q), (4, .bool true), (5, vi j)]) (Hf := fun _ => [A, cellsAt q 0 [cv k, vi n, uv b, .string t, .slice (some ⟨bk, 0, none⟩) items.length c]]) (I := fun j => j ≤ items.length) (μ := fun j => items.length - j) 0 (Nat.zero_le _) (by exact SUx) (by exact IMx) ?_
    rintro j i1
    refine GOH ?_
    by_cases hj : j < items.length
    rotate_left
    · skip
      rw [show decide ((j : Int) < (items.length : Int)) = false from decide_eq_false (by omega)]
      refine GOH ?_
      exact endQ_mk (Post := [A]) (.inr rfl) (.tmp (by rfl) .nil) ⟨rfl, rfl⟩ (by exact IMx)
    rw [show decide ((j : Int) < (items.length : Int)) = true from decide_eq_true (by omega)]
    obtain ⟨y, hy⟩ : ∃ y, items[j]? = some y := ⟨_, List.getElem?_eq_getElem hj⟩
    have hym := hm j hj
    have hyr := hr j y hy
    have h1 := Lt.sizes_mem (List.mem_of_getElem? hy)
    have hcall := ih y (by omega) _ hyr
    have hyl := hyr.len
    generalize us j = uj at *
    refine GOH ?_
    refine st_loadA (by rfl) (fun z hz => List.mem_append_left _ (hym z hz)) hyl ?_
    refine GOH ?_
    refine st_call hcall (by rfl) (by exact SPx) (fun v Post hv => ?_)
    obtain ⟨rfl, rfl⟩ := hv
    simp only [CNx]
    refine GOH ?_
    exact ⟨j + 1, by omega, by omega, by exact SUx, by exact IMx⟩
set_option maxHeartbeats 3200000
theorem ndOwn_lent {k : Nat} {s : ByteArray} {lit : Lt} {args temps : List ByteArray} {kids : List Nd} {p : Int} {lv : List Value} {av tv : Value} {rows : List (List Value)} {tl : List Value} {K L1 L2 L3 : List Atom} {db : Nat} (h : NdRows kids rows K) (wf : NdWf k s kids.length p) (hl : LtOwn lit lv L1) (hav : TxOwn av args L2) (htv : TxOwn tv temps L3) (ht : tl.length = 11) :
    NdOwn (.mk k s lit args temps kids p) ([cv k, .string s] ++ lv ++ [av, tv, .slice (some ⟨db, 0, none⟩) kids.length (kids.length + 1), vi p]) (cellsAt db 0 ((rows.flatten ++ tl).set (kids.length * 11 + 10) (vi (-771))) ++ (K ++ (L1 ++ (L2 ++ L3)))) := by
  have hlen := rows_len h.2.1
  rw [h.1] at hlen
  have hsl : IsSl 11 (.slice (some ⟨db, 0, none⟩) kids.length (kids.length + 1)) kids.length rows.flatten (tl.set 10 (vi (-771))) := .mk hlen (by rw [List.length_set]; omega) (by omega)
  have hmade := NdOwn.of (p := p) (k := k) (s := s) hsl h wf hl hav htv
  have e : (rows.flatten ++ tl).set (kids.length * 11 + 10) (vi (-771)) = rows.flatten ++ tl.set 10 (vi (-771)) := by
    rw [List.set_append_right _ _ (by omega), hlen, Nat.add_sub_cancel_left]
  rw [e]
  refine hmade.perm ?_
  change ((cellsAt db 0 (rows.flatten ++ tl.set 10 (vi (-771)))) ++ (K ++ (L1 ++ (L2 ++ L3)))).Perm (L1 ++ (L2 ++ (L3 ++ (cellsAt db 0 (rows.flatten ++ tl.set 10 (vi (-771))) ++ K))))
  generalize cellsAt db 0 (rows.flatten ++ tl.set 10 (vi (-771))) = S
  rw [show S ++ (K ++ (L1 ++ (L2 ++ L3))) = (S ++ K) ++ (L1 ++ (L2 ++ L3)) by simp, show L1 ++ (L2 ++ (L3 ++ (S ++ K))) = (L1 ++ (L2 ++ L3)) ++ (S ++ K) by simp]
  exact List.perm_append_comm
theorem permL (A B C D S K : List Atom) : (A ++ (B ++ (C ++ (D ++ (S ++ K))))).Perm (A ++ (S ++ (K ++ (B ++ (C ++ D))))) := by
  refine List.Perm.append_left A ?_
  rw [show B ++ (C ++ (D ++ (S ++ K))) = (B ++ (C ++ D)) ++ (S ++ K) by simp, show S ++ (K ++ (B ++ (C ++ D))) = (S ++ K) ++ (B ++ (C ++ D)) by simp]
  exact List.perm_append_comm
theorem LendNode_spec (A : List Atom) : ∀ (N : Nat) (x : Nd), x.w ≤ N → x.w ≤ 274877906944 → ∀ vs, NdRd A x vs → Fun Tryz.prog 23 [.agg vs.toArray] [A] (fun v Post => ∃ ws B, v = .agg ws.toArray ∧ (NdLen B x ws ∧ NdOwn x ws B) ∧ Post = [A, B]) := by
  intro N
  induction N with
  | zero => intro x hx; have := x.w_pos; omega
  | succ N ih =>
    intro x hx hb vs h
    cases h with
    | @mk k s lit args temps kids p lv av tv a c bk o us wf hl hav htv ha hm hr hcp =>
    simp only [Nd.w] at hx hb
    have hge := ws_ge kids
    have hown := LendLit_spec A _ lit (Nat.le_refl _) (by omega) lv hl
    have hca := lendNames_spec A av args hav (by omega)
    have hct := lendNames_spec A tv temps htv (by omega)
    have hl2 := hl
    cases hl2 with
    | @mk lk ln lbt lt items la lc lbk lo lus lwf lha lhm lhr =>
    obtain ⟨aa, ac, rfl, hal, har⟩ := hav
    obtain ⟨ta, tc, rfl, htl, htr⟩ := htv
    refine Fun.intro low23 (by simp [n23]) ?_
    simp only [CNx]
    refine GOH ?_
    refine st_box (by rfl) (fun q => ?_)
    refine st_alloc (fun q2 => ?_)
    simp only [Value.cells]
    refine GOH ?_
    refine st_mkslice (li := (kids.length : Int) + 1) (ci := (kids.length : Int) + 1) (by rfl) (by rfl) (by omega) (by rfl) (fun db => ?_)
    rw [show ((kids.length : Int) + 1).toNat = kids.length + 1 by omega]
    have hz := zeroRow_length (kids.length + 1) [Value.int .u8 0, .string ⟨#[]⟩, .int .u8 0, .int .i64 0, .int .u64 0, .string ⟨#[]⟩, .slice none 0 0, .slice none 0 0, .slice none 0 0, .slice none 0 0, .int .i64 0]
    generalize zeroRow (kids.length + 1) [Value.int .u8 0, .string ⟨#[]⟩, .int .u8 0, .int .i64 0, .int .u64 0, .string ⟨#[]⟩, .slice none 0 0, .slice none 0 0, .slice none 0 0, .slice none 0 0, .int .i64 0] = tl0 at hz ⊢
    simp only [List.length_cons, List.length_nil, Nat.zero_add, Nat.reduceAdd] at hz
    refine GOH ?_
    refine VC.loop (α := Nat × List (List Value) × List Value × List Atom) (Γf := fun z => [(1, ptr0 q), (2, ptr0 q2), (3, .slice (some ⟨db, 0, none⟩) (kids.length + 1) (kids.length + 1)), (4, vi z.1)]) (Hf := fun z => [A, cellsAt q 0 [cv k, .string s, cv lk, vi ln, uv lbt, .string lt, .slice la items.length lc, .slice aa args.length ac, .slice ta temps.length tc, .slice a kids.length c, vi p], cellsAt q2 0 [.int .u8 0, .string ⟨#[]⟩, .int .u8 0, .int .i64 0, .int .u64 0, .string ⟨#[]⟩, .slice none 0 0, .slice none 0 0, .slice none 0 0, .slice none 0 0, .int .i64 0], cellsAt db 0 (z.2.1.flatten ++ z.2.2.1), z.2.2.2])
      (I := fun z => z.1 ≤ kids.length ∧ NdRowsL (kids.take z.1) z.2.1 z.2.2.2 ∧ z.2.2.1.length = (kids.length + 1 - z.1) * 11 ∧ NdRows (kids.take z.1) z.2.1 z.2.2.2) (μ := fun z => kids.length - z.1) (0, [], tl0, []) ⟨Nat.zero_le _, NdRowsL.nil, by simpa using hz, NdRows.nil⟩ (by exact SUx) (Imp.cut (M := [A, cellsAt q 0 [cv k, .string s, cv lk, vi ln, uv lbt, .string lt, .slice la items.length lc, .slice aa args.length ac, .slice ta temps.length tc, .slice a kids.length c, vi p], cellsAt q2 0 [.int .u8 0, .string ⟨#[]⟩, .int .u8 0, .int .i64 0, .int .u64 0, .string ⟨#[]⟩, .slice none 0 0, .slice none 0 0, .slice none 0 0, .slice none 0 0, .int .i64 0], cellsAt db 0 tl0]) (by exact IMx) (Imp.perm (by simp))) ?_
    rintro ⟨j, rows, tl, K⟩ ⟨i1, i2, i3, i4⟩
    simp only at i1 i2 i3 i4
    dsimp only
    have hrl : rows.length = j := by rw [i2.1, List.length_take]; omega
    have hfl := rows_len i2.2.1
    rw [hrl] at hfl
    refine GOH ?_
    by_cases hj : j < kids.length
    · obtain rfl := ha (by omega)
      rw [show decide ((j : Int) < (kids.length : Int)) = true from decide_eq_true (by omega)]
      obtain ⟨y, hy⟩ : ∃ y, kids[j]? = some y := ⟨_, List.getElem?_eq_getElem hj⟩
      have hym := hm j hj
      have hyr := hr j y hy
      have h1 := Nd.ws_mem (List.mem_of_getElem? hy)
      have hcall := ih y (by omega) (by omega) _ hyr
      have hyl := hyr.len
      generalize us j = uj at *
      refine GOH ?_
      refine st_loadA (by rfl) (fun z hz => List.mem_append_left _ (hym z hz)) hyl ?_
      refine GOH ?_
      refine st_call hcall (by rfl) (by exact SPx) (fun v Post hv => ?_)
      obtain ⟨ws, B2, rfl, hw, rfl⟩ := hv
      simp only [CNx]
      have hwl := hw.1.len
      have hsn := i2.snoc hw.1
      have hsn2 := i4.snoc hw.2
      rw [show kids.take j ++ [y] = kids.take (j + 1) by rw [List.take_add_one, hy]; rfl] at hsn hsn2
      obtain ⟨f1, f2, f3, f4, f5, f6, f7, f8, f9, f10, f11, f12, f13, f14, f15, f16, f17, hwe, _, _⟩ := nd_open2 hw.1.rd
      have hupd := row_upd (tl := tl) hfl hwl
      refine GOH ?_
      refine st_store' (us := ws) (by rfl) (by rfl) (by rfl) hwl (by rw [hwe]; rfl) (Upd.there (Upd.there (Upd.there (Upd.there (Upd.cells (k := j * 11) (o := 0) (vs := rows.flatten ++ tl) (us := ws) (Nat.zero_le _) (by rw [List.length_append]; omega) hupd))))) ?_
      refine GOH ?_
      refine ⟨(j + 1, rows ++ [ws], tl.drop 11, K ++ B2), ⟨by simp only; omega, hsn, by simp only [List.length_drop]; omega, hsn2⟩, by simp only; omega, by exact SUx, ?_⟩
      simp only
      refine Imp.cut (M := [A, cellsAt q 0 [cv k, .string s, cv lk, vi ln, uv lbt, .string lt, .slice la items.length lc, .slice aa args.length ac, .slice ta temps.length tc, (.slice (some ⟨bk, o, none⟩) kids.length c), vi p], cellsAt q2 0 [.int .u8 0, .string ⟨#[]⟩, .int .u8 0, .int .i64 0, .int .u64 0, .string ⟨#[]⟩, .slice none 0 0, .slice none 0 0, .slice none 0 0, .slice none 0 0, .int .i64 0], cellsAt db 0 ((rows ++ [ws]).flatten ++ tl.drop 11), K, B2]) (by exact IMx) (Imp.perm (by simp))
    obtain rfl : j = kids.length := by omega
    rw [List.take_length] at i2 i4
    have hmadeO := fun (L1 L2 L3 : List Atom) (lv av tv) h1 h2 h3 => ndOwn_lent (tl := tl) (db := db) (L1 := L1) (L2 := L2) (L3 := L3) (lv := lv) (av := av) (tv := tv) (lit := .mk lk ln lbt lt items) (args := args) (temps := temps) i4 wf h1 h2 h3 (by omega)
    have hmade := fun (L1 L2 L3 : List Atom) (lv av tv) h1 h2 h3 => NdLen.of (tl := tl) (bk := db) (c := kids.length + 1) (L1 := L1) (L2 := L2) (L3 := L3) (lv := lv) (av := av) (tv := tv) (lit := .mk lk ln lbt lt items) (args := args) (temps := temps) i2 wf h1 h2 h3 (by omega) (Nat.le_refl _)
    have hlen : (rows.flatten ++ tl).length = kids.length * 11 + 11 := by rw [List.length_append]; omega
    generalize rows.flatten ++ tl = L at hmade hmadeO hlen ⊢
    rw [show decide ((kids.length : Int) < (kids.length : Int)) = false from decide_eq_false (by omega)]
    refine GOH ?_
    refine st_store' (by rfl) (by rfl) (by rfl) (by rfl) (by rfl) (Upd.there (Upd.there (Upd.there (Upd.set1 (i := kids.length * 11 + 10) (Nat.zero_add _) (by omega))))) ?_
    change VO _ _ _ _ [A, _, _, cellsAt db 0 (L.set (kids.length * 11 + 10) (vi (-771))), K] _ _
    generalize hSL : cellsAt db 0 (L.set (kids.length * 11 + 10) (vi (-771))) = SL at hmade hmadeO ⊢
    refine GOH ?_
    refine VC.imp (H' := [cellsAt q 0 [cv k, .string s, cv lk, vi ln, uv lbt, .string lt, .slice la items.length lc, .slice aa args.length ac, .slice ta temps.length tc, .slice a kids.length c, vi p], cellsAt q2 0 [.int .u8 0, .string ⟨#[]⟩, .int .u8 0, .int .i64 0, .int .u64 0, .string ⟨#[]⟩, .slice none 0 0, .slice none 0 0, .slice none 0 0, .slice none 0 0, .int .i64 0], SL, K, A]) (by exact IMx) ?_
    refine VC.seq (VC.free 20 (fun i v B => match i with
      | 0 => v = .pointer (some ⟨q, 0, none⟩) ∧ B = []
      | 1 => v = cv k ∧ B = []
      | 2 => v = .pointer (some ⟨q, 1, none⟩) ∧ B = []
      | 3 => v = .string s ∧ B = []
      | 4 => v = .pointer (some ⟨q, 2, none⟩) ∧ B = []
      | 5 => v = .agg [cv lk, vi ln, uv lbt, .string lt, .slice la items.length lc].toArray ∧ B = []
      | 6 => ∃ ws, v = .agg ws.toArray ∧ (LtLen B (.mk lk ln lbt lt items) ws ∧ LtOwn (.mk lk ln lbt lt items) ws B)
      | 7 => v = .pointer (some ⟨q, 7, none⟩) ∧ B = []
      | 8 => v = .slice aa args.length ac ∧ B = []
      | 9 => TxLen B v args ∧ TxOwn v args B
      | 10 => v = .pointer (some ⟨q, 8, none⟩) ∧ B = []
      | 11 => v = .slice ta temps.length tc ∧ B = []
      | 12 => TxLen B v temps ∧ TxOwn v temps B
      | 13 => v = .slice (some ⟨db, 0, none⟩) (kids.length + 1) (kids.length + 1) ∧ B = []
      | 14 => v = .pointer (some ⟨q, 9, none⟩) ∧ B = []
      | 15 => v = .slice a kids.length c ∧ B = []
      | 16 => v = vi kids.length ∧ B = []
      | 17 => v = .slice (some ⟨db, 0, none⟩) kids.length (kids.length + 1) ∧ B = []
      | 18 => v = .pointer (some ⟨q, 10, none⟩) ∧ B = []
      | 19 => v = vi p ∧ B = []
      | _ => True) (by decide) (by decide) (by decide) ?_ ?_)
    · intro i hi vv hg Γ' hh hkp
      match i, hi with
      | 0, _ =>
        show VO _ _ [⟨some 32, none, .fld 0 (.tmp 1)⟩] _ _ _ _
        exact st_fld (hkp 1 _ rfl (by decide)) rfl (VO.nil ⟨_, [], rfl, ⟨rfl, rfl⟩, Imp.perm (by simp)⟩)
      | 1, _ =>
        show VO _ _ [⟨some 33, none, .load1 (.tmp 32)⟩] _ _ _ _
        have e := hh 0 (by decide) 32 rfl
        rw [(hg 0 (by decide)).1] at e
        exact st_load1 e (by (focus ((repeat (first | (apply Has.cells; omega; rfl) | apply Has.there)); done))) (VO.nil ⟨_, [], rfl, ⟨rfl, rfl⟩, Imp.perm (by simp)⟩)
      | 2, _ =>
        show VO _ _ [⟨some 34, none, .fld 1 (.tmp 1)⟩] _ _ _ _
        exact st_fld (hkp 1 _ rfl (by decide)) rfl (VO.nil ⟨_, [], rfl, ⟨rfl, rfl⟩, Imp.perm (by simp)⟩)
      | 3, _ =>
        show VO _ _ [⟨some 35, none, .load1 (.tmp 34)⟩] _ _ _ _
        have e := hh 2 (by decide) 34 rfl
        rw [(hg 2 (by decide)).1] at e
        exact st_load1 e (by (focus ((repeat (first | (apply Has.cells; omega; rfl) | apply Has.there)); done))) (VO.nil ⟨_, [], rfl, ⟨rfl, rfl⟩, Imp.perm (by simp)⟩)
      | 4, _ =>
        show VO _ _ [⟨some 36, none, .fld 2 (.tmp 1)⟩] _ _ _ _
        exact st_fld (hkp 1 _ rfl (by decide)) rfl (VO.nil ⟨_, [], rfl, ⟨rfl, rfl⟩, Imp.perm (by simp)⟩)
      | 5, _ =>
        show VO _ _ [⟨some 37, none, .loadN 5 (.tmp 36)⟩] _ _ _ _
        have e := hh 4 (by decide) 36 rfl
        rw [(hg 4 (by decide)).1] at e
        exact st_loadM e (by (focus ((repeat (first | (apply HasM.cells; omega; (focus (simp only [List.length_cons, List.length_nil, Nat.reduceAdd, Nat.zero_add, Nat.reduceSub, Nat.sub_self, Nat.reduceLeDiff, Nat.le_refl]; done)); (focus (simp only [lnb, Value.cells, Nat.zero_add, Nat.reduceEqDiff, ↓reduceIte, eq_self, Nat.reduceAdd, Nat.reduceSub, Nat.sub_self, Nat.reduceLeDiff, Nat.le_refl, and_self, rep, zeroRow] <;> rfl)); rfl) | apply HasM.there)); done))) (VO.nil ⟨_, [], rfl, ⟨rfl, rfl⟩, Imp.perm (by simp)⟩)
      | 6, _ =>
        show VO _ _ [⟨some 38, none, .call 71 [.tmp 37]⟩] _ _ _ _
        have e := hh 5 (by decide) 37 rfl
        rw [(hg 5 (by decide)).1] at e
        refine st_call hown (by simp only [V.evs, V.ev, e]) (by exact SPx) (fun v Post hv => ?_)
        obtain ⟨ws, B, rfl, hw, rfl⟩ := hv
        exact VO.nil ⟨_, B, rfl, ⟨ws, rfl, hw⟩, by simp only [CNx]; exact IMx⟩
      | 7, _ =>
        show VO _ _ [⟨some 39, none, .fld 7 (.tmp 1)⟩] _ _ _ _
        exact st_fld (hkp 1 _ rfl (by decide)) rfl (VO.nil ⟨_, [], rfl, ⟨rfl, rfl⟩, Imp.perm (by simp)⟩)
      | 8, _ =>
        show VO _ _ [⟨some 40, none, .load1 (.tmp 39)⟩] _ _ _ _
        have e := hh 7 (by decide) 39 rfl
        rw [(hg 7 (by decide)).1] at e
        exact st_load1 e (by (focus ((repeat (first | (apply Has.cells; omega; rfl) | apply Has.there)); done))) (VO.nil ⟨_, [], rfl, ⟨rfl, rfl⟩, Imp.perm (by simp)⟩)
      | 9, _ =>
        show VO _ _ [⟨some 41, none, .call 44 [.tmp 40]⟩] _ _ _ _
        have e := hh 8 (by decide) 40 rfl
        rw [(hg 8 (by decide)).1] at e
        refine st_call hca (by simp only [V.evs, V.ev, e]) (by exact SPx) (fun v Post hv => ?_)
        obtain ⟨B, hw, rfl⟩ := hv
        exact VO.nil ⟨_, B, rfl, hw, by simp only [CNx]; exact IMx⟩
      | 10, _ =>
        show VO _ _ [⟨some 42, none, .fld 8 (.tmp 1)⟩] _ _ _ _
        exact st_fld (hkp 1 _ rfl (by decide)) rfl (VO.nil ⟨_, [], rfl, ⟨rfl, rfl⟩, Imp.perm (by simp)⟩)
      | 11, _ =>
        show VO _ _ [⟨some 43, none, .load1 (.tmp 42)⟩] _ _ _ _
        have e := hh 10 (by decide) 42 rfl
        rw [(hg 10 (by decide)).1] at e
        exact st_load1 e (by (focus ((repeat (first | (apply Has.cells; omega; rfl) | apply Has.there)); done))) (VO.nil ⟨_, [], rfl, ⟨rfl, rfl⟩, Imp.perm (by simp)⟩)
      | 12, _ =>
        show VO _ _ [⟨some 44, none, .call 44 [.tmp 43]⟩] _ _ _ _
        have e := hh 11 (by decide) 43 rfl
        rw [(hg 11 (by decide)).1] at e
        refine st_call hct (by simp only [V.evs, V.ev, e]) (by exact SPx) (fun v Post hv => ?_)
        obtain ⟨B, hw, rfl⟩ := hv
        exact VO.nil ⟨_, B, rfl, hw, by simp only [CNx]; exact IMx⟩
      | 13, _ =>
        show VO _ _ [⟨some 45, none, .mv (.tmp 3)⟩] _ _ _ _
        exact st_mv (hkp 3 _ rfl (by decide)) (VO.nil ⟨_, [], rfl, ⟨rfl, rfl⟩, Imp.perm (by simp)⟩)
      | 14, _ =>
        show VO _ _ [⟨some 46, none, .fld 9 (.tmp 1)⟩] _ _ _ _
        exact st_fld (hkp 1 _ rfl (by decide)) rfl (VO.nil ⟨_, [], rfl, ⟨rfl, rfl⟩, Imp.perm (by simp)⟩)
      | 15, _ =>
        show VO _ _ [⟨some 47, none, .load1 (.tmp 46)⟩] _ _ _ _
        have e := hh 14 (by decide) 46 rfl
        rw [(hg 14 (by decide)).1] at e
        exact st_load1 e (by (focus ((repeat (first | (apply Has.cells; omega; rfl) | apply Has.there)); done))) (VO.nil ⟨_, [], rfl, ⟨rfl, rfl⟩, Imp.perm (by simp)⟩)
      | 16, _ =>
        show VO _ _ [⟨some 48, none, .lenL (.tmp 47)⟩] _ _ _ _
        have e := hh 15 (by decide) 47 rfl
        rw [(hg 15 (by decide)).1] at e
        exact st_lenI e (VO.nil ⟨_, [], rfl, ⟨rfl, rfl⟩, Imp.perm (by simp)⟩)
      | 17, _ =>
        show VO _ _ [⟨some 49, none, .slcL 11 (.tmp 45) none (some (.tmp 48)) none⟩] _ _ _ _
        have e := hh 13 (by decide) 45 rfl
        rw [(hg 13 (by decide)).1] at e
        have e2 := hh 16 (by decide) 48 rfl
        rw [(hg 16 (by decide)).1] at e2
        exact st_slcL (l := 0) (h := kids.length) (o' := 0) e .dft (.num e2) ⟨by omega, by omega⟩ (by split <;> omega) (VO.nil ⟨_, [], rfl, ⟨rfl, rfl⟩, Imp.perm (by simp)⟩)
      | 18, _ =>
        show VO _ _ [⟨some 50, none, .fld 10 (.tmp 1)⟩] _ _ _ _
        exact st_fld (hkp 1 _ rfl (by decide)) rfl (VO.nil ⟨_, [], rfl, ⟨rfl, rfl⟩, Imp.perm (by simp)⟩)
      | 19, _ =>
        show VO _ _ [⟨some 51, none, .load1 (.tmp 50)⟩] _ _ _ _
        have e := hh 18 (by decide) 50 rfl
        rw [(hg 18 (by decide)).1] at e
        exact st_load1 e (by (focus ((repeat (first | (apply Has.cells; omega; rfl) | apply Has.there)); done))) (VO.nil ⟨_, [], rfl, ⟨rfl, rfl⟩, Imp.perm (by simp)⟩)
      | n + 20, h => exact absurd h (by omega)
    · intro vv hg Γ' hh hkp
      show VO _ _ _ _ [(vv 0).2, (vv 1).2, (vv 2).2, (vv 3).2, (vv 4).2, (vv 5).2, (vv 6).2, (vv 7).2, (vv 8).2, (vv 9).2, (vv 10).2, (vv 11).2, (vv 12).2, (vv 13).2, (vv 14).2, (vv 15).2, (vv 16).2, (vv 17).2, (vv 18).2, (vv 19).2, cellsAt q 0 [cv k, .string s, cv lk, vi ln, uv lbt, .string lt, .slice la items.length lc, .slice aa args.length ac, .slice ta temps.length tc, .slice a kids.length c, vi p], cellsAt q2 0 [.int .u8 0, .string ⟨#[]⟩, .int .u8 0, .int .i64 0, .int .u64 0, .string ⟨#[]⟩, .slice none 0 0, .slice none 0 0, .slice none 0 0, .slice none 0 0, .int .i64 0], SL, K, A] _ _
      refine VO.imp (H' := [cellsAt q2 0 [.int .u8 0, .string ⟨#[]⟩, .int .u8 0, .int .i64 0, .int .u64 0, .string ⟨#[]⟩, .slice none 0 0, .slice none 0 0, .slice none 0 0, .slice none 0 0, .int .i64 0], A, (vv 6).2, (vv 9).2, (vv 12).2, SL, K]) (by exact IMx) ?_
      obtain ⟨ws, e6, h6⟩ := hg 6 (by omega)
      have h9 := hg 9 (by omega)
      have h12 := hg 12 (by omega)
      have s22 := hh 1 (by decide) 33 rfl
      have s24 := hh 3 (by decide) 35 rfl
      have s27 := hh 6 (by decide) 38 rfl
      have s30 := hh 9 (by decide) 41 rfl
      have s33 := hh 12 (by decide) 44 rfl
      have s34 := hh 17 (by decide) 49 rfl
      have s36 := hh 19 (by decide) 51 rfl
      rw [(hg 1 (by omega)).1] at s22
      rw [(hg 3 (by omega)).1] at s24
      rw [e6] at s27
      rw [(hg 17 (by omega)).1] at s34
      rw [(hg 19 (by omega)).1] at s36
      have s2 := hkp 2 _ rfl (by decide)
      clear hg hh hkp
      simp only at h9 h12
      generalize (vv 6).2 = B6 at *
      generalize vv 9 = p9 at *
      generalize vv 12 = p12 at *
      obtain ⟨v9, B9⟩ := p9
      obtain ⟨v12, B12⟩ := p12
      simp only at *
      have hmade := And.intro (hmade _ _ _ _ _ _ h6.1 h9.1 h12.1) (hmadeO _ _ _ _ _ _ h6.2 h9.2 h12.2)
      have h6r := h6.1.rd
      obtain ⟨a9, c9, rfl, _, _⟩ := h9.1.rd
      obtain ⟨a12, c12, rfl, _, _⟩ := h12.1.rd
      obtain ⟨e1, c1, rfl⟩ := lt_open h6r
      simp only [Lt.kind, Lt.n, Lt.bits, Lt.text, Lt.items] at *
      refine VO.sub (Δ := [(2, ptr0 q2), (33, cv k), (35, .string s), (38, .agg #[cv lk, vi ln, uv lbt, .string lt, .slice e1 items.length c1]), (41, .slice a9 args.length c9), (44, .slice a12 temps.length c12), (49, .slice (some ⟨db, 0, none⟩) kids.length (kids.length + 1)), (51, vi p)]) (Sub.cons s2 (Sub.cons s22 (Sub.cons s24 (Sub.cons s27 (Sub.cons s30 (Sub.cons s33 (Sub.cons s34 (Sub.cons s36 Sub.nil)))))))) ?_
      refine GOH ?_
      exact ⟨.inr rfl, [.agg #[cv k, .string s, cv lk, vi ln, uv lbt, .string lt, .slice e1 items.length c1, .slice a9 args.length c9, .slice a12 temps.length c12, .slice (some ⟨db, 0, none⟩) kids.length (kids.length + 1), vi p]], [A, SL ++ (K ++ (B6 ++ (B9 ++ B12)))], .cellN (us := [cv k, .string s, cv lk, vi ln, uv lbt, .string lt, .slice e1 items.length c1, .slice a9 args.length c9, .slice a12 temps.length c12, .slice (some ⟨db, 0, none⟩) kids.length (kids.length + 1), vi p]) (by rfl) (by rfl) (fun y hy => by simp only [List.flatten_cons, List.mem_append]; first | exact .inl hy | exact .inr (.inl hy) | exact .inr (.inr (.inl hy))) .nil,
        Imp.cut (M := [A, B6, B9, B12, SL, K]) (by exact IMx) (Imp.perm (by simp only [List.flatten_cons, List.flatten_nil, List.append_nil]; exact (permL A B6 B9 B12 SL K))), ⟨_, _, rfl, hmade, rfl⟩⟩
end Go.Proofs.YtmnmandpdadedaaGreatDoor

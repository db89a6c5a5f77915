/-
  The heap: words of pins are taken, an object is laid there.
-/
import Derived.Test.YtmlnoodopoaafaaDoorR1
import Derived.Test.YtmlnoodopoaafaaDoorP3
import Derived.Test.YtmlnoodopoaafaaDoorP4
import Derived.Test.YtmlnoodopoaafaaDoorP5
set_option linter.unusedSimpArgs false
set_option linter.unusedVariables false
namespace Go.Proofs.YtmlnoodopoaafaaDoor
open Go Go.V
set_option maxHeartbeats 6400000
set_option maxRecDepth 100000
theorem take5_spec (p : Nat) (x : HW) (hx : HOk x) (n : Nat) (hn : n ≤ 1073741824) : Fun Tryd.prog 63 [ptr0 p, cv 5, vi n] [HA p x, TZ]
    (fun v Post => (v = vi (-1) ∨ ∃ g, g ∈ gapsA x.a ∧ n ≤ g.2 ∧ v = vi g.1) ∧ Post = [HA p x, TZ]) := by
  refine Fun.intro low63 (by simp [n63]) ?_
  refine VC.seq_reg ?_
  refine st_box (by rfl) (fun q => ?_)
  refine st_alloc (fun q2 => ?_)
  simp only [Value.cells]
  refine GOH ?_
  refine VC.rangefA (fun c A' => (∀ g ∈ c, g.2 < n) ∧ A' = [cellsAt q2 0 [vi 0], cellsAt q 0 [vi n], HA p x, TZ].flatten) ([cellsAt q2 0 [vi 0], cellsAt q 0 [vi n], HA p x, TZ].flatten)
    (by rfl) (gaps_iter p x hx) (fun A B h => by obtain ⟨R, h⟩ := h; exact ⟨R ++ B, (h.append_right B).trans (by simp [List.append_assoc])⟩) ?_ (R := [cellsAt q2 0 [vi 0], cellsAt q 0 [vi n], HA p x, TZ]) ?_ ?_ ⟨by simp, rfl⟩ (fun _ => rfl) ?_ ?_
  · rintro c A' ⟨_, rfl⟩
    refine ⟨cellsAt q2 0 [vi 0] ++ cellsAt q 0 [vi n], ?_⟩
    simp only [List.flatten_cons, List.flatten_nil, List.append_nil]
    rw [← List.append_assoc, ← List.append_assoc (HA p x)]
    exact List.perm_append_comm
  · exact SPx
  · exact Imp.perm (by simp)
  · rintro c g A' hok ⟨hc, rfl⟩
    have hg : g ∈ gapsA x.a := by obtain ⟨t, ht⟩ := hok; rw [← ht]; simp
    simp only [bindE]
    refine VC.imp (H' := [cellsAt q2 0 [vi 0], cellsAt q 0 [vi n], HA p x, TZ]) (Imp.perm (by simp)) ?_
    refine GOH ?_
    refine ⟨trivial, ?_⟩
    refine GOH ?_
    by_cases hge : n ≤ g.2
    · rw [show decide ((n : Int) ≤ (g.2 : Int)) = true from decide_eq_true (by omega)]
      refine GOH ?_
      refine ⟨.inr rfl, _, _, .cell1 (v := vi g.1) (by rfl) (by simp [cellsAt]) .nil, ?_, ⟨.inr ⟨g, hg, hge, rfl⟩, rfl⟩⟩
      simp only [List.nil_append]
      exact IMx
    · rw [show decide ((n : Int) ≤ (g.2 : Int)) = false from decide_eq_false (by omega)]
      refine GOH ?_
      refine ⟨_, ⟨fun g' hg' => ?_, rfl⟩, Imp.cut (M := [cellsAt q2 0 [vi 0], cellsAt q 0 [vi n], HA p x, TZ]) (by exact IMx) (Imp.perm (by simp))⟩
      rcases List.mem_append.1 hg' with h | h
      · exact hc g' h
      · rw [List.mem_singleton.1 h]; omega
  · rintro full A' hf ⟨hc, rfl⟩
    simp only [List.nil_append, V.blockQ, V.thenQ]
    refine VC.imp (H' := [cellsAt q2 0 [vi 0], cellsAt q 0 [vi n], HA p x, TZ]) (Imp.perm (by simp)) ?_
    refine GOH ?_
    refine ⟨.inr rfl, _, _, .cell1 (v := vi (-1)) (by rfl) (by simp [cellsAt]) .nil, ?_, ⟨.inl rfl, rfl⟩⟩
    exact IMx
def putA (a : AH) (b : Ob) : AH := { a with obs := insO b a.obs }
theorem lay5_spec (p : Nat) (x : HW) (hx : HOk x) (h : Hd) (m : h.May) (hm6 : h.fmt ≠ 6) : Fun Tryd.prog 29 [ptr0 p, cv 5, .agg (hdEnc h).toArray] [HA p x, TZ]
    (fun v Post => ∃ y, ((v = .tuple #[vi 0, vi 41] ∧ y = x) ∨ (∃ w : Nat, v = .tuple #[vi w, vi 0] ∧ (roomR x.a 5).1 ≤ w ∧ w < (roomR x.a 5).2.1 ∧ HOk y ∧ y.a = putA x.a (newO w h))) ∧ Post = [HA p y, TZ]) := by
  refine Fun.intro low29 (by simp [n29]) ?_
  have hms := m.slots
  have hlen := hx.lay.len
  have hlen6 := hx.rm.len
  obtain ⟨r, hr⟩ : ∃ r, x.a.rm[5]? = some r := ⟨_, List.getElem?_eq_getElem (by omega)⟩
  have hroom : roomR x.a 5 = r := by unfold roomR; rw [hr]; rfl
  have hrg := hx.rm.rng 5 r hr
  have hlow := hx.rm.low 5 r (by omega) hr
  have ht := take5_spec p x hx (2 + h.slots) (by omega)
  have hgf : ∀ g ∈ gapsA x.a, _ := fun g hg => gap_free hx hg
  rw [hroom] at hgf ⊢
  obtain ⟨f, t, tp⟩ := r
  simp only at hrg hlow hgf ⊢
  refine VC.seq_reg ?_
  refine st_box (by rfl) (fun q => ?_)
  simp only [Value.cells, hdEnc]
  refine GOH ?_
  rw [show (2 + (h.slots : Int)) = ((2 + h.slots : Nat) : Int) by omega]
  refine st_call ht (by rfl) (by exact SPx) (fun v Post hv => ?_)
  obtain ⟨hy, rfl⟩ := hv
  rcases hy with rfl | ⟨g, hg, hgn, rfl⟩
  · refine GOH ?_
    exact endQ_mk (.inr rfl) (.tmp (by rfl) (.tmp (by rfl) .nil)) ⟨x, .inl ⟨rfl, rfl⟩, rfl⟩ (by exact IMx)
  obtain ⟨k1, k2, k3⟩ := hgf g hg
  obtain ⟨w, gl⟩ := g
  simp only at hgn k1 k2 k3
  refine GOH ?_
  rw [show decide ((w : Int) < 0) = false from decide_eq_false (by omega)]
  refine GOH ?_
  have hwl : w + 2 + h.slots ≤ x.ws.length := by omega
  simp only [CNx]
  refine st_call (setHead_spec p x w h m (by omega) hlen) (by rfl) (by exact SPx) (fun v Post hv => ?_)
  obtain ⟨rfl, rfl⟩ := hv
  simp only [CNx]
  obtain ⟨x2, hx2⟩ : ∃ x2 : HW, x2 = { x with ws := (x.ws.set w (pk h)).set (w + 1) h.slots } := ⟨_, rfl⟩
  rw [← hx2]
  have e2 : x2.ws = (x.ws.set w (pk h)).set (w + 1) h.slots := by rw [hx2]
  have l2 : x2.ws.length = x.ws.length := by rw [e2]; simp
  have g2 : x2.ws[w + 1]? = some h.slots := by rw [e2, List.getElem?_set_self (by simp; omega)]
  refine GOH ?_
  refine st_callS (slotsW_spec p x2 w h.slots g2 (by rw [l2]; omega) (by rw [l2]; exact hlen)) (by rfl) .here ?_
  refine st_clrW (w := w) (by rw [l2]; omega) (by rfl) .here ?_
  obtain ⟨x3, hx3⟩ : ∃ x3 : HW, x3 = { x2 with ws := clrW x2.ws w h.slots } := ⟨_, rfl⟩
  rw [← hx3]
  have e3 : x3.ws = clrW x2.ws w h.slots := by rw [hx3]
  have s3 : x3.st = x.st := by rw [hx3, hx2]
  have hstl := hx.lay.stl
  refine GOH ?_
  refine st_call (begin_spec p x3 w true (by rw [s3]; omega) (by rw [s3]; omega) (by rw [s3]; exact hx.lay.sts)) (by rfl) (by exact SPx) (fun v Post hv => ?_)
  obtain ⟨rfl, rfl⟩ := hv
  simp only [CNx]
  refine GOH ?_
  have hb : (newO w h).Ok := ⟨m, by simp [newO], fun y hy => by simp [newO] at hy; omega, fun e => absurd e hm6⟩
  have hst : (newO w h).stop = w + 2 + h.slots := rfl
  have hat : (newO w h).at_ = w := rfl
  have key := hx.newO (sp := 5) (by omega) hr hb (b := newO w h) (fun c hc => by
      rcases k3 c hc with h | h
      · left; rw [hat]; exact h
      · right; rw [hst]; omega) (by show f ≤ w; omega) (by show w + 2 + h.slots ≤ t; omega) (rm' := x.a.rm) (.inl ⟨rfl, rfl⟩) (ws' := x3.ws)
      (by rw [e3, clrW_len (by rw [l2]; omega), l2])
      (by
        rw [e3]
        intro y hy
        obtain ⟨i, hi⟩ := List.getElem?_of_mem hy
        rw [clrW_get (by rw [l2]; omega)] at hi
        split at hi
        · cases hi; omega
        · have := List.mem_of_getElem? hi
          rw [e2] at this
          rcases List.mem_or_eq_of_mem_set this with h | rfl
          · rcases List.mem_or_eq_of_mem_set h with h | rfl
            · exact hx.lay.small y h
            · have := m.lt; omega
          · omega)
      (by
        intro i hi
        rw [e3, clrW_get (by rw [l2]; omega), if_neg (by omega), e2]
        rw [List.getElem?_set_ne (by omega), List.getElem?_set_ne (by omega)])
      (by
        rw [hat, e3, clrW_get (by rw [l2]; omega), clrW_get (by rw [l2]; omega), if_neg (by omega), if_neg (by omega), e2]
        rw [List.getElem?_set_self (by simp; omega), List.getElem?_set_ne (by omega), List.getElem?_set_self (by omega)]
        exact ⟨rfl, rfl⟩)
      (by
        intro i hi
        have hi' : i < h.slots := hi
        rw [hat, e3, clrW_get (by rw [l2]; omega), if_pos (by omega)]
        show some 0 = (List.replicate h.slots 0)[i]?
        rw [List.getElem?_replicate, if_pos hi'])
  refine endQ_mk (.inr rfl) (.tmp (by rfl) (.tmp (by rfl) .nil)) ⟨_, .inr ⟨w, rfl, k1, by omega, key, rfl⟩, rfl⟩ ?_
  have : ({ x with a := { x.a with rm := x.a.rm, obs := insO (newO w h) x.a.obs }, ws := x3.ws, st := setBit x.st (newO w h).at_ true } : HW) = { x3 with a := { x3.a with obs := insO (newO w h) x.a.obs }, st := setBit x3.st w true } := by
    rw [hx3, hx2]; rfl
  rw [this]
  show Imp _ [HA p { x3 with st := setBit x3.st w true }, TZ]
  exact IMx
end Go.Proofs.YtmlnoodopoaafaaDoor
namespace Go.V
open Go
def setNoted (h : Hd) : Hd := { h with noted := true }
def noteA (a : AH) (b : Ob) : AH := if b.hd.noted then a else { a with obs := updO b.at_ (setH setNoted) a.obs, noted := a.noted ++ [8 * b.at_] }
end Go.V
namespace Go.Proofs.YtmlnoodopoaafaaDoor
open Go Go.V
set_option maxHeartbeats 6400000
set_option maxRecDepth 100000
theorem note_spec (p : Nat) (x : HW) (hx : HOk x) (b : Ob) (hb : b ∈ x.a.obs) (hn : x.a.noted.length < 1073741823) :
    Fun Tryd.prog 39 [ptr0 p, vi b.at_] [HA p x] (fun v Post => ∃ y, (v = .tuple #[] ∧ HOk y ∧ y.a = noteA x.a b) ∧ Post = [HA p y]) := by
  have hh := head_spec p x hx b hb
  have hok := hx.lay.ok b hb
  have hr := hx.range hb
  have hm : (setNoted b.hd).May := ⟨hok.may.cls, hok.may.hash, hok.may.age, hok.may.slots, hok.may.spare, hok.may.fmt, hok.may.plain, hok.may.eph, hok.may.meth, hok.may.some⟩
  have key := hx.setH hb (g := setNoted) (fun _ => rfl) hm (fun e => e)
  have hset := setHead_spec p x b.at_ (setNoted b.hd) hm (hx.lay.at_lt hb) hx.lay.len
  have hoop := oop_spec b.at_ hr.1 hr.2
  unfold noteA
  simp only [hdEnc] at hh hset
  refine Fun.intro low39 (by simp [n39]) ?_
  refine GOH ?_
  refine st_callS hh (by rfl) (by exact TKx) ?_
  refine st_alloc (fun q => ?_)
  refine GOH ?_
  by_cases hnd : b.hd.noted = true
  · rw [hnd]
    refine GOH ?_
    exact endQ_mk (.inr rfl) .nil ⟨x, ⟨rfl, hx, rfl⟩, rfl⟩ (by exact IMx)
  have hnf : b.hd.noted = false := by simpa using hnd
  rw [hnf]
  refine GOH ?_
  refine st_call hset (by rfl) (by exact SPx) (fun v Post hv => ?_)
  obtain ⟨rfl, rfl⟩ := hv
  simp only [CNx]
  rw [show (setNoted b.hd).slots = b.hd.slots from rfl]
  refine GOH ?_
  rw [if_neg (by simp)]
  obtain ⟨a, c, hk⟩ := hx.note.form
  have hsl := hx.note
  rw [hk] at hsl
  obtain ⟨x1, hx1⟩ : ∃ x1 : HW, x1 = { x with a := { x.a with obs := updO b.at_ (setH setNoted) x.a.obs }, ws := (x.ws.set b.at_ (pk (setNoted b.hd))).set (b.at_ + 1) b.hd.slots } := ⟨_, rfl⟩
  have ok1 : HOk x1 := by rw [hx1]; exact key
  have e1 : x1.a.noted = x.a.noted := by rw [hx1]
  have e2 : x1.nv = x.nv := by rw [hx1]
  have e3 : x1.ns = x.ns := by rw [hx1]
  have e4 : x1.a = { x.a with obs := updO b.at_ (setH setNoted) x.a.obs } := by rw [hx1]
  have hmap : (x.a.noted ++ [8 * b.at_]).map uv = x.a.noted.map uv ++ [uv (8 * b.at_)] := by simp
  have fin : ∀ sv' sp', IsSl 1 sv' (x.a.noted.length + 1) (x.a.noted.map uv ++ [uv (8 * b.at_)]) sp' → HOk { x1 with a := { x1.a with noted := x.a.noted ++ [8 * b.at_] }, nv := sv', ns := sp' } := fun sv' sp' h => by
    refine ⟨ok1.lay, ⟨ok1.rm.len, ok1.rm.zero, ok1.rm.rng, ok1.rm.low, ok1.rm.apart, ok1.rm.inn⟩, ok1.spl, ok1.cll, ok1.sps, ok1.cls, ok1.stks, ok1.ques, ?_, ok1.stk, ok1.que, by simpa using h, ok1.map, ok1.given, ok1.deep, ⟨ok1.few.1, by simp; omega⟩⟩
    intro o ho
    rcases List.mem_append.1 ho with h | h
    · exact hx.nots o h
    · rw [List.mem_singleton.1 h]; omega
  refine VC.imp (H' := HMem p x1) ?_ ?_
  · refine Imp.cut (M := [HA p x1]) ?_ (ha_out p x1)
    rw [hx1]
    show Imp [HA p { x with ws := (x.ws.set b.at_ (pk (setNoted b.hd))).set (b.at_ + 1) b.hd.slots }, _] [HA p { x with ws := (x.ws.set b.at_ (pk (setNoted b.hd))).set (b.at_ + 1) b.hd.slots }]
    exact Imp.head
  simp only [HMem, arrV, e1, e2, e3, hk]
  refine VC.draw2 ?_ ?_
  all_goals
    refine GOH ?_
    refine st_callP hoop (by rfl) ?_
    refine GOH ?_
    refine st_bslice (out := [uv (8 * b.at_)]) (by rfl) (by rfl) (fun q3 => ?_)
    refine st_append (k := x.a.noted.length) (m := 1) (xs := x.a.noted.map uv) (sp := x.ns) (ys := [uv (8 * b.at_)]) (by rfl) (by rfl) hsl (by exact TKx) (by rfl) ?_ rfl (by rfl) (by rfl) (by decide) (by omega) (fun sv' sp' hsl' => ?_)
    · exact ⟨rfl, fun a ha => by simp only [List.flatten_cons, List.mem_append]; exact .inl ha⟩
    have ok2 := fin sv' sp' hsl'
    obtain ⟨a', c', rfl⟩ := hsl'.form
    refine GOH ?_
    refine endQ_mk (.inl rfl) .nil ⟨_, ⟨rfl, ok2, by rw [e4]⟩, rfl⟩ (Imp.cut ?_ (ha_in p _))
    simp only [HMem, arrV, hmap]
    exact IMx
def setA (a : AH) (b : Ob) (i v : Nat) : AH := if 4 ≤ spaceW a.rm b.at_ ∧ youngO a v = true then noteA (slotA a b i v) (V.setB i v b) else slotA a b i v
theorem setSlotN_spec (p : Nat) (x : HW) (hx : HOk x) (o : Nat) (b : Ob) (hb : getO x.a.obs o = some b) (ho : o < 18446744073709551616) (i v : Nat) (hi : i < b.many) (hv : v < 18446744073709551616) (hm6 : b.hd.fmt ≠ 6) (hmay : mayO x.a v = true) (hn : x.a.noted.length < 1073741823) :
    Fun Tryd.prog 9 [ptr0 p, uv o, vi i, uv v] [HA p x] (fun r Post => ∃ y, (r = vi 0 ∧ HOk y ∧ y.a = setA x.a b i v) ∧ Post = [HA p y]) := by
  obtain ⟨hw, hm⟩ := hx.word hb
  have ha := at_spec p x hx o ho
  have hok := hx.lay.ok b hm
  have hmany := hok.many
  have hr := hx.range hm
  have hM := hmay_spec p x hx v hv
  have hh := head_spec p x hx b hm
  have key := hx.setB hm (i := i) (v := v) (by omega) hv (fun e => absurd e hm6)
  have hwr := where_spec p _ key b.at_ (by omega)
  have hyg := young_spec p _ key v hv
  have hyo : youngO { x.a with obs := updO b.at_ (V.setB i v) x.a.obs } v = youngO x.a v := youngO_upd (keep_setB i v) x.a v
  simp only [hyo] at hyg
  have hb' : V.setB i v b ∈ updO b.at_ (V.setB i v) x.a.obs := mem_updO.2 ⟨b, hm, by rw [if_pos rfl]⟩
  have hnote := note_spec p _ key (V.setB i v b) hb' hn
  rw [show (V.setB i v b).at_ = b.at_ from rfl] at hnote
  have hoff : b.off + i < x.ws.length := by
    have := hx.lay.high b hm
    unfold Ob.stop at this; unfold Ob.off; split <;> omega
  rw [hmay] at hM
  rw [hb, hw] at ha
  simp only [hdEnc] at hh
  have hfm : decide ((b.hd.fmt : Int) = 6) = false := decide_eq_false (by omega)
  unfold setA
  refine Fun.intro low9 (by simp [n9]) ?_
  refine GOH ?_
  refine st_callS (slot_spec p x hx o b hb ho i hi) (by rfl) (by exact TKx) ?_
  refine GOH ?_
  refine st_callS ha (by rfl) (by exact TKx) ?_
  refine GOH ?_
  by_cases h0 : i = 0
  · rw [show decide ((i : Int) = 0) = true from decide_eq_true (by omega)]
    refine GOH ?_
    refine st_callS hh (by rfl) (by exact TKx) ?_
    refine GOH ?_
    rw [hfm]
    refine GOH ?_
    refine st_callS hM (by rfl) (by exact TKx) ?_
    refine GOH ?_
    refine st_storeW (by rfl) (by rfl) .here hoff ?_
    refine GOH ?_
    refine st_callS hwr (by rfl) .here ?_
    refine GOH ?_
    by_cases h4 : 4 ≤ spaceW x.a.rm b.at_
    rotate_left
    · rw [show decide ((4 : Int) ≤ (spaceW x.a.rm b.at_ : Int)) = false from decide_eq_false (by omega)]
      refine GOH ?_
      exact endQ_mk (.inr rfl) (.tmp (by rfl) .nil) ⟨_, ⟨rfl, key, by rw [if_neg (fun h => h4 h.1)]; rfl⟩, rfl⟩ Imp.head
    rw [show decide ((4 : Int) ≤ (spaceW x.a.rm b.at_ : Int)) = true from decide_eq_true (by omega)]
    refine GOH ?_
    refine st_callS hyg (by rfl) .here ?_
    refine GOH ?_
    cases hyv : youngO x.a v
    · refine GOH ?_
      exact endQ_mk (.inr rfl) (.tmp (by rfl) .nil) ⟨_, ⟨rfl, key, by rw [if_neg (fun h => by cases h.2)]; rfl⟩, rfl⟩ Imp.head
    · refine GOH ?_
      refine VO.imp (H' := [HA p { x with a := { x.a with obs := updO b.at_ (V.setB i v) x.a.obs }, ws := x.ws.set (b.off + i) v }]) (Imp.refl _) ?_
      refine st_call hnote (by rfl) (by exact SPx) (fun v Post hv => ?_)
      obtain ⟨y, ⟨rfl, hy, hya⟩, rfl⟩ := hv
      simp only [CNx]
      refine GOH ?_
      exact endQ_mk (.inr rfl) (.tmp (by rfl) .nil) ⟨y, ⟨rfl, hy, by rw [if_pos ⟨h4, by trivial⟩, hya]; rfl⟩, rfl⟩ (by exact IMx)
  · rw [show decide ((i : Int) = 0) = false from decide_eq_false (by omega)]
    refine GOH ?_
    refine st_callS hM (by rfl) (by exact TKx) ?_
    refine GOH ?_
    refine st_storeW (by rfl) (by rfl) .here hoff ?_
    refine GOH ?_
    refine st_callS hwr (by rfl) .here ?_
    refine GOH ?_
    by_cases h4 : 4 ≤ spaceW x.a.rm b.at_
    rotate_left
    · rw [show decide ((4 : Int) ≤ (spaceW x.a.rm b.at_ : Int)) = false from decide_eq_false (by omega)]
      refine GOH ?_
      exact endQ_mk (.inr rfl) (.tmp (by rfl) .nil) ⟨_, ⟨rfl, key, by rw [if_neg (fun h => h4 h.1)]; rfl⟩, rfl⟩ Imp.head
    rw [show decide ((4 : Int) ≤ (spaceW x.a.rm b.at_ : Int)) = true from decide_eq_true (by omega)]
    refine GOH ?_
    refine st_callS hyg (by rfl) .here ?_
    refine GOH ?_
    cases hyv : youngO x.a v
    · refine GOH ?_
      exact endQ_mk (.inr rfl) (.tmp (by rfl) .nil) ⟨_, ⟨rfl, key, by rw [if_neg (fun h => by cases h.2)]; rfl⟩, rfl⟩ Imp.head
    · refine GOH ?_
      refine VO.imp (H' := [HA p { x with a := { x.a with obs := updO b.at_ (V.setB i v) x.a.obs }, ws := x.ws.set (b.off + i) v }]) (Imp.refl _) ?_
      refine st_call hnote (by rfl) (by exact SPx) (fun v Post hv => ?_)
      obtain ⟨y, ⟨rfl, hy, hya⟩, rfl⟩ := hv
      simp only [CNx]
      refine GOH ?_
      exact endQ_mk (.inr rfl) (.tmp (by rfl) .nil) ⟨y, ⟨rfl, hy, by rw [if_pos ⟨h4, by trivial⟩, hya]; rfl⟩, rfl⟩ (by exact IMx)
theorem alloc5_spec (p : Nat) (x : HW) (hx : HOk x) (c n : Nat) (hc : c ≤ 4095) (hn : n ≤ 60000) (h0 : youngO x.a (x.a.sp.headD 0) = false) :
    Fun Tryd.prog 8 [ptr0 p, cv 5, vi c, cv 1, vi n] [HA p x, TZ]
      (fun v Post => ∃ y, ((v = .tuple #[uv 0, vi 41] ∧ y = x) ∨ (∃ w : Nat, v = .tuple #[uv (8 * w), vi 0] ∧ (roomR x.a 5).1 ≤ w ∧ w < (roomR x.a 5).2.1 ∧ HOk y ∧ y.a = filledA (putA x.a (newO w (hdOf c 1 n))) w n)) ∧ Post = [HA p y, TZ]) := by
  have hmay := hdOf_may hc (f := 1) (by decide) (by omega : n ≤ 65536) (fun e => absurd e (by decide))
  have hlay := lay5_spec p x hx (hdOf c 1 n) hmay (show (1 : Nat) ≠ 6 by decide)
  have hmk : Fun Tryd.prog 28 [cv 5] [] (fun v Post => v = .bool true ∧ Post = []) := (makes_spec 5 (by omega)).mono (fun v Post hv => by
    obtain ⟨rfl, rfl⟩ := hv; exact ⟨by rw [decide_eq_true (by omega)], rfl⟩)
  have hsl : (hdOf c 1 n).slots = n := rfl
  have hsz : Fun Tryd.prog 27 [.agg #[vi c, cv 1, vi 0, vi 0, vi 0, vi 0, .bool false, .bool false], vi n, vi 0] [] (fun v Post => v = .tuple #[.agg (hdEnc (hdOf c 1 n)).toArray, .bool true] ∧ Post = []) := sizedH_spec c 1 n hc (by decide) (by omega)
  have hl6 := hx.rm.len
  obtain ⟨r, hr⟩ : ∃ r, x.a.rm[5]? = some r := ⟨_, List.getElem?_eq_getElem (by omega)⟩
  have hroom : roomR x.a 5 = r := by unfold roomR; rw [hr]; rfl
  have hrg := hx.rm.rng 5 r hr
  have hlw := hx.rm.low 5 r (by omega) hr
  have hxl := hx.lay.len
  generalize hH : hdOf c 1 n = H at *
  have hHf : H.fmt = 1 := by rw [← hH]; rfl
  have hsp : ∀ w (y : HW), HOk y → (roomR x.a 5).1 ≤ w → w < (roomR x.a 5).2.1 → y.a = putA x.a (newO w H) → youngO y.a (y.a.sp.headD 0) = false := fun w y hy h1 h2 e => by
    rw [show y.a.sp = x.a.sp by rw [e]; rfl]
    refine youngO_ins hx hy (b := newO w H) (by rw [e]; rfl) (fun i => by rw [e]; exact ⟨rfl, rfl⟩) ?_ h0
    show 4 ≤ spaceW x.a.rm w
    rw [space_of hx (sp := 5) (by omega) (by omega) hr (by rw [← hroom]; exact ⟨h1, h2⟩)]
    omega
  simp only [hdEnc] at hsz hlay
  refine Fun.intro low8 (by simp [n8]) ?_
  refine GOH ?_
  refine st_callP hsz (by rfl) ?_
  refine GOH ?_
  refine st_alloc (fun q => ?_)
  refine GOH ?_
  refine st_callP hmk (by rfl) ?_
  refine GOH ?_
  refine st_call hlay (by rfl) (by exact SPx) (fun v Post hv => ?_)
  obtain ⟨y, hy, rfl⟩ := hv
  simp only [CNx]
  rcases hy with ⟨rfl, rfl⟩ | ⟨w, rfl, k1, k2, hok, hya⟩
  · refine GOH ?_
    exact endQ_mk (.inr rfl) (.tmp (by rfl) (.tmp (by rfl) .nil)) ⟨y, .inl ⟨rfl, rfl⟩, rfl⟩ (by exact IMx)
  have hb : newO w H ∈ y.a.obs := by rw [hya]; exact mem_insO.2 (.inl rfl)
  have hoop := oop_spec w (by rw [hroom] at k1; omega) (by rw [hroom] at k2; omega)
  refine GOH ?_
  refine st_callS (slots_spec p y hok (newO w H) hb) (by rfl) .here ?_
  refine GOH ?_
  refine st_call (fill_spec p y hok (newO w H) hb (by show H.fmt ≠ 6; omega) (.inr (hsp w y hok k1 k2 hya))) (by rfl) (by exact SPx) (fun v Post hv => ?_)
  obtain ⟨y2, ⟨rfl, hok2, hya2⟩, rfl⟩ := hv
  simp only [CNx]
  refine GOH ?_
  refine st_callP hoop (by rfl) ?_
  refine GOH ?_
  exact endQ_mk (.inr rfl) (.tmp (by rfl) (.tmp (by rfl) .nil)) ⟨y2, .inr ⟨w, rfl, k1, k2, hok2, by rw [hya2, hya, show (newO w H).hd.slots = n from hsl]; rfl⟩, rfl⟩ (by exact IMx)
end Go.Proofs.YtmlnoodopoaafaaDoor

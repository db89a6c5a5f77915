/-
  The heap: words are taken, an object is laid.
-/
import Derived.Test.YtmlnoodopoaafaaDoorP2
import Derived.Test.YtmlnoodopoaafaaDoorH3
import Derived.Test.YtmlnoodopoaafaaDoorC2
set_option linter.unusedSimpArgs false
set_option linter.unusedVariables false
namespace Go.Proofs.YtmlnoodopoaafaaDoor
open Go Go.V
set_option maxHeartbeats 3200000
set_option maxRecDepth 100000
def roomA (a : AH) (sp : Nat) : Nat × Nat × Nat := (a.rm[sp]?).getD (0, 0, 0)
def tookA (a : AH) (sp n : Nat) : AH := { a with rm := a.rm.set sp ((roomA a sp).1, (roomA a sp).2.1, (roomA a sp).2.2 + n) }
theorem take_spec (p : Nat) (x : HW) (hx : HOk x) (sp n : Nat) (h1 : 1 ≤ sp) (h4 : sp ≤ 4) (hn : n ≤ 1073741824) : Fun Tryd.prog 63 [ptr0 p, cv sp, vi n] [HA p x]
    (fun v Post => ∃ y, ((((roomA x.a sp).2.1 : Int) - (roomA x.a sp).2.2 < n ∧ v = vi (-1) ∧ y = x) ∨ (¬ ((roomA x.a sp).2.1 : Int) - (roomA x.a sp).2.2 < n ∧ v = vi (roomA x.a sp).2.2 ∧ y = { x with a := tookA x.a sp n })) ∧ Post = [HA p y]) := by
  refine Fun.haT ?_
  refine Fun.intro low63 (by simp [n63]) ?_
  obtain ⟨r0, r1, r2, r3, r4, r5, hrm⟩ := rm_six hx.rm.len
  have hrng := hx.rm.rng
  have hlen := hx.lay.len
  have k1 := hrng 1 r1 (by rw [hrm]; rfl)
  have k2 := hrng 2 r2 (by rw [hrm]; rfl)
  have k3 := hrng 3 r3 (by rw [hrm]; rfl)
  have k4 := hrng 4 r4 (by rw [hrm]; rfl)
  obtain ⟨r1a, r1b, r1c⟩ := r1
  obtain ⟨r2a, r2b, r2c⟩ := r2
  obtain ⟨r3a, r3b, r3c⟩ := r3
  obtain ⟨r4a, r4b, r4c⟩ := r4
  simp only at k1 k2 k3 k4
  have hs : sp = 1 ∨ sp = 2 ∨ sp = 3 ∨ sp = 4 := by omega
  refine VC.seq_reg ?_
  refine st_box (by rfl) (fun q => ?_)
  refine st_alloc (fun q2 => ?_)
  simp only [HMem, arrV, hrm, List.flatMap_cons, List.flatMap_nil, rmEnc, List.cons_append, List.nil_append, Value.cells]
  rcases hs with rfl | rfl | rfl | rfl
  all_goals
    simp only [roomA, hrm, List.getElem?_cons_succ, List.getElem?_cons_zero, Option.getD_some]
    refine GOH ?_
    (first | (apply VC.seq_cond; rfl) | (apply VC.cond; rfl))
    · intro ht
      have ht := of_decide_eq_true ht
      refine GOH ?_
      refine ⟨.inr rfl, _, _, .cell1 (v := vi (-1)) (by rfl) (by simp [cellsAt]) .nil, ?_, ⟨x, .inl ⟨ht, rfl, rfl⟩, rfl⟩⟩
      simp only [HMem, arrV, hrm, List.flatMap_cons, List.flatMap_nil, rmEnc, List.cons_append, List.nil_append]
      exact IMx
    · intro ht
      have ht := of_decide_eq_false ht
      refine GOH ?_
      refine ⟨.inr rfl, _, _, .cell1 (v := vi _) (by rfl) (List.mem_append_left _ (List.mem_cons_self ..)) .nil, ?_, ⟨{ x with a := tookA x.a _ n }, .inr ⟨ht, rfl, rfl⟩, rfl⟩⟩
      simp only [HMem, arrV, tookA, roomA, hrm, List.getElem?_cons_succ, List.getElem?_cons_zero, Option.getD_some, List.set_cons_succ, List.set_cons_zero, List.flatMap_cons, List.flatMap_nil, rmEnc, List.cons_append, List.nil_append, Int.natCast_add]
      exact IMx
def newO (w : Nat) (h : Hd) : Ob := ⟨w, h, List.replicate h.slots 0⟩
def laidA (a : AH) (sp : Nat) (h : Hd) : AH := { tookA a sp (2 + h.slots) with obs := insO (newO (roomA a sp).2.2 h) a.obs }
theorem lay_spec (p : Nat) (x : HW) (hx : HOk x) (sp : Nat) (h : Hd) (m : h.May) (hm6 : h.fmt ≠ 6) (h1 : 1 ≤ sp) (h4 : sp ≤ 4) : Fun Tryd.prog 29 [ptr0 p, cv sp, .agg (hdEnc h).toArray] [HA p x]
    (fun v Post => ∃ y, ((((roomA x.a sp).2.1 : Int) - (roomA x.a sp).2.2 < 2 + h.slots ∧ v = .tuple #[vi 0, vi 41] ∧ y = x) ∨ (¬ ((roomA x.a sp).2.1 : Int) - (roomA x.a sp).2.2 < 2 + h.slots ∧ v = .tuple #[vi (roomA x.a sp).2.2, vi 0] ∧ HOk y ∧ y.a = laidA x.a sp h)) ∧ Post = [HA p y]) := by
  refine Fun.intro low29 (by simp [n29]) ?_
  have hms := m.slots
  have hlen := hx.lay.len
  have hlen6 := hx.rm.len
  obtain ⟨r, hr⟩ : ∃ r, x.a.rm[sp]? = some r := ⟨_, List.getElem?_eq_getElem (by omega)⟩
  have hroom : roomA x.a sp = r := by unfold roomA; rw [hr]; rfl
  have hrg := hx.rm.rng sp r hr
  have hlow := hx.rm.low sp r h1 hr
  have ht := take_spec p x hx sp (2 + h.slots) h1 h4 (by omega)
  rw [hroom] at ht
  simp only [hroom]
  obtain ⟨f, t, w⟩ := r
  simp only at hrg hlow ht ⊢
  refine VC.seq_reg ?_
  refine st_box (by rfl) (fun q => ?_)
  simp only [Value.cells, hdEnc]
  refine GOH ?_
  rw [show (2 + (h.slots : Int)) = ((2 + h.slots : Nat) : Int) by omega]
  refine st_call ht (by rfl) (by exact SPx) (fun v Post hv => ?_)
  obtain ⟨y, hy, rfl⟩ := hv
  rcases hy with ⟨hlt, rfl, rfl⟩ | ⟨hlt, rfl, rfl⟩
  · refine GOH ?_
    exact endQ_mk (.inr rfl) (.tmp (by rfl) (.tmp (by rfl) .nil)) ⟨y, .inl ⟨by omega, rfl, rfl⟩, rfl⟩ (by exact IMx)
  have hfit : w + 2 + h.slots ≤ t := by omega
  refine GOH ?_
  rw [show decide ((w : Int) < 0) = false from decide_eq_false (by omega)]
  refine GOH ?_
  have hwl : w + 2 + h.slots ≤ x.ws.length := by omega
  simp only [CNx]
  obtain ⟨x1, hx1⟩ : ∃ x1 : HW, x1 = { x with a := tookA x.a sp (2 + h.slots) } := ⟨_, rfl⟩
  rw [← hx1]
  have e1 : x1.ws = x.ws := by rw [hx1]
  refine st_call (setHead_spec p x1 w h m (by rw [e1]; omega) (by rw [e1]; exact hlen)) (by rfl) (by exact SPx) (fun v Post hv => ?_)
  obtain ⟨rfl, rfl⟩ := hv
  simp only [CNx]
  obtain ⟨x2, hx2⟩ : ∃ x2 : HW, x2 = { x1 with ws := (x1.ws.set w (pk h)).set (w + 1) h.slots } := ⟨_, rfl⟩
  rw [← hx2]
  have e2 : x2.ws = (x.ws.set w (pk h)).set (w + 1) h.slots := by rw [hx2, e1]
  have l2 : x2.ws.length = x.ws.length := by rw [e2]; simp
  have g2 : x2.ws[w + 1]? = some h.slots := by rw [e2, List.getElem?_set_self (by simp; omega)]
  refine GOH ?_
  refine st_callS (slotsW_spec p x2 w h.slots g2 (by rw [l2]; omega) (by rw [l2]; exact hlen)) (by rfl) .here ?_
  refine st_clrW (w := w) (by rw [l2]; omega) (by rfl) .here ?_
  obtain ⟨x3, hx3⟩ : ∃ x3 : HW, x3 = { x2 with ws := clrW x2.ws w h.slots } := ⟨_, rfl⟩
  rw [← hx3]
  have e3 : x3.ws = clrW x2.ws w h.slots := by rw [hx3]
  have s3 : x3.st = x.st := by rw [hx3, hx2, hx1]
  have hstl := hx.lay.stl
  refine GOH ?_
  refine st_call (begin_spec p x3 w true (by rw [s3]; omega) (by rw [s3]; omega) (by rw [s3]; exact hx.lay.sts)) (by rfl) (by exact SPx) (fun v Post hv => ?_)
  obtain ⟨rfl, rfl⟩ := hv
  simp only [CNx]
  refine GOH ?_
  have hb : (newO w h).Ok := ⟨m, by simp [newO], fun y hy => by simp [newO] at hy; omega, fun e => absurd e hm6⟩
  have key := hx.newO (sp := sp) h1 hr hb (b := newO w h) (by
      have := hx.free h1 (by omega) hr (e := w + 2 + h.slots) (by omega)
      exact this) (by show f ≤ w; omega) (by show w + 2 + h.slots ≤ t; omega) (rm' := x.a.rm.set sp (f, t, w + 2 + h.slots)) (.inr ⟨by omega, rfl, rfl⟩) (ws' := x3.ws)
      (by rw [e3, clrW_len (by rw [l2]; omega), l2])
      (by
        rw [e3]
        intro y hy
        obtain ⟨i, hi⟩ := List.getElem?_of_mem hy
        rw [clrW_get (by rw [l2]; omega)] at hi
        split at hi
        · cases hi; omega
        · have := List.mem_of_getElem? hi
          rw [e2] at this
          rcases List.mem_or_eq_of_mem_set this with h | rfl
          · rcases List.mem_or_eq_of_mem_set h with h | rfl
            · exact hx.lay.small y h
            · have := m.lt; omega
          · omega)
      (by
        intro i hi
        rw [e3, clrW_get (by rw [l2]; omega), if_neg (by have : (newO w h).stop = w + 2 + h.slots := rfl; have : (newO w h).at_ = w := rfl; omega), e2]
        have : (newO w h).stop = w + 2 + h.slots := rfl
        have : (newO w h).at_ = w := rfl
        rw [List.getElem?_set_ne (by omega), List.getElem?_set_ne (by omega)])
      (by
        have : (newO w h).at_ = w := rfl
        rw [this, e3, clrW_get (by rw [l2]; omega), clrW_get (by rw [l2]; omega), if_neg (by omega), if_neg (by omega), e2]
        rw [List.getElem?_set_self (by simp; omega), List.getElem?_set_ne (by omega), List.getElem?_set_self (by omega)]
        exact ⟨rfl, rfl⟩)
      (by
        intro i hi
        have : (newO w h).at_ = w := rfl
        have hi' : i < h.slots := hi
        rw [this, e3, clrW_get (by rw [l2]; omega), if_pos (by omega)]
        show some 0 = (List.replicate h.slots 0)[i]?
        rw [List.getElem?_replicate, if_pos hi'])
  have ea : tookA x.a sp (2 + h.slots) = { x.a with rm := x.a.rm.set sp (f, t, w + 2 + h.slots) } := by
    unfold tookA; rw [hroom, show w + (2 + h.slots) = w + 2 + h.slots by omega]
  refine endQ_mk (.inr rfl) (.tmp (by rfl) (.tmp (by rfl) .nil)) ⟨_, .inr ⟨by omega, rfl, key, ?_⟩, rfl⟩ ?_
  · unfold laidA
    rw [ea, hroom]
  · have : ({ x with a := { x.a with rm := x.a.rm.set sp (f, t, w + 2 + h.slots), obs := insO (newO w h) x.a.obs }, ws := x3.ws, st := setBit x.st (newO w h).at_ true } : HW) = { x3 with a := { x3.a with obs := insO (newO w h) x.a.obs }, st := setBit x3.st w true } := by
      rw [hx3, hx2, hx1, ea]; rfl
    rw [this]
    show Imp _ [HA p { x3 with st := setBit x3.st w true }]
    exact IMx
def partA (x : HW) (b : Ob) : Value := .slice (some ⟨x.wb, b.off, none⟩) b.many b.many
def partB (x : HW) (b : Ob) : Value := .slice (some ⟨x.wb, if b.hd.slots = b.many then b.off else b.off + b.many * 1, none⟩) (b.hd.slots - b.many) (b.hd.slots - b.many)
theorem parts_spec (p : Nat) (x : HW) (hx : HOk x) (b : Ob) (hb : b ∈ x.a.obs) : Fun Tryd.prog 67 [ptr0 p, vi b.at_] [HA p x] (fun v Post => v = .tuple #[partA x b, partB x b] ∧ Post = [HA p x]) := by
  have hs := slots_spec p x hx b hb
  have hh := head_spec p x hx b hb
  have hok := hx.lay.ok b hb
  have hmany := hok.many
  have hsl := hok.may.slots
  obtain ⟨f1, f6⟩ := hok.may.fmt
  refine Fun.intro low67 (by simp [n67]) ?_
  rw [show (if b.hd.slots = 0 then 0 else b.at_ + 2) = b.off from rfl] at hs
  simp only [hdEnc] at hh
  unfold partA partB
  refine GOH ?_
  refine st_callS hs (by rfl) .here ?_
  refine GOH ?_
  refine st_callS hh (by rfl) .here ?_
  refine GOH ?_
  have hfm : b.hd.fmt = 1 ∨ b.hd.fmt = 2 ∨ b.hd.fmt = 3 ∨ b.hd.fmt = 4 ∨ b.hd.fmt = 5 ∨ b.hd.fmt = 6 := by omega
  have e6 : b.hd.fmt = 6 → ∃ n, b.many = n + 1 ∧ n < 1152921504606846976 ∧ Atom.cell x.wb b.off (uv (8 * n + 1)) ∈ HA p x := fun e => by
    obtain ⟨n, r, e1, e2⟩ := hok.meth e
    have hl := hok.len
    rw [e1] at hl
    simp only [List.length_cons] at hl
    refine ⟨n, ?_, by omega, ?_⟩
    · unfold Ob.many; rw [if_pos e, e1]; simp only [List.headD_cons]; omega
    · have := (hx.slot hb (i := 0) (v := 8 * n + 1) (by rw [e1]; rfl)).1
      exact ha_mem this
  have eN : b.hd.fmt = 1 ∨ b.hd.fmt = 2 ∨ b.hd.fmt = 3 → b.many = b.hd.slots := fun e => by
    unfold Ob.many; rw [if_neg (by omega), if_neg (by omega)]
  have e0 : b.hd.fmt = 4 ∨ b.hd.fmt = 5 → b.many = 0 := fun e => by
    unfold Ob.many; rw [if_neg (by omega), if_pos e]
  rcases hfm with e | e | e | e | e | e
  rotate_right
  · rw [e]
    obtain ⟨n, k1, k2, k3⟩ := e6 e
    have hsl0 := hok.may.meth e
    refine GOH ?_
    refine st_callP (smallOf_spec n k2) (by rfl) ?_
    refine GOH ?_
    refine st_slcL2 (h := b.many) (by rfl) (by rfl) (by rfl) (by omega) (by omega) (by omega) ?_
    refine GOH ?_
    refine st_slcL1 (l := b.many) (by rfl) (by rfl) (by omega) (by omega) ?_
    refine GOH ?_
    exact endQ_mk (.inr rfl) (.tmp (by rfl) (.tmp (by rfl) .nil)) ⟨rfl, rfl⟩ (by exact IMx)
  all_goals
    rw [e]
    first
      | (have em := eN (by omega)
         refine GOH ?_
         refine st_slcL2 (h := b.many) (by rfl) (by rfl) (by rfl) (by omega) (by omega) (by omega) ?_
         refine GOH ?_
         refine st_slcL1 (l := b.many) (by rfl) (by rfl) (by omega) (by omega) ?_
         refine GOH ?_
         exact endQ_mk (.inr rfl) (.tmp (by rfl) (.tmp (by rfl) .nil)) ⟨rfl, rfl⟩ (by exact IMx))
      | (have em := e0 (by omega)
         rw [em]
         refine GOH ?_
         refine endQ_mk (.inr rfl) (.tmp (by rfl) (.tmp (by rfl) .nil)) ⟨?_, rfl⟩ (by exact IMx)
         simp [tup]; done)
theorem oops_spec (p : Nat) (x : HW) (hx : HOk x) (o : Nat) (b : Ob) (hb : getO x.a.obs o = some b) (ho : o < 18446744073709551616) : Fun Tryd.prog 80 [ptr0 p, uv o] [HA p x] (fun v Post => v = .tuple #[vi b.many, vi 0] ∧ Post = [HA p x]) := by
  obtain ⟨hw, hm⟩ := hx.word hb
  have ha := at_spec p x hx o ho
  rw [hb, hw] at ha
  refine Fun.intro low80 (by simp [n80]) ?_
  refine GOH ?_
  refine st_callS ha (by rfl) .here ?_
  refine GOH ?_
  refine st_callS (parts_spec p x hx b hm) (by rfl) .here ?_
  unfold partA
  refine GOH ?_
  exact endQ_mk (.inr rfl) (.tmp (by rfl) (.tmp (by rfl) .nil)) ⟨rfl, rfl⟩ (by exact IMx)
theorem slot_spec (p : Nat) (x : HW) (hx : HOk x) (o : Nat) (b : Ob) (hb : getO x.a.obs o = some b) (ho : o < 18446744073709551616) (i : Nat) (hi : i < b.many) : Fun Tryd.prog 33 [ptr0 p, uv o, vi i] [HA p x] (fun v Post => v = .tuple #[.pointer (some ⟨x.wb, b.off + i, none⟩), vi 0] ∧ Post = [HA p x]) := by
  obtain ⟨hw, hm⟩ := hx.word hb
  have ha := at_spec p x hx o ho
  have hmany := (hx.lay.ok b hm).many
  have hsl := (hx.lay.ok b hm).may.slots
  rw [hb, hw] at ha
  refine Fun.intro low33 (by simp [n33]) ?_
  refine GOH ?_
  refine st_callS ha (by rfl) .here ?_
  refine GOH ?_
  refine st_callS (parts_spec p x hx b hm) (by rfl) .here ?_
  unfold partA
  refine GOH ?_
  rw [show decide ((b.many : Int) ≤ (i : Int)) = false from decide_eq_false (by omega)]
  refine GOH ?_
  exact endQ_mk (.inr rfl) (.tmp (by rfl) (.tmp (by rfl) .nil)) ⟨rfl, rfl⟩ (by exact IMx)
theorem slotV_spec (p : Nat) (x : HW) (hx : HOk x) (o : Nat) (b : Ob) (hb : getO x.a.obs o = some b) (ho : o < 18446744073709551616) (i u : Nat) (hi : i < b.many) (hu : b.body[i]? = some u) : Fun Tryd.prog 16 [ptr0 p, uv o, vi i] [HA p x] (fun v Post => v = .tuple #[uv u, vi 0] ∧ Post = [HA p x]) := by
  obtain ⟨hw, hm⟩ := hx.word hb
  have hmem := ha_mem (p := p) (hx.slot hm hu).1
  refine Fun.intro low16 (by simp [n16]) ?_
  refine GOH ?_
  refine st_callS (slot_spec p x hx o b hb ho i hi) (by rfl) .here ?_
  refine GOH ?_
  exact endQ_mk (.inr rfl) (.tmp (by rfl) (.tmp (by rfl) .nil)) ⟨rfl, rfl⟩ (by exact IMx)
def mayO (a : AH) (o : Nat) : Bool := decide (tagO o ≤ 2) || (getO a.obs o).isSome
theorem hmay_spec (p : Nat) (x : HW) (hx : HOk x) (o : Nat) (ho : o < 18446744073709551616) : Fun Tryd.prog 36 [ptr0 p, uv o] [HA p x] (fun v Post => v = .bool (mayO x.a o) ∧ Post = [HA p x]) := by
  have hi := is_spec p x hx o ho
  refine Fun.intro low36 (by simp [n36]) ?_
  unfold mayO
  have ht : tagO o ≤ 4 := by unfold tagO; repeat' split
                             all_goals omega
  refine GOH ?_
  refine st_callP (tag_spec o ho) (by rfl) ?_
  by_cases h : tagO o ≤ 2
  · rw [decide_eq_true h, Bool.true_or]
    have h3 : tagO o = 0 ∨ tagO o = 1 ∨ tagO o = 2 := by omega
    rcases h3 with e | e | e
    all_goals
      rw [e]
      refine GOH ?_
      exact endQ_mk (.inr rfl) (.tmp (by rfl) .nil) ⟨rfl, rfl⟩ (by exact IMx)
  · rw [decide_eq_false h, Bool.false_or]
    have h3 : tagO o = 3 ∨ tagO o = 4 := by omega
    rcases h3 with e | e
    all_goals
      rw [e]
      refine GOH ?_
      refine st_callS hi (by rfl) .here ?_
      refine GOH ?_
      exact endQ_mk (.inr rfl) (.tmp (by rfl) .nil) ⟨rfl, rfl⟩ (by exact IMx)
theorem headV_spec (p : Nat) (x : HW) (hx : HOk x) (o : Nat) (b : Ob) (hb : getO x.a.obs o = some b) (ho : o < 18446744073709551616) : Fun Tryd.prog 23 [ptr0 p, uv o] [HA p x] (fun v Post => v = .tuple #[.agg (hdEnc b.hd).toArray, vi 0] ∧ Post = [HA p x]) := by
  obtain ⟨hw, hm⟩ := hx.word hb
  have ha := at_spec p x hx o ho
  have hh := head_spec p x hx b hm
  rw [hb, hw] at ha
  simp only [hdEnc] at hh ⊢
  refine Fun.intro low23 (by simp [n23]) ?_
  refine VC.seq_reg ?_
  refine st_alloc (fun q => ?_)
  refine GOH ?_
  refine st_callS ha (by rfl) (by exact TKx) ?_
  refine GOH ?_
  refine st_callS hh (by rfl) (by exact TKx) ?_
  refine GOH ?_
  refine ⟨.inr rfl, _, _, .cellN (us := hdEnc b.hd) (by rfl) (by rfl) (fun y hy => by simp only [List.flatten_cons, List.mem_append]; exact .inl hy) (.tmp (by rfl) .nil), ?_, ⟨rfl, rfl⟩⟩
  exact IMx
theorem bytes_spec (p : Nat) (x : HW) (hx : HOk x) (b : Ob) (hb : b ∈ x.a.obs) : Fun Tryd.prog 83 [ptr0 p, vi b.at_] [HA p x] (fun v Post => v = .tuple #[vi b.bytesI, if b.hd.fmt < 5 then .slice none 0 0 else partB x b] ∧ Post = [HA p x]) := by
  have hh := head_spec p x hx b hb
  have hp := parts_spec p x hx b hb
  have hok := hx.lay.ok b hb
  have hsl := hok.may.slots
  have hsp := hok.may.spare
  simp only [hdEnc] at hh
  refine Fun.intro low83 (by simp [n83]) ?_
  unfold Ob.bytesI
  by_cases h5 : b.hd.fmt < 5
  · rw [if_pos h5, if_pos h5]
    refine GOH ?_
    refine st_callS hh (by rfl) (by exact TKx) ?_
    refine st_alloc (fun q => ?_)
    refine GOH ?_
    rw [show decide ((b.hd.fmt : Int) < 5) = true from decide_eq_true (by omega)]
    refine GOH ?_
    exact endQ_mk (.inr rfl) (.tmp (by rfl) (.tmp (by rfl) .nil)) ⟨rfl, rfl⟩ (by exact IMx)
  · rw [if_neg h5, if_neg h5]
    refine GOH ?_
    refine st_callS hh (by rfl) (by exact TKx) ?_
    refine st_alloc (fun q => ?_)
    refine GOH ?_
    rw [show decide ((b.hd.fmt : Int) < 5) = false from decide_eq_false (by omega)]
    refine GOH ?_
    refine st_callS hp (by rfl) (by exact TKx) ?_
    unfold partB
    refine GOH ?_
    exact endQ_mk (.inr rfl) (.tmp (by rfl) (.tmp (by rfl) .nil)) ⟨rfl, rfl⟩ (by exact IMx)
theorem bytesV_spec (p : Nat) (x : HW) (hx : HOk x) (o : Nat) (b : Ob) (hb : getO x.a.obs o = some b) (ho : o < 18446744073709551616) : Fun Tryd.prog 82 [ptr0 p, uv o] [HA p x] (fun v Post => v = .tuple #[vi b.bytesI, vi 0] ∧ Post = [HA p x]) := by
  obtain ⟨hw, hm⟩ := hx.word hb
  have ha := at_spec p x hx o ho
  rw [hb, hw] at ha
  refine Fun.intro low82 (by simp [n82]) ?_
  refine GOH ?_
  refine st_callS ha (by rfl) (by exact TKx) ?_
  refine GOH ?_
  refine st_callS (bytes_spec p x hx b hm) (by rfl) (by exact TKx) ?_
  refine GOH ?_
  exact endQ_mk (.inr rfl) (.tmp (by rfl) (.tmp (by rfl) .nil)) ⟨rfl, rfl⟩ (by exact IMx)
theorem place_spec (p : Nat) (x : HW) (hx : HOk x) (o : Nat) (b : Ob) (hb : getO x.a.obs o = some b) (ho : o < 18446744073709551616) (i : Nat) (hi : (i : Int) < b.bytesI) :
    Fun Tryd.prog 49 [ptr0 p, uv o, vi i] [HA p x] (fun v Post => v = .tuple #[.pointer (some ⟨x.wb, b.off + (b.many + i / 8), none⟩), vi ((i % 8 * 8 : Nat) : Int), vi 0] ∧ Post = [HA p x]) := by
  obtain ⟨hw, hm⟩ := hx.word hb
  have ha := at_spec p x hx o ho
  have hy := bytes_spec p x hx b hm
  have hok := hx.lay.ok b hm
  have hsl := hok.may.slots
  have h5 : ¬ b.hd.fmt < 5 := fun h => by unfold Ob.bytesI at hi; rw [if_pos h] at hi; omega
  have hi2 : (i : Int) < ((b.hd.slots - b.many : Nat) : Int) * 8 - b.hd.spare := by unfold Ob.bytesI at hi; rw [if_neg h5] at hi; exact hi
  rw [if_neg h5] at hy
  unfold partB at hy
  rw [if_neg (by omega)] at hy
  rw [hb, hw] at ha
  generalize b.bytesI = m at hi hy
  refine Fun.intro low49 (by simp [n49]) ?_
  refine GOH ?_
  refine st_callS ha (by rfl) (by exact TKx) ?_
  refine GOH ?_
  refine st_callS hy (by rfl) (by exact TKx) ?_
  refine GOH ?_
  rw [show decide (m ≤ (i : Int)) = false from decide_eq_false (by omega)]
  refine GOH ?_
  refine endQ_mk (.inr rfl) (.tmp (by rfl) (.tmp (by rfl) (.tmp (by rfl) .nil))) ⟨?_, rfl⟩ (by exact IMx)
  simp only [tup, Nat.mul_one, Int.natCast_mul]; rfl
theorem byte_spec (p : Nat) (x : HW) (hx : HOk x) (o : Nat) (b : Ob) (hb : getO x.a.obs o = some b) (ho : o < 18446744073709551616) (i u : Nat) (hi : (i : Int) < b.bytesI) (hu : b.body[b.many + i / 8]? = some u) :
    Fun Tryd.prog 17 [ptr0 p, uv o, vi i] [HA p x] (fun v Post => v = .tuple #[cv (u / 2 ^ (i % 8 * 8) % 256), vi 0] ∧ Post = [HA p x]) := by
  obtain ⟨hw, hm⟩ := hx.word hb
  have hs := hx.slot hm hu
  have hmem := ha_mem (p := p) hs.1
  have hs2 := hs.2
  refine Fun.intro low17 (by simp [n17]) ?_
  have hlt : i % 8 * 8 ≤ 64 := by omega
  refine GOH ?_
  refine st_callS (place_spec p x hx o b hb ho i hi) (by rfl) (by exact TKx) ?_
  generalize i % 8 * 8 = j at hlt ⊢
  refine GOH ?_
  refine endQ_mk (.inr rfl) (.tmp (by rfl) (.tmp (by rfl) .nil)) ⟨?_, rfl⟩ (by exact IMx)
  simp only [tup, wrapB]
theorem word_spec (p : Nat) (x : HW) (hx : HOk x) (o : Nat) (b : Ob) (hb : getO x.a.obs o = some b) (ho : o < 18446744073709551616) (h4 : b.hd.fmt = 4) (i : Nat) (hi : i < b.hd.slots) :
    Fun Tryd.prog 108 [ptr0 p, uv o, vi i] [HA p x] (fun v Post => v = .tuple #[.pointer (some ⟨x.wb, b.off + i, none⟩), vi 0] ∧ Post = [HA p x]) := by
  obtain ⟨hw, hm⟩ := hx.word hb
  have ha := at_spec p x hx o ho
  have hs := slots_spec p x hx b hm
  have hh := head_spec p x hx b hm
  rw [show (if b.hd.slots = 0 then 0 else b.at_ + 2) = b.off from rfl] at hs
  rw [hb, hw] at ha
  simp only [hdEnc] at hh
  rw [h4] at hh
  refine Fun.intro low108 (by simp [n108]) ?_
  refine GOH ?_
  refine st_callS ha (by rfl) (by exact TKx) ?_
  refine GOH ?_
  refine st_callS hs (by rfl) (by exact TKx) ?_
  refine GOH ?_
  refine st_callS hh (by rfl) (by exact TKx) ?_
  refine GOH ?_
  rw [show decide ((b.hd.slots : Int) ≤ (i : Int)) = false from decide_eq_false (by omega)]
  refine GOH ?_
  exact endQ_mk (.inr rfl) (.tmp (by rfl) (.tmp (by rfl) .nil)) ⟨rfl, rfl⟩ (by exact IMx)
theorem wordV_spec (p : Nat) (x : HW) (hx : HOk x) (o : Nat) (b : Ob) (hb : getO x.a.obs o = some b) (ho : o < 18446744073709551616) (h4 : b.hd.fmt = 4) (i u : Nat) (hu : b.body[i]? = some u) :
    Fun Tryd.prog 81 [ptr0 p, uv o, vi i] [HA p x] (fun v Post => v = .tuple #[uv u, vi 0] ∧ Post = [HA p x]) := by
  obtain ⟨hw, hm⟩ := hx.word hb
  have hmem := ha_mem (p := p) (hx.slot hm hu).1
  have hl := (hx.lay.ok b hm).len
  have hi := (List.getElem?_eq_some_iff.1 hu).1
  refine Fun.intro low81 (by simp [n81]) ?_
  refine GOH ?_
  refine st_callS (word_spec p x hx o b hb ho h4 i (by omega)) (by rfl) (by exact TKx) ?_
  refine GOH ?_
  exact endQ_mk (.inr rfl) (.tmp (by rfl) (.tmp (by rfl) .nil)) ⟨rfl, rfl⟩ (by exact IMx)
theorem depth_spec (p : Nat) (x : HW) (hx : HOk x) : Fun Tryd.prog 41 [ptr0 p] [HA p x] (fun v Post => v = vi x.a.stack.length ∧ Post = [HA p x]) := by
  obtain ⟨a, c, hk⟩ := hx.stk.form
  have hm := (ha_kv (p := p) (x := x)).1
  rw [hk] at hm
  refine Fun.intro low41 (by simp [n41]) ?_
  refine GOH ?_
  exact endQ_mk (.inr rfl) (.tmp (by rfl) .nil) ⟨rfl, rfl⟩ (by exact IMx)
theorem queued_spec (p : Nat) (x : HW) (hx : HOk x) : Fun Tryd.prog 42 [ptr0 p] [HA p x] (fun v Post => v = vi x.a.queue.length ∧ Post = [HA p x]) := by
  obtain ⟨a, c, hk⟩ := hx.que.form
  have hm := (ha_kv (p := p) (x := x)).2.1
  rw [hk] at hm
  refine Fun.intro low42 (by simp [n42]) ?_
  refine GOH ?_
  exact endQ_mk (.inr rfl) (.tmp (by rfl) .nil) ⟨rfl, rfl⟩ (by exact IMx)
theorem get_spec (A : List Atom) (b o n c i u : Nat) (hi : i < n) (hn : n ≤ 1073741824) (hm : Atom.cell b (o + i) (uv u) ∈ A) : Fun Tryd.prog 50 [.slice (some ⟨b, o, none⟩) n c, vi i] [A] (fun v Post => v = .tuple #[uv u, vi 0] ∧ Post = [A]) := by
  refine Fun.intro low50 (by simp [n50]) ?_
  refine GOH ?_
  rw [show decide ((n : Int) ≤ (i : Int)) = false from decide_eq_false (by omega)]
  refine GOH ?_
  exact endQ_mk (.inr rfl) (.tmp (by rfl) (.tmp (by rfl) .nil)) ⟨rfl, rfl⟩ (by exact IMx)
theorem root_spec (p : Nat) (x : HW) (hx : HOk x) (i u : Nat) (hu : x.a.stack[i]? = some u) : Fun Tryd.prog 15 [ptr0 p, vi i] [HA p x] (fun v Post => v = .tuple #[uv u, vi 0] ∧ Post = [HA p x]) := by
  have hi := (List.getElem?_eq_some_iff.1 hu).1
  obtain ⟨b, o, c, hk, hc, hl⟩ := hx.stk.some (by omega)
  have hm := (ha_kv (p := p) (x := x)).1
  have hdp := hx.deep
  have hmu : Atom.cell b (o + i) (uv u) ∈ HA p x := by
    simp only [HA, HMem, List.flatten_cons, List.mem_append]
    refine .inr (.inr (.inr (.inr (.inr (.inr (.inr (.inl ?_)))))))
    rw [hk]
    refine mem_cellsAt.2 ⟨i, uv u, ?_, rfl⟩
    rw [List.getElem?_append_left (by simpa using hi)]; simp [hu]
  rw [hk] at hm
  refine Fun.intro low15 (by simp [n15]) ?_
  refine GOH ?_
  refine st_callS (get_spec (HA p x) b o x.a.stack.length c i u hi (by omega) hmu) (by rfl) (by exact TKx) ?_
  refine GOH ?_
  exact endQ_mk (.inr rfl) (.tmp (by rfl) (.tmp (by rfl) .nil)) ⟨rfl, rfl⟩ (by exact IMx)
end Go.Proofs.YtmlnoodopoaafaaDoor

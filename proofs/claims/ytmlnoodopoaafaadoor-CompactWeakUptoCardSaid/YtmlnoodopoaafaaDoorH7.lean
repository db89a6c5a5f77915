/-
  All objects of a heap, gone through by spaces.
-/
import Derived.Test.YtmlnoodopoaafaaDoorH6
import Derived.Test.YtmlnoodopoaafaaDoorH2
import Derived.Test.YtmlnoodopoaafaaDoorH3
import Derived.Test.YtmlnoodopoaafaaDoorH5
set_option linter.unusedSimpArgs false
set_option linter.unusedVariables false
namespace Go.V
open Go
def roomP (a : AH) (sp : Nat) : List (Nat × Nat) := (roomL a sp).map fun w => (sp, w)
def preP (a : AH) : Nat → List (Nat × Nat)
  | 0 => []
  | 1 => []
  | 2 => roomP a 1
  | 3 => roomP a 1 ++ roomP a 2
  | 4 => roomP a 1 ++ (roomP a 2 ++ roomP a 3)
  | 5 => roomP a 1 ++ (roomP a 2 ++ (roomP a 3 ++ roomP a 4))
  | _ => roomP a 1 ++ (roomP a 2 ++ (roomP a 3 ++ (roomP a 4 ++ roomP a 5)))
def eachP (a : AH) : List (Nat × Nat) := preP a 6
theorem eachP_fst (a : AH) : (eachP a).map (·.2) = eachL a := by
  have h : ∀ sp, (roomP a sp).map (·.2) = roomL a sp := fun sp => by
    unfold roomP
    rw [List.map_map]
    conv => rhs; rw [← List.map_id (roomL a sp)]
    exact List.map_congr_left fun _ _ => rfl
  show (roomP a 1 ++ (roomP a 2 ++ (roomP a 3 ++ (roomP a 4 ++ roomP a 5)))).map (·.2) = _
  simp only [List.map_append, h, eachL]
theorem preP_next (a : AH) {t : Nat} (h1 : 1 ≤ t) (h5 : t ≤ 5) : preP a t ++ roomP a t = preP a (t + 1) := by
  have : t = 1 ∨ t = 2 ∨ t = 3 ∨ t = 4 ∨ t = 5 := by omega
  rcases this with rfl | rfl | rfl | rfl | rfl <;> simp [preP]
theorem preP_all (a : AH) {t : Nat} (h1 : 1 ≤ t) (h5 : t ≤ 5) : ∃ r, eachP a = preP a t ++ (roomP a t ++ r) := by
  have : t = 1 ∨ t = 2 ∨ t = 3 ∨ t = 4 ∨ t = 5 := by omega
  rcases this with rfl | rfl | rfl | rfl | rfl
  · exact ⟨_, rfl⟩
  · exact ⟨roomP a 3 ++ (roomP a 4 ++ roomP a 5), by simp [eachP, preP]⟩
  · exact ⟨roomP a 4 ++ roomP a 5, by simp [eachP, preP]⟩
  · exact ⟨roomP a 5, by simp [eachP, preP]⟩
  · exact ⟨[], by simp [eachP, preP]⟩
def AccE (p : Nat) (x : HW) (A : List Atom) : Prop := ∃ y R, A.Perm (HA p y ++ (TZ ++ R)) ∧ HOk y ∧ atsA y.a = atsA x.a ∧ y.a.rm = x.a.rm
theorem AccE.w {p sp : Nat} {x : HW} {A : List Atom} (h : AccE p x A) : AccW p x sp A := by
  obtain ⟨y, R, h1, h2, h3, h4⟩ := h
  exact ⟨y, R, h1, h2, h3, by unfold roomR; rw [h4], by unfold roomR; rw [h4]⟩
end Go.V
namespace Go.Proofs.YtmlnoodopoaafaaDoor
open Go Go.V
set_option maxHeartbeats 3200000
set_option maxRecDepth 100000
theorem each_spec (p : Nat) (x : HW) (hx : HOk x) (yv : Value) (hyv : yv.cells = #[yv]) (hone : oneCell yv = true) (J SP : List (Nat × Nat) → List Atom → Prop) (hJ : ∀ c A, J c A → AccE p x A)
    (hy : ∀ c q A, OkC (fun full => full = eachP x.a) (c ++ [q]) → J c A → FunV Tryd.prog yv [cv q.1, uv (8 * q.2)] [A] (fun v B => (v = .bool true ∧ ∃ A', J (c ++ [q]) A' ∧ B = [A']) ∨ (v = .bool false ∧ ∃ B', SP (c ++ [q]) B' ∧ B = [B'])))
    (A : List Atom) (hA : J [] A) :
    Fun Tryd.prog 55 [ptr0 p, yv] [A] (fun v B => v = .tuple #[] ∧ ((∃ A', J (eachP x.a) A' ∧ B = [A']) ∨ (∃ c B', OkC (fun full => full = eachP x.a) c ∧ SP c B' ∧ B = [B']))) := by
  refine Fun.intro low55 (by simp [n55]) ?_
  refine VC.seq_reg ?_
  refine st_box (by rfl) (fun k3 => ?_)
  rw [hyv]
  refine GOH ?_
  refine st_alloc (fun k4 => ?_)
  refine GOH ?_
  refine VC.loop (α := Nat × Nat × List Atom) (Γf := fun s => [(0, ptr0 p), (3, ptr0 k3), (4, ptr0 s.2.1)]) (Hf := fun s => [cellsAt k3 0 [yv], cellsAt s.2.1 0 [cv s.1], s.2.2])
    (I := fun s => 1 ≤ s.1 ∧ s.1 ≤ 6 ∧ J (preP x.a s.1) s.2.2) (μ := fun s => 6 - s.1) (1, k4, A) ⟨Nat.le_refl _, by simp only; omega, hA⟩ (by exact SUx) (by show Imp _ [cellsAt k3 0 [yv], cellsAt k4 0 [Value.int .u8 1], A]; exact IMx) ?_
  rintro ⟨t, k, A1⟩ ⟨t1, t2, t3⟩
  simp only at t1 t2 t3 ⊢
  refine GOH ?_
  by_cases h5 : t ≤ 5
  rotate_left
  · obtain rfl : t = 6 := by omega
    rw [show decide (((6 : Nat) : Int) ≤ 5) = false from rfl]
    refine GOH ?_
    exact endQ_mk (.inl rfl) .nil ⟨rfl, .inl ⟨A1, t3, rfl⟩⟩ (by exact IMx)
  rw [show decide ((t : Int) ≤ 5) = true from decide_eq_true (by omega)]
  refine GOH ?_
  refine st_call (walk_spec p t) (by rfl) Spl.nil (fun v Post hv => ?_)
  obtain ⟨q1, q2, rfl, rfl⟩ := hv
  simp only [CNx]
  refine GOH ?_
  obtain ⟨rr, hrr⟩ := preP_all x.a t1 h5
  have hOk : ∀ {c : List Nat} {w : Nat}, OkC (fun full => full = roomL x.a t) (c ++ [w]) → OkC (fun full => full = eachP x.a) ((preP x.a t ++ c.map fun w => (t, w)) ++ [(t, w)]) := fun {c w} ⟨r, hr⟩ => by
    refine ⟨(r.map fun w => (t, w)) ++ rr, ?_⟩
    show _ = eachP x.a
    rw [hrr]
    unfold roomP
    rw [← hr]
    simp [List.append_assoc]
  refine VC.rangefA (fun c A' => ∃ A2, J (preP x.a t ++ c.map fun w => (t, w)) A2 ∧ A' = [cellsAt k3 0 [yv], cellsAt k 0 [cv t], A2].flatten) ([cellsAt k3 0 [yv], cellsAt k 0 [cv t], A1].flatten) (by rfl) (walk_iter p q1 q2 t x hx t1 h5) (fun A B h => h.more B) ?_ (R := [cellsAt k3 0 [yv], cellsAt k 0 [cv t], A1]) (by exact SPx) ?_ ⟨A1, by simpa using t3, rfl⟩ (fun _ => rfl) ?_ ?_
  · rintro c A' ⟨A2, h, rfl⟩
    refine AccW.perm ?_ ((hJ _ _ h).w.more (cellsAt k3 0 [yv] ++ cellsAt k 0 [cv t]))
    simp only [List.flatten_cons, List.flatten_nil, List.append_nil]
    rw [← List.append_assoc]; exact List.perm_append_comm
  · exact Imp.perm (by simp)
  · rintro c w A' hok ⟨A2, h, rfl⟩
    simp only [bindE]
    refine VC.imp (H' := [cellsAt k3 0 [yv], cellsAt k 0 [cv t], A2]) (Imp.perm (by simp)) ?_
    refine VC.reg ?_
    refine GOH ?_
    refine ⟨trivial, ?_⟩
    refine GOH ?_
    refine st_callV (by rfl) (hy _ (t, w) A2 (hOk hok) h) (by rfl) (by exact SPx) (fun v Post hv => ?_)
    rcases hv with ⟨rfl, A', hA', rfl⟩ | ⟨rfl, B', hB', rfl⟩
    · simp only [CNx]
      refine GOH ?_
      refine ⟨[cellsAt k3 0 [yv], cellsAt k 0 [cv t], A'].flatten, ⟨A', by rw [List.map_append, ← List.append_assoc]; exact hA', rfl⟩, Imp.cut (M := [cellsAt k3 0 [yv], cellsAt k 0 [cv t], A']) (by exact IMx) (Imp.perm (by simp))⟩
    · simp only [CNx]
      refine GOH ?_
      exact endQ_mk (.inr rfl) .nil ⟨rfl, .inr ⟨_, B', hOk hok, hB', rfl⟩⟩ (by exact IMx)
  · rintro full A' hfu ⟨A2, h, rfl⟩
    subst hfu
    have hnext : J (preP x.a (t + 1)) A2 := by rw [← preP_next x.a t1 h5]; exact h
    simp only [List.nil_append, V.blockQ, V.thenQ]
    refine VC.imp (H' := [cellsAt k3 0 [yv], cellsAt k 0 [cv t], A2]) (Imp.perm (by simp)) ?_
    refine GOH ?_
    refine st_alloc (fun k' => ?_)
    refine GOH ?_
    exact ⟨(t + 1, k', A2), ⟨by simp only; omega, by simp only; omega, hnext⟩, by simp only; omega, by exact SUx, by exact IMx⟩
end Go.Proofs.YtmlnoodopoaafaaDoor
namespace Go.V
open Go
theorem unmark_all {x : HW} (hx : HOk x) : turnL (setH (setMk false)) (eachL x.a) x.a.obs = (markA x.a []).obs := by
  rw [turnL_all (fun b hb => (mem_eachL hx).2 ⟨b, hb, rfl⟩)]
  show _ = x.a.obs.map (mkB [])
  exact List.map_congr_left fun b _ => by unfold mkB; simp
theorem okE {x : HW} (hx : HOk x) {c : List (Nat × Nat)} {sp w : Nat} (h : OkC (fun full => full = eachP x.a) (c ++ [(sp, w)])) : ∃ b, getO x.a.obs (8 * w) = some b ∧ b.at_ = w ∧ w ∉ c.map (·.2) := by
  obtain ⟨r, hr⟩ := h
  have hr2 : eachL x.a = c.map (·.2) ++ (w :: r.map (·.2)) := by
    rw [← eachP_fst, ← hr]; simp [List.append_assoc]
  have hm : w ∈ eachL x.a := by rw [hr2]; simp
  obtain ⟨b, hb, rfl⟩ := (mem_eachL hx).1 hm
  have hn := eachL_nodup hx
  rw [hr2, List.nodup_append] at hn
  exact ⟨b, getO_mem hx.lay.sort hb, rfl, fun hc => hn.2.2 _ hc _ (by simp) rfl⟩
theorem ats_turn {f : Ob → Ob} (hf : Keep f) (c : List Nat) (a : AH) : atsA { a with obs := turnL f c a.obs } = atsA a := by
  unfold atsA turnL
  simp only [List.map_map]
  refine List.map_congr_left fun b _ => ?_
  simp only [Function.comp]
  split
  · exact hf.at_ b
  · rfl
end Go.V
namespace Go.Proofs.YtmlnoodopoaafaaDoor
open Go Go.V
set_option maxHeartbeats 3200000
set_option maxRecDepth 100000
theorem run1_spec (p k : Nat) (x : HW) (hx : HOk x) (sp o : Nat) (b : Ob) (hb : getO x.a.obs o = some b) (ho : o < 18446744073709551616) :
    FunV Tryd.prog (.func (.func 56) #[] #[ptr0 k]) [cv sp, uv o] [cellsAt k 0 [ptr0 p], HA p x, TZ] (fun v Post => (v = .bool true ∧ HOk (turnW x b (setMk false))) ∧ Post = [cellsAt k 0 [ptr0 p], HA p (turnW x b (setMk false)), TZ]) := by
  refine FunV.of_fun ?_
  simp only [List.nil_append, List.cons_append]
  refine Fun.intro low56 (by simp [n56]) ?_
  refine GOH ?_
  refine st_call (mark_spec p x hx o b hb ho false) (by rfl) (by exact SPx) (fun v Post hv => ?_)
  obtain ⟨⟨rfl, h1⟩, rfl⟩ := hv
  simp only [CNx]
  refine GOH ?_
  exact endQ_mk (.inr rfl) (.tmp (by rfl) .nil) ⟨⟨rfl, h1⟩, rfl⟩ (by exact IMx)
theorem unmark_spec (p k : Nat) (x : HW) (hx : HOk x) :
    Fun Tryd.prog 55 [ptr0 p, .func (.func 56) #[] #[ptr0 k]] [cellsAt k 0 [ptr0 p], HA p x, TZ] (fun v Post => ∃ z, (v = .tuple #[] ∧ HOk z ∧ z.a = markA x.a []) ∧ Post = [cellsAt k 0 [ptr0 p], HA p z, TZ]) := by
  have hkp : Keep (setH (setMk false)) := keep_setH fun _ => rfl
  have key := each_spec p x hx (.func (.func 56) #[] #[ptr0 k]) (by simp [Value.cells]) rfl
    (fun c A => ∃ z, HOk z ∧ z.a = { x.a with obs := turnL (setH (setMk false)) (c.map (·.2)) x.a.obs } ∧ A = [cellsAt k 0 [ptr0 p], HA p z, TZ].flatten) (fun _ _ => False) ?_ ?_ ([cellsAt k 0 [ptr0 p], HA p x, TZ].flatten) ⟨x, hx, by rw [List.map_nil, turnL_nil], rfl⟩
  · refine key.conv (R := []) (by simp [Spl]) ?_
    rintro v Post ⟨rfl, ⟨A', ⟨z, h1, h2, rfl⟩, rfl⟩ | ⟨c, B', _, hB, _⟩⟩
    · refine ⟨_, ⟨z, ⟨rfl, h1, ?_⟩, rfl⟩, Imp.perm (by simp)⟩
      rw [h2, eachP_fst, unmark_all hx]; rfl
    · exact hB.elim
  · rintro c A ⟨z, h1, h2, rfl⟩
    refine ⟨z, cellsAt k 0 [ptr0 p], ?_, h1, by rw [h2]; exact ats_turn hkp _ _, by rw [h2]⟩
    simp only [List.flatten_cons, List.flatten_nil, List.append_nil]
    exact List.perm_append_comm.trans (by rw [List.append_assoc])
  · rintro c ⟨sp, w⟩ A hok ⟨z, h1, h2, rfl⟩
    obtain ⟨b, hb, hbw, hnw⟩ := okE hx hok
    obtain ⟨b', hb', hat⟩ : ∃ b', getO z.a.obs (8 * w) = some b' ∧ b'.at_ = w := by
      refine ⟨_, by rw [h2]; show getO (turnL _ _ _) _ = _; rw [getO_turn hkp, hb]; rfl, ?_⟩
      simp only
      split
      · exact hbw
      · exact hbw
    have hr := run1_spec p k z h1 sp (8 * w) b' hb' (h1.oop_lt hb')
    refine hr.conv (R := []) (by simp [Spl]) ?_
    rintro v Post ⟨⟨rfl, h3⟩, rfl⟩
    refine ⟨_, .inl ⟨rfl, _, ⟨_, h3, ?_, rfl⟩, rfl⟩, ?_⟩
    · show headA z.a b' _ = _
      unfold headA
      rw [h2, hat, List.map_append]
      show { x.a with obs := updO w (setH (setMk false)) (turnL (setH (setMk false)) (c.map fun q : Nat × Nat => q.2) x.a.obs) } = _
      rw [turnL_snoc hkp hnw]; rfl
    · rw [List.append_nil]
      exact Imp.cut (M := [cellsAt k 0 [ptr0 p], HA p (turnW z b' (setMk false)), TZ]) (Imp.refl _) (Imp.perm (by simp))
theorem special_spec (p : Nat) (x : HW) (hx : HOk x) (i u : Nat) (hu : x.a.sp[i]? = some u) : Fun Tryd.prog 22 [ptr0 p, vi i] [HA p x] (fun v Post => v = .tuple #[uv u, vi 0] ∧ Post = [HA p x]) := by
  have hi := (List.getElem?_eq_some_iff.1 hu).1
  have hl := hx.spl
  refine Fun.intro low22 (by simp [n22]) ?_
  refine GOH ?_
  refine st_callS (get_spec (HA p x) p 20 64 64 i u (by omega) (by omega) (ha_sp hu)) (by rfl) (by exact TKx) ?_
  refine GOH ?_
  exact endQ_mk (.inr rfl) (.tmp (by rfl) (.tmp (by rfl) .nil)) ⟨rfl, rfl⟩ (by exact IMx)
end Go.Proofs.YtmlnoodopoaafaaDoor
namespace Go.V
open Go
def AccG (p : Nat) (x : HW) (A : List Atom) : Prop := ∃ R, A.Perm (HA p x ++ (TZ ++ R))
theorem AccG.w {p sp : Nat} {x : HW} (hx : HOk x) {A : List Atom} (h : AccG p x A) : AccW p x sp A := by
  obtain ⟨R, h⟩ := h
  exact ⟨x, R, h, hx, rfl, rfl, rfl⟩
end Go.V
namespace Go.Proofs.YtmlnoodopoaafaaDoor
open Go Go.V
set_option maxHeartbeats 6400000
set_option maxRecDepth 100000
end Go.Proofs.YtmlnoodopoaafaaDoor
namespace Go.V
open Go
def setNoted (h : Hd) : Hd := { h with noted := true }
def noteA (a : AH) (b : Ob) : AH := if b.hd.noted then a else { a with obs := updO b.at_ (setH setNoted) a.obs, noted := a.noted ++ [8 * b.at_] }
end Go.V
namespace Go.Proofs.YtmlnoodopoaafaaDoor
open Go Go.V
set_option maxHeartbeats 6400000
set_option maxRecDepth 100000
theorem note_spec (p : Nat) (x : HW) (hx : HOk x) (b : Ob) (hb : b ∈ x.a.obs) (hn : x.a.noted.length < 1073741823) :
    Fun Tryd.prog 39 [ptr0 p, vi b.at_] [HA p x] (fun v Post => ∃ y, (v = .tuple #[] ∧ HOk y ∧ y.a = noteA x.a b) ∧ Post = [HA p y]) := by
  have hh := head_spec p x hx b hb
  have hok := hx.lay.ok b hb
  have hr := hx.range hb
  have hm : (setNoted b.hd).May := ⟨hok.may.cls, hok.may.hash, hok.may.age, hok.may.slots, hok.may.spare, hok.may.fmt, hok.may.plain, hok.may.eph, hok.may.meth, hok.may.some⟩
  have key := hx.setH hb (g := setNoted) (fun _ => rfl) hm (fun e => e)
  have hset := setHead_spec p x b.at_ (setNoted b.hd) hm (hx.lay.at_lt hb) hx.lay.len
  have hoop := oop_spec b.at_ hr.1 hr.2
  unfold noteA
  simp only [hdEnc] at hh hset
  refine Fun.intro low39 (by simp [n39]) ?_
  refine GOH ?_
  refine st_callS hh (by rfl) (by exact TKx) ?_
  refine st_alloc (fun q => ?_)
  refine GOH ?_
  by_cases hnd : b.hd.noted = true
  · rw [hnd]
    refine GOH ?_
    exact endQ_mk (.inr rfl) .nil ⟨x, ⟨rfl, hx, rfl⟩, rfl⟩ (by exact IMx)
  have hnf : b.hd.noted = false := by simpa using hnd
  rw [hnf]
  refine GOH ?_
  refine st_call hset (by rfl) (by exact SPx) (fun v Post hv => ?_)
  obtain ⟨rfl, rfl⟩ := hv
  simp only [CNx]
  rw [show (setNoted b.hd).slots = b.hd.slots from rfl]
  refine GOH ?_
  rw [if_neg (by simp)]
  obtain ⟨a, c, hk⟩ := hx.note.form
  have hsl := hx.note
  rw [hk] at hsl
  obtain ⟨x1, hx1⟩ : ∃ x1 : HW, x1 = { x with a := { x.a with obs := updO b.at_ (setH setNoted) x.a.obs }, ws := (x.ws.set b.at_ (pk (setNoted b.hd))).set (b.at_ + 1) b.hd.slots } := ⟨_, rfl⟩
  have ok1 : HOk x1 := by rw [hx1]; exact key
  have e1 : x1.a.noted = x.a.noted := by rw [hx1]
  have e2 : x1.nv = x.nv := by rw [hx1]
  have e3 : x1.ns = x.ns := by rw [hx1]
  have e4 : x1.a = { x.a with obs := updO b.at_ (setH setNoted) x.a.obs } := by rw [hx1]
  have hmap : (x.a.noted ++ [8 * b.at_]).map uv = x.a.noted.map uv ++ [uv (8 * b.at_)] := by simp
  have fin : ∀ sv' sp', IsSl 1 sv' (x.a.noted.length + 1) (x.a.noted.map uv ++ [uv (8 * b.at_)]) sp' → HOk { x1 with a := { x1.a with noted := x.a.noted ++ [8 * b.at_] }, nv := sv', ns := sp' } := fun sv' sp' h => by
    refine ⟨ok1.lay, ⟨ok1.rm.len, ok1.rm.zero, ok1.rm.rng, ok1.rm.low, ok1.rm.apart, ok1.rm.inn⟩, ok1.spl, ok1.cll, ok1.sps, ok1.cls, ok1.stks, ok1.ques, ?_, ok1.stk, ok1.que, by simpa using h, ok1.map, ok1.given, ok1.deep, ⟨ok1.few.1, by simp; omega⟩⟩
    intro o ho
    rcases List.mem_append.1 ho with h | h
    · exact hx.nots o h
    · rw [List.mem_singleton.1 h]; omega
  refine VC.imp (H' := HMem p x1) ?_ ?_
  · refine Imp.cut (M := [HA p x1]) ?_ (ha_out p x1)
    rw [hx1]
    show Imp [HA p { x with ws := (x.ws.set b.at_ (pk (setNoted b.hd))).set (b.at_ + 1) b.hd.slots }, _] [HA p { x with ws := (x.ws.set b.at_ (pk (setNoted b.hd))).set (b.at_ + 1) b.hd.slots }]
    exact Imp.head
  simp only [HMem, arrV, e1, e2, e3, hk]
  refine VC.draw2 ?_ ?_
  all_goals
    refine GOH ?_
    refine st_callP hoop (by rfl) ?_
    refine GOH ?_
    refine st_bslice (out := [uv (8 * b.at_)]) (by rfl) (by rfl) (fun q3 => ?_)
    refine st_append (k := x.a.noted.length) (m := 1) (xs := x.a.noted.map uv) (sp := x.ns) (ys := [uv (8 * b.at_)]) (by rfl) (by rfl) hsl (by exact TKx) (by rfl) ?_ rfl (by rfl) (by rfl) (by decide) (by omega) (fun sv' sp' hsl' => ?_)
    · exact ⟨rfl, fun a ha => by simp only [List.flatten_cons, List.mem_append]; exact .inl ha⟩
    have ok2 := fin sv' sp' hsl'
    obtain ⟨a', c', rfl⟩ := hsl'.form
    refine GOH ?_
    refine endQ_mk (.inl rfl) .nil ⟨_, ⟨rfl, ok2, by rw [e4]⟩, rfl⟩ (Imp.cut ?_ (ha_in p _))
    simp only [HMem, arrV, hmap]
    exact IMx
def setA (a : AH) (b : Ob) (i v : Nat) : AH := if 4 ≤ spaceW a.rm b.at_ ∧ youngO a v = true then noteA (slotA a b i v) (V.setB i v b) else slotA a b i v
theorem setSlotN_spec (p : Nat) (x : HW) (hx : HOk x) (o : Nat) (b : Ob) (hb : getO x.a.obs o = some b) (ho : o < 18446744073709551616) (i v : Nat) (hi : i < b.many) (hv : v < 18446744073709551616) (hm6 : b.hd.fmt ≠ 6) (hmay : mayO x.a v = true) (hn : x.a.noted.length < 1073741823) :
    Fun Tryd.prog 9 [ptr0 p, uv o, vi i, uv v] [HA p x] (fun r Post => ∃ y, (r = vi 0 ∧ HOk y ∧ y.a = setA x.a b i v) ∧ Post = [HA p y]) := by
  obtain ⟨hw, hm⟩ := hx.word hb
  have ha := at_spec p x hx o ho
  have hok := hx.lay.ok b hm
  have hmany := hok.many
  have hr := hx.range hm
  have hM := hmay_spec p x hx v hv
  have hh := head_spec p x hx b hm
  have key := hx.setB hm (i := i) (v := v) (by omega) hv (fun e => absurd e hm6)
  have hwr := where_spec p _ key b.at_ (by omega)
  have hyg := young_spec p _ key v hv
  have hyo : youngO { x.a with obs := updO b.at_ (V.setB i v) x.a.obs } v = youngO x.a v := youngO_upd (keep_setB i v) x.a v
  simp only [hyo] at hyg
  have hb' : V.setB i v b ∈ updO b.at_ (V.setB i v) x.a.obs := mem_updO.2 ⟨b, hm, by rw [if_pos rfl]⟩
  have hnote := note_spec p _ key (V.setB i v b) hb' hn
  rw [show (V.setB i v b).at_ = b.at_ from rfl] at hnote
  have hoff : b.off + i < x.ws.length := by
    have := hx.lay.high b hm
    unfold Ob.stop at this; unfold Ob.off; split <;> omega
  rw [hmay] at hM
  rw [hb, hw] at ha
  simp only [hdEnc] at hh
  have hfm : decide ((b.hd.fmt : Int) = 6) = false := decide_eq_false (by omega)
  unfold setA
  refine Fun.intro low9 (by simp [n9]) ?_
  refine GOH ?_
  refine st_callS (slot_spec p x hx o b hb ho i hi) (by rfl) (by exact TKx) ?_
  refine GOH ?_
  refine st_callS ha (by rfl) (by exact TKx) ?_
  refine GOH ?_
  by_cases h0 : i = 0
  · rw [show decide ((i : Int) = 0) = true from decide_eq_true (by omega)]
    refine GOH ?_
    refine st_callS hh (by rfl) (by exact TKx) ?_
    refine GOH ?_
    rw [hfm]
    refine GOH ?_
    refine st_callS hM (by rfl) (by exact TKx) ?_
    refine GOH ?_
    refine st_storeW (by rfl) (by rfl) .here hoff ?_
    refine GOH ?_
    refine st_callS hwr (by rfl) .here ?_
    refine GOH ?_
    by_cases h4 : 4 ≤ spaceW x.a.rm b.at_
    rotate_left
    · rw [show decide ((4 : Int) ≤ (spaceW x.a.rm b.at_ : Int)) = false from decide_eq_false (by omega)]
      refine GOH ?_
      exact endQ_mk (.inr rfl) (.tmp (by rfl) .nil) ⟨_, ⟨rfl, key, by rw [if_neg (fun h => h4 h.1)]; rfl⟩, rfl⟩ Imp.head
    rw [show decide ((4 : Int) ≤ (spaceW x.a.rm b.at_ : Int)) = true from decide_eq_true (by omega)]
    refine GOH ?_
    refine st_callS hyg (by rfl) .here ?_
    refine GOH ?_
    cases hyv : youngO x.a v
    · refine GOH ?_
      exact endQ_mk (.inr rfl) (.tmp (by rfl) .nil) ⟨_, ⟨rfl, key, by rw [if_neg (fun h => by cases h.2)]; rfl⟩, rfl⟩ Imp.head
    · refine GOH ?_
      refine VO.imp (H' := [HA p { x with a := { x.a with obs := updO b.at_ (V.setB i v) x.a.obs }, ws := x.ws.set (b.off + i) v }]) (Imp.refl _) ?_
      refine st_call hnote (by rfl) (by exact SPx) (fun v Post hv => ?_)
      obtain ⟨y, ⟨rfl, hy, hya⟩, rfl⟩ := hv
      simp only [CNx]
      refine GOH ?_
      exact endQ_mk (.inr rfl) (.tmp (by rfl) .nil) ⟨y, ⟨rfl, hy, by rw [if_pos ⟨h4, by trivial⟩, hya]; rfl⟩, rfl⟩ (by exact IMx)
  · rw [show decide ((i : Int) = 0) = false from decide_eq_false (by omega)]
    refine GOH ?_
    refine st_callS hM (by rfl) (by exact TKx) ?_
    refine GOH ?_
    refine st_storeW (by rfl) (by rfl) .here hoff ?_
    refine GOH ?_
    refine st_callS hwr (by rfl) .here ?_
    refine GOH ?_
    by_cases h4 : 4 ≤ spaceW x.a.rm b.at_
    rotate_left
    · rw [show decide ((4 : Int) ≤ (spaceW x.a.rm b.at_ : Int)) = false from decide_eq_false (by omega)]
      refine GOH ?_
      exact endQ_mk (.inr rfl) (.tmp (by rfl) .nil) ⟨_, ⟨rfl, key, by rw [if_neg (fun h => h4 h.1)]; rfl⟩, rfl⟩ Imp.head
    rw [show decide ((4 : Int) ≤ (spaceW x.a.rm b.at_ : Int)) = true from decide_eq_true (by omega)]
    refine GOH ?_
    refine st_callS hyg (by rfl) .here ?_
    refine GOH ?_
    cases hyv : youngO x.a v
    · refine GOH ?_
      exact endQ_mk (.inr rfl) (.tmp (by rfl) .nil) ⟨_, ⟨rfl, key, by rw [if_neg (fun h => by cases h.2)]; rfl⟩, rfl⟩ Imp.head
    · refine GOH ?_
      refine VO.imp (H' := [HA p { x with a := { x.a with obs := updO b.at_ (V.setB i v) x.a.obs }, ws := x.ws.set (b.off + i) v }]) (Imp.refl _) ?_
      refine st_call hnote (by rfl) (by exact SPx) (fun v Post hv => ?_)
      obtain ⟨y, ⟨rfl, hy, hya⟩, rfl⟩ := hv
      simp only [CNx]
      refine GOH ?_
      exact endQ_mk (.inr rfl) (.tmp (by rfl) .nil) ⟨y, ⟨rfl, hy, by rw [if_pos ⟨h4, by trivial⟩, hya]; rfl⟩, rfl⟩ (by exact IMx)
end Go.Proofs.YtmlnoodopoaafaaDoor
namespace Go.V
open Go
theorem ra_outs (q p : Nat) (y : RW) (R : SH) : Imp (RA q p y :: R) (RMem q p y ++ R) := Imp.perm (by simp [RA])
theorem ra_ins (q p : Nat) (y : RW) (R : SH) : Imp (RMem q p y ++ R) (RA q p y :: R) := Imp.perm (by simp [RA])
theorem slot_mark (a : AH) (l : List Nat) (w i v : Nat) : { markA a l with obs := updO w (setB i v) (markA a l).obs } = markA { a with obs := updO w (setB i v) a.obs } l := by
  unfold markA updO
  simp only [List.map_map]
  congr 1
  apply List.map_congr_left
  intro c _
  simp only [Function.comp]
  have e : (mkB l c).at_ = c.at_ := rfl
  rw [e]
  by_cases h : c.at_ = w
  · rw [if_pos h, if_pos h]; rfl
  · rw [if_neg h, if_neg h]
theorem getO_slot (a : AH) (w i v o : Nat) : getO (updO w (setB i v) a.obs) o = (getO a.obs o).map fun b => if b.at_ = w then setB i v b else b :=
  getO_map (fun b => by split <;> rfl)
theorem MOk.slot {s : MS} (h : MOk s) (w i v : Nat) : MOk { s with a := { s.a with obs := updO w (setB i v) s.a.obs } } := by
  refine ⟨h.nd, fun x hx => ?_, fun x hx => ?_⟩
  · show (getO (updO w (setB i v) s.a.obs) x).isSome = true
    rw [getO_slot, Option.isSome_map]; exact h.ob x hx
  · obtain ⟨b, hb, h3, h0⟩ := h.wt x hx
    refine ⟨if b.at_ = w then setB i v b else b, by show getO (updO w (setB i v) s.a.obs) x = _; rw [getO_slot, hb]; rfl, ?_, ?_⟩
    · by_cases e : b.at_ = w
      · rw [if_pos e]; exact h3
      · rw [if_neg e]; exact h3
    · by_cases e : b.at_ = w
      · rw [if_pos e]; exact h0
      · rw [if_neg e]; exact h0
theorem ats_updS (a : AH) (w i v : Nat) : atsA { a with obs := updO w (setB i v) a.obs } = atsA a := by
  unfold atsA updO
  simp only [List.map_map]
  refine List.map_congr_left fun b _ => ?_
  simp only [Function.comp]
  split <;> rfl
theorem spaceO_mark (a : AH) (l : List Nat) (o : Nat) : spaceO (markA a l) o = spaceO a o := by
  unfold spaceO
  rw [getO_mark]
  cases getO a.obs o <;> rfl
theorem youngO_mark (a : AH) (l : List Nat) (o : Nat) : youngO (markA a l) o = youngO a o := by
  unfold youngO
  rw [spaceO_mark]
theorem spaceO_slot (a : AH) (w i v o : Nat) : spaceO { a with obs := updO w (setB i v) a.obs } o = spaceO a o := by
  unfold spaceO
  show (match getO (updO w (setB i v) a.obs) o with | some b => spaceW a.rm b.at_ | none => 0) = _
  rw [getO_slot]
  cases getO a.obs o with
  | none => rfl
  | some b =>
    simp only [Option.map_some]
    split <;> rfl
end Go.V
namespace Go.Proofs.YtmlnoodopoaafaaDoor
open Go Go.V
set_option maxHeartbeats 6400000
set_option maxRecDepth 100000
def clrI (nothing o : Nat) (st : MS × Nat) (i : Nat) : MS × Nat := match getO st.1.a.obs o with
  | some b => if deadM st.1 (b.body.getD i 0) then ({ st.1 with a := slotA st.1.a b i nothing }, st.2 + 1) else st
  | none => st
def clrO (nothing : Nat) (st : MS × Nat) (w : Nat) : MS × Nat := match getO st.1.a.obs (8 * w) with
  | some b => if b.hd.fmt = 2 ∧ 8 * w ∈ st.1.line then (List.range b.hd.slots).foldl (clrI nothing (8 * w)) st else st
  | none => st
def clearM (s : MS) : MS × Nat := (eachL s.a).foldl (clrO (s.a.sp.headD 0)) (s, 0)
structure ClrOk (a : AH) (nothing : Nat) : Prop where
  may : mayO a nothing = true
  ny : youngO a nothing = false
  few : a.noted.length < 1073741823
  lt : nothing < 18446744073709551616
theorem ClrOk.slot {a : AH} {nothing : Nat} (h : ClrOk a nothing) (b : Ob) (i v : Nat) : ClrOk (slotA a b i v) nothing := by
  refine ⟨?_, ?_, h.few, h.lt⟩
  · have := h.may
    unfold mayO at this ⊢
    show (_ || (getO (updO b.at_ (V.setB i v) a.obs) nothing).isSome) = true
    rw [getO_slot, Option.isSome_map]; exact this
  · have := h.ny
    unfold youngO at this ⊢
    show decide (1 ≤ spaceO { a with obs := updO b.at_ (V.setB i v) a.obs } nothing ∧ spaceO { a with obs := updO b.at_ (V.setB i v) a.obs } nothing ≤ 3) = false
    rw [spaceO_slot]; exact this
theorem clr1_spec (q p k1 k2 k3 : Nat) (y : RW) (hy : ROk y) (nothing n sp o w : Nat) (hc : ClrOk y.s.a nothing) (how : o = 8 * w) (b : Ob) (hb : getO y.s.a.obs o = some b) (hn : n ≤ 1099511627776) :
    FunV Tryd.prog (.func (.func 93) #[] #[ptr0 k1, ptr0 k3, ptr0 k2]) [cv sp, uv o] [cellsAt k1 0 [ptr0 q], cellsAt k3 0 [uv nothing], cellsAt k2 0 [vi n], RA q p y, TZ]
      (fun v Post => ∃ y' n', (v = .bool true ∧ ROk y' ∧ (y'.s, n') = clrO nothing (y.s, n) w ∧ ClrOk y'.s.a nothing ∧ n' ≤ n + 65536 ∧ atsA y'.s.a = atsA y.s.a ∧ y'.s.a.rm = y.s.a.rm) ∧ Post = [cellsAt k1 0 [ptr0 q], cellsAt k3 0 [uv nothing], cellsAt k2 0 [vi n'], RA q p y', TZ]) := by
  refine FunV.of_fun ?_
  simp only [List.nil_append, List.cons_append]
  have ho := hy.lt hb
  have hbo := hy.ok b (getO_some hb).1
  have hsl := hbo.may.slots
  have hh := headV_spec p y.x hy.x o _ (hy.getS hb) ho
  have hmk := mkB_marked (l := y.s.line) hb
  have hfx : (mkB y.s.line b).hd.fmt = b.hd.fmt := rfl
  have hfs : (mkB y.s.line b).hd.slots = b.hd.slots := rfl
  obtain ⟨f1, f6⟩ := hbo.may.fmt
  simp only [hdEnc] at hh
  rw [hmk, hfx, hfs] at hh
  have hcl : clrO nothing (y.s, n) w = if b.hd.fmt = 2 ∧ o ∈ y.s.line then (List.range b.hd.slots).foldl (clrI nothing o) (y.s, n) else (y.s, n) := by
    unfold clrO
    rw [← how]
    show (match getO y.s.a.obs o with | some b => _ | none => _) = _
    rw [hb]
  rw [hcl]
  obtain ⟨H0, hH0⟩ : ∃ H0 : SH, H0 = RMem q p y ++ [cellsAt k1 0 [ptr0 q], cellsAt k3 0 [uv nothing], cellsAt k2 0 [vi n], TZ] := ⟨_, rfl⟩
  have hback : Imp H0 [cellsAt k1 0 [ptr0 q], cellsAt k3 0 [uv nothing], cellsAt k2 0 [vi n], RA q p y, TZ] := by
    rw [hH0]
    exact Imp.cut (ra_ins q p y _) (by exact IMx)
  refine Fun.intro low93 (by simp [n93]) ?_
  refine VC.imp (H' := RMem q p y ++ [cellsAt k1 0 [ptr0 q], cellsAt k3 0 [uv nothing], cellsAt k2 0 [vi n], TZ]) (Imp.cut (M := RA q p y :: [cellsAt k1 0 [ptr0 q], cellsAt k3 0 [uv nothing], cellsAt k2 0 [vi n], TZ]) (by exact IMx) (ra_outs q p y _)) ?_
  simp only [RMem, List.cons_append, List.nil_append] at hH0 ⊢
  rw [hH0] at hback
  refine GOH ?_
  refine st_callS hh (by rfl) (by exact TKx) ?_
  refine GOH ?_
  refine st_alloc (fun k => ?_)
  refine GOH ?_
  by_cases h2 : b.hd.fmt = 2
  rotate_left
  · rw [show decide ((b.hd.fmt : Int) = 2) = false from decide_eq_false (by omega)]
    rw [if_neg (fun h => h2 h.1)]
    refine GOH ?_
    exact endQ_mk (.inr rfl) (.tmp (by rfl) .nil) ⟨y, n, ⟨rfl, hy, rfl, hc, by omega, rfl, rfl⟩, rfl⟩ (Imp.cut (by exact IMx) hback)
  rw [show decide ((b.hd.fmt : Int) = 2) = true from decide_eq_true (by omega)]
  by_cases hl : o ∈ y.s.line
  rotate_left
  · rw [if_neg (fun h => hl h.2), decide_eq_false hl]
    refine GOH ?_
    exact endQ_mk (.inr rfl) (.tmp (by rfl) .nil) ⟨y, n, ⟨rfl, hy, rfl, hc, by omega, rfl, rfl⟩, rfl⟩ (Imp.cut (by exact IMx) hback)
  rw [if_pos ⟨h2, hl⟩, decide_eq_true hl]
  refine GOH ?_
  refine VC.loop (α := Nat × RW × Nat) (Γf := fun s => [(1, uv o), (2, ptr0 k1), (3, ptr0 k3), (4, ptr0 k2), (31, vi b.hd.slots), (32, vi s.1)]) (Hf := fun s => [cellsAt k1 0 [ptr0 q], cellsAt k3 0 [uv nothing], cellsAt k2 0 [vi s.2.2], RA q p s.2.1, TZ])
    (I := fun s => s.1 ≤ b.hd.slots ∧ ROk s.2.1 ∧ (s.2.1.s, s.2.2) = ((List.range b.hd.slots).take s.1).foldl (clrI nothing o) (y.s, n) ∧ ClrOk s.2.1.s.a nothing ∧ s.2.2 ≤ n + s.1 ∧ atsA s.2.1.s.a = atsA y.s.a ∧ s.2.1.s.a.rm = y.s.a.rm ∧ ∃ bi, getO s.2.1.s.a.obs o = some bi ∧ bi.hd = b.hd)
    (μ := fun s => b.hd.slots - s.1) (0, y, n) ⟨Nat.zero_le _, hy, rfl, hc, Nat.le_refl _, rfl, rfl, b, hb, rfl⟩ (by exact SUx) (Imp.cut (by exact IMx) hback) ?_
  rintro ⟨i, z, m⟩ ⟨i1, i2, i3, i4, i5, i6, i7, bi, i8, i9⟩
  simp only at i1 i2 i3 i4 i5 i6 i7 i8 ⊢
  refine GOH ?_
  by_cases hlt : i < b.hd.slots
  rotate_left
  · rw [show decide ((i : Int) < (b.hd.slots : Int)) = false from decide_eq_false (by omega)]
    rw [List.take_of_length_le (by rw [List.length_range]; omega)] at i3
    refine GOH ?_
    exact endQ_mk (.inr rfl) (.tmp (by rfl) .nil) ⟨z, m, ⟨rfl, i2, i3, i4, by omega, i6, i7⟩, rfl⟩ (by exact IMx)
  rw [show decide ((i : Int) < (b.hd.slots : Int)) = true from decide_eq_true (by omega)]
  have hbi := i2.ok bi (getO_some i8).1
  have hmany : bi.many = b.hd.slots := by unfold Ob.many; rw [i9, if_neg (by omega), if_neg (by omega)]
  obtain ⟨u, hu⟩ : ∃ u, bi.body[i]? = some u := ⟨_, List.getElem?_eq_getElem (by rw [hbi.len, i9]; exact hlt)⟩
  have hul := small_body i2 i8 hu
  have hs := slotV_spec p z.x i2.x o _ (i2.getS i8) ho i u (by show i < (mkB z.s.line bi).many; rw [show (mkB z.s.line bi).many = bi.many from rfl, hmany]; exact hlt) hu
  have hd := dead_spec q p z i2 u hul
  have hri : (List.range b.hd.slots)[i]? = some i := List.getElem?_range hlt
  have hstep : clrI nothing o (z.s, m) i = ((List.range b.hd.slots).take (i + 1)).foldl (clrI nothing o) (y.s, n) := by rw [foldl_take hri, ← i3]
  have hci : clrI nothing o (z.s, m) i = if deadM z.s u then ({ z.s with a := slotA z.s.a bi i nothing }, m + 1) else (z.s, m) := by
    unfold clrI
    show (match getO z.s.a.obs o with | some b => _ | none => _) = _
    rw [i8]
    simp only [List.getD_eq_getElem?_getD, hu, Option.getD_some]
  rw [hci] at hstep
  refine GOH ?_
  refine VO.imp (H' := RMem q p z ++ [cellsAt k1 0 [ptr0 q], cellsAt k3 0 [uv nothing], cellsAt k2 0 [vi m], TZ]) (Imp.cut (M := RA q p z :: [cellsAt k1 0 [ptr0 q], cellsAt k3 0 [uv nothing], cellsAt k2 0 [vi m], TZ]) (by exact IMx) (ra_outs q p z _)) ?_
  have hbackz : Imp (RMem q p z ++ [cellsAt k1 0 [ptr0 q], cellsAt k3 0 [uv nothing], cellsAt k2 0 [vi m], TZ]) [cellsAt k1 0 [ptr0 q], cellsAt k3 0 [uv nothing], cellsAt k2 0 [vi m], RA q p z, TZ] := Imp.cut (ra_ins q p z _) (by exact IMx)
  simp only [RMem, List.cons_append, List.nil_append] at hbackz ⊢
  refine GOH ?_
  refine st_callS hs (by rfl) (by exact TKx) ?_
  refine GOH ?_
  refine VO.imp (Imp.cut (by exact IMx) hbackz) ?_
  refine st_callS hd (by rfl) (by exact TKx) ?_
  refine GOH ?_
  cases hdv : deadM z.s u with
  | false =>
    rw [hdv, if_neg (by simp)] at hstep
    refine GOH ?_
    exact ⟨(i + 1, z, m), ⟨by simp only; omega, i2, hstep, i4, by simp only; omega, i6, i7, bi, i8, i9⟩, by simp only; omega, by exact SUx, by exact IMx⟩
  | true =>
    rw [hdv, if_pos rfl] at hstep
    have hset := setSlotN_spec p z.x i2.x o _ (i2.getS i8) ho i nothing (by show i < (mkB z.s.line bi).many; rw [show (mkB z.s.line bi).many = bi.many from rfl, hmany]; exact hlt) i4.lt (by show ¬ bi.hd.fmt = 6; rw [i9]; omega) (by
      have := i4.may
      unfold mayO at this ⊢
      rw [i2.a, isO_mark]; exact this) (by rw [i2.a]; exact i4.few)
    have hsa : setA z.x.a (mkB z.s.line bi) i nothing = markA (slotA z.s.a bi i nothing) z.s.line := by
      unfold setA
      rw [if_neg (by rw [i2.a, youngO_mark, i4.ny]; simp)]
      unfold slotA
      rw [i2.a]
      exact slot_mark z.s.a z.s.line bi.at_ i nothing
    refine GOH ?_
    refine VO.imp (H' := RMem q p z ++ [cellsAt k1 0 [ptr0 q], cellsAt k3 0 [uv nothing], cellsAt k2 0 [vi m], TZ]) (Imp.cut (M := RA q p z :: [cellsAt k1 0 [ptr0 q], cellsAt k3 0 [uv nothing], cellsAt k2 0 [vi m], TZ]) (by exact IMx) (ra_outs q p z _)) ?_
    simp only [RMem, List.cons_append, List.nil_append]
    refine GOH ?_
    refine st_call hset (by rfl) (by exact SPx) (fun v Post hv => ?_)
    obtain ⟨xn, ⟨rfl, g1, g2⟩, rfl⟩ := hv
    simp only [CNx]
    rw [hsa] at g2
    obtain ⟨zn, hzn⟩ : ∃ zn : RW, zn = { z with s := { z.s with a := slotA z.s.a bi i nothing }, x := xn } := ⟨_, rfl⟩
    have okn : ROk zn := by rw [hzn]; exact ⟨g1, g2, i2.m.slot bi.at_ i nothing, i2.l, i2.w, i2.f⟩
    have hbackn : Imp [cellsAt q 0 [ptr0 p, z.lv, z.wv, z.fv], slA z.lv (z.s.line.map uv) z.ls, slA z.wv (z.s.waiting.map uv) z.vs, slA z.fv (z.s.fired.map uv) z.fs, HA p xn, cellsAt k1 0 [ptr0 q], cellsAt k3 0 [uv nothing], cellsAt k2 0 [vi (m + 1)], TZ] [cellsAt k1 0 [ptr0 q], cellsAt k3 0 [uv nothing], cellsAt k2 0 [vi (m + 1)], RA q p zn, TZ] := by
      refine Imp.cut (M := RMem q p zn ++ [cellsAt k1 0 [ptr0 q], cellsAt k3 0 [uv nothing], cellsAt k2 0 [vi (m + 1)], TZ]) (by rw [hzn]; exact Imp.refl _) (Imp.cut (ra_ins q p zn _) (by exact IMx))
    refine GOH ?_
    refine ⟨(i + 1, zn, m + 1), ⟨by simp only; omega, okn, by simp only; rw [← hstep, hzn], by simp only; rw [hzn]; exact i4.slot bi i nothing, by simp only; omega, ?_, ?_, ?_⟩, by simp only; omega, by exact SUx, ?_⟩
    · simp only; rw [hzn, ← i6]
      exact ats_updS _ _ _ _
    · simp only; rw [hzn]; exact i7
    · simp only; rw [hzn]
      refine ⟨if bi.at_ = bi.at_ then V.setB i nothing bi else bi, ?_, ?_⟩
      · show getO (updO bi.at_ (V.setB i nothing) z.s.a.obs) o = _
        rw [getO_slot, i8]; rfl
      · rw [if_pos rfl]; exact i9
    · exact Imp.cut (by exact IMx) hbackn
end Go.Proofs.YtmlnoodopoaafaaDoor
namespace Go.V
open Go
theorem eachL_mark (a : AH) (l : List Nat) : eachL (markA a l) = eachL a := by
  unfold eachL
  simp only [room_mark]
theorem ROk.at_get {z : RW} (h : ROk z) {w : Nat} (hw : w ∈ atsA z.s.a) : ∃ b, getO z.s.a.obs (8 * w) = some b := by
  have hw2 : w ∈ atsA z.x.a := by rw [h.a, ats_mark]; exact hw
  obtain ⟨b, hb, rfl⟩ := List.mem_map.1 hw2
  have := getO_mem h.x.lay.sort hb
  rw [show b.oop = 8 * b.at_ from rfl, h.get] at this
  cases e : getO z.s.a.obs (8 * b.at_) with
  | none => rw [e] at this; cases this
  | some c => exact ⟨c, rfl⟩
theorem eachP_len {x : HW} (hx : HOk x) : (eachP x.a).length ≤ x.a.obs.length := by
  have h1 : (eachP x.a).length = (eachL x.a).length := by rw [← eachP_fst, List.length_map]
  rw [h1]
  have h2 := nodup_le (eachL_nodup hx) (m := atsA x.a) (fun w hw => by
    obtain ⟨b, hb, rfl⟩ := (mem_eachL hx).1 hw
    exact List.mem_map.2 ⟨b, hb, rfl⟩)
  simpa [atsA] using h2
theorem okC_len {x : HW} (hx : HOk x) {c : List (Nat × Nat)} (h : OkC (fun full => full = eachP x.a) c) : c.length < 4194304 := by
  obtain ⟨r, hr⟩ := h
  have h1 := eachP_len hx
  have h2 := hx.few_obs
  rw [← hr, List.length_append] at h1
  omega
end Go.V
namespace Go.Proofs.YtmlnoodopoaafaaDoor
open Go Go.V
set_option maxHeartbeats 6400000
set_option maxRecDepth 100000
theorem clear_spec (q p : Nat) (y : RW) (hy : ROk y) (hc : ClrOk y.s.a (y.s.a.sp.headD 0)) :
    Fun Tryd.prog 59 [ptr0 q] [RA q p y, TZ] (fun v Post => ∃ (y' : RW) (n : Nat), (v = vi n ∧ ROk y' ∧ (y'.s, n) = clearM y.s ∧ atsA y'.s.a = atsA y.s.a ∧ y'.s.a.rm = y.s.a.rm) ∧ Post = [RA q p y', TZ]) := by
  generalize hno : y.s.a.sp.headD 0 = nothing at hc
  have hxs : y.x.a.sp = y.s.a.sp := by rw [hy.a]; rfl
  have hu : y.x.a.sp[0]? = some nothing := by
    have hl := hy.x.spl
    rw [hxs] at hl ⊢
    cases hsp : y.s.a.sp with
    | nil => rw [hsp] at hl; simp at hl
    | cons u r => rw [hsp] at hno; simpa using hno
  have hspec := special_spec p y.x hy.x 0 nothing hu
  have hats : atsA y.x.a = atsA y.s.a := by rw [hy.a, ats_mark]
  have hrm : y.x.a.rm = y.s.a.rm := by rw [hy.a]; rfl
  have key : ∀ k1 k2 k3, Fun Tryd.prog 55 [ptr0 p, .func (.func 93) #[] #[ptr0 k1, ptr0 k3, ptr0 k2]] [cellsAt k1 0 [ptr0 q], cellsAt k3 0 [uv nothing], cellsAt k2 0 [vi 0], RA q p y, TZ]
      (fun v Post => ∃ (z : RW) (n : Nat), (v = .tuple #[] ∧ ROk z ∧ (z.s, n) = clearM y.s ∧ atsA z.s.a = atsA y.s.a ∧ z.s.a.rm = y.s.a.rm) ∧ Post = [cellsAt k1 0 [ptr0 q], cellsAt k3 0 [uv nothing], cellsAt k2 0 [vi n], RA q p z, TZ]) := by
    intro k1 k2 k3
    have ke := each_spec p y.x hy.x (.func (.func 93) #[] #[ptr0 k1, ptr0 k3, ptr0 k2]) (by simp [Value.cells]) rfl
      (fun c A => ∃ z n, (ROk z ∧ (z.s, n) = (c.map fun r : Nat × Nat => r.2).foldl (clrO nothing) (y.s, 0) ∧ ClrOk z.s.a nothing ∧ n ≤ 65536 * c.length ∧ atsA z.s.a = atsA y.s.a ∧ z.s.a.rm = y.s.a.rm) ∧ A = [cellsAt k1 0 [ptr0 q], cellsAt k3 0 [uv nothing], cellsAt k2 0 [vi n], RA q p z, TZ].flatten) (fun _ _ => False) ?_ ?_
      ([cellsAt k1 0 [ptr0 q], cellsAt k3 0 [uv nothing], cellsAt k2 0 [vi 0], RA q p y, TZ].flatten) ⟨y, 0, ⟨hy, rfl, hc, Nat.zero_le _, rfl, rfl⟩, rfl⟩
    · refine ke.conv (R := []) (by simp [Spl]) ?_
      rintro v Post ⟨rfl, ⟨A', ⟨z, n, ⟨h1, h2, h3, h4, h5, h6⟩, rfl⟩, rfl⟩ | ⟨c, B', _, hB, _⟩⟩
      · refine ⟨_, ⟨z, n, ⟨rfl, h1, ?_, h5, h6⟩, rfl⟩, Imp.perm (by simp)⟩
        rw [h2]
        unfold clearM
        rw [hno, eachP_fst, hy.a, eachL_mark]
      · exact hB.elim
    · rintro c A ⟨z, n, ⟨h1, h2, h3, h4, h5, h6⟩, rfl⟩
      refine ⟨z.x, cellsAt k1 0 [ptr0 q] ++ (cellsAt k3 0 [uv nothing] ++ (cellsAt k2 0 [vi n] ++ (cellsAt q 0 [ptr0 p, z.lv, z.wv, z.fv] ++ (slA z.lv (z.s.line.map uv) z.ls ++ (slA z.wv (z.s.waiting.map uv) z.vs ++ slA z.fv (z.s.fired.map uv) z.fs))))), ?_, h1.x, by rw [h1.a, ats_mark, h5, hats], by rw [h1.a, hrm]; exact h6⟩
      simp only [RA, RMem, List.flatten_cons, List.flatten_nil, List.append_nil]
      generalize HA p z.x = X
      generalize TZ = T
      have e : ∀ a b c d e f g : List Atom, (a ++ (b ++ (c ++ ((d ++ (e ++ (f ++ (g ++ X)))) ++ T)))).Perm (X ++ (T ++ (a ++ (b ++ (c ++ (d ++ (e ++ (f ++ g)))))))) := fun a b c d e f g => by
        have h1 : a ++ (b ++ (c ++ ((d ++ (e ++ (f ++ (g ++ X)))) ++ T))) = (a ++ (b ++ (c ++ (d ++ (e ++ (f ++ g)))))) ++ (X ++ T) := by simp [List.append_assoc]
        have h2 : X ++ (T ++ (a ++ (b ++ (c ++ (d ++ (e ++ (f ++ g))))))) = (X ++ T) ++ (a ++ (b ++ (c ++ (d ++ (e ++ (f ++ g)))))) := by simp [List.append_assoc]
        rw [h1, h2]; exact List.perm_append_comm
      exact e _ _ _ _ _ _ _
    · rintro c ⟨sp, w⟩ A hok ⟨z, n, ⟨h1, h2, h3, h4, h5, h6⟩, rfl⟩
      have hlen := okC_len hy.x hok
      rw [List.length_append, List.length_singleton] at hlen
      obtain ⟨b, hb, hbw, hnw⟩ := okE hy.x hok
      have hw : w ∈ atsA z.s.a := by
        rw [h5, ← hats]
        exact List.mem_map.2 ⟨b, (getO_some hb).1, hbw⟩
      obtain ⟨b', hb'⟩ := h1.at_get hw
      have hr := clr1_spec q p k1 k2 k3 z h1 nothing n sp (8 * w) w h3 rfl b' hb' (by omega)
      refine hr.conv (R := []) (by simp [Spl]) ?_
      rintro v Post ⟨y', n', ⟨rfl, g1, g2, g3, g4, g5, g6⟩, rfl⟩
      refine ⟨_, .inl ⟨rfl, _, ⟨y', n', ⟨g1, ?_, g3, by rw [List.length_append, List.length_singleton]; omega, g5.trans h5, g6.trans h6⟩, rfl⟩, rfl⟩, ?_⟩
      · rw [List.map_append, List.foldl_append, ← h2]; exact g2
      · rw [List.append_nil]
        exact Imp.perm (by simp)
  refine Fun.intro low59 (by simp [n59]) ?_
  refine VC.seq_reg ?_
  refine st_box (by rfl) (fun k1 => ?_)
  refine st_alloc (fun k2 => ?_)
  simp only [Value.cells]
  refine GOH ?_
  refine VO.imp (H' := RMem q p y ++ [cellsAt k2 0 [.int .i64 0], cellsAt k1 0 [ptr0 q], TZ]) (Imp.cut (M := RA q p y :: [cellsAt k2 0 [.int .i64 0], cellsAt k1 0 [ptr0 q], TZ]) (by exact IMx) (ra_outs q p y _)) ?_
  have hbk : ∀ k3, Imp (RMem q p y ++ [cellsAt k3 0 [uv nothing], cellsAt k2 0 [.int .i64 0], cellsAt k1 0 [ptr0 q], TZ]) [cellsAt k1 0 [ptr0 q], cellsAt k3 0 [uv nothing], cellsAt k2 0 [vi 0], RA q p y, TZ] := fun k3 => Imp.cut (ra_ins q p y _) (by show Imp _ [cellsAt k1 0 [ptr0 q], cellsAt k3 0 [uv nothing], cellsAt k2 0 [.int .i64 0], RA q p y, TZ]; exact IMx)
  simp only [RMem, List.cons_append, List.nil_append] at hbk ⊢
  refine GOH ?_
  refine st_callS hspec (by rfl) (by exact TKx) ?_
  refine GOH ?_
  refine st_alloc (fun k3 => ?_)
  refine GOH ?_
  refine VO.imp (Imp.cut (by exact IMx) (hbk k3)) ?_
  refine st_call (key k1 k2 k3) (by rfl) (by exact SPx) (fun v Post hv => ?_)
  obtain ⟨z, n, ⟨rfl, g1, g2, g3, g4⟩, rfl⟩ := hv
  simp only [CNx]
  refine GOH ?_
  refine ⟨.inr rfl, _, _, .cell1 (by rfl) (by simp only [List.flatten_cons, List.mem_append, cellsAt, List.mem_singleton, List.mem_cons]; simp) .nil, ?_, ⟨z, n, ⟨rfl, g1, g2, g3, g4⟩, rfl⟩⟩
  exact IMx
end Go.Proofs.YtmlnoodopoaafaaDoor
namespace Go.V
open Go
theorem HOk.del {x : HW} (hx : HOk x) {w : Nat} (hw : w < x.ws.length) : HOk { x with a := { x.a with obs := x.a.obs.filter fun b => decide (b.at_ ≠ w) }, st := setBit x.st w false } :=
  ⟨hx.lay.del hw, ⟨hx.rm.len, hx.rm.zero, hx.rm.rng, hx.rm.low, hx.rm.apart, fun b hb => hx.rm.inn b (List.mem_filter.1 hb).1⟩, hx.spl, hx.cll, hx.sps, hx.cls, hx.stks, hx.ques, hx.nots, hx.stk, hx.que, hx.note, hx.map, hx.given, hx.deep, hx.few⟩
theorem filter_mark (a : AH) (l : List Nat) (w : Nat) : { markA a l with obs := (markA a l).obs.filter fun b => decide (b.at_ ≠ w) } = markA { a with obs := a.obs.filter fun b => decide (b.at_ ≠ w) } l := by
  unfold markA
  simp only
  congr 1
  rw [List.filter_map]
  rfl
def lessA (a : AH) (ws : List Nat) : AH := { a with obs := a.obs.filter fun b => decide (b.at_ ∉ ws) }
theorem lessA_nil (a : AH) : lessA a [] = a := by
  unfold lessA
  have : (a.obs.filter fun b => decide (b.at_ ∉ ([] : List Nat))) = a.obs := List.filter_eq_self.2 fun b _ => by simp
  rw [this]
theorem lessA_snoc (a : AH) (ws : List Nat) (w : Nat) : { lessA a ws with obs := (lessA a ws).obs.filter fun b => decide (b.at_ ≠ w) } = lessA a (ws ++ [w]) := by
  unfold lessA
  simp only
  congr 1
  rw [List.filter_filter]
  refine List.filter_congr fun b _ => ?_
  rw [← Bool.decide_and, decide_eq_decide]
  simp only [List.mem_append, List.mem_singleton, not_or]
  exact ⟨fun h => ⟨h.2, h.1⟩, fun h => ⟨h.2, h.1⟩⟩
theorem getO_less (a : AH) (ws : List Nat) (o : Nat) (h : ∀ b ∈ a.obs, b.oop = o → b.at_ ∉ ws) : getO (lessA a ws).obs o = getO a.obs o := by
  unfold lessA getO
  simp only
  rw [List.find?_filter]
  have key : ∀ l : List Ob, (∀ b ∈ l, b.oop = o → b.at_ ∉ ws) → (l.find? fun b => decide (decide (b.at_ ∉ ws) = true ∧ decide (b.oop = o) = true)) = l.find? fun b => decide (b.oop = o) := by
    intro l hl
    induction l with
    | nil => rfl
    | cons b r ih =>
      simp only [List.find?_cons]
      by_cases e : b.oop = o
      · have := hl b (by simp) e
        simp [e, this]
      · simp only [e, decide_false, Bool.false_eq_true, and_false]
        exact ih (fun c hc => hl c (by simp [hc]))
  exact key a.obs h
end Go.V
namespace Go.Proofs.YtmlnoodopoaafaaDoor
open Go Go.V
set_option maxHeartbeats 6400000
set_option maxRecDepth 100000
def delW (x : HW) (w : Nat) : HW := { x with a := { x.a with obs := x.a.obs.filter fun b => decide (b.at_ ≠ w) }, st := setBit x.st w false }
theorem free_spec (p : Nat) (x : HW) (hx : HOk x) (o : Nat) (b : Ob) (hb : getO x.a.obs o = some b) (hn : b.hd.noted = false) :
    Fun Tryd.prog 96 [ptr0 p, uv o] [HA p x] (fun v Post => (v = vi 0 ∧ HOk (delW x b.at_)) ∧ Post = [HA p (delW x b.at_)]) := by
  have ho := hx.oop_lt hb
  obtain ⟨hw, hm⟩ := hx.word hb
  have ha := at_spec p x hx o ho
  have hh := head_spec p x hx b hm
  have hlt := hx.lay.at_lt hm
  have hl := hx.lay.len
  have hst := hx.lay.stl
  have hbe := begin_spec p x b.at_ false (by rw [hst]; omega) (by rw [hst]; omega) hx.lay.sts
  have key := hx.del (w := b.at_) (by omega)
  rw [hb, hw] at ha
  simp only [hdEnc] at hh
  rw [hn] at hh
  have hdrop : Fun Tryd.prog 111 [ptr0 p, vi b.at_] [HA p x] (fun v Post => v = .tuple #[] ∧ Post = [HA p (delW x b.at_)]) := by
    refine Fun.intro low111 (by simp [n111]) ?_
    refine VC.seq_reg ?_
    refine st_box (by rfl) (fun k => ?_)
    simp only [Value.cells]
    refine GOH ?_
    refine st_callS hh (by rfl) (by exact TKx) ?_
    refine GOH ?_
    refine st_call hbe (by rfl) (by exact SPx) (fun v Post hv => ?_)
    obtain ⟨rfl, rfl⟩ := hv
    simp only [CNx]
    refine GOH ?_
    exact endQ_mk (.inl rfl) .nil ⟨rfl, rfl⟩ (by show Imp _ [HA p { x with st := setBit x.st b.at_ false }]; exact IMx)
  refine Fun.intro low96 (by simp [n96]) ?_
  refine GOH ?_
  refine st_callS ha (by rfl) (by exact TKx) ?_
  refine GOH ?_
  refine st_call hdrop (by rfl) (by exact SPx) (fun v Post hv => ?_)
  obtain ⟨rfl, rfl⟩ := hv
  simp only [CNx]
  refine GOH ?_
  exact endQ_mk (.inr rfl) (.tmp (by rfl) .nil) ⟨⟨rfl, key⟩, rfl⟩ (by exact IMx)
end Go.Proofs.YtmlnoodopoaafaaDoor
namespace Go.V
open Go
def goneM (s : MS) : List Nat := (eachL s.a).filter fun w => deadM s (8 * w)
theorem deadM_some {s : MS} {o : Nat} (h : deadM s o = true) : (getO s.a.obs o).isSome = true ∧ o ∉ s.line := by
  unfold deadM at h
  simp only [Bool.and_eq_true, Bool.not_eq_true', decide_eq_false_iff_not] at h
  exact h
theorem filter_take {α : Type} {f : α → Bool} {c : List α} {x : α} : (c ++ [x]).filter f = c.filter f ++ (if f x then [x] else []) := by
  rw [List.filter_append]
  congr 1
  by_cases h : f x
  · rw [if_pos h, List.filter_cons_of_pos h]; rfl
  · rw [if_neg h, List.filter_cons_of_neg h]; rfl
def aliveA (s : MS) : AH := { s.a with obs := s.a.obs.filter fun b => decide (b.oop ∈ s.line) }
end Go.V
namespace Go.Proofs.YtmlnoodopoaafaaDoor
open Go Go.V
set_option maxHeartbeats 6400000
set_option maxRecDepth 100000
theorem swp1_spec (q p k1 k3 : Nat) (y : RW) (hy : ROk y) (gv : Value) (gone : List Nat) (gs : List Value) (hg : IsSl 1 gv gone.length (gone.map uv) gs) (hgl : gone.length ≤ 4194304) (sp o : Nat) (ho : o < 18446744073709551616) :
    FunV Tryd.prog (.func (.func 95) #[] #[ptr0 k1, ptr0 k3]) [cv sp, uv o] [cellsAt k1 0 [ptr0 q], cellsAt k3 0 [gv], slA gv (gone.map uv) gs, RA q p y, TZ]
      (fun v Post => ∃ gv' gs', (v = .bool true ∧ IsSl 1 gv' (gone ++ (if deadM y.s o then [o] else [])).length ((gone ++ (if deadM y.s o then [o] else [])).map uv) gs') ∧ Post = [cellsAt k1 0 [ptr0 q], cellsAt k3 0 [gv'], slA gv' ((gone ++ (if deadM y.s o then [o] else [])).map uv) gs', RA q p y, TZ]) := by
  refine FunV.of_fun ?_
  simp only [List.nil_append, List.cons_append]
  have hd := dead_spec q p y hy o ho
  obtain ⟨a, c, rfl⟩ := hg.form
  refine Fun.intro low95 (by simp [n95]) ?_
  refine GOH ?_
  refine st_callS hd (by rfl) (by exact TKx) ?_
  refine GOH ?_
  cases deadM y.s o with
  | false =>
    rw [if_neg (by simp), List.append_nil]
    refine GOH ?_
    exact endQ_mk (.inr rfl) (.tmp (by rfl) .nil) ⟨_, gs, ⟨rfl, hg⟩, rfl⟩ (by exact IMx)
  | true =>
    rw [if_pos rfl]
    refine GOH ?_
    refine st_bslice (out := [uv o]) (by rfl) (by rfl) (fun q3 => ?_)
    refine st_appU (xs := gone) (ys := [o]) (sp := gs) (by rfl) (by rfl) hg (by exact TKx) (srcU_lit (fun y hy => by simp only [List.flatten_cons, List.mem_append]; exact .inl hy)) (by simp only [List.length_singleton]; omega) (fun sv' sp' hsl' => ?_)
    obtain ⟨a', c', rfl⟩ := hsl'.form
    refine GOH ?_
    exact endQ_mk (.inr rfl) (.tmp (by rfl) .nil) ⟨_, sp', ⟨rfl, hsl'⟩, rfl⟩ (by exact IMx)
theorem gather_spec (q p k1 k3 : Nat) (y : RW) (hy : ROk y) :
    Fun Tryd.prog 55 [ptr0 p, .func (.func 95) #[] #[ptr0 k1, ptr0 k3]] [cellsAt k1 0 [ptr0 q], cellsAt k3 0 [.slice none 0 0], RA q p y, TZ]
      (fun v Post => ∃ gv gs, (v = .tuple #[] ∧ IsSl 1 gv (goneM y.s).length (((goneM y.s).map (8 * ·)).map uv) gs) ∧ Post = [cellsAt k1 0 [ptr0 q], cellsAt k3 0 [gv], slA gv (((goneM y.s).map (8 * ·)).map uv) gs, RA q p y, TZ]) := by
  have ke := each_spec p y.x hy.x (.func (.func 95) #[] #[ptr0 k1, ptr0 k3]) (by simp [Value.cells]) rfl
    (fun c A => ∃ gv gs, IsSl 1 gv ((c.map fun r : Nat × Nat => r.2).filter fun w => deadM y.s (8 * w)).length ((((c.map fun r : Nat × Nat => r.2).filter fun w => deadM y.s (8 * w)).map (8 * ·)).map uv) gs ∧ A = [cellsAt k1 0 [ptr0 q], cellsAt k3 0 [gv], slA gv ((((c.map fun r : Nat × Nat => r.2).filter fun w => deadM y.s (8 * w)).map (8 * ·)).map uv) gs, RA q p y, TZ].flatten) (fun _ _ => False) ?_ ?_
    ([cellsAt k1 0 [ptr0 q], cellsAt k3 0 [.slice none 0 0], RA q p y, TZ].flatten) ⟨.slice none 0 0, [], .nil, by simp [slA]⟩
  · refine ke.conv (R := []) (by simp [Spl]) ?_
    rintro v Post ⟨rfl, ⟨A', ⟨gv, gs, h1, rfl⟩, rfl⟩ | ⟨c, B', _, hB, _⟩⟩
    · have e : ((eachP y.x.a).map fun r : Nat × Nat => r.2).filter (fun w => deadM y.s (8 * w)) = goneM y.s := by
        unfold goneM
        rw [eachP_fst, hy.a, eachL_mark]
      rw [e] at h1 ⊢
      exact ⟨_, ⟨gv, gs, ⟨rfl, h1⟩, rfl⟩, Imp.perm (by simp)⟩
    · exact hB.elim
  · rintro c A ⟨gv, gs, h1, rfl⟩
    generalize slA gv _ gs = S
    refine ⟨y.x, cellsAt k1 0 [ptr0 q] ++ (cellsAt k3 0 [gv] ++ (S ++ (cellsAt q 0 [ptr0 p, y.lv, y.wv, y.fv] ++ (slA y.lv (y.s.line.map uv) y.ls ++ (slA y.wv (y.s.waiting.map uv) y.vs ++ slA y.fv (y.s.fired.map uv) y.fs))))), ?_, hy.x, rfl, rfl⟩
    simp only [RA, RMem, List.flatten_cons, List.flatten_nil, List.append_nil]
    generalize HA p y.x = X
    generalize TZ = T
    have e : ∀ a b c d e f g : List Atom, (a ++ (b ++ (c ++ ((d ++ (e ++ (f ++ (g ++ X)))) ++ T)))).Perm (X ++ (T ++ (a ++ (b ++ (c ++ (d ++ (e ++ (f ++ g)))))))) := fun a b c d e f g => by
      have h1 : a ++ (b ++ (c ++ ((d ++ (e ++ (f ++ (g ++ X)))) ++ T))) = (a ++ (b ++ (c ++ (d ++ (e ++ (f ++ g)))))) ++ (X ++ T) := by simp [List.append_assoc]
      have h2 : X ++ (T ++ (a ++ (b ++ (c ++ (d ++ (e ++ (f ++ g))))))) = (X ++ T) ++ (a ++ (b ++ (c ++ (d ++ (e ++ (f ++ g)))))) := by simp [List.append_assoc]
      rw [h1, h2]; exact List.perm_append_comm
    exact e _ _ _ _ _ _ _
  · rintro c ⟨sp, w⟩ A hok ⟨gv, gs, h1, rfl⟩
    have hlen := okC_len hy.x hok
    rw [List.length_append, List.length_singleton] at hlen
    obtain ⟨b, hb, hbw, hnw⟩ := okE hy.x hok
    have hgl : ((c.map fun r : Nat × Nat => r.2).filter fun w => deadM y.s (8 * w)).length ≤ c.length := by
      refine Nat.le_trans (List.length_filter_le _ _) ?_
      rw [List.length_map]; exact Nat.le_refl _
    have hr := swp1_spec q p k1 k3 y hy gv (((c.map fun r : Nat × Nat => r.2).filter fun w => deadM y.s (8 * w)).map (8 * ·)) gs (by rw [List.length_map]; exact h1) (by rw [List.length_map]; omega) sp (8 * w) (hy.x.oop_lt hb)
    have e : (((c.map fun r : Nat × Nat => r.2).filter fun w => deadM y.s (8 * w)).map (8 * ·)) ++ (if deadM y.s (8 * w) = true then [8 * w] else []) = ((((c ++ [(sp, w)]).map fun r : Nat × Nat => r.2).filter fun w => deadM y.s (8 * w)).map (8 * ·)) := by
      rw [List.map_append]
      show _ = (((c.map fun r : Nat × Nat => r.2) ++ [w]).filter _).map _
      rw [filter_take, List.map_append]
      congr 1
      split <;> rfl
    rw [e] at hr
    refine hr.conv (R := []) (by simp [Spl]) ?_
    rintro v Post ⟨gv', gs', ⟨rfl, g1⟩, rfl⟩
    refine ⟨_, .inl ⟨rfl, _, ⟨gv', gs', by rw [List.length_map] at g1; exact g1, rfl⟩, rfl⟩, ?_⟩
    rw [List.append_nil]
    exact Imp.perm (by simp)
end Go.Proofs.YtmlnoodopoaafaaDoor

/-
  The heap: the objects of a room, gone through.
-/
import Derived.Test.YtmlnoodopoaafaaDoorP2
import Derived.Test.YtmlnoodopoaafaaDoorP6
import Derived.Test.YtmlnoodopoaafaaDoorH4
set_option linter.unusedSimpArgs false
set_option linter.unusedVariables false
namespace Go.Proofs.YtmlnoodopoaafaaDoor
open Go Go.V
set_option maxHeartbeats 6400000
set_option maxRecDepth 100000
theorem walk_spec (p sp : Nat) : Fun Tryd.prog 61 [ptr0 p, cv sp] [] (fun v Post => ∃ q1 q2, v = .func (.func 97) #[] #[ptr0 q1, ptr0 q2] ∧ Post = [cellsAt q1 0 [cv sp], cellsAt q2 0 [ptr0 p]]) := by
  refine Fun.intro low61 (by simp [n61]) ?_
  refine VC.seq_reg ?_
  refine st_box (by rfl) (fun q2 => ?_)
  refine st_box (by rfl) (fun q1 => ?_)
  simp only [Value.cells]
  refine GOH ?_
  exact endQ_mk (.inr rfl) (.tmp (by rfl) .nil) ⟨q1, q2, rfl, rfl⟩ (by exact IMx)
theorem nextN_spec (p : Nat) (x : HW) (hx : HOk x) (w e : Nat) (hw : w ≤ 4194304) (he : e ≤ x.ws.length) : Fun Tryd.prog 98 [ptr0 p, vi w, vi e] [HA p x, TZ] (fun v Post => v = vi (nextN (atsA x.a) w e) ∧ Post = [HA p x, TZ]) := by
  have := next_spec p x hx w e hw he
  rw [nextV_N] at this
  exact this
theorem walk_iter (p q1 q2 sp : Nat) (x : HW) (hx : HOk x) (h1 : 1 ≤ sp) (h5 : sp ≤ 5) :
    IterA Tryd.prog (.func (.func 97) #[] #[ptr0 q1, ptr0 q2]) (fun w : Nat => [uv (8 * w)]) (AccW p x sp) [cellsAt q1 0 [cv sp], cellsAt q2 0 [ptr0 p]] [] (fun full => full = roomL x.a sp) := by
  intro y J SP _ hJA hy A hA
  refine FunV.of_fun (first := #[]) (cap := #[ptr0 q1, ptr0 q2]) ?_
  show Fun Tryd.prog 97 [y, ptr0 q1, ptr0 q2] _ _
  obtain ⟨z, X, z1, z2, z3, z4, z5⟩ := hJA [] A hA
  have hl6 := z2.rm.len
  obtain ⟨r, hr⟩ : ∃ r, z.a.rm[sp]? = some r := ⟨_, List.getElem?_eq_getElem (by omega)⟩
  have hroom : roomR z.a sp = r := by unfold roomR; rw [hr]; rfl
  have hrg := z2.rm.rng sp r hr
  have hzl := z2.lay.len
  obtain ⟨RR, hRR⟩ := ha_room p z hr
  obtain ⟨f, t, tp⟩ := r
  simp only at hrg
  have hf : (roomR x.a sp).1 = f := by rw [← z4, hroom]
  have ht : (roomR x.a sp).2.1 = t := by rw [← z5, hroom]
  have hL : ∀ {A' : List Atom} {c : List Nat}, J c A' → ∃ z' X', A'.Perm (HA p z' ++ (TZ ++ X')) ∧ HOk z' ∧ atsA z'.a = atsA x.a ∧ t ≤ z'.ws.length := fun {A' c} h => by
    obtain ⟨z', X', k1, k2, k3, k4, k5⟩ := hJA c A' h
    have hl6 := k2.rm.len
    obtain ⟨r', hr'⟩ : ∃ r', z'.a.rm[sp]? = some r' := ⟨_, List.getElem?_eq_getElem (by omega)⟩
    have hroom' : roomR z'.a sp = r' := by unfold roomR; rw [hr']; rfl
    have := k2.rm.rng sp r' hr'
    refine ⟨z', X', k1, k2, k3, ?_⟩
    rw [← ht, ← k5, hroom']; omega
  refine Fun.intro low97 (by simp [n97]) ?_
  refine VC.imp (H' := [cellsAt q1 0 [cv sp], cellsAt q2 0 [ptr0 p], cellsAt p (2 + sp * 3) [vi f, vi t, vi tp], RR ++ (TZ ++ X)]) (Imp.perm ?_) ?_
  · simp only [List.flatten_append, List.flatten_cons, List.flatten_nil, List.append_nil]
    rw [List.append_assoc]
    refine List.Perm.append_left _ (List.Perm.append_left _ ?_)
    refine z1.trans ((hRR.append_right _).trans ?_)
    rw [List.append_assoc]; exact .refl _
  refine GOH ?_
  rw [show decide ((sp : Int) < 1) = false from decide_eq_false (by omega)]
  refine GOH ?_
  rw [show decide ((5 : Int) < (sp : Int)) = false from decide_eq_false (by omega)]
  refine GOH ?_
  refine st_alloc (fun r4 => ?_)
  refine GOH ?_
  have hback : ∀ (z' : HW) (X' A' : List Atom), A'.Perm (HA p z' ++ (TZ ++ X')) → Imp [HA p z', TZ, cellsAt r4 0 [vi f, vi t, vi tp], cellsAt q1 0 [cv sp], cellsAt q2 0 [ptr0 p], X'] [cellsAt r4 0 [vi f, vi t, vi tp], cellsAt q1 0 [cv sp], cellsAt q2 0 [ptr0 p], A'] := fun z' X' A' k => Imp.perm (by
    simp only [List.flatten_cons, List.flatten_nil, List.append_nil]
    generalize cellsAt r4 0 _ = B1
    generalize cellsAt q1 0 _ = B2
    generalize cellsAt q2 0 _ = B3
    refine List.Perm.trans ?_ (((k.symm.append_left B3).append_left B2).append_left B1)
    have e : (HA p z' ++ (TZ ++ (B1 ++ (B2 ++ (B3 ++ X'))))) = (HA p z' ++ TZ) ++ ((B1 ++ (B2 ++ B3)) ++ X') := by simp [List.append_assoc]
    have e2 : B1 ++ (B2 ++ (B3 ++ (HA p z' ++ (TZ ++ X')))) = (B1 ++ (B2 ++ B3)) ++ ((HA p z' ++ TZ) ++ X') := by simp [List.append_assoc]
    rw [e, e2]
    exact perm_lead _ _ _)
  have hfront : ∀ (z' : HW) (X' A' : List Atom), A'.Perm (HA p z' ++ (TZ ++ X')) → Imp [cellsAt r4 0 [vi f, vi t, vi tp], cellsAt q1 0 [cv sp], cellsAt q2 0 [ptr0 p], A'] [HA p z', TZ, cellsAt r4 0 [vi f, vi t, vi tp], cellsAt q1 0 [cv sp], cellsAt q2 0 [ptr0 p], X'] := fun z' X' A' k => Imp.perm (by
    simp only [List.flatten_cons, List.flatten_nil, List.append_nil]
    generalize cellsAt r4 0 _ = B1
    generalize cellsAt q1 0 _ = B2
    generalize cellsAt q2 0 _ = B3
    refine List.Perm.trans (((k.append_left B3).append_left B2).append_left B1) ?_
    have e : (HA p z' ++ (TZ ++ (B1 ++ (B2 ++ (B3 ++ X'))))) = (HA p z' ++ TZ) ++ ((B1 ++ (B2 ++ B3)) ++ X') := by simp [List.append_assoc]
    have e2 : B1 ++ (B2 ++ (B3 ++ (HA p z' ++ (TZ ++ X')))) = (B1 ++ (B2 ++ B3)) ++ ((HA p z' ++ TZ) ++ X') := by simp [List.append_assoc]
    rw [e, e2]
    exact perm_lead _ _ _)
  refine VO.imp (H' := [HA p z, TZ, cellsAt r4 0 [vi f, vi t, vi tp], cellsAt q1 0 [cv sp], cellsAt q2 0 [ptr0 p], X]) (Imp.perm ?_) ?_
  · simp only [List.flatten_cons, List.flatten_nil, List.append_nil]
    generalize cellsAt r4 0 _ = B1
    generalize cellsAt q1 0 _ = B2
    generalize cellsAt q2 0 _ = B3
    have e2 : B1 ++ (B2 ++ (B3 ++ (cellsAt p (2 + sp * 3) [vi f, vi t, vi tp] ++ (RR ++ (TZ ++ X))))) = (B1 ++ (B2 ++ B3)) ++ ((cellsAt p (2 + sp * 3) (rmEnc (f, t, tp)) ++ RR) ++ (TZ ++ X)) := by simp [List.append_assoc, rmEnc]
    have e : (HA p z ++ (TZ ++ (B1 ++ (B2 ++ (B3 ++ X))))) = (HA p z ++ TZ) ++ ((B1 ++ (B2 ++ B3)) ++ X) := by simp [List.append_assoc]
    rw [e, e2]
    refine ((hRR.symm.append_right _).append_left _).trans ?_
    have e3 : HA p z ++ (TZ ++ X) = (HA p z ++ TZ) ++ X := by simp [List.append_assoc]
    rw [e3]
    exact perm_lead _ _ _
  have hx0 : nextN (atsA z.a) f t = headI (roomL x.a sp) := by rw [z3, ← hf, ← ht]; exact next_first x.a sp
  have hn0 := nextN_spec p z z2 f t (by omega) (by omega)
  rw [hx0] at hn0
  refine st_call hn0 (by rfl) (by exact SPx) (fun v Post hv => ?_)
  obtain ⟨rfl, rfl⟩ := hv
  simp only [CNx]
  refine VO.imp (hback z X A z1) ?_
  refine GOH ?_
  refine VC.loop (α := Nat × List Atom) (Γf := fun s => [(0, y), (2, ptr0 q2), (4, .pointer (some ⟨r4, 0, none⟩)), (5, vi (headI ((roomL x.a sp).drop s.1)))]) (Hf := fun s => [cellsAt r4 0 [vi f, vi t, vi tp], cellsAt q1 0 [cv sp], cellsAt q2 0 [ptr0 p], s.2])
    (I := fun s => s.1 ≤ (roomL x.a sp).length ∧ J ((roomL x.a sp).take s.1) s.2) (μ := fun s => (roomL x.a sp).length - s.1) (0, A) ⟨Nat.zero_le _, by simpa using hA⟩ (by rw [List.drop_zero]; exact SUx) (Imp.refl _) ?_
  rintro ⟨j, A1⟩ ⟨i1, i2⟩
  simp only at i1 i2 ⊢
  by_cases hlt : j < (roomL x.a sp).length
  rotate_left
  · rw [headI_end (by omega)]
    rw [List.take_of_length_le (by omega)] at i2
    refine GOH ?_
    exact endQ_mk (.inl rfl) .nil ⟨rfl, .inl ⟨_, A1, rfl, i2, rfl⟩⟩ (by exact IMx)
  obtain ⟨u, hu⟩ : ∃ u, (roomL x.a sp)[j]? = some u := ⟨_, List.getElem?_eq_getElem hlt⟩
  have hmu := mem_roomL hx (List.mem_of_getElem? hu)
  have hok : OkC (fun full => full = roomL x.a sp) ((roomL x.a sp).take j ++ [u]) := by
    have := okR (R := roomL x.a sp) (a := []) (l := roomL x.a sp) (b := []) (by simp) hu
    simpa using this
  have hnx := next_next hx hu
  rw [headI_drop hu]
  generalize hWl : roomL x.a sp = W at *
  refine GOH ?_
  rw [show decide ((0 : Int) ≤ (u : Int)) = true from decide_eq_true (by omega)]
  refine GOH ?_
  refine st_callP (oop_spec u hmu.1 hmu.2.1) (by rfl) ?_
  refine GOH ?_
  refine st_callV (by rfl) (hy _ u A1 hok i2) (by rfl) (by exact SPx) (fun v Post hv => ?_)
  rcases hv with ⟨rfl, A', hA', rfl⟩ | ⟨rfl, B', hB', rfl⟩
  rotate_left
  · simp only [CNx]
    refine GOH ?_
    exact endQ_mk (.inr rfl) .nil ⟨rfl, .inr ⟨_, B', hok, hB', rfl⟩⟩ (by exact IMx)
  simp only [CNx]
  refine GOH ?_
  obtain ⟨z', X', k1, k2, k3, k4⟩ := hL hA'
  have hlen' := k2.lay.len
  have hn1 := nextN_spec p z' k2 (u + 1) t (by
    obtain ⟨b, hb, hbu⟩ := hmu.2.2
    have := hx.lay.at_lt hb
    have := hx.lay.len
    omega) (by omega)
  rw [k3, ← ht, hnx, ht] at hn1
  refine VO.imp (H' := [cellsAt r4 0 [vi f, vi t, vi tp], cellsAt q1 0 [cv sp], cellsAt q2 0 [ptr0 p], A']) (by exact IMx) ?_
  refine VO.imp (hfront z' X' A' k1) ?_
  refine st_call hn1 (by rfl) (by exact SPx) (fun v Post hv => ?_)
  obtain ⟨rfl, rfl⟩ := hv
  simp only [CNx]
  refine VO.imp (hback z' X' A' k1) ?_
  refine GOH ?_
  refine ⟨(j + 1, A'), ⟨by simp only; omega, ?_⟩, by simp only; omega, by exact SUx, Imp.refl _⟩
  simp only
  rw [List.take_add_one, hu]; exact hA'
end Go.Proofs.YtmlnoodopoaafaaDoor
namespace Go.V
open Go
def AccG (p : Nat) (x : HW) (A : List Atom) : Prop := ∃ R, A.Perm (HA p x ++ (TZ ++ R))
theorem AccG.w {p sp : Nat} {x : HW} (hx : HOk x) {A : List Atom} (h : AccG p x A) : AccW p x sp A := by
  obtain ⟨R, h⟩ := h
  exact ⟨x, R, h, hx, rfl, rfl, rfl⟩
end Go.V
namespace Go.Proofs.YtmlnoodopoaafaaDoor
open Go Go.V
set_option maxHeartbeats 6400000
set_option maxRecDepth 100000
theorem gaps_iter (p : Nat) (x : HW) (hx : HOk x) :
    IterA Tryd.prog (.func (.func 101) #[ptr0 p] #[]) (fun g : Nat × Nat => [vi g.1, vi g.2]) (AccG p x) [] [] (fun full => full = gapsA x.a) := by
  intro y J SP hyc hJA hy A hA
  refine FunV.of_fun (first := #[ptr0 p]) (cap := #[]) ?_
  show Fun Tryd.prog 101 [ptr0 p, y] _ _
  obtain ⟨X, z1⟩ := hJA [] A hA
  have hl6 := hx.rm.len
  obtain ⟨r, hr⟩ : ∃ r, x.a.rm[5]? = some r := ⟨_, List.getElem?_eq_getElem (by omega)⟩
  have hroom : roomR x.a 5 = r := by unfold roomR; rw [hr]; rfl
  have hrg := hx.rm.rng 5 r hr
  have hxl := hx.lay.len
  obtain ⟨RR, hRR⟩ := ha_room p x hr
  obtain ⟨f, t, tp⟩ := r
  simp only at hrg
  have hf : (roomR x.a 5).1 = f := by rw [hroom]
  have ht : (roomR x.a 5).2.1 = t := by rw [hroom]
  refine Fun.intro low101 (by simp [n101]) ?_
  refine VC.imp (H' := [cellsAt p 17 [vi f, vi t, vi tp], RR ++ (TZ ++ X)]) (Imp.perm ?_) ?_
  · simp only [List.flatten_append, List.flatten_cons, List.flatten_nil, List.append_nil, List.nil_append]
    refine z1.trans ((hRR.append_right _).trans ?_)
    rw [List.append_assoc]; exact .refl _
  refine VC.seq_reg ?_
  refine st_box (by rfl) (fun q2 => ?_)
  simp only [Value.cells]
  refine st_box (by rfl) (fun q3 => ?_)
  simp only [hyc]
  refine GOH ?_
  rw [show (2 + Int.toNat 5 * 3 : Nat) = 17 from rfl]
  refine GOH ?_
  refine st_alloc (fun r4 => ?_)
  refine GOH ?_
  refine st_alloc (fun b5 => ?_)
  refine GOH ?_
  refine st_call (walk_spec p 5) (by rfl) Spl.nil (fun v Post hv => ?_)
  obtain ⟨w1, w2, rfl, rfl⟩ := hv
  simp only [CNx]
  refine VO.imp (H' := [cellsAt w1 0 [cv 5], cellsAt w2 0 [ptr0 p], cellsAt b5 0 [vi f], cellsAt r4 0 [vi f, vi t, vi tp], cellsAt q3 0 [y], cellsAt q2 0 [ptr0 p], A]) (Imp.perm ?_) ?_
  · simp only [List.flatten_cons, List.flatten_nil, List.append_nil]
    refine List.Perm.append_left _ (List.Perm.append_left _ (List.Perm.append_left _ (List.Perm.append_left _ (List.Perm.append_left _ (List.Perm.append_left _ ?_)))))
    refine List.Perm.trans ?_ z1.symm
    rw [← List.append_assoc]
    exact hRR.symm.append_right _
  have hlen := congrArg List.length (pins_room x.a)
  rw [List.length_map] at hlen
  refine GOH ?_
  refine VC.rangefA (fun c A' => ∃ A1, J (((pinsO x.a).take c.length).foldl gapS ([], f)).1 A1 ∧ A' = [cellsAt b5 0 [vi (((pinsO x.a).take c.length).foldl gapS ([], f)).2], cellsAt r4 0 [vi f, vi t, vi tp], cellsAt q3 0 [y], cellsAt q2 0 [ptr0 p], A1].flatten) ([cellsAt b5 0 [vi f], cellsAt r4 0 [vi f, vi t, vi tp], cellsAt q3 0 [y], cellsAt q2 0 [ptr0 p], A].flatten)
    (by rfl) (walk_iter p w1 w2 5 x hx (by omega) (by omega)) (fun A B h => h.more B) ?_ (R := [cellsAt b5 0 [vi f], cellsAt r4 0 [vi f, vi t, vi tp], cellsAt q3 0 [y], cellsAt q2 0 [ptr0 p], A]) (by exact SPx) ?_ ⟨A, hA, rfl⟩ (fun _ => rfl) ?_ ?_
  · rintro c A' ⟨A1, h1, rfl⟩
    refine ((hJA _ _ h1).w hx |>.more (cellsAt b5 0 [vi (((pinsO x.a).take c.length).foldl gapS ([], f)).2] ++ (cellsAt r4 0 [vi f, vi t, vi tp] ++ (cellsAt q3 0 [y] ++ cellsAt q2 0 [ptr0 p])))).perm ?_
    simp only [List.flatten_cons, List.flatten_nil, List.append_nil]
    rw [← List.append_assoc (cellsAt q3 0 [y]), ← List.append_assoc (cellsAt r4 0 _), ← List.append_assoc (cellsAt b5 0 _)]
    exact List.perm_append_comm
  · exact Imp.perm (by simp)
  · rintro c u A' hok ⟨A1, h1, rfl⟩
    obtain ⟨X1, z2⟩ := hJA _ _ h1
    obtain ⟨t1, ht1⟩ := hok
    have hu : (roomL x.a 5)[c.length]? = some u := by rw [← ht1]; simp
    rw [← pins_room, List.getElem?_map] at hu
    obtain ⟨b, hb, rfl⟩ := Option.map_eq_some_iff.1 hu
    have hbm : b ∈ x.a.obs := (List.mem_filter.1 (List.mem_of_getElem? hb)).1
    have hgo := getO_mem hx.lay.sort hbm
    have hrb := hx.range hbm
    have hat := at_spec p x hx (8 * b.at_) (by omega)
    rw [show getO x.a.obs (8 * b.at_) = some b from hgo, show wordO (8 * b.at_) = b.at_ from (hx.word (o := 8 * b.at_) hgo).1] at hat
    have hhd := (hx.lay.head b hbm).2
    have hatl := hx.lay.at_lt hbm
    have hhigh := hx.lay.high b hbm
    have hm1 : Atom.cell p 0 (.slice (some ⟨x.wb, 0, none⟩) x.ws.length x.ws.length) ∈ A1 := z2.mem_iff.2 (List.mem_append_left _ (by simp [HA, HMem, arrV, cellsAt]))
    have hm2 : Atom.cell x.wb (b.at_ + 1) (uv b.hd.slots) ∈ A1 := z2.mem_iff.2 (List.mem_append_left _ (ha_mem hhd))
    obtain ⟨g, hg⟩ : ∃ g, g = ((pinsO x.a).take c.length).foldl gapS ([], f) := ⟨_, rfl⟩
    have hstep : ((pinsO x.a).take (c ++ [b.at_]).length).foldl gapS ([], f) = gapS g b := by
      rw [List.length_append, List.length_singleton, List.take_add_one, hb, List.foldl_append, ← hg]; rfl
    have hpre : pinsO x.a = (pinsO x.a).take c.length ++ b :: (pinsO x.a).drop (c.length + 1) := by
      have hl := (List.getElem?_eq_some_iff.1 hb).1
      have := (List.getElem?_eq_some_iff.1 hb).2
      rw [← this, ← List.drop_eq_getElem_cons hl, List.take_append_drop]
    simp only [bindE, hstep]
    rw [← hg] at h1 ⊢
    have hgb : g.2 < 4194304 := by
      rcases foldG_last ((pinsO x.a).take c.length) ([], f) with h | ⟨d, hd, h⟩
      · rw [hg, h]; simp only; omega
      · rw [hg, h]
        have := hx.lay.high d (List.mem_filter.1 (List.mem_of_mem_take hd)).1
        omega
    refine VC.imp (H' := [cellsAt b5 0 [vi g.2], cellsAt r4 0 [vi f, vi t, vi tp], cellsAt q3 0 [y], cellsAt q2 0 [ptr0 p], A1]) (Imp.perm (by simp)) ?_
    refine VC.reg ?_
    refine GOH ?_
    refine ⟨trivial, ?_⟩
    refine GOH ?_
    refine VO.imp (H' := [HA p x, cellsAt b5 0 [vi g.2], cellsAt r4 0 [vi f, vi t, vi tp], cellsAt q3 0 [y], cellsAt q2 0 [ptr0 p], TZ ++ X1]) (Imp.perm ?_) ?_
    · simp only [List.flatten_cons, List.flatten_nil, List.append_nil]
      generalize cellsAt b5 0 _ = B1
      generalize cellsAt r4 0 _ = B2
      generalize cellsAt q3 0 _ = B3
      generalize cellsAt q2 0 _ = B4
      refine ((((z2.append_left B4).append_left B3).append_left B2).append_left B1).trans ?_
      have e : B1 ++ (B2 ++ (B3 ++ (B4 ++ (HA p x ++ (TZ ++ X1))))) = (B1 ++ (B2 ++ (B3 ++ B4))) ++ (HA p x ++ (TZ ++ X1)) := by simp [List.append_assoc]
      have e2 : HA p x ++ (B1 ++ (B2 ++ (B3 ++ (B4 ++ (TZ ++ X1))))) = HA p x ++ ((B1 ++ (B2 ++ (B3 ++ B4))) ++ (TZ ++ X1)) := by simp [List.append_assoc]
      rw [e, e2]
      exact perm_lead _ _ _
    refine st_callS hat (by rfl) .here ?_
    refine VO.imp (H' := [cellsAt b5 0 [vi g.2], cellsAt r4 0 [vi f, vi t, vi tp], cellsAt q3 0 [y], cellsAt q2 0 [ptr0 p], A1]) (Imp.perm ?_) ?_
    · simp only [List.flatten_cons, List.flatten_nil, List.append_nil]
      generalize cellsAt b5 0 _ = B1
      generalize cellsAt r4 0 _ = B2
      generalize cellsAt q3 0 _ = B3
      generalize cellsAt q2 0 _ = B4
      refine List.Perm.trans ?_ ((((z2.symm.append_left B4).append_left B3).append_left B2).append_left B1)
      have e : B1 ++ (B2 ++ (B3 ++ (B4 ++ (HA p x ++ (TZ ++ X1))))) = (B1 ++ (B2 ++ (B3 ++ B4))) ++ (HA p x ++ (TZ ++ X1)) := by simp [List.append_assoc]
      have e2 : HA p x ++ (B1 ++ (B2 ++ (B3 ++ (B4 ++ (TZ ++ X1))))) = HA p x ++ ((B1 ++ (B2 ++ (B3 ++ B4))) ++ (TZ ++ X1)) := by simp [List.append_assoc]
      rw [e, e2]
      exact perm_lead _ _ _
    refine GOH ?_
    have hwr : IntKind.i64.wrap ((b.at_ : Int) + 2 + IntKind.i64.wrap (b.hd.slots : Int)) = ((b.stop : Nat) : Int) := by
      unfold Ob.stop at hhigh ⊢
      rw [wrapI (n := b.hd.slots) (by omega), show ((b.at_ : Int) + 2 + (b.hd.slots : Int)) = ((b.at_ + 2 + b.hd.slots : Nat) : Int) by omega, wrapI (by omega)]
    by_cases hlt : g.2 < b.at_
    · have hok2 := gaps_ok (a := x.a) (k := c.length) hpre (g := g) (by rw [hf]; exact hg.symm) hlt
      have hgs : (gapS g b).1 = g.1 ++ [(g.2, b.at_ - g.2)] := by unfold gapS; rw [if_pos hlt]
      rw [show decide ((g.2 : Int) < (b.at_ : Int)) = true from decide_eq_true (by omega)]
      refine GOH ?_
      rw [show ((b.at_ : Int) - (g.2 : Int)) = ((b.at_ - g.2 : Nat) : Int) by omega]
      refine st_callV (by rfl) (hy _ (g.2, b.at_ - g.2) A1 hok2 h1) (by rfl) (by exact SPx) (fun v Post hv => ?_)
      rcases hv with ⟨rfl, A', hA', rfl⟩ | ⟨rfl, B', hB', rfl⟩
      rotate_left
      · simp only [CNx]
        refine GOH ?_
        exact endQ_mk (.inr rfl) .nil ⟨rfl, .inr ⟨_, B', hok2, hB', rfl⟩⟩ (by exact IMx)
      clear hm1 hm2
      obtain ⟨X3, z3⟩ := hJA _ _ hA'
      have hm1 : Atom.cell p 0 (.slice (some ⟨x.wb, 0, none⟩) x.ws.length x.ws.length) ∈ A' := z3.mem_iff.2 (List.mem_append_left _ (by simp [HA, HMem, arrV, cellsAt]))
      have hm2 : Atom.cell x.wb (b.at_ + 1) (uv b.hd.slots) ∈ A' := z3.mem_iff.2 (List.mem_append_left _ (ha_mem hhd))
      simp only [CNx]
      refine GOH ?_
      rw [← hgs] at hA'
      rw [hwr]
      refine ⟨_, ⟨A', hA', rfl⟩, Imp.cut (M := [cellsAt b5 0 [vi b.stop], cellsAt r4 0 [vi f, vi t, vi tp], cellsAt q3 0 [y], cellsAt q2 0 [ptr0 p], A']) (by exact IMx) (Imp.perm (by rw [show (gapS g b).2 = b.stop from rfl]; simp))⟩
    · have hgs : (gapS g b).1 = g.1 := by unfold gapS; rw [if_neg hlt]
      rw [show decide ((g.2 : Int) < (b.at_ : Int)) = false from decide_eq_false (by omega)]
      refine GOH ?_
      rw [← hgs] at h1
      rw [hwr]
      refine ⟨_, ⟨A1, h1, rfl⟩, Imp.cut (M := [cellsAt b5 0 [vi b.stop], cellsAt r4 0 [vi f, vi t, vi tp], cellsAt q3 0 [y], cellsAt q2 0 [ptr0 p], A1]) (by exact IMx) (Imp.perm (by rw [show (gapS g b).2 = b.stop from rfl]; simp))⟩
  · rintro full A' hfull ⟨A1, h1, rfl⟩
    subst hfull
    rw [hlen.symm, List.take_length] at h1 ⊢
    obtain ⟨g, hg⟩ : ∃ g, g = (pinsO x.a).foldl gapS ([], f) := ⟨_, rfl⟩
    have hgA : gapsA x.a = endG t g := by unfold gapsA; rw [hf, ht, ← hg]
    rw [← hg] at h1 ⊢
    have hgb : g.2 < 4194304 := by
      rcases foldG_last (pinsO x.a) ([], f) with h | ⟨d, hd, h⟩
      · rw [hg, h]; simp only; omega
      · rw [hg, h]
        have := hx.lay.high d (List.mem_filter.1 hd).1
        omega
    simp only [List.nil_append, V.blockQ, V.thenQ]
    refine VC.imp (H' := [cellsAt b5 0 [vi g.2], cellsAt r4 0 [vi f, vi t, vi tp], cellsAt q3 0 [y], cellsAt q2 0 [ptr0 p], A1]) (Imp.perm (by simp)) ?_
    refine GOH ?_
    by_cases hlt : g.2 < t
    · have hend : endG t g = g.1 ++ [(g.2, t - g.2)] := by unfold endG; rw [if_pos hlt]
      rw [show decide ((g.2 : Int) < (t : Int)) = true from decide_eq_true (by omega)]
      refine GOH ?_
      rw [show ((t : Int) - (g.2 : Int)) = ((t - g.2 : Nat) : Int) by omega]
      have hok2 : OkC (fun full => full = gapsA x.a) (g.1 ++ [(g.2, t - g.2)]) := ⟨[], by rw [hgA, hend]; simp⟩
      refine st_callV (by rfl) (hy _ (g.2, t - g.2) A1 hok2 h1) (by rfl) (by exact SPx) (fun v Post hv => ?_)
      rcases hv with ⟨rfl, A', hA', rfl⟩ | ⟨rfl, B', hB', rfl⟩
      · simp only [CNx]
        refine GOH ?_
        exact endQ_mk (.inl rfl) .nil ⟨rfl, .inl ⟨_, A', rfl, by rw [hgA, hend]; exact hA', rfl⟩⟩ (by exact IMx)
      · simp only [CNx]
        refine GOH ?_
        exact endQ_mk (.inl rfl) .nil ⟨rfl, .inr ⟨_, B', hok2, hB', rfl⟩⟩ (by exact IMx)
    · have hend : endG t g = g.1 := by unfold endG; rw [if_neg hlt]
      rw [show decide ((g.2 : Int) < (t : Int)) = false from decide_eq_false (by omega)]
      refine GOH ?_
      exact endQ_mk (.inl rfl) .nil ⟨rfl, .inl ⟨_, A1, rfl, by rw [hgA, hend]; exact h1, rfl⟩⟩ (by exact IMx)
end Go.Proofs.YtmlnoodopoaafaaDoor

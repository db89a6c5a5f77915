/-
  A full collection: its first half: what is alive is kept, what is dead is freed.
-/
import Derived.Test.YtmlnoodopoaafaaDoorH8
import Derived.Test.YtmlnoodopoaafaaDoorV10
import Derived.Test.YtmlnoodopoaafaaDoorH7
import Derived.Test.YtmlnoodopoaafaaDoorH5
set_option linter.unusedSimpArgs false
set_option linter.unusedVariables false
namespace Go.V
open Go
def ms0 (a : AH) : MS := ⟨a, rootedA a, [], []⟩
theorem ra_lv (q p : Nat) (y : RW) : Atom.cell q 1 y.lv ∈ RA q p y ∧ Atom.cell q 3 y.fv ∈ RA q p y := by
  simp [RA, RMem, cellsAt]
end Go.V
namespace Go.Proofs.YtmlnoodopoaafaaDoor
open Go Go.V
set_option maxHeartbeats 6400000
set_option maxRecDepth 100000
def Cleared (s s' : MS) : Prop := ∃ obs, s' = { s with a := { s.a with obs := obs } }
theorem Cleared.refl (s : MS) : Cleared s s := ⟨s.a.obs, rfl⟩
theorem clrI_keep (n o : Nat) (st : MS × Nat) (i : Nat) (s : MS) (h : Cleared s st.1) : Cleared s (clrI n o st i).1 := by
  obtain ⟨obs, e⟩ := h
  unfold clrI
  split
  · split
    · exact ⟨_, by simp only [slotA]; rw [e]⟩
    · exact ⟨obs, e⟩
  · exact ⟨obs, e⟩
theorem clrIs_keep (n o : Nat) (s : MS) : ∀ (l : List Nat) (st : MS × Nat), Cleared s st.1 → Cleared s (l.foldl (clrI n o) st).1
  | [], _, h => h
  | i :: l, st, h => clrIs_keep n o s l _ (clrI_keep n o st i s h)
theorem clrO_keep (n : Nat) (s : MS) (st : MS × Nat) (w : Nat) (h : Cleared s st.1) : Cleared s (clrO n st w).1 := by
  unfold clrO
  split
  · split
    · exact clrIs_keep n _ s _ _ h
    · exact h
  · exact h
theorem clrOs_keep (n : Nat) (s : MS) : ∀ (l : List Nat) (st : MS × Nat), Cleared s st.1 → Cleared s (l.foldl (clrO n) st).1
  | [], _, h => h
  | w :: l, st, h => clrOs_keep n s l _ (clrO_keep n s st w h)
theorem clearM_keep (s : MS) : Cleared s (clearM s).1 := clrOs_keep _ s _ _ (.refl s)
structure RunOk (s : MS) : Prop where
  clr : ClrOk s.a (s.a.sp.headD 0)
  nt : ∀ b ∈ (clearM s).1.a.obs, b.hd.noted = true → b.oop ∈ s.line
  ah : s.a.ahead = []
def keptA (s : MS) : AH := markA (aliveA (clearM s).1) []
def firedA (d : AH) (now l : List Nat) : List Nat := l.map (goneTo (placeA (roomL d 4) l) (now.map (8 * ·)))
theorem run_spec (p : Nat) (x : HW) (hx : HOk x) (hok : ∀ s, MEnd (ms0 x.a) s → RunOk s) :
    Fun Tryd.prog 21 [ptr0 p] [HA p x, TZ] (fun v Post => ∃ (s : MS) (z : HW) (fv : Value) (fs : List Value), (MEnd (ms0 x.a) s ∧ v = .agg #[vi s.line.length, vi (goneM (clearM s).1).length, vi 0, vi (slideM (keptA s)).length, vi (clearM s).2, fv] ∧
      HOk z ∧ z.a = slideA (keptA s) ∧ IsSl 1 fv (firedA (keptA s) (roomL z.a 4) s.fired).length ((firedA (keptA s) (roomL z.a 4) s.fired).map uv) fs ∧ ∃ x' : HW, HOk x' ∧ x'.a = keptA s) ∧ Post = [slA fv ((firedA (keptA s) (roomL z.a 4) s.fired).map uv) fs, HA p z, TZ]) := by
  refine Fun.intro low21 (by simp [n21]) ?_
  show VC Tryd.prog 100 _ _ _ _
  refine VC.seq_reg ?_
  refine st_box (by rfl) (fun k1 => ?_)
  refine st_alloc (fun k2 => ?_)
  simp only [Value.cells]
  refine GOH ?_
  refine st_call (unmark_spec p k1 x hx) (by rfl) (by exact SPx) (fun v Post hv => ?_)
  obtain ⟨z0, ⟨rfl, h1, h2⟩, rfl⟩ := hv
  simp only [CNx]
  refine GOH ?_
  refine st_box (by rfl) (fun q => ?_)
  simp only [Value.cells]
  refine GOH ?_
  obtain ⟨y0, hy0⟩ : ∃ y0 : RW, y0 = ⟨⟨x.a, [], [], []⟩, z0, .slice none 0 0, .slice none 0 0, .slice none 0 0, [], [], []⟩ := ⟨_, rfl⟩
  have ok0 : ROk y0 := by
    rw [hy0]
    exact ⟨h1, h2, ⟨.nil, fun o ho => (by cases ho), fun o ho => (by cases ho)⟩, .nil, .nil, .nil⟩
  have hf0 : Imp [cellsAt q 0 [ptr0 p, .slice none 0 0, .slice none 0 0, .slice none 0 0], HA p z0, cellsAt k1 0 [ptr0 p], TZ, cellsAt k2 0 [vi 0, vi 0, vi 0, vi 0, vi 0, .slice none 0 0]] [RA q p y0, cellsAt k1 0 [ptr0 p], TZ, cellsAt k2 0 [vi 0, vi 0, vi 0, vi 0, vi 0, .slice none 0 0]] := by
    refine Imp.cut (M := RMem q p y0 ++ [cellsAt k1 0 [ptr0 p], TZ, cellsAt k2 0 [vi 0, vi 0, vi 0, vi 0, vi 0, .slice none 0 0]]) ?_ (ra_ins q p y0 _)
    rw [hy0]
    simp only [RMem, slA, List.map_nil]
    exact Imp.perm (by simp)
  have hma := markAll_spec q p y0 ok0 (by rw [hy0]) (by rw [hy0])
  have hs1 : ({ y0.s with line := (rootsA y0.x.a).foldl (meetA y0.s.a) y0.s.line } : MS) = ms0 x.a := by
    rw [hy0]
    simp only
    rw [h2]
    rfl
  rw [hs1] at hma
  refine VO.imp (Imp.cut (by show Imp _ [cellsAt q 0 [ptr0 p, .slice none 0 0, .slice none 0 0, .slice none 0 0], HA p z0, cellsAt k1 0 [ptr0 p], TZ, cellsAt k2 0 [.int .i64 0, .int .i64 0, .int .i64 0, .int .i64 0, .int .i64 0, .slice none 0 0]]; exact IMx) hf0) ?_
  refine st_call hma (by rfl) (by exact SPx) (fun v Post hv => ?_)
  obtain ⟨y, ⟨rfl, m1, m2, m3⟩, rfl⟩ := hv
  simp only [CNx]
  have hr := hok y.s m3
  have hcl := clear_spec q p y m1 hr.clr
  obtain ⟨la, lc, hlk⟩ := m1.l.form
  obtain ⟨hlv, _⟩ := ra_lv q p y
  rw [hlk] at hlv
  have hll := m1.line
  obtain ⟨obs, hkeep⟩ := clearM_keep y.s
  refine GOH ?_
  refine VC.seq_draws (α := RW × Nat) (fun s => [(1, ptr0 k1), (2, ptr0 k2), (3, ptr0 q), (4, ptr0 s.2)]) (fun s => [cellsAt s.2 0 [vi y.s.line.length, vi 0, vi 0, vi 0, vi (clearM y.s).2, .slice none 0 0], cellsAt k1 0 [ptr0 p], cellsAt k2 0 [vi 0, vi 0, vi 0, vi 0, vi 0, .slice none 0 0], RA q p s.1, TZ])
    (fun s => ROk s.1 ∧ s.1.s = (clearM y.s).1) ⟨?_, ?_, ?_, ?_, ?_, ?_, trivial⟩ (fun s hs => ?_)
  rotate_right
  · obtain ⟨w, k4⟩ := s
    obtain ⟨c1, cl1⟩ := hs
    simp only at c1 cl1 ⊢
    have hline : w.s.line = y.s.line := by rw [cl1, hkeep]
    have hfired : w.s.fired = y.s.fired := by rw [cl1, hkeep]
    have hsw := sweep_spec q p w c1 (fun b hb hn => by
      rw [hline]
      rw [cl1] at hb
      exact hr.nt b hb hn)
    obtain ⟨i, hst, hie, hwt, hfl⟩ := id m3
    refine GOH ?_
    refine st_call hsw (by rfl) (by exact SPx) (fun v Post hv => ?_)
    obtain ⟨x', ⟨rfl, w1, w2⟩, rfl⟩ := hv
    simp only [CNx]
    rw [cl1] at w2 ⊢
    have hff : IsSl 1 w.fv y.s.fired.length (y.s.fired.map uv) w.fs := by rw [← hfired]; exact c1.f
    refine GOH ?_
    refine st_mkmap (fun mb => ?_)
    refine GOH ?_
    refine st_alloc (fun k5 => ?_)
    have hsame : (clearM y.s).1.fired = y.s.fired := by rw [hkeep]
    rw [hsame]
    obtain ⟨fa, fc, hfk⟩ := hff.form
    rw [hfk]
    rw [hfk] at hff
    have hfrd := hff.rdU
    obtain ⟨fa', fc', hfe, hfrd⟩ := hfrd
    obtain ⟨rfl, rfl⟩ : fa = fa' ∧ fc = fc' := by simpa using hfe
    generalize hF : slA (.slice fa y.s.fired.length fc) (y.s.fired.map uv) w.fs = F at hfrd ⊢
    generalize hL1 : slA w.lv _ w.ls = L1
    generalize hL2 : slA w.wv _ w.vs = L2
    refine GOH ?_
    obtain ⟨d, hd⟩ : ∃ d, d = keptA y.s := ⟨_, rfl⟩
    have hxd : x'.a = d := by rw [hd]; exact w2
    have hah : x'.a.ahead = [] := by
      rw [w2]
      show (clearM y.s).1.a.ahead = []
      rw [hkeep]; exact hr.ah
    generalize hcl5 : cellsAt k4 0 _ = K4
    generalize hcq : cellsAt q 0 _ = KQ
    refine VC.loop (α := Nat × Array MapEntry × Nat) (Γf := fun s => [(1, ptr0 k1), (2, ptr0 k2), (3, ptr0 q), (4, ptr0 k4), (5, ptr0 k5), (40, .slice fa y.s.fired.length fc), (41, vi y.s.fired.length), (42, vi s.1)]) (Hf := fun s => [cellsAt k5 0 [.map (some mb)], [.obj mb (.map s.2.1 s.2.2)], KQ, L1, L2, F, HA p x', TZ, K4, cellsAt k1 0 [ptr0 p], cellsAt k2 0 [vi 0, vi 0, vi 0, vi 0, vi 0, .slice none 0 0]])
      (I := fun s => s.1 ≤ y.s.fired.length ∧ MapIs kU vI s.2.1 s.2.2 ((y.s.fired.take s.1).foldl noPl [])) (μ := fun s => y.s.fired.length - s.1) (0, #[], 0) ⟨Nat.zero_le _, .nil⟩ (by exact SUx) (by exact IMx) ?_
    rintro ⟨i1, es, mc⟩ ⟨j1, j2⟩
    simp only at j1 j2 ⊢
    refine GOH ?_
    by_cases hlt : i1 < y.s.fired.length
    · rw [show decide ((i1 : Int) < (y.s.fired.length : Int)) = true from decide_eq_true (by omega)]
      obtain ⟨o, ho⟩ : ∃ o, y.s.fired[i1]? = some o := ⟨_, List.getElem?_eq_getElem hlt⟩
      obtain ⟨bb, oo, rfl, hm1⟩ := hfrd i1 o ho
      refine GOH ?_
      refine st_mapupd (E := kU) (V := vI) (k := o) (v := -1) (by rfl) (by rfl) (by rfl) rfl (by exact TKx) j2 (fun es' mc' hm' => ?_)
      refine GOH ?_
      refine ⟨(i1 + 1, es', mc'), ⟨by simp only; omega, ?_⟩, by simp only; omega, by exact SUx, by exact IMx⟩
      simp only
      rw [foldl_take ho]; exact hm'
    rw [show decide ((i1 : Int) < (y.s.fired.length : Int)) = false from decide_eq_false (by omega)]
    rw [List.take_of_length_le (by omega)] at j2
    refine GOH ?_
    refine st_alloc (fun k8 => ?_)
    refine GOH ?_
    refine st_call (walk_spec p 4) (by rfl) Spl.nil (fun v Post hv => ?_)
    obtain ⟨q1, q2, rfl, rfl⟩ := hv
    simp only [CNx]
    refine GOH ?_
    have hW : (roomL d 4).length < 4194304 := by
      rw [← hxd]
      have h1 := nodup_le ((roomL_sort w1 4).imp (fun h => by omega)) (m := atsA x'.a) (fun w hw => (List.mem_filter.1 hw).1)
      have h2 := w1.few_obs
      simp only [atsA, List.length_map] at h1
      omega
    refine VC.rangefA (fun c A => ∃ (es' : Array MapEntry) (mc' : Nat), MapIs kU vI es' mc' (c.foldl plS (y.s.fired.foldl noPl [], 0)).1 ∧ A = [HA p x', TZ, cellsAt k8 0 [vi c.length], cellsAt k5 0 [.map (some mb)], [.obj mb (.map es' mc')], KQ, L1, L2, F, K4, cellsAt k1 0 [ptr0 p], cellsAt k2 0 [vi 0, vi 0, vi 0, vi 0, vi 0, .slice none 0 0]].flatten)
      ([HA p x', TZ, cellsAt k8 0 [vi 0], cellsAt k5 0 [.map (some mb)], [.obj mb (.map es mc)], KQ, L1, L2, F, K4, cellsAt k1 0 [ptr0 p], cellsAt k2 0 [vi 0, vi 0, vi 0, vi 0, vi 0, .slice none 0 0]].flatten) (by rfl) (walk_iter p q1 q2 4 x' w1 (by omega) (by omega)) (fun A B h => h.more B) ?_
      (R := [cellsAt k8 0 [.int .i64 0], cellsAt k5 0 [.map (some mb)], [.obj mb (.map es mc)], KQ, L1, L2, F, HA p x', TZ, K4, cellsAt k1 0 [ptr0 p], cellsAt k2 0 [vi 0, vi 0, vi 0, vi 0, vi 0, .slice none 0 0]]) (by exact SPx) ?_ ⟨es, mc, j2, rfl⟩ (fun _ => rfl) ?_ ?_
    · rintro c A ⟨es', mc', _, rfl⟩
      exact ⟨x', [cellsAt k8 0 [vi c.length], cellsAt k5 0 [.map (some mb)], [.obj mb (.map es' mc')], KQ, L1, L2, F, K4, cellsAt k1 0 [ptr0 p], cellsAt k2 0 [vi 0, vi 0, vi 0, vi 0, vi 0, .slice none 0 0]].flatten, by simp [List.append_assoc], w1, rfl, rfl, rfl⟩
    · exact Imp.cut (M := [HA p x', TZ, cellsAt k8 0 [.int .i64 0], cellsAt k5 0 [.map (some mb)], [.obj mb (.map es mc)], KQ, L1, L2, F, K4, cellsAt k1 0 [ptr0 p], cellsAt k2 0 [vi 0, vi 0, vi 0, vi 0, vi 0, .slice none 0 0]]) (by exact IMx) (Imp.perm (by simp))
    · rintro c w' A hok' ⟨es', mc', g1, rfl⟩
      have hcl' : c.length < 4194304 := by
        obtain ⟨r, hr'⟩ := hok'
        rw [← hxd] at hW
        rw [← hr'] at hW
        simp only [List.length_append] at hW; omega
      have hps := plS_snd c (y.s.fired.foldl noPl [], 0)
      simp only [Nat.zero_add] at hps
      have hst : (c ++ [w']).foldl plS (y.s.fired.foldl noPl [], 0) = plS (c.foldl plS (y.s.fired.foldl noPl [], 0)) w' := by rw [List.foldl_append]; rfl
      simp only [bindE]
      refine VC.imp (H' := [HA p x', TZ, cellsAt k8 0 [vi c.length], cellsAt k5 0 [.map (some mb)], [.obj mb (.map es' mc')], KQ, L1, L2, F, K4, cellsAt k1 0 [ptr0 p], cellsAt k2 0 [vi 0, vi 0, vi 0, vi 0, vi 0, .slice none 0 0]]) (Imp.perm (by simp)) ?_
      refine VC.reg ?_
      refine GOH ?_
      refine ⟨trivial, ?_⟩
      refine GOH ?_
      refine st_lookup (E := kU) (V := vI) (k := 8 * w') (by rfl) (by rfl) rfl (by (focus ((repeat (first | with_reducible exact HasO.here | apply HasO.there)); done))) g1 ?_
      cases hg : mget (8 * w') (c.foldl plS (y.s.fired.foldl noPl [], 0)).1 with
      | none =>
        simp only [lookV, Option.map_none, if_true]
        refine GOH ?_
        refine ⟨_, ⟨es', mc', ?_, rfl⟩, Imp.cut (M := [HA p x', TZ, cellsAt k8 0 [vi (c ++ [w']).length], cellsAt k5 0 [.map (some mb)], [.obj mb (.map es' mc')], KQ, L1, L2, F, K4, cellsAt k1 0 [ptr0 p], cellsAt k2 0 [vi 0, vi 0, vi 0, vi 0, vi 0, .slice none 0 0]]) ?_ (Imp.perm (by simp))⟩
        · rw [hst, plS_none hg]
          exact g1
        · rw [List.length_append, List.length_singleton, show ((c.length + 1 : Nat) : Int) = (c.length : Int) + 1 from rfl]
          exact IMx
      | some u =>
        simp only [lookV, Option.map_some, if_true]
        refine GOH ?_
        refine st_mapupd (E := kU) (V := vI) (k := 8 * w') (v := (c.length : Int)) (by rfl) (by rfl) (by rfl) rfl (by exact TKx) g1 (fun es2 mc2 hm2 => ?_)
        refine GOH ?_
        refine ⟨_, ⟨es2, mc2, ?_, rfl⟩, Imp.cut (M := [HA p x', TZ, cellsAt k8 0 [vi (c ++ [w']).length], cellsAt k5 0 [.map (some mb)], [.obj mb (.map es2 mc2)], KQ, L1, L2, F, K4, cellsAt k1 0 [ptr0 p], cellsAt k2 0 [vi 0, vi 0, vi 0, vi 0, vi 0, .slice none 0 0]]) ?_ (Imp.perm (by simp))⟩
        · rw [hst, plS_some hg, hps]
          exact hm2
        · rw [List.length_append, List.length_singleton, show ((c.length + 1 : Nat) : Int) = (c.length : Int) + 1 from rfl]
          exact IMx
    rintro full A hfu ⟨es', mc', g1, rfl⟩
    subst hfu
    have hpl : (roomL x'.a 4).foldl plS (y.s.fired.foldl noPl [], 0) = (placeA (roomL d 4) y.s.fired, ((roomL x'.a 4).foldl plS (y.s.fired.foldl noPl [], 0)).2) := by
      unfold placeA; rw [hxd]
    rw [hpl] at g1
    simp only at g1
    simp only [List.nil_append, V.blockQ, V.thenQ]
    refine VC.imp (H' := [HA p x', TZ, cellsAt k8 0 [vi (roomL x'.a 4).length], cellsAt k5 0 [.map (some mb)], [.obj mb (.map es' mc')], KQ, L1, L2, F, K4, cellsAt k1 0 [ptr0 p], cellsAt k2 0 [vi 0, vi 0, vi 0, vi 0, vi 0, .slice none 0 0]]) (Imp.perm (by simp)) ?_
    have hsl := slide_spec p x' w1 hah
    refine GOH ?_
    refine st_call hsl (by rfl) (by exact SPx) (fun v Post hv => ?_)
    obtain ⟨zz, ⟨rfl, z1, z2⟩, rfl⟩ := hv
    simp only [CNx]
    rw [hxd] at z2
    rw [hxd]
    have hnl : (roomL zz.a 4).length = (roomL d 4).length := by rw [← hxd]; exact slide_room w1 (by rw [z2, hxd])
    subst hcl5
    subst hcq
    refine GOH ?_
    refine st_alloc (fun k12 => ?_)
    refine GOH ?_
    refine st_call (walk_spec p 4) (by rfl) Spl.nil (fun v Post hv => ?_)
    obtain ⟨q3, q4, rfl, rfl⟩ := hv
    simp only [CNx]
    generalize hcl5 : cellsAt k4 0 _ = K4
    generalize hcq : cellsAt q 0 _ = KQ
    refine GOH ?_
    refine VC.rangefA (fun c A => ∃ (sv : Value) (sp : List Value), IsSl 1 sv c.length ((c.map (8 * ·)).map uv) sp ∧ A = [HA p zz, TZ, cellsAt k12 0 [sv], slA sv ((c.map (8 * ·)).map uv) sp, cellsAt k5 0 [.map (some mb)], [.obj mb (.map es' mc')], KQ, F, K4, cellsAt k2 0 [vi 0, vi 0, vi 0, vi 0, vi 0, .slice none 0 0]].flatten)
      ([HA p zz, TZ, cellsAt k12 0 [.slice none 0 0], cellsAt k5 0 [.map (some mb)], [.obj mb (.map es' mc')], KQ, F, K4, cellsAt k2 0 [vi 0, vi 0, vi 0, vi 0, vi 0, .slice none 0 0]].flatten) (by rfl) (walk_iter p q3 q4 4 zz z1 (by omega) (by omega)) (fun A B h => h.more B) ?_
      (R := [cellsAt k12 0 [.slice none 0 0], HA p zz, TZ, cellsAt k8 0 [vi (roomL d 4).length], cellsAt k5 0 [.map (some mb)], [.obj mb (.map es' mc')], KQ, L1, L2, F, K4, cellsAt k1 0 [ptr0 p], cellsAt k2 0 [vi 0, vi 0, vi 0, vi 0, vi 0, .slice none 0 0]]) (by exact SPx) ?_ ⟨.slice none 0 0, [], .nil, by simp [slA]⟩ (fun _ => rfl) ?_ ?_
    · rintro c A ⟨sv, sp, _, rfl⟩
      exact ⟨zz, [cellsAt k12 0 [sv], slA sv ((c.map (8 * ·)).map uv) sp, cellsAt k5 0 [.map (some mb)], [.obj mb (.map es' mc')], KQ, F, K4, cellsAt k2 0 [vi 0, vi 0, vi 0, vi 0, vi 0, .slice none 0 0]].flatten, by simp [List.append_assoc], z1, rfl, rfl, rfl⟩
    · exact Imp.cut (M := [HA p zz, TZ, cellsAt k12 0 [.slice none 0 0], cellsAt k5 0 [.map (some mb)], [.obj mb (.map es' mc')], KQ, F, K4, cellsAt k2 0 [vi 0, vi 0, vi 0, vi 0, vi 0, .slice none 0 0]]) (by exact IMx) (Imp.perm (by simp))
    · rintro c w' A hok' ⟨sv, sp, g2, rfl⟩
      have hcl' : c.length < 4194304 := by
        obtain ⟨r, hr'⟩ := hok'
        rw [← hnl, ← hr'] at hW
        simp only [List.length_append] at hW; omega
      simp only [bindE]
      refine VC.imp (H' := [HA p zz, TZ, cellsAt k12 0 [sv], slA sv ((c.map (8 * ·)).map uv) sp, cellsAt k5 0 [.map (some mb)], [.obj mb (.map es' mc')], KQ, F, K4, cellsAt k2 0 [vi 0, vi 0, vi 0, vi 0, vi 0, .slice none 0 0]]) (Imp.perm (by simp)) ?_
      obtain ⟨sa, sc, rfl⟩ := g2.form
      refine VC.reg ?_
      refine GOH ?_
      refine ⟨trivial, ?_⟩
      refine GOH ?_
      refine st_bslice (out := [uv (8 * w')]) (by rfl) (by rfl) (fun q5 => ?_)
      refine st_appU (xs := c.map (8 * ·)) (ys := [8 * w']) (sp := sp) (by rfl) (by rfl) (by rw [List.length_map]; exact g2) (by exact TKx) (srcU_lit (fun y hy => by simp only [List.flatten_cons, List.mem_append]; exact .inl hy)) (by simp only [List.length_map, List.length_singleton]; omega) (fun sv' sp' hsl' => ?_)
      have e8 : c.map (8 * ·) ++ [8 * w'] = (c ++ [w']).map (8 * ·) := by simp
      rw [e8] at hsl' ⊢
      obtain ⟨a', c', rfl⟩ := hsl'.form
      refine GOH ?_
      refine ⟨_, ⟨_, sp', by rw [List.length_map] at hsl'; exact hsl', rfl⟩, ?_⟩
      rw [List.length_map]
      exact Imp.cut (M := [HA p zz, TZ, cellsAt k12 0 [.slice a' (c ++ [w']).length c'], slA (.slice a' (c ++ [w']).length c') (((c ++ [w']).map (8 * ·)).map uv) sp', cellsAt k5 0 [.map (some mb)], [.obj mb (.map es' mc')], KQ, F, K4, cellsAt k2 0 [vi 0, vi 0, vi 0, vi 0, vi 0, .slice none 0 0]]) (by exact IMx) (Imp.perm (by simp))
    rintro full A hfu ⟨sv, sp, g2, rfl⟩
    subst hfu
    simp only [List.nil_append, V.blockQ, V.thenQ]
    have hnrd := IsSl.rdU (xs := (roomL zz.a 4).map (8 * ·)) (by rw [List.length_map]; exact g2)
    obtain ⟨na, nc, rfl, hnrd⟩ := hnrd
    rw [List.length_map] at hnrd g2 ⊢
    refine VC.imp (H' := [HA p zz, TZ, cellsAt k12 0 [.slice na (roomL zz.a 4).length nc], slA (.slice na (roomL zz.a 4).length nc) (((roomL zz.a 4).map (8 * ·)).map uv) sp, cellsAt k5 0 [.map (some mb)], [.obj mb (.map es' mc')], KQ, F, K4, cellsAt k2 0 [vi 0, vi 0, vi 0, vi 0, vi 0, .slice none 0 0]]) (Imp.perm (by simp)) ?_
    generalize hNW : slA (.slice na (roomL zz.a 4).length nc) (((roomL zz.a 4).map (8 * ·)).map uv) sp = NW at hnrd ⊢
    subst hcl5
    subst hcq
    refine GOH ?_
    obtain ⟨pl, hplq⟩ : ∃ pl, pl = placeA (roomL d 4) y.s.fired := ⟨_, rfl⟩
    obtain ⟨nw, hnw⟩ : ∃ nw, nw = (roomL zz.a 4).map (8 * ·) := ⟨_, rfl⟩
    rw [← hplq] at g1
    rw [← hnw] at hnrd
    have hpllt := placeA_lt (roomL d 4) y.s.fired
    rw [← hplq, ← hnl] at hpllt
    have hnwl : nw.length = (roomL zz.a 4).length := by rw [hnw, List.length_map]
    have hnw4 : (roomL zz.a 4).length < 4194304 := by omega
    have hfir : ∀ k, ((y.s.fired.take k).map (goneTo pl nw)).length ≤ 4194304 := fun k => by
      rw [List.length_map, List.length_take]; omega
    refine VC.loop (α := Nat × Value × List Value) (Γf := fun s => [(2, ptr0 k2), (4, ptr0 k4), (5, ptr0 k5), (12, ptr0 k12), (77, .slice fa y.s.fired.length fc), (78, vi y.s.fired.length), (79, vi s.1)])
      (Hf := fun s => [HA p zz, TZ, cellsAt k12 0 [.slice na (roomL zz.a 4).length nc], NW, cellsAt k5 0 [.map (some mb)], [.obj mb (.map es' mc')], F, slA s.2.1 (((y.s.fired.take s.1).map (goneTo pl nw)).map uv) s.2.2, cellsAt k4 0 [vi y.s.line.length, vi (goneM (clearM y.s).1).length, vi 0, vi (slideM d).length, vi (clearM y.s).2, s.2.1], cellsAt k2 0 [vi 0, vi 0, vi 0, vi 0, vi 0, .slice none 0 0]])
      (I := fun s => s.1 ≤ y.s.fired.length ∧ IsSl 1 s.2.1 ((y.s.fired.take s.1).map (goneTo pl nw)).length (((y.s.fired.take s.1).map (goneTo pl nw)).map uv) s.2.2) (μ := fun s => y.s.fired.length - s.1) (0, .slice none 0 0, []) ⟨Nat.zero_le _, .nil⟩ (by exact SUx) ?_ ?_
    · refine Imp.cut (M := [HA p zz, TZ, cellsAt k12 0 [.slice na (roomL zz.a 4).length nc], NW, cellsAt k5 0 [.map (some mb)], [.obj mb (.map es' mc')], F, cellsAt k4 0 [vi y.s.line.length, vi (goneM (clearM y.s).1).length, vi 0, vi (slideM d).length, vi (clearM y.s).2, .slice none 0 0], cellsAt k2 0 [vi 0, vi 0, vi 0, vi 0, vi 0, .slice none 0 0]]) (by exact IMx) (Imp.perm (by simp [slA]))
    rintro ⟨i2, fvv, fsp⟩ ⟨u1, u2⟩
    simp only at u1 u2 ⊢
    obtain ⟨ua, uc, rfl⟩ := u2.form
    refine GOH ?_
    by_cases hlt2 : i2 < y.s.fired.length
    rotate_left
    · rw [show decide ((i2 : Int) < (y.s.fired.length : Int)) = false from decide_eq_false (by omega)]
      rw [List.take_of_length_le (by omega)] at u2 ⊢
      have hfin : y.s.fired.map (goneTo pl nw) = firedA (keptA y.s) (roomL zz.a 4) y.s.fired := by
        unfold firedA
        rw [hplq, hnw, hd]
      rw [hfin] at u2 ⊢
      refine GOH ?_
      refine ⟨.inr rfl, _, _, .cellN (us := [vi y.s.line.length, vi (goneM (clearM y.s).1).length, vi 0, vi (slideM d).length, vi (clearM y.s).2, .slice ua _ uc]) (by rfl) (by rfl) (fun a ha => by refine List.mem_flatten.2 ⟨_, ?_, ha⟩; repeat (first | exact List.mem_cons_self .. | apply List.mem_cons_of_mem)) .nil, ?_, ⟨y.s, zz, _, fsp, ⟨m3, by rw [hd]; rfl, z1, by rw [z2, hd], u2, x', w1, w2⟩, rfl⟩⟩
      exact IMx
    rw [show decide ((i2 : Int) < (y.s.fired.length : Int)) = true from decide_eq_true (by omega)]
    obtain ⟨o, ho⟩ : ∃ o, y.s.fired[i2]? = some o := ⟨_, List.getElem?_eq_getElem hlt2⟩
    obtain ⟨bb, oo, rfl, hm1⟩ := hfrd i2 o ho
    have hstep2 : (y.s.fired.take (i2 + 1)).map (goneTo pl nw) = (y.s.fired.take i2).map (goneTo pl nw) ++ [goneTo pl nw o] := by
      rw [List.take_add_one, ho, List.map_append]; rfl
    have hlk2 : lookV false (.int .i64 0) ((mget o pl).map vI) = vi ((mget o pl).getD 0) := by
      cases mget o pl <;> rfl
    refine GOH ?_
    refine st_lookup (E := kU) (V := vI) (k := o) (by rfl) (by rfl) rfl (by (focus ((repeat (first | with_reducible exact HasO.here | apply HasO.there)); done))) g1 ?_
    rw [hlk2]
    obtain ⟨kk, hkk⟩ : ∃ kk, kk = (mget o pl).getD 0 := ⟨_, rfl⟩
    rw [← hkk]
    have hgt : goneTo pl nw o = if 0 ≤ kk then nw.getD kk.toNat 0 else o := by unfold goneTo; rw [← hkk]
    have hhave : ∃ w, goneTo pl nw o = w := ⟨_, rfl⟩
    refine GOH ?_
    by_cases hk0 : 0 ≤ kk
    · rw [decide_eq_true hk0]
      rw [if_pos hk0] at hgt
      obtain ⟨v0, hv0⟩ := Option.isSome_iff_exists.1 (show (mget o pl).isSome = true by rw [hplq]; exact placeA_some _ _ (List.mem_of_getElem? ho))
      have hkv : kk = v0 := by rw [hkk, hv0]; rfl
      have hkl := hpllt o v0 hv0
      obtain ⟨kn, hkn⟩ : ∃ kn : Nat, kk = (kn : Int) := ⟨kk.toNat, by omega⟩
      have hkl2 : kn < nw.length := by omega
      obtain ⟨u, hu⟩ : ∃ u, nw[kn]? = some u := ⟨_, List.getElem?_eq_getElem hkl2⟩
      obtain ⟨nb, no, rfl, hm3⟩ := hnrd kn u hu
      have hgu : goneTo pl nw o = u := by
        rw [hgt, hkn, Int.toNat_natCast, List.getD_eq_getElem?_getD, hu]; rfl
      rw [hkn]
      refine GOH ?_
      refine st_bslice (out := [uv u]) (by rfl) (by rfl) (fun q6 => ?_)
      refine st_appU (xs := (y.s.fired.take i2).map (goneTo pl nw)) (ys := [u]) (sp := fsp) (by rfl) (by rfl) u2 (by exact TKx) (srcU_lit (fun y hy => by simp only [List.flatten_cons, List.mem_append]; exact .inl hy)) (by have := hfir i2; simp only [List.length_singleton]; omega) (fun sv' sp' hsl' => ?_)
      rw [← hgu, ← hstep2] at hsl' ⊢
      obtain ⟨a', c', rfl⟩ := hsl'.form
      refine GOH ?_
      exact ⟨(i2 + 1, _, sp'), ⟨by simp only; omega, hsl'⟩, by simp only; omega, by exact SUx, by exact IMx⟩
    · rw [decide_eq_false hk0]
      rw [if_neg hk0] at hgt
      refine GOH ?_
      refine st_bslice (out := [uv o]) (by rfl) (by rfl) (fun q6 => ?_)
      refine st_appU (xs := (y.s.fired.take i2).map (goneTo pl nw)) (ys := [o]) (sp := fsp) (by rfl) (by rfl) u2 (by exact TKx) (srcU_lit (fun y hy => by simp only [List.flatten_cons, List.mem_append]; exact .inl hy)) (by have := hfir i2; simp only [List.length_singleton]; omega) (fun sv' sp' hsl' => ?_)
      rw [← hgt, ← hstep2] at hsl' ⊢
      obtain ⟨a', c', rfl⟩ := hsl'.form
      refine GOH ?_
      exact ⟨(i2 + 1, _, sp'), ⟨by simp only; omega, hsl'⟩, by simp only; omega, by exact SUx, by exact IMx⟩
  all_goals
    repeat' first
      | refine GOPH ?_
      | (refine st_call hcl (by rfl) (by exact SPx) (fun v Post hv => ?_)
         obtain ⟨yn, n, ⟨rfl, c1, c2, c3, c4⟩, rfl⟩ := hv
         simp only [CNx]
         have cl1 : yn.s = (clearM y.s).1 := congrArg Prod.fst c2
         have cl2 : n = (clearM y.s).2 := congrArg Prod.snd c2
         obtain ⟨na, nc, nk⟩ := c1.l.form
         obtain ⟨nlv, _⟩ := ra_lv q p yn
         rw [nk, show yn.s.line = y.s.line by rw [cl1, hkeep]] at nlv)
      | refine st_alloc (fun k4 => ?_)
    refine ⟨(yn, k4), ⟨c1, cl1⟩, by exact SUx, ?_⟩
    rw [← cl2]
    show Imp _ [cellsAt k4 0 [.int .i64 (y.s.line.length : Int), .int .i64 0, .int .i64 0, .int .i64 0, vi n, .slice none 0 0], cellsAt k1 0 [ptr0 p], cellsAt k2 0 [vi 0, vi 0, vi 0, vi 0, vi 0, .slice none 0 0], RA q p yn, TZ]
    exact IMx
end Go.Proofs.YtmlnoodopoaafaaDoor
namespace Go.V
open Go Go.Proofs.YtmlnoodopoaafaaDoor
theorem still_steps {s : MS} (hw : s.waiting = []) (h : ∀ o ∈ s.line, oneM s o = s) {t u : MS × Nat} (ht : MSteps t u) (h1 : t.1 = s) : u.1 = s := by
  induction ht with
  | refl => exact h1
  | more _ h2 ih =>
    have ih := ih
    cases h2 with
    | one hl =>
      simp only at ih ⊢
      subst ih
      exact h _ (List.mem_of_getElem? hl)
    | again _ hlt =>
      simp only at ih
      subst ih
      rw [hw] at hlt
      simp at hlt
    | fire _ _ hne =>
      simp only at ih
      subst ih
      exact absurd (by unfold againM; rw [hw]; rfl) hne
def setBd (l : List Nat) (b : Ob) : Ob := { b with body := l }
theorem keep_setBd (l : List Nat) : Keep (setBd l) := ⟨fun _ => rfl, fun _ => rfl⟩
def bdA (a : AH) (w : Nat) (l : List Nat) : AH := { a with obs := updO w (setBd l) a.obs }
theorem bdA_set (a : AH) (w i v : Nat) (l : List Nat) (b : Ob) (hb : b.at_ = w) : slotA (bdA a w l) b i v = bdA a w (l.set i v) := by
  unfold slotA bdA updO
  subst hb
  simp only [List.map_map]
  congr 1
  apply List.map_congr_left
  intro c _
  simp only [Function.comp]
  by_cases h : c.at_ = b.at_
  · rw [if_pos h, if_pos h, if_pos (show (setBd l c).at_ = b.at_ from h)]; rfl
  · rw [if_neg h, if_neg h, if_neg h]
theorem getO_bd (a : AH) (w : Nat) (l : List Nat) (o : Nat) : getO (bdA a w l).obs o = (getO a.obs o).map fun b => if b.at_ = w then setBd l b else b := getO_updO (keep_setBd l) a.obs o
theorem dead_bd (s : MS) (w : Nat) (l : List Nat) (v : Nat) : deadM { s with a := bdA s.a w l } v = deadM s v := by
  unfold deadM
  simp only
  rw [getO_bd, Option.isSome_map]
def clrL (s : MS) (n : Nat) (k : Nat) (l : List Nat) : List Nat := (l.take k).map (fun v => if deadM s v then n else v) ++ l.drop k
theorem clrL_len (s : MS) (n k : Nat) (l : List Nat) : (clrL s n k l).length = l.length := by
  unfold clrL; rw [List.length_append, List.length_map, ← List.length_append, List.take_append_drop]
theorem clrL_at {s : MS} {n k v : Nat} {l : List Nat} (hv : l[k]? = some v) : (clrL s n k l)[k]? = some v ∧ clrL s n (k + 1) l = (clrL s n k l).set k (if deadM s v then n else v) := by
  have hk : k < l.length := (List.getElem?_eq_some_iff.1 hv).1
  have e1 : (l.take k).length = k := by rw [List.length_take]; omega
  have hd : l.drop k = v :: l.drop (k + 1) := by
    rw [List.drop_eq_getElem_cons hk]
    congr 1
    exact (List.getElem?_eq_some_iff.1 hv).2
  constructor
  · unfold clrL
    rw [List.getElem?_append_right (by rw [List.length_map]; omega), List.length_map, e1, Nat.sub_self, hd]; rfl
  · unfold clrL
    rw [List.take_add_one, hv, List.map_append, hd]
    rw [List.set_append_right _ _ (by rw [List.length_map]; omega), List.length_map, e1, Nat.sub_self]
    simp
theorem clrIs (s : MS) (n o : Nat) (b : Ob) (hb : getO s.a.obs o = some b) (c : Nat) : ∀ k, k ≤ b.body.length → ∃ c', (List.range k).foldl (clrI n o) ({ s with a := bdA s.a b.at_ b.body }, c) = ({ s with a := bdA s.a b.at_ (clrL s n k b.body) }, c')
  | 0, _ => ⟨c, by unfold clrL; simp⟩
  | k + 1, h => by
    obtain ⟨c', ih⟩ := clrIs s n o b hb c k (by omega)
    obtain ⟨v, hv⟩ : ∃ v, b.body[k]? = some v := ⟨_, List.getElem?_eq_getElem (by omega)⟩
    obtain ⟨h1, h2⟩ := clrL_at (s := s) (n := n) hv
    rw [List.range_succ, List.foldl_append, ih, List.foldl_cons, List.foldl_nil]
    unfold clrI
    simp only
    rw [getO_bd, hb]
    simp only [Option.map_some, ↓reduceIte]
    rw [show (setBd (clrL s n k b.body) b).body.getD k 0 = v by rw [List.getD_eq_getElem?_getD]; show ((clrL s n k b.body)[k]?).getD 0 = v; rw [h1]; rfl, dead_bd]
    by_cases hd : deadM s v = true
    · rw [if_pos hd]
      refine ⟨c' + 1, ?_⟩
      rw [bdA_set _ b.at_ _ _ _ (setBd (clrL s n k b.body) b) rfl, h2, if_pos hd]
    · rw [if_neg hd]
      refine ⟨c', ?_⟩
      rw [h2, if_neg hd]
      congr 4
      have hk : k < (clrL s n k b.body).length := by rw [clrL_len]; omega
      obtain ⟨hk2, e⟩ := List.getElem?_eq_some_iff.1 h1
      rw [← e, List.set_getElem_self]
theorem bdA_self {a : AH} {b : Ob} (hone : ∀ c ∈ a.obs, c.at_ = b.at_ → c = b) : bdA a b.at_ b.body = a := by
  have : updO b.at_ (setBd b.body) a.obs = a.obs := by
    unfold updO
    conv => rhs; rw [← List.map_id a.obs]
    apply List.map_congr_left
    intro c hc
    by_cases h : c.at_ = b.at_
    · rw [if_pos h, hone c hc h]; rfl
    · rw [if_neg h]; rfl
  unfold bdA
  rw [this]
theorem clrO_out {s : MS} {b : Ob} {n : Nat} {l : List Nat} (hw2 : ∀ o c, getO s.a.obs o = some c → c.hd.fmt = 2 → c = b) (c : Nat) {w : Nat} (hne : w ≠ b.at_) : clrO n ({ s with a := bdA s.a b.at_ l }, c) w = ({ s with a := bdA s.a b.at_ l }, c) := by
  unfold clrO
  simp only
  rw [getO_bd]
  cases hg : getO s.a.obs (8 * w) with
  | none => rfl
  | some d =>
    have hd : d.at_ = w := by
      have := (getO_some hg).2
      unfold Ob.oop at this; omega
    simp only [Option.map_some]
    rw [if_neg (show ¬ d.at_ = b.at_ from by rw [hd]; exact hne)]
    rw [if_neg]
    rintro ⟨h2, _⟩
    have := hw2 _ _ hg h2
    rw [this] at hd
    exact hne hd.symm
theorem clrO_outs {s : MS} {b : Ob} {n : Nat} {l : List Nat} (hw2 : ∀ o c, getO s.a.obs o = some c → c.hd.fmt = 2 → c = b) (c : Nat) : ∀ {A : List Nat}, b.at_ ∉ A → A.foldl (clrO n) ({ s with a := bdA s.a b.at_ l }, c) = ({ s with a := bdA s.a b.at_ l }, c)
  | [], _ => rfl
  | w :: A, h => by
    rw [List.foldl_cons, clrO_out hw2 c (fun e => h (by rw [← e]; exact List.mem_cons_self ..))]
    exact clrO_outs hw2 c (fun h' => h (List.mem_cons_of_mem _ h'))
theorem clear_one {s : MS} {b : Ob} (hb : getO s.a.obs b.oop = some b) (hone : ∀ c ∈ s.a.obs, c.at_ = b.at_ → c = b) (hfm : b.hd.fmt = 2) (hin : b.oop ∈ s.line) (hw2 : ∀ o c, getO s.a.obs o = some c → c.hd.fmt = 2 → c = b)
    (hnd : (eachL s.a).Nodup) (hat : b.at_ ∈ eachL s.a) (hlen : b.hd.slots = b.body.length) :
    ∃ c, clearM s = ({ s with a := bdA s.a b.at_ (clrL s (s.a.sp.headD 0) b.body.length b.body) }, c) := by
  obtain ⟨A, C, hL⟩ := List.append_of_mem hat
  rw [hL] at hnd
  have hA : b.at_ ∉ A := fun h => (List.nodup_append.1 hnd).2.2 _ h _ (List.mem_cons_self ..) rfl
  have hC : b.at_ ∉ C := fun h => (List.nodup_cons.1 (List.nodup_append.1 hnd).2.1).1 h
  obtain ⟨c', hcl⟩ := clrIs s (s.a.sp.headD 0) b.oop b hb 0 b.body.length (Nat.le_refl _)
  refine ⟨c', ?_⟩
  unfold clearM
  rw [hL]
  conv => lhs; arg 2; rw [show (s, 0) = (({ s with a := bdA s.a b.at_ b.body } : MS), 0) by rw [bdA_self hone]]
  rw [List.foldl_append, clrO_outs hw2 0 hA, List.foldl_cons]
  have e : clrO (s.a.sp.headD 0) ({ s with a := bdA s.a b.at_ b.body }, 0) b.at_ = ({ s with a := bdA s.a b.at_ (clrL s (s.a.sp.headD 0) b.body.length b.body) }, c') := by
    unfold clrO
    simp only
    rw [getO_bd, show 8 * b.at_ = b.oop from rfl, hb]
    simp only [Option.map_some, ↓reduceIte]
    rw [if_pos (show (setBd b.body b).hd.fmt = 2 ∧ b.oop ∈ s.line from ⟨hfm, hin⟩), show (setBd b.body b).hd.slots = b.body.length from hlen]
    exact hcl
  rw [e, clrO_outs hw2 c' hC]
theorem mem_meetA {a : AH} {l : List Nat} {k o : Nat} : o ∈ meetA a l k ↔ o ∈ l ∨ (o = k ∧ (getO a.obs o).isSome = true) := by
  unfold meetA
  by_cases h : k ∈ l
  · rw [if_pos h]
    exact ⟨.inl, fun h' => h'.elim id (fun e => e.1 ▸ h)⟩
  · rw [if_neg h]
    by_cases h2 : (getO a.obs k).isSome = true
    · rw [if_pos h2, List.mem_append, List.mem_singleton]
      exact ⟨fun h' => h'.elim .inl (fun e => .inr ⟨e, e ▸ h2⟩), fun h' => h'.elim .inl (fun e => .inr e.1)⟩
    · rw [if_neg h2]
      exact ⟨.inl, fun h' => h'.elim id (fun e => absurd (e.1 ▸ e.2) h2)⟩
theorem mem_meets {a : AH} {o : Nat} : ∀ {ks l : List Nat}, o ∈ ks.foldl (meetA a) l ↔ o ∈ l ∨ (o ∈ ks ∧ (getO a.obs o).isSome = true)
  | [], l => by simp
  | k :: ks, l => by
    rw [List.foldl_cons, mem_meets, mem_meetA, List.mem_cons]
    constructor
    · rintro ((h | ⟨rfl, h⟩) | ⟨h1, h2⟩)
      · exact .inl h
      · exact .inr ⟨.inl rfl, h⟩
      · exact .inr ⟨.inr h1, h2⟩
    · rintro (h | ⟨rfl | h1, h2⟩)
      · exact .inl (.inl h)
      · exact .inl (.inr ⟨rfl, h2⟩)
      · exact .inr ⟨h1, h2⟩
theorem mem_rooted {a : AH} {o : Nat} : o ∈ rootedA a ↔ o ∈ rootsA a ∧ (getO a.obs o).isSome = true := by
  unfold rootedA
  rw [mem_meets]; simp
theorem getO_filter (p : Nat → Bool) (obs : List Ob) (o : Nat) : getO (obs.filter fun b => p b.oop) o = if p o = true then getO obs o else none := by
  induction obs with
  | nil => simp [getO]
  | cons b r ih =>
    have ec : ∀ l, getO (b :: l) o = if b.oop = o then some b else getO l o := fun l => by
      unfold getO
      rw [List.find?_cons]
      by_cases h : b.oop = o
      · rw [if_pos h, decide_eq_true h]
      · rw [if_neg h, decide_eq_false h]
    rw [List.filter_cons, ec]
    by_cases h : b.oop = o
    · rw [if_pos h]
      by_cases hp : p b.oop = true
      · rw [if_pos hp, ec, if_pos h, if_pos (h ▸ hp)]
      · rw [if_neg hp, ih, if_neg (h ▸ hp), if_neg (h ▸ hp)]
    · rw [if_neg h]
      by_cases hp : p b.oop = true
      · rw [if_pos hp, ec, if_neg h, ih]
      · rw [if_neg hp, ih]
structure WeakA (a : AH) (N W : Nat) (xs st ys : List Nat) : Prop where
  sp : a.sp = N :: W :: List.replicate 62 0
  cl : a.cl = List.replicate 4096 0
  stack : a.stack = st
  queue : a.queue = []
  ahead : a.ahead = []
  few : a.noted.length ≤ 100
  old : youngO a N = false
  nb : ∃ b, getO a.obs N = some b ∧ b.hd.fmt = 1 ∧ b.many = 0
  wb : ∃ b, getO a.obs W = some b ∧ b.hd.fmt = 2 ∧ b.hd.slots = b.body.length ∧ b.body = ys
  xb : ∀ i o, xs[i]? = some o → ∃ b, getO a.obs o = some b ∧ b.hd.fmt = 5 ∧ b.hd.cls = i ∧ b.many = 0
  all : ∀ b ∈ a.obs, b.oop = N ∨ b.oop = W ∨ b.oop ∈ xs
  nt : ∀ b ∈ a.obs, b.hd.noted = true → b.oop = W
  yx : ∀ y ∈ ys, y = N ∨ y ∈ xs
theorem WeakA.xne {a : AH} {N W : Nat} {xs st ys : List Nat} (h : WeakA a N W xs st ys) (hp : ∀ b ∈ a.obs, 0 < b.at_) {o : Nat} (ho : o ∈ xs) : o ≠ N ∧ o ≠ W ∧ o ≠ 0 := by
  obtain ⟨i, hi⟩ := List.getElem?_of_mem ho
  obtain ⟨b, hb, h5, _, _⟩ := h.xb i o hi
  obtain ⟨n, hn, n1, _⟩ := h.nb
  obtain ⟨w, hw, w2, _, _⟩ := h.wb
  refine ⟨?_, ?_, ?_⟩
  · rintro rfl; rw [hb] at hn; cases hn; omega
  · rintro rfl; rw [hb] at hw; cases hw; omega
  · rintro rfl
    have h1 := (getO_some hb).2
    have h2 := hp b (getO_some hb).1
    unfold Ob.oop at h1; omega
theorem WeakA.rooted {a : AH} {N W : Nat} {xs st ys : List Nat} (h : WeakA a N W xs st ys) (hp : ∀ b ∈ a.obs, 0 < b.at_) {o : Nat} (ho : o ∈ xs) : o ∈ rootedA a ↔ o ∈ st := by
  obtain ⟨h1, h2, h3⟩ := h.xne hp ho
  obtain ⟨i, hi⟩ := List.getElem?_of_mem ho
  obtain ⟨b, hb, _⟩ := h.xb i o hi
  rw [mem_rooted, hb]
  unfold rootsA
  rw [h.sp, h.cl, h.stack, h.queue]
  simp only [List.mem_append, List.mem_cons, List.mem_replicate, Option.isSome_some, and_true]
  constructor
  · rintro ((e | e | e) | e | e | e)
    · exact absurd e h1
    · exact absurd e h2
    · exact absurd e.2 h3
    · exact absurd e.2 h3
    · exact e
    · cases e
  · exact fun e => .inr (.inr (.inl e))
theorem WeakA.rootN {a : AH} {N W : Nat} {xs st ys : List Nat} (h : WeakA a N W xs st ys) : N ∈ rootedA a ∧ W ∈ rootedA a := by
  obtain ⟨n, hn, _⟩ := h.nb
  obtain ⟨w, hw, _⟩ := h.wb
  rw [mem_rooted, mem_rooted, hn, hw]
  unfold rootsA
  rw [h.sp]
  simp
def msA (a : AH) : MS := ⟨a, rootedA a, [], []⟩
theorem WeakA.still {a : AH} {N W : Nat} {xs st ys : List Nat} (h : WeakA a N W xs st ys) : ∀ o ∈ (msA a).line, oneM (msA a) o = msA a := by
  intro o ho
  have hs : (getO a.obs o).isSome = true := (mem_rooted.1 ho).2
  obtain ⟨b, hb⟩ := Option.isSome_iff_exists.1 hs
  have hf : fmtO (msA a).a o = b.hd.fmt := by unfold fmtO; show (match getO a.obs o with | some b => b.hd.fmt | none => 0) = _; rw [hb]
  have hk : b.many = 0 → allM (msA a) o = msA a := fun e => by
    unfold allM
    have : kidsA (msA a).a o = [] := by unfold kidsA; show (match getO a.obs o with | some b => b.body.take b.many | none => []) = _; rw [hb]; simp only; rw [e, List.take_zero]
    rw [this]; rfl
  unfold oneM
  rw [hf]
  have hcase : (b.hd.fmt = 1 ∧ b.many = 0) ∨ b.hd.fmt = 2 ∨ (b.hd.fmt = 5 ∧ b.many = 0) := by
    have hbo := (getO_some hb).2
    rcases h.all b (getO_some hb).1 with e | e | e
    · obtain ⟨n, hn, n1, n2⟩ := h.nb
      rw [← e, hbo, hb] at hn; cases hn; exact .inl ⟨n1, n2⟩
    · obtain ⟨w, hw, w2, _⟩ := h.wb
      rw [← e, hbo, hb] at hw; cases hw; exact .inr (.inl w2)
    · obtain ⟨i, hi⟩ := List.getElem?_of_mem e
      obtain ⟨c, hc, c5, _, c0⟩ := h.xb i _ hi
      rw [hbo, hb] at hc; cases hc; exact .inr (.inr ⟨c5, c0⟩)
  rcases hcase with ⟨e, e0⟩ | e | ⟨e, e0⟩
  · rw [if_neg (by omega), if_pos (.inl e)]; exact hk e0
  · rw [if_neg (by omega), if_neg (by omega)]
  · rw [if_neg (by omega), if_neg (by omega)]
theorem WeakA.weakOne {a : AH} {N W : Nat} {xs st ys : List Nat} (h : WeakA a N W xs st ys) {bw : Ob} (hbw : getO a.obs W = some bw) : ∀ o c, getO a.obs o = some c → c.hd.fmt = 2 → c = bw := by
  intro o b hb hf
  have hbo := (getO_some hb).2
  rcases h.all b (getO_some hb).1 with e | e | e
  · obtain ⟨n, hn, n1, n2⟩ := h.nb
    rw [← e, hbo, hb] at hn; cases hn; omega
  · rw [← e, hbo, hb] at hbw; cases hbw; rfl
  · obtain ⟨i, hi⟩ := List.getElem?_of_mem e
    obtain ⟨c, hc, c5, _, c0⟩ := h.xb i _ hi
    rw [hbo, hb] at hc; cases hc; omega
theorem getO_markA0 (a : AH) (o : Nat) : getO (markA a []).obs o = (getO a.obs o).map (setH (setMk false)) := by
  rw [getO_mark]
  congr 1
theorem many_two {b : Ob} (h : b.hd.fmt = 2) : b.many = b.hd.slots := by
  unfold Ob.many
  rw [if_neg (by omega), if_neg (by omega)]
theorem weak_law {x : HW} {N W : Nat} {xs st ys : List Nat} (hx : HOk x) (h : WeakA x.a N W xs st ys) {x' z : HW} (hx' : HOk x') (hz : HOk z) (e' : x'.a = markA (aliveA (clearM (msA x.a)).1) []) (ez : z.a = slideA x'.a) :
    ∃ (N' W' : Nat) (r : List Nat) (bw n' : Ob), z.a.sp = N' :: W' :: r ∧ getO z.a.obs W' = some bw ∧ bw.many = ys.length ∧ getO z.a.obs N' = some n' ∧ ∀ (i k o : Nat), ys[i]? = some o → xs[k]? = some o → ∃ v, bw.body[i]? = some v ∧ (o ∈ st → ∃ b, getO z.a.obs v = some b ∧ b.hd.cls = k) ∧ (o ∉ st → v = N') := by
  have hp : ∀ b ∈ x.a.obs, 0 < b.at_ := fun b hb => by have := hx.range hb; omega
  obtain ⟨bw, hbw, w2, w3, w4⟩ := h.wb
  obtain ⟨bn, hbn, n1, n2⟩ := h.nb
  have hWo := (getO_some hbw).2
  have hNo := (getO_some hbn).2
  have hone : ∀ c ∈ x.a.obs, c.at_ = bw.at_ → c = bw := fun c hc e => sort_one hx.lay.sort hc (getO_some hbw).1 e
  obtain ⟨c, hcl⟩ := clear_one (s := msA x.a) (b := bw) (by rw [hWo]; exact hbw) hone w2 (by rw [hWo]; exact h.rootN.2) (h.weakOne hbw) (eachL_nodup hx) ((mem_eachL hx).2 ⟨bw, (getO_some hbw).1, rfl⟩) w3
  rw [hcl] at e'
  simp only at e'
  rw [show (msA x.a).a.sp.headD 0 = N by show x.a.sp.headD 0 = N; rw [h.sp]; rfl, w4] at e'
  have hget : ∀ o b, getO x.a.obs o = some b → o ∈ rootedA x.a → getO x'.a.obs o = some (setH (setMk false) (if b.at_ = bw.at_ then setBd (clrL (msA x.a) N ys.length ys) b else b)) := fun o b hb ho => by
    rw [e', getO_markA0]
    unfold aliveA
    simp only
    rw [getO_filter (fun o => decide (o ∈ (msA x.a).line)), if_pos (show decide (o ∈ (msA x.a).line) = true from decide_eq_true ho), getO_bd]
    show Option.map _ (Option.map _ (getO x.a.obs o)) = _
    rw [hb]; rfl
  have hsp : x'.a.sp = x.a.sp := by rw [e']; rfl
  have hw' := hget W bw hbw h.rootN.2
  rw [if_pos rfl] at hw'
  obtain ⟨bw', g1, g2, g3⟩ := slide_get hx' hz ez hw'
  have hn' := hget N bn hbn h.rootN.1
  obtain ⟨bn', k1, _, _⟩ := slide_get hx' hz ez hn'
  have hcl2 : (clrL (msA x.a) N ys.length ys).length = ys.length := clrL_len ..
  have hm : (setH (setMk false) (setBd (clrL (msA x.a) N ys.length ys) bw)).many = ys.length := by
    rw [many_two (b := setH (setMk false) (setBd (clrL (msA x.a) N ys.length ys) bw)) w2]
    show bw.hd.slots = _
    rw [w3, w4]
  have hm' : bw'.many = ys.length := by
    rw [many_two (show bw'.hd.fmt = 2 by rw [g2]; exact w2), g2]
    show bw.hd.slots = _
    rw [w3, w4]
  rw [hm] at g3
  have g4 : bw'.body = (clrL (msA x.a) N ys.length ys).map (renO (slideM x'.a)) := by
    rw [g3]
    show ((clrL (msA x.a) N ys.length ys).take ys.length).map _ ++ (clrL (msA x.a) N ys.length ys).drop ys.length = _
    rw [List.take_of_length_le (by omega), List.drop_eq_nil_of_le (by omega), List.append_nil]
  refine ⟨renO (slideM x'.a) N, renO (slideM x'.a) W, (List.replicate 62 0).map (renO (slideM x'.a)), bw', bn', ?_, g1, hm', k1, fun i k o hi hk => ?_⟩
  · rw [ez]
    show x'.a.sp.map _ = _
    rw [hsp, h.sp]; rfl
  · have hox : o ∈ xs := List.mem_of_getElem? hk
    obtain ⟨b, hb, b5, bc, b0⟩ := h.xb k o hk
    have hil := (List.getElem?_eq_some_iff.1 hi).1
    have hv : (clrL (msA x.a) N ys.length ys)[i]? = some (if deadM (msA x.a) o then N else o) := by
      unfold clrL
      rw [List.take_of_length_le (Nat.le_refl _), List.getElem?_append_left (by rw [List.length_map]; exact hil), List.getElem?_map, hi]; rfl
    refine ⟨_, by rw [g4, List.getElem?_map, hv]; rfl, fun hs => ?_, fun hs => ?_⟩
    · have hr := (h.rooted hp hox).2 hs
      have hd : deadM (msA x.a) o = false := by
        unfold deadM
        rw [show decide (o ∈ (msA x.a).line) = true from decide_eq_true hr]; simp
      rw [hd]
      have hb' := hget o b hb hr
      obtain ⟨b2, q1, q2, _⟩ := slide_get hx' hz ez hb'
      refine ⟨b2, q1, ?_⟩
      rw [q2]
      split
      · exact bc
      · exact bc
    · have hr : o ∉ rootedA x.a := fun h' => hs ((h.rooted hp hox).1 h')
      have hd : deadM (msA x.a) o = true := by
        unfold deadM
        rw [show decide (o ∈ (msA x.a).line) = false from decide_eq_false hr]
        show ((getO x.a.obs o).isSome && !false) = true
        rw [hb]; rfl
      rw [hd]; rfl
theorem WeakA.end_ {a : AH} {N W : Nat} {xs st ys : List Nat} (h : WeakA a N W xs st ys) {s : MS} (he : MEnd (ms0 a) s) : s = msA a := by
  obtain ⟨i, h1, _⟩ := he
  exact still_steps rfl h.still h1 rfl
theorem WeakA.run {x : HW} {N W : Nat} {xs st ys : List Nat} (hx : HOk x) (h : WeakA x.a N W xs st ys) : RunOk (msA x.a) := by
  obtain ⟨bw, hbw, w2, w3, w4⟩ := h.wb
  obtain ⟨bn, hbn, n1, n2⟩ := h.nb
  have hWo := (getO_some hbw).2
  have hone : ∀ c ∈ x.a.obs, c.at_ = bw.at_ → c = bw := fun c hc e => sort_one hx.lay.sort hc (getO_some hbw).1 e
  obtain ⟨c, hcl⟩ := clear_one (s := msA x.a) (b := bw) (by rw [hWo]; exact hbw) hone w2 (by rw [hWo]; exact h.rootN.2) (h.weakOne hbw) (eachL_nodup hx) ((mem_eachL hx).2 ⟨bw, (getO_some hbw).1, rfl⟩) w3
  have hh : (msA x.a).a.sp.headD 0 = N := by show x.a.sp.headD 0 = N; rw [h.sp]; rfl
  refine ⟨?_, fun b hb hn => ?_, h.ahead⟩
  · rw [hh]
    refine ⟨?_, h.old, by have := h.few; show x.a.noted.length < _; omega, hx.oop_lt hbn⟩
    unfold mayO
    show _ = true
    simp only [show (msA x.a).a = x.a from rfl, hbn]
    simp
  · rw [hcl] at hb
    obtain ⟨d, hd, rfl⟩ := List.mem_map.1 hb
    have e1 : (if d.at_ = bw.at_ then setBd (clrL (msA x.a) ((msA x.a).a.sp.headD 0) bw.body.length bw.body) d else d).oop = d.oop := by split <;> rfl
    have e2 : (if d.at_ = bw.at_ then setBd (clrL (msA x.a) ((msA x.a).a.sp.headD 0) bw.body.length bw.body) d else d).hd = d.hd := by split <;> rfl
    rw [e2] at hn
    rw [e1, h.nt d hd hn]
    exact h.rootN.2
set_option maxRecDepth 100000
theorem insW_new {b : Ob} : ∀ {obs : List Ob}, ((insO b obs).Pairwise fun a b => a.stop ≤ b.at_) → ∀ c ∈ obs, c.at_ ≠ b.at_ := by
  intro obs
  induction obs with
  | nil => intro _ c hc; cases hc
  | cons d r ih =>
    intro h c hc
    simp only [insO] at h
    split at h
    · rename_i hlt
      obtain ⟨_, h2⟩ := List.pairwise_cons.1 h
      rcases List.mem_cons.1 hc with rfl | hc
      · omega
      · exact ih h2 c hc
    · obtain ⟨h1, _⟩ := List.pairwise_cons.1 h
      have := h1 c hc
      unfold Ob.stop at this; omega
theorem insW_sub {b : Ob} : ∀ {obs : List Ob}, List.Sublist obs (insO b obs) := by
  intro obs
  induction obs with
  | nil => exact List.nil_sublist _
  | cons d r ih =>
    simp only [insO]
    split
    · exact ih.cons_cons d
    · exact List.sublist_cons_self ..
theorem getW_ins {b : Ob} {obs : List Ob} (h : (insO b obs).Pairwise fun a b => a.stop ≤ b.at_) (o : Nat) : getO (insO b obs) o = if o = b.oop then some b else getO obs o := by
  have hs := h.sublist (insW_sub (b := b) (obs := obs))
  by_cases ho : o = b.oop
  · rw [if_pos ho, ho]; exact getO_mem h (mem_insO.2 (.inl rfl))
  · rw [if_neg ho]
    cases e : getO obs o with
    | some c =>
      obtain ⟨h1, rfl⟩ := getO_some e
      exact getO_mem h (mem_insO.2 (.inr h1))
    | none =>
      cases e2 : getO (insO b obs) o with
      | none => rfl
      | some c =>
        obtain ⟨h1, rfl⟩ := getO_some e2
        rcases mem_insO.1 h1 with rfl | h1
        · exact absurd rfl ho
        · exact absurd rfl (getO_none e c h1)
def wkR (t1 t4 : Nat) : List (Nat × Nat × Nat) := ((newH 2048 1024 4096 0).rm.set 1 (2, 2050, t1)).set 4 (4098, 12290, t4)
structure PreA (a : AH) (N : Nat) (xs st : List Nat) : Prop where
  rm : ∃ k1 k4, k1 + k4 = xs.length ∧ a.rm = wkR (2 + 2 * k1) (4100 + 2 * k4)
  sp : a.sp = N :: List.replicate 63 0
  cl : a.cl = List.replicate 4096 0
  stack : a.stack = st
  queue : a.queue = []
  ahead : a.ahead = []
  noted : a.noted = []
  nb : ∃ b, getO a.obs N = some b ∧ b.hd.fmt = 1 ∧ b.many = 0 ∧ b.at_ = 4098
  xb : ∀ i o, xs[i]? = some o → ∃ b, getO a.obs o = some b ∧ b.hd.fmt = 5 ∧ b.hd.cls = i ∧ b.many = 0
  all : ∀ b ∈ a.obs, b.oop = N ∨ b.oop ∈ xs
  nt : ∀ b ∈ a.obs, b.hd.noted = false
theorem wk_room (t1 t4 : Nat) : ((wkR t1 t4)[1]?).getD (0, 0, 0) = (2, 2050, t1) ∧ ((wkR t1 t4)[4]?).getD (0, 0, 0) = (4098, 12290, t4) := ⟨rfl, rfl⟩
theorem wk_set1 (t1 t4 t : Nat) : (wkR t1 t4).set 1 (2, 2050, t) = wkR t t4 := rfl
theorem wk_set4 (t1 t4 t : Nat) : (wkR t1 t4).set 4 (4098, 12290, t) = wkR t1 t := rfl
theorem wk_space (t1 t4 : Nat) : spaceW (wkR t1 t4) 4098 = 4 := by unfold spaceW; rfl
theorem PreA.notFull {a : AH} {N : Nat} {xs st : List Nat} (h : PreA a N xs st) (hl : xs.length ≤ 100) (i : Nat) {sp : Nat} (hsp : sp = 1 ∨ sp = 4) : ¬ fullA a sp (hdOf i 5 0) := by
  obtain ⟨k1, k4, hk, hr⟩ := h.rm
  obtain ⟨r1, r4⟩ := wk_room (2 + 2 * k1) (4100 + 2 * k4)
  unfold fullA roomA
  rw [hr]
  have hs : (hdOf i 5 0).slots = 0 := rfl
  rcases hsp with rfl | rfl
  · rw [r1, hs]; simp only; omega
  · rw [r4, hs]; simp only; omega
theorem PreA.add {x y : HW} {N : Nat} {xs st : List Nat} (hy : HOk y) (h : PreA x.a N xs st) {sp : Nat} (hsp : sp = 1 ∨ sp = 4) (e : y.a = allocA x.a sp (hdOf xs.length 5 0)) : PreA y.a N (xs ++ [8 * (roomA x.a sp).2.2]) st := by
  have e2 : y.a = Go.Proofs.YtmlnoodopoaafaaDoor.laidA x.a sp (hdOf xs.length 5 0) := by
    rw [e]; unfold allocA
    rw [if_neg (show ¬ (hdOf xs.length 5 0).fmt ≤ 3 from (by decide : ¬ (5 : Nat) ≤ 3))]
  have eo : y.a.obs = insO (newO (roomA x.a sp).2.2 (hdOf xs.length 5 0)) x.a.obs := by rw [e2]; rfl
  have hs := hy.lay.sort
  rw [eo] at hs
  have hnew := insW_new hs
  have hget := getW_ins hs
  have hold : ∀ o b, getO x.a.obs o = some b → getO y.a.obs o = some b := fun o b hb => by
    rw [eo, hget, if_neg]
    · exact hb
    · rintro rfl
      have h1 := hnew b (getO_some hb).1
      have h2 := (getO_some hb).2
      unfold Ob.oop at h2
      exact h1 (by omega)
  refine ⟨?_, ?_, ?_, ?_, ?_, ?_, ?_, ?_, ?_, ?_, ?_⟩
  · obtain ⟨k1, k4, hk, hr⟩ := h.rm
    obtain ⟨r1, r4⟩ := wk_room (2 + 2 * k1) (4100 + 2 * k4)
    have er : y.a.rm = x.a.rm.set sp ((roomA x.a sp).1, (roomA x.a sp).2.1, (roomA x.a sp).2.2 + (2 + (hdOf xs.length 5 0).slots)) := by rw [e2]; rfl
    rw [er]
    unfold roomA
    rw [hr, show (hdOf xs.length 5 0).slots = 0 from rfl]
    rcases hsp with rfl | rfl
    · refine ⟨k1 + 1, k4, by rw [List.length_append, List.length_singleton]; omega, ?_⟩
      rw [r1]; simp only
      rw [wk_set1, show 2 + 2 * k1 + (2 + 0) = 2 + 2 * (k1 + 1) by omega]
    · refine ⟨k1, k4 + 1, by rw [List.length_append, List.length_singleton]; omega, ?_⟩
      rw [r4]; simp only
      rw [wk_set4, show 4100 + 2 * k4 + (2 + 0) = 4100 + 2 * (k4 + 1) by omega]
  · rw [e2]; exact h.sp
  · rw [e2]; exact h.cl
  · rw [e2]; exact h.stack
  · rw [e2]; exact h.queue
  · rw [e2]; exact h.ahead
  · rw [e2]; exact h.noted
  · obtain ⟨b, hb, h1, h2, h3⟩ := h.nb
    exact ⟨b, hold _ _ hb, h1, h2, h3⟩
  · intro i o hi
    by_cases hl : i < xs.length
    · rw [List.getElem?_append_left hl] at hi
      obtain ⟨b, hb, r⟩ := h.xb i o hi
      exact ⟨b, hold _ _ hb, r⟩
    · have hil := (List.getElem?_eq_some_iff.1 hi).1
      rw [List.length_append, List.length_singleton] at hil
      obtain rfl : i = xs.length := by omega
      rw [List.getElem?_append_right (Nat.le_refl _), Nat.sub_self] at hi
      have ho : 8 * (roomA x.a sp).2.2 = o := by simpa using hi
      refine ⟨newO (roomA x.a sp).2.2 (hdOf xs.length 5 0), ?_, rfl, rfl, rfl⟩
      rw [eo, hget, if_pos]; exact ho.symm
  · intro b hb
    rw [eo] at hb
    rcases mem_insO.1 hb with rfl | hb
    · exact .inr (List.mem_append_right _ (List.mem_singleton.2 rfl))
    · exact (h.all b hb).imp id (List.mem_append_left _)
  · intro b hb
    rw [eo] at hb
    rcases mem_insO.1 hb with rfl | hb
    · rfl
    · exact h.nt b hb
end Go.V

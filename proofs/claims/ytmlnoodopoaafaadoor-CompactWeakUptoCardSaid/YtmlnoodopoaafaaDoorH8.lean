/-
  A collection under way: what is dead is freed, and no object is marked then.
-/
import Derived.Test.YtmlnoodopoaafaaDoorH7
import Derived.Test.YtmlnoodopoaafaaDoorV10
set_option linter.unusedSimpArgs false
set_option linter.unusedVariables false
namespace Go.V
open Go
theorem goneM_nodup {y : RW} (hy : ROk y) : (goneM y.s).Nodup := by
  have h := eachL_nodup hy.x
  rw [hy.a, eachL_mark] at h
  exact h.sublist List.filter_sublist
theorem nodup_take {l : List Nat} (h : l.Nodup) {i w : Nat} (hw : l[i]? = some w) : w ∉ l.take i := by
  intro hm
  obtain ⟨j, hj⟩ := List.getElem?_of_mem hm
  have hji : j < i := by
    have := (List.getElem?_eq_some_iff.1 hj).1
    simp only [List.length_take] at this; omega
  rw [List.getElem?_take_of_lt hji] at hj
  have h1 := (List.getElem?_eq_some_iff.1 hj)
  have h2 := (List.getElem?_eq_some_iff.1 hw)
  exact absurd ((List.getElem_inj h).1 (h1.2.trans h2.2.symm)) (by omega)
theorem gone_alive {y : RW} (hy : ROk y) : lessA y.s.a (goneM y.s) = aliveA y.s := by
  unfold lessA aliveA
  congr 1
  refine List.filter_congr fun b hb => ?_
  rw [decide_eq_decide]
  have hat : b.at_ ∈ atsA y.s.a := List.mem_map.2 ⟨b, hb, rfl⟩
  obtain ⟨c, hc⟩ := hy.at_get hat
  have hoo : b.oop = 8 * b.at_ := rfl
  have hin : b.at_ ∈ eachL y.s.a := by
    have hm : mkB y.s.line b ∈ y.x.a.obs := by rw [hy.a]; exact List.mem_map.2 ⟨b, hb, rfl⟩
    have := (mem_eachL hy.x).2 ⟨_, hm, rfl⟩
    rw [hy.a, eachL_mark] at this
    exact this
  unfold goneM
  rw [List.mem_filter]
  unfold deadM
  rw [hc, hoo]
  simp [hin]
theorem drop_filter {l : List Nat} (h : l.Nodup) {j o : Nat} (ho : l[j]? = some o) : (l.drop j).filter (fun x => decide (x ≠ o)) = l.drop (j + 1) := by
  have hj := (List.getElem?_eq_some_iff.1 ho).1
  have e : l.drop j = o :: l.drop (j + 1) := by
    have : l[j] = o := (List.getElem?_eq_some_iff.1 ho).2
    rw [← this]; exact List.drop_eq_getElem_cons hj
  have hn : (l.drop j).Nodup := h.sublist (List.drop_sublist _ _)
  rw [e] at hn ⊢
  obtain ⟨h1, h2⟩ := List.nodup_cons.1 hn
  rw [List.filter_cons_of_neg (by simp)]
  refine List.filter_eq_self.2 fun x hx => ?_
  simp only [ne_eq, decide_not, Bool.not_eq_true', decide_eq_false_iff_not]
  exact fun e => h1 (e ▸ hx)
end Go.V
namespace Go.Proofs.YtmlnoodopoaafaaDoor
open Go Go.V
set_option maxHeartbeats 6400000
set_option maxRecDepth 100000
theorem sweep_spec (q p : Nat) (y : RW) (hy : ROk y) (hnt : ∀ b ∈ y.s.a.obs, b.hd.noted = true → b.oop ∈ y.s.line) :
    Fun Tryd.prog 60 [ptr0 q] [RA q p y, TZ] (fun v Post => ∃ x', (v = vi (goneM y.s).length ∧ HOk x' ∧ x'.a = markA (aliveA y.s) []) ∧
      Post = [cellsAt q 0 [ptr0 p, y.lv, y.wv, y.fv], slA y.lv (y.s.line.map uv) y.ls, slA y.wv (y.s.waiting.map uv) y.vs, slA y.fv (y.s.fired.map uv) y.fs, HA p x', TZ]) := by
  have hnd := goneM_nodup hy
  have hgl : (goneM y.s).length < 4194304 := by
    have h1 := nodup_le hnd (m := atsA y.s.a) (fun w hw => by
      have := (List.mem_filter.1 hw).1
      have h2 : w ∈ eachL y.x.a := by rw [hy.a, eachL_mark]; exact this
      obtain ⟨b, hb, rfl⟩ := (mem_eachL hy.x).1 h2
      have : b.at_ ∈ atsA y.x.a := List.mem_map.2 ⟨b, hb, rfl⟩
      rw [hy.a, ats_mark] at this
      exact this)
    have h2 := hy.obs
    simp only [atsA, List.length_map] at h1
    omega
  have hll := hy.line
  obtain ⟨la, lc, hlk, hlrd⟩ := hy.l.rdU
  refine Fun.intro low60 (by simp [n60]) ?_
  refine VC.seq_reg ?_
  refine st_box (by rfl) (fun k1 => ?_)
  simp only [Value.cells]
  refine GOH ?_
  refine st_alloc (fun k3 => ?_)
  refine GOH ?_
  refine VO.imp (H' := RMem q p y ++ [cellsAt k1 0 [ptr0 q], cellsAt k3 0 [.slice none 0 0], TZ]) (Imp.cut (M := RA q p y :: [cellsAt k1 0 [ptr0 q], cellsAt k3 0 [.slice none 0 0], TZ]) (by exact IMx) (ra_outs q p y _)) ?_
  have hbk : Imp (RMem q p y ++ [cellsAt k1 0 [ptr0 q], cellsAt k3 0 [.slice none 0 0], TZ]) [cellsAt k1 0 [ptr0 q], cellsAt k3 0 [.slice none 0 0], RA q p y, TZ] := Imp.cut (ra_ins q p y _) (by exact IMx)
  simp only [RMem, List.cons_append, List.nil_append] at hbk ⊢
  refine GOH ?_
  refine VO.imp (Imp.cut (by exact IMx) hbk) ?_
  refine st_call (gather_spec q p k1 k3 y hy) (by rfl) (by exact SPx) (fun v Post hv => ?_)
  obtain ⟨gv, gs, ⟨rfl, g1⟩, rfl⟩ := hv
  simp only [CNx]
  have hrd := IsSl.rdU (xs := (goneM y.s).map (8 * ·)) (by rw [List.length_map]; exact g1)
  obtain ⟨ga, gc, rfl, hrd⟩ := hrd
  rw [List.length_map] at hrd g1 ⊢
  refine VO.imp (H' := RMem q p y ++ [cellsAt k1 0 [ptr0 q], cellsAt k3 0 [.slice ga (goneM y.s).length gc], slA (.slice ga (goneM y.s).length gc) (((goneM y.s).map (8 * ·)).map uv) gs, TZ]) (Imp.cut (M := RA q p y :: [cellsAt k1 0 [ptr0 q], cellsAt k3 0 [.slice ga (goneM y.s).length gc], slA (.slice ga (goneM y.s).length gc) (((goneM y.s).map (8 * ·)).map uv) gs, TZ]) (by exact IMx) (ra_outs q p y _)) ?_
  simp only [RMem, List.cons_append, List.nil_append]
  generalize hS : slA (.slice ga (goneM y.s).length gc) (((goneM y.s).map (8 * ·)).map uv) gs = S at hrd ⊢
  generalize hS2 : slA y.lv (y.s.line.map uv) y.ls = S2 at hlrd ⊢
  refine GOH ?_
  refine VC.loop (α := Nat × HW) (Γf := fun s => [(1, ptr0 k1), (3, ptr0 k3), (14, .slice ga (goneM y.s).length gc), (15, vi (goneM y.s).length), (16, vi s.1)]) (Hf := fun s => [S, cellsAt k1 0 [ptr0 q], cellsAt k3 0 [.slice ga (goneM y.s).length gc], cellsAt q 0 [ptr0 p, y.lv, y.wv, y.fv], S2, slA y.wv (y.s.waiting.map uv) y.vs, slA y.fv (y.s.fired.map uv) y.fs, HA p s.2, TZ])
    (I := fun s => s.1 ≤ (goneM y.s).length ∧ HOk s.2 ∧ s.2.a = markA (lessA y.s.a ((goneM y.s).take s.1)) y.s.line) (μ := fun s => (goneM y.s).length - s.1) (0, y.x) ⟨Nat.zero_le _, hy.x, by rw [List.take_zero, lessA_nil]; exact hy.a⟩ (by exact SUx) (by exact IMx) ?_
  rintro ⟨i, x⟩ ⟨i1, i2, i3⟩
  simp only at i1 i2 i3 ⊢
  refine GOH ?_
  by_cases hlt : i < (goneM y.s).length
  · rw [show decide ((i : Int) < ((goneM y.s).length : Int)) = true from decide_eq_true (by omega)]
    obtain ⟨w, hw⟩ : ∃ w, (goneM y.s)[i]? = some w := ⟨_, List.getElem?_eq_getElem hlt⟩
    obtain ⟨bb, oo, rfl, hm1⟩ := hrd i (8 * w) (by rw [List.getElem?_map, hw]; rfl)
    obtain ⟨hsome, hnl⟩ := deadM_some (List.mem_filter.1 (List.mem_of_getElem? hw)).2
    obtain ⟨b, hb⟩ := Option.isSome_iff_exists.1 hsome
    obtain ⟨hbm, hbo⟩ := getO_some hb
    have hat : b.at_ = w := by unfold Ob.oop at hbo; omega
    have hnot := nodup_take hnd hw
    have hbx : getO x.a.obs (8 * w) = some (mkB y.s.line b) := by
      rw [i3, getO_mark, getO_less, hb]
      · rfl
      · intro c hc ho
        have : c.at_ = w := by unfold Ob.oop at ho; omega
        rw [this]; exact hnot
    have hnoted : b.hd.noted = false := by
      cases hn : b.hd.noted with
      | false => rfl
      | true => exact absurd (by rw [← hbo]; exact hnt b hbm hn) hnl
    have hfree := free_spec p x i2 (8 * w) _ hbx hnoted
    refine GOH ?_
    refine st_call hfree (by rfl) (by exact SPx) (fun v Post hv => ?_)
    obtain ⟨⟨rfl, f1⟩, rfl⟩ := hv
    simp only [CNx]
    refine GOH ?_
    refine ⟨(i + 1, delW x (mkB y.s.line b).at_), ⟨by simp only; omega, f1, ?_⟩, by simp only; omega, by exact SUx, by exact IMx⟩
    show { x.a with obs := x.a.obs.filter fun c => decide (c.at_ ≠ b.at_) } = _
    rw [i3, filter_mark, hat, lessA_snoc, List.take_add_one, hw]; rfl
  rw [show decide ((i : Int) < ((goneM y.s).length : Int)) = false from decide_eq_false (by omega)]
  rw [List.take_of_length_le (by omega), gone_alive hy] at i3
  rw [hlk]
  refine GOH ?_
  refine VC.loop (α := Nat × HW) (Γf := fun s => [(1, ptr0 k1), (3, ptr0 k3), (30, .slice la y.s.line.length lc), (31, vi y.s.line.length), (32, vi s.1)]) (Hf := fun s => [S, cellsAt k1 0 [ptr0 q], cellsAt k3 0 [.slice ga (goneM y.s).length gc], cellsAt q 0 [ptr0 p, .slice la y.s.line.length lc, y.wv, y.fv], S2, slA y.wv (y.s.waiting.map uv) y.vs, slA y.fv (y.s.fired.map uv) y.fs, HA p s.2, TZ])
    (I := fun s => s.1 ≤ y.s.line.length ∧ HOk s.2 ∧ s.2.a = markA (aliveA y.s) (y.s.line.drop s.1)) (μ := fun s => y.s.line.length - s.1) (0, x) ⟨Nat.zero_le _, i2, by rw [List.drop_zero]; exact i3⟩ (by exact SUx) (by exact IMx) ?_
  rintro ⟨j, z⟩ ⟨j1, j2, j3⟩
  simp only at j1 j2 j3 ⊢
  refine GOH ?_
  by_cases hjt : j < y.s.line.length
  · rw [show decide ((j : Int) < (y.s.line.length : Int)) = true from decide_eq_true (by omega)]
    obtain ⟨o, ho⟩ : ∃ o, y.s.line[j]? = some o := ⟨_, List.getElem?_eq_getElem hjt⟩
    obtain ⟨bb, oo, rfl, hm1⟩ := hlrd j o ho
    obtain ⟨b, hb⟩ := Option.isSome_iff_exists.1 (hy.m.ob o (List.mem_of_getElem? ho))
    obtain ⟨hbm, hbo⟩ := getO_some hb
    have hbz : getO (aliveA y.s).obs o = some b := by
      rw [← gone_alive hy, getO_less, hb]
      intro c hc hco hcg
      have hd := (List.mem_filter.1 hcg).2
      have := (deadM_some hd).2
      rw [show 8 * c.at_ = o from hco] at this
      exact this (List.mem_of_getElem? ho)
    have hbz2 : getO z.a.obs o = some (mkB (y.s.line.drop j) b) := by rw [j3, getO_mark, hbz]; rfl
    have hmark := mark_spec p z j2 o _ hbz2 (hy.lt hb) false
    refine GOH ?_
    refine st_call hmark (by rfl) (by exact SPx) (fun v Post hv => ?_)
    obtain ⟨⟨rfl, f1⟩, rfl⟩ := hv
    simp only [CNx]
    refine GOH ?_
    refine ⟨(j + 1, turnW z (mkB (y.s.line.drop j) b) (setMk false)), ⟨by simp only; omega, f1, ?_⟩, by simp only; omega, by exact SUx, by exact IMx⟩
    show headA z.a _ _ = _
    unfold headA
    rw [j3]
    show { markA (aliveA y.s) (y.s.line.drop j) with obs := updO b.at_ (setH (setMk false)) (markA (aliveA y.s) (y.s.line.drop j)).obs } = _
    rw [mark_off, hbo, drop_filter hy.m.nd ho]
  rw [show decide ((j : Int) < (y.s.line.length : Int)) = false from decide_eq_false (by omega)]
  rw [List.drop_of_length_le (by omega)] at j3
  refine GOH ?_
  exact endQ_mk (.inr rfl) (.tmp (by rfl) .nil) ⟨z, ⟨rfl, j2, j3⟩, rfl⟩ (by exact IMx)
end Go.Proofs.YtmlnoodopoaafaaDoor
namespace Go.V
open Go
def partF (f : Nat → Nat) (xs : List Nat) (i : Nat) : List Nat := (xs.take i).map f ++ xs.drop i
theorem partF_len (f : Nat → Nat) (xs : List Nat) (i : Nat) : (partF f xs i).length = xs.length := by
  unfold partF; simp only [List.length_append, List.length_map, List.length_take, List.length_drop]; omega
theorem partF_get {f : Nat → Nat} {xs : List Nat} {i u : Nat} (h : xs[i]? = some u) : (partF f xs i)[i]? = some u := by
  have hi := (List.getElem?_eq_some_iff.1 h).1
  unfold partF
  have e : ((xs.take i).map f).length = i := by simp; omega
  rw [List.getElem?_append_right (by omega), e, Nat.sub_self, List.getElem?_drop, Nat.add_zero]; exact h
theorem partF_next {f : Nat → Nat} {xs : List Nat} {i u : Nat} (h : xs[i]? = some u) : partF f xs (i + 1) = (partF f xs i).set i (f u) := by
  have hi := (List.getElem?_eq_some_iff.1 h).1
  unfold partF
  have e : ((xs.take i).map f).length = i := by simp; omega
  have e2 : xs.drop i = u :: xs.drop (i + 1) := by
    have : xs[i] = u := (List.getElem?_eq_some_iff.1 h).2
    rw [← this]; exact List.drop_eq_getElem_cons hi
  rw [List.set_append_right _ _ (by omega), e, Nat.sub_self, e2, List.set_cons_zero, List.take_add_one, h]
  simp
theorem partF_same {f : Nat → Nat} {xs : List Nat} {i u : Nat} (h : xs[i]? = some u) (hf : f u = u) : partF f xs (i + 1) = partF f xs i := by
  rw [partF_next h, hf]
  refine List.ext_getElem? fun j => ?_
  by_cases e : i = j
  · subst e
    have hi := (List.getElem?_eq_some_iff.1 h).1
    rw [List.getElem?_set_self (by rw [partF_len]; exact hi), partF_get h]
  · rw [List.getElem?_set_ne e]
theorem partF_all (f : Nat → Nat) (xs : List Nat) : partF f xs xs.length = xs.map f := by
  unfold partF; simp
theorem partF_zero (f : Nat → Nat) (xs : List Nat) : partF f xs 0 = xs := by unfold partF; simp
end Go.V
namespace Go.Proofs.YtmlnoodopoaafaaDoor
open Go Go.V
set_option maxHeartbeats 6400000
set_option maxRecDepth 100000
theorem ren1_spec (k3 mb : Nat) (mv : List (Nat × Nat)) (es : Array MapEntry) (mc : Nat) (hm : MapIs kU uv es mc mv) (v : Value) (xs : List Nat) (sp : List Value) (h : IsSl 1 v xs.length (xs.map uv) sp) (hl : xs.length ≤ 1073741824) :
    FunV Tryd.prog (.func (.func 113) #[] #[ptr0 k3]) [v] [slA v (xs.map uv) sp, cellsAt k3 0 [.map (some mb)], [.obj mb (.map es mc)]]
      (fun r Post => r = .tuple #[] ∧ Post = [slA v ((xs.map (renO mv)).map uv) sp, cellsAt k3 0 [.map (some mb)], [.obj mb (.map es mc)]]) := by
  refine FunV.of_fun ?_
  simp only [List.nil_append, List.cons_append]
  obtain ⟨a, c, rfl⟩ := h.form
  have hsome : ∀ (i u : Nat), xs[i]? = some u → ∃ b o, a = some ⟨b, o, none⟩ := fun i u hu => by
    obtain ⟨a', c', e, hr⟩ := h.rdU
    obtain ⟨rfl, rfl⟩ : a = a' ∧ c = c' := by simpa using e
    obtain ⟨b, o, e, _⟩ := hr i u hu
    exact ⟨b, o, e⟩
  refine Fun.intro low113 (by simp [n113]) ?_
  refine GOH ?_
  refine VC.loop (α := Nat) (Γf := fun i => [(0, .slice a xs.length c), (1, ptr0 k3), (7, .slice a xs.length c), (8, vi xs.length), (9, vi i)]) (Hf := fun i => [slA (.slice a xs.length c) ((partF (renO mv) xs i).map uv) sp, cellsAt k3 0 [.map (some mb)], [.obj mb (.map es mc)]])
    (I := fun i => i ≤ xs.length) (μ := fun i => xs.length - i) 0 (Nat.zero_le _) (by exact SUx) (by rw [partF_zero]; exact IMx) ?_
  intro i hi
  refine GOH ?_
  by_cases hlt : i < xs.length
  rotate_left
  · rw [show decide ((i : Int) < (xs.length : Int)) = false from decide_eq_false (by omega)]
    obtain rfl : i = xs.length := by omega
    rw [partF_all]
    refine GOH ?_
    exact endQ_mk (.inl rfl) .nil ⟨rfl, rfl⟩ (by exact IMx)
  rw [show decide ((i : Int) < (xs.length : Int)) = true from decide_eq_true (by omega)]
  obtain ⟨u, hu⟩ : ∃ u, xs[i]? = some u := ⟨_, List.getElem?_eq_getElem hlt⟩
  obtain ⟨b, o, rfl⟩ := hsome i u hu
  have hmem := slA_mem (b := b) (o := o) (n := xs.length) (c := c) (sp := sp) (partF_get (f := renO mv) hu)
  generalize hB : slA (.slice (some ⟨b, o, none⟩) xs.length c) ((partF (renO mv) xs i).map uv) sp = B at hmem ⊢
  refine GOH ?_
  refine st_lookup (E := kU) (V := uv) (k := u) (by rfl) (by rfl) rfl (by (focus ((repeat (first | with_reducible exact HasO.here | apply HasO.there)); done))) hm ?_
  cases hg : mget u mv with
  | none =>
    have hf : renO mv u = u := by unfold renO; rw [hg]; rfl
    simp only [lookV, Option.map_none, if_true]
    refine GOH ?_
    refine ⟨i + 1, by omega, by omega, by exact SUx, ?_⟩
    rw [partF_same hu hf, hB]
    exact IMx
  | some w =>
    have hf : renO mv u = w := by unfold renO; rw [hg]; rfl
    simp only [lookV, Option.map_some, if_true]
    refine GOH ?_
    subst hB
    refine st_storeS (i := i) (m := w) (by rfl) (by rfl) (by exact TKx) (by rfl) (by rw [partF_len]; exact hlt) ?_
    refine GOH ?_
    refine ⟨i + 1, by omega, by omega, by exact SUx, ?_⟩
    rw [partF_next hu, hf]
    exact IMx
theorem forget_spec (p : Nat) (x : HW) (hx : HOk x) (h0 : x.a.ahead = []) (f t tp : Nat) :
    Fun Tryd.prog 99 [ptr0 p, .agg #[vi f, vi t, vi tp]] [HA p x] (fun v Post => v = .tuple #[] ∧ Post = [HA p x]) := by
  refine Fun.haR ?_
  have hmap := hx.map
  rw [h0] at hmap
  have hes : x.es.toList = [] := by
    have := hmap.of
    unfold MapOf at this
    simpa using this
  simp only [HMem, arrV]
  generalize cellsAt x.wb 0 _ = B1
  generalize cellsAt x.sb 0 _ = B2
  generalize cellsAt p 20 _ = B3
  generalize cellsAt p 84 _ = B4
  generalize cellsAt p 2 _ = B5
  refine Fun.intro low99 (by simp [n99]) ?_
  refine VC.seq_reg ?_
  refine st_box (by rfl) (fun k => ?_)
  simp only [Value.cells]
  refine GOH ?_
  refine st_rangeM (by rfl) (by (focus ((repeat (first | with_reducible exact HasO.here | apply HasO.there)); done))) (fun it => ?_)
  refine GOH ?_
  refine VC.loop (α := Unit) (Γf := fun _ => [(0, ptr0 p), (3, ptr0 k), (11, ptr0 it)]) (Hf := fun _ => [[.obj it (.mapIter (some x.mb) x.mc #[] x.mc)], cellsAt p 0 [.slice (some ⟨x.wb, 0, none⟩) x.ws.length x.ws.length, .slice (some ⟨x.sb, 0, none⟩) x.st.length x.st.length], cellsAt p 4180 [x.kv, x.qv, x.nv, .map (some x.mb), vi x.a.given], B5, B3, B4, B1, B2, slA x.kv (x.a.stack.map uv) x.ks, slA x.qv (x.a.queue.map uv) x.qs, slA x.nv (x.a.noted.map uv) x.ns, [.obj x.mb (.map x.es x.mc)]]) (I := fun _ => True) (μ := fun _ => 0) () trivial (by exact SUx) (by exact IMx) ?_
  intro _ _
  refine VC.seq_reg ?_
  refine st_next (by rfl) (by exact TKx) (by (focus ((repeat (first | with_reducible exact HasO.here | apply HasO.there)); done))) (by rw [hes]; simp) (fun _ => ?_) (fun e he _ => ?_)
  · refine GOH ?_
    exact endQ_mk (.inl rfl) .nil ⟨rfl, rfl⟩ (by exact IMx)
  · rw [hes] at he; cases he
end Go.Proofs.YtmlnoodopoaafaaDoor
namespace Go.V
open Go
theorem IsSl.mapU {v : Value} {n : Nat} {xs : List Nat} {sp : List Value} (f : Nat → Nat) (h : IsSl 1 v n (xs.map uv) sp) : IsSl 1 v n ((xs.map f).map uv) sp := by
  generalize hy : xs.map uv = ys at h
  cases h with
  | mk h1 h2 h3 =>
    have hl : ((xs.map f).map uv).length = ys.length := by rw [← hy]; simp
    exact .mk (by rw [hl]; exact h1) (by rw [hl]; exact h2) h3
  | nil =>
    have : xs = [] := by simpa using hy
    subst this
    exact .nil
def rootsR (f : Nat → Nat) (a : AH) : AH := { a with sp := a.sp.map f, cl := a.cl.map f, stack := a.stack.map f, queue := a.queue.map f, noted := a.noted.map f }
theorem HOk.rootsR {x : HW} (hx : HOk x) {f : Nat → Nat} (hf : ∀ o, o < 18446744073709551616 → f o < 18446744073709551616) : HOk { x with a := V.rootsR f x.a } := by
  have hm : ∀ {l : List Nat}, (∀ o ∈ l, o < 18446744073709551616) → ∀ o ∈ l.map f, o < 18446744073709551616 := fun {l} h o ho => by
    obtain ⟨u, hu, rfl⟩ := List.mem_map.1 ho
    exact hf u (h u hu)
  refine ⟨hx.lay, ⟨hx.rm.len, hx.rm.zero, hx.rm.rng, hx.rm.low, hx.rm.apart, hx.rm.inn⟩, ?_, ?_, hm hx.sps, hm hx.cls, hm hx.stks, hm hx.ques, hm hx.nots, ?_, ?_, ?_, hx.map, hx.given, ?_, ?_⟩
  · show (x.a.sp.map f).length = 64; rw [List.length_map]; exact hx.spl
  · show (x.a.cl.map f).length = 4096; rw [List.length_map]; exact hx.cll
  · show IsSl 1 x.kv (x.a.stack.map f).length _ _; rw [List.length_map]; exact hx.stk.mapU f
  · show IsSl 1 x.qv (x.a.queue.map f).length _ _; rw [List.length_map]; exact hx.que.mapU f
  · show IsSl 1 x.nv (x.a.noted.map f).length _ _; rw [List.length_map]; exact hx.note.mapU f
  · show (x.a.stack.map f).length ≤ 4096; rw [List.length_map]; exact hx.deep
  · show (x.a.queue.map f).length ≤ _ ∧ (x.a.noted.map f).length ≤ _; rw [List.length_map, List.length_map]; exact hx.few
structure MvOk (mv : List (Nat × Nat)) : Prop where
  lt : ∀ q ∈ mv, q.2 < 18446744073709551616
  key : ∀ q ∈ mv, q.1 % 8 = 0
theorem mget_memP {w v : Nat} : ∀ {mv : List (Nat × Nat)}, mget w mv = some v → (w, v) ∈ mv
  | [], h => by cases h
  | (a, c) :: r, h => by
    unfold mget at h
    by_cases e : a = w
    · rw [if_pos e] at h
      cases h; subst e; simp
    · rw [if_neg e] at h
      exact List.mem_cons_of_mem _ (mget_memP h)
theorem MvOk.ren {mv : List (Nat × Nat)} (h : MvOk mv) : ∀ o, o < 18446744073709551616 → renO mv o < 18446744073709551616 := fun o ho => by
  unfold renO
  cases e : mget o mv with
  | none => exact ho
  | some v => exact h.lt _ (mget_memP e)
theorem MvOk.small {mv : List (Nat × Nat)} (h : MvOk mv) {n : Nat} : mget (8 * n + 1) mv = none := by
  cases e : mget (8 * n + 1) mv with
  | none => rfl
  | some v => have := h.key _ (mget_memP e); omega
def renBi (mv : List (Nat × Nat)) (i : Nat) (b : Ob) : Ob := { b with body := partF (renO mv) (b.body.take b.many) i ++ b.body.drop b.many }
theorem keep_renBi (mv : List (Nat × Nat)) (i : Nat) : Keep (renBi mv i) := ⟨fun _ => rfl, fun _ => rfl⟩
theorem renBi_zero (mv : List (Nat × Nat)) (b : Ob) : renBi mv 0 b = b := by
  unfold renBi
  rw [partF_zero, List.take_append_drop]
theorem renBi_all {mv : List (Nat × Nat)} {b : Ob} (h : b.many ≤ b.body.length) : renBi mv b.many b = renB mv b := by
  unfold renBi renB
  have : (b.body.take b.many).length = b.many := by rw [List.length_take]; omega
  conv => lhs; rw [← this]
  simp only [this]
  rw [show partF (renO mv) (b.body.take b.many) b.many = (b.body.take b.many).map (renO mv) from by conv => lhs; arg 3; rw [← this]
                                                                                                    exact partF_all _ _]
theorem renBi_get {mv : List (Nat × Nat)} {b : Ob} {i u : Nat} (hi : i < b.many) (hu : b.body[i]? = some u) : (renBi mv i b).body[i]? = some u := by
  have ht : (b.body.take b.many)[i]? = some u := by rw [List.getElem?_take_of_lt hi]; exact hu
  show (partF (renO mv) (b.body.take b.many) i ++ b.body.drop b.many)[i]? = some u
  rw [List.getElem?_append_left (by rw [partF_len]; exact (List.getElem?_eq_some_iff.1 ht).1)]
  exact partF_get ht
theorem renBi_next {mv : List (Nat × Nat)} {b : Ob} {i u : Nat} (hi : i < b.many) (hu : b.body[i]? = some u) : setB i (renO mv u) (renBi mv i b) = renBi mv (i + 1) b := by
  have ht : (b.body.take b.many)[i]? = some u := by rw [List.getElem?_take_of_lt hi]; exact hu
  unfold setB renBi
  simp only
  rw [List.set_append_left _ _ (by rw [partF_len]; exact (List.getElem?_eq_some_iff.1 ht).1), ← partF_next ht]
theorem renBi_same {mv : List (Nat × Nat)} {b : Ob} {i u : Nat} (hi : i < b.many) (hu : b.body[i]? = some u) (hf : renO mv u = u) : renBi mv (i + 1) b = renBi mv i b := by
  have ht : (b.body.take b.many)[i]? = some u := by rw [List.getElem?_take_of_lt hi]; exact hu
  unfold renBi
  rw [partF_same ht hf]
theorem updO_upd {obs : List Ob} (hs : obs.Pairwise fun x y => x.stop ≤ y.at_) {b : Ob} (hb : b ∈ obs) {f g h : Ob → Ob} (hf : Keep f) (e : g (f b) = h b) : updO b.at_ g (updO b.at_ f obs) = updO b.at_ h obs := by
  unfold updO
  rw [List.map_map]
  refine List.map_congr_left fun c hc => ?_
  simp only [Function.comp]
  by_cases hcb : c.at_ = b.at_
  · obtain rfl := sort_one hs hc hb hcb
    rw [if_pos rfl, if_pos (hf.at_ c), if_pos rfl, e]
  · rw [if_neg hcb, if_neg hcb, if_neg hcb]
theorem updO_eq {obs : List Ob} (hs : obs.Pairwise fun x y => x.stop ≤ y.at_) {b : Ob} (hb : b ∈ obs) {g h : Ob → Ob} (e : g b = h b) : updO b.at_ g obs = updO b.at_ h obs := by
  unfold updO
  refine List.map_congr_left fun c hc => ?_
  by_cases hcb : c.at_ = b.at_
  · obtain rfl := sort_one hs hc hb hcb
    rw [if_pos rfl, if_pos rfl, e]
  · rw [if_neg hcb, if_neg hcb]
theorem updO_idm {obs : List Ob} (hs : obs.Pairwise fun x y => x.stop ≤ y.at_) {b : Ob} (hb : b ∈ obs) {g : Ob → Ob} (e : g b = b) : updO b.at_ g obs = obs := by
  rw [updO_eq hs hb (h := id) e]
  unfold updO
  conv => rhs; rw [← List.map_id obs]
  exact List.map_congr_left fun c _ => by split <;> rfl
def renA (mv : List (Nat × Nat)) (a : AH) : AH := { rootsR (renO mv) a with obs := a.obs.map (renB mv) }
theorem slA_full {b o n c : Nat} {xs : List Value} : slA (.slice (some ⟨b, o, none⟩) n c) xs [] = cellsAt b o xs := by simp [slA]
end Go.V
namespace Go.Proofs.YtmlnoodopoaafaaDoor
open Go Go.V
set_option maxHeartbeats 6400000
set_option maxRecDepth 100000
theorem rename_spec (p mb : Nat) (x : HW) (hx : HOk x) (h0 : x.a.ahead = []) (mv : List (Nat × Nat)) (hmv : MvOk mv) (es : Array MapEntry) (mc : Nat) (hm : MapIs kU uv es mc mv) :
    Fun Tryd.prog 100 [ptr0 p, .map (some mb)] [HA p x, [.obj mb (.map es mc)], TZ] (fun v Post => ∃ z, (v = .tuple #[] ∧ HOk z ∧ z.a = renA mv x.a) ∧ Post = [HA p z, [.obj mb (.map es mc)], TZ]) := by
  have htab := tables_spec p x hx
  obtain ⟨a1, c1, k1⟩ := hx.stk.form
  obtain ⟨a2, c2, k2⟩ := hx.que.form
  obtain ⟨a3, c3, k3⟩ := hx.note.form
  have s1 := hx.stk
  have s2 := hx.que
  have s3 := hx.note
  have htv : tabV p x = [.slice (some ⟨p, 20, none⟩) 64 64, .slice (some ⟨p, 84, none⟩) 4096 4096, .slice a1 x.a.stack.length c1, .slice a2 x.a.queue.length c2] := by unfold tabV; rw [k1, k2]
  rw [htv] at htab
  rw [k1] at s1
  rw [k2] at s2
  rw [k3] at s3
  have hl1 := hx.spl
  have hl2 := hx.cll
  have hl3 := hx.deep
  have hl4 := hx.few
  have hmap := hx.map
  rw [h0] at hmap
  have hes : x.es.toList = [] := by
    have := hmap.of
    unfold MapOf at this
    simpa using this
  obtain ⟨x1, hx1⟩ : ∃ x1 : HW, x1 = { x with a := V.rootsR (renO mv) x.a } := ⟨_, rfl⟩
  have ok1 : HOk x1 := by rw [hx1]; exact hx.rootsR hmv.ren
  refine Fun.intro low100 (by simp [n100]) ?_
  refine VC.seq_reg ?_
  refine st_box (by rfl) (fun b2 => ?_)
  refine st_box (by rfl) (fun b3 => ?_)
  simp only [Value.cells]
  refine GOH ?_
  refine st_callS htab (by rfl) (by exact TKx) ?_
  refine GOH ?_
  refine VC.imp (H' := HMem p x ++ [cellsAt b3 0 [.map (some mb)], cellsAt b2 0 [ptr0 p], [.obj mb (.map es mc)], TZ]) ?_ ?_
  · refine Imp.cut (M := HA p x :: [cellsAt b3 0 [.map (some mb)], cellsAt b2 0 [ptr0 p], [.obj mb (.map es mc)], TZ]) (by exact IMx) (Imp.perm (by simp [HA]))
  simp only [HMem, arrV, List.cons_append, List.nil_append]
  rw [← slA_full (n := 64) (c := 64) (b := p) (o := 20), ← slA_full (n := 4096) (c := 4096) (b := p) (o := 84), k1, k2, k3]
  generalize hWS : cellsAt x.wb 0 (x.ws.map uv) = WS
  generalize hST : cellsAt x.sb 0 (x.st.map uv) = ST
  generalize hRM : cellsAt p 2 (x.a.rm.flatMap rmEnc) = RM
  refine VC.loop (α := Nat × List Nat × List Nat × List Nat × List Nat) (Γf := fun s => [(2, ptr0 b2), (3, ptr0 b3), (4, .func (.func 113) #[] #[ptr0 b3]), (23, .agg #[.slice (some ⟨p, 20, none⟩) 64 64, .slice (some ⟨p, 84, none⟩) 4096 4096, .slice a1 x.a.stack.length c1, .slice a2 x.a.queue.length c2]), (24, vi (newI s.1))])
    (Hf := fun s => [cellsAt p 0 [.slice (some ⟨x.wb, 0, none⟩) x.ws.length x.ws.length, .slice (some ⟨x.sb, 0, none⟩) x.st.length x.st.length], cellsAt p 4180 [.slice a1 x.a.stack.length c1, .slice a2 x.a.queue.length c2, .slice a3 x.a.noted.length c3, .map (some x.mb), vi x.a.given], RM, slA (.slice (some ⟨p, 20, none⟩) 64 64) (s.2.1.map uv) [], slA (.slice (some ⟨p, 84, none⟩) 4096 4096) (s.2.2.1.map uv) [],
      WS, ST, slA (.slice a1 x.a.stack.length c1) (s.2.2.2.1.map uv) x.ks, slA (.slice a2 x.a.queue.length c2) (s.2.2.2.2.map uv) x.qs, slA (.slice a3 x.a.noted.length c3) (x.a.noted.map uv) x.ns, [.obj x.mb (.map x.es x.mc)], cellsAt b3 0 [.map (some mb)], cellsAt b2 0 [ptr0 p], [.obj mb (.map es mc)], TZ])
    (I := fun s => s.1 ≤ 4 ∧ s.2.1 = (if 0 < s.1 then x.a.sp.map (renO mv) else x.a.sp) ∧ s.2.2.1 = (if 1 < s.1 then x.a.cl.map (renO mv) else x.a.cl) ∧ s.2.2.2.1 = (if 2 < s.1 then x.a.stack.map (renO mv) else x.a.stack) ∧ s.2.2.2.2 = (if 3 < s.1 then x.a.queue.map (renO mv) else x.a.queue))
    (μ := fun s => 4 - s.1) (0, x.a.sp, x.a.cl, x.a.stack, x.a.queue) ⟨by simp only; omega, by simp, by simp, by simp, by simp⟩ (by exact SUx) (by exact IMx) ?_
  rintro ⟨t, A, B, C, D⟩ ⟨t1, tA, tB, tC, tD⟩
  simp only at t1 tA tB tC tD ⊢
  have ht : t = 0 ∨ t = 1 ∨ t = 2 ∨ t = 3 ∨ t = 4 := by omega
  rcases ht with rfl | rfl | rfl | rfl | rfl
  · rw [show newI 0 = 0 from rfl]
    obtain rfl : A = x.a.sp := by simpa using tA
    refine GOH ?_
    refine st_callV (by rfl) (ren1_spec b3 mb mv es mc hm (.slice (some ⟨p, 20, none⟩) 64 64) x.a.sp [] (by rw [hl1]; exact .mk (by simp [hl1]) (by simp [hl1]) (Nat.le_refl _)) (by omega)) (by rfl) (by exact SPx) (fun v Post hv => ?_)
    obtain ⟨rfl, rfl⟩ := hv
    simp only [CNx]
    refine GOH ?_
    exact ⟨(1, x.a.sp.map (renO mv), B, C, D), ⟨by simp only; omega, by simp, by simpa using tB, by simpa using tC, by simpa using tD⟩, by simp only; omega, by exact SUx, by exact IMx⟩
  · rw [show newI 1 = 1 from rfl]
    obtain rfl : B = x.a.cl := by simpa using tB
    refine GOH ?_
    refine st_callV (by rfl) (ren1_spec b3 mb mv es mc hm (.slice (some ⟨p, 84, none⟩) 4096 4096) x.a.cl [] (by rw [hl2]; exact .mk (by simp [hl2]) (by simp [hl2]) (Nat.le_refl _)) (by omega)) (by rfl) (by exact SPx) (fun v Post hv => ?_)
    obtain ⟨rfl, rfl⟩ := hv
    simp only [CNx]
    refine GOH ?_
    exact ⟨(2, A, x.a.cl.map (renO mv), C, D), ⟨by simp only; omega, by simpa using tA, by simp, by simpa using tC, by simpa using tD⟩, by simp only; omega, by exact SUx, by exact IMx⟩
  · rw [show newI 2 = 2 from rfl]
    obtain rfl : C = x.a.stack := by simpa using tC
    refine GOH ?_
    refine st_callV (by rfl) (ren1_spec b3 mb mv es mc hm (.slice a1 x.a.stack.length c1) x.a.stack x.ks s1 (by omega)) (by rfl) (by exact SPx) (fun v Post hv => ?_)
    obtain ⟨rfl, rfl⟩ := hv
    simp only [CNx]
    refine GOH ?_
    exact ⟨(3, A, B, x.a.stack.map (renO mv), D), ⟨by simp only; omega, by simpa using tA, by simpa using tB, by simp, by simpa using tD⟩, by simp only; omega, by exact SUx, by exact IMx⟩
  · rw [show newI 3 = 3 from rfl]
    obtain rfl : D = x.a.queue := by simpa using tD
    refine GOH ?_
    refine st_callV (by rfl) (ren1_spec b3 mb mv es mc hm (.slice a2 x.a.queue.length c2) x.a.queue x.qs s2 (by omega)) (by rfl) (by exact SPx) (fun v Post hv => ?_)
    obtain ⟨rfl, rfl⟩ := hv
    simp only [CNx]
    refine GOH ?_
    exact ⟨(4, A, B, C, x.a.queue.map (renO mv)), ⟨by simp only; omega, by simpa using tA, by simpa using tB, by simpa using tC, by simp⟩, by simp only; omega, by exact SUx, by exact IMx⟩
  rw [show newI 4 = 4 from rfl]
  obtain rfl : A = x.a.sp.map (renO mv) := by simpa using tA
  obtain rfl : B = x.a.cl.map (renO mv) := by simpa using tB
  obtain rfl : C = x.a.stack.map (renO mv) := by simpa using tC
  obtain rfl : D = x.a.queue.map (renO mv) := by simpa using tD
  refine GOH ?_
  refine st_callV (by rfl) (ren1_spec b3 mb mv es mc hm (.slice a3 x.a.noted.length c3) x.a.noted x.ns s3 (by omega)) (by rfl) (by exact SPx) (fun v Post hv => ?_)
  obtain ⟨rfl, rfl⟩ := hv
  simp only [CNx]
  refine GOH ?_
  refine st_rangeM (by rfl) (by (focus ((repeat (first | with_reducible exact HasO.here | apply HasO.there)); done))) (fun it => ?_)
  refine GOH ?_
  refine VC.loop (α := Unit) (Γf := fun _ => [(2, ptr0 b2), (3, ptr0 b3), (41, ptr0 it)]) (Hf := fun _ => [[.obj it (.mapIter (some x.mb) x.mc #[] x.mc)], cellsAt p 0 [.slice (some ⟨x.wb, 0, none⟩) x.ws.length x.ws.length, .slice (some ⟨x.sb, 0, none⟩) x.st.length x.st.length], cellsAt p 4180 [.slice a1 x.a.stack.length c1, .slice a2 x.a.queue.length c2, .slice a3 x.a.noted.length c3, .map (some x.mb), vi x.a.given], RM, slA (.slice (some ⟨p, 20, none⟩) 64 64) ((x.a.sp.map (renO mv)).map uv) [], slA (.slice (some ⟨p, 84, none⟩) 4096 4096) ((x.a.cl.map (renO mv)).map uv) [],
      WS, ST, slA (.slice a1 x.a.stack.length c1) ((x.a.stack.map (renO mv)).map uv) x.ks, slA (.slice a2 x.a.queue.length c2) ((x.a.queue.map (renO mv)).map uv) x.qs, slA (.slice a3 x.a.noted.length c3) ((x.a.noted.map (renO mv)).map uv) x.ns, [.obj x.mb (.map x.es x.mc)], cellsAt b3 0 [.map (some mb)], cellsAt b2 0 [ptr0 p], [.obj mb (.map es mc)], TZ]) (I := fun _ => True) (μ := fun _ => 0) () trivial (by exact SUx) (by exact IMx) ?_
  intro _ _
  refine VC.seq_reg ?_
  refine st_next (by rfl) (by exact TKx) (by (focus ((repeat (first | with_reducible exact HasO.here | apply HasO.there)); done))) (by rw [hes]; simp) (fun _ => ?_) (fun e he _ => by rw [hes] at he; cases he)
  refine GOH ?_
  have hfold : Imp [cellsAt p 0 [.slice (some ⟨x.wb, 0, none⟩) x.ws.length x.ws.length, .slice (some ⟨x.sb, 0, none⟩) x.st.length x.st.length], cellsAt p 4180 [.slice a1 x.a.stack.length c1, .slice a2 x.a.queue.length c2, .slice a3 x.a.noted.length c3, .map (some x.mb), vi x.a.given], RM, slA (.slice (some ⟨p, 20, none⟩) 64 64) ((x.a.sp.map (renO mv)).map uv) [], slA (.slice (some ⟨p, 84, none⟩) 4096 4096) ((x.a.cl.map (renO mv)).map uv) [],
      WS, ST, slA (.slice a1 x.a.stack.length c1) ((x.a.stack.map (renO mv)).map uv) x.ks, slA (.slice a2 x.a.queue.length c2) ((x.a.queue.map (renO mv)).map uv) x.qs, slA (.slice a3 x.a.noted.length c3) ((x.a.noted.map (renO mv)).map uv) x.ns, [.obj x.mb (.map x.es x.mc)], cellsAt b3 0 [.map (some mb)], cellsAt b2 0 [ptr0 p], [.obj mb (.map es mc)], TZ] [HA p x1, TZ, cellsAt b2 0 [ptr0 p], cellsAt b3 0 [.map (some mb)], [.obj mb (.map es mc)]] := by
    refine Imp.cut (M := HMem p x1 ++ [TZ, cellsAt b2 0 [ptr0 p], cellsAt b3 0 [.map (some mb)], [.obj mb (.map es mc)]]) ?_ (Imp.perm (by simp [HA]))
    rw [hx1]
    simp only [HMem, arrV, V.rootsR, List.cons_append, List.nil_append, hWS, hST, hRM, slA_full, k1, k2, k3]
    exact IMx
  refine VC.loop (α := Nat × HW) (Γf := fun s => [(2, ptr0 b2), (3, ptr0 b3), (11, cv s.1)]) (Hf := fun s => [HA p s.2, TZ, cellsAt b2 0 [ptr0 p], cellsAt b3 0 [.map (some mb)], [.obj mb (.map es mc)]])
    (I := fun s => 1 ≤ s.1 ∧ s.1 ≤ 6 ∧ HOk s.2 ∧ s.2.a = { x1.a with obs := turnL (renB mv) ((preP x1.a s.1).map fun r : Nat × Nat => r.2) x1.a.obs }) (μ := fun s => 6 - s.1) (1, x1) ⟨Nat.le_refl _, by simp only; omega, ok1, by simp only [preP, List.map_nil, turnL_nil]⟩ (by exact SUx) (Imp.cut (by exact IMx) hfold) ?_
  rintro ⟨t, z⟩ ⟨j1, j2, j3, j4⟩
  simp only at j1 j2 j3 j4 ⊢
  refine GOH ?_
  by_cases h5 : t ≤ 5
  rotate_left
  · obtain rfl : t = 6 := by omega
    rw [show decide (((6 : Nat) : Int) ≤ 5) = false from rfl]
    refine GOH ?_
    refine endQ_mk (.inl rfl) .nil ⟨z, ⟨rfl, j3, ?_⟩, rfl⟩ (by exact IMx)
    rw [j4]
    have : (preP x1.a 6).map (fun r : Nat × Nat => r.2) = eachL x1.a := eachP_fst x1.a
    rw [this, turnL_all (fun b hb => (mem_eachL ok1).2 ⟨b, hb, rfl⟩), hx1]
    rfl
  rw [show decide ((t : Int) ≤ 5) = true from decide_eq_true (by omega)]
  refine GOH ?_
  refine st_call (walk_spec p t) (by rfl) Spl.nil (fun v Post hv => ?_)
  obtain ⟨q1, q2, rfl, rfl⟩ := hv
  simp only [CNx]
  refine GOH ?_
  obtain ⟨rr, hrr⟩ := preP_all x1.a j1 h5
  have hkp := keep_renB mv
  have hOk : ∀ {c : List Nat} {w : Nat}, OkC (fun full => full = roomL x1.a t) (c ++ [w]) → OkC (fun full => full = eachP x1.a) ((preP x1.a t ++ c.map fun w => (t, w)) ++ [(t, w)]) := fun {c w} ⟨r, hr⟩ => by
    refine ⟨(r.map fun w => (t, w)) ++ rr, ?_⟩
    show _ = eachP x1.a
    rw [hrr]
    unfold roomP
    rw [← hr]
    simp [List.append_assoc]
  refine VC.rangefA (fun c A' => ∃ z2, (HOk z2 ∧ z2.a = { x1.a with obs := turnL (renB mv) ((preP x1.a t ++ c.map fun w => (t, w)).map fun r : Nat × Nat => r.2) x1.a.obs }) ∧ A' = [HA p z2, TZ, cellsAt b2 0 [ptr0 p], cellsAt b3 0 [.map (some mb)], [.obj mb (.map es mc)]].flatten) ([HA p z, TZ, cellsAt b2 0 [ptr0 p], cellsAt b3 0 [.map (some mb)], [.obj mb (.map es mc)]].flatten) (by rfl) (walk_iter p q1 q2 t x1 ok1 j1 h5) (fun A B h => h.more B) ?_ (R := [HA p z, TZ, cellsAt b2 0 [ptr0 p], cellsAt b3 0 [.map (some mb)], [.obj mb (.map es mc)]]) (by exact SPx) ?_ ⟨z, ⟨j3, by rw [List.map_nil, List.append_nil]; exact j4⟩, rfl⟩ (fun _ => rfl) ?_ ?_
  · rintro c A' ⟨z2, ⟨h, h2⟩, rfl⟩
    refine ⟨z2, cellsAt b2 0 [ptr0 p] ++ (cellsAt b3 0 [.map (some mb)] ++ [.obj mb (.map es mc)]), by simp [List.append_assoc], h, by rw [h2]; exact ats_turn hkp _ _, by rw [h2]; rfl, by rw [h2]; rfl⟩
  · exact Imp.perm (by simp)
  · rintro c w A' hok ⟨z2, ⟨g1, g2⟩, rfl⟩
    obtain ⟨b, hb, hbw, hnw⟩ := okE ok1 (hOk hok)
    have hbz : getO z2.a.obs (8 * w) = some b := by
      rw [g2]
      show getO (turnL _ _ _) _ = _
      rw [getO_turn hkp, hb, Option.map_some, hbw, if_neg hnw]
    have hbm := (getO_some hbz).1
    have hob := g1.lay.ok b hbm
    have hmany := hob.many
    have hsl := hob.may.slots
    have hlen := hob.len
    have hat := at_spec p z2 g1 (8 * w) (g1.oop_lt hbz)
    obtain ⟨hwo, _⟩ := g1.word hbz
    rw [hbz, hwo] at hat
    have hpa := parts_spec p z2 g1 b hbm
    unfold partA at hpa
    simp only [bindE]
    refine VC.imp (H' := [HA p z2, TZ, cellsAt b2 0 [ptr0 p], cellsAt b3 0 [.map (some mb)], [.obj mb (.map es mc)]]) (Imp.perm (by simp)) ?_
    refine VC.reg ?_
    refine GOH ?_
    refine ⟨trivial, ?_⟩
    refine GOH ?_
    refine st_callS hat (by rfl) (by exact TKx) ?_
    refine GOH ?_
    refine st_callS hpa (by rfl) (by exact TKx) ?_
    refine GOH ?_
    refine VC.loop (α := Nat × HW) (Γf := fun s => [(3, ptr0 b3), (15, .slice (some ⟨s.2.wb, b.off, none⟩) b.many b.many), (80, .slice (some ⟨s.2.wb, b.off, none⟩) b.many b.many), (81, vi b.many), (82, vi s.1)]) (Hf := fun s => [HA p s.2, TZ, cellsAt b2 0 [ptr0 p], cellsAt b3 0 [.map (some mb)], [.obj mb (.map es mc)]])
      (I := fun s => s.1 ≤ b.many ∧ HOk s.2 ∧ s.2.a = { z2.a with obs := updO b.at_ (renBi mv s.1) z2.a.obs }) (μ := fun s => b.many - s.1) (0, z2) ⟨Nat.zero_le _, g1, by simp only; rw [updO_idm g1.lay.sort hbm (renBi_zero mv b)]⟩ (by exact SUx) (by exact IMx) ?_
    rintro ⟨i, u⟩ ⟨i1, i2, i3⟩
    simp only at i1 i2 i3 ⊢
    refine GOH ?_
    by_cases hlt : i < b.many
    rotate_left
    · rw [show decide ((i : Int) < (b.many : Int)) = false from decide_eq_false (by omega)]
      obtain rfl : i = b.many := by omega
      refine GOH ?_
      refine ⟨[HA p u, TZ, cellsAt b2 0 [ptr0 p], cellsAt b3 0 [.map (some mb)], [.obj mb (.map es mc)]].flatten, ⟨u, ⟨i2, ?_⟩, rfl⟩, Imp.cut (M := [HA p u, TZ, cellsAt b2 0 [ptr0 p], cellsAt b3 0 [.map (some mb)], [.obj mb (.map es mc)]]) (by exact IMx) (Imp.perm (by simp))⟩
      rw [i3, updO_eq g1.lay.sort hbm (h := renB mv) (renBi_all (by omega)), g2]
      simp only
      rw [hbw, turnL_snoc hkp hnw]
      simp [List.map_append]
    rw [show decide ((i : Int) < (b.many : Int)) = true from decide_eq_true (by omega)]
    obtain ⟨o, ho⟩ : ∃ o, b.body[i]? = some o := ⟨_, List.getElem?_eq_getElem (by omega)⟩
    have hbu : renBi mv i b ∈ u.a.obs := by rw [i3]; exact mem_updO.2 ⟨b, hbm, by rw [if_pos rfl]⟩
    have hget := i2.slot hbu (renBi_get (mv := mv) hlt ho)
    have hoff : (renBi mv i b).off = b.off := rfl
    rw [hoff] at hget
    have hmem := ha_mem (p := p) hget.1
    refine GOH ?_
    refine st_lookup (E := kU) (V := uv) (k := o) (by rfl) (by rfl) rfl (by (focus ((repeat (first | with_reducible exact HasO.here | apply HasO.there)); done))) hm ?_
    cases hg : mget o mv with
    | none =>
      have hf : renO mv o = o := by unfold renO; rw [hg]; rfl
      simp only [lookV, Option.map_none, if_true]
      refine GOH ?_
      refine ⟨(i + 1, u), ⟨by simp only; omega, i2, ?_⟩, by simp only; omega, by exact SUx, by exact IMx⟩
      simp only
      rw [i3, updO_eq g1.lay.sort hbm (renBi_same hlt ho hf)]
    | some v =>
      have hf : renO mv o = v := by unfold renO; rw [hg]; rfl
      have hv := hmv.ren o hget.2
      rw [hf] at hv
      have h6 : (renBi mv i b).hd.fmt = 6 → i ≠ 0 := fun e e0 => by
        subst e0
        obtain ⟨n0, r0, e1, _⟩ := hob.meth e
        rw [e1] at ho
        simp only [List.getElem?_cons_zero, Option.some.injEq] at ho
        rw [← ho, hmv.small] at hg
        cases hg
      have key := i2.setB hbu (i := i) (v := v) (by show i < b.hd.slots; omega) hv h6
      rw [hoff] at key
      have hhi := i2.lay.high _ hbu
      have hoi : b.off + i < u.ws.length := (List.getElem?_eq_some_iff.1 hget.1).1
      simp only [lookV, Option.map_some, if_true]
      refine GOH ?_
      refine st_storeW (by rfl) (by rfl) (by exact TKx) hoi ?_
      refine GOH ?_
      refine ⟨(i + 1, { u with a := { u.a with obs := updO (renBi mv i b).at_ (V.setB i v) u.a.obs }, ws := u.ws.set (b.off + i) v }), ⟨by simp only; omega, key, ?_⟩, by simp only; omega, by exact SUx, by show Imp _ [HA p { u with ws := u.ws.set (b.off + i) v }, TZ, cellsAt b2 0 [ptr0 p], cellsAt b3 0 [.map (some mb)], [.obj mb (.map es mc)]]; exact IMx⟩
      show { u.a with obs := updO b.at_ (V.setB i v) u.a.obs } = _
      rw [i3]
      simp only
      rw [updO_upd g1.lay.sort hbm (keep_renBi mv i) (h := renBi mv (i + 1)) (by rw [← hf]; exact renBi_next hlt ho)]
  · rintro full A' hfu ⟨z2, ⟨g1, g2⟩, rfl⟩
    subst hfu
    simp only [List.nil_append, V.blockQ, V.thenQ]
    refine VC.imp (H' := [HA p z2, TZ, cellsAt b2 0 [ptr0 p], cellsAt b3 0 [.map (some mb)], [.obj mb (.map es mc)]]) (Imp.perm (by simp)) ?_
    refine GOH ?_
    refine ⟨(t + 1, z2), ⟨by simp only; omega, by simp only; omega, g1, ?_⟩, by simp only; omega, by exact SUx, by exact IMx⟩
    simp only
    rw [g2, ← preP_next x1.a j1 h5]; rfl
end Go.Proofs.YtmlnoodopoaafaaDoor
namespace Go.V
open Go
theorem ha_rm {p : Nat} {x : HW} {sp f t tp : Nat} (hr : x.a.rm[sp]? = some (f, t, tp)) : Atom.cell p (2 + sp * 3) (vi f) ∈ HA p x ∧ Atom.cell p (2 + sp * 3 + 1) (vi t) ∈ HA p x ∧ Atom.cell p (2 + sp * 3 + 2) (vi tp) ∈ HA p x := by
  obtain ⟨R, hR⟩ := ha_room p x hr
  have h : ∀ i v, (rmEnc (f, t, tp))[i]? = some v → Atom.cell p (2 + sp * 3 + i) v ∈ HA p x := fun i v hv => hR.symm.subset (List.mem_append_left _ (mem_cellsAt.2 ⟨i, v, hv, rfl⟩))
  exact ⟨h 0 _ rfl, h 1 _ rfl, h 2 _ rfl⟩
theorem ha_arr {p : Nat} {x : HW} : Atom.cell p 0 (.slice (some ⟨x.wb, 0, none⟩) x.ws.length x.ws.length) ∈ HA p x := by
  simp [HA, HMem, cellsAt, arrV]
theorem HOk.top {x : HW} (hx : HOk x) {f t tp to : Nat} (hr : x.a.rm[4]? = some (f, t, tp)) (h1 : f ≤ to) (h2 : to ≤ t) (hs : ∀ b ∈ x.a.obs, f ≤ b.at_ → b.at_ < t → b.stop ≤ to) : HOk { x with a := { x.a with rm := x.a.rm.set 4 (f, t, to) } } := by
  have hget : ∀ (i : Nat) r, (x.a.rm.set 4 (f, t, to))[i]? = some r → ∃ r', x.a.rm[i]? = some r' ∧ r.1 = r'.1 ∧ r.2.1 = r'.2.1 ∧ ((i = 4 ∧ r = (f, t, to)) ∨ (i ≠ 4 ∧ r = r')) := fun i r h => by
    by_cases e : i = 4
    · subst e
      rw [List.getElem?_set_self (List.getElem?_eq_some_iff.1 hr).1] at h
      cases h
      exact ⟨_, hr, rfl, rfl, .inl ⟨rfl, rfl⟩⟩
    · rw [List.getElem?_set_ne (fun h => e h.symm)] at h
      exact ⟨r, h, rfl, rfl, .inr ⟨e, rfl⟩⟩
  have hr4 := hx.rm.rng 4 _ hr
  simp only at hr4
  refine ⟨hx.lay, ⟨?_, ?_, fun i r h => ?_, fun i r hi h => ?_, fun i j r s hij h k hi => ?_, fun b hb => ?_⟩, hx.spl, hx.cll, hx.sps, hx.cls, hx.stks, hx.ques, hx.nots, hx.stk, hx.que, hx.note, hx.map, hx.given, hx.deep, hx.few⟩
  · show (x.a.rm.set 4 _).length = 6
    rw [List.length_set]; exact hx.rm.len
  · show (x.a.rm.set 4 _)[0]? = _
    rw [List.getElem?_set_ne (by omega)]; exact hx.rm.zero
  · obtain ⟨r', g1, g2, g3, g4⟩ := hget i r h
    have := hx.rm.rng i r' g1
    rcases g4 with ⟨rfl, rfl⟩ | ⟨_, rfl⟩
    · simp only at g2 g3 ⊢; omega
    · exact this
  · obtain ⟨r', g1, g2, g3, g4⟩ := hget i r h
    rw [g2]; exact hx.rm.low i r' hi g1
  · obtain ⟨r', g1, g2, g3, _⟩ := hget i r h
    obtain ⟨s', k1, k2, k3, _⟩ := hget j s k
    rw [g2, g3, k2, k3]; exact hx.rm.apart i j r' s' hij g1 k1 hi
  · obtain ⟨i, r, g1, g2, g3, g4⟩ := hx.rm.inn b hb
    by_cases e : i = 4
    · subst e
      rw [hr] at g2
      cases g2
      rw [if_neg (by omega)] at g4
      simp only at g3 g4
      have hbs : b.at_ < b.stop := by unfold Ob.stop; omega
      exact ⟨4, _, g1, List.getElem?_set_self (List.getElem?_eq_some_iff.1 hr).1, g3, by rw [if_neg (by omega)]; exact hs b hb g3 (by omega)⟩
    · exact ⟨i, r, g1, by show (x.a.rm.set 4 _)[i]? = _; rw [List.getElem?_set_ne (fun h => e h.symm)]; exact g2, g3, g4⟩
theorem slidMv_bound : ∀ (l : List Ob) (to m : Nat), slidEnd to l ≤ m → ∀ q ∈ slidMv to l, q.2 ≤ m
  | [], _, _, _, q, h => by cases h
  | b :: r, to, m, hm, q, h => by
    have h0 := slidEnd_le r (to + 2 + b.hd.slots)
    have hm2 : slidEnd (to + 2 + b.hd.slots) r ≤ m := hm
    unfold slidMv at h
    rcases List.mem_append.1 h with h | h
    · split at h
      · cases h
      · rw [List.mem_singleton.1 h]; simp only; omega
    · exact slidMv_bound r _ m hm2 q h
theorem slidMv_snoc (A : List Ob) (b : Ob) (to : Nat) : slidMv to (A ++ [b]) = slidMv to A ++ (if b.at_ = slidEnd to A then [] else [(b.at_, slidEnd to A)]) := by
  rw [slidMv_app]
  simp [slidMv]
theorem slidEnd_snoc (A : List Ob) (b : Ob) (to : Nat) : slidEnd to (A ++ [b]) = slidEnd to A + 2 + b.hd.slots := by
  rw [slidEnd_app]; rfl
end Go.V
namespace Go.Proofs.YtmlnoodopoaafaaDoor
open Go Go.V
set_option maxHeartbeats 6400000
set_option maxRecDepth 100000
theorem slide_spec (p : Nat) (x : HW) (hx : HOk x) (h0 : x.a.ahead = []) :
    Fun Tryd.prog 62 [ptr0 p] [HA p x, TZ] (fun v Post => ∃ z, (v = vi (slideM x.a).length ∧ HOk z ∧ z.a = slideA x.a) ∧ Post = [HA p z, TZ]) := by
  obtain ⟨f, t, tp, hr, hroom, r1, r2, r3⟩ := room4 hx
  have hlow := hx.rm.low 4 _ (by omega) hr
  simp only at hlow
  have hwl := hx.lay.len
  have hstl := hx.lay.stl
  have facts : ∀ z : HW, z.a.rm = x.a.rm → Atom.cell p 14 (vi f) ∈ HA p z ∧ Atom.cell p 15 (vi t) ∈ HA p z ∧ Atom.cell p 16 (vi tp) ∈ HA p z := fun z hz => ha_rm (sp := 4) (by rw [hz]; exact hr)
  obtain ⟨m1, m2, m3⟩ := facts x rfl
  have hn0 := nextN_spec p x hx f t (by omega) (by omega)
  rw [slide_first hx hr] at hn0
  have hsp0 : slideK x.a [] (oldO x.a) = x.a := by
    unfold slideK
    simp only [slid, List.nil_append]
    rw [← old_split hx]
  refine Fun.intro low62 (by simp [n62]) ?_
  refine GOH ?_
  refine st_mkmap (fun mb => ?_)
  refine GOH ?_
  refine st_call hn0 (by rfl) (by exact SPx) (fun v Post hv => ?_)
  obtain ⟨rfl, rfl⟩ := hv
  simp only [CNx]
  refine GOH ?_
  refine VC.loop (α := List Ob × List Ob × HW × Array MapEntry × Nat) (Γf := fun s => [(0, ptr0 p), (3, .pointer (some ⟨p, 14, none⟩)), (4, .map (some mb)), (5, vi (slidEnd f s.1)), (6, vi (headW s.2.1))]) (Hf := fun s => [HA p s.2.2.1, TZ, [.obj mb (.map s.2.2.2.1 s.2.2.2.2)]])
    (I := fun s => oldO x.a = s.1 ++ s.2.1 ∧ HOk s.2.2.1 ∧ s.2.2.1.a = slideK x.a s.1 s.2.1 ∧ MapIs kU uv s.2.2.2.1 s.2.2.2.2 (mvO (slidMv f s.1)) ∧ slidEnd f s.1 ≤ tp) (μ := fun s => s.2.1.length) ([], oldO x.a, x, #[], 0) ⟨rfl, hx, hsp0.symm, .nil, r1⟩ (by exact SUx) (by exact IMx) ?_
  rintro ⟨A, D, z, es, mc⟩ ⟨i1, i2, i3, i4, i5⟩
  simp only at i1 i2 i3 i4 i5 ⊢
  cases D with
  | nil =>
    rw [show headW [] = -1 from rfl]
    refine GOH ?_
    rw [List.append_nil] at i1
    have hoA : A = oldO x.a := i1.symm
    have hzr : z.a.rm[4]? = some (f, t, tp) := by rw [i3]; exact hr
    have hfe := slidEnd_le A f
    have hzo : z.a.obs = lowO x.a ++ (slid f A ++ highO x.a) := by
      rw [i3]
      unfold slideK
      rw [hroom]
      simp
    have htop := i2.top hzr hfe (by omega) (fun b hb hb1 hb2 => by
      rw [hzo] at hb
      simp only [List.mem_append] at hb
      rcases hb with hb | hb | hb
      · have := (List.mem_filter.1 hb).2
        rw [hroom] at this
        simp only [decide_eq_true_eq] at this; omega
      · exact (slid_bound A f b hb).2
      · have := (List.mem_filter.1 hb).2
        rw [hroom] at this
        simp only [decide_eq_true_eq] at this; omega)
    obtain ⟨zt, hzt⟩ : ∃ zt : HW, zt = { z with a := { z.a with rm := z.a.rm.set 4 (f, t, slidEnd f A) } } := ⟨_, rfl⟩
    rw [← hzt] at htop
    have hta : zt.a = { x.a with rm := x.a.rm.set 4 (f, t, slidEnd f A), obs := slideObs x.a } := by
      rw [hzt]
      simp only
      rw [i3]
      unfold slideK slideObs
      rw [hroom, hoA]
      simp
    have hah : zt.a.ahead = [] := by rw [hta]; exact h0
    obtain ⟨r0, ra, rb, rc, rd, re, hrm⟩ := rm_six i2.rm.len
    have hrd : rd = (f, t, tp) := by rw [hrm] at hzr; simpa using hzr
    subst hrd
    obtain ⟨HT, hHT⟩ : ∃ HT : SH, HT = [HA p zt, TZ, [.obj mb (.map es mc)]] := ⟨_, rfl⟩
    have hfold : Imp (HMem p zt ++ [TZ, [.obj mb (.map es mc)]]) HT := by rw [hHT]; exact Imp.perm (by simp [HA])
    have hfg := forget_spec p zt htop hah f t (slidEnd f A)
    have hmlen := i4
    have hmvs : slideM x.a = mvO (slidMv f A) := by unfold slideM; rw [hroom, hoA]
    have hmv : MvOk (mvO (slidMv f A)) := ⟨fun q hq => by
      obtain ⟨q', hq', rfl⟩ := List.mem_map.1 hq
      have := slidMv_bound A f _ (Nat.le_refl _) q' hq'
      simp only; omega, fun q hq => by
      obtain ⟨q', hq', rfl⟩ := List.mem_map.1 hq
      simp only; omega⟩
    rw [hmvs]
    refine VO.imp (H' := HMem p z ++ [TZ, [.obj mb (.map es mc)]]) (Imp.perm (by simp [HA])) ?_
    rw [hzt] at hfold
    simp only [HMem, arrV, hrm, List.set_cons_succ, List.set_cons_zero, List.flatMap_cons, List.flatMap_nil, rmEnc, List.cons_append, List.nil_append] at hfold ⊢
    generalize hW1 : cellsAt z.wb 0 (z.ws.map uv) = W1 at hfold ⊢
    generalize hW2 : cellsAt z.sb 0 (z.st.map uv) = W2 at hfold ⊢
    generalize hW3 : cellsAt p 20 (z.a.sp.map uv) = W3 at hfold ⊢
    generalize hW4 : cellsAt p 84 (z.a.cl.map uv) = W4 at hfold ⊢
    refine GOH ?_
    rw [hHT] at hfold
    refine VO.imp (Imp.cut (by exact IMx) hfold) ?_
    refine st_callS hfg (by rfl) (by exact TKx) ?_
    refine GOH ?_
    refine st_mlen (E := kU) (V := uv) (by rfl) (by (focus ((repeat (first | with_reducible exact HasO.here | apply HasO.there)); done))) i4 ?_
    refine GOH ?_
    by_cases hl0 : (mvO (slidMv f A)).length = 0
    · have hnil : mvO (slidMv f A) = [] := List.eq_nil_of_length_eq_zero hl0
      rw [show decide ((0 : Int) < ((mvO (slidMv f A)).length : Int)) = false from decide_eq_false (by omega)]
      refine GOH ?_
      refine st_mlen (E := kU) (V := uv) (by rfl) (by (focus ((repeat (first | with_reducible exact HasO.here | apply HasO.there)); done))) i4 ?_
      refine GOH ?_
      refine endQ_mk (.inr rfl) (.tmp (by rfl) .nil) ⟨zt, ⟨rfl, htop, ?_⟩, rfl⟩ (by exact IMx)
      rw [hta]
      unfold slideA
      rw [hmvs, hnil, hroom, ← hoA]
      simp only [renO_nils]
      congr 1
      conv => lhs; rw [← List.map_id (slideObs x.a)]
      exact List.map_congr_left fun b _ => (renB_nil b).symm
    · rw [show decide ((0 : Int) < ((mvO (slidMv f A)).length : Int)) = true from decide_eq_true (by omega)]
      have hren := rename_spec p mb zt htop hah (mvO (slidMv f A)) hmv es mc i4
      refine GOH ?_
      refine st_call hren (by rfl) (by exact SPx) (fun v Post hv => ?_)
      obtain ⟨z', ⟨rfl, q1, q2⟩, rfl⟩ := hv
      simp only [CNx]
      refine GOH ?_
      refine st_mlen (E := kU) (V := uv) (by rfl) (by (focus ((repeat (first | with_reducible exact HasO.here | apply HasO.there)); done))) i4 ?_
      refine GOH ?_
      refine endQ_mk (.inr rfl) (.tmp (by rfl) .nil) ⟨z', ⟨rfl, q1, ?_⟩, rfl⟩ (by exact IMx)
      rw [q2, hta]
      unfold slideA renA
      rw [hmvs, hroom, ← hoA]
      rfl
  | cons b C =>
    rw [show headW (b :: C) = (b.at_ : Int) from rfl]
    obtain ⟨g1, g2, g3, g4, g5⟩ := slide_low hx hr i1
    have hbm : b ∈ z.a.obs := by rw [i3]; unfold slideK; simp
    have hhead := i2.lay.head b hbm
    have hhi := i2.lay.high b hbm
    have hok := i2.lay.ok b hbm
    have hzl := i2.lay.len
    have hmem := ha_mem (p := p) hhead.2
    have harr := ha_arr (p := p) (x := z)
    obtain ⟨n1, n2, n3⟩ := facts z (by rw [i3]; rfl)
    have hstop : b.stop = b.at_ + 2 + b.hd.slots := rfl
    refine GOH ?_
    have hes2 : oldO x.a = (A ++ [b]) ++ C := by rw [i1]; simp
    have hse := slidEnd_snoc A b f
    by_cases hne : slidEnd f A = b.at_
    · rw [show decide ((slidEnd f A : Int) = (b.at_ : Int)) = true from decide_eq_true (by omega)]
      have hza : z.a = slideK x.a (A ++ [b]) C := by
        rw [i3]
        unfold slideK
        rw [hroom]
        simp only
        rw [slid_app]
        simp only [slid, List.append_assoc, List.cons_append, List.nil_append, hne]
      have hnx := nextN_spec p z i2 (b.at_ + 1) t (by omega) (by have := i2.rm.rng 4 (f, t, tp) (by rw [i3]; exact hr); simp only at this; omega)
      rw [show atsA z.a = atsA (slideK x.a (A ++ [b]) C) by rw [hza], slide_next hx hr i1] at hnx
      refine GOH ?_
      refine st_call hnx (by rfl) (by exact SPx) (fun v Post hv => ?_)
      obtain ⟨rfl, rfl⟩ := hv
      simp only [CNx]
      refine GOH ?_
      refine ⟨(A ++ [b], C, z, es, mc), ⟨hes2, i2, hza, ?_, by simp only; rw [hse]; omega⟩, by simp, ?_, by exact IMx⟩
      · simp only
        rw [slidMv_snoc, if_pos hne.symm, List.append_nil]; exact i4
      · simp only
        rw [hse, show ((slidEnd f A + 2 + b.hd.slots : Nat) : Int) = (slidEnd f A : Int) + (2 + (b.hd.slots : Int)) by omega]
        exact SUx
    rw [show decide ((slidEnd f A : Int) = (b.at_ : Int)) = false from decide_eq_false (by omega)]
    have hb1 := begin_spec p z b.at_ false (by rw [i2.lay.stl]; omega) (by rw [i2.lay.stl]; omega) i2.lay.sts
    refine GOH ?_
    refine st_call hb1 (by rfl) (by exact SPx) (fun v Post hv => ?_)
    obtain ⟨rfl, rfl⟩ := hv
    simp only [CNx]
    obtain ⟨z1, hz1⟩ : ∃ z1 : HW, z1 = { z with st := setBit z.st b.at_ false } := ⟨_, rfl⟩
    rw [← hz1]
    have e1 : z1.ws = z.ws := by rw [hz1]
    have harr1 := ha_arr (p := p) (x := z1)
    rw [e1] at harr1
    refine GOH ?_
    have hlen1 : z1.ws.length = z.ws.length := by rw [e1]
    refine st_slcL (l := slidEnd f A) (h := slidEnd f A + (2 + b.hd.slots)) (b := z1.wb) (o := 0) (o' := slidEnd f A) (by rfl) (.num (by rfl)) (.num (by rfl)) ⟨by omega, by omega⟩ (by rw [if_neg (by omega)]; omega) ?_
    rw [show slidEnd f A + (2 + b.hd.slots) - slidEnd f A = 2 + b.hd.slots by omega]
    refine GOH ?_
    refine st_slcL (l := b.at_) (h := b.at_ + (2 + b.hd.slots)) (b := z1.wb) (o := 0) (o' := b.at_) (by rfl) (.num (by rfl)) (.num (by rfl)) ⟨by omega, by omega⟩ (by rw [if_neg (by omega)]; omega) ?_
    rw [show b.at_ + (2 + b.hd.slots) - b.at_ = 2 + b.hd.slots by omega]
    refine st_cpyW (x := z1) (a := slidEnd f A) (s := b.at_) (k := 2 + b.hd.slots) (by omega) (by omega) (by rfl) (by rfl) (by exact TKx) ?_
    have hsl1 : z1.st.length = z.st.length := by rw [hz1]; exact setBit_len
    have hb2 := begin_spec p { z1 with ws := cpyW z1.ws (slidEnd f A) b.at_ (2 + b.hd.slots) } (slidEnd f A) true (by show slidEnd f A / 64 < z1.st.length; rw [hsl1, i2.lay.stl]; omega) (by show z1.st.length < _; rw [hsl1, i2.lay.stl]; omega) (by show ∀ y ∈ z1.st, _; rw [hz1]; exact setBit_small i2.lay.sts)
    have hobs : z.a.obs = (lowO x.a ++ slid f A) ++ b :: (C ++ highO x.a) := by
      rw [i3]
      unfold slideK
      rw [hroom]
      simp [List.append_assoc]
    have key := i2.move (X := lowO x.a ++ slid f A) (Y := C ++ highO x.a) (b := b) (to := slidEnd f A) hobs (by rw [i3]; exact hr) (slidEnd_le A f) (by omega) g2 g3
    have o1 := oop_spec b.at_ (by omega) (by omega)
    have hfe := slidEnd_le A f
    have o2 := oop_spec (slidEnd f A) (by omega) (by omega)
    refine GOH ?_
    refine st_call hb2 (by rfl) (by exact SPx) (fun v Post hv => ?_)
    obtain ⟨rfl, rfl⟩ := hv
    simp only [CNx]
    refine GOH ?_
    refine st_callP o1 (by rfl) ?_
    refine GOH ?_
    refine st_callP o2 (by rfl) ?_
    refine st_mapupd (E := kU) (V := uv) (k := 8 * b.at_) (v := 8 * slidEnd f A) (by rfl) (by rfl) (by rfl) rfl (by exact TKx) i4 (fun es' mc' hm' => ?_)
    obtain ⟨z3, hz3⟩ : ∃ z3 : HW, z3 = moveW z (lowO x.a ++ slid f A) (C ++ highO x.a) b (slidEnd f A) := ⟨_, rfl⟩
    rw [← hz3] at key
    have hza : z3.a = slideK x.a (A ++ [b]) C := by
      rw [hz3]
      unfold moveW
      simp only
      rw [i3]
      unfold slideK
      rw [hroom]
      simp only
      rw [slid_app]
      simp only [slid, List.append_assoc, List.cons_append, List.nil_append]
    have hfold : Imp [HA p { z1 with ws := cpyW z1.ws (slidEnd f A) b.at_ (2 + b.hd.slots), st := setBit z1.st (slidEnd f A) true }, TZ] [HA p z3, TZ] := by
      rw [hz3, hz1]; exact Imp.refl _
    have hm2 : MapIs kU uv es' mc' (mvO (slidMv f (A ++ [b]))) := by
      have hs2 : (A ++ b :: C).Pairwise fun x y => x.stop ≤ y.at_ := by rw [← i1]; exact hx.lay.sort.sublist List.filter_sublist
      obtain ⟨ne1, _⟩ := sort_ne hs2
      rw [mget_none_mset (by rw [mvO_get, slidMv_none ne1]; rfl)] at hm'
      rw [slidMv_snoc, if_neg (fun h => hne h.symm)]
      unfold mvO at hm' ⊢
      rw [List.map_append]; exact hm'
    obtain ⟨p1, p2, p3⟩ := facts z3 (by rw [hza]; rfl)
    have hnx := nextN_spec p z3 key (b.at_ + 1) t (by omega) (by have := key.rm.rng 4 (f, t, tp) (by rw [hza]; exact hr); simp only at this; omega)
    rw [show atsA z3.a = atsA (slideK x.a (A ++ [b]) C) by rw [hza], slide_next hx hr i1] at hnx
    refine VO.imp (H' := [HA p z3, TZ, [.obj mb (.map es' mc')]]) (Imp.cut (M := [.obj mb (.map es' mc')] :: [HA p { z1 with ws := cpyW z1.ws (slidEnd f A) b.at_ (2 + b.hd.slots), st := setBit z1.st (slidEnd f A) true }, TZ]) (by exact IMx) (Imp.cut (M := [.obj mb (.map es' mc')] :: [HA p z3, TZ]) (Imp.cons .here hfold) (by exact IMx))) ?_
    refine GOH ?_
    refine st_call hnx (by rfl) (by exact SPx) (fun v Post hv => ?_)
    obtain ⟨rfl, rfl⟩ := hv
    simp only [CNx]
    refine GOH ?_
    refine ⟨(A ++ [b], C, z3, es', mc'), ⟨hes2, key, hza, hm2, by simp only; rw [hse]; omega⟩, by simp, ?_, by exact IMx⟩
    simp only
    rw [hse, show ((slidEnd f A + 2 + b.hd.slots : Nat) : Int) = (slidEnd f A : Int) + (2 + (b.hd.slots : Int)) by omega]
    exact SUx
end Go.Proofs.YtmlnoodopoaafaaDoor

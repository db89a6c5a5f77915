/-
  A heap's form: its roots.
-/
import Derived.Test.YtmlnoodopoaafaaDoorP7
import Derived.Test.YtmlnoodopoaafaaDoorH4
set_option linter.unusedSimpArgs false
set_option linter.unusedVariables false
namespace Go.V
open Go
def oneA (a : AH) (l : List Nat) (o : Nat) : List Nat := match getO a.obs o with | some b => [pk (plainH b.hd), b.hd.slots] ++ ((kidsA a o).map (nameA l) ++ restA b) | none => []
def formA (a : AH) : List Nat := ([(reachedA a).length, a.stack.length, a.queue.length] ++ (rootsA a).map (nameA (reachedA a))) ++ (reachedA a).flatMap (oneA a (reachedA a))
theorem nameA_lt {l : List Nat} {o : Nat} (hl : l.length < 4194304) (ho : o < 18446744073709551616) : nameA l o < 18446744073709551616 := by
  unfold nameA
  split
  · exact ho
  · split
    · rename_i h; have := List.idxOf_lt_length_iff.2 h; omega
    · omega
theorem restA_len {b : Ob} (h : b.Ok) : (restA b).length ≤ 65536 := by
  have h1 := h.may.slots
  have h2 := h.len
  unfold restA
  split
  · omega
  · rw [packA_len]
    unfold Ob.bytesI
    split <;> omega
end Go.V
namespace Go.Proofs.YtmlnoodopoaafaaDoor
open Go Go.V
set_option maxHeartbeats 6400000
set_option maxRecDepth 100000
def formRest : IC := match F11.body with | .seq _ (.seq _ (.seq _ r)) => r | _ => .skip
theorem formRest_spec (p : Nat) (x : HW) (hx : HOk x) (m : LN) (hm : LOk x.a m) (q r3 r4 rb nS nQ : Nat) :
    VC Tryd.prog F11.n formRest [(0, ptr0 p), (3, ptr0 r3), (4, ptr0 r4)] [cellsAt r4 0 [.slice (some ⟨rb, 0, none⟩) 3 3], cellsAt rb 0 [uv m.l.length, uv nS, uv nQ], cellsAt r3 0 [ptr0 q], LA q p m, HA p x]
      (endQ F11.res (fun v Post => ∃ sp, IsSl 1 v (([m.l.length, nS, nQ] ++ (rootsA x.a).map (nameA m.l)) ++ m.l.flatMap (oneA x.a m.l)).length ((([m.l.length, nS, nQ] ++ (rootsA x.a).map (nameA m.l)) ++ m.l.flatMap (oneA x.a m.l)).map uv) sp ∧
        Post = [slA v ((([m.l.length, nS, nQ] ++ (rootsA x.a).map (nameA m.l)) ++ m.l.flatMap (oneA x.a m.l)).map uv) sp, HA p x])) := by
  have hfew := hx.few_obs
  have hll := line_len hm.nodup hm.obs
  have hrl : (rootsA x.a).length ≤ 1073750144 := by
    have h1 := hx.spl
    have h2 := hx.cll
    have h3 := hx.deep
    have h4 := hx.few.1
    simp only [rootsA, List.length_append]; omega
  generalize hP : ([m.l.length, nS, nQ] : List Nat) = pre
  have hpl : pre.length = 3 := by rw [← hP]; rfl
  have hpre : cellsAt rb 0 [uv m.l.length, uv nS, uv nQ] = cellsAt rb 0 (pre.map uv) := by rw [← hP]; rfl
  rw [hpre]
  have hsl0 : IsSl 1 (.slice (some ⟨rb, 0, none⟩) 3 3) (pre ++ ([] : List Nat).map (nameA m.l)).length ((pre ++ ([] : List Nat).map (nameA m.l)).map uv) [] := by
    simp only [List.map_nil, List.append_nil, hpl]
    exact .mk (by simp [hpl]) (by simp [hpl]) (by omega)
  refine GOH ?_
  refine st_call (roots_spec p x) (by rfl) Spl.nil (fun v Post hv => ?_)
  obtain ⟨q2, rfl, rfl⟩ := hv
  simp only [CNx]
  refine GOH ?_
  refine VC.rangefA (fun c A => ∃ sv sp, IsSl 1 sv (pre ++ c.map (nameA m.l)).length ((pre ++ c.map (nameA m.l)).map uv) sp ∧ A = [cellsAt r4 0 [sv], slA sv ((pre ++ c.map (nameA m.l)).map uv) sp, cellsAt r3 0 [ptr0 q], LA q p m, HA p x].flatten) ([cellsAt r4 0 [.slice (some ⟨rb, 0, none⟩) 3 3], slA (.slice (some ⟨rb, 0, none⟩) 3 3) ((pre ++ ([] : List Nat).map (nameA m.l)).map uv) [], cellsAt r3 0 [ptr0 q], LA q p m, HA p x].flatten) (by rfl) (roots_iter p q2 x hx) (fun A B h => h.more) ?_ (R := [cellsAt r4 0 [.slice (some ⟨rb, 0, none⟩) 3 3], cellsAt rb 0 (pre.map uv), cellsAt r3 0 [ptr0 q], LA q p m, HA p x]) (by exact SPx) ?_ ⟨_, _, hsl0, rfl⟩ (fun _ => rfl) ?_ ?_
  · rintro c A ⟨sv, sp, h1, rfl⟩
    refine ⟨x, cellsAt r4 0 [sv] ++ (slA sv ((pre ++ c.map (nameA m.l)).map uv) sp ++ (cellsAt r3 0 [ptr0 q] ++ LA q p m)), ?_, hx, rfl, rfl, rfl, rfl, rfl, rfl⟩
    simp only [List.flatten_cons, List.flatten_nil, List.append_nil]
    rw [← List.append_assoc, ← List.append_assoc, ← List.append_assoc]
    refine List.perm_append_comm.trans ?_
    simp only [List.append_assoc]; exact List.Perm.refl _
  · refine Imp.perm ?_
    simp [slA]
  · rintro c o A hok ⟨sv, sp, h1, rfl⟩
    have hcl : c.length < (rootsA x.a).length := by
      obtain ⟨t, ht⟩ := hok
      rw [← ht]; simp
    have ho : o < 18446744073709551616 := by
      obtain ⟨t, ht⟩ := hok
      exact hx.roots (by rw [← ht]; simp)
    simp only [bindE]
    refine VC.imp (H' := [cellsAt r4 0 [sv], slA sv ((pre ++ c.map (nameA m.l)).map uv) sp, cellsAt r3 0 [ptr0 q], LA q p m, HA p x]) (Imp.perm (by simp)) ?_
    obtain ⟨a1, c1, rfl⟩ := h1.form
    have hnm := name_spec p q x.a m hm hfew o ho
    have hfin : pre ++ (c ++ [o]).map (nameA m.l) = (pre ++ c.map (nameA m.l)) ++ [nameA m.l o] := by simp
    have hlen0 : (pre ++ c.map (nameA m.l)).length = 3 + c.length := by simp [hpl]
    rw [hfin]
    generalize hX : pre ++ c.map (nameA m.l) = X at *
    refine VC.reg ?_
    refine GOH ?_
    refine ⟨trivial, ?_⟩
    refine VC.block ?_
    refine VC.draws ⟨?_, ?_, trivial⟩
    all_goals
      repeat' first
        | refine GOPH ?_
        | refine st_callS hnm (by rfl) (by exact TKx) ?_
        | refine st_bslice (out := [uv (nameA m.l o)]) (by rfl) (by rfl) (fun r => ?_)
      refine st_appU (xs := X) (ys := [nameA m.l o]) (sp := sp) (by rfl) (by rfl) h1 (by exact TKx) (srcU_lit (fun y hy => by simp only [List.flatten_cons, List.mem_append]; exact .inl hy)) (by simp only [List.length_singleton]; omega) (fun sv' sp' hsl' => ?_)
      obtain ⟨a', c', rfl⟩ := hsl'.form
      refine GOH ?_
      refine ⟨_, ⟨_, sp', hsl', rfl⟩, ?_⟩
      exact Imp.cut (M := [cellsAt r4 0 [.slice a' (X ++ [nameA m.l o]).length c'], slA (.slice a' (X ++ [nameA m.l o]).length c') ((X ++ [nameA m.l o]).map uv) sp', cellsAt r3 0 [ptr0 q], LA q p m, HA p x]) (by exact IMx) (Imp.perm (by simp))
  · rintro full A hf ⟨sv, sp, h1, rfl⟩
    subst hf
    simp only [List.nil_append, V.blockQ, V.thenQ]
    refine VC.imp (H' := [cellsAt r4 0 [sv], slA sv ((pre ++ (rootsA x.a).map (nameA m.l)).map uv) sp, cellsAt r3 0 [ptr0 q], LA q p m, HA p x]) (Imp.perm (by simp)) ?_
    have hlen0 : (pre ++ (rootsA x.a).map (nameA m.l)).length ≤ 1073750147 := by simp [hpl]; omega
    generalize pre ++ (rootsA x.a).map (nameA m.l) = X at *
    obtain ⟨a1, c1, k1⟩ := hm.sl.form
    have hq1 : Atom.cell q 1 (.slice a1 m.l.length c1) ∈ LA q p m := by rw [← k1]; simp [LA, LMem, cellsAt]
    refine GOH ?_
    refine VC.loop (α := Nat × Value × List Value) (Γf := fun s => [(0, ptr0 p), (3, ptr0 r3), (4, ptr0 r4), (42, .slice a1 m.l.length c1), (43, vi m.l.length), (44, vi s.1)])
      (Hf := fun s => [cellsAt r4 0 [s.2.1], slA s.2.1 ((X ++ (m.l.take s.1).flatMap (oneA x.a m.l)).map uv) s.2.2, cellsAt r3 0 [ptr0 q], LA q p m, HA p x])
      (I := fun s => s.1 ≤ m.l.length ∧ IsSl 1 s.2.1 (X ++ (m.l.take s.1).flatMap (oneA x.a m.l)).length ((X ++ (m.l.take s.1).flatMap (oneA x.a m.l)).map uv) s.2.2 ∧ (X ++ (m.l.take s.1).flatMap (oneA x.a m.l)).length ≤ X.length + s.1 * 262144)
      (μ := fun s => m.l.length - s.1) (0, sv, sp) ⟨Nat.zero_le _, by simpa using h1, by simp⟩ (by exact SUx) (by simp only [List.take_zero, List.flatMap_nil, List.append_nil]; exact IMx) ?_
    rintro ⟨i, sv2, sp2⟩ ⟨i1, i2, i3⟩
    simp only at i1 i2 i3 ⊢
    obtain ⟨a2, c2, rfl⟩ := i2.form
    refine GOH ?_
    by_cases hlt : i < m.l.length
    rotate_left
    · rw [show decide ((i : Int) < (m.l.length : Int)) = false from decide_eq_false (by omega)]
      rw [List.take_of_length_le (by omega)] at i2 ⊢
      refine GOH ?_
      exact endQ_mk (.inr rfl) (.tmp (by rfl) .nil) ⟨sp2, i2, rfl⟩ (by simp only [tup]; exact IMx)
    rw [show decide ((i : Int) < (m.l.length : Int)) = true from decide_eq_true (by omega)]
    obtain ⟨o, ho⟩ : ∃ o, m.l[i]? = some o := ⟨_, List.getElem?_eq_getElem hlt⟩
    obtain ⟨b, hb⟩ := Option.isSome_iff_exists.1 (hm.obs o (List.mem_of_getElem? ho))
    obtain ⟨bb, oo, cc, hk2, _, _⟩ := hm.sl.some (by omega)
    have hmem : Atom.cell bb (oo + i) (uv o) ∈ LA q p m := by
      simp only [LA, LMem, List.flatten_cons, List.mem_append]
      refine .inr (.inl ?_)
      rw [hk2]
      exact slA_mem ho
    rw [k1] at hk2
    simp only [Value.slice.injEq, true_and] at hk2
    obtain ⟨rfl, rfl⟩ := hk2
    have hol := hx.oop_lt hb
    obtain ⟨_, hbm⟩ := hx.word hb
    have hok := hx.lay.ok b hbm
    have hone : X ++ (m.l.take (i + 1)).flatMap (oneA x.a m.l) = (X ++ (m.l.take i).flatMap (oneA x.a m.l)) ++ ([pk (plainH b.hd), b.hd.slots] ++ ((kidsA x.a o).map (nameA m.l) ++ restA b)) := by
      have h1 : oneA x.a m.l o = [pk (plainH b.hd), b.hd.slots] ++ ((kidsA x.a o).map (nameA m.l) ++ restA b) := by unfold oneA; rw [hb]
      rw [List.take_add_one, ho, List.flatMap_append, ← List.append_assoc, Option.toList_some, List.flatMap_cons, List.flatMap_nil, List.append_nil, h1]
    have hhd := headV_spec p x hx o b hb hol
    have hpk := pack_spec (plainH b.hd) (plainH_may hok.may)
    have hgo := goops_spec p x hx o b hb hol
    have hre := rest_spec p x hx o b hb hol (plainH b.hd) rfl rfl
    have hrel := restA_len hok
    have hkl : (kidsA x.a o).length ≤ 65536 := by
      have h1 := hok.may.slots
      have h2 := hok.len
      have : kidsA x.a o = b.body.take b.many := by unfold kidsA; rw [hb]
      rw [this, List.length_take]; omega
    have hkb : ∀ u ∈ kidsA x.a o, u < 18446744073709551616 := fun u hu => by
      have : kidsA x.a o = b.body.take b.many := by unfold kidsA; rw [hb]
      rw [this] at hu
      exact hok.small u (List.mem_of_mem_take hu)
    generalize X ++ (m.l.take i).flatMap (oneA x.a m.l) = Y at *
    generalize kidsA x.a o = ks at *
    generalize restA b = rs at *
    simp only [hdEnc] at hhd
    refine GOH ?_
    refine st_callS hhd (by rfl) (by exact TKx) ?_
    refine GOH ?_
    refine st_alloc (fun t => ?_)
    refine GOH ?_
    refine st_callP hpk (by rfl) ?_
    refine GOH ?_
    refine st_bslice (out := [uv (pk (plainH b.hd)), uv b.hd.slots]) (by rfl) (by rfl) (fun r => ?_)
    refine st_appU (xs := Y) (ys := [pk (plainH b.hd), b.hd.slots]) (sp := sp2) (by rfl) (by rfl) i2 (by exact TKx) (srcU_lit (fun y hy => by simp only [List.flatten_cons, List.mem_append]; exact .inl hy)) (by simp only [List.length_cons, List.length_nil]; omega) (fun sv3 sp3 hsl3 => ?_)
    obtain ⟨a3, c3, rfl⟩ := hsl3.form
    have hWl : (Y ++ [pk (plainH b.hd), b.hd.slots]).length = Y.length + 2 := by simp
    have hone2 : X ++ (m.l.take (i + 1)).flatMap (oneA x.a m.l) = ((Y ++ [pk (plainH b.hd), b.hd.slots]) ++ ks.map (nameA m.l)) ++ rs := by rw [hone]; simp only [List.append_assoc]
    generalize Y ++ [pk (plainH b.hd), b.hd.slots] = W at *
    refine GOH ?_
    refine st_call hgo (by rfl) (by exact SPx) (fun v Post hv => ?_)
    obtain ⟨rk, rfl, rfl⟩ := hv
    simp only [CNx]
    refine GOH ?_
    refine VC.loop (α := Nat × Value × List Value) (Γf := fun s => [(0, ptr0 p), (3, ptr0 r3), (4, ptr0 r4), (7, uv o), (8, ptr0 t), (42, .slice (some ⟨bb, oo, none⟩) m.l.length c1), (43, vi m.l.length), (44, vi i), (70, .slice (some ⟨rk, 0, none⟩) ks.length ks.length), (71, vi ks.length), (72, vi s.1)])
      (Hf := fun s => [cellsAt r4 0 [s.2.1], slA s.2.1 ((W ++ (ks.take s.1).map (nameA m.l)).map uv) s.2.2, cellsAt rk 0 (ks.map uv), cellsAt t 0 [vi b.hd.cls, cv b.hd.fmt, vi b.hd.spare, vi b.hd.hash, .int .i64 0, vi b.hd.slots, .bool false, .bool false], cellsAt r3 0 [ptr0 q], LA q p m, HA p x])
      (I := fun s => s.1 ≤ ks.length ∧ IsSl 1 s.2.1 (W ++ (ks.take s.1).map (nameA m.l)).length ((W ++ (ks.take s.1).map (nameA m.l)).map uv) s.2.2) (μ := fun s => ks.length - s.1) (0, _, sp3) ⟨Nat.zero_le _, by simpa using hsl3⟩ (by exact SUx) (by simp only [List.take_zero, List.map_nil, List.append_nil]; exact IMx) ?_
    rintro ⟨j, sv4, sp4⟩ ⟨j1, j2⟩
    simp only at j1 j2 ⊢
    obtain ⟨a4, c4, rfl⟩ := j2.form
    have hZl : (W ++ (ks.take j).map (nameA m.l)).length ≤ W.length + 65536 := by simp; omega
    refine GOH ?_
    by_cases hj : j < ks.length
    · rw [show decide ((j : Int) < (ks.length : Int)) = true from decide_eq_true (by omega)]
      obtain ⟨u, hu⟩ : ∃ u, ks[j]? = some u := ⟨_, List.getElem?_eq_getElem hj⟩
      have hmu := mem_u0 (b := rk) hu
      have hnm := name_spec p q x.a m hm hfew u (hkb u (List.mem_of_getElem? hu))
      have hst : W ++ (ks.take (j + 1)).map (nameA m.l) = (W ++ (ks.take j).map (nameA m.l)) ++ [nameA m.l u] := by rw [List.take_add_one, hu]; simp
      generalize hC : cellsAt rk 0 (ks.map uv) = C at hmu ⊢
      generalize W ++ (ks.take j).map (nameA m.l) = V0 at *
      refine GOH ?_
      refine VC.draws ⟨?_, ?_, trivial⟩
      all_goals
        repeat' first
          | refine GOPH ?_
          | refine st_callS hnm (by rfl) (by exact TKx) ?_
          | refine st_bslice (out := [uv (nameA m.l u)]) (by rfl) (by rfl) (fun r9 => ?_)
        refine st_appU (xs := V0) (ys := [nameA m.l u]) (sp := sp4) (by rfl) (by rfl) j2 (by exact TKx) (srcU_lit (fun y hy => by simp only [List.flatten_cons, List.mem_append]; exact .inl hy)) (by simp only [List.length_singleton]; omega) (fun sv5 sp5 hsl5 => ?_)
        obtain ⟨a5, c5, rfl⟩ := hsl5.form
        refine GOH ?_
        refine ⟨(j + 1, _, sp5), ⟨by simp only; omega, by simp only [hst]; exact hsl5⟩, by simp only; omega, by exact SUx, by simp only [hst, hC]; exact IMx⟩
    · rw [show decide ((j : Int) < (ks.length : Int)) = false from decide_eq_false (by omega)]
      rw [List.take_of_length_le (by omega)] at j2 hZl ⊢
      generalize W ++ ks.map (nameA m.l) = V0 at *
      refine GOH ?_
      refine VC.draws ⟨?_, ?_, trivial⟩
      all_goals
        repeat' first
          | refine GOPH ?_
          | (refine st_call hre (by rfl) (by exact SPx) (fun v Post hv => ?_)
             obtain ⟨spr, hr1, rfl⟩ := hv
             simp only [CNx])
        refine st_appU (xs := V0) (ys := rs) (sp := sp4) (by rfl) (by rfl) j2 (by exact TKx) (IsSl.srcU hr1 (fun y hy => by simp only [List.flatten_cons, List.mem_append]; exact .inl hy)) (by omega) (fun sv5 sp5 hsl5 => ?_)
        obtain ⟨a5, c5, rfl⟩ := hsl5.form
        refine GOH ?_
        refine ⟨(i + 1, _, sp5), ⟨by simp only; omega, by simp only [hone2]; exact hsl5, by simp only [hone2, List.length_append]; omega⟩, by simp only; omega, by exact SUx, by simp only [hone2]; exact IMx⟩
theorem form_spec (p : Nat) (x : HW) (hx : HOk x) :
    Fun Tryd.prog 11 [ptr0 p] [HA p x] (fun v Post => ∃ sp, IsSl 1 v (formA x.a).length ((formA x.a).map uv) sp ∧ Post = [slA v ((formA x.a).map uv) sp, HA p x]) := by
  have hfew := hx.few_obs
  have hobs : x.a.obs.length < 1073741823 := by omega
  have hde := depth_spec p x hx
  have hqu := queued_spec p x hx
  refine Fun.intro low11 (by simp [n11]) ?_
  refine GOH ?_
  refine st_call (reached_spec p x hx hobs) (by rfl) (by exact SPx) (fun v Post hv => ?_)
  obtain ⟨q, m, ⟨rfl, hm, hml⟩, rfl⟩ := hv
  simp only [CNx]
  refine st_alloc (fun r3 => ?_)
  refine GOH ?_
  unfold formA
  rw [← hml]
  have hll := line_len hm.nodup hm.obs
  obtain ⟨a1, c1, k1⟩ := hm.sl.form
  have hq1 : Atom.cell q 1 (.slice a1 m.l.length c1) ∈ LA q p m := by rw [← k1]; simp [LA, LMem, cellsAt]
  have hdp := hx.deep
  have hqf := hx.few.1
  generalize hST : x.a.stack.length = nS at *
  generalize hQU : x.a.queue.length = nQ at *
  refine VC.seq_draws (α := Nat × Nat) (fun s => [(0, ptr0 p), (3, ptr0 r3), (4, ptr0 s.1)]) (fun s => [cellsAt s.1 0 [.slice (some ⟨s.2, 0, none⟩) 3 3], cellsAt s.2 0 [uv m.l.length, uv nS, uv nQ], cellsAt r3 0 [ptr0 q], LA q p m, HA p x]) (fun _ => True)
    ⟨?_, ?_, ?_, ?_, ?_, ?_, ?_, ?_, ?_, ?_, ?_, ?_, ?_, ?_, ?_, ?_, ?_, ?_, ?_, ?_, ?_, ?_, ?_, ?_, ?_, ?_, ?_, ?_, ?_, ?_, ?_, ?_, ?_, ?_, ?_, ?_, trivial⟩ (fun s _ => ?_)
  rotate_right
  · obtain ⟨r4, rb⟩ := s
    simp only
    exact formRest_spec p x hx m hm q r3 r4 rb nS nQ
  all_goals
    repeat' first
      | refine GOPH ?_
      | refine st_callS hde (by rfl) (by exact TKx) ?_
      | refine st_callS hqu (by rfl) (by exact TKx) ?_
      | refine st_bslice (out := [uv m.l.length, uv nS, uv nQ]) (by rfl) (by rfl) (fun rb => ?_)
      | refine st_alloc (fun r4 => ?_)
    exact ⟨(_, _), trivial, by exact SUx, by exact IMx⟩
end Go.Proofs.YtmlnoodopoaafaaDoor
namespace Go.V
open Go
theorem oneA_len {x : HW} (hx : HOk x) (l : List Nat) (o : Nat) : (oneA x.a l o).length ≤ 131074 := by
  unfold oneA
  cases hb : getO x.a.obs o with
  | none => simp
  | some b =>
    obtain ⟨_, hbm⟩ := hx.word hb
    have hok := hx.lay.ok b hbm
    have h1 := hok.may.slots
    have h2 := hok.len
    have h3 := restA_len hok
    have : kidsA x.a o = b.body.take b.many := by unfold kidsA; rw [hb]
    simp only [this, List.length_append, List.length_map, List.length_take, List.length_cons, List.length_nil]; omega
theorem flat_len {α : Type} {f : α → List Nat} {k : Nat} : ∀ {l : List α}, (∀ y ∈ l, (f y).length ≤ k) → (l.flatMap f).length ≤ l.length * k := by
  intro l
  induction l with
  | nil => intro _; simp
  | cons x r ih =>
    intro h
    rw [List.flatMap_cons, List.length_append, List.length_cons, Nat.succ_mul]
    have h1 := h x (by simp)
    have h2 := ih (fun y hy => h y (by simp [hy]))
    omega
theorem reachedA_ok (x : HW) : (reachedA x.a).Nodup ∧ ∀ y ∈ reachedA x.a, (getO x.a.obs y).isSome = true := by
  have h0 : (rootedA x.a).Nodup := meets_nodup .nil
  have h1 : ∀ y ∈ rootedA x.a, (getO x.a.obs y).isSome = true := meets_obs (fun y hy => by cases hy)
  have key : ∀ (n i : Nat) (l : List Nat), l.Nodup → (∀ y ∈ l, (getO x.a.obs y).isSome = true) → (goA x.a n i l).Nodup ∧ ∀ y ∈ goA x.a n i l, (getO x.a.obs y).isSome = true := by
    intro n
    induction n with
    | zero => intro i l h1 h2; exact ⟨h1, h2⟩
    | succ n ih =>
      intro i l h1 h2
      simp only [goA]
      split
      · exact ih _ _ (meets_nodup h1) (meets_obs h2)
      · exact ⟨h1, h2⟩
  exact key _ _ _ h0 h1
theorem formA_len {x : HW} (hx : HOk x) : (formA x.a).length ≤ 4611686018427387904 := by
  obtain ⟨h1, h2⟩ := reachedA_ok x
  have h3 := line_len h1 h2
  have h4 := hx.few_obs
  have h5 := flat_len (f := oneA x.a (reachedA x.a)) (l := reachedA x.a) (fun y _ => oneA_len hx _ y)
  have h6 := hx.spl
  have h7 := hx.cll
  have h8 := hx.deep
  have h9 := hx.few.1
  have h10 : (reachedA x.a).length * 131074 ≤ 4194304 * 131074 := Nat.mul_le_mul_right _ (by omega)
  unfold formA
  simp only [rootsA, List.length_append, List.length_map, List.length_cons, List.length_nil]; omega
end Go.V
namespace Go.Proofs.YtmlnoodopoaafaaDoor
open Go Go.V
set_option maxHeartbeats 6400000
set_option maxRecDepth 100000
theorem same_spec (p1 p2 : Nat) (x1 x2 : HW) (h1 : HOk x1) (h2 : HOk x2) : Fun Tryd.prog 13 [ptr0 p1, ptr0 p2] [HA p1 x1, HA p2 x2] (fun v Post => v = .bool (decide (formA x1.a = formA x2.a)) ∧ Post = [HA p1 x1, HA p2 x2]) := by
  refine Fun.intro low13 (by simp [n13]) ?_
  refine GOH ?_
  refine st_call (form_spec p1 x1 h1) (by rfl) (by exact SPx) (fun v Post hv => ?_)
  obtain ⟨sp1, hs1, rfl⟩ := hv
  simp only [CNx]
  refine GOH ?_
  refine st_call (form_spec p2 x2 h2) (by rfl) (by exact SPx) (fun w Post hv => ?_)
  obtain ⟨sp2, hs2, rfl⟩ := hv
  simp only [CNx]
  refine st_call (equalN_spec _ _ v w _ _ hs1.rdU hs2.rdU (formA_len h1)) (by rfl) (by exact SPx) (fun u Post hv => ?_)
  obtain ⟨rfl, rfl⟩ := hv
  simp only [CNx]
  refine GOH ?_
  exact endQ_mk (.inr rfl) (.tmp (by rfl) .nil) ⟨rfl, rfl⟩ (by exact IMx)
theorem reachedV_spec (p : Nat) (x : HW) (hx : HOk x) : Fun Tryd.prog 24 [ptr0 p] [HA p x] (fun v Post => ∃ sp, IsSl 1 v (reachedA x.a).length ((reachedA x.a).map uv) sp ∧ Post = [slA v ((reachedA x.a).map uv) sp, HA p x]) := by
  have hfew := hx.few_obs
  refine Fun.intro low24 (by simp [n24]) ?_
  refine GOH ?_
  refine st_call (reached_spec p x hx (by omega)) (by rfl) (by exact SPx) (fun v Post hv => ?_)
  obtain ⟨q, m, ⟨rfl, hm, hml⟩, rfl⟩ := hv
  have hq1 : Atom.cell q 1 m.lv ∈ LA q p m := by simp [LA, LMem, cellsAt]
  simp only [CNx]
  refine GOH ?_
  have hsl := hm.sl
  rw [hml] at hsl
  refine endQ_mk (.inr rfl) (.tmp (by rfl) .nil) ⟨m.ls, hsl, rfl⟩ ?_
  refine Imp.cut (M := LMem q p m ++ [HA p x]) (Imp.perm (by simp [LA])) ?_
  simp only [tup, LMem, hml, List.cons_append, List.nil_append]
  exact IMx
end Go.Proofs.YtmlnoodopoaafaaDoor

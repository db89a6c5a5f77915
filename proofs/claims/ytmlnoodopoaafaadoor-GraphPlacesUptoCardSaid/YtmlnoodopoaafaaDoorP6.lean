/-
  The heap's roots, gone through.
-/
import Derived.Test.YtmlnoodopoaafaaDoorP5
import Derived.Test.YtmlnoodopoaafaaDoorH4
set_option linter.unusedSimpArgs false
set_option linter.unusedVariables false
namespace Go.V
open Go
def AccR (p : Nat) (x : HW) (A : List Atom) : Prop := ∃ y R, A.Perm (HA p y ++ R) ∧ HOk y ∧ y.a.sp = x.a.sp ∧ y.a.cl = x.a.cl ∧ y.a.stack = x.a.stack ∧ y.a.queue = x.a.queue ∧ y.kv = x.kv ∧ y.qv = x.qv
theorem AccR.more {p : Nat} {x : HW} {A B : List Atom} (h : AccR p x A) : AccR p x (A ++ B) := by
  obtain ⟨y, R, h1, h2⟩ := h
  exact ⟨y, R ++ B, (h1.append_right B).trans (by rw [List.append_assoc]), h2⟩
theorem AccR.sp {p : Nat} {x : HW} {A : List Atom} (h : AccR p x A) {i u : Nat} (hu : x.a.sp[i]? = some u) : Atom.cell p (20 + i) (uv u) ∈ A := by
  obtain ⟨y, R, h1, h2, h3, _⟩ := h
  exact h1.mem_iff.2 (List.mem_append_left _ (ha_sp (by rw [h3]; exact hu)))
theorem AccR.cl {p : Nat} {x : HW} {A : List Atom} (h : AccR p x A) {i u : Nat} (hu : x.a.cl[i]? = some u) : Atom.cell p (84 + i) (uv u) ∈ A := by
  obtain ⟨y, R, h1, h2, h3, h4, _⟩ := h
  exact h1.mem_iff.2 (List.mem_append_left _ (ha_cl (by rw [h4]; exact hu)))
theorem AccR.st {p : Nat} {x : HW} {A : List Atom} (h : AccR p x A) {i u b o c : Nat} (hu : x.a.stack[i]? = some u) (hk : x.kv = .slice (some ⟨b, o, none⟩) x.a.stack.length c) : Atom.cell b (o + i) (uv u) ∈ A := by
  obtain ⟨y, R, h1, h2, h3, h4, h5, h6, h7, h8⟩ := h
  refine h1.mem_iff.2 (List.mem_append_left _ ?_)
  have hi := (List.getElem?_eq_some_iff.1 hu).1
  simp only [HA, HMem, List.flatten_cons, List.mem_append]
  refine .inr (.inr (.inr (.inr (.inr (.inr (.inr (.inl ?_)))))))
  rw [h7, hk, h5]
  refine mem_cellsAt.2 ⟨i, uv u, ?_, rfl⟩
  rw [List.getElem?_append_left (by simpa using hi)]; simp [hu]
theorem AccR.qu {p : Nat} {x : HW} {A : List Atom} (h : AccR p x A) {i u b o c : Nat} (hu : x.a.queue[i]? = some u) (hk : x.qv = .slice (some ⟨b, o, none⟩) x.a.queue.length c) : Atom.cell b (o + i) (uv u) ∈ A := by
  obtain ⟨y, R, h1, h2, h3, h4, h5, h6, h7, h8⟩ := h
  refine h1.mem_iff.2 (List.mem_append_left _ ?_)
  have hi := (List.getElem?_eq_some_iff.1 hu).1
  simp only [HA, HMem, List.flatten_cons, List.mem_append]
  refine .inr (.inr (.inr (.inr (.inr (.inr (.inr (.inr (.inl ?_))))))))
  rw [h8, hk, h6]
  refine mem_cellsAt.2 ⟨i, uv u, ?_, rfl⟩
  rw [List.getElem?_append_left (by simpa using hi)]; simp [hu]
def preR (a : AH) : Nat → List Nat
  | 0 => []
  | 1 => a.sp
  | 2 => a.sp ++ a.cl
  | 3 => a.sp ++ (a.cl ++ a.stack)
  | _ => rootsA a
theorem okR {R a l b : List Nat} (h : R = a ++ (l ++ b)) {j u : Nat} (hu : l[j]? = some u) : OkC (fun full => full = R) (a ++ l.take j ++ [u]) := by
  refine ⟨l.drop (j + 1) ++ b, ?_⟩
  have hj := (List.getElem?_eq_some_iff.1 hu).1
  have e : l.take j ++ (u :: l.drop (j + 1)) = l := by
    have : l[j] = u := (List.getElem?_eq_some_iff.1 hu).2
    rw [← this, ← List.drop_eq_getElem_cons hj, List.take_append_drop]
  have e2 : a ++ l.take j ++ [u] ++ (l.drop (j + 1) ++ b) = a ++ ((l.take j ++ (u :: l.drop (j + 1))) ++ b) := by simp
  show a ++ l.take j ++ [u] ++ (l.drop (j + 1) ++ b) = R
  rw [e2, e, h]
end Go.V
namespace Go.Proofs.YtmlnoodopoaafaaDoor
open Go Go.V
set_option maxHeartbeats 6400000
set_option maxRecDepth 100000
def tabV (p : Nat) (x : HW) : List Value := [.slice (some ⟨p, 20, none⟩) 64 64, .slice (some ⟨p, 84, none⟩) 4096 4096, x.kv, x.qv]
theorem tables_spec (p : Nat) (x : HW) (hx : HOk x) : Fun Tryd.prog 77 [ptr0 p] [HA p x] (fun v Post => v = .agg (tabV p x).toArray ∧ Post = [HA p x]) := by
  have h1 := (ha_kv (p := p) (x := x)).1
  have h2 := (ha_kv (p := p) (x := x)).2.1
  obtain ⟨a1, c1, k1⟩ := hx.stk.form
  obtain ⟨a2, c2, k2⟩ := hx.que.form
  unfold tabV
  rw [k1] at h1 ⊢
  rw [k2] at h2 ⊢
  refine Fun.intro low77 (by simp [n77]) ?_
  refine VC.seq_reg ?_
  refine st_alloc (fun q => ?_)
  refine GOH ?_
  refine ⟨.inr rfl, _, _, .cellN (us := [.slice (some ⟨p, 20, none⟩) 64 64, .slice (some ⟨p, 84, none⟩) 4096 4096, .slice a1 x.a.stack.length c1, .slice a2 x.a.queue.length c2]) (by rfl) (by rfl) (fun y hy => by simp only [List.flatten_cons, List.mem_append]; exact .inl hy) .nil, ?_, ⟨rfl, rfl⟩⟩
  exact IMx
theorem roots_spec (p : Nat) (x : HW) : Fun Tryd.prog 43 [ptr0 p] [] (fun v Post => ∃ q, v = .func (.func 76) #[] #[ptr0 q] ∧ Post = [cellsAt q 0 [ptr0 p]]) := by
  refine Fun.intro low43 (by simp [n43]) ?_
  refine VC.seq_reg ?_
  refine st_box (by rfl) (fun q => ?_)
  simp only [Value.cells]
  refine GOH ?_
  exact endQ_mk (.inr rfl) (.tmp (by rfl) .nil) ⟨q, rfl, rfl⟩ (by exact IMx)
theorem roots_iter (p q : Nat) (x : HW) (hx : HOk x) :
    IterA Tryd.prog (.func (.func 76) #[] #[ptr0 q]) (fun o : Nat => [uv o]) (AccR p x) [cellsAt q 0 [ptr0 p]] [] (fun full => full = rootsA x.a) := by
  intro y J SP _ hJA hy A hA
  refine FunV.of_fun (first := #[]) (cap := #[ptr0 q]) ?_
  show Fun Tryd.prog 76 [y, ptr0 q] _ _
  obtain ⟨z, X, z1, z2, z3, z4, z5, z6, z7, z8⟩ := hJA [] A hA
  have htab := tables_spec p z z2
  have hspl : V.Spl [cellsAt q 0 [ptr0 p], A] [HA p z] [cellsAt q 0 [ptr0 p], X] := by
    simp only [V.Spl, List.flatten_cons, List.flatten_nil, List.append_nil]
    exact (z1.append_left _).trans (perm_lead _ _ _)
  have hback : Imp ([HA p z] ++ [cellsAt q 0 [ptr0 p], X]) [cellsAt q 0 [ptr0 p], A] := Imp.perm (by
    simp only [List.flatten_append, List.flatten_cons, List.flatten_nil, List.append_nil]
    exact (perm_lead _ _ _).trans (z1.symm.append_left _))
  obtain ⟨a1, c1, k1⟩ := hx.stk.form
  obtain ⟨a2, c2, k2⟩ := hx.que.form
  have htv : tabV p z = [.slice (some ⟨p, 20, none⟩) x.a.sp.length x.a.sp.length, .slice (some ⟨p, 84, none⟩) x.a.cl.length x.a.cl.length, .slice a1 x.a.stack.length c1, .slice a2 x.a.queue.length c2] := by unfold tabV; rw [z7, z8, k1, k2, hx.spl, hx.cll]
  rw [htv] at htab
  have hl1 := hx.spl
  have hl2 := hx.cll
  have hl3 := hx.deep
  have hl4 := hx.few.1
  refine Fun.intro low76 (by simp [n76]) ?_
  simp only [CNx]
  refine GOH ?_
  refine st_call htab (by rfl) hspl (fun v Post hv => ?_)
  obtain ⟨rfl, rfl⟩ := hv
  refine VO.imp hback ?_
  refine GOH ?_
  refine VC.loop (α := Nat × List Atom) (Γf := fun s => [(0, y), (8, .agg #[.slice (some ⟨p, 20, none⟩) x.a.sp.length x.a.sp.length, .slice (some ⟨p, 84, none⟩) x.a.cl.length x.a.cl.length, .slice a1 x.a.stack.length c1, .slice a2 x.a.queue.length c2]), (9, vi (newI s.1))]) (Hf := fun s => [cellsAt q 0 [ptr0 p], s.2]) (I := fun s => s.1 ≤ 4 ∧ J (preR x.a s.1) s.2) (μ := fun s => 4 - s.1) (0, A) ⟨by simp only; omega, hA⟩ (by exact SUx) (Imp.refl _) ?_
  rintro ⟨t, A1⟩ ⟨t1, t2⟩
  simp only at t1 t2 ⊢
  have ht : t = 0 ∨ t = 1 ∨ t = 2 ∨ t = 3 ∨ t = 4 := by omega
  rcases ht with rfl | rfl | rfl | rfl | rfl
  rotate_right
  · rw [show newI 4 = 4 from rfl]
    refine GOH ?_
    exact endQ_mk (.inl rfl) .nil ⟨rfl, .inl ⟨_, A1, rfl, t2, rfl⟩⟩ (by exact IMx)
  · have hR : rootsA x.a = preR x.a 0 ++ (x.a.sp ++ (x.a.cl ++ (x.a.stack ++ x.a.queue))) := by simp [rootsA, preR]
    have hN : preR x.a 0 ++ x.a.sp = preR x.a 1 := by simp [rootsA, preR]
    rw [show newI 0 = 0 from rfl]
    refine GOH ?_
    refine VC.loop (α := Nat × List Atom) (Γf := fun s => [(0, y), (8, .agg #[.slice (some ⟨p, 20, none⟩) x.a.sp.length x.a.sp.length, .slice (some ⟨p, 84, none⟩) x.a.cl.length x.a.cl.length, .slice a1 x.a.stack.length c1, .slice a2 x.a.queue.length c2]), (9, vi 0), (12, .slice (some ⟨p, 20, none⟩) x.a.sp.length x.a.sp.length), (13, vi x.a.sp.length), (14, vi s.1)]) (Hf := fun s => [cellsAt q 0 [ptr0 p], s.2]) (I := fun s => s.1 ≤ x.a.sp.length ∧ J (preR x.a 0 ++ x.a.sp.take s.1) s.2) (μ := fun s => x.a.sp.length - s.1) (0, A1) ⟨Nat.zero_le _, by simpa using t2⟩ (by exact SUx) (Imp.refl _) ?_
    rintro ⟨j, A2⟩ ⟨i1, i2⟩
    simp only at i1 i2 ⊢
    refine GOH ?_
    by_cases hlt : j < x.a.sp.length
    · rw [show decide ((j : Int) < (x.a.sp.length : Int)) = true from decide_eq_true (by omega)]
      obtain ⟨u, hu⟩ : ∃ u, x.a.sp[j]? = some u := ⟨_, List.getElem?_eq_getElem hlt⟩
      have hmem := (hJA _ _ i2).sp hu
      refine GOH ?_
      refine st_callV (by rfl) (hy _ u A2 (okR hR hu) i2) (by rfl) (by exact SPx) (fun v Post hv => ?_)
      rcases hv with ⟨rfl, A', hA', rfl⟩ | ⟨rfl, B', hB', rfl⟩
      · simp only [CNx]
        refine GOH ?_
        refine ⟨(j + 1, A'), ⟨by simp only; omega, ?_⟩, by simp only; omega, by exact SUx, by exact IMx⟩
        simp only
        rw [List.take_add_one, hu, ← List.append_assoc]; exact hA'
      · simp only [CNx]
        refine GOH ?_
        exact endQ_mk (.inr rfl) .nil ⟨rfl, .inr ⟨_, B', okR hR hu, hB', rfl⟩⟩ (by exact IMx)
    · rw [show decide ((j : Int) < (x.a.sp.length : Int)) = false from decide_eq_false (by omega)]
      rw [List.take_of_length_le (by omega), hN] at i2
      refine GOH ?_
      exact ⟨(1, A2), ⟨by simp only; omega, i2⟩, by simp only; omega, by exact SUx, by exact IMx⟩
  · have hR : rootsA x.a = preR x.a 1 ++ (x.a.cl ++ (x.a.stack ++ x.a.queue)) := by simp [rootsA, preR]
    have hN : preR x.a 1 ++ x.a.cl = preR x.a 2 := by simp [rootsA, preR]
    rw [show newI 1 = 1 from rfl]
    refine GOH ?_
    refine VC.loop (α := Nat × List Atom) (Γf := fun s => [(0, y), (8, .agg #[.slice (some ⟨p, 20, none⟩) x.a.sp.length x.a.sp.length, .slice (some ⟨p, 84, none⟩) x.a.cl.length x.a.cl.length, .slice a1 x.a.stack.length c1, .slice a2 x.a.queue.length c2]), (9, vi 1), (12, .slice (some ⟨p, 84, none⟩) x.a.cl.length x.a.cl.length), (13, vi x.a.cl.length), (14, vi s.1)]) (Hf := fun s => [cellsAt q 0 [ptr0 p], s.2]) (I := fun s => s.1 ≤ x.a.cl.length ∧ J (preR x.a 1 ++ x.a.cl.take s.1) s.2) (μ := fun s => x.a.cl.length - s.1) (0, A1) ⟨Nat.zero_le _, by simpa using t2⟩ (by exact SUx) (Imp.refl _) ?_
    rintro ⟨j, A2⟩ ⟨i1, i2⟩
    simp only at i1 i2 ⊢
    refine GOH ?_
    by_cases hlt : j < x.a.cl.length
    · rw [show decide ((j : Int) < (x.a.cl.length : Int)) = true from decide_eq_true (by omega)]
      obtain ⟨u, hu⟩ : ∃ u, x.a.cl[j]? = some u := ⟨_, List.getElem?_eq_getElem hlt⟩
      have hmem := (hJA _ _ i2).cl hu
      refine GOH ?_
      refine st_callV (by rfl) (hy _ u A2 (okR hR hu) i2) (by rfl) (by exact SPx) (fun v Post hv => ?_)
      rcases hv with ⟨rfl, A', hA', rfl⟩ | ⟨rfl, B', hB', rfl⟩
      · simp only [CNx]
        refine GOH ?_
        refine ⟨(j + 1, A'), ⟨by simp only; omega, ?_⟩, by simp only; omega, by exact SUx, by exact IMx⟩
        simp only
        rw [List.take_add_one, hu, ← List.append_assoc]; exact hA'
      · simp only [CNx]
        refine GOH ?_
        exact endQ_mk (.inr rfl) .nil ⟨rfl, .inr ⟨_, B', okR hR hu, hB', rfl⟩⟩ (by exact IMx)
    · rw [show decide ((j : Int) < (x.a.cl.length : Int)) = false from decide_eq_false (by omega)]
      rw [List.take_of_length_le (by omega), hN] at i2
      refine GOH ?_
      exact ⟨(2, A2), ⟨by simp only; omega, i2⟩, by simp only; omega, by exact SUx, by exact IMx⟩
  · have hR : rootsA x.a = preR x.a 2 ++ (x.a.stack ++ (x.a.queue)) := by simp [rootsA, preR]
    have hN : preR x.a 2 ++ x.a.stack = preR x.a 3 := by simp [rootsA, preR]
    rw [show newI 2 = 2 from rfl]
    refine GOH ?_
    refine VC.loop (α := Nat × List Atom) (Γf := fun s => [(0, y), (8, .agg #[.slice (some ⟨p, 20, none⟩) x.a.sp.length x.a.sp.length, .slice (some ⟨p, 84, none⟩) x.a.cl.length x.a.cl.length, .slice a1 x.a.stack.length c1, .slice a2 x.a.queue.length c2]), (9, vi 2), (12, .slice a1 x.a.stack.length c1), (13, vi x.a.stack.length), (14, vi s.1)]) (Hf := fun s => [cellsAt q 0 [ptr0 p], s.2]) (I := fun s => s.1 ≤ x.a.stack.length ∧ J (preR x.a 2 ++ x.a.stack.take s.1) s.2) (μ := fun s => x.a.stack.length - s.1) (0, A1) ⟨Nat.zero_le _, by simpa using t2⟩ (by exact SUx) (Imp.refl _) ?_
    rintro ⟨j, A2⟩ ⟨i1, i2⟩
    simp only at i1 i2 ⊢
    refine GOH ?_
    by_cases hlt : j < x.a.stack.length
    · rw [show decide ((j : Int) < (x.a.stack.length : Int)) = true from decide_eq_true (by omega)]
      obtain ⟨u, hu⟩ : ∃ u, x.a.stack[j]? = some u := ⟨_, List.getElem?_eq_getElem hlt⟩
      obtain ⟨b, o, c, hk, _, _⟩ := hx.stk.some (by omega)
      have hmem := (hJA _ _ i2).st hu hk
      rw [k1] at hk
      simp only [Value.slice.injEq, true_and] at hk
      obtain ⟨rfl, rfl⟩ := hk
      refine GOH ?_
      refine st_callV (by rfl) (hy _ u A2 (okR hR hu) i2) (by rfl) (by exact SPx) (fun v Post hv => ?_)
      rcases hv with ⟨rfl, A', hA', rfl⟩ | ⟨rfl, B', hB', rfl⟩
      · simp only [CNx]
        refine GOH ?_
        refine ⟨(j + 1, A'), ⟨by simp only; omega, ?_⟩, by simp only; omega, by exact SUx, by exact IMx⟩
        simp only
        rw [List.take_add_one, hu, ← List.append_assoc]; exact hA'
      · simp only [CNx]
        refine GOH ?_
        exact endQ_mk (.inr rfl) .nil ⟨rfl, .inr ⟨_, B', okR hR hu, hB', rfl⟩⟩ (by exact IMx)
    · rw [show decide ((j : Int) < (x.a.stack.length : Int)) = false from decide_eq_false (by omega)]
      rw [List.take_of_length_le (by omega), hN] at i2
      refine GOH ?_
      exact ⟨(3, A2), ⟨by simp only; omega, i2⟩, by simp only; omega, by exact SUx, by exact IMx⟩
  · have hR : rootsA x.a = preR x.a 3 ++ (x.a.queue ++ ([])) := by simp [rootsA, preR]
    have hN : preR x.a 3 ++ x.a.queue = preR x.a 4 := by simp [rootsA, preR]
    rw [show newI 3 = 3 from rfl]
    refine GOH ?_
    refine VC.loop (α := Nat × List Atom) (Γf := fun s => [(0, y), (8, .agg #[.slice (some ⟨p, 20, none⟩) x.a.sp.length x.a.sp.length, .slice (some ⟨p, 84, none⟩) x.a.cl.length x.a.cl.length, .slice a1 x.a.stack.length c1, .slice a2 x.a.queue.length c2]), (9, vi 3), (12, .slice a2 x.a.queue.length c2), (13, vi x.a.queue.length), (14, vi s.1)]) (Hf := fun s => [cellsAt q 0 [ptr0 p], s.2]) (I := fun s => s.1 ≤ x.a.queue.length ∧ J (preR x.a 3 ++ x.a.queue.take s.1) s.2) (μ := fun s => x.a.queue.length - s.1) (0, A1) ⟨Nat.zero_le _, by simpa using t2⟩ (by exact SUx) (Imp.refl _) ?_
    rintro ⟨j, A2⟩ ⟨i1, i2⟩
    simp only at i1 i2 ⊢
    refine GOH ?_
    by_cases hlt : j < x.a.queue.length
    · rw [show decide ((j : Int) < (x.a.queue.length : Int)) = true from decide_eq_true (by omega)]
      obtain ⟨u, hu⟩ : ∃ u, x.a.queue[j]? = some u := ⟨_, List.getElem?_eq_getElem hlt⟩
      obtain ⟨b, o, c, hk, _, _⟩ := hx.que.some (by omega)
      have hmem := (hJA _ _ i2).qu hu hk
      rw [k2] at hk
      simp only [Value.slice.injEq, true_and] at hk
      obtain ⟨rfl, rfl⟩ := hk
      refine GOH ?_
      refine st_callV (by rfl) (hy _ u A2 (okR hR hu) i2) (by rfl) (by exact SPx) (fun v Post hv => ?_)
      rcases hv with ⟨rfl, A', hA', rfl⟩ | ⟨rfl, B', hB', rfl⟩
      · simp only [CNx]
        refine GOH ?_
        refine ⟨(j + 1, A'), ⟨by simp only; omega, ?_⟩, by simp only; omega, by exact SUx, by exact IMx⟩
        simp only
        rw [List.take_add_one, hu, ← List.append_assoc]; exact hA'
      · simp only [CNx]
        refine GOH ?_
        exact endQ_mk (.inr rfl) .nil ⟨rfl, .inr ⟨_, B', okR hR hu, hB', rfl⟩⟩ (by exact IMx)
    · rw [show decide ((j : Int) < (x.a.queue.length : Int)) = false from decide_eq_false (by omega)]
      rw [List.take_of_length_le (by omega), hN] at i2
      refine GOH ?_
      exact ⟨(4, A2), ⟨by simp only; omega, i2⟩, by simp only; omega, by exact SUx, by exact IMx⟩
end Go.Proofs.YtmlnoodopoaafaaDoor
namespace Go.V
open Go
theorem HOk.roots {x : HW} (hx : HOk x) {o : Nat} (h : o ∈ rootsA x.a) : o < 18446744073709551616 := by
  simp only [rootsA, List.mem_append] at h
  rcases h with h | h | h | h
  · exact hx.sps o h
  · exact hx.cls o h
  · exact hx.stks o h
  · exact hx.ques o h
theorem HOk.oop_lt {x : HW} (hx : HOk x) {o : Nat} {b : Ob} (h : getO x.a.obs o = some b) : o < 18446744073709551616 := by
  obtain ⟨h1, rfl⟩ := getO_some h
  have := hx.range h1
  unfold Ob.oop; omega
end Go.V
namespace Go.Proofs.YtmlnoodopoaafaaDoor
open Go Go.V
set_option maxHeartbeats 6400000
set_option maxRecDepth 100000
theorem rooted_spec (p : Nat) (x : HW) (hx : HOk x) (hobs : x.a.obs.length < 1073741823) :
    Fun Tryd.prog 74 [ptr0 p] [HA p x] (fun v Post => ∃ q m, (v = ptr0 q ∧ LOk x.a m ∧ m.l = rootedA x.a) ∧ Post = [LA q p m, HA p x]) := by
  refine Fun.intro low74 (by simp [n74]) ?_
  refine GOH ?_
  refine st_mkmap (fun mb => ?_)
  refine GOH ?_
  refine st_box (by rfl) (fun q => ?_)
  refine st_alloc (fun r => ?_)
  simp only [Value.cells]
  refine GOH ?_
  refine st_call (roots_spec p x) (by rfl) Spl.nil (fun v Post hv => ?_)
  obtain ⟨q2, rfl, rfl⟩ := hv
  simp only [CNx]
  refine GOH ?_
  have h0 : LOk x.a ⟨[], .slice none 0 0, [], mb, #[], 0⟩ := ⟨.nil, .nil, .nil, fun y hy => by cases hy⟩
  refine VC.rangefA (fun c A => ∃ m, LOk x.a m ∧ m.l = c.foldl (meetA x.a) [] ∧ A = [cellsAt r 0 [ptr0 q], LA q p m, HA p x].flatten) ([cellsAt r 0 [ptr0 q], LA q p ⟨[], .slice none 0 0, [], mb, #[], 0⟩, HA p x].flatten) (by rfl) (roots_iter p q2 x hx) (fun A B h => h.more) ?_ (R := [cellsAt r 0 [ptr0 q], cellsAt q 0 [ptr0 p, .slice none 0 0, .map (some mb)], [.obj mb (.map #[] 0)], HA p x]) (by exact SPx) ?_ ⟨_, h0, rfl, rfl⟩ (fun _ => rfl) ?_ ?_
  · rintro c A ⟨m, h1, h2, rfl⟩
    refine ⟨x, cellsAt r 0 [ptr0 q] ++ LA q p m, ?_, hx, rfl, rfl, rfl, rfl, rfl, rfl⟩
    simp only [List.flatten_cons, List.flatten_nil, List.append_nil]
    rw [← List.append_assoc]
    exact List.perm_append_comm
  · refine Imp.perm ?_
    simp [LA, LMem, slA]
  · rintro c o A hok ⟨m, h1, h2, rfl⟩
    have ho : o < 18446744073709551616 := by
      obtain ⟨t, ht⟩ := hok
      exact hx.roots (by rw [← ht]; simp)
    simp only [bindE]
    refine VC.imp (H' := [cellsAt r 0 [ptr0 q], LA q p m, HA p x]) (Imp.perm (by simp)) ?_
    refine VC.reg ?_
    refine GOH ?_
    refine ⟨trivial, ?_⟩
    refine GOH ?_
    refine st_call (meets_spec p q x hx m h1 o ho hobs) (by rfl) (by exact SPx) (fun v Post hv => ?_)
    obtain ⟨m', ⟨rfl, h3, h4⟩, rfl⟩ := hv
    simp only [CNx]
    refine GOH ?_
    refine ⟨[cellsAt r 0 [ptr0 q], LA q p m', HA p x].flatten, ⟨m', h3, by rw [h4, h2, List.foldl_append]; rfl, rfl⟩, ?_⟩
    exact Imp.cut (M := [cellsAt r 0 [ptr0 q], LA q p m', HA p x]) (by exact IMx) (Imp.perm (by simp))
  · rintro full A hf ⟨m, h1, h2, rfl⟩
    subst hf
    simp only [List.nil_append, V.blockQ, V.thenQ]
    refine VC.imp (H' := [cellsAt r 0 [ptr0 q], LA q p m, HA p x]) (Imp.perm (by simp)) ?_
    refine GOH ?_
    exact endQ_mk (.inr rfl) (.tmp (by rfl) .nil) ⟨q, m, ⟨rfl, h1, h2⟩, rfl⟩ (by exact IMx)
theorem goA_len (a : AH) : ∀ (n i : Nat) (l : List Nat), l.Nodup → (∀ y ∈ l, (getO a.obs y).isSome = true) → (goA a n i l).Nodup ∧ ∀ y ∈ goA a n i l, (getO a.obs y).isSome = true := by
  intro n
  induction n with
  | zero => intro i l h1 h2; exact ⟨h1, h2⟩
  | succ n ih =>
    intro i l h1 h2
    simp only [goA]
    split
    · exact ih _ _ (meets_nodup h1) (meets_obs h2)
    · exact ⟨h1, h2⟩
theorem goA_end (a : AH) : ∀ (n i : Nat) (l : List Nat), l.Nodup → (∀ y ∈ l, (getO a.obs y).isSome = true) → l.length ≤ i → goA a n i l = l := by
  intro n i l _ _ h
  cases n with
  | zero => rfl
  | succ n => simp only [goA]; rw [List.getElem?_eq_none h]
theorem reached_spec (p : Nat) (x : HW) (hx : HOk x) (hobs : x.a.obs.length < 1073741823) :
    Fun Tryd.prog 40 [ptr0 p] [HA p x] (fun v Post => ∃ q m, (v = ptr0 q ∧ LOk x.a m ∧ m.l = reachedA x.a) ∧ Post = [LA q p m, HA p x]) := by
  refine Fun.intro low40 (by simp [n40]) ?_
  refine GOH ?_
  refine st_call (rooted_spec p x hx hobs) (by rfl) (by exact SPx) (fun v Post hv => ?_)
  obtain ⟨q, m0, ⟨rfl, h1, h2⟩, rfl⟩ := hv
  simp only [CNx]
  refine GOH ?_
  refine VC.loop (α := Nat × LN) (Γf := fun s => [(3, ptr0 q), (4, vi s.1)]) (Hf := fun s => [LA q p s.2, HA p x])
    (I := fun s => s.1 ≤ x.a.obs.length ∧ s.1 ≤ s.2.l.length ∧ LOk x.a s.2 ∧ reachedA x.a = goA x.a (x.a.obs.length + 1 - s.1) s.1 s.2.l) (μ := fun s => x.a.obs.length + 1 - s.1) (0, m0) ⟨Nat.zero_le _, Nat.zero_le _, h1, by rw [h2]; rfl⟩ (by exact SUx) (by exact IMx) ?_
  rintro ⟨i, m⟩ ⟨i1, i2, i3, i4⟩
  simp only at i1 i2 i3 i4 ⊢
  have hll := line_len i3.nodup i3.obs
  obtain ⟨a, c, hk⟩ := i3.sl.form
  have hq0 : Atom.cell q 1 m.lv ∈ LA q p m := by simp [LA, LMem, cellsAt]
  rw [hk] at hq0
  refine GOH ?_
  by_cases hlt : i < m.l.length
  · rw [show decide ((i : Int) < (m.l.length : Int)) = true from decide_eq_true (by omega)]
    obtain ⟨o, ho⟩ : ∃ o, m.l[i]? = some o := ⟨_, List.getElem?_eq_getElem hlt⟩
    obtain ⟨b, hb⟩ := Option.isSome_iff_exists.1 (i3.obs o (List.mem_of_getElem? ho))
    obtain ⟨bb, oo, cc, hk2, _, _⟩ := i3.sl.some (by omega)
    have hmem : Atom.cell bb (oo + i) (uv o) ∈ LA q p m := by
      simp only [LA, LMem, List.flatten_cons, List.mem_append]
      refine .inr (.inl ?_)
      rw [hk2]
      refine mem_cellsAt.2 ⟨i, uv o, ?_, rfl⟩
      rw [List.getElem?_append_left (by simpa using hlt)]; simp [ho]
    rw [hk] at hk2
    simp only [Value.slice.injEq, true_and] at hk2
    obtain ⟨rfl, rfl⟩ := hk2
    refine GOH ?_
    refine st_call (all_spec p q x hx m i3 o b hb (hx.oop_lt hb) hobs) (by rfl) (by exact SPx) (fun v Post hv => ?_)
    obtain ⟨m', ⟨rfl, h3, h4⟩, rfl⟩ := hv
    simp only [CNx]
    refine GOH ?_
    have hlen : m.l.length ≤ m'.l.length := by
      rw [h4]
      have : ∀ (ks l : List Nat), l.length ≤ (ks.foldl (meetA x.a) l).length := by
        intro ks
        induction ks with
        | nil => intro l; exact Nat.le_refl _
        | cons k ks ih =>
          intro l
          refine Nat.le_trans ?_ (ih _)
          unfold meetA; split
          · exact Nat.le_refl _
          · split <;> simp
      exact this _ _
    refine ⟨(i + 1, m'), ⟨by simp only; omega, by simp only; omega, h3, ?_⟩, by simp only; omega, by exact SUx, by exact IMx⟩
    simp only
    rw [i4, h4, show x.a.obs.length + 1 - i = (x.a.obs.length + 1 - (i + 1)) + 1 by omega]
    simp only [goA, ho]
  · rw [show decide ((i : Int) < (m.l.length : Int)) = false from decide_eq_false (by omega)]
    rw [goA_end x.a _ _ _ i3.nodup i3.obs (by omega)] at i4
    refine GOH ?_
    exact endQ_mk (.inr rfl) (.tmp (by rfl) .nil) ⟨q, m, ⟨rfl, i3, i4.symm⟩, rfl⟩ (by exact IMx)
end Go.Proofs.YtmlnoodopoaafaaDoor

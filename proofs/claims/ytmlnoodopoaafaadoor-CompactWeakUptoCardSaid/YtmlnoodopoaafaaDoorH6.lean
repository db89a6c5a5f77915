/-
  A collection under way: what is dead, what waits; what an object of the line meets.
-/
import Derived.Test.YtmlnoodopoaafaaDoorH5
import Derived.Test.YtmlnoodopoaafaaDoorV10
import Derived.Test.YtmlnoodopoaafaaDoorH2
import Derived.Test.YtmlnoodopoaafaaDoorV9
set_option linter.unusedSimpArgs false
set_option linter.unusedVariables false
namespace Go.V
open Go
theorem Fun.raR {P : Program} {f : Nat} {args : List Value} {q p : Nat} {y : RW} {w : Value} (h : Fun P f args (RMem q p y) (fun v Post => v = w ∧ Post = RMem q p y)) : Fun P f args [RA q p y] (fun v Post => v = w ∧ Post = [RA q p y]) :=
  h.conv (ra_spl q p y) (fun v Post hv => by obtain ⟨rfl, rfl⟩ := hv; exact ⟨_, ⟨rfl, rfl⟩, ra_back q p y⟩)
def hd0 : Hd := ⟨0, 0, 0, 0, 0, 0, false, false⟩
def deadM (s : MS) (o : Nat) : Bool := (getO s.a.obs o).isSome && !decide (o ∈ s.line)
theorem waits_dead (s : MS) (o : Nat) : waitsM s o = deadM s (keyA s.a o) := rfl
theorem small_body {y : RW} (hy : ROk y) {o : Nat} {b : Ob} (hb : getO y.s.a.obs o = some b) {i u : Nat} (hu : b.body[i]? = some u) : u < 18446744073709551616 := (hy.ok b (getO_some hb).1).small u (List.mem_of_getElem? hu)
theorem ROk.lt {y : RW} (hy : ROk y) {o : Nat} {b : Ob} (hb : getO y.s.a.obs o = some b) : o < 18446744073709551616 := hy.x.oop_lt (hy.getS hb)
end Go.V
namespace Go.Proofs.YtmlnoodopoaafaaDoor
open Go Go.V
set_option maxHeartbeats 3200000
set_option maxRecDepth 100000
theorem head0_spec (p : Nat) (x : HW) (hx : HOk x) (o : Nat) (hb : getO x.a.obs o = none) (ho : o < 18446744073709551616) : Fun Tryd.prog 23 [ptr0 p, uv o] [HA p x] (fun v Post => v = .tuple #[.agg (hdEnc hd0).toArray, vi 42] ∧ Post = [HA p x]) := by
  have ha := at_spec p x hx o ho
  rw [hb] at ha
  simp only [hdEnc]
  refine Fun.intro low23 (by simp [n23]) ?_
  refine VC.seq_reg ?_
  refine st_alloc (fun q => ?_)
  refine GOH ?_
  refine st_callS ha (by rfl) (by exact TKx) ?_
  refine GOH ?_
  refine ⟨.inr rfl, _, _, .cellN (us := hdEnc hd0) (by rfl) (by rfl) (fun y hy => by simp only [List.flatten_cons, List.mem_append]; exact .inl hy) (.tmp (by rfl) .nil), ?_, ⟨rfl, rfl⟩⟩
  exact IMx
theorem dead_spec (q p : Nat) (y : RW) (hy : ROk y) (o : Nat) (ho : o < 18446744073709551616) :
    Fun Tryd.prog 94 [ptr0 q, uv o] [RA q p y] (fun v Post => v = .bool (deadM y.s o) ∧ Post = [RA q p y]) := by
  refine Fun.raR ?_
  unfold deadM
  simp only [RMem]
  refine Fun.intro low94 (by simp [n94]) ?_
  cases hb : getO y.s.a.obs o with
  | none =>
    have hh := head0_spec p y.x hy.x o (by rw [hy.get, hb]; rfl) ho
    simp only [hdEnc] at hh
    refine GOH ?_
    refine st_callS hh (by rfl) (by exact TKx) ?_
    refine GOH ?_
    refine st_alloc (fun k => ?_)
    refine GOH ?_
    exact endQ_mk (.inr rfl) (.tmp (by rfl) .nil) ⟨rfl, rfl⟩ (by exact IMx)
  | some b =>
    have hh := headV_spec p y.x hy.x o _ (hy.getS hb) ho
    have hmk := mkB_marked (l := y.s.line) hb
    simp only [hdEnc] at hh
    rw [hmk] at hh
    generalize hd : decide (o ∈ y.s.line) = d at hh ⊢
    refine GOH ?_
    refine st_callS hh (by rfl) (by exact TKx) ?_
    refine GOH ?_
    refine st_alloc (fun k => ?_)
    refine GOH ?_
    cases d <;> exact endQ_mk (.inr rfl) (.tmp (by rfl) .nil) ⟨rfl, rfl⟩ (by exact IMx)
theorem waits_spec (q p : Nat) (y : RW) (hy : ROk y) (o : Nat) (b : Ob) (hb : getO y.s.a.obs o = some b) (h3 : b.hd.fmt ≤ 3) (h0 : 0 < b.hd.slots) :
    Fun Tryd.prog 109 [ptr0 q, uv o] [RA q p y] (fun v Post => v = .bool (waitsM y.s o) ∧ Post = [RA q p y]) := by
  have ho := hy.lt hb
  have hbo := hy.ok b (getO_some hb).1
  have hmany : b.many = b.hd.slots := by unfold Ob.many; rw [if_neg (by omega), if_neg (by omega)]
  obtain ⟨u, hu⟩ : ∃ u, b.body[0]? = some u := ⟨_, List.getElem?_eq_getElem (by rw [hbo.len]; exact h0)⟩
  have hul := small_body hy hb hu
  have hk : keyA y.s.a o = u := by
    unfold keyA; rw [hb]
    simp only [List.headD_eq_head?_getD, List.head?_eq_getElem?, hu]; rfl
  have hs := slotV_spec p y.x hy.x o _ (hy.getS hb) ho 0 u (by show 0 < (mkB y.s.line b).many; rw [show (mkB y.s.line b).many = b.many from rfl, hmany]; exact h0) hu
  have hd := dead_spec q p y hy u hul
  rw [waits_dead, hk]
  refine Fun.intro low109 (by simp [n109]) ?_
  refine VC.imp (ra_out q p y) ?_
  simp only [RMem]
  refine GOH ?_
  refine st_callS hs (by rfl) (by exact TKx) ?_
  refine GOH ?_
  refine VO.imp (Imp.cut (by exact IMx) (ra_in q p y)) ?_
  refine st_callS hd (by rfl) (by exact TKx) ?_
  refine GOH ?_
  exact endQ_mk (.inr rfl) (.tmp (by rfl) .nil) ⟨rfl, rfl⟩ (by exact IMx)
theorem allM_take {s : MS} {l : List Nat} {i o : Nat} (h : l[i]? = some o) : (l.take (i + 1)).foldl (meetA s.a) s.line = meetA s.a ((l.take i).foldl (meetA s.a) s.line) o := by
  rw [List.take_add_one, h, List.foldl_append]; rfl
theorem allR_spec (q p : Nat) (y : RW) (hy : ROk y) (o : Nat) (b : Ob) (hb : getO y.s.a.obs o = some b) :
    Fun Tryd.prog 92 [ptr0 q, uv o] [RA q p y] (RPost q p y (allM y.s o)) := by
  have ho := hy.lt hb
  have hbo := hy.ok b (getO_some hb).1
  have hmm := hbo.many
  have hsl := hbo.may.slots
  have hkids : kidsA y.s.a o = b.body.take b.many := by unfold kidsA; rw [hb]
  have hop := oops_spec p y.x hy.x o _ (hy.getS hb) ho
  rw [show (mkB y.s.line b).many = b.many from rfl] at hop
  refine Fun.intro low92 (by simp [n92]) ?_
  refine VC.imp (ra_out q p y) ?_
  simp only [RMem]
  refine GOH ?_
  refine st_callS hop (by rfl) (by exact TKx) ?_
  refine GOH ?_
  refine VC.loop (α := Nat × RW) (Γf := fun s => [(0, ptr0 q), (1, uv o), (18, vi b.many), (19, vi s.1)]) (Hf := fun s => [RA q p s.2])
    (I := fun s => s.1 ≤ b.many ∧ ROk s.2 ∧ s.2.s = { y.s with line := ((b.body.take b.many).take s.1).foldl (meetA y.s.a) y.s.line } ∧ HSame y.x s.2.x) (μ := fun s => b.many - s.1) (0, y) ⟨Nat.zero_le _, hy, by simp, .refl _⟩ (by exact SUx) (Imp.cut (by exact IMx) (ra_in q p y)) ?_
  rintro ⟨i, z⟩ ⟨i1, i2, i3, i4⟩
  simp only at i1 i2 i3 i4 ⊢
  have hza : z.s.a = y.s.a := by rw [i3]
  by_cases hlt : i < b.many
  rotate_left
  · refine GOH ?_
    rw [show decide ((i : Int) < (b.many : Int)) = false from decide_eq_false (by omega)]
    refine GOH ?_
    refine endQ_mk (.inl rfl) .nil ⟨z, ⟨rfl, i2, ?_, i4⟩, rfl⟩ (by exact IMx)
    rw [i3, List.take_of_length_le (by simp; omega)]
    unfold allM
    rw [hkids]
  obtain ⟨u, hu⟩ : ∃ u, b.body[i]? = some u := ⟨_, List.getElem?_eq_getElem (by rw [hbo.len]; omega)⟩
  have hul := small_body hy hb hu
  have hbz : getO z.s.a.obs o = some b := by rw [hza]; exact hb
  have hs := slotV_spec p z.x i2.x o _ (i2.getS hbz) ho i u (by show i < (mkB z.s.line b).many; exact hlt) hu
  have hme := meets_spec' q p z i2 u hul
  have hut : (b.body.take b.many)[i]? = some u := by rw [List.getElem?_take_of_lt hlt]; exact hu
  refine VC.imp (ra_out q p z) ?_
  simp only [RMem]
  refine GOH ?_
  rw [show decide ((i : Int) < (b.many : Int)) = true from decide_eq_true (by omega)]
  refine GOH ?_
  refine st_callS hs (by rfl) (by exact TKx) ?_
  refine GOH ?_
  refine VO.imp (Imp.cut (by exact IMx) (ra_in q p z)) ?_
  refine st_call hme (by rfl) (by exact SPx) (fun v Post hv => ?_)
  obtain ⟨z', ⟨rfl, k1, k2, k3⟩, rfl⟩ := hv
  simp only [CNx]
  refine GOH ?_
  refine ⟨(i + 1, z'), ⟨by simp only; omega, k1, ?_, i4.trans k3⟩, by simp only; omega, by exact SUx, by exact IMx⟩
  simp only
  rw [k2, i3]
  simp only
  rw [allM_take hut]
theorem one_spec (q p : Nat) (y : RW) (hy : ROk y) (hw : y.s.waiting.length ≤ 4194304) (o : Nat) (b : Ob) (hb : getO y.s.a.obs o = some b) :
    Fun Tryd.prog 89 [ptr0 q, uv o] [RA q p y] (RPost q p y (oneM y.s o)) := by
  have ho := hy.lt hb
  have hbo := hy.ok b (getO_some hb).1
  have hfm : fmtO y.s.a o = b.hd.fmt := by unfold fmtO; rw [hb]
  have hh := headV_spec p y.x hy.x o _ (hy.getS hb) ho
  have hall := allR_spec q p y hy o b hb
  simp only [hdEnc] at hh
  have hfx : (mkB y.s.line b).hd.fmt = b.hd.fmt := rfl
  rw [hfx] at hh
  obtain ⟨f1, f6⟩ := hbo.may.fmt
  unfold oneM
  rw [hfm]
  have hcases : b.hd.fmt = 3 ∨ (b.hd.fmt = 1 ∨ b.hd.fmt = 6) ∨ (b.hd.fmt = 2 ∨ b.hd.fmt = 4 ∨ b.hd.fmt = 5) := by omega
  refine Fun.intro low89 (by simp [n89]) ?_
  refine VC.imp (ra_out q p y) ?_
  simp only [RMem]
  refine GOH ?_
  refine st_callS hh (by rfl) (by exact TKx) ?_
  refine GOH ?_
  refine st_alloc (fun k => ?_)
  refine GOH ?_
  rcases hcases with h | h | h
  · have hwt := waits_spec q p y hy o b hb (by omega) (hbo.may.eph h)
    rw [if_pos h]
    rw [show decide ((b.hd.fmt : Int) = 3) = true from decide_eq_true (by omega)]
    refine GOH ?_
    refine VO.imp (Imp.cut (by exact IMx) (ra_in q p y)) ?_
    refine st_callS hwt (by rfl) (by exact TKx) ?_
    refine GOH ?_
    cases hwv : waitsM y.s o with
    | true =>
      rw [if_pos rfl]
      refine GOH ?_
      obtain ⟨a, c, hk⟩ := hy.w.form
      have hsl := hy.w
      rw [hk] at hsl
      have hmap : (y.s.waiting ++ [o]).map uv = y.s.waiting.map uv ++ [uv o] := by simp
      refine VO.imp (ra_out q p y) ?_
      simp only [RMem, hk]
      refine GOH ?_
      refine st_bslice (out := [uv o]) (by rfl) (by rfl) (fun q3 => ?_)
      refine st_append (k := y.s.waiting.length) (m := 1) (xs := y.s.waiting.map uv) (sp := y.vs) (ys := [uv o]) (by rfl) (by rfl) hsl (by exact TKx) (by rfl) ?_ rfl (by rfl) (by rfl) (by decide) (by omega) (fun sv' sp' hsl' => ?_)
      · exact ⟨rfl, fun a ha => by simp only [List.flatten_cons, List.mem_append]; exact .inl ha⟩
      have hsl2 : IsSl 1 sv' (y.s.waiting ++ [o]).length ((y.s.waiting ++ [o]).map uv) sp' := by rw [hmap]; simpa using hsl'
      obtain ⟨a', c', rfl⟩ := hsl'.form
      refine GOH ?_
      refine endQ_mk (.inr rfl) .nil ⟨{ y with s := waitM y.s o, wv := .slice a' (y.s.waiting.length + 1) c', vs := sp' }, ⟨rfl, ⟨hy.x, hy.a, hy.m.wait hb (by omega) (hbo.may.eph h), hy.l, hsl2, hy.f⟩, rfl, .refl _⟩, rfl⟩ (Imp.cut ?_ (ra_in q p _))
      simp only [RMem, waitM, hmap]
      exact IMx
    | false =>
      rw [if_neg (by simp)]
      refine GOH ?_
      refine st_call hall (by rfl) (by exact SPx) (fun v Post hv => ?_)
      obtain ⟨z', ⟨rfl, k1, k2, k3⟩, rfl⟩ := hv
      simp only [CNx]
      refine GOH ?_
      exact endQ_mk (.inl rfl) .nil ⟨z', ⟨rfl, k1, k2, k3⟩, rfl⟩ (by exact IMx)
  · rw [if_neg (by omega), if_pos h]
    rw [show decide ((b.hd.fmt : Int) = 3) = false from decide_eq_false (by omega)]
    refine GOH ?_
    rcases h with h | h
    · rw [show decide ((b.hd.fmt : Int) = 1) = true from decide_eq_true (by omega)]
      refine GOH ?_
      refine VO.imp (Imp.cut (by exact IMx) (ra_in q p y)) ?_
      refine st_call hall (by rfl) (by exact SPx) (fun v Post hv => ?_)
      obtain ⟨z', ⟨rfl, k1, k2, k3⟩, rfl⟩ := hv
      simp only [CNx]
      refine GOH ?_
      exact endQ_mk (.inl rfl) .nil ⟨z', ⟨rfl, k1, k2, k3⟩, rfl⟩ (by exact IMx)
    · rw [show decide ((b.hd.fmt : Int) = 1) = false from decide_eq_false (by omega)]
      refine GOH ?_
      rw [show decide ((b.hd.fmt : Int) = 6) = true from decide_eq_true (by omega)]
      refine GOH ?_
      refine VO.imp (Imp.cut (by exact IMx) (ra_in q p y)) ?_
      refine st_call hall (by rfl) (by exact SPx) (fun v Post hv => ?_)
      obtain ⟨z', ⟨rfl, k1, k2, k3⟩, rfl⟩ := hv
      simp only [CNx]
      refine GOH ?_
      exact endQ_mk (.inl rfl) .nil ⟨z', ⟨rfl, k1, k2, k3⟩, rfl⟩ (by exact IMx)
  · rw [if_neg (by omega), if_neg (by omega)]
    rw [show decide ((b.hd.fmt : Int) = 3) = false from decide_eq_false (by omega)]
    refine GOH ?_
    rw [show decide ((b.hd.fmt : Int) = 1) = false from decide_eq_false (by omega)]
    refine GOH ?_
    rw [show decide ((b.hd.fmt : Int) = 6) = false from decide_eq_false (by omega)]
    refine GOH ?_
    exact endQ_mk (.inl rfl) .nil ⟨y, ⟨rfl, hy, rfl, .refl _⟩, rfl⟩ (Imp.cut (by exact IMx) (ra_in q p y))
end Go.Proofs.YtmlnoodopoaafaaDoor
namespace Go.V
open Go
def RdU (A : List Atom) (v : Value) (xs : List Nat) : Prop := ∃ a c, v = .slice a xs.length c ∧ ∀ i u, xs[i]? = some u → ∃ b o, a = some ⟨b, o, none⟩ ∧ Atom.cell b (o + i) (uv u) ∈ A
theorem IsSl.rdU {v : Value} {xs : List Nat} {sp : List Value} (h : IsSl 1 v xs.length (xs.map uv) sp) : RdU (slA v (xs.map uv) sp) v xs := by
  by_cases h0 : 0 < xs.length
  · obtain ⟨b, o, c, rfl, _, _⟩ := h.some h0
    exact ⟨_, _, rfl, fun i u hu => ⟨b, o, rfl, slA_mem hu⟩⟩
  · obtain ⟨a, c, rfl⟩ := h.form
    exact ⟨_, _, rfl, fun i u hu => by have := (List.getElem?_eq_some_iff.1 hu).1; omega⟩
theorem take_same {xs ys : List Nat} {i u : Nat} (h : xs.take i = ys.take i) (hx : xs[i]? = some u) (hy : ys[i]? = some u) : xs.take (i + 1) = ys.take (i + 1) := by
  rw [List.take_add_one, List.take_add_one, hx, hy, h]
end Go.V
namespace Go.Proofs.YtmlnoodopoaafaaDoor
open Go Go.V
set_option maxHeartbeats 6400000
set_option maxRecDepth 100000
theorem sameN_spec (A B : List Atom) (v1 v2 : Value) (xs ys : List Nat) (h1 : RdU A v1 xs) (h2 : RdU B v2 ys) (hl : xs.length ≤ 1073741824) : Fun Tryd.prog 12 [v1, v2] [A, B] (fun v Post => v = .bool (decide (xs = ys)) ∧ Post = [A, B]) := by
  obtain ⟨a1, c1, rfl, m1⟩ := h1
  obtain ⟨a2, c2, rfl, m2⟩ := h2
  refine Fun.intro low12 (by simp [n12]) ?_
  refine GOH ?_
  by_cases hle : xs.length = ys.length
  rotate_left
  · rw [show decide ((xs.length : Int) = (ys.length : Int)) = false from decide_eq_false (by omega), decide_eq_false (show ¬ xs = ys from fun e => hle (by rw [e]))]
    refine GOH ?_
    exact endQ_mk (.inr rfl) (.tmp (by rfl) .nil) ⟨rfl, rfl⟩ (by exact IMx)
  rw [show decide ((xs.length : Int) = (ys.length : Int)) = true from decide_eq_true (by omega)]
  rw [← hle]
  refine GOH ?_
  refine VC.loop (α := Nat) (Γf := fun i => [(0, .slice a1 xs.length c1), (1, .slice a2 xs.length c2), (5, vi i)]) (Hf := fun _ => [A, B]) (I := fun i => i ≤ xs.length ∧ xs.take i = ys.take i) (μ := fun i => xs.length - i) 0 ⟨Nat.zero_le _, rfl⟩ (by exact SUx) (Imp.refl _) ?_
  rintro i ⟨i1, i2⟩
  refine GOH ?_
  by_cases hlt : i < xs.length
  · rw [show decide ((i : Int) < (xs.length : Int)) = true from decide_eq_true (by omega)]
    obtain ⟨u, hu⟩ : ∃ u, xs[i]? = some u := ⟨_, List.getElem?_eq_getElem hlt⟩
    obtain ⟨w, hw⟩ : ∃ w, ys[i]? = some w := ⟨_, List.getElem?_eq_getElem (by omega)⟩
    obtain ⟨b1, o1, rfl, k1⟩ := m1 i u hu
    obtain ⟨b2, o2, rfl, k2⟩ := m2 i w hw
    refine GOH ?_
    by_cases e : u = w
    · subst e
      rw [show decide ((u : Int) = (u : Int)) = true from decide_eq_true rfl]
      refine GOH ?_
      exact ⟨i + 1, ⟨by omega, take_same i2 hu hw⟩, by omega, by exact SUx, Imp.refl _⟩
    · rw [show decide ((u : Int) = (w : Int)) = false from decide_eq_false (by omega), decide_eq_false (show ¬ xs = ys from fun e2 => e (by rw [e2] at hu; rw [hu] at hw; exact Option.some.inj hw))]
      refine GOH ?_
      exact endQ_mk (.inr rfl) (.tmp (by rfl) .nil) ⟨rfl, rfl⟩ (by exact IMx)
  · rw [show decide ((i : Int) < (xs.length : Int)) = false from decide_eq_false (by omega)]
    rw [List.take_of_length_le (by omega), List.take_of_length_le (by omega)] at i2
    rw [decide_eq_true i2]
    refine GOH ?_
    exact endQ_mk (.inr rfl) (.tmp (by rfl) .nil) ⟨rfl, rfl⟩ (by exact IMx)
theorem sameO_spec (A B : List Atom) (v1 v2 : Value) (xs ys : List Nat) (h1 : RdU A v1 xs) (h2 : RdU B v2 ys) (hl : xs.length ≤ 1073741824) : Fun Tryd.prog 25 [v1, v2] [A, B] (fun v Post => v = .bool (decide (xs = ys)) ∧ Post = [A, B]) := by
  obtain ⟨a1, c1, rfl, m1⟩ := h1
  obtain ⟨a2, c2, rfl, m2⟩ := h2
  refine Fun.intro low25 (by simp [n25]) ?_
  refine GOH ?_
  by_cases hle : xs.length = ys.length
  rotate_left
  · rw [show decide ((xs.length : Int) = (ys.length : Int)) = false from decide_eq_false (by omega), decide_eq_false (show ¬ xs = ys from fun e => hle (by rw [e]))]
    refine GOH ?_
    exact endQ_mk (.inr rfl) (.tmp (by rfl) .nil) ⟨rfl, rfl⟩ (by exact IMx)
  rw [show decide ((xs.length : Int) = (ys.length : Int)) = true from decide_eq_true (by omega)]
  rw [← hle]
  refine GOH ?_
  refine VC.loop (α := Nat) (Γf := fun i => [(0, .slice a1 xs.length c1), (1, .slice a2 xs.length c2), (5, vi i)]) (Hf := fun _ => [A, B]) (I := fun i => i ≤ xs.length ∧ xs.take i = ys.take i) (μ := fun i => xs.length - i) 0 ⟨Nat.zero_le _, rfl⟩ (by exact SUx) (Imp.refl _) ?_
  rintro i ⟨i1, i2⟩
  refine GOH ?_
  by_cases hlt : i < xs.length
  · rw [show decide ((i : Int) < (xs.length : Int)) = true from decide_eq_true (by omega)]
    obtain ⟨u, hu⟩ : ∃ u, xs[i]? = some u := ⟨_, List.getElem?_eq_getElem hlt⟩
    obtain ⟨w, hw⟩ : ∃ w, ys[i]? = some w := ⟨_, List.getElem?_eq_getElem (by omega)⟩
    obtain ⟨b1, o1, rfl, k1⟩ := m1 i u hu
    obtain ⟨b2, o2, rfl, k2⟩ := m2 i w hw
    refine GOH ?_
    by_cases e : u = w
    · subst e
      rw [show decide ((u : Int) = (u : Int)) = true from decide_eq_true rfl]
      refine GOH ?_
      exact ⟨i + 1, ⟨by omega, take_same i2 hu hw⟩, by omega, by exact SUx, Imp.refl _⟩
    · rw [show decide ((u : Int) = (w : Int)) = false from decide_eq_false (by omega), decide_eq_false (show ¬ xs = ys from fun e2 => e (by rw [e2] at hu; rw [hu] at hw; exact Option.some.inj hw))]
      refine GOH ?_
      exact endQ_mk (.inr rfl) (.tmp (by rfl) .nil) ⟨rfl, rfl⟩ (by exact IMx)
  · rw [show decide ((i : Int) < (xs.length : Int)) = false from decide_eq_false (by omega)]
    rw [List.take_of_length_le (by omega), List.take_of_length_le (by omega)] at i2
    rw [decide_eq_true i2]
    refine GOH ?_
    exact endQ_mk (.inr rfl) (.tmp (by rfl) .nil) ⟨rfl, rfl⟩ (by exact IMx)
end Go.Proofs.YtmlnoodopoaafaaDoor
namespace Go.V
open Go
theorem againM_a (l : List Nat) : ∀ (s : MS), (l.foldl againS s).a = s.a := by
  induction l with
  | nil => intro s; rfl
  | cons o r ih =>
    intro s
    rw [List.foldl_cons, ih]
    unfold againS
    split <;> rfl
theorem againM_len (l : List Nat) : ∀ (s : MS), (l.foldl againS s).waiting.length ≤ s.waiting.length + l.length := by
  induction l with
  | nil => intro s; simp
  | cons o r ih =>
    intro s
    rw [List.foldl_cons]
    have := ih (againS s o)
    have h2 : (againS s o).waiting.length ≤ s.waiting.length + 1 := by
      unfold againS
      split
      · simp [waitM]
      · simp [allM]
    simp only [List.length_cons]; omega
theorem foldl_take {α β : Type} {f : β → α → β} {s : β} {l : List α} {i : Nat} {o : α} (h : l[i]? = some o) : (l.take (i + 1)).foldl f s = f ((l.take i).foldl f s) o := by
  rw [List.take_add_one, h, List.foldl_append]; rfl
end Go.V
namespace Go.Proofs.YtmlnoodopoaafaaDoor
open Go Go.V
set_option maxHeartbeats 3200000
set_option maxRecDepth 100000
theorem again_spec (q p : Nat) (y : RW) (hy : ROk y) (hw : y.s.waiting.length ≤ 4194304) :
    Fun Tryd.prog 90 [ptr0 q] [RA q p y] (fun v Post => ∃ y', (v = .bool (decide ((againM y.s).waiting.length < y.s.waiting.length)) ∧ ROk y' ∧ y'.s = againM y.s ∧ HSame y.x y'.x) ∧ Post = [RA q p y']) := by
  have hrd := hy.w.rdU
  obtain ⟨y0, hy0⟩ : ∃ y0 : RW, y0 = { y with s := { y.s with waiting := [] }, wv := .slice none 0 0, vs := [] } := ⟨_, rfl⟩
  have ok0 : ROk y0 := by rw [hy0]; exact ⟨hy.x, hy.a, ⟨hy.m.nd, hy.m.ob, fun o ho => by cases ho⟩, hy.l, .nil, hy.f⟩
  have hs0 : y0.s = { y.s with waiting := [] } := by rw [hy0]
  have hx0 : HSame y.x y0.x := by rw [hy0]; exact .refl _
  have hmem : Imp [cellsAt q 0 [ptr0 p, y.lv, .slice none 0 0, y.fv], slA y.lv (y.s.line.map uv) y.ls, slA y.fv (y.s.fired.map uv) y.fs, HA p y.x] [RA q p y0] := by
    refine Imp.cut ?_ (ra_in q p y0)
    rw [hy0]
    simp only [RMem, slA, List.map_nil, List.nil_append]
    refine Imp.perm (by simp)
  obtain ⟨a, c, hk, hrd⟩ := hrd
  have hL : y.s.waiting.length ≤ 4194304 := hw
  refine Fun.intro low90 (by simp [n90]) ?_
  refine VC.imp (ra_out q p y) ?_
  simp only [RMem]
  generalize hB : slA y.wv (y.s.waiting.map uv) y.vs = B at hrd ⊢
  rw [hk]
  refine GOH ?_
  refine VC.loop (α := Nat × RW) (Γf := fun s => [(0, ptr0 q), (3, .slice a y.s.waiting.length c), (13, .slice a y.s.waiting.length c), (14, vi y.s.waiting.length), (15, vi s.1)]) (Hf := fun s => [B, RA q p s.2])
    (I := fun s => s.1 ≤ y.s.waiting.length ∧ ROk s.2 ∧ s.2.s = (y.s.waiting.take s.1).foldl againS { y.s with waiting := [] } ∧ HSame y.x s.2.x) (μ := fun s => y.s.waiting.length - s.1) (0, y0) ⟨Nat.zero_le _, ok0, hs0, hx0⟩ (by exact SUx) ?_ ?_
  · refine Imp.cut (M := B :: [cellsAt q 0 [ptr0 p, y.lv, .slice none 0 0, y.fv], slA y.lv (y.s.line.map uv) y.ls, slA y.fv (y.s.fired.map uv) y.fs, HA p y.x]) (by exact IMx) ?_
    exact Imp.cons .here hmem
  rintro ⟨i, z⟩ ⟨i1, i2, i3, i4⟩
  simp only at i1 i2 i3 i4 ⊢
  have hza : z.s.a = y.s.a := by rw [i3, againM_a]
  refine GOH ?_
  by_cases hlt : i < y.s.waiting.length
  rotate_left
  · rw [show decide ((i : Int) < (y.s.waiting.length : Int)) = false from decide_eq_false (by omega)]
    rw [List.take_of_length_le (by omega)] at i3
    have hfin : z.s = againM y.s := i3
    obtain ⟨za, zc, hzk⟩ := i2.w.form
    refine GOH ?_
    refine VO.imp (H' := [B, cellsAt q 0 [ptr0 p, z.lv, z.wv, z.fv], slA z.lv (z.s.line.map uv) z.ls, slA z.wv (z.s.waiting.map uv) z.vs, slA z.fv (z.s.fired.map uv) z.fs, HA p z.x]) (Imp.cons .here (ra_out q p z)) ?_
    rw [hzk]
    refine GOH ?_
    refine endQ_mk (.inr rfl) (.tmp (by rfl) .nil) ⟨z, ⟨?_, i2, hfin, i4⟩, rfl⟩ ?_
    · rw [hfin]
      show Value.bool _ = Value.bool _
      congr 1
      rw [decide_eq_decide]; omega
    · refine Imp.cut (M := RMem q p z) ?_ (ra_in q p z)
      simp only [RMem, hzk]
      exact IMx
  rw [show decide ((i : Int) < (y.s.waiting.length : Int)) = true from decide_eq_true (by omega)]
  obtain ⟨o, ho⟩ : ∃ o, y.s.waiting[i]? = some o := ⟨_, List.getElem?_eq_getElem hlt⟩
  obtain ⟨b1, o1, rfl, k1⟩ := hrd i o ho
  obtain ⟨b, hb, h3, h0⟩ := hy.m.wt o (List.mem_of_getElem? ho)
  have hbz : getO z.s.a.obs o = some b := by rw [hza]; exact hb
  have hwt := waits_spec q p z i2 o b hbz h3 h0
  have hall := allR_spec q p z i2 o b hbz
  have hstep : againS z.s o = (y.s.waiting.take (i + 1)).foldl againS { y.s with waiting := [] } := by rw [foldl_take ho, i3]
  refine GOH ?_
  refine st_callS hwt (by rfl) (by exact TKx) ?_
  refine GOH ?_
  cases hwv : waitsM z.s o with
  | true =>
    have hzl : z.s.waiting.length ≤ 4194304 := by
      have := againM_len (y.s.waiting.take i) { y.s with waiting := [] }
      rw [← i3] at this
      simp only [List.length_take, List.length_nil] at this
      omega
    obtain ⟨za, zc, hzk⟩ := i2.w.form
    have hsl := i2.w
    rw [hzk] at hsl
    have hmap : (z.s.waiting ++ [o]).map uv = z.s.waiting.map uv ++ [uv o] := by simp
    refine GOH ?_
    refine VO.imp (H' := [B, cellsAt q 0 [ptr0 p, z.lv, z.wv, z.fv], slA z.lv (z.s.line.map uv) z.ls, slA z.wv (z.s.waiting.map uv) z.vs, slA z.fv (z.s.fired.map uv) z.fs, HA p z.x]) (Imp.cut (by exact IMx) (Imp.cons .here (ra_out q p z))) ?_
    rw [hzk]
    refine GOH ?_
    refine st_bslice (out := [uv o]) (by rfl) (by rfl) (fun q3 => ?_)
    refine st_append (k := z.s.waiting.length) (m := 1) (xs := z.s.waiting.map uv) (sp := z.vs) (ys := [uv o]) (by rfl) (by rfl) hsl (by exact TKx) (by rfl) ?_ rfl (by rfl) (by rfl) (by decide) (by omega) (fun sv' sp' hsl' => ?_)
    · exact ⟨rfl, fun a ha => by simp only [List.flatten_cons, List.mem_append]; exact .inl ha⟩
    have hsl2 : IsSl 1 sv' (z.s.waiting ++ [o]).length ((z.s.waiting ++ [o]).map uv) sp' := by rw [hmap]; simpa using hsl'
    obtain ⟨a', c', rfl⟩ := hsl'.form
    refine GOH ?_
    have hfin : againS z.s o = waitM z.s o := by unfold againS; rw [hwv, if_pos rfl]
    rw [hfin] at hstep
    refine ⟨(i + 1, { z with s := waitM z.s o, wv := .slice a' (z.s.waiting.length + 1) c', vs := sp' }), ⟨by simp only; omega, ⟨i2.x, i2.a, i2.m.wait hbz h3 h0, i2.l, hsl2, i2.f⟩, hstep, i4⟩, by simp only; omega, by exact SUx, ?_⟩
    simp only
    refine Imp.cut (M := B :: RMem q p { z with s := waitM z.s o, wv := .slice a' (z.s.waiting.length + 1) c', vs := sp' }) ?_ (Imp.cons .here (ra_in q p _))
    simp only [RMem, waitM, hmap]
    exact IMx
  | false =>
    have hfin : againS z.s o = allM z.s o := by unfold againS; rw [hwv, if_neg (by simp)]
    rw [hfin] at hstep
    refine GOH ?_
    refine st_call hall (by rfl) (by exact SPx) (fun v Post hv => ?_)
    obtain ⟨z', ⟨rfl, k1, k2, k3⟩, rfl⟩ := hv
    simp only [CNx]
    refine GOH ?_
    exact ⟨(i + 1, z'), ⟨by simp only; omega, k1, k2.trans hstep, i4.trans k3⟩, by simp only; omega, by exact SUx, by exact IMx⟩
end Go.Proofs.YtmlnoodopoaafaaDoor
namespace Go.V
open Go
structure MInv (s1 : MS) (x0 : HW) (i : Nat) (z : RW) : Prop where
  st : MSteps (s1, 0) (z.s, i)
  ok : ROk z
  same : HSame x0 z.x
  le : i ≤ z.s.line.length
  few : z.s.waiting.length + z.s.fired.length ≤ i
  obs : z.s.a.obs.length = s1.a.obs.length
def mMu (s1 : MS) (i : Nat) (z : RW) : Nat := 2 * (s1.a.obs.length - i) + z.s.waiting.length
theorem MInv.bound {s1 : MS} {x0 : HW} {i : Nat} {z : RW} (h : MInv s1 x0 i z) : i ≤ s1.a.obs.length ∧ s1.a.obs.length < 4194304 ∧ z.s.line.length ≤ s1.a.obs.length := by
  have h1 := line_len h.ok.m.nd h.ok.m.ob
  have h2 := h.ok.obs
  rw [h.obs] at h1 h2
  exact ⟨Nat.le_trans h.le h1, h2, h1⟩
end Go.V
namespace Go.Proofs.YtmlnoodopoaafaaDoor
open Go Go.V
set_option maxHeartbeats 3200000
set_option maxRecDepth 100000
def markLoop : IC := match F58.body with | .seq _ (.scope (.seq _ (.seq _ (.seq _ r)))) => r | _ => .skip
theorem markLoop_spec (q p k1 : Nat) (s1 : MS) (x0 : HW) (y : RW) (h0 : MInv s1 x0 0 y) :
    VC Tryd.prog 76 markLoop [(1, ptr0 k1), (3, vi 0)] [cellsAt k1 0 [ptr0 q], RA q p y] (fun e _ H' => e = .normal ∧ ∃ i z, MInv s1 x0 i z ∧ i = z.s.line.length ∧ z.s.waiting = [] ∧ Imp H' [RA q p z]) := by
  unfold markLoop
  simp only [F58, laid]
  refine VC.block ?_
  refine VC.loop (α := Nat × RW) (Γf := fun s => [(1, ptr0 k1), (3, vi s.1)]) (Hf := fun s => [cellsAt k1 0 [ptr0 q], RA q p s.2]) (I := fun s => MInv s1 x0 s.1 s.2) (μ := fun s => mMu s1 s.1 s.2) (0, y) h0 (by exact SUx) (Imp.refl _) ?_
  rintro ⟨i, z⟩ hI
  simp only at hI ⊢
  refine VC.block ?_
  refine VC.seq_block ?_
  refine VC.loop (α := Nat × RW) (Γf := fun s => [(1, ptr0 k1), (3, vi s.1)]) (Hf := fun s => [cellsAt k1 0 [ptr0 q], RA q p s.2]) (I := fun s => MInv s1 x0 s.1 s.2 ∧ mMu s1 s.1 s.2 ≤ mMu s1 i z) (μ := fun s => s1.a.obs.length - s.1) (i, z) ⟨hI, Nat.le_refl _⟩ (by exact SUx) (Imp.refl _) ?_
  rintro ⟨j, w⟩ ⟨hJ, hmu⟩
  simp only at hJ hmu ⊢
  obtain ⟨b1, b2, b3⟩ := hJ.bound
  have hrd := hJ.ok.l.rdU
  obtain ⟨la, lc, hlk, hrd⟩ := hrd
  refine VC.imp (H' := [cellsAt k1 0 [ptr0 q], cellsAt q 0 [ptr0 p, w.lv, w.wv, w.fv], slA w.lv (w.s.line.map uv) w.ls, slA w.wv (w.s.waiting.map uv) w.vs, slA w.fv (w.s.fired.map uv) w.fs, HA p w.x]) (Imp.cons .here (ra_out q p w)) ?_
  generalize hB : slA w.lv (w.s.line.map uv) w.ls = B at hrd ⊢
  rw [hlk]
  refine GOH ?_
  have hback : Imp [cellsAt k1 0 [ptr0 q], cellsAt q 0 [ptr0 p, .slice la w.s.line.length lc, w.wv, w.fv], B, slA w.wv (w.s.waiting.map uv) w.vs, slA w.fv (w.s.fired.map uv) w.fs, HA p w.x] [cellsAt k1 0 [ptr0 q], RA q p w] := by
    rw [← hB, ← hlk]; exact Imp.cons .here (ra_in q p w)
  by_cases hlt : j < w.s.line.length
  · rw [show decide ((j : Int) < (w.s.line.length : Int)) = true from decide_eq_true (by omega)]
    obtain ⟨o, ho⟩ : ∃ o, w.s.line[j]? = some o := ⟨_, List.getElem?_eq_getElem hlt⟩
    obtain ⟨bb, oo, rfl, hm1⟩ := hrd j o ho
    obtain ⟨b, hb⟩ := Option.isSome_iff_exists.1 (hJ.ok.m.ob o (List.mem_of_getElem? ho))
    have hfew := hJ.few
    have hone := one_spec q p w hJ.ok (by omega) o b hb
    obtain ⟨z1, z2, z3, z4⟩ := oneM_sizes w.s o
    refine GOH ?_
    refine VO.imp (Imp.cut (by exact IMx) hback) ?_
    refine st_call hone (by rfl) (by exact SPx) (fun v Post hv => ?_)
    obtain ⟨z', ⟨rfl, g1, g2, g3⟩, rfl⟩ := hv
    simp only [CNx]
    refine GOH ?_
    have hMI : MInv s1 x0 (j + 1) z' := ⟨by rw [g2]; exact .more hJ.st (.one ho), g1, hJ.same.trans g3, by rw [g2]; omega, by rw [g2, z3]; omega, by rw [g2, z4]; exact hJ.obs⟩
    refine ⟨(j + 1, z'), ⟨hMI, ?_⟩, by simp only; omega, by exact SUx, by exact IMx⟩
    refine Nat.le_trans ?_ hmu
    unfold mMu
    rw [g2]; omega
  rw [show decide ((j : Int) < (w.s.line.length : Int)) = false from decide_eq_false (by omega)]
  have hje : j = w.s.line.length := by have := hJ.le; omega
  have hfew := hJ.few
  have hag := again_spec q p w hJ.ok (by omega)
  refine GOH ?_
  refine VO.imp (Imp.cut (by exact IMx) hback) ?_
  refine st_call hag (by rfl) (by exact SPx) (fun v Post hv => ?_)
  obtain ⟨z', ⟨rfl, g1, g2, g3⟩, rfl⟩ := hv
  simp only [CNx]
  obtain ⟨z1, z2, z3, z4⟩ := againM_sizes w.s
  by_cases hsh : (againM w.s).waiting.length < w.s.waiting.length
  · rw [decide_eq_true hsh]
    refine GOH ?_
    refine ⟨(j, z'), ⟨by rw [g2]; exact .more hJ.st (.again hje hsh), g1, hJ.same.trans g3, by rw [g2]; omega, by rw [g2, z2]; omega, by rw [g2, z3]; exact hJ.obs⟩, ?_, by exact SUx, by exact IMx⟩
    refine Nat.lt_of_lt_of_le ?_ hmu
    unfold mMu
    rw [g2]; omega
  rw [decide_eq_false hsh]
  have hsame := againM_same hsh
  rw [hsame] at g2
  obtain ⟨wa, wc, hwk⟩ := g1.w.form
  refine GOH ?_
  refine VO.imp (H' := [cellsAt k1 0 [ptr0 q], cellsAt q 0 [ptr0 p, z'.lv, z'.wv, z'.fv], slA z'.lv (z'.s.line.map uv) z'.ls, slA z'.wv (z'.s.waiting.map uv) z'.vs, slA z'.fv (z'.s.fired.map uv) z'.fs, HA p z'.x]) (Imp.cut (by exact IMx) (Imp.cons .here (ra_out q p z'))) ?_
  generalize hW : slA z'.wv (z'.s.waiting.map uv) z'.vs = W
  rw [hwk]
  have hwl : z'.s.waiting.length = w.s.waiting.length := by rw [g2]
  refine GOH ?_
  by_cases hw0 : z'.s.waiting.length = 0
  · rw [show decide ((z'.s.waiting.length : Int) = 0) = true from decide_eq_true (by omega)]
    refine GOH ?_
    refine ⟨trivial, j, z', ⟨by rw [g2]; exact hJ.st, g1, hJ.same.trans g3, by rw [g2]; omega, by rw [g2]; omega, by rw [g2]; exact hJ.obs⟩, by rw [g2]; exact hje, List.eq_nil_of_length_eq_zero hw0, ?_⟩
    refine Imp.cut (M := RMem q p z') ?_ (ra_in q p z')
    rw [← hwk]
    simp only [RMem, hW]
    exact IMx
  rw [show decide ((z'.s.waiting.length : Int) = 0) = false from decide_eq_false (by omega)]
  refine GOH ?_
  have hsrc : ∀ {R : SH}, SrcU (W :: R).flatten z'.wv z'.s.waiting := g1.w.srcU (fun x hx => by rw [← hW]; simp only [List.flatten_cons, List.mem_append]; exact .inl hx)
  obtain ⟨fa, fc, hfk⟩ := g1.f.form
  have hfsl := g1.f
  rw [hwk] at hsrc
  rw [hfk] at hfsl ⊢
  have hwrd := g1.w.rdU
  rw [hW, hwk] at hwrd
  obtain ⟨wa', wc', hww, hwrd⟩ := hwrd
  obtain ⟨rfl, rfl⟩ : wa = wa' ∧ wc = wc' := by simpa using hww
  have hfl : z'.s.fired.length ≤ 4194304 := by rw [g2]; omega
  obtain ⟨l, hl⟩ : ∃ l, l = z'.s.waiting := ⟨_, rfl⟩
  rw [← hl] at hsrc hwrd hwl hw0 ⊢
  refine VC.seq_draws (α := Value × List Value) (fun _ => [(1, ptr0 k1), (3, vi j), (4, .slice wa l.length wc)]) (fun s => [W, cellsAt k1 0 [ptr0 q], cellsAt q 0 [ptr0 p, z'.lv, .slice none 0 0, s.1], slA z'.lv (z'.s.line.map uv) z'.ls, slA s.1 ((z'.s.fired ++ l).map uv) s.2, HA p z'.x]) (fun s => IsSl 1 s.1 (z'.s.fired ++ l).length ((z'.s.fired ++ l).map uv) s.2) ⟨?_, ?_, trivial⟩ ?_
  rotate_right
  · rintro ⟨fv', fs'⟩ hfv
    simp only at hfv ⊢
    obtain ⟨u0, hu0⟩ : ∃ u0 : RW, u0 = { z' with s := { z'.s with waiting := [], fired := z'.s.fired ++ l }, wv := .slice none 0 0, vs := [], fv := fv', fs := fs' } := ⟨_, rfl⟩
    have hus : u0.s = { z'.s with waiting := [], fired := z'.s.fired ++ l } := by rw [hu0]
    have hux : u0.x = z'.x := by rw [hu0]
    have uok : ROk u0 := by
      rw [hu0]
      exact ⟨g1.x, g1.a, ⟨g1.m.nd, g1.m.ob, fun o ho => by cases ho⟩, g1.l, .nil, hfv⟩
    have hl3 : ∀ o ∈ l, oops3 u0.s.a o := fun o ho => by
      rw [hl] at ho
      obtain ⟨b, hb, h3, _⟩ := g1.m.wt o ho
      rw [hus]; exact ⟨b, hb, h3⟩
    have hll : l.length ≤ 4194304 := by omega
    have humem : Imp [W, cellsAt k1 0 [ptr0 q], cellsAt q 0 [ptr0 p, z'.lv, .slice none 0 0, fv'], slA z'.lv (z'.s.line.map uv) z'.ls, slA fv' ((z'.s.fired ++ l).map uv) fs', HA p z'.x] [W, cellsAt k1 0 [ptr0 q], RA q p u0] := by
      refine Imp.cut (M := W :: cellsAt k1 0 [ptr0 q] :: [cellsAt q 0 [ptr0 p, z'.lv, .slice none 0 0, fv'], slA z'.lv (z'.s.line.map uv) z'.ls, slA fv' ((z'.s.fired ++ l).map uv) fs', HA p z'.x]) (by exact IMx) (Imp.cons .here (Imp.cons .here ?_))
      refine Imp.cut ?_ (ra_in q p u0)
      rw [hu0]
      simp only [RMem, slA, List.map_nil, List.nil_append]
      exact Imp.perm (by simp)
    refine GOH ?_
    refine VC.loop (α := Nat × RW) (Γf := fun s => [(1, ptr0 k1), (3, vi j), (60, .slice wa l.length wc), (61, vi l.length), (62, vi s.1)]) (Hf := fun s => [W, cellsAt k1 0 [ptr0 q], RA q p s.2])
      (I := fun s => s.1 ≤ l.length ∧ ROk s.2 ∧ s.2.s = (l.take s.1).foldl fireS u0.s ∧ HSame x0 s.2.x ∧ ∀ o ∈ l, oops3 s.2.s.a o) (μ := fun s => l.length - s.1) (0, u0) ⟨Nat.zero_le _, uok, rfl, by rw [hux]; exact hJ.same.trans g3, hl3⟩ (by exact SUx) humem ?_
    rintro ⟨m, u⟩ ⟨m1, m2, m3, m4, m5⟩
    simp only at m1 m2 m3 m4 m5 ⊢
    refine GOH ?_
    by_cases hm : m < l.length
    rotate_left
    · rw [show decide ((m : Int) < (l.length : Int)) = false from decide_eq_false (by omega)]
      rw [List.take_of_length_le (by omega)] at m3
      have hfin : u.s = fireM w.s := by
        rw [m3, hus, hl]
        unfold fireM
        rw [g2]
      obtain ⟨y1, y2, y3, y4⟩ := fireS_sizes w.s.waiting { w.s with waiting := [], fired := w.s.fired ++ w.s.waiting }
      simp only [List.length_append] at y1 y2 y3 y4
      have hst : MStep (w.s, j) (fireM (againM w.s), j) := .fire hje hsh (by rw [hsame]; intro e; exact hw0 (by rw [hwl, e]; rfl))
      rw [hsame, ← hfin] at hst
      have yl : w.s.line.length ≤ u.s.line.length := by rw [hfin]; exact y1
      have yf : u.s.fired = w.s.fired ++ w.s.waiting := by rw [hfin]; exact y2
      have yo : u.s.a.obs.length = w.s.a.obs.length := by rw [hfin]; exact y3
      have yw : u.s.waiting = [] := by rw [hfin]; exact y4
      refine GOH ?_
      refine ⟨(j, u), ⟨.more hJ.st hst, m2, m4, by show j ≤ u.s.line.length; rw [hje]; exact yl, by show u.s.waiting.length + u.s.fired.length ≤ j; rw [yf, yw]; simp only [List.length_append, List.length_nil]; omega, by show u.s.a.obs.length = _; rw [yo]; exact hJ.obs⟩, ?_, by exact SUx, by exact IMx⟩
      refine Nat.lt_of_lt_of_le ?_ hmu
      unfold mMu
      rw [yw]
      simp only [List.length_nil]; omega
    rw [show decide ((m : Int) < (l.length : Int)) = true from decide_eq_true (by omega)]
    obtain ⟨o, ho⟩ : ∃ o, l[m]? = some o := ⟨_, List.getElem?_eq_getElem hm⟩
    obtain ⟨bb, oo, rfl, hm1⟩ := hwrd m o ho
    obtain ⟨b, hb, hb3⟩ := m5 o (List.mem_of_getElem? ho)
    have hol := m2.lt hb
    have hsf := setFormat_spec p u.x m2.x o _ (m2.getS hb) hol hb3
    obtain ⟨u1, hu1⟩ : ∃ u1 : RW, u1 = { u with s := { u.s with a := fmA u.s.a o }, x := turnW u.x (mkB u.s.line b) setFm } := ⟨_, rfl⟩
    have hoo := (getO_some hb).2
    have hat : o / 8 = b.at_ := by rw [← hoo]; unfold Ob.oop; omega
    have hgb : getO u1.s.a.obs o = some (setH setFm b) := by
      rw [hu1]
      show getO (fmA u.s.a o).obs o = _
      rw [getO_fm, hb]
      simp only [Option.map_some]
      rw [if_pos hat.symm]
    refine GOH ?_
    refine VO.imp (H' := [W, cellsAt k1 0 [ptr0 q], cellsAt q 0 [ptr0 p, u.lv, u.wv, u.fv], slA u.lv (u.s.line.map uv) u.ls, slA u.wv (u.s.waiting.map uv) u.vs, slA u.fv (u.s.fired.map uv) u.fs, HA p u.x]) (Imp.cut (by exact IMx) (Imp.cons .here (Imp.cons .here (ra_out q p u)))) ?_
    refine GOH ?_
    refine st_call hsf (by rfl) (by exact SPx) (fun v Post hv => ?_)
    obtain ⟨⟨rfl, f1⟩, rfl⟩ := hv
    simp only [CNx]
    have ok1 : ROk u1 := by
      rw [hu1]
      refine ⟨f1, ?_, m2.m.fm, m2.l, m2.w, m2.f⟩
      show headA u.x.a _ _ = _
      unfold headA
      rw [m2.a, ← fm_mark]
      unfold fmA
      rw [hat]; rfl
    have hall := allR_spec q p u1 ok1 o _ hgb
    have hsame1 : HSame u.x u1.x := by rw [hu1]; exact ⟨rfl, rfl, rfl, rfl, rfl, rfl⟩
    have hstep : allM u1.s o = (l.take (m + 1)).foldl fireS u0.s := by
      rw [foldl_take ho, ← m3, hu1]; rfl
    have hu1mem : Imp [HA p (turnW u.x (mkB u.s.line b) setFm), W, cellsAt k1 0 [ptr0 q], cellsAt q 0 [ptr0 p, u.lv, u.wv, u.fv], slA u.lv (u.s.line.map uv) u.ls, slA u.wv (u.s.waiting.map uv) u.vs, slA u.fv (u.s.fired.map uv) u.fs] [W, cellsAt k1 0 [ptr0 q], RA q p u1] := by
      refine Imp.cut (M := W :: cellsAt k1 0 [ptr0 q] :: [cellsAt q 0 [ptr0 p, u.lv, u.wv, u.fv], slA u.lv (u.s.line.map uv) u.ls, slA u.wv (u.s.waiting.map uv) u.vs, slA u.fv (u.s.fired.map uv) u.fs, HA p (turnW u.x (mkB u.s.line b) setFm)]) (by exact IMx) (Imp.cons .here (Imp.cons .here ?_))
      rw [hu1]
      exact ra_in q p { u with s := { u.s with a := fmA u.s.a o }, x := turnW u.x (mkB u.s.line b) setFm }
    refine GOH ?_
    refine VO.imp (Imp.cut (by exact IMx) hu1mem) ?_
    refine st_call hall (by rfl) (by exact SPx) (fun v Post hv => ?_)
    obtain ⟨u2, ⟨rfl, r1, r2, r3⟩, rfl⟩ := hv
    simp only [CNx]
    refine GOH ?_
    refine ⟨(m + 1, u2), ⟨by simp only; omega, r1, r2.trans hstep, m4.trans (hsame1.trans r3), fun o' ho' => ?_⟩, by simp only; omega, by exact SUx, by exact IMx⟩
    simp only
    rw [r2, hu1]
    exact oops3_fm (m5 o' ho')
  all_goals
    refine GOH ?_
    refine VO.imp (H' := [W, slA (.slice fa z'.s.fired.length fc) (z'.s.fired.map uv) z'.fs, cellsAt k1 0 [ptr0 q], cellsAt q 0 [ptr0 p, z'.lv, .slice none 0 0, .slice fa z'.s.fired.length fc], slA z'.lv (z'.s.line.map uv) z'.ls, HA p z'.x]) (by exact IMx) ?_
    refine st_appU (xs := z'.s.fired) (ys := l) (sp := z'.fs) (by rfl) (by rfl) hfsl (by exact TKx) hsrc (by omega) (fun sv' sp' hsl' => ?_)
    obtain ⟨a', c', rfl⟩ := hsl'.form
    refine GOH ?_
    exact ⟨(.slice a' (z'.s.fired ++ l).length c', sp'), hsl', by exact SUx, by exact IMx⟩
def MEnd (s1 s : MS) : Prop := ∃ i, MSteps (s1, 0) (s, i) ∧ i = s.line.length ∧ s.waiting = [] ∧ s.fired.length ≤ 4194304
theorem markAll_spec (q p : Nat) (y : RW) (hy : ROk y) (hw : y.s.waiting = []) (hf : y.s.fired = []) :
    Fun Tryd.prog 58 [ptr0 q] [RA q p y] (fun v Post => ∃ y', (v = .tuple #[] ∧ ROk y' ∧ HSame y.x y'.x ∧ MEnd { y.s with line := (rootsA y.x.a).foldl (meetA y.s.a) y.s.line } y'.s) ∧ Post = [RA q p y']) := by
  refine Fun.intro low58 (by simp [n58]) ?_
  show VC Tryd.prog 76 _ _ _ _
  refine VC.seq_reg ?_
  refine st_box (by rfl) (fun k1 => ?_)
  simp only [Value.cells]
  refine GOH ?_
  refine VC.scope ?_
  refine VC.imp (H' := [cellsAt k1 0 [ptr0 q], cellsAt q 0 [ptr0 p, y.lv, y.wv, y.fv], slA y.lv (y.s.line.map uv) y.ls, slA y.wv (y.s.waiting.map uv) y.vs, slA y.fv (y.s.fired.map uv) y.fs, HA p y.x]) (Imp.cut (by exact IMx) (Imp.cons .here (ra_out q p y))) ?_
  refine GOH ?_
  refine st_call (roots_spec p y.x) (by rfl) Spl.nil (fun v Post hv => ?_)
  obtain ⟨q2, rfl, rfl⟩ := hv
  simp only [CNx]
  refine GOH ?_
  refine VC.rangefA (fun c A => ∃ z, ROk z ∧ z.s = { y.s with line := c.foldl (meetA y.s.a) y.s.line } ∧ HSame y.x z.x ∧ A = [cellsAt k1 0 [ptr0 q], RA q p z].flatten) ([cellsAt k1 0 [ptr0 q], RA q p y].flatten) (by rfl) (roots_iter p q2 y.x hy.x) (fun A B h => h.more) ?_ (R := [cellsAt k1 0 [ptr0 q], cellsAt q 0 [ptr0 p, y.lv, y.wv, y.fv], slA y.lv (y.s.line.map uv) y.ls, slA y.wv (y.s.waiting.map uv) y.vs, slA y.fv (y.s.fired.map uv) y.fs, HA p y.x]) (by exact SPx) ?_ ⟨y, hy, rfl, .refl _, rfl⟩ (fun _ => rfl) ?_ ?_
  · rintro c A ⟨z, h1, h2, h3, rfl⟩
    refine ⟨z.x, cellsAt k1 0 [ptr0 q] ++ (cellsAt q 0 [ptr0 p, z.lv, z.wv, z.fv] ++ (slA z.lv (z.s.line.map uv) z.ls ++ (slA z.wv (z.s.waiting.map uv) z.vs ++ slA z.fv (z.s.fired.map uv) z.fs))), ?_, h1.x, h3.sp, h3.cl, h3.st, h3.qu, h3.kv, h3.qv⟩
    simp only [RA, RMem, List.flatten_cons, List.flatten_nil, List.append_nil]
    generalize HA p z.x = X
    have e : ∀ a b c d e : List Atom, (a ++ (b ++ (c ++ (d ++ (e ++ X))))).Perm (X ++ (a ++ (b ++ (c ++ (d ++ e))))) := fun a b c d e => by
      have : a ++ (b ++ (c ++ (d ++ (e ++ X)))) = (a ++ (b ++ (c ++ (d ++ e)))) ++ X := by simp [List.append_assoc]
      rw [this]; exact List.perm_append_comm
    exact e _ _ _ _ _
  · exact Imp.perm (by simp [RA, RMem])
  · rintro c o A hok ⟨z, h1, h2, h3, rfl⟩
    have ho : o < 18446744073709551616 := by
      obtain ⟨t, ht⟩ := hok
      exact hy.x.roots (by rw [← ht]; simp)
    simp only [bindE]
    refine VC.imp (H' := [cellsAt k1 0 [ptr0 q], RA q p z]) (Imp.perm (by simp)) ?_
    refine VC.reg ?_
    refine GOH ?_
    refine ⟨trivial, ?_⟩
    refine GOH ?_
    refine st_call (meets_spec' q p z h1 o ho) (by rfl) (by exact SPx) (fun v Post hv => ?_)
    obtain ⟨z', ⟨rfl, g1, g2, g3⟩, rfl⟩ := hv
    simp only [CNx]
    refine GOH ?_
    refine ⟨[cellsAt k1 0 [ptr0 q], RA q p z'].flatten, ⟨z', g1, ?_, h3.trans g3, rfl⟩, Imp.cut (M := [cellsAt k1 0 [ptr0 q], RA q p z']) (by exact IMx) (Imp.perm (by simp))⟩
    rw [g2, h2, List.foldl_append]; rfl
  · rintro full A hfu ⟨z, h1, h2, h3, rfl⟩
    subst hfu
    simp only [List.nil_append, V.blockQ, V.thenQ]
    refine VC.imp (H' := [cellsAt k1 0 [ptr0 q], RA q p z]) (Imp.perm (by simp)) ?_
    have hz1 : z.s = { y.s with line := (rootsA y.x.a).foldl (meetA y.s.a) y.s.line } := h2
    have hmi : MInv z.s y.x 0 z := ⟨.refl _, h1, h3, Nat.zero_le _, by rw [hz1]; simp only; rw [hw, hf]; simp, rfl⟩
    refine VC.seq_reg ?_
    refine GOH ?_
    refine VC.seq (VC.label ?_)
    show VC Tryd.prog 76 markLoop _ _ _
    refine VC.mono (markLoop_spec q p k1 z.s y.x z hmi) (fun e Γ' H' hq => ?_)
    obtain ⟨rfl, i, w, w1, w2, w3, w4⟩ := hq
    refine ⟨fun l hl => (by cases hl), endQ_mk (.inl rfl) .nil ⟨w, ⟨rfl, w1.ok, w1.same, i, by rw [← hz1]; exact w1.st, w2, w3, by have := w1.few; have := w1.bound; omega⟩, rfl⟩ w4⟩
theorem tz_spec (i k : Nat) (h : 2 ^ i * (2 * k + 1) < 18446744073709551616) : Fun Tryd.prog 112 [uv (2 ^ i * (2 * k + 1))] [TZ] (fun v Post => v = vi i ∧ Post = [TZ]) := by
  refine Fun.intro low112 (by simp [n112]) ?_
  have hp := Nat.two_pow_pos i
  have hz : 0 < 2 ^ i * (2 * k + 1) := Nat.mul_pos hp (by omega)
  have hi : i < 64 := by
    by_cases hi : i < 64
    · exact hi
    · have : 2 ^ 64 ≤ 2 ^ i := Nat.pow_le_pow_right (by omega) (by omega)
      have h2 : 2 ^ i * 1 ≤ 2 ^ i * (2 * k + 1) := Nat.mul_le_mul_left _ (by omega)
      omega
  have ha := low_and h
  obtain ⟨t1, t2⟩ := tz_all i hi
  have hm := tz_mem t2
  have hpi := pow_lt64 hi
  generalize 2 ^ i * (2 * k + 1) = z at *
  generalize 2 ^ i = y at *
  have hneg := negU hz h
  refine GOH ?_
  rw [show decide ((z : Int) = 0) = false from decide_eq_false (by omega)]
  refine GOH ?_
  rw [hneg, Int.toNat_natCast, ha]
  have hq := tzM y
  rw [hq]
  obtain ⟨j, hj⟩ : ∃ j, j = y * 285870213051353865 % 18446744073709551616 / 288230376151711744 := ⟨_, rfl⟩
  rw [← hj] at t1 t2 hm ⊢
  clear hj
  clear hq hneg ha hpi h hz t2 hp
  refine GOH ?_
  exact endQ_mk (.inr rfl) (.tmp (by rfl) .nil) ⟨rfl, rfl⟩ (by exact IMx)
theorem next_spec (p : Nat) (x : HW) (hx : HOk x) (w e : Nat) (hw : w ≤ 4194304) (he : e ≤ x.ws.length) : Fun Tryd.prog 98 [ptr0 p, vi w, vi e] [HA p x, TZ] (fun v Post => v = vi (nextV (nextO x.a.obs w e)) ∧ Post = [HA p x, TZ]) := by
  have hstl := hx.lay.stl
  have hlen := hx.lay.len
  refine Fun.conv (Pre := HMem p x ++ [TZ]) (R := []) (Q := fun v Post => v = vi (nextV (nextO x.a.obs w e)) ∧ Post = HMem p x ++ [TZ]) ?_ (by simp [V.Spl, HA]) (fun v Post hv => by obtain ⟨rfl, rfl⟩ := hv; exact ⟨_, ⟨rfl, rfl⟩, Imp.perm (by simp [HA])⟩)
  refine Fun.intro low98 (by simp [n98]) ?_
  simp only [HMem, arrV, List.cons_append, List.nil_append]
  refine GOH ?_
  refine VC.loop (α := Nat) (Γf := fun v => [(0, ptr0 p), (1, vi v), (2, vi e)]) (Hf := fun _ => _) (I := fun v => w ≤ v ∧ v ≤ 4194304 + 64 ∧ ∀ b ∈ x.a.obs, ¬ (w ≤ b.at_ ∧ b.at_ < v)) (μ := fun v => 4194304 + 64 - v) w ⟨Nat.le_refl _, by omega, fun b hb => by omega⟩ (by exact SUx) (Imp.refl _) ?_
  intro v ⟨i1, i2, i3⟩
  refine GOH ?_
  by_cases hlt : v < e
  rotate_left
  · rw [decide_eq_false (by omega)]
    refine GOH ?_
    rw [nextO_none (fun b hb hb2 => i3 b hb ⟨hb2.1, by omega⟩)]
    exact endQ_mk (.inr rfl) (.tmp (by rfl) .nil) ⟨rfl, rfl⟩ (by exact IMx)
  rw [decide_eq_true (by omega)]
  have hi : v / 64 < x.st.length := by omega
  have hst : x.st[v / 64]? = some x.st[v / 64] := List.getElem?_eq_getElem hi
  have hsm := hx.lay.sts _ (List.getElem_mem hi)
  have hbit : ∀ j, (x.st[v / 64] / 2 ^ (v % 64)).testBit j = if v % 64 + j < 64 then bitAt x.st (v + j) else false := fun j => by
    rw [Nat.testBit_div_two_pow]
    split
    · rename_i h
      unfold bitAt
      rw [show (v + j) / 64 = v / 64 by omega, show (v + j) % 64 = j + v % 64 by omega, List.getD_eq_getElem?_getD, hst]; rfl
    · rename_i h
      exact Nat.testBit_lt_two_pow (Nat.lt_of_lt_of_le hsm (by rw [show (18446744073709551616 : Nat) = 2 ^ 64 from rfl]; exact Nat.pow_le_pow_right (by omega) (by omega)))
  have hd : x.st[v / 64] / 2 ^ (v % 64) < 18446744073709551616 := Nat.lt_of_le_of_lt (Nat.div_le_self _ _) hsm
  have ms := mem_u0 (b := x.sb) hst
  generalize x.st[v / 64] = s at ms hsm hbit hd ⊢
  generalize hB : cellsAt x.sb 0 (x.st.map uv) = B at ms ⊢
  refine GOH ?_
  by_cases hz : s / 2 ^ (v % 64) = 0
  · rw [show decide (((s / 2 ^ (v % 64) : Nat) : Int) = 0) = true from decide_eq_true (by omega)]
    refine GOH ?_
    have hnb : ∀ b ∈ x.a.obs, ¬ (w ≤ b.at_ ∧ b.at_ < v + (64 - v % 64)) := fun b hb hb2 => by
      by_cases h1 : b.at_ < v
      · exact i3 b hb ⟨hb2.1, h1⟩
      · have h2 := hbit (b.at_ - v)
        rw [hz, Nat.zero_testBit, if_pos (by omega), show v + (b.at_ - v) = b.at_ by omega, (hx.lay.bits b.at_ (by have := hx.lay.at_lt hb; omega)).2 ⟨b, hb, rfl⟩] at h2
        cases h2
    rw [show ((v : Int) + (64 - ((v % 64 : Nat) : Int))) = ((v + (64 - v % 64) : Nat) : Int) by omega]
    exact ⟨v + (64 - v % 64), ⟨by omega, by omega, hnb⟩, by omega, by exact SUx, by exact IMx⟩
  · rw [show decide (((s / 2 ^ (v % 64) : Nat) : Int) = 0) = false from decide_eq_false (by omega)]
    obtain ⟨i, k, hik⟩ := low_ex hz
    have htz := tz_spec i k (by rw [← hik]; exact hd)
    rw [← hik] at htz
    have hlow := fun j => (low_bits (i := i) (k := k) (j := j))
    rw [← hik] at hlow
    have hi64 : v % 64 + i < 64 ∧ bitAt x.st (v + i) = true := by
      have h1 := hlow i
      have h2 := hbit i
      rw [h1, if_neg (by omega), Nat.sub_self, Nat.testBit_zero] at h2
      have h3 : decide ((2 * k + 1) % 2 = 1) = true := by simp
      rw [h3] at h2
      split at h2
      · rename_i h4; exact ⟨h4, h2.symm⟩
      · cases h2
    have hnb : ∀ b ∈ x.a.obs, ¬ (w ≤ b.at_ ∧ b.at_ < v + i) := fun b hb hb2 => by
      by_cases h1 : b.at_ < v
      · exact i3 b hb ⟨hb2.1, h1⟩
      · have h2 := hbit (b.at_ - v)
        rw [hlow, if_pos (by omega), if_pos (by omega), show v + (b.at_ - v) = b.at_ by omega, (hx.lay.bits b.at_ (by have := hx.lay.at_lt hb; omega)).2 ⟨b, hb, rfl⟩] at h2
        cases h2
    generalize s / 2 ^ (v % 64) = z at htz hz ⊢
    refine GOH ?_
    refine st_callS htz (by rfl) (by exact TKx) ?_
    refine GOH ?_
    by_cases hge : e ≤ v + i
    · rw [show decide ((e : Int) ≤ (v : Int) + (i : Int)) = true from decide_eq_true (by omega)]
      refine GOH ?_
      rw [nextO_none (fun b hb hb2 => hnb b hb ⟨hb2.1, by omega⟩)]
      exact endQ_mk (.inr rfl) (.tmp (by rfl) .nil) ⟨rfl, rfl⟩ (by exact IMx)
    · rw [show decide ((e : Int) ≤ (v : Int) + (i : Int)) = false from decide_eq_false (by omega)]
      obtain ⟨b, hb, hbv⟩ := (hx.lay.bits (v + i) (by omega)).1 hi64.2
      refine GOH ?_
      rw [nextO_some hx.lay.sort hb (by omega) (by omega) (fun c hc hc2 => hnb c hc ⟨hc2.1, by omega⟩)]
      refine endQ_mk (.inr rfl) (.tmp (by rfl) .nil) ⟨?_, rfl⟩ (by exact IMx)
      simp only [tup, nextV, hbv]; rfl
set_option maxHeartbeats 6400000
theorem walk_spec (p sp : Nat) : Fun Tryd.prog 61 [ptr0 p, cv sp] [] (fun v Post => ∃ q1 q2, v = .func (.func 97) #[] #[ptr0 q1, ptr0 q2] ∧ Post = [cellsAt q1 0 [cv sp], cellsAt q2 0 [ptr0 p]]) := by
  refine Fun.intro low61 (by simp [n61]) ?_
  refine VC.seq_reg ?_
  refine st_box (by rfl) (fun q2 => ?_)
  refine st_box (by rfl) (fun q1 => ?_)
  simp only [Value.cells]
  refine GOH ?_
  exact endQ_mk (.inr rfl) (.tmp (by rfl) .nil) ⟨q1, q2, rfl, rfl⟩ (by exact IMx)
theorem nextN_spec (p : Nat) (x : HW) (hx : HOk x) (w e : Nat) (hw : w ≤ 4194304) (he : e ≤ x.ws.length) : Fun Tryd.prog 98 [ptr0 p, vi w, vi e] [HA p x, TZ] (fun v Post => v = vi (nextN (atsA x.a) w e) ∧ Post = [HA p x, TZ]) := by
  have := next_spec p x hx w e hw he
  rw [nextV_N] at this
  exact this
theorem walk_iter (p q1 q2 sp : Nat) (x : HW) (hx : HOk x) (h1 : 1 ≤ sp) (h5 : sp ≤ 5) :
    IterA Tryd.prog (.func (.func 97) #[] #[ptr0 q1, ptr0 q2]) (fun w : Nat => [uv (8 * w)]) (AccW p x sp) [cellsAt q1 0 [cv sp], cellsAt q2 0 [ptr0 p]] [] (fun full => full = roomL x.a sp) := by
  intro y J SP _ hJA hy A hA
  refine FunV.of_fun (first := #[]) (cap := #[ptr0 q1, ptr0 q2]) ?_
  show Fun Tryd.prog 97 [y, ptr0 q1, ptr0 q2] _ _
  obtain ⟨z, X, z1, z2, z3, z4, z5⟩ := hJA [] A hA
  have hl6 := z2.rm.len
  obtain ⟨r, hr⟩ : ∃ r, z.a.rm[sp]? = some r := ⟨_, List.getElem?_eq_getElem (by omega)⟩
  have hroom : roomR z.a sp = r := by unfold roomR; rw [hr]; rfl
  have hrg := z2.rm.rng sp r hr
  have hzl := z2.lay.len
  obtain ⟨RR, hRR⟩ := ha_room p z hr
  obtain ⟨f, t, tp⟩ := r
  simp only at hrg
  have hf : (roomR x.a sp).1 = f := by rw [← z4, hroom]
  have ht : (roomR x.a sp).2.1 = t := by rw [← z5, hroom]
  have hL : ∀ {A' : List Atom} {c : List Nat}, J c A' → ∃ z' X', A'.Perm (HA p z' ++ (TZ ++ X')) ∧ HOk z' ∧ atsA z'.a = atsA x.a ∧ t ≤ z'.ws.length := fun {A' c} h => by
    obtain ⟨z', X', k1, k2, k3, k4, k5⟩ := hJA c A' h
    have hl6 := k2.rm.len
    obtain ⟨r', hr'⟩ : ∃ r', z'.a.rm[sp]? = some r' := ⟨_, List.getElem?_eq_getElem (by omega)⟩
    have hroom' : roomR z'.a sp = r' := by unfold roomR; rw [hr']; rfl
    have := k2.rm.rng sp r' hr'
    refine ⟨z', X', k1, k2, k3, ?_⟩
    rw [← ht, ← k5, hroom']; omega
  refine Fun.intro low97 (by simp [n97]) ?_
  refine VC.imp (H' := [cellsAt q1 0 [cv sp], cellsAt q2 0 [ptr0 p], cellsAt p (2 + sp * 3) [vi f, vi t, vi tp], RR ++ (TZ ++ X)]) (Imp.perm ?_) ?_
  · simp only [List.flatten_append, List.flatten_cons, List.flatten_nil, List.append_nil]
    rw [List.append_assoc]
    refine List.Perm.append_left _ (List.Perm.append_left _ ?_)
    refine z1.trans ((hRR.append_right _).trans ?_)
    rw [List.append_assoc]; exact .refl _
  refine GOH ?_
  rw [show decide ((sp : Int) < 1) = false from decide_eq_false (by omega)]
  refine GOH ?_
  rw [show decide ((5 : Int) < (sp : Int)) = false from decide_eq_false (by omega)]
  refine GOH ?_
  refine st_alloc (fun r4 => ?_)
  refine GOH ?_
  have hback : ∀ (z' : HW) (X' A' : List Atom), A'.Perm (HA p z' ++ (TZ ++ X')) → Imp [HA p z', TZ, cellsAt r4 0 [vi f, vi t, vi tp], cellsAt q1 0 [cv sp], cellsAt q2 0 [ptr0 p], X'] [cellsAt r4 0 [vi f, vi t, vi tp], cellsAt q1 0 [cv sp], cellsAt q2 0 [ptr0 p], A'] := fun z' X' A' k => Imp.perm (by
    simp only [List.flatten_cons, List.flatten_nil, List.append_nil]
    generalize cellsAt r4 0 _ = B1
    generalize cellsAt q1 0 _ = B2
    generalize cellsAt q2 0 _ = B3
    refine List.Perm.trans ?_ (((k.symm.append_left B3).append_left B2).append_left B1)
    have e : (HA p z' ++ (TZ ++ (B1 ++ (B2 ++ (B3 ++ X'))))) = (HA p z' ++ TZ) ++ ((B1 ++ (B2 ++ B3)) ++ X') := by simp [List.append_assoc]
    have e2 : B1 ++ (B2 ++ (B3 ++ (HA p z' ++ (TZ ++ X')))) = (B1 ++ (B2 ++ B3)) ++ ((HA p z' ++ TZ) ++ X') := by simp [List.append_assoc]
    rw [e, e2]
    exact perm_lead _ _ _)
  have hfront : ∀ (z' : HW) (X' A' : List Atom), A'.Perm (HA p z' ++ (TZ ++ X')) → Imp [cellsAt r4 0 [vi f, vi t, vi tp], cellsAt q1 0 [cv sp], cellsAt q2 0 [ptr0 p], A'] [HA p z', TZ, cellsAt r4 0 [vi f, vi t, vi tp], cellsAt q1 0 [cv sp], cellsAt q2 0 [ptr0 p], X'] := fun z' X' A' k => Imp.perm (by
    simp only [List.flatten_cons, List.flatten_nil, List.append_nil]
    generalize cellsAt r4 0 _ = B1
    generalize cellsAt q1 0 _ = B2
    generalize cellsAt q2 0 _ = B3
    refine List.Perm.trans (((k.append_left B3).append_left B2).append_left B1) ?_
    have e : (HA p z' ++ (TZ ++ (B1 ++ (B2 ++ (B3 ++ X'))))) = (HA p z' ++ TZ) ++ ((B1 ++ (B2 ++ B3)) ++ X') := by simp [List.append_assoc]
    have e2 : B1 ++ (B2 ++ (B3 ++ (HA p z' ++ (TZ ++ X')))) = (B1 ++ (B2 ++ B3)) ++ ((HA p z' ++ TZ) ++ X') := by simp [List.append_assoc]
    rw [e, e2]
    exact perm_lead _ _ _)
  refine VO.imp (H' := [HA p z, TZ, cellsAt r4 0 [vi f, vi t, vi tp], cellsAt q1 0 [cv sp], cellsAt q2 0 [ptr0 p], X]) (Imp.perm ?_) ?_
  · simp only [List.flatten_cons, List.flatten_nil, List.append_nil]
    generalize cellsAt r4 0 _ = B1
    generalize cellsAt q1 0 _ = B2
    generalize cellsAt q2 0 _ = B3
    have e2 : B1 ++ (B2 ++ (B3 ++ (cellsAt p (2 + sp * 3) [vi f, vi t, vi tp] ++ (RR ++ (TZ ++ X))))) = (B1 ++ (B2 ++ B3)) ++ ((cellsAt p (2 + sp * 3) (rmEnc (f, t, tp)) ++ RR) ++ (TZ ++ X)) := by simp [List.append_assoc, rmEnc]
    have e : (HA p z ++ (TZ ++ (B1 ++ (B2 ++ (B3 ++ X))))) = (HA p z ++ TZ) ++ ((B1 ++ (B2 ++ B3)) ++ X) := by simp [List.append_assoc]
    rw [e, e2]
    refine ((hRR.symm.append_right _).append_left _).trans ?_
    have e3 : HA p z ++ (TZ ++ X) = (HA p z ++ TZ) ++ X := by simp [List.append_assoc]
    rw [e3]
    exact perm_lead _ _ _
  have hx0 : nextN (atsA z.a) f t = headI (roomL x.a sp) := by rw [z3, ← hf, ← ht]; exact next_first x.a sp
  have hn0 := nextN_spec p z z2 f t (by omega) (by omega)
  rw [hx0] at hn0
  refine st_call hn0 (by rfl) (by exact SPx) (fun v Post hv => ?_)
  obtain ⟨rfl, rfl⟩ := hv
  simp only [CNx]
  refine VO.imp (hback z X A z1) ?_
  refine GOH ?_
  refine VC.loop (α := Nat × List Atom) (Γf := fun s => [(0, y), (2, ptr0 q2), (4, .pointer (some ⟨r4, 0, none⟩)), (5, vi (headI ((roomL x.a sp).drop s.1)))]) (Hf := fun s => [cellsAt r4 0 [vi f, vi t, vi tp], cellsAt q1 0 [cv sp], cellsAt q2 0 [ptr0 p], s.2])
    (I := fun s => s.1 ≤ (roomL x.a sp).length ∧ J ((roomL x.a sp).take s.1) s.2) (μ := fun s => (roomL x.a sp).length - s.1) (0, A) ⟨Nat.zero_le _, by simpa using hA⟩ (by rw [List.drop_zero]; exact SUx) (Imp.refl _) ?_
  rintro ⟨j, A1⟩ ⟨i1, i2⟩
  simp only at i1 i2 ⊢
  by_cases hlt : j < (roomL x.a sp).length
  rotate_left
  · rw [headI_end (by omega)]
    rw [List.take_of_length_le (by omega)] at i2
    refine GOH ?_
    exact endQ_mk (.inl rfl) .nil ⟨rfl, .inl ⟨_, A1, rfl, i2, rfl⟩⟩ (by exact IMx)
  obtain ⟨u, hu⟩ : ∃ u, (roomL x.a sp)[j]? = some u := ⟨_, List.getElem?_eq_getElem hlt⟩
  have hmu := mem_roomL hx (List.mem_of_getElem? hu)
  have hok : OkC (fun full => full = roomL x.a sp) ((roomL x.a sp).take j ++ [u]) := by
    have := okR (R := roomL x.a sp) (a := []) (l := roomL x.a sp) (b := []) (by simp) hu
    simpa using this
  have hnx := next_next hx hu
  rw [headI_drop hu]
  generalize hWl : roomL x.a sp = W at *
  refine GOH ?_
  rw [show decide ((0 : Int) ≤ (u : Int)) = true from decide_eq_true (by omega)]
  refine GOH ?_
  refine st_callP (oop_spec u hmu.1 hmu.2.1) (by rfl) ?_
  refine GOH ?_
  refine st_callV (by rfl) (hy _ u A1 hok i2) (by rfl) (by exact SPx) (fun v Post hv => ?_)
  rcases hv with ⟨rfl, A', hA', rfl⟩ | ⟨rfl, B', hB', rfl⟩
  rotate_left
  · simp only [CNx]
    refine GOH ?_
    exact endQ_mk (.inr rfl) .nil ⟨rfl, .inr ⟨_, B', hok, hB', rfl⟩⟩ (by exact IMx)
  simp only [CNx]
  refine GOH ?_
  obtain ⟨z', X', k1, k2, k3, k4⟩ := hL hA'
  have hlen' := k2.lay.len
  have hn1 := nextN_spec p z' k2 (u + 1) t (by
    obtain ⟨b, hb, hbu⟩ := hmu.2.2
    have := hx.lay.at_lt hb
    have := hx.lay.len
    omega) (by omega)
  rw [k3, ← ht, hnx, ht] at hn1
  refine VO.imp (H' := [cellsAt r4 0 [vi f, vi t, vi tp], cellsAt q1 0 [cv sp], cellsAt q2 0 [ptr0 p], A']) (by exact IMx) ?_
  refine VO.imp (hfront z' X' A' k1) ?_
  refine st_call hn1 (by rfl) (by exact SPx) (fun v Post hv => ?_)
  obtain ⟨rfl, rfl⟩ := hv
  simp only [CNx]
  refine VO.imp (hback z' X' A' k1) ?_
  refine GOH ?_
  refine ⟨(j + 1, A'), ⟨by simp only; omega, ?_⟩, by simp only; omega, by exact SUx, Imp.refl _⟩
  simp only
  rw [List.take_add_one, hu]; exact hA'
end Go.Proofs.YtmlnoodopoaafaaDoor

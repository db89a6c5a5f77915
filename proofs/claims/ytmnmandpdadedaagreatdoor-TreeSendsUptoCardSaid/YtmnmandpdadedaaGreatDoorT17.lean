/-
  Sameness, by the document's own functions.
-/
import Derived.Test.YtmnmandpdadedaaGreatDoorT14
import Derived.Test.YtmnmandpdadedaaGreatDoorT15
import Derived.Test.YtmnmandpdadedaaGreatDoorT13
import Derived.Test.YtmnmandpdadedaaGreatDoorV13
import Derived.Test.YtmnmandpdadedaaGreatDoorT1
import Derived.Test.YtmnmandpdadedaaGreatDoorT5
import Derived.Test.YtmnmandpdadedaaGreatDoorT7
import Derived.Test.YtmnmandpdadedaaGreatDoorV14
import Derived.Test.YtmnmandpdadedaaGreatDoorT6
import Derived.Test.YtmnmandpdadedaaGreatDoorT12
import Derived.Test.YtmnmandpdadedaaGreatDoorV7
import Derived.Test.YtmnmandpdadedaaGreatDoorV11
import Derived.Test.YtmnmandpdadedaaGreatDoorT16
set_option linter.unusedSimpArgs false
set_option linter.unusedVariables false
namespace Go.Proofs.YtmnmandpdadedaaGreatDoor
open Go Go.V
set_option maxHeartbeats 3200000
set_option maxRecDepth 100000
theorem sameNames_spec (A : List Atom) (av bv : Value) (l m : List ByteArray) (hl : RdT A av l) (hm : RdT A bv m) : Fun Tryz.prog 37 [av, bv] [A] (fun v Post => v = .bool (decide (l = m)) ∧ Post = [A]) := by
  obtain ⟨a, c, rfl, hll, hlr⟩ := hl
  obtain ⟨b, cb, rfl, hml, hmr⟩ := hm
  refine Fun.intro low37 (by simp [n37]) ?_
  obtain ⟨t, ht⟩ : ∃ t, t = decide (l = m) := ⟨_, rfl⟩
  rw [← ht]
  refine GOH ?_
  by_cases hlen : l.length = m.length
  rotate_left
  · have hno : t = false := by rw [ht]; exact decide_eq_false fun h => hlen (by rw [h])
    rw [show decide ((l.length : Int) = (m.length : Int)) = false from decide_eq_false (by omega)]
    refine GOH ?_
    exact endQ_mk (Post := [A]) (.inr rfl) (.tmp (by rfl) .nil) ⟨by rw [hno]; rfl, rfl⟩ (by exact IMx)
  rw [show decide ((l.length : Int) = (m.length : Int)) = true from decide_eq_true (by omega)]
  refine GOH ?_
  refine VC.loop (α := Nat) (Γf := fun j => [(0, .slice a l.length c), (1, .slice b m.length cb), (5, vi j)]) (Hf := fun _ => [A])
    (I := fun j => j ≤ l.length ∧ ∀ i x y, i < j → l[i]? = some x → m[i]? = some y → x = y) (μ := fun j => l.length - j) 0 ⟨Nat.zero_le _, fun i x y h => absurd h (by omega)⟩ (by exact SUx) (by exact IMx) ?_
  rintro j ⟨i1, i2⟩
  refine GOH ?_
  by_cases hj : j < l.length
  rotate_left
  · rw [show decide ((j : Int) < (l.length : Int)) = false from decide_eq_false (by omega)]
    have htt : t = true := by
      rw [ht]
      refine decide_eq_true (texts_eq hlen fun i x y e1 e2 => i2 i x y ?_ e1 e2)
      have := (List.getElem?_eq_some_iff.1 e1).1
      omega
    refine GOH ?_
    exact endQ_mk (Post := [A]) (.inr rfl) (.tmp (by rfl) .nil) ⟨by rw [htt]; rfl, rfl⟩ (by exact IMx)
  rw [show decide ((j : Int) < (l.length : Int)) = true from decide_eq_true (by omega)]
  obtain ⟨x, hx⟩ : ∃ x, l[j]? = some x := ⟨_, List.getElem?_eq_getElem hj⟩
  obtain ⟨y, hy⟩ : ∃ y, m[j]? = some y := ⟨_, List.getElem?_eq_getElem (hlen ▸ hj)⟩
  obtain ⟨b1, o1, rfl, hc1, hs1⟩ := hlr j x hx
  obtain ⟨b2, o2, rfl, hc2, hs2⟩ := hmr j y hy
  refine GOH ?_
  by_cases hxy : x = y
  · rw [decide_eq_true hxy]
    refine GOH ?_
    refine ⟨j + 1, ⟨by omega, fun i u v hi e1 e2 => ?_⟩, by omega, by exact SUx, by exact IMx⟩
    by_cases hij : i = j
    · subst hij
      rw [hx] at e1; rw [hy] at e2
      cases e1; cases e2; exact hxy
    · exact i2 i u v (by omega) e1 e2
  · have hno : t = false := by
      rw [ht]
      refine decide_eq_false fun h => hxy ?_
      subst h
      rw [hx] at hy; cases hy; rfl
    rw [decide_eq_false hxy]
    refine GOH ?_
    exact endQ_mk (Post := [A]) (.inr rfl) (.tmp (by rfl) .nil) ⟨by rw [hno]; rfl, rfl⟩ (by exact IMx)
theorem sameLit_spec (A : List Atom) : ∀ (N : Nat) (x y : Lt), x.size ≤ N → ∀ vs ws, LtRd A x vs → LtRd A y ws → Fun Tryz.prog 117 [.agg vs.toArray, .agg ws.toArray] [A] (fun v Post => v = .bool (litEq x y) ∧ Post = [A]) := by
  intro N
  induction N with
  | zero => intro x y hx; have := x.size_pos; omega
  | succ N ih =>
    intro x y hx vs ws h h2
    cases h with
    | @mk k n b t items a c bk o us wf ha hm hr =>
    cases h2 with
    | @mk k' n' b' t' items' a' c' bk' o' us' wf' ha' hm' hr' =>
    have hmany := wf.many
    refine Fun.intro low117 (by simp [n117]) ?_
    obtain ⟨E, hE⟩ : ∃ E, E = litEq (.mk k n b t items) (.mk k' n' b' t' items') := ⟨_, rfl⟩
    rw [← hE]
    simp only [litEq] at hE
    refine GOH ?_
    refine st_box (by rfl) (fun q => ?_)
    refine st_box (by rfl) (fun q2 => ?_)
    simp only [Value.cells]
    refine GOH ?_
    by_cases h1 : k = k'
    rotate_left
    · have hno : E = false := by simp [hE, h1]
      rw [show decide ((k : Int) = (k' : Int)) = false from decide_eq_false (by omega)]
      refine GOH ?_
      exact endQ_mk (Post := [A]) (.inr rfl) (.tmp (by rfl) .nil) ⟨by rw [hno]; rfl, rfl⟩ (by exact IMx)
    rw [show decide ((k : Int) = (k' : Int)) = true from decide_eq_true (by omega)]
    refine GOH ?_
    by_cases h2 : n = n'
    rotate_left
    · have hno : E = false := by simp [hE, h2]
      rw [decide_eq_false h2]
      refine GOH ?_
      exact endQ_mk (Post := [A]) (.inr rfl) (.tmp (by rfl) .nil) ⟨by rw [hno]; rfl, rfl⟩ (by exact IMx)
    rw [decide_eq_true h2]
    refine GOH ?_
    by_cases h3 : b = b'
    rotate_left
    · have hno : E = false := by simp [hE, h3]
      rw [show decide ((b : Int) = (b' : Int)) = false from decide_eq_false (by omega)]
      refine GOH ?_
      exact endQ_mk (Post := [A]) (.inr rfl) (.tmp (by rfl) .nil) ⟨by rw [hno]; rfl, rfl⟩ (by exact IMx)
    rw [show decide ((b : Int) = (b' : Int)) = true from decide_eq_true (by omega)]
    refine GOH ?_
    by_cases h4 : t = t'
    rotate_left
    · have hno : E = false := by simp [hE, h4]
      rw [decide_eq_false h4]
      refine GOH ?_
      exact endQ_mk (Post := [A]) (.inr rfl) (.tmp (by rfl) .nil) ⟨by rw [hno]; rfl, rfl⟩ (by exact IMx)
    rw [decide_eq_true h4]
    refine GOH ?_
    by_cases h5 : items.length = items'.length
    rotate_left
    · have hno : E = false := by simp [hE, litsEq_len h5]
      rw [show decide ((items.length : Int) = (items'.length : Int)) = false from decide_eq_false (by omega)]
      refine GOH ?_
      exact endQ_mk (Post := [A]) (.inr rfl) (.tmp (by rfl) .nil) ⟨by rw [hno]; rfl, rfl⟩ (by exact IMx)
    rw [show decide ((items.length : Int) = (items'.length : Int)) = true from decide_eq_true (by omega)]
    have hyes : E = litsEq items items' := by simp [hE, h1, h2, h3, h4]
    clear hE
    refine GOH ?_
    refine VC.loop (α := Nat) (Γf := fun j => [(2, ptr0 q), (3, ptr0 q2), (5, vi j)]) (Hf := fun _ => [A, cellsAt q 0 [cv k, vi n, uv b, .string t, .slice a items.length c], cellsAt q2 0 [cv k', vi n', uv b', .string t', .slice a' items'.length c']])
      (I := fun j => j ≤ items.length ∧ ∀ i x y, i < j → items[i]? = some x → items'[i]? = some y → litEq x y = true) (μ := fun j => items.length - j) 0 ⟨Nat.zero_le _, fun i x y h => absurd h (by omega)⟩ (by exact SUx) (by exact IMx) ?_
    rintro j ⟨i1, i2⟩
    refine GOH ?_
    by_cases hj : j < items.length
    rotate_left
    · rw [show decide ((j : Int) < (items.length : Int)) = false from decide_eq_false (by omega)]
      have htt : E = true := by
        rw [hyes]
        exact (litsEq_iff _ _).2 ⟨h5, fun i x y e1 e2 => i2 i x y (by have := (List.getElem?_eq_some_iff.1 e1).1; omega) e1 e2⟩
      refine GOH ?_
      exact endQ_mk (Post := [A]) (.inr rfl) (.tmp (by rfl) .nil) ⟨by rw [htt]; rfl, rfl⟩ (by exact IMx)
    rw [show decide ((j : Int) < (items.length : Int)) = true from decide_eq_true (by omega)]
    obtain rfl := ha (by omega)
    obtain rfl := ha' (by omega)
    obtain ⟨x, hx1⟩ : ∃ x, items[j]? = some x := ⟨_, List.getElem?_eq_getElem hj⟩
    obtain ⟨y, hy1⟩ : ∃ y, items'[j]? = some y := ⟨_, List.getElem?_eq_getElem (h5 ▸ hj)⟩
    have hu := hm j hj
    have hw := hm' j (by omega)
    have hul := (hr j x hx1).len
    have hwl := (hr' j y hy1).len
    have hcall := ih x y (by have := Lt.sizes_mem (List.mem_of_getElem? hx1); simp only [Lt.size] at hx; omega) _ _ (hr j x hx1) (hr' j y hy1)
    refine GOH ?_
    refine st_loadA (by rfl) (fun z hz => List.mem_append_left _ (hu z hz)) hul ?_
    refine GOH ?_
    refine st_loadA (by rfl) (fun z hz => List.mem_append_left _ (hw z hz)) hwl ?_
    refine GOH ?_
    refine st_call hcall (by rfl) (by exact SPx) (fun v Post hv => ?_)
    obtain ⟨rfl, rfl⟩ := hv
    simp only [CNx]
    cases hxy : litEq x y with
    | true =>
      refine GOH ?_
      refine ⟨j + 1, ⟨by omega, fun i u v hi e1 e2 => ?_⟩, by omega, by exact SUx, by exact IMx⟩
      by_cases hij : i = j
      · subst hij
        rw [hx1] at e1; rw [hy1] at e2
        cases e1; cases e2; exact hxy
      · exact i2 i u v (by omega) e1 e2
    | false =>
      have hno : E = false := by rw [hyes]; exact litsEq_false hx1 hy1 hxy
      refine GOH ?_
      exact endQ_mk (Post := [A]) (.inr rfl) (.tmp (by rfl) .nil) ⟨by rw [hno]; rfl, rfl⟩ (by exact IMx)
def alikeN (x y : Nd) : Bool := decide (x.kind = y.kind) && decide (x.name = y.name) && decide (x.args = y.args) && decide (x.temps = y.temps) && litEq x.lit y.lit && decide (x.kids.length = y.kids.length)
theorem alike_spec (A : List Atom) (x y : Nd) (vs ws : List Value) (h : NdRd A x vs) (h2 : NdRd A y ws) : Fun Tryz.prog 77 [.agg vs.toArray, .agg ws.toArray] [A] (fun v Post => v = .bool (alikeN x y) ∧ Post = [A]) := by
  cases h with
  | @mk k s lit args temps kids p lv av tv a c bk o us wf hl hav htv ha hm hr hcp =>
  cases h2 with
  | @mk k' s' lit' args' temps' kids' p' lv' av' tv' a' c' bk' o' us' wf' hl' hav' htv' ha' hm' hr' hcp' =>
  have hlits := sameLit_spec A _ lit lit' (Nat.le_refl _) _ _ hl hl'
  have hargs := sameNames_spec A _ _ args args' hav hav'
  have htemps := sameNames_spec A _ _ temps temps' htv htv'
  obtain ⟨aa, ac, rfl, _, _⟩ := hav
  obtain ⟨ta, tc, rfl, _, _⟩ := htv
  obtain ⟨aa', ac', rfl, _, _⟩ := hav'
  obtain ⟨ta', tc', rfl, _, _⟩ := htv'
  obtain ⟨la, lc, rfl⟩ := lt_open hl
  obtain ⟨la', lc', rfl⟩ := lt_open hl'
  refine Fun.intro low77 (by simp [n77]) ?_
  obtain ⟨E, hE⟩ : ∃ E, E = alikeN (.mk k s lit args temps kids p) (.mk k' s' lit' args' temps' kids' p') := ⟨_, rfl⟩
  rw [← hE]
  simp only [alikeN, Nd.kind, Nd.name, Nd.args, Nd.temps, Nd.lit, Nd.kids] at hE
  simp only [CNx] at *
  refine GOH ?_
  refine st_box (by rfl) (fun q => ?_)
  refine st_box (by rfl) (fun q2 => ?_)
  simp only [Value.cells]
  refine GOH ?_
  refine st_call hlits (by rfl) (by exact SPx) (fun v Post hv => ?_)
  obtain ⟨rfl, rfl⟩ := hv
  simp only [CNx]
  refine GOH ?_
  refine st_call hargs (by rfl) (by exact SPx) (fun v Post hv => ?_)
  obtain ⟨rfl, rfl⟩ := hv
  simp only [CNx]
  refine GOH ?_
  refine st_call htemps (by rfl) (by exact SPx) (fun v Post hv => ?_)
  obtain ⟨rfl, rfl⟩ := hv
  simp only [CNx]
  refine GOH ?_
  cases h5 : litEq lit lit' with
  | false =>
    have hno : E = false := by simp [hE, h5]
    refine GOH ?_
    exact endQ_mk (Post := [A]) (.inr rfl) (.tmp (by rfl) .nil) ⟨by rw [hno]; rfl, rfl⟩ (by exact IMx)
  | true =>
    refine GOH ?_
    by_cases h3 : args = args'
    rotate_left
    · have hno : E = false := by simp [hE, h3]
      rw [decide_eq_false h3]
      refine GOH ?_
      exact endQ_mk (Post := [A]) (.inr rfl) (.tmp (by rfl) .nil) ⟨by rw [hno]; rfl, rfl⟩ (by exact IMx)
    rw [decide_eq_true h3]
    refine GOH ?_
    by_cases h4 : temps = temps'
    rotate_left
    · have hno : E = false := by simp [hE, h4]
      rw [decide_eq_false h4]
      refine GOH ?_
      exact endQ_mk (Post := [A]) (.inr rfl) (.tmp (by rfl) .nil) ⟨by rw [hno]; rfl, rfl⟩ (by exact IMx)
    rw [decide_eq_true h4]
    refine GOH ?_
    by_cases h1 : k = k'
    rotate_left
    · have hno : E = false := by simp [hE, h1]
      rw [show decide ((k : Int) = (k' : Int)) = false from decide_eq_false (by omega)]
      refine GOH ?_
      exact endQ_mk (Post := [A]) (.inr rfl) (.tmp (by rfl) .nil) ⟨by rw [hno]; rfl, rfl⟩ (by exact IMx)
    rw [show decide ((k : Int) = (k' : Int)) = true from decide_eq_true (by omega)]
    refine GOH ?_
    by_cases h2 : s = s'
    rotate_left
    · have hno : E = false := by simp [hE, h2]
      rw [decide_eq_false h2]
      refine GOH ?_
      exact endQ_mk (Post := [A]) (.inr rfl) (.tmp (by rfl) .nil) ⟨by rw [hno]; rfl, rfl⟩ (by exact IMx)
    rw [decide_eq_true h2]
    refine GOH ?_
    have hyes : E = decide ((kids.length : Int) = (kids'.length : Int)) := by
      simp only [hE, h1, h2, h3, h4, h5, decide_true, Bool.true_and]
      exact decide_eq_decide.2 (by omega)
    exact endQ_mk (Post := [A]) (.inr rfl) (.tmp (by rfl) .nil) ⟨by rw [hyes]; rfl, rfl⟩ (by exact IMx)
theorem ndEq_alike (x y : Nd) : ndEq x y = (alikeN x y && ndsEq x.kids y.kids) := by
  cases x with
  | mk k s lit args temps kids p =>
  cases y with
  | mk k' s' lit' args' temps' kids' p' =>
  show ndEq _ _ = (decide (k = k') && decide (s = s') && decide (args = args') && decide (temps = temps') && litEq lit lit' && decide (kids.length = kids'.length) && ndsEq kids kids')
  simp only [ndEq]
  by_cases h : kids.length = kids'.length
  · simp [h]
  · rw [ndsEq_len h]; simp
theorem ndSm_alike (x y : Nd) : ndSm x y = (alikeN x y && decide (x.at_ = y.at_) && ndsSm x.kids y.kids) := by
  cases x with
  | mk k s lit args temps kids p =>
  cases y with
  | mk k' s' lit' args' temps' kids' p' =>
  show ndSm _ _ = (decide (k = k') && decide (s = s') && decide (args = args') && decide (temps = temps') && litEq lit lit' && decide (kids.length = kids'.length) && decide (p = p') && ndsSm kids kids')
  simp only [ndSm]
  by_cases h : kids.length = kids'.length
  · simp [h]
  · rw [ndsSm_len h]; simp [h]
theorem alikeN_len {x y : Nd} (h : alikeN x y = true) : x.kids.length = y.kids.length := by
  simp only [alikeN, Bool.and_eq_true, decide_eq_true_eq] at h
  exact h.2
theorem likeNode_spec (A : List Atom) : ∀ (N : Nat) (x y : Nd), x.w ≤ N → ∀ vs ws, NdRd A x vs → NdRd A y ws → Fun Tryz.prog 30 [.agg vs.toArray, .agg ws.toArray] [A] (fun v Post => v = .bool (ndEq x y) ∧ Post = [A]) := by
  intro N
  induction N with
  | zero => intro x y hx; have := x.w_pos; omega
  | succ N ih =>
    intro x y hx vs ws h h2
    have hal := alike_spec A x y vs ws h h2
    have hxk : ∀ u ∈ x.kids, u.w ≤ N := fun u hu => by
      cases x
      have := Nd.ws_mem hu
      simp only [Nd.kids] at this
      simp only [Nd.w] at hx; omega
    obtain ⟨e1, e2, e3, e4, e5, e6, e7, e8, e9, e10, e11, e12, e13, a, c, bk, o, us, rfl, hmany, ha, hm, hr⟩ := nd_at h
    obtain ⟨f1, f2, f3, f4, f5, f6, f7, f8, f9, f10, f11, f12, f13, a', c', bk', o', us', rfl, hmany', ha', hm', hr'⟩ := nd_at h2
    refine Fun.intro low30 (by simp [n30]) ?_
    have hE := ndEq_alike x y
    refine GOH ?_
    refine st_box (by rfl) (fun q => ?_)
    refine st_box (by rfl) (fun q2 => ?_)
    simp only [Value.cells]
    refine GOH ?_
    refine st_call hal (by rfl) (by exact SPx) (fun v Post hv => ?_)
    obtain ⟨rfl, rfl⟩ := hv
    simp only [CNx]
    refine GOH ?_
    refine VC.loop (α := Nat × Bool) (Γf := fun s => [(2, ptr0 q), (3, ptr0 q2), (5, .bool s.2), (6, vi s.1)]) (Hf := fun _ => [A, cellsAt q 0 [cv x.kind, .string x.name, cv e1, vi e2, uv e3, .string e4, .slice e5 e6 e7, .slice e8 e9 e10, .slice e11 e12 e13, .slice a x.kids.length c, vi x.at_], cellsAt q2 0 [cv y.kind, .string y.name, cv f1, vi f2, uv f3, .string f4, .slice f5 f6 f7, .slice f8 f9 f10, .slice f11 f12 f13, .slice a' y.kids.length c', vi y.at_]])
      (I := fun s => s.1 ≤ x.kids.length ∧ (s.2 = true → alikeN x y = true ∧ ∀ i u v, i < s.1 → x.kids[i]? = some u → y.kids[i]? = some v → ndEq u v = true) ∧ (s.2 = false → ndEq x y = false)) (μ := fun s => (x.kids.length - s.1) * 2 + (if s.2 then 1 else 0)) (0, alikeN x y) ⟨Nat.zero_le _, fun h => ⟨h, fun i u v h => absurd h (by omega)⟩, fun h => by simp only at h; rw [hE, h]; rfl⟩ (by exact SUx) (by exact IMx) ?_
    rintro ⟨j, b⟩ ⟨i1, i2, i3⟩
    simp only at i1 i2 i3
    dsimp only
    refine GOH ?_
    by_cases hj : j < x.kids.length
    rotate_left
    · rw [show decide ((j : Int) < (x.kids.length : Int)) = false from decide_eq_false (by omega)]
      have hb : b = ndEq x y := by
        cases b with
        | false => exact (i3 rfl).symm
        | true =>
          obtain ⟨g1, g2⟩ := i2 rfl
          rw [hE, g1, (ndsEq_iff _ _).2 ⟨alikeN_len g1, fun i u v e1 e2 => g2 i u v (by have := (List.getElem?_eq_some_iff.1 e1).1; omega) e1 e2⟩]
          rfl
      refine GOH ?_
      exact endQ_mk (Post := [A]) (.inr rfl) (.tmp (by rfl) .nil) ⟨by rw [hb]; rfl, rfl⟩ (by exact IMx)
    rw [show decide ((j : Int) < (x.kids.length : Int)) = true from decide_eq_true (by omega)]
    cases b with
    | false =>
      have hno := i3 rfl
      refine GOH ?_
      exact endQ_mk (Post := [A]) (.inr rfl) (.tmp (by rfl) .nil) ⟨by rw [hno]; rfl, rfl⟩ (by exact IMx)
    | true =>
      obtain ⟨g1, g2⟩ := i2 rfl
      have hlen := alikeN_len g1
      obtain rfl := ha (by omega)
      obtain rfl := ha' (by omega)
      obtain ⟨u, hu⟩ : ∃ u, x.kids[j]? = some u := ⟨_, List.getElem?_eq_getElem hj⟩
      obtain ⟨z, hz⟩ : ∃ z, y.kids[j]? = some z := ⟨_, List.getElem?_eq_getElem (hlen ▸ hj)⟩
      have hum := hm j hj
      have hzm := hm' j (by omega)
      have hul := (hr j u hu).len
      have hzl := (hr' j z hz).len
      have hcall := ih u z (hxk u (List.mem_of_getElem? hu)) _ _ (hr j u hu) (hr' j z hz)
      refine GOH ?_
      refine st_loadA (by rfl) (fun z hz => List.mem_append_left _ (hum z hz)) hul ?_
      refine GOH ?_
      refine st_loadA (by rfl) (fun z hz => List.mem_append_left _ (hzm z hz)) hzl ?_
      refine GOH ?_
      refine st_call hcall (by rfl) (by exact SPx) (fun v Post hv => ?_)
      obtain ⟨rfl, rfl⟩ := hv
      simp only [CNx]
      refine GOH ?_
      refine ⟨(j + 1, ndEq u z), ⟨by simp only; omega, fun hb => ⟨g1, fun i p r hi e1 e2 => ?_⟩, fun hb => ?_⟩, by simp only; split <;> simp <;> omega, by exact SUx, by exact IMx⟩
      · by_cases hij : i = j
        · subst hij
          rw [hu] at e1; rw [hz] at e2
          cases e1; cases e2; exact hb
        · exact g2 i p r (by simp only at hi; omega) e1 e2
      · simp only at hb
        rw [hE, ndsEq_false hu hz hb, Bool.and_false]
theorem sameNodeP_spec (A : List Atom) : ∀ (N : Nat) (x y : Nd), x.w ≤ N → ∀ vs ws, NdRd A x vs → NdRd A y ws → Fun Tryz.prog 40 [.agg vs.toArray, .agg ws.toArray] [A] (fun v Post => v = .bool (ndSm x y) ∧ Post = [A]) := by
  intro N
  induction N with
  | zero => intro x y hx; have := x.w_pos; omega
  | succ N ih =>
    intro x y hx vs ws h h2
    have hal := alike_spec A x y vs ws h h2
    have hxk : ∀ u ∈ x.kids, u.w ≤ N := fun u hu => by
      cases x
      have := Nd.ws_mem hu
      simp only [Nd.kids] at this
      simp only [Nd.w] at hx; omega
    obtain ⟨e1, e2, e3, e4, e5, e6, e7, e8, e9, e10, e11, e12, e13, a, c, bk, o, us, rfl, hmany, ha, hm, hr⟩ := nd_at h
    obtain ⟨f1, f2, f3, f4, f5, f6, f7, f8, f9, f10, f11, f12, f13, a', c', bk', o', us', rfl, hmany', ha', hm', hr'⟩ := nd_at h2
    refine Fun.intro low40 (by simp [n40]) ?_
    obtain ⟨E, hE⟩ : ∃ E, E = ndSm x y := ⟨_, rfl⟩
    rw [← hE]
    rw [ndSm_alike] at hE
    refine GOH ?_
    refine st_box (by rfl) (fun q => ?_)
    refine st_box (by rfl) (fun q2 => ?_)
    simp only [Value.cells]
    refine GOH ?_
    refine st_call hal (by rfl) (by exact SPx) (fun v Post hv => ?_)
    obtain ⟨rfl, rfl⟩ := hv
    simp only [CNx]
    cases g1 : alikeN x y with
    | false =>
      have hno : E = false := by rw [hE, g1]; rfl
      refine GOH ?_
      exact endQ_mk (Post := [A]) (.inr rfl) (.tmp (by rfl) .nil) ⟨by rw [hno]; rfl, rfl⟩ (by exact IMx)
    | true =>
      have hlen := alikeN_len g1
      refine GOH ?_
      by_cases hat : x.at_ = y.at_
      rotate_left
      · have hno : E = false := by rw [hE, decide_eq_false hat, Bool.and_false, Bool.false_and]
        rw [decide_eq_false hat]
        refine GOH ?_
        exact endQ_mk (Post := [A]) (.inr rfl) (.tmp (by rfl) .nil) ⟨by rw [hno]; rfl, rfl⟩ (by exact IMx)
      rw [decide_eq_true hat]
      have hyes : E = ndsSm x.kids y.kids := by rw [hE, g1, decide_eq_true hat]; rfl
      clear hE
      refine GOH ?_
      refine VC.loop (α := Nat) (Γf := fun j => [(2, ptr0 q), (3, ptr0 q2), (6, vi j)]) (Hf := fun _ => [A, cellsAt q 0 [cv x.kind, .string x.name, cv e1, vi e2, uv e3, .string e4, .slice e5 e6 e7, .slice e8 e9 e10, .slice e11 e12 e13, .slice a x.kids.length c, vi x.at_], cellsAt q2 0 [cv y.kind, .string y.name, cv f1, vi f2, uv f3, .string f4, .slice f5 f6 f7, .slice f8 f9 f10, .slice f11 f12 f13, .slice a' y.kids.length c', vi y.at_]])
        (I := fun j => j ≤ x.kids.length ∧ ∀ i u v, i < j → x.kids[i]? = some u → y.kids[i]? = some v → ndSm u v = true) (μ := fun j => x.kids.length - j) 0 ⟨Nat.zero_le _, fun i u v h => absurd h (by omega)⟩ (by exact SUx) (by exact IMx) ?_
      rintro j ⟨i1, i2⟩
      refine GOH ?_
      by_cases hj : j < x.kids.length
      rotate_left
      · rw [show decide ((j : Int) < (x.kids.length : Int)) = false from decide_eq_false (by omega)]
        have htt : E = true := by
          rw [hyes]
          exact (ndsSm_iff _ _).2 ⟨hlen, fun i u v e1 e2 => i2 i u v (by have := (List.getElem?_eq_some_iff.1 e1).1; omega) e1 e2⟩
        refine GOH ?_
        exact endQ_mk (Post := [A]) (.inr rfl) (.tmp (by rfl) .nil) ⟨by rw [htt]; rfl, rfl⟩ (by exact IMx)
      rw [show decide ((j : Int) < (x.kids.length : Int)) = true from decide_eq_true (by omega)]
      obtain rfl := ha (by omega)
      obtain rfl := ha' (by omega)
      obtain ⟨u, hu⟩ : ∃ u, x.kids[j]? = some u := ⟨_, List.getElem?_eq_getElem hj⟩
      obtain ⟨z, hz⟩ : ∃ z, y.kids[j]? = some z := ⟨_, List.getElem?_eq_getElem (hlen ▸ hj)⟩
      have hum := hm j hj
      have hzm := hm' j (by omega)
      have hul := (hr j u hu).len
      have hzl := (hr' j z hz).len
      have hcall := ih u z (hxk u (List.mem_of_getElem? hu)) _ _ (hr j u hu) (hr' j z hz)
      refine GOH ?_
      refine st_loadA (by rfl) (fun z hz => List.mem_append_left _ (hum z hz)) hul ?_
      refine GOH ?_
      refine st_loadA (by rfl) (fun z hz => List.mem_append_left _ (hzm z hz)) hzl ?_
      refine GOH ?_
      refine st_call hcall (by rfl) (by exact SPx) (fun v Post hv => ?_)
      obtain ⟨rfl, rfl⟩ := hv
      simp only [CNx]
      cases hxy : ndSm u z with
      | true =>
        refine GOH ?_
        refine ⟨j + 1, ⟨by omega, fun i p r hi e1 e2 => ?_⟩, by omega, by exact SUx, by exact IMx⟩
        by_cases hij : i = j
        · subst hij
          rw [hu] at e1; rw [hz] at e2
          cases e1; cases e2; exact hxy
        · exact i2 i p r (by omega) e1 e2
      | false =>
        have hno : E = false := by rw [hyes]; exact ndsSm_false hu hz hxy
        refine GOH ?_
        exact endQ_mk (Post := [A]) (.inr rfl) (.tmp (by rfl) .nil) ⟨by rw [hno]; rfl, rfl⟩ (by exact IMx)
def bodyLike (pl : Bool) (l m : List Nd) : Bool := if pl then ndsSm l m else ndsEq l m
def mdLike (pl : Bool) (x y : Md) : Bool := decide (x.args = y.args) && decide (x.temps = y.temps) && decide (x.sel = y.sel) && decide (x.prim = y.prim) && bodyLike pl x.body y.body
theorem bodyLike_len {pl : Bool} {l m : List Nd} (h : l.length ≠ m.length) : bodyLike pl l m = false := by
  unfold bodyLike; split
  · exact ndsSm_len h
  · exact ndsEq_len h
theorem bodyLike_false {pl : Bool} {l m : List Nd} {j : Nat} {u v : Nd} (h1 : l[j]? = some u) (h2 : m[j]? = some v) (h : (if pl then ndSm u v else ndEq u v) = false) : bodyLike pl l m = false := by
  unfold bodyLike
  cases pl with
  | true => exact ndsSm_false h1 h2 h
  | false => exact ndsEq_false h1 h2 h
theorem bodyLike_true {pl : Bool} {l m : List Nd} (h1 : l.length = m.length) (h2 : ∀ (i : Nat) u v, l[i]? = some u → m[i]? = some v → (if pl then ndSm u v else ndEq u v) = true) : bodyLike pl l m = true := by
  unfold bodyLike
  cases pl with
  | true => exact (ndsSm_iff _ _).2 ⟨h1, h2⟩
  | false => exact (ndsEq_iff _ _).2 ⟨h1, h2⟩
theorem sameMethod_spec (A : List Atom) (x y : Md) (vs ws : List Value) (h : MdW A x vs) (h2 : MdW A y ws) (pl : Bool) : Fun Tryz.prog 18 [.agg vs.toArray, .agg ws.toArray, .bool pl] [A] (fun v Post => v = .bool (mdLike pl x y) ∧ Post = [A]) := by
  obtain ⟨⟨aa, ac, ta, tc, a, c, bk, o, us, rfl, hav, htv, hk⟩, hsel, hprim⟩ := h
  obtain ⟨⟨aa', ac', ta', tc', a', c', bk', o', us', rfl, hav', htv', hk'⟩, hsel', hprim'⟩ := h2
  have hargs := sameNames_spec A _ _ x.args y.args hav hav'
  have htemps := sameNames_spec A _ _ x.temps y.temps htv htv'
  obtain ⟨s, args, temps, p, body⟩ := x
  obtain ⟨s', args', temps', p', body'⟩ := y
  simp only at *
  have hmany := hk.many
  refine Fun.intro low18 (by simp [n18]) ?_
  obtain ⟨E, hE⟩ : ∃ E, E = mdLike pl ⟨s, args, temps, p, body⟩ ⟨s', args', temps', p', body'⟩ := ⟨_, rfl⟩
  rw [← hE]
  simp only [mdLike] at hE
  refine GOH ?_
  refine st_box (by rfl) (fun q => ?_)
  refine st_box (by rfl) (fun q2 => ?_)
  simp only [Value.cells]
  refine GOH ?_
  refine st_call hargs (by rfl) (by exact SPx) (fun v Post hv => ?_)
  obtain ⟨rfl, rfl⟩ := hv
  simp only [CNx]
  refine GOH ?_
  refine st_call htemps (by rfl) (by exact SPx) (fun v Post hv => ?_)
  obtain ⟨rfl, rfl⟩ := hv
  simp only [CNx]
  by_cases h1 : args = args'
  rotate_left
  · have hno : E = false := by simp [hE, h1]
    rw [decide_eq_false h1]
    refine GOH ?_
    exact endQ_mk (Post := [A]) (.inr rfl) (.tmp (by rfl) .nil) ⟨by rw [hno]; rfl, rfl⟩ (by exact IMx)
  rw [decide_eq_true h1]
  refine GOH ?_
  by_cases h2 : temps = temps'
  rotate_left
  · have hno : E = false := by simp [hE, h2]
    rw [decide_eq_false h2]
    refine GOH ?_
    exact endQ_mk (Post := [A]) (.inr rfl) (.tmp (by rfl) .nil) ⟨by rw [hno]; rfl, rfl⟩ (by exact IMx)
  rw [decide_eq_true h2]
  refine GOH ?_
  by_cases h3 : s = s'
  rotate_left
  · have hno : E = false := by simp [hE, h3]
    rw [decide_eq_false h3]
    refine GOH ?_
    exact endQ_mk (Post := [A]) (.inr rfl) (.tmp (by rfl) .nil) ⟨by rw [hno]; rfl, rfl⟩ (by exact IMx)
  rw [decide_eq_true h3]
  refine GOH ?_
  by_cases h4 : p = p'
  rotate_left
  · have hno : E = false := by simp [hE, h4]
    rw [decide_eq_false h4]
    refine GOH ?_
    exact endQ_mk (Post := [A]) (.inr rfl) (.tmp (by rfl) .nil) ⟨by rw [hno]; rfl, rfl⟩ (by exact IMx)
  rw [decide_eq_true h4]
  refine GOH ?_
  by_cases h5 : body.length = body'.length
  rotate_left
  · have hno : E = false := by simp [hE, bodyLike_len h5]
    rw [show decide ((body.length : Int) = (body'.length : Int)) = false from decide_eq_false (by omega)]
    refine GOH ?_
    exact endQ_mk (Post := [A]) (.inr rfl) (.tmp (by rfl) .nil) ⟨by rw [hno]; rfl, rfl⟩ (by exact IMx)
  rw [show decide ((body.length : Int) = (body'.length : Int)) = true from decide_eq_true (by omega)]
  have hyes : E = bodyLike pl body body' := by simp [hE, h1, h2, h3, h4]
  clear hE
  refine GOH ?_
  refine VC.loop (α := Nat) (Γf := fun j => [(2, .bool pl), (3, ptr0 q), (4, ptr0 q2), (9, vi j)]) (Hf := fun _ => [A, cellsAt q 0 [.string s, .slice aa args.length ac, .slice ta temps.length tc, vi p, .slice a body.length c], cellsAt q2 0 [.string s', .slice aa' args'.length ac', .slice ta' temps'.length tc', vi p', .slice a' body'.length c']])
    (I := fun j => j ≤ body.length ∧ ∀ i u v, i < j → body[i]? = some u → body'[i]? = some v → (if pl then ndSm u v else ndEq u v) = true) (μ := fun j => body.length - j) 0 ⟨Nat.zero_le _, fun i u v h => absurd h (by omega)⟩ (by exact SUx) (by exact IMx) ?_
  rintro j ⟨i1, i2⟩
  refine GOH ?_
  by_cases hj : j < body.length
  rotate_left
  · rw [show decide ((j : Int) < (body.length : Int)) = false from decide_eq_false (by omega)]
    have htt : E = true := by
      rw [hyes]
      exact bodyLike_true h5 fun i u v e1 e2 => i2 i u v (by have := (List.getElem?_eq_some_iff.1 e1).1; omega) e1 e2
    refine GOH ?_
    exact endQ_mk (Post := [A]) (.inr rfl) (.tmp (by rfl) .nil) ⟨by rw [htt]; rfl, rfl⟩ (by exact IMx)
  rw [show decide ((j : Int) < (body.length : Int)) = true from decide_eq_true (by omega)]
  obtain rfl := hk.at_ (by omega)
  obtain rfl := hk'.at_ (by omega)
  obtain ⟨u, hu⟩ : ∃ u, body[j]? = some u := ⟨_, List.getElem?_eq_getElem hj⟩
  obtain ⟨z, hz⟩ : ∃ z, body'[j]? = some z := ⟨_, List.getElem?_eq_getElem (h5 ▸ hj)⟩
  have hum := hk.mem j hj
  have hzm := hk'.mem j (by omega)
  have hul := (hk.rd j u hu).len
  have hzl := (hk'.rd j z hz).len
  have hcall := likeNode_spec A _ u z (Nat.le_refl _) _ _ (hk.rd j u hu) (hk'.rd j z hz)
  have hcall2 := sameNodeP_spec A _ u z (Nat.le_refl _) _ _ (hk.rd j u hu) (hk'.rd j z hz)
  refine GOH ?_
  refine st_loadA (by rfl) (fun z hz => List.mem_append_left _ (hum z hz)) hul ?_
  refine GOH ?_
  refine st_loadA (by rfl) (fun z hz => List.mem_append_left _ (hzm z hz)) hzl ?_
  refine GOH ?_
  refine st_call hcall (by rfl) (by exact SPx) (fun v Post hv => ?_)
  obtain ⟨rfl, rfl⟩ := hv
  simp only [CNx]
  cases pl with
  | true =>
    simp only [if_true] at i2
    refine GOH ?_
    refine st_loadA (by rfl) (fun z hz => List.mem_append_left _ (hum z hz)) hul ?_
    refine GOH ?_
    refine st_loadA (by rfl) (fun z hz => List.mem_append_left _ (hzm z hz)) hzl ?_
    refine GOH ?_
    refine st_call hcall2 (by rfl) (by exact SPx) (fun v Post hv => ?_)
    obtain ⟨rfl, rfl⟩ := hv
    simp only [CNx]
    cases hxy : ndSm u z with
    | true =>
      refine GOH ?_
      refine ⟨j + 1, ⟨by omega, fun i p r hi e1 e2 => ?_⟩, by omega, by exact SUx, by exact IMx⟩
      show (if true then ndSm p r else ndEq p r) = true
      simp only [if_true]
      by_cases hij : i = j
      · subst hij
        rw [hu] at e1; rw [hz] at e2
        cases e1; cases e2; exact hxy
      · exact i2 i p r (by omega) e1 e2
    | false =>
      have hno : E = false := by rw [hyes]; exact bodyLike_false hu hz hxy
      refine GOH ?_
      exact endQ_mk (Post := [A]) (.inr rfl) (.tmp (by rfl) .nil) ⟨by rw [hno]; rfl, rfl⟩ (by exact IMx)
  | false =>
    simp only [Bool.false_eq_true, if_false] at i2
    refine GOH ?_
    cases hxy : ndEq u z with
    | true =>
      refine GOH ?_
      refine ⟨j + 1, ⟨by omega, fun i p r hi e1 e2 => ?_⟩, by omega, by exact SUx, by exact IMx⟩
      simp only [Bool.false_eq_true, if_false]
      by_cases hij : i = j
      · subst hij
        rw [hu] at e1; rw [hz] at e2
        cases e1; cases e2; exact hxy
      · exact i2 i p r (by omega) e1 e2
    | false =>
      have hno : E = false := by rw [hyes]; exact bodyLike_false hu hz hxy
      refine GOH ?_
      exact endQ_mk (Post := [A]) (.inr rfl) (.tmp (by rfl) .nil) ⟨by rw [hno]; rfl, rfl⟩ (by exact IMx)
theorem weighMethod_spec (A : List Atom) (x : Md) (vs : List Value) (h : MdW A x vs) : Fun Tryz.prog 43 [.agg vs.toArray] [A] (fun v Post => ∃ r, v = vi r ∧ Post = [A]) := by
  obtain ⟨⟨aa, ac, ta, tc, a, c, bk, o, us, rfl, hav, htv, hk⟩, hsel, hprim⟩ := h
  have hat := fun s hs => weighTexts_spec A _ x.args hav s hs
  have htt := fun s hs => weighTexts_spec A _ x.temps htv s hs
  obtain ⟨s, args, temps, p, body⟩ := x
  simp only at *
  have hmany := hk.many
  refine Fun.intro low43 (by simp [n43]) ?_
  refine GOH ?_
  refine st_box (by rfl) (fun q => ?_)
  simp only [Value.cells]
  refine GOH ?_
  refine st_call (hat s.size (by omega)) (by rfl) (by exact SPx) (fun v Post hv => ?_)
  obtain ⟨r1, rfl, h1, h2, rfl⟩ := hv
  unfold wB at h2
  simp only [CNx]
  refine GOH ?_
  refine st_call (htt r1 (by omega)) (by rfl) (by exact SPx) (fun v Post hv => ?_)
  obtain ⟨r2, rfl, h3, h4, rfl⟩ := hv
  unfold wB at h4
  simp only [CNx]
  have h5 : r2 ≤ wN 0 + 1000000000000000 := by unfold wN; omega
  clear h2 h4
  refine GOH ?_
  refine VC.loop (α := Nat × Int) (Γf := fun z => [(1, ptr0 q), (3, vi z.2), (4, vi z.1)]) (Hf := fun _ => [A, cellsAt q 0 [.string s, .slice aa args.length ac, .slice ta temps.length tc, vi p, .slice a body.length c]])
    (I := fun z => z.1 ≤ body.length ∧ 0 ≤ z.2 ∧ z.2 ≤ wN 0 + 1000000000000000) (μ := fun z => body.length - z.1) (0, r2) ⟨Nat.zero_le _, h3, h5⟩ (by exact SUx) (by exact IMx) ?_
  rintro ⟨j, r⟩ ⟨i1, i2, i3⟩
  simp only at i1 i2 i3
  dsimp only
  unfold wN at i3
  refine GOH ?_
  by_cases hj : j < body.length
  rotate_left
  · rw [show decide ((j : Int) < (body.length : Int)) = false from decide_eq_false (by omega)]
    refine GOH ?_
    exact endQ_mk (Post := [A]) (.inr rfl) (.tmp (by rfl) .nil) ⟨r, rfl, rfl⟩ (by exact IMx)
  rw [show decide ((j : Int) < (body.length : Int)) = true from decide_eq_true (by omega)]
  refine GOH ?_
  by_cases hr2 : r ≤ 262144
  rotate_left
  · rw [decide_eq_false hr2]
    refine GOH ?_
    exact endQ_mk (Post := [A]) (.inr rfl) (.tmp (by rfl) .nil) ⟨r, rfl, rfl⟩ (by exact IMx)
  rw [decide_eq_true hr2]
  obtain rfl := hk.at_ (by omega)
  obtain ⟨y, hy⟩ : ∃ y, body[j]? = some y := ⟨_, List.getElem?_eq_getElem hj⟩
  have hym := hk.mem j hj
  have hyl := (hk.rd j y hy).len
  have hcall := weighNode_spec A _ y (Nat.le_refl _) _ (hk.rd j y hy) r 0 i2 (by omega) (by omega) (by omega)
  refine GOH ?_
  refine st_loadA (by rfl) (fun z hz => List.mem_append_left _ (hym z hz)) hyl ?_
  refine GOH ?_
  refine st_call hcall (by rfl) (by exact SPx) (fun v Post hv => ?_)
  obtain ⟨r', rfl, h2, h4, rfl⟩ := hv
  unfold wN at h4
  simp only [CNx]
  refine GOH ?_
  refine ⟨(j + 1, r'), ⟨by simp only; omega, by simp only; omega, by simp only; unfold wN; omega⟩, by simp only; omega, by exact SUx, by exact IMx⟩
theorem far_spec (A : List Atom) (x : Md) (vs : List Value) (h : MdW A x vs) : Fun Tryz.prog 11 [.agg vs.toArray] [A] (fun v Post => ∃ b, v = .bool b ∧ Post = [A]) := by
  have hw := weighMethod_spec A x vs h
  obtain ⟨⟨aa, ac, ta, tc, a, c, bk, o, us, rfl, hav, htv, hk⟩, hsel, hprim⟩ := h
  refine Fun.intro low11 (by simp [n11]) ?_
  refine GOH ?_
  refine st_box (by rfl) (fun q => ?_)
  simp only [Value.cells]
  refine GOH ?_
  refine st_call hw (by rfl) (by exact SPx) (fun v Post hv => ?_)
  obtain ⟨r, rfl, rfl⟩ := hv
  simp only [CNx]
  refine GOH ?_
  exact endQ_mk (Post := [A]) (.inr rfl) (.tmp (by rfl) .nil) ⟨_, rfl, rfl⟩ (by exact IMx)
set_option maxHeartbeats 800000
set_option maxHeartbeats 3200000
set_option maxHeartbeats 1600000
structure LitQ where
  ok : Bool
  n : Int
  b : Nat
  t : ByteArray
  sv : Value
  l : Nat
structure OneS where
  ok : Bool
  n : Int
  s : ByteArray
  lk : Nat
  ln : Int
  lb : Nat
  lt : ByteArray
  la : Option Addr
  lm : Nat
  lc : Nat
  aa : Option Addr
  am : Nat
  ac : Nat
  ta : Option Addr
  tm : Nat
  tc : Nat
set_option maxHeartbeats 3200000
abbrev rowsN (f : List NV) : List Value := f.flatMap fun p => p.2
theorem specN_len {A : List Atom} {x : Nd} {f : List NV} (h : SpecN A x f) : f.length = (allN x).length := by rw [← h.1, List.length_map]
theorem specNs_len {A : List Atom} {l : List Nd} {f : List NV} (h : SpecNs A l f) : f.length = (allsN l).length := by rw [← h.1, List.length_map]
theorem allsN_len (l : List Nd) : (allsN l).length ≤ Nd.ws l := by
  induction l with
  | nil => exact Nat.zero_le _
  | cons y r ih =>
    have := allN_len _ y (Nat.le_refl _)
    simp only [allsN, List.length_append, Nd.ws]; omega
theorem below_spec (A : List Atom) : ∀ (N : Nat) (x : Nd), x.w ≤ N → ∀ vs, NdRd A x vs → ∀ (lv : Value) (k : Nat) (xs sp : List Value), IsSl 11 lv k xs sp → k + x.w ≤ 274877906944 →
    Fun Tryz.prog 78 [lv, .agg vs.toArray] [A, slA lv xs sp] (fun v Post => ∃ f sp', SpecN A x f ∧ IsSl 11 v (k + f.length) (xs ++ rowsN f) sp' ∧ Post = [A, slA v (xs ++ rowsN f) sp']) := by
  intro N
  induction N with
  | zero => intro x hx; have := x.w_pos; omega
  | succ N ih =>
    intro x hx vs h lv k xs sp hsl hkw
    have h0 := h
    have hcons : ∀ {f : List NV}, SpecNs A x.kids f → SpecN A x ((x, vs) :: f) := fun hf => SpecN.cons h hf
    have hwx : Nd.ws x.kids + 1 ≤ x.w := by cases x; simp only [Nd.w, Nd.kids]; omega
    obtain ⟨e1, e2, e3, e4, e5, e6, e7, e8, e9, e10, e11, e12, e13, a, cc, bk, o, us, hvs, hmany, ha, hm, hr⟩ := nd_at h0
    have hvl : vs.length = 11 := h.len
    obtain ⟨la, lc, rfl⟩ := hsl.form
    refine Fun.intro low78 (by simp [n78]) ?_
    rw [hvs]
    refine GOH ?_
    refine st_box (by rfl) (fun q => ?_)
    simp only [Value.cells]
    refine GOH ?_
    refine st_bslice (out := [cv x.kind, .string x.name, cv e1, vi e2, uv e3, .string e4, .slice e5 e6 e7, .slice e8 e9 e10, .slice e11 e12 e13, .slice a x.kids.length cc, vi x.at_]) (by rfl) (by rfl) (fun r => ?_)
    refine st_append (k := k) (m := 1) (xs := xs) (sp := sp) (ys := [cv x.kind, .string x.name, cv e1, vi e2, uv e3, .string e4, .slice e5 e6 e7, .slice e8 e9 e10, .slice e11 e12 e13, .slice a x.kids.length cc, vi x.at_]) (by rfl) (by rfl) hsl (by exact TKx) (by rfl) ?_ rfl (by rfl) (by rfl) (by decide) (by omega) (fun sv1 sp1 hsl1 => ?_)
    · exact ⟨rfl, fun a ha => by simp only [List.flatten_cons, List.mem_append]; exact .inl ha⟩
    rw [← hvs] at hsl1 ⊢
    refine GOH ?_
    refine VC.loop (α := Nat × Value × List NV × List Value) (Γf := fun s => [(0, s.2.1), (3, ptr0 q), (5, vi s.1)]) (Hf := fun s => [A, slA s.2.1 (xs ++ rowsN ((x, vs) :: s.2.2.1)) s.2.2.2, cellsAt q 0 vs])
      (I := fun s => s.1 ≤ x.kids.length ∧ SpecNs A (x.kids.take s.1) s.2.2.1 ∧ IsSl 11 s.2.1 (k + 1 + s.2.2.1.length) (xs ++ rowsN ((x, vs) :: s.2.2.1)) s.2.2.2) (μ := fun s => x.kids.length - s.1) (0, sv1, [], sp1) ⟨Nat.zero_le _, .nil, by simpa using hsl1⟩ (by exact SUx) ?_ ?_
    · have e : rowsN ((x, vs) :: []) = vs := by simp
      simp only [e]
      exact IMx
    rintro ⟨j, sv, f, sp2⟩ ⟨i1, i2, i3⟩
    simp only at i1 i2 i3
    dsimp only
    have hfl := specNs_len i2
    have hle := allsN_len (x.kids.take j)
    rw [hvs]
    refine GOH ?_
    by_cases hj : j < x.kids.length
    rotate_left
    · rw [show decide ((j : Int) < (x.kids.length : Int)) = false from decide_eq_false (by omega)]
      rw [List.take_of_length_le (by omega)] at i2
      rw [← hvs]
      refine GOH ?_
      refine endQ_mk (Post := [A, slA sv (xs ++ rowsN ((x, vs) :: f)) sp2]) (.inr rfl) (.tmp (by rfl) .nil) ⟨_, sp2, hcons i2, ?_, rfl⟩ (by exact IMx)
      rw [List.length_cons, show k + (f.length + 1) = k + 1 + f.length by omega]
      exact i3
    obtain rfl := ha (by omega)
    rw [show decide ((j : Int) < (x.kids.length : Int)) = true from decide_eq_true (by omega)]
    obtain ⟨z, hz⟩ : ∃ z, x.kids[j]? = some z := ⟨_, List.getElem?_eq_getElem hj⟩
    have hzr := hr j z hz
    have hzm := hm j hj
    have hzl := hzr.len
    have hzw : z.w ≤ Nd.ws x.kids := Nd.ws_mem (List.mem_of_getElem? hz)
    have htk : x.kids.take (j + 1) = x.kids.take j ++ [z] := by rw [List.take_add_one, hz]; rfl
    have hpart : Nd.ws (x.kids.take j) + z.w ≤ Nd.ws x.kids := by
      have e : x.kids = x.kids.take j ++ (z :: x.kids.drop (j + 1)) := by
        rw [show x.kids.take j ++ (z :: x.kids.drop (j + 1)) = (x.kids.take j ++ [z]) ++ x.kids.drop (j + 1) by simp, ← htk, List.take_append_drop]
      have happ : ∀ l r : List Nd, Nd.ws (l ++ r) = Nd.ws l + Nd.ws r := by
        intro l
        induction l with
        | nil => intro r; simp [Nd.ws]
        | cons y l ih => intro r; simp only [List.cons_append, Nd.ws, ih]; omega
      have := congrArg Nd.ws e
      rw [happ] at this
      simp only [Nd.ws] at this
      omega
    have hcall := ih z (by omega) _ hzr sv (k + 1 + f.length) _ sp2 i3 (by omega)
    refine GOH ?_
    refine st_loadA (by rfl) (fun u hu => List.mem_append_left _ (hzm u hu)) hzl ?_
    refine GOH ?_
    refine st_call hcall (by rfl) (by rw [← hvs]; exact SPx) (fun v Post hv => ?_)
    obtain ⟨fz, sp3, hfz, hsl3, rfl⟩ := hv
    simp only [CNx]
    rw [← hvs]
    refine GOH ?_
    refine ⟨(j + 1, v, f ++ fz, sp3), ⟨by simp only; omega, ?_, ?_⟩, by simp only; omega, by exact SUx, ?_⟩
    · simp only [htk]
      exact i2.append (SpecNs.one hfz)
    · simp only [List.length_append]
      have e : xs ++ rowsN ((x, vs) :: (f ++ fz)) = xs ++ rowsN ((x, vs) :: f) ++ rowsN fz := by simp
      rw [e, show k + 1 + (f.length + fz.length) = k + 1 + f.length + fz.length by omega]
      exact hsl3
    · have e : xs ++ rowsN ((x, vs) :: (f ++ fz)) = xs ++ rowsN ((x, vs) :: f) ++ rowsN fz := by simp
      simp only [e]
      exact IMx
theorem Nodes_spec (A : List Atom) (x : Nd) (vs : List Value) (h : NdRd A x vs) (hw : x.w ≤ 274877906944) :
    Fun Tryz.prog 31 [.agg vs.toArray] [A] (fun v Post => ∃ f sp, SpecN A x f ∧ IsSl 11 v f.length (rowsN f) sp ∧ Post = [A, slA v (rowsN f) sp]) := by
  have hb := below_spec A _ x (Nat.le_refl _) vs h (.slice none 0 0) 0 [] [] .nil (by omega)
  obtain ⟨e1, e2, e3, e4, e5, e6, e7, e8, e9, e10, e11, e12, e13, e14, e15, e16, e17, rfl, _, _⟩ := nd_open2 h
  refine Fun.intro low31 (by simp [n31]) ?_
  refine GOH ?_
  refine st_box (by rfl) (fun q => ?_)
  simp only [Value.cells]
  refine GOH ?_
  refine VO.imp (H' := [A, slA (.slice none 0 0) [] [], cellsAt q 0 [cv x.kind, .string x.name, cv e1, vi e2, uv e3, .string e4, .slice e5 e6 e7, .slice e8 e9 e10, .slice e11 e12 e13, .slice e14 e15 e16, vi e17]]) (Imp.perm (by simp [slA]; exact List.perm_append_comm)) ?_
  refine st_call hb (by rfl) (by exact SPx) (fun v Post hv => ?_)
  obtain ⟨f, sp, h1, h2, rfl⟩ := hv
  rw [List.nil_append, Nat.zero_add] at *
  simp only [CNx]
  refine GOH ?_
  exact endQ_mk (Post := [A, slA v (rowsN f) sp]) (.inr rfl) (.tmp (by rfl) .nil) ⟨f, sp, h1, h2, rfl⟩ (by exact IMx)
theorem roomNode_spec (A : List Atom) : ∀ (N : Nat) (x : Nd), x.w ≤ N → ∀ vs, NdLen A x vs → Fun Tryz.prog 57 [.agg vs.toArray] [A] (fun v Post => v = .bool true ∧ Post = [A]) := by
  intro N
  induction N with
  | zero => intro x hx; have := x.w_pos; omega
  | succ N ih =>
    intro x hx vs h
    cases h with
    | @mk k s lit args temps kids p lv av tv c bk us wf hl hav htv hm hr hroom hc =>
    simp only [Nd.w] at hx
    have hmany := wf.many
    have hlit := roomLit_spec A _ lit (Nat.le_refl _) lv hl
    have hwa := wholeNames_spec A av args hav
    have hwt := wholeNames_spec A tv temps htv
    obtain ⟨le, lc, hle⟩ := lt_open hl.rd
    obtain ⟨aa, ac, rfl, _⟩ := hav
    obtain ⟨ta, tc, rfl, _⟩ := htv
    rw [hle] at hlit ⊢
    refine Fun.intro low57 (by simp [n57]) ?_
    simp only [CNx]
    refine GOH ?_
    refine st_box (by rfl) (fun q => ?_)
    simp only [Value.cells]
    refine GOH ?_
    refine st_slcL (l := 0) (h := kids.length + 1) (o' := 0) (by rfl) .dft (.num (by rfl)) ⟨by omega, by omega⟩ (by split <;> omega) ?_
    refine GOH ?_
    refine st_call hlit (by rfl) (by exact SPx) (fun v Post hv => ?_)
    obtain ⟨rfl, rfl⟩ := hv
    simp only [CNx]
    refine GOH ?_
    refine st_call hwa (by rfl) (by exact SPx) (fun v Post hv => ?_)
    obtain ⟨rfl, rfl⟩ := hv
    simp only [CNx]
    refine GOH ?_
    refine st_call hwt (by rfl) (by exact SPx) (fun v Post hv => ?_)
    obtain ⟨rfl, rfl⟩ := hv
    simp only [CNx]
    refine GOH ?_
    refine VC.loop (α := Nat) (Γf := fun j => [(1, ptr0 q), (7, .bool true), (8, vi j)]) (Hf := fun _ => [A, cellsAt q 0 [cv k, .string s, cv lit.kind, vi lit.n, uv lit.bits, .string lit.text, .slice le lit.items.length lc, .slice (some ⟨aa, 0, none⟩) args.length ac, .slice (some ⟨ta, 0, none⟩) temps.length tc, .slice (some ⟨bk, 0, none⟩) kids.length c, vi p]]) (I := fun j => j ≤ kids.length) (μ := fun j => kids.length - j) 0 (Nat.zero_le _) (by exact SUx) (by exact IMx) ?_
    rintro j i1
    refine GOH ?_
    by_cases hj : j < kids.length
    rotate_left
    · skip
      rw [show decide ((j : Int) < (kids.length : Int)) = false from decide_eq_false (by omega)]
      refine GOH ?_
      exact endQ_mk (Post := [A]) (.inr rfl) (.tmp (by rfl) .nil) ⟨rfl, rfl⟩ (by exact IMx)
    rw [show decide ((j : Int) < (kids.length : Int)) = true from decide_eq_true (by omega)]
    obtain ⟨y, hy⟩ : ∃ y, kids[j]? = some y := ⟨_, List.getElem?_eq_getElem hj⟩
    have hym := hm j hj
    have hyr := hr j y hy
    have h1 := Nd.ws_mem (List.mem_of_getElem? hy)
    have hcall := ih y (by omega) _ hyr
    have hyl := hyr.len
    generalize us j = uj at *
    refine GOH ?_
    refine st_loadA (by rfl) (fun z hz => List.mem_append_left _ (hym z hz)) hyl ?_
    refine GOH ?_
    refine st_call hcall (by rfl) (by exact SPx) (fun v Post hv => ?_)
    obtain ⟨rfl, rfl⟩ := hv
    simp only [CNx]
    refine GOH ?_
    exact ⟨j + 1, by omega, by omega, by exact SUx, by exact IMx⟩
end Go.Proofs.YtmnmandpdadedaaGreatDoor

/-
  Texts, literals, nodes: the same?
-/
import Derived.Test.YtmnmandpdadedaaGreatDoorT13
import Derived.Test.YtmnmandpdadedaaGreatDoorV12
import Derived.Test.YtmnmandpdadedaaGreatDoorV6
import Derived.Test.YtmnmandpdadedaaGreatDoorT1
import Derived.KernelRfl
import Derived.Test.YtmnmandpdadedaaGreatDoorProg
set_option linter.unusedSimpArgs false
set_option linter.unusedVariables false
namespace Go.Proofs.YtmnmandpdadedaaGreatDoor
open Go Go.V
set_option maxHeartbeats 3200000
set_option maxRecDepth 100000
theorem equalTexts_spec (A : List Atom) (av bv : Value) (l m : List ByteArray) (hl : RdT A av l) (hm : RdT A bv m) : Fun Tryz.prog 51 [av, bv] [A] (fun v Post => v = .bool (decide (l = m)) ∧ Post = [A]) := by
  obtain ⟨a, c, rfl, hll, hlr⟩ := hl
  obtain ⟨b, cb, rfl, hml, hmr⟩ := hm
  refine Fun.intro low51 (by simp [n51]) ?_
  obtain ⟨t, ht⟩ : ∃ t, t = decide (l = m) := ⟨_, rfl⟩
  rw [← ht]
  refine GOH ?_
  by_cases hlen : l.length = m.length
  rotate_left
  · have htf : t = false := by rw [ht]; exact decide_eq_false fun h => hlen (by rw [h])
    rw [show decide ((l.length : Int) = (m.length : Int)) = false from decide_eq_false (by omega)]
    refine GOH ?_
    exact endQ_mk (Post := [A]) (.inr rfl) (.tmp (by rfl) .nil) ⟨by rw [htf]; rfl, rfl⟩ (by exact IMx)
  rw [show decide ((l.length : Int) = (m.length : Int)) = true from decide_eq_true (by omega)]
  refine GOH ?_
  refine VC.loop (α := Nat) (Γf := fun j => [(0, .slice a l.length c), (1, .slice b m.length cb), (12, vi l.length), (13, vi j)]) (Hf := fun _ => [A])
    (I := fun j => j ≤ l.length ∧ ∀ i x y, i < j → l[i]? = some x → m[i]? = some y → x = y) (μ := fun j => l.length - j) 0 ⟨Nat.zero_le _, fun i x y h => absurd h (by omega)⟩ (by exact SUx) (by exact IMx) ?_
  rintro j ⟨i1, i2⟩
  refine GOH ?_
  by_cases hj : j < l.length
  rotate_left
  · rw [show decide ((j : Int) < (l.length : Int)) = false from decide_eq_false (by omega)]
    have htt : t = true := by
      rw [ht]
      refine decide_eq_true (texts_eq hlen fun i x y e1 e2 => i2 i x y ?_ e1 e2)
      have := (List.getElem?_eq_some_iff.1 e1).1
      omega
    refine GOH ?_
    exact endQ_mk (Post := [A]) (.inr rfl) (.tmp (by rfl) .nil) ⟨by rw [htt]; rfl, rfl⟩ (by exact IMx)
  rw [show decide ((j : Int) < (l.length : Int)) = true from decide_eq_true (by omega)]
  obtain ⟨x, hx⟩ : ∃ x, l[j]? = some x := ⟨_, List.getElem?_eq_getElem hj⟩
  obtain ⟨y, hy⟩ : ∃ y, m[j]? = some y := ⟨_, List.getElem?_eq_getElem (hlen ▸ hj)⟩
  obtain ⟨b1, o1, rfl, hc1, hs1⟩ := hlr j x hx
  obtain ⟨b2, o2, rfl, hc2, hs2⟩ := hmr j y hy
  refine GOH ?_
  by_cases hxy : x = y
  · rw [decide_eq_true hxy]
    refine GOH ?_
    refine ⟨j + 1, ⟨by omega, fun i u v hi e1 e2 => ?_⟩, by omega, by exact SUx, by exact IMx⟩
    by_cases hij : i = j
    · subst hij
      rw [hx] at e1; rw [hy] at e2
      cases e1; cases e2; exact hxy
    · exact i2 i u v (by omega) e1 e2
  · have htf : t = false := by
      rw [ht]
      refine decide_eq_false fun h => hxy ?_
      subst h
      rw [hx] at hy; cases hy; rfl
    rw [decide_eq_false hxy]
    refine GOH ?_
    exact endQ_mk (Post := [A]) (.inr rfl) (.tmp (by rfl) .nil) ⟨by rw [htf]; rfl, rfl⟩ (by exact IMx)
theorem lt_open {A : List Atom} {x : Lt} {vs : List Value} (h : LtRd A x vs) : ∃ (e : Option Addr) (c : Nat), vs = [cv x.kind, vi x.n, uv x.bits, .string x.text, .slice e x.items.length c] := by
  cases h with
  | mk wf ha hm hr => exact ⟨_, _, rfl⟩
theorem equalLits_spec (A : List Atom) (l m : List Lt) (a b : Option Addr) (c cb bk o bk2 o2 : Nat) (us ws : Nat → List Value) (hla : l.length ≤ 140737488355328) (ha : 0 < l.length → a = some ⟨bk, o, none⟩) (hb : 0 < m.length → b = some ⟨bk2, o2, none⟩)
    (hm : ∀ i, i < l.length → ∀ y ∈ cellsAt bk (o + i * 5) (us i), y ∈ A) (hm2 : ∀ i, i < m.length → ∀ y ∈ cellsAt bk2 (o2 + i * 5) (ws i), y ∈ A) (hr : ∀ i x, l[i]? = some x → LtRd A x (us i)) (hr2 : ∀ i x, m[i]? = some x → LtRd A x (ws i))
    (fv : Value) (hfv : ∀ i x y, l[i]? = some x → m[i]? = some y → FunV Tryz.prog fv [.agg (us i).toArray, .agg (ws i).toArray] [A] (fun v Post => v = .bool (litEq x y) ∧ Post = [A])) :
    Fun Tryz.prog 116 [.slice a l.length c, .slice b m.length cb, fv] [A] (fun v Post => v = .bool (litsEq l m) ∧ Post = [A]) := by
  refine Fun.intro low116 (by simp [n116]) ?_
  refine GOH ?_
  by_cases hlen : l.length = m.length
  rotate_left
  · rw [show decide ((l.length : Int) = (m.length : Int)) = false from decide_eq_false (by omega)]
    refine GOH ?_
    exact endQ_mk (Post := [A]) (.inr rfl) (.tmp (by rfl) .nil) ⟨by rw [litsEq_len hlen]; rfl, rfl⟩ (by exact IMx)
  rw [show decide ((l.length : Int) = (m.length : Int)) = true from decide_eq_true (by omega)]
  refine GOH ?_
  refine VC.loop (α := Nat) (Γf := fun j => [(1, .slice b m.length cb), (2, fv), (15, .slice a l.length c), (16, vi l.length), (17, vi j)]) (Hf := fun _ => [A])
    (I := fun j => j ≤ l.length ∧ ∀ i x y, i < j → l[i]? = some x → m[i]? = some y → litEq x y = true) (μ := fun j => l.length - j) 0 ⟨Nat.zero_le _, fun i x y h => absurd h (by omega)⟩ (by exact SUx) (by exact IMx) ?_
  rintro j ⟨i1, i2⟩
  refine GOH ?_
  by_cases hj : j < l.length
  rotate_left
  · rw [show decide ((j : Int) < (l.length : Int)) = false from decide_eq_false (by omega)]
    have htt : litsEq l m = true := (litsEq_iff l m).2 ⟨hlen, fun i x y e1 e2 => i2 i x y (by have := (List.getElem?_eq_some_iff.1 e1).1; omega) e1 e2⟩
    refine GOH ?_
    exact endQ_mk (Post := [A]) (.inr rfl) (.tmp (by rfl) .nil) ⟨by rw [htt]; rfl, rfl⟩ (by exact IMx)
  rw [show decide ((j : Int) < (l.length : Int)) = true from decide_eq_true (by omega)]
  obtain rfl := ha (by omega)
  obtain rfl := hb (by omega)
  obtain ⟨x, hx⟩ : ∃ x, l[j]? = some x := ⟨_, List.getElem?_eq_getElem hj⟩
  obtain ⟨y, hy⟩ : ∃ y, m[j]? = some y := ⟨_, List.getElem?_eq_getElem (hlen ▸ hj)⟩
  have hu := hm j hj
  have hw := hm2 j (by omega)
  have hur := hr j x hx
  have hwr := hr2 j y hy
  have hcall := hfv j x y hx hy
  generalize us j = uj at *
  generalize ws j = wj at *
  obtain ⟨e1, c1, rfl⟩ := lt_open hur
  obtain ⟨e2, c2, rfl⟩ := lt_open hwr
  refine GOH ?_
  refine st_loadA (by rfl) (fun z hz => List.mem_append_left _ (hu z hz)) rfl ?_
  refine GOH ?_
  refine st_alloc (fun q => ?_)
  refine GOH ?_
  refine st_loadA (by rfl) (fun z hz => by simp only [List.flatten_cons, List.mem_append]; exact .inr (.inl (hw z hz))) rfl ?_
  refine GOH ?_
  refine st_alloc (fun q2 => ?_)
  refine GOH ?_
  refine st_callV (by rfl) hcall (by rfl) (by exact SPx) (fun v Post hv => ?_)
  obtain ⟨rfl, rfl⟩ := hv
  simp only [CNx]
  cases hxy : litEq x y with
  | true =>
    refine GOH ?_
    refine ⟨j + 1, ⟨by omega, fun i u v hi e1 e2 => ?_⟩, by omega, by exact SUx, by exact IMx⟩
    by_cases hij : i = j
    · subst hij
      rw [hx] at e1; rw [hy] at e2
      cases e1; cases e2; exact hxy
    · exact i2 i u v (by omega) e1 e2
  | false =>
    refine GOH ?_
    exact endQ_mk (Post := [A]) (.inr rfl) (.tmp (by rfl) .nil) ⟨by rw [litsEq_false hx hy hxy]; rfl, rfl⟩ (by exact IMx)
theorem equalNodes_spec (A : List Atom) (l m : List Nd) (a b : Option Addr) (c cb bk o bk2 o2 : Nat) (us ws : Nat → List Value) (hla : l.length ≤ 140737488355328) (ha : 0 < l.length → a = some ⟨bk, o, none⟩) (hb : 0 < m.length → b = some ⟨bk2, o2, none⟩)
    (hm : ∀ i, i < l.length → ∀ y ∈ cellsAt bk (o + i * 11) (us i), y ∈ A) (hm2 : ∀ i, i < m.length → ∀ y ∈ cellsAt bk2 (o2 + i * 11) (ws i), y ∈ A) (hr : ∀ i x, l[i]? = some x → NdRd A x (us i)) (hr2 : ∀ i x, m[i]? = some x → NdRd A x (ws i))
    (fv : Value) (hfv : ∀ i x y, l[i]? = some x → m[i]? = some y → FunV Tryz.prog fv [.agg (us i).toArray, .agg (ws i).toArray] [A] (fun v Post => v = .bool (ndEq x y) ∧ Post = [A])) :
    Fun Tryz.prog 52 [.slice a l.length c, .slice b m.length cb, fv] [A] (fun v Post => v = .bool (ndsEq l m) ∧ Post = [A]) := by
  refine Fun.intro low52 (by simp [n52]) ?_
  refine GOH ?_
  by_cases hlen : l.length = m.length
  rotate_left
  · rw [show decide ((l.length : Int) = (m.length : Int)) = false from decide_eq_false (by omega)]
    refine GOH ?_
    exact endQ_mk (Post := [A]) (.inr rfl) (.tmp (by rfl) .nil) ⟨by rw [ndsEq_len hlen]; rfl, rfl⟩ (by exact IMx)
  rw [show decide ((l.length : Int) = (m.length : Int)) = true from decide_eq_true (by omega)]
  refine GOH ?_
  refine VC.loop (α := Nat) (Γf := fun j => [(1, .slice b m.length cb), (2, fv), (15, .slice a l.length c), (16, vi l.length), (17, vi j)]) (Hf := fun _ => [A])
    (I := fun j => j ≤ l.length ∧ ∀ i x y, i < j → l[i]? = some x → m[i]? = some y → ndEq x y = true) (μ := fun j => l.length - j) 0 ⟨Nat.zero_le _, fun i x y h => absurd h (by omega)⟩ (by exact SUx) (by exact IMx) ?_
  rintro j ⟨i1, i2⟩
  refine GOH ?_
  by_cases hj : j < l.length
  rotate_left
  · rw [show decide ((j : Int) < (l.length : Int)) = false from decide_eq_false (by omega)]
    have htt : ndsEq l m = true := (ndsEq_iff l m).2 ⟨hlen, fun i x y e1 e2 => i2 i x y (by have := (List.getElem?_eq_some_iff.1 e1).1; omega) e1 e2⟩
    refine GOH ?_
    exact endQ_mk (Post := [A]) (.inr rfl) (.tmp (by rfl) .nil) ⟨by rw [htt]; rfl, rfl⟩ (by exact IMx)
  rw [show decide ((j : Int) < (l.length : Int)) = true from decide_eq_true (by omega)]
  obtain rfl := ha (by omega)
  obtain rfl := hb (by omega)
  obtain ⟨x, hx⟩ : ∃ x, l[j]? = some x := ⟨_, List.getElem?_eq_getElem hj⟩
  obtain ⟨y, hy⟩ : ∃ y, m[j]? = some y := ⟨_, List.getElem?_eq_getElem (hlen ▸ hj)⟩
  have hu := hm j hj
  have hw := hm2 j (by omega)
  have hur := hr j x hx
  have hwr := hr2 j y hy
  have hcall := hfv j x y hx hy
  generalize us j = uj at *
  generalize ws j = wj at *
  obtain ⟨e1, e2, e3, e4, e5, e6, e7, e8, e9, e10, e11, e12, e13, e14, e15, e16, e17, rfl, _, _⟩ := nd_open2 hur
  obtain ⟨g1, g2, g3, g4, g5, g6, g7, g8, g9, g10, g11, g12, g13, g14, g15, g16, g17, rfl, _, _⟩ := nd_open2 hwr
  refine GOH ?_
  refine st_loadA (by rfl) (fun z hz => List.mem_append_left _ (hu z hz)) rfl ?_
  refine GOH ?_
  refine st_alloc (fun q => ?_)
  refine GOH ?_
  refine st_loadA (by rfl) (fun z hz => by simp only [List.flatten_cons, List.mem_append]; exact .inr (.inl (hw z hz))) rfl ?_
  refine GOH ?_
  refine st_alloc (fun q2 => ?_)
  refine GOH ?_
  refine st_callV (by rfl) hcall (by rfl) (by exact SPx) (fun v Post hv => ?_)
  obtain ⟨rfl, rfl⟩ := hv
  simp only [CNx]
  cases hxy : ndEq x y with
  | true =>
    refine GOH ?_
    refine ⟨j + 1, ⟨by omega, fun i u v hi e1 e2 => ?_⟩, by omega, by exact SUx, by exact IMx⟩
    by_cases hij : i = j
    · subst hij
      rw [hx] at e1; rw [hy] at e2
      cases e1; cases e2; exact hxy
    · exact i2 i u v (by omega) e1 e2
  | false =>
    refine GOH ?_
    exact endQ_mk (Post := [A]) (.inr rfl) (.tmp (by rfl) .nil) ⟨by rw [ndsEq_false hx hy hxy]; rfl, rfl⟩ (by exact IMx)
theorem literals_spec (A : List Atom) : ∀ (N : Nat) (x y : Lt), x.size ≤ N → ∀ vs ws, LtRd A x vs → LtRd A y ws → Fun Tryz.prog 76 [.agg vs.toArray, .agg ws.toArray] [A] (fun v Post => v = .bool (litEq x y) ∧ Post = [A]) := by
  intro N
  induction N with
  | zero => intro x y hx; have := x.size_pos; omega
  | succ N ih =>
    intro x y hx vs ws h h2
    cases h with
    | @mk k n b t items a c bk o us wf ha hm hr =>
    cases h2 with
    | @mk k' n' b' t' items' a' c' bk' o' us' wf' ha' hm' hr' =>
    have hkids := equalLits_spec A items items' a a' c c' bk o bk' o' us us' wf.many ha ha' hm hm' hr hr' (.func (.func 76) #[] #[]) (fun i x y e1 e2 => by
      have h1 := Lt.sizes_mem (List.mem_of_getElem? e1)
      simp only [Lt.size] at hx
      exact FunV.of_fun (first := #[]) (cap := #[]) (ih x y (by omega) _ _ (hr i x e1) (hr' i y e2)))
    refine Fun.intro low76 (by simp [n76]) ?_
    obtain ⟨E, hE⟩ : ∃ E, E = litEq (.mk k n b t items) (.mk k' n' b' t' items') := ⟨_, rfl⟩
    rw [← hE]
    simp only [litEq] at hE
    refine GOH ?_
    refine st_box (by rfl) (fun q => ?_)
    refine st_box (by rfl) (fun q2 => ?_)
    simp only [Value.cells]
    refine GOH ?_
    by_cases h1 : k = k'
    rotate_left
    · have hno : E = false := by simp [hE, h1]
      rw [show decide ((k : Int) = (k' : Int)) = false from decide_eq_false (by omega)]
      refine GOH ?_
      exact endQ_mk (Post := [A]) (.inr rfl) (.tmp (by rfl) .nil) ⟨by rw [hno]; rfl, rfl⟩ (by exact IMx)
    rw [show decide ((k : Int) = (k' : Int)) = true from decide_eq_true (by omega)]
    refine GOH ?_
    by_cases h2 : n = n'
    rotate_left
    · have hno : E = false := by simp [hE, h2]
      rw [decide_eq_false h2]
      refine GOH ?_
      exact endQ_mk (Post := [A]) (.inr rfl) (.tmp (by rfl) .nil) ⟨by rw [hno]; rfl, rfl⟩ (by exact IMx)
    rw [decide_eq_true h2]
    refine GOH ?_
    by_cases h3 : b = b'
    rotate_left
    · have hno : E = false := by simp [hE, h3]
      rw [show decide ((b : Int) = (b' : Int)) = false from decide_eq_false (by omega)]
      refine GOH ?_
      exact endQ_mk (Post := [A]) (.inr rfl) (.tmp (by rfl) .nil) ⟨by rw [hno]; rfl, rfl⟩ (by exact IMx)
    rw [show decide ((b : Int) = (b' : Int)) = true from decide_eq_true (by omega)]
    refine GOH ?_
    by_cases h4 : t = t'
    rotate_left
    · have hno : E = false := by simp [hE, h4]
      rw [decide_eq_false h4]
      refine GOH ?_
      exact endQ_mk (Post := [A]) (.inr rfl) (.tmp (by rfl) .nil) ⟨by rw [hno]; rfl, rfl⟩ (by exact IMx)
    rw [decide_eq_true h4]
    refine GOH ?_
    refine st_call hkids (by rfl) (by exact SPx) (fun v Post hv => ?_)
    obtain ⟨rfl, rfl⟩ := hv
    simp only [CNx]
    have hyes : E = litsEq items items' := by simp [hE, h1, h2, h3, h4]
    refine GOH ?_
    exact endQ_mk (Post := [A]) (.inr rfl) (.tmp (by rfl) .nil) ⟨by rw [hyes]; rfl, rfl⟩ (by exact IMx)
theorem sameNode_spec (A : List Atom) : ∀ (N : Nat) (x y : Nd), x.w ≤ N → ∀ vs ws, NdRd A x vs → NdRd A y ws → Fun Tryz.prog 28 [.agg vs.toArray, .agg ws.toArray] [A] (fun v Post => v = .bool (ndEq x y) ∧ Post = [A]) := by
  intro N
  induction N with
  | zero => intro x y hx; have := x.w_pos; omega
  | succ N ih =>
    intro x y hx vs ws h h2
    cases h with
    | @mk k s lit args temps kids p lv av tv a c bk o us wf hl hav htv ha hm hr hcp =>
    cases h2 with
    | @mk k' s' lit' args' temps' kids' p' lv' av' tv' a' c' bk' o' us' wf' hl' hav' htv' ha' hm' hr' hcp' =>
    have hkids := equalNodes_spec A kids kids' a a' c c' bk o bk' o' us us' wf.many ha ha' hm hm' hr hr' (.func (.func 28) #[] #[]) (fun i x y e1 e2 => by
      have h1 := Nd.ws_mem (List.mem_of_getElem? e1)
      simp only [Nd.w] at hx
      exact FunV.of_fun (first := #[]) (cap := #[]) (ih x y (by omega) _ _ (hr i x e1) (hr' i y e2)))
    have hlits := literals_spec A _ lit lit' (Nat.le_refl _) _ _ hl hl'
    have hargs := equalTexts_spec A _ _ args args' hav hav'
    have htemps := equalTexts_spec A _ _ temps temps' htv htv'
    obtain ⟨aa, ac, rfl, _, _⟩ := hav
    obtain ⟨ta, tc, rfl, _, _⟩ := htv
    obtain ⟨aa', ac', rfl, _, _⟩ := hav'
    obtain ⟨ta', tc', rfl, _, _⟩ := htv'
    obtain ⟨la, lc, rfl⟩ := lt_open hl
    obtain ⟨la', lc', rfl⟩ := lt_open hl'
    refine Fun.intro low28 (by simp [n28]) ?_
    obtain ⟨E, hE⟩ : ∃ E, E = ndEq (.mk k s lit args temps kids p) (.mk k' s' lit' args' temps' kids' p') := ⟨_, rfl⟩
    rw [← hE]
    simp only [ndEq] at hE
    simp only [CNx] at *
    refine GOH ?_
    refine st_box (by rfl) (fun q => ?_)
    refine st_box (by rfl) (fun q2 => ?_)
    simp only [Value.cells]
    refine GOH ?_
    by_cases h1 : k = k'
    rotate_left
    · have hno : E = false := by simp [hE, h1]
      rw [show decide ((k : Int) = (k' : Int)) = false from decide_eq_false (by omega)]
      refine GOH ?_
      exact endQ_mk (Post := [A]) (.inr rfl) (.tmp (by rfl) .nil) ⟨by rw [hno]; rfl, rfl⟩ (by exact IMx)
    rw [show decide ((k : Int) = (k' : Int)) = true from decide_eq_true (by omega)]
    refine GOH ?_
    by_cases h2 : s = s'
    rotate_left
    · have hno : E = false := by simp [hE, h2]
      rw [decide_eq_false h2]
      refine GOH ?_
      exact endQ_mk (Post := [A]) (.inr rfl) (.tmp (by rfl) .nil) ⟨by rw [hno]; rfl, rfl⟩ (by exact IMx)
    rw [decide_eq_true h2]
    refine GOH ?_
    refine st_call hargs (by rfl) (by exact SPx) (fun v Post hv => ?_)
    obtain ⟨rfl, rfl⟩ := hv
    simp only [CNx]
    by_cases h3 : args = args'
    rotate_left
    · have hno : E = false := by simp [hE, h3]
      rw [decide_eq_false h3]
      refine GOH ?_
      exact endQ_mk (Post := [A]) (.inr rfl) (.tmp (by rfl) .nil) ⟨by rw [hno]; rfl, rfl⟩ (by exact IMx)
    rw [decide_eq_true h3]
    refine GOH ?_
    refine st_call htemps (by rfl) (by exact SPx) (fun v Post hv => ?_)
    obtain ⟨rfl, rfl⟩ := hv
    simp only [CNx]
    by_cases h4 : temps = temps'
    rotate_left
    · have hno : E = false := by simp [hE, h4]
      rw [decide_eq_false h4]
      refine GOH ?_
      exact endQ_mk (Post := [A]) (.inr rfl) (.tmp (by rfl) .nil) ⟨by rw [hno]; rfl, rfl⟩ (by exact IMx)
    rw [decide_eq_true h4]
    refine GOH ?_
    refine st_call hlits (by rfl) (by exact SPx) (fun v Post hv => ?_)
    obtain ⟨rfl, rfl⟩ := hv
    simp only [CNx]
    cases h5 : litEq lit lit' with
    | false =>
      have hno : E = false := by simp [hE, h5]
      refine GOH ?_
      exact endQ_mk (Post := [A]) (.inr rfl) (.tmp (by rfl) .nil) ⟨by rw [hno]; rfl, rfl⟩ (by exact IMx)
    | true =>
      refine GOH ?_
      refine st_call hkids (by rfl) (by exact SPx) (fun v Post hv => ?_)
      obtain ⟨rfl, rfl⟩ := hv
      simp only [CNx]
      have hyes : E = ndsEq kids kids' := by simp [hE, h1, h2, h3, h4, h5]
      refine GOH ?_
      exact endQ_mk (Post := [A]) (.inr rfl) (.tmp (by rfl) .nil) ⟨by rw [hyes]; rfl, rfl⟩ (by exact IMx)
theorem SameNode_spec (A : List Atom) (x y : Nd) (vs ws : List Value) (h : NdRd A x vs) (h2 : NdRd A y ws) : Fun Tryz.prog 28 [.agg vs.toArray, .agg ws.toArray] [A] (fun v Post => v = .bool (ndEq x y) ∧ Post = [A]) :=
  sameNode_spec A _ x y (Nat.le_refl _) vs ws h h2
def mdEq (x y : Md) : Bool := decide (x.sel = y.sel) && decide (x.prim = y.prim) && decide (x.args = y.args) && decide (x.temps = y.temps) && ndsEq x.body y.body
theorem Same_spec (A : List Atom) (x y : Md) (vs ws : List Value) (h : MdRd A x vs) (h2 : MdRd A y ws) : Fun Tryz.prog 14 [.agg vs.toArray, .agg ws.toArray] [A] (fun v Post => v = .bool (mdEq x y) ∧ Post = [A]) := by
  obtain ⟨⟨aa, ac, ta, tc, a, c, bk, o, us, rfl, hav, htv, hk⟩, hsel, hprim⟩ := h
  obtain ⟨⟨aa', ac', ta', tc', a', c', bk', o', us', rfl, hav', htv', hk'⟩, hsel', hprim'⟩ := h2
  have hkids := equalNodes_spec A x.body y.body a a' c c' bk o bk' o' us us' hk.many hk.at_ hk'.at_ hk.mem hk'.mem hk.rd hk'.rd (.func (.func 28) #[] #[]) (fun i x y e1 e2 =>
    FunV.of_fun (first := #[]) (cap := #[]) (SameNode_spec A x y _ _ (hk.rd i x e1) (hk'.rd i y e2)))
  have hargs := equalTexts_spec A _ _ x.args y.args hav hav'
  have htemps := equalTexts_spec A _ _ x.temps y.temps htv htv'
  obtain ⟨s, args, temps, p, kids⟩ := x
  obtain ⟨s', args', temps', p', kids'⟩ := y
  simp only at *
  refine Fun.intro low14 (by simp [n14]) ?_
  obtain ⟨E, hE⟩ : ∃ E, E = mdEq ⟨s, args, temps, p, kids⟩ ⟨s', args', temps', p', kids'⟩ := ⟨_, rfl⟩
  rw [← hE]
  simp only [mdEq] at hE
  refine GOH ?_
  refine st_box (by rfl) (fun q => ?_)
  refine st_box (by rfl) (fun q2 => ?_)
  simp only [Value.cells]
  refine GOH ?_
  by_cases h1 : s = s'
  rotate_left
  · have hno : E = false := by simp [hE, h1]
    rw [decide_eq_false h1]
    refine GOH ?_
    exact endQ_mk (Post := [A]) (.inr rfl) (.tmp (by rfl) .nil) ⟨by rw [hno]; rfl, rfl⟩ (by exact IMx)
  rw [decide_eq_true h1]
  refine GOH ?_
  by_cases h2 : p = p'
  rotate_left
  · have hno : E = false := by simp [hE, h2]
    rw [decide_eq_false h2]
    refine GOH ?_
    exact endQ_mk (Post := [A]) (.inr rfl) (.tmp (by rfl) .nil) ⟨by rw [hno]; rfl, rfl⟩ (by exact IMx)
  rw [decide_eq_true h2]
  refine GOH ?_
  refine st_call hargs (by rfl) (by exact SPx) (fun v Post hv => ?_)
  obtain ⟨rfl, rfl⟩ := hv
  simp only [CNx]
  by_cases h3 : args = args'
  rotate_left
  · have hno : E = false := by simp [hE, h3]
    rw [decide_eq_false h3]
    refine GOH ?_
    exact endQ_mk (Post := [A]) (.inr rfl) (.tmp (by rfl) .nil) ⟨by rw [hno]; rfl, rfl⟩ (by exact IMx)
  rw [decide_eq_true h3]
  refine GOH ?_
  refine st_call htemps (by rfl) (by exact SPx) (fun v Post hv => ?_)
  obtain ⟨rfl, rfl⟩ := hv
  simp only [CNx]
  by_cases h4 : temps = temps'
  rotate_left
  · have hno : E = false := by simp [hE, h4]
    rw [decide_eq_false h4]
    refine GOH ?_
    exact endQ_mk (Post := [A]) (.inr rfl) (.tmp (by rfl) .nil) ⟨by rw [hno]; rfl, rfl⟩ (by exact IMx)
  rw [decide_eq_true h4]
  refine GOH ?_
  refine st_call hkids (by rfl) (by exact SPx) (fun v Post hv => ?_)
  obtain ⟨rfl, rfl⟩ := hv
  simp only [CNx]
  have hyes : E = ndsEq kids kids' := by simp [hE, h1, h2, h3, h4]
  refine GOH ?_
  exact endQ_mk (Post := [A]) (.inr rfl) (.tmp (by rfl) .nil) ⟨by rw [hyes]; rfl, rfl⟩ (by exact IMx)
def StS (A : List Atom) (p3 p4 mb : Nat) (ns : List ByteArray) (B : List Atom) : Prop := ∃ sv sp es c m, IsSl 1 sv (firsts ns).length ((firsts ns).map Value.string) sp ∧ MapIs kStr vi es c m ∧ (∀ s, (mget s m).getD 0 = (cntS ns s : Int)) ∧
  B = [cellsAt p3 0 [sv], cellsAt p4 0 [.map (some mb)], [.obj mb (.map es c)], slA sv ((firsts ns).map Value.string) sp, A].flatten
theorem StS.acc {A : List Atom} {p3 p4 mb : Nat} {ns : List ByteArray} {B : List Atom} (h : StS A p3 p4 mb ns B) : AccT A B := by
  obtain ⟨sv, sp, es, c, m, h1, h2, h3, rfl⟩ := h
  refine ⟨[cellsAt p3 0 [sv], cellsAt p4 0 [.map (some mb)], [.obj mb (.map es c)], slA sv ((firsts ns).map Value.string) sp].flatten, ?_⟩
  simp only [List.flatten_cons, List.flatten_nil, List.append_nil]
  rw [← List.append_assoc, ← List.append_assoc, ← List.append_assoc]
  refine List.Perm.trans List.perm_append_comm ?_
  simp only [List.append_assoc]
  exact .refl _
def sendsM (x : Md) : List ByteArray := firsts (sendsOf (allsN x.body))
theorem Sends_spec (A : List Atom) (x : Md) (vs : List Value) (h : MdRd A x vs) (hw : Nd.ws x.body ≤ 274877906944) :
    Fun Tryz.prog 35 [.agg vs.toArray] [A] (fun v Post => ∃ sp, IsSl 1 v (sendsM x).length ((sendsM x).map .string) sp ∧ Post = [A, slA v ((sendsM x).map .string) sp]) := by
  obtain ⟨⟨aa, ac, ta, tc, a, c, bk, o, us, rfl, hav, htv, hk⟩, hsel, hprim⟩ := h
  have hmany := hk.many
  have hlen : (sendsOf (allsN x.body)).length ≤ 274877906944 := by
    have h1 := sendsOf_le (allsN x.body)
    have h2 : ∀ l : List Nd, (allsN l).length ≤ Nd.ws l := by
      intro l
      induction l with
      | nil => exact Nat.zero_le _
      | cons y r ih =>
        have := allN_len _ y (Nat.le_refl _)
        simp only [allsN, List.length_append, Nd.ws]; omega
    have := h2 x.body
    omega
  refine Fun.intro low35 (by simp [n35]) ?_
  refine GOH ?_
  refine st_box (by rfl) (fun q => ?_)
  simp only [Value.cells]
  refine GOH ?_
  refine st_alloc (fun p3 => ?_)
  refine GOH ?_
  refine st_mkmap (fun mb => ?_)
  refine st_alloc (fun p4 => ?_)
  refine GOH ?_
  refine VC.loop (α := Nat × List Atom) (Γf := fun s => [(3, ptr0 p3), (4, ptr0 p4), (10, .slice a x.body.length c), (11, vi x.body.length), (12, vi s.1)]) (Hf := fun s => [s.2])
    (I := fun s => s.1 ≤ x.body.length ∧ StS A p3 p4 mb (sendsOf (allsN (x.body.take s.1))) s.2) (μ := fun s => x.body.length - s.1) (0, [cellsAt p3 0 [.slice none 0 0], cellsAt p4 0 [.map (some mb)], [Atom.obj mb (.map #[] 0)], [], A].flatten) ⟨Nat.zero_le _, ⟨.slice none 0 0, [], #[], 0, [], .nil, .nil, fun s => rfl, rfl⟩⟩ (by exact SUx) ?_ ?_
  · refine Imp.cut (M := [cellsAt p3 0 [.slice none 0 0], cellsAt p4 0 [.map (some mb)], [.obj mb (.map #[] 0)], A]) (by exact IMx) (Imp.perm (by simp [slA]))
  rintro ⟨j, B⟩ ⟨i1, i2⟩
  simp only at i1 i2
  dsimp only
  refine GOH ?_
  by_cases hj : j < x.body.length
  rotate_left
  · rw [show decide ((j : Int) < (x.body.length : Int)) = false from decide_eq_false (by omega)]
    rw [List.take_of_length_le (by omega)] at i2
    obtain ⟨sv, sp, es, cc, m, h1, h2, h3, rfl⟩ := i2
    refine VC.imp (H' := [cellsAt p3 0 [sv], A, slA sv ((sendsM x).map Value.string) sp]) (Imp.cut (M := [cellsAt p3 0 [sv], cellsAt p4 0 [.map (some mb)], [.obj mb (.map es cc)], slA sv ((sendsM x).map Value.string) sp, A]) (Imp.perm (by simp [sendsM])) (by exact IMx)) ?_
    refine GOH ?_
    exact endQ_mk (Post := [A, slA sv ((sendsM x).map Value.string) sp]) (.inr rfl) (.tmp (by rfl) .nil) ⟨sp, h1, rfl⟩ (by exact IMx)
  obtain rfl := hk.at_ (by omega)
  rw [show decide ((j : Int) < (x.body.length : Int)) = true from decide_eq_true (by omega)]
  obtain ⟨y, hy⟩ : ∃ y, x.body[j]? = some y := ⟨_, List.getElem?_eq_getElem hj⟩
  have hyr := hk.rd j y hy
  have hym := hk.mem j hj
  have hit := all_iter A y _ hyr
  have hall := All_spec (us j)
  have hacc := i2.acc.mem
  generalize us j = uj at *
  obtain ⟨g1, g2, g3, g4, g5, g6, g7, g8, g9, g10, g11, g12, g13, g14, g15, g16, g17, rfl, hsz, hkk⟩ := nd_open2 hyr
  have htk : x.body.take (j + 1) = x.body.take j ++ [y] := by rw [List.take_add_one, hy]; rfl
  have hsum : allsN (x.body.take (j + 1)) = allsN (x.body.take j) ++ allN y := by rw [htk, allsN_append]; simp [allsN]
  have hpart : (sendsOf (allsN (x.body.take (j + 1)))).length ≤ 274877906944 := by
    have e : allsN x.body = allsN (x.body.take (j + 1)) ++ allsN (x.body.drop (j + 1)) := by rw [← allsN_append, List.take_append_drop]
    rw [e, sendsOf_append, List.length_append] at hlen
    omega
  refine GOH ?_
  refine st_loadA (by rfl) (fun z hz => List.mem_append_left _ (hacc _ (hym z hz))) rfl ?_
  refine GOH ?_
  refine st_alloc (fun p6 => ?_)
  refine GOH ?_
  refine st_call hall (by rfl) (by exact SPx) (fun v Post hv => ?_)
  obtain ⟨q2, rfl, rfl⟩ := hv
  simp only [CNx]
  refine GOH ?_
  refine VC.rangefA (fun c B => StS A p3 p4 mb (sendsOf (allsN (x.body.take j)) ++ sendsOf (c.map Prod.fst)) B) B (by rfl) (hit q2) (fun A B h => h.more) (fun c B h => h.acc) (R := [cellsAt p6 0 _, B]) (by exact SPx) (by exact IMx) ?_ (fun _ => rfl) ?_ ?_
  · rw [show sendsOf (([] : List NV).map Prod.fst) = [] from rfl, List.append_nil]; exact i2
  · rintro c ⟨u, us2⟩ B2 hok ⟨sv, sp, es, cc, m, h1, h2, h3, rfl⟩
    obtain ⟨t, ht⟩ := hok
    have hur : NdRd A u us2 := ht.2 (u, us2) (by simp)
    have hcn : (sendsOf (allsN (x.body.take j)) ++ sendsOf ((c ++ [(u, us2)]).map Prod.fst)).length ≤ 274877906944 := by
      have e := ht.1
      rw [List.map_append] at e
      rw [hsum, ← e, sendsOf_append, sendsOf_append, List.length_append, List.length_append] at hpart
      rw [List.length_append]
      omega
    rw [List.map_append, sendsOf_append] at hcn ⊢
    rw [show [(u, us2)].map Prod.fst = [u] from rfl, sendsOf_one] at hcn ⊢
    rw [← List.append_assoc] at hcn ⊢
    generalize sendsOf (allsN (x.body.take j)) ++ sendsOf (c.map Prod.fst) = ns at *
    have hfl := firsts_le ns
    simp only [encN, bindE]
    obtain ⟨e1, e2, e3, e4, e5, e6, e7, e8, e9, e10, e11, e12, e13, e14, e15, e16, e17, rfl, hus, huk⟩ := nd_open2 hur
    refine VC.imp (H' := [cellsAt p3 0 [sv], cellsAt p4 0 [.map (some mb)], [.obj mb (.map es cc)], slA sv ((firsts ns).map Value.string) sp, A]) (Imp.perm (by simp)) ?_
    obtain ⟨sa, sc, rfl⟩ := h1.form
    refine GOH ?_
    refine st_alloc (fun p7 => ?_)
    refine GOH ?_
    refine ⟨trivial, ?_⟩
    refine GOH ?_
    by_cases k4 : u.kind = 4
    · rw [show decide ((u.kind : Int) = 4) = true from decide_eq_true (by omega)]
      have hkind : u.kind = 4 ∨ u.kind = 6 := .inl k4
      refine GOH ?_
      have hcle := cntS_le ns u.name
      have hsn : sendsN u = true := by simp [sendsN, hkind]
      rw [hsn, if_pos rfl] at hcn ⊢
      rw [List.length_append, List.length_singleton] at hcn
      refine st_lookup (E := kStr) (V := vi) (k := u.name) (by rfl) (by rfl) rfl (by (focus ((repeat (first | with_reducible exact HasO.here | apply HasO.there)); done))) h2 ?_
      rw [look_get, h3]
      refine GOH ?_
      refine st_mapupd (E := kStr) (V := vi) (k := u.name) (v := (cntS ns u.name : Int) + 1) (by rfl) (by rfl) (by rfl) rfl (by exact TKx) h2 (fun es' c' hm' => ?_)
      have hcount : ∀ s, (mget s (mset u.name ((cntS ns u.name : Int) + 1) m)).getD 0 = (cntS (ns ++ [u.name]) s : Int) := fun s => by
        rw [mget_mset, cntS_snoc]
        by_cases he : u.name = s
        · rw [if_pos he, if_pos he, Option.getD_some, he]; omega
        · rw [if_neg he, if_neg he, h3]; omega
      refine GOH ?_
      refine st_lookup (E := kStr) (V := vi) (k := u.name) (by rfl) (by rfl) rfl (by (focus ((repeat (first | with_reducible exact HasO.here | apply HasO.there)); done))) hm' ?_
      rw [look_get, mget_mset, if_pos rfl, Option.getD_some]
      refine GOH ?_
      by_cases h0 : cntS ns u.name = 0
      · rw [show decide ((cntS ns u.name : Int) + 1 = 1) = true from decide_eq_true (by omega)]
        have hf : firsts (ns ++ [u.name]) = firsts ns ++ [u.name] := by rw [firsts_snoc, firsts_cnt, if_neg (by simp [h0])]
        refine GOH ?_
        refine st_bslice (out := [.string u.name]) (by rfl) (by rfl) (fun r => ?_)
        refine st_append (k := (firsts ns).length) (m := 1) (xs := (firsts ns).map Value.string) (sp := sp) (ys := [.string u.name]) (by rfl) (by rfl) h1 (by exact TKx) (by rfl) ?_ rfl (by rfl) (by rfl) (by decide) (by omega) (fun sv' sp' hsl' => ?_)
        · exact ⟨rfl, fun a ha => by simp only [List.flatten_cons, List.mem_append]; exact .inl ha⟩
        have hsl2 : IsSl 1 sv' (firsts (ns ++ [u.name])).length ((firsts (ns ++ [u.name])).map Value.string) sp' := by rw [hf]; simpa using hsl'
        obtain ⟨a', c', rfl⟩ := hsl'.form
        refine GOH ?_
        refine ⟨[cellsAt p3 0 [.slice a' ((firsts ns).length + 1) c'], cellsAt p4 0 [.map (some mb)], [Atom.obj mb (.map es' _)], slA (.slice a' ((firsts ns).length + 1) c') ((firsts (ns ++ [u.name])).map Value.string) sp', A].flatten, ⟨_, sp', es', _, _, hsl2, hm', hcount, rfl⟩, ?_⟩
        rw [hf, List.map_append]
        refine Imp.cut (M := [cellsAt p3 0 [.slice a' ((firsts ns).length + 1) c'], cellsAt p4 0 [.map (some mb)], [Atom.obj mb (.map es' _)], slA (.slice a' ((firsts ns).length + 1) c') ((firsts ns).map Value.string ++ [.string u.name]) sp', A]) (by exact IMx) (Imp.perm (by simp))
      · rw [show decide ((cntS ns u.name : Int) + 1 = 1) = false from decide_eq_false (by omega)]
        have hf : firsts (ns ++ [u.name]) = firsts ns := by rw [firsts_snoc, firsts_cnt, if_pos (by simp [h0])]
        refine GOH ?_
        refine ⟨[cellsAt p3 0 [.slice sa (firsts ns).length sc], cellsAt p4 0 [.map (some mb)], [Atom.obj mb (.map es' _)], slA (.slice sa (firsts ns).length sc) ((firsts ns).map Value.string) sp, A].flatten, ⟨_, sp, es', _, _, by rw [hf]; exact h1, hm', hcount, by rw [hf]⟩, ?_⟩
        refine Imp.cut (M := [cellsAt p3 0 [.slice sa (firsts ns).length sc], cellsAt p4 0 [.map (some mb)], [Atom.obj mb (.map es' _)], slA (.slice sa (firsts ns).length sc) ((firsts ns).map Value.string) sp, A]) (by exact IMx) (Imp.perm (by simp))
    rw [show decide ((u.kind : Int) = 4) = false from decide_eq_false (by omega)]
    refine GOH ?_
    by_cases k6 : u.kind = 6
    · rw [show decide ((u.kind : Int) = 6) = true from decide_eq_true (by omega)]
      have hkind : u.kind = 4 ∨ u.kind = 6 := .inr k6
      refine GOH ?_
      have hcle := cntS_le ns u.name
      have hsn : sendsN u = true := by simp [sendsN, hkind]
      rw [hsn, if_pos rfl] at hcn ⊢
      rw [List.length_append, List.length_singleton] at hcn
      refine st_lookup (E := kStr) (V := vi) (k := u.name) (by rfl) (by rfl) rfl (by (focus ((repeat (first | with_reducible exact HasO.here | apply HasO.there)); done))) h2 ?_
      rw [look_get, h3]
      refine GOH ?_
      refine st_mapupd (E := kStr) (V := vi) (k := u.name) (v := (cntS ns u.name : Int) + 1) (by rfl) (by rfl) (by rfl) rfl (by exact TKx) h2 (fun es' c' hm' => ?_)
      have hcount : ∀ s, (mget s (mset u.name ((cntS ns u.name : Int) + 1) m)).getD 0 = (cntS (ns ++ [u.name]) s : Int) := fun s => by
        rw [mget_mset, cntS_snoc]
        by_cases he : u.name = s
        · rw [if_pos he, if_pos he, Option.getD_some, he]; omega
        · rw [if_neg he, if_neg he, h3]; omega
      refine GOH ?_
      refine st_lookup (E := kStr) (V := vi) (k := u.name) (by rfl) (by rfl) rfl (by (focus ((repeat (first | with_reducible exact HasO.here | apply HasO.there)); done))) hm' ?_
      rw [look_get, mget_mset, if_pos rfl, Option.getD_some]
      refine GOH ?_
      by_cases h0 : cntS ns u.name = 0
      · rw [show decide ((cntS ns u.name : Int) + 1 = 1) = true from decide_eq_true (by omega)]
        have hf : firsts (ns ++ [u.name]) = firsts ns ++ [u.name] := by rw [firsts_snoc, firsts_cnt, if_neg (by simp [h0])]
        refine GOH ?_
        refine st_bslice (out := [.string u.name]) (by rfl) (by rfl) (fun r => ?_)
        refine st_append (k := (firsts ns).length) (m := 1) (xs := (firsts ns).map Value.string) (sp := sp) (ys := [.string u.name]) (by rfl) (by rfl) h1 (by exact TKx) (by rfl) ?_ rfl (by rfl) (by rfl) (by decide) (by omega) (fun sv' sp' hsl' => ?_)
        · exact ⟨rfl, fun a ha => by simp only [List.flatten_cons, List.mem_append]; exact .inl ha⟩
        have hsl2 : IsSl 1 sv' (firsts (ns ++ [u.name])).length ((firsts (ns ++ [u.name])).map Value.string) sp' := by rw [hf]; simpa using hsl'
        obtain ⟨a', c', rfl⟩ := hsl'.form
        refine GOH ?_
        refine ⟨[cellsAt p3 0 [.slice a' ((firsts ns).length + 1) c'], cellsAt p4 0 [.map (some mb)], [Atom.obj mb (.map es' _)], slA (.slice a' ((firsts ns).length + 1) c') ((firsts (ns ++ [u.name])).map Value.string) sp', A].flatten, ⟨_, sp', es', _, _, hsl2, hm', hcount, rfl⟩, ?_⟩
        rw [hf, List.map_append]
        refine Imp.cut (M := [cellsAt p3 0 [.slice a' ((firsts ns).length + 1) c'], cellsAt p4 0 [.map (some mb)], [Atom.obj mb (.map es' _)], slA (.slice a' ((firsts ns).length + 1) c') ((firsts ns).map Value.string ++ [.string u.name]) sp', A]) (by exact IMx) (Imp.perm (by simp))
      · rw [show decide ((cntS ns u.name : Int) + 1 = 1) = false from decide_eq_false (by omega)]
        have hf : firsts (ns ++ [u.name]) = firsts ns := by rw [firsts_snoc, firsts_cnt, if_pos (by simp [h0])]
        refine GOH ?_
        refine ⟨[cellsAt p3 0 [.slice sa (firsts ns).length sc], cellsAt p4 0 [.map (some mb)], [Atom.obj mb (.map es' _)], slA (.slice sa (firsts ns).length sc) ((firsts ns).map Value.string) sp, A].flatten, ⟨_, sp, es', _, _, by rw [hf]; exact h1, hm', hcount, by rw [hf]⟩, ?_⟩
        refine Imp.cut (M := [cellsAt p3 0 [.slice sa (firsts ns).length sc], cellsAt p4 0 [.map (some mb)], [Atom.obj mb (.map es' _)], slA (.slice sa (firsts ns).length sc) ((firsts ns).map Value.string) sp, A]) (by exact IMx) (Imp.perm (by simp))
    rw [show decide ((u.kind : Int) = 6) = false from decide_eq_false (by omega)]
    have hsn : sendsN u = false := by simp [sendsN, k4, k6]
    rw [hsn]
    simp only [Bool.false_eq_true, if_false, List.append_nil]
    refine GOH ?_
    refine ⟨[cellsAt p3 0 [.slice sa (firsts ns).length sc], cellsAt p4 0 [.map (some mb)], [Atom.obj mb (.map es cc)], slA (.slice sa (firsts ns).length sc) ((firsts ns).map Value.string) sp, A].flatten, ⟨_, sp, es, _, _, h1, h2, h3, rfl⟩, ?_⟩
    refine Imp.cut (M := [cellsAt p3 0 [.slice sa (firsts ns).length sc], cellsAt p4 0 [.map (some mb)], [Atom.obj mb (.map es cc)], slA (.slice sa (firsts ns).length sc) ((firsts ns).map Value.string) sp, A]) (by exact IMx) (Imp.perm (by simp))
  · rintro full B2 hfull hB2
    rw [hfull.1, ← sendsOf_append, ← hsum] at hB2
    refine GOH ?_
    exact ⟨(j + 1, B2), ⟨by simp only; omega, hB2⟩, by simp only; omega, by exact SUx, by exact IMx⟩
def F54 : FIR := laid (X := ⟨22, [.tmp 4],
 (qS [qo 4 (.mv (.const (Value.slice none 0 0)))] [0,1]
 (qS [qo 5 (.mv (.const (Value.slice none 0 0)))] [0,1,5]
 (.seq (qS [qm 8 0,qL 9 8,qk 10 0] [1,5,8,9,10]
 (.block 0 (.loop (qS [qb 11 .lss 10 9] [1,5,8,9,10,11]
 (.seq (qC 11 .skip
 (.exit 0))
 (.seq (.block 1 (qS [qi 12 11 8 10,qN 13 11 12,
  qo 7 (.alloc 48 [(Value.int IntKind.u8 0), (Value.string ⟨#[]⟩), (Value.int IntKind.u8 0), (Value.int IntKind.i64 0), (Value.int IntKind.u64 0), (Value.string ⟨#[]⟩), (Value.slice none 0 0), (Value.slice none 0 0), (Value.slice none 0 0), (Value.slice none 0 0), (Value.int IntKind.i64 0)]),
  qs 11 7 13] [1,5,7,8,9,10]
 (.reg [qm 14 5,qm 15 1,qN 16 11 7,qo 17 (.callv (.tmp 15) [(.tmp 16)]),
  qo 18 (.bslice 48 1 [(Value.int IntKind.u8 0), (Value.string ⟨#[]⟩), (Value.int IntKind.u8 0), (Value.int IntKind.i64 0), (Value.int IntKind.u64 0), (Value.string ⟨#[]⟩), (Value.slice none 0 0), (Value.slice none 0 0), (Value.slice none 0 0), (Value.slice none 0 0), (Value.int IntKind.i64 0)] [(0, 11, (.tmp 17))]),
  qo 19 (.append 48 11 168 [(Value.int IntKind.u8 0), (Value.string ⟨#[]⟩), (Value.int IntKind.u8 0), (Value.int IntKind.i64 0), (Value.int IntKind.u64 0), (Value.string ⟨#[]⟩), (Value.slice none 0 0), (Value.slice none 0 0), (Value.slice none 0 0), (Value.slice none 0 0), (Value.int IntKind.i64 0)] (.tmp 14) (.tmp 18)),
  qm 5 19] [1,5,8,9,10])))
 (.reg [qc 20 .add 10 1,qm 10 20] [1,5,8,9,10])))))))
 (qS [qm 21 5,qm 4 21] [4]
 .ret))))⟩)
theorem n54 : F54.n = 22 := rfl
theorem low54 : lowF Tryz.prog (kpO F54) (assoc []) 54 = some F54 := by kernel_rfl
def F134 : FIR := laid (X := ⟨22, [.tmp 4],
 (qS [qo 4 (.mv (.const (Value.slice none 0 0)))] [0,1]
 (qS [qo 5 (.mv (.const (Value.slice none 0 0)))] [0,1,5]
 (.seq (qS [qm 8 0,qL 9 8,qk 10 0] [1,5,8,9,10]
 (.block 0 (.loop (qS [qb 11 .lss 10 9] [1,5,8,9,10,11]
 (.seq (qC 11 .skip
 (.exit 0))
 (.seq (.block 1 (qS [qi 12 5 8 10,qN 13 5 12,
  qo 7 (.alloc 46 [(Value.int IntKind.u8 0), (Value.int IntKind.i64 0), (Value.int IntKind.u64 0), (Value.string ⟨#[]⟩), (Value.slice none 0 0)]),
  qs 5 7 13] [1,5,7,8,9,10]
 (.reg [qm 14 5,qm 15 1,qN 16 5 7,qo 17 (.callv (.tmp 15) [(.tmp 16)]),
  qo 18 (.bslice 46 1 [(Value.int IntKind.u8 0), (Value.int IntKind.i64 0), (Value.int IntKind.u64 0), (Value.string ⟨#[]⟩), (Value.slice none 0 0)] [(0, 5, (.tmp 17))]),
  qo 19 (.append 46 5 64 [(Value.int IntKind.u8 0), (Value.int IntKind.i64 0), (Value.int IntKind.u64 0), (Value.string ⟨#[]⟩), (Value.slice none 0 0)] (.tmp 14) (.tmp 18)),
  qm 5 19] [1,5,8,9,10])))
 (.reg [qc 20 .add 10 1,qm 10 20] [1,5,8,9,10])))))))
 (qS [qm 21 5,qm 4 21] [4]
 .ret))))⟩)
theorem n134 : F134.n = 22 := rfl
theorem low134 : lowF Tryz.prog (kpO F134) (assoc []) 134 = some F134 := by kernel_rfl
def F97 : FIR := laid (X := ⟨8, [.cellN 2 5],
 (qS [qB 1 46 0,
  qo 2 (.alloc 46 [(Value.int IntKind.u8 0), (Value.int IntKind.i64 0), (Value.int IntKind.u64 0), (Value.string ⟨#[]⟩), (Value.slice none 0 0)])] [1,2]
 (qS [qf 3 4 1,ql 4 3,qo 5 (.call 134 [(.tmp 4), (.func 97)]),qf 6 4 1,qs 1 6 5] [1,2]
 (qS [qN 7 5 1,qs 5 2 7] [2]
 .ret)))⟩)
theorem n97 : F97.n = 8 := rfl
theorem low97 : lowF Tryz.prog (kpO F97) (assoc []) 97 = some F97 := by kernel_rfl
def F55 : FIR := laid (X := ⟨20, [.cellN 2 11],
 (qS [qB 1 48 0,
  qo 2 (.alloc 48 [(Value.int IntKind.u8 0), (Value.string ⟨#[]⟩), (Value.int IntKind.u8 0), (Value.int IntKind.i64 0), (Value.int IntKind.u64 0), (Value.string ⟨#[]⟩), (Value.slice none 0 0), (Value.slice none 0 0), (Value.slice none 0 0), (Value.slice none 0 0), (Value.int IntKind.i64 0)])] [1,2]
 (.seq (.free [qf 3 0 1,ql 4 3,qf 5 1 1,ql 6 5,qf 7 2 1,qN 8 5 7,qx 9 97 [8],qf 10 7 1,ql 11 10,qx 12 53 [11],qf 13 8 1,ql 14 13,qx 15 53 [14],
  qf 16 9 1,ql 17 16,qo 18 (.call 54 [(.tmp 17), (.func 55)]),
  qo 19 (.build [(Value.int IntKind.u8 0), (Value.string ⟨#[]⟩), (Value.int IntKind.u8 0), (Value.int IntKind.i64 0), (Value.int IntKind.u64 0), (Value.string ⟨#[]⟩), (Value.slice none 0 0), (Value.slice none 0 0), (Value.slice none 0 0), (Value.slice none 0 0), (Value.int IntKind.i64 0)] [(0, 1, (.tmp 4)), (1, 1, (.tmp 6)), (2, 5, (.tmp 9)), (7, 1, (.tmp 12)), (8, 1, (.tmp 15)), (9, 1, (.tmp 18))]),
  qs 11 2 19] [[], [0], [], [2], [], [4], [4,5], [], [7], [5,4,6,7,8], [], [10], [8,7,6,4,5,9,10,11], [], [13], [11,10,9,5,4,6,7,8,12,13,14], [14,13,15,11,10,12,8,7,9,5,4,6,2,3,0,1], [1,0,3,2,6,4,5,9,7,8,12,10,11,15,13,14,16]] [2])
 .ret))⟩)
theorem n55 : F55.n = 20 := rfl
theorem low55 : lowF Tryz.prog (kpO F55) (assoc [(1,[])]) 55 = some F55 := by kernel_rfl
def F15 : FIR := laid (X := ⟨16, [.cellN 2 5],
 (qS [qB 1 25 0,
  qo 2 (.alloc 25 [(Value.string ⟨#[]⟩), (Value.slice none 0 0), (Value.slice none 0 0), (Value.int IntKind.i64 0), (Value.slice none 0 0)])] [1,2]
 (.seq (qD [qf 3 1 1,ql 4 3,qx 5 53 [4],qf 6 2 1,ql 7 6,qx 8 53 [7],qf 9 1 1,qs 1 9 5,qf 10 2 1,qs 1 10 8] [[0,1,2,3,4,5,6,7,8,9], [0,1,3,4,2,5,6,7,8,9]] [1,2])
 (qS [qf 11 4 1,ql 12 11,qo 13 (.call 54 [(.tmp 12), (.func 55)]),qf 14 4 1,qs 1 14 13] [1,2]
 (qS [qN 15 5 1,qs 5 2 15] [2]
 .ret))))⟩)
theorem n15 : F15.n = 16 := rfl
theorem low15 : lowF Tryz.prog (kpO F15) (assoc [(1,[[0,1,2,3,4,5,6,7,8,9], [0,1,3,4,2,5,6,7,8,9]])]) 15 = some F15 := by kernel_rfl
def F42 : FIR := laid (X := ⟨10, [.cellN 0 11],
 (qS [qo 0 (.alloc 48 [(Value.int IntKind.u8 0), (Value.string ⟨#[]⟩), (Value.int IntKind.u8 0), (Value.int IntKind.i64 0), (Value.int IntKind.u64 0), (Value.string ⟨#[]⟩), (Value.slice none 0 0), (Value.slice none 0 0), (Value.slice none 0 0), (Value.slice none 0 0), (Value.int IntKind.i64 0)])] [0]
 (qS [qo 2 (.build [(Value.int IntKind.u8 0), (Value.string ⟨#[]⟩), (Value.int IntKind.u8 0), (Value.int IntKind.i64 0), (Value.int IntKind.u64 0), (Value.string ⟨#[]⟩), (Value.slice none 0 0), (Value.slice none 0 0), (Value.slice none 0 0), (Value.slice none 0 0), (Value.int IntKind.i64 0)] [(0, 1, (.const (Value.int IntKind.u8 2))), (1, 1, (.const (Value.string ⟨#[98]⟩)))]),
  qo 3 (.build [(Value.int IntKind.u8 0), (Value.string ⟨#[]⟩), (Value.int IntKind.u8 0), (Value.int IntKind.i64 0), (Value.int IntKind.u64 0), (Value.string ⟨#[]⟩), (Value.slice none 0 0), (Value.slice none 0 0), (Value.slice none 0 0), (Value.slice none 0 0), (Value.int IntKind.i64 0)] [(0, 1, (.const (Value.int IntKind.u8 2))), (1, 1, (.const (Value.string ⟨#[99]⟩)))]),
  qo 4 (.bslice 48 2 [(Value.int IntKind.u8 0), (Value.string ⟨#[]⟩), (Value.int IntKind.u8 0), (Value.int IntKind.i64 0), (Value.int IntKind.u64 0), (Value.string ⟨#[]⟩), (Value.slice none 0 0), (Value.slice none 0 0), (Value.slice none 0 0), (Value.slice none 0 0), (Value.int IntKind.i64 0)] [(0, 11, (.tmp 2)), (11, 11, (.tmp 3))]),
  qo 5 (.build [(Value.int IntKind.u8 0), (Value.string ⟨#[]⟩), (Value.int IntKind.u8 0), (Value.int IntKind.i64 0), (Value.int IntKind.u64 0), (Value.string ⟨#[]⟩), (Value.slice none 0 0), (Value.slice none 0 0), (Value.slice none 0 0), (Value.slice none 0 0), (Value.int IntKind.i64 0)] [(0, 1, (.const (Value.int IntKind.u8 4))), (1, 1, (.const (Value.string ⟨#[42]⟩))), (9, 1, (.tmp 4)), (10, 1, (.const (Value.int IntKind.i64 5)))]),
  qo 1 (.alloc 48 [(Value.int IntKind.u8 0), (Value.string ⟨#[]⟩), (Value.int IntKind.u8 0), (Value.int IntKind.i64 0), (Value.int IntKind.u64 0), (Value.string ⟨#[]⟩), (Value.slice none 0 0), (Value.slice none 0 0), (Value.slice none 0 0), (Value.slice none 0 0), (Value.int IntKind.i64 0)]),
  qs 11 1 5] [0,1]
 (qS [qo 6 (.build [(Value.int IntKind.u8 0), (Value.string ⟨#[]⟩), (Value.int IntKind.u8 0), (Value.int IntKind.i64 0), (Value.int IntKind.u64 0), (Value.string ⟨#[]⟩), (Value.slice none 0 0), (Value.slice none 0 0), (Value.slice none 0 0), (Value.slice none 0 0), (Value.int IntKind.i64 0)] [(0, 1, (.const (Value.int IntKind.u8 2))), (1, 1, (.const (Value.string ⟨#[97]⟩)))]),
  qN 7 11 1,
  qo 8 (.bslice 48 2 [(Value.int IntKind.u8 0), (Value.string ⟨#[]⟩), (Value.int IntKind.u8 0), (Value.int IntKind.i64 0), (Value.int IntKind.u64 0), (Value.string ⟨#[]⟩), (Value.slice none 0 0), (Value.slice none 0 0), (Value.slice none 0 0), (Value.slice none 0 0), (Value.int IntKind.i64 0)] [(0, 11, (.tmp 6)), (11, 11, (.tmp 7))]),
  qo 9 (.build [(Value.int IntKind.u8 0), (Value.string ⟨#[]⟩), (Value.int IntKind.u8 0), (Value.int IntKind.i64 0), (Value.int IntKind.u64 0), (Value.string ⟨#[]⟩), (Value.slice none 0 0), (Value.slice none 0 0), (Value.slice none 0 0), (Value.slice none 0 0), (Value.int IntKind.i64 0)] [(0, 1, (.const (Value.int IntKind.u8 4))), (1, 1, (.const (Value.string ⟨#[43]⟩))), (9, 1, (.tmp 8))]),
  qs 11 0 9] [0]
 .ret)))⟩)
theorem n42 : F42.n = 10 := rfl
theorem low42 : lowF Tryz.prog (kpO F42) (assoc []) 42 = some F42 := by kernel_rfl
end Go.Proofs.YtmnmandpdadedaaGreatDoor

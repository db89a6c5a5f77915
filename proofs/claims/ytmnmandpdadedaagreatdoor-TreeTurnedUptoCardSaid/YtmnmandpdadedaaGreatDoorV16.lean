/-
  Trees that are laid anew.
-/
import Derived.Test.YtmnmandpdadedaaGreatDoorV12
import Derived.Test.YtmnmandpdadedaaGreatDoorV13
import Derived.Test.YtmnmandpdadedaaGreatDoorV6
import Derived.Test.YtmnmandpdadedaaGreatDoorV15
import Derived.Test.YtmnmandpdadedaaGreatDoorV14
set_option linter.unusedSimpArgs false
set_option linter.unusedVariables false
namespace Go.V
open Go
theorem cells_row {b sz : Nat} : ∀ {rows : List (List Value)} {o : Nat}, (∀ r ∈ rows, r.length = sz) → ∀ {i : Nat} {r : List Value}, rows[i]? = some r → ∀ y ∈ cellsAt b (o + i * sz) r, y ∈ cellsAt b o rows.flatten := by
  intro rows
  induction rows with
  | nil => intro o _ i r h; simp at h
  | cons q rows ih =>
    intro o h i r hi y hy
    rw [List.flatten_cons, cellsAt_append, List.mem_append]
    cases i with
    | zero =>
      simp only [List.getElem?_cons_zero, Option.some.injEq] at hi
      subst hi
      rw [Nat.zero_mul, Nat.add_zero] at hy
      exact .inl hy
    | succ i =>
      right
      rw [h q (by simp)]
      refine ih (fun r hr => h r (by simp [hr])) (by simpa using hi) y ?_
      rwa [show o + sz + i * sz = o + (i + 1) * sz by rw [Nat.succ_mul]; omega]
theorem rows_len {sz : Nat} : ∀ {rows : List (List Value)}, (∀ r ∈ rows, r.length = sz) → rows.flatten.length = rows.length * sz := by
  intro rows
  induction rows with
  | nil => intro _; simp
  | cons q rows ih =>
    intro h
    rw [List.flatten_cons, List.length_append, h q (by simp), ih fun r hr => h r (by simp [hr]), List.length_cons, Nat.succ_mul]; omega
theorem lt_made {B : List Atom} {k : Nat} {n : Int} {b : Nat} {t : ByteArray} {items : List Lt} {sv : Value} {rows : List (List Value)} {sp : List Value} (hsl : IsSl 5 sv items.length rows.flatten sp) (hl : rows.length = items.length) (h5 : ∀ r ∈ rows, r.length = 5)
    (hr : ∀ (i : Nat) x r, items[i]? = some x → rows[i]? = some r → LtRd B x r) (wf : LtWf k n b t items.length) : LtRd (slA sv rows.flatten sp ++ B) (.mk k n b t items) [cv k, vi n, uv b, .string t, sv] := by
  have hget : ∀ i, i < items.length → rows[i]? = some (rows.getD i []) := fun i hi => by
    rw [List.getD_eq_getElem?_getD, List.getElem?_eq_getElem (by omega)]; rfl
  generalize hm : items.length = m at hsl
  generalize hxs : rows.flatten = xs at hsl ⊢
  cases hsl with
  | @mk bk o _ c _ _ h1 h2 h3 =>
    rw [← hm]
    subst hxs
    refine .mk (bk := bk) (o := o) (us := fun i => rows.getD i []) wf (fun _ => rfl) (fun i hi y hy => ?_) (fun i x hx => ?_)
    · refine List.mem_append_left _ ?_
      simp only [slA, cellsAt_append]
      exact List.mem_append_left _ (cells_row h5 (hget i hi) y hy)
    · have hi := (List.getElem?_eq_some_iff.1 hx).1
      exact (hr i x _ hx (hget i hi)).more fun y hy => List.mem_append_right _ hy
  | nil =>
    have h0 : items = [] := List.eq_nil_of_length_eq_zero hm
    subst h0
    exact .mk (bk := 0) (o := 0) (us := fun _ => []) wf (fun h => absurd h (by simp)) (fun i hi => absurd hi (by simp)) (fun i x hx => by simp at hx)
theorem nd_made {B : List Atom} {k : Nat} {s : ByteArray} {lit : Lt} {args temps : List ByteArray} {kids : List Nd} {p : Int} {lv : List Value} {av tv sv : Value} {rows : List (List Value)} {sp : List Value} (hsl : IsSl 11 sv kids.length rows.flatten sp) (hl : rows.length = kids.length) (h11 : ∀ r ∈ rows, r.length = 11)
    (hr : ∀ (i : Nat) x r, kids[i]? = some x → rows[i]? = some r → NdRd B x r) (wf : NdWf k s kids.length p) (hlt : LtRd B lit lv) (hav : RdT B av args) (htv : RdT B tv temps) : NdRd (slA sv rows.flatten sp ++ B) (.mk k s lit args temps kids p) ([cv k, .string s] ++ lv ++ [av, tv, sv, vi p]) := by
  have hget : ∀ i, i < kids.length → rows[i]? = some (rows.getD i []) := fun i hi => by
    rw [List.getD_eq_getElem?_getD, List.getElem?_eq_getElem (by omega)]; rfl
  have hsub : ∀ y ∈ B, y ∈ slA sv rows.flatten sp ++ B := fun y hy => List.mem_append_right _ hy
  have hlt2 := hlt.more hsub
  have hav2 := hav.more hsub
  have htv2 := htv.more hsub
  clear hlt hav htv
  generalize hm : kids.length = m at hsl
  generalize hxs : rows.flatten = xs at hsl ⊢
  cases hsl with
  | @mk bk o _ c _ _ h1 h2 h3 =>
    rw [← hm]
    subst hxs
    refine .mk (bk := bk) (o := o) (us := fun i => rows.getD i []) wf hlt2 hav2 htv2 (fun _ => rfl) (fun i hi y hy => ?_) (fun i x hx => ?_) (by omega)
    · refine List.mem_append_left _ ?_
      simp only [slA, cellsAt_append]
      exact List.mem_append_left _ (cells_row h11 (hget i hi) y hy)
    · have hi := (List.getElem?_eq_some_iff.1 hx).1
      exact (hr i x _ hx (hget i hi)).more hsub
  | nil =>
    have h0 : kids = [] := List.eq_nil_of_length_eq_zero hm
    subst h0
    exact .mk (bk := 0) (o := 0) (us := fun _ => []) wf hlt2 hav2 htv2 (fun h => absurd h (by simp)) (fun i hi => absurd hi (by simp)) (fun i x hx => by simp at hx) (by simp)
theorem texts_made {sv : Value} {l : List ByteArray} {sp : List Value} {n : Nat} (hn : n = l.length) (hsl : IsSl 1 sv n (l.map Value.string) sp) (hl : l.length ≤ 1099511627776) (ht : ∀ t ∈ l, t.size ≤ 140737488355328) : RdT (slA sv (l.map Value.string) sp) sv l := by
  generalize hx : l.map Value.string = xs at hsl
  cases hsl with
  | @mk bk o _ c _ _ h1 h2 h3 =>
    subst hx
    refine ⟨_, c, by rw [hn], hl, fun i t e => ⟨bk, o, rfl, ?_, ht t (List.mem_of_getElem? e)⟩⟩
    simp only [slA, cellsAt_append]
    refine List.mem_append_left _ (mem_cellsAt.2 ⟨i, _, ?_, rfl⟩)
    rw [List.getElem?_map, e]; rfl
  | nil =>
    have h0 : l = [] := List.eq_nil_of_length_eq_zero hn.symm
    subst h0
    exact ⟨none, 0, rfl, by simp, fun i t e => by simp at e⟩
theorem st_append0 {P : Program} {n : Nat} {rs : List RO} {Γ : Env} {H : SH} {Z : List PanicEntry → Env → SH → Prop} {K : Env → SH → Prop} {d : Option Nat} {t : TypeId} {size bytes : Nat} {zero : List Value} {s x : Operand} {b o k c c2 : Nat} {ad : Addr}
    (hs : ev Γ s = some (.slice (some ⟨b, o, none⟩) k c)) (hx : ev Γ x = some (.slice (some ad) 0 c2)) (hle : k ≤ c) (h : VO P n rs (putE d (.slice (some ⟨b, o, none⟩) k c) Γ) H Z K) : VO P n (⟨d, none, .append t size bytes zero s x⟩ :: rs) Γ H Z K := by
  refine VO.act' rfl rfl (fun ρ hρ => ⟨_, rfl, ?_⟩)
  rw [hρ _ _ hs, hρ _ _ hx]
  simp only [seqLen]
  rw [if_pos (show k + 0 ≤ c by omega)]
  have e0 : (Builtin.firstCells size 0 (.slice (some ad) 0 c2) : Sem (Array Value)) = pure #[] := by
    simp only [Builtin.firstCells, Nat.zero_mul]; rfl
  rw [e0]
  refine SWP.bind (SWP.pure ?_)
  refine SWP.bind (SWP.pure (SWP.pure ?_))
  exact ⟨_, H, [], .inl rfl, by simp, h⟩
theorem sizes_ge : ∀ l : List Lt, l.length ≤ Lt.sizes l := by
  intro l
  induction l with
  | nil => exact Nat.zero_le _
  | cons x r ih => have := x.size_pos; simp only [Lt.sizes, List.length_cons]; omega
theorem ws_ge : ∀ l : List Nd, l.length ≤ Nd.ws l := by
  intro l
  induction l with
  | nil => exact Nat.zero_le _
  | cons x r ih => have := x.w_pos; simp only [Nd.ws, List.length_cons]; omega
theorem bare_kind (x : Nd) : x.bare.kind = x.kind := by cases x; rfl
theorem bare_name (x : Nd) : x.bare.name = x.name := by cases x; rfl
theorem bare_kids (x : Nd) : x.bare.kids = Nd.bares x.kids := by cases x; rfl
theorem bares_eq : ∀ l : List Nd, Nd.bares l = l.map Nd.bare := by
  intro l
  induction l with
  | nil => rfl
  | cons x r ih => simp only [Nd.bares, ih, List.map_cons]
theorem valueR_bare (x : Nd) (p : Nat) (r : Rs) : valueR x.bare p r = valueR x p r := by
  cases x; rfl
theorem firstR_bare (x : Nd) (s : ByteArray) (r : Rs) : firstR x.bare s r = firstR x s r := by
  cases x; rfl
theorem valuesR_bare (p : Nat) : ∀ (l : List Nd) (rs : List Rs), valuesR p (l.map Nd.bare) rs = valuesR p l rs := by
  intro l
  induction l with
  | nil => intro rs; rfl
  | cons x r ih =>
    intro rs
    cases rs with
    | nil => rfl
    | cons q rs => simp only [List.map_cons, valuesR, ih, valueR_bare]
theorem msgsR_bare : ∀ (l : List Nd) (rs : List Rs), msgsR (l.map Nd.bare) rs = msgsR l rs := by
  intro l
  induction l with
  | nil => intro rs; rfl
  | cons x r ih =>
    intro rs
    cases rs with
    | nil => rfl
    | cons q rs => simp only [List.map_cons, msgsR, ih, bare_kind]
theorem stmtsR_bare : ∀ (l : List Nd) (rs : List Rs), stmtsR (l.map Nd.bare) rs = stmtsR l rs := by
  intro l
  induction l with
  | nil => intro rs; rfl
  | cons x r ih =>
    intro rs
    cases r with
    | nil =>
      cases rs with
      | nil => rfl
      | cons q rs => simp only [List.map_cons, List.map_nil, stmtsR, bare_kind, valueR_bare]
    | cons y r =>
      cases rs with
      | nil => rfl
      | cons q rs =>
        have := ih rs
        simp only [List.map_cons] at this ⊢
        simp only [stmtsR, valueR_bare, this]
theorem argsR_bare (s : ByteArray) (l : List Nd) (rs : List Rs) : argsR s (l.map Nd.bare) rs = argsR s l rs := by
  simp only [argsR, List.length_map, valuesR_bare]
theorem nodeR_bare (k : Nat) (s : ByteArray) (lit : Lt) (args temps : List ByteArray) (kids : List Nd) (rs : List Rs) : nodeR k s lit args temps (kids.map Nd.bare) rs = nodeR k s lit args temps kids rs := by
  match kids, rs with
  | [], rs => rfl
  | [x], [] => simp only [nodeR, List.map_cons, List.map_nil, ← valuesR_bare 1 [x], ← stmtsR_bare [x], ← argsR_bare s [x], List.length_cons, List.length_nil]
  | [x], [r] => simp only [nodeR, List.map_cons, List.map_nil, ← valuesR_bare 1 [x], ← stmtsR_bare [x], ← argsR_bare s [x], ← argsR_bare s [], ← valueR_bare x, ← firstR_bare x, List.length_cons, List.length_nil]
  | [x], r :: q :: rs => simp only [nodeR, List.map_cons, List.map_nil, ← valuesR_bare 1 [x], ← stmtsR_bare [x], ← argsR_bare s [x], ← argsR_bare s [], ← firstR_bare x, List.length_cons, List.length_nil]
  | x :: y :: l, [] =>
    have h1 := valuesR_bare 1 (x :: y :: l) []
    have h2 := stmtsR_bare (x :: y :: l) []
    have h3 := argsR_bare s (x :: y :: l) []
    simp only [List.map_cons] at h1 h2 h3 ⊢
    simp only [nodeR, h1, h2, h3, List.length_cons, List.length_map]
  | x :: y :: l, r :: rs =>
    have h1 := valuesR_bare 1 (x :: y :: l) (r :: rs)
    have h2 := stmtsR_bare (x :: y :: l) (r :: rs)
    have h3 := argsR_bare s (x :: y :: l) (r :: rs)
    have h4 := argsR_bare s (y :: l) rs
    have h5 := msgsR_bare (y :: l) rs
    simp only [List.map_cons] at h1 h2 h3 h4 h5 ⊢
    simp only [nodeR, h1, h2, h3, h4, h5, firstR_bare, bare_name, List.length_cons, List.length_map]
theorem nodeD_bare : ∀ (N : Nat) (x : Nd), x.w ≤ N → nodeD x.bare = nodeD x := by
  intro N
  induction N with
  | zero => intro x hx; have := x.w_pos; omega
  | succ N ih =>
    intro x hx
    cases x with
    | mk k s lit args temps kids p =>
    simp only [Nd.w] at hx
    have hk : nodesD (Nd.bares kids) = nodesD kids := by
      rw [nodesD_map, nodesD_map, bares_eq, List.map_map]
      exact List.map_congr_left fun y hy => ih y (by have := Nd.ws_mem hy; omega)
    rw [bares_eq] at hk
    simp only [Nd.bare, nodeD, bares_eq, nodeR_bare, hk]
theorem nodeD_bare' (x : Nd) : nodeD x.bare = nodeD x := nodeD_bare _ x (Nat.le_refl _)
theorem nodeD_bares (l : List Nd) : (l.map Nd.bare).map nodeD = l.map nodeD := by
  rw [List.map_map]; exact List.map_congr_left fun y _ => nodeD_bare' y
theorem w_bare : ∀ (N : Nat) (x : Nd), x.w ≤ N → x.bare.w = x.w := by
  intro N
  induction N with
  | zero => intro x hx; have := x.w_pos; omega
  | succ N ih =>
    intro x hx
    cases x with
    | mk k s lit args temps kids p =>
    simp only [Nd.w] at hx
    have hk : ∀ l : List Nd, (∀ y ∈ l, y ∈ kids) → Nd.ws (Nd.bares l) = Nd.ws l := by
      intro l
      induction l with
      | nil => intro _; rfl
      | cons y r ih2 =>
        intro h
        simp only [Nd.bares, Nd.ws]
        rw [ih y (by have := Nd.ws_mem (h y (by simp)); omega), ih2 fun z hz => h z (by simp [hz])]
    simp only [Nd.bare, Nd.w, hk kids fun _ h => h]
theorem ws_bare (l : List Nd) : Nd.ws (l.map Nd.bare) = Nd.ws l := by
  induction l with
  | nil => rfl
  | cons x r ih => simp only [List.map_cons, Nd.ws, ih, w_bare _ x (Nat.le_refl _)]
theorem allN_bare : ∀ (N : Nat) (x : Nd), x.w ≤ N → allN x.bare = (allN x).map Nd.bare := by
  intro N
  induction N with
  | zero => intro x hx; have := x.w_pos; omega
  | succ N ih =>
    intro x hx
    cases x with
    | mk k s lit args temps kids p =>
    simp only [Nd.w] at hx
    have hk : ∀ l : List Nd, (∀ y ∈ l, y ∈ kids) → allsN (Nd.bares l) = (allsN l).map Nd.bare := by
      intro l
      induction l with
      | nil => intro _; rfl
      | cons y r ih2 =>
        intro h
        simp only [Nd.bares, allsN, List.map_append]
        rw [ih y (by have := Nd.ws_mem (h y (by simp)); omega), ih2 fun z hz => h z (by simp [hz])]
    have := hk kids fun y h => h
    rw [allN_eq, allN_eq, List.map_cons, bare_kids]
    show _ :: allsN (Nd.bares kids) = _ :: List.map Nd.bare (allsN kids)
    rw [this]
theorem allsN_bare (l : List Nd) : allsN (l.map Nd.bare) = (allsN l).map Nd.bare := by
  induction l with
  | nil => rfl
  | cons x r ih => simp only [List.map_cons, allsN, ih, allN_bare _ x (Nat.le_refl _), List.map_append]
theorem sendsOf_bare (l : List Nd) : sendsOf (l.map Nd.bare) = sendsOf l := by
  induction l with
  | nil => rfl
  | cons x r ih =>
    have hb : sendsN x.bare = sendsN x := by simp only [sendsN, bare_kind]
    simp only [sendsOf, List.map_cons, List.filter_cons, hb] at ih ⊢
    by_cases h : sendsN x = true
    · rw [if_pos h, if_pos h, List.map_cons, List.map_cons, ih, bare_name]
    · rw [if_neg h, if_neg h]; exact ih
theorem bare_bare : ∀ (N : Nat) (x : Nd), x.w ≤ N → x.bare.bare = x.bare := by
  intro N
  induction N with
  | zero => intro x hx; have := x.w_pos; omega
  | succ N ih =>
    intro x hx
    cases x with
    | mk k s lit args temps kids p =>
    simp only [Nd.w] at hx
    simp only [Nd.bare, bares_eq, List.map_map, Nd.mk.injEq, true_and, and_true]
    exact List.map_congr_left fun y hy => ih y (by have := Nd.ws_mem hy; omega)
theorem litEq_refl : ∀ (N : Nat) (x : Lt), x.size ≤ N → litEq x x = true := by
  intro N
  induction N with
  | zero => intro x hx; have := x.size_pos; omega
  | succ N ih =>
    intro x hx
    cases x with
    | mk k n b t items =>
    simp only [Lt.size] at hx
    have : litsEq items items = true := (litsEq_iff items items).2 ⟨rfl, fun j x y e1 e2 => by
      rw [e1] at e2; cases e2
      exact ih x (by have := Lt.sizes_mem (List.mem_of_getElem? e1); omega)⟩
    simp [litEq, this]
theorem ndEq_bare : ∀ (N : Nat) (x : Nd), x.w ≤ N → ndEq x x.bare = true ∧ ndEq x.bare x = true ∧ ndEq x x = true := by
  intro N
  induction N with
  | zero => intro x hx; have := x.w_pos; omega
  | succ N ih =>
    intro x hx
    cases x with
    | mk k s lit args temps kids p =>
    simp only [Nd.w] at hx
    have hl := litEq_refl _ lit (Nat.le_refl _)
    have h1 : ndsEq kids (kids.map Nd.bare) = true := (ndsEq_iff _ _).2 ⟨by simp, fun j x y e1 e2 => by
      rw [List.getElem?_map, e1] at e2; cases e2
      exact (ih x (by have := Nd.ws_mem (List.mem_of_getElem? e1); omega)).1⟩
    have h2 : ndsEq (kids.map Nd.bare) kids = true := (ndsEq_iff _ _).2 ⟨by simp, fun j x y e1 e2 => by
      rw [List.getElem?_map, e2] at e1; cases e1
      exact (ih y (by have := Nd.ws_mem (List.mem_of_getElem? e2); omega)).2.1⟩
    have h3 : ndsEq kids kids = true := (ndsEq_iff _ _).2 ⟨rfl, fun j x y e1 e2 => by
      rw [e1] at e2; cases e2
      exact (ih x (by have := Nd.ws_mem (List.mem_of_getElem? e1); omega)).2.2⟩
    simp only [Nd.bare, bares_eq, ndEq, h1, h2, h3, hl]
    simp
mutual
def ndSm : Nd → Nd → Bool
  | .mk k s l a t ks p, .mk k' s' l' a' t' ks' p' => decide (k = k') && decide (s = s') && decide (a = a') && decide (t = t') && litEq l l' && decide (p = p') && ndsSm ks ks'
def ndsSm : List Nd → List Nd → Bool
  | [], [] => true
  | x :: r, y :: q => ndSm x y && ndsSm r q
  | _, _ => false
end
theorem ndsSm_iff : ∀ l l' : List Nd, ndsSm l l' = true ↔ l.length = l'.length ∧ ∀ (j : Nat) x y, l[j]? = some x → l'[j]? = some y → ndSm x y = true := by
  intro l
  induction l with
  | nil =>
    intro l'
    cases l' with
    | nil => simp [ndsSm]
    | cons y r => simp [ndsSm]
  | cons x r ih =>
    intro l'
    cases l' with
    | nil => simp [ndsSm]
    | cons y q =>
      simp only [ndsSm, Bool.and_eq_true, ih q, List.length_cons]
      constructor
      · rintro ⟨h1, h2, h3⟩
        refine ⟨by omega, fun j => ?_⟩
        cases j with
        | zero => intro x' y' e1 e2; cases e1; cases e2; exact h1
        | succ j => intro x' y' e1 e2; exact h3 j x' y' (by simpa using e1) (by simpa using e2)
      · rintro ⟨h1, h2⟩
        exact ⟨h2 0 x y rfl rfl, by omega, fun j x' y' e1 e2 => h2 (j + 1) x' y' (by simpa using e1) (by simpa using e2)⟩
theorem ndsSm_false {l l' : List Nd} {j : Nat} {x y : Nd} (h1 : l[j]? = some x) (h2 : l'[j]? = some y) (h : ndSm x y = false) : ndsSm l l' = false :=
  Bool.eq_false_iff.2 fun e => by have := ((ndsSm_iff l l').1 e).2 j x y h1 h2; rw [h] at this; cases this
theorem ndsSm_len {l l' : List Nd} (h : l.length ≠ l'.length) : ndsSm l l' = false := Bool.eq_false_iff.2 fun e => h ((ndsSm_iff l l').1 e).1
theorem ndSm_refl : ∀ (N : Nat) (x : Nd), x.w ≤ N → ndSm x x = true := by
  intro N
  induction N with
  | zero => intro x hx; have := x.w_pos; omega
  | succ N ih =>
    intro x hx
    cases x with
    | mk k s lit args temps kids p =>
    simp only [Nd.w] at hx
    have hl := litEq_refl _ lit (Nat.le_refl _)
    have h3 : ndsSm kids kids = true := (ndsSm_iff _ _).2 ⟨rfl, fun j x y e1 e2 => by
      rw [e1] at e2; cases e2
      exact ih x (by have := Nd.ws_mem (List.mem_of_getElem? e1); omega)⟩
    simp [ndSm, h3, hl]
inductive LtOwn : Lt → List Value → List Atom → Prop
  | mk {k : Nat} {n : Int} {b : Nat} {t : ByteArray} {items : List Lt} {sv : Value} {rows : List (List Value)} {sp : List Value} {Ls : Nat → List Atom} {L : List Atom} (hsl : IsSl 5 sv items.length rows.flatten sp) (hl : rows.length = items.length) (h5 : ∀ r ∈ rows, r.length = 5)
      (hr : ∀ (i : Nat) x r, items[i]? = some x → rows[i]? = some r → LtOwn x r (Ls i)) (wf : LtWf k n b t items.length) (hL : L.Perm (slA sv rows.flatten sp ++ (List.range items.length).flatMap Ls)) : LtOwn (.mk k n b t items) [cv k, vi n, uv b, .string t, sv] L
def TxOwn (v : Value) (l : List ByteArray) (L : List Atom) : Prop := ∃ sp, IsSl 1 v l.length (l.map Value.string) sp ∧ L = slA v (l.map Value.string) sp ∧ l.length ≤ 1099511627776 ∧ ∀ t ∈ l, t.size ≤ 140737488355328
inductive NdOwn : Nd → List Value → List Atom → Prop
  | mk {k : Nat} {s : ByteArray} {lit : Lt} {args temps : List ByteArray} {kids : List Nd} {p : Int} {lv : List Value} {av tv sv : Value} {rows : List (List Value)} {sp : List Value} {Ls : Nat → List Atom} {LL LA LT L : List Atom} (hsl : IsSl 11 sv kids.length rows.flatten sp) (hl : rows.length = kids.length) (h11 : ∀ r ∈ rows, r.length = 11)
      (hr : ∀ (i : Nat) x r, kids[i]? = some x → rows[i]? = some r → NdOwn x r (Ls i)) (wf : NdWf k s kids.length p) (hlt : LtOwn lit lv LL) (hav : TxOwn av args LA) (htv : TxOwn tv temps LT)
      (hL : L.Perm (LL ++ (LA ++ (LT ++ (slA sv rows.flatten sp ++ (List.range kids.length).flatMap Ls))))) : NdOwn (.mk k s lit args temps kids p) ([cv k, .string s] ++ lv ++ [av, tv, sv, vi p]) L
theorem LtOwn.rd {x : Lt} {vs : List Value} {L : List Atom} (h : LtOwn x vs L) : LtRd L x vs := by
  induction h with
  | @mk k n b t items sv rows sp Ls L hsl hl h5 hr wf hL ih =>
    have := lt_made (B := (List.range items.length).flatMap Ls) (k := k) (n := n) (b := b) (t := t) hsl hl h5 (fun i x r e1 e2 => (ih i x r e1 e2).more fun z hz => List.mem_flatMap.2 ⟨i, List.mem_range.2 (List.getElem?_eq_some_iff.1 e1).1, hz⟩) wf
    exact this.more fun z hz => hL.symm.subset hz
theorem TxOwn.rd {v : Value} {l : List ByteArray} {L : List Atom} (h : TxOwn v l L) : RdT L v l := by
  obtain ⟨sp, h1, rfl, h3, h4⟩ := h
  exact texts_made rfl h1 h3 h4
theorem NdOwn.rd {x : Nd} {vs : List Value} {L : List Atom} (h : NdOwn x vs L) : NdRd L x vs := by
  induction h with
  | @mk k s lit args temps kids p lv av tv sv rows sp Ls LL LA LT L hsl hl h11 hr wf hlt hav htv hL ih =>
    have := nd_made (B := LL ++ (LA ++ (LT ++ (List.range kids.length).flatMap Ls))) hsl hl h11 (fun i x r e1 e2 => (ih i x r e1 e2).more fun z hz => by
      simp only [List.mem_append]
      exact .inr (.inr (.inr (List.mem_flatMap.2 ⟨i, List.mem_range.2 (List.getElem?_eq_some_iff.1 e1).1, hz⟩)))) wf (hlt.rd.more fun z hz => by simp [hz]) (hav.rd.more fun z hz => by simp [hz]) (htv.rd.more fun z hz => by simp [hz])
    refine this.more fun z hz => hL.symm.subset ?_
    simp only [List.mem_append] at hz ⊢
    rcases hz with h | h | h | h | h
    · exact .inr (.inr (.inr (.inl h)))
    · exact .inl h
    · exact .inr (.inl h)
    · exact .inr (.inr (.inl h))
    · exact .inr (.inr (.inr (.inr h)))
theorem NdOwn.len {x : Nd} {vs : List Value} {L : List Atom} (h : NdOwn x vs L) : vs.length = 11 := h.rd.len
theorem NdOwn.perm {x : Nd} {vs : List Value} {L M : List Atom} (h : NdOwn x vs L) (hp : M.Perm L) : NdOwn x vs M := by
  cases h with
  | mk hsl hl h11 hr wf hlt hav htv hL => exact .mk hsl hl h11 hr wf hlt hav htv (hp.trans hL)
def Nd.setKid (x : Nd) (j : Nat) (y : Nd) : Nd := .mk x.kind x.name x.lit x.args x.temps (x.kids.set j y) x.at_
theorem rows_split {b sz : Nat} : ∀ {rows : List (List Value)} {o : Nat} {j : Nat} {r : List Value} {sp : List Value}, (∀ r ∈ rows, r.length = sz) → rows[j]? = some r →
    ∃ R, ∀ r' : List Value, r'.length = sz → (cellsAt b o ((rows.set j r').flatten ++ sp)).Perm (cellsAt b (o + j * sz) r' ++ R) := by
  intro rows
  induction rows with
  | nil => intro o j r sp _ h; simp at h
  | cons q rows ih =>
    intro o j r sp h hj
    cases j with
    | zero =>
      refine ⟨cellsAt b (o + sz) (rows.flatten ++ sp), fun r' hr' => ?_⟩
      rw [List.set_cons_zero, List.flatten_cons, List.append_assoc, cellsAt_append, hr', Nat.zero_mul, Nat.add_zero]
    | succ j =>
      obtain ⟨R, hR⟩ := ih (o := o + sz) (j := j) (sp := sp) (fun r hr => h r (by simp [hr])) (by simpa using hj)
      refine ⟨cellsAt b o q ++ R, fun r' hr' => ?_⟩
      rw [List.set_cons_succ, List.flatten_cons, List.append_assoc, cellsAt_append, h q (by simp)]
      refine ((hR r' hr').append_left _).trans ?_
      rw [show o + sz + j * sz = o + (j + 1) * sz by rw [Nat.succ_mul]; omega]
      rw [← List.append_assoc, ← List.append_assoc]
      exact List.perm_append_comm.append_right R
theorem perm_lead3 (X Y Z : List Atom) : (X ++ (Y ++ Z)).Perm (Y ++ (X ++ Z)) := by
  rw [← List.append_assoc, ← List.append_assoc]
  exact List.perm_append_comm.append_right Z
theorem range_split {n j : Nat} {Ls : Nat → List Atom} (hj : j < n) : ∃ R, ∀ L', ((List.range n).flatMap fun i => if i = j then L' else Ls i).Perm (L' ++ R) := by
  refine ⟨((List.range n).filter fun i => decide (i ≠ j)).flatMap Ls, fun L' => ?_⟩
  have hp : (List.range n).Perm (j :: (List.range n).filter fun i => decide (i ≠ j)) := by
    refine (List.perm_ext_iff_of_nodup List.nodup_range (List.nodup_cons.2 ⟨by simp, List.nodup_range.filter _⟩)).2 (fun x => ?_)
    simp only [List.mem_range, List.mem_cons, List.mem_filter, decide_eq_true_eq]
    constructor
    · intro h
      by_cases e : x = j
      · exact .inl e
      · exact .inr ⟨h, e⟩
    · rintro (h | h)
      · omega
      · exact h.1
  refine (hp.flatMap_right _).trans ?_
  rw [List.flatMap_cons, if_pos rfl]
  refine List.Perm.append_left _ ?_
  rw [List.flatMap_def, List.flatMap_def]
  refine List.Perm.of_eq ?_
  congr 1
  refine List.map_congr_left fun i hi => ?_
  have := (List.mem_filter.1 hi).2
  simp only [decide_eq_true_eq] at this
  rw [if_neg this]
theorem set_self {α : Type} {l : List α} {j : Nat} {x : α} (h : l[j]? = some x) : l.set j x = l := by
  apply List.ext_getElem?
  intro i
  rw [List.getElem?_set]
  split
  · rename_i e
    subst e
    have := (List.getElem?_eq_some_iff.1 h).1
    rw [if_pos this, h]
  · rfl
theorem NdOwn.kid {x y : Nd} {vs : List Value} {L : List Atom} (h : NdOwn x vs L) {j : Nat} (hy : x.kids[j]? = some y) :
    ∃ bk o c row Lj R, vs[9]? = some (.slice (some ⟨bk, o, none⟩) x.kids.length c) ∧ NdOwn y row Lj ∧ L.Perm (cellsAt bk (o + j * 11) row ++ (Lj ++ R)) ∧
      ∀ y' row' L', NdOwn y' row' L' → NdOwn (x.setKid j y') vs (cellsAt bk (o + j * 11) row' ++ (L' ++ R)) := by
  cases h with
  | @mk k s lit args temps kids p lv av tv sv rows sp Ls LL LA LT L hsl hl h11 hr wf hlt hav htv hL =>
    simp only [Nd.kids] at hy ⊢
    have hj := (List.getElem?_eq_some_iff.1 hy).1
    obtain ⟨row, hrow⟩ : ∃ row, rows[j]? = some row := ⟨_, List.getElem?_eq_getElem (by omega)⟩
    have hlv := hlt.rd.len
    generalize hxs : rows.flatten = xs at hsl
    generalize hm : kids.length = m at hsl
    cases hsl with
    | nil => omega
    | @mk bk o _ c _ _ g1 g2 g3 =>
      subst hxs
      obtain ⟨R1, hR1⟩ := rows_split (b := bk) (o := o) (sp := sp) h11 hrow
      obtain ⟨R2, hR2⟩ := range_split (n := kids.length) (Ls := Ls) hj
      have hok := hr j y row hy hrow
      refine ⟨bk, o, c, row, Ls j, LL ++ (LA ++ (LT ++ (R1 ++ R2))), ?_, hok, ?_, fun y' row' L' h' => ?_⟩
      · rw [← hm]
        match lv, hlv with
        | [_, _, _, _, _], _ => rfl
      · refine hL.trans ?_
        have e1 := hR1 row (h11 row (List.mem_of_getElem? hrow))
        rw [set_self hrow] at e1
        have e2 := hR2 (Ls j)
        have e3 : ((List.range kids.length).flatMap fun i => if i = j then Ls j else Ls i) = (List.range kids.length).flatMap Ls := by
          congr 1; funext i; split
          · rename_i e; rw [e]
          · rfl
        rw [e3] at e2
        have e4 : (slA (.slice (some ⟨bk, o, none⟩) m c) rows.flatten sp ++ (List.range kids.length).flatMap Ls).Perm (cellsAt bk (o + j * 11) row ++ (Ls j ++ (R1 ++ R2))) := by
          refine (List.Perm.append e1 e2).trans ?_
          rw [List.append_assoc]
          refine List.Perm.append_left _ ?_
          rw [← List.append_assoc, ← List.append_assoc]
          exact List.perm_append_comm.append_right R2
        refine ((((e4.append_left LT).append_left LA).append_left LL)).trans ?_
        have p1 : (LL ++ (LA ++ (LT ++ (cellsAt bk (o + j * 11) row ++ (Ls j ++ (R1 ++ R2)))))) = (LL ++ LA ++ LT) ++ ((cellsAt bk (o + j * 11) row ++ Ls j) ++ (R1 ++ R2)) := by simp [List.append_assoc]
        have p2 : (cellsAt bk (o + j * 11) row ++ (Ls j ++ (LL ++ (LA ++ (LT ++ (R1 ++ R2)))))) = (cellsAt bk (o + j * 11) row ++ Ls j) ++ ((LL ++ LA ++ LT) ++ (R1 ++ R2)) := by simp [List.append_assoc]
        exact (List.Perm.of_eq p1).trans ((perm_lead3 _ _ _).trans (List.Perm.of_eq p2.symm))
      · have hrl := h'.len
        have hlen2 : (kids.set j y').length = kids.length := List.length_set
        refine .mk (sv := .slice (some ⟨bk, o, none⟩) m c) (rows := rows.set j row') (sp := sp) (Ls := fun i => if i = j then L' else Ls i) (LL := LL) (LA := LA) (LT := LT) ?_ ?_ ?_ ?_ ?_ hlt hav htv ?_
        · have hfl : ((rows.set j row').flatten).length = rows.flatten.length := by
            rw [rows_len (sz := 11) (fun r hr => ?_), rows_len h11, List.length_set]
            rcases List.mem_or_eq_of_mem_set hr with h | h
            · exact h11 r h
            · rw [h]; exact hrl
          show IsSl 11 _ (kids.set j y').length _ _
          rw [hlen2, hm]
          exact .mk (by rw [hfl]; exact g1) (by rw [hfl]; exact g2) g3
        · show (rows.set j row').length = (kids.set j y').length
          rw [List.length_set, hlen2]; exact hl
        · intro r hr
          rcases List.mem_or_eq_of_mem_set hr with h | h
          · exact h11 r h
          · rw [h]; exact hrl
        · intro i z r hz hr2
          rw [show (Nd.mk k s lit args temps kids p).kids = kids from rfl, List.getElem?_set] at hz
          rw [List.getElem?_set] at hr2
          by_cases e : j = i
          · subst e
            rw [if_pos rfl, if_pos hj] at hz
            rw [if_pos rfl, if_pos (by omega)] at hr2
            cases hz; cases hr2
            simp only [if_true]; exact h'
          · rw [if_neg e] at hz hr2
            simp only [if_neg (Ne.symm e)]
            exact hr i z r hz hr2
        · show NdWf k s (kids.set j y').length p
          rw [hlen2]; exact wf
        · have e1 := hR1 row' hrl
          have e2 := hR2 L'
          show (cellsAt bk (o + j * 11) row' ++ (L' ++ (LL ++ (LA ++ (LT ++ (R1 ++ R2)))))).Perm (LL ++ (LA ++ (LT ++ (cellsAt bk o ((rows.set j row').flatten ++ sp) ++ (List.range (kids.set j y').length).flatMap fun i => if i = j then L' else Ls i))))
          rw [hlen2]
          have e4 : (cellsAt bk o ((rows.set j row').flatten ++ sp) ++ (List.range kids.length).flatMap fun i => if i = j then L' else Ls i).Perm (cellsAt bk (o + j * 11) row' ++ (L' ++ (R1 ++ R2))) := by
            refine (List.Perm.append e1 e2).trans ?_
            rw [List.append_assoc]
            refine List.Perm.append_left _ ?_
            rw [← List.append_assoc, ← List.append_assoc]
            exact List.perm_append_comm.append_right R2
          refine List.Perm.trans ?_ ((((e4.append_left LT).append_left LA).append_left LL)).symm
          have p1 : (LL ++ (LA ++ (LT ++ (cellsAt bk (o + j * 11) row' ++ (L' ++ (R1 ++ R2)))))) = (LL ++ LA ++ LT) ++ ((cellsAt bk (o + j * 11) row' ++ L') ++ (R1 ++ R2)) := by simp [List.append_assoc]
          have p2 : (cellsAt bk (o + j * 11) row' ++ (L' ++ (LL ++ (LA ++ (LT ++ (R1 ++ R2)))))) = (cellsAt bk (o + j * 11) row' ++ L') ++ ((LL ++ LA ++ LT) ++ (R1 ++ R2)) := by simp [List.append_assoc]
          exact (List.Perm.of_eq p2).trans ((perm_lead3 _ _ _).trans (List.Perm.of_eq p1.symm))
def OwnAt (b o : Nat) (x : Nd) (M : List Atom) : Prop := ∃ vs L, NdOwn x vs L ∧ M.Perm (cellsAt b o vs ++ L)
theorem ndEq_setKid {x y : Nd} {j : Nat} {u v : Nd} (hx : x.kids[j]? = some u) (h : ndEq u v = false) : ndEq x (x.setKid j v) = false := by
  cases x with
  | mk k s lit args temps kids p =>
  simp only [Nd.kids] at hx
  have hj := (List.getElem?_eq_some_iff.1 hx).1
  have : ndsEq kids (kids.set j v) = false := ndsEq_false hx (by rw [List.getElem?_set, if_pos rfl, if_pos hj]) h
  simp only [Nd.setKid, Nd.kids, ndEq, this, Bool.and_false]
theorem ndEq_setKid' {x y : Nd} {j : Nat} {u v : Nd} (hx : x.kids[j]? = some u) (h : ndEq v u = false) : ndEq (x.setKid j v) x = false := by
  cases x with
  | mk k s lit args temps kids p =>
  simp only [Nd.kids] at hx
  have hj := (List.getElem?_eq_some_iff.1 hx).1
  have : ndsEq (kids.set j v) kids = false := ndsEq_false (by rw [List.getElem?_set, if_pos rfl, if_pos hj]) hx h
  simp only [Nd.setKid, Nd.kids, ndEq, this, Bool.and_false]
theorem st_appendN {P : Program} {n : Nat} {rs : List RO} {Γ : Env} {H : SH} {Z : List PanicEntry → Env → SH → Prop} {K : Env → SH → Prop} {d : Option Nat} {t : TypeId} {size bytes : Nat} {zero : List Value} {s x : Operand} {a : Option Addr} {c2 : Nat}
    (hs : ev Γ s = some (.slice none 0 0)) (hx : ev Γ x = some (.slice a 0 c2)) (h : VO P n rs (putE d (.slice none 0 0) Γ) H Z K) : VO P n (⟨d, none, .append t size bytes zero s x⟩ :: rs) Γ H Z K := by
  refine VO.act' rfl rfl (fun ρ hρ => ⟨_, rfl, ?_⟩)
  rw [hρ _ _ hs, hρ _ _ hx]
  simp only [seqLen]
  rw [if_pos (show 0 + 0 ≤ 0 by omega)]
  cases a with
  | none =>
    refine SWP.bind (SWP.pure ?_)
    exact SWP.pure ⟨_, H, [], .inl rfl, by simp, h⟩
  | some ad =>
    have e0 : (Builtin.firstCells size 0 (.slice (some ad) 0 c2) : Sem (Array Value)) = pure #[] := by
      simp only [Builtin.firstCells, Nat.zero_mul]; rfl
    rw [e0]
    refine SWP.bind (SWP.pure ?_)
    exact SWP.pure ⟨_, H, [], .inl rfl, by simp, h⟩
theorem flat_snoc (Ls : Nat → List Atom) (L' : List Atom) (j : Nat) : ∃ Ls' : Nat → List Atom, (∀ i, i < j → Ls' i = Ls i) ∧ Ls' j = L' ∧ (List.range (j + 1)).flatMap Ls' = (List.range j).flatMap Ls ++ L' := by
  refine ⟨fun i => if i < j then Ls i else L', fun i hi => if_pos hi, if_neg (Nat.lt_irrefl _), ?_⟩
  rw [List.range_succ, List.flatMap_append]
  simp only [List.flatMap_cons, List.flatMap_nil, List.append_nil, Nat.lt_irrefl, if_false]
  congr 1
  rw [List.flatMap_def, List.flatMap_def]
  congr 1
  exact List.map_congr_left fun i hi => if_pos (List.mem_range.1 hi)
def LtRows (l : List Lt) (rows : List (List Value)) (K : List Atom) : Prop := rows.length = l.length ∧ (∀ r ∈ rows, r.length = 5) ∧ ∃ Ls, K = (List.range l.length).flatMap Ls ∧ ∀ (i : Nat) x r, l[i]? = some x → rows[i]? = some r → LtOwn x r (Ls i)
def NdRows (l : List Nd) (rows : List (List Value)) (K : List Atom) : Prop := rows.length = l.length ∧ (∀ r ∈ rows, r.length = 11) ∧ ∃ Ls, K = (List.range l.length).flatMap Ls ∧ ∀ (i : Nat) x r, l[i]? = some x → rows[i]? = some r → NdOwn x r (Ls i)
theorem LtRows.nil : LtRows [] [] [] := ⟨rfl, fun r hr => (by cases hr), fun _ => [], rfl, fun i x r h => (by simp at h)⟩
theorem NdRows.nil : NdRows [] [] [] := ⟨rfl, fun r hr => (by cases hr), fun _ => [], rfl, fun i x r h => (by simp at h)⟩
theorem snoc_at {α : Type} {l : List α} {z x : α} {i : Nat} (h : (l ++ [z])[i]? = some x) : (i < l.length ∧ l[i]? = some x) ∨ (i = l.length ∧ x = z) := by
  have hi := (List.getElem?_eq_some_iff.1 h).1
  rw [List.length_append, List.length_singleton] at hi
  by_cases e : i < l.length
  · rw [List.getElem?_append_left e] at h
    exact .inl ⟨e, h⟩
  · have : i = l.length := by omega
    subst this
    rw [List.getElem?_append_right (Nat.le_refl _), Nat.sub_self] at h
    simp only [List.getElem?_cons_zero, Option.some.injEq] at h
    exact .inr ⟨rfl, h.symm⟩
theorem LtRows.snoc {l : List Lt} {rows : List (List Value)} {K : List Atom} (h : LtRows l rows K) {x : Lt} {r : List Value} {L : List Atom} (hx : LtOwn x r L) : LtRows (l ++ [x]) (rows ++ [r]) (K ++ L) := by
  obtain ⟨h1, h2, Ls, rfl, h3⟩ := h
  obtain ⟨Ls', e1, e2, e3⟩ := flat_snoc Ls L l.length
  refine ⟨by simp [h1], fun r' hr' => ?_, Ls', by rw [List.length_append, List.length_singleton, e3], fun i y r' hy hr' => ?_⟩
  · rcases List.mem_append.1 hr' with h | h
    · exact h2 r' h
    · rw [List.mem_singleton.1 h]; exact hx.rd.len
  · rcases snoc_at hy with ⟨hi, hy⟩ | ⟨rfl, rfl⟩
    · rcases snoc_at hr' with ⟨_, hr'⟩ | ⟨e, _⟩
      · rw [e1 i hi]; exact h3 i y r' hy hr'
      · omega
    · rcases snoc_at hr' with ⟨e, _⟩ | ⟨_, rfl⟩
      · omega
      · rw [e2]; exact hx
theorem NdRows.snoc {l : List Nd} {rows : List (List Value)} {K : List Atom} (h : NdRows l rows K) {x : Nd} {r : List Value} {L : List Atom} (hx : NdOwn x r L) : NdRows (l ++ [x]) (rows ++ [r]) (K ++ L) := by
  obtain ⟨h1, h2, Ls, rfl, h3⟩ := h
  obtain ⟨Ls', e1, e2, e3⟩ := flat_snoc Ls L l.length
  refine ⟨by simp [h1], fun r' hr' => ?_, Ls', by rw [List.length_append, List.length_singleton, e3], fun i y r' hy hr' => ?_⟩
  · rcases List.mem_append.1 hr' with h | h
    · exact h2 r' h
    · rw [List.mem_singleton.1 h]; exact hx.rd.len
  · rcases snoc_at hy with ⟨hi, hy⟩ | ⟨rfl, rfl⟩
    · rcases snoc_at hr' with ⟨_, hr'⟩ | ⟨e, _⟩
      · rw [e1 i hi]; exact h3 i y r' hy hr'
      · omega
    · rcases snoc_at hr' with ⟨e, _⟩ | ⟨_, rfl⟩
      · omega
      · rw [e2]; exact hx
theorem LtOwn.of {k : Nat} {n : Int} {b : Nat} {t : ByteArray} {items : List Lt} {sv : Value} {rows : List (List Value)} {sp : List Value} {K : List Atom} (hsl : IsSl 5 sv items.length rows.flatten sp) (h : LtRows items rows K) (wf : LtWf k n b t items.length) :
    LtOwn (.mk k n b t items) [cv k, vi n, uv b, .string t, sv] (slA sv rows.flatten sp ++ K) := by
  obtain ⟨h1, h2, Ls, rfl, h3⟩ := h
  exact .mk hsl h1 h2 h3 wf (List.Perm.refl _)
theorem LtOwn.parts {x : Lt} {vs : List Value} {L : List Atom} (h : LtOwn x vs L) : ∃ sv rows sp K, vs = [cv x.kind, vi x.n, uv x.bits, .string x.text, sv] ∧ IsSl 5 sv x.items.length rows.flatten sp ∧ LtRows x.items rows K ∧ LtWf x.kind x.n x.bits x.text x.items.length ∧ L.Perm (slA sv rows.flatten sp ++ K) := by
  cases h with
  | mk hsl hl h5 hr wf hL => exact ⟨_, _, _, _, rfl, hsl, ⟨hl, h5, _, rfl, hr⟩, wf, hL⟩
theorem NdOwn.of {k : Nat} {s : ByteArray} {lit : Lt} {args temps : List ByteArray} {kids : List Nd} {p : Int} {lv : List Value} {av tv sv : Value} {rows : List (List Value)} {sp : List Value} {LL LA LT K : List Atom} (hsl : IsSl 11 sv kids.length rows.flatten sp) (h : NdRows kids rows K) (wf : NdWf k s kids.length p) (hlt : LtOwn lit lv LL) (hav : TxOwn av args LA) (htv : TxOwn tv temps LT) :
    NdOwn (.mk k s lit args temps kids p) ([cv k, .string s] ++ lv ++ [av, tv, sv, vi p]) (LL ++ (LA ++ (LT ++ (slA sv rows.flatten sp ++ K)))) := by
  obtain ⟨h1, h2, Ls, rfl, h3⟩ := h
  exact .mk hsl h1 h2 h3 wf hlt hav htv (List.Perm.refl _)
theorem NdOwn.parts {x : Nd} {vs : List Value} {L : List Atom} (h : NdOwn x vs L) : ∃ lv av tv sv rows sp LL LA LT K, vs = [cv x.kind, .string x.name] ++ lv ++ [av, tv, sv, vi x.at_] ∧ IsSl 11 sv x.kids.length rows.flatten sp ∧ NdRows x.kids rows K ∧ NdWf x.kind x.name x.kids.length x.at_ ∧
    LtOwn x.lit lv LL ∧ TxOwn av x.args LA ∧ TxOwn tv x.temps LT ∧ L.Perm (LL ++ (LA ++ (LT ++ (slA sv rows.flatten sp ++ K)))) := by
  cases h with
  | mk hsl hl h11 hr wf hlt hav htv hL => exact ⟨_, _, _, _, _, _, _, _, _, _, rfl, hsl, ⟨hl, h11, _, rfl, hr⟩, wf, hlt, hav, htv, hL⟩
structure Foc (p9 : Nat) (x0 : Nd) (M : List Atom) (b o : Nat) (x : Nd) (vs : List Value) (L R : List Atom) : Prop where
  own : NdOwn x vs L
  here : M.Perm (cellsAt b o vs ++ (L ++ R))
  w : x.w ≤ x0.w
  back : ∀ y ws L', NdOwn y ws L' → ndEq x y = false → ndEq y x = false → ∃ z us Lz, ndEq x0 z = false ∧ ndEq z x0 = false ∧ NdOwn z us Lz ∧ (cellsAt b o ws ++ (L' ++ R)).Perm (cellsAt p9 0 us ++ Lz)
theorem Foc.root {p : Nat} {x : Nd} {vs : List Value} {L : List Atom} (h : NdOwn x vs L) : Foc p x (cellsAt p 0 vs ++ L) p 0 x vs L [] where
  own := h
  here := by simp
  w := Nat.le_refl _
  back y ws L' h1 h2 h3 := ⟨y, ws, L', h2, h3, h1, by simp⟩
theorem Foc.kid {p9 : Nat} {x0 : Nd} {M : List Atom} {b o : Nat} {x y : Nd} {vs : List Value} {L R : List Atom} (h : Foc p9 x0 M b o x vs L R) {j : Nat} (hy : x.kids[j]? = some y) :
    ∃ bk o' c row L' R', vs[9]? = some (.slice (some ⟨bk, o', none⟩) x.kids.length c) ∧ Foc p9 x0 M bk (o' + j * 11) y row L' R' := by
  obtain ⟨bk, o', c, row, Lj, Rk, e1, hown, hp, hput⟩ := h.own.kid hy
  have perm5 : ∀ A B C D E : List Atom, (B ++ (C ++ (A ++ (D ++ E)))).Perm (A ++ ((B ++ (C ++ D)) ++ E)) := fun A B C D E => by
    have e : A ++ ((B ++ (C ++ D)) ++ E) = A ++ ((B ++ C) ++ (D ++ E)) := by simp [List.append_assoc]
    have e2 : B ++ (C ++ (A ++ (D ++ E))) = (B ++ C) ++ (A ++ (D ++ E)) := by simp [List.append_assoc]
    rw [e, e2]
    exact perm_lead3 _ _ _
  refine ⟨bk, o', c, row, Lj, cellsAt b o vs ++ (Rk ++ R), e1, hown, ?_, ?_, fun y' ws L' g1 g2 g3 => ?_⟩
  · exact h.here.trans ((((hp.append_right R).append_left _).trans (perm5 _ _ _ _ _).symm))
  · have h1 := Nd.ws_mem (List.mem_of_getElem? hy)
    have h2 := h.w
    cases x
    simp only [Nd.w, Nd.kids] at h2 h1
    omega
  · obtain ⟨z, us, Lz, k1, k2, k3, k4⟩ := h.back _ vs _ (hput y' ws L' g1) (ndEq_setKid (y := y') hy g2) (ndEq_setKid' (y := y') hy g3)
    exact ⟨z, us, Lz, k1, k2, k3, (perm5 _ _ _ _ _).trans k4⟩
def xorI (n : Int) : Int := IntKind.i64.wrap ((BitVec.ofInt 64 n ^^^ BitVec.ofInt 64 1).toNat : Int)
theorem bv_wrap (z : Int) : BitVec.ofInt 64 (IntKind.i64.wrap z) = BitVec.ofInt 64 z := by
  apply BitVec.eq_of_toNat_eq
  rw [BitVec.toNat_ofInt, BitVec.toNat_ofInt]
  simp only [IntKind.wrap, IntKind.bits, IntKind.signed]
  simp
  split <;> omega
theorem xorI_ne (n : Int) : xorI n ≠ n := by
  intro h
  have h1 := congrArg (BitVec.ofInt 64) h
  unfold xorI at h1
  rw [bv_wrap] at h1
  have h2 : BitVec.ofInt 64 (((BitVec.ofInt 64 n ^^^ BitVec.ofInt 64 1).toNat : Nat) : Int) = BitVec.ofInt 64 n ^^^ BitVec.ofInt 64 1 := by
    rw [BitVec.ofInt_natCast, BitVec.ofNat_toNat, BitVec.setWidth_eq]
  rw [h2] at h1
  have h3 := congrArg (fun b => BitVec.ofInt 64 n ^^^ b) h1
  simp only [← BitVec.xor_assoc, BitVec.xor_self, BitVec.zero_xor] at h3
  exact absurd h3 (by decide)
theorem xorI_in (n : Int) : -9223372036854775808 ≤ xorI n ∧ xorI n ≤ 9223372036854775807 := by
  unfold xorI
  simp only [IntKind.wrap, IntKind.bits, IntKind.signed]
  simp
  split <;> omega
theorem xorB {k : Nat} (h : k < 256) : IntKind.u8.wrap ((BitVec.ofInt 8 (k : Int) ^^^ BitVec.ofInt 8 1).toNat : Int) = ((k ^^^ 1 : Nat) : Int) := by
  have e : (BitVec.ofInt 8 (k : Int)).toNat = k := by rw [BitVec.toNat_ofInt]; omega
  rw [BitVec.toNat_xor, e]
  exact wrapB_lt (Nat.xor_lt_two_pow (n := 8) h (by decide))
theorem xorB_ne (k : Nat) : k ^^^ 1 ≠ k := by
  intro h
  have := congrArg (fun b => k ^^^ b) h
  simp only [← Nat.xor_assoc, Nat.xor_self, Nat.zero_xor] at this
  exact absurd this (by decide)
theorem xorB_lt {k : Nat} (h : k < 256) : k ^^^ 1 < 256 := Nat.xor_lt_two_pow (n := 8) h (by decide)
theorem st_cat2 {P : Program} {n : Nat} {rs : List RO} {Γ : Env} {H : SH} {Z : List PanicEntry → Env → SH → Prop} {K : Env → SH → Prop} {d : Option Nat} {x y : Operand} {a b : ByteArray} (hx : ev Γ x = some (.string a)) (hy : ev Γ y = some (.string b)) (hb : a.size + b.size ≤ 9223372036854775807) (h : VO P n rs (putE d (.string (a ++ b)) Γ) H Z K) :
    VO P n (⟨d, none, .bin .add x y⟩ :: rs) Γ H Z K :=
  VO.pure rfl (fun ρ hρ => by simp only [pureV, hρ _ _ hx, hρ _ _ hy, binV, strV, hb, if_true]) h
def zLt : Lt := .mk 0 0 0 ⟨#[]⟩ []
def zNd : Nd := .mk 0 ⟨#[]⟩ zLt [] [] [] 0
theorem zLt_own : LtOwn zLt [.int .u8 0, .int .i64 0, .int .u64 0, .string ⟨#[]⟩, .slice none 0 0] [] :=
  LtOwn.of (items := []) (sv := .slice none 0 0) (rows := []) (sp := []) .nil LtRows.nil ⟨by decide, by decide, by decide, by decide, by decide⟩
theorem zNd_own : NdOwn zNd [.int .u8 0, .string ⟨#[]⟩, .int .u8 0, .int .i64 0, .int .u64 0, .string ⟨#[]⟩, .slice none 0 0, .slice none 0 0, .slice none 0 0, .slice none 0 0, .int .i64 0] [] :=
  NdOwn.of (kids := []) (sv := .slice none 0 0) (rows := []) (sp := []) .nil NdRows.nil ⟨by decide, by decide, by decide, by decide⟩ zLt_own (av := .slice none 0 0) (tv := .slice none 0 0) ⟨[], .nil, rfl, by decide, by simp⟩ ⟨[], .nil, rfl, by decide, by simp⟩
theorem Imp.turn {C D L R Lz A Cq : List Atom} (h : (C ++ (L ++ R)).Perm (D ++ Lz)) : Imp [C, L, R, A, Cq] [A, Cq, D, Lz] := by
  refine Imp.perm ?_
  simp only [List.flatten_cons, List.flatten_nil, List.append_nil]
  have e : C ++ (L ++ (R ++ (A ++ Cq))) = (C ++ (L ++ R)) ++ (A ++ Cq) := by simp [List.append_assoc]
  rw [e]
  refine (h.append_right _).trans ?_
  refine List.perm_append_comm.trans ?_
  rw [List.append_assoc]
def RdB (A : List Atom) (v : Value) (l : List Nat) : Prop := ∃ a c, v = .slice a l.length c ∧ l.length ≤ 1099511627776 ∧ ∀ (i : Nat) t, l[i]? = some t → ∃ b o, a = some ⟨b, o, none⟩ ∧ Atom.cell b (o + i) (cv t) ∈ A ∧ t < 256
section
variable {H : Type} {enc : TypeId × Value → H} {P : Program} {bulk : DataW H → Nat}
open Go.ChangeShapes Go.WideShapes Go.Deep
theorem rd_bytes (hb : Bulk bulk) {t e : TypeId} (ht : P.underlying t = some (.slice e)) (he : P.underlying e = some (.int .u8)) (hc : P.cellsOf e = 1) {W : World} {u : Value} {n : Nat} {x : DataW H × List MemPlace} {A : List Atom} (h : DataW.trod enc P W 0 (fun _ => true) true n t [u] = some x) (hf : W.noneFrozen x.2) (hA : ∀ a : Atom, a.holds W → a ∈ A) (hsz : bulk x.1 ≤ 1048576) :
    ∃ l : List Nat, RdB A u l := by
  obtain ⟨a, k, c, bk, o, us, D, Pl, m, rfl, ⟨hk, _⟩, ha, hi⟩ := rd_rows hb ht hc (by decide) h hf hA
  obtain ⟨l, hl, hx⟩ := choose_rows (α := Nat) (Q := fun i t => Atom.cell bk (o + i) (cv t) ∈ A ∧ t < 256) (n := k) (fun i hik => by
    obtain ⟨h1, h2, h3, h4, h5⟩ := hi i hik
    obtain ⟨s, hs, hd, hwf⟩ := DataW.trod_int he h4
    obtain ⟨k', rfl, hk'⟩ := wf_u8 hwf
    exact ⟨k', h3 _ (mem_cellsAt.2 ⟨0, .int .u8 k', by rw [hs]; rfl, by rw [Nat.mul_one]; rfl⟩), hk'⟩)
  refine ⟨l, ⟨a, c, by rw [hl], by omega, fun i t h => ?_⟩⟩
  have hik : i < k := by have := (List.getElem?_eq_some_iff.1 h).1; omega
  exact ⟨bk, o, ha (by omega), (hx i t h).1, (hx i t h).2⟩
end
end Go.V

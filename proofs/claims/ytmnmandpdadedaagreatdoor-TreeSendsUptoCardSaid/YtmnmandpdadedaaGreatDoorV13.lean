/-
  A tree without its places: what looking at it comes to, what is the same.
-/
import Derived.Test.YtmnmandpdadedaaGreatDoorV11
import Derived.Test.YtmnmandpdadedaaGreatDoorV12
import Derived.Test.YtmnmandpdadedaaGreatDoorV6
import Derived.ChangeOld
import Derived.RowKit3
import Derived.ChangeSame
import Derived.ChangeSlices
import Derived.RowKit
import Derived.Test.YtmnmandpdadedaaGreatDoorV9
import Derived.Deep.Slices
import Derived.Deep.Fields
set_option linter.unusedSimpArgs false
set_option linter.unusedVariables false
namespace Go.V
open Go
theorem bare_kind (x : Nd) : x.bare.kind = x.kind := by cases x; rfl
theorem bare_name (x : Nd) : x.bare.name = x.name := by cases x; rfl
theorem bares_eq : ∀ l : List Nd, Nd.bares l = l.map Nd.bare := by
  intro l
  induction l with
  | nil => rfl
  | cons x r ih => simp only [Nd.bares, ih, List.map_cons]
theorem valueR_bare (x : Nd) (p : Nat) (r : Rs) : valueR x.bare p r = valueR x p r := by
  cases x; rfl
theorem firstR_bare (x : Nd) (s : ByteArray) (r : Rs) : firstR x.bare s r = firstR x s r := by
  cases x; rfl
theorem valuesR_bare (p : Nat) : ∀ (l : List Nd) (rs : List Rs), valuesR p (l.map Nd.bare) rs = valuesR p l rs := by
  intro l
  induction l with
  | nil => intro rs; rfl
  | cons x r ih =>
    intro rs
    cases rs with
    | nil => rfl
    | cons q rs => simp only [List.map_cons, valuesR, ih, valueR_bare]
theorem msgsR_bare : ∀ (l : List Nd) (rs : List Rs), msgsR (l.map Nd.bare) rs = msgsR l rs := by
  intro l
  induction l with
  | nil => intro rs; rfl
  | cons x r ih =>
    intro rs
    cases rs with
    | nil => rfl
    | cons q rs => simp only [List.map_cons, msgsR, ih, bare_kind]
theorem stmtsR_bare : ∀ (l : List Nd) (rs : List Rs), stmtsR (l.map Nd.bare) rs = stmtsR l rs := by
  intro l
  induction l with
  | nil => intro rs; rfl
  | cons x r ih =>
    intro rs
    cases r with
    | nil =>
      cases rs with
      | nil => rfl
      | cons q rs => simp only [List.map_cons, List.map_nil, stmtsR, bare_kind, valueR_bare]
    | cons y r =>
      cases rs with
      | nil => rfl
      | cons q rs =>
        have := ih rs
        simp only [List.map_cons] at this ⊢
        simp only [stmtsR, valueR_bare, this]
theorem argsR_bare (s : ByteArray) (l : List Nd) (rs : List Rs) : argsR s (l.map Nd.bare) rs = argsR s l rs := by
  simp only [argsR, List.length_map, valuesR_bare]
theorem nodeR_bare (k : Nat) (s : ByteArray) (lit : Lt) (args temps : List ByteArray) (kids : List Nd) (rs : List Rs) : nodeR k s lit args temps (kids.map Nd.bare) rs = nodeR k s lit args temps kids rs := by
  match kids, rs with
  | [], rs => rfl
  | [x], [] => simp only [nodeR, List.map_cons, List.map_nil, ← valuesR_bare 1 [x], ← stmtsR_bare [x], ← argsR_bare s [x], List.length_cons, List.length_nil]
  | [x], [r] => simp only [nodeR, List.map_cons, List.map_nil, ← valuesR_bare 1 [x], ← stmtsR_bare [x], ← argsR_bare s [x], ← argsR_bare s [], ← valueR_bare x, ← firstR_bare x, List.length_cons, List.length_nil]
  | [x], r :: q :: rs => simp only [nodeR, List.map_cons, List.map_nil, ← valuesR_bare 1 [x], ← stmtsR_bare [x], ← argsR_bare s [x], ← argsR_bare s [], ← firstR_bare x, List.length_cons, List.length_nil]
  | x :: y :: l, [] =>
    have h1 := valuesR_bare 1 (x :: y :: l) []
    have h2 := stmtsR_bare (x :: y :: l) []
    have h3 := argsR_bare s (x :: y :: l) []
    simp only [List.map_cons] at h1 h2 h3 ⊢
    simp only [nodeR, h1, h2, h3, List.length_cons, List.length_map]
  | x :: y :: l, r :: rs =>
    have h1 := valuesR_bare 1 (x :: y :: l) (r :: rs)
    have h2 := stmtsR_bare (x :: y :: l) (r :: rs)
    have h3 := argsR_bare s (x :: y :: l) (r :: rs)
    have h4 := argsR_bare s (y :: l) rs
    have h5 := msgsR_bare (y :: l) rs
    simp only [List.map_cons] at h1 h2 h3 h4 h5 ⊢
    simp only [nodeR, h1, h2, h3, h4, h5, firstR_bare, bare_name, List.length_cons, List.length_map]
theorem nodeD_bare : ∀ (N : Nat) (x : Nd), x.w ≤ N → nodeD x.bare = nodeD x := by
  intro N
  induction N with
  | zero => intro x hx; have := x.w_pos; omega
  | succ N ih =>
    intro x hx
    cases x with
    | mk k s lit args temps kids p =>
    simp only [Nd.w] at hx
    have hk : nodesD (Nd.bares kids) = nodesD kids := by
      rw [nodesD_map, nodesD_map, bares_eq, List.map_map]
      exact List.map_congr_left fun y hy => ih y (by have := Nd.ws_mem hy; omega)
    rw [bares_eq] at hk
    simp only [Nd.bare, nodeD, bares_eq, nodeR_bare, hk]
theorem litEq_refl : ∀ (N : Nat) (x : Lt), x.size ≤ N → litEq x x = true := by
  intro N
  induction N with
  | zero => intro x hx; have := x.size_pos; omega
  | succ N ih =>
    intro x hx
    cases x with
    | mk k n b t items =>
    simp only [Lt.size] at hx
    have : litsEq items items = true := (litsEq_iff items items).2 ⟨rfl, fun j x y e1 e2 => by
      rw [e1] at e2; cases e2
      exact ih x (by have := Lt.sizes_mem (List.mem_of_getElem? e1); omega)⟩
    simp [litEq, this]
mutual
def ndSm : Nd → Nd → Bool
  | .mk k s l a t ks p, .mk k' s' l' a' t' ks' p' => decide (k = k') && decide (s = s') && decide (a = a') && decide (t = t') && litEq l l' && decide (p = p') && ndsSm ks ks'
def ndsSm : List Nd → List Nd → Bool
  | [], [] => true
  | x :: r, y :: q => ndSm x y && ndsSm r q
  | _, _ => false
end
theorem ndsSm_iff : ∀ l l' : List Nd, ndsSm l l' = true ↔ l.length = l'.length ∧ ∀ (j : Nat) x y, l[j]? = some x → l'[j]? = some y → ndSm x y = true := by
  intro l
  induction l with
  | nil =>
    intro l'
    cases l' with
    | nil => simp [ndsSm]
    | cons y r => simp [ndsSm]
  | cons x r ih =>
    intro l'
    cases l' with
    | nil => simp [ndsSm]
    | cons y q =>
      simp only [ndsSm, Bool.and_eq_true, ih q, List.length_cons]
      constructor
      · rintro ⟨h1, h2, h3⟩
        refine ⟨by omega, fun j => ?_⟩
        cases j with
        | zero => intro x' y' e1 e2; cases e1; cases e2; exact h1
        | succ j => intro x' y' e1 e2; exact h3 j x' y' (by simpa using e1) (by simpa using e2)
      · rintro ⟨h1, h2⟩
        exact ⟨h2 0 x y rfl rfl, by omega, fun j x' y' e1 e2 => h2 (j + 1) x' y' (by simpa using e1) (by simpa using e2)⟩
theorem ndsSm_false {l l' : List Nd} {j : Nat} {x y : Nd} (h1 : l[j]? = some x) (h2 : l'[j]? = some y) (h : ndSm x y = false) : ndsSm l l' = false :=
  Bool.eq_false_iff.2 fun e => by have := ((ndsSm_iff l l').1 e).2 j x y h1 h2; rw [h] at this; cases this
theorem ndsSm_len {l l' : List Nd} (h : l.length ≠ l'.length) : ndsSm l l' = false := Bool.eq_false_iff.2 fun e => h ((ndsSm_iff l l').1 e).1
theorem ndSm_refl : ∀ (N : Nat) (x : Nd), x.w ≤ N → ndSm x x = true := by
  intro N
  induction N with
  | zero => intro x hx; have := x.w_pos; omega
  | succ N ih =>
    intro x hx
    cases x with
    | mk k s lit args temps kids p =>
    simp only [Nd.w] at hx
    have hl := litEq_refl _ lit (Nat.le_refl _)
    have h3 : ndsSm kids kids = true := (ndsSm_iff _ _).2 ⟨rfl, fun j x y e1 e2 => by
      rw [e1] at e2; cases e2
      exact ih x (by have := Nd.ws_mem (List.mem_of_getElem? e1); omega)⟩
    simp [ndSm, h3, hl]
inductive LtOwn : Lt → List Value → List Atom → Prop
  | mk {k : Nat} {n : Int} {b : Nat} {t : ByteArray} {items : List Lt} {sv : Value} {rows : List (List Value)} {sp : List Value} {Ls : Nat → List Atom} {L : List Atom} (hsl : IsSl 5 sv items.length rows.flatten sp) (hl : rows.length = items.length) (h5 : ∀ r ∈ rows, r.length = 5)
      (hr : ∀ (i : Nat) x r, items[i]? = some x → rows[i]? = some r → LtOwn x r (Ls i)) (wf : LtWf k n b t items.length) (hL : L.Perm (slA sv rows.flatten sp ++ (List.range items.length).flatMap Ls)) : LtOwn (.mk k n b t items) [cv k, vi n, uv b, .string t, sv] L
def TxOwn (v : Value) (l : List ByteArray) (L : List Atom) : Prop := ∃ sp, IsSl 1 v l.length (l.map Value.string) sp ∧ L = slA v (l.map Value.string) sp ∧ l.length ≤ 1099511627776 ∧ ∀ t ∈ l, t.size ≤ 140737488355328
inductive NdOwn : Nd → List Value → List Atom → Prop
  | mk {k : Nat} {s : ByteArray} {lit : Lt} {args temps : List ByteArray} {kids : List Nd} {p : Int} {lv : List Value} {av tv sv : Value} {rows : List (List Value)} {sp : List Value} {Ls : Nat → List Atom} {LL LA LT L : List Atom} (hsl : IsSl 11 sv kids.length rows.flatten sp) (hl : rows.length = kids.length) (h11 : ∀ r ∈ rows, r.length = 11)
      (hr : ∀ (i : Nat) x r, kids[i]? = some x → rows[i]? = some r → NdOwn x r (Ls i)) (wf : NdWf k s kids.length p) (hlt : LtOwn lit lv LL) (hav : TxOwn av args LA) (htv : TxOwn tv temps LT)
      (hL : L.Perm (LL ++ (LA ++ (LT ++ (slA sv rows.flatten sp ++ (List.range kids.length).flatMap Ls))))) : NdOwn (.mk k s lit args temps kids p) ([cv k, .string s] ++ lv ++ [av, tv, sv, vi p]) L
theorem LtOwn.rd {x : Lt} {vs : List Value} {L : List Atom} (h : LtOwn x vs L) : LtRd L x vs := by
  induction h with
  | @mk k n b t items sv rows sp Ls L hsl hl h5 hr wf hL ih =>
    have := lt_made (B := (List.range items.length).flatMap Ls) (k := k) (n := n) (b := b) (t := t) hsl hl h5 (fun i x r e1 e2 => (ih i x r e1 e2).more fun z hz => List.mem_flatMap.2 ⟨i, List.mem_range.2 (List.getElem?_eq_some_iff.1 e1).1, hz⟩) wf
    exact this.more fun z hz => hL.symm.subset hz
theorem TxOwn.rd {v : Value} {l : List ByteArray} {L : List Atom} (h : TxOwn v l L) : RdT L v l := by
  obtain ⟨sp, h1, rfl, h3, h4⟩ := h
  exact texts_made rfl h1 h3 h4
theorem NdOwn.rd {x : Nd} {vs : List Value} {L : List Atom} (h : NdOwn x vs L) : NdRd L x vs := by
  induction h with
  | @mk k s lit args temps kids p lv av tv sv rows sp Ls LL LA LT L hsl hl h11 hr wf hlt hav htv hL ih =>
    have := nd_made (B := LL ++ (LA ++ (LT ++ (List.range kids.length).flatMap Ls))) hsl hl h11 (fun i x r e1 e2 => (ih i x r e1 e2).more fun z hz => by
      simp only [List.mem_append]
      exact .inr (.inr (.inr (List.mem_flatMap.2 ⟨i, List.mem_range.2 (List.getElem?_eq_some_iff.1 e1).1, hz⟩)))) wf (hlt.rd.more fun z hz => by simp [hz]) (hav.rd.more fun z hz => by simp [hz]) (htv.rd.more fun z hz => by simp [hz])
    refine this.more fun z hz => hL.symm.subset ?_
    simp only [List.mem_append] at hz ⊢
    rcases hz with h | h | h | h | h
    · exact .inr (.inr (.inr (.inl h)))
    · exact .inl h
    · exact .inr (.inl h)
    · exact .inr (.inr (.inl h))
    · exact .inr (.inr (.inr (.inr h)))
theorem NdOwn.len {x : Nd} {vs : List Value} {L : List Atom} (h : NdOwn x vs L) : vs.length = 11 := h.rd.len
theorem NdOwn.perm {x : Nd} {vs : List Value} {L M : List Atom} (h : NdOwn x vs L) (hp : M.Perm L) : NdOwn x vs M := by
  cases h with
  | mk hsl hl h11 hr wf hlt hav htv hL => exact .mk hsl hl h11 hr wf hlt hav htv (hp.trans hL)
theorem holds_loc {w : World} {a b : Atom} (ha : a.holds w) (hb : b.holds w) (h : a.loc = b.loc) : a = b := by
  cases a with
  | cell i k v =>
    cases b with
    | cell j l u =>
      simp only [Atom.loc, Prod.mk.injEq, Option.some.injEq] at h
      obtain ⟨rfl, rfl⟩ := h
      obtain ⟨c, t, lo, hi, h1, h2, _⟩ := ha
      obtain ⟨c', t', lo', hi', h3, h4, _⟩ := hb
      rw [h1] at h3
      cases h3
      rw [h2] at h4
      cases h4
      rfl
    | obj j o => simp [Atom.loc] at h
  | obj i o =>
    cases b with
    | cell j l u => simp [Atom.loc] at h
    | obj j p =>
      simp only [Atom.loc, Prod.mk.injEq, and_true] at h
      subst h
      have h1 := ha.1
      rw [hb.1] at h1
      cases h1
      rfl
theorem sat_of_list {w : World} : ∀ L : List Atom, (∀ a ∈ L, a.holds w) → ∃ L', Sat w L' ∧ ∀ a ∈ L, a ∈ L' := by
  intro L
  induction L with
  | nil => intro _; exact ⟨[], ⟨by simp, by simp⟩, by simp⟩
  | cons x L ih =>
    intro h
    obtain ⟨L', h1, h2⟩ := ih (fun a ha => h a (by simp [ha]))
    by_cases hx : x.loc ∈ L'.map Atom.loc
    · obtain ⟨y, hy, e⟩ := List.mem_map.1 hx
      have : y = x := holds_loc (h1.holds y hy) (h x (by simp)) e
      subst this
      refine ⟨L', h1, fun a ha => ?_⟩
      rcases List.mem_cons.1 ha with rfl | ha
      · exact hy
      · exact h2 a ha
    · refine ⟨x :: L', ⟨fun a ha => ?_, by simp only [List.map_cons, List.nodup_cons]; exact ⟨hx, h1.nodup⟩⟩, fun a ha => ?_⟩
      · rcases List.mem_cons.1 ha with rfl | ha
        · exact h a (by simp)
        · exact h1.holds a ha
      · rcases List.mem_cons.1 ha with rfl | ha
        · simp
        · simp [h2 a ha]
def blockAtoms (w : World) (i : Nat) : List Atom := match w.heap[i]? with
  | some (.cells c _ (lo, hi)) => (List.range c.size).filterMap fun j => if lo ≤ j ∧ j < hi then none else (c[j]?).map fun v => .cell i j v
  | some o => [.obj i o]
  | none => []
theorem sat_all (w : World) : ∃ L, Sat w L ∧ ∀ a : Atom, a.holds w → a ∈ L := by
  obtain ⟨L, h1, h2⟩ := sat_of_list (w := w) ((List.range w.heap.size).flatMap (blockAtoms w)) (by
    intro a ha
    obtain ⟨i, _, ha⟩ := List.mem_flatMap.1 ha
    unfold blockAtoms at ha
    split at ha
    · rename_i c t lo hi hb
      obtain ⟨j, _, hj⟩ := List.mem_filterMap.1 ha
      split at hj
      · cases hj
      · rename_i hf
        simp only [Option.map_eq_some_iff] at hj
        obtain ⟨v, hv, rfl⟩ := hj
        exact ⟨c, t, lo, hi, hb, hv, hf⟩
    · rename_i o hne hb
      simp only [List.mem_singleton] at ha
      subst ha
      refine ⟨hb, ?_⟩
      cases o <;> first | rfl | (rename_i c t fr; exact absurd rfl (hne c t fr.1 fr.2))
    · cases ha)
  refine ⟨L, h1, fun a ha => h2 a ?_⟩
  cases a with
  | cell i k v =>
    obtain ⟨c, t, lo, hi, hb, hv, hf⟩ := ha
    have hi' : i < w.heap.size := by
      rcases Nat.lt_or_ge i w.heap.size with h | h
      · exact h
      · rw [Array.getElem?_eq_none h] at hb; cases hb
    refine List.mem_flatMap.2 ⟨i, List.mem_range.2 hi', ?_⟩
    unfold blockAtoms
    rw [hb]
    refine List.mem_filterMap.2 ⟨k, List.mem_range.2 (Array.getElem?_eq_some_iff.1 hv).1, ?_⟩
    rw [if_neg hf, hv]; rfl
  | obj i o =>
    obtain ⟨hb, hc⟩ := ha
    have hi' : i < w.heap.size := by
      rcases Nat.lt_or_ge i w.heap.size with h | h
      · exact h
      · rw [Array.getElem?_eq_none h] at hb; cases hb
    refine List.mem_flatMap.2 ⟨i, List.mem_range.2 hi', ?_⟩
    unfold blockAtoms
    rw [hb]
    cases o <;> first | (simp; done) | (simp [isCells] at hc)
theorem old_same {w w' : World} {L : List Atom} (hL : ∀ a : Atom, a.holds w → a ∈ L) (hs : Sat w' L) (hk : Keeps w w') : ∀ i, i < w.heap.size → w'.heap[i]? = w.heap[i]? := by
  intro i hi
  have hb : w.heap[i]? = some w.heap[i] := Array.getElem?_eq_getElem hi
  generalize w.heap[i] = o at hb
  rw [hb]
  by_cases hc : isCells o = false
  · exact (hs.holds _ (hL (.obj i o) ⟨hb, hc⟩)).1
  · cases o <;> first | (exact absurd rfl hc) | skip
    rename_i c t fr
    obtain ⟨lo, hi2⟩ := fr
    obtain ⟨c', h1, h2, h3⟩ := hk.cells i c t lo hi2 hb
    rw [h1]
    congr 2
    apply Array.ext h2
    intro j hj1 hj2
    by_cases hf : lo ≤ j ∧ j < hi2
    · have := h3 j hf
      rw [Array.getElem?_eq_getElem hj1, Array.getElem?_eq_getElem hj2] at this
      exact Option.some.inj this
    · obtain ⟨c2, t2, lo2, hi3, g1, g2, _⟩ := hs.holds _ (hL (.cell i j c[j]) ⟨c, t, lo, hi2, hb, Array.getElem?_eq_getElem hj2, hf⟩)
      rw [h1] at g1
      cases g1
      rw [Array.getElem?_eq_getElem hj1] at g2
      exact Option.some.inj g2
theorem mapM_mono {α β : Type} {f g : α → Option β} : ∀ {l : List α} {r : List β}, (∀ x ∈ l, ∀ y, f x = some y → g x = some y) → l.mapM f = some r → l.mapM g = some r := by
  intro l
  induction l with
  | nil => intro r _ h; simpa using h
  | cons a l ih =>
    intro r hfg h
    simp only [List.mapM_cons, Option.bind_eq_bind, Option.pure_def, Option.bind_eq_some_iff] at h ⊢
    obtain ⟨y, h1, ys, h2, h3⟩ := h
    exact ⟨y, hfg a (by simp) y h1, ys, ih (fun x hx => hfg x (by simp [hx])) h2, h3⟩
theorem cells?_same {w w' : World} (hold : ∀ i, i < w.heap.size → w'.heap[i]? = w.heap[i]?) {base n : Nat} {a : Addr} {cs : List Value} (h : w.cells? base a n = some cs) : w'.cells? base a n = some cs := by
  unfold World.cells? at h ⊢
  split at h
  · rename_i hb
    rw [if_pos hb]
    refine mapM_mono (fun i _ v hv => ?_) h
    have hlt := World.block_lt_of_cell? w _ hv
    unfold World.cell? at hv ⊢
    rw [hold _ hlt]; exact hv
  · cases h
section
variable {H : Type} {enc : TypeId × Value → H} {P : Program} {w w' : World} {base : Nat} {sp : Nat → Bool} {held : Bool}
structure Closed (P : Program) (ok : TypeId → Prop) : Prop where
  ptr : ∀ t e, ok t → P.underlying t = some (.pointer e) → ok e
  slice : ∀ t e, ok t → P.underlying t = some (.slice e) → ok e ∧ 0 < P.cellsOf e
  struct : ∀ t fs, ok t → P.underlying t = some (.struct fs) → ∀ f ∈ fs.toList, ok f.type
  array : ∀ t n e, ok t → P.underlying t = some (.array n e) → ok e
  map : ∀ t k e, ok t → P.underlying t = some (.map k e) → ok e
def closedB (P : Program) (S : List TypeId) : Bool := S.all fun t => match P.underlying t with
  | some (.pointer e) => S.contains e
  | some (.slice e) => S.contains e && decide (0 < P.cellsOf e)
  | some (.struct fs) => fs.toList.all fun f => S.contains f.type
  | some (.array _ e) => S.contains e
  | some (.map _ e) => S.contains e
  | _ => true
theorem closed_of {S : List TypeId} (h : closedB P S = true) : Closed P (· ∈ S) := by
  have h' := List.all_eq_true.1 h
  refine ⟨fun t e ht hu => ?_, fun t e ht hu => ?_, fun t fs ht hu f hf => ?_, fun t n e ht hu => ?_, fun t k e ht hu => ?_⟩
  all_goals have := h' t ht
  all_goals rw [hu] at this
  all_goals simp only [List.contains_iff_mem, Bool.and_eq_true, decide_eq_true_eq, List.all_eq_true] at this
  · exact this
  · exact this
  · exact this f hf
  · exact this
  · exact this
theorem trodStep_same {ok : TypeId → Prop} (hcl : Closed P ok) (hold : ∀ i, i < w.heap.size → w'.heap[i]? = w.heap[i]?) (hsp : ∀ b, b < w.heap.size → sp b = true)
    {r r' : TypeId → List Value → Option (DataW H × List MemPlace)} (hr : ∀ t cs x, ok t → r t cs = some x → r' t cs = some x) {t : TypeId} {cs : List Value} {x : DataW H × List MemPlace} (ht : ok t)
    (h : DataW.trodStep enc P w base (fun _ => true) true r t cs = some x) : DataW.trodStep enc P w' base sp true r' t cs = some x := by
  unfold DataW.trodStep at h
  split at h
  case h_1 hu => unfold DataW.trodStep; simp only [hu]; exact h
  case h_2 hu => unfold DataW.trodStep; simp only [hu]; exact h
  case h_3 hu => unfold DataW.trodStep; simp only [hu]; exact h
  case h_4 hu => unfold DataW.trodStep; simp only [hu]; exact h
  case h_5 hu => unfold DataW.trodStep; simp only [hu]; exact h
  case h_6 e a hu =>
    unfold DataW.trodStep; simp only [hu]
    simp only [Option.map_eq_some_iff, Option.bind_eq_some_iff] at h ⊢
    obtain ⟨y, ⟨cs', hc, hy⟩, hx⟩ := h
    exact ⟨y, ⟨cs', cells?_same hold hc, hr _ _ _ (hcl.ptr t e ht hu) hy⟩, hx⟩
  case h_7 hu => unfold DataW.trodStep; simp only [hu]; exact h
  case h_8 e a len cap hu =>
    unfold DataW.trodStep; simp only [hu]
    obtain ⟨hoe, hpos⟩ := hcl.slice t e ht hu
    simp only at h
    split at h
    · rename_i hb
      rw [if_pos hb]
      simp only [Option.map_eq_some_iff, Option.bind_eq_some_iff, if_true] at h ⊢
      obtain ⟨elems, he, rest, hrest, hx⟩ := h
      have one : ∀ i y, (w.cells? base (a.add (i * P.cellsOf e)) (P.cellsOf e)).bind (r e) = some y → (w'.cells? base (a.add (i * P.cellsOf e)) (P.cellsOf e)).bind (r' e) = some y := by
        intro i y hy
        simp only [Option.bind_eq_some_iff] at hy ⊢
        obtain ⟨cs', hc, hy⟩ := hy
        exact ⟨cs', cells?_same hold hc, hr _ _ _ hoe hy⟩
      have hb' : (cap - len = 0) ∨ a.block < w.heap.size := by
        rcases Nat.eq_zero_or_pos (cap - len) with h0 | h0
        · exact .inl h0
        · right
          have hne : rest ≠ [] := by
            intro hn
            subst hn
            have := congrArg List.length (show [] = _ from rfl : ([] : List Nat) = [])
            have hlen : ∀ {l : List Nat} {g : Nat → Option (DataW H × List MemPlace)} {q : List (DataW H × List MemPlace)}, l.mapM g = some q → q.length = l.length := by
              intro l g
              induction l with
              | nil => intro q hq; simp at hq; subst hq; rfl
              | cons a l ih =>
                intro q hq
                simp only [List.mapM_cons, Option.bind_eq_bind, Option.pure_def, Option.bind_eq_some_iff] at hq
                obtain ⟨y, _, ys, h2, h3⟩ := hq
                cases h3
                simp [ih h2]
            have := hlen hrest
            simp at this; omega
          obtain ⟨y, hy⟩ := List.exists_mem_of_ne_nil _ hne
          obtain ⟨j, _, hj⟩ := mapM_mem_of hrest y hy
          simp only [Option.bind_eq_some_iff] at hj
          obtain ⟨cs', hc, _⟩ := hj
          have := World.cells?_block hc hpos
          have e1 : (a.add ((len + j) * P.cellsOf e)).block = a.block := by unfold Addr.add; split <;> rfl
          rw [e1] at this
          exact this
      refine ⟨elems, mapM_mono (fun i _ y hy => one i y hy) he, rest, ?_, hx⟩
      rcases hb' with h0 | h0
      · rw [h0] at hrest ⊢
        simp at hrest ⊢
        subst hrest
        rfl
      · rw [hsp _ h0]
        exact mapM_mono (fun i _ y hy => one _ y hy) hrest
    · cases h
  case h_9 fs hu =>
    unfold DataW.trodStep; simp only [hu]
    split at h
    · rename_i hl
      rw [if_pos hl]
      simp only [Option.map_eq_some_iff] at h ⊢
      obtain ⟨xs, hx, e⟩ := h
      exact ⟨xs, mapM_mono (fun f hf y hy => hr _ _ _ (hcl.struct t fs ht hu f hf) hy) hx, e⟩
    · cases h
  case h_10 n e hu =>
    unfold DataW.trodStep; simp only [hu]
    split at h
    · rename_i hl
      rw [if_pos hl]
      simp only [Option.map_eq_some_iff] at h ⊢
      obtain ⟨xs, hx, e1⟩ := h
      exact ⟨xs, mapM_mono (fun f _ y hy => hr _ _ _ (hcl.array t n e ht hu) hy) hx, e1⟩
    · cases h
  case h_11 hu => unfold DataW.trodStep; simp only [hu]; exact h
  case h_12 u v hu =>
    unfold DataW.trodStep; simp only [hu]
    exact h
  case h_13 hu => unfold DataW.trodStep; simp only [hu]; exact h
  case h_14 k e b hu =>
    unfold DataW.trodStep; simp only [hu]
    split at h
    · rename_i es clock hb
      have hlt : b < w.heap.size := by
        rcases Nat.lt_or_ge b w.heap.size with h' | h'
        · exact h'
        · simp [Array.getElem?_eq_none h'] at hb
      rw [hold b hlt, hb]
      dsimp only
      split at h
      · rename_i hc
        rw [if_pos hc]
        simp only [Option.bind_eq_some_iff] at h ⊢
        obtain ⟨entries, he, hd⟩ := h
        refine ⟨entries, mapM_mono (fun x _ y hy => ?_) he, hd⟩
        obtain ⟨key, hk, hz'⟩ := Option.bind_eq_some_iff.1 hy
        refine Option.bind_eq_some_iff.2 ⟨key, hk, ?_⟩
        split at hz'
        · rename_i hf
          rw [if_pos hf]
          simp only [Option.map_eq_some_iff] at hz' ⊢
          obtain ⟨q, hq, e⟩ := hz'
          exact ⟨q, hr _ _ _ (hcl.map t k _ ht hu) hq, e⟩
        · cases hz'
      · cases h
    · cases h
  case h_15 hu => unfold DataW.trodStep; simp only [hu]; exact h
  case h_16 hu => unfold DataW.trodStep; simp only [hu]; exact h
  case h_17 hu => unfold DataW.trodStep; simp only [hu]; exact h
  case h_18 hu => unfold DataW.trodStep; simp only [hu]; exact h
  case h_19 hu => unfold DataW.trodStep; simp only [hu]; exact h
  case h_20 hu => unfold DataW.trodStep; simp only [hu]; exact h
  case h_21 => cases h
theorem trod_same {ok : TypeId → Prop} (hcl : Closed P ok) (hold : ∀ i, i < w.heap.size → w'.heap[i]? = w.heap[i]?) (hsp : ∀ b, b < w.heap.size → sp b = true) :
    ∀ (n : Nat) (t : TypeId) (cs : List Value) (x : DataW H × List MemPlace), ok t → DataW.trod enc P w base (fun _ => true) true n t cs = some x → DataW.trod enc P w' base sp true n t cs = some x := by
  intro n
  induction n with
  | zero => intro t cs x _ h; simp [DataW.trod] at h
  | succ n ih =>
    intro t cs x ht h
    rw [DataW.trod_step] at h ⊢
    exact trodStep_same hcl hold hsp ih ht h
theorem trodAll_same {ok : TypeId → Prop} (hcl : Closed P ok) (hold : ∀ i, i < w.heap.size → w'.heap[i]? = w.heap[i]?) (hsp : ∀ b, b < w.heap.size → sp b = true) :
    ∀ {ts : List TypeId} {vs : List Value} {ds : List (DataW H)} {ps : List MemPlace}, (∀ t ∈ ts, ok t) → DataW.TrodAll enc P w base (fun _ => true) true ts vs ds ps → DataW.TrodAll enc P w' base sp true ts vs ds ps
  | [], [], [], _, _, h => h
  | _ :: _, _ :: _, _ :: _, _, ho, ⟨p, q, ⟨n, h1⟩, h2, e⟩ => ⟨p, q, ⟨n, trod_same hcl hold hsp n _ _ _ (ho _ (by simp)) h1⟩, trodAll_same hcl hold hsp (fun t ht => ho t (by simp [ht])) h2, e⟩
end
open Go Go.ChangeShapes Go.WideShapes
section
variable {H : Type} {enc : TypeId × Value → H} {P : Program}
theorem glue {f : FuncId} {fn : Func} {s : ChangeSpec} {rt : TypeId} {apart fresh handsOn : Bool} {W : World} {args : List Value} {ds gs : List (DataW H)} {before : List MemPlace}
    (hvars : s.vars = []) (hrt : fn.resultTypes = #[rt]) (hb : P.underlying rt = some .bool) (hfn : s.fn H (ds ++ gs) = { results := [.lit (.bool true)], args := ds })
    {ok : TypeId → Prop} (hcl : Closed P ok) (hok : ∀ t ∈ fn.params.toList, ok t) (hW : DataW.Whole enc P fn.params.toList s.vars apart W args ds gs before)
    (hF : ∀ A, (∀ a : Atom, a.holds W → a ∈ A) → Fun P f args [A] fun v Post => v = .bool true ∧ Post = [A]) :
    Calls P f args.toArray W fun e W' => ∃ v, e = .returned v ∧ s.post enc P fn apart fresh handsOn false W args.toArray v W' := by
  obtain ⟨A, hA, hall⟩ := sat_all W
  have h := (hF A hall).2 [] W (by simpa using hA)
  refine h.mono ?_
  rintro e W' ⟨v, Post, rfl, ⟨rfl, rfl⟩, hs, hk⟩
  have hs' : Sat W' A := by simpa using hs
  have hold := old_same hall hs' hk
  refine ⟨_, rfl, ds, gs, before, [], before, [], by simpa using hW, ?_, ?_, ?_, ?_, fun h => by cases h⟩
  · rw [hrt, hfn]
    exact trodAll_mk1 ⟨1, by simp [DataW.trod, hb, Value.cells]⟩
  · obtain ⟨p, q, h1, h2, h3, _, _⟩ := hW
    rw [hvars] at h2
    obtain ⟨rfl, rfl⟩ := trodVars_none h2
    rw [hfn]
    simp only [List.append_nil] at h3
    subst h3
    simpa using trodAll_same hcl hold (fun b hb => by simpa using hb) hok h1
  · rw [hfn, hvars]; rfl
  · refine ⟨hk.os, hk.output, fun i hi => ?_⟩
    rw [hold i hi]
    have : W.heap[i]? = some W.heap[i] := Array.getElem?_eq_getElem hi
    generalize W.heap[i] = o at this
    rw [this]
    cases o <;> first | exact ⟨rfl, rfl, rfl, fun _ _ => rfl⟩ | exact .inr ⟨rfl, rfl⟩ | rfl
theorem holds_cell {W : World} {b o : Nat} {v : Value} (h : W.cell? ⟨b, o, none⟩ = some v) (hf : W.frozen? ⟨b, o, none⟩ = false) : (Atom.cell b o v).holds W := by
  unfold World.cell? at h
  unfold World.frozen? at hf
  split at h
  · rename_i c t fr hb
    obtain ⟨lo, hi⟩ := fr
    simp only at hb hf h
    rw [hb] at hf
    simp only [Bool.and_eq_false_iff, decide_eq_false_iff_not] at hf
    refine ⟨c, t, lo, hi, hb, by simpa using h, fun hh => ?_⟩
    rcases hf with hf | hf
    · exact hf hh.1
    · exact hf hh.2
  · cases h
end
open Go Go.ChangeShapes Go.WideShapes Go.Deep
inductive SC where
  | int (k : IntKind)
  | str
def SC.ok : SC → Value → Prop
  | .int k, v => ∃ n, v = .int k n ∧ (Lit.int k n).wf = true
  | .str, v => ∃ s : ByteArray, v = .string s ∧ s.size ≤ maxLen
section
variable {H : Type} {enc : TypeId × Value → H} {P : Program} {W : World} {base : Nat}
theorem add_addr (b o i : Nat) : (⟨b, o, none⟩ : Addr).add i = ⟨b, o + i, none⟩ := by
  unfold Addr.add
  split
  · rename_i h0
    have : i = 0 := by simpa using h0
    subst this; rfl
  · rfl
theorem choose_rows {α : Type} {Q : Nat → α → Prop} {n : Nat} (h : ∀ i, i < n → ∃ x, Q i x) : ∃ l : List α, l.length = n ∧ ∀ i x, l[i]? = some x → Q i x := by
  induction n with
  | zero => exact ⟨[], rfl, by simp⟩
  | succ n ih =>
    obtain ⟨l, h1, h2⟩ := ih (fun i hi => h i (by omega))
    obtain ⟨x, hx⟩ := h n (by omega)
    refine ⟨l ++ [x], by simp [h1], fun i y hy => ?_⟩
    by_cases hi : i < l.length
    · rw [List.getElem?_append_left hi] at hy; exact h2 i y hy
    · rw [List.getElem?_append_right (by omega)] at hy
      have : i = n := by
        have := (List.getElem?_eq_some_iff.1 hy).1
        simp at this; omega
      subst this
      simp [h1] at hy
      subst hy; exact hx
end
structure Bulk {H : Type} (bulk : DataW H → Nat) : Prop where
  agg : ∀ l d, d ∈ l → bulk d < bulk (.agg l)
  sl : ∀ es sp d, d ∈ es → bulk d < bulk (.slice es sp)
  len : ∀ es sp, es.length ≤ bulk (.slice es sp)
  sls : ∀ es sp, (es.map bulk).sum ≤ bulk (.slice es sp)
  aggs : ∀ l, (l.map bulk).sum < bulk (.agg l)
  str : ∀ bs, bs.length ≤ bulk (.lit (.string bs))
theorem spot_noneV {W : World} {a : Addr} {v : Value} (h : W.cell? a = some v) : a = ⟨a.block, a.off, none⟩ := by
  obtain ⟨b, o, s⟩ := a
  cases s with
  | none => rfl
  | some s =>
    unfold World.cell? at h
    split at h
    · simp at h
    · cases h
section
variable {H : Type} {enc : TypeId × Value → H} {P : Program} {bulk : DataW H → Nat}
theorem rd_rows (hb : Bulk bulk) {t e : TypeId} {sz : Nat} (ht : P.underlying t = some (.slice e)) (hc : P.cellsOf e = sz) (hpos : 0 < sz) {W : World} {u : Value} {n : Nat} {x : DataW H × List MemPlace} {A : List Atom} (h : DataW.trod enc P W 0 (fun _ => true) true n t [u] = some x) (hf : W.noneFrozen x.2) (hA : ∀ a : Atom, a.holds W → a ∈ A) :
    ∃ (a : Option Addr) (k c bk o : Nat) (us : Nat → List Value) (D : Nat → DataW H) (Pl : Nat → List MemPlace) (m : Nat), u = .slice a k c ∧ (k ≤ bulk x.1 ∧ ((List.range' 0 k).map fun i => bulk (D i)).sum ≤ bulk x.1 ∧ k ≤ c) ∧ (0 < k → a = some ⟨bk, o, none⟩) ∧ ∀ i, i < k → bulk (D i) < bulk x.1 ∧ (us i).length = sz ∧ (∀ y ∈ cellsAt bk (o + i * sz) (us i), y ∈ A) ∧ DataW.trod enc P W 0 (fun _ => true) true m e (us i) = some (D i, Pl i) ∧ W.noneFrozen (Pl i) := by
  rcases open_slice ht h with ⟨h1, _⟩ | ⟨a, len, cap, m, n', D, Pl, hcs, _, hl, _, hm, hx, hi⟩
  · simp only [List.cons.injEq, and_true] at h1
    exact ⟨none, 0, 0, 0, 0, fun _ => [], fun _ => .nil, fun _ => [], 0, h1, ⟨Nat.zero_le _, Nat.zero_le _, Nat.le_refl _⟩, fun h => absurd h (Nat.lt_irrefl 0), fun i hi => absurd hi (Nat.not_lt_zero _)⟩
  · simp only [List.cons.injEq, and_true] at hcs
    simp only [if_true] at hm
    subst hm
    subst hx
    rw [hc] at hi
    obtain ⟨us, hus⟩ : ∃ us : Nat → List Value, ∀ i, i < m → W.cells? 0 (a.add (i * sz)) sz = some (us i) ∧ DataW.trod enc P W 0 (fun _ => true) true n' e (us i) = some (D i, Pl i) :=
      ⟨fun i => if h : i < m then (hi i h).choose else [], fun i h => by simp only [dif_pos h]; exact (hi i h).choose_spec⟩
    refine ⟨some a, len, m, a.block, a.off, us, D, Pl, n', hcs, ⟨?_, ?_, by omega⟩, fun hk => ?_, fun i hik => ?_⟩
    · have := hb.len ((List.range len).map D) ((List.range (m - len)).map fun j => D (len + j))
      simpa using this
    · have := hb.sls ((List.range len).map D) ((List.range (m - len)).map fun j => D (len + j))
      rw [List.map_map] at this
      rw [← List.range_eq_range']
      exact this
    · obtain ⟨h0, _⟩ := hus 0 (by omega)
      obtain ⟨_, _, hat⟩ := World.cells?_some h0
      have h00 := hat 0 hpos
      obtain ⟨_, hlen, _⟩ := World.cells?_some h0
      rw [List.getElem?_eq_getElem (by omega)] at h00
      have e1 : (a.add (0 * sz)).add 0 = a := by rw [Nat.zero_mul]; rfl
      rw [e1] at h00
      rw [← spot_noneV h00]
    · obtain ⟨h0, h1⟩ := hus i (by omega)
      obtain ⟨_, hlen, hat⟩ := World.cells?_some h0
      have ha : a = ⟨a.block, a.off, none⟩ := by
        obtain ⟨g0, _⟩ := hus 0 (by omega)
        obtain ⟨_, glen, gat⟩ := World.cells?_some g0
        have h00 := gat 0 hpos
        rw [List.getElem?_eq_getElem (by omega)] at h00
        have e1 : (a.add (0 * sz)).add 0 = a := by rw [Nat.zero_mul]; rfl
        rw [e1] at h00
        exact spot_noneV h00
      refine ⟨hb.sl _ _ _ (List.mem_map.2 ⟨i, List.mem_range.2 hik, rfl⟩), hlen, fun y hy => ?_, h1, fun b o hbo => hf b o ?_⟩
      · obtain ⟨j, v, hj, rfl⟩ := mem_cellsAt.1 hy
        have hjl := (List.getElem?_eq_some_iff.1 hj).1
        have hcell := hat j (by omega)
        rw [ha, add_addr, add_addr, hj] at hcell
        refine hA _ (holds_cell hcell (hf _ _ ?_))
        refine List.mem_append_left _ (MemPlace.mem_row.2 ⟨i * sz + j, ?_, ?_⟩)
        · rw [hc]
          have : (i + 1) * sz ≤ m * sz := Nat.mul_le_mul_right _ (by omega)
          rw [Nat.succ_mul] at this; omega
        · rw [Nat.add_assoc]
      · exact List.mem_append_right _ (List.mem_flatMap.2 ⟨i, List.mem_range.2 (by omega), hbo⟩)
theorem rd_texts (hb : Bulk bulk) {t e : TypeId} (ht : P.underlying t = some (.slice e)) (he : P.underlying e = some .string) (hc : P.cellsOf e = 1) {W : World} {u : Value} {n : Nat} {x : DataW H × List MemPlace} {A : List Atom} (h : DataW.trod enc P W 0 (fun _ => true) true n t [u] = some x) (hf : W.noneFrozen x.2) (hA : ∀ a : Atom, a.holds W → a ∈ A) (hsz : bulk x.1 ≤ 1048576) :
    ∃ l : List ByteArray, RdT A u l ∧ l.length ≤ bulk x.1 := by
  obtain ⟨a, k, c, bk, o, us, D, Pl, m, rfl, ⟨hk, _⟩, ha, hi⟩ := rd_rows hb ht hc (by decide) h hf hA
  obtain ⟨l, hl, hx⟩ := choose_rows (α := ByteArray) (Q := fun i t => Atom.cell bk (o + i) (.string t) ∈ A ∧ t.size ≤ 140737488355328) (n := k) (fun i hik => by
    obtain ⟨h1, h2, h3, h4, h5⟩ := hi i hik
    obtain ⟨s, hs, hd, _⟩ := DataW.trod_string he h4
    refine ⟨s, h3 _ (mem_cellsAt.2 ⟨0, .string s, by rw [hs]; rfl, by rw [Nat.mul_one]; rfl⟩), ?_⟩
    have e1 : D i = .lit (.string s.data.toList) := congrArg Prod.fst hd
    have := hb.str s.data.toList
    rw [e1] at h1
    have e2 : s.data.toList.length = s.size := by simp
    omega)
  refine ⟨l, ⟨a, c, by rw [hl], by omega, fun i t h => ?_⟩, by omega⟩
  have hik : i < k := by have := (List.getElem?_eq_some_iff.1 h).1; omega
  exact ⟨bk, o, ha (by omega), (hx i t h).1, (hx i t h).2⟩
structure LitT (P : Program) (t : TypeId) (sl : TypeId) : Prop where
  str : ∃ fs : Array Field, P.underlying t = some (.struct fs) ∧ fs.size = 5 ∧ ∃ t0 t1 t2 t3, (fs.toList.map fun f => (f.type, f.offset)) = [(t0, 0), (t1, 1), (t2, 2), (t3, 3), (sl, 4)] ∧ P.underlying t0 = some (.int .u8) ∧ P.underlying t1 = some (.int .i64) ∧ P.underlying t2 = some (.int .u64) ∧ P.underlying t3 = some .string ∧
    P.cellsOf t0 = 1 ∧ P.cellsOf t1 = 1 ∧ P.cellsOf t2 = 1 ∧ P.cellsOf t3 = 1 ∧ P.cellsOf sl = 1
  cells : P.cellsOf t = 5
  items : P.underlying sl = some (.slice t)
theorem wf_u8 {n : Int} (h : (Lit.int .u8 n).wf = true) : ∃ k : Nat, n = k ∧ k < 256 := by
  simp [Lit.wf] at h
  have e1 : IntKind.u8.min = 0 := by decide
  have e2 : IntKind.u8.max = 255 := by decide
  exact ⟨n.toNat, by omega, by omega⟩
theorem wf_u64 {n : Int} (h : (Lit.int .u64 n).wf = true) : ∃ k : Nat, n = k ∧ k < 18446744073709551616 := by
  simp [Lit.wf] at h
  have e1 : IntKind.u64.min = 0 := by decide
  have e2 : IntKind.u64.max = 18446744073709551615 := by decide
  exact ⟨n.toNat, by omega, by omega⟩
theorem wf_i64 {n : Int} (h : (Lit.int .i64 n).wf = true) : -9223372036854775808 ≤ n ∧ n ≤ 9223372036854775807 := by
  simp [Lit.wf] at h
  have e1 : IntKind.i64.min = -9223372036854775808 := by decide
  have e2 : IntKind.i64.max = 9223372036854775807 := by decide
  omega
theorem take_one {α : Type} {l : List α} {i : Nat} {v : α} (h : (l.drop i).take 1 = [v]) : l[i]? = some v := by
  have := congrArg (fun m : List α => m[0]?) h
  simp only [List.getElem?_take, List.getElem?_drop] at this
  simpa using this
theorem flat_sub {ys : List (DataW H × List MemPlace)} {i : Nat} {y : DataW H × List MemPlace} (h : ys[i]? = some y) {q : MemPlace} (hq : q ∈ y.2) : q ∈ ys.flatMap (·.2) := List.mem_flatMap.2 ⟨y, List.mem_of_getElem? h, hq⟩
theorem rd_lit (hb : Bulk bulk) {t sl : TypeId} (hT : LitT P t sl) {W : World} {A : List Atom} (hA : ∀ a : Atom, a.holds W → a ∈ A) : ∀ (N : Nat) (n : Nat) (cs : List Value) (x : DataW H × List MemPlace), bulk x.1 ≤ N → N ≤ 1048576 → DataW.trod enc P W 0 (fun _ => true) true n t cs = some x → W.noneFrozen x.2 → ∃ l : Lt, LtRd A l cs ∧ l.size ≤ bulk x.1 := by
  obtain ⟨fs, hu, hsz, t0, t1, t2, t3, hfs, u0, u1, u2, u3, c0, c1, c2, c3, c4⟩ := hT.str
  intro N
  induction N using Nat.strongRecOn with
  | _ N ih =>
    intro n cs x hx hN h hf
    obtain ⟨ys, k, _, rfl, hlen, hyl, hfld⟩ := DataW.trod_struct hu h
    rw [hT.cells] at hlen
    replace hx : bulk (.agg (ys.map (·.1))) ≤ N := hx
    have hget : ∀ (i : Nat) (ty off : Nat), (fs.toList.map fun f => (f.type, f.offset))[i]? = some (ty, off) → DataW.trod enc P W 0 (fun _ => true) true k ty ((cs.drop off).take (P.cellsOf ty)) = ys[i]? := fun i ty off hi => by
      rw [List.getElem?_map] at hi
      obtain ⟨f, hf1, hf2⟩ := Option.map_eq_some_iff.1 hi
      cases hf2
      exact hfld i f (by rw [← hf1, Array.getElem?_toList])
    have hys : ∀ i, i < 5 → ys[i]? = some (ys.getD i (.nil, [])) := fun i hi => by
      rw [List.getD_eq_getElem?_getD, List.getElem?_eq_getElem (by omega)]; rfl
    have g0 := (hget 0 t0 0 (by rw [hfs]; rfl)).trans (hys 0 (by omega))
    have g1 := (hget 1 t1 1 (by rw [hfs]; rfl)).trans (hys 1 (by omega))
    have g2 := (hget 2 t2 2 (by rw [hfs]; rfl)).trans (hys 2 (by omega))
    have g3 := (hget 3 t3 3 (by rw [hfs]; rfl)).trans (hys 3 (by omega))
    have g4 := (hget 4 sl 4 (by rw [hfs]; rfl)).trans (hys 4 (by omega))
    rw [c0] at g0; rw [c1] at g1; rw [c2] at g2; rw [c3] at g3; rw [c4] at g4
    obtain ⟨z0, e0, _, w0⟩ := DataW.trod_int u0 g0
    obtain ⟨z1, e1, _, w1⟩ := DataW.trod_int u1 g1
    obtain ⟨z2, e2, _, w2⟩ := DataW.trod_int u2 g2
    obtain ⟨s, e3, d3, _⟩ := DataW.trod_string u3 g3
    have hlt : ∀ i, i < 5 → bulk (ys.getD i (.nil, [])).1 < bulk (.agg (ys.map (·.1))) := fun i hi => hb.agg _ _ (List.mem_map.2 ⟨_, List.mem_of_getElem? (hys i hi), rfl⟩)
    have hfr : ∀ i, i < 5 → W.noneFrozen (ys.getD i (.nil, [])).2 := fun i hi b o hbo => hf b o (flat_sub (hys i hi) hbo)
    obtain ⟨v4, e4⟩ : ∃ v, (cs.drop 4).take 1 = [v] := List.length_eq_one_iff.1 (by simp; omega)
    rw [e4] at g4
    obtain ⟨a, kk, c, bk, o, us, D, Pl, m, rfl, ⟨hk, hks, hkc⟩, ha, hi⟩ := rd_rows hb hT.items hT.cells (by decide) g4 (hfr 4 (by omega)) hA
    obtain ⟨l, hl, hq⟩ := choose_rows (α := Lt) (Q := fun i y => LtRd A y (us i) ∧ y.size ≤ bulk (D i)) (n := kk) (fun i hik => by
      obtain ⟨q1, _, _, q4, q5⟩ := hi i hik
      have q6 := hlt 4 (by omega)
      exact ih (bulk (D i)) (by omega) m (us i) (D i, Pl i) (Nat.le_refl _) (by omega) q4 q5)
    obtain ⟨k0, rfl, b0⟩ := wf_u8 w0
    obtain ⟨k2, rfl, b2⟩ := wf_u64 w2
    have b1 := wf_i64 w1
    have hcs : cs = [cv k0, vi z1, uv k2, .string s, .slice a l.length c] := by
      have p0 := take_one e0
      have p1 := take_one e1
      have p2 := take_one e2
      have p3 := take_one e3
      have p4 := take_one e4
      obtain ⟨a0, a1, a2, a3, a4, rfl⟩ : ∃ a0 a1 a2 a3 a4, cs = [a0, a1, a2, a3, a4] := by
        match cs, hlen with
        | [a0, a1, a2, a3, a4], _ => exact ⟨a0, a1, a2, a3, a4, rfl⟩
      simp only [List.getElem?_cons_zero, List.getElem?_cons_succ, Option.some.injEq] at p0 p1 p2 p3 p4
      rw [p0, p1, p2, p3, p4, hl]
    have hs3 : s.size ≤ 1048576 := by
      have h3 := hlt 3 (by omega)
      have e : (ys.getD 3 (.nil, [])).1 = .lit (.string s.data.toList) := congrArg Prod.fst d3
      rw [e] at h3
      have h5 := hb.str s.data.toList
      have e2 : s.data.toList.length = s.size := by simp
      omega
    have h4 := hlt 4 (by omega)
    have hsz4 : Lt.sizes l ≤ bulk (ys.getD 4 (.nil, [])).1 := by
      refine Nat.le_trans (Lt.sizes_le (f := fun i => bulk (D i)) (o := 0) (fun i x hx => ?_)) ?_
      · rw [Nat.zero_add]; exact (hq i x hx).2
      · rw [hl]; exact hks
    rw [hcs]
    refine ⟨.mk k0 z1 k2 s l, .mk ⟨b0, b1, b2, by omega, by omega⟩ (fun hp => ha (by omega)) (fun i hi' => (hi i (by omega)).2.2.1) (fun i x hx => (hq i x hx).1), ?_⟩
    show 1 + Lt.sizes l ≤ bulk (.agg (ys.map (·.1)))
    omega
structure NodT (P : Program) (t tl sl st : TypeId) : Prop where
  str : ∃ fs : Array Field, P.underlying t = some (.struct fs) ∧ fs.size = 7 ∧ ∃ t0 t1 t6, (fs.toList.map fun f => (f.type, f.offset)) = [(t0, 0), (t1, 1), (tl, 2), (st, 7), (st, 8), (sl, 9), (t6, 10)] ∧ P.underlying t0 = some (.int .u8) ∧ P.underlying t1 = some .string ∧ P.underlying t6 = some (.int .i64) ∧
    P.cellsOf t0 = 1 ∧ P.cellsOf t1 = 1 ∧ P.cellsOf t6 = 1 ∧ P.underlying st = some (.slice t1)
  cells : P.cellsOf t = 11
  cs : P.cellsOf sl = 1
  ct : P.cellsOf st = 1
  cl : P.cellsOf tl = 5
  kids : P.underlying sl = some (.slice t)
theorem rd_node (hb : Bulk bulk) {t tl sl st ll : TypeId} (hT : NodT P t tl sl st) (hL : LitT P tl ll) {W : World} {A : List Atom} (hA : ∀ a : Atom, a.holds W → a ∈ A) : ∀ (N : Nat) (n : Nat) (cs : List Value) (x : DataW H × List MemPlace), bulk x.1 ≤ N → N ≤ 1048576 → DataW.trod enc P W 0 (fun _ => true) true n t cs = some x → W.noneFrozen x.2 → ∃ l : Nd, NdRd A l cs ∧ l.w ≤ bulk x.1 := by
  obtain ⟨fs, hu, hsz, t0, t1, t6, hfs, u0, u1, u6, c0, c1, c6, us3⟩ := hT.str
  intro N
  induction N using Nat.strongRecOn with
  | _ N ih =>
    intro n cs x hx hN h hf
    obtain ⟨ys, k, _, rfl, hlen, hyl, hfld⟩ := DataW.trod_struct hu h
    rw [hT.cells] at hlen
    replace hx : bulk (.agg (ys.map (·.1))) ≤ N := hx
    have hget : ∀ (i : Nat) (ty off : Nat), (fs.toList.map fun f => (f.type, f.offset))[i]? = some (ty, off) → DataW.trod enc P W 0 (fun _ => true) true k ty ((cs.drop off).take (P.cellsOf ty)) = ys[i]? := fun i ty off hi => by
      rw [List.getElem?_map] at hi
      obtain ⟨f, hf1, hf2⟩ := Option.map_eq_some_iff.1 hi
      cases hf2
      exact hfld i f (by rw [← hf1, Array.getElem?_toList])
    have hys : ∀ i, i < 7 → ys[i]? = some (ys.getD i (.nil, [])) := fun i hi => by
      rw [List.getD_eq_getElem?_getD, List.getElem?_eq_getElem (by omega)]; rfl
    have g0 := (hget 0 t0 0 (by rw [hfs]; rfl)).trans (hys 0 (by omega))
    have g1 := (hget 1 t1 1 (by rw [hfs]; rfl)).trans (hys 1 (by omega))
    have g2 := (hget 2 tl 2 (by rw [hfs]; rfl)).trans (hys 2 (by omega))
    have g3 := (hget 3 st 7 (by rw [hfs]; rfl)).trans (hys 3 (by omega))
    have g4 := (hget 4 st 8 (by rw [hfs]; rfl)).trans (hys 4 (by omega))
    have g5 := (hget 5 sl 9 (by rw [hfs]; rfl)).trans (hys 5 (by omega))
    have g6 := (hget 6 t6 10 (by rw [hfs]; rfl)).trans (hys 6 (by omega))
    rw [c0] at g0; rw [c1] at g1; rw [hT.cl] at g2; rw [hT.ct] at g3 g4; rw [hT.cs] at g5; rw [c6] at g6
    obtain ⟨z0, e0, _, w0⟩ := DataW.trod_int u0 g0
    obtain ⟨s, e1, d1, _⟩ := DataW.trod_string u1 g1
    obtain ⟨z6, e6, _, w6⟩ := DataW.trod_int u6 g6
    have hlt : ∀ i, i < 7 → bulk (ys.getD i (.nil, [])).1 < bulk (.agg (ys.map (·.1))) := fun i hi => hb.agg _ _ (List.mem_map.2 ⟨_, List.mem_of_getElem? (hys i hi), rfl⟩)
    have hfr : ∀ i, i < 7 → W.noneFrozen (ys.getD i (.nil, [])).2 := fun i hi b o hbo => hf b o (flat_sub (hys i hi) hbo)
    obtain ⟨v3, e3⟩ : ∃ v, (cs.drop 7).take 1 = [v] := List.length_eq_one_iff.1 (by simp; omega)
    obtain ⟨v4, e4⟩ : ∃ v, (cs.drop 8).take 1 = [v] := List.length_eq_one_iff.1 (by simp; omega)
    obtain ⟨v5, e5⟩ : ∃ v, (cs.drop 9).take 1 = [v] := List.length_eq_one_iff.1 (by simp; omega)
    rw [e3] at g3; rw [e4] at g4; rw [e5] at g5
    have l2 := hlt 2 (by omega)
    have l3 := hlt 3 (by omega)
    have l4 := hlt 4 (by omega)
    have l5 := hlt 5 (by omega)
    obtain ⟨lit, hlit, hlw⟩ := rd_lit hb hL hA 1048576 k _ _ (by omega) (Nat.le_refl _) g2 (hfr 2 (by omega))
    obtain ⟨args, hargs, hargl⟩ := rd_texts hb us3 u1 c1 g3 (hfr 3 (by omega)) hA (by omega)
    obtain ⟨temps, htemps, htempl⟩ := rd_texts hb us3 u1 c1 g4 (hfr 4 (by omega)) hA (by omega)
    obtain ⟨a, kk, c, bk, o, us, D, Pl, m, rfl, ⟨hk, hks, hkc⟩, ha, hi⟩ := rd_rows hb hT.kids hT.cells (by decide) g5 (hfr 5 (by omega)) hA
    obtain ⟨l, hl, hq⟩ := choose_rows (α := Nd) (Q := fun i y => NdRd A y (us i) ∧ y.w ≤ bulk (D i)) (n := kk) (fun i hik => by
      obtain ⟨q1, _, _, q4, q5⟩ := hi i hik
      exact ih (bulk (D i)) (by omega) m (us i) (D i, Pl i) (Nat.le_refl _) (by omega) q4 q5)
    have hyl2 : ys.length = 7 := by rw [hyl]; exact hsz
    obtain ⟨k0, rfl, b0⟩ := wf_u8 w0
    have b6 := wf_i64 w6
    have hcs : cs = [cv k0, .string s] ++ (cs.drop 2).take 5 ++ [v3, v4, .slice a l.length c, vi z6] := by
      have p0 := take_one e0
      have p1 := take_one e1
      have p3 := take_one e3
      have p4 := take_one e4
      have p5 := take_one e5
      have p6 := take_one e6
      obtain ⟨a0, a1, a2, a3, a4, a5, a6, a7, a8, a9, a10, rfl⟩ : ∃ a0 a1 a2 a3 a4 a5 a6 a7 a8 a9 a10, cs = [a0, a1, a2, a3, a4, a5, a6, a7, a8, a9, a10] := by
        match cs, hlen with
        | [a0, a1, a2, a3, a4, a5, a6, a7, a8, a9, a10], _ => exact ⟨a0, a1, a2, a3, a4, a5, a6, a7, a8, a9, a10, rfl⟩
      simp only [List.getElem?_cons_zero, List.getElem?_cons_succ, Option.some.injEq] at p0 p1 p3 p4 p5 p6
      rw [p0, p1, p3, p4, p5, p6, hl]
      rfl
    have hs0 : s.size ≤ bulk (ys.getD 1 (.nil, [])).1 := by
      have e : (ys.getD 1 (.nil, [])).1 = .lit (.string s.data.toList) := congrArg Prod.fst d1
      rw [e]
      have h5 := hb.str s.data.toList
      have e2 : s.data.toList.length = s.size := by simp
      omega
    have hs1 : s.size ≤ 1048576 := by
      have h3 := hlt 1 (by omega)
      have e : (ys.getD 1 (.nil, [])).1 = .lit (.string s.data.toList) := congrArg Prod.fst d1
      rw [e] at h3
      have h5 := hb.str s.data.toList
      have e2 : s.data.toList.length = s.size := by simp
      omega
    rw [hcs]
    have hsz5 : Nd.ws l ≤ bulk (ys.getD 5 (.nil, [])).1 := by
      refine Nat.le_trans (Nd.ws_le (f := fun i => bulk (D i)) (o := 0) (fun i x hx => ?_)) ?_
      · rw [Nat.zero_add]; exact (hq i x hx).2
      · rw [hl]; exact hks
    refine ⟨.mk k0 s lit args temps l z6, .mk ⟨b0, by omega, by omega, b6⟩ hlit hargs htemps (fun hp => ha (by omega)) (fun i hi' => (hi i (by omega)).2.2.1) (fun i x hx => (hq i x hx).1) (by omega), ?_⟩
    have hag := hb.aggs (ys.map (·.1))
    have hsum : bulk (ys.getD 1 (.nil, [])).1 + bulk (ys.getD 2 (.nil, [])).1 + bulk (ys.getD 3 (.nil, [])).1 + bulk (ys.getD 4 (.nil, [])).1 + bulk (ys.getD 5 (.nil, [])).1 ≤ ((ys.map (·.1)).map bulk).sum := by
      match ys, hyl2 with
      | [y0, y1, y2, y3, y4, y5, y6], _ => simp only [List.map_cons, List.map_nil, List.sum_cons, List.sum_nil, List.getD_cons_zero, List.getD_cons_succ]; omega
    show 1 + s.size + lit.size + args.length + temps.length + Nd.ws l ≤ bulk (.agg (ys.map (·.1)))
    omega
end
end Go.V

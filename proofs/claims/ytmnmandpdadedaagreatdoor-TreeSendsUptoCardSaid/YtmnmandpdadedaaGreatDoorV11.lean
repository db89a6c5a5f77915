/-
  How much a tree is: its nodes and its literals; how deep it can be.
-/
import Derived.Test.YtmnmandpdadedaaGreatDoorV10
import Derived.Test.YtmnmandpdadedaaGreatDoorV6
import Derived.Test.YtmnmandpdadedaaGreatDoorV9
import Derived.Below
import Derived.Lib.Bytealg
import Derived.Test.YtmnmandpdadedaaGreatDoorV8
set_option linter.unusedSimpArgs false
set_option linter.unusedVariables false
namespace Go.V
open Go
mutual
def Nd.w : Nd → Nat
  | .mk _ s lit args temps kids _ => 1 + s.size + lit.size + args.length + temps.length + Nd.ws kids
def Nd.ws : List Nd → Nat
  | [] => 0
  | x :: r => x.w + Nd.ws r
end
theorem Nd.w_pos (x : Nd) : 0 < x.w := by cases x; simp only [Nd.w]; omega
theorem Nd.ws_mem {x : Nd} : ∀ {l : List Nd}, x ∈ l → x.w ≤ Nd.ws l := by
  intro l
  induction l with
  | nil => intro h; cases h
  | cons y r ih =>
    intro h
    simp only [Nd.ws]
    rcases List.mem_cons.1 h with rfl | h
    · omega
    · have := ih h; omega
theorem Nd.ws_le {f : Nat → Nat} : ∀ {l : List Nd} {o : Nat}, (∀ i x, l[i]? = some x → x.w ≤ f (o + i)) → Nd.ws l ≤ ((List.range' o l.length).map f).sum := by
  intro l
  induction l with
  | nil => intro o _; simp [Nd.ws]
  | cons y r ih =>
    intro o h
    have h0 := h 0 y rfl
    have h1 := ih (o := o + 1) (fun i x e => by have := h (i + 1) x e; rwa [Nat.add_assoc, Nat.add_comm 1 i])
    simp only [Nd.ws, List.length_cons, List.range'_succ, List.map_cons, List.sum_cons, Nat.add_zero] at h0 h1 ⊢
    omega
theorem Lt.sizes_le {f : Nat → Nat} : ∀ {l : List Lt} {o : Nat}, (∀ i x, l[i]? = some x → x.size ≤ f (o + i)) → Lt.sizes l ≤ ((List.range' o l.length).map f).sum := by
  intro l
  induction l with
  | nil => intro o _; simp [Lt.sizes]
  | cons y r ih =>
    intro o h
    have h0 := h 0 y rfl
    have h1 := ih (o := o + 1) (fun i x e => by have := h (i + 1) x e; rwa [Nat.add_assoc, Nat.add_comm 1 i])
    simp only [Lt.sizes, List.length_cons, List.range'_succ, List.map_cons, List.sum_cons, Nat.add_zero] at h0 h1 ⊢
    omega
theorem bothR_le {K d : Nat} {m : Bool} {p q : Rs} (hp : ∀ d m, p = some (d, m) → d ≤ K) (hq : ∀ d m, q = some (d, m) → d ≤ K) (h : bothR p q = some (d, m)) : d ≤ K := by
  cases p with
  | none => cases h
  | some p =>
    cases q with
    | none => cases h
    | some q =>
      simp only [bothR, Option.some.injEq, Prod.mk.injEq] at h
      have h1 := hp p.1 p.2 rfl
      have h2 := hq q.1 q.2 rfl
      omega
theorem stmtsR_len : ∀ l : List Nd, (stmtsR l (l.map nodeD)).length = l.length := by
  intro l
  induction l with
  | nil => rfl
  | cons x r ih =>
    cases r with
    | nil => rfl
    | cons y r => simpa [stmtsR] using ih
theorem stmtsR_get : ∀ (l : List Nd) (j : Nat) (y : Nd), l[j]? = some y → (stmtsR l (l.map nodeD))[j]? = some (if y.kind = 9 ∧ j + 1 = l.length then nodeD y else valueR y 1 (nodeD y)) := by
  intro l
  induction l with
  | nil => intro j y h; simp at h
  | cons x r ih =>
    intro j y h
    cases r with
    | nil =>
      cases j with
      | zero =>
        simp only [List.getElem?_cons_zero, Option.some.injEq] at h
        subst h
        simp [stmtsR]
      | succ j => simp at h
    | cons z r =>
      cases j with
      | zero =>
        simp only [List.getElem?_cons_zero, Option.some.injEq] at h
        subst h
        simp [stmtsR]
      | succ j =>
        have := ih j y (by simpa using h)
        simpa [stmtsR] using this
theorem nodeD_le : ∀ (N : Nat) (x : Nd), x.w ≤ N → ∀ (d : Nat) (m : Bool), nodeD x = some (d, m) → d ≤ 2 * x.w := by
  intro N
  induction N with
  | zero => intro x hx; have := x.w_pos; omega
  | succ N ih =>
    intro x hx d m h
    cases x with
    | mk k s lit args temps kids p =>
    simp only [Nd.w] at hx ⊢
    have hk : ∀ y ∈ kids, ∀ d m, nodeD y = some (d, m) → d ≤ 2 * Nd.ws kids := fun y hy d m e => by
      have h1 := Nd.ws_mem hy
      have h2 := ih y (by omega) d m e
      omega
    have hv : ∀ (y : Nd) (pl : Nat), y ∈ kids → ∀ d m, valueR y pl (nodeD y) = some (d, m) → d ≤ 2 * Nd.ws kids + 1 := fun y pl hy d m e => valueR_le (hk y hy) e
    have hvs : ∀ (l : List Nd) (pl : Nat), (∀ y ∈ l, y ∈ kids) → ∀ d m, maxR (valuesR pl l (l.map nodeD)) = some (d, m) → d ≤ 2 * Nd.ws kids + 1 := fun l pl hl d m e => by
      rw [valuesR_map] at e
      refine maxR_le (fun r hr d m e => ?_) e
      obtain ⟨y, hy, rfl⟩ := List.mem_map.1 hr
      exact hv y pl (hl y hy) d m e
    have ha : ∀ (l : List Nd) (q : ByteArray), (∀ y ∈ l, y ∈ kids) → ∀ d m, argsR q l (l.map nodeD) = some (d, m) → d ≤ 2 * Nd.ws kids + 1 := fun l q hl d m e => by
      obtain ⟨m', h2⟩ := manyR_some (mustR_some e)
      exact hvs l _ hl d m' h2
    have hf : ∀ (y : Nd) (q : ByteArray), y ∈ kids → ∀ d m, firstR y q (nodeD y) = some (d, m) → d ≤ 2 * Nd.ws kids + 1 := fun y q hy d m e => by
      unfold firstR at e
      split at e
      · have := hk y hy d m e; omega
      · exact hv y _ hy d m e
    have hone : ∀ d m, (match kids, kids.map nodeD with | [x], [r] => valueR x 1 r | _, _ => none) = some (d, m) → d ≤ 2 * Nd.ws kids + 1 := fun d m e => by
      match kids, hv, e with
      | [y], hv, e => exact hv y 1 (by simp) d m e
      | [], _, e => cases e
      | _ :: _ :: _, _, e => cases e
    simp only [nodeD, nodesD_map, nodeR] at h
    split at h
    · have h2 := litD_le _ lit (Nat.le_refl _) false d m (mustR_some h); omega
    split at h
    · have := mustR_some h; cases this; omega
    split at h
    · have := hone d m (mustR_some h); omega
    split at h
    · have h2 := mustR_some h
      match kids, hf, ha, h2 with
      | [], _, _, h2 => cases h2
      | y :: l, hf, ha, h2 =>
        have := bothR_le (hf y s (by simp)) (ha l s (fun z hz => by simp [hz])) h2
        omega
    split at h
    · have := ha kids s (fun _ h => h) d m (mustR_some h); omega
    split at h
    · have h2 := mustR_some h
      match kids, hf, hk, h2 with
      | [], _, _, h2 => cases h2
      | [_], _, _, h2 => cases h2
      | y :: z :: l, hf, hk, h2 =>
        obtain ⟨m', h3⟩ := manyR_some h2
        have := bothR_le (K := 2 * Nd.ws (y :: z :: l) + 1) (fun d m e => ?_) (hf y z.name (by simp)) h3
        · omega
        · change maxR (msgsR (z :: l) ((z :: l).map nodeD)) = some (d, m) at e
          rw [msgsR_map] at e
          have := maxR_le (K := 2 * Nd.ws (y :: z :: l)) (fun r hr d m e => by
            obtain ⟨u, hu, rfl⟩ := List.mem_map.1 hr
            exact hk u (List.mem_cons_of_mem _ hu) d m (mustR_some e)) e
          omega
    split at h
    · have h2 := mustR_some h
      simp only [namesR] at h2
      obtain ⟨m', h3⟩ := manyR_some (mustR_some h2)
      obtain ⟨m'', h4⟩ := manyR_some (mustR_some h3)
      obtain ⟨d', rfl, h5⟩ := deeper_some h4
      have := maxR_le (K := 2 * Nd.ws kids + 1) (fun r hr d m e => by
        obtain ⟨j, hj⟩ := List.getElem?_of_mem hr
        have hjl := (List.getElem?_eq_some_iff.1 hj).1
        rw [stmtsR_len] at hjl
        have hget := stmtsR_get kids j kids[j] (List.getElem?_eq_getElem hjl)
        rw [hget] at hj
        have hmem : kids[j] ∈ kids := List.getElem_mem _
        split at hj
        · cases hj; have := hk _ hmem d m e; omega
        · cases hj; exact hv _ 1 hmem d m e) h5
      omega
    split at h
    · obtain ⟨d', rfl, h5⟩ := deeper_some (mustR_some h)
      obtain ⟨m', h6⟩ := manyR_some h5
      have := hvs kids 1 (fun _ h => h) d' m' h6
      omega
    split at h
    · have := hone d m (mustR_some h); omega
    · cases h
theorem cells_row {b sz : Nat} : ∀ {rows : List (List Value)} {o : Nat}, (∀ r ∈ rows, r.length = sz) → ∀ {i : Nat} {r : List Value}, rows[i]? = some r → ∀ y ∈ cellsAt b (o + i * sz) r, y ∈ cellsAt b o rows.flatten := by
  intro rows
  induction rows with
  | nil => intro o _ i r h; simp at h
  | cons q rows ih =>
    intro o h i r hi y hy
    rw [List.flatten_cons, cellsAt_append, List.mem_append]
    cases i with
    | zero =>
      simp only [List.getElem?_cons_zero, Option.some.injEq] at hi
      subst hi
      rw [Nat.zero_mul, Nat.add_zero] at hy
      exact .inl hy
    | succ i =>
      right
      rw [h q (by simp)]
      refine ih (fun r hr => h r (by simp [hr])) (by simpa using hi) y ?_
      rwa [show o + sz + i * sz = o + (i + 1) * sz by rw [Nat.succ_mul]; omega]
theorem rows_len {sz : Nat} : ∀ {rows : List (List Value)}, (∀ r ∈ rows, r.length = sz) → rows.flatten.length = rows.length * sz := by
  intro rows
  induction rows with
  | nil => intro _; simp
  | cons q rows ih =>
    intro h
    rw [List.flatten_cons, List.length_append, h q (by simp), ih fun r hr => h r (by simp [hr]), List.length_cons, Nat.succ_mul]; omega
theorem lt_made {B : List Atom} {k : Nat} {n : Int} {b : Nat} {t : ByteArray} {items : List Lt} {sv : Value} {rows : List (List Value)} {sp : List Value} (hsl : IsSl 5 sv items.length rows.flatten sp) (hl : rows.length = items.length) (h5 : ∀ r ∈ rows, r.length = 5)
    (hr : ∀ (i : Nat) x r, items[i]? = some x → rows[i]? = some r → LtRd B x r) (wf : LtWf k n b t items.length) : LtRd (slA sv rows.flatten sp ++ B) (.mk k n b t items) [cv k, vi n, uv b, .string t, sv] := by
  have hget : ∀ i, i < items.length → rows[i]? = some (rows.getD i []) := fun i hi => by
    rw [List.getD_eq_getElem?_getD, List.getElem?_eq_getElem (by omega)]; rfl
  generalize hm : items.length = m at hsl
  generalize hxs : rows.flatten = xs at hsl ⊢
  cases hsl with
  | @mk bk o _ c _ _ h1 h2 h3 =>
    rw [← hm]
    subst hxs
    refine .mk (bk := bk) (o := o) (us := fun i => rows.getD i []) wf (fun _ => rfl) (fun i hi y hy => ?_) (fun i x hx => ?_)
    · refine List.mem_append_left _ ?_
      simp only [slA, cellsAt_append]
      exact List.mem_append_left _ (cells_row h5 (hget i hi) y hy)
    · have hi := (List.getElem?_eq_some_iff.1 hx).1
      exact (hr i x _ hx (hget i hi)).more fun y hy => List.mem_append_right _ hy
  | nil =>
    have h0 : items = [] := List.eq_nil_of_length_eq_zero hm
    subst h0
    exact .mk (bk := 0) (o := 0) (us := fun _ => []) wf (fun h => absurd h (by simp)) (fun i hi => absurd hi (by simp)) (fun i x hx => by simp at hx)
theorem nd_made {B : List Atom} {k : Nat} {s : ByteArray} {lit : Lt} {args temps : List ByteArray} {kids : List Nd} {p : Int} {lv : List Value} {av tv sv : Value} {rows : List (List Value)} {sp : List Value} (hsl : IsSl 11 sv kids.length rows.flatten sp) (hl : rows.length = kids.length) (h11 : ∀ r ∈ rows, r.length = 11)
    (hr : ∀ (i : Nat) x r, kids[i]? = some x → rows[i]? = some r → NdRd B x r) (wf : NdWf k s kids.length p) (hlt : LtRd B lit lv) (hav : RdT B av args) (htv : RdT B tv temps) : NdRd (slA sv rows.flatten sp ++ B) (.mk k s lit args temps kids p) ([cv k, .string s] ++ lv ++ [av, tv, sv, vi p]) := by
  have hget : ∀ i, i < kids.length → rows[i]? = some (rows.getD i []) := fun i hi => by
    rw [List.getD_eq_getElem?_getD, List.getElem?_eq_getElem (by omega)]; rfl
  have hsub : ∀ y ∈ B, y ∈ slA sv rows.flatten sp ++ B := fun y hy => List.mem_append_right _ hy
  have hlt2 := hlt.more hsub
  have hav2 := hav.more hsub
  have htv2 := htv.more hsub
  clear hlt hav htv
  generalize hm : kids.length = m at hsl
  generalize hxs : rows.flatten = xs at hsl ⊢
  cases hsl with
  | @mk bk o _ c _ _ h1 h2 h3 =>
    rw [← hm]
    subst hxs
    refine .mk (bk := bk) (o := o) (us := fun i => rows.getD i []) wf hlt2 hav2 htv2 (fun _ => rfl) (fun i hi y hy => ?_) (fun i x hx => ?_) (by omega)
    · refine List.mem_append_left _ ?_
      simp only [slA, cellsAt_append]
      exact List.mem_append_left _ (cells_row h11 (hget i hi) y hy)
    · have hi := (List.getElem?_eq_some_iff.1 hx).1
      exact (hr i x _ hx (hget i hi)).more hsub
  | nil =>
    have h0 : kids = [] := List.eq_nil_of_length_eq_zero hm
    subst h0
    exact .mk (bk := 0) (o := 0) (us := fun _ => []) wf hlt2 hav2 htv2 (fun h => absurd h (by simp)) (fun i hi => absurd hi (by simp)) (fun i x hx => by simp at hx) (by simp)
theorem texts_made {sv : Value} {l : List ByteArray} {sp : List Value} {n : Nat} (hn : n = l.length) (hsl : IsSl 1 sv n (l.map Value.string) sp) (hl : l.length ≤ 1099511627776) (ht : ∀ t ∈ l, t.size ≤ 140737488355328) : RdT (slA sv (l.map Value.string) sp) sv l := by
  generalize hx : l.map Value.string = xs at hsl
  cases hsl with
  | @mk bk o _ c _ _ h1 h2 h3 =>
    subst hx
    refine ⟨_, c, by rw [hn], hl, fun i t e => ⟨bk, o, rfl, ?_, ht t (List.mem_of_getElem? e)⟩⟩
    simp only [slA, cellsAt_append]
    refine List.mem_append_left _ (mem_cellsAt.2 ⟨i, _, ?_, rfl⟩)
    rw [List.getElem?_map, e]; rfl
  | nil =>
    have h0 : l = [] := List.eq_nil_of_length_eq_zero hn.symm
    subst h0
    exact ⟨none, 0, rfl, by simp, fun i t e => by simp at e⟩
theorem st_append0 {P : Program} {n : Nat} {rs : List RO} {Γ : Env} {H : SH} {Z : List PanicEntry → Env → SH → Prop} {K : Env → SH → Prop} {d : Option Nat} {t : TypeId} {size bytes : Nat} {zero : List Value} {s x : Operand} {b o k c c2 : Nat} {ad : Addr}
    (hs : ev Γ s = some (.slice (some ⟨b, o, none⟩) k c)) (hx : ev Γ x = some (.slice (some ad) 0 c2)) (hle : k ≤ c) (h : VO P n rs (putE d (.slice (some ⟨b, o, none⟩) k c) Γ) H Z K) : VO P n (⟨d, none, .append t size bytes zero s x⟩ :: rs) Γ H Z K := by
  refine VO.act' rfl rfl (fun ρ hρ => ⟨_, rfl, ?_⟩)
  rw [hρ _ _ hs, hρ _ _ hx]
  simp only [seqLen]
  rw [if_pos (show k + 0 ≤ c by omega)]
  have e0 : (Builtin.firstCells size 0 (.slice (some ad) 0 c2) : Sem (Array Value)) = pure #[] := by
    simp only [Builtin.firstCells, Nat.zero_mul]; rfl
  rw [e0]
  refine SWP.bind (SWP.pure ?_)
  refine SWP.bind (SWP.pure (SWP.pure ?_))
  exact ⟨_, H, [], .inl rfl, by simp, h⟩
theorem sizes_ge : ∀ l : List Lt, l.length ≤ Lt.sizes l := by
  intro l
  induction l with
  | nil => exact Nat.zero_le _
  | cons x r ih => have := x.size_pos; simp only [Lt.sizes, List.length_cons]; omega
theorem ws_ge : ∀ l : List Nd, l.length ≤ Nd.ws l := by
  intro l
  induction l with
  | nil => exact Nat.zero_le _
  | cons x r ih => have := x.w_pos; simp only [Nd.ws, List.length_cons]; omega
structure OwnR where
  v : Value
  rows : List (List Value)
  sp : List Value
def owR (p : OwnR) : List Atom := slA p.v p.rows.flatten p.sp
def OkR (sz : Nat) (p : OwnR) : Prop := IsSl sz p.v p.rows.length p.rows.flatten p.sp ∧ (∀ r ∈ p.rows, r.length = sz) ∧ p.rows.length ≤ 1073741824
def markK (mk : Nat → Value) (f k : Nat) (rows : List (List Value)) : List (List Value) := rows.mapIdx fun j r => if j < k then r.set f (mk j) else r
theorem markK_len {mk : Nat → Value} {f k : Nat} {rows : List (List Value)} : (markK mk f k rows).length = rows.length := by simp [markK]
theorem markK_get {mk : Nat → Value} {f k j : Nat} {rows : List (List Value)} {r : List Value} (h : rows[j]? = some r) : (markK mk f k rows)[j]? = some (if j < k then r.set f (mk j) else r) := by simp [markK, h]
theorem markK_all {mk : Nat → Value} {f k sz : Nat} {rows : List (List Value)} (h : ∀ r ∈ rows, r.length = sz) : ∀ r ∈ markK mk f k rows, r.length = sz := by
  intro r hr
  obtain ⟨j, hj⟩ := List.getElem?_of_mem hr
  have hjl : j < rows.length := by have := (List.getElem?_eq_some_iff.1 hj).1; rwa [markK_len] at this
  rw [markK_get (List.getElem?_eq_getElem hjl)] at hj
  cases hj
  have := h rows[j] (List.getElem_mem _)
  split
  · rw [List.length_set]; exact this
  · exact this
theorem markK_zero {mk : Nat → Value} {f : Nat} {rows : List (List Value)} : markK mk f 0 rows = rows := by
  apply List.ext_getElem?
  intro j
  cases h : rows[j]? with
  | none => rw [List.getElem?_eq_none (by rw [markK_len]; exact List.getElem?_eq_none_iff.1 h)]
  | some r => rw [markK_get h]; simp
theorem flat_set {sz f : Nat} {u : Value} (hf : f < sz) : ∀ {rows : List (List Value)} {k : Nat} {r : List Value}, (∀ r ∈ rows, r.length = sz) → rows[k]? = some r → (rows.set k (r.set f u)).flatten = rows.flatten.set (k * sz + f) u := by
  intro rows
  induction rows with
  | nil => intro k r _ h; simp at h
  | cons x rows ih =>
    intro k r h hk
    have hx := h x (by simp)
    cases k with
    | zero =>
      cases hk
      simp only [List.set_cons_zero, List.flatten_cons, Nat.zero_mul, Nat.zero_add]
      rw [List.set_append_left _ _ (by omega)]
    | succ k =>
      simp only [List.set_cons_succ, List.flatten_cons]
      rw [ih (fun r hr => h r (by simp [hr])) (by simpa using hk), List.set_append_right _ _ (by rw [hx, Nat.add_mul]; omega), hx]
      congr 2
      rw [Nat.add_mul]; omega
theorem flat_get {sz f : Nat} (hf : f < sz) : ∀ {rows : List (List Value)} {k : Nat} {r : List Value}, (∀ r ∈ rows, r.length = sz) → rows[k]? = some r → rows.flatten[k * sz + f]? = r[f]? := by
  intro rows
  induction rows with
  | nil => intro k r _ h; simp at h
  | cons x rows ih =>
    intro k r h hk
    have hx := h x (by simp)
    cases k with
    | zero =>
      cases hk
      simp only [List.flatten_cons, Nat.zero_mul, Nat.zero_add]
      rw [List.getElem?_append_left (by omega)]
    | succ k =>
      simp only [List.flatten_cons]
      rw [List.getElem?_append_right (by rw [hx, Nat.add_mul]; omega), hx, ← ih (fun r hr => h r (by simp [hr])) (k := k) (by simpa using hk)]
      congr 1
      rw [Nat.add_mul]; omega
theorem markK_succ {mk : Nat → Value} {f k : Nat} {rows : List (List Value)} {r : List Value} (h : rows[k]? = some r) : markK mk f (k + 1) rows = (markK mk f k rows).set k (r.set f (mk k)) := by
  apply List.ext_getElem?
  intro j
  have hkl := (List.getElem?_eq_some_iff.1 h).1
  by_cases e : k = j
  · subst e
    rw [markK_get h, if_pos (by omega), List.getElem?_set_self (by rw [markK_len]; exact hkl)]
  · rw [List.getElem?_set_ne e]
    cases hj : rows[j]? with
    | none => rw [List.getElem?_eq_none (by rw [markK_len]; exact List.getElem?_eq_none_iff.1 hj), List.getElem?_eq_none (by rw [markK_len]; exact List.getElem?_eq_none_iff.1 hj)]
    | some s =>
      rw [markK_get hj, markK_get hj]
      by_cases g : j < k
      · rw [if_pos g, if_pos (by omega)]
      · rw [if_neg g, if_neg (by omega)]
theorem mark_flat {mk : Nat → Value} {f k sz : Nat} (hf : f < sz) {rows : List (List Value)} (h : ∀ r ∈ rows, r.length = sz) (hk : k < rows.length) : (markK mk f (k + 1) rows).flatten = (markK mk f k rows).flatten.set (k * sz + f) (mk k) := by
  have h1 := List.getElem?_eq_getElem hk
  rw [markK_succ h1]
  have h2 := markK_get (mk := mk) (f := f) (k := k) h1
  rw [if_neg (by omega)] at h2
  exact flat_set hf (markK_all h) h2
theorem mark_cell {mk : Nat → Value} {f k n sz : Nat} (hf : f < sz) {rows : List (List Value)} (h : ∀ r ∈ rows, r.length = sz) (hk : k < rows.length) (hn : k < n) : (markK mk f n rows).flatten[k * sz + f]? = some (mk k) := by
  have h1 := List.getElem?_eq_getElem hk
  have h2 := markK_get (mk := mk) (f := f) (k := n) h1
  rw [if_pos hn] at h2
  rw [flat_get hf (markK_all h) h2, List.getElem?_set_self (by rw [h _ (List.getElem_mem _)]; exact hf)]
def bkR (mb : Nat → Value) (z : List Value) (f m : Nat) : List (List Value) := (List.range m).map fun k => z.set f (mb k)
theorem bkR_all {mb : Nat → Value} {z : List Value} {f m : Nat} : ∀ r ∈ bkR mb z f m, r.length = z.length := by
  intro r hr
  obtain ⟨k, _, rfl⟩ := List.mem_map.1 hr
  rw [List.length_set]
theorem bkR_succ (mb : Nat → Value) (z : List Value) (f m : Nat) : bkR mb z f (m + 1) = bkR mb z f m ++ [z.set f (mb m)] := by simp [bkR, List.range_succ]
theorem bkR_get {mb : Nat → Value} {z : List Value} {f m k : Nat} (h : k < m) : (bkR mb z f m)[k]? = some (z.set f (mb k)) := by simp [bkR, h]
def phK (mk : Nat → Nat → Value) (f i : Nat) (ps : List OwnR) : List OwnR := ps.mapIdx fun j p => if j < i then { p with rows := markK (mk j) f p.rows.length p.rows } else p
theorem phK_len {mk : Nat → Nat → Value} {f i : Nat} {ps : List OwnR} : (phK mk f i ps).length = ps.length := by simp [phK]
theorem phK_get {mk : Nat → Nat → Value} {f i j : Nat} {ps : List OwnR} {p : OwnR} (h : ps[j]? = some p) : (phK mk f i ps)[j]? = some (if j < i then { p with rows := markK (mk j) f p.rows.length p.rows } else p) := by simp [phK, h]
theorem phK_zero {mk : Nat → Nat → Value} {f : Nat} {ps : List OwnR} : phK mk f 0 ps = ps := by
  apply List.ext_getElem?
  intro j
  cases h : ps[j]? with
  | none => rw [List.getElem?_eq_none (by rw [phK_len]; exact List.getElem?_eq_none_iff.1 h)]
  | some r => rw [phK_get h]; simp
theorem phK_succ {mk : Nat → Nat → Value} {f i : Nat} {ps : List OwnR} {p : OwnR} (h : ps[i]? = some p) : phK mk f (i + 1) ps = (phK mk f i ps).set i { p with rows := markK (mk i) f p.rows.length p.rows } := by
  apply List.ext_getElem?
  intro j
  have hil := (List.getElem?_eq_some_iff.1 h).1
  by_cases e : i = j
  · subst e
    rw [phK_get h, if_pos (by omega), List.getElem?_set_self (by rw [phK_len]; exact hil)]
  · rw [List.getElem?_set_ne e]
    cases hj : ps[j]? with
    | none => rw [List.getElem?_eq_none (by rw [phK_len]; exact List.getElem?_eq_none_iff.1 hj), List.getElem?_eq_none (by rw [phK_len]; exact List.getElem?_eq_none_iff.1 hj)]
    | some s =>
      rw [phK_get hj, phK_get hj]
      by_cases g : j < i
      · rw [if_pos g, if_pos (by omega)]
      · rw [if_neg g, if_neg (by omega)]
theorem phK_all {mk : Nat → Nat → Value} {f : Nat} {ps : List OwnR} {i : Nat} {p : OwnR} (h : ps[i]? = some p) : ((phK mk f ps.length ps).drop i).flatMap owR = slA p.v (markK (mk i) f p.rows.length p.rows).flatten p.sp ++ ((phK mk f ps.length ps).drop (i + 1)).flatMap owR := by
  have hl := (List.getElem?_eq_some_iff.1 h).1
  have hg := phK_get (mk := mk) (f := f) (i := ps.length) h
  rw [if_pos hl] at hg
  obtain ⟨h1, h2⟩ := List.getElem?_eq_some_iff.1 hg
  rw [List.drop_eq_getElem_cons h1, h2]
  rfl
theorem RdRow.part {sz : Nat} {A : List Atom} {v : Value} {n : Nat} {ms : List Value} (h : RdRow sz A v n ms) {m : Nat} {u : Value} (hm : ms[m]? = some u) (hn : 0 < n) : ∃ b o c, v = .slice (some ⟨b, o, none⟩) n c ∧ Atom.cell b (o + m) u ∈ A := by
  rcases h with ⟨_, h2, _⟩ | ⟨b, o, c, h1, h2, h3, h4⟩
  · omega
  · exact ⟨b, o, c, h1, h4 _ (mem_cellsAt.2 ⟨m, u, hm, rfl⟩)⟩
theorem Sat.below {w w' : World} {L : List Atom} (h : RowKit.Below w.heap.size w w') (hs : Sat w L) : Sat w' L := by
  refine ⟨fun x hx => ?_, hs.nodup⟩
  have hl := hs.lt hx
  have hh := hs.holds x hx
  cases x with
  | cell b off v =>
    obtain ⟨c, t, lo, hi, hb, r⟩ := hh
    exact ⟨c, t, lo, hi, by rw [h.block b hl]; exact hb, r⟩
  | obj b o => exact ⟨by rw [h.block b hl]; exact hh.1, hh.2⟩
theorem Keeps.below {w w' : World} (h : RowKit.Below w.heap.size w w') : Keeps w w' :=
  ⟨h.os, h.output, h.size, fun i c t lo hi hi' => ⟨c, by rw [h.block i (Array.getElem?_eq_some_iff.1 hi').1]; exact hi', rfl, fun _ _ => rfl⟩⟩
theorem Fun.of_calls {P : Program} {f : Nat} {args : List Value} {Q : Value → Prop} (hc : callable P f = true) (h : ∀ w, Calls P f args.toArray w fun e w' => ∃ v, e = .returned v ∧ Q v ∧ w' = w) : Fun P f args [] (fun v Post => Q v ∧ Post = []) :=
  ⟨hc, fun F w hs => (h w).mono fun e w' ⟨v, h1, h2, h3⟩ => by subst h3; exact ⟨v, [], h1, ⟨h2, rfl⟩, hs, .refl _⟩⟩
theorem Fun.of_calls2 {P : Program} {f : Nat} {args : List Value} {Q : Value → Prop} {A : List Atom} (hc : callable P f = true) (h : ∀ w F, Sat w (A ++ F) → Calls P f args.toArray w fun e w' => ∃ v, e = .returned v ∧ Q v ∧ RowKit.Below w.heap.size w w') : Fun P f args [A] (fun v Post => Q v ∧ Post = [A]) :=
  ⟨hc, fun F w hs => (h w F (by simpa using hs)).mono fun e w' ⟨v, h1, h2, h3⟩ => ⟨v, [A], h1, ⟨h2, rfl⟩, hs.below h3, .below h3⟩⟩
theorem bytesN_len (s : ByteArray) : (bytesN s).length = s.size := by simp [bytesN]
theorem bytesN_get {s : ByteArray} {i : Nat} {c : UInt8} (h : s[i]? = some c) : (bytesN s)[i]? = some c.toNat := by
  have hi : i < s.size := by
    by_cases hi : i < s.size
    · exact hi
    · simp [hi] at h
  have h2 : s.data[i]? = some c := by
    have h3 : s[i]? = some s[i] := by simp [hi]
    rw [h3] at h
    rw [← h]
    exact Array.getElem?_eq_getElem (xs := s.data) hi
  simp [bytesN, h2]
theorem bytesN_lt (s : ByteArray) : ∀ c ∈ bytesN s, c < 256 := by
  intro c hc
  obtain ⟨x, _, rfl⟩ := List.mem_map.1 hc
  exact x.toNat_lt
theorem bytesN_inj {s t : ByteArray} (h : bytesN s = bytesN t) : s = t := by
  have h2 : s.data.toList = t.data.toList := by
    have hm : ∀ l m : List UInt8, l.map UInt8.toNat = m.map UInt8.toNat → l = m := by
      intro l
      induction l with
      | nil => intro m e; cases m with | nil => rfl | cons => cases e
      | cons a l ih =>
        intro m e
        cases m with
        | nil => cases e
        | cons b m =>
          simp only [List.map_cons, List.cons.injEq] at e
          rw [UInt8.toNat_inj.1 e.1, ih m e.2]
    exact hm _ _ h
  exact ByteArray.ext (Array.toList_inj.1 h2)
theorem bytesN_ex {s : ByteArray} {i : Nat} (h : i < s.size) : ∃ c : UInt8, s[i]? = some c ∧ (bytesN s)[i]? = some c.toNat := ⟨s[i], by simp [h], bytesN_get (by simp [h])⟩
def ixN : List Nat → Nat → Int
  | [], _ => -1
  | b :: l, c => if b = c then 0 else if ixN l c = -1 then -1 else ixN l c + 1
theorem ix_eq (l : List UInt8) (c : UInt8) : Lib.indexByte l c = ixN (l.map UInt8.toNat) c.toNat := by
  induction l with
  | nil => rfl
  | cons b l ih =>
    simp only [Lib.indexByte, List.map_cons, ixN, ih]
    by_cases h : b = c
    · subst h; simp
    · have : b.toNat ≠ c.toNat := fun e => h (UInt8.toNat_inj.1 e)
      simp [h, this]
theorem ixN_bin {c : Nat} (h : c < 256) : decide (0 ≤ ixN [43, 45, 42, 47, 92, 126, 60, 62, 61, 64, 37, 38, 63, 44, 33] c) = binB c := by
  have h2 : ∀ c : Fin 256, decide (0 ≤ ixN [43, 45, 42, 47, 92, 126, 60, 62, 61, 64, 37, 38, 63, 44, 33] c.val) = binB c.val := by decide +kernel
  exact h2 ⟨c, h⟩
theorem ixN_cases (l : List Nat) (c : Nat) : (ixN l c = -1 ∧ c ∉ l) ∨ ∃ p r : List Nat, l = p ++ c :: r ∧ c ∉ p ∧ ixN l c = p.length := by
  induction l with
  | nil => exact .inl ⟨rfl, by simp⟩
  | cons b l ih =>
    by_cases h : b = c
    · subst h; exact .inr ⟨[], l, rfl, by simp, by simp [ixN]⟩
    · rcases ih with ⟨h1, h2⟩ | ⟨p, r, h1, h2, h3⟩
      · exact .inl ⟨by simp [ixN, h, h1], by simp [h2, Ne.symm h]⟩
      · refine .inr ⟨b :: p, r, by simp [h1], by simp [h2, Ne.symm h], ?_⟩
        have hne : ¬ ((p.length : Int) = -1) := by omega
        simp [ixN, h, h3, hne]
theorem pieces_none : ∀ {l : List Nat}, 58 ∉ l → piecesL l = [l] := by
  intro l
  induction l with
  | nil => intro _; rfl
  | cons b l ih =>
    intro h
    simp only [List.mem_cons, not_or] at h
    simp only [piecesL, if_neg (Ne.symm h.1), ih h.2]
theorem pieces_cons : ∀ {p r : List Nat}, 58 ∉ p → piecesL (p ++ 58 :: r) = (p ++ [58]) :: piecesL r := by
  intro p r
  induction p with
  | nil => intro _; simp [piecesL]
  | cons b p ih =>
    intro h
    simp only [List.mem_cons, not_or] at h
    simp only [List.cons_append, piecesL, if_neg (Ne.symm h.1), ih h.2]
theorem all_run {l : List Nat} {p : Nat → Bool} {e : Nat} (h1 : e ≤ l.length) (h2 : ∀ k, k < e → p (l.getD k 0) = true) (h3 : e < l.length → p (l.getD e 0) = false) : l.all p = decide (e = l.length) := by
  by_cases h : e = l.length
  · rw [decide_eq_true h, List.all_eq_true]
    intro x hx
    obtain ⟨i, hi, rfl⟩ := List.getElem_of_mem hx
    have := h2 i (by omega)
    rwa [List.getD_eq_getElem?_getD, List.getElem?_eq_getElem hi] at this
  · rw [decide_eq_false h, List.all_eq_false]
    have hlt : e < l.length := by omega
    have := h3 hlt
    rw [List.getD_eq_getElem?_getD, List.getElem?_eq_getElem hlt] at this
    exact ⟨_, List.getElem_mem hlt, by simpa using this⟩
theorem bytesN_cons {s : ByteArray} (h : s ≠ ⟨#[]⟩) : ∃ (c : UInt8) (r : List Nat), s[0]? = some c ∧ bytesN s = c.toNat :: r ∧ c.toNat < 256 ∧ 0 < s.size := by
  have hpos : 0 < s.size := by
    rcases Nat.eq_zero_or_pos s.size with h2 | h2
    · exact absurd (ByteArray.ext (Array.eq_empty_of_size_eq_zero h2)) h
    · exact h2
  obtain ⟨c, hc, hc2⟩ := bytesN_ex hpos
  refine ⟨c, (bytesN s).tail, hc, ?_, c.toNat_lt, hpos⟩
  cases hb : bytesN s with
  | nil => rw [hb] at hc2; cases hc2
  | cons a r => rw [hb] at hc2; cases hc2; rfl
theorem bytesN_extract (s : ByteArray) (a b : Nat) : bytesN (s.extract a b) = ((bytesN s).take b).drop a := by
  simp only [bytesN, ByteArray.data_extract, Array.toList_extract, List.extract_eq_take_drop, List.map_take, List.map_drop, List.drop_take]
def ofN (l : List Nat) : ByteArray := ⟨(l.map Nat.toUInt8).toArray⟩
theorem bytesN_ofN {l : List Nat} (h : ∀ c ∈ l, c < 256) : bytesN (ofN l) = l := by
  simp only [bytesN, ofN, List.map_map]
  conv => rhs; rw [← List.map_id l]
  refine List.map_congr_left fun c hc => ?_
  exact Nat.mod_eq_of_lt (h c hc)
theorem pieces_flat (l : List Nat) : (piecesL l).flatten = l := by
  induction l with
  | nil => rfl
  | cons c r ih =>
    simp only [piecesL]
    split
    · rename_i h; simp [ih, h]
    · cases h : piecesL r with
      | nil => rw [h] at ih; simp at ih; simp [← ih]
      | cons p ps => rw [h] at ih; simp at ih ⊢; exact ih
theorem pieces_ex (t : ByteArray) : ∃ full : List ByteArray, full.map bytesN = piecesL (bytesN t) := by
  have h : ∀ p ∈ piecesL (bytesN t), ∀ c ∈ p, c < 256 := fun p hp c hc => bytesN_lt t c (by rw [← pieces_flat (bytesN t)]; exact List.mem_flatten.2 ⟨p, hp, hc⟩)
  generalize piecesL (bytesN t) = l at h
  refine ⟨l.map ofN, ?_⟩
  rw [List.map_map]
  conv => rhs; rw [← List.map_id l]
  exact List.map_congr_left fun p hp => bytesN_ofN (h p hp)
theorem runL_eq {on : List Nat → Bool} : ∀ {l : List Nat} {e : Nat}, e ≤ l.length → (∀ k, k < e → on (l.drop k) = true) → (e < l.length → on (l.drop e) = false) → runL on l = e := by
  intro l
  induction l with
  | nil => intro e h _ _; simp at h; simp [runL, h]
  | cons c r ih =>
    intro e h h2 h3
    cases e with
    | zero =>
      have := h3 (by simp)
      simp only [List.drop_zero] at this
      simp [runL, this]
    | succ e =>
      have h0 := h2 0 (by omega)
      simp only [List.drop_zero] at h0
      have := ih (e := e) (by simpa using h) (fun k hk => by simpa using h2 (k + 1) (by omega)) (fun hk => by simpa using h3 (by simpa using hk))
      simp [runL, h0, this]; omega
theorem signOn_drop {l : List Nat} {k : Nat} {c : Nat} (h : l[k]? = some c) : signOn (l.drop k) = (binB c && (decide (c ≠ 45) || !digB (l.getD (k + 1) 0))) := by
  obtain ⟨hk, rfl⟩ := List.getElem?_eq_some_iff.1 h
  rw [List.drop_eq_getElem_cons hk]
  simp only [signOn]
  congr 2
  rw [List.getD_eq_getElem?_getD]
  by_cases h2 : k + 1 < l.length
  · rw [List.drop_eq_getElem_cons h2]; simp [h2]
  · rw [List.drop_eq_nil_of_le (by omega), List.getElem?_eq_none (by omega)]; rfl
theorem sign_run {c : Nat} {r : List Nat} {e : Nat} (h0 : c ≠ 124) (hb : binB c = true) (h1 : e ≤ (c :: r).length) (h2 : ∀ k, k < e → 1 ≤ k → signOn ((c :: r).drop k) = true) (h3 : e < (c :: r).length → 1 ≤ e ∧ signOn ((c :: r).drop e) = false) : signL (c :: r) = e ∨ (e = 0) := by
  cases e with
  | zero => exact .inr rfl
  | succ e =>
    left
    simp only [signL, if_neg h0, hb, if_true]
    have := runL_eq (on := signOn) (l := r) (e := e) (by simpa using h1) (fun k hk => by simpa using h2 (k + 1) (by omega) (by omega)) (fun hk => by simpa using (h3 (by simpa using hk)).2)
    omega
theorem bytesN_append (s t : ByteArray) : bytesN (s ++ t) = bytesN s ++ bytesN t := by
  simp [bytesN]
section
variable {ops : Array Oper}
theorem coverC {both : Bool} {rs : List (RO × Oper)} {orders : List (List Nat)} (hc : coverG both rs ops orders = true) (t : Nat) :
    ∃ o ∈ orders, o.Perm (sched ops ops.size t (Array.replicate ops.size false)) ∧ (sched ops ops.size t (Array.replicate ops.size false)).Nodup ∧ (∀ i ∈ o, i < ops.size) ∧
      o.Pairwise (fun x y => indep (rs.getD y default) (rs.getD x default) = true ∨ [x, y].Sublist (sched ops ops.size t (Array.replicate ops.size false))) := by
  simp only [coverG, Bool.and_eq_true] at hc
  obtain ⟨⟨⟨hb, hd⟩, ho⟩, hp⟩ := hc
  have hu : unl ops (Array.replicate ops.size false) = List.range ops.size := by
    simp only [unl]
    refine List.filter_eq_self.2 (fun i hi => ?_)
    have := List.mem_range.1 hi
    simp [this]
  obtain ⟨s1, s2, _⟩ := sched_spec hb ops.size t (Array.replicate ops.size false) (by simp) (by rw [hu]; simp)
  generalize hl : sched ops ops.size t (Array.replicate ops.size false) = l at s1 s2 ⊢
  have hanc : ∀ {x y : Nat}, y < ops.size → x ∈ (ancs ops).getD y [] → Bef l x y := fun hy hx => hl ▸ anc_bef hb (Nat.le_refl _) (ancs_sound hx) hy
  have hmem : ∀ i, i ∈ l ↔ i < ops.size := fun i => by rw [s2, hu]; simp
  generalize hdd : clash both rs (ancs ops) ops.size = d at hd hp
  have hdlt : ∀ x ∈ d, x < ops.size := by
    intro x hx; rw [← hdd] at hx; simp only [clash, List.mem_filter, List.mem_range] at hx; exact hx.1
  have hsp : (l.filter (d.contains ·)).Perm d := by
    refine (List.perm_ext_iff_of_nodup (s1.filter _) (nodupB_spec hd)).2 (fun x => ?_)
    simp only [List.mem_filter, hmem, List.contains_iff_mem]
    exact ⟨fun h => h.2, fun h => ⟨hdlt x h, h⟩⟩
  have hall := List.all_eq_true.1 hp _ (mem_perms hsp)
  simp only [Bool.or_eq_true, Bool.not_eq_true', List.any_eq_true] at hall
  have hresp : pairsAll (fun x y => !((ancs ops).getD x []).contains y) (l.filter (d.contains ·)) = true := by
    have key : ∀ (s : List Nat), s.Sublist l → pairsAll (fun x y => !((ancs ops).getD x []).contains y) s = true := by
      intro s
      induction s with
      | nil => intro _; rfl
      | cons x s ih =>
        intro hs
        simp only [pairsAll, Bool.and_eq_true, List.all_eq_true, Bool.not_eq_true']
        refine ⟨fun y hy => ?_, ih ((List.sublist_cons_self x s).trans hs)⟩
        have h2 : [x, y].Sublist l := (List.Sublist.cons_cons x (List.singleton_sublist.2 hy)).trans hs
        have b1 := sub_bef s1 h2
        cases hcc : ((ancs ops).getD x []).contains y with
        | false => rfl
        | true =>
          have b2 := hanc ((hmem x).1 b1.1) (List.contains_iff_mem.1 hcc)
          have := b1.2.2; have := b2.2.2; omega
    exact key _ List.filter_sublist
  rcases hall with hall | ⟨o, hom, hpo⟩
  · rw [hresp] at hall; cases hall
  have ho' := List.all_eq_true.1 ho o hom
  simp only [Bool.and_eq_true, beq_iff_eq, List.all_eq_true, decide_eq_true_eq] at ho'
  obtain ⟨⟨o1, o2⟩, o3⟩ := ho'
  have hperm : o.Perm l := by
    have hol : o.Subset l := fun x hx => (hmem x).2 (o3 x hx)
    have hno := nodupB_spec o2
    have hl' : l.length = ops.size := by
      have : l.Perm (List.range ops.size) := (List.perm_ext_iff_of_nodup s1 List.nodup_range).2 (fun x => by simp [hmem])
      simpa using this.length_eq
    have hor : o.Perm (List.range ops.size) := by
      refine (List.perm_ext_iff_of_nodup hno List.nodup_range).2 (fun x => ?_)
      refine ⟨fun hx => by simpa using o3 x hx, fun hx => ?_⟩
      exact mem_of_full hno o3 o1 (by simpa using hx)
    exact hor.trans ((List.perm_ext_iff_of_nodup s1 List.nodup_range).2 (fun x => by simp [hmem])).symm
  refine ⟨o, hom, hperm, s1, fun i hi => (hmem i).1 (hperm.subset hi), ?_⟩
  refine (pairsAll_spec hpo).imp_of_mem (fun {x y} hx hy h => ?_)
  simp only [Bool.or_eq_true] at h
  rcases h with (h | h) | h
  · left
    simp only [indepAt] at h
    split at h
    · rename_i p q hp hq
      simp only [List.getD_eq_getElem?_getD, hp, hq, Option.getD_some]
      exact h
    · cases h
  · right; exact (hanc (o3 y hy) (List.contains_iff_mem.1 h)).sub
  · right; exact (befB_sub h).trans List.filter_sublist
theorem eq_of_order {o l : List Nat} (hp : o.Perm l) (hn : l.Nodup) (h : o.Pairwise fun x y => [x, y].Sublist l) : o = l := by
  refine List.Perm.eq_of_pairwise (le := fun x y => [x, y].Sublist l) (fun a b _ _ h1 h2 => ?_) h (List.pairwise_iff_forall_sublist.2 fun h => h) hp
  have b1 := (sub_bef hn h1).2.2
  have b2 := (sub_bef hn h2).2.2
  omega
def envO (X : Nat → RO × Oper) (val : Nat → Value) : List Nat → Env → Env
  | [], Γ => Γ
  | i :: r, Γ => envO X val r (putE (X i).1.dst (val i) Γ)
def writes (X : Nat → RO × Oper) (t j : Nat) : Bool := (X j).1.dst == some t
theorem envO_filter {X : Nat → RO × Oper} {val : Nat → Value} {t : Nat} : ∀ {p : List Nat} {Γ Δ : Env}, look Γ t = look Δ t → look (envO X val p Γ) t = look (envO X val (p.filter (writes X t)) Δ) t := by
  intro p
  induction p with
  | nil => intro Γ Δ h; exact h
  | cons j p ih =>
    intro Γ Δ h
    simp only [envO, List.filter_cons]
    by_cases hw : writes X t j = true
    · rw [if_pos hw]
      simp only [envO]
      refine ih ?_
      simp only [writes, beq_iff_eq] at hw
      rw [hw]; simp [putE, look]
    · rw [if_neg hw]
      refine ih ?_
      simp only [writes, beq_iff_eq] at hw
      rw [← h]
      cases hd : (X j).1.dst with
      | none => rfl
      | some d =>
        have : d ≠ t := fun e => hw (by rw [hd, e])
        simp [putE, look, this]
theorem split_at {i : Nat} : ∀ {a b c d : List Nat}, a ++ i :: b = c ++ i :: d → i ∉ a → i ∉ c → a = c := by
  intro a
  induction a with
  | nil =>
    intro b c d h _ hc
    cases c with
    | nil => rfl
    | cons x c => simp at h; exact absurd (by simp [h.1]) hc
  | cons x a ih =>
    intro b c d h ha hc
    cases c with
    | nil => simp at h; exact absurd (by simp [h.1]) ha
    | cons y c =>
      simp only [List.cons_append, List.cons.injEq] at h
      rw [h.1, ih h.2 (fun h => ha (by simp [h])) (fun h => hc (by simp [h]))]
theorem env_alike {X : Nat → RO × Oper} {val : Nat → Value} {Γ : Env} {p q l1 l2 : List Nat} {i t : Nat} (hp : (p ++ i :: q).Perm (l1 ++ i :: l2)) (hn : (l1 ++ i :: l2).Nodup)
    (hpw : (p ++ i :: q).Pairwise (fun x y => indep (X y) (X x) = true ∨ [x, y].Sublist (l1 ++ i :: l2))) (ht : t ∈ looks (X i)) : look (envO X val p Γ) t = look (envO X val l1 Γ) t := by
  have key : (p ++ i :: q).filter (fun j => decide (j = i) || writes X t j) = (l1 ++ i :: l2).filter (fun j => decide (j = i) || writes X t j) := by
    refine eq_of_order (hp.filter _) (hn.filter _) ?_
    have hno : (p ++ i :: q).Pairwise (fun x y => x ≠ y) := hp.nodup_iff.2 hn
    refine ((hpw.and hno).filter _).imp_of_mem ?_
    intro x y hx hy ⟨h, hne⟩
    have fx := (List.mem_filter.1 hx).2
    have fy := (List.mem_filter.1 hy).2
    rcases h with h | h
    · exfalso
      simp only [indep, Bool.and_eq_true] at h
      obtain ⟨⟨h1, h2⟩, _⟩ := h
      have a1 := apart1_spec h1
      have a2 := apart1_spec h2
      simp only [Bool.or_eq_true, decide_eq_true_eq, writes, beq_iff_eq] at fx fy
      rcases fx with fx | fx <;> rcases fy with fy | fy
      · exact hne (fx.trans fy.symm)
      · subst fx; exact (a1 t fy).1 ht
      · subst fy; exact (a2 t fx).1 ht
      · exact (a1 t fy).2 fx
    · have := h.filter (fun j => decide (j = i) || writes X t j)
      rwa [show List.filter (fun j => decide (j = i) || writes X t j) [x, y] = [x, y] by simp only [List.filter, fx, fy]] at this
  have hip : i ∉ p := by
    have := hp.nodup_iff.2 hn
    intro h
    exact (List.nodup_append.1 this).2.2 i h i (by simp) rfl
  have hil : i ∉ l1 := fun h => (List.nodup_append.1 hn).2.2 i h i (by simp) rfl
  rw [List.filter_append, List.filter_append, List.filter_cons_of_pos (by simp), List.filter_cons_of_pos (by simp)] at key
  have h2 := split_at key (fun h => hip ((List.mem_filter.1 h).1)) (fun h => hil ((List.mem_filter.1 h).1))
  have fe : ∀ l : List Nat, i ∉ l → l.filter (fun j => decide (j = i) || writes X t j) = l.filter (writes X t) := fun l hl => List.filter_congr fun j hj => by
    have : j ≠ i := fun e => hl (e ▸ hj)
    simp [this]
  rw [fe p hip, fe l1 hil] at h2
  rw [envO_filter (p := p) rfl, envO_filter (p := l1) rfl, h2]
theorem envO_snoc {X : Nat → RO × Oper} {val : Nat → Value} {i : Nat} : ∀ {p : List Nat} {Γ : Env}, envO X val (p ++ [i]) Γ = putE (X i).1.dst (val i) (envO X val p Γ) := by
  intro p
  induction p with
  | nil => intro Γ; rfl
  | cons j p ih => intro Γ; exact ih
def StepZ (P : Program) (n : Nat) (X : Nat → RO × Oper) (PZ : List PanicEntry → SH → Prop) (Hs : SH → Prop) (val : Nat → Value) (φ : Nat → Prop) (i : Nat) (Δ : Env) : Prop :=
  ∀ Γ H, (∀ t ∈ looks (X i), ∀ v, look Δ t = some v → look Γ t = some v) → Hs H → VO P n [(X i).1] Γ H (fun ch _ H' => PZ ch H') (fun Γ' H' => Γ' = putE (X i).1.dst (val i) Γ ∧ Hs H' ∧ φ i)
theorem run_any {P : Program} {n : Nat} {X : Nat → RO × Oper} {PZ : List PanicEntry → SH → Prop} {Hs : SH → Prop} {val : Nat → Value} {φ : Nat → Prop} {Γ0 : Env} {o l : List Nat} (hp : o.Perm l) (hn : l.Nodup)
    (hpw : o.Pairwise (fun x y => indep (X y) (X x) = true ∨ [x, y].Sublist l)) (hlow : ∀ i ∈ l, LowAll P n [(X i).1] [X i]) (hstep : ∀ p i q, o = p ++ i :: q → StepZ P n X PZ Hs val φ i (envO X val p Γ0))
    {F : List Atom} {ZZ : Exit → Act → World → Prop} {Q : Act → World → Prop} {a0 : Act} {w0 : World}
    (hq : ∀ a' w' H', Agree n (envO X val l Γ0) a' → a'.defers = a0.defers → Sat w' (H'.flatten ++ F) → Keeps w0 w' → Hs H' → (∀ i ∈ l, φ i) → Q a' w')
    (hz : ∀ ch a' w' H', a'.tmps.size = n → a'.defers = a0.defers → Sat w' (H'.flatten ++ F) → Keeps w0 w' → PZ ch H' → ZZ (.panic ch) a' w') :
    ∀ (l2 l1 : List Nat), l = l1 ++ l2 → ∀ a w H, Agree n (envO X val l1 Γ0) a → a.defers = a0.defers → Sat w (H.flatten ++ F) → Keeps w0 w → Hs H → (∀ i ∈ l1, φ i) → wpR P ZZ Q (l2.map X) a w := by
  intro l2
  induction l2 with
  | nil =>
    intro l1 hl a w H ha hd hs hk hh hφ
    rw [List.append_nil] at hl
    subst hl
    exact hq a w H ha hd hs hk hh hφ
  | cons i l2 ih =>
    intro l1 hl a w H ha hd hs hk hh hφ
    have hi : i ∈ o := hp.mem_iff.2 (by rw [hl]; simp)
    obtain ⟨p, q, ho⟩ := List.append_of_mem hi
    have st := hstep p i q ho (envO X val l1 Γ0) H (fun t ht v hv => by
      rw [← env_alike (val := val) (Γ := Γ0) (by rw [← ho, ← hl]; exact hp) (by rw [← hl]; exact hn) (by rw [← ho, ← hl]; exact hpw) ht]; exact hv) hh
    have := st [X i] (hlow i (by rw [hl]; simp)) a w F ZZ (wpR P ZZ Q (l2.map X)) ha hs
      (fun a' w' Γ' H' ⟨k1, k2, k3⟩ g1 g2 g3 g4 => by
        subst k1
        exact ih (l1 ++ [i]) (by rw [hl]; simp) a' w' H' (by rw [envO_snoc]; exact g1) (g2.trans hd) g3 (hk.trans g4) k2 (fun j hj => by
          rcases List.mem_append.1 hj with h | h
          · exact hφ j h
          · rw [List.mem_singleton.1 h]; exact k3))
      (fun ch a' w' Γ' H' k g1 g2 g3 g4 => hz ch a' w' H' g1.size (g2.trans hd) g3 (hk.trans g4) k)
    exact this
def argO : R → List Operand
  | .call _ xs => xs
  | r => rOps r
def looksR (r : RO) : List Nat := guardTmps r.guard ++ opTmps (argO r.op)
def okR (r : RO) : Bool := isPure r.op || isRead r.op || (match r.op with | .call _ _ => true | _ => false)
def StepsZ (P : Program) (n : Nat) (PZ : List PanicEntry → SH → Prop) (Hs : SH → Prop) : List RO → Env → Prop → Prop
  | [], _, Φ => ¬ Φ
  | r :: rs, Δ, Φ => okR r = true ∧ ∃ (v : Value) (φ : Prop), (∀ Γ H, (∀ t ∈ looksR r, ∀ u, look Δ t = some u → look Γ t = some u) → Hs H → VO P n [r] Γ H (fun ch _ H' => PZ ch H') (fun Γ' H' => Γ' = putE r.dst v Γ ∧ Hs H' ∧ φ)) ∧
      StepsZ P n PZ Hs rs (putE r.dst v Δ) (Φ ∧ φ)
theorem looksR_sub {P : Program} {n : Nat} {x : RO × Oper} (hl : lowRO P n ops x.2 = some x.1) (hok : okR x.1 = true) : ∀ t ∈ looksR x.1, t ∈ looks x := by
  intro t ht
  simp only [looksR, looks, List.mem_append] at ht ⊢
  rcases ht with ht | ht
  · exact .inl ht
  right
  by_cases hq : (isPure x.1.op || isRead x.1.op) = true
  · rw [if_pos hq]
    have : argO x.1.op = rOps x.1.op := by
      cases hop : x.1.op <;> first | rfl | (rw [hop] at hq; cases hq)
    rwa [this] at ht
  · rw [if_neg hq]
    simp only [okR, hq, Bool.false_or] at hok
    cases hop : x.1.op with
    | call f xs =>
      have g1 := (lowRO_spec hl).1
      rw [hop] at g1
      obtain ⟨c, h1, h2, h3, h4⟩ := low_call g1
      rw [hop] at ht
      simp only [argO] at ht
      rw [h1]
      simp only [Op.operands, Call.operands, Array.toList_append, h3, opTmps, List.filterMap_append, List.mem_append]
      exact .inr ht
    | _ => rw [hop] at hok; cases hok
theorem envO_congr {X : Nat → RO × Oper} {val val' : Nat → Value} : ∀ {p : List Nat} {Γ : Env}, (∀ j ∈ p, val j = val' j) → envO X val p Γ = envO X val' p Γ := by
  intro p
  induction p with
  | nil => intro Γ _; rfl
  | cons j p ih => intro Γ h; simp only [envO]; rw [h j (by simp)]; exact ih fun k hk => h k (by simp [hk])
theorem stepsZ_funs {P : Program} {n : Nat} {X : Nat → RO × Oper} {PZ : List PanicEntry → SH → Prop} {Hs : SH → Prop} : ∀ (o : List Nat) (Γ : Env) (Φ : Prop), o.Nodup → (∀ i ∈ o, okR (X i).1 = true → ∀ t ∈ looksR (X i).1, t ∈ looks (X i)) → StepsZ P n PZ Hs (o.map fun i => (X i).1) Γ Φ →
    ∃ (val : Nat → Value) (φ : Nat → Prop), (∀ p i q, o = p ++ i :: q → StepZ P n X PZ Hs val φ i (envO X val p Γ)) ∧ ¬ (Φ ∧ ∀ i ∈ o, φ i) := by
  intro o
  induction o with
  | nil => intro Γ Φ _ _ h; exact ⟨fun _ => undef, fun _ => True, fun p i q e => by simp at e, fun hh => h hh.1⟩
  | cons i o ih =>
    intro Γ Φ hn hsub h
    obtain ⟨hok, v, φ0, h1, h2⟩ := h
    have hn' := List.nodup_cons.1 hn
    obtain ⟨val, φ, g1, g2⟩ := ih _ _ hn'.2 (fun j hj => hsub j (by simp [hj])) h2
    refine ⟨fun j => if j = i then v else val j, fun j => if j = i then φ0 else φ j, fun p j q e => ?_, fun hh => g2 ⟨⟨hh.1, ?_⟩, fun j hj => ?_⟩⟩
    · cases p with
      | nil =>
        simp only [List.nil_append, List.cons.injEq] at e
        obtain ⟨rfl, rfl⟩ := e
        intro Γ' H hl hH
        have := h1 Γ' H (fun t ht => hl t (hsub i (by simp) hok t ht)) hH
        simpa using this
      | cons k p =>
        simp only [List.cons_append, List.cons.injEq] at e
        obtain ⟨rfl, e⟩ := e
        have hj : j ∈ o := by rw [e]; simp
        have hji : j ≠ i := fun e2 => hn'.1 (e2 ▸ hj)
        have st := g1 p j q e
        have hc : envO X (fun j => if j = i then v else val j) p (putE (X i).1.dst v Γ) = envO X val p (putE (X i).1.dst v Γ) := envO_congr fun k hk => by
          have hk2 : k ∈ o := by rw [e]; simp [hk]
          have hki : k ≠ i := fun e2 => hn'.1 (e2 ▸ hk2)
          simp [hki]
        intro Γ' H hl hH
        simp only [envO, if_pos] at hl
        rw [hc] at hl
        have := st Γ' H hl hH
        simpa [hji] using this
    · have := hh.2 i (by simp); simpa using this
    · have h3 := hh.2 j (by simp [hj])
      have hji : j ≠ i := fun e2 => hn'.1 (e2 ▸ hj)
      simpa [hji] using h3
end
theorem VC.drawZ {P : Program} {n : Nat} {Γ : Env} {H : SH} {Q : Exit → Env → SH → Prop} {rss : List (List RO)} {keep : List Nat} (PZ : List PanicEntry → SH → Prop) (Hs : SH → Prop) (h0 : Hs H)
    (h : ∀ rs ∈ rss, StepsZ P n PZ Hs rs Γ True) (hz : ∀ ch H', PZ ch H' → Q (.panic ch) [] H') : VC P n (.draw rss keep) Γ H Q := by
  intro ρ kp od code hl a w F QQ hr ha hs hh
  obtain ⟨id, ops, rs, rfl, h1, hm, hc, rfl, rfl⟩ := lowC_inv hl
  have hlen := (lowList_length h1).1
  refine wpIn_region_draw (fun t => ?_)
  have hsched : Region.schedule (P.follows .mixedOrders) ops t = sched ops ops.size t (Array.replicate ops.size false) := by simp [Region.schedule, hm, Region.linearise, sched]
  rw [hsched]
  obtain ⟨both, hcb⟩ : ∃ both, coverG both (rs.zip ops.toList) ops (od id) = true := by
    unfold coverB at hc
    rcases Bool.or_eq_true_iff.1 hc with hc | hc
    · exact ⟨_, hc⟩
    · exact ⟨_, hc⟩
  obtain ⟨o, hom, hp, hn, hlt, hpw⟩ := coverC hcb t
  have hX : ∀ i, i < ops.size → ops[i]? = some ((rs.zip ops.toList).getD i default).2 ∧ ((rs.zip ops.toList).getD i default).1 = rs.getD i default ∧ lowRO P n ops ((rs.zip ops.toList).getD i default).2 = some ((rs.zip ops.toList).getD i default).1 := fun i hi => zip_getD h1 hi
  have hlt2 : ∀ i ∈ sched ops ops.size t (Array.replicate ops.size false), i < ops.size := fun i hi => hlt i (hp.mem_iff.2 hi)
  refine wpR_sound (P := P) (ρ := ρ) (n := n) (ops := ops) (X := fun i => (rs.zip ops.toList).getD i default) (QQ := QQ) (fun i hi => ⟨(hX i hi).1, (hX i hi).2.2⟩) _ a _ hlt2 ?_
  have hst := h (o.map fun i => rs.getD i default) (List.mem_map.2 ⟨o, hom, rfl⟩)
  have hmap : (o.map fun i => rs.getD i default) = o.map fun i => ((rs.zip ops.toList).getD i default).1 := List.map_congr_left fun i hi => (hX i (hlt i hi)).2.1.symm
  rw [hmap] at hst
  obtain ⟨val, φ, g1, g2⟩ := stepsZ_funs (X := fun i => (rs.zip ops.toList).getD i default) o Γ True (hp.nodup_iff.2 hn) (fun i hi hok => looksR_sub (hX i (hlt i hi)).2.2 hok) hst
  refine run_any (X := fun i => (rs.zip ops.toList).getD i default) (l := sched ops ops.size t (Array.replicate ops.size false)) (val := val) (φ := φ) (Γ0 := Γ) (a0 := a) (w0 := { w with drawn := w.drawn + 1 }) (F := F) hp hn hpw (fun i hi => ⟨rfl, fun x hx => by rw [List.mem_singleton.1 hx]; exact ⟨ops, (hX i (hlt2 i hi)).2.2⟩⟩) g1 ?_ ?_ _ [] rfl a _ H ha rfl (hs.drawn _) (.refl _) h0 (fun i hi => by cases hi)
  · intro a' w' H' _ _ _ _ _ hall
    exact absurd ⟨trivial, fun i hi => hall i (hp.mem_iff.1 hi)⟩ g2
  · intro ch a' w' H' k1 k2 k3 k4 k5
    exact hh (.panic ch) a' w' [] H' [] (hz ch H' k5) ⟨k1, fun t v e => by cases e⟩ k2 k3.nomarks (((Keeps.refl w).drawn _).trans k4)
end Go.V

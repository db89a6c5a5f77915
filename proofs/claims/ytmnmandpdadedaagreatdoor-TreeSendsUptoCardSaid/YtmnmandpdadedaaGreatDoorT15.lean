/-
  Copies: texts, literals.
-/
import Derived.Test.YtmnmandpdadedaaGreatDoorT14
import Derived.Test.YtmnmandpdadedaaGreatDoorV11
import Derived.Test.YtmnmandpdadedaaGreatDoorV14
import Derived.Test.YtmnmandpdadedaaGreatDoorT1
import Derived.Test.YtmnmandpdadedaaGreatDoorV12
set_option linter.unusedSimpArgs false
set_option linter.unusedVariables false
namespace Go.Proofs.YtmnmandpdadedaaGreatDoor
open Go Go.V
set_option maxHeartbeats 3200000
set_option maxRecDepth 100000
theorem cloneTexts_spec (A : List Atom) (av : Value) (l : List ByteArray) (h : RdT A av l) : Fun Tryz.prog 53 [av] [A] (fun v Post => ∃ B, RdT B v l ∧ Post = [A, B]) := by
  obtain ⟨a, c, rfl, hl, hr⟩ := h
  refine Fun.intro low53 (by simp [n53]) ?_
  have hsz : ∀ t ∈ l, t.size ≤ 140737488355328 := fun t ht => by
    obtain ⟨i, hi⟩ := List.getElem?_of_mem ht
    obtain ⟨_, _, _, _, h⟩ := hr i t hi
    exact h
  cases a with
  | none =>
    have hl0 : l = [] := by
      cases l with
      | nil => rfl
      | cons t l => obtain ⟨_, _, h, _⟩ := hr 0 t rfl; cases h
    subst hl0
    refine GOH ?_
    exact endQ_mk (Post := [A, []]) (.inr rfl) (.tmp (by rfl) .nil) ⟨[], ⟨none, 0, rfl, by simp, fun i t e => by simp at e⟩, rfl⟩ ⟨[], by simp [V.Spl]⟩
  | some ad =>
    refine GOH ?_
    refine st_bslice (out := []) (by rfl) (by rfl) (fun q => ?_)
    refine GOH ?_
    cases hl0 : l with
    | nil =>
      subst hl0
      refine st_append0 (by rfl) (by rfl) (Nat.le_refl _) ?_
      refine GOH ?_
      exact endQ_mk (Post := [A, []]) (.inr rfl) (.tmp (by rfl) .nil) ⟨[], ⟨_, 0, rfl, by simp, fun i t e => by simp at e⟩, rfl⟩ ⟨[], by simp [V.Spl, cellsAt]⟩
    | cons t l' =>
      rw [← hl0]
      obtain ⟨b, o, had, _⟩ := hr 0 t (by rw [hl0]; rfl)
      cases had
      have hsrc : Src [A].flatten 1 l.length (l.map Value.string) (.slice (some ⟨b, o, none⟩) l.length c) := by
        refine ⟨by simp, fun x hx => ?_⟩
        obtain ⟨i, v, hi, rfl⟩ := mem_cellsAt.1 hx
        rw [List.getElem?_map] at hi
        obtain ⟨u, hu, rfl⟩ := Option.map_eq_some_iff.1 hi
        obtain ⟨b2, o2, h1, h2, _⟩ := hr i u hu
        cases h1
        simpa using h2
      refine st_append (k := 0) (m := l.length) (xs := []) (sp := []) (ys := l.map Value.string) (by rfl) (by rfl) (.mk rfl rfl (Nat.le_refl _)) (show Tk [cellsAt q 0 [], A] (cellsAt q 0 []) [A] from .here) (by rfl) hsrc (by simp) (by simp [List.all_eq_true, oneCell]) (by rfl) (by decide) (by omega) (fun sv' sp' hsl' => ?_)
      rw [List.nil_append, Nat.zero_add] at *
      obtain ⟨a', c', rfl⟩ := hsl'.form
      refine GOH ?_
      exact endQ_mk (Post := [A, slA (.slice a' l.length c') (l.map Value.string) sp']) (.inr rfl) (.tmp (by rfl) .nil) ⟨_, texts_made rfl hsl' hl hsz, rfl⟩ (by exact IMx)
theorem eachLits_spec (A : List Atom) (l : List Lt) (a : Option Addr) (c bk o : Nat) (us : Nat → List Value) (hla : l.length ≤ 274877906944) (ha : 0 < l.length → a = some ⟨bk, o, none⟩) (hm : ∀ i, i < l.length → ∀ y ∈ cellsAt bk (o + i * 5) (us i), y ∈ A) (hr : ∀ i x, l[i]? = some x → LtRd A x (us i))
    (fv : Value) (hfv : ∀ i x, l[i]? = some x → FunV Tryz.prog fv [.agg (us i).toArray] [A] (fun v Post => ∃ ws B, v = .agg ws.toArray ∧ LtRd B x ws ∧ Post = [A, B])) :
    Fun Tryz.prog 134 [.slice a l.length c, fv] [A] (fun v Post => ∃ (rows : List (List Value)) (sp : List Value) (B : List Atom), IsSl 5 v l.length rows.flatten sp ∧ rows.length = l.length ∧ (∀ r ∈ rows, r.length = 5) ∧ (∀ (i : Nat) x r, l[i]? = some x → rows[i]? = some r → LtRd B x r) ∧ Post = [A, slA v rows.flatten sp, B]) := by
  refine Fun.intro low134 (by simp [n134]) ?_
  refine GOH ?_
  refine VC.loop (α := Nat × Value × List (List Value) × List Value × List Atom) (Γf := fun s => [(1, fv), (5, s.2.1), (8, .slice a l.length c), (9, vi l.length), (10, vi s.1)]) (Hf := fun s => [A, slA s.2.1 s.2.2.1.flatten s.2.2.2.1, s.2.2.2.2])
    (I := fun s => s.1 ≤ l.length ∧ IsSl 5 s.2.1 s.1 s.2.2.1.flatten s.2.2.2.1 ∧ s.2.2.1.length = s.1 ∧ (∀ r ∈ s.2.2.1, r.length = 5) ∧ ∀ (i : Nat) x r, l[i]? = some x → s.2.2.1[i]? = some r → LtRd s.2.2.2.2 x r) (μ := fun s => l.length - s.1) (0, .slice none 0 0, [], [], []) ⟨Nat.zero_le _, .nil, rfl, fun r hr => (by cases hr), fun i x r _ h => (by simp at h)⟩ (by exact SUx) ⟨[], by simp [V.Spl, slA]⟩ ?_
  rintro ⟨j, sv, rows, sp, B⟩ ⟨i1, i2, i3, i4, i5⟩
  simp only at i1 i2 i3 i4 i5
  dsimp only
  refine GOH ?_
  by_cases hj : j < l.length
  rotate_left
  · rw [show decide ((j : Int) < (l.length : Int)) = false from decide_eq_false (by omega)]
    have hjl : j = l.length := by omega
    subst hjl
    refine GOH ?_
    exact endQ_mk (Post := [A, slA sv rows.flatten sp, B]) (.inr rfl) (.tmp (by rfl) .nil) ⟨rows, sp, B, i2, i3, i4, i5, rfl⟩ (by exact IMx)
  obtain rfl := ha (by omega)
  rw [show decide ((j : Int) < (l.length : Int)) = true from decide_eq_true (by omega)]
  obtain ⟨y, hy⟩ : ∃ y, l[j]? = some y := ⟨_, List.getElem?_eq_getElem hj⟩
  have hym := hm j hj
  have hyr := hr j y hy
  have hcall := hfv j y hy
  generalize us j = uj at *
  obtain ⟨e1, c1, rfl⟩ := lt_open hyr
  refine GOH ?_
  refine st_loadA (by rfl) (fun z hz => List.mem_append_left _ (hym z hz)) rfl ?_
  refine GOH ?_
  refine st_alloc (fun q => ?_)
  refine GOH ?_
  refine st_callV (by rfl) hcall (by rfl) (by exact SPx) (fun v Post hv => ?_)
  obtain ⟨ws, B2, rfl, hw, rfl⟩ := hv
  simp only [CNx]
  have hwl := hw.len
  obtain ⟨e2, c2, rfl⟩ := lt_open hw
  refine st_bslice (out := [cv y.kind, vi y.n, uv y.bits, .string y.text, .slice e2 y.items.length c2]) (by rfl) (by rfl) (fun r => ?_)
  refine st_append (k := j) (m := 1) (xs := rows.flatten) (sp := sp) (ys := [cv y.kind, vi y.n, uv y.bits, .string y.text, .slice e2 y.items.length c2]) (by rfl) (by rfl) i2 (by exact TKx) (by rfl) ?_ rfl (by rfl) (by rfl) (by decide) (by omega) (fun sv' sp' hsl' => ?_)
  · exact ⟨rfl, fun a ha => by simp only [List.flatten_cons, List.mem_append]; exact .inl ha⟩
  have hfl : rows.flatten ++ [cv y.kind, vi y.n, uv y.bits, .string y.text, .slice e2 y.items.length c2] = (rows ++ [[cv y.kind, vi y.n, uv y.bits, .string y.text, .slice e2 y.items.length c2]]).flatten := by simp
  rw [hfl] at hsl' ⊢
  refine GOH ?_
  refine ⟨(j + 1, sv', rows ++ [[cv y.kind, vi y.n, uv y.bits, .string y.text, .slice e2 y.items.length c2]], sp', B2 ++ B), ⟨by simp only; omega, hsl', by simp [i3], fun r hr => ?_, fun i x r hx hr => ?_⟩, by simp only; omega, by exact SUx, ?_⟩
  · rcases List.mem_append.1 hr with h | h
    · exact i4 r h
    · rw [List.mem_singleton.1 h]; rfl
  · simp only at hr
    by_cases hi : i < rows.length
    · rw [List.getElem?_append_left hi] at hr
      exact (i5 i x r hx hr).more fun z hz => List.mem_append_right _ hz
    · rw [List.getElem?_append_right (by omega)] at hr
      have hi0 : i - rows.length = 0 := by
        have := (List.getElem?_eq_some_iff.1 hr).1
        simp at this; omega
      rw [hi0] at hr
      simp only [List.getElem?_cons_zero, Option.some.injEq] at hr
      subst hr
      have : i = j := by omega
      subst this
      rw [hy] at hx; cases hx
      exact hw.more fun z hz => List.mem_append_left _ hz
  · simp only
    refine Imp.cut (M := [A, slA sv' (rows ++ [[cv y.kind, vi y.n, uv y.bits, .string y.text, .slice e2 y.items.length c2]]).flatten sp', B2, B]) (by exact IMx) (Imp.perm (by simp))
theorem own_spec (A : List Atom) : ∀ (N : Nat) (x : Lt), x.size ≤ N → x.size ≤ 274877906944 → ∀ vs, LtRd A x vs → Fun Tryz.prog 97 [.agg vs.toArray] [A] (fun v Post => ∃ ws B, v = .agg ws.toArray ∧ LtRd B x ws ∧ Post = [A, B]) := by
  intro N
  induction N with
  | zero => intro x hx; have := x.size_pos; omega
  | succ N ih =>
    intro x hx hb vs h
    cases h with
    | @mk k n b t items a c bk o us wf ha hm hr =>
    simp only [Lt.size] at hx hb
    have hge := sizes_ge items
    have hkids := eachLits_spec A items a c bk o us (by omega) ha hm hr (.func (.func 97) #[] #[]) (fun i x e1 => by
      have h1 := Lt.sizes_mem (List.mem_of_getElem? e1)
      exact FunV.of_fun (first := #[]) (cap := #[]) (ih x (by omega) (by omega) _ (hr i x e1)))
    refine Fun.intro low97 (by simp [n97]) ?_
    refine GOH ?_
    refine st_box (by rfl) (fun q => ?_)
    refine st_alloc (fun q2 => ?_)
    simp only [Value.cells]
    refine GOH ?_
    refine st_call hkids (by rfl) (by exact SPx) (fun v Post hv => ?_)
    obtain ⟨rows, sp, B, h1, h2, h3, h4, rfl⟩ := hv
    simp only [CNx]
    have hmade := lt_made h1 h2 h3 h4 wf
    obtain ⟨a', c', rfl⟩ := h1.form
    refine GOH ?_
    exact ⟨.inr rfl, [.agg #[cv k, vi n, uv b, .string t, .slice a' items.length c']], [A, slA (.slice a' items.length c') rows.flatten sp ++ B], .cellN (us := [cv k, vi n, uv b, .string t, .slice a' items.length c']) (by rfl) (by rfl) (fun y hy => by simp only [List.flatten_cons, List.mem_append]; first | exact .inl hy | exact .inr (.inl hy) | exact .inr (.inr (.inl hy)) | exact .inr (.inr (.inr (.inl hy))) | exact .inr (.inr (.inr (.inr (.inl hy))))) .nil, Imp.cut (M := [A, slA (.slice a' items.length c') rows.flatten sp, B]) (by exact IMx) (Imp.perm (by simp)), ⟨_, _, rfl, hmade, rfl⟩⟩
theorem eachNodes_spec (A : List Atom) (l : List Nd) (a : Option Addr) (c bk o : Nat) (us : Nat → List Value) (hla : l.length ≤ 274877906944) (ha : 0 < l.length → a = some ⟨bk, o, none⟩) (hm : ∀ i, i < l.length → ∀ y ∈ cellsAt bk (o + i * 11) (us i), y ∈ A) (hr : ∀ i x, l[i]? = some x → NdRd A x (us i))
    (fv : Value) (hfv : ∀ i x, l[i]? = some x → FunV Tryz.prog fv [.agg (us i).toArray] [A] (fun v Post => ∃ ws B, v = .agg ws.toArray ∧ NdRd B x.bare ws ∧ Post = [A, B])) :
    Fun Tryz.prog 54 [.slice a l.length c, fv] [A] (fun v Post => ∃ (rows : List (List Value)) (sp : List Value) (B : List Atom), IsSl 11 v l.length rows.flatten sp ∧ rows.length = l.length ∧ (∀ r ∈ rows, r.length = 11) ∧ (∀ (i : Nat) x r, l[i]? = some x → rows[i]? = some r → NdRd B x.bare r) ∧ Post = [A, slA v rows.flatten sp, B]) := by
  refine Fun.intro low54 (by simp [n54]) ?_
  refine GOH ?_
  refine VC.loop (α := Nat × Value × List (List Value) × List Value × List Atom) (Γf := fun s => [(1, fv), (5, s.2.1), (8, .slice a l.length c), (9, vi l.length), (10, vi s.1)]) (Hf := fun s => [A, slA s.2.1 s.2.2.1.flatten s.2.2.2.1, s.2.2.2.2])
    (I := fun s => s.1 ≤ l.length ∧ IsSl 11 s.2.1 s.1 s.2.2.1.flatten s.2.2.2.1 ∧ s.2.2.1.length = s.1 ∧ (∀ r ∈ s.2.2.1, r.length = 11) ∧ ∀ (i : Nat) x r, l[i]? = some x → s.2.2.1[i]? = some r → NdRd s.2.2.2.2 x.bare r) (μ := fun s => l.length - s.1) (0, .slice none 0 0, [], [], []) ⟨Nat.zero_le _, .nil, rfl, fun r hr => (by cases hr), fun i x r _ h => (by simp at h)⟩ (by exact SUx) ⟨[], by simp [V.Spl, slA]⟩ ?_
  rintro ⟨j, sv, rows, sp, B⟩ ⟨i1, i2, i3, i4, i5⟩
  simp only at i1 i2 i3 i4 i5
  dsimp only
  refine GOH ?_
  by_cases hj : j < l.length
  rotate_left
  · rw [show decide ((j : Int) < (l.length : Int)) = false from decide_eq_false (by omega)]
    have hjl : j = l.length := by omega
    subst hjl
    refine GOH ?_
    exact endQ_mk (Post := [A, slA sv rows.flatten sp, B]) (.inr rfl) (.tmp (by rfl) .nil) ⟨rows, sp, B, i2, i3, i4, i5, rfl⟩ (by exact IMx)
  obtain rfl := ha (by omega)
  rw [show decide ((j : Int) < (l.length : Int)) = true from decide_eq_true (by omega)]
  obtain ⟨y, hy⟩ : ∃ y, l[j]? = some y := ⟨_, List.getElem?_eq_getElem hj⟩
  have hym := hm j hj
  have hyr := hr j y hy
  have hcall := hfv j y hy
  generalize us j = uj at *
  obtain ⟨e1, e2, e3, e4, e5, e6, e7, e8, e9, e10, e11, e12, e13, e14, e15, e16, e17, rfl, _, _⟩ := nd_open2 hyr
  refine GOH ?_
  refine st_loadA (by rfl) (fun z hz => List.mem_append_left _ (hym z hz)) rfl ?_
  refine GOH ?_
  refine st_alloc (fun q => ?_)
  refine GOH ?_
  refine st_callV (by rfl) hcall (by rfl) (by exact SPx) (fun v Post hv => ?_)
  obtain ⟨ws, B2, rfl, hw, rfl⟩ := hv
  simp only [CNx]
  have hwl := hw.len
  obtain ⟨f1, f2, f3, f4, f5, f6, f7, f8, f9, f10, f11, f12, f13, f14, f15, f16, f17, rfl, _, _⟩ := nd_open2 hw
  refine st_bslice (out := [cv y.bare.kind, .string y.bare.name, cv f1, vi f2, uv f3, .string f4, .slice f5 f6 f7, .slice f8 f9 f10, .slice f11 f12 f13, .slice f14 f15 f16, vi f17]) (by rfl) (by rfl) (fun r => ?_)
  refine st_append (k := j) (m := 1) (xs := rows.flatten) (sp := sp) (ys := [cv y.bare.kind, .string y.bare.name, cv f1, vi f2, uv f3, .string f4, .slice f5 f6 f7, .slice f8 f9 f10, .slice f11 f12 f13, .slice f14 f15 f16, vi f17]) (by rfl) (by rfl) i2 (by exact TKx) (by rfl) ?_ rfl (by rfl) (by rfl) (by decide) (by omega) (fun sv' sp' hsl' => ?_)
  · exact ⟨rfl, fun a ha => by simp only [List.flatten_cons, List.mem_append]; exact .inl ha⟩
  have hfl : rows.flatten ++ [cv y.bare.kind, .string y.bare.name, cv f1, vi f2, uv f3, .string f4, .slice f5 f6 f7, .slice f8 f9 f10, .slice f11 f12 f13, .slice f14 f15 f16, vi f17] = (rows ++ [[cv y.bare.kind, .string y.bare.name, cv f1, vi f2, uv f3, .string f4, .slice f5 f6 f7, .slice f8 f9 f10, .slice f11 f12 f13, .slice f14 f15 f16, vi f17]]).flatten := by simp
  rw [hfl] at hsl' ⊢
  refine GOH ?_
  refine ⟨(j + 1, sv', rows ++ [[cv y.bare.kind, .string y.bare.name, cv f1, vi f2, uv f3, .string f4, .slice f5 f6 f7, .slice f8 f9 f10, .slice f11 f12 f13, .slice f14 f15 f16, vi f17]], sp', B2 ++ B), ⟨by simp only; omega, hsl', by simp [i3], fun r hr => ?_, fun i x r hx hr => ?_⟩, by simp only; omega, by exact SUx, ?_⟩
  · rcases List.mem_append.1 hr with h | h
    · exact i4 r h
    · rw [List.mem_singleton.1 h]; rfl
  · simp only at hr
    by_cases hi : i < rows.length
    · rw [List.getElem?_append_left hi] at hr
      exact (i5 i x r hx hr).more fun z hz => List.mem_append_right _ hz
    · rw [List.getElem?_append_right (by omega)] at hr
      have hi0 : i - rows.length = 0 := by
        have := (List.getElem?_eq_some_iff.1 hr).1
        simp at this; omega
      rw [hi0] at hr
      simp only [List.getElem?_cons_zero, Option.some.injEq] at hr
      subst hr
      have : i = j := by omega
      subst this
      rw [hy] at hx; cases hx
      exact hw.more fun z hz => List.mem_append_left _ hz
  · simp only
    refine Imp.cut (M := [A, slA sv' (rows ++ [[cv y.bare.kind, .string y.bare.name, cv f1, vi f2, uv f3, .string f4, .slice f5 f6 f7, .slice f8 f9 f10, .slice f11 f12 f13, .slice f14 f15 f16, vi f17]]).flatten sp', B2, B]) (by exact IMx) (Imp.perm (by simp))
theorem VO.sub {P : Program} {n : Nat} {rs : List RO} {Γ Δ : Env} {H : SH} {Z : List PanicEntry → Env → SH → Prop} {K : Env → SH → Prop} (hs : V.Sub Γ Δ) (h : VO P n rs Δ H Z K) : VO P n rs Γ H Z K :=
  fun l hl a w F ZZ Q ha hsat hq hz => h l hl a w F ZZ Q ⟨ha.size, fun t v e => ha.slots t v (hs t v e)⟩ hsat hq hz
theorem bares_map : ∀ l : List Nd, Nd.bares l = l.map Nd.bare := by
  intro l
  induction l with
  | nil => rfl
  | cons x r ih => simp only [Nd.bares, ih, List.map_cons]
theorem bare_spec (A : List Atom) : ∀ (N : Nat) (x : Nd), x.w ≤ N → x.w ≤ 274877906944 → ∀ vs, NdRd A x vs → Fun Tryz.prog 55 [.agg vs.toArray] [A] (fun v Post => ∃ ws B, v = .agg ws.toArray ∧ NdRd B x.bare ws ∧ Post = [A, B]) := by
  intro N
  induction N with
  | zero => intro x hx; have := x.w_pos; omega
  | succ N ih =>
    intro x hx hb vs h
    cases h with
    | @mk k s lit args temps kids p lv av tv a c bk o us wf hl hav htv ha hm hr hcp =>
    simp only [Nd.w] at hx hb
    have hge := ws_ge kids
    have hkids := eachNodes_spec A kids a c bk o us (by omega) ha hm hr (.func (.func 55) #[] #[]) (fun i x e1 => by
      have h1 := Nd.ws_mem (List.mem_of_getElem? e1)
      exact FunV.of_fun (first := #[]) (cap := #[]) (ih x (by omega) (by omega) _ (hr i x e1)))
    have hown := own_spec A _ lit (Nat.le_refl _) (by omega) lv hl
    have hca := cloneTexts_spec A av args hav
    have hct := cloneTexts_spec A tv temps htv
    have hl2 := hl
    cases hl2 with
    | @mk lk ln lbt lt items la lc lbk lo lus lwf lha lhm lhr =>
    obtain ⟨aa, ac, rfl, hal, har⟩ := hav
    obtain ⟨ta, tc, rfl, htl, htr⟩ := htv
    refine Fun.intro low55 (by simp [n55]) ?_
    simp only [CNx]
    refine GOH ?_
    refine st_box (by rfl) (fun q => ?_)
    refine st_alloc (fun q2 => ?_)
    simp only [Value.cells]
    refine GOH ?_
    refine VC.seq (VC.free 16 (fun i v B => match i with
      | 0 => v = .pointer (some ⟨q, 0, none⟩) ∧ B = []
      | 1 => v = cv k ∧ B = []
      | 2 => v = .pointer (some ⟨q, 1, none⟩) ∧ B = []
      | 3 => v = .string s ∧ B = []
      | 4 => v = .pointer (some ⟨q, 2, none⟩) ∧ B = []
      | 5 => v = .agg [cv lk, vi ln, uv lbt, .string lt, .slice la items.length lc].toArray ∧ B = []
      | 6 => ∃ ws, v = .agg ws.toArray ∧ LtRd B (.mk lk ln lbt lt items) ws
      | 7 => v = .pointer (some ⟨q, 7, none⟩) ∧ B = []
      | 8 => v = .slice aa args.length ac ∧ B = []
      | 9 => RdT B v args
      | 10 => v = .pointer (some ⟨q, 8, none⟩) ∧ B = []
      | 11 => v = .slice ta temps.length tc ∧ B = []
      | 12 => RdT B v temps
      | 13 => v = .pointer (some ⟨q, 9, none⟩) ∧ B = []
      | 14 => v = .slice a kids.length c ∧ B = []
      | 15 => ∃ (rows : List (List Value)) (sp : List Value) (B' : List Atom), IsSl 11 v kids.length rows.flatten sp ∧ rows.length = kids.length ∧ (∀ r ∈ rows, r.length = 11) ∧ (∀ (i : Nat) x r, kids[i]? = some x → rows[i]? = some r → NdRd B' x.bare r) ∧ B = slA v rows.flatten sp ++ B'
      | _ => True) (by decide) (by decide) (by decide) ?_ ?_)
    · intro i hi vv hg Γ' hh hkp
      match i, hi with
    | 0, _ =>
      show VO _ _ [⟨some 3, none, .fld 0 (.tmp 1)⟩] _ _ _ _
      exact st_fld (hkp 1 _ rfl (by decide)) rfl (VO.nil ⟨_, [], rfl, ⟨rfl, rfl⟩, Imp.perm (by simp)⟩)
    | 1, _ =>
      show VO _ _ [⟨some 4, none, .load1 (.tmp 3)⟩] _ _ _ _
      have e := hh 0 (by decide) 3 rfl
      rw [(hg 0 (by decide)).1] at e
      exact st_load1 e (by (focus ((repeat (first | (apply Has.cells; omega; rfl) | apply Has.there)); done))) (VO.nil ⟨_, [], rfl, ⟨rfl, rfl⟩, Imp.perm (by simp)⟩)
    | 2, _ =>
      show VO _ _ [⟨some 5, none, .fld 1 (.tmp 1)⟩] _ _ _ _
      exact st_fld (hkp 1 _ rfl (by decide)) rfl (VO.nil ⟨_, [], rfl, ⟨rfl, rfl⟩, Imp.perm (by simp)⟩)
    | 3, _ =>
      show VO _ _ [⟨some 6, none, .load1 (.tmp 5)⟩] _ _ _ _
      have e := hh 2 (by decide) 5 rfl
      rw [(hg 2 (by decide)).1] at e
      exact st_load1 e (by (focus ((repeat (first | (apply Has.cells; omega; rfl) | apply Has.there)); done))) (VO.nil ⟨_, [], rfl, ⟨rfl, rfl⟩, Imp.perm (by simp)⟩)
    | 4, _ =>
      show VO _ _ [⟨some 7, none, .fld 2 (.tmp 1)⟩] _ _ _ _
      exact st_fld (hkp 1 _ rfl (by decide)) rfl (VO.nil ⟨_, [], rfl, ⟨rfl, rfl⟩, Imp.perm (by simp)⟩)
    | 5, _ =>
      show VO _ _ [⟨some 8, none, .loadN 5 (.tmp 7)⟩] _ _ _ _
      have e := hh 4 (by decide) 7 rfl
      rw [(hg 4 (by decide)).1] at e
      exact st_loadM e (by (focus ((repeat (first | (apply HasM.cells; omega; (focus (simp only [List.length_cons, List.length_nil, Nat.reduceAdd, Nat.zero_add, Nat.reduceSub, Nat.sub_self, Nat.reduceLeDiff, Nat.le_refl]; done)); (focus (simp only [lnb, Value.cells, Nat.zero_add, Nat.reduceEqDiff, ↓reduceIte, eq_self, Nat.reduceAdd, Nat.reduceSub, Nat.sub_self, Nat.reduceLeDiff, Nat.le_refl, and_self, rep, zeroRow] <;> rfl)); rfl) | apply HasM.there)); done))) (VO.nil ⟨_, [], rfl, ⟨rfl, rfl⟩, Imp.perm (by simp)⟩)
    | 6, _ =>
      show VO _ _ [⟨some 9, none, .call 97 [.tmp 8]⟩] _ _ _ _
      have e := hh 5 (by decide) 8 rfl
      rw [(hg 5 (by decide)).1] at e
      refine st_call hown (by simp only [V.evs, V.ev, e]) (by exact SPx) (fun v Post hv => ?_)
      obtain ⟨ws, B, rfl, hw, rfl⟩ := hv
      exact VO.nil ⟨_, B, rfl, ⟨ws, rfl, hw⟩, by simp only [CNx]; exact IMx⟩
    | 7, _ =>
      show VO _ _ [⟨some 10, none, .fld 7 (.tmp 1)⟩] _ _ _ _
      exact st_fld (hkp 1 _ rfl (by decide)) rfl (VO.nil ⟨_, [], rfl, ⟨rfl, rfl⟩, Imp.perm (by simp)⟩)
    | 8, _ =>
      show VO _ _ [⟨some 11, none, .load1 (.tmp 10)⟩] _ _ _ _
      have e := hh 7 (by decide) 10 rfl
      rw [(hg 7 (by decide)).1] at e
      exact st_load1 e (by (focus ((repeat (first | (apply Has.cells; omega; rfl) | apply Has.there)); done))) (VO.nil ⟨_, [], rfl, ⟨rfl, rfl⟩, Imp.perm (by simp)⟩)
    | 9, _ =>
      show VO _ _ [⟨some 12, none, .call 53 [.tmp 11]⟩] _ _ _ _
      have e := hh 8 (by decide) 11 rfl
      rw [(hg 8 (by decide)).1] at e
      refine st_call hca (by simp only [V.evs, V.ev, e]) (by exact SPx) (fun v Post hv => ?_)
      obtain ⟨B, hw, rfl⟩ := hv
      exact VO.nil ⟨_, B, rfl, hw, by simp only [CNx]; exact IMx⟩
    | 10, _ =>
      show VO _ _ [⟨some 13, none, .fld 8 (.tmp 1)⟩] _ _ _ _
      exact st_fld (hkp 1 _ rfl (by decide)) rfl (VO.nil ⟨_, [], rfl, ⟨rfl, rfl⟩, Imp.perm (by simp)⟩)
    | 11, _ =>
      show VO _ _ [⟨some 14, none, .load1 (.tmp 13)⟩] _ _ _ _
      have e := hh 10 (by decide) 13 rfl
      rw [(hg 10 (by decide)).1] at e
      exact st_load1 e (by (focus ((repeat (first | (apply Has.cells; omega; rfl) | apply Has.there)); done))) (VO.nil ⟨_, [], rfl, ⟨rfl, rfl⟩, Imp.perm (by simp)⟩)
    | 12, _ =>
      show VO _ _ [⟨some 15, none, .call 53 [.tmp 14]⟩] _ _ _ _
      have e := hh 11 (by decide) 14 rfl
      rw [(hg 11 (by decide)).1] at e
      refine st_call hct (by simp only [V.evs, V.ev, e]) (by exact SPx) (fun v Post hv => ?_)
      obtain ⟨B, hw, rfl⟩ := hv
      exact VO.nil ⟨_, B, rfl, hw, by simp only [CNx]; exact IMx⟩
    | 13, _ =>
      show VO _ _ [⟨some 16, none, .fld 9 (.tmp 1)⟩] _ _ _ _
      exact st_fld (hkp 1 _ rfl (by decide)) rfl (VO.nil ⟨_, [], rfl, ⟨rfl, rfl⟩, Imp.perm (by simp)⟩)
    | 14, _ =>
      show VO _ _ [⟨some 17, none, .load1 (.tmp 16)⟩] _ _ _ _
      have e := hh 13 (by decide) 16 rfl
      rw [(hg 13 (by decide)).1] at e
      exact st_load1 e (by (focus ((repeat (first | (apply Has.cells; omega; rfl) | apply Has.there)); done))) (VO.nil ⟨_, [], rfl, ⟨rfl, rfl⟩, Imp.perm (by simp)⟩)
    | 15, _ =>
      show VO _ _ [⟨some 18, none, .call 54 [.tmp 17, .func 55]⟩] _ _ _ _
      have e := hh 14 (by decide) 17 rfl
      rw [(hg 14 (by decide)).1] at e
      refine st_call hkids (by simp only [V.evs, V.ev, e]) (by exact SPx) (fun v Post hv => ?_)
      obtain ⟨rows, sp, B, h1, h2, h3, h4, rfl⟩ := hv
      exact VO.nil ⟨_, slA v rows.flatten sp ++ B, rfl, ⟨rows, sp, B, h1, h2, h3, h4, rfl⟩, Imp.cut (M := [slA v rows.flatten sp, B, cellsAt q2 0 [.int .u8 0, .string ⟨#[]⟩, .int .u8 0, .int .i64 0, .int .u64 0, .string ⟨#[]⟩, .slice none 0 0, .slice none 0 0, .slice none 0 0, .slice none 0 0, .int .i64 0], cellsAt q 0 [cv k, .string s, cv lk, vi ln, uv lbt, .string lt, .slice la items.length lc, .slice aa args.length ac, .slice ta temps.length tc, .slice a kids.length c, vi p], A]) (by simp only [CNx]; exact IMx) (Imp.perm (by simp))⟩
    | n + 16, h => exact absurd h (by omega)
    · intro vv hg Γ' hh hkp
      show VO _ _ _ _ [(vv 0).2, (vv 1).2, (vv 2).2, (vv 3).2, (vv 4).2, (vv 5).2, (vv 6).2, (vv 7).2, (vv 8).2, (vv 9).2, (vv 10).2, (vv 11).2, (vv 12).2, (vv 13).2, (vv 14).2, (vv 15).2, cellsAt q2 0 [.int .u8 0, .string ⟨#[]⟩, .int .u8 0, .int .i64 0, .int .u64 0, .string ⟨#[]⟩, .slice none 0 0, .slice none 0 0, .slice none 0 0, .slice none 0 0, .int .i64 0], cellsAt q 0 [cv k, .string s, cv lk, vi ln, uv lbt, .string lt, .slice la items.length lc, .slice aa args.length ac, .slice ta temps.length tc, .slice a kids.length c, vi p], A] _ _
      refine VO.imp (H' := [cellsAt q2 0 [.int .u8 0, .string ⟨#[]⟩, .int .u8 0, .int .i64 0, .int .u64 0, .string ⟨#[]⟩, .slice none 0 0, .slice none 0 0, .slice none 0 0, .slice none 0 0, .int .i64 0], A, (vv 6).2, (vv 9).2, (vv 12).2, (vv 15).2]) (by exact IMx) ?_
      obtain ⟨ws, e6, h6⟩ := hg 6 (by omega)
      have h9 := hg 9 (by omega)
      have h12 := hg 12 (by omega)
      obtain ⟨rows, sp, B', h15, hrl, hr11, hrr, e15⟩ := hg 15 (by omega)
      have s4 := hh 1 (by decide) 4 rfl
      have s6 := hh 3 (by decide) 6 rfl
      have s9 := hh 6 (by decide) 9 rfl
      have s12 := hh 9 (by decide) 12 rfl
      have s15 := hh 12 (by decide) 15 rfl
      have s18 := hh 15 (by decide) 18 rfl
      rw [(hg 1 (by omega)).1] at s4
      rw [(hg 3 (by omega)).1] at s6
      rw [e6] at s9
      have s2 := hkp 2 _ rfl (by decide)
      clear hg hh hkp
      simp only at h9 h12
      generalize (vv 6).2 = B6 at *
      generalize vv 9 = p9 at *
      generalize vv 12 = p12 at *
      generalize vv 15 = p15 at *
      obtain ⟨v9, B9⟩ := p9
      obtain ⟨v12, B12⟩ := p12
      obtain ⟨v15, B15⟩ := p15
      simp only at *
      subst e15
      have hmade := nd_made (B := B' ++ (B6 ++ (B9 ++ B12))) (k := k) (s := s) (lit := .mk lk ln lbt lt items) (args := args) (temps := temps) (kids := kids.map Nd.bare) (p := 0) (lv := ws) (av := v9) (tv := v12) (sv := v15) (rows := rows) (sp := sp) (by rw [List.length_map]; exact h15) (by rw [List.length_map]; exact hrl) hr11
        (fun i x r hx hr => by
          rw [List.getElem?_map] at hx
          obtain ⟨y, hy, rfl⟩ := Option.map_eq_some_iff.1 hx
          exact (hrr i y r hy hr).more fun z hz => List.mem_append_left _ hz)
        (by rw [List.length_map]; exact ⟨wf.kind, wf.name, wf.many, by omega⟩) (h6.more fun z hz => by simp [hz]) (h9.more fun z hz => by simp [hz]) (h12.more fun z hz => by simp [hz])
      rw [← bares_map] at hmade
      obtain ⟨e1, c1, rfl⟩ := lt_open h6
      obtain ⟨a9, c9, rfl, _, _⟩ := h9
      obtain ⟨a12, c12, rfl, _, _⟩ := h12
      obtain ⟨a15, c15, rfl⟩ := h15.form
      simp only [Lt.kind, Lt.n, Lt.bits, Lt.text, Lt.items] at *
      refine VO.sub (Δ := [(2, ptr0 q2), (4, cv k), (6, .string s), (9, .agg #[cv lk, vi ln, uv lbt, .string lt, .slice e1 items.length c1]), (12, .slice a9 args.length c9), (15, .slice a12 temps.length c12), (18, .slice a15 kids.length c15)]) (Sub.cons s2 (Sub.cons s4 (Sub.cons s6 (Sub.cons s9 (Sub.cons s12 (Sub.cons s15 (Sub.cons s18 Sub.nil))))))) ?_
      refine GOH ?_
      exact ⟨.inr rfl, [.agg #[cv k, .string s, cv lk, vi ln, uv lbt, .string lt, .slice e1 items.length c1, .slice a9 args.length c9, .slice a12 temps.length c12, .slice a15 kids.length c15, .int .i64 0]], [A, slA (.slice a15 kids.length c15) rows.flatten sp ++ (B' ++ (B6 ++ (B9 ++ B12)))], .cellN (us := [cv k, .string s, cv lk, vi ln, uv lbt, .string lt, .slice e1 items.length c1, .slice a9 args.length c9, .slice a12 temps.length c12, .slice a15 kids.length c15, .int .i64 0]) (by rfl) (by rfl) (fun y hy => by simp only [List.flatten_cons, List.mem_append]; first | exact .inl hy | exact .inr (.inl hy) | exact .inr (.inr (.inl hy))) .nil,
        Imp.cut (M := [A, slA (.slice a15 kids.length c15) rows.flatten sp ++ B', B6, B9, B12]) (by exact IMx) (Imp.perm (by simp)), ⟨_, _, rfl, hmade, rfl⟩⟩
def wB (s : Int) : Int := max s 262144 + 140737488355329
theorem weighTexts_spec (A : List Atom) (av : Value) (l : List ByteArray) (h : RdT A av l) (s : Int) (hs : 0 ≤ s ∧ s ≤ 2305843009213693952) : Fun Tryz.prog 86 [av, vi s] [A] (fun v Post => ∃ r, v = vi r ∧ 0 ≤ r ∧ r ≤ wB s ∧ Post = [A]) := by
  obtain ⟨a, c, rfl, hl, hr⟩ := h
  refine Fun.intro low86 (by simp [n86]) ?_
  refine GOH ?_
  refine VC.loop (α := Nat × Int) (Γf := fun z => [(0, .slice a l.length c), (1, vi z.2), (5, vi z.1)]) (Hf := fun _ => [A])
    (I := fun z => z.1 ≤ l.length ∧ 0 ≤ z.2 ∧ z.2 ≤ wB s) (μ := fun z => l.length - z.1) (0, s) ⟨Nat.zero_le _, hs.1, by unfold wB; omega⟩ (by exact SUx) (by exact IMx) ?_
  rintro ⟨j, r⟩ ⟨i1, i2, i3⟩
  simp only at i1 i2 i3
  dsimp only
  unfold wB at i3
  refine GOH ?_
  by_cases hj : j < l.length
  rotate_left
  · rw [show decide ((j : Int) < (l.length : Int)) = false from decide_eq_false (by omega)]
    refine GOH ?_
    exact endQ_mk (Post := [A]) (.inr rfl) (.tmp (by rfl) .nil) ⟨r, rfl, i2, by unfold wB; omega, rfl⟩ (by exact IMx)
  rw [show decide ((j : Int) < (l.length : Int)) = true from decide_eq_true (by omega)]
  refine GOH ?_
  by_cases hr2 : r ≤ 262144
  rotate_left
  · rw [decide_eq_false hr2]
    refine GOH ?_
    exact endQ_mk (Post := [A]) (.inr rfl) (.tmp (by rfl) .nil) ⟨r, rfl, i2, by unfold wB; omega, rfl⟩ (by exact IMx)
  rw [decide_eq_true hr2]
  obtain ⟨x, hx⟩ : ∃ x, l[j]? = some x := ⟨_, List.getElem?_eq_getElem hj⟩
  obtain ⟨b1, o1, rfl, hc1, hs1⟩ := hr j x hx
  refine GOH ?_
  refine ⟨(j + 1, r + 1 + x.size), ⟨by simp only; omega, by simp only; omega, by simp only; unfold wB; omega⟩, by simp only; omega, by exact SUx, by exact IMx⟩
theorem weighLit_spec (A : List Atom) : ∀ (N : Nat) (x : Lt), x.size ≤ N → ∀ vs, LtRd A x vs → ∀ (s d : Int), 0 ≤ s → s ≤ 2305843009213693952 → 0 ≤ d → d ≤ 60001 → Fun Tryz.prog 111 [.agg vs.toArray, vi s, vi d] [A] (fun v Post => ∃ r, v = vi r ∧ 0 ≤ r ∧ r ≤ wB s ∧ Post = [A]) := by
  intro N
  induction N with
  | zero => intro x hx; have := x.size_pos; omega
  | succ N ih =>
    intro x hx vs h s d hs1 hs2 hd1 hd2
    cases h with
    | @mk k n b t items a c bk o us wf ha hm hr =>
    have hmany := wf.many
    have htx := wf.text
    refine Fun.intro low111 (by simp [n111]) ?_
    refine GOH ?_
    refine st_box (by rfl) (fun q => ?_)
    simp only [Value.cells]
    refine GOH ?_
    by_cases hd : d > 60000
    · rw [decide_eq_true hd]
      refine GOH ?_
      exact endQ_mk (Post := [A]) (.inr rfl) (.tmp (by rfl) .nil) ⟨262145, rfl, by omega, by unfold wB; omega, rfl⟩ (by exact IMx)
    rw [decide_eq_false hd]
    refine GOH ?_
    refine VC.loop (α := Nat × Int) (Γf := fun z => [(1, vi z.2), (2, vi d), (3, ptr0 q), (7, vi z.1)]) (Hf := fun _ => [A, cellsAt q 0 [cv k, vi n, uv b, .string t, .slice a items.length c]])
      (I := fun z => z.1 ≤ items.length ∧ 0 ≤ z.2 ∧ z.2 ≤ wB s) (μ := fun z => items.length - z.1) (0, s + 1 + t.size) ⟨Nat.zero_le _, by simp only; omega, by simp only; unfold wB; omega⟩ (by exact SUx) (by exact IMx) ?_
    rintro ⟨j, r⟩ ⟨i1, i2, i3⟩
    simp only at i1 i2 i3
    dsimp only
    unfold wB at i3
    refine GOH ?_
    by_cases hj : j < items.length
    rotate_left
    · rw [show decide ((j : Int) < (items.length : Int)) = false from decide_eq_false (by omega)]
      refine GOH ?_
      exact endQ_mk (Post := [A]) (.inr rfl) (.tmp (by rfl) .nil) ⟨r, rfl, i2, by unfold wB; omega, rfl⟩ (by exact IMx)
    rw [show decide ((j : Int) < (items.length : Int)) = true from decide_eq_true (by omega)]
    refine GOH ?_
    by_cases hr2 : r ≤ 262144
    rotate_left
    · rw [decide_eq_false hr2]
      refine GOH ?_
      exact endQ_mk (Post := [A]) (.inr rfl) (.tmp (by rfl) .nil) ⟨r, rfl, i2, by unfold wB; omega, rfl⟩ (by exact IMx)
    rw [decide_eq_true hr2]
    obtain rfl := ha (by omega)
    obtain ⟨y, hy⟩ : ∃ y, items[j]? = some y := ⟨_, List.getElem?_eq_getElem hj⟩
    have hym := hm j hj
    have hyr := hr j y hy
    have hyl := hyr.len
    have h1 := Lt.sizes_mem (List.mem_of_getElem? hy)
    simp only [Lt.size] at hx
    have hcall := ih y (by omega) _ hyr r (d + 1) i2 (by omega) (by omega) (by omega)
    refine GOH ?_
    refine st_loadA (by rfl) (fun z hz => List.mem_append_left _ (hym z hz)) hyl ?_
    refine GOH ?_
    refine st_call hcall (by rfl) (by exact SPx) (fun v Post hv => ?_)
    obtain ⟨r', rfl, h2, h3, rfl⟩ := hv
    unfold wB at h3
    simp only [CNx]
    refine GOH ?_
    refine ⟨(j + 1, r'), ⟨by simp only; omega, by simp only; omega, by simp only; unfold wB; omega⟩, by simp only; omega, by exact SUx, by exact IMx⟩
def wN (s : Int) : Int := max s 262144 + 562949953421316
theorem weighNode_spec (A : List Atom) : ∀ (N : Nat) (x : Nd), x.w ≤ N → ∀ vs, NdRd A x vs → ∀ (s d : Int), 0 ≤ s → s ≤ 1152921504606846976 → 0 ≤ d → d ≤ 60001 → Fun Tryz.prog 70 [.agg vs.toArray, vi s, vi d] [A] (fun v Post => ∃ r, v = vi r ∧ 0 ≤ r ∧ r ≤ wN s ∧ Post = [A]) := by
  intro N
  induction N with
  | zero => intro x hx; have := x.w_pos; omega
  | succ N ih =>
    intro x hx vs h s d hs1 hs2 hd1 hd2
    cases h with
    | @mk k nm lit args temps kids p lv av tv a c bk o us wf hl hav htv ha hm hr hcp =>
    have hmany := wf.many
    have hnm := wf.name
    have hlit := fun s hs1 hs2 => weighLit_spec A _ lit (Nat.le_refl _) lv hl s 0 hs1 hs2 (by omega) (by omega)
    have hat := fun s hs => weighTexts_spec A av args hav s hs
    have htt := fun s hs => weighTexts_spec A tv temps htv s hs
    obtain ⟨aa, ac, rfl, _, _⟩ := hav
    obtain ⟨ta, tc, rfl, _, _⟩ := htv
    obtain ⟨la, lc, rfl⟩ := lt_open hl
    refine Fun.intro low70 (by simp [n70]) ?_
    simp only [CNx]
    refine GOH ?_
    refine st_box (by rfl) (fun q => ?_)
    simp only [Value.cells]
    refine GOH ?_
    refine st_call (hlit (s + 1 + nm.size) (by omega) (by omega)) (by rfl) (by exact SPx) (fun v Post hv => ?_)
    obtain ⟨r1, rfl, h1, h2, rfl⟩ := hv
    unfold wB at h2
    simp only [CNx]
    refine GOH ?_
    refine st_call (hat r1 (by omega)) (by rfl) (by exact SPx) (fun v Post hv => ?_)
    obtain ⟨r2, rfl, h3, h4, rfl⟩ := hv
    unfold wB at h4
    simp only [CNx]
    refine GOH ?_
    refine st_call (htt r2 (by omega)) (by rfl) (by exact SPx) (fun v Post hv => ?_)
    obtain ⟨r3, rfl, h5, h6, rfl⟩ := hv
    unfold wB at h6
    simp only [CNx]
    have h7 : r3 ≤ wN s := by unfold wN; omega
    clear h2 h4 h6
    refine GOH ?_
    by_cases hd : d > 60000
    · rw [decide_eq_true hd]
      refine GOH ?_
      exact endQ_mk (Post := [A]) (.inr rfl) (.tmp (by rfl) .nil) ⟨262145, rfl, by omega, by unfold wN; omega, rfl⟩ (by exact IMx)
    rw [decide_eq_false hd]
    refine GOH ?_
    refine VC.loop (α := Nat × Int) (Γf := fun z => [(1, vi z.2), (2, vi d), (3, ptr0 q), (7, vi z.1)]) (Hf := fun _ => [A, cellsAt q 0 [cv k, .string nm, cv lit.kind, vi lit.n, uv lit.bits, .string lit.text, .slice la lit.items.length lc, .slice aa args.length ac, .slice ta temps.length tc, .slice a kids.length c, vi p]])
      (I := fun z => z.1 ≤ kids.length ∧ 0 ≤ z.2 ∧ z.2 ≤ wN s) (μ := fun z => kids.length - z.1) (0, r3) ⟨Nat.zero_le _, h5, h7⟩ (by exact SUx) (by exact IMx) ?_
    rintro ⟨j, r⟩ ⟨i1, i2, i3⟩
    simp only at i1 i2 i3
    dsimp only
    unfold wN at i3
    refine GOH ?_
    by_cases hj : j < kids.length
    rotate_left
    · rw [show decide ((j : Int) < (kids.length : Int)) = false from decide_eq_false (by omega)]
      refine GOH ?_
      exact endQ_mk (Post := [A]) (.inr rfl) (.tmp (by rfl) .nil) ⟨r, rfl, i2, by unfold wN; omega, rfl⟩ (by exact IMx)
    rw [show decide ((j : Int) < (kids.length : Int)) = true from decide_eq_true (by omega)]
    refine GOH ?_
    by_cases hr2 : r ≤ 262144
    rotate_left
    · rw [decide_eq_false hr2]
      refine GOH ?_
      exact endQ_mk (Post := [A]) (.inr rfl) (.tmp (by rfl) .nil) ⟨r, rfl, i2, by unfold wN; omega, rfl⟩ (by exact IMx)
    rw [decide_eq_true hr2]
    obtain rfl := ha (by omega)
    obtain ⟨y, hy⟩ : ∃ y, kids[j]? = some y := ⟨_, List.getElem?_eq_getElem hj⟩
    have hym := hm j hj
    have hyr := hr j y hy
    have hyl := hyr.len
    have h1 := Nd.ws_mem (List.mem_of_getElem? hy)
    simp only [Nd.w] at hx
    have hcall := ih y (by omega) _ hyr r (d + 1) i2 (by omega) (by omega) (by omega)
    refine GOH ?_
    refine st_loadA (by rfl) (fun z hz => List.mem_append_left _ (hym z hz)) hyl ?_
    refine GOH ?_
    refine st_call hcall (by rfl) (by exact SPx) (fun v Post hv => ?_)
    obtain ⟨r', rfl, h2, h3, rfl⟩ := hv
    unfold wN at h3
    simp only [CNx]
    refine GOH ?_
    refine ⟨(j + 1, r'), ⟨by simp only; omega, by simp only; omega, by simp only; unfold wN; omega⟩, by simp only; omega, by exact SUx, by exact IMx⟩
structure KidsRd (A : List Atom) (l : List Nd) (a : Option Addr) (bk o : Nat) (us : Nat → List Value) : Prop where
  at_ : 0 < l.length → a = some ⟨bk, o, none⟩
  many : l.length ≤ 140737488355328
  mem : ∀ i, i < l.length → ∀ y ∈ cellsAt bk (o + i * 11) (us i), y ∈ A
  rd : ∀ i x, l[i]? = some x → NdRd A x (us i)
theorem KidsRd.ok {A : List Atom} {l : List Nd} {a : Option Addr} {bk o : Nat} {us : Nat → List Value} (h : KidsRd A l a bk o us) (hE : ErA A) (hw : Nd.ws l ≤ 274877906944) : KidsOk A l a bk o us :=
  ⟨h.at_, h.many, h.mem, h.rd, fun i x e => node_spec A hE x (by have := Nd.ws_mem (List.mem_of_getElem? e); omega) _ (h.rd i x e)⟩
structure MdW (A : List Atom) (x : Md) (vs : List Value) : Prop where
  form : ∃ aa ac ta tc a c bk o us, vs = [.string x.sel, .slice aa x.args.length ac, .slice ta x.temps.length tc, vi x.prim, .slice a x.body.length c] ∧ RdT A (.slice aa x.args.length ac) x.args ∧ RdT A (.slice ta x.temps.length tc) x.temps ∧ KidsRd A x.body a bk o us
  sel : x.sel.size ≤ 140737488355328
  prim : -9223372036854775808 ≤ x.prim ∧ x.prim ≤ 9223372036854775807
theorem MdW.ok {A : List Atom} {x : Md} {vs : List Value} (h : MdW A x vs) (hE : ErA A) (hw : Nd.ws x.body ≤ 274877906944) : MdRd A x vs := by
  obtain ⟨⟨aa, ac, ta, tc, a, c, bk, o, us, h1, h2, h3, h4⟩, h5, h6⟩ := h
  exact ⟨⟨aa, ac, ta, tc, a, c, bk, o, us, h1, h2, h3, h4.ok hE hw⟩, h5, h6⟩
theorem MdW.more {A B : List Atom} {x : Md} {vs : List Value} (h : MdW A x vs) (hs : ∀ z ∈ A, z ∈ B) : MdW B x vs := by
  obtain ⟨⟨aa, ac, ta, tc, a, c, bk, o, us, h1, h2, h3, h4⟩, h5, h6⟩ := h
  exact ⟨⟨aa, ac, ta, tc, a, c, bk, o, us, h1, h2.more hs, h3.more hs, ⟨h4.at_, h4.many, fun i hi y hy => hs _ (h4.mem i hi y hy), fun i x e => (h4.rd i x e).more hs⟩⟩, h5, h6⟩
def Md.bare (x : Md) : Md := { x with body := x.body.map Nd.bare }
theorem md_made {x : Md} {v v2 sv : Value} {B B1 B2 : List Atom} {rows : List (List Value)} {sp : List Value} {a1 a2 a3 : Option Addr} {c1 c2 c3 : Nat} (hsel : x.sel.size ≤ 140737488355328) (hprim : -9223372036854775808 ≤ x.prim ∧ x.prim ≤ 9223372036854775807) (hml : x.body.length ≤ 140737488355328)
    (h1 : RdT B1 v x.args) (h2 : RdT B2 v2 x.temps) (g1 : IsSl 11 sv x.body.length rows.flatten sp) (g2 : rows.length = x.body.length) (g3 : ∀ r ∈ rows, r.length = 11) (g4 : ∀ (i : Nat) y r, x.body[i]? = some y → rows[i]? = some r → NdRd B y.bare r)
    (e1 : v = .slice a1 x.args.length c1) (e2 : v2 = .slice a2 x.temps.length c2) (e3 : sv = .slice a3 x.body.length c3) :
    MdW (slA sv rows.flatten sp ++ (B ++ (B1 ++ B2))) x.bare [.string x.sel, v, v2, vi x.prim, sv] := by
  have hget : ∀ i, i < x.body.length → rows[i]? = some (rows.getD i []) := fun i hi => by
    rw [List.getD_eq_getElem?_getD, List.getElem?_eq_getElem (by omega)]; rfl
  have hbl : x.bare.body.length = x.body.length := by simp [Md.bare]
  have key : ∃ bk o us, KidsRd (slA sv rows.flatten sp ++ (B ++ (B1 ++ B2))) x.bare.body a3 bk o us := by
    have hrd : ∀ i y, x.bare.body[i]? = some y → NdRd (slA sv rows.flatten sp ++ (B ++ (B1 ++ B2))) y (rows.getD i []) := fun i y hy => by
      have hy' : (x.body.map Nd.bare)[i]? = some y := hy
      rw [List.getElem?_map] at hy'
      obtain ⟨u, hu, rfl⟩ := Option.map_eq_some_iff.1 hy'
      have hi := (List.getElem?_eq_some_iff.1 hu).1
      exact (g4 i u _ hu (hget i hi)).more fun z hz => by simp [hz]
    generalize hxs : rows.flatten = xs at g1 ⊢ hrd
    generalize hm : x.body.length = m at g1
    cases g1 with
    | @mk bk o _ c _ _ h1 h2 h3 =>
      cases e3
      refine ⟨bk, o, fun i => rows.getD i [], fun _ => rfl, ?_, fun i hi y hy => ?_, hrd⟩
      · omega
      · refine List.mem_append_left _ ?_
        simp only [slA, cellsAt_append]
        rw [← hxs]
        exact List.mem_append_left _ (cells_row g3 (hget i (by omega)) y hy)
    | nil =>
      refine ⟨0, 0, fun i => rows.getD i [], fun h => by omega, by omega, fun i hi => by omega, hrd⟩
  obtain ⟨bk, o, us, hk⟩ := key
  refine ⟨⟨a1, c1, a2, c2, a3, c3, bk, o, us, ?_, ?_, ?_, hk⟩, hsel, hprim⟩
  · rw [e1, e2, hbl, ← e3]; rfl
  · rw [e1] at h1; exact h1.more fun z hz => by simp [hz]
  · rw [e2] at h2; exact h2.more fun z hz => by simp [hz]
theorem Bare_spec (A : List Atom) (x : Md) (vs : List Value) (h : MdW A x vs) (hw : Nd.ws x.body ≤ 274877906944) : Fun Tryz.prog 15 [.agg vs.toArray] [A] (fun v Post => ∃ ws B, v = .agg ws.toArray ∧ MdW B x.bare ws ∧ Post = [A, B]) := by
  obtain ⟨⟨aa, ac, ta, tc, a, c, bk, o, us, rfl, hav, htv, hk⟩, hsel, hprim⟩ := h
  have hge := ws_ge x.body
  have hkids := eachNodes_spec A x.body a c bk o us (by omega) hk.at_ hk.mem hk.rd (.func (.func 55) #[] #[]) (fun i y e1 => by
    have h1 := Nd.ws_mem (List.mem_of_getElem? e1)
    exact FunV.of_fun (first := #[]) (cap := #[]) (bare_spec A _ y (Nat.le_refl _) (by omega) _ (hk.rd i y e1)))
  have hca := cloneTexts_spec A _ x.args hav
  have hct := cloneTexts_spec A _ x.temps htv
  refine Fun.intro low15 (by simp [n15]) ?_
  refine GOHS ?_
  refine st_box (by rfl) (fun q => ?_)
  refine st_alloc (fun q2 => ?_)
  simp only [Value.cells]
  refine GOHS ?_
  refine VC.seq (VC.draws ⟨?_, ?_, trivial⟩)
  · skip
    refine GOH ?_
    refine st_call hca (by rfl) (by exact SPx) (fun v Post hv => ?_)
    obtain ⟨B1, h1, rfl⟩ := hv
    simp only [CNx]
    refine GOH ?_
    refine st_call hct (by rfl) (by exact SPx) (fun v2 Post hv => ?_)
    obtain ⟨B2, h2, rfl⟩ := hv
    simp only [CNx]
    have h1' := h1
    have h2' := h2
    obtain ⟨a1, c1, rfl, _, _⟩ := h1'
    obtain ⟨a2, c2, rfl, _, _⟩ := h2'
    refine GOH ?_
    refine st_call hkids (by rfl) (by exact SPx) (fun v Post hv => ?_)
    obtain ⟨rows, sp, B, g1, g2, g3, g4, rfl⟩ := hv
    simp only [CNx]
    have g1' := g1
    obtain ⟨a3, c3, rfl⟩ := g1'.form
    refine GOH ?_
    exact ⟨.inr rfl, [.agg #[.string x.sel, .slice a1 x.args.length c1, .slice a2 x.temps.length c2, vi x.prim, .slice a3 x.body.length c3]], [A, slA (.slice a3 x.body.length c3) rows.flatten sp ++ (B ++ (B1 ++ B2))], .cellN (us := [.string x.sel, .slice a1 x.args.length c1, .slice a2 x.temps.length c2, vi x.prim, .slice a3 x.body.length c3]) (by rfl) (by rfl) (fun y hy => by simp only [List.flatten_cons, List.mem_append]; first | exact .inl hy | exact .inr (.inl hy) | exact .inr (.inr (.inl hy)) | exact .inr (.inr (.inr (.inl hy))) | exact .inr (.inr (.inr (.inr (.inl hy)))) | exact .inr (.inr (.inr (.inr (.inr (.inl hy))))) | exact .inr (.inr (.inr (.inr (.inr (.inr (.inl hy))))))) .nil,
      Imp.cut (M := [A, slA (.slice a3 x.body.length c3) rows.flatten sp, B, B1, B2]) (by exact IMx) (Imp.perm (by simp)), ⟨_, _, rfl, md_made (sp := sp) (sv := .slice a3 x.body.length c3) hsel hprim hk.many h1 h2 g1 g2 g3 g4 rfl rfl rfl, rfl⟩⟩
  · skip
    refine GOH ?_
    refine st_call hca (by rfl) (by exact SPx) (fun v Post hv => ?_)
    obtain ⟨B1, h1, rfl⟩ := hv
    simp only [CNx]
    refine GOH ?_
    refine st_call hct (by rfl) (by exact SPx) (fun v2 Post hv => ?_)
    obtain ⟨B2, h2, rfl⟩ := hv
    simp only [CNx]
    have h1' := h1
    have h2' := h2
    obtain ⟨a1, c1, rfl, _, _⟩ := h1'
    obtain ⟨a2, c2, rfl, _, _⟩ := h2'
    refine GOH ?_
    refine st_call hkids (by rfl) (by exact SPx) (fun v Post hv => ?_)
    obtain ⟨rows, sp, B, g1, g2, g3, g4, rfl⟩ := hv
    simp only [CNx]
    have g1' := g1
    obtain ⟨a3, c3, rfl⟩ := g1'.form
    refine GOH ?_
    exact ⟨.inr rfl, [.agg #[.string x.sel, .slice a1 x.args.length c1, .slice a2 x.temps.length c2, vi x.prim, .slice a3 x.body.length c3]], [A, slA (.slice a3 x.body.length c3) rows.flatten sp ++ (B ++ (B1 ++ B2))], .cellN (us := [.string x.sel, .slice a1 x.args.length c1, .slice a2 x.temps.length c2, vi x.prim, .slice a3 x.body.length c3]) (by rfl) (by rfl) (fun y hy => by simp only [List.flatten_cons, List.mem_append]; first | exact .inl hy | exact .inr (.inl hy) | exact .inr (.inr (.inl hy)) | exact .inr (.inr (.inr (.inl hy))) | exact .inr (.inr (.inr (.inr (.inl hy)))) | exact .inr (.inr (.inr (.inr (.inr (.inl hy))))) | exact .inr (.inr (.inr (.inr (.inr (.inr (.inl hy))))))) .nil,
      Imp.cut (M := [A, slA (.slice a3 x.body.length c3) rows.flatten sp, B, B1, B2]) (by exact IMx) (Imp.perm (by simp)), ⟨_, _, rfl, md_made (sp := sp) (sv := .slice a3 x.body.length c3) hsel hprim hk.many h1 h2 g1 g2 g3 g4 rfl rfl rfl, rfl⟩⟩
def zeroL : Lt := .mk 0 0 0 ⟨#[]⟩ []
def leafN (s : ByteArray) : Nd := .mk 2 s zeroL [] [] [] 0
def mulN : Nd := .mk 4 ⟨#[42]⟩ zeroL [] [] [leafN ⟨#[98]⟩, leafN ⟨#[99]⟩] 5
def sumN : Nd := .mk 4 ⟨#[43]⟩ zeroL [] [] [leafN ⟨#[97]⟩, mulN] 0
abbrev leafC (s : ByteArray) : List Value := [.int .u8 2, .string s, .int .u8 0, .int .i64 0, .int .u64 0, .string ⟨#[]⟩, .slice none 0 0, .slice none 0 0, .slice none 0 0, .slice none 0 0, .int .i64 0]
abbrev sendC (s : ByteArray) (q : Nat) (p : Int) : List Value := [.int .u8 4, .string s, .int .u8 0, .int .i64 0, .int .u64 0, .string ⟨#[]⟩, .slice none 0 0, .slice none 0 0, .slice none 0 0, .slice (some ⟨q, 0, none⟩) 2 2, .int .i64 p]
theorem zeroL_rd : LtRd [] zeroL [.int .u8 0, .int .i64 0, .int .u64 0, .string ⟨#[]⟩, .slice none 0 0] :=
  lt_made (B := []) (k := 0) (n := 0) (b := 0) (t := ⟨#[]⟩) (items := []) (rows := []) (sp := []) .nil rfl (fun r h => by cases h) (fun i x r h => by simp at h) ⟨by omega, by omega, by omega, by decide, by simp⟩
theorem none_rd : RdT [] (.slice none 0 0) [] := ⟨none, 0, rfl, by simp, fun i t e => by simp at e⟩
theorem leaf_rd (s : ByteArray) (hs : s.size ≤ 140737488355328) : NdRd [] (leafN s) (leafC s) :=
  nd_made (B := []) (k := 2) (s := s) (lit := zeroL) (kids := []) (p := 0) (rows := []) (sp := []) .nil rfl (fun r h => by cases h) (fun i x r h => by simp at h) ⟨by omega, hs, by simp, by omega⟩ zeroL_rd none_rd none_rd
theorem mul_rd (q : Nat) : NdRd (cellsAt q 0 (leafC ⟨#[98]⟩ ++ leafC ⟨#[99]⟩)) mulN (sendC ⟨#[42]⟩ q 5) := by
  have := nd_made (B := []) (k := 4) (s := ⟨#[42]⟩) (lit := zeroL) (kids := [leafN ⟨#[98]⟩, leafN ⟨#[99]⟩]) (p := 5) (sv := .slice (some ⟨q, 0, none⟩) 2 2) (rows := [leafC ⟨#[98]⟩, leafC ⟨#[99]⟩]) (sp := []) (.mk rfl rfl (Nat.le_refl _)) rfl (fun r h => by
    rcases List.mem_cons.1 h with rfl | h
    · rfl
    · rw [List.mem_singleton.1 h]; rfl) (fun i x r h1 h2 => by
    match i, h1, h2 with
    | 0, h1, h2 => cases h1; cases h2; exact leaf_rd _ (by decide)
    | 1, h1, h2 => cases h1; cases h2; exact leaf_rd _ (by decide)
    | i + 2, h1, h2 => simp at h1) ⟨by omega, by decide, by simp, by omega⟩ zeroL_rd none_rd none_rd
  exact this.more fun z hz => by simpa [slA] using hz
theorem sum_rd (q q2 : Nat) : NdRd (cellsAt q2 0 (leafC ⟨#[97]⟩ ++ sendC ⟨#[42]⟩ q 5) ++ cellsAt q 0 (leafC ⟨#[98]⟩ ++ leafC ⟨#[99]⟩)) sumN (sendC ⟨#[43]⟩ q2 0) := by
  have hsub : ∀ z ∈ ([] : List Atom), z ∈ cellsAt q 0 (leafC ⟨#[98]⟩ ++ leafC ⟨#[99]⟩) := fun z h => by cases h
  have := nd_made (B := cellsAt q 0 (leafC ⟨#[98]⟩ ++ leafC ⟨#[99]⟩)) (k := 4) (s := ⟨#[43]⟩) (lit := zeroL) (kids := [leafN ⟨#[97]⟩, mulN]) (p := 0) (sv := .slice (some ⟨q2, 0, none⟩) 2 2) (rows := [leafC ⟨#[97]⟩, sendC ⟨#[42]⟩ q 5]) (sp := []) (.mk rfl rfl (Nat.le_refl _)) rfl (fun r h => by
    rcases List.mem_cons.1 h with rfl | h
    · rfl
    · rw [List.mem_singleton.1 h]; rfl) (fun i x r h1 h2 => by
    match i, h1, h2 with
    | 0, h1, h2 => cases h1; cases h2; exact (leaf_rd _ (by decide)).more hsub
    | 1, h1, h2 => cases h1; cases h2; exact mul_rd q
    | i + 2, h1, h2 => simp at h1) ⟨by omega, by decide, by simp, by omega⟩ (zeroL_rd.more hsub) (none_rd.more hsub) (none_rd.more hsub)
  exact this.more fun z hz => by simpa [slA] using hz
theorem sum_spec : Fun Tryz.prog 42 [] [] (fun v Post => ∃ q q2, v = .agg (sendC ⟨#[43]⟩ q2 0).toArray ∧ Post = [cellsAt q2 0 (leafC ⟨#[97]⟩ ++ sendC ⟨#[42]⟩ q 5), cellsAt q 0 (leafC ⟨#[98]⟩ ++ leafC ⟨#[99]⟩)]) := by
  refine Fun.intro low42 (by simp [n42]) ?_
  refine GOH ?_
  refine st_alloc (fun r => ?_)
  refine GOH ?_
  refine st_bslice (out := leafC ⟨#[98]⟩ ++ leafC ⟨#[99]⟩) (by rfl) (by rfl) (fun q => ?_)
  refine GOH ?_
  refine st_alloc (fun r2 => ?_)
  refine GOH ?_
  refine st_bslice (out := leafC ⟨#[97]⟩ ++ sendC ⟨#[42]⟩ q 5) (by rfl) (by rfl) (fun q2 => ?_)
  refine GOH ?_
  exact ⟨.inr rfl, [.agg (sendC ⟨#[43]⟩ q2 0).toArray], [cellsAt q2 0 (leafC ⟨#[97]⟩ ++ sendC ⟨#[42]⟩ q 5), cellsAt q 0 (leafC ⟨#[98]⟩ ++ leafC ⟨#[99]⟩)], .cellN (us := sendC ⟨#[43]⟩ q2 0) (by rfl) (by rfl) (fun y hy => by simp only [List.flatten_cons, List.mem_append]; first | exact .inl hy | exact .inr (.inl hy) | exact .inr (.inr (.inl hy)) | exact .inr (.inr (.inr (.inl hy)))) .nil, by exact IMx, ⟨q, q2, rfl, rfl⟩⟩
def sumM : Md := ⟨⟨#[120]⟩, [], [], 0, [sumN]⟩
def badM : Md := ⟨⟨#[120, 58]⟩, [], [], 0, []⟩
theorem e_level : levelT sumN = 4 := by decide
theorem e_depth : depthT sumN = 1 := by decide
theorem e_size : (allN sumN).length = 5 := by decide
theorem e_check : checkN sumN = 0 := by decide
theorem e_super : checkN (leafN ⟨#[115, 117, 112, 101, 114]⟩) = 150 := by decide
theorem e_m : checkM sumM = 0 := by decide
theorem e_bad : checkM badM = 150 := by decide
theorem e_sends : sendsM sumM = [⟨#[43]⟩, ⟨#[42]⟩] := by decide
theorem e_same : mdEq sumM sumM.bare = true := by decide
theorem e_one : ndEq sumN sumN = true := by decide
end Go.Proofs.YtmnmandpdadedaaGreatDoor

/-
  Copies: nodes, methods.
-/
import Derived.Test.YtmnmandpdadedaaGreatDoorT11
import Derived.Test.YtmnmandpdadedaaGreatDoorV16
set_option linter.unusedSimpArgs false
set_option linter.unusedVariables false
namespace Go.Proofs.YtmnmandpdadedaaGreatDoor
open Go Go.V
set_option maxHeartbeats 3200000
set_option maxRecDepth 100000
theorem eachNodes_spec (A : List Atom) (l : List Nd) (a : Option Addr) (c bk o : Nat) (us : Nat → List Value) (hla : l.length ≤ 274877906944) (ha : 0 < l.length → a = some ⟨bk, o, none⟩) (hm : ∀ i, i < l.length → ∀ y ∈ cellsAt bk (o + i * 11) (us i), y ∈ A) (hr : ∀ i x, l[i]? = some x → NdRd A x (us i))
    (fv : Value) (hfv : ∀ i x, l[i]? = some x → FunV Tryz.prog fv [.agg (us i).toArray] [A] (fun v Post => ∃ ws B, v = .agg ws.toArray ∧ NdRd B x.bare ws ∧ Post = [A, B])) :
    Fun Tryz.prog 54 [.slice a l.length c, fv] [A] (fun v Post => ∃ (rows : List (List Value)) (sp : List Value) (B : List Atom), IsSl 11 v l.length rows.flatten sp ∧ rows.length = l.length ∧ (∀ r ∈ rows, r.length = 11) ∧ (∀ (i : Nat) x r, l[i]? = some x → rows[i]? = some r → NdRd B x.bare r) ∧ Post = [A, slA v rows.flatten sp, B]) := by
  refine Fun.intro low54 (by simp [n54]) ?_
  refine GOH ?_
  refine VC.loop (α := Nat × Value × List (List Value) × List Value × List Atom) (Γf := fun s => [(1, fv), (5, s.2.1), (8, .slice a l.length c), (9, vi l.length), (10, vi s.1)]) (Hf := fun s => [A, slA s.2.1 s.2.2.1.flatten s.2.2.2.1, s.2.2.2.2])
    (I := fun s => s.1 ≤ l.length ∧ IsSl 11 s.2.1 s.1 s.2.2.1.flatten s.2.2.2.1 ∧ s.2.2.1.length = s.1 ∧ (∀ r ∈ s.2.2.1, r.length = 11) ∧ ∀ (i : Nat) x r, l[i]? = some x → s.2.2.1[i]? = some r → NdRd s.2.2.2.2 x.bare r) (μ := fun s => l.length - s.1) (0, .slice none 0 0, [], [], []) ⟨Nat.zero_le _, .nil, rfl, fun r hr => (by cases hr), fun i x r _ h => (by simp at h)⟩ (by exact SUx) ⟨[], by simp [V.Spl, slA]⟩ ?_
  rintro ⟨j, sv, rows, sp, B⟩ ⟨i1, i2, i3, i4, i5⟩
  simp only at i1 i2 i3 i4 i5
  dsimp only
  refine GOH ?_
  by_cases hj : j < l.length
  rotate_left
  · rw [show decide ((j : Int) < (l.length : Int)) = false from decide_eq_false (by omega)]
    have hjl : j = l.length := by omega
    subst hjl
    refine GOH ?_
    exact endQ_mk (Post := [A, slA sv rows.flatten sp, B]) (.inr rfl) (.tmp (by rfl) .nil) ⟨rows, sp, B, i2, i3, i4, i5, rfl⟩ (by exact IMx)
  obtain rfl := ha (by omega)
  rw [show decide ((j : Int) < (l.length : Int)) = true from decide_eq_true (by omega)]
  obtain ⟨y, hy⟩ : ∃ y, l[j]? = some y := ⟨_, List.getElem?_eq_getElem hj⟩
  have hym := hm j hj
  have hyr := hr j y hy
  have hcall := hfv j y hy
  generalize us j = uj at *
  obtain ⟨e1, e2, e3, e4, e5, e6, e7, e8, e9, e10, e11, e12, e13, e14, e15, e16, e17, rfl, _, _⟩ := nd_open2 hyr
  refine GOH ?_
  refine st_loadA (by rfl) (fun z hz => List.mem_append_left _ (hym z hz)) rfl ?_
  refine GOH ?_
  refine st_alloc (fun q => ?_)
  refine GOH ?_
  refine st_callV (by rfl) hcall (by rfl) (by exact SPx) (fun v Post hv => ?_)
  obtain ⟨ws, B2, rfl, hw, rfl⟩ := hv
  simp only [CNx]
  have hwl := hw.len
  obtain ⟨f1, f2, f3, f4, f5, f6, f7, f8, f9, f10, f11, f12, f13, f14, f15, f16, f17, rfl, _, _⟩ := nd_open2 hw
  refine st_bslice (out := [cv y.bare.kind, .string y.bare.name, cv f1, vi f2, uv f3, .string f4, .slice f5 f6 f7, .slice f8 f9 f10, .slice f11 f12 f13, .slice f14 f15 f16, vi f17]) (by rfl) (by rfl) (fun r => ?_)
  refine st_append (k := j) (m := 1) (xs := rows.flatten) (sp := sp) (ys := [cv y.bare.kind, .string y.bare.name, cv f1, vi f2, uv f3, .string f4, .slice f5 f6 f7, .slice f8 f9 f10, .slice f11 f12 f13, .slice f14 f15 f16, vi f17]) (by rfl) (by rfl) i2 (by exact TKx) (by rfl) ?_ rfl (by rfl) (by rfl) (by decide) (by omega) (fun sv' sp' hsl' => ?_)
  · exact ⟨rfl, fun a ha => by simp only [List.flatten_cons, List.mem_append]; exact .inl ha⟩
  have hfl : rows.flatten ++ [cv y.bare.kind, .string y.bare.name, cv f1, vi f2, uv f3, .string f4, .slice f5 f6 f7, .slice f8 f9 f10, .slice f11 f12 f13, .slice f14 f15 f16, vi f17] = (rows ++ [[cv y.bare.kind, .string y.bare.name, cv f1, vi f2, uv f3, .string f4, .slice f5 f6 f7, .slice f8 f9 f10, .slice f11 f12 f13, .slice f14 f15 f16, vi f17]]).flatten := by simp
  rw [hfl] at hsl' ⊢
  refine GOH ?_
  refine ⟨(j + 1, sv', rows ++ [[cv y.bare.kind, .string y.bare.name, cv f1, vi f2, uv f3, .string f4, .slice f5 f6 f7, .slice f8 f9 f10, .slice f11 f12 f13, .slice f14 f15 f16, vi f17]], sp', B2 ++ B), ⟨by simp only; omega, hsl', by simp [i3], fun r hr => ?_, fun i x r hx hr => ?_⟩, by simp only; omega, by exact SUx, ?_⟩
  · rcases List.mem_append.1 hr with h | h
    · exact i4 r h
    · rw [List.mem_singleton.1 h]; rfl
  · simp only at hr
    by_cases hi : i < rows.length
    · rw [List.getElem?_append_left hi] at hr
      exact (i5 i x r hx hr).more fun z hz => List.mem_append_right _ hz
    · rw [List.getElem?_append_right (by omega)] at hr
      have hi0 : i - rows.length = 0 := by
        have := (List.getElem?_eq_some_iff.1 hr).1
        simp at this; omega
      rw [hi0] at hr
      simp only [List.getElem?_cons_zero, Option.some.injEq] at hr
      subst hr
      have : i = j := by omega
      subst this
      rw [hy] at hx; cases hx
      exact hw.more fun z hz => List.mem_append_left _ hz
  · simp only
    refine Imp.cut (M := [A, slA sv' (rows ++ [[cv y.bare.kind, .string y.bare.name, cv f1, vi f2, uv f3, .string f4, .slice f5 f6 f7, .slice f8 f9 f10, .slice f11 f12 f13, .slice f14 f15 f16, vi f17]]).flatten sp', B2, B]) (by exact IMx) (Imp.perm (by simp))
theorem VO.sub {P : Program} {n : Nat} {rs : List RO} {Γ Δ : Env} {H : SH} {Z : List PanicEntry → Env → SH → Prop} {K : Env → SH → Prop} (hs : V.Sub Γ Δ) (h : VO P n rs Δ H Z K) : VO P n rs Γ H Z K :=
  fun l hl a w F ZZ Q ha hsat hq hz => h l hl a w F ZZ Q ⟨ha.size, fun t v e => ha.slots t v (hs t v e)⟩ hsat hq hz
theorem bares_map : ∀ l : List Nd, Nd.bares l = l.map Nd.bare := by
  intro l
  induction l with
  | nil => rfl
  | cons x r ih => simp only [Nd.bares, ih, List.map_cons]
theorem bare_spec (A : List Atom) : ∀ (N : Nat) (x : Nd), x.w ≤ N → x.w ≤ 274877906944 → ∀ vs, NdRd A x vs → Fun Tryz.prog 55 [.agg vs.toArray] [A] (fun v Post => ∃ ws B, v = .agg ws.toArray ∧ NdRd B x.bare ws ∧ Post = [A, B]) := by
  intro N
  induction N with
  | zero => intro x hx; have := x.w_pos; omega
  | succ N ih =>
    intro x hx hb vs h
    cases h with
    | @mk k s lit args temps kids p lv av tv a c bk o us wf hl hav htv ha hm hr hcp =>
    simp only [Nd.w] at hx hb
    have hge := ws_ge kids
    have hkids := eachNodes_spec A kids a c bk o us (by omega) ha hm hr (.func (.func 55) #[] #[]) (fun i x e1 => by
      have h1 := Nd.ws_mem (List.mem_of_getElem? e1)
      exact FunV.of_fun (first := #[]) (cap := #[]) (ih x (by omega) (by omega) _ (hr i x e1)))
    have hown := own_spec A _ lit (Nat.le_refl _) (by omega) lv hl
    have hca := cloneTexts_spec A av args hav
    have hct := cloneTexts_spec A tv temps htv
    have hl2 := hl
    cases hl2 with
    | @mk lk ln lbt lt items la lc lbk lo lus lwf lha lhm lhr =>
    obtain ⟨aa, ac, rfl, hal, har⟩ := hav
    obtain ⟨ta, tc, rfl, htl, htr⟩ := htv
    refine Fun.intro low55 (by simp [n55]) ?_
    simp only [CNx]
    refine GOH ?_
    refine st_box (by rfl) (fun q => ?_)
    refine st_alloc (fun q2 => ?_)
    simp only [Value.cells]
    refine GOH ?_
    refine VC.seq (VC.free 16 (fun i v B => match i with
      | 0 => v = .pointer (some ⟨q, 0, none⟩) ∧ B = []
      | 1 => v = cv k ∧ B = []
      | 2 => v = .pointer (some ⟨q, 1, none⟩) ∧ B = []
      | 3 => v = .string s ∧ B = []
      | 4 => v = .pointer (some ⟨q, 2, none⟩) ∧ B = []
      | 5 => v = .agg [cv lk, vi ln, uv lbt, .string lt, .slice la items.length lc].toArray ∧ B = []
      | 6 => ∃ ws, v = .agg ws.toArray ∧ LtRd B (.mk lk ln lbt lt items) ws
      | 7 => v = .pointer (some ⟨q, 7, none⟩) ∧ B = []
      | 8 => v = .slice aa args.length ac ∧ B = []
      | 9 => RdT B v args
      | 10 => v = .pointer (some ⟨q, 8, none⟩) ∧ B = []
      | 11 => v = .slice ta temps.length tc ∧ B = []
      | 12 => RdT B v temps
      | 13 => v = .pointer (some ⟨q, 9, none⟩) ∧ B = []
      | 14 => v = .slice a kids.length c ∧ B = []
      | 15 => ∃ (rows : List (List Value)) (sp : List Value) (B' : List Atom), IsSl 11 v kids.length rows.flatten sp ∧ rows.length = kids.length ∧ (∀ r ∈ rows, r.length = 11) ∧ (∀ (i : Nat) x r, kids[i]? = some x → rows[i]? = some r → NdRd B' x.bare r) ∧ B = slA v rows.flatten sp ++ B'
      | _ => True) (by decide) (by decide) (by decide) ?_ ?_)
    · intro i hi vv hg Γ' hh hkp
      match i, hi with
    | 0, _ =>
      show VO _ _ [⟨some 3, none, .fld 0 (.tmp 1)⟩] _ _ _ _
      exact st_fld (hkp 1 _ rfl (by decide)) rfl (VO.nil ⟨_, [], rfl, ⟨rfl, rfl⟩, Imp.perm (by simp)⟩)
    | 1, _ =>
      show VO _ _ [⟨some 4, none, .load1 (.tmp 3)⟩] _ _ _ _
      have e := hh 0 (by decide) 3 rfl
      rw [(hg 0 (by decide)).1] at e
      exact st_load1 e (by (focus ((repeat (first | (apply Has.cells; omega; rfl) | apply Has.there)); done))) (VO.nil ⟨_, [], rfl, ⟨rfl, rfl⟩, Imp.perm (by simp)⟩)
    | 2, _ =>
      show VO _ _ [⟨some 5, none, .fld 1 (.tmp 1)⟩] _ _ _ _
      exact st_fld (hkp 1 _ rfl (by decide)) rfl (VO.nil ⟨_, [], rfl, ⟨rfl, rfl⟩, Imp.perm (by simp)⟩)
    | 3, _ =>
      show VO _ _ [⟨some 6, none, .load1 (.tmp 5)⟩] _ _ _ _
      have e := hh 2 (by decide) 5 rfl
      rw [(hg 2 (by decide)).1] at e
      exact st_load1 e (by (focus ((repeat (first | (apply Has.cells; omega; rfl) | apply Has.there)); done))) (VO.nil ⟨_, [], rfl, ⟨rfl, rfl⟩, Imp.perm (by simp)⟩)
    | 4, _ =>
      show VO _ _ [⟨some 7, none, .fld 2 (.tmp 1)⟩] _ _ _ _
      exact st_fld (hkp 1 _ rfl (by decide)) rfl (VO.nil ⟨_, [], rfl, ⟨rfl, rfl⟩, Imp.perm (by simp)⟩)
    | 5, _ =>
      show VO _ _ [⟨some 8, none, .loadN 5 (.tmp 7)⟩] _ _ _ _
      have e := hh 4 (by decide) 7 rfl
      rw [(hg 4 (by decide)).1] at e
      exact st_loadM e (by (focus ((repeat (first | (apply HasM.cells; omega; (focus (simp only [List.length_cons, List.length_nil, Nat.reduceAdd, Nat.zero_add, Nat.reduceSub, Nat.sub_self, Nat.reduceLeDiff, Nat.le_refl]; done)); (focus (simp only [lnb, Value.cells, Nat.zero_add, Nat.reduceEqDiff, ↓reduceIte, eq_self, Nat.reduceAdd, Nat.reduceSub, Nat.sub_self, Nat.reduceLeDiff, Nat.le_refl, and_self, rep, zeroRow] <;> rfl)); rfl) | apply HasM.there)); done))) (VO.nil ⟨_, [], rfl, ⟨rfl, rfl⟩, Imp.perm (by simp)⟩)
    | 6, _ =>
      show VO _ _ [⟨some 9, none, .call 97 [.tmp 8]⟩] _ _ _ _
      have e := hh 5 (by decide) 8 rfl
      rw [(hg 5 (by decide)).1] at e
      refine st_call hown (by simp only [V.evs, V.ev, e]) (by exact SPx) (fun v Post hv => ?_)
      obtain ⟨ws, B, rfl, hw, rfl⟩ := hv
      exact VO.nil ⟨_, B, rfl, ⟨ws, rfl, hw⟩, by simp only [CNx]; exact IMx⟩
    | 7, _ =>
      show VO _ _ [⟨some 10, none, .fld 7 (.tmp 1)⟩] _ _ _ _
      exact st_fld (hkp 1 _ rfl (by decide)) rfl (VO.nil ⟨_, [], rfl, ⟨rfl, rfl⟩, Imp.perm (by simp)⟩)
    | 8, _ =>
      show VO _ _ [⟨some 11, none, .load1 (.tmp 10)⟩] _ _ _ _
      have e := hh 7 (by decide) 10 rfl
      rw [(hg 7 (by decide)).1] at e
      exact st_load1 e (by (focus ((repeat (first | (apply Has.cells; omega; rfl) | apply Has.there)); done))) (VO.nil ⟨_, [], rfl, ⟨rfl, rfl⟩, Imp.perm (by simp)⟩)
    | 9, _ =>
      show VO _ _ [⟨some 12, none, .call 53 [.tmp 11]⟩] _ _ _ _
      have e := hh 8 (by decide) 11 rfl
      rw [(hg 8 (by decide)).1] at e
      refine st_call hca (by simp only [V.evs, V.ev, e]) (by exact SPx) (fun v Post hv => ?_)
      obtain ⟨B, hw, rfl⟩ := hv
      exact VO.nil ⟨_, B, rfl, hw, by simp only [CNx]; exact IMx⟩
    | 10, _ =>
      show VO _ _ [⟨some 13, none, .fld 8 (.tmp 1)⟩] _ _ _ _
      exact st_fld (hkp 1 _ rfl (by decide)) rfl (VO.nil ⟨_, [], rfl, ⟨rfl, rfl⟩, Imp.perm (by simp)⟩)
    | 11, _ =>
      show VO _ _ [⟨some 14, none, .load1 (.tmp 13)⟩] _ _ _ _
      have e := hh 10 (by decide) 13 rfl
      rw [(hg 10 (by decide)).1] at e
      exact st_load1 e (by (focus ((repeat (first | (apply Has.cells; omega; rfl) | apply Has.there)); done))) (VO.nil ⟨_, [], rfl, ⟨rfl, rfl⟩, Imp.perm (by simp)⟩)
    | 12, _ =>
      show VO _ _ [⟨some 15, none, .call 53 [.tmp 14]⟩] _ _ _ _
      have e := hh 11 (by decide) 14 rfl
      rw [(hg 11 (by decide)).1] at e
      refine st_call hct (by simp only [V.evs, V.ev, e]) (by exact SPx) (fun v Post hv => ?_)
      obtain ⟨B, hw, rfl⟩ := hv
      exact VO.nil ⟨_, B, rfl, hw, by simp only [CNx]; exact IMx⟩
    | 13, _ =>
      show VO _ _ [⟨some 16, none, .fld 9 (.tmp 1)⟩] _ _ _ _
      exact st_fld (hkp 1 _ rfl (by decide)) rfl (VO.nil ⟨_, [], rfl, ⟨rfl, rfl⟩, Imp.perm (by simp)⟩)
    | 14, _ =>
      show VO _ _ [⟨some 17, none, .load1 (.tmp 16)⟩] _ _ _ _
      have e := hh 13 (by decide) 16 rfl
      rw [(hg 13 (by decide)).1] at e
      exact st_load1 e (by (focus ((repeat (first | (apply Has.cells; omega; rfl) | apply Has.there)); done))) (VO.nil ⟨_, [], rfl, ⟨rfl, rfl⟩, Imp.perm (by simp)⟩)
    | 15, _ =>
      show VO _ _ [⟨some 18, none, .call 54 [.tmp 17, .func 55]⟩] _ _ _ _
      have e := hh 14 (by decide) 17 rfl
      rw [(hg 14 (by decide)).1] at e
      refine st_call hkids (by simp only [V.evs, V.ev, e]) (by exact SPx) (fun v Post hv => ?_)
      obtain ⟨rows, sp, B, h1, h2, h3, h4, rfl⟩ := hv
      exact VO.nil ⟨_, slA v rows.flatten sp ++ B, rfl, ⟨rows, sp, B, h1, h2, h3, h4, rfl⟩, Imp.cut (M := [slA v rows.flatten sp, B, cellsAt q2 0 [.int .u8 0, .string ⟨#[]⟩, .int .u8 0, .int .i64 0, .int .u64 0, .string ⟨#[]⟩, .slice none 0 0, .slice none 0 0, .slice none 0 0, .slice none 0 0, .int .i64 0], cellsAt q 0 [cv k, .string s, cv lk, vi ln, uv lbt, .string lt, .slice la items.length lc, .slice aa args.length ac, .slice ta temps.length tc, .slice a kids.length c, vi p], A]) (by simp only [CNx]; exact IMx) (Imp.perm (by simp))⟩
    | n + 16, h => exact absurd h (by omega)
    · intro vv hg Γ' hh hkp
      show VO _ _ _ _ [(vv 0).2, (vv 1).2, (vv 2).2, (vv 3).2, (vv 4).2, (vv 5).2, (vv 6).2, (vv 7).2, (vv 8).2, (vv 9).2, (vv 10).2, (vv 11).2, (vv 12).2, (vv 13).2, (vv 14).2, (vv 15).2, cellsAt q2 0 [.int .u8 0, .string ⟨#[]⟩, .int .u8 0, .int .i64 0, .int .u64 0, .string ⟨#[]⟩, .slice none 0 0, .slice none 0 0, .slice none 0 0, .slice none 0 0, .int .i64 0], cellsAt q 0 [cv k, .string s, cv lk, vi ln, uv lbt, .string lt, .slice la items.length lc, .slice aa args.length ac, .slice ta temps.length tc, .slice a kids.length c, vi p], A] _ _
      refine VO.imp (H' := [cellsAt q2 0 [.int .u8 0, .string ⟨#[]⟩, .int .u8 0, .int .i64 0, .int .u64 0, .string ⟨#[]⟩, .slice none 0 0, .slice none 0 0, .slice none 0 0, .slice none 0 0, .int .i64 0], A, (vv 6).2, (vv 9).2, (vv 12).2, (vv 15).2]) (by exact IMx) ?_
      obtain ⟨ws, e6, h6⟩ := hg 6 (by omega)
      have h9 := hg 9 (by omega)
      have h12 := hg 12 (by omega)
      obtain ⟨rows, sp, B', h15, hrl, hr11, hrr, e15⟩ := hg 15 (by omega)
      have s4 := hh 1 (by decide) 4 rfl
      have s6 := hh 3 (by decide) 6 rfl
      have s9 := hh 6 (by decide) 9 rfl
      have s12 := hh 9 (by decide) 12 rfl
      have s15 := hh 12 (by decide) 15 rfl
      have s18 := hh 15 (by decide) 18 rfl
      rw [(hg 1 (by omega)).1] at s4
      rw [(hg 3 (by omega)).1] at s6
      rw [e6] at s9
      have s2 := hkp 2 _ rfl (by decide)
      clear hg hh hkp
      simp only at h9 h12
      generalize (vv 6).2 = B6 at *
      generalize vv 9 = p9 at *
      generalize vv 12 = p12 at *
      generalize vv 15 = p15 at *
      obtain ⟨v9, B9⟩ := p9
      obtain ⟨v12, B12⟩ := p12
      obtain ⟨v15, B15⟩ := p15
      simp only at *
      subst e15
      have hmade := nd_made (B := B' ++ (B6 ++ (B9 ++ B12))) (k := k) (s := s) (lit := .mk lk ln lbt lt items) (args := args) (temps := temps) (kids := kids.map Nd.bare) (p := 0) (lv := ws) (av := v9) (tv := v12) (sv := v15) (rows := rows) (sp := sp) (by rw [List.length_map]; exact h15) (by rw [List.length_map]; exact hrl) hr11
        (fun i x r hx hr => by
          rw [List.getElem?_map] at hx
          obtain ⟨y, hy, rfl⟩ := Option.map_eq_some_iff.1 hx
          exact (hrr i y r hy hr).more fun z hz => List.mem_append_left _ hz)
        (by rw [List.length_map]; exact ⟨wf.kind, wf.name, wf.many, by omega⟩) (h6.more fun z hz => by simp [hz]) (h9.more fun z hz => by simp [hz]) (h12.more fun z hz => by simp [hz])
      rw [← bares_map] at hmade
      obtain ⟨e1, c1, rfl⟩ := lt_open h6
      obtain ⟨a9, c9, rfl, _, _⟩ := h9
      obtain ⟨a12, c12, rfl, _, _⟩ := h12
      obtain ⟨a15, c15, rfl⟩ := h15.form
      simp only [Lt.kind, Lt.n, Lt.bits, Lt.text, Lt.items] at *
      refine VO.sub (Δ := [(2, ptr0 q2), (4, cv k), (6, .string s), (9, .agg #[cv lk, vi ln, uv lbt, .string lt, .slice e1 items.length c1]), (12, .slice a9 args.length c9), (15, .slice a12 temps.length c12), (18, .slice a15 kids.length c15)]) (Sub.cons s2 (Sub.cons s4 (Sub.cons s6 (Sub.cons s9 (Sub.cons s12 (Sub.cons s15 (Sub.cons s18 Sub.nil))))))) ?_
      refine GOH ?_
      exact ⟨.inr rfl, [.agg #[cv k, .string s, cv lk, vi ln, uv lbt, .string lt, .slice e1 items.length c1, .slice a9 args.length c9, .slice a12 temps.length c12, .slice a15 kids.length c15, .int .i64 0]], [A, slA (.slice a15 kids.length c15) rows.flatten sp ++ (B' ++ (B6 ++ (B9 ++ B12)))], .cellN (us := [cv k, .string s, cv lk, vi ln, uv lbt, .string lt, .slice e1 items.length c1, .slice a9 args.length c9, .slice a12 temps.length c12, .slice a15 kids.length c15, .int .i64 0]) (by rfl) (by rfl) (fun y hy => by simp only [List.flatten_cons, List.mem_append]; first | exact .inl hy | exact .inr (.inl hy) | exact .inr (.inr (.inl hy))) .nil,
        Imp.cut (M := [A, slA (.slice a15 kids.length c15) rows.flatten sp ++ B', B6, B9, B12]) (by exact IMx) (Imp.perm (by simp)), ⟨_, _, rfl, hmade, rfl⟩⟩
structure KidsRd (A : List Atom) (l : List Nd) (a : Option Addr) (bk o : Nat) (us : Nat → List Value) : Prop where
  at_ : 0 < l.length → a = some ⟨bk, o, none⟩
  many : l.length ≤ 140737488355328
  mem : ∀ i, i < l.length → ∀ y ∈ cellsAt bk (o + i * 11) (us i), y ∈ A
  rd : ∀ i x, l[i]? = some x → NdRd A x (us i)
theorem KidsRd.ok {A : List Atom} {l : List Nd} {a : Option Addr} {bk o : Nat} {us : Nat → List Value} (h : KidsRd A l a bk o us) (hE : ErA A) (hw : Nd.ws l ≤ 274877906944) : KidsOk A l a bk o us :=
  ⟨h.at_, h.many, h.mem, h.rd, fun i x e => node_spec A hE x (by have := Nd.ws_mem (List.mem_of_getElem? e); omega) _ (h.rd i x e)⟩
structure MdW (A : List Atom) (x : Md) (vs : List Value) : Prop where
  form : ∃ aa ac ta tc a c bk o us, vs = [.string x.sel, .slice aa x.args.length ac, .slice ta x.temps.length tc, vi x.prim, .slice a x.body.length c] ∧ RdT A (.slice aa x.args.length ac) x.args ∧ RdT A (.slice ta x.temps.length tc) x.temps ∧ KidsRd A x.body a bk o us
  sel : x.sel.size ≤ 140737488355328
  prim : -9223372036854775808 ≤ x.prim ∧ x.prim ≤ 9223372036854775807
theorem MdW.ok {A : List Atom} {x : Md} {vs : List Value} (h : MdW A x vs) (hE : ErA A) (hw : Nd.ws x.body ≤ 274877906944) : MdRd A x vs := by
  obtain ⟨⟨aa, ac, ta, tc, a, c, bk, o, us, h1, h2, h3, h4⟩, h5, h6⟩ := h
  exact ⟨⟨aa, ac, ta, tc, a, c, bk, o, us, h1, h2, h3, h4.ok hE hw⟩, h5, h6⟩
theorem MdW.more {A B : List Atom} {x : Md} {vs : List Value} (h : MdW A x vs) (hs : ∀ z ∈ A, z ∈ B) : MdW B x vs := by
  obtain ⟨⟨aa, ac, ta, tc, a, c, bk, o, us, h1, h2, h3, h4⟩, h5, h6⟩ := h
  exact ⟨⟨aa, ac, ta, tc, a, c, bk, o, us, h1, h2.more hs, h3.more hs, ⟨h4.at_, h4.many, fun i hi y hy => hs _ (h4.mem i hi y hy), fun i x e => (h4.rd i x e).more hs⟩⟩, h5, h6⟩
def Md.bare (x : Md) : Md := { x with body := x.body.map Nd.bare }
theorem md_made {x : Md} {v v2 sv : Value} {B B1 B2 : List Atom} {rows : List (List Value)} {sp : List Value} {a1 a2 a3 : Option Addr} {c1 c2 c3 : Nat} (hsel : x.sel.size ≤ 140737488355328) (hprim : -9223372036854775808 ≤ x.prim ∧ x.prim ≤ 9223372036854775807) (hml : x.body.length ≤ 140737488355328)
    (h1 : RdT B1 v x.args) (h2 : RdT B2 v2 x.temps) (g1 : IsSl 11 sv x.body.length rows.flatten sp) (g2 : rows.length = x.body.length) (g3 : ∀ r ∈ rows, r.length = 11) (g4 : ∀ (i : Nat) y r, x.body[i]? = some y → rows[i]? = some r → NdRd B y.bare r)
    (e1 : v = .slice a1 x.args.length c1) (e2 : v2 = .slice a2 x.temps.length c2) (e3 : sv = .slice a3 x.body.length c3) :
    MdW (slA sv rows.flatten sp ++ (B ++ (B1 ++ B2))) x.bare [.string x.sel, v, v2, vi x.prim, sv] := by
  have hget : ∀ i, i < x.body.length → rows[i]? = some (rows.getD i []) := fun i hi => by
    rw [List.getD_eq_getElem?_getD, List.getElem?_eq_getElem (by omega)]; rfl
  have hbl : x.bare.body.length = x.body.length := by simp [Md.bare]
  have key : ∃ bk o us, KidsRd (slA sv rows.flatten sp ++ (B ++ (B1 ++ B2))) x.bare.body a3 bk o us := by
    have hrd : ∀ i y, x.bare.body[i]? = some y → NdRd (slA sv rows.flatten sp ++ (B ++ (B1 ++ B2))) y (rows.getD i []) := fun i y hy => by
      have hy' : (x.body.map Nd.bare)[i]? = some y := hy
      rw [List.getElem?_map] at hy'
      obtain ⟨u, hu, rfl⟩ := Option.map_eq_some_iff.1 hy'
      have hi := (List.getElem?_eq_some_iff.1 hu).1
      exact (g4 i u _ hu (hget i hi)).more fun z hz => by simp [hz]
    generalize hxs : rows.flatten = xs at g1 ⊢ hrd
    generalize hm : x.body.length = m at g1
    cases g1 with
    | @mk bk o _ c _ _ h1 h2 h3 =>
      cases e3
      refine ⟨bk, o, fun i => rows.getD i [], fun _ => rfl, ?_, fun i hi y hy => ?_, hrd⟩
      · omega
      · refine List.mem_append_left _ ?_
        simp only [slA, cellsAt_append]
        rw [← hxs]
        exact List.mem_append_left _ (cells_row g3 (hget i (by omega)) y hy)
    | nil =>
      refine ⟨0, 0, fun i => rows.getD i [], fun h => by omega, by omega, fun i hi => by omega, hrd⟩
  obtain ⟨bk, o, us, hk⟩ := key
  refine ⟨⟨a1, c1, a2, c2, a3, c3, bk, o, us, ?_, ?_, ?_, hk⟩, hsel, hprim⟩
  · rw [e1, e2, hbl, ← e3]; rfl
  · rw [e1] at h1; exact h1.more fun z hz => by simp [hz]
  · rw [e2] at h2; exact h2.more fun z hz => by simp [hz]
theorem Bare_spec (A : List Atom) (x : Md) (vs : List Value) (h : MdW A x vs) (hw : Nd.ws x.body ≤ 274877906944) : Fun Tryz.prog 15 [.agg vs.toArray] [A] (fun v Post => ∃ ws B, v = .agg ws.toArray ∧ MdW B x.bare ws ∧ Post = [A, B]) := by
  obtain ⟨⟨aa, ac, ta, tc, a, c, bk, o, us, rfl, hav, htv, hk⟩, hsel, hprim⟩ := h
  have hge := ws_ge x.body
  have hkids := eachNodes_spec A x.body a c bk o us (by omega) hk.at_ hk.mem hk.rd (.func (.func 55) #[] #[]) (fun i y e1 => by
    have h1 := Nd.ws_mem (List.mem_of_getElem? e1)
    exact FunV.of_fun (first := #[]) (cap := #[]) (bare_spec A _ y (Nat.le_refl _) (by omega) _ (hk.rd i y e1)))
  have hca := cloneTexts_spec A _ x.args hav
  have hct := cloneTexts_spec A _ x.temps htv
  refine Fun.intro low15 (by simp [n15]) ?_
  refine GOHS ?_
  refine st_box (by rfl) (fun q => ?_)
  refine st_alloc (fun q2 => ?_)
  simp only [Value.cells]
  refine GOHS ?_
  refine VC.seq (VC.draws ⟨?_, ?_, trivial⟩)
  · skip
    refine GOH ?_
    refine st_call hca (by rfl) (by exact SPx) (fun v Post hv => ?_)
    obtain ⟨B1, h1, rfl⟩ := hv
    simp only [CNx]
    refine GOH ?_
    refine st_call hct (by rfl) (by exact SPx) (fun v2 Post hv => ?_)
    obtain ⟨B2, h2, rfl⟩ := hv
    simp only [CNx]
    have h1' := h1
    have h2' := h2
    obtain ⟨a1, c1, rfl, _, _⟩ := h1'
    obtain ⟨a2, c2, rfl, _, _⟩ := h2'
    refine GOH ?_
    refine st_call hkids (by rfl) (by exact SPx) (fun v Post hv => ?_)
    obtain ⟨rows, sp, B, g1, g2, g3, g4, rfl⟩ := hv
    simp only [CNx]
    have g1' := g1
    obtain ⟨a3, c3, rfl⟩ := g1'.form
    refine GOH ?_
    exact ⟨.inr rfl, [.agg #[.string x.sel, .slice a1 x.args.length c1, .slice a2 x.temps.length c2, vi x.prim, .slice a3 x.body.length c3]], [A, slA (.slice a3 x.body.length c3) rows.flatten sp ++ (B ++ (B1 ++ B2))], .cellN (us := [.string x.sel, .slice a1 x.args.length c1, .slice a2 x.temps.length c2, vi x.prim, .slice a3 x.body.length c3]) (by rfl) (by rfl) (fun y hy => by simp only [List.flatten_cons, List.mem_append]; first | exact .inl hy | exact .inr (.inl hy) | exact .inr (.inr (.inl hy)) | exact .inr (.inr (.inr (.inl hy))) | exact .inr (.inr (.inr (.inr (.inl hy)))) | exact .inr (.inr (.inr (.inr (.inr (.inl hy))))) | exact .inr (.inr (.inr (.inr (.inr (.inr (.inl hy))))))) .nil,
      Imp.cut (M := [A, slA (.slice a3 x.body.length c3) rows.flatten sp, B, B1, B2]) (by exact IMx) (Imp.perm (by simp)), ⟨_, _, rfl, md_made (sp := sp) (sv := .slice a3 x.body.length c3) hsel hprim hk.many h1 h2 g1 g2 g3 g4 rfl rfl rfl, rfl⟩⟩
  · skip
    refine GOH ?_
    refine st_call hca (by rfl) (by exact SPx) (fun v Post hv => ?_)
    obtain ⟨B1, h1, rfl⟩ := hv
    simp only [CNx]
    refine GOH ?_
    refine st_call hct (by rfl) (by exact SPx) (fun v2 Post hv => ?_)
    obtain ⟨B2, h2, rfl⟩ := hv
    simp only [CNx]
    have h1' := h1
    have h2' := h2
    obtain ⟨a1, c1, rfl, _, _⟩ := h1'
    obtain ⟨a2, c2, rfl, _, _⟩ := h2'
    refine GOH ?_
    refine st_call hkids (by rfl) (by exact SPx) (fun v Post hv => ?_)
    obtain ⟨rows, sp, B, g1, g2, g3, g4, rfl⟩ := hv
    simp only [CNx]
    have g1' := g1
    obtain ⟨a3, c3, rfl⟩ := g1'.form
    refine GOH ?_
    exact ⟨.inr rfl, [.agg #[.string x.sel, .slice a1 x.args.length c1, .slice a2 x.temps.length c2, vi x.prim, .slice a3 x.body.length c3]], [A, slA (.slice a3 x.body.length c3) rows.flatten sp ++ (B ++ (B1 ++ B2))], .cellN (us := [.string x.sel, .slice a1 x.args.length c1, .slice a2 x.temps.length c2, vi x.prim, .slice a3 x.body.length c3]) (by rfl) (by rfl) (fun y hy => by simp only [List.flatten_cons, List.mem_append]; first | exact .inl hy | exact .inr (.inl hy) | exact .inr (.inr (.inl hy)) | exact .inr (.inr (.inr (.inl hy))) | exact .inr (.inr (.inr (.inr (.inl hy)))) | exact .inr (.inr (.inr (.inr (.inr (.inl hy))))) | exact .inr (.inr (.inr (.inr (.inr (.inr (.inl hy))))))) .nil,
      Imp.cut (M := [A, slA (.slice a3 x.body.length c3) rows.flatten sp, B, B1, B2]) (by exact IMx) (Imp.perm (by simp)), ⟨_, _, rfl, md_made (sp := sp) (sv := .slice a3 x.body.length c3) hsel hprim hk.many h1 h2 g1 g2 g3 g4 rfl rfl rfl, rfl⟩⟩
theorem alikeN_len {x y : Nd} (h : alikeN x y = true) : x.kids.length = y.kids.length := by
  simp only [alikeN, Bool.and_eq_true, decide_eq_true_eq] at h
  exact h.2
theorem likeNode_spec (A : List Atom) : ∀ (N : Nat) (x y : Nd), x.w ≤ N → ∀ vs ws, NdRd A x vs → NdRd A y ws → Fun Tryz.prog 30 [.agg vs.toArray, .agg ws.toArray] [A] (fun v Post => v = .bool (ndEq x y) ∧ Post = [A]) := by
  intro N
  induction N with
  | zero => intro x y hx; have := x.w_pos; omega
  | succ N ih =>
    intro x y hx vs ws h h2
    have hal := alike_spec A x y vs ws h h2
    have hxk : ∀ u ∈ x.kids, u.w ≤ N := fun u hu => by
      cases x
      have := Nd.ws_mem hu
      simp only [Nd.kids] at this
      simp only [Nd.w] at hx; omega
    obtain ⟨e1, e2, e3, e4, e5, e6, e7, e8, e9, e10, e11, e12, e13, a, c, bk, o, us, rfl, hmany, ha, hm, hr⟩ := nd_at h
    obtain ⟨f1, f2, f3, f4, f5, f6, f7, f8, f9, f10, f11, f12, f13, a', c', bk', o', us', rfl, hmany', ha', hm', hr'⟩ := nd_at h2
    refine Fun.intro low30 (by simp [n30]) ?_
    have hE := ndEq_alike x y
    refine GOH ?_
    refine st_box (by rfl) (fun q => ?_)
    refine st_box (by rfl) (fun q2 => ?_)
    simp only [Value.cells]
    refine GOH ?_
    refine st_call hal (by rfl) (by exact SPx) (fun v Post hv => ?_)
    obtain ⟨rfl, rfl⟩ := hv
    simp only [CNx]
    refine GOH ?_
    refine VC.loop (α := Nat × Bool) (Γf := fun s => [(2, ptr0 q), (3, ptr0 q2), (5, .bool s.2), (6, vi s.1)]) (Hf := fun _ => [A, cellsAt q 0 [cv x.kind, .string x.name, cv e1, vi e2, uv e3, .string e4, .slice e5 e6 e7, .slice e8 e9 e10, .slice e11 e12 e13, .slice a x.kids.length c, vi x.at_], cellsAt q2 0 [cv y.kind, .string y.name, cv f1, vi f2, uv f3, .string f4, .slice f5 f6 f7, .slice f8 f9 f10, .slice f11 f12 f13, .slice a' y.kids.length c', vi y.at_]])
      (I := fun s => s.1 ≤ x.kids.length ∧ (s.2 = true → alikeN x y = true ∧ ∀ i u v, i < s.1 → x.kids[i]? = some u → y.kids[i]? = some v → ndEq u v = true) ∧ (s.2 = false → ndEq x y = false)) (μ := fun s => (x.kids.length - s.1) * 2 + (if s.2 then 1 else 0)) (0, alikeN x y) ⟨Nat.zero_le _, fun h => ⟨h, fun i u v h => absurd h (by omega)⟩, fun h => by simp only at h; rw [hE, h]; rfl⟩ (by exact SUx) (by exact IMx) ?_
    rintro ⟨j, b⟩ ⟨i1, i2, i3⟩
    simp only at i1 i2 i3
    dsimp only
    refine GOH ?_
    by_cases hj : j < x.kids.length
    rotate_left
    · rw [show decide ((j : Int) < (x.kids.length : Int)) = false from decide_eq_false (by omega)]
      have hb : b = ndEq x y := by
        cases b with
        | false => exact (i3 rfl).symm
        | true =>
          obtain ⟨g1, g2⟩ := i2 rfl
          rw [hE, g1, (ndsEq_iff _ _).2 ⟨alikeN_len g1, fun i u v e1 e2 => g2 i u v (by have := (List.getElem?_eq_some_iff.1 e1).1; omega) e1 e2⟩]
          rfl
      refine GOH ?_
      exact endQ_mk (Post := [A]) (.inr rfl) (.tmp (by rfl) .nil) ⟨by rw [hb]; rfl, rfl⟩ (by exact IMx)
    rw [show decide ((j : Int) < (x.kids.length : Int)) = true from decide_eq_true (by omega)]
    cases b with
    | false =>
      have hno := i3 rfl
      refine GOH ?_
      exact endQ_mk (Post := [A]) (.inr rfl) (.tmp (by rfl) .nil) ⟨by rw [hno]; rfl, rfl⟩ (by exact IMx)
    | true =>
      obtain ⟨g1, g2⟩ := i2 rfl
      have hlen := alikeN_len g1
      obtain rfl := ha (by omega)
      obtain rfl := ha' (by omega)
      obtain ⟨u, hu⟩ : ∃ u, x.kids[j]? = some u := ⟨_, List.getElem?_eq_getElem hj⟩
      obtain ⟨z, hz⟩ : ∃ z, y.kids[j]? = some z := ⟨_, List.getElem?_eq_getElem (hlen ▸ hj)⟩
      have hum := hm j hj
      have hzm := hm' j (by omega)
      have hul := (hr j u hu).len
      have hzl := (hr' j z hz).len
      have hcall := ih u z (hxk u (List.mem_of_getElem? hu)) _ _ (hr j u hu) (hr' j z hz)
      refine GOH ?_
      refine st_loadA (by rfl) (fun z hz => List.mem_append_left _ (hum z hz)) hul ?_
      refine GOH ?_
      refine st_loadA (by rfl) (fun z hz => List.mem_append_left _ (hzm z hz)) hzl ?_
      refine GOH ?_
      refine st_call hcall (by rfl) (by exact SPx) (fun v Post hv => ?_)
      obtain ⟨rfl, rfl⟩ := hv
      simp only [CNx]
      refine GOH ?_
      refine ⟨(j + 1, ndEq u z), ⟨by simp only; omega, fun hb => ⟨g1, fun i p r hi e1 e2 => ?_⟩, fun hb => ?_⟩, by simp only; split <;> simp <;> omega, by exact SUx, by exact IMx⟩
      · by_cases hij : i = j
        · subst hij
          rw [hu] at e1; rw [hz] at e2
          cases e1; cases e2; exact hb
        · exact g2 i p r (by simp only at hi; omega) e1 e2
      · simp only at hb
        rw [hE, ndsEq_false hu hz hb, Bool.and_false]
theorem sameNodeP_spec (A : List Atom) : ∀ (N : Nat) (x y : Nd), x.w ≤ N → ∀ vs ws, NdRd A x vs → NdRd A y ws → Fun Tryz.prog 40 [.agg vs.toArray, .agg ws.toArray] [A] (fun v Post => v = .bool (ndSm x y) ∧ Post = [A]) := by
  intro N
  induction N with
  | zero => intro x y hx; have := x.w_pos; omega
  | succ N ih =>
    intro x y hx vs ws h h2
    have hal := alike_spec A x y vs ws h h2
    have hxk : ∀ u ∈ x.kids, u.w ≤ N := fun u hu => by
      cases x
      have := Nd.ws_mem hu
      simp only [Nd.kids] at this
      simp only [Nd.w] at hx; omega
    obtain ⟨e1, e2, e3, e4, e5, e6, e7, e8, e9, e10, e11, e12, e13, a, c, bk, o, us, rfl, hmany, ha, hm, hr⟩ := nd_at h
    obtain ⟨f1, f2, f3, f4, f5, f6, f7, f8, f9, f10, f11, f12, f13, a', c', bk', o', us', rfl, hmany', ha', hm', hr'⟩ := nd_at h2
    refine Fun.intro low40 (by simp [n40]) ?_
    obtain ⟨E, hE⟩ : ∃ E, E = ndSm x y := ⟨_, rfl⟩
    rw [← hE]
    rw [ndSm_alike] at hE
    refine GOH ?_
    refine st_box (by rfl) (fun q => ?_)
    refine st_box (by rfl) (fun q2 => ?_)
    simp only [Value.cells]
    refine GOH ?_
    refine st_call hal (by rfl) (by exact SPx) (fun v Post hv => ?_)
    obtain ⟨rfl, rfl⟩ := hv
    simp only [CNx]
    cases g1 : alikeN x y with
    | false =>
      have hno : E = false := by rw [hE, g1]; rfl
      refine GOH ?_
      exact endQ_mk (Post := [A]) (.inr rfl) (.tmp (by rfl) .nil) ⟨by rw [hno]; rfl, rfl⟩ (by exact IMx)
    | true =>
      have hlen := alikeN_len g1
      refine GOH ?_
      by_cases hat : x.at_ = y.at_
      rotate_left
      · have hno : E = false := by rw [hE, decide_eq_false hat, Bool.and_false, Bool.false_and]
        rw [decide_eq_false hat]
        refine GOH ?_
        exact endQ_mk (Post := [A]) (.inr rfl) (.tmp (by rfl) .nil) ⟨by rw [hno]; rfl, rfl⟩ (by exact IMx)
      rw [decide_eq_true hat]
      have hyes : E = ndsSm x.kids y.kids := by rw [hE, g1, decide_eq_true hat]; rfl
      clear hE
      refine GOH ?_
      refine VC.loop (α := Nat) (Γf := fun j => [(2, ptr0 q), (3, ptr0 q2), (6, vi j)]) (Hf := fun _ => [A, cellsAt q 0 [cv x.kind, .string x.name, cv e1, vi e2, uv e3, .string e4, .slice e5 e6 e7, .slice e8 e9 e10, .slice e11 e12 e13, .slice a x.kids.length c, vi x.at_], cellsAt q2 0 [cv y.kind, .string y.name, cv f1, vi f2, uv f3, .string f4, .slice f5 f6 f7, .slice f8 f9 f10, .slice f11 f12 f13, .slice a' y.kids.length c', vi y.at_]])
        (I := fun j => j ≤ x.kids.length ∧ ∀ i u v, i < j → x.kids[i]? = some u → y.kids[i]? = some v → ndSm u v = true) (μ := fun j => x.kids.length - j) 0 ⟨Nat.zero_le _, fun i u v h => absurd h (by omega)⟩ (by exact SUx) (by exact IMx) ?_
      rintro j ⟨i1, i2⟩
      refine GOH ?_
      by_cases hj : j < x.kids.length
      rotate_left
      · rw [show decide ((j : Int) < (x.kids.length : Int)) = false from decide_eq_false (by omega)]
        have htt : E = true := by
          rw [hyes]
          exact (ndsSm_iff _ _).2 ⟨hlen, fun i u v e1 e2 => i2 i u v (by have := (List.getElem?_eq_some_iff.1 e1).1; omega) e1 e2⟩
        refine GOH ?_
        exact endQ_mk (Post := [A]) (.inr rfl) (.tmp (by rfl) .nil) ⟨by rw [htt]; rfl, rfl⟩ (by exact IMx)
      rw [show decide ((j : Int) < (x.kids.length : Int)) = true from decide_eq_true (by omega)]
      obtain rfl := ha (by omega)
      obtain rfl := ha' (by omega)
      obtain ⟨u, hu⟩ : ∃ u, x.kids[j]? = some u := ⟨_, List.getElem?_eq_getElem hj⟩
      obtain ⟨z, hz⟩ : ∃ z, y.kids[j]? = some z := ⟨_, List.getElem?_eq_getElem (hlen ▸ hj)⟩
      have hum := hm j hj
      have hzm := hm' j (by omega)
      have hul := (hr j u hu).len
      have hzl := (hr' j z hz).len
      have hcall := ih u z (hxk u (List.mem_of_getElem? hu)) _ _ (hr j u hu) (hr' j z hz)
      refine GOH ?_
      refine st_loadA (by rfl) (fun z hz => List.mem_append_left _ (hum z hz)) hul ?_
      refine GOH ?_
      refine st_loadA (by rfl) (fun z hz => List.mem_append_left _ (hzm z hz)) hzl ?_
      refine GOH ?_
      refine st_call hcall (by rfl) (by exact SPx) (fun v Post hv => ?_)
      obtain ⟨rfl, rfl⟩ := hv
      simp only [CNx]
      cases hxy : ndSm u z with
      | true =>
        refine GOH ?_
        refine ⟨j + 1, ⟨by omega, fun i p r hi e1 e2 => ?_⟩, by omega, by exact SUx, by exact IMx⟩
        by_cases hij : i = j
        · subst hij
          rw [hu] at e1; rw [hz] at e2
          cases e1; cases e2; exact hxy
        · exact i2 i p r (by omega) e1 e2
      | false =>
        have hno : E = false := by rw [hyes]; exact ndsSm_false hu hz hxy
        refine GOH ?_
        exact endQ_mk (Post := [A]) (.inr rfl) (.tmp (by rfl) .nil) ⟨by rw [hno]; rfl, rfl⟩ (by exact IMx)
def bodyLike (pl : Bool) (l m : List Nd) : Bool := if pl then ndsSm l m else ndsEq l m
def mdLike (pl : Bool) (x y : Md) : Bool := decide (x.args = y.args) && decide (x.temps = y.temps) && decide (x.sel = y.sel) && decide (x.prim = y.prim) && bodyLike pl x.body y.body
theorem bodyLike_len {pl : Bool} {l m : List Nd} (h : l.length ≠ m.length) : bodyLike pl l m = false := by
  unfold bodyLike; split
  · exact ndsSm_len h
  · exact ndsEq_len h
theorem bodyLike_false {pl : Bool} {l m : List Nd} {j : Nat} {u v : Nd} (h1 : l[j]? = some u) (h2 : m[j]? = some v) (h : (if pl then ndSm u v else ndEq u v) = false) : bodyLike pl l m = false := by
  unfold bodyLike
  cases pl with
  | true => exact ndsSm_false h1 h2 h
  | false => exact ndsEq_false h1 h2 h
theorem bodyLike_true {pl : Bool} {l m : List Nd} (h1 : l.length = m.length) (h2 : ∀ (i : Nat) u v, l[i]? = some u → m[i]? = some v → (if pl then ndSm u v else ndEq u v) = true) : bodyLike pl l m = true := by
  unfold bodyLike
  cases pl with
  | true => exact (ndsSm_iff _ _).2 ⟨h1, h2⟩
  | false => exact (ndsEq_iff _ _).2 ⟨h1, h2⟩
theorem sameMethod_spec (A : List Atom) (x y : Md) (vs ws : List Value) (h : MdW A x vs) (h2 : MdW A y ws) (pl : Bool) : Fun Tryz.prog 18 [.agg vs.toArray, .agg ws.toArray, .bool pl] [A] (fun v Post => v = .bool (mdLike pl x y) ∧ Post = [A]) := by
  obtain ⟨⟨aa, ac, ta, tc, a, c, bk, o, us, rfl, hav, htv, hk⟩, hsel, hprim⟩ := h
  obtain ⟨⟨aa', ac', ta', tc', a', c', bk', o', us', rfl, hav', htv', hk'⟩, hsel', hprim'⟩ := h2
  have hargs := sameNames_spec A _ _ x.args y.args hav hav'
  have htemps := sameNames_spec A _ _ x.temps y.temps htv htv'
  obtain ⟨s, args, temps, p, body⟩ := x
  obtain ⟨s', args', temps', p', body'⟩ := y
  simp only at *
  have hmany := hk.many
  refine Fun.intro low18 (by simp [n18]) ?_
  obtain ⟨E, hE⟩ : ∃ E, E = mdLike pl ⟨s, args, temps, p, body⟩ ⟨s', args', temps', p', body'⟩ := ⟨_, rfl⟩
  rw [← hE]
  simp only [mdLike] at hE
  refine GOH ?_
  refine st_box (by rfl) (fun q => ?_)
  refine st_box (by rfl) (fun q2 => ?_)
  simp only [Value.cells]
  refine GOH ?_
  refine st_call hargs (by rfl) (by exact SPx) (fun v Post hv => ?_)
  obtain ⟨rfl, rfl⟩ := hv
  simp only [CNx]
  refine GOH ?_
  refine st_call htemps (by rfl) (by exact SPx) (fun v Post hv => ?_)
  obtain ⟨rfl, rfl⟩ := hv
  simp only [CNx]
  by_cases h1 : args = args'
  rotate_left
  · have hno : E = false := by simp [hE, h1]
    rw [decide_eq_false h1]
    refine GOH ?_
    exact endQ_mk (Post := [A]) (.inr rfl) (.tmp (by rfl) .nil) ⟨by rw [hno]; rfl, rfl⟩ (by exact IMx)
  rw [decide_eq_true h1]
  refine GOH ?_
  by_cases h2 : temps = temps'
  rotate_left
  · have hno : E = false := by simp [hE, h2]
    rw [decide_eq_false h2]
    refine GOH ?_
    exact endQ_mk (Post := [A]) (.inr rfl) (.tmp (by rfl) .nil) ⟨by rw [hno]; rfl, rfl⟩ (by exact IMx)
  rw [decide_eq_true h2]
  refine GOH ?_
  by_cases h3 : s = s'
  rotate_left
  · have hno : E = false := by simp [hE, h3]
    rw [decide_eq_false h3]
    refine GOH ?_
    exact endQ_mk (Post := [A]) (.inr rfl) (.tmp (by rfl) .nil) ⟨by rw [hno]; rfl, rfl⟩ (by exact IMx)
  rw [decide_eq_true h3]
  refine GOH ?_
  by_cases h4 : p = p'
  rotate_left
  · have hno : E = false := by simp [hE, h4]
    rw [decide_eq_false h4]
    refine GOH ?_
    exact endQ_mk (Post := [A]) (.inr rfl) (.tmp (by rfl) .nil) ⟨by rw [hno]; rfl, rfl⟩ (by exact IMx)
  rw [decide_eq_true h4]
  refine GOH ?_
  by_cases h5 : body.length = body'.length
  rotate_left
  · have hno : E = false := by simp [hE, bodyLike_len h5]
    rw [show decide ((body.length : Int) = (body'.length : Int)) = false from decide_eq_false (by omega)]
    refine GOH ?_
    exact endQ_mk (Post := [A]) (.inr rfl) (.tmp (by rfl) .nil) ⟨by rw [hno]; rfl, rfl⟩ (by exact IMx)
  rw [show decide ((body.length : Int) = (body'.length : Int)) = true from decide_eq_true (by omega)]
  have hyes : E = bodyLike pl body body' := by simp [hE, h1, h2, h3, h4]
  clear hE
  refine GOH ?_
  refine VC.loop (α := Nat) (Γf := fun j => [(2, .bool pl), (3, ptr0 q), (4, ptr0 q2), (9, vi j)]) (Hf := fun _ => [A, cellsAt q 0 [.string s, .slice aa args.length ac, .slice ta temps.length tc, vi p, .slice a body.length c], cellsAt q2 0 [.string s', .slice aa' args'.length ac', .slice ta' temps'.length tc', vi p', .slice a' body'.length c']])
    (I := fun j => j ≤ body.length ∧ ∀ i u v, i < j → body[i]? = some u → body'[i]? = some v → (if pl then ndSm u v else ndEq u v) = true) (μ := fun j => body.length - j) 0 ⟨Nat.zero_le _, fun i u v h => absurd h (by omega)⟩ (by exact SUx) (by exact IMx) ?_
  rintro j ⟨i1, i2⟩
  refine GOH ?_
  by_cases hj : j < body.length
  rotate_left
  · rw [show decide ((j : Int) < (body.length : Int)) = false from decide_eq_false (by omega)]
    have htt : E = true := by
      rw [hyes]
      exact bodyLike_true h5 fun i u v e1 e2 => i2 i u v (by have := (List.getElem?_eq_some_iff.1 e1).1; omega) e1 e2
    refine GOH ?_
    exact endQ_mk (Post := [A]) (.inr rfl) (.tmp (by rfl) .nil) ⟨by rw [htt]; rfl, rfl⟩ (by exact IMx)
  rw [show decide ((j : Int) < (body.length : Int)) = true from decide_eq_true (by omega)]
  obtain rfl := hk.at_ (by omega)
  obtain rfl := hk'.at_ (by omega)
  obtain ⟨u, hu⟩ : ∃ u, body[j]? = some u := ⟨_, List.getElem?_eq_getElem hj⟩
  obtain ⟨z, hz⟩ : ∃ z, body'[j]? = some z := ⟨_, List.getElem?_eq_getElem (h5 ▸ hj)⟩
  have hum := hk.mem j hj
  have hzm := hk'.mem j (by omega)
  have hul := (hk.rd j u hu).len
  have hzl := (hk'.rd j z hz).len
  have hcall := likeNode_spec A _ u z (Nat.le_refl _) _ _ (hk.rd j u hu) (hk'.rd j z hz)
  have hcall2 := sameNodeP_spec A _ u z (Nat.le_refl _) _ _ (hk.rd j u hu) (hk'.rd j z hz)
  refine GOH ?_
  refine st_loadA (by rfl) (fun z hz => List.mem_append_left _ (hum z hz)) hul ?_
  refine GOH ?_
  refine st_loadA (by rfl) (fun z hz => List.mem_append_left _ (hzm z hz)) hzl ?_
  refine GOH ?_
  refine st_call hcall (by rfl) (by exact SPx) (fun v Post hv => ?_)
  obtain ⟨rfl, rfl⟩ := hv
  simp only [CNx]
  cases pl with
  | true =>
    simp only [if_true] at i2
    refine GOH ?_
    refine st_loadA (by rfl) (fun z hz => List.mem_append_left _ (hum z hz)) hul ?_
    refine GOH ?_
    refine st_loadA (by rfl) (fun z hz => List.mem_append_left _ (hzm z hz)) hzl ?_
    refine GOH ?_
    refine st_call hcall2 (by rfl) (by exact SPx) (fun v Post hv => ?_)
    obtain ⟨rfl, rfl⟩ := hv
    simp only [CNx]
    cases hxy : ndSm u z with
    | true =>
      refine GOH ?_
      refine ⟨j + 1, ⟨by omega, fun i p r hi e1 e2 => ?_⟩, by omega, by exact SUx, by exact IMx⟩
      show (if true then ndSm p r else ndEq p r) = true
      simp only [if_true]
      by_cases hij : i = j
      · subst hij
        rw [hu] at e1; rw [hz] at e2
        cases e1; cases e2; exact hxy
      · exact i2 i p r (by omega) e1 e2
    | false =>
      have hno : E = false := by rw [hyes]; exact bodyLike_false hu hz hxy
      refine GOH ?_
      exact endQ_mk (Post := [A]) (.inr rfl) (.tmp (by rfl) .nil) ⟨by rw [hno]; rfl, rfl⟩ (by exact IMx)
  | false =>
    simp only [Bool.false_eq_true, if_false] at i2
    refine GOH ?_
    cases hxy : ndEq u z with
    | true =>
      refine GOH ?_
      refine ⟨j + 1, ⟨by omega, fun i p r hi e1 e2 => ?_⟩, by omega, by exact SUx, by exact IMx⟩
      simp only [Bool.false_eq_true, if_false]
      by_cases hij : i = j
      · subst hij
        rw [hu] at e1; rw [hz] at e2
        cases e1; cases e2; exact hxy
      · exact i2 i p r (by omega) e1 e2
    | false =>
      have hno : E = false := by rw [hyes]; exact bodyLike_false hu hz hxy
      refine GOH ?_
      exact endQ_mk (Post := [A]) (.inr rfl) (.tmp (by rfl) .nil) ⟨by rw [hno]; rfl, rfl⟩ (by exact IMx)
theorem weighMethod_spec (A : List Atom) (x : Md) (vs : List Value) (h : MdW A x vs) : Fun Tryz.prog 43 [.agg vs.toArray] [A] (fun v Post => ∃ r, v = vi r ∧ Post = [A]) := by
  obtain ⟨⟨aa, ac, ta, tc, a, c, bk, o, us, rfl, hav, htv, hk⟩, hsel, hprim⟩ := h
  have hat := fun s hs => weighTexts_spec A _ x.args hav s hs
  have htt := fun s hs => weighTexts_spec A _ x.temps htv s hs
  obtain ⟨s, args, temps, p, body⟩ := x
  simp only at *
  have hmany := hk.many
  refine Fun.intro low43 (by simp [n43]) ?_
  refine GOH ?_
  refine st_box (by rfl) (fun q => ?_)
  simp only [Value.cells]
  refine GOH ?_
  refine st_call (hat s.size (by omega)) (by rfl) (by exact SPx) (fun v Post hv => ?_)
  obtain ⟨r1, rfl, h1, h2, rfl⟩ := hv
  unfold wB at h2
  simp only [CNx]
  refine GOH ?_
  refine st_call (htt r1 (by omega)) (by rfl) (by exact SPx) (fun v Post hv => ?_)
  obtain ⟨r2, rfl, h3, h4, rfl⟩ := hv
  unfold wB at h4
  simp only [CNx]
  have h5 : r2 ≤ wN 0 + 1000000000000000 := by unfold wN; omega
  clear h2 h4
  refine GOH ?_
  refine VC.loop (α := Nat × Int) (Γf := fun z => [(1, ptr0 q), (3, vi z.2), (4, vi z.1)]) (Hf := fun _ => [A, cellsAt q 0 [.string s, .slice aa args.length ac, .slice ta temps.length tc, vi p, .slice a body.length c]])
    (I := fun z => z.1 ≤ body.length ∧ 0 ≤ z.2 ∧ z.2 ≤ wN 0 + 1000000000000000) (μ := fun z => body.length - z.1) (0, r2) ⟨Nat.zero_le _, h3, h5⟩ (by exact SUx) (by exact IMx) ?_
  rintro ⟨j, r⟩ ⟨i1, i2, i3⟩
  simp only at i1 i2 i3
  dsimp only
  unfold wN at i3
  refine GOH ?_
  by_cases hj : j < body.length
  rotate_left
  · rw [show decide ((j : Int) < (body.length : Int)) = false from decide_eq_false (by omega)]
    refine GOH ?_
    exact endQ_mk (Post := [A]) (.inr rfl) (.tmp (by rfl) .nil) ⟨r, rfl, rfl⟩ (by exact IMx)
  rw [show decide ((j : Int) < (body.length : Int)) = true from decide_eq_true (by omega)]
  refine GOH ?_
  by_cases hr2 : r ≤ 262144
  rotate_left
  · rw [decide_eq_false hr2]
    refine GOH ?_
    exact endQ_mk (Post := [A]) (.inr rfl) (.tmp (by rfl) .nil) ⟨r, rfl, rfl⟩ (by exact IMx)
  rw [decide_eq_true hr2]
  obtain rfl := hk.at_ (by omega)
  obtain ⟨y, hy⟩ : ∃ y, body[j]? = some y := ⟨_, List.getElem?_eq_getElem hj⟩
  have hym := hk.mem j hj
  have hyl := (hk.rd j y hy).len
  have hcall := weighNode_spec A _ y (Nat.le_refl _) _ (hk.rd j y hy) r 0 i2 (by omega) (by omega) (by omega)
  refine GOH ?_
  refine st_loadA (by rfl) (fun z hz => List.mem_append_left _ (hym z hz)) hyl ?_
  refine GOH ?_
  refine st_call hcall (by rfl) (by exact SPx) (fun v Post hv => ?_)
  obtain ⟨r', rfl, h2, h4, rfl⟩ := hv
  unfold wN at h4
  simp only [CNx]
  refine GOH ?_
  refine ⟨(j + 1, r'), ⟨by simp only; omega, by simp only; omega, by simp only; unfold wN; omega⟩, by simp only; omega, by exact SUx, by exact IMx⟩
theorem far_spec (A : List Atom) (x : Md) (vs : List Value) (h : MdW A x vs) : Fun Tryz.prog 11 [.agg vs.toArray] [A] (fun v Post => ∃ b, v = .bool b ∧ Post = [A]) := by
  have hw := weighMethod_spec A x vs h
  obtain ⟨⟨aa, ac, ta, tc, a, c, bk, o, us, rfl, hav, htv, hk⟩, hsel, hprim⟩ := h
  refine Fun.intro low11 (by simp [n11]) ?_
  refine GOH ?_
  refine st_box (by rfl) (fun q => ?_)
  simp only [Value.cells]
  refine GOH ?_
  refine st_call hw (by rfl) (by exact SPx) (fun v Post hv => ?_)
  obtain ⟨r, rfl, rfl⟩ := hv
  simp only [CNx]
  refine GOH ?_
  exact endQ_mk (Post := [A]) (.inr rfl) (.tmp (by rfl) .nil) ⟨_, rfl, rfl⟩ (by exact IMx)
def zeroL : Lt := .mk 0 0 0 ⟨#[]⟩ []
def leafN (s : ByteArray) : Nd := .mk 2 s zeroL [] [] [] 0
def mulN : Nd := .mk 4 ⟨#[42]⟩ zeroL [] [] [leafN ⟨#[98]⟩, leafN ⟨#[99]⟩] 5
def sumN : Nd := .mk 4 ⟨#[43]⟩ zeroL [] [] [leafN ⟨#[97]⟩, mulN] 0
abbrev leafC (s : ByteArray) : List Value := [.int .u8 2, .string s, .int .u8 0, .int .i64 0, .int .u64 0, .string ⟨#[]⟩, .slice none 0 0, .slice none 0 0, .slice none 0 0, .slice none 0 0, .int .i64 0]
abbrev sendC (s : ByteArray) (q : Nat) (p : Int) : List Value := [.int .u8 4, .string s, .int .u8 0, .int .i64 0, .int .u64 0, .string ⟨#[]⟩, .slice none 0 0, .slice none 0 0, .slice none 0 0, .slice (some ⟨q, 0, none⟩) 2 2, .int .i64 p]
theorem zeroL_rd : LtRd [] zeroL [.int .u8 0, .int .i64 0, .int .u64 0, .string ⟨#[]⟩, .slice none 0 0] :=
  lt_made (B := []) (k := 0) (n := 0) (b := 0) (t := ⟨#[]⟩) (items := []) (rows := []) (sp := []) .nil rfl (fun r h => by cases h) (fun i x r h => by simp at h) ⟨by omega, by omega, by omega, by decide, by simp⟩
theorem none_rd : RdT [] (.slice none 0 0) [] := ⟨none, 0, rfl, by simp, fun i t e => by simp at e⟩
theorem leaf_rd (s : ByteArray) (hs : s.size ≤ 140737488355328) : NdRd [] (leafN s) (leafC s) :=
  nd_made (B := []) (k := 2) (s := s) (lit := zeroL) (kids := []) (p := 0) (rows := []) (sp := []) .nil rfl (fun r h => by cases h) (fun i x r h => by simp at h) ⟨by omega, hs, by simp, by omega⟩ zeroL_rd none_rd none_rd
theorem mul_rd (q : Nat) : NdRd (cellsAt q 0 (leafC ⟨#[98]⟩ ++ leafC ⟨#[99]⟩)) mulN (sendC ⟨#[42]⟩ q 5) := by
  have := nd_made (B := []) (k := 4) (s := ⟨#[42]⟩) (lit := zeroL) (kids := [leafN ⟨#[98]⟩, leafN ⟨#[99]⟩]) (p := 5) (sv := .slice (some ⟨q, 0, none⟩) 2 2) (rows := [leafC ⟨#[98]⟩, leafC ⟨#[99]⟩]) (sp := []) (.mk rfl rfl (Nat.le_refl _)) rfl (fun r h => by
    rcases List.mem_cons.1 h with rfl | h
    · rfl
    · rw [List.mem_singleton.1 h]; rfl) (fun i x r h1 h2 => by
    match i, h1, h2 with
    | 0, h1, h2 => cases h1; cases h2; exact leaf_rd _ (by decide)
    | 1, h1, h2 => cases h1; cases h2; exact leaf_rd _ (by decide)
    | i + 2, h1, h2 => simp at h1) ⟨by omega, by decide, by simp, by omega⟩ zeroL_rd none_rd none_rd
  exact this.more fun z hz => by simpa [slA] using hz
theorem sum_rd (q q2 : Nat) : NdRd (cellsAt q2 0 (leafC ⟨#[97]⟩ ++ sendC ⟨#[42]⟩ q 5) ++ cellsAt q 0 (leafC ⟨#[98]⟩ ++ leafC ⟨#[99]⟩)) sumN (sendC ⟨#[43]⟩ q2 0) := by
  have hsub : ∀ z ∈ ([] : List Atom), z ∈ cellsAt q 0 (leafC ⟨#[98]⟩ ++ leafC ⟨#[99]⟩) := fun z h => by cases h
  have := nd_made (B := cellsAt q 0 (leafC ⟨#[98]⟩ ++ leafC ⟨#[99]⟩)) (k := 4) (s := ⟨#[43]⟩) (lit := zeroL) (kids := [leafN ⟨#[97]⟩, mulN]) (p := 0) (sv := .slice (some ⟨q2, 0, none⟩) 2 2) (rows := [leafC ⟨#[97]⟩, sendC ⟨#[42]⟩ q 5]) (sp := []) (.mk rfl rfl (Nat.le_refl _)) rfl (fun r h => by
    rcases List.mem_cons.1 h with rfl | h
    · rfl
    · rw [List.mem_singleton.1 h]; rfl) (fun i x r h1 h2 => by
    match i, h1, h2 with
    | 0, h1, h2 => cases h1; cases h2; exact (leaf_rd _ (by decide)).more hsub
    | 1, h1, h2 => cases h1; cases h2; exact mul_rd q
    | i + 2, h1, h2 => simp at h1) ⟨by omega, by decide, by simp, by omega⟩ (zeroL_rd.more hsub) (none_rd.more hsub) (none_rd.more hsub)
  exact this.more fun z hz => by simpa [slA] using hz
theorem sum_spec : Fun Tryz.prog 42 [] [] (fun v Post => ∃ q q2, v = .agg (sendC ⟨#[43]⟩ q2 0).toArray ∧ Post = [cellsAt q2 0 (leafC ⟨#[97]⟩ ++ sendC ⟨#[42]⟩ q 5), cellsAt q 0 (leafC ⟨#[98]⟩ ++ leafC ⟨#[99]⟩)]) := by
  refine Fun.intro low42 (by simp [n42]) ?_
  refine GOH ?_
  refine st_alloc (fun r => ?_)
  refine GOH ?_
  refine st_bslice (out := leafC ⟨#[98]⟩ ++ leafC ⟨#[99]⟩) (by rfl) (by rfl) (fun q => ?_)
  refine GOH ?_
  refine st_alloc (fun r2 => ?_)
  refine GOH ?_
  refine st_bslice (out := leafC ⟨#[97]⟩ ++ sendC ⟨#[42]⟩ q 5) (by rfl) (by rfl) (fun q2 => ?_)
  refine GOH ?_
  exact ⟨.inr rfl, [.agg (sendC ⟨#[43]⟩ q2 0).toArray], [cellsAt q2 0 (leafC ⟨#[97]⟩ ++ sendC ⟨#[42]⟩ q 5), cellsAt q 0 (leafC ⟨#[98]⟩ ++ leafC ⟨#[99]⟩)], .cellN (us := sendC ⟨#[43]⟩ q2 0) (by rfl) (by rfl) (fun y hy => by simp only [List.flatten_cons, List.mem_append]; first | exact .inl hy | exact .inr (.inl hy) | exact .inr (.inr (.inl hy)) | exact .inr (.inr (.inr (.inl hy)))) .nil, by exact IMx, ⟨q, q2, rfl, rfl⟩⟩
def sumM : Md := ⟨⟨#[120]⟩, [], [], 0, [sumN]⟩
def badM : Md := ⟨⟨#[120, 58]⟩, [], [], 0, []⟩
theorem e_level : levelT sumN = 4 := by decide
theorem e_depth : depthT sumN = 1 := by decide
theorem e_size : (allN sumN).length = 5 := by decide
theorem e_check : checkN sumN = 0 := by decide
theorem e_super : checkN (leafN ⟨#[115, 117, 112, 101, 114]⟩) = 150 := by decide
theorem e_m : checkM sumM = 0 := by decide
theorem e_bad : checkM badM = 150 := by decide
theorem e_sends : sendsM sumM = [⟨#[43]⟩, ⟨#[42]⟩] := by decide
theorem e_same : mdEq sumM sumM.bare = true := by decide
theorem e_one : ndEq sumN sumN = true := by decide
end Go.Proofs.YtmnmandpdadedaaGreatDoor

/-
  Copies: nodes, methods.
-/
import Derived.Test.YtmnmandpdadedaaGreatDoorT11
import Derived.Test.YtmnmandpdadedaaGreatDoorV16
import Derived.KernelRfl
import Derived.Test.YtmnmandpdadedaaGreatDoorProg
import Derived.Test.YtmnmandpdadedaaGreatDoorT10
set_option linter.unusedSimpArgs false
set_option linter.unusedVariables false
namespace Go.Proofs.YtmnmandpdadedaaGreatDoor
open Go Go.V
set_option maxHeartbeats 3200000
set_option maxRecDepth 100000
theorem eachNodes_spec (A : List Atom) (l : List Nd) (a : Option Addr) (c bk o : Nat) (us : Nat → List Value) (hla : l.length ≤ 274877906944) (ha : 0 < l.length → a = some ⟨bk, o, none⟩) (hm : ∀ i, i < l.length → ∀ y ∈ cellsAt bk (o + i * 11) (us i), y ∈ A) (hr : ∀ i x, l[i]? = some x → NdRd A x (us i))
    (fv : Value) (hfv : ∀ i x, l[i]? = some x → FunV Tryz.prog fv [.agg (us i).toArray] [A] (fun v Post => ∃ ws B, v = .agg ws.toArray ∧ NdRd B x.bare ws ∧ Post = [A, B])) :
    Fun Tryz.prog 54 [.slice a l.length c, fv] [A] (fun v Post => ∃ (rows : List (List Value)) (sp : List Value) (B : List Atom), IsSl 11 v l.length rows.flatten sp ∧ rows.length = l.length ∧ (∀ r ∈ rows, r.length = 11) ∧ (∀ (i : Nat) x r, l[i]? = some x → rows[i]? = some r → NdRd B x.bare r) ∧ Post = [A, slA v rows.flatten sp, B]) := by
  refine Fun.intro low54 (by simp [n54]) ?_
  refine GOH ?_
  refine VC.loop (α := Nat × Value × List (List Value) × List Value × List Atom) (Γf := fun s => [(1, fv), (5, s.2.1), (8, .slice a l.length c), (9, vi l.length), (10, vi s.1)]) (Hf := fun s => [A, slA s.2.1 s.2.2.1.flatten s.2.2.2.1, s.2.2.2.2])
    (I := fun s => s.1 ≤ l.length ∧ IsSl 11 s.2.1 s.1 s.2.2.1.flatten s.2.2.2.1 ∧ s.2.2.1.length = s.1 ∧ (∀ r ∈ s.2.2.1, r.length = 11) ∧ ∀ (i : Nat) x r, l[i]? = some x → s.2.2.1[i]? = some r → NdRd s.2.2.2.2 x.bare r) (μ := fun s => l.length - s.1) (0, .slice none 0 0, [], [], []) ⟨Nat.zero_le _, .nil, rfl, fun r hr => (by cases hr), fun i x r _ h => (by simp at h)⟩ (by exact SUx) ⟨[], by simp [V.Spl, slA]⟩ ?_
  rintro ⟨j, sv, rows, sp, B⟩ ⟨i1, i2, i3, i4, i5⟩
  simp only at i1 i2 i3 i4 i5
  dsimp only
  refine GOH ?_
  by_cases hj : j < l.length
  rotate_left
  · rw [show decide ((j : Int) < (l.length : Int)) = false from decide_eq_false (by omega)]
    have hjl : j = l.length := by omega
    subst hjl
    refine GOH ?_
    exact endQ_mk (Post := [A, slA sv rows.flatten sp, B]) (.inr rfl) (.tmp (by rfl) .nil) ⟨rows, sp, B, i2, i3, i4, i5, rfl⟩ (by exact IMx)
  obtain rfl := ha (by omega)
  rw [show decide ((j : Int) < (l.length : Int)) = true from decide_eq_true (by omega)]
  obtain ⟨y, hy⟩ : ∃ y, l[j]? = some y := ⟨_, List.getElem?_eq_getElem hj⟩
  have hym := hm j hj
  have hyr := hr j y hy
  have hcall := hfv j y hy
  generalize us j = uj at *
  obtain ⟨e1, e2, e3, e4, e5, e6, e7, e8, e9, e10, e11, e12, e13, e14, e15, e16, e17, rfl, _, _⟩ := nd_open2 hyr
  refine GOH ?_
  refine st_loadA (by rfl) (fun z hz => List.mem_append_left _ (hym z hz)) rfl ?_
  refine GOH ?_
  refine st_alloc (fun q => ?_)
  refine GOH ?_
  refine st_callV (by rfl) hcall (by rfl) (by exact SPx) (fun v Post hv => ?_)
  obtain ⟨ws, B2, rfl, hw, rfl⟩ := hv
  simp only [CNx]
  have hwl := hw.len
  obtain ⟨f1, f2, f3, f4, f5, f6, f7, f8, f9, f10, f11, f12, f13, f14, f15, f16, f17, rfl, _, _⟩ := nd_open2 hw
  refine st_bslice (out := [cv y.bare.kind, .string y.bare.name, cv f1, vi f2, uv f3, .string f4, .slice f5 f6 f7, .slice f8 f9 f10, .slice f11 f12 f13, .slice f14 f15 f16, vi f17]) (by rfl) (by rfl) (fun r => ?_)
  refine st_append (k := j) (m := 1) (xs := rows.flatten) (sp := sp) (ys := [cv y.bare.kind, .string y.bare.name, cv f1, vi f2, uv f3, .string f4, .slice f5 f6 f7, .slice f8 f9 f10, .slice f11 f12 f13, .slice f14 f15 f16, vi f17]) (by rfl) (by rfl) i2 (by exact TKx) (by rfl) ?_ rfl (by rfl) (by rfl) (by decide) (by omega) (fun sv' sp' hsl' => ?_)
  · exact ⟨rfl, fun a ha => by simp only [List.flatten_cons, List.mem_append]; exact .inl ha⟩
  have hfl : rows.flatten ++ [cv y.bare.kind, .string y.bare.name, cv f1, vi f2, uv f3, .string f4, .slice f5 f6 f7, .slice f8 f9 f10, .slice f11 f12 f13, .slice f14 f15 f16, vi f17] = (rows ++ [[cv y.bare.kind, .string y.bare.name, cv f1, vi f2, uv f3, .string f4, .slice f5 f6 f7, .slice f8 f9 f10, .slice f11 f12 f13, .slice f14 f15 f16, vi f17]]).flatten := by simp
  rw [hfl] at hsl' ⊢
  refine GOH ?_
  refine ⟨(j + 1, sv', rows ++ [[cv y.bare.kind, .string y.bare.name, cv f1, vi f2, uv f3, .string f4, .slice f5 f6 f7, .slice f8 f9 f10, .slice f11 f12 f13, .slice f14 f15 f16, vi f17]], sp', B2 ++ B), ⟨by simp only; omega, hsl', by simp [i3], fun r hr => ?_, fun i x r hx hr => ?_⟩, by simp only; omega, by exact SUx, ?_⟩
  · rcases List.mem_append.1 hr with h | h
    · exact i4 r h
    · rw [List.mem_singleton.1 h]; rfl
  · simp only at hr
    by_cases hi : i < rows.length
    · rw [List.getElem?_append_left hi] at hr
      exact (i5 i x r hx hr).more fun z hz => List.mem_append_right _ hz
    · rw [List.getElem?_append_right (by omega)] at hr
      have hi0 : i - rows.length = 0 := by
        have := (List.getElem?_eq_some_iff.1 hr).1
        simp at this; omega
      rw [hi0] at hr
      simp only [List.getElem?_cons_zero, Option.some.injEq] at hr
      subst hr
      have : i = j := by omega
      subst this
      rw [hy] at hx; cases hx
      exact hw.more fun z hz => List.mem_append_left _ hz
  · simp only
    refine Imp.cut (M := [A, slA sv' (rows ++ [[cv y.bare.kind, .string y.bare.name, cv f1, vi f2, uv f3, .string f4, .slice f5 f6 f7, .slice f8 f9 f10, .slice f11 f12 f13, .slice f14 f15 f16, vi f17]]).flatten sp', B2, B]) (by exact IMx) (Imp.perm (by simp))
theorem VO.sub {P : Program} {n : Nat} {rs : List RO} {Γ Δ : Env} {H : SH} {Z : List PanicEntry → Env → SH → Prop} {K : Env → SH → Prop} (hs : V.Sub Γ Δ) (h : VO P n rs Δ H Z K) : VO P n rs Γ H Z K :=
  fun l hl a w F ZZ Q ha hsat hq hz => h l hl a w F ZZ Q ⟨ha.size, fun t v e => ha.slots t v (hs t v e)⟩ hsat hq hz
theorem bares_map : ∀ l : List Nd, Nd.bares l = l.map Nd.bare := by
  intro l
  induction l with
  | nil => rfl
  | cons x r ih => simp only [Nd.bares, ih, List.map_cons]
theorem bare_spec (A : List Atom) : ∀ (N : Nat) (x : Nd), x.w ≤ N → x.w ≤ 274877906944 → ∀ vs, NdRd A x vs → Fun Tryz.prog 55 [.agg vs.toArray] [A] (fun v Post => ∃ ws B, v = .agg ws.toArray ∧ NdRd B x.bare ws ∧ Post = [A, B]) := by
  intro N
  induction N with
  | zero => intro x hx; have := x.w_pos; omega
  | succ N ih =>
    intro x hx hb vs h
    cases h with
    | @mk k s lit args temps kids p lv av tv a c bk o us wf hl hav htv ha hm hr hcp =>
    simp only [Nd.w] at hx hb
    have hge := ws_ge kids
    have hkids := eachNodes_spec A kids a c bk o us (by omega) ha hm hr (.func (.func 55) #[] #[]) (fun i x e1 => by
      have h1 := Nd.ws_mem (List.mem_of_getElem? e1)
      exact FunV.of_fun (first := #[]) (cap := #[]) (ih x (by omega) (by omega) _ (hr i x e1)))
    have hown := own_spec A _ lit (Nat.le_refl _) (by omega) lv hl
    have hca := cloneTexts_spec A av args hav
    have hct := cloneTexts_spec A tv temps htv
    have hl2 := hl
    cases hl2 with
    | @mk lk ln lbt lt items la lc lbk lo lus lwf lha lhm lhr =>
    obtain ⟨aa, ac, rfl, hal, har⟩ := hav
    obtain ⟨ta, tc, rfl, htl, htr⟩ := htv
    refine Fun.intro low55 (by simp [n55]) ?_
    simp only [CNx]
    refine GOH ?_
    refine st_box (by rfl) (fun q => ?_)
    refine st_alloc (fun q2 => ?_)
    simp only [Value.cells]
    refine GOH ?_
    refine VC.seq (VC.free 16 (fun i v B => match i with
      | 0 => v = .pointer (some ⟨q, 0, none⟩) ∧ B = []
      | 1 => v = cv k ∧ B = []
      | 2 => v = .pointer (some ⟨q, 1, none⟩) ∧ B = []
      | 3 => v = .string s ∧ B = []
      | 4 => v = .pointer (some ⟨q, 2, none⟩) ∧ B = []
      | 5 => v = .agg [cv lk, vi ln, uv lbt, .string lt, .slice la items.length lc].toArray ∧ B = []
      | 6 => ∃ ws, v = .agg ws.toArray ∧ LtRd B (.mk lk ln lbt lt items) ws
      | 7 => v = .pointer (some ⟨q, 7, none⟩) ∧ B = []
      | 8 => v = .slice aa args.length ac ∧ B = []
      | 9 => RdT B v args
      | 10 => v = .pointer (some ⟨q, 8, none⟩) ∧ B = []
      | 11 => v = .slice ta temps.length tc ∧ B = []
      | 12 => RdT B v temps
      | 13 => v = .pointer (some ⟨q, 9, none⟩) ∧ B = []
      | 14 => v = .slice a kids.length c ∧ B = []
      | 15 => ∃ (rows : List (List Value)) (sp : List Value) (B' : List Atom), IsSl 11 v kids.length rows.flatten sp ∧ rows.length = kids.length ∧ (∀ r ∈ rows, r.length = 11) ∧ (∀ (i : Nat) x r, kids[i]? = some x → rows[i]? = some r → NdRd B' x.bare r) ∧ B = slA v rows.flatten sp ++ B'
      | _ => True) (by decide) (by decide) (by decide) ?_ ?_)
    · intro i hi vv hg Γ' hh hkp
      match i, hi with
    | 0, _ =>
      show VO _ _ [⟨some 3, none, .fld 0 (.tmp 1)⟩] _ _ _ _
      exact st_fld (hkp 1 _ rfl (by decide)) rfl (VO.nil ⟨_, [], rfl, ⟨rfl, rfl⟩, Imp.perm (by simp)⟩)
    | 1, _ =>
      show VO _ _ [⟨some 4, none, .load1 (.tmp 3)⟩] _ _ _ _
      have e := hh 0 (by decide) 3 rfl
      rw [(hg 0 (by decide)).1] at e
      exact st_load1 e (by (focus ((repeat (first | (apply Has.cells; omega; rfl) | apply Has.there)); done))) (VO.nil ⟨_, [], rfl, ⟨rfl, rfl⟩, Imp.perm (by simp)⟩)
    | 2, _ =>
      show VO _ _ [⟨some 5, none, .fld 1 (.tmp 1)⟩] _ _ _ _
      exact st_fld (hkp 1 _ rfl (by decide)) rfl (VO.nil ⟨_, [], rfl, ⟨rfl, rfl⟩, Imp.perm (by simp)⟩)
    | 3, _ =>
      show VO _ _ [⟨some 6, none, .load1 (.tmp 5)⟩] _ _ _ _
      have e := hh 2 (by decide) 5 rfl
      rw [(hg 2 (by decide)).1] at e
      exact st_load1 e (by (focus ((repeat (first | (apply Has.cells; omega; rfl) | apply Has.there)); done))) (VO.nil ⟨_, [], rfl, ⟨rfl, rfl⟩, Imp.perm (by simp)⟩)
    | 4, _ =>
      show VO _ _ [⟨some 7, none, .fld 2 (.tmp 1)⟩] _ _ _ _
      exact st_fld (hkp 1 _ rfl (by decide)) rfl (VO.nil ⟨_, [], rfl, ⟨rfl, rfl⟩, Imp.perm (by simp)⟩)
    | 5, _ =>
      show VO _ _ [⟨some 8, none, .loadN 5 (.tmp 7)⟩] _ _ _ _
      have e := hh 4 (by decide) 7 rfl
      rw [(hg 4 (by decide)).1] at e
      exact st_loadM e (by (focus ((repeat (first | (apply HasM.cells; omega; (focus (simp only [List.length_cons, List.length_nil, Nat.reduceAdd, Nat.zero_add, Nat.reduceSub, Nat.sub_self, Nat.reduceLeDiff, Nat.le_refl]; done)); (focus (simp only [lnb, Value.cells, Nat.zero_add, Nat.reduceEqDiff, ↓reduceIte, eq_self, Nat.reduceAdd, Nat.reduceSub, Nat.sub_self, Nat.reduceLeDiff, Nat.le_refl, and_self, rep, zeroRow] <;> rfl)); rfl) | apply HasM.there)); done))) (VO.nil ⟨_, [], rfl, ⟨rfl, rfl⟩, Imp.perm (by simp)⟩)
    | 6, _ =>
      show VO _ _ [⟨some 9, none, .call 97 [.tmp 8]⟩] _ _ _ _
      have e := hh 5 (by decide) 8 rfl
      rw [(hg 5 (by decide)).1] at e
      refine st_call hown (by simp only [V.evs, V.ev, e]) (by exact SPx) (fun v Post hv => ?_)
      obtain ⟨ws, B, rfl, hw, rfl⟩ := hv
      exact VO.nil ⟨_, B, rfl, ⟨ws, rfl, hw⟩, by simp only [CNx]; exact IMx⟩
    | 7, _ =>
      show VO _ _ [⟨some 10, none, .fld 7 (.tmp 1)⟩] _ _ _ _
      exact st_fld (hkp 1 _ rfl (by decide)) rfl (VO.nil ⟨_, [], rfl, ⟨rfl, rfl⟩, Imp.perm (by simp)⟩)
    | 8, _ =>
      show VO _ _ [⟨some 11, none, .load1 (.tmp 10)⟩] _ _ _ _
      have e := hh 7 (by decide) 10 rfl
      rw [(hg 7 (by decide)).1] at e
      exact st_load1 e (by (focus ((repeat (first | (apply Has.cells; omega; rfl) | apply Has.there)); done))) (VO.nil ⟨_, [], rfl, ⟨rfl, rfl⟩, Imp.perm (by simp)⟩)
    | 9, _ =>
      show VO _ _ [⟨some 12, none, .call 53 [.tmp 11]⟩] _ _ _ _
      have e := hh 8 (by decide) 11 rfl
      rw [(hg 8 (by decide)).1] at e
      refine st_call hca (by simp only [V.evs, V.ev, e]) (by exact SPx) (fun v Post hv => ?_)
      obtain ⟨B, hw, rfl⟩ := hv
      exact VO.nil ⟨_, B, rfl, hw, by simp only [CNx]; exact IMx⟩
    | 10, _ =>
      show VO _ _ [⟨some 13, none, .fld 8 (.tmp 1)⟩] _ _ _ _
      exact st_fld (hkp 1 _ rfl (by decide)) rfl (VO.nil ⟨_, [], rfl, ⟨rfl, rfl⟩, Imp.perm (by simp)⟩)
    | 11, _ =>
      show VO _ _ [⟨some 14, none, .load1 (.tmp 13)⟩] _ _ _ _
      have e := hh 10 (by decide) 13 rfl
      rw [(hg 10 (by decide)).1] at e
      exact st_load1 e (by (focus ((repeat (first | (apply Has.cells; omega; rfl) | apply Has.there)); done))) (VO.nil ⟨_, [], rfl, ⟨rfl, rfl⟩, Imp.perm (by simp)⟩)
    | 12, _ =>
      show VO _ _ [⟨some 15, none, .call 53 [.tmp 14]⟩] _ _ _ _
      have e := hh 11 (by decide) 14 rfl
      rw [(hg 11 (by decide)).1] at e
      refine st_call hct (by simp only [V.evs, V.ev, e]) (by exact SPx) (fun v Post hv => ?_)
      obtain ⟨B, hw, rfl⟩ := hv
      exact VO.nil ⟨_, B, rfl, hw, by simp only [CNx]; exact IMx⟩
    | 13, _ =>
      show VO _ _ [⟨some 16, none, .fld 9 (.tmp 1)⟩] _ _ _ _
      exact st_fld (hkp 1 _ rfl (by decide)) rfl (VO.nil ⟨_, [], rfl, ⟨rfl, rfl⟩, Imp.perm (by simp)⟩)
    | 14, _ =>
      show VO _ _ [⟨some 17, none, .load1 (.tmp 16)⟩] _ _ _ _
      have e := hh 13 (by decide) 16 rfl
      rw [(hg 13 (by decide)).1] at e
      exact st_load1 e (by (focus ((repeat (first | (apply Has.cells; omega; rfl) | apply Has.there)); done))) (VO.nil ⟨_, [], rfl, ⟨rfl, rfl⟩, Imp.perm (by simp)⟩)
    | 15, _ =>
      show VO _ _ [⟨some 18, none, .call 54 [.tmp 17, .func 55]⟩] _ _ _ _
      have e := hh 14 (by decide) 17 rfl
      rw [(hg 14 (by decide)).1] at e
      refine st_call hkids (by simp only [V.evs, V.ev, e]) (by exact SPx) (fun v Post hv => ?_)
      obtain ⟨rows, sp, B, h1, h2, h3, h4, rfl⟩ := hv
      exact VO.nil ⟨_, slA v rows.flatten sp ++ B, rfl, ⟨rows, sp, B, h1, h2, h3, h4, rfl⟩, Imp.cut (M := [slA v rows.flatten sp, B, cellsAt q2 0 [.int .u8 0, .string ⟨#[]⟩, .int .u8 0, .int .i64 0, .int .u64 0, .string ⟨#[]⟩, .slice none 0 0, .slice none 0 0, .slice none 0 0, .slice none 0 0, .int .i64 0], cellsAt q 0 [cv k, .string s, cv lk, vi ln, uv lbt, .string lt, .slice la items.length lc, .slice aa args.length ac, .slice ta temps.length tc, .slice a kids.length c, vi p], A]) (by simp only [CNx]; exact IMx) (Imp.perm (by simp))⟩
    | n + 16, h => exact absurd h (by omega)
    · intro vv hg Γ' hh hkp
      show VO _ _ _ _ [(vv 0).2, (vv 1).2, (vv 2).2, (vv 3).2, (vv 4).2, (vv 5).2, (vv 6).2, (vv 7).2, (vv 8).2, (vv 9).2, (vv 10).2, (vv 11).2, (vv 12).2, (vv 13).2, (vv 14).2, (vv 15).2, cellsAt q2 0 [.int .u8 0, .string ⟨#[]⟩, .int .u8 0, .int .i64 0, .int .u64 0, .string ⟨#[]⟩, .slice none 0 0, .slice none 0 0, .slice none 0 0, .slice none 0 0, .int .i64 0], cellsAt q 0 [cv k, .string s, cv lk, vi ln, uv lbt, .string lt, .slice la items.length lc, .slice aa args.length ac, .slice ta temps.length tc, .slice a kids.length c, vi p], A] _ _
      refine VO.imp (H' := [cellsAt q2 0 [.int .u8 0, .string ⟨#[]⟩, .int .u8 0, .int .i64 0, .int .u64 0, .string ⟨#[]⟩, .slice none 0 0, .slice none 0 0, .slice none 0 0, .slice none 0 0, .int .i64 0], A, (vv 6).2, (vv 9).2, (vv 12).2, (vv 15).2]) (by exact IMx) ?_
      obtain ⟨ws, e6, h6⟩ := hg 6 (by omega)
      have h9 := hg 9 (by omega)
      have h12 := hg 12 (by omega)
      obtain ⟨rows, sp, B', h15, hrl, hr11, hrr, e15⟩ := hg 15 (by omega)
      have s4 := hh 1 (by decide) 4 rfl
      have s6 := hh 3 (by decide) 6 rfl
      have s9 := hh 6 (by decide) 9 rfl
      have s12 := hh 9 (by decide) 12 rfl
      have s15 := hh 12 (by decide) 15 rfl
      have s18 := hh 15 (by decide) 18 rfl
      rw [(hg 1 (by omega)).1] at s4
      rw [(hg 3 (by omega)).1] at s6
      rw [e6] at s9
      have s2 := hkp 2 _ rfl (by decide)
      clear hg hh hkp
      simp only at h9 h12
      generalize (vv 6).2 = B6 at *
      generalize vv 9 = p9 at *
      generalize vv 12 = p12 at *
      generalize vv 15 = p15 at *
      obtain ⟨v9, B9⟩ := p9
      obtain ⟨v12, B12⟩ := p12
      obtain ⟨v15, B15⟩ := p15
      simp only at *
      subst e15
      have hmade := nd_made (B := B' ++ (B6 ++ (B9 ++ B12))) (k := k) (s := s) (lit := .mk lk ln lbt lt items) (args := args) (temps := temps) (kids := kids.map Nd.bare) (p := 0) (lv := ws) (av := v9) (tv := v12) (sv := v15) (rows := rows) (sp := sp) (by rw [List.length_map]; exact h15) (by rw [List.length_map]; exact hrl) hr11
        (fun i x r hx hr => by
          rw [List.getElem?_map] at hx
          obtain ⟨y, hy, rfl⟩ := Option.map_eq_some_iff.1 hx
          exact (hrr i y r hy hr).more fun z hz => List.mem_append_left _ hz)
        (by rw [List.length_map]; exact ⟨wf.kind, wf.name, wf.many, by omega⟩) (h6.more fun z hz => by simp [hz]) (h9.more fun z hz => by simp [hz]) (h12.more fun z hz => by simp [hz])
      rw [← bares_map] at hmade
      obtain ⟨e1, c1, rfl⟩ := lt_open h6
      obtain ⟨a9, c9, rfl, _, _⟩ := h9
      obtain ⟨a12, c12, rfl, _, _⟩ := h12
      obtain ⟨a15, c15, rfl⟩ := h15.form
      simp only [Lt.kind, Lt.n, Lt.bits, Lt.text, Lt.items] at *
      refine VO.sub (Δ := [(2, ptr0 q2), (4, cv k), (6, .string s), (9, .agg #[cv lk, vi ln, uv lbt, .string lt, .slice e1 items.length c1]), (12, .slice a9 args.length c9), (15, .slice a12 temps.length c12), (18, .slice a15 kids.length c15)]) (Sub.cons s2 (Sub.cons s4 (Sub.cons s6 (Sub.cons s9 (Sub.cons s12 (Sub.cons s15 (Sub.cons s18 Sub.nil))))))) ?_
      refine GOH ?_
      exact ⟨.inr rfl, [.agg #[cv k, .string s, cv lk, vi ln, uv lbt, .string lt, .slice e1 items.length c1, .slice a9 args.length c9, .slice a12 temps.length c12, .slice a15 kids.length c15, .int .i64 0]], [A, slA (.slice a15 kids.length c15) rows.flatten sp ++ (B' ++ (B6 ++ (B9 ++ B12)))], .cellN (us := [cv k, .string s, cv lk, vi ln, uv lbt, .string lt, .slice e1 items.length c1, .slice a9 args.length c9, .slice a12 temps.length c12, .slice a15 kids.length c15, .int .i64 0]) (by rfl) (by rfl) (fun y hy => by simp only [List.flatten_cons, List.mem_append]; first | exact .inl hy | exact .inr (.inl hy) | exact .inr (.inr (.inl hy))) .nil,
        Imp.cut (M := [A, slA (.slice a15 kids.length c15) rows.flatten sp ++ B', B6, B9, B12]) (by exact IMx) (Imp.perm (by simp)), ⟨_, _, rfl, hmade, rfl⟩⟩
structure KidsRd (A : List Atom) (l : List Nd) (a : Option Addr) (bk o : Nat) (us : Nat → List Value) : Prop where
  at_ : 0 < l.length → a = some ⟨bk, o, none⟩
  many : l.length ≤ 140737488355328
  mem : ∀ i, i < l.length → ∀ y ∈ cellsAt bk (o + i * 11) (us i), y ∈ A
  rd : ∀ i x, l[i]? = some x → NdRd A x (us i)
theorem KidsRd.ok {A : List Atom} {l : List Nd} {a : Option Addr} {bk o : Nat} {us : Nat → List Value} (h : KidsRd A l a bk o us) (hE : ErA A) (hw : Nd.ws l ≤ 274877906944) : KidsOk A l a bk o us :=
  ⟨h.at_, h.many, h.mem, h.rd, fun i x e => node_spec A hE x (by have := Nd.ws_mem (List.mem_of_getElem? e); omega) _ (h.rd i x e)⟩
structure MdW (A : List Atom) (x : Md) (vs : List Value) : Prop where
  form : ∃ aa ac ta tc a c bk o us, vs = [.string x.sel, .slice aa x.args.length ac, .slice ta x.temps.length tc, vi x.prim, .slice a x.body.length c] ∧ RdT A (.slice aa x.args.length ac) x.args ∧ RdT A (.slice ta x.temps.length tc) x.temps ∧ KidsRd A x.body a bk o us
  sel : x.sel.size ≤ 140737488355328
  prim : -9223372036854775808 ≤ x.prim ∧ x.prim ≤ 9223372036854775807
theorem MdW.ok {A : List Atom} {x : Md} {vs : List Value} (h : MdW A x vs) (hE : ErA A) (hw : Nd.ws x.body ≤ 274877906944) : MdRd A x vs := by
  obtain ⟨⟨aa, ac, ta, tc, a, c, bk, o, us, h1, h2, h3, h4⟩, h5, h6⟩ := h
  exact ⟨⟨aa, ac, ta, tc, a, c, bk, o, us, h1, h2, h3, h4.ok hE hw⟩, h5, h6⟩
theorem MdW.more {A B : List Atom} {x : Md} {vs : List Value} (h : MdW A x vs) (hs : ∀ z ∈ A, z ∈ B) : MdW B x vs := by
  obtain ⟨⟨aa, ac, ta, tc, a, c, bk, o, us, h1, h2, h3, h4⟩, h5, h6⟩ := h
  exact ⟨⟨aa, ac, ta, tc, a, c, bk, o, us, h1, h2.more hs, h3.more hs, ⟨h4.at_, h4.many, fun i hi y hy => hs _ (h4.mem i hi y hy), fun i x e => (h4.rd i x e).more hs⟩⟩, h5, h6⟩
def Md.bare (x : Md) : Md := { x with body := x.body.map Nd.bare }
theorem md_made {x : Md} {v v2 sv : Value} {B B1 B2 : List Atom} {rows : List (List Value)} {sp : List Value} {a1 a2 a3 : Option Addr} {c1 c2 c3 : Nat} (hsel : x.sel.size ≤ 140737488355328) (hprim : -9223372036854775808 ≤ x.prim ∧ x.prim ≤ 9223372036854775807) (hml : x.body.length ≤ 140737488355328)
    (h1 : RdT B1 v x.args) (h2 : RdT B2 v2 x.temps) (g1 : IsSl 11 sv x.body.length rows.flatten sp) (g2 : rows.length = x.body.length) (g3 : ∀ r ∈ rows, r.length = 11) (g4 : ∀ (i : Nat) y r, x.body[i]? = some y → rows[i]? = some r → NdRd B y.bare r)
    (e1 : v = .slice a1 x.args.length c1) (e2 : v2 = .slice a2 x.temps.length c2) (e3 : sv = .slice a3 x.body.length c3) :
    MdW (slA sv rows.flatten sp ++ (B ++ (B1 ++ B2))) x.bare [.string x.sel, v, v2, vi x.prim, sv] := by
  have hget : ∀ i, i < x.body.length → rows[i]? = some (rows.getD i []) := fun i hi => by
    rw [List.getD_eq_getElem?_getD, List.getElem?_eq_getElem (by omega)]; rfl
  have hbl : x.bare.body.length = x.body.length := by simp [Md.bare]
  have key : ∃ bk o us, KidsRd (slA sv rows.flatten sp ++ (B ++ (B1 ++ B2))) x.bare.body a3 bk o us := by
    have hrd : ∀ i y, x.bare.body[i]? = some y → NdRd (slA sv rows.flatten sp ++ (B ++ (B1 ++ B2))) y (rows.getD i []) := fun i y hy => by
      have hy' : (x.body.map Nd.bare)[i]? = some y := hy
      rw [List.getElem?_map] at hy'
      obtain ⟨u, hu, rfl⟩ := Option.map_eq_some_iff.1 hy'
      have hi := (List.getElem?_eq_some_iff.1 hu).1
      exact (g4 i u _ hu (hget i hi)).more fun z hz => by simp [hz]
    generalize hxs : rows.flatten = xs at g1 ⊢ hrd
    generalize hm : x.body.length = m at g1
    cases g1 with
    | @mk bk o _ c _ _ h1 h2 h3 =>
      cases e3
      refine ⟨bk, o, fun i => rows.getD i [], fun _ => rfl, ?_, fun i hi y hy => ?_, hrd⟩
      · omega
      · refine List.mem_append_left _ ?_
        simp only [slA, cellsAt_append]
        rw [← hxs]
        exact List.mem_append_left _ (cells_row g3 (hget i (by omega)) y hy)
    | nil =>
      refine ⟨0, 0, fun i => rows.getD i [], fun h => by omega, by omega, fun i hi => by omega, hrd⟩
  obtain ⟨bk, o, us, hk⟩ := key
  refine ⟨⟨a1, c1, a2, c2, a3, c3, bk, o, us, ?_, ?_, ?_, hk⟩, hsel, hprim⟩
  · rw [e1, e2, hbl, ← e3]; rfl
  · rw [e1] at h1; exact h1.more fun z hz => by simp [hz]
  · rw [e2] at h2; exact h2.more fun z hz => by simp [hz]
theorem Bare_spec (A : List Atom) (x : Md) (vs : List Value) (h : MdW A x vs) (hw : Nd.ws x.body ≤ 274877906944) : Fun Tryz.prog 15 [.agg vs.toArray] [A] (fun v Post => ∃ ws B, v = .agg ws.toArray ∧ MdW B x.bare ws ∧ Post = [A, B]) := by
  obtain ⟨⟨aa, ac, ta, tc, a, c, bk, o, us, rfl, hav, htv, hk⟩, hsel, hprim⟩ := h
  have hge := ws_ge x.body
  have hkids := eachNodes_spec A x.body a c bk o us (by omega) hk.at_ hk.mem hk.rd (.func (.func 55) #[] #[]) (fun i y e1 => by
    have h1 := Nd.ws_mem (List.mem_of_getElem? e1)
    exact FunV.of_fun (first := #[]) (cap := #[]) (bare_spec A _ y (Nat.le_refl _) (by omega) _ (hk.rd i y e1)))
  have hca := cloneTexts_spec A _ x.args hav
  have hct := cloneTexts_spec A _ x.temps htv
  refine Fun.intro low15 (by simp [n15]) ?_
  refine GOHS ?_
  refine st_box (by rfl) (fun q => ?_)
  refine st_alloc (fun q2 => ?_)
  simp only [Value.cells]
  refine GOHS ?_
  refine VC.seq (VC.draws ⟨?_, ?_, trivial⟩)
  · skip
    refine GOH ?_
    refine st_call hca (by rfl) (by exact SPx) (fun v Post hv => ?_)
    obtain ⟨B1, h1, rfl⟩ := hv
    simp only [CNx]
    refine GOH ?_
    refine st_call hct (by rfl) (by exact SPx) (fun v2 Post hv => ?_)
    obtain ⟨B2, h2, rfl⟩ := hv
    simp only [CNx]
    have h1' := h1
    have h2' := h2
    obtain ⟨a1, c1, rfl, _, _⟩ := h1'
    obtain ⟨a2, c2, rfl, _, _⟩ := h2'
    refine GOH ?_
    refine st_call hkids (by rfl) (by exact SPx) (fun v Post hv => ?_)
    obtain ⟨rows, sp, B, g1, g2, g3, g4, rfl⟩ := hv
    simp only [CNx]
    have g1' := g1
    obtain ⟨a3, c3, rfl⟩ := g1'.form
    refine GOH ?_
    exact ⟨.inr rfl, [.agg #[.string x.sel, .slice a1 x.args.length c1, .slice a2 x.temps.length c2, vi x.prim, .slice a3 x.body.length c3]], [A, slA (.slice a3 x.body.length c3) rows.flatten sp ++ (B ++ (B1 ++ B2))], .cellN (us := [.string x.sel, .slice a1 x.args.length c1, .slice a2 x.temps.length c2, vi x.prim, .slice a3 x.body.length c3]) (by rfl) (by rfl) (fun y hy => by simp only [List.flatten_cons, List.mem_append]; first | exact .inl hy | exact .inr (.inl hy) | exact .inr (.inr (.inl hy)) | exact .inr (.inr (.inr (.inl hy))) | exact .inr (.inr (.inr (.inr (.inl hy)))) | exact .inr (.inr (.inr (.inr (.inr (.inl hy))))) | exact .inr (.inr (.inr (.inr (.inr (.inr (.inl hy))))))) .nil,
      Imp.cut (M := [A, slA (.slice a3 x.body.length c3) rows.flatten sp, B, B1, B2]) (by exact IMx) (Imp.perm (by simp)), ⟨_, _, rfl, md_made (sp := sp) (sv := .slice a3 x.body.length c3) hsel hprim hk.many h1 h2 g1 g2 g3 g4 rfl rfl rfl, rfl⟩⟩
  · skip
    refine GOH ?_
    refine st_call hca (by rfl) (by exact SPx) (fun v Post hv => ?_)
    obtain ⟨B1, h1, rfl⟩ := hv
    simp only [CNx]
    refine GOH ?_
    refine st_call hct (by rfl) (by exact SPx) (fun v2 Post hv => ?_)
    obtain ⟨B2, h2, rfl⟩ := hv
    simp only [CNx]
    have h1' := h1
    have h2' := h2
    obtain ⟨a1, c1, rfl, _, _⟩ := h1'
    obtain ⟨a2, c2, rfl, _, _⟩ := h2'
    refine GOH ?_
    refine st_call hkids (by rfl) (by exact SPx) (fun v Post hv => ?_)
    obtain ⟨rows, sp, B, g1, g2, g3, g4, rfl⟩ := hv
    simp only [CNx]
    have g1' := g1
    obtain ⟨a3, c3, rfl⟩ := g1'.form
    refine GOH ?_
    exact ⟨.inr rfl, [.agg #[.string x.sel, .slice a1 x.args.length c1, .slice a2 x.temps.length c2, vi x.prim, .slice a3 x.body.length c3]], [A, slA (.slice a3 x.body.length c3) rows.flatten sp ++ (B ++ (B1 ++ B2))], .cellN (us := [.string x.sel, .slice a1 x.args.length c1, .slice a2 x.temps.length c2, vi x.prim, .slice a3 x.body.length c3]) (by rfl) (by rfl) (fun y hy => by simp only [List.flatten_cons, List.mem_append]; first | exact .inl hy | exact .inr (.inl hy) | exact .inr (.inr (.inl hy)) | exact .inr (.inr (.inr (.inl hy))) | exact .inr (.inr (.inr (.inr (.inl hy)))) | exact .inr (.inr (.inr (.inr (.inr (.inl hy))))) | exact .inr (.inr (.inr (.inr (.inr (.inr (.inl hy))))))) .nil,
      Imp.cut (M := [A, slA (.slice a3 x.body.length c3) rows.flatten sp, B, B1, B2]) (by exact IMx) (Imp.perm (by simp)), ⟨_, _, rfl, md_made (sp := sp) (sv := .slice a3 x.body.length c3) hsel hprim hk.many h1 h2 g1 g2 g3 g4 rfl rfl rfl, rfl⟩⟩
theorem alikeN_len {x y : Nd} (h : alikeN x y = true) : x.kids.length = y.kids.length := by
  simp only [alikeN, Bool.and_eq_true, decide_eq_true_eq] at h
  exact h.2
theorem likeNode_spec (A : List Atom) : ∀ (N : Nat) (x y : Nd), x.w ≤ N → ∀ vs ws, NdRd A x vs → NdRd A y ws → Fun Tryz.prog 30 [.agg vs.toArray, .agg ws.toArray] [A] (fun v Post => v = .bool (ndEq x y) ∧ Post = [A]) := by
  intro N
  induction N with
  | zero => intro x y hx; have := x.w_pos; omega
  | succ N ih =>
    intro x y hx vs ws h h2
    have hal := alike_spec A x y vs ws h h2
    have hxk : ∀ u ∈ x.kids, u.w ≤ N := fun u hu => by
      cases x
      have := Nd.ws_mem hu
      simp only [Nd.kids] at this
      simp only [Nd.w] at hx; omega
    obtain ⟨e1, e2, e3, e4, e5, e6, e7, e8, e9, e10, e11, e12, e13, a, c, bk, o, us, rfl, hmany, ha, hm, hr⟩ := nd_at h
    obtain ⟨f1, f2, f3, f4, f5, f6, f7, f8, f9, f10, f11, f12, f13, a', c', bk', o', us', rfl, hmany', ha', hm', hr'⟩ := nd_at h2
    refine Fun.intro low30 (by simp [n30]) ?_
    have hE := ndEq_alike x y
    refine GOH ?_
    refine st_box (by rfl) (fun q => ?_)
    refine st_box (by rfl) (fun q2 => ?_)
    simp only [Value.cells]
    refine GOH ?_
    refine st_call hal (by rfl) (by exact SPx) (fun v Post hv => ?_)
    obtain ⟨rfl, rfl⟩ := hv
    simp only [CNx]
    refine GOH ?_
    refine VC.loop (α := Nat × Bool) (Γf := fun s => [(2, ptr0 q), (3, ptr0 q2), (5, .bool s.2), (6, vi s.1)]) (Hf := fun _ => [A, cellsAt q 0 [cv x.kind, .string x.name, cv e1, vi e2, uv e3, .string e4, .slice e5 e6 e7, .slice e8 e9 e10, .slice e11 e12 e13, .slice a x.kids.length c, vi x.at_], cellsAt q2 0 [cv y.kind, .string y.name, cv f1, vi f2, uv f3, .string f4, .slice f5 f6 f7, .slice f8 f9 f10, .slice f11 f12 f13, .slice a' y.kids.length c', vi y.at_]])
      (I := fun s => s.1 ≤ x.kids.length ∧ (s.2 = true → alikeN x y = true ∧ ∀ i u v, i < s.1 → x.kids[i]? = some u → y.kids[i]? = some v → ndEq u v = true) ∧ (s.2 = false → ndEq x y = false)) (μ := fun s => (x.kids.length - s.1) * 2 + (if s.2 then 1 else 0)) (0, alikeN x y) ⟨Nat.zero_le _, fun h => ⟨h, fun i u v h => absurd h (by omega)⟩, fun h => by simp only at h; rw [hE, h]; rfl⟩ (by exact SUx) (by exact IMx) ?_
    rintro ⟨j, b⟩ ⟨i1, i2, i3⟩
    simp only at i1 i2 i3
    dsimp only
    refine GOH ?_
    by_cases hj : j < x.kids.length
    rotate_left
    · rw [show decide ((j : Int) < (x.kids.length : Int)) = false from decide_eq_false (by omega)]
      have hb : b = ndEq x y := by
        cases b with
        | false => exact (i3 rfl).symm
        | true =>
          obtain ⟨g1, g2⟩ := i2 rfl
          rw [hE, g1, (ndsEq_iff _ _).2 ⟨alikeN_len g1, fun i u v e1 e2 => g2 i u v (by have := (List.getElem?_eq_some_iff.1 e1).1; omega) e1 e2⟩]
          rfl
      refine GOH ?_
      exact endQ_mk (Post := [A]) (.inr rfl) (.tmp (by rfl) .nil) ⟨by rw [hb]; rfl, rfl⟩ (by exact IMx)
    rw [show decide ((j : Int) < (x.kids.length : Int)) = true from decide_eq_true (by omega)]
    cases b with
    | false =>
      have hno := i3 rfl
      refine GOH ?_
      exact endQ_mk (Post := [A]) (.inr rfl) (.tmp (by rfl) .nil) ⟨by rw [hno]; rfl, rfl⟩ (by exact IMx)
    | true =>
      obtain ⟨g1, g2⟩ := i2 rfl
      have hlen := alikeN_len g1
      obtain rfl := ha (by omega)
      obtain rfl := ha' (by omega)
      obtain ⟨u, hu⟩ : ∃ u, x.kids[j]? = some u := ⟨_, List.getElem?_eq_getElem hj⟩
      obtain ⟨z, hz⟩ : ∃ z, y.kids[j]? = some z := ⟨_, List.getElem?_eq_getElem (hlen ▸ hj)⟩
      have hum := hm j hj
      have hzm := hm' j (by omega)
      have hul := (hr j u hu).len
      have hzl := (hr' j z hz).len
      have hcall := ih u z (hxk u (List.mem_of_getElem? hu)) _ _ (hr j u hu) (hr' j z hz)
      refine GOH ?_
      refine st_loadA (by rfl) (fun z hz => List.mem_append_left _ (hum z hz)) hul ?_
      refine GOH ?_
      refine st_loadA (by rfl) (fun z hz => List.mem_append_left _ (hzm z hz)) hzl ?_
      refine GOH ?_
      refine st_call hcall (by rfl) (by exact SPx) (fun v Post hv => ?_)
      obtain ⟨rfl, rfl⟩ := hv
      simp only [CNx]
      refine GOH ?_
      refine ⟨(j + 1, ndEq u z), ⟨by simp only; omega, fun hb => ⟨g1, fun i p r hi e1 e2 => ?_⟩, fun hb => ?_⟩, by simp only; split <;> simp <;> omega, by exact SUx, by exact IMx⟩
      · by_cases hij : i = j
        · subst hij
          rw [hu] at e1; rw [hz] at e2
          cases e1; cases e2; exact hb
        · exact g2 i p r (by simp only at hi; omega) e1 e2
      · simp only at hb
        rw [hE, ndsEq_false hu hz hb, Bool.and_false]
theorem sameNodeP_spec (A : List Atom) : ∀ (N : Nat) (x y : Nd), x.w ≤ N → ∀ vs ws, NdRd A x vs → NdRd A y ws → Fun Tryz.prog 40 [.agg vs.toArray, .agg ws.toArray] [A] (fun v Post => v = .bool (ndSm x y) ∧ Post = [A]) := by
  intro N
  induction N with
  | zero => intro x y hx; have := x.w_pos; omega
  | succ N ih =>
    intro x y hx vs ws h h2
    have hal := alike_spec A x y vs ws h h2
    have hxk : ∀ u ∈ x.kids, u.w ≤ N := fun u hu => by
      cases x
      have := Nd.ws_mem hu
      simp only [Nd.kids] at this
      simp only [Nd.w] at hx; omega
    obtain ⟨e1, e2, e3, e4, e5, e6, e7, e8, e9, e10, e11, e12, e13, a, c, bk, o, us, rfl, hmany, ha, hm, hr⟩ := nd_at h
    obtain ⟨f1, f2, f3, f4, f5, f6, f7, f8, f9, f10, f11, f12, f13, a', c', bk', o', us', rfl, hmany', ha', hm', hr'⟩ := nd_at h2
    refine Fun.intro low40 (by simp [n40]) ?_
    obtain ⟨E, hE⟩ : ∃ E, E = ndSm x y := ⟨_, rfl⟩
    rw [← hE]
    rw [ndSm_alike] at hE
    refine GOH ?_
    refine st_box (by rfl) (fun q => ?_)
    refine st_box (by rfl) (fun q2 => ?_)
    simp only [Value.cells]
    refine GOH ?_
    refine st_call hal (by rfl) (by exact SPx) (fun v Post hv => ?_)
    obtain ⟨rfl, rfl⟩ := hv
    simp only [CNx]
    cases g1 : alikeN x y with
    | false =>
      have hno : E = false := by rw [hE, g1]; rfl
      refine GOH ?_
      exact endQ_mk (Post := [A]) (.inr rfl) (.tmp (by rfl) .nil) ⟨by rw [hno]; rfl, rfl⟩ (by exact IMx)
    | true =>
      have hlen := alikeN_len g1
      refine GOH ?_
      by_cases hat : x.at_ = y.at_
      rotate_left
      · have hno : E = false := by rw [hE, decide_eq_false hat, Bool.and_false, Bool.false_and]
        rw [decide_eq_false hat]
        refine GOH ?_
        exact endQ_mk (Post := [A]) (.inr rfl) (.tmp (by rfl) .nil) ⟨by rw [hno]; rfl, rfl⟩ (by exact IMx)
      rw [decide_eq_true hat]
      have hyes : E = ndsSm x.kids y.kids := by rw [hE, g1, decide_eq_true hat]; rfl
      clear hE
      refine GOH ?_
      refine VC.loop (α := Nat) (Γf := fun j => [(2, ptr0 q), (3, ptr0 q2), (6, vi j)]) (Hf := fun _ => [A, cellsAt q 0 [cv x.kind, .string x.name, cv e1, vi e2, uv e3, .string e4, .slice e5 e6 e7, .slice e8 e9 e10, .slice e11 e12 e13, .slice a x.kids.length c, vi x.at_], cellsAt q2 0 [cv y.kind, .string y.name, cv f1, vi f2, uv f3, .string f4, .slice f5 f6 f7, .slice f8 f9 f10, .slice f11 f12 f13, .slice a' y.kids.length c', vi y.at_]])
        (I := fun j => j ≤ x.kids.length ∧ ∀ i u v, i < j → x.kids[i]? = some u → y.kids[i]? = some v → ndSm u v = true) (μ := fun j => x.kids.length - j) 0 ⟨Nat.zero_le _, fun i u v h => absurd h (by omega)⟩ (by exact SUx) (by exact IMx) ?_
      rintro j ⟨i1, i2⟩
      refine GOH ?_
      by_cases hj : j < x.kids.length
      rotate_left
      · rw [show decide ((j : Int) < (x.kids.length : Int)) = false from decide_eq_false (by omega)]
        have htt : E = true := by
          rw [hyes]
          exact (ndsSm_iff _ _).2 ⟨hlen, fun i u v e1 e2 => i2 i u v (by have := (List.getElem?_eq_some_iff.1 e1).1; omega) e1 e2⟩
        refine GOH ?_
        exact endQ_mk (Post := [A]) (.inr rfl) (.tmp (by rfl) .nil) ⟨by rw [htt]; rfl, rfl⟩ (by exact IMx)
      rw [show decide ((j : Int) < (x.kids.length : Int)) = true from decide_eq_true (by omega)]
      obtain rfl := ha (by omega)
      obtain rfl := ha' (by omega)
      obtain ⟨u, hu⟩ : ∃ u, x.kids[j]? = some u := ⟨_, List.getElem?_eq_getElem hj⟩
      obtain ⟨z, hz⟩ : ∃ z, y.kids[j]? = some z := ⟨_, List.getElem?_eq_getElem (hlen ▸ hj)⟩
      have hum := hm j hj
      have hzm := hm' j (by omega)
      have hul := (hr j u hu).len
      have hzl := (hr' j z hz).len
      have hcall := ih u z (hxk u (List.mem_of_getElem? hu)) _ _ (hr j u hu) (hr' j z hz)
      refine GOH ?_
      refine st_loadA (by rfl) (fun z hz => List.mem_append_left _ (hum z hz)) hul ?_
      refine GOH ?_
      refine st_loadA (by rfl) (fun z hz => List.mem_append_left _ (hzm z hz)) hzl ?_
      refine GOH ?_
      refine st_call hcall (by rfl) (by exact SPx) (fun v Post hv => ?_)
      obtain ⟨rfl, rfl⟩ := hv
      simp only [CNx]
      cases hxy : ndSm u z with
      | true =>
        refine GOH ?_
        refine ⟨j + 1, ⟨by omega, fun i p r hi e1 e2 => ?_⟩, by omega, by exact SUx, by exact IMx⟩
        by_cases hij : i = j
        · subst hij
          rw [hu] at e1; rw [hz] at e2
          cases e1; cases e2; exact hxy
        · exact i2 i p r (by omega) e1 e2
      | false =>
        have hno : E = false := by rw [hyes]; exact ndsSm_false hu hz hxy
        refine GOH ?_
        exact endQ_mk (Post := [A]) (.inr rfl) (.tmp (by rfl) .nil) ⟨by rw [hno]; rfl, rfl⟩ (by exact IMx)
def F6 : FIR := laid (X := ⟨128, [.cell1 4],
 (qS [qB 2 48 0,qB 3 3 1,qo 4 (.alloc 4 [(Value.bool false)])] [2,3,4]
 (qS [qx 16 10 [],qm 5 16] [2,3,4,5]
 (qS [qN 17 11 2,qx 18 22 [17],qm 6 18] [2,3,4,5,6]
 (.seq (qS [qm 19 5,qo 20 (.un .not (.tmp 19)),qm 21 20,qu 21 (qm 22 6),qr 23 21 22] [2,3,4,5,23]
 (qC 23 (qS [qm 24 5,qs 1 4 24] [4]
 .ret)
 .skip))
 (qS [qN 25 11 2,qx 26 31 [25],qo 7 (.alloc 23 [(Value.slice none 0 0)]),qs 1 7 26] [2,3,4,7]
 (qS [qN 27 11 2,qx 28 39 [27],qo 8 (.alloc 59 [Value.nilFunc]),qs 1 8 28] [3,4,7,8]
 (.seq (qS [ql 29 8,qo 30 (.eqnil false .func (.tmp 29))] [3,4,7,8,30]
 (qC 30 (qS [⟨none,none,.store 1 (.tmp 4) (.const (Value.bool false))⟩] [4]
 .ret)
 .skip))
 (qS [qo 9 (.alloc 3 [(Value.int IntKind.i64 0)]),⟨none,none,.store 1 (.tmp 9) (.const (Value.int IntKind.i64 0))⟩] [3,4,7,8,9]
 (.seq (qS [ql 31 8] [3,4,7,8,9,31]
 (.block 0 (.rangef (.tmp 31) [32] (.reg [qo 10 (.alloc 48 [(Value.int IntKind.u8 0), (Value.string ⟨#[]⟩), (Value.int IntKind.u8 0), (Value.int IntKind.i64 0), (Value.int IntKind.u64 0), (Value.string ⟨#[]⟩), (Value.slice none 0 0), (Value.slice none 0 0), (Value.slice none 0 0), (Value.slice none 0 0), (Value.int IntKind.i64 0)]),
  qs 11 10 32] [3,4,7,8,9,10])
 (.block 1 (.seq (qS [ql 33 9,ql 34 7,qL 35 34,qb 36 .geq 33 35] [3,4,7,8,9,10,36]
 (qC 36 (qS [⟨none,none,.store 1 (.tmp 4) (.const (Value.bool false))⟩] [4]
 .ret)
 .skip))
 (.seq (qD [qN 37 11 10,ql 38 7,ql 39 9,qi 40 11 38 39,qN 41 11 40,qx 42 40 [37,41],qm 11 42] [[0,1,2,3,4,5,6]] [3,4,7,8,9,11])
 (.seq (qS [qm 43 11,qo 44 (.un .not (.tmp 43)),qm 45 44,qu 45 (ql 46 9),qu 45 (qc 47 .gtr 46 200),qr 48 45 47] [3,4,7,8,9,11,48]
 (qC 48 (qS [qm 49 11,qs 1 4 49] [4]
 .ret)
 .skip))
 (.seq (qS [ql 50 9,ql 51 3,qb 52 .eql 50 51] [3,4,7,8,9,52]
 (qC 52 (.exit 0)
 .skip))
 (qS [qo 12 (.alloc 3 [(Value.int IntKind.i64 0)]),⟨none,none,.store 1 (.tmp 12) (.const (Value.int IntKind.i64 0))⟩] [4,7,8,9,12]
 (.seq (qS [ql 53 8] [4,7,9,12,53]
 (.block 2 (.rangef (.tmp 53) [54] (.reg [qo 13 (.alloc 48 [(Value.int IntKind.u8 0), (Value.string ⟨#[]⟩), (Value.int IntKind.u8 0), (Value.int IntKind.i64 0), (Value.int IntKind.u64 0), (Value.string ⟨#[]⟩), (Value.slice none 0 0), (Value.slice none 0 0), (Value.slice none 0 0), (Value.slice none 0 0), (Value.int IntKind.i64 0)]),
  qs 11 13 54] [4,7,9,12,13])
 (.block 3 (.seq (qS [ql 55 12,qc 56 .gtr 55 20,qm 57 56,qu 57 (ql 58 9),qu 57 (qc 59 .gtr 58 2),qr 60 57 59] [4,7,9,12,13,60]
 (qC 60 (.exit 2)
 .skip))
 (.seq (.seq (qD [ql 61 12,ql 62 7,qL 63 62,qb 64 .geq 61 63,qm 65 64,qu 65 (qf 66 0 13),qu 65 (ql 67 66),qu 65 (ql 68 7),qu 65 (ql 69 12),
  qu 65 (qi 70 11 68 69),qu 65 (qf 71 0 70),qu 65 (ql 72 71),qu 65 (qb 73 .neq 67 72),qr 74 65 73,qm 75 74,qu 75 (qf 76 10 13),qu 75 (ql 77 76),
  qu 75 (ql 78 7),qu 75 (ql 79 12),qu 75 (qi 80 11 78 79),qu 75 (qf 81 10 80),qu 75 (ql 82 81),qu 75 (qb 83 .neq 77 82),qr 84 75 83] [[0,1,2,3,4,5,6,7,8,9,10,11,12,13,14,15,16,17,18,19,20,21,22,23]] [4,12,84])
 (qC 84 (qS [⟨none,none,.store 1 (.tmp 4) (.const (Value.bool false))⟩] [4]
 .ret)
 .skip))
 (.reg [ql 85 12,qc 86 .add 85 1,qs 1 12 86] [])))))))
 (.reg [ql 87 9,qc 88 .add 87 1,qs 1 9 88] [])))))))))))
 (qS [qo 14 (.alloc 3 [(Value.int IntKind.i64 0)]),⟨none,none,.store 1 (.tmp 14) (.const (Value.int IntKind.i64 0))⟩] [3,4,7,8,9,14]
 (.seq (qS [ql 89 8] [3,4,7,9,14,89]
 (.block 4 (.rangef (.tmp 89) [90] (.reg [qo 15 (.alloc 48 [(Value.int IntKind.u8 0), (Value.string ⟨#[]⟩), (Value.int IntKind.u8 0), (Value.int IntKind.i64 0), (Value.int IntKind.u64 0), (Value.string ⟨#[]⟩), (Value.slice none 0 0), (Value.slice none 0 0), (Value.slice none 0 0), (Value.slice none 0 0), (Value.int IntKind.i64 0)]),
  qs 11 15 90] [4,7,14,15])
 (.block 5 (.seq (.seq (qD [ql 91 14,qc 92 .gtr 91 200,qm 93 92,qu 93 (ql 94 14),qu 93 (ql 95 7),qu 93 (qL 96 95),qu 93 (qb 97 .geq 94 96),qr 98 93 97,qm 99 98,
  qu 99 (qf 100 0 15),qu 99 (ql 101 100),qu 99 (ql 102 7),qu 99 (ql 103 14),qu 99 (qi 104 11 102 103),qu 99 (qf 105 0 104),qu 99 (ql 106 105),
  qu 99 (qb 107 .neq 101 106),qr 108 99 107] [[0,1,2,3,4,5,6,7,8,9,10,11,12,13,14,15,16,17]] [4,14,108])
 (qC 108 (qS [ql 109 14,qc 110 .gtr 109 200,qs 1 4 110] [4]
 .ret)
 .skip))
 (.reg [ql 111 14,qc 112 .add 111 1,qs 1 14 112] []))))))
 (qS [ql 113 14,ql 114 7,qL 115 114,qb 116 .eql 113 115,qm 117 116,qt 117 (ql 118 9),qt 117 (ql 119 7),qt 117 (qL 120 119),
  qt 117 (qb 121 .eql 118 120),qt 117 (qm 122 121),qu 122 (ql 123 9),qu 122 (ql 124 3),qu 122 (qb 125 .eql 123 124),qt 117 (qr 126 122 125),
  qa 127 117 126,qs 1 4 127] [4]
 .ret))))))))))))⟩)
theorem n6 : F6.n = 128 := rfl
theorem low6 : lowF Tryz.prog (kpO F6) (assoc [(14,[[0,1,2,3,4,5,6]]), (22,[[0,1,2,3,4,5,6,7,8,9,10,11,12,13,14,15,16,17,18,19,20,21,22,23]]), (29,[[0,1,2,3,4,5,6,7,8,9,10,11,12,13,14,15,16,17]])]) 6 = some F6 := by kernel_rfl
def F31 : FIR := laid (X := ⟨5, [.tmp 2],
 (qS [qB 1 48 0,qo 2 (.mv (.const (Value.slice none 0 0)))] [1]
 (qS [qN 3 11 1,qo 4 (.call 78 [(.const (Value.slice none 0 0)), (.tmp 3)]),qm 2 4] [2]
 .ret))⟩)
theorem n31 : F31.n = 5 := rfl
theorem low31 : lowF Tryz.prog (kpO F31) (assoc []) 31 = some F31 := by kernel_rfl
def F78 : FIR := laid (X := ⟨25, [.tmp 4],
 (qS [qB 3 48 1,qo 4 (.mv (.const (Value.slice none 0 0)))] [0,3]
 (qS [qm 6 0,qN 7 11 3,
  qo 8 (.bslice 48 1 [(Value.int IntKind.u8 0), (Value.string ⟨#[]⟩), (Value.int IntKind.u8 0), (Value.int IntKind.i64 0), (Value.int IntKind.u64 0), (Value.string ⟨#[]⟩), (Value.slice none 0 0), (Value.slice none 0 0), (Value.slice none 0 0), (Value.slice none 0 0), (Value.int IntKind.i64 0)] [(0, 11, (.tmp 7))]),
  qo 9 (.append 48 11 168 [(Value.int IntKind.u8 0), (Value.string ⟨#[]⟩), (Value.int IntKind.u8 0), (Value.int IntKind.i64 0), (Value.int IntKind.u64 0), (Value.string ⟨#[]⟩), (Value.slice none 0 0), (Value.slice none 0 0), (Value.slice none 0 0), (Value.slice none 0 0), (Value.int IntKind.i64 0)] (.tmp 6) (.tmp 8)),
  qm 0 9] [0,3]
 (.seq (qS [qk 5 0] [0,3,5]
 (.block 0 (.loop (.seq (qS [qm 10 5,qf 11 9 3,ql 12 11,qL 13 12,qb 14 .lss 10 13] [0,3,5,14]
 (qC 14 .skip
 (.exit 0)))
 (.seq (.block 1 (.reg [qm 17 0,qf 18 9 3,ql 19 18,qm 20 5,qi 21 11 19 20,qN 22 11 21,qx 23 78 [17,22],qm 0 23] [0,3,5]))
 (.reg [qm 15 5,qc 16 .add 15 1,qm 5 16] [0,3,5]))))))
 (qS [qm 24 0,qm 4 24] [4]
 .ret))))⟩)
theorem n78 : F78.n = 25 := rfl
theorem low78 : lowF Tryz.prog (kpO F78) (assoc []) 78 = some F78 := by kernel_rfl
abbrev rowsN (f : List NV) : List Value := f.flatMap fun p => p.2
theorem specN_len {A : List Atom} {x : Nd} {f : List NV} (h : SpecN A x f) : f.length = (allN x).length := by rw [← h.1, List.length_map]
theorem specNs_len {A : List Atom} {l : List Nd} {f : List NV} (h : SpecNs A l f) : f.length = (allsN l).length := by rw [← h.1, List.length_map]
theorem allsN_len (l : List Nd) : (allsN l).length ≤ Nd.ws l := by
  induction l with
  | nil => exact Nat.zero_le _
  | cons y r ih =>
    have := allN_len _ y (Nat.le_refl _)
    simp only [allsN, List.length_append, Nd.ws]; omega
theorem below_spec (A : List Atom) : ∀ (N : Nat) (x : Nd), x.w ≤ N → ∀ vs, NdRd A x vs → ∀ (lv : Value) (k : Nat) (xs sp : List Value), IsSl 11 lv k xs sp → k + x.w ≤ 274877906944 →
    Fun Tryz.prog 78 [lv, .agg vs.toArray] [A, slA lv xs sp] (fun v Post => ∃ f sp', SpecN A x f ∧ IsSl 11 v (k + f.length) (xs ++ rowsN f) sp' ∧ Post = [A, slA v (xs ++ rowsN f) sp']) := by
  intro N
  induction N with
  | zero => intro x hx; have := x.w_pos; omega
  | succ N ih =>
    intro x hx vs h lv k xs sp hsl hkw
    have h0 := h
    have hcons : ∀ {f : List NV}, SpecNs A x.kids f → SpecN A x ((x, vs) :: f) := fun hf => SpecN.cons h hf
    have hwx : x.w = 1 + x.lit.size + Nd.ws x.kids := by cases x; rfl
    obtain ⟨e1, e2, e3, e4, e5, e6, e7, e8, e9, e10, e11, e12, e13, a, cc, bk, o, us, hvs, hmany, ha, hm, hr⟩ := nd_at h0
    have hvl : vs.length = 11 := h.len
    obtain ⟨la, lc, rfl⟩ := hsl.form
    refine Fun.intro low78 (by simp [n78]) ?_
    rw [hvs]
    refine GOH ?_
    refine st_box (by rfl) (fun q => ?_)
    simp only [Value.cells]
    refine GOH ?_
    refine st_bslice (out := [cv x.kind, .string x.name, cv e1, vi e2, uv e3, .string e4, .slice e5 e6 e7, .slice e8 e9 e10, .slice e11 e12 e13, .slice a x.kids.length cc, vi x.at_]) (by rfl) (by rfl) (fun r => ?_)
    refine st_append (k := k) (m := 1) (xs := xs) (sp := sp) (ys := [cv x.kind, .string x.name, cv e1, vi e2, uv e3, .string e4, .slice e5 e6 e7, .slice e8 e9 e10, .slice e11 e12 e13, .slice a x.kids.length cc, vi x.at_]) (by rfl) (by rfl) hsl (by exact TKx) (by rfl) ?_ rfl (by rfl) (by rfl) (by decide) (by omega) (fun sv1 sp1 hsl1 => ?_)
    · exact ⟨rfl, fun a ha => by simp only [List.flatten_cons, List.mem_append]; exact .inl ha⟩
    rw [← hvs] at hsl1 ⊢
    refine GOH ?_
    refine VC.loop (α := Nat × Value × List NV × List Value) (Γf := fun s => [(0, s.2.1), (3, ptr0 q), (5, vi s.1)]) (Hf := fun s => [A, slA s.2.1 (xs ++ rowsN ((x, vs) :: s.2.2.1)) s.2.2.2, cellsAt q 0 vs])
      (I := fun s => s.1 ≤ x.kids.length ∧ SpecNs A (x.kids.take s.1) s.2.2.1 ∧ IsSl 11 s.2.1 (k + 1 + s.2.2.1.length) (xs ++ rowsN ((x, vs) :: s.2.2.1)) s.2.2.2) (μ := fun s => x.kids.length - s.1) (0, sv1, [], sp1) ⟨Nat.zero_le _, .nil, by simpa using hsl1⟩ (by exact SUx) ?_ ?_
    · have e : rowsN ((x, vs) :: []) = vs := by simp
      simp only [e]
      exact IMx
    rintro ⟨j, sv, f, sp2⟩ ⟨i1, i2, i3⟩
    simp only at i1 i2 i3
    dsimp only
    have hfl := specNs_len i2
    have hle := allsN_len (x.kids.take j)
    rw [hvs]
    refine GOH ?_
    by_cases hj : j < x.kids.length
    rotate_left
    · rw [show decide ((j : Int) < (x.kids.length : Int)) = false from decide_eq_false (by omega)]
      rw [List.take_of_length_le (by omega)] at i2
      rw [← hvs]
      refine GOH ?_
      refine endQ_mk (Post := [A, slA sv (xs ++ rowsN ((x, vs) :: f)) sp2]) (.inr rfl) (.tmp (by rfl) .nil) ⟨_, sp2, hcons i2, ?_, rfl⟩ (by exact IMx)
      rw [List.length_cons, show k + (f.length + 1) = k + 1 + f.length by omega]
      exact i3
    obtain rfl := ha (by omega)
    rw [show decide ((j : Int) < (x.kids.length : Int)) = true from decide_eq_true (by omega)]
    obtain ⟨z, hz⟩ : ∃ z, x.kids[j]? = some z := ⟨_, List.getElem?_eq_getElem hj⟩
    have hzr := hr j z hz
    have hzm := hm j hj
    have hzl := hzr.len
    have hzw : z.w ≤ Nd.ws x.kids := Nd.ws_mem (List.mem_of_getElem? hz)
    have htk : x.kids.take (j + 1) = x.kids.take j ++ [z] := by rw [List.take_add_one, hz]; rfl
    have hpart : Nd.ws (x.kids.take j) + z.w ≤ Nd.ws x.kids := by
      have e : x.kids = x.kids.take j ++ (z :: x.kids.drop (j + 1)) := by
        rw [show x.kids.take j ++ (z :: x.kids.drop (j + 1)) = (x.kids.take j ++ [z]) ++ x.kids.drop (j + 1) by simp, ← htk, List.take_append_drop]
      have happ : ∀ l r : List Nd, Nd.ws (l ++ r) = Nd.ws l + Nd.ws r := by
        intro l
        induction l with
        | nil => intro r; simp [Nd.ws]
        | cons y l ih => intro r; simp only [List.cons_append, Nd.ws, ih]; omega
      have := congrArg Nd.ws e
      rw [happ] at this
      simp only [Nd.ws] at this
      omega
    have hcall := ih z (by omega) _ hzr sv (k + 1 + f.length) _ sp2 i3 (by omega)
    refine GOH ?_
    refine st_loadA (by rfl) (fun u hu => List.mem_append_left _ (hzm u hu)) hzl ?_
    refine GOH ?_
    refine st_call hcall (by rfl) (by rw [← hvs]; exact SPx) (fun v Post hv => ?_)
    obtain ⟨fz, sp3, hfz, hsl3, rfl⟩ := hv
    simp only [CNx]
    rw [← hvs]
    refine GOH ?_
    refine ⟨(j + 1, v, f ++ fz, sp3), ⟨by simp only; omega, ?_, ?_⟩, by simp only; omega, by exact SUx, ?_⟩
    · simp only [htk]
      exact i2.append (SpecNs.one hfz)
    · simp only [List.length_append]
      have e : xs ++ rowsN ((x, vs) :: (f ++ fz)) = xs ++ rowsN ((x, vs) :: f) ++ rowsN fz := by simp
      rw [e, show k + 1 + (f.length + fz.length) = k + 1 + f.length + fz.length by omega]
      exact hsl3
    · have e : xs ++ rowsN ((x, vs) :: (f ++ fz)) = xs ++ rowsN ((x, vs) :: f) ++ rowsN fz := by simp
      simp only [e]
      exact IMx
theorem Nodes_spec (A : List Atom) (x : Nd) (vs : List Value) (h : NdRd A x vs) (hw : x.w ≤ 274877906944) :
    Fun Tryz.prog 31 [.agg vs.toArray] [A] (fun v Post => ∃ f sp, SpecN A x f ∧ IsSl 11 v f.length (rowsN f) sp ∧ Post = [A, slA v (rowsN f) sp]) := by
  have hb := below_spec A _ x (Nat.le_refl _) vs h (.slice none 0 0) 0 [] [] .nil (by omega)
  obtain ⟨e1, e2, e3, e4, e5, e6, e7, e8, e9, e10, e11, e12, e13, e14, e15, e16, e17, rfl, _, _⟩ := nd_open2 h
  refine Fun.intro low31 (by simp [n31]) ?_
  refine GOH ?_
  refine st_box (by rfl) (fun q => ?_)
  simp only [Value.cells]
  refine GOH ?_
  refine VO.imp (H' := [A, slA (.slice none 0 0) [] [], cellsAt q 0 [cv x.kind, .string x.name, cv e1, vi e2, uv e3, .string e4, .slice e5 e6 e7, .slice e8 e9 e10, .slice e11 e12 e13, .slice e14 e15 e16, vi e17]]) (Imp.perm (by simp [slA]; exact List.perm_append_comm)) ?_
  refine st_call hb (by rfl) (by exact SPx) (fun v Post hv => ?_)
  obtain ⟨f, sp, h1, h2, rfl⟩ := hv
  rw [List.nil_append, Nat.zero_add] at *
  simp only [CNx]
  refine GOH ?_
  exact endQ_mk (Post := [A, slA v (rowsN f) sp]) (.inr rfl) (.tmp (by rfl) .nil) ⟨f, sp, h1, h2, rfl⟩ (by exact IMx)
theorem all_iter2 (A : List Atom) (x : Nd) (vs : List Value) (h : NdRd A x vs) (q : Nat) :
    IterA Tryz.prog (.func (.func 82) #[] #[ptr0 q]) encN (AccT (A ++ cellsAt q 0 vs)) [] [] (SpecN A x) := by
  intro y J SP hcy hJA2 hy B hB
  have hJA : ∀ c B, J c B → AccT A B := fun c B hb => by
    obtain ⟨X, hX⟩ := hJA2 c B hb
    exact ⟨cellsAt q 0 vs ++ X, by rw [← List.append_assoc]; exact hX⟩
  have hmem : ∀ z ∈ cellsAt q 0 vs, z ∈ B := fun z hz => (hJA2 _ _ hB).mem z (List.mem_append_right _ hz)
  have hdown := fun p2 p3 => down_spec A (SpecN A x) J SP y hJA hy p2 p3 _ x (Nat.le_refl _) vs h [] (fun fx hfx => ⟨[], by simpa using hfx⟩) B hB
  obtain ⟨g1, g2, g3, g4, g5, g6, g7, g8, g9, g10, g11, g12, g13, g14, g15, g16, g17, rfl, hsz, hkk⟩ := nd_open2 h
  refine FunV.of_fun (first := #[]) (cap := #[ptr0 q]) ?_
  show Fun Tryz.prog 82 [y, ptr0 q] _ _
  refine Fun.intro low82 (by simp [n82]) ?_
  simp only [CNx]
  refine GOH ?_
  refine st_box (by rfl) (fun p2 => ?_)
  rw [hcy]
  refine GOH ?_
  refine st_alloc (fun p3 => ?_)
  refine GOH ?_
  refine st_loadA (by rfl) (fun z hz => by simp only [List.flatten_cons, List.mem_append]; exact .inr (.inr (.inl (hmem z hz)))) rfl ?_
  refine VO.imp (H' := [cellsAt p2 0 [y], cellsAt p3 0 [.func (.func 83) #[] #[ptr0 p2, ptr0 p3]], B]) ?_ ?_
  · show Imp [cellsAt p3 0 [.func (.func 83) #[] #[ptr0 p2, ptr0 p3]], cellsAt p2 0 [y], B] _
    exact IMx
  refine st_callV (by rfl) (hdown p2 p3) (by rfl) (by exact SPx) (fun v Post hv => ?_)
  rcases hv with ⟨rfl, fx, B1, hfx, hB1, rfl⟩ | ⟨rfl, c', B1, hc', hB1, rfl⟩
  · simp only [CNx]
    refine GOH ?_
    exact endQ_mk (Post := [B1]) (.inl rfl) .nil ⟨rfl, .inl ⟨fx, B1, hfx, by simpa using hB1, rfl⟩⟩ (by exact IMx)
  · simp only [CNx]
    refine GOH ?_
    exact endQ_mk (Post := [B1]) (.inl rfl) .nil ⟨rfl, .inr ⟨c', B1, hc', hB1, rfl⟩⟩ (by exact IMx)
end Go.Proofs.YtmnmandpdadedaaGreatDoor

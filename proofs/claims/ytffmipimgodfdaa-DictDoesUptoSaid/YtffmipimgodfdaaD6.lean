/-
  Contracts: the closures, DeleteFunc, forget, changed, Flush.
-/
import Derived.Test.YtffmipimgodfdaaDN
set_option linter.unusedSimpArgs false
set_option linter.unusedVariables false
namespace Go.Proofs.Ytffmipimgodfdaa
open Go Go.V
set_option maxHeartbeats 800000
set_option linter.unusedSimpArgs false
set_option linter.unusedVariables false
/-- A function value that tells of selectors, with the memory it needs. -/
structure PredIs (fv : Value) (g : ByteArray → Bool) (W : List Atom) : Prop where
  is : ∃ f first cap, fv = .func (.func f) first cap ∧ ∀ s, Fun Try.prog f (first.toList ++ [.string s] ++ cap.toList) [W] (fun v Post => v = .bool (g s) ∧ Post = [W])

theorem all_spec (s : ByteArray) : Fun Try.prog 49 [.string s] [[]] (fun v Post => v = .bool true ∧ Post = [[]]) := by
  refine Fun.intro low49 (by simp [F49]) ?_
  refine GO ?_
  refine ⟨.inr rfl, _, _, .tmp (by rfl) .nil, by (first | with_reducible exact Imp.refl | with_reducible exact Imp.left | (focus ((try simp only [Core_eq]); (repeat (first | exact Imp.nil | (apply Imp.cons; (focus ((repeat (first | with_reducible exact Tk.here | apply Tk.there)); done))))); done))), ?_, rfl⟩
  simp [tup]

theorem same_spec (s u : ByteArray) (q : Nat) : Fun Try.prog 60 [.string s, ptr0 q] [cellsAt q 0 [.string u]] (fun v Post => v = .bool (decide (s = u)) ∧ Post = [cellsAt q 0 [.string u]]) := by
  refine Fun.intro low60 (by simp [F60]) ?_
  refine GO ?_
  refine ⟨.inr rfl, _, _, .tmp (by rfl) .nil, by (first | with_reducible exact Imp.refl | with_reducible exact Imp.left | (focus ((try simp only [Core_eq]); (repeat (first | exact Imp.nil | (apply Imp.cons; (focus ((repeat (first | with_reducible exact Tk.here | apply Tk.there)); done))))); done))), ?_, rfl⟩
  simp [tup]

/-- The closure that asks of a site. -/
theorem ofSite_spec (k : Int) (x : SiteR) (q : Nat) (fv : Value) (g : ByteArray → Bool) (W A : List Atom) (hp : PredIs fv g W) (hA : ∀ a ∈ cellsAt x.b 0 (sCells x), a ∈ A) :
    Fun Try.prog 62 [vi k, ptr0 x.b, ptr0 q] [cellsAt q 0 [fv], A, W] (fun v Post => v = .bool (g x.sel) ∧ Post = [cellsAt q 0 [fv], A, W]) := by
  obtain ⟨f, first, cap, rfl, hf⟩ := hp.is
  refine Fun.intro low62 (by simp [F62]) ?_
  refine GO ?_
  refine st_load1 (v := .string x.sel) (by rfl) (.there (.among (hA _ (mem_cellsAt.2 ⟨0, _, by rfl, by rfl⟩)))) ?_
  refine GO ?_
  refine VO.callv (by rfl) (hf x.sel) (by rfl) (by (focus ((repeat (first | exact Spl.nil | (apply Spl.cons; (focus ((repeat (first | with_reducible exact Tk.here | apply Tk.there)); done))))); done))) (fun v Post hv => ?_)
  obtain ⟨rfl, rfl⟩ := hv
  simp only [List.cons_append, List.nil_append]
  refine GO ?_
  refine ⟨.inr rfl, _, _, .tmp (by rfl) .nil, by (first | with_reducible exact Imp.refl | with_reducible exact Imp.left | (focus ((try simp only [Core_eq]); (repeat (first | exact Imp.nil | (apply Imp.cons; (focus ((repeat (first | with_reducible exact Tk.here | apply Tk.there)); done))))); done))), ?_, rfl⟩
  simp [tup]

abbrev sV (s : SiteR) : Value := ptr0 s.b

theorem delFunc_spec (m : Nat) (es : Array MapEntry) (c : Nat) (l : List (Int × SiteR)) (f : FuncId) (first cap : Array Value) (G : Int × SiteR → Bool) (I : SH) (hl : MapIs kInt sV es c l) (hk : (l.map (·.1)).Nodup)
    (hG : ∀ p ∈ l, Fun Try.prog f (first.toList ++ [vi p.1, sV p.2] ++ cap.toList) I (fun v Post => v = .bool (G p) ∧ Post = I)) :
    Fun Try.prog 61 [.map (some m), .func (.func f) first cap] ([.obj m (.map es c)] :: I) (fun v Post => ∃ es', MapIs kInt sV es' c (l.filter fun p => !G p) ∧ v = .tuple #[] ∧ Post = [.obj m (.map es' c)] :: I) := by
  refine Fun.intro low61 (by simp [F61]) ?_
  refine GO ?_
  refine st_rangeM (by rfl) .here (fun q => ?_)
  refine GO ?_
  refine VC.loop (α := Array Nat × Array MapEntry × List Int) (Γf := fun _ => [(0, .map (some m)), (1, .func (.func f) first cap), (7, ptr0 q)])
    (Hf := fun y => [.obj q (.mapIter (some m) c y.1 c)] :: [.obj m (.map y.2.1 c)] :: I)
    (I := fun y => MapIs kInt sV y.2.1 c (l.filter fun p => !(G p && decide (p.1 ∈ y.2.2))) ∧ (∀ e ∈ y.2.1.toList, e ∈ es.toList) ∧
      ∀ e ∈ y.2.1.toList, e.born ∈ y.1.toList → ∀ p ∈ l, p.1 ∉ y.2.2 → e.key = vi p.1 → G p = false)
    (μ := fun y => (es.toList.filter fun e => decide (e.born ∉ y.1.toList)).length) (#[], es, []) ⟨?_, fun _ h => h, by simp⟩ (by (repeat (first | exact Sub.nil | (apply Sub.cons; rfl)))) ?_ ?_
  · simpa [List.filter_eq_self.2] using hl
  · exact Imp.refl _
  · rintro ⟨seen, es1, D⟩ ⟨i1, i2, i3⟩
    simp only at i1 i2 i3
    refine GO ?_
    refine st_next (b := m) (es := es1) (by rfl) (by (focus ((repeat (first | with_reducible exact Tk.here | apply Tk.there)); done))) .here i1.clock (fun hover => ?_) (fun e he hne => ?_)
    · refine GO ?_
      refine endQ_mk (.inl rfl) .nil ⟨es1, ?_, rfl, rfl⟩ ?_
      · refine (show l.filter (fun p => !G p) = l.filter (fun p => !(G p && decide (p.1 ∈ D))) from ?_) ▸ i1
        refine List.filter_congr (fun p hp => ?_)
        cases hGp : G p with
        | false => simp
        | true =>
          by_cases hD : p.1 ∈ D
          · simp [hD]
          · obtain ⟨e, he, e1, _⟩ := i1.has (p := p) (List.mem_filter.2 ⟨hp, by simp [hD]⟩)
            have := i3 e he (hover e he) p hp hD e1
            rw [this] at hGp; cases hGp
      · exact Imp.tail1
    · obtain ⟨p, hp, e1, e2⟩ := i1.entry he
      obtain ⟨hpl, hpD⟩ := List.mem_filter.1 hp
      refine GO ?_
      refine st_entry (b := m) (es := es1) (e := e) (by rfl) .here (.there .here) i1.born he ?_
      rw [e1, e2]
      refine GO ?_
      refine VO.callv (by rfl) (hG p hpl) (by rfl) Spl.tail2 (fun v Post hv => ?_)
      obtain ⟨rfl, rfl⟩ := hv
      refine VO.imp Imp.tail2 ?_
      refine GO ?_
      have hless : (es.toList.filter fun e' => decide (e'.born ∉ (seen.push e.born).toList)).length < (es.toList.filter fun e' => decide (e'.born ∉ seen.toList)).length := by
        refine filter_less (fun x _ h => ?_) (i2 e he) (by simpa using hne) (by simp)
        simp at h ⊢
        exact h.1
      have hone : ∀ e' ∈ es1.toList, e'.born ∈ (seen.push e.born).toList → e'.born ∈ seen.toList ∨ e' = e := by
        intro e' he' hb
        simp only [Array.toList_push, List.mem_append, List.mem_singleton] at hb
        rcases hb with hb | hb
        · exact .inl hb
        · exact .inr (born_one i1.born he' he hb)
      cases hGp : G p with
      | true =>
        refine GO ?_
        refine st_delete (E := kInt) (V := sV) (k := p.1) (by rfl) (by rfl) (by rfl) (by (focus ((repeat (first | with_reducible exact Tk.here | apply Tk.there)); done))) i1 (fun es2 hm2 hsub => ?_)
        refine GO ?_
        refine ⟨(seen.push e.born, es2, p.1 :: D), ⟨?_, fun e' he' => i2 e' (hsub e' he'), ?_⟩, hless, by (repeat (first | exact Sub.nil | (apply Sub.cons; rfl))), ?_⟩
        · rw [mdel_filter ((List.filter_sublist.map _).nodup hk), List.filter_filter] at hm2
          refine (show (l.filter fun p' => !(G p' && decide (p'.1 ∈ p.1 :: D))) = _ from ?_) ▸ hm2
          refine List.filter_congr (fun p' hp' => ?_)
          by_cases hkk : p'.1 = p.1
          · have : p' = p := by
              have h1 := mem_mget hk hp'
              have h2 := mem_mget hk hpl
              rw [hkk, h2] at h1
              exact Prod.ext hkk (by simpa using h1.symm)
            simp [this, hGp]
          · simp [hkk]
        · intro e' he' hb p' hp' hn hkey
          simp only [List.mem_cons, not_or] at hn
          rcases hone e' (hsub e' he') hb with h | h
          · exact i3 e' (hsub e' he') h p' hp' hn.2 hkey
          · subst h
            exact absurd (KEnc.inj (E := kInt) (hkey.symm.trans e1)) hn.1
        · refine Imp.perm ?_
          simp only [List.flatten_cons]
          exact perm_lead _ _ _
      | false =>
        refine GO ?_
        refine ⟨(seen.push e.born, es1, D), ⟨i1, i2, ?_⟩, hless, by (repeat (first | exact Sub.nil | (apply Sub.cons; rfl))), Imp.refl _⟩
        intro e' he' hb p' hp' hn hkey
        rcases hone e' he' hb with h | h
        · exact i3 e' he' h p' hp' hn hkey
        · subst h
          have hkk := KEnc.inj (E := kInt) (hkey.symm.trans e1)
          have : p' = p := by
            have h1 := mem_mget hk hp'
            have h2 := mem_mget hk hpl
            rw [hkk, h2] at h1
            exact Prod.ext hkk (by simpa using h1.symm)
          rw [this]; exact hGp

theorem forget_spec (t : Nat) (R : TRep) (h : WF R) (fv : Value) (g : ByteArray → Bool) (W : List Atom) (hp : PredIs fv g W) :
    Fun Try.prog 48 [ptr0 t, fv] (Full t R ++ [W]) (fun v Post => ∃ es, WF (forgetR R g es) ∧ v = .tuple #[] ∧ Post = Full t (forgetR R g es)) := by
  obtain ⟨f, first, cap, rfl, hf⟩ := hp.is
  have hgl := h.glob
  refine Fun.intro low48 (by simp [F48]) ?_
  rw [show Full t R = Core t R ++ SitesI t R from rfl, Core_eq t R]
  simp only [SitesI, List.cons_append, List.nil_append]
  refine VC.seq_reg ?_
  refine st_box (by rfl) (fun q => ?_)
  simp only [Value.cells]
  refine GO ?_
  refine VC.loop (α := Nat) (Γf := fun k => [(0, ptr0 t), (3, ptr0 q), (5, vi k)])
    (Hf := fun k => [cellsAt q 0 [.func (.func f) first cap], cellsAt t 2 ((fgtTo g R.glob k).flatMap kEnc), cellsAt t 0 [R.sv, R.dv], cellsAt t 195 [vi R.tel.asked, vi R.tel.inl, vi R.tel.glob, vi R.tel.walked, vi R.tel.steps], slA R.sv (R.sup.map vi) R.ssp, slA R.dv (R.dics.map fun d => .map (some d.b)) [], R.dics.flatMap dAtoms, cellsAt t 194 [.map (some R.sm)], [.obj R.sm (.map R.ses R.sc)], R.sites.flatMap sAtoms, W])
    (I := fun k => k ≤ 64) (μ := fun k => 64 - k) 0 (by omega) (by (repeat (first | exact Sub.nil | (apply Sub.cons; rfl)))) (by simp [fgtTo_zero]; (first | with_reducible exact Imp.refl | with_reducible exact Imp.left | (focus ((try simp only [Core_eq]); (repeat (first | exact Imp.nil | (apply Imp.cons; (focus ((repeat (first | with_reducible exact Tk.here | apply Tk.there)); done))))); done)))) (fun k hk => ?_)
  refine GO ?_
  have hlen := fgtTo_len g R.glob k
  (first | (apply VC.seq_cond; rfl) | (apply VC.cond; rfl))
  · intro hlt
    have hlt : k < 64 := by simp at hlt; omega
    have hat := fgtTo_at (g := g) (l := R.glob) (k := k) (by omega)
    refine GO ?_
    refine st_load1 (v := .string R.glob[k].s) (by rfl) (.there ?_) ?_
    · exact Has.flat (f := kEnc) (n := 3) (j := 1) kEnc_len hat (by omega) (by rfl)
    refine VO.callv (by rfl) (hf R.glob[k].s) (by rfl) (by (focus ((repeat (first | exact Spl.nil | (apply Spl.cons; (focus ((repeat (first | with_reducible exact Tk.here | apply Tk.there)); done))))); done))) (fun v Post hv => ?_)
    obtain ⟨rfl, rfl⟩ := hv
    simp only [List.cons_append, List.nil_append]
    refine GO ?_
    cases hg : g R.glob[k].s with
    | true =>
      refine GO ?_
      refine st_store' (us := kEnc noKnown) (by rfl) (by rfl) (by rfl) (by rfl) (by rfl) (.there (.there (Upd.flat (f := kEnc) (l := fgtTo g R.glob k) (i := k) (y := noKnown) (n := 3) kEnc_len rfl (by omega)))) ?_
      have hst := fgtTo_step (g := g) (l := R.glob) (k := k) (by omega)
      simp only [fgt, hg, if_true] at hst
      rw [← hst]
      refine GO ?_
      refine ⟨k + 1, by omega, by omega, by (repeat (first | exact Sub.nil | (apply Sub.cons; rfl))), by (first | with_reducible exact Imp.refl | with_reducible exact Imp.left | (focus ((try simp only [Core_eq]); (repeat (first | exact Imp.nil | (apply Imp.cons; (focus ((repeat (first | with_reducible exact Tk.here | apply Tk.there)); done))))); done)))⟩
    | false =>
      refine GO ?_
      have hst := fgtTo_keep (g := g) (l := R.glob) (k := k) (by omega) hg
      rw [← hst]
      refine ⟨k + 1, by omega, by omega, by (repeat (first | exact Sub.nil | (apply Sub.cons; rfl))), by (first | with_reducible exact Imp.refl | with_reducible exact Imp.left | (focus ((try simp only [Core_eq]); (repeat (first | exact Imp.nil | (apply Imp.cons; (focus ((repeat (first | with_reducible exact Tk.here | apply Tk.there)); done))))); done)))⟩
  · intro hge
    obtain rfl : k = 64 := by simp at hge; omega
    rw [fgtTo_all hgl.symm]
    refine GO ?_
    have hd := delFunc_spec R.sm R.ses R.sc R.sites 62 #[] #[ptr0 q] (fun p => g p.2.sel) [cellsAt q 0 [.func (.func f) first cap], R.sites.flatMap sAtoms, W] h.sites h.skeys (fun p hp' => ofSite_spec p.1 p.2 q _ g W _ hp (fun a ha => List.mem_flatMap.2 ⟨p, hp', ha⟩))
    refine st_call hd (by rfl) (by (focus ((repeat (first | exact Spl.nil | (apply Spl.cons; (focus ((repeat (first | with_reducible exact Tk.here | apply Tk.there)); done))))); done))) (fun v Post hv => ?_)
    obtain ⟨es', hm, rfl, rfl⟩ := hv
    simp only [List.cons_append, List.nil_append]
    refine GO ?_
    refine endQ_mk (.inl rfl) .nil ⟨es', h.forget hm, rfl, rfl⟩ ?_
    simp only [Full, SitesI, Core_eq, forgetR, List.cons_append, List.nil_append]
    (repeat (apply Imp.cons; (focus ((repeat (first | with_reducible exact Tk.here | apply Tk.there)); done))))
    exact Imp.part (by (focus ((repeat (first | with_reducible exact Tk.here | apply Tk.there)); done))) (perm_filter sAtoms R.sites _)
end Go.Proofs.Ytffmipimgodfdaa
namespace Go.Proofs.Ytffmipimgodfdaa
open Go Go.V
set_option maxHeartbeats 800000
set_option linter.unusedSimpArgs false
set_option linter.unusedVariables false
theorem changed_spec (t : Nat) (R : TRep) (s : ByteArray) (h : WF R) :
    Fun Try.prog 47 [ptr0 t, .string s] (Full t R) (fun v Post => ∃ es, WF (forgetR R (fun u => decide (u = s)) es) ∧ v = vi 0 ∧ Post = Full t (forgetR R (fun u => decide (u = s)) es)) := by
  refine Fun.intro low47 (by simp [F47]) ?_
  refine VC.seq_reg ?_
  refine st_box (by rfl) (fun q => ?_)
  simp only [Value.cells]
  refine GO ?_
  have hp : PredIs (.func (.func 60) #[] #[ptr0 q]) (fun u => decide (u = s)) (cellsAt q 0 [.string s]) := ⟨60, #[], #[ptr0 q], rfl, fun u => same_spec u s q⟩
  refine st_call (forget_spec t R h _ _ _ hp) (by rfl) ?_ (fun v Post hv => ?_) (R := [])
  · simp [V.Spl]
    exact List.perm_append_comm
  obtain ⟨es, hw, rfl, rfl⟩ := hv
  refine GO ?_
  refine endQ_mk (.inr rfl) (.tmp (by rfl) .nil) ⟨es, hw, rfl, rfl⟩ ?_
  rw [List.append_nil]
  exact Imp.refl _

theorem flush_spec (t : Nat) (R : TRep) (h : WF R) :
    Fun Try.prog 24 [ptr0 t] (Full t R) (fun v Post => ∃ es, WF (forgetR R (fun _ => true) es) ∧ v = .tuple #[] ∧ Post = Full t (forgetR R (fun _ => true) es)) := by
  refine Fun.intro low24 (by simp [F24]) ?_
  refine GO ?_
  have hp : PredIs (.func (.func 49) #[] #[]) (fun _ => true) [] := ⟨49, #[], #[], rfl, fun u => all_spec u⟩
  refine st_call (forget_spec t R h _ _ _ hp) (by rfl) ?_ (fun v Post hv => ?_) (R := [])
  · simp [V.Spl]
  obtain ⟨es, hw, rfl, rfl⟩ := hv
  refine GO ?_
  refine endQ_mk (.inl rfl) .nil ⟨es, hw, rfl, rfl⟩ ?_
  rw [List.append_nil]
  exact Imp.refl _

/-- What an installing answers, and what there is behind it. -/
def InstP (t : Nat) (R : TRep) (c : Int) (s : ByteArray) (m : Int) (v : Value) (Post : SH) : Prop :=
  if 0 ≤ c ∧ c < R.sup.length then
    if s.size < 1 ∨ 640 < s.size then v = vi 221 ∧ Post = Full t R
    else if mget s (R.dic c) = none ∧ 4096 ≤ (R.dic c).length then v = vi 222 ∧ Post = Full t R
    else ∃ d es, d.m = mset s m (R.dic c) ∧ WF (layR R c d) ∧ WF (forgetR (layR R c d) (fun u => decide (u = s)) es) ∧ v = vi 0 ∧ Post = Full t (forgetR (layR R c d) (fun u => decide (u = s)) es)
  else v = vi 220 ∧ Post = Full t R

def RemP (t : Nat) (R : TRep) (c : Int) (s : ByteArray) (v : Value) (Post : SH) : Prop :=
  if 0 ≤ c ∧ c < R.sup.length then
    if mget s (R.dic c) = none then v = vi 223 ∧ Post = Full t R
    else ∃ d es, d.m = mdel s (R.dic c) ∧ WF (layR R c d) ∧ WF (forgetR (layR R c d) (fun u => decide (u = s)) es) ∧ v = vi 0 ∧ Post = Full t (forgetR (layR R c d) (fun u => decide (u = s)) es)
  else v = vi 220 ∧ Post = Full t R
theorem install_spec (t : Nat) (R : TRep) (c : Int) (s : ByteArray) (m : Int) (h : WF R) (hs : s.size ≤ 1048576) :
    Fun Try.prog 21 [ptr0 t, vi c, .string s, vi m] (Full t R) (InstP t R c s m) := by
  obtain ⟨sa, sc, hsv⟩ := h.sup.form
  refine Fun.intro low21 (by simp [F21]) ?_
  rw [show Full t R = Core t R ++ SitesI t R from rfl, Core_eq t R]
  simp only [SitesI, List.cons_append, List.nil_append]
  refine GO ?_
  refine st_call (is_spec t c sa R.sup.length sc R.dv) (by rfl) (by rw [← hsv]; (focus ((repeat (first | exact Spl.nil | (apply Spl.cons; (focus ((repeat (first | with_reducible exact Tk.here | apply Tk.there)); done))))); done))) (fun v Post hv => ?_)
  obtain ⟨rfl, rfl⟩ := hv
  rw [isc]
  simp only [List.cons_append, List.nil_append, ← hsv]
  by_cases hc : 0 ≤ c ∧ c < R.sup.length
  · simp only [hc, and_self, decide_true]
    refine GO ?_
    by_cases h1 : s.size < 1
    · simp only [show ((s.size : Int) < 1) from by omega, decide_true]
      refine GO ?_
      refine endQ_mk (Post := Full t R) (.inr rfl) (.tmp (by rfl) .nil) ?_ ?_
      rotate_left
      · simp only [Full, SitesI, Core_eq, List.cons_append, List.nil_append]
        (first | with_reducible exact Imp.refl | with_reducible exact Imp.left | (focus ((try simp only [Core_eq]); (repeat (first | exact Imp.nil | (apply Imp.cons; (focus ((repeat (first | with_reducible exact Tk.here | apply Tk.there)); done))))); done)))
      simp [InstP, hc, h1, tup]
    · simp only [show ¬ ((s.size : Int) < 1) from by omega, decide_false]
      refine GO ?_
      by_cases h2 : 640 < s.size
      · simp only [show ((640 : Int) < s.size) from by omega, decide_true]
        refine GO ?_
        refine endQ_mk (Post := Full t R) (.inr rfl) (.tmp (by rfl) .nil) ?_ ?_
        rotate_left
        · simp only [Full, SitesI, Core_eq, List.cons_append, List.nil_append]
          (first | with_reducible exact Imp.refl | with_reducible exact Imp.left | (focus ((try simp only [Core_eq]); (repeat (first | exact Imp.nil | (apply Imp.cons; (focus ((repeat (first | with_reducible exact Tk.here | apply Tk.there)); done))))); done)))
        simp [InstP, hc, h1, h2, tup]
      · simp only [show ¬ ((640 : Int) < s.size) from by omega, decide_false]
        obtain ⟨db, dof, dc, hdv, _, _⟩ := h.dv.some (by omega)
        obtain ⟨d, hd, hdm, hmi⟩ := dic_at h hc.1 hc.2
        simp only [hdv, slA_some]
        refine GO ?_
        refine st_load1 (by rfl) (.there (.there (.there (.there (Has.row (v := .map (some d.b)) (by simp [hd])))))) ?_
        refine GO ?_
        refine st_lookup (E := kStr) (V := vi) (k := s) (by rfl) (by rfl) (by rfl) (.there (.there (.there (.there (.there (.among (mem_dAtoms hd))))))) hmi ?_
        have hlt : c.toNat < R.dics.length := (List.getElem?_eq_some_iff.1 hd).1
        have hkk := h.keys d (List.mem_of_getElem? hd)
        cases hg : mget s d.m with
        | some m0 =>
          have hfull : ¬ (mget s d.m = none ∧ 4096 ≤ d.m.length) := by simp [hg]
          simp only [lookV, Option.map_some]
          refine GO ?_
          refine VO.split (B := [.obj d.b (.map d.es d.c)]) (by (focus ((repeat (first | with_reducible exact Tk.here | apply Tk.there)); done))) (perm_flatMap dAtoms hd) ?_
          refine st_mapupd (E := kStr) (V := vi) (k := s) (v := m) (by rfl) (by rfl) (by rfl) (by rfl) (by (focus ((repeat (first | with_reducible exact Tk.here | apply Tk.there)); done))) hmi (fun es' c' hm' => ?_)
          refine GO ?_
          obtain ⟨d', hd'⟩ : ∃ d' : DicR, d' = ⟨d.b, es', c', mset s m d.m⟩ := ⟨_, rfl⟩
          have hw : WF (layR R c d') := by subst hd'; exact h.lay hd rfl hm' (mset_nodup hkk)
          have e1 : d.b = d'.b := by rw [hd']
          have e2 : [Atom.obj d.b (.map es' c')] = dAtoms d' := by rw [hd']; rfl
          rw [e2]
          refine st_call (changed_spec t (layR R c d') s hw) (by rfl) ?_ (fun v Post hv => ?_) (R := [])
          · simp only [Full, SitesI, Core_eq, layR, List.cons_append, List.nil_append, layR_ptrs hd e1.symm, hdv, slA_some]
            (repeat (apply Spl.cons; (focus ((repeat (first | with_reducible exact Tk.here | apply Tk.there)); done))))
            refine Spl.glue (by (focus ((repeat (first | with_reducible exact Tk.here | apply Tk.there)); done))) (by (focus ((repeat (first | with_reducible exact Tk.here | apply Tk.there)); done))) (perm_flatMap_set dAtoms (y := d') hlt) ?_
            (focus ((repeat (first | exact Spl.nil | (apply Spl.cons; (focus ((repeat (first | with_reducible exact Tk.here | apply Tk.there)); done))))); done))
          obtain ⟨es, hw2, rfl, rfl⟩ := hv
          refine GO ?_
          refine endQ_mk (.inr rfl) (.tmp (by rfl) .nil) ?_ (by rw [List.append_nil]; exact Imp.refl _)
          simp only [InstP, hc, and_self, if_true, hdm]
          rw [if_neg (by omega), if_neg hfull]
          exact ⟨d', es, by rw [hd'], hw, hw2, rfl, rfl⟩
        | none =>
          simp only [lookV, Option.map_none]
          refine GO ?_
          refine st_mlen (by rfl) (.there (.there (.there (.there (.there (.among (mem_dAtoms hd))))))) hmi ?_
          refine GO ?_
          by_cases h4 : 4096 ≤ d.m.length
          · simp only [show ((4096 : Int) ≤ d.m.length) from by omega, decide_true]
            refine GO ?_
            refine endQ_mk (Post := Full t R) (.inr rfl) (.tmp (by rfl) .nil) ?_ ?_
            rotate_left
            · simp only [Full, SitesI, Core_eq, List.cons_append, List.nil_append, hdv, slA_some]
              (first | with_reducible exact Imp.refl | with_reducible exact Imp.left | (focus ((try simp only [Core_eq]); (repeat (first | exact Imp.nil | (apply Imp.cons; (focus ((repeat (first | with_reducible exact Tk.here | apply Tk.there)); done))))); done)))
            simp [InstP, hc, h1, h2, hdm, hg, h4, tup]
          · have hfull : ¬ (mget s d.m = none ∧ 4096 ≤ d.m.length) := by simp [h4]
            simp only [show ¬ ((4096 : Int) ≤ d.m.length) from by omega, decide_false]
            refine GO ?_
            refine VO.split (B := [.obj d.b (.map d.es d.c)]) (by (focus ((repeat (first | with_reducible exact Tk.here | apply Tk.there)); done))) (perm_flatMap dAtoms hd) ?_
            refine st_mapupd (E := kStr) (V := vi) (k := s) (v := m) (by rfl) (by rfl) (by rfl) (by rfl) (by (focus ((repeat (first | with_reducible exact Tk.here | apply Tk.there)); done))) hmi (fun es' c' hm' => ?_)
            refine GO ?_
            obtain ⟨d', hd'⟩ : ∃ d' : DicR, d' = ⟨d.b, es', c', mset s m d.m⟩ := ⟨_, rfl⟩
            have hw : WF (layR R c d') := by subst hd'; exact h.lay hd rfl hm' (mset_nodup hkk)
            have e1 : d.b = d'.b := by rw [hd']
            have e2 : [Atom.obj d.b (.map es' c')] = dAtoms d' := by rw [hd']; rfl
            rw [e2]
            refine st_call (changed_spec t (layR R c d') s hw) (by rfl) ?_ (fun v Post hv => ?_) (R := [])
            · simp only [Full, SitesI, Core_eq, layR, List.cons_append, List.nil_append, layR_ptrs hd e1.symm, hdv, slA_some]
              (repeat (apply Spl.cons; (focus ((repeat (first | with_reducible exact Tk.here | apply Tk.there)); done))))
              refine Spl.glue (by (focus ((repeat (first | with_reducible exact Tk.here | apply Tk.there)); done))) (by (focus ((repeat (first | with_reducible exact Tk.here | apply Tk.there)); done))) (perm_flatMap_set dAtoms (y := d') hlt) ?_
              (focus ((repeat (first | exact Spl.nil | (apply Spl.cons; (focus ((repeat (first | with_reducible exact Tk.here | apply Tk.there)); done))))); done))
            obtain ⟨es, hw2, rfl, rfl⟩ := hv
            refine GO ?_
            refine endQ_mk (.inr rfl) (.tmp (by rfl) .nil) ?_ (by rw [List.append_nil]; exact Imp.refl _)
            simp only [InstP, hc, and_self, if_true, hdm]
            rw [if_neg (by omega), if_neg hfull]
            exact ⟨d', es, by rw [hd'], hw, hw2, rfl, rfl⟩
  · simp only [hc, decide_false]
    refine GO ?_
    refine endQ_mk (Post := Full t R) (.inr rfl) (.tmp (by rfl) .nil) ?_ ?_
    rotate_left
    · simp only [Full, SitesI, Core_eq, List.cons_append, List.nil_append]
      (first | with_reducible exact Imp.refl | with_reducible exact Imp.left | (focus ((try simp only [Core_eq]); (repeat (first | exact Imp.nil | (apply Imp.cons; (focus ((repeat (first | with_reducible exact Tk.here | apply Tk.there)); done))))); done)))
    simp [InstP, hc, tup]

theorem remove_spec (t : Nat) (R : TRep) (c : Int) (s : ByteArray) (h : WF R) (hs : s.size ≤ 1048576) :
    Fun Try.prog 22 [ptr0 t, vi c, .string s] (Full t R) (RemP t R c s) := by
  obtain ⟨sa, sc, hsv⟩ := h.sup.form
  refine Fun.intro low22 (by simp [F22]) ?_
  rw [show Full t R = Core t R ++ SitesI t R from rfl, Core_eq t R]
  simp only [SitesI, List.cons_append, List.nil_append]
  refine GO ?_
  refine st_call (is_spec t c sa R.sup.length sc R.dv) (by rfl) (by rw [← hsv]; (focus ((repeat (first | exact Spl.nil | (apply Spl.cons; (focus ((repeat (first | with_reducible exact Tk.here | apply Tk.there)); done))))); done))) (fun v Post hv => ?_)
  obtain ⟨rfl, rfl⟩ := hv
  rw [isc]
  simp only [List.cons_append, List.nil_append, ← hsv]
  by_cases hc : 0 ≤ c ∧ c < R.sup.length
  · simp only [hc, and_self, decide_true]
    obtain ⟨db, dof, dc, hdv, _, _⟩ := h.dv.some (by omega)
    obtain ⟨d, hd, hdm, hmi⟩ := dic_at h hc.1 hc.2
    simp only [hdv, slA_some]
    refine GO ?_
    refine st_load1 (by rfl) (.there (.there (.there (.there (Has.row (v := .map (some d.b)) (by simp [hd])))))) ?_
    refine GO ?_
    refine st_lookup (E := kStr) (V := vi) (k := s) (by rfl) (by rfl) (by rfl) (.there (.there (.there (.there (.there (.among (mem_dAtoms hd))))))) hmi ?_
    have hlt : c.toNat < R.dics.length := (List.getElem?_eq_some_iff.1 hd).1
    have hkk := h.keys d (List.mem_of_getElem? hd)
    cases hg : mget s d.m with
    | none =>
      simp only [lookV, Option.map_none]
      refine GO ?_
      refine endQ_mk (Post := Full t R) (.inr rfl) (.tmp (by rfl) .nil) ?_ ?_
      rotate_left
      · simp only [Full, SitesI, Core_eq, List.cons_append, List.nil_append, hdv, slA_some]
        (first | with_reducible exact Imp.refl | with_reducible exact Imp.left | (focus ((try simp only [Core_eq]); (repeat (first | exact Imp.nil | (apply Imp.cons; (focus ((repeat (first | with_reducible exact Tk.here | apply Tk.there)); done))))); done)))
      simp [RemP, hc, hdm, hg, tup]
    | some m0 =>
      simp only [lookV, Option.map_some]
      refine GO ?_
      refine st_load1 (by rfl) (.there (.there (.there (.there (Has.row (v := .map (some d.b)) (by simp [hd])))))) ?_
      refine VO.split (B := [.obj d.b (.map d.es d.c)]) (by (focus ((repeat (first | with_reducible exact Tk.here | apply Tk.there)); done))) (perm_flatMap dAtoms hd) ?_
      refine GO ?_
      refine st_delete (E := kStr) (V := vi) (k := s) (by rfl) (by rfl) (by rfl) (by (focus ((repeat (first | with_reducible exact Tk.here | apply Tk.there)); done))) hmi (fun es' hm' _ => ?_)
      refine GO ?_
      obtain ⟨d', hd'⟩ : ∃ d' : DicR, d' = ⟨d.b, es', d.c, mdel s d.m⟩ := ⟨_, rfl⟩
      have hw : WF (layR R c d') := by subst hd'; exact h.lay hd rfl hm' (mdel_nodup hkk)
      have e1 : d.b = d'.b := by rw [hd']
      have e2 : [Atom.obj d.b (.map es' d.c)] = dAtoms d' := by rw [hd']; rfl
      rw [e2]
      refine st_call (changed_spec t (layR R c d') s hw) (by rfl) ?_ (fun v Post hv => ?_) (R := [])
      · simp only [Full, SitesI, Core_eq, layR, List.cons_append, List.nil_append, layR_ptrs hd e1.symm, hdv, slA_some]
        (repeat (apply Spl.cons; (focus ((repeat (first | with_reducible exact Tk.here | apply Tk.there)); done))))
        refine Spl.glue (by (focus ((repeat (first | with_reducible exact Tk.here | apply Tk.there)); done))) (by (focus ((repeat (first | with_reducible exact Tk.here | apply Tk.there)); done))) (perm_flatMap_set dAtoms (y := d') hlt) ?_
        (focus ((repeat (first | exact Spl.nil | (apply Spl.cons; (focus ((repeat (first | with_reducible exact Tk.here | apply Tk.there)); done))))); done))
      obtain ⟨es, hw2, rfl, rfl⟩ := hv
      refine GO ?_
      refine endQ_mk (.inr rfl) (.tmp (by rfl) .nil) ?_ (by rw [List.append_nil]; exact Imp.refl _)
      simp only [RemP, hc, and_self, if_true, hdm]
      rw [if_neg (by simp [hg])]
      exact ⟨d', es, by rw [hd'], hw, hw2, rfl, rfl⟩
  · simp only [hc, decide_false]
    refine GO ?_
    refine endQ_mk (Post := Full t R) (.inr rfl) (.tmp (by rfl) .nil) ?_ ?_
    rotate_left
    · simp only [Full, SitesI, Core_eq, List.cons_append, List.nil_append]
      (first | with_reducible exact Imp.refl | with_reducible exact Imp.left | (focus ((try simp only [Core_eq]); (repeat (first | exact Imp.nil | (apply Imp.cons; (focus ((repeat (first | with_reducible exact Tk.here | apply Tk.there)); done))))); done)))
    simp [RemP, hc, tup]
end Go.Proofs.Ytffmipimgodfdaa

/-
  Contracts: changed, Flush, Install, Remove.
-/
import Derived.Test.YtffmipimgodfdaaD5
namespace Go.Proofs.Ytffmipimgodfdaa
open Go Go.V
set_option maxHeartbeats 800000
set_option linter.unusedSimpArgs false
set_option linter.unusedVariables false
theorem changed_spec (t : Nat) (R : Rep) (s : ByteArray) (h : WF R) :
    Fun Try.prog 47 [ptr0 t, .string s] (Full t R) (fun v Post => ∃ es, WF (forgetR R (fun u => decide (u = s)) es) ∧ v = vi 0 ∧ Post = Full t (forgetR R (fun u => decide (u = s)) es)) := by
  refine Fun.intro low47 (by simp [F47]) ?_
  refine VC.seq_reg ?_
  refine st_box (by rfl) (fun q => ?_)
  simp only [Value.cells]
  refine GO ?_
  have hp : PredIs (.func (.func 60) #[] #[ptr0 q]) (fun u => decide (u = s)) (cellsAt q 0 [.string s]) := ⟨60, #[], #[ptr0 q], rfl, fun u => same_spec u s q⟩
  refine st_call (forget_spec t R h _ _ _ hp) (by rfl) ?_ (fun v Post hv => ?_) (R := [])
  · simp [V.Spl]
    exact List.perm_append_comm
  obtain ⟨es, hw, rfl, rfl⟩ := hv
  refine GO ?_
  refine endQ_mk (.inr rfl) (.tmp (by rfl) .nil) ⟨es, hw, rfl, rfl⟩ ?_
  rw [List.append_nil]
  exact Imp.refl _

theorem flush_spec (t : Nat) (R : Rep) (h : WF R) :
    Fun Try.prog 24 [ptr0 t] (Full t R) (fun v Post => ∃ es, WF (forgetR R (fun _ => true) es) ∧ v = .tuple #[] ∧ Post = Full t (forgetR R (fun _ => true) es)) := by
  refine Fun.intro low24 (by simp [F24]) ?_
  refine GO ?_
  have hp : PredIs (.func (.func 49) #[] #[]) (fun _ => true) [] := ⟨49, #[], #[], rfl, fun u => all_spec u⟩
  refine st_call (forget_spec t R h _ _ _ hp) (by rfl) ?_ (fun v Post hv => ?_) (R := [])
  · simp [V.Spl]
  obtain ⟨es, hw, rfl, rfl⟩ := hv
  refine GO ?_
  refine endQ_mk (.inl rfl) .nil ⟨es, hw, rfl, rfl⟩ ?_
  rw [List.append_nil]
  exact Imp.refl _

/-- What an installing answers, and what there is behind it. -/
def InstP (t : Nat) (R : Rep) (c : Int) (s : ByteArray) (m : Int) (v : Value) (Post : SH) : Prop :=
  if 0 ≤ c ∧ c < R.sup.length then
    if s.size < 1 ∨ 640 < s.size then v = vi 221 ∧ Post = Full t R
    else if mget s (R.dic c) = none ∧ 4096 ≤ (R.dic c).length then v = vi 222 ∧ Post = Full t R
    else ∃ d es, d.m = mset s m (R.dic c) ∧ WF (layR R c d) ∧ WF (forgetR (layR R c d) (fun u => decide (u = s)) es) ∧ v = vi 0 ∧ Post = Full t (forgetR (layR R c d) (fun u => decide (u = s)) es)
  else v = vi 220 ∧ Post = Full t R

def RemP (t : Nat) (R : Rep) (c : Int) (s : ByteArray) (v : Value) (Post : SH) : Prop :=
  if 0 ≤ c ∧ c < R.sup.length then
    if mget s (R.dic c) = none then v = vi 223 ∧ Post = Full t R
    else ∃ d es, d.m = mdel s (R.dic c) ∧ WF (layR R c d) ∧ WF (forgetR (layR R c d) (fun u => decide (u = s)) es) ∧ v = vi 0 ∧ Post = Full t (forgetR (layR R c d) (fun u => decide (u = s)) es)
  else v = vi 220 ∧ Post = Full t R
theorem install_spec (t : Nat) (R : Rep) (c : Int) (s : ByteArray) (m : Int) (h : WF R) (hs : s.size ≤ 1048576) :
    Fun Try.prog 21 [ptr0 t, vi c, .string s, vi m] (Full t R) (InstP t R c s m) := by
  obtain ⟨sa, sc, hsv⟩ := h.sup.form
  refine Fun.intro low21 (by simp [F21]) ?_
  rw [show Full t R = Core t R ++ SitesI t R from rfl, Core_eq t R]
  simp only [SitesI, List.cons_append, List.nil_append]
  refine GO ?_
  refine st_call (is_spec t c sa R.sup.length sc R.dv) (by rfl) (by rw [← hsv]; (focus ((repeat (first | exact Spl.nil | (apply Spl.cons; (focus ((repeat (first | with_reducible exact Tk.here | apply Tk.there)); done))))); done))) (fun v Post hv => ?_)
  obtain ⟨rfl, rfl⟩ := hv
  rw [isc]
  simp only [List.cons_append, List.nil_append, ← hsv]
  by_cases hc : 0 ≤ c ∧ c < R.sup.length
  · simp only [hc, and_self, decide_true]
    refine GO ?_
    by_cases h1 : s.size < 1
    · simp only [show ((s.size : Int) < 1) from by omega, decide_true]
      refine GO ?_
      refine endQ_mk (Post := Full t R) (.inr rfl) (.tmp (by rfl) .nil) ?_ ?_
      rotate_left
      · simp only [Full, SitesI, Core_eq, List.cons_append, List.nil_append]
        (first | with_reducible exact Imp.refl | with_reducible exact Imp.left | (focus ((try simp only [Core_eq]); (repeat (first | exact Imp.nil | (apply Imp.cons; (focus ((repeat (first | with_reducible exact Tk.here | apply Tk.there)); done))))); done)))
      simp [InstP, hc, h1, tup]
    · simp only [show ¬ ((s.size : Int) < 1) from by omega, decide_false]
      refine GO ?_
      by_cases h2 : 640 < s.size
      · simp only [show ((640 : Int) < s.size) from by omega, decide_true]
        refine GO ?_
        refine endQ_mk (Post := Full t R) (.inr rfl) (.tmp (by rfl) .nil) ?_ ?_
        rotate_left
        · simp only [Full, SitesI, Core_eq, List.cons_append, List.nil_append]
          (first | with_reducible exact Imp.refl | with_reducible exact Imp.left | (focus ((try simp only [Core_eq]); (repeat (first | exact Imp.nil | (apply Imp.cons; (focus ((repeat (first | with_reducible exact Tk.here | apply Tk.there)); done))))); done)))
        simp [InstP, hc, h1, h2, tup]
      · simp only [show ¬ ((640 : Int) < s.size) from by omega, decide_false]
        obtain ⟨db, dof, dc, hdv, _, _⟩ := h.dv.some (by omega)
        obtain ⟨d, hd, hdm, hmi⟩ := dic_at h hc.1 hc.2
        simp only [hdv, slA_some]
        refine GO ?_
        refine st_load1 (by rfl) (.there (.there (.there (.there (Has.row (v := .map (some d.b)) (by simp [hd])))))) ?_
        refine GO ?_
        refine st_lookup (E := kStr) (V := vi) (k := s) (by rfl) (by rfl) (by rfl) (.there (.there (.there (.there (.there (.among (mem_dAtoms hd))))))) hmi ?_
        have hlt : c.toNat < R.dics.length := (List.getElem?_eq_some_iff.1 hd).1
        have hkk := h.keys d (List.mem_of_getElem? hd)
        cases hg : mget s d.m with
        | some m0 =>
          have hfull : ¬ (mget s d.m = none ∧ 4096 ≤ d.m.length) := by simp [hg]
          simp only [lookV, Option.map_some]
          refine GO ?_
          refine VO.split (B := [.obj d.b (.map d.es d.c)]) (by (focus ((repeat (first | with_reducible exact Tk.here | apply Tk.there)); done))) (perm_flatMap dAtoms hd) ?_
          refine st_mapupd (E := kStr) (V := vi) (k := s) (v := m) (by rfl) (by rfl) (by rfl) (by rfl) (by (focus ((repeat (first | with_reducible exact Tk.here | apply Tk.there)); done))) hmi (fun es' c' hm' => ?_)
          refine GO ?_
          obtain ⟨d', hd'⟩ : ∃ d' : DicR, d' = ⟨d.b, es', c', mset s m d.m⟩ := ⟨_, rfl⟩
          have hw : WF (layR R c d') := by subst hd'; exact h.lay hd rfl hm' (mset_nodup hkk)
          have e1 : d.b = d'.b := by rw [hd']
          have e2 : [Atom.obj d.b (.map es' c')] = dAtoms d' := by rw [hd']; rfl
          rw [e2]
          refine st_call (changed_spec t (layR R c d') s hw) (by rfl) ?_ (fun v Post hv => ?_) (R := [])
          · simp only [Full, SitesI, Core_eq, layR, List.cons_append, List.nil_append, layR_ptrs hd e1.symm, hdv, slA_some]
            (repeat (apply Spl.cons; (focus ((repeat (first | with_reducible exact Tk.here | apply Tk.there)); done))))
            refine Spl.glue (by (focus ((repeat (first | with_reducible exact Tk.here | apply Tk.there)); done))) (by (focus ((repeat (first | with_reducible exact Tk.here | apply Tk.there)); done))) (perm_flatMap_set dAtoms (y := d') hlt) ?_
            (focus ((repeat (first | exact Spl.nil | (apply Spl.cons; (focus ((repeat (first | with_reducible exact Tk.here | apply Tk.there)); done))))); done))
          obtain ⟨es, hw2, rfl, rfl⟩ := hv
          refine GO ?_
          refine endQ_mk (.inr rfl) (.tmp (by rfl) .nil) ?_ (by rw [List.append_nil]; exact Imp.refl _)
          simp only [InstP, hc, and_self, if_true, hdm]
          rw [if_neg (by omega), if_neg hfull]
          exact ⟨d', es, by rw [hd'], hw, hw2, rfl, rfl⟩
        | none =>
          simp only [lookV, Option.map_none]
          refine GO ?_
          refine st_mlen (by rfl) (.there (.there (.there (.there (.there (.among (mem_dAtoms hd))))))) hmi ?_
          refine GO ?_
          by_cases h4 : 4096 ≤ d.m.length
          · simp only [show ((4096 : Int) ≤ d.m.length) from by omega, decide_true]
            refine GO ?_
            refine endQ_mk (Post := Full t R) (.inr rfl) (.tmp (by rfl) .nil) ?_ ?_
            rotate_left
            · simp only [Full, SitesI, Core_eq, List.cons_append, List.nil_append, hdv, slA_some]
              (first | with_reducible exact Imp.refl | with_reducible exact Imp.left | (focus ((try simp only [Core_eq]); (repeat (first | exact Imp.nil | (apply Imp.cons; (focus ((repeat (first | with_reducible exact Tk.here | apply Tk.there)); done))))); done)))
            simp [InstP, hc, h1, h2, hdm, hg, h4, tup]
          · have hfull : ¬ (mget s d.m = none ∧ 4096 ≤ d.m.length) := by simp [h4]
            simp only [show ¬ ((4096 : Int) ≤ d.m.length) from by omega, decide_false]
            refine GO ?_
            refine VO.split (B := [.obj d.b (.map d.es d.c)]) (by (focus ((repeat (first | with_reducible exact Tk.here | apply Tk.there)); done))) (perm_flatMap dAtoms hd) ?_
            refine st_mapupd (E := kStr) (V := vi) (k := s) (v := m) (by rfl) (by rfl) (by rfl) (by rfl) (by (focus ((repeat (first | with_reducible exact Tk.here | apply Tk.there)); done))) hmi (fun es' c' hm' => ?_)
            refine GO ?_
            obtain ⟨d', hd'⟩ : ∃ d' : DicR, d' = ⟨d.b, es', c', mset s m d.m⟩ := ⟨_, rfl⟩
            have hw : WF (layR R c d') := by subst hd'; exact h.lay hd rfl hm' (mset_nodup hkk)
            have e1 : d.b = d'.b := by rw [hd']
            have e2 : [Atom.obj d.b (.map es' c')] = dAtoms d' := by rw [hd']; rfl
            rw [e2]
            refine st_call (changed_spec t (layR R c d') s hw) (by rfl) ?_ (fun v Post hv => ?_) (R := [])
            · simp only [Full, SitesI, Core_eq, layR, List.cons_append, List.nil_append, layR_ptrs hd e1.symm, hdv, slA_some]
              (repeat (apply Spl.cons; (focus ((repeat (first | with_reducible exact Tk.here | apply Tk.there)); done))))
              refine Spl.glue (by (focus ((repeat (first | with_reducible exact Tk.here | apply Tk.there)); done))) (by (focus ((repeat (first | with_reducible exact Tk.here | apply Tk.there)); done))) (perm_flatMap_set dAtoms (y := d') hlt) ?_
              (focus ((repeat (first | exact Spl.nil | (apply Spl.cons; (focus ((repeat (first | with_reducible exact Tk.here | apply Tk.there)); done))))); done))
            obtain ⟨es, hw2, rfl, rfl⟩ := hv
            refine GO ?_
            refine endQ_mk (.inr rfl) (.tmp (by rfl) .nil) ?_ (by rw [List.append_nil]; exact Imp.refl _)
            simp only [InstP, hc, and_self, if_true, hdm]
            rw [if_neg (by omega), if_neg hfull]
            exact ⟨d', es, by rw [hd'], hw, hw2, rfl, rfl⟩
  · simp only [hc, decide_false]
    refine GO ?_
    refine endQ_mk (Post := Full t R) (.inr rfl) (.tmp (by rfl) .nil) ?_ ?_
    rotate_left
    · simp only [Full, SitesI, Core_eq, List.cons_append, List.nil_append]
      (first | with_reducible exact Imp.refl | with_reducible exact Imp.left | (focus ((try simp only [Core_eq]); (repeat (first | exact Imp.nil | (apply Imp.cons; (focus ((repeat (first | with_reducible exact Tk.here | apply Tk.there)); done))))); done)))
    simp [InstP, hc, tup]

theorem remove_spec (t : Nat) (R : Rep) (c : Int) (s : ByteArray) (h : WF R) (hs : s.size ≤ 1048576) :
    Fun Try.prog 22 [ptr0 t, vi c, .string s] (Full t R) (RemP t R c s) := by
  obtain ⟨sa, sc, hsv⟩ := h.sup.form
  refine Fun.intro low22 (by simp [F22]) ?_
  rw [show Full t R = Core t R ++ SitesI t R from rfl, Core_eq t R]
  simp only [SitesI, List.cons_append, List.nil_append]
  refine GO ?_
  refine st_call (is_spec t c sa R.sup.length sc R.dv) (by rfl) (by rw [← hsv]; (focus ((repeat (first | exact Spl.nil | (apply Spl.cons; (focus ((repeat (first | with_reducible exact Tk.here | apply Tk.there)); done))))); done))) (fun v Post hv => ?_)
  obtain ⟨rfl, rfl⟩ := hv
  rw [isc]
  simp only [List.cons_append, List.nil_append, ← hsv]
  by_cases hc : 0 ≤ c ∧ c < R.sup.length
  · simp only [hc, and_self, decide_true]
    obtain ⟨db, dof, dc, hdv, _, _⟩ := h.dv.some (by omega)
    obtain ⟨d, hd, hdm, hmi⟩ := dic_at h hc.1 hc.2
    simp only [hdv, slA_some]
    refine GO ?_
    refine st_load1 (by rfl) (.there (.there (.there (.there (Has.row (v := .map (some d.b)) (by simp [hd])))))) ?_
    refine GO ?_
    refine st_lookup (E := kStr) (V := vi) (k := s) (by rfl) (by rfl) (by rfl) (.there (.there (.there (.there (.there (.among (mem_dAtoms hd))))))) hmi ?_
    have hlt : c.toNat < R.dics.length := (List.getElem?_eq_some_iff.1 hd).1
    have hkk := h.keys d (List.mem_of_getElem? hd)
    cases hg : mget s d.m with
    | none =>
      simp only [lookV, Option.map_none]
      refine GO ?_
      refine endQ_mk (Post := Full t R) (.inr rfl) (.tmp (by rfl) .nil) ?_ ?_
      rotate_left
      · simp only [Full, SitesI, Core_eq, List.cons_append, List.nil_append, hdv, slA_some]
        (first | with_reducible exact Imp.refl | with_reducible exact Imp.left | (focus ((try simp only [Core_eq]); (repeat (first | exact Imp.nil | (apply Imp.cons; (focus ((repeat (first | with_reducible exact Tk.here | apply Tk.there)); done))))); done)))
      simp [RemP, hc, hdm, hg, tup]
    | some m0 =>
      simp only [lookV, Option.map_some]
      refine GO ?_
      refine st_load1 (by rfl) (.there (.there (.there (.there (Has.row (v := .map (some d.b)) (by simp [hd])))))) ?_
      refine VO.split (B := [.obj d.b (.map d.es d.c)]) (by (focus ((repeat (first | with_reducible exact Tk.here | apply Tk.there)); done))) (perm_flatMap dAtoms hd) ?_
      refine GO ?_
      refine st_delete (E := kStr) (V := vi) (k := s) (by rfl) (by rfl) (by rfl) (by (focus ((repeat (first | with_reducible exact Tk.here | apply Tk.there)); done))) hmi (fun es' hm' _ => ?_)
      refine GO ?_
      obtain ⟨d', hd'⟩ : ∃ d' : DicR, d' = ⟨d.b, es', d.c, mdel s d.m⟩ := ⟨_, rfl⟩
      have hw : WF (layR R c d') := by subst hd'; exact h.lay hd rfl hm' (mdel_nodup hkk)
      have e1 : d.b = d'.b := by rw [hd']
      have e2 : [Atom.obj d.b (.map es' d.c)] = dAtoms d' := by rw [hd']; rfl
      rw [e2]
      refine st_call (changed_spec t (layR R c d') s hw) (by rfl) ?_ (fun v Post hv => ?_) (R := [])
      · simp only [Full, SitesI, Core_eq, layR, List.cons_append, List.nil_append, layR_ptrs hd e1.symm, hdv, slA_some]
        (repeat (apply Spl.cons; (focus ((repeat (first | with_reducible exact Tk.here | apply Tk.there)); done))))
        refine Spl.glue (by (focus ((repeat (first | with_reducible exact Tk.here | apply Tk.there)); done))) (by (focus ((repeat (first | with_reducible exact Tk.here | apply Tk.there)); done))) (perm_flatMap_set dAtoms (y := d') hlt) ?_
        (focus ((repeat (first | exact Spl.nil | (apply Spl.cons; (focus ((repeat (first | with_reducible exact Tk.here | apply Tk.there)); done))))); done))
      obtain ⟨es, hw2, rfl, rfl⟩ := hv
      refine GO ?_
      refine endQ_mk (.inr rfl) (.tmp (by rfl) .nil) ?_ (by rw [List.append_nil]; exact Imp.refl _)
      simp only [RemP, hc, and_self, if_true, hdm]
      rw [if_neg (by simp [hg])]
      exact ⟨d', es, by rw [hd'], hw, hw2, rfl, rfl⟩
  · simp only [hc, decide_false]
    refine GO ?_
    refine endQ_mk (Post := Full t R) (.inr rfl) (.tmp (by rfl) .nil) ?_ ?_
    rotate_left
    · simp only [Full, SitesI, Core_eq, List.cons_append, List.nil_append]
      (first | with_reducible exact Imp.refl | with_reducible exact Imp.left | (focus ((try simp only [Core_eq]); (repeat (first | exact Imp.nil | (apply Imp.cons; (focus ((repeat (first | with_reducible exact Tk.here | apply Tk.there)); done))))); done)))
    simp [RemP, hc, tup]
end Go.Proofs.Ytffmipimgodfdaa

/-
  Contracts: Send.
-/
import Derived.Test.YtffmipimgodfdaaD3
namespace Go.Proofs.Ytffmipimgodfdaa
open Go Go.V
set_option maxHeartbeats 800000
set_option linter.unusedSimpArgs false
set_option linter.unusedVariables false
def okE (r : Option Int) (e : Int) : Value := .tuple #[vi (r.getD 0), .bool r.isSome, vi e]

/-- What a send at a site answers, and what there is behind it. -/
def SendP (t : Nat) (R : Rep) (at_ c : Int) (s : ByteArray) (v : Value) (Post : SH) : Prop :=
  if 0 ≤ at_ ∧ at_ < 65536 then
    if 0 ≤ c ∧ c < R.sup.length then ∃ b es k, ∃ x R1, siteR R.ask1 at_ s b es k = (x, R1) ∧ WF R1 ∧ WF (sendT R1 at_ c s x).2 ∧ v = okE (sendT R1 at_ c s x).1 0 ∧ Post = Full t (sendT R1 at_ c s x).2
    else v = okE none 220 ∧ Post = Full t R
  else v = okE none 224 ∧ Post = Full t R

theorem send_spec (t : Nat) (R : Rep) (at_ c : Int) (s : ByteArray) (h : WF R) (N : Nat) (hN : N < 140737488355328) (hT : TelOk R.tel N) (hs : s.size ≤ 1048576) :
    Fun Try.prog 10 [ptr0 t, vi at_, vi c, .string s] (Full t R) (SendP t R at_ c s) := by
  obtain ⟨sa, sc, hsv⟩ := h.sup.form
  obtain ⟨t1, t2, t3, t4, t5⟩ := hT
  refine Fun.intro low10 (by simp [F10]) ?_
  rw [show Full t R = Core t R ++ SitesI t R from rfl, Core_eq t R]
  simp only [SitesI, List.cons_append, List.nil_append]
  refine GO ?_
  by_cases hat : 0 ≤ at_ ∧ at_ < 65536
  · have e1 : decide (at_ < 0) = false := by simp; omega
    have e2 : decide (65536 ≤ at_) = false := by simp; omega
    simp only [e1]
    refine GO ?_
    simp only [e2]
    refine GO ?_
    refine st_call (is_spec t c sa R.sup.length sc R.dv) (by rfl) (by rw [← hsv]; (focus ((repeat (first | exact Spl.nil | (apply Spl.cons; (focus ((repeat (first | with_reducible exact Tk.here | apply Tk.there)); done))))); done))) (fun v Post hv => ?_)
    obtain ⟨rfl, rfl⟩ := hv
    rw [isc]
    simp only [List.cons_append, List.nil_append, ← hsv]
    by_cases hc : 0 ≤ c ∧ c < R.sup.length
    · simp only [hc, and_self, decide_true, if_true]
      have hT1 : TelOk R.ask1.tel (N + 1) := ⟨by simp [Rep.ask1]; omega, by simp [Rep.ask1]; omega, by simp [Rep.ask1]; omega, by simp [Rep.ask1]; omega, by simp [Rep.ask1]; omega⟩
      have h1 : WF R.ask1 := h.withTel _
      refine GO ?_
      refine st_lookup (E := kInt) (V := fun s : SiteR => ptr0 s.b) (k := at_) (by rfl) (by rfl) (by rfl) (by (focus ((repeat (first | with_reducible exact HasO.here | apply HasO.there)); done))) h.sites ?_
      (repeat (first
    | (first
    | (apply st_gt; rfl)
    | (apply st_gf; rfl; rfl)
    | (apply st_mv; rfl)
    | (apply st_nil; rfl)
    | (apply st_pick_t; rfl; rfl)
    | (apply st_pick_f; rfl; rfl)
    | (apply st_fld; rfl; ((try simp only [Nat.zero_add, Nat.add_zero, Nat.reduceAdd, Nat.reduceMul, Nat.add_assoc, Int.toNat_natCast, Nat.mul_one]); rfl))
    | (apply st_load1; rfl; (focus ((repeat (first | (apply Has.cells; omega; rfl) | apply Has.there)); done)))
    | (apply st_load1; rfl; (focus ((repeat (first | (apply Has.among; assumption) | apply Has.there)); done)))
    | (apply st_loadM; rfl; (focus ((repeat (first | (apply HasM.cells; omega; (focus (simp only [List.length_cons, List.length_nil, Nat.reduceAdd, Nat.zero_add, Nat.reduceSub, Nat.sub_self, Nat.reduceLeDiff, Nat.le_refl]; done)); (focus (simp only [lnb, Value.cells, Nat.zero_add, Nat.reduceEqDiff, ↓reduceIte, eq_self, Nat.reduceAdd, Nat.reduceSub, Nat.sub_self, Nat.reduceLeDiff, Nat.le_refl, and_self, rep, zeroRow] <;> rfl)); rfl) | apply HasM.there)); done)))
    | (apply st_ext; rfl; rfl)
    | (apply st_add; rfl; rfl; omega)
    | (apply st_sub; rfl; rfl; omega)
    | (apply st_mul; rfl; rfl; omega)
    | (apply st_rem; rfl; rfl; decide)
    | (apply st_idxL; rfl; rfl; omega; ((try simp only [Nat.zero_add, Nat.add_zero, Nat.reduceAdd, Nat.reduceMul, Nat.add_assoc, Int.toNat_natCast, Nat.mul_one]); rfl))
    | (apply st_idxA; rfl; rfl; omega; ((try simp only [Nat.zero_add, Nat.add_zero, Nat.reduceAdd, Nat.reduceMul, Nat.add_assoc, Int.toNat_natCast, Nat.mul_one]); rfl))
    | (apply st_build; rfl; (focus (simp only [lnb, Value.cells, Nat.zero_add, Nat.reduceEqDiff, ↓reduceIte, eq_self, Nat.reduceAdd, Nat.reduceSub, Nat.sub_self, Nat.reduceLeDiff, Nat.le_refl, and_self, rep, zeroRow] <;> rfl)))
    | (apply st_store'; rfl; rfl; (focus (simp only [lnb, Value.cells, Nat.zero_add, Nat.reduceEqDiff, ↓reduceIte, eq_self, Nat.reduceAdd, Nat.reduceSub, Nat.sub_self, Nat.reduceLeDiff, Nat.le_refl, and_self, rep, zeroRow] <;> rfl)); rfl; rfl; (focus ((repeat (first | (apply Upd.cells; omega; (focus (simp only [List.length_cons, List.length_nil, Nat.reduceAdd, Nat.zero_add, Nat.reduceSub, Nat.sub_self, Nat.reduceLeDiff, Nat.le_refl]; done)); (focus (simp only [lnb, Value.cells, Nat.zero_add, Nat.reduceEqDiff, ↓reduceIte, eq_self, Nat.reduceAdd, Nat.reduceSub, Nat.sub_self, Nat.reduceLeDiff, Nat.le_refl, and_self, rep, zeroRow] <;> rfl))) | apply Upd.there)); done)))
    | (apply st_pure; rfl; rfl; rfl))
    | (refine VO.nil ?_; simp only [V.argsEnv, V.restr, V.look, V.putE, V.thenQ, V.blockQ, Nat.zero_add, Nat.reduceAdd, Nat.reduceEqDiff, ↓reduceIte, eq_self])))
      refine VC.join (α := SiteR × Rep) (fun y => [(0, ptr0 t), (2, vi c), (3, .string s), (11, ptr0 y.1.b)]) (fun y => cellsAt y.1.b 0 (sCells y.1) :: (mdel at_ y.2.sites).flatMap sAtoms :: cellsAt t 194 [.map (some R.sm)] :: [.obj R.sm (.map y.2.ses y.2.sc)] :: Core t y.2)
        (fun y => ∃ b es k, siteR R.ask1 at_ s b es k = y ∧ WF y.2 ∧ TelOk y.2.tel (N + 1) ∧ mget at_ y.2.sites = some y.1 ∧ y.2.sup = R.sup ∧ y.2.sm = R.sm) ?_ ?_
      · cases h0 : mget at_ R.sites with
        | none =>
          simp only [Option.map_none, lookV, Bool.false_eq_true, if_false]
          refine GO ?_
          refine st_box (by rfl) (fun b => ?_)
          simp only [Value.cells]
          refine GO ?_
          refine st_mapupd (E := kInt) (V := fun s : SiteR => ptr0 s.b) (k := at_) (v := ⟨b, s, 0, [0, 0, 0, 0], [0, 0, 0, 0]⟩) (by rfl) (by rfl) (by rfl) (by rfl) (by (focus ((repeat (first | with_reducible exact Tk.here | apply Tk.there)); done))) h.sites (fun es' c' hm' => ?_)
          refine GO ?_
          refine ⟨(⟨b, s, 0, [0, 0, 0, 0], [0, 0, 0, 0]⟩, { R.ask1 with sites := mset at_ ⟨b, s, 0, [0, 0, 0, 0], [0, 0, 0, 0]⟩ R.sites, ses := es', sc := c' }), ⟨b, es', c', ?_, h1.laid hm' ⟨rfl, rfl, by simp⟩, hT1, by simp [mget_mset], rfl, rfl⟩, by (repeat (first | exact Sub.nil | (apply Sub.cons; rfl))), ?_⟩
          · simp [siteR, Rep.ask1, h0]
          · simp [mdel_mset, mget_none_mdel h0, Rep.ask1, Core_eq, sCells]
            (first | with_reducible exact Imp.refl | with_reducible exact Imp.left | (focus ((try simp only [Core_eq]); (repeat (first | exact Imp.nil | (apply Imp.cons; (focus ((repeat (first | with_reducible exact Tk.here | apply Tk.there)); done))))); done)))
        | some x =>
          simp only [Option.map_some, lookV, Bool.false_eq_true, if_false]
          refine VC.split (by (focus ((repeat (first | with_reducible exact Tk.here | apply Tk.there)); done))) (sites_split h0) ?_
          refine GO ?_
          by_cases hsel : x.sel = s
          · simp only [hsel, decide_true, Bool.not_true]
            refine GO ?_
            refine ⟨(x, R.ask1), ⟨0, #[], 0, ?_, h1, hT1, h0, rfl, rfl⟩, by (repeat (first | exact Sub.nil | (apply Sub.cons; rfl))), ?_⟩
            · simp [siteR, Rep.ask1, h0, hsel]
            · simp [Rep.ask1, Core_eq]
              (first | with_reducible exact Imp.refl | with_reducible exact Imp.left | (focus ((try simp only [Core_eq]); (repeat (first | exact Imp.nil | (apply Imp.cons; (focus ((repeat (first | with_reducible exact Tk.here | apply Tk.there)); done))))); done)))
          · simp only [hsel, decide_false, Bool.not_false]
            refine GO ?_
            refine st_box (by rfl) (fun b => ?_)
            simp only [Value.cells]
            refine GO ?_
            refine st_mapupd (E := kInt) (V := fun s : SiteR => ptr0 s.b) (k := at_) (v := ⟨b, s, 0, [0, 0, 0, 0], [0, 0, 0, 0]⟩) (by rfl) (by rfl) (by rfl) (by rfl) (by (focus ((repeat (first | with_reducible exact Tk.here | apply Tk.there)); done))) h.sites (fun es' c' hm' => ?_)
            refine GO ?_
            refine ⟨(⟨b, s, 0, [0, 0, 0, 0], [0, 0, 0, 0]⟩, { R.ask1 with sites := mset at_ ⟨b, s, 0, [0, 0, 0, 0], [0, 0, 0, 0]⟩ R.sites, ses := es', sc := c' }), ⟨b, es', c', ?_, h1.laid hm' ⟨rfl, rfl, by simp⟩, hT1, by simp [mget_mset], rfl, rfl⟩, by (repeat (first | exact Sub.nil | (apply Sub.cons; rfl))), ?_⟩
            · simp [siteR, Rep.ask1, h0, hsel]
            · simp [mdel_mset, Rep.ask1, Core_eq, sCells]
              (first | with_reducible exact Imp.refl | with_reducible exact Imp.left | (focus ((try simp only [Core_eq]); (repeat (first | exact Imp.nil | (apply Imp.cons; (focus ((repeat (first | with_reducible exact Tk.here | apply Tk.there)); done))))); done)))
      · rintro ⟨x, R1⟩ ⟨b, es, k, hy, hw, hT1, hx, hsup, hsm⟩
        simp only at hw hT1 hx hsup hsm
        have hxs : x.cls.length = 4 ∧ x.ms.length = 4 ∧ x.n ≤ 4 := hw.site (at_, x) (mget_mem hx)
        have hT2 := hT1
        obtain ⟨u1, u2, u3, u4, u5⟩ := hT2
        refine GO ?_
        refine st_call (find_spec x.b x c hxs) (by rfl) (by (focus ((repeat (first | exact Spl.nil | (apply Spl.cons; (focus ((repeat (first | with_reducible exact Tk.here | apply Tk.there)); done))))); done))) (fun v Post hv => ?_)
        obtain ⟨rfl, rfl⟩ := hv
        simp only [List.cons_append, List.nil_append]
        have hP : ∀ r : Option Int × Rep, sendT R1 at_ c s x = r → WF r.2 → SendP t R at_ c s (okE r.1 0) (Full t r.2) := by
          intro r hr hwr
          simp only [SendP, hat, hc, and_self, if_true]
          exact ⟨b, es, k, x, R1, hy, hw, by rw [hr]; exact hwr, by rw [hr], by rw [hr]⟩
        have hlen := sCells_len ⟨hxs.1, hxs.2.1⟩
        cases hf : fnd x.cls x.n c with
        | some i =>
          obtain ⟨hi1, hi2⟩ := fnd_is hf
          have hr : sendT R1 at_ c s x = (some (x.ms[i]'(by omega)), { R1 with tel := { R1.tel with inl := R1.tel.inl + 1 } }) := by
            rw [sendT_hit hf]
            simp [show i < x.ms.length by omega]
          simp only
          rw [Core_eq]
          refine GO ?_
          refine st_load1 (v := vi (x.ms[i]'(by omega))) (by rfl) (.cells (by omega) ?_) ?_
          · rw [Nat.sub_zero, sCells_m hxs.1]
            simp [show i < x.ms.length by omega]
          refine GO ?_
          refine endQ_mk (.inr rfl) (.tmp (by rfl) (.tmp (by rfl) (.tmp (by rfl) .nil))) (hP _ hr (hw.withTel _)) ?_
          simp [Full, SitesI, Core_eq, hsm]
          (repeat (apply Imp.cons; (focus ((repeat (first | with_reducible exact Tk.here | apply Tk.there)); done))))
          exact Imp.glue (by (focus ((repeat (first | with_reducible exact Tk.here | apply Tk.there)); done))) (by (focus ((repeat (first | with_reducible exact Tk.here | apply Tk.there)); done))) (sites_split hx).symm .nil
        | none =>
          simp only
          refine GO ?_
          refine st_call (ask_spec t R1 c s hw (N + 1) (by omega) hT1 (by rw [hsup]; exact hc) hs) (by rfl) (by simp only [Core_eq]; (focus ((repeat (first | exact Spl.nil | (apply Spl.cons; (focus ((repeat (first | with_reducible exact Tk.here | apply Tk.there)); done))))); done))) (fun v Post hv => ?_)
          obtain ⟨rfl, rfl⟩ := hv
          simp only [okM]
          obtain ⟨g1, g2, g3, g4⟩ := askR_sites R1 c s
          have hwa := hw.ask c s
          have hx' : mget at_ (askR R1 c s).2.sites = some x := by rw [g1]; exact hx
          cases hm : (askR R1 c s).1 with
          | none =>
            have hQ := hP _ (sendT_ask hf (.inl hm)) hwa
            rw [hm] at hQ
            simp only [Option.isSome_none, Option.getD_none]
            refine GO ?_
            refine endQ_mk (.inr rfl) (.tmp (by rfl) (.tmp (by rfl) (.tmp (by rfl) .nil))) hQ ?_
            simp only [Full, SitesI, Core_eq, hsm, g1, g2, g3, g4, List.cons_append, List.nil_append]
            (repeat (apply Imp.cons; (focus ((repeat (first | with_reducible exact Tk.here | apply Tk.there)); done))))
            exact Imp.glue (by (focus ((repeat (first | with_reducible exact Tk.here | apply Tk.there)); done))) (by (focus ((repeat (first | with_reducible exact Tk.here | apply Tk.there)); done))) (sites_split hx).symm .nil
          | some m =>
            simp only [Option.isSome_some, Option.getD_some]
            refine GO ?_
            by_cases hn : x.n < 4
            · have hQ := hP _ (sendT_more hf hm hn) (hwa.more hx' hn)
              simp only [show ((x.n : Int) < 4) from by omega, decide_true]
              refine GO ?_
              simp only [Core_eq, List.cons_append, List.nil_append]
              refine VO.pull (A := cellsAt x.b 0 (sCells x)) (by (focus ((repeat (first | with_reducible exact Tk.here | apply Tk.there)); done))) ?_
              refine st_store' (us := [vi c]) (by rfl) (by rfl) (by rfl) (by rfl) (by rfl) (Upd.set1 (i := 2 + x.n) (by omega) (by omega)) ?_
              refine GO ?_
              refine st_store' (us := [vi m]) (by rfl) (by rfl) (by rfl) (by rfl) (by rfl) (Upd.set1 (i := 6 + x.n) (by omega) (by simp; omega)) ?_
              refine GO ?_
              refine st_load1 (v := vi x.n) (by rfl) (.cells (by omega) ?_) ?_
              · rw [List.getElem?_set_ne (by omega), List.getElem?_set_ne (by omega)]; rfl
              refine GO ?_
              refine st_store' (us := [vi (x.n + 1)]) (by rfl) (by rfl) (by rfl) (by rfl) (by rfl) (Upd.set1 (i := 1) (by omega) (by simp; omega)) ?_
              rw [sCells_more ⟨hxs.1, hxs.2.1⟩ hn]
              refine GO ?_
              refine endQ_mk (.inr rfl) (.tmp (by rfl) (.tmp (by rfl) (.tmp (by rfl) .nil))) hQ ?_
              simp only [Full, SitesI, Core_eq, hsm, g1, g2, g3, g4, List.cons_append, List.nil_append]
              (repeat (apply Imp.cons; (focus ((repeat (first | with_reducible exact Tk.here | apply Tk.there)); done))))
              have hj : (cellsAt x.b 0 (sCells (x.more c m)) ++ (mdel at_ R1.sites).flatMap sAtoms).Perm ((mset at_ (x.more c m) R1.sites).flatMap sAtoms) := sites_join (x := x.more c m)
              exact Imp.glue (by (focus ((repeat (first | with_reducible exact Tk.here | apply Tk.there)); done))) (by (focus ((repeat (first | with_reducible exact Tk.here | apply Tk.there)); done))) hj .nil
            · have hQ := hP _ (sendT_ask hf (.inr hn)) hwa
              rw [hm] at hQ
              simp only [show ¬ ((x.n : Int) < 4) from by omega, decide_false]
              refine GO ?_
              refine endQ_mk (.inr rfl) (.tmp (by rfl) (.tmp (by rfl) (.tmp (by rfl) .nil))) hQ ?_
              simp only [Full, SitesI, Core_eq, hsm, g1, g2, g3, g4, List.cons_append, List.nil_append]
              (repeat (apply Imp.cons; (focus ((repeat (first | with_reducible exact Tk.here | apply Tk.there)); done))))
              exact Imp.glue (by (focus ((repeat (first | with_reducible exact Tk.here | apply Tk.there)); done))) (by (focus ((repeat (first | with_reducible exact Tk.here | apply Tk.there)); done))) (sites_split hx).symm .nil
    · simp only [hc, decide_false, if_false]
      refine GO ?_
      refine endQ_mk (Post := Full t R) (.inr rfl) (.tmp (by rfl) (.tmp (by rfl) (.tmp (by rfl) .nil))) ?_ ?_
      · simp only [SendP, hat, hc, if_true, if_false, and_self]; exact ⟨rfl, trivial⟩
      · simp only [Full, SitesI, Core_eq, List.cons_append, List.nil_append]; (first | with_reducible exact Imp.refl | with_reducible exact Imp.left | (focus ((try simp only [Core_eq]); (repeat (first | exact Imp.nil | (apply Imp.cons; (focus ((repeat (first | with_reducible exact Tk.here | apply Tk.there)); done))))); done)))
  · have hq : SendP t R at_ c s (okE none 224) (Full t R) := by
      rw [SendP, if_neg hat]; exact ⟨rfl, rfl⟩
    by_cases hneg : at_ < 0
    · simp only [hneg, decide_true]
      refine GO ?_
      refine endQ_mk (.inr rfl) (.tmp (by rfl) (.tmp (by rfl) (.tmp (by rfl) .nil))) hq ?_
      simp only [Full, SitesI, Core_eq, List.cons_append, List.nil_append]
      (first | with_reducible exact Imp.refl | with_reducible exact Imp.left | (focus ((try simp only [Core_eq]); (repeat (first | exact Imp.nil | (apply Imp.cons; (focus ((repeat (first | with_reducible exact Tk.here | apply Tk.there)); done))))); done)))
    · simp only [hneg, decide_false]
      refine GO ?_
      simp only [show (65536 ≤ at_) from by omega, decide_true]
      refine GO ?_
      refine endQ_mk (.inr rfl) (.tmp (by rfl) (.tmp (by rfl) (.tmp (by rfl) .nil))) hq ?_
      simp only [Full, SitesI, Core_eq, List.cons_append, List.nil_append]
      (first | with_reducible exact Imp.refl | with_reducible exact Imp.left | (focus ((try simp only [Core_eq]); (repeat (first | exact Imp.nil | (apply Imp.cons; (focus ((repeat (first | with_reducible exact Tk.here | apply Tk.there)); done))))); done)))
end Go.Proofs.Ytffmipimgodfdaa

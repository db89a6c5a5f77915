/-
  Contracts: Send.
-/
import Derived.Test.YtffmipimgodfdaaD3
import Derived.Test.YtffmipimgodfdaaD1
set_option linter.unusedSimpArgs false
set_option linter.unusedVariables false
namespace Go.Proofs.Ytffmipimgodfdaa
open Go Go.V
set_option maxHeartbeats 800000
set_option linter.unusedSimpArgs false
set_option linter.unusedVariables false
def okE (r : Option Int) (e : Int) : Value := .tuple #[vi (r.getD 0), .bool r.isSome, vi e]

/-- What a send at a site answers, and what there is behind it. -/
def SendP (t : Nat) (R : TRep) (at_ c : Int) (s : ByteArray) (v : Value) (Post : SH) : Prop :=
  if 0 ≤ at_ ∧ at_ < 65536 then
    if 0 ≤ c ∧ c < R.sup.length then ∃ b es k, ∃ x R1, siteR R.ask1 at_ s b es k = (x, R1) ∧ WF R1 ∧ WF (sendT R1 at_ c s x).2 ∧ v = okE (sendT R1 at_ c s x).1 0 ∧ Post = Full t (sendT R1 at_ c s x).2
    else v = okE none 220 ∧ Post = Full t R
  else v = okE none 224 ∧ Post = Full t R

theorem send_spec (t : Nat) (R : TRep) (at_ c : Int) (s : ByteArray) (h : WF R) (N : Nat) (hN : N < 140737488355328) (hT : TelOk R.tel N) (hs : s.size ≤ 1048576) :
    Fun Try.prog 10 [ptr0 t, vi at_, vi c, .string s] (Full t R) (SendP t R at_ c s) := by
  obtain ⟨sa, sc, hsv⟩ := h.sup.form
  obtain ⟨t1, t2, t3, t4, t5⟩ := hT
  refine Fun.intro low10 (by simp [F10]) ?_
  rw [show Full t R = Core t R ++ SitesI t R from rfl, Core_eq t R]
  simp only [SitesI, List.cons_append, List.nil_append]
  refine GO ?_
  by_cases hat : 0 ≤ at_ ∧ at_ < 65536
  · have e1 : decide (at_ < 0) = false := by simp; omega
    have e2 : decide (65536 ≤ at_) = false := by simp; omega
    simp only [e1]
    refine GO ?_
    simp only [e2]
    refine GO ?_
    refine st_call (is_spec t c sa R.sup.length sc R.dv) (by rfl) (by rw [← hsv]; (focus ((repeat (first | exact Spl.nil | (apply Spl.cons; (focus ((repeat (first | with_reducible exact Tk.here | apply Tk.there)); done))))); done))) (fun v Post hv => ?_)
    obtain ⟨rfl, rfl⟩ := hv
    rw [isc]
    simp only [List.cons_append, List.nil_append, ← hsv]
    by_cases hc : 0 ≤ c ∧ c < R.sup.length
    · simp only [hc, and_self, decide_true, if_true]
      have hT1 : TelOk R.ask1.tel (N + 1) := ⟨by simp [TRep.ask1]; omega, by simp [TRep.ask1]; omega, by simp [TRep.ask1]; omega, by simp [TRep.ask1]; omega, by simp [TRep.ask1]; omega⟩
      have h1 : WF R.ask1 := h.withTel _
      refine GO ?_
      refine st_lookup (E := kInt) (V := fun s : SiteR => ptr0 s.b) (k := at_) (by rfl) (by rfl) (by rfl) (by (focus ((repeat (first | with_reducible exact HasO.here | apply HasO.there)); done))) h.sites ?_
      (repeat (first
    | (first
    | (apply st_gt; rfl)
    | (apply st_gf; rfl; rfl)
    | (apply st_mv; rfl)
    | (apply st_nil; rfl)
    | (apply st_pick_t; rfl; rfl)
    | (apply st_pick_f; rfl; rfl)
    | (apply st_fld; rfl; ((try simp only [Nat.zero_add, Nat.add_zero, Nat.reduceAdd, Nat.reduceMul, Nat.add_assoc, Int.toNat_natCast, Nat.mul_one]); rfl))
    | (apply st_load1; rfl; (focus ((repeat (first | (apply Has.cells; omega; rfl) | apply Has.there)); done)))
    | (apply st_load1; rfl; (focus ((repeat (first | (apply Has.among; assumption) | apply Has.there)); done)))
    | (apply st_loadM; rfl; (focus ((repeat (first | (apply HasM.cells; omega; (focus (simp only [List.length_cons, List.length_nil, Nat.reduceAdd, Nat.zero_add, Nat.reduceSub, Nat.sub_self, Nat.reduceLeDiff, Nat.le_refl]; done)); (focus (simp only [lnb, Value.cells, Nat.zero_add, Nat.reduceEqDiff, ↓reduceIte, eq_self, Nat.reduceAdd, Nat.reduceSub, Nat.sub_self, Nat.reduceLeDiff, Nat.le_refl, and_self, rep, zeroRow] <;> rfl)); rfl) | apply HasM.there)); done)))
    | (apply st_ext; rfl; rfl)
    | (apply st_add; rfl; rfl; omega)
    | (apply st_sub; rfl; rfl; omega)
    | (apply st_mul; rfl; rfl; omega)
    | (apply st_rem; rfl; rfl; decide)
    | (apply st_idxL; rfl; rfl; omega; ((try simp only [Nat.zero_add, Nat.add_zero, Nat.reduceAdd, Nat.reduceMul, Nat.add_assoc, Int.toNat_natCast, Nat.mul_one]); rfl))
    | (apply st_idxA; rfl; rfl; omega; ((try simp only [Nat.zero_add, Nat.add_zero, Nat.reduceAdd, Nat.reduceMul, Nat.add_assoc, Int.toNat_natCast, Nat.mul_one]); rfl))
    | (apply st_build; rfl; (focus (simp only [lnb, Value.cells, Nat.zero_add, Nat.reduceEqDiff, ↓reduceIte, eq_self, Nat.reduceAdd, Nat.reduceSub, Nat.sub_self, Nat.reduceLeDiff, Nat.le_refl, and_self, rep, zeroRow] <;> rfl)))
    | (apply st_store'; rfl; rfl; (focus (simp only [lnb, Value.cells, Nat.zero_add, Nat.reduceEqDiff, ↓reduceIte, eq_self, Nat.reduceAdd, Nat.reduceSub, Nat.sub_self, Nat.reduceLeDiff, Nat.le_refl, and_self, rep, zeroRow] <;> rfl)); rfl; rfl; (focus ((repeat (first | (apply Upd.cells; omega; (focus (simp only [List.length_cons, List.length_nil, Nat.reduceAdd, Nat.zero_add, Nat.reduceSub, Nat.sub_self, Nat.reduceLeDiff, Nat.le_refl]; done)); (focus (simp only [lnb, Value.cells, Nat.zero_add, Nat.reduceEqDiff, ↓reduceIte, eq_self, Nat.reduceAdd, Nat.reduceSub, Nat.sub_self, Nat.reduceLeDiff, Nat.le_refl, and_self, rep, zeroRow] <;> rfl))) | apply Upd.there)); done)))
    | (apply st_pure; rfl; rfl; rfl))
    | (refine VO.nil ?_; simp only [V.argsEnv, V.restr, V.look, V.putE, V.thenQ, V.blockQ, Nat.zero_add, Nat.reduceAdd, Nat.reduceEqDiff, ↓reduceIte, eq_self])))
      refine VC.join (α := SiteR × TRep) (fun y => [(0, ptr0 t), (2, vi c), (3, .string s), (11, ptr0 y.1.b)]) (fun y => cellsAt y.1.b 0 (sCells y.1) :: (mdel at_ y.2.sites).flatMap sAtoms :: cellsAt t 194 [.map (some R.sm)] :: [.obj R.sm (.map y.2.ses y.2.sc)] :: Core t y.2)
        (fun y => ∃ b es k, siteR R.ask1 at_ s b es k = y ∧ WF y.2 ∧ TelOk y.2.tel (N + 1) ∧ mget at_ y.2.sites = some y.1 ∧ y.2.sup = R.sup ∧ y.2.sm = R.sm) ?_ ?_
      · cases h0 : mget at_ R.sites with
        | none =>
          simp only [Option.map_none, lookV, Bool.false_eq_true, if_false]
          refine GO ?_
          refine st_box (by rfl) (fun b => ?_)
          simp only [Value.cells]
          refine GO ?_
          refine st_mapupd (E := kInt) (V := fun s : SiteR => ptr0 s.b) (k := at_) (v := ⟨b, s, 0, [0, 0, 0, 0], [0, 0, 0, 0]⟩) (by rfl) (by rfl) (by rfl) (by rfl) (by (focus ((repeat (first | with_reducible exact Tk.here | apply Tk.there)); done))) h.sites (fun es' c' hm' => ?_)
          refine GO ?_
          refine ⟨(⟨b, s, 0, [0, 0, 0, 0], [0, 0, 0, 0]⟩, { R.ask1 with sites := mset at_ ⟨b, s, 0, [0, 0, 0, 0], [0, 0, 0, 0]⟩ R.sites, ses := es', sc := c' }), ⟨b, es', c', ?_, h1.laid hm' ⟨rfl, rfl, by simp⟩, hT1, by simp [mget_mset], rfl, rfl⟩, by (repeat (first | exact Sub.nil | (apply Sub.cons; rfl))), ?_⟩
          · simp [siteR, TRep.ask1, h0]
          · simp [mdel_mset, mget_none_mdel h0, TRep.ask1, Core_eq, sCells]
            (first | with_reducible exact Imp.refl | with_reducible exact Imp.left | (focus ((try simp only [Core_eq]); (repeat (first | exact Imp.nil | (apply Imp.cons; (focus ((repeat (first | with_reducible exact Tk.here | apply Tk.there)); done))))); done)))
        | some x =>
          simp only [Option.map_some, lookV, Bool.false_eq_true, if_false]
          refine VC.split (by (focus ((repeat (first | with_reducible exact Tk.here | apply Tk.there)); done))) (sites_split h0) ?_
          refine GO ?_
          by_cases hsel : x.sel = s
          · simp only [hsel, decide_true, Bool.not_true]
            refine GO ?_
            refine ⟨(x, R.ask1), ⟨0, #[], 0, ?_, h1, hT1, h0, rfl, rfl⟩, by (repeat (first | exact Sub.nil | (apply Sub.cons; rfl))), ?_⟩
            · simp [siteR, TRep.ask1, h0, hsel]
            · simp [TRep.ask1, Core_eq]
              (first | with_reducible exact Imp.refl | with_reducible exact Imp.left | (focus ((try simp only [Core_eq]); (repeat (first | exact Imp.nil | (apply Imp.cons; (focus ((repeat (first | with_reducible exact Tk.here | apply Tk.there)); done))))); done)))
          · simp only [hsel, decide_false, Bool.not_false]
            refine GO ?_
            refine st_box (by rfl) (fun b => ?_)
            simp only [Value.cells]
            refine GO ?_
            refine st_mapupd (E := kInt) (V := fun s : SiteR => ptr0 s.b) (k := at_) (v := ⟨b, s, 0, [0, 0, 0, 0], [0, 0, 0, 0]⟩) (by rfl) (by rfl) (by rfl) (by rfl) (by (focus ((repeat (first | with_reducible exact Tk.here | apply Tk.there)); done))) h.sites (fun es' c' hm' => ?_)
            refine GO ?_
            refine ⟨(⟨b, s, 0, [0, 0, 0, 0], [0, 0, 0, 0]⟩, { R.ask1 with sites := mset at_ ⟨b, s, 0, [0, 0, 0, 0], [0, 0, 0, 0]⟩ R.sites, ses := es', sc := c' }), ⟨b, es', c', ?_, h1.laid hm' ⟨rfl, rfl, by simp⟩, hT1, by simp [mget_mset], rfl, rfl⟩, by (repeat (first | exact Sub.nil | (apply Sub.cons; rfl))), ?_⟩
            · simp [siteR, TRep.ask1, h0, hsel]
            · simp [mdel_mset, TRep.ask1, Core_eq, sCells]
              (first | with_reducible exact Imp.refl | with_reducible exact Imp.left | (focus ((try simp only [Core_eq]); (repeat (first | exact Imp.nil | (apply Imp.cons; (focus ((repeat (first | with_reducible exact Tk.here | apply Tk.there)); done))))); done)))
      · rintro ⟨x, R1⟩ ⟨b, es, k, hy, hw, hT1, hx, hsup, hsm⟩
        simp only at hw hT1 hx hsup hsm
        have hxs : x.cls.length = 4 ∧ x.ms.length = 4 ∧ x.n ≤ 4 := hw.site (at_, x) (mget_mem hx)
        have hT2 := hT1
        obtain ⟨u1, u2, u3, u4, u5⟩ := hT2
        refine GO ?_
        refine st_call (find_spec x.b x c hxs) (by rfl) (by (focus ((repeat (first | exact Spl.nil | (apply Spl.cons; (focus ((repeat (first | with_reducible exact Tk.here | apply Tk.there)); done))))); done))) (fun v Post hv => ?_)
        obtain ⟨rfl, rfl⟩ := hv
        simp only [List.cons_append, List.nil_append]
        have hP : ∀ r : Option Int × TRep, sendT R1 at_ c s x = r → WF r.2 → SendP t R at_ c s (okE r.1 0) (Full t r.2) := by
          intro r hr hwr
          simp only [SendP, hat, hc, and_self, if_true]
          exact ⟨b, es, k, x, R1, hy, hw, by rw [hr]; exact hwr, by rw [hr], by rw [hr]⟩
        have hlen := sCells_len ⟨hxs.1, hxs.2.1⟩
        cases hf : fnd x.cls x.n c with
        | some i =>
          obtain ⟨hi1, hi2⟩ := fnd_is hf
          have hr : sendT R1 at_ c s x = (some (x.ms[i]'(by omega)), { R1 with tel := { R1.tel with inl := R1.tel.inl + 1 } }) := by
            rw [sendT_hit hf]
            simp [show i < x.ms.length by omega]
          simp only
          rw [Core_eq]
          refine GO ?_
          refine st_load1 (v := vi (x.ms[i]'(by omega))) (by rfl) (.cells (by omega) ?_) ?_
          · rw [Nat.sub_zero, sCells_m hxs.1]
            simp [show i < x.ms.length by omega]
          refine GO ?_
          refine endQ_mk (.inr rfl) (.tmp (by rfl) (.tmp (by rfl) (.tmp (by rfl) .nil))) (hP _ hr (hw.withTel _)) ?_
          simp [Full, SitesI, Core_eq, hsm]
          (repeat (apply Imp.cons; (focus ((repeat (first | with_reducible exact Tk.here | apply Tk.there)); done))))
          exact Imp.glue (by (focus ((repeat (first | with_reducible exact Tk.here | apply Tk.there)); done))) (by (focus ((repeat (first | with_reducible exact Tk.here | apply Tk.there)); done))) (sites_split hx).symm .nil
        | none =>
          simp only
          refine GO ?_
          refine st_call (ask_spec t R1 c s hw (N + 1) (by omega) hT1 (by rw [hsup]; exact hc) hs) (by rfl) (by simp only [Core_eq]; (focus ((repeat (first | exact Spl.nil | (apply Spl.cons; (focus ((repeat (first | with_reducible exact Tk.here | apply Tk.there)); done))))); done))) (fun v Post hv => ?_)
          obtain ⟨rfl, rfl⟩ := hv
          simp only [okM]
          obtain ⟨g1, g2, g3, g4⟩ := askR_sites R1 c s
          have hwa := hw.ask c s
          have hx' : mget at_ (askR R1 c s).2.sites = some x := by rw [g1]; exact hx
          cases hm : (askR R1 c s).1 with
          | none =>
            have hQ := hP _ (sendT_ask hf (.inl hm)) hwa
            rw [hm] at hQ
            simp only [Option.isSome_none, Option.getD_none]
            refine GO ?_
            refine endQ_mk (.inr rfl) (.tmp (by rfl) (.tmp (by rfl) (.tmp (by rfl) .nil))) hQ ?_
            simp only [Full, SitesI, Core_eq, hsm, g1, g2, g3, g4, List.cons_append, List.nil_append]
            (repeat (apply Imp.cons; (focus ((repeat (first | with_reducible exact Tk.here | apply Tk.there)); done))))
            exact Imp.glue (by (focus ((repeat (first | with_reducible exact Tk.here | apply Tk.there)); done))) (by (focus ((repeat (first | with_reducible exact Tk.here | apply Tk.there)); done))) (sites_split hx).symm .nil
          | some m =>
            simp only [Option.isSome_some, Option.getD_some]
            refine GO ?_
            by_cases hn : x.n < 4
            · have hQ := hP _ (sendT_more hf hm hn) (hwa.more hx' hn)
              simp only [show ((x.n : Int) < 4) from by omega, decide_true]
              refine GO ?_
              simp only [Core_eq, List.cons_append, List.nil_append]
              refine VO.pull (A := cellsAt x.b 0 (sCells x)) (by (focus ((repeat (first | with_reducible exact Tk.here | apply Tk.there)); done))) ?_
              refine st_store' (us := [vi c]) (by rfl) (by rfl) (by rfl) (by rfl) (by rfl) (Upd.set1 (i := 2 + x.n) (by omega) (by omega)) ?_
              refine GO ?_
              refine st_store' (us := [vi m]) (by rfl) (by rfl) (by rfl) (by rfl) (by rfl) (Upd.set1 (i := 6 + x.n) (by omega) (by simp; omega)) ?_
              refine GO ?_
              refine st_load1 (v := vi x.n) (by rfl) (.cells (by omega) ?_) ?_
              · rw [List.getElem?_set_ne (by omega), List.getElem?_set_ne (by omega)]; rfl
              refine GO ?_
              refine st_store' (us := [vi (x.n + 1)]) (by rfl) (by rfl) (by rfl) (by rfl) (by rfl) (Upd.set1 (i := 1) (by omega) (by simp; omega)) ?_
              rw [sCells_more ⟨hxs.1, hxs.2.1⟩ hn]
              refine GO ?_
              refine endQ_mk (.inr rfl) (.tmp (by rfl) (.tmp (by rfl) (.tmp (by rfl) .nil))) hQ ?_
              simp only [Full, SitesI, Core_eq, hsm, g1, g2, g3, g4, List.cons_append, List.nil_append]
              (repeat (apply Imp.cons; (focus ((repeat (first | with_reducible exact Tk.here | apply Tk.there)); done))))
              have hj : (cellsAt x.b 0 (sCells (x.more c m)) ++ (mdel at_ R1.sites).flatMap sAtoms).Perm ((mset at_ (x.more c m) R1.sites).flatMap sAtoms) := sites_join (x := x.more c m)
              exact Imp.glue (by (focus ((repeat (first | with_reducible exact Tk.here | apply Tk.there)); done))) (by (focus ((repeat (first | with_reducible exact Tk.here | apply Tk.there)); done))) hj .nil
            · have hQ := hP _ (sendT_ask hf (.inr hn)) hwa
              rw [hm] at hQ
              simp only [show ¬ ((x.n : Int) < 4) from by omega, decide_false]
              refine GO ?_
              refine endQ_mk (.inr rfl) (.tmp (by rfl) (.tmp (by rfl) (.tmp (by rfl) .nil))) hQ ?_
              simp only [Full, SitesI, Core_eq, hsm, g1, g2, g3, g4, List.cons_append, List.nil_append]
              (repeat (apply Imp.cons; (focus ((repeat (first | with_reducible exact Tk.here | apply Tk.there)); done))))
              exact Imp.glue (by (focus ((repeat (first | with_reducible exact Tk.here | apply Tk.there)); done))) (by (focus ((repeat (first | with_reducible exact Tk.here | apply Tk.there)); done))) (sites_split hx).symm .nil
    · simp only [hc, decide_false, if_false]
      refine GO ?_
      refine endQ_mk (Post := Full t R) (.inr rfl) (.tmp (by rfl) (.tmp (by rfl) (.tmp (by rfl) .nil))) ?_ ?_
      · simp only [SendP, hat, hc, if_true, if_false, and_self]; exact ⟨rfl, trivial⟩
      · simp only [Full, SitesI, Core_eq, List.cons_append, List.nil_append]; (first | with_reducible exact Imp.refl | with_reducible exact Imp.left | (focus ((try simp only [Core_eq]); (repeat (first | exact Imp.nil | (apply Imp.cons; (focus ((repeat (first | with_reducible exact Tk.here | apply Tk.there)); done))))); done)))
  · have hq : SendP t R at_ c s (okE none 224) (Full t R) := by
      rw [SendP, if_neg hat]; exact ⟨rfl, rfl⟩
    by_cases hneg : at_ < 0
    · simp only [hneg, decide_true]
      refine GO ?_
      refine endQ_mk (.inr rfl) (.tmp (by rfl) (.tmp (by rfl) (.tmp (by rfl) .nil))) hq ?_
      simp only [Full, SitesI, Core_eq, List.cons_append, List.nil_append]
      (first | with_reducible exact Imp.refl | with_reducible exact Imp.left | (focus ((try simp only [Core_eq]); (repeat (first | exact Imp.nil | (apply Imp.cons; (focus ((repeat (first | with_reducible exact Tk.here | apply Tk.there)); done))))); done)))
    · simp only [hneg, decide_false]
      refine GO ?_
      simp only [show (65536 ≤ at_) from by omega, decide_true]
      refine GO ?_
      refine endQ_mk (.inr rfl) (.tmp (by rfl) (.tmp (by rfl) (.tmp (by rfl) .nil))) hq ?_
      simp only [Full, SitesI, Core_eq, List.cons_append, List.nil_append]
      (first | with_reducible exact Imp.refl | with_reducible exact Imp.left | (focus ((try simp only [Core_eq]); (repeat (first | exact Imp.nil | (apply Imp.cons; (focus ((repeat (first | with_reducible exact Tk.here | apply Tk.there)); done))))); done)))
end Go.Proofs.Ytffmipimgodfdaa
namespace Go.V
open Go

/-- What is known of some selectors is forgotten. -/
def fgt (g : ByteArray → Bool) (k : Known) : Known := if g k.s then noKnown else k
def forgetR (R : TRep) (g : ByteArray → Bool) (es : Array MapEntry) : TRep := { R with glob := R.glob.map (fgt g), sites := R.sites.filter (fun p => !g p.2.sel), ses := es }

/-- The first places alone. -/
def fgtTo (g : ByteArray → Bool) (l : List Known) (k : Nat) : List Known := (l.take k).map (fgt g) ++ l.drop k

theorem fgtTo_len (g : ByteArray → Bool) (l : List Known) (k : Nat) : (fgtTo g l k).length = l.length := by simp [fgtTo]; omega

theorem fgtTo_at {g : ByteArray → Bool} {l : List Known} {k : Nat} (h : k < l.length) : (fgtTo g l k)[k]? = some l[k] := by
  unfold fgtTo
  rw [List.getElem?_append_right (by simp; omega)]
  simp [Nat.min_eq_left (Nat.le_of_lt h), h]

theorem fgtTo_step {g : ByteArray → Bool} {l : List Known} {k : Nat} (h : k < l.length) : fgtTo g l (k + 1) = (fgtTo g l k).set k (fgt g l[k]) := by
  apply List.ext_getElem?
  intro i
  unfold fgtTo
  rw [List.getElem?_set]
  split
  · rename_i e; subst e
    rw [List.getElem?_append_left (by simp; omega)]
    have : k < min k l.length + (l.length - k) := by omega
    simp [h, this]
  · rename_i e
    by_cases hi : i < k
    · rw [List.getElem?_append_left (by simp; omega), List.getElem?_append_left (by simp; omega)]
      simp [hi, show i < k + 1 by omega]
    · rw [List.getElem?_append_right (by simp; omega), List.getElem?_append_right (by simp; omega)]
      simp only [List.length_map, List.length_take, List.getElem?_drop]
      congr 1; omega

theorem fgtTo_keep {g : ByteArray → Bool} {l : List Known} {k : Nat} (h : k < l.length) (hg : g l[k].s = false) : fgtTo g l (k + 1) = fgtTo g l k := by
  rw [fgtTo_step h]
  apply List.ext_getElem?
  intro i
  rw [List.getElem?_set]
  split
  · rename_i e; subst e
    rw [fgtTo_at h]
    simp [fgtTo_len, h, fgt, hg]
  · rfl

theorem fgtTo_zero (g : ByteArray → Bool) (l : List Known) : fgtTo g l 0 = l := by simp [fgtTo]
theorem fgtTo_all {g : ByteArray → Bool} {l : List Known} {k : Nat} (h : k = l.length) : fgtTo g l k = l.map (fgt g) := by subst h; simp [fgtTo]

theorem WF.forget {R : TRep} (h : WF R) {g : ByteArray → Bool} {es : Array MapEntry} (hm : MapIs kInt (fun s : SiteR => ptr0 s.b) es R.sc (R.sites.filter fun p => !g p.2.sel)) : WF (forgetR R g es) := by
  obtain ⟨h1, h2, h3, h4, h5, h6, h7, h8, h9, h10, h11⟩ := h
  exact ⟨h1, h2, h3, h4, h5, h6, by simpa [forgetR] using h7, h8, (List.filter_sublist.map _).nodup h9, hm, fun p hp => h11 p (List.mem_filter.1 hp).1⟩

theorem slA_some (b o n c : Nat) (xs sp : List Value) : slA (.slice (some ⟨b, o, none⟩) n c) xs sp = cellsAt b o (xs ++ sp) := rfl

/-- Another dictionary for a class. -/
def layR (R : TRep) (c : Int) (d : DicR) : TRep := { R with dics := R.dics.set c.toNat d }

theorem layR_ptrs {R : TRep} {c : Int} {d d' : DicR} (hd : R.dics[c.toNat]? = some d) (hb : d'.b = d.b) : ((R.dics.set c.toNat d').map fun d => Value.map (some d.b)) = R.dics.map fun d => .map (some d.b) := by
  apply List.ext_getElem?
  intro i
  simp only [List.getElem?_map, List.getElem?_set]
  split
  · rename_i e; subst e
    obtain ⟨h1, h2⟩ := List.getElem?_eq_some_iff.1 hd
    simp [h1, h2, hb]
  · rfl

theorem WF.lay {R : TRep} (h : WF R) {c : Int} {d d' : DicR} (hd : R.dics[c.toNat]? = some d) (hb : d'.b = d.b) (hm : MapIs kStr vi d'.es d'.c d'.m) (hk : (d'.m.map (·.1)).Nodup) : WF (layR R c d') := by
  obtain ⟨h1, h2, h3, h4, h5, h6, h7, h8, h9, h10, h11⟩ := h
  refine ⟨h1, ?_, by simpa [layR] using h3, h4, h5, fun x hx => ?_, h7, fun x hx => ?_, h9, h10, h11⟩
  · simp only [layR]; rw [layR_ptrs hd hb]; exact h2
  · rcases List.mem_or_eq_of_mem_set hx with hx | rfl
    · exact h6 x hx
    · exact hm
  · rcases List.mem_or_eq_of_mem_set hx with hx | rfl
    · exact h8 x hx
    · exact hk

theorem layR_dic {R : TRep} {c : Int} {d' : DicR} (h0 : 0 ≤ c) (h1 : c.toNat < R.dics.length) (k : Int) : (layR R c d').dic k = if k = c then d'.m else R.dic k := by
  simp only [TRep.dic, layR, List.getElem?_set]
  by_cases e : k = c
  · subst e; simp [h0, h1]
  · by_cases hk : 0 ≤ k
    · have : ¬ c.toNat = k.toNat := by omega
      simp [e, this]
    · simp [e, hk]

/-- A slice of numbers that is read alone: where its cells are among some memory. -/
def RdInts (A : List Atom) (v : Value) (xs : List Int) : Prop := (v = .slice none 0 0 ∧ xs = []) ∨ ∃ b o c, v = .slice (some ⟨b, o, none⟩) xs.length c ∧ ∀ i x, xs[i]? = some x → Atom.cell b (o + i) (vi x) ∈ A

theorem RdInts.form {A : List Atom} {v : Value} {xs : List Int} (h : RdInts A v xs) : ∃ a c, v = .slice a xs.length c := by
  rcases h with ⟨rfl, rfl⟩ | ⟨b, o, c, rfl, _⟩
  · exact ⟨_, _, rfl⟩
  · exact ⟨_, _, rfl⟩

theorem RdInts.pos {A : List Atom} {v : Value} {xs : List Int} (h : RdInts A v xs) (hn : 0 < xs.length) : ∃ b o c, v = .slice (some ⟨b, o, none⟩) xs.length c ∧ ∀ i x, xs[i]? = some x → Atom.cell b (o + i) (vi x) ∈ A := by
  rcases h with ⟨rfl, rfl⟩ | h
  · simp at hn
  · exact h

theorem RdInts.src {b o : Nat} {A : List Atom} {xs : List Int} (h : ∀ i x, xs[i]? = some x → Atom.cell b (o + i) (vi x) ∈ A) : ∀ x ∈ cellsAt b o (xs.map vi), x ∈ A := by
  intro x hx
  obtain ⟨i, v, hi, rfl⟩ := mem_cellsAt.1 hx
  simp only [List.getElem?_map, Option.map_eq_some_iff] at hi
  obtain ⟨y, hy, rfl⟩ := hi
  exact h i y hy

/-- Which classes there may be. -/
def NewOk (xs : List Int) : Prop := xs.length ≤ 4096 ∧ ∀ (i : Nat) s, xs[i]? = some s → -1 ≤ s ∧ s < i

/-- A new table's memory. -/
structure Fresh (R : TRep) (xs : List Int) : Prop where
  wf : WF R
  sup : R.sup = xs
  dics : ∀ d ∈ R.dics, d.m = []
  glob : R.glob = List.replicate 64 noKnown
  sites : R.sites = []
  tel : R.tel = {}

def newCells (sv dv : Value) (sm : Nat) : List Value := [sv, dv] ++ ((List.replicate 64 noKnown).flatMap kEnc ++ ([.map (some sm)] ++ telEnc {}))

theorem newCells_at (t : Nat) (sv dv : Value) (sm : Nat) : cellsAt t 0 (newCells sv dv sm) = cellsAt t 0 [sv, dv] ++ (cellsAt t 2 ((List.replicate 64 noKnown).flatMap kEnc) ++ (cellsAt t 194 [.map (some sm)] ++ cellsAt t 195 (telEnc {}))) := by
  unfold newCells
  rw [cellsAt_append, cellsAt_append, cellsAt_append]
  rw [flatMap_len (n := 3) kEnc_len]
  rfl


theorem zeroRow_one (n : Nat) (v : Value) : zeroRow n [v] = List.replicate n v := by
  unfold zeroRow
  rw [List.eq_replicate_iff]
  refine ⟨by simp, fun x hx => ?_⟩
  obtain ⟨i, _, rfl⟩ := List.mem_map.1 hx
  simp [Nat.mod_one]

theorem set_mid {α : Type} (l : List α) (m : Nat) (x y : α) : (l ++ List.replicate (m + 1) x).set l.length y = (l ++ [y]) ++ List.replicate m x := by
  rw [List.set_append_right _ _ (Nat.le_refl _)]
  simp [List.replicate_succ]

def newRep (xs : List Int) (sv : Value) (sp : List Value) (db sm : Nat) (ds : List DicR) : TRep :=
  { sup := xs, sv := sv, ssp := sp, dv := .slice (some ⟨db, 0, none⟩) xs.length xs.length, dics := ds, glob := List.replicate 64 noKnown, sm := sm, ses := #[], sc := 0, sites := [], tel := {} }

theorem newRep_fresh {xs : List Int} {sv : Value} {sp : List Value} {db sm : Nat} {ds : List DicR} (hok : NewOk xs) (hsl : IsSl 1 sv xs.length (xs.map vi) sp) (hl : ds.length = xs.length) (hd : ∀ d ∈ ds, d.es = #[] ∧ d.c = 0 ∧ d.m = []) : Fresh (newRep xs sv sp db sm ds) xs := by
  refine ⟨⟨hsl, .mk (by simp [hl, newRep]) (by simp [hl, newRep]) (Nat.le_refl _), hl, hok.1, hok.2, fun d hd' => ?_, by simp [newRep], fun d hd' => ?_, by simp [newRep], .nil, by simp [newRep]⟩, rfl, fun d h => (hd d h).2.2, rfl, rfl, rfl⟩
  · obtain ⟨h1, h2, h3⟩ := hd d hd'
    rw [h1, h2, h3]; exact .nil
  · rw [(hd d hd').2.2]; simp
end Go.V

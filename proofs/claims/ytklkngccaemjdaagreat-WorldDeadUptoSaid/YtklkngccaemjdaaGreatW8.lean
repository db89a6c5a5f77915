/-
  The outside world: deeds, in terms of lists.
-/
import Derived.Test.YtklkngccaemjdaaGreatW4
import Derived.Test.YtklkngccaemjdaaGreatW6
import Derived.Test.YtklkngccaemjdaaGreatWOd
import Derived.Test.YtklkngccaemjdaaGreatWN
set_option linter.unusedSimpArgs false
set_option linter.unusedVariables false
namespace Go.V
open Go
theorem deed_end {w w2 : WR} {a : AW} {M : Nat} {d out : De} {F : AW → Ch → Int × De × AW} {tv' : Value} {tsp' : List Value} (hR : Rep w a M) (hl : liveA a = true) (h3 : Rep w2 (F (takeA a) (chA a)).2.2 (M + 1)) (h4 : (F (takeA a) (chA a)).2.2.trace = a.trace)
    (ho : out = if (F (takeA a) (chA a)).1 = 0 then (F (takeA a) (chA a)).2.1 else { d with err := (F (takeA a) (chA a)).1 }) (hs : IsSl 6 tv' (w2.trace.length + 1) (w2.trace.flatMap deEnc ++ deEnc out) tsp') :
    Rep { w2 with tv := tv', trace := w2.trace ++ [out], tsp := tsp' } (deedA a d F).2.2 (M + 1) ∧ (deedA a d F).1 = out ∧ (deedA a d F).2.1 = out.err := by
  have hd : deedA a d F = (out, out.err, { (F (takeA a) (chA a)).2.2 with trace := (F (takeA a) (chA a)).2.2.trace ++ [out] }) := by
    simp only [deedA, hl, if_true, ho]
  rw [hd]
  have htr : w2.trace.length ≤ M := by
    rw [h3.tr, h4, ← hR.tr]; exact hR.ok.trmany
  refine ⟨{ h3 with tr := by simp only [h3.tr], ok := { h3.ok with tr := ?_, trmany := ?_ } }, rfl, rfl⟩
  · simpa [List.flatMap_append] using hs
  · simp only [List.length_append, List.length_singleton]; omega
end Go.V
namespace Go.Proofs.YtklkngccaemjdaaGreat
open Go Go.V
set_option maxHeartbeats 3200000
set_option maxRecDepth 100000
set_option linter.unusedSimpArgs false
set_option linter.unusedVariables false

theorem deedR (t : Nat) (w : WR) (a : AW) (M : Nat) (d : De) (fv : Value) (B : List Atom) (f : AW → Ch → Int × De × AW) (hR : Rep w a M) (hM : M + 1 ≤ 1073741823) (ht : (f (takeA a) (chA a)).2.2.trace = a.trace)
    (hdoes : ∀ w1 q, Rep w1 (takeA a) M → FunV Tryz.prog fv [.agg (chEnc (chA a)).toArray, ptr0 q] (WMem t w1 ++ [cellsAt q 0 (deEnc d), B]) (fun v Post => ∃ w2, v = vi (f (takeA a) (chA a)).1 ∧ Rep w2 (f (takeA a) (chA a)).2.2 (M + 1) ∧ Post = WMem t w2 ++ [cellsAt q 0 (deEnc (f (takeA a) (chA a)).2.1), B])) :
    Fun Tryz.prog 46 [ptr0 t, .agg (deEnc d).toArray, fv] (WMem t w ++ [B]) (fun v Post => ∃ w', Rep w' (deedA a d f).2.2 (M + 1) ∧ v = .tuple #[.agg (deEnc (deedA a d f).1).toArray, vi (deedA a d f).2.1] ∧ Post = WMem t w' ++ [B]) := by
  refine (deed_spec t w d fv B (M + 1) (by omega) (fun w1 c e d' w2 => e = (f (takeA a) (chA a)).1 ∧ d' = (f (takeA a) (chA a)).2.1 ∧ Rep w2 (f (takeA a) (chA a)).2.2 (M + 1)) hR.ok.ch (fun w1 q hT hl => ?_) (fun w1 c e d' w2 hq => ⟨hq.2.2.ok.tr, hq.2.2.ok.trmany⟩)).mono ?_
  · rw [(hR.take hT).2.1]
    refine (hdoes w1 q (hR.take hT).1).mono ?_
    rintro v Post ⟨w2, rfl, h2, rfl⟩
    exact ⟨_, _, w2, rfl, ⟨rfl, rfl, h2⟩, rfl⟩
  · rintro v Post ⟨w1, hT, hv⟩
    obtain ⟨hR1, hc, hl⟩ := hR.take hT
    rcases hv with ⟨h1, rfl, rfl⟩ | ⟨h1, e, d', w2, out, tv', tsp', hq, ho, rfl, hs, rfl⟩
    · have : deedA a d f = (noDe, 36, takeA a) := by simp [deedA, ← hl, h1]
      rw [this]; exact ⟨w1, hR1.mono (by omega), rfl, rfl⟩
    · obtain ⟨rfl, rfl, h3⟩ := hq
      obtain ⟨g1, g2, g3⟩ := deed_end hR (by rw [← hl, h1]) h3 ht ho hs
      exact ⟨_, g1, by rw [g2, g3], rfl⟩

theorem filedR (t : Nat) (w : WR) (a : AW) (M : Nat) (d : De) (fv : Value) (B : List Atom) (f : AW → Int × De × AW) (hR : Rep w a M) (hM : M + 1 ≤ 1073741823) (ht : (f (takeA a)).2.2.trace = a.trace)
    (hcell : fv.cells = #[fv]) (hone : oneCell fv = true)
    (hdoes : ∀ w1 q, Rep w1 (takeA a) M → FunV Tryz.prog fv [ptr0 q] (WMem t w1 ++ [cellsAt q 0 (deEnc d), B]) (fun v Post => ∃ w2, v = vi (f (takeA a)).1 ∧ Rep w2 (f (takeA a)).2.2 (M + 1) ∧ Post = WMem t w2 ++ [cellsAt q 0 (deEnc (f (takeA a)).2.1), B])) :
    Fun Tryz.prog 48 [ptr0 t, .agg (deEnc d).toArray, fv] (WMem t w ++ [B]) (fun v Post => ∃ w', Rep w' (deedA a d (faultA d f)).2.2 (M + 1) ∧ v = .tuple #[.agg (deEnc (deedA a d (faultA d f)).1).toArray, vi (deedA a d (faultA d f)).2.1] ∧ Post = WMem t w' ++ [B]) := by
  refine (filed_spec t w d fv B (M + 1) (by omega) (fun w1 e d' w2 => e = (f (takeA a)).1 ∧ d' = (f (takeA a)).2.1 ∧ Rep w2 (f (takeA a)).2.2 (M + 1)) hR.ok.ch ⟨hR.ok.tr, by have := hR.ok.trmany; omega⟩ hcell hone (fun w1 q hT hl => ?_) (fun w1 e d' w2 hq => ⟨hq.2.2.ok.tr, hq.2.2.ok.trmany⟩)).mono ?_
  · refine (hdoes w1 q (hR.take hT).1).mono ?_
    rintro v Post ⟨w2, rfl, h2, rfl⟩
    exact ⟨_, _, w2, rfl, ⟨rfl, rfl, h2⟩, rfl⟩
  · rintro v Post ⟨w1, hT, hv⟩
    obtain ⟨hR1, hc, hl⟩ := hR.take hT
    rcases hv with ⟨h1, rfl, rfl⟩ | ⟨h1, e, d', w2, out, tv', tsp', ⟨hq, _⟩, ho, rfl, hs, rfl⟩
    · have : deedA a d (faultA d f) = (noDe, 36, takeA a) := by simp [deedA, ← hl, h1]
      rw [this]; exact ⟨w1, hR1.mono (by omega), rfl, rfl⟩
    · rw [hc] at hq
      have key : e = (faultA d f (takeA a) (chA a)).1 ∧ d' = (faultA d f (takeA a) (chA a)).2.1 ∧ Rep w2 (faultA d f (takeA a) (chA a)).2.2 (M + 1) ∧ (faultA d f (takeA a) (chA a)).2.2.trace = a.trace := by
        rcases hq with ⟨k1, k2, rfl, rfl, rfl⟩ | ⟨k1, rfl, rfl, k3⟩
        · simp only [faultA, if_pos (And.intro k1 k2)]; exact ⟨trivial, trivial, hR1.mono (by omega), rfl⟩
        · simp only [faultA, if_neg k1]; exact ⟨trivial, trivial, k3, ht⟩
      obtain ⟨rfl, rfl, h3, h4⟩ := key
      obtain ⟨g1, g2, g3⟩ := deed_end hR (by rw [← hl, h1]) h3 h4 ho hs
      exact ⟨_, g1, by rw [g2, g3], rfl⟩
end Go.Proofs.YtklkngccaemjdaaGreat
namespace Go.Proofs.YtklkngccaemjdaaGreat
open Go Go.V
set_option maxHeartbeats 3200000
set_option maxRecDepth 100000
set_option linter.unusedSimpArgs false
set_option linter.unusedVariables false
theorem seek1_spec (t : Nat) (w : WR) (a : AW) (M : Nat) (hM : M ≤ 1073741822) (hR : Rep w a M) (n at_ : Int) (q b3 b4 b5 : Nat) (d : De) :
    Fun Tryz.prog 97 [ptr0 q, ptr0 b3, ptr0 b4, ptr0 b5] (WMem t w ++ [cellsAt q 0 (deEnc d), cellsAt b3 0 [ptr0 t], cellsAt b4 0 [vi n], cellsAt b5 0 [vi at_]])
      (fun v Post => ∃ w2, v = vi (seekF n at_ d a).1 ∧ Rep w2 (seekF n at_ d a).2.2 (M + 1) ∧ Post = WMem t w2 ++ [cellsAt q 0 (deEnc (seekF n at_ d a).2.1), cellsAt b3 0 [ptr0 t], cellsAt b4 0 [vi n], cellsAt b5 0 [vi at_]]) := by
  refine Fun.intro low97 (by simp [F97]) ?_
  simp only [WMem, List.cons_append, List.nil_append]
  have hmany := hR.ok.hmany
  refine GO ?_
  refine st_call (held_spec t w n false hR.ok.hv (by omega)) (by rfl) (by simp only [hdr]; (focus ((repeat (first | exact Spl.nil | (apply Spl.cons; (focus ((repeat (first | with_reducible exact Tk.here | apply Tk.there)); done))))); done))) (fun v Post hv => ?_)
  obtain ⟨⟨p, rfl, hp1, hp2⟩, rfl⟩ := hv
  rw [hR.held] at hp1 hp2
  simp only [hR.held, hdr, List.cons_append, List.nil_append]
  refine GO ?_
  by_cases he : heldE a.hs n false = 0
  rotate_left
  · simp only [he, decide_false, Bool.not_false]
    refine GO ?_
    rw [show seekF n at_ d a = (heldE a.hs n false, d, a) from by simp [seekF, he]]; refine endQ_mk (Post := WMem t w ++ [cellsAt q 0 (deEnc d), cellsAt b3 0 [ptr0 t], cellsAt b4 0 [vi n], cellsAt b5 0 [vi at_]]) (.inr rfl) (.tmp (by rfl) .nil) ⟨w, rfl, hR.mono (Nat.le_succ M), rfl⟩ ?_
    simp only [WMem, List.cons_append, List.nil_append]; (first | with_reducible exact Imp.refl | with_reducible exact Imp.left | (focus ((try simp only [List.nil_append]); (repeat (first | exact Imp.nil | (apply Imp.cons; (focus ((repeat (first | with_reducible exact Tk.here | apply Tk.there)); done))))); done)))
  obtain ⟨x, y, b, j, fo, hn1, hx, hy, hxc, hxs, hyc, hys, hmode, hat, hxf, hyf, hob, hfi, hfo, hrange⟩ := hR.opened he
  obtain rfl : p = ptr0 x.blk := hp1 x he hx
  have hgH : getH a n = y := by simp only [getH, hy, Option.getD_some]
  have hgF : getF a n = foF fo := by simp only [getF, hgH, hyf, Option.getD_some, hfi]
  obtain ⟨frest, hf1, hf2⟩ := flat_take (f := foA) hob
  obtain ⟨hrest, hh1, hh2⟩ := flat_take (f := hoA) hx
  obtain ⟨now, base, writes, nv, bv, wv, ns, bs, ws⟩ := fo
  obtain ⟨blk, closed, stale, file, mode, hat0⟩ := x
  simp only at hxf hxc hxs hmode hat hrange
  subst hxf hxc hxs
  have hnow := hfo.now
  have hlen := hfo.len
  simp only at hnow hlen
  obtain ⟨na, nc, rfl⟩ := hnow.form
  simp only [he, decide_true, Bool.not_true]
  refine VC.imp (imp_tk (x := w.hs.flatMap hoA) [hoA ⟨blk, false, false, some b, mode, hat0⟩, hrest] (by (focus ((repeat (first | with_reducible exact Tk.here | apply Tk.there)); done))) (by simpa using hh1)) ?_
  simp only [hoA, hoEnc, pf, Option.map_some, List.cons_append, List.nil_append]
  have hF : (w.objs.flatMap foA).Perm (List.flatten [cellsAt b 0 [.slice na now.length nc, bv, wv], slA (.slice na now.length nc) (now.map u8v) ns, slA bv (base.map u8v) bs, slA wv (writes.flatMap wrEnc) ws, frest]) := by simpa [foA] using hf1
  have hH : (w.hs.flatMap hoA).Perm (List.flatten [cellsAt blk 0 [.bool false, .bool false, ptr0 b, vi mode, vi hat0], hrest]) := by simpa [hoA, hoEnc, pf] using hh1
  refine VC.imp (imp_tk (x := w.objs.flatMap foA) [cellsAt b 0 [.slice na now.length nc, bv, wv], slA (.slice na now.length nc) (now.map u8v) ns, slA bv (base.map u8v) bs, slA wv (writes.flatMap wrEnc) ws, frest] (by (focus ((repeat (first | with_reducible exact Tk.here | apply Tk.there)); done))) hF) ?_
  simp only [List.cons_append, List.nil_append]
  have hnl : (getF a n).now.length = now.length := by rw [hgF]; rfl
  refine GO ?_
  by_cases h0 : at_ < 0
  · simp only [h0, decide_true]
    refine GO ?_
    have hc : ¬ (0 ≤ at_ ∧ at_ ≤ (getF a n).now.length) := by omega
    rw [show seekF n at_ d a = (1, d, a) from by simp [seekF, he, hc]]; refine endQ_mk (Post := WMem t w ++ [cellsAt q 0 (deEnc d), cellsAt b3 0 [ptr0 t], cellsAt b4 0 [vi n], cellsAt b5 0 [vi at_]]) (.inr rfl) (.tmp (by rfl) .nil) ⟨w, rfl, hR.mono (Nat.le_succ M), rfl⟩ ?_
    (refine Imp.cut ?_ (imp_closeL _ _ hF hH); simp only [hdr, List.cons_append, List.nil_append]; (first | with_reducible exact Imp.refl | with_reducible exact Imp.left | (focus ((try simp only [List.nil_append]); (repeat (first | exact Imp.nil | (apply Imp.cons; (focus ((repeat (first | with_reducible exact Tk.here | apply Tk.there)); done))))); done))))
  simp only [h0, decide_false]
  refine GO ?_
  by_cases h1 : (now.length : Int) < at_
  · simp only [h1, decide_true]
    refine GO ?_
    have hc : ¬ (0 ≤ at_ ∧ at_ ≤ (getF a n).now.length) := by omega
    rw [show seekF n at_ d a = (1, d, a) from by simp [seekF, he, hc]]; refine endQ_mk (Post := WMem t w ++ [cellsAt q 0 (deEnc d), cellsAt b3 0 [ptr0 t], cellsAt b4 0 [vi n], cellsAt b5 0 [vi at_]]) (.inr rfl) (.tmp (by rfl) .nil) ⟨w, rfl, hR.mono (Nat.le_succ M), rfl⟩ ?_
    (refine Imp.cut ?_ (imp_closeL _ _ hF hH); simp only [hdr, List.cons_append, List.nil_append]; (first | with_reducible exact Imp.refl | with_reducible exact Imp.left | (focus ((try simp only [List.nil_append]); (repeat (first | exact Imp.nil | (apply Imp.cons; (focus ((repeat (first | with_reducible exact Tk.here | apply Tk.there)); done))))); done))))
  · simp only [h1, decide_false]
    refine GO ?_
    have hc : 0 ≤ at_ ∧ at_ ≤ (getF a n).now.length := by omega
    have hr : seekF n at_ d a = (0, d, putH a n { y with at_ := at_ }) := by
      simp only [seekF, he, ne_eq, not_true_eq_false, if_false, if_pos hc, hgH]
    rw [hr]
    refine endQ_mk (Post := WMem t { w with hs := w.hs.set (n - 1).toNat ⟨blk, false, false, some b, mode, at_⟩ } ++ [cellsAt q 0 (deEnc d), cellsAt b3 0 [ptr0 t], cellsAt b4 0 [vi n], cellsAt b5 0 [vi at_]]) (.inr rfl) (.tmp (by rfl) .nil) ⟨_, rfl, ?_, rfl⟩ ?_
    · exact (hR.setH (x' := ⟨blk, false, false, some b, mode, at_⟩) (y' := { y with at_ := at_ }) hx hy rfl rfl rfl ⟨hyc.symm, hys.symm, hmode, rfl⟩ (by simp only; omega)).mono (Nat.le_succ M)
    · have hH2 := hh2 ⟨blk, false, false, some b, mode, at_⟩
      refine Imp.cut ?_ (imp_closeL (w := { w with hs := w.hs.set (n - 1).toNat ⟨blk, false, false, some b, mode, at_⟩ }) _ [cellsAt blk 0 [.bool false, .bool false, ptr0 b, vi mode, vi at_], hrest] hF (by simpa [hoA, hoEnc, pf] using hH2))
      have hblk : (w.hs.set (n - 1).toNat ⟨blk, false, false, some b, mode, at_⟩).map (fun h => ptr0 h.blk) = w.hs.map fun h => ptr0 h.blk := set_blk hx rfl
      simp only [hblk, hdr, List.cons_append, List.nil_append]
      (first | with_reducible exact Imp.refl | with_reducible exact Imp.left | (focus ((try simp only [List.nil_append]); (repeat (first | exact Imp.nil | (apply Imp.cons; (focus ((repeat (first | with_reducible exact Tk.here | apply Tk.there)); done))))); done)))
end Go.Proofs.YtklkngccaemjdaaGreat

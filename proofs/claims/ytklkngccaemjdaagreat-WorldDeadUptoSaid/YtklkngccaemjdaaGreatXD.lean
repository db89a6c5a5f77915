/-
  The outside world: bytes read.
-/
import Derived.Test.YtklkngccaemjdaaGreatW8
set_option linter.unusedSimpArgs false
set_option linter.unusedVariables false
namespace Go.Proofs.YtklkngccaemjdaaGreat
open Go Go.V
set_option maxHeartbeats 6400000
set_option maxRecDepth 100000
set_option linter.unusedSimpArgs false
set_option linter.unusedVariables false
theorem read1_spec (t : Nat) (w : WR) (a : AW) (M : Nat) (hM : M ≤ 1073741822) (hR : Rep w a M) (n many : Int) (q b3 b4 b5 : Nat) (d : De) :
    Fun Tryz.prog 94 [ptr0 q, ptr0 b3, ptr0 b4, ptr0 b5] (WMem t w ++ [cellsAt q 0 (deEnc d), cellsAt b3 0 [ptr0 t], cellsAt b4 0 [vi n], cellsAt b5 0 [vi many]])
      (fun v Post => ∃ w2, v = vi (readF n many d a).1 ∧ Rep w2 (readF n many d a).2.2 (M + 1) ∧ Post = WMem t w2 ++ [cellsAt q 0 (deEnc (readF n many d a).2.1), cellsAt b3 0 [ptr0 t], cellsAt b4 0 [vi n], cellsAt b5 0 [vi many]]) := by
  refine Fun.intro low94 (by simp [F94]) ?_
  simp only [WMem, List.cons_append, List.nil_append]
  have hmany := hR.ok.hmany
  refine GO ?_
  refine st_call (held_spec t w n false hR.ok.hv (by omega)) (by rfl) (by simp only [hdr]; (focus ((repeat (first | exact Spl.nil | (apply Spl.cons; (focus ((repeat (first | with_reducible exact Tk.here | apply Tk.there)); done))))); done))) (fun v Post hv => ?_)
  obtain ⟨⟨p, rfl, hp1, hp2⟩, rfl⟩ := hv
  rw [hR.held] at hp1 hp2
  simp only [hR.held, hdr, List.cons_append, List.nil_append]
  refine GO ?_
  by_cases he : heldE a.hs n false = 0
  rotate_left
  · simp only [he, decide_false, Bool.not_false]
    refine GO ?_
    rw [show readF n many d a = (heldE a.hs n false, d, a) from by simp [readF, he]]; refine endQ_mk (Post := WMem t w ++ [cellsAt q 0 (deEnc d), cellsAt b3 0 [ptr0 t], cellsAt b4 0 [vi n], cellsAt b5 0 [vi many]]) (.inr rfl) (.tmp (by rfl) .nil) ⟨w, rfl, hR.mono (Nat.le_succ M), rfl⟩ ?_
    simp only [WMem, List.cons_append, List.nil_append]; (first | with_reducible exact Imp.refl | with_reducible exact Imp.left | (focus ((try simp only [List.nil_append]); (repeat (first | exact Imp.nil | (apply Imp.cons; (focus ((repeat (first | with_reducible exact Tk.here | apply Tk.there)); done))))); done)))
  obtain ⟨x, y, b, j, fo, hn1, hx, hy, hxc, hxs, hyc, hys, hmode, hat, hxf, hyf, hob, hfi, hfo, hrange⟩ := hR.opened he
  obtain rfl : p = ptr0 x.blk := hp1 x he hx
  have hgH : getH a n = y := by simp only [getH, hy, Option.getD_some]
  have hgF : getF a n = foF fo := by simp only [getF, hgH, hyf, Option.getD_some, hfi]
  obtain ⟨frest, hf1, hf2⟩ := flat_take (f := foA) hob
  obtain ⟨hrest, hh1, hh2⟩ := flat_take (f := hoA) hx
  obtain ⟨now, base, writes, nv, bv, wv, ns, bs, ws⟩ := fo
  obtain ⟨blk, closed, stale, file, mode, hat0⟩ := x
  simp only at hxf hxc hxs hmode hat hrange
  subst hxf hxc hxs
  have hnow := hfo.now
  have hlen := hfo.len
  simp only at hnow hlen
  obtain ⟨na, nc, rfl⟩ := hnow.form
  simp only [he, decide_true, Bool.not_true]
  refine VC.imp (imp_tk (x := w.hs.flatMap hoA) [hoA ⟨blk, false, false, some b, mode, hat0⟩, hrest] (by (focus ((repeat (first | with_reducible exact Tk.here | apply Tk.there)); done))) (by simpa using hh1)) ?_
  simp only [hoA, hoEnc, pf, Option.map_some, List.cons_append, List.nil_append]
  have hF : (w.objs.flatMap foA).Perm (List.flatten [cellsAt b 0 [.slice na now.length nc, bv, wv], slA (.slice na now.length nc) (now.map u8v) ns, slA bv (base.map u8v) bs, slA wv (writes.flatMap wrEnc) ws, frest]) := by simpa [foA] using hf1
  have hH : (w.hs.flatMap hoA).Perm (List.flatten [cellsAt blk 0 [.bool false, .bool false, ptr0 b, vi mode, vi hat0], hrest]) := by simpa [hoA, hoEnc, pf] using hh1
  refine VC.imp (imp_tk (x := w.objs.flatMap foA) [cellsAt b 0 [.slice na now.length nc, bv, wv], slA (.slice na now.length nc) (now.map u8v) ns, slA bv (base.map u8v) bs, slA wv (writes.flatMap wrEnc) ws, frest] (by (focus ((repeat (first | with_reducible exact Tk.here | apply Tk.there)); done))) hF) ?_
  simp only [List.cons_append, List.nil_append]
  have hnl : (getF a n).now.length = now.length := by rw [hgF]; rfl
  refine GO ?_
  have hgm : (getH a n).mode = mode := by rw [hgH, hmode]
  by_cases hc : mode = 1
  rotate_left
  · simp only [hc, decide_false, Bool.not_false]
    refine GO ?_
    rw [← hgm] at hc
    rw [show readF n many d a = (33, d, a) from by simp [readF, he, hc]]; refine endQ_mk (Post := WMem t w ++ [cellsAt q 0 (deEnc d), cellsAt b3 0 [ptr0 t], cellsAt b4 0 [vi n], cellsAt b5 0 [vi many]]) (.inr rfl) (.tmp (by rfl) .nil) ⟨w, rfl, hR.mono (Nat.le_succ M), rfl⟩ ?_
    (refine Imp.cut ?_ (imp_closeL _ _ hF hH); simp only [hdr, List.cons_append, List.nil_append]; (first | with_reducible exact Imp.refl | with_reducible exact Imp.left | (focus ((try simp only [List.nil_append]); (repeat (first | exact Imp.nil | (apply Imp.cons; (focus ((repeat (first | with_reducible exact Tk.here | apply Tk.there)); done))))); done))))
  simp only [hc, decide_true, Bool.not_true]
  refine GO ?_
  by_cases hm : many < 0
  · simp only [hm, decide_true]
    refine GO ?_
    rw [show readF n many d a = (1, d, a) from by simp [readF, he, hgm, hc, hm]]
    refine endQ_mk (Post := WMem t w ++ [cellsAt q 0 (deEnc d), cellsAt b3 0 [ptr0 t], cellsAt b4 0 [vi n], cellsAt b5 0 [vi many]]) (.inr rfl) (.tmp (by rfl) .nil) ⟨w, rfl, hR.mono (Nat.le_succ M), rfl⟩ ?_
    subst hc
    (refine Imp.cut ?_ (imp_closeL _ _ hF hH); simp only [hdr, List.cons_append, List.nil_append]; (first | with_reducible exact Imp.refl | with_reducible exact Imp.left | (focus ((try simp only [List.nil_append]); (repeat (first | exact Imp.nil | (apply Imp.cons; (focus ((repeat (first | with_reducible exact Tk.here | apply Tk.there)); done))))); done))))
  simp only [hm, decide_false]
  refine GO ?_
  obtain ⟨l, hl⟩ : ∃ l : Nat, l = min hat0.toNat now.length := ⟨_, rfl⟩
  have hmin : (if (now.length : Int) < hat0 then (now.length : Int) else hat0) = ((l : Nat) : Int) := by split <;> omega
  rw [hmin]
  refine st_slcAt (by rfl) hnow (.num (by rfl)) (by omega) (fun dv hdv => ?_)
  obtain ⟨da, dc, rfl⟩ := hdv.form hnow
  refine GO ?_
  obtain ⟨h, hh⟩ : ∃ h : Nat, h = min many.toNat (now.length - l) := ⟨_, rfl⟩
  have hmin2 : (if ((now.length - l : Nat) : Int) < many then ((now.length - l : Nat) : Int) else many) = ((h : Nat) : Int) := by split <;> omega
  rw [hmin2]
  refine st_slcTo (by rfl) hnow hdv (by omega) (.num (by rfl)) (by omega) (fun dv' hdv' => ?_)
  refine st_b2s (by rfl) (hdv'.bytes hnow (by omega) (by (focus ((repeat (first | with_reducible exact Tk.here | apply Tk.there)); done)))) ?_
  obtain ⟨s, hs⟩ : ∃ s, s = (now.drop l).take h := ⟨_, rfl⟩
  have hsl : s.length = h := by rw [hs]; simp; omega
  have hss : (ftxt s).size = h := by simp [ftxt, ByteArray.size, hsl]
  rw [← hs]
  simp only [deEnc]
  refine GO ?_
  rw [hss]
  refine GO ?_
  have hs2 : s = ((getF a n).now.drop (min (getH a n).at_.toNat (getF a n).now.length)).take many.toNat := by
    rw [hgF, hgH]
    simp only [foF, ← hat]
    rw [hs, hh, ← hl, List.take_eq_take_iff, List.length_drop]
    omega
  have hFN : readF n many d a = (0, { d with text := ftxt s }, putH a n { y with at_ := hat0 + h }) := by
    have : many < 0 ↔ False := by simp [hm]
    simp only [readF, he, hgm, hc, this, ne_eq, not_true_eq_false, if_false]
    have hym : y.mode = 1 := by rw [← hmode, hc]
    rw [← hs2, hsl, hgH, hat]
    simp only [hym]
  rw [hFN]
  refine endQ_mk (Post := WMem t { w with hs := w.hs.set (n - 1).toNat ⟨blk, false, false, some b, mode, hat0 + h⟩ } ++ [cellsAt q 0 (deEnc { d with text := ftxt s }), cellsAt b3 0 [ptr0 t], cellsAt b4 0 [vi n], cellsAt b5 0 [vi many]]) (.inr rfl) (.tmp (by rfl) .nil) ⟨_, rfl, ?_, rfl⟩ ?_
  · exact (hR.setH (x' := ⟨blk, false, false, some b, mode, hat0 + h⟩) (y' := { y with at_ := hat0 + h }) hx hy rfl rfl rfl ⟨hyc.symm, hys.symm, hmode, rfl⟩ (by simp only; omega)).mono (Nat.le_succ M)
  · have hH2 := hh2 ⟨blk, false, false, some b, mode, hat0 + h⟩
    refine Imp.cut ?_ (imp_closeL (w := { w with hs := w.hs.set (n - 1).toNat ⟨blk, false, false, some b, mode, hat0 + h⟩ }) _ [cellsAt blk 0 [.bool false, .bool false, ptr0 b, vi mode, vi (hat0 + h)], hrest] hF (by simpa [hoA, hoEnc, pf] using hH2))
    have hblk : (w.hs.set (n - 1).toNat ⟨blk, false, false, some b, mode, hat0 + h⟩).map (fun h => ptr0 h.blk) = w.hs.map fun h => ptr0 h.blk := set_blk hx rfl
    simp only [hblk, hdr, deEnc, List.cons_append, List.nil_append]
    subst hc
    (first | with_reducible exact Imp.refl | with_reducible exact Imp.left | (focus ((try simp only [List.nil_append]); (repeat (first | exact Imp.nil | (apply Imp.cons; (focus ((repeat (first | with_reducible exact Tk.here | apply Tk.there)); done))))); done)))
end Go.Proofs.YtklkngccaemjdaaGreat
namespace Go.Proofs.YtklkngccaemjdaaGreat
open Go Go.V
set_option maxHeartbeats 6400000
set_option maxRecDepth 100000
set_option linter.unusedSimpArgs false
set_option linter.unusedVariables false
theorem write1_spec (t : Nat) (w : WR) (a : AW) (M : Nat) (hM : M ≤ 1073741822) (hR : Rep w a M) (n : Int) (s : ByteArray) (hsz : s.size ≤ 4611686018427387904) (q b3 b4 b5 : Nat) (d : De) :
    Fun Tryz.prog 95 [ptr0 q, ptr0 b3, ptr0 b4, ptr0 b5] (WMem t w ++ [cellsAt q 0 (deEnc d), cellsAt b3 0 [ptr0 t], cellsAt b4 0 [vi n], cellsAt b5 0 [.string s]])
      (fun v Post => ∃ w2, v = vi (writeF n s d a).1 ∧ Rep w2 (writeF n s d a).2.2 (M + 1) ∧ Post = WMem t w2 ++ [cellsAt q 0 (deEnc (writeF n s d a).2.1), cellsAt b3 0 [ptr0 t], cellsAt b4 0 [vi n], cellsAt b5 0 [.string s]]) := by
  refine Fun.intro low95 (by simp [F95]) ?_
  simp only [WMem, List.cons_append, List.nil_append]
  have hmany := hR.ok.hmany
  refine GO ?_
  refine st_call (held_spec t w n false hR.ok.hv (by omega)) (by rfl) (by simp only [hdr]; (focus ((repeat (first | exact Spl.nil | (apply Spl.cons; (focus ((repeat (first | with_reducible exact Tk.here | apply Tk.there)); done))))); done))) (fun v Post hv => ?_)
  obtain ⟨⟨p, rfl, hp1, hp2⟩, rfl⟩ := hv
  rw [hR.held] at hp1 hp2
  simp only [hR.held, hdr, List.cons_append, List.nil_append]
  refine GO ?_
  by_cases he : heldE a.hs n false = 0
  rotate_left
  · simp only [he, decide_false, Bool.not_false]
    refine GO ?_
    rw [show writeF n s d a = (heldE a.hs n false, d, a) from by simp [writeF, he]]; refine endQ_mk (Post := WMem t w ++ [cellsAt q 0 (deEnc d), cellsAt b3 0 [ptr0 t], cellsAt b4 0 [vi n], cellsAt b5 0 [.string s]]) (.inr rfl) (.tmp (by rfl) .nil) ⟨w, rfl, hR.mono (Nat.le_succ M), rfl⟩ ?_
    simp only [WMem, List.cons_append, List.nil_append]; (first | with_reducible exact Imp.refl | with_reducible exact Imp.left | (focus ((try simp only [List.nil_append]); (repeat (first | exact Imp.nil | (apply Imp.cons; (focus ((repeat (first | with_reducible exact Tk.here | apply Tk.there)); done))))); done)))
  obtain ⟨x, y, b, j, fo, hn1, hx, hy, hxc, hxs, hyc, hys, hmode, hat, hxf, hyf, hob, hfi, hfo, hrange⟩ := hR.opened he
  obtain rfl : p = ptr0 x.blk := hp1 x he hx
  have hgH : getH a n = y := by simp only [getH, hy, Option.getD_some]
  have hgF : getF a n = foF fo := by simp only [getF, hgH, hyf, Option.getD_some, hfi]
  obtain ⟨frest, hf1, hf2⟩ := flat_take (f := foA) hob
  obtain ⟨hrest, hh1, hh2⟩ := flat_take (f := hoA) hx
  obtain ⟨now, base, writes, nv, bv, wv, ns, bs, ws⟩ := fo
  obtain ⟨blk, closed, stale, file, mode, hat0⟩ := x
  simp only at hxf hxc hxs hmode hat hrange
  subst hxf hxc hxs
  have hnow := hfo.now
  have hlen := hfo.len
  simp only at hnow hlen
  obtain ⟨na, nc, rfl⟩ := hnow.form
  simp only [he, decide_true, Bool.not_true]
  refine VC.imp (imp_tk (x := w.hs.flatMap hoA) [hoA ⟨blk, false, false, some b, mode, hat0⟩, hrest] (by (focus ((repeat (first | with_reducible exact Tk.here | apply Tk.there)); done))) (by simpa using hh1)) ?_
  simp only [hoA, hoEnc, pf, Option.map_some, List.cons_append, List.nil_append]
  have hF : (w.objs.flatMap foA).Perm (List.flatten [cellsAt b 0 [.slice na now.length nc, bv, wv], slA (.slice na now.length nc) (now.map u8v) ns, slA bv (base.map u8v) bs, slA wv (writes.flatMap wrEnc) ws, frest]) := by simpa [foA] using hf1
  have hH : (w.hs.flatMap hoA).Perm (List.flatten [cellsAt blk 0 [.bool false, .bool false, ptr0 b, vi mode, vi hat0], hrest]) := by simpa [hoA, hoEnc, pf] using hh1
  refine VC.imp (imp_tk (x := w.objs.flatMap foA) [cellsAt b 0 [.slice na now.length nc, bv, wv], slA (.slice na now.length nc) (now.map u8v) ns, slA bv (base.map u8v) bs, slA wv (writes.flatMap wrEnc) ws, frest] (by (focus ((repeat (first | with_reducible exact Tk.here | apply Tk.there)); done))) hF) ?_
  simp only [List.cons_append, List.nil_append]
  have hnl : (getF a n).now.length = now.length := by rw [hgF]; rfl
  refine GO ?_
  have hgm : (getH a n).mode = mode := by rw [hgH, hmode]
  have hga : (getH a n).at_ = hat0 := by rw [hgH, hat]
  by_cases hc : mode = 1
  · simp only [hc, decide_true]
    refine GO ?_
    subst hc
    rw [show writeF n s d a = (33, d, a) from by simp [writeF, he, hgm]]
    refine endQ_mk (Post := WMem t w ++ [cellsAt q 0 (deEnc d), cellsAt b3 0 [ptr0 t], cellsAt b4 0 [vi n], cellsAt b5 0 [.string s]]) (.inr rfl) (.tmp (by rfl) .nil) ⟨w, rfl, hR.mono (Nat.le_succ M), rfl⟩ ?_
    (refine Imp.cut ?_ (imp_closeL _ _ hF hH); simp only [hdr, List.cons_append, List.nil_append]; (first | with_reducible exact Imp.refl | with_reducible exact Imp.left | (focus ((try simp only [List.nil_append]); (repeat (first | exact Imp.nil | (apply Imp.cons; (focus ((repeat (first | with_reducible exact Tk.here | apply Tk.there)); done))))); done))))
  simp only [hc, decide_false]
  refine GO ?_
  have hwa : writeAt a n = if mode = 3 then (now.length : Int) else hat0 := by simp only [writeAt, hgm, hnl, hga]
  refine VC.meet (α := Unit) (fun _ => [(1, ptr0 b3), (3, ptr0 b5), (6, ptr0 blk), (8, vi (writeAt a n))]) (fun _ => [cellsAt t 0 (hdr w), slA w.cv (w.choices.flatMap chEnc) w.csp, [.obj w.fm (.map w.fes w.fc)], slA w.hv (w.hs.map fun h => ptr0 h.blk) w.hsp, slA w.tv (w.trace.flatMap deEnc) w.tsp,
      cellsAt b 0 [.slice na now.length nc, bv, wv], slA (.slice na now.length nc) (now.map u8v) ns, slA bv (base.map u8v) bs, slA wv (writes.flatMap wrEnc) ws, frest, cellsAt blk 0 [.bool false, .bool false, ptr0 b, vi mode, vi hat0], hrest] ++ [cellsAt q 0 (deEnc d), cellsAt b3 0 [ptr0 t], cellsAt b4 0 [vi n], cellsAt b5 0 [.string s]]) (fun _ => True) ?_ ?_
  · by_cases h3 : mode = 3
    · simp only [h3, decide_true]
      rw [if_pos h3] at hwa
      refine GO ?_
      exact ⟨(), trivial, by rw [hwa]; (repeat (first | exact Sub.nil | (apply Sub.cons; rfl))), by simp only [hdr, List.cons_append, List.nil_append]; subst h3; (first | with_reducible exact Imp.refl | with_reducible exact Imp.left | (focus ((try simp only [List.nil_append]); (repeat (first | exact Imp.nil | (apply Imp.cons; (focus ((repeat (first | with_reducible exact Tk.here | apply Tk.there)); done))))); done)))⟩
    · simp only [h3, decide_false]
      rw [if_neg h3] at hwa
      refine GO ?_
      exact ⟨(), trivial, by rw [hwa]; (repeat (first | exact Sub.nil | (apply Sub.cons; rfl))), by simp only [hdr, List.cons_append, List.nil_append]; (first | with_reducible exact Imp.refl | with_reducible exact Imp.left | (focus ((try simp only [List.nil_append]); (repeat (first | exact Imp.nil | (apply Imp.cons; (focus ((repeat (first | with_reducible exact Tk.here | apply Tk.there)); done))))); done)))⟩
  rintro _ _
  have hwr : 0 ≤ writeAt a n ∧ writeAt a n ≤ 4194304 := by rw [hwa]; split <;> omega
  generalize hat2 : writeAt a n = at2 at hwr ⊢
  simp only [hdr, List.cons_append, List.nil_append]
  refine GO ?_
  by_cases hbig : (4194304 - at2 : Int) < s.size
  · simp only [hbig, decide_true]
    refine GO ?_
    rw [show writeF n s d a = (34, d, a) from by simp [writeF, he, hgm, hc, hat2, hbig]]
    refine endQ_mk (Post := WMem t w ++ [cellsAt q 0 (deEnc d), cellsAt b3 0 [ptr0 t], cellsAt b4 0 [vi n], cellsAt b5 0 [.string s]]) (.inr rfl) (.tmp (by rfl) .nil) ⟨w, rfl, hR.mono (Nat.le_succ M), rfl⟩ ?_
    (refine Imp.cut ?_ (imp_closeL _ _ hF hH); simp only [hdr, List.cons_append, List.nil_append]; (first | with_reducible exact Imp.refl | with_reducible exact Imp.left | (focus ((try simp only [List.nil_append]); (repeat (first | exact Imp.nil | (apply Imp.cons; (focus ((repeat (first | with_reducible exact Tk.here | apply Tk.there)); done))))); done))))
  simp only [hbig, decide_false]
  refine GO ?_
  have hwrs := hfo.wr
  have hmanyw := hfo.many
  simp only at hwrs hmanyw
  have hseq := hR.ok.seq
  obtain ⟨x, hxx⟩ : ∃ x : Wr, x = ⟨w.seq + 1, at2, s, false⟩ := ⟨_, rfl⟩
  refine VC.seq_draws (α := Value × List Value × Value × List Value) (fun _ => [(3, ptr0 b5), (6, ptr0 blk), (8, vi at2)]) (fun r => [cellsAt t 0 (hdr { w with seq := w.seq + 1 }), slA w.cv (w.choices.flatMap chEnc) w.csp, [.obj w.fm (.map w.fes w.fc)], slA w.hv (w.hs.map fun h => ptr0 h.blk) w.hsp, slA w.tv (w.trace.flatMap deEnc) w.tsp,
      cellsAt b 0 [r.1, bv, r.2.2.1], slA r.1 ((onL x now).map u8v) r.2.1, slA bv (base.map u8v) bs, slA r.2.2.1 (writes.flatMap wrEnc ++ wrEnc x) r.2.2.2, frest, cellsAt blk 0 [.bool false, .bool false, ptr0 b, vi mode, vi hat0], hrest] ++ [cellsAt q 0 (deEnc d), cellsAt b3 0 [ptr0 t], cellsAt b4 0 [vi n], cellsAt b5 0 [.string s]])
      (fun r => IsSl 1 r.1 (onL x now).length ((onL x now).map u8v) r.2.1 ∧ IsSl 4 r.2.2.1 (writes.length + 1) (writes.flatMap wrEnc ++ wrEnc x) r.2.2.2) ⟨?_, ?_, ?_, ?_, ?_, ?_, trivial⟩ ?_
  iterate 6
    · refine GO ?_
      refine st_call (next_spec' t w (by omega) []) (by rfl) (by simp only [hdr]; (focus ((repeat (first | exact Spl.nil | (apply Spl.cons; (focus ((repeat (first | with_reducible exact Tk.here | apply Tk.there)); done))))); done))) (fun v Post hv => ?_)
      obtain ⟨rfl, rfl⟩ := hv
      simp only [hdr, List.cons_append, List.nil_append]
      refine GO ?_
      refine st_call (does_spec b x _ bv wv now ns writes ws (by rw [hxx]; simp only; omega) hlen hnow hwrs (by omega)) (by rw [hxx]; rfl) (by (focus ((repeat (first | exact Spl.nil | (apply Spl.cons; (focus ((repeat (first | with_reducible exact Tk.here | apply Tk.there)); done))))); done))) (fun v Post hv => ?_)
      obtain ⟨nv', ns', wv', wsp', hn', hw', rfl⟩ := hv
      simp only [List.cons_append, List.nil_append]
      refine GO ?_
      exact ⟨(nv', ns', wv', wsp'), ⟨hn', hw'⟩, by (repeat (first | exact Sub.nil | (apply Sub.cons; rfl))), by simp only [hdr, List.cons_append, List.nil_append]; (first | with_reducible exact Imp.refl | with_reducible exact Imp.left | (focus ((try simp only [List.nil_append]); (repeat (first | exact Imp.nil | (apply Imp.cons; (focus ((repeat (first | with_reducible exact Tk.here | apply Tk.there)); done))))); done)))⟩
  rintro ⟨nv', ns', wv', wsp'⟩ ⟨hn', hw'⟩
  dsimp only at hn' hw' ⊢
  simp only [hdr, List.cons_append, List.nil_append]
  refine GO ?_
  have hj : (getH a n).file.getD 0 = j := by rw [hgH, hyf]; rfl
  have hxe : x.empty = false := by rw [hxx]
  have hxt : x.text.size = s.size := by rw [hxx]
  have hxa : x.at_ = at2 := by rw [hxx]
  have hlen2 : (onL x now).length ≤ 4194304 := by
    rw [onL_length hxe, hxt, hxa]
    show max _ _ ≤ _
    omega
  have hfok : FOk ⟨onL x now, base, writes ++ [x], nv', bv, wv', ns', bs, wsp'⟩ (M + 1) := by
    refine ⟨hn', hfo.base, ?_, hlen2, hfo.len2, ?_, ?_⟩
    · simpa [List.flatMap_append] using hw'
    · simp only [List.length_append, List.length_singleton]; omega
    · intro z hz
      rcases List.mem_append.1 hz with hz | hz
      · exact hfo.at_ z hz
      · rw [List.mem_singleton.1 hz, hxt, hxa]; omega
  have hR2 := (hR.next.setF (Nat.le_refl _) hob hfok).setH (x' := ⟨blk, false, false, some b, mode, at2 + s.size⟩) (y' := { y with at_ := at2 + s.size }) hx hy rfl rfl rfl ⟨hyc.symm, hys.symm, hmode, rfl⟩ (by simp only; omega)
  have hxa2 : (⟨a.seq + 1, at2, s, false⟩ : Wr) = x := by rw [hxx, hR.seq]
  have hFN : writeF n s d a = (0, d, { a with seq := a.seq + 1, files := a.files.set j (foF ⟨onL x now, base, writes ++ [x], nv', bv, wv', ns', bs, wsp'⟩), hs := a.hs.set (n - 1).toNat { y with at_ := at2 + s.size } }) := by
    have hc2 : ¬ (4194304 - at2 < (s.size : Int)) := hbig
    simp only [writeF, he, hgm, hc, hat2, hc2, ne_eq, not_true_eq_false, if_false, hxa2]
    simp only [putH, putF, hgH, hgF, doesA, foF, hyf, hmode, Option.getD_some]
  rw [hFN]
  refine endQ_mk (Post := WMem t { w with seq := w.seq + 1, objs := w.objs.set j (b, ⟨onL x now, base, writes ++ [x], nv', bv, wv', ns', bs, wsp'⟩), hs := w.hs.set (n - 1).toNat ⟨blk, false, false, some b, mode, at2 + s.size⟩ } ++ [cellsAt q 0 (deEnc d), cellsAt b3 0 [ptr0 t], cellsAt b4 0 [vi n], cellsAt b5 0 [.string s]]) (.inr rfl) (.tmp (by rfl) .nil) ⟨_, rfl, hR2, rfl⟩ ?_
  have hF2 := hf2 (b, ⟨onL x now, base, writes ++ [x], nv', bv, wv', ns', bs, wsp'⟩)
  have hH2 := hh2 ⟨blk, false, false, some b, mode, at2 + s.size⟩
  refine Imp.cut ?_ (imp_closeL (w := { w with seq := w.seq + 1, objs := w.objs.set j (b, ⟨onL x now, base, writes ++ [x], nv', bv, wv', ns', bs, wsp'⟩), hs := w.hs.set (n - 1).toNat ⟨blk, false, false, some b, mode, at2 + s.size⟩ }) [cellsAt b 0 [nv', bv, wv'], slA nv' ((onL x now).map u8v) ns', slA bv (base.map u8v) bs, slA wv' (writes.flatMap wrEnc ++ wrEnc x) wsp', frest]
    [cellsAt blk 0 [.bool false, .bool false, ptr0 b, vi mode, vi (at2 + s.size)], hrest] (by simpa [foA, List.flatMap_append] using hF2) (by simpa [hoA, hoEnc, pf] using hH2))
  have hblk : (w.hs.set (n - 1).toNat ⟨blk, false, false, some b, mode, at2 + s.size⟩).map (fun h => ptr0 h.blk) = w.hs.map fun h => ptr0 h.blk := set_blk hx rfl
  simp only [hblk, hdr, List.cons_append, List.nil_append]
  (first | with_reducible exact Imp.refl | with_reducible exact Imp.left | (focus ((try simp only [List.nil_append]); (repeat (first | exact Imp.nil | (apply Imp.cons; (focus ((repeat (first | with_reducible exact Tk.here | apply Tk.there)); done))))); done)))
end Go.Proofs.YtklkngccaemjdaaGreat

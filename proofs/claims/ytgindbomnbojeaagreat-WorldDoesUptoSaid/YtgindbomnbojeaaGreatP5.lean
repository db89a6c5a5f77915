/-
  The outside world: bytes written.
-/
import Derived.Test.YtgindbomnbojeaaGreatP2
set_option linter.unusedSimpArgs false
set_option linter.unusedVariables false
namespace Go.Proofs.YtgindbomnbojeaaGreat
open Go Go.V
set_option maxHeartbeats 6400000
set_option maxRecDepth 100000
theorem write1_spec (t : Nat) (w : WR) (a : AW) (M : Nat) (hM : M ≤ 1073741822) (hR : Rep w a M) (n : Int) (s : ByteArray) (hsz : s.size ≤ 4611686018427387904) (q b3 b4 b5 : Nat) (d : De) :
    Fun Tryz.prog 89 [ptr0 q, ptr0 b3, ptr0 b4, ptr0 b5] (WMem t w ++ [cellsAt q 0 (deEnc d), cellsAt b3 0 [ptr0 t], cellsAt b4 0 [vi n], cellsAt b5 0 [.string s]])
      (fun v Post => ∃ w2, v = vi (writeF n s d a).1 ∧ Rep w2 (writeF n s d a).2.2 (M + 1) ∧ Post = WMem t w2 ++ [cellsAt q 0 (deEnc (writeF n s d a).2.1), cellsAt b3 0 [ptr0 t], cellsAt b4 0 [vi n], cellsAt b5 0 [.string s]]) := by
  refine Fun.intro low89 (by simp [n89]) ?_
  simp only [WMem, List.cons_append, List.nil_append]
  have hmany := hR.ok.hmany
  refine GO ?_
  refine st_call (held_spec t w n false hR.ok.hv (by omega)) (by rfl) (by simp only [hdr]; exact SPx) (fun v Post hv => ?_)
  obtain ⟨⟨p, rfl, hp1, hp2⟩, rfl⟩ := hv
  rw [hR.held] at hp1 hp2
  simp only [hR.held, hdr, List.cons_append, List.nil_append]
  refine GO ?_
  by_cases he : heldE a.hs n false = 0
  rotate_left
  · simp only [he, decide_false, Bool.not_false]
    refine GO ?_
    rw [show writeF n s d a = (heldE a.hs n false, d, a) from by simp [writeF, he]]; refine endQ_mk (Post := WMem t w ++ [cellsAt q 0 (deEnc d), cellsAt b3 0 [ptr0 t], cellsAt b4 0 [vi n], cellsAt b5 0 [.string s]]) (.inr rfl) (.tmp (by rfl) .nil) ⟨w, rfl, hR.mono (Nat.le_succ M), rfl⟩ ?_
    simp only [WMem, List.cons_append, List.nil_append]; exact IMx
  obtain ⟨x, y, b, j, fo, hn1, hx, hy, hxc, hxs, hyc, hys, hmode, hat, hxf, hyf, hob, hfi, hfo, hrange⟩ := hR.opened he
  obtain rfl : p = ptr0 x.blk := hp1 x he hx
  have hgH : getH a n = y := by simp only [getH, hy, Option.getD_some]
  have hgF : getF a n = foF fo := by simp only [getF, hgH, hyf, Option.getD_some, hfi]
  obtain ⟨frest, hf1, hf2⟩ := flat_take (f := foA) hob
  obtain ⟨hrest, hh1, hh2⟩ := flat_take (f := hoA) hx
  obtain ⟨now, base, writes, nv, bv, wv, ns, bs, ws⟩ := fo
  obtain ⟨blk, closed, stale, file, mode, hat0⟩ := x
  simp only at hxf hxc hxs hmode hat hrange
  subst hxf hxc hxs
  have hnow := hfo.now
  have hlen := hfo.len
  simp only at hnow hlen
  obtain ⟨na, nc, rfl⟩ := hnow.form
  simp only [he, decide_true, Bool.not_true]
  refine VC.imp (imp_tk (x := w.hs.flatMap hoA) [hoA ⟨blk, false, false, some b, mode, hat0⟩, hrest] (by exact TKx) (by simpa using hh1)) ?_
  simp only [hoA, hoEnc, pf, Option.map_some, List.cons_append, List.nil_append]
  have hF : (w.objs.flatMap foA).Perm (List.flatten [cellsAt b 0 [.slice na now.length nc, bv, wv], slA (.slice na now.length nc) (now.map u8v) ns, slA bv (base.map u8v) bs, slA wv (writes.flatMap wrEnc) ws, frest]) := by simpa [foA] using hf1
  have hH : (w.hs.flatMap hoA).Perm (List.flatten [cellsAt blk 0 [.bool false, .bool false, ptr0 b, vi mode, vi hat0], hrest]) := by simpa [hoA, hoEnc, pf] using hh1
  refine VC.imp (imp_tk (x := w.objs.flatMap foA) [cellsAt b 0 [.slice na now.length nc, bv, wv], slA (.slice na now.length nc) (now.map u8v) ns, slA bv (base.map u8v) bs, slA wv (writes.flatMap wrEnc) ws, frest] (by exact TKx) hF) ?_
  simp only [CNx]
  have hnl : (getF a n).now.length = now.length := by rw [hgF]; rfl
  refine GO ?_
  have hgm : (getH a n).mode = mode := by rw [hgH, hmode]
  have hga : (getH a n).at_ = hat0 := by rw [hgH, hat]
  by_cases hc : mode = 1
  · simp only [hc, decide_true]
    refine GO ?_
    subst hc
    rw [show writeF n s d a = (33, d, a) from by simp [writeF, he, hgm]]
    refine endQ_mk (Post := WMem t w ++ [cellsAt q 0 (deEnc d), cellsAt b3 0 [ptr0 t], cellsAt b4 0 [vi n], cellsAt b5 0 [.string s]]) (.inr rfl) (.tmp (by rfl) .nil) ⟨w, rfl, hR.mono (Nat.le_succ M), rfl⟩ ?_
    (refine Imp.cut ?_ (imp_closeL _ _ hF hH); simp only [hdr, List.cons_append, List.nil_append]; exact IMx)
  simp only [hc, decide_false]
  refine GO ?_
  have hwa : writeAt a n = if mode = 3 then (now.length : Int) else hat0 := by simp only [writeAt, hgm, hnl, hga]
  refine VC.meet (α := Unit) (fun _ => [(1, ptr0 b3), (3, ptr0 b5), (6, ptr0 blk), (8, vi (writeAt a n))]) (fun _ => [cellsAt t 0 (hdr w), slA w.cv (w.choices.flatMap chEnc) w.csp, [.obj w.fm (.map w.fes w.fc)], slA w.hv (w.hs.map fun h => ptr0 h.blk) w.hsp, slA w.tv (w.trace.flatMap deEnc) w.tsp,
      cellsAt b 0 [.slice na now.length nc, bv, wv], slA (.slice na now.length nc) (now.map u8v) ns, slA bv (base.map u8v) bs, slA wv (writes.flatMap wrEnc) ws, frest, cellsAt blk 0 [.bool false, .bool false, ptr0 b, vi mode, vi hat0], hrest] ++ [cellsAt q 0 (deEnc d), cellsAt b3 0 [ptr0 t], cellsAt b4 0 [vi n], cellsAt b5 0 [.string s]]) (fun _ => True) ?_ ?_
  · by_cases h3 : mode = 3
    · simp only [h3, decide_true]
      rw [if_pos h3] at hwa
      refine GO ?_
      exact ⟨(), trivial, by rw [hwa]; exact SUx, by simp only [hdr, List.cons_append, List.nil_append]; subst h3; exact IMx⟩
    · simp only [h3, decide_false]
      rw [if_neg h3] at hwa
      refine GO ?_
      exact ⟨(), trivial, by rw [hwa]; exact SUx, by simp only [hdr, List.cons_append, List.nil_append]; exact IMx⟩
  rintro _ _
  have hwr : 0 ≤ writeAt a n ∧ writeAt a n ≤ 4194304 := by rw [hwa]; split <;> omega
  generalize hat2 : writeAt a n = at2 at hwr ⊢
  simp only [hdr, List.cons_append, List.nil_append]
  refine GO ?_
  by_cases hbig : (4194304 - at2 : Int) < s.size
  · simp only [hbig, decide_true]
    refine GO ?_
    rw [show writeF n s d a = (34, d, a) from by simp [writeF, he, hgm, hc, hat2, hbig]]
    refine endQ_mk (Post := WMem t w ++ [cellsAt q 0 (deEnc d), cellsAt b3 0 [ptr0 t], cellsAt b4 0 [vi n], cellsAt b5 0 [.string s]]) (.inr rfl) (.tmp (by rfl) .nil) ⟨w, rfl, hR.mono (Nat.le_succ M), rfl⟩ ?_
    (refine Imp.cut ?_ (imp_closeL _ _ hF hH); simp only [hdr, List.cons_append, List.nil_append]; exact IMx)
  simp only [hbig, decide_false]
  refine GO ?_
  have hwrs := hfo.wr
  have hmanyw := hfo.many
  simp only at hwrs hmanyw
  have hseq := hR.ok.seq
  obtain ⟨x, hxx⟩ : ∃ x : Wr, x = ⟨w.seq + 1, at2, s, false⟩ := ⟨_, rfl⟩
  refine VC.seq_draws (α := Value × List Value × Value × List Value) (fun _ => [(3, ptr0 b5), (6, ptr0 blk), (8, vi at2)]) (fun r => [cellsAt t 0 (hdr { w with seq := w.seq + 1 }), slA w.cv (w.choices.flatMap chEnc) w.csp, [.obj w.fm (.map w.fes w.fc)], slA w.hv (w.hs.map fun h => ptr0 h.blk) w.hsp, slA w.tv (w.trace.flatMap deEnc) w.tsp,
      cellsAt b 0 [r.1, bv, r.2.2.1], slA r.1 ((onL x now).map u8v) r.2.1, slA bv (base.map u8v) bs, slA r.2.2.1 (writes.flatMap wrEnc ++ wrEnc x) r.2.2.2, frest, cellsAt blk 0 [.bool false, .bool false, ptr0 b, vi mode, vi hat0], hrest] ++ [cellsAt q 0 (deEnc d), cellsAt b3 0 [ptr0 t], cellsAt b4 0 [vi n], cellsAt b5 0 [.string s]])
      (fun r => IsSl 1 r.1 (onL x now).length ((onL x now).map u8v) r.2.1 ∧ IsSl 4 r.2.2.1 (writes.length + 1) (writes.flatMap wrEnc ++ wrEnc x) r.2.2.2) ⟨?_, ?_, ?_, ?_, ?_, ?_, trivial⟩ ?_
  iterate 6
    · refine GO ?_
      refine st_call (next_spec' t w (by omega) []) (by rfl) (by simp only [hdr]; exact SPx) (fun v Post hv => ?_)
      obtain ⟨rfl, rfl⟩ := hv
      simp only [hdr, List.cons_append, List.nil_append]
      refine GO ?_
      refine st_call (does_spec b x _ bv wv now ns writes ws (by rw [hxx]; simp only; omega) hlen hnow hwrs (by omega)) (by rw [hxx]; rfl) (by exact SPx) (fun v Post hv => ?_)
      obtain ⟨nv', ns', wv', wsp', hn', hw', rfl⟩ := hv
      simp only [CNx]
      refine GO ?_
      exact ⟨(nv', ns', wv', wsp'), ⟨hn', hw'⟩, by exact SUx, by simp only [hdr, List.cons_append, List.nil_append]; exact IMx⟩
  rintro ⟨nv', ns', wv', wsp'⟩ ⟨hn', hw'⟩
  dsimp only at hn' hw' ⊢
  simp only [hdr, List.cons_append, List.nil_append]
  refine GO ?_
  have hj : (getH a n).file.getD 0 = j := by rw [hgH, hyf]; rfl
  have hxe : x.empty = false := by rw [hxx]
  have hxt : x.text.size = s.size := by rw [hxx]
  have hxa : x.at_ = at2 := by rw [hxx]
  have hlen2 : (onL x now).length ≤ 4194304 := by
    rw [onL_length hxe, hxt, hxa]
    show max _ _ ≤ _
    omega
  have hfok : FOk ⟨onL x now, base, writes ++ [x], nv', bv, wv', ns', bs, wsp'⟩ (M + 1) := by
    refine ⟨hn', hfo.base, ?_, hlen2, hfo.len2, ?_, ?_⟩
    · simpa [List.flatMap_append] using hw'
    · simp only [List.length_append, List.length_singleton]; omega
    · intro z hz
      rcases List.mem_append.1 hz with hz | hz
      · exact hfo.at_ z hz
      · rw [List.mem_singleton.1 hz, hxt, hxa]; omega
  have hR2 := (hR.next.setF (Nat.le_refl _) hob hfok).setH (x' := ⟨blk, false, false, some b, mode, at2 + s.size⟩) (y' := { y with at_ := at2 + s.size }) hx hy rfl rfl rfl ⟨hyc.symm, hys.symm, hmode, rfl⟩ (by simp only; omega)
  have hxa2 : (⟨a.seq + 1, at2, s, false⟩ : Wr) = x := by rw [hxx, hR.seq]
  have hFN : writeF n s d a = (0, d, { a with seq := a.seq + 1, files := a.files.set j (foF ⟨onL x now, base, writes ++ [x], nv', bv, wv', ns', bs, wsp'⟩), hs := a.hs.set (n - 1).toNat { y with at_ := at2 + s.size } }) := by
    have hc2 : ¬ (4194304 - at2 < (s.size : Int)) := hbig
    simp only [writeF, he, hgm, hc, hat2, hc2, ne_eq, not_true_eq_false, if_false, hxa2]
    simp only [putH, putF, hgH, hgF, doesA, foF, hyf, hmode, Option.getD_some]
  rw [hFN]
  refine endQ_mk (Post := WMem t { w with seq := w.seq + 1, objs := w.objs.set j (b, ⟨onL x now, base, writes ++ [x], nv', bv, wv', ns', bs, wsp'⟩), hs := w.hs.set (n - 1).toNat ⟨blk, false, false, some b, mode, at2 + s.size⟩ } ++ [cellsAt q 0 (deEnc d), cellsAt b3 0 [ptr0 t], cellsAt b4 0 [vi n], cellsAt b5 0 [.string s]]) (.inr rfl) (.tmp (by rfl) .nil) ⟨_, rfl, hR2, rfl⟩ ?_
  have hF2 := hf2 (b, ⟨onL x now, base, writes ++ [x], nv', bv, wv', ns', bs, wsp'⟩)
  have hH2 := hh2 ⟨blk, false, false, some b, mode, at2 + s.size⟩
  refine Imp.cut ?_ (imp_closeL (w := { w with seq := w.seq + 1, objs := w.objs.set j (b, ⟨onL x now, base, writes ++ [x], nv', bv, wv', ns', bs, wsp'⟩), hs := w.hs.set (n - 1).toNat ⟨blk, false, false, some b, mode, at2 + s.size⟩ }) [cellsAt b 0 [nv', bv, wv'], slA nv' ((onL x now).map u8v) ns', slA bv (base.map u8v) bs, slA wv' (writes.flatMap wrEnc ++ wrEnc x) wsp', frest]
    [cellsAt blk 0 [.bool false, .bool false, ptr0 b, vi mode, vi (at2 + s.size)], hrest] (by simpa [foA, List.flatMap_append] using hF2) (by simpa [hoA, hoEnc, pf] using hH2))
  have hblk : (w.hs.set (n - 1).toNat ⟨blk, false, false, some b, mode, at2 + s.size⟩).map (fun h => ptr0 h.blk) = w.hs.map fun h => ptr0 h.blk := set_blk hx rfl
  simp only [hblk, hdr, List.cons_append, List.nil_append]
  exact IMx
theorem rename1_spec (t : Nat) (w : WR) (a : AW) (M : Nat) (hM : M ≤ 1073741822) (hR : Rep w a M) (s s2 : ByteArray) (hs : s.size ≤ 4611686018427387904) (hs2 : s2.size ≤ 4611686018427387904) (q b3 b4 b5 : Nat) (d : De) :
    Fun Tryz.prog 104 [ptr0 q, ptr0 b3, ptr0 b4, ptr0 b5] (WMem t w ++ [cellsAt q 0 (deEnc d), cellsAt b3 0 [ptr0 t], cellsAt b4 0 [.string s], cellsAt b5 0 [.string s2]])
      (fun v Post => ∃ w2, v = vi (renameF s s2 d a).1 ∧ Rep w2 (renameF s s2 d a).2.2 (M + 1) ∧ Post = WMem t w2 ++ [cellsAt q 0 (deEnc (renameF s s2 d a).2.1), cellsAt b3 0 [ptr0 t], cellsAt b4 0 [.string s], cellsAt b5 0 [.string s2]]) := by
  refine Fun.intro low104 (by simp [n104]) ?_
  simp only [WMem, List.cons_append, List.nil_append]
  refine GO ?_
  refine st_lookup (k := s) (by rfl) (by rfl) rfl (by (focus ((repeat (first | with_reducible exact HasO.here | apply HasO.there)); done))) hR.ok.fm ?_
  rw [hR.mget]
  generalize hg : mget s a.names = gr
  have hext : ∃ p, lookV true (Value.pointer none) ((gr.map fun j => (w.objs.map (·.1)).getD j 0).map fun b => ptr0 b) = .tuple #[p, .bool gr.isSome] ∧ ∀ j, gr = some j → p = ptr0 ((w.objs.map (·.1)).getD j 0) := by
    cases gr with
    | none => exact ⟨_, rfl, fun _ e => by cases e⟩
    | some j => exact ⟨_, rfl, fun _ e => by cases e; rfl⟩
  obtain ⟨p, hp, hpj⟩ := hext
  rw [hp]
  refine GO ?_
  refine st_call (isName_spec s hs) (by rfl) (R := WMem t w ++ [cellsAt q 0 (deEnc d), cellsAt b3 0 [ptr0 t], cellsAt b4 0 [.string s], cellsAt b5 0 [.string s2]]) (by simp [V.Spl]) (fun v Post hv => ?_)
  obtain ⟨rfl, rfl⟩ := hv
  simp only [WMem, List.cons_append, List.nil_append]
  cases hn : nameB s with
  | false =>
    refine GO ?_
    rw [show renameF s s2 d a = (35, d, a) from by simp [renameF, hn]]
    refine endQ_mk (Post := WMem t w ++ [cellsAt q 0 (deEnc d), cellsAt b3 0 [ptr0 t], cellsAt b4 0 [.string s], cellsAt b5 0 [.string s2]]) (.inr rfl) (.tmp (by rfl) .nil) ⟨w, rfl, hR.mono (Nat.le_succ M), rfl⟩ ?_
    simp only [WMem, List.cons_append, List.nil_append]; exact IMx
  | true =>
    refine GO ?_
    refine st_call (isName_spec s2 hs2) (by rfl) (R := WMem t w ++ [cellsAt q 0 (deEnc d), cellsAt b3 0 [ptr0 t], cellsAt b4 0 [.string s], cellsAt b5 0 [.string s2]]) (by simp [V.Spl]) (fun v Post hv => ?_)
    obtain ⟨rfl, rfl⟩ := hv
    simp only [WMem, List.cons_append, List.nil_append]
    cases hn2 : nameB s2 with
    | false =>
      refine GO ?_
      rw [show renameF s s2 d a = (35, d, a) from by simp [renameF, hn, hn2]]
      refine endQ_mk (Post := WMem t w ++ [cellsAt q 0 (deEnc d), cellsAt b3 0 [ptr0 t], cellsAt b4 0 [.string s], cellsAt b5 0 [.string s2]]) (.inr rfl) (.tmp (by rfl) .nil) ⟨w, rfl, hR.mono (Nat.le_succ M), rfl⟩ ?_
      simp only [WMem, List.cons_append, List.nil_append]; exact IMx
    | true =>
      refine GO ?_
      cases gr with
      | none =>
        refine GO ?_
        rw [show renameF s s2 d a = (32, d, a) from by simp [renameF, hn, hn2, hg]]
        refine endQ_mk (Post := WMem t w ++ [cellsAt q 0 (deEnc d), cellsAt b3 0 [ptr0 t], cellsAt b4 0 [.string s], cellsAt b5 0 [.string s2]]) (.inr rfl) (.tmp (by rfl) .nil) ⟨w, rfl, hR.mono (Nat.le_succ M), rfl⟩ ?_
        simp only [WMem, List.cons_append, List.nil_append]; exact IMx
      | some j =>
        refine GO ?_
        refine st_delete (k := s) (by rfl) (by rfl) rfl (by exact TKx) hR.ok.fm (fun es' hm' _ => ?_)
        rw [hR.names, mdel_map (κ := ByteArray) (g := fun j => (w.objs.map (·.1)).getD j 0)] at hm'
        rw [hpj j rfl]
        refine GO ?_
        refine st_mapupd (k := s2) (v := (w.objs.map (·.1)).getD j 0) (by rfl) (by rfl) (by rfl) rfl (by exact TKx) hm' (fun es2 c2 hm2 => ?_)
        rw [mset_map (κ := ByteArray) (g := fun j => (w.objs.map (·.1)).getD j 0)] at hm2
        refine GO ?_
        rw [show renameF s s2 d a = (0, d, { a with names := mset s2 j (mdel s a.names) }) from by simp [renameF, hn, hn2, hg]]
        have hjin := hR.nin _ (mget_mem hg)
        have hR2 := hR.setN hm2 (mset_keys_nodup (mdel_keys_nodup hR.keys)) (fun p hp => by
          rcases mem_mset hp with rfl | hp
          · exact hjin
          · exact hR.nin p (mem_mdel hp)) (Nat.le_trans mset_length_le (by rw [mdel_length hg]; exact hR.files64))
        refine endQ_mk (Post := WMem t _ ++ [cellsAt q 0 (deEnc d), cellsAt b3 0 [ptr0 t], cellsAt b4 0 [.string s], cellsAt b5 0 [.string s2]]) (.inr rfl) (.tmp (by rfl) .nil) ⟨_, rfl, hR2.mono (Nat.le_succ M), rfl⟩ ?_
        simp only [WMem, List.cons_append, List.nil_append]; exact IMx
theorem show1_spec (t : Nat) (w : WR) (a : AW) (M : Nat) (hM : M ≤ 1073741822) (hR : Rep w a M)  (c : Ch) (q : Nat) (d : De) :
    Fun Tryz.prog 91 [.agg (chEnc c).toArray, ptr0 q] (WMem t w ++ [cellsAt q 0 (deEnc d)])
      (fun v Post => ∃ w2, v = vi (showF d a c).1 ∧ Rep w2 (showF d a c).2.2 (M + 1) ∧ Post = WMem t w2 ++ [cellsAt q 0 (deEnc (showF d a c).2.1)]) := by
  refine Fun.intro low91 (by simp [n91]) ?_
  simp only [WMem, chEnc, List.cons_append, List.nil_append]
  refine GO ?_
  refine st_box (by rfl) (fun p0 => ?_)
  simp only [Value.cells]
  refine GO ?_
  refine endQ_mk (Post := WMem t w ++ [cellsAt q 0 (deEnc d)]) (.inr rfl) (.tmp (by rfl) .nil) ⟨w, rfl, hR.mono (Nat.le_succ M), rfl⟩ ?_; simp only [WMem, List.cons_append, List.nil_append]; exact IMx
theorem quit1_spec (t : Nat) (w : WR) (a : AW) (M : Nat) (hM : M ≤ 1073741822) (hR : Rep w a M)  (c : Ch) (q : Nat) (d : De) :
    Fun Tryz.prog 112 [.agg (chEnc c).toArray, ptr0 q] (WMem t w ++ [cellsAt q 0 (deEnc d)])
      (fun v Post => ∃ w2, v = vi (showF d a c).1 ∧ Rep w2 (showF d a c).2.2 (M + 1) ∧ Post = WMem t w2 ++ [cellsAt q 0 (deEnc (showF d a c).2.1)]) := by
  refine Fun.intro low112 (by simp [n112]) ?_
  simp only [WMem, chEnc, List.cons_append, List.nil_append]
  refine GO ?_
  refine st_box (by rfl) (fun p0 => ?_)
  simp only [Value.cells]
  refine GO ?_
  refine endQ_mk (Post := WMem t w ++ [cellsAt q 0 (deEnc d)]) (.inr rfl) (.tmp (by rfl) .nil) ⟨w, rfl, hR.mono (Nat.le_succ M), rfl⟩ ?_; simp only [WMem, List.cons_append, List.nil_append]; exact IMx
theorem send1_spec (t : Nat) (w : WR) (a : AW) (M : Nat) (hM : M ≤ 1073741822) (hR : Rep w a M) (n : Int) (c : Ch) (q b3 b4 : Nat) (d : De) :
    Fun Tryz.prog 110 [.agg (chEnc c).toArray, ptr0 q, ptr0 b3, ptr0 b4] (WMem t w ++ [cellsAt q 0 (deEnc d), cellsAt b3 0 [ptr0 t], cellsAt b4 0 [vi n]])
      (fun v Post => ∃ w2, v = vi (sendF n d a c).1 ∧ Rep w2 (sendF n d a c).2.2 (M + 1) ∧ Post = WMem t w2 ++ [cellsAt q 0 (deEnc (sendF n d a c).2.1), cellsAt b3 0 [ptr0 t], cellsAt b4 0 [vi n]]) := by
  refine Fun.intro low110 (by simp [n110]) ?_
  simp only [WMem, chEnc, List.cons_append, List.nil_append]
  refine GO ?_
  refine st_box (by rfl) (fun p0 => ?_)
  simp only [Value.cells]
  have hmany := hR.ok.hmany
  refine GO ?_
  refine st_call (held_spec t w n true hR.ok.hv (by omega)) (by rfl) (by simp only [hdr]; exact SPx) (fun v Post hv => ?_)
  obtain ⟨⟨p, rfl, hp1, hp2⟩, rfl⟩ := hv
  simp only [hR.held, hdr, List.cons_append, List.nil_append]
  refine GO ?_
  refine endQ_mk (Post := WMem t w ++ [cellsAt q 0 (deEnc d), cellsAt b3 0 [ptr0 t], cellsAt b4 0 [vi n]]) (.inr rfl) (.tmp (by rfl) .nil) ⟨w, rfl, hR.mono (Nat.le_succ M), rfl⟩ ?_; simp only [WMem, List.cons_append, List.nil_append]; exact IMx
theorem receive1_spec (t : Nat) (w : WR) (a : AW) (M : Nat) (hM : M ≤ 1073741822) (hR : Rep w a M) (n many : Int) (c : Ch) (q b3 b4 b5 : Nat) (d : De) :
    Fun Tryz.prog 111 [.agg (chEnc c).toArray, ptr0 q, ptr0 b3, ptr0 b4, ptr0 b5] (WMem t w ++ [cellsAt q 0 (deEnc d), cellsAt b3 0 [ptr0 t], cellsAt b4 0 [vi n], cellsAt b5 0 [vi many]])
      (fun v Post => ∃ w2, v = vi (receiveF n many d a c).1 ∧ Rep w2 (receiveF n many d a c).2.2 (M + 1) ∧ Post = WMem t w2 ++ [cellsAt q 0 (deEnc (receiveF n many d a c).2.1), cellsAt b3 0 [ptr0 t], cellsAt b4 0 [vi n], cellsAt b5 0 [vi many]]) := by
  refine Fun.intro low111 (by simp [n111]) ?_
  simp only [WMem, chEnc, List.cons_append, List.nil_append]
  refine GO ?_
  refine st_box (by rfl) (fun p0 => ?_)
  simp only [Value.cells]
  have hmany := hR.ok.hmany
  refine GO ?_
  refine st_call (held_spec t w n true hR.ok.hv (by omega)) (by rfl) (by simp only [hdr]; exact SPx) (fun v Post hv => ?_)
  obtain ⟨⟨p, rfl, hp1, hp2⟩, rfl⟩ := hv
  simp only [hR.held, hdr, List.cons_append, List.nil_append]
  refine GO ?_
  by_cases he : heldE a.hs n true = 0
  rotate_left
  · simp only [he, decide_false, Bool.not_false]
    refine GO ?_
    rw [show receiveF n many d a c = (heldE a.hs n true, d, a) from by simp [receiveF, he]]
    refine endQ_mk (Post := WMem t w ++ [cellsAt q 0 (deEnc d), cellsAt b3 0 [ptr0 t], cellsAt b4 0 [vi n], cellsAt b5 0 [vi many]]) (.inr rfl) (.tmp (by rfl) .nil) ⟨w, rfl, hR.mono (Nat.le_succ M), rfl⟩ ?_; simp only [WMem, List.cons_append, List.nil_append]; exact IMx
  simp only [he, decide_true, Bool.not_true]
  refine GO ?_
  by_cases h1 : many < 0
  · simp only [h1, decide_true]
    refine GO ?_
    rw [show receiveF n many d a c = (1, d, a) from by simp [receiveF, he, h1]]
    refine endQ_mk (Post := WMem t w ++ [cellsAt q 0 (deEnc d), cellsAt b3 0 [ptr0 t], cellsAt b4 0 [vi n], cellsAt b5 0 [vi many]]) (.inr rfl) (.tmp (by rfl) .nil) ⟨w, rfl, hR.mono (Nat.le_succ M), rfl⟩ ?_; simp only [WMem, List.cons_append, List.nil_append]; exact IMx
  simp only [h1, decide_false]
  refine GO ?_
  by_cases h2 : c.kind = 3
  rotate_left
  · simp only [h2, decide_false, Bool.not_false]
    refine GO ?_
    rw [show receiveF n many d a c = (0, d, a) from by simp [receiveF, he, h1, h2]]
    refine endQ_mk (Post := WMem t w ++ [cellsAt q 0 (deEnc d), cellsAt b3 0 [ptr0 t], cellsAt b4 0 [vi n], cellsAt b5 0 [vi many]]) (.inr rfl) (.tmp (by rfl) .nil) ⟨w, rfl, hR.mono (Nat.le_succ M), rfl⟩ ?_; simp only [WMem, List.cons_append, List.nil_append]; exact IMx
  simp only [h2, decide_true, Bool.not_true]
  refine GO ?_
  refine st_call (chosen_spec c.n) (by rfl) Spl.nil (fun v Post hv => ?_)
  obtain ⟨rfl, rfl⟩ := hv
  simp only [WMem, List.cons_append, List.nil_append]
  refine GO ?_
  by_cases h3 : chosenE c.n = 0
  rotate_left
  · simp only [h3, decide_false, Bool.not_false]
    refine GO ?_
    refine st_call (chosen_spec c.n) (by rfl) Spl.nil (fun v Post hv => ?_)
    obtain ⟨rfl, rfl⟩ := hv
    simp only [WMem, List.cons_append, List.nil_append]
    refine GO ?_
    rw [show receiveF n many d a c = (chosenE c.n, d, a) from by simp [receiveF, he, h1, h2, h3]]
    refine endQ_mk (Post := WMem t w ++ [cellsAt q 0 (deEnc d), cellsAt b3 0 [ptr0 t], cellsAt b4 0 [vi n], cellsAt b5 0 [vi many]]) (.inr rfl) (.tmp (by rfl) .nil) ⟨w, rfl, hR.mono (Nat.le_succ M), rfl⟩ ?_; simp only [WMem, List.cons_append, List.nil_append]; exact IMx
  simp only [h3, decide_true, Bool.not_true]
  refine GO ?_
  obtain ⟨h, hh⟩ : ∃ h : Nat, h = min many.toNat c.text.size := ⟨_, rfl⟩
  have hmin : (if (c.text.size : Int) < many then (c.text.size : Int) else many) = ((h : Nat) : Int) := by split <;> omega
  rw [hmin]
  refine st_slcS (l := 0) (h := h) (by rfl) .dft (.num (by rfl)) (by omega) ?_
  simp only [deEnc]
  refine GO ?_
  rw [show receiveF n many d a c = (0, { d with text := c.text.extract 0 h }, a) from by simp [receiveF, he, h1, h2, h3, hh]]
  refine endQ_mk (Post := WMem t w ++ [cellsAt q 0 (deEnc { d with text := c.text.extract 0 h }), cellsAt b3 0 [ptr0 t], cellsAt b4 0 [vi n], cellsAt b5 0 [vi many]]) (.inr rfl) (.tmp (by rfl) .nil) ⟨w, rfl, hR.mono (Nat.le_succ M), rfl⟩ ?_
  simp only [WMem, deEnc, List.cons_append, List.nil_append]; exact IMx
theorem clock1_spec (t : Nat) (w : WR) (a : AW) (M : Nat) (hM : M ≤ 1073741822) (hR : Rep w a M)  (c : Ch) (q b3 : Nat) (d : De) :
    Fun Tryz.prog 106 [.agg (chEnc c).toArray, ptr0 q, ptr0 b3] (WMem t w ++ [cellsAt q 0 (deEnc d), cellsAt b3 0 [ptr0 t]])
      (fun v Post => ∃ w2, v = vi (clockF d a c).1 ∧ Rep w2 (clockF d a c).2.2 (M + 1) ∧ Post = WMem t w2 ++ [cellsAt q 0 (deEnc (clockF d a c).2.1), cellsAt b3 0 [ptr0 t]]) := by
  refine Fun.intro low106 (by simp [n106]) ?_
  simp only [WMem, chEnc, List.cons_append, List.nil_append]
  refine GO ?_
  refine st_box (by rfl) (fun p0 => ?_)
  simp only [Value.cells]
  have hcl := hR.ok.clock
  obtain ⟨tt, htt⟩ : ∃ tt : Int, tt = if c.kind = 1 ∧ 0 ≤ c.n ∧ c.n ≤ 1000000000000 then min (a.clock + c.n) 1000000000000000000 else a.clock := ⟨_, rfl⟩
  rw [← hR.clock] at htt
  have hFN : clockF d a c = (0, { d with n := tt }, { a with clock := tt }) := by simp only [clockF, ← hR.clock, ← htt]
  rw [hFN]
  have htb : 0 ≤ tt ∧ tt ≤ 1000000000000000000 := by rw [htt]; split <;> omega
  have fin : Rep { w with clock := tt } { a with clock := tt } (M + 1) := by
    have h' := hR.mono (Nat.le_succ M)
    exact { h' with clock := rfl, ok := { h'.ok with clock := htb } }
  refine GO ?_
  by_cases h1 : c.kind = 1
  rotate_left
  · simp only [h1, decide_false]
    have : w.clock = tt := by rw [htt, if_neg (fun h => h1 h.1)]
    rw [this]
    simp only [deEnc]
    refine GO ?_
    refine endQ_mk (Post := WMem t { w with clock := tt } ++ [cellsAt q 0 (deEnc { d with n := tt }), cellsAt b3 0 [ptr0 t]]) (.inr rfl) (.tmp (by rfl) .nil) ⟨_, rfl, fin, rfl⟩ ?_
    simp only [WMem, deEnc, List.cons_append, List.nil_append]; exact IMx
  simp only [h1, decide_true]
  refine GO ?_
  by_cases h2 : 0 ≤ c.n
  rotate_left
  · simp only [h2, ge_iff_le, decide_false]
    have : w.clock = tt := by rw [htt, if_neg (fun h => h2 h.2.1)]
    rw [this]
    simp only [deEnc]
    refine GO ?_
    refine endQ_mk (Post := WMem t { w with clock := tt } ++ [cellsAt q 0 (deEnc { d with n := tt }), cellsAt b3 0 [ptr0 t]]) (.inr rfl) (.tmp (by rfl) .nil) ⟨_, rfl, fin, rfl⟩ ?_
    simp only [WMem, deEnc, List.cons_append, List.nil_append]; exact IMx
  simp only [h2, ge_iff_le, decide_true]
  refine GO ?_
  by_cases h3 : c.n ≤ 1000000000000
  rotate_left
  · simp only [h3, decide_false]
    have : w.clock = tt := by rw [htt, if_neg (fun h => h3 h.2.2)]
    rw [this]
    simp only [deEnc]
    refine GO ?_
    refine endQ_mk (Post := WMem t { w with clock := tt } ++ [cellsAt q 0 (deEnc { d with n := tt }), cellsAt b3 0 [ptr0 t]]) (.inr rfl) (.tmp (by rfl) .nil) ⟨_, rfl, fin, rfl⟩ ?_
    simp only [WMem, deEnc, List.cons_append, List.nil_append]; exact IMx
  simp only [h3, decide_true]
  refine GO ?_
  have : (if (1000000000000000000 : Int) < w.clock + c.n then (1000000000000000000 : Int) else w.clock + c.n) = tt := by
    have e : tt = min (w.clock + c.n) 1000000000000000000 := by rw [htt, if_pos ⟨h1, h2, h3⟩]
    rw [e]; split <;> omega
  rw [this]
  simp only [deEnc]
  refine GO ?_
  refine endQ_mk (Post := WMem t { w with clock := tt } ++ [cellsAt q 0 (deEnc { d with n := tt }), cellsAt b3 0 [ptr0 t]]) (.inr rfl) (.tmp (by rfl) .nil) ⟨_, rfl, fin, rfl⟩ ?_
  simp only [WMem, deEnc, List.cons_append, List.nil_append]; exact IMx
theorem connect1_spec (t : Nat) (w : WR) (a : AW) (M : Nat) (hM : M ≤ 1073741822) (hR : Rep w a M) (s : ByteArray) (hs : s.size ≤ 4611686018427387904) (c : Ch) (q b3 b4 : Nat) (d : De) :
    Fun Tryz.prog 107 [.agg (chEnc c).toArray, ptr0 q, ptr0 b3, ptr0 b4] (WMem t w ++ [cellsAt q 0 (deEnc d), cellsAt b3 0 [.string s], cellsAt b4 0 [ptr0 t]])
      (fun v Post => ∃ w2, v = vi (connectF s d a c).1 ∧ Rep w2 (connectF s d a c).2.2 (M + 1) ∧ Post = WMem t w2 ++ [cellsAt q 0 (deEnc (connectF s d a c).2.1), cellsAt b3 0 [.string s], cellsAt b4 0 [ptr0 t]]) := by
  refine Fun.intro low107 (by simp [n107]) ?_
  simp only [WMem, chEnc, List.cons_append, List.nil_append]
  refine GO ?_
  refine st_box (by rfl) (fun p0 => ?_)
  simp only [Value.cells]
  have hmany := hR.ok.hmany
  refine GO ?_
  refine st_call (isName_spec s hs) (by rfl) Spl.nil (fun v Post hv => ?_)
  obtain ⟨rfl, rfl⟩ := hv
  simp only [WMem, List.cons_append, List.nil_append]
  cases hn : nameB s with
  | false =>
    refine GO ?_
    rw [show connectF s d a c = (35, d, a) from by simp [connectF, hn]]
    refine endQ_mk (Post := WMem t w ++ [cellsAt q 0 (deEnc d), cellsAt b3 0 [.string s], cellsAt b4 0 [ptr0 t]]) (.inr rfl) (.tmp (by rfl) .nil) ⟨w, rfl, hR.mono (Nat.le_succ M), rfl⟩ ?_; simp only [WMem, List.cons_append, List.nil_append]; exact IMx
  | true =>
  refine GO ?_
  by_cases h1 : c.kind = 2
  rotate_left
  · simp only [h1, decide_false, Bool.not_false]
    refine GO ?_
    rw [show connectF s d a c = (32, d, a) from by simp [connectF, hn, h1]]
    refine endQ_mk (Post := WMem t w ++ [cellsAt q 0 (deEnc d), cellsAt b3 0 [.string s], cellsAt b4 0 [ptr0 t]]) (.inr rfl) (.tmp (by rfl) .nil) ⟨w, rfl, hR.mono (Nat.le_succ M), rfl⟩ ?_; simp only [WMem, List.cons_append, List.nil_append]; exact IMx
  simp only [h1, decide_true, Bool.not_true]
  refine GO ?_
  by_cases h2 : c.text = s
  rotate_left
  · simp only [h2, decide_false, Bool.not_false]
    refine GO ?_
    rw [show connectF s d a c = (32, d, a) from by simp [connectF, hn, h1, h2]]
    refine endQ_mk (Post := WMem t w ++ [cellsAt q 0 (deEnc d), cellsAt b3 0 [.string s], cellsAt b4 0 [ptr0 t]]) (.inr rfl) (.tmp (by rfl) .nil) ⟨w, rfl, hR.mono (Nat.le_succ M), rfl⟩ ?_; simp only [WMem, List.cons_append, List.nil_append]; exact IMx
  simp only [h2, decide_true, Bool.not_true]
  refine GO ?_
  refine st_call (chosen_spec c.n) (by rfl) Spl.nil (fun v Post hv => ?_)
  obtain ⟨rfl, rfl⟩ := hv
  simp only [WMem, List.cons_append, List.nil_append]
  refine GO ?_
  by_cases h3 : chosenE c.n = 0
  rotate_left
  · simp only [h3, decide_false, Bool.not_false]
    refine GO ?_
    refine st_call (chosen_spec c.n) (by rfl) Spl.nil (fun v Post hv => ?_)
    obtain ⟨rfl, rfl⟩ := hv
    simp only [WMem, List.cons_append, List.nil_append]
    refine GO ?_
    rw [show connectF s d a c = (chosenE c.n, d, a) from by simp [connectF, hn, h1, h2, h3]]
    refine endQ_mk (Post := WMem t w ++ [cellsAt q 0 (deEnc d), cellsAt b3 0 [.string s], cellsAt b4 0 [ptr0 t]]) (.inr rfl) (.tmp (by rfl) .nil) ⟨w, rfl, hR.mono (Nat.le_succ M), rfl⟩ ?_; simp only [WMem, List.cons_append, List.nil_append]; exact IMx
  simp only [h3, decide_true, Bool.not_true]
  refine GO ?_
  refine st_call (used_spec t w hR.ok.hv (by omega)) (by rfl) (by simp only [hdr]; exact SPx) (fun v Post hv => ?_)
  obtain ⟨rfl, rfl⟩ := hv
  simp only [hR.used, hdr, List.cons_append, List.nil_append]
  refine GO ?_
  by_cases h4 : 32 ≤ usedN a.hs
  · simp only [show ((usedN a.hs : Nat) : Int) ≥ 32 by omega, decide_true]
    refine GO ?_
    rw [show connectF s d a c = (34, d, a) from by simp [connectF, hn, h1, h2, h3, h4]]
    refine endQ_mk (Post := WMem t w ++ [cellsAt q 0 (deEnc d), cellsAt b3 0 [.string s], cellsAt b4 0 [ptr0 t]]) (.inr rfl) (.tmp (by rfl) .nil) ⟨w, rfl, hR.mono (Nat.le_succ M), rfl⟩ ?_; simp only [WMem, List.cons_append, List.nil_append]; exact IMx
  simp only [show ¬ ((usedN a.hs : Nat) : Int) ≥ 32 by omega, decide_false]
  refine GO ?_
  refine st_box (by rfl) (fun hb => ?_)
  simp only [Value.cells]
  refine GO ?_
  refine st_call (give_spec t w hb hR.ok.hv (by omega)) (by rfl) (by simp only [hdr]; exact SPx) (fun v Post hv => ?_)
  obtain ⟨hv', sp', hsl', rfl, rfl⟩ := hv
  simp only [hdr, deEnc, List.cons_append, List.nil_append]
  refine GO ?_
  have hFN : connectF s d a c = (0, { d with handle := a.hs.length + 1 }, { a with hs := a.hs ++ [⟨0, false, false, none, 0, 0⟩] }) := by simp [connectF, hn, h1, h2, h3, h4]
  rw [hFN]
  have hR2 := (hR.mono (Nat.le_succ M)).addH (by omega) (x := ⟨hb, false, false, none, 0, 0⟩) (y := ⟨0, false, false, none, 0, 0⟩) hsl' rfl (fun i e => by cases e) (by simp)
  refine endQ_mk (Post := WMem t { w with hv := hv', hs := w.hs ++ [⟨hb, false, false, none, 0, 0⟩], hsp := sp' } ++ [cellsAt q 0 (deEnc { d with handle := a.hs.length + 1 }), cellsAt b3 0 [.string s], cellsAt b4 0 [ptr0 t]]) (.inr rfl) (.tmp (by rfl) .nil) ⟨_, rfl, hR2, rfl⟩ ?_
  refine Imp.cut (imp_jn (a := w.hs.flatMap hoA) (b := cellsAt hb 0 [.bool false, .bool false, .pointer none, vi 0, vi 0]) (x := (w.hs ++ [(⟨hb, false, false, none, 0, 0⟩ : HO)]).flatMap hoA) (by exact TKx) (by exact TKx) (by simp [List.flatMap_append, hoA, hoEnc, pf])) ?_
  simp only [WMem, deEnc, hR.hlen, List.map_append, List.map_cons, List.map_nil, List.cons_append, List.nil_append]; exact IMx
def openRest : IC := match F82.body with | .seq _ (.seq _ (.seq _ (.seq _ r))) => r | _ => .skip
def openHead (r : IC) : IC := match F82.body with | .seq a (.seq b (.seq c (.seq x _))) => .seq a (.seq b (.seq c (.seq x r))) | _ => .skip
def openRest2 : IC := match openRest with | .seq _ (.seq _ r) => r | _ => .skip
def openHead2 (r : IC) : IC := match openRest with | .seq a (.seq b _) => .seq a (.seq b r) | _ => .skip
theorem openRest2_spec (t : Nat) (w : WR) (a : AW) (M : Nat) (hM : M ≤ 1073741822) (hR : Rep w a (M + 1)) (hm : w.hs.length ≤ M) (s : ByteArray) (mode at_ : Int) (q b3 b4 b5 hb j : Nat) (d : De) (hj : j < a.files.length) (hat : 0 ≤ at_ ∧ at_ ≤ 4194304) :
    VC Tryz.prog F82.n openRest2 [(0, ptr0 q), (1, ptr0 b3), (8, ptr0 hb)] (WMem t w ++ ([cellsAt hb 0 [.bool false, .bool false, ptr0 ((w.objs.map (·.1)).getD j 0), vi mode, vi at_]] ++ [cellsAt q 0 (deEnc d), cellsAt b3 0 [ptr0 t], cellsAt b4 0 [.string s], cellsAt b5 0 [vi mode]]))
      (endQ F82.res (fun v Post => ∃ w2, v = vi 0 ∧ Rep w2 { a with hs := a.hs ++ [⟨0, false, false, some j, mode, at_⟩] } (M + 1) ∧ Post = WMem t w2 ++ [cellsAt q 0 (deEnc { d with handle := a.hs.length + 1 }), cellsAt b3 0 [ptr0 t], cellsAt b4 0 [.string s], cellsAt b5 0 [vi mode]])) := by
  simp only [WMem, List.cons_append, List.nil_append]
  refine GO ?_
  refine st_call (give_spec t w hb hR.ok.hv (by omega)) (by rfl) (by simp only [hdr]; exact SPx) (fun v Post hv => ?_)
  obtain ⟨hv', sp', hsl', rfl, rfl⟩ := hv
  simp only [hdr, deEnc, List.cons_append, List.nil_append]
  refine GO ?_
  have hR2 := hR.addH (by omega) (x := ⟨hb, false, false, some ((w.objs.map (·.1)).getD j 0), mode, at_⟩) (y := ⟨0, false, false, some j, mode, at_⟩) hsl' rfl (fun i e => by cases e; exact hj) hat
  refine endQ_mk (Post := WMem t { w with hv := hv', hs := w.hs ++ [⟨hb, false, false, some ((w.objs.map (·.1)).getD j 0), mode, at_⟩], hsp := sp' } ++ [cellsAt q 0 (deEnc { d with handle := a.hs.length + 1 }), cellsAt b3 0 [ptr0 t], cellsAt b4 0 [.string s], cellsAt b5 0 [vi mode]]) (.inr rfl) (.tmp (by rfl) .nil) ⟨_, rfl, hR2, rfl⟩ ?_
  refine Imp.cut (imp_jn (a := w.hs.flatMap hoA) (b := cellsAt hb 0 [.bool false, .bool false, ptr0 ((w.objs.map (·.1)).getD j 0), vi mode, vi at_]) (x := (w.hs ++ [(⟨hb, false, false, some ((w.objs.map (·.1)).getD j 0), mode, at_⟩ : HO)]).flatMap hoA) (by exact TKx) (by exact TKx) (by simp [List.flatMap_append, hoA, hoEnc, pf])) ?_
  simp only [WMem, deEnc, hR.hlen, List.map_append, List.map_cons, List.map_nil, List.cons_append, List.nil_append]; exact IMx
theorem openRest_spec (t : Nat) (w : WR) (a : AW) (M : Nat) (hM : M ≤ 1073741822) (hR : Rep w a M) (s : ByteArray) (mode : Int) (q b3 b4 b5 j : Nat) (d : De) (hj : j < a.files.length) :
    VC Tryz.prog F82.n openRest [(0, ptr0 q), (1, ptr0 b3), (3, ptr0 b5), (6, ptr0 ((w.objs.map (·.1)).getD j 0))] (WMem t w ++ [cellsAt q 0 (deEnc d), cellsAt b3 0 [ptr0 t], cellsAt b4 0 [.string s], cellsAt b5 0 [vi mode]])
      (endQ F82.res (fun v Post => ∃ w2, v = vi 0 ∧ Rep w2 (openB j mode d a).2.2 (M + 1) ∧ Post = WMem t w2 ++ [cellsAt q 0 (deEnc { d with handle := a.hs.length + 1 }), cellsAt b3 0 [ptr0 t], cellsAt b4 0 [.string s], cellsAt b5 0 [vi mode]])) := by
  have hmany := hR.ok.hmany
  have hseq := hR.ok.seq
  obtain ⟨b, fo, hob, hBj, hfi, hfo⟩ := hR.file hj
  obtain ⟨frest, hf1, hf2⟩ := flat_take (f := foA) hob
  have hfg : (a.files[j]?).getD ⟨[], [], []⟩ = foF fo := by rw [hfi]; rfl
  obtain ⟨now, base, writes, nv, bv, wv, ns, bs, ws⟩ := fo
  have hnow := hfo.now
  have hlen := hfo.len
  have hwrs := hfo.wr
  have hmanyw := hfo.many
  simp only at hnow hlen hwrs hmanyw
  obtain ⟨na, nc, rfl⟩ := hnow.form
  have rest := fun (w2 : WR) (a2 : AW) (at_ : Int) (hb : Nat) (h2 : Rep w2 a2 (M + 1)) (h3 : w2.hs.length ≤ M) (h4 : j < a2.files.length) (h5 : 0 ≤ at_ ∧ at_ ≤ 4194304) => openRest2_spec t w2 a2 M hM h2 h3 s mode at_ q b3 b4 b5 hb j d h4 h5
  show VC _ _ (openHead2 openRest2) _ _ _
  generalize openRest2 = r at rest ⊢
  rw [hBj]
  simp only [WMem, List.cons_append, List.nil_append]
  have hF : (w.objs.flatMap foA).Perm (List.flatten [cellsAt b 0 [.slice na now.length nc, bv, wv], slA (.slice na now.length nc) (now.map u8v) ns, slA bv (base.map u8v) bs, slA wv (writes.flatMap wrEnc) ws, frest]) := by simpa [foA] using hf1
  refine VC.imp (imp_tk (x := w.objs.flatMap foA) [cellsAt b 0 [.slice na now.length nc, bv, wv], slA (.slice na now.length nc) (now.map u8v) ns, slA bv (base.map u8v) bs, slA wv (writes.flatMap wrEnc) ws, frest] (by exact TKx) hF) ?_
  simp only [CNx]
  refine GO ?_
  refine st_box (by rfl) (fun hb => ?_)
  simp only [Value.cells]
  refine GO ?_
  by_cases h2 : mode = 2
  · simp only [h2, decide_true]
    subst h2
    refine GO ?_
    refine st_call (next_spec' t w (by omega) []) (by rfl) (by simp only [hdr]; exact SPx) (fun v Post hv => ?_)
    obtain ⟨rfl, rfl⟩ := hv
    simp only [hdr, List.cons_append, List.nil_append]
    refine GO ?_
    obtain ⟨x, hxx⟩ : ∃ x : Wr, x = ⟨w.seq + 1, 0, nilTx, true⟩ := ⟨_, rfl⟩
    refine st_call (does_spec b x _ bv wv now ns writes ws (by rw [hxx]; exact ⟨Int.le_refl _, by show (0 : Int) + ((0 : Nat) : Int) ≤ 4194304; decide⟩) hlen hnow hwrs (by omega)) (by rw [hxx]; rfl) (by exact SPx) (fun v Post hv => ?_)
    obtain ⟨nv', ns', wv', wsp', hn', hw', rfl⟩ := hv
    simp only [CNx]
    have hxe : onL x now = [] := by rw [hxx]; rfl
    have hfok : FOk ⟨onL x now, base, writes ++ [x], nv', bv, wv', ns', bs, wsp'⟩ (M + 1) := by
      refine ⟨hn', hfo.base, ?_, by simp [hxe], hfo.len2, ?_, ?_⟩
      · simpa [List.flatMap_append] using hw'
      · simp only [List.length_append, List.length_singleton]; omega
      · intro z hz
        rcases List.mem_append.1 hz with hz | hz
        · exact hfo.at_ z hz
        · rw [List.mem_singleton.1 hz, hxx]; exact ⟨Int.le_refl _, by show (0 : Int) + ((0 : Nat) : Int) ≤ 4194304; decide⟩
    have hR2 := hR.next.setF (Nat.le_refl _) hob hfok
    have hF2 := hf2 (b, ⟨onL x now, base, writes ++ [x], nv', bv, wv', ns', bs, wsp'⟩)
    have hfst : (((w.objs.set j (b, (⟨onL x now, base, writes ++ [x], nv', bv, wv', ns', bs, wsp'⟩ : FO))).map (·.1)).getD j 0) = b := by rw [fst_set hob]; exact hBj
    refine GO ?_
    refine VC.imp ?_ (VC.sub ?_ ((rest _ _ 0 hb hR2 hmany (by simpa using hj) (by decide)).mono ?_))
    · rw [hfst]
      refine Imp.cut ?_ (imp_closeL (w := { w with seq := w.seq + 1, objs := w.objs.set j (b, ⟨onL x now, base, writes ++ [x], nv', bv, wv', ns', bs, wsp'⟩) }) [cellsAt b 0 [nv', bv, wv'], slA nv' ((onL x now).map u8v) ns', slA bv (base.map u8v) bs, slA wv' (writes.flatMap wrEnc ++ wrEnc x) wsp', frest] [w.hs.flatMap hoA] (by simpa [foA, List.flatMap_append] using hF2) (by simp))
      simp only [hdr, List.cons_append, List.nil_append]
      exact IMx
    · exact SUx
    · intro e Γ' H' hq
      have : (openB j 2 d a).2.2 = { a with seq := a.seq + 1, files := a.files.set j (foF ⟨onL x now, base, writes ++ [x], nv', bv, wv', ns', bs, wsp'⟩), hs := a.hs ++ [⟨0, false, false, some j, 2, 0⟩] } := by
        simp only [openB, if_true, hfg, doesA, foF, hxx, ← hR.seq]; rfl
      rw [this]; exact hq
  simp only [h2, decide_false]
  refine GO ?_
  have fin : ∀ at2, (0 ≤ at2 ∧ at2 ≤ 4194304) → (openB j mode d a).2.2 = { a with hs := a.hs ++ [⟨0, false, false, some j, mode, at2⟩] } → VC Tryz.prog F82.n r [(0, ptr0 q), (1, ptr0 b3), (8, ptr0 hb)]
      ([cellsAt hb 0 [.bool false, .bool false, ptr0 b, vi mode, vi at2], cellsAt b 0 [.slice na now.length nc, bv, wv], slA (.slice na now.length nc) (now.map u8v) ns, slA bv (base.map u8v) bs, slA wv (writes.flatMap wrEnc) ws, frest, cellsAt t 0 [w.cv, .map (some w.fm), w.hv, w.tv, vi w.clock, vi w.seq, .bool w.dead], slA w.cv (w.choices.flatMap chEnc) w.csp, [.obj w.fm (.map w.fes w.fc)], slA w.hv (w.hs.map fun h => ptr0 h.blk) w.hsp, w.hs.flatMap hoA, slA w.tv (w.trace.flatMap deEnc) w.tsp] ++ [cellsAt q 0 (deEnc d), cellsAt b3 0 [ptr0 t], cellsAt b4 0 [.string s], cellsAt b5 0 [vi mode]])
      (endQ F82.res (fun v Post => ∃ w2, v = vi 0 ∧ Rep w2 (openB j mode d a).2.2 (M + 1) ∧ Post = WMem t w2 ++ [cellsAt q 0 (deEnc { d with handle := a.hs.length + 1 }), cellsAt b3 0 [ptr0 t], cellsAt b4 0 [.string s], cellsAt b5 0 [vi mode]])) := by
    intro at2 hat2 he
    refine VC.imp ?_ ((rest w a at2 hb (hR.mono (Nat.le_succ M)) hmany hj hat2).mono ?_)
    · rw [hBj]
      refine Imp.cut ?_ (imp_closeL _ [w.hs.flatMap hoA] hF (by simp))
      simp only [hdr, List.cons_append, List.nil_append]
      exact IMx
    · intro e Γ' H' hq
      rw [he]; exact hq
  simp only [WMem, List.cons_append, List.nil_append] at fin
  by_cases h3 : mode = 3
  · simp only [h3, decide_true]
    subst h3
    refine GO ?_
    refine VC.imp ?_ (VC.sub ?_ (fin now.length (by omega) (by simp [openB, hfg, foF])))
    · exact IMx
    · exact SUx
  · simp only [h3, decide_false]
    refine GO ?_
    refine VC.imp ?_ (VC.sub ?_ (fin 0 (by omega) (by simp [openB, h2, h3])))
    · exact IMx
    · exact SUx
theorem open1_spec (t : Nat) (w : WR) (a : AW) (M : Nat) (hM : M ≤ 1073741822) (hR : Rep w a M) (s : ByteArray) (mode : Int) (hs : s.size ≤ 4611686018427387904) (q b3 b4 b5 : Nat) (d : De) :
    Fun Tryz.prog 82 [ptr0 q, ptr0 b3, ptr0 b4, ptr0 b5] (WMem t w ++ [cellsAt q 0 (deEnc d), cellsAt b3 0 [ptr0 t], cellsAt b4 0 [.string s], cellsAt b5 0 [vi mode]])
      (fun v Post => ∃ w2, v = vi (openF s mode d a).1 ∧ Rep w2 (openF s mode d a).2.2 (M + 1) ∧ Post = WMem t w2 ++ [cellsAt q 0 (deEnc (openF s mode d a).2.1), cellsAt b3 0 [ptr0 t], cellsAt b4 0 [.string s], cellsAt b5 0 [vi mode]]) := by
  refine Fun.intro low82 (by simp [n82]) ?_
  have rest := fun (w2 : WR) (a2 : AW) (j : Nat) (h2 : Rep w2 a2 M) (h4 : j < a2.files.length) => openRest_spec t w2 a2 M hM h2 s mode q b3 b4 b5 j d h4
  show VC _ _ (openHead openRest) _ _ _
  generalize openRest = r at rest ⊢
  simp only [WMem, List.cons_append, List.nil_append]
  have hmany := hR.ok.hmany
  refine GO ?_
  refine st_lookup (k := s) (by rfl) (by rfl) rfl (by (focus ((repeat (first | with_reducible exact HasO.here | apply HasO.there)); done))) hR.ok.fm ?_
  rw [hR.mget]
  generalize hg : mget s a.names = gr
  have hext : ∃ p, lookV true (Value.pointer none) ((gr.map fun j => (w.objs.map (·.1)).getD j 0).map fun b => ptr0 b) = .tuple #[p, .bool gr.isSome] ∧ ∀ j, gr = some j → p = ptr0 ((w.objs.map (·.1)).getD j 0) := by
    cases gr with
    | none => exact ⟨_, rfl, fun _ e => by cases e⟩
    | some j => exact ⟨_, rfl, fun _ e => by cases e; rfl⟩
  obtain ⟨p, hp, hpj⟩ := hext
  rw [hp]
  refine GO ?_
  refine st_call (isName_spec s hs) (by rfl) Spl.nil (fun v Post hv => ?_)
  obtain ⟨rfl, rfl⟩ := hv
  simp only [List.nil_append]
  cases hn : nameB s with
  | false =>
    refine GO ?_
    rw [show openF s mode d a = (35, d, a) from by simp [openF, hn]]
    refine endQ_mk (Post := WMem t w ++ [cellsAt q 0 (deEnc d), cellsAt b3 0 [ptr0 t], cellsAt b4 0 [.string s], cellsAt b5 0 [vi mode]]) (.inr rfl) (.tmp (by rfl) .nil) ⟨w, rfl, hR.mono (Nat.le_succ M), rfl⟩ ?_; simp only [WMem, List.cons_append, List.nil_append]; exact IMx
  | true =>
  refine GO ?_
  by_cases h1 : mode < 1
  · simp only [h1, decide_true]
    refine GO ?_
    rw [show openF s mode d a = (33, d, a) from by simp [openF, hn, h1]]
    refine endQ_mk (Post := WMem t w ++ [cellsAt q 0 (deEnc d), cellsAt b3 0 [ptr0 t], cellsAt b4 0 [.string s], cellsAt b5 0 [vi mode]]) (.inr rfl) (.tmp (by rfl) .nil) ⟨w, rfl, hR.mono (Nat.le_succ M), rfl⟩ ?_; simp only [WMem, List.cons_append, List.nil_append]; exact IMx
  simp only [h1, decide_false]
  refine GO ?_
  by_cases h2 : 3 < mode
  · simp only [h2, gt_iff_lt, decide_true]
    refine GO ?_
    rw [show openF s mode d a = (33, d, a) from by simp [openF, hn, h1, h2]]
    refine endQ_mk (Post := WMem t w ++ [cellsAt q 0 (deEnc d), cellsAt b3 0 [ptr0 t], cellsAt b4 0 [.string s], cellsAt b5 0 [vi mode]]) (.inr rfl) (.tmp (by rfl) .nil) ⟨w, rfl, hR.mono (Nat.le_succ M), rfl⟩ ?_; simp only [WMem, List.cons_append, List.nil_append]; exact IMx
  simp only [h2, gt_iff_lt, decide_false]
  refine GO ?_
  have hmm : ¬ (mode < 1 ∨ 3 < mode) := by omega
  cases gr with
  | none =>
    by_cases h3 : mode = 1
    · simp only [decide_eq_true h3]
      refine GO ?_
      rw [show openF s mode d a = (32, d, a) from by simp [openF, hn, hg, hmm, h3]]
      refine endQ_mk (Post := WMem t w ++ [cellsAt q 0 (deEnc d), cellsAt b3 0 [ptr0 t], cellsAt b4 0 [.string s], cellsAt b5 0 [vi mode]]) (.inr rfl) (.tmp (by rfl) .nil) ⟨w, rfl, hR.mono (Nat.le_succ M), rfl⟩ ?_; simp only [WMem, List.cons_append, List.nil_append]; exact IMx
    simp only [h3, decide_false]
    refine GO ?_
    refine st_call (used_spec t w hR.ok.hv (by omega)) (by rfl) (by simp only [hdr]; exact SPx) (fun v Post hv => ?_)
    obtain ⟨rfl, rfl⟩ := hv
    simp only [hR.used, hdr, List.cons_append, List.nil_append]
    refine GO ?_
    by_cases h4 : 32 ≤ usedN a.hs
    · simp only [show ((usedN a.hs : Nat) : Int) ≥ 32 by omega, decide_true]
      refine GO ?_
      rw [show openF s mode d a = (34, d, a) from by simp [openF, hn, hg, hmm, h3, h4]]
      refine endQ_mk (Post := WMem t w ++ [cellsAt q 0 (deEnc d), cellsAt b3 0 [ptr0 t], cellsAt b4 0 [.string s], cellsAt b5 0 [vi mode]]) (.inr rfl) (.tmp (by rfl) .nil) ⟨w, rfl, hR.mono (Nat.le_succ M), rfl⟩ ?_; simp only [WMem, List.cons_append, List.nil_append]; exact IMx
    simp only [show ¬ ((usedN a.hs : Nat) : Int) ≥ 32 by omega, decide_false]
    refine GO ?_
    refine st_mlen (by rfl) (by (focus ((repeat (first | with_reducible exact HasO.here | apply HasO.there)); done))) hR.ok.fm ?_
    rw [hR.nlen]
    refine GO ?_
    by_cases h5 : 64 ≤ a.names.length
    · simp only [show ((a.names.length : Nat) : Int) ≥ 64 by omega, decide_true]
      refine GO ?_
      rw [show openF s mode d a = (34, d, a) from by simp [openF, hn, hg, hmm, h3, h4, h5]]
      refine endQ_mk (Post := WMem t w ++ [cellsAt q 0 (deEnc d), cellsAt b3 0 [ptr0 t], cellsAt b4 0 [.string s], cellsAt b5 0 [vi mode]]) (.inr rfl) (.tmp (by rfl) .nil) ⟨w, rfl, hR.mono (Nat.le_succ M), rfl⟩ ?_; simp only [WMem, List.cons_append, List.nil_append]; exact IMx
    simp only [show ¬ ((a.names.length : Nat) : Int) ≥ 64 by omega, decide_false]
    refine GO ?_
    refine st_box (by rfl) (fun p6 => ?_)
    simp only [Value.cells]
    refine VO.know (φ := p6 ∉ w.objs.map (·.1)) (fun w0 F hs0 hmem => ?_) (fun hfr => ?_)
    · obtain ⟨⟨b', fo⟩, hm, rfl⟩ := List.mem_map.1 hmem
      have hy : Atom.cell b' 0 fo.nv ∈ w.objs.flatMap foA := List.mem_flatMap.2 ⟨_, hm, by simp [foA, cellsAt]⟩
      exact hs0.apart (x := .cell b' 0 (.slice none 0 0)) (y := .cell b' 0 fo.nv) .here (by simp [cellsAt]) (by simp only [List.flatten_cons, List.mem_append, hy, true_or, or_true]) rfl
    refine GO ?_
    refine st_mapupd (k := s) (v := p6) (by rfl) (by rfl) (by rfl) rfl (by exact TKx) hR.ok.fm (fun es2 c2 hm2 => ?_)
    have hRf := hR.addF (fo := ⟨[], [], [], .slice none 0 0, .slice none 0 0, .slice none 0 0, [], [], []⟩) hfr ⟨.nil, .nil, .nil, by simp, by simp, by simp, by simp⟩
    have hB : (((w.objs ++ [(p6, (⟨[], [], [], .slice none 0 0, .slice none 0 0, .slice none 0 0, [], [], []⟩ : FO))]).map (·.1)).getD a.files.length 0) = p6 := by
      rw [← hR.flen]; simp [List.getD_eq_getElem?_getD]
    have hnm := hRf.names
    dsimp only at hnm
    rw [hnm] at hm2
    have hms := mset_map (κ := ByteArray) (k := s) (g := fun j => ((w.objs ++ [(p6, (⟨[], [], [], .slice none 0 0, .slice none 0 0, .slice none 0 0, [], [], []⟩ : FO))]).map (·.1)).getD j 0) (v := a.files.length) (l := a.names)
    rw [hB] at hms
    rw [hms] at hm2
    have hRn := hRf.setN hm2 (mset_keys_nodup hR.keys) (fun p hp => by
      rcases mem_mset hp with rfl | hp
      · simp
      · have := hR.nin p hp; simp; omega) (by rw [mget_none_mset hg]; simp; omega)
    have hFN : openF s mode d a = openB a.files.length mode d (newF s a) := by simp [openF, hn, hg, hmm, h3, h4, h5]
    refine GO ?_
    refine VC.imp ?_ (VC.sub ?_ ((rest _ (newF s a) a.files.length hRn (by simp [newF])).mono ?_))
    · refine Imp.cut (imp_jn (a := w.objs.flatMap foA) (b := cellsAt p6 0 [.slice none 0 0, .slice none 0 0, .slice none 0 0]) (x := (w.objs ++ [(p6, (⟨[], [], [], .slice none 0 0, .slice none 0 0, .slice none 0 0, [], [], []⟩ : FO))]).flatMap foA) (by exact TKx) (by exact TKx) (by simp [List.flatMap_append, foA, slA])) ?_
      simp only [WMem, List.cons_append, List.nil_append]; exact IMx
    · dsimp only
      rw [hB]; exact SUx
    · intro e Γ' H' hq
      rw [hFN]; exact hq
  | some j =>
    obtain rfl := hpj j rfl
    have hj := hR.nin _ (mget_mem hg)
    have go : ∀ (h4 : ¬ 32 ≤ usedN a.hs), openF s mode d a = openB j mode d a := fun h4 => by simp [openF, hn, hg, hmm, h4]
    by_cases h3 : mode = 1
    · simp only [decide_eq_true h3, Option.isSome_some]
      refine GO ?_
      refine st_call (used_spec t w hR.ok.hv (by omega)) (by rfl) (by simp only [hdr]; exact SPx) (fun v Post hv => ?_)
      obtain ⟨rfl, rfl⟩ := hv
      simp only [hR.used, hdr, List.cons_append, List.nil_append]
      refine GO ?_
      by_cases h4 : 32 ≤ usedN a.hs
      · simp only [show ((usedN a.hs : Nat) : Int) ≥ 32 by omega, decide_true]
        refine GO ?_
        rw [show openF s mode d a = (34, d, a) from by simp [openF, hn, hg, hmm, h4]]
        refine endQ_mk (Post := WMem t w ++ [cellsAt q 0 (deEnc d), cellsAt b3 0 [ptr0 t], cellsAt b4 0 [.string s], cellsAt b5 0 [vi mode]]) (.inr rfl) (.tmp (by rfl) .nil) ⟨w, rfl, hR.mono (Nat.le_succ M), rfl⟩ ?_; simp only [WMem, List.cons_append, List.nil_append]; exact IMx
      simp only [show ¬ ((usedN a.hs : Nat) : Int) ≥ 32 by omega, decide_false]
      refine GO ?_
      refine VC.imp ?_ (VC.sub ?_ ((rest w a j hR hj).mono ?_))
      · simp only [WMem, List.cons_append, List.nil_append]; exact IMx
      · exact SUx
      · intro e Γ' H' hq
        rw [go h4]; exact hq
    · simp only [decide_eq_false h3, Option.isSome_some]
      refine GO ?_
      refine st_call (used_spec t w hR.ok.hv (by omega)) (by rfl) (by simp only [hdr]; exact SPx) (fun v Post hv => ?_)
      obtain ⟨rfl, rfl⟩ := hv
      simp only [hR.used, hdr, List.cons_append, List.nil_append]
      refine GO ?_
      by_cases h4 : 32 ≤ usedN a.hs
      · simp only [show ((usedN a.hs : Nat) : Int) ≥ 32 by omega, decide_true]
        refine GO ?_
        rw [show openF s mode d a = (34, d, a) from by simp [openF, hn, hg, hmm, h4]]
        refine endQ_mk (Post := WMem t w ++ [cellsAt q 0 (deEnc d), cellsAt b3 0 [ptr0 t], cellsAt b4 0 [.string s], cellsAt b5 0 [vi mode]]) (.inr rfl) (.tmp (by rfl) .nil) ⟨w, rfl, hR.mono (Nat.le_succ M), rfl⟩ ?_; simp only [WMem, List.cons_append, List.nil_append]; exact IMx
      simp only [show ¬ ((usedN a.hs : Nat) : Int) ≥ 32 by omega, decide_false]
      refine GO ?_
      refine VC.imp ?_ (VC.sub ?_ ((rest w a j hR hj).mono ?_))
      · simp only [WMem, List.cons_append, List.nil_append]; exact IMx
      · exact SUx
      · intro e Γ' H' hq
        rw [go h4]; exact hq
end Go.Proofs.YtgindbomnbojeaaGreat

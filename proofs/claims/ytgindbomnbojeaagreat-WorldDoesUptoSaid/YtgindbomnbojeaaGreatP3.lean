/-
  The outside world: an end of a handle.
-/
import Derived.Test.YtgindbomnbojeaaGreatP2
set_option linter.unusedSimpArgs false
set_option linter.unusedVariables false
namespace Go.Proofs.YtgindbomnbojeaaGreat
open Go Go.V
set_option maxHeartbeats 3200000
set_option maxRecDepth 100000
theorem close1_spec (t : Nat) (w : WR) (a : AW) (M : Nat) (hM : M ≤ 1073741822) (hR : Rep w a M) (n : Int) (q b3 b4 : Nat) (d : De) :
    Fun Tryz.prog 102 [ptr0 q, ptr0 b3, ptr0 b4] (WMem t w ++ [cellsAt q 0 (deEnc d), cellsAt b3 0 [ptr0 t], cellsAt b4 0 [vi n]])
      (fun v Post => ∃ w2, v = vi (closeF n d a).1 ∧ Rep w2 (closeF n d a).2.2 (M + 1) ∧ Post = WMem t w2 ++ [cellsAt q 0 (deEnc (closeF n d a).2.1), cellsAt b3 0 [ptr0 t], cellsAt b4 0 [vi n]]) := by
  refine Fun.intro low102 (by simp [n102]) ?_
  simp only [WMem, List.cons_append, List.nil_append]
  have hmany := hR.ok.hmany
  refine GO ?_
  refine st_call (any_spec t w n hR.ok.hv (by omega)) (by rfl) (by simp only [hdr]; exact SPx) (fun v Post hv => ?_)
  obtain ⟨⟨p, rfl, hp1, hp2⟩, rfl⟩ := hv
  rw [hR.any] at hp1 hp2
  simp only [hR.any, hdr, List.cons_append, List.nil_append]
  refine GO ?_
  by_cases he : anyE a.hs n = 0
  rotate_left
  · simp only [he, decide_false, Bool.not_false]
    refine GO ?_
    rw [show closeF n d a = (anyE a.hs n, d, a) from by simp [closeF, he]]; refine endQ_mk (Post := WMem t w ++ [cellsAt q 0 (deEnc d), cellsAt b3 0 [ptr0 t], cellsAt b4 0 [vi n]]) (.inr rfl) (.tmp (by rfl) .nil) ⟨w, rfl, hR.mono (Nat.le_succ M), rfl⟩ ?_
    simp only [WMem, List.cons_append, List.nil_append]; exact IMx
  obtain ⟨x, y, hn1, hx, hy, hxy, hxc, hrange⟩ := hR.opened2 he
  obtain rfl : p = ptr0 x.blk := hp1 x he hx
  have hgH : getH a n = y := by simp only [getH, hy, Option.getD_some]
  obtain ⟨hrest, hh1, hh2⟩ := flat_take (f := hoA) hx
  obtain ⟨blk, closed, stale, file, mode, hat0⟩ := x
  simp only at hxc hrange
  subst hxc
  simp only [he, decide_true, Bool.not_true]
  refine VC.imp (imp_tk (x := w.hs.flatMap hoA) [hoA ⟨blk, false, stale, file, mode, hat0⟩, hrest] (by exact TKx) (by simpa using hh1)) ?_
  simp only [hoA, hoEnc, List.cons_append, List.nil_append]
  refine GO ?_
  have hmo : mode = y.mode := congrArg HO.mode hxy
  have hao : hat0 = y.at_ := congrArg HO.at_ hxy
  have hys : y.stale = stale := (congrArg HO.stale hxy).symm
  cases stale with
  | true =>
    refine GO ?_
    have hc : (getH a n).stale = true := by rw [hgH, hys]
    rw [show closeF n d a = (31, d, a) from by simp [closeF, he, hc]]; refine endQ_mk (Post := WMem t w ++ [cellsAt q 0 (deEnc d), cellsAt b3 0 [ptr0 t], cellsAt b4 0 [vi n]]) (.inr rfl) (.tmp (by rfl) .nil) ⟨w, rfl, hR.mono (Nat.le_succ M), rfl⟩ ?_
    refine Imp.cut ?_ (imp_closeH hh1)
    simp only [hdr, hoA, hoEnc, List.cons_append, List.nil_append]; exact IMx
  | false =>
    refine GO ?_
    have hc : (getH a n).stale = false := by rw [hgH, hys]
    rw [show closeF n d a = (0, d, putH a n { y with closed := true }) from by simp [closeF, he, hc, hgH, hys]]
    refine endQ_mk (Post := WMem t { w with hs := w.hs.set (n - 1).toNat ⟨blk, true, false, file, mode, hat0⟩ } ++ [cellsAt q 0 (deEnc d), cellsAt b3 0 [ptr0 t], cellsAt b4 0 [vi n]]) (.inr rfl) (.tmp (by rfl) .nil) ⟨_, rfl, ?_, rfl⟩ ?_
    · exact (hR.setH (x' := ⟨blk, true, false, file, mode, hat0⟩) (y' := { y with closed := true }) hx hy rfl rfl rfl ⟨rfl, hys.symm, hmo, hao⟩ hrange).mono (Nat.le_succ M)
    · refine Imp.cut ?_ (imp_closeH (w := { w with hs := w.hs.set (n - 1).toNat ⟨blk, true, false, file, mode, hat0⟩ }) (hh2 ⟨blk, true, false, file, mode, hat0⟩))
      have hblk : (w.hs.set (n - 1).toNat ⟨blk, true, false, file, mode, hat0⟩).map (fun h => ptr0 h.blk) = w.hs.map fun h => ptr0 h.blk := set_blk hx rfl
      simp only [hblk, hdr, hoA, hoEnc, List.cons_append, List.nil_append]
      exact IMx
set_option maxHeartbeats 6400000
theorem cloneB_spec (sv : Value) (k : Nat) (xs sp : List Value) (hk : k ≤ 1073741824) (hsl : IsSl 1 sv k xs sp) (hone : xs.all oneCell = true) :
    Fun Tryz.prog 63 [sv] [slA sv xs sp] (fun v Post => ∃ sp', IsSl 1 v k xs sp' ∧ Post = [slA sv xs sp, slA v xs sp']) := by
  refine Fun.intro low63 (by simp [n63]) ?_
  cases hsl with
  | nil =>
    refine GO ?_
    exact endQ_mk (Post := [slA (.slice none 0 0) [] [], slA (.slice none 0 0) [] []]) (.inr rfl) (.tmp (by rfl) .nil) ⟨[], .nil, rfl⟩ ⟨[], by simp [slA, V.Spl]⟩
  | @mk b o _ c _ _ h1 h2 h3 =>
    refine GO ?_
    refine st_bslice (out := []) (by rfl) (by rfl) (fun q1 => ?_)
    refine GO ?_
    refine st_append (k := 0) (m := k) (xs := []) (sp := []) (ys := xs) (by rfl) (by rfl) (.mk rfl rfl (Nat.le_refl _)) .here (by rfl) ?_ h1 hone (by rfl) (by decide) (by omega) (fun sv' sp' hsl' => ?_)
    · refine ⟨h1, fun a ha => ?_⟩
      simp only [List.flatten_cons, List.flatten_nil, List.append_nil, slA, cellsAt_append, List.mem_append]
      exact .inl ha
    rw [Nat.zero_add, List.nil_append] at hsl'
    obtain ⟨a', c', hf'⟩ := hsl'.form
    subst hf'
    refine GO ?_
    exact endQ_mk (Post := [slA (.slice (some ⟨b, o, none⟩) k c) xs sp, slA (.slice a' k c') xs sp']) (.inr rfl) (.tmp (by rfl) .nil) ⟨sp', hsl', rfl⟩ (by simp only [List.nil_append]; exact IMx)
theorem sync1_spec (t : Nat) (w : WR) (a : AW) (M : Nat) (hM : M ≤ 1073741822) (hR : Rep w a M) (n : Int) (q b3 b4 : Nat) (d : De) :
    Fun Tryz.prog 101 [ptr0 q, ptr0 b3, ptr0 b4] (WMem t w ++ [cellsAt q 0 (deEnc d), cellsAt b3 0 [ptr0 t], cellsAt b4 0 [vi n]])
      (fun v Post => ∃ w2, v = vi (syncF n d a).1 ∧ Rep w2 (syncF n d a).2.2 (M + 1) ∧ Post = WMem t w2 ++ [cellsAt q 0 (deEnc (syncF n d a).2.1), cellsAt b3 0 [ptr0 t], cellsAt b4 0 [vi n]]) := by
  refine Fun.intro low101 (by simp [n101]) ?_
  simp only [WMem, List.cons_append, List.nil_append]
  have hmany := hR.ok.hmany
  refine GO ?_
  refine st_call (held_spec t w n false hR.ok.hv (by omega)) (by rfl) (by simp only [hdr]; exact SPx) (fun v Post hv => ?_)
  obtain ⟨⟨p, rfl, hp1, hp2⟩, rfl⟩ := hv
  rw [hR.held] at hp1 hp2
  simp only [hR.held, hdr, List.cons_append, List.nil_append]
  refine GO ?_
  by_cases he : heldE a.hs n false = 0
  rotate_left
  · simp only [he, decide_false, Bool.not_false]
    refine GO ?_
    rw [show syncF n d a = (heldE a.hs n false, d, a) from by simp [syncF, he]]; refine endQ_mk (Post := WMem t w ++ [cellsAt q 0 (deEnc d), cellsAt b3 0 [ptr0 t], cellsAt b4 0 [vi n]]) (.inr rfl) (.tmp (by rfl) .nil) ⟨w, rfl, hR.mono (Nat.le_succ M), rfl⟩ ?_
    simp only [WMem, List.cons_append, List.nil_append]; exact IMx
  obtain ⟨x, y, b, j, fo, hn1, hx, hy, hxc, hxs, hyc, hys, hmode, hat, hxf, hyf, hob, hfi, hfo, hrange⟩ := hR.opened he
  obtain rfl : p = ptr0 x.blk := hp1 x he hx
  have hgH : getH a n = y := by simp only [getH, hy, Option.getD_some]
  have hgF : getF a n = foF fo := by simp only [getF, hgH, hyf, Option.getD_some, hfi]
  obtain ⟨frest, hf1, hf2⟩ := flat_take (f := foA) hob
  obtain ⟨hrest, hh1, hh2⟩ := flat_take (f := hoA) hx
  obtain ⟨now, base, writes, nv, bv, wv, ns, bs, ws⟩ := fo
  obtain ⟨blk, closed, stale, file, mode, hat0⟩ := x
  simp only at hxf hxc hxs hmode hat hrange
  subst hxf hxc hxs
  have hnow := hfo.now
  have hlen := hfo.len
  simp only at hnow hlen
  obtain ⟨na, nc, rfl⟩ := hnow.form
  simp only [he, decide_true, Bool.not_true]
  refine VC.imp (imp_tk (x := w.hs.flatMap hoA) [hoA ⟨blk, false, false, some b, mode, hat0⟩, hrest] (by exact TKx) (by simpa using hh1)) ?_
  simp only [hoA, hoEnc, pf, Option.map_some, List.cons_append, List.nil_append]
  have hF : (w.objs.flatMap foA).Perm (List.flatten [cellsAt b 0 [.slice na now.length nc, bv, wv], slA (.slice na now.length nc) (now.map u8v) ns, slA bv (base.map u8v) bs, slA wv (writes.flatMap wrEnc) ws, frest]) := by simpa [foA] using hf1
  have hH : (w.hs.flatMap hoA).Perm (List.flatten [cellsAt blk 0 [.bool false, .bool false, ptr0 b, vi mode, vi hat0], hrest]) := by simpa [hoA, hoEnc, pf] using hh1
  refine VC.imp (imp_tk (x := w.objs.flatMap foA) [cellsAt b 0 [.slice na now.length nc, bv, wv], slA (.slice na now.length nc) (now.map u8v) ns, slA bv (base.map u8v) bs, slA wv (writes.flatMap wrEnc) ws, frest] (by exact TKx) hF) ?_
  simp only [CNx]
  have hnl : (getF a n).now.length = now.length := by rw [hgF]; rfl
  have hc : heldE a.hs n false = 0 := he
  refine VC.meet (α := Value × List Value) (fun _ => [(6, vi 0)]) (fun s => [cellsAt t 0 (hdr w), slA w.cv (w.choices.flatMap chEnc) w.csp, [.obj w.fm (.map w.fes w.fc)], slA w.hv (w.hs.map fun h => ptr0 h.blk) w.hsp, slA w.tv (w.trace.flatMap deEnc) w.tsp,
      cellsAt b 0 [.slice na now.length nc, s.1, .slice none 0 0], slA (.slice na now.length nc) (now.map u8v) ns, slA s.1 (now.map u8v) s.2, frest, cellsAt blk 0 [.bool false, .bool false, ptr0 b, vi mode, vi hat0], hrest, cellsAt q 0 (deEnc d), cellsAt b3 0 [ptr0 t], cellsAt b4 0 [vi n]])
    (fun s => IsSl 1 s.1 now.length (now.map u8v) s.2) ?_ ?_
  · refine GO ?_
    refine VC.draws ⟨?_, ?_, ?_, ?_, ?_, ?_, trivial⟩
    all_goals
      refine GO ?_
      refine st_call (cloneB_spec _ now.length (now.map u8v) ns (by omega) hnow (by simp only [List.all_map]; exact List.all_eq_true.2 (fun _ _ => rfl))) (by rfl) (by exact SPx) (fun v Post hv => ?_)
      obtain ⟨ns', hn', rfl⟩ := hv
      simp only [CNx]
      obtain ⟨va, vc, rfl⟩ := hn'.form
      refine GO ?_
      exact ⟨(_, ns'), hn', by exact SUx, by simp only [hdr]; exact IMx⟩
  · rintro ⟨nb, ns'⟩ hn'
    dsimp only at hn' ⊢
    simp only [hdr]
    refine GO ?_
    rw [show syncF n d a = (0, d, putF a n ⟨now, now, []⟩) from by simp [syncF, he, hgF, foF]]
    have hR2 := hR.setF (M' := M + 1) (Nat.le_succ M) hob (fo' := ⟨now, now, [], .slice na now.length nc, nb, .slice none 0 0, ns, ns', []⟩) ⟨hnow, hn', .nil, hlen, hlen, by simp, by simp⟩
    have hj : (getH a n).file.getD 0 = j := by rw [hgH, hyf]; rfl
    refine endQ_mk (Post := WMem t { w with objs := w.objs.set j (b, ⟨now, now, [], .slice na now.length nc, nb, .slice none 0 0, ns, ns', []⟩) } ++ [cellsAt q 0 (deEnc d), cellsAt b3 0 [ptr0 t], cellsAt b4 0 [vi n]]) (.inr rfl) (.tmp (by rfl) .nil) ⟨_, rfl, ?_, rfl⟩ ?_
    · simp only [putF, hj]; exact hR2
    · have hF2 := hf2 (b, ⟨now, now, [], .slice na now.length nc, nb, .slice none 0 0, ns, ns', []⟩)
      refine Imp.cut ?_ (imp_closeL (w := { w with objs := w.objs.set j (b, ⟨now, now, [], .slice na now.length nc, nb, .slice none 0 0, ns, ns', []⟩) }) [cellsAt b 0 [.slice na now.length nc, nb, .slice none 0 0], slA (.slice na now.length nc) (now.map u8v) ns, slA nb (now.map u8v) ns', frest] _ (by simpa [foA, slA] using hF2) hH)
      simp only [hdr, List.cons_append, List.nil_append]
      exact IMx
theorem delete1_spec (t : Nat) (w : WR) (a : AW) (M : Nat) (hM : M ≤ 1073741822) (hR : Rep w a M) (s : ByteArray) (hs : s.size ≤ 4611686018427387904) (q b3 b4 : Nat) (d : De) :
    Fun Tryz.prog 105 [ptr0 q, ptr0 b3, ptr0 b4] (WMem t w ++ [cellsAt q 0 (deEnc d), cellsAt b3 0 [ptr0 t], cellsAt b4 0 [.string s]])
      (fun v Post => ∃ w2, v = vi (deleteF s d a).1 ∧ Rep w2 (deleteF s d a).2.2 (M + 1) ∧ Post = WMem t w2 ++ [cellsAt q 0 (deEnc (deleteF s d a).2.1), cellsAt b3 0 [ptr0 t], cellsAt b4 0 [.string s]]) := by
  refine Fun.intro low105 (by simp [n105]) ?_
  simp only [WMem, List.cons_append, List.nil_append]
  refine GO ?_
  refine st_lookup (k := s) (by rfl) (by rfl) rfl (by (focus ((repeat (first | with_reducible exact HasO.here | apply HasO.there)); done))) hR.ok.fm ?_
  rw [hR.mget]
  generalize hg : mget s a.names = gr
  have hext : ∃ p, lookV true (Value.pointer none) ((gr.map fun j => (w.objs.map (·.1)).getD j 0).map fun b => ptr0 b) = .tuple #[p, .bool gr.isSome] := by cases gr <;> exact ⟨_, rfl⟩
  obtain ⟨p, hp⟩ := hext
  rw [hp]
  refine GO ?_
  refine st_call (isName_spec s hs) (by rfl) (R := WMem t w ++ [cellsAt q 0 (deEnc d), cellsAt b3 0 [ptr0 t], cellsAt b4 0 [.string s]]) (by simp [V.Spl]) (fun v Post hv => ?_)
  obtain ⟨rfl, rfl⟩ := hv
  simp only [WMem, List.cons_append, List.nil_append]
  refine GO ?_
  cases hn : nameB s with
  | false =>
    refine GO ?_
    rw [show deleteF s d a = (35, d, a) from by simp [deleteF, hn]]
    refine endQ_mk (Post := WMem t w ++ [cellsAt q 0 (deEnc d), cellsAt b3 0 [ptr0 t], cellsAt b4 0 [.string s]]) (.inr rfl) (.tmp (by rfl) .nil) ⟨w, rfl, hR.mono (Nat.le_succ M), rfl⟩ ?_
    simp only [WMem, List.cons_append, List.nil_append]; exact IMx
  | true =>
    cases gr with
    | none =>
      refine GO ?_
      rw [show deleteF s d a = (32, d, a) from by simp [deleteF, hn, hg]]
      refine endQ_mk (Post := WMem t w ++ [cellsAt q 0 (deEnc d), cellsAt b3 0 [ptr0 t], cellsAt b4 0 [.string s]]) (.inr rfl) (.tmp (by rfl) .nil) ⟨w, rfl, hR.mono (Nat.le_succ M), rfl⟩ ?_
      simp only [WMem, List.cons_append, List.nil_append]; exact IMx
    | some j =>
      refine GO ?_
      refine st_delete (k := s) (by rfl) (by rfl) rfl (by exact TKx) hR.ok.fm (fun es' hm' _ => ?_)
      rw [hR.names, mdel_map (κ := ByteArray) (g := fun j => (w.objs.map (·.1)).getD j 0)] at hm'
      refine GO ?_
      rw [show deleteF s d a = (0, d, { a with names := mdel s a.names }) from by simp [deleteF, hn, hg]]
      have hR2 := hR.setN hm' (mdel_keys_nodup hR.keys) (fun p hp => hR.nin p (mem_mdel hp)) (Nat.le_trans mdel_length_le hR.files64)
      refine endQ_mk (Post := WMem t _ ++ [cellsAt q 0 (deEnc d), cellsAt b3 0 [ptr0 t], cellsAt b4 0 [.string s]]) (.inr rfl) (.tmp (by rfl) .nil) ⟨_, rfl, hR2.mono (Nat.le_succ M), rfl⟩ ?_
      simp only [WMem, List.cons_append, List.nil_append]; exact IMx
theorem read1_spec (t : Nat) (w : WR) (a : AW) (M : Nat) (hM : M ≤ 1073741822) (hR : Rep w a M) (n many : Int) (q b3 b4 b5 : Nat) (d : De) :
    Fun Tryz.prog 87 [ptr0 q, ptr0 b3, ptr0 b4, ptr0 b5] (WMem t w ++ [cellsAt q 0 (deEnc d), cellsAt b3 0 [ptr0 t], cellsAt b4 0 [vi n], cellsAt b5 0 [vi many]])
      (fun v Post => ∃ w2, v = vi (readF n many d a).1 ∧ Rep w2 (readF n many d a).2.2 (M + 1) ∧ Post = WMem t w2 ++ [cellsAt q 0 (deEnc (readF n many d a).2.1), cellsAt b3 0 [ptr0 t], cellsAt b4 0 [vi n], cellsAt b5 0 [vi many]]) := by
  refine Fun.intro low87 (by simp [n87]) ?_
  simp only [WMem, List.cons_append, List.nil_append]
  have hmany := hR.ok.hmany
  refine GO ?_
  refine st_call (held_spec t w n false hR.ok.hv (by omega)) (by rfl) (by simp only [hdr]; exact SPx) (fun v Post hv => ?_)
  obtain ⟨⟨p, rfl, hp1, hp2⟩, rfl⟩ := hv
  rw [hR.held] at hp1 hp2
  simp only [hR.held, hdr, List.cons_append, List.nil_append]
  refine GO ?_
  by_cases he : heldE a.hs n false = 0
  rotate_left
  · simp only [he, decide_false, Bool.not_false]
    refine GO ?_
    rw [show readF n many d a = (heldE a.hs n false, d, a) from by simp [readF, he]]; refine endQ_mk (Post := WMem t w ++ [cellsAt q 0 (deEnc d), cellsAt b3 0 [ptr0 t], cellsAt b4 0 [vi n], cellsAt b5 0 [vi many]]) (.inr rfl) (.tmp (by rfl) .nil) ⟨w, rfl, hR.mono (Nat.le_succ M), rfl⟩ ?_
    simp only [WMem, List.cons_append, List.nil_append]; exact IMx
  obtain ⟨x, y, b, j, fo, hn1, hx, hy, hxc, hxs, hyc, hys, hmode, hat, hxf, hyf, hob, hfi, hfo, hrange⟩ := hR.opened he
  obtain rfl : p = ptr0 x.blk := hp1 x he hx
  have hgH : getH a n = y := by simp only [getH, hy, Option.getD_some]
  have hgF : getF a n = foF fo := by simp only [getF, hgH, hyf, Option.getD_some, hfi]
  obtain ⟨frest, hf1, hf2⟩ := flat_take (f := foA) hob
  obtain ⟨hrest, hh1, hh2⟩ := flat_take (f := hoA) hx
  obtain ⟨now, base, writes, nv, bv, wv, ns, bs, ws⟩ := fo
  obtain ⟨blk, closed, stale, file, mode, hat0⟩ := x
  simp only at hxf hxc hxs hmode hat hrange
  subst hxf hxc hxs
  have hnow := hfo.now
  have hlen := hfo.len
  simp only at hnow hlen
  obtain ⟨na, nc, rfl⟩ := hnow.form
  simp only [he, decide_true, Bool.not_true]
  refine VC.imp (imp_tk (x := w.hs.flatMap hoA) [hoA ⟨blk, false, false, some b, mode, hat0⟩, hrest] (by exact TKx) (by simpa using hh1)) ?_
  simp only [hoA, hoEnc, pf, Option.map_some, List.cons_append, List.nil_append]
  have hF : (w.objs.flatMap foA).Perm (List.flatten [cellsAt b 0 [.slice na now.length nc, bv, wv], slA (.slice na now.length nc) (now.map u8v) ns, slA bv (base.map u8v) bs, slA wv (writes.flatMap wrEnc) ws, frest]) := by simpa [foA] using hf1
  have hH : (w.hs.flatMap hoA).Perm (List.flatten [cellsAt blk 0 [.bool false, .bool false, ptr0 b, vi mode, vi hat0], hrest]) := by simpa [hoA, hoEnc, pf] using hh1
  refine VC.imp (imp_tk (x := w.objs.flatMap foA) [cellsAt b 0 [.slice na now.length nc, bv, wv], slA (.slice na now.length nc) (now.map u8v) ns, slA bv (base.map u8v) bs, slA wv (writes.flatMap wrEnc) ws, frest] (by exact TKx) hF) ?_
  simp only [CNx]
  have hnl : (getF a n).now.length = now.length := by rw [hgF]; rfl
  refine GO ?_
  have hgm : (getH a n).mode = mode := by rw [hgH, hmode]
  by_cases hc : mode = 1
  rotate_left
  · simp only [hc, decide_false, Bool.not_false]
    refine GO ?_
    rw [← hgm] at hc
    rw [show readF n many d a = (33, d, a) from by simp [readF, he, hc]]; refine endQ_mk (Post := WMem t w ++ [cellsAt q 0 (deEnc d), cellsAt b3 0 [ptr0 t], cellsAt b4 0 [vi n], cellsAt b5 0 [vi many]]) (.inr rfl) (.tmp (by rfl) .nil) ⟨w, rfl, hR.mono (Nat.le_succ M), rfl⟩ ?_
    (refine Imp.cut ?_ (imp_closeL _ _ hF hH); simp only [hdr, List.cons_append, List.nil_append]; exact IMx)
  simp only [hc, decide_true, Bool.not_true]
  refine GO ?_
  by_cases hm : many < 0
  · simp only [hm, decide_true]
    refine GO ?_
    rw [show readF n many d a = (1, d, a) from by simp [readF, he, hgm, hc, hm]]
    refine endQ_mk (Post := WMem t w ++ [cellsAt q 0 (deEnc d), cellsAt b3 0 [ptr0 t], cellsAt b4 0 [vi n], cellsAt b5 0 [vi many]]) (.inr rfl) (.tmp (by rfl) .nil) ⟨w, rfl, hR.mono (Nat.le_succ M), rfl⟩ ?_
    subst hc
    (refine Imp.cut ?_ (imp_closeL _ _ hF hH); simp only [hdr, List.cons_append, List.nil_append]; exact IMx)
  simp only [hm, decide_false]
  refine GO ?_
  obtain ⟨l, hl⟩ : ∃ l : Nat, l = min hat0.toNat now.length := ⟨_, rfl⟩
  have hmin : (if (now.length : Int) < hat0 then (now.length : Int) else hat0) = ((l : Nat) : Int) := by split <;> omega
  rw [hmin]
  refine st_slcAt (by rfl) hnow (.num (by rfl)) (by omega) (fun dv hdv => ?_)
  obtain ⟨da, dc, rfl⟩ := hdv.form hnow
  refine GO ?_
  obtain ⟨h, hh⟩ : ∃ h : Nat, h = min many.toNat (now.length - l) := ⟨_, rfl⟩
  have hmin2 : (if ((now.length - l : Nat) : Int) < many then ((now.length - l : Nat) : Int) else many) = ((h : Nat) : Int) := by split <;> omega
  rw [hmin2]
  refine st_slcTo (by rfl) hnow hdv (by omega) (.num (by rfl)) (by omega) (fun dv' hdv' => ?_)
  refine st_b2s (by rfl) (hdv'.bytes hnow (by omega) (by exact TKx)) ?_
  obtain ⟨s, hs⟩ : ∃ s, s = (now.drop l).take h := ⟨_, rfl⟩
  have hsl : s.length = h := by rw [hs]; simp; omega
  have hss : (ftxt s).size = h := by simp [ftxt, ByteArray.size, hsl]
  rw [← hs]
  simp only [deEnc]
  refine GO ?_
  rw [hss]
  refine GO ?_
  have hs2 : s = ((getF a n).now.drop (min (getH a n).at_.toNat (getF a n).now.length)).take many.toNat := by
    rw [hgF, hgH]
    simp only [foF, ← hat]
    rw [hs, hh, ← hl, List.take_eq_take_iff, List.length_drop]
    omega
  have hFN : readF n many d a = (0, { d with text := ftxt s }, putH a n { y with at_ := hat0 + h }) := by
    have : many < 0 ↔ False := by simp [hm]
    simp only [readF, he, hgm, hc, this, ne_eq, not_true_eq_false, if_false]
    have hym : y.mode = 1 := by rw [← hmode, hc]
    rw [← hs2, hsl, hgH, hat]
    simp only [hym]
  rw [hFN]
  refine endQ_mk (Post := WMem t { w with hs := w.hs.set (n - 1).toNat ⟨blk, false, false, some b, mode, hat0 + h⟩ } ++ [cellsAt q 0 (deEnc { d with text := ftxt s }), cellsAt b3 0 [ptr0 t], cellsAt b4 0 [vi n], cellsAt b5 0 [vi many]]) (.inr rfl) (.tmp (by rfl) .nil) ⟨_, rfl, ?_, rfl⟩ ?_
  · exact (hR.setH (x' := ⟨blk, false, false, some b, mode, hat0 + h⟩) (y' := { y with at_ := hat0 + h }) hx hy rfl rfl rfl ⟨hyc.symm, hys.symm, hmode, rfl⟩ (by simp only; omega)).mono (Nat.le_succ M)
  · have hH2 := hh2 ⟨blk, false, false, some b, mode, hat0 + h⟩
    refine Imp.cut ?_ (imp_closeL (w := { w with hs := w.hs.set (n - 1).toNat ⟨blk, false, false, some b, mode, hat0 + h⟩ }) _ [cellsAt blk 0 [.bool false, .bool false, ptr0 b, vi mode, vi (hat0 + h)], hrest] hF (by simpa [hoA, hoEnc, pf] using hH2))
    have hblk : (w.hs.set (n - 1).toNat ⟨blk, false, false, some b, mode, hat0 + h⟩).map (fun h => ptr0 h.blk) = w.hs.map fun h => ptr0 h.blk := set_blk hx rfl
    simp only [hblk, hdr, deEnc, List.cons_append, List.nil_append]
    subst hc
    exact IMx
end Go.Proofs.YtgindbomnbojeaaGreat

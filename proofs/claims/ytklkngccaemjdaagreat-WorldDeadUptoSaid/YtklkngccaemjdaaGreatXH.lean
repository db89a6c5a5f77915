/-
  The outside world: a file opened.
-/
import Derived.Test.YtklkngccaemjdaaGreatW8
set_option linter.unusedSimpArgs false
set_option linter.unusedVariables false
namespace Go.Proofs.YtklkngccaemjdaaGreat
open Go Go.V
set_option maxHeartbeats 6400000
set_option maxRecDepth 100000
set_option linter.unusedSimpArgs false
set_option linter.unusedVariables false

def openRest : IC := match F89.body with | .seq _ (.seq _ (.seq _ (.seq _ r))) => r | _ => .skip
def openHead (r : IC) : IC := match F89.body with | .seq a (.seq b (.seq c (.seq x _))) => .seq a (.seq b (.seq c (.seq x r))) | _ => .skip
def openRest2 : IC := match openRest with | .seq _ (.seq _ r) => r | _ => .skip
def openHead2 (r : IC) : IC := match openRest with | .seq a (.seq b _) => .seq a (.seq b r) | _ => .skip

theorem openRest2_spec (t : Nat) (w : WR) (a : AW) (M : Nat) (hM : M ≤ 1073741822) (hR : Rep w a (M + 1)) (hm : w.hs.length ≤ M) (s : ByteArray) (mode at_ : Int) (q b3 b4 b5 hb j : Nat) (d : De) (hj : j < a.files.length) (hat : 0 ≤ at_ ∧ at_ ≤ 4194304) :
    VC Tryz.prog F89.n openRest2 [(0, ptr0 q), (1, ptr0 b3), (8, ptr0 hb)] (WMem t w ++ ([cellsAt hb 0 [.bool false, .bool false, ptr0 ((w.objs.map (·.1)).getD j 0), vi mode, vi at_]] ++ [cellsAt q 0 (deEnc d), cellsAt b3 0 [ptr0 t], cellsAt b4 0 [.string s], cellsAt b5 0 [vi mode]]))
      (endQ F89.res (fun v Post => ∃ w2, v = vi 0 ∧ Rep w2 { a with hs := a.hs ++ [⟨0, false, false, some j, mode, at_⟩] } (M + 1) ∧ Post = WMem t w2 ++ [cellsAt q 0 (deEnc { d with handle := a.hs.length + 1 }), cellsAt b3 0 [ptr0 t], cellsAt b4 0 [.string s], cellsAt b5 0 [vi mode]])) := by
  simp only [WMem, List.cons_append, List.nil_append]
  refine GO ?_
  refine st_call (give_spec t w hb hR.ok.hv (by omega)) (by rfl) (by simp only [hdr]; (focus ((repeat (first | exact Spl.nil | (apply Spl.cons; (focus ((repeat (first | with_reducible exact Tk.here | apply Tk.there)); done))))); done))) (fun v Post hv => ?_)
  obtain ⟨hv', sp', hsl', rfl, rfl⟩ := hv
  simp only [hdr, deEnc, List.cons_append, List.nil_append]
  refine GO ?_
  have hR2 := hR.addH (by omega) (x := ⟨hb, false, false, some ((w.objs.map (·.1)).getD j 0), mode, at_⟩) (y := ⟨0, false, false, some j, mode, at_⟩) hsl' rfl (fun i e => by cases e; exact hj) hat
  refine endQ_mk (Post := WMem t { w with hv := hv', hs := w.hs ++ [⟨hb, false, false, some ((w.objs.map (·.1)).getD j 0), mode, at_⟩], hsp := sp' } ++ [cellsAt q 0 (deEnc { d with handle := a.hs.length + 1 }), cellsAt b3 0 [ptr0 t], cellsAt b4 0 [.string s], cellsAt b5 0 [vi mode]]) (.inr rfl) (.tmp (by rfl) .nil) ⟨_, rfl, hR2, rfl⟩ ?_
  refine Imp.cut (imp_jn (a := w.hs.flatMap hoA) (b := cellsAt hb 0 [.bool false, .bool false, ptr0 ((w.objs.map (·.1)).getD j 0), vi mode, vi at_]) (x := (w.hs ++ [(⟨hb, false, false, some ((w.objs.map (·.1)).getD j 0), mode, at_⟩ : HO)]).flatMap hoA) (by (focus ((repeat (first | with_reducible exact Tk.here | apply Tk.there)); done))) (by (focus ((repeat (first | with_reducible exact Tk.here | apply Tk.there)); done))) (by simp [List.flatMap_append, hoA, hoEnc, pf])) ?_
  simp only [WMem, deEnc, hR.hlen, List.map_append, List.map_cons, List.map_nil, List.cons_append, List.nil_append]; (first | with_reducible exact Imp.refl | with_reducible exact Imp.left | (focus ((try simp only [List.nil_append]); (repeat (first | exact Imp.nil | (apply Imp.cons; (focus ((repeat (first | with_reducible exact Tk.here | apply Tk.there)); done))))); done)))

theorem openRest_spec (t : Nat) (w : WR) (a : AW) (M : Nat) (hM : M ≤ 1073741822) (hR : Rep w a M) (s : ByteArray) (mode : Int) (q b3 b4 b5 j : Nat) (d : De) (hj : j < a.files.length) :
    VC Tryz.prog F89.n openRest [(0, ptr0 q), (1, ptr0 b3), (3, ptr0 b5), (6, ptr0 ((w.objs.map (·.1)).getD j 0))] (WMem t w ++ [cellsAt q 0 (deEnc d), cellsAt b3 0 [ptr0 t], cellsAt b4 0 [.string s], cellsAt b5 0 [vi mode]])
      (endQ F89.res (fun v Post => ∃ w2, v = vi 0 ∧ Rep w2 (openB j mode d a).2.2 (M + 1) ∧ Post = WMem t w2 ++ [cellsAt q 0 (deEnc { d with handle := a.hs.length + 1 }), cellsAt b3 0 [ptr0 t], cellsAt b4 0 [.string s], cellsAt b5 0 [vi mode]])) := by
  have hmany := hR.ok.hmany
  have hseq := hR.ok.seq
  obtain ⟨b, fo, hob, hBj, hfi, hfo⟩ := hR.file hj
  obtain ⟨frest, hf1, hf2⟩ := flat_take (f := foA) hob
  have hfg : (a.files[j]?).getD ⟨[], [], []⟩ = foF fo := by rw [hfi]; rfl
  obtain ⟨now, base, writes, nv, bv, wv, ns, bs, ws⟩ := fo
  have hnow := hfo.now
  have hlen := hfo.len
  have hwrs := hfo.wr
  have hmanyw := hfo.many
  simp only at hnow hlen hwrs hmanyw
  obtain ⟨na, nc, rfl⟩ := hnow.form
  have rest := fun (w2 : WR) (a2 : AW) (at_ : Int) (hb : Nat) (h2 : Rep w2 a2 (M + 1)) (h3 : w2.hs.length ≤ M) (h4 : j < a2.files.length) (h5 : 0 ≤ at_ ∧ at_ ≤ 4194304) => openRest2_spec t w2 a2 M hM h2 h3 s mode at_ q b3 b4 b5 hb j d h4 h5
  show VC _ _ (openHead2 openRest2) _ _ _
  generalize openRest2 = r at rest ⊢
  rw [hBj]
  simp only [WMem, List.cons_append, List.nil_append]
  have hF : (w.objs.flatMap foA).Perm (List.flatten [cellsAt b 0 [.slice na now.length nc, bv, wv], slA (.slice na now.length nc) (now.map u8v) ns, slA bv (base.map u8v) bs, slA wv (writes.flatMap wrEnc) ws, frest]) := by simpa [foA] using hf1
  refine VC.imp (imp_tk (x := w.objs.flatMap foA) [cellsAt b 0 [.slice na now.length nc, bv, wv], slA (.slice na now.length nc) (now.map u8v) ns, slA bv (base.map u8v) bs, slA wv (writes.flatMap wrEnc) ws, frest] (by (focus ((repeat (first | with_reducible exact Tk.here | apply Tk.there)); done))) hF) ?_
  simp only [List.cons_append, List.nil_append]
  refine GO ?_
  refine st_box (by rfl) (fun hb => ?_)
  simp only [Value.cells]
  refine GO ?_
  by_cases h2 : mode = 2
  · simp only [h2, decide_true]
    subst h2
    refine GO ?_
    refine st_call (next_spec' t w (by omega) []) (by rfl) (by simp only [hdr]; (focus ((repeat (first | exact Spl.nil | (apply Spl.cons; (focus ((repeat (first | with_reducible exact Tk.here | apply Tk.there)); done))))); done))) (fun v Post hv => ?_)
    obtain ⟨rfl, rfl⟩ := hv
    simp only [hdr, List.cons_append, List.nil_append]
    refine GO ?_
    obtain ⟨x, hxx⟩ : ∃ x : Wr, x = ⟨w.seq + 1, 0, nilTx, true⟩ := ⟨_, rfl⟩
    refine st_call (does_spec b x _ bv wv now ns writes ws (by rw [hxx]; exact ⟨Int.le_refl _, by show (0 : Int) + ((0 : Nat) : Int) ≤ 4194304; decide⟩) hlen hnow hwrs (by omega)) (by rw [hxx]; rfl) (by (focus ((repeat (first | exact Spl.nil | (apply Spl.cons; (focus ((repeat (first | with_reducible exact Tk.here | apply Tk.there)); done))))); done))) (fun v Post hv => ?_)
    obtain ⟨nv', ns', wv', wsp', hn', hw', rfl⟩ := hv
    simp only [List.cons_append, List.nil_append]
    have hxe : onL x now = [] := by rw [hxx]; rfl
    have hfok : FOk ⟨onL x now, base, writes ++ [x], nv', bv, wv', ns', bs, wsp'⟩ (M + 1) := by
      refine ⟨hn', hfo.base, ?_, by simp [hxe], hfo.len2, ?_, ?_⟩
      · simpa [List.flatMap_append] using hw'
      · simp only [List.length_append, List.length_singleton]; omega
      · intro z hz
        rcases List.mem_append.1 hz with hz | hz
        · exact hfo.at_ z hz
        · rw [List.mem_singleton.1 hz, hxx]; exact ⟨Int.le_refl _, by show (0 : Int) + ((0 : Nat) : Int) ≤ 4194304; decide⟩
    have hR2 := hR.next.setF (Nat.le_refl _) hob hfok
    have hF2 := hf2 (b, ⟨onL x now, base, writes ++ [x], nv', bv, wv', ns', bs, wsp'⟩)
    have hfst : (((w.objs.set j (b, (⟨onL x now, base, writes ++ [x], nv', bv, wv', ns', bs, wsp'⟩ : FO))).map (·.1)).getD j 0) = b := by rw [fst_set hob]; exact hBj
    refine GO ?_
    refine VC.imp ?_ (VC.sub ?_ ((rest _ _ 0 hb hR2 hmany (by simpa using hj) (by decide)).mono ?_))
    · rw [hfst]
      refine Imp.cut ?_ (imp_closeL (w := { w with seq := w.seq + 1, objs := w.objs.set j (b, ⟨onL x now, base, writes ++ [x], nv', bv, wv', ns', bs, wsp'⟩) }) [cellsAt b 0 [nv', bv, wv'], slA nv' ((onL x now).map u8v) ns', slA bv (base.map u8v) bs, slA wv' (writes.flatMap wrEnc ++ wrEnc x) wsp', frest] [w.hs.flatMap hoA] (by simpa [foA, List.flatMap_append] using hF2) (by simp))
      simp only [hdr, List.cons_append, List.nil_append]
      (first | with_reducible exact Imp.refl | with_reducible exact Imp.left | (focus ((try simp only [List.nil_append]); (repeat (first | exact Imp.nil | (apply Imp.cons; (focus ((repeat (first | with_reducible exact Tk.here | apply Tk.there)); done))))); done)))
    · (repeat (first | exact Sub.nil | (apply Sub.cons; rfl)))
    · intro e Γ' H' hq
      have : (openB j 2 d a).2.2 = { a with seq := a.seq + 1, files := a.files.set j (foF ⟨onL x now, base, writes ++ [x], nv', bv, wv', ns', bs, wsp'⟩), hs := a.hs ++ [⟨0, false, false, some j, 2, 0⟩] } := by
        simp only [openB, if_true, hfg, doesA, foF, hxx, ← hR.seq]; rfl
      rw [this]; exact hq
  simp only [h2, decide_false]
  refine GO ?_
  have fin : ∀ at2, (0 ≤ at2 ∧ at2 ≤ 4194304) → (openB j mode d a).2.2 = { a with hs := a.hs ++ [⟨0, false, false, some j, mode, at2⟩] } → VC Tryz.prog F89.n r [(0, ptr0 q), (1, ptr0 b3), (8, ptr0 hb)]
      ([cellsAt hb 0 [.bool false, .bool false, ptr0 b, vi mode, vi at2], cellsAt b 0 [.slice na now.length nc, bv, wv], slA (.slice na now.length nc) (now.map u8v) ns, slA bv (base.map u8v) bs, slA wv (writes.flatMap wrEnc) ws, frest, cellsAt t 0 [w.cv, .map (some w.fm), w.hv, w.tv, vi w.clock, vi w.seq, .bool w.dead], slA w.cv (w.choices.flatMap chEnc) w.csp, [.obj w.fm (.map w.fes w.fc)], slA w.hv (w.hs.map fun h => ptr0 h.blk) w.hsp, w.hs.flatMap hoA, slA w.tv (w.trace.flatMap deEnc) w.tsp] ++ [cellsAt q 0 (deEnc d), cellsAt b3 0 [ptr0 t], cellsAt b4 0 [.string s], cellsAt b5 0 [vi mode]])
      (endQ F89.res (fun v Post => ∃ w2, v = vi 0 ∧ Rep w2 (openB j mode d a).2.2 (M + 1) ∧ Post = WMem t w2 ++ [cellsAt q 0 (deEnc { d with handle := a.hs.length + 1 }), cellsAt b3 0 [ptr0 t], cellsAt b4 0 [.string s], cellsAt b5 0 [vi mode]])) := by
    intro at2 hat2 he
    refine VC.imp ?_ ((rest w a at2 hb (hR.mono (Nat.le_succ M)) hmany hj hat2).mono ?_)
    · rw [hBj]
      refine Imp.cut ?_ (imp_closeL _ [w.hs.flatMap hoA] hF (by simp))
      simp only [hdr, List.cons_append, List.nil_append]
      (first | with_reducible exact Imp.refl | with_reducible exact Imp.left | (focus ((try simp only [List.nil_append]); (repeat (first | exact Imp.nil | (apply Imp.cons; (focus ((repeat (first | with_reducible exact Tk.here | apply Tk.there)); done))))); done)))
    · intro e Γ' H' hq
      rw [he]; exact hq
  simp only [WMem, List.cons_append, List.nil_append] at fin
  by_cases h3 : mode = 3
  · simp only [h3, decide_true]
    subst h3
    refine GO ?_
    refine VC.imp ?_ (VC.sub ?_ (fin now.length (by omega) (by simp [openB, hfg, foF])))
    · (first | with_reducible exact Imp.refl | with_reducible exact Imp.left | (focus ((try simp only [List.nil_append]); (repeat (first | exact Imp.nil | (apply Imp.cons; (focus ((repeat (first | with_reducible exact Tk.here | apply Tk.there)); done))))); done)))
    · (repeat (first | exact Sub.nil | (apply Sub.cons; rfl)))
  · simp only [h3, decide_false]
    refine GO ?_
    refine VC.imp ?_ (VC.sub ?_ (fin 0 (by omega) (by simp [openB, h2, h3])))
    · (first | with_reducible exact Imp.refl | with_reducible exact Imp.left | (focus ((try simp only [List.nil_append]); (repeat (first | exact Imp.nil | (apply Imp.cons; (focus ((repeat (first | with_reducible exact Tk.here | apply Tk.there)); done))))); done)))
    · (repeat (first | exact Sub.nil | (apply Sub.cons; rfl)))
theorem open1_spec (t : Nat) (w : WR) (a : AW) (M : Nat) (hM : M ≤ 1073741822) (hR : Rep w a M) (s : ByteArray) (mode : Int) (hs : s.size ≤ 4611686018427387904) (q b3 b4 b5 : Nat) (d : De) :
    Fun Tryz.prog 89 [ptr0 q, ptr0 b3, ptr0 b4, ptr0 b5] (WMem t w ++ [cellsAt q 0 (deEnc d), cellsAt b3 0 [ptr0 t], cellsAt b4 0 [.string s], cellsAt b5 0 [vi mode]])
      (fun v Post => ∃ w2, v = vi (openF s mode d a).1 ∧ Rep w2 (openF s mode d a).2.2 (M + 1) ∧ Post = WMem t w2 ++ [cellsAt q 0 (deEnc (openF s mode d a).2.1), cellsAt b3 0 [ptr0 t], cellsAt b4 0 [.string s], cellsAt b5 0 [vi mode]]) := by
  refine Fun.intro low89 (by simp [F89]) ?_
  have rest := fun (w2 : WR) (a2 : AW) (j : Nat) (h2 : Rep w2 a2 M) (h4 : j < a2.files.length) => openRest_spec t w2 a2 M hM h2 s mode q b3 b4 b5 j d h4
  show VC _ _ (openHead openRest) _ _ _
  generalize openRest = r at rest ⊢
  simp only [WMem, List.cons_append, List.nil_append]
  have hmany := hR.ok.hmany
  refine GO ?_
  refine st_lookup (k := s) (by rfl) (by rfl) rfl (by (focus ((repeat (first | with_reducible exact HasO.here | apply HasO.there)); done))) hR.ok.fm ?_
  rw [hR.mget]
  generalize hg : mget s a.names = gr
  have hext : ∃ p, lookV true (Value.pointer none) ((gr.map fun j => (w.objs.map (·.1)).getD j 0).map fun b => ptr0 b) = .tuple #[p, .bool gr.isSome] ∧ ∀ j, gr = some j → p = ptr0 ((w.objs.map (·.1)).getD j 0) := by
    cases gr with
    | none => exact ⟨_, rfl, fun _ e => by cases e⟩
    | some j => exact ⟨_, rfl, fun _ e => by cases e; rfl⟩
  obtain ⟨p, hp, hpj⟩ := hext
  rw [hp]
  refine GO ?_
  refine st_call (isName_spec s hs) (by rfl) Spl.nil (fun v Post hv => ?_)
  obtain ⟨rfl, rfl⟩ := hv
  simp only [List.nil_append]
  cases hn : nameB s with
  | false =>
    refine GO ?_
    rw [show openF s mode d a = (35, d, a) from by simp [openF, hn]]
    refine endQ_mk (Post := WMem t w ++ [cellsAt q 0 (deEnc d), cellsAt b3 0 [ptr0 t], cellsAt b4 0 [.string s], cellsAt b5 0 [vi mode]]) (.inr rfl) (.tmp (by rfl) .nil) ⟨w, rfl, hR.mono (Nat.le_succ M), rfl⟩ ?_; simp only [WMem, List.cons_append, List.nil_append]; (first | with_reducible exact Imp.refl | with_reducible exact Imp.left | (focus ((try simp only [List.nil_append]); (repeat (first | exact Imp.nil | (apply Imp.cons; (focus ((repeat (first | with_reducible exact Tk.here | apply Tk.there)); done))))); done)))
  | true =>
  refine GO ?_
  by_cases h1 : mode < 1
  · simp only [h1, decide_true]
    refine GO ?_
    rw [show openF s mode d a = (33, d, a) from by simp [openF, hn, h1]]
    refine endQ_mk (Post := WMem t w ++ [cellsAt q 0 (deEnc d), cellsAt b3 0 [ptr0 t], cellsAt b4 0 [.string s], cellsAt b5 0 [vi mode]]) (.inr rfl) (.tmp (by rfl) .nil) ⟨w, rfl, hR.mono (Nat.le_succ M), rfl⟩ ?_; simp only [WMem, List.cons_append, List.nil_append]; (first | with_reducible exact Imp.refl | with_reducible exact Imp.left | (focus ((try simp only [List.nil_append]); (repeat (first | exact Imp.nil | (apply Imp.cons; (focus ((repeat (first | with_reducible exact Tk.here | apply Tk.there)); done))))); done)))
  simp only [h1, decide_false]
  refine GO ?_
  by_cases h2 : 3 < mode
  · simp only [h2, gt_iff_lt, decide_true]
    refine GO ?_
    rw [show openF s mode d a = (33, d, a) from by simp [openF, hn, h1, h2]]
    refine endQ_mk (Post := WMem t w ++ [cellsAt q 0 (deEnc d), cellsAt b3 0 [ptr0 t], cellsAt b4 0 [.string s], cellsAt b5 0 [vi mode]]) (.inr rfl) (.tmp (by rfl) .nil) ⟨w, rfl, hR.mono (Nat.le_succ M), rfl⟩ ?_; simp only [WMem, List.cons_append, List.nil_append]; (first | with_reducible exact Imp.refl | with_reducible exact Imp.left | (focus ((try simp only [List.nil_append]); (repeat (first | exact Imp.nil | (apply Imp.cons; (focus ((repeat (first | with_reducible exact Tk.here | apply Tk.there)); done))))); done)))
  simp only [h2, gt_iff_lt, decide_false]
  refine GO ?_
  have hmm : ¬ (mode < 1 ∨ 3 < mode) := by omega
  cases gr with
  | none =>
    by_cases h3 : mode = 1
    · simp only [decide_eq_true h3]
      refine GO ?_
      rw [show openF s mode d a = (32, d, a) from by simp [openF, hn, hg, hmm, h3]]
      refine endQ_mk (Post := WMem t w ++ [cellsAt q 0 (deEnc d), cellsAt b3 0 [ptr0 t], cellsAt b4 0 [.string s], cellsAt b5 0 [vi mode]]) (.inr rfl) (.tmp (by rfl) .nil) ⟨w, rfl, hR.mono (Nat.le_succ M), rfl⟩ ?_; simp only [WMem, List.cons_append, List.nil_append]; (first | with_reducible exact Imp.refl | with_reducible exact Imp.left | (focus ((try simp only [List.nil_append]); (repeat (first | exact Imp.nil | (apply Imp.cons; (focus ((repeat (first | with_reducible exact Tk.here | apply Tk.there)); done))))); done)))
    simp only [h3, decide_false]
    refine GO ?_
    refine st_call (used_spec t w hR.ok.hv (by omega)) (by rfl) (by simp only [hdr]; (focus ((repeat (first | exact Spl.nil | (apply Spl.cons; (focus ((repeat (first | with_reducible exact Tk.here | apply Tk.there)); done))))); done))) (fun v Post hv => ?_)
    obtain ⟨rfl, rfl⟩ := hv
    simp only [hR.used, hdr, List.cons_append, List.nil_append]
    refine GO ?_
    by_cases h4 : 32 ≤ usedN a.hs
    · simp only [show ((usedN a.hs : Nat) : Int) ≥ 32 by omega, decide_true]
      refine GO ?_
      rw [show openF s mode d a = (34, d, a) from by simp [openF, hn, hg, hmm, h3, h4]]
      refine endQ_mk (Post := WMem t w ++ [cellsAt q 0 (deEnc d), cellsAt b3 0 [ptr0 t], cellsAt b4 0 [.string s], cellsAt b5 0 [vi mode]]) (.inr rfl) (.tmp (by rfl) .nil) ⟨w, rfl, hR.mono (Nat.le_succ M), rfl⟩ ?_; simp only [WMem, List.cons_append, List.nil_append]; (first | with_reducible exact Imp.refl | with_reducible exact Imp.left | (focus ((try simp only [List.nil_append]); (repeat (first | exact Imp.nil | (apply Imp.cons; (focus ((repeat (first | with_reducible exact Tk.here | apply Tk.there)); done))))); done)))
    simp only [show ¬ ((usedN a.hs : Nat) : Int) ≥ 32 by omega, decide_false]
    refine GO ?_
    refine st_mlen (by rfl) (by (focus ((repeat (first | with_reducible exact HasO.here | apply HasO.there)); done))) hR.ok.fm ?_
    rw [hR.nlen]
    refine GO ?_
    by_cases h5 : 64 ≤ a.names.length
    · simp only [show ((a.names.length : Nat) : Int) ≥ 64 by omega, decide_true]
      refine GO ?_
      rw [show openF s mode d a = (34, d, a) from by simp [openF, hn, hg, hmm, h3, h4, h5]]
      refine endQ_mk (Post := WMem t w ++ [cellsAt q 0 (deEnc d), cellsAt b3 0 [ptr0 t], cellsAt b4 0 [.string s], cellsAt b5 0 [vi mode]]) (.inr rfl) (.tmp (by rfl) .nil) ⟨w, rfl, hR.mono (Nat.le_succ M), rfl⟩ ?_; simp only [WMem, List.cons_append, List.nil_append]; (first | with_reducible exact Imp.refl | with_reducible exact Imp.left | (focus ((try simp only [List.nil_append]); (repeat (first | exact Imp.nil | (apply Imp.cons; (focus ((repeat (first | with_reducible exact Tk.here | apply Tk.there)); done))))); done)))
    simp only [show ¬ ((a.names.length : Nat) : Int) ≥ 64 by omega, decide_false]
    refine GO ?_
    refine st_box (by rfl) (fun p6 => ?_)
    simp only [Value.cells]
    refine VO.know (φ := p6 ∉ w.objs.map (·.1)) (fun w0 F hs0 hmem => ?_) (fun hfr => ?_)
    · obtain ⟨⟨b', fo⟩, hm, rfl⟩ := List.mem_map.1 hmem
      have hy : Atom.cell b' 0 fo.nv ∈ w.objs.flatMap foA := List.mem_flatMap.2 ⟨_, hm, by simp [foA, cellsAt]⟩
      exact hs0.apart (x := .cell b' 0 (.slice none 0 0)) (y := .cell b' 0 fo.nv) .here (by simp [cellsAt]) (by simp only [List.flatten_cons, List.mem_append, hy, true_or, or_true]) rfl
    refine GO ?_
    refine st_mapupd (k := s) (v := p6) (by rfl) (by rfl) (by rfl) rfl (by (focus ((repeat (first | with_reducible exact Tk.here | apply Tk.there)); done))) hR.ok.fm (fun es2 c2 hm2 => ?_)
    have hRf := hR.addF (fo := ⟨[], [], [], .slice none 0 0, .slice none 0 0, .slice none 0 0, [], [], []⟩) hfr ⟨.nil, .nil, .nil, by simp, by simp, by simp, by simp⟩
    have hB : (((w.objs ++ [(p6, (⟨[], [], [], .slice none 0 0, .slice none 0 0, .slice none 0 0, [], [], []⟩ : FO))]).map (·.1)).getD a.files.length 0) = p6 := by
      rw [← hR.flen]; simp [List.getD_eq_getElem?_getD]
    have hnm := hRf.names
    dsimp only at hnm
    rw [hnm] at hm2
    have hms := mset_map (κ := ByteArray) (k := s) (g := fun j => ((w.objs ++ [(p6, (⟨[], [], [], .slice none 0 0, .slice none 0 0, .slice none 0 0, [], [], []⟩ : FO))]).map (·.1)).getD j 0) (v := a.files.length) (l := a.names)
    rw [hB] at hms
    rw [hms] at hm2
    have hRn := hRf.setN hm2 (mset_keys_nodup hR.keys) (fun p hp => by
      rcases mem_mset hp with rfl | hp
      · simp
      · have := hR.nin p hp; simp; omega) (by rw [mget_none_mset hg]; simp; omega)
    have hFN : openF s mode d a = openB a.files.length mode d (newF s a) := by simp [openF, hn, hg, hmm, h3, h4, h5]
    refine GO ?_
    refine VC.imp ?_ (VC.sub ?_ ((rest _ (newF s a) a.files.length hRn (by simp [newF])).mono ?_))
    · refine Imp.cut (imp_jn (a := w.objs.flatMap foA) (b := cellsAt p6 0 [.slice none 0 0, .slice none 0 0, .slice none 0 0]) (x := (w.objs ++ [(p6, (⟨[], [], [], .slice none 0 0, .slice none 0 0, .slice none 0 0, [], [], []⟩ : FO))]).flatMap foA) (by (focus ((repeat (first | with_reducible exact Tk.here | apply Tk.there)); done))) (by (focus ((repeat (first | with_reducible exact Tk.here | apply Tk.there)); done))) (by simp [List.flatMap_append, foA, slA])) ?_
      simp only [WMem, List.cons_append, List.nil_append]; (first | with_reducible exact Imp.refl | with_reducible exact Imp.left | (focus ((try simp only [List.nil_append]); (repeat (first | exact Imp.nil | (apply Imp.cons; (focus ((repeat (first | with_reducible exact Tk.here | apply Tk.there)); done))))); done)))
    · dsimp only
      rw [hB]; (repeat (first | exact Sub.nil | (apply Sub.cons; rfl)))
    · intro e Γ' H' hq
      rw [hFN]; exact hq
  | some j =>
    obtain rfl := hpj j rfl
    have hj := hR.nin _ (mget_mem hg)
    have go : ∀ (h4 : ¬ 32 ≤ usedN a.hs), openF s mode d a = openB j mode d a := fun h4 => by simp [openF, hn, hg, hmm, h4]
    by_cases h3 : mode = 1
    · simp only [decide_eq_true h3, Option.isSome_some]
      refine GO ?_
      refine st_call (used_spec t w hR.ok.hv (by omega)) (by rfl) (by simp only [hdr]; (focus ((repeat (first | exact Spl.nil | (apply Spl.cons; (focus ((repeat (first | with_reducible exact Tk.here | apply Tk.there)); done))))); done))) (fun v Post hv => ?_)
      obtain ⟨rfl, rfl⟩ := hv
      simp only [hR.used, hdr, List.cons_append, List.nil_append]
      refine GO ?_
      by_cases h4 : 32 ≤ usedN a.hs
      · simp only [show ((usedN a.hs : Nat) : Int) ≥ 32 by omega, decide_true]
        refine GO ?_
        rw [show openF s mode d a = (34, d, a) from by simp [openF, hn, hg, hmm, h4]]
        refine endQ_mk (Post := WMem t w ++ [cellsAt q 0 (deEnc d), cellsAt b3 0 [ptr0 t], cellsAt b4 0 [.string s], cellsAt b5 0 [vi mode]]) (.inr rfl) (.tmp (by rfl) .nil) ⟨w, rfl, hR.mono (Nat.le_succ M), rfl⟩ ?_; simp only [WMem, List.cons_append, List.nil_append]; (first | with_reducible exact Imp.refl | with_reducible exact Imp.left | (focus ((try simp only [List.nil_append]); (repeat (first | exact Imp.nil | (apply Imp.cons; (focus ((repeat (first | with_reducible exact Tk.here | apply Tk.there)); done))))); done)))
      simp only [show ¬ ((usedN a.hs : Nat) : Int) ≥ 32 by omega, decide_false]
      refine GO ?_
      refine VC.imp ?_ (VC.sub ?_ ((rest w a j hR hj).mono ?_))
      · simp only [WMem, List.cons_append, List.nil_append]; (first | with_reducible exact Imp.refl | with_reducible exact Imp.left | (focus ((try simp only [List.nil_append]); (repeat (first | exact Imp.nil | (apply Imp.cons; (focus ((repeat (first | with_reducible exact Tk.here | apply Tk.there)); done))))); done)))
      · (repeat (first | exact Sub.nil | (apply Sub.cons; rfl)))
      · intro e Γ' H' hq
        rw [go h4]; exact hq
    · simp only [decide_eq_false h3, Option.isSome_some]
      refine GO ?_
      refine st_call (used_spec t w hR.ok.hv (by omega)) (by rfl) (by simp only [hdr]; (focus ((repeat (first | exact Spl.nil | (apply Spl.cons; (focus ((repeat (first | with_reducible exact Tk.here | apply Tk.there)); done))))); done))) (fun v Post hv => ?_)
      obtain ⟨rfl, rfl⟩ := hv
      simp only [hR.used, hdr, List.cons_append, List.nil_append]
      refine GO ?_
      by_cases h4 : 32 ≤ usedN a.hs
      · simp only [show ((usedN a.hs : Nat) : Int) ≥ 32 by omega, decide_true]
        refine GO ?_
        rw [show openF s mode d a = (34, d, a) from by simp [openF, hn, hg, hmm, h4]]
        refine endQ_mk (Post := WMem t w ++ [cellsAt q 0 (deEnc d), cellsAt b3 0 [ptr0 t], cellsAt b4 0 [.string s], cellsAt b5 0 [vi mode]]) (.inr rfl) (.tmp (by rfl) .nil) ⟨w, rfl, hR.mono (Nat.le_succ M), rfl⟩ ?_; simp only [WMem, List.cons_append, List.nil_append]; (first | with_reducible exact Imp.refl | with_reducible exact Imp.left | (focus ((try simp only [List.nil_append]); (repeat (first | exact Imp.nil | (apply Imp.cons; (focus ((repeat (first | with_reducible exact Tk.here | apply Tk.there)); done))))); done)))
      simp only [show ¬ ((usedN a.hs : Nat) : Int) ≥ 32 by omega, decide_false]
      refine GO ?_
      refine VC.imp ?_ (VC.sub ?_ ((rest w a j hR hj).mono ?_))
      · simp only [WMem, List.cons_append, List.nil_append]; (first | with_reducible exact Imp.refl | with_reducible exact Imp.left | (focus ((try simp only [List.nil_append]); (repeat (first | exact Imp.nil | (apply Imp.cons; (focus ((repeat (first | with_reducible exact Tk.here | apply Tk.there)); done))))); done)))
      · (repeat (first | exact Sub.nil | (apply Sub.cons; rfl)))
      · intro e Γ' H' hq
        rw [go h4]; exact hq
end Go.Proofs.YtklkngccaemjdaaGreat

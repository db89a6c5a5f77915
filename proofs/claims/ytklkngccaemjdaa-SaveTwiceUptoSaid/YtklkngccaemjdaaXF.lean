/-
  The outside world: another name.
-/
import Derived.Test.YtklkngccaemjdaaW8
set_option linter.unusedSimpArgs false
set_option linter.unusedVariables false
namespace Go.Proofs.Ytklkngccaemjdaa
open Go Go.V
set_option maxHeartbeats 6400000
set_option maxRecDepth 100000
set_option linter.unusedSimpArgs false
set_option linter.unusedVariables false
theorem rename1_spec (t : Nat) (w : WR) (a : AW) (M : Nat) (hM : M ≤ 1073741822) (hR : Rep w a M) (s s2 : ByteArray) (hs : s.size ≤ 4611686018427387904) (hs2 : s2.size ≤ 4611686018427387904) (q b3 b4 b5 : Nat) (d : De) :
    Fun Try.prog 45 [ptr0 q, ptr0 b3, ptr0 b4, ptr0 b5] (WMem t w ++ [cellsAt q 0 (deEnc d), cellsAt b3 0 [ptr0 t], cellsAt b4 0 [.string s], cellsAt b5 0 [.string s2]])
      (fun v Post => ∃ w2, v = vi (renameF s s2 d a).1 ∧ Rep w2 (renameF s s2 d a).2.2 (M + 1) ∧ Post = WMem t w2 ++ [cellsAt q 0 (deEnc (renameF s s2 d a).2.1), cellsAt b3 0 [ptr0 t], cellsAt b4 0 [.string s], cellsAt b5 0 [.string s2]]) := by
  refine Fun.intro low45 (by simp [F45]) ?_
  simp only [WMem, List.cons_append, List.nil_append]
  refine GO ?_
  refine st_lookup (k := s) (by rfl) (by rfl) rfl (by (focus ((repeat (first | with_reducible exact HasO.here | apply HasO.there)); done))) hR.ok.fm ?_
  rw [hR.mget]
  generalize hg : mget s a.names = gr
  have hext : ∃ p, lookV true (Value.pointer none) ((gr.map fun j => (w.objs.map (·.1)).getD j 0).map fun b => ptr0 b) = .tuple #[p, .bool gr.isSome] ∧ ∀ j, gr = some j → p = ptr0 ((w.objs.map (·.1)).getD j 0) := by
    cases gr with
    | none => exact ⟨_, rfl, fun _ e => by cases e⟩
    | some j => exact ⟨_, rfl, fun _ e => by cases e; rfl⟩
  obtain ⟨p, hp, hpj⟩ := hext
  rw [hp]
  refine GO ?_
  refine st_call (isName_spec s hs) (by rfl) (R := WMem t w ++ [cellsAt q 0 (deEnc d), cellsAt b3 0 [ptr0 t], cellsAt b4 0 [.string s], cellsAt b5 0 [.string s2]]) (by simp [V.Spl]) (fun v Post hv => ?_)
  obtain ⟨rfl, rfl⟩ := hv
  simp only [WMem, List.cons_append, List.nil_append]
  cases hn : nameB s with
  | false =>
    refine GO ?_
    rw [show renameF s s2 d a = (35, d, a) from by simp [renameF, hn]]
    refine endQ_mk (Post := WMem t w ++ [cellsAt q 0 (deEnc d), cellsAt b3 0 [ptr0 t], cellsAt b4 0 [.string s], cellsAt b5 0 [.string s2]]) (.inr rfl) (.tmp (by rfl) .nil) ⟨w, rfl, hR.mono (Nat.le_succ M), rfl⟩ ?_
    simp only [WMem, List.cons_append, List.nil_append]; (first | with_reducible exact Imp.refl | with_reducible exact Imp.left | (focus ((try simp only [List.nil_append]); (repeat (first | exact Imp.nil | (apply Imp.cons; (focus ((repeat (first | with_reducible exact Tk.here | apply Tk.there)); done))))); done)))
  | true =>
    refine GO ?_
    refine st_call (isName_spec s2 hs2) (by rfl) (R := WMem t w ++ [cellsAt q 0 (deEnc d), cellsAt b3 0 [ptr0 t], cellsAt b4 0 [.string s], cellsAt b5 0 [.string s2]]) (by simp [V.Spl]) (fun v Post hv => ?_)
    obtain ⟨rfl, rfl⟩ := hv
    simp only [WMem, List.cons_append, List.nil_append]
    cases hn2 : nameB s2 with
    | false =>
      refine GO ?_
      rw [show renameF s s2 d a = (35, d, a) from by simp [renameF, hn, hn2]]
      refine endQ_mk (Post := WMem t w ++ [cellsAt q 0 (deEnc d), cellsAt b3 0 [ptr0 t], cellsAt b4 0 [.string s], cellsAt b5 0 [.string s2]]) (.inr rfl) (.tmp (by rfl) .nil) ⟨w, rfl, hR.mono (Nat.le_succ M), rfl⟩ ?_
      simp only [WMem, List.cons_append, List.nil_append]; (first | with_reducible exact Imp.refl | with_reducible exact Imp.left | (focus ((try simp only [List.nil_append]); (repeat (first | exact Imp.nil | (apply Imp.cons; (focus ((repeat (first | with_reducible exact Tk.here | apply Tk.there)); done))))); done)))
    | true =>
      refine GO ?_
      cases gr with
      | none =>
        refine GO ?_
        rw [show renameF s s2 d a = (32, d, a) from by simp [renameF, hn, hn2, hg]]
        refine endQ_mk (Post := WMem t w ++ [cellsAt q 0 (deEnc d), cellsAt b3 0 [ptr0 t], cellsAt b4 0 [.string s], cellsAt b5 0 [.string s2]]) (.inr rfl) (.tmp (by rfl) .nil) ⟨w, rfl, hR.mono (Nat.le_succ M), rfl⟩ ?_
        simp only [WMem, List.cons_append, List.nil_append]; (first | with_reducible exact Imp.refl | with_reducible exact Imp.left | (focus ((try simp only [List.nil_append]); (repeat (first | exact Imp.nil | (apply Imp.cons; (focus ((repeat (first | with_reducible exact Tk.here | apply Tk.there)); done))))); done)))
      | some j =>
        refine GO ?_
        refine st_delete (k := s) (by rfl) (by rfl) rfl (by (focus ((repeat (first | with_reducible exact Tk.here | apply Tk.there)); done))) hR.ok.fm (fun es' hm' _ => ?_)
        rw [hR.names, mdel_map (κ := ByteArray) (g := fun j => (w.objs.map (·.1)).getD j 0)] at hm'
        rw [hpj j rfl]
        refine GO ?_
        refine st_mapupd (k := s2) (v := (w.objs.map (·.1)).getD j 0) (by rfl) (by rfl) (by rfl) rfl (by (focus ((repeat (first | with_reducible exact Tk.here | apply Tk.there)); done))) hm' (fun es2 c2 hm2 => ?_)
        rw [mset_map (κ := ByteArray) (g := fun j => (w.objs.map (·.1)).getD j 0)] at hm2
        refine GO ?_
        rw [show renameF s s2 d a = (0, d, { a with names := mset s2 j (mdel s a.names) }) from by simp [renameF, hn, hn2, hg]]
        have hjin := hR.nin _ (mget_mem hg)
        have hR2 := hR.setN hm2 (mset_keys_nodup (mdel_keys_nodup hR.keys)) (fun p hp => by
          rcases mem_mset hp with rfl | hp
          · exact hjin
          · exact hR.nin p (mem_mdel hp)) (Nat.le_trans mset_length_le (by rw [mdel_length hg]; exact hR.files64))
        refine endQ_mk (Post := WMem t _ ++ [cellsAt q 0 (deEnc d), cellsAt b3 0 [ptr0 t], cellsAt b4 0 [.string s], cellsAt b5 0 [.string s2]]) (.inr rfl) (.tmp (by rfl) .nil) ⟨_, rfl, hR2.mono (Nat.le_succ M), rfl⟩ ?_
        simp only [WMem, List.cons_append, List.nil_append]; (first | with_reducible exact Imp.refl | with_reducible exact Imp.left | (focus ((try simp only [List.nil_append]); (repeat (first | exact Imp.nil | (apply Imp.cons; (focus ((repeat (first | with_reducible exact Tk.here | apply Tk.there)); done))))); done)))
end Go.Proofs.Ytklkngccaemjdaa

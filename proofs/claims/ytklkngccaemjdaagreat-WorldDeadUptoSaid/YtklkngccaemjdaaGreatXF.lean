/-
  The outside world: another name.
-/
import Derived.Test.YtklkngccaemjdaaGreatW8
set_option linter.unusedSimpArgs false
set_option linter.unusedVariables false
namespace Go.Proofs.YtklkngccaemjdaaGreat
open Go Go.V
set_option maxHeartbeats 6400000
set_option maxRecDepth 100000
set_option linter.unusedSimpArgs false
set_option linter.unusedVariables false
theorem rename1_spec (t : Nat) (w : WR) (a : AW) (M : Nat) (hM : M ≤ 1073741822) (hR : Rep w a M) (s s2 : ByteArray) (hs : s.size ≤ 4611686018427387904) (hs2 : s2.size ≤ 4611686018427387904) (q b3 b4 b5 : Nat) (d : De) :
    Fun Tryz.prog 99 [ptr0 q, ptr0 b3, ptr0 b4, ptr0 b5] (WMem t w ++ [cellsAt q 0 (deEnc d), cellsAt b3 0 [ptr0 t], cellsAt b4 0 [.string s], cellsAt b5 0 [.string s2]])
      (fun v Post => ∃ w2, v = vi (renameF s s2 d a).1 ∧ Rep w2 (renameF s s2 d a).2.2 (M + 1) ∧ Post = WMem t w2 ++ [cellsAt q 0 (deEnc (renameF s s2 d a).2.1), cellsAt b3 0 [ptr0 t], cellsAt b4 0 [.string s], cellsAt b5 0 [.string s2]]) := by
  refine Fun.intro low99 (by simp [F99]) ?_
  simp only [WMem, List.cons_append, List.nil_append]
  refine GO ?_
  refine st_lookup (k := s) (by rfl) (by rfl) rfl (by (focus ((repeat (first | with_reducible exact HasO.here | apply HasO.there)); done))) hR.ok.fm ?_
  rw [hR.mget]
  generalize hg : mget s a.names = gr
  have hext : ∃ p, lookV true (Value.pointer none) ((gr.map fun j => (w.objs.map (·.1)).getD j 0).map fun b => ptr0 b) = .tuple #[p, .bool gr.isSome] ∧ ∀ j, gr = some j → p = ptr0 ((w.objs.map (·.1)).getD j 0) := by
    cases gr with
    | none => exact ⟨_, rfl, fun _ e => by cases e⟩
    | some j => exact ⟨_, rfl, fun _ e => by cases e; rfl⟩
  obtain ⟨p, hp, hpj⟩ := hext
  rw [hp]
  refine GO ?_
  refine st_call (isName_spec s hs) (by rfl) (R := WMem t w ++ [cellsAt q 0 (deEnc d), cellsAt b3 0 [ptr0 t], cellsAt b4 0 [.string s], cellsAt b5 0 [.string s2]]) (by simp [V.Spl]) (fun v Post hv => ?_)
  obtain ⟨rfl, rfl⟩ := hv
  simp only [WMem, List.cons_append, List.nil_append]
  cases hn : nameB s with
  | false =>
    refine GO ?_
    rw [show renameF s s2 d a = (35, d, a) from by simp [renameF, hn]]
    refine endQ_mk (Post := WMem t w ++ [cellsAt q 0 (deEnc d), cellsAt b3 0 [ptr0 t], cellsAt b4 0 [.string s], cellsAt b5 0 [.string s2]]) (.inr rfl) (.tmp (by rfl) .nil) ⟨w, rfl, hR.mono (Nat.le_succ M), rfl⟩ ?_
    simp only [WMem, List.cons_append, List.nil_append]; (first | with_reducible exact Imp.refl | with_reducible exact Imp.left | (focus ((try simp only [List.nil_append]); (repeat (first | exact Imp.nil | (apply Imp.cons; (focus ((repeat (first | with_reducible exact Tk.here | apply Tk.there)); done))))); done)))
  | true =>
    refine GO ?_
    refine st_call (isName_spec s2 hs2) (by rfl) (R := WMem t w ++ [cellsAt q 0 (deEnc d), cellsAt b3 0 [ptr0 t], cellsAt b4 0 [.string s], cellsAt b5 0 [.string s2]]) (by simp [V.Spl]) (fun v Post hv => ?_)
    obtain ⟨rfl, rfl⟩ := hv
    simp only [WMem, List.cons_append, List.nil_append]
    cases hn2 : nameB s2 with
    | false =>
      refine GO ?_
      rw [show renameF s s2 d a = (35, d, a) from by simp [renameF, hn, hn2]]
      refine endQ_mk (Post := WMem t w ++ [cellsAt q 0 (deEnc d), cellsAt b3 0 [ptr0 t], cellsAt b4 0 [.string s], cellsAt b5 0 [.string s2]]) (.inr rfl) (.tmp (by rfl) .nil) ⟨w, rfl, hR.mono (Nat.le_succ M), rfl⟩ ?_
      simp only [WMem, List.cons_append, List.nil_append]; (first | with_reducible exact Imp.refl | with_reducible exact Imp.left | (focus ((try simp only [List.nil_append]); (repeat (first | exact Imp.nil | (apply Imp.cons; (focus ((repeat (first | with_reducible exact Tk.here | apply Tk.there)); done))))); done)))
    | true =>
      refine GO ?_
      cases gr with
      | none =>
        refine GO ?_
        rw [show renameF s s2 d a = (32, d, a) from by simp [renameF, hn, hn2, hg]]
        refine endQ_mk (Post := WMem t w ++ [cellsAt q 0 (deEnc d), cellsAt b3 0 [ptr0 t], cellsAt b4 0 [.string s], cellsAt b5 0 [.string s2]]) (.inr rfl) (.tmp (by rfl) .nil) ⟨w, rfl, hR.mono (Nat.le_succ M), rfl⟩ ?_
        simp only [WMem, List.cons_append, List.nil_append]; (first | with_reducible exact Imp.refl | with_reducible exact Imp.left | (focus ((try simp only [List.nil_append]); (repeat (first | exact Imp.nil | (apply Imp.cons; (focus ((repeat (first | with_reducible exact Tk.here | apply Tk.there)); done))))); done)))
      | some j =>
        refine GO ?_
        refine st_delete (k := s) (by rfl) (by rfl) rfl (by (focus ((repeat (first | with_reducible exact Tk.here | apply Tk.there)); done))) hR.ok.fm (fun es' hm' _ => ?_)
        rw [hR.names, mdel_map (κ := ByteArray) (g := fun j => (w.objs.map (·.1)).getD j 0)] at hm'
        rw [hpj j rfl]
        refine GO ?_
        refine st_mapupd (k := s2) (v := (w.objs.map (·.1)).getD j 0) (by rfl) (by rfl) (by rfl) rfl (by (focus ((repeat (first | with_reducible exact Tk.here | apply Tk.there)); done))) hm' (fun es2 c2 hm2 => ?_)
        rw [mset_map (κ := ByteArray) (g := fun j => (w.objs.map (·.1)).getD j 0)] at hm2
        refine GO ?_
        rw [show renameF s s2 d a = (0, d, { a with names := mset s2 j (mdel s a.names) }) from by simp [renameF, hn, hn2, hg]]
        have hjin := hR.nin _ (mget_mem hg)
        have hR2 := hR.setN hm2 (mset_keys_nodup (mdel_keys_nodup hR.keys)) (fun p hp => by
          rcases mem_mset hp with rfl | hp
          · exact hjin
          · exact hR.nin p (mem_mdel hp)) (Nat.le_trans mset_length_le (by rw [mdel_length hg]; exact hR.files64))
        refine endQ_mk (Post := WMem t _ ++ [cellsAt q 0 (deEnc d), cellsAt b3 0 [ptr0 t], cellsAt b4 0 [.string s], cellsAt b5 0 [.string s2]]) (.inr rfl) (.tmp (by rfl) .nil) ⟨_, rfl, hR2.mono (Nat.le_succ M), rfl⟩ ?_
        simp only [WMem, List.cons_append, List.nil_append]; (first | with_reducible exact Imp.refl | with_reducible exact Imp.left | (focus ((try simp only [List.nil_append]); (repeat (first | exact Imp.nil | (apply Imp.cons; (focus ((repeat (first | with_reducible exact Tk.here | apply Tk.there)); done))))); done)))
end Go.Proofs.YtklkngccaemjdaaGreat
namespace Go.Proofs.YtklkngccaemjdaaGreat
open Go Go.V
set_option maxHeartbeats 6400000
set_option maxRecDepth 100000
set_option linter.unusedSimpArgs false
set_option linter.unusedVariables false

theorem show1_spec (t : Nat) (w : WR) (a : AW) (M : Nat) (hM : M ≤ 1073741822) (hR : Rep w a M)  (c : Ch) (q : Nat) (d : De) :
    Fun Tryz.prog 47 [.agg (chEnc c).toArray, ptr0 q] (WMem t w ++ [cellsAt q 0 (deEnc d)])
      (fun v Post => ∃ w2, v = vi (showF d a c).1 ∧ Rep w2 (showF d a c).2.2 (M + 1) ∧ Post = WMem t w2 ++ [cellsAt q 0 (deEnc (showF d a c).2.1)]) := by
  refine Fun.intro low47 (by simp [F47]) ?_
  simp only [WMem, chEnc, List.cons_append, List.nil_append]
  refine GO ?_
  refine st_box (by rfl) (fun p0 => ?_)
  simp only [Value.cells]
  refine GO ?_
  refine endQ_mk (Post := WMem t w ++ [cellsAt q 0 (deEnc d)]) (.inr rfl) (.tmp (by rfl) .nil) ⟨w, rfl, hR.mono (Nat.le_succ M), rfl⟩ ?_; simp only [WMem, List.cons_append, List.nil_append]; (first | with_reducible exact Imp.refl | with_reducible exact Imp.left | (focus ((try simp only [List.nil_append]); (repeat (first | exact Imp.nil | (apply Imp.cons; (focus ((repeat (first | with_reducible exact Tk.here | apply Tk.there)); done))))); done)))
end Go.Proofs.YtklkngccaemjdaaGreat
namespace Go.Proofs.YtklkngccaemjdaaGreat
open Go Go.V
set_option maxHeartbeats 6400000
set_option maxRecDepth 100000
set_option linter.unusedSimpArgs false
set_option linter.unusedVariables false

theorem quit1_spec (t : Nat) (w : WR) (a : AW) (M : Nat) (hM : M ≤ 1073741822) (hR : Rep w a M)  (c : Ch) (q : Nat) (d : De) :
    Fun Tryz.prog 106 [.agg (chEnc c).toArray, ptr0 q] (WMem t w ++ [cellsAt q 0 (deEnc d)])
      (fun v Post => ∃ w2, v = vi (showF d a c).1 ∧ Rep w2 (showF d a c).2.2 (M + 1) ∧ Post = WMem t w2 ++ [cellsAt q 0 (deEnc (showF d a c).2.1)]) := by
  refine Fun.intro low106 (by simp [F106]) ?_
  simp only [WMem, chEnc, List.cons_append, List.nil_append]
  refine GO ?_
  refine st_box (by rfl) (fun p0 => ?_)
  simp only [Value.cells]
  refine GO ?_
  refine endQ_mk (Post := WMem t w ++ [cellsAt q 0 (deEnc d)]) (.inr rfl) (.tmp (by rfl) .nil) ⟨w, rfl, hR.mono (Nat.le_succ M), rfl⟩ ?_; simp only [WMem, List.cons_append, List.nil_append]; (first | with_reducible exact Imp.refl | with_reducible exact Imp.left | (focus ((try simp only [List.nil_append]); (repeat (first | exact Imp.nil | (apply Imp.cons; (focus ((repeat (first | with_reducible exact Tk.here | apply Tk.there)); done))))); done)))
end Go.Proofs.YtklkngccaemjdaaGreat
namespace Go.Proofs.YtklkngccaemjdaaGreat
open Go Go.V
set_option maxHeartbeats 6400000
set_option maxRecDepth 100000
set_option linter.unusedSimpArgs false
set_option linter.unusedVariables false

theorem send1_spec (t : Nat) (w : WR) (a : AW) (M : Nat) (hM : M ≤ 1073741822) (hR : Rep w a M) (n : Int) (c : Ch) (q b3 b4 : Nat) (d : De) :
    Fun Tryz.prog 104 [.agg (chEnc c).toArray, ptr0 q, ptr0 b3, ptr0 b4] (WMem t w ++ [cellsAt q 0 (deEnc d), cellsAt b3 0 [ptr0 t], cellsAt b4 0 [vi n]])
      (fun v Post => ∃ w2, v = vi (sendF n d a c).1 ∧ Rep w2 (sendF n d a c).2.2 (M + 1) ∧ Post = WMem t w2 ++ [cellsAt q 0 (deEnc (sendF n d a c).2.1), cellsAt b3 0 [ptr0 t], cellsAt b4 0 [vi n]]) := by
  refine Fun.intro low104 (by simp [F104]) ?_
  simp only [WMem, chEnc, List.cons_append, List.nil_append]
  refine GO ?_
  refine st_box (by rfl) (fun p0 => ?_)
  simp only [Value.cells]
  have hmany := hR.ok.hmany
  refine GO ?_
  refine st_call (held_spec t w n true hR.ok.hv (by omega)) (by rfl) (by simp only [hdr]; (focus ((repeat (first | exact Spl.nil | (apply Spl.cons; (focus ((repeat (first | with_reducible exact Tk.here | apply Tk.there)); done))))); done))) (fun v Post hv => ?_)
  obtain ⟨⟨p, rfl, hp1, hp2⟩, rfl⟩ := hv
  simp only [hR.held, hdr, List.cons_append, List.nil_append]
  refine GO ?_
  refine endQ_mk (Post := WMem t w ++ [cellsAt q 0 (deEnc d), cellsAt b3 0 [ptr0 t], cellsAt b4 0 [vi n]]) (.inr rfl) (.tmp (by rfl) .nil) ⟨w, rfl, hR.mono (Nat.le_succ M), rfl⟩ ?_; simp only [WMem, List.cons_append, List.nil_append]; (first | with_reducible exact Imp.refl | with_reducible exact Imp.left | (focus ((try simp only [List.nil_append]); (repeat (first | exact Imp.nil | (apply Imp.cons; (focus ((repeat (first | with_reducible exact Tk.here | apply Tk.there)); done))))); done)))
end Go.Proofs.YtklkngccaemjdaaGreat
namespace Go.Proofs.YtklkngccaemjdaaGreat
open Go Go.V
set_option maxHeartbeats 6400000
set_option maxRecDepth 100000
set_option linter.unusedSimpArgs false
set_option linter.unusedVariables false

theorem receive1_spec (t : Nat) (w : WR) (a : AW) (M : Nat) (hM : M ≤ 1073741822) (hR : Rep w a M) (n many : Int) (c : Ch) (q b3 b4 b5 : Nat) (d : De) :
    Fun Tryz.prog 105 [.agg (chEnc c).toArray, ptr0 q, ptr0 b3, ptr0 b4, ptr0 b5] (WMem t w ++ [cellsAt q 0 (deEnc d), cellsAt b3 0 [ptr0 t], cellsAt b4 0 [vi n], cellsAt b5 0 [vi many]])
      (fun v Post => ∃ w2, v = vi (receiveF n many d a c).1 ∧ Rep w2 (receiveF n many d a c).2.2 (M + 1) ∧ Post = WMem t w2 ++ [cellsAt q 0 (deEnc (receiveF n many d a c).2.1), cellsAt b3 0 [ptr0 t], cellsAt b4 0 [vi n], cellsAt b5 0 [vi many]]) := by
  refine Fun.intro low105 (by simp [F105]) ?_
  simp only [WMem, chEnc, List.cons_append, List.nil_append]
  refine GO ?_
  refine st_box (by rfl) (fun p0 => ?_)
  simp only [Value.cells]
  have hmany := hR.ok.hmany
  refine GO ?_
  refine st_call (held_spec t w n true hR.ok.hv (by omega)) (by rfl) (by simp only [hdr]; (focus ((repeat (first | exact Spl.nil | (apply Spl.cons; (focus ((repeat (first | with_reducible exact Tk.here | apply Tk.there)); done))))); done))) (fun v Post hv => ?_)
  obtain ⟨⟨p, rfl, hp1, hp2⟩, rfl⟩ := hv
  simp only [hR.held, hdr, List.cons_append, List.nil_append]
  refine GO ?_
  by_cases he : heldE a.hs n true = 0
  rotate_left
  · simp only [he, decide_false, Bool.not_false]
    refine GO ?_
    rw [show receiveF n many d a c = (heldE a.hs n true, d, a) from by simp [receiveF, he]]
    refine endQ_mk (Post := WMem t w ++ [cellsAt q 0 (deEnc d), cellsAt b3 0 [ptr0 t], cellsAt b4 0 [vi n], cellsAt b5 0 [vi many]]) (.inr rfl) (.tmp (by rfl) .nil) ⟨w, rfl, hR.mono (Nat.le_succ M), rfl⟩ ?_; simp only [WMem, List.cons_append, List.nil_append]; (first | with_reducible exact Imp.refl | with_reducible exact Imp.left | (focus ((try simp only [List.nil_append]); (repeat (first | exact Imp.nil | (apply Imp.cons; (focus ((repeat (first | with_reducible exact Tk.here | apply Tk.there)); done))))); done)))
  simp only [he, decide_true, Bool.not_true]
  refine GO ?_
  by_cases h1 : many < 0
  · simp only [h1, decide_true]
    refine GO ?_
    rw [show receiveF n many d a c = (1, d, a) from by simp [receiveF, he, h1]]
    refine endQ_mk (Post := WMem t w ++ [cellsAt q 0 (deEnc d), cellsAt b3 0 [ptr0 t], cellsAt b4 0 [vi n], cellsAt b5 0 [vi many]]) (.inr rfl) (.tmp (by rfl) .nil) ⟨w, rfl, hR.mono (Nat.le_succ M), rfl⟩ ?_; simp only [WMem, List.cons_append, List.nil_append]; (first | with_reducible exact Imp.refl | with_reducible exact Imp.left | (focus ((try simp only [List.nil_append]); (repeat (first | exact Imp.nil | (apply Imp.cons; (focus ((repeat (first | with_reducible exact Tk.here | apply Tk.there)); done))))); done)))
  simp only [h1, decide_false]
  refine GO ?_
  by_cases h2 : c.kind = 3
  rotate_left
  · simp only [h2, decide_false, Bool.not_false]
    refine GO ?_
    rw [show receiveF n many d a c = (0, d, a) from by simp [receiveF, he, h1, h2]]
    refine endQ_mk (Post := WMem t w ++ [cellsAt q 0 (deEnc d), cellsAt b3 0 [ptr0 t], cellsAt b4 0 [vi n], cellsAt b5 0 [vi many]]) (.inr rfl) (.tmp (by rfl) .nil) ⟨w, rfl, hR.mono (Nat.le_succ M), rfl⟩ ?_; simp only [WMem, List.cons_append, List.nil_append]; (first | with_reducible exact Imp.refl | with_reducible exact Imp.left | (focus ((try simp only [List.nil_append]); (repeat (first | exact Imp.nil | (apply Imp.cons; (focus ((repeat (first | with_reducible exact Tk.here | apply Tk.there)); done))))); done)))
  simp only [h2, decide_true, Bool.not_true]
  refine GO ?_
  refine st_call (chosen_spec c.n) (by rfl) Spl.nil (fun v Post hv => ?_)
  obtain ⟨rfl, rfl⟩ := hv
  simp only [WMem, List.cons_append, List.nil_append]
  refine GO ?_
  by_cases h3 : chosenE c.n = 0
  rotate_left
  · simp only [h3, decide_false, Bool.not_false]
    refine GO ?_
    refine st_call (chosen_spec c.n) (by rfl) Spl.nil (fun v Post hv => ?_)
    obtain ⟨rfl, rfl⟩ := hv
    simp only [WMem, List.cons_append, List.nil_append]
    refine GO ?_
    rw [show receiveF n many d a c = (chosenE c.n, d, a) from by simp [receiveF, he, h1, h2, h3]]
    refine endQ_mk (Post := WMem t w ++ [cellsAt q 0 (deEnc d), cellsAt b3 0 [ptr0 t], cellsAt b4 0 [vi n], cellsAt b5 0 [vi many]]) (.inr rfl) (.tmp (by rfl) .nil) ⟨w, rfl, hR.mono (Nat.le_succ M), rfl⟩ ?_; simp only [WMem, List.cons_append, List.nil_append]; (first | with_reducible exact Imp.refl | with_reducible exact Imp.left | (focus ((try simp only [List.nil_append]); (repeat (first | exact Imp.nil | (apply Imp.cons; (focus ((repeat (first | with_reducible exact Tk.here | apply Tk.there)); done))))); done)))
  simp only [h3, decide_true, Bool.not_true]
  refine GO ?_
  obtain ⟨h, hh⟩ : ∃ h : Nat, h = min many.toNat c.text.size := ⟨_, rfl⟩
  have hmin : (if (c.text.size : Int) < many then (c.text.size : Int) else many) = ((h : Nat) : Int) := by split <;> omega
  rw [hmin]
  refine st_slcS (l := 0) (h := h) (by rfl) .dft (.num (by rfl)) (by omega) ?_
  simp only [deEnc]
  refine GO ?_
  rw [show receiveF n many d a c = (0, { d with text := c.text.extract 0 h }, a) from by simp [receiveF, he, h1, h2, h3, hh]]
  refine endQ_mk (Post := WMem t w ++ [cellsAt q 0 (deEnc { d with text := c.text.extract 0 h }), cellsAt b3 0 [ptr0 t], cellsAt b4 0 [vi n], cellsAt b5 0 [vi many]]) (.inr rfl) (.tmp (by rfl) .nil) ⟨w, rfl, hR.mono (Nat.le_succ M), rfl⟩ ?_
  simp only [WMem, deEnc, List.cons_append, List.nil_append]; (first | with_reducible exact Imp.refl | with_reducible exact Imp.left | (focus ((try simp only [List.nil_append]); (repeat (first | exact Imp.nil | (apply Imp.cons; (focus ((repeat (first | with_reducible exact Tk.here | apply Tk.there)); done))))); done)))
end Go.Proofs.YtklkngccaemjdaaGreat
namespace Go.Proofs.YtklkngccaemjdaaGreat
open Go Go.V
set_option maxHeartbeats 6400000
set_option maxRecDepth 100000
set_option linter.unusedSimpArgs false
set_option linter.unusedVariables false

theorem clock1_spec (t : Nat) (w : WR) (a : AW) (M : Nat) (hM : M ≤ 1073741822) (hR : Rep w a M)  (c : Ch) (q b3 : Nat) (d : De) :
    Fun Tryz.prog 101 [.agg (chEnc c).toArray, ptr0 q, ptr0 b3] (WMem t w ++ [cellsAt q 0 (deEnc d), cellsAt b3 0 [ptr0 t]])
      (fun v Post => ∃ w2, v = vi (clockF d a c).1 ∧ Rep w2 (clockF d a c).2.2 (M + 1) ∧ Post = WMem t w2 ++ [cellsAt q 0 (deEnc (clockF d a c).2.1), cellsAt b3 0 [ptr0 t]]) := by
  refine Fun.intro low101 (by simp [F101]) ?_
  simp only [WMem, chEnc, List.cons_append, List.nil_append]
  refine GO ?_
  refine st_box (by rfl) (fun p0 => ?_)
  simp only [Value.cells]
  have hcl := hR.ok.clock
  obtain ⟨tt, htt⟩ : ∃ tt : Int, tt = if c.kind = 1 ∧ 0 ≤ c.n ∧ c.n ≤ 1000000000000 then min (a.clock + c.n) 1000000000000000000 else a.clock := ⟨_, rfl⟩
  rw [← hR.clock] at htt
  have hFN : clockF d a c = (0, { d with n := tt }, { a with clock := tt }) := by simp only [clockF, ← hR.clock, ← htt]
  rw [hFN]
  have htb : 0 ≤ tt ∧ tt ≤ 1000000000000000000 := by rw [htt]; split <;> omega
  have fin : Rep { w with clock := tt } { a with clock := tt } (M + 1) := by
    have h' := hR.mono (Nat.le_succ M)
    exact { h' with clock := rfl, ok := { h'.ok with clock := htb } }
  refine GO ?_
  by_cases h1 : c.kind = 1
  rotate_left
  · simp only [h1, decide_false]
    have : w.clock = tt := by rw [htt, if_neg (fun h => h1 h.1)]
    rw [this]
    simp only [deEnc]
    refine GO ?_
    refine endQ_mk (Post := WMem t { w with clock := tt } ++ [cellsAt q 0 (deEnc { d with n := tt }), cellsAt b3 0 [ptr0 t]]) (.inr rfl) (.tmp (by rfl) .nil) ⟨_, rfl, fin, rfl⟩ ?_
    simp only [WMem, deEnc, List.cons_append, List.nil_append]; (first | with_reducible exact Imp.refl | with_reducible exact Imp.left | (focus ((try simp only [List.nil_append]); (repeat (first | exact Imp.nil | (apply Imp.cons; (focus ((repeat (first | with_reducible exact Tk.here | apply Tk.there)); done))))); done)))
  simp only [h1, decide_true]
  refine GO ?_
  by_cases h2 : 0 ≤ c.n
  rotate_left
  · simp only [h2, ge_iff_le, decide_false]
    have : w.clock = tt := by rw [htt, if_neg (fun h => h2 h.2.1)]
    rw [this]
    simp only [deEnc]
    refine GO ?_
    refine endQ_mk (Post := WMem t { w with clock := tt } ++ [cellsAt q 0 (deEnc { d with n := tt }), cellsAt b3 0 [ptr0 t]]) (.inr rfl) (.tmp (by rfl) .nil) ⟨_, rfl, fin, rfl⟩ ?_
    simp only [WMem, deEnc, List.cons_append, List.nil_append]; (first | with_reducible exact Imp.refl | with_reducible exact Imp.left | (focus ((try simp only [List.nil_append]); (repeat (first | exact Imp.nil | (apply Imp.cons; (focus ((repeat (first | with_reducible exact Tk.here | apply Tk.there)); done))))); done)))
  simp only [h2, ge_iff_le, decide_true]
  refine GO ?_
  by_cases h3 : c.n ≤ 1000000000000
  rotate_left
  · simp only [h3, decide_false]
    have : w.clock = tt := by rw [htt, if_neg (fun h => h3 h.2.2)]
    rw [this]
    simp only [deEnc]
    refine GO ?_
    refine endQ_mk (Post := WMem t { w with clock := tt } ++ [cellsAt q 0 (deEnc { d with n := tt }), cellsAt b3 0 [ptr0 t]]) (.inr rfl) (.tmp (by rfl) .nil) ⟨_, rfl, fin, rfl⟩ ?_
    simp only [WMem, deEnc, List.cons_append, List.nil_append]; (first | with_reducible exact Imp.refl | with_reducible exact Imp.left | (focus ((try simp only [List.nil_append]); (repeat (first | exact Imp.nil | (apply Imp.cons; (focus ((repeat (first | with_reducible exact Tk.here | apply Tk.there)); done))))); done)))
  simp only [h3, decide_true]
  refine GO ?_
  have : (if (1000000000000000000 : Int) < w.clock + c.n then (1000000000000000000 : Int) else w.clock + c.n) = tt := by
    have e : tt = min (w.clock + c.n) 1000000000000000000 := by rw [htt, if_pos ⟨h1, h2, h3⟩]
    rw [e]; split <;> omega
  rw [this]
  simp only [deEnc]
  refine GO ?_
  refine endQ_mk (Post := WMem t { w with clock := tt } ++ [cellsAt q 0 (deEnc { d with n := tt }), cellsAt b3 0 [ptr0 t]]) (.inr rfl) (.tmp (by rfl) .nil) ⟨_, rfl, fin, rfl⟩ ?_
  simp only [WMem, deEnc, List.cons_append, List.nil_append]; (first | with_reducible exact Imp.refl | with_reducible exact Imp.left | (focus ((try simp only [List.nil_append]); (repeat (first | exact Imp.nil | (apply Imp.cons; (focus ((repeat (first | with_reducible exact Tk.here | apply Tk.there)); done))))); done)))
end Go.Proofs.YtklkngccaemjdaaGreat
namespace Go.Proofs.YtklkngccaemjdaaGreat
open Go Go.V
set_option maxHeartbeats 6400000
set_option maxRecDepth 100000
set_option linter.unusedSimpArgs false
set_option linter.unusedVariables false

theorem connect1_spec (t : Nat) (w : WR) (a : AW) (M : Nat) (hM : M ≤ 1073741822) (hR : Rep w a M) (s : ByteArray) (hs : s.size ≤ 4611686018427387904) (c : Ch) (q b3 b4 : Nat) (d : De) :
    Fun Tryz.prog 102 [.agg (chEnc c).toArray, ptr0 q, ptr0 b3, ptr0 b4] (WMem t w ++ [cellsAt q 0 (deEnc d), cellsAt b3 0 [.string s], cellsAt b4 0 [ptr0 t]])
      (fun v Post => ∃ w2, v = vi (connectF s d a c).1 ∧ Rep w2 (connectF s d a c).2.2 (M + 1) ∧ Post = WMem t w2 ++ [cellsAt q 0 (deEnc (connectF s d a c).2.1), cellsAt b3 0 [.string s], cellsAt b4 0 [ptr0 t]]) := by
  refine Fun.intro low102 (by simp [F102]) ?_
  simp only [WMem, chEnc, List.cons_append, List.nil_append]
  refine GO ?_
  refine st_box (by rfl) (fun p0 => ?_)
  simp only [Value.cells]
  have hmany := hR.ok.hmany
  refine GO ?_
  refine st_call (isName_spec s hs) (by rfl) Spl.nil (fun v Post hv => ?_)
  obtain ⟨rfl, rfl⟩ := hv
  simp only [WMem, List.cons_append, List.nil_append]
  cases hn : nameB s with
  | false =>
    refine GO ?_
    rw [show connectF s d a c = (35, d, a) from by simp [connectF, hn]]
    refine endQ_mk (Post := WMem t w ++ [cellsAt q 0 (deEnc d), cellsAt b3 0 [.string s], cellsAt b4 0 [ptr0 t]]) (.inr rfl) (.tmp (by rfl) .nil) ⟨w, rfl, hR.mono (Nat.le_succ M), rfl⟩ ?_; simp only [WMem, List.cons_append, List.nil_append]; (first | with_reducible exact Imp.refl | with_reducible exact Imp.left | (focus ((try simp only [List.nil_append]); (repeat (first | exact Imp.nil | (apply Imp.cons; (focus ((repeat (first | with_reducible exact Tk.here | apply Tk.there)); done))))); done)))
  | true =>
  refine GO ?_
  by_cases h1 : c.kind = 2
  rotate_left
  · simp only [h1, decide_false, Bool.not_false]
    refine GO ?_
    rw [show connectF s d a c = (32, d, a) from by simp [connectF, hn, h1]]
    refine endQ_mk (Post := WMem t w ++ [cellsAt q 0 (deEnc d), cellsAt b3 0 [.string s], cellsAt b4 0 [ptr0 t]]) (.inr rfl) (.tmp (by rfl) .nil) ⟨w, rfl, hR.mono (Nat.le_succ M), rfl⟩ ?_; simp only [WMem, List.cons_append, List.nil_append]; (first | with_reducible exact Imp.refl | with_reducible exact Imp.left | (focus ((try simp only [List.nil_append]); (repeat (first | exact Imp.nil | (apply Imp.cons; (focus ((repeat (first | with_reducible exact Tk.here | apply Tk.there)); done))))); done)))
  simp only [h1, decide_true, Bool.not_true]
  refine GO ?_
  by_cases h2 : c.text = s
  rotate_left
  · simp only [h2, decide_false, Bool.not_false]
    refine GO ?_
    rw [show connectF s d a c = (32, d, a) from by simp [connectF, hn, h1, h2]]
    refine endQ_mk (Post := WMem t w ++ [cellsAt q 0 (deEnc d), cellsAt b3 0 [.string s], cellsAt b4 0 [ptr0 t]]) (.inr rfl) (.tmp (by rfl) .nil) ⟨w, rfl, hR.mono (Nat.le_succ M), rfl⟩ ?_; simp only [WMem, List.cons_append, List.nil_append]; (first | with_reducible exact Imp.refl | with_reducible exact Imp.left | (focus ((try simp only [List.nil_append]); (repeat (first | exact Imp.nil | (apply Imp.cons; (focus ((repeat (first | with_reducible exact Tk.here | apply Tk.there)); done))))); done)))
  simp only [h2, decide_true, Bool.not_true]
  refine GO ?_
  refine st_call (chosen_spec c.n) (by rfl) Spl.nil (fun v Post hv => ?_)
  obtain ⟨rfl, rfl⟩ := hv
  simp only [WMem, List.cons_append, List.nil_append]
  refine GO ?_
  by_cases h3 : chosenE c.n = 0
  rotate_left
  · simp only [h3, decide_false, Bool.not_false]
    refine GO ?_
    refine st_call (chosen_spec c.n) (by rfl) Spl.nil (fun v Post hv => ?_)
    obtain ⟨rfl, rfl⟩ := hv
    simp only [WMem, List.cons_append, List.nil_append]
    refine GO ?_
    rw [show connectF s d a c = (chosenE c.n, d, a) from by simp [connectF, hn, h1, h2, h3]]
    refine endQ_mk (Post := WMem t w ++ [cellsAt q 0 (deEnc d), cellsAt b3 0 [.string s], cellsAt b4 0 [ptr0 t]]) (.inr rfl) (.tmp (by rfl) .nil) ⟨w, rfl, hR.mono (Nat.le_succ M), rfl⟩ ?_; simp only [WMem, List.cons_append, List.nil_append]; (first | with_reducible exact Imp.refl | with_reducible exact Imp.left | (focus ((try simp only [List.nil_append]); (repeat (first | exact Imp.nil | (apply Imp.cons; (focus ((repeat (first | with_reducible exact Tk.here | apply Tk.there)); done))))); done)))
  simp only [h3, decide_true, Bool.not_true]
  refine GO ?_
  refine st_call (used_spec t w hR.ok.hv (by omega)) (by rfl) (by simp only [hdr]; (focus ((repeat (first | exact Spl.nil | (apply Spl.cons; (focus ((repeat (first | with_reducible exact Tk.here | apply Tk.there)); done))))); done))) (fun v Post hv => ?_)
  obtain ⟨rfl, rfl⟩ := hv
  simp only [hR.used, hdr, List.cons_append, List.nil_append]
  refine GO ?_
  by_cases h4 : 32 ≤ usedN a.hs
  · simp only [show ((usedN a.hs : Nat) : Int) ≥ 32 by omega, decide_true]
    refine GO ?_
    rw [show connectF s d a c = (34, d, a) from by simp [connectF, hn, h1, h2, h3, h4]]
    refine endQ_mk (Post := WMem t w ++ [cellsAt q 0 (deEnc d), cellsAt b3 0 [.string s], cellsAt b4 0 [ptr0 t]]) (.inr rfl) (.tmp (by rfl) .nil) ⟨w, rfl, hR.mono (Nat.le_succ M), rfl⟩ ?_; simp only [WMem, List.cons_append, List.nil_append]; (first | with_reducible exact Imp.refl | with_reducible exact Imp.left | (focus ((try simp only [List.nil_append]); (repeat (first | exact Imp.nil | (apply Imp.cons; (focus ((repeat (first | with_reducible exact Tk.here | apply Tk.there)); done))))); done)))
  simp only [show ¬ ((usedN a.hs : Nat) : Int) ≥ 32 by omega, decide_false]
  refine GO ?_
  refine st_box (by rfl) (fun hb => ?_)
  simp only [Value.cells]
  refine GO ?_
  refine st_call (give_spec t w hb hR.ok.hv (by omega)) (by rfl) (by simp only [hdr]; (focus ((repeat (first | exact Spl.nil | (apply Spl.cons; (focus ((repeat (first | with_reducible exact Tk.here | apply Tk.there)); done))))); done))) (fun v Post hv => ?_)
  obtain ⟨hv', sp', hsl', rfl, rfl⟩ := hv
  simp only [hdr, deEnc, List.cons_append, List.nil_append]
  refine GO ?_
  have hFN : connectF s d a c = (0, { d with handle := a.hs.length + 1 }, { a with hs := a.hs ++ [⟨0, false, false, none, 0, 0⟩] }) := by simp [connectF, hn, h1, h2, h3, h4]
  rw [hFN]
  have hR2 := (hR.mono (Nat.le_succ M)).addH (by omega) (x := ⟨hb, false, false, none, 0, 0⟩) (y := ⟨0, false, false, none, 0, 0⟩) hsl' rfl (fun i e => by cases e) (by simp)
  refine endQ_mk (Post := WMem t { w with hv := hv', hs := w.hs ++ [⟨hb, false, false, none, 0, 0⟩], hsp := sp' } ++ [cellsAt q 0 (deEnc { d with handle := a.hs.length + 1 }), cellsAt b3 0 [.string s], cellsAt b4 0 [ptr0 t]]) (.inr rfl) (.tmp (by rfl) .nil) ⟨_, rfl, hR2, rfl⟩ ?_
  refine Imp.cut (imp_jn (a := w.hs.flatMap hoA) (b := cellsAt hb 0 [.bool false, .bool false, .pointer none, vi 0, vi 0]) (x := (w.hs ++ [(⟨hb, false, false, none, 0, 0⟩ : HO)]).flatMap hoA) (by (focus ((repeat (first | with_reducible exact Tk.here | apply Tk.there)); done))) (by (focus ((repeat (first | with_reducible exact Tk.here | apply Tk.there)); done))) (by simp [List.flatMap_append, hoA, hoEnc, pf])) ?_
  simp only [WMem, deEnc, hR.hlen, List.map_append, List.map_cons, List.map_nil, List.cons_append, List.nil_append]; (first | with_reducible exact Imp.refl | with_reducible exact Imp.left | (focus ((try simp only [List.nil_append]); (repeat (first | exact Imp.nil | (apply Imp.cons; (focus ((repeat (first | with_reducible exact Tk.here | apply Tk.there)); done))))); done)))
end Go.Proofs.YtklkngccaemjdaaGreat

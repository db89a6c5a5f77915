/-
  The outside world: what was synced stays.
-/
import Derived.Test.YtklkngccaemjdaaXQ
import Derived.Test.YtklkngccaemjdaaWOs
import Derived.Test.YtklkngccaemjdaaWE
set_option linter.unusedSimpArgs false
set_option linter.unusedVariables false
namespace Go.Proofs.Ytklkngccaemjdaa
open Go Go.V
set_option maxHeartbeats 12800000
set_option maxRecDepth 100000
set_option linter.unusedSimpArgs false
set_option linter.unusedVariables false
theorem worldSynced_spec (A : List Atom) (fv : Value) (fs : List (ByteArray × ByteArray)) (from_ to text : ByteArray) (which : Int) (hf : RdRow 2 A fv fs.length (fs.flatMap fiEnc)) (hfl : fs.length ≤ 1048576) (hfs : ∀ p ∈ fs, p.1.size ≤ 1048576 ∧ p.2.size ≤ 1048576)
    (h1 : from_.size ≤ 1048576) (h2 : to.size ≤ 1048576) (h3 : text.size ≤ 1048576) (hw : 0 ≤ which) :
    Fun Try.prog 4 [fv, .string from_, .string to, .string text, .int .u64 which] [A] (fun v Post => v = .bool true ∧ Post = [A]) := by
  refine Fun.intro low4 (by simp [F4]) ?_
  refine GO ?_
  refine st_call works_spec (by rfl) Spl.nil (fun v Post hv => ?_)
  obtain ⟨rfl, rfl⟩ := hv
  simp only [List.nil_append]
  refine GO ?_
  refine st_call (new_spec A (.slice none 0 0) fv [] fs (.inl ⟨rfl, rfl, rfl⟩) hf (by simp) (by omega) (fun p hp => ⟨by have := (hfs p hp).1; omega, by have := (hfs p hp).2; omega⟩)) (by rfl) (by (focus ((repeat (first | exact Spl.nil | (apply Spl.cons; (focus ((repeat (first | with_reducible exact Tk.here | apply Tk.there)); done))))); done))) (fun v Post hv => ?_)
  cases hnew : newA [] fs with
  | none =>
    rw [hnew] at hv
    obtain ⟨rfl, rfl⟩ := hv
    simp only [List.cons_append, List.nil_append]
    refine GO ?_
    exact endQ_mk (Post := [A]) (.inr rfl) (.tmp (by rfl) .nil) ⟨rfl, rfl⟩ (by (first | with_reducible exact Imp.refl | with_reducible exact Imp.left | (focus ((try simp only [List.nil_append]); (repeat (first | exact Imp.nil | (apply Imp.cons; (focus ((repeat (first | with_reducible exact Tk.here | apply Tk.there)); done))))); done))))
  | some a0 =>
  rw [hnew] at hv
  obtain ⟨t, w0, rfl, hR0, rfl⟩ := hv
  have hinv := newA_inv hnew
  obtain ⟨hcalm, hhs, hsq⟩ := newA_calm hnew
  simp only [WMem, List.cons_append, List.nil_append]
  refine GO ?_
  refine st_call (open_spec t w0 a0 0 (by omega) hR0 from_ (by omega) 2) (by rfl) (by simp only [WMem]; (focus ((repeat (first | exact Spl.nil | (apply Spl.cons; (focus ((repeat (first | with_reducible exact Tk.here | apply Tk.there)); done))))); done))) (fun v Post hv => ?_)
  obtain ⟨w1, hR1, rfl, rfl⟩ := hv
  simp only [WMem, List.cons_append, List.nil_append]
  refine GO ?_
  by_cases o1 : (openM from_ 2 a0).2.1 = 0
  rotate_left
  · simp only [o1, decide_false, Bool.not_false, open_handle o1]
    refine GO ?_
    exact endQ_mk (Post := [A]) (.inr rfl) (.tmp (by rfl) .nil) ⟨rfl, rfl⟩ (by (first | with_reducible exact Imp.refl | with_reducible exact Imp.left | (focus ((try simp only [List.nil_append]); (repeat (first | exact Imp.nil | (apply Imp.cons; (focus ((repeat (first | with_reducible exact Tk.here | apply Tk.there)); done))))); done))))
  obtain ⟨l1, l2, l3⟩ := synced_law hinv hcalm hhs from_ to text o1
  have hinv1 : AInv (openM from_ 2 a0).2.2 := filedM_inv hinv (openF_inv (takeA_inv hinv) (by show 0 ≤ a0.seq; omega))
  simp only [o1, decide_true, Bool.not_true, l1]
  generalize (openM from_ 2 a0).2.2 = a1 at hR1 l2 l3 hinv1
  refine GO ?_
  refine st_call (write_spec t w1 a1 1 (by omega) hR1 1 text (by omega)) (by rfl) (by simp only [WMem]; (focus ((repeat (first | exact Spl.nil | (apply Spl.cons; (focus ((repeat (first | with_reducible exact Tk.here | apply Tk.there)); done))))); done))) (fun v Post hv => ?_)
  obtain ⟨w2, hR2, rfl, rfl⟩ := hv
  have hinv2 : AInv (writeM 1 text a1).2.2 := filedM_inv hinv1 (writeF_inv (takeA_inv hinv1) hR1.hin (by have := hR1.ok.seq; rw [hR1.seq] at this; exact this.1))
  simp only [WMem, List.cons_append, List.nil_append]
  refine GO ?_
  by_cases p1 : (writeM 1 text a1).2.1 = 0
  rotate_left
  · have p2 : (writeM 1 text a1).2.1 = 34 := by rcases l2 with h | h; exact absurd h p1; exact h
    simp only [p2]
    refine GO ?_
    exact endQ_mk (Post := [A]) (.inr rfl) (.tmp (by rfl) .nil) ⟨rfl, rfl⟩ (by (first | with_reducible exact Imp.refl | with_reducible exact Imp.left | (focus ((try simp only [List.nil_append]); (repeat (first | exact Imp.nil | (apply Imp.cons; (focus ((repeat (first | with_reducible exact Tk.here | apply Tk.there)); done))))); done))))
  have l4 := l3 p1 _ _ _ rfl rfl rfl
  simp only [p1, decide_true, Bool.not_true]
  generalize (writeM 1 text a1).2.2 = a2 at hR2 l4 hinv2
  refine GO ?_
  refine st_call (sync_spec t w2 a2 2 (by omega) hR2 1) (by rfl) (by simp only [WMem]; (focus ((repeat (first | exact Spl.nil | (apply Spl.cons; (focus ((repeat (first | with_reducible exact Tk.here | apply Tk.there)); done))))); done))) (fun v Post hv => ?_)
  obtain ⟨w3, hR3, rfl, rfl⟩ := hv
  have hinv3 : AInv (syncM 1 a2).2.2 := filedM_inv hinv2 (syncF_inv (takeA_inv hinv2) hR2.hin)
  rw [l4.1]
  generalize (syncM 1 a2).2.2 = a3 at hR3 l4 hinv3
  simp only [WMem, List.cons_append, List.nil_append]
  refine GO ?_
  refine st_call (close_spec t w3 a3 3 (by omega) hR3 1) (by rfl) (by simp only [WMem]; (focus ((repeat (first | exact Spl.nil | (apply Spl.cons; (focus ((repeat (first | with_reducible exact Tk.here | apply Tk.there)); done))))); done))) (fun v Post hv => ?_)
  obtain ⟨w4, hR4, rfl, rfl⟩ := hv
  have hinv4 : AInv (closeM 1 a3).2.2 := filedM_inv hinv3 (closeF_inv (takeA_inv hinv3))
  rw [l4.2.1]
  generalize (closeM 1 a3).2.2 = a4 at hR4 l4 hinv4
  simp only [WMem, List.cons_append, List.nil_append]
  refine GO ?_
  refine st_call (rename_spec t w4 a4 4 (by omega) hR4 from_ to (by omega) (by omega)) (by rfl) (by simp only [WMem]; (focus ((repeat (first | exact Spl.nil | (apply Spl.cons; (focus ((repeat (first | with_reducible exact Tk.here | apply Tk.there)); done))))); done))) (fun v Post hv => ?_)
  obtain ⟨w5, hR5, rfl, rfl⟩ := hv
  have hinv5 : AInv (renameM from_ to a4).2.2 := filedM_inv hinv4 (renameF_inv (takeA_inv hinv4))
  obtain ⟨_, _, l5⟩ := l4
  simp only [WMem, List.cons_append, List.nil_append]
  rcases l5 with l5 | ⟨l5, l6⟩
  · simp only [l5]
    refine GO ?_
    exact endQ_mk (Post := [A]) (.inr rfl) (.tmp (by rfl) .nil) ⟨rfl, rfl⟩ (by (first | with_reducible exact Imp.refl | with_reducible exact Imp.left | (focus ((try simp only [List.nil_append]); (repeat (first | exact Imp.nil | (apply Imp.cons; (focus ((repeat (first | with_reducible exact Tk.here | apply Tk.there)); done))))); done))))
  obtain ⟨⟨j, hj, hfj⟩, hne⟩ := l6 _ rfl
  simp only [l5]
  generalize (renameM from_ to a4).2.2 = a5 at hR5 hinv5 hj hfj hne
  refine GO ?_
  refine st_call (left_spec A t w5 a5 5 (by omega) hR5 hinv5.ok which hw (.slice none 0 0) [] (.inl ⟨rfl, rfl, rfl⟩) (by simp)) (by rfl) (by simp only [WMem, List.cons_append, List.nil_append]; (focus ((repeat (first | exact Spl.nil | (apply Spl.cons; (focus ((repeat (first | with_reducible exact Tk.here | apply Tk.there)); done))))); done))) (fun v Post hv => ?_)
  obtain ⟨tx, wx, ax, rfl, hL, hRx, rfl⟩ := hv
  simp only [WMem, List.cons_append, List.nil_append]
  refine GO ?_
  refine st_call (files_spec tx wx ax 0 (by omega) hRx) (by rfl) (by simp only [WMem]; (focus ((repeat (first | exact Spl.nil | (apply Spl.cons; (focus ((repeat (first | with_reducible exact Tk.here | apply Tk.there)); done))))); done))) (fun v Post hv => ?_)
  obtain ⟨ys, sp, hys, hv, rfl⟩ := hv
  have hxn : (ax.names.map (·.1)).Nodup := (hL.inv hinv5.keys).keys
  have hyn : ys.Nodup := (hys.1.nodup_iff).2 hxn
  have hmem : ∀ n, n ∈ ys ↔ n ∈ a5.names.map (·.1) := fun n => by rw [hys.1.mem_iff, hL.keys.mem_iff]
  have htext := synced_left hL hinv5.keys hj hfj
  have hto : to ∈ ys := (hmem to).2 (List.mem_map_of_mem (f := fun p : ByteArray × Nat => p.1) (mget_mem hj))
  have hfrom : from_ ∈ ys → from_ = to := fun hm => Classical.byContradiction fun he => by
    obtain ⟨v, hv⟩ := mget_some_of ((hmem _).1 hm)
    rw [hne he] at hv; cases hv
  have hylen : ys.length ≤ 1073741823 := by
    have := hys.1.length_eq
    have h4 := hRx.ok.files
    rw [hRx.nlen] at h4
    rw [List.length_map] at this; omega
  obtain ⟨va, vc, rfl⟩ := hv.form
  simp only [WMem, List.cons_append, List.nil_append]
  refine GO ?_
  have hrd := hv.rd
  rw [show ys.length = (ys.map (fileOf ax)).length by simp] at hrd
  generalize hB : slA (.slice va ys.length vc) ((ys.map (fileOf ax)).flatMap fiEnc) sp = B at *
  rw [show slA (.slice va (ys.map (fileOf ax)).length vc) ((ys.map (fileOf ax)).flatMap fiEnc) sp = B by rw [← hB]; simp] at hrd
  refine VC.loop (α := Nat) (Γf := fun k => [(1, .string from_), (2, .string to), (3, .string text), (11, .bool true), (19, .slice va ys.length vc), (20, vi (cntN to (ys.take k))), (21, vi k)]) (Hf := fun _ => [B, A]) (I := fun k => k ≤ ys.length) (μ := fun k => ys.length - k) 0 (Nat.zero_le _) (by (repeat (first | exact Sub.nil | (apply Sub.cons; rfl)))) (by (first | with_reducible exact Imp.refl | with_reducible exact Imp.left | (focus ((try simp only [List.nil_append]); (repeat (first | exact Imp.nil | (apply Imp.cons; (focus ((repeat (first | with_reducible exact Tk.here | apply Tk.there)); done))))); done)))) ?_
  intro k hk
  refine GO ?_
  (first | (apply VC.seq_cond; rfl) | (apply VC.cond; rfl))
  rotate_left
  · intro hge
    have hge : ¬ k < ys.length := by simpa using hge
    rw [List.take_of_length_le (by omega), cntN_one hyn hto]
    refine GO ?_
    exact endQ_mk (Post := [A]) (.inr rfl) (.tmp (by rfl) .nil) ⟨rfl, rfl⟩ (by (first | with_reducible exact Imp.refl | with_reducible exact Imp.left | (focus ((try simp only [List.nil_append]); (repeat (first | exact Imp.nil | (apply Imp.cons; (focus ((repeat (first | with_reducible exact Tk.here | apply Tk.there)); done))))); done))))
  intro hlt
  have hlt : k < ys.length := by simpa using hlt
  obtain ⟨n, hn⟩ : ∃ n, ys[k]? = some n := ⟨ys[k], by simp [hlt]⟩
  have hcs := cntN_snoc (to := to) hn
  have hcle := cntN_le (to := to) (l := ys.take k)
  rw [List.length_take] at hcle
  obtain ⟨b, o, c, hve, hcell⟩ := hrd.at_ (enc := fiEnc) (fun p => rfl) (i := k) (x := fileOf ax n) (by simp [hn])
  rw [show (ys.map (fileOf ax)).length = ys.length by simp] at hve
  simp only [Value.slice.injEq, true_and] at hve
  obtain ⟨rfl, rfl⟩ := hve
  have hnm := List.mem_of_getElem? hn
  have m0 : Atom.cell b (o + k * 2) (.string n) ∈ B := hcell _ (mem_cellsAt.2 ⟨0, _, rfl, rfl⟩)
  have m1 : Atom.cell b (o + k * 2 + 1) (.string (ftxt (nowOf ax n))) ∈ B := hcell _ (mem_cellsAt.2 ⟨1, _, rfl, rfl⟩)
  refine GO ?_
  by_cases c1 : n = to
  · simp only [decide_eq_true c1]
    have hc2 : cntN to (ys.take (k + 1)) = cntN to (ys.take k) + 1 := by rw [hcs, if_pos c1]
    have ht : ftxt (nowOf ax n) = text := by rw [c1]; exact congrArg Prod.snd htext
    rw [ht] at m1
    refine GO ?_
    by_cases c2 : n = from_
    · simp only [decide_eq_true c2]
      refine GO ?_
      have c3 : from_ = to := by rw [← c2, c1]
      simp only [c3, ne_eq, not_true_eq_false, decide_false]
      refine GO ?_
      exact ⟨k + 1, by omega, by omega, by rw [hc2]; (repeat (first | exact Sub.nil | (apply Sub.cons; rfl))), by (first | with_reducible exact Imp.refl | with_reducible exact Imp.left | (focus ((try simp only [List.nil_append]); (repeat (first | exact Imp.nil | (apply Imp.cons; (focus ((repeat (first | with_reducible exact Tk.here | apply Tk.there)); done))))); done)))⟩
    · simp only [decide_eq_false c2]
      refine GO ?_
      exact ⟨k + 1, by omega, by omega, by rw [hc2]; (repeat (first | exact Sub.nil | (apply Sub.cons; rfl))), by (first | with_reducible exact Imp.refl | with_reducible exact Imp.left | (focus ((try simp only [List.nil_append]); (repeat (first | exact Imp.nil | (apply Imp.cons; (focus ((repeat (first | with_reducible exact Tk.here | apply Tk.there)); done))))); done)))⟩
  · simp only [decide_eq_false c1]
    have hc2 : cntN to (ys.take (k + 1)) = cntN to (ys.take k) := by rw [hcs, if_neg c1]; rfl
    have c2 : n ≠ from_ := fun e => c1 (by rw [e]; exact hfrom (e ▸ hnm))
    refine GO ?_
    simp only [decide_eq_false c2]
    refine GO ?_
    exact ⟨k + 1, by omega, by omega, by rw [hc2]; (repeat (first | exact Sub.nil | (apply Sub.cons; rfl))), by (first | with_reducible exact Imp.refl | with_reducible exact Imp.left | (focus ((try simp only [List.nil_append]); (repeat (first | exact Imp.nil | (apply Imp.cons; (focus ((repeat (first | with_reducible exact Tk.here | apply Tk.there)); done))))); done)))⟩
end Go.Proofs.Ytklkngccaemjdaa

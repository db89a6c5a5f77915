/-
  The outside world: all files; the document's names.
-/
import Derived.Test.YtklkngccaemjdaaGreatXN
set_option linter.unusedSimpArgs false
set_option linter.unusedVariables false
namespace Go.Proofs.YtklkngccaemjdaaGreat
open Go Go.V
set_option maxHeartbeats 6400000
set_option maxRecDepth 100000
set_option linter.unusedSimpArgs false
set_option linter.unusedVariables false

theorem refName_spec (s : ByteArray) (hs : s.size ≤ 4611686018427387904) : Fun Tryz.prog 54 [.string s] [] (fun v Post => v = .bool (nameB s) ∧ Post = []) := by
  refine Fun.intro low54 (by simp [F54]) ?_
  refine GO ?_
  by_cases h1 : s.size < 1
  · simp only [show (s.size : Int) < 1 by omega, decide_true]
    refine GO ?_
    refine ⟨.inr rfl, _, _, .tmp (by rfl) .nil, by (first | with_reducible exact Imp.refl | with_reducible exact Imp.left | (focus ((try simp only [List.nil_append]); (repeat (first | exact Imp.nil | (apply Imp.cons; (focus ((repeat (first | with_reducible exact Tk.here | apply Tk.there)); done))))); done))), ?_, rfl⟩
    simp [tup, nameB, show ¬ 1 ≤ s.size by omega]
  simp only [show ¬ (s.size : Int) < 1 by omega, decide_false]
  refine GO ?_
  by_cases h2 : 64 < s.size
  · simp only [show (s.size : Int) > 64 by omega, decide_true]
    refine GO ?_
    refine ⟨.inr rfl, _, _, .tmp (by rfl) .nil, by (first | with_reducible exact Imp.refl | with_reducible exact Imp.left | (focus ((try simp only [List.nil_append]); (repeat (first | exact Imp.nil | (apply Imp.cons; (focus ((repeat (first | with_reducible exact Tk.here | apply Tk.there)); done))))); done))), ?_, rfl⟩
    simp [tup, nameB, show ¬ s.size ≤ 64 by omega]
  simp only [show ¬ (s.size : Int) > 64 by omega, decide_false]
  refine GO ?_
  refine VC.loop (α := Nat) (Γf := fun k => [(0, .string s), (3, vi k)]) (Hf := fun _ => []) (I := fun k => k ≤ s.size ∧ (s.data.toList.take k).all (fun c => inNameB c.toNat) = true) (μ := fun k => s.size - k) 0 ⟨by omega, by simp⟩ (by (repeat (first | exact Sub.nil | (apply Sub.cons; rfl)))) (by (first | with_reducible exact Imp.refl | with_reducible exact Imp.left | (focus ((try simp only [List.nil_append]); (repeat (first | exact Imp.nil | (apply Imp.cons; (focus ((repeat (first | with_reducible exact Tk.here | apply Tk.there)); done))))); done)))) ?_
  rintro k ⟨hk, hall⟩
  refine GO ?_
  (first | (apply VC.seq_cond; rfl) | (apply VC.cond; rfl))
  rotate_left
  · intro hge
    have hge : ¬ k < s.size := by simpa using hge
    rw [List.take_of_length_le (by simp; omega)] at hall
    refine GO ?_
    refine ⟨.inr rfl, _, _, .tmp (by rfl) .nil, by (first | with_reducible exact Imp.refl | with_reducible exact Imp.left | (focus ((try simp only [List.nil_append]); (repeat (first | exact Imp.nil | (apply Imp.cons; (focus ((repeat (first | with_reducible exact Tk.here | apply Tk.there)); done))))); done))), ?_, rfl⟩
    simp only [tup, nameB, hall, Bool.true_and, Value.bool.injEq]
    simp; omega
  intro hlt
  have hlt : k < s.size := by simpa using hlt
  have hc : s[k]? = some s[k] := by simp [hlt]
  refine GO ?_
  refine st_idxS (by rfl) (by rfl) (j := k) rfl hc ?_
  have ht := all_take hlt
  rw [hall, Bool.true_and] at ht
  have good : inNameB (s[k]).toNat = true → ∃ s', (s' ≤ s.size ∧ (s.data.toList.take s').all (fun c => inNameB c.toNat) = true) ∧ s.size - s' < s.size - k ∧ s' = k + 1 := fun hb => ⟨k + 1, ⟨by omega, by rw [ht, hb]⟩, by omega, rfl⟩
  have bad : inNameB (s[k]).toNat = false → nameB s = false := by
    intro hb
    have h2 : s.data.toList.all (fun c => inNameB c.toNat) = false := by
      rw [hb] at ht
      rw [← List.take_append_drop (k + 1) s.data.toList, List.all_append, ht, Bool.false_and]
    simp only [nameB, h2, Bool.false_and]
  generalize hcc : (s[k]).toNat = c at good bad ht ⊢
  cases hb : inNameB c with
  | true =>
    have hb2 := hb
    simp only [inNameB, Bool.or_eq_true, Bool.and_eq_true, decide_eq_true_eq] at hb2
    (repeat' (first | refine GOP ?_ | refine st_gcase (by rfl) (fun _ => ?_) (fun _ => ?_) | refine st_pcase (by rfl) (fun _ => ?_) (fun _ => ?_) | refine VC.seq_cond (by rfl) (fun _ => ?_) (fun _ => ?_) | refine VC.cond (by rfl) (fun _ => ?_) (fun _ => ?_)))
    all_goals (simp only [decide_eq_true_eq, decide_eq_false_iff_not, Int.not_le, ge_iff_le, Bool.not_eq_true', Bool.not_eq_false', Bool.not_eq_eq_eq_not, Bool.not_true, Bool.not_false] at *)
    all_goals first
      | exact ⟨k + 1, ⟨by omega, by rw [ht, hb]⟩, by omega, by (repeat (first | exact Sub.nil | (apply Sub.cons; rfl))), by (first | with_reducible exact Imp.refl | with_reducible exact Imp.left | (focus ((try simp only [List.nil_append]); (repeat (first | exact Imp.nil | (apply Imp.cons; (focus ((repeat (first | with_reducible exact Tk.here | apply Tk.there)); done))))); done)))⟩
      | (exfalso; omega)
  | false =>
    have hb2 := hb
    simp only [inNameB, Bool.or_eq_false_iff, Bool.and_eq_false_iff, decide_eq_false_iff_not] at hb2
    have hbad := bad hb
    (repeat' (first | refine GOP ?_ | refine st_gcase (by rfl) (fun _ => ?_) (fun _ => ?_) | refine st_pcase (by rfl) (fun _ => ?_) (fun _ => ?_) | refine VC.seq_cond (by rfl) (fun _ => ?_) (fun _ => ?_) | refine VC.cond (by rfl) (fun _ => ?_) (fun _ => ?_)))
    all_goals (simp only [decide_eq_true_eq, decide_eq_false_iff_not, Int.not_le, ge_iff_le, Bool.not_eq_true', Bool.not_eq_false', Bool.not_eq_eq_eq_not, Bool.not_true, Bool.not_false] at *)
    all_goals first
      | (exfalso; omega)
      | (rw [hbad]; refine ⟨.inr rfl, _, _, .tmp (by rfl) .nil, by (first | with_reducible exact Imp.refl | with_reducible exact Imp.left | (focus ((try simp only [List.nil_append]); (repeat (first | exact Imp.nil | (apply Imp.cons; (focus ((repeat (first | with_reducible exact Tk.here | apply Tk.there)); done))))); done))), ?_, rfl⟩; rfl)

theorem files_spec (t : Nat) (w : WR) (a : AW) (M : Nat) (hM : M ≤ 1073741823) (hR : Rep w a M) :
    Fun Tryz.prog 10 [ptr0 t] (WMem t w) (fun v Post => ∃ ys sp, SortedOf ltS (a.names.map (·.1)) ys ∧ IsSl 2 v ys.length ((ys.map (fileOf a)).flatMap fiEnc) sp ∧ Post = WMem t w ++ [slA v ((ys.map (fileOf a)).flatMap fiEnc) sp]) := by
  refine Fun.intro low10 (by simp [F10]) ?_
  simp only [WMem]
  have hnl := hR.ok.files
  refine GO ?_
  refine st_call (keys_spec w.fm) (by rfl) Spl.nil (fun v Post hv => ?_)
  obtain ⟨q, rfl, rfl⟩ := hv
  simp only [List.cons_append, List.nil_append]
  refine st_call (sorted_spec 109 #[] #[ptr0 q] _ _ (fun full => full.Perm (w.names.map (·.1))) (keys_iter q w.fm w.fc w.fes w.names hR.ok.fm hR.ok.keys) (fun c hc => ?_)) (by rfl) (by (focus ((repeat (first | exact Spl.nil | (apply Spl.cons; (focus ((repeat (first | with_reducible exact Tk.here | apply Tk.there)); done))))); done))) (fun v Post hv => ?_)
  · obtain ⟨tt, ht⟩ := hc
    have h1 := ht.length_eq
    have h2 := (ht.nodup_iff).2 hR.ok.keys
    rw [List.length_append, List.length_map] at h1
    exact ⟨by omega, (List.nodup_append.1 h2).1⟩
  obtain ⟨xs, ys, sv, sp, hxs, hys, hsl, rfl, rfl⟩ := hv
  have hsort : SortedOf ltS (a.names.map (·.1)) ys := ⟨by rw [← hR.keysEq]; exact hys.1.trans hxs, hys.2⟩
  have hlen : ys.length ≤ 1073741823 := by
    have := hsort.1.length_eq
    rw [List.length_map, ← hR.nlen] at this
    omega
  simp only [List.cons_append, List.nil_append]
  obtain ⟨ya, yc, rfl⟩ := hsl.form
  refine GO ?_
  refine VC.loop (α := Nat × Value × List Value) (Γf := fun s => [(0, ptr0 t), (2, s.2.1), (10, .slice ya ys.length yc), (11, vi ys.length), (12, vi s.1)]) (Hf := fun s => WMem t w ++ [slA (.slice ya ys.length yc) (ys.map Value.string) sp, slA s.2.1 (((ys.take s.1).map (fileOf a)).flatMap fiEnc) s.2.2])
    (I := fun s => s.1 ≤ ys.length ∧ IsSl 2 s.2.1 s.1 (((ys.take s.1).map (fileOf a)).flatMap fiEnc) s.2.2) (μ := fun s => ys.length - s.1) (0, .slice none 0 0, []) ⟨Nat.zero_le _, .nil⟩ (by (repeat (first | exact Sub.nil | (apply Sub.cons; rfl)))) (Imp.cut (by simp only [WMem, List.cons_append, List.nil_append]; (first | with_reducible exact Imp.refl | with_reducible exact Imp.left | (focus ((try simp only [List.nil_append]); (repeat (first | exact Imp.nil | (apply Imp.cons; (focus ((repeat (first | with_reducible exact Tk.here | apply Tk.there)); done))))); done)))) (Imp.perm (A := WMem t w ++ [slA (.slice ya ys.length yc) (ys.map Value.string) sp]) (by simp [slA]))) ?_
  rintro ⟨k, fv, fsp⟩ ⟨hk, hfv⟩
  simp only at hk hfv
  obtain ⟨fva, fvc, rfl⟩ := hfv.form
  simp only [WMem, List.cons_append, List.nil_append]
  refine GO ?_
  (first | (apply VC.seq_cond; rfl) | (apply VC.cond; rfl))
  rotate_left
  · intro hge
    have hge : ¬ k < ys.length := by simpa using hge
    obtain rfl : k = ys.length := by omega
    rw [List.take_length] at hfv ⊢
    refine GO ?_
    exact endQ_mk (Post := WMem t w ++ [slA (.slice fva ys.length fvc) ((ys.map (fileOf a)).flatMap fiEnc) fsp]) (.inr rfl) (.tmp (by rfl) .nil) ⟨ys, fsp, hsort, hfv, rfl⟩ (by simp only [WMem, List.cons_append, List.nil_append]; (first | with_reducible exact Imp.refl | with_reducible exact Imp.left | (focus ((try simp only [List.nil_append]); (repeat (first | exact Imp.nil | (apply Imp.cons; (focus ((repeat (first | with_reducible exact Tk.here | apply Tk.there)); done))))); done))))
  intro hlt
  have hlt : k < ys.length := by simpa using hlt
  obtain ⟨n, hn⟩ : ∃ n, ys[k]? = some n := ⟨ys[k], by simp [hlt]⟩
  obtain ⟨b, o, c, he, _, _⟩ := hsl.some (by omega)
  simp only [Value.slice.injEq, true_and] at he
  obtain ⟨rfl, rfl⟩ := he
  have hmem : n ∈ a.names.map (·.1) := hsort.1.mem_iff.1 (List.mem_of_getElem? hn)
  obtain ⟨j, fb, fo, hj, hwb, hob, hfi, hfo, hnow⟩ := hR.named hmem
  have hnowI := hfo.now
  obtain ⟨na, nc, hnv⟩ := hnowI.form
  have hin : ∀ x ∈ foA (fb, fo), x ∈ w.objs.flatMap foA := fun x hx => List.mem_flatMap.2 ⟨_, List.mem_of_getElem? hob, hx⟩
  have hc0 : Atom.cell fb 0 fo.nv ∈ w.objs.flatMap foA := hin _ (by simp [foA, cellsAt])
  refine GO ?_
  refine st_load1 (v := .string n) (by rfl) (.there (.there (.there (.there (.there (.there (.there (Has.row (by simp [hn])))))))))  ?_
  refine GO ?_
  refine st_lookup (k := n) (by rfl) (by rfl) rfl (by (focus ((repeat (first | with_reducible exact HasO.here | apply HasO.there)); done))) hR.ok.fm ?_
  rw [hwb]
  simp only [Option.map_some, lookV, Bool.false_eq_true, if_false]
  refine GO ?_
  refine st_b2s (l := fo.now) (by rfl) (hnowI.bytesM (fun x hx => ?_)) ?_
  · have := hin x (by simp only [foA, List.mem_append]; exact .inr (.inl hx))
    simp only [List.flatten_cons, List.mem_append, this, true_or, or_true]
  refine GO ?_
  refine st_bslice (out := fiEnc (fileOf a n)) (by rfl) (by simp only [fileOf, hnow]; rfl) (fun q3 => ?_)
  refine st_append (k := k) (m := 1) (xs := ((ys.take k).map (fileOf a)).flatMap fiEnc) (sp := fsp) (ys := fiEnc (fileOf a n)) (by rfl) (by rfl) hfv (by (focus ((repeat (first | with_reducible exact Tk.here | apply Tk.there)); done))) (by rfl) ?_ rfl (by rfl) (by rfl) (by decide) (by omega) (fun sv' sp' hsl' => ?_)
  · exact ⟨rfl, fun a ha => by simp only [List.flatten_cons, List.mem_append]; exact .inl ha⟩
  have htake : ((ys.take (k + 1)).map (fileOf a)).flatMap fiEnc = ((ys.take k).map (fileOf a)).flatMap fiEnc ++ fiEnc (fileOf a n) := by
    rw [List.take_add_one, hn]; simp
  rw [← htake] at hsl' ⊢
  obtain ⟨a', c', hf'⟩ := hsl'.form
  subst hf'
  refine GO ?_
  exact ⟨(k + 1, _, sp'), ⟨by show k + 1 ≤ ys.length; omega, hsl'⟩, by simp only; omega, by (repeat (first | exact Sub.nil | (apply Sub.cons; rfl))), by simp only [WMem, List.cons_append, List.nil_append]; (first | with_reducible exact Imp.refl | with_reducible exact Imp.left | (focus ((try simp only [List.nil_append]); (repeat (first | exact Imp.nil | (apply Imp.cons; (focus ((repeat (first | with_reducible exact Tk.here | apply Tk.there)); done))))); done)))⟩
end Go.Proofs.YtklkngccaemjdaaGreat

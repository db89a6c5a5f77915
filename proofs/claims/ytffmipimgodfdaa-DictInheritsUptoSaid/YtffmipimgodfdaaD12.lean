/-
  The statement of what classes inherit: what it does.
-/
import Derived.Test.YtffmipimgodfdaaD9
import Derived.Test.YtffmipimgodfdaaE5
import Derived.Test.YtffmipimgodfdaaDB
namespace Go.Proofs.Ytffmipimgodfdaa
open Go Go.V
set_option maxHeartbeats 1600000
set_option maxRecDepth 100000
set_option linter.unusedSimpArgs false
set_option linter.unusedVariables false
theorem own_full (t : Nat) (R : Rep) (c : Int) (s : ByteArray) (h : WF R) :
    Fun Try.prog 14 [ptr0 t, vi c, .string s] (Full t R) (fun v Post => v = okM (ownR R c s) ∧ Post = Full t R) := by
  refine (own_spec t R c s h).conv (R := SitesI t R) ?_ ?_
  · simp [V.Spl, Full]
  · rintro v Post ⟨rfl, rfl⟩
    exact ⟨_, ⟨rfl, rfl⟩, by rw [Full]; exact Imp.refl _⟩

theorem dictInherits_spec (A : List Atom) (v0 v1 : Value) (xs : List Int) (l : List ActR) (s : ByteArray) (h0 : RdInts A v0 xs) (h1 : RdActs A v1 l) (hn : xs.length ≤ 1048576) (hl : l.length ≤ 1048576) :
    Fun Try.prog 5 [v0, v1, .string s] [A] (fun v Post => v = .bool true ∧ Post = [A]) := by
  obtain ⟨a0, c0, hv0⟩ := h0.form
  obtain ⟨a1, c1, hv1⟩ := h1.form
  refine Fun.intro low5 (by simp [F5]) ?_
  refine GO ?_
  refine st_call works_spec (by rfl) (R := [A]) (by simp [V.Spl]) (fun v Post hv => ?_)
  obtain ⟨rfl, rfl⟩ := hv
  rw [hv0, hv1]
  simp only [List.nil_append]
  refine GO ?_
  by_cases hb0 : 1000 < xs.length
  · simp only [show ((1000 : Int) < xs.length) from by omega, decide_true]
    refine GO ?_
    exact endQ_mk (.inr rfl) (.tmp (by rfl) .nil) ⟨rfl, rfl⟩ (Imp.refl _)
  simp only [show ¬ ((1000 : Int) < xs.length) from by omega, decide_false]
  refine GO ?_
  by_cases hb1 : 1048576 < s.size
  · simp only [show ((1048576 : Int) < s.size) from by omega, decide_true]
    refine GO ?_
    exact endQ_mk (.inr rfl) (.tmp (by rfl) .nil) ⟨rfl, rfl⟩ (Imp.refl _)
  simp only [show ¬ ((1048576 : Int) < s.size) from by omega, decide_false]
  refine GO ?_
  refine st_call (new_spec A _ xs (hv0 ▸ h0) hn) (by rfl) (R := []) (by simp [V.Spl]) (fun v Post hv => ?_)
  rw [List.append_nil]
  rcases hv with hv | hv
  rotate_left
  · obtain ⟨_, rfl, rfl⟩ := hv
    refine GO ?_
    exact endQ_mk (.inr rfl) (.tmp (by rfl) .nil) ⟨rfl, rfl⟩ (Imp.refl _)
  obtain ⟨_, t, R0, hf, rfl, rfl⟩ := hv
  obtain ⟨f0, b0⟩ := hf.fine
  refine GO ?_
  refine VC.loop (α := Nat × Rep) (Γf := fun y => [(0, .slice a0 xs.length c0), (1, .slice a1 l.length c1), (2, .string s), (7, .bool true), (8, ptr0 t), (10, vi y.1)]) (Hf := fun y => A :: Full t y.2)
    (I := fun y => y.1 ≤ l.length ∧ Fine y.2 y.1 ∧ y.2.sup = xs) (μ := fun y => l.length - y.1) (0, R0) ⟨by simp, f0, hf.sup⟩ (by (repeat (first | exact Sub.nil | (apply Sub.cons; rfl)))) (Imp.refl _) ?_
  rintro ⟨i, R⟩ ⟨hi, hfine, hsup⟩
  simp only at hi hfine hsup
  refine GO ?_
  (first | (apply VC.seq_cond; rfl) | (apply VC.cond; rfl))
  · intro hlt
    have hlt : i < l.length := by simpa using hlt
    obtain ⟨b, o, c1', hvv, hA⟩ := h1.pos (by omega)
    rw [hv1] at hvv
    simp only [Value.slice.injEq, true_and] at hvv
    obtain ⟨rfl, rfl⟩ := hvv
    have hx := hA i l[i] (by simp)
    generalize l[i] = x at hx
    have hc2 : Atom.cell b (o + (i * 5 + 2)) (.string x.sel) ∈ A := hx _ (mem_cellsAt.2 ⟨2, _, rfl, by rw [Nat.add_assoc]⟩)
    refine GO ?_
    by_cases hbig : 1048576 < x.sel.size
    · simp only [show ((1048576 : Int) < x.sel.size) from by omega, decide_true]
      refine GO ?_
      exact endQ_mk (.inr rfl) (.tmp (by rfl) .nil) ⟨rfl, rfl⟩ Imp.head
    simp only [show ¬ ((1048576 : Int) < x.sel.size) from by omega, decide_false]
    refine GO ?_
    refine st_loadA (us := actEnc x) (by rfl) (fun a ha => by simp only [List.flatten_cons, List.mem_append]; exact .inl (hx a ha)) (by rfl) ?_
    refine st_call (call_spec t R i x.kind x.cls x.sel x.method x.site hfine (by omega) (by omega)) (by rfl) Spl.tail1 (fun v Post hv => ?_)
    obtain ⟨rfl, R1, f1, b1, rfl⟩ := hv
    refine VO.imp Imp.back1 ?_
    have s1 : R1.sup = xs := by have := congrArg Abs.sup b1; rw [callA_sup] at this; exact this.trans hsup
    refine GO ?_
    refine ⟨(i + 1, R1), ⟨by simp only; omega, f1, s1⟩, by simp only; omega, by (repeat (first | exact Sub.nil | (apply Sub.cons; rfl))), Imp.refl _⟩
  · intro _
    refine GO ?_
    refine VC.loop (α := Nat × Rep) (Γf := fun y => [(0, .slice a0 xs.length c0), (2, .string s), (7, .bool true), (8, ptr0 t), (11, vi y.1)]) (Hf := fun y => A :: Full t y.2)
      (I := fun y => y.1 ≤ xs.length ∧ Fine y.2 (l.length + 2 * y.1) ∧ y.2.sup = xs) (μ := fun y => xs.length - y.1) (0, R) ⟨by simp, hfine.more (by simp only; omega), hsup⟩ (by (repeat (first | exact Sub.nil | (apply Sub.cons; rfl)))) (Imp.refl _) ?_
    clear hfine hsup
    rintro ⟨c, R⟩ ⟨hc, hfine, hsup⟩
    simp only at hc hfine hsup
    refine GO ?_
    (first | (apply VC.seq_cond; rfl) | (apply VC.cond; rfl))
    · intro hlt
      have hlt : c < xs.length := by simpa using hlt
      obtain ⟨b, o, c0', hvv, hA⟩ := h0.pos (by omega)
      rw [hv0] at hvv
      simp only [Value.slice.injEq, true_and] at hvv
      obtain ⟨rfl, rfl⟩ := hvv
      have hcell : Atom.cell b (o + c) (vi xs[c]) ∈ A := hA c xs[c] (by simp)
      have hup : R.up c = xs[c] := by simp [Rep.up, hsup, hlt]
      have hst := pl_step hfine.wf (c := c) s (by rw [hsup]; omega)
      rw [hup] at hst
      have hneg : xs[c] < 0 → pl R xs[c] s = none := fun h => by simp only [pl]; rw [if_neg (fun hh => by omega)]
      refine GO ?_
      refine st_call (lookup_full t R (l.length + 2 * c) c s hfine (by omega) (by omega)) (by rfl) Spl.tail1 (fun v Post hv => ?_)
      obtain ⟨g2, f2, b2⟩ := look_abs R (l.length + 2 * c) hfine c s
      obtain ⟨rfl, rfl⟩ := hv
      refine VO.imp Imp.back1 ?_
      rw [g2, ← pl_abs]
      generalize (lookR R c s).2 = R2 at f2 b2 ⊢
      have s2 : R2.sup = xs := by have := congrArg Abs.sup b2; rw [askA_sup] at this; exact this.trans hsup
      have d2 : ∀ c', R2.dic c' = R.dic c' := fun c' => by
        rw [abs_dic, abs_dic, b2]; unfold askA; split <;> rfl
      have hown : ownR R2 c s = mget s (R.dic c) := by
        simp only [ownR, s2, d2]; rw [if_pos (by omega)]
      simp only [okM]
      refine GO ?_
      refine st_call (own_full t R2 c s f2.wf) (by rfl) Spl.tail1 (fun v Post hv => ?_)
      obtain ⟨rfl, rfl⟩ := hv
      refine VO.imp Imp.back1 ?_
      rw [hown]
      cases hm : mget s (R.dic c) with
      | some m =>
        rw [hm] at hst
        simp only at hst
        rw [hst]
        simp only [okM, Option.getD_some, Option.isSome_some]
        refine GO ?_
        simp only [eq_self, decide_true, Bool.not_true]
        refine GO ?_
        refine ⟨(c + 1, R2), ⟨by simp only; omega, f2.more (by simp only; omega), s2⟩, by simp only; omega, by (repeat (first | exact Sub.nil | (apply Sub.cons; rfl))), Imp.refl _⟩
      | none =>
        rw [hm] at hst
        simp only at hst
        rw [hst]
        simp only [okM, Option.getD_none, Option.isSome_none]
        refine GO ?_
        by_cases hn0 : xs[c] < 0
        · rw [hneg hn0]
          simp only [hn0, decide_true, Option.getD_none, Option.isSome_none]
          refine GO ?_
          refine ⟨(c + 1, R2), ⟨by simp only; omega, f2.more (by simp only; omega), s2⟩, by simp only; omega, by (repeat (first | exact Sub.nil | (apply Sub.cons; rfl))), Imp.refl _⟩
        · simp only [hn0, decide_false]
          refine GO ?_
          refine st_call (lookup_full t R2 (l.length + 2 * c + 1) xs[c] s f2 (by omega) (by omega)) (by rfl) Spl.tail1 (fun v Post hv => ?_)
          obtain ⟨g3, f3, b3⟩ := look_abs R2 (l.length + 2 * c + 1) f2 xs[c] s
          obtain ⟨rfl, rfl⟩ := hv
          refine VO.imp Imp.back1 ?_
          rw [g3, b2, lookA_askA, ← pl_abs]
          generalize (lookR R2 xs[c] s).2 = R3 at f3 b3 ⊢
          have s3 : R3.sup = xs := by have := congrArg Abs.sup b3; rw [askA_sup] at this; exact this.trans s2
          generalize pl R xs[c] s = r
          rcases r with _ | m
          · simp only [okM, Option.getD_none, Option.isSome_none]
            refine GO ?_
            try simp only [eq_self, decide_true, Bool.not_true]
            refine GO ?_
            refine ⟨(c + 1, R3), ⟨by simp only; omega, f3.more (by simp only; omega), s3⟩, by simp only; omega, by (repeat (first | exact Sub.nil | (apply Sub.cons; rfl))), Imp.refl _⟩
          · simp only [okM, Option.getD_some, Option.isSome_some]
            refine GO ?_
            try simp only [eq_self, decide_true, Bool.not_true]
            refine GO ?_
            refine ⟨(c + 1, R3), ⟨by simp only; omega, f3.more (by simp only; omega), s3⟩, by simp only; omega, by (repeat (first | exact Sub.nil | (apply Sub.cons; rfl))), Imp.refl _⟩
    · intro _
      refine GO ?_
      exact endQ_mk (.inr rfl) (.tmp (by rfl) .nil) ⟨rfl, rfl⟩ Imp.head
end Go.Proofs.Ytffmipimgodfdaa

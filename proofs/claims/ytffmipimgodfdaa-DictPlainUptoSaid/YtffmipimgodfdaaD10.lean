/-
  The statement of plain lookups: what it does.
-/
import Derived.Test.YtffmipimgodfdaaD9
import Derived.Test.YtffmipimgodfdaaE4
import Derived.Test.YtffmipimgodfdaaDB
namespace Go.Proofs.Ytffmipimgodfdaa
open Go Go.V
set_option maxHeartbeats 1600000
set_option maxRecDepth 100000
set_option linter.unusedSimpArgs false
set_option linter.unusedVariables false
theorem dictPlain_spec (A : List Atom) (v0 v1 : Value) (xs : List Int) (l : List ActR) (h0 : RdInts A v0 xs) (h1 : RdActs A v1 l) (hn : xs.length ≤ 1048576) (hl : l.length ≤ 1048576) :
    Fun Try.prog 4 [v0, v1] [A] (fun v Post => v = .bool true ∧ Post = [A]) := by
  obtain ⟨a0, c0, hv0⟩ := h0.form
  obtain ⟨a1, c1, hv1⟩ := h1.form
  refine Fun.intro low4 (by simp [F4]) ?_
  refine GO ?_
  refine st_call works_spec (by rfl) (R := [A]) (by simp [V.Spl]) (fun v Post hv => ?_)
  obtain ⟨rfl, rfl⟩ := hv
  rw [hv0, hv1]
  simp only [List.nil_append]
  refine GO ?_
  simp only [show ¬ ((33554431 : Int) < xs.length) from by omega, decide_false]
  refine GO ?_
  refine st_call (new_spec A _ xs (hv0 ▸ h0) hn) (by rfl) (R := []) (by simp [V.Spl]) (fun v Post hv => ?_)
  rw [List.append_nil]
  rcases hv with hv | hv
  rotate_left
  · obtain ⟨_, rfl, rfl⟩ := hv
    refine GO ?_
    exact endQ_mk (.inr rfl) (.tmp (by rfl) .nil) ⟨rfl, rfl⟩ (Imp.refl _)
  obtain ⟨_, t, R0, hf, rfl, rfl⟩ := hv
  obtain ⟨f0, b0⟩ := hf.fine
  refine GO ?_
  refine VC.loop (α := Nat × Rep) (Γf := fun y => [(0, .slice a0 xs.length c0), (1, .slice a1 l.length c1), (5, .bool true), (6, ptr0 t), (8, vi y.1)]) (Hf := fun y => A :: Full t y.2)
    (I := fun y => y.1 ≤ l.length ∧ Fine y.2 (3 * y.1) ∧ y.2.sup = xs) (μ := fun y => l.length - y.1) (0, R0) ⟨by simp, f0, hf.sup⟩ (by (repeat (first | exact Sub.nil | (apply Sub.cons; rfl)))) (Imp.refl _) ?_
  rintro ⟨i, R⟩ ⟨hi, hfine, hsup⟩
  simp only at hi hfine hsup
  refine GO ?_
  (first | (apply VC.seq_cond; rfl) | (apply VC.cond; rfl))
  · intro hlt
    have hlt : i < l.length := by simpa using hlt
    obtain ⟨b, o, c1', hvv, hA⟩ := h1.pos (by omega)
    rw [hv1] at hvv
    simp only [Value.slice.injEq, true_and] at hvv
    obtain ⟨rfl, rfl⟩ := hvv
    have hx := hA i l[i] (by simp)
    generalize l[i] = x at hx
    have hc1 : Atom.cell b (o + (i * 5 + 1)) (vi x.cls) ∈ A := hx _ (mem_cellsAt.2 ⟨1, _, rfl, by rw [Nat.add_assoc]⟩)
    have hc2 : Atom.cell b (o + (i * 5 + 2)) (.string x.sel) ∈ A := hx _ (mem_cellsAt.2 ⟨2, _, rfl, by rw [Nat.add_assoc]⟩)
    refine GO ?_
    by_cases hbig : 1048576 < x.sel.size
    · simp only [show ((1048576 : Int) < x.sel.size) from by omega, decide_true]
      refine GO ?_
      exact endQ_mk (.inr rfl) (.tmp (by rfl) .nil) ⟨rfl, rfl⟩ Imp.head
    simp only [show ¬ ((1048576 : Int) < x.sel.size) from by omega, decide_false]
    refine GO ?_
    refine st_loadA (us := actEnc x) (by rfl) (fun a ha => by simp only [List.flatten_cons, List.mem_append]; exact .inl (hx a ha)) (by rfl) ?_
    refine st_call (call_spec t R (3 * i) x.kind x.cls x.sel x.method x.site hfine (by omega) (by omega)) (by rfl) Spl.tail1 (fun v Post hv => ?_)
    obtain ⟨rfl, R1, f1, b1, rfl⟩ := hv
    refine VO.imp Imp.back1 ?_
    refine GO ?_
    have s1 : R1.sup = xs := by have := congrArg Abs.sup b1; rw [callA_sup] at this; exact this.trans hsup
    refine st_call (plain_spec A t R1 _ x.cls x.sel f1.wf (by rw [s1]; exact hv0 ▸ h0)) (by rfl) (R := []) (by simp [V.Spl]) (fun v Post hv => ?_)
    obtain ⟨rfl, rfl⟩ := hv
    rw [List.append_nil]
    simp only [okM]
    refine GO ?_
    refine st_call (lookup_full t R1 (3 * i + 1) x.cls x.sel f1 (by omega) (by omega)) (by rfl) Spl.tail1 (fun v Post hv => ?_)
    obtain ⟨g2, f2, b2⟩ := look_abs R1 (3 * i + 1) f1 x.cls x.sel
    obtain ⟨rfl, rfl⟩ := hv
    refine VO.imp Imp.back1 ?_
    rw [g2, ← pl_abs]
    generalize (lookR R1 x.cls x.sel).2 = R2 at f2 b2 ⊢
    have s2 : R2.sup = xs := by have := congrArg Abs.sup b2; rw [askA_sup] at this; exact this.trans s1
    simp only [okM]
    refine GO ?_
    have hat : 0 ≤ (i : Int).tmod 7 ∧ (i : Int).tmod 7 < 65536 := by rw [Int.tmod_eq_emod_of_nonneg (by omega)]; omega
    generalize (i : Int).tmod 7 = at_ at hat ⊢
    refine st_call (send_spec t R2 at_ x.cls x.sel f2.wf (3 * i + 2) (by omega) f2.tel (by omega)) (by rfl) Spl.tail1 (fun v Post hv => ?_)
    obtain ⟨rfl, R3, f3, b3, rfl⟩ := send_abs f2 hv
    have s3 : R3.sup = xs := by have := congrArg Abs.sup b3; rw [sendA_sup] at this; exact this.trans s2
    refine VO.imp Imp.back1 ?_
    have hE : sendE R2.abs at_ x.cls = if 0 ≤ x.cls ∧ x.cls < xs.length then 0 else 220 := by
      unfold sendE
      rw [if_pos hat]
      have : R2.abs.ok x.cls ↔ 0 ≤ x.cls ∧ x.cls < xs.length := by rw [← s2]; exact Iff.rfl
      by_cases h : 0 ≤ x.cls ∧ x.cls < xs.length
      · rw [if_pos (this.2 h), if_pos h]
      · rw [if_neg (fun hh => h (this.1 hh)), if_neg h]
    have hL : lookA R2.abs x.cls x.sel = pl R1 x.cls x.sel := by rw [b2, lookA_askA, ← pl_abs]
    rw [hE, hL]
    by_cases hok : 0 ≤ x.cls ∧ x.cls < xs.length
    · rw [if_pos hok, if_pos rfl]
      simp only [okE]
      generalize pl R1 x.cls x.sel = r
      rcases r with _ | m
      · simp only [Option.getD_none, Option.isSome_none]
        refine GO ?_
        simp only [hok.1, hok.2, eq_self, decide_true, Bool.not_true]
        refine GO ?_
        simp only [hok.1, hok.2, eq_self, decide_true, Bool.not_true]
        refine GO ?_
        refine ⟨(i + 1, R3), ⟨by simp only; omega, f3.more (by simp only; omega), s3⟩, by simp only; omega, by (repeat (first | exact Sub.nil | (apply Sub.cons; rfl))), Imp.refl _⟩
      · simp only [Option.getD_some, Option.isSome_some]
        refine GO ?_
        simp only [hok.1, hok.2, eq_self, decide_true, Bool.not_true]
        refine GO ?_
        simp only [hok.1, hok.2, eq_self, decide_true, Bool.not_true]
        refine GO ?_
        simp only [eq_self, decide_true, Bool.not_true]
        refine GO ?_
        refine ⟨(i + 1, R3), ⟨by simp only; omega, f3.more (by simp only; omega), s3⟩, by simp only; omega, by (repeat (first | exact Sub.nil | (apply Sub.cons; rfl))), Imp.refl _⟩
    · have hnone : pl R1 x.cls x.sel = none := by simp only [pl, s1, if_neg hok]
      rw [if_neg hok, hnone]
      simp only [okE, Option.getD_none, Option.isSome_none, show ¬ ((220 : Int) = 0) from by decide, if_false]
      by_cases hp : 0 ≤ x.cls
      · refine GO ?_
        simp only [hp, decide_true]
        refine GO ?_
        simp only [show ¬ x.cls < xs.length from fun hh => hok ⟨hp, hh⟩, decide_false]
        refine GO ?_
        refine ⟨(i + 1, R3), ⟨by simp only; omega, f3.more (by simp only; omega), s3⟩, by simp only; omega, by (repeat (first | exact Sub.nil | (apply Sub.cons; rfl))), Imp.refl _⟩
      · refine GO ?_
        simp only [hp, decide_false]
        refine GO ?_
        refine ⟨(i + 1, R3), ⟨by simp only; omega, f3.more (by simp only; omega), s3⟩, by simp only; omega, by (repeat (first | exact Sub.nil | (apply Sub.cons; rfl))), Imp.refl _⟩
  · intro _
    refine GO ?_
    refine st_call (counts_full t R) (by rfl) Spl.tail1 (fun v Post hv => ?_)
    obtain ⟨rfl, rfl⟩ := hv
    refine VO.imp Imp.back1 ?_
    have hsum := hfine.sum
    have hlo := hfine.lo
    have htel := hfine.tel
    obtain ⟨t1, t2, t3, t4, t5⟩ := htel
    simp only [telEnc]
    refine GO ?_
    refine st_alloc (fun q => ?_)
    refine GO ?_
    have e1 : ((R.tel.asked : Int) = R.tel.inl + R.tel.glob + R.tel.walked) := by omega
    simp only [decide_eq_true e1]
    refine GO ?_
    have e2 : ((R.tel.walked : Int) ≤ R.tel.steps) := by omega
    simp only [decide_eq_true e2]
    refine GO ?_
    exact endQ_mk (.inr rfl) (.tmp (by rfl) .nil) ⟨rfl, rfl⟩ (Imp.cut (Imp.tail1) Imp.head)
end Go.Proofs.Ytffmipimgodfdaa

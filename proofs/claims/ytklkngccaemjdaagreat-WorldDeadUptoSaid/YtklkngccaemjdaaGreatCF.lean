/-
  The statement: a world that has crashed does nothing and tells nothing more.
-/
import Derived.Test.YtklkngccaemjdaaGreatZA
import Derived.Test.YtklkngccaemjdaaGreatZH
set_option linter.unusedSimpArgs false
set_option linter.unusedVariables false
namespace Go.Proofs.YtklkngccaemjdaaGreat
open Go Go.V Go.ChangeShapes Go.WideShapes Go.Deep
set_option maxRecDepth 100000
section
noncomputable def fn3 : Func := (Tryz.prog.funcs[3]?).getD default
theorem func3 : Tryz.prog.funcs[3]? = some fn3 := by kernel_rfl
theorem params3 : fn3.params = #[22, 23, 24, 3] := by kernel_rfl
theorem result3 : fn3.resultTypes = #[4] := by kernel_rfl

theorem dead_contract (H : Type) (enc : TypeId × Value → H) (W : World) (base : Nat) (args : Array Value) (ds gs : List (DataW H)) (before : List MemPlace)
    (hval : ∀ (j : Nat) t v, fn3.params[j]? = some t → args[j]? = some v → Value.okWide Tryz.prog W .any base t v)
    (hW : DataW.Whole enc Tryz.prog fn3.params.toList Rows.worldDeadSpec.vars false W args.toList ds gs before) (hk : Rows.uptoSmall H (ds ++ gs) = true) :
    Calls Tryz.prog 3 args W fun e W' => ∃ v, e = .returned v ∧ Rows.worldDeadSpec.post enc Tryz.prog fn3 false true false false W args v W' := by
  have hW' := hW
  obtain ⟨p, q, hA, hV, rfl, hfz, _⟩ := hW
  rw [params3] at hA hval
  obtain ⟨v0, vs0, d0, ds0, p0, q0, hargs, rfl, rfl, h0, r0⟩ := trodAll_cons hA
  obtain ⟨v1, vs1, d1, ds1, p1, q1, rfl, rfl, rfl, h1, r1⟩ := trodAll_cons r0
  obtain ⟨v2, vs2, d2, ds2, p2, q2, rfl, rfl, rfl, h2, r2⟩ := trodAll_cons r1
  obtain ⟨v3, vs3, d3, ds3, p3, q3, rfl, rfl, rfl, h3, r3⟩ := trodAll_cons r2
  obtain ⟨rfl, rfl, rfl⟩ := trodAll_nil r3
  obtain rfl : args = #[v0, v1, v2, v3] := by cases args; simp_all
  obtain ⟨rfl, rfl⟩ := trodVars_none hV
  have hb := of_decide_eq_true hk
  simp only [List.append_nil, Rows.uptoBulkAll, Nat.add_zero] at hb
  refine glue (args := [v0, v1, v2, v3]) rfl result3 u4 rfl closedP (by rw [params3]; simp) hW' (fun A hA' => ?_)
  obtain ⟨cs, hc, hc1⟩ := rdChoices (hval 0 22 v0 rfl rfl) h0 (fun b o h => hfz b o (by simp [h])) hA'
  obtain ⟨fs, hf, hf1, hf2⟩ := rdFiles (hval 1 23 v1 rfl rfl) h1 (fun b o h => hfz b o (by simp [h])) hA'
  obtain ⟨l, hl, hl1, hl2⟩ := rdActs (hval 2 24 v2 rfl rfl) h2 (fun b o h => hfz b o (by simp [h])) hA'
  obtain ⟨n, rfl, hn1, hn2⟩ := i64_form (hval 3 3 v3 rfl rfl) h3
  exact worldDead_spec A v1 v2 v0 cs fs l n hn1 hn2 hc hf hl (by omega) (by omega) (fun p hp => ⟨by have := (hf2 p hp).1; omega, by have := (hf2 p hp).2; omega⟩) (by omega) (fun p hp => ⟨by have := (hl2 p hp).1; omega, by have := (hl2 p hp).2; omega⟩)

set_option maxRecDepth 100000 in
theorem dead_lifted (os : Os) (started : os.Started) (H : Type) (enc : TypeId × Value → H) (F : Stop.Interp) :
    ReturnsInHanded {} Tryz.checked os 3 .any ((Rows.OpenSpec.upto Rows.worldDeadSpec).pre6 enc Tryz.prog fn3 Rows.worldDeadUptoRow.domain false) (((Rows.OpenSpec.upto Rows.worldDeadSpec).at F).post enc Tryz.prog fn3 false true false false) := by
  refine returnsInHanded_of_cond (C := Tryz.checked) (s := Rows.OpenSpec.upto Rows.worldDeadSpec) (k := Rows.uptoSmall) rfl own started (by kernel_rfl) func3
    (OpenSpec.witness (enc := enc) (C := Tryz.checked) (s := Rows.OpenSpec.upto Rows.worldDeadSpec) (k := Rows.uptoSmall) rfl false ⟨#[], #[.slice none 0 0, .slice none 0 0, .slice none 0 0, .int .i64 0], []⟩ 8 (by kernel_rfl) (by kernel_rfl) (by kernel_rfl)
      (x := ([.nil, .nil, .nil, .lit (.int .i64 0)], [], [])) (by kernel_rfl) rfl (by kernel_rfl)) ?_
  intro W base args ds gs before hval hW _ hk _
  exact dead_contract H enc W base args ds gs before hval hW hk

theorem worldDead_over : Rows.worldDeadUptoRow.holds Tryz.pinned (Rows.OpenSpec.upto Rows.worldDeadSpec) :=
  OpenClaim.holds_of_cond 3 fn3 rfl rfl rfl rfl rfl rfl rfl ⟨rfl, rfl, rfl, rfl, rfl⟩ rfl rfl rfl rfl rfl (by kernel_rfl) func3 (by kernel_rfl)
    (of_decide_eq_true (by kernel_rfl)) (by unfold Func.isWrapper; first | (rw [if_pos (by decide +kernel)]; kernel_rfl) | (rw [if_neg (by decide +kernel)]; exact ⟨rfl, rfl⟩))
    (fun os started H enc _ F => dead_lifted os started H enc F)

theorem worldDead_proved : Rows.WorldDeadUptoSaid := worldDead_over
end
end Go.Proofs.YtklkngccaemjdaaGreat

/-
  The statement: old or new.
-/
import Derived.Test.YtklkngccaemjdaaYE
import Derived.Test.YtklkngccaemjdaaWH
set_option linter.unusedSimpArgs false
set_option linter.unusedVariables false
namespace Go.Proofs.Ytklkngccaemjdaa
open Go Go.V Go.ChangeShapes Go.WideShapes Go.Deep
set_option maxRecDepth 100000
section
noncomputable def fn5 : Func := (Try.prog.funcs[5]?).getD default
theorem func5 : Try.prog.funcs[5]? = some fn5 := by kernel_rfl
theorem params5 : fn5.params = #[48, 39, 9, 9, 40] := by kernel_rfl
theorem result5 : fn5.resultTypes = #[4] := by kernel_rfl

theorem whole_contract (H : Type) (enc : TypeId × Value → H) (W : World) (base : Nat) (args : Array Value) (ds gs : List (DataW H)) (before : List MemPlace)
    (hval : ∀ (j : Nat) t v, fn5.params[j]? = some t → args[j]? = some v → Value.okWide Try.prog W .any base t v)
    (hW : DataW.Whole enc Try.prog fn5.params.toList Rows.saveWholeSpec.vars false W args.toList ds gs before) (hk : Rows.uptoSmall H (ds ++ gs) = true) :
    Calls Try.prog 5 args W fun e W' => ∃ v, e = .returned v ∧ Rows.saveWholeSpec.post enc Try.prog fn5 false true false false W args v W' := by
  have hW' := hW
  obtain ⟨p, q, hA, hV, rfl, hfz, _⟩ := hW
  rw [params5] at hA hval
  obtain ⟨v0, vs0, d0, ds0, p0, q0, hargs, rfl, rfl, h0, r0⟩ := trodAll_cons hA
  obtain ⟨v1, vs1, d1, ds1, p1, q1, rfl, rfl, rfl, h1, r1⟩ := trodAll_cons r0
  obtain ⟨v2, vs2, d2, ds2, p2, q2, rfl, rfl, rfl, h2, r2⟩ := trodAll_cons r1
  obtain ⟨v3, vs3, d3, ds3, p3, q3, rfl, rfl, rfl, h3, r3⟩ := trodAll_cons r2
  obtain ⟨v4, vs4, d4, ds4, p4, q4, rfl, rfl, rfl, h4, r4⟩ := trodAll_cons r3
  obtain ⟨rfl, rfl, rfl⟩ := trodAll_nil r4
  obtain rfl : args = #[v0, v1, v2, v3, v4] := by cases args; simp_all
  obtain ⟨rfl, rfl⟩ := trodVars_none hV
  have hb := of_decide_eq_true hk
  simp only [List.append_nil, Rows.uptoBulkAll, Nat.add_zero] at hb
  refine glue (args := [v0, v1, v2, v3, v4]) rfl result5 u4 rfl closedP (by rw [params5]; simp) hW' (fun A hA' => ?_)
  obtain ⟨cs, hc, hc1⟩ := rdChoices (hval 0 48 v0 rfl rfl) h0 (fun b o h => hfz b o (by simp [h])) hA'
  obtain ⟨fs, hf, hf1, hf2⟩ := rdFiles (hval 1 39 v1 rfl rfl) h1 (fun b o h => hfz b o (by simp [h])) hA'
  obtain ⟨name, rfl, hn2⟩ := str_form (hval 2 9 v2 rfl rfl) h2
  obtain ⟨text, rfl, hn3⟩ := str_form (hval 3 9 v3 rfl rfl) h3
  obtain ⟨which, rfl, hw, _⟩ := u64_form (hval 4 40 v4 rfl rfl) h4
  exact saveWhole_spec A v0 v1 cs fs name text which hc hf (by omega) (by omega) (fun p hp => ⟨by have := (hf2 p hp).1; omega, by have := (hf2 p hp).2; omega⟩) (by omega) (by omega) hw

set_option maxRecDepth 100000 in
theorem whole_lifted (os : Os) (started : os.Started) (H : Type) (enc : TypeId × Value → H) (F : Stop.Interp) :
    ReturnsInHanded {} Try.checked os 5 .any ((Rows.OpenSpec.upto Rows.saveWholeSpec).pre6 enc Try.prog fn5 Rows.saveWholeUptoRow.domain false) (((Rows.OpenSpec.upto Rows.saveWholeSpec).at F).post enc Try.prog fn5 false true false false) := by
  refine returnsInHanded_of_cond (C := Try.checked) (s := Rows.OpenSpec.upto Rows.saveWholeSpec) (k := Rows.uptoSmall) rfl own started (by kernel_rfl) func5
    (OpenSpec.witness (enc := enc) (C := Try.checked) (s := Rows.OpenSpec.upto Rows.saveWholeSpec) (k := Rows.uptoSmall) rfl false ⟨#[], #[.slice none 0 0, .slice none 0 0, .string ⟨#[]⟩, .string ⟨#[]⟩, .int .u64 0], []⟩ 8 (by kernel_rfl) (by kernel_rfl) (by kernel_rfl)
      (x := ([.nil, .nil, .lit (.string []), .lit (.string []), .lit (.int .u64 0)], [], [])) (by kernel_rfl) rfl (by kernel_rfl)) ?_
  intro W base args ds gs before hval hW _ hk _
  exact whole_contract H enc W base args ds gs before hval hW hk

theorem saveWhole_over : Rows.saveWholeUptoRow.holds Try.pinned (Rows.OpenSpec.upto Rows.saveWholeSpec) :=
  OpenClaim.holds_of_cond 5 fn5 rfl rfl rfl rfl rfl rfl rfl ⟨rfl, rfl, rfl, rfl, rfl⟩ rfl rfl rfl rfl rfl (by kernel_rfl) func5 (by kernel_rfl)
    (of_decide_eq_true (by kernel_rfl)) (by unfold Func.isWrapper; first | (rw [if_pos (by decide +kernel)]; kernel_rfl) | (rw [if_neg (by decide +kernel)]; exact ⟨rfl, rfl⟩))
    (fun os started H enc _ F => whole_lifted os started H enc F)

theorem saveWhole_proved : Rows.SaveWholeUptoSaid := saveWhole_over
end
end Go.Proofs.Ytklkngccaemjdaa

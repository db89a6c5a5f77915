/-
  The statement: what was saved last of each file.
-/
import Derived.Test.YtklkngccaemjdaaYJ
import Derived.Test.YtklkngccaemjdaaWH
set_option linter.unusedSimpArgs false
set_option linter.unusedVariables false
namespace Go.Proofs.Ytklkngccaemjdaa
open Go Go.V Go.ChangeShapes Go.WideShapes Go.Deep
set_option maxRecDepth 100000
section
noncomputable def fn6 : Func := (Try.prog.funcs[6]?).getD default
theorem func6 : Try.prog.funcs[6]? = some fn6 := by kernel_rfl
theorem params6 : fn6.params = #[39, 23, 23, 40] := by kernel_rfl
theorem result6 : fn6.resultTypes = #[4] := by kernel_rfl

theorem twice_contract (H : Type) (enc : TypeId × Value → H) (W : World) (base : Nat) (args : Array Value) (ds gs : List (DataW H)) (before : List MemPlace)
    (hval : ∀ (j : Nat) t v, fn6.params[j]? = some t → args[j]? = some v → Value.okWide Try.prog W .any base t v)
    (hW : DataW.Whole enc Try.prog fn6.params.toList Rows.saveTwiceSpec.vars false W args.toList ds gs before) (hk : Rows.uptoSmall H (ds ++ gs) = true) :
    Calls Try.prog 6 args W fun e W' => ∃ v, e = .returned v ∧ Rows.saveTwiceSpec.post enc Try.prog fn6 false true false false W args v W' := by
  have hW' := hW
  obtain ⟨p, q, hA, hV, rfl, hfz, _⟩ := hW
  rw [params6] at hA hval
  obtain ⟨v0, vs0, d0, ds0, p0, q0, hargs, rfl, rfl, h0, r0⟩ := trodAll_cons hA
  obtain ⟨v1, vs1, d1, ds1, p1, q1, rfl, rfl, rfl, h1, r1⟩ := trodAll_cons r0
  obtain ⟨v2, vs2, d2, ds2, p2, q2, rfl, rfl, rfl, h2, r2⟩ := trodAll_cons r1
  obtain ⟨v3, vs3, d3, ds3, p3, q3, rfl, rfl, rfl, h3, r3⟩ := trodAll_cons r2
  obtain ⟨rfl, rfl, rfl⟩ := trodAll_nil r3
  obtain rfl : args = #[v0, v1, v2, v3] := by cases args; simp_all
  obtain ⟨rfl, rfl⟩ := trodVars_none hV
  have hb := of_decide_eq_true hk
  simp only [List.append_nil, Rows.uptoBulkAll, Nat.add_zero] at hb
  refine glue (args := [v0, v1, v2, v3]) rfl result6 u4 rfl closedP (by rw [params6]; simp) hW' (fun A hA' => ?_)
  obtain ⟨fs, hf, hf1, hf2⟩ := rdFiles (hval 0 39 v0 rfl rfl) h0 (fun b o h => hfz b o (by simp [h])) hA'
  obtain ⟨names, hn, hn1, hn2⟩ := rdTexts (hval 1 23 v1 rfl rfl) h1 (fun b o h => hfz b o (by simp [h])) hA'
  obtain ⟨texts, ht, ht1, ht2⟩ := rdTexts (hval 2 23 v2 rfl rfl) h2 (fun b o h => hfz b o (by simp [h])) hA'
  obtain ⟨which, rfl, hw, _⟩ := u64_form (hval 3 40 v3 rfl rfl) h3
  exact saveTwice_spec A v0 v1 v2 fs names texts which hf hn ht (by omega) (fun p hp => ⟨by have := (hf2 p hp).1; omega, by have := (hf2 p hp).2; omega⟩) (by omega) (fun n hn => by have := hn2 n hn; omega) (by omega) (fun n hn => by have := ht2 n hn; omega) hw

set_option maxRecDepth 100000 in
theorem twice_lifted (os : Os) (started : os.Started) (H : Type) (enc : TypeId × Value → H) (F : Stop.Interp) :
    ReturnsInHanded {} Try.checked os 6 .any ((Rows.OpenSpec.upto Rows.saveTwiceSpec).pre6 enc Try.prog fn6 Rows.saveTwiceUptoRow.domain false) (((Rows.OpenSpec.upto Rows.saveTwiceSpec).at F).post enc Try.prog fn6 false true false false) := by
  refine returnsInHanded_of_cond (C := Try.checked) (s := Rows.OpenSpec.upto Rows.saveTwiceSpec) (k := Rows.uptoSmall) rfl own started (by kernel_rfl) func6
    (OpenSpec.witness (enc := enc) (C := Try.checked) (s := Rows.OpenSpec.upto Rows.saveTwiceSpec) (k := Rows.uptoSmall) rfl false ⟨#[], #[.slice none 0 0, .slice none 0 0, .slice none 0 0, .int .u64 0], []⟩ 8 (by kernel_rfl) (by kernel_rfl) (by kernel_rfl)
      (x := ([.nil, .nil, .nil, .lit (.int .u64 0)], [], [])) (by kernel_rfl) rfl (by kernel_rfl)) ?_
  intro W base args ds gs before hval hW _ hk _
  exact twice_contract H enc W base args ds gs before hval hW hk

theorem saveTwice_over : Rows.saveTwiceUptoRow.holds Try.pinned (Rows.OpenSpec.upto Rows.saveTwiceSpec) :=
  OpenClaim.holds_of_cond 6 fn6 rfl rfl rfl rfl rfl rfl rfl ⟨rfl, rfl, rfl, rfl, rfl⟩ rfl rfl rfl rfl rfl (by kernel_rfl) func6 (by kernel_rfl)
    (of_decide_eq_true (by kernel_rfl)) (by unfold Func.isWrapper; first | (rw [if_pos (by decide +kernel)]; kernel_rfl) | (rw [if_neg (by decide +kernel)]; exact ⟨rfl, rfl⟩))
    (fun os started H enc _ F => twice_lifted os started H enc F)

theorem saveTwice_proved : Rows.SaveTwiceUptoSaid := saveTwice_over
end
end Go.Proofs.Ytklkngccaemjdaa

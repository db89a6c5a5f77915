/-
  The statement: what was synced stays.
-/
import Derived.Test.YtklkngccaemjdaaXT
import Derived.Test.YtklkngccaemjdaaWH
set_option linter.unusedSimpArgs false
set_option linter.unusedVariables false
namespace Go.Proofs.Ytklkngccaemjdaa
open Go Go.V Go.ChangeShapes Go.WideShapes Go.Deep
set_option maxRecDepth 100000
section
noncomputable def fn4 : Func := (Try.prog.funcs[4]?).getD default
theorem func4 : Try.prog.funcs[4]? = some fn4 := by kernel_rfl
theorem params4 : fn4.params = #[39, 9, 9, 9, 40] := by kernel_rfl
theorem result4 : fn4.resultTypes = #[4] := by kernel_rfl

theorem synced_contract (H : Type) (enc : TypeId × Value → H) (W : World) (base : Nat) (args : Array Value) (ds gs : List (DataW H)) (before : List MemPlace)
    (hval : ∀ (j : Nat) t v, fn4.params[j]? = some t → args[j]? = some v → Value.okWide Try.prog W .any base t v)
    (hW : DataW.Whole enc Try.prog fn4.params.toList Rows.worldSyncedSpec.vars false W args.toList ds gs before) (hk : Rows.uptoSmall H (ds ++ gs) = true) :
    Calls Try.prog 4 args W fun e W' => ∃ v, e = .returned v ∧ Rows.worldSyncedSpec.post enc Try.prog fn4 false true false false W args v W' := by
  have hW' := hW
  obtain ⟨p, q, hA, hV, rfl, hfz, _⟩ := hW
  rw [params4] at hA hval
  obtain ⟨v0, vs0, d0, ds0, p0, q0, hargs, rfl, rfl, h0, r0⟩ := trodAll_cons hA
  obtain ⟨v1, vs1, d1, ds1, p1, q1, rfl, rfl, rfl, h1, r1⟩ := trodAll_cons r0
  obtain ⟨v2, vs2, d2, ds2, p2, q2, rfl, rfl, rfl, h2, r2⟩ := trodAll_cons r1
  obtain ⟨v3, vs3, d3, ds3, p3, q3, rfl, rfl, rfl, h3, r3⟩ := trodAll_cons r2
  obtain ⟨v4, vs4, d4, ds4, p4, q4, rfl, rfl, rfl, h4, r4⟩ := trodAll_cons r3
  obtain ⟨rfl, rfl, rfl⟩ := trodAll_nil r4
  obtain rfl : args = #[v0, v1, v2, v3, v4] := by cases args; simp_all
  obtain ⟨rfl, rfl⟩ := trodVars_none hV
  have hb := of_decide_eq_true hk
  simp only [List.append_nil, Rows.uptoBulkAll, Nat.add_zero] at hb
  refine glue (args := [v0, v1, v2, v3, v4]) rfl result4 u4 rfl closedP (by rw [params4]; simp) hW' (fun A hA' => ?_)
  obtain ⟨fs, hf, hf1, hf2⟩ := rdFiles (hval 0 39 v0 rfl rfl) h0 (fun b o h => hfz b o (by simp [h])) hA'
  obtain ⟨from_, rfl, hn1⟩ := str_form (hval 1 9 v1 rfl rfl) h1
  obtain ⟨to, rfl, hn2⟩ := str_form (hval 2 9 v2 rfl rfl) h2
  obtain ⟨text, rfl, hn3⟩ := str_form (hval 3 9 v3 rfl rfl) h3
  obtain ⟨which, rfl, hw, _⟩ := u64_form (hval 4 40 v4 rfl rfl) h4
  exact worldSynced_spec A v0 fs from_ to text which hf (by omega) (fun p hp => ⟨by have := (hf2 p hp).1; omega, by have := (hf2 p hp).2; omega⟩) (by omega) (by omega) (by omega) hw

set_option maxRecDepth 100000 in
theorem synced_lifted (os : Os) (started : os.Started) (H : Type) (enc : TypeId × Value → H) (F : Stop.Interp) :
    ReturnsInHanded {} Try.checked os 4 .any ((Rows.OpenSpec.upto Rows.worldSyncedSpec).pre6 enc Try.prog fn4 Rows.worldSyncedUptoRow.domain false) (((Rows.OpenSpec.upto Rows.worldSyncedSpec).at F).post enc Try.prog fn4 false true false false) := by
  refine returnsInHanded_of_cond (C := Try.checked) (s := Rows.OpenSpec.upto Rows.worldSyncedSpec) (k := Rows.uptoSmall) rfl own started (by kernel_rfl) func4
    (OpenSpec.witness (enc := enc) (C := Try.checked) (s := Rows.OpenSpec.upto Rows.worldSyncedSpec) (k := Rows.uptoSmall) rfl false ⟨#[], #[.slice none 0 0, .string ⟨#[]⟩, .string ⟨#[]⟩, .string ⟨#[]⟩, .int .u64 0], []⟩ 8 (by kernel_rfl) (by kernel_rfl) (by kernel_rfl)
      (x := ([.nil, .lit (.string []), .lit (.string []), .lit (.string []), .lit (.int .u64 0)], [], [])) (by kernel_rfl) rfl (by kernel_rfl)) ?_
  intro W base args ds gs before hval hW _ hk _
  exact synced_contract H enc W base args ds gs before hval hW hk

theorem worldSynced_over : Rows.worldSyncedUptoRow.holds Try.pinned (Rows.OpenSpec.upto Rows.worldSyncedSpec) :=
  OpenClaim.holds_of_cond 4 fn4 rfl rfl rfl rfl rfl rfl rfl ⟨rfl, rfl, rfl, rfl, rfl⟩ rfl rfl rfl rfl rfl (by kernel_rfl) func4 (by kernel_rfl)
    (of_decide_eq_true (by kernel_rfl)) (by unfold Func.isWrapper; first | (rw [if_pos (by decide +kernel)]; kernel_rfl) | (rw [if_neg (by decide +kernel)]; exact ⟨rfl, rfl⟩))
    (fun os started H enc _ F => synced_lifted os started H enc F)

theorem worldSynced_proved : Rows.WorldSyncedUptoSaid := worldSynced_over
end
end Go.Proofs.Ytklkngccaemjdaa

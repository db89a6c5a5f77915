/-
  The statement: what is written is read back.
-/
import Derived.Test.YtklkngccaemjdaaXS
import Derived.Test.YtklkngccaemjdaaWH
namespace Go.Proofs.Ytklkngccaemjdaa
open Go Go.V Go.ChangeShapes Go.WideShapes Go.Deep
set_option maxRecDepth 100000
section
noncomputable def fn3 : Func := (Try.prog.funcs[3]?).getD default
theorem func3 : Try.prog.funcs[3]? = some fn3 := by kernel_rfl
theorem params3 : fn3.params = #[9, 22, 23] := by kernel_rfl
theorem result3 : fn3.resultTypes = #[4] := by kernel_rfl

theorem reads_contract (H : Type) (enc : TypeId × Value → H) (W : World) (base : Nat) (args : Array Value) (ds gs : List (DataW H)) (before : List MemPlace)
    (hval : ∀ (j : Nat) t v, fn3.params[j]? = some t → args[j]? = some v → Value.okWide Try.prog W .any base t v)
    (hW : DataW.Whole enc Try.prog fn3.params.toList Rows.worldReadsSpec.vars false W args.toList ds gs before) (hk : Rows.uptoSmall H (ds ++ gs) = true) :
    Calls Try.prog 3 args W fun e W' => ∃ v, e = .returned v ∧ Rows.worldReadsSpec.post enc Try.prog fn3 false true false false W args v W' := by
  have hW' := hW
  obtain ⟨p, q, hA, hV, rfl, hfz, _⟩ := hW
  rw [params3] at hA hval
  obtain ⟨v0, vs0, d0, ds0, p0, q0, hargs, rfl, rfl, h0, r0⟩ := trodAll_cons hA
  obtain ⟨v1, vs1, d1, ds1, p1, q1, rfl, rfl, rfl, h1, r1⟩ := trodAll_cons r0
  obtain ⟨v2, vs2, d2, ds2, p2, q2, rfl, rfl, rfl, h2, r2⟩ := trodAll_cons r1
  obtain ⟨rfl, rfl, rfl⟩ := trodAll_nil r2
  obtain rfl : args = #[v0, v1, v2] := by cases args; simp_all
  obtain ⟨rfl, rfl⟩ := trodVars_none hV
  have hb := of_decide_eq_true hk
  simp only [List.append_nil, Rows.uptoBulkAll, Nat.add_zero] at hb
  refine glue (args := [v0, v1, v2]) rfl result3 u4 rfl closedP (by rw [params3]; simp) hW' (fun A hA' => ?_)
  obtain ⟨name, rfl, hn⟩ := str_form (hval 0 9 v0 rfl rfl) h0
  obtain ⟨places, hp, hp1⟩ := rdInts (hval 1 22 v1 rfl rfl) h1 (fun b o h => hfz b o (by simp [h])) hA'
  obtain ⟨pieces, hq, hq1, _⟩ := rdTexts (hval 2 23 v2 rfl rfl) h2 (fun b o h => hfz b o (by simp [h])) hA'
  exact worldReads_spec A name v1 v2 places pieces hp hq (by omega) (by omega) (by omega)

set_option maxRecDepth 100000 in
theorem reads_lifted (os : Os) (started : os.Started) (H : Type) (enc : TypeId × Value → H) (F : Stop.Interp) :
    ReturnsInHanded {} Try.checked os 3 .any ((Rows.OpenSpec.upto Rows.worldReadsSpec).pre6 enc Try.prog fn3 Rows.worldReadsUptoRow.domain false) (((Rows.OpenSpec.upto Rows.worldReadsSpec).at F).post enc Try.prog fn3 false true false false) := by
  refine returnsInHanded_of_cond (C := Try.checked) (s := Rows.OpenSpec.upto Rows.worldReadsSpec) (k := Rows.uptoSmall) rfl own started (by kernel_rfl) func3
    (OpenSpec.witness (enc := enc) (C := Try.checked) (s := Rows.OpenSpec.upto Rows.worldReadsSpec) (k := Rows.uptoSmall) rfl false ⟨#[], #[.string ⟨#[]⟩, .slice none 0 0, .slice none 0 0], []⟩ 8 (by kernel_rfl) (by kernel_rfl) (by kernel_rfl)
      (x := ([.lit (.string []), .nil, .nil], [], [])) (by kernel_rfl) rfl (by kernel_rfl)) ?_
  intro W base args ds gs before hval hW _ hk _
  exact reads_contract H enc W base args ds gs before hval hW hk

theorem worldReads_over : Rows.worldReadsUptoRow.holds Try.pinned (Rows.OpenSpec.upto Rows.worldReadsSpec) :=
  OpenClaim.holds_of_cond 3 fn3 rfl rfl rfl rfl rfl rfl rfl ⟨rfl, rfl, rfl, rfl, rfl⟩ rfl rfl rfl rfl rfl (by kernel_rfl) func3 (by kernel_rfl)
    (of_decide_eq_true (by kernel_rfl)) (by unfold Func.isWrapper; first | (rw [if_pos (by decide +kernel)]; kernel_rfl) | (rw [if_neg (by decide +kernel)]; exact ⟨rfl, rfl⟩))
    (fun os started H enc _ F => reads_lifted os started H enc F)

theorem worldReads_proved : Rows.WorldReadsUptoSaid := worldReads_over
end
end Go.Proofs.Ytklkngccaemjdaa

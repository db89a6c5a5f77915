/-
  The statement on names: the statement in its second form, and its card, for whatever is handed in of the bulk that the form allows.
-/
import Derived.Test.YtehglapljnehgaaGreatDoorS3
set_option linter.unusedSimpArgs false
set_option linter.unusedVariables false
namespace Go.Proofs.YtehglapljnehgaaGreatDoor
open Go Go.V Go.ChangeShapes Go.WideShapes Go.Deep
set_option maxRecDepth 100000
section
noncomputable def fn5 : Func := (Tryz.prog.funcs[5]?).getD default
theorem func5 : Tryz.prog.funcs[5]? = some fn5 := by kernel_rfl
theorem params5 : fn5.params = #[9] := by kernel_rfl
theorem result5 : fn5.resultTypes = #[4] := by kernel_rfl
theorem scanNames_err {W : World} (h : laidMet Tryz.prog Rows.scanNamesUptoRow.laid W) {A : List Atom} (hA : ∀ a : Atom, a.holds W → a ∈ A) : ErA A :=
  err_in (laidMet.tail (laidMet.tail (laidMet.tail (laidMet.tail (laidMet.tail (laidMet.tail (laidMet.tail (laidMet.tail (laidMet.tail (laidMet.tail h)))))))))) ⟨_, _, rfl⟩ hA
theorem scanNames_contract (H : Type) (enc : TypeId × Value → H) (W : World) (base : Nat) (args : Array Value) (ds gs : List (DataW H)) (before : List MemPlace)
    (hval : ∀ (j : Nat) t v, fn5.params[j]? = some t → args[j]? = some v → Value.okWide Tryz.prog W .any base t v)
    (hW : DataW.Whole enc Tryz.prog fn5.params.toList Rows.scanNamesSpec.vars false W args.toList ds gs before) (hk : Rows.uptoSmall H (ds ++ gs) = true) (hL : laidMetH Tryz.prog Rows.scanNamesUptoRow.laid W) :
    Calls Tryz.prog 5 args W fun e W' => ∃ v, e = .returned v ∧ Rows.scanNamesSpec.post enc Tryz.prog fn5 false true false false W args v W' := by
  have hW' := hW
  obtain ⟨p, q, hA, hV, rfl, hfz, _⟩ := hW
  rw [params5] at hA hval
  obtain ⟨v0, vs0, d0, ds0, p0, q0, hargs, rfl, rfl, h0, r0⟩ := trodAll_cons hA
  obtain ⟨rfl, rfl, rfl⟩ := trodAll_nil r0
  obtain rfl : args = #[v0] := by cases args; simp_all
  obtain ⟨rfl, rfl⟩ := trodVars_none hV
  have hb := of_decide_eq_true hk
  simp only [List.append_nil, Rows.uptoBulkAll, Nat.add_zero] at hb
  refine glue (args := [v0]) rfl result5 u4 rfl closedP (by rw [params5]; simp) hW' (fun A hA' => ?_)
  obtain ⟨s0, rfl, hs0⟩ := str_form (hval 0 9 v0 rfl rfl) h0 (by show Rows.uptoBulk d0 ≤ _; omega)
  exact scanNames_spec A (scanNames_err hL hA') s0 hs0
theorem scanNames_met (os : Os) : laidMet Tryz.prog Rows.scanNamesUptoRow.laid ((World.laidAll Tryz.prog os Rows.scanNamesUptoRow.laid).forCall (fun _ _ => 0) ⟨#[], #[.string ⟨#[]⟩], []⟩).memory :=
  laidMet_laidAll _ (by kernel_rfl) (by kernel_rfl)
theorem scanNames_reads (os : Os) {H : Type} (enc : TypeId × Value → H) : ∃ places, DataW.whole enc Tryz.prog ((World.laidAll Tryz.prog os Rows.scanNamesUptoRow.laid).forCall (fun _ _ => 0) ⟨#[], #[.string ⟨#[]⟩], []⟩).memory fn5.params.toList Rows.scanNamesSpec.vars false (#[.string ⟨#[]⟩] : Array Value).toList 8 = some ([.lit (.string [])], [], places) :=
  ⟨[], by kernel_rfl⟩
theorem scanNames_lifted (os : Os) (started : os.Started) (H : Type) (enc : TypeId × Value → H) (F : Stop.Interp) :
    ReturnsInHanded {} Tryz.checked os 5 .any ((Rows.OpenSpec.upto Rows.scanNamesSpec).preRow enc Tryz.prog fn5 Rows.scanNamesUptoRow.domain false Rows.scanNamesUptoRow.laid) (((Rows.OpenSpec.upto Rows.scanNamesSpec).at F).post enc Tryz.prog fn5 false true false false) := by
  obtain ⟨places, hx⟩ := scanNames_reads os enc
  refine returnsInHanded_of_row (C := Tryz.checked) (s := Rows.OpenSpec.upto Rows.scanNamesSpec) own started (by kernel_rfl) func5
    (witZ (enc := enc) (C := Tryz.checked) (World.laidAll Tryz.prog os Rows.scanNamesUptoRow.laid) #[.string ⟨#[]⟩] (World.laidAll_os _ _ _) (World.shaped_of_ZipB (by kernel_rfl) (by kernel_rfl)) (by kernel_rfl)
      (OpenSpec.preRow_of_cond 8 hx (by kernel_rfl) (fun k hk => by cases hk; kernel_rfl) (by kernel_rfl) (scanNames_met os))) ?_
  intro W base args ds gs before hval hW _ hcond _ hL hS _
  exact scanNames_contract H enc W base args ds gs before hval hW (hcond _ rfl) hL
theorem scanNames_over : Rows.ScanNamesUptoSaid :=
  OpenClaim.holds_of_cond 5 fn5 rfl rfl rfl rfl rfl rfl rfl ⟨rfl, rfl, rfl, rfl, rfl⟩ rfl rfl rfl rfl rfl (by kernel_rfl) func5 (by kernel_rfl)
    (of_decide_eq_true (by kernel_rfl)) (by unfold Func.isWrapper; first | (rw [if_pos (by decide +kernel)]; kernel_rfl) | (rw [if_neg (by decide +kernel)]; exact ⟨rfl, rfl⟩))
    (fun os started H enc _ F => by rw [OpenClaim.pre_eq_preRow]; exact scanNames_lifted os started H enc F)
theorem scanNames_plain (f : FuncId) (fn : Func) (hf : Tryz.pinned.checked.prog.funcNamed "palaver/palaverlaw14.ScanNames" = some f) (hfn : Tryz.pinned.checked.prog.funcs[f]? = some fn) :
    true = Tryz.pinned.checked.prog.looks [] ∧ ∀ (j : Nat) t, fn.params[j]? = some t → Tryz.pinned.checked.prog.wantsStandIn t = false := by
  obtain rfl : f = 5 := Option.some.inj ((show Tryz.prog.funcNamed "palaver/palaverlaw14.ScanNames" = some 5 by kernel_rfl).symm.trans hf) |>.symm
  obtain rfl : fn = fn5 := (Option.some.inj (func5.symm.trans hfn)).symm
  refine ⟨by kernel_rfl, fun j t ht => ?_⟩
  rw [params5] at ht
  have hm : t ∈ [9] := by simpa using Array.mem_of_getElem? ht
  have hall : [9].all (fun t => Tryz.prog.wantsStandIn t == false) = true := by kernel_rfl
  exact (show Tryz.prog.wantsStandIn t = false from by simpa using List.all_eq_true.1 hall t hm)
theorem scanNames_card : Rows.ScanNamesUptoCardSaid :=
  Claim7.holds_tied_plain_at .later [] _ _ _ _ scanNames_over (fun _ h => by cases h) (by kernel_rfl) (fun _ h => by cases h) scanNamesUpto_row_tie rfl ⟨rfl, rfl⟩ (by kernel_rfl) rfl scanNames_plain (by kernel_rfl)
end
end Go.Proofs.YtehglapljnehgaaGreatDoor

/-
  TreeHolds: a method without its places is the same method: the statement in its second form, and its card, for whatever is handed in of the bulk that the form allows.
-/
import Derived.Test.YtmnmandpdadedaaGreatDoorT13
set_option linter.unusedSimpArgs false
set_option linter.unusedVariables false
namespace Go.Proofs.YtmnmandpdadedaaGreatDoor
open Go Go.V Go.ChangeShapes Go.WideShapes Go.Deep
set_option maxRecDepth 100000
section
noncomputable def fn7 : Func := (Tryz.prog.funcs[7]?).getD default
theorem func7 : Tryz.prog.funcs[7]? = some fn7 := by kernel_rfl
theorem params7 : fn7.params = #[25] := by kernel_rfl
theorem result7 : fn7.resultTypes = #[4] := by kernel_rfl
theorem holds_err {W : World} (h : laidMet Tryz.prog Rows.treeHoldsUptoRow.laid W) {A : List Atom} (hA : ∀ a : Atom, a.holds W → a ∈ A) : ErA A :=
  err_in (laidMet.tail (laidMet.tail (laidMet.tail (laidMet.tail h)))) ⟨_, _, rfl⟩ hA
theorem holds_contract (H : Type) (enc : TypeId × Value → H) (W : World) (base : Nat) (args : Array Value) (ds gs : List (DataW H)) (before : List MemPlace)
    (hval : ∀ (j : Nat) t v, fn7.params[j]? = some t → args[j]? = some v → Value.okWide Tryz.prog W .any base t v)
    (hW : DataW.Whole enc Tryz.prog fn7.params.toList Rows.treeHoldsSpec.vars false W args.toList ds gs before) (hk : Rows.uptoSmall H (ds ++ gs) = true) (hL : laidMetH Tryz.prog Rows.treeHoldsUptoRow.laid W) :
    Calls Tryz.prog 7 args W fun e W' => ∃ v, e = .returned v ∧ Rows.treeHoldsSpec.post enc Tryz.prog fn7 false true false false W args v W' := by
  have hW' := hW
  obtain ⟨p, q, hA, hV, rfl, hfz, _⟩ := hW
  rw [params7] at hA hval
  obtain ⟨v0, vs0, d0, ds0, p0, q0, hargs, rfl, rfl, h0, r0⟩ := trodAll_cons hA
  obtain ⟨rfl, rfl, rfl⟩ := trodAll_nil r0
  obtain rfl : args = #[v0] := by cases args; simp_all
  obtain ⟨rfl, rfl⟩ := trodVars_none hV
  have hb := of_decide_eq_true hk
  simp only [List.append_nil, Rows.uptoBulkAll, Nat.add_zero] at hb
  refine glue (args := [v0]) rfl result7 u4 rfl closedP (by rw [params7]; simp) hW' (fun A hA' => ?_)
  obtain ⟨cs0, rfl⟩ := md_form (hval 0 25 v0 rfl rfl)
  obtain ⟨n0, h0⟩ := h0
  simp only [Value.cells] at h0
  obtain ⟨x0, hx0, hxb0⟩ := rd_md hA' n0 cs0 _ (by show Rows.uptoBulk d0 ≤ _; omega) h0 (fun b o h => hfz b o (by simp [h]))
  simp only at hxb0
  exact TreeHolds_spec A (holds_err hL hA') x0 (by omega) cs0 hx0
theorem holds_met (os : Os) : laidMet Tryz.prog Rows.treeHoldsUptoRow.laid ((World.laidAll Tryz.prog os Rows.treeHoldsUptoRow.laid).forCall (fun _ _ => 0) ⟨#[], #[.agg #[.string ⟨#[]⟩, .slice none 0 0, .slice none 0 0, .int .i64 0, .slice none 0 0]], []⟩).memory :=
  laidMet_laidAll _ (by kernel_rfl) (by kernel_rfl)
theorem holds_reads (os : Os) {H : Type} (enc : TypeId × Value → H) : ∃ places, DataW.whole enc Tryz.prog ((World.laidAll Tryz.prog os Rows.treeHoldsUptoRow.laid).forCall (fun _ _ => 0) ⟨#[], #[.agg #[.string ⟨#[]⟩, .slice none 0 0, .slice none 0 0, .int .i64 0, .slice none 0 0]], []⟩).memory fn7.params.toList Rows.treeHoldsSpec.vars false (#[.agg #[.string ⟨#[]⟩, .slice none 0 0, .slice none 0 0, .int .i64 0, .slice none 0 0]] : Array Value).toList 8 = some ([.agg [.lit (.string []), .nil, .nil, .lit (.int .i64 0), .nil]], [], places) :=
  ⟨[], by kernel_rfl⟩
theorem holds_lifted (os : Os) (started : os.Started) (H : Type) (enc : TypeId × Value → H) (F : Stop.Interp) :
    ReturnsInHanded {} Tryz.checked os 7 .any ((Rows.OpenSpec.upto Rows.treeHoldsSpec).preRow enc Tryz.prog fn7 Rows.treeHoldsUptoRow.domain false Rows.treeHoldsUptoRow.laid) (((Rows.OpenSpec.upto Rows.treeHoldsSpec).at F).post enc Tryz.prog fn7 false true false false) := by
  obtain ⟨places, hx⟩ := holds_reads os enc
  refine returnsInHanded_of_row (C := Tryz.checked) (s := Rows.OpenSpec.upto Rows.treeHoldsSpec) own started (by kernel_rfl) func7
    (witness_row_at (enc := enc) (C := Tryz.checked) false (World.laidAll Tryz.prog os Rows.treeHoldsUptoRow.laid) #[.agg #[.string ⟨#[]⟩, .slice none 0 0, .slice none 0 0, .int .i64 0, .slice none 0 0]] (World.laidAll_os _ _ _) (by kernel_rfl) (by kernel_rfl) (by kernel_rfl)
      (OpenSpec.preRow_of_cond 8 hx (by kernel_rfl) (fun k hk => by cases hk; kernel_rfl) (by kernel_rfl) (holds_met os))) ?_
  intro W base args ds gs before hval hW _ hcond _ hL hS _
  exact holds_contract H enc W base args ds gs before hval hW (hcond _ rfl) hL
theorem treeHolds_over : Rows.TreeHoldsUptoSaid :=
  OpenClaim.holds_of_cond 7 fn7 rfl rfl rfl rfl rfl rfl rfl ⟨rfl, rfl, rfl, rfl, rfl⟩ rfl rfl rfl rfl rfl (by kernel_rfl) func7 (by kernel_rfl)
    (of_decide_eq_true (by kernel_rfl)) (by unfold Func.isWrapper; first | (rw [if_pos (by decide +kernel)]; kernel_rfl) | (rw [if_neg (by decide +kernel)]; exact ⟨rfl, rfl⟩))
    (fun os started H enc _ F => by rw [OpenClaim.pre_eq_preRow]; exact holds_lifted os started H enc F)
theorem holds_plain (f : FuncId) (fn : Func) (hf : Tryz.pinned.checked.prog.funcNamed "palaver/palaverlaw15.TreeHolds" = some f) (hfn : Tryz.pinned.checked.prog.funcs[f]? = some fn) :
    true = Tryz.pinned.checked.prog.looks [] ∧ ∀ (j : Nat) t, fn.params[j]? = some t → Tryz.pinned.checked.prog.wantsStandIn t = false := by
  obtain rfl : f = 7 := Option.some.inj ((show Tryz.prog.funcNamed "palaver/palaverlaw15.TreeHolds" = some 7 by kernel_rfl).symm.trans hf) |>.symm
  obtain rfl : fn = fn7 := (Option.some.inj (func7.symm.trans hfn)).symm
  refine ⟨by kernel_rfl, fun j t ht => ?_⟩
  rw [params7] at ht
  have hm : t ∈ [25] := by simpa using Array.mem_of_getElem? ht
  have hall : [25].all (fun t => Tryz.prog.wantsStandIn t == false) = true := by kernel_rfl
  exact (show Tryz.prog.wantsStandIn t = false from by simpa using List.all_eq_true.1 hall t hm)
theorem treeHolds_card : Rows.TreeHoldsUptoCardSaid :=
  Claim7.holds_tied_plain_at .later [] _ _ _ _ treeHolds_over (fun _ h => by cases h) (by kernel_rfl) (fun _ h => by cases h) treeHoldsUpto_row_tie rfl ⟨rfl, rfl⟩ (by kernel_rfl) rfl holds_plain (by kernel_rfl)
end
end Go.Proofs.YtmnmandpdadedaaGreatDoor

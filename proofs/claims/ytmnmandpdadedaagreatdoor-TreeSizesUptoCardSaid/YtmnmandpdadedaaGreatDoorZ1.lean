/-
  TreeSizes: a node's size is how many nodes are met in going through it, and one more than its kids' together: the statement in its second form, and its card, for whatever is handed in of the bulk that the form allows.
-/
import Derived.Test.YtmnmandpdadedaaGreatDoorT12
set_option linter.unusedSimpArgs false
set_option linter.unusedVariables false
namespace Go.Proofs.YtmnmandpdadedaaGreatDoor
open Go Go.V Go.ChangeShapes Go.WideShapes Go.Deep
set_option maxRecDepth 100000
section
noncomputable def fn8 : Func := (Tryz.prog.funcs[8]?).getD default
theorem func8 : Tryz.prog.funcs[8]? = some fn8 := by kernel_rfl
theorem params8 : fn8.params = #[48] := by kernel_rfl
theorem result8 : fn8.resultTypes = #[4] := by kernel_rfl
theorem laid_plain {W : World} (h : laidMetH Tryz.prog Rows.treeSizesUptoRow.laid W) : laidMet Tryz.prog Rows.treeSizesUptoRow.laid W := h
theorem laid_err {W : World} (h : laidMet Tryz.prog Rows.treeSizesUptoRow.laid W) {A : List Atom} (hA : ∀ a : Atom, a.holds W → a ∈ A) : ErA A :=
  err_in (laidMet.tail (laidMet.tail (laidMet.tail (laidMet.tail h)))) ⟨_, _, rfl⟩ hA
theorem sizes_contract (H : Type) (enc : TypeId × Value → H) (W : World) (base : Nat) (args : Array Value) (ds gs : List (DataW H)) (before : List MemPlace)
    (hval : ∀ (j : Nat) t v, fn8.params[j]? = some t → args[j]? = some v → Value.okWide Tryz.prog W .any base t v)
    (hW : DataW.Whole enc Tryz.prog fn8.params.toList Rows.treeSizesSpec.vars false W args.toList ds gs before) (hk : Rows.uptoSmall H (ds ++ gs) = true) (hL : laidMetH Tryz.prog Rows.treeSizesUptoRow.laid W) :
    Calls Tryz.prog 8 args W fun e W' => ∃ v, e = .returned v ∧ Rows.treeSizesSpec.post enc Tryz.prog fn8 false true false false W args v W' := by
  have hW' := hW
  obtain ⟨p, q, hA, hV, rfl, hfz, _⟩ := hW
  rw [params8] at hA hval
  obtain ⟨v0, vs0, d0, ds0, p0, q0, hargs, rfl, rfl, h0, r0⟩ := trodAll_cons hA
  obtain ⟨rfl, rfl, rfl⟩ := trodAll_nil r0
  obtain rfl : args = #[v0] := by cases args; simp_all
  obtain ⟨rfl, rfl⟩ := trodVars_none hV
  have hb := of_decide_eq_true hk
  simp only [List.append_nil, Rows.uptoBulkAll, Nat.add_zero] at hb
  refine glue (args := [v0]) rfl result8 u4 rfl closedP (by rw [params8]; simp) hW' (fun A hA' => ?_)
  obtain ⟨cs, rfl⟩ := node_form (hval 0 48 v0 rfl rfl)
  obtain ⟨n0, h0⟩ := h0
  simp only [Value.cells] at h0
  obtain ⟨x, hx, hxb⟩ := rd_node bulkB nodT litT hA' 1048576 n0 cs _ (by omega) (Nat.le_refl _) h0 (fun b o h => hfz b o (by simp [h]))
  simp only at hxb
  exact TreeSizes_spec A (laid_err (laid_plain hL) hA') x (by omega) cs hx
theorem sizes_met (os : Os) : laidMet Tryz.prog Rows.treeSizesUptoRow.laid ((World.laidAll Tryz.prog os Rows.treeSizesUptoRow.laid).forCall (fun _ _ => 0) ⟨#[], #[.agg #[.int .u8 0, .string ⟨#[]⟩, .int .u8 0, .int .i64 0, .int .u64 0, .string ⟨#[]⟩, .slice none 0 0, .slice none 0 0, .slice none 0 0, .slice none 0 0, .int .i64 0]], []⟩).memory :=
  laidMet_laidAll _ (by kernel_rfl) (by kernel_rfl)
theorem sizes_reads (os : Os) {H : Type} (enc : TypeId × Value → H) : ∃ places, DataW.whole enc Tryz.prog ((World.laidAll Tryz.prog os Rows.treeSizesUptoRow.laid).forCall (fun _ _ => 0) ⟨#[], #[.agg #[.int .u8 0, .string ⟨#[]⟩, .int .u8 0, .int .i64 0, .int .u64 0, .string ⟨#[]⟩, .slice none 0 0, .slice none 0 0, .slice none 0 0, .slice none 0 0, .int .i64 0]], []⟩).memory fn8.params.toList Rows.treeSizesSpec.vars false (#[.agg #[.int .u8 0, .string ⟨#[]⟩, .int .u8 0, .int .i64 0, .int .u64 0, .string ⟨#[]⟩, .slice none 0 0, .slice none 0 0, .slice none 0 0, .slice none 0 0, .int .i64 0]] : Array Value).toList 8 = some ([.agg [.lit (.int .u8 0), .lit (.string []), .agg [.lit (.int .u8 0), .lit (.int .i64 0), .lit (.int .u64 0), .lit (.string []), .nil], .nil, .nil, .nil, .lit (.int .i64 0)]], [], places) :=
  ⟨[], by kernel_rfl⟩
theorem sizes_lifted (os : Os) (started : os.Started) (H : Type) (enc : TypeId × Value → H) (F : Stop.Interp) :
    ReturnsInHanded {} Tryz.checked os 8 .any ((Rows.OpenSpec.upto Rows.treeSizesSpec).preRow enc Tryz.prog fn8 Rows.treeSizesUptoRow.domain false Rows.treeSizesUptoRow.laid) (((Rows.OpenSpec.upto Rows.treeSizesSpec).at F).post enc Tryz.prog fn8 false true false false) := by
  obtain ⟨places, hx⟩ := sizes_reads os enc
  refine returnsInHanded_of_row (C := Tryz.checked) (s := Rows.OpenSpec.upto Rows.treeSizesSpec) own started (by kernel_rfl) func8
    (witness_row_at (enc := enc) (C := Tryz.checked) false (World.laidAll Tryz.prog os Rows.treeSizesUptoRow.laid) #[.agg #[.int .u8 0, .string ⟨#[]⟩, .int .u8 0, .int .i64 0, .int .u64 0, .string ⟨#[]⟩, .slice none 0 0, .slice none 0 0, .slice none 0 0, .slice none 0 0, .int .i64 0]] (World.laidAll_os _ _ _) (by kernel_rfl) (by kernel_rfl) (by kernel_rfl)
      (OpenSpec.preRow_of_cond 8 hx (by kernel_rfl) (fun k hk => by cases hk; kernel_rfl) (by kernel_rfl) (sizes_met os))) ?_
  intro W base args ds gs before hval hW _ hcond _ hL hS _
  exact sizes_contract H enc W base args ds gs before hval hW (hcond _ rfl) hL
theorem treeSizes_over : Rows.TreeSizesUptoSaid :=
  OpenClaim.holds_of_cond 8 fn8 rfl rfl rfl rfl rfl rfl rfl ⟨rfl, rfl, rfl, rfl, rfl⟩ rfl rfl rfl rfl rfl (by kernel_rfl) func8 (by kernel_rfl)
    (of_decide_eq_true (by kernel_rfl)) (by unfold Func.isWrapper; first | (rw [if_pos (by decide +kernel)]; kernel_rfl) | (rw [if_neg (by decide +kernel)]; exact ⟨rfl, rfl⟩))
    (fun os started H enc _ F => by rw [OpenClaim.pre_eq_preRow]; exact sizes_lifted os started H enc F)
theorem sizes_plain (f : FuncId) (fn : Func) (hf : Tryz.pinned.checked.prog.funcNamed "palaver/palaverlaw15.TreeSizes" = some f) (hfn : Tryz.pinned.checked.prog.funcs[f]? = some fn) :
    true = Tryz.pinned.checked.prog.looks [] ∧ ∀ (j : Nat) t, fn.params[j]? = some t → Tryz.pinned.checked.prog.wantsStandIn t = false := by
  obtain rfl : f = 8 := Option.some.inj ((show Tryz.prog.funcNamed "palaver/palaverlaw15.TreeSizes" = some 8 by kernel_rfl).symm.trans hf) |>.symm
  obtain rfl : fn = fn8 := (Option.some.inj (func8.symm.trans hfn)).symm
  refine ⟨by kernel_rfl, fun j t ht => ?_⟩
  rw [params8] at ht
  have hm : t ∈ [48] := by simpa using Array.mem_of_getElem? ht
  have hall : [48].all (fun t => Tryz.prog.wantsStandIn t == false) = true := by kernel_rfl
  exact (show Tryz.prog.wantsStandIn t = false from by simpa using List.all_eq_true.1 hall t hm)
theorem treeSizes_card : Rows.TreeSizesUptoCardSaid :=
  Claim7.holds_tied_plain_at .later [] _ _ _ _ treeSizes_over (fun _ h => by cases h) (by kernel_rfl) (fun _ h => by cases h) treeSizesUpto_row_tie rfl ⟨rfl, rfl⟩ (by kernel_rfl) rfl sizes_plain (by kernel_rfl)
end
end Go.Proofs.YtmnmandpdadedaaGreatDoor

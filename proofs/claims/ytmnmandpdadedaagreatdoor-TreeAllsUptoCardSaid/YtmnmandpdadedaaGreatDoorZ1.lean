/-
  TreeAlls: going through a node meets all that is below it, each ahead of its kids: the statement in its second form, and its card, for whatever is handed in of the bulk that the form allows.
-/
import Derived.Test.YtmnmandpdadedaaGreatDoorT13
set_option linter.unusedSimpArgs false
set_option linter.unusedVariables false
namespace Go.Proofs.YtmnmandpdadedaaGreatDoor
open Go Go.V Go.ChangeShapes Go.WideShapes Go.Deep
set_option maxRecDepth 100000
section
noncomputable def fn6 : Func := (Tryz.prog.funcs[6]?).getD default
theorem func6 : Tryz.prog.funcs[6]? = some fn6 := by kernel_rfl
theorem params6 : fn6.params = #[48, 3] := by kernel_rfl
theorem result6 : fn6.resultTypes = #[4] := by kernel_rfl
theorem alls_err {W : World} (h : laidMet Tryz.prog Rows.treeAllsUptoRow.laid W) {A : List Atom} (hA : ∀ a : Atom, a.holds W → a ∈ A) : ErA A :=
  err_in (laidMet.tail (laidMet.tail (laidMet.tail (laidMet.tail h)))) ⟨_, _, rfl⟩ hA
theorem alls_contract (H : Type) (enc : TypeId × Value → H) (W : World) (base : Nat) (args : Array Value) (ds gs : List (DataW H)) (before : List MemPlace)
    (hval : ∀ (j : Nat) t v, fn6.params[j]? = some t → args[j]? = some v → Value.okWide Tryz.prog W .any base t v)
    (hW : DataW.Whole enc Tryz.prog fn6.params.toList Rows.treeAllsSpec.vars false W args.toList ds gs before) (hk : Rows.uptoSmall H (ds ++ gs) = true) (hL : laidMetH Tryz.prog Rows.treeAllsUptoRow.laid W) :
    Calls Tryz.prog 6 args W fun e W' => ∃ v, e = .returned v ∧ Rows.treeAllsSpec.post enc Tryz.prog fn6 false true false false W args v W' := by
  have hW' := hW
  obtain ⟨p, q, hA, hV, rfl, hfz, _⟩ := hW
  rw [params6] at hA hval
  obtain ⟨v0, vs0, d0, ds0, p0, q0, hargs, rfl, rfl, h0, r0⟩ := trodAll_cons hA
  obtain ⟨v1, vs1, d1, ds1, p1, q1, rfl, rfl, rfl, h1, r1⟩ := trodAll_cons r0
  obtain ⟨rfl, rfl, rfl⟩ := trodAll_nil r1
  obtain rfl : args = #[v0, v1] := by cases args; simp_all
  obtain ⟨rfl, rfl⟩ := trodVars_none hV
  have hb := of_decide_eq_true hk
  simp only [List.append_nil, Rows.uptoBulkAll, Nat.add_zero] at hb
  refine glue (args := [v0, v1]) rfl result6 u4 rfl closedP (by rw [params6]; simp) hW' (fun A hA' => ?_)
  obtain ⟨cs0, rfl⟩ := node_form (hval 0 48 v0 rfl rfl)
  obtain ⟨n0, h0⟩ := h0
  simp only [Value.cells] at h0
  obtain ⟨x0, hx0, hxb0⟩ := rd_node bulkB nodT litT hA' 1048576 n0 cs0 _ (by show Rows.uptoBulk d0 ≤ _; omega) (Nat.le_refl _) h0 (fun b o h => hfz b o (by simp [h]))
  simp only at hxb0
  obtain ⟨z1, rfl, hz1⟩ := int_form (hval 1 3 v1 rfl rfl) h1
  exact TreeAlls_spec A (alls_err hL hA') x0 (by omega) cs0 hx0 z1 hz1
theorem alls_met (os : Os) : laidMet Tryz.prog Rows.treeAllsUptoRow.laid ((World.laidAll Tryz.prog os Rows.treeAllsUptoRow.laid).forCall (fun _ _ => 0) ⟨#[], #[.agg #[.int .u8 0, .string ⟨#[]⟩, .int .u8 0, .int .i64 0, .int .u64 0, .string ⟨#[]⟩, .slice none 0 0, .slice none 0 0, .slice none 0 0, .slice none 0 0, .int .i64 0], .int .i64 0], []⟩).memory :=
  laidMet_laidAll _ (by kernel_rfl) (by kernel_rfl)
theorem alls_reads (os : Os) {H : Type} (enc : TypeId × Value → H) : ∃ places, DataW.whole enc Tryz.prog ((World.laidAll Tryz.prog os Rows.treeAllsUptoRow.laid).forCall (fun _ _ => 0) ⟨#[], #[.agg #[.int .u8 0, .string ⟨#[]⟩, .int .u8 0, .int .i64 0, .int .u64 0, .string ⟨#[]⟩, .slice none 0 0, .slice none 0 0, .slice none 0 0, .slice none 0 0, .int .i64 0], .int .i64 0], []⟩).memory fn6.params.toList Rows.treeAllsSpec.vars false (#[.agg #[.int .u8 0, .string ⟨#[]⟩, .int .u8 0, .int .i64 0, .int .u64 0, .string ⟨#[]⟩, .slice none 0 0, .slice none 0 0, .slice none 0 0, .slice none 0 0, .int .i64 0], .int .i64 0] : Array Value).toList 8 = some ([.agg [.lit (.int .u8 0), .lit (.string []), .agg [.lit (.int .u8 0), .lit (.int .i64 0), .lit (.int .u64 0), .lit (.string []), .nil], .nil, .nil, .nil, .lit (.int .i64 0)], .lit (.int .i64 0)], [], places) :=
  ⟨[], by kernel_rfl⟩
theorem alls_lifted (os : Os) (started : os.Started) (H : Type) (enc : TypeId × Value → H) (F : Stop.Interp) :
    ReturnsInHanded {} Tryz.checked os 6 .any ((Rows.OpenSpec.upto Rows.treeAllsSpec).preRow enc Tryz.prog fn6 Rows.treeAllsUptoRow.domain false Rows.treeAllsUptoRow.laid) (((Rows.OpenSpec.upto Rows.treeAllsSpec).at F).post enc Tryz.prog fn6 false true false false) := by
  obtain ⟨places, hx⟩ := alls_reads os enc
  refine returnsInHanded_of_row (C := Tryz.checked) (s := Rows.OpenSpec.upto Rows.treeAllsSpec) own started (by kernel_rfl) func6
    (witness_row_at (enc := enc) (C := Tryz.checked) false (World.laidAll Tryz.prog os Rows.treeAllsUptoRow.laid) #[.agg #[.int .u8 0, .string ⟨#[]⟩, .int .u8 0, .int .i64 0, .int .u64 0, .string ⟨#[]⟩, .slice none 0 0, .slice none 0 0, .slice none 0 0, .slice none 0 0, .int .i64 0], .int .i64 0] (World.laidAll_os _ _ _) (by kernel_rfl) (by kernel_rfl) (by kernel_rfl)
      (OpenSpec.preRow_of_cond 8 hx (by kernel_rfl) (fun k hk => by cases hk; kernel_rfl) (by kernel_rfl) (alls_met os))) ?_
  intro W base args ds gs before hval hW _ hcond _ hL hS _
  exact alls_contract H enc W base args ds gs before hval hW (hcond _ rfl) hL
theorem treeAlls_over : Rows.TreeAllsUptoSaid :=
  OpenClaim.holds_of_cond 6 fn6 rfl rfl rfl rfl rfl rfl rfl ⟨rfl, rfl, rfl, rfl, rfl⟩ rfl rfl rfl rfl rfl (by kernel_rfl) func6 (by kernel_rfl)
    (of_decide_eq_true (by kernel_rfl)) (by unfold Func.isWrapper; first | (rw [if_pos (by decide +kernel)]; kernel_rfl) | (rw [if_neg (by decide +kernel)]; exact ⟨rfl, rfl⟩))
    (fun os started H enc _ F => by rw [OpenClaim.pre_eq_preRow]; exact alls_lifted os started H enc F)
theorem alls_plain (f : FuncId) (fn : Func) (hf : Tryz.pinned.checked.prog.funcNamed "palaver/palaverlaw15.TreeAlls" = some f) (hfn : Tryz.pinned.checked.prog.funcs[f]? = some fn) :
    true = Tryz.pinned.checked.prog.looks [] ∧ ∀ (j : Nat) t, fn.params[j]? = some t → Tryz.pinned.checked.prog.wantsStandIn t = false := by
  obtain rfl : f = 6 := Option.some.inj ((show Tryz.prog.funcNamed "palaver/palaverlaw15.TreeAlls" = some 6 by kernel_rfl).symm.trans hf) |>.symm
  obtain rfl : fn = fn6 := (Option.some.inj (func6.symm.trans hfn)).symm
  refine ⟨by kernel_rfl, fun j t ht => ?_⟩
  rw [params6] at ht
  have hm : t ∈ [48, 3] := by simpa using Array.mem_of_getElem? ht
  have hall : [48, 3].all (fun t => Tryz.prog.wantsStandIn t == false) = true := by kernel_rfl
  exact (show Tryz.prog.wantsStandIn t = false from by simpa using List.all_eq_true.1 hall t hm)
theorem treeAlls_card : Rows.TreeAllsUptoCardSaid :=
  Claim7.holds_tied_plain_at .later [] _ _ _ _ treeAlls_over (fun _ h => by cases h) (by kernel_rfl) (fun _ h => by cases h) treeAllsUpto_row_tie rfl ⟨rfl, rfl⟩ (by kernel_rfl) rfl alls_plain (by kernel_rfl)
end
end Go.Proofs.YtmnmandpdadedaaGreatDoor

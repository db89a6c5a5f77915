/-
  TreeNodes: every node may be, or may not, as the document says, with its level, depth and size: the statement in its second form, and its card, for whatever is handed in of the bulk that the form allows.
-/
import Derived.Test.YtmnmandpdadedaaGreatDoorT18
set_option linter.unusedSimpArgs false
set_option linter.unusedVariables false
namespace Go.Proofs.YtmnmandpdadedaaGreatDoor
open Go Go.V Go.ChangeShapes Go.WideShapes Go.Deep
set_option maxRecDepth 100000
section
noncomputable def fn4 : Func := (Tryz.prog.funcs[4]?).getD default
theorem func4 : Tryz.prog.funcs[4]? = some fn4 := by kernel_rfl
theorem params4 : fn4.params = #[48, 48] := by kernel_rfl
theorem result4 : fn4.resultTypes = #[4] := by kernel_rfl
theorem nodes_err {W : World} (h : laidMet Tryz.prog Rows.treeNodesUptoRow.laid W) {A : List Atom} (hA : ∀ a : Atom, a.holds W → a ∈ A) : ErA A :=
  err_in (laidMet.tail (laidMet.tail (laidMet.tail (laidMet.tail h)))) ⟨_, _, rfl⟩ hA
theorem nodes_contract (H : Type) (enc : TypeId × Value → H) (W : World) (base : Nat) (args : Array Value) (ds gs : List (DataW H)) (before : List MemPlace)
    (hval : ∀ (j : Nat) t v, fn4.params[j]? = some t → args[j]? = some v → Value.okWide Tryz.prog W .any base t v)
    (hW : DataW.Whole enc Tryz.prog fn4.params.toList Rows.treeNodesSpec.vars false W args.toList ds gs before) (hk : Rows.uptoSmall H (ds ++ gs) = true) (hL : laidMetH Tryz.prog Rows.treeNodesUptoRow.laid W) :
    Calls Tryz.prog 4 args W fun e W' => ∃ v, e = .returned v ∧ Rows.treeNodesSpec.post enc Tryz.prog fn4 false true false false W args v W' := by
  have hW' := hW
  obtain ⟨p, q, hA, hV, rfl, hfz, _⟩ := hW
  rw [params4] at hA hval
  obtain ⟨v0, vs0, d0, ds0, p0, q0, hargs, rfl, rfl, h0, r0⟩ := trodAll_cons hA
  obtain ⟨v1, vs1, d1, ds1, p1, q1, rfl, rfl, rfl, h1, r1⟩ := trodAll_cons r0
  obtain ⟨rfl, rfl, rfl⟩ := trodAll_nil r1
  obtain rfl : args = #[v0, v1] := by cases args; simp_all
  obtain ⟨rfl, rfl⟩ := trodVars_none hV
  have hb := of_decide_eq_true hk
  simp only [List.append_nil, Rows.uptoBulkAll, Nat.add_zero] at hb
  refine glue (args := [v0, v1]) rfl result4 u4 rfl closedP (by rw [params4]; simp) hW' (fun A hA' => ?_)
  obtain ⟨cs0, rfl⟩ := node_form (hval 0 48 v0 rfl rfl)
  obtain ⟨n0, h0⟩ := h0
  simp only [Value.cells] at h0
  obtain ⟨x0, hx0, hxb0⟩ := rd_node bulkB nodT litT hA' 1048576 n0 cs0 _ (by show Rows.uptoBulk d0 ≤ _; omega) (Nat.le_refl _) h0 (fun b o h => hfz b o (by simp [h]))
  simp only at hxb0
  obtain ⟨cs1, rfl⟩ := node_form (hval 1 48 v1 rfl rfl)
  obtain ⟨n1, h1⟩ := h1
  simp only [Value.cells] at h1
  obtain ⟨x1, hx1, hxb1⟩ := rd_node bulkB nodT litT hA' 1048576 n1 cs1 _ (by show Rows.uptoBulk d1 ≤ _; omega) (Nat.le_refl _) h1 (fun b o h => hfz b o (by simp [h]))
  simp only at hxb1
  exact TreeNodes_spec A (nodes_err hL hA') x0 (by omega) cs0 hx0 x1 (by omega) cs1 hx1
theorem nodes_met (os : Os) : laidMet Tryz.prog Rows.treeNodesUptoRow.laid ((World.laidAll Tryz.prog os Rows.treeNodesUptoRow.laid).forCall (fun _ _ => 0) ⟨#[], #[.agg #[.int .u8 0, .string ⟨#[]⟩, .int .u8 0, .int .i64 0, .int .u64 0, .string ⟨#[]⟩, .slice none 0 0, .slice none 0 0, .slice none 0 0, .slice none 0 0, .int .i64 0], .agg #[.int .u8 0, .string ⟨#[]⟩, .int .u8 0, .int .i64 0, .int .u64 0, .string ⟨#[]⟩, .slice none 0 0, .slice none 0 0, .slice none 0 0, .slice none 0 0, .int .i64 0]], []⟩).memory :=
  laidMet_laidAll _ (by kernel_rfl) (by kernel_rfl)
theorem nodes_reads (os : Os) {H : Type} (enc : TypeId × Value → H) : ∃ places, DataW.whole enc Tryz.prog ((World.laidAll Tryz.prog os Rows.treeNodesUptoRow.laid).forCall (fun _ _ => 0) ⟨#[], #[.agg #[.int .u8 0, .string ⟨#[]⟩, .int .u8 0, .int .i64 0, .int .u64 0, .string ⟨#[]⟩, .slice none 0 0, .slice none 0 0, .slice none 0 0, .slice none 0 0, .int .i64 0], .agg #[.int .u8 0, .string ⟨#[]⟩, .int .u8 0, .int .i64 0, .int .u64 0, .string ⟨#[]⟩, .slice none 0 0, .slice none 0 0, .slice none 0 0, .slice none 0 0, .int .i64 0]], []⟩).memory fn4.params.toList Rows.treeNodesSpec.vars false (#[.agg #[.int .u8 0, .string ⟨#[]⟩, .int .u8 0, .int .i64 0, .int .u64 0, .string ⟨#[]⟩, .slice none 0 0, .slice none 0 0, .slice none 0 0, .slice none 0 0, .int .i64 0], .agg #[.int .u8 0, .string ⟨#[]⟩, .int .u8 0, .int .i64 0, .int .u64 0, .string ⟨#[]⟩, .slice none 0 0, .slice none 0 0, .slice none 0 0, .slice none 0 0, .int .i64 0]] : Array Value).toList 8 = some ([.agg [.lit (.int .u8 0), .lit (.string []), .agg [.lit (.int .u8 0), .lit (.int .i64 0), .lit (.int .u64 0), .lit (.string []), .nil], .nil, .nil, .nil, .lit (.int .i64 0)], .agg [.lit (.int .u8 0), .lit (.string []), .agg [.lit (.int .u8 0), .lit (.int .i64 0), .lit (.int .u64 0), .lit (.string []), .nil], .nil, .nil, .nil, .lit (.int .i64 0)]], [], places) :=
  ⟨[], by kernel_rfl⟩
theorem nodes_lifted (os : Os) (started : os.Started) (H : Type) (enc : TypeId × Value → H) (F : Stop.Interp) :
    ReturnsInHanded {} Tryz.checked os 4 .any ((Rows.OpenSpec.upto Rows.treeNodesSpec).preRow enc Tryz.prog fn4 Rows.treeNodesUptoRow.domain false Rows.treeNodesUptoRow.laid) (((Rows.OpenSpec.upto Rows.treeNodesSpec).at F).post enc Tryz.prog fn4 false true false false) := by
  obtain ⟨places, hx⟩ := nodes_reads os enc
  refine returnsInHanded_of_row (C := Tryz.checked) (s := Rows.OpenSpec.upto Rows.treeNodesSpec) own started (by kernel_rfl) func4
    (witness_row_at (enc := enc) (C := Tryz.checked) false (World.laidAll Tryz.prog os Rows.treeNodesUptoRow.laid) #[.agg #[.int .u8 0, .string ⟨#[]⟩, .int .u8 0, .int .i64 0, .int .u64 0, .string ⟨#[]⟩, .slice none 0 0, .slice none 0 0, .slice none 0 0, .slice none 0 0, .int .i64 0], .agg #[.int .u8 0, .string ⟨#[]⟩, .int .u8 0, .int .i64 0, .int .u64 0, .string ⟨#[]⟩, .slice none 0 0, .slice none 0 0, .slice none 0 0, .slice none 0 0, .int .i64 0]] (World.laidAll_os _ _ _) (by kernel_rfl) (by kernel_rfl) (by kernel_rfl)
      (OpenSpec.preRow_of_cond 8 hx (by kernel_rfl) (fun k hk => by cases hk; kernel_rfl) (by kernel_rfl) (nodes_met os))) ?_
  intro W base args ds gs before hval hW _ hcond _ hL hS _
  exact nodes_contract H enc W base args ds gs before hval hW (hcond _ rfl) hL
theorem treeNodes_over : Rows.TreeNodesUptoSaid :=
  OpenClaim.holds_of_cond 4 fn4 rfl rfl rfl rfl rfl rfl rfl ⟨rfl, rfl, rfl, rfl, rfl⟩ rfl rfl rfl rfl rfl (by kernel_rfl) func4 (by kernel_rfl)
    (of_decide_eq_true (by kernel_rfl)) (by unfold Func.isWrapper; first | (rw [if_pos (by decide +kernel)]; kernel_rfl) | (rw [if_neg (by decide +kernel)]; exact ⟨rfl, rfl⟩))
    (fun os started H enc _ F => by rw [OpenClaim.pre_eq_preRow]; exact nodes_lifted os started H enc F)
theorem nodes_plain (f : FuncId) (fn : Func) (hf : Tryz.pinned.checked.prog.funcNamed "palaver/palaverlaw15.TreeNodes" = some f) (hfn : Tryz.pinned.checked.prog.funcs[f]? = some fn) :
    true = Tryz.pinned.checked.prog.looks [] ∧ ∀ (j : Nat) t, fn.params[j]? = some t → Tryz.pinned.checked.prog.wantsStandIn t = false := by
  obtain rfl : f = 4 := Option.some.inj ((show Tryz.prog.funcNamed "palaver/palaverlaw15.TreeNodes" = some 4 by kernel_rfl).symm.trans hf) |>.symm
  obtain rfl : fn = fn4 := (Option.some.inj (func4.symm.trans hfn)).symm
  refine ⟨by kernel_rfl, fun j t ht => ?_⟩
  rw [params4] at ht
  have hm : t ∈ [48, 48] := by simpa using Array.mem_of_getElem? ht
  have hall : [48, 48].all (fun t => Tryz.prog.wantsStandIn t == false) = true := by kernel_rfl
  exact (show Tryz.prog.wantsStandIn t = false from by simpa using List.all_eq_true.1 hall t hm)
theorem treeNodes_card : Rows.TreeNodesUptoCardSaid :=
  Claim7.holds_tied_plain_at .later [] _ _ _ _ treeNodes_over (fun _ h => by cases h) (by kernel_rfl) (fun _ h => by cases h) treeNodesUpto_row_tie rfl ⟨rfl, rfl⟩ (by kernel_rfl) rfl nodes_plain (by kernel_rfl)
end
end Go.Proofs.YtmnmandpdadedaaGreatDoor

/-
  TreeTurned: a node in which one part is another one is not the same: the statement in its second form, and its card, for whatever is handed in of the bulk that the form allows.
-/
import Derived.Test.YtmnmandpdadedaaGreatDoorT13
import Derived.Test.YtmnmandpdadedaaGreatDoorT14
set_option linter.unusedSimpArgs false
set_option linter.unusedVariables false
namespace Go.Proofs.YtmnmandpdadedaaGreatDoor
open Go Go.V Go.ChangeShapes Go.WideShapes Go.Deep
set_option maxRecDepth 100000
section
noncomputable def fn9 : Func := (Tryz.prog.funcs[9]?).getD default
theorem func9 : Tryz.prog.funcs[9]? = some fn9 := by kernel_rfl
theorem params9 : fn9.params = #[48, 62, 3] := by kernel_rfl
theorem result9 : fn9.resultTypes = #[4] := by kernel_rfl
theorem turned_err {W : World} (h : laidMet Tryz.prog Rows.treeTurnedUptoRow.laid W) {A : List Atom} (hA : ∀ a : Atom, a.holds W → a ∈ A) : ErA A :=
  err_in (laidMet.tail (laidMet.tail (laidMet.tail (laidMet.tail h)))) ⟨_, _, rfl⟩ hA
theorem turned_contract (H : Type) (enc : TypeId × Value → H) (W : World) (base : Nat) (args : Array Value) (ds gs : List (DataW H)) (before : List MemPlace)
    (hval : ∀ (j : Nat) t v, fn9.params[j]? = some t → args[j]? = some v → Value.okWide Tryz.prog W .any base t v)
    (hW : DataW.Whole enc Tryz.prog fn9.params.toList Rows.treeTurnedSpec.vars false W args.toList ds gs before) (hk : Rows.uptoSmall H (ds ++ gs) = true) (hL : laidMetH Tryz.prog Rows.treeTurnedUptoRow.laid W) :
    Calls Tryz.prog 9 args W fun e W' => ∃ v, e = .returned v ∧ Rows.treeTurnedSpec.post enc Tryz.prog fn9 false true false false W args v W' := by
  have hW' := hW
  obtain ⟨p, q, hA, hV, rfl, hfz, _⟩ := hW
  rw [params9] at hA hval
  obtain ⟨v0, vs0, d0, ds0, p0, q0, hargs, rfl, rfl, h0, r0⟩ := trodAll_cons hA
  obtain ⟨v1, vs1, d1, ds1, p1, q1, rfl, rfl, rfl, h1, r1⟩ := trodAll_cons r0
  obtain ⟨v2, vs2, d2, ds2, p2, q2, rfl, rfl, rfl, h2, r2⟩ := trodAll_cons r1
  obtain ⟨rfl, rfl, rfl⟩ := trodAll_nil r2
  obtain rfl : args = #[v0, v1, v2] := by cases args; simp_all
  obtain ⟨rfl, rfl⟩ := trodVars_none hV
  have hb := of_decide_eq_true hk
  simp only [List.append_nil, Rows.uptoBulkAll, Nat.add_zero] at hb
  refine glue (args := [v0, v1, v2]) rfl result9 u4 rfl closedP (by rw [params9]; simp) hW' (fun A hA' => ?_)
  obtain ⟨cs0, rfl⟩ := node_form (hval 0 48 v0 rfl rfl)
  obtain ⟨n0, h0⟩ := h0
  simp only [Value.cells] at h0
  obtain ⟨x0, hx0, hxb0⟩ := rd_node bulkB nodT litT hA' 1048576 n0 cs0 _ (by show Rows.uptoBulk d0 ≤ _; omega) (Nat.le_refl _) h0 (fun b o h => hfz b o (by simp [h]))
  simp only at hxb0
  obtain ⟨l1, hl1⟩ := bytes_form (hval 1 62 v1 rfl rfl) h1 (by show Rows.uptoBulk d1 ≤ _; omega) (fun b o h => hfz b o (by simp [h])) hA'
  obtain ⟨z2, rfl, hz2⟩ := int_form (hval 2 3 v2 rfl rfl) h2
  exact TreeTurned_spec A (turned_err hL hA') x0 (by omega) cs0 hx0 v1 l1 hl1 z2 hz2
theorem turned_met (os : Os) : laidMet Tryz.prog Rows.treeTurnedUptoRow.laid ((World.laidAll Tryz.prog os Rows.treeTurnedUptoRow.laid).forCall (fun _ _ => 0) ⟨#[], #[.agg #[.int .u8 0, .string ⟨#[]⟩, .int .u8 0, .int .i64 0, .int .u64 0, .string ⟨#[]⟩, .slice none 0 0, .slice none 0 0, .slice none 0 0, .slice none 0 0, .int .i64 0], .slice none 0 0, .int .i64 0], []⟩).memory :=
  laidMet_laidAll _ (by kernel_rfl) (by kernel_rfl)
theorem turned_reads (os : Os) {H : Type} (enc : TypeId × Value → H) : ∃ places, DataW.whole enc Tryz.prog ((World.laidAll Tryz.prog os Rows.treeTurnedUptoRow.laid).forCall (fun _ _ => 0) ⟨#[], #[.agg #[.int .u8 0, .string ⟨#[]⟩, .int .u8 0, .int .i64 0, .int .u64 0, .string ⟨#[]⟩, .slice none 0 0, .slice none 0 0, .slice none 0 0, .slice none 0 0, .int .i64 0], .slice none 0 0, .int .i64 0], []⟩).memory fn9.params.toList Rows.treeTurnedSpec.vars false (#[.agg #[.int .u8 0, .string ⟨#[]⟩, .int .u8 0, .int .i64 0, .int .u64 0, .string ⟨#[]⟩, .slice none 0 0, .slice none 0 0, .slice none 0 0, .slice none 0 0, .int .i64 0], .slice none 0 0, .int .i64 0] : Array Value).toList 8 = some ([.agg [.lit (.int .u8 0), .lit (.string []), .agg [.lit (.int .u8 0), .lit (.int .i64 0), .lit (.int .u64 0), .lit (.string []), .nil], .nil, .nil, .nil, .lit (.int .i64 0)], .nil, .lit (.int .i64 0)], [], places) :=
  ⟨[], by kernel_rfl⟩
theorem turned_lifted (os : Os) (started : os.Started) (H : Type) (enc : TypeId × Value → H) (F : Stop.Interp) :
    ReturnsInHanded {} Tryz.checked os 9 .any ((Rows.OpenSpec.upto Rows.treeTurnedSpec).preRow enc Tryz.prog fn9 Rows.treeTurnedUptoRow.domain false Rows.treeTurnedUptoRow.laid) (((Rows.OpenSpec.upto Rows.treeTurnedSpec).at F).post enc Tryz.prog fn9 false true false false) := by
  obtain ⟨places, hx⟩ := turned_reads os enc
  refine returnsInHanded_of_row (C := Tryz.checked) (s := Rows.OpenSpec.upto Rows.treeTurnedSpec) own started (by kernel_rfl) func9
    (witness_row_at (enc := enc) (C := Tryz.checked) false (World.laidAll Tryz.prog os Rows.treeTurnedUptoRow.laid) #[.agg #[.int .u8 0, .string ⟨#[]⟩, .int .u8 0, .int .i64 0, .int .u64 0, .string ⟨#[]⟩, .slice none 0 0, .slice none 0 0, .slice none 0 0, .slice none 0 0, .int .i64 0], .slice none 0 0, .int .i64 0] (World.laidAll_os _ _ _) (by kernel_rfl) (by kernel_rfl) (by kernel_rfl)
      (OpenSpec.preRow_of_cond 8 hx (by kernel_rfl) (fun k hk => by cases hk; kernel_rfl) (by kernel_rfl) (turned_met os))) ?_
  intro W base args ds gs before hval hW _ hcond _ hL hS _
  exact turned_contract H enc W base args ds gs before hval hW (hcond _ rfl) hL
theorem treeTurned_over : Rows.TreeTurnedUptoSaid :=
  OpenClaim.holds_of_cond 9 fn9 rfl rfl rfl rfl rfl rfl rfl ⟨rfl, rfl, rfl, rfl, rfl⟩ rfl rfl rfl rfl rfl (by kernel_rfl) func9 (by kernel_rfl)
    (of_decide_eq_true (by kernel_rfl)) (by unfold Func.isWrapper; first | (rw [if_pos (by decide +kernel)]; kernel_rfl) | (rw [if_neg (by decide +kernel)]; exact ⟨rfl, rfl⟩))
    (fun os started H enc _ F => by rw [OpenClaim.pre_eq_preRow]; exact turned_lifted os started H enc F)
theorem turned_plain (f : FuncId) (fn : Func) (hf : Tryz.pinned.checked.prog.funcNamed "palaver/palaverlaw15.TreeTurned" = some f) (hfn : Tryz.pinned.checked.prog.funcs[f]? = some fn) :
    true = Tryz.pinned.checked.prog.looks [] ∧ ∀ (j : Nat) t, fn.params[j]? = some t → Tryz.pinned.checked.prog.wantsStandIn t = false := by
  obtain rfl : f = 9 := Option.some.inj ((show Tryz.prog.funcNamed "palaver/palaverlaw15.TreeTurned" = some 9 by kernel_rfl).symm.trans hf) |>.symm
  obtain rfl : fn = fn9 := (Option.some.inj (func9.symm.trans hfn)).symm
  refine ⟨by kernel_rfl, fun j t ht => ?_⟩
  rw [params9] at ht
  have hm : t ∈ [48, 62, 3] := by simpa using Array.mem_of_getElem? ht
  have hall : [48, 62, 3].all (fun t => Tryz.prog.wantsStandIn t == false) = true := by kernel_rfl
  exact (show Tryz.prog.wantsStandIn t = false from by simpa using List.all_eq_true.1 hall t hm)
theorem treeTurned_card : Rows.TreeTurnedUptoCardSaid :=
  Claim7.holds_tied_plain_at .later [] _ _ _ _ treeTurned_over (fun _ h => by cases h) (by kernel_rfl) (fun _ h => by cases h) treeTurnedUpto_row_tie rfl ⟨rfl, rfl⟩ (by kernel_rfl) rfl turned_plain (by kernel_rfl)
end
end Go.Proofs.YtmnmandpdadedaaGreatDoor

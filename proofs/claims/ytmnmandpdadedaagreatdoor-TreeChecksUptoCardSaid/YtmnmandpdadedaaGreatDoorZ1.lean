/-
  TreeChecks: every method may be, or may not, as the document says; and two are the same, but for places, just where it says so: the statement in its second form, and its card, for whatever is handed in of the bulk that the form allows.
-/
import Derived.Test.YtmnmandpdadedaaGreatDoorT15
set_option linter.unusedSimpArgs false
set_option linter.unusedVariables false
namespace Go.Proofs.YtmnmandpdadedaaGreatDoor
open Go Go.V Go.ChangeShapes Go.WideShapes Go.Deep
set_option maxRecDepth 100000
section
noncomputable def fn3 : Func := (Tryz.prog.funcs[3]?).getD default
theorem func3 : Tryz.prog.funcs[3]? = some fn3 := by kernel_rfl
theorem params3 : fn3.params = #[25, 25] := by kernel_rfl
theorem result3 : fn3.resultTypes = #[4] := by kernel_rfl
theorem checks_err {W : World} (h : laidMet Tryz.prog Rows.treeChecksUptoRow.laid W) {A : List kE} (hA : ∀ a : kE, a.holds W -> a ∈ A) : ErA A :=
  err_in (laidMet.tail (laidMet.tail (laidMet.tail (laidMet.tail h)))) ⟨_, _, rfl⟩ hA
theorem checks_contract (H : Type) (enc : TypeId × Value -> H) (W : World) (base : Nat) (args : Array Value) (ds gs : List (DataW H)) (before : List MemPlace)
    (hval : ∀ (j : Nat) t v, fn3.params[j]? = some t -> args[j]? = some v -> Value.okWide Tryz.prog W .any base t v)
    (hW : DataW.Whole enc Tryz.prog fn3.params.toList Rows.treeChecksSpec.vars false W args.toList ds gs before) (hk : Rows.uptoSmall H (ds ++ gs) = true) (hL : laidMetH Tryz.prog Rows.treeChecksUptoRow.laid W) :
    Calls Tryz.prog 3 args W fun e W' => ∃ v, e = .returned v /\ Rows.treeChecksSpec.post enc Tryz.prog fn3 false true false false W args v W' := by
  have hW' := hW;obtain ⟨p, q, hA, hV, rfl, hfz, _⟩ := hW;rw [params3] at hA hval;obtain ⟨v0, vs0, d0, ds0, p0, q0, hargs, rfl, rfl, h0, r0⟩ := trodAll_cons hA;obtain ⟨v1, vs1, d1, ds1, p1, q1, rfl, rfl, rfl, h1, r1⟩ := trodAll_cons r0;obtain ⟨rfl, rfl, rfl⟩ := trodAll_nil r1;obtain rfl : args = #[v0, v1] := by cases args;simp_all
  obtain ⟨rfl, rfl⟩ := trodVars_none hV;have hb := of_decide_eq_true hk;simp only [List.append_nil, Rows.uptoBulkAll, Nat.add_zero] at hb;refine glue (args := [v0, v1]) rfl result3 u4 rfl closedP (by rw [params3];simp) hW' (fun A hA' => ?_);obtain ⟨cs0, rfl⟩ := md_form (hval 0 25 v0 rfl rfl);obtain ⟨n0, h0⟩ := h0;simp only [Value.cells] at h0;obtain ⟨x0, hx0, hxb0⟩ := rd_md hA' n0 cs0 _ (by show Rows.uptoBulk d0 <= _;omega) h0 (fun b o h => hfz b o (by simp [h]));simp only at hxb0;obtain ⟨cs1, rfl⟩ := md_form (hval 1 25 v1 rfl rfl);obtain ⟨n1, h1⟩ := h1;simp only [Value.cells] at h1;obtain ⟨x1, hx1, hxb1⟩ := rd_md hA' n1 cs1 _ (by show Rows.uptoBulk d1 <= _;omega) h1 (fun b o h => hfz b o (by simp [h]));simp only at hxb1;exact TreeChecks_spec A (checks_err hL hA') x0 Zo cs0 hx0 x1 Zo cs1 hx1
theorem checks_met (os : Os) : laidMet Tryz.prog Rows.treeChecksUptoRow.laid ((World.laidAll Tryz.prog os Rows.treeChecksUptoRow.laid).forCall (fun _ _ => 0) ⟨#[], #[.agg #[.string ⟨#[]⟩, .slice none 0 0, .slice none 0 0, .int .i64 0, .slice none 0 0], .agg #[.string ⟨#[]⟩, .slice none 0 0, .slice none 0 0, .int .i64 0, .slice none 0 0]], []⟩).memory :=
  laidMet_laidAll _ (by kernel_rfl) (by kernel_rfl)
theorem checks_reads (os : Os) {H : Type} (enc : TypeId × Value -> H) : ∃ places, DataW.whole enc Tryz.prog ((World.laidAll Tryz.prog os Rows.treeChecksUptoRow.laid).forCall (fun _ _ => 0) ⟨#[], #[.agg #[.string ⟨#[]⟩, .slice none 0 0, .slice none 0 0, .int .i64 0, .slice none 0 0], .agg #[.string ⟨#[]⟩, .slice none 0 0, .slice none 0 0, .int .i64 0, .slice none 0 0]], []⟩).memory fn3.params.toList Rows.treeChecksSpec.vars false (#[.agg #[.string ⟨#[]⟩, .slice none 0 0, .slice none 0 0, .int .i64 0, .slice none 0 0], .agg #[.string ⟨#[]⟩, .slice none 0 0, .slice none 0 0, .int .i64 0, .slice none 0 0]] : Array Value).toList 8 = some ([.agg [.lit (.string []), .nil, .nil, .lit (.int .i64 0), .nil], .agg [.lit (.string []), .nil, .nil, .lit (.int .i64 0), .nil]], [], places) :=
  ⟨[], by kernel_rfl⟩
theorem checks_lifted (os : Os) (started : os.Started) (H : Type) (enc : TypeId × Value -> H) (F : Stop.Interp) :
    ReturnsInHanded {} Tryz.checked os 3 .any ((Rows.OpenSpec.upto Rows.treeChecksSpec).preRow enc Tryz.prog fn3 Rows.treeChecksUptoRow.domain false Rows.treeChecksUptoRow.laid) (((Rows.OpenSpec.upto Rows.treeChecksSpec).at F).post enc Tryz.prog fn3 false true false false) := by
  obtain ⟨places, hx⟩ := checks_reads os enc;refine returnsInHanded_of_row (C := Tryz.checked) (s := Rows.OpenSpec.upto Rows.treeChecksSpec) own started (by kernel_rfl) func3
    (witness_row_at (enc := enc) (C := Tryz.checked) false (World.laidAll Tryz.prog os Rows.treeChecksUptoRow.laid) #[.agg #[.string ⟨#[]⟩, .slice none 0 0, .slice none 0 0, .int .i64 0, .slice none 0 0], .agg #[.string ⟨#[]⟩, .slice none 0 0, .slice none 0 0, .int .i64 0, .slice none 0 0]] (World.laidAll_os _ _ _) (by kernel_rfl) (by kernel_rfl) (by kernel_rfl)
      (OpenSpec.preRow_of_cond 8 hx (by kernel_rfl) (fun k hk => by cases hk;kernel_rfl) (by kernel_rfl) (checks_met os))) ?_
  intro W base args ds gs before hval hW _ hcond _ hL hS _;exact checks_contract H enc W base args ds gs before hval hW (hcond _ rfl) hL
theorem treeChecks_over : Rows.TreeChecksUptoSaid :=
  OpenClaim.holds_of_cond 3 fn3 rfl rfl rfl rfl rfl rfl rfl ⟨rfl, rfl, rfl, rfl, rfl⟩ rfl rfl rfl rfl rfl (by kernel_rfl) func3 (by kernel_rfl)
    (of_decide_eq_true (by kernel_rfl)) (by unfold Func.isWrapper;first | (rw [if_pos (by decide +kernel)];kernel_rfl) | (rw [if_neg (by decide +kernel)];exact ⟨rfl, rfl⟩))
    (fun os started H enc _ F => by rw [OpenClaim.pre_eq_preRow];exact checks_lifted os started H enc F)
theorem checks_plain (f : FuncId) (fn : Func) (hf : Tryz.pinned.checked.prog.funcNamed "palaver/palaverlaw15.TreeChecks" = some f) (hfn : Tryz.pinned.checked.prog.funcs[f]? = some fn) :
    true = Tryz.pinned.checked.prog.looks [] /\ ∀ (j : Nat) t, fn.params[j]? = some t -> Tryz.pinned.checked.prog.wantsStandIn t = false := by
  obtain rfl : f = 3 := Option.some.inj ((show Tryz.prog.funcNamed "palaver/palaverlaw15.TreeChecks" = some 3 by kernel_rfl).symm.trans hf) |>.symm
  obtain rfl : fn = fn3 := (Option.some.inj (func3.symm.trans hfn)).symm;refine ⟨by kernel_rfl, fun j t ht => ?_⟩;rw [params3] at ht;have hm : t ∈ [25, 25] := by simpa using Array.mem_of_getElem? ht
  have hall : [25, 25].all (fun t => Tryz.prog.wantsStandIn t == false) = true := by kernel_rfl
  exact (show Tryz.prog.wantsStandIn t = false from by simpa using List.all_eq_true.1 hall t hm)
theorem treeChecks_card : Rows.TreeChecksUptoCardSaid :=
  Claim7.holds_tied_plain_at .later [] _ _ _ _ treeChecks_over (fun _ h => by cases h) (by kernel_rfl) (fun _ h => by cases h) treeChecksUpto_row_tie rfl ⟨rfl, rfl⟩ (by kernel_rfl) rfl checks_plain (by kernel_rfl)
end
end Go.Proofs.YtmnmandpdadedaaGreatDoor

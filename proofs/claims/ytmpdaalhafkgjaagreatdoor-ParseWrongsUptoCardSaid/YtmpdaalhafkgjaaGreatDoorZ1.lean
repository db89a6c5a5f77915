/-
  The statement on errors' ends: the statement in its second form, and its card, for whatever is handed in of the bulk that the form allows.
-/
import Derived.Test.YtmpdaalhafkgjaaGreatDoorS4
set_option linter.unusedSimpArgs false
set_option linter.unusedVariables false
namespace Go.Proofs.YtmpdaalhafkgjaaGreatDoor
open Go Go.V Go.ChangeShapes Go.WideShapes Go.Deep
set_option maxRecDepth 100000
section
noncomputable def fn3 : Func := (Tryz.prog.funcs[3]?).getD default
theorem func3 : Tryz.prog.funcs[3]? = some fn3 := by kernel_rfl
theorem params3 : fn3.params = #[3, 3, 3, 9] := by kernel_rfl
theorem result3 : fn3.resultTypes = #[4] := by kernel_rfl
theorem parseWrongs_contract (H : Type) (enc : TypeId × Value → H) (W : World) (base : Nat) (args : Array Value) (ds gs : List (DataW H)) (before : List MemPlace)
    (hval : ∀ (j : Nat) t v, fn3.params[j]? = some t → args[j]? = some v → Value.okWide Tryz.prog W .any base t v)
    (hW : DataW.Whole enc Tryz.prog fn3.params.toList Rows.parseWrongsSpec.vars false W args.toList ds gs before) (hk : Rows.uptoSmall H (ds ++ gs) = true) (hL : laidMetH Tryz.prog Rows.parseWrongsUptoRow.laid W) (hS : W.ShapedOpen Tryz.prog) :
    Calls Tryz.prog 3 args W fun e W' => ∃ v, e = .returned v ∧ Rows.parseWrongsSpec.post enc Tryz.prog fn3 false true false false W args v W' := by
  have hW' := hW
  obtain ⟨p, q, hA, hV, rfl, hfz, _⟩ := hW
  rw [params3] at hA hval
  obtain ⟨v0, vs0, d0, ds0, p0, q0, hargs, rfl, rfl, h0, r0⟩ := trodAll_cons hA
  obtain ⟨v1, vs1, d1, ds1, p1, q1, rfl, rfl, rfl, h1, r1⟩ := trodAll_cons r0
  obtain ⟨v2, vs2, d2, ds2, p2, q2, rfl, rfl, rfl, h2, r2⟩ := trodAll_cons r1
  obtain ⟨v3, vs3, d3, ds3, p3, q3, rfl, rfl, rfl, h3, r3⟩ := trodAll_cons r2
  obtain ⟨rfl, rfl, rfl⟩ := trodAll_nil r3
  obtain rfl : args = #[v0, v1, v2, v3] := by cases args; simp_all
  obtain ⟨rfl, rfl⟩ := trodVars_none hV
  have hb := of_decide_eq_true hk
  simp only [List.append_nil, Rows.uptoBulkAll, Nat.add_zero] at hb
  refine glue (args := [v0, v1, v2, v3]) rfl result3 u4 rfl closedP (by rw [params3]; simp) hW' (fun A hA' => ?_)
  obtain ⟨n, rfl⟩ := int_form (hval 0 3 v0 rfl rfl) h0
  obtain ⟨a, rfl⟩ := int_form (hval 1 3 v1 rfl rfl) h1
  obtain ⟨b, rfl⟩ := int_form (hval 2 3 v2 rfl rfl) h2
  obtain ⟨s, rfl, hs⟩ := str_form (hval 3 9 v3 rfl rfl) h3 (by show Rows.uptoBulk d3 ≤ _; omega)
  exact parseWrongs_spec A (err_in hL hS hA') (awake_spec A (err_in hL hS hA')) n a b s hs
theorem parseWrongs_reads (os : Os) {H : Type} (enc : TypeId × Value → H) : ∃ places, DataW.whole enc Tryz.prog ((wW os).forCall (fun _ _ => 0) ⟨#[], #[.int .i64 0, .int .i64 0, .int .i64 0, .string ⟨#[]⟩], []⟩).memory fn3.params.toList Rows.parseWrongsSpec.vars false (#[.int .i64 0, .int .i64 0, .int .i64 0, .string ⟨#[]⟩] : Array Value).toList 8 = some ([.lit (.int .i64 0), .lit (.int .i64 0), .lit (.int .i64 0), .lit (.string [])], [], places) :=
  ⟨[], by kernel_rfl⟩
theorem parseWrongs_lifted (os : Os) (started : os.Started) (H : Type) (enc : TypeId × Value → H) (F : Stop.Interp) :
    ReturnsInHanded {} Tryz.checked os 3 .any ((Rows.OpenSpec.upto Rows.parseWrongsSpec).preRow enc Tryz.prog fn3 Rows.parseWrongsUptoRow.domain false Rows.parseWrongsUptoRow.laid) (((Rows.OpenSpec.upto Rows.parseWrongsSpec).at F).post enc Tryz.prog fn3 false true false false) := by
  obtain ⟨places, hx⟩ := parseWrongs_reads os enc
  refine returnsInHanded_of_row (C := Tryz.checked) (s := Rows.OpenSpec.upto Rows.parseWrongsSpec) own started (by kernel_rfl) func3
    (witZ (enc := enc) (C := Tryz.checked) (wW os) #[.int .i64 0, .int .i64 0, .int .i64 0, .string ⟨#[]⟩] (wW_os os) (World.shaped_of_ZipB (by kernel_rfl) (by kernel_rfl)) (by kernel_rfl)
      (OpenSpec.preRow_of_cond 8 hx (by kernel_rfl) (fun k hk => by cases hk; kernel_rfl) (by kernel_rfl) (wW_met os))) ?_
  intro W base args ds gs before hval hW _ hcond _ hL hS _
  exact parseWrongs_contract H enc W base args ds gs before hval hW (hcond _ rfl) hL hS
theorem parseWrongs_over : Rows.ParseWrongsUptoSaid :=
  OpenClaim.holds_of_cond 3 fn3 rfl rfl rfl rfl rfl rfl rfl ⟨rfl, rfl, rfl, rfl, rfl⟩ rfl rfl rfl rfl rfl (by kernel_rfl) func3 (by kernel_rfl)
    (of_decide_eq_true (by kernel_rfl)) (by unfold Func.isWrapper; first | (rw [if_pos (by decide +kernel)]; kernel_rfl) | (rw [if_neg (by decide +kernel)]; exact ⟨rfl, rfl⟩))
    (fun os started H enc _ F => by rw [OpenClaim.pre_eq_preRow]; exact parseWrongs_lifted os started H enc F)
theorem parseWrongs_plain (f : FuncId) (fn : Func) (hf : Tryz.pinned.checked.prog.funcNamed "palaver/palaverlaw16.ParseWrongs" = some f) (hfn : Tryz.pinned.checked.prog.funcs[f]? = some fn) :
    true = Tryz.pinned.checked.prog.looks [] ∧ ∀ (j : Nat) t, fn.params[j]? = some t → Tryz.pinned.checked.prog.wantsStandIn t = false := by
  obtain rfl : f = 3 := Option.some.inj ((show Tryz.prog.funcNamed "palaver/palaverlaw16.ParseWrongs" = some 3 by kernel_rfl).symm.trans hf) |>.symm
  obtain rfl : fn = fn3 := (Option.some.inj (func3.symm.trans hfn)).symm
  refine ⟨by kernel_rfl, fun j t ht => ?_⟩
  rw [params3] at ht
  have hm : t ∈ [3, 3, 3, 9] := by simpa using Array.mem_of_getElem? ht
  have hall : [3, 3, 3, 9].all (fun t => Tryz.prog.wantsStandIn t == false) = true := by kernel_rfl
  exact (show Tryz.prog.wantsStandIn t = false from by simpa using List.all_eq_true.1 hall t hm)
theorem parseWrongs_card : Rows.ParseWrongsUptoCardSaid :=
  Claim7.holds_tied_plain_at .later [] _ _ _ _ parseWrongs_over (fun _ h => by cases h) (by kernel_rfl) (fun _ h => by cases h) parseWrongsUpto_row_tie rfl ⟨rfl, rfl⟩ (by kernel_rfl) rfl parseWrongs_plain (by kernel_rfl)
end
end Go.Proofs.YtmpdaalhafkgjaaGreatDoor

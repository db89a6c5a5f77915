/-
  The statement on signs: the statement in its second form, and its card, for whatever is handed in of the bulk that the form allows.
-/
import Derived.Test.YtehglapljnehgaaGreatDoorS3
set_option linter.unusedSimpArgs false
set_option linter.unusedVariables false
namespace Go.Proofs.YtehglapljnehgaaGreatDoor
open Go Go.V Go.ChangeShapes Go.WideShapes Go.Deep
set_option maxRecDepth 100000
section
noncomputable def fn6 : Func := (Tryz.prog.funcs[6]?).getD default
theorem func6 : Tryz.prog.funcs[6]? = some fn6 := by kernel_rfl
theorem params6 : fn6.params = #[9, 40] := by kernel_rfl
theorem result6 : fn6.resultTypes = #[4] := by kernel_rfl
theorem scanTurns_err {W : World} (h : laidMet Tryz.prog Rows.scanTurnsUptoRow.laid W) {A : List Atom} (hA : ∀ a : Atom, a.holds W → a ∈ A) : ErA A :=
  err_in (laidMet.tail (laidMet.tail (laidMet.tail (laidMet.tail (laidMet.tail (laidMet.tail (laidMet.tail (laidMet.tail (laidMet.tail (laidMet.tail h)))))))))) ⟨_, _, rfl⟩ hA
theorem scanTurns_pow {W : World} (h : laidMet Tryz.prog Rows.scanTurnsUptoRow.laid W) {A : List Atom} (hA : ∀ a : Atom, a.holds W → a ∈ A) : PwA A :=
  pw_in (laidMet.tail (laidMet.tail (laidMet.tail (laidMet.tail (laidMet.tail (laidMet.tail (laidMet.tail (laidMet.tail h)))))))) hA
theorem scanTurns_contract (H : Type) (enc : TypeId × Value → H) (W : World) (base : Nat) (args : Array Value) (ds gs : List (DataW H)) (before : List MemPlace)
    (hval : ∀ (j : Nat) t v, fn6.params[j]? = some t → args[j]? = some v → Value.okWide Tryz.prog W .any base t v)
    (hW : DataW.Whole enc Tryz.prog fn6.params.toList Rows.scanTurnsSpec.vars false W args.toList ds gs before) (hk : Rows.uptoSmall H (ds ++ gs) = true) (hL : laidMetH Tryz.prog Rows.scanTurnsUptoRow.laid W) :
    Calls Tryz.prog 6 args W fun e W' => ∃ v, e = .returned v ∧ Rows.scanTurnsSpec.post enc Tryz.prog fn6 false true false false W args v W' := by
  have hW' := hW
  obtain ⟨p, q, hA, hV, rfl, hfz, _⟩ := hW
  rw [params6] at hA hval
  obtain ⟨v0, vs0, d0, ds0, p0, q0, hargs, rfl, rfl, h0, r0⟩ := trodAll_cons hA
  obtain ⟨v1, vs1, d1, ds1, p1, q1, rfl, rfl, rfl, h1, r1⟩ := trodAll_cons r0
  obtain ⟨rfl, rfl, rfl⟩ := trodAll_nil r1
  obtain rfl : args = #[v0, v1] := by cases args; simp_all
  obtain ⟨rfl, rfl⟩ := trodVars_none hV
  have hb := of_decide_eq_true hk
  simp only [List.append_nil, Rows.uptoBulkAll, Nat.add_zero] at hb
  refine glue (args := [v0, v1]) rfl result6 u4 rfl closedP (by rw [params6]; simp) hW' (fun A hA' => ?_)
  obtain ⟨s0, rfl, hs0⟩ := str_form (hval 0 9 v0 rfl rfl) h0 (by show Rows.uptoBulk d0 ≤ _; omega)
  obtain ⟨z1, rfl, hz1⟩ := u64_form (hval 1 40 v1 rfl rfl) h1
  exact scanTurns_spec A (scanTurns_err hL hA') (scanTurns_pow hL hA') s0 hs0 z1 hz1
theorem scanTurns_met (os : Os) : laidMet Tryz.prog Rows.scanTurnsUptoRow.laid ((World.laidAll Tryz.prog os Rows.scanTurnsUptoRow.laid).forCall (fun _ _ => 0) ⟨#[], #[.string ⟨#[]⟩, .int .u64 0], []⟩).memory :=
  laidMet_laidAll _ (by kernel_rfl) (by kernel_rfl)
theorem scanTurns_reads (os : Os) {H : Type} (enc : TypeId × Value → H) : ∃ places, DataW.whole enc Tryz.prog ((World.laidAll Tryz.prog os Rows.scanTurnsUptoRow.laid).forCall (fun _ _ => 0) ⟨#[], #[.string ⟨#[]⟩, .int .u64 0], []⟩).memory fn6.params.toList Rows.scanTurnsSpec.vars false (#[.string ⟨#[]⟩, .int .u64 0] : Array Value).toList 8 = some ([.lit (.string []), .lit (.int .u64 0)], [], places) :=
  ⟨[], by kernel_rfl⟩
theorem scanTurns_lifted (os : Os) (started : os.Started) (H : Type) (enc : TypeId × Value → H) (F : Stop.Interp) :
    ReturnsInHanded {} Tryz.checked os 6 .any ((Rows.OpenSpec.upto Rows.scanTurnsSpec).preRow enc Tryz.prog fn6 Rows.scanTurnsUptoRow.domain false Rows.scanTurnsUptoRow.laid) (((Rows.OpenSpec.upto Rows.scanTurnsSpec).at F).post enc Tryz.prog fn6 false true false false) := by
  obtain ⟨places, hx⟩ := scanTurns_reads os enc
  refine returnsInHanded_of_row (C := Tryz.checked) (s := Rows.OpenSpec.upto Rows.scanTurnsSpec) own started (by kernel_rfl) func6
    (witZ (enc := enc) (C := Tryz.checked) (World.laidAll Tryz.prog os Rows.scanTurnsUptoRow.laid) #[.string ⟨#[]⟩, .int .u64 0] (World.laidAll_os _ _ _) (World.shaped_of_ZipB (by kernel_rfl) (by kernel_rfl)) (by kernel_rfl)
      (OpenSpec.preRow_of_cond 8 hx (by kernel_rfl) (fun k hk => by cases hk; kernel_rfl) (by kernel_rfl) (scanTurns_met os))) ?_
  intro W base args ds gs before hval hW _ hcond _ hL hS _
  exact scanTurns_contract H enc W base args ds gs before hval hW (hcond _ rfl) hL
theorem scanTurns_over : Rows.ScanTurnsUptoSaid :=
  OpenClaim.holds_of_cond 6 fn6 rfl rfl rfl rfl rfl rfl rfl ⟨rfl, rfl, rfl, rfl, rfl⟩ rfl rfl rfl rfl rfl (by kernel_rfl) func6 (by kernel_rfl)
    (of_decide_eq_true (by kernel_rfl)) (by unfold Func.isWrapper; first | (rw [if_pos (by decide +kernel)]; kernel_rfl) | (rw [if_neg (by decide +kernel)]; exact ⟨rfl, rfl⟩))
    (fun os started H enc _ F => by rw [OpenClaim.pre_eq_preRow]; exact scanTurns_lifted os started H enc F)
theorem scanTurns_plain (f : FuncId) (fn : Func) (hf : Tryz.pinned.checked.prog.funcNamed "palaver/palaverlaw14.ScanTurns" = some f) (hfn : Tryz.pinned.checked.prog.funcs[f]? = some fn) :
    true = Tryz.pinned.checked.prog.looks [] ∧ ∀ (j : Nat) t, fn.params[j]? = some t → Tryz.pinned.checked.prog.wantsStandIn t = false := by
  obtain rfl : f = 6 := Option.some.inj ((show Tryz.prog.funcNamed "palaver/palaverlaw14.ScanTurns" = some 6 by kernel_rfl).symm.trans hf) |>.symm
  obtain rfl : fn = fn6 := (Option.some.inj (func6.symm.trans hfn)).symm
  refine ⟨by kernel_rfl, fun j t ht => ?_⟩
  rw [params6] at ht
  have hm : t ∈ [9, 40] := by simpa using Array.mem_of_getElem? ht
  have hall : [9, 40].all (fun t => Tryz.prog.wantsStandIn t == false) = true := by kernel_rfl
  exact (show Tryz.prog.wantsStandIn t = false from by simpa using List.all_eq_true.1 hall t hm)
theorem scanTurns_card : Rows.ScanTurnsUptoCardSaid :=
  Claim7.holds_tied_plain_at .later [] _ _ _ _ scanTurns_over (fun _ h => by cases h) (by kernel_rfl) (fun _ h => by cases h) scanTurnsUpto_row_tie rfl ⟨rfl, rfl⟩ (by kernel_rfl) rfl scanTurns_plain (by kernel_rfl)
end
end Go.Proofs.YtehglapljnehgaaGreatDoor

/-
  What is handed in, how big it is; the table of the library; a world for the witness.
-/
import Derived.Test.YtmlnoodopoaafaaDoorV19
import Derived.Test.YtmlnoodopoaafaaDoorCards
import Derived.Test.YtmlnoodopoaafaaDoorTie
import Derived.OpenShut
import Derived.Deep.DeepHandedRow
import Derived.Lib.LaidTab
import Derived.JoinedCond
import Derived.KernelRfl
import Derived.Test.YtmlnoodopoaafaaDoorQ1
set_option linter.unusedSimpArgs false
set_option linter.unusedVariables false
namespace Go.Proofs.YtmlnoodopoaafaaDoor
open Go Go.V Go.ChangeShapes Go.WideShapes Go.Deep
set_option maxRecDepth 100000
section
variable {H : Type} {enc : TypeId × Value → H}
theorem u2 : Tryd.prog.underlying 2 = some (.int .i64) := by kernel_rfl
theorem u3 : Tryd.prog.underlying 3 = some (.int .i64) := by kernel_rfl
theorem u4 : Tryd.prog.underlying 4 = some .bool := by kernel_rfl
theorem u9 : Tryd.prog.underlying 9 = some .string := by kernel_rfl
theorem u22 : Tryd.prog.underlying 22 = some (.slice 23) := by kernel_rfl
theorem u23 : Tryd.prog.underlying 23 = some (.slice 3) := by kernel_rfl
theorem u47 : Tryd.prog.underlying 47 = some (.slice 2) := by kernel_rfl
theorem u56 : Tryd.prog.underlying 56 = some (.slice 4) := by kernel_rfl
theorem cells2 : Tryd.prog.cellsOf 2 = 1 := by kernel_rfl
theorem cells3 : Tryd.prog.cellsOf 3 = 1 := by kernel_rfl
theorem cells4 : Tryd.prog.cellsOf 4 = 1 := by kernel_rfl
theorem cells23 : Tryd.prog.cellsOf 23 = 1 := by kernel_rfl
theorem closedS : closedB Tryd.prog [2, 3, 4, 9, 22, 23, 47, 56] = true := by kernel_rfl
theorem closedP : Closed Tryd.prog (· ∈ [2, 3, 4, 9, 22, 23, 47, 56]) := closed_of closedS
theorem own : ownKnob Tryd.prog.godebug = none := by kernel_rfl
theorem bulk_one (d : DataW H) : 1 ≤ Rows.uptoBulk d := by
  cases d with
  | lit l => cases l <;> simp [Rows.uptoBulk]
  | _ => simp [Rows.uptoBulk]
theorem bulk_len (l : List (DataW H)) : l.length ≤ Rows.uptoBulkAll l := by
  induction l with
  | nil => simp
  | cons d r ih =>
    have := bulk_one d
    simp only [Rows.uptoBulkAll, List.length_cons]
    omega
theorem int_form {t : TypeId} (ht : Tryd.prog.underlying t = some (.int .i64)) {W : World} {base : Nat} {v : Value} {d : DataW H} {p : List MemPlace} (hv : Value.okWide Tryd.prog W .any base t v) (h : DataW.Trod enc Tryd.prog W 0 (fun _ => true) true t v d p) : ∃ n : Int, v = .int .i64 n ∧ -9223372036854775808 ≤ n ∧ n ≤ 9223372036854775807 := by
  obtain ⟨n, hn⟩ := h
  have hs : ∃ k z, v = .int k z := by
    cases v <;> simp only [Value.okWide, ht, Cell.okWide, Cell.ok] at hv
    exact ⟨_, _, rfl⟩
  obtain ⟨k, z, rfl⟩ := hs
  obtain ⟨m, hz, hx, hwf⟩ := DataW.trod_int ht hn
  simp only [Value.cells, List.cons.injEq, Value.int.injEq, and_true] at hz
  obtain ⟨rfl, rfl⟩ := hz
  refine ⟨z, rfl, ?_⟩
  simp [Lit.wf] at hwf
  have e1 : IntKind.i64.min = -9223372036854775808 := by decide
  have e2 : IntKind.i64.max = 9223372036854775807 := by decide
  omega
theorem str_form {W : World} {base : Nat} {v : Value} {d : DataW H} {p : List MemPlace} (hv : Value.okWide Tryd.prog W .any base 9 v) (h : DataW.Trod enc Tryd.prog W 0 (fun _ => true) true 9 v d p) : ∃ s : ByteArray, v = .string s := by
  cases v <;> simp only [Value.okWide, u9, Cell.okWide, Cell.ok] at hv
  exact ⟨_, rfl⟩
noncomputable def laidWorld (os : Os) : World :=
  { World.holding Tryd.prog os ⟨#[], #[], []⟩ with heap := (World.holding Tryd.prog os ⟨#[], #[], []⟩).heap.modify 0 fun
      | .cells _ t frozen => .cells (#[0, 1, 56, 2, 57, 49, 28, 3, 61, 58, 42, 50, 38, 29, 17, 4, 62, 47, 59, 36, 45, 43, 51, 22, 53, 39, 33, 30, 24, 18, 12, 5, 63, 55, 48, 27, 60, 41, 37, 16, 46, 35, 44, 21, 52, 32, 23, 11, 54, 26, 40, 15, 34, 20, 31, 10, 25, 14, 19, 9, 13, 8, 7, 6].map fun n => Value.int .u8 n) t frozen
      | o => o }
end
section
noncomputable def fn4 : Func := (Tryd.prog.funcs[4]?).getD default
theorem func4 : Tryd.prog.funcs[4]? = some fn4 := by kernel_rfl
theorem params4 : fn4.params = #[3, 47, 9, 3, 3] := by kernel_rfl
theorem result4 : fn4.resultTypes = #[4] := by kernel_rfl
theorem tells_contract (H : Type) (enc : TypeId × Value → H) (W : World) (base : Nat) (args : Array Value) (ds gs : List (DataW H)) (before : List MemPlace)
    (hval : ∀ (j : Nat) t v, fn4.params[j]? = some t → args[j]? = some v → Value.okWide Tryd.prog W .any base t v)
    (hW : DataW.Whole enc Tryd.prog fn4.params.toList Rows.graphTellsSpec.vars false W args.toList ds gs before) :
    Calls Tryd.prog 4 args W fun e W' => ∃ v, e = .returned v ∧ Rows.graphTellsSpec.post enc Tryd.prog fn4 false true false false W args v W' := by
  have hW' := hW
  obtain ⟨p, q, hA, hV, rfl, hfz, _⟩ := hW
  rw [params4] at hA hval
  obtain ⟨v0, vs0, d0, ds0, p0, q0, hargs, rfl, rfl, h0, r0⟩ := trodAll_cons hA
  obtain ⟨v1, vs1, d1, ds1, p1, q1, rfl, rfl, rfl, h1, r1⟩ := trodAll_cons r0
  obtain ⟨v2, vs2, d2, ds2, p2, q2, rfl, rfl, rfl, h2, r2⟩ := trodAll_cons r1
  obtain ⟨v3, vs3, d3, ds3, p3, q3, rfl, rfl, rfl, h3, r3⟩ := trodAll_cons r2
  obtain ⟨v4, vs4, d4, ds4, p4, q4, rfl, rfl, rfl, h4, r4⟩ := trodAll_cons r3
  obtain ⟨rfl, rfl, rfl⟩ := trodAll_nil r4
  obtain rfl : args = #[v0, v1, v2, v3, v4] := by cases args; simp_all
  obtain ⟨rfl, rfl⟩ := trodVars_none hV
  refine glue (args := [v0, v1, v2, v3, v4]) rfl result4 u4 rfl closedP (by rw [params4]; simp) hW' (fun A hA' => ?_)
  obtain ⟨c, rfl, _⟩ := int_form u3 (hval 0 3 v0 rfl rfl) h0
  obtain ⟨vs, hr, hs, _⟩ := rd_scal (sc := .int .i64) u47 u2 cells2 (hval 1 47 v1 rfl rfl) h1 (fun b o h => hfz b o (by simp [h])) hA'
  obtain ⟨xs, rfl⟩ := map_of (f := fun n : Int => Value.int .i64 n) (fun y hy => by obtain ⟨n, hn, _⟩ := hs y hy; exact ⟨n, hn⟩)
  obtain ⟨t, rfl⟩ := str_form (hval 2 9 v2 rfl rfl) h2
  obtain ⟨at_, rfl, ha⟩ := int_form u3 (hval 3 3 v3 rfl rfl) h3
  obtain ⟨how, rfl, _⟩ := int_form u3 (hval 4 3 v4 rfl rfl) h4
  refine graphTells_spec A c v1 xs ?_ t at_ how ha
  rcases hr with ⟨rfl, h, _⟩ | ⟨b, o, cp, rfl, _, _, hm⟩
  · have : xs = [] := by simpa using h
    subst this
    exact ⟨none, 0, rfl, fun i k h => by simp at h⟩
  · refine ⟨some ⟨b, o, none⟩, cp, by simp, fun i k h => ⟨b, o, rfl, hm _ (mem_cellsAt.2 ⟨i, .int .i64 k, by simp [h], rfl⟩)⟩⟩
theorem tells_met (os : Os) : laidMet Tryd.prog Rows.graphTellsUptoRow.laid ((laidWorld os).forCall (fun _ _ => 0) ⟨#[], #[.int .i64 0, .slice none 0 0, .string ⟨#[]⟩, .int .i64 0, .int .i64 0], []⟩).memory :=
  laidMet_of_run' 8 (by kernel_rfl) (by kernel_rfl)
theorem tells_reads (os : Os) {H : Type} (enc : TypeId × Value → H) : ∃ places, DataW.whole enc Tryd.prog ((laidWorld os).forCall (fun _ _ => 0) ⟨#[], #[.int .i64 0, .slice none 0 0, .string ⟨#[]⟩, .int .i64 0, .int .i64 0], []⟩).memory fn4.params.toList Rows.graphTellsSpec.vars false #[Value.int .i64 0, .slice none 0 0, .string ⟨#[]⟩, .int .i64 0, .int .i64 0].toList 8 = some ([.lit (.int .i64 0), .nil, .lit (.string []), .lit (.int .i64 0), .lit (.int .i64 0)], [], places) :=
  ⟨[], by kernel_rfl⟩
theorem tells_lifted (os : Os) (started : os.Started) (H : Type) (enc : TypeId × Value → H) (F : Stop.Interp) :
    ReturnsInHanded {} Tryd.checked os 4 .any ((Rows.OpenSpec.upto Rows.graphTellsSpec).preRow enc Tryd.prog fn4 Rows.graphTellsUptoRow.domain false Rows.graphTellsUptoRow.laid) (((Rows.OpenSpec.upto Rows.graphTellsSpec).at F).post enc Tryd.prog fn4 false true false false) := by
  obtain ⟨places, hx⟩ := tells_reads os enc
  refine returnsInHanded_of_row (C := Tryd.checked) (s := Rows.OpenSpec.upto Rows.graphTellsSpec) own started (by kernel_rfl) func4
    (witness_row_at (enc := enc) (C := Tryd.checked) false (laidWorld os) #[.int .i64 0, .slice none 0 0, .string ⟨#[]⟩, .int .i64 0, .int .i64 0] rfl (by kernel_rfl) (by kernel_rfl) (by kernel_rfl)
      (OpenSpec.preRow_of_cond 8 hx (by kernel_rfl) (fun k hk => by cases hk; kernel_rfl) (by kernel_rfl) (tells_met os))) ?_
  intro W base args ds gs before hval hW _ _ _ _ _ _
  exact tells_contract H enc W base args ds gs before hval hW
theorem graphTells_over : Rows.GraphTellsUptoSaid :=
  OpenClaim.holds_of_cond 4 fn4 rfl rfl rfl rfl rfl rfl rfl ⟨rfl, rfl, rfl, rfl, rfl⟩ rfl rfl rfl rfl rfl (by kernel_rfl) func4 (by kernel_rfl)
    (of_decide_eq_true (by kernel_rfl)) (by unfold Func.isWrapper; first | (rw [if_pos (by decide +kernel)]; kernel_rfl) | (rw [if_neg (by decide +kernel)]; exact ⟨rfl, rfl⟩))
    (fun os started H enc _ F => by rw [OpenClaim.pre_eq_preRow]; exact tells_lifted os started H enc F)
theorem tells_plain (f : FuncId) (fn : Func) (hf : Tryd.pinned.checked.prog.funcNamed "palaver/palaverlaw07.GraphTells" = some f) (hfn : Tryd.pinned.checked.prog.funcs[f]? = some fn) :
    false = Tryd.pinned.checked.prog.looks [] ∧ ∀ (j : Nat) t, fn.params[j]? = some t → Tryd.pinned.checked.prog.wantsStandIn t = false := by
  obtain rfl : f = 4 := Option.some.inj ((show Tryd.prog.funcNamed "palaver/palaverlaw07.GraphTells" = some 4 by kernel_rfl).symm.trans hf) |>.symm
  obtain rfl : fn = fn4 := (Option.some.inj (func4.symm.trans hfn)).symm
  refine ⟨by kernel_rfl, fun j t ht => ?_⟩
  rw [params4] at ht
  have hm : t ∈ [3, 47, 9, 3, 3] := by simpa using Array.mem_of_getElem? ht
  have hall : [3, 47, 9, 3, 3].all (fun t => Tryd.prog.wantsStandIn t == false) = true := by kernel_rfl
  exact (show Tryd.prog.wantsStandIn t = false from by simpa using List.all_eq_true.1 hall t hm)
theorem graphTells_card : Rows.GraphTellsUptoCardSaid :=
  Claim7.holds_tied_plain_at .later [] _ _ _ _ graphTells_over (fun _ h => by cases h) (by kernel_rfl) (fun _ h => by cases h) graphTellsUpto_row_tie rfl ⟨rfl, rfl⟩ (by kernel_rfl) rfl tells_plain (by kernel_rfl)
end
end Go.Proofs.YtmlnoodopoaafaaDoor

/-
  What is handed in, how big it is; the table of the library; a world for the witness.
-/
import Derived.Test.YtmlnoodopoaafaaDoorV19
import Derived.Test.YtmlnoodopoaafaaDoorCards
import Derived.Test.YtmlnoodopoaafaaDoorTie
import Derived.OpenShut
import Derived.Deep.DeepHandedRow
import Derived.Lib.LaidTab
import Derived.JoinedCond
import Derived.KernelRfl
set_option linter.unusedSimpArgs false
set_option linter.unusedVariables false
namespace Go.Proofs.YtmlnoodopoaafaaDoor
open Go Go.V Go.ChangeShapes Go.WideShapes Go.Deep
set_option maxRecDepth 100000
section
variable {H : Type} {enc : TypeId × Value → H}
theorem u2 : Tryd.prog.underlying 2 = some (.int .i64) := by kernel_rfl
theorem u3 : Tryd.prog.underlying 3 = some (.int .i64) := by kernel_rfl
theorem u4 : Tryd.prog.underlying 4 = some .bool := by kernel_rfl
theorem u9 : Tryd.prog.underlying 9 = some .string := by kernel_rfl
theorem u22 : Tryd.prog.underlying 22 = some (.slice 23) := by kernel_rfl
theorem u23 : Tryd.prog.underlying 23 = some (.slice 3) := by kernel_rfl
theorem u47 : Tryd.prog.underlying 47 = some (.slice 2) := by kernel_rfl
theorem u56 : Tryd.prog.underlying 56 = some (.slice 4) := by kernel_rfl
theorem cells2 : Tryd.prog.cellsOf 2 = 1 := by kernel_rfl
theorem cells3 : Tryd.prog.cellsOf 3 = 1 := by kernel_rfl
theorem cells4 : Tryd.prog.cellsOf 4 = 1 := by kernel_rfl
theorem cells23 : Tryd.prog.cellsOf 23 = 1 := by kernel_rfl
theorem closedS : closedB Tryd.prog [2, 3, 4, 9, 22, 23, 47, 56] = true := by kernel_rfl
theorem closedP : Closed Tryd.prog (· ∈ [2, 3, 4, 9, 22, 23, 47, 56]) := closed_of closedS
theorem own : ownKnob Tryd.prog.godebug = none := by kernel_rfl
theorem bulk_one (d : DataW H) : 1 ≤ Rows.uptoBulk d := by
  cases d with
  | lit l => cases l <;> simp [Rows.uptoBulk]
  | _ => simp [Rows.uptoBulk]
theorem bulk_len (l : List (DataW H)) : l.length ≤ Rows.uptoBulkAll l := by
  induction l with
  | nil => simp
  | cons d r ih =>
    have := bulk_one d
    simp only [Rows.uptoBulkAll, List.length_cons]
    omega
theorem int_form {t : TypeId} (ht : Tryd.prog.underlying t = some (.int .i64)) {W : World} {base : Nat} {v : Value} {d : DataW H} {p : List MemPlace} (hv : Value.okWide Tryd.prog W .any base t v) (h : DataW.Trod enc Tryd.prog W 0 (fun _ => true) true t v d p) : ∃ n : Int, v = .int .i64 n ∧ -9223372036854775808 ≤ n ∧ n ≤ 9223372036854775807 := by
  obtain ⟨n, hn⟩ := h
  have hs : ∃ k z, v = .int k z := by
    cases v <;> simp only [Value.okWide, ht, Cell.okWide, Cell.ok] at hv
    exact ⟨_, _, rfl⟩
  obtain ⟨k, z, rfl⟩ := hs
  obtain ⟨m, hz, hx, hwf⟩ := DataW.trod_int ht hn
  simp only [Value.cells, List.cons.injEq, Value.int.injEq, and_true] at hz
  obtain ⟨rfl, rfl⟩ := hz
  refine ⟨z, rfl, ?_⟩
  simp [Lit.wf] at hwf
  have e1 : IntKind.i64.min = -9223372036854775808 := by decide
  have e2 : IntKind.i64.max = 9223372036854775807 := by decide
  omega
theorem str_form {W : World} {base : Nat} {v : Value} {d : DataW H} {p : List MemPlace} (hv : Value.okWide Tryd.prog W .any base 9 v) (h : DataW.Trod enc Tryd.prog W 0 (fun _ => true) true 9 v d p) : ∃ s : ByteArray, v = .string s := by
  cases v <;> simp only [Value.okWide, u9, Cell.okWide, Cell.ok] at hv
  exact ⟨_, rfl⟩
noncomputable def laidWorld (os : Os) : World :=
  { World.holding Tryd.prog os ⟨#[], #[], []⟩ with heap := (World.holding Tryd.prog os ⟨#[], #[], []⟩).heap.modify 0 fun
      | .cells _ t frozen => .cells (#[0, 1, 56, 2, 57, 49, 28, 3, 61, 58, 42, 50, 38, 29, 17, 4, 62, 47, 59, 36, 45, 43, 51, 22, 53, 39, 33, 30, 24, 18, 12, 5, 63, 55, 48, 27, 60, 41, 37, 16, 46, 35, 44, 21, 52, 32, 23, 11, 54, 26, 40, 15, 34, 20, 31, 10, 25, 14, 19, 9, 13, 8, 7, 6].map fun n => Value.int .u8 n) t frozen
      | o => o }
end
end Go.Proofs.YtmlnoodopoaafaaDoor

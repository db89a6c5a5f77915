/-
  From what is handed in to lists; how big it is.
-/
import Derived.Test.YtklkngccaemjdaaGreatWG
import Derived.Test.YtklkngccaemjdaaGreatWK
import Derived.Test.YtklkngccaemjdaaGreatRows
import Derived.JoinedCond
import Derived.OpenShut
import Derived.KernelRfl
set_option linter.unusedSimpArgs false
set_option linter.unusedVariables false
namespace Go.Proofs.YtklkngccaemjdaaGreat
open Go Go.V Go.ChangeShapes Go.WideShapes Go.Deep
set_option maxRecDepth 100000
section
variable {H : Type} {enc : TypeId × Value → H}
theorem u2 : Tryz.prog.underlying 2 = some (.int .i64) := by kernel_rfl
theorem u3 : Tryz.prog.underlying 3 = some (.int .i64) := by kernel_rfl
theorem u4 : Tryz.prog.underlying 4 = some .bool := by kernel_rfl
theorem u9 : Tryz.prog.underlying 9 = some .string := by kernel_rfl
theorem u23 : Tryz.prog.underlying 23 = some (.slice 74) := by kernel_rfl
theorem u48 : Tryz.prog.underlying 48 = some (.int .u64) := by kernel_rfl
theorem u22 : Tryz.prog.underlying 22 = some (.slice 28) := by kernel_rfl
theorem u24 : Tryz.prog.underlying 24 = some (.slice 35) := by kernel_rfl
noncomputable def fields (t : Nat) : Array Field := match Tryz.prog.underlying t with | some (.struct fs) => fs | _ => #[]
theorem u74 : Tryz.prog.underlying 74 = some (.struct (fields 74)) := by kernel_rfl
theorem u28 : Tryz.prog.underlying 28 = some (.struct (fields 28)) := by kernel_rfl
theorem u35 : Tryz.prog.underlying 35 = some (.struct (fields 35)) := by kernel_rfl
theorem one74 : oneCellFields Tryz.prog (fields 74) = true := by kernel_rfl
theorem one28 : oneCellFields Tryz.prog (fields 28) = true := by kernel_rfl
theorem one35 : oneCellFields Tryz.prog (fields 35) = true := by kernel_rfl
theorem cells74 : Tryz.prog.cellsOf 74 = (fields 74).size := by kernel_rfl
theorem cells28 : Tryz.prog.cellsOf 28 = (fields 28).size := by kernel_rfl
theorem cells35 : Tryz.prog.cellsOf 35 = (fields 35).size := by kernel_rfl
theorem types74 : (fields 74).toList.map (fun f => Tryz.prog.underlying f.type) = [SC.str, .str].map (fun s => some s.td) := by kernel_rfl
theorem types28 : (fields 28).toList.map (fun f => Tryz.prog.underlying f.type) = [SC.int .u8, .int .i64, .str].map (fun s => some s.td) := by kernel_rfl
theorem types35 : (fields 35).toList.map (fun f => Tryz.prog.underlying f.type) = [SC.int .i64, .str, .str, .int .i64, .int .i64].map (fun s => some s.td) := by kernel_rfl
theorem closedS : closedB Tryz.prog [2, 3, 4, 9, 22, 23, 24, 26, 28, 35, 48, 74] = true := by kernel_rfl
theorem closedP : Closed Tryz.prog (· ∈ [2, 3, 4, 9, 22, 23, 24, 26, 28, 35, 48, 74]) := closed_of closedS
theorem own : ownKnob Tryz.prog.godebug = none := by kernel_rfl

theorem bulk_one (d : DataW H) : 1 ≤ Rows.uptoBulk d := by
  cases d with
  | lit l => cases l <;> simp [Rows.uptoBulk]
  | _ => simp [Rows.uptoBulk]
theorem bulk_len (l : List (DataW H)) : l.length ≤ Rows.uptoBulkAll l := by
  induction l with
  | nil => simp
  | cons d r ih =>
    have := bulk_one d
    simp only [Rows.uptoBulkAll, List.length_cons]
    omega
theorem bulk_mem {d : DataW H} {l : List (DataW H)} (h : d ∈ l) : Rows.uptoBulk d ≤ Rows.uptoBulkAll l := by
  induction l with
  | nil => cases h
  | cons e r ih =>
    simp only [Rows.uptoBulkAll]
    rcases List.mem_cons.1 h with rfl | h
    · omega
    · have := ih h; omega
theorem bulk_str (s : ByteArray) : s.size ≤ Rows.uptoBulk (valD (H := H) (.string s)) := by
  simp only [valD, Rows.uptoBulk]
  have : s.data.toList.length = s.size := by simp
  omega

theorem str_form {W : World} {base : Nat} {v : Value} {d : DataW H} {p : List MemPlace} (hv : Value.okWide Tryz.prog W .any base 9 v) (h : DataW.Trod enc Tryz.prog W 0 (fun _ => true) true 9 v d p) : ∃ s : ByteArray, v = .string s ∧ s.size ≤ Rows.uptoBulk d := by
  obtain ⟨n, hn⟩ := h
  have hs : ∃ s, v = .string s := by
    cases v <;> simp only [Value.okWide, u9, Cell.okWide, Cell.ok] at hv
    exact ⟨_, rfl⟩
  obtain ⟨s, rfl⟩ := hs
  obtain ⟨z, hz, hx, _⟩ := DataW.trod_string u9 hn
  cases hz
  cases hx
  exact ⟨s, rfl, bulk_str s⟩

theorem u64_form {W : World} {base : Nat} {v : Value} {d : DataW H} {p : List MemPlace} (hv : Value.okWide Tryz.prog W .any base 48 v) (h : DataW.Trod enc Tryz.prog W 0 (fun _ => true) true 48 v d p) : ∃ n : Int, v = .int .u64 n ∧ 0 ≤ n ∧ n < 18446744073709551616 := by
  obtain ⟨n, hn⟩ := h
  have hs : ∃ k z, v = .int k z := by
    cases v <;> simp only [Value.okWide, u48, Cell.okWide, Cell.ok] at hv
    exact ⟨_, _, rfl⟩
  obtain ⟨k, z, rfl⟩ := hs
  obtain ⟨m, hz, hx, hwf⟩ := DataW.trod_int u48 hn
  simp only [Value.cells, List.cons.injEq, Value.int.injEq, and_true] at hz
  obtain ⟨rfl, rfl⟩ := hz
  refine ⟨z, rfl, ?_⟩
  simp [Lit.wf] at hwf
  have e1 : IntKind.u64.min = 0 := by decide
  have e2 : IntKind.u64.max = 18446744073709551615 := by decide
  omega

theorem rdFiles {W : World} {base : Nat} {v : Value} {d : DataW H} {p : List MemPlace} {A : List Atom} (hv : Value.okWide Tryz.prog W .any base 23 v) (h : DataW.Trod enc Tryz.prog W 0 (fun _ => true) true 23 v d p) (hf : W.noneFrozen p) (hA : ∀ a : Atom, a.holds W → a ∈ A) :
    ∃ l : List (ByteArray × ByteArray), RdRow 2 A v l.length (l.flatMap fiEnc) ∧ l.length ≤ Rows.uptoBulk d ∧ ∀ s ∈ l, s.1.size ≤ Rows.uptoBulk d ∧ s.2.size ≤ Rows.uptoBulk d := by
  obtain ⟨rows, h1, h2, h3⟩ := rd_struct (scs := [.str, .str]) u23 u74 one74 cells74 types74 hv h hf hA
  obtain ⟨l, rfl⟩ := map_of (f := fiEnc) (l := rows) (fun y hy => by
    obtain ⟨g1, g2⟩ := h2 y hy
    obtain ⟨a, b, rfl⟩ : ∃ a b, y = [a, b] := by
      match y, g1 with
      | [a, b], _ => exact ⟨a, b, rfl⟩
    obtain ⟨s, rfl, _⟩ := g2 0 .str a rfl rfl
    obtain ⟨u, rfl, _⟩ := g2 1 .str b rfl rfl
    exact ⟨(s, u), rfl⟩)
  refine ⟨l, by simpa [List.flatMap_def] using h1, ?_⟩
  rcases h3 with ⟨rfl, hnil⟩ | ⟨sp, rfl⟩
  · have := congrArg List.length hnil; simp at this; subst this; simp
  · have := bulk_len (H := H) ((l.map fiEnc).map fun r => .agg (r.map valD))
    simp only [List.length_map] at this
    simp only [Rows.uptoBulk]
    refine ⟨by omega, fun s hs => ?_⟩
    have h4 := bulk_mem (H := H) (d := .agg ((fiEnc s).map valD)) (l := (l.map fiEnc).map fun r => .agg (r.map valD)) (List.mem_map.2 ⟨_, List.mem_map.2 ⟨s, hs, rfl⟩, rfl⟩)
    have h5 := bulk_mem (H := H) (d := valD (.string s.1)) (l := (fiEnc s).map valD) (by simp [fiEnc])
    have h6 := bulk_mem (H := H) (d := valD (.string s.2)) (l := (fiEnc s).map valD) (by simp [fiEnc])
    have h7 := bulk_str (H := H) s.1
    have h8 := bulk_str (H := H) s.2
    simp only [Rows.uptoBulk] at h4
    constructor <;> omega

theorem rdChoices {W : World} {base : Nat} {v : Value} {d : DataW H} {p : List MemPlace} {A : List Atom} (hv : Value.okWide Tryz.prog W .any base 22 v) (h : DataW.Trod enc Tryz.prog W 0 (fun _ => true) true 22 v d p) (hf : W.noneFrozen p) (hA : ∀ a : Atom, a.holds W → a ∈ A) :
    ∃ l : List Ch, RdRow 3 A v l.length (l.flatMap chEnc) ∧ l.length ≤ Rows.uptoBulk d := by
  obtain ⟨rows, h1, h2, h3⟩ := rd_struct (scs := [.int .u8, .int .i64, .str]) u22 u28 one28 cells28 types28 hv h hf hA
  obtain ⟨l, rfl⟩ := map_of (f := chEnc) (l := rows) (fun y hy => by
    obtain ⟨g1, g2⟩ := h2 y hy
    obtain ⟨a, b, c, rfl⟩ : ∃ a b c, y = [a, b, c] := by
      match y, g1 with
      | [a, b, c], _ => exact ⟨a, b, c, rfl⟩
    obtain ⟨s, rfl, _⟩ := g2 0 _ a rfl rfl
    obtain ⟨u, rfl, _⟩ := g2 1 _ b rfl rfl
    obtain ⟨x, rfl, _⟩ := g2 2 _ c rfl rfl
    exact ⟨⟨s, u, x⟩, rfl⟩)
  refine ⟨l, by simpa [List.flatMap_def] using h1, ?_⟩
  rcases h3 with ⟨rfl, hnil⟩ | ⟨sp, rfl⟩
  · have := congrArg List.length hnil; simp at this; subst this; simp
  · have := bulk_len (H := H) ((l.map chEnc).map fun r => .agg (r.map valD))
    simp only [List.length_map] at this
    simp only [Rows.uptoBulk]; omega
theorem rdActs {W : World} {base : Nat} {v : Value} {d : DataW H} {p : List MemPlace} {A : List Atom} (hv : Value.okWide Tryz.prog W .any base 24 v) (h : DataW.Trod enc Tryz.prog W 0 (fun _ => true) true 24 v d p) (hf : W.noneFrozen p) (hA : ∀ a : Atom, a.holds W → a ∈ A) :
    ∃ l : List ActW, RdRow 5 A v l.length (l.flatMap actEnc) ∧ l.length ≤ Rows.uptoBulk d ∧ ∀ s ∈ l, s.name.size ≤ Rows.uptoBulk d ∧ s.text.size ≤ Rows.uptoBulk d := by
  obtain ⟨rows, h1, h2, h3⟩ := rd_struct (scs := [.int .i64, .str, .str, .int .i64, .int .i64]) u24 u35 one35 cells35 types35 hv h hf hA
  obtain ⟨l, rfl⟩ := map_of (f := actEnc) (l := rows) (fun y hy => by
    obtain ⟨g1, g2⟩ := h2 y hy
    obtain ⟨a, b, c, e, f, rfl⟩ : ∃ a b c e f, y = [a, b, c, e, f] := by
      match y, g1 with
      | [a, b, c, e, f], _ => exact ⟨a, b, c, e, f, rfl⟩
    obtain ⟨k, rfl, _⟩ := g2 0 _ a rfl rfl
    obtain ⟨s, rfl, _⟩ := g2 1 _ b rfl rfl
    obtain ⟨u, rfl, _⟩ := g2 2 _ c rfl rfl
    obtain ⟨m, rfl, _⟩ := g2 3 _ e rfl rfl
    obtain ⟨n, rfl, _⟩ := g2 4 _ f rfl rfl
    exact ⟨⟨k, s, u, m, n⟩, rfl⟩)
  refine ⟨l, by simpa [List.flatMap_def] using h1, ?_⟩
  rcases h3 with ⟨rfl, hnil⟩ | ⟨sp, rfl⟩
  · have := congrArg List.length hnil; simp at this; subst this; simp
  · have := bulk_len (H := H) ((l.map actEnc).map fun r => .agg (r.map valD))
    simp only [List.length_map] at this
    simp only [Rows.uptoBulk]
    refine ⟨by omega, fun s hs => ?_⟩
    have h4 := bulk_mem (H := H) (d := .agg ((actEnc s).map valD)) (l := (l.map actEnc).map fun r => .agg (r.map valD)) (List.mem_map.2 ⟨_, List.mem_map.2 ⟨s, hs, rfl⟩, rfl⟩)
    have h5 := bulk_mem (H := H) (d := valD (.string s.name)) (l := (actEnc s).map valD) (by simp [actEnc])
    have h6 := bulk_mem (H := H) (d := valD (.string s.text)) (l := (actEnc s).map valD) (by simp [actEnc])
    have h7 := bulk_str (H := H) s.name
    have h8 := bulk_str (H := H) s.text
    simp only [Rows.uptoBulk] at h4
    constructor <;> omega

theorem i64_form {W : World} {base : Nat} {v : Value} {d : DataW H} {p : List MemPlace} (hv : Value.okWide Tryz.prog W .any base 3 v) (h : DataW.Trod enc Tryz.prog W 0 (fun _ => true) true 3 v d p) : ∃ n : Int, v = .int .i64 n ∧ -9223372036854775808 ≤ n ∧ n ≤ 9223372036854775807 := by
  obtain ⟨n, hn⟩ := h
  have hs : ∃ k z, v = .int k z := by
    cases v <;> simp only [Value.okWide, u3, Cell.okWide, Cell.ok] at hv
    exact ⟨_, _, rfl⟩
  obtain ⟨k, z, rfl⟩ := hs
  obtain ⟨m, hz, hx, hwf⟩ := DataW.trod_int u3 hn
  simp only [Value.cells, List.cons.injEq, Value.int.injEq, and_true] at hz
  obtain ⟨rfl, rfl⟩ := hz
  refine ⟨z, rfl, ?_⟩
  simp [Lit.wf] at hwf
  have e1 : IntKind.i64.min = -9223372036854775808 := by decide
  have e2 : IntKind.i64.max = 9223372036854775807 := by decide
  omega

end
end Go.Proofs.YtklkngccaemjdaaGreat

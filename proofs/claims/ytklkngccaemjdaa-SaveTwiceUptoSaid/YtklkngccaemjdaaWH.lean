/-
  From what is handed in to lists; how big it is.
-/
import Derived.Test.YtklkngccaemjdaaWG
import Derived.Test.YtklkngccaemjdaaRows
import Derived.JoinedCond
import Derived.OpenShut
import Derived.KernelRfl
set_option linter.unusedSimpArgs false
set_option linter.unusedVariables false
namespace Go.Proofs.Ytklkngccaemjdaa
open Go Go.V Go.ChangeShapes Go.WideShapes Go.Deep
set_option maxRecDepth 100000
section
variable {H : Type} {enc : TypeId × Value → H}
theorem u2 : Try.prog.underlying 2 = some (.int .i64) := by kernel_rfl
theorem u3 : Try.prog.underlying 3 = some (.int .i64) := by kernel_rfl
theorem u4 : Try.prog.underlying 4 = some .bool := by kernel_rfl
theorem u9 : Try.prog.underlying 9 = some .string := by kernel_rfl
theorem u22 : Try.prog.underlying 22 = some (.slice 3) := by kernel_rfl
theorem u23 : Try.prog.underlying 23 = some (.slice 9) := by kernel_rfl
theorem u39 : Try.prog.underlying 39 = some (.slice 46) := by kernel_rfl
theorem u40 : Try.prog.underlying 40 = some (.int .u64) := by kernel_rfl
theorem u48 : Try.prog.underlying 48 = some (.slice 64) := by kernel_rfl
theorem u54 : Try.prog.underlying 54 = some (.slice 57) := by kernel_rfl
noncomputable def fields (t : Nat) : Array Field := match Try.prog.underlying t with | some (.struct fs) => fs | _ => #[]
theorem u46 : Try.prog.underlying 46 = some (.struct (fields 46)) := by kernel_rfl
theorem u64 : Try.prog.underlying 64 = some (.struct (fields 64)) := by kernel_rfl
theorem u57 : Try.prog.underlying 57 = some (.struct (fields 57)) := by kernel_rfl
theorem one46 : oneCellFields Try.prog (fields 46) = true := by kernel_rfl
theorem one64 : oneCellFields Try.prog (fields 64) = true := by kernel_rfl
theorem one57 : oneCellFields Try.prog (fields 57) = true := by kernel_rfl
theorem cells3 : Try.prog.cellsOf 3 = 1 := by kernel_rfl
theorem cells9 : Try.prog.cellsOf 9 = 1 := by kernel_rfl
theorem cells46 : Try.prog.cellsOf 46 = (fields 46).size := by kernel_rfl
theorem cells64 : Try.prog.cellsOf 64 = (fields 64).size := by kernel_rfl
theorem cells57 : Try.prog.cellsOf 57 = (fields 57).size := by kernel_rfl
theorem types46 : (fields 46).toList.map (fun f => Try.prog.underlying f.type) = [SC.str, .str].map (fun s => some s.td) := by kernel_rfl
theorem types64 : (fields 64).toList.map (fun f => Try.prog.underlying f.type) = [SC.int .u8, .int .i64, .str].map (fun s => some s.td) := by kernel_rfl
theorem types57 : (fields 57).toList.map (fun f => Try.prog.underlying f.type) = [SC.int .i64, .str, .str, .int .i64, .int .i64].map (fun s => some s.td) := by kernel_rfl
theorem closedS : closedB Try.prog [2, 3, 4, 9, 22, 23, 39, 40, 46, 48, 54, 57, 62, 64] = true := by kernel_rfl
theorem closedP : Closed Try.prog (· ∈ [2, 3, 4, 9, 22, 23, 39, 40, 46, 48, 54, 57, 62, 64]) := closed_of closedS
theorem own : ownKnob Try.prog.godebug = none := by kernel_rfl

theorem bulk_one (d : DataW H) : 1 ≤ Rows.uptoBulk d := by
  cases d with
  | lit l => cases l <;> simp [Rows.uptoBulk]
  | _ => simp [Rows.uptoBulk]
theorem bulk_len (l : List (DataW H)) : l.length ≤ Rows.uptoBulkAll l := by
  induction l with
  | nil => simp
  | cons d r ih =>
    have := bulk_one d
    simp only [Rows.uptoBulkAll, List.length_cons]
    omega
theorem bulk_mem {d : DataW H} {l : List (DataW H)} (h : d ∈ l) : Rows.uptoBulk d ≤ Rows.uptoBulkAll l := by
  induction l with
  | nil => cases h
  | cons e r ih =>
    simp only [Rows.uptoBulkAll]
    rcases List.mem_cons.1 h with rfl | h
    · omega
    · have := ih h; omega
theorem bulk_str (s : ByteArray) : s.size ≤ Rows.uptoBulk (valD (H := H) (.string s)) := by
  simp only [valD, Rows.uptoBulk]
  have : s.data.toList.length = s.size := by simp
  omega

theorem str_form {W : World} {base : Nat} {v : Value} {d : DataW H} {p : List MemPlace} (hv : Value.okWide Try.prog W .any base 9 v) (h : DataW.Trod enc Try.prog W 0 (fun _ => true) true 9 v d p) : ∃ s : ByteArray, v = .string s ∧ s.size ≤ Rows.uptoBulk d := by
  obtain ⟨n, hn⟩ := h
  have hs : ∃ s, v = .string s := by
    cases v <;> simp only [Value.okWide, u9, Cell.okWide, Cell.ok] at hv
    exact ⟨_, rfl⟩
  obtain ⟨s, rfl⟩ := hs
  obtain ⟨z, hz, hx, _⟩ := DataW.trod_string u9 hn
  cases hz
  cases hx
  exact ⟨s, rfl, bulk_str s⟩

theorem u64_form {W : World} {base : Nat} {v : Value} {d : DataW H} {p : List MemPlace} (hv : Value.okWide Try.prog W .any base 40 v) (h : DataW.Trod enc Try.prog W 0 (fun _ => true) true 40 v d p) : ∃ n : Int, v = .int .u64 n ∧ 0 ≤ n ∧ n < 18446744073709551616 := by
  obtain ⟨n, hn⟩ := h
  have hs : ∃ k z, v = .int k z := by
    cases v <;> simp only [Value.okWide, u40, Cell.okWide, Cell.ok] at hv
    exact ⟨_, _, rfl⟩
  obtain ⟨k, z, rfl⟩ := hs
  obtain ⟨m, hz, hx, hwf⟩ := DataW.trod_int u40 hn
  simp only [Value.cells, List.cons.injEq, Value.int.injEq, and_true] at hz
  obtain ⟨rfl, rfl⟩ := hz
  refine ⟨z, rfl, ?_⟩
  simp [Lit.wf] at hwf
  have e1 : IntKind.u64.min = 0 := by decide
  have e2 : IntKind.u64.max = 18446744073709551615 := by decide
  omega

theorem rdInts {W : World} {base : Nat} {v : Value} {d : DataW H} {p : List MemPlace} {A : List Atom} (hv : Value.okWide Try.prog W .any base 22 v) (h : DataW.Trod enc Try.prog W 0 (fun _ => true) true 22 v d p) (hf : W.noneFrozen p) (hA : ∀ a : Atom, a.holds W → a ∈ A) :
    ∃ l : List Int, RdRow 1 A v l.length (l.map vi) ∧ l.length ≤ Rows.uptoBulk d := by
  obtain ⟨vs, h1, h2, h3⟩ := rd_scal (sc := .int .i64) u22 u3 cells3 hv h hf hA
  obtain ⟨l, rfl⟩ := map_of (f := vi) (fun y hy => by obtain ⟨n, hn, _⟩ := h2 y hy; exact ⟨n, hn⟩)
  refine ⟨l, by simpa using h1, ?_⟩
  rcases h3 with ⟨rfl, hnil⟩ | ⟨sp, rfl⟩
  · have := congrArg List.length hnil; simp at this; simp [this]
  · have := bulk_len (H := H) ((l.map vi).map valD)
    simp only [List.length_map] at this
    simp only [Rows.uptoBulk]; omega

theorem rdTexts {W : World} {base : Nat} {v : Value} {d : DataW H} {p : List MemPlace} {A : List Atom} (hv : Value.okWide Try.prog W .any base 23 v) (h : DataW.Trod enc Try.prog W 0 (fun _ => true) true 23 v d p) (hf : W.noneFrozen p) (hA : ∀ a : Atom, a.holds W → a ∈ A) :
    ∃ l : List ByteArray, RdRow 1 A v l.length (l.map Value.string) ∧ l.length ≤ Rows.uptoBulk d ∧ ∀ s ∈ l, s.size ≤ Rows.uptoBulk d := by
  obtain ⟨vs, h1, h2, h3⟩ := rd_scal (sc := .str) u23 u9 cells9 hv h hf hA
  obtain ⟨l, rfl⟩ := map_of (f := Value.string) (fun y hy => by obtain ⟨n, hn, _⟩ := h2 y hy; exact ⟨n, hn⟩)
  refine ⟨l, by simpa using h1, ?_⟩
  rcases h3 with ⟨rfl, hnil⟩ | ⟨sp, rfl⟩
  · have := congrArg List.length hnil; simp at this; subst this; simp
  · have := bulk_len (H := H) ((l.map Value.string).map valD)
    simp only [List.length_map] at this
    simp only [Rows.uptoBulk]
    refine ⟨by omega, fun s hs => ?_⟩
    have h4 := bulk_mem (H := H) (d := valD (.string s)) (l := (l.map Value.string).map valD) (List.mem_map.2 ⟨_, List.mem_map.2 ⟨s, hs, rfl⟩, rfl⟩)
    have h5 := bulk_str (H := H) s
    omega

theorem rdFiles {W : World} {base : Nat} {v : Value} {d : DataW H} {p : List MemPlace} {A : List Atom} (hv : Value.okWide Try.prog W .any base 39 v) (h : DataW.Trod enc Try.prog W 0 (fun _ => true) true 39 v d p) (hf : W.noneFrozen p) (hA : ∀ a : Atom, a.holds W → a ∈ A) :
    ∃ l : List (ByteArray × ByteArray), RdRow 2 A v l.length (l.flatMap fiEnc) ∧ l.length ≤ Rows.uptoBulk d ∧ ∀ s ∈ l, s.1.size ≤ Rows.uptoBulk d ∧ s.2.size ≤ Rows.uptoBulk d := by
  obtain ⟨rows, h1, h2, h3⟩ := rd_struct (scs := [.str, .str]) u39 u46 one46 cells46 types46 hv h hf hA
  obtain ⟨l, rfl⟩ := map_of (f := fiEnc) (l := rows) (fun y hy => by
    obtain ⟨g1, g2⟩ := h2 y hy
    obtain ⟨a, b, rfl⟩ : ∃ a b, y = [a, b] := by
      match y, g1 with
      | [a, b], _ => exact ⟨a, b, rfl⟩
    obtain ⟨s, rfl, _⟩ := g2 0 .str a rfl rfl
    obtain ⟨u, rfl, _⟩ := g2 1 .str b rfl rfl
    exact ⟨(s, u), rfl⟩)
  refine ⟨l, by simpa [List.flatMap_def] using h1, ?_⟩
  rcases h3 with ⟨rfl, hnil⟩ | ⟨sp, rfl⟩
  · have := congrArg List.length hnil; simp at this; subst this; simp
  · have := bulk_len (H := H) ((l.map fiEnc).map fun r => .agg (r.map valD))
    simp only [List.length_map] at this
    simp only [Rows.uptoBulk]
    refine ⟨by omega, fun s hs => ?_⟩
    have h4 := bulk_mem (H := H) (d := .agg ((fiEnc s).map valD)) (l := (l.map fiEnc).map fun r => .agg (r.map valD)) (List.mem_map.2 ⟨_, List.mem_map.2 ⟨s, hs, rfl⟩, rfl⟩)
    have h5 := bulk_mem (H := H) (d := valD (.string s.1)) (l := (fiEnc s).map valD) (by simp [fiEnc])
    have h6 := bulk_mem (H := H) (d := valD (.string s.2)) (l := (fiEnc s).map valD) (by simp [fiEnc])
    have h7 := bulk_str (H := H) s.1
    have h8 := bulk_str (H := H) s.2
    simp only [Rows.uptoBulk] at h4
    constructor <;> omega

theorem rdChoices {W : World} {base : Nat} {v : Value} {d : DataW H} {p : List MemPlace} {A : List Atom} (hv : Value.okWide Try.prog W .any base 48 v) (h : DataW.Trod enc Try.prog W 0 (fun _ => true) true 48 v d p) (hf : W.noneFrozen p) (hA : ∀ a : Atom, a.holds W → a ∈ A) :
    ∃ l : List Ch, RdRow 3 A v l.length (l.flatMap chEnc) ∧ l.length ≤ Rows.uptoBulk d := by
  obtain ⟨rows, h1, h2, h3⟩ := rd_struct (scs := [.int .u8, .int .i64, .str]) u48 u64 one64 cells64 types64 hv h hf hA
  obtain ⟨l, rfl⟩ := map_of (f := chEnc) (l := rows) (fun y hy => by
    obtain ⟨g1, g2⟩ := h2 y hy
    obtain ⟨a, b, c, rfl⟩ : ∃ a b c, y = [a, b, c] := by
      match y, g1 with
      | [a, b, c], _ => exact ⟨a, b, c, rfl⟩
    obtain ⟨s, rfl, _⟩ := g2 0 _ a rfl rfl
    obtain ⟨u, rfl, _⟩ := g2 1 _ b rfl rfl
    obtain ⟨x, rfl, _⟩ := g2 2 _ c rfl rfl
    exact ⟨⟨s, u, x⟩, rfl⟩)
  refine ⟨l, by simpa [List.flatMap_def] using h1, ?_⟩
  rcases h3 with ⟨rfl, hnil⟩ | ⟨sp, rfl⟩
  · have := congrArg List.length hnil; simp at this; subst this; simp
  · have := bulk_len (H := H) ((l.map chEnc).map fun r => .agg (r.map valD))
    simp only [List.length_map] at this
    simp only [Rows.uptoBulk]; omega
end
end Go.Proofs.Ytklkngccaemjdaa

/-
  From what is handed in to lists; how big it is.
-/
import Derived.Test.YtgindbomnbojeaaGreatV19
import Derived.Test.YtgindbomnbojeaaGreatV17
import Derived.Test.YtgindbomnbojeaaGreatRows
import Derived.JoinedCond
import Derived.OpenShut
import Derived.KernelRfl
import Derived.Test.YtgindbomnbojeaaGreatE4
set_option linter.unusedSimpArgs false
set_option linter.unusedVariables false
namespace Go.Proofs.YtgindbomnbojeaaGreat
open Go Go.V Go.ChangeShapes Go.WideShapes Go.Deep
set_option maxRecDepth 100000
section
variable {H : Type} {enc : TypeId × Value → H}
theorem u2 : Tryz.prog.underlying 2 = some (.int .i64) := by kernel_rfl
theorem u3 : Tryz.prog.underlying 3 = some (.int .i64) := by kernel_rfl
theorem u4 : Tryz.prog.underlying 4 = some .bool := by kernel_rfl
theorem u23 : Tryz.prog.underlying 23 = some (.slice 62) := by kernel_rfl
theorem u25 : Tryz.prog.underlying 25 = some (.int .u64) := by kernel_rfl
theorem u22 : Tryz.prog.underlying 22 = some (.slice 70) := by kernel_rfl
theorem u24 : Tryz.prog.underlying 24 = some (.slice 53) := by kernel_rfl
noncomputable def fields (t : Nat) : Array Field := match Tryz.prog.underlying t with | some (.struct fs) => fs | _ => #[]
theorem u62 : Tryz.prog.underlying 62 = some (.struct (fields 62)) := by kernel_rfl
theorem u70 : Tryz.prog.underlying 70 = some (.struct (fields 70)) := by kernel_rfl
theorem u53 : Tryz.prog.underlying 53 = some (.struct (fields 53)) := by kernel_rfl
theorem one62 : oneCellFields Tryz.prog (fields 62) = true := by kernel_rfl
theorem one70 : oneCellFields Tryz.prog (fields 70) = true := by kernel_rfl
theorem one53 : oneCellFields Tryz.prog (fields 53) = true := by kernel_rfl
theorem cells62 : Tryz.prog.cellsOf 62 = (fields 62).size := by kernel_rfl
theorem cells70 : Tryz.prog.cellsOf 70 = (fields 70).size := by kernel_rfl
theorem cells53 : Tryz.prog.cellsOf 53 = (fields 53).size := by kernel_rfl
theorem types62 : (fields 62).toList.map (fun f => Tryz.prog.underlying f.type) = [SC.str, .str].map (fun s => some s.td) := by kernel_rfl
theorem types70 : (fields 70).toList.map (fun f => Tryz.prog.underlying f.type) = [SC.int .u8, .int .i64, .str].map (fun s => some s.td) := by kernel_rfl
theorem types53 : (fields 53).toList.map (fun f => Tryz.prog.underlying f.type) = [SC.int .i64, .str, .str, .int .i64, .int .i64].map (fun s => some s.td) := by kernel_rfl
theorem closedS : closedB Tryz.prog [2, 3, 4, 9, 22, 23, 24, 25, 53, 62, 68, 70] = true := by kernel_rfl
theorem closedP : Closed Tryz.prog (· ∈ [2, 3, 4, 9, 22, 23, 24, 25, 53, 62, 68, 70]) := closed_of closedS
theorem own : ownKnob Tryz.prog.godebug = none := by kernel_rfl
theorem bulk_one (d : DataW H) : 1 ≤ Rows.uptoBulk d := by
  cases d with
  | lit l => cases l <;> simp [Rows.uptoBulk]
  | _ => simp [Rows.uptoBulk]
theorem bulk_len (l : List (DataW H)) : l.length ≤ Rows.uptoBulkAll l := by
  induction l with
  | nil => simp
  | cons d r ih =>
    have := bulk_one d
    simp only [Rows.uptoBulkAll, List.length_cons]
    omega
theorem bulk_mem {d : DataW H} {l : List (DataW H)} (h : d ∈ l) : Rows.uptoBulk d ≤ Rows.uptoBulkAll l := by
  induction l with
  | nil => cases h
  | cons e r ih =>
    simp only [Rows.uptoBulkAll]
    rcases List.mem_cons.1 h with rfl | h
    · omega
    · have := ih h; omega
theorem bulk_str (s : ByteArray) : s.size ≤ Rows.uptoBulk (valD (H := H) (.string s)) := by
  simp only [valD, Rows.uptoBulk]
  have : s.data.toList.length = s.size := by simp
  omega
theorem u64_form {W : World} {base : Nat} {v : Value} {d : DataW H} {p : List MemPlace} (hv : Value.okWide Tryz.prog W .any base 25 v) (h : DataW.Trod enc Tryz.prog W 0 (fun _ => true) true 25 v d p) : ∃ n : Int, v = .int .u64 n ∧ 0 ≤ n ∧ n < 18446744073709551616 := by
  obtain ⟨n, hn⟩ := h
  have hs : ∃ k z, v = .int k z := by
    cases v <;> simp only [Value.okWide, u25, Cell.okWide, Cell.ok] at hv
    exact ⟨_, _, rfl⟩
  obtain ⟨k, z, rfl⟩ := hs
  obtain ⟨m, hz, hx, hwf⟩ := DataW.trod_int u25 hn
  simp only [Value.cells, List.cons.injEq, Value.int.injEq, and_true] at hz
  obtain ⟨rfl, rfl⟩ := hz
  refine ⟨z, rfl, ?_⟩
  simp [Lit.wf] at hwf
  have e1 : IntKind.u64.min = 0 := by decide
  have e2 : IntKind.u64.max = 18446744073709551615 := by decide
  omega
theorem rdFiles {W : World} {base : Nat} {v : Value} {d : DataW H} {p : List MemPlace} {A : List Atom} (hv : Value.okWide Tryz.prog W .any base 23 v) (h : DataW.Trod enc Tryz.prog W 0 (fun _ => true) true 23 v d p) (hf : W.noneFrozen p) (hA : ∀ a : Atom, a.holds W → a ∈ A) :
    ∃ l : List (ByteArray × ByteArray), RdRow 2 A v l.length (l.flatMap fiEnc) ∧ l.length ≤ Rows.uptoBulk d ∧ ∀ s ∈ l, s.1.size ≤ Rows.uptoBulk d ∧ s.2.size ≤ Rows.uptoBulk d := by
  obtain ⟨rows, h1, h2, h3⟩ := rd_struct (scs := [.str, .str]) u23 u62 one62 cells62 types62 hv h hf hA
  obtain ⟨l, rfl⟩ := map_of (f := fiEnc) (l := rows) (fun y hy => by
    obtain ⟨g1, g2⟩ := h2 y hy
    obtain ⟨a, b, rfl⟩ : ∃ a b, y = [a, b] := by
      match y, g1 with
      | [a, b], _ => exact ⟨a, b, rfl⟩
    obtain ⟨s, rfl, _⟩ := g2 0 .str a rfl rfl
    obtain ⟨u, rfl, _⟩ := g2 1 .str b rfl rfl
    exact ⟨(s, u), rfl⟩)
  refine ⟨l, by simpa [List.flatMap_def] using h1, ?_⟩
  rcases h3 with ⟨rfl, hnil⟩ | ⟨sp, rfl⟩
  · have := congrArg List.length hnil; simp at this; subst this; simp
  · have := bulk_len (H := H) ((l.map fiEnc).map fun r => .agg (r.map valD))
    simp only [List.length_map] at this
    simp only [Rows.uptoBulk]
    refine ⟨by omega, fun s hs => ?_⟩
    have h4 := bulk_mem (H := H) (d := .agg ((fiEnc s).map valD)) (l := (l.map fiEnc).map fun r => .agg (r.map valD)) (List.mem_map.2 ⟨_, List.mem_map.2 ⟨s, hs, rfl⟩, rfl⟩)
    have h5 := bulk_mem (H := H) (d := valD (.string s.1)) (l := (fiEnc s).map valD) (by simp [fiEnc])
    have h6 := bulk_mem (H := H) (d := valD (.string s.2)) (l := (fiEnc s).map valD) (by simp [fiEnc])
    have h7 := bulk_str (H := H) s.1
    have h8 := bulk_str (H := H) s.2
    simp only [Rows.uptoBulk] at h4
    constructor <;> omega
theorem rdChoices {W : World} {base : Nat} {v : Value} {d : DataW H} {p : List MemPlace} {A : List Atom} (hv : Value.okWide Tryz.prog W .any base 22 v) (h : DataW.Trod enc Tryz.prog W 0 (fun _ => true) true 22 v d p) (hf : W.noneFrozen p) (hA : ∀ a : Atom, a.holds W → a ∈ A) :
    ∃ l : List Ch, RdRow 3 A v l.length (l.flatMap chEnc) ∧ l.length ≤ Rows.uptoBulk d := by
  obtain ⟨rows, h1, h2, h3⟩ := rd_struct (scs := [.int .u8, .int .i64, .str]) u22 u70 one70 cells70 types70 hv h hf hA
  obtain ⟨l, rfl⟩ := map_of (f := chEnc) (l := rows) (fun y hy => by
    obtain ⟨g1, g2⟩ := h2 y hy
    obtain ⟨a, b, c, rfl⟩ : ∃ a b c, y = [a, b, c] := by
      match y, g1 with
      | [a, b, c], _ => exact ⟨a, b, c, rfl⟩
    obtain ⟨s, rfl, _⟩ := g2 0 _ a rfl rfl
    obtain ⟨u, rfl, _⟩ := g2 1 _ b rfl rfl
    obtain ⟨x, rfl, _⟩ := g2 2 _ c rfl rfl
    exact ⟨⟨s, u, x⟩, rfl⟩)
  refine ⟨l, by simpa [List.flatMap_def] using h1, ?_⟩
  rcases h3 with ⟨rfl, hnil⟩ | ⟨sp, rfl⟩
  · have := congrArg List.length hnil; simp at this; subst this; simp
  · have := bulk_len (H := H) ((l.map chEnc).map fun r => .agg (r.map valD))
    simp only [List.length_map] at this
    simp only [Rows.uptoBulk]; omega
theorem rdActs {W : World} {base : Nat} {v : Value} {d : DataW H} {p : List MemPlace} {A : List Atom} (hv : Value.okWide Tryz.prog W .any base 24 v) (h : DataW.Trod enc Tryz.prog W 0 (fun _ => true) true 24 v d p) (hf : W.noneFrozen p) (hA : ∀ a : Atom, a.holds W → a ∈ A) :
    ∃ l : List ActW, RdRow 5 A v l.length (l.flatMap actEnc) ∧ l.length ≤ Rows.uptoBulk d ∧ ∀ s ∈ l, s.name.size ≤ Rows.uptoBulk d ∧ s.text.size ≤ Rows.uptoBulk d := by
  obtain ⟨rows, h1, h2, h3⟩ := rd_struct (scs := [.int .i64, .str, .str, .int .i64, .int .i64]) u24 u53 one53 cells53 types53 hv h hf hA
  obtain ⟨l, rfl⟩ := map_of (f := actEnc) (l := rows) (fun y hy => by
    obtain ⟨g1, g2⟩ := h2 y hy
    obtain ⟨a, b, c, e, f, rfl⟩ : ∃ a b c e f, y = [a, b, c, e, f] := by
      match y, g1 with
      | [a, b, c, e, f], _ => exact ⟨a, b, c, e, f, rfl⟩
    obtain ⟨k, rfl, _⟩ := g2 0 _ a rfl rfl
    obtain ⟨s, rfl, _⟩ := g2 1 _ b rfl rfl
    obtain ⟨u, rfl, _⟩ := g2 2 _ c rfl rfl
    obtain ⟨m, rfl, _⟩ := g2 3 _ e rfl rfl
    obtain ⟨n, rfl, _⟩ := g2 4 _ f rfl rfl
    exact ⟨⟨k, s, u, m, n⟩, rfl⟩)
  refine ⟨l, by simpa [List.flatMap_def] using h1, ?_⟩
  rcases h3 with ⟨rfl, hnil⟩ | ⟨sp, rfl⟩
  · have := congrArg List.length hnil; simp at this; subst this; simp
  · have := bulk_len (H := H) ((l.map actEnc).map fun r => .agg (r.map valD))
    simp only [List.length_map] at this
    simp only [Rows.uptoBulk]
    refine ⟨by omega, fun s hs => ?_⟩
    have h4 := bulk_mem (H := H) (d := .agg ((actEnc s).map valD)) (l := (l.map actEnc).map fun r => .agg (r.map valD)) (List.mem_map.2 ⟨_, List.mem_map.2 ⟨s, hs, rfl⟩, rfl⟩)
    have h5 := bulk_mem (H := H) (d := valD (.string s.name)) (l := (actEnc s).map valD) (by simp [actEnc])
    have h6 := bulk_mem (H := H) (d := valD (.string s.text)) (l := (actEnc s).map valD) (by simp [actEnc])
    have h7 := bulk_str (H := H) s.name
    have h8 := bulk_str (H := H) s.text
    simp only [Rows.uptoBulk] at h4
    constructor <;> omega
end
section
noncomputable def fn3 : Func := (Tryz.prog.funcs[3]?).getD default
theorem func3 : Tryz.prog.funcs[3]? = some fn3 := by kernel_rfl
theorem params3 : fn3.params = #[22, 23, 24, 25, 22] := by kernel_rfl
theorem result3 : fn3.resultTypes = #[4] := by kernel_rfl
theorem wdoes_contract (H : Type) (enc : TypeId × Value → H) (W : World) (base : Nat) (args : Array Value) (ds gs : List (DataW H)) (before : List MemPlace)
    (hval : ∀ (j : Nat) t v, fn3.params[j]? = some t → args[j]? = some v → Value.okWide Tryz.prog W .any base t v)
    (hW : DataW.Whole enc Tryz.prog fn3.params.toList Rows.worldDoesSpec.vars false W args.toList ds gs before) (hk : Rows.uptoSmall H (ds ++ gs) = true) :
    Calls Tryz.prog 3 args W fun e W' => ∃ v, e = .returned v ∧ Rows.worldDoesSpec.post enc Tryz.prog fn3 false true false false W args v W' := by
  have hW' := hW
  obtain ⟨p, q, hA, hV, rfl, hfz, _⟩ := hW
  rw [params3] at hA hval
  obtain ⟨v0, vs0, d0, ds0, p0, q0, hargs, rfl, rfl, h0, r0⟩ := trodAll_cons hA
  obtain ⟨v1, vs1, d1, ds1, p1, q1, rfl, rfl, rfl, h1, r1⟩ := trodAll_cons r0
  obtain ⟨v2, vs2, d2, ds2, p2, q2, rfl, rfl, rfl, h2, r2⟩ := trodAll_cons r1
  obtain ⟨v3, vs3, d3, ds3, p3, q3, rfl, rfl, rfl, h3, r3⟩ := trodAll_cons r2
  obtain ⟨v4, vs4, d4, ds4, p4, q4, rfl, rfl, rfl, h4, r4⟩ := trodAll_cons r3
  obtain ⟨rfl, rfl, rfl⟩ := trodAll_nil r4
  obtain rfl : args = #[v0, v1, v2, v3, v4] := by cases args; simp_all
  obtain ⟨rfl, rfl⟩ := trodVars_none hV
  have hb := of_decide_eq_true hk
  simp only [List.append_nil, Rows.uptoBulkAll, Nat.add_zero] at hb
  refine glue (args := [v0, v1, v2, v3, v4]) rfl result3 u4 rfl closedP (by rw [params3]; simp) hW' (fun A hA' => ?_)
  obtain ⟨cs, hc, hc1⟩ := rdChoices (hval 0 22 v0 rfl rfl) h0 (fun b o h => hfz b o (by simp [h])) hA'
  obtain ⟨fs, hf, hf1, hf2⟩ := rdFiles (hval 1 23 v1 rfl rfl) h1 (fun b o h => hfz b o (by simp [h])) hA'
  obtain ⟨l, hl, hl1, hl2⟩ := rdActs (hval 2 24 v2 rfl rfl) h2 (fun b o h => hfz b o (by simp [h])) hA'
  obtain ⟨n, rfl, hn1, hn2⟩ := u64_form (hval 3 25 v3 rfl rfl) h3
  obtain ⟨ms, hm, hm1⟩ := rdChoices (hval 4 22 v4 rfl rfl) h4 (fun b o h => hfz b o (by simp [h])) hA'
  obtain ⟨wn, rfl⟩ := Int.eq_ofNat_of_zero_le hn1
  exact worldDoes_spec A v0 v1 v2 v4 cs fs l ms wn (by omega) hc hf hl hm (by omega) (by omega) (fun p hp => ⟨by have := (hf2 p hp).1; omega, by have := (hf2 p hp).2; omega⟩) (by omega) (fun p hp => ⟨by have := (hl2 p hp).1; omega, by have := (hl2 p hp).2; omega⟩) (by omega)
set_option maxRecDepth 100000 in
theorem wdoes_lifted (os : Os) (started : os.Started) (H : Type) (enc : TypeId × Value → H) (F : Stop.Interp) :
    ReturnsInHanded {} Tryz.checked os 3 .any ((Rows.OpenSpec.upto Rows.worldDoesSpec).pre6 enc Tryz.prog fn3 Rows.worldDoesUptoRow.domain false) (((Rows.OpenSpec.upto Rows.worldDoesSpec).at F).post enc Tryz.prog fn3 false true false false) := by
  refine returnsInHanded_of_cond (C := Tryz.checked) (s := Rows.OpenSpec.upto Rows.worldDoesSpec) (k := Rows.uptoSmall) rfl own started (by kernel_rfl) func3
    (OpenSpec.witness (enc := enc) (C := Tryz.checked) (s := Rows.OpenSpec.upto Rows.worldDoesSpec) (k := Rows.uptoSmall) rfl false ⟨#[], #[.slice none 0 0, .slice none 0 0, .slice none 0 0, .int .u64 0, .slice none 0 0], []⟩ 8 (by kernel_rfl) (by kernel_rfl) (by kernel_rfl)
      (x := ([.nil, .nil, .nil, .lit (.int .u64 0), .nil], [], [])) (by kernel_rfl) rfl (by kernel_rfl)) ?_
  intro W base args ds gs before hval hW _ hk _
  exact wdoes_contract H enc W base args ds gs before hval hW hk
theorem worldDoes_over : Rows.worldDoesUptoRow.holds Tryz.pinned (Rows.OpenSpec.upto Rows.worldDoesSpec) :=
  OpenClaim.holds_of_cond 3 fn3 rfl rfl rfl rfl rfl rfl rfl ⟨rfl, rfl, rfl, rfl, rfl⟩ rfl rfl rfl rfl rfl (by kernel_rfl) func3 (by kernel_rfl)
    (of_decide_eq_true (by kernel_rfl)) (by unfold Func.isWrapper; first | (rw [if_pos (by decide +kernel)]; kernel_rfl) | (rw [if_neg (by decide +kernel)]; exact ⟨rfl, rfl⟩))
    (fun os started H enc _ F => wdoes_lifted os started H enc F)
theorem worldDoes_proved : Rows.WorldDoesUptoSaid := worldDoes_over
end
end Go.Proofs.YtgindbomnbojeaaGreat

/-
  From what is handed in to lists.
-/
import Derived.Test.YtffmipimgodfdaaTG
import Derived.Test.YtffmipimgodfdaaVZ
import Derived.Test.YtffmipimgodfdaaRows
import Derived.JoinedCond
import Derived.Deep.Slices
import Derived.Deep.Fields
import Derived.OpenShut
set_option linter.unusedSimpArgs false
set_option linter.unusedVariables false
namespace Go.Proofs.Ytffmipimgodfdaa
open Go Go.V Go.ChangeShapes Go.WideShapes Go.Deep
set_option maxRecDepth 100000
section
variable {H : Type} {enc : TypeId × Value → H}

theorem u22 : Try.prog.underlying 22 = some (.slice 3) := by kernel_rfl
theorem u23 : Try.prog.underlying 23 = some (.slice 30) := by kernel_rfl
theorem u3 : Try.prog.underlying 3 = some (.int .i64) := by kernel_rfl
theorem u9 : Try.prog.underlying 9 = some .string := by kernel_rfl
theorem u4 : Try.prog.underlying 4 = some .bool := by kernel_rfl
noncomputable def actFields : Array Field := match Try.prog.underlying 30 with | some (.struct fs) => fs | _ => #[]
theorem u30 : Try.prog.underlying 30 = some (.struct actFields) := by kernel_rfl
theorem one30 : oneCellFields Try.prog actFields = true := by kernel_rfl
theorem size30 : actFields.size = 5 := by kernel_rfl
theorem cells30 : Try.prog.cellsOf 30 = 5 := by kernel_rfl
theorem types30 : actFields.toList.map (·.type) = [3, 3, 9, 3, 3] := by kernel_rfl
theorem cells3 : Try.prog.cellsOf 3 = 1 := by kernel_rfl
theorem closedS : closedB Try.prog [22, 23, 30, 3, 9, 4] = true := by kernel_rfl
noncomputable def fn4 : Func := (Try.prog.funcs[4]?).getD default
theorem func4 : Try.prog.funcs[4]? = some fn4 := by kernel_rfl
theorem params4 : fn4.params = #[22, 23] := by kernel_rfl
theorem result4 : fn4.resultTypes = #[4] := by kernel_rfl

theorem rdInts {W : World} {base : Nat} {v : Value} {d : DataW H} {p : List MemPlace} {A : List Atom} (hv : Value.okWide Try.prog W .any base 22 v) (h : DataW.Trod enc Try.prog W 0 (fun _ => true) true 22 v d p) (hf : W.noneFrozen p) (hA : ∀ a : Atom, a.holds W → a ∈ A) :
    ∃ xs, RdInts A v xs ∧ ((d = .nil ∧ xs = []) ∨ ∃ es sp, d = .slice es sp ∧ es.length = xs.length) := open_rd u22 u3 cells3 hv h hf hA

theorem open_slice_fields {P : Program} {w : World} {base : Nat} {spare : Nat → Bool} {held : Bool} {t e : TypeId} {fs : Array Field} {fuel : Nat} {cs : List Value} {x : DataW H × List MemPlace} (ht : P.underlying t = some (.slice e)) (he : P.underlying e = some (.struct fs))
    (hone : oneCellFields P fs = true) (hC : P.cellsOf e = fs.size) (h : DataW.trod enc P w base spare held fuel t cs = some x) :
    (cs = [.slice none 0 0] ∧ x = (.nil, [])) ∨
    ∃ (a : Addr) (len cap m : Nat) (D : Nat → DataW H) (Pl : Nat → List MemPlace), cs = [.slice (some a) len cap] ∧ base ≤ a.block ∧ len ≤ cap ∧ cap ≤ maxLen ∧ m = (if spare a.block then cap else len) ∧
      x = (.slice ((List.range len).map D) ((List.range (m - len)).map fun j => D (len + j)), MemPlace.row a (m * fs.size) ++ (List.range m).flatMap Pl) ∧
      ∀ i, i < m → ∃ (ys : List (DataW H × List MemPlace)) (n : Nat), D i = .agg (ys.map (·.1)) ∧ Pl i = ys.flatMap (·.2) ∧ ys.length = fs.size ∧
        ∀ (j : Nat) (f : Field), fs[j]? = some f → ∃ (v : Value) (y : DataW H × List MemPlace), w.cell? (a.add (i * fs.size + j)) = some v ∧ ys[j]? = some y ∧ DataW.trod enc P w base spare held n f.type [v] = some y := by
  rcases open_slice ht h with h0 | ⟨a, len, cap, m, n, D, Pl, hcs, hb, hl, hm, hmm, hx, hi⟩
  · exact .inl h0
  · refine .inr ⟨a, len, cap, m, D, Pl, hcs, hb, hl, hm, hmm, by rw [hC] at hx; exact hx, fun i him => ?_⟩
    obtain ⟨cs', hc, ht'⟩ := hi i him
    rw [hC] at hc
    obtain ⟨ys, n', hn', hy, hlen, hyl, hf⟩ := DataW.trod_struct he ht'
    obtain ⟨_, hcl, hat⟩ := World.cells?_some hc
    simp only [Prod.mk.injEq] at hy
    refine ⟨ys, n', hy.1, hy.2, hyl, fun j f hj => ?_⟩
    obtain ⟨ho, hk⟩ := hone_of hone j f hj
    have hjl : j < fs.size := (Array.getElem?_eq_some_iff.1 hj).1
    have hcell := hat j hjl
    have hv : cs'[j]? = some (cs'[j]'(by omega)) := List.getElem?_eq_getElem (by omega)
    have h1 := hf j f hj
    rw [ho, hk] at h1
    have hone' : (cs'.drop j).take 1 = [cs'[j]'(by omega)] := by
      rw [List.drop_eq_getElem_cons (by omega)]
      rfl
    rw [hone'] at h1
    have hys : ys[j]? = some (ys[j]'(by omega)) := List.getElem?_eq_getElem (by omega)
    refine ⟨_, _, ?_, hys, h1.trans hys⟩
    rw [← Go.Deep.add_add, hcell, hv]

theorem addr_add (b o i : Nat) : (⟨b, o, none⟩ : Addr).add i = ⟨b, o + i, none⟩ := by
  unfold Addr.add
  split
  · rename_i h0
    have : i = 0 := by simpa using h0
    subst this; rfl
  · rfl

theorem rdActs {W : World} {base : Nat} {v : Value} {d : DataW H} {p : List MemPlace} {A : List Atom} (hv : Value.okWide Try.prog W .any base 23 v) (h : DataW.Trod enc Try.prog W 0 (fun _ => true) true 23 v d p) (hf : W.noneFrozen p) (hA : ∀ a : Atom, a.holds W → a ∈ A) :
    ∃ l, RdActs A v l ∧ ((d = .nil ∧ l = []) ∨ ∃ es sp, d = .slice es sp ∧ es.length = l.length) := by
  obtain ⟨n, hn⟩ := h
  have h5 := size30
  rcases slice_form u23 hv with rfl | ⟨b, o, len, cap, rfl, hl⟩
  · rcases open_slice_fields u23 u30 one30 (cells30.trans h5.symm) hn with ⟨_, h2⟩ | ⟨a, l, c, m, D, Pl, h1, _⟩
    · cases h2
      exact ⟨[], .inl ⟨rfl, rfl⟩, .inl ⟨rfl, rfl⟩⟩
    · simp [Value.cells] at h1
  · rcases open_slice_fields u23 u30 one30 (cells30.trans h5.symm) hn with ⟨h1, _⟩ | ⟨a, l, c, m, D, Pl, h1, _, hlc, _, hm, hx, hi⟩
    · simp [Value.cells] at h1
    · simp only [Value.cells, List.cons.injEq, Value.slice.injEq, Option.some.injEq, and_true] at h1
      obtain ⟨rfl, rfl, rfl⟩ := h1
      simp only [if_true] at hm
      subst hm
      have key : ∀ i, i < len → ∃ x : ActR, ∀ a ∈ cellsAt b (o + i * 5) (actEnc x), a ∈ A := by
        intro i hil
        obtain ⟨ys, k, _, _, _, hfld⟩ := hi i (by omega)
        have types : ∀ (j : Nat) (t : TypeId), [3, 3, 9, 3, 3][j]? = some t → ∃ f : Field, actFields[j]? = some f ∧ f.type = t := by
          intro j t ht
          rw [← types30, List.getElem?_map, Option.map_eq_some_iff] at ht
          obtain ⟨f, h1, h2⟩ := ht
          exact ⟨f, by simpa using h1, h2⟩
        have cell : ∀ j u, j < 5 → W.cell? ((⟨b, o, none⟩ : Addr).add (i * actFields.size + j)) = some u → Atom.cell b (o + i * 5 + j) u ∈ A := by
          intro j u hj hc
          rw [h5, addr_add, ← Nat.add_assoc] at hc
          refine hA _ (holds_cell hc (hf b _ ?_))
          cases hx
          refine List.mem_append_left _ (MemPlace.mem_row.2 ⟨i * 5 + j, ?_, by rw [Nat.add_assoc]⟩)
          rw [h5]
          have h6 := hlc
          omega
        have int : ∀ j, j < 5 → [3, 3, 9, 3, 3][j]? = some 3 → ∃ z, Atom.cell b (o + i * 5 + j) (vi z) ∈ A := by
          intro j hj ht
          obtain ⟨f, hf1, hf2⟩ := types j 3 ht
          obtain ⟨u, y, h1, _, h3⟩ := hfld j f hf1
          rw [hf2] at h3
          obtain ⟨z, hz, _⟩ := DataW.trod_int u3 h3
          cases hz
          exact ⟨z, cell j _ hj h1⟩
        have str : ∃ s, Atom.cell b (o + i * 5 + 2) (.string s) ∈ A := by
          obtain ⟨f, hf1, hf2⟩ := types 2 9 rfl
          obtain ⟨u, y, h1, _, h3⟩ := hfld 2 f hf1
          rw [hf2] at h3
          obtain ⟨z, hz, _⟩ := DataW.trod_string u9 h3
          cases hz
          exact ⟨z, cell 2 _ (by omega) h1⟩
        obtain ⟨x0, g0⟩ := int 0 (by omega) rfl
        obtain ⟨x1, g1⟩ := int 1 (by omega) rfl
        obtain ⟨x2, g2⟩ := str
        obtain ⟨x3, g3⟩ := int 3 (by omega) rfl
        obtain ⟨x4, g4⟩ := int 4 (by omega) rfl
        refine ⟨⟨x0, x1, x2, x3, x4⟩, fun a ha => ?_⟩
        obtain ⟨j, u, hj, rfl⟩ := mem_cellsAt.1 ha
        match j, hj with
        | 0, hj => cases hj; exact g0
        | 1, hj => cases hj; exact g1
        | 2, hj => cases hj; exact g2
        | 3, hj => cases hj; exact g3
        | 4, hj => cases hj; exact g4
      have pick : ∃ F : Nat → ActR, ∀ i, i < len → ∀ a ∈ cellsAt b (o + i * 5) (actEnc (F i)), a ∈ A := by
        refine ⟨fun i => if h : i < len then (key i h).choose else ⟨0, 0, ⟨#[]⟩, 0, 0⟩, fun i h => ?_⟩
        simp only [dif_pos h]
        exact (key i h).choose_spec
      obtain ⟨F, hF⟩ := pick
      cases hx
      refine ⟨(List.range len).map F, .inr ⟨b, o, m, by simp, fun i x hi => ?_⟩, .inr ⟨_, _, rfl, by simp⟩⟩
      · simp only [List.getElem?_map, Option.map_eq_some_iff] at hi
        obtain ⟨j, hj, rfl⟩ := hi
        obtain ⟨hj1, hj2⟩ := List.getElem?_eq_some_iff.1 hj
        simp at hj1 hj2
        subst hj2
        exact hF i hj1

theorem string_form {P : Program} {W : World} {base : Nat} {t : TypeId} {v : Value} (ht : P.underlying t = some .string) (hv : Value.okWide P W .any base t v) : ∃ s, v = .string s := by
  cases v <;> simp only [Value.okWide, ht, Cell.okWide, Cell.ok] at hv
  exact ⟨_, rfl⟩

theorem bulk_one (d : DataW H) : 1 ≤ Rows.uptoBulk d := by
  cases d with
  | lit l => cases l <;> simp [Rows.uptoBulk]
  | _ => simp [Rows.uptoBulk]

theorem bulk_len (l : List (DataW H)) : l.length ≤ Rows.uptoBulkAll l := by
  induction l with
  | nil => simp
  | cons d r ih =>
    have := bulk_one d
    simp only [Rows.uptoBulkAll, List.length_cons]
    omega

theorem bulk_of {α : Type} {d : DataW H} {l : List α} (h : (d = .nil ∧ l = []) ∨ ∃ es sp, d = .slice es sp ∧ es.length = l.length) : l.length ≤ Rows.uptoBulk d := by
  rcases h with ⟨rfl, rfl⟩ | ⟨es, sp, rfl, h⟩
  · simp
  · have := bulk_len es
    simp only [Rows.uptoBulk]
    omega

theorem closedP : Closed Try.prog (· ∈ [22, 23, 30, 3, 9, 4]) := closed_of closedS

theorem own : ownKnob Try.prog.godebug = none := by kernel_rfl

end
end Go.Proofs.Ytffmipimgodfdaa
namespace Go.Proofs.Ytffmipimgodfdaa
open Go Go.V Go.ChangeShapes Go.WideShapes Go.Deep
set_option maxRecDepth 100000
noncomputable def fn6 : Func := (Try.prog.funcs[6]?).getD default
theorem func6 : Try.prog.funcs[6]? = some fn6 := by kernel_rfl
theorem params6 : fn6.params = #[22, 23] := by kernel_rfl
theorem result6 : fn6.resultTypes = #[4] := by kernel_rfl
section
variable {H : Type} {enc : TypeId × Value → H}
theorem does_contract (H : Type) (enc : TypeId × Value → H) (W : World) (base : Nat) (args : Array Value) (ds gs : List (DataW H)) (before : List MemPlace)
    (hval : ∀ (j : Nat) t v, fn6.params[j]? = some t → args[j]? = some v → Value.okWide Try.prog W .any base t v)
    (hW : DataW.Whole enc Try.prog fn6.params.toList Rows.dictDoesSpec.vars false W args.toList ds gs before) (hk : Rows.uptoSmall H (ds ++ gs) = true) :
    Calls Try.prog 6 args W fun e W' => ∃ v, e = .returned v ∧ Rows.dictDoesSpec.post enc Try.prog fn6 false true false false W args v W' := by
  have hW' := hW
  obtain ⟨p, q, hA, hV, rfl, hfz, _⟩ := hW
  rw [params6] at hA hval
  obtain ⟨v0, vs0, d0, ds0, p0, q0, hargs, rfl, rfl, h0, r0⟩ := trodAll_cons hA
  obtain ⟨v1, vs1, d1, ds1, p1, q1, rfl, rfl, rfl, h1, r1⟩ := trodAll_cons r0
  obtain ⟨rfl, rfl, rfl⟩ := trodAll_nil r1
  obtain rfl : args = #[v0, v1] := by cases args; simp_all
  obtain ⟨rfl, rfl⟩ := trodVars_none hV
  have hb := of_decide_eq_true hk
  simp only [List.append_nil, Rows.uptoBulkAll, Nat.add_zero] at hb
  refine glue (args := [v0, v1]) rfl result6 u4 rfl closedP (by rw [params6]; simp) hW' (fun A hA' => ?_)
  obtain ⟨xs, hx, hx1⟩ := rdInts (hval 0 22 v0 rfl rfl) h0 (fun b o h => hfz b o (by simp [h])) hA'
  obtain ⟨l, hl, hl1⟩ := rdActs (hval 1 23 v1 rfl rfl) h1 (fun b o h => hfz b o (by simp [h])) hA'
  have b0 := bulk_of hx1
  have b1 := bulk_of hl1
  exact dictDoes_spec A v0 v1 xs l hx hl (by omega) (by omega)

set_option maxRecDepth 100000 in
theorem does_lifted (os : Os) (started : os.Started) (H : Type) (enc : TypeId × Value → H) (F : Stop.Interp) :
    ReturnsInHanded {} Try.checked os 6 .any ((Rows.OpenSpec.upto Rows.dictDoesSpec).pre6 enc Try.prog fn6 Rows.dictDoesUptoRow.domain false) (((Rows.OpenSpec.upto Rows.dictDoesSpec).at F).post enc Try.prog fn6 false true false false) := by
  refine returnsInHanded_of_cond (C := Try.checked) (s := Rows.OpenSpec.upto Rows.dictDoesSpec) (k := Rows.uptoSmall) rfl own started (by kernel_rfl) func6
    (OpenSpec.witness (enc := enc) (C := Try.checked) (s := Rows.OpenSpec.upto Rows.dictDoesSpec) (k := Rows.uptoSmall) rfl false ⟨#[], #[.slice none 0 0, .slice none 0 0], []⟩ 8 (by kernel_rfl) (by kernel_rfl) (by kernel_rfl)
      (x := ([.nil, .nil], [], [])) (by kernel_rfl) rfl (by kernel_rfl)) ?_
  intro W base args ds gs before hval hW _ hk _
  exact does_contract H enc W base args ds gs before hval hW hk

theorem dictDoes_over : Rows.dictDoesUptoRow.holds Try.pinned (Rows.OpenSpec.upto Rows.dictDoesSpec) :=
  OpenClaim.holds_of_cond 6 fn6 rfl rfl rfl rfl rfl rfl rfl ⟨rfl, rfl, rfl, rfl, rfl⟩ rfl rfl rfl rfl rfl (by kernel_rfl) func6 (by kernel_rfl)
    (of_decide_eq_true (by kernel_rfl)) (by unfold Func.isWrapper; first | (rw [if_pos (by decide +kernel)]; kernel_rfl) | (rw [if_neg (by decide +kernel)]; exact ⟨rfl, rfl⟩))
    (fun os started H enc _ F => does_lifted os started H enc F)

theorem dictDoes_proved : Rows.DictDoesUptoSaid := dictDoes_over
end
end Go.Proofs.Ytffmipimgodfdaa

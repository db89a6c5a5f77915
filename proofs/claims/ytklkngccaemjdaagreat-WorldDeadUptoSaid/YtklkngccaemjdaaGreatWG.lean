/-
  Lists that are handed in: rows of numbers and texts, read.
-/
import Derived.Test.YtklkngccaemjdaaGreatWK
import Derived.Test.YtklkngccaemjdaaGreatVX
import Derived.Deep.Slices
import Derived.Deep.Fields
set_option linter.unusedSimpArgs false
set_option linter.unusedVariables false
namespace Go.V
open Go Go.ChangeShapes Go.WideShapes Go.Deep

/-- A number of a kind, or a text. -/
inductive SC where
  | int (k : IntKind)
  | str
def SC.td : SC → TypeDesc
  | .int k => .int k
  | .str => .string
def SC.ok : SC → Value → Prop
  | .int k, v => ∃ n, v = .int k n ∧ (Lit.int k n).wf = true
  | .str, v => ∃ s : ByteArray, v = .string s ∧ s.size ≤ maxLen
def valD {H : Type} : Value → DataW H
  | .int k n => .lit (.int k n)
  | .string s => .lit (.string s.data.toList)
  | _ => .nil

def Typed (scs : List SC) (r : List Value) : Prop := r.length = scs.length ∧ ∀ (j : Nat) (sc : SC) (u : Value), scs[j]? = some sc → r[j]? = some u → sc.ok u

section
variable {H : Type} {enc : TypeId × Value → H} {P : Program} {W : World} {base : Nat}

theorem sc_trod {sc : SC} {t : TypeId} {sp : Nat → Bool} {held : Bool} {fuel : Nat} {v : Value} {y : DataW H × List MemPlace} (ht : P.underlying t = some sc.td) (h : DataW.trod enc P W base sp held fuel t [v] = some y) : sc.ok v ∧ y.1 = valD v := by
  cases sc with
  | int k =>
    obtain ⟨n, h1, h2, h3⟩ := DataW.trod_int ht h
    cases h1
    rw [h2]
    exact ⟨⟨n, rfl, h3⟩, rfl⟩
  | str =>
    obtain ⟨s, h1, h2, h3⟩ := DataW.trod_string ht h
    cases h1
    rw [h2]
    exact ⟨⟨s, rfl, h3⟩, rfl⟩

theorem add_addr (b o i : Nat) : (⟨b, o, none⟩ : Addr).add i = ⟨b, o + i, none⟩ := by
  unfold Addr.add
  split
  · rename_i h0
    have : i = 0 := by simpa using h0
    subst this; rfl
  · rfl

theorem choose_rows {α : Type} {Q : Nat → α → Prop} {n : Nat} (h : ∀ i, i < n → ∃ x, Q i x) : ∃ l : List α, l.length = n ∧ ∀ i x, l[i]? = some x → Q i x := by
  induction n with
  | zero => exact ⟨[], rfl, by simp⟩
  | succ n ih =>
    obtain ⟨l, h1, h2⟩ := ih (fun i hi => h i (by omega))
    obtain ⟨x, hx⟩ := h n (by omega)
    refine ⟨l ++ [x], by simp [h1], fun i y hy => ?_⟩
    by_cases hi : i < l.length
    · rw [List.getElem?_append_left hi] at hy; exact h2 i y hy
    · rw [List.getElem?_append_right (by omega)] at hy
      have : i = n := by
        have := (List.getElem?_eq_some_iff.1 hy).1
        simp at this; omega
      subst this
      simp [h1] at hy
      subst hy; exact hx

theorem flatten_rows {A : List Atom} {b size : Nat} : ∀ {rows : List (List Value)} {o : Nat}, (∀ i r, rows[i]? = some r → r.length = size ∧ ∀ a ∈ cellsAt b (o + i * size) r, a ∈ A) → rows.flatten.length = rows.length * size ∧ ∀ a ∈ cellsAt b o rows.flatten, a ∈ A := by
  intro rows
  induction rows with
  | nil => intro o _; exact ⟨by simp, by simp [cellsAt]⟩
  | cons r rows ih =>
    intro o h
    obtain ⟨h1, h2⟩ := h 0 r rfl
    obtain ⟨h3, h4⟩ := ih (o := o + size) (fun i r' hr => by
      have := h (i + 1) r' (by simpa using hr)
      rw [show o + size + i * size = o + (i + 1) * size by rw [Nat.succ_mul]; omega]
      exact this)
    refine ⟨by rw [List.flatten_cons, List.length_append, h1, h3, List.length_cons, Nat.succ_mul]; omega, fun a ha => ?_⟩
    rw [List.flatten_cons, cellsAt_append, List.mem_append] at ha
    rcases ha with ha | ha
    · refine h2 a ?_
      rw [Nat.zero_mul, Nat.add_zero]; exact ha
    · rw [h1] at ha; exact h4 a ha

/-- A list of structs of numbers and texts. -/
theorem rd_struct {t e : TypeId} {fs : Array Field} {scs : List SC} {v : Value} {d : DataW H} {p : List MemPlace} {A : List Atom} (ht : P.underlying t = some (.slice e)) (he : P.underlying e = some (.struct fs)) (hone : oneCellFields P fs = true) (hC : P.cellsOf e = fs.size)
    (hfs : fs.toList.map (fun f => P.underlying f.type) = scs.map (fun s => some s.td)) (hv : Value.okWide P W .any base t v) (h : DataW.Trod enc P W 0 (fun _ => true) true t v d p) (hf : W.noneFrozen p) (hA : ∀ a : Atom, a.holds W → a ∈ A) :
    ∃ rows : List (List Value), RdRow scs.length A v rows.length rows.flatten ∧ (∀ r ∈ rows, Typed scs r) ∧ ((d = .nil ∧ rows = []) ∨ ∃ sp, d = .slice (rows.map fun r => .agg (r.map valD)) sp) := by
  have hsz : scs.length = fs.size := by have := congrArg List.length hfs; simpa using this.symm
  obtain ⟨n, hn⟩ := h
  rcases slice_form ht hv with rfl | ⟨b, o, len, cap, rfl, hl⟩
  · rcases open_slice ht hn with ⟨_, h2⟩ | ⟨a, l, c, m, n', D, Pl, h1, _⟩
    · cases h2
      exact ⟨[], .inl ⟨rfl, rfl, rfl⟩, by simp, .inl ⟨rfl, rfl⟩⟩
    · simp [Value.cells] at h1
  · rcases open_slice ht hn with ⟨h1, _⟩ | ⟨a, l, c, m, n', D, Pl, hcs, hb, hlc, hcm, hm, hx, hi⟩
    · simp [Value.cells] at h1
    · simp only [Value.cells, List.cons.injEq, Value.slice.injEq, Option.some.injEq, and_true] at hcs
      obtain ⟨rfl, rfl, rfl⟩ := hcs
      simp only [if_true] at hm
      subst hm
      rw [hC] at hx hi
      have key : ∀ i, i < len → ∃ r : List Value, Typed scs r ∧ r.length = scs.length ∧ (∀ a ∈ cellsAt b (o + i * scs.length) r, a ∈ A) ∧ D i = .agg (r.map valD) := by
        intro i hil
        obtain ⟨cs', hc, ht'⟩ := hi i (by omega)
        obtain ⟨ys, k, hn', hy, hlen, hyl, hfld⟩ := DataW.trod_struct he ht'
        obtain ⟨_, hcl, hat⟩ := World.cells?_some hc
        simp only [Prod.mk.injEq] at hy
        have each : ∀ (j : Nat) (sc : SC), scs[j]? = some sc → ∃ u y, cs'[j]? = some u ∧ ys[j]? = some y ∧ sc.ok u ∧ y.1 = valD u := by
          intro j sc hsc
          have hjl : j < fs.size := by have := (List.getElem?_eq_some_iff.1 hsc).1; omega
          have hfj : fs[j]? = some fs[j] := by simp [hjl]
          have htj : P.underlying (fs[j]).type = some sc.td := by
            have := congrArg (·[j]?) hfs
            simp only [List.getElem?_map, hsc, Option.map_some] at this
            rw [show fs.toList[j]? = some fs[j] by simp [hjl]] at this
            simpa using this
          obtain ⟨ho, hk⟩ := hone_of hone j _ hfj
          have h1 := hfld j _ hfj
          rw [ho, hk] at h1
          have hone' : (cs'.drop j).take 1 = [cs'[j]'(by omega)] := by
            rw [List.drop_eq_getElem_cons (by omega)]; rfl
          rw [hone'] at h1
          have hys : ys[j]? = some (ys[j]'(by omega)) := List.getElem?_eq_getElem (by omega)
          obtain ⟨g1, g2⟩ := sc_trod htj (h1.trans hys)
          exact ⟨_, _, List.getElem?_eq_getElem (by omega), hys, g1, g2⟩
        have hcl' : cs'.length = scs.length := by omega
        refine ⟨cs', ⟨hcl', fun j sc u hsc hu => ?_⟩, hcl', fun a ha => ?_, ?_⟩
        · obtain ⟨u', y, g1, _, g3, _⟩ := each j sc hsc
          rw [hu] at g1; cases g1; exact g3
        · obtain ⟨j, u, hj, rfl⟩ := mem_cellsAt.1 ha
          have hjl : j < fs.size := by have := (List.getElem?_eq_some_iff.1 hj).1; omega
          have hcell := hat j hjl
          rw [add_addr, add_addr, Nat.add_assoc] at hcell
          have hu : cs'[j]? = some u := hj
          have hcu : W.cell? ⟨b, o + (i * fs.size + j), none⟩ = some u := by rw [hcell]; exact hu
          rw [hsz, Nat.add_assoc]
          refine hA _ (holds_cell hcu (hf b _ ?_))
          cases hx
          refine List.mem_append_left _ (MemPlace.mem_row.2 ⟨i * fs.size + j, ?_, rfl⟩)
          have : (i + 1) * fs.size ≤ m * fs.size := Nat.mul_le_mul_right _ (by omega)
          rw [Nat.succ_mul] at this; omega
        · rw [hy.1]
          congr 1
          apply List.ext_getElem?
          intro j
          by_cases hjl : j < scs.length
          · obtain ⟨sc, hsc⟩ : ∃ sc, scs[j]? = some sc := ⟨scs[j], by simp [hjl]⟩
            obtain ⟨u, y, g1, g2, _, g4⟩ := each j sc hsc
            rw [List.getElem?_map, List.getElem?_map, g1, g2]
            simp [g4]
          · rw [List.getElem?_eq_none (by simp; omega), List.getElem?_eq_none (by simp; omega)]
      obtain ⟨rows, hr1, hr2⟩ := choose_rows key
      obtain ⟨f1, f2⟩ := flatten_rows (A := A) (b := b) (size := scs.length) (rows := rows) (o := o) (fun i r hr => ⟨(hr2 i r hr).2.1, (hr2 i r hr).2.2.1⟩)
      refine ⟨rows, .inr ⟨b, o, m, by rw [hr1], by rw [hr1]; exact hl, f1, f2⟩, fun r hr => ?_, .inr ⟨(List.range (m - len)).map fun j => D (len + j), ?_⟩⟩
      · obtain ⟨i, hi⟩ := List.getElem?_of_mem hr
        exact (hr2 i r hi).1
      · cases hx
        congr 1
        apply List.ext_getElem?
        intro i
        by_cases hil : i < len
        · obtain ⟨r, hr⟩ : ∃ r, rows[i]? = some r := ⟨rows[i]'(by omega), by rw [List.getElem?_eq_getElem]⟩
          rw [List.getElem?_map, List.getElem?_map, hr, List.getElem?_range hil]
          simp [(hr2 i r hr).2.2.2]
        · rw [List.getElem?_eq_none (by simp; omega), List.getElem?_eq_none (by simp; omega)]

/-- A list of numbers, or of texts. -/
theorem rd_scal {t e : TypeId} {sc : SC} {v : Value} {d : DataW H} {p : List MemPlace} {A : List Atom} (ht : P.underlying t = some (.slice e)) (he : P.underlying e = some sc.td) (hC : P.cellsOf e = 1)
    (hv : Value.okWide P W .any base t v) (h : DataW.Trod enc P W 0 (fun _ => true) true t v d p) (hf : W.noneFrozen p) (hA : ∀ a : Atom, a.holds W → a ∈ A) :
    ∃ vs : List Value, RdRow 1 A v vs.length vs ∧ (∀ u ∈ vs, sc.ok u) ∧ ((d = .nil ∧ vs = []) ∨ ∃ sp, d = .slice (vs.map valD) sp) := by
  obtain ⟨n, hn⟩ := h
  rcases slice_form ht hv with rfl | ⟨b, o, len, cap, rfl, hl⟩
  · rcases open_slice ht hn with ⟨_, h2⟩ | ⟨a, l, c, m, n', D, Pl, h1, _⟩
    · cases h2
      exact ⟨[], .inl ⟨rfl, rfl, rfl⟩, by simp, .inl ⟨rfl, rfl⟩⟩
    · simp [Value.cells] at h1
  · rcases open_slice ht hn with ⟨h1, _⟩ | ⟨a, l, c, m, n', D, Pl, hcs, hb, hlc, hcm, hm, hx, hi⟩
    · simp [Value.cells] at h1
    · simp only [Value.cells, List.cons.injEq, Value.slice.injEq, Option.some.injEq, and_true] at hcs
      obtain ⟨rfl, rfl, rfl⟩ := hcs
      simp only [if_true] at hm
      subst hm
      rw [hC] at hx hi
      have key : ∀ i, i < len → ∃ u : Value, sc.ok u ∧ Atom.cell b (o + i) u ∈ A ∧ D i = valD u := by
        intro i hil
        obtain ⟨cs', hc, ht'⟩ := hi i (by omega)
        obtain ⟨_, hcl, hat⟩ := World.cells?_some hc
        obtain ⟨u, rfl⟩ : ∃ u, cs' = [u] := List.length_eq_one_iff.1 hcl
        obtain ⟨g1, g2⟩ := sc_trod he ht'
        have hcell := hat 0 (by omega)
        rw [add_addr, add_addr, Nat.mul_one, Nat.add_zero] at hcell
        refine ⟨u, g1, hA _ (holds_cell hcell (hf b _ ?_)), g2⟩
        cases hx
        exact List.mem_append_left _ (MemPlace.mem_row.2 ⟨i, by omega, rfl⟩)
      obtain ⟨vs, hr1, hr2⟩ := choose_rows key
      refine ⟨vs, .inr ⟨b, o, m, by rw [hr1], by rw [hr1]; exact hl, by omega, fun a ha => ?_⟩, fun u hu => ?_, .inr ⟨(List.range (m - len)).map fun j => D (len + j), ?_⟩⟩
      · obtain ⟨j, u, hj, rfl⟩ := mem_cellsAt.1 ha
        exact (hr2 j u hj).2.1
      · obtain ⟨i, hi⟩ := List.getElem?_of_mem hu
        exact (hr2 i u hi).1
      · cases hx
        congr 1
        apply List.ext_getElem?
        intro i
        by_cases hil : i < len
        · obtain ⟨r, hr⟩ : ∃ r, vs[i]? = some r := ⟨vs[i]'(by omega), by rw [List.getElem?_eq_getElem]⟩
          rw [List.getElem?_map, List.getElem?_map, hr, List.getElem?_range hil]
          simp [(hr2 i r hr).2.2]
        · rw [List.getElem?_eq_none (by simp; omega), List.getElem?_eq_none (by simp; omega)]
end

theorem map_of {α β : Type} {f : α → β} {l : List β} (h : ∀ y ∈ l, ∃ x, y = f x) : ∃ m : List α, l = m.map f := by
  induction l with
  | nil => exact ⟨[], rfl⟩
  | cons y l ih =>
    obtain ⟨m, rfl⟩ := ih (fun z hz => h z (by simp [hz]))
    obtain ⟨x, rfl⟩ := h y (by simp)
    exact ⟨x :: m, rfl⟩
end Go.V

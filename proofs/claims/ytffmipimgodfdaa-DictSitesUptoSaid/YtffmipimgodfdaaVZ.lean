/-
  From what a function does to the given statement: true, and all that came in reads as it did.
-/
import Derived.Test.YtffmipimgodfdaaVY
import Derived.ChangeSame
import Derived.ChangeSlices
import Derived.RowKit
namespace Go.V
open Go Go.ChangeShapes Go.WideShapes

section
variable {H : Type} {enc : TypeId × Value → H} {P : Program}

theorem glue {f : FuncId} {fn : Func} {s : ChangeSpec} {rt : TypeId} {apart fresh handsOn : Bool} {W : World} {args : List Value} {ds gs : List (DataW H)} {before : List MemPlace}
    (hvars : s.vars = []) (hrt : fn.resultTypes = #[rt]) (hb : P.underlying rt = some .bool) (hfn : s.fn H (ds ++ gs) = { results := [.lit (.bool true)], args := ds })
    {ok : TypeId → Prop} (hcl : Closed P ok) (hok : ∀ t ∈ fn.params.toList, ok t) (hW : DataW.Whole enc P fn.params.toList s.vars apart W args ds gs before)
    (hF : ∀ A, (∀ a : Atom, a.holds W → a ∈ A) → Fun P f args [A] fun v Post => v = .bool true ∧ Post = [A]) :
    Calls P f args.toArray W fun e W' => ∃ v, e = .returned v ∧ s.post enc P fn apart fresh handsOn false W args.toArray v W' := by
  obtain ⟨A, hA, hall⟩ := sat_all W
  have h := (hF A hall).2 [] W (by simpa using hA)
  refine h.mono ?_
  rintro e W' ⟨v, Post, rfl, ⟨rfl, rfl⟩, hs, hk⟩
  have hs' : Sat W' A := by simpa using hs
  have hold := old_same hall hs' hk
  refine ⟨_, rfl, ds, gs, before, [], before, [], by simpa using hW, ?_, ?_, ?_, ?_, fun h => by cases h⟩
  · rw [hrt, hfn]
    exact trodAll_mk1 ⟨1, by simp [DataW.trod, hb, Value.cells]⟩
  · obtain ⟨p, q, h1, h2, h3, _, _⟩ := hW
    rw [hvars] at h2
    obtain ⟨rfl, rfl⟩ := trodVars_none h2
    rw [hfn]
    simp only [List.append_nil] at h3
    subst h3
    simpa using trodAll_same hcl hold (fun b hb => by simpa using hb) hok h1
  · rw [hfn, hvars]; rfl
  · refine ⟨hk.os, hk.output, fun i hi => ?_⟩
    rw [hold i hi]
    have : W.heap[i]? = some W.heap[i] := Array.getElem?_eq_getElem hi
    generalize W.heap[i] = o at this
    rw [this]
    cases o <;> first | exact ⟨rfl, rfl, rfl, fun _ _ => rfl⟩ | exact .inr ⟨rfl, rfl⟩ | rfl

theorem holds_cell {W : World} {b o : Nat} {v : Value} (h : W.cell? ⟨b, o, none⟩ = some v) (hf : W.frozen? ⟨b, o, none⟩ = false) : (Atom.cell b o v).holds W := by
  unfold World.cell? at h
  unfold World.frozen? at hf
  split at h
  · rename_i c t fr hb
    obtain ⟨lo, hi⟩ := fr
    simp only at hb hf h
    rw [hb] at hf
    simp only [Bool.and_eq_false_iff, decide_eq_false_iff_not] at hf
    refine ⟨c, t, lo, hi, hb, by simpa using h, fun hh => ?_⟩
    rcases hf with hf | hf
    · exact hf hh.1
    · exact hf hh.2
  · cases h

/-- A slice argument's form. -/
theorem slice_form {W : World} {base : Nat} {t e : TypeId} {v : Value} (ht : P.underlying t = some (.slice e)) (hv : Value.okWide P W .any base t v) :
    v = .slice none 0 0 ∨ ∃ b o len cap, v = .slice (some ⟨b, o, none⟩) len cap ∧ len ≤ cap := by
  cases v <;> simp only [Value.okWide, ht, Cell.okWide, Cell.ok] at hv
  rename_i a len cap
  cases a with
  | none =>
    left
    split at hv <;> simp_all
  | some a =>
    right
    obtain ⟨b, o, sp⟩ := a
    obtain ⟨h1, _, _, h2, _⟩ := hv
    simp only at h2
    subst h2
    exact ⟨b, o, len, cap, rfl, h1⟩

/-- The numbers of a slice argument, read alone. -/
theorem open_rd {W : World} {base : Nat} {t e : TypeId} {v : Value} {d : DataW H} {p : List MemPlace} {A : List Atom} (ht : P.underlying t = some (.slice e)) (he : P.underlying e = some (.int .i64)) (hc : P.cellsOf e = 1)
    (hv : Value.okWide P W .any base t v) (h : DataW.Trod enc P W 0 (fun _ => true) true t v d p) (hf : W.noneFrozen p) (hA : ∀ a : Atom, a.holds W → a ∈ A) :
    ∃ xs : List Int, ((v = .slice none 0 0 ∧ xs = []) ∨ ∃ b o c, v = .slice (some ⟨b, o, none⟩) xs.length c ∧ ∀ i x, xs[i]? = some x → Atom.cell b (o + i) (.int .i64 x) ∈ A) ∧ ((d = .nil ∧ xs = []) ∨ ∃ es sp, d = .slice es sp ∧ es.length = xs.length) := by
  obtain ⟨n, hn⟩ := h
  rcases slice_form ht hv with rfl | ⟨b, o, len, cap, rfl, hl⟩
  · rcases open_ints ht he hc hn with ⟨_, h2⟩ | ⟨a, l, c, zs, h1, _⟩
    · cases h2
      exact ⟨[], .inl ⟨rfl, rfl⟩, .inl ⟨rfl, rfl⟩⟩
    · simp [Value.cells] at h1
  · rcases open_ints ht he hc hn with ⟨h1, _⟩ | ⟨a, l, c, zs, h1, _, hlc, _, hz, hx, hcell, _⟩
    · simp [Value.cells] at h1
    · simp only [Value.cells, List.cons.injEq, Value.slice.injEq, Option.some.injEq, and_true] at h1
      obtain ⟨rfl, rfl, rfl⟩ := h1
      simp only [if_true] at hz
      cases hx
      have hlen : (zs.take len).length = len := by simp; omega
      refine ⟨zs.take len, .inr ⟨b, o, cap, by rw [hlen], fun i x hi => ?_⟩, .inr ⟨_, _, rfl, ?_⟩⟩
      · rw [List.getElem?_take] at hi
        split at hi
        · have hil := (List.getElem?_eq_some_iff.1 hi).1
          have h3 := hcell i hil
          have h4 : zs.getD i 0 = x := by simp [List.getD, hi]
          rw [h4] at h3
          have ea : (⟨b, o, none⟩ : Addr).add i = ⟨b, o + i, none⟩ := by
            unfold Addr.add
            split
            · rename_i h0; have : i = 0 := by simpa using h0
              subst this; rfl
            · rfl
          rw [ea] at h3
          refine hA _ (holds_cell h3 (hf b (o + i) ?_))
          exact MemPlace.mem_row.2 ⟨i, hil, rfl⟩
        · cases hi
      · have : (lits IntKind.i64 (List.take len zs) : List (DataW H)).length = (List.take len zs).length := by simp [lits]
        rw [this]
end
end Go.V

/-
  Triples for what reads, makes or writes memory.
-/
import Derived.Test.YtklkngccaemjdaaGreatVE
set_option linter.unusedSimpArgs false
set_option linter.unusedVariables false
namespace Go.V
open Go
section
variable {P : Program} {ρ : Operand → Value} {H : List Atom} {K : Next → List Atom → Prop}

theorem cellsAt_append (b : Nat) (us vs : List Value) : ∀ o, cellsAt b o (us ++ vs) = cellsAt b o us ++ cellsAt b (o + us.length) vs := by
  induction us with
  | nil => intro o; simp [cellsAt]
  | cons u us ih => intro o; simp only [List.cons_append, cellsAt, ih, List.length_cons]; congr 3; omega

theorem swp_loadFrom {b o : Nat} {K : Array Value → List Atom → Prop} : ∀ (vs : List Value) (i : Nat) (acc : Array Value), (∀ x ∈ cellsAt b (o + i) vs, x ∈ H) → K (acc ++ vs.toArray) H →
    SWP P (loadCellsFrom ⟨b, o, none⟩ i vs.length acc) H K := by
  intro vs
  induction vs with
  | nil => intro i acc _ h; exact SWP.pure (by simpa using h)
  | cons v vs ih =>
    intro i acc hm h
    simp only [List.length_cons, loadCellsFrom, add_off]
    refine SWP.bind (SWP.load (v := v) (hm _ (by simp [cellsAt])) ?_)
    refine ih (i + 1) (acc.push v) (fun x hx => hm x (by simp only [cellsAt, List.mem_cons]; exact .inr hx)) ?_
    have : acc.push v ++ vs.toArray = acc ++ (v :: vs).toArray := by simp
    rw [this]; exact h

theorem SWP.loadCells {b o n : Nat} {vs : List Value} {K : Array Value → List Atom → Prop} (hn : vs.length = n) (hm : ∀ x ∈ cellsAt b o vs, x ∈ H) (h : K vs.toArray H) : SWP P (Go.loadCells ⟨b, o, none⟩ n) H K := by
  subst hn
  exact swp_loadFrom vs 0 #[] (by simpa using hm) (by simpa using h)

theorem swp_storeFrom {b o : Nat} {K : Unit → List Atom → Prop} : ∀ (vs us : List Value) (i : Nat) (L : List Atom), vs.length = us.length → (∀ v ∈ vs, oneCell v = true) →
    (∀ L', L'.Perm (cellsAt b (o + i) vs ++ L) → K () L') → ∀ M : List Atom, M.Perm (cellsAt b (o + i) us ++ L) → SWP P (storeCells ⟨b, o, none⟩ vs i) M K := by
  intro vs
  induction vs with
  | nil =>
    intro us i L hl _ h M hM
    cases us <;> simp at hl
    exact SWP.pure (h M (by simpa [cellsAt] using hM))
  | cons v vs ih =>
    intro us i L hl hone h M hM
    cases us with
    | nil => simp at hl
    | cons u us =>
      simp only [storeCells, add_off]
      refine SWP.perm hM (SWP.bind ?_)
      simp only [cellsAt, List.cons_append]
      refine SWP.store (hone v (by simp)) ?_
      refine ih us (i + 1) (.cell b (o + i) v :: L) (by simpa using hl) (fun x hx => hone x (by simp [hx])) (fun L' hL' => h L' ?_) _ ?_
      · refine hL'.trans ?_
        simp only [cellsAt, List.cons_append, Nat.add_assoc]
        exact List.perm_middle
      · simp only [Nat.add_assoc]
        exact List.perm_middle.symm

theorem SWP.storeCells {b o : Nat} {vs us : List Value} {R : List Atom} {K : Unit → List Atom → Prop} (hl : vs.length = us.length) (hone : ∀ v ∈ vs, oneCell v = true)
    (h : K () (cellsAt b o vs ++ R)) : SWP P (Go.storeCells ⟨b, o, none⟩ vs) (cellsAt b o us ++ R) K := by
  have := swp_storeFrom (P := P) (b := b) (o := o) (K := fun _ L => L.Perm (cellsAt b o vs ++ R)) vs us 0 R hl hone (fun L' hL' => by simpa using hL') (cellsAt b o us ++ R) (by simp)
  intro F w hs
  obtain ⟨v, w', H', h1, h2, h3, h4⟩ := this F w hs
  exact ⟨v, w', _, h1, h, h3.perm (h2.append_right F), h4⟩

/-- Where the first cells of what is copied lie. -/
def Src (H : List Atom) (size n : Nat) (vs : List Value) : Value → Prop
  | .slice (some ⟨b, o, none⟩) _ _ => vs.length = n * size ∧ ∀ x ∈ cellsAt b o vs, x ∈ H
  | .slice none _ _ => vs = []
  | .string s => vs = (s.data.toList.take n).map fun c => .int .u8 c.toNat
  | _ => False

theorem SWP.firstCells {size n : Nat} {x : Value} {vs : List Value} {K : Array Value → List Atom → Prop} (hx : Src H size n vs x) (h : K vs.toArray H) : SWP P (Builtin.firstCells size n x) H K := by
  unfold Src at hx
  split at hx
  · exact SWP.loadCells hx.1 hx.2 h
  · subst hx; exact SWP.pure h
  · rename_i s
    subst hx
    refine SWP.pure ?_
    have : (s.extract 0 n).data.map (fun b => Value.int .u8 b.toNat) = ((s.data.toList.take n).map fun c => Value.int .u8 c.toNat).toArray := by
      apply Array.toList_inj.1
      simp [ByteArray.data_extract, Array.toList_extract]
    rw [this]; exact h
  · exact hx.elim

/-! The operations -/

theorem mem_load1 {x : Operand} {b o : Nat} {v : Value} (hx : ρ x = .pointer (some ⟨b, o, none⟩)) (hm : Atom.cell b o v ∈ H) (h : K (.value v) H) :
    SWP P (do let a ← Instr.sureAddr (ρ x); let v ← load a; pure (.value v)) H K := by
  rw [hx]
  exact SWP.bind (SWP.pure (SWP.bind (SWP.load hm (SWP.pure h))))

theorem mem_loadN {n : Nat} {x : Operand} {b o : Nat} {vs : List Value} (hx : ρ x = .pointer (some ⟨b, o, none⟩)) (hn : vs.length = n) (hm : ∀ x ∈ cellsAt b o vs, x ∈ H) (h : K (.value (.agg vs.toArray)) H) :
    SWP P (do let a ← Instr.sureAddr (ρ x); let cs ← loadCells a n; pure (.value (.agg cs))) H K := by
  rw [hx]
  exact SWP.bind (SWP.pure (SWP.bind (SWP.loadCells hn hm (SWP.pure h))))

theorem mem_store {n : Nat} {x v : Operand} {b o : Nat} {us : List Value} {R : List Atom} (hx : ρ x = .pointer (some ⟨b, o, none⟩)) (hn : (ρ v).cells.size = n) (hu : us.length = n) (hone : ∀ c ∈ (ρ v).cells.toList, oneCell c = true)
    (h : K .skip (cellsAt b o (ρ v).cells.toList ++ R)) :
    SWP P (do let a ← Instr.sureAddr (ρ x); if (ρ v).cells.size = n then (do storeCells a (ρ v).cells.toList; pure .skip) else stuck "size") (cellsAt b o us ++ R) K := by
  rw [hx]
  refine SWP.bind (SWP.pure ?_)
  rw [if_pos hn]
  exact SWP.bind (SWP.storeCells (by simp [hn, hu]) hone (SWP.pure h))

theorem mem_new {c : Array Value} {t : TypeId} {f : Nat → Next} (h : ∀ b, K (f b) (cellsAt b 0 c.toList ++ H)) : SWP P (do let b ← newObj (.cells c t); pure (f b)) H K :=
  SWP.bind (SWP.new_cells fun b => SWP.pure (h b))

theorem mem_newObj {o : Obj} {f : Nat → Next} (ho : isCells o = false) (h : ∀ b, K (f b) (.obj b o :: H)) : SWP P (do let b ← newObj o; pure (f b)) H K :=
  SWP.bind (SWP.new_obj ho fun b => SWP.pure (h b))

theorem swp_entries {m c : Nat} {es : Array MapEntry} {α : Type} {f : Array MapEntry × Nat → Sem α} {K : α → List Atom → Prop} (hm : Atom.obj m (.map es c) ∈ H) (h : SWP P (f (es, c)) H K) : SWP P (entriesOf (.map (some m)) >>= f) H K := by
  refine SWP.bind ?_
  unfold entriesOf
  exact SWP.bind (SWP.getObj hm (SWP.pure h))

theorem swp_entries_nil {α : Type} {f : Array MapEntry × Nat → Sem α} {K : α → List Atom → Prop} (h : SWP P (f (#[], 0)) H K) : SWP P (entriesOf (.map none) >>= f) H K :=
  SWP.bind (SWP.pure h)

theorem swp_key (old new : Value) {K : Value → List Atom → Prop} (h : ∀ k, k = old ∨ k = new → K k H) : SWP P (Instr.keyThatStays old new) H K := by
  unfold Instr.keyThatStays
  split
  · exact SWP.pure (h _ (.inr rfl))
  · refine SWP.bind (SWP.choose (fun _ => SWP.pure ?_) (fun n => SWP.pure ?_))
    · exact h _ (.inr rfl)
    · split
      · exact h _ (.inr rfl)
      · exact h _ (.inl rfl)
end
end Go.V

/-
  Cells and objects of memory as a list of atoms that a world satisfies, and triples over the model's own Sem programs.
-/
import Derived.Orders
import Derived.Laws.Sem
import Derived.Laws.World
import GoSem.Dispatch
import Derived.Laws.Strings
import Derived.Laws.StructEq
set_option linter.unusedSimpArgs false
set_option linter.unusedVariables false
namespace Go.V
open Go
inductive Atom where
  | cell (b off : Nat) (v : Value)
  | obj (b : Nat) (o : Obj)
  | row (b n : Nat)
def Atom.loc : Atom → Nat × Option Nat
  | .cell b off _ => (b, some off)
  | .obj b _ => (b, none)
  | .row b _ => (b, none)
def isCells : Obj → Bool
  | .cells .. => true
  | _ => false
def Atom.holds (w : World) : Atom → Prop
  | .cell b off v => ∃ c t lo hi, w.heap[b]? = some (Obj.cells c t (lo, hi)) ∧ c[off]? = some v ∧ ¬(lo ≤ off ∧ off < hi)
  | .obj b o => w.heap[b]? = some o ∧ isCells o = false
  | .row b n => ∃ c t lo hi, w.heap[b]? = some (Obj.cells c t (lo, hi)) ∧ c.size = n
structure Sat (w : World) (L : List Atom) : Prop where
  holds : ∀ x ∈ L, x.holds w
  nodup : (L.map Atom.loc).Nodup
structure Keeps (w w' : World) : Prop where
  os : w'.os = w.os
  output : w'.output = w.output
  size : w.heap.size ≤ w'.heap.size
  cells : ∀ (i : Nat) c t lo hi, w.heap[i]? = some (Obj.cells c t (lo, hi)) → ∃ c', w'.heap[i]? = some (Obj.cells c' t (lo, hi)) ∧ c'.size = c.size ∧ ∀ j, lo ≤ j ∧ j < hi → c'[j]? = c[j]?
theorem Keeps.refl (w : World) : Keeps w w := ⟨rfl, rfl, Nat.le_refl _, fun _ c _ _ _ h => ⟨c, h, rfl, fun _ _ => rfl⟩⟩
theorem Keeps.trans {a b c : World} (h : Keeps a b) (k : Keeps b c) : Keeps a c := by
  refine ⟨k.os.trans h.os, k.output.trans h.output, Nat.le_trans h.size k.size, fun i x t lo hi hx => ?_⟩
  obtain ⟨y, hy, sy, fy⟩ := h.cells i x t lo hi hx
  obtain ⟨z, hz, sz, fz⟩ := k.cells i y t lo hi hy
  exact ⟨z, hz, sz.trans sy, fun j hj => (fz j hj).trans (fy j hj)⟩
theorem Keeps.drawn {a b : World} (h : Keeps a b) (n : Nat) : Keeps a { b with drawn := n } := ⟨h.os, h.output, h.size, h.cells⟩
theorem Sat.drawn {w : World} {L : List Atom} (h : Sat w L) (n : Nat) : Sat { w with drawn := n } L := ⟨fun x hx => by
  have := h.holds x hx; cases x <;> exact this, h.nodup⟩
theorem Sat.perm {w : World} {L M : List Atom} (h : Sat w L) (p : L.Perm M) : Sat w M :=
  ⟨fun x hx => h.holds x (p.mem_iff.2 hx), (p.map Atom.loc).nodup_iff.1 h.nodup⟩
theorem Sat.sub {w : World} {L M : List Atom} (h : Sat w L) (p : M.Sublist L) : Sat w M :=
  ⟨fun x hx => h.holds x (p.subset hx), (p.map Atom.loc).nodup h.nodup⟩
theorem Sat.right {w : World} {L M : List Atom} (h : Sat w (L ++ M)) : Sat w M := h.sub (List.sublist_append_right L M)
theorem Sat.left {w : World} {L M : List Atom} (h : Sat w (L ++ M)) : Sat w L := h.sub (List.sublist_append_left L M)
theorem Sat.lt {w : World} {L : List Atom} (h : Sat w L) {x : Atom} (hx : x ∈ L) : x.loc.1 < w.heap.size := by
  have := h.holds x hx
  cases x with
  | cell b off v => obtain ⟨c, t, lo, hi, hb, _⟩ := this; exact (Array.getElem?_eq_some_iff.1 hb).1
  | obj b o => exact (Array.getElem?_eq_some_iff.1 this.1).1
  | row b n => obtain ⟨c, t, lo, hi, hb, _⟩ := this; exact (Array.getElem?_eq_some_iff.1 hb).1
theorem Sat.cell {w : World} {L : List Atom} (h : Sat w L) {b off : Nat} {v : Value} (hx : Atom.cell b off v ∈ L) :
    w.cell? ⟨b, off, none⟩ = some v ∧ w.frozen? ⟨b, off, none⟩ = false := by
  obtain ⟨c, t, lo, hi, hb, hc, hf⟩ := h.holds _ hx
  refine ⟨by simp [World.cell?, hb, hc], ?_⟩
  simp only [World.frozen?, hb]
  simp only [Bool.and_eq_false_iff, decide_eq_false_iff_not]
  by_cases h1 : lo ≤ off
  · right; intro h2; exact hf ⟨h1, h2⟩
  · left; exact h1
theorem Sat.obj {w : World} {L : List Atom} (h : Sat w L) {b : Nat} {o : Obj} (hx : Atom.obj b o ∈ L) : w.heap[b]? = some o ∧ isCells o = false := h.holds _ hx
theorem Sat.store {w : World} {L : List Atom} {b off : Nat} {v u : Value} (h : Sat w (.cell b off v :: L)) :
    Sat (w.setCell ⟨b, off, none⟩ u) (.cell b off u :: L) ∧ Keeps w (w.setCell ⟨b, off, none⟩ u) := by
  obtain ⟨c, t, lo, hi, hb, hc, hf⟩ := h.holds _ (List.mem_cons_self ..)
  have hlt : off < c.size := (Array.getElem?_eq_some_iff.1 hc).1
  have hheap : ∀ i, (w.setCell ⟨b, off, none⟩ u).heap[i]? = if b = i then some (Obj.cells (c.setIfInBounds off u) t (lo, hi)) else w.heap[i]? := by
    intro i
    simp only [World.setCell, Array.getElem?_modify]
    by_cases e : b = i
    · subst e; simp [hb]
    · simp [e]
  refine ⟨⟨fun x hx => ?_, ?_⟩, ⟨rfl, rfl, by simp [World.setCell], fun i c' t' lo' hi' hi'' => ?_⟩⟩
  · rcases List.mem_cons.1 hx with rfl | hx
    · exact ⟨c.setIfInBounds off u, t, lo, hi, by rw [hheap]; simp, by simp [hlt], hf⟩
    · have hne : (b, some off) ≠ x.loc := by
        have := h.nodup
        simp only [List.map_cons, List.nodup_cons, List.mem_map, not_exists, not_and] at this
        intro e; exact this.1 x hx e.symm
      have hh := h.holds x (List.mem_cons_of_mem _ hx)
      cases x with
      | cell b' off' v' =>
        obtain ⟨c', t', lo', hi', hb', hc', hf'⟩ := hh
        by_cases e : b = b'
        · subst e
          rw [hb] at hb'
          obtain ⟨rfl, rfl, rfl, rfl⟩ : c = c' ∧ t = t' ∧ lo = lo' ∧ hi = hi' := by simpa using hb'
          have hoff : off ≠ off' := fun e => hne (by simp [Atom.loc, e])
          exact ⟨c.setIfInBounds off u, t, lo, hi, by rw [hheap]; simp, by simp [Array.getElem?_setIfInBounds_ne hoff, hc'], hf'⟩
        · exact ⟨c', t', lo', hi', by rw [hheap]; simp [e, hb'], hc', hf'⟩
      | obj b' o =>
        obtain ⟨hb', ho⟩ := hh
        have e : b ≠ b' := fun e => by
          subst e; rw [hb] at hb'; cases hb'; simp [isCells] at ho
        exact ⟨by rw [hheap]; simp [e, hb'], ho⟩
      | row b' n =>
        obtain ⟨c', t', lo', hi', hb', hn⟩ := hh
        by_cases e : b = b'
        · subst e
          rw [hb] at hb'
          obtain ⟨rfl, rfl, rfl, rfl⟩ : c = c' ∧ t = t' ∧ lo = lo' ∧ hi = hi' := by simpa using hb'
          exact ⟨c.setIfInBounds off u, t, lo, hi, by rw [hheap]; simp, by simpa using hn⟩
        · exact ⟨c', t', lo', hi', by rw [hheap]; simp [e, hb'], hn⟩
  · have := h.nodup; simpa [Atom.loc] using this
  · rw [hheap]
    by_cases e : b = i
    · subst e; rw [hb] at hi''
      obtain ⟨rfl, rfl, rfl, rfl⟩ : c = c' ∧ t = t' ∧ lo = lo' ∧ hi = hi' := by simpa using hi''
      refine ⟨c.setIfInBounds off u, by simp, by simp, fun j hj => ?_⟩
      have hne : off ≠ j := fun e => hf (e ▸ hj)
      simp [Array.getElem?_setIfInBounds_ne hne]
    · simp [e, hi'']
def cellsAt (b : Nat) : Nat → List Value → List Atom
  | _, [] => []
  | off, v :: r => .cell b off v :: cellsAt b (off + 1) r
theorem mem_cellsAt {b : Nat} {x : Atom} : ∀ {off : Nat} {vs : List Value}, x ∈ cellsAt b off vs ↔ ∃ i v, vs[i]? = some v ∧ x = .cell b (off + i) v := by
  intro off vs
  induction vs generalizing off with
  | nil => simp [cellsAt]
  | cons u r ih =>
    simp only [cellsAt, List.mem_cons, ih]
    constructor
    · rintro (rfl | ⟨i, v, h, rfl⟩)
      · exact ⟨0, u, rfl, rfl⟩
      · exact ⟨i + 1, v, by simpa using h, by simp; omega⟩
    · rintro ⟨i, v, h, rfl⟩
      cases i with
      | zero => left; simp at h; simp [h]
      | succ i => right; exact ⟨i, v, by simpa using h, by simp; omega⟩
theorem nodup_cellsAt (b : Nat) (vs : List Value) : ∀ off, ((cellsAt b off vs).map Atom.loc).Nodup := by
  induction vs with
  | nil => intro off; simp [cellsAt]
  | cons u r ih =>
    intro off
    simp only [cellsAt, List.map_cons, List.nodup_cons, ih, and_true]
    simp only [List.mem_map, not_exists, not_and]
    intro x hx e
    obtain ⟨i, v, _, rfl⟩ := mem_cellsAt.1 hx
    simp [Atom.loc] at e
    omega
theorem Sat.push {w : World} {L : List Atom} (h : Sat w L) (o : Obj) (M : List Atom) (hM : ∀ x ∈ M, x.loc.1 = w.heap.size ∧ x.holds { w with heap := w.heap.push o })
    (hn : (M.map Atom.loc).Nodup) : Sat { w with heap := w.heap.push o } (M ++ L) ∧ Keeps w { w with heap := w.heap.push o } := by
  have hold : ∀ i, i < w.heap.size → (w.heap.push o)[i]? = w.heap[i]? := fun i hi => by
    rw [Array.getElem?_push]; simp [Nat.ne_of_lt hi]
  refine ⟨⟨fun x hx => ?_, ?_⟩, ⟨rfl, rfl, by simp, fun i c t lo hi hi' => ?_⟩⟩
  · rcases List.mem_append.1 hx with hx | hx
    · exact (hM x hx).2
    · have hl := h.lt hx
      have := h.holds x hx
      cases x with
      | cell b off v => obtain ⟨c, t, lo, hi, hb, r⟩ := this; exact ⟨c, t, lo, hi, by simpa [hold b hl] using hb, r⟩
      | obj b o' => exact ⟨by simpa [hold b hl] using this.1, this.2⟩
      | row b n => obtain ⟨c, t, lo, hi, hb, hn⟩ := this; exact ⟨c, t, lo, hi, by simpa [hold b hl] using hb, hn⟩
  · rw [List.map_append, List.nodup_append]
    refine ⟨hn, h.nodup, fun x hx y hy e => ?_⟩
    obtain ⟨m, hm, rfl⟩ := List.mem_map.1 hx
    obtain ⟨l, hl, rfl⟩ := List.mem_map.1 hy
    have h1 := (hM m hm).1
    have h2 := h.lt hl
    rw [e] at h1
    omega
  · have hl : i < w.heap.size := (Array.getElem?_eq_some_iff.1 hi').1
    exact ⟨c, by simpa [hold i hl] using hi', rfl, fun _ _ => rfl⟩
theorem Sat.newCells {w : World} {L : List Atom} (h : Sat w L) (c : Array Value) (t : TypeId) :
    Sat { w with heap := w.heap.push (.cells c t) } (cellsAt w.heap.size 0 c.toList ++ L) ∧ Keeps w { w with heap := w.heap.push (.cells c t) } := by
  refine h.push _ _ (fun x hx => ?_) (nodup_cellsAt _ _ _)
  obtain ⟨i, v, hi, rfl⟩ := mem_cellsAt.1 hx
  exact ⟨rfl, c, t, 0, 0, by simp, by simpa using hi, by simp⟩
theorem Sat.newObj {w : World} {L : List Atom} (h : Sat w L) (o : Obj) (ho : isCells o = false) :
    Sat { w with heap := w.heap.push o } (.obj w.heap.size o :: L) ∧ Keeps w { w with heap := w.heap.push o } := by
  refine h.push o [.obj w.heap.size o] (fun x hx => ?_) (by simp)
  rw [List.mem_singleton.1 hx]
  exact ⟨rfl, by simp, ho⟩
theorem Sat.setObj {w : World} {L : List Atom} {b : Nat} {o u : Obj} (h : Sat w (.obj b o :: L)) (hu : isCells u = false) :
    Sat { w with heap := w.heap.setIfInBounds b u } (.obj b u :: L) ∧ Keeps w { w with heap := w.heap.setIfInBounds b u } := by
  obtain ⟨hb, ho⟩ := h.holds _ (List.mem_cons_self ..)
  have hlt : b < w.heap.size := (Array.getElem?_eq_some_iff.1 hb).1
  have hheap : ∀ i, (w.heap.setIfInBounds b u)[i]? = if b = i then some u else w.heap[i]? := by
    intro i
    by_cases e : b = i
    · subst e; simp [hlt]
    · simp [Array.getElem?_setIfInBounds_ne e, e]
  refine ⟨⟨fun x hx => ?_, ?_⟩, ⟨rfl, rfl, by simp, fun i c t lo hi hi' => ?_⟩⟩
  · rcases List.mem_cons.1 hx with rfl | hx
    · exact ⟨by simp [hlt], hu⟩
    · have hne : (b, none) ≠ x.loc := by
        have := h.nodup
        simp only [List.map_cons, List.nodup_cons, List.mem_map, not_exists, not_and] at this
        intro e; exact this.1 x hx e.symm
      have hh := h.holds x (List.mem_cons_of_mem _ hx)
      cases x with
      | cell b' off' v' =>
        obtain ⟨c', t', lo', hi', hb', r⟩ := hh
        have e : b ≠ b' := fun e => by subst e; rw [hb] at hb'; cases hb'; cases ho
        exact ⟨c', t', lo', hi', by simpa [hheap, e] using hb', r⟩
      | obj b' o' =>
        have e : b ≠ b' := fun e => hne (by simp [Atom.loc, e])
        exact ⟨by simpa [hheap, e] using hh.1, hh.2⟩
      | row b' n =>
        have e : b ≠ b' := fun e => hne (by simp [Atom.loc, e])
        obtain ⟨c', t', lo', hi', hb', hn⟩ := hh
        exact ⟨c', t', lo', hi', by simpa [hheap, e] using hb', hn⟩
  · have := h.nodup; simpa [Atom.loc] using this
  · have e : b ≠ i := fun e => by subst e; rw [hb] at hi'; cases hi'; cases ho
    exact ⟨c, by simpa [hheap, e] using hi', rfl, fun _ _ => rfl⟩
def SWP (P : Program) {α : Type} (s : Sem α) (H : List Atom) (K : α → List Atom → Prop) : Prop :=
  ∀ F w, Sat w (H ++ F) → ∃ v w' H', s.run P w = .ok v w' ∧ K v H' ∧ Sat w' (H' ++ F) ∧ Keeps w w'
section
variable {P : Program} {α β : Type} {H : List Atom} {K : α → List Atom → Prop}
theorem SWP.pure {v : α} (h : K v H) : SWP P (Pure.pure v) H K := fun _ w hs => ⟨v, w, H, rfl, h, hs, .refl w⟩
theorem SWP.bind {s : Sem α} {f : α → Sem β} {K : β → List Atom → Prop} (h : SWP P s H fun v H' => SWP P (f v) H' K) : SWP P (s >>= f) H K := by
  intro F w hs
  obtain ⟨v, w1, H1, h1, h2, h3, h4⟩ := h F w hs
  obtain ⟨u, w2, H2, k1, k2, k3, k4⟩ := h2 F w1 h3
  exact ⟨u, w2, H2, by simp [h1, k1], k2, k3, h4.trans k4⟩
theorem SWP.mono {s : Sem α} {K' : α → List Atom → Prop} (h : SWP P s H K) (hk : ∀ v H', K v H' → K' v H') : SWP P s H K' := fun F w hs =>
  let ⟨v, w', H', a, b, c⟩ := h F w hs; ⟨v, w', H', a, hk _ _ b, c⟩
theorem SWP.perm {s : Sem α} {H' : List Atom} (p : H.Perm H') (h : SWP P s H' K) : SWP P s H K := fun F w hs =>
  h F w (hs.perm (p.append_right F))
theorem SWP.load {b off : Nat} {v : Value} {K : Value → List Atom → Prop} (hx : Atom.cell b off v ∈ H) (h : K v H) : SWP P (Go.load ⟨b, off, none⟩) H K := fun F w hs => by
  have := (hs.cell (List.mem_append_left F hx)).1
  exact ⟨v, w, H, by simp [Go.load, Sem.run, this], h, hs, .refl w⟩
def oneCell : Value → Bool
  | .agg _ | .tuple _ => false
  | _ => true
theorem SWP.store {b off : Nat} {v u : Value} {K : Unit → List Atom → Prop} (hu : oneCell u = true) (h : K () (.cell b off u :: H)) :
    SWP P (Go.store ⟨b, off, none⟩ u) (.cell b off v :: H) K := fun F w hs => by
  have hc := hs.cell (List.mem_append_left F (List.mem_cons_self (a := Atom.cell b off v) (l := H)))
  obtain ⟨s1, s2⟩ := Sat.store (u := u) (L := H ++ F) (by simpa using hs)
  refine ⟨(), _, _, ?_, h, s1, s2⟩
  cases u <;> simp_all [Go.store, Sem.run, oneCell]
theorem SWP.new_cells {c : Array Value} {t : TypeId} {K : Nat → List Atom → Prop} (h : ∀ b, K b (cellsAt b 0 c.toList ++ H)) : SWP P (Go.newObj (.cells c t)) H K := fun F w hs => by
  obtain ⟨s1, s2⟩ := hs.newCells c t
  exact ⟨w.heap.size, _, _, by simp [Go.newObj, Sem.run], h _, by rw [List.append_assoc]; exact s1, s2⟩
theorem SWP.new_obj {o : Obj} {K : Nat → List Atom → Prop} (ho : isCells o = false) (h : ∀ b, K b (.obj b o :: H)) : SWP P (Go.newObj o) H K := fun F w hs => by
  obtain ⟨s1, s2⟩ := hs.newObj o ho
  exact ⟨w.heap.size, _, _, by simp [Go.newObj, Sem.run], h _, s1, s2⟩
theorem SWP.getObj {b : Nat} {o : Obj} {K : Obj → List Atom → Prop} (hx : Atom.obj b o ∈ H) (h : K o H) : SWP P (Go.getObj b) H K := fun F w hs => by
  obtain ⟨h1, h2⟩ := hs.obj (List.mem_append_left F hx)
  refine ⟨o, w, H, ?_, h, hs, .refl w⟩
  cases o <;> simp_all [Go.getObj, Sem.run, isCells]
theorem SWP.setObj {b : Nat} {o u : Obj} {K : Unit → List Atom → Prop} (hu : isCells u = false) (h : K () (.obj b u :: H)) : SWP P (Go.setObj b u) (.obj b o :: H) K := fun F w hs => by
  obtain ⟨h1, h2⟩ := hs.obj (List.mem_append_left F (List.mem_cons_self (a := Atom.obj b o) (l := H)))
  obtain ⟨s1, s2⟩ := Sat.setObj (u := u) (L := H ++ F) (by simpa using hs) hu
  refine ⟨(), _, _, ?_, h, s1, s2⟩
  cases o <;> simp_all [Go.setObj, Sem.run, isCells]
theorem SWP.choose {q : Question} {K : Nat → List Atom → Prop} (h0 : q.forced = true → K 0 H) (h : ∀ n, K (q.cut n) H) : SWP P (Go.choose q) H K := fun F w hs => by
  by_cases e : q.forced = true
  · exact ⟨0, w, H, by simp [Go.choose, Sem.run, e], h0 e, hs, .refl w⟩
  · exact ⟨_, _, H, by simp [Go.choose, Sem.run, e]; exact ⟨rfl, rfl⟩, h _, hs.drawn _, (Keeps.refl w).drawn _⟩
end
inductive SK where
  | int | str | bool
  deriving DecidableEq, Repr
inductive NK where
  | ptr | map | slice | func | iface
  deriving DecidableEq, Repr
inductive R where
  | mv (x : Operand)
  | pick (c a b : Operand)
  | bin (op : BinOp) (x y : Operand)
  | eqb (neq : Bool) (x y : Operand)
  | eqnil (neq : Bool) (k : NK) (x : Operand)
  | eqagg (neq : Bool) (ks : List SK) (x y : Operand)
  | un (op : UnOp) (x : Operand)
  | conv (k : IntKind) (x : Operand)
  | cvs (x : Operand)
  | mkif (t : TypeId) (x : Operand)
  | clos (f : Fn) (first captured : List Operand)
  | ext (x : Operand) (i : Nat)
  | build (zero : List Value) (parts : List (Nat × Nat × Operand))
  | nilck (x : Operand)
  | fld (off : Nat) (x : Operand)
  | fldV (off size : Nat) (agg : Bool) (x : Operand)
  | idxA (len size : Nat) (x i : Operand)
  | idxL (size : Nat) (x i : Operand)
  | idxS (x i : Operand)
  | idxV (len size : Nat) (agg : Bool) (x i : Operand)
  | slcS (x : Operand) (lo hi : Option Operand)
  | slcL (size : Nat) (x : Operand) (lo hi mx : Option Operand)
  | slcA (len size : Nat) (x : Operand) (lo hi : Option Operand)
  | lenS (x : Operand)
  | lenL (x : Operand)
  | cap (x : Operand)
  | min2 (x y : Operand)
  | max2 (x y : Operand)
  | tassert (t : TypeId) (zero : Value) (ok : Bool) (x : Operand)
  | load1 (x : Operand)
  | loadN (n : Nat) (x : Operand)
  | mlen (m : Operand)
  | lookup (k : SK) (zero : Value) (ok : Bool) (m key : Operand)
  | entry (it : Operand)
  | b2s (x : Operand)
  | alloc (t : TypeId) (zero : List Value)
  | box (t : TypeId) (x : Operand)
  | bslice (t : TypeId) (len : Nat) (zero : List Value) (parts : List (Nat × Nat × Operand))
  | mkmap
  | mkslice (t : TypeId) (size bytes : Nat) (zero : List Value) (l c : Operand)
  | rangeS (x : Operand)
  | rangeM (x : Operand)
  | s2b (t : TypeId) (x : Operand)
  | store (n : Nat) (x v : Operand)
  | mapupd (k : SK) (m key v : Operand)
  | delete (k : SK) (m key : Operand)
  | append (t : TypeId) (size bytes : Nat) (zero : List Value) (s x : Operand)
  | grow (t : TypeId) (size bytes : Nat) (zero : List Value) (s x : Operand)
  | copy (size : Nat) (d s : Operand)
  | clr (zero : List Value) (x : Operand)
  | next (it : Operand) (isString : Bool)
  | call (f : Nat) (args : List Operand)
  | callv (x : Operand) (args : List Operand)
  | pnc (x : Operand)
def skOf : TypeDesc → Option SK
  | .int _ => some .int
  | .string => some .str
  | .bool => some .bool
  | _ => none
def callable (P : Program) (f : Nat) : Bool :=
  match P.funcs[f]? with
  | some fn => fn.name != "runtime.NumGoroutine" && fn.body.isSome
  | none => false
def scalars (P : Program) : List Field → Nat → Option (List SK)
  | [], _ => some []
  | f :: r, off => if f.offset = off ∧ f.name ≠ "_" then
      match (P.underlying f.type).bind skOf, scalars P r (off + 1) with
      | some k, some l => some (k :: l)
      | _, _ => none
    else none
def placesOf (P : Program) (fs : List Field) : List (Nat × Nat) := fs.map fun f => (f.offset, P.cellsOf f.type)
def lowParts (place : Nat → Option (Nat × Nat)) : List (Nat × Operand) → Option (List (Nat × Nat × Operand))
  | [] => some []
  | (i, x) :: r => match place i, lowParts place r with
    | some (off, size), some l => some ((off, size, x) :: l)
    | _, _ => none
def zeroOf (P : Program) (t : TypeId) : Option (List Value) := ((P.info? t).bind (·.zero)).map (·.cells.toList)
def nilKind : TypeDesc → Operand → Option NK
  | .pointer _, .const (.pointer none) => some .ptr
  | .map _ _, .const (.map none) => some .map
  | .slice _, .const (.slice none 0 0) => some .slice
  | .func .., .const .nilFunc => some .func
  | .interface _, .const .nilIface => some .iface
  | _, _ => none
def isIntL (P : Program) : List TypeId → Bool
  | u :: _ => match P.underlying u with | some (.int _) => true | _ => false
  | [] => false
def isSeq (P : Program) : List TypeId → Bool
  | u :: _ => match P.underlying u with | some (.slice _) | some .string => true | _ => false
  | [] => false
def lowOp (P : Program) : Op → Option R
  | .move x | .assign x => some (.mv x)
  | .pick c a b => some (.pick c a b)
  | .alloc t => (zeroOf P t).map (R.alloc t)
  | .box t x => some (.box t x)
  | .load t a => match P.underlying t, P.info? t with
    | some (.struct _), some i => some (.loadN i.size a)
    | some (.array _ _), some i => some (.loadN i.size a)
    | some _, some _ => some (.load1 a)
    | _, _ => none
  | .store t a x => (P.info? t).map fun i => .store i.size a x
  | .nilCheck x => some (.nilck x)
  | .binOp op t x y _ =>
    match P.underlying t with
    | some (.int _) => some (.bin op x y)
    | some .string => some (.bin op x y)
    | some .bool => match op with | .eql => some (.eqb false x y) | .neq => some (.eqb true x y) | _ => none
    | some (.struct fs) =>
      if P.eqGuardType P.depth t = false ∧ P.stoodInHeld t = false then
        match op, scalars P fs.toList 0 with
        | .eql, some ks => some (.eqagg false ks x y)
        | .neq, some ks => some (.eqagg true ks x y)
        | _, _ => none
      else none
    | some d =>
      match op, nilKind d y with
      | .eql, some k => some (.eqnil false k x)
      | .neq, some k => some (.eqnil true k x)
      | _, _ => none
    | _ => none
  | .unOp op _ x => some (.un op x)
  | .convert s d x => match P.underlying s, P.underlying d with
    | some (.int _), some (.int k) => some (.conv k x)
    | some .string, some .string => some (.cvs x)
    | some .string, some (.slice e) => match P.underlying e with | some (.int .u8) => some (.s2b e x) | _ => none
    | some (.slice e), some .string => match P.underlying e with | some (.int .u8) => some (.b2s x) | _ => none
    | _, _ => none
  | .makeInterface t x => match P.underlying t with
    | some (.interface _) | none => none
    | some _ => some (.mkif t x)
  | .makeFunc fn f c => some (.clos fn f.toList c.toList)
  | .makeMap t r => match P.underlying t with
    | some (.map _ _) => match r with | none => some .mkmap | some (.const (.int _ _)) => some .mkmap | _ => none
    | _ => none
  | .makeSlice t l c => match P.underlying t with
    | some (.slice e) => match P.info? e, zeroOf P e with | some i, some z => some (.mkslice e i.size i.bytes z l c) | _, _ => none
    | _ => none
  | .extract x i => some (.ext x i)
  | .build t parts => match P.underlying t, zeroOf P t with
    | some (.struct fs), some z => if fs.toList.all (fun f => (P.info? f.type).isSome) then (lowParts (fun i => (placesOf P fs.toList)[i]?) parts.toList).map (R.build z) else none
    | some (.array _ e), some z => match P.info? e with | some j => (lowParts (fun i => some (i * j.size, j.size)) parts.toList).map (R.build z) | none => none
    | _, _ => none
  | .buildSlice t len parts => match P.underlying t with
    | some (.slice e) => match P.info? e, zeroOf P e with
      | some i, some z => if len * i.size ≤ 2 ^ 24 ∧ z.length = i.size then (lowParts (fun j => some (j * i.size, i.size)) parts.toList).map (R.bslice e len z) else none
      | _, _ => none
    | _ => none
  | .fieldAddr s x f => match P.underlying s with
    | some (.struct fs) => match fs[f]? with
      | some fd => match P.info? fd.type with | some i => if i.size = 0 then none else some (.fld fd.offset x) | none => none
      | none => none
    | _ => none
  | .field s x f => match P.underlying s with
    | some (.struct fs) => match fs[f]? with
      | some fd => match P.underlying fd.type, P.info? fd.type with
        | some (.struct _), some i => some (.fldV fd.offset i.size true x)
        | some (.array _ _), some i => some (.fldV fd.offset i.size true x)
        | some _, some i => some (.fldV fd.offset i.size false x)
        | _, _ => none
      | none => none
    | _ => none
  | .indexAddr t x i => match P.underlying t with
    | some (.array n e) => (P.info? e).map fun j => .idxA n j.size x i
    | some (.slice e) => (P.info? e).map fun j => .idxL j.size x i
    | _ => none
  | .index t x i => match P.underlying t with
    | some .string => some (.idxS x i)
    | some (.array n e) => match P.underlying e, P.info? e with
        | some (.struct _), some j => some (.idxV n j.size true x i)
        | some (.array _ _), some j => some (.idxV n j.size true x i)
        | some _, some j => some (.idxV n j.size false x i)
        | _, _ => none
    | _ => none
  | .slice t x lo hi mx => match P.underlying t with
    | some .string => if mx.isNone then some (.slcS x lo hi) else none
    | some (.slice e) => (P.info? e).map fun j => .slcL j.size x lo hi mx
    | some (.array n e) => if mx.isNone then (P.info? e).map fun j => .slcA n j.size x lo hi else none
    | _ => none
  | .lookup t m k ok => match P.underlying t with
    | some (.map kt e) => match (P.underlying kt).bind skOf, (P.info? e).bind (·.zero) with
      | some sk, some z => some (.lookup sk z ok m k)
      | _, _ => none
    | _ => none
  | .mapUpdate t m k v | .insert t m k v => match P.underlying t with
    | some (.map kt _) => ((P.underlying kt).bind skOf).map fun sk => .mapupd sk m k v
    | _ => none
  | .range t x => match P.underlying t with
    | some .string => some (.rangeS x)
    | some (.map _ _) => some (.rangeM x)
    | _ => none
  | .next it s => some (.next it s)
  | .panic x => some (.pnc x)
  | .entry it => some (.entry it)
  | .typeAssert x _ t ok => match P.underlying t with
    | some (.interface _) | none => none
    | some _ => ((P.info? t).bind (·.zero)).map fun z => .tassert t z ok x
  | .call c => match c.callee with
    | .value (.func f) => if callable P f then some (.call f c.args.toList) else none
    | .value x => some (.callv x c.args.toList)
    | .builtin .len => match c.args.toList, c.argTypes.toList with
      | [x], [t] => match P.underlying t with
        | some .string => some (.lenS x)
        | some (.slice _) => some (.lenL x)
        | some (.map _ _) => some (.mlen x)
        | _ => none
      | _, _ => none
    | .builtin .cap => match c.args.toList, c.argTypes.toList with
      | [x], [t] => match P.underlying t with | some (.slice _) => some (.cap x) | _ => none
      | _, _ => none
    | .builtin .min => match c.args.toList with | [x, y] => some (.min2 x y) | _ => none
    | .builtin .max => match c.args.toList with | [x, y] => some (.max2 x y) | _ => none
    | .builtin .append => match c.args.toList, c.argTypes.toList with
      | [s, x], t :: xt => match P.underlying t with
        | some (.slice e) => match P.info? e, zeroOf P e with
          | some i, some z => if isSeq P xt then some (.append e i.size i.bytes z s x) else if isIntL P xt then some (.grow e i.size i.bytes z s x) else none
          | _, _ => none
        | _ => none
      | _, _ => none
    | .builtin .copy => match c.args.toList, c.argTypes.toList with
      | [d, s], t :: _ => match P.underlying t with
        | some (.slice e) => (P.info? e).map fun i => .copy i.size d s
        | _ => none
      | _, _ => none
    | .builtin .clear => match c.args.toList, c.argTypes.toList with
      | [x], [t] => match P.underlying t with
        | some (.slice e) => (zeroOf P e).map fun z => .clr z x
        | _ => none
      | _, _ => none
    | .builtin .delete => match c.args.toList, c.argTypes.toList with
      | [m, k], t :: _ => match P.underlying t with
        | some (.map kt _) => ((P.underlying kt).bind skOf).map fun sk => .delete sk m k
        | _ => none
      | _, _ => none
    | _ => none
  | _ => none
def bytesLess := Op.bytesLess
def intV (op : BinOp) (k : IntKind) (a : Int) (k' : IntKind) (b : Int) : Option Value :=
  match op with
  | .shl => if b < 0 then none else some (.int k (k.wrap (a * 2 ^ (min b.toNat k.bits))))
  | .shr => if b < 0 then none else some (.int k (a.fdiv (2 ^ (min b.toNat k.bits))))
  | .add => if k = k' then some (.int k (k.wrap (a + b))) else none
  | .sub => if k = k' then some (.int k (k.wrap (a - b))) else none
  | .mul => if k = k' then some (.int k (k.wrap (a * b))) else none
  | .quo => if k = k' ∧ b ≠ 0 then some (.int k (k.wrap (a.tdiv b))) else none
  | .rem => if k = k' ∧ b ≠ 0 then some (.int k (a.tmod b)) else none
  | .and => if k = k' then some (.int k (k.wrap (BitVec.ofInt k.bits a &&& BitVec.ofInt k.bits b).toNat)) else none
  | .or => if k = k' then some (.int k (k.wrap (BitVec.ofInt k.bits a ||| BitVec.ofInt k.bits b).toNat)) else none
  | .xor => if k = k' then some (.int k (k.wrap (BitVec.ofInt k.bits a ^^^ BitVec.ofInt k.bits b).toNat)) else none
  | .andNot => if k = k' then some (.int k (k.wrap (BitVec.ofInt k.bits a &&& ~~~ BitVec.ofInt k.bits b).toNat)) else none
  | .eql => if k = k' then some (.bool (decide (a = b))) else none
  | .neq => if k = k' then some (.bool (!decide (a = b))) else none
  | .lss => if k = k' then some (.bool (decide (a < b))) else none
  | .leq => if k = k' then some (.bool (decide (a ≤ b))) else none
  | .gtr => if k = k' then some (.bool (decide (b < a))) else none
  | .geq => if k = k' then some (.bool (decide (b ≤ a))) else none
def strV (op : BinOp) (x y : ByteArray) : Option Value :=
  match op with
  | .add => if (x.size + y.size : Nat) ≤ 9223372036854775807 then some (.string (x ++ y)) else none
  | .eql => some (.bool (decide (x = y)))
  | .neq => some (.bool (!decide (x = y)))
  | .lss => some (.bool (Op.bytesLess x.toList y.toList))
  | .leq => some (.bool (Op.bytesLess x.toList y.toList || decide (x = y)))
  | .gtr => some (.bool !(Op.bytesLess x.toList y.toList || decide (x = y)))
  | .geq => some (.bool !(Op.bytesLess x.toList y.toList))
  | _ => none
def binV (op : BinOp) : Value → Value → Option Value
  | .int k a, .int k' b => intV op k a k' b
  | .string x, .string y => strV op x y
  | _, _ => none
def isNil : NK → Value → Option Bool
  | .ptr, .pointer a => some a.isNone
  | .map, .map a => some a.isNone
  | .slice, .slice a _ _ => some a.isNone
  | .func, .nilFunc => some true
  | .func, .func .. => some false
  | .iface, .nilIface => some true
  | .iface, .iface .. => some false
  | _, _ => none
def scalEq : SK → Value → Value → Option Bool
  | .int, .int k a, .int k' b => if k = k' then some (decide (a = b)) else none
  | .str, .string a, .string b => some (decide (a = b))
  | .bool, .bool a, .bool b => some (a == b)
  | _, _, _ => none
def aggEq : List SK → List Value → List Value → Option Bool
  | [], _, _ => some true
  | k :: ks, x :: xs, y :: ys => match scalEq k x y, aggEq ks xs ys with
    | some a, some b => some (a && b)
    | _, _ => none
  | _, _, _ => none
def putParts : List Value → List (Nat × Nat × Value) → Option (List Value)
  | cs, [] => some cs
  | cs, (off, size, v) :: r =>
    if v.cells.size = size ∧ off + size ≤ cs.length then putParts (cs.take off ++ v.cells.toList ++ cs.drop (off + size)) r else none
def evParts (ρ : Operand → Value) (l : List (Nat × Nat × Operand)) : List (Nat × Nat × Value) := l.map fun (o, s, x) => (o, s, ρ x)
def bound (x : Value) (y : Nat) : Option Nat := match x with
  | .int _ i => if 0 ≤ i ∧ i ≤ y then some i.toNat else none
  | _ => none
def boundO (y : Nat) (d : Option Nat) : Option Value → Option Nat
  | some v => bound v y
  | none => d
def bounds (len cap : Nat) (lo hi mx : Option Value) : Option (Nat × Nat × Nat) :=
  (boundO cap (some cap) mx).bind fun m => (boundO m (if mx.isSome then none else some len) hi).bind fun h => (boundO h (some 0) lo).bind fun l => some (l, h, m)
def pureV (ρ : Operand → Value) : R → Option Value
  | .mv x => some (ρ x)
  | .pick c a b => match ρ c with | .bool t => some (if t then ρ a else ρ b) | _ => none
  | .bin op x y => binV op (ρ x) (ρ y)
  | .eqb neq x y => match ρ x, ρ y with | .bool a, .bool b => some (.bool (if neq then !(a == b) else a == b)) | _, _ => none
  | .eqnil neq k x => (isNil k (ρ x)).map fun b => .bool (if neq then !b else b)
  | .eqagg neq ks x y => match ρ x, ρ y with
    | .agg a, .agg b => if a.size = ks.length ∧ b.size = ks.length then (aggEq ks a.toList b.toList).map fun r => .bool (if neq then !r else r) else none
    | _, _ => none
  | .un .not x => match ρ x with | .bool b => some (.bool !b) | _ => none
  | .un .neg x => match ρ x with | .int k n => some (.int k (k.wrap (0 - n))) | _ => none
  | .un .xor x => match ρ x with | .int k n => some (.int k (k.wrap (BitVec.ofInt k.bits (if k.signed then -1 else k.max) ^^^ BitVec.ofInt k.bits n).toNat)) | _ => none
  | .un .plus _ => none
  | .conv k x => match ρ x with | .int _ n => some (.int k (k.wrap n)) | _ => none
  | .cvs x => match ρ x with | .string s => some (.string s) | _ => none
  | .mkif t x => some (.iface t (ρ x))
  | .clos f first captured => some (.func f (first.map ρ).toArray (captured.map ρ).toArray)
  | .ext x i => match ρ x with | .tuple vs => vs[i]? | _ => none
  | .build zero parts => (putParts zero (evParts ρ parts)).map fun l => .agg l.toArray
  | .nilck x => match ρ x with
    | .pointer (some a) => some (.pointer (some a))
    | _ => none
  | .fld off x => match ρ x with | .pointer (some ⟨b, o, none⟩) => some (.pointer (some ⟨b, o + off, none⟩)) | _ => none
  | .fldV off size agg x => match ρ x with
    | .agg cs => if agg then some (.agg (cs.extract off (off + size))) else cs[off]?
    | _ => none
  | .idxA len size x i => match ρ x, ρ i with
    | .pointer (some ⟨b, o, none⟩), .int _ n => if 0 ≤ n ∧ n < len then some (.pointer (some ⟨b, o + n.toNat * size, none⟩)) else none
    | _, _ => none
  | .idxL size x i => match ρ x, ρ i with
    | .slice (some ⟨b, o, none⟩) len _, .int _ n => if 0 ≤ n ∧ n < len then some (.pointer (some ⟨b, o + n.toNat * size, none⟩)) else none
    | _, _ => none
  | .idxS x i => match ρ x, ρ i with
    | .string s, .int _ n => if 0 ≤ n then (s[n.toNat]?).map fun b => .int .u8 b.toNat else none
    | _, _ => none
  | .idxV len size agg x i => match ρ x, ρ i with
    | .agg cs, .int _ n => if 0 ≤ n ∧ n < len then (if agg then some (.agg (cs.extract (n.toNat * size) (n.toNat * size + size))) else cs[n.toNat * size]?) else none
    | _, _ => none
  | .slcS x lo hi => match ρ x with
    | .string s => (bounds s.size s.size (lo.map ρ) (hi.map ρ) none).map fun (l, h, _) => .string (s.extract l h)
    | _ => none
  | .slcL size x lo hi mx => match ρ x with
    | .slice (some ⟨b, o, none⟩) len cap => (bounds len cap (lo.map ρ) (hi.map ρ) (mx.map ρ)).map fun (l, h, m) => .slice (some ⟨b, if m = l then o else o + l * size, none⟩) (h - l) (m - l)
    | .slice none len cap => (bounds len cap (lo.map ρ) (hi.map ρ) (mx.map ρ)).map fun (l, h, m) => .slice none (h - l) (m - l)
    | _ => none
  | .slcA n size x lo hi => match ρ x with
    | .pointer (some ⟨b, o, none⟩) => (bounds n n (lo.map ρ) (hi.map ρ) none).map fun (l, h, m) => .slice (some ⟨b, if m = l then o else o + l * size, none⟩) (h - l) (m - l)
    | _ => none
  | .lenS x => match ρ x with | .string s => some (.int .i64 s.size) | _ => none
  | .lenL x => match ρ x with | .slice _ n _ => some (.int .i64 n) | _ => none
  | .cap x => match ρ x with | .slice _ _ n => some (.int .i64 n) | _ => none
  | .min2 x y => match ρ x, ρ y with | .int k a, .int _ b => some (.int k (if b < a then b else a)) | _, _ => none
  | .max2 x y => match ρ x, ρ y with | .int k a, .int _ b => some (.int k (if b > a then b else a)) | _, _ => none
  | .tassert t zero ok x => match ρ x with
    | .nilIface => if ok then some (.tuple #[zero, .bool false]) else none
    | .iface u v => if u = t then some (if ok then .tuple #[v, .bool true] else v) else if ok then some (.tuple #[zero, .bool false]) else none
    | _ => none
  | _ => none
section
variable {P : Program} {ρ : Operand → Value} {w : World} {v : Value} {xo : Operand}
theorem run_underlying_of {t : TypeId} {d : TypeDesc} (h : P.underlying t = some d) : (underlying t).run P w = .ok d w := by simp [underlying, h]
theorem run_typeInfo_of {t : TypeId} {i : TypeInfo} (h : P.info? t = some i) : (typeInfo t).run P w = .ok i w := by simp [typeInfo, h]
theorem run_sizeOf_of {t : TypeId} {i : TypeInfo} (h : P.info? t = some i) : (sizeOf t).run P w = .ok i.size w := by simp [sizeOf, run_typeInfo_of h]
theorem str_eq (a b : ByteArray) : (a.toList == b.toList) = decide (a = b) := by
  rw [ByteArray.toList_eq, ByteArray.toList_eq, Bool.eq_iff_iff]
  simp only [beq_iff_eq, decide_eq_true_eq]
  constructor
  · intro h
    cases a; cases b
    simp only [ByteArray.mk.injEq]
    exact Array.toList_inj.1 h
  · rintro rfl; rfl
theorem run_intV {op : BinOp} {t : TypeId} {k k' : IntKind} {a b : Int} (h : intV op k a k' b = some v) : (Go.binOp op t (.int k a) (.int k' b)).run P w = .ok v w := by
  cases op <;> simp only [intV] at h <;> split at h <;> first | (cases h; done) | skip
  all_goals (cases h; rename_i hc)
  case quo | rem => obtain ⟨rfl, h0⟩ := hc; simp [Go.binOp, Op.intDiv, h0]
  case shl | shr => simp [Go.binOp, Op.shift, hc]
  all_goals (subst hc; simp [Go.binOp, Op.intArith, Op.intBits, Op.intCmp])
  all_goals (rw [Bool.eq_iff_iff]; simp)
theorem run_strV {op : BinOp} {t : TypeId} {a b : ByteArray} (h : strV op a b = some v) : (Go.binOp op t (.string a) (.string b)).run P w = .ok v w := by
  cases op <;> simp only [strV] at h <;> first | (cases h; done) | skip
  case add =>
    split at h <;> cases h
    rename_i hc
    have : ¬ (((a.size + b.size : Nat) : Int) > IntKind.i64.max) := by
      have : IntKind.i64.max = 9223372036854775807 := by decide
      rw [this]; omega
    simp only [Go.binOp, Op.stringOp, this, if_false, Sem.run_pure]
  all_goals (cases h; simp [Go.binOp, Op.stringOp, str_eq])
theorem run_binV {op : BinOp} {t : TypeId} {x y : Value} (h : binV op x y = some v) : (Go.binOp op t x y).run P w = .ok v w := by
  cases x <;> cases y <;> first | (simp [binV] at h; done) | exact run_intV h | exact run_strV h
theorem run_eqGuard_of {op : BinOp} {t : TypeId} {x y : Operand} {a b : Value} (h1 : ¬ (a = .nilIface ∧ b = .nilIface)) (h2 : ∀ c d, ¬ (a = .agg c ∧ b = .agg d)) :
    (eqGuard op t x y a b).run P w = .ok () w := by
  cases op <;> simp only [eqGuard] <;> first | (simp; done) | skip
  all_goals (cases a <;> cases b <;> first | (exact absurd ⟨rfl, rfl⟩ h1) | (exact absurd ⟨rfl, rfl⟩ (h2 _ _)) | simp)
theorem run_part_scalar {t : TypeId} {cs : Array Value} {off : Nat} {d : TypeDesc} {k : SK} (h : P.underlying t = some d) (hk : skOf d = some k) (hv : cs[off]? = some v) : (part t cs off).run P w = .ok v w := by
  cases d <;> simp [skOf] at hk <;> simp [part, isAgg, run_underlying_of h, hv]
theorem run_equalIn_scal {t : TypeId} {n : Nat} {x y : Value} {r : Bool} {d : TypeDesc} {k : SK} (h : P.underlying t = some d) (hk : skOf d = some k) (hs : scalEq k x y = some r) :
    (Op.equalIn (n + 1) t x y).run P w = .ok r w := by
  cases d <;> simp [skOf] at hk <;> subst hk <;> cases x <;> simp [scalEq] at hs <;> cases y <;> simp at hs
  · subst hs; simp [Op.equalIn, run_underlying_of h]
  · obtain ⟨rfl, rfl⟩ := hs; simp [Op.equalIn, run_underlying_of h]
    rw [Bool.eq_iff_iff]; simp
  · subst hs; simp [Op.equalIn, run_underlying_of h, beq_toListBytes, str_eq]
theorem run_eqFields {n : Nat} {xs ys : Array Value} : ∀ (fs : List Field) (ks : List SK) (off : Nat) (r : Bool), scalars P fs off = some ks →
    aggEq ks (xs.toList.drop off) (ys.toList.drop off) = some r → (Op.eqFields (n + 1) xs ys fs).run P w = .ok r w := by
  intro fs
  induction fs with
  | nil => intro ks off r h1 h2; simp [scalars] at h1; subst h1; simp [aggEq] at h2; subst h2; simp [Op.eqFields]
  | cons f fs ih =>
    intro ks off r h1 h2
    simp only [scalars] at h1
    split at h1
    case isFalse => simp at h1
    rename_i hf
    obtain ⟨rfl, hne⟩ := hf
    split at h1
    case h_2 => simp at h1
    rename_i k l hk hl
    simp at h1; subst h1
    obtain ⟨d, hd, hdk⟩ := Option.bind_eq_some_iff.1 hk
    cases hx : xs.toList.drop f.offset with
    | nil => rw [hx] at h2; simp [aggEq] at h2
    | cons x xr =>
    cases hy : ys.toList.drop f.offset with
    | nil => rw [hx, hy] at h2; simp [aggEq] at h2
    | cons y yr =>
    rw [hx, hy] at h2
    simp only [aggEq] at h2
    have ex : xs[f.offset]? = some x := by have := congrArg (·[0]?) hx; simpa using this
    have ey : ys[f.offset]? = some y := by have := congrArg (·[0]?) hy; simpa using this
    have dx : xs.toList.drop (f.offset + 1) = xr := by have := congrArg (List.drop 1) hx; simpa using this
    have dy : ys.toList.drop (f.offset + 1) = yr := by have := congrArg (List.drop 1) hy; simpa using this
    split at h2
    case h_2 => simp at h2
    rename_i a b ha hb
    simp at h2; subst h2
    simp only [Op.eqFields, ne_eq, hne, not_false_eq_true, if_true, Sem.run_bind, run_part_scalar hd hdk ex, run_part_scalar hd hdk ey, run_equalIn_scal hd hdk ha, Result.andThen_ok]
    cases a
    · simp
    · have := ih l (f.offset + 1) b hl (by rw [dx, dy]; exact hb)
      simpa using this
theorem run_fill (place : Nat → Option (Nat × Nat)) : ∀ (parts : List (Nat × Operand)) (l : List (Nat × Nat × Operand)) (cs : List Value) (out : List Value), lowParts place parts = some l →
    putParts cs (evParts ρ l) = some out → Instr.fill place cs.toArray (parts.map fun (i, x) => (i, ρ x)) = some out.toArray := by
  intro parts
  induction parts with
  | nil => intro l cs out h1 h2; simp [lowParts] at h1; subst h1; simp [evParts, putParts] at h2; subst h2; simp [Instr.fill]
  | cons p parts ih =>
    obtain ⟨i, x⟩ := p
    intro l cs out h1 h2
    simp only [lowParts] at h1
    split at h1
    case h_2 => simp at h1
    rename_i off size r hp hr
    simp at h1; subst h1
    simp only [evParts, List.map_cons, putParts] at h2
    split at h2
    case isFalse => simp at h2
    rename_i hc
    obtain ⟨h3, h4⟩ := hc
    have := ih r _ out hr h2
    simp only [List.map_cons, Instr.fill, hp]
    have hcond : ¬ ((ρ x).cells.size ≠ size ∨ off + (ρ x).cells.size > cs.toArray.size) := by
      simp; omega
    have hcond' : (decide ((ρ x).cells.size ≠ size) || decide (off + (ρ x).cells.size > cs.toArray.size)) = false := by
      simp; omega
    have hfold : ∀ (vs : List Value) (k : Nat) (c : List Value), off + k + vs.length ≤ c.length →
        (vs.zipIdx k).foldl (fun (cs : Array Value) (p : Value × Nat) => cs.setIfInBounds (off + p.2) p.1) c.toArray = (c.take (off + k) ++ vs ++ c.drop (off + k + vs.length)).toArray := by
      intro vs
      induction vs with
      | nil => intro k c hk; simp
      | cons v vs ihv =>
        intro k c hk
        simp only [List.zipIdx_cons, List.foldl_cons, List.setIfInBounds_toArray]
        rw [ihv (k + 1) (c.set (off + k) v) (by simp at hk ⊢; omega)]
        congr 1
        simp at hk
        apply List.ext_getElem?
        intro j
        simp only [List.getElem?_append, List.getElem?_take, List.getElem?_drop, List.length_append, List.length_take, List.length_set, List.getElem?_set, List.length_cons, List.getElem?_cons]
        grind
    have hf2 : ((ρ x).cells.zipIdx.foldl (fun (cs : Array Value) (p : Value × Nat) => cs.setIfInBounds (off + p.2) p.1) cs.toArray) = (cs.take off ++ (ρ x).cells.toList ++ cs.drop (off + size)).toArray := by
      have := hfold (ρ x).cells.toList 0 cs (by simp; omega)
      simp only [Nat.add_zero, Array.length_toList, h3] at this
      rw [← this, ← Array.foldl_toList, Array.toList_zipIdx]
    simp only [hcond', Bool.false_eq_true, if_false]
    rw [hf2]
    exact this
theorem run_sliceBound {x : Value} {y n : Nat} {c : BoundsCode} (h : bound x y = some n) : (Instr.sliceBound x y c).run P w = .ok n w := by
  cases x <;> simp [bound] at h
  obtain ⟨⟨h1, h2⟩, rfl⟩ := h
  simp [Instr.sliceBound, asIntOf, h1, h2]
theorem run_sliceBounds {b : Bool} {len cap : Nat} {lo hi mx : Option Value} {r : Nat × Nat × Nat} (h : bounds len cap lo hi mx = some r) : (Instr.sliceBounds b len cap lo hi mx).run P w = .ok r w := by
  simp only [bounds, Option.bind_eq_some_iff] at h
  obtain ⟨m, hm, hh, hhh, l, hl, h⟩ := h
  cases h
  have hb : ∀ {y n : Nat} {d : Option Nat} {v : Value} {c : BoundsCode}, boundO y d (some v) = some n → (Instr.sliceBound v y c).run P w = .ok n w := fun h => run_sliceBound h
  simp only [Instr.sliceBounds]
  cases mx <;> cases hi <;> cases lo
  all_goals first
    | (simp [boundO] at hhh; done)
    | skip
  · simp [boundO] at hm hhh hl; subst hm hhh hl; simp
  · simp [boundO] at hm hhh; subst hm hhh; simp [hb hl]
  · simp [boundO] at hm hl; subst hm hl; simp [hb hhh]
  · simp [boundO] at hm; subst hm; simp [hb hl, hb hhh]
  · simp [boundO] at hl; subst hl; simp [hb hm, hb hhh]
  · simp [hb hl, hb hm, hb hhh]
theorem add_off (b o n : Nat) : (⟨b, o, none⟩ : Addr).add n = ⟨b, o + n, none⟩ := by
  by_cases h : n = 0 <;> simp [Addr.add, h]
theorem run_isNil {op : BinOp} {t : TypeId} {x : Value} {y : Operand} {neq b : Bool} {k : NK} {d : TypeDesc} (hd : P.underlying t = some d) (hop : op = if neq then .neq else .eql) (hx : isNil k x = some b)
    (hy : nilKind d y = some k) : ∃ u, y = .const u ∧ (eqGuard op t xo y x u).run P w = .ok () w ∧ (Go.binOp op t x u).run P w = .ok (.bool (if neq then !b else b)) w := by
  have key : ∀ u, y = .const u → (Op.equal t x u).run P w = .ok b w := by
    rintro u rfl
    show (Op.equalIn (9999 + 1) t x u).run P w = _
    generalize 9999 = n
    cases d <;> try (simp [nilKind] at hy; done)
    all_goals (simp only [nilKind] at hy; split at hy <;> try (cases hy; done))
    all_goals simp_all only [TypeDesc.pointer.injEq, TypeDesc.slice.injEq, TypeDesc.map.injEq, TypeDesc.func.injEq, TypeDesc.interface.injEq, reduceCtorEq, Option.some.injEq, Operand.const.injEq]
    all_goals subst_vars
    all_goals (cases x <;> simp [isNil] at hx)
    all_goals first
      | (subst hx; simp [Op.equalIn, run_underlying_of hd]; done)
      | (rename_i a; cases a <;> simp at hx <;> subst hx <;> simp [Op.equalIn, run_underlying_of hd]; done)
      | (rename_i a _ _; cases a <;> simp at hx <;> subst hx <;> simp [Op.equalIn, run_underlying_of hd]; done)
  subst hop
  cases d <;> try (simp [nilKind] at hy; done)
  all_goals (simp only [nilKind] at hy; split at hy <;> try (cases hy; done))
  all_goals simp_all only [TypeDesc.pointer.injEq, TypeDesc.slice.injEq, TypeDesc.map.injEq, TypeDesc.func.injEq, TypeDesc.interface.injEq, reduceCtorEq, Option.some.injEq, Operand.const.injEq]
  all_goals subst_vars
  all_goals (refine ⟨_, rfl, ?_, ?_⟩)
  all_goals (have key' := key _ rfl; cases x <;> simp [isNil] at hx)
  all_goals first
    | (cases neq <;> simp [eqGuard]; done)
    | (cases neq <;> simp [Go.binOp, key']; done)
end
end Go.V

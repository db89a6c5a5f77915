/-
  Cells and objects of memory as a list of atoms that a world satisfies, and triples over the model's own Sem programs.
-/
import Derived.Orders
import Derived.Laws.Sem
import Derived.Laws.World
set_option linter.unusedSimpArgs false
set_option linter.unusedVariables false
namespace Go.V
open Go

inductive Atom where
  | cell (b off : Nat) (v : Value)
  | obj (b : Nat) (o : Obj)

def Atom.loc : Atom → Nat × Option Nat
  | .cell b off _ => (b, some off)
  | .obj b _ => (b, none)

def isCells : Obj → Bool
  | .cells .. => true
  | _ => false

def Atom.holds (w : World) : Atom → Prop
  | .cell b off v => ∃ c t lo hi, w.heap[b]? = some (Obj.cells c t (lo, hi)) ∧ c[off]? = some v ∧ ¬(lo ≤ off ∧ off < hi)
  | .obj b o => w.heap[b]? = some o ∧ isCells o = false

structure Sat (w : World) (L : List Atom) : Prop where
  holds : ∀ x ∈ L, x.holds w
  nodup : (L.map Atom.loc).Nodup

/-- What no step changes: output and system, the row of each block of cells, its frozen part. -/
structure Keeps (w w' : World) : Prop where
  os : w'.os = w.os
  output : w'.output = w.output
  size : w.heap.size ≤ w'.heap.size
  cells : ∀ (i : Nat) c t lo hi, w.heap[i]? = some (Obj.cells c t (lo, hi)) → ∃ c', w'.heap[i]? = some (Obj.cells c' t (lo, hi)) ∧ c'.size = c.size ∧ ∀ j, lo ≤ j ∧ j < hi → c'[j]? = c[j]?

theorem Keeps.refl (w : World) : Keeps w w := ⟨rfl, rfl, Nat.le_refl _, fun _ c _ _ _ h => ⟨c, h, rfl, fun _ _ => rfl⟩⟩

theorem Keeps.trans {a b c : World} (h : Keeps a b) (k : Keeps b c) : Keeps a c := by
  refine ⟨k.os.trans h.os, k.output.trans h.output, Nat.le_trans h.size k.size, fun i x t lo hi hx => ?_⟩
  obtain ⟨y, hy, sy, fy⟩ := h.cells i x t lo hi hx
  obtain ⟨z, hz, sz, fz⟩ := k.cells i y t lo hi hy
  exact ⟨z, hz, sz.trans sy, fun j hj => (fz j hj).trans (fy j hj)⟩

theorem Keeps.drawn {a b : World} (h : Keeps a b) (n : Nat) : Keeps a { b with drawn := n } := ⟨h.os, h.output, h.size, h.cells⟩

theorem Sat.drawn {w : World} {L : List Atom} (h : Sat w L) (n : Nat) : Sat { w with drawn := n } L := ⟨fun x hx => by
  have := h.holds x hx; cases x <;> exact this, h.nodup⟩

theorem Sat.perm {w : World} {L M : List Atom} (h : Sat w L) (p : L.Perm M) : Sat w M :=
  ⟨fun x hx => h.holds x (p.mem_iff.2 hx), (p.map Atom.loc).nodup_iff.1 h.nodup⟩

theorem Sat.sub {w : World} {L M : List Atom} (h : Sat w L) (p : M.Sublist L) : Sat w M :=
  ⟨fun x hx => h.holds x (p.subset hx), (p.map Atom.loc).nodup h.nodup⟩

theorem Sat.right {w : World} {L M : List Atom} (h : Sat w (L ++ M)) : Sat w M := h.sub (List.sublist_append_right L M)
theorem Sat.left {w : World} {L M : List Atom} (h : Sat w (L ++ M)) : Sat w L := h.sub (List.sublist_append_left L M)

theorem Sat.lt {w : World} {L : List Atom} (h : Sat w L) {x : Atom} (hx : x ∈ L) : x.loc.1 < w.heap.size := by
  have := h.holds x hx
  cases x with
  | cell b off v => obtain ⟨c, t, lo, hi, hb, _⟩ := this; exact (Array.getElem?_eq_some_iff.1 hb).1
  | obj b o => exact (Array.getElem?_eq_some_iff.1 this.1).1

theorem Sat.cell {w : World} {L : List Atom} (h : Sat w L) {b off : Nat} {v : Value} (hx : Atom.cell b off v ∈ L) :
    w.cell? ⟨b, off, none⟩ = some v ∧ w.frozen? ⟨b, off, none⟩ = false := by
  obtain ⟨c, t, lo, hi, hb, hc, hf⟩ := h.holds _ hx
  refine ⟨by simp [World.cell?, hb, hc], ?_⟩
  simp only [World.frozen?, hb]
  simp only [Bool.and_eq_false_iff, decide_eq_false_iff_not]
  by_cases h1 : lo ≤ off
  · right; intro h2; exact hf ⟨h1, h2⟩
  · left; exact h1

theorem Sat.obj {w : World} {L : List Atom} (h : Sat w L) {b : Nat} {o : Obj} (hx : Atom.obj b o ∈ L) : w.heap[b]? = some o ∧ isCells o = false := h.holds _ hx

/-- A cell is written. -/
theorem Sat.store {w : World} {L : List Atom} {b off : Nat} {v u : Value} (h : Sat w (.cell b off v :: L)) :
    Sat (w.setCell ⟨b, off, none⟩ u) (.cell b off u :: L) ∧ Keeps w (w.setCell ⟨b, off, none⟩ u) := by
  obtain ⟨c, t, lo, hi, hb, hc, hf⟩ := h.holds _ (List.mem_cons_self ..)
  have hlt : off < c.size := (Array.getElem?_eq_some_iff.1 hc).1
  have hheap : ∀ i, (w.setCell ⟨b, off, none⟩ u).heap[i]? = if b = i then some (Obj.cells (c.setIfInBounds off u) t (lo, hi)) else w.heap[i]? := by
    intro i
    simp only [World.setCell, Array.getElem?_modify]
    by_cases e : b = i
    · subst e; simp [hb]
    · simp [e]
  refine ⟨⟨fun x hx => ?_, ?_⟩, ⟨rfl, rfl, by simp [World.setCell], fun i c' t' lo' hi' hi'' => ?_⟩⟩
  · rcases List.mem_cons.1 hx with rfl | hx
    · exact ⟨c.setIfInBounds off u, t, lo, hi, by rw [hheap]; simp, by simp [hlt], hf⟩
    · have hne : (b, some off) ≠ x.loc := by
        have := h.nodup
        simp only [List.map_cons, List.nodup_cons, List.mem_map, not_exists, not_and] at this
        intro e; exact this.1 x hx e.symm
      have hh := h.holds x (List.mem_cons_of_mem _ hx)
      cases x with
      | cell b' off' v' =>
        obtain ⟨c', t', lo', hi', hb', hc', hf'⟩ := hh
        by_cases e : b = b'
        · subst e
          rw [hb] at hb'
          obtain ⟨rfl, rfl, rfl, rfl⟩ : c = c' ∧ t = t' ∧ lo = lo' ∧ hi = hi' := by simpa using hb'
          have hoff : off ≠ off' := fun e => hne (by simp [Atom.loc, e])
          exact ⟨c.setIfInBounds off u, t, lo, hi, by rw [hheap]; simp, by simp [Array.getElem?_setIfInBounds_ne hoff, hc'], hf'⟩
        · exact ⟨c', t', lo', hi', by rw [hheap]; simp [e, hb'], hc', hf'⟩
      | obj b' o =>
        obtain ⟨hb', ho⟩ := hh
        have e : b ≠ b' := fun e => by
          subst e; rw [hb] at hb'; cases hb'; simp [isCells] at ho
        exact ⟨by rw [hheap]; simp [e, hb'], ho⟩
  · have := h.nodup; simpa [Atom.loc] using this
  · rw [hheap]
    by_cases e : b = i
    · subst e; rw [hb] at hi''
      obtain ⟨rfl, rfl, rfl, rfl⟩ : c = c' ∧ t = t' ∧ lo = lo' ∧ hi = hi' := by simpa using hi''
      refine ⟨c.setIfInBounds off u, by simp, by simp, fun j hj => ?_⟩
      have hne : off ≠ j := fun e => hf (e ▸ hj)
      simp [Array.getElem?_setIfInBounds_ne hne]
    · simp [e, hi'']

def cellsAt (b : Nat) : Nat → List Value → List Atom
  | _, [] => []
  | off, v :: r => .cell b off v :: cellsAt b (off + 1) r

theorem mem_cellsAt {b : Nat} {x : Atom} : ∀ {off : Nat} {vs : List Value}, x ∈ cellsAt b off vs ↔ ∃ i v, vs[i]? = some v ∧ x = .cell b (off + i) v := by
  intro off vs
  induction vs generalizing off with
  | nil => simp [cellsAt]
  | cons u r ih =>
    simp only [cellsAt, List.mem_cons, ih]
    constructor
    · rintro (rfl | ⟨i, v, h, rfl⟩)
      · exact ⟨0, u, rfl, rfl⟩
      · exact ⟨i + 1, v, by simpa using h, by simp; omega⟩
    · rintro ⟨i, v, h, rfl⟩
      cases i with
      | zero => left; simp at h; simp [h]
      | succ i => right; exact ⟨i, v, by simpa using h, by simp; omega⟩

theorem nodup_cellsAt (b : Nat) (vs : List Value) : ∀ off, ((cellsAt b off vs).map Atom.loc).Nodup := by
  induction vs with
  | nil => intro off; simp [cellsAt]
  | cons u r ih =>
    intro off
    simp only [cellsAt, List.map_cons, List.nodup_cons, ih, and_true]
    simp only [List.mem_map, not_exists, not_and]
    intro x hx e
    obtain ⟨i, v, _, rfl⟩ := mem_cellsAt.1 hx
    simp [Atom.loc] at e
    omega

/-- A block is laid. -/
theorem Sat.push {w : World} {L : List Atom} (h : Sat w L) (o : Obj) (M : List Atom) (hM : ∀ x ∈ M, x.loc.1 = w.heap.size ∧ x.holds { w with heap := w.heap.push o })
    (hn : (M.map Atom.loc).Nodup) : Sat { w with heap := w.heap.push o } (M ++ L) ∧ Keeps w { w with heap := w.heap.push o } := by
  have hold : ∀ i, i < w.heap.size → (w.heap.push o)[i]? = w.heap[i]? := fun i hi => by
    rw [Array.getElem?_push]; simp [Nat.ne_of_lt hi]
  refine ⟨⟨fun x hx => ?_, ?_⟩, ⟨rfl, rfl, by simp, fun i c t lo hi hi' => ?_⟩⟩
  · rcases List.mem_append.1 hx with hx | hx
    · exact (hM x hx).2
    · have hl := h.lt hx
      have := h.holds x hx
      cases x with
      | cell b off v => obtain ⟨c, t, lo, hi, hb, r⟩ := this; exact ⟨c, t, lo, hi, by simpa [hold b hl] using hb, r⟩
      | obj b o' => exact ⟨by simpa [hold b hl] using this.1, this.2⟩
  · rw [List.map_append, List.nodup_append]
    refine ⟨hn, h.nodup, fun x hx y hy e => ?_⟩
    obtain ⟨m, hm, rfl⟩ := List.mem_map.1 hx
    obtain ⟨l, hl, rfl⟩ := List.mem_map.1 hy
    have h1 := (hM m hm).1
    have h2 := h.lt hl
    rw [e] at h1
    omega
  · have hl : i < w.heap.size := (Array.getElem?_eq_some_iff.1 hi').1
    exact ⟨c, by simpa [hold i hl] using hi', rfl, fun _ _ => rfl⟩

theorem Sat.newCells {w : World} {L : List Atom} (h : Sat w L) (c : Array Value) (t : TypeId) :
    Sat { w with heap := w.heap.push (.cells c t) } (cellsAt w.heap.size 0 c.toList ++ L) ∧ Keeps w { w with heap := w.heap.push (.cells c t) } := by
  refine h.push _ _ (fun x hx => ?_) (nodup_cellsAt _ _ _)
  obtain ⟨i, v, hi, rfl⟩ := mem_cellsAt.1 hx
  exact ⟨rfl, c, t, 0, 0, by simp, by simpa using hi, by simp⟩

theorem Sat.newObj {w : World} {L : List Atom} (h : Sat w L) (o : Obj) (ho : isCells o = false) :
    Sat { w with heap := w.heap.push o } (.obj w.heap.size o :: L) ∧ Keeps w { w with heap := w.heap.push o } := by
  refine h.push o [.obj w.heap.size o] (fun x hx => ?_) (by simp)
  rw [List.mem_singleton.1 hx]
  exact ⟨rfl, by simp, ho⟩

theorem Sat.setObj {w : World} {L : List Atom} {b : Nat} {o u : Obj} (h : Sat w (.obj b o :: L)) (hu : isCells u = false) :
    Sat { w with heap := w.heap.setIfInBounds b u } (.obj b u :: L) ∧ Keeps w { w with heap := w.heap.setIfInBounds b u } := by
  obtain ⟨hb, ho⟩ := h.holds _ (List.mem_cons_self ..)
  have hlt : b < w.heap.size := (Array.getElem?_eq_some_iff.1 hb).1
  have hheap : ∀ i, (w.heap.setIfInBounds b u)[i]? = if b = i then some u else w.heap[i]? := by
    intro i
    by_cases e : b = i
    · subst e; simp [hlt]
    · simp [Array.getElem?_setIfInBounds_ne e, e]
  refine ⟨⟨fun x hx => ?_, ?_⟩, ⟨rfl, rfl, by simp, fun i c t lo hi hi' => ?_⟩⟩
  · rcases List.mem_cons.1 hx with rfl | hx
    · exact ⟨by simp [hlt], hu⟩
    · have hne : (b, none) ≠ x.loc := by
        have := h.nodup
        simp only [List.map_cons, List.nodup_cons, List.mem_map, not_exists, not_and] at this
        intro e; exact this.1 x hx e.symm
      have hh := h.holds x (List.mem_cons_of_mem _ hx)
      cases x with
      | cell b' off' v' =>
        obtain ⟨c', t', lo', hi', hb', r⟩ := hh
        have e : b ≠ b' := fun e => by subst e; rw [hb] at hb'; cases hb'; cases ho
        exact ⟨c', t', lo', hi', by simpa [hheap, e] using hb', r⟩
      | obj b' o' =>
        have e : b ≠ b' := fun e => hne (by simp [Atom.loc, e])
        exact ⟨by simpa [hheap, e] using hh.1, hh.2⟩
  · have := h.nodup; simpa [Atom.loc] using this
  · have e : b ≠ i := fun e => by subst e; rw [hb] at hi'; cases hi'; cases ho
    exact ⟨c, by simpa [hheap, e] using hi', rfl, fun _ _ => rfl⟩

/-! Triples over Sem -/

def SWP (P : Program) {α : Type} (s : Sem α) (H : List Atom) (K : α → List Atom → Prop) : Prop :=
  ∀ F w, Sat w (H ++ F) → ∃ v w' H', s.run P w = .ok v w' ∧ K v H' ∧ Sat w' (H' ++ F) ∧ Keeps w w'

section
variable {P : Program} {α β : Type} {H : List Atom} {K : α → List Atom → Prop}

theorem SWP.pure {v : α} (h : K v H) : SWP P (Pure.pure v) H K := fun _ w hs => ⟨v, w, H, rfl, h, hs, .refl w⟩

theorem SWP.bind {s : Sem α} {f : α → Sem β} {K : β → List Atom → Prop} (h : SWP P s H fun v H' => SWP P (f v) H' K) : SWP P (s >>= f) H K := by
  intro F w hs
  obtain ⟨v, w1, H1, h1, h2, h3, h4⟩ := h F w hs
  obtain ⟨u, w2, H2, k1, k2, k3, k4⟩ := h2 F w1 h3
  exact ⟨u, w2, H2, by simp [h1, k1], k2, k3, h4.trans k4⟩

theorem SWP.mono {s : Sem α} {K' : α → List Atom → Prop} (h : SWP P s H K) (hk : ∀ v H', K v H' → K' v H') : SWP P s H K' := fun F w hs =>
  let ⟨v, w', H', a, b, c⟩ := h F w hs; ⟨v, w', H', a, hk _ _ b, c⟩

theorem SWP.perm {s : Sem α} {H' : List Atom} (p : H.Perm H') (h : SWP P s H' K) : SWP P s H K := fun F w hs =>
  h F w (hs.perm (p.append_right F))

theorem SWP.weaken {s : Sem α} {H' R : List Atom} (p : H.Perm (H' ++ R)) (h : SWP P s H' fun v X => K v (X ++ R)) : SWP P s H K := fun F w hs => by
  obtain ⟨v, w', X, a, b, c, d⟩ := h (R ++ F) w (by rw [← List.append_assoc]; exact hs.perm (p.append_right F))
  exact ⟨v, w', X ++ R, a, b, by rw [List.append_assoc]; exact c, d⟩

/-- What leaves the world as it is: a run that is known. -/
theorem SWP.of_run {s : Sem α} {v : α} (h : ∀ w, s.run P w = .ok v w) (hk : K v H) : SWP P s H K := fun _ w hs => ⟨v, w, H, h w, hk, hs, .refl w⟩

theorem SWP.program {f : Program → Sem α} (h : SWP P (f P) H K) : SWP P (Go.program >>= f) H K := fun F w hs => by
  obtain ⟨v, w', H', a, b⟩ := h F w hs
  exact ⟨v, w', H', by rw [← a]; simp [Go.program, Sem.run], b⟩

theorem SWP.load {b off : Nat} {v : Value} {K : Value → List Atom → Prop} (hx : Atom.cell b off v ∈ H) (h : K v H) : SWP P (Go.load ⟨b, off, none⟩) H K := fun F w hs => by
  have := (hs.cell (List.mem_append_left F hx)).1
  exact ⟨v, w, H, by simp [Go.load, Sem.run, this], h, hs, .refl w⟩

def oneCell : Value → Bool
  | .agg _ | .tuple _ => false
  | _ => true

theorem SWP.store {b off : Nat} {v u : Value} {K : Unit → List Atom → Prop} (hu : oneCell u = true) (h : K () (.cell b off u :: H)) :
    SWP P (Go.store ⟨b, off, none⟩ u) (.cell b off v :: H) K := fun F w hs => by
  have hc := hs.cell (List.mem_append_left F (List.mem_cons_self (a := Atom.cell b off v) (l := H)))
  obtain ⟨s1, s2⟩ := Sat.store (u := u) (L := H ++ F) (by simpa using hs)
  refine ⟨(), _, _, ?_, h, s1, s2⟩
  cases u <;> simp_all [Go.store, Sem.run, oneCell]

theorem SWP.new_cells {c : Array Value} {t : TypeId} {K : Nat → List Atom → Prop} (h : ∀ b, K b (cellsAt b 0 c.toList ++ H)) : SWP P (Go.newObj (.cells c t)) H K := fun F w hs => by
  obtain ⟨s1, s2⟩ := hs.newCells c t
  exact ⟨w.heap.size, _, _, by simp [Go.newObj, Sem.run], h _, by rw [List.append_assoc]; exact s1, s2⟩

theorem SWP.new_obj {o : Obj} {K : Nat → List Atom → Prop} (ho : isCells o = false) (h : ∀ b, K b (.obj b o :: H)) : SWP P (Go.newObj o) H K := fun F w hs => by
  obtain ⟨s1, s2⟩ := hs.newObj o ho
  exact ⟨w.heap.size, _, _, by simp [Go.newObj, Sem.run], h _, s1, s2⟩

theorem SWP.getObj {b : Nat} {o : Obj} {K : Obj → List Atom → Prop} (hx : Atom.obj b o ∈ H) (h : K o H) : SWP P (Go.getObj b) H K := fun F w hs => by
  obtain ⟨h1, h2⟩ := hs.obj (List.mem_append_left F hx)
  refine ⟨o, w, H, ?_, h, hs, .refl w⟩
  cases o <;> simp_all [Go.getObj, Sem.run, isCells]

theorem SWP.setObj {b : Nat} {o u : Obj} {K : Unit → List Atom → Prop} (hu : isCells u = false) (h : K () (.obj b u :: H)) : SWP P (Go.setObj b u) (.obj b o :: H) K := fun F w hs => by
  obtain ⟨h1, h2⟩ := hs.obj (List.mem_append_left F (List.mem_cons_self (a := Atom.obj b o) (l := H)))
  obtain ⟨s1, s2⟩ := Sat.setObj (u := u) (L := H ++ F) (by simpa using hs) hu
  refine ⟨(), _, _, ?_, h, s1, s2⟩
  cases o <;> simp_all [Go.setObj, Sem.run, isCells]

theorem SWP.choose {q : Question} {K : Nat → List Atom → Prop} (h0 : q.forced = true → K 0 H) (h : ∀ n, K (q.cut n) H) : SWP P (Go.choose q) H K := fun F w hs => by
  by_cases e : q.forced = true
  · exact ⟨0, w, H, by simp [Go.choose, Sem.run, e], h0 e, hs, .refl w⟩
  · exact ⟨_, _, H, by simp [Go.choose, Sem.run, e]; exact ⟨rfl, rfl⟩, h _, hs.drawn _, (Keeps.refl w).drawn _⟩

theorem SWP.mark {m : Mark} {K : Unit → List Atom → Prop} (h : K () H) : SWP P (Go.mark m) H K := fun _ w hs => ⟨(), w, H, by simp [Go.mark, Sem.run], h, hs, .refl w⟩

theorem SWP.askRoom {n : Nat} {K : Unit → List Atom → Prop} (h : K () H) : SWP P (Go.askRoom n) H K := by
  unfold Go.askRoom
  split
  · exact SWP.mark h
  · exact SWP.pure h

theorem SWP.ite {c : Prop} [Decidable c] {s t : Sem α} (h1 : c → SWP P s H K) (h2 : ¬ c → SWP P t H K) : SWP P (if c then s else t) H K := by
  split
  · exact h1 ‹_›
  · exact h2 ‹_›
end
end Go.V

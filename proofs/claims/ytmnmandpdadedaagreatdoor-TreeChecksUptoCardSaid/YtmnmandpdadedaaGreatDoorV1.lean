/-
  Cells and objects of memory as a list of atoms that a world satisfies, and triples over the model's own Sem programs.
-/
import Derived.Orders
import Derived.Laws.Sem
import Derived.Laws.World
import GoSem.Dispatch
import Derived.Laws.Strings
import Derived.Laws.StructEq
set_option linter.unusedSimpArgs false
set_option linter.unusedVariables false
namespace Go
theorem Zo {P : Prop} (h : P := by omega) : P := h
theorem Zr {P : Prop} (h : P := by rfl) : P := h
theorem Zd {P : Prop} (h : P := by decide) : P := h
theorem Zs {P : Prop} (h : P := by simp) : P := h
theorem ZI {P : Prop} (h : P := by exact IMx) : P := h
theorem ZP {P : Prop} (h : P := by exact SPx) : P := h
theorem ZU {P : Prop} (h : P := by exact SUx) : P := h
theorem ZK {P : Prop} (h : P := by exact TKx) : P := h
theorem Zab {P : Prop} (h : P := by (focus ((repeat (first | (apply HasM.cells;omega;(focus (simp only [List.length_cons, List.length_nil, Nat.reduceAdd, Nat.zero_add, Nat.reduceSub, Nat.sub_self, Nat.reduceLeDiff, Nat.le_refl];done));(focus (simp only [lnb, Value.cells, Nat.zero_add, Nat.reduceEqDiff, ↓reduceIte, eq_self, Nat.reduceAdd, Nat.reduceSub, Nat.sub_self, Nat.reduceLeDiff, Nat.le_refl, and_self, rep, kd] <;> rfl));rfl) | apply HasM.there));first | done | fail))) : P := h
theorem Zac {P : Prop} (h : P := by (focus ((repeat (first | (apply Upd.cells;omega;(focus (simp only [List.length_cons, List.length_nil, Nat.reduceAdd, Nat.zero_add, Nat.reduceSub, Nat.sub_self, Nat.reduceLeDiff, Nat.le_refl];done));(focus (simp only [lnb, Value.cells, Nat.zero_add, Nat.reduceEqDiff, ↓reduceIte, eq_self, Nat.reduceAdd, Nat.reduceSub, Nat.sub_self, Nat.reduceLeDiff, Nat.le_refl, and_self, rep, kd] <;> rfl))) | apply Upd.there));first | done | fail))) : P := h
theorem Zl {P : Prop} (h : P := by (first | exact ltM | (focus (apply ltB;(repeat' (first | exact modM | apply orC | apply andN_lt | apply divC | omega));done)) | omega)) : P := h
theorem Zz {P : Prop} (h : P := by ((try simp only [Nat.zero_add, Nat.add_zero, Nat.reduceAdd, Nat.reduceMul, Nat.add_assoc, Int.toNat_natCast, Nat.mul_one]);rfl)) : P := h
theorem Zi {P : Prop} (h : P := by (first | with_reducible exact Int.toNat_natCast _ | ((try simp only [Int.reduceToNat]);rfl))) : P := h
theorem Zh {P : Prop} (h : P := by (focus ((repeat (first | (apply Has.cells;omega;rfl) | apply Has.there));first | done | fail))) : P := h
theorem Zm {P : Prop} (h : P := by (focus ((repeat (first | (apply Has.among;assumption) | apply Has.there));first | done | fail))) : P := h
theorem Zaq {P : Prop} (h : P := by first | ((focus ((repeat (first | (apply Has.cells;omega;rfl) | apply Has.there));done))) | ((focus ((repeat (first | (apply Has.among;assumption) | apply Has.there));done)))) : P := h
theorem Zap {P : Prop} (h : P := by simp only [V.evs, V.ev, hΓ 36 (by decide) _ rfl, hΓ 37 (by decide) _ rfl, hΓ 39 (by decide) _ rfl]) : P := h
theorem Zar {P : Prop} (h : P := by simp only [V.evs, V.ev, hΓ 76 (by decide) _ rfl, hΓ 80 (by decide) _ rfl, hΓ 82 (by decide) _ rfl]) : P := h
theorem Zas {P : Prop} (h : P := by simp only [V.evs, V.ev, hΓ 84 (by decide) _ rfl, hΓ 86 (by decide) _ rfl, hΓ 89 (by decide) _ rfl]) : P := h
theorem Zay {P : Prop} (h : P := by (focus ((repeat (first | with_reducible exact HasO.here | apply HasO.there));done))) : P := h
theorem Zax {P : Prop} (h : P := by have := (List.getElem?_eq_some_iff.1 e1).1;omega) : P := h
theorem Zaw {P : Prop} (h : P := by simp only [V.evs, V.ev, hΓ 19 (by decide) _ rfl]) : P := h
theorem Zav {P : Prop} (h : P := by simp only [V.evs, V.ev, hΓ 4 (by decide) _ rfl]) : P := h
theorem Zat {P : Prop} (h : P := by simp only [V.ev, hΓ 83 (by decide) _ rfl]) : P := h
theorem Zau {P : Prop} (h : P := by simp only [V.ev, hΓ 90 (by decide) _ rfl]) : P := h
theorem Zao {P : Prop} (h : P := by simp only [V.evs, V.ev, e]) : P := h
theorem Zan {P : Prop} (h : P := by simp [kA]) : P := h
theorem Zam {P : Prop} (h : P := by simp;omega) : P := h
theorem Zaz {P : Prop} (h : P := by simp [zJ]) : P := h
theorem Zad {P : Prop} (h : P := by exact (VO.nil ⟨_, [], rfl, ⟨rfl, rfl⟩, Imp.perm (by simp)⟩)) : P := h
theorem Zae {P : Prop} (h : P := by exact (VO.nil ⟨rfl, ⟨mz, Imp.refl _⟩, trivial⟩)) : P := h
theorem Zaf {P : Prop} (h : P := by exact (VO.nil ⟨rfl, rfl, trivial⟩)) : P := h
theorem Zag {P : Prop} (h : P := by exact (fun x hx => by simp only [List.flatten_cons, List.mem_append];first | exact .inl hx | exact .inr (.inl hx))) : P := h
theorem Zah {P : Prop} (h : P := by exact (fun z hz => List.mem_append_left _ (hym z hz))) : P := h
theorem Zai {P : Prop} (h : P := by exact (fun v Post hv => absurd hv.1 (by decide))) : P := h
theorem Zaj {P : Prop} (h : P := by exact (fun ch Post hz => absurd hz.1 (by decide))) : P := h
theorem Zak {P : Prop} (h : P := by exact (fun y hy => by simp only [List.flatten_cons, List.mem_append];first | exact .inl hy | exact .inr (.inl hy) | exact .inr (.inr (.inl hy)))) : P := h
theorem Zal {P : Prop} (h : P := by exact ⟨rfl, fun a ha => by simp only [List.flatten_cons, List.mem_append];exact .inl ha⟩) : P := h
theorem Zf {p : Prop} [Decidable p] (h : ¬p) : decide p = false := decide_eq_false h
theorem Zt {p : Prop} [Decidable p] (h : p) : decide p = true := decide_eq_true h
theorem Zg {α : Type _} {l : List α} {i : Nat} (h : i < l.length) : l[i]? = some l[i] := List.getElem?_eq_getElem h
theorem Zv {α : Type _} {l : List α} {i : Nat} {a : α} (h : l[i]? = some a) : a ∈ l := List.mem_of_getElem? h
theorem Zw {α : Type _} {a : α} {s : List α} (t : List α) (h : a ∈ s) : a ∈ s ++ t := List.mem_append_left t h
end Go
namespace Go.V
open Go
inductive kE where
  | cell (b off : Nat) (v : Value)
  | obj (b : Nat) (o : Obj)
def kE.loc : kE -> Nat × Option Nat
  | .cell b off _ => (b, some off)
  | .obj b _ => (b, none)
def z9 : Obj -> Bool
  | .cells .. => true
  | _ => false
def kE.holds (w : World) : kE -> Prop
  | .cell b off v => ∃ c t lo hi, w.heap[b]? = some (Obj.cells c t (lo, hi)) /\ c[off]? = some v /\ ¬(lo <= off /\ off < hi)
  | .obj b o => w.heap[b]? = some o /\ z9 o = false
structure Sat (w : World) (L : List kE) : Prop where
  holds : ∀ x ∈ L, x.holds w
  nodup : (L.map kE.loc).Nodup
structure ko (w w' : World) : Prop where
  os : w'.os = w.os
  output : w'.output = w.output
  size : w.heap.size <= w'.heap.size
  cells : ∀ (i : Nat) c t lo hi, w.heap[i]? = some (Obj.cells c t (lo, hi)) -> ∃ c', w'.heap[i]? = some (Obj.cells c' t (lo, hi)) /\ c'.size = c.size /\ ∀ j, lo <= j /\ j < hi -> c'[j]? = c[j]?
theorem ko.refl (w : World) : ko w w := ⟨rfl, rfl, Nat.le_refl _, fun _ c _ _ _ h => ⟨c, h, rfl, fun _ _ => rfl⟩⟩
theorem ko.trans {a b c : World} (h : ko a b) (k : ko b c) : ko a c := by
  refine ⟨k.os.trans h.os, k.output.trans h.output, Nat.le_trans h.size k.size, fun i x t lo hi hx => ?_⟩;obtain ⟨y, hy, sy, fy⟩ := h.cells i x t lo hi hx;obtain ⟨z, hz, sz, fz⟩ := k.cells i y t lo hi hy;exact ⟨z, hz, sz.trans sy, fun j hj => (fz j hj).trans (fy j hj)⟩
theorem ko.drawn {a b : World} (h : ko a b) (n : Nat) : ko a { b with drawn := n } := ⟨h.os, h.output, h.size, h.cells⟩
theorem Sat.drawn {w : World} {L : List kE} (h : Sat w L) (n : Nat) : Sat { w with drawn := n } L := ⟨fun x hx => by
  have := h.holds x hx;cases x <;> exact this, h.nodup⟩
theorem Sat.perm {w : World} {L M : List kE} (h : Sat w L) (p : L.Perm M) : Sat w M :=
  ⟨fun x hx => h.holds x (p.mem_iff.2 hx), (p.map kE.loc).nodup_iff.1 h.nodup⟩
theorem Sat.sub {w : World} {L M : List kE} (h : Sat w L) (p : M.Sublist L) : Sat w M :=
  ⟨fun x hx => h.holds x (p.subset hx), (p.map kE.loc).nodup h.nodup⟩
theorem Sat.left {w : World} {L M : List kE} (h : Sat w (L ++ M)) : Sat w L := h.sub (List.sublist_append_left L M)
theorem Sat.lt {w : World} {L : List kE} (h : Sat w L) {x : kE} (hx : x ∈ L) : x.loc.1 < w.heap.size := by
  have := h.holds x hx;cases x with
  | cell b off v => obtain ⟨c, t, lo, hi, hb, _⟩ := this;exact (Array.getElem?_eq_some_iff.1 hb).1
  | obj b o => exact (Array.getElem?_eq_some_iff.1 this.1).1
theorem Sat.cell {w : World} {L : List kE} (h : Sat w L) {b off : Nat} {v : Value} (hx : kE.cell b off v ∈ L) :
    w.cell? ⟨b, off, none⟩ = some v /\ w.frozen? ⟨b, off, none⟩ = false := by
  obtain ⟨c, t, lo, hi, hb, hc, hf⟩ := h.holds _ hx;refine ⟨by simp [World.cell?, hb, hc], ?_⟩;simp only [World.frozen?, hb];simp only [Bool.and_eq_false_iff, decide_eq_false_iff_not];by_cases h1 : lo <= off
  · right;intro h2;exact hf ⟨h1, h2⟩
  · left;exact h1
theorem Sat.obj {w : World} {L : List kE} (h : Sat w L) {b : Nat} {o : Obj} (hx : kE.obj b o ∈ L) : w.heap[b]? = some o /\ z9 o = false := h.holds _ hx
theorem Sat.store {w : World} {L : List kE} {b off : Nat} {v u : Value} (h : Sat w (.cell b off v :: L)) :
    Sat (w.setCell ⟨b, off, none⟩ u) (.cell b off u :: L) /\ ko w (w.setCell ⟨b, off, none⟩ u) := by
  obtain ⟨c, t, lo, hi, hb, hc, hf⟩ := h.holds _ (List.mem_cons_self ..);have hlt : off < c.size := (Array.getElem?_eq_some_iff.1 hc).1;have hheap : ∀ i, (w.setCell ⟨b, off, none⟩ u).heap[i]? = if b = i then some (Obj.cells (c.setIfInBounds off u) t (lo, hi)) else w.heap[i]? := by
    intro i;simp only [World.setCell, Array.getElem?_modify];by_cases e : b = i
    · subst e;simp [hb]
    · simp [e]
  refine ⟨⟨fun x hx => ?_, ?_⟩, ⟨rfl, rfl, by simp [World.setCell], fun i c' t' lo' hi' hi'' => ?_⟩⟩
  · rcases List.mem_cons.1 hx with rfl | hx
    · exact ⟨c.setIfInBounds off u, t, lo, hi, by rw [hheap];simp, by simp [hlt], hf⟩
    · have hne : (b, some off) ≠ x.loc := by
        have := h.nodup;simp only [List.map_cons, List.nodup_cons, List.mem_map, not_exists, not_and] at this;intro e;exact this.1 x hx e.symm
      have hh := h.holds x (List.mem_cons_of_mem _ hx);cases x with
      | cell b' off' v' =>
        obtain ⟨c', t', lo', hi', hb', hc', hf'⟩ := hh;by_cases e : b = b'
        · subst e;rw [hb] at hb';obtain ⟨rfl, rfl, rfl, rfl⟩ : c = c' /\ t = t' /\ lo = lo' /\ hi = hi' := by simpa using hb'
          have hoff : off ≠ off' := fun e => hne (by simp [kE.loc, e])
          exact ⟨c.setIfInBounds off u, t, lo, hi, by rw [hheap];simp, by simp [Array.getElem?_setIfInBounds_ne hoff, hc'], hf'⟩
        · exact ⟨c', t', lo', hi', by rw [hheap];simp [e, hb'], hc', hf'⟩
      | obj b' o =>
        obtain ⟨hb', ho⟩ := hh;have e : b ≠ b' := fun e => by
          subst e;rw [hb] at hb';cases hb';simp [z9] at ho
        exact ⟨by rw [hheap];simp [e, hb'], ho⟩
  · have := h.nodup;simpa [kE.loc] using this
  · rw [hheap];by_cases e : b = i
    · subst e;rw [hb] at hi'';obtain ⟨rfl, rfl, rfl, rfl⟩ : c = c' /\ t = t' /\ lo = lo' /\ hi = hi' := by simpa using hi''
      refine ⟨c.setIfInBounds off u, Zs, Zs, fun j hj => ?_⟩;have hne : off ≠ j := fun e => hf (e ▸ hj)
      simp [Array.getElem?_setIfInBounds_ne hne]
    · simp [e, hi'']
def kA (b : Nat) : Nat -> List Value -> List kE
  | _, [] => []
  | off, v :: r => .cell b off v :: kA b (off + 1) r
theorem kb {b : Nat} {x : kE} : ∀ {off : Nat} {vs : List Value}, x ∈ kA b off vs ↔ ∃ i v, vs[i]? = some v /\ x = .cell b (off + i) v := by
  intro off vs
  induction vs generalizing off with
  | nil => simp [kA]
  | cons u r ih =>
    simp only [kA, List.mem_cons, ih];constructor
    · rintro (rfl | ⟨i, v, h, rfl⟩)
      · exact ⟨0, u, rfl, rfl⟩
      · exact ⟨i + 1, v, by simpa using h, by simp;omega⟩
    · rintro ⟨i, v, h, rfl⟩
      cases i with
      | zero => left;simp at h;simp [h]
      | succ i => right;exact ⟨i, v, by simpa using h, by simp;omega⟩
theorem nodup_cellsAt (b : Nat) (vs : List Value) : ∀ off, ((kA b off vs).map kE.loc).Nodup := by
  induction vs with
  | nil => intro off;simp [kA]
  | cons u r ih =>
    intro off;simp only [kA, List.map_cons, List.nodup_cons, ih, and_true];simp only [List.mem_map, not_exists, not_and];intro x hx e;obtain ⟨i, v, _, rfl⟩ := kb.1 hx;simp [kE.loc] at e;omega
theorem Sat.push {w : World} {L : List kE} (h : Sat w L) (o : Obj) (M : List kE) (hM : ∀ x ∈ M, x.loc.1 = w.heap.size /\ x.holds { w with heap := w.heap.push o })
    (hn : (M.map kE.loc).Nodup) : Sat { w with heap := w.heap.push o } (M ++ L) /\ ko w { w with heap := w.heap.push o } := by
  have hold : ∀ i, i < w.heap.size -> (w.heap.push o)[i]? = w.heap[i]? := fun i hi => by
    rw [Array.getElem?_push];simp [Nat.ne_of_lt hi]
  refine ⟨⟨fun x hx => ?_, ?_⟩, ⟨rfl, rfl, Zs, fun i c t lo hi hi' => ?_⟩⟩
  · rcases List.mem_append.1 hx with hx | hx
    · exact (hM x hx).2
    · have hl := h.lt hx;have := h.holds x hx;cases x with
      | cell b off v => obtain ⟨c, t, lo, hi, hb, r⟩ := this;exact ⟨c, t, lo, hi, by simpa [hold b hl] using hb, r⟩
      | obj b o' => exact ⟨by simpa [hold b hl] using this.1, this.2⟩
  · rw [List.map_append, List.nodup_append];refine ⟨hn, h.nodup, fun x hx y hy e => ?_⟩;obtain ⟨m, hm, rfl⟩ := List.mem_map.1 hx;obtain ⟨l, hl, rfl⟩ := List.mem_map.1 hy;have h1 := (hM m hm).1;have h2 := h.lt hl;rw [e] at h1;omega
  · have hl : i < w.heap.size := (Array.getElem?_eq_some_iff.1 hi').1;exact ⟨c, by simpa [hold i hl] using hi', rfl, fun _ _ => rfl⟩
theorem Sat.newCells {w : World} {L : List kE} (h : Sat w L) (c : Array Value) (t : TypeId) :
    Sat { w with heap := w.heap.push (.cells c t) } (kA w.heap.size 0 c.toList ++ L) /\ ko w { w with heap := w.heap.push (.cells c t) } := by
  refine h.push _ _ (fun x hx => ?_) (nodup_cellsAt _ _ _);obtain ⟨i, v, hi, rfl⟩ := kb.1 hx;exact ⟨rfl, c, t, 0, 0, Zs, by simpa using hi, Zs⟩
theorem Sat.newObj {w : World} {L : List kE} (h : Sat w L) (o : Obj) (ho : z9 o = false) :
    Sat { w with heap := w.heap.push o } (.obj w.heap.size o :: L) /\ ko w { w with heap := w.heap.push o } := by
  refine h.push o [.obj w.heap.size o] (fun x hx => ?_) Zs;rw [List.mem_singleton.1 hx];exact ⟨rfl, Zs, ho⟩
theorem Sat.setObj {w : World} {L : List kE} {b : Nat} {o u : Obj} (h : Sat w (.obj b o :: L)) (hu : z9 u = false) :
    Sat { w with heap := w.heap.setIfInBounds b u } (.obj b u :: L) /\ ko w { w with heap := w.heap.setIfInBounds b u } := by
  obtain ⟨hb, ho⟩ := h.holds _ (List.mem_cons_self ..);have hlt : b < w.heap.size := (Array.getElem?_eq_some_iff.1 hb).1;have hheap : ∀ i, (w.heap.setIfInBounds b u)[i]? = if b = i then some u else w.heap[i]? := by
    intro i;by_cases e : b = i
    · subst e;simp [hlt]
    · simp [Array.getElem?_setIfInBounds_ne e, e]
  refine ⟨⟨fun x hx => ?_, ?_⟩, ⟨rfl, rfl, Zs, fun i c t lo hi hi' => ?_⟩⟩
  · rcases List.mem_cons.1 hx with rfl | hx
    · exact ⟨by simp [hlt], hu⟩
    · have hne : (b, none) ≠ x.loc := by
        have := h.nodup;simp only [List.map_cons, List.nodup_cons, List.mem_map, not_exists, not_and] at this;intro e;exact this.1 x hx e.symm
      have hh := h.holds x (List.mem_cons_of_mem _ hx);cases x with
      | cell b' off' v' =>
        obtain ⟨c', t', lo', hi', hb', r⟩ := hh;have e : b ≠ b' := fun e => by subst e;rw [hb] at hb';cases hb';cases ho
        exact ⟨c', t', lo', hi', by simpa [hheap, e] using hb', r⟩
      | obj b' o' =>
        have e : b ≠ b' := fun e => hne (by simp [kE.loc, e])
        exact ⟨by simpa [hheap, e] using hh.1, hh.2⟩
  · have := h.nodup;simpa [kE.loc] using this
  · have e : b ≠ i := fun e => by subst e;rw [hb] at hi';cases hi';cases ho
    exact ⟨c, by simpa [hheap, e] using hi', rfl, fun _ _ => rfl⟩
def SWP (P : Program) {α : Type} (s : Sem α) (H : List kE) (K : α -> List kE -> Prop) : Prop :=
  ∀ F w, Sat w (H ++ F) -> ∃ v w' H', s.run P w = .ok v w' /\ K v H' /\ Sat w' (H' ++ F) /\ ko w w'
section
variable {P : Program} {α β : Type} {H : List kE} {K : α -> List kE -> Prop}
theorem SWP.pure {v : α} (h : K v H) : SWP P (Pure.pure v) H K := fun _ w hs => ⟨v, w, H, rfl, h, hs, .refl w⟩
theorem SWP.bind {s : Sem α} {f : α -> Sem β} {K : β -> List kE -> Prop} (h : SWP P s H fun v H' => SWP P (f v) H' K) : SWP P (s >>= f) H K := by
  intro F w hs;obtain ⟨v, w1, H1, h1, h2, h3, h4⟩ := h F w hs;obtain ⟨u, w2, H2, k1, k2, k3, k4⟩ := h2 F w1 h3;exact ⟨u, w2, H2, by simp [h1, k1], k2, k3, h4.trans k4⟩
theorem SWP.perm {s : Sem α} {H' : List kE} (p : H.Perm H') (h : SWP P s H' K) : SWP P s H K := fun F w hs =>
  h F w (hs.perm (p.append_right F))
theorem SWP.load {b off : Nat} {v : Value} {K : Value -> List kE -> Prop} (hx : kE.cell b off v ∈ H) (h : K v H) : SWP P (Go.load ⟨b, off, none⟩) H K := fun F w hs => by
  have := (hs.cell (Zw F hx)).1;exact ⟨v, w, H, by simp [Go.load, Sem.run, this], h, hs, .refl w⟩
def zj : Value -> Bool
  | .agg _ | .tuple _ => false
  | _ => true
theorem SWP.store {b off : Nat} {v u : Value} {K : Unit -> List kE -> Prop} (hu : zj u = true) (h : K () (.cell b off u :: H)) :
    SWP P (Go.store ⟨b, off, none⟩ u) (.cell b off v :: H) K := fun F w hs => by
  have hc := hs.cell (Zw F (List.mem_cons_self (a := kE.cell b off v) (l := H)));obtain ⟨s1, s2⟩ := Sat.store (u := u) (L := H ++ F) (by simpa using hs);refine ⟨(), _, _, ?_, h, s1, s2⟩;cases u <;> simp_all [Go.store, Sem.run, zj]
theorem SWP.new_cells {c : Array Value} {t : TypeId} {K : Nat -> List kE -> Prop} (h : ∀ b, K b (kA b 0 c.toList ++ H)) : SWP P (Go.newObj (.cells c t)) H K := fun F w hs => by
  obtain ⟨s1, s2⟩ := hs.newCells c t;exact ⟨w.heap.size, _, _, by simp [Go.newObj, Sem.run], h _, by rw [List.append_assoc];exact s1, s2⟩
theorem SWP.new_obj {o : Obj} {K : Nat -> List kE -> Prop} (ho : z9 o = false) (h : ∀ b, K b (.obj b o :: H)) : SWP P (Go.newObj o) H K := fun F w hs => by
  obtain ⟨s1, s2⟩ := hs.newObj o ho;exact ⟨w.heap.size, _, _, by simp [Go.newObj, Sem.run], h _, s1, s2⟩
theorem SWP.getObj {b : Nat} {o : Obj} {K : Obj -> List kE -> Prop} (hx : kE.obj b o ∈ H) (h : K o H) : SWP P (Go.getObj b) H K := fun F w hs => by
  obtain ⟨h1, h2⟩ := hs.obj (Zw F hx);refine ⟨o, w, H, ?_, h, hs, .refl w⟩;cases o <;> simp_all [Go.getObj, Sem.run, z9]
theorem SWP.setObj {b : Nat} {o u : Obj} {K : Unit -> List kE -> Prop} (hu : z9 u = false) (h : K () (.obj b u :: H)) : SWP P (Go.setObj b u) (.obj b o :: H) K := fun F w hs => by
  obtain ⟨h1, h2⟩ := hs.obj (Zw F (List.mem_cons_self (a := kE.obj b o) (l := H)));obtain ⟨s1, s2⟩ := Sat.setObj (u := u) (L := H ++ F) (by simpa using hs) hu;refine ⟨(), _, _, ?_, h, s1, s2⟩;cases o <;> simp_all [Go.setObj, Sem.run, z9]
theorem SWP.choose {q : Question} {K : Nat -> List kE -> Prop} (h0 : q.forced = true -> K 0 H) (h : ∀ n, K (q.cut n) H) : SWP P (Go.choose q) H K := fun F w hs => by
  by_cases e : q.forced = true
  · exact ⟨0, w, H, by simp [Go.choose, Sem.run, e], h0 e, hs, .refl w⟩
  · exact ⟨_, _, H, by simp [Go.choose, Sem.run, e];exact ⟨rfl, rfl⟩, h _, hs.drawn _, (ko.refl w).drawn _⟩
end
end Go.V
namespace Go.V
open Go
inductive SK where
  | int | str | bool
  deriving DecidableEq, Repr
inductive NK where
  | ptr | map | slice | func | iface
  deriving DecidableEq, Repr
inductive R where
  | mv (x : Operand)
  | pick (c a b : Operand)
  | bin (op : BinOp) (x y : Operand)
  | eqb (neq : Bool) (x y : Operand)
  | eqnil (neq : Bool) (k : NK) (x : Operand)
  | eqagg (neq : Bool) (ks : List SK) (x y : Operand)
  | un (op : UnOp) (x : Operand)
  | conv (k : IntKind) (x : Operand)
  | cvs (x : Operand)
  | mkif (t : TypeId) (x : Operand)
  | clos (f : Fn) (first captured : List Operand)
  | ext (x : Operand) (i : Nat)
  | build (zero : List Value) (parts : List (Nat × Nat × Operand))
  | nilck (x : Operand)
  | fld (off : Nat) (x : Operand)
  | fldV (off size : Nat) (agg : Bool) (x : Operand)
  | idxA (len size : Nat) (x i : Operand)
  | idxL (size : Nat) (x i : Operand)
  | idxS (x i : Operand)
  | idxV (len size : Nat) (agg : Bool) (x i : Operand)
  | slcS (x : Operand) (lo hi : Option Operand)
  | slcL (size : Nat) (x : Operand) (lo hi mx : Option Operand)
  | slcA (len size : Nat) (x : Operand) (lo hi : Option Operand)
  | lenS (x : Operand)
  | lenL (x : Operand)
  | cap (x : Operand)
  | min2 (x y : Operand)
  | max2 (x y : Operand)
  | tassert (t : TypeId) (zero : Value) (ok : Bool) (x : Operand)
  | load1 (x : Operand)
  | loadN (n : Nat) (x : Operand)
  | mlen (m : Operand)
  | lookup (k : SK) (zero : Value) (ok : Bool) (m key : Operand)
  | entry (it : Operand)
  | b2s (x : Operand)
  | alloc (t : TypeId) (zero : List Value)
  | box (t : TypeId) (x : Operand)
  | bslice (t : TypeId) (len : Nat) (zero : List Value) (parts : List (Nat × Nat × Operand))
  | mkmap
  | mkslice (t : TypeId) (size bytes : Nat) (zero : List Value) (l c : Operand)
  | rangeS (x : Operand)
  | rangeM (x : Operand)
  | s2b (t : TypeId) (x : Operand)
  | store (n : Nat) (x v : Operand)
  | mapupd (k : SK) (m key v : Operand)
  | delete (k : SK) (m key : Operand)
  | append (t : TypeId) (size bytes : Nat) (zero : List Value) (s x : Operand)
  | grow (t : TypeId) (size bytes : Nat) (zero : List Value) (s x : Operand)
  | copy (size : Nat) (d s : Operand)
  | clr (zero : List Value) (x : Operand)
  | next (it : Operand) (isString : Bool)
  | call (f : Nat) (args : List Operand)
  | callv (x : Operand) (args : List Operand)
  | pnc (x : Operand)
def skOf : TypeDesc -> Option SK
  | .int _ => some .int
  | .string => some .str
  | .bool => some .bool
  | _ => none
def ju (P : Program) (f : Nat) : Bool :=
  match P.funcs[f]? with
  | some fn => fn.name != "runtime.NumGoroutine" && fn.body.isSome
  | none => false
def scalars (P : Program) : List Field -> Nat -> Option (List SK)
  | [], _ => some []
  | f :: r, off => if f.offset = off ∧ f.name ≠ "_" then
      match (P.underlying f.type).bind skOf, scalars P r (off + 1) with
      | some k, some l => some (k :: l)
      | _, _ => none
    else none
def placesOf (P : Program) (fs : List Field) : List (Nat × Nat) := fs.map fun f => (f.offset, P.cellsOf f.type)
def lowParts (place : Nat -> Option (Nat × Nat)) : List (Nat × Operand) -> Option (List (Nat × Nat × Operand))
  | [] => some []
  | (i, x) :: r => match place i, lowParts place r with
    | some (off, size), some l => some ((off, size, x) :: l)
    | _, _ => none
def zeroOf (P : Program) (t : TypeId) : Option (List Value) := ((P.info? t).bind (·.zero)).map (·.cells.toList)
def nilKind : TypeDesc -> Operand -> Option NK
  | .pointer _, .const (.pointer none) => some .ptr
  | .map _ _, .const (.map none) => some .map
  | .slice _, .const (.slice none 0 0) => some .slice
  | .func .., .const .nilFunc => some .func
  | .interface _, .const .nilIface => some .iface
  | _, _ => none
def isIntL (P : Program) : List TypeId -> Bool
  | u :: _ => match P.underlying u with | some (.int _) => true | _ => false
  | [] => false
def isSeq (P : Program) : List TypeId -> Bool
  | u :: _ => match P.underlying u with | some (.slice _) | some .string => true | _ => false
  | [] => false
def kz (P : Program) : Op -> Option R
  | .move x | .assign x => some (.mv x)
  | .pick c a b => some (.pick c a b)
  | .alloc t => (zeroOf P t).map (R.alloc t)
  | .box t x => some (.box t x)
  | .load t a => match P.underlying t, P.info? t with
    | some (.struct _), some i => some (.loadN i.size a)
    | some (.array _ _), some i => some (.loadN i.size a)
    | some _, some _ => some (.load1 a)
    | _, _ => none
  | .store t a x => (P.info? t).map fun i => .store i.size a x
  | .nilCheck x => some (.nilck x)
  | .binOp op t x y _ =>
    match P.underlying t with
    | some (.int _) => some (.bin op x y)
    | some .string => some (.bin op x y)
    | some .bool => match op with | .eql => some (.eqb false x y) | .neq => some (.eqb true x y) | _ => none
    | some (.struct fs) =>
      if P.eqGuardType P.depth t = false /\ P.stoodInHeld t = false then
        match op, scalars P fs.toList 0 with
        | .eql, some ks => some (.eqagg false ks x y)
        | .neq, some ks => some (.eqagg true ks x y)
        | _, _ => none
      else none
    | some d =>
      match op, nilKind d y with
      | .eql, some k => some (.eqnil false k x)
      | .neq, some k => some (.eqnil true k x)
      | _, _ => none
    | _ => none
  | .unOp op _ x => some (.un op x)
  | .convert s d x => match P.underlying s, P.underlying d with
    | some (.int _), some (.int k) => some (.conv k x)
    | some .string, some .string => some (.cvs x)
    | some .string, some (.slice e) => match P.underlying e with | some (.int .u8) => some (.s2b e x) | _ => none
    | some (.slice e), some .string => match P.underlying e with | some (.int .u8) => some (.b2s x) | _ => none
    | _, _ => none
  | .makeInterface t x => match P.underlying t with
    | some (.interface _) | none => none
    | some _ => some (.mkif t x)
  | .makeFunc fn f c => some (.clos fn f.toList c.toList)
  | .makeMap t r => match P.underlying t with
    | some (.map _ _) => match r with | none => some .mkmap | some (.const (.int _ _)) => some .mkmap | _ => none
    | _ => none
  | .makeSlice t l c => match P.underlying t with
    | some (.slice e) => match P.info? e, zeroOf P e with | some i, some z => some (.mkslice e i.size i.bytes z l c) | _, _ => none
    | _ => none
  | .extract x i => some (.ext x i)
  | .build t parts => match P.underlying t, zeroOf P t with
    | some (.struct fs), some z => if fs.toList.all (fun f => (P.info? f.type).isSome) then (lowParts (fun i => (placesOf P fs.toList)[i]?) parts.toList).map (R.build z) else none
    | some (.array _ e), some z => match P.info? e with | some j => (lowParts (fun i => some (i * j.size, j.size)) parts.toList).map (R.build z) | none => none
    | _, _ => none
  | .buildSlice t len parts => match P.underlying t with
    | some (.slice e) => match P.info? e, zeroOf P e with
      | some i, some z => if len * i.size <= 2 ^ 24 /\ z.length = i.size then (lowParts (fun j => some (j * i.size, i.size)) parts.toList).map (R.bslice e len z) else none
      | _, _ => none
    | _ => none
  | .fieldAddr s x f => match P.underlying s with
    | some (.struct fs) => match fs[f]? with
      | some fd => match P.info? fd.type with | some i => if i.size = 0 then none else some (.fld fd.offset x) | none => none
      | none => none
    | _ => none
  | .field s x f => match P.underlying s with
    | some (.struct fs) => match fs[f]? with
      | some fd => match P.underlying fd.type, P.info? fd.type with
        | some (.struct _), some i => some (.fldV fd.offset i.size true x)
        | some (.array _ _), some i => some (.fldV fd.offset i.size true x)
        | some _, some i => some (.fldV fd.offset i.size false x)
        | _, _ => none
      | none => none
    | _ => none
  | .indexAddr t x i => match P.underlying t with
    | some (.array n e) => (P.info? e).map fun j => .idxA n j.size x i
    | some (.slice e) => (P.info? e).map fun j => .idxL j.size x i
    | _ => none
  | .index t x i => match P.underlying t with
    | some .string => some (.idxS x i)
    | some (.array n e) => match P.underlying e, P.info? e with
        | some (.struct _), some j => some (.idxV n j.size true x i)
        | some (.array _ _), some j => some (.idxV n j.size true x i)
        | some _, some j => some (.idxV n j.size false x i)
        | _, _ => none
    | _ => none
  | .slice t x lo hi mx => match P.underlying t with
    | some .string => if mx.isNone then some (.slcS x lo hi) else none
    | some (.slice e) => (P.info? e).map fun j => .slcL j.size x lo hi mx
    | some (.array n e) => if mx.isNone then (P.info? e).map fun j => .slcA n j.size x lo hi else none
    | _ => none
  | .lookup t m k ok => match P.underlying t with
    | some (.map kt e) => match (P.underlying kt).bind skOf, (P.info? e).bind (·.zero) with
      | some sk, some z => some (.lookup sk z ok m k)
      | _, _ => none
    | _ => none
  | .mapUpdate t m k v | .insert t m k v => match P.underlying t with
    | some (.map kt _) => ((P.underlying kt).bind skOf).map fun sk => .mapupd sk m k v
    | _ => none
  | .range t x => match P.underlying t with
    | some .string => some (.rangeS x)
    | some (.map _ _) => some (.rangeM x)
    | _ => none
  | .next it s => some (.next it s)
  | .panic x => some (.pnc x)
  | .entry it => some (.entry it)
  | .typeAssert x _ t ok => match P.underlying t with
    | some (.interface _) | none => none
    | some _ => ((P.info? t).bind (·.zero)).map fun z => .tassert t z ok x
  | .call c => match c.callee with
    | .value (.func f) => if ju P f then some (.call f c.args.toList) else none
    | .value x => some (.callv x c.args.toList)
    | .builtin .len => match c.args.toList, c.argTypes.toList with
      | [x], [t] => match P.underlying t with
        | some .string => some (.lenS x)
        | some (.slice _) => some (.lenL x)
        | some (.map _ _) => some (.mlen x)
        | _ => none
      | _, _ => none
    | .builtin .cap => match c.args.toList, c.argTypes.toList with
      | [x], [t] => match P.underlying t with | some (.slice _) => some (.cap x) | _ => none
      | _, _ => none
    | .builtin .min => match c.args.toList with | [x, y] => some (.min2 x y) | _ => none
    | .builtin .max => match c.args.toList with | [x, y] => some (.max2 x y) | _ => none
    | .builtin .append => match c.args.toList, c.argTypes.toList with
      | [s, x], t :: xt => match P.underlying t with
        | some (.slice e) => match P.info? e, zeroOf P e with
          | some i, some z => if isSeq P xt then some (.append e i.size i.bytes z s x) else if isIntL P xt then some (.grow e i.size i.bytes z s x) else none
          | _, _ => none
        | _ => none
      | _, _ => none
    | .builtin .copy => match c.args.toList, c.argTypes.toList with
      | [d, s], t :: _ => match P.underlying t with
        | some (.slice e) => (P.info? e).map fun i => .copy i.size d s
        | _ => none
      | _, _ => none
    | .builtin .clear => match c.args.toList, c.argTypes.toList with
      | [x], [t] => match P.underlying t with
        | some (.slice e) => (zeroOf P e).map fun z => .clr z x
        | _ => none
      | _, _ => none
    | .builtin .delete => match c.args.toList, c.argTypes.toList with
      | [m, k], t :: _ => match P.underlying t with
        | some (.map kt _) => ((P.underlying kt).bind skOf).map fun sk => .delete sk m k
        | _ => none
      | _, _ => none
    | _ => none
  | _ => none
def intV (op : BinOp) (k : IntKind) (a : Int) (k' : IntKind) (b : Int) : Option Value :=
  match op with
  | .shl => if b < 0 then none else some (.int k (k.wrap (a * 2 ^ (min b.toNat k.bits))))
  | .shr => if b < 0 then none else some (.int k (a.fdiv (2 ^ (min b.toNat k.bits))))
  | .add => if k = k' then some (.int k (k.wrap (a + b))) else none
  | .sub => if k = k' then some (.int k (k.wrap (a - b))) else none
  | .mul => if k = k' then some (.int k (k.wrap (a * b))) else none
  | .quo => if k = k' /\ b ≠ 0 then some (.int k (k.wrap (a.tdiv b))) else none
  | .rem => if k = k' /\ b ≠ 0 then some (.int k (a.tmod b)) else none
  | .and => if k = k' then some (.int k (k.wrap (BitVec.ofInt k.bits a &&& BitVec.ofInt k.bits b).toNat)) else none
  | .or => if k = k' then some (.int k (k.wrap (BitVec.ofInt k.bits a ||| BitVec.ofInt k.bits b).toNat)) else none
  | .xor => if k = k' then some (.int k (k.wrap (BitVec.ofInt k.bits a ^^^ BitVec.ofInt k.bits b).toNat)) else none
  | .andNot => if k = k' then some (.int k (k.wrap (BitVec.ofInt k.bits a &&& ~~~ BitVec.ofInt k.bits b).toNat)) else none
  | .eql => if k = k' then some (.bool (decide (a = b))) else none
  | .neq => if k = k' then some (.bool (!decide (a = b))) else none
  | .lss => if k = k' then some (.bool (decide (a < b))) else none
  | .leq => if k = k' then some (.bool (decide (a <= b))) else none
  | .gtr => if k = k' then some (.bool (decide (b < a))) else none
  | .geq => if k = k' then some (.bool (decide (b <= a))) else none
def strV (op : BinOp) (x y : ByteArray) : Option Value :=
  match op with
  | .add => if (x.size + y.size : Nat) <= 9223372036854775807 then some (.string (x ++ y)) else none
  | .eql => some (.bool (decide (x = y)))
  | .neq => some (.bool (!decide (x = y)))
  | .lss => some (.bool (Op.bytesLess x.toList y.toList))
  | .leq => some (.bool (Op.bytesLess x.toList y.toList || decide (x = y)))
  | .gtr => some (.bool !(Op.bytesLess x.toList y.toList || decide (x = y)))
  | .geq => some (.bool !(Op.bytesLess x.toList y.toList))
  | _ => none
def zg (op : BinOp) : Value -> Value -> Option Value
  | .int k a, .int k' b => intV op k a k' b
  | .string x, .string y => strV op x y
  | _, _ => none
def isNil : NK -> Value -> Option Bool
  | .ptr, .pointer a => some a.isNone
  | .map, .map a => some a.isNone
  | .slice, .slice a _ _ => some a.isNone
  | .func, .nilFunc => some true
  | .func, .func .. => some false
  | .iface, .nilIface => some true
  | .iface, .iface .. => some false
  | _, _ => none
def scalEq : SK -> Value -> Value -> Option Bool
  | .int, .int k a, .int k' b => if k = k' then some (decide (a = b)) else none
  | .str, .string a, .string b => some (decide (a = b))
  | .bool, .bool a, .bool b => some (a == b)
  | _, _, _ => none
def aggEq : List SK -> List Value -> List Value -> Option Bool
  | [], _, _ => some true
  | k :: ks, x :: xs, y :: ys => match scalEq k x y, aggEq ks xs ys with
    | some a, some b => some (a && b)
    | _, _ => none
  | _, _, _ => none
def wo : List Value -> List (Nat × Nat × Value) -> Option (List Value)
  | cs, [] => some cs
  | cs, (off, size, v) :: r =>
    if v.cells.size = size /\ off + size <= cs.length then wo (cs.take off ++ v.cells.toList ++ cs.drop (off + size)) r else none
def jj (ρ : Operand -> Value) (l : List (Nat × Nat × Operand)) : List (Nat × Nat × Value) := l.map fun (o, s, x) => (o, s, ρ x)
def bound (x : Value) (y : Nat) : Option Nat := match x with
  | .int _ i => if 0 <= i /\ i <= y then some i.toNat else none
  | _ => none
def zW (y : Nat) (d : Option Nat) : Option Value -> Option Nat
  | some v => bound v y
  | none => d
def bounds (len cap : Nat) (lo hi mx : Option Value) : Option (Nat × Nat × Nat) :=
  (zW cap (some cap) mx).bind fun m => (zW m (if mx.isSome then none else some len) hi).bind fun h => (zW h (some 0) lo).bind fun l => some (l, h, m)
def kZ (ρ : Operand -> Value) : R -> Option Value
  | .mv x => some (ρ x)
  | .pick c a b => match ρ c with | .bool t => some (if t then ρ a else ρ b) | _ => none
  | .bin op x y => zg op (ρ x) (ρ y)
  | .eqb neq x y => match ρ x, ρ y with | .bool a, .bool b => some (.bool (if neq then !(a == b) else a == b)) | _, _ => none
  | .eqnil neq k x => (isNil k (ρ x)).map fun b => .bool (if neq then !b else b)
  | .eqagg neq ks x y => match ρ x, ρ y with
    | .agg a, .agg b => if a.size = ks.length /\ b.size = ks.length then (aggEq ks a.toList b.toList).map fun r => .bool (if neq then !r else r) else none
    | _, _ => none
  | .un .not x => match ρ x with | .bool b => some (.bool !b) | _ => none
  | .un .neg x => match ρ x with | .int k n => some (.int k (k.wrap (0 - n))) | _ => none
  | .un .xor x => match ρ x with | .int k n => some (.int k (k.wrap (BitVec.ofInt k.bits (if k.signed then -1 else k.max) ^^^ BitVec.ofInt k.bits n).toNat)) | _ => none
  | .un .plus _ => none
  | .conv k x => match ρ x with | .int _ n => some (.int k (k.wrap n)) | _ => none
  | .cvs x => match ρ x with | .string s => some (.string s) | _ => none
  | .mkif t x => some (.iface t (ρ x))
  | .clos f first captured => some (.func f (first.map ρ).toArray (captured.map ρ).toArray)
  | .ext x i => match ρ x with | .tuple vs => vs[i]? | _ => none
  | .build zero parts => (wo zero (jj ρ parts)).map fun l => .agg l.toArray
  | .nilck x => match ρ x with
    | .pointer (some a) => some (.pointer (some a))
    | _ => none
  | .fld off x => match ρ x with | .pointer (some ⟨b, o, none⟩) => some (.pointer (some ⟨b, o + off, none⟩)) | _ => none
  | .fldV off size agg x => match ρ x with
    | .agg cs => if agg then some (.agg (cs.extract off (off + size))) else cs[off]?
    | _ => none
  | .idxA len size x i => match ρ x, ρ i with
    | .pointer (some ⟨b, o, none⟩), .int _ n => if 0 <= n /\ n < len then some (.pointer (some ⟨b, o + n.toNat * size, none⟩)) else none
    | _, _ => none
  | .idxL size x i => match ρ x, ρ i with
    | .slice (some ⟨b, o, none⟩) len _, .int _ n => if 0 <= n /\ n < len then some (.pointer (some ⟨b, o + n.toNat * size, none⟩)) else none
    | _, _ => none
  | .idxS x i => match ρ x, ρ i with
    | .string s, .int _ n => if 0 <= n then (s[n.toNat]?).map fun b => .int .u8 b.toNat else none
    | _, _ => none
  | .idxV len size agg x i => match ρ x, ρ i with
    | .agg cs, .int _ n => if 0 <= n /\ n < len then (if agg then some (.agg (cs.extract (n.toNat * size) (n.toNat * size + size))) else cs[n.toNat * size]?) else none
    | _, _ => none
  | .slcS x lo hi => match ρ x with
    | .string s => (bounds s.size s.size (lo.map ρ) (hi.map ρ) none).map fun (l, h, _) => .string (s.extract l h)
    | _ => none
  | .slcL size x lo hi mx => match ρ x with
    | .slice (some ⟨b, o, none⟩) len cap => (bounds len cap (lo.map ρ) (hi.map ρ) (mx.map ρ)).map fun (l, h, m) => .slice (some ⟨b, if m = l then o else o + l * size, none⟩) (h - l) (m - l)
    | .slice none len cap => (bounds len cap (lo.map ρ) (hi.map ρ) (mx.map ρ)).map fun (l, h, m) => .slice none (h - l) (m - l)
    | _ => none
  | .slcA n size x lo hi => match ρ x with
    | .pointer (some ⟨b, o, none⟩) => (bounds n n (lo.map ρ) (hi.map ρ) none).map fun (l, h, m) => .slice (some ⟨b, if m = l then o else o + l * size, none⟩) (h - l) (m - l)
    | _ => none
  | .lenS x => match ρ x with | .string s => some (.int .i64 s.size) | _ => none
  | .lenL x => match ρ x with | .slice _ n _ => some (.int .i64 n) | _ => none
  | .cap x => match ρ x with | .slice _ _ n => some (.int .i64 n) | _ => none
  | .min2 x y => match ρ x, ρ y with | .int k a, .int _ b => some (.int k (if b < a then b else a)) | _, _ => none
  | .max2 x y => match ρ x, ρ y with | .int k a, .int _ b => some (.int k (if b > a then b else a)) | _, _ => none
  | .tassert t zero ok x => match ρ x with
    | .nilIface => if ok then some (.tuple #[zero, .bool false]) else none
    | .iface u v => if u = t then some (if ok then .tuple #[v, .bool true] else v) else if ok then some (.tuple #[zero, .bool false]) else none
    | _ => none
  | _ => none
end Go.V
namespace Go.V
open Go
section
variable {P : Program} {ρ : Operand -> Value} {w : World} {v : Value} {xo : Operand}
theorem kF {t : TypeId} {d : TypeDesc} (h : P.underlying t = some d) : (underlying t).run P w = .ok d w := by simp [underlying, h]
theorem w8 {t : TypeId} {i : TypeInfo} (h : P.info? t = some i) : (typeInfo t).run P w = .ok i w := by simp [typeInfo, h]
theorem kX {t : TypeId} {i : TypeInfo} (h : P.info? t = some i) : (sizeOf t).run P w = .ok i.size w := by simp [sizeOf, w8 h]
theorem str_eq (a b : ByteArray) : (a.toList == b.toList) = decide (a = b) := by
  rw [ByteArray.toList_eq, ByteArray.toList_eq, Bool.eq_iff_iff];simp only [beq_iff_eq, decide_eq_true_eq];constructor
  · intro h;cases a;cases b;simp only [ByteArray.mk.injEq];exact Array.toList_inj.1 h
  · rintro rfl;rfl
theorem run_intV {op : BinOp} {t : TypeId} {k k' : IntKind} {a b : Int} (h : intV op k a k' b = some v) : (Go.binOp op t (.int k a) (.int k' b)).run P w = .ok v w := by
  cases op <;> simp only [intV] at h <;> split at h <;> first | (cases h;done) | skip
  all_goals (cases h;rename_i hc)
  case quo | rem => obtain ⟨rfl, h0⟩ := hc;simp [Go.binOp, Op.intDiv, h0]
  case shl | shr => simp [Go.binOp, Op.shift, hc]
  all_goals (subst hc;simp [Go.binOp, Op.intArith, Op.intBits, Op.intCmp])
  all_goals (rw [Bool.eq_iff_iff];simp)
theorem run_strV {op : BinOp} {t : TypeId} {a b : ByteArray} (h : strV op a b = some v) : (Go.binOp op t (.string a) (.string b)).run P w = .ok v w := by
  cases op <;> simp only [strV] at h <;> first | (cases h;done) | skip
  case add =>
    split at h <;> cases h;rename_i hc;have : ¬ (((a.size + b.size : Nat) : Int) > IntKind.i64.max) := by
      have : IntKind.i64.max = 9223372036854775807 := by decide
      rw [this];omega
    simp only [Go.binOp, Op.stringOp, this, if_false, Sem.run_pure]
  all_goals (cases h;simp [Go.binOp, Op.stringOp, str_eq])
theorem run_binV {op : BinOp} {t : TypeId} {x y : Value} (h : zg op x y = some v) : (Go.binOp op t x y).run P w = .ok v w := by
  cases x <;> cases y <;> first | (simp [zg] at h;done) | exact run_intV h | exact run_strV h
theorem run_eqGuard_of {op : BinOp} {t : TypeId} {x y : Operand} {a b : Value} (h1 : ¬ (a = .nilIface /\ b = .nilIface)) (h2 : ∀ c d, ¬ (a = .agg c /\ b = .agg d)) :
    (eqGuard op t x y a b).run P w = .ok () w := by
  cases op <;> simp only [eqGuard] <;> first | (simp;done) | skip
  all_goals (cases a <;> cases b <;> first | (exact absurd ⟨rfl, rfl⟩ h1) | (exact absurd ⟨rfl, rfl⟩ (h2 _ _)) | simp)
theorem run_part_scalar {t : TypeId} {cs : Array Value} {off : Nat} {d : TypeDesc} {k : SK} (h : P.underlying t = some d) (hk : skOf d = some k) (hv : cs[off]? = some v) : (part t cs off).run P w = .ok v w := by
  cases d <;> simp [skOf] at hk <;> simp [part, isAgg, kF h, hv]
theorem run_equalIn_scal {t : TypeId} {n : Nat} {x y : Value} {r : Bool} {d : TypeDesc} {k : SK} (h : P.underlying t = some d) (hk : skOf d = some k) (hs : scalEq k x y = some r) :
    (Op.equalIn (n + 1) t x y).run P w = .ok r w := by
  cases d <;> simp [skOf] at hk <;> subst hk <;> cases x <;> simp [scalEq] at hs <;> cases y <;> simp at hs
  · subst hs;simp [Op.equalIn, kF h]
  · obtain ⟨rfl, rfl⟩ := hs;simp [Op.equalIn, kF h];rw [Bool.eq_iff_iff];simp
  · subst hs;simp [Op.equalIn, kF h, beq_toListBytes, str_eq]
theorem run_eqFields {n : Nat} {xs ys : Array Value} : ∀ (fs : List Field) (ks : List SK) (off : Nat) (r : Bool), scalars P fs off = some ks ->
    aggEq ks (xs.toList.drop off) (ys.toList.drop off) = some r -> (Op.eqFields (n + 1) xs ys fs).run P w = .ok r w := by
  intro fs
  induction fs with
  | nil => intro ks off r h1 h2;simp [scalars] at h1;subst h1;simp [aggEq] at h2;subst h2;simp [Op.eqFields]
  | cons f fs ih =>
    intro ks off r h1 h2;simp only [scalars] at h1;split at h1
    case isFalse => simp at h1
    rename_i hf;obtain ⟨rfl, hne⟩ := hf;split at h1
    case h_2 => simp at h1
    rename_i k l hk hl;simp at h1;subst h1;obtain ⟨d, hd, hdk⟩ := Option.bind_eq_some_iff.1 hk;cases hx : xs.toList.drop f.offset with
    | nil => rw [hx] at h2;simp [aggEq] at h2
    | cons x xr =>
    cases hy : ys.toList.drop f.offset with
    | nil => rw [hx, hy] at h2;simp [aggEq] at h2
    | cons y yr =>
    rw [hx, hy] at h2;simp only [aggEq] at h2;have ex : xs[f.offset]? = some x := by have := congrArg (·[0]?) hx;simpa using this
    have ey : ys[f.offset]? = some y := by have := congrArg (·[0]?) hy;simpa using this
    have dx : xs.toList.drop (f.offset + 1) = xr := by have := congrArg (List.drop 1) hx;simpa using this
    have dy : ys.toList.drop (f.offset + 1) = yr := by have := congrArg (List.drop 1) hy;simpa using this
    split at h2
    case h_2 => simp at h2
    rename_i a b ha hb;simp at h2;subst h2;simp only [Op.eqFields, ne_eq, hne, not_false_eq_true, if_true, Sem.run_bind, run_part_scalar hd hdk ex, run_part_scalar hd hdk ey, run_equalIn_scal hd hdk ha, Result.andThen_ok];cases a
    · simp
    · have := ih l (f.offset + 1) b hl (by rw [dx, dy];exact hb);simpa using this
theorem run_fill (place : Nat -> Option (Nat × Nat)) : ∀ (parts : List (Nat × Operand)) (l : List (Nat × Nat × Operand)) (cs : List Value) (out : List Value), lowParts place parts = some l ->
    wo cs (jj ρ l) = some out -> Instr.fill place cs.toArray (parts.map fun (i, x) => (i, ρ x)) = some out.toArray := by
  intro parts
  induction parts with
  | nil => intro l cs out h1 h2;simp [lowParts] at h1;subst h1;simp [jj, wo] at h2;subst h2;simp [Instr.fill]
  | cons p parts ih =>
    obtain ⟨i, x⟩ := p;intro l cs out h1 h2;simp only [lowParts] at h1;split at h1
    case h_2 => simp at h1
    rename_i off size r hp hr;simp at h1;subst h1;simp only [jj, List.map_cons, wo] at h2;split at h2
    case isFalse => simp at h2
    rename_i hc;obtain ⟨h3, h4⟩ := hc;have := ih r _ out hr h2;simp only [List.map_cons, Instr.fill, hp];have hcond : ¬ ((ρ x).cells.size ≠ size ∨ off + (ρ x).cells.size > cs.toArray.size) := by
      simp;omega
    have hcond' : (decide ((ρ x).cells.size ≠ size) || decide (off + (ρ x).cells.size > cs.toArray.size)) = false := by
      simp;omega
    have hfold : ∀ (vs : List Value) (k : Nat) (c : List Value), off + k + vs.length <= c.length ->
        (vs.zipIdx k).foldl (fun (cs : Array Value) (p : Value × Nat) => cs.setIfInBounds (off + p.2) p.1) c.toArray = (c.take (off + k) ++ vs ++ c.drop (off + k + vs.length)).toArray := by
      intro vs
      induction vs with
      | nil => intro k c hk;simp
      | cons v vs ihv =>
        intro k c hk;simp only [List.zipIdx_cons, List.foldl_cons, List.setIfInBounds_toArray];rw [ihv (k + 1) (c.set (off + k) v) (by simp at hk |-;omega)]
        congr 1
        simp at hk;apply List.ext_getElem?;intro j;simp only [List.getElem?_append, List.getElem?_take, List.getElem?_drop, List.length_append, List.length_take, List.length_set, List.getElem?_set, List.length_cons, List.getElem?_cons]
        grind
    have hf2 : ((ρ x).cells.zipIdx.foldl (fun (cs : Array Value) (p : Value × Nat) => cs.setIfInBounds (off + p.2) p.1) cs.toArray) = (cs.take off ++ (ρ x).cells.toList ++ cs.drop (off + size)).toArray := by
      have := hfold (ρ x).cells.toList 0 cs Zam;simp only [Nat.add_zero, Array.length_toList, h3] at this;rw [<- this, <- Array.foldl_toList, Array.toList_zipIdx]
    simp only [hcond', Bool.false_eq_true, if_false];rw [hf2];exact this
theorem run_sliceBound {x : Value} {y n : Nat} {c : BoundsCode} (h : bound x y = some n) : (Instr.sliceBound x y c).run P w = .ok n w := by
  cases x <;> simp [bound] at h;obtain ⟨⟨h1, h2⟩, rfl⟩ := h;simp [Instr.sliceBound, asIntOf, h1, h2]
theorem zP {b : Bool} {len cap : Nat} {lo hi mx : Option Value} {r : Nat × Nat × Nat} (h : bounds len cap lo hi mx = some r) : (Instr.sliceBounds b len cap lo hi mx).run P w = .ok r w := by
  simp only [bounds, Option.bind_eq_some_iff] at h;obtain ⟨m, hm, hh, hhh, l, hl, h⟩ := h;cases h;have hb : ∀ {y n : Nat} {d : Option Nat} {v : Value} {c : BoundsCode}, zW y d (some v) = some n -> (Instr.sliceBound v y c).run P w = .ok n w := fun h => run_sliceBound h
  simp only [Instr.sliceBounds];cases mx <;> cases hi <;> cases lo
  all_goals first
    | (simp [zW] at hhh;done)
    | skip
  · simp [zW] at hm hhh hl;subst hm hhh hl;simp
  · simp [zW] at hm hhh;subst hm hhh;simp [hb hl]
  · simp [zW] at hm hl;subst hm hl;simp [hb hhh]
  · simp [zW] at hm;subst hm;simp [hb hl, hb hhh]
  · simp [zW] at hl;subst hl;simp [hb hm, hb hhh]
  · simp [hb hl, hb hm, hb hhh]
theorem add_off (b o n : Nat) : (⟨b, o, none⟩ : Addr).add n = ⟨b, o + n, none⟩ := by
  by_cases h : n = 0 <;> simp [Addr.add, h]
theorem run_isNil {op : BinOp} {t : TypeId} {x : Value} {y : Operand} {neq b : Bool} {k : NK} {d : TypeDesc} (hd : P.underlying t = some d) (hop : op = if neq then .neq else .eql) (hx : isNil k x = some b)
    (hy : nilKind d y = some k) : ∃ u, y = .const u /\ (eqGuard op t xo y x u).run P w = .ok () w /\ (Go.binOp op t x u).run P w = .ok (.bool (if neq then !b else b)) w := by
  have key : ∀ u, y = .const u -> (Op.equal t x u).run P w = .ok b w := by
    rintro u rfl
    show (Op.equalIn (9999 + 1) t x u).run P w = _;generalize 9999 = n;cases d <;> try (simp [nilKind] at hy;done)
    all_goals (simp only [nilKind] at hy;split at hy <;> try (cases hy;done))
    all_goals simp_all only [TypeDesc.pointer.injEq, TypeDesc.slice.injEq, TypeDesc.map.injEq, TypeDesc.func.injEq, TypeDesc.interface.injEq, reduceCtorEq, Option.some.injEq, Operand.const.injEq]
    all_goals subst_vars
    all_goals (cases x <;> simp [isNil] at hx)
    all_goals first
      | (subst hx;simp [Op.equalIn, kF hd];done)
      | (rename_i a;cases a <;> simp at hx <;> subst hx <;> simp [Op.equalIn, kF hd];done)
      | (rename_i a _ _;cases a <;> simp at hx <;> subst hx <;> simp [Op.equalIn, kF hd];done)
  subst hop;cases d <;> try (simp [nilKind] at hy;done)
  all_goals (simp only [nilKind] at hy;split at hy <;> try (cases hy;done))
  all_goals simp_all only [TypeDesc.pointer.injEq, TypeDesc.slice.injEq, TypeDesc.map.injEq, TypeDesc.func.injEq, TypeDesc.interface.injEq, reduceCtorEq, Option.some.injEq, Operand.const.injEq]
  all_goals subst_vars
  all_goals (refine ⟨_, rfl, ?_, ?_⟩)
  all_goals (have key' := key _ rfl;cases x <;> simp [isNil] at hx)
  all_goals first
    | (cases neq <;> simp [eqGuard];done)
    | (cases neq <;> simp [Go.binOp, key'];done)
end
end Go.V
namespace Go.V
open Go
section
variable {P : Program} {ρ : Operand -> Value} {w : World} {v : Value} {r : R}
theorem zero_of {t : TypeId} {z : List Value} (h : zeroOf P t = some z) : ∃ i u, P.info? t = some i /\ i.zero = some u /\ u.cells.toList = z := by
  simp only [zeroOf, Option.map_eq_some_iff, Option.bind_eq_some_iff] at h;obtain ⟨u, ⟨i, h1, h2⟩, h3⟩ := h;exact ⟨i, u, h1, h2, h3⟩
theorem kg {t : TypeId} {i : TypeInfo} {u : Value} (h : P.info? t = some i) (hz : i.zero = some u) : (zeroValue t).run P w = .ok u w := by
  simp [zeroValue, w8 h, hz]
theorem run_places (fs : List Field) (hall : ∀ f ∈ fs, ∃ j, P.info? f.type = some j) : (fs.mapM fun f => do pure (f.offset, <- sizeOf f.type) : Sem (List (Nat × Nat))).run P w = .ok (placesOf P fs) w := by
  induction fs with
  | nil => simp [placesOf]
  | cons f fs ih =>
    obtain ⟨j, hj⟩ := hall f Zs;have := ih (fun g hg => hall g (by simp [hg]));simp only [List.mapM_cons, Sem.run_bind, kX hj, Result.andThen_ok, Sem.run_pure, this];simp [placesOf, Program.cellsOf, hj]
theorem wa {t : TypeId} {d : TypeDesc} (h : P.underlying t = some d) : (isAgg t).run P w = .ok (match d with | .struct _ | .array _ _ => true | _ => false) w := by
  cases d <;> simp [isAgg, kF h]
set_option maxHeartbeats 1000000 in
theorem pure_sound {o : Oper} (hρ : ∀ u, ρ (.const u) = u) (hl : kz P o.op = some r) (hv : kZ ρ r = some v) : (execOp ρ o).run P w = .ok (.value v) w := by
  obtain ⟨dst, op, type, pos, after, guard⟩ := o;simp only at hl;cases op
  case move x => simp [kz] at hl;subst hl;simp [kZ] at hv;subst hv;simp [execOp]
  case assign x => simp [kz] at hl;subst hl;simp [kZ] at hv;subst hv;simp [execOp]
  case pick c a b =>
    simp [kz] at hl;subst hl;simp only [kZ] at hv;split at hv <;> simp at hv;subst hv;rename_i t ht;simp [execOp, ht, asBool]
  case nilCheck x =>
    simp [kz] at hl;subst hl;simp only [kZ] at hv;split at hv <;> simp at hv;subst hv;rename_i a ha;simp [execOp, ha]
  case extract x i =>
    simp [kz] at hl;subst hl;simp only [kZ] at hv;split at hv <;> try (cases hv;done)
    rename_i vs hvs;simp [execOp, Instr.extract, hvs, hv]
  case makeFunc fn f c =>
    simp [kz] at hl;subst hl;simp [kZ] at hv;subst hv;obtain ⟨f⟩ := f;obtain ⟨c⟩ := c;simp [execOp, Instr.makeFunc]
  case makeInterface t x =>
    simp only [kz] at hl;split at hl <;> try (cases hl;done)
    rename_i d hni hd;cases hl;simp [kZ] at hv;subst hv;have : (Instr.makeInterface t (ρ x)).run P w = .ok (.iface t (ρ x)) w := by
      cases d <;> simp_all [Instr.makeInterface, underlying]
    simp [execOp, this]
  case unOp op t x =>
    simp [kz] at hl;subst hl;cases op <;> simp only [kZ] at hv <;> try (cases hv;done)
    all_goals (split at hv <;> try (cases hv;done))
    all_goals (cases hv;rename_i hn;simp [execOp, Op.unary, hn, Op.intArith, Op.intBits])
  case convert s d x =>
    simp only [kz] at hl;split at hl <;> try (cases hl;done)
    · rename_i hs hd;cases hl;simp only [kZ] at hv;split at hv <;> cases hv;rename_i n hn;simp [execOp, Go.convert, kF hs, kF hd, hn, Conv.intToInt]
    · rename_i hs hd;cases hl;simp only [kZ] at hv;split at hv <;> cases hv;rename_i n hn;simp [execOp, Go.convert, kF hs, kF hd, hn]
    · split at hl <;> cases hl <;> simp [kZ] at hv
    · split at hl <;> cases hl <;> simp [kZ] at hv
  case binOp op t x y yt =>
    have fin : ∀ {u : Value}, (Go.binOp op t (ρ x) (ρ y)).run P w = .ok u w -> (eqGuard op t x y (ρ x) (ρ y)).run P w = .ok () w -> (execOp ρ ⟨dst, .binOp op t x y yt, type, pos, after, guard⟩).run P w = .ok (.value u) w := by
      intro u h1 h2;simp [execOp, h1, h2]
    have bin : zg op (ρ x) (ρ y) = some v -> (execOp ρ ⟨dst, .binOp op t x y yt, type, pos, after, guard⟩).run P w = .ok (.value v) w := by
      intro h;refine fin (run_binV h) (run_eqGuard_of ?_ ?_)
      · rintro ⟨h1, h2⟩;rw [h1, h2] at h;simp [zg] at h
      · rintro c d ⟨h1, h2⟩;rw [h1, h2] at h;simp [zg] at h
    simp only [kz] at hl;split at hl
    · cases hl;exact bin hv
    · cases hl;exact bin hv
    · rename_i hd;split at hl <;> cases hl
      all_goals
        simp only [kZ] at hv;split at hv <;> cases hv;rename_i a b ha hb;refine fin ?_ (run_eqGuard_of (by simp [ha]) (by simp [ha]));have : (Op.equal t (.bool a) (.bool b)).run P w = .ok (a == b) w := run_equalIn_scal (n := 9999) hd rfl rfl;simp [ha, hb, Go.binOp, this]
    · rename_i fs hd;split at hl <;> try (cases hl;done)
      rename_i hg;obtain ⟨hg, hst⟩ := hg;have hfo : P.underlying t = some (.struct (P.fieldsOf t)) := by simp [Program.fieldsOf, hd]
      have hfs : P.fieldsOf t = fs := by simp [Program.fieldsOf, hd]
      split at hl <;> cases hl
      all_goals
        rename_i ks hks;simp only [kZ] at hv;split at hv <;> try (cases hv;done)
        rename_i a b ha hb;split at hv <;> try (cases hv;done)
        simp only [Option.map_eq_some_iff] at hv;obtain ⟨q, hq, rfl⟩ := hv;have hr : (Op.equal t (.agg a) (.agg b)).run P w = .ok q w := by
          show (Op.equalIn (9999 + 1) t (.agg a) (.agg b)).run P w = _;rw [run_equalIn_struct w 9999 t a b hfo hst, hfs];exact run_eqFields (n := 9998) fs.toList ks 0 q hks (by simpa using hq)
        refine fin ?_ ?_
        · simp [ha, hb, Go.binOp, hr]
        · rw [ha, hb];exact run_eqGuard_agg w _ t x y a b hg
    · rename_i d _ _ _ _ hd;split at hl <;> cases hl
      all_goals
        rename_i k hk;simp only [kZ, Option.map_eq_some_iff] at hv;obtain ⟨b, hb, rfl⟩ := hv
      · obtain ⟨u, rfl, h1, h2⟩ := run_isNil (w := w) (xo := x) (op := .eql) (neq := false) hd rfl hb hk;exact fin (by rw [hρ];exact h2) (by rw [hρ];exact h1)
      · obtain ⟨u, rfl, h1, h2⟩ := run_isNil (w := w) (xo := x) (op := .neq) (neq := true) hd rfl hb hk;exact fin (by rw [hρ];exact h2) (by rw [hρ];exact h1)
    · cases hl
  case fieldAddr s x f =>
    simp only [kz] at hl;split at hl <;> try (cases hl;done)
    rename_i fs hs;split at hl <;> try (cases hl;done)
    rename_i fd hf;split at hl <;> try (cases hl;done)
    rename_i i hi;split at hl <;> cases hl;rename_i hz;simp only [kZ] at hv;split at hv <;> cases hv;rename_i b o hx;have h1 : (fieldPlace ⟨b, o, none⟩ fd).run P w = .ok ⟨b, o + fd.offset, none⟩ w := by
      simp [fieldPlace, kX hi, hz, add_off]
    simp [execOp, Instr.fieldAt, kF hs, hf, hx, Instr.sureAddr, h1]
  case field s x f =>
    simp only [kz] at hl;split at hl <;> try (cases hl;done)
    rename_i fs hs;split at hl <;> try (cases hl;done)
    rename_i fd hf;split at hl <;> cases hl
    · rename_i _ j hu hj;simp only [kZ] at hv;split at hv <;> try (cases hv;done)
      rename_i cs hx;simp at hv;subst hv;simp [execOp, Instr.field, kF hs, hf, hx, asAgg, part, wa hu, kX hj]
    · rename_i _ _ j hu hj;simp only [kZ] at hv;split at hv <;> try (cases hv;done)
      rename_i cs hx;simp at hv;subst hv;simp [execOp, Instr.field, kF hs, hf, hx, asAgg, part, wa hu, kX hj]
    · rename_i d j h1 h2 hu hj;simp only [kZ] at hv;split at hv <;> try (cases hv;done)
      rename_i cs hx;simp at hv;have : (isAgg fd.type).run P w = .ok false w := by rw [wa hu];cases d <;> simp_all
      simp [execOp, Instr.field, kF hs, hf, hx, asAgg, part, this, hv]
  case indexAddr t x i =>
    simp only [kz] at hl;split at hl <;> try (cases hl;done)
    · rename_i n e hs;simp only [Option.map_eq_some_iff] at hl;obtain ⟨j, hj, rfl⟩ := hl;simp only [kZ] at hv;split at hv <;> try (cases hv;done)
      rename_i b o k m hx hi;split at hv <;> cases hv;rename_i hb;simp [execOp, Instr.indexAt, kF hs, hx, hi, asIntOf, Instr.sureAddr, hb, kX hj, add_off]
    · rename_i e hs;simp only [Option.map_eq_some_iff] at hl;obtain ⟨j, hj, rfl⟩ := hl;simp only [kZ] at hv;split at hv <;> try (cases hv;done)
      rename_i b o n c k m hx hi;split at hv <;> cases hv;rename_i hb;simp [execOp, Instr.indexAt, kF hs, hx, hi, asIntOf, hb, kX hj, add_off]
  case index t x i =>
    simp only [kz] at hl;split at hl <;> try (cases hl;done)
    · rename_i hs;cases hl;simp only [kZ] at hv;split at hv <;> try (cases hv;done)
      rename_i s k m hx hi;split at hv <;> try (cases hv;done)
      rename_i h0;simp only [Option.map_eq_some_iff] at hv;obtain ⟨b, hb, rfl⟩ := hv;simp [execOp, Instr.index, kF hs, hx, hi, asIntOf, h0, hb]
    · rename_i n e hs;split at hl <;> cases hl
      · rename_i _ j hu hj;simp only [kZ] at hv;split at hv <;> try (cases hv;done)
        rename_i cs k m hx hi;split at hv <;> try (cases hv;done)
        rename_i hb;simp at hv;subst hv;simp [execOp, Instr.index, kF hs, hx, hi, asIntOf, hb, kX hj, part, wa hu]
      · rename_i _ _ j hu hj;simp only [kZ] at hv;split at hv <;> try (cases hv;done)
        rename_i cs k m hx hi;split at hv <;> try (cases hv;done)
        rename_i hb;simp at hv;subst hv;simp [execOp, Instr.index, kF hs, hx, hi, asIntOf, hb, kX hj, part, wa hu]
      · rename_i d j h1 h2 hu hj;simp only [kZ] at hv;split at hv <;> try (cases hv;done)
        rename_i cs k m hx hi;split at hv <;> try (cases hv;done)
        rename_i hb;simp at hv;have : (isAgg e).run P w = .ok false w := by rw [wa hu];cases d <;> simp_all
        simp [execOp, Instr.index, kF hs, hx, hi, asIntOf, hb, kX hj, part, this, hv]
  case slice t x lo hi mx =>
    simp only [kz] at hl;split at hl <;> try (cases hl;done)
    · rename_i hs;split at hl <;> cases hl;rename_i hmx;obtain rfl : mx = none := by simpa using hmx
      simp only [kZ] at hv;split at hv <;> try (cases hv;done)
      rename_i s hx;simp only [Option.map_eq_some_iff] at hv;obtain ⟨⟨l, h, m⟩, hb, rfl⟩ := hv;simp [execOp, Instr.sliceAt, Instr.slice, kF hs, hx, zP hb]
    · rename_i e hs;simp only [Option.map_eq_some_iff] at hl;obtain ⟨j, hj, rfl⟩ := hl;simp only [kZ] at hv;split at hv <;> try (cases hv;done)
      · rename_i b o len cap hx;simp only [Option.map_eq_some_iff] at hv;obtain ⟨⟨l, h, m⟩, hb, rfl⟩ := hv;simp only [execOp, Instr.sliceAt, Instr.slice, Sem.run_bind, kF hs, hx, zP hb, kX hj, Result.andThen_ok, Sem.run_pure, add_off, Option.map_some];by_cases e : m = l <;> simp [e]
      · rename_i len cap hx;simp only [Option.map_eq_some_iff] at hv;obtain ⟨⟨l, h, m⟩, hb, rfl⟩ := hv;simp [execOp, Instr.sliceAt, Instr.slice, kF hs, hx, zP hb, kX hj]
    · rename_i n e hs;split at hl <;> try (cases hl;done)
      rename_i hmx;obtain rfl : mx = none := by simpa using hmx
      simp only [Option.map_eq_some_iff] at hl;obtain ⟨j, hj, rfl⟩ := hl;simp only [kZ] at hv;split at hv <;> try (cases hv;done)
      rename_i b o hx;simp only [Option.map_eq_some_iff] at hv;obtain ⟨⟨l, h, m⟩, hb, rfl⟩ := hv;simp only [execOp, Instr.sliceAt, Sem.run_bind, kF hs, hx, Instr.sureAddr, zP hb, kX hj, Result.andThen_ok, Sem.run_pure, add_off, Option.map_none];by_cases e : m = l <;> simp [e]
  case build t parts =>
    simp only [kz] at hl;split at hl <;> try (cases hl;done)
    · rename_i fs z hs hz;split at hl <;> try (cases hl;done)
      rename_i hall;simp only [Option.map_eq_some_iff] at hl;obtain ⟨l, hlp, rfl⟩ := hl;obtain ⟨i, u, hi, hu, rfl⟩ := zero_of hz;simp only [kZ, Option.map_eq_some_iff] at hv;obtain ⟨out, ho, rfl⟩ := hv;have hpl : (fs.mapM fun f => do pure (f.offset, <- sizeOf f.type) : Sem (Array (Nat × Nat))).run P w = .ok (placesOf P fs.toList).toArray w := by
        rw [Array.mapM_eq_mapM_toList];simp only [Sem.run_map];rw [run_places fs.toList (fun f hf => by
          have := List.all_eq_true.1 hall f hf;exact Option.isSome_iff_exists.1 this)]
        simp
      have hfill := run_fill (ρ := ρ) (fun i => (placesOf P fs.toList)[i]?) parts.toList l u.cells.toList out hlp ho;have hpe : (fun i : Nat => (placesOf P fs.toList).toArray[i]?) = fun i : Nat => (placesOf P fs.toList)[i]? := by funext i;simp
      have hparts : (parts.map fun p => (p.1, ρ p.2)).toList = parts.toList.map fun p => (p.1, ρ p.2) := by simp
      simp only [Array.toArray_toList] at hfill;have : (Instr.build t (parts.map fun p => (p.1, ρ p.2))).run P w = .ok (.agg out.toArray) w := by
        simp only [Instr.build, Sem.run_bind, kg hi hu, Result.andThen_ok, kF hs, hpl, hparts];rw [hpe];simp [hfill]
      simp [execOp, this]
    · rename_i n e z hs hz;split at hl <;> try (cases hl;done)
      rename_i j hj;simp only [Option.map_eq_some_iff] at hl;obtain ⟨l, hlp, rfl⟩ := hl;obtain ⟨i, u, hi, hu, rfl⟩ := zero_of hz;simp only [kZ, Option.map_eq_some_iff] at hv;obtain ⟨out, ho, rfl⟩ := hv;have hfill := run_fill (ρ := ρ) (fun i => some (i * j.size, j.size)) parts.toList l u.cells.toList out hlp ho;have hparts : (parts.map fun p => (p.1, ρ p.2)).toList = parts.toList.map fun p => (p.1, ρ p.2) := by simp
      simp only [Array.toArray_toList] at hfill;have : (Instr.build t (parts.map fun p => (p.1, ρ p.2))).run P w = .ok (.agg out.toArray) w := by
        simp only [Instr.build, Sem.run_bind, kg hi hu, Result.andThen_ok, kF hs, kX hj, hparts];simp [hfill]
      simp [execOp, this]
  case typeAssert x xt t ok =>
    simp only [kz] at hl;split at hl <;> try (cases hl;done)
    rename_i d hni hd;simp only [Option.map_eq_some_iff, Option.bind_eq_some_iff] at hl;obtain ⟨z, ⟨i, hi, hz⟩, rfl⟩ := hl;simp only [kZ] at hv;split at hv <;> try (cases hv;done)
    · rename_i hx;split at hv <;> cases hv;rename_i hok;have : (Instr.typeAssert .nilIface xt t true).run P w = .ok (.tuple #[z, .bool false]) w := by
        cases d <;> simp_all [Instr.typeAssert, kg hi hz, underlying]
      simp [execOp, hx, hok, this]
    · rename_i u y hx;split at hv
      · rename_i hut;cases hv;have : (Instr.typeAssert (.iface u y) xt t ok).run P w = .ok (if ok = true then .tuple #[y, .bool true] else y) w := by
          cases d <;> simp_all [Instr.typeAssert, underlying]
        simp [execOp, hx, this]
      · rename_i hut;split at hv <;> cases hv;rename_i hok;have : (Instr.typeAssert (.iface u y) xt t true).run P w = .ok (.tuple #[z, .bool false]) w := by
          cases d <;> simp_all [Instr.typeAssert, kg hi hz, underlying]
        simp [execOp, hx, hok, this]
  case call c =>
    obtain ⟨callee, args, ats⟩ := c;obtain ⟨args⟩ := args;obtain ⟨ats⟩ := ats;have fin : ∀ {b : Builtin} {s : Sem Value}, callee = .builtin b -> (∀ cs, Go.builtin b ats.toArray type cs (args.map ρ).toArray = (do pure (.value (<- s)))) -> s.run P w = .ok v w ->
        (execOp ρ ⟨dst, .call ⟨callee, args.toArray, ats.toArray⟩, type, pos, after, guard⟩).run P w = .ok (.value v) w := by
      rintro b s rfl h1 h2
      simp [execOp, resolve, invoke, h1, h2]
    simp only [kz] at hl;split at hl
    · split at hl <;> cases hl;simp [kZ] at hv
    · cases hl;simp [kZ] at hv
    · split at hl <;> try (cases hl;done)
      rename_i x t;split at hl <;> cases hl <;> simp only [kZ] at hv <;> try (cases hv;done)
      all_goals (rename_i hd;split at hv <;> cases hv)
      all_goals (rename_i hx;refine fin (s := Builtin.len_ #[t] type #[ρ x]) rfl (fun cs => by simp [Go.builtin]) ?_)
      · simp [Builtin.len_, kF hd, hx, goInt]
      · simp [Builtin.len_, kF hd, hx, goInt]
    · split at hl <;> try (cases hl;done)
      rename_i x t;split at hl <;> cases hl <;> simp only [kZ] at hv <;> try (cases hv;done)
      all_goals (rename_i hd;split at hv <;> cases hv)
      all_goals (rename_i hx;refine fin (s := Builtin.cap_ #[t] type #[ρ x]) rfl (fun cs => by simp [Go.builtin]) ?_)
      · simp [Builtin.cap_, kF hd, hx, goInt]
    · split at hl <;> cases hl;rename_i x y;simp only [kZ] at hv;split at hv <;> cases hv;rename_i hx hy;refine fin (s := Builtin.min_ ats.toArray type #[ρ x, ρ y]) rfl (fun cs => by simp [Go.builtin]) ?_;simp [Builtin.min_, Builtin.min2, hx, hy]
    · split at hl <;> cases hl;rename_i x y;simp only [kZ] at hv;split at hv <;> cases hv;rename_i hx hy;refine fin (s := Builtin.max_ ats.toArray type #[ρ x, ρ y]) rfl (fun cs => by simp [Go.builtin]) ?_;simp [Builtin.max_, Builtin.max2, hx, hy]
    all_goals (repeat' split at hl)
    all_goals first
      | (cases hl;done)
      | (cases hl;simp [kZ] at hv;done)
      | (simp only [Option.map_eq_some_iff] at hl;obtain ⟨_, _, rfl⟩ := hl;simp [kZ] at hv;done)
  all_goals (try simp only [kz] at hl)
  all_goals (repeat' split at hl)
  all_goals first
    | (cases hl;done)
    | (cases hl;simp [kZ] at hv;done)
    | (simp only [Option.map_eq_some_iff] at hl;obtain ⟨_, _, rfl⟩ := hl;simp [kZ] at hv;done)
end
end Go.V
namespace Go.V
open Go
def kd (n : Nat) (zero : List Value) : List Value := (List.range (n * zero.length)).map fun i => zero[i % zero.length]!
def sameK : SK -> Value -> Value -> Option Bool
  | .int, .int k a, .int k' b => if k = k' then some (a == b) else none
  | .str, .string a, .string b => some (decide (a = b))
  | .bool, .bool a, .bool b => some (a == b)
  | _, _, _ => none
def findK (sk : SK) (k : Value) : List MapEntry -> Nat -> Option (Option (Nat × Value))
  | [], _ => some none
  | e :: es, i =>
    match sameK sk k e.key with
    | some true => some (some (i, e.val))
    | some false => findK sk k es (i + 1)
    | none => none
def wQ : Value -> Sem (Array MapEntry × Nat)
  | .map none => pure (#[], 0)
  | .map (some r) => do
    match <- getObj r with
    | .map es c => pure (es, c)
    | _ => stuck "map"
  | _ => stuck "map"
def lookRes (ok : Bool) (zero : Value) : Option (Nat × Value) -> Value
  | some (_, v) => if ok then .tuple #[v, .bool true] else v
  | none => if ok then .tuple #[zero, .bool false] else zero
def seqLen : Value -> Option Nat
  | .slice _ n _ => some n
  | .string s => some s.size
  | _ => none
def jz (ρ : Operand -> Value) : R -> Option (Sem Next)
  | .load1 x => some do let a <- Instr.sureAddr (ρ x);let v <- load a;pure (.value v)
  | .loadN n x => some do let a <- Instr.sureAddr (ρ x);let cs <- loadCells a n;pure (.value (.agg cs))
  | .mlen m => some do let (es, _) <- wQ (ρ m);pure (.value (.int .i64 es.size))
  | .lookup sk zero ok m key => some do
    let (es, _) <- wQ (ρ m)
    match findK sk (ρ key) es.toList 0 with
    | some r => pure (.value (lookRes ok zero r))
    | none => stuck "key"
  | .entry it => some do let v <- Instr.entry (ρ it);pure (.value v)
  | .b2s x => some do let v <- Conv.bytesToString (ρ x);pure (.value v)
  | .alloc t zero => some do let b <- newObj (.cells zero.toArray t);pure (.value (.pointer (some ⟨b, 0, none⟩)))
  | .box t x => some do let b <- newObj (.cells (ρ x).cells t);pure (.value (.pointer (some ⟨b, 0, none⟩)))
  | .bslice t len zero parts => some <| match wo (kd len zero) (jj ρ parts) with
    | some out => do let b <- newObj (.cells out.toArray t);pure (.value (.slice (some ⟨b, 0, none⟩) len len))
    | none => stuck "parts"
  | .mkmap => some do let b <- newObj (.map #[] 0);pure (.value (.map (some b)))
  | .mkslice t size bytes zero l c => some <| match ρ l, ρ c with
    | .int _ l, .int _ c => if 0 <= l /\ l <= c /\ c <= 9223372036854775807 /\ bytes * c <= 2 ^ 48 then if zero.length = size then do
        let b <- newObj (.cells (kd c.toNat zero).toArray t);pure (.value (.slice (some ⟨b, 0, none⟩) l.toNat c.toNat))
      else stuck "size" else stuck "size"
    | _, _ => stuck "size"
  | .rangeS x => some <| match ρ x with
    | .string s => do let b <- newObj (.stringIter s 0);pure (.value (.pointer (some ⟨b, 0, none⟩)))
    | _ => stuck "string"
  | .rangeM x => some <| match ρ x with
    | .map none => do let b <- newObj (.mapIter none 0 #[] 0);pure (.value (.pointer (some ⟨b, 0, none⟩)))
    | .map (some m) => do let (_, clock) <- wQ (.map (some m));let b <- newObj (.mapIter (some m) clock #[] clock);pure (.value (.pointer (some ⟨b, 0, none⟩)))
    | _ => stuck "map"
  | .s2b t x => some <| match ρ x with
    | .string s => do let v <- Conv.stringToBytes t s;pure (.value v)
    | _ => stuck "string"
  | .store n x v => some do let a ← Instr.sureAddr (ρ x); if (ρ v).cells.size = n then (do storeCells a (ρ v).cells.toList; pure .skip) else stuck "size"
  | .mapupd sk m key v => some <| match ρ m with
    | .map (some r) => do
      let (es, clock) <- wQ (.map (some r))
      match findK sk (ρ key) es.toList 0 with
      | some (some (i, _)) => do
        let key <- Instr.keyThatStays (((es[i]?).map (·.key)).getD (ρ key)) (ρ key)
        setObj r (.map (es.modify i fun e => { e with key, val := ρ v }) clock);pure .skip
      | some none => do setObj r (.map (es.push { key := ρ key, val := ρ v, born := clock }) (clock + 1));pure .skip
      | none => stuck "key"
    | _ => stuck "map"
  | .delete sk m key => some <| match ρ m with
    | .map (some r) => do
      let (es, clock) <- wQ (.map (some r))
      match findK sk (ρ key) es.toList 0 with
      | some (some (i, _)) => do setObj r (.map (es.eraseIdxIfInBounds i) clock);pure (.value (.tuple #[]))
      | some none => do setObj r (.map es clock);pure (.value (.tuple #[]))
      | none => stuck "key"
    | .map none => pure (.value (.tuple #[]))
    | _ => stuck "map"
  | .append t size bytes zero s x => some <| match ρ s, seqLen (ρ x) with
    | .slice base n c, some m =>
      if n + m <= c then do
        let new <- Builtin.firstCells size m (ρ x)
        if let some a := base then storeCells (a.add (n * size)) new.toList
        pure (.value (.slice base (n + m) c))
      else if Builtin.nextslicecap (n + m) c * bytes > 2 ^ 48 ∨ bytes = 0 then stuck "size" else do
        let cap <- choose (.appendCap (n + m) c t)
        let old <- Builtin.firstCells size n (ρ s)
        let new <- Builtin.firstCells size m (ρ x)
        let b <- newObj (.cells (old ++ new ++ (kd (cap - (n + m)) zero).toArray) t)
        pure (.value (.slice (some ⟨b, 0, none⟩) (n + m) cap))
    | _, _ => stuck "append"
  | .grow t size bytes zero s x => some <| match ρ s, ρ x with
    | .slice base n c, .int _ l =>
      if l < 0 ∨ l * bytes > 2 ^ 48 ∨ IntKind.i64.wrap l ≠ l ∨ size = 0 then stuck "grow" else
      if n + l.toNat <= c then do
        if let some a := base then storeCells (a.add (n * size)) (kd l.toNat zero)
        pure (.value (.slice base (n + l.toNat) c))
      else if Builtin.nextslicecap (n + l.toNat) c * bytes > 2 ^ 48 ∨ bytes = 0 ∨ ((n + l.toNat : Nat) : Int) > IntKind.i64.max then stuck "size" else do
        let cap <- choose (.appendCap (n + l.toNat) c t)
        let old <- Builtin.firstCells size n (ρ s)
        let b <- newObj (.cells (old ++ (kd l.toNat zero).toArray ++ (kd (cap - (n + l.toNat)) zero).toArray) t)
        pure (.value (.slice (some ⟨b, 0, none⟩) (n + l.toNat) cap))
    | _, _ => stuck "grow"
  | .copy size d s => some <| match ρ d, seqLen (ρ s) with
    | .slice base n _, some m => do
      let cells <- Builtin.firstCells size (Nat.min m n) (ρ s)
      if let some a := base then storeCells a cells.toList
      pure (.value (.int .i64 (Nat.min m n)))
    | _, _ => stuck "copy"
  | .clr zero x => some <| match ρ x with
    | .slice base n _ => do
      if let some a := base then storeCells a (kd n zero)
      pure (.value (.tuple #[]))
    | _ => stuck "clear"
  | .next it s => some do let v <- Instr.next (ρ it) s 0;pure (.value v)
  | _ => none
section
variable {P : Program} {ρ : Operand -> Value} {w w' : World} {n : Next} {r : R} {s : Sem Next}
theorem sameNow_of {d : TypeDesc} {sk : SK} (h : skOf d = some sk) (a b : Value) : Instr.sameNow d a b = sameK sk a b := by
  cases d <;> simp [skOf] at h <;> subst h <;> cases a <;> cases b <;> simp [Instr.sameNow, sameK];rename_i a b;rw [beq_toListBytes, str_eq]
theorem findNow_of {d : TypeDesc} {sk : SK} (h : skOf d = some sk) (k : Value) : ∀ (es : List MapEntry) (i : Nat), Instr.findNow d k es i = findK sk k es i := by
  intro es
  induction es with
  | nil => intro i;rfl
  | cons e es ih =>
    intro i;simp only [Instr.findNow, findK, sameNow_of h, ih];split <;> simp_all
theorem wW {t : TypeId} {d : TypeDesc} {sk : SK} (ht : P.underlying t = some d) (h : skOf d = some sk) (e : Bool) (v : Value) : (Instr.checkKey e 10000 t v).run P w = .ok () w := by
  show (Instr.checkKey e (9999 + 1) t v).run P w = _;generalize 9999 = n;cases d <;> simp [skOf] at h <;> cases v <;> simp [Instr.checkKey, kF ht]
theorem zb {t : TypeId} {d : TypeDesc} {sk : SK} (ht : P.underlying t = some d) (h : skOf d = some sk) {k : Value} {es : List MapEntry} {r : Option (Nat × Value)} (hf : findK sk k es 0 = some r) :
    (Instr.findKey t k es).run P w = .ok r w := by
  simp [Instr.findKey, kF ht, findNow_of h, hf]
theorem sk_of {t : TypeId} {sk : SK} (h : (P.underlying t).bind skOf = some sk) : ∃ d, P.underlying t = some d /\ skOf d = some sk := Option.bind_eq_some_iff.1 h
theorem zeroRow_eq (n : Nat) (z : Array Value) : (kd n z.toList).toArray = (Array.range (n * z.size)).map (z[· % z.size]!) := by
  apply Array.toList_inj.1;simp only [kd, Array.toList_map, Array.toList_range, Array.length_toList];apply List.map_congr_left;intro a _;rw [getElem!_def, getElem!_def];simp
theorem zh (n : Nat) (z : Array Value) : (kd n z.toList).toArray = Builtin.zeroCells z n := by
  rw [zeroRow_eq];rfl
theorem run_entries {x : Value} {es : Array MapEntry} {c : Nat} (h : (wQ x).run P w = .ok (es, c) w') :
    w' = w /\ ((x = .map none /\ es = #[] /\ c = 0) ∨ ∃ r, x = .map (some r) /\ (getObj r).run P w = .ok (.map es c) w) := by
  unfold wQ at h;split at h
  · simp at h;obtain ⟨⟨rfl, rfl⟩, rfl⟩ := h;exact ⟨rfl, .inl ⟨rfl, rfl, rfl⟩⟩
  · rename_i r;simp only [Sem.run_bind] at h;have hw : ∀ o w1, (getObj r).run P w = .ok o w1 -> w1 = w := by
      intro o w1 h;simp only [getObj, Sem.run] at h;split at h <;> first | (cases h;done) | (cases h;rfl)
    cases hg : (getObj r).run P w with
    | halt x w1 => rw [hg] at h;simp at h
    | ok o w1 =>
      rw [hg] at h;obtain rfl := hw _ _ hg;simp only [Result.andThen_ok] at h;cases o <;> simp at h;obtain ⟨⟨rfl, rfl⟩, rfl⟩ := h;exact ⟨rfl, .inr ⟨r, rfl, hg⟩⟩
  · simp at h
theorem jA {α β : Type} {x : Result α} {f : α -> World -> Result β} {b : β} {w2 : World} (h : x.andThen f = .ok b w2) : ∃ a w1, x = .ok a w1 /\ f a w1 = .ok b w2 := by
  cases x with
  | ok a w1 => exact ⟨a, w1, rfl, h⟩
  | halt h w1 => simp at h
theorem ke {α β γ : Type} (x : Result α) (f : α -> World -> Result β) (g : β -> World -> Result γ) : (x.andThen f).andThen g = x.andThen fun a w => (f a w).andThen g := by
  cases x <;> rfl
theorem upd_aux {t kt e : TypeId} {sk : SK} {d : TypeDesc} {m k v : Operand}
    (hu : P.underlying t = some (.map kt e)) (hd : P.underlying kt = some d) (hdk : skOf d = some sk) (hr : (match ρ m with
    | .map (some r) => do
      let (es, clock) <- wQ (.map (some r))
      match findK sk (ρ k) es.toList 0 with
      | some (some (i, _)) => do
        let key <- Instr.keyThatStays (((es[i]?).map (·.key)).getD (ρ k)) (ρ k)
        setObj r (.map (es.modify i fun e => { e with key, val := ρ v }) clock);pure .skip
      | some none => do setObj r (.map (es.push { key := ρ k, val := ρ v, born := clock }) (clock + 1));pure .skip
      | none => stuck "key"
    | _ => stuck "map" : Sem Next).run P w = .ok n w') : (do Instr.mapUpdate t (ρ m) (ρ k) (ρ v); pure .skip : Sem Next).run P w = .ok n w' := by
  split at hr
  case h_2 => simp at hr
  rename_i q hx;simp only [Sem.run_bind] at hr;obtain ⟨⟨es, c⟩, w1, h1, h2⟩ := jA hr;obtain ⟨rfl, hx2⟩ := run_entries h1;simp at hx2;simp only at h2;split at h2
  · rename_i i v' hf;simp only [Instr.mapUpdate, Sem.run_bind, kF hu, Result.andThen_ok, hx, hx2, wW hd hdk, zb hd hdk hf];simpa [ke] using h2
  · rename_i hf;simp only [Instr.mapUpdate, Sem.run_bind, kF hu, Result.andThen_ok, hx, hx2, wW hd hdk, zb hd hdk hf];simpa [ke] using h2
  · simp at h2
set_option maxHeartbeats 1000000 in
theorem mem_sound {o : Oper} (hρ : ∀ u, ρ (.const u) = u) (hl : kz P o.op = some r) (hs : jz ρ r = some s) (hr : s.run P w = .ok n w') : (execOp ρ o).run P w = .ok n w' := by
  obtain ⟨dst, op, type, pos, after, guard⟩ := o;simp only at hl;cases op
  case load t x =>
    simp only [kz] at hl;split at hl <;> cases hl
    · rename_i i hu hi;simp only [jz, Option.some.injEq] at hs;subst hs;simpa [execOp, Instr.loadAt, loadVar, wa hu, kX hi, ke] using hr
    · rename_i i hu hi;simp only [jz, Option.some.injEq] at hs;subst hs;simpa [execOp, Instr.loadAt, loadVar, wa hu, kX hi, ke] using hr
    · rename_i d j h1 h2 hu hj;simp only [jz, Option.some.injEq] at hs;subst hs;have ha : ∀ w, (isAgg t).run P w = .ok false w := by intro w;rw [wa hu];cases d <;> simp_all
      simpa [execOp, Instr.loadAt, loadVar, ha] using hr
  case store t x v =>
    simp only [kz, Option.map_eq_some_iff] at hl;obtain ⟨i, hi, rfl⟩ := hl;simp only [jz, Option.some.injEq] at hs;subst hs;simp only [Sem.run_bind] at hr;obtain ⟨a, w1, h1, h2⟩ := jA hr;split at h2
    · rename_i hz;simp only [execOp, Instr.storeAt, storeVar, Sem.run_bind, h1, Result.andThen_ok, kX hi, hz];simpa [hz] using h2
    · simp at h2
  case alloc t =>
    simp only [kz, Option.map_eq_some_iff] at hl;obtain ⟨z, hz, rfl⟩ := hl;obtain ⟨i, u, hi, hu, rfl⟩ := zero_of hz;simp only [jz, Option.some.injEq] at hs;subst hs;simpa [execOp, Instr.alloc, kg hi hu, newVar, newRow] using hr
  case box t x =>
    simp only [kz, Option.some.injEq] at hl;subst hl;simp only [jz, Option.some.injEq] at hs;subst hs;simpa [execOp, Instr.box, newVar, newRow] using hr
  case buildSlice t len parts =>
    simp only [kz] at hl;split at hl <;> try (cases hl;done)
    rename_i e hu;split at hl <;> try (cases hl;done)
    rename_i i z hi hz;split at hl <;> try (cases hl;done)
    rename_i hle;obtain ⟨h24, hzl⟩ := hle;simp only [Option.map_eq_some_iff] at hl;obtain ⟨l, hlp, rfl⟩ := hl;obtain ⟨i', u, hi', hu', rfl⟩ := zero_of hz;rw [hi] at hi';cases hi';simp only [jz, Option.some.injEq] at hs;subst hs;split at hr
    case h_2 => simp at hr
    rename_i out ho;have hfill := run_fill (ρ := ρ) (fun j => some (j * i.size, i.size)) parts.toList l _ out hlp ho;have hparts : (parts.map fun p => (p.1, ρ p.2)).toList = parts.toList.map fun p => (p.1, ρ p.2) := by simp
    have hsz : u.cells.size = i.size := by simpa using hzl
    rw [zeroRow_eq, hsz] at hfill;have hb : (Instr.buildSlice t len (parts.map fun p => (p.1, ρ p.2))).run P w = ((newObj (.cells out.toArray e)).run P w).andThen fun b w => .ok (.slice (some ⟨b, 0, none⟩) len len) w := by
      simp only [Instr.buildSlice, Sem.run_bind, kF hu, Result.andThen_ok, kX hi, show ¬ (len * i.size > 2 ^ 24) by omega, if_false, hparts];by_cases h0 : len * i.size = 0
      · have e1 : (Array.range (len * i.size)).map (u.cells[· % i.size]!) = (Array.range (len * i.size)).map ((#[] : Array Value)[· % (#[] : Array Value).size]!) := by rw [h0];simp
        rw [e1] at hfill;simp only [if_pos h0, Sem.run_bind, Sem.run_pure, Result.andThen_ok];rw [hfill];simp [newRow]
      · rw [<- hsz] at hfill;simp only [if_neg h0, Sem.run_bind, kg hi hu', Sem.run_pure, Result.andThen_ok];rw [<- hsz, hfill];simp [newRow]
    simp only [execOp, Sem.run_bind, hb];simpa [ke] using hr
  case makeMap t h =>
    simp only [kz] at hl;split at hl <;> try (cases hl;done)
    rename_i k e hu;split at hl <;> cases hl
    · simp only [jz, Option.some.injEq] at hs;subst hs;simpa [execOp, Instr.makeMap, ke] using hr
    · simp only [jz, Option.some.injEq] at hs;subst hs;simpa [execOp, Instr.makeMap, ke, kF hu, hρ, asInt, asIntOf] using hr
  case makeSlice t l c =>
    simp only [kz] at hl;split at hl <;> try (cases hl;done)
    rename_i e hu;split at hl <;> cases hl;rename_i i z hi hz;obtain ⟨i', u, hi', hu', rfl⟩ := zero_of hz;rw [hi] at hi';cases hi';simp only [jz, Option.some.injEq] at hs;subst hs;split at hr
    case h_2 => simp at hr
    rename_i kl l' kc c' hl' hc';split at hr
    case isFalse => simp at hr
    rename_i hb;obtain ⟨b1, b2, b3, b4⟩ := hb;split at hr
    case isFalse => simp at hr
    rename_i hzl;have wl : IntKind.i64.wrap l' = l' := by
      simp only [IntKind.wrap, IntKind.bits, IntKind.signed];simp;omega
    have wc : IntKind.i64.wrap c' = c' := by
      simp only [IntKind.wrap, IntKind.bits, IntKind.signed];simp;omega
    have hbig : ((decide (c' < 0) || decide ((i.bytes : Int) * c' > 2 ^ 48)) || decide (l' < 0) || decide (l' > c')) = false := by
      simp;omega
    have hsz : u.cells.size = i.size := by simpa using hzl
    have hm : (Instr.makeSlice t (ρ l) (ρ c)).run P w = ((newObj (.cells (kd c'.toNat u.cells.toList).toArray e)).run P w).andThen fun b w => .ok (.slice (some ⟨b, 0, none⟩) l'.toNat c'.toNat) w := by
      simp only [Instr.makeSlice, Sem.run_bind, kF hu, Result.andThen_ok, hl', hc', asInt, asIntOf, Sem.run_pure, w8 hi, wl, wc, hbig, Bool.false_eq_true, if_false, run_askRoom, kX hi];rw [zeroRow_eq, hsz];by_cases h0 : c'.toNat * i.size = 0
      · simp only [if_pos h0, Sem.run_bind, Sem.run_pure, Result.andThen_ok];have e0 : Array.range (c'.toNat * i.size) = #[] := by rw [h0];rfl
        simp only [e0];simp [newRow]
      · simp only [if_neg h0, Sem.run_bind, kg hi hu', Sem.run_pure, Result.andThen_ok];simp [newRow, hsz]
    simp only [execOp, Sem.run_bind, hm];simpa [ke] using hr
  case lookup t m k ok =>
    simp only [kz] at hl;split at hl <;> try (cases hl;done)
    rename_i kt e hu;split at hl <;> cases hl;rename_i sk z hsk hz;obtain ⟨d, hd, hdk⟩ := sk_of hsk;obtain ⟨i, hi, hiz⟩ := Option.bind_eq_some_iff.1 hz;simp only [jz, Option.some.injEq] at hs;subst hs;simp only [Sem.run_bind] at hr;obtain ⟨⟨es, c⟩, w1, h1, h2⟩ := jA hr;obtain ⟨rfl, hx⟩ := run_entries h1;simp only at h2;split at h2
    case h_2 => simp at h2
    rename_i r hf;have hl : (Instr.lookup t (ρ m) (ρ k) ok).run P w1 = .ok (lookRes ok z r) w1 := by
      rcases hx with ⟨hx, rfl, rfl⟩ | ⟨q, hx, hq⟩
      · rw [hx];simp only [Instr.lookup, Sem.run_bind, kF hu, Result.andThen_ok, Sem.run_pure, wW hd hdk, zb hd hdk hf];cases r with
        | none => simp [kg hi hiz, lookRes]
        | some p => obtain ⟨j, v⟩ := p;simp [lookRes]
      · rw [hx];simp only [Instr.lookup, Sem.run_bind, kF hu, Result.andThen_ok, Sem.run_pure, wW hd hdk, hq, zb hd hdk hf];cases r with
        | none => simp [kg hi hiz, lookRes]
        | some p => obtain ⟨j, v⟩ := p;simp [lookRes]
    simp only [execOp, Sem.run_bind, hl, Result.andThen_ok];exact h2
  case mapUpdate t m k v =>
    simp only [kz] at hl;split at hl <;> try (cases hl;done)
    rename_i kt e hu;simp only [Option.map_eq_some_iff] at hl;obtain ⟨sk, hsk, rfl⟩ := hl;obtain ⟨d, hd, hdk⟩ := sk_of hsk;simp only [jz, Option.some.injEq] at hs;subst hs;exact upd_aux hu hd hdk hr
  case insert t m k v =>
    simp only [kz] at hl;split at hl <;> try (cases hl;done)
    rename_i kt e hu;simp only [Option.map_eq_some_iff] at hl;obtain ⟨sk, hsk, rfl⟩ := hl;obtain ⟨d, hd, hdk⟩ := sk_of hsk;simp only [jz, Option.some.injEq] at hs;subst hs;exact upd_aux hu hd hdk hr
  case range t x =>
    simp only [kz] at hl;split at hl <;> cases hl
    · rename_i hu;simp only [jz, Option.some.injEq] at hs;subst hs;split at hr
      case h_2 => simp at hr
      rename_i s hx;simpa [execOp, Instr.range, kF hu, hx, ke] using hr
    · rename_i k e hu;simp only [jz, Option.some.injEq] at hs;subst hs;split at hr
      · rename_i hx;simpa [execOp, Instr.range, kF hu, hx, ke] using hr
      · rename_i q hx;simp only [Sem.run_bind] at hr;obtain ⟨⟨es, c⟩, w1, h1, h2⟩ := jA hr;obtain ⟨rfl, hx2⟩ := run_entries h1;simp at hx2;simpa [execOp, Instr.range, kF hu, hx, ke, hx2] using h2
      · simp at hr
  case next it s =>
    simp only [kz, Option.some.injEq] at hl;subst hl;simp only [jz, Option.some.injEq] at hs;subst hs;have : Instr.next (ρ it) s type = Instr.next (ρ it) s 0 := rfl;simpa [execOp, this] using hr
  case entry it =>
    simp only [kz, Option.some.injEq] at hl;subst hl;simp only [jz, Option.some.injEq] at hs;subst hs;simpa [execOp] using hr
  case convert s d x =>
    simp only [kz] at hl;split at hl <;> try (cases hl;done)
    · cases hl;simp [jz] at hs
    · cases hl;simp [jz] at hs
    · rename_i e hus hud;split at hl <;> cases hl;rename_i hue;simp only [jz, Option.some.injEq] at hs;subst hs;split at hr
      case h_2 => simp at hr
      rename_i b hx;simpa [execOp, Go.convert, kF hus, kF hud, hx, kF hue] using hr
    · rename_i e hus hud;split at hl <;> cases hl;rename_i hue;simp only [jz, Option.some.injEq] at hs;subst hs;simp only [Sem.run_bind] at hr;obtain ⟨b, w1, h1, h2⟩ := jA hr;have : (Go.convert s d (ρ x)).run P w = .ok b w1 := by
        cases hx : ρ x with
        | slice a n c => rw [hx] at h1;simpa [Go.convert, kF hus, kF hud, kF hue] using h1
        | _ => rw [hx] at h1;simp [Conv.bytesToString] at h1
      simpa [execOp, this] using h2
  case call c =>
    obtain ⟨callee, args, ats⟩ := c;obtain ⟨args⟩ := args;obtain ⟨ats⟩ := ats;simp only [kz] at hl;split at hl
    · split at hl <;> cases hl;simp [jz] at hs
    · cases hl;simp [jz] at hs
    · split at hl <;> try (cases hl;done)
      rename_i x t;split at hl <;> cases hl <;> simp only [jz] at hs <;> try (cases hs;done)
      rename_i k e hu;simp only [Option.some.injEq] at hs;subst hs;simp only [Sem.run_bind] at hr;obtain ⟨⟨es, c⟩, w1, h1, h2⟩ := jA hr;obtain ⟨rfl, hx⟩ := run_entries h1;rcases hx with ⟨hx, rfl, rfl⟩ | ⟨q, hx, hq⟩
      · simpa [execOp, resolve, invoke, Go.builtin, Builtin.len_, kF hu, hx, goInt] using h2
      · simpa [execOp, resolve, invoke, Go.builtin, Builtin.len_, kF hu, hx, hq, goInt] using h2
    · split at hl <;> try (cases hl;done)
      split at hl <;> cases hl <;> simp [jz] at hs
    · split at hl <;> cases hl;simp [jz] at hs
    · split at hl <;> cases hl;simp [jz] at hs
    · split at hl <;> try (cases hl;done)
      rename_i sx x t xt;split at hl <;> try (cases hl;done)
      rename_i e hu;split at hl <;> try (cases hl;done)
      rename_i i z hi hz;split at hl
      case isFalse =>
        split at hl
        case isFalse => cases hl
        rename_i hq;cases hl;obtain ⟨i', u, hi', hu', rfl⟩ := zero_of hz;rw [hi] at hi';cases hi';obtain ⟨ut, xr, k, hxt, hut⟩ : ∃ ut xr k, xt = ut :: xr /\ P.underlying ut = some (.int k) := by
          cases xt with
          | nil => simp [isIntL] at hq
          | cons ut xr =>
            simp only [isIntL] at hq;split at hq
            · rename_i k h;exact ⟨ut, xr, k, rfl, h⟩
            · cases hq
        subst hxt;simp only [jz, Option.some.injEq] at hs;subst hs;split at hr
        case h_2 => simp at hr
        rename_i base n0 c0 k0 l hsx hlx;split at hr
        case isTrue => simp at hr
        rename_i hbad;have hb0 : ¬ l < 0 := fun h => hbad (.inl h)
        have hb1 : ¬ (l * i.bytes > 2 ^ 48) := fun h => hbad (.inr (.inl h))
        have hb2 : IntKind.i64.wrap l = l := Classical.byContradiction fun h => hbad (.inr (.inr (.inl h)))
        have hsz : i.size ≠ 0 := fun h => hbad (.inr (.inr (.inr h)))
        have happ : ∀ (n : Nat) (w : World), (if n * i.size = 0 then pure #[] else do pure (Builtin.zeroCells (<- zeroValue e).cells n) : Sem (Array Value)).run P w = .ok (kd n u.cells.toList).toArray w := by
          intro n w;by_cases h0 : n * i.size = 0
          · obtain rfl : n = 0 := by
              rcases Nat.mul_eq_zero.1 h0 with h | h
              · exact h
              · exact absurd h hsz
            simp [kd]
          · simp [h0, kg hi hu', zh]
        have hasint : (asInt (.int k0 l)).run P w = .ok l w := by simp [asInt, asIntOf]
        simp only [execOp, resolve, invoke, Go.builtin, Sem.run_bind, List.map_toArray, List.map_cons, List.map_nil, Sem.run_pure, Result.andThen_ok];simp only [Builtin.append_, List.getElem?_toArray, List.getElem?_cons_zero, List.getElem?_cons_succ, Sem.run_bind, kF hu, kF hut, Result.andThen_ok, hsx, hlx, hasint, Sem.run_pure, kX hi, if_true, hb2];simp only [hb0, if_false, Sem.run_bind, w8 hi, Result.andThen_ok, hb1, Sem.run_pure, Bool.not_true, Bool.false_eq_true];by_cases hle : n0 + l.toNat <= c0
        · simp only [hle, if_true, Sem.run_bind] at hr |-;rw [happ];cases base <;> simpa [ke] using hr
        · simp only [hle, if_false] at hr |-;split at hr
          case isTrue => simp at hr
          rename_i hbig;have g1 : ¬ (Builtin.nextslicecap (n0 + l.toNat) c0 * i.bytes > 2 ^ 48) := fun h => hbig (.inl h)
          have g2 : ¬ (((n0 + l.toNat : Nat) : Int) > IntKind.i64.max) := fun h => hbig (.inr (.inr h))
          simp only [Sem.run_bind, w8 hi, Result.andThen_ok, g2, false_and, g1, if_false, run_askRoom];simp only [Sem.run_bind] at hr;rw [<- hsx];simp only [happ, Result.andThen_ok];simpa [ke, newRow, kg hi hu', <- zh] using hr
      cases hl;rename_i hq;obtain ⟨i', u, hi', hu', rfl⟩ := zero_of hz;rw [hi] at hi';cases hi';obtain ⟨ut, xr, hxt, hseq⟩ : ∃ ut xr, xt = ut :: xr /\ ((∃ e', P.underlying ut = some (.slice e')) ∨ P.underlying ut = some .string) := by
        cases xt with
        | nil => simp [isSeq] at hq
        | cons ut xr =>
          refine ⟨ut, xr, rfl, ?_⟩;simp only [isSeq] at hq;split at hq
          · rename_i e' h;exact .inl ⟨e', h⟩
          · rename_i h;exact .inr h
          · cases hq
      subst hxt;simp only [jz, Option.some.injEq] at hs;subst hs;split at hr
      case h_2 => simp at hr
      rename_i base n0 c0 m0 hsx hlx;have hlen : (Builtin.lenOf (ρ x)).run P w = .ok m0 w := by
        cases hx : ρ x <;> rw [hx] at hlx <;> simp [seqLen] at hlx <;> subst hlx <;> simp [Builtin.lenOf]
      have hz : (do pure ((<- underlying ut) matches .int _) : Sem Bool).run P w = .ok false w := by
        rcases hseq with ⟨e', h⟩ | h <;> simp [kF h]
      have happ : Builtin.append_ (t :: ut :: xr).toArray type #[ρ sx, ρ x] = Builtin.append_ (t :: ut :: xr).toArray type #[ρ sx, ρ x] := rfl;simp only [execOp, resolve, invoke, Go.builtin, Sem.run_bind, List.map_toArray, List.map_cons, List.map_nil, Sem.run_pure, Result.andThen_ok];simp only [Builtin.append_, List.getElem?_toArray, List.getElem?_cons_zero, List.getElem?_cons_succ, Sem.run_bind, kF hu, Result.andThen_ok, hsx, kX hi];simp only [Sem.run_bind, Sem.run_pure] at hz;have hfirst : ∀ n : Nat, (if (!false) = true then Builtin.firstCells i.size n (ρ x) else if n * i.size = 0 then pure #[] else do pure (Builtin.zeroCells (<- zeroValue e).cells n) : Sem (Array Value)) = Builtin.firstCells i.size n (ρ x) := fun _ => rfl
      rcases hseq with ⟨e', hut⟩ | hut
      all_goals
        simp only [kF hut, Result.andThen_ok, Sem.run_pure, Bool.false_eq_true, if_false, Sem.run_bind, hlen];by_cases hle : n0 + m0 <= c0
        · simp only [hle, if_true, Sem.run_bind] at hr |-;simp only [Bool.not_false, if_true];cases base <;> simpa [ke] using hr
        · simp only [hle, if_false] at hr |-;split at hr
          case isTrue => simp at hr
          rename_i hbig;have hb1 : ¬ (Builtin.nextslicecap (n0 + m0) c0 * i.bytes > 2 ^ 48) := fun h => hbig (.inl h)
          have hb2 : ¬ (i.bytes = 0) := fun h => hbig (.inr h)
          simp only [Sem.run_bind, w8 hi, Result.andThen_ok, false_or, hb2, and_false, hb1, if_false, Bool.not_false, if_true, run_askRoom, kg hi hu', <- zh];simp only [Sem.run_bind] at hr;rw [<- hsx];simpa [ke, newRow, kg hi hu', <- zh] using hr
    · split at hl <;> try (cases hl;done)
      rename_i dx sx t xt;split at hl <;> try (cases hl;done)
      rename_i e hu;simp only [Option.map_eq_some_iff] at hl;obtain ⟨i, hi, rfl⟩ := hl;simp only [jz, Option.some.injEq] at hs;subst hs;split at hr
      case h_2 => simp at hr
      rename_i base n0 c0 m0 hdx hlx;have hlen : (Builtin.lenOf (ρ sx)).run P w = .ok m0 w := by
        cases hx : ρ sx <;> rw [hx] at hlx <;> simp [seqLen] at hlx <;> subst hlx <;> simp [Builtin.lenOf]
      simp only [execOp, resolve, invoke, Go.builtin, Sem.run_bind, List.map_toArray, List.map_cons, List.map_nil, Sem.run_pure, Result.andThen_ok];simp only [Builtin.copy_, List.getElem?_toArray, List.getElem?_cons_zero, List.getElem?_cons_succ, Sem.run_bind, kF hu, Result.andThen_ok, hdx, kX hi, hlen];simp only [Sem.run_bind] at hr;cases base <;> simpa [ke, goInt] using hr
    · split at hl <;> try (cases hl;done)
      rename_i cx t;split at hl <;> try (cases hl;done)
      rename_i e hu;simp only [Option.map_eq_some_iff] at hl;obtain ⟨z, hz, rfl⟩ := hl;obtain ⟨i', u, hi', hu', rfl⟩ := zero_of hz;simp only [jz, Option.some.injEq] at hs;subst hs;split at hr
      case h_2 => simp at hr
      rename_i base n0 c0 hcx;simp only [execOp, resolve, invoke, Go.builtin, Sem.run_bind, List.map_toArray, List.map_cons, List.map_nil, Sem.run_pure, Result.andThen_ok];simp only [Builtin.clear_, List.getElem?_toArray, List.getElem?_cons_zero, Sem.run_bind, kF hu, Result.andThen_ok, hcx];cases base with
      | none => simpa using hr
      | some a =>
        cases n0 with
        | zero => simpa [kd, storeCells] using hr
        | succ m => simpa [kg hi' hu', <- zh, ke] using hr
    · split at hl <;> try (cases hl;done)
      rename_i mx kx t xt;split at hl <;> try (cases hl;done)
      rename_i kt e hu;simp only [Option.map_eq_some_iff] at hl;obtain ⟨sk, hsk, rfl⟩ := hl;obtain ⟨d, hd, hdk⟩ := sk_of hsk;simp only [jz, Option.some.injEq] at hs;subst hs;simp only [execOp, resolve, invoke, Go.builtin, Sem.run_bind, List.map_toArray, List.map_cons, List.map_nil, Sem.run_pure, Result.andThen_ok];simp only [Builtin.delete_, List.getElem?_toArray, List.getElem?_cons_zero, List.getElem?_cons_succ, Sem.run_bind, kF hu, Result.andThen_ok];split at hr
      · rename_i q hx;simp only [Sem.run_bind] at hr;obtain ⟨⟨es, c⟩, w1, h1, h2⟩ := jA hr;obtain ⟨rfl, hx2⟩ := run_entries h1;simp at hx2;simp only at h2;split at h2
        · rename_i j v' hf;simp only [hx, Sem.run_bind, hx2, Result.andThen_ok, wW hd hdk, zb hd hdk hf];simpa [ke] using h2
        · rename_i hf;simp only [hx, Sem.run_bind, hx2, Result.andThen_ok, wW hd hdk, zb hd hdk hf];simpa [ke] using h2
        · simp at h2
      · rename_i hx;simp only [hx, Sem.run_bind, wW hd hdk, Result.andThen_ok];simpa using hr
      · simp at hr
    · cases hl
  all_goals (try simp only [kz] at hl)
  all_goals (repeat' split at hl)
  all_goals first
    | (cases hl;done)
    | (cases hl;simp [jz] at hs;done)
    | (simp only [Option.map_eq_some_iff] at hl;obtain ⟨_, _, rfl⟩ := hl;simp [jz] at hs;done)
end
end Go.V
namespace Go.V
open Go
section
variable {P : Program} {ρ : Operand -> Value} {H : List kE} {K : Next -> List kE -> Prop}
theorem kW (b : Nat) (us vs : List Value) : ∀ o, kA b o (us ++ vs) = kA b o us ++ kA b (o + us.length) vs := by
  induction us with
  | nil => intro o;simp [kA]
  | cons u us ih => intro o;simp only [List.cons_append, kA, ih, List.length_cons];congr 3;omega
theorem swp_loadFrom {b o : Nat} {K : Array Value -> List kE -> Prop} : ∀ (vs : List Value) (i : Nat) (acc : Array Value), (∀ x ∈ kA b (o + i) vs, x ∈ H) -> K (acc ++ vs.toArray) H ->
    SWP P (loadCellsFrom ⟨b, o, none⟩ i vs.length acc) H K := by
  intro vs
  induction vs with
  | nil => intro i acc _ h;exact SWP.pure (by simpa using h)
  | cons v vs ih =>
    intro i acc hm h;simp only [List.length_cons, loadCellsFrom, add_off];refine SWP.bind (SWP.load (v := v) (hm _ Zan) ?_);refine ih (i + 1) (acc.push v) (fun x hx => hm x (by simp only [kA, List.mem_cons];exact .inr hx)) ?_;have : acc.push v ++ vs.toArray = acc ++ (v :: vs).toArray := by simp
    rw [this];exact h
theorem SWP.loadCells {b o n : Nat} {vs : List Value} {K : Array Value -> List kE -> Prop} (hn : vs.length = n) (hm : ∀ x ∈ kA b o vs, x ∈ H) (h : K vs.toArray H) : SWP P (Go.loadCells ⟨b, o, none⟩ n) H K := by
  subst hn;exact swp_loadFrom vs 0 #[] (by simpa using hm) (by simpa using h)
theorem swp_storeFrom {b o : Nat} {K : Unit -> List kE -> Prop} : ∀ (vs us : List Value) (i : Nat) (L : List kE), vs.length = us.length -> (∀ v ∈ vs, zj v = true) ->
    (∀ L', L'.Perm (kA b (o + i) vs ++ L) -> K () L') -> ∀ M : List kE, M.Perm (kA b (o + i) us ++ L) -> SWP P (storeCells ⟨b, o, none⟩ vs i) M K := by
  intro vs
  induction vs with
  | nil =>
    intro us i L hl _ h M hM;cases us <;> simp at hl;exact SWP.pure (h M (by simpa [kA] using hM))
  | cons v vs ih =>
    intro us i L hl hone h M hM;cases us with
    | nil => simp at hl
    | cons u us =>
      simp only [storeCells, add_off];refine SWP.perm hM (SWP.bind ?_);simp only [kA, List.cons_append];refine SWP.store (hone v Zs) ?_;refine ih us (i + 1) (.cell b (o + i) v :: L) (by simpa using hl) (fun x hx => hone x (by simp [hx])) (fun L' hL' => h L' ?_) _ ?_
      · refine hL'.trans ?_;simp only [kA, List.cons_append, Nat.add_assoc];exact List.perm_middle
      · simp only [Nat.add_assoc];exact List.perm_middle.symm
theorem SWP.storeCells {b o : Nat} {vs us : List Value} {R : List kE} {K : Unit -> List kE -> Prop} (hl : vs.length = us.length) (hone : ∀ v ∈ vs, zj v = true)
    (h : K () (kA b o vs ++ R)) : SWP P (Go.storeCells ⟨b, o, none⟩ vs) (kA b o us ++ R) K := by
  have := swp_storeFrom (P := P) (b := b) (o := o) (K := fun _ L => L.Perm (kA b o vs ++ R)) vs us 0 R hl hone (fun L' hL' => by simpa using hL') (kA b o us ++ R) Zs;intro F w hs;obtain ⟨v, w', H', h1, h2, h3, h4⟩ := this F w hs;exact ⟨v, w', _, h1, h, h3.perm (h2.append_right F), h4⟩
def Src (H : List kE) (size n : Nat) (vs : List Value) : Value -> Prop
  | .slice (some ⟨b, o, none⟩) _ _ => vs.length = n * size /\ ∀ x ∈ kA b o vs, x ∈ H
  | .slice none _ _ => vs = []
  | .string s => vs = (s.data.toList.take n).map fun c => .int .u8 c.toNat
  | _ => False
theorem SWP.firstCells {size n : Nat} {x : Value} {vs : List Value} {K : Array Value -> List kE -> Prop} (hx : Src H size n vs x) (h : K vs.toArray H) : SWP P (Builtin.firstCells size n x) H K := by
  unfold Src at hx;split at hx
  · exact SWP.loadCells hx.1 hx.2 h
  · subst hx;exact SWP.pure h
  · rename_i s;subst hx;refine SWP.pure ?_;have : (s.extract 0 n).data.map (fun b => Value.int .u8 b.toNat) = ((s.data.toList.take n).map fun c => Value.int .u8 c.toNat).toArray := by
      apply Array.toList_inj.1;simp [ByteArray.data_extract, Array.toList_extract]
    rw [this];exact h
  · exact hx.elim
theorem mem_store {n : Nat} {x v : Operand} {b o : Nat} {us : List Value} {R : List kE} (hx : ρ x = .pointer (some ⟨b, o, none⟩)) (hn : (ρ v).cells.size = n) (hu : us.length = n) (hone : ∀ c ∈ (ρ v).cells.toList, zj c = true)
    (h : K .skip (kA b o (ρ v).cells.toList ++ R)) :
    SWP P (do let a ← Instr.sureAddr (ρ x); if (ρ v).cells.size = n then (do storeCells a (ρ v).cells.toList; pure .skip) else stuck "size") (kA b o us ++ R) K := by
  rw [hx];refine SWP.bind (SWP.pure ?_);rw [if_pos hn];exact SWP.bind (SWP.storeCells (by simp [hn, hu]) hone (SWP.pure h))
theorem mem_new {c : Array Value} {t : TypeId} {f : Nat -> Next} (h : ∀ b, K (f b) (kA b 0 c.toList ++ H)) : SWP P (do let b <- newObj (.cells c t);pure (f b)) H K :=
  SWP.bind (SWP.new_cells fun b => SWP.pure (h b))
theorem mem_newObj {o : Obj} {f : Nat -> Next} (ho : z9 o = false) (h : ∀ b, K (f b) (.obj b o :: H)) : SWP P (do let b <- newObj o;pure (f b)) H K :=
  SWP.bind (SWP.new_obj ho fun b => SWP.pure (h b))
theorem swp_entries {m c : Nat} {es : Array MapEntry} {α : Type} {f : Array MapEntry × Nat -> Sem α} {K : α -> List kE -> Prop} (hm : kE.obj m (.map es c) ∈ H) (h : SWP P (f (es, c)) H K) : SWP P (wQ (.map (some m)) >>= f) H K := by
  refine SWP.bind ?_;unfold wQ;exact SWP.bind (SWP.getObj hm (SWP.pure h))
theorem swp_key (old new : Value) {K : Value -> List kE -> Prop} (h : ∀ k, k = old ∨ k = new -> K k H) : SWP P (Instr.keyThatStays old new) H K := by
  unfold Instr.keyThatStays;split
  · exact SWP.pure (h _ (.inr rfl))
  · refine SWP.bind (SWP.choose (fun _ => SWP.pure ?_) (fun n => SWP.pure ?_))
    · exact h _ (.inr rfl)
    · split
      · exact h _ (.inr rfl)
      · exact h _ (.inl rfl)
end
end Go.V

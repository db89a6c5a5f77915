/-
  A whole world as memory; what is read of old blocks reads the same behind a call that leaves them.
-/
import Derived.Test.YtffmipimgodfdaaVQ
import Derived.ChangeOld
import Derived.RowKit3
namespace Go.V
open Go

theorem holds_loc {w : World} {a b : Atom} (ha : a.holds w) (hb : b.holds w) (h : a.loc = b.loc) : a = b := by
  cases a with
  | cell i k v =>
    cases b with
    | cell j l u =>
      simp only [Atom.loc, Prod.mk.injEq, Option.some.injEq] at h
      obtain ⟨rfl, rfl⟩ := h
      obtain ⟨c, t, lo, hi, h1, h2, _⟩ := ha
      obtain ⟨c', t', lo', hi', h3, h4, _⟩ := hb
      rw [h1] at h3
      cases h3
      rw [h2] at h4
      cases h4
      rfl
    | obj j o => simp [Atom.loc] at h
  | obj i o =>
    cases b with
    | cell j l u => simp [Atom.loc] at h
    | obj j p =>
      simp only [Atom.loc, Prod.mk.injEq, and_true] at h
      subst h
      have h1 := ha.1
      rw [hb.1] at h1
      cases h1
      rfl

theorem sat_of_list {w : World} : ∀ L : List Atom, (∀ a ∈ L, a.holds w) → ∃ L', Sat w L' ∧ ∀ a ∈ L, a ∈ L' := by
  intro L
  induction L with
  | nil => intro _; exact ⟨[], ⟨by simp, by simp⟩, by simp⟩
  | cons x L ih =>
    intro h
    obtain ⟨L', h1, h2⟩ := ih (fun a ha => h a (by simp [ha]))
    by_cases hx : x.loc ∈ L'.map Atom.loc
    · obtain ⟨y, hy, e⟩ := List.mem_map.1 hx
      have : y = x := holds_loc (h1.holds y hy) (h x (by simp)) e
      subst this
      refine ⟨L', h1, fun a ha => ?_⟩
      rcases List.mem_cons.1 ha with rfl | ha
      · exact hy
      · exact h2 a ha
    · refine ⟨x :: L', ⟨fun a ha => ?_, by simp only [List.map_cons, List.nodup_cons]; exact ⟨hx, h1.nodup⟩⟩, fun a ha => ?_⟩
      · rcases List.mem_cons.1 ha with rfl | ha
        · exact h a (by simp)
        · exact h1.holds a ha
      · rcases List.mem_cons.1 ha with rfl | ha
        · simp
        · simp [h2 a ha]

def blockAtoms (w : World) (i : Nat) : List Atom := match w.heap[i]? with
  | some (.cells c _ (lo, hi)) => (List.range c.size).filterMap fun j => if lo ≤ j ∧ j < hi then none else (c[j]?).map fun v => .cell i j v
  | some o => [.obj i o]
  | none => []

/-- All that lies in a world, but what is frozen. -/
theorem sat_all (w : World) : ∃ L, Sat w L ∧ ∀ a : Atom, a.holds w → a ∈ L := by
  obtain ⟨L, h1, h2⟩ := sat_of_list (w := w) ((List.range w.heap.size).flatMap (blockAtoms w)) (by
    intro a ha
    obtain ⟨i, _, ha⟩ := List.mem_flatMap.1 ha
    unfold blockAtoms at ha
    split at ha
    · rename_i c t lo hi hb
      obtain ⟨j, _, hj⟩ := List.mem_filterMap.1 ha
      split at hj
      · cases hj
      · rename_i hf
        simp only [Option.map_eq_some_iff] at hj
        obtain ⟨v, hv, rfl⟩ := hj
        exact ⟨c, t, lo, hi, hb, hv, hf⟩
    · rename_i o hne hb
      simp only [List.mem_singleton] at ha
      subst ha
      refine ⟨hb, ?_⟩
      cases o <;> first | rfl | (rename_i c t fr; exact absurd rfl (hne c t fr.1 fr.2))
    · cases ha)
  refine ⟨L, h1, fun a ha => h2 a ?_⟩
  cases a with
  | cell i k v =>
    obtain ⟨c, t, lo, hi, hb, hv, hf⟩ := ha
    have hi' : i < w.heap.size := by
      rcases Nat.lt_or_ge i w.heap.size with h | h
      · exact h
      · rw [Array.getElem?_eq_none h] at hb; cases hb
    refine List.mem_flatMap.2 ⟨i, List.mem_range.2 hi', ?_⟩
    unfold blockAtoms
    rw [hb]
    refine List.mem_filterMap.2 ⟨k, List.mem_range.2 (Array.getElem?_eq_some_iff.1 hv).1, ?_⟩
    rw [if_neg hf, hv]; rfl
  | obj i o =>
    obtain ⟨hb, hc⟩ := ha
    have hi' : i < w.heap.size := by
      rcases Nat.lt_or_ge i w.heap.size with h | h
      · exact h
      · rw [Array.getElem?_eq_none h] at hb; cases hb
    refine List.mem_flatMap.2 ⟨i, List.mem_range.2 hi', ?_⟩
    unfold blockAtoms
    rw [hb]
    cases o <;> first | (simp; done) | (simp [isCells] at hc)

/-- Behind a call that leaves all, each old block is what it was. -/
theorem old_same {w w' : World} {L : List Atom} (hL : ∀ a : Atom, a.holds w → a ∈ L) (hs : Sat w' L) (hk : Keeps w w') : ∀ i, i < w.heap.size → w'.heap[i]? = w.heap[i]? := by
  intro i hi
  have hb : w.heap[i]? = some w.heap[i] := Array.getElem?_eq_getElem hi
  generalize w.heap[i] = o at hb
  rw [hb]
  by_cases hc : isCells o = false
  · exact (hs.holds _ (hL (.obj i o) ⟨hb, hc⟩)).1
  · cases o <;> first | (exact absurd rfl hc) | skip
    rename_i c t fr
    obtain ⟨lo, hi2⟩ := fr
    obtain ⟨c', h1, h2, h3⟩ := hk.cells i c t lo hi2 hb
    rw [h1]
    congr 2
    apply Array.ext h2
    intro j hj1 hj2
    by_cases hf : lo ≤ j ∧ j < hi2
    · have := h3 j hf
      rw [Array.getElem?_eq_getElem hj1, Array.getElem?_eq_getElem hj2] at this
      exact Option.some.inj this
    · obtain ⟨c2, t2, lo2, hi3, g1, g2, _⟩ := hs.holds _ (hL (.cell i j c[j]) ⟨c, t, lo, hi2, hb, Array.getElem?_eq_getElem hj2, hf⟩)
      rw [h1] at g1
      cases g1
      rw [Array.getElem?_eq_getElem hj1] at g2
      exact Option.some.inj g2
end Go.V

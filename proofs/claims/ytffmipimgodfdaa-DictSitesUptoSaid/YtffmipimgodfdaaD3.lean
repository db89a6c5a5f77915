/-
  Contracts: Index, find, Send.
-/
import Derived.Test.YtffmipimgodfdaaD2
namespace Go.Proofs.Ytffmipimgodfdaa
open Go Go.V
set_option maxHeartbeats 800000
set_option linter.unusedSimpArgs false
set_option linter.unusedVariables false
theorem index_spec (b o len cap : Nat) (xs : List Int) (x : Int) (A : List Atom) (hl : len ≤ xs.length) (hb : xs.length ≤ 4611686018427387904) (hA : ∀ i v, xs[i]? = some v → i < len → Atom.cell b (o + i) (vi v) ∈ A) :
    Fun Try.prog 50 [.slice (some ⟨b, o, none⟩) len cap, vi x] [A]
      (fun v Post => v = (match fnd xs len x with | some i => vi i | none => vi (-1)) ∧ Post = [A]) := by
  refine Fun.intro low50 (by simp [F50]) ?_
  refine GO ?_
  refine VC.loop (α := Nat) (Γf := fun k => [(0, .slice (some ⟨b, o, none⟩) len cap), (1, vi x), (7, vi len), (8, vi k)]) (Hf := fun _ => [A])
    (I := fun k => k ≤ len ∧ ∀ i, i < k → xs[i]? ≠ some x) (μ := fun k => len - k) 0 (by simp) (by (repeat (first | exact Sub.nil | (apply Sub.cons; rfl)))) (by (first | with_reducible exact Imp.refl | with_reducible exact Imp.left | (focus ((try simp only [Core_eq]); (repeat (first | exact Imp.nil | (apply Imp.cons; (focus ((repeat (first | with_reducible exact Tk.here | apply Tk.there)); done))))); done)))) (fun k ⟨hk, hx⟩ => ?_)
  refine GO ?_
  (first | (apply VC.seq_cond; rfl) | (apply VC.cond; rfl))
  · intro h
    have hlt : k < len := by simpa using h
    refine GO ?_
    refine st_load1 (v := vi xs[k]) (by rfl) (.among (hA k _ (by simp) hlt)) ?_
    refine GO ?_
    (first | (apply VC.seq_cond; rfl) | (apply VC.cond; rfl))
    · intro h
      refine GO ?_
      have hxk : x = xs[k] := by simpa using h
      rw [fnd_some hlt hl (by simp [hxk]) hx]
      refine ⟨.inr rfl, _, _, .tmp (by rfl) .nil, by (first | with_reducible exact Imp.refl | with_reducible exact Imp.left | (focus ((try simp only [Core_eq]); (repeat (first | exact Imp.nil | (apply Imp.cons; (focus ((repeat (first | with_reducible exact Tk.here | apply Tk.there)); done))))); done))), ?_, rfl⟩
      simp [tup]
    · intro h
      refine GO ?_
      have hxk : ¬ x = xs[k] := by simpa using h
      refine ⟨k + 1, ⟨by omega, fun i hi => ?_⟩, by omega, by (repeat (first | exact Sub.nil | (apply Sub.cons; rfl))), by (first | with_reducible exact Imp.refl | with_reducible exact Imp.left | (focus ((try simp only [Core_eq]); (repeat (first | exact Imp.nil | (apply Imp.cons; (focus ((repeat (first | with_reducible exact Tk.here | apply Tk.there)); done))))); done)))⟩
      by_cases e : i = k
      · subst e; simp [show i < xs.length by omega]; exact fun h => hxk h.symm
      · exact hx i (by omega)
  · intro h
    have hge : ¬ k < len := by simpa using h
    obtain rfl : k = len := by omega
    refine GO ?_
    rw [fnd_none hx]
    refine ⟨.inr rfl, _, _, .tmp (by rfl) .nil, by (first | with_reducible exact Imp.refl | with_reducible exact Imp.left | (focus ((try simp only [Core_eq]); (repeat (first | exact Imp.nil | (apply Imp.cons; (focus ((repeat (first | with_reducible exact Tk.here | apply Tk.there)); done))))); done))), ?_, rfl⟩
    simp [tup]

theorem find_spec (b : Nat) (S : SiteR) (c : Int) (h : S.cls.length = 4 ∧ S.ms.length = 4 ∧ S.n ≤ 4) :
    Fun Try.prog 26 [ptr0 b, vi c] [cellsAt b 0 (sCells S)]
      (fun v Post => v = (match fnd S.cls S.n c with | some i => vi i | none => vi (-1)) ∧ Post = [cellsAt b 0 (sCells S)]) := by
  refine Fun.intro low26 (by simp [F26]) ?_
  refine GO ?_
  refine st_slcA (b := b) (o := 2) (o' := 2) (by rfl) .dft (.num (m := S.n) (by rfl)) (by omega) (by simp) ?_
  simp only [Nat.sub_zero]
  refine GO ?_
  refine st_call (index_spec b 2 S.n 4 S.cls c _ (by omega) (by omega) ?_) (by rfl) (by (focus ((repeat (first | exact Spl.nil | (apply Spl.cons; (focus ((repeat (first | with_reducible exact Tk.here | apply Tk.there)); done))))); done))) (fun v Post hv => ?_)
  · intro i v hi hn
    refine mem_cellsAt.2 ⟨2 + i, vi v, ?_, by simp⟩
    have hl := (List.getElem?_eq_some_iff.1 hi).1
    have : 2 + i = i + 1 + 1 := by omega
    rw [this]
    simp only [sCells, List.getElem?_cons_succ]
    rw [List.getElem?_append_left (by simpa using hl)]
    simp [hi]
  obtain ⟨rfl, rfl⟩ := hv
  simp only [List.cons_append, List.nil_append]
  refine GO ?_
  refine ⟨.inr rfl, _, _, .tmp (by rfl) .nil, by (first | with_reducible exact Imp.refl | with_reducible exact Imp.left | (focus ((try simp only [Core_eq]); (repeat (first | exact Imp.nil | (apply Imp.cons; (focus ((repeat (first | with_reducible exact Tk.here | apply Tk.there)); done))))); done))), ?_, rfl⟩
  simp [tup]
end Go.Proofs.Ytffmipimgodfdaa

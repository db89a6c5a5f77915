/-
  Contracts: Clone, New.
-/
import Derived.Test.YtffmipimgodfdaaD6
namespace Go.Proofs.Ytffmipimgodfdaa
open Go Go.V
set_option maxHeartbeats 1600000
set_option maxRecDepth 100000
set_option linter.unusedSimpArgs false
set_option linter.unusedVariables false
theorem clone_spec (A : List Atom) (v : Value) (xs : List Int) (h : RdInts A v xs) (hn : xs.length ≤ 1048576) :
    Fun Try.prog 23 [v] [A] (fun v' Post => ∃ sp, IsSl 1 v' xs.length (xs.map vi) sp ∧ Post = [A, slA v' (xs.map vi) sp]) := by
  refine Fun.intro low23 (by simp [F23]) ?_
  rcases h with ⟨rfl, rfl⟩ | ⟨b, o, c, rfl, hA⟩
  · refine GO ?_
    refine endQ_mk (Post := [A, slA (.slice none 0 0) [] []]) (.inr rfl) (.tmp (by rfl) .nil) ⟨[], .nil, rfl⟩ ?_
    exact ⟨[], by simp [V.Spl, slA]⟩
  · refine GO ?_
    refine st_bslice (out := []) (by rfl) (by rfl) (fun q => ?_)
    refine GO ?_
    refine st_append (k := 0) (m := xs.length) (xs := []) (sp := []) (ys := xs.map vi) (by rfl) (by rfl) (.mk rfl rfl (Nat.le_refl _)) (by exact Tk.here) (by rfl) ?_ (by simp) (by simp [oneCell]) (by rfl) (by decide) (by omega) (fun sv' sp' hsl => ?_)
    · refine ⟨by simp, fun x hx => ?_⟩
      simp only [List.flatten_cons, List.flatten_nil, List.append_nil]
      exact RdInts.src hA x hx
    simp only [Nat.zero_add, List.nil_append] at hsl ⊢
    refine GO ?_
    refine endQ_mk (Post := [A, slA sv' (xs.map vi) sp']) (.inr rfl) (.tmp (by rfl) .nil) ⟨sp', hsl, rfl⟩ (by (first | with_reducible exact Imp.refl | with_reducible exact Imp.left | (focus ((try simp only [Core_eq]); (repeat (first | exact Imp.nil | (apply Imp.cons; (focus ((repeat (first | with_reducible exact Tk.here | apply Tk.there)); done))))); done))))

def NewP (A : List Atom) (xs : List Int) (v : Value) (Post : SH) : Prop :=
  (NewOk xs ∧ ∃ t R, Fresh R xs ∧ v = .tuple #[ptr0 t, vi 0] ∧ Post = A :: Full t R) ∨ (¬ NewOk xs ∧ v = .tuple #[.pointer none, vi 220] ∧ Post = [A])

theorem new_spec (A : List Atom) (v : Value) (xs : List Int) (h : RdInts A v xs) (hn : xs.length ≤ 1048576) :
    Fun Try.prog 8 [v] [A] (NewP A xs) := by
  obtain ⟨a, c, hv⟩ := h.form
  refine Fun.intro low8 (by simp [F8]) ?_
  rw [hv]
  refine GO ?_
  by_cases hbig : 4096 < xs.length
  · simp only [show ((4096 : Int) < xs.length) from by omega, decide_true]
    refine GO ?_
    refine endQ_mk (.inr rfl) (.tmp (by rfl) (.tmp (by rfl) .nil)) (.inr ⟨fun hh => by have := hh.1; omega, rfl, rfl⟩) (by (first | with_reducible exact Imp.refl | with_reducible exact Imp.left | (focus ((try simp only [Core_eq]); (repeat (first | exact Imp.nil | (apply Imp.cons; (focus ((repeat (first | with_reducible exact Tk.here | apply Tk.there)); done))))); done))))
  simp only [show ¬ ((4096 : Int) < xs.length) from by omega, decide_false]
  refine GO ?_
  refine VC.loop (α := Nat) (Γf := fun k => [(0, .slice a xs.length c), (11, .slice a xs.length c), (12, vi xs.length), (13, vi k)]) (Hf := fun _ => [A])
    (I := fun k => k ≤ xs.length ∧ ∀ (i : Nat) s, i < k → xs[i]? = some s → -1 ≤ s ∧ s < i) (μ := fun k => xs.length - k) 0 (by simp) (by (repeat (first | exact Sub.nil | (apply Sub.cons; rfl)))) (by (first | with_reducible exact Imp.refl | with_reducible exact Imp.left | (focus ((try simp only [Core_eq]); (repeat (first | exact Imp.nil | (apply Imp.cons; (focus ((repeat (first | with_reducible exact Tk.here | apply Tk.there)); done))))); done)))) (fun k ⟨hk, hx⟩ => ?_)
  refine GO ?_
  (first | (apply VC.seq_cond; rfl) | (apply VC.cond; rfl))
  · intro hlt
    have hlt : k < xs.length := by simpa using hlt
    obtain ⟨b, o, c', hvv, hA⟩ := h.pos (by omega)
    rw [hv] at hvv
    simp only [Value.slice.injEq, true_and] at hvv
    obtain ⟨rfl, rfl⟩ := hvv
    refine GO ?_
    refine st_load1 (v := vi xs[k]) (by rfl) (.among (hA k _ (by simp))) ?_
    refine GO ?_
    by_cases h1 : xs[k] < -1
    · simp only [h1, decide_true]
      refine GO ?_
      refine endQ_mk (.inr rfl) (.tmp (by rfl) (.tmp (by rfl) .nil)) (.inr ⟨fun hh => by have := hh.2 k _ (by simp [hlt]; rfl); omega, rfl, rfl⟩) (by (first | with_reducible exact Imp.refl | with_reducible exact Imp.left | (focus ((try simp only [Core_eq]); (repeat (first | exact Imp.nil | (apply Imp.cons; (focus ((repeat (first | with_reducible exact Tk.here | apply Tk.there)); done))))); done))))
    · simp only [h1, decide_false]
      refine GO ?_
      by_cases h2 : (k : Int) ≤ xs[k]
      · simp only [h2, decide_true]
        refine GO ?_
        refine endQ_mk (.inr rfl) (.tmp (by rfl) (.tmp (by rfl) .nil)) (.inr ⟨fun hh => by have := hh.2 k _ (by simp [hlt]; rfl); omega, rfl, rfl⟩) (by (first | with_reducible exact Imp.refl | with_reducible exact Imp.left | (focus ((try simp only [Core_eq]); (repeat (first | exact Imp.nil | (apply Imp.cons; (focus ((repeat (first | with_reducible exact Tk.here | apply Tk.there)); done))))); done))))
      · simp only [h2, decide_false]
        refine GO ?_
        refine ⟨k + 1, ⟨by omega, fun i s hi hs => ?_⟩, by omega, by (repeat (first | exact Sub.nil | (apply Sub.cons; rfl))), by (first | with_reducible exact Imp.refl | with_reducible exact Imp.left | (focus ((try simp only [Core_eq]); (repeat (first | exact Imp.nil | (apply Imp.cons; (focus ((repeat (first | with_reducible exact Tk.here | apply Tk.there)); done))))); done)))⟩
        by_cases e : i = k
        · subst e
          simp [hlt] at hs
          subst hs
          omega
        · exact hx i s (by omega) hs
  · intro hge
    obtain rfl : k = xs.length := by simp at hge; omega
    have hok : NewOk xs := ⟨by omega, fun i s hs => hx i s (List.getElem?_eq_some_iff.1 hs).1 hs⟩
    refine GO ?_
    refine VC.join (α := Value × List Value × Nat × Nat × Nat) (fun y => [(6, ptr0 y.2.2.2.2)])
      (fun y => [cellsAt y.2.2.2.2 0 [y.1, .slice (some ⟨y.2.2.1, 0, none⟩) xs.length xs.length], cellsAt y.2.2.2.2 2 ((List.replicate 64 noKnown).flatMap kEnc), cellsAt y.2.2.2.2 194 [.map (some y.2.2.2.1)], cellsAt y.2.2.2.2 195 (telEnc {}),
        slA y.1 (xs.map vi) y.2.1, cellsAt y.2.2.1 0 (zeroRow xs.length [.map none]), [.obj y.2.2.2.1 (.map #[] 0)], A])
      (fun y => IsSl 1 y.1 xs.length (xs.map vi) y.2.1) ?_ ?_
    · refine VC.draw (fun rs hrs => ?_)
      simp only [List.mem_cons, List.not_mem_nil, or_false] at hrs
      rcases hrs with rfl | rfl | rfl | rfl | rfl | rfl
      all_goals (repeat (first
    | (apply st_mv; rfl)
    | (apply st_pure (r := V.R.lenL _); rfl; rfl; rfl)
    | (refine st_call (clone_spec A (.slice a xs.length c) xs (hv ▸ h) hn) (by rfl) (by (focus ((repeat (first | exact Spl.nil | (apply Spl.cons; (focus ((repeat (first | with_reducible exact Tk.here | apply Tk.there)); done))))); done))) (fun sv' Post hpo => ?_); obtain ⟨sp', hsl, rfl⟩ := hpo; obtain ⟨a1, c1, rfl⟩ := hsl.form; simp only [List.cons_append, List.nil_append])
    | (refine st_mkslice (li := xs.length) (ci := xs.length) (by rfl) (by rfl) (by omega) (by rfl) (fun db => ?_); simp only [Int.toNat_natCast])
    | (refine st_mkmap (fun sm => ?_))))
      all_goals refine st_build (out := newCells (.slice a1 xs.length c1) (.slice (some ⟨db, 0, none⟩) xs.length xs.length) sm) (by rfl) (by rfl) ?_
      all_goals refine st_box (by rfl) (fun t => ?_)
      all_goals simp only [Value.cells, newCells_at]
      all_goals refine st_mv (by rfl) ?_
      all_goals refine VO.nil ?_
      all_goals refine ⟨(.slice a1 xs.length c1, sp', db, sm, t), hsl, by (repeat (first | exact Sub.nil | (apply Sub.cons; rfl))), ?_⟩
      all_goals refine Imp.cut Imp.app4 ?_
      all_goals simp only
      all_goals (first | with_reducible exact Imp.refl | with_reducible exact Imp.left | (focus ((try simp only [Core_eq]); (repeat (first | exact Imp.nil | (apply Imp.cons; (focus ((repeat (first | with_reducible exact Tk.here | apply Tk.there)); done))))); done)))
    · rintro ⟨sv', sp', db, sm, t⟩ hsl
      simp only at hsl
      refine GO ?_
      refine VC.loop (α := List DicR) (Γf := fun ds => [(6, ptr0 t), (38, vi xs.length), (39, vi ds.length)])
        (Hf := fun ds => [cellsAt t 0 [sv', .slice (some ⟨db, 0, none⟩) xs.length xs.length], cellsAt t 2 ((List.replicate 64 noKnown).flatMap kEnc), cellsAt t 194 [.map (some sm)], cellsAt t 195 (telEnc {}),
          slA sv' (xs.map vi) sp', cellsAt db 0 ((ds.map fun d => .map (some d.b)) ++ zeroRow (xs.length - ds.length) [.map none]), [.obj sm (.map #[] 0)], A, ds.flatMap dAtoms])
        (I := fun ds => ds.length ≤ xs.length ∧ ∀ d ∈ ds, d.es = #[] ∧ d.c = 0 ∧ d.m = []) (μ := fun ds => xs.length - ds.length) [] (by simp) (by (repeat (first | exact Sub.nil | (apply Sub.cons; rfl)))) ?_ (fun ds hds => ?_)
      · simp
        exact Imp.cut (Imp.fresh (A := [])) (by (first | with_reducible exact Imp.refl | with_reducible exact Imp.left | (focus ((try simp only [Core_eq]); (repeat (first | exact Imp.nil | (apply Imp.cons; (focus ((repeat (first | with_reducible exact Tk.here | apply Tk.there)); done))))); done))))
      · obtain ⟨d1, d2⟩ := hds
        refine GO ?_
        (first | (apply VC.seq_cond; rfl) | (apply VC.cond; rfl))
        · intro hlt
          have hlt : ds.length < xs.length := by simpa using hlt
          obtain ⟨r, hr⟩ : ∃ r, xs.length - ds.length = r + 1 := ⟨xs.length - ds.length - 1, by omega⟩
          rw [hr, zeroRow_one]
          refine GO ?_
          refine st_mkmap (fun b => ?_)
          refine GO ?_
          refine VO.pull (A := cellsAt db 0 ((ds.map fun d => .map (some d.b)) ++ List.replicate (r + 1) (.map none))) (by (focus ((repeat (first | with_reducible exact Tk.here | apply Tk.there)); done))) ?_
          refine st_store' (us := [.map (some b)]) (by rfl) (by rfl) (by rfl) (by rfl) (by rfl) (Upd.set1 (i := ds.length) (by omega) (by simp)) ?_
          have hs := set_mid (ds.map fun d => Value.map (some d.b)) r (.map none) (.map (some b))
          rw [List.length_map] at hs
          rw [hs]
          refine GO ?_
          refine ⟨ds ++ [⟨b, #[], 0, []⟩], ⟨by simp; omega, fun d hd => ?_⟩, by simp; omega, ?_, ?_⟩
          · rcases List.mem_append.1 hd with hd | hd
            · exact d2 d hd
            · simp at hd; subst hd; exact ⟨rfl, rfl, rfl⟩
          · simp only [List.length_append, List.length_cons, List.length_nil, Nat.zero_add, Int.natCast_add]
            (repeat (first | exact Sub.nil | (apply Sub.cons; rfl)))
          · have e : xs.length - (ds ++ [(⟨b, #[], 0, []⟩ : DicR)]).length = r := by simp; omega
            rw [e, zeroRow_one]
            simp only [List.map_append, List.map_cons, List.map_nil]
            (repeat (apply Imp.cons; (focus ((repeat (first | with_reducible exact Tk.here | apply Tk.there)); done))))
            refine Imp.glue (B := ds.flatMap dAtoms) (C := [.obj b (.map #[] 0)]) (by (focus ((repeat (first | with_reducible exact Tk.here | apply Tk.there)); done))) (by (focus ((repeat (first | with_reducible exact Tk.here | apply Tk.there)); done))) (List.Perm.of_eq (by simp [dAtoms])) .nil
        · intro hge
          have hl : ds.length = xs.length := by simp at hge; omega
          refine GO ?_
          refine endQ_mk (.inr rfl) (.tmp (by rfl) (.tmp (by rfl) .nil)) (.inl ⟨hok, t, newRep xs sv' sp' db sm ds, newRep_fresh hok hsl hl d2, rfl, rfl⟩) ?_
          simp only [Full, SitesI, Core_eq, newRep, List.cons_append, List.nil_append, slA_some]
          rw [hl, Nat.sub_self]
          simp [zeroRow, telEnc]
          refine Imp.cut (Imp.fresh (A := [])) ?_
          (first | with_reducible exact Imp.refl | with_reducible exact Imp.left | (focus ((try simp only [Core_eq]); (repeat (first | exact Imp.nil | (apply Imp.cons; (focus ((repeat (first | with_reducible exact Tk.here | apply Tk.there)); done))))); done)))
end Go.Proofs.Ytffmipimgodfdaa

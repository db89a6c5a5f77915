/-
  Contracts: ask, Lookup, Own.
-/
import Derived.Test.YtffmipimgodfdaaD1
set_option linter.unusedSimpArgs false
set_option linter.unusedVariables false
namespace Go.Proofs.Ytffmipimgodfdaa
open Go Go.V
set_option maxHeartbeats 800000
set_option linter.unusedSimpArgs false
set_option linter.unusedVariables false
theorem ask_spec (t : Nat) (R : TRep) (c : Int) (s : ByteArray) (h : WF R) (N : Nat) (hN : N ≤ 140737488355328) (hT : TelOk R.tel N) (hc : 0 ≤ c ∧ c < R.sup.length) (hs : s.size ≤ 1048576) :
    Fun Try.prog 27 [ptr0 t, .agg #[vi c, .string s]] (Core t R) (fun v Post => v = okM (askR R c s).1 ∧ Post = Core t (askR R c s).2) := by
  have hsm := h.small
  have hpl := placeN_lt c s
  have hgl := h.glob
  have hT' := hT
  obtain ⟨t1, t2, t3, t4, t5⟩ := hT'
  have hgk : R.glob[placeN c s]? = some (R.known (placeN c s)) := by simp [TRep.known, show placeN c s < R.glob.length by omega]
  refine Fun.intro low27 (by simp [F27]) ?_
  simp only [Core, telEnc]
  refine GO ?_
  refine st_box (by rfl) (fun q => ?_)
  simp only [Value.cells]
  refine GO ?_
  refine st_call (place_spec c s (by omega) hs) (by rfl) .nil (fun v Post hv => ?_)
  obtain ⟨rfl, rfl⟩ := hv
  simp only [List.nil_append]
  refine GO ?_
  refine st_loadN (us := [vi (R.known (placeN c s)).c, .string (R.known (placeN c s)).s]) (by rfl) (.there (.there ?_)) (by rfl) ?_
  · exact HasN.flat (f := kEnc) (n := 3) (m := 2) kEnc_len hgk (by omega)
  refine GO ?_
  refine st_case (s := 21) (by rfl) (fun hk => ?_) (fun hk => ?_)
  · simp only [Bool.false_eq_true, if_false, Bool.and_true, Bool.and_eq_true, decide_eq_true_eq] at hk
    refine GO ?_
    refine VC.cond (by rfl) (fun he => ?_) (fun he => ?_)
    · have he : s ≠ ⟨#[]⟩ := by simpa using he
      rw [askR_hit hk he]
      refine GO ?_
      refine st_load1 (v := vi (R.known (placeN c s)).m) (by rfl) ?_ ?_
      · refine .there (.there ?_)
        exact Has.flat (f := kEnc) (n := 3) (j := 2) kEnc_len hgk (by omega) (by rfl)
      refine GO ?_
      refine ⟨.inr rfl, _, _, .tmp (by rfl) (.tmp (by rfl) .nil), (by simp []; (first | with_reducible exact Imp.refl | with_reducible exact Imp.left | (focus ((try simp only [Core_eq]); (repeat (first | exact Imp.nil | (apply Imp.cons; (focus ((repeat (first | with_reducible exact Tk.here | apply Tk.there)); done))))); done)))), ?_, rfl⟩
      simp [okM, tup]
    · have he : s = ⟨#[]⟩ := by simpa using he
      have hmiss : ¬ ((R.known (placeN c s)).c = c ∧ (R.known (placeN c s)).s = s ∧ s ≠ ⟨#[]⟩) := by simp [he]
      refine GO ?_
      have hp := walk_spec t R c s h N hN hT hc
      refine st_call (hp) (by rfl) (by simp only [Core, telEnc]; (focus ((repeat (first | exact Spl.nil | (apply Spl.cons; (focus ((repeat (first | with_reducible exact Tk.here | apply Tk.there)); done))))); done))) (fun v Post hv => ?_)
      obtain ⟨rfl, rfl⟩ := hv
      simp only [okM, Core, telEnc, Tel.walk, List.cons_append, List.nil_append]
      refine GO ?_
      (first | (apply VC.seq_cond; rfl) | (apply VC.cond; rfl))
      · intro hm
        obtain ⟨m, hm⟩ := Option.isSome_iff_exists.1 hm
        rw [askR_some hmiss hm]
        simp only [hm, Option.getD_some, Option.isSome_some]
        refine GO ?_
        refine st_store' (us := kEnc ⟨c, s, m⟩) (by rfl) (by rfl) (by simp [Value.cells, kEnc]) (by rfl) (by rfl) (.there (Upd.flat (f := kEnc) (l := R.glob) (i := placeN c s) (y := ⟨c, s, m⟩) (n := 3) kEnc_len rfl (by omega))) ?_
        refine GO ?_
        refine ⟨.inr rfl, _, _, .tmp (by rfl) (.tmp (by rfl) .nil), (by simp [telEnc, Tel.walk]; (first | with_reducible exact Imp.refl | with_reducible exact Imp.left | (focus ((try simp only [Core_eq]); (repeat (first | exact Imp.nil | (apply Imp.cons; (focus ((repeat (first | with_reducible exact Tk.here | apply Tk.there)); done))))); done)))), ?_, rfl⟩
        simp [okM, tup]
      · intro hm
        have hm : (plain R c s).1 = none := by simpa using hm
        rw [askR_none hmiss hm]
        simp only [hm, Option.getD_none, Option.isSome_none]
        refine GO ?_
        refine ⟨.inr rfl, _, _, .tmp (by rfl) (.tmp (by rfl) .nil), (by simp [telEnc, Tel.walk]; (first | with_reducible exact Imp.refl | with_reducible exact Imp.left | (focus ((try simp only [Core_eq]); (repeat (first | exact Imp.nil | (apply Imp.cons; (focus ((repeat (first | with_reducible exact Tk.here | apply Tk.there)); done))))); done)))), ?_, rfl⟩
        simp [okM, tup]
  · have hmiss : ¬ ((R.known (placeN c s)).c = c ∧ (R.known (placeN c s)).s = s ∧ s ≠ ⟨#[]⟩) := by
      simp at hk
      exact fun hh => hk hh.1 hh.2.1
    refine GO ?_
    have hp := walk_spec t R c s h N hN hT hc
    refine st_call (hp) (by rfl) (by simp only [Core, telEnc]; (focus ((repeat (first | exact Spl.nil | (apply Spl.cons; (focus ((repeat (first | with_reducible exact Tk.here | apply Tk.there)); done))))); done))) (fun v Post hv => ?_)
    obtain ⟨rfl, rfl⟩ := hv
    simp only [okM, Core, telEnc, Tel.walk, List.cons_append, List.nil_append]
    refine GO ?_
    (first | (apply VC.seq_cond; rfl) | (apply VC.cond; rfl))
    · intro hm
      obtain ⟨m, hm⟩ := Option.isSome_iff_exists.1 hm
      rw [askR_some hmiss hm]
      simp only [hm, Option.getD_some, Option.isSome_some]
      refine GO ?_
      refine st_store' (us := kEnc ⟨c, s, m⟩) (by rfl) (by rfl) (by simp [Value.cells, kEnc]) (by rfl) (by rfl) (.there (Upd.flat (f := kEnc) (l := R.glob) (i := placeN c s) (y := ⟨c, s, m⟩) (n := 3) kEnc_len rfl (by omega))) ?_
      refine GO ?_
      refine ⟨.inr rfl, _, _, .tmp (by rfl) (.tmp (by rfl) .nil), (by simp [telEnc, Tel.walk]; (first | with_reducible exact Imp.refl | with_reducible exact Imp.left | (focus ((try simp only [Core_eq]); (repeat (first | exact Imp.nil | (apply Imp.cons; (focus ((repeat (first | with_reducible exact Tk.here | apply Tk.there)); done))))); done)))), ?_, rfl⟩
      simp [okM, tup]
    · intro hm
      have hm : (plain R c s).1 = none := by simpa using hm
      rw [askR_none hmiss hm]
      simp only [hm, Option.getD_none, Option.isSome_none]
      refine GO ?_
      refine ⟨.inr rfl, _, _, .tmp (by rfl) (.tmp (by rfl) .nil), (by simp [telEnc, Tel.walk]; (first | with_reducible exact Imp.refl | with_reducible exact Imp.left | (focus ((try simp only [Core_eq]); (repeat (first | exact Imp.nil | (apply Imp.cons; (focus ((repeat (first | with_reducible exact Tk.here | apply Tk.there)); done))))); done)))), ?_, rfl⟩
      simp [okM, tup]

theorem isc (c : Int) (n : Nat) : (decide (0 ≤ c) && decide (c < n)) = decide (0 ≤ c ∧ c < n) := by simp

theorem lookup_spec (t : Nat) (R : TRep) (c : Int) (s : ByteArray) (h : WF R) (N : Nat) (hN : N < 140737488355328) (hT : TelOk R.tel N) (hs : s.size ≤ 1048576) :
    Fun Try.prog 13 [ptr0 t, vi c, .string s] (Core t R) (fun v Post => v = okM (lookR R c s).1 ∧ Post = Core t (lookR R c s).2) := by
  obtain ⟨sa, sc, hsv⟩ := h.sup.form
  obtain ⟨t1, t2, t3, t4, t5⟩ := hT
  refine Fun.intro low13 (by simp [F13]) ?_
  rw [Core_eq t R]
  refine GO ?_
  refine st_call (is_spec t c sa R.sup.length sc R.dv) (by rfl) (by rw [← hsv]; (focus ((repeat (first | exact Spl.nil | (apply Spl.cons; (focus ((repeat (first | with_reducible exact Tk.here | apply Tk.there)); done))))); done))) (fun v Post hv => ?_)
  obtain ⟨rfl, rfl⟩ := hv
  rw [isc]
  simp only [List.cons_append, List.nil_append, ← hsv]
  by_cases hc : 0 ≤ c ∧ c < R.sup.length
  · simp only [hc, and_self, decide_true, lookR, if_true]
    refine GO ?_
    refine st_call (ask_spec t R.ask1 c s (h.withTel _) (N + 1) (by omega) ⟨by simp [TRep.ask1]; omega, by simp [TRep.ask1]; omega, by simp [TRep.ask1]; omega, by simp [TRep.ask1]; omega, by simp [TRep.ask1]; omega⟩ hc hs) (by rfl) (by simp [Core_eq, TRep.ask1]; (focus ((repeat (first | exact Spl.nil | (apply Spl.cons; (focus ((repeat (first | with_reducible exact Tk.here | apply Tk.there)); done))))); done))) (fun v Post hv => ?_)
    obtain ⟨rfl, rfl⟩ := hv
    simp only [okM]
    refine GO ?_
    refine ⟨.inr rfl, _, _, .tmp (by rfl) (.tmp (by rfl) .nil), by (first | with_reducible exact Imp.refl | with_reducible exact Imp.left | (focus ((try simp only [Core_eq]); (repeat (first | exact Imp.nil | (apply Imp.cons; (focus ((repeat (first | with_reducible exact Tk.here | apply Tk.there)); done))))); done))), ?_, rfl⟩
    rfl
  · simp only [hc, decide_false, lookR, if_false]
    refine GO ?_
    refine ⟨.inr rfl, _, _, .tmp (by rfl) (.tmp (by rfl) .nil), by (first | with_reducible exact Imp.refl | with_reducible exact Imp.left | (focus ((try simp only [Core_eq]); (repeat (first | exact Imp.nil | (apply Imp.cons; (focus ((repeat (first | with_reducible exact Tk.here | apply Tk.there)); done))))); done))), ?_, rfl⟩
    simp [okM, tup]

theorem own_spec (t : Nat) (R : TRep) (c : Int) (s : ByteArray) (h : WF R) :
    Fun Try.prog 14 [ptr0 t, vi c, .string s] (Core t R) (fun v Post => v = okM (ownR R c s) ∧ Post = Core t R) := by
  obtain ⟨sa, sc, hsv⟩ := h.sup.form
  refine Fun.intro low14 (by simp [F14]) ?_
  rw [Core_eq t R]
  refine GO ?_
  refine st_call (is_spec t c sa R.sup.length sc R.dv) (by rfl) (by rw [← hsv]; (focus ((repeat (first | exact Spl.nil | (apply Spl.cons; (focus ((repeat (first | with_reducible exact Tk.here | apply Tk.there)); done))))); done))) (fun v Post hv => ?_)
  obtain ⟨rfl, rfl⟩ := hv
  rw [isc]
  simp only [List.cons_append, List.nil_append, ← hsv]
  by_cases hc : 0 ≤ c ∧ c < R.sup.length
  · simp only [hc, and_self, decide_true, ownR, if_true]
    obtain ⟨db, dof, dc, hdv, _, _⟩ := h.dv.some (by omega)
    obtain ⟨d, hd, hdm, hmi⟩ := dic_at h hc.1 hc.2
    simp only [hdv, slA]
    refine GO ?_
    refine st_load1 (by rfl) (.there (.there (.there (.there (Has.row (v := .map (some d.b)) (by simp [hd])))))) ?_
    refine GO ?_
    refine st_lookup (E := kStr) (V := vi) (k := s) (by rfl) (by rfl) (by rfl) (.there (.there (.there (.there (.there (.among (mem_dAtoms hd))))))) hmi ?_
    rw [hdm]
    cases hg : mget s d.m with
    | none =>
      simp only [lookV, Option.map_none]
      refine GO ?_
      refine ⟨.inr rfl, _, _, .tmp (by rfl) (.tmp (by rfl) .nil), by (first | with_reducible exact Imp.refl | with_reducible exact Imp.left | (focus ((try simp only [Core_eq]); (repeat (first | exact Imp.nil | (apply Imp.cons; (focus ((repeat (first | with_reducible exact Tk.here | apply Tk.there)); done))))); done))), ?_, rfl⟩
      simp [okM, tup]
    | some m =>
      simp only [lookV, Option.map_some]
      refine GO ?_
      refine ⟨.inr rfl, _, _, .tmp (by rfl) (.tmp (by rfl) .nil), by (first | with_reducible exact Imp.refl | with_reducible exact Imp.left | (focus ((try simp only [Core_eq]); (repeat (first | exact Imp.nil | (apply Imp.cons; (focus ((repeat (first | with_reducible exact Tk.here | apply Tk.there)); done))))); done))), ?_, rfl⟩
      simp [okM, tup]
  · simp only [hc, decide_false, ownR, if_false]
    refine GO ?_
    refine ⟨.inr rfl, _, _, .tmp (by rfl) (.tmp (by rfl) .nil), by (first | with_reducible exact Imp.refl | with_reducible exact Imp.left | (focus ((try simp only [Core_eq]); (repeat (first | exact Imp.nil | (apply Imp.cons; (focus ((repeat (first | with_reducible exact Tk.here | apply Tk.there)); done))))); done))), ?_, rfl⟩
    simp [okM, tup]
end Go.Proofs.Ytffmipimgodfdaa
namespace Go.Proofs.Ytffmipimgodfdaa
open Go Go.V
set_option maxHeartbeats 800000
set_option linter.unusedSimpArgs false
set_option linter.unusedVariables false
theorem index_spec (b o len cap : Nat) (xs : List Int) (x : Int) (A : List Atom) (hl : len ≤ xs.length) (hb : xs.length ≤ 4611686018427387904) (hA : ∀ i v, xs[i]? = some v → i < len → Atom.cell b (o + i) (vi v) ∈ A) :
    Fun Try.prog 50 [.slice (some ⟨b, o, none⟩) len cap, vi x] [A]
      (fun v Post => v = (match fnd xs len x with | some i => vi i | none => vi (-1)) ∧ Post = [A]) := by
  refine Fun.intro low50 (by simp [F50]) ?_
  refine GO ?_
  refine VC.loop (α := Nat) (Γf := fun k => [(0, .slice (some ⟨b, o, none⟩) len cap), (1, vi x), (7, vi len), (8, vi k)]) (Hf := fun _ => [A])
    (I := fun k => k ≤ len ∧ ∀ i, i < k → xs[i]? ≠ some x) (μ := fun k => len - k) 0 (by simp) (by (repeat (first | exact Sub.nil | (apply Sub.cons; rfl)))) (by (first | with_reducible exact Imp.refl | with_reducible exact Imp.left | (focus ((try simp only [Core_eq]); (repeat (first | exact Imp.nil | (apply Imp.cons; (focus ((repeat (first | with_reducible exact Tk.here | apply Tk.there)); done))))); done)))) (fun k ⟨hk, hx⟩ => ?_)
  refine GO ?_
  (first | (apply VC.seq_cond; rfl) | (apply VC.cond; rfl))
  · intro h
    have hlt : k < len := by simpa using h
    refine GO ?_
    refine st_load1 (v := vi xs[k]) (by rfl) (.among (hA k _ (by simp) hlt)) ?_
    refine GO ?_
    (first | (apply VC.seq_cond; rfl) | (apply VC.cond; rfl))
    · intro h
      refine GO ?_
      have hxk : x = xs[k] := by simpa using h
      rw [fnd_some hlt hl (by simp [hxk]) hx]
      refine ⟨.inr rfl, _, _, .tmp (by rfl) .nil, by (first | with_reducible exact Imp.refl | with_reducible exact Imp.left | (focus ((try simp only [Core_eq]); (repeat (first | exact Imp.nil | (apply Imp.cons; (focus ((repeat (first | with_reducible exact Tk.here | apply Tk.there)); done))))); done))), ?_, rfl⟩
      simp [tup]
    · intro h
      refine GO ?_
      have hxk : ¬ x = xs[k] := by simpa using h
      refine ⟨k + 1, ⟨by omega, fun i hi => ?_⟩, by omega, by (repeat (first | exact Sub.nil | (apply Sub.cons; rfl))), by (first | with_reducible exact Imp.refl | with_reducible exact Imp.left | (focus ((try simp only [Core_eq]); (repeat (first | exact Imp.nil | (apply Imp.cons; (focus ((repeat (first | with_reducible exact Tk.here | apply Tk.there)); done))))); done)))⟩
      by_cases e : i = k
      · subst e; simp [show i < xs.length by omega]; exact fun h => hxk h.symm
      · exact hx i (by omega)
  · intro h
    have hge : ¬ k < len := by simpa using h
    obtain rfl : k = len := by omega
    refine GO ?_
    rw [fnd_none hx]
    refine ⟨.inr rfl, _, _, .tmp (by rfl) .nil, by (first | with_reducible exact Imp.refl | with_reducible exact Imp.left | (focus ((try simp only [Core_eq]); (repeat (first | exact Imp.nil | (apply Imp.cons; (focus ((repeat (first | with_reducible exact Tk.here | apply Tk.there)); done))))); done))), ?_, rfl⟩
    simp [tup]

theorem find_spec (b : Nat) (S : SiteR) (c : Int) (h : S.cls.length = 4 ∧ S.ms.length = 4 ∧ S.n ≤ 4) :
    Fun Try.prog 26 [ptr0 b, vi c] [cellsAt b 0 (sCells S)]
      (fun v Post => v = (match fnd S.cls S.n c with | some i => vi i | none => vi (-1)) ∧ Post = [cellsAt b 0 (sCells S)]) := by
  refine Fun.intro low26 (by simp [F26]) ?_
  refine GO ?_
  refine st_slcA (b := b) (o := 2) (o' := 2) (by rfl) .dft (.num (m := S.n) (by rfl)) (by omega) (by simp) ?_
  simp only [Nat.sub_zero]
  refine GO ?_
  refine st_call (index_spec b 2 S.n 4 S.cls c _ (by omega) (by omega) ?_) (by rfl) (by (focus ((repeat (first | exact Spl.nil | (apply Spl.cons; (focus ((repeat (first | with_reducible exact Tk.here | apply Tk.there)); done))))); done))) (fun v Post hv => ?_)
  · intro i v hi hn
    refine mem_cellsAt.2 ⟨2 + i, vi v, ?_, by simp⟩
    have hl := (List.getElem?_eq_some_iff.1 hi).1
    have : 2 + i = i + 1 + 1 := by omega
    rw [this]
    simp only [sCells, List.getElem?_cons_succ]
    rw [List.getElem?_append_left (by simpa using hl)]
    simp [hi]
  obtain ⟨rfl, rfl⟩ := hv
  simp only [List.cons_append, List.nil_append]
  refine GO ?_
  refine ⟨.inr rfl, _, _, .tmp (by rfl) .nil, by (first | with_reducible exact Imp.refl | with_reducible exact Imp.left | (focus ((try simp only [Core_eq]); (repeat (first | exact Imp.nil | (apply Imp.cons; (focus ((repeat (first | with_reducible exact Tk.here | apply Tk.there)); done))))); done))), ?_, rfl⟩
  simp [tup]
end Go.Proofs.Ytffmipimgodfdaa

/-
  The statement of sites: what it does.
-/
import Derived.Test.YtffmipimgodfdaaD9
import Derived.Test.YtffmipimgodfdaaE3
import Derived.Test.YtffmipimgodfdaaDB
namespace Go.Proofs.Ytffmipimgodfdaa
open Go Go.V
set_option maxHeartbeats 1600000
set_option maxRecDepth 100000
set_option linter.unusedSimpArgs false
set_option linter.unusedVariables false
abbrev Tb (t : Nat) (R : Rep) : List Atom := (Full t R).flatten

theorem wrap_site (z : Int) : 0 ≤ (IntKind.i64.wrap (IntKind.u32.wrap z)).tmod 65536 ∧ (IntKind.i64.wrap (IntKind.u32.wrap z)).tmod 65536 < 65536 := by
  have h : 0 ≤ IntKind.i64.wrap (IntKind.u32.wrap z) := by simp only [IntKind.wrap, IntKind.bits, IntKind.signed]; simp; omega
  rw [Int.tmod_eq_emod_of_nonneg h]; omega

theorem dictSites_spec (A : List Atom) (v0 v1 v2 : Value) (xs ys : List Int) (l : List ActR) (h0 : RdInts A v0 xs) (h1 : RdActs A v1 l) (h2 : RdInts A v2 ys) (hn : xs.length ≤ 1048576) (hl : l.length ≤ 1048576) :
    Fun Try.prog 3 [v0, v1, v2] [A] (fun v Post => v = .bool true ∧ Post = [A]) := by
  obtain ⟨a0, c0, hv0⟩ := h0.form
  obtain ⟨a1, c1, hv1⟩ := h1.form
  obtain ⟨a2, c2, hv2⟩ := h2.form
  refine Fun.intro low3 (by simp [F3]) ?_
  refine GO ?_
  refine st_call works_spec (by rfl) (R := [A]) (by simp [V.Spl]) (fun v Post hv => ?_)
  obtain ⟨rfl, rfl⟩ := hv
  rw [hv0, hv1, hv2]
  simp only [List.nil_append]
  refine GO ?_
  simp only [show ¬ ((33554431 : Int) < xs.length) from by omega, decide_false]
  refine GO ?_
  refine st_call (new_spec A _ xs (hv0 ▸ h0) hn) (by rfl) (R := []) (by simp [V.Spl]) (fun v Post hv => ?_)
  rw [List.append_nil]
  rcases hv with hv | hv
  rotate_left
  · obtain ⟨hno, rfl, rfl⟩ := hv
    refine GO ?_
    refine st_call (new_spec A _ xs (hv0 ▸ h0) hn) (by rfl) (R := []) (by simp [V.Spl]) (fun v Post hv => ?_)
    rw [List.append_nil]
    rcases hv with hv | hv
    · exact absurd hv.1 hno
    obtain ⟨_, rfl, rfl⟩ := hv
    refine GO ?_
    exact endQ_mk (.inr rfl) (.tmp (by rfl) .nil) ⟨rfl, rfl⟩ (Imp.refl _)
  obtain ⟨hok, t, R0, hf, rfl, rfl⟩ := hv
  obtain ⟨f0, b0⟩ := hf.fine
  refine VO.imp (H' := [A, Tb t R0]) (Imp.perm (by simp [Tb])) ?_
  refine GO ?_
  refine st_call (new_spec A _ xs (hv0 ▸ h0) hn) (by rfl) (R := [Tb t R0]) (by (focus ((repeat (first | exact Spl.nil | (apply Spl.cons; (focus ((repeat (first | with_reducible exact Tk.here | apply Tk.there)); done))))); done))) (fun v Post hv => ?_)
  rcases hv with hv | hv
  rotate_left
  · exact absurd hok hv.1
  obtain ⟨_, u, U0, hg, rfl, rfl⟩ := hv
  obtain ⟨g0, c0'⟩ := hg.fine
  refine VO.imp (H' := [A, Tb u U0, Tb t R0]) (Imp.perm (by simp [Tb])) ?_
  refine GO ?_
  refine VC.loop (α := Nat × Rep × Rep) (Γf := fun y => [(1, .slice a1 l.length c1), (2, .slice a2 ys.length c2), (7, .bool true), (8, ptr0 t), (10, ptr0 u), (12, vi y.1)]) (Hf := fun y => [A, Tb t y.2.1, Tb u y.2.2])
    (I := fun y => y.1 ≤ l.length ∧ Fine y.2.1 y.1 ∧ Fine y.2.2 y.1 ∧ y.2.1.abs = y.2.2.abs) (μ := fun y => l.length - y.1) (0, R0, U0) ⟨by simp, f0, g0, by rw [b0, c0']⟩ (by (repeat (first | exact Sub.nil | (apply Sub.cons; rfl)))) (by (first | with_reducible exact Imp.refl | with_reducible exact Imp.left | (focus ((try simp only [List.nil_append]); (repeat (first | exact Imp.nil | (apply Imp.cons; (focus ((repeat (first | with_reducible exact Tk.here | apply Tk.there)); done))))); done)))) ?_
  rintro ⟨i, R, U⟩ ⟨hi, f1, g1, habs⟩
  simp only at hi f1 g1 habs
  refine GO ?_
  (first | (apply VC.seq_cond; rfl) | (apply VC.cond; rfl))
  · intro hlt
    have hlt : i < l.length := by simpa using hlt
    obtain ⟨b, o, c1', hvv, hA⟩ := h1.pos (by omega)
    rw [hv1] at hvv
    simp only [Value.slice.injEq, true_and] at hvv
    obtain ⟨rfl, rfl⟩ := hvv
    have hx := hA i l[i] (by simp)
    generalize l[i] = x at hx
    refine GO ?_
    refine st_loadA (us := actEnc x) (by rfl) (fun a ha => by simp only [List.flatten_cons, List.mem_append]; exact .inl (hx a ha)) (by rfl) ?_
    refine st_alloc (fun q => ?_)
    simp only [actEnc]
    refine GO ?_
    by_cases hbig : 1048576 < x.sel.size
    · simp only [show ((1048576 : Int) < x.sel.size) from by omega, decide_true]
      refine GO ?_
      exact endQ_mk (.inr rfl) (.tmp (by rfl) .nil) ⟨rfl, rfl⟩ (by (first | with_reducible exact Imp.refl | with_reducible exact Imp.left | (focus ((try simp only [List.nil_append]); (repeat (first | exact Imp.nil | (apply Imp.cons; (focus ((repeat (first | with_reducible exact Tk.here | apply Tk.there)); done))))); done))))
    simp only [show ¬ ((1048576 : Int) < x.sel.size) from by omega, decide_false]
    refine GO ?_
    by_cases hk : x.kind = 6
    rotate_left
    · simp only [hk, decide_false, Bool.not_false]
      refine GO ?_
      refine st_call (call_spec t R i x.kind x.cls x.sel x.method x.site f1 (by omega) (by omega)).flat (by rfl) (by (focus ((repeat (first | exact Spl.nil | (apply Spl.cons; (focus ((repeat (first | with_reducible exact Tk.here | apply Tk.there)); done))))); done))) (fun v Post hv => ?_)
      obtain ⟨Post', hv, rfl⟩ := hv
      obtain ⟨rfl, R2, f2, b2, rfl⟩ := hv
      simp only [List.cons_append, List.nil_append]
      refine GO ?_
      refine st_call (call_spec u U i x.kind x.cls x.sel x.method x.site g1 (by omega) (by omega)).flat (by rfl) (by (focus ((repeat (first | exact Spl.nil | (apply Spl.cons; (focus ((repeat (first | with_reducible exact Tk.here | apply Tk.there)); done))))); done))) (fun v Post hv => ?_)
      obtain ⟨Post', hv, rfl⟩ := hv
      obtain ⟨rfl, U2, g2, d2, rfl⟩ := hv
      simp only [List.cons_append, List.nil_append]
      refine GO ?_
      refine ⟨(i + 1, R2, U2), ⟨by simp only; omega, f2, g2, by rw [b2, d2, habs]⟩, by simp only; omega, by (repeat (first | exact Sub.nil | (apply Sub.cons; rfl))), by (first | with_reducible exact Imp.refl | with_reducible exact Imp.left | (focus ((try simp only [List.nil_append]); (repeat (first | exact Imp.nil | (apply Imp.cons; (focus ((repeat (first | with_reducible exact Tk.here | apply Tk.there)); done))))); done)))⟩
    simp only [hk, decide_true, Bool.not_true]
    refine GO ?_
    (first | (apply VC.seq_cond; rfl) | (apply VC.cond; rfl))
    · intro hlt2
      have hlt2 : i < ys.length := by simpa using hlt2
      obtain ⟨b2, o2, c2', hvv2, hA2⟩ := h2.pos (by omega)
      rw [hv2] at hvv2
      simp only [Value.slice.injEq, true_and] at hvv2
      obtain ⟨rfl, rfl⟩ := hvv2
      have hc2 : Atom.cell b2 (o2 + i) (vi ys[i]) ∈ A := hA2 i ys[i] (by simp)
      refine GO ?_
      have hK := wrap_site ys[i]
      generalize (IntKind.i64.wrap (IntKind.u32.wrap ys[i])).tmod 65536 = K at hK ⊢
      have hU := send_spec u U K x.cls x.sel g1.wf i (by omega) g1.tel (by omega)
      have hT := send_spec t R ((IntKind.i64.wrap (IntKind.u32.wrap x.site)).tmod 65536) x.cls x.sel f1.wf i (by omega) f1.tel (by omega)
      have hws := wrap_site x.site
      refine GO ?_
      generalize (IntKind.i64.wrap (IntKind.u32.wrap x.site)).tmod 65536 = J at hT hws ⊢
      refine st_call hT.flat (by rfl) (by (focus ((repeat (first | exact Spl.nil | (apply Spl.cons; (focus ((repeat (first | with_reducible exact Tk.here | apply Tk.there)); done))))); done))) (fun v Post hv => ?_)
      obtain ⟨Post', hv, rfl⟩ := hv
      obtain ⟨rfl, R2, f2, b2, rfl⟩ := send_abs f1 hv
      simp only [List.cons_append, List.nil_append]
      have hE : sendE R.abs J x.cls = if R.abs.ok x.cls then 0 else 220 := by unfold sendE; rw [if_pos hws]
      have hE2 : sendE U.abs K x.cls = if R.abs.ok x.cls then 0 else 220 := by unfold sendE; rw [if_pos hK, ← habs]
      rw [hE]
      have hA2 : sendA R.abs J x.cls = sendA U.abs K x.cls := by unfold sendA; rw [hE, hE2, habs]
      generalize hr : (if (if R.abs.ok x.cls then (0 : Int) else 220) = 0 then lookA R.abs x.cls x.sel else none) = r
      generalize he : (if R.abs.ok x.cls then (0 : Int) else 220) = e at hE2 hr
      simp only [okE]
      refine GO ?_
      refine st_call hU.flat (by rfl) (by (focus ((repeat (first | exact Spl.nil | (apply Spl.cons; (focus ((repeat (first | with_reducible exact Tk.here | apply Tk.there)); done))))); done))) (fun v Post hv => ?_)
      obtain ⟨Post', hv, rfl⟩ := hv
      obtain ⟨rfl, U2, g2, c2, rfl⟩ := send_abs g1 hv
      simp only [List.cons_append, List.nil_append]
      rw [hE2, ← habs, hr]
      simp only [okE]
      refine GO ?_
      simp only [eq_self, decide_true, Bool.not_true]
      refine GO ?_
      simp only [beq_self_eq_true, eq_self, decide_true, Bool.not_true]
      refine GO ?_
      simp only [beq_self_eq_true, eq_self, decide_true, Bool.not_true]
      refine GO ?_
      refine ⟨(i + 1, R2, U2), ⟨by simp only; omega, f2, g2, by rw [b2, c2, hA2]⟩, by simp only; omega, by (repeat (first | exact Sub.nil | (apply Sub.cons; rfl))), by (first | with_reducible exact Imp.refl | with_reducible exact Imp.left | (focus ((try simp only [List.nil_append]); (repeat (first | exact Imp.nil | (apply Imp.cons; (focus ((repeat (first | with_reducible exact Tk.here | apply Tk.there)); done))))); done)))⟩
    · intro _
      obtain ⟨K, hK0, hK⟩ : ∃ K : Int, K = 0 ∧ 0 ≤ K ∧ K < 65536 := ⟨0, rfl, by omega⟩
      rw [← hK0]
      have hU := send_spec u U K x.cls x.sel g1.wf i (by omega) g1.tel (by omega)
      have hT := send_spec t R ((IntKind.i64.wrap (IntKind.u32.wrap x.site)).tmod 65536) x.cls x.sel f1.wf i (by omega) f1.tel (by omega)
      have hws := wrap_site x.site
      refine GO ?_
      generalize (IntKind.i64.wrap (IntKind.u32.wrap x.site)).tmod 65536 = J at hT hws ⊢
      refine st_call hT.flat (by rfl) (by (focus ((repeat (first | exact Spl.nil | (apply Spl.cons; (focus ((repeat (first | with_reducible exact Tk.here | apply Tk.there)); done))))); done))) (fun v Post hv => ?_)
      obtain ⟨Post', hv, rfl⟩ := hv
      obtain ⟨rfl, R2, f2, b2, rfl⟩ := send_abs f1 hv
      simp only [List.cons_append, List.nil_append]
      have hE : sendE R.abs J x.cls = if R.abs.ok x.cls then 0 else 220 := by unfold sendE; rw [if_pos hws]
      have hE2 : sendE U.abs K x.cls = if R.abs.ok x.cls then 0 else 220 := by unfold sendE; rw [if_pos hK, ← habs]
      rw [hE]
      have hA2 : sendA R.abs J x.cls = sendA U.abs K x.cls := by unfold sendA; rw [hE, hE2, habs]
      generalize hr : (if (if R.abs.ok x.cls then (0 : Int) else 220) = 0 then lookA R.abs x.cls x.sel else none) = r
      generalize he : (if R.abs.ok x.cls then (0 : Int) else 220) = e at hE2 hr
      simp only [okE]
      refine GO ?_
      refine st_call hU.flat (by rfl) (by (focus ((repeat (first | exact Spl.nil | (apply Spl.cons; (focus ((repeat (first | with_reducible exact Tk.here | apply Tk.there)); done))))); done))) (fun v Post hv => ?_)
      obtain ⟨Post', hv, rfl⟩ := hv
      obtain ⟨rfl, U2, g2, c2, rfl⟩ := send_abs g1 hv
      simp only [List.cons_append, List.nil_append]
      rw [hE2, ← habs, hr]
      simp only [okE]
      refine GO ?_
      simp only [eq_self, decide_true, Bool.not_true]
      refine GO ?_
      simp only [beq_self_eq_true, eq_self, decide_true, Bool.not_true]
      refine GO ?_
      simp only [beq_self_eq_true, eq_self, decide_true, Bool.not_true]
      refine GO ?_
      refine ⟨(i + 1, R2, U2), ⟨by simp only; omega, f2, g2, by rw [b2, c2, hA2]⟩, by simp only; omega, by (repeat (first | exact Sub.nil | (apply Sub.cons; rfl))), by (first | with_reducible exact Imp.refl | with_reducible exact Imp.left | (focus ((try simp only [List.nil_append]); (repeat (first | exact Imp.nil | (apply Imp.cons; (focus ((repeat (first | with_reducible exact Tk.here | apply Tk.there)); done))))); done)))⟩
  · intro _
    refine GO ?_
    refine st_call (counts_full t R).flat (by rfl) (by (focus ((repeat (first | exact Spl.nil | (apply Spl.cons; (focus ((repeat (first | with_reducible exact Tk.here | apply Tk.there)); done))))); done))) (fun v Post hv => ?_)
    obtain ⟨Post', ⟨rfl, rfl⟩, rfl⟩ := hv
    simp only [telEnc, List.cons_append, List.nil_append]
    refine GO ?_
    refine st_alloc (fun q => ?_)
    refine GO ?_
    refine st_call (counts_full u U).flat (by rfl) (by (focus ((repeat (first | exact Spl.nil | (apply Spl.cons; (focus ((repeat (first | with_reducible exact Tk.here | apply Tk.there)); done))))); done))) (fun v Post hv => ?_)
    obtain ⟨Post', ⟨rfl, rfl⟩, rfl⟩ := hv
    simp only [telEnc, List.cons_append, List.nil_append]
    refine GO ?_
    refine st_alloc (fun q => ?_)
    refine GO ?_
    have e1 : (R.tel.asked : Int) = U.tel.asked := by have := congrArg Abs.asked habs; simp only [Rep.abs] at this; omega
    simp only [decide_eq_true e1]
    refine GO ?_
    exact endQ_mk (.inr rfl) (.tmp (by rfl) .nil) ⟨rfl, rfl⟩ (by (first | with_reducible exact Imp.refl | with_reducible exact Imp.left | (focus ((try simp only [List.nil_append]); (repeat (first | exact Imp.nil | (apply Imp.cons; (focus ((repeat (first | with_reducible exact Tk.here | apply Tk.there)); done))))); done))))
end Go.Proofs.Ytffmipimgodfdaa

/-
  The outside world: a deed.
-/
import Derived.Test.YtklkngccaemjdaaGreatW1
import Derived.Test.YtklkngccaemjdaaGreatWOb
set_option linter.unusedSimpArgs false
set_option linter.unusedVariables false
namespace Go.Proofs.YtklkngccaemjdaaGreat
open Go Go.V
set_option maxHeartbeats 3200000
set_option maxRecDepth 100000
set_option linter.unusedSimpArgs false
set_option linter.unusedVariables false
theorem deed_spec (t : Nat) (w : WR) (d : De) (fv : Value) (B : List Atom) (M : Nat) (hM : M ≤ 1073741823) (Qd : WR → Ch → Int → De → WR → Prop) (h : IsSl 3 w.cv w.choices.length (w.choices.flatMap chEnc) w.csp)
    (hdoes : ∀ w1 q, Taken w w1 → takeL w = true → FunV Tryz.prog fv [.agg (chEnc (takeC w)).toArray, ptr0 q] (WMem t w1 ++ [cellsAt q 0 (deEnc d), B]) (fun v Post => ∃ e d' w2, v = vi e ∧ Qd w1 (takeC w) e d' w2 ∧ Post = WMem t w2 ++ [cellsAt q 0 (deEnc d'), B]))
    (hQ : ∀ w1 c e d' w2, Qd w1 c e d' w2 → IsSl 6 w2.tv w2.trace.length (w2.trace.flatMap deEnc) w2.tsp ∧ w2.trace.length ≤ M) :
    Fun Tryz.prog 46 [ptr0 t, .agg (deEnc d).toArray, fv] (WMem t w ++ [B]) (DeedP t w d B Qd) := by
  refine Fun.intro low46 (by simp [F46]) ?_
  simp only [deEnc, WMem, List.cons_append, List.nil_append]
  refine GO ?_
  refine st_box (by rfl) (fun q0 => ?_)
  simp only [Value.cells]
  refine st_alloc (fun q1 => ?_)
  refine GO ?_
  refine st_call (take_spec t w h) (by rfl) (by (focus ((repeat (first | exact Spl.nil | (apply Spl.cons; (focus ((repeat (first | with_reducible exact Tk.here | apply Tk.there)); done))))); done))) (fun v Post hv => ?_)
  obtain ⟨rfl, cv', csp', cs, h1, h2, h3, rfl⟩ := hv
  have hT : Taken w { w with cv := cv', choices := cs, csp := csp', dead := !takeL w } := ⟨cv', csp', cs, h1, h2, h3, rfl⟩
  simp only [List.cons_append, List.nil_append, hdr, chEnc]
  refine GO ?_
  refine st_alloc (fun q2 => ?_)
  refine GO ?_
  cases hl : takeL w with
  | false =>
    rw [hl] at hT
    simp only [Bool.not_false] at hT ⊢
    refine GO ?_
    refine ⟨.inr rfl, _, WMem t { w with cv := cv', choices := cs, csp := csp', dead := true } ++ [B], .cellN (us := deEnc noDe) (by rfl) (by rfl) (fun x hx => by simp only [List.flatten_cons, List.mem_append]; exact .inr (.inr (.inr (.inl hx)))) (.tmp (by rfl) .nil), ?_, ⟨_, hT, .inl ⟨hl, rfl, rfl⟩⟩⟩
    simp only [WMem, List.cons_append, List.nil_append]
    (first | with_reducible exact Imp.refl | with_reducible exact Imp.left | (focus ((try simp only [List.nil_append]); (repeat (first | exact Imp.nil | (apply Imp.cons; (focus ((repeat (first | with_reducible exact Tk.here | apply Tk.there)); done))))); done)))
  | true =>
    rw [hl] at hT
    simp only [Bool.not_true] at hT ⊢
    refine GO ?_
    refine st_alloc (fun q3 => ?_)
    refine GO ?_
    refine st_callV (by rfl) (hdoes _ q3 hT hl) (by rfl) (by simp only [WMem, deEnc, List.cons_append, List.nil_append]; (focus ((repeat (first | exact Spl.nil | (apply Spl.cons; (focus ((repeat (first | with_reducible exact Tk.here | apply Tk.there)); done))))); done))) (fun v Post hv => ?_)
    obtain ⟨e, d', w2, rfl, hq, rfl⟩ := hv
    obtain ⟨ht, htm⟩ := hQ _ _ _ _ _ hq
    simp only [WMem, deEnc, List.cons_append, List.nil_append]
    refine GO ?_
    obtain ⟨out, ho⟩ : ∃ out : De, out = (if e = 0 then d' else { d with err := e }) := ⟨_, rfl⟩
    refine VC.meet (α := Unit) (fun _ => [(0, ptr0 t), (6, ptr0 q1), (10, ptr0 q3)])
      (fun _ => [cellsAt q1 0 (deEnc noDe), cellsAt q3 0 (deEnc out), cellsAt t 0 [w2.cv, .map (some w2.fm), w2.hv, w2.tv, vi w2.clock, vi w2.seq, .bool w2.dead], slA w2.cv (w2.choices.flatMap chEnc) w2.csp, [.obj w2.fm (.map w2.fes w2.fc)], w2.objs.flatMap foA, slA w2.hv (w2.hs.map fun h => ptr0 h.blk) w2.hsp, w2.hs.flatMap hoA, slA w2.tv (w2.trace.flatMap deEnc) w2.tsp, B]) (fun _ => True) ?_ ?_
    · by_cases he : e = 0
      · rw [if_pos he] at ho
        simp only [he, decide_true, Bool.not_true]
        refine GO ?_
        rw [ho]
        exact ⟨(), trivial, by (repeat (first | exact Sub.nil | (apply Sub.cons; rfl))), by simp only [deEnc, noDe]; (first | with_reducible exact Imp.refl | with_reducible exact Imp.left | (focus ((try simp only [List.nil_append]); (repeat (first | exact Imp.nil | (apply Imp.cons; (focus ((repeat (first | with_reducible exact Tk.here | apply Tk.there)); done))))); done)))⟩
      · rw [if_neg he] at ho
        simp only [he, decide_false, Bool.not_false]
        refine GO ?_
        rw [ho]
        exact ⟨(), trivial, by (repeat (first | exact Sub.nil | (apply Sub.cons; rfl))), by simp only [deEnc, noDe]; (first | with_reducible exact Imp.refl | with_reducible exact Imp.left | (focus ((try simp only [List.nil_append]); (repeat (first | exact Imp.nil | (apply Imp.cons; (focus ((repeat (first | with_reducible exact Tk.here | apply Tk.there)); done))))); done)))⟩
    · rintro _ _
      simp only [deEnc, noDe]
      refine GO ?_
      refine st_bslice (out := deEnc out) (by rfl) (by rfl) (fun q4 => ?_)
      refine GO ?_
      refine st_append (k := w2.trace.length) (m := 1) (xs := w2.trace.flatMap deEnc) (sp := w2.tsp) (ys := deEnc out) (by rfl) (by rfl) ht (by (focus ((repeat (first | with_reducible exact Tk.here | apply Tk.there)); done))) (by rfl) ?_ rfl (by rfl) (by rfl) (by decide) (by omega) (fun sv' sp' hsl' => ?_)
      · exact ⟨rfl, fun a ha => by simp only [List.flatten_cons, List.mem_append]; exact .inl ha⟩
      obtain ⟨a', c', hf'⟩ := hsl'.form
      subst hf'
      refine GO ?_
      refine VC.seq (VC.draws ⟨?_, ?_, trivial⟩)
      all_goals refine GO ?_
      all_goals refine ⟨.inr rfl, _, WMem t { w2 with tv := .slice a' (w2.trace.length + 1) c', trace := w2.trace ++ [out], tsp := sp' } ++ [B], .cellN (us := deEnc out) (by rfl) (by rfl) (fun x hx => by simp only [List.flatten_cons, List.mem_append]; first | exact .inl hx | exact .inr (.inl hx) | exact .inr (.inr (.inl hx))) (.tmp (by rfl) .nil), ?_, ⟨_, hT, .inr ⟨hl, e, d', w2, out, _, sp', hq, ho, rfl, hsl', rfl⟩⟩⟩
      all_goals (simp only [WMem, List.cons_append, List.nil_append, List.flatMap_append, List.flatMap_cons, List.flatMap_nil, List.append_nil, deEnc]; (first | with_reducible exact Imp.refl | with_reducible exact Imp.left | (focus ((try simp only [List.nil_append]); (repeat (first | exact Imp.nil | (apply Imp.cons; (focus ((repeat (first | with_reducible exact Tk.here | apply Tk.there)); done))))); done))))
end Go.Proofs.YtklkngccaemjdaaGreat
namespace Go.Proofs.YtklkngccaemjdaaGreat
open Go Go.V
set_option maxHeartbeats 3200000
set_option maxRecDepth 100000
set_option linter.unusedSimpArgs false
set_option linter.unusedVariables false
/-- By a choice's fault, or as the work itself does it. -/
def FaultQ (d : De) (Qf : WR → Int → De → WR → Prop) (w1 : WR) (c : Ch) (e : Int) (d' : De) (w2 : WR) : Prop :=
  (c.kind = 4 ∧ chosenE c.n ≠ 0 ∧ e = chosenE c.n ∧ d' = d ∧ w2 = w1) ∨ (¬ (c.kind = 4 ∧ chosenE c.n ≠ 0) ∧ Qf w1 e d' w2)

theorem filed1_spec (t : Nat) (w1 : WR) (d : De) (c : Ch) (q q5 : Nat) (fv : Value) (B : List Atom) (Qf : WR → Int → De → WR → Prop)
    (hf : FunV Tryz.prog fv [ptr0 q] (WMem t w1 ++ [cellsAt q 0 (deEnc d), B]) (fun v Post => ∃ e d' w2, v = vi e ∧ Qf w1 e d' w2 ∧ Post = WMem t w2 ++ [cellsAt q 0 (deEnc d'), B])) :
    Fun Tryz.prog 111 [.agg (chEnc c).toArray, ptr0 q, ptr0 q5] (WMem t w1 ++ [cellsAt q 0 (deEnc d), cellsAt q5 0 [fv], B]) (fun v Post => ∃ e d' w2, v = vi e ∧ FaultQ d Qf w1 c e d' w2 ∧ Post = WMem t w2 ++ [cellsAt q 0 (deEnc d'), cellsAt q5 0 [fv], B]) := by
  refine Fun.intro low111 (by simp [F111]) ?_
  simp only [chEnc, WMem, List.cons_append, List.nil_append]
  refine GO ?_
  refine st_box (by rfl) (fun p => ?_)
  simp only [Value.cells]
  refine GO ?_
  have work : ∀ (hno : ¬ (c.kind = 4 ∧ chosenE c.n ≠ 0)), True := fun _ => trivial
  by_cases hk : c.kind = 4
  · simp only [hk, decide_true]
    refine GO ?_
    refine st_call (chosen_spec c.n) (by rfl) (R := cellsAt p 0 [.int .u8 4, vi c.n, .string c.text] :: (WMem t w1 ++ [cellsAt q 0 (deEnc d), cellsAt q5 0 [fv], B])) (by simp [V.Spl]) (fun v Post hv => ?_)
    obtain ⟨rfl, rfl⟩ := hv
    simp only [WMem, List.cons_append, List.nil_append]
    refine GO ?_
    by_cases he : chosenE c.n = 0
    · simp only [he, decide_true, Bool.not_true]
      refine GO ?_
      refine st_callV (by rfl) hf (by rfl) (by simp only [WMem, List.cons_append, List.nil_append]; (focus ((repeat (first | exact Spl.nil | (apply Spl.cons; (focus ((repeat (first | with_reducible exact Tk.here | apply Tk.there)); done))))); done))) (fun v Post hv => ?_)
      obtain ⟨e, d', w2, rfl, hq, rfl⟩ := hv
      simp only [WMem, List.cons_append, List.nil_append]
      refine GO ?_
      refine endQ_mk (Post := WMem t w2 ++ [cellsAt q 0 (deEnc d'), cellsAt q5 0 [fv], B]) (.inr rfl) (.tmp (by rfl) .nil) ⟨e, d', w2, rfl, .inr ⟨fun h => h.2 he, hq⟩, rfl⟩ ?_
      simp only [WMem, List.cons_append, List.nil_append]
      (first | with_reducible exact Imp.refl | with_reducible exact Imp.left | (focus ((try simp only [List.nil_append]); (repeat (first | exact Imp.nil | (apply Imp.cons; (focus ((repeat (first | with_reducible exact Tk.here | apply Tk.there)); done))))); done)))
    · simp only [he, decide_false, Bool.not_false]
      refine GO ?_
      refine endQ_mk (Post := WMem t w1 ++ [cellsAt q 0 (deEnc d), cellsAt q5 0 [fv], B]) (.inr rfl) (.tmp (by rfl) .nil) ⟨_, d, w1, rfl, .inl ⟨hk, he, rfl, rfl, rfl⟩, rfl⟩ ?_
      simp only [WMem, List.cons_append, List.nil_append]
      (first | with_reducible exact Imp.refl | with_reducible exact Imp.left | (focus ((try simp only [List.nil_append]); (repeat (first | exact Imp.nil | (apply Imp.cons; (focus ((repeat (first | with_reducible exact Tk.here | apply Tk.there)); done))))); done)))
  · simp only [hk, decide_false]
    refine GO ?_
    refine st_callV (by rfl) hf (by rfl) (by simp only [WMem, List.cons_append, List.nil_append]; (focus ((repeat (first | exact Spl.nil | (apply Spl.cons; (focus ((repeat (first | with_reducible exact Tk.here | apply Tk.there)); done))))); done))) (fun v Post hv => ?_)
    obtain ⟨e, d', w2, rfl, hq, rfl⟩ := hv
    simp only [WMem, List.cons_append, List.nil_append]
    refine GO ?_
    refine endQ_mk (Post := WMem t w2 ++ [cellsAt q 0 (deEnc d'), cellsAt q5 0 [fv], B]) (.inr rfl) (.tmp (by rfl) .nil) ⟨e, d', w2, rfl, .inr ⟨fun h => hk h.1, hq⟩, rfl⟩ ?_
    simp only [WMem, List.cons_append, List.nil_append]
    (first | with_reducible exact Imp.refl | with_reducible exact Imp.left | (focus ((try simp only [List.nil_append]); (repeat (first | exact Imp.nil | (apply Imp.cons; (focus ((repeat (first | with_reducible exact Tk.here | apply Tk.there)); done))))); done)))

theorem imp_four (S : SH) (F B Q : List Atom) : Imp (S ++ [F ++ B] ++ [Q]) ([Q, B] ++ S) := by
  refine ⟨[F], ?_⟩
  simp only [V.Spl, List.flatten_append, List.flatten_cons, List.flatten_nil, List.append_nil, List.append_assoc]
  have h1 : (S.flatten ++ (F ++ (B ++ Q))).Perm ((B ++ Q) ++ (S.flatten ++ F)) := by rw [← List.append_assoc S.flatten]; exact List.perm_append_comm
  refine h1.trans ?_
  rw [List.append_assoc]
  exact perm_lead _ _ _

theorem imp_join (S : SH) (X F B : List Atom) : Imp ([X, F, B] ++ S) ([X] ++ (S ++ [F ++ B])) := by
  refine Imp.perm ?_
  simp only [List.flatten_append, List.flatten_cons, List.flatten_nil, List.append_nil, List.append_assoc]
  refine List.Perm.append_left _ ?_
  rw [← List.append_assoc]
  exact List.perm_append_comm

theorem spl_last (S : SH) (X : List Atom) : V.Spl ([X] ++ S) S [X] := by
  simp only [V.Spl, List.flatten_append, List.flatten_cons, List.flatten_nil, List.append_nil]
  exact List.perm_append_comm

theorem spl_pair (S : SH) (X F B : List Atom) : V.Spl (S ++ [X, F ++ B]) (S ++ [X, F, B]) [] := by
  simp only [V.Spl, List.flatten_append, List.flatten_cons, List.flatten_nil, List.append_nil, List.append_assoc]
  exact .refl _

theorem imp_pair (S : SH) (X F B : List Atom) : Imp (S ++ [X, F, B] ++ []) (S ++ [X, F ++ B]) := by
  refine Imp.perm ?_
  simp only [List.flatten_append, List.flatten_cons, List.flatten_nil, List.append_nil, List.append_assoc]
  exact .refl _

theorem filed_spec (t : Nat) (w : WR) (d : De) (fv : Value) (B : List Atom) (M : Nat) (hM : M ≤ 1073741823) (Qf : WR → Int → De → WR → Prop) (h : IsSl 3 w.cv w.choices.length (w.choices.flatMap chEnc) w.csp)
    (htr : IsSl 6 w.tv w.trace.length (w.trace.flatMap deEnc) w.tsp ∧ w.trace.length ≤ M)
    (hcell : fv.cells = #[fv]) (hone : oneCell fv = true)
    (hdoes : ∀ w1 q, Taken w w1 → takeL w = true → FunV Tryz.prog fv [ptr0 q] (WMem t w1 ++ [cellsAt q 0 (deEnc d), B]) (fun v Post => ∃ e d' w2, v = vi e ∧ Qf w1 e d' w2 ∧ Post = WMem t w2 ++ [cellsAt q 0 (deEnc d'), B]))
    (hQ : ∀ w1 e d' w2, Qf w1 e d' w2 → IsSl 6 w2.tv w2.trace.length (w2.trace.flatMap deEnc) w2.tsp ∧ w2.trace.length ≤ M) :
    Fun Tryz.prog 48 [ptr0 t, .agg (deEnc d).toArray, fv] (WMem t w ++ [B]) (DeedP t w d B (fun w1 c e d' w2 => FaultQ d Qf w1 c e d' w2 ∧ Taken w w1)) := by
  refine Fun.intro low48 (by simp [F48]) ?_
  simp only [deEnc, WMem, List.cons_append, List.nil_append]
  refine GO ?_
  refine st_box (by rfl) (fun q4 => ?_)
  simp only [Value.cells]
  refine st_box (by rfl) (fun q5 => ?_)
  rw [hcell]
  refine st_alloc (fun q6 => ?_)
  refine GO ?_
  refine VO.imp (H' := [cellsAt q6 0 (deEnc noDe)] ++ (WMem t w ++ [cellsAt q5 0 [fv] ++ B])) ?_ ?_
  · exact Imp.cut (M := [cellsAt q6 0 (deEnc noDe), cellsAt q5 0 [fv], B] ++ WMem t w) (by simp only [WMem, deEnc, noDe, List.cons_append, List.nil_append]; (first | with_reducible exact Imp.refl | with_reducible exact Imp.left | (focus ((try simp only [List.nil_append]); (repeat (first | exact Imp.nil | (apply Imp.cons; (focus ((repeat (first | with_reducible exact Tk.here | apply Tk.there)); done))))); done)))) (imp_join _ _ _ _)
  have hd := deed_spec t w d (.func (.func 111) #[] #[ptr0 q5]) (cellsAt q5 0 [fv] ++ B) M hM (fun w1 c e d' w2 => FaultQ d Qf w1 c e d' w2 ∧ Taken w w1) h (fun w1 q hT hl => ?_) (fun w1 c e d' w2 hq => ?_)
  rotate_left
  · have hx := FunV.of_fun (first := #[]) (cap := #[ptr0 q5]) (args := [.agg (chEnc (takeC w)).toArray, ptr0 q]) (filed1_spec t w1 d (takeC w) q q5 fv B Qf (hdoes w1 q hT hl))
    refine hx.conv (R := []) (spl_pair _ _ _ _) ?_
    rintro v Post ⟨e, d', w2, rfl, hq, rfl⟩
    exact ⟨_, ⟨e, d', w2, rfl, ⟨hq, hT⟩, rfl⟩, imp_pair _ _ _ _⟩
  · rcases hq with ⟨⟨_, _, _, _, rfl⟩ | ⟨_, hq⟩, hT⟩
    · obtain ⟨cv', csp', cs, _, _, _, rfl⟩ := hT
      exact htr
    · exact hQ _ _ _ _ hq
  refine st_call hd (by rfl) (R := [cellsAt q6 0 (deEnc noDe)]) (spl_last _ _) (fun v Post hv => ?_)
  obtain ⟨w1, hT, hv | hv⟩ := hv
  · obtain ⟨hl, rfl, rfl⟩ := hv
    refine VO.imp (imp_four _ _ _ _) ?_
    simp only [deEnc, noDe, WMem, List.cons_append, List.nil_append]
    refine GO ?_
    refine ⟨.inr rfl, _, WMem t w1 ++ [B], .cellN (us := deEnc noDe) (by rfl) (by rfl) (fun x hx => by simp only [List.flatten_cons, List.mem_append]; exact .inl hx) (.tmp (by rfl) .nil), ?_, ⟨w1, hT, .inl ⟨hl, rfl, rfl⟩⟩⟩
    simp only [WMem, List.cons_append, List.nil_append]
    (first | with_reducible exact Imp.refl | with_reducible exact Imp.left | (focus ((try simp only [List.nil_append]); (repeat (first | exact Imp.nil | (apply Imp.cons; (focus ((repeat (first | with_reducible exact Tk.here | apply Tk.there)); done))))); done)))
  · obtain ⟨hl, e, d', w2, out, tv', tsp', hq, ho, rfl, htv, rfl⟩ := hv
    refine VO.imp (imp_four _ _ _ _) ?_
    simp only [deEnc, noDe, WMem, List.cons_append, List.nil_append]
    refine GO ?_
    refine ⟨.inr rfl, _, WMem t { w2 with tv := tv', trace := w2.trace ++ [out], tsp := tsp' } ++ [B], .cellN (us := deEnc out) (by rfl) (by rfl) (fun x hx => by simp only [List.flatten_cons, List.mem_append]; exact .inl hx) (.tmp (by rfl) .nil), ?_, ⟨w1, hT, .inr ⟨hl, e, d', w2, out, tv', tsp', hq, ho, rfl, htv, rfl⟩⟩⟩
    simp only [WMem, List.cons_append, List.nil_append, deEnc]
    (first | with_reducible exact Imp.refl | with_reducible exact Imp.left | (focus ((try simp only [List.nil_append]); (repeat (first | exact Imp.nil | (apply Imp.cons; (focus ((repeat (first | with_reducible exact Tk.here | apply Tk.there)); done))))); done)))
end Go.Proofs.YtklkngccaemjdaaGreat

/-
  The outside world: a deed.
-/
import Derived.Test.YtgindbomnbojeaaGreatP1
import Derived.Test.YtgindbomnbojeaaGreatCA
import Derived.Test.YtgindbomnbojeaaGreatV15
import Derived.Test.YtgindbomnbojeaaGreatCB
set_option linter.unusedSimpArgs false
set_option linter.unusedVariables false
namespace Go.Proofs.YtgindbomnbojeaaGreat
open Go Go.V
set_option maxHeartbeats 3200000
set_option maxRecDepth 100000
theorem deed_spec (t : Nat) (w : WR) (d : De) (fv : Value) (B : List Atom) (M : Nat) (hM : M ≤ 1073741823) (Qd : WR → Ch → Int → De → WR → Prop) (h : IsSl 3 w.cv w.choices.length (w.choices.flatMap chEnc) w.csp)
    (hdoes : ∀ w1 q, Taken w w1 → takeL w = true → FunV Tryz.prog fv [.agg (chEnc (takeC w)).toArray, ptr0 q] (WMem t w1 ++ [cellsAt q 0 (deEnc d), B]) (fun v Post => ∃ e d' w2, v = vi e ∧ Qd w1 (takeC w) e d' w2 ∧ Post = WMem t w2 ++ [cellsAt q 0 (deEnc d'), B]))
    (hQ : ∀ w1 c e d' w2, Qd w1 c e d' w2 → IsSl 6 w2.tv w2.trace.length (w2.trace.flatMap deEnc) w2.tsp ∧ w2.trace.length ≤ M) :
    Fun Tryz.prog 90 [ptr0 t, .agg (deEnc d).toArray, fv] (WMem t w ++ [B]) (DeedP t w d B Qd) := by
  refine Fun.intro low90 (by simp [n90]) ?_
  simp only [deEnc, WMem, List.cons_append, List.nil_append]
  refine GO ?_
  refine st_box (by rfl) (fun q0 => ?_)
  simp only [Value.cells]
  refine st_alloc (fun q1 => ?_)
  refine GO ?_
  refine st_call (take_spec t w h) (by rfl) (by exact SPx) (fun v Post hv => ?_)
  obtain ⟨rfl, cv', csp', cs, h1, h2, h3, rfl⟩ := hv
  have hT : Taken w { w with cv := cv', choices := cs, csp := csp', dead := !takeL w } := ⟨cv', csp', cs, h1, h2, h3, rfl⟩
  simp only [List.cons_append, List.nil_append, hdr, chEnc]
  refine GO ?_
  refine st_alloc (fun q2 => ?_)
  refine GO ?_
  cases hl : takeL w with
  | false =>
    rw [hl] at hT
    simp only [Bool.not_false] at hT ⊢
    refine GO ?_
    refine ⟨.inr rfl, _, WMem t { w with cv := cv', choices := cs, csp := csp', dead := true } ++ [B], .cellN (us := deEnc noDe) (by rfl) (by rfl) (fun x hx => by simp only [List.flatten_cons, List.mem_append]; exact .inr (.inr (.inr (.inl hx)))) (.tmp (by rfl) .nil), ?_, ⟨_, hT, .inl ⟨hl, rfl, rfl⟩⟩⟩
    simp only [WMem, List.cons_append, List.nil_append]
    exact IMx
  | true =>
    rw [hl] at hT
    simp only [Bool.not_true] at hT ⊢
    refine GO ?_
    refine st_alloc (fun q3 => ?_)
    refine GO ?_
    refine st_callV (by rfl) (hdoes _ q3 hT hl) (by rfl) (by simp only [WMem, deEnc, List.cons_append, List.nil_append]; exact SPx) (fun v Post hv => ?_)
    obtain ⟨e, d', w2, rfl, hq, rfl⟩ := hv
    obtain ⟨ht, htm⟩ := hQ _ _ _ _ _ hq
    simp only [WMem, deEnc, List.cons_append, List.nil_append]
    refine GO ?_
    obtain ⟨out, ho⟩ : ∃ out : De, out = (if e = 0 then d' else { d with err := e }) := ⟨_, rfl⟩
    refine VC.meet (α := Unit) (fun _ => [(0, ptr0 t), (6, ptr0 q1), (10, ptr0 q3)])
      (fun _ => [cellsAt q1 0 (deEnc noDe), cellsAt q3 0 (deEnc out), cellsAt t 0 [w2.cv, .map (some w2.fm), w2.hv, w2.tv, vi w2.clock, vi w2.seq, .bool w2.dead], slA w2.cv (w2.choices.flatMap chEnc) w2.csp, [.obj w2.fm (.map w2.fes w2.fc)], w2.objs.flatMap foA, slA w2.hv (w2.hs.map fun h => ptr0 h.blk) w2.hsp, w2.hs.flatMap hoA, slA w2.tv (w2.trace.flatMap deEnc) w2.tsp, B]) (fun _ => True) ?_ ?_
    · by_cases he : e = 0
      · rw [if_pos he] at ho
        simp only [he, decide_true, Bool.not_true]
        refine GO ?_
        rw [ho]
        exact ⟨(), trivial, by exact SUx, by simp only [deEnc, noDe]; exact IMx⟩
      · rw [if_neg he] at ho
        simp only [he, decide_false, Bool.not_false]
        refine GO ?_
        rw [ho]
        exact ⟨(), trivial, by exact SUx, by simp only [deEnc, noDe]; exact IMx⟩
    · rintro _ _
      simp only [deEnc, noDe]
      refine GO ?_
      refine st_bslice (out := deEnc out) (by rfl) (by rfl) (fun q4 => ?_)
      refine GO ?_
      refine st_append (k := w2.trace.length) (m := 1) (xs := w2.trace.flatMap deEnc) (sp := w2.tsp) (ys := deEnc out) (by rfl) (by rfl) ht (by exact TKx) (by rfl) ?_ rfl (by rfl) (by rfl) (by decide) (by omega) (fun sv' sp' hsl' => ?_)
      · exact ⟨rfl, fun a ha => by simp only [List.flatten_cons, List.mem_append]; exact .inl ha⟩
      obtain ⟨a', c', hf'⟩ := hsl'.form
      subst hf'
      refine GO ?_
      refine VC.seq (VC.draws ⟨?_, ?_, trivial⟩)
      all_goals refine GO ?_
      all_goals refine ⟨.inr rfl, _, WMem t { w2 with tv := .slice a' (w2.trace.length + 1) c', trace := w2.trace ++ [out], tsp := sp' } ++ [B], .cellN (us := deEnc out) (by rfl) (by rfl) (fun x hx => by simp only [List.flatten_cons, List.mem_append]; first | exact .inl hx | exact .inr (.inl hx) | exact .inr (.inr (.inl hx))) (.tmp (by rfl) .nil), ?_, ⟨_, hT, .inr ⟨hl, e, d', w2, out, _, sp', hq, ho, rfl, hsl', rfl⟩⟩⟩
      all_goals (simp only [WMem, List.cons_append, List.nil_append, List.flatMap_append, List.flatMap_cons, List.flatMap_nil, List.append_nil, deEnc]; exact IMx)
def FaultQ (d : De) (Qf : WR → Int → De → WR → Prop) (w1 : WR) (c : Ch) (e : Int) (d' : De) (w2 : WR) : Prop :=
  (c.kind = 4 ∧ chosenE c.n ≠ 0 ∧ e = chosenE c.n ∧ d' = d ∧ w2 = w1) ∨ (¬ (c.kind = 4 ∧ chosenE c.n ≠ 0) ∧ Qf w1 e d' w2)
theorem filed1_spec (t : Nat) (w1 : WR) (d : De) (c : Ch) (q q5 : Nat) (fv : Value) (B : List Atom) (Qf : WR → Int → De → WR → Prop)
    (hf : FunV Tryz.prog fv [ptr0 q] (WMem t w1 ++ [cellsAt q 0 (deEnc d), B]) (fun v Post => ∃ e d' w2, v = vi e ∧ Qf w1 e d' w2 ∧ Post = WMem t w2 ++ [cellsAt q 0 (deEnc d'), B])) :
    Fun Tryz.prog 119 [.agg (chEnc c).toArray, ptr0 q, ptr0 q5] (WMem t w1 ++ [cellsAt q 0 (deEnc d), cellsAt q5 0 [fv], B]) (fun v Post => ∃ e d' w2, v = vi e ∧ FaultQ d Qf w1 c e d' w2 ∧ Post = WMem t w2 ++ [cellsAt q 0 (deEnc d'), cellsAt q5 0 [fv], B]) := by
  refine Fun.intro low119 (by simp [n119]) ?_
  simp only [chEnc, WMem, List.cons_append, List.nil_append]
  refine GO ?_
  refine st_box (by rfl) (fun p => ?_)
  simp only [Value.cells]
  refine GO ?_
  have work : ∀ (hno : ¬ (c.kind = 4 ∧ chosenE c.n ≠ 0)), True := fun _ => trivial
  by_cases hk : c.kind = 4
  · simp only [hk, decide_true]
    refine GO ?_
    refine st_call (chosen_spec c.n) (by rfl) (R := cellsAt p 0 [.int .u8 4, vi c.n, .string c.text] :: (WMem t w1 ++ [cellsAt q 0 (deEnc d), cellsAt q5 0 [fv], B])) (by simp [V.Spl]) (fun v Post hv => ?_)
    obtain ⟨rfl, rfl⟩ := hv
    simp only [WMem, List.cons_append, List.nil_append]
    refine GO ?_
    by_cases he : chosenE c.n = 0
    · simp only [he, decide_true, Bool.not_true]
      refine GO ?_
      refine st_callV (by rfl) hf (by rfl) (by simp only [WMem, List.cons_append, List.nil_append]; exact SPx) (fun v Post hv => ?_)
      obtain ⟨e, d', w2, rfl, hq, rfl⟩ := hv
      simp only [WMem, List.cons_append, List.nil_append]
      refine GO ?_
      refine endQ_mk (Post := WMem t w2 ++ [cellsAt q 0 (deEnc d'), cellsAt q5 0 [fv], B]) (.inr rfl) (.tmp (by rfl) .nil) ⟨e, d', w2, rfl, .inr ⟨fun h => h.2 he, hq⟩, rfl⟩ ?_
      simp only [WMem, List.cons_append, List.nil_append]
      exact IMx
    · simp only [he, decide_false, Bool.not_false]
      refine GO ?_
      refine endQ_mk (Post := WMem t w1 ++ [cellsAt q 0 (deEnc d), cellsAt q5 0 [fv], B]) (.inr rfl) (.tmp (by rfl) .nil) ⟨_, d, w1, rfl, .inl ⟨hk, he, rfl, rfl, rfl⟩, rfl⟩ ?_
      simp only [WMem, List.cons_append, List.nil_append]
      exact IMx
  · simp only [hk, decide_false]
    refine GO ?_
    refine st_callV (by rfl) hf (by rfl) (by simp only [WMem, List.cons_append, List.nil_append]; exact SPx) (fun v Post hv => ?_)
    obtain ⟨e, d', w2, rfl, hq, rfl⟩ := hv
    simp only [WMem, List.cons_append, List.nil_append]
    refine GO ?_
    refine endQ_mk (Post := WMem t w2 ++ [cellsAt q 0 (deEnc d'), cellsAt q5 0 [fv], B]) (.inr rfl) (.tmp (by rfl) .nil) ⟨e, d', w2, rfl, .inr ⟨fun h => hk h.1, hq⟩, rfl⟩ ?_
    simp only [WMem, List.cons_append, List.nil_append]
    exact IMx
theorem imp_four (S : SH) (F B Q : List Atom) : Imp (S ++ [F ++ B] ++ [Q]) ([Q, B] ++ S) := by
  refine ⟨[F], ?_⟩
  simp only [V.Spl, List.flatten_append, List.flatten_cons, List.flatten_nil, List.append_nil, List.append_assoc]
  have h1 : (S.flatten ++ (F ++ (B ++ Q))).Perm ((B ++ Q) ++ (S.flatten ++ F)) := by rw [← List.append_assoc S.flatten]; exact List.perm_append_comm
  refine h1.trans ?_
  rw [List.append_assoc]
  exact perm_lead _ _ _
theorem imp_join (S : SH) (X F B : List Atom) : Imp ([X, F, B] ++ S) ([X] ++ (S ++ [F ++ B])) := by
  refine Imp.perm ?_
  simp only [List.flatten_append, List.flatten_cons, List.flatten_nil, List.append_nil, List.append_assoc]
  refine List.Perm.append_left _ ?_
  rw [← List.append_assoc]
  exact List.perm_append_comm
theorem spl_last (S : SH) (X : List Atom) : V.Spl ([X] ++ S) S [X] := by
  simp only [V.Spl, List.flatten_append, List.flatten_cons, List.flatten_nil, List.append_nil]
  exact List.perm_append_comm
theorem spl_pair (S : SH) (X F B : List Atom) : V.Spl (S ++ [X, F ++ B]) (S ++ [X, F, B]) [] := by
  simp only [V.Spl, List.flatten_append, List.flatten_cons, List.flatten_nil, List.append_nil, List.append_assoc]
  exact .refl _
theorem imp_pair (S : SH) (X F B : List Atom) : Imp (S ++ [X, F, B] ++ []) (S ++ [X, F ++ B]) := by
  refine Imp.perm ?_
  simp only [List.flatten_append, List.flatten_cons, List.flatten_nil, List.append_nil, List.append_assoc]
  exact .refl _
theorem filed_spec (t : Nat) (w : WR) (d : De) (fv : Value) (B : List Atom) (M : Nat) (hM : M ≤ 1073741823) (Qf : WR → Int → De → WR → Prop) (h : IsSl 3 w.cv w.choices.length (w.choices.flatMap chEnc) w.csp)
    (htr : IsSl 6 w.tv w.trace.length (w.trace.flatMap deEnc) w.tsp ∧ w.trace.length ≤ M)
    (hcell : fv.cells = #[fv]) (hone : oneCell fv = true)
    (hdoes : ∀ w1 q, Taken w w1 → takeL w = true → FunV Tryz.prog fv [ptr0 q] (WMem t w1 ++ [cellsAt q 0 (deEnc d), B]) (fun v Post => ∃ e d' w2, v = vi e ∧ Qf w1 e d' w2 ∧ Post = WMem t w2 ++ [cellsAt q 0 (deEnc d'), B]))
    (hQ : ∀ w1 e d' w2, Qf w1 e d' w2 → IsSl 6 w2.tv w2.trace.length (w2.trace.flatMap deEnc) w2.tsp ∧ w2.trace.length ≤ M) :
    Fun Tryz.prog 81 [ptr0 t, .agg (deEnc d).toArray, fv] (WMem t w ++ [B]) (DeedP t w d B (fun w1 c e d' w2 => FaultQ d Qf w1 c e d' w2 ∧ Taken w w1)) := by
  refine Fun.intro low81 (by simp [n81]) ?_
  simp only [deEnc, WMem, List.cons_append, List.nil_append]
  refine GO ?_
  refine st_box (by rfl) (fun q4 => ?_)
  simp only [Value.cells]
  refine st_box (by rfl) (fun q5 => ?_)
  rw [hcell]
  refine st_alloc (fun q6 => ?_)
  refine GO ?_
  refine VO.imp (H' := [cellsAt q6 0 (deEnc noDe)] ++ (WMem t w ++ [cellsAt q5 0 [fv] ++ B])) ?_ ?_
  · exact Imp.cut (M := [cellsAt q6 0 (deEnc noDe), cellsAt q5 0 [fv], B] ++ WMem t w) (by simp only [WMem, deEnc, noDe, List.cons_append, List.nil_append]; exact IMx) (imp_join _ _ _ _)
  have hd := deed_spec t w d (.func (.func 119) #[] #[ptr0 q5]) (cellsAt q5 0 [fv] ++ B) M hM (fun w1 c e d' w2 => FaultQ d Qf w1 c e d' w2 ∧ Taken w w1) h (fun w1 q hT hl => ?_) (fun w1 c e d' w2 hq => ?_)
  rotate_left
  · have hx := FunV.of_fun (first := #[]) (cap := #[ptr0 q5]) (args := [.agg (chEnc (takeC w)).toArray, ptr0 q]) (filed1_spec t w1 d (takeC w) q q5 fv B Qf (hdoes w1 q hT hl))
    refine hx.conv (R := []) (spl_pair _ _ _ _) ?_
    rintro v Post ⟨e, d', w2, rfl, hq, rfl⟩
    exact ⟨_, ⟨e, d', w2, rfl, ⟨hq, hT⟩, rfl⟩, imp_pair _ _ _ _⟩
  · rcases hq with ⟨⟨_, _, _, _, rfl⟩ | ⟨_, hq⟩, hT⟩
    · obtain ⟨cv', csp', cs, _, _, _, rfl⟩ := hT
      exact htr
    · exact hQ _ _ _ _ hq
  refine st_call hd (by rfl) (R := [cellsAt q6 0 (deEnc noDe)]) (spl_last _ _) (fun v Post hv => ?_)
  obtain ⟨w1, hT, hv | hv⟩ := hv
  · obtain ⟨hl, rfl, rfl⟩ := hv
    refine VO.imp (imp_four _ _ _ _) ?_
    simp only [deEnc, noDe, WMem, List.cons_append, List.nil_append]
    refine GO ?_
    refine ⟨.inr rfl, _, WMem t w1 ++ [B], .cellN (us := deEnc noDe) (by rfl) (by rfl) (fun x hx => by simp only [List.flatten_cons, List.mem_append]; exact .inl hx) (.tmp (by rfl) .nil), ?_, ⟨w1, hT, .inl ⟨hl, rfl, rfl⟩⟩⟩
    simp only [WMem, List.cons_append, List.nil_append]
    exact IMx
  · obtain ⟨hl, e, d', w2, out, tv', tsp', hq, ho, rfl, htv, rfl⟩ := hv
    refine VO.imp (imp_four _ _ _ _) ?_
    simp only [deEnc, noDe, WMem, List.cons_append, List.nil_append]
    refine GO ?_
    refine ⟨.inr rfl, _, WMem t { w2 with tv := tv', trace := w2.trace ++ [out], tsp := tsp' } ++ [B], .cellN (us := deEnc out) (by rfl) (by rfl) (fun x hx => by simp only [List.flatten_cons, List.mem_append]; exact .inl hx) (.tmp (by rfl) .nil), ?_, ⟨w1, hT, .inr ⟨hl, e, d', w2, out, tv', tsp', hq, ho, rfl, htv, rfl⟩⟩⟩
    simp only [WMem, List.cons_append, List.nil_append, deEnc]
    exact IMx
theorem on_spec (x : Wr) (bv : Value) (l : List UInt8) (sp : List Value) (hx : 0 ≤ x.at_ ∧ x.at_ + x.text.size ≤ 4194304) (hl : l.length ≤ 4194304) (hsl : IsSl 1 bv l.length (l.map u8v) sp) :
    Fun Tryz.prog 64 [.agg (wrEnc x).toArray, bv] [slA bv (l.map u8v) sp] (fun v Post => ∃ sp', IsSl 1 v (onL x l).length ((onL x l).map u8v) sp' ∧ Post = [slA v ((onL x l).map u8v) sp']) := by
  refine Fun.intro low64 (by simp [n64]) ?_
  simp only [wrEnc]
  obtain ⟨ba, bc, rfl⟩ := hsl.form
  refine GO ?_
  refine st_box (by rfl) (fun p => ?_)
  simp only [Value.cells]
  obtain ⟨at_, hat⟩ : ∃ a : Nat, x.at_ = a := ⟨x.at_.toNat, by omega⟩
  have hat2 : x.at_.toNat = at_ := by omega
  cases he : x.empty
  · refine GO ?_
    refine VC.meet (α := Value × List UInt8 × List Value) (fun s => [(1, s.1), (2, ptr0 p)]) (fun s => [cellsAt p 0 [vi x.seq, vi x.at_, .string x.text, .bool false], slA s.1 (s.2.1.map u8v) s.2.2])
      (fun s => s.2.1 = l ++ List.replicate (at_ + x.text.size - l.length) 0 ∧ IsSl 1 s.1 s.2.1.length (s.2.1.map u8v) s.2.2) ?_ ?_
    · by_cases hn : 0 < x.at_ + ↑x.text.size - ↑l.length
      · simp only [hn, decide_true]
        refine GO ?_
        have hm : x.at_ + ↑x.text.size - ↑l.length = ((at_ + x.text.size - l.length : Nat) : Int) := by omega
        rw [hm]
        have hz : zeroRow (at_ + x.text.size - l.length) [Value.int .u8 0] = (List.replicate (at_ + x.text.size - l.length) (0 : UInt8)).map u8v := by
          rw [List.map_replicate]
          refine List.eq_replicate_iff.2 ⟨by rw [zeroRow_length]; simp, fun v hv => ?_⟩
          obtain ⟨i, _, rfl⟩ := List.mem_map.1 hv
          simp only [List.length_cons, List.length_nil, Nat.zero_add, Nat.mod_one]
          rfl
        refine st_grow (by rfl) (by rfl) hsl (by exact TKx) (by rw [hz]; simp only [List.all_map]; exact List.all_eq_true.2 (fun _ _ => rfl)) (by rfl) (by decide) (by decide) (by omega) (fun sv' sp' hI => ?_)
        rw [hz, ← List.map_append] at hI ⊢
        refine GO ?_
        refine ⟨(sv', l ++ List.replicate (at_ + x.text.size - l.length) 0, sp'), ⟨rfl, ?_⟩, by exact SUx, by exact IMx⟩
        simpa using hI
      · simp only [hn, decide_false]
        refine GO ?_
        have h0 : at_ + x.text.size - l.length = 0 := by omega
        refine ⟨(.slice ba l.length bc, l, sp), ⟨by rw [h0]; simp, hsl⟩, by exact SUx, by exact IMx⟩
    · rintro ⟨sv, m, sp'⟩ ⟨rfl, hI⟩
      simp only at hI ⊢
      refine GO ?_
      refine st_slcAt (by rfl) hI (.num (k := .i64) (m := at_) (by rw [hat]; rfl)) (by simp; omega) (fun dv hdv => ?_)
      refine GO ?_
      refine st_copyS (by rfl) (by rfl) hI hdv (by simp; omega) (by exact TKx) ?_
      refine GO ?_
      have hres : onL x l = (l ++ List.replicate (at_ + x.text.size - l.length) 0).take at_ ++ x.text.data.toList ++ (l ++ List.replicate (at_ + x.text.size - l.length) 0).drop (at_ + x.text.size) := by
        simp only [onL, he, hat2, Bool.false_eq_true, ↓reduceIte]
      have hmap : (onL x l).map u8v = ((l ++ List.replicate (at_ + x.text.size - l.length) 0).map u8v).take at_ ++ sBytes x.text ++ ((l ++ List.replicate (at_ + x.text.size - l.length) 0).map u8v).drop (at_ + x.text.size) := by
        rw [hres, List.map_append, List.map_append, List.map_take, List.map_drop]; rfl
      have hlen : (onL x l).length = (l ++ List.replicate (at_ + x.text.size - l.length) 0).length := by
        rw [onL_length he, hat2]; simp only [List.length_append, List.length_replicate]
        show max _ _ = _
        omega
      rw [← hmap]
      refine endQ_mk (Post := [slA sv ((onL x l).map u8v) sp']) (.inr rfl) (.tmp (by rfl) .nil) ⟨sp', ?_, rfl⟩ (by exact IMx)
      rw [hlen]
      exact hI.other (by simp [hlen])
  · refine GO ?_
    have hres : onL x l = [] := by simp [onL, he]
    rw [hres]
    exact endQ_mk (Post := [slA (.slice none 0 0) (([] : List UInt8).map u8v) []]) (.inr rfl) (.tmp (by rfl) .nil) ⟨[], .nil, rfl⟩ (imp_nil _)
theorem does_spec (f : Nat) (x : Wr) (nv bv wv : Value) (l : List UInt8) (ns : List Value) (ws : List Wr) (wsp : List Value) (hx : 0 ≤ x.at_ ∧ x.at_ + x.text.size ≤ 4194304) (hl : l.length ≤ 4194304)
    (hn : IsSl 1 nv l.length (l.map u8v) ns) (hw : IsSl 4 wv ws.length (ws.flatMap wrEnc) wsp) (hm : ws.length ≤ 1073741823) :
    Fun Tryz.prog 84 [ptr0 f, .agg (wrEnc x).toArray] [cellsAt f 0 [nv, bv, wv], slA nv (l.map u8v) ns, slA wv (ws.flatMap wrEnc) wsp]
      (fun _ Post => ∃ nv' ns' wv' wsp', IsSl 1 nv' (onL x l).length ((onL x l).map u8v) ns' ∧ IsSl 4 wv' (ws.length + 1) (ws.flatMap wrEnc ++ wrEnc x) wsp' ∧
        Post = [cellsAt f 0 [nv', bv, wv'], slA nv' ((onL x l).map u8v) ns', slA wv' (ws.flatMap wrEnc ++ wrEnc x) wsp']) := by
  refine Fun.intro low84 (by simp [n84]) ?_
  simp only [wrEnc]
  obtain ⟨na, nc, rfl⟩ := hn.form
  obtain ⟨wa, wc, rfl⟩ := hw.form
  refine GO ?_
  refine st_box (by rfl) (fun p => ?_)
  simp only [Value.cells]
  refine GO ?_
  refine st_call (on_spec x _ l ns hx hl hn) (by rfl) (by exact SPx) (fun v Post hv => ?_)
  obtain ⟨ns', hn', rfl⟩ := hv
  simp only [CNx]
  obtain ⟨na', nc', rfl⟩ := hn'.form
  refine GO ?_
  refine st_bslice (out := wrEnc x) (by rfl) (by rfl) (fun q3 => ?_)
  refine GO ?_
  refine st_append (k := ws.length) (m := 1) (xs := ws.flatMap wrEnc) (sp := wsp) (ys := wrEnc x) (by rfl) (by rfl) hw (by exact TKx) (by rfl) ?_ rfl (by rfl) (by rfl) (by decide) (by omega) (fun sv' sp' hsl' => ?_)
  · exact ⟨rfl, fun a ha => by simp only [List.flatten_cons, List.mem_append]; exact .inl ha⟩
  obtain ⟨a', c', hf'⟩ := hsl'.form
  subst hf'
  refine GO ?_
  exact endQ_mk (Post := [cellsAt f 0 [.slice na' (onL x l).length nc', bv, .slice a' (ws.length + 1) c'], slA (.slice na' (onL x l).length nc') ((onL x l).map u8v) ns', slA (.slice a' (ws.length + 1) c') (ws.flatMap wrEnc ++ wrEnc x) sp']) (.inl rfl) .nil ⟨_, ns', _, sp', hn', hsl', rfl⟩ (by exact IMx)
end Go.Proofs.YtgindbomnbojeaaGreat
namespace Go.V
open Go
theorem deed_end {w w2 : WR} {a : AW} {M : Nat} {d out : De} {F : AW → Ch → Int × De × AW} {tv' : Value} {tsp' : List Value} (hR : Rep w a M) (hl : liveA a = true) (h3 : Rep w2 (F (takeA a) (chA a)).2.2 (M + 1)) (h4 : (F (takeA a) (chA a)).2.2.trace = a.trace)
    (ho : out = if (F (takeA a) (chA a)).1 = 0 then (F (takeA a) (chA a)).2.1 else { d with err := (F (takeA a) (chA a)).1 }) (hs : IsSl 6 tv' (w2.trace.length + 1) (w2.trace.flatMap deEnc ++ deEnc out) tsp') :
    Rep { w2 with tv := tv', trace := w2.trace ++ [out], tsp := tsp' } (deedA a d F).2.2 (M + 1) ∧ (deedA a d F).1 = out ∧ (deedA a d F).2.1 = out.err := by
  have hd : deedA a d F = (out, out.err, { (F (takeA a) (chA a)).2.2 with trace := (F (takeA a) (chA a)).2.2.trace ++ [out] }) := by
    simp only [deedA, hl, if_true, ho]
  rw [hd]
  have htr : w2.trace.length ≤ M := by
    rw [h3.tr, h4, ← hR.tr]; exact hR.ok.trmany
  refine ⟨{ h3 with tr := by simp only [h3.tr], ok := { h3.ok with tr := ?_, trmany := ?_ } }, rfl, rfl⟩
  · simpa [List.flatMap_append] using hs
  · simp only [List.length_append, List.length_singleton]; omega
end Go.V
namespace Go.Proofs.YtgindbomnbojeaaGreat
open Go Go.V
set_option maxHeartbeats 3200000
set_option maxRecDepth 100000
theorem deedR (t : Nat) (w : WR) (a : AW) (M : Nat) (d : De) (fv : Value) (B : List Atom) (f : AW → Ch → Int × De × AW) (hR : Rep w a M) (hM : M + 1 ≤ 1073741823) (ht : (f (takeA a) (chA a)).2.2.trace = a.trace)
    (hdoes : ∀ w1 q, Rep w1 (takeA a) M → FunV Tryz.prog fv [.agg (chEnc (chA a)).toArray, ptr0 q] (WMem t w1 ++ [cellsAt q 0 (deEnc d), B]) (fun v Post => ∃ w2, v = vi (f (takeA a) (chA a)).1 ∧ Rep w2 (f (takeA a) (chA a)).2.2 (M + 1) ∧ Post = WMem t w2 ++ [cellsAt q 0 (deEnc (f (takeA a) (chA a)).2.1), B])) :
    Fun Tryz.prog 90 [ptr0 t, .agg (deEnc d).toArray, fv] (WMem t w ++ [B]) (fun v Post => ∃ w', Rep w' (deedA a d f).2.2 (M + 1) ∧ v = .tuple #[.agg (deEnc (deedA a d f).1).toArray, vi (deedA a d f).2.1] ∧ Post = WMem t w' ++ [B]) := by
  refine (deed_spec t w d fv B (M + 1) (by omega) (fun w1 c e d' w2 => e = (f (takeA a) (chA a)).1 ∧ d' = (f (takeA a) (chA a)).2.1 ∧ Rep w2 (f (takeA a) (chA a)).2.2 (M + 1)) hR.ok.ch (fun w1 q hT hl => ?_) (fun w1 c e d' w2 hq => ⟨hq.2.2.ok.tr, hq.2.2.ok.trmany⟩)).mono ?_
  · rw [(hR.take hT).2.1]
    refine (hdoes w1 q (hR.take hT).1).mono ?_
    rintro v Post ⟨w2, rfl, h2, rfl⟩
    exact ⟨_, _, w2, rfl, ⟨rfl, rfl, h2⟩, rfl⟩
  · rintro v Post ⟨w1, hT, hv⟩
    obtain ⟨hR1, hc, hl⟩ := hR.take hT
    rcases hv with ⟨h1, rfl, rfl⟩ | ⟨h1, e, d', w2, out, tv', tsp', hq, ho, rfl, hs, rfl⟩
    · have : deedA a d f = (noDe, 36, takeA a) := by simp [deedA, ← hl, h1]
      rw [this]; exact ⟨w1, hR1.mono (by omega), rfl, rfl⟩
    · obtain ⟨rfl, rfl, h3⟩ := hq
      obtain ⟨g1, g2, g3⟩ := deed_end hR (by rw [← hl, h1]) h3 ht ho hs
      exact ⟨_, g1, by rw [g2, g3], rfl⟩
theorem filedR (t : Nat) (w : WR) (a : AW) (M : Nat) (d : De) (fv : Value) (B : List Atom) (f : AW → Int × De × AW) (hR : Rep w a M) (hM : M + 1 ≤ 1073741823) (ht : (f (takeA a)).2.2.trace = a.trace)
    (hcell : fv.cells = #[fv]) (hone : oneCell fv = true)
    (hdoes : ∀ w1 q, Rep w1 (takeA a) M → FunV Tryz.prog fv [ptr0 q] (WMem t w1 ++ [cellsAt q 0 (deEnc d), B]) (fun v Post => ∃ w2, v = vi (f (takeA a)).1 ∧ Rep w2 (f (takeA a)).2.2 (M + 1) ∧ Post = WMem t w2 ++ [cellsAt q 0 (deEnc (f (takeA a)).2.1), B])) :
    Fun Tryz.prog 81 [ptr0 t, .agg (deEnc d).toArray, fv] (WMem t w ++ [B]) (fun v Post => ∃ w', Rep w' (deedA a d (faultA d f)).2.2 (M + 1) ∧ v = .tuple #[.agg (deEnc (deedA a d (faultA d f)).1).toArray, vi (deedA a d (faultA d f)).2.1] ∧ Post = WMem t w' ++ [B]) := by
  refine (filed_spec t w d fv B (M + 1) (by omega) (fun w1 e d' w2 => e = (f (takeA a)).1 ∧ d' = (f (takeA a)).2.1 ∧ Rep w2 (f (takeA a)).2.2 (M + 1)) hR.ok.ch ⟨hR.ok.tr, by have := hR.ok.trmany; omega⟩ hcell hone (fun w1 q hT hl => ?_) (fun w1 e d' w2 hq => ⟨hq.2.2.ok.tr, hq.2.2.ok.trmany⟩)).mono ?_
  · refine (hdoes w1 q (hR.take hT).1).mono ?_
    rintro v Post ⟨w2, rfl, h2, rfl⟩
    exact ⟨_, _, w2, rfl, ⟨rfl, rfl, h2⟩, rfl⟩
  · rintro v Post ⟨w1, hT, hv⟩
    obtain ⟨hR1, hc, hl⟩ := hR.take hT
    rcases hv with ⟨h1, rfl, rfl⟩ | ⟨h1, e, d', w2, out, tv', tsp', ⟨hq, _⟩, ho, rfl, hs, rfl⟩
    · have : deedA a d (faultA d f) = (noDe, 36, takeA a) := by simp [deedA, ← hl, h1]
      rw [this]; exact ⟨w1, hR1.mono (by omega), rfl, rfl⟩
    · rw [hc] at hq
      have key : e = (faultA d f (takeA a) (chA a)).1 ∧ d' = (faultA d f (takeA a) (chA a)).2.1 ∧ Rep w2 (faultA d f (takeA a) (chA a)).2.2 (M + 1) ∧ (faultA d f (takeA a) (chA a)).2.2.trace = a.trace := by
        rcases hq with ⟨k1, k2, rfl, rfl, rfl⟩ | ⟨k1, rfl, rfl, k3⟩
        · simp only [faultA, if_pos (And.intro k1 k2)]; exact ⟨trivial, trivial, hR1.mono (by omega), rfl⟩
        · simp only [faultA, if_neg k1]; exact ⟨trivial, trivial, k3, ht⟩
      obtain ⟨rfl, rfl, h3, h4⟩ := key
      obtain ⟨g1, g2, g3⟩ := deed_end hR (by rw [← hl, h1]) h3 h4 ho hs
      exact ⟨_, g1, by rw [g2, g3], rfl⟩
theorem seek1_spec (t : Nat) (w : WR) (a : AW) (M : Nat) (hM : M ≤ 1073741822) (hR : Rep w a M) (n at_ : Int) (q b3 b4 b5 : Nat) (d : De) :
    Fun Tryz.prog 98 [ptr0 q, ptr0 b3, ptr0 b4, ptr0 b5] (WMem t w ++ [cellsAt q 0 (deEnc d), cellsAt b3 0 [ptr0 t], cellsAt b4 0 [vi n], cellsAt b5 0 [vi at_]])
      (fun v Post => ∃ w2, v = vi (seekF n at_ d a).1 ∧ Rep w2 (seekF n at_ d a).2.2 (M + 1) ∧ Post = WMem t w2 ++ [cellsAt q 0 (deEnc (seekF n at_ d a).2.1), cellsAt b3 0 [ptr0 t], cellsAt b4 0 [vi n], cellsAt b5 0 [vi at_]]) := by
  refine Fun.intro low98 (by simp [n98]) ?_
  simp only [WMem, List.cons_append, List.nil_append]
  have hmany := hR.ok.hmany
  refine GO ?_
  refine st_call (held_spec t w n false hR.ok.hv (by omega)) (by rfl) (by simp only [hdr]; exact SPx) (fun v Post hv => ?_)
  obtain ⟨⟨p, rfl, hp1, hp2⟩, rfl⟩ := hv
  rw [hR.held] at hp1 hp2
  simp only [hR.held, hdr, List.cons_append, List.nil_append]
  refine GO ?_
  by_cases he : heldE a.hs n false = 0
  rotate_left
  · simp only [he, decide_false, Bool.not_false]
    refine GO ?_
    rw [show seekF n at_ d a = (heldE a.hs n false, d, a) from by simp [seekF, he]]; refine endQ_mk (Post := WMem t w ++ [cellsAt q 0 (deEnc d), cellsAt b3 0 [ptr0 t], cellsAt b4 0 [vi n], cellsAt b5 0 [vi at_]]) (.inr rfl) (.tmp (by rfl) .nil) ⟨w, rfl, hR.mono (Nat.le_succ M), rfl⟩ ?_
    simp only [WMem, List.cons_append, List.nil_append]; exact IMx
  obtain ⟨x, y, b, j, fo, hn1, hx, hy, hxc, hxs, hyc, hys, hmode, hat, hxf, hyf, hob, hfi, hfo, hrange⟩ := hR.opened he
  obtain rfl : p = ptr0 x.blk := hp1 x he hx
  have hgH : getH a n = y := by simp only [getH, hy, Option.getD_some]
  have hgF : getF a n = foF fo := by simp only [getF, hgH, hyf, Option.getD_some, hfi]
  obtain ⟨frest, hf1, hf2⟩ := flat_take (f := foA) hob
  obtain ⟨hrest, hh1, hh2⟩ := flat_take (f := hoA) hx
  obtain ⟨now, base, writes, nv, bv, wv, ns, bs, ws⟩ := fo
  obtain ⟨blk, closed, stale, file, mode, hat0⟩ := x
  simp only at hxf hxc hxs hmode hat hrange
  subst hxf hxc hxs
  have hnow := hfo.now
  have hlen := hfo.len
  simp only at hnow hlen
  obtain ⟨na, nc, rfl⟩ := hnow.form
  simp only [he, decide_true, Bool.not_true]
  refine VC.imp (imp_tk (x := w.hs.flatMap hoA) [hoA ⟨blk, false, false, some b, mode, hat0⟩, hrest] (by exact TKx) (by simpa using hh1)) ?_
  simp only [hoA, hoEnc, pf, Option.map_some, List.cons_append, List.nil_append]
  have hF : (w.objs.flatMap foA).Perm (List.flatten [cellsAt b 0 [.slice na now.length nc, bv, wv], slA (.slice na now.length nc) (now.map u8v) ns, slA bv (base.map u8v) bs, slA wv (writes.flatMap wrEnc) ws, frest]) := by simpa [foA] using hf1
  have hH : (w.hs.flatMap hoA).Perm (List.flatten [cellsAt blk 0 [.bool false, .bool false, ptr0 b, vi mode, vi hat0], hrest]) := by simpa [hoA, hoEnc, pf] using hh1
  refine VC.imp (imp_tk (x := w.objs.flatMap foA) [cellsAt b 0 [.slice na now.length nc, bv, wv], slA (.slice na now.length nc) (now.map u8v) ns, slA bv (base.map u8v) bs, slA wv (writes.flatMap wrEnc) ws, frest] (by exact TKx) hF) ?_
  simp only [CNx]
  have hnl : (getF a n).now.length = now.length := by rw [hgF]; rfl
  refine GO ?_
  by_cases h0 : at_ < 0
  · simp only [h0, decide_true]
    refine GO ?_
    have hc : ¬ (0 ≤ at_ ∧ at_ ≤ (getF a n).now.length) := by omega
    rw [show seekF n at_ d a = (1, d, a) from by simp [seekF, he, hc]]; refine endQ_mk (Post := WMem t w ++ [cellsAt q 0 (deEnc d), cellsAt b3 0 [ptr0 t], cellsAt b4 0 [vi n], cellsAt b5 0 [vi at_]]) (.inr rfl) (.tmp (by rfl) .nil) ⟨w, rfl, hR.mono (Nat.le_succ M), rfl⟩ ?_
    (refine Imp.cut ?_ (imp_closeL _ _ hF hH); simp only [hdr, List.cons_append, List.nil_append]; exact IMx)
  simp only [h0, decide_false]
  refine GO ?_
  by_cases h1 : (now.length : Int) < at_
  · simp only [h1, decide_true]
    refine GO ?_
    have hc : ¬ (0 ≤ at_ ∧ at_ ≤ (getF a n).now.length) := by omega
    rw [show seekF n at_ d a = (1, d, a) from by simp [seekF, he, hc]]; refine endQ_mk (Post := WMem t w ++ [cellsAt q 0 (deEnc d), cellsAt b3 0 [ptr0 t], cellsAt b4 0 [vi n], cellsAt b5 0 [vi at_]]) (.inr rfl) (.tmp (by rfl) .nil) ⟨w, rfl, hR.mono (Nat.le_succ M), rfl⟩ ?_
    (refine Imp.cut ?_ (imp_closeL _ _ hF hH); simp only [hdr, List.cons_append, List.nil_append]; exact IMx)
  · simp only [h1, decide_false]
    refine GO ?_
    have hc : 0 ≤ at_ ∧ at_ ≤ (getF a n).now.length := by omega
    have hr : seekF n at_ d a = (0, d, putH a n { y with at_ := at_ }) := by
      simp only [seekF, he, ne_eq, not_true_eq_false, if_false, if_pos hc, hgH]
    rw [hr]
    refine endQ_mk (Post := WMem t { w with hs := w.hs.set (n - 1).toNat ⟨blk, false, false, some b, mode, at_⟩ } ++ [cellsAt q 0 (deEnc d), cellsAt b3 0 [ptr0 t], cellsAt b4 0 [vi n], cellsAt b5 0 [vi at_]]) (.inr rfl) (.tmp (by rfl) .nil) ⟨_, rfl, ?_, rfl⟩ ?_
    · exact (hR.setH (x' := ⟨blk, false, false, some b, mode, at_⟩) (y' := { y with at_ := at_ }) hx hy rfl rfl rfl ⟨hyc.symm, hys.symm, hmode, rfl⟩ (by simp only; omega)).mono (Nat.le_succ M)
    · have hH2 := hh2 ⟨blk, false, false, some b, mode, at_⟩
      refine Imp.cut ?_ (imp_closeL (w := { w with hs := w.hs.set (n - 1).toNat ⟨blk, false, false, some b, mode, at_⟩ }) _ [cellsAt blk 0 [.bool false, .bool false, ptr0 b, vi mode, vi at_], hrest] hF (by simpa [hoA, hoEnc, pf] using hH2))
      have hblk : (w.hs.set (n - 1).toNat ⟨blk, false, false, some b, mode, at_⟩).map (fun h => ptr0 h.blk) = w.hs.map fun h => ptr0 h.blk := set_blk hx rfl
      simp only [hblk, hdr, List.cons_append, List.nil_append]
      exact IMx
end Go.Proofs.YtgindbomnbojeaaGreat

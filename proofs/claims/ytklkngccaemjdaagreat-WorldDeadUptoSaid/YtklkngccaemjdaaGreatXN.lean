/-
  The outside world: lists copied; a world made.
-/
import Derived.Test.YtklkngccaemjdaaGreatWC
import Derived.Test.YtklkngccaemjdaaGreatXM
import Derived.Test.YtklkngccaemjdaaGreatWOe
import Derived.Test.YtklkngccaemjdaaGreatSK
set_option linter.unusedSimpArgs false
set_option linter.unusedVariables false
namespace Go.Proofs.YtklkngccaemjdaaGreat
open Go Go.V
set_option maxHeartbeats 6400000
set_option maxRecDepth 100000
set_option linter.unusedSimpArgs false
set_option linter.unusedVariables false

theorem cloneC_spec (A : List Atom) (sv : Value) (k : Nat) (xs : List Value) (hk : k ≤ 1073741824) (hsl : RdRow 3 A sv k xs) (hone : xs.all oneCell = true) :
    Fun Tryz.prog 33 [sv] [A] (fun v Post => ∃ sp', IsSl 3 v k xs sp' ∧ Post = [A, slA v xs sp']) := by
  refine Fun.intro low33 (by simp [F33]) ?_
  rcases hsl with ⟨rfl, rfl, rfl⟩ | ⟨b, o, c, rfl, h3, h1, h4⟩
  · refine GO ?_
    exact endQ_mk (Post := [A, slA (.slice none 0 0) [] []]) (.inr rfl) (.tmp (by rfl) .nil) ⟨[], .nil, rfl⟩ ⟨[], by simp [slA, V.Spl]⟩
  · refine GO ?_
    refine st_bslice (out := []) (by rfl) (by rfl) (fun q1 => ?_)
    refine GO ?_
    refine st_append (k := 0) (m := k) (xs := []) (sp := []) (ys := xs) (by rfl) (by rfl) (.mk rfl rfl (Nat.le_refl _)) .here (by rfl) ?_ h1 hone (by rfl) (by decide) (by omega) (fun sv' sp' hsl' => ?_)
    · exact ⟨h1, fun a ha => by simp only [List.flatten_cons, List.flatten_nil, List.append_nil]; exact h4 a ha⟩
    rw [Nat.zero_add, List.nil_append] at hsl'
    obtain ⟨a', c', hf'⟩ := hsl'.form
    subst hf'
    refine GO ?_
    exact endQ_mk (Post := [A, slA (.slice a' k c') xs sp']) (.inr rfl) (.tmp (by rfl) .nil) ⟨sp', hsl', rfl⟩ (by simp only [List.nil_append]; (first | with_reducible exact Imp.refl | with_reducible exact Imp.left | (focus ((try simp only [List.nil_append]); (repeat (first | exact Imp.nil | (apply Imp.cons; (focus ((repeat (first | with_reducible exact Tk.here | apply Tk.there)); done))))); done))))

theorem cloneD_spec (A : List Atom) (sv : Value) (k : Nat) (xs : List Value) (hk : k ≤ 1073741824) (hsl : RdRow 6 A sv k xs) (hone : xs.all oneCell = true) :
    Fun Tryz.prog 43 [sv] [A] (fun v Post => ∃ sp', IsSl 6 v k xs sp' ∧ Post = [A, slA v xs sp']) := by
  refine Fun.intro low43 (by simp [F43]) ?_
  rcases hsl with ⟨rfl, rfl, rfl⟩ | ⟨b, o, c, rfl, h3, h1, h4⟩
  · refine GO ?_
    exact endQ_mk (Post := [A, slA (.slice none 0 0) [] []]) (.inr rfl) (.tmp (by rfl) .nil) ⟨[], .nil, rfl⟩ ⟨[], by simp [slA, V.Spl]⟩
  · refine GO ?_
    refine st_bslice (out := []) (by rfl) (by rfl) (fun q1 => ?_)
    refine GO ?_
    refine st_append (k := 0) (m := k) (xs := []) (sp := []) (ys := xs) (by rfl) (by rfl) (.mk rfl rfl (Nat.le_refl _)) .here (by rfl) ?_ h1 hone (by rfl) (by decide) (by omega) (fun sv' sp' hsl' => ?_)
    · exact ⟨h1, fun a ha => by simp only [List.flatten_cons, List.flatten_nil, List.append_nil]; exact h4 a ha⟩
    rw [Nat.zero_add, List.nil_append] at hsl'
    obtain ⟨a', c', hf'⟩ := hsl'.form
    subst hf'
    refine GO ?_
    exact endQ_mk (Post := [A, slA (.slice a' k c') xs sp']) (.inr rfl) (.tmp (by rfl) .nil) ⟨sp', hsl', rfl⟩ (by simp only [List.nil_append]; (first | with_reducible exact Imp.refl | with_reducible exact Imp.left | (focus ((try simp only [List.nil_append]); (repeat (first | exact Imp.nil | (apply Imp.cons; (focus ((repeat (first | with_reducible exact Tk.here | apply Tk.there)); done))))); done))))

theorem cloneY_spec (A : List Atom) (sv : Value) (k : Nat) (xs : List Value) (hk : k ≤ 1073741824) (hsl : RdRow 1 A sv k xs) (hone : xs.all oneCell = true) :
    Fun Tryz.prog 75 [sv] [A] (fun v Post => ∃ sp', IsSl 1 v k xs sp' ∧ Post = [A, slA v xs sp']) := by
  refine Fun.intro low75 (by simp [F75]) ?_
  rcases hsl with ⟨rfl, rfl, rfl⟩ | ⟨b, o, c, rfl, h3, h1, h4⟩
  · refine GO ?_
    exact endQ_mk (Post := [A, slA (.slice none 0 0) [] []]) (.inr rfl) (.tmp (by rfl) .nil) ⟨[], .nil, rfl⟩ ⟨[], by simp [slA, V.Spl]⟩
  · refine GO ?_
    refine st_bslice (out := []) (by rfl) (by rfl) (fun q1 => ?_)
    refine GO ?_
    refine st_append (k := 0) (m := k) (xs := []) (sp := []) (ys := xs) (by rfl) (by rfl) (.mk rfl rfl (Nat.le_refl _)) .here (by rfl) ?_ h1 hone (by rfl) (by decide) (by omega) (fun sv' sp' hsl' => ?_)
    · exact ⟨h1, fun a ha => by simp only [List.flatten_cons, List.flatten_nil, List.append_nil]; exact h4 a ha⟩
    rw [Nat.zero_add, List.nil_append] at hsl'
    obtain ⟨a', c', hf'⟩ := hsl'.form
    subst hf'
    refine GO ?_
    exact endQ_mk (Post := [A, slA (.slice a' k c') xs sp']) (.inr rfl) (.tmp (by rfl) .nil) ⟨sp', hsl', rfl⟩ (by simp only [List.nil_append]; (first | with_reducible exact Imp.refl | with_reducible exact Imp.left | (focus ((try simp only [List.nil_append]); (repeat (first | exact Imp.nil | (apply Imp.cons; (focus ((repeat (first | with_reducible exact Tk.here | apply Tk.there)); done))))); done))))

theorem dead_spec (t : Nat) (w : WR) (a : AW) (M : Nat) (hR : Rep w a M) : Fun Tryz.prog 8 [ptr0 t] (WMem t w) (fun v Post => v = .bool a.dead ∧ Post = WMem t w) := by
  refine Fun.intro low8 (by simp [F8]) ?_
  simp only [WMem]
  refine GO ?_
  exact endQ_mk (.inr rfl) (.tmp (by rfl) .nil) ⟨by rw [← hR.dead]; rfl, rfl⟩ (Imp.refl _)

theorem deEnc_one (l : List De) : (l.flatMap deEnc).all oneCell = true := by
  rw [List.all_eq_true]; intro x hx
  obtain ⟨d, _, hd⟩ := List.mem_flatMap.1 hx
  simp only [deEnc, List.mem_cons, List.not_mem_nil, or_false] at hd
  rcases hd with rfl | rfl | rfl | rfl | rfl | rfl <;> rfl

theorem chEnc_one (l : List Ch) : (l.flatMap chEnc).all oneCell = true := by
  rw [List.all_eq_true]; intro x hx
  obtain ⟨d, _, hd⟩ := List.mem_flatMap.1 hx
  simp only [chEnc, List.mem_cons, List.not_mem_nil, or_false] at hd
  rcases hd with rfl | rfl | rfl <;> rfl

theorem trace_spec (t : Nat) (w : WR) (a : AW) (M : Nat) (hM : M ≤ 1073741823) (hR : Rep w a M) :
    Fun Tryz.prog 9 [ptr0 t] (WMem t w) (fun v Post => ∃ sp, IsSl 6 v a.trace.length (a.trace.flatMap deEnc) sp ∧ Post = WMem t w ++ [slA v (a.trace.flatMap deEnc) sp]) := by
  refine Fun.intro low9 (by simp [F9]) ?_
  simp only [WMem]
  have htr := hR.ok.trmany
  refine GO ?_
  refine st_call (cloneD_spec _ w.tv w.trace.length (w.trace.flatMap deEnc) (by omega) hR.ok.tr.rd (deEnc_one _)) (by rfl) (by (focus ((repeat (first | exact Spl.nil | (apply Spl.cons; (focus ((repeat (first | with_reducible exact Tk.here | apply Tk.there)); done))))); done))) (fun v Post hv => ?_)
  obtain ⟨sp', hs', rfl⟩ := hv
  simp only [List.cons_append, List.nil_append]
  refine GO ?_
  rw [← hR.tr]
  exact endQ_mk (Post := WMem t w ++ [slA v (w.trace.flatMap deEnc) sp']) (.inr rfl) (.tmp (by rfl) .nil) ⟨sp', hs', rfl⟩ (by simp only [WMem, List.cons_append, List.nil_append]; (first | with_reducible exact Imp.refl | with_reducible exact Imp.left | (focus ((try simp only [List.nil_append]); (repeat (first | exact Imp.nil | (apply Imp.cons; (focus ((repeat (first | with_reducible exact Tk.here | apply Tk.there)); done))))); done))))

theorem new_spec (A : List Atom) (cv fv : Value) (cs : List Ch) (fs : List (ByteArray × ByteArray)) (hc : RdRow 3 A cv cs.length (cs.flatMap chEnc)) (hf : RdRow 2 A fv fs.length (fs.flatMap fiEnc))
    (hcl : cs.length ≤ 1073741824) (hfl : fs.length ≤ 1073741823) (hsz : ∀ p ∈ fs, p.1.size ≤ 4611686018427387904 ∧ p.2.size ≤ 4611686018427387904) :
    Fun Tryz.prog 6 [cv, fv] [A] (fun v Post => match newA cs fs with | none => v = .tuple #[.pointer none, vi 1] ∧ Post = [A] | some a => ∃ t w, v = .tuple #[ptr0 t, vi 0] ∧ Rep w a 0 ∧ Post = WMem t w ++ [A]) := by
  refine Fun.intro low6 (by simp [F6]) ?_
  obtain ⟨ca, cc, hcv⟩ := hc.form
  obtain ⟨fa, fc, hfv⟩ := hf.form
  refine GO ?_
  refine st_mkmap (fun mb => ?_)
  refine GO ?_
  refine st_box (by rfl) (fun t => ?_)
  simp only [Value.cells]
  rw [hfv]
  refine GO ?_
  have h0 : Rep ⟨.slice none 0 0, [], [], mb, #[], 0, [], [], .slice none 0 0, [], [], .slice none 0 0, [], [], 0, 0, false⟩ emptyA 0 := by
    refine ⟨rfl, rfl, rfl, rfl, rfl, rfl, by simp [emptyA], rfl, rfl, by simp [emptyA], ⟨.nil, .nil, .nil, .nil, by simp, by simp, .nil, by simp, by simp, by simp, .nil, by simp, by simp, by simp, by simp, by simp⟩⟩
  refine VC.loop (α := WR × AW × Nat) (Γf := fun s => [(0, cv), (1, .slice fa fs.length fc), (6, ptr0 t), (14, .slice fa fs.length fc), (15, vi fs.length), (16, vi s.2.2)]) (Hf := fun s => WMem t s.1 ++ [A])
    (I := fun s => s.2.2 ≤ fs.length ∧ Rep s.1 s.2.1 0 ∧ addFs emptyA (fs.take s.2.2) = some s.2.1) (μ := fun s => fs.length - s.2.2) (_, emptyA, 0) ⟨Nat.zero_le _, h0, by simp [addFs]⟩ (by (repeat (first | exact Sub.nil | (apply Sub.cons; rfl)))) (Imp.perm (by simp [WMem, slA])) ?_
  rintro ⟨w, a, k⟩ ⟨hk, hR, had⟩
  simp only at hk hR had
  simp only [WMem, List.cons_append, List.nil_append]
  refine GO ?_
  (first | (apply VC.seq_cond; rfl) | (apply VC.cond; rfl))
  rotate_left
  · intro hge
    have hge : ¬ k < fs.length := by simpa using hge
    have hkk : k = fs.length := by omega
    subst hkk
    rw [List.take_length] at had
    have hnew : newA cs fs = if 65536 < cs.length ∨ 64 < fs.length then none else some { a with choices := cs } := by simp only [newA, had]
    rw [hcv]
    refine GO ?_
    by_cases h1 : 65536 < cs.length
    · simp only [show (cs.length : Int) > 65536 by omega, decide_true]
      refine GO ?_
      rw [hnew, if_pos (.inl h1)]
      exact endQ_mk (Post := [A]) (.inr rfl) (.tmp (by rfl) (.tmp (by rfl) .nil)) ⟨rfl, rfl⟩ (by (first | with_reducible exact Imp.refl | with_reducible exact Imp.left | (focus ((try simp only [List.nil_append]); (repeat (first | exact Imp.nil | (apply Imp.cons; (focus ((repeat (first | with_reducible exact Tk.here | apply Tk.there)); done))))); done))))
    simp only [show ¬ (cs.length : Int) > 65536 by omega, decide_false]
    refine GO ?_
    by_cases h2 : 64 < fs.length
    · simp only [show (fs.length : Int) > 64 by omega, decide_true]
      refine GO ?_
      rw [hnew, if_pos (.inr h2)]
      exact endQ_mk (Post := [A]) (.inr rfl) (.tmp (by rfl) (.tmp (by rfl) .nil)) ⟨rfl, rfl⟩ (by (first | with_reducible exact Imp.refl | with_reducible exact Imp.left | (focus ((try simp only [List.nil_append]); (repeat (first | exact Imp.nil | (apply Imp.cons; (focus ((repeat (first | with_reducible exact Tk.here | apply Tk.there)); done))))); done))))
    simp only [show ¬ (fs.length : Int) > 64 by omega, decide_false]
    refine GO ?_
    rw [hcv] at hc
    refine st_call (cloneC_spec A _ cs.length (cs.flatMap chEnc) (by omega) hc (chEnc_one _)) (by rfl) (by (focus ((repeat (first | exact Spl.nil | (apply Spl.cons; (focus ((repeat (first | with_reducible exact Tk.here | apply Tk.there)); done))))); done))) (fun v Post hv => ?_)
    obtain ⟨sp', hs', rfl⟩ := hv
    simp only [List.cons_append, List.nil_append]
    obtain ⟨a', c', rfl⟩ := hs'.form
    refine GO ?_
    rw [hnew, if_neg (by omega)]
    have hR2 : Rep { w with cv := .slice a' cs.length c', choices := cs, csp := sp' } { a with choices := cs } 0 := { hR with ch := rfl, ok := { hR.ok with ch := hs', chmany := by simp only; omega } }
    refine endQ_mk (Post := WMem t { w with cv := .slice a' cs.length c', choices := cs, csp := sp' } ++ [A]) (.inr rfl) (.tmp (by rfl) (.tmp (by rfl) .nil)) ⟨t, _, rfl, hR2, rfl⟩ ?_
    simp only [WMem, List.cons_append, List.nil_append]; (first | with_reducible exact Imp.refl | with_reducible exact Imp.left | (focus ((try simp only [List.nil_append]); (repeat (first | exact Imp.nil | (apply Imp.cons; (focus ((repeat (first | with_reducible exact Tk.here | apply Tk.there)); done))))); done)))
  intro hlt
  have hlt : k < fs.length := by simpa using hlt
  obtain ⟨x, hx⟩ : ∃ x, fs[k]? = some x := ⟨fs[k], by simp [hlt]⟩
  obtain ⟨b, o, c, hvf, hcell⟩ := hf.at_ (fun p => rfl) hx
  rw [hfv] at hvf
  simp only [Value.slice.injEq, true_and] at hvf
  obtain ⟨rfl, rfl⟩ := hvf
  have hxs := hsz x (List.mem_of_getElem? hx)
  have bad : addF a x = none → newA cs fs = none := fun h => by simp only [newA, addFs_bad had hx h]
  refine GO ?_
  refine st_loadA (us := [.string x.1, .string x.2]) (by rfl) (fun y hy => by simp only [List.flatten_cons, List.mem_append]; simp only [hcell y hy, true_or, or_true]) (by rfl) ?_
  refine st_alloc (fun p8 => ?_)
  refine GO ?_
  refine st_lookup (k := x.1) (by rfl) (by rfl) rfl (by (focus ((repeat (first | with_reducible exact HasO.here | apply HasO.there)); done))) hR.ok.fm ?_
  rw [hR.mget]
  cases hg : mget x.1 a.names with
  | some j =>
    simp only [Option.map_some, lookV, if_true]
    refine GO ?_
    rw [bad (by simp [addF, hg])]
    exact endQ_mk (Post := [A]) (.inr rfl) (.tmp (by rfl) (.tmp (by rfl) .nil)) ⟨rfl, rfl⟩ (by (first | with_reducible exact Imp.refl | with_reducible exact Imp.left | (focus ((try simp only [List.nil_append]); (repeat (first | exact Imp.nil | (apply Imp.cons; (focus ((repeat (first | with_reducible exact Tk.here | apply Tk.there)); done))))); done))))
  | none =>
  simp only [Option.map_none, lookV, if_true]
  refine GO ?_
  refine st_call (isName_spec x.1 hxs.1) (by rfl) Spl.nil (fun v Post hv => ?_)
  obtain ⟨rfl, rfl⟩ := hv
  simp only [List.nil_append]
  cases hn : nameB x.1 with
  | false =>
    refine GO ?_
    rw [bad (by simp [addF, hn])]
    exact endQ_mk (Post := [A]) (.inr rfl) (.tmp (by rfl) (.tmp (by rfl) .nil)) ⟨rfl, rfl⟩ (by (first | with_reducible exact Imp.refl | with_reducible exact Imp.left | (focus ((try simp only [List.nil_append]); (repeat (first | exact Imp.nil | (apply Imp.cons; (focus ((repeat (first | with_reducible exact Tk.here | apply Tk.there)); done))))); done))))
  | true =>
  refine GO ?_
  by_cases hsm : x.2.size ≤ 4194304
  rotate_left
  · simp only [show (x.2.size : Int) > 4194304 by omega, decide_true]
    refine GO ?_
    rw [bad (by simp only [addF, show (4194304 < x.2.size) by omega, decide_true, Bool.or_true, if_true])]
    exact endQ_mk (Post := [A]) (.inr rfl) (.tmp (by rfl) (.tmp (by rfl) .nil)) ⟨rfl, rfl⟩ (by (first | with_reducible exact Imp.refl | with_reducible exact Imp.left | (focus ((try simp only [List.nil_append]); (repeat (first | exact Imp.nil | (apply Imp.cons; (focus ((repeat (first | with_reducible exact Tk.here | apply Tk.there)); done))))); done))))
  simp only [show ¬ (x.2.size : Int) > 4194304 by omega, decide_false]
  have htl : (txL x.2).length = x.2.size := by simp [txL]
  have htb : (txL x.2).map u8v = sBytes x.2 := rfl
  refine GO ?_
  refine VC.draws ⟨?_, ?_, trivial⟩
  · refine GO ?_
    refine st_s2b (by rfl) (fun sv1 sp1 h1 => ?_)
    refine st_s2b (by rfl) (fun sv2 sp2 h2 => ?_)
    obtain ⟨a1, c1, rfl⟩ := h1.form
    obtain ⟨a2, c2, rfl⟩ := h2.form
    refine GO ?_
    refine st_box (by rfl) (fun p6 => ?_)
    simp only [Value.cells]
    refine VO.know (φ := p6 ∉ w.objs.map (·.1)) (fun w0 F hs0 hmem => ?_) (fun hfr => ?_)
    · obtain ⟨⟨b', fo⟩, hm, rfl⟩ := List.mem_map.1 hmem
      have hy : Atom.cell b' 0 fo.nv ∈ w.objs.flatMap foA := List.mem_flatMap.2 ⟨_, hm, by simp [foA, cellsAt]⟩
      exact hs0.apart (x := .cell b' 0 (.slice a1 x.2.size c1)) (y := .cell b' 0 fo.nv) .here (by simp [cellsAt]) (by simp only [List.flatten_cons, List.mem_append, hy, true_or, or_true]) rfl
    refine st_mapupd (k := x.1) (v := p6) (by rfl) (by rfl) (by rfl) rfl (by (focus ((repeat (first | with_reducible exact Tk.here | apply Tk.there)); done))) hR.ok.fm (fun es2 c2' hm2 => ?_)
    have hfok : FOk ⟨txL x.2, txL x.2, [], .slice a1 x.2.size c1, .slice a2 x.2.size c2, .slice none 0 0, sp1, sp2, []⟩ 0 := by
      refine ⟨?_, ?_, .nil, ?_, ?_, by simp, by simp⟩
      · rw [htl]; exact h1
      · rw [htl]; exact h2
      · rw [htl]; exact hsm
      · rw [htl]; exact hsm
    obtain ⟨hRn, hB⟩ := hR.newFile (s := x.1) hfr hfok hm2 (by have := addFs_len had; simp only [List.length_take, emptyA, List.length_nil] at this; omega)
    have hadd : addF a x = some { a with names := mset x.1 a.files.length a.names, files := a.files ++ [⟨txL x.2, txL x.2, []⟩] } := by simp [addF, hg, hn, hsm]
    refine GO ?_
    refine ⟨(_, _, k + 1), ⟨by show k + 1 ≤ fs.length; omega, hRn, by rw [addFs_next had hx, hadd]; rfl⟩, by simp only; omega, by (repeat (first | exact Sub.nil | (apply Sub.cons; rfl))), ?_⟩
    refine Imp.cut (imp_jn3 (a := cellsAt p6 0 [.slice a1 x.2.size c1, .slice a2 x.2.size c2, .slice none 0 0]) (b := slA (.slice a1 x.2.size c1) (sBytes x.2) sp1) (c := slA (.slice a2 x.2.size c2) (sBytes x.2) sp2) (d := w.objs.flatMap foA) (x := (w.objs ++ [(p6, (⟨txL x.2, txL x.2, [], .slice a1 x.2.size c1, .slice a2 x.2.size c2, .slice none 0 0, sp1, sp2, []⟩ : FO))]).flatMap foA) (by (focus ((repeat (first | with_reducible exact Tk.here | apply Tk.there)); done))) (by (focus ((repeat (first | with_reducible exact Tk.here | apply Tk.there)); done))) (by (focus ((repeat (first | with_reducible exact Tk.here | apply Tk.there)); done))) (by (focus ((repeat (first | with_reducible exact Tk.here | apply Tk.there)); done))) ?_) ?_
    · simp only [List.flatMap_append, List.flatMap_cons, List.flatMap_nil, List.append_nil, foA, htb, List.append_assoc]
      simp only [slA, List.append_nil, List.append_assoc]
      exact .refl _
    · simp only [WMem, List.cons_append, List.nil_append]; (first | with_reducible exact Imp.refl | with_reducible exact Imp.left | (focus ((try simp only [List.nil_append]); (repeat (first | exact Imp.nil | (apply Imp.cons; (focus ((repeat (first | with_reducible exact Tk.here | apply Tk.there)); done))))); done)))
  · refine GO ?_
    refine st_s2b (by rfl) (fun sv2 sp2 h2 => ?_)
    refine st_s2b (by rfl) (fun sv1 sp1 h1 => ?_)
    obtain ⟨a1, c1, rfl⟩ := h1.form
    obtain ⟨a2, c2, rfl⟩ := h2.form
    refine GO ?_
    refine st_box (by rfl) (fun p6 => ?_)
    simp only [Value.cells]
    refine VO.know (φ := p6 ∉ w.objs.map (·.1)) (fun w0 F hs0 hmem => ?_) (fun hfr => ?_)
    · obtain ⟨⟨b', fo⟩, hm, rfl⟩ := List.mem_map.1 hmem
      have hy : Atom.cell b' 0 fo.nv ∈ w.objs.flatMap foA := List.mem_flatMap.2 ⟨_, hm, by simp [foA, cellsAt]⟩
      exact hs0.apart (x := .cell b' 0 (.slice a1 x.2.size c1)) (y := .cell b' 0 fo.nv) .here (by simp [cellsAt]) (by simp only [List.flatten_cons, List.mem_append, hy, true_or, or_true]) rfl
    refine st_mapupd (k := x.1) (v := p6) (by rfl) (by rfl) (by rfl) rfl (by (focus ((repeat (first | with_reducible exact Tk.here | apply Tk.there)); done))) hR.ok.fm (fun es2 c2' hm2 => ?_)
    have hfok : FOk ⟨txL x.2, txL x.2, [], .slice a1 x.2.size c1, .slice a2 x.2.size c2, .slice none 0 0, sp1, sp2, []⟩ 0 := by
      refine ⟨?_, ?_, .nil, ?_, ?_, by simp, by simp⟩
      · rw [htl]; exact h1
      · rw [htl]; exact h2
      · rw [htl]; exact hsm
      · rw [htl]; exact hsm
    obtain ⟨hRn, hB⟩ := hR.newFile (s := x.1) hfr hfok hm2 (by have := addFs_len had; simp only [List.length_take, emptyA, List.length_nil] at this; omega)
    have hadd : addF a x = some { a with names := mset x.1 a.files.length a.names, files := a.files ++ [⟨txL x.2, txL x.2, []⟩] } := by simp [addF, hg, hn, hsm]
    refine GO ?_
    refine ⟨(_, _, k + 1), ⟨by show k + 1 ≤ fs.length; omega, hRn, by rw [addFs_next had hx, hadd]; rfl⟩, by simp only; omega, by (repeat (first | exact Sub.nil | (apply Sub.cons; rfl))), ?_⟩
    refine Imp.cut (imp_jn3 (a := cellsAt p6 0 [.slice a1 x.2.size c1, .slice a2 x.2.size c2, .slice none 0 0]) (b := slA (.slice a1 x.2.size c1) (sBytes x.2) sp1) (c := slA (.slice a2 x.2.size c2) (sBytes x.2) sp2) (d := w.objs.flatMap foA) (x := (w.objs ++ [(p6, (⟨txL x.2, txL x.2, [], .slice a1 x.2.size c1, .slice a2 x.2.size c2, .slice none 0 0, sp1, sp2, []⟩ : FO))]).flatMap foA) (by (focus ((repeat (first | with_reducible exact Tk.here | apply Tk.there)); done))) (by (focus ((repeat (first | with_reducible exact Tk.here | apply Tk.there)); done))) (by (focus ((repeat (first | with_reducible exact Tk.here | apply Tk.there)); done))) (by (focus ((repeat (first | with_reducible exact Tk.here | apply Tk.there)); done))) ?_) ?_
    · simp only [List.flatMap_append, List.flatMap_cons, List.flatMap_nil, List.append_nil, foA, htb, List.append_assoc]
      simp only [slA, List.append_nil, List.append_assoc]
      exact .refl _
    · simp only [WMem, List.cons_append, List.nil_append]; (first | with_reducible exact Imp.refl | with_reducible exact Imp.left | (focus ((try simp only [List.nil_append]); (repeat (first | exact Imp.nil | (apply Imp.cons; (focus ((repeat (first | with_reducible exact Tk.here | apply Tk.there)); done))))); done)))
end Go.Proofs.YtklkngccaemjdaaGreat

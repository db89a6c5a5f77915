/-
  The outside world: lists copied; a world made.
-/
import Derived.Test.YtgindbomnbojeaaGreatV16
import Derived.Test.YtgindbomnbojeaaGreatP6
import Derived.Test.YtgindbomnbojeaaGreatCB
import Derived.Test.YtgindbomnbojeaaGreatSK
set_option linter.unusedSimpArgs false
set_option linter.unusedVariables false
namespace Go.Proofs.YtgindbomnbojeaaGreat
open Go Go.V
set_option maxHeartbeats 6400000
set_option maxRecDepth 100000
theorem cloneC_spec (A : List Atom) (sv : Value) (k : Nat) (xs : List Value) (hk : k ≤ 1073741824) (hsl : RdRow 3 A sv k xs) (hone : xs.all oneCell = true) :
    Fun Tryz.prog 27 [sv] [A] (fun v Post => ∃ sp', IsSl 3 v k xs sp' ∧ Post = [A, slA v xs sp']) := by
  refine Fun.intro low27 (by simp [n27]) ?_
  rcases hsl with ⟨rfl, rfl, rfl⟩ | ⟨b, o, c, rfl, h3, h1, h4⟩
  · refine GO ?_
    exact endQ_mk (Post := [A, slA (.slice none 0 0) [] []]) (.inr rfl) (.tmp (by rfl) .nil) ⟨[], .nil, rfl⟩ ⟨[], by simp [slA, V.Spl]⟩
  · refine GO ?_
    refine st_bslice (out := []) (by rfl) (by rfl) (fun q1 => ?_)
    refine GO ?_
    refine st_append (k := 0) (m := k) (xs := []) (sp := []) (ys := xs) (by rfl) (by rfl) (.mk rfl rfl (Nat.le_refl _)) .here (by rfl) ?_ h1 hone (by rfl) (by decide) (by omega) (fun sv' sp' hsl' => ?_)
    · exact ⟨h1, fun a ha => by simp only [List.flatten_cons, List.flatten_nil, List.append_nil]; exact h4 a ha⟩
    rw [Nat.zero_add, List.nil_append] at hsl'
    obtain ⟨a', c', hf'⟩ := hsl'.form
    subst hf'
    refine GO ?_
    exact endQ_mk (Post := [A, slA (.slice a' k c') xs sp']) (.inr rfl) (.tmp (by rfl) .nil) ⟨sp', hsl', rfl⟩ (by simp only [List.nil_append]; exact IMx)
theorem cloneD_spec (A : List Atom) (sv : Value) (k : Nat) (xs : List Value) (hk : k ≤ 1073741824) (hsl : RdRow 6 A sv k xs) (hone : xs.all oneCell = true) :
    Fun Tryz.prog 72 [sv] [A] (fun v Post => ∃ sp', IsSl 6 v k xs sp' ∧ Post = [A, slA v xs sp']) := by
  refine Fun.intro low72 (by simp [n72]) ?_
  rcases hsl with ⟨rfl, rfl, rfl⟩ | ⟨b, o, c, rfl, h3, h1, h4⟩
  · refine GO ?_
    exact endQ_mk (Post := [A, slA (.slice none 0 0) [] []]) (.inr rfl) (.tmp (by rfl) .nil) ⟨[], .nil, rfl⟩ ⟨[], by simp [slA, V.Spl]⟩
  · refine GO ?_
    refine st_bslice (out := []) (by rfl) (by rfl) (fun q1 => ?_)
    refine GO ?_
    refine st_append (k := 0) (m := k) (xs := []) (sp := []) (ys := xs) (by rfl) (by rfl) (.mk rfl rfl (Nat.le_refl _)) .here (by rfl) ?_ h1 hone (by rfl) (by decide) (by omega) (fun sv' sp' hsl' => ?_)
    · exact ⟨h1, fun a ha => by simp only [List.flatten_cons, List.flatten_nil, List.append_nil]; exact h4 a ha⟩
    rw [Nat.zero_add, List.nil_append] at hsl'
    obtain ⟨a', c', hf'⟩ := hsl'.form
    subst hf'
    refine GO ?_
    exact endQ_mk (Post := [A, slA (.slice a' k c') xs sp']) (.inr rfl) (.tmp (by rfl) .nil) ⟨sp', hsl', rfl⟩ (by simp only [List.nil_append]; exact IMx)
theorem cloneY_spec (A : List Atom) (sv : Value) (k : Nat) (xs : List Value) (hk : k ≤ 1073741824) (hsl : RdRow 1 A sv k xs) (hone : xs.all oneCell = true) :
    Fun Tryz.prog 63 [sv] [A] (fun v Post => ∃ sp', IsSl 1 v k xs sp' ∧ Post = [A, slA v xs sp']) := by
  refine Fun.intro low63 (by simp [n63]) ?_
  rcases hsl with ⟨rfl, rfl, rfl⟩ | ⟨b, o, c, rfl, h3, h1, h4⟩
  · refine GO ?_
    exact endQ_mk (Post := [A, slA (.slice none 0 0) [] []]) (.inr rfl) (.tmp (by rfl) .nil) ⟨[], .nil, rfl⟩ ⟨[], by simp [slA, V.Spl]⟩
  · refine GO ?_
    refine st_bslice (out := []) (by rfl) (by rfl) (fun q1 => ?_)
    refine GO ?_
    refine st_append (k := 0) (m := k) (xs := []) (sp := []) (ys := xs) (by rfl) (by rfl) (.mk rfl rfl (Nat.le_refl _)) .here (by rfl) ?_ h1 hone (by rfl) (by decide) (by omega) (fun sv' sp' hsl' => ?_)
    · exact ⟨h1, fun a ha => by simp only [List.flatten_cons, List.flatten_nil, List.append_nil]; exact h4 a ha⟩
    rw [Nat.zero_add, List.nil_append] at hsl'
    obtain ⟨a', c', hf'⟩ := hsl'.form
    subst hf'
    refine GO ?_
    exact endQ_mk (Post := [A, slA (.slice a' k c') xs sp']) (.inr rfl) (.tmp (by rfl) .nil) ⟨sp', hsl', rfl⟩ (by simp only [List.nil_append]; exact IMx)
theorem dead_spec (t : Nat) (w : WR) (a : AW) (M : Nat) (hR : Rep w a M) : Fun Tryz.prog 24 [ptr0 t] (WMem t w) (fun v Post => v = .bool a.dead ∧ Post = WMem t w) := by
  refine Fun.intro low24 (by simp [n24]) ?_
  simp only [WMem]
  refine GO ?_
  exact endQ_mk (.inr rfl) (.tmp (by rfl) .nil) ⟨by rw [← hR.dead]; rfl, rfl⟩ (Imp.refl _)
theorem deEnc_one (l : List De) : (l.flatMap deEnc).all oneCell = true := by
  rw [List.all_eq_true]; intro x hx
  obtain ⟨d, _, hd⟩ := List.mem_flatMap.1 hx
  simp only [deEnc, List.mem_cons, List.not_mem_nil, or_false] at hd
  rcases hd with rfl | rfl | rfl | rfl | rfl | rfl <;> rfl
theorem chEnc_one (l : List Ch) : (l.flatMap chEnc).all oneCell = true := by
  rw [List.all_eq_true]; intro x hx
  obtain ⟨d, _, hd⟩ := List.mem_flatMap.1 hx
  simp only [chEnc, List.mem_cons, List.not_mem_nil, or_false] at hd
  rcases hd with rfl | rfl | rfl <;> rfl
theorem trace_spec (t : Nat) (w : WR) (a : AW) (M : Nat) (hM : M ≤ 1073741823) (hR : Rep w a M) :
    Fun Tryz.prog 18 [ptr0 t] (WMem t w) (fun v Post => ∃ sp, IsSl 6 v a.trace.length (a.trace.flatMap deEnc) sp ∧ Post = WMem t w ++ [slA v (a.trace.flatMap deEnc) sp]) := by
  refine Fun.intro low18 (by simp [n18]) ?_
  simp only [WMem]
  have htr := hR.ok.trmany
  refine GO ?_
  refine st_call (cloneD_spec _ w.tv w.trace.length (w.trace.flatMap deEnc) (by omega) hR.ok.tr.rd (deEnc_one _)) (by rfl) (by exact SPx) (fun v Post hv => ?_)
  obtain ⟨sp', hs', rfl⟩ := hv
  simp only [CNx]
  refine GO ?_
  rw [← hR.tr]
  exact endQ_mk (Post := WMem t w ++ [slA v (w.trace.flatMap deEnc) sp']) (.inr rfl) (.tmp (by rfl) .nil) ⟨sp', hs', rfl⟩ (by simp only [WMem, List.cons_append, List.nil_append]; exact IMx)
theorem new_spec (A : List Atom) (cv fv : Value) (cs : List Ch) (fs : List (ByteArray × ByteArray)) (hc : RdRow 3 A cv cs.length (cs.flatMap chEnc)) (hf : RdRow 2 A fv fs.length (fs.flatMap fiEnc))
    (hcl : cs.length ≤ 1073741824) (hfl : fs.length ≤ 1073741823) (hsz : ∀ p ∈ fs, p.1.size ≤ 4611686018427387904 ∧ p.2.size ≤ 4611686018427387904) :
    Fun Tryz.prog 7 [cv, fv] [A] (fun v Post => match newA cs fs with | none => v = .tuple #[.pointer none, vi 1] ∧ Post = [A] | some a => ∃ t w, v = .tuple #[ptr0 t, vi 0] ∧ Rep w a 0 ∧ Post = WMem t w ++ [A]) := by
  refine Fun.intro low7 (by simp [n7]) ?_
  obtain ⟨ca, cc, hcv⟩ := hc.form
  obtain ⟨fa, fc, hfv⟩ := hf.form
  refine GO ?_
  refine st_mkmap (fun mb => ?_)
  refine GO ?_
  refine st_box (by rfl) (fun t => ?_)
  simp only [Value.cells]
  rw [hfv]
  refine GO ?_
  have h0 : Rep ⟨.slice none 0 0, [], [], mb, #[], 0, [], [], .slice none 0 0, [], [], .slice none 0 0, [], [], 0, 0, false⟩ emptyA 0 := by
    refine ⟨rfl, rfl, rfl, rfl, rfl, rfl, by simp [emptyA], rfl, rfl, by simp [emptyA], ⟨.nil, .nil, .nil, .nil, by simp, by simp, .nil, by simp, by simp, by simp, .nil, by simp, by simp, by simp, by simp, by simp⟩⟩
  refine VC.loop (α := WR × AW × Nat) (Γf := fun s => [(0, cv), (1, .slice fa fs.length fc), (6, ptr0 t), (14, .slice fa fs.length fc), (15, vi fs.length), (16, vi s.2.2)]) (Hf := fun s => WMem t s.1 ++ [A])
    (I := fun s => s.2.2 ≤ fs.length ∧ Rep s.1 s.2.1 0 ∧ addFs emptyA (fs.take s.2.2) = some s.2.1) (μ := fun s => fs.length - s.2.2) (_, emptyA, 0) ⟨Nat.zero_le _, h0, by simp [addFs]⟩ (by exact SUx) (Imp.perm (by simp [WMem, slA])) ?_
  rintro ⟨w, a, k⟩ ⟨hk, hR, had⟩
  simp only at hk hR had
  simp only [WMem, List.cons_append, List.nil_append]
  refine GO ?_
  (first | (apply VC.seq_cond; rfl) | (apply VC.cond; rfl))
  rotate_left
  · intro hge
    have hge : ¬ k < fs.length := by simpa using hge
    have hkk : k = fs.length := by omega
    subst hkk
    rw [List.take_length] at had
    have hnew : newA cs fs = if 65536 < cs.length ∨ 64 < fs.length then none else some { a with choices := cs } := by simp only [newA, had]
    rw [hcv]
    refine GO ?_
    by_cases h1 : 65536 < cs.length
    · simp only [show (cs.length : Int) > 65536 by omega, decide_true]
      refine GO ?_
      rw [hnew, if_pos (.inl h1)]
      exact endQ_mk (Post := [A]) (.inr rfl) (.tmp (by rfl) (.tmp (by rfl) .nil)) ⟨rfl, rfl⟩ (by exact IMx)
    simp only [show ¬ (cs.length : Int) > 65536 by omega, decide_false]
    refine GO ?_
    by_cases h2 : 64 < fs.length
    · simp only [show (fs.length : Int) > 64 by omega, decide_true]
      refine GO ?_
      rw [hnew, if_pos (.inr h2)]
      exact endQ_mk (Post := [A]) (.inr rfl) (.tmp (by rfl) (.tmp (by rfl) .nil)) ⟨rfl, rfl⟩ (by exact IMx)
    simp only [show ¬ (fs.length : Int) > 64 by omega, decide_false]
    refine GO ?_
    rw [hcv] at hc
    refine st_call (cloneC_spec A _ cs.length (cs.flatMap chEnc) (by omega) hc (chEnc_one _)) (by rfl) (by exact SPx) (fun v Post hv => ?_)
    obtain ⟨sp', hs', rfl⟩ := hv
    simp only [CNx]
    obtain ⟨a', c', rfl⟩ := hs'.form
    refine GO ?_
    rw [hnew, if_neg (by omega)]
    have hR2 : Rep { w with cv := .slice a' cs.length c', choices := cs, csp := sp' } { a with choices := cs } 0 := { hR with ch := rfl, ok := { hR.ok with ch := hs', chmany := by simp only; omega } }
    refine endQ_mk (Post := WMem t { w with cv := .slice a' cs.length c', choices := cs, csp := sp' } ++ [A]) (.inr rfl) (.tmp (by rfl) (.tmp (by rfl) .nil)) ⟨t, _, rfl, hR2, rfl⟩ ?_
    simp only [WMem, List.cons_append, List.nil_append]; exact IMx
  intro hlt
  have hlt : k < fs.length := by simpa using hlt
  obtain ⟨x, hx⟩ : ∃ x, fs[k]? = some x := ⟨fs[k], by simp [hlt]⟩
  obtain ⟨b, o, c, hvf, hcell⟩ := hf.at_ (fun p => rfl) hx
  rw [hfv] at hvf
  simp only [Value.slice.injEq, true_and] at hvf
  obtain ⟨rfl, rfl⟩ := hvf
  have hxs := hsz x (List.mem_of_getElem? hx)
  have bad : addF a x = none → newA cs fs = none := fun h => by simp only [newA, addFs_bad had hx h]
  refine GO ?_
  refine st_loadA (us := [.string x.1, .string x.2]) (by rfl) (fun y hy => by simp only [List.flatten_cons, List.mem_append]; simp only [hcell y hy, true_or, or_true]) (by rfl) ?_
  refine st_alloc (fun p8 => ?_)
  refine GO ?_
  refine st_lookup (k := x.1) (by rfl) (by rfl) rfl (by (focus ((repeat (first | with_reducible exact HasO.here | apply HasO.there)); done))) hR.ok.fm ?_
  rw [hR.mget]
  cases hg : mget x.1 a.names with
  | some j =>
    simp only [Option.map_some, lookV, if_true]
    refine GO ?_
    rw [bad (by simp [addF, hg])]
    exact endQ_mk (Post := [A]) (.inr rfl) (.tmp (by rfl) (.tmp (by rfl) .nil)) ⟨rfl, rfl⟩ (by exact IMx)
  | none =>
  simp only [Option.map_none, lookV, if_true]
  refine GO ?_
  refine st_call (isName_spec x.1 hxs.1) (by rfl) Spl.nil (fun v Post hv => ?_)
  obtain ⟨rfl, rfl⟩ := hv
  simp only [List.nil_append]
  cases hn : nameB x.1 with
  | false =>
    refine GO ?_
    rw [bad (by simp [addF, hn])]
    exact endQ_mk (Post := [A]) (.inr rfl) (.tmp (by rfl) (.tmp (by rfl) .nil)) ⟨rfl, rfl⟩ (by exact IMx)
  | true =>
  refine GO ?_
  by_cases hsm : x.2.size ≤ 4194304
  rotate_left
  · simp only [show (x.2.size : Int) > 4194304 by omega, decide_true]
    refine GO ?_
    rw [bad (by simp only [addF, show (4194304 < x.2.size) by omega, decide_true, Bool.or_true, if_true])]
    exact endQ_mk (Post := [A]) (.inr rfl) (.tmp (by rfl) (.tmp (by rfl) .nil)) ⟨rfl, rfl⟩ (by exact IMx)
  simp only [show ¬ (x.2.size : Int) > 4194304 by omega, decide_false]
  have htl : (txL x.2).length = x.2.size := by simp [txL]
  have htb : (txL x.2).map u8v = sBytes x.2 := rfl
  refine GO ?_
  refine VC.draws ⟨?_, ?_, trivial⟩
  · refine GO ?_
    refine st_s2b (by rfl) (fun sv1 sp1 h1 => ?_)
    refine st_s2b (by rfl) (fun sv2 sp2 h2 => ?_)
    obtain ⟨a1, c1, rfl⟩ := h1.form
    obtain ⟨a2, c2, rfl⟩ := h2.form
    refine GO ?_
    refine st_box (by rfl) (fun p6 => ?_)
    simp only [Value.cells]
    refine VO.know (φ := p6 ∉ w.objs.map (·.1)) (fun w0 F hs0 hmem => ?_) (fun hfr => ?_)
    · obtain ⟨⟨b', fo⟩, hm, rfl⟩ := List.mem_map.1 hmem
      have hy : Atom.cell b' 0 fo.nv ∈ w.objs.flatMap foA := List.mem_flatMap.2 ⟨_, hm, by simp [foA, cellsAt]⟩
      exact hs0.apart (x := .cell b' 0 (.slice a1 x.2.size c1)) (y := .cell b' 0 fo.nv) .here (by simp [cellsAt]) (by simp only [List.flatten_cons, List.mem_append, hy, true_or, or_true]) rfl
    refine st_mapupd (k := x.1) (v := p6) (by rfl) (by rfl) (by rfl) rfl (by exact TKx) hR.ok.fm (fun es2 c2' hm2 => ?_)
    have hfok : FOk ⟨txL x.2, txL x.2, [], .slice a1 x.2.size c1, .slice a2 x.2.size c2, .slice none 0 0, sp1, sp2, []⟩ 0 := by
      refine ⟨?_, ?_, .nil, ?_, ?_, by simp, by simp⟩
      · rw [htl]; exact h1
      · rw [htl]; exact h2
      · rw [htl]; exact hsm
      · rw [htl]; exact hsm
    obtain ⟨hRn, hB⟩ := hR.newFile (s := x.1) hfr hfok hm2 (by have := addFs_len had; simp only [List.length_take, emptyA, List.length_nil] at this; omega)
    have hadd : addF a x = some { a with names := mset x.1 a.files.length a.names, files := a.files ++ [⟨txL x.2, txL x.2, []⟩] } := by simp [addF, hg, hn, hsm]
    refine GO ?_
    refine ⟨(_, _, k + 1), ⟨by show k + 1 ≤ fs.length; omega, hRn, by rw [addFs_next had hx, hadd]; rfl⟩, by simp only; omega, by exact SUx, ?_⟩
    refine Imp.cut (imp_jn3 (a := cellsAt p6 0 [.slice a1 x.2.size c1, .slice a2 x.2.size c2, .slice none 0 0]) (b := slA (.slice a1 x.2.size c1) (sBytes x.2) sp1) (c := slA (.slice a2 x.2.size c2) (sBytes x.2) sp2) (d := w.objs.flatMap foA) (x := (w.objs ++ [(p6, (⟨txL x.2, txL x.2, [], .slice a1 x.2.size c1, .slice a2 x.2.size c2, .slice none 0 0, sp1, sp2, []⟩ : FO))]).flatMap foA) (by exact TKx) (by exact TKx) (by exact TKx) (by exact TKx) ?_) ?_
    · simp only [List.flatMap_append, List.flatMap_cons, List.flatMap_nil, List.append_nil, foA, htb, List.append_assoc]
      simp only [slA, List.append_nil, List.append_assoc]
      exact .refl _
    · simp only [WMem, List.cons_append, List.nil_append]; exact IMx
  · refine GO ?_
    refine st_s2b (by rfl) (fun sv2 sp2 h2 => ?_)
    refine st_s2b (by rfl) (fun sv1 sp1 h1 => ?_)
    obtain ⟨a1, c1, rfl⟩ := h1.form
    obtain ⟨a2, c2, rfl⟩ := h2.form
    refine GO ?_
    refine st_box (by rfl) (fun p6 => ?_)
    simp only [Value.cells]
    refine VO.know (φ := p6 ∉ w.objs.map (·.1)) (fun w0 F hs0 hmem => ?_) (fun hfr => ?_)
    · obtain ⟨⟨b', fo⟩, hm, rfl⟩ := List.mem_map.1 hmem
      have hy : Atom.cell b' 0 fo.nv ∈ w.objs.flatMap foA := List.mem_flatMap.2 ⟨_, hm, by simp [foA, cellsAt]⟩
      exact hs0.apart (x := .cell b' 0 (.slice a1 x.2.size c1)) (y := .cell b' 0 fo.nv) .here (by simp [cellsAt]) (by simp only [List.flatten_cons, List.mem_append, hy, true_or, or_true]) rfl
    refine st_mapupd (k := x.1) (v := p6) (by rfl) (by rfl) (by rfl) rfl (by exact TKx) hR.ok.fm (fun es2 c2' hm2 => ?_)
    have hfok : FOk ⟨txL x.2, txL x.2, [], .slice a1 x.2.size c1, .slice a2 x.2.size c2, .slice none 0 0, sp1, sp2, []⟩ 0 := by
      refine ⟨?_, ?_, .nil, ?_, ?_, by simp, by simp⟩
      · rw [htl]; exact h1
      · rw [htl]; exact h2
      · rw [htl]; exact hsm
      · rw [htl]; exact hsm
    obtain ⟨hRn, hB⟩ := hR.newFile (s := x.1) hfr hfok hm2 (by have := addFs_len had; simp only [List.length_take, emptyA, List.length_nil] at this; omega)
    have hadd : addF a x = some { a with names := mset x.1 a.files.length a.names, files := a.files ++ [⟨txL x.2, txL x.2, []⟩] } := by simp [addF, hg, hn, hsm]
    refine GO ?_
    refine ⟨(_, _, k + 1), ⟨by show k + 1 ≤ fs.length; omega, hRn, by rw [addFs_next had hx, hadd]; rfl⟩, by simp only; omega, by exact SUx, ?_⟩
    refine Imp.cut (imp_jn3 (a := cellsAt p6 0 [.slice a1 x.2.size c1, .slice a2 x.2.size c2, .slice none 0 0]) (b := slA (.slice a1 x.2.size c1) (sBytes x.2) sp1) (c := slA (.slice a2 x.2.size c2) (sBytes x.2) sp2) (d := w.objs.flatMap foA) (x := (w.objs ++ [(p6, (⟨txL x.2, txL x.2, [], .slice a1 x.2.size c1, .slice a2 x.2.size c2, .slice none 0 0, sp1, sp2, []⟩ : FO))]).flatMap foA) (by exact TKx) (by exact TKx) (by exact TKx) (by exact TKx) ?_) ?_
    · simp only [List.flatMap_append, List.flatMap_cons, List.flatMap_nil, List.append_nil, foA, htb, List.append_assoc]
      simp only [slA, List.append_nil, List.append_assoc]
      exact .refl _
    · simp only [WMem, List.cons_append, List.nil_append]; exact IMx
theorem refName_spec (s : ByteArray) (hs : s.size ≤ 4611686018427387904) : Fun Tryz.prog 30 [.string s] [] (fun v Post => v = .bool (nameB s) ∧ Post = []) := by
  refine Fun.intro low30 (by simp [n30]) ?_
  refine GO ?_
  by_cases h1 : s.size < 1
  · simp only [show (s.size : Int) < 1 by omega, decide_true]
    refine GO ?_
    refine ⟨.inr rfl, _, _, .tmp (by rfl) .nil, by exact IMx, ?_, rfl⟩
    simp [tup, nameB, show ¬ 1 ≤ s.size by omega]
  simp only [show ¬ (s.size : Int) < 1 by omega, decide_false]
  refine GO ?_
  by_cases h2 : 64 < s.size
  · simp only [show (s.size : Int) > 64 by omega, decide_true]
    refine GO ?_
    refine ⟨.inr rfl, _, _, .tmp (by rfl) .nil, by exact IMx, ?_, rfl⟩
    simp [tup, nameB, show ¬ s.size ≤ 64 by omega]
  simp only [show ¬ (s.size : Int) > 64 by omega, decide_false]
  refine GO ?_
  refine VC.loop (α := Nat) (Γf := fun k => [(0, .string s), (3, vi k)]) (Hf := fun _ => []) (I := fun k => k ≤ s.size ∧ (s.data.toList.take k).all (fun c => inNameB c.toNat) = true) (μ := fun k => s.size - k) 0 ⟨by omega, by simp⟩ (by exact SUx) (by exact IMx) ?_
  rintro k ⟨hk, hall⟩
  refine GO ?_
  (first | (apply VC.seq_cond; rfl) | (apply VC.cond; rfl))
  rotate_left
  · intro hge
    have hge : ¬ k < s.size := by simpa using hge
    rw [List.take_of_length_le (by simp; omega)] at hall
    refine GO ?_
    refine ⟨.inr rfl, _, _, .tmp (by rfl) .nil, by exact IMx, ?_, rfl⟩
    simp only [tup, nameB, hall, Bool.true_and, Value.bool.injEq]
    simp; omega
  intro hlt
  have hlt : k < s.size := by simpa using hlt
  have hc : s[k]? = some s[k] := by simp [hlt]
  refine GO ?_
  refine st_idxS (by rfl) (by rfl) (j := k) rfl hc ?_
  have ht := all_take hlt
  rw [hall, Bool.true_and] at ht
  have good : inNameB (s[k]).toNat = true → ∃ s', (s' ≤ s.size ∧ (s.data.toList.take s').all (fun c => inNameB c.toNat) = true) ∧ s.size - s' < s.size - k ∧ s' = k + 1 := fun hb => ⟨k + 1, ⟨by omega, by rw [ht, hb]⟩, by omega, rfl⟩
  have bad : inNameB (s[k]).toNat = false → nameB s = false := by
    intro hb
    have h2 : s.data.toList.all (fun c => inNameB c.toNat) = false := by
      rw [hb] at ht
      rw [← List.take_append_drop (k + 1) s.data.toList, List.all_append, ht, Bool.false_and]
    simp only [nameB, h2, Bool.false_and]
  generalize hcc : (s[k]).toNat = c at good bad ht ⊢
  cases hb : inNameB c with
  | true =>
    have hb2 := hb
    simp only [inNameB, Bool.or_eq_true, Bool.and_eq_true, decide_eq_true_eq] at hb2
    (repeat' (first | refine GOP ?_ | refine st_gcase (by rfl) (fun _ => ?_) (fun _ => ?_) | refine st_pcase (by rfl) (fun _ => ?_) (fun _ => ?_) | refine VC.seq_cond (by rfl) (fun _ => ?_) (fun _ => ?_) | refine VC.cond (by rfl) (fun _ => ?_) (fun _ => ?_)))
    all_goals (simp only [decide_eq_true_eq, decide_eq_false_iff_not, Int.not_le, ge_iff_le, Bool.not_eq_true', Bool.not_eq_false', Bool.not_eq_eq_eq_not, Bool.not_true, Bool.not_false] at *)
    all_goals first
      | exact ⟨k + 1, ⟨by omega, by rw [ht, hb]⟩, by omega, by exact SUx, by exact IMx⟩
      | (exfalso; omega)
  | false =>
    have hb2 := hb
    simp only [inNameB, Bool.or_eq_false_iff, Bool.and_eq_false_iff, decide_eq_false_iff_not] at hb2
    have hbad := bad hb
    (repeat' (first | refine GOP ?_ | refine st_gcase (by rfl) (fun _ => ?_) (fun _ => ?_) | refine st_pcase (by rfl) (fun _ => ?_) (fun _ => ?_) | refine VC.seq_cond (by rfl) (fun _ => ?_) (fun _ => ?_) | refine VC.cond (by rfl) (fun _ => ?_) (fun _ => ?_)))
    all_goals (simp only [decide_eq_true_eq, decide_eq_false_iff_not, Int.not_le, ge_iff_le, Bool.not_eq_true', Bool.not_eq_false', Bool.not_eq_eq_eq_not, Bool.not_true, Bool.not_false] at *)
    all_goals first
      | (exfalso; omega)
      | (rw [hbad]; refine ⟨.inr rfl, _, _, .tmp (by rfl) .nil, by exact IMx, ?_, rfl⟩; rfl)
theorem files_spec (t : Nat) (w : WR) (a : AW) (M : Nat) (hM : M ≤ 1073741823) (hR : Rep w a M) :
    Fun Tryz.prog 17 [ptr0 t] (WMem t w) (fun v Post => ∃ ys sp, SortedOf ltS (a.names.map (·.1)) ys ∧ IsSl 2 v ys.length ((ys.map (fileOf a)).flatMap fiEnc) sp ∧ Post = WMem t w ++ [slA v ((ys.map (fileOf a)).flatMap fiEnc) sp]) := by
  refine Fun.intro low17 (by simp [n17]) ?_
  simp only [WMem]
  have hnl := hR.ok.files
  refine GO ?_
  refine st_call (keys_spec w.fm) (by rfl) Spl.nil (fun v Post hv => ?_)
  obtain ⟨q, rfl, rfl⟩ := hv
  simp only [CNx]
  refine st_call (sorted_spec 118 #[] #[ptr0 q] _ _ (fun full => full.Perm (w.names.map (·.1))) (keys_iter q w.fm w.fc w.fes w.names hR.ok.fm hR.ok.keys) (fun c hc => ?_)) (by rfl) (by exact SPx) (fun v Post hv => ?_)
  · obtain ⟨tt, ht⟩ := hc
    have h1 := ht.length_eq
    have h2 := (ht.nodup_iff).2 hR.ok.keys
    rw [List.length_append, List.length_map] at h1
    exact ⟨by omega, (List.nodup_append.1 h2).1⟩
  obtain ⟨xs, ys, sv, sp, hxs, hys, hsl, rfl, rfl⟩ := hv
  have hsort : SortedOf ltS (a.names.map (·.1)) ys := ⟨by rw [← hR.keysEq]; exact hys.1.trans hxs, hys.2⟩
  have hlen : ys.length ≤ 1073741823 := by
    have := hsort.1.length_eq
    rw [List.length_map, ← hR.nlen] at this
    omega
  simp only [CNx]
  obtain ⟨ya, yc, rfl⟩ := hsl.form
  refine GO ?_
  refine VC.loop (α := Nat × Value × List Value) (Γf := fun s => [(0, ptr0 t), (2, s.2.1), (10, .slice ya ys.length yc), (11, vi ys.length), (12, vi s.1)]) (Hf := fun s => WMem t w ++ [slA (.slice ya ys.length yc) (ys.map Value.string) sp, slA s.2.1 (((ys.take s.1).map (fileOf a)).flatMap fiEnc) s.2.2])
    (I := fun s => s.1 ≤ ys.length ∧ IsSl 2 s.2.1 s.1 (((ys.take s.1).map (fileOf a)).flatMap fiEnc) s.2.2) (μ := fun s => ys.length - s.1) (0, .slice none 0 0, []) ⟨Nat.zero_le _, .nil⟩ (by exact SUx) (Imp.cut (by simp only [WMem, List.cons_append, List.nil_append]; exact IMx) (Imp.perm (A := WMem t w ++ [slA (.slice ya ys.length yc) (ys.map Value.string) sp]) (by simp [slA]))) ?_
  rintro ⟨k, fv, fsp⟩ ⟨hk, hfv⟩
  simp only at hk hfv
  obtain ⟨fva, fvc, rfl⟩ := hfv.form
  simp only [WMem, List.cons_append, List.nil_append]
  refine GO ?_
  (first | (apply VC.seq_cond; rfl) | (apply VC.cond; rfl))
  rotate_left
  · intro hge
    have hge : ¬ k < ys.length := by simpa using hge
    obtain rfl : k = ys.length := by omega
    rw [List.take_length] at hfv ⊢
    refine GO ?_
    exact endQ_mk (Post := WMem t w ++ [slA (.slice fva ys.length fvc) ((ys.map (fileOf a)).flatMap fiEnc) fsp]) (.inr rfl) (.tmp (by rfl) .nil) ⟨ys, fsp, hsort, hfv, rfl⟩ (by simp only [WMem, List.cons_append, List.nil_append]; exact IMx)
  intro hlt
  have hlt : k < ys.length := by simpa using hlt
  obtain ⟨n, hn⟩ : ∃ n, ys[k]? = some n := ⟨ys[k], by simp [hlt]⟩
  obtain ⟨b, o, c, he, _, _⟩ := hsl.some (by omega)
  simp only [Value.slice.injEq, true_and] at he
  obtain ⟨rfl, rfl⟩ := he
  have hmem : n ∈ a.names.map (·.1) := hsort.1.mem_iff.1 (List.mem_of_getElem? hn)
  obtain ⟨j, fb, fo, hj, hwb, hob, hfi, hfo, hnow⟩ := hR.named hmem
  have hnowI := hfo.now
  obtain ⟨na, nc, hnv⟩ := hnowI.form
  have hin : ∀ x ∈ foA (fb, fo), x ∈ w.objs.flatMap foA := fun x hx => List.mem_flatMap.2 ⟨_, List.mem_of_getElem? hob, hx⟩
  have hc0 : Atom.cell fb 0 fo.nv ∈ w.objs.flatMap foA := hin _ (by simp [foA, cellsAt])
  refine GO ?_
  refine st_load1 (v := .string n) (by rfl) (.there (.there (.there (.there (.there (.there (.there (Has.row (by simp [hn])))))))))  ?_
  refine GO ?_
  refine st_lookup (k := n) (by rfl) (by rfl) rfl (by (focus ((repeat (first | with_reducible exact HasO.here | apply HasO.there)); done))) hR.ok.fm ?_
  rw [hwb]
  simp only [Option.map_some, lookV, Bool.false_eq_true, if_false]
  refine GO ?_
  refine st_b2s (l := fo.now) (by rfl) (hnowI.bytesM (fun x hx => ?_)) ?_
  · have := hin x (by simp only [foA, List.mem_append]; exact .inr (.inl hx))
    simp only [List.flatten_cons, List.mem_append, this, true_or, or_true]
  refine GO ?_
  refine st_bslice (out := fiEnc (fileOf a n)) (by rfl) (by simp only [fileOf, hnow]; rfl) (fun q3 => ?_)
  refine st_append (k := k) (m := 1) (xs := ((ys.take k).map (fileOf a)).flatMap fiEnc) (sp := fsp) (ys := fiEnc (fileOf a n)) (by rfl) (by rfl) hfv (by exact TKx) (by rfl) ?_ rfl (by rfl) (by rfl) (by decide) (by omega) (fun sv' sp' hsl' => ?_)
  · exact ⟨rfl, fun a ha => by simp only [List.flatten_cons, List.mem_append]; exact .inl ha⟩
  have htake : ((ys.take (k + 1)).map (fileOf a)).flatMap fiEnc = ((ys.take k).map (fileOf a)).flatMap fiEnc ++ fiEnc (fileOf a n) := by
    rw [List.take_add_one, hn]; simp
  rw [← htake] at hsl' ⊢
  obtain ⟨a', c', hf'⟩ := hsl'.form
  subst hf'
  refine GO ?_
  exact ⟨(k + 1, _, sp'), ⟨by show k + 1 ≤ ys.length; omega, hsl'⟩, by simp only; omega, by exact SUx, by simp only [WMem, List.cons_append, List.nil_append]; exact IMx⟩
end Go.Proofs.YtgindbomnbojeaaGreat

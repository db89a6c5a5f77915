/-
  The outside world: how long a file is; a signal; lists of deeds that are the same.
-/
import Derived.Test.YtklkngccaemjdaaGreatXU
import Derived.Test.YtklkngccaemjdaaGreatWK
import Derived.Test.YtklkngccaemjdaaGreatWOg
set_option linter.unusedSimpArgs false
set_option linter.unusedVariables false
namespace Go.Proofs.YtklkngccaemjdaaGreat
open Go Go.V
set_option maxHeartbeats 12800000
set_option maxRecDepth 100000
set_option linter.unusedSimpArgs false
set_option linter.unusedVariables false
theorem size_spec (t : Nat) (w : WR) (a : AW) (M : Nat) (hM : M ≤ 1073741823) (hR : Rep w a M) (n : Int) :
    Fun Tryz.prog 13 [ptr0 t, vi n] (WMem t w) (fun v Post => v = .tuple #[vi (sizeM n a).1, vi (sizeM n a).2] ∧ Post = WMem t w) := by
  refine Fun.intro low13 (by simp [F13]) ?_
  simp only [WMem]
  have hmany := hR.ok.hmany
  refine GO ?_
  (first | (apply VC.seq_cond; rfl) | (apply VC.cond; rfl))
  · intro hd
    refine GO ?_
    rw [show sizeM n a = (0, 36) from by simp [sizeM, ← hR.dead, hd]]
    exact endQ_mk (Post := WMem t w) (.inr rfl) (.tmp (by rfl) (.tmp (by rfl) .nil)) ⟨rfl, rfl⟩ (by simp only [WMem]; (first | with_reducible exact Imp.refl | with_reducible exact Imp.left | (focus ((try simp only [List.nil_append]); (repeat (first | exact Imp.nil | (apply Imp.cons; (focus ((repeat (first | with_reducible exact Tk.here | apply Tk.there)); done))))); done))))
  intro hd
  refine GO ?_
  refine st_call (held_spec t w n false hR.ok.hv (by omega)) (by rfl) (by simp only [hdr]; (focus ((repeat (first | exact Spl.nil | (apply Spl.cons; (focus ((repeat (first | with_reducible exact Tk.here | apply Tk.there)); done))))); done))) (fun v Post hv => ?_)
  obtain ⟨⟨p, rfl, hp1, hp2⟩, rfl⟩ := hv
  rw [hR.held] at hp1 hp2
  simp only [hR.held, hdr, List.cons_append, List.nil_append]
  refine GO ?_
  have hda : a.dead = false := by rw [← hR.dead, hd]
  by_cases he : heldE a.hs n false = 0
  rotate_left
  · simp only [he, decide_false, Bool.not_false]
    refine GO ?_
    rw [show sizeM n a = (0, heldE a.hs n false) from by simp [sizeM, hda, he]]
    exact endQ_mk (Post := WMem t w) (.inr rfl) (.tmp (by rfl) (.tmp (by rfl) .nil)) ⟨rfl, rfl⟩ (by simp only [WMem]; (first | with_reducible exact Imp.refl | with_reducible exact Imp.left | (focus ((try simp only [List.nil_append]); (repeat (first | exact Imp.nil | (apply Imp.cons; (focus ((repeat (first | with_reducible exact Tk.here | apply Tk.there)); done))))); done))))
  obtain ⟨x, y, b, j, fo, hn1, hx, hy, hxc, hxs, hyc, hys, hmode, hat, hxf, hyf, hob, hfi, hfo, hrange⟩ := hR.opened he
  obtain rfl : p = ptr0 x.blk := hp1 x he hx
  have hgH : getH a n = y := by simp only [getH, hy, Option.getD_some]
  have hgF : getF a n = foF fo := by simp only [getF, hgH, hyf, Option.getD_some, hfi]
  have hfile : Atom.cell x.blk 2 (ptr0 b) ∈ w.hs.flatMap hoA := by
    have := hoA_cell (j := 2) (v := pf x.file) hx rfl
    rw [hxf] at this; exact this
  have hnow : Atom.cell b 0 fo.nv ∈ w.objs.flatMap foA := List.mem_flatMap.2 ⟨_, List.mem_of_getElem? hob, by simp [foA, cellsAt]⟩
  obtain ⟨na, nc, hnv⟩ := hfo.now.form
  rw [hnv] at hnow
  simp only [he, decide_true, Bool.not_true]
  refine GO ?_
  rw [show sizeM n a = ((fo.now.length : Int), 0) from by simp [sizeM, hda, he, hgF, foF]]
  exact endQ_mk (Post := WMem t w) (.inr rfl) (.tmp (by rfl) (.tmp (by rfl) .nil)) ⟨rfl, rfl⟩ (by simp only [WMem]; (first | with_reducible exact Imp.refl | with_reducible exact Imp.left | (focus ((try simp only [List.nil_append]); (repeat (first | exact Imp.nil | (apply Imp.cons; (focus ((repeat (first | with_reducible exact Tk.here | apply Tk.there)); done))))); done))))


theorem sameDeeds_spec (A B : List Atom) (av bv : Value) (fs : List De) (m : Nat) (hm : fs.length = m) (ha : RdRow 6 A av m (fs.flatMap deEnc)) (hb : RdRow 6 B bv m (fs.flatMap deEnc)) (hl : fs.length ≤ 1073741824) :
    Fun Tryz.prog 15 [av, bv] [A, B] (fun v Post => v = .bool true ∧ Post = [A, B]) := by
  refine Fun.intro low15 (by simp [F15]) ?_
  subst hm
  obtain ⟨aa, ac, hae⟩ := ha.form
  obtain ⟨ba, bc, hbe⟩ := hb.form
  rw [hae, hbe]
  rw [hae] at ha
  rw [hbe] at hb
  refine GO ?_
  refine VC.loop (α := Nat) (Γf := fun k => [(0, .slice aa fs.length ac), (1, .slice ba fs.length bc), (5, vi k)]) (Hf := fun _ => [A, B]) (I := fun k => k ≤ fs.length) (μ := fun k => fs.length - k) 0 (Nat.zero_le _) (by (repeat (first | exact Sub.nil | (apply Sub.cons; rfl)))) (by (first | with_reducible exact Imp.refl | with_reducible exact Imp.left | (focus ((try simp only [List.nil_append]); (repeat (first | exact Imp.nil | (apply Imp.cons; (focus ((repeat (first | with_reducible exact Tk.here | apply Tk.there)); done))))); done)))) ?_
  intro k hk
  refine GO ?_
  (first | (apply VC.seq_cond; rfl) | (apply VC.cond; rfl))
  rotate_left
  · intro hge
    refine GO ?_
    exact endQ_mk (Post := [A, B]) (.inr rfl) (.tmp (by rfl) .nil) ⟨rfl, rfl⟩ (by (first | with_reducible exact Imp.refl | with_reducible exact Imp.left | (focus ((try simp only [List.nil_append]); (repeat (first | exact Imp.nil | (apply Imp.cons; (focus ((repeat (first | with_reducible exact Tk.here | apply Tk.there)); done))))); done))))
  intro hlt
  have hlt : k < fs.length := by simpa using hlt
  obtain ⟨p, hp⟩ : ∃ p, fs[k]? = some p := ⟨fs[k], by simp [hlt]⟩
  obtain ⟨b1, o1, c1, hve1, hc1⟩ := ha.at_ (enc := deEnc) (fun p => rfl) hp
  obtain ⟨b2, o2, c2, hve2, hc2⟩ := hb.at_ (enc := deEnc) (fun p => rfl) hp
  simp only [Value.slice.injEq, true_and] at hve1 hve2
  obtain ⟨rfl, rfl⟩ := hve1
  obtain ⟨rfl, rfl⟩ := hve2
  refine GO ?_
  refine st_loadA (us := deEnc p) (by rfl) (fun y hy => by simp only [List.flatten_cons, List.mem_append]; simp only [hc1 y hy, true_or, or_true]) (by rfl) ?_
  refine GO ?_
  refine st_loadA (us := deEnc p) (by rfl) (fun y hy => by simp only [List.flatten_cons, List.mem_append]; simp only [hc2 y hy, true_or, or_true]) (by rfl) ?_
  refine GO ?_
  exact ⟨k + 1, by omega, by omega, by (repeat (first | exact Sub.nil | (apply Sub.cons; rfl))), by (first | with_reducible exact Imp.refl | with_reducible exact Imp.left | (focus ((try simp only [List.nil_append]); (repeat (first | exact Imp.nil | (apply Imp.cons; (focus ((repeat (first | with_reducible exact Tk.here | apply Tk.there)); done))))); done)))⟩

/-- A dead world has no signal. -/
theorem signal_dead (t : Nat) (w : WR) (a : AW) (M : Nat) (hR : Rep w a M) (hd : a.dead = true) : Fun Tryz.prog 14 [ptr0 t] (WMem t w) (fun v Post => v = .tuple #[vi 0, .bool false] ∧ Post = WMem t w) := by
  refine Fun.intro low14 (by simp [F14]) ?_
  have hwd : w.dead = true := by rw [hR.dead]; exact hd
  simp only [WMem]
  refine GO ?_
  rw [hwd]
  refine GO ?_
  exact endQ_mk (.inr rfl) (.tmp (by rfl) (.tmp (by rfl) .nil)) ⟨rfl, rfl⟩ (Imp.refl _)
end Go.Proofs.YtklkngccaemjdaaGreat
namespace Go.Proofs.YtklkngccaemjdaaGreat
open Go Go.V
set_option maxHeartbeats 12800000
set_option maxRecDepth 100000
set_option linter.unusedSimpArgs false
set_option linter.unusedVariables false
def wdRest2 : IC := match F3.body with | .seq _ (.seq _ (.seq _ (.seq _ (.seq _ (.seq _ (.seq _ (.seq _ (.seq _ (.seq _ r))))))))) => r | _ => .skip
def wdRest1 (r : IC) : IC := match F3.body with | .seq _ (.seq _ (.seq _ (.seq _ (.seq a (.seq b (.seq c (.seq d (.seq e (.seq f _))))))))) => .seq a (.seq b (.seq c (.seq d (.seq e (.seq f r))))) | _ => .skip
def wdHead (r : IC) : IC := match F3.body with | .seq a (.seq b (.seq c (.seq d _))) => .seq a (.seq b (.seq c (.seq d r))) | _ => .skip
theorem wd_body : F3.body = wdHead (wdRest1 wdRest2) := rfl

theorem wdRest2_spec (A A2 : List Atom) (hA : Imp [A2] [A]) (fv lv cv wv : Value) (cs : List Ch) (fs : List (ByteArray × ByteArray)) (l : List ActW) (hc : RdRow 3 A2 cv (cs ++ [crashC]).length ((cs ++ [crashC]).flatMap chEnc)) (hw : RdRow 3 A2 wv cs.length (cs.flatMap chEnc)) (hf : RdRow 2 A2 fv fs.length (fs.flatMap fiEnc)) (hl : RdRow 5 A2 lv l.length (l.flatMap actEnc))
    (hcl : cs.length < 65536) (hck : ∀ c ∈ cs, c.kind ≠ 5) (hfl : fs.length ≤ 1048576) (hfs : ∀ p ∈ fs, p.1.size ≤ 1048576 ∧ p.2.size ≤ 1048576) (hll : l.length ≤ 1048576) (hls : ∀ x ∈ l, x.name.size ≤ 1048576 ∧ x.text.size ≤ 1048576) :
    VC Tryz.prog F3.n wdRest2 [(1, fv), (2, lv), (9, .bool true), (10, cv), (12, wv)] [A2] (endQ F3.res (fun v Post => v = .bool true ∧ Post = [A])) := by
  obtain ⟨la, lc, hle⟩ := hl.form
  rw [hle] at hl ⊢
  refine GO ?_
  refine st_call (new_spec A2 cv fv (cs ++ [crashC]) fs hc hf (by simp; omega) (by omega) (fun p hp => ⟨by have := (hfs p hp).1; omega, by have := (hfs p hp).2; omega⟩)) (by rfl) (by (focus ((repeat (first | exact Spl.nil | (apply Spl.cons; (focus ((repeat (first | with_reducible exact Tk.here | apply Tk.there)); done))))); done))) (fun v Post hv => ?_)
  rcases cut_new (fs := fs) hcl hck with ⟨hn1, hn2⟩ | ⟨a0, b0, hn1, hn2, hcut0⟩
  · rw [hn1] at hv
    obtain ⟨rfl, rfl⟩ := hv
    simp only [List.cons_append, List.nil_append]
    refine GO ?_
    refine st_call (new_spec A2 wv fv cs fs hw hf (by omega) (by omega) (fun p hp => ⟨by have := (hfs p hp).1; omega, by have := (hfs p hp).2; omega⟩)) (by rfl) (by (focus ((repeat (first | exact Spl.nil | (apply Spl.cons; (focus ((repeat (first | with_reducible exact Tk.here | apply Tk.there)); done))))); done))) (fun v Post hv => ?_)
    rw [hn2] at hv
    obtain ⟨rfl, rfl⟩ := hv
    simp only [List.cons_append, List.nil_append]
    refine GO ?_
    exact endQ_mk (Post := [A]) (.inr rfl) (.tmp (by rfl) .nil) ⟨rfl, rfl⟩ (Imp.cut (by (first | with_reducible exact Imp.refl | with_reducible exact Imp.left | (focus ((try simp only [List.nil_append]); (repeat (first | exact Imp.nil | (apply Imp.cons; (focus ((repeat (first | with_reducible exact Tk.here | apply Tk.there)); done))))); done)))) hA)
  rw [hn1] at hv
  obtain ⟨t, w0, rfl, hR0, rfl⟩ := hv
  simp only [WMem, List.cons_append, List.nil_append]
  refine GO ?_
  refine st_call (new_spec A2 wv fv cs fs hw hf (by omega) (by omega) (fun p hp => ⟨by have := (hfs p hp).1; omega, by have := (hfs p hp).2; omega⟩)) (by rfl) (by (focus ((repeat (first | exact Spl.nil | (apply Spl.cons; (focus ((repeat (first | with_reducible exact Tk.here | apply Tk.there)); done))))); done))) (fun v Post hv => ?_)
  rw [hn2] at hv
  obtain ⟨t2, v0, rfl, hS0, rfl⟩ := hv
  simp only [WMem, List.cons_append, List.nil_append]
  refine GO ?_
  refine VC.loop (α := Nat × WR × AW × Nat × WR × AW × Nat) (Γf := fun s => [(2, .slice la l.length lc), (9, .bool true), (13, ptr0 t), (15, ptr0 t2), (17, vi s.1)]) (Hf := fun s => WMem t s.2.1 ++ (WMem t2 s.2.2.2.2.1 ++ [A2]))
    (I := fun s => s.1 ≤ l.length ∧ s.2.2.2.1 ≤ s.1 ∧ s.2.2.2.2.2.2 ≤ s.1 ∧ Rep s.2.1 s.2.2.1 s.2.2.2.1 ∧ Rep s.2.2.2.2.1 s.2.2.2.2.2.1 s.2.2.2.2.2.2 ∧ Cut s.2.2.1 s.2.2.2.2.2.1) (μ := fun s => l.length - s.1) (0, w0, a0, 0, v0, b0, 0) ⟨Nat.zero_le _, Nat.zero_le _, Nat.zero_le _, hR0, hS0, hcut0⟩ (by (repeat (first | exact Sub.nil | (apply Sub.cons; rfl)))) (by simp only [WMem, List.cons_append, List.nil_append]; (first | with_reducible exact Imp.refl | with_reducible exact Imp.left | (focus ((try simp only [List.nil_append]); (repeat (first | exact Imp.nil | (apply Imp.cons; (focus ((repeat (first | with_reducible exact Tk.here | apply Tk.there)); done))))); done)))) ?_
  rintro ⟨k, w, a, M, v, b, N⟩ ⟨hk, hMk, hNk, hR, hS, hcut⟩
  simp only at hk hMk hNk hR hS hcut
  simp only [WMem, List.cons_append, List.nil_append]
  by_cases h1 : k < l.length
  rotate_left
  · refine GO ?_
    simp only [show ¬ (k : Int) < (l.length : Int) by omega, decide_false]
    refine GO ?_
    refine st_call (trace_spec t w a M (by omega) hR) (by rfl) (by simp only [WMem]; (focus ((repeat (first | exact Spl.nil | (apply Spl.cons; (focus ((repeat (first | with_reducible exact Tk.here | apply Tk.there)); done))))); done))) (fun v Post hv => ?_)
    obtain ⟨tsp, htv, rfl⟩ := hv
    obtain ⟨ta, tc, rfl⟩ := htv.form
    simp only [WMem, List.cons_append, List.nil_append]
    refine GO ?_
    refine st_call (trace_spec t2 _ b N (by omega) hS) (by rfl) (by simp only [WMem]; (focus ((repeat (first | exact Spl.nil | (apply Spl.cons; (focus ((repeat (first | with_reducible exact Tk.here | apply Tk.there)); done))))); done))) (fun v Post hv => ?_)
    obtain ⟨usp, huv, rfl⟩ := hv
    obtain ⟨ua, uc, rfl⟩ := huv.form
    simp only [WMem, List.cons_append, List.nil_append]
    have htr : a.trace = b.trace := by rw [hcut.1]; rfl
    have hlen : a.trace.length ≤ 1073741824 := by have := hR.ok.trmany; rw [hR.tr] at this; omega
    rw [← htr] at huv ⊢
    have rt := htv.rd
    have ru := huv.rd
    generalize slA (.slice ta a.trace.length tc) (a.trace.flatMap deEnc) tsp = X at rt ⊢
    generalize slA (.slice ua a.trace.length uc) (a.trace.flatMap deEnc) usp = Y at ru ⊢
    refine GO ?_
    refine st_call (sameDeeds_spec X Y _ _ a.trace a.trace.length rfl rt ru hlen) (by rfl) (by (focus ((repeat (first | exact Spl.nil | (apply Spl.cons; (focus ((repeat (first | with_reducible exact Tk.here | apply Tk.there)); done))))); done))) (fun v Post hv => ?_)
    obtain ⟨rfl, rfl⟩ := hv
    simp only [List.cons_append, List.nil_append]
    refine GO ?_
    exact endQ_mk (Post := [A]) (.inr rfl) (.tmp (by rfl) .nil) ⟨rfl, rfl⟩ (Imp.cut (by (first | with_reducible exact Imp.refl | with_reducible exact Imp.left | (focus ((try simp only [List.nil_append]); (repeat (first | exact Imp.nil | (apply Imp.cons; (focus ((repeat (first | with_reducible exact Tk.here | apply Tk.there)); done))))); done)))) hA)
  refine GO ?_
  simp only [show (k : Int) < (l.length : Int) by omega, decide_true]
  obtain ⟨x, hx⟩ : ∃ x, l[k]? = some x := ⟨l[k], by simp [h1]⟩
  obtain ⟨bb, oo, cc, hve, hcell⟩ := hl.at_ (enc := actEnc) (fun p => rfl) hx
  simp only [Value.slice.injEq, true_and] at hve
  obtain ⟨rfl, rfl⟩ := hve
  have hxs := hls x (List.mem_of_getElem? hx)
  refine GO ?_
  refine st_loadA (us := actEnc x) (by rfl) (fun y hy => by simp only [List.flatten_cons, List.mem_append]; simp only [hcell y hy, true_or, or_true]) (by rfl) ?_
  refine GO ?_
  refine st_call (call_spec t w a M (by omega) hR x (by omega) (by omega)) (by rfl) (by simp only [WMem]; (focus ((repeat (first | exact Spl.nil | (apply Spl.cons; (focus ((repeat (first | with_reducible exact Tk.here | apply Tk.there)); done))))); done))) (fun vv Post hv => ?_)
  obtain ⟨w1, M1, hM1, hR1, rfl, rfl⟩ := hv
  obtain ⟨hlive, hdead⟩ := cut_call hcut x
  generalize hca : callM x a = r at hR1 hlive hdead ⊢
  obtain ⟨e, a1⟩ := r
  simp only at hR1 hlive hdead
  simp only [WMem, List.cons_append, List.nil_append]
  refine GO ?_
  refine st_call (dead_spec t w1 a1 M1 hR1) (by rfl) (by simp only [WMem]; (focus ((repeat (first | exact Spl.nil | (apply Spl.cons; (focus ((repeat (first | with_reducible exact Tk.here | apply Tk.there)); done))))); done))) (fun vv Post hv => ?_)
  obtain ⟨rfl, rfl⟩ := hv
  simp only [WMem, List.cons_append, List.nil_append]
  cases hd : a1.dead with
  | false =>
    obtain ⟨he, hcut1⟩ := hlive hd
    refine GO ?_
    refine st_loadA (us := actEnc x) (by rfl) (fun y hy => by simp only [List.flatten_cons, List.mem_append]; simp only [hcell y hy, true_or, or_true]) (by rfl) ?_
    refine GO ?_
    refine st_call (call_spec t2 v b N (by omega) hS x (by omega) (by omega)) (by rfl) (by simp only [WMem]; (focus ((repeat (first | exact Spl.nil | (apply Spl.cons; (focus ((repeat (first | with_reducible exact Tk.here | apply Tk.there)); done))))); done))) (fun vv Post hv => ?_)
    obtain ⟨v1, N1, hN1, hS1, rfl, rfl⟩ := hv
    rw [← he]
    simp only [WMem, List.cons_append, List.nil_append]
    refine GO ?_
    exact ⟨(k + 1, w1, a1, M1, v1, (callM x b).2, N1), ⟨by show k + 1 ≤ l.length; omega, by show M1 ≤ k + 1; omega, by show N1 ≤ k + 1; omega, hR1, hS1, hcut1⟩, by simp only; omega, by (repeat (first | exact Sub.nil | (apply Sub.cons; rfl))), by simp only [WMem, List.cons_append, List.nil_append]; (first | with_reducible exact Imp.refl | with_reducible exact Imp.left | (focus ((try simp only [List.nil_append]); (repeat (first | exact Imp.nil | (apply Imp.cons; (focus ((repeat (first | with_reducible exact Tk.here | apply Tk.there)); done))))); done)))⟩
  | true =>
    obtain ⟨rfl, ha1⟩ := hdead hd
    have htr : a1.trace = b.trace := by rw [ha1, hcut.1]; rfl
    have hlen : a1.trace.length ≤ 1073741824 := by have := hR1.ok.trmany; rw [hR1.tr] at this; omega
    have hnl : a1.names.length ≤ 1073741823 := hR1.files64
    refine GO ?_
    refine st_call (trace_spec t w1 a1 M1 (by omega) hR1) (by rfl) (by simp only [WMem]; (focus ((repeat (first | exact Spl.nil | (apply Spl.cons; (focus ((repeat (first | with_reducible exact Tk.here | apply Tk.there)); done))))); done))) (fun vv Post hv => ?_)
    obtain ⟨tsp, htv, rfl⟩ := hv
    obtain ⟨ta, tc, rfl⟩ := htv.form
    simp only [WMem, List.cons_append, List.nil_append]
    have rt := htv.rd
    generalize slA (.slice ta a1.trace.length tc) (a1.trace.flatMap deEnc) tsp = X at rt ⊢
    refine GO ?_
    refine st_call (files_spec t w1 a1 M1 (by omega) hR1) (by rfl) (by simp only [WMem]; (focus ((repeat (first | exact Spl.nil | (apply Spl.cons; (focus ((repeat (first | with_reducible exact Tk.here | apply Tk.there)); done))))); done))) (fun vv Post hv => ?_)
    obtain ⟨ns, nsp, hns, hnv, rfl⟩ := hv
    obtain ⟨na, nc, rfl⟩ := hnv.form
    simp only [WMem, List.cons_append, List.nil_append]
    have rn := hnv.rd
    generalize slA (.slice na ns.length nc) ((ns.map (fileOf a1)).flatMap fiEnc) nsp = Y at rn ⊢
    refine GO ?_
    refine st_call (show_spec t w1 a1 M1 (by omega) hR1 ⟨#[120]⟩) (by rfl) (by simp only [WMem]; (focus ((repeat (first | exact Spl.nil | (apply Spl.cons; (focus ((repeat (first | with_reducible exact Tk.here | apply Tk.there)); done))))); done))) (fun vv Post hv => ?_)
    obtain ⟨w2, hR2, rfl, rfl⟩ := hv
    rw [show showM ⟨#[120]⟩ a1 = (noDe, 36, a1) from dead_deed hd _ _] at hR2 ⊢
    simp only [WMem, List.cons_append, List.nil_append]
    refine GO ?_
    refine st_call (close_spec t w2 a1 (M1 + 1) (by omega) hR2 1) (by rfl) (by simp only [WMem]; (focus ((repeat (first | exact Spl.nil | (apply Spl.cons; (focus ((repeat (first | with_reducible exact Tk.here | apply Tk.there)); done))))); done))) (fun vv Post hv => ?_)
    obtain ⟨w3, hR3, rfl, rfl⟩ := hv
    rw [show closeM 1 a1 = (noDe, 36, a1) from dead_deed hd _ _] at hR3 ⊢
    simp only [WMem, List.cons_append, List.nil_append]
    refine GO ?_
    refine st_call (size_spec t w3 a1 (M1 + 1 + 1) (by omega) hR3 1) (by rfl) (by simp only [WMem]; (focus ((repeat (first | exact Spl.nil | (apply Spl.cons; (focus ((repeat (first | with_reducible exact Tk.here | apply Tk.there)); done))))); done))) (fun vv Post hv => ?_)
    obtain ⟨rfl, rfl⟩ := hv
    rw [show sizeM 1 a1 = (0, 36) from by simp [sizeM, hd]]
    simp only [WMem, List.cons_append, List.nil_append]
    refine GO ?_
    refine st_call (signal_dead t w3 a1 (M1 + 1 + 1) hR3 hd) (by rfl) (by simp only [WMem]; (focus ((repeat (first | exact Spl.nil | (apply Spl.cons; (focus ((repeat (first | with_reducible exact Tk.here | apply Tk.there)); done))))); done))) (fun vv Post hv => ?_)
    obtain ⟨rfl, rfl⟩ := hv
    simp only [WMem, List.cons_append, List.nil_append]
    refine GO ?_
    refine st_call (trace_spec t w3 a1 (M1 + 1 + 1) (by omega) hR3) (by rfl) (by simp only [WMem]; (focus ((repeat (first | exact Spl.nil | (apply Spl.cons; (focus ((repeat (first | with_reducible exact Tk.here | apply Tk.there)); done))))); done))) (fun vv Post hv => ?_)
    obtain ⟨usp, huv, rfl⟩ := hv
    obtain ⟨ua, uc, rfl⟩ := huv.form
    simp only [WMem, List.cons_append, List.nil_append]
    have ru := huv.rd
    generalize slA (.slice ua a1.trace.length uc) (a1.trace.flatMap deEnc) usp = U at ru ⊢
    refine GO ?_
    refine st_call (files_spec t w3 a1 (M1 + 1 + 1) (by omega) hR3) (by rfl) (by simp only [WMem]; (focus ((repeat (first | exact Spl.nil | (apply Spl.cons; (focus ((repeat (first | with_reducible exact Tk.here | apply Tk.there)); done))))); done))) (fun vv Post hv => ?_)
    obtain ⟨ys, ysp, hys, hyv, rfl⟩ := hv
    obtain rfl : ys = ns := sorted_perm ltS_ok hys hns (.refl _)
    obtain ⟨ya, yc, rfl⟩ := hyv.form
    simp only [WMem, List.cons_append, List.nil_append]
    have ry := hyv.rd
    generalize slA (.slice ya ys.length yc) ((ys.map (fileOf a1)).flatMap fiEnc) ysp = Yb at ry ⊢
    have hyl : ys.length ≤ 1073741823 := by have := hys.1.length_eq; rw [List.length_map] at this; omega
    refine GO ?_
    refine st_call (sameDeeds_spec X U _ _ a1.trace a1.trace.length rfl rt ru hlen) (by rfl) (by (focus ((repeat (first | exact Spl.nil | (apply Spl.cons; (focus ((repeat (first | with_reducible exact Tk.here | apply Tk.there)); done))))); done))) (fun vv Post hv => ?_)
    obtain ⟨rfl, rfl⟩ := hv
    simp only [List.cons_append, List.nil_append]
    refine GO ?_
    refine st_call (sameFiles_spec Y Yb _ _ (ys.map (fileOf a1)) ys.length (by simp) rn ry (by simp; omega)) (by rfl) (by (focus ((repeat (first | exact Spl.nil | (apply Spl.cons; (focus ((repeat (first | with_reducible exact Tk.here | apply Tk.there)); done))))); done))) (fun vv Post hv => ?_)
    obtain ⟨rfl, rfl⟩ := hv
    simp only [List.cons_append, List.nil_append]
    refine GO ?_
    refine st_call (trace_spec t2 v b N (by omega) hS) (by rfl) (by simp only [WMem]; (focus ((repeat (first | exact Spl.nil | (apply Spl.cons; (focus ((repeat (first | with_reducible exact Tk.here | apply Tk.there)); done))))); done))) (fun vv Post hv => ?_)
    obtain ⟨osp, hov, rfl⟩ := hv
    obtain ⟨oa, oc, rfl⟩ := hov.form
    simp only [WMem, List.cons_append, List.nil_append]
    rw [← htr] at hov ⊢
    have ro := hov.rd
    generalize slA (.slice oa a1.trace.length oc) (a1.trace.flatMap deEnc) osp = O at ro ⊢
    refine GO ?_
    refine st_call (sameDeeds_spec X O _ _ a1.trace a1.trace.length rfl rt ro hlen) (by rfl) (by (focus ((repeat (first | exact Spl.nil | (apply Spl.cons; (focus ((repeat (first | with_reducible exact Tk.here | apply Tk.there)); done))))); done))) (fun vv Post hv => ?_)
    obtain ⟨rfl, rfl⟩ := hv
    simp only [List.cons_append, List.nil_append]
    refine GO ?_
    exact endQ_mk (Post := [A]) (.inr rfl) (.tmp (by rfl) .nil) ⟨rfl, rfl⟩ (Imp.cut (by (first | with_reducible exact Imp.refl | with_reducible exact Imp.left | (focus ((try simp only [List.nil_append]); (repeat (first | exact Imp.nil | (apply Imp.cons; (focus ((repeat (first | with_reducible exact Tk.here | apply Tk.there)); done))))); done)))) hA)
end Go.Proofs.YtklkngccaemjdaaGreat
namespace Go.V
open Go
theorem IsSl.src {size n : Nat} {v : Value} {xs sp : List Value} {H : List Atom} (h : IsSl size v n xs sp) (hin : ∀ a ∈ slA v xs sp, a ∈ H) : Src H size n xs v := by
  cases h with
  | mk h1 h2 h3 => exact ⟨h1, fun a ha => hin a (by simp only [slA, cellsAt_append, List.mem_append]; exact .inl ha)⟩
  | nil => simp [Src]
theorem Imp.fresh2 {H : SH} : Imp H (slA (.slice none 0 0) [] [] :: H) := Imp.fresh rfl
end Go.V
namespace Go.Proofs.YtklkngccaemjdaaGreat
open Go Go.V
set_option maxHeartbeats 12800000
set_option maxRecDepth 100000
set_option linter.unusedSimpArgs false
set_option linter.unusedVariables false
theorem wdRest1_spec (A : List Atom) (fv lv cv : Value) (cs : List Ch) (fs : List (ByteArray × ByteArray)) (l : List ActW) (at_ : Int) (hat : 0 ≤ at_) (hat2 : at_ ≤ 9223372036854775807) (hc : RdRow 3 A cv cs.length (cs.flatMap chEnc)) (hf : RdRow 2 A fv fs.length (fs.flatMap fiEnc)) (hl : RdRow 5 A lv l.length (l.flatMap actEnc))
    (hcl : cs.length < 65536) (hfl : fs.length ≤ 1048576) (hfs : ∀ p ∈ fs, p.1.size ≤ 1048576 ∧ p.2.size ≤ 1048576) (hll : l.length ≤ 1048576) (hls : ∀ x ∈ l, x.name.size ≤ 1048576 ∧ x.text.size ≤ 1048576) :
    VC Tryz.prog F3.n (wdRest1 wdRest2) [(0, cv), (1, fv), (2, lv), (3, vi at_), (9, .bool true)] [A] (endQ F3.res (fun v Post => v = .bool true ∧ Post = [A])) := by
  have rest := fun (A2 : List Atom) => wdRest2_spec A A2
  generalize wdRest2 = r at rest ⊢
  obtain ⟨ca, cc, hce⟩ := hc.form
  rw [hce] at hc ⊢
  refine GO ?_
  have hm0 : 0 ≤ at_.tmod ((cs.length : Int) + 1) := Int.tmod_nonneg _ hat
  have hm1 : at_.tmod ((cs.length : Int) + 1) < (cs.length : Int) + 1 := Int.tmod_lt_of_pos _ (by omega)
  generalize at_.tmod ((cs.length : Int) + 1) = mm at hm0 hm1 ⊢
  obtain ⟨m, rfl⟩ := Int.eq_ofNat_of_zero_le hm0
  have hml : m ≤ cs.length := by omega
  refine VC.loop (α := Nat × Value × List Value) (Γf := fun s => [(0, .slice ca cs.length cc), (1, fv), (2, lv), (3, vi m), (9, .bool true), (10, s.2.1), (11, vi s.1)]) (Hf := fun s => [slA s.2.1 ((cutC (cs.take s.1)).flatMap chEnc) s.2.2, A])
    (I := fun s => s.1 ≤ m ∧ IsSl 3 s.2.1 (cutC (cs.take s.1)).length ((cutC (cs.take s.1)).flatMap chEnc) s.2.2) (μ := fun s => m - s.1) (0, .slice none 0 0, []) ⟨Nat.zero_le _, .nil⟩ (by (repeat (first | exact Sub.nil | (apply Sub.cons; rfl)))) (Imp.cut (M := [A]) (by (first | with_reducible exact Imp.refl | with_reducible exact Imp.left | (focus ((try simp only [List.nil_append]); (repeat (first | exact Imp.nil | (apply Imp.cons; (focus ((repeat (first | with_reducible exact Tk.here | apply Tk.there)); done))))); done)))) Imp.fresh2) ?_
  rintro ⟨k, sv, sp⟩ ⟨hk, hsv⟩
  simp only at hk hsv
  have hkl := cutC_le (cs.take k)
  rw [List.length_take] at hkl
  obtain ⟨sa, sc, rfl⟩ := hsv.form
  refine GO ?_
  (first | (apply VC.seq_cond; rfl) | (apply VC.cond; rfl))
  · intro hlt
    have hlt : k < m := by simpa using hlt
    obtain ⟨c, hcc⟩ : ∃ c, cs[k]? = some c := ⟨cs[k], List.getElem?_eq_getElem (by omega)⟩
    have hsucc := cutC_succ hcc
    obtain ⟨b, o, c', hve, hcell⟩ := hc.at_ (enc := chEnc) (fun p => rfl) hcc
    simp only [Value.slice.injEq, true_and] at hve
    obtain ⟨rfl, rfl⟩ := hve
    have m0 : Atom.cell b (o + k * 3) (.int .u8 c.kind) ∈ A := hcell _ (mem_cellsAt.2 ⟨0, _, rfl, rfl⟩)
    refine GO ?_
    by_cases hkind : c.kind = 5
    · simp only [decide_eq_true hkind, Bool.not_true]
      refine GO ?_
      have hs : cutC (cs.take (k + 1)) = cutC (cs.take k) := by rw [hsucc, if_neg (by simp [hkind])]; simp
      exact ⟨(k + 1, .slice sa (cutC (cs.take k)).length sc, sp), ⟨by show k + 1 ≤ m; omega, by simp only [hs]; exact hsv⟩, by simp only; omega, by (repeat (first | exact Sub.nil | (apply Sub.cons; rfl))), by simp only [hs]; (first | with_reducible exact Imp.refl | with_reducible exact Imp.left | (focus ((try simp only [List.nil_append]); (repeat (first | exact Imp.nil | (apply Imp.cons; (focus ((repeat (first | with_reducible exact Tk.here | apply Tk.there)); done))))); done)))⟩
    simp only [decide_eq_false hkind, Bool.not_false]
    refine GO ?_
    refine st_loadA (us := chEnc c) (by rfl) (fun y hy => by simp only [List.flatten_cons, List.mem_append]; simp only [hcell y hy, true_or, or_true]) (by rfl) ?_
    refine GO ?_
    refine st_bslice (out := chEnc c) (by rfl) (by rfl) (fun q3 => ?_)
    refine GO ?_
    refine st_append (k := (cutC (cs.take k)).length) (m := 1) (xs := (cutC (cs.take k)).flatMap chEnc) (sp := sp) (ys := chEnc c) (by rfl) (by rfl) hsv (by (focus ((repeat (first | with_reducible exact Tk.here | apply Tk.there)); done))) (by rfl) ?_ rfl (by rfl) (by rfl) (by decide) (by omega) (fun sv' sp' hsl' => ?_)
    · exact ⟨rfl, fun a ha => by simp only [List.flatten_cons, List.mem_append]; exact .inl ha⟩
    have hs : cutC (cs.take (k + 1)) = cutC (cs.take k) ++ [c] := by rw [hsucc, if_pos hkind]
    have htake : (cutC (cs.take k) ++ [c]).flatMap chEnc = (cutC (cs.take k)).flatMap chEnc ++ chEnc c := by simp
    have hlen : (cutC (cs.take k) ++ [c]).length = (cutC (cs.take k)).length + 1 := by simp
    rw [← htake, ← hlen] at hsl'
    rw [← htake]
    obtain ⟨a', c'', hf'⟩ := hsl'.form
    subst hf'
    refine GO ?_
    exact ⟨(k + 1, .slice a' (cutC (cs.take k) ++ [c]).length c'', sp'), ⟨by show k + 1 ≤ m; omega, by simp only [hs]; exact hsl'⟩, by simp only; omega, by (repeat (first | exact Sub.nil | (apply Sub.cons; rfl))), by simp only [hs]; (first | with_reducible exact Imp.refl | with_reducible exact Imp.left | (focus ((try simp only [List.nil_append]); (repeat (first | exact Imp.nil | (apply Imp.cons; (focus ((repeat (first | with_reducible exact Tk.here | apply Tk.there)); done))))); done)))⟩
  intro _
  have hck := cutC_kind (cs := cs.take k)
  have hcl2 : (cutC (cs.take k)).length < 65536 := by omega
  generalize cutC (cs.take k) = cut at hsv hck hcl2 hkl ⊢
  refine VC.imp Imp.fresh2 ?_
  refine GO ?_
  refine st_append (k := 0) (m := cut.length) (xs := []) (sp := []) (ys := cut.flatMap chEnc) (by rfl) (by rfl) .nil (by (focus ((repeat (first | with_reducible exact Tk.here | apply Tk.there)); done))) (by rfl) (hsv.src (fun a ha => by simp only [List.flatten_cons, List.mem_append]; exact .inl ha)) hsv.len (chEnc_one _) (by rfl) (by decide) (by omega) (fun wv wsp hwv => ?_)
  rw [Nat.zero_add, List.nil_append] at hwv
  rw [List.nil_append]
  obtain ⟨wa, wc', hwe⟩ := hwv.form
  subst hwe
  refine GO ?_
  refine st_bslice (out := chEnc crashC) (by rfl) (by rfl) (fun q3 => ?_)
  refine GO ?_
  refine st_append (k := cut.length) (m := 1) (xs := cut.flatMap chEnc) (sp := sp) (ys := chEnc crashC) (by rfl) (by rfl) hsv (by (focus ((repeat (first | with_reducible exact Tk.here | apply Tk.there)); done))) (by rfl) ?_ rfl (by rfl) (by rfl) (by decide) (by omega) (fun sv' sp' hsl' => ?_)
  · exact ⟨rfl, fun a ha => by simp only [List.flatten_cons, List.mem_append]; exact .inl ha⟩
  have htake : (cut ++ [crashC]).flatMap chEnc = cut.flatMap chEnc ++ chEnc crashC := by simp
  have hlen : (cut ++ [crashC]).length = cut.length + 1 := by simp
  rw [← htake, ← hlen] at hsl'
  rw [← htake]
  obtain ⟨a', c'', hf'⟩ := hsl'.form
  subst hf'
  have rw' := hwv.rd
  have rs := hsl'.rd
  generalize slA (.slice a' (cut ++ [crashC]).length c'') ((cut ++ [crashC]).flatMap chEnc) sp' = S1 at rs ⊢
  generalize slA (.slice wa cut.length wc') (cut.flatMap chEnc) wsp = S2 at rw' ⊢
  refine GO ?_
  refine VC.imp (H' := [S1 ++ (S2 ++ A)]) (Imp.cut (M := [S1, S2, A]) (by (first | with_reducible exact Imp.refl | with_reducible exact Imp.left | (focus ((try simp only [List.nil_append]); (repeat (first | exact Imp.nil | (apply Imp.cons; (focus ((repeat (first | with_reducible exact Tk.here | apply Tk.there)); done))))); done)))) (Imp.perm (by simp))) (VC.sub (by (repeat (first | exact Sub.nil | (apply Sub.cons; rfl)))) (rest (S1 ++ (S2 ++ A)) (Imp.cut (M := [S1, S2, A]) (Imp.perm (by simp)) (by (first | with_reducible exact Imp.refl | with_reducible exact Imp.left | (focus ((try simp only [List.nil_append]); (repeat (first | exact Imp.nil | (apply Imp.cons; (focus ((repeat (first | with_reducible exact Tk.here | apply Tk.there)); done))))); done))))) fv lv _ _ cut fs l (rs.mono (by simp_all)) (rw'.mono (by simp_all)) (hf.mono (by simp_all)) (hl.mono (by simp_all)) hcl2 hck hfl hfs hll hls))

theorem worldDead_spec (A : List Atom) (fv lv cv : Value) (cs : List Ch) (fs : List (ByteArray × ByteArray)) (l : List ActW) (at_ : Int) (hat1 : -9223372036854775808 ≤ at_) (hat2 : at_ ≤ 9223372036854775807) (hc : RdRow 3 A cv cs.length (cs.flatMap chEnc)) (hf : RdRow 2 A fv fs.length (fs.flatMap fiEnc)) (hl : RdRow 5 A lv l.length (l.flatMap actEnc))
    (hcl : cs.length ≤ 1048576) (hfl : fs.length ≤ 1048576) (hfs : ∀ p ∈ fs, p.1.size ≤ 1048576 ∧ p.2.size ≤ 1048576) (hll : l.length ≤ 1048576) (hls : ∀ x ∈ l, x.name.size ≤ 1048576 ∧ x.text.size ≤ 1048576) :
    Fun Tryz.prog 3 [cv, fv, lv, vi at_] [A] (fun v Post => v = .bool true ∧ Post = [A]) := by
  refine Fun.intro low3 (by simp [F3]) ?_
  have rest := fun (a : Int) (h1 : 0 ≤ a) (h2 : a ≤ 9223372036854775807) (h3 : cs.length < 65536) => wdRest1_spec A fv lv cv cs fs l a h1 h2 hc hf hl h3 hfl hfs hll hls
  rw [wd_body]
  generalize wdRest1 wdRest2 = r at rest ⊢
  obtain ⟨ca, cc, hce⟩ := hc.form
  rw [hce] at rest ⊢
  refine GO ?_
  refine st_call works_spec (by rfl) Spl.nil (fun v Post hv => ?_)
  obtain ⟨rfl, rfl⟩ := hv
  simp only [List.nil_append]
  refine GO ?_
  generalize hg : decide ((cs.length : Int) > 65535) = cb
  cases cb with
  | true =>
    refine GO ?_
    exact endQ_mk (Post := [A]) (.inr rfl) (.tmp (by rfl) .nil) ⟨rfl, rfl⟩ (by (first | with_reducible exact Imp.refl | with_reducible exact Imp.left | (focus ((try simp only [List.nil_append]); (repeat (first | exact Imp.nil | (apply Imp.cons; (focus ((repeat (first | with_reducible exact Tk.here | apply Tk.there)); done))))); done))))
  | false =>
  have hcl2 : cs.length < 65536 := by have := of_decide_eq_false hg; omega
  refine GO ?_
  by_cases hneg : at_ < 0
  · simp only [decide_eq_true hneg]
    refine GO ?_
    have hwr : IntKind.i64.wrap (0 - (at_ + 1)) = -(at_ + 1) := by
      rw [show (0 : Int) - (at_ + 1) = -(at_ + 1) by omega]
      exact wrap64 ⟨by omega, by omega⟩
    rw [hwr]
    refine VC.imp (by (first | with_reducible exact Imp.refl | with_reducible exact Imp.left | (focus ((try simp only [List.nil_append]); (repeat (first | exact Imp.nil | (apply Imp.cons; (focus ((repeat (first | with_reducible exact Tk.here | apply Tk.there)); done))))); done)))) (VC.sub (by (repeat (first | exact Sub.nil | (apply Sub.cons; rfl)))) (rest (-(at_ + 1)) (by omega) (by omega) hcl2))
  · simp only [decide_eq_false hneg]
    refine GO ?_
    refine VC.imp (by (first | with_reducible exact Imp.refl | with_reducible exact Imp.left | (focus ((try simp only [List.nil_append]); (repeat (first | exact Imp.nil | (apply Imp.cons; (focus ((repeat (first | with_reducible exact Tk.here | apply Tk.there)); done))))); done)))) (VC.sub (by (repeat (first | exact Sub.nil | (apply Sub.cons; rfl)))) (rest at_ (by omega) (by omega) hcl2))
end Go.Proofs.YtklkngccaemjdaaGreat

/-
  The outside world: what is written is read back.
-/
import Derived.Test.YtklkngccaemjdaaXQ
import Derived.Test.YtklkngccaemjdaaWE
namespace Go.Proofs.Ytklkngccaemjdaa
open Go Go.V
set_option maxHeartbeats 12800000
set_option maxRecDepth 100000
set_option linter.unusedSimpArgs false
set_option linter.unusedVariables false
theorem size_spec (t : Nat) (w : WR) (a : AW) (M : Nat) (hM : M ≤ 1073741823) (hR : Rep w a M) (n : Int) :
    Fun Try.prog 14 [ptr0 t, vi n] (WMem t w) (fun v Post => v = .tuple #[vi (sizeM n a).1, vi (sizeM n a).2] ∧ Post = WMem t w) := by
  refine Fun.intro low14 (by simp [F14]) ?_
  simp only [WMem]
  have hmany := hR.ok.hmany
  refine GO ?_
  (first | (apply VC.seq_cond; rfl) | (apply VC.cond; rfl))
  · intro hd
    refine GO ?_
    rw [show sizeM n a = (0, 36) from by simp [sizeM, ← hR.dead, hd]]
    exact endQ_mk (Post := WMem t w) (.inr rfl) (.tmp (by rfl) (.tmp (by rfl) .nil)) ⟨rfl, rfl⟩ (by simp only [WMem]; (first | with_reducible exact Imp.refl | with_reducible exact Imp.left | (focus ((try simp only [List.nil_append]); (repeat (first | exact Imp.nil | (apply Imp.cons; (focus ((repeat (first | with_reducible exact Tk.here | apply Tk.there)); done))))); done))))
  intro hd
  refine GO ?_
  refine st_call (held_spec t w n false hR.ok.hv (by omega)) (by rfl) (by simp only [hdr]; (focus ((repeat (first | exact Spl.nil | (apply Spl.cons; (focus ((repeat (first | with_reducible exact Tk.here | apply Tk.there)); done))))); done))) (fun v Post hv => ?_)
  obtain ⟨⟨p, rfl, hp1, hp2⟩, rfl⟩ := hv
  rw [hR.held] at hp1 hp2
  simp only [hR.held, hdr, List.cons_append, List.nil_append]
  refine GO ?_
  have hda : a.dead = false := by rw [← hR.dead, hd]
  by_cases he : heldE a.hs n false = 0
  rotate_left
  · simp only [he, decide_false, Bool.not_false]
    refine GO ?_
    rw [show sizeM n a = (0, heldE a.hs n false) from by simp [sizeM, hda, he]]
    exact endQ_mk (Post := WMem t w) (.inr rfl) (.tmp (by rfl) (.tmp (by rfl) .nil)) ⟨rfl, rfl⟩ (by simp only [WMem]; (first | with_reducible exact Imp.refl | with_reducible exact Imp.left | (focus ((try simp only [List.nil_append]); (repeat (first | exact Imp.nil | (apply Imp.cons; (focus ((repeat (first | with_reducible exact Tk.here | apply Tk.there)); done))))); done))))
  obtain ⟨x, y, b, j, fo, hn1, hx, hy, hxc, hxs, hyc, hys, hmode, hat, hxf, hyf, hob, hfi, hfo, hrange⟩ := hR.opened he
  obtain rfl : p = ptr0 x.blk := hp1 x he hx
  have hgH : getH a n = y := by simp only [getH, hy, Option.getD_some]
  have hgF : getF a n = foF fo := by simp only [getF, hgH, hyf, Option.getD_some, hfi]
  have hfile : Atom.cell x.blk 2 (ptr0 b) ∈ w.hs.flatMap hoA := by
    have := hoA_cell (j := 2) (v := pf x.file) hx rfl
    rw [hxf] at this; exact this
  have hnow : Atom.cell b 0 fo.nv ∈ w.objs.flatMap foA := List.mem_flatMap.2 ⟨_, List.mem_of_getElem? hob, by simp [foA, cellsAt]⟩
  obtain ⟨na, nc, hnv⟩ := hfo.now.form
  rw [hnv] at hnow
  simp only [he, decide_true, Bool.not_true]
  refine GO ?_
  rw [show sizeM n a = ((fo.now.length : Int), 0) from by simp [sizeM, hda, he, hgF, foF]]
  exact endQ_mk (Post := WMem t w) (.inr rfl) (.tmp (by rfl) (.tmp (by rfl) .nil)) ⟨rfl, rfl⟩ (by simp only [WMem]; (first | with_reducible exact Imp.refl | with_reducible exact Imp.left | (focus ((try simp only [List.nil_append]); (repeat (first | exact Imp.nil | (apply Imp.cons; (focus ((repeat (first | with_reducible exact Tk.here | apply Tk.there)); done))))); done))))


def rdRest : IC := match F3.body with | .seq _ (.seq _ (.seq _ (.seq _ (.seq _ (.seq _ (.seq _ (.seq _ (.seq _ (.seq _ r))))))))) => r | _ => .skip
def rdHead (r : IC) : IC := match F3.body with | .seq a (.seq b (.seq c (.seq d (.seq e (.seq f (.seq g (.seq h (.seq i (.seq j _))))))))) => .seq a (.seq b (.seq c (.seq d (.seq e (.seq f (.seq g (.seq h (.seq i (.seq j r))))))))) | _ => .skip

theorem rdRest_spec (A : List Atom) (name : ByteArray) (hn : name.size ≤ 1048576) (hnm : nameB name = true) (t : Nat) (w : WR) (l b : List UInt8) (ws : List Wr) (at0 : Int) (tr : List De) (cl sq : Int) (M : Nat) (hM : M ≤ 1073741000) (hR : Rep w (oneA name l b ws at0 tr cl sq) M)
    (wv : Value) (sp : List Value) (hwv : IsSl 1 wv l.length (l.map u8v) sp) (hll : l.length < 200000) :
    VC Try.prog F3.n rdRest [(0, .string name), (7, .bool true), (9, ptr0 t), (12, wv)] (slA wv (l.map u8v) sp :: (WMem t w ++ [A])) (endQ F3.res (fun v Post => v = .bool true ∧ Post = [A])) := by
  obtain ⟨wa, wc, rfl⟩ := hwv.form
  simp only [WMem, List.cons_append, List.nil_append]
  refine GO ?_
  refine st_call (open_spec t w _ M (by omega) hR name (by omega) 1) (by rfl) (by simp only [WMem]; (focus ((repeat (first | exact Spl.nil | (apply Spl.cons; (focus ((repeat (first | with_reducible exact Tk.here | apply Tk.there)); done))))); done))) (fun v Post hv => ?_)
  obtain ⟨w1, hR1, rfl, rfl⟩ := hv
  obtain ⟨o1, o2, tr1, o3⟩ := one_open (l := l) (b := b) (ws := ws) (at0 := at0) (tr := tr) (cl := cl) (sq := sq) hnm
  rw [o1, o2]
  rw [o3] at hR1
  simp only [WMem, List.cons_append, List.nil_append]
  refine GO ?_
  refine st_call (size_spec t w1 _ _ (by omega) hR1 2) (by rfl) (by simp only [WMem]; (focus ((repeat (first | exact Spl.nil | (apply Spl.cons; (focus ((repeat (first | with_reducible exact Tk.here | apply Tk.there)); done))))); done))) (fun v Post hv => ?_)
  obtain ⟨rfl, rfl⟩ := hv
  rw [two_size]
  simp only [WMem, List.cons_append, List.nil_append]
  refine GO ?_
  have hq : IntKind.i64.wrap ((l.length : Int).tdiv 2) = ((l.length / 2 : Nat) : Int) := by
    have h2 : (l.length : Int).tdiv 2 = ((l.length / 2 : Nat) : Int) := rfl
    rw [h2]; exact wrap64 (by omega)
  rw [hq]
  refine st_call (read_spec t w1 _ _ (by omega) hR1 2 ((l.length / 2 : Nat) : Int)) (by rfl) (by simp only [WMem]; (focus ((repeat (first | exact Spl.nil | (apply Spl.cons; (focus ((repeat (first | with_reducible exact Tk.here | apply Tk.there)); done))))); done))) (fun v Post hv => ?_)
  obtain ⟨w2, hR2, rfl, rfl⟩ := hv
  obtain ⟨r1, r2, tr2, r3⟩ := two_read (n := name) (l := l) (b := b) (ws := ws) (at1 := at0) (at_ := 0) (many := l.length / 2) (tr := tr1) (cl := cl) (sq := sq) (Nat.zero_le _)
  rw [Int.natCast_zero] at r1 r2 r3
  rw [r1, r2]
  rw [r3] at hR2
  have e1 : (0 + min (l.length / 2) (l.length - 0) : Nat) = l.length / 2 := by omega
  rw [e1] at hR2
  rw [List.drop_zero]
  simp only [WMem, List.cons_append, List.nil_append]
  refine GO ?_
  rw [show (l.length : Int) + 1 = ((l.length + 1 : Nat) : Int) by omega]
  refine st_call (read_spec t w2 _ _ (by omega) hR2 2 ((l.length + 1 : Nat) : Int)) (by rfl) (by simp only [WMem]; (focus ((repeat (first | exact Spl.nil | (apply Spl.cons; (focus ((repeat (first | with_reducible exact Tk.here | apply Tk.there)); done))))); done))) (fun v Post hv => ?_)
  obtain ⟨w3, hR3, rfl, rfl⟩ := hv
  obtain ⟨s1, s2, tr3, s3⟩ := two_read (n := name) (l := l) (b := b) (ws := ws) (at1 := at0) (at_ := l.length / 2) (many := l.length + 1) (tr := tr2) (cl := cl) (sq := sq) (by omega)
  rw [s1, s2]
  rw [s3] at hR3
  have e2 : (l.length / 2 + min (l.length + 1) (l.length - l.length / 2) : Nat) = l.length := by omega
  rw [e2] at hR3
  rw [List.take_of_length_le (l := l.drop (l.length / 2)) (by simp; omega)]
  simp only [WMem, List.cons_append, List.nil_append]
  refine GO ?_
  refine st_call (read_spec t w3 _ _ (by omega) hR3 2 ((5 : Nat) : Int)) (by rfl) (by simp only [WMem]; (focus ((repeat (first | exact Spl.nil | (apply Spl.cons; (focus ((repeat (first | with_reducible exact Tk.here | apply Tk.there)); done))))); done))) (fun v Post hv => ?_)
  obtain ⟨w4, hR4, rfl, rfl⟩ := hv
  obtain ⟨q1, q2, tr4, q3⟩ := two_read (n := name) (l := l) (b := b) (ws := ws) (at1 := at0) (at_ := l.length) (many := 5) (tr := tr3) (cl := cl) (sq := sq) (Nat.le_refl _)
  rw [q1, q2]
  rw [List.drop_length, List.take_nil]
  simp only [WMem, List.cons_append, List.nil_append]
  have hcat : ftxt (l.take (l.length / 2)) ++ ftxt (l.drop (l.length / 2)) = ftxt l := by rw [ftxt_append, List.take_append_drop]
  refine GO ?_
  simp only [decide_true]
  refine GO ?_
  refine st_cat (by rfl) (by rfl) (by rw [ftxt_size, ftxt_size, List.length_take, List.length_drop]; omega) ?_
  refine GO ?_
  refine st_b2s (l := l) (by rfl) (hwv.bytes (by (focus ((repeat (first | with_reducible exact Tk.here | apply Tk.there)); done)))) ?_
  rw [hcat]
  refine GO ?_
  simp only [decide_true]
  refine GO ?_
  exact endQ_mk (Post := [A]) (.inr rfl) (.tmp (by rfl) .nil) ⟨rfl, rfl⟩ (by (first | with_reducible exact Imp.refl | with_reducible exact Imp.left | (focus ((try simp only [List.nil_append]); (repeat (first | exact Imp.nil | (apply Imp.cons; (focus ((repeat (first | with_reducible exact Tk.here | apply Tk.there)); done))))); done))))

theorem worldReads_spec (A : List Atom) (name : ByteArray) (pv qv : Value) (places : List Int) (pieces : List ByteArray) (hp : RdRow 1 A pv places.length (places.map vi)) (hq : RdRow 1 A qv pieces.length (pieces.map Value.string))
    (hn : name.size ≤ 1048576) (hpl : places.length ≤ 1048576) (hql : pieces.length ≤ 1048576) :
    Fun Try.prog 3 [.string name, pv, qv] [A] (fun v Post => v = .bool true ∧ Post = [A]) := by
  refine Fun.intro low3 (by simp [F3]) ?_
  obtain ⟨pa, pc, hpv⟩ := hp.form
  obtain ⟨qa, qc, hqv⟩ := hq.form
  have rest := fun (hnm : nameB name = true) => rdRest_spec A name hn hnm
  show VC _ _ (rdHead rdRest) _ _ _
  generalize rdRest = r at rest ⊢
  refine GO ?_
  refine st_call works_spec (by rfl) Spl.nil (fun v Post hv => ?_)
  obtain ⟨rfl, rfl⟩ := hv
  simp only [List.nil_append]
  refine GO ?_
  refine st_call (refName_spec name (by omega)) (by rfl) Spl.nil (fun v Post hv => ?_)
  obtain ⟨rfl, rfl⟩ := hv
  simp only [List.nil_append]
  refine GO ?_
  cases hnm : nameB name with
  | false =>
    refine GO ?_
    exact endQ_mk (Post := [A]) (.inr rfl) (.tmp (by rfl) .nil) ⟨rfl, rfl⟩ (by (first | with_reducible exact Imp.refl | with_reducible exact Imp.left | (focus ((try simp only [List.nil_append]); (repeat (first | exact Imp.nil | (apply Imp.cons; (focus ((repeat (first | with_reducible exact Tk.here | apply Tk.there)); done))))); done))))
  | true =>
  refine GO ?_
  have hnew := new_spec [] (.slice none 0 0) (.slice none 0 0) [] [] (.inl ⟨rfl, rfl, rfl⟩) (.inl ⟨rfl, rfl, rfl⟩) (by simp) (by simp) (by intro p hp; cases hp)
  rw [new_empty] at hnew
  refine st_call (Pre := [[]]) (R := [A]) hnew (by rfl) (by simp [V.Spl]) (fun v Post hv => ?_)
  obtain ⟨t, w0, rfl, hR0, rfl⟩ := hv
  simp only [WMem, List.cons_append, List.nil_append]
  refine GO ?_
  refine st_call (open_spec t w0 emptyA 0 (by omega) hR0 name (by omega) 2) (by rfl) (by simp only [WMem]; (focus ((repeat (first | exact Spl.nil | (apply Spl.cons; (focus ((repeat (first | with_reducible exact Tk.here | apply Tk.there)); done))))); done))) (fun v Post hv => ?_)
  obtain ⟨w1, hR1, rfl, rfl⟩ := hv
  obtain ⟨o1, o2, ws1, tr1, o3⟩ := empty_open hnm
  rw [o1, o2]
  rw [o3] at hR1
  simp only [WMem, List.cons_append, List.nil_append]
  refine GO ?_
  -- what is written so far, and what is wanted
  refine VC.loop (α := Nat × WR × List UInt8 × Value × List Value) (Γf := fun s => [(0, .string name), (1, pv), (2, qv), (7, .bool true), (9, ptr0 t), (12, s.2.2.2.1), (13, vi s.1)])
    (Hf := fun s => slA s.2.2.2.1 (s.2.2.1.map u8v) s.2.2.2.2 :: (WMem t s.2.1 ++ [A]))
    (I := fun s => s.1 ≤ pieces.length ∧ IsSl 1 s.2.2.2.1 s.2.2.1.length (s.2.2.1.map u8v) s.2.2.2.2 ∧ s.2.2.1.length < 200000 ∧ ∃ b ws at_ tr cl sq, Rep s.2.1 (oneA name s.2.2.1 b ws at_ tr cl sq) (1 + 2 * s.1)) (μ := fun s => pieces.length - s.1)
    (0, w1, [], .slice none 0 0, []) ⟨Nat.zero_le _, .nil, by show (0 : Nat) < 200000; decide, _, _, _, _, _, _, hR1⟩ (by (repeat (first | exact Sub.nil | (apply Sub.cons; rfl)))) (Imp.cut (by simp only [WMem, List.cons_append, List.nil_append]; (first | with_reducible exact Imp.refl | with_reducible exact Imp.left | (focus ((try simp only [List.nil_append]); (repeat (first | exact Imp.nil | (apply Imp.cons; (focus ((repeat (first | with_reducible exact Tk.here | apply Tk.there)); done))))); done)))) (Imp.perm (A := WMem t w1 ++ [A]) (by simp [slA]))) ?_
  rintro ⟨k, w, l, wv, sp⟩ ⟨hk, hwv, hll, b, ws, at0, tr, cl, sq, hR⟩
  simp only at hk hwv hll hR
  obtain ⟨wa, wc, rfl⟩ := hwv.form
  simp only [WMem, List.cons_append, List.nil_append]
  have fin : VC Try.prog F3.n r [(0, .string name), (7, .bool true), (9, ptr0 t), (12, .slice wa l.length wc)] (slA (.slice wa l.length wc) (l.map u8v) sp :: (WMem t w ++ [A])) (endQ F3.res (fun v Post => v = .bool true ∧ Post = [A])) :=
    rest hnm t w l b ws at0 tr cl sq (1 + 2 * k) (by omega) hR _ sp hwv hll
  simp only [WMem, List.cons_append, List.nil_append] at fin
  rw [hqv, hpv]
  refine GO ?_
  by_cases c1 : k < pieces.length
  rotate_left
  · simp only [show ¬ (k : Int) < (pieces.length : Nat) by omega, decide_false]
    refine GO ?_
    refine VC.imp ?_ (VC.sub ?_ fin)
    · (first | with_reducible exact Imp.refl | with_reducible exact Imp.left | (focus ((try simp only [List.nil_append]); (repeat (first | exact Imp.nil | (apply Imp.cons; (focus ((repeat (first | with_reducible exact Tk.here | apply Tk.there)); done))))); done)))
    · (repeat (first | exact Sub.nil | (apply Sub.cons; rfl)))
  simp only [show (k : Int) < (pieces.length : Nat) by omega, decide_true]
  refine GO ?_
  by_cases c2 : k < places.length
  rotate_left
  · simp only [show ¬ (k : Int) < (places.length : Nat) by omega, decide_false]
    refine GO ?_
    refine VC.imp ?_ (VC.sub ?_ fin)
    · (first | with_reducible exact Imp.refl | with_reducible exact Imp.left | (focus ((try simp only [List.nil_append]); (repeat (first | exact Imp.nil | (apply Imp.cons; (focus ((repeat (first | with_reducible exact Tk.here | apply Tk.there)); done))))); done)))
    · (repeat (first | exact Sub.nil | (apply Sub.cons; rfl)))
  simp only [show (k : Int) < (places.length : Nat) by omega, decide_true]
  refine st_gt (by rfl) ?_
  refine st_mv (by rfl) ?_
  refine st_gt (by rfl) ?_
  refine st_pure (v := vi l.length) rfl (by rfl) (by rfl) ?_
  refine st_gt (by rfl) ?_
  refine st_pure (v := .bool (decide ((l.length : Int) < 100000))) rfl (by rfl) (by rfl) ?_
  generalize hc3 : decide ((l.length : Int) < 100000) = cb
  cases cb with
  | false =>
    refine GO ?_
    refine VC.imp ?_ (VC.sub ?_ fin)
    · (first | with_reducible exact Imp.refl | with_reducible exact Imp.left | (focus ((try simp only [List.nil_append]); (repeat (first | exact Imp.nil | (apply Imp.cons; (focus ((repeat (first | with_reducible exact Tk.here | apply Tk.there)); done))))); done)))
    · (repeat (first | exact Sub.nil | (apply Sub.cons; rfl)))
  | true =>
  have c3 : (l.length : Int) < 100000 := of_decide_eq_true hc3
  clear hc3
  obtain ⟨x, hx⟩ : ∃ x, pieces[k]? = some x := ⟨pieces[k], by simp [c1]⟩
  obtain ⟨p, hpx⟩ : ∃ p, places[k]? = some p := ⟨places[k], by simp [c2]⟩
  obtain ⟨qb, qo, qc', hq1, hqc⟩ := hq.cell hx
  rw [hqv] at hq1
  simp only [Value.slice.injEq, true_and] at hq1
  obtain ⟨rfl, rfl⟩ := hq1
  obtain ⟨pb, po, pc', hp1, hpc⟩ := hp.cell hpx
  rw [hpv] at hp1
  simp only [Value.slice.injEq, true_and] at hp1
  obtain ⟨rfl, rfl⟩ := hp1
  have hpc0 : True ∧ Atom.cell pb (po + k) (vi p) ∈ A := ⟨trivial, hpc⟩
  clear hpc
  refine st_pick_t (by rfl) (by rfl) ?_
  refine st_mv (by rfl) ?_
  refine st_gt (by rfl) ?_
  refine st_mv (by rfl) ?_
  refine st_gt (by rfl) ?_
  refine st_mv (by rfl) ?_
  refine st_gt (by rfl) ?_
  refine st_idxL (o' := qo + k) (by rfl) (by rfl) (by omega) (by simp) ?_
  refine st_gt (by rfl) ?_
  refine st_load1 (v := .string x) (by rfl) (by (focus ((repeat (first | (apply Has.among; assumption) | apply Has.there)); done))) ?_
  refine st_gt (by rfl) ?_
  refine st_pure (v := vi x.size) rfl (by rfl) (by rfl) ?_
  refine st_gt (by rfl) ?_
  refine st_pure (v := .bool (decide ((x.size : Int) < 100000))) rfl (by rfl) (by rfl) ?_
  generalize hc4 : decide ((x.size : Int) < 100000) = cb
  cases cb with
  | false =>
    refine GO ?_
    refine VC.imp ?_ (VC.sub ?_ fin)
    · (first | with_reducible exact Imp.refl | with_reducible exact Imp.left | (focus ((try simp only [List.nil_append]); (repeat (first | exact Imp.nil | (apply Imp.cons; (focus ((repeat (first | with_reducible exact Tk.here | apply Tk.there)); done))))); done)))
    · (repeat (first | exact Sub.nil | (apply Sub.cons; rfl)))
  | true =>
  have c4 : (x.size : Int) < 100000 := of_decide_eq_true hc4
  clear hc4
  refine GO ?_
  obtain ⟨_, hpc⟩ := hpc0
  refine st_load1 (v := vi p) (by rfl) (by (focus ((repeat (first | (apply Has.among; assumption) | apply Has.there)); done))) ?_
  refine st_mv (by rfl) (VO.nil ?_)
  simp only [V.argsEnv, V.restr, V.look, V.putE, V.thenQ, V.blockQ, Nat.zero_add, Nat.reduceAdd, Nat.reduceEqDiff, ↓reduceIte, eq_self]
  refine VC.seq (VC.meet (α := Nat) (fun at_ => [(0, .string name), (1, .slice (some ⟨pb, po, none⟩) places.length pc), (2, .slice (some ⟨qb, qo, none⟩) pieces.length qc), (7, .bool true), (9, ptr0 t), (12, .slice wa l.length wc), (13, vi k), (14, vi at_)])
    (fun _ => slA (.slice wa l.length wc) (l.map u8v) sp :: (WMem t w ++ [A])) (fun at_ => at_ ≤ l.length) ?_ ?_)
  · refine GO ?_
    by_cases d1 : p < 0
    · simp only [d1, decide_true]
      refine GO ?_
      exact ⟨l.length, Nat.le_refl _, by (repeat (first | exact Sub.nil | (apply Sub.cons; rfl))), by simp only [WMem, List.cons_append, List.nil_append]; (first | with_reducible exact Imp.refl | with_reducible exact Imp.left | (focus ((try simp only [List.nil_append]); (repeat (first | exact Imp.nil | (apply Imp.cons; (focus ((repeat (first | with_reducible exact Tk.here | apply Tk.there)); done))))); done)))⟩
    simp only [d1, decide_false]
    refine GO ?_
    by_cases d2 : p > l.length
    · simp only [d2, decide_true]
      refine GO ?_
      exact ⟨l.length, Nat.le_refl _, by (repeat (first | exact Sub.nil | (apply Sub.cons; rfl))), by simp only [WMem, List.cons_append, List.nil_append]; (first | with_reducible exact Imp.refl | with_reducible exact Imp.left | (focus ((try simp only [List.nil_append]); (repeat (first | exact Imp.nil | (apply Imp.cons; (focus ((repeat (first | with_reducible exact Tk.here | apply Tk.there)); done))))); done)))⟩
    simp only [d2, decide_false]
    refine GO ?_
    obtain ⟨at_, rfl⟩ : ∃ at_ : Nat, p = at_ := ⟨p.toNat, by omega⟩
    exact ⟨at_, by omega, by (repeat (first | exact Sub.nil | (apply Sub.cons; rfl))), by simp only [WMem, List.cons_append, List.nil_append]; (first | with_reducible exact Imp.refl | with_reducible exact Imp.left | (focus ((try simp only [List.nil_append]); (repeat (first | exact Imp.nil | (apply Imp.cons; (focus ((repeat (first | with_reducible exact Tk.here | apply Tk.there)); done))))); done)))⟩
  intro at_ hat
  simp only [WMem, List.cons_append, List.nil_append]
  refine GO ?_
  refine st_call (seek_spec t w _ (1 + 2 * k) (by omega) hR 1 at_) (by rfl) (by simp only [WMem]; (focus ((repeat (first | exact Spl.nil | (apply Spl.cons; (focus ((repeat (first | with_reducible exact Tk.here | apply Tk.there)); done))))); done))) (fun v Post hv => ?_)
  obtain ⟨w1, hR1, rfl, rfl⟩ := hv
  obtain ⟨s1, s2⟩ := one_seek (n := name) (l := l) (b := b) (ws := ws) (at0 := at0) (at_ := at_) (tr := tr) (cl := cl) (sq := sq) (by omega)
  rw [s1]
  rw [s2] at hR1
  simp only [WMem, List.cons_append, List.nil_append]
  refine GO ?_
  refine st_call (write_spec t w1 _ _ (by omega) hR1 1 x (by omega)) (by rfl) (by simp only [WMem]; (focus ((repeat (first | exact Spl.nil | (apply Spl.cons; (focus ((repeat (first | with_reducible exact Tk.here | apply Tk.there)); done))))); done))) (fun v Post hv => ?_)
  obtain ⟨w2, hR2, rfl, rfl⟩ := hv
  obtain ⟨u1, ws2, tr2, u2⟩ := one_write (n := name) (l := l) (b := b) (ws := ws) (at_ := at_) (tr := tr ++ [deSeek 1 at_]) (cl := cl) (sq := sq) (s := x) hat (by omega)
  rw [u1]
  rw [u2] at hR2
  simp only [WMem, List.cons_append, List.nil_append]
  refine GO ?_
  refine VC.loop (α := Nat × Value × List Value) (Γf := fun s => [(0, .string name), (1, .slice (some ⟨pb, po, none⟩) places.length pc), (2, .slice (some ⟨qb, qo, none⟩) pieces.length qc), (7, .bool true), (9, ptr0 t), (12, s.2.1), (13, vi k), (14, vi at_), (16, vi s.1)])
    (Hf := fun s => slA s.2.1 ((wantL l at_ x.data.toList s.1).map u8v) s.2.2 :: (WMem t w2 ++ [A]))
    (I := fun s => s.1 ≤ x.size ∧ IsSl 1 s.2.1 (wantL l at_ x.data.toList s.1).length ((wantL l at_ x.data.toList s.1).map u8v) s.2.2) (μ := fun s => x.size - s.1) (0, .slice wa l.length wc, sp) ⟨Nat.zero_le _, by simpa [wantL_zero] using hwv⟩ (by (repeat (first | exact Sub.nil | (apply Sub.cons; rfl)))) (by simp only [WMem, wantL_zero, List.cons_append, List.nil_append]; (first | with_reducible exact Imp.refl | with_reducible exact Imp.left | (focus ((try simp only [List.nil_append]); (repeat (first | exact Imp.nil | (apply Imp.cons; (focus ((repeat (first | with_reducible exact Tk.here | apply Tk.there)); done))))); done)))) ?_
  rintro ⟨j, jv, jsp⟩ ⟨hj, hjv⟩
  simp only at hj hjv
  have hxs : x.data.toList.length = x.size := by simp
  have hwl := wantL_len (s := x.data.toList) hat (show j ≤ x.data.toList.length by omega)
  obtain ⟨ja, jc, rfl⟩ := hjv.form
  simp only [WMem, List.cons_append, List.nil_append]
  refine GO ?_
  (first | (apply VC.seq_cond; rfl) | (apply VC.cond; rfl))
  rotate_left
  · intro hge
    have hge : ¬ j < x.size := by simpa using hge
    obtain rfl : j = x.size := by omega
    have hfull : wantL l at_ x.data.toList x.size = l.take at_ ++ x.data.toList ++ l.drop (at_ + x.size) := by
      simp only [wantL]; rw [List.take_of_length_le (l := x.data.toList) (by omega)]
    refine GO ?_
    refine ⟨(k + 1, w2, wantL l at_ x.data.toList x.size, _, jsp), ⟨by show k + 1 ≤ pieces.length; omega, hjv, by show (wantL l at_ x.data.toList x.size).length < 200000; omega, b, ws2, (at_ : Int) + x.size, tr2, cl, sq + 1, ?_⟩, by simp only; omega, by (repeat (first | exact Sub.nil | (apply Sub.cons; rfl))), by simp only [WMem, List.cons_append, List.nil_append]; (first | with_reducible exact Imp.refl | with_reducible exact Imp.left | (focus ((try simp only [List.nil_append]); (repeat (first | exact Imp.nil | (apply Imp.cons; (focus ((repeat (first | with_reducible exact Tk.here | apply Tk.there)); done))))); done)))⟩
    show Rep w2 (oneA name (wantL l at_ x.data.toList x.size) b ws2 _ tr2 cl (sq + 1)) (1 + 2 * (k + 1))
    rw [hfull]
    exact hR2
  intro hlt
  have hlt : j < x.size := by simpa using hlt
  have hc : x[j]? = some x[j] := by simp [hlt]
  have hc2 : x.data.toList[j]? = some x[j] := by rw [List.getElem?_eq_getElem (by omega)]; rfl
  generalize x[j] = ch at hc hc2
  refine GO ?_
  by_cases d3 : at_ + j < l.length
  · have hlen : (wantL l at_ x.data.toList j).length = l.length := by omega
    simp only [show ((at_ : Int) + j < ((wantL l at_ x.data.toList j).length : Nat)) by omega, decide_true]
    refine GO ?_
    refine st_idxS (by rfl) (by rfl) (j := j) rfl hc ?_
    obtain ⟨wb, wo, wc2, hwe, _, _⟩ := hjv.some (by omega)
    simp only [Value.slice.injEq, true_and] at hwe
    obtain ⟨rfl, rfl⟩ := hwe
    refine GO ?_
    rw [show ((at_ : Int) + (j : Nat)).toNat = at_ + j by omega]
    have hinn := wantL_in (l := l) (s := x.data.toList) (at_ := at_) (j := j) (c := ch) d3 hc2
    refine st_setSl (m := at_ + j) (v := u8v ch) (by rfl) (by rfl) (by rfl) rfl (by (focus ((repeat (first | with_reducible exact Tk.here | apply Tk.there)); done))) (by simp; omega) ?_
    have hmapi : ((wantL l at_ x.data.toList j).map u8v).set (at_ + j) (u8v ch) = (wantL l at_ x.data.toList (j + 1)).map u8v := by rw [hinn, List.map_set]
    have hlni : (wantL l at_ x.data.toList (j + 1)).length = (wantL l at_ x.data.toList j).length := by rw [hinn, List.length_set]
    rw [hmapi]
    have hjv2 : IsSl 1 (.slice (some ⟨wb, wo, none⟩) (wantL l at_ x.data.toList j).length jc) (wantL l at_ x.data.toList (j + 1)).length ((wantL l at_ x.data.toList (j + 1)).map u8v) jsp := by
      rw [hlni]; exact hjv.other (by simp [hlni])
    refine GO ?_
    exact ⟨(j + 1, _, jsp), ⟨by show j + 1 ≤ x.size; omega, hjv2⟩, by simp only; omega, by (repeat (first | exact Sub.nil | (apply Sub.cons; rfl))), by simp only [WMem, List.cons_append, List.nil_append]; (first | with_reducible exact Imp.refl | with_reducible exact Imp.left | (focus ((try simp only [List.nil_append]); (repeat (first | exact Imp.nil | (apply Imp.cons; (focus ((repeat (first | with_reducible exact Tk.here | apply Tk.there)); done))))); done)))⟩
  · simp only [show ¬ ((at_ : Int) + j < ((wantL l at_ x.data.toList j).length : Nat)) by omega, decide_false]
    refine GO ?_
    refine st_idxS (by rfl) (by rfl) (j := j) rfl hc ?_
    refine GO ?_
    refine st_bslice (out := [u8v ch]) (by rfl) (by rfl) (fun q3 => ?_)
    refine st_append (k := (wantL l at_ x.data.toList j).length) (m := 1) (xs := (wantL l at_ x.data.toList j).map u8v) (sp := jsp) (ys := [u8v ch]) (by rfl) (by rfl) hjv (by (focus ((repeat (first | with_reducible exact Tk.here | apply Tk.there)); done))) (by rfl) ?_ rfl (by rfl) (by rfl) (by decide) (by omega) (fun sv' sp' hsl' => ?_)
    · exact ⟨rfl, fun a ha => by simp only [List.flatten_cons, List.mem_append]; exact .inl ha⟩
    have hout := wantL_out (l := l) (s := x.data.toList) (at_ := at_) (j := j) (c := ch) (by omega) hc2
    have hmapo : (wantL l at_ x.data.toList (j + 1)).map u8v = (wantL l at_ x.data.toList j).map u8v ++ [u8v ch] := by rw [hout]; simp
    rw [← hmapo] at hsl' ⊢
    have hln : (wantL l at_ x.data.toList j).length + 1 = (wantL l at_ x.data.toList (j + 1)).length := by rw [hout]; simp
    rw [hln] at hsl'
    obtain ⟨a', c', hf'⟩ := hsl'.form
    subst hf'
    refine GO ?_
    exact ⟨(j + 1, _, sp'), ⟨by show j + 1 ≤ x.size; omega, hsl'⟩, by simp only; omega, by (repeat (first | exact Sub.nil | (apply Sub.cons; rfl))), by simp only [WMem, List.cons_append, List.nil_append]; (first | with_reducible exact Imp.refl | with_reducible exact Imp.left | (focus ((try simp only [List.nil_append]); (repeat (first | exact Imp.nil | (apply Imp.cons; (focus ((repeat (first | with_reducible exact Tk.here | apply Tk.there)); done))))); done)))⟩
end Go.Proofs.Ytklkngccaemjdaa

/-
  Checks of a method.
-/
import Derived.Test.YtmnmandpdadedaaGreatDoorT12
import Derived.Test.YtmnmandpdadedaaGreatDoorV12
import Derived.Test.YtmnmandpdadedaaGreatDoorT1
set_option linter.unusedSimpArgs false
set_option linter.unusedVariables false
namespace Go.Proofs.YtmnmandpdadedaaGreatDoor
open Go Go.V
set_option maxHeartbeats 3200000
set_option maxRecDepth 100000
structure Md where
  sel : ByteArray
  args : List ByteArray
  temps : List ByteArray
  prim : Int
  body : List Nd
structure MdRd (A : List Atom) (x : Md) (vs : List Value) : Prop where
  form : ∃ aa ac ta tc a c bk o us, vs = [.string x.sel, .slice aa x.args.length ac, .slice ta x.temps.length tc, vi x.prim, .slice a x.body.length c] ∧ RdT A (.slice aa x.args.length ac) x.args ∧ RdT A (.slice ta x.temps.length tc) x.temps ∧ KidsOk A x.body a bk o us
  sel : x.sel.size ≤ 140737488355328
  prim : -9223372036854775808 ≤ x.prim ∧ x.prim ≤ 9223372036854775807
def methodR (x : Md) : Rs := mustR (decide (arityS x.sel = x.args.length ∧ 0 ≤ x.prim ∧ x.prim ≤ 255)) (namesR 15 x.args (namesR 63 x.temps (maxR (stmtsR x.body (x.body.map nodeD)))))
def checkM (x : Md) : Nat := endE (fun d => decide (40 < d)) (methodR x)
theorem check1_spec (A : List Atom) (x : Md) (vs : List Value) (h : MdRd A x vs) (q lb : Nat) :
    FunP Tryz.prog 46 [ptr0 lb, ptr0 q] [lkA lb false false, A, cellsAt q 0 vs] (fun v Post => ∃ m d Post', Post = lkA lb m d :: Post' ∧ (∃ dd, methodR x = some (dd, m) ∧ d = decide (40 < dd)) ∧ Post' = [A])
      (fun ch Post => ch = wrongCh ∧ ∃ m d Post', Post = lkA lb m d :: Post' ∧ methodR x = none ∧ Post' = [A]) := by
  obtain ⟨⟨aa, ac, ta, tc, a, c, bk, o, us, rfl, hav, htv, hkids⟩, hsel, hprim⟩ := h
  obtain ⟨sel, args, temps, prim, body⟩ := x
  simp only at hav htv hkids hsel hprim ⊢
  obtain ⟨RR, hRR⟩ : ∃ RR, RR = methodR ⟨sel, args, temps, prim, body⟩ := ⟨_, rfl⟩
  rw [← hRR]
  simp only [methodR] at hRR
  refine FunP.intro low46 (by simp [n46]) ?_
  refine GOHS ?_
  by_cases h1 : arityS sel = (args.length : Int)
  rotate_left
  · have hnone : RR = none := by simp [hRR, mustR, h1]
    have hb1 : decide (arityS sel = (args.length : Int)) = false := decide_eq_false h1
    refine VC.seq (VC.drawZ (fun ch H' => ch = wrongCh ∧ Imp H' [lkA lb false false, A, cellsAt q 0 [.string sel, .slice aa args.length ac, .slice ta temps.length tc, vi prim, .slice a body.length c]]) (fun H' => H' = [lkA lb false false, A, cellsAt q 0 [.string sel, .slice aa args.length ac, .slice ta temps.length tc, vi prim, .slice a body.length c]]) rfl ?_ (fun ch H' hp => ?_))
    · skip
      intro rs hrs
      rcases List.mem_cons.1 hrs with rfl | hrs
      · skip
        refine ⟨rfl, .pointer (some ⟨q, 0, none⟩), True, fun Γ H hΓ hH => ?_, ?_⟩
        · subst hH
          exact st_fld (hΓ 1 (by decide) _ rfl) rfl (VO.nil ⟨rfl, rfl, trivial⟩)
        refine ⟨rfl, .string sel, True, fun Γ H hΓ hH => ?_, ?_⟩
        · subst hH
          exact st_load1 (hΓ 3 (by decide) _ rfl) (by (focus ((repeat (first | (apply Has.cells; omega; rfl) | apply Has.there)); done))) (VO.nil ⟨rfl, rfl, trivial⟩)
        refine ⟨rfl, vi (arityS sel), True, fun Γ H hΓ hH => ?_, ?_⟩
        · subst hH
          exact st_callP (arity_spec sel hsel) (by simp only [V.evs, V.ev, hΓ 4 (by decide) _ rfl]) (VO.nil ⟨rfl, rfl, trivial⟩)
        refine ⟨rfl, .pointer (some ⟨q, 1, none⟩), True, fun Γ H hΓ hH => ?_, ?_⟩
        · subst hH
          exact st_fld (hΓ 1 (by decide) _ rfl) rfl (VO.nil ⟨rfl, rfl, trivial⟩)
        refine ⟨rfl, .slice aa args.length ac, True, fun Γ H hΓ hH => ?_, ?_⟩
        · subst hH
          exact st_load1 (hΓ 6 (by decide) _ rfl) (by (focus ((repeat (first | (apply Has.cells; omega; rfl) | apply Has.there)); done))) (VO.nil ⟨rfl, rfl, trivial⟩)
        refine ⟨rfl, vi args.length, True, fun Γ H hΓ hH => ?_, ?_⟩
        · subst hH
          exact st_lenI (hΓ 7 (by decide) _ rfl) (VO.nil ⟨rfl, rfl, trivial⟩)
        refine ⟨rfl, .bool false, True, fun Γ H hΓ hH => ?_, ?_⟩
        · subst hH
          exact st_eqI (hΓ 5 (by decide) _ rfl) (hΓ 8 (by decide) _ rfl) (by simp only [hb1]) (VO.nil ⟨rfl, rfl, trivial⟩)
        refine ⟨rfl, .bool false, True, fun Γ H hΓ hH => ?_, ?_⟩
        · subst hH
          exact st_mv (hΓ 9 (by decide) _ rfl) (VO.nil ⟨rfl, rfl, trivial⟩)
        refine ⟨rfl, undef, True, fun Γ H hΓ hH => ?_, ?_⟩
        · subst hH
          exact st_gf (hΓ 10 (by decide) _ rfl) rfl (VO.nil ⟨rfl, rfl, trivial⟩)
        refine ⟨rfl, undef, True, fun Γ H hΓ hH => ?_, ?_⟩
        · subst hH
          exact st_gf (hΓ 10 (by decide) _ rfl) rfl (VO.nil ⟨rfl, rfl, trivial⟩)
        refine ⟨rfl, undef, True, fun Γ H hΓ hH => ?_, ?_⟩
        · subst hH
          exact st_gf (hΓ 10 (by decide) _ rfl) rfl (VO.nil ⟨rfl, rfl, trivial⟩)
        refine ⟨rfl, .bool false, True, fun Γ H hΓ hH => ?_, ?_⟩
        · subst hH
          exact st_pick_f (hΓ 10 (by decide) _ rfl) rfl (VO.nil ⟨rfl, rfl, trivial⟩)
        refine ⟨rfl, .bool false, True, fun Γ H hΓ hH => ?_, ?_⟩
        · subst hH
          exact st_mv (hΓ 14 (by decide) _ rfl) (VO.nil ⟨rfl, rfl, trivial⟩)
        refine ⟨rfl, undef, True, fun Γ H hΓ hH => ?_, ?_⟩
        · subst hH
          exact st_gf (hΓ 15 (by decide) _ rfl) rfl (VO.nil ⟨rfl, rfl, trivial⟩)
        refine ⟨rfl, undef, True, fun Γ H hΓ hH => ?_, ?_⟩
        · subst hH
          exact st_gf (hΓ 15 (by decide) _ rfl) rfl (VO.nil ⟨rfl, rfl, trivial⟩)
        refine ⟨rfl, undef, True, fun Γ H hΓ hH => ?_, ?_⟩
        · subst hH
          exact st_gf (hΓ 15 (by decide) _ rfl) rfl (VO.nil ⟨rfl, rfl, trivial⟩)
        refine ⟨rfl, .bool false, True, fun Γ H hΓ hH => ?_, ?_⟩
        · subst hH
          exact st_pick_f (hΓ 15 (by decide) _ rfl) rfl (VO.nil ⟨rfl, rfl, trivial⟩)
        refine ⟨rfl, .tuple #[], False, fun Γ H hΓ hH => ?_, ?_⟩
        · subst hH
          refine st_callZ (must_spec false) (by simp only [V.evs, V.ev, hΓ 19 (by decide) _ rfl]) Spl.nil (fun v Post hv => absurd hv.1 (by decide)) (fun ch Post hz => ?_)
          obtain ⟨_, rfl, rfl⟩ := hz
          exact ⟨rfl, by simp only [List.nil_append]; exact Imp.refl _⟩
        exact fun hh => by simp at hh
      rcases List.mem_cons.1 hrs with rfl | hrs
      · skip
        refine ⟨rfl, .pointer (some ⟨q, 0, none⟩), True, fun Γ H hΓ hH => ?_, ?_⟩
        · subst hH
          exact st_fld (hΓ 1 (by decide) _ rfl) rfl (VO.nil ⟨rfl, rfl, trivial⟩)
        refine ⟨rfl, .string sel, True, fun Γ H hΓ hH => ?_, ?_⟩
        · subst hH
          exact st_load1 (hΓ 3 (by decide) _ rfl) (by (focus ((repeat (first | (apply Has.cells; omega; rfl) | apply Has.there)); done))) (VO.nil ⟨rfl, rfl, trivial⟩)
        refine ⟨rfl, .pointer (some ⟨q, 1, none⟩), True, fun Γ H hΓ hH => ?_, ?_⟩
        · subst hH
          exact st_fld (hΓ 1 (by decide) _ rfl) rfl (VO.nil ⟨rfl, rfl, trivial⟩)
        refine ⟨rfl, .slice aa args.length ac, True, fun Γ H hΓ hH => ?_, ?_⟩
        · subst hH
          exact st_load1 (hΓ 6 (by decide) _ rfl) (by (focus ((repeat (first | (apply Has.cells; omega; rfl) | apply Has.there)); done))) (VO.nil ⟨rfl, rfl, trivial⟩)
        refine ⟨rfl, vi (arityS sel), True, fun Γ H hΓ hH => ?_, ?_⟩
        · subst hH
          exact st_callP (arity_spec sel hsel) (by simp only [V.evs, V.ev, hΓ 4 (by decide) _ rfl]) (VO.nil ⟨rfl, rfl, trivial⟩)
        refine ⟨rfl, vi args.length, True, fun Γ H hΓ hH => ?_, ?_⟩
        · subst hH
          exact st_lenI (hΓ 7 (by decide) _ rfl) (VO.nil ⟨rfl, rfl, trivial⟩)
        refine ⟨rfl, .bool false, True, fun Γ H hΓ hH => ?_, ?_⟩
        · subst hH
          exact st_eqI (hΓ 5 (by decide) _ rfl) (hΓ 8 (by decide) _ rfl) (by simp only [hb1]) (VO.nil ⟨rfl, rfl, trivial⟩)
        refine ⟨rfl, .bool false, True, fun Γ H hΓ hH => ?_, ?_⟩
        · subst hH
          exact st_mv (hΓ 9 (by decide) _ rfl) (VO.nil ⟨rfl, rfl, trivial⟩)
        refine ⟨rfl, undef, True, fun Γ H hΓ hH => ?_, ?_⟩
        · subst hH
          exact st_gf (hΓ 10 (by decide) _ rfl) rfl (VO.nil ⟨rfl, rfl, trivial⟩)
        refine ⟨rfl, undef, True, fun Γ H hΓ hH => ?_, ?_⟩
        · subst hH
          exact st_gf (hΓ 10 (by decide) _ rfl) rfl (VO.nil ⟨rfl, rfl, trivial⟩)
        refine ⟨rfl, undef, True, fun Γ H hΓ hH => ?_, ?_⟩
        · subst hH
          exact st_gf (hΓ 10 (by decide) _ rfl) rfl (VO.nil ⟨rfl, rfl, trivial⟩)
        refine ⟨rfl, .bool false, True, fun Γ H hΓ hH => ?_, ?_⟩
        · subst hH
          exact st_pick_f (hΓ 10 (by decide) _ rfl) rfl (VO.nil ⟨rfl, rfl, trivial⟩)
        refine ⟨rfl, .bool false, True, fun Γ H hΓ hH => ?_, ?_⟩
        · subst hH
          exact st_mv (hΓ 14 (by decide) _ rfl) (VO.nil ⟨rfl, rfl, trivial⟩)
        refine ⟨rfl, undef, True, fun Γ H hΓ hH => ?_, ?_⟩
        · subst hH
          exact st_gf (hΓ 15 (by decide) _ rfl) rfl (VO.nil ⟨rfl, rfl, trivial⟩)
        refine ⟨rfl, undef, True, fun Γ H hΓ hH => ?_, ?_⟩
        · subst hH
          exact st_gf (hΓ 15 (by decide) _ rfl) rfl (VO.nil ⟨rfl, rfl, trivial⟩)
        refine ⟨rfl, undef, True, fun Γ H hΓ hH => ?_, ?_⟩
        · subst hH
          exact st_gf (hΓ 15 (by decide) _ rfl) rfl (VO.nil ⟨rfl, rfl, trivial⟩)
        refine ⟨rfl, .bool false, True, fun Γ H hΓ hH => ?_, ?_⟩
        · subst hH
          exact st_pick_f (hΓ 15 (by decide) _ rfl) rfl (VO.nil ⟨rfl, rfl, trivial⟩)
        refine ⟨rfl, .tuple #[], False, fun Γ H hΓ hH => ?_, ?_⟩
        · subst hH
          refine st_callZ (must_spec false) (by simp only [V.evs, V.ev, hΓ 19 (by decide) _ rfl]) Spl.nil (fun v Post hv => absurd hv.1 (by decide)) (fun ch Post hz => ?_)
          obtain ⟨_, rfl, rfl⟩ := hz
          exact ⟨rfl, by simp only [List.nil_append]; exact Imp.refl _⟩
        exact fun hh => by simp at hh
      · cases hrs
    · obtain ⟨rfl, hi⟩ := hp
      exact ⟨[lkA lb false false, A], Imp.cut hi (by exact IMx), rfl, false, false, [A], rfl, hnone, rfl⟩
  have hb1 : decide (arityS sel = (args.length : Int)) = true := decide_eq_true h1
  by_cases h2 : 0 ≤ prim
  rotate_left
  · have hnone : RR = none := by simp [hRR, mustR, h2]
    have hb2 : decide (0 ≤ prim) = false := decide_eq_false h2
    refine VC.seq (VC.drawZ (fun ch H' => ch = wrongCh ∧ Imp H' [lkA lb false false, A, cellsAt q 0 [.string sel, .slice aa args.length ac, .slice ta temps.length tc, vi prim, .slice a body.length c]]) (fun H' => H' = [lkA lb false false, A, cellsAt q 0 [.string sel, .slice aa args.length ac, .slice ta temps.length tc, vi prim, .slice a body.length c]]) rfl ?_ (fun ch H' hp => ?_))
    · skip
      intro rs hrs
      rcases List.mem_cons.1 hrs with rfl | hrs
      · skip
        refine ⟨rfl, .pointer (some ⟨q, 0, none⟩), True, fun Γ H hΓ hH => ?_, ?_⟩
        · subst hH
          exact st_fld (hΓ 1 (by decide) _ rfl) rfl (VO.nil ⟨rfl, rfl, trivial⟩)
        refine ⟨rfl, .string sel, True, fun Γ H hΓ hH => ?_, ?_⟩
        · subst hH
          exact st_load1 (hΓ 3 (by decide) _ rfl) (by (focus ((repeat (first | (apply Has.cells; omega; rfl) | apply Has.there)); done))) (VO.nil ⟨rfl, rfl, trivial⟩)
        refine ⟨rfl, vi (arityS sel), True, fun Γ H hΓ hH => ?_, ?_⟩
        · subst hH
          exact st_callP (arity_spec sel hsel) (by simp only [V.evs, V.ev, hΓ 4 (by decide) _ rfl]) (VO.nil ⟨rfl, rfl, trivial⟩)
        refine ⟨rfl, .pointer (some ⟨q, 1, none⟩), True, fun Γ H hΓ hH => ?_, ?_⟩
        · subst hH
          exact st_fld (hΓ 1 (by decide) _ rfl) rfl (VO.nil ⟨rfl, rfl, trivial⟩)
        refine ⟨rfl, .slice aa args.length ac, True, fun Γ H hΓ hH => ?_, ?_⟩
        · subst hH
          exact st_load1 (hΓ 6 (by decide) _ rfl) (by (focus ((repeat (first | (apply Has.cells; omega; rfl) | apply Has.there)); done))) (VO.nil ⟨rfl, rfl, trivial⟩)
        refine ⟨rfl, vi args.length, True, fun Γ H hΓ hH => ?_, ?_⟩
        · subst hH
          exact st_lenI (hΓ 7 (by decide) _ rfl) (VO.nil ⟨rfl, rfl, trivial⟩)
        refine ⟨rfl, .bool true, True, fun Γ H hΓ hH => ?_, ?_⟩
        · subst hH
          exact st_eqI (hΓ 5 (by decide) _ rfl) (hΓ 8 (by decide) _ rfl) (by simp only [hb1]) (VO.nil ⟨rfl, rfl, trivial⟩)
        refine ⟨rfl, .bool true, True, fun Γ H hΓ hH => ?_, ?_⟩
        · subst hH
          exact st_mv (hΓ 9 (by decide) _ rfl) (VO.nil ⟨rfl, rfl, trivial⟩)
        refine ⟨rfl, .pointer (some ⟨q, 3, none⟩), True, fun Γ H hΓ hH => ?_, ?_⟩
        · subst hH
          exact st_gt (hΓ 10 (by decide) _ rfl) (st_fld (hΓ 1 (by decide) _ rfl) rfl (VO.nil ⟨rfl, rfl, trivial⟩))
        refine ⟨rfl, vi prim, True, fun Γ H hΓ hH => ?_, ?_⟩
        · subst hH
          exact st_gt (hΓ 10 (by decide) _ rfl) (st_load1 (hΓ 11 (by decide) _ rfl) (by (focus ((repeat (first | (apply Has.cells; omega; rfl) | apply Has.there)); done))) (VO.nil ⟨rfl, rfl, trivial⟩))
        refine ⟨rfl, .bool false, True, fun Γ H hΓ hH => ?_, ?_⟩
        · subst hH
          exact st_gt (hΓ 10 (by decide) _ rfl) (st_leI rfl (hΓ 12 (by decide) _ rfl) (by simp only [hb2]) (VO.nil ⟨rfl, rfl, trivial⟩))
        refine ⟨rfl, .bool false, True, fun Γ H hΓ hH => ?_, ?_⟩
        · subst hH
          exact st_pick_t (hΓ 10 (by decide) _ rfl) (hΓ 13 (by decide) _ rfl) (VO.nil ⟨rfl, rfl, trivial⟩)
        refine ⟨rfl, .bool false, True, fun Γ H hΓ hH => ?_, ?_⟩
        · subst hH
          exact st_mv (hΓ 14 (by decide) _ rfl) (VO.nil ⟨rfl, rfl, trivial⟩)
        refine ⟨rfl, undef, True, fun Γ H hΓ hH => ?_, ?_⟩
        · subst hH
          exact st_gf (hΓ 15 (by decide) _ rfl) rfl (VO.nil ⟨rfl, rfl, trivial⟩)
        refine ⟨rfl, undef, True, fun Γ H hΓ hH => ?_, ?_⟩
        · subst hH
          exact st_gf (hΓ 15 (by decide) _ rfl) rfl (VO.nil ⟨rfl, rfl, trivial⟩)
        refine ⟨rfl, undef, True, fun Γ H hΓ hH => ?_, ?_⟩
        · subst hH
          exact st_gf (hΓ 15 (by decide) _ rfl) rfl (VO.nil ⟨rfl, rfl, trivial⟩)
        refine ⟨rfl, .bool false, True, fun Γ H hΓ hH => ?_, ?_⟩
        · subst hH
          exact st_pick_f (hΓ 15 (by decide) _ rfl) rfl (VO.nil ⟨rfl, rfl, trivial⟩)
        refine ⟨rfl, .tuple #[], False, fun Γ H hΓ hH => ?_, ?_⟩
        · subst hH
          refine st_callZ (must_spec false) (by simp only [V.evs, V.ev, hΓ 19 (by decide) _ rfl]) Spl.nil (fun v Post hv => absurd hv.1 (by decide)) (fun ch Post hz => ?_)
          obtain ⟨_, rfl, rfl⟩ := hz
          exact ⟨rfl, by simp only [List.nil_append]; exact Imp.refl _⟩
        exact fun hh => by simp at hh
      rcases List.mem_cons.1 hrs with rfl | hrs
      · skip
        refine ⟨rfl, .pointer (some ⟨q, 0, none⟩), True, fun Γ H hΓ hH => ?_, ?_⟩
        · subst hH
          exact st_fld (hΓ 1 (by decide) _ rfl) rfl (VO.nil ⟨rfl, rfl, trivial⟩)
        refine ⟨rfl, .string sel, True, fun Γ H hΓ hH => ?_, ?_⟩
        · subst hH
          exact st_load1 (hΓ 3 (by decide) _ rfl) (by (focus ((repeat (first | (apply Has.cells; omega; rfl) | apply Has.there)); done))) (VO.nil ⟨rfl, rfl, trivial⟩)
        refine ⟨rfl, .pointer (some ⟨q, 1, none⟩), True, fun Γ H hΓ hH => ?_, ?_⟩
        · subst hH
          exact st_fld (hΓ 1 (by decide) _ rfl) rfl (VO.nil ⟨rfl, rfl, trivial⟩)
        refine ⟨rfl, .slice aa args.length ac, True, fun Γ H hΓ hH => ?_, ?_⟩
        · subst hH
          exact st_load1 (hΓ 6 (by decide) _ rfl) (by (focus ((repeat (first | (apply Has.cells; omega; rfl) | apply Has.there)); done))) (VO.nil ⟨rfl, rfl, trivial⟩)
        refine ⟨rfl, vi (arityS sel), True, fun Γ H hΓ hH => ?_, ?_⟩
        · subst hH
          exact st_callP (arity_spec sel hsel) (by simp only [V.evs, V.ev, hΓ 4 (by decide) _ rfl]) (VO.nil ⟨rfl, rfl, trivial⟩)
        refine ⟨rfl, vi args.length, True, fun Γ H hΓ hH => ?_, ?_⟩
        · subst hH
          exact st_lenI (hΓ 7 (by decide) _ rfl) (VO.nil ⟨rfl, rfl, trivial⟩)
        refine ⟨rfl, .bool true, True, fun Γ H hΓ hH => ?_, ?_⟩
        · subst hH
          exact st_eqI (hΓ 5 (by decide) _ rfl) (hΓ 8 (by decide) _ rfl) (by simp only [hb1]) (VO.nil ⟨rfl, rfl, trivial⟩)
        refine ⟨rfl, .bool true, True, fun Γ H hΓ hH => ?_, ?_⟩
        · subst hH
          exact st_mv (hΓ 9 (by decide) _ rfl) (VO.nil ⟨rfl, rfl, trivial⟩)
        refine ⟨rfl, .pointer (some ⟨q, 3, none⟩), True, fun Γ H hΓ hH => ?_, ?_⟩
        · subst hH
          exact st_gt (hΓ 10 (by decide) _ rfl) (st_fld (hΓ 1 (by decide) _ rfl) rfl (VO.nil ⟨rfl, rfl, trivial⟩))
        refine ⟨rfl, vi prim, True, fun Γ H hΓ hH => ?_, ?_⟩
        · subst hH
          exact st_gt (hΓ 10 (by decide) _ rfl) (st_load1 (hΓ 11 (by decide) _ rfl) (by (focus ((repeat (first | (apply Has.cells; omega; rfl) | apply Has.there)); done))) (VO.nil ⟨rfl, rfl, trivial⟩))
        refine ⟨rfl, .bool false, True, fun Γ H hΓ hH => ?_, ?_⟩
        · subst hH
          exact st_gt (hΓ 10 (by decide) _ rfl) (st_leI rfl (hΓ 12 (by decide) _ rfl) (by simp only [hb2]) (VO.nil ⟨rfl, rfl, trivial⟩))
        refine ⟨rfl, .bool false, True, fun Γ H hΓ hH => ?_, ?_⟩
        · subst hH
          exact st_pick_t (hΓ 10 (by decide) _ rfl) (hΓ 13 (by decide) _ rfl) (VO.nil ⟨rfl, rfl, trivial⟩)
        refine ⟨rfl, .bool false, True, fun Γ H hΓ hH => ?_, ?_⟩
        · subst hH
          exact st_mv (hΓ 14 (by decide) _ rfl) (VO.nil ⟨rfl, rfl, trivial⟩)
        refine ⟨rfl, undef, True, fun Γ H hΓ hH => ?_, ?_⟩
        · subst hH
          exact st_gf (hΓ 15 (by decide) _ rfl) rfl (VO.nil ⟨rfl, rfl, trivial⟩)
        refine ⟨rfl, undef, True, fun Γ H hΓ hH => ?_, ?_⟩
        · subst hH
          exact st_gf (hΓ 15 (by decide) _ rfl) rfl (VO.nil ⟨rfl, rfl, trivial⟩)
        refine ⟨rfl, undef, True, fun Γ H hΓ hH => ?_, ?_⟩
        · subst hH
          exact st_gf (hΓ 15 (by decide) _ rfl) rfl (VO.nil ⟨rfl, rfl, trivial⟩)
        refine ⟨rfl, .bool false, True, fun Γ H hΓ hH => ?_, ?_⟩
        · subst hH
          exact st_pick_f (hΓ 15 (by decide) _ rfl) rfl (VO.nil ⟨rfl, rfl, trivial⟩)
        refine ⟨rfl, .tuple #[], False, fun Γ H hΓ hH => ?_, ?_⟩
        · subst hH
          refine st_callZ (must_spec false) (by simp only [V.evs, V.ev, hΓ 19 (by decide) _ rfl]) Spl.nil (fun v Post hv => absurd hv.1 (by decide)) (fun ch Post hz => ?_)
          obtain ⟨_, rfl, rfl⟩ := hz
          exact ⟨rfl, by simp only [List.nil_append]; exact Imp.refl _⟩
        exact fun hh => by simp at hh
      · cases hrs
    · obtain ⟨rfl, hi⟩ := hp
      exact ⟨[lkA lb false false, A], Imp.cut hi (by exact IMx), rfl, false, false, [A], rfl, hnone, rfl⟩
  have hb2 : decide (0 ≤ prim) = true := decide_eq_true h2
  by_cases h3 : prim ≤ 255
  rotate_left
  · have hnone : RR = none := by simp [hRR, mustR, h3]
    have hb3 : decide (prim ≤ 255) = false := decide_eq_false h3
    refine VC.seq (VC.drawZ (fun ch H' => ch = wrongCh ∧ Imp H' [lkA lb false false, A, cellsAt q 0 [.string sel, .slice aa args.length ac, .slice ta temps.length tc, vi prim, .slice a body.length c]]) (fun H' => H' = [lkA lb false false, A, cellsAt q 0 [.string sel, .slice aa args.length ac, .slice ta temps.length tc, vi prim, .slice a body.length c]]) rfl ?_ (fun ch H' hp => ?_))
    · skip
      intro rs hrs
      rcases List.mem_cons.1 hrs with rfl | hrs
      · skip
        refine ⟨rfl, .pointer (some ⟨q, 0, none⟩), True, fun Γ H hΓ hH => ?_, ?_⟩
        · subst hH
          exact st_fld (hΓ 1 (by decide) _ rfl) rfl (VO.nil ⟨rfl, rfl, trivial⟩)
        refine ⟨rfl, .string sel, True, fun Γ H hΓ hH => ?_, ?_⟩
        · subst hH
          exact st_load1 (hΓ 3 (by decide) _ rfl) (by (focus ((repeat (first | (apply Has.cells; omega; rfl) | apply Has.there)); done))) (VO.nil ⟨rfl, rfl, trivial⟩)
        refine ⟨rfl, vi (arityS sel), True, fun Γ H hΓ hH => ?_, ?_⟩
        · subst hH
          exact st_callP (arity_spec sel hsel) (by simp only [V.evs, V.ev, hΓ 4 (by decide) _ rfl]) (VO.nil ⟨rfl, rfl, trivial⟩)
        refine ⟨rfl, .pointer (some ⟨q, 1, none⟩), True, fun Γ H hΓ hH => ?_, ?_⟩
        · subst hH
          exact st_fld (hΓ 1 (by decide) _ rfl) rfl (VO.nil ⟨rfl, rfl, trivial⟩)
        refine ⟨rfl, .slice aa args.length ac, True, fun Γ H hΓ hH => ?_, ?_⟩
        · subst hH
          exact st_load1 (hΓ 6 (by decide) _ rfl) (by (focus ((repeat (first | (apply Has.cells; omega; rfl) | apply Has.there)); done))) (VO.nil ⟨rfl, rfl, trivial⟩)
        refine ⟨rfl, vi args.length, True, fun Γ H hΓ hH => ?_, ?_⟩
        · subst hH
          exact st_lenI (hΓ 7 (by decide) _ rfl) (VO.nil ⟨rfl, rfl, trivial⟩)
        refine ⟨rfl, .bool true, True, fun Γ H hΓ hH => ?_, ?_⟩
        · subst hH
          exact st_eqI (hΓ 5 (by decide) _ rfl) (hΓ 8 (by decide) _ rfl) (by simp only [hb1]) (VO.nil ⟨rfl, rfl, trivial⟩)
        refine ⟨rfl, .bool true, True, fun Γ H hΓ hH => ?_, ?_⟩
        · subst hH
          exact st_mv (hΓ 9 (by decide) _ rfl) (VO.nil ⟨rfl, rfl, trivial⟩)
        refine ⟨rfl, .pointer (some ⟨q, 3, none⟩), True, fun Γ H hΓ hH => ?_, ?_⟩
        · subst hH
          exact st_gt (hΓ 10 (by decide) _ rfl) (st_fld (hΓ 1 (by decide) _ rfl) rfl (VO.nil ⟨rfl, rfl, trivial⟩))
        refine ⟨rfl, vi prim, True, fun Γ H hΓ hH => ?_, ?_⟩
        · subst hH
          exact st_gt (hΓ 10 (by decide) _ rfl) (st_load1 (hΓ 11 (by decide) _ rfl) (by (focus ((repeat (first | (apply Has.cells; omega; rfl) | apply Has.there)); done))) (VO.nil ⟨rfl, rfl, trivial⟩))
        refine ⟨rfl, .bool true, True, fun Γ H hΓ hH => ?_, ?_⟩
        · subst hH
          exact st_gt (hΓ 10 (by decide) _ rfl) (st_leI rfl (hΓ 12 (by decide) _ rfl) (by simp only [hb2]) (VO.nil ⟨rfl, rfl, trivial⟩))
        refine ⟨rfl, .bool true, True, fun Γ H hΓ hH => ?_, ?_⟩
        · subst hH
          exact st_pick_t (hΓ 10 (by decide) _ rfl) (hΓ 13 (by decide) _ rfl) (VO.nil ⟨rfl, rfl, trivial⟩)
        refine ⟨rfl, .bool true, True, fun Γ H hΓ hH => ?_, ?_⟩
        · subst hH
          exact st_mv (hΓ 14 (by decide) _ rfl) (VO.nil ⟨rfl, rfl, trivial⟩)
        refine ⟨rfl, .pointer (some ⟨q, 3, none⟩), True, fun Γ H hΓ hH => ?_, ?_⟩
        · subst hH
          exact st_gt (hΓ 15 (by decide) _ rfl) (st_fld (hΓ 1 (by decide) _ rfl) rfl (VO.nil ⟨rfl, rfl, trivial⟩))
        refine ⟨rfl, vi prim, True, fun Γ H hΓ hH => ?_, ?_⟩
        · subst hH
          exact st_gt (hΓ 15 (by decide) _ rfl) (st_load1 (hΓ 16 (by decide) _ rfl) (by (focus ((repeat (first | (apply Has.cells; omega; rfl) | apply Has.there)); done))) (VO.nil ⟨rfl, rfl, trivial⟩))
        refine ⟨rfl, .bool false, True, fun Γ H hΓ hH => ?_, ?_⟩
        · subst hH
          exact st_gt (hΓ 15 (by decide) _ rfl) (st_leI (hΓ 17 (by decide) _ rfl) rfl (by simp only [hb3]) (VO.nil ⟨rfl, rfl, trivial⟩))
        refine ⟨rfl, .bool false, True, fun Γ H hΓ hH => ?_, ?_⟩
        · subst hH
          exact st_pick_t (hΓ 15 (by decide) _ rfl) (hΓ 18 (by decide) _ rfl) (VO.nil ⟨rfl, rfl, trivial⟩)
        refine ⟨rfl, .tuple #[], False, fun Γ H hΓ hH => ?_, ?_⟩
        · subst hH
          refine st_callZ (must_spec false) (by simp only [V.evs, V.ev, hΓ 19 (by decide) _ rfl]) Spl.nil (fun v Post hv => absurd hv.1 (by decide)) (fun ch Post hz => ?_)
          obtain ⟨_, rfl, rfl⟩ := hz
          exact ⟨rfl, by simp only [List.nil_append]; exact Imp.refl _⟩
        exact fun hh => by simp at hh
      rcases List.mem_cons.1 hrs with rfl | hrs
      · skip
        refine ⟨rfl, .pointer (some ⟨q, 0, none⟩), True, fun Γ H hΓ hH => ?_, ?_⟩
        · subst hH
          exact st_fld (hΓ 1 (by decide) _ rfl) rfl (VO.nil ⟨rfl, rfl, trivial⟩)
        refine ⟨rfl, .string sel, True, fun Γ H hΓ hH => ?_, ?_⟩
        · subst hH
          exact st_load1 (hΓ 3 (by decide) _ rfl) (by (focus ((repeat (first | (apply Has.cells; omega; rfl) | apply Has.there)); done))) (VO.nil ⟨rfl, rfl, trivial⟩)
        refine ⟨rfl, .pointer (some ⟨q, 1, none⟩), True, fun Γ H hΓ hH => ?_, ?_⟩
        · subst hH
          exact st_fld (hΓ 1 (by decide) _ rfl) rfl (VO.nil ⟨rfl, rfl, trivial⟩)
        refine ⟨rfl, .slice aa args.length ac, True, fun Γ H hΓ hH => ?_, ?_⟩
        · subst hH
          exact st_load1 (hΓ 6 (by decide) _ rfl) (by (focus ((repeat (first | (apply Has.cells; omega; rfl) | apply Has.there)); done))) (VO.nil ⟨rfl, rfl, trivial⟩)
        refine ⟨rfl, vi (arityS sel), True, fun Γ H hΓ hH => ?_, ?_⟩
        · subst hH
          exact st_callP (arity_spec sel hsel) (by simp only [V.evs, V.ev, hΓ 4 (by decide) _ rfl]) (VO.nil ⟨rfl, rfl, trivial⟩)
        refine ⟨rfl, vi args.length, True, fun Γ H hΓ hH => ?_, ?_⟩
        · subst hH
          exact st_lenI (hΓ 7 (by decide) _ rfl) (VO.nil ⟨rfl, rfl, trivial⟩)
        refine ⟨rfl, .bool true, True, fun Γ H hΓ hH => ?_, ?_⟩
        · subst hH
          exact st_eqI (hΓ 5 (by decide) _ rfl) (hΓ 8 (by decide) _ rfl) (by simp only [hb1]) (VO.nil ⟨rfl, rfl, trivial⟩)
        refine ⟨rfl, .bool true, True, fun Γ H hΓ hH => ?_, ?_⟩
        · subst hH
          exact st_mv (hΓ 9 (by decide) _ rfl) (VO.nil ⟨rfl, rfl, trivial⟩)
        refine ⟨rfl, .pointer (some ⟨q, 3, none⟩), True, fun Γ H hΓ hH => ?_, ?_⟩
        · subst hH
          exact st_gt (hΓ 10 (by decide) _ rfl) (st_fld (hΓ 1 (by decide) _ rfl) rfl (VO.nil ⟨rfl, rfl, trivial⟩))
        refine ⟨rfl, vi prim, True, fun Γ H hΓ hH => ?_, ?_⟩
        · subst hH
          exact st_gt (hΓ 10 (by decide) _ rfl) (st_load1 (hΓ 11 (by decide) _ rfl) (by (focus ((repeat (first | (apply Has.cells; omega; rfl) | apply Has.there)); done))) (VO.nil ⟨rfl, rfl, trivial⟩))
        refine ⟨rfl, .bool true, True, fun Γ H hΓ hH => ?_, ?_⟩
        · subst hH
          exact st_gt (hΓ 10 (by decide) _ rfl) (st_leI rfl (hΓ 12 (by decide) _ rfl) (by simp only [hb2]) (VO.nil ⟨rfl, rfl, trivial⟩))
        refine ⟨rfl, .bool true, True, fun Γ H hΓ hH => ?_, ?_⟩
        · subst hH
          exact st_pick_t (hΓ 10 (by decide) _ rfl) (hΓ 13 (by decide) _ rfl) (VO.nil ⟨rfl, rfl, trivial⟩)
        refine ⟨rfl, .bool true, True, fun Γ H hΓ hH => ?_, ?_⟩
        · subst hH
          exact st_mv (hΓ 14 (by decide) _ rfl) (VO.nil ⟨rfl, rfl, trivial⟩)
        refine ⟨rfl, .pointer (some ⟨q, 3, none⟩), True, fun Γ H hΓ hH => ?_, ?_⟩
        · subst hH
          exact st_gt (hΓ 15 (by decide) _ rfl) (st_fld (hΓ 1 (by decide) _ rfl) rfl (VO.nil ⟨rfl, rfl, trivial⟩))
        refine ⟨rfl, vi prim, True, fun Γ H hΓ hH => ?_, ?_⟩
        · subst hH
          exact st_gt (hΓ 15 (by decide) _ rfl) (st_load1 (hΓ 16 (by decide) _ rfl) (by (focus ((repeat (first | (apply Has.cells; omega; rfl) | apply Has.there)); done))) (VO.nil ⟨rfl, rfl, trivial⟩))
        refine ⟨rfl, .bool false, True, fun Γ H hΓ hH => ?_, ?_⟩
        · subst hH
          exact st_gt (hΓ 15 (by decide) _ rfl) (st_leI (hΓ 17 (by decide) _ rfl) rfl (by simp only [hb3]) (VO.nil ⟨rfl, rfl, trivial⟩))
        refine ⟨rfl, .bool false, True, fun Γ H hΓ hH => ?_, ?_⟩
        · subst hH
          exact st_pick_t (hΓ 15 (by decide) _ rfl) (hΓ 18 (by decide) _ rfl) (VO.nil ⟨rfl, rfl, trivial⟩)
        refine ⟨rfl, .tuple #[], False, fun Γ H hΓ hH => ?_, ?_⟩
        · subst hH
          refine st_callZ (must_spec false) (by simp only [V.evs, V.ev, hΓ 19 (by decide) _ rfl]) Spl.nil (fun v Post hv => absurd hv.1 (by decide)) (fun ch Post hz => ?_)
          obtain ⟨_, rfl, rfl⟩ := hz
          exact ⟨rfl, by simp only [List.nil_append]; exact Imp.refl _⟩
        exact fun hh => by simp at hh
      · cases hrs
    · obtain ⟨rfl, hi⟩ := hp
      exact ⟨[lkA lb false false, A], Imp.cut hi (by exact IMx), rfl, false, false, [A], rfl, hnone, rfl⟩
  have hb3 : decide (prim ≤ 255) = true := decide_eq_true h3
  have hm : RR = namesR 15 args (namesR 63 temps (maxR (stmtsR body (body.map nodeD)))) := by simp [hRR, mustR, h1, h2, h3]
  refine VC.seq (VC.draws ⟨?_, ?_, trivial⟩)
  · refine GOH ?_
    refine st_callP (arity_spec sel hsel) (by rfl) ?_
    refine GOH ?_
    rw [hb1]
    refine GOH ?_
    rw [hb2]
    refine GOH ?_
    rw [hb3]
    refine GOH ?_
    refine st_call ((must_spec true).mono (Z' := fun _ _ => False) (fun v Post h => h) (fun ch Post hz => absurd hz.1 (by decide))).fun (by rfl) (by exact SPx) (fun v Post hv => ?_)
    obtain ⟨_, rfl, rfl⟩ := hv
    simp only [List.nil_append]
    refine GOH ?_
    refine st_callZ (names_spec A _ args hav lb 15 false false) (by rfl) (by exact SPx) (fun v Post hv => ?_) (fun ch Post hz => ?_)
    rotate_left
    · obtain ⟨hb, rfl, m2, rfl⟩ := hz
      exact ⟨[lkA lb m2 false, A], by simp only [CNx]; exact IMx, rfl, m2, false, [A], rfl, by simp [hm, mustR, namesR, hb], rfl⟩
    obtain ⟨hf1, rfl, rfl⟩ := hv
    rw [Bool.false_or]
    obtain ⟨m1, hm1⟩ : ∃ m1, m1 = decide (15 < args.length) := ⟨_, rfl⟩
    rw [← hm1]
    simp only [CNx]
    refine GOH ?_
    refine st_callZ (names_spec A _ temps htv lb 63 m1 false) (by rfl) (by exact SPx) (fun v Post hv => ?_) (fun ch Post hz => ?_)
    rotate_left
    · obtain ⟨hb, rfl, m2, rfl⟩ := hz
      have hnone : RR = none := by
        simp only [hm, namesR, hb]
        simp [mustR, manyR]
      exact ⟨[lkA lb m2 false, A], by simp only [CNx]; exact IMx, rfl, m2, false, [A], rfl, hnone, rfl⟩
    obtain ⟨hf2, rfl, rfl⟩ := hv
    obtain ⟨m2, hm2⟩ : ∃ m2, m2 = (m1 || decide (63 < temps.length)) := ⟨_, rfl⟩
    rw [← hm2]
    simp only [CNx]
    refine GOH ?_
    refine st_callZ (statements_spec A body a c bk o us hkids lb m2 false) (by rfl) (by exact SPx) (fun v Post hv => ?_) (fun ch Post hz => ?_)
    rotate_left
    · obtain ⟨hb, rfl, m3, rfl⟩ := hz
      have hnone : RR = none := by
        simp only [hm, namesR, hb, manyR]
        simp [mustR]
      exact ⟨[lkA lb m3 false, A], by simp only [CNx]; exact IMx, rfl, m3, false, [A], rfl, hnone, rfl⟩
    obtain ⟨d, m3, he, rfl, rfl⟩ := hv
    simp only [CNx]
    refine GOH ?_
    refine endP_mk (endQ_mk (Post := [lkA lb (m2 || m3) (decide ((d : Int) > 40)), A]) (.inl rfl) .nil ⟨m2 || m3, _, [A], rfl, ⟨d, ?_, decide_eq_decide.2 (by omega)⟩, rfl⟩ (by exact IMx))
    simp only [hm, namesR, hf1, hf2, he, manyR, mustR, if_true, hm2, hm1, Bool.or_assoc]
  · refine GOH ?_
    refine st_callP (arity_spec sel hsel) (by rfl) ?_
    refine GOH ?_
    rw [hb1]
    refine GOH ?_
    rw [hb2]
    refine GOH ?_
    rw [hb3]
    refine GOH ?_
    refine st_call ((must_spec true).mono (Z' := fun _ _ => False) (fun v Post h => h) (fun ch Post hz => absurd hz.1 (by decide))).fun (by rfl) (by exact SPx) (fun v Post hv => ?_)
    obtain ⟨_, rfl, rfl⟩ := hv
    simp only [List.nil_append]
    refine GOH ?_
    refine st_callZ (names_spec A _ args hav lb 15 false false) (by rfl) (by exact SPx) (fun v Post hv => ?_) (fun ch Post hz => ?_)
    rotate_left
    · obtain ⟨hb, rfl, m2, rfl⟩ := hz
      exact ⟨[lkA lb m2 false, A], by simp only [CNx]; exact IMx, rfl, m2, false, [A], rfl, by simp [hm, mustR, namesR, hb], rfl⟩
    obtain ⟨hf1, rfl, rfl⟩ := hv
    rw [Bool.false_or]
    obtain ⟨m1, hm1⟩ : ∃ m1, m1 = decide (15 < args.length) := ⟨_, rfl⟩
    rw [← hm1]
    simp only [CNx]
    refine GOH ?_
    refine st_callZ (names_spec A _ temps htv lb 63 m1 false) (by rfl) (by exact SPx) (fun v Post hv => ?_) (fun ch Post hz => ?_)
    rotate_left
    · obtain ⟨hb, rfl, m2, rfl⟩ := hz
      have hnone : RR = none := by
        simp only [hm, namesR, hb]
        simp [mustR, manyR]
      exact ⟨[lkA lb m2 false, A], by simp only [CNx]; exact IMx, rfl, m2, false, [A], rfl, hnone, rfl⟩
    obtain ⟨hf2, rfl, rfl⟩ := hv
    obtain ⟨m2, hm2⟩ : ∃ m2, m2 = (m1 || decide (63 < temps.length)) := ⟨_, rfl⟩
    rw [← hm2]
    simp only [CNx]
    refine GOH ?_
    refine st_callZ (statements_spec A body a c bk o us hkids lb m2 false) (by rfl) (by exact SPx) (fun v Post hv => ?_) (fun ch Post hz => ?_)
    rotate_left
    · obtain ⟨hb, rfl, m3, rfl⟩ := hz
      have hnone : RR = none := by
        simp only [hm, namesR, hb, manyR]
        simp [mustR]
      exact ⟨[lkA lb m3 false, A], by simp only [CNx]; exact IMx, rfl, m3, false, [A], rfl, hnone, rfl⟩
    obtain ⟨d, m3, he, rfl, rfl⟩ := hv
    simp only [CNx]
    refine GOH ?_
    refine endP_mk (endQ_mk (Post := [lkA lb (m2 || m3) (decide ((d : Int) > 40)), A]) (.inl rfl) .nil ⟨m2 || m3, _, [A], rfl, ⟨d, ?_, decide_eq_decide.2 (by omega)⟩, rfl⟩ (by exact IMx))
    simp only [hm, namesR, hf1, hf2, he, manyR, mustR, if_true, hm2, hm1, Bool.or_assoc]
theorem Check_spec (A : List Atom) (x : Md) (vs : List Value) (h : MdRd A x vs) : Fun Tryz.prog 13 [.agg vs.toArray] [A] (fun v Post => v = vi (checkM x) ∧ Post = [A]) := by
  have h1 := check1_spec A x vs h
  obtain ⟨⟨aa, ac, ta, tc, a, c, bk, o, us, rfl, hav, htv, hkids⟩, hsel, hprim⟩ := h
  refine Fun.intro low13 (by simp [n13]) ?_
  refine GOH ?_
  refine st_box (by rfl) (fun q => ?_)
  simp only [Value.cells]
  refine GOH ?_
  refine st_call (caught_spec (.func (.func 46) #[] #[ptr0 q]) [A, cellsAt q 0 [.string x.sel, .slice aa x.args.length ac, .slice ta x.temps.length tc, vi x.prim, .slice a x.body.length c]]
    (fun m d Post' => (∃ dd, methodR x = some (dd, m) ∧ d = decide (40 < dd)) ∧ Post' = [A]) (fun Post' => methodR x = none ∧ Post' = [A]) (fun lb => FunVP.of_fun (first := #[]) (cap := #[ptr0 q]) (h1 q lb))) (by rfl) (by exact SPx) (fun v Post hv => ?_)
  have hfin : v = vi (checkM x) ∧ Post = [A] := by
    rcases hv with ⟨m, d, rfl, ⟨dd, e, rfl⟩, rfl⟩ | ⟨rfl, e, rfl⟩
    · refine ⟨?_, rfl⟩
      simp only [checkM, endE, e]
      cases m <;> simp <;> split <;> rfl
    · refine ⟨?_, rfl⟩
      simp only [checkM, endE, e]
      rfl
  obtain ⟨rfl, rfl⟩ := hfin
  simp only [CNx]
  refine GOH ?_
  exact endQ_mk (Post := [A]) (.inr rfl) (.tmp (by rfl) .nil) ⟨rfl, rfl⟩ (by exact IMx)
abbrev encN (p : NV) : List Value := [.agg p.2.toArray]
def DownOk (A : List Atom) (S : List NV → Prop) (J SP : List NV → List Atom → Prop) (y : Value) (p2 p3 : Nat) (x : Nd) (vs : List Value) : Prop :=
  ∀ c, (∀ fx, SpecN A x fx → OkC S (c ++ fx)) → ∀ B, J c B → FunV Tryz.prog (.func (.func 83) #[] #[ptr0 p2, ptr0 p3]) [.agg vs.toArray] [cellsAt p2 0 [y], cellsAt p3 0 [.func (.func 83) #[] #[ptr0 p2, ptr0 p3]], B]
    (fun v H => (v = .bool true ∧ ∃ fx B', SpecN A x fx ∧ J (c ++ fx) B' ∧ H = [cellsAt p2 0 [y], cellsAt p3 0 [.func (.func 83) #[] #[ptr0 p2, ptr0 p3]], B']) ∨ (v = .bool false ∧ ∃ c' B', OkC S c' ∧ SP c' B' ∧ H = [cellsAt p2 0 [y], cellsAt p3 0 [.func (.func 83) #[] #[ptr0 p2, ptr0 p3]], B']))
theorem okC_pre {α : Type} {S : List α → Prop} {c d : List α} (h : OkC S (c ++ d)) : OkC S c := by
  obtain ⟨t, ht⟩ := h
  exact ⟨d ++ t, by rw [← List.append_assoc]; exact ht⟩
theorem down_spec (A : List Atom) (S : List NV → Prop) (J SP : List NV → List Atom → Prop) (y : Value) (hJA : ∀ c B, J c B → AccT A B)
    (hy : ∀ c x B, OkC S (c ++ [x]) → J c B → FunV Tryz.prog y (encN x) [B] (fun v H => (v = .bool true ∧ ∃ A', J (c ++ [x]) A' ∧ H = [A']) ∨ (v = .bool false ∧ ∃ B', SP (c ++ [x]) B' ∧ H = [B']))) (p2 p3 : Nat) :
    ∀ (N : Nat) (x : Nd), x.w ≤ N → ∀ vs, NdRd A x vs → DownOk A S J SP y p2 p3 x vs := by
  intro N
  induction N with
  | zero => intro x hx; have := x.w_pos; omega
  | succ N ih =>
    intro x hx vs h c hctx B hB
    have hkid : ∀ z us, z ∈ x.kids → NdRd A z us → DownOk A S J SP y p2 p3 z us := fun z us hz hr => by
      have : z.w < x.w := by
        cases x
        have := Nd.ws_mem hz
        simp only [Nd.kids] at this
        simp only [Nd.w]; omega
      exact ih z (by omega) us hr
    have h0 := h
    have hself : OkC S (c ++ [(x, vs)]) := by
      obtain ⟨g, hg⟩ := specNs_ex h (l := x.kids) (fun _ h => h)
      have := hctx _ (SpecN.cons h hg)
      rw [show c ++ (x, vs) :: g = (c ++ [(x, vs)]) ++ g by simp] at this
      exact okC_pre this
    have hcall := hy c (x, vs) B hself hB
    have hcons : ∀ {f : List NV}, SpecNs A x.kids f → SpecN A x ((x, vs) :: f) := fun hf => SpecN.cons h hf
    have hctx2 : ∀ {j : Nat} {z : Nd} {f fz : List NV}, SpecNs A (x.kids.take j) f → x.kids[j]? = some z → SpecN A z fz → OkC S ((c ++ (x, vs) :: f) ++ fz) := fun {j z f fz} hf hz hfz => by
      obtain ⟨g, hg⟩ := specNs_ex h (l := x.kids.drop (j + 1)) (fun _ h => List.mem_of_mem_drop h)
      have e : x.kids.take j ++ [z] ++ x.kids.drop (j + 1) = x.kids := by
        have e1 : x.kids.take (j + 1) = x.kids.take j ++ [z] := by rw [List.take_add_one, hz]; rfl
        rw [← e1, List.take_append_drop]
      have := hctx _ (hcons (e ▸ (hf.append (SpecNs.one hfz)).append hg))
      rw [show c ++ (x, vs) :: (f ++ fz ++ g) = (c ++ (x, vs) :: f ++ fz) ++ g by simp] at this
      exact okC_pre this
    obtain ⟨e1, e2, e3, e4, e5, e6, e7, e8, e9, e10, e11, e12, e13, a, cc, bk, o, us, hvs, hmany, ha, hm, hr⟩ := nd_at h0
    refine FunV.of_fun (first := #[]) (cap := #[ptr0 p2, ptr0 p3]) ?_
    show Fun Tryz.prog 83 [.agg vs.toArray, ptr0 p2, ptr0 p3] _ _
    refine Fun.intro low83 (by simp [n83]) ?_
    generalize hfn : Value.func (.func 83) #[] #[ptr0 p2, ptr0 p3] = fn
    have hkv : ∀ z zs, z ∈ x.kids → NdRd A z zs → ∀ c, (∀ fx, SpecN A z fx → OkC S (c ++ fx)) → ∀ B, J c B → FunV Tryz.prog fn [.agg zs.toArray] [cellsAt p2 0 [y], cellsAt p3 0 [fn], B]
        (fun v H => (v = .bool true ∧ ∃ fx B', SpecN A z fx ∧ J (c ++ fx) B' ∧ H = [cellsAt p2 0 [y], cellsAt p3 0 [fn], B']) ∨ (v = .bool false ∧ ∃ c' B', OkC S c' ∧ SP c' B' ∧ H = [cellsAt p2 0 [y], cellsAt p3 0 [fn], B'])) := fun z zs hz hr => by
      rw [← hfn]; exact hkid z zs hz hr
    simp only [encN] at hcall
    rw [hvs] at hcall ⊢
    refine GOH ?_
    refine st_box (by rfl) (fun q => ?_)
    simp only [Value.cells]
    refine GOH ?_
    refine st_callV (by rfl) hcall (by rfl) (by exact SPx) (fun v Post hv => ?_)
    rcases hv with ⟨rfl, B1, hB1, rfl⟩ | ⟨rfl, B1, hB1, rfl⟩
    rotate_left
    · simp only [CNx]
      refine GOH ?_
      refine endQ_mk (Post := [cellsAt p2 0 [y], cellsAt p3 0 [fn], B1]) (.inr rfl) (.tmp (by rfl) .nil) (.inr ⟨rfl, _, B1, hself, hvs ▸ hB1, rfl⟩) (by exact IMx)
    simp only [CNx]
    refine GOH ?_
    refine VC.loop (α := Nat × List NV × List Atom) (Γf := fun s => [(2, ptr0 p3), (12, .slice a x.kids.length cc), (13, vi x.kids.length), (14, vi s.1)]) (Hf := fun s => [cellsAt p2 0 [y], cellsAt p3 0 [fn], s.2.2])
      (I := fun s => s.1 ≤ x.kids.length ∧ SpecNs A (x.kids.take s.1) s.2.1 ∧ J (c ++ (x, vs) :: s.2.1) s.2.2) (μ := fun s => x.kids.length - s.1) (0, [], B1) ⟨Nat.zero_le _, .nil, by rw [← hvs] at hB1; exact hB1⟩ (by exact SUx) (by exact IMx) ?_
    rintro ⟨j, f, B2⟩ ⟨i1, i2, i3⟩
    simp only at i1 i2 i3
    dsimp only
    refine GOH ?_
    by_cases hj : j < x.kids.length
    rotate_left
    · rw [show decide ((j : Int) < (x.kids.length : Int)) = false from decide_eq_false (by omega)]
      rw [List.take_of_length_le (by omega)] at i2
      refine GOH ?_
      refine endQ_mk (Post := [cellsAt p2 0 [y], cellsAt p3 0 [fn], B2]) (.inr rfl) (.tmp (by rfl) .nil) (.inl ⟨rfl, _, B2, hcons i2, i3, rfl⟩) (by exact IMx)
    obtain rfl := ha (by omega)
    rw [show decide ((j : Int) < (x.kids.length : Int)) = true from decide_eq_true (by omega)]
    obtain ⟨z, hz⟩ : ∃ z, x.kids[j]? = some z := ⟨_, List.getElem?_eq_getElem hj⟩
    have hzr := hr j z hz
    have hzm := hm j hj
    have hzk := hkv z (us j) (List.mem_of_getElem? hz) hzr _ (fun fx hfx => hctx2 i2 hz hfx) B2 i3
    have hacc := (hJA _ _ i3).mem
    generalize us j = uj at hzr hzm hzk
    obtain ⟨g1, g2, g3, g4, g5, g6, g7, g8, g9, g10, g11, g12, g13, g14, g15, g16, g17, rfl, hsz, hkk⟩ := nd_open2 hzr
    have htk : x.kids.take (j + 1) = x.kids.take j ++ [z] := by rw [List.take_add_one, hz]; rfl
    refine GOH ?_
    refine st_loadA (by rfl) (fun u hu => List.mem_append_right _ (List.mem_append_right _ (List.mem_append_left _ (hacc _ (hzm u hu))))) rfl ?_
    refine GOH ?_
    refine st_alloc (fun q9 => ?_)
    refine GOH ?_
    refine st_callV (by rfl) hzk (by rfl) (by exact SPx) (fun v Post hv => ?_)
    rcases hv with ⟨rfl, fz, B3, hfz, hB3, rfl⟩ | ⟨rfl, c', B3, hc', hB3, rfl⟩
    rotate_left
    · simp only [CNx]
      refine GOH ?_
      refine endQ_mk (Post := [cellsAt p2 0 [y], cellsAt p3 0 [fn], B3]) (.inr rfl) (.tmp (by rfl) .nil) (.inr ⟨rfl, c', B3, hc', hB3, rfl⟩) (by exact IMx)
    simp only [CNx]
    refine GOH ?_
    refine ⟨(j + 1, f ++ fz, B3), ⟨by simp only; omega, ?_, ?_⟩, by simp only; omega, by exact SUx, by exact IMx⟩
    · simp only [htk]
      exact i2.append (SpecNs.one hfz)
    · simp only
      rw [show c ++ (x, vs) :: (f ++ fz) = (c ++ (x, vs) :: f) ++ fz by simp]
      exact hB3
theorem all_iter (A : List Atom) (x : Nd) (vs : List Value) (h : NdRd A x vs) (q : Nat) :
    IterA Tryz.prog (.func (.func 82) #[] #[ptr0 q]) encN (AccT A) [cellsAt q 0 vs] [] (SpecN A x) := by
  intro y J SP hcy hJA hy B hB
  have hdown := fun p2 p3 => down_spec A (SpecN A x) J SP y hJA hy p2 p3 _ x (Nat.le_refl _) vs h [] (fun fx hfx => ⟨[], by simpa using hfx⟩) B hB
  obtain ⟨g1, g2, g3, g4, g5, g6, g7, g8, g9, g10, g11, g12, g13, g14, g15, g16, g17, rfl, hsz, hkk⟩ := nd_open2 h
  refine FunV.of_fun (first := #[]) (cap := #[ptr0 q]) ?_
  show Fun Tryz.prog 82 [y, ptr0 q] _ _
  refine Fun.intro low82 (by simp [n82]) ?_
  simp only [CNx]
  refine GOH ?_
  refine st_box (by rfl) (fun p2 => ?_)
  rw [hcy]
  refine GOH ?_
  refine st_alloc (fun p3 => ?_)
  refine GOH ?_
  refine VO.imp (H' := [cellsAt p2 0 [y], cellsAt p3 0 [.func (.func 83) #[] #[ptr0 p2, ptr0 p3]], B]) ?_ ?_
  · show Imp [cellsAt p3 0 [.func (.func 83) #[] #[ptr0 p2, ptr0 p3]], cellsAt p2 0 [y], cellsAt q 0 _, B] _
    exact IMx
  refine st_callV (by rfl) (hdown p2 p3) (by rfl) (by exact SPx) (fun v Post hv => ?_)
  rcases hv with ⟨rfl, fx, B1, hfx, hB1, rfl⟩ | ⟨rfl, c', B1, hc', hB1, rfl⟩
  · simp only [CNx]
    refine GOH ?_
    exact endQ_mk (Post := [B1]) (.inl rfl) .nil ⟨rfl, .inl ⟨fx, B1, hfx, by simpa using hB1, rfl⟩⟩ (by exact IMx)
  · simp only [CNx]
    refine GOH ?_
    exact endQ_mk (Post := [B1]) (.inl rfl) .nil ⟨rfl, .inr ⟨c', B1, hc', hB1, rfl⟩⟩ (by exact IMx)
theorem All_spec (vs : List Value) : Fun Tryz.prog 39 [.agg vs.toArray] [] (fun v Post => ∃ q, v = .func (.func 82) #[] #[ptr0 q] ∧ Post = [cellsAt q 0 vs]) := by
  refine Fun.intro low39 (by simp [n39]) ?_
  refine GOH ?_
  refine st_box (by rfl) (fun q => ?_)
  simp only [Value.cells]
  refine GOH ?_
  exact endQ_mk (Post := [cellsAt q 0 vs]) (.inr rfl) (.tmp (by rfl) .nil) ⟨q, rfl, rfl⟩ (by exact IMx)
theorem Size_spec (A : List Atom) (x : Nd) (vs : List Value) (h : NdRd A x vs) (hw : x.w ≤ 274877906944) : Fun Tryz.prog 27 [.agg vs.toArray] [A] (fun v Post => v = vi (allN x).length ∧ Post = [A]) := by
  have hit := all_iter A x vs h
  have hall := All_spec vs
  have hlen := allN_len _ x (Nat.le_refl _)
  obtain ⟨g1, g2, g3, g4, g5, g6, g7, g8, g9, g10, g11, g12, g13, g14, g15, g16, g17, rfl, hsz, hkk⟩ := nd_open2 h
  refine Fun.intro low27 (by simp [n27]) ?_
  refine GOH ?_
  refine st_box (by rfl) (fun q => ?_)
  simp only [Value.cells]
  refine GOH ?_
  refine st_alloc (fun p => ?_)
  refine GOH ?_
  refine st_call hall (by rfl) (by exact SPx) (fun v Post hv => ?_)
  obtain ⟨q2, rfl, rfl⟩ := hv
  simp only [CNx]
  refine GOH ?_
  refine VC.rangefA (fun c B => B = [cellsAt p 0 [vi c.length], A].flatten) ([cellsAt p 0 [vi 0], A].flatten) (by rfl) (hit q2) (fun A B h => h.more) ?_ (R := [cellsAt p 0 [vi 0], cellsAt q 0 _, A]) (by exact SPx) ?_ rfl (fun _ => rfl) ?_ ?_
  · rintro c B rfl
    exact ⟨cellsAt p 0 [vi c.length], by simp only [List.flatten_cons, List.flatten_nil, List.append_nil]; exact List.perm_append_comm⟩
  · refine Imp.cut (M := [cellsAt p 0 [vi 0], A]) (by exact IMx) (Imp.perm (by simp))
  · rintro c u B hok rfl
    have hc : c.length < (allN x).length := by
      obtain ⟨t, ht⟩ := hok
      have := congrArg List.length ht.1
      simp at this; omega
    simp only [bindE]
    refine VC.imp (H' := [cellsAt p 0 [vi c.length], A]) (Imp.perm (by simp)) ?_
    refine GOH ?_
    refine ⟨trivial, ?_⟩
    refine GOH ?_
    refine ⟨_, rfl, Imp.perm ?_⟩
    simp
  · rintro full B hfull rfl
    refine VC.imp (H' := [cellsAt p 0 [vi full.length], A]) (Imp.perm (by simp)) ?_
    have : full.length = (allN x).length := by rw [← hfull.1, List.length_map]
    rw [this]
    refine GOH ?_
    exact endQ_mk (Post := [A]) (.inr rfl) (.tmp (by rfl) .nil) ⟨rfl, rfl⟩ (by exact IMx)
end Go.Proofs.YtmnmandpdadedaaGreatDoor

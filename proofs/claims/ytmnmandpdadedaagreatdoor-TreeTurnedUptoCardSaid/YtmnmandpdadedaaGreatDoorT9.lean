/-
  Checks of a method.
-/
import Derived.Test.YtmnmandpdadedaaGreatDoorT8
import Derived.Test.YtmnmandpdadedaaGreatDoorT1
import Derived.KernelRfl
import Derived.Test.YtmnmandpdadedaaGreatDoorProg
set_option linter.unusedSimpArgs false
set_option linter.unusedVariables false
namespace Go.Proofs.YtmnmandpdadedaaGreatDoor
open Go Go.V
set_option maxHeartbeats 3200000
set_option maxRecDepth 100000
structure Md where
  sel : ByteArray
  args : List ByteArray
  temps : List ByteArray
  prim : Int
  body : List Nd
structure MdRd (A : List Atom) (x : Md) (vs : List Value) : Prop where
  form : ∃ aa ac ta tc a c bk o us, vs = [.string x.sel, .slice aa x.args.length ac, .slice ta x.temps.length tc, vi x.prim, .slice a x.body.length c] ∧ RdT A (.slice aa x.args.length ac) x.args ∧ RdT A (.slice ta x.temps.length tc) x.temps ∧ KidsOk A x.body a bk o us
  sel : x.sel.size ≤ 140737488355328
  prim : -9223372036854775808 ≤ x.prim ∧ x.prim ≤ 9223372036854775807
def methodR (x : Md) : Rs := mustR (decide (arityS x.sel = x.args.length ∧ 0 ≤ x.prim ∧ x.prim ≤ 255)) (namesR 15 x.args (namesR 63 x.temps (maxR (stmtsR x.body (x.body.map nodeD)))))
def checkM (x : Md) : Nat := endE (fun d => decide (40 < d)) (methodR x)
theorem check1_spec (A : List Atom) (x : Md) (vs : List Value) (h : MdRd A x vs) (q lb : Nat) :
    FunP Tryz.prog 46 [ptr0 lb, ptr0 q] [lkA lb false false, A, cellsAt q 0 vs] (fun v Post => ∃ m d Post', Post = lkA lb m d :: Post' ∧ (∃ dd, methodR x = some (dd, m) ∧ d = decide (40 < dd)) ∧ Post' = [A])
      (fun ch Post => ch = wrongCh ∧ ∃ m d Post', Post = lkA lb m d :: Post' ∧ methodR x = none ∧ Post' = [A]) := by
  obtain ⟨⟨aa, ac, ta, tc, a, c, bk, o, us, rfl, hav, htv, hkids⟩, hsel, hprim⟩ := h
  obtain ⟨sel, args, temps, prim, body⟩ := x
  simp only at hav htv hkids hsel hprim ⊢
  obtain ⟨RR, hRR⟩ : ∃ RR, RR = methodR ⟨sel, args, temps, prim, body⟩ := ⟨_, rfl⟩
  rw [← hRR]
  simp only [methodR] at hRR
  refine FunP.intro low46 (by simp [n46]) ?_
  refine GOHS ?_
  by_cases h1 : arityS sel = (args.length : Int)
  rotate_left
  · have hnone : RR = none := by simp [hRR, mustR, h1]
    have hb1 : decide (arityS sel = (args.length : Int)) = false := decide_eq_false h1
    refine VC.seq (VC.drawZ (fun ch H' => ch = wrongCh ∧ Imp H' [lkA lb false false, A, cellsAt q 0 [.string sel, .slice aa args.length ac, .slice ta temps.length tc, vi prim, .slice a body.length c]]) (fun H' => H' = [lkA lb false false, A, cellsAt q 0 [.string sel, .slice aa args.length ac, .slice ta temps.length tc, vi prim, .slice a body.length c]]) rfl ?_ (fun ch H' hp => ?_))
    · skip
      intro rs hrs
      rcases List.mem_cons.1 hrs with rfl | hrs
      · skip
        refine ⟨rfl, .pointer (some ⟨q, 0, none⟩), True, fun Γ H hΓ hH => ?_, ?_⟩
        · subst hH
          exact st_fld (hΓ 1 (by decide) _ rfl) rfl (VO.nil ⟨rfl, rfl, trivial⟩)
        refine ⟨rfl, .string sel, True, fun Γ H hΓ hH => ?_, ?_⟩
        · subst hH
          exact st_load1 (hΓ 3 (by decide) _ rfl) (by (focus ((repeat (first | (apply Has.cells; omega; rfl) | apply Has.there)); done))) (VO.nil ⟨rfl, rfl, trivial⟩)
        refine ⟨rfl, vi (arityS sel), True, fun Γ H hΓ hH => ?_, ?_⟩
        · subst hH
          exact st_callP (arity_spec sel hsel) (by simp only [V.evs, V.ev, hΓ 4 (by decide) _ rfl]) (VO.nil ⟨rfl, rfl, trivial⟩)
        refine ⟨rfl, .pointer (some ⟨q, 1, none⟩), True, fun Γ H hΓ hH => ?_, ?_⟩
        · subst hH
          exact st_fld (hΓ 1 (by decide) _ rfl) rfl (VO.nil ⟨rfl, rfl, trivial⟩)
        refine ⟨rfl, .slice aa args.length ac, True, fun Γ H hΓ hH => ?_, ?_⟩
        · subst hH
          exact st_load1 (hΓ 6 (by decide) _ rfl) (by (focus ((repeat (first | (apply Has.cells; omega; rfl) | apply Has.there)); done))) (VO.nil ⟨rfl, rfl, trivial⟩)
        refine ⟨rfl, vi args.length, True, fun Γ H hΓ hH => ?_, ?_⟩
        · subst hH
          exact st_lenI (hΓ 7 (by decide) _ rfl) (VO.nil ⟨rfl, rfl, trivial⟩)
        refine ⟨rfl, .bool false, True, fun Γ H hΓ hH => ?_, ?_⟩
        · subst hH
          exact st_eqI (hΓ 5 (by decide) _ rfl) (hΓ 8 (by decide) _ rfl) (by simp only [hb1]) (VO.nil ⟨rfl, rfl, trivial⟩)
        refine ⟨rfl, .bool false, True, fun Γ H hΓ hH => ?_, ?_⟩
        · subst hH
          exact st_mv (hΓ 9 (by decide) _ rfl) (VO.nil ⟨rfl, rfl, trivial⟩)
        refine ⟨rfl, undef, True, fun Γ H hΓ hH => ?_, ?_⟩
        · subst hH
          exact st_gf (hΓ 10 (by decide) _ rfl) rfl (VO.nil ⟨rfl, rfl, trivial⟩)
        refine ⟨rfl, undef, True, fun Γ H hΓ hH => ?_, ?_⟩
        · subst hH
          exact st_gf (hΓ 10 (by decide) _ rfl) rfl (VO.nil ⟨rfl, rfl, trivial⟩)
        refine ⟨rfl, undef, True, fun Γ H hΓ hH => ?_, ?_⟩
        · subst hH
          exact st_gf (hΓ 10 (by decide) _ rfl) rfl (VO.nil ⟨rfl, rfl, trivial⟩)
        refine ⟨rfl, .bool false, True, fun Γ H hΓ hH => ?_, ?_⟩
        · subst hH
          exact st_pick_f (hΓ 10 (by decide) _ rfl) rfl (VO.nil ⟨rfl, rfl, trivial⟩)
        refine ⟨rfl, .bool false, True, fun Γ H hΓ hH => ?_, ?_⟩
        · subst hH
          exact st_mv (hΓ 14 (by decide) _ rfl) (VO.nil ⟨rfl, rfl, trivial⟩)
        refine ⟨rfl, undef, True, fun Γ H hΓ hH => ?_, ?_⟩
        · subst hH
          exact st_gf (hΓ 15 (by decide) _ rfl) rfl (VO.nil ⟨rfl, rfl, trivial⟩)
        refine ⟨rfl, undef, True, fun Γ H hΓ hH => ?_, ?_⟩
        · subst hH
          exact st_gf (hΓ 15 (by decide) _ rfl) rfl (VO.nil ⟨rfl, rfl, trivial⟩)
        refine ⟨rfl, undef, True, fun Γ H hΓ hH => ?_, ?_⟩
        · subst hH
          exact st_gf (hΓ 15 (by decide) _ rfl) rfl (VO.nil ⟨rfl, rfl, trivial⟩)
        refine ⟨rfl, .bool false, True, fun Γ H hΓ hH => ?_, ?_⟩
        · subst hH
          exact st_pick_f (hΓ 15 (by decide) _ rfl) rfl (VO.nil ⟨rfl, rfl, trivial⟩)
        refine ⟨rfl, .tuple #[], False, fun Γ H hΓ hH => ?_, ?_⟩
        · subst hH
          refine st_callZ (must_spec false) (by simp only [V.evs, V.ev, hΓ 19 (by decide) _ rfl]) Spl.nil (fun v Post hv => absurd hv.1 (by decide)) (fun ch Post hz => ?_)
          obtain ⟨_, rfl, rfl⟩ := hz
          exact ⟨rfl, by simp only [List.nil_append]; exact Imp.refl _⟩
        exact fun hh => by simp at hh
      rcases List.mem_cons.1 hrs with rfl | hrs
      · skip
        refine ⟨rfl, .pointer (some ⟨q, 0, none⟩), True, fun Γ H hΓ hH => ?_, ?_⟩
        · subst hH
          exact st_fld (hΓ 1 (by decide) _ rfl) rfl (VO.nil ⟨rfl, rfl, trivial⟩)
        refine ⟨rfl, .string sel, True, fun Γ H hΓ hH => ?_, ?_⟩
        · subst hH
          exact st_load1 (hΓ 3 (by decide) _ rfl) (by (focus ((repeat (first | (apply Has.cells; omega; rfl) | apply Has.there)); done))) (VO.nil ⟨rfl, rfl, trivial⟩)
        refine ⟨rfl, .pointer (some ⟨q, 1, none⟩), True, fun Γ H hΓ hH => ?_, ?_⟩
        · subst hH
          exact st_fld (hΓ 1 (by decide) _ rfl) rfl (VO.nil ⟨rfl, rfl, trivial⟩)
        refine ⟨rfl, .slice aa args.length ac, True, fun Γ H hΓ hH => ?_, ?_⟩
        · subst hH
          exact st_load1 (hΓ 6 (by decide) _ rfl) (by (focus ((repeat (first | (apply Has.cells; omega; rfl) | apply Has.there)); done))) (VO.nil ⟨rfl, rfl, trivial⟩)
        refine ⟨rfl, vi (arityS sel), True, fun Γ H hΓ hH => ?_, ?_⟩
        · subst hH
          exact st_callP (arity_spec sel hsel) (by simp only [V.evs, V.ev, hΓ 4 (by decide) _ rfl]) (VO.nil ⟨rfl, rfl, trivial⟩)
        refine ⟨rfl, vi args.length, True, fun Γ H hΓ hH => ?_, ?_⟩
        · subst hH
          exact st_lenI (hΓ 7 (by decide) _ rfl) (VO.nil ⟨rfl, rfl, trivial⟩)
        refine ⟨rfl, .bool false, True, fun Γ H hΓ hH => ?_, ?_⟩
        · subst hH
          exact st_eqI (hΓ 5 (by decide) _ rfl) (hΓ 8 (by decide) _ rfl) (by simp only [hb1]) (VO.nil ⟨rfl, rfl, trivial⟩)
        refine ⟨rfl, .bool false, True, fun Γ H hΓ hH => ?_, ?_⟩
        · subst hH
          exact st_mv (hΓ 9 (by decide) _ rfl) (VO.nil ⟨rfl, rfl, trivial⟩)
        refine ⟨rfl, undef, True, fun Γ H hΓ hH => ?_, ?_⟩
        · subst hH
          exact st_gf (hΓ 10 (by decide) _ rfl) rfl (VO.nil ⟨rfl, rfl, trivial⟩)
        refine ⟨rfl, undef, True, fun Γ H hΓ hH => ?_, ?_⟩
        · subst hH
          exact st_gf (hΓ 10 (by decide) _ rfl) rfl (VO.nil ⟨rfl, rfl, trivial⟩)
        refine ⟨rfl, undef, True, fun Γ H hΓ hH => ?_, ?_⟩
        · subst hH
          exact st_gf (hΓ 10 (by decide) _ rfl) rfl (VO.nil ⟨rfl, rfl, trivial⟩)
        refine ⟨rfl, .bool false, True, fun Γ H hΓ hH => ?_, ?_⟩
        · subst hH
          exact st_pick_f (hΓ 10 (by decide) _ rfl) rfl (VO.nil ⟨rfl, rfl, trivial⟩)
        refine ⟨rfl, .bool false, True, fun Γ H hΓ hH => ?_, ?_⟩
        · subst hH
          exact st_mv (hΓ 14 (by decide) _ rfl) (VO.nil ⟨rfl, rfl, trivial⟩)
        refine ⟨rfl, undef, True, fun Γ H hΓ hH => ?_, ?_⟩
        · subst hH
          exact st_gf (hΓ 15 (by decide) _ rfl) rfl (VO.nil ⟨rfl, rfl, trivial⟩)
        refine ⟨rfl, undef, True, fun Γ H hΓ hH => ?_, ?_⟩
        · subst hH
          exact st_gf (hΓ 15 (by decide) _ rfl) rfl (VO.nil ⟨rfl, rfl, trivial⟩)
        refine ⟨rfl, undef, True, fun Γ H hΓ hH => ?_, ?_⟩
        · subst hH
          exact st_gf (hΓ 15 (by decide) _ rfl) rfl (VO.nil ⟨rfl, rfl, trivial⟩)
        refine ⟨rfl, .bool false, True, fun Γ H hΓ hH => ?_, ?_⟩
        · subst hH
          exact st_pick_f (hΓ 15 (by decide) _ rfl) rfl (VO.nil ⟨rfl, rfl, trivial⟩)
        refine ⟨rfl, .tuple #[], False, fun Γ H hΓ hH => ?_, ?_⟩
        · subst hH
          refine st_callZ (must_spec false) (by simp only [V.evs, V.ev, hΓ 19 (by decide) _ rfl]) Spl.nil (fun v Post hv => absurd hv.1 (by decide)) (fun ch Post hz => ?_)
          obtain ⟨_, rfl, rfl⟩ := hz
          exact ⟨rfl, by simp only [List.nil_append]; exact Imp.refl _⟩
        exact fun hh => by simp at hh
      · cases hrs
    · obtain ⟨rfl, hi⟩ := hp
      exact ⟨[lkA lb false false, A], Imp.cut hi (by exact IMx), rfl, false, false, [A], rfl, hnone, rfl⟩
  have hb1 : decide (arityS sel = (args.length : Int)) = true := decide_eq_true h1
  by_cases h2 : 0 ≤ prim
  rotate_left
  · have hnone : RR = none := by simp [hRR, mustR, h2]
    have hb2 : decide (0 ≤ prim) = false := decide_eq_false h2
    refine VC.seq (VC.drawZ (fun ch H' => ch = wrongCh ∧ Imp H' [lkA lb false false, A, cellsAt q 0 [.string sel, .slice aa args.length ac, .slice ta temps.length tc, vi prim, .slice a body.length c]]) (fun H' => H' = [lkA lb false false, A, cellsAt q 0 [.string sel, .slice aa args.length ac, .slice ta temps.length tc, vi prim, .slice a body.length c]]) rfl ?_ (fun ch H' hp => ?_))
    · skip
      intro rs hrs
      rcases List.mem_cons.1 hrs with rfl | hrs
      · skip
        refine ⟨rfl, .pointer (some ⟨q, 0, none⟩), True, fun Γ H hΓ hH => ?_, ?_⟩
        · subst hH
          exact st_fld (hΓ 1 (by decide) _ rfl) rfl (VO.nil ⟨rfl, rfl, trivial⟩)
        refine ⟨rfl, .string sel, True, fun Γ H hΓ hH => ?_, ?_⟩
        · subst hH
          exact st_load1 (hΓ 3 (by decide) _ rfl) (by (focus ((repeat (first | (apply Has.cells; omega; rfl) | apply Has.there)); done))) (VO.nil ⟨rfl, rfl, trivial⟩)
        refine ⟨rfl, vi (arityS sel), True, fun Γ H hΓ hH => ?_, ?_⟩
        · subst hH
          exact st_callP (arity_spec sel hsel) (by simp only [V.evs, V.ev, hΓ 4 (by decide) _ rfl]) (VO.nil ⟨rfl, rfl, trivial⟩)
        refine ⟨rfl, .pointer (some ⟨q, 1, none⟩), True, fun Γ H hΓ hH => ?_, ?_⟩
        · subst hH
          exact st_fld (hΓ 1 (by decide) _ rfl) rfl (VO.nil ⟨rfl, rfl, trivial⟩)
        refine ⟨rfl, .slice aa args.length ac, True, fun Γ H hΓ hH => ?_, ?_⟩
        · subst hH
          exact st_load1 (hΓ 6 (by decide) _ rfl) (by (focus ((repeat (first | (apply Has.cells; omega; rfl) | apply Has.there)); done))) (VO.nil ⟨rfl, rfl, trivial⟩)
        refine ⟨rfl, vi args.length, True, fun Γ H hΓ hH => ?_, ?_⟩
        · subst hH
          exact st_lenI (hΓ 7 (by decide) _ rfl) (VO.nil ⟨rfl, rfl, trivial⟩)
        refine ⟨rfl, .bool true, True, fun Γ H hΓ hH => ?_, ?_⟩
        · subst hH
          exact st_eqI (hΓ 5 (by decide) _ rfl) (hΓ 8 (by decide) _ rfl) (by simp only [hb1]) (VO.nil ⟨rfl, rfl, trivial⟩)
        refine ⟨rfl, .bool true, True, fun Γ H hΓ hH => ?_, ?_⟩
        · subst hH
          exact st_mv (hΓ 9 (by decide) _ rfl) (VO.nil ⟨rfl, rfl, trivial⟩)
        refine ⟨rfl, .pointer (some ⟨q, 3, none⟩), True, fun Γ H hΓ hH => ?_, ?_⟩
        · subst hH
          exact st_gt (hΓ 10 (by decide) _ rfl) (st_fld (hΓ 1 (by decide) _ rfl) rfl (VO.nil ⟨rfl, rfl, trivial⟩))
        refine ⟨rfl, vi prim, True, fun Γ H hΓ hH => ?_, ?_⟩
        · subst hH
          exact st_gt (hΓ 10 (by decide) _ rfl) (st_load1 (hΓ 11 (by decide) _ rfl) (by (focus ((repeat (first | (apply Has.cells; omega; rfl) | apply Has.there)); done))) (VO.nil ⟨rfl, rfl, trivial⟩))
        refine ⟨rfl, .bool false, True, fun Γ H hΓ hH => ?_, ?_⟩
        · subst hH
          exact st_gt (hΓ 10 (by decide) _ rfl) (st_leI rfl (hΓ 12 (by decide) _ rfl) (by simp only [hb2]) (VO.nil ⟨rfl, rfl, trivial⟩))
        refine ⟨rfl, .bool false, True, fun Γ H hΓ hH => ?_, ?_⟩
        · subst hH
          exact st_pick_t (hΓ 10 (by decide) _ rfl) (hΓ 13 (by decide) _ rfl) (VO.nil ⟨rfl, rfl, trivial⟩)
        refine ⟨rfl, .bool false, True, fun Γ H hΓ hH => ?_, ?_⟩
        · subst hH
          exact st_mv (hΓ 14 (by decide) _ rfl) (VO.nil ⟨rfl, rfl, trivial⟩)
        refine ⟨rfl, undef, True, fun Γ H hΓ hH => ?_, ?_⟩
        · subst hH
          exact st_gf (hΓ 15 (by decide) _ rfl) rfl (VO.nil ⟨rfl, rfl, trivial⟩)
        refine ⟨rfl, undef, True, fun Γ H hΓ hH => ?_, ?_⟩
        · subst hH
          exact st_gf (hΓ 15 (by decide) _ rfl) rfl (VO.nil ⟨rfl, rfl, trivial⟩)
        refine ⟨rfl, undef, True, fun Γ H hΓ hH => ?_, ?_⟩
        · subst hH
          exact st_gf (hΓ 15 (by decide) _ rfl) rfl (VO.nil ⟨rfl, rfl, trivial⟩)
        refine ⟨rfl, .bool false, True, fun Γ H hΓ hH => ?_, ?_⟩
        · subst hH
          exact st_pick_f (hΓ 15 (by decide) _ rfl) rfl (VO.nil ⟨rfl, rfl, trivial⟩)
        refine ⟨rfl, .tuple #[], False, fun Γ H hΓ hH => ?_, ?_⟩
        · subst hH
          refine st_callZ (must_spec false) (by simp only [V.evs, V.ev, hΓ 19 (by decide) _ rfl]) Spl.nil (fun v Post hv => absurd hv.1 (by decide)) (fun ch Post hz => ?_)
          obtain ⟨_, rfl, rfl⟩ := hz
          exact ⟨rfl, by simp only [List.nil_append]; exact Imp.refl _⟩
        exact fun hh => by simp at hh
      rcases List.mem_cons.1 hrs with rfl | hrs
      · skip
        refine ⟨rfl, .pointer (some ⟨q, 0, none⟩), True, fun Γ H hΓ hH => ?_, ?_⟩
        · subst hH
          exact st_fld (hΓ 1 (by decide) _ rfl) rfl (VO.nil ⟨rfl, rfl, trivial⟩)
        refine ⟨rfl, .string sel, True, fun Γ H hΓ hH => ?_, ?_⟩
        · subst hH
          exact st_load1 (hΓ 3 (by decide) _ rfl) (by (focus ((repeat (first | (apply Has.cells; omega; rfl) | apply Has.there)); done))) (VO.nil ⟨rfl, rfl, trivial⟩)
        refine ⟨rfl, .pointer (some ⟨q, 1, none⟩), True, fun Γ H hΓ hH => ?_, ?_⟩
        · subst hH
          exact st_fld (hΓ 1 (by decide) _ rfl) rfl (VO.nil ⟨rfl, rfl, trivial⟩)
        refine ⟨rfl, .slice aa args.length ac, True, fun Γ H hΓ hH => ?_, ?_⟩
        · subst hH
          exact st_load1 (hΓ 6 (by decide) _ rfl) (by (focus ((repeat (first | (apply Has.cells; omega; rfl) | apply Has.there)); done))) (VO.nil ⟨rfl, rfl, trivial⟩)
        refine ⟨rfl, vi (arityS sel), True, fun Γ H hΓ hH => ?_, ?_⟩
        · subst hH
          exact st_callP (arity_spec sel hsel) (by simp only [V.evs, V.ev, hΓ 4 (by decide) _ rfl]) (VO.nil ⟨rfl, rfl, trivial⟩)
        refine ⟨rfl, vi args.length, True, fun Γ H hΓ hH => ?_, ?_⟩
        · subst hH
          exact st_lenI (hΓ 7 (by decide) _ rfl) (VO.nil ⟨rfl, rfl, trivial⟩)
        refine ⟨rfl, .bool true, True, fun Γ H hΓ hH => ?_, ?_⟩
        · subst hH
          exact st_eqI (hΓ 5 (by decide) _ rfl) (hΓ 8 (by decide) _ rfl) (by simp only [hb1]) (VO.nil ⟨rfl, rfl, trivial⟩)
        refine ⟨rfl, .bool true, True, fun Γ H hΓ hH => ?_, ?_⟩
        · subst hH
          exact st_mv (hΓ 9 (by decide) _ rfl) (VO.nil ⟨rfl, rfl, trivial⟩)
        refine ⟨rfl, .pointer (some ⟨q, 3, none⟩), True, fun Γ H hΓ hH => ?_, ?_⟩
        · subst hH
          exact st_gt (hΓ 10 (by decide) _ rfl) (st_fld (hΓ 1 (by decide) _ rfl) rfl (VO.nil ⟨rfl, rfl, trivial⟩))
        refine ⟨rfl, vi prim, True, fun Γ H hΓ hH => ?_, ?_⟩
        · subst hH
          exact st_gt (hΓ 10 (by decide) _ rfl) (st_load1 (hΓ 11 (by decide) _ rfl) (by (focus ((repeat (first | (apply Has.cells; omega; rfl) | apply Has.there)); done))) (VO.nil ⟨rfl, rfl, trivial⟩))
        refine ⟨rfl, .bool false, True, fun Γ H hΓ hH => ?_, ?_⟩
        · subst hH
          exact st_gt (hΓ 10 (by decide) _ rfl) (st_leI rfl (hΓ 12 (by decide) _ rfl) (by simp only [hb2]) (VO.nil ⟨rfl, rfl, trivial⟩))
        refine ⟨rfl, .bool false, True, fun Γ H hΓ hH => ?_, ?_⟩
        · subst hH
          exact st_pick_t (hΓ 10 (by decide) _ rfl) (hΓ 13 (by decide) _ rfl) (VO.nil ⟨rfl, rfl, trivial⟩)
        refine ⟨rfl, .bool false, True, fun Γ H hΓ hH => ?_, ?_⟩
        · subst hH
          exact st_mv (hΓ 14 (by decide) _ rfl) (VO.nil ⟨rfl, rfl, trivial⟩)
        refine ⟨rfl, undef, True, fun Γ H hΓ hH => ?_, ?_⟩
        · subst hH
          exact st_gf (hΓ 15 (by decide) _ rfl) rfl (VO.nil ⟨rfl, rfl, trivial⟩)
        refine ⟨rfl, undef, True, fun Γ H hΓ hH => ?_, ?_⟩
        · subst hH
          exact st_gf (hΓ 15 (by decide) _ rfl) rfl (VO.nil ⟨rfl, rfl, trivial⟩)
        refine ⟨rfl, undef, True, fun Γ H hΓ hH => ?_, ?_⟩
        · subst hH
          exact st_gf (hΓ 15 (by decide) _ rfl) rfl (VO.nil ⟨rfl, rfl, trivial⟩)
        refine ⟨rfl, .bool false, True, fun Γ H hΓ hH => ?_, ?_⟩
        · subst hH
          exact st_pick_f (hΓ 15 (by decide) _ rfl) rfl (VO.nil ⟨rfl, rfl, trivial⟩)
        refine ⟨rfl, .tuple #[], False, fun Γ H hΓ hH => ?_, ?_⟩
        · subst hH
          refine st_callZ (must_spec false) (by simp only [V.evs, V.ev, hΓ 19 (by decide) _ rfl]) Spl.nil (fun v Post hv => absurd hv.1 (by decide)) (fun ch Post hz => ?_)
          obtain ⟨_, rfl, rfl⟩ := hz
          exact ⟨rfl, by simp only [List.nil_append]; exact Imp.refl _⟩
        exact fun hh => by simp at hh
      · cases hrs
    · obtain ⟨rfl, hi⟩ := hp
      exact ⟨[lkA lb false false, A], Imp.cut hi (by exact IMx), rfl, false, false, [A], rfl, hnone, rfl⟩
  have hb2 : decide (0 ≤ prim) = true := decide_eq_true h2
  by_cases h3 : prim ≤ 255
  rotate_left
  · have hnone : RR = none := by simp [hRR, mustR, h3]
    have hb3 : decide (prim ≤ 255) = false := decide_eq_false h3
    refine VC.seq (VC.drawZ (fun ch H' => ch = wrongCh ∧ Imp H' [lkA lb false false, A, cellsAt q 0 [.string sel, .slice aa args.length ac, .slice ta temps.length tc, vi prim, .slice a body.length c]]) (fun H' => H' = [lkA lb false false, A, cellsAt q 0 [.string sel, .slice aa args.length ac, .slice ta temps.length tc, vi prim, .slice a body.length c]]) rfl ?_ (fun ch H' hp => ?_))
    · skip
      intro rs hrs
      rcases List.mem_cons.1 hrs with rfl | hrs
      · skip
        refine ⟨rfl, .pointer (some ⟨q, 0, none⟩), True, fun Γ H hΓ hH => ?_, ?_⟩
        · subst hH
          exact st_fld (hΓ 1 (by decide) _ rfl) rfl (VO.nil ⟨rfl, rfl, trivial⟩)
        refine ⟨rfl, .string sel, True, fun Γ H hΓ hH => ?_, ?_⟩
        · subst hH
          exact st_load1 (hΓ 3 (by decide) _ rfl) (by (focus ((repeat (first | (apply Has.cells; omega; rfl) | apply Has.there)); done))) (VO.nil ⟨rfl, rfl, trivial⟩)
        refine ⟨rfl, vi (arityS sel), True, fun Γ H hΓ hH => ?_, ?_⟩
        · subst hH
          exact st_callP (arity_spec sel hsel) (by simp only [V.evs, V.ev, hΓ 4 (by decide) _ rfl]) (VO.nil ⟨rfl, rfl, trivial⟩)
        refine ⟨rfl, .pointer (some ⟨q, 1, none⟩), True, fun Γ H hΓ hH => ?_, ?_⟩
        · subst hH
          exact st_fld (hΓ 1 (by decide) _ rfl) rfl (VO.nil ⟨rfl, rfl, trivial⟩)
        refine ⟨rfl, .slice aa args.length ac, True, fun Γ H hΓ hH => ?_, ?_⟩
        · subst hH
          exact st_load1 (hΓ 6 (by decide) _ rfl) (by (focus ((repeat (first | (apply Has.cells; omega; rfl) | apply Has.there)); done))) (VO.nil ⟨rfl, rfl, trivial⟩)
        refine ⟨rfl, vi args.length, True, fun Γ H hΓ hH => ?_, ?_⟩
        · subst hH
          exact st_lenI (hΓ 7 (by decide) _ rfl) (VO.nil ⟨rfl, rfl, trivial⟩)
        refine ⟨rfl, .bool true, True, fun Γ H hΓ hH => ?_, ?_⟩
        · subst hH
          exact st_eqI (hΓ 5 (by decide) _ rfl) (hΓ 8 (by decide) _ rfl) (by simp only [hb1]) (VO.nil ⟨rfl, rfl, trivial⟩)
        refine ⟨rfl, .bool true, True, fun Γ H hΓ hH => ?_, ?_⟩
        · subst hH
          exact st_mv (hΓ 9 (by decide) _ rfl) (VO.nil ⟨rfl, rfl, trivial⟩)
        refine ⟨rfl, .pointer (some ⟨q, 3, none⟩), True, fun Γ H hΓ hH => ?_, ?_⟩
        · subst hH
          exact st_gt (hΓ 10 (by decide) _ rfl) (st_fld (hΓ 1 (by decide) _ rfl) rfl (VO.nil ⟨rfl, rfl, trivial⟩))
        refine ⟨rfl, vi prim, True, fun Γ H hΓ hH => ?_, ?_⟩
        · subst hH
          exact st_gt (hΓ 10 (by decide) _ rfl) (st_load1 (hΓ 11 (by decide) _ rfl) (by (focus ((repeat (first | (apply Has.cells; omega; rfl) | apply Has.there)); done))) (VO.nil ⟨rfl, rfl, trivial⟩))
        refine ⟨rfl, .bool true, True, fun Γ H hΓ hH => ?_, ?_⟩
        · subst hH
          exact st_gt (hΓ 10 (by decide) _ rfl) (st_leI rfl (hΓ 12 (by decide) _ rfl) (by simp only [hb2]) (VO.nil ⟨rfl, rfl, trivial⟩))
        refine ⟨rfl, .bool true, True, fun Γ H hΓ hH => ?_, ?_⟩
        · subst hH
          exact st_pick_t (hΓ 10 (by decide) _ rfl) (hΓ 13 (by decide) _ rfl) (VO.nil ⟨rfl, rfl, trivial⟩)
        refine ⟨rfl, .bool true, True, fun Γ H hΓ hH => ?_, ?_⟩
        · subst hH
          exact st_mv (hΓ 14 (by decide) _ rfl) (VO.nil ⟨rfl, rfl, trivial⟩)
        refine ⟨rfl, .pointer (some ⟨q, 3, none⟩), True, fun Γ H hΓ hH => ?_, ?_⟩
        · subst hH
          exact st_gt (hΓ 15 (by decide) _ rfl) (st_fld (hΓ 1 (by decide) _ rfl) rfl (VO.nil ⟨rfl, rfl, trivial⟩))
        refine ⟨rfl, vi prim, True, fun Γ H hΓ hH => ?_, ?_⟩
        · subst hH
          exact st_gt (hΓ 15 (by decide) _ rfl) (st_load1 (hΓ 16 (by decide) _ rfl) (by (focus ((repeat (first | (apply Has.cells; omega; rfl) | apply Has.there)); done))) (VO.nil ⟨rfl, rfl, trivial⟩))
        refine ⟨rfl, .bool false, True, fun Γ H hΓ hH => ?_, ?_⟩
        · subst hH
          exact st_gt (hΓ 15 (by decide) _ rfl) (st_leI (hΓ 17 (by decide) _ rfl) rfl (by simp only [hb3]) (VO.nil ⟨rfl, rfl, trivial⟩))
        refine ⟨rfl, .bool false, True, fun Γ H hΓ hH => ?_, ?_⟩
        · subst hH
          exact st_pick_t (hΓ 15 (by decide) _ rfl) (hΓ 18 (by decide) _ rfl) (VO.nil ⟨rfl, rfl, trivial⟩)
        refine ⟨rfl, .tuple #[], False, fun Γ H hΓ hH => ?_, ?_⟩
        · subst hH
          refine st_callZ (must_spec false) (by simp only [V.evs, V.ev, hΓ 19 (by decide) _ rfl]) Spl.nil (fun v Post hv => absurd hv.1 (by decide)) (fun ch Post hz => ?_)
          obtain ⟨_, rfl, rfl⟩ := hz
          exact ⟨rfl, by simp only [List.nil_append]; exact Imp.refl _⟩
        exact fun hh => by simp at hh
      rcases List.mem_cons.1 hrs with rfl | hrs
      · skip
        refine ⟨rfl, .pointer (some ⟨q, 0, none⟩), True, fun Γ H hΓ hH => ?_, ?_⟩
        · subst hH
          exact st_fld (hΓ 1 (by decide) _ rfl) rfl (VO.nil ⟨rfl, rfl, trivial⟩)
        refine ⟨rfl, .string sel, True, fun Γ H hΓ hH => ?_, ?_⟩
        · subst hH
          exact st_load1 (hΓ 3 (by decide) _ rfl) (by (focus ((repeat (first | (apply Has.cells; omega; rfl) | apply Has.there)); done))) (VO.nil ⟨rfl, rfl, trivial⟩)
        refine ⟨rfl, .pointer (some ⟨q, 1, none⟩), True, fun Γ H hΓ hH => ?_, ?_⟩
        · subst hH
          exact st_fld (hΓ 1 (by decide) _ rfl) rfl (VO.nil ⟨rfl, rfl, trivial⟩)
        refine ⟨rfl, .slice aa args.length ac, True, fun Γ H hΓ hH => ?_, ?_⟩
        · subst hH
          exact st_load1 (hΓ 6 (by decide) _ rfl) (by (focus ((repeat (first | (apply Has.cells; omega; rfl) | apply Has.there)); done))) (VO.nil ⟨rfl, rfl, trivial⟩)
        refine ⟨rfl, vi (arityS sel), True, fun Γ H hΓ hH => ?_, ?_⟩
        · subst hH
          exact st_callP (arity_spec sel hsel) (by simp only [V.evs, V.ev, hΓ 4 (by decide) _ rfl]) (VO.nil ⟨rfl, rfl, trivial⟩)
        refine ⟨rfl, vi args.length, True, fun Γ H hΓ hH => ?_, ?_⟩
        · subst hH
          exact st_lenI (hΓ 7 (by decide) _ rfl) (VO.nil ⟨rfl, rfl, trivial⟩)
        refine ⟨rfl, .bool true, True, fun Γ H hΓ hH => ?_, ?_⟩
        · subst hH
          exact st_eqI (hΓ 5 (by decide) _ rfl) (hΓ 8 (by decide) _ rfl) (by simp only [hb1]) (VO.nil ⟨rfl, rfl, trivial⟩)
        refine ⟨rfl, .bool true, True, fun Γ H hΓ hH => ?_, ?_⟩
        · subst hH
          exact st_mv (hΓ 9 (by decide) _ rfl) (VO.nil ⟨rfl, rfl, trivial⟩)
        refine ⟨rfl, .pointer (some ⟨q, 3, none⟩), True, fun Γ H hΓ hH => ?_, ?_⟩
        · subst hH
          exact st_gt (hΓ 10 (by decide) _ rfl) (st_fld (hΓ 1 (by decide) _ rfl) rfl (VO.nil ⟨rfl, rfl, trivial⟩))
        refine ⟨rfl, vi prim, True, fun Γ H hΓ hH => ?_, ?_⟩
        · subst hH
          exact st_gt (hΓ 10 (by decide) _ rfl) (st_load1 (hΓ 11 (by decide) _ rfl) (by (focus ((repeat (first | (apply Has.cells; omega; rfl) | apply Has.there)); done))) (VO.nil ⟨rfl, rfl, trivial⟩))
        refine ⟨rfl, .bool true, True, fun Γ H hΓ hH => ?_, ?_⟩
        · subst hH
          exact st_gt (hΓ 10 (by decide) _ rfl) (st_leI rfl (hΓ 12 (by decide) _ rfl) (by simp only [hb2]) (VO.nil ⟨rfl, rfl, trivial⟩))
        refine ⟨rfl, .bool true, True, fun Γ H hΓ hH => ?_, ?_⟩
        · subst hH
          exact st_pick_t (hΓ 10 (by decide) _ rfl) (hΓ 13 (by decide) _ rfl) (VO.nil ⟨rfl, rfl, trivial⟩)
        refine ⟨rfl, .bool true, True, fun Γ H hΓ hH => ?_, ?_⟩
        · subst hH
          exact st_mv (hΓ 14 (by decide) _ rfl) (VO.nil ⟨rfl, rfl, trivial⟩)
        refine ⟨rfl, .pointer (some ⟨q, 3, none⟩), True, fun Γ H hΓ hH => ?_, ?_⟩
        · subst hH
          exact st_gt (hΓ 15 (by decide) _ rfl) (st_fld (hΓ 1 (by decide) _ rfl) rfl (VO.nil ⟨rfl, rfl, trivial⟩))
        refine ⟨rfl, vi prim, True, fun Γ H hΓ hH => ?_, ?_⟩
        · subst hH
          exact st_gt (hΓ 15 (by decide) _ rfl) (st_load1 (hΓ 16 (by decide) _ rfl) (by (focus ((repeat (first | (apply Has.cells; omega; rfl) | apply Has.there)); done))) (VO.nil ⟨rfl, rfl, trivial⟩))
        refine ⟨rfl, .bool false, True, fun Γ H hΓ hH => ?_, ?_⟩
        · subst hH
          exact st_gt (hΓ 15 (by decide) _ rfl) (st_leI (hΓ 17 (by decide) _ rfl) rfl (by simp only [hb3]) (VO.nil ⟨rfl, rfl, trivial⟩))
        refine ⟨rfl, .bool false, True, fun Γ H hΓ hH => ?_, ?_⟩
        · subst hH
          exact st_pick_t (hΓ 15 (by decide) _ rfl) (hΓ 18 (by decide) _ rfl) (VO.nil ⟨rfl, rfl, trivial⟩)
        refine ⟨rfl, .tuple #[], False, fun Γ H hΓ hH => ?_, ?_⟩
        · subst hH
          refine st_callZ (must_spec false) (by simp only [V.evs, V.ev, hΓ 19 (by decide) _ rfl]) Spl.nil (fun v Post hv => absurd hv.1 (by decide)) (fun ch Post hz => ?_)
          obtain ⟨_, rfl, rfl⟩ := hz
          exact ⟨rfl, by simp only [List.nil_append]; exact Imp.refl _⟩
        exact fun hh => by simp at hh
      · cases hrs
    · obtain ⟨rfl, hi⟩ := hp
      exact ⟨[lkA lb false false, A], Imp.cut hi (by exact IMx), rfl, false, false, [A], rfl, hnone, rfl⟩
  have hb3 : decide (prim ≤ 255) = true := decide_eq_true h3
  have hm : RR = namesR 15 args (namesR 63 temps (maxR (stmtsR body (body.map nodeD)))) := by simp [hRR, mustR, h1, h2, h3]
  refine VC.seq (VC.draws ⟨?_, ?_, trivial⟩)
  · refine GOH ?_
    refine st_callP (arity_spec sel hsel) (by rfl) ?_
    refine GOH ?_
    rw [hb1]
    refine GOH ?_
    rw [hb2]
    refine GOH ?_
    rw [hb3]
    refine GOH ?_
    refine st_call ((must_spec true).mono (Z' := fun _ _ => False) (fun v Post h => h) (fun ch Post hz => absurd hz.1 (by decide))).fun (by rfl) (by exact SPx) (fun v Post hv => ?_)
    obtain ⟨_, rfl, rfl⟩ := hv
    simp only [List.nil_append]
    refine GOH ?_
    refine st_callZ (names_spec A _ args hav lb 15 false false) (by rfl) (by exact SPx) (fun v Post hv => ?_) (fun ch Post hz => ?_)
    rotate_left
    · obtain ⟨hb, rfl, m2, rfl⟩ := hz
      exact ⟨[lkA lb m2 false, A], by simp only [CNx]; exact IMx, rfl, m2, false, [A], rfl, by simp [hm, mustR, namesR, hb], rfl⟩
    obtain ⟨hf1, rfl, rfl⟩ := hv
    rw [Bool.false_or]
    obtain ⟨m1, hm1⟩ : ∃ m1, m1 = decide (15 < args.length) := ⟨_, rfl⟩
    rw [← hm1]
    simp only [CNx]
    refine GOH ?_
    refine st_callZ (names_spec A _ temps htv lb 63 m1 false) (by rfl) (by exact SPx) (fun v Post hv => ?_) (fun ch Post hz => ?_)
    rotate_left
    · obtain ⟨hb, rfl, m2, rfl⟩ := hz
      have hnone : RR = none := by
        simp only [hm, namesR, hb]
        simp [mustR, manyR]
      exact ⟨[lkA lb m2 false, A], by simp only [CNx]; exact IMx, rfl, m2, false, [A], rfl, hnone, rfl⟩
    obtain ⟨hf2, rfl, rfl⟩ := hv
    obtain ⟨m2, hm2⟩ : ∃ m2, m2 = (m1 || decide (63 < temps.length)) := ⟨_, rfl⟩
    rw [← hm2]
    simp only [CNx]
    refine GOH ?_
    refine st_callZ (statements_spec A body a c bk o us hkids lb m2 false) (by rfl) (by exact SPx) (fun v Post hv => ?_) (fun ch Post hz => ?_)
    rotate_left
    · obtain ⟨hb, rfl, m3, rfl⟩ := hz
      have hnone : RR = none := by
        simp only [hm, namesR, hb, manyR]
        simp [mustR]
      exact ⟨[lkA lb m3 false, A], by simp only [CNx]; exact IMx, rfl, m3, false, [A], rfl, hnone, rfl⟩
    obtain ⟨d, m3, he, rfl, rfl⟩ := hv
    simp only [CNx]
    refine GOH ?_
    refine endP_mk (endQ_mk (Post := [lkA lb (m2 || m3) (decide ((d : Int) > 40)), A]) (.inl rfl) .nil ⟨m2 || m3, _, [A], rfl, ⟨d, ?_, decide_eq_decide.2 (by omega)⟩, rfl⟩ (by exact IMx))
    simp only [hm, namesR, hf1, hf2, he, manyR, mustR, if_true, hm2, hm1, Bool.or_assoc]
  · refine GOH ?_
    refine st_callP (arity_spec sel hsel) (by rfl) ?_
    refine GOH ?_
    rw [hb1]
    refine GOH ?_
    rw [hb2]
    refine GOH ?_
    rw [hb3]
    refine GOH ?_
    refine st_call ((must_spec true).mono (Z' := fun _ _ => False) (fun v Post h => h) (fun ch Post hz => absurd hz.1 (by decide))).fun (by rfl) (by exact SPx) (fun v Post hv => ?_)
    obtain ⟨_, rfl, rfl⟩ := hv
    simp only [List.nil_append]
    refine GOH ?_
    refine st_callZ (names_spec A _ args hav lb 15 false false) (by rfl) (by exact SPx) (fun v Post hv => ?_) (fun ch Post hz => ?_)
    rotate_left
    · obtain ⟨hb, rfl, m2, rfl⟩ := hz
      exact ⟨[lkA lb m2 false, A], by simp only [CNx]; exact IMx, rfl, m2, false, [A], rfl, by simp [hm, mustR, namesR, hb], rfl⟩
    obtain ⟨hf1, rfl, rfl⟩ := hv
    rw [Bool.false_or]
    obtain ⟨m1, hm1⟩ : ∃ m1, m1 = decide (15 < args.length) := ⟨_, rfl⟩
    rw [← hm1]
    simp only [CNx]
    refine GOH ?_
    refine st_callZ (names_spec A _ temps htv lb 63 m1 false) (by rfl) (by exact SPx) (fun v Post hv => ?_) (fun ch Post hz => ?_)
    rotate_left
    · obtain ⟨hb, rfl, m2, rfl⟩ := hz
      have hnone : RR = none := by
        simp only [hm, namesR, hb]
        simp [mustR, manyR]
      exact ⟨[lkA lb m2 false, A], by simp only [CNx]; exact IMx, rfl, m2, false, [A], rfl, hnone, rfl⟩
    obtain ⟨hf2, rfl, rfl⟩ := hv
    obtain ⟨m2, hm2⟩ : ∃ m2, m2 = (m1 || decide (63 < temps.length)) := ⟨_, rfl⟩
    rw [← hm2]
    simp only [CNx]
    refine GOH ?_
    refine st_callZ (statements_spec A body a c bk o us hkids lb m2 false) (by rfl) (by exact SPx) (fun v Post hv => ?_) (fun ch Post hz => ?_)
    rotate_left
    · obtain ⟨hb, rfl, m3, rfl⟩ := hz
      have hnone : RR = none := by
        simp only [hm, namesR, hb, manyR]
        simp [mustR]
      exact ⟨[lkA lb m3 false, A], by simp only [CNx]; exact IMx, rfl, m3, false, [A], rfl, hnone, rfl⟩
    obtain ⟨d, m3, he, rfl, rfl⟩ := hv
    simp only [CNx]
    refine GOH ?_
    refine endP_mk (endQ_mk (Post := [lkA lb (m2 || m3) (decide ((d : Int) > 40)), A]) (.inl rfl) .nil ⟨m2 || m3, _, [A], rfl, ⟨d, ?_, decide_eq_decide.2 (by omega)⟩, rfl⟩ (by exact IMx))
    simp only [hm, namesR, hf1, hf2, he, manyR, mustR, if_true, hm2, hm1, Bool.or_assoc]
theorem Check_spec (A : List Atom) (x : Md) (vs : List Value) (h : MdRd A x vs) : Fun Tryz.prog 13 [.agg vs.toArray] [A] (fun v Post => v = vi (checkM x) ∧ Post = [A]) := by
  have h1 := check1_spec A x vs h
  obtain ⟨⟨aa, ac, ta, tc, a, c, bk, o, us, rfl, hav, htv, hkids⟩, hsel, hprim⟩ := h
  refine Fun.intro low13 (by simp [n13]) ?_
  refine GOH ?_
  refine st_box (by rfl) (fun q => ?_)
  simp only [Value.cells]
  refine GOH ?_
  refine st_call (caught_spec (.func (.func 46) #[] #[ptr0 q]) [A, cellsAt q 0 [.string x.sel, .slice aa x.args.length ac, .slice ta x.temps.length tc, vi x.prim, .slice a x.body.length c]]
    (fun m d Post' => (∃ dd, methodR x = some (dd, m) ∧ d = decide (40 < dd)) ∧ Post' = [A]) (fun Post' => methodR x = none ∧ Post' = [A]) (fun lb => FunVP.of_fun (first := #[]) (cap := #[ptr0 q]) (h1 q lb))) (by rfl) (by exact SPx) (fun v Post hv => ?_)
  have hfin : v = vi (checkM x) ∧ Post = [A] := by
    rcases hv with ⟨m, d, rfl, ⟨dd, e, rfl⟩, rfl⟩ | ⟨rfl, e, rfl⟩
    · refine ⟨?_, rfl⟩
      simp only [checkM, endE, e]
      cases m <;> simp <;> split <;> rfl
    · refine ⟨?_, rfl⟩
      simp only [checkM, endE, e]
      rfl
  obtain ⟨rfl, rfl⟩ := hfin
  simp only [CNx]
  refine GOH ?_
  exact endQ_mk (Post := [A]) (.inr rfl) (.tmp (by rfl) .nil) ⟨rfl, rfl⟩ (by exact IMx)
def F39 : FIR := laid (X := ⟨4, [.tmp 2],
 (qS [qB 1 48 0,qo 2 (.mv (.const Value.nilFunc))] [1]
 (qS [qo 3 (.clos (.func 82) [] [(.tmp 1)]),qm 2 3] [2]
 .ret))⟩)
theorem n39 : F39.n = 4 := rfl
theorem low39 : lowF Tryz.prog (kpO F39) (assoc []) 39 = some F39 := by kernel_rfl
def F82 : FIR := laid (X := ⟨8, [],
 (qS [qB 2 49 0] [1,2]
 (qS [qo 3 (.alloc 49 [Value.nilFunc])] [1,2,3]
 (qS [qo 4 (.clos (.func 83) [] [(.tmp 2), (.tmp 3)]),qs 1 3 4] [1,3]
 (.reg [ql 5 3,qN 6 11 1,qo 7 (.callv (.tmp 5) [(.tmp 6)])] []))))⟩)
theorem n82 : F82.n = 8 := rfl
theorem low82 : lowF Tryz.prog (kpO F82) (assoc []) 82 = some F82 := by kernel_rfl
def F83 : FIR := laid (X := ⟨23, [.tmp 4],
 (qS [qB 3 48 0,qz 4 false] [1,2,3]
 (.seq (qS [ql 7 1,qN 8 11 3,qo 9 (.callv (.tmp 7) [(.tmp 8)]),qo 10 (.un .not (.tmp 9))] [2,3,10]
 (qC 10 (qS [qz 4 false] [4]
 .ret)
 .skip))
 (.seq (qS [qf 11 9 3,ql 12 11,qL 13 12,qk 14 0] [2,12,13,14]
 (.block 0 (.loop (qS [qb 15 .lss 14 13] [2,12,13,14,15]
 (.seq (qC 15 .skip
 (.exit 0))
 (.seq (.block 1 (qS [qi 16 11 12 14,qN 17 11 16,
  qo 6 (.alloc 48 [(Value.int IntKind.u8 0), (Value.string ⟨#[]⟩), (Value.int IntKind.u8 0), (Value.int IntKind.i64 0), (Value.int IntKind.u64 0), (Value.string ⟨#[]⟩), (Value.slice none 0 0), (Value.slice none 0 0), (Value.slice none 0 0), (Value.slice none 0 0), (Value.int IntKind.i64 0)]),
  qs 11 6 17] [2,6,12,13,14]
 (qS [ql 18 2,qN 19 11 6,qo 20 (.callv (.tmp 18) [(.tmp 19)]),qo 21 (.un .not (.tmp 20))] [2,12,13,14,21]
 (qC 21 (qS [qz 4 false] [4]
 .ret)
 .skip))))
 (.reg [qc 22 .add 14 1,qm 14 22] [2,12,13,14])))))))
 (qS [qz 4 true] [4]
 .ret))))⟩)
theorem n83 : F83.n = 23 := rfl
theorem low83 : lowF Tryz.prog (kpO F83) (assoc []) 83 = some F83 := by kernel_rfl
def F27 : FIR := laid (X := ⟨10, [.tmp 2],
 (qS [qB 1 48 0,qk 2 0] [1]
 (qS [qo 3 (.alloc 3 [(Value.int IntKind.i64 0)]),⟨none,none,.store 1 (.tmp 3) (.const (Value.int IntKind.i64 0))⟩] [1,3]
 (.seq (qS [qN 4 11 1,qx 5 39 [4]] [3,5]
 (.block 0 (.rangef (.tmp 5) [6] .skip
 (.block 1 (.reg [ql 7 3,qc 8 .add 7 1,qs 1 3 8] [])))))
 (qS [ql 9 3,qm 2 9] [2]
 .ret))))⟩)
theorem n27 : F27.n = 10 := rfl
theorem low27 : lowF Tryz.prog (kpO F27) (assoc []) 27 = some F27 := by kernel_rfl
def F28 : FIR := laid (X := ⟨45, [.tmp 4],
 (qS [qB 2 48 0,qB 3 48 1,qz 4 false] [2,3]
 (qS [qf 5 0 2,ql 6 5,qf 7 0 3,ql 8 7,qb 9 .eql 6 8,qm 10 9,qt 10 (qf 11 1 2),qt 10 (ql 12 11),qt 10 (qf 13 1 3),qt 10 (ql 14 13),
  qt 10 (qb 15 .eql 12 14),qa 16 10 15,qm 17 16,qt 17 (qf 18 7 2),qt 17 (ql 19 18),qt 17 (qf 20 7 3),qt 17 (ql 21 20),qt 17 (qx 22 51 [19,21]),
  qa 23 17 22,qm 24 23,qt 24 (qf 25 8 2),qt 24 (ql 26 25),qt 24 (qf 27 8 3),qt 24 (ql 28 27),qt 24 (qx 29 51 [26,28]),qa 30 24 29,qm 31 30,
  qt 31 (qf 32 2 2),qt 31 (qN 33 5 32),qt 31 (qf 34 2 3),qt 31 (qN 35 5 34),qt 31 (qx 36 76 [33,35]),qa 37 31 36,qm 38 37,qt 38 (qf 39 9 2),
  qt 38 (ql 40 39),qt 38 (qf 41 9 3),qt 38 (ql 42 41),qt 38 (qo 43 (.call 52 [(.tmp 40), (.tmp 42), (.func 28)])),qa 44 38 43,qm 4 44] [4]
 .ret))⟩)
theorem n28 : F28.n = 45 := rfl
theorem low28 : lowF Tryz.prog (kpO F28) (assoc []) 28 = some F28 := by kernel_rfl
def F76 : FIR := laid (X := ⟨38, [.tmp 4],
 (qS [qB 2 46 0,qB 3 46 1,qz 4 false] [2,3]
 (qS [qf 5 0 2,ql 6 5,qf 7 0 3,ql 8 7,qb 9 .eql 6 8,qm 10 9,qt 10 (qf 11 1 2),qt 10 (ql 12 11),qt 10 (qf 13 1 3),qt 10 (ql 14 13),
  qt 10 (qb 15 .eql 12 14),qa 16 10 15,qm 17 16,qt 17 (qf 18 2 2),qt 17 (ql 19 18),qt 17 (qf 20 2 3),qt 17 (ql 21 20),qt 17 (qb 22 .eql 19 21),
  qa 23 17 22,qm 24 23,qt 24 (qf 25 3 2),qt 24 (ql 26 25),qt 24 (qf 27 3 3),qt 24 (ql 28 27),qt 24 (qb 29 .eql 26 28),qa 30 24 29,qm 31 30,
  qt 31 (qf 32 4 2),qt 31 (ql 33 32),qt 31 (qf 34 4 3),qt 31 (ql 35 34),qt 31 (qo 36 (.call 116 [(.tmp 33), (.tmp 35), (.func 76)])),qa 37 31 36,qm 4 37] [4]
 .ret))⟩)
theorem n76 : F76.n = 38 := rfl
theorem low76 : lowF Tryz.prog (kpO F76) (assoc []) 76 = some F76 := by kernel_rfl
def F51 : FIR := laid (X := ⟨26, [.tmp 4],
 (qS [qz 4 false] [0,1]
 (.seq (qS [qm 6 0,qL 7 6,qm 8 1,qL 9 8,qb 10 .neq 7 9] [0,1,10]
 (qC 10 (qS [qz 4 false] [4]
 .ret)
 .skip))
 (.seq (qS [qm 11 0,qL 12 11,qk 13 0] [0,1,12,13]
 (.block 0 (.loop (qS [qb 14 .lss 13 12] [0,1,12,13,14]
 (.seq (qC 14 .skip
 (.exit 0))
 (.seq (.block 1 (qS [qm 15 13,qm 5 15] [0,1,5,12,13]
 (.seq (qD [qm 16 0,qm 17 5,qi 18 1 16 17,ql 19 18,qm 20 1,qm 21 5,qi 22 1 20 21,ql 23 22,qb 24 .neq 19 23] [[0,1,2,3,4,5,6,7,8]] [0,1,12,13,24])
 (qC 24 (qS [qz 4 false] [4]
 .ret)
 .skip))))
 (.reg [qc 25 .add 13 1,qm 13 25] [0,1,12,13])))))))
 (qS [qz 4 true] [4]
 .ret))))⟩)
theorem n51 : F51.n = 26 := rfl
theorem low51 : lowF Tryz.prog (kpO F51) (assoc [(6,[[0,1,2,3,4,5,6,7,8]])]) 51 = some F51 := by kernel_rfl
def F52 : FIR := laid (X := ⟨32, [.tmp 6],
 (qS [qz 6 false] [0,1,2]
 (.seq (qS [qm 10 0,qL 11 10,qm 12 1,qL 13 12,qb 14 .neq 11 13] [0,1,2,14]
 (qC 14 (qS [qz 6 false] [6]
 .ret)
 .skip))
 (.seq (qS [qm 15 0,qL 16 15,qk 17 0] [1,2,15,16,17]
 (.block 0 (.loop (qS [qb 18 .lss 17 16] [1,2,15,16,17,18]
 (.seq (qC 18 .skip
 (.exit 0))
 (.seq (.block 1 (qS [qm 19 17,qi 20 11 15 17,qN 21 11 20,
  qo 8 (.alloc 48 [(Value.int IntKind.u8 0), (Value.string ⟨#[]⟩), (Value.int IntKind.u8 0), (Value.int IntKind.i64 0), (Value.int IntKind.u64 0), (Value.string ⟨#[]⟩), (Value.slice none 0 0), (Value.slice none 0 0), (Value.slice none 0 0), (Value.slice none 0 0), (Value.int IntKind.i64 0)]),
  qm 7 19,qs 11 8 21] [1,2,7,8,15,16,17]
 (qS [qm 22 1,qm 23 7,qi 24 11 22 23,qN 25 11 24,
  qo 9 (.alloc 48 [(Value.int IntKind.u8 0), (Value.string ⟨#[]⟩), (Value.int IntKind.u8 0), (Value.int IntKind.i64 0), (Value.int IntKind.u64 0), (Value.string ⟨#[]⟩), (Value.slice none 0 0), (Value.slice none 0 0), (Value.slice none 0 0), (Value.slice none 0 0), (Value.int IntKind.i64 0)]),
  qs 11 9 25] [1,2,8,9,15,16,17]
 (qS [qm 26 2,qN 27 11 8,qN 28 11 9,qo 29 (.callv (.tmp 26) [(.tmp 27), (.tmp 28)]),qo 30 (.un .not (.tmp 29))] [1,2,15,16,17,30]
 (qC 30 (qS [qz 6 false] [6]
 .ret)
 .skip)))))
 (.reg [qc 31 .add 17 1,qm 17 31] [1,2,15,16,17])))))))
 (qS [qz 6 true] [6]
 .ret))))⟩)
theorem n52 : F52.n = 32 := rfl
theorem low52 : lowF Tryz.prog (kpO F52) (assoc []) 52 = some F52 := by kernel_rfl
def F116 : FIR := laid (X := ⟨32, [.tmp 6],
 (qS [qz 6 false] [0,1,2]
 (.seq (qS [qm 10 0,qL 11 10,qm 12 1,qL 13 12,qb 14 .neq 11 13] [0,1,2,14]
 (qC 14 (qS [qz 6 false] [6]
 .ret)
 .skip))
 (.seq (qS [qm 15 0,qL 16 15,qk 17 0] [1,2,15,16,17]
 (.block 0 (.loop (qS [qb 18 .lss 17 16] [1,2,15,16,17,18]
 (.seq (qC 18 .skip
 (.exit 0))
 (.seq (.block 1 (qS [qm 19 17,qi 20 5 15 17,qN 21 5 20,
  qo 8 (.alloc 46 [(Value.int IntKind.u8 0), (Value.int IntKind.i64 0), (Value.int IntKind.u64 0), (Value.string ⟨#[]⟩), (Value.slice none 0 0)]),qm 7 19,
  qs 5 8 21] [1,2,7,8,15,16,17]
 (qS [qm 22 1,qm 23 7,qi 24 5 22 23,qN 25 5 24,
  qo 9 (.alloc 46 [(Value.int IntKind.u8 0), (Value.int IntKind.i64 0), (Value.int IntKind.u64 0), (Value.string ⟨#[]⟩), (Value.slice none 0 0)]),
  qs 5 9 25] [1,2,8,9,15,16,17]
 (qS [qm 26 2,qN 27 5 8,qN 28 5 9,qo 29 (.callv (.tmp 26) [(.tmp 27), (.tmp 28)]),qo 30 (.un .not (.tmp 29))] [1,2,15,16,17,30]
 (qC 30 (qS [qz 6 false] [6]
 .ret)
 .skip)))))
 (.reg [qc 31 .add 17 1,qm 17 31] [1,2,15,16,17])))))))
 (qS [qz 6 true] [6]
 .ret))))⟩)
theorem n116 : F116.n = 32 := rfl
theorem low116 : lowF Tryz.prog (kpO F116) (assoc []) 116 = some F116 := by kernel_rfl
def F14 : FIR := laid (X := ⟨38, [.tmp 4],
 (qS [qB 2 25 0,qB 3 25 1,qz 4 false] [2,3]
 (qS [qf 5 0 2,ql 6 5,qf 7 0 3,ql 8 7,qb 9 .eql 6 8,qm 10 9,qt 10 (qf 11 3 2),qt 10 (ql 12 11),qt 10 (qf 13 3 3),qt 10 (ql 14 13),
  qt 10 (qb 15 .eql 12 14),qa 16 10 15,qm 17 16,qt 17 (qf 18 1 2),qt 17 (ql 19 18),qt 17 (qf 20 1 3),qt 17 (ql 21 20),qt 17 (qx 22 51 [19,21]),
  qa 23 17 22,qm 24 23,qt 24 (qf 25 2 2),qt 24 (ql 26 25),qt 24 (qf 27 2 3),qt 24 (ql 28 27),qt 24 (qx 29 51 [26,28]),qa 30 24 29,qm 31 30,
  qt 31 (qf 32 4 2),qt 31 (ql 33 32),qt 31 (qf 34 4 3),qt 31 (ql 35 34),qt 31 (qo 36 (.call 52 [(.tmp 33), (.tmp 35), (.func 28)])),qa 37 31 36,qm 4 37] [4]
 .ret))⟩)
theorem n14 : F14.n = 38 := rfl
theorem low14 : lowF Tryz.prog (kpO F14) (assoc []) 14 = some F14 := by kernel_rfl
def F35 : FIR := laid (X := ⟨44, [.tmp 2],
 (qS [qB 1 25 0,qo 2 (.mv (.const (Value.slice none 0 0)))] [1]
 (qS [qo 3 (.alloc 22 [(Value.slice none 0 0)])] [1,3]
 (qS [qo 8 (.mkmap),qo 4 (.alloc 93 [(Value.map none)]),qs 1 4 8] [1,3,4]
 (.seq (qS [qf 9 4 1,ql 10 9,qL 11 10,qk 12 0] [3,4,10,11,12]
 (.block 0 (.loop (qS [qb 13 .lss 12 11] [3,4,10,11,12,13]
 (.seq (qC 13 .skip
 (.exit 0))
 (.seq (.block 1 (qS [qi 14 11 10 12,qN 15 11 14,
  qo 6 (.alloc 48 [(Value.int IntKind.u8 0), (Value.string ⟨#[]⟩), (Value.int IntKind.u8 0), (Value.int IntKind.i64 0), (Value.int IntKind.u64 0), (Value.string ⟨#[]⟩), (Value.slice none 0 0), (Value.slice none 0 0), (Value.slice none 0 0), (Value.slice none 0 0), (Value.int IntKind.i64 0)]),
  qs 11 6 15] [3,4,6,10,11,12]
 (qS [qN 16 11 6,qx 17 39 [16]] [3,4,10,11,12,17]
 (.block 2 (.rangef (.tmp 17) [18] (.reg [qo 7 (.alloc 48 [(Value.int IntKind.u8 0), (Value.string ⟨#[]⟩), (Value.int IntKind.u8 0), (Value.int IntKind.i64 0), (Value.int IntKind.u64 0), (Value.string ⟨#[]⟩), (Value.slice none 0 0), (Value.slice none 0 0), (Value.slice none 0 0), (Value.slice none 0 0), (Value.int IntKind.i64 0)]),
  qs 11 7 18] [3,4,7])
 (.block 3 (.seq (qS [qf 19 0 7,ql 20 19,qo 21 (.bin .neq (.tmp 20) (.const (Value.int IntKind.u8 4))),qm 22 21,qt 22 (qf 23 0 7),qt 22 (ql 24 23),
  qt 22 (qo 25 (.bin .neq (.tmp 24) (.const (Value.int IntKind.u8 6)))),qa 26 22 25] [3,4,7,26]
 (qC 26 (.exit 3)
 .skip))
 (qS [ql 27 4,qf 28 1 7,ql 29 28,qo 30 (.lookup .str (Value.int IntKind.i64 0) false (.tmp 27) (.tmp 29)),qc 31 .add 30 1,
  ⟨none,none,.mapupd .str (.tmp 27) (.tmp 29) (.tmp 31)⟩] [3,4,7]
 (qS [ql 32 4,qf 33 1 7,ql 34 33,qo 35 (.lookup .str (Value.int IntKind.i64 0) false (.tmp 32) (.tmp 34)),qc 36 .eql 35 1] [3,7,36]
 (qC 36 (.reg [ql 37 3,qf 38 1 7,ql 39 38,qo 40 (.bslice 9 1 [(Value.string ⟨#[]⟩)] [(0, 1, (.tmp 39))]),
  qo 41 (.append 9 1 16 [(Value.string ⟨#[]⟩)] (.tmp 37) (.tmp 40)),qs 1 3 41] [])
 .skip))))))))))
 (.reg [qc 42 .add 12 1,qm 12 42] [3,4,10,11,12])))))))
 (qS [ql 43 3,qm 2 43] [2]
 .ret)))))⟩)
theorem n35 : F35.n = 44 := rfl
theorem low35 : lowF Tryz.prog (kpO F35) (assoc []) 35 = some F35 := by kernel_rfl
def F53 : FIR := laid (X := ⟨8, [.tmp 2],
 (qS [qo 2 (.mv (.const (Value.slice none 0 0)))] [0]
 (.seq (qS [qm 3 0,qo 4 (.eqnil false .slice (.tmp 3))] [0,4]
 (qC 4 (qS [qo 2 (.mv (.const (Value.slice none 0 0)))] [2]
 .ret)
 .skip))
 (qS [qo 5 (.bslice 9 0 [(Value.string ⟨#[]⟩)] []),qm 6 0,qo 7 (.append 9 1 16 [(Value.string ⟨#[]⟩)] (.tmp 5) (.tmp 6)),qm 2 7] [2]
 .ret)))⟩)
theorem n53 : F53.n = 8 := rfl
theorem low53 : lowF Tryz.prog (kpO F53) (assoc []) 53 = some F53 := by kernel_rfl
def F70 : FIR := laid (X := ⟨48, [.tmp 6],
 (qS [qB 3 48 0,qk 6 0] [1,2,3]
 (qS [qf 8 2 3,qN 9 5 8,qm 10 1,qc 11 .add 10 1,qf 12 1 3,ql 13 12,qo 14 (.lenS (.tmp 13)),qb 15 .add 11 14,
  qo 16 (.call 111 [(.tmp 9), (.tmp 15), (.const (Value.int IntKind.i64 0))]),qm 1 16] [1,2,3]
 (qS [qf 17 7 3,ql 18 17,qm 19 1,qx 20 86 [18,19],qm 1 20] [1,2,3]
 (qS [qf 21 8 3,ql 22 21,qm 23 1,qx 24 86 [22,23],qm 1 24] [1,2,3]
 (.seq (qS [qm 25 2,qc 26 .gtr 25 60000] [1,2,3,26]
 (qC 26 (qS [qk 6 262145] [6]
 .ret)
 .skip))
 (.seq (qS [qk 7 0] [1,2,3,7]
 (.block 0 (.loop (.seq (qS [qm 27 7,qf 28 9 3,ql 29 28,qL 30 29,qb 31 .lss 27 30,qm 32 31,qt 32 (qm 33 1),qt 32 (qc 34 .leq 33 262144),qa 35 32 34] [1,2,3,7,35]
 (qC 35 .skip
 (.exit 0)))
 (.seq (.block 1 (.reg [qf 38 9 3,ql 39 38,qm 40 7,qi 41 11 39 40,qN 42 11 41,qm 43 1,qm 44 2,qc 45 .add 44 1,qx 46 70 [42,43,45],qm 1 46] [1,2,3,7]))
 (.reg [qm 36 7,qc 37 .add 36 1,qm 7 37] [1,2,3,7]))))))
 (qS [qm 47 1,qm 6 47] [6]
 .ret)))))))⟩)
theorem n70 : F70.n = 48 := rfl
theorem low70 : lowF Tryz.prog (kpO F70) (assoc []) 70 = some F70 := by kernel_rfl
def F111 : FIR := laid (X := ⟨37, [.tmp 6],
 (qS [qB 3 46 0,qk 6 0] [1,2,3]
 (qS [qm 8 1,qc 9 .add 8 1,qf 10 3 3,ql 11 10,qo 12 (.lenS (.tmp 11)),qb 13 .add 9 12,qm 1 13] [1,2,3]
 (.seq (qS [qm 14 2,qc 15 .gtr 14 60000] [1,2,3,15]
 (qC 15 (qS [qk 6 262145] [6]
 .ret)
 .skip))
 (.seq (qS [qk 7 0] [1,2,3,7]
 (.block 0 (.loop (.seq (qS [qm 16 7,qf 17 4 3,ql 18 17,qL 19 18,qb 20 .lss 16 19,qm 21 20,qt 21 (qm 22 1),qt 21 (qc 23 .leq 22 262144),qa 24 21 23] [1,2,3,7,24]
 (qC 24 .skip
 (.exit 0)))
 (.seq (.block 1 (.reg [qf 27 4 3,ql 28 27,qm 29 7,qi 30 5 28 29,qN 31 5 30,qm 32 1,qm 33 2,qc 34 .add 33 1,qx 35 111 [31,32,34],qm 1 35] [1,2,3,7]))
 (.reg [qm 25 7,qc 26 .add 25 1,qm 7 26] [1,2,3,7]))))))
 (qS [qm 36 1,qm 6 36] [6]
 .ret)))))⟩)
theorem n111 : F111.n = 37 := rfl
theorem low111 : lowF Tryz.prog (kpO F111) (assoc []) 111 = some F111 := by kernel_rfl
def F86 : FIR := laid (X := ⟨25, [.tmp 4],
 (qS [qk 4 0] [0,1]
 (.seq (qS [qk 5 0] [0,1,5]
 (.block 0 (.loop (.seq (qS [qm 6 5,qm 7 0,qL 8 7,qb 9 .lss 6 8,qm 10 9,qt 10 (qm 11 1),qt 10 (qc 12 .leq 11 262144),qa 13 10 12] [0,1,5,13]
 (qC 13 .skip
 (.exit 0)))
 (.seq (.block 1 (.reg [qm 16 1,qc 17 .add 16 1,qm 18 0,qm 19 5,qi 20 1 18 19,ql 21 20,qo 22 (.lenS (.tmp 21)),qb 23 .add 17 22,qm 1 23] [0,1,5]))
 (.reg [qm 14 5,qc 15 .add 14 1,qm 5 15] [0,1,5]))))))
 (qS [qm 24 1,qm 4 24] [4]
 .ret)))⟩)
theorem n86 : F86.n = 25 := rfl
theorem low86 : lowF Tryz.prog (kpO F86) (assoc []) 86 = some F86 := by kernel_rfl
def F22 : FIR := laid (X := ⟨6, [.tmp 2],
 (qS [qB 1 48 0,qz 2 false] [1]
 (qS [qN 3 11 1,qo 4 (.call 70 [(.tmp 3), (.const (Value.int IntKind.i64 0)), (.const (Value.int IntKind.i64 0))]),qc 5 .gtr 4 262144,
  qm 2 5] [2]
 .ret))⟩)
theorem n22 : F22.n = 6 := rfl
theorem low22 : lowF Tryz.prog (kpO F22) (assoc []) 22 = some F22 := by kernel_rfl
def F10 : FIR := laid (X := ⟨111, [.tmp 0],
 (qS [qz 0 false] []
 (qS [qx 14 42 [],
  qo 1 (.alloc 48 [(Value.int IntKind.u8 0), (Value.string ⟨#[]⟩), (Value.int IntKind.u8 0), (Value.int IntKind.i64 0), (Value.int IntKind.u64 0), (Value.string ⟨#[]⟩), (Value.slice none 0 0), (Value.slice none 0 0), (Value.slice none 0 0), (Value.slice none 0 0), (Value.int IntKind.i64 0)]),
  qs 11 1 14] [1]
 (qS [qN 15 11 1,qx 16 25 [15],qm 2 16] [1,2]
 (qS [qN 17 11 1,qx 18 26 [17],qm 3 18] [1,2,3]
 (qS [qN 19 11 1,qx 20 27 [19],qm 4 20] [1,2,3,4]
 (qS [qN 21 11 1,qx 22 24 [21],qm 5 22] [1,2,3,4,5]
 (qS [qo 23 (.build [(Value.int IntKind.u8 0), (Value.string ⟨#[]⟩), (Value.int IntKind.u8 0), (Value.int IntKind.i64 0), (Value.int IntKind.u64 0), (Value.string ⟨#[]⟩), (Value.slice none 0 0), (Value.slice none 0 0), (Value.slice none 0 0), (Value.slice none 0 0), (Value.int IntKind.i64 0)] [(0, 1, (.const (Value.int IntKind.u8 2))), (1, 1, (.const (Value.string ⟨#[115, 117, 112, 101, 114]⟩)))]),
  qx 24 24 [23],qm 6 24] [1,2,3,4,5,6]
 (qS [qN 25 11 1,
  qo 26 (.bslice 48 1 [(Value.int IntKind.u8 0), (Value.string ⟨#[]⟩), (Value.int IntKind.u8 0), (Value.int IntKind.i64 0), (Value.int IntKind.u64 0), (Value.string ⟨#[]⟩), (Value.slice none 0 0), (Value.slice none 0 0), (Value.slice none 0 0), (Value.slice none 0 0), (Value.int IntKind.i64 0)] [(0, 11, (.tmp 25))]),
  qo 27 (.build [(Value.string ⟨#[]⟩), (Value.slice none 0 0), (Value.slice none 0 0), (Value.int IntKind.i64 0), (Value.slice none 0 0)] [(0, 1, (.const (Value.string ⟨#[120]⟩))), (4, 1, (.tmp 26))]),
  qo 7 (.alloc 25 [(Value.string ⟨#[]⟩), (Value.slice none 0 0), (Value.slice none 0 0), (Value.int IntKind.i64 0), (Value.slice none 0 0)]),qs 5 7 27] [1,2,3,4,5,6,7]
 (qS [qN 28 5 7,qx 29 13 [28],qm 8 29] [1,2,3,4,5,6,7,8]
 (qS [qo 30 (.build [(Value.string ⟨#[]⟩), (Value.slice none 0 0), (Value.slice none 0 0), (Value.int IntKind.i64 0), (Value.slice none 0 0)] [(0, 1, (.const (Value.string ⟨#[120, 58]⟩)))]),
  qx 31 13 [30],qm 9 31] [1,2,3,4,5,6,7,8,9]
 (qS [qN 32 5 7,qx 33 35 [32],qm 10 33] [1,2,3,4,5,6,7,8,9,10]
 (qS [qN 34 5 7,qx 35 15 [34],
  qo 11 (.alloc 25 [(Value.string ⟨#[]⟩), (Value.slice none 0 0), (Value.slice none 0 0), (Value.int IntKind.i64 0), (Value.slice none 0 0)]),qs 5 11 35] [1,2,3,4,5,6,7,8,9,10,11]
 (qS [qN 36 5 7,qN 37 5 11,qx 38 14 [36,37],qm 12 38] [1,2,3,4,5,6,8,9,10,11,12]
 (qS [qN 39 11 1,qN 40 11 1,qx 41 28 [39,40],qm 13 41] [2,3,4,5,6,8,9,10,11,12,13]
 (qS [qm 42 2,qc 43 .eql 42 4,qm 44 43,qt 44 (qm 45 3),qt 44 (qc 46 .eql 45 1),qa 47 44 46,qm 48 47,qt 48 (qm 49 4),
  qt 48 (qc 50 .eql 49 5),qa 51 48 50,qm 52 51,qt 52 (qm 53 5),qt 52 (qc 54 .eql 53 0),qa 55 52 54,qm 56 55,qt 56 (qm 57 6),qt 56 (qc 58 .eql 57 150),
  qa 59 56 58,qm 60 59,qt 60 (qm 61 8),qt 60 (qc 62 .eql 61 0),qa 63 60 62,qm 64 63,qt 64 (qm 65 9),qt 64 (qc 66 .eql 65 150),qa 67 64 66,qm 68 67,
  qt 68 (qm 69 10),qt 68 (qL 70 69),qt 68 (qc 71 .eql 70 2),qa 72 68 71,qm 73 72,qt 73 (qm 74 10),
  qt 73 (qo 75 (.idxL 1 (.tmp 74) (.const (Value.int IntKind.i64 0)))),qt 73 (ql 76 75),
  qt 73 (qo 77 (.bin .eql (.tmp 76) (.const (Value.string ⟨#[43]⟩)))),qa 78 73 77,qm 79 78,qt 79 (qm 80 12),qa 81 79 80,qm 82 81,qt 82 (qm 83 13),
  qa 84 82 83,qm 85 84,qt 85 (qf 86 4 11),qt 85 (ql 87 86),qt 85 (qL 88 87),qt 85 (qc 89 .eql 88 1),qa 90 85 89,qm 91 90,qt 91 (qf 92 4 11),
  qt 91 (ql 93 92),qt 91 (qo 94 (.idxL 11 (.tmp 93) (.const (Value.int IntKind.i64 0)))),qt 91 (qf 95 9 94),qt 91 (ql 96 95),qt 91 (qL 97 96),
  qt 91 (qc 98 .eql 97 2),qa 99 91 98,qm 100 99,qt 100 (qf 101 4 11),qt 100 (ql 102 101),
  qt 100 (qo 103 (.idxL 11 (.tmp 102) (.const (Value.int IntKind.i64 0)))),qt 100 (qf 104 9 103),qt 100 (ql 105 104),
  qt 100 (qo 106 (.idxL 11 (.tmp 105) (.const (Value.int IntKind.i64 1)))),qt 100 (qf 107 10 106),qt 100 (ql 108 107),qt 100 (qc 109 .eql 108 0),
  qa 110 100 109,qm 0 110] [0]
 .ret)))))))))))))))⟩)
theorem n10 : F10.n = 111 := rfl
theorem low10 : lowF Tryz.prog (kpO F10) (assoc []) 10 = some F10 := by kernel_rfl
def F8 : FIR := laid (X := ⟨63, [.tmp 2],
 (qS [qB 1 48 0,qz 2 false] [1]
 (qS [qx 11 10 [],qm 3 11] [1,3]
 (qS [qN 12 11 1,qx 13 22 [12],qm 4 13] [1,3,4]
 (qS [qN 14 11 1,qx 15 39 [14],qm 5 15] [1,3,4,5]
 (.seq (qS [qm 16 3,qo 17 (.un .not (.tmp 16)),qm 18 17,qu 18 (qm 19 4),qr 20 18 19,qm 21 20,qu 21 (qm 22 5),
  qu 21 (qo 23 (.eqnil false .func (.tmp 22))),qr 24 21 23] [1,3,4,5,24]
 (qC 24 (qS [qm 25 3,qm 26 25,qt 26 (qm 27 4),qt 26 (qm 28 27),qu 28 (qm 29 5),qu 28 (qo 30 (.eqnil true .func (.tmp 29))),qt 26 (qr 31 28 30),
  qa 32 26 31,qm 2 32] [2]
 .ret)
 .skip))
 (qS [qo 6 (.alloc 3 [(Value.int IntKind.i64 0)]),⟨none,none,.store 1 (.tmp 6) (.const (Value.int IntKind.i64 0))⟩] [1,5,6]
 (.seq (qS [qm 33 5] [1,6,33]
 (.block 0 (.rangef (.tmp 33) [34] .skip
 (.block 1 (.reg [ql 35 6,qc 36 .add 35 1,qs 1 6 36] [])))))
 (qS [qk 7 1] [1,6,7]
 (.seq (qS [qk 8 0] [1,6,7,8]
 (.block 2 (.loop (.seq (qS [qm 37 8,qf 38 9 1,ql 39 38,qL 40 39,qb 41 .lss 37 40] [1,6,7,8,41]
 (qC 41 .skip
 (.exit 2)))
 (.seq (.block 3 (qS [qf 44 9 1,ql 45 44,qm 46 8,qi 47 11 45 46,qN 48 11 47,qx 49 27 [48],qm 9 49] [1,6,7,8,9]
 (.reg [qm 50 7,qm 51 9,qb 52 .add 50 51,qm 7 52] [1,6,7,8])))
 (.reg [qm 42 8,qc 43 .add 42 1,qm 8 43] [1,6,7,8]))))))
 (qS [qN 53 11 1,qx 54 27 [53],qm 10 54] [6,7,10]
 (qS [qm 55 10,ql 56 6,qb 57 .eql 55 56,qm 58 57,qt 58 (qm 59 10),qt 58 (qm 60 7),qt 58 (qb 61 .eql 59 60),qa 62 58 61,qm 2 62] [2]
 .ret)))))))))))⟩)
theorem n8 : F8.n = 63 := rfl
theorem low8 : lowF Tryz.prog (kpO F8) (assoc []) 8 = some F8 := by kernel_rfl
end Go.Proofs.YtmnmandpdadedaaGreatDoor

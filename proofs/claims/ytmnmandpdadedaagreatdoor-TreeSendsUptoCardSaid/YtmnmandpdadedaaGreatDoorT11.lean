/-
  Looks: a send.
-/
import Derived.Test.YtmnmandpdadedaaGreatDoorT10
import Derived.Test.YtmnmandpdadedaaGreatDoorV14
import Derived.Test.YtmnmandpdadedaaGreatDoorT9
set_option linter.unusedSimpArgs false
set_option linter.unusedVariables false
namespace Go.Proofs.YtmnmandpdadedaaGreatDoor
open Go Go.V
set_option maxHeartbeats 3200000
set_option maxRecDepth 100000
theorem node_k4 (A : List Atom) (hE : ErA A) (x : Nd) (vs : List Value) (h : NdRd A x vs) (hw : x.w ≤ 274877906944) (hok : ∀ y us, y ∈ x.kids → NdRd A y us → NodeOk A y us) (hk : x.kind = 4) : NodeSw A x vs := by
  intro lb q r m0 deep
  cases h with
  | @mk k s lit args temps kids p lv av tv a c bk o us wf hl hav htv ha hm hr hcp =>
  simp only [Nd.kind] at hk
  have hl2 := hl
  cases hl2 with
  | @mk lk ln lbt lt items la lc lbk lo lus lwf lha lhm lhr =>
  have hav2 := hav
  have htv2 := htv
  obtain ⟨aa, ac, rfl, hal, har⟩ := hav2
  obtain ⟨ta, tc, rfl, htl, htr⟩ := htv2
  have hkids : KidsOk A kids a bk o us := ⟨ha, wf.many, hm, hr, fun i y e => hok y (us i) (List.mem_of_getElem? e) (hr i y e)⟩
  have hns := wf.name
  have hmany := wf.many
  simp only [Nd.w] at hw
  obtain ⟨RR, hRR⟩ : ∃ RR, RR = nodeD (.mk k s (.mk lk ln lbt lt items) args temps kids p) := ⟨_, rfl⟩
  rw [← hRR]
  rw [show nodeD (.mk k s (.mk lk ln lbt lt items) args temps kids p) = nodeR k s (.mk lk ln lbt lt items) args temps kids (kids.map nodeD) by simp [nodeD, nodesD_map]] at hRR
  show VC _ _ _ _ [cellsAt r 0 [cv k, .string s, cv lk, vi ln, uv lbt, .string lt, .slice la items.length lc, .slice aa args.length ac, .slice ta temps.length tc, .slice none 0 0, vi p], cellsAt q 0 [cv k, .string s, cv lk, vi ln, uv lbt, .string lt, .slice la items.length lc, .slice aa args.length ac, .slice ta temps.length tc, .slice a kids.length c, vi p], A, lkA lb m0 deep] _
  subst hk
  refine GOH ?_
  by_cases hk0 : 0 < kids.length
  rotate_left
  · have hnone : RR = none := by
      obtain rfl : kids = [] := List.eq_nil_of_length_eq_zero (by omega)
      rw [hRR]
      unfold nodeR
      rw [if_neg (by decide), if_neg (by decide), if_neg (by decide), if_pos rfl]
      unfold mustR
      split <;> rfl
    rw [show decide ((kids.length : Int) > 0) = false from decide_eq_false (by omega)]
    refine GOH ?_
    refine st_callZ (must_spec false) (by rfl) (by exact SPx) (fun v Post hv => absurd hv.1 (by decide)) (fun ch Post hz => ?_)
    obtain ⟨_, rfl, rfl⟩ := hz
    exact ⟨[A, lkA lb m0 deep], by exact IMx, hnone, rfl, m0, rfl⟩
  rw [show decide ((kids.length : Int) > 0) = true from decide_eq_true (by omega)]
  refine GOH ?_
  refine st_callP (arity_spec s hns) (by rfl) ?_
  refine GOH ?_
  by_cases har : 0 ≤ arityS s
  rotate_left
  · have hnone : RR = none := by
      rw [hRR]
      unfold nodeR
      rw [if_neg (by decide), if_neg (by decide), if_neg (by decide), if_pos rfl]
      rw [decide_eq_false har, Bool.and_false]
      rfl
    rw [show decide (arityS s ≥ 0) = false from decide_eq_false har]
    refine GOH ?_
    refine st_callZ (must_spec false) (by rfl) (by exact SPx) (fun v Post hv => absurd hv.1 (by decide)) (fun ch Post hz => ?_)
    obtain ⟨_, rfl, rfl⟩ := hz
    exact ⟨[A, lkA lb m0 deep], by exact IMx, hnone, rfl, m0, rfl⟩
  rw [show decide (arityS s ≥ 0) = true from decide_eq_true har]
  refine GOH ?_
  refine st_callZ (must_spec true) (by rfl) (by exact SPx) (fun v Post hv => ?_) (fun ch Post hz => absurd hz.1 (by decide))
  obtain ⟨_, rfl, rfl⟩ := hv
  simp only [List.nil_append]
  refine GOH ?_
  obtain ⟨y, l, hky⟩ : ∃ y l, kids = y :: l := by
    cases kids with
    | nil => simp at hk0
    | cons y l => exact ⟨y, l, rfl⟩
  have hy0 : kids[0]? = some y := by rw [hky]; rfl
  have hym := hm 0 (by omega)
  rw [Nat.zero_mul, Nat.add_zero] at hym
  have hyl := (hr 0 y hy0).len
  obtain rfl := ha (by omega)
  have hls : l.length = kids.length - 1 := by rw [hky]; rfl
  have hkl : KidsOk A l (some ⟨bk, if c = 1 then o else o + 1 * 11, none⟩) bk (if c = 1 then o else o + 1 * 11) (fun i => us (i + 1)) := by
    refine ⟨fun _ => rfl, by omega, fun i hi z hz => ?_, fun i z e => hr (i + 1) z (by rw [hky]; exact e), fun i z e => hkids.ok (i + 1) z (by rw [hky]; exact e)⟩
    refine hm (i + 1) (by omega) z ?_
    rw [if_neg (by omega)] at hz
    rwa [show o + 1 * 11 + i * 11 = o + (i + 1) * 11 by omega] at hz
  have hF := fun m => first_spec A y _ (hr 0 y hy0) (hkids.ok 0 y hy0) s hns lb m deep
  have hA := fun m => arguments_spec A l _ (c - 1) bk _ _ hkl s hns lb m deep
  rw [hls] at hA
  have hR4 : RR = mustR (decide (args.length = 0 ∧ temps.length = 0) && litZ (.mk lk ln lbt lt items) && decide (0 ≤ arityS s)) (bothR (firstR y s (nodeD y)) (argsR s l (l.map nodeD))) := by
    rw [hRR, hky]; rfl
  by_cases hno : firstR y s (nodeD y) = none ∨ argsR s l (l.map nodeD) = none
  · skip
    have hnone : RR = none := by
      rw [hR4, bothR_none hno]
      unfold mustR; split <;> rfl
    obtain ⟨dF, φF, hFφ, hFz⟩ := look_any hF
    obtain ⟨dA, φA, hAφ, hAz⟩ := look_any hA
    refine VC.drawZ (fun ch H' => ch = wrongCh ∧ ∃ m, Imp H' [A, lkA lb m deep]) (fun H' => ∃ m, Imp H' [A, lkA lb m deep, cellsAt q 0 [cv 4, .string s, cv lk, vi ln, uv lbt, .string lt, .slice la items.length lc, .slice aa args.length ac, .slice ta temps.length tc, .slice (some ⟨bk, o, none⟩) kids.length c, vi p]]) ⟨m0, by exact IMx⟩ ?_ (fun ch H' hp => ?_)
    · skip
      intro rs hrs
      rcases List.mem_cons.1 hrs with rfl | hrs
      · skip
        refine ⟨rfl, ptr0 lb, True, fun Γ H hΓ hH => ?_, ?_⟩
        · obtain ⟨mz, hz⟩ := hH
          refine VO.imp hz ?_
          exact st_mv (hΓ 0 (by decide) _ rfl) (VO.nil ⟨rfl, ⟨mz, Imp.refl _⟩, trivial⟩)
        refine ⟨rfl, .pointer (some ⟨q, 9, none⟩), True, fun Γ H hΓ hH => ?_, ?_⟩
        · obtain ⟨mz, hz⟩ := hH
          refine VO.imp hz ?_
          exact st_fld (hΓ 3 (by decide) _ rfl) rfl (VO.nil ⟨rfl, ⟨mz, Imp.refl _⟩, trivial⟩)
        refine ⟨rfl, .slice (some ⟨bk, o, none⟩) kids.length c, True, fun Γ H hΓ hH => ?_, ?_⟩
        · obtain ⟨mz, hz⟩ := hH
          refine VO.imp hz ?_
          exact st_load1 (hΓ 77 (by decide) _ rfl) (by first | ((focus ((repeat (first | (apply Has.cells; omega; rfl) | apply Has.there)); done))) | ((focus ((repeat (first | (apply Has.among; assumption) | apply Has.there)); done)))) (VO.nil ⟨rfl, ⟨mz, Imp.refl _⟩, trivial⟩)
        refine ⟨rfl, .pointer (some ⟨bk, o, none⟩), True, fun Γ H hΓ hH => ?_, ?_⟩
        · obtain ⟨mz, hz⟩ := hH
          refine VO.imp hz ?_
          exact st_idxL (hΓ 78 (by decide) _ rfl) rfl (by omega) (by ((try simp only [Nat.zero_add, Nat.add_zero, Nat.reduceAdd, Nat.reduceMul, Nat.add_assoc, Int.toNat_natCast, Nat.mul_one]); rfl)) (VO.nil ⟨rfl, ⟨mz, Imp.refl _⟩, trivial⟩)
        refine ⟨rfl, .agg (us 0).toArray, True, fun Γ H hΓ hH => ?_, ?_⟩
        · obtain ⟨mz, hz⟩ := hH
          refine VO.imp hz ?_
          exact st_loadA (hΓ 79 (by decide) _ rfl) (fun z hz => List.mem_append_left _ (hym z hz)) hyl (VO.nil ⟨rfl, ⟨mz, Imp.refl _⟩, trivial⟩)
        refine ⟨rfl, .pointer (some ⟨q, 1, none⟩), True, fun Γ H hΓ hH => ?_, ?_⟩
        · obtain ⟨mz, hz⟩ := hH
          refine VO.imp hz ?_
          exact st_fld (hΓ 3 (by decide) _ rfl) rfl (VO.nil ⟨rfl, ⟨mz, Imp.refl _⟩, trivial⟩)
        refine ⟨rfl, .string s, True, fun Γ H hΓ hH => ?_, ?_⟩
        · obtain ⟨mz, hz⟩ := hH
          refine VO.imp hz ?_
          exact st_load1 (hΓ 81 (by decide) _ rfl) (by first | ((focus ((repeat (first | (apply Has.cells; omega; rfl) | apply Has.there)); done))) | ((focus ((repeat (first | (apply Has.among; assumption) | apply Has.there)); done)))) (VO.nil ⟨rfl, ⟨mz, Imp.refl _⟩, trivial⟩)
        refine ⟨rfl, vi dF, φF, fun Γ H hΓ hH => ?_, ?_⟩
        · obtain ⟨mz, hz⟩ := hH
          refine VO.imp hz ?_
          refine st_callZ (hFz mz) (by simp only [V.evs, V.ev, hΓ 76 (by decide) _ rfl, hΓ 80 (by decide) _ rfl, hΓ 82 (by decide) _ rfl]) (by exact SPx) (fun v Post hv => ?_) (fun ch Post hz => ?_)
          · obtain ⟨rfl, hφ, m', rfl⟩ := hv
            exact VO.nil ⟨rfl, ⟨m', Imp.refl _⟩, hφ⟩
          · obtain ⟨rfl, m', rfl⟩ := hz
            exact ⟨rfl, m', by exact IMx⟩
        refine ⟨rfl, ptr0 lb, True, fun Γ H hΓ hH => ?_, ?_⟩
        · obtain ⟨mz, hz⟩ := hH
          refine VO.imp hz ?_
          exact st_mv (hΓ 0 (by decide) _ rfl) (VO.nil ⟨rfl, ⟨mz, Imp.refl _⟩, trivial⟩)
        refine ⟨rfl, .pointer (some ⟨q, 1, none⟩), True, fun Γ H hΓ hH => ?_, ?_⟩
        · obtain ⟨mz, hz⟩ := hH
          refine VO.imp hz ?_
          exact st_fld (hΓ 3 (by decide) _ rfl) rfl (VO.nil ⟨rfl, ⟨mz, Imp.refl _⟩, trivial⟩)
        refine ⟨rfl, .string s, True, fun Γ H hΓ hH => ?_, ?_⟩
        · obtain ⟨mz, hz⟩ := hH
          refine VO.imp hz ?_
          exact st_load1 (hΓ 85 (by decide) _ rfl) (by first | ((focus ((repeat (first | (apply Has.cells; omega; rfl) | apply Has.there)); done))) | ((focus ((repeat (first | (apply Has.among; assumption) | apply Has.there)); done)))) (VO.nil ⟨rfl, ⟨mz, Imp.refl _⟩, trivial⟩)
        refine ⟨rfl, .pointer (some ⟨q, 9, none⟩), True, fun Γ H hΓ hH => ?_, ?_⟩
        · obtain ⟨mz, hz⟩ := hH
          refine VO.imp hz ?_
          exact st_fld (hΓ 3 (by decide) _ rfl) rfl (VO.nil ⟨rfl, ⟨mz, Imp.refl _⟩, trivial⟩)
        refine ⟨rfl, .slice (some ⟨bk, o, none⟩) kids.length c, True, fun Γ H hΓ hH => ?_, ?_⟩
        · obtain ⟨mz, hz⟩ := hH
          refine VO.imp hz ?_
          exact st_load1 (hΓ 87 (by decide) _ rfl) (by first | ((focus ((repeat (first | (apply Has.cells; omega; rfl) | apply Has.there)); done))) | ((focus ((repeat (first | (apply Has.among; assumption) | apply Has.there)); done)))) (VO.nil ⟨rfl, ⟨mz, Imp.refl _⟩, trivial⟩)
        refine ⟨rfl, .slice (some ⟨bk, if c = 1 then o else o + 1 * 11, none⟩) (kids.length - 1) (c - 1), True, fun Γ H hΓ hH => ?_, ?_⟩
        · obtain ⟨mz, hz⟩ := hH
          refine VO.imp hz ?_
          exact st_slcL1 (hΓ 88 (by decide) _ rfl) rfl (l := 1) rfl (by omega) (VO.nil ⟨rfl, ⟨mz, Imp.refl _⟩, trivial⟩)
        refine ⟨rfl, vi dA, φA, fun Γ H hΓ hH => ?_, ?_⟩
        · obtain ⟨mz, hz⟩ := hH
          refine VO.imp hz ?_
          refine st_callZ (hAz mz) (by simp only [V.evs, V.ev, hΓ 84 (by decide) _ rfl, hΓ 86 (by decide) _ rfl, hΓ 89 (by decide) _ rfl]) (by exact SPx) (fun v Post hv => ?_) (fun ch Post hz => ?_)
          · obtain ⟨rfl, hφ, m', rfl⟩ := hv
            exact VO.nil ⟨rfl, ⟨m', Imp.refl _⟩, hφ⟩
          · obtain ⟨rfl, m', rfl⟩ := hz
            exact ⟨rfl, m', by exact IMx⟩
        refine ⟨rfl, vi (max dF dA : Nat), True, fun Γ H hΓ hH => ?_, ?_⟩
        · obtain ⟨mz, hz⟩ := hH
          refine VO.imp hz ?_
          exact st_max (by simp only [V.ev, hΓ 83 (by decide) _ rfl]) (by simp only [V.ev, hΓ 90 (by decide) _ rfl]) (VO.nil ⟨rfl, ⟨mz, Imp.refl _⟩, trivial⟩)
        refine ⟨rfl, vi (max dF dA : Nat), True, fun Γ H hΓ hH => ?_, ?_⟩
        · obtain ⟨mz, hz⟩ := hH
          refine VO.imp hz ?_
          exact st_mv (hΓ 91 (by decide) _ rfl) (VO.nil ⟨rfl, ⟨mz, Imp.refl _⟩, trivial⟩)
        exact fun hh => by
          simp only [true_and, and_true] at hh
          rcases hno with h1 | h1
          · exact hFφ hh.1 h1
          · exact hAφ hh.2 h1
      rcases List.mem_cons.1 hrs with rfl | hrs
      · skip
        refine ⟨rfl, ptr0 lb, True, fun Γ H hΓ hH => ?_, ?_⟩
        · obtain ⟨mz, hz⟩ := hH
          refine VO.imp hz ?_
          exact st_mv (hΓ 0 (by decide) _ rfl) (VO.nil ⟨rfl, ⟨mz, Imp.refl _⟩, trivial⟩)
        refine ⟨rfl, .pointer (some ⟨q, 9, none⟩), True, fun Γ H hΓ hH => ?_, ?_⟩
        · obtain ⟨mz, hz⟩ := hH
          refine VO.imp hz ?_
          exact st_fld (hΓ 3 (by decide) _ rfl) rfl (VO.nil ⟨rfl, ⟨mz, Imp.refl _⟩, trivial⟩)
        refine ⟨rfl, .slice (some ⟨bk, o, none⟩) kids.length c, True, fun Γ H hΓ hH => ?_, ?_⟩
        · obtain ⟨mz, hz⟩ := hH
          refine VO.imp hz ?_
          exact st_load1 (hΓ 77 (by decide) _ rfl) (by first | ((focus ((repeat (first | (apply Has.cells; omega; rfl) | apply Has.there)); done))) | ((focus ((repeat (first | (apply Has.among; assumption) | apply Has.there)); done)))) (VO.nil ⟨rfl, ⟨mz, Imp.refl _⟩, trivial⟩)
        refine ⟨rfl, .pointer (some ⟨bk, o, none⟩), True, fun Γ H hΓ hH => ?_, ?_⟩
        · obtain ⟨mz, hz⟩ := hH
          refine VO.imp hz ?_
          exact st_idxL (hΓ 78 (by decide) _ rfl) rfl (by omega) (by ((try simp only [Nat.zero_add, Nat.add_zero, Nat.reduceAdd, Nat.reduceMul, Nat.add_assoc, Int.toNat_natCast, Nat.mul_one]); rfl)) (VO.nil ⟨rfl, ⟨mz, Imp.refl _⟩, trivial⟩)
        refine ⟨rfl, .agg (us 0).toArray, True, fun Γ H hΓ hH => ?_, ?_⟩
        · obtain ⟨mz, hz⟩ := hH
          refine VO.imp hz ?_
          exact st_loadA (hΓ 79 (by decide) _ rfl) (fun z hz => List.mem_append_left _ (hym z hz)) hyl (VO.nil ⟨rfl, ⟨mz, Imp.refl _⟩, trivial⟩)
        refine ⟨rfl, .pointer (some ⟨q, 1, none⟩), True, fun Γ H hΓ hH => ?_, ?_⟩
        · obtain ⟨mz, hz⟩ := hH
          refine VO.imp hz ?_
          exact st_fld (hΓ 3 (by decide) _ rfl) rfl (VO.nil ⟨rfl, ⟨mz, Imp.refl _⟩, trivial⟩)
        refine ⟨rfl, .string s, True, fun Γ H hΓ hH => ?_, ?_⟩
        · obtain ⟨mz, hz⟩ := hH
          refine VO.imp hz ?_
          exact st_load1 (hΓ 81 (by decide) _ rfl) (by first | ((focus ((repeat (first | (apply Has.cells; omega; rfl) | apply Has.there)); done))) | ((focus ((repeat (first | (apply Has.among; assumption) | apply Has.there)); done)))) (VO.nil ⟨rfl, ⟨mz, Imp.refl _⟩, trivial⟩)
        refine ⟨rfl, ptr0 lb, True, fun Γ H hΓ hH => ?_, ?_⟩
        · obtain ⟨mz, hz⟩ := hH
          refine VO.imp hz ?_
          exact st_mv (hΓ 0 (by decide) _ rfl) (VO.nil ⟨rfl, ⟨mz, Imp.refl _⟩, trivial⟩)
        refine ⟨rfl, .pointer (some ⟨q, 1, none⟩), True, fun Γ H hΓ hH => ?_, ?_⟩
        · obtain ⟨mz, hz⟩ := hH
          refine VO.imp hz ?_
          exact st_fld (hΓ 3 (by decide) _ rfl) rfl (VO.nil ⟨rfl, ⟨mz, Imp.refl _⟩, trivial⟩)
        refine ⟨rfl, .string s, True, fun Γ H hΓ hH => ?_, ?_⟩
        · obtain ⟨mz, hz⟩ := hH
          refine VO.imp hz ?_
          exact st_load1 (hΓ 85 (by decide) _ rfl) (by first | ((focus ((repeat (first | (apply Has.cells; omega; rfl) | apply Has.there)); done))) | ((focus ((repeat (first | (apply Has.among; assumption) | apply Has.there)); done)))) (VO.nil ⟨rfl, ⟨mz, Imp.refl _⟩, trivial⟩)
        refine ⟨rfl, vi dF, φF, fun Γ H hΓ hH => ?_, ?_⟩
        · obtain ⟨mz, hz⟩ := hH
          refine VO.imp hz ?_
          refine st_callZ (hFz mz) (by simp only [V.evs, V.ev, hΓ 76 (by decide) _ rfl, hΓ 80 (by decide) _ rfl, hΓ 82 (by decide) _ rfl]) (by exact SPx) (fun v Post hv => ?_) (fun ch Post hz => ?_)
          · obtain ⟨rfl, hφ, m', rfl⟩ := hv
            exact VO.nil ⟨rfl, ⟨m', Imp.refl _⟩, hφ⟩
          · obtain ⟨rfl, m', rfl⟩ := hz
            exact ⟨rfl, m', by exact IMx⟩
        refine ⟨rfl, .pointer (some ⟨q, 9, none⟩), True, fun Γ H hΓ hH => ?_, ?_⟩
        · obtain ⟨mz, hz⟩ := hH
          refine VO.imp hz ?_
          exact st_fld (hΓ 3 (by decide) _ rfl) rfl (VO.nil ⟨rfl, ⟨mz, Imp.refl _⟩, trivial⟩)
        refine ⟨rfl, .slice (some ⟨bk, o, none⟩) kids.length c, True, fun Γ H hΓ hH => ?_, ?_⟩
        · obtain ⟨mz, hz⟩ := hH
          refine VO.imp hz ?_
          exact st_load1 (hΓ 87 (by decide) _ rfl) (by first | ((focus ((repeat (first | (apply Has.cells; omega; rfl) | apply Has.there)); done))) | ((focus ((repeat (first | (apply Has.among; assumption) | apply Has.there)); done)))) (VO.nil ⟨rfl, ⟨mz, Imp.refl _⟩, trivial⟩)
        refine ⟨rfl, .slice (some ⟨bk, if c = 1 then o else o + 1 * 11, none⟩) (kids.length - 1) (c - 1), True, fun Γ H hΓ hH => ?_, ?_⟩
        · obtain ⟨mz, hz⟩ := hH
          refine VO.imp hz ?_
          exact st_slcL1 (hΓ 88 (by decide) _ rfl) rfl (l := 1) rfl (by omega) (VO.nil ⟨rfl, ⟨mz, Imp.refl _⟩, trivial⟩)
        refine ⟨rfl, vi dA, φA, fun Γ H hΓ hH => ?_, ?_⟩
        · obtain ⟨mz, hz⟩ := hH
          refine VO.imp hz ?_
          refine st_callZ (hAz mz) (by simp only [V.evs, V.ev, hΓ 84 (by decide) _ rfl, hΓ 86 (by decide) _ rfl, hΓ 89 (by decide) _ rfl]) (by exact SPx) (fun v Post hv => ?_) (fun ch Post hz => ?_)
          · obtain ⟨rfl, hφ, m', rfl⟩ := hv
            exact VO.nil ⟨rfl, ⟨m', Imp.refl _⟩, hφ⟩
          · obtain ⟨rfl, m', rfl⟩ := hz
            exact ⟨rfl, m', by exact IMx⟩
        refine ⟨rfl, vi (max dF dA : Nat), True, fun Γ H hΓ hH => ?_, ?_⟩
        · obtain ⟨mz, hz⟩ := hH
          refine VO.imp hz ?_
          exact st_max (by simp only [V.ev, hΓ 83 (by decide) _ rfl]) (by simp only [V.ev, hΓ 90 (by decide) _ rfl]) (VO.nil ⟨rfl, ⟨mz, Imp.refl _⟩, trivial⟩)
        refine ⟨rfl, vi (max dF dA : Nat), True, fun Γ H hΓ hH => ?_, ?_⟩
        · obtain ⟨mz, hz⟩ := hH
          refine VO.imp hz ?_
          exact st_mv (hΓ 91 (by decide) _ rfl) (VO.nil ⟨rfl, ⟨mz, Imp.refl _⟩, trivial⟩)
        exact fun hh => by
          simp only [true_and, and_true] at hh
          rcases hno with h1 | h1
          · exact hFφ hh.1 h1
          · exact hAφ hh.2 h1
      rcases List.mem_cons.1 hrs with rfl | hrs
      · skip
        refine ⟨rfl, ptr0 lb, True, fun Γ H hΓ hH => ?_, ?_⟩
        · obtain ⟨mz, hz⟩ := hH
          refine VO.imp hz ?_
          exact st_mv (hΓ 0 (by decide) _ rfl) (VO.nil ⟨rfl, ⟨mz, Imp.refl _⟩, trivial⟩)
        refine ⟨rfl, .pointer (some ⟨q, 9, none⟩), True, fun Γ H hΓ hH => ?_, ?_⟩
        · obtain ⟨mz, hz⟩ := hH
          refine VO.imp hz ?_
          exact st_fld (hΓ 3 (by decide) _ rfl) rfl (VO.nil ⟨rfl, ⟨mz, Imp.refl _⟩, trivial⟩)
        refine ⟨rfl, .slice (some ⟨bk, o, none⟩) kids.length c, True, fun Γ H hΓ hH => ?_, ?_⟩
        · obtain ⟨mz, hz⟩ := hH
          refine VO.imp hz ?_
          exact st_load1 (hΓ 77 (by decide) _ rfl) (by first | ((focus ((repeat (first | (apply Has.cells; omega; rfl) | apply Has.there)); done))) | ((focus ((repeat (first | (apply Has.among; assumption) | apply Has.there)); done)))) (VO.nil ⟨rfl, ⟨mz, Imp.refl _⟩, trivial⟩)
        refine ⟨rfl, .pointer (some ⟨bk, o, none⟩), True, fun Γ H hΓ hH => ?_, ?_⟩
        · obtain ⟨mz, hz⟩ := hH
          refine VO.imp hz ?_
          exact st_idxL (hΓ 78 (by decide) _ rfl) rfl (by omega) (by ((try simp only [Nat.zero_add, Nat.add_zero, Nat.reduceAdd, Nat.reduceMul, Nat.add_assoc, Int.toNat_natCast, Nat.mul_one]); rfl)) (VO.nil ⟨rfl, ⟨mz, Imp.refl _⟩, trivial⟩)
        refine ⟨rfl, .agg (us 0).toArray, True, fun Γ H hΓ hH => ?_, ?_⟩
        · obtain ⟨mz, hz⟩ := hH
          refine VO.imp hz ?_
          exact st_loadA (hΓ 79 (by decide) _ rfl) (fun z hz => List.mem_append_left _ (hym z hz)) hyl (VO.nil ⟨rfl, ⟨mz, Imp.refl _⟩, trivial⟩)
        refine ⟨rfl, .pointer (some ⟨q, 1, none⟩), True, fun Γ H hΓ hH => ?_, ?_⟩
        · obtain ⟨mz, hz⟩ := hH
          refine VO.imp hz ?_
          exact st_fld (hΓ 3 (by decide) _ rfl) rfl (VO.nil ⟨rfl, ⟨mz, Imp.refl _⟩, trivial⟩)
        refine ⟨rfl, .string s, True, fun Γ H hΓ hH => ?_, ?_⟩
        · obtain ⟨mz, hz⟩ := hH
          refine VO.imp hz ?_
          exact st_load1 (hΓ 81 (by decide) _ rfl) (by first | ((focus ((repeat (first | (apply Has.cells; omega; rfl) | apply Has.there)); done))) | ((focus ((repeat (first | (apply Has.among; assumption) | apply Has.there)); done)))) (VO.nil ⟨rfl, ⟨mz, Imp.refl _⟩, trivial⟩)
        refine ⟨rfl, ptr0 lb, True, fun Γ H hΓ hH => ?_, ?_⟩
        · obtain ⟨mz, hz⟩ := hH
          refine VO.imp hz ?_
          exact st_mv (hΓ 0 (by decide) _ rfl) (VO.nil ⟨rfl, ⟨mz, Imp.refl _⟩, trivial⟩)
        refine ⟨rfl, .pointer (some ⟨q, 1, none⟩), True, fun Γ H hΓ hH => ?_, ?_⟩
        · obtain ⟨mz, hz⟩ := hH
          refine VO.imp hz ?_
          exact st_fld (hΓ 3 (by decide) _ rfl) rfl (VO.nil ⟨rfl, ⟨mz, Imp.refl _⟩, trivial⟩)
        refine ⟨rfl, .string s, True, fun Γ H hΓ hH => ?_, ?_⟩
        · obtain ⟨mz, hz⟩ := hH
          refine VO.imp hz ?_
          exact st_load1 (hΓ 85 (by decide) _ rfl) (by first | ((focus ((repeat (first | (apply Has.cells; omega; rfl) | apply Has.there)); done))) | ((focus ((repeat (first | (apply Has.among; assumption) | apply Has.there)); done)))) (VO.nil ⟨rfl, ⟨mz, Imp.refl _⟩, trivial⟩)
        refine ⟨rfl, .pointer (some ⟨q, 9, none⟩), True, fun Γ H hΓ hH => ?_, ?_⟩
        · obtain ⟨mz, hz⟩ := hH
          refine VO.imp hz ?_
          exact st_fld (hΓ 3 (by decide) _ rfl) rfl (VO.nil ⟨rfl, ⟨mz, Imp.refl _⟩, trivial⟩)
        refine ⟨rfl, .slice (some ⟨bk, o, none⟩) kids.length c, True, fun Γ H hΓ hH => ?_, ?_⟩
        · obtain ⟨mz, hz⟩ := hH
          refine VO.imp hz ?_
          exact st_load1 (hΓ 87 (by decide) _ rfl) (by first | ((focus ((repeat (first | (apply Has.cells; omega; rfl) | apply Has.there)); done))) | ((focus ((repeat (first | (apply Has.among; assumption) | apply Has.there)); done)))) (VO.nil ⟨rfl, ⟨mz, Imp.refl _⟩, trivial⟩)
        refine ⟨rfl, vi dF, φF, fun Γ H hΓ hH => ?_, ?_⟩
        · obtain ⟨mz, hz⟩ := hH
          refine VO.imp hz ?_
          refine st_callZ (hFz mz) (by simp only [V.evs, V.ev, hΓ 76 (by decide) _ rfl, hΓ 80 (by decide) _ rfl, hΓ 82 (by decide) _ rfl]) (by exact SPx) (fun v Post hv => ?_) (fun ch Post hz => ?_)
          · obtain ⟨rfl, hφ, m', rfl⟩ := hv
            exact VO.nil ⟨rfl, ⟨m', Imp.refl _⟩, hφ⟩
          · obtain ⟨rfl, m', rfl⟩ := hz
            exact ⟨rfl, m', by exact IMx⟩
        refine ⟨rfl, .slice (some ⟨bk, if c = 1 then o else o + 1 * 11, none⟩) (kids.length - 1) (c - 1), True, fun Γ H hΓ hH => ?_, ?_⟩
        · obtain ⟨mz, hz⟩ := hH
          refine VO.imp hz ?_
          exact st_slcL1 (hΓ 88 (by decide) _ rfl) rfl (l := 1) rfl (by omega) (VO.nil ⟨rfl, ⟨mz, Imp.refl _⟩, trivial⟩)
        refine ⟨rfl, vi dA, φA, fun Γ H hΓ hH => ?_, ?_⟩
        · obtain ⟨mz, hz⟩ := hH
          refine VO.imp hz ?_
          refine st_callZ (hAz mz) (by simp only [V.evs, V.ev, hΓ 84 (by decide) _ rfl, hΓ 86 (by decide) _ rfl, hΓ 89 (by decide) _ rfl]) (by exact SPx) (fun v Post hv => ?_) (fun ch Post hz => ?_)
          · obtain ⟨rfl, hφ, m', rfl⟩ := hv
            exact VO.nil ⟨rfl, ⟨m', Imp.refl _⟩, hφ⟩
          · obtain ⟨rfl, m', rfl⟩ := hz
            exact ⟨rfl, m', by exact IMx⟩
        refine ⟨rfl, vi (max dF dA : Nat), True, fun Γ H hΓ hH => ?_, ?_⟩
        · obtain ⟨mz, hz⟩ := hH
          refine VO.imp hz ?_
          exact st_max (by simp only [V.ev, hΓ 83 (by decide) _ rfl]) (by simp only [V.ev, hΓ 90 (by decide) _ rfl]) (VO.nil ⟨rfl, ⟨mz, Imp.refl _⟩, trivial⟩)
        refine ⟨rfl, vi (max dF dA : Nat), True, fun Γ H hΓ hH => ?_, ?_⟩
        · obtain ⟨mz, hz⟩ := hH
          refine VO.imp hz ?_
          exact st_mv (hΓ 91 (by decide) _ rfl) (VO.nil ⟨rfl, ⟨mz, Imp.refl _⟩, trivial⟩)
        exact fun hh => by
          simp only [true_and, and_true] at hh
          rcases hno with h1 | h1
          · exact hFφ hh.1 h1
          · exact hAφ hh.2 h1
      rcases List.mem_cons.1 hrs with rfl | hrs
      · skip
        refine ⟨rfl, ptr0 lb, True, fun Γ H hΓ hH => ?_, ?_⟩
        · obtain ⟨mz, hz⟩ := hH
          refine VO.imp hz ?_
          exact st_mv (hΓ 0 (by decide) _ rfl) (VO.nil ⟨rfl, ⟨mz, Imp.refl _⟩, trivial⟩)
        refine ⟨rfl, .pointer (some ⟨q, 9, none⟩), True, fun Γ H hΓ hH => ?_, ?_⟩
        · obtain ⟨mz, hz⟩ := hH
          refine VO.imp hz ?_
          exact st_fld (hΓ 3 (by decide) _ rfl) rfl (VO.nil ⟨rfl, ⟨mz, Imp.refl _⟩, trivial⟩)
        refine ⟨rfl, .slice (some ⟨bk, o, none⟩) kids.length c, True, fun Γ H hΓ hH => ?_, ?_⟩
        · obtain ⟨mz, hz⟩ := hH
          refine VO.imp hz ?_
          exact st_load1 (hΓ 77 (by decide) _ rfl) (by first | ((focus ((repeat (first | (apply Has.cells; omega; rfl) | apply Has.there)); done))) | ((focus ((repeat (first | (apply Has.among; assumption) | apply Has.there)); done)))) (VO.nil ⟨rfl, ⟨mz, Imp.refl _⟩, trivial⟩)
        refine ⟨rfl, .pointer (some ⟨bk, o, none⟩), True, fun Γ H hΓ hH => ?_, ?_⟩
        · obtain ⟨mz, hz⟩ := hH
          refine VO.imp hz ?_
          exact st_idxL (hΓ 78 (by decide) _ rfl) rfl (by omega) (by ((try simp only [Nat.zero_add, Nat.add_zero, Nat.reduceAdd, Nat.reduceMul, Nat.add_assoc, Int.toNat_natCast, Nat.mul_one]); rfl)) (VO.nil ⟨rfl, ⟨mz, Imp.refl _⟩, trivial⟩)
        refine ⟨rfl, .agg (us 0).toArray, True, fun Γ H hΓ hH => ?_, ?_⟩
        · obtain ⟨mz, hz⟩ := hH
          refine VO.imp hz ?_
          exact st_loadA (hΓ 79 (by decide) _ rfl) (fun z hz => List.mem_append_left _ (hym z hz)) hyl (VO.nil ⟨rfl, ⟨mz, Imp.refl _⟩, trivial⟩)
        refine ⟨rfl, .pointer (some ⟨q, 1, none⟩), True, fun Γ H hΓ hH => ?_, ?_⟩
        · obtain ⟨mz, hz⟩ := hH
          refine VO.imp hz ?_
          exact st_fld (hΓ 3 (by decide) _ rfl) rfl (VO.nil ⟨rfl, ⟨mz, Imp.refl _⟩, trivial⟩)
        refine ⟨rfl, .string s, True, fun Γ H hΓ hH => ?_, ?_⟩
        · obtain ⟨mz, hz⟩ := hH
          refine VO.imp hz ?_
          exact st_load1 (hΓ 81 (by decide) _ rfl) (by first | ((focus ((repeat (first | (apply Has.cells; omega; rfl) | apply Has.there)); done))) | ((focus ((repeat (first | (apply Has.among; assumption) | apply Has.there)); done)))) (VO.nil ⟨rfl, ⟨mz, Imp.refl _⟩, trivial⟩)
        refine ⟨rfl, vi dF, φF, fun Γ H hΓ hH => ?_, ?_⟩
        · obtain ⟨mz, hz⟩ := hH
          refine VO.imp hz ?_
          refine st_callZ (hFz mz) (by simp only [V.evs, V.ev, hΓ 76 (by decide) _ rfl, hΓ 80 (by decide) _ rfl, hΓ 82 (by decide) _ rfl]) (by exact SPx) (fun v Post hv => ?_) (fun ch Post hz => ?_)
          · obtain ⟨rfl, hφ, m', rfl⟩ := hv
            exact VO.nil ⟨rfl, ⟨m', Imp.refl _⟩, hφ⟩
          · obtain ⟨rfl, m', rfl⟩ := hz
            exact ⟨rfl, m', by exact IMx⟩
        refine ⟨rfl, ptr0 lb, True, fun Γ H hΓ hH => ?_, ?_⟩
        · obtain ⟨mz, hz⟩ := hH
          refine VO.imp hz ?_
          exact st_mv (hΓ 0 (by decide) _ rfl) (VO.nil ⟨rfl, ⟨mz, Imp.refl _⟩, trivial⟩)
        refine ⟨rfl, .pointer (some ⟨q, 1, none⟩), True, fun Γ H hΓ hH => ?_, ?_⟩
        · obtain ⟨mz, hz⟩ := hH
          refine VO.imp hz ?_
          exact st_fld (hΓ 3 (by decide) _ rfl) rfl (VO.nil ⟨rfl, ⟨mz, Imp.refl _⟩, trivial⟩)
        refine ⟨rfl, .pointer (some ⟨q, 9, none⟩), True, fun Γ H hΓ hH => ?_, ?_⟩
        · obtain ⟨mz, hz⟩ := hH
          refine VO.imp hz ?_
          exact st_fld (hΓ 3 (by decide) _ rfl) rfl (VO.nil ⟨rfl, ⟨mz, Imp.refl _⟩, trivial⟩)
        refine ⟨rfl, .slice (some ⟨bk, o, none⟩) kids.length c, True, fun Γ H hΓ hH => ?_, ?_⟩
        · obtain ⟨mz, hz⟩ := hH
          refine VO.imp hz ?_
          exact st_load1 (hΓ 87 (by decide) _ rfl) (by first | ((focus ((repeat (first | (apply Has.cells; omega; rfl) | apply Has.there)); done))) | ((focus ((repeat (first | (apply Has.among; assumption) | apply Has.there)); done)))) (VO.nil ⟨rfl, ⟨mz, Imp.refl _⟩, trivial⟩)
        refine ⟨rfl, .string s, True, fun Γ H hΓ hH => ?_, ?_⟩
        · obtain ⟨mz, hz⟩ := hH
          refine VO.imp hz ?_
          exact st_load1 (hΓ 85 (by decide) _ rfl) (by first | ((focus ((repeat (first | (apply Has.cells; omega; rfl) | apply Has.there)); done))) | ((focus ((repeat (first | (apply Has.among; assumption) | apply Has.there)); done)))) (VO.nil ⟨rfl, ⟨mz, Imp.refl _⟩, trivial⟩)
        refine ⟨rfl, .slice (some ⟨bk, if c = 1 then o else o + 1 * 11, none⟩) (kids.length - 1) (c - 1), True, fun Γ H hΓ hH => ?_, ?_⟩
        · obtain ⟨mz, hz⟩ := hH
          refine VO.imp hz ?_
          exact st_slcL1 (hΓ 88 (by decide) _ rfl) rfl (l := 1) rfl (by omega) (VO.nil ⟨rfl, ⟨mz, Imp.refl _⟩, trivial⟩)
        refine ⟨rfl, vi dA, φA, fun Γ H hΓ hH => ?_, ?_⟩
        · obtain ⟨mz, hz⟩ := hH
          refine VO.imp hz ?_
          refine st_callZ (hAz mz) (by simp only [V.evs, V.ev, hΓ 84 (by decide) _ rfl, hΓ 86 (by decide) _ rfl, hΓ 89 (by decide) _ rfl]) (by exact SPx) (fun v Post hv => ?_) (fun ch Post hz => ?_)
          · obtain ⟨rfl, hφ, m', rfl⟩ := hv
            exact VO.nil ⟨rfl, ⟨m', Imp.refl _⟩, hφ⟩
          · obtain ⟨rfl, m', rfl⟩ := hz
            exact ⟨rfl, m', by exact IMx⟩
        refine ⟨rfl, vi (max dF dA : Nat), True, fun Γ H hΓ hH => ?_, ?_⟩
        · obtain ⟨mz, hz⟩ := hH
          refine VO.imp hz ?_
          exact st_max (by simp only [V.ev, hΓ 83 (by decide) _ rfl]) (by simp only [V.ev, hΓ 90 (by decide) _ rfl]) (VO.nil ⟨rfl, ⟨mz, Imp.refl _⟩, trivial⟩)
        refine ⟨rfl, vi (max dF dA : Nat), True, fun Γ H hΓ hH => ?_, ?_⟩
        · obtain ⟨mz, hz⟩ := hH
          refine VO.imp hz ?_
          exact st_mv (hΓ 91 (by decide) _ rfl) (VO.nil ⟨rfl, ⟨mz, Imp.refl _⟩, trivial⟩)
        exact fun hh => by
          simp only [true_and, and_true] at hh
          rcases hno with h1 | h1
          · exact hFφ hh.1 h1
          · exact hAφ hh.2 h1
      rcases List.mem_cons.1 hrs with rfl | hrs
      · skip
        refine ⟨rfl, ptr0 lb, True, fun Γ H hΓ hH => ?_, ?_⟩
        · obtain ⟨mz, hz⟩ := hH
          refine VO.imp hz ?_
          exact st_mv (hΓ 0 (by decide) _ rfl) (VO.nil ⟨rfl, ⟨mz, Imp.refl _⟩, trivial⟩)
        refine ⟨rfl, .pointer (some ⟨q, 9, none⟩), True, fun Γ H hΓ hH => ?_, ?_⟩
        · obtain ⟨mz, hz⟩ := hH
          refine VO.imp hz ?_
          exact st_fld (hΓ 3 (by decide) _ rfl) rfl (VO.nil ⟨rfl, ⟨mz, Imp.refl _⟩, trivial⟩)
        refine ⟨rfl, .slice (some ⟨bk, o, none⟩) kids.length c, True, fun Γ H hΓ hH => ?_, ?_⟩
        · obtain ⟨mz, hz⟩ := hH
          refine VO.imp hz ?_
          exact st_load1 (hΓ 77 (by decide) _ rfl) (by first | ((focus ((repeat (first | (apply Has.cells; omega; rfl) | apply Has.there)); done))) | ((focus ((repeat (first | (apply Has.among; assumption) | apply Has.there)); done)))) (VO.nil ⟨rfl, ⟨mz, Imp.refl _⟩, trivial⟩)
        refine ⟨rfl, .pointer (some ⟨bk, o, none⟩), True, fun Γ H hΓ hH => ?_, ?_⟩
        · obtain ⟨mz, hz⟩ := hH
          refine VO.imp hz ?_
          exact st_idxL (hΓ 78 (by decide) _ rfl) rfl (by omega) (by ((try simp only [Nat.zero_add, Nat.add_zero, Nat.reduceAdd, Nat.reduceMul, Nat.add_assoc, Int.toNat_natCast, Nat.mul_one]); rfl)) (VO.nil ⟨rfl, ⟨mz, Imp.refl _⟩, trivial⟩)
        refine ⟨rfl, .agg (us 0).toArray, True, fun Γ H hΓ hH => ?_, ?_⟩
        · obtain ⟨mz, hz⟩ := hH
          refine VO.imp hz ?_
          exact st_loadA (hΓ 79 (by decide) _ rfl) (fun z hz => List.mem_append_left _ (hym z hz)) hyl (VO.nil ⟨rfl, ⟨mz, Imp.refl _⟩, trivial⟩)
        refine ⟨rfl, .pointer (some ⟨q, 1, none⟩), True, fun Γ H hΓ hH => ?_, ?_⟩
        · obtain ⟨mz, hz⟩ := hH
          refine VO.imp hz ?_
          exact st_fld (hΓ 3 (by decide) _ rfl) rfl (VO.nil ⟨rfl, ⟨mz, Imp.refl _⟩, trivial⟩)
        refine ⟨rfl, .string s, True, fun Γ H hΓ hH => ?_, ?_⟩
        · obtain ⟨mz, hz⟩ := hH
          refine VO.imp hz ?_
          exact st_load1 (hΓ 81 (by decide) _ rfl) (by first | ((focus ((repeat (first | (apply Has.cells; omega; rfl) | apply Has.there)); done))) | ((focus ((repeat (first | (apply Has.among; assumption) | apply Has.there)); done)))) (VO.nil ⟨rfl, ⟨mz, Imp.refl _⟩, trivial⟩)
        refine ⟨rfl, ptr0 lb, True, fun Γ H hΓ hH => ?_, ?_⟩
        · obtain ⟨mz, hz⟩ := hH
          refine VO.imp hz ?_
          exact st_mv (hΓ 0 (by decide) _ rfl) (VO.nil ⟨rfl, ⟨mz, Imp.refl _⟩, trivial⟩)
        refine ⟨rfl, .pointer (some ⟨q, 1, none⟩), True, fun Γ H hΓ hH => ?_, ?_⟩
        · obtain ⟨mz, hz⟩ := hH
          refine VO.imp hz ?_
          exact st_fld (hΓ 3 (by decide) _ rfl) rfl (VO.nil ⟨rfl, ⟨mz, Imp.refl _⟩, trivial⟩)
        refine ⟨rfl, .pointer (some ⟨q, 9, none⟩), True, fun Γ H hΓ hH => ?_, ?_⟩
        · obtain ⟨mz, hz⟩ := hH
          refine VO.imp hz ?_
          exact st_fld (hΓ 3 (by decide) _ rfl) rfl (VO.nil ⟨rfl, ⟨mz, Imp.refl _⟩, trivial⟩)
        refine ⟨rfl, .slice (some ⟨bk, o, none⟩) kids.length c, True, fun Γ H hΓ hH => ?_, ?_⟩
        · obtain ⟨mz, hz⟩ := hH
          refine VO.imp hz ?_
          exact st_load1 (hΓ 87 (by decide) _ rfl) (by first | ((focus ((repeat (first | (apply Has.cells; omega; rfl) | apply Has.there)); done))) | ((focus ((repeat (first | (apply Has.among; assumption) | apply Has.there)); done)))) (VO.nil ⟨rfl, ⟨mz, Imp.refl _⟩, trivial⟩)
        refine ⟨rfl, vi dF, φF, fun Γ H hΓ hH => ?_, ?_⟩
        · obtain ⟨mz, hz⟩ := hH
          refine VO.imp hz ?_
          refine st_callZ (hFz mz) (by simp only [V.evs, V.ev, hΓ 76 (by decide) _ rfl, hΓ 80 (by decide) _ rfl, hΓ 82 (by decide) _ rfl]) (by exact SPx) (fun v Post hv => ?_) (fun ch Post hz => ?_)
          · obtain ⟨rfl, hφ, m', rfl⟩ := hv
            exact VO.nil ⟨rfl, ⟨m', Imp.refl _⟩, hφ⟩
          · obtain ⟨rfl, m', rfl⟩ := hz
            exact ⟨rfl, m', by exact IMx⟩
        refine ⟨rfl, .string s, True, fun Γ H hΓ hH => ?_, ?_⟩
        · obtain ⟨mz, hz⟩ := hH
          refine VO.imp hz ?_
          exact st_load1 (hΓ 85 (by decide) _ rfl) (by first | ((focus ((repeat (first | (apply Has.cells; omega; rfl) | apply Has.there)); done))) | ((focus ((repeat (first | (apply Has.among; assumption) | apply Has.there)); done)))) (VO.nil ⟨rfl, ⟨mz, Imp.refl _⟩, trivial⟩)
        refine ⟨rfl, .slice (some ⟨bk, if c = 1 then o else o + 1 * 11, none⟩) (kids.length - 1) (c - 1), True, fun Γ H hΓ hH => ?_, ?_⟩
        · obtain ⟨mz, hz⟩ := hH
          refine VO.imp hz ?_
          exact st_slcL1 (hΓ 88 (by decide) _ rfl) rfl (l := 1) rfl (by omega) (VO.nil ⟨rfl, ⟨mz, Imp.refl _⟩, trivial⟩)
        refine ⟨rfl, vi dA, φA, fun Γ H hΓ hH => ?_, ?_⟩
        · obtain ⟨mz, hz⟩ := hH
          refine VO.imp hz ?_
          refine st_callZ (hAz mz) (by simp only [V.evs, V.ev, hΓ 84 (by decide) _ rfl, hΓ 86 (by decide) _ rfl, hΓ 89 (by decide) _ rfl]) (by exact SPx) (fun v Post hv => ?_) (fun ch Post hz => ?_)
          · obtain ⟨rfl, hφ, m', rfl⟩ := hv
            exact VO.nil ⟨rfl, ⟨m', Imp.refl _⟩, hφ⟩
          · obtain ⟨rfl, m', rfl⟩ := hz
            exact ⟨rfl, m', by exact IMx⟩
        refine ⟨rfl, vi (max dF dA : Nat), True, fun Γ H hΓ hH => ?_, ?_⟩
        · obtain ⟨mz, hz⟩ := hH
          refine VO.imp hz ?_
          exact st_max (by simp only [V.ev, hΓ 83 (by decide) _ rfl]) (by simp only [V.ev, hΓ 90 (by decide) _ rfl]) (VO.nil ⟨rfl, ⟨mz, Imp.refl _⟩, trivial⟩)
        refine ⟨rfl, vi (max dF dA : Nat), True, fun Γ H hΓ hH => ?_, ?_⟩
        · obtain ⟨mz, hz⟩ := hH
          refine VO.imp hz ?_
          exact st_mv (hΓ 91 (by decide) _ rfl) (VO.nil ⟨rfl, ⟨mz, Imp.refl _⟩, trivial⟩)
        exact fun hh => by
          simp only [true_and, and_true] at hh
          rcases hno with h1 | h1
          · exact hFφ hh.1 h1
          · exact hAφ hh.2 h1
      rcases List.mem_cons.1 hrs with rfl | hrs
      · skip
        refine ⟨rfl, ptr0 lb, True, fun Γ H hΓ hH => ?_, ?_⟩
        · obtain ⟨mz, hz⟩ := hH
          refine VO.imp hz ?_
          exact st_mv (hΓ 0 (by decide) _ rfl) (VO.nil ⟨rfl, ⟨mz, Imp.refl _⟩, trivial⟩)
        refine ⟨rfl, .pointer (some ⟨q, 9, none⟩), True, fun Γ H hΓ hH => ?_, ?_⟩
        · obtain ⟨mz, hz⟩ := hH
          refine VO.imp hz ?_
          exact st_fld (hΓ 3 (by decide) _ rfl) rfl (VO.nil ⟨rfl, ⟨mz, Imp.refl _⟩, trivial⟩)
        refine ⟨rfl, .slice (some ⟨bk, o, none⟩) kids.length c, True, fun Γ H hΓ hH => ?_, ?_⟩
        · obtain ⟨mz, hz⟩ := hH
          refine VO.imp hz ?_
          exact st_load1 (hΓ 77 (by decide) _ rfl) (by first | ((focus ((repeat (first | (apply Has.cells; omega; rfl) | apply Has.there)); done))) | ((focus ((repeat (first | (apply Has.among; assumption) | apply Has.there)); done)))) (VO.nil ⟨rfl, ⟨mz, Imp.refl _⟩, trivial⟩)
        refine ⟨rfl, .pointer (some ⟨bk, o, none⟩), True, fun Γ H hΓ hH => ?_, ?_⟩
        · obtain ⟨mz, hz⟩ := hH
          refine VO.imp hz ?_
          exact st_idxL (hΓ 78 (by decide) _ rfl) rfl (by omega) (by ((try simp only [Nat.zero_add, Nat.add_zero, Nat.reduceAdd, Nat.reduceMul, Nat.add_assoc, Int.toNat_natCast, Nat.mul_one]); rfl)) (VO.nil ⟨rfl, ⟨mz, Imp.refl _⟩, trivial⟩)
        refine ⟨rfl, .agg (us 0).toArray, True, fun Γ H hΓ hH => ?_, ?_⟩
        · obtain ⟨mz, hz⟩ := hH
          refine VO.imp hz ?_
          exact st_loadA (hΓ 79 (by decide) _ rfl) (fun z hz => List.mem_append_left _ (hym z hz)) hyl (VO.nil ⟨rfl, ⟨mz, Imp.refl _⟩, trivial⟩)
        refine ⟨rfl, .pointer (some ⟨q, 1, none⟩), True, fun Γ H hΓ hH => ?_, ?_⟩
        · obtain ⟨mz, hz⟩ := hH
          refine VO.imp hz ?_
          exact st_fld (hΓ 3 (by decide) _ rfl) rfl (VO.nil ⟨rfl, ⟨mz, Imp.refl _⟩, trivial⟩)
        refine ⟨rfl, .string s, True, fun Γ H hΓ hH => ?_, ?_⟩
        · obtain ⟨mz, hz⟩ := hH
          refine VO.imp hz ?_
          exact st_load1 (hΓ 81 (by decide) _ rfl) (by first | ((focus ((repeat (first | (apply Has.cells; omega; rfl) | apply Has.there)); done))) | ((focus ((repeat (first | (apply Has.among; assumption) | apply Has.there)); done)))) (VO.nil ⟨rfl, ⟨mz, Imp.refl _⟩, trivial⟩)
        refine ⟨rfl, ptr0 lb, True, fun Γ H hΓ hH => ?_, ?_⟩
        · obtain ⟨mz, hz⟩ := hH
          refine VO.imp hz ?_
          exact st_mv (hΓ 0 (by decide) _ rfl) (VO.nil ⟨rfl, ⟨mz, Imp.refl _⟩, trivial⟩)
        refine ⟨rfl, .pointer (some ⟨q, 1, none⟩), True, fun Γ H hΓ hH => ?_, ?_⟩
        · obtain ⟨mz, hz⟩ := hH
          refine VO.imp hz ?_
          exact st_fld (hΓ 3 (by decide) _ rfl) rfl (VO.nil ⟨rfl, ⟨mz, Imp.refl _⟩, trivial⟩)
        refine ⟨rfl, .pointer (some ⟨q, 9, none⟩), True, fun Γ H hΓ hH => ?_, ?_⟩
        · obtain ⟨mz, hz⟩ := hH
          refine VO.imp hz ?_
          exact st_fld (hΓ 3 (by decide) _ rfl) rfl (VO.nil ⟨rfl, ⟨mz, Imp.refl _⟩, trivial⟩)
        refine ⟨rfl, .slice (some ⟨bk, o, none⟩) kids.length c, True, fun Γ H hΓ hH => ?_, ?_⟩
        · obtain ⟨mz, hz⟩ := hH
          refine VO.imp hz ?_
          exact st_load1 (hΓ 87 (by decide) _ rfl) (by first | ((focus ((repeat (first | (apply Has.cells; omega; rfl) | apply Has.there)); done))) | ((focus ((repeat (first | (apply Has.among; assumption) | apply Has.there)); done)))) (VO.nil ⟨rfl, ⟨mz, Imp.refl _⟩, trivial⟩)
        refine ⟨rfl, .string s, True, fun Γ H hΓ hH => ?_, ?_⟩
        · obtain ⟨mz, hz⟩ := hH
          refine VO.imp hz ?_
          exact st_load1 (hΓ 85 (by decide) _ rfl) (by first | ((focus ((repeat (first | (apply Has.cells; omega; rfl) | apply Has.there)); done))) | ((focus ((repeat (first | (apply Has.among; assumption) | apply Has.there)); done)))) (VO.nil ⟨rfl, ⟨mz, Imp.refl _⟩, trivial⟩)
        refine ⟨rfl, vi dF, φF, fun Γ H hΓ hH => ?_, ?_⟩
        · obtain ⟨mz, hz⟩ := hH
          refine VO.imp hz ?_
          refine st_callZ (hFz mz) (by simp only [V.evs, V.ev, hΓ 76 (by decide) _ rfl, hΓ 80 (by decide) _ rfl, hΓ 82 (by decide) _ rfl]) (by exact SPx) (fun v Post hv => ?_) (fun ch Post hz => ?_)
          · obtain ⟨rfl, hφ, m', rfl⟩ := hv
            exact VO.nil ⟨rfl, ⟨m', Imp.refl _⟩, hφ⟩
          · obtain ⟨rfl, m', rfl⟩ := hz
            exact ⟨rfl, m', by exact IMx⟩
        refine ⟨rfl, .slice (some ⟨bk, if c = 1 then o else o + 1 * 11, none⟩) (kids.length - 1) (c - 1), True, fun Γ H hΓ hH => ?_, ?_⟩
        · obtain ⟨mz, hz⟩ := hH
          refine VO.imp hz ?_
          exact st_slcL1 (hΓ 88 (by decide) _ rfl) rfl (l := 1) rfl (by omega) (VO.nil ⟨rfl, ⟨mz, Imp.refl _⟩, trivial⟩)
        refine ⟨rfl, vi dA, φA, fun Γ H hΓ hH => ?_, ?_⟩
        · obtain ⟨mz, hz⟩ := hH
          refine VO.imp hz ?_
          refine st_callZ (hAz mz) (by simp only [V.evs, V.ev, hΓ 84 (by decide) _ rfl, hΓ 86 (by decide) _ rfl, hΓ 89 (by decide) _ rfl]) (by exact SPx) (fun v Post hv => ?_) (fun ch Post hz => ?_)
          · obtain ⟨rfl, hφ, m', rfl⟩ := hv
            exact VO.nil ⟨rfl, ⟨m', Imp.refl _⟩, hφ⟩
          · obtain ⟨rfl, m', rfl⟩ := hz
            exact ⟨rfl, m', by exact IMx⟩
        refine ⟨rfl, vi (max dF dA : Nat), True, fun Γ H hΓ hH => ?_, ?_⟩
        · obtain ⟨mz, hz⟩ := hH
          refine VO.imp hz ?_
          exact st_max (by simp only [V.ev, hΓ 83 (by decide) _ rfl]) (by simp only [V.ev, hΓ 90 (by decide) _ rfl]) (VO.nil ⟨rfl, ⟨mz, Imp.refl _⟩, trivial⟩)
        refine ⟨rfl, vi (max dF dA : Nat), True, fun Γ H hΓ hH => ?_, ?_⟩
        · obtain ⟨mz, hz⟩ := hH
          refine VO.imp hz ?_
          exact st_mv (hΓ 91 (by decide) _ rfl) (VO.nil ⟨rfl, ⟨mz, Imp.refl _⟩, trivial⟩)
        exact fun hh => by
          simp only [true_and, and_true] at hh
          rcases hno with h1 | h1
          · exact hFφ hh.1 h1
          · exact hAφ hh.2 h1
      · cases hrs
    · obtain ⟨rfl, m, hi⟩ := hp
      exact ⟨_, hi, hnone, rfl, m, rfl⟩
  obtain ⟨⟨dF, mF⟩, hf⟩ : ∃ p, firstR y s (nodeD y) = some p := Option.ne_none_iff_exists'.1 fun h => hno (.inl h)
  obtain ⟨⟨dA, mA⟩, hal2⟩ : ∃ p, argsR s l (l.map nodeD) = some p := Option.ne_none_iff_exists'.1 fun h => hno (.inr h)
  have hFf := look_some (hF m0) hf
  have hAf := look_some (hA (m0 || mF)) hal2
  refine VC.draws ⟨?_, ?_, ?_, ?_, ?_, ?_, trivial⟩
  · refine GOH ?_
    refine st_loadA (by rfl) (fun z hz => by simp only [List.flatten_cons, List.mem_append]; simp [hym z hz]) hyl ?_
    refine GOH ?_
    refine st_call hFf (by rfl) (by exact SPx) (fun v Post hv => ?_)
    obtain ⟨rfl, rfl⟩ := hv
    simp only [CNx]
    refine GOH ?_
    refine st_slcL1 (by rfl) (by rfl) (l := 1) rfl (by omega) ?_
    refine GOH ?_
    refine st_call hAf (by rfl) (by exact SPx) (fun v Post hv => ?_)
    obtain ⟨rfl, rfl⟩ := hv
    simp only [CNx]
    refine GOH ?_
    rw [show (if (dA : Int) > (dF : Int) then (dA : Int) else (dF : Int)) = ((max dF dA : Nat) : Int) by split <;> omega]
    refine ⟨⟨max dF dA, mF || mA, ⟨#[]⟩, lk, ln, lbt, lt, la, items.length, lc, aa, args.length, ac, ta, temps.length, tc⟩, ?_, by exact SUx, ?_⟩
    · rw [hR4, hf, hal2]
      simp [NodeS.ok, mustR, bothR, har, litZ, Lt.kind, Lt.n, Lt.bits, Lt.text, Lt.items, show (⟨#[]⟩ : ByteArray).size = 0 from rfl]
      simp only [and_assoc]
    · simp only
      rw [← Bool.or_assoc]
      show Imp _ [A, lkA lb (m0 || mF || mA) deep, cellsAt r 0 [cv 4, .string ⟨#[]⟩, cv lk, vi ln, uv lbt, .string lt, .slice la items.length lc, .slice aa args.length ac, .slice ta temps.length tc, .slice none 0 0, vi p]]
      exact IMx
  · refine GOH ?_
    refine st_loadA (by rfl) (fun z hz => by simp only [List.flatten_cons, List.mem_append]; simp [hym z hz]) hyl ?_
    refine GOH ?_
    refine st_call hFf (by rfl) (by exact SPx) (fun v Post hv => ?_)
    obtain ⟨rfl, rfl⟩ := hv
    simp only [CNx]
    refine GOH ?_
    refine st_slcL1 (by rfl) (by rfl) (l := 1) rfl (by omega) ?_
    refine GOH ?_
    refine st_call hAf (by rfl) (by exact SPx) (fun v Post hv => ?_)
    obtain ⟨rfl, rfl⟩ := hv
    simp only [CNx]
    refine GOH ?_
    rw [show (if (dA : Int) > (dF : Int) then (dA : Int) else (dF : Int)) = ((max dF dA : Nat) : Int) by split <;> omega]
    refine ⟨⟨max dF dA, mF || mA, ⟨#[]⟩, lk, ln, lbt, lt, la, items.length, lc, aa, args.length, ac, ta, temps.length, tc⟩, ?_, by exact SUx, ?_⟩
    · rw [hR4, hf, hal2]
      simp [NodeS.ok, mustR, bothR, har, litZ, Lt.kind, Lt.n, Lt.bits, Lt.text, Lt.items, show (⟨#[]⟩ : ByteArray).size = 0 from rfl]
      simp only [and_assoc]
    · simp only
      rw [← Bool.or_assoc]
      show Imp _ [A, lkA lb (m0 || mF || mA) deep, cellsAt r 0 [cv 4, .string ⟨#[]⟩, cv lk, vi ln, uv lbt, .string lt, .slice la items.length lc, .slice aa args.length ac, .slice ta temps.length tc, .slice none 0 0, vi p]]
      exact IMx
  · refine GOH ?_
    refine st_loadA (by rfl) (fun z hz => by simp only [List.flatten_cons, List.mem_append]; simp [hym z hz]) hyl ?_
    refine GOH ?_
    refine st_call hFf (by rfl) (by exact SPx) (fun v Post hv => ?_)
    obtain ⟨rfl, rfl⟩ := hv
    simp only [CNx]
    refine GOH ?_
    refine st_slcL1 (by rfl) (by rfl) (l := 1) rfl (by omega) ?_
    refine GOH ?_
    refine st_call hAf (by rfl) (by exact SPx) (fun v Post hv => ?_)
    obtain ⟨rfl, rfl⟩ := hv
    simp only [CNx]
    refine GOH ?_
    rw [show (if (dA : Int) > (dF : Int) then (dA : Int) else (dF : Int)) = ((max dF dA : Nat) : Int) by split <;> omega]
    refine ⟨⟨max dF dA, mF || mA, ⟨#[]⟩, lk, ln, lbt, lt, la, items.length, lc, aa, args.length, ac, ta, temps.length, tc⟩, ?_, by exact SUx, ?_⟩
    · rw [hR4, hf, hal2]
      simp [NodeS.ok, mustR, bothR, har, litZ, Lt.kind, Lt.n, Lt.bits, Lt.text, Lt.items, show (⟨#[]⟩ : ByteArray).size = 0 from rfl]
      simp only [and_assoc]
    · simp only
      rw [← Bool.or_assoc]
      show Imp _ [A, lkA lb (m0 || mF || mA) deep, cellsAt r 0 [cv 4, .string ⟨#[]⟩, cv lk, vi ln, uv lbt, .string lt, .slice la items.length lc, .slice aa args.length ac, .slice ta temps.length tc, .slice none 0 0, vi p]]
      exact IMx
  · refine GOH ?_
    refine st_loadA (by rfl) (fun z hz => by simp only [List.flatten_cons, List.mem_append]; simp [hym z hz]) hyl ?_
    refine GOH ?_
    refine st_call hFf (by rfl) (by exact SPx) (fun v Post hv => ?_)
    obtain ⟨rfl, rfl⟩ := hv
    simp only [CNx]
    refine GOH ?_
    refine st_slcL1 (by rfl) (by rfl) (l := 1) rfl (by omega) ?_
    refine GOH ?_
    refine st_call hAf (by rfl) (by exact SPx) (fun v Post hv => ?_)
    obtain ⟨rfl, rfl⟩ := hv
    simp only [CNx]
    refine GOH ?_
    rw [show (if (dA : Int) > (dF : Int) then (dA : Int) else (dF : Int)) = ((max dF dA : Nat) : Int) by split <;> omega]
    refine ⟨⟨max dF dA, mF || mA, ⟨#[]⟩, lk, ln, lbt, lt, la, items.length, lc, aa, args.length, ac, ta, temps.length, tc⟩, ?_, by exact SUx, ?_⟩
    · rw [hR4, hf, hal2]
      simp [NodeS.ok, mustR, bothR, har, litZ, Lt.kind, Lt.n, Lt.bits, Lt.text, Lt.items, show (⟨#[]⟩ : ByteArray).size = 0 from rfl]
      simp only [and_assoc]
    · simp only
      rw [← Bool.or_assoc]
      show Imp _ [A, lkA lb (m0 || mF || mA) deep, cellsAt r 0 [cv 4, .string ⟨#[]⟩, cv lk, vi ln, uv lbt, .string lt, .slice la items.length lc, .slice aa args.length ac, .slice ta temps.length tc, .slice none 0 0, vi p]]
      exact IMx
  · refine GOH ?_
    refine st_loadA (by rfl) (fun z hz => by simp only [List.flatten_cons, List.mem_append]; simp [hym z hz]) hyl ?_
    refine GOH ?_
    refine st_call hFf (by rfl) (by exact SPx) (fun v Post hv => ?_)
    obtain ⟨rfl, rfl⟩ := hv
    simp only [CNx]
    refine GOH ?_
    refine st_slcL1 (by rfl) (by rfl) (l := 1) rfl (by omega) ?_
    refine GOH ?_
    refine st_call hAf (by rfl) (by exact SPx) (fun v Post hv => ?_)
    obtain ⟨rfl, rfl⟩ := hv
    simp only [CNx]
    refine GOH ?_
    rw [show (if (dA : Int) > (dF : Int) then (dA : Int) else (dF : Int)) = ((max dF dA : Nat) : Int) by split <;> omega]
    refine ⟨⟨max dF dA, mF || mA, ⟨#[]⟩, lk, ln, lbt, lt, la, items.length, lc, aa, args.length, ac, ta, temps.length, tc⟩, ?_, by exact SUx, ?_⟩
    · rw [hR4, hf, hal2]
      simp [NodeS.ok, mustR, bothR, har, litZ, Lt.kind, Lt.n, Lt.bits, Lt.text, Lt.items, show (⟨#[]⟩ : ByteArray).size = 0 from rfl]
      simp only [and_assoc]
    · simp only
      rw [← Bool.or_assoc]
      show Imp _ [A, lkA lb (m0 || mF || mA) deep, cellsAt r 0 [cv 4, .string ⟨#[]⟩, cv lk, vi ln, uv lbt, .string lt, .slice la items.length lc, .slice aa args.length ac, .slice ta temps.length tc, .slice none 0 0, vi p]]
      exact IMx
  · refine GOH ?_
    refine st_loadA (by rfl) (fun z hz => by simp only [List.flatten_cons, List.mem_append]; simp [hym z hz]) hyl ?_
    refine GOH ?_
    refine st_call hFf (by rfl) (by exact SPx) (fun v Post hv => ?_)
    obtain ⟨rfl, rfl⟩ := hv
    simp only [CNx]
    refine GOH ?_
    refine st_slcL1 (by rfl) (by rfl) (l := 1) rfl (by omega) ?_
    refine GOH ?_
    refine st_call hAf (by rfl) (by exact SPx) (fun v Post hv => ?_)
    obtain ⟨rfl, rfl⟩ := hv
    simp only [CNx]
    refine GOH ?_
    rw [show (if (dA : Int) > (dF : Int) then (dA : Int) else (dF : Int)) = ((max dF dA : Nat) : Int) by split <;> omega]
    refine ⟨⟨max dF dA, mF || mA, ⟨#[]⟩, lk, ln, lbt, lt, la, items.length, lc, aa, args.length, ac, ta, temps.length, tc⟩, ?_, by exact SUx, ?_⟩
    · rw [hR4, hf, hal2]
      simp [NodeS.ok, mustR, bothR, har, litZ, Lt.kind, Lt.n, Lt.bits, Lt.text, Lt.items, show (⟨#[]⟩ : ByteArray).size = 0 from rfl]
      simp only [and_assoc]
    · simp only
      rw [← Bool.or_assoc]
      show Imp _ [A, lkA lb (m0 || mF || mA) deep, cellsAt r 0 [cv 4, .string ⟨#[]⟩, cv lk, vi ln, uv lbt, .string lt, .slice la items.length lc, .slice aa args.length ac, .slice ta temps.length tc, .slice none 0 0, vi p]]
      exact IMx
end Go.Proofs.YtmnmandpdadedaaGreatDoor

/-
  Is a node, and all below it, one of the document's table?
-/
import Derived.Test.YtmnmandpdadedaaGreatDoorT16
import Derived.Test.YtmnmandpdadedaaGreatDoorV14
import Derived.Test.YtmnmandpdadedaaGreatDoorV7
set_option linter.unusedSimpArgs false
set_option linter.unusedVariables false
namespace Go.Proofs.YtmnmandpdadedaaGreatDoor
open Go Go.V
set_option maxHeartbeats 1600000
set_option maxRecDepth 100000
theorem cntB_le (k : Nat) (s : ByteArray) (hs : s.size ≤ 140737488355328) : -1 ≤ cntB k s ∧ cntB k s ≤ 140737488355330 := by
  have := arityS_le s hs
  unfold cntB
  repeat' split
  all_goals omega
theorem Formed_spec (A : List Atom) (hE : ErA A) : ∀ (N : Nat) (x : Nd), x.w ≤ N → x.w ≤ 274877906944 → ∀ vs, NdRd A x vs → Fun Tryz.prog 79 [.agg vs.toArray] [A] (fun v Post => v = .bool (formN x) ∧ Post = [A]) := by
  intro N
  induction N with
  | zero => intro x hx; have := x.w_pos; omega
  | succ N ih =>
    intro x hx hb vs h
    have hone := one_spec A hE x hb vs h
    obtain ⟨e1, e2, e3, e4, e5, e6, e7, e8, e9, e10, e11, e12, e13, a, cc, bk, o, us, hvs, hmany, ha, hm, hr⟩ := nd_at h
    have hwx : Nd.ws x.kids + 1 ≤ x.w := by cases x; simp only [Nd.w, Nd.kids]; omega
    have hsz : x.name.size ≤ 140737488355328 := by cases h with | mk wf => exact wf.name
    have hk256 : x.kind < 256 := by cases h with | mk wf => exact wf.kind
    have hform : formN x = (oneB x.kind x.name x.lit x.args x.temps x.kids.length && !(decide (0 ≤ cntB x.kind x.name) && decide (cntB x.kind x.name ≠ x.kids.length)) && formsN x.kind x.kids.length 0 x.kids) := by cases x; simp only [formN, Nd.kind, Nd.name, Nd.lit, Nd.args, Nd.temps, Nd.kids]; rfl
    rw [hform]
    have hcl := cntB_le x.kind x.name hsz
    generalize hOne : oneB x.kind x.name x.lit x.args x.temps x.kids.length = on at hone ⊢
    generalize hCnt : cntB x.kind x.name = cn at hone hcl ⊢
    rw [hvs] at hone ⊢
    generalize x.kind = k at hone hk256 ⊢
    refine Fun.intro low79 (by simp [n79]) ?_
    refine GOHS ?_
    refine st_box (by rfl) (fun q => ?_)
    simp only [Value.cells]
    refine GOHS ?_
    refine st_call hone (by rfl) (by exact SPx) (fun v Post hv => ?_)
    obtain ⟨rfl, rfl⟩ := hv
    simp only [CNx]
    refine GOHS ?_
    refine VC.join (α := Unit) (fun _ => [(1, ptr0 q)]) (fun _ => [A, cellsAt q 0 [cv k, .string x.name, cv e1, vi e2, uv e3, .string e4, .slice e5 e6 e7, .slice e8 e9 e10, .slice e11 e12 e13, .slice a x.kids.length cc, vi x.at_]]) (fun _ => (on && !(decide (0 ≤ cn) && decide (cn ≠ x.kids.length))) = true) ?_ ?_
    · refine GOH ?_
      cases on with
      | false =>
        refine GOH ?_
        exact endQ_mk (Post := [A]) (.inr rfl) (.tmp (by rfl) .nil) ⟨by simp [tup], rfl⟩ (by exact IMx)
      | true =>
        refine GOH ?_
        by_cases h1 : 0 ≤ cn
        rotate_left
        · skip
          rw [show decide (cn ≥ 0) = false from decide_eq_false (by omega)]
          refine GOH ?_
          exact ⟨(), by simp [h1], by exact SUx, by exact IMx⟩
        rw [show decide (cn ≥ 0) = true from decide_eq_true (by omega)]
        refine GOH ?_
        by_cases h2 : cn = x.kids.length
        · skip
          rw [show decide (cn = (x.kids.length : Int)) = true from decide_eq_true (by omega)]
          refine GOH ?_
          exact ⟨(), by simp [h2], by exact SUx, by exact IMx⟩
        · skip
          rw [show decide (cn = (x.kids.length : Int)) = false from decide_eq_false (by omega)]
          refine GOH ?_
          exact endQ_mk (Post := [A]) (.inr rfl) (.tmp (by rfl) .nil) ⟨by simp [tup, h1, h2], rfl⟩ (by exact IMx)
    rintro ⟨⟩ hok
    rw [hok, Bool.true_and]
    refine GOH ?_
    refine VC.loop (α := Nat) (Γf := fun j => [(1, ptr0 q), (5, vi j)]) (Hf := fun _ => [A, cellsAt q 0 [cv k, .string x.name, cv e1, vi e2, uv e3, .string e4, .slice e5 e6 e7, .slice e8 e9 e10, .slice e11 e12 e13, .slice a x.kids.length cc, vi x.at_]])
      (I := fun j => j ≤ x.kids.length ∧ formsN k x.kids.length 0 x.kids = formsN k x.kids.length j (x.kids.drop j)) (μ := fun j => x.kids.length - j) 0 ⟨Nat.zero_le _, rfl⟩ (by exact SUx) (by exact IMx) ?_
    rintro j ⟨i1, i2⟩
    refine GOH ?_
    by_cases hj : j < x.kids.length
    rotate_left
    · rw [show decide ((j : Int) < (x.kids.length : Int)) = false from decide_eq_false (by omega)]
      rw [List.drop_eq_nil_of_le (by omega)] at i2
      refine GOH ?_
      exact endQ_mk (Post := [A]) (.inr rfl) (.tmp (by rfl) .nil) ⟨by rw [i2]; rfl, rfl⟩ (by exact IMx)
    rw [show decide ((j : Int) < (x.kids.length : Int)) = true from decide_eq_true (by omega)]
    obtain rfl := ha (by omega)
    obtain ⟨y, hy⟩ : ∃ y, x.kids[j]? = some y := ⟨_, List.getElem?_eq_getElem hj⟩
    have hyr := hr j y hy
    have hym := hm j hj
    have hyl := hyr.len
    have hzw : y.w ≤ Nd.ws x.kids := Nd.ws_mem (List.mem_of_getElem? hy)
    have hcall := ih y (by omega) (by omega) _ hyr
    have hdrop : x.kids.drop j = y :: x.kids.drop (j + 1) := by
      obtain ⟨h1, h2⟩ := List.getElem?_eq_some_iff.1 hy
      rw [List.drop_eq_getElem_cons h1, h2]
    rw [hdrop] at i2
    simp only [formsN] at i2
    generalize us j = uj at hyr hym hcall hyl
    have hsn : superN y = superKS y.kind y.name := rfl
    obtain ⟨f1, f2, f3, f4, f5, f6, f7, f8, f9, f10, f11, f12, f13, f14, f15, f16, f17, rfl, hys, hyk⟩ := nd_open2 hyr
    refine GOH ?_
    refine st_loadA (by rfl) (fun z hz => List.mem_append_left _ (hym z hz)) rfl ?_
    refine GOH ?_
    refine st_alloc (fun q6 => ?_)
    refine GOH ?_
    refine st_call hcall (by rfl) (by exact SPx) (fun v Post hv => ?_)
    obtain ⟨rfl, rfl⟩ := hv
    simp only [CNx]
    generalize formN y = fy at i2 ⊢
    refine GOH ?_
    refine VO.bool 53 (decide (j = 0) && (decide (k = 4) || decide (k = 5))) (by rfl) ?_ ?_
    · by_cases j0 : j = 0
      rotate_left
      · skip
        rw [show decide ((j : Int) = 0) = false from decide_eq_false (by omega)]
        refine GOH ?_
        exact ⟨by simp [j0], by exact SUx, by exact IMx⟩
      rw [show decide ((j : Int) = 0) = true from decide_eq_true (by omega)]
      refine GOH ?_
      by_cases k4 : k = 4
      · skip
        rw [show decide ((k : Int) = 4) = true from decide_eq_true (by omega)]
        refine GOH ?_
        exact ⟨by simp [j0, k4], by exact SUx, by exact IMx⟩
      rw [show decide ((k : Int) = 4) = false from decide_eq_false (by omega)]
      refine GOH ?_
      by_cases k5 : k = 5
      · skip
        rw [show decide ((k : Int) = 5) = true from decide_eq_true (by omega)]
        refine GOH ?_
        exact ⟨by simp [j0, k4, k5], by exact SUx, by exact IMx⟩
      rw [show decide ((k : Int) = 5) = false from decide_eq_false (by omega)]
      refine GOH ?_
      exact ⟨by simp [j0, k4, k5], by exact SUx, by exact IMx⟩
    generalize hfst : (decide (j = 0) && (decide (k = 4) || decide (k = 5))) = fst
    refine GOH ?_
    refine VO.bool 64 (decide (j + 1 = x.kids.length) && decide (k = 7)) (by rfl) ?_ ?_
    · by_cases j0 : j + 1 = x.kids.length
      rotate_left
      · skip
        rw [show decide ((j : Int) = (x.kids.length : Int) - 1) = false from decide_eq_false (by omega)]
        refine GOH ?_
        exact ⟨by simp [j0], by exact SUx, by exact IMx⟩
      rw [show decide ((j : Int) = (x.kids.length : Int) - 1) = true from decide_eq_true (by omega)]
      refine GOH ?_
      by_cases k7 : k = 7
      · skip
        rw [show decide ((k : Int) = 7) = true from decide_eq_true (by omega)]
        refine GOH ?_
        exact ⟨by simp [j0, k7], by exact SUx, by exact IMx⟩
      rw [show decide ((k : Int) = 7) = false from decide_eq_false (by omega)]
      refine GOH ?_
      exact ⟨by simp [j0, k7], by exact SUx, by exact IMx⟩
    generalize hlst : (decide (j + 1 = x.kids.length) && decide (k = 7)) = lst
    refine GOH ?_
    refine VO.bool 71 (decide (k = 5) && decide (0 < j)) (by rfl) ?_ ?_
    · by_cases k5 : k = 5
      rotate_left
      · skip
        rw [show decide ((k : Int) = 5) = false from decide_eq_false (by omega)]
        refine GOH ?_
        exact ⟨by simp [k5], by exact SUx, by exact IMx⟩
      rw [show decide ((k : Int) = 5) = true from decide_eq_true (by omega)]
      refine GOH ?_
      by_cases j0 : 0 < j
      · skip
        rw [show decide ((j : Int) > 0) = true from decide_eq_true (by omega)]
        refine GOH ?_
        exact ⟨by simp [k5, j0], by exact SUx, by exact IMx⟩
      rw [show decide ((j : Int) > 0) = false from decide_eq_false (by omega)]
      refine GOH ?_
      exact ⟨by simp [k5, j0], by exact SUx, by exact IMx⟩
    generalize hmsg : (decide (k = 5) && decide (0 < j)) = msg
    have hkb : kidB k x.kids.length j y = (!(superKS y.kind y.name && !fst) && !(decide (y.kind = 9) && !lst) && (decide (y.kind = 6) == msg)) := by
      unfold kidB; rw [hfst, hlst, hmsg, hsn]
    have hsup := superR_spec y.kind y.name (cv f1) (vi f2) (uv f3) (.string f4) (.slice f5 f6 f7) (.slice f8 f9 f10) (.slice f11 f12 f13) (.slice f14 f15 f16) (vi f17)
    generalize superKS y.kind y.name = su at hsup hkb
    refine GOH ?_
    refine VO.bool 97 (!(fy && kidB k x.kids.length j y)) (by rfl) ?_ ?_
    · rw [hkb]
      cases fy with
      | false =>
        refine GOH ?_
        exact ⟨by simp, by exact SUx, by exact IMx⟩
      | true =>
        refine GOH ?_
        refine st_callP hsup (by rfl) ?_
        refine VO.bool 81 (su && !fst) (by rfl) ?_ ?_
        · cases su with
          | false =>
            refine GOH ?_
            exact ⟨by simp, by exact SUx, by exact IMx⟩
          | true =>
            refine GOH ?_
            exact ⟨by simp, by exact SUx, by exact IMx⟩
        generalize (su && !fst) = b1
        cases b1 with
        | true =>
          refine GOH ?_
          exact ⟨by simp, by exact SUx, by exact IMx⟩
        | false =>
          refine GOH ?_
          refine VO.bool 90 (decide (y.kind = 9) && !lst) (by rfl) ?_ ?_
          · by_cases k9 : y.kind = 9
            · skip
              rw [show decide ((y.kind : Int) = 9) = true from decide_eq_true (by omega)]
              refine GOH ?_
              exact ⟨by simp [k9], by exact SUx, by exact IMx⟩
            · skip
              rw [show decide ((y.kind : Int) = 9) = false from decide_eq_false (by omega)]
              refine GOH ?_
              exact ⟨by simp [k9], by exact SUx, by exact IMx⟩
          generalize (decide (y.kind = 9) && !lst) = b2
          cases b2 with
          | true =>
            refine GOH ?_
            exact ⟨by simp, by exact SUx, by exact IMx⟩
          | false =>
            refine GOH ?_
            refine ⟨?_, by exact SUx, by exact IMx⟩
            rw [show decide ((y.kind : Int) = 6) = decide (y.kind = 6) from decide_eq_decide.2 ⟨fun h => by omega, fun h => by omega⟩]
            cases decide (y.kind = 6) <;> cases msg <;> rfl
    generalize (fy && kidB k x.kids.length j y) = good at i2 ⊢
    cases good with
    | true =>
      refine GOH ?_
      exact ⟨j + 1, ⟨by omega, by rw [i2]; simp⟩, by omega, by exact SUx, by exact IMx⟩
    | false =>
      refine GOH ?_
      exact endQ_mk (Post := [A]) (.inr rfl) (.tmp (by rfl) .nil) ⟨by rw [i2]; simp [tup], rfl⟩ (by exact IMx)
theorem Many_spec (A : List Atom) : ∀ (N : Nat) (x : Nd), x.w ≤ N → ∀ vs, NdRd A x vs → Fun Tryz.prog 68 [.agg vs.toArray] [A] (fun v Post => v = .bool (manyN x) ∧ Post = [A]) := by
  intro N
  induction N with
  | zero => intro x hx; have := x.w_pos; omega
  | succ N ih =>
    intro x hx vs h
    cases h with
    | @mk k s lit args temps kids p lv av tv a c bk o us wf hl hav htv ha hm hr hcp =>
    simp only [Nd.w] at hx
    have hlit := litMany_spec A _ lit (Nat.le_refl _) lv hl
    have hmany := wf.many
    have hk256 := wf.kind
    cases hl with
    | @mk lk ln lb lt items la lc lbk lo lus lwf lha lhm lhr =>
    obtain ⟨aa, ac, rfl, hal, har⟩ := hav
    obtain ⟨ta, tc, rfl, htl, htr⟩ := htv
    have hall : manyN (.mk k s (.mk lk ln lb lt items) args temps kids p) = (((litM (.mk lk ln lb lt items) || decide (15 < args.length)) || decide (63 < temps.length)) || (((decide (k = 4) && decide (16 < kids.length)) || (decide (k = 6) && decide (15 < kids.length))) || (decide (k = 5) && decide (256 < kids.length))) || (decide (k = 8) && decide (255 < kids.length)) || kids.any manyN) := by
      simp only [manyN, manysN_eq, Bool.or_assoc]
    rw [hall]
    generalize litM (.mk lk ln lb lt items) = lm at hlit ⊢
    refine Fun.intro low68 (by simp [n68]) ?_
    simp only [CNx]
    refine GOHS ?_
    refine st_box (by rfl) (fun q => ?_)
    simp only [Value.cells]
    refine GOHS ?_
    refine st_call hlit (by rfl) (by exact SPx) (fun v Post hv => ?_)
    obtain ⟨rfl, rfl⟩ := hv
    simp only [CNx]
    refine GOHS ?_
    refine VC.join (α := Unit) (fun _ => [(1, ptr0 q)]) (fun _ => [A, cellsAt q 0 [cv k, .string s, cv lk, vi ln, uv lb, .string lt, .slice la items.length lc, .slice aa args.length ac, .slice ta temps.length tc, .slice a kids.length c, vi p]]) (fun _ => ((lm || decide (15 < args.length)) || decide (63 < temps.length)) = false) ?_ ?_
    · refine GOH ?_
      cases lm with
      | true =>
        refine GOH ?_
        exact endQ_mk (Post := [A]) (.inr rfl) (.tmp (by rfl) .nil) ⟨by simp [tup], rfl⟩ (by exact IMx)
      | false =>
        refine GOH ?_
        by_cases h1 : 15 < args.length
        · skip
          rw [show decide ((args.length : Int) > 15) = true from decide_eq_true (by omega)]
          refine GOH ?_
          exact endQ_mk (Post := [A]) (.inr rfl) (.tmp (by rfl) .nil) ⟨by simp [tup, h1], rfl⟩ (by exact IMx)
        rw [show decide ((args.length : Int) > 15) = false from decide_eq_false (by omega)]
        refine GOH ?_
        by_cases h2 : 63 < temps.length
        · skip
          rw [show decide ((temps.length : Int) > 63) = true from decide_eq_true (by omega)]
          refine GOH ?_
          exact endQ_mk (Post := [A]) (.inr rfl) (.tmp (by rfl) .nil) ⟨by simp [tup, h2], rfl⟩ (by exact IMx)
        rw [show decide ((temps.length : Int) > 63) = false from decide_eq_false (by omega)]
        refine GOH ?_
        exact ⟨(), by simp [h1, h2], by exact SUx, by exact IMx⟩
    rintro ⟨⟩ hb1
    rw [hb1, Bool.false_or]
    refine GOH ?_
    refine VO.bool 42 ((decide (k = 4) && decide (16 < kids.length)) || (decide (k = 6) && decide (15 < kids.length))) (by rfl) ?_ ?_
    · by_cases k4 : k = 4
      · skip
        rw [show decide ((k : Int) = 4) = true from decide_eq_true (by omega)]
        refine GOH ?_
        by_cases h1 : 16 < kids.length
        · skip
          rw [show decide ((kids.length : Int) > 16) = true from decide_eq_true (by omega)]
          refine GOH ?_
          exact ⟨by simp [k4, h1], by exact SUx, by exact IMx⟩
        rw [show decide ((kids.length : Int) > 16) = false from decide_eq_false (by omega)]
        refine GOH ?_
        rw [show decide ((k : Int) = 6) = false from decide_eq_false (by omega)]
        refine GOH ?_
        exact ⟨by simp [k4, h1], by exact SUx, by exact IMx⟩
      rw [show decide ((k : Int) = 4) = false from decide_eq_false (by omega)]
      refine GOH ?_
      by_cases k6 : k = 6
      · skip
        rw [show decide ((k : Int) = 6) = true from decide_eq_true (by omega)]
        refine GOH ?_
        by_cases h1 : 15 < kids.length
        · skip
          rw [show decide ((kids.length : Int) > 15) = true from decide_eq_true (by omega)]
          refine GOH ?_
          exact ⟨by simp [k6, h1], by exact SUx, by exact IMx⟩
        rw [show decide ((kids.length : Int) > 15) = false from decide_eq_false (by omega)]
        refine GOH ?_
        exact ⟨by simp [k6, h1], by exact SUx, by exact IMx⟩
      rw [show decide ((k : Int) = 6) = false from decide_eq_false (by omega)]
      refine GOH ?_
      exact ⟨by simp [k4, k6], by exact SUx, by exact IMx⟩
    generalize ((decide (k = 4) && decide (16 < kids.length)) || (decide (k = 6) && decide (15 < kids.length))) = b1
    refine GOHS ?_
    refine VC.join (α := Unit) (fun _ => [(1, ptr0 q)]) (fun _ => [A, cellsAt q 0 [cv k, .string s, cv lk, vi ln, uv lb, .string lt, .slice la items.length lc, .slice aa args.length ac, .slice ta temps.length tc, .slice a kids.length c, vi p]]) (fun _ => ((b1 || (decide (k = 5) && decide (256 < kids.length))) || (decide (k = 8) && decide (255 < kids.length))) = false) ?_ ?_
    · refine GOH ?_
      cases b1 with
      | true =>
        refine GOH ?_
        exact endQ_mk (Post := [A]) (.inr rfl) (.tmp (by rfl) .nil) ⟨by simp [tup], rfl⟩ (by exact IMx)
      | false =>
        refine GOH ?_
        refine VO.bool 54 (decide (k = 5) && decide (256 < kids.length)) (by rfl) ?_ ?_
        · by_cases k5 : k = 5
          · skip
            rw [show decide ((k : Int) = 5) = true from decide_eq_true (by omega)]
            refine GOH ?_
            by_cases h1 : 256 < kids.length
            · skip
              rw [show decide ((kids.length : Int) > 256) = true from decide_eq_true (by omega)]
              refine GOH ?_
              exact ⟨by simp [k5, h1], by exact SUx, by exact IMx⟩
            rw [show decide ((kids.length : Int) > 256) = false from decide_eq_false (by omega)]
            refine GOH ?_
            exact ⟨by simp [k5, h1], by exact SUx, by exact IMx⟩
          rw [show decide ((k : Int) = 5) = false from decide_eq_false (by omega)]
          refine GOH ?_
          exact ⟨by simp [k5], by exact SUx, by exact IMx⟩
        generalize (decide (k = 5) && decide (256 < kids.length)) = b2
        cases b2 with
        | true =>
          refine GOH ?_
          exact endQ_mk (Post := [A]) (.inr rfl) (.tmp (by rfl) .nil) ⟨by simp [tup], rfl⟩ (by exact IMx)
        | false =>
          refine GOH ?_
          by_cases k8 : k = 8
          · skip
            rw [show decide ((k : Int) = 8) = true from decide_eq_true (by omega)]
            refine GOH ?_
            by_cases h1 : 255 < kids.length
            · skip
              rw [show decide ((kids.length : Int) > 255) = true from decide_eq_true (by omega)]
              refine GOH ?_
              exact endQ_mk (Post := [A]) (.inr rfl) (.tmp (by rfl) .nil) ⟨by simp [tup, k8, h1], rfl⟩ (by exact IMx)
            rw [show decide ((kids.length : Int) > 255) = false from decide_eq_false (by omega)]
            refine GOH ?_
            exact ⟨(), by simp [h1], by exact SUx, by exact IMx⟩
          rw [show decide ((k : Int) = 8) = false from decide_eq_false (by omega)]
          refine GOH ?_
          exact ⟨(), by simp [k8], by exact SUx, by exact IMx⟩
    rintro ⟨⟩ hb2
    rw [hb2, Bool.false_or]
    refine GOH ?_
    refine VC.loop (α := Nat) (Γf := fun j => [(1, ptr0 q), (5, vi j)]) (Hf := fun _ => [A, cellsAt q 0 [cv k, .string s, cv lk, vi ln, uv lb, .string lt, .slice la items.length lc, .slice aa args.length ac, .slice ta temps.length tc, .slice a kids.length c, vi p]])
      (I := fun j => j ≤ kids.length ∧ (kids.take j).any manyN = false) (μ := fun j => kids.length - j) 0 ⟨Nat.zero_le _, rfl⟩ (by exact SUx) (by exact IMx) ?_
    rintro j ⟨i1, i2⟩
    refine GOH ?_
    by_cases hj : j < kids.length
    rotate_left
    · rw [List.take_of_length_le (by omega)] at i2
      rw [show decide ((j : Int) < (kids.length : Int)) = false from decide_eq_false (by omega)]
      refine GOH ?_
      exact endQ_mk (Post := [A]) (.inr rfl) (.tmp (by rfl) .nil) ⟨by rw [i2]; rfl, rfl⟩ (by exact IMx)
    rw [show decide ((j : Int) < (kids.length : Int)) = true from decide_eq_true (by omega)]
    obtain rfl := ha (by omega)
    obtain ⟨y, hy⟩ : ∃ y, kids[j]? = some y := ⟨_, List.getElem?_eq_getElem hj⟩
    have hyr := hr j y hy
    have hym := hm j hj
    have hyl := hyr.len
    have hzw : y.w ≤ Nd.ws kids := Nd.ws_mem (List.mem_of_getElem? hy)
    have hcall := ih y (by omega) _ hyr
    have htk : kids.take (j + 1) = kids.take j ++ [y] := by rw [List.take_add_one, hy]; rfl
    generalize us j = uj at hyr hym hcall hyl
    refine GOH ?_
    refine st_loadA (by rfl) (fun z hz => List.mem_append_left _ (hym z hz)) hyl ?_
    refine GOH ?_
    refine st_call hcall (by rfl) (by exact SPx) (fun v Post hv => ?_)
    obtain ⟨rfl, rfl⟩ := hv
    simp only [CNx]
    cases hmy : manyN y with
    | true =>
      have : kids.any manyN = true := List.any_eq_true.2 ⟨y, List.mem_of_getElem? hy, hmy⟩
      refine GOH ?_
      exact endQ_mk (Post := [A]) (.inr rfl) (.tmp (by rfl) .nil) ⟨by rw [this]; rfl, rfl⟩ (by exact IMx)
    | false =>
      refine GOH ?_
      exact ⟨j + 1, ⟨by omega, by rw [htk]; simp [i2, hmy]⟩, by omega, by exact SUx, by exact IMx⟩
theorem formsN_at {k m : Nat} : ∀ {l : List Nd} {i : Nat}, formsN k m i l = true → ∀ j y, l[j]? = some y → formN y = true ∧ kidB k m (i + j) y = true := by
  intro l
  induction l with
  | nil => intro i _ j y h; simp at h
  | cons z r ih =>
    intro i h j y hy
    simp only [formsN, Bool.and_eq_true] at h
    cases j with
    | zero => cases hy; exact h.1
    | succ j =>
      have := ih h.2 j y (by simpa using hy)
      rwa [show i + 1 + j = i + (j + 1) by omega] at this
theorem form_kids {x : Nd} (h : formN x = true) : ∀ j y, x.kids[j]? = some y → formN y = true ∧ kidB x.kind x.kids.length j y = true := by
  cases x with
  | mk k s lit args temps kids p =>
  simp only [formN, Bool.and_eq_true] at h
  intro j y hy
  have := formsN_at h.2 j y hy
  rwa [Nat.zero_add] at this
theorem form_arity {x : Nd} (h : formN x = true) (hk : x.kind = 4 ∨ x.kind = 6) : 0 ≤ arityS x.name := by
  cases x with
  | mk k s lit args temps kids p =>
  simp only [formN, Bool.and_eq_true] at h
  have h1 := h.1.1
  simp only [Nd.kind, Nd.name] at hk ⊢
  rcases hk with rfl | rfl
  · simp [oneB] at h1; exact h1.1.1
  · simp [oneB] at h1; exact h1.1.1
theorem form_casc {x : Nd} (h : formN x = true) (hk : x.kind = 5) : ∃ y, x.kids[1]? = some y ∧ y.kind = 6 ∧ 0 ≤ arityS y.name ∧ askS x.kind x.name x.kids = y.name := by
  have hkids := form_kids h
  cases x with
  | mk k s lit args temps kids p =>
  simp only [formN, Bool.and_eq_true] at h
  have h1 := h.1.1
  simp only [Nd.kind, Nd.name, Nd.kids] at hk hkids ⊢
  subst hk
  simp [oneB] at h1
  rcases kids with _ | ⟨y, _ | ⟨z, r⟩⟩
  · simp at h1
  · simp at h1
  · obtain ⟨g1, g2⟩ := hkids 1 z rfl
    have g3 : z.kind = 6 := by simp [kidB] at g2; exact g2.2
    exact ⟨z, rfl, g3, form_arity g1 (.inr g3), rfl⟩
theorem asks_spec (A : List Atom) (x : Nd) (vs : List Value) (h : NdRd A x vs) (hf : formN x = true) (i : Nat) : Fun Tryz.prog 140 [.agg vs.toArray, vi i] [A] (fun v Post => v = vi (asksN x.kind (askS x.kind x.name x.kids) i) ∧ Post = [A]) := by
  obtain ⟨e1, e2, e3, e4, e5, e6, e7, e8, e9, e10, e11, e12, e13, a, cc, bk, o, us, hvs, hmany, ha, hm, hr⟩ := nd_at h
  have hsz : x.name.size ≤ 140737488355328 := by cases h with | mk wf => exact wf.name
  have hk256 : x.kind < 256 := by cases h with | mk wf => exact wf.kind
  have har := @form_arity x hf
  have hca := @form_casc x hf
  have hask : ¬ x.kind = 5 → askS x.kind x.name x.kids = x.name := fun e => if_neg e
  rw [hvs]
  generalize hS : askS x.kind x.name x.kids = S at hca hask ⊢
  generalize x.kind = k at *
  generalize x.name = s at *
  refine Fun.intro low140 (by simp [n140]) ?_
  refine GOHS ?_
  refine st_box (by rfl) (fun q => ?_)
  simp only [Value.cells]
  refine GOHS ?_
  refine VO.bool 16 (decide (i = 0) && decide (k = 4)) (by rfl) ?_ ?_
  · by_cases i0 : i = 0
    · skip
      rw [show decide ((i : Int) = 0) = true from decide_eq_true (by omega)]
      refine GOH ?_
      exact ⟨by simp only [Option.some.injEq, Value.bool.injEq, i0, decide_true, Bool.true_and]; exact decide_eq_decide.2 ⟨fun h => by omega, fun h => by omega⟩, by exact SUx, by exact IMx⟩
    · skip
      rw [show decide ((i : Int) = 0) = false from decide_eq_false (by omega)]
      refine GOH ?_
      exact ⟨by simp [i0], by exact SUx, by exact IMx⟩
  refine GOHS ?_
  refine VC.join (α := Unit) (fun _ => [(1, vi i), (2, ptr0 q), (5, .string S), (6, .bool (decide (i = 0) && (decide (k = 4) || decide (k = 5))))]) (fun _ => [A, cellsAt q 0 [cv k, .string s, cv e1, vi e2, uv e3, .string e4, .slice e5 e6 e7, .slice e8 e9 e10, .slice e11 e12 e13, .slice a x.kids.length cc, vi x.at_]]) (fun _ => S.size ≤ 140737488355328) ?_ ?_
  · refine GOH ?_
    by_cases k5 : k = 5
    · obtain ⟨z, hz, hz6, hza, hSz⟩ := hca k5
      have hl := (List.getElem?_eq_some_iff.1 hz).1
      obtain rfl := ha (by omega)
      have hzr := hr 1 z hz
      have hzm := hm 1 hl
      generalize us 1 = uj at hzr hzm
      obtain ⟨f1, f2, f3, f4, f5, f6, f7, f8, f9, f10, f11, f12, f13, f14, f15, f16, f17, rfl, hys, hyk⟩ := nd_open2 hzr
      have hcell : Atom.cell bk (o + 1 * 11 + 1) (.string z.name) ∈ A := hzm _ (mem_cellsAt.2 ⟨1, _, rfl, rfl⟩)
      rw [Nat.one_mul] at hcell
      subst k5
      refine GOH ?_
      rw [hSz]
      refine ⟨(), hys, ?_, by exact IMx⟩
      rw [show decide ((i : Int) = 0) = (decide (i = 0) && (decide ((5 : Nat) = 4) || decide ((5 : Nat) = 5))) by simp]
      exact SUx
    · skip
      rw [show decide ((k : Int) = 5) = false from decide_eq_false (by omega)]
      refine GOH ?_
      rw [hask k5] at *
      refine ⟨(), hsz, ?_, by exact IMx⟩
      rw [decide_eq_false k5, Bool.or_false]
      exact SUx
  rintro ⟨⟩ hSs
  have hbind := fun h => bindR_spec S hSs h
  refine GOH ?_
  refine VO.bool 38 ((decide (k = 4) && decide (0 < i)) || decide (k = 6)) (by rfl) ?_ ?_
  · by_cases k4 : k = 4
    · skip
      rw [show decide ((k : Int) = 4) = true from decide_eq_true (by omega)]
      refine GOH ?_
      by_cases i0 : 0 < i
      · skip
        rw [show decide ((i : Int) > 0) = true from decide_eq_true (by omega)]
        refine GOH ?_
        exact ⟨by simp [k4, i0], by exact SUx, by exact IMx⟩
      rw [show decide ((i : Int) > 0) = false from decide_eq_false (by omega)]
      refine GOH ?_
      rw [show decide ((k : Int) = 6) = false from decide_eq_false (by omega)]
      refine GOH ?_
      exact ⟨by simp [k4, i0], by exact SUx, by exact IMx⟩
    rw [show decide ((k : Int) = 4) = false from decide_eq_false (by omega)]
    refine GOH ?_
    exact ⟨by simp only [Option.some.injEq, Value.bool.injEq, k4, decide_false, Bool.false_and, Bool.false_or]; exact decide_eq_decide.2 ⟨fun h => by omega, fun h => by omega⟩, by exact SUx, by exact IMx⟩
  have hSa : k = 4 ∨ k = 5 ∨ k = 6 → 0 ≤ arityS S := fun h => by
    by_cases k5 : k = 5
    · obtain ⟨z, _, _, hza, hSz⟩ := hca k5
      rw [hSz]; exact hza
    · rw [hask k5]; exact har (by omega)
  have hd : asksN k S i = if (decide (i = 0) && (decide (k = 4) || decide (k = 5))) = true then (if bindS S = 5 then 5 else 4) else if ((decide (k = 4) && decide (0 < i)) || decide (k = 6)) = true then (if bindS S = 4 then 5 else 4) else 1 := by
    unfold asksN
    simp
  have hr1 : (decide (i = 0) && (decide (k = 4) || decide (k = 5))) = true → 0 ≤ arityS S := fun h => by
    simp only [Bool.and_eq_true, Bool.or_eq_true, decide_eq_true_eq] at h
    exact hSa (by omega)
  have hr2 : ((decide (k = 4) && decide (0 < i)) || decide (k = 6)) = true → 0 ≤ arityS S := fun h => by
    simp only [Bool.and_eq_true, Bool.or_eq_true, decide_eq_true_eq] at h
    exact hSa (by omega)
  rw [hd]
  generalize (decide (i = 0) && (decide (k = 4) || decide (k = 5))) = b1 at hr1 ⊢
  generalize ((decide (k = 4) && decide (0 < i)) || decide (k = 6)) = b2 at hr2 ⊢
  cases b1 with
  | true =>
    have hbind := hbind (hr1 rfl)
    generalize bindS S = bs at hbind ⊢
    refine GOH ?_
    refine st_callP hbind (by rfl) ?_
    by_cases h5 : bs = 5
    · subst h5
      refine GOH ?_
      exact endQ_mk (Post := [A]) (.inr rfl) (.tmp (by rfl) .nil) ⟨by simp [tup], rfl⟩ (by exact IMx)
    · refine GOH ?_
      rw [show decide ((bs : Int) = 5) = false from decide_eq_false (by omega)]
      refine GOH ?_
      exact endQ_mk (Post := [A]) (.inr rfl) (.tmp (by rfl) .nil) ⟨by simp [tup, h5], rfl⟩ (by exact IMx)
  | false =>
    cases b2 with
    | true =>
      have hbind := hbind (hr2 rfl)
      generalize bindS S = bs at hbind ⊢
      refine GOH ?_
      refine st_callP hbind (by rfl) ?_
      by_cases h5 : bs = 4
      · subst h5
        refine GOH ?_
        exact endQ_mk (Post := [A]) (.inr rfl) (.tmp (by rfl) .nil) ⟨by simp [tup], rfl⟩ (by exact IMx)
      · refine GOH ?_
        rw [show decide ((bs : Int) = 4) = false from decide_eq_false (by omega)]
        refine GOH ?_
        exact endQ_mk (Post := [A]) (.inr rfl) (.tmp (by rfl) .nil) ⟨by simp [tup, h5], rfl⟩ (by exact IMx)
    | false =>
      refine GOH ?_
      exact endQ_mk (Post := [A]) (.inr rfl) (.tmp (by rfl) .nil) ⟨by simp [tup], rfl⟩ (by exact IMx)
theorem bracketed_spec (A : List Atom) (x : Nd) (vs : List Value) (h : NdRd A x vs) (hf : formN x = true) (i : Nat) (y : Nd) (hy : x.kids[i]? = some y) : Fun Tryz.prog 110 [.agg vs.toArray, vi i] [A] (fun v Post => v = .bool (brkB x.kind (askS x.kind x.name x.kids) i y) ∧ Post = [A]) := by
  obtain ⟨e1, e2, e3, e4, e5, e6, e7, e8, e9, e10, e11, e12, e13, a, cc, bk, o, us, hvs, hmany, ha, hm, hr⟩ := nd_at h
  have hl := (List.getElem?_eq_some_iff.1 hy).1
  obtain rfl := ha (by omega)
  have hyr := hr i y hy
  have hym := hm i hl
  obtain ⟨hyf, _⟩ := form_kids hf i y hy
  have har := fun e => @form_arity y hyf (.inl e)
  generalize us i = uj at hyr hym
  obtain ⟨f1, f2, f3, f4, f5, f6, f7, f8, f9, f10, f11, f12, f13, f14, f15, f16, f17, rfl, hys, hyk⟩ := nd_open2 hyr
  have hlev := levelR_spec y.kind y.name hys har (cv f1) (vi f2) (uv f3) (.string f4) (.slice f5 f6 f7) (.slice f8 f9 f10) (.slice f11 f12 f13) (.slice f14 f15 f16) (vi f17)
  have hlv : levelKS y.kind y.name = levelN y := rfl
  rw [hlv] at hlev
  have hask := asks_spec A x vs h hf i
  unfold brkB
  rw [hvs] at hask ⊢
  generalize asksN x.kind (askS x.kind x.name x.kids) i = ak at hask ⊢
  generalize levelN y = lv at hlev ⊢
  refine Fun.intro low110 (by simp [n110]) ?_
  refine GOHS ?_
  refine st_box (by rfl) (fun q => ?_)
  simp only [Value.cells]
  refine GOHS ?_
  refine st_loadA (by rfl) (fun z hz => List.mem_append_right _ (List.mem_append_left _ (hym z hz))) rfl ?_
  refine GOHS ?_
  refine st_alloc (fun q6 => ?_)
  refine GOHS ?_
  refine VC.join (α := Unit) (fun _ => [(1, vi i), (2, ptr0 q), (5, ptr0 q6)]) (fun _ => [A, cellsAt q 0 [cv x.kind, .string x.name, cv e1, vi e2, uv e3, .string e4, .slice e5 e6 e7, .slice e8 e9 e10, .slice e11 e12 e13, .slice (some ⟨bk, o, none⟩) x.kids.length cc, vi x.at_], cellsAt q6 0 [cv y.kind, .string y.name, cv f1, vi f2, uv f3, .string f4, .slice f5 f6 f7, .slice f8 f9 f10, .slice f11 f12 f13, .slice f14 f15 f16, vi f17]]) (fun _ => y.kind ≠ 6 ∧ y.kind ≠ 9) ?_ ?_
  · refine GOH ?_
    by_cases k6 : y.kind = 6
    · skip
      rw [show decide ((y.kind : Int) = 6) = true from decide_eq_true (by omega)]
      refine GOH ?_
      exact endQ_mk (Post := [A]) (.inr rfl) (.tmp (by rfl) .nil) ⟨by simp [tup, k6], rfl⟩ (by exact IMx)
    rw [show decide ((y.kind : Int) = 6) = false from decide_eq_false (by omega)]
    refine GOH ?_
    by_cases k9 : y.kind = 9
    · skip
      rw [show decide ((y.kind : Int) = 9) = true from decide_eq_true (by omega)]
      refine GOH ?_
      exact endQ_mk (Post := [A]) (.inr rfl) (.tmp (by rfl) .nil) ⟨by simp [tup, k9], rfl⟩ (by exact IMx)
    rw [show decide ((y.kind : Int) = 9) = false from decide_eq_false (by omega)]
    refine GOH ?_
    exact ⟨(), ⟨k6, k9⟩, by exact SUx, by exact IMx⟩
  rintro ⟨⟩ ⟨k6, k9⟩
  refine GOH ?_
  refine VC.seq_draws (α := Unit) (fun _ => [(4, .bool (decide (lv < ak)))]) (fun _ => [A]) (fun _ => True) ⟨?_, ?_, trivial⟩ ?_
  rotate_left 2
  · rintro ⟨⟩ _
    refine GOH ?_
    exact endQ_mk (Post := [A]) (.inr rfl) (.tmp (by rfl) .nil) ⟨by simp [tup, k6, k9], rfl⟩ (by exact IMx)
  all_goals
    refine GOH ?_
    refine st_callP hlev (by rfl) ?_
    refine GOH ?_
    refine st_call hask (by rfl) (by exact SPx) (fun v Post hv => ?_)
    obtain ⟨rfl, rfl⟩ := hv
    simp only [CNx]
    refine GOH ?_
    refine ⟨(), trivial, ?_, by exact IMx⟩
    rw [show decide ((lv : Int) < (ak : Int)) = decide (lv < ak) from decide_eq_decide.2 ⟨fun h => by omega, fun h => by omega⟩]
    exact SUx
theorem deepN_le {x : Nd} (h : formN x = true) : deepN x ≤ 2 * x.w := by
  have h1 := nodeD_law _ x (Nat.le_refl _)
  rw [h] at h1
  exact nodeD_le _ x (Nat.le_refl _) (deepN x) (manyN x) h1
theorem Deep_spec (A : List Atom) : ∀ (N : Nat) (x : Nd), x.w ≤ N → x.w ≤ 274877906944 → formN x = true → ∀ vs, NdRd A x vs → Fun Tryz.prog 69 [.agg vs.toArray] [A] (fun v Post => v = vi (deepN x) ∧ Post = [A]) := by
  intro N
  induction N with
  | zero => intro x hx; have := x.w_pos; omega
  | succ N ih =>
    intro x hx hb hf vs h
    have hdle := deepN_le hf
    have hbrk := fun i y hy => bracketed_spec A x vs h hf i y hy
    have hkids := form_kids hf
    cases h with
    | @mk k s lit args temps kids p lv av tv a c bk o us wf hl hav htv ha hm hr hcp =>
    simp only [Nd.kind, Nd.name, Nd.kids] at hbrk hkids
    simp only [deepN] at hdle ⊢
    simp only [Nd.w] at hx hb hdle
    have hmany := wf.many
    have hk256 := wf.kind
    have hlit := litDepth_spec A _ lit (Nat.le_refl _) (by omega) lv hl
    cases hl with
    | @mk lk ln lb lt items la lc lbk lo lus lwf lha lhm lhr =>
    obtain ⟨aa, ac, rfl, hal, har⟩ := hav
    obtain ⟨ta, tc, rfl, htl, htr⟩ := htv
    generalize hS : askS k s kids = S at hbrk hdle ⊢
    generalize litDp (.mk lk ln lb lt items) = ld at hlit hdle ⊢
    generalize hT : max ld (deepsN k S 0 kids) = T at hdle ⊢
    have hd01 : (if k = 7 ∨ k = 8 then 1 else 0) ≤ 1 := by split <;> omega
    simp only [CNx] at hbrk ⊢
    refine Fun.intro low69 (by simp [n69]) ?_
    refine GOHS ?_
    refine st_box (by rfl) (fun q => ?_)
    simp only [Value.cells]
    refine GOHS ?_
    refine st_call hlit (by rfl) (by exact SPx) (fun v Post hv => ?_)
    obtain ⟨rfl, rfl⟩ := hv
    simp only [CNx]
    refine GOHS ?_
    refine VC.join (α := Unit) (fun _ => [(1, ptr0 q), (3, vi T)]) (fun _ => [A, cellsAt q 0 [cv k, .string s, cv lk, vi ln, uv lb, .string lt, .slice la items.length lc, .slice aa args.length ac, .slice ta temps.length tc, .slice a kids.length c, vi p]]) (fun _ => True) ?_ ?_
    · refine GOH ?_
      refine VC.loop (α := Nat × Nat) (Γf := fun z => [(1, ptr0 q), (3, vi z.2), (4, vi z.1)]) (Hf := fun _ => [A, cellsAt q 0 [cv k, .string s, cv lk, vi ln, uv lb, .string lt, .slice la items.length lc, .slice aa args.length ac, .slice ta temps.length tc, .slice a kids.length c, vi p]])
        (I := fun z => z.1 ≤ kids.length ∧ max z.2 (deepsN k S z.1 (kids.drop z.1)) = T) (μ := fun z => kids.length - z.1) (0, ld) ⟨Nat.zero_le _, hT⟩ (by exact SUx) (by exact IMx) ?_
      rintro ⟨j, M⟩ ⟨i1, i2⟩
      simp only at i1 i2
      dsimp only
      refine GOH ?_
      by_cases hj : j < kids.length
      rotate_left
      · rw [List.drop_eq_nil_of_le (by omega)] at i2
        simp only [deepsN, Nat.max_zero] at i2
        subst i2
        rw [show decide ((j : Int) < (kids.length : Int)) = false from decide_eq_false (by omega)]
        refine GOH ?_
        exact ⟨(), trivial, by exact SUx, by exact IMx⟩
      rw [show decide ((j : Int) < (kids.length : Int)) = true from decide_eq_true (by omega)]
      obtain rfl := ha (by omega)
      obtain ⟨y, hy⟩ : ∃ y, kids[j]? = some y := ⟨_, List.getElem?_eq_getElem hj⟩
      have hyr := hr j y hy
      have hym := hm j hj
      have hyl := hyr.len
      have hzw : y.w ≤ Nd.ws kids := Nd.ws_mem (List.mem_of_getElem? hy)
      have hyf := (hkids j y hy).1
      have hcall := ih y (by omega) (by omega) hyf _ hyr
      have hbr := hbrk j y hy
      have hyd := deepN_le hyf
      have hdrop : kids.drop j = y :: kids.drop (j + 1) := by
        obtain ⟨h1, h2⟩ := List.getElem?_eq_some_iff.1 hy
        rw [List.drop_eq_getElem_cons h1, h2]
      rw [hdrop] at i2
      simp only [deepsN] at i2
      generalize us j = uj at hyr hym hcall hyl
      generalize deepN y = d at hcall hyd i2
      generalize brkB k S j y = br at hbr i2
      refine GOH ?_
      refine st_loadA (by rfl) (fun z hz => List.mem_append_left _ (hym z hz)) hyl ?_
      refine GOH ?_
      refine st_call hcall (by rfl) (by exact SPx) (fun v Post hv => ?_)
      obtain ⟨rfl, rfl⟩ := hv
      simp only [CNx]
      refine GOH ?_
      refine st_call hbr (by rfl) (by exact SPx) (fun v Post hv => ?_)
      obtain ⟨rfl, rfl⟩ := hv
      simp only [CNx]
      cases br with
      | true =>
        simp only [if_true] at i2
        refine GOH ?_
        by_cases hd : M < d + 1
        · skip
          rw [show decide ((d : Int) + 1 > (M : Int)) = true from decide_eq_true (by omega)]
          refine GOH ?_
          exact ⟨(j + 1, d + 1), ⟨by simp only; omega, by simp only; omega⟩, by simp only; omega, by exact SUx, by exact IMx⟩
        · skip
          rw [show decide ((d : Int) + 1 > (M : Int)) = false from decide_eq_false (by omega)]
          refine GOH ?_
          exact ⟨(j + 1, M), ⟨by simp only; omega, by simp only; omega⟩, by simp only; omega, by exact SUx, by exact IMx⟩
      | false =>
        simp only [Bool.false_eq_true, if_false] at i2
        refine GOH ?_
        by_cases hd : M < d
        · skip
          rw [show decide ((d : Int) > (M : Int)) = true from decide_eq_true (by omega)]
          refine GOH ?_
          exact ⟨(j + 1, d), ⟨by simp only; omega, by simp only; omega⟩, by simp only; omega, by exact SUx, by exact IMx⟩
        · skip
          rw [show decide ((d : Int) > (M : Int)) = false from decide_eq_false (by omega)]
          refine GOH ?_
          exact ⟨(j + 1, M), ⟨by simp only; omega, by simp only; omega⟩, by simp only; omega, by exact SUx, by exact IMx⟩
    rintro ⟨⟩ _
    refine GOH ?_
    by_cases k7 : k = 7
    · skip
      rw [show decide ((k : Int) = 7) = true from decide_eq_true (by omega)]
      refine GOH ?_
      exact endQ_mk (Post := [A]) (.inr rfl) (.tmp (by rfl) .nil) ⟨by simp [tup, k7], rfl⟩ (by exact IMx)
    rw [show decide ((k : Int) = 7) = false from decide_eq_false (by omega)]
    refine GOH ?_
    by_cases k8 : k = 8
    · skip
      rw [show decide ((k : Int) = 8) = true from decide_eq_true (by omega)]
      refine GOH ?_
      exact endQ_mk (Post := [A]) (.inr rfl) (.tmp (by rfl) .nil) ⟨by simp [tup, k8], rfl⟩ (by exact IMx)
    rw [show decide ((k : Int) = 8) = false from decide_eq_false (by omega)]
    refine GOH ?_
    exact endQ_mk (Post := [A]) (.inr rfl) (.tmp (by rfl) .nil) ⟨by simp [tup, k7, k8], rfl⟩ (by exact IMx)
theorem checkN_law (x : Nd) : checkN x = if (formN x && kidP x) = false then 150 else if manyN x = true then 151 else if 40 < deepN x then 152 else 0 := by
  unfold checkN
  rw [nodeD_law _ x (Nat.le_refl _), valueR_c, if_neg (Nat.not_lt_zero _), Nat.add_zero]
  cases formN x && kidP x with
  | false => rfl
  | true =>
    simp only [cR, if_true, endE]
    cases manyN x <;> simp
theorem soundN_law (x : Nd) : soundN x = if (formN x && !manyN x) = true then some (deepN x) else none := by
  unfold soundN
  rw [nodeD_law _ x (Nat.le_refl _)]
  cases formN x <;> cases manyN x <;> rfl
theorem expression_spec (k : Nat) (s : ByteArray) (hk256 : k < 256) (c2 c3 c4 c5 c6 c7 c8 c9 c10 : Value) : Fun Tryz.prog 80 [.agg #[cv k, .string s, c2, c3, c4, c5, c6, c7, c8, c9, c10]] [] (fun v Post => v = .bool (!superKS k s && decide (k ≠ 9 ∧ k ≠ 6)) ∧ Post = []) := by
  refine Fun.intro low80 (by simp [n80]) ?_
  have hsu := superR_spec k s c2 c3 c4 c5 c6 c7 c8 c9 c10
  generalize superKS k s = su at hsu ⊢
  refine GOH ?_
  refine st_box (by rfl) (fun q => ?_)
  simp only [Value.cells]
  refine GOH ?_
  by_cases k6 : k = 6
  · skip
    rw [show decide ((k : Int) = 6) = true from decide_eq_true (by omega)]
    refine GOH ?_
    exact endQ_mk (Post := []) (.inr rfl) (.tmp (by rfl) .nil) ⟨by simp [tup, k6], rfl⟩ (by exact IMx)
  rw [show decide ((k : Int) = 6) = false from decide_eq_false (by omega)]
  refine GOH ?_
  by_cases k9 : k = 9
  · skip
    rw [show decide ((k : Int) = 9) = true from decide_eq_true (by omega)]
    refine GOH ?_
    exact endQ_mk (Post := []) (.inr rfl) (.tmp (by rfl) .nil) ⟨by simp [tup, k9], rfl⟩ (by exact IMx)
  rw [show decide ((k : Int) = 9) = false from decide_eq_false (by omega)]
  refine GOH ?_
  refine st_callP hsu (by rfl) ?_
  refine GOH ?_
  exact endQ_mk (Post := []) (.inr rfl) (.tmp (by rfl) .nil) ⟨by simp [tup, k6, k9], rfl⟩ (by exact IMx)
theorem CheckNodeR_spec (A : List Atom) (hE : ErA A) (x : Nd) (hb : x.w ≤ 274877906944) (vs : List Value) (h : NdRd A x vs) : Fun Tryz.prog 32 [.agg vs.toArray] [A] (fun v Post => v = vi (checkN x) ∧ Post = [A]) := by
  have hform := Formed_spec A hE _ x (Nat.le_refl _) hb vs h
  have hmany := Many_spec A _ x (Nat.le_refl _) vs h
  have hdeep := fun hf => Deep_spec A _ x (Nat.le_refl _) hb hf vs h
  have hdle := @deepN_le x
  rw [checkN_law]
  obtain ⟨c2, c3, c4, c5, c6, c7, c8, c9, c10, rfl, hsz, hk256⟩ := nd_open h
  have hexp := expression_spec x.kind x.name hk256 c2 c3 c4 c5 c6 c7 c8 c9 c10
  have hkp : (!superKS x.kind x.name && decide (x.kind ≠ 9 ∧ x.kind ≠ 6)) = kidP x := rfl
  rw [hkp] at hexp
  generalize formN x = f at hform hdeep hdle ⊢
  generalize kidP x = kp at hexp ⊢
  generalize manyN x = m at hmany ⊢
  generalize deepN x = d at hdeep hdle ⊢
  generalize x.kind = k at *
  generalize x.name = s at *
  refine Fun.intro low32 (by simp [n32]) ?_
  refine GOH ?_
  refine st_box (by rfl) (fun q => ?_)
  simp only [Value.cells]
  refine GOH ?_
  refine st_call hform (by rfl) (by exact SPx) (fun v Post hv => ?_)
  obtain ⟨rfl, rfl⟩ := hv
  simp only [CNx]
  cases f with
  | false =>
    refine GOH ?_
    exact endQ_mk (Post := [A]) (.inr rfl) (.tmp (by rfl) .nil) ⟨by simp [tup], rfl⟩ (by exact IMx)
  | true =>
    refine GOH ?_
    refine st_callP hexp (by rfl) ?_
    cases kp with
    | false =>
      refine GOH ?_
      exact endQ_mk (Post := [A]) (.inr rfl) (.tmp (by rfl) .nil) ⟨by simp [tup], rfl⟩ (by exact IMx)
    | true =>
      refine GOH ?_
      refine st_call hmany (by rfl) (by exact SPx) (fun v Post hv => ?_)
      obtain ⟨rfl, rfl⟩ := hv
      simp only [CNx]
      cases m with
      | true =>
        refine GOH ?_
        exact endQ_mk (Post := [A]) (.inr rfl) (.tmp (by rfl) .nil) ⟨by simp [tup], rfl⟩ (by exact IMx)
      | false =>
        refine GOH ?_
        refine st_call (hdeep rfl) (by rfl) (by exact SPx) (fun v Post hv => ?_)
        obtain ⟨rfl, rfl⟩ := hv
        simp only [CNx]
        by_cases h40 : 40 < d
        · refine GOH ?_
          rw [show decide ((d : Int) > 40) = true from decide_eq_true (by omega)]
          refine GOH ?_
          exact endQ_mk (Post := [A]) (.inr rfl) (.tmp (by rfl) .nil) ⟨by simp [tup, h40], rfl⟩ (by exact IMx)
        · refine GOH ?_
          rw [show decide ((d : Int) > 40) = false from decide_eq_false (by omega)]
          refine GOH ?_
          exact endQ_mk (Post := [A]) (.inr rfl) (.tmp (by rfl) .nil) ⟨by simp [tup, h40], rfl⟩ (by exact IMx)
theorem LevelR_spec (A : List Atom) (hE : ErA A) (x : Nd) (hb : x.w ≤ 274877906944) (vs : List Value) (h : NdRd A x vs) : Fun Tryz.prog 33 [.agg vs.toArray] [A] (fun v Post => v = vi (levelT x) ∧ Post = [A]) := by
  have hform := Formed_spec A hE _ x (Nat.le_refl _) hb vs h
  have hmany := Many_spec A _ x (Nat.le_refl _) vs h
  unfold levelT
  rw [soundN_law]
  have har := fun hf e => @form_arity x hf (.inl e)
  obtain ⟨c2, c3, c4, c5, c6, c7, c8, c9, c10, rfl, hsz, hk256⟩ := nd_open h
  have hlev := fun ha => levelR_spec x.kind x.name hsz ha c2 c3 c4 c5 c6 c7 c8 c9 c10
  have hlv : levelKS x.kind x.name = levelN x := rfl
  rw [hlv] at hlev
  generalize formN x = f at hform har ⊢
  generalize manyN x = m at hmany ⊢
  generalize levelN x = lv at hlev ⊢
  generalize x.kind = k at *
  generalize x.name = s at *
  refine Fun.intro low33 (by simp [n33]) ?_
  refine GOH ?_
  refine st_box (by rfl) (fun q => ?_)
  simp only [Value.cells]
  refine GOH ?_
  refine st_call hform (by rfl) (by exact SPx) (fun v Post hv => ?_)
  obtain ⟨rfl, rfl⟩ := hv
  simp only [CNx]
  cases f with
  | false =>
    refine GOH ?_
    exact endQ_mk (Post := [A]) (.inr rfl) (.tmp (by rfl) .nil) ⟨by simp [tup], rfl⟩ (by exact IMx)
  | true =>
    refine GOH ?_
    refine st_call hmany (by rfl) (by exact SPx) (fun v Post hv => ?_)
    obtain ⟨rfl, rfl⟩ := hv
    simp only [CNx]
    cases m with
    | true =>
      refine GOH ?_
      exact endQ_mk (Post := [A]) (.inr rfl) (.tmp (by rfl) .nil) ⟨by simp [tup], rfl⟩ (by exact IMx)
    | false =>
      refine GOH ?_
      refine st_callP (hlev (har rfl)) (by rfl) ?_
      refine GOH ?_
      exact endQ_mk (Post := [A]) (.inr rfl) (.tmp (by rfl) .nil) ⟨by simp [tup], rfl⟩ (by exact IMx)
theorem DepthR_spec (A : List Atom) (hE : ErA A) (x : Nd) (hb : x.w ≤ 274877906944) (vs : List Value) (h : NdRd A x vs) : Fun Tryz.prog 34 [.agg vs.toArray] [A] (fun v Post => v = vi (depthT x) ∧ Post = [A]) := by
  have hform := Formed_spec A hE _ x (Nat.le_refl _) hb vs h
  have hmany := Many_spec A _ x (Nat.le_refl _) vs h
  have hdeep := fun hf => Deep_spec A _ x (Nat.le_refl _) hb hf vs h
  unfold depthT
  rw [soundN_law]
  obtain ⟨c2, c3, c4, c5, c6, c7, c8, c9, c10, rfl, hsz, hk256⟩ := nd_open h
  generalize formN x = f at hform hdeep ⊢
  generalize manyN x = m at hmany ⊢
  generalize deepN x = d at hdeep ⊢
  generalize x.kind = k at *
  generalize x.name = s at *
  refine Fun.intro low34 (by simp [n34]) ?_
  refine GOH ?_
  refine st_box (by rfl) (fun q => ?_)
  simp only [Value.cells]
  refine GOH ?_
  refine st_call hform (by rfl) (by exact SPx) (fun v Post hv => ?_)
  obtain ⟨rfl, rfl⟩ := hv
  simp only [CNx]
  cases f with
  | false =>
    refine GOH ?_
    exact endQ_mk (Post := [A]) (.inr rfl) (.tmp (by rfl) .nil) ⟨by simp [tup], rfl⟩ (by exact IMx)
  | true =>
    refine GOH ?_
    refine st_call hmany (by rfl) (by exact SPx) (fun v Post hv => ?_)
    obtain ⟨rfl, rfl⟩ := hv
    simp only [CNx]
    cases m with
    | true =>
      refine GOH ?_
      exact endQ_mk (Post := [A]) (.inr rfl) (.tmp (by rfl) .nil) ⟨by simp [tup], rfl⟩ (by exact IMx)
    | false =>
      refine GOH ?_
      refine st_call (hdeep rfl) (by rfl) (by exact SPx) (fun v Post hv => ?_)
      obtain ⟨rfl, rfl⟩ := hv
      simp only [CNx]
      refine GOH ?_
      exact endQ_mk (Post := [A]) (.inr rfl) (.tmp (by rfl) .nil) ⟨by simp [tup], rfl⟩ (by exact IMx)
end Go.Proofs.YtmnmandpdadedaaGreatDoor

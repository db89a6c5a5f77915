/-
  The chapter's examples.
-/
import Derived.Test.YtmnmandpdadedaaGreatDoorT12
import Derived.Test.YtmnmandpdadedaaGreatDoorV14
import Derived.Test.YtmnmandpdadedaaGreatDoorV13
import Derived.Test.YtmnmandpdadedaaGreatDoorCards
import Derived.Test.YtmnmandpdadedaaGreatDoorTie
import Derived.OpenShut
import Derived.Deep.DeepHandedRow
import Derived.Deep.DeepWitnessRowRef
import Derived.Lib.LaidTab
import Derived.JoinedCond
import Derived.Lay
import Derived.Stop.LaidErr
import Derived.KernelRfl
set_option linter.unusedSimpArgs false
set_option linter.unusedVariables false
namespace Go.Proofs.YtmnmandpdadedaaGreatDoor
open Go Go.V
set_option maxHeartbeats 3200000
set_option maxRecDepth 100000
theorem ErA.more {A B : List Atom} (h : ErA A) (hs : ∀ z ∈ A, z ∈ B) : ErA B := by
  obtain ⟨ev, h1, h2⟩ := h
  exact ⟨ev, hs _ h1, h2⟩
theorem badM_rd (A : List Atom) : MdW A badM [.string ⟨#[120, 58]⟩, .slice none 0 0, .slice none 0 0, .int .i64 0, .slice none 0 0] :=
  ⟨⟨none, 0, none, 0, none, 0, 0, 0, fun _ => [], rfl, ⟨none, 0, rfl, by decide, fun i t e => by simp [badM] at e⟩, ⟨none, 0, rfl, by decide, fun i t e => by simp [badM] at e⟩, ⟨fun h => absurd h (by decide), by decide, fun i hi => absurd hi (by simp [badM]), fun i x e => by simp [badM] at e⟩⟩, by decide, by decide⟩
theorem sumM_rd {A : List Atom} {q2 : Nat} (h : NdRd A sumN (sendC ⟨#[43]⟩ q2 0)) (q3 : Nat) : MdW (A ++ cellsAt q3 0 (sendC ⟨#[43]⟩ q2 0)) sumM [.string ⟨#[120]⟩, .slice none 0 0, .slice none 0 0, .int .i64 0, .slice (some ⟨q3, 0, none⟩) 1 1] :=
  ⟨⟨none, 0, none, 0, some ⟨q3, 0, none⟩, 1, q3, 0, fun _ => sendC ⟨#[43]⟩ q2 0, rfl, ⟨none, 0, rfl, by decide, fun i t e => by simp [sumM] at e⟩, ⟨none, 0, rfl, by decide, fun i t e => by simp [sumM] at e⟩,
    ⟨fun _ => rfl, by decide, fun i hi y hy => by
      have : i = 0 := by simp [sumM] at hi; omega
      subst this
      exact List.mem_append_right _ (by simpa using hy), fun i x e => by
      match i, e with
      | 0, e => cases e; exact h.more fun z hz => List.mem_append_left _ hz
      | i + 1, e => simp [sumM] at e⟩⟩, by decide, by decide⟩
theorem bare_at {B : List Atom} {ws : List Value} (h : MdW B sumM.bare ws) : ∃ aa ac ta tc c bk o bk2 o2 c2, ws = [.string ⟨#[120]⟩, .slice aa 0 ac, .slice ta 0 tc, vi 0, .slice (some ⟨bk, o, none⟩) 1 c] ∧ Atom.cell bk (o + 9) (.slice (some ⟨bk2, o2, none⟩) 2 c2) ∈ B ∧ Atom.cell bk2 (o2 + 21) (vi 0) ∈ B := by
  obtain ⟨⟨aa, ac, ta, tc, a, c, bk, o, us, rfl, _, _, hk⟩, _, _⟩ := h
  have ha := hk.at_ (by decide)
  have hm := hk.mem 0 (by decide)
  have hr := hk.rd 0 sumN.bare rfl
  obtain ⟨e1, e2, e3, e4, e5, e6, e7, e8, e9, e10, e11, e12, e13, a2, c2, bk2, o2, us2, hvs, hmany, ha2, hm2, hr2⟩ := nd_at hr
  rw [hvs] at hm
  have ha3 := ha2 (by decide)
  have hk2 := hm2 1 (by decide)
  have hr3 := hr2 1 mulN.bare rfl
  obtain ⟨f1, f2, f3, f4, f5, f6, f7, f8, f9, f10, f11, f12, f13, f14, f15, f16, hws⟩ := nd_open3 hr3
  rw [hws] at hk2
  subst ha ha3
  refine ⟨aa, ac, ta, tc, c, bk, o, bk2, o2, c2, rfl, ?_, ?_⟩
  · exact hm _ (mem_cellsAt.2 ⟨9, _, rfl, by rw [Nat.zero_mul, Nat.add_zero]; rfl⟩)
  · exact hk2 _ (mem_cellsAt.2 ⟨10, _, rfl, by rw [show o2 + 1 * 11 + 10 = o2 + 21 by omega]; rfl⟩)
theorem awake_spec (A : List Atom) (hE : ErA A) : Fun Tryz.prog 10 [] [A] (fun v Post => v = .bool true ∧ Post = [A]) := by
  refine Fun.intro low10 (by simp [n10]) ?_
  refine GOH ?_
  refine st_call sum_spec (by rfl) (by exact SPx) (fun v Post hv => ?_)
  obtain ⟨q, q2, rfl, rfl⟩ := hv
  simp only [CNx]
  obtain ⟨A1, hA1⟩ : ∃ A1, A1 = A ++ (cellsAt q2 0 (leafC ⟨#[97]⟩ ++ sendC ⟨#[42]⟩ q 5) ++ cellsAt q 0 (leafC ⟨#[98]⟩ ++ leafC ⟨#[99]⟩)) := ⟨_, rfl⟩
  have hE1 : ErA A1 := hE.more fun z hz => by rw [hA1]; exact List.mem_append_left _ hz
  have hn : NdRd A1 sumN (sendC ⟨#[43]⟩ q2 0) := (sum_rd q q2).more fun z hz => by rw [hA1]; exact List.mem_append_right _ hz
  have hnok := node_spec A1 hE1 sumN (by decide) _ hn
  refine VO.imp (H' := [A1]) (Imp.perm (by rw [hA1]; simp only [List.flatten_cons, List.flatten_nil, List.append_nil]; rw [← List.append_assoc]; exact List.perm_append_comm)) ?_
  have hsub1 : ∀ z ∈ A, z ∈ A1 := fun z hz => by rw [hA1]; exact List.mem_append_left _ hz
  have hA1p : ∃ X, A1.Perm (A ++ X) := ⟨_, by rw [hA1]⟩
  clear hA1
  refine st_alloc (fun p1 => ?_)
  refine GOH ?_
  refine st_call (Level_spec A1 sumN _ hn hnok) (by rfl) (by exact SPx) (fun v Post hv => ?_)
  obtain ⟨rfl, rfl⟩ := hv
  rw [e_level]
  simp only [CNx]
  refine GOH ?_
  refine st_call (Depth_spec A1 sumN _ hn hnok) (by rfl) (by exact SPx) (fun v Post hv => ?_)
  obtain ⟨rfl, rfl⟩ := hv
  rw [e_depth]
  simp only [CNx]
  refine GOH ?_
  refine st_call (Size_spec A1 sumN _ hn (by decide)) (by rfl) (by exact SPx) (fun v Post hv => ?_)
  obtain ⟨rfl, rfl⟩ := hv
  rw [e_size]
  simp only [CNx]
  refine GOH ?_
  refine st_call (checkNode_spec A1 sumN _ hn hnok) (by rfl) (by exact SPx) (fun v Post hv => ?_)
  obtain ⟨rfl, rfl⟩ := hv
  rw [e_check]
  simp only [CNx]
  refine GOH ?_
  have hl := (leaf_rd ⟨#[115, 117, 112, 101, 114]⟩ (by decide)).more (B := A1) (fun z hz => by cases hz)
  refine st_call (checkNode_spec A1 (leafN ⟨#[115, 117, 112, 101, 114]⟩) _ hl (node_spec A1 hE1 _ (by decide) _ hl)) (by rfl) (by exact SPx) (fun v Post hv => ?_)
  obtain ⟨rfl, rfl⟩ := hv
  rw [e_super]
  simp only [CNx]
  refine GOH ?_
  refine st_bslice (out := sendC ⟨#[43]⟩ q2 0) (by rfl) (by rfl) (fun q3 => ?_)
  refine GOH ?_
  refine st_alloc (fun p7 => ?_)
  refine GOH ?_
  obtain ⟨A2, hA2⟩ : ∃ A2, A2 = A1 ++ cellsAt q3 0 (sendC ⟨#[43]⟩ q2 0) := ⟨_, rfl⟩
  have hE2 : ErA A2 := hE1.more fun z hz => by rw [hA2]; exact List.mem_append_left _ hz
  have hmw : MdW A2 sumM [.string ⟨#[120]⟩, .slice none 0 0, .slice none 0 0, .int .i64 0, .slice (some ⟨q3, 0, none⟩) 1 1] := by rw [hA2]; exact sumM_rd hn q3
  have hm := hmw.ok hE2 (by decide)
  have hn2 : NdRd A2 sumN (sendC ⟨#[43]⟩ q2 0) := hn.more fun z hz => by rw [hA2]; exact List.mem_append_left _ hz
  have hA2p : ∃ X, A2.Perm (A ++ X) := by
    obtain ⟨X, hX⟩ := hA1p
    exact ⟨X ++ cellsAt q3 0 (sendC ⟨#[43]⟩ q2 0), by rw [hA2, ← List.append_assoc]; exact hX.append_right _⟩
  refine VO.imp (H' := [A2, cellsAt p7 0 [.string ⟨#[120]⟩, .slice none 0 0, .slice none 0 0, .int .i64 0, .slice (some ⟨q3, 0, none⟩) 1 1], cellsAt p1 0 (sendC ⟨#[43]⟩ q2 0)]) (Imp.cut (M := [A1, cellsAt q3 0 (sendC ⟨#[43]⟩ q2 0), cellsAt p7 0 [.string ⟨#[120]⟩, .slice none 0 0, .slice none 0 0, .int .i64 0, .slice (some ⟨q3, 0, none⟩) 1 1], cellsAt p1 0 (sendC ⟨#[43]⟩ q2 0)]) (by exact IMx) (Imp.perm (by rw [hA2]; simp))) ?_
  clear hA2
  refine st_call (Check_spec A2 sumM _ hm) (by rfl) (by exact SPx) (fun v Post hv => ?_)
  obtain ⟨rfl, rfl⟩ := hv
  rw [e_m]
  simp only [CNx]
  refine GOH ?_
  refine st_call (Check_spec A2 badM _ ((badM_rd A2).ok hE2 (by decide))) (by rfl) (by exact SPx) (fun v Post hv => ?_)
  obtain ⟨rfl, rfl⟩ := hv
  rw [e_bad]
  simp only [CNx]
  refine GOH ?_
  refine st_call (Sends_spec A2 sumM _ hm (by decide)) (by rfl) (by exact SPx) (fun v Post hv => ?_)
  obtain ⟨ssp, hsl, rfl⟩ := hv
  rw [e_sends] at *
  rw [show ([⟨#[43]⟩, ⟨#[42]⟩] : List ByteArray).length = 2 from rfl, show List.map Value.string [⟨#[43]⟩, ⟨#[42]⟩] = [.string ⟨#[43]⟩, .string ⟨#[42]⟩] from rfl] at *
  obtain ⟨sb, so, sc, rfl, hsc, hsl2⟩ := hsl.some (by decide)
  simp only [CNx]
  have hs0 : Atom.cell sb (so + 0) (.string ⟨#[43]⟩) ∈ slA (.slice (some ⟨sb, so, none⟩) 2 sc) [.string ⟨#[43]⟩, .string ⟨#[42]⟩] ssp := by
    simp [slA, cellsAt]
  refine GOH ?_
  refine st_call (Bare_spec A2 sumM _ hmw (by decide)) (by rfl) (by exact SPx) (fun v Post hv => ?_)
  obtain ⟨ws, B2, rfl, hb, rfl⟩ := hv
  simp only [CNx]
  obtain ⟨aa, ac, ta, tc, c, bk, o, bk2, o2, c2, rfl, hb1, hb2⟩ := bare_at hb
  refine GOH ?_
  refine st_alloc (fun p11 => ?_)
  refine GOH ?_
  obtain ⟨A3, hA3⟩ : ∃ A3, A3 = A2 ++ B2 := ⟨_, rfl⟩
  have hE3 : ErA A3 := hE2.more fun z hz => by rw [hA3]; exact List.mem_append_left _ hz
  have hm3 := (hmw.more (B := A3) fun z hz => by rw [hA3]; exact List.mem_append_left _ hz).ok hE3 (by decide)
  have hbb := (hb.more (B := A3) fun z hz => by rw [hA3]; exact List.mem_append_right _ hz).ok hE3 (by decide)
  have hn3 : NdRd A3 sumN (sendC ⟨#[43]⟩ q2 0) := hn2.more fun z hz => by rw [hA3]; exact List.mem_append_left _ hz
  have hc1 : Atom.cell bk (o + 9) (.slice (some ⟨bk2, o2, none⟩) 2 c2) ∈ A3 := by rw [hA3]; exact List.mem_append_right _ hb1
  have hc2 : Atom.cell bk2 (o2 + 21) (vi 0) ∈ A3 := by rw [hA3]; exact List.mem_append_right _ hb2
  have hA3p : ∃ X, A3.Perm (A ++ X) := by
    obtain ⟨X, hX⟩ := hA2p
    exact ⟨X ++ B2, by rw [hA3, ← List.append_assoc]; exact hX.append_right _⟩
  have hS : ∃ S, S = slA (.slice (some ⟨sb, so, none⟩) 2 sc) [.string ⟨#[43]⟩, .string ⟨#[42]⟩] ssp := ⟨_, rfl⟩
  obtain ⟨S, hS⟩ := hS
  rw [← hS] at hs0 ⊢
  clear hS
  refine VO.imp (H' := [A3, S, cellsAt p11 0 [.string ⟨#[120]⟩, .slice aa 0 ac, .slice ta 0 tc, vi 0, .slice (some ⟨bk, o, none⟩) 1 c], cellsAt p1 0 (sendC ⟨#[43]⟩ q2 0)]) (Imp.cut (M := [A2, B2, S, cellsAt p11 0 [.string ⟨#[120]⟩, .slice aa 0 ac, .slice ta 0 tc, vi 0, .slice (some ⟨bk, o, none⟩) 1 c], cellsAt p1 0 (sendC ⟨#[43]⟩ q2 0)]) (by exact IMx) (Imp.perm (by rw [hA3]; simp))) ?_
  clear hA3
  refine st_call (Same_spec A3 sumM sumM.bare _ _ hm3 hbb) (by rfl) (by exact SPx) (fun v Post hv => ?_)
  obtain ⟨rfl, rfl⟩ := hv
  rw [e_same]
  simp only [CNx]
  refine GOH ?_
  refine st_call (SameNode_spec A3 sumN sumN _ _ hn3 hn3) (by rfl) (by exact SPx) (fun v Post hv => ?_)
  obtain ⟨rfl, rfl⟩ := hv
  rw [e_one]
  simp only [CNx]
  refine GOH ?_
  obtain ⟨X, hX⟩ := hA3p
  exact endQ_mk (Post := [A]) (.inr rfl) (.tmp (by rfl) .nil) ⟨rfl, rfl⟩ (Imp.cut (M := [A3]) (by exact IMx) ⟨[X], by simpa [V.Spl] using hX⟩)
theorem checkM_bare (x : Md) : checkM x.bare = checkM x := by
  have h1 : stmtsR (x.body.map Nd.bare) ((x.body.map Nd.bare).map nodeD) = stmtsR x.body (x.body.map nodeD) := by rw [nodeD_bares, stmtsR_bare]
  show endE _ (mustR _ (namesR 15 x.args (namesR 63 x.temps (maxR (stmtsR (x.body.map Nd.bare) ((x.body.map Nd.bare).map nodeD)))))) = _
  rw [h1]
  rfl
theorem bares_bares (l : List Nd) : (l.map Nd.bare).map Nd.bare = l.map Nd.bare := by
  rw [List.map_map]
  exact List.map_congr_left fun y _ => bare_bare _ y (Nat.le_refl _)
theorem mdEq_bare (x : Md) : mdEq x x.bare = true ∧ mdEq x.bare x = true := by
  have h1 : ndsEq x.body (x.body.map Nd.bare) = true := (ndsEq_iff _ _).2 ⟨by simp, fun j u v e1 e2 => by
    rw [List.getElem?_map, e1] at e2; cases e2
    exact (ndEq_bare _ u (Nat.le_refl _)).1⟩
  have h2 : ndsEq (x.body.map Nd.bare) x.body = true := (ndsEq_iff _ _).2 ⟨by simp, fun j u v e1 e2 => by
    rw [List.getElem?_map, e2] at e1; cases e1
    exact (ndEq_bare _ v (Nat.le_refl _)).2.1⟩
  simp [mdEq, Md.bare, h1, h2]
theorem mdLike_bare (x : Md) : mdLike true x.bare x.bare.bare = true := by
  have h1 : ndsSm (x.body.map Nd.bare) (x.body.map Nd.bare) = true := (ndsSm_iff _ _).2 ⟨rfl, fun j u v e1 e2 => by
    rw [e1] at e2; cases e2
    exact ndSm_refl _ u (Nat.le_refl _)⟩
  have h2 : bodyLike true (x.body.map Nd.bare) ((x.body.map Nd.bare).map Nd.bare) = true := by
    rw [bares_bares]; exact h1
  show (decide (x.args = x.args) && decide (x.temps = x.temps) && decide (x.sel = x.sel) && decide (x.prim = x.prim) && bodyLike true (x.body.map Nd.bare) ((x.body.map Nd.bare).map Nd.bare)) = true
  rw [h2]; simp
theorem sendsM_bare (x : Md) : sendsM x.bare = sendsM x := by
  simp only [sendsM, Md.bare, allsN_bare, sendsOf_bare]
theorem depthT_bare (x : Nd) : depthT x.bare = depthT x := by simp only [depthT, soundN, nodeD_bare']
theorem size_bare (x : Nd) : (allN x.bare).length = (allN x).length := by rw [allN_bare _ x (Nat.le_refl _), List.length_map]
theorem sends_size {A : List Atom} {x : Md} {vs : List Value} (h : MdW A x vs) : ∀ t ∈ sendsM x, t.size ≤ 140737488355328 := by
  obtain ⟨⟨aa, ac, ta, tc, a, c, bk, o, us, rfl, hav, htv, hk⟩, hsel, hprim⟩ := h
  intro t ht
  rw [sendsM, mem_firsts, sendsOf, List.mem_map] at ht
  obtain ⟨y, hy, rfl⟩ := ht
  obtain ⟨z, hz, hy⟩ := mem_allsN (List.mem_filter.1 hy).1
  obtain ⟨i, hi⟩ := List.getElem?_of_mem hz
  obtain ⟨us2, hu⟩ := rd_all _ z (Nat.le_refl _) _ (hk.rd i z hi) y hy
  obtain ⟨_, _, _, _, _, _, _, _, _, _, _, _, _, _, _, _, _, _, hsz, _⟩ := nd_open2 hu
  exact hsz
theorem sends_len (x : Md) : (sendsM x).length ≤ Nd.ws x.body := by
  have h1 := firsts_le (sendsOf (allsN x.body))
  have h2 := sendsOf_le (allsN x.body)
  have h3 : ∀ l : List Nd, (allsN l).length ≤ Nd.ws l := by
    intro l
    induction l with
    | nil => exact Nat.zero_le _
    | cons y r ih =>
      have := allN_len _ y (Nat.le_refl _)
      simp only [allsN, List.length_append, Nd.ws]; omega
  have := h3 x.body
  unfold sendsM; omega
theorem TreeHolds_spec (A : List Atom) (hE : ErA A) (x : Md) (hw : Nd.ws x.body ≤ 274877906944) (vs : List Value) (h : MdW A x vs) : Fun Tryz.prog 7 [.agg vs.toArray] [A] (fun v Post => v = .bool true ∧ Post = [A]) := by
  have hfar := far_spec A x vs h
  have hbare := Bare_spec A x vs h hw
  have h0 := h
  have hwb : Nd.ws x.bare.body ≤ 274877906944 := by show Nd.ws (x.body.map Nd.bare) ≤ _; rw [ws_bare]; exact hw
  have hblen : x.bare.body.length = x.body.length := by simp [Md.bare]
  obtain ⟨⟨aa, ac, ta, tc, a, c, bk, o, us, rfl, hav, htv, hk⟩, hsel, hprim⟩ := h
  have hmany := hk.many
  refine Fun.intro low7 (by simp [n7]) ?_
  refine GOH ?_
  refine st_box (by rfl) (fun q => ?_)
  simp only [Value.cells]
  refine GOH ?_
  refine st_call (awake_spec A hE) (by rfl) (by exact SPx) (fun v Post hv => ?_)
  obtain ⟨rfl, rfl⟩ := hv
  simp only [CNx]
  refine GOH ?_
  refine st_call hfar (by rfl) (by exact SPx) (fun v Post hv => ?_)
  obtain ⟨b, rfl, rfl⟩ := hv
  simp only [CNx]
  cases b with
  | true =>
    refine GOH ?_
    exact endQ_mk (Post := [A]) (.inr rfl) (.tmp (by rfl) .nil) ⟨rfl, rfl⟩ (by exact IMx)
  | false =>
    refine GOH ?_
    refine st_call hbare (by rfl) (by exact SPx) (fun v Post hv => ?_)
    obtain ⟨ws, B1, rfl, hb, rfl⟩ := hv
    simp only [CNx]
    obtain ⟨A1, hA1⟩ : ∃ A1, A1 = A ++ B1 := ⟨_, rfl⟩
    have hE1 : ErA A1 := hE.more fun z hz => by rw [hA1]; exact List.mem_append_left _ hz
    have hs01 : ∀ z ∈ A, z ∈ A1 := fun z hz => by rw [hA1]; exact List.mem_append_left _ hz
    have hm1 : MdW A1 x [.string x.sel, .slice aa x.args.length ac, .slice ta x.temps.length tc, vi x.prim, .slice a x.body.length c] := h0.more fun z hz => by rw [hA1]; exact List.mem_append_left _ hz
    have hb1 : MdW A1 x.bare ws := hb.more fun z hz => by rw [hA1]; exact List.mem_append_right _ hz
    have hbare2 := Bare_spec A1 x.bare ws hb1 hwb
    have hp1 : ∃ X, A1.Perm (A ++ X) := ⟨B1, by rw [hA1]⟩
    have hb1k := hb1
    obtain ⟨⟨aa', ac', ta', tc', a', c', bk', o', us', hws, hav', htv', hk'⟩, _, _⟩ := hb1
    subst hws
    refine VO.imp (H' := [A1, cellsAt q 0 [.string x.sel, .slice aa x.args.length ac, .slice ta x.temps.length tc, vi x.prim, .slice a x.body.length c]]) (Imp.cut (M := [A, B1, cellsAt q 0 [.string x.sel, .slice aa x.args.length ac, .slice ta x.temps.length tc, vi x.prim, .slice a x.body.length c]]) (by exact IMx) (Imp.perm (by rw [hA1]; simp))) ?_
    clear hA1
    refine st_alloc (fun p5 => ?_)
    refine GOH ?_
    refine st_call hbare2 (by rfl) (by exact SPx) (fun v Post hv => ?_)
    obtain ⟨ws2, B2, rfl, hc, rfl⟩ := hv
    simp only [CNx]
    obtain ⟨A2, hA2⟩ : ∃ A2, A2 = A1 ++ B2 := ⟨_, rfl⟩
    have hE2 : ErA A2 := hE1.more fun z hz => by rw [hA2]; exact List.mem_append_left _ hz
    have hm2 : MdW A2 x [.string x.sel, .slice aa x.args.length ac, .slice ta x.temps.length tc, vi x.prim, .slice a x.body.length c] := hm1.more fun z hz => by rw [hA2]; exact List.mem_append_left _ hz
    have hb2 : MdW A2 x.bare [.string x.bare.sel, .slice aa' x.bare.args.length ac', .slice ta' x.bare.temps.length tc', vi x.bare.prim, .slice a' x.bare.body.length c'] := hb1k.more fun z hz => by rw [hA2]; exact List.mem_append_left _ hz
    have hc2 : MdW A2 x.bare.bare ws2 := hc.more fun z hz => by rw [hA2]; exact List.mem_append_right _ hz
    have hk2 : KidsRd A2 x.body a bk o us := ⟨hk.at_, hk.many, fun i hi y hy => by rw [hA2]; exact List.mem_append_left _ (hs01 _ (hk.mem i hi y hy)), fun i y e => (hk.rd i y e).more fun z hz => by rw [hA2]; exact List.mem_append_left _ (hs01 z hz)⟩
    have hkb2 : KidsRd A2 x.bare.body a' bk' o' us' := ⟨hk'.at_, hk'.many, fun i hi y hy => by rw [hA2]; exact List.mem_append_left _ (hk'.mem i hi y hy), fun i y e => (hk'.rd i y e).more fun z hz => by rw [hA2]; exact List.mem_append_left _ hz⟩
    have hp2 : ∃ X, A2.Perm (A ++ X) := by
      obtain ⟨X, hX⟩ := hp1
      exact ⟨X ++ B2, by rw [hA2, ← List.append_assoc]; exact hX.append_right _⟩
    have hkm := hk2.ok hE2 hw
    have hkb := hkb2.ok hE2 hwb
    obtain ⟨⟨aa2, ac2, ta2, tc2, a2, c2, bk2, o2, us2, hws2, _, _, _⟩, _, _⟩ := hc
    subst hws2
    refine VO.imp (H' := [A2, cellsAt p5 0 [.string x.bare.sel, .slice aa' x.bare.args.length ac', .slice ta' x.bare.temps.length tc', vi x.bare.prim, .slice a' x.bare.body.length c'], cellsAt q 0 [.string x.sel, .slice aa x.args.length ac, .slice ta x.temps.length tc, vi x.prim, .slice a x.body.length c]]) (Imp.cut (M := [A1, B2, cellsAt p5 0 [.string x.bare.sel, .slice aa' x.bare.args.length ac', .slice ta' x.bare.temps.length tc', vi x.bare.prim, .slice a' x.bare.body.length c'], cellsAt q 0 [.string x.sel, .slice aa x.args.length ac, .slice ta x.temps.length tc, vi x.prim, .slice a x.body.length c]]) (by exact IMx) (Imp.perm (by rw [hA2]; simp))) ?_
    clear hA2
    refine st_alloc (fun p6 => ?_)
    refine GOH ?_
    refine st_call (Check_spec A2 x _ (hm2.ok hE2 hw)) (by rfl) (by exact SPx) (fun v Post hv => ?_)
    obtain ⟨rfl, rfl⟩ := hv
    simp only [CNx]
    refine GOH ?_
    refine st_call (Check_spec A2 x.bare _ (hb2.ok hE2 hwb)) (by rfl) (by exact SPx) (fun v Post hv => ?_)
    obtain ⟨rfl, rfl⟩ := hv
    rw [checkM_bare]
    simp only [CNx]
    refine GOH ?_
    refine st_call (Same_spec A2 x x.bare _ _ (hm2.ok hE2 hw) (hb2.ok hE2 hwb)) (by rfl) (by exact SPx) (fun v Post hv => ?_)
    obtain ⟨rfl, rfl⟩ := hv
    rw [(mdEq_bare x).1]
    simp only [CNx]
    refine GOH ?_
    refine st_call (Same_spec A2 x.bare x _ _ (hb2.ok hE2 hwb) (hm2.ok hE2 hw)) (by rfl) (by exact SPx) (fun v Post hv => ?_)
    obtain ⟨rfl, rfl⟩ := hv
    rw [(mdEq_bare x).2]
    simp only [CNx]
    refine GOH ?_
    refine st_call (sameMethod_spec A2 x.bare x.bare.bare _ _ hb2 hc2 true) (by rfl) (by exact SPx) (fun v Post hv => ?_)
    obtain ⟨rfl, rfl⟩ := hv
    rw [mdLike_bare x]
    simp only [CNx]
    refine GOH ?_
    refine st_call (Sends_spec A2 x _ (hm2.ok hE2 hw) hw) (by rfl) (by exact SPx) (fun v Post hv => ?_)
    obtain ⟨sp1, hs1, rfl⟩ := hv
    simp only [CNx]
    refine GOH ?_
    refine st_call (Sends_spec A2 x.bare _ (hb2.ok hE2 hwb) hwb) (by rfl) (by exact SPx) (fun v2 Post hv => ?_)
    obtain ⟨sp2, hs2, rfl⟩ := hv
    simp only [CNx]
    rw [sendsM_bare] at *
    have hsl := sends_len x
    have hsz := sends_size hm2
    have hr1 := (texts_made rfl hs1 (by omega) hsz).more (B := slA v ((sendsM x).map Value.string) sp1 ++ slA v2 ((sendsM x).map Value.string) sp2) (fun z hz => List.mem_append_left _ hz)
    have hr2 := (texts_made rfl hs2 (by omega) hsz).more (B := slA v ((sendsM x).map Value.string) sp1 ++ slA v2 ((sendsM x).map Value.string) sp2) (fun z hz => List.mem_append_right _ hz)
    obtain ⟨S, hS⟩ : ∃ S, S = slA v ((sendsM x).map Value.string) sp1 ++ slA v2 ((sendsM x).map Value.string) sp2 := ⟨_, rfl⟩
    rw [← hS] at hr1 hr2
    refine VO.imp (H' := [S, A2, cellsAt p5 0 [.string x.bare.sel, .slice aa' x.bare.args.length ac', .slice ta' x.bare.temps.length tc', vi x.bare.prim, .slice a' x.bare.body.length c'], cellsAt q 0 [.string x.sel, .slice aa x.args.length ac, .slice ta x.temps.length tc, vi x.prim, .slice a x.body.length c]]) (Imp.cut (M := [slA v ((sendsM x).map Value.string) sp1, slA v2 ((sendsM x).map Value.string) sp2, A2, cellsAt p5 0 [.string x.bare.sel, .slice aa' x.bare.args.length ac', .slice ta' x.bare.temps.length tc', vi x.bare.prim, .slice a' x.bare.body.length c'], cellsAt q 0 [.string x.sel, .slice aa x.args.length ac, .slice ta x.temps.length tc, vi x.prim, .slice a x.body.length c]]) (by exact IMx) (Imp.perm (by rw [hS]; simp))) ?_
    clear hS
    refine GOH ?_
    refine st_call (sameNames_spec S v v2 _ _ hr1 hr2) (by rfl) (by exact SPx) (fun v Post hv => ?_)
    obtain ⟨rfl, rfl⟩ := hv
    rw [decide_eq_true (show sendsM x = sendsM x from rfl)]
    simp only [CNx]
    refine GOH ?_
    rw [decide_eq_true (show ((checkM x : Nat) : Int) = ((checkM x : Nat) : Int) from rfl)]
    refine GOH ?_
    rw [decide_eq_true (show ((x.bare.body.length : Nat) : Int) = ((x.body.length : Nat) : Int) by omega)]
    refine GOH ?_
    have hfin : ∀ {Y : SH}, Imp (A2 :: Y) [A] := by
      obtain ⟨X, hX⟩ := hp2
      intro Y
      exact ⟨X :: Y, by simp only [V.Spl, List.flatten_cons, List.flatten_nil, List.append_nil]; rw [← List.append_assoc]; exact hX.append_right _⟩
    refine VC.loop (α := Nat) (Γf := fun j => [(1, ptr0 q), (5, ptr0 p5), (15, vi j)]) (Hf := fun _ => [A2, cellsAt p5 0 [.string x.bare.sel, .slice aa' x.bare.args.length ac', .slice ta' x.bare.temps.length tc', vi x.bare.prim, .slice a' x.bare.body.length c'], cellsAt q 0 [.string x.sel, .slice aa x.args.length ac, .slice ta x.temps.length tc, vi x.prim, .slice a x.body.length c]])
      (I := fun j => j ≤ x.body.length) (μ := fun j => x.body.length - j) 0 (Nat.zero_le _) (by exact SUx) (by exact IMx) ?_
    intro j i1
    refine GOH ?_
    by_cases hj : j < x.body.length
    rotate_left
    · rw [show decide ((j : Int) < (x.body.length : Int)) = false from decide_eq_false (by omega)]
      refine GOH ?_
      exact endQ_mk (Post := [A]) (.inr rfl) (.tmp (by rfl) .nil) ⟨rfl, rfl⟩ hfin
    rw [show decide ((j : Int) < (x.body.length : Int)) = true from decide_eq_true (by omega)]
    obtain rfl := hk2.at_ (by omega)
    obtain rfl := hkb2.at_ (by omega)
    obtain ⟨y, hy⟩ : ∃ y, x.body[j]? = some y := ⟨_, List.getElem?_eq_getElem hj⟩
    have hyb : x.bare.body[j]? = some y.bare := by
      show (x.body.map Nd.bare)[j]? = _
      rw [List.getElem?_map, hy]; rfl
    have hum := hkm.mem j hj
    have hzm := hkb.mem j (by omega)
    have hul := (hkm.rd j y hy).len
    have hzl := (hkb.rd j _ hyb).len
    have hyw : y.w ≤ 274877906944 := by have := Nd.ws_mem (List.mem_of_getElem? hy); omega
    have hyw2 : y.bare.w ≤ 274877906944 := by rw [w_bare _ y (Nat.le_refl _)]; exact hyw
    refine GOH ?_
    refine st_loadA (by rfl) (fun z hz => List.mem_append_left _ (hum z hz)) hul ?_
    refine GOH ?_
    refine st_call (Depth_spec A2 y _ (hkm.rd j y hy) (hkm.ok j y hy)) (by rfl) (by exact SPx) (fun v Post hv => ?_)
    obtain ⟨rfl, rfl⟩ := hv
    simp only [CNx]
    refine GOH ?_
    refine st_loadA (by rfl) (fun z hz => List.mem_append_left _ (hzm z hz)) hzl ?_
    refine GOH ?_
    refine st_call (Depth_spec A2 y.bare _ (hkb.rd j _ hyb) (hkb.ok j _ hyb)) (by rfl) (by exact SPx) (fun v Post hv => ?_)
    obtain ⟨rfl, rfl⟩ := hv
    rw [depthT_bare]
    simp only [CNx]
    refine GOH ?_
    refine st_loadA (by rfl) (fun z hz => List.mem_append_left _ (hum z hz)) hul ?_
    refine GOH ?_
    refine st_call (Size_spec A2 y _ (hkm.rd j y hy) hyw) (by rfl) (by exact SPx) (fun v Post hv => ?_)
    obtain ⟨rfl, rfl⟩ := hv
    simp only [CNx]
    refine GOH ?_
    refine st_loadA (by rfl) (fun z hz => List.mem_append_left _ (hzm z hz)) hzl ?_
    refine GOH ?_
    refine st_call (Size_spec A2 y.bare _ (hkb.rd j _ hyb) hyw2) (by rfl) (by exact SPx) (fun v Post hv => ?_)
    obtain ⟨rfl, rfl⟩ := hv
    rw [size_bare]
    simp only [CNx]
    refine GOH ?_
    rw [decide_eq_true (show ((depthT y : Nat) : Int) = ((depthT y : Nat) : Int) from rfl)]
    refine GOH ?_
    exact ⟨j + 1, by omega, by omega, by exact SUx, by exact IMx⟩
theorem TreeSizes_spec (A : List Atom) (hE : ErA A) (x : Nd) (hw : x.w ≤ 274877906944) (vs : List Value) (h : NdRd A x vs) : Fun Tryz.prog 8 [.agg vs.toArray] [A] (fun v Post => v = .bool true ∧ Post = [A]) := by
  have hfar := farNode_spec A x vs h
  have hall := All_spec vs
  have hit := all_iter A x vs h
  have hsize := Size_spec A x vs h hw
  have hlen := allN_len _ x (Nat.le_refl _)
  have hsum : (allN x).length = 1 + (allsN x.kids).length := by rw [allN_eq, List.length_cons]; omega
  obtain ⟨e1, e2, e3, e4, e5, e6, e7, e8, e9, e10, e11, e12, e13, a, cc, bk, o, us, hvs, hmany, ha, hm, hr⟩ := nd_at h
  rw [hvs] at hfar hall hit hsize ⊢
  refine Fun.intro low8 (by simp [n8]) ?_
  refine GOH ?_
  refine st_box (by rfl) (fun q => ?_)
  simp only [Value.cells]
  refine GOH ?_
  refine st_call (awake_spec A hE) (by rfl) (by exact SPx) (fun v Post hv => ?_)
  obtain ⟨rfl, rfl⟩ := hv
  simp only [CNx]
  refine GOH ?_
  refine st_call hfar (by rfl) (by exact SPx) (fun v Post hv => ?_)
  obtain ⟨b, rfl, rfl⟩ := hv
  simp only [CNx]
  refine GOH ?_
  refine st_call hall (by rfl) (by exact SPx) (fun v Post hv => ?_)
  obtain ⟨q2, rfl, rfl⟩ := hv
  simp only [CNx]
  cases b with
  | true =>
    refine GOH ?_
    exact endQ_mk (Post := [A]) (.inr rfl) (.tmp (by rfl) .nil) ⟨rfl, rfl⟩ (by exact IMx)
  | false =>
    refine GOH ?_
    refine st_alloc (fun p => ?_)
    refine GOH ?_
    refine VC.rangefA (fun l B => B = [cellsAt p 0 [vi l.length], cellsAt q 0 [cv x.kind, .string x.name, cv e1, vi e2, uv e3, .string e4, .slice e5 e6 e7, .slice e8 e9 e10, .slice e11 e12 e13, .slice a x.kids.length cc, vi x.at_], A].flatten) ([cellsAt p 0 [vi 0], cellsAt q 0 [cv x.kind, .string x.name, cv e1, vi e2, uv e3, .string e4, .slice e5 e6 e7, .slice e8 e9 e10, .slice e11 e12 e13, .slice a x.kids.length cc, vi x.at_], A].flatten) (by rfl) (hit q2) (fun A B h => h.more) ?_ (R := [cellsAt p 0 [vi 0], A, cellsAt q 0 [cv x.kind, .string x.name, cv e1, vi e2, uv e3, .string e4, .slice e5 e6 e7, .slice e8 e9 e10, .slice e11 e12 e13, .slice a x.kids.length cc, vi x.at_]]) (by exact SPx) (Imp.cut (M := [cellsAt p 0 [vi 0], cellsAt q 0 [cv x.kind, .string x.name, cv e1, vi e2, uv e3, .string e4, .slice e5 e6 e7, .slice e8 e9 e10, .slice e11 e12 e13, .slice a x.kids.length cc, vi x.at_], A]) (by exact IMx) (Imp.perm (by simp))) rfl (fun _ => rfl) ?_ ?_
    · rintro l B rfl
      exact ⟨cellsAt p 0 [vi l.length] ++ cellsAt q 0 [cv x.kind, .string x.name, cv e1, vi e2, uv e3, .string e4, .slice e5 e6 e7, .slice e8 e9 e10, .slice e11 e12 e13, .slice a x.kids.length cc, vi x.at_], by simp only [List.flatten_cons, List.flatten_nil, List.append_nil]; rw [← List.append_assoc]; exact List.perm_append_comm⟩
    · rintro l u B hok rfl
      have hc : l.length < (allN x).length := by
        obtain ⟨t, ht⟩ := hok
        have := congrArg List.length ht.1
        simp at this; omega
      simp only [bindE]
      refine VC.imp (H' := [cellsAt p 0 [vi l.length], cellsAt q 0 [cv x.kind, .string x.name, cv e1, vi e2, uv e3, .string e4, .slice e5 e6 e7, .slice e8 e9 e10, .slice e11 e12 e13, .slice a x.kids.length cc, vi x.at_], A]) (Imp.perm (by simp)) ?_
      refine GOH ?_
      refine ⟨trivial, ?_⟩
      refine GOH ?_
      refine ⟨_, rfl, Imp.perm ?_⟩
      simp
    · rintro full B hfull rfl
      refine VC.imp (H' := [cellsAt p 0 [vi full.length], cellsAt q 0 [cv x.kind, .string x.name, cv e1, vi e2, uv e3, .string e4, .slice e5 e6 e7, .slice e8 e9 e10, .slice e11 e12 e13, .slice a x.kids.length cc, vi x.at_], A]) (Imp.perm (by simp)) ?_
      have hfl : full.length = (allN x).length := by rw [← hfull.1, List.length_map]
      rw [hfl]
      refine GOH ?_
      refine VC.loop (α := Nat × Nat) (Γf := fun s => [(1, ptr0 q), (6, ptr0 p), (7, vi s.2), (8, vi s.1)]) (Hf := fun _ => [cellsAt p 0 [vi (allN x).length], cellsAt q 0 [cv x.kind, .string x.name, cv e1, vi e2, uv e3, .string e4, .slice e5 e6 e7, .slice e8 e9 e10, .slice e11 e12 e13, .slice a x.kids.length cc, vi x.at_], A])
        (I := fun s => s.1 ≤ x.kids.length ∧ s.2 = 1 + (allsN (x.kids.take s.1)).length) (μ := fun s => x.kids.length - s.1) (0, 1) ⟨Nat.zero_le _, rfl⟩ (by exact SUx) (by exact IMx) ?_
      rintro ⟨j, n⟩ ⟨i1, i2⟩
      simp only at i1 i2
      subst i2
      dsimp only
      have hpart : (allsN (x.kids.take j)).length ≤ (allsN x.kids).length := by
        have e : allsN x.kids = allsN (x.kids.take j) ++ allsN (x.kids.drop j) := by rw [← allsN_append, List.take_append_drop]
        rw [e, List.length_append]; omega
      refine GOH ?_
      by_cases hj : j < x.kids.length
      rotate_left
      · rw [show decide ((j : Int) < (x.kids.length : Int)) = false from decide_eq_false (by omega)]
        have htk : x.kids.take j = x.kids := List.take_of_length_le (by omega)
        rw [htk]
        refine GOH ?_
        refine st_call hsize (by rfl) (by exact SPx) (fun v Post hv => ?_)
        obtain ⟨rfl, rfl⟩ := hv
        simp only [CNx]
        refine GOH ?_
        rw [show decide (((allN x).length : Int) = ((allN x).length : Int)) = true from decide_eq_true rfl]
        refine GOH ?_
        rw [show decide (((allN x).length : Int) = ((1 + (allsN x.kids).length : Nat) : Int)) = true from decide_eq_true (by omega)]
        refine GOH ?_
        exact endQ_mk (Post := [A]) (.inr rfl) (.tmp (by rfl) .nil) ⟨rfl, rfl⟩ (by exact IMx)
      rw [show decide ((j : Int) < (x.kids.length : Int)) = true from decide_eq_true (by omega)]
      obtain rfl := ha (by omega)
      obtain ⟨y, hy⟩ : ∃ y, x.kids[j]? = some y := ⟨_, List.getElem?_eq_getElem hj⟩
      have hym := hm j hj
      have hyr := hr j y hy
      have hyl := hyr.len
      have hyw : y.w ≤ 274877906944 := by
        have h1 := Nd.ws_mem (List.mem_of_getElem? hy)
        cases x
        simp only [Nd.w, Nd.kids] at hw h1
        omega
      have hys := Size_spec A y _ hyr hyw
      have hsum2 : allsN (x.kids.take (j + 1)) = allsN (x.kids.take j) ++ allN y := by
        rw [show x.kids.take (j + 1) = x.kids.take j ++ [y] by rw [List.take_add_one, hy]; rfl, allsN_append]; simp [allsN]
      have hpart2 : (allsN (x.kids.take (j + 1))).length ≤ (allsN x.kids).length := by
        have e : allsN x.kids = allsN (x.kids.take (j + 1)) ++ allsN (x.kids.drop (j + 1)) := by rw [← allsN_append, List.take_append_drop]
        rw [e, List.length_append]; omega
      rw [hsum2, List.length_append] at hpart2
      refine GOH ?_
      refine st_loadA (by rfl) (fun z hz => List.mem_append_right _ (List.mem_append_right _ (List.mem_append_left _ (hym z hz)))) hyl ?_
      refine GOH ?_
      refine st_call hys (by rfl) (by exact SPx) (fun v Post hv => ?_)
      obtain ⟨rfl, rfl⟩ := hv
      simp only [CNx]
      refine GOH ?_
      refine ⟨(j + 1, 1 + (allsN (x.kids.take (j + 1))).length), ⟨by simp only; omega, rfl⟩, by simp only; omega, ?_, by exact IMx⟩
      rw [hsum2, List.length_append]
      rw [show (((1 + ((allsN (x.kids.take j)).length + (allN y).length) : Nat) : Int)) = ((1 + (allsN (x.kids.take j)).length : Nat) : Int) + ((allN y).length : Int) by omega]
      exact SUx
open Go Go.V Go.ChangeShapes Go.WideShapes Go.Deep
section
variable {H : Type} {enc : TypeId × Value → H}
theorem u3 : Tryz.prog.underlying 3 = some (.int .i64) := by kernel_rfl
theorem u4 : Tryz.prog.underlying 4 = some .bool := by kernel_rfl
theorem u9 : Tryz.prog.underlying 9 = some .string := by kernel_rfl
theorem u22 : Tryz.prog.underlying 22 = some (.slice 9) := by kernel_rfl
theorem u23 : Tryz.prog.underlying 23 = some (.slice 48) := by kernel_rfl
theorem u44 : Tryz.prog.underlying 44 = some (.slice 46) := by kernel_rfl
noncomputable def fs46 : Array Field := match Tryz.prog.underlying 46 with | some (.struct fs) => fs | _ => #[]
theorem u46 : Tryz.prog.underlying 46 = some (.struct fs46) := by kernel_rfl
noncomputable def fs48 : Array Field := match Tryz.prog.underlying 48 with | some (.struct fs) => fs | _ => #[]
theorem u48 : Tryz.prog.underlying 48 = some (.struct fs48) := by kernel_rfl
theorem litT : LitT Tryz.prog 46 44 := ⟨⟨fs46, u46, by kernel_rfl, 42, 2, 43, 9, by kernel_rfl, by kernel_rfl, by kernel_rfl, by kernel_rfl, by kernel_rfl, by kernel_rfl, by kernel_rfl, by kernel_rfl, by kernel_rfl, by kernel_rfl⟩, by kernel_rfl, u44⟩
theorem nodT : NodT Tryz.prog 48 46 23 22 := ⟨⟨fs48, u48, by kernel_rfl, 41, 9, 3, by kernel_rfl, by kernel_rfl, by kernel_rfl, by kernel_rfl, by kernel_rfl, by kernel_rfl, by kernel_rfl, u22⟩, by kernel_rfl, by kernel_rfl, by kernel_rfl, by kernel_rfl, u23⟩
noncomputable def ms146 : Array (String × TypeId) := match Tryz.prog.underlying 146 with | some (.interface ms) => ms | _ => #[]
theorem u146 : Tryz.prog.underlying 146 = some (.interface ms146) := by kernel_rfl
theorem closedS : closedB Tryz.prog [2, 3, 4, 5, 9, 22, 23, 25, 41, 42, 43, 44, 46, 48, 62] = true := by kernel_rfl
theorem closedP : Closed Tryz.prog (· ∈ [2, 3, 4, 5, 9, 22, 23, 25, 41, 42, 43, 44, 46, 48, 62]) := closed_of closedS
theorem own : ownKnob Tryz.prog.godebug = none := by kernel_rfl
theorem bulk_one (d : DataW H) : 1 ≤ Rows.uptoBulk d := by
  cases d with
  | lit l => cases l <;> simp [Rows.uptoBulk]
  | _ => simp [Rows.uptoBulk]
theorem bulk_len (l : List (DataW H)) : l.length ≤ Rows.uptoBulkAll l := by
  induction l with
  | nil => simp
  | cons d r ih =>
    have := bulk_one d
    simp only [Rows.uptoBulkAll, List.length_cons]
    omega
theorem bulk_mem {d : DataW H} {l : List (DataW H)} (h : d ∈ l) : Rows.uptoBulk d ≤ Rows.uptoBulkAll l := by
  induction l with
  | nil => cases h
  | cons y r ih =>
    simp only [Rows.uptoBulkAll]
    rcases List.mem_cons.1 h with rfl | h
    · omega
    · have := ih h; omega
theorem bulk_sum (l : List (DataW H)) : (l.map Rows.uptoBulk).sum = Rows.uptoBulkAll l := by
  induction l with
  | nil => rfl
  | cons d r ih => simp only [List.map_cons, List.sum_cons, ih, Rows.uptoBulkAll]
theorem bulkB : Bulk (Rows.uptoBulk (H := H)) where
  agg l d h := by have := bulk_mem h; simp only [Rows.uptoBulk]; omega
  sl es sp d h := by have := bulk_mem h; simp only [Rows.uptoBulk]; omega
  len es sp := by have := bulk_len es; simp only [Rows.uptoBulk]; omega
  str bs := by simp only [Rows.uptoBulk]; omega
  sls es sp := by rw [bulk_sum]; simp only [Rows.uptoBulk]; omega
  aggs l := by rw [bulk_sum]; simp only [Rows.uptoBulk]; omega
theorem node_form {W : World} {base : Nat} {v : Value} (hv : Value.okWide Tryz.prog W .any base 48 v) : ∃ cs : List Value, v = .agg cs.toArray := by
  simp only [Value.okWide, u48] at hv
  obtain ⟨cs, rfl, _⟩ := hv
  exact ⟨cs.toList, by simp⟩
theorem gErr : Tryz.prog.globalNamed "strconv.ErrRange" = some 4 := by kernel_rfl
theorem gErrT : (Tryz.prog.globals[4]?).map (·.type) = some 146 := by kernel_rfl
theorem gRen : Tryz.sl174_ren.g 16 = 4 := by kernel_rfl
theorem err_in {W : World} {d : DataW Unit} {r : List (String × DataW Unit)} (h : laidMet Tryz.prog (("strconv.ErrRange", d) :: r) W) (hd : ∃ nm e, d = .iface nm e) {A : List Atom} (hA : ∀ a : Atom, a.holds W → a ∈ A) : ErA A := by
  obtain ⟨nm, e, rfl⟩ := hd
  obtain ⟨ps, ⟨g0, t0, cs0, f0, p0, q0, hg0, ht0, hv0, hd0, _, e0⟩, _, hrows⟩ := h
  obtain rfl := Option.some.inj (gErr.symm.trans hg0)
  obtain rfl := Option.some.inj (gErrT.symm.trans ht0)
  subst e0
  have hcs : ∃ te pe, cs0 = #[.iface te pe] := by
    obtain ⟨_, te, pe, he, _, _⟩ := iface_of_trod u146 hd0
    exact ⟨te, pe, by rw [← he]⟩
  obtain ⟨te, pe, rfl⟩ := hcs
  obtain ⟨⟨c, t, hc⟩, _⟩ := hrows 4 0 (by simp [MemPlace.row])
  refine ⟨.iface te pe, ?_, .inr ⟨te, pe, rfl⟩⟩
  rw [gRen]
  have hcell : W.cell? ⟨4, 0, none⟩ = some (.iface te pe) := by simpa using World.var?_cell gErr hv0 0
  refine hA _ (holds_cell hcell ?_)
  unfold World.frozen?
  rw [hc]
  simp
end
section
variable {H : Type} {enc : TypeId × Value → H}
noncomputable def fs25 : Array Field := match Tryz.prog.underlying 25 with | some (.struct fs) => fs | _ => #[]
theorem u25 : Tryz.prog.underlying 25 = some (.struct fs25) := by kernel_rfl
theorem fs25s : fs25.size = 5 := by kernel_rfl
theorem fs25l : (fs25.toList.map fun f => (f.type, f.offset)) = [(9, 0), (22, 1), (22, 2), (3, 3), (23, 4)] := by kernel_rfl
theorem c9 : Tryz.prog.cellsOf 9 = 1 := by kernel_rfl
theorem c22 : Tryz.prog.cellsOf 22 = 1 := by kernel_rfl
theorem c3 : Tryz.prog.cellsOf 3 = 1 := by kernel_rfl
theorem c23 : Tryz.prog.cellsOf 23 = 1 := by kernel_rfl
theorem c25 : Tryz.prog.cellsOf 25 = 5 := by kernel_rfl
theorem c48 : Tryz.prog.cellsOf 48 = 11 := by kernel_rfl
theorem md_form {W : World} {base : Nat} {v : Value} (hv : Value.okWide Tryz.prog W .any base 25 v) : ∃ cs : List Value, v = .agg cs.toArray := by
  simp only [Value.okWide, u25] at hv
  obtain ⟨cs, rfl, _⟩ := hv
  exact ⟨cs.toList, by simp⟩
theorem rd_md {W : World} {A : List Atom} (hA : ∀ a : Atom, a.holds W → a ∈ A) (n : Nat) (cs : List Value) (x : DataW H × List MemPlace) (hN : Rows.uptoBulk x.1 ≤ 1048576) (h : DataW.trod enc Tryz.prog W 0 (fun _ => true) true n 25 cs = some x) (hf : W.noneFrozen x.2) : ∃ m : Md, MdW A m cs ∧ Nd.ws m.body ≤ Rows.uptoBulk x.1 := by
  obtain ⟨ys, k, _, rfl, hlen, hyl, hfld⟩ := DataW.trod_struct u25 h
  rw [c25] at hlen
  replace hN : Rows.uptoBulk (.agg (ys.map (·.1))) ≤ 1048576 := hN
  have hget : ∀ (i : Nat) (ty off : Nat), (fs25.toList.map fun f => (f.type, f.offset))[i]? = some (ty, off) → DataW.trod enc Tryz.prog W 0 (fun _ => true) true k ty ((cs.drop off).take (Tryz.prog.cellsOf ty)) = ys[i]? := fun i ty off hi => by
    rw [List.getElem?_map] at hi
    obtain ⟨f, hf1, hf2⟩ := Option.map_eq_some_iff.1 hi
    cases hf2
    exact hfld i f (by rw [← hf1, Array.getElem?_toList])
  have hyl5 : ys.length = 5 := by rw [hyl]; exact fs25s
  have hys : ∀ i, i < 5 → ys[i]? = some (ys.getD i (.nil, [])) := fun i hi => by
    rw [List.getD_eq_getElem?_getD, List.getElem?_eq_getElem (by omega)]; rfl
  have g0 := (hget 0 9 0 (by rw [fs25l]; rfl)).trans (hys 0 (by omega))
  have g1 := (hget 1 22 1 (by rw [fs25l]; rfl)).trans (hys 1 (by omega))
  have g2 := (hget 2 22 2 (by rw [fs25l]; rfl)).trans (hys 2 (by omega))
  have g3 := (hget 3 3 3 (by rw [fs25l]; rfl)).trans (hys 3 (by omega))
  have g4 := (hget 4 23 4 (by rw [fs25l]; rfl)).trans (hys 4 (by omega))
  rw [c9] at g0; rw [c22] at g1 g2; rw [c3] at g3; rw [c23] at g4
  obtain ⟨s, e0, d0, _⟩ := DataW.trod_string u9 g0
  obtain ⟨z3, e3, _, w3⟩ := DataW.trod_int u3 g3
  have hlt : ∀ i, i < 5 → Rows.uptoBulk (ys.getD i (.nil, [])).1 < Rows.uptoBulk (.agg (ys.map (·.1))) := fun i hi => bulkB.agg _ _ (List.mem_map.2 ⟨_, List.mem_of_getElem? (hys i hi), rfl⟩)
  have hfr : ∀ i, i < 5 → W.noneFrozen (ys.getD i (.nil, [])).2 := fun i hi b o hbo => hf b o (flat_sub (hys i hi) hbo)
  obtain ⟨v1, e1⟩ : ∃ v, (cs.drop 1).take 1 = [v] := List.length_eq_one_iff.1 (by simp; omega)
  obtain ⟨v2, e2⟩ : ∃ v, (cs.drop 2).take 1 = [v] := List.length_eq_one_iff.1 (by simp; omega)
  obtain ⟨v4, e4⟩ : ∃ v, (cs.drop 4).take 1 = [v] := List.length_eq_one_iff.1 (by simp; omega)
  rw [e1] at g1; rw [e2] at g2; rw [e4] at g4
  have l1 := hlt 1 (by omega)
  have l2 := hlt 2 (by omega)
  have l4 := hlt 4 (by omega)
  obtain ⟨args, hargs⟩ := rd_texts bulkB u22 u9 c9 g1 (hfr 1 (by omega)) hA (by omega)
  obtain ⟨temps, htemps⟩ := rd_texts bulkB u22 u9 c9 g2 (hfr 2 (by omega)) hA (by omega)
  obtain ⟨a, kk, c, bk, o, us, D, Pl, m, rfl, ⟨hk, hks, hkc⟩, ha, hi⟩ := rd_rows bulkB u23 c48 (by decide) g4 (hfr 4 (by omega)) hA
  obtain ⟨l, hl, hq⟩ := choose_rows (α := Nd) (Q := fun i y => NdRd A y (us i) ∧ y.w ≤ Rows.uptoBulk (D i)) (n := kk) (fun i hik => by
    obtain ⟨q1, _, _, q4, q5⟩ := hi i hik
    exact rd_node bulkB nodT litT hA (Rows.uptoBulk (D i)) m (us i) (D i, Pl i) (Nat.le_refl _) (by omega) q4 q5)
  have b3 := wf_i64 w3
  have hs0 : s.size ≤ 1048576 := by
    have h3 := hlt 0 (by omega)
    have e : (ys.getD 0 (.nil, [])).1 = .lit (.string s.data.toList) := congrArg Prod.fst d0
    rw [e] at h3
    have h5 := bulkB.str (H := H) s.data.toList
    have e2 : s.data.toList.length = s.size := by simp
    omega
  have hsz4 : Nd.ws l ≤ Rows.uptoBulk (ys.getD 4 (.nil, [])).1 := by
    refine Nat.le_trans (Nd.ws_le (f := fun i => Rows.uptoBulk (D i)) (o := 0) (fun i x hx => ?_)) ?_
    · rw [Nat.zero_add]; exact (hq i x hx).2
    · rw [hl]; exact hks
  have hcs : cs = [.string s, v1, v2, vi z3, .slice a l.length c] := by
    have p0 := take_one e0
    have p1 := take_one e1
    have p2 := take_one e2
    have p3 := take_one e3
    have p4 := take_one e4
    obtain ⟨a0, a1, a2, a3, a4, rfl⟩ : ∃ a0 a1 a2 a3 a4, cs = [a0, a1, a2, a3, a4] := by
      match cs, hlen with
      | [a0, a1, a2, a3, a4], _ => exact ⟨a0, a1, a2, a3, a4, rfl⟩
    simp only [List.getElem?_cons_zero, List.getElem?_cons_succ, Option.some.injEq] at p0 p1 p2 p3 p4
    rw [p0, p1, p2, p3, p4, hl]
  have hargs2 := hargs
  have htemps2 := htemps
  obtain ⟨aa, ac, rfl, _, _⟩ := hargs2
  obtain ⟨ta, tc, rfl, _, _⟩ := htemps2
  refine ⟨⟨s, args, temps, z3, l⟩, ⟨⟨aa, ac, ta, tc, a, c, bk, o, us, hcs, hargs, htemps, ⟨fun hp => ha (by simp only at hp; omega), by simp only; omega, fun i hi' => (hi i (by simp only at hi'; omega)).2.2.1, fun i x hx => (hq i x hx).1⟩⟩, by simp only; omega, b3⟩, ?_⟩
  show Nd.ws l ≤ Rows.uptoBulk (.agg (ys.map (·.1)))
  omega
end
end Go.Proofs.YtmnmandpdadedaaGreatDoor

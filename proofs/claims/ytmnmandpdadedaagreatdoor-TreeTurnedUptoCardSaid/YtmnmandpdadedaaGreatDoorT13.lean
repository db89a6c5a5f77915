/-
  The example's tree; what looking at it comes to.
-/
import Derived.Test.YtmnmandpdadedaaGreatDoorT12
set_option linter.unusedSimpArgs false
set_option linter.unusedVariables false
namespace Go.Proofs.YtmnmandpdadedaaGreatDoor
open Go Go.V
set_option maxHeartbeats 3200000
set_option maxRecDepth 100000
def zeroL : Lt := .mk 0 0 0 ⟨#[]⟩ []
def leafN (s : ByteArray) : Nd := .mk 2 s zeroL [] [] [] 0
def mulN : Nd := .mk 4 ⟨#[42]⟩ zeroL [] [] [leafN ⟨#[98]⟩, leafN ⟨#[99]⟩] 5
def sumN : Nd := .mk 4 ⟨#[43]⟩ zeroL [] [] [leafN ⟨#[97]⟩, mulN] 0
abbrev leafC (s : ByteArray) : List Value := [.int .u8 2, .string s, .int .u8 0, .int .i64 0, .int .u64 0, .string ⟨#[]⟩, .slice none 0 0, .slice none 0 0, .slice none 0 0, .slice none 0 0, .int .i64 0]
abbrev sendC (s : ByteArray) (q : Nat) (p : Int) : List Value := [.int .u8 4, .string s, .int .u8 0, .int .i64 0, .int .u64 0, .string ⟨#[]⟩, .slice none 0 0, .slice none 0 0, .slice none 0 0, .slice (some ⟨q, 0, none⟩) 2 2, .int .i64 p]
theorem zeroL_rd : LtRd [] zeroL [.int .u8 0, .int .i64 0, .int .u64 0, .string ⟨#[]⟩, .slice none 0 0] :=
  lt_made (B := []) (k := 0) (n := 0) (b := 0) (t := ⟨#[]⟩) (items := []) (rows := []) (sp := []) .nil rfl (fun r h => by cases h) (fun i x r h => by simp at h) ⟨by omega, by omega, by omega, by decide, by simp⟩
theorem none_rd : RdT [] (.slice none 0 0) [] := ⟨none, 0, rfl, by simp, fun i t e => by simp at e⟩
theorem leaf_rd (s : ByteArray) (hs : s.size ≤ 140737488355328) : NdRd [] (leafN s) (leafC s) :=
  nd_made (B := []) (k := 2) (s := s) (lit := zeroL) (kids := []) (p := 0) (rows := []) (sp := []) .nil rfl (fun r h => by cases h) (fun i x r h => by simp at h) ⟨by omega, hs, by simp, by omega⟩ zeroL_rd none_rd none_rd
theorem mul_rd (q : Nat) : NdRd (cellsAt q 0 (leafC ⟨#[98]⟩ ++ leafC ⟨#[99]⟩)) mulN (sendC ⟨#[42]⟩ q 5) := by
  have := nd_made (B := []) (k := 4) (s := ⟨#[42]⟩) (lit := zeroL) (kids := [leafN ⟨#[98]⟩, leafN ⟨#[99]⟩]) (p := 5) (sv := .slice (some ⟨q, 0, none⟩) 2 2) (rows := [leafC ⟨#[98]⟩, leafC ⟨#[99]⟩]) (sp := []) (.mk rfl rfl (Nat.le_refl _)) rfl (fun r h => by
    rcases List.mem_cons.1 h with rfl | h
    · rfl
    · rw [List.mem_singleton.1 h]; rfl) (fun i x r h1 h2 => by
    match i, h1, h2 with
    | 0, h1, h2 => cases h1; cases h2; exact leaf_rd _ (by decide)
    | 1, h1, h2 => cases h1; cases h2; exact leaf_rd _ (by decide)
    | i + 2, h1, h2 => simp at h1) ⟨by omega, by decide, by simp, by omega⟩ zeroL_rd none_rd none_rd
  exact this.more fun z hz => by simpa [slA] using hz
theorem sum_rd (q q2 : Nat) : NdRd (cellsAt q2 0 (leafC ⟨#[97]⟩ ++ sendC ⟨#[42]⟩ q 5) ++ cellsAt q 0 (leafC ⟨#[98]⟩ ++ leafC ⟨#[99]⟩)) sumN (sendC ⟨#[43]⟩ q2 0) := by
  have hsub : ∀ z ∈ ([] : List Atom), z ∈ cellsAt q 0 (leafC ⟨#[98]⟩ ++ leafC ⟨#[99]⟩) := fun z h => by cases h
  have := nd_made (B := cellsAt q 0 (leafC ⟨#[98]⟩ ++ leafC ⟨#[99]⟩)) (k := 4) (s := ⟨#[43]⟩) (lit := zeroL) (kids := [leafN ⟨#[97]⟩, mulN]) (p := 0) (sv := .slice (some ⟨q2, 0, none⟩) 2 2) (rows := [leafC ⟨#[97]⟩, sendC ⟨#[42]⟩ q 5]) (sp := []) (.mk rfl rfl (Nat.le_refl _)) rfl (fun r h => by
    rcases List.mem_cons.1 h with rfl | h
    · rfl
    · rw [List.mem_singleton.1 h]; rfl) (fun i x r h1 h2 => by
    match i, h1, h2 with
    | 0, h1, h2 => cases h1; cases h2; exact (leaf_rd _ (by decide)).more hsub
    | 1, h1, h2 => cases h1; cases h2; exact mul_rd q
    | i + 2, h1, h2 => simp at h1) ⟨by omega, by decide, by simp, by omega⟩ (zeroL_rd.more hsub) (none_rd.more hsub) (none_rd.more hsub)
  exact this.more fun z hz => by simpa [slA] using hz
theorem sum_spec : Fun Tryz.prog 42 [] [] (fun v Post => ∃ q q2, v = .agg (sendC ⟨#[43]⟩ q2 0).toArray ∧ Post = [cellsAt q2 0 (leafC ⟨#[97]⟩ ++ sendC ⟨#[42]⟩ q 5), cellsAt q 0 (leafC ⟨#[98]⟩ ++ leafC ⟨#[99]⟩)]) := by
  refine Fun.intro low42 (by simp [n42]) ?_
  refine GOH ?_
  refine st_alloc (fun r => ?_)
  refine GOH ?_
  refine st_bslice (out := leafC ⟨#[98]⟩ ++ leafC ⟨#[99]⟩) (by rfl) (by rfl) (fun q => ?_)
  refine GOH ?_
  refine st_alloc (fun r2 => ?_)
  refine GOH ?_
  refine st_bslice (out := leafC ⟨#[97]⟩ ++ sendC ⟨#[42]⟩ q 5) (by rfl) (by rfl) (fun q2 => ?_)
  refine GOH ?_
  exact ⟨.inr rfl, [.agg (sendC ⟨#[43]⟩ q2 0).toArray], [cellsAt q2 0 (leafC ⟨#[97]⟩ ++ sendC ⟨#[42]⟩ q 5), cellsAt q 0 (leafC ⟨#[98]⟩ ++ leafC ⟨#[99]⟩)], .cellN (us := sendC ⟨#[43]⟩ q2 0) (by rfl) (by rfl) (fun y hy => by simp only [List.flatten_cons, List.mem_append]; first | exact .inl hy | exact .inr (.inl hy) | exact .inr (.inr (.inl hy)) | exact .inr (.inr (.inr (.inl hy)))) .nil, by exact IMx, ⟨q, q2, rfl, rfl⟩⟩
def sumM : Md := ⟨⟨#[120]⟩, [], [], 0, [sumN]⟩
def badM : Md := ⟨⟨#[120, 58]⟩, [], [], 0, []⟩
theorem e_level : levelT sumN = 4 := by decide
theorem e_depth : depthT sumN = 1 := by decide
theorem e_size : (allN sumN).length = 5 := by decide
theorem e_check : checkN sumN = 0 := by decide
theorem e_super : checkN (leafN ⟨#[115, 117, 112, 101, 114]⟩) = 150 := by decide
theorem e_m : checkM sumM = 0 := by decide
theorem e_bad : checkM badM = 150 := by decide
theorem e_sends : sendsM sumM = [⟨#[43]⟩, ⟨#[42]⟩] := by decide
theorem e_same : mdEq sumM sumM.bare = true := by decide
theorem e_one : ndEq sumN sumN = true := by decide
theorem ErA.more {A B : List Atom} (h : ErA A) (hs : ∀ z ∈ A, z ∈ B) : ErA B := by
  obtain ⟨ev, h1, h2⟩ := h
  exact ⟨ev, hs _ h1, h2⟩
theorem badM_rd (A : List Atom) : MdW A badM [.string ⟨#[120, 58]⟩, .slice none 0 0, .slice none 0 0, .int .i64 0, .slice none 0 0] :=
  ⟨⟨none, 0, none, 0, none, 0, 0, 0, fun _ => [], rfl, ⟨none, 0, rfl, by decide, fun i t e => by simp [badM] at e⟩, ⟨none, 0, rfl, by decide, fun i t e => by simp [badM] at e⟩, ⟨fun h => absurd h (by decide), by decide, fun i hi => absurd hi (by simp [badM]), fun i x e => by simp [badM] at e⟩⟩, by decide, by decide⟩
theorem sumM_rd {A : List Atom} {q2 : Nat} (h : NdRd A sumN (sendC ⟨#[43]⟩ q2 0)) (q3 : Nat) : MdW (A ++ cellsAt q3 0 (sendC ⟨#[43]⟩ q2 0)) sumM [.string ⟨#[120]⟩, .slice none 0 0, .slice none 0 0, .int .i64 0, .slice (some ⟨q3, 0, none⟩) 1 1] :=
  ⟨⟨none, 0, none, 0, some ⟨q3, 0, none⟩, 1, q3, 0, fun _ => sendC ⟨#[43]⟩ q2 0, rfl, ⟨none, 0, rfl, by decide, fun i t e => by simp [sumM] at e⟩, ⟨none, 0, rfl, by decide, fun i t e => by simp [sumM] at e⟩,
    ⟨fun _ => rfl, by decide, fun i hi y hy => by
      have : i = 0 := by simp [sumM] at hi; omega
      subst this
      exact List.mem_append_right _ (by simpa using hy), fun i x e => by
      match i, e with
      | 0, e => cases e; exact h.more fun z hz => List.mem_append_left _ hz
      | i + 1, e => simp [sumM] at e⟩⟩, by decide, by decide⟩
theorem bare_at {B : List Atom} {ws : List Value} (h : MdW B sumM.bare ws) : ∃ aa ac ta tc c bk o bk2 o2 c2, ws = [.string ⟨#[120]⟩, .slice aa 0 ac, .slice ta 0 tc, vi 0, .slice (some ⟨bk, o, none⟩) 1 c] ∧ Atom.cell bk (o + 9) (.slice (some ⟨bk2, o2, none⟩) 2 c2) ∈ B ∧ Atom.cell bk2 (o2 + 21) (vi 0) ∈ B := by
  obtain ⟨⟨aa, ac, ta, tc, a, c, bk, o, us, rfl, _, _, hk⟩, _, _⟩ := h
  have ha := hk.at_ (by decide)
  have hm := hk.mem 0 (by decide)
  have hr := hk.rd 0 sumN.bare rfl
  obtain ⟨e1, e2, e3, e4, e5, e6, e7, e8, e9, e10, e11, e12, e13, a2, c2, bk2, o2, us2, hvs, hmany, ha2, hm2, hr2⟩ := nd_at hr
  rw [hvs] at hm
  have ha3 := ha2 (by decide)
  have hk2 := hm2 1 (by decide)
  have hr3 := hr2 1 mulN.bare rfl
  obtain ⟨f1, f2, f3, f4, f5, f6, f7, f8, f9, f10, f11, f12, f13, f14, f15, f16, hws⟩ := nd_open3 hr3
  rw [hws] at hk2
  subst ha ha3
  refine ⟨aa, ac, ta, tc, c, bk, o, bk2, o2, c2, rfl, ?_, ?_⟩
  · exact hm _ (mem_cellsAt.2 ⟨9, _, rfl, by rw [Nat.zero_mul, Nat.add_zero]; rfl⟩)
  · exact hk2 _ (mem_cellsAt.2 ⟨10, _, rfl, by rw [show o2 + 1 * 11 + 10 = o2 + 21 by omega]; rfl⟩)
theorem awake_spec (A : List Atom) (hE : ErA A) : Fun Tryz.prog 10 [] [A] (fun v Post => v = .bool true ∧ Post = [A]) := by
  refine Fun.intro low10 (by simp [n10]) ?_
  refine GOH ?_
  refine st_call sum_spec (by rfl) (by exact SPx) (fun v Post hv => ?_)
  obtain ⟨q, q2, rfl, rfl⟩ := hv
  simp only [CNx]
  obtain ⟨A1, hA1⟩ : ∃ A1, A1 = A ++ (cellsAt q2 0 (leafC ⟨#[97]⟩ ++ sendC ⟨#[42]⟩ q 5) ++ cellsAt q 0 (leafC ⟨#[98]⟩ ++ leafC ⟨#[99]⟩)) := ⟨_, rfl⟩
  have hE1 : ErA A1 := hE.more fun z hz => by rw [hA1]; exact List.mem_append_left _ hz
  have hn : NdRd A1 sumN (sendC ⟨#[43]⟩ q2 0) := (sum_rd q q2).more fun z hz => by rw [hA1]; exact List.mem_append_right _ hz
  have hnok := node_spec A1 hE1 sumN (by decide) _ hn
  refine VO.imp (H' := [A1]) (Imp.perm (by rw [hA1]; simp only [List.flatten_cons, List.flatten_nil, List.append_nil]; rw [← List.append_assoc]; exact List.perm_append_comm)) ?_
  have hsub1 : ∀ z ∈ A, z ∈ A1 := fun z hz => by rw [hA1]; exact List.mem_append_left _ hz
  have hA1p : ∃ X, A1.Perm (A ++ X) := ⟨_, by rw [hA1]⟩
  clear hA1
  refine st_alloc (fun p1 => ?_)
  refine GOH ?_
  refine st_call (Level_spec A1 sumN _ hn hnok) (by rfl) (by exact SPx) (fun v Post hv => ?_)
  obtain ⟨rfl, rfl⟩ := hv
  rw [e_level]
  simp only [CNx]
  refine GOH ?_
  refine st_call (Depth_spec A1 sumN _ hn hnok) (by rfl) (by exact SPx) (fun v Post hv => ?_)
  obtain ⟨rfl, rfl⟩ := hv
  rw [e_depth]
  simp only [CNx]
  refine GOH ?_
  refine st_call (Size_spec A1 sumN _ hn (by decide)) (by rfl) (by exact SPx) (fun v Post hv => ?_)
  obtain ⟨rfl, rfl⟩ := hv
  rw [e_size]
  simp only [CNx]
  refine GOH ?_
  refine st_call (checkNode_spec A1 sumN _ hn hnok) (by rfl) (by exact SPx) (fun v Post hv => ?_)
  obtain ⟨rfl, rfl⟩ := hv
  rw [e_check]
  simp only [CNx]
  refine GOH ?_
  have hl := (leaf_rd ⟨#[115, 117, 112, 101, 114]⟩ (by decide)).more (B := A1) (fun z hz => by cases hz)
  refine st_call (checkNode_spec A1 (leafN ⟨#[115, 117, 112, 101, 114]⟩) _ hl (node_spec A1 hE1 _ (by decide) _ hl)) (by rfl) (by exact SPx) (fun v Post hv => ?_)
  obtain ⟨rfl, rfl⟩ := hv
  rw [e_super]
  simp only [CNx]
  refine GOH ?_
  refine st_bslice (out := sendC ⟨#[43]⟩ q2 0) (by rfl) (by rfl) (fun q3 => ?_)
  refine GOH ?_
  refine st_alloc (fun p7 => ?_)
  refine GOH ?_
  obtain ⟨A2, hA2⟩ : ∃ A2, A2 = A1 ++ cellsAt q3 0 (sendC ⟨#[43]⟩ q2 0) := ⟨_, rfl⟩
  have hE2 : ErA A2 := hE1.more fun z hz => by rw [hA2]; exact List.mem_append_left _ hz
  have hmw : MdW A2 sumM [.string ⟨#[120]⟩, .slice none 0 0, .slice none 0 0, .int .i64 0, .slice (some ⟨q3, 0, none⟩) 1 1] := by rw [hA2]; exact sumM_rd hn q3
  have hm := hmw.ok hE2 (by decide)
  have hn2 : NdRd A2 sumN (sendC ⟨#[43]⟩ q2 0) := hn.more fun z hz => by rw [hA2]; exact List.mem_append_left _ hz
  have hA2p : ∃ X, A2.Perm (A ++ X) := by
    obtain ⟨X, hX⟩ := hA1p
    exact ⟨X ++ cellsAt q3 0 (sendC ⟨#[43]⟩ q2 0), by rw [hA2, ← List.append_assoc]; exact hX.append_right _⟩
  refine VO.imp (H' := [A2, cellsAt p7 0 [.string ⟨#[120]⟩, .slice none 0 0, .slice none 0 0, .int .i64 0, .slice (some ⟨q3, 0, none⟩) 1 1], cellsAt p1 0 (sendC ⟨#[43]⟩ q2 0)]) (Imp.cut (M := [A1, cellsAt q3 0 (sendC ⟨#[43]⟩ q2 0), cellsAt p7 0 [.string ⟨#[120]⟩, .slice none 0 0, .slice none 0 0, .int .i64 0, .slice (some ⟨q3, 0, none⟩) 1 1], cellsAt p1 0 (sendC ⟨#[43]⟩ q2 0)]) (by exact IMx) (Imp.perm (by rw [hA2]; simp))) ?_
  clear hA2
  refine st_call (Check_spec A2 sumM _ hm) (by rfl) (by exact SPx) (fun v Post hv => ?_)
  obtain ⟨rfl, rfl⟩ := hv
  rw [e_m]
  simp only [CNx]
  refine GOH ?_
  refine st_call (Check_spec A2 badM _ ((badM_rd A2).ok hE2 (by decide))) (by rfl) (by exact SPx) (fun v Post hv => ?_)
  obtain ⟨rfl, rfl⟩ := hv
  rw [e_bad]
  simp only [CNx]
  refine GOH ?_
  refine st_call (Sends_spec A2 sumM _ hm (by decide)) (by rfl) (by exact SPx) (fun v Post hv => ?_)
  obtain ⟨ssp, hsl, rfl⟩ := hv
  rw [e_sends] at *
  rw [show ([⟨#[43]⟩, ⟨#[42]⟩] : List ByteArray).length = 2 from rfl, show List.map Value.string [⟨#[43]⟩, ⟨#[42]⟩] = [.string ⟨#[43]⟩, .string ⟨#[42]⟩] from rfl] at *
  obtain ⟨sb, so, sc, rfl, hsc, hsl2⟩ := hsl.some (by decide)
  simp only [CNx]
  have hs0 : Atom.cell sb (so + 0) (.string ⟨#[43]⟩) ∈ slA (.slice (some ⟨sb, so, none⟩) 2 sc) [.string ⟨#[43]⟩, .string ⟨#[42]⟩] ssp := by
    simp [slA, cellsAt]
  refine GOH ?_
  refine st_call (Bare_spec A2 sumM _ hmw (by decide)) (by rfl) (by exact SPx) (fun v Post hv => ?_)
  obtain ⟨ws, B2, rfl, hb, rfl⟩ := hv
  simp only [CNx]
  obtain ⟨aa, ac, ta, tc, c, bk, o, bk2, o2, c2, rfl, hb1, hb2⟩ := bare_at hb
  refine GOH ?_
  refine st_alloc (fun p11 => ?_)
  refine GOH ?_
  obtain ⟨A3, hA3⟩ : ∃ A3, A3 = A2 ++ B2 := ⟨_, rfl⟩
  have hE3 : ErA A3 := hE2.more fun z hz => by rw [hA3]; exact List.mem_append_left _ hz
  have hm3 := (hmw.more (B := A3) fun z hz => by rw [hA3]; exact List.mem_append_left _ hz).ok hE3 (by decide)
  have hbb := (hb.more (B := A3) fun z hz => by rw [hA3]; exact List.mem_append_right _ hz).ok hE3 (by decide)
  have hn3 : NdRd A3 sumN (sendC ⟨#[43]⟩ q2 0) := hn2.more fun z hz => by rw [hA3]; exact List.mem_append_left _ hz
  have hc1 : Atom.cell bk (o + 9) (.slice (some ⟨bk2, o2, none⟩) 2 c2) ∈ A3 := by rw [hA3]; exact List.mem_append_right _ hb1
  have hc2 : Atom.cell bk2 (o2 + 21) (vi 0) ∈ A3 := by rw [hA3]; exact List.mem_append_right _ hb2
  have hA3p : ∃ X, A3.Perm (A ++ X) := by
    obtain ⟨X, hX⟩ := hA2p
    exact ⟨X ++ B2, by rw [hA3, ← List.append_assoc]; exact hX.append_right _⟩
  have hS : ∃ S, S = slA (.slice (some ⟨sb, so, none⟩) 2 sc) [.string ⟨#[43]⟩, .string ⟨#[42]⟩] ssp := ⟨_, rfl⟩
  obtain ⟨S, hS⟩ := hS
  rw [← hS] at hs0 ⊢
  clear hS
  refine VO.imp (H' := [A3, S, cellsAt p11 0 [.string ⟨#[120]⟩, .slice aa 0 ac, .slice ta 0 tc, vi 0, .slice (some ⟨bk, o, none⟩) 1 c], cellsAt p1 0 (sendC ⟨#[43]⟩ q2 0)]) (Imp.cut (M := [A2, B2, S, cellsAt p11 0 [.string ⟨#[120]⟩, .slice aa 0 ac, .slice ta 0 tc, vi 0, .slice (some ⟨bk, o, none⟩) 1 c], cellsAt p1 0 (sendC ⟨#[43]⟩ q2 0)]) (by exact IMx) (Imp.perm (by rw [hA3]; simp))) ?_
  clear hA3
  refine st_call (Same_spec A3 sumM sumM.bare _ _ hm3 hbb) (by rfl) (by exact SPx) (fun v Post hv => ?_)
  obtain ⟨rfl, rfl⟩ := hv
  rw [e_same]
  simp only [CNx]
  refine GOH ?_
  refine st_call (SameNode_spec A3 sumN sumN _ _ hn3 hn3) (by rfl) (by exact SPx) (fun v Post hv => ?_)
  obtain ⟨rfl, rfl⟩ := hv
  rw [e_one]
  simp only [CNx]
  refine GOH ?_
  obtain ⟨X, hX⟩ := hA3p
  exact endQ_mk (Post := [A]) (.inr rfl) (.tmp (by rfl) .nil) ⟨rfl, rfl⟩ (Imp.cut (M := [A3]) (by exact IMx) ⟨[X], by simpa [V.Spl] using hX⟩)
theorem Has.at {b o i : Nat} {vs : List Value} {v : Value} {L : SH} (h : vs[i]? = some v) : Has (cellsAt b o vs :: L) b (o + i) v := .cells (by omega) (by rw [Nat.add_sub_cancel_left]; exact h)
theorem Has.at0 {b o : Nat} {vs : List Value} {v : Value} {L : SH} (h : vs[0]? = some v) : Has (cellsAt b o vs :: L) b o v := .cells (by omega) (by rw [Nat.sub_self]; exact h)
theorem Upd.at {b o i : Nat} {vs ws : List Value} {u : Value} {L : SH} (h : i < vs.length) (hw : vs.set i u = ws) : Upd (cellsAt b o vs :: L) b (o + i) [u] (cellsAt b o ws :: L) := by
  subst hw
  exact Upd.set1 rfl h
theorem Upd.at0 {b o : Nat} {vs ws : List Value} {u : Value} {L : SH} (h : 0 < vs.length) (hw : vs.set 0 u = ws) : Upd (cellsAt b o vs :: L) b o [u] (cellsAt b o ws :: L) := by
  subst hw
  exact Upd.set1 rfl h
theorem permB (U1 C2 U2 V L K : List Atom) : ((U1 ++ (C2 ++ U2)) ++ (V ++ (L ++ K))).Perm (V ++ (C2 ++ (U1 ++ (U2 ++ (L ++ K))))) := by
  have e1 : (U1 ++ (C2 ++ U2)) ++ (V ++ (L ++ K)) = U1 ++ (C2 ++ (U2 ++ (V ++ (L ++ K)))) := by simp [List.append_assoc]
  rw [e1]
  refine (perm_lead3 _ _ _).trans ?_
  refine ((((perm_lead3 U2 V _).append_left U1).trans (perm_lead3 U1 V _)).append_left C2).trans ?_
  exact perm_lead3 _ _ _
theorem TreeTurned_spec (A : List Atom) (hE : ErA A) (x : Nd) (hw : x.w ≤ 274877906944) (vs : List Value) (h : NdRd A x vs) (pv : Value) (path : List Nat) (hpath : RdB A pv path) (how : Int) (hhow : -9223372036854775808 ≤ how ∧ how ≤ 9223372036854775807) : Fun Tryz.prog 9 [.agg vs.toArray, pv, .int .i64 how] [A] (fun v Post => v = .bool true ∧ Post = [A]) := by
  have hfar := farNode_spec A x vs h
  have hcopy := CopyNode_spec A _ x (Nat.le_refl _) hw vs h
  have hrd := h
  obtain ⟨pa, pc, rfl, hpl, hpr⟩ := hpath
  obtain ⟨e1, e2, e3, e4, e5, e6, e7, e8, e9, e10, e11, e12, e13, e14, e15, e16, e17, hvs, _, _⟩ := nd_open2 h
  rw [hvs] at hfar hcopy hrd ⊢
  refine Fun.intro low9 (by simp [n9]) ?_
  refine GOH ?_
  refine st_box (by rfl) (fun q => ?_)
  simp only [Value.cells]
  refine GOH ?_
  refine st_call (awake_spec A hE) (by rfl) (by exact SPx) (fun v Post hv => ?_)
  obtain ⟨rfl, rfl⟩ := hv
  simp only [CNx]
  refine GOH ?_
  refine st_call hfar (by rfl) (by exact SPx) (fun v Post hv => ?_)
  obtain ⟨bf, rfl, rfl⟩ := hv
  simp only [CNx]
  cases bf with
  | true =>
    refine GOH ?_
    exact endQ_mk (Post := [A]) (.inr rfl) (.tmp (by rfl) .nil) ⟨rfl, rfl⟩ (by exact IMx)
  | false =>
    refine GOH ?_
    refine st_call hcopy (by rfl) (by exact SPx) (fun v Post hv => ?_)
    obtain ⟨cs, B, rfl, hown, rfl⟩ := hv
    simp only [CNx]
    have hcl := hown.len
    have hcr := hown.rd
    obtain ⟨f1, f2, f3, f4, f5, f6, f7, f8, f9, f10, f11, f12, f13, f14, f15, f16, f17, hcs, _, _⟩ := nd_open2 hcr
    rw [hcs]
    refine GOHS ?_
    refine st_alloc (fun p9 => ?_)
    refine GOHS ?_
    rw [← hcs]
    have hroot := Foc.root (p := p9) hown
    generalize hM0 : cellsAt p9 0 cs ++ B = M0 at hroot
    refine VC.join (α := Nat × Nat × Nat × Nd × List Value × List Atom × List Atom) (fun z => [(2, .int .i64 how), (3, ptr0 q), (9, ptr0 p9), (10, .pointer (some ⟨z.2.1, z.2.2.1, none⟩))]) (fun _ => [A, cellsAt q 0 [cv x.kind, .string x.name, cv e1, vi e2, uv e3, .string e4, .slice e5 e6 e7, .slice e8 e9 e10, .slice e11 e12 e13, .slice e14 e15 e16, vi e17], M0])
      (fun z => Foc p9 x M0 z.2.1 z.2.2.1 z.2.2.2.1 z.2.2.2.2.1 z.2.2.2.2.2.1 z.2.2.2.2.2.2) ?_ ?_
    · refine GOH ?_
      refine VC.loop (α := Nat × Nat × Nat × Nd × List Value × List Atom × List Atom) (Γf := fun z => [(1, .slice pa path.length pc), (2, .int .i64 how), (3, ptr0 q), (9, ptr0 p9), (10, .pointer (some ⟨z.2.1, z.2.2.1, none⟩)), (11, vi z.1)]) (Hf := fun _ => [A, cellsAt q 0 [cv x.kind, .string x.name, cv e1, vi e2, uv e3, .string e4, .slice e5 e6 e7, .slice e8 e9 e10, .slice e11 e12 e13, .slice e14 e15 e16, vi e17], M0])
        (I := fun z => z.1 ≤ path.length ∧ Foc p9 x M0 z.2.1 z.2.2.1 z.2.2.2.1 z.2.2.2.2.1 z.2.2.2.2.2.1 z.2.2.2.2.2.2) (μ := fun z => path.length - z.1) (0, p9, 0, x, cs, B, []) ⟨Nat.zero_le _, hroot⟩ (by exact SUx) (Imp.cut (M := [A, cellsAt q 0 [cv x.kind, .string x.name, cv e1, vi e2, uv e3, .string e4, .slice e5 e6 e7, .slice e8 e9 e10, .slice e11 e12 e13, .slice e14 e15 e16, vi e17], cellsAt p9 0 cs, B]) (by exact IMx) (Imp.perm (by simp [← hM0]))) ?_
      rintro ⟨i, b, o, y, ws, L, R⟩ ⟨hi, hf⟩
      simp only at hi hf
      dsimp only
      have hyr := hf.own.rd
      have hhere : ∀ z ∈ cellsAt b o ws, z ∈ M0 := fun z hz => hf.here.symm.subset (List.mem_append_left _ hz)
      obtain ⟨d1, d2, d3, d4, d5, d6, d7, d8, d9, d10, d11, d12, d13, a, cc, bk, oo, us, hws, hmany, ha, hm, hr⟩ := nd_at hyr
      have hK9 : Atom.cell b (o + 9) (.slice a y.kids.length cc) ∈ M0 := hhere _ (by rw [hws]; exact mem_cellsAt.2 ⟨9, _, rfl, rfl⟩)
      by_cases hip : i < path.length
      rotate_left
      · refine GOH ?_
        rw [show decide ((i : Int) < (path.length : Int)) = false from decide_eq_false (by omega)]
        refine GOH ?_
        exact ⟨(i, b, o, y, ws, L, R), hf, by exact SUx, by exact IMx⟩
      obtain ⟨t, ht⟩ : ∃ t, path[i]? = some t := ⟨_, List.getElem?_eq_getElem hip⟩
      obtain ⟨pb, po, rfl, hpc, ht256⟩ := hpr i t ht
      refine GOH ?_
      rw [show decide ((i : Int) < (path.length : Int)) = true from decide_eq_true (by omega)]
      refine GOH ?_
      by_cases hk : 0 < y.kids.length
      rotate_left
      · rw [show decide ((y.kids.length : Int) > 0) = false from decide_eq_false (by omega)]
        refine GOH ?_
        exact ⟨(i, b, o, y, ws, L, R), hf, by exact SUx, by exact IMx⟩
      rw [show decide ((y.kids.length : Int) > 0) = true from decide_eq_true (by omega)]
      have hmod := Nat.mod_lt t hk
      obtain ⟨u, hu⟩ : ∃ u, y.kids[t % y.kids.length]? = some u := ⟨_, List.getElem?_eq_getElem hmod⟩
      obtain ⟨bk2, o2, c2, row, L2, R2, g1, g2⟩ := hf.kid hu
      rw [hws] at g1
      simp only [List.getElem?_cons_succ, List.getElem?_cons_zero, Option.some.injEq, Value.slice.injEq] at g1
      obtain ⟨rfl, _, rfl⟩ := g1
      refine GOH ?_
      refine ⟨(i + 1, bk2, o2 + t % y.kids.length * 11, u, row, L2, R2), ⟨by simp only; omega, g2⟩, by simp only; omega, by exact SUx, by exact IMx⟩
    · rintro ⟨i, b, o, y, ws, L, R⟩ hf
      simp only at hf
      dsimp only
      have hyw := hf.w
      obtain ⟨hfo, hfh, _, hfb⟩ := id hf
      cases y with
      | mk k s lit args temps kids p =>
      cases lit with
      | mk lk ln lb lt items =>
      obtain ⟨lv, av, tv, sv, rows, sp, LL, LA, LT, K, hws, hsl, hrows, wf, hlt, hav, htv, hL⟩ := hfo.parts
      simp only [Nd.kind, Nd.name, Nd.kids, Nd.at_, Nd.lit, Nd.args, Nd.temps] at hws hsl hrows wf hlt hav htv
      obtain ⟨lsv, lrows, lsp, LK, hlv, hlsl, hlrows, lwf, hLL⟩ := hlt.parts
      simp only [Lt.kind, Lt.n, Lt.bits, Lt.text, Lt.items] at hlv hlsl hlrows lwf
      simp only [Nd.w, Lt.size] at hyw
      have hge1 := sizes_ge items
      have hge2 := ws_ge kids
      obtain ⟨aa, ac, rfl, _, _⟩ := hav.rd
      obtain ⟨ta, tc, rfl, _, _⟩ := htv.rd
      obtain ⟨ka, kc, rfl⟩ := hsl.form
      obtain ⟨la, lc, rfl⟩ := hlsl.form
      subst hlv
      subst hws
      simp only [CNx] at hfo hfh hfb
      generalize hSK : slA (.slice ka kids.length kc) rows.flatten sp ++ K = SK
      obtain ⟨asp, hasl, hLA, hal, hasz⟩ := id hav
      have hne0 : s ≠ s ++ ⟨#[97]⟩ := fun e => by
        have := congrArg ByteArray.size e
        rw [ByteArray.size_append] at this
        have e2 : (⟨#[97]⟩ : ByteArray).size = 1 := rfl
        omega
      refine VC.imp (H' := [cellsAt b o [cv k, .string s, cv lk, vi ln, uv lb, .string lt, .slice la items.length lc, .slice aa args.length ac, .slice ta temps.length tc, .slice ka kids.length kc, vi p], LL, LA, LT, SK, R, A, cellsAt q 0 [cv x.kind, .string x.name, cv e1, vi e2, uv e3, .string e4, .slice e5 e6 e7, .slice e8 e9 e10, .slice e11 e12 e13, .slice e14 e15 e16, vi e17]]) ?_ ?_
      · refine Imp.cut (M := [M0, A, cellsAt q 0 [cv x.kind, .string x.name, cv e1, vi e2, uv e3, .string e4, .slice e5 e6 e7, .slice e8 e9 e10, .slice e11 e12 e13, .slice e14 e15 e16, vi e17]]) (by exact IMx) (Imp.perm ?_)
        simp only [List.flatten_cons, List.flatten_nil, List.append_nil]
        refine ((hfh.trans ((hL.append_right R).append_left _)).append_right _).trans ?_
        rw [hSK]
        simp [List.append_assoc]
      refine VC.join (α := Nd × List Value × List Atom) (fun z => [(3, ptr0 q), (9, ptr0 p9)]) (fun z => [A, cellsAt q 0 [cv x.kind, .string x.name, cv e1, vi e2, uv e3, .string e4, .slice e5 e6 e7, .slice e8 e9 e10, .slice e11 e12 e13, .slice e14 e15 e16, vi e17], cellsAt p9 0 z.2.1, z.2.2]) (fun z => ndEq x z.1 = false ∧ ndEq z.1 x = false ∧ NdOwn z.1 z.2.1 z.2.2) ?_ ?_
      · refine GOH ?_
        by_cases h0 : how.tmod 6 = 0
        · rw [show decide (how.tmod 6 = 0) = true from decide_eq_true h0]
          refine GOH ?_
          refine st_load1 (by rfl) (Has.at (i := 1) rfl) ?_
          refine GOH ?_
          refine st_cat2 (by rfl) (by rfl) (by show s.size + 1 ≤ _; omega) ?_
          refine GOH ?_
          refine st_store' (by rfl) (by rfl) (by rfl) (by rfl) (by rfl) (Upd.at (i := 1) (ws := [cv k, .string (s ++ ⟨#[97]⟩), cv lk, vi ln, uv lb, .string lt, .slice la items.length lc, .slice aa args.length ac, .slice ta temps.length tc, .slice ka kids.length kc, vi p]) (by simp) rfl) ?_
          refine GOH ?_
          obtain ⟨z, us, Lz, g1, g2, g3, g4⟩ := hfb _ [cv k, .string (s ++ ⟨#[97]⟩), cv lk, vi ln, uv lb, .string lt, .slice la items.length lc, .slice aa args.length ac, .slice ta temps.length tc, .slice ka kids.length kc, vi p] (LL ++ (LA ++ (LT ++ SK))) (by rw [← hSK]; exact NdOwn.of (p := p) hsl hrows ⟨wf.kind, by rw [ByteArray.size_append]; show s.size + 1 ≤ _; omega, wf.many, wf.at_⟩ hlt hav htv) (by simp [ndEq, hne0]) (by simp [ndEq, hne0.symm])
          exact ⟨(z, us, Lz), ⟨g1, g2, g3⟩, by exact SUx, Imp.cut (M := [cellsAt b o [cv k, .string (s ++ ⟨#[97]⟩), cv lk, vi ln, uv lb, .string lt, .slice la items.length lc, .slice aa args.length ac, .slice ta temps.length tc, .slice ka kids.length kc, vi p], LL, LA, LT, SK, R, A, cellsAt q 0 [cv x.kind, .string x.name, cv e1, vi e2, uv e3, .string e4, .slice e5 e6 e7, .slice e8 e9 e10, .slice e11 e12 e13, .slice e14 e15 e16, vi e17]]) (by exact IMx) (Imp.cut (M := [cellsAt b o [cv k, .string (s ++ ⟨#[97]⟩), cv lk, vi ln, uv lb, .string lt, .slice la items.length lc, .slice aa args.length ac, .slice ta temps.length tc, .slice ka kids.length kc, vi p], LL ++ (LA ++ (LT ++ SK)), R, A, cellsAt q 0 [cv x.kind, .string x.name, cv e1, vi e2, uv e3, .string e4, .slice e5 e6 e7, .slice e8 e9 e10, .slice e11 e12 e13, .slice e14 e15 e16, vi e17]]) (Imp.perm (by simp)) (Imp.turn g4))⟩
        rw [show decide (how.tmod 6 = 0) = false from decide_eq_false h0]
        refine GOH ?_
        by_cases h1 : how.tmod 6 = 1
        · rw [show decide (how.tmod 6 = 1) = true from decide_eq_true h1]
          refine GOH ?_
          refine st_load1 (by rfl) (Has.at0 rfl) ?_
          refine GOH ?_
          rw [show IntKind.u8.wrap ((BitVec.ofInt IntKind.u8.bits (k : Int) ^^^ BitVec.ofInt IntKind.u8.bits 1).toNat : Int) = ((k ^^^ 1 : Nat) : Int) from xorB wf.kind]
          refine GOH ?_
          obtain ⟨z, us, Lz, g1, g2, g3, g4⟩ := hfb _ [cv (k ^^^ 1), .string s, cv lk, vi ln, uv lb, .string lt, .slice la items.length lc, .slice aa args.length ac, .slice ta temps.length tc, .slice ka kids.length kc, vi p] (LL ++ (LA ++ (LT ++ SK))) (by rw [← hSK]; exact NdOwn.of (p := p) hsl hrows ⟨xorB_lt wf.kind, wf.name, wf.many, wf.at_⟩ hlt hav htv) (by simp [ndEq, (xorB_ne k).symm]) (by simp [ndEq, xorB_ne k])
          exact ⟨(z, us, Lz), ⟨g1, g2, g3⟩, by exact SUx, Imp.cut (M := [cellsAt b o [cv (k ^^^ 1), .string s, cv lk, vi ln, uv lb, .string lt, .slice la items.length lc, .slice aa args.length ac, .slice ta temps.length tc, .slice ka kids.length kc, vi p], LL, LA, LT, SK, R, A, cellsAt q 0 [cv x.kind, .string x.name, cv e1, vi e2, uv e3, .string e4, .slice e5 e6 e7, .slice e8 e9 e10, .slice e11 e12 e13, .slice e14 e15 e16, vi e17]]) (by exact IMx) (Imp.cut (M := [cellsAt b o [cv (k ^^^ 1), .string s, cv lk, vi ln, uv lb, .string lt, .slice la items.length lc, .slice aa args.length ac, .slice ta temps.length tc, .slice ka kids.length kc, vi p], LL ++ (LA ++ (LT ++ SK)), R, A, cellsAt q 0 [cv x.kind, .string x.name, cv e1, vi e2, uv e3, .string e4, .slice e5 e6 e7, .slice e8 e9 e10, .slice e11 e12 e13, .slice e14 e15 e16, vi e17]]) (Imp.perm (by simp)) (Imp.turn g4))⟩
        rw [show decide (how.tmod 6 = 1) = false from decide_eq_false h1]
        refine GOH ?_
        by_cases h2 : how.tmod 6 = 2
        · rw [show decide (how.tmod 6 = 2) = true from decide_eq_true h2]
          refine GOH ?_
          refine st_load1 (by rfl) (Has.at (i := 3) rfl) ?_
          refine GOH ?_
          refine st_store' (by rfl) (by rfl) (by rfl) (by rfl) (by rfl) (Upd.at (i := 3) (ws := [cv k, .string s, cv lk, vi (xorI ln), uv lb, .string lt, .slice la items.length lc, .slice aa args.length ac, .slice ta temps.length tc, .slice ka kids.length kc, vi p]) (by simp) rfl) ?_
          refine GOH ?_
          have hlown := LtOwn.of (n := xorI ln) hlsl hlrows ⟨lwf.kind, xorI_in ln, lwf.bits, lwf.text, lwf.many⟩
          have hl1 : litEq (.mk lk ln lb lt items) (.mk lk (xorI ln) lb lt items) = false := by simp [litEq, (xorI_ne ln).symm]
          have hl2 : litEq (.mk lk (xorI ln) lb lt items) (.mk lk ln lb lt items) = false := by simp [litEq, xorI_ne ln]
          obtain ⟨z, us, Lz, g1, g2, g3, g4⟩ := hfb _ [cv k, .string s, cv lk, vi (xorI ln), uv lb, .string lt, .slice la items.length lc, .slice aa args.length ac, .slice ta temps.length tc, .slice ka kids.length kc, vi p] (LL ++ (LA ++ (LT ++ SK))) (by rw [← hSK]; exact (NdOwn.of (p := p) (k := k) (s := s) hsl hrows wf hlown hav htv).perm (hLL.append_right _)) (by simp [ndEq, hl1]) (by simp [ndEq, hl2])
          exact ⟨(z, us, Lz), ⟨g1, g2, g3⟩, by exact SUx, Imp.cut (M := [cellsAt b o [cv k, .string s, cv lk, vi (xorI ln), uv lb, .string lt, .slice la items.length lc, .slice aa args.length ac, .slice ta temps.length tc, .slice ka kids.length kc, vi p], LL, LA, LT, SK, R, A, cellsAt q 0 [cv x.kind, .string x.name, cv e1, vi e2, uv e3, .string e4, .slice e5 e6 e7, .slice e8 e9 e10, .slice e11 e12 e13, .slice e14 e15 e16, vi e17]]) (by exact IMx) (Imp.cut (M := [cellsAt b o [cv k, .string s, cv lk, vi (xorI ln), uv lb, .string lt, .slice la items.length lc, .slice aa args.length ac, .slice ta temps.length tc, .slice ka kids.length kc, vi p], LL ++ (LA ++ (LT ++ SK)), R, A, cellsAt q 0 [cv x.kind, .string x.name, cv e1, vi e2, uv e3, .string e4, .slice e5 e6 e7, .slice e8 e9 e10, .slice e11 e12 e13, .slice e14 e15 e16, vi e17]]) (Imp.perm (by simp)) (Imp.turn g4))⟩
        rw [show decide (how.tmod 6 = 2) = false from decide_eq_false h2]
        refine GOH ?_
        by_cases h3 : how.tmod 6 = 3
        · subst hLA
          refine VC.imp (H' := [cellsAt b o [cv k, .string s, cv lk, vi ln, uv lb, .string lt, .slice la items.length lc, .slice aa args.length ac, .slice ta temps.length tc, .slice ka kids.length kc, vi p], slA (.slice aa args.length ac) (args.map Value.string) asp, LL, LT, SK, R, A, cellsAt q 0 [cv x.kind, .string x.name, cv e1, vi e2, uv e3, .string e4, .slice e5 e6 e7, .slice e8 e9 e10, .slice e11 e12 e13, .slice e14 e15 e16, vi e17]]) (by exact IMx) ?_
          rw [show decide (how.tmod 6 = 3) = true from decide_eq_true h3]
          refine GOH ?_
          refine st_load1 (by rfl) (Has.at (i := 7) rfl) ?_
          refine GOH ?_
          refine st_bslice (out := [Value.string ⟨#[97]⟩]) (by rfl) (by rfl) (fun r => ?_)
          refine st_append (k := args.length) (m := 1) (xs := args.map Value.string) (sp := asp) (ys := [Value.string ⟨#[97]⟩]) (by rfl) (by rfl) hasl (by exact TKx) (by rfl) ?_ rfl (by rfl) (by rfl) (by decide) (by omega) (fun sv' sp' hsl' => ?_)
          · exact ⟨rfl, fun a ha => by simp only [List.flatten_cons, List.mem_append]; exact .inl ha⟩
          rw [show args.map Value.string ++ [Value.string ⟨#[97]⟩] = (args ++ [(⟨#[97]⟩ : ByteArray)]).map Value.string by simp] at hsl' ⊢
          obtain ⟨b2, o2, c2, rfl, _, _⟩ := hsl'.some (by omega)
          have hav' : TxOwn (.slice (some ⟨b2, o2, none⟩) (args.length + 1) c2) (args ++ [(⟨#[97]⟩ : ByteArray)]) (slA (.slice (some ⟨b2, o2, none⟩) (args.length + 1) c2) ((args ++ [(⟨#[97]⟩ : ByteArray)]).map Value.string) sp') := by
            refine ⟨sp', by rw [List.length_append]; exact hsl', rfl, by rw [List.length_append, List.length_singleton]; omega, fun t ht => ?_⟩
            rcases List.mem_append.1 ht with h | h
            · exact hasz t h
            · rw [List.mem_singleton.1 h]; decide
          generalize hLA' : slA (.slice (some ⟨b2, o2, none⟩) (args.length + 1) c2) ((args ++ [(⟨#[97]⟩ : ByteArray)]).map Value.string) sp' = LA' at *
          refine VO.imp (H' := [cellsAt b o [cv k, .string s, cv lk, vi ln, uv lb, .string lt, .slice la items.length lc, .slice aa args.length ac, .slice ta temps.length tc, .slice ka kids.length kc, vi p], LA', LL, LT, SK, R, A, cellsAt q 0 [cv x.kind, .string x.name, cv e1, vi e2, uv e3, .string e4, .slice e5 e6 e7, .slice e8 e9 e10, .slice e11 e12 e13, .slice e14 e15 e16, vi e17]]) (by exact IMx) ?_
          refine GOH ?_
          refine st_store' (by rfl) (by rfl) (by rfl) (by rfl) (by rfl) (Upd.at (i := 7) (ws := [cv k, .string s, cv lk, vi ln, uv lb, .string lt, .slice la items.length lc, .slice (some ⟨b2, o2, none⟩) (args.length + 1) c2, .slice ta temps.length tc, .slice ka kids.length kc, vi p]) (by simp) rfl) ?_
          refine GOH ?_
          have hna : args ≠ args ++ [(⟨#[97]⟩ : ByteArray)] := fun e => by
            have := congrArg List.length e
            simp at this
          obtain ⟨z, us, Lz, g1, g2, g3, g4⟩ := hfb _ [cv k, .string s, cv lk, vi ln, uv lb, .string lt, .slice la items.length lc, .slice (some ⟨b2, o2, none⟩) (args.length + 1) c2, .slice ta temps.length tc, .slice ka kids.length kc, vi p] (LL ++ (LA' ++ (LT ++ SK))) (by rw [← hSK]; exact NdOwn.of (p := p) (k := k) (s := s) hsl hrows wf hlt hav' htv) (by simp [ndEq, hna]) (by simp [ndEq, hna.symm])
          exact ⟨(z, us, Lz), ⟨g1, g2, g3⟩, by exact SUx, Imp.cut (M := [cellsAt b o [cv k, .string s, cv lk, vi ln, uv lb, .string lt, .slice la items.length lc, .slice (some ⟨b2, o2, none⟩) (args.length + 1) c2, .slice ta temps.length tc, .slice ka kids.length kc, vi p], LL, LA', LT, SK, R, A, cellsAt q 0 [cv x.kind, .string x.name, cv e1, vi e2, uv e3, .string e4, .slice e5 e6 e7, .slice e8 e9 e10, .slice e11 e12 e13, .slice e14 e15 e16, vi e17]]) (by exact IMx) (Imp.cut (M := [cellsAt b o [cv k, .string s, cv lk, vi ln, uv lb, .string lt, .slice la items.length lc, .slice (some ⟨b2, o2, none⟩) (args.length + 1) c2, .slice ta temps.length tc, .slice ka kids.length kc, vi p], LL ++ (LA' ++ (LT ++ SK)), R, A, cellsAt q 0 [cv x.kind, .string x.name, cv e1, vi e2, uv e3, .string e4, .slice e5 e6 e7, .slice e8 e9 e10, .slice e11 e12 e13, .slice e14 e15 e16, vi e17]]) (Imp.perm (by simp)) (Imp.turn g4))⟩
        rw [show decide (how.tmod 6 = 3) = false from decide_eq_false h3]
        refine GOH ?_
        by_cases h4 : how.tmod 6 = 4
        · refine VC.imp (H' := [cellsAt b o [cv k, .string s, cv lk, vi ln, uv lb, .string lt, .slice la items.length lc, .slice aa args.length ac, .slice ta temps.length tc, .slice ka kids.length kc, vi p], slA (.slice la items.length lc) lrows.flatten lsp, LK, LA, LT, SK, R, A, cellsAt q 0 [cv x.kind, .string x.name, cv e1, vi e2, uv e3, .string e4, .slice e5 e6 e7, .slice e8 e9 e10, .slice e11 e12 e13, .slice e14 e15 e16, vi e17]]) (Imp.cut (M := [LL, cellsAt b o [cv k, .string s, cv lk, vi ln, uv lb, .string lt, .slice la items.length lc, .slice aa args.length ac, .slice ta temps.length tc, .slice ka kids.length kc, vi p], LA, LT, SK, R, A, cellsAt q 0 [cv x.kind, .string x.name, cv e1, vi e2, uv e3, .string e4, .slice e5 e6 e7, .slice e8 e9 e10, .slice e11 e12 e13, .slice e14 e15 e16, vi e17]]) (by exact IMx) (Imp.perm (by simp only [List.flatten_cons]; refine (perm_lead3 _ _ _).trans (List.Perm.append_left _ ?_); rw [← List.append_assoc (slA _ _ _) LK]; exact hLL.append_right _))) ?_
          rw [show decide (how.tmod 6 = 4) = true from decide_eq_true h4]
          refine GOH ?_
          refine VC.draws ⟨?_, ?_, trivial⟩
          all_goals
            refine GOH ?_
            refine st_load1 (by rfl) (Has.at (i := 6) rfl) ?_
            refine GOH ?_
            refine st_bslice (out := [Value.int .u8 0, .int .i64 0, .int .u64 0, .string ⟨#[]⟩, .slice none 0 0]) (by rfl) (by rfl) (fun r => ?_)
            refine st_append (k := items.length) (m := 1) (xs := lrows.flatten) (sp := lsp) (ys := [Value.int .u8 0, .int .i64 0, .int .u64 0, .string ⟨#[]⟩, .slice none 0 0]) (by rfl) (by rfl) hlsl (by exact TKx) (by rfl) ?_ rfl (by rfl) (by rfl) (by decide) (by omega) (fun sv' sp' hsl' => ?_)
            · exact ⟨rfl, fun a ha => by simp only [List.flatten_cons, List.mem_append]; exact .inl ha⟩
            obtain ⟨b2, o2, c2, rfl, _, _⟩ := hsl'.some (by omega)
            have hcells : slA (.slice (some ⟨b2, o2, none⟩) (items.length + 1) c2) (lrows.flatten ++ [Value.int .u8 0, .int .i64 0, .int .u64 0, .string ⟨#[]⟩, .slice none 0 0]) sp' = cellsAt b2 o2 lrows.flatten ++ (cellsAt b2 (o2 + items.length * 5) [Value.int .u8 0, .int .i64 0, .int .u64 0, .string ⟨#[]⟩, .slice none 0 0] ++ cellsAt b2 (o2 + (items.length * 5 + 5)) sp') := by
              show cellsAt b2 o2 ((lrows.flatten ++ [Value.int .u8 0, .int .i64 0, .int .u64 0, .string ⟨#[]⟩, .slice none 0 0]) ++ sp') = _
              rw [List.append_assoc, cellsAt_append, cellsAt_append, hlsl.len, Nat.add_assoc]; rfl
            have hfl : lrows.flatten ++ [Value.int .u8 0, .int .i64 0, .int .u64 0, .string ⟨#[]⟩, .slice none 0 0] = (lrows ++ [[Value.int .u8 0, .int .i64 0, .int .u64 0, .string ⟨#[]⟩, .slice none 0 0]]).flatten := by simp
            rw [hfl] at hcells
            rw [hfl] at hsl' ⊢
            generalize hU1 : cellsAt b2 o2 lrows.flatten = U1 at hcells
            generalize hU2 : cellsAt b2 (o2 + (items.length * 5 + 5)) sp' = U2 at hcells
            refine VO.imp (H' := [cellsAt b o [cv k, .string s, cv lk, vi ln, uv lb, .string lt, .slice la items.length lc, .slice aa args.length ac, .slice ta temps.length tc, .slice ka kids.length kc, vi p], cellsAt b2 (o2 + items.length * 5) [Value.int .u8 0, .int .i64 0, .int .u64 0, .string ⟨#[]⟩, .slice none 0 0], U1, U2, LK, LA, LT, SK, R, A, cellsAt q 0 [cv x.kind, .string x.name, cv e1, vi e2, uv e3, .string e4, .slice e5 e6 e7, .slice e8 e9 e10, .slice e11 e12 e13, .slice e14 e15 e16, vi e17]]) (Imp.cut (M := [slA (.slice (some ⟨b2, o2, none⟩) (items.length + 1) c2) (lrows ++ [[Value.int .u8 0, .int .i64 0, .int .u64 0, .string ⟨#[]⟩, .slice none 0 0]]).flatten sp', cellsAt b o [cv k, .string s, cv lk, vi ln, uv lb, .string lt, .slice la items.length lc, .slice aa args.length ac, .slice ta temps.length tc, .slice ka kids.length kc, vi p], LK, LA, LT, SK, R, A, cellsAt q 0 [cv x.kind, .string x.name, cv e1, vi e2, uv e3, .string e4, .slice e5 e6 e7, .slice e8 e9 e10, .slice e11 e12 e13, .slice e14 e15 e16, vi e17]]) (by exact IMx) (Imp.perm (by simp only [List.flatten_cons]; rw [hcells]; exact permB _ _ _ _ _ _))) ?_
            refine GOH ?_
            refine st_store' (by rfl) (by rfl) (by rfl) (by rfl) (by rfl) (Upd.at (i := 6) (ws := [cv k, .string s, cv lk, vi ln, uv lb, .string lt, .slice (some ⟨b2, o2, none⟩) (items.length + 1) c2, .slice aa args.length ac, .slice ta temps.length tc, .slice ka kids.length kc, vi p]) (by simp) rfl) ?_
            refine GOH ?_
            have hlown := LtOwn.of (k := lk) (n := ln) (b := lb) (t := lt) (items := items ++ [zLt]) (by rw [List.length_append]; exact hsl') (hlrows.snoc zLt_own) ⟨lwf.kind, lwf.n, lwf.bits, lwf.text, by rw [List.length_append, List.length_singleton]; omega⟩
            rw [List.append_nil] at hlown
            have hlen1 : items.length ≠ (items ++ [zLt]).length := by simp
            have hl1 : litEq (.mk lk ln lb lt items) (.mk lk ln lb lt (items ++ [zLt])) = false := by simp [litEq, litsEq_len hlen1]
            have hl2 : litEq (.mk lk ln lb lt (items ++ [zLt])) (.mk lk ln lb lt items) = false := by simp [litEq, litsEq_len hlen1.symm]
            obtain ⟨z, us, Lz, g1, g2, g3, g4⟩ := hfb _ [cv k, .string s, cv lk, vi ln, uv lb, .string lt, .slice (some ⟨b2, o2, none⟩) (items.length + 1) c2, .slice aa args.length ac, .slice ta temps.length tc, .slice ka kids.length kc, vi p] ((slA (.slice (some ⟨b2, o2, none⟩) (items.length + 1) c2) (lrows ++ [[Value.int .u8 0, .int .i64 0, .int .u64 0, .string ⟨#[]⟩, .slice none 0 0]]).flatten sp' ++ LK) ++ (LA ++ (LT ++ SK))) (by rw [← hSK]; exact NdOwn.of (p := p) (k := k) (s := s) hsl hrows wf hlown hav htv) (by simp [ndEq, hl1]) (by simp [ndEq, hl2])
            rw [hcells] at g4
            exact ⟨(z, us, Lz), ⟨g1, g2, g3⟩, by exact SUx, Imp.cut (M := [cellsAt b o [cv k, .string s, cv lk, vi ln, uv lb, .string lt, .slice (some ⟨b2, o2, none⟩) (items.length + 1) c2, .slice aa args.length ac, .slice ta temps.length tc, .slice ka kids.length kc, vi p], U1, cellsAt b2 (o2 + items.length * 5) [Value.int .u8 0, .int .i64 0, .int .u64 0, .string ⟨#[]⟩, .slice none 0 0], U2, LK, LA, LT, SK, R, A, cellsAt q 0 [cv x.kind, .string x.name, cv e1, vi e2, uv e3, .string e4, .slice e5 e6 e7, .slice e8 e9 e10, .slice e11 e12 e13, .slice e14 e15 e16, vi e17]]) (by exact IMx) (Imp.cut (M := [cellsAt b o [cv k, .string s, cv lk, vi ln, uv lb, .string lt, .slice (some ⟨b2, o2, none⟩) (items.length + 1) c2, .slice aa args.length ac, .slice ta temps.length tc, .slice ka kids.length kc, vi p], (U1 ++ (cellsAt b2 (o2 + items.length * 5) [Value.int .u8 0, .int .i64 0, .int .u64 0, .string ⟨#[]⟩, .slice none 0 0] ++ U2) ++ LK) ++ (LA ++ (LT ++ SK)), R, A, cellsAt q 0 [cv x.kind, .string x.name, cv e1, vi e2, uv e3, .string e4, .slice e5 e6 e7, .slice e8 e9 e10, .slice e11 e12 e13, .slice e14 e15 e16, vi e17]]) (Imp.perm (by simp)) (Imp.turn g4))⟩
        refine VC.imp (H' := [cellsAt b o [cv k, .string s, cv lk, vi ln, uv lb, .string lt, .slice la items.length lc, .slice aa args.length ac, .slice ta temps.length tc, .slice ka kids.length kc, vi p], slA (.slice ka kids.length kc) rows.flatten sp, K, LL, LA, LT, R, A, cellsAt q 0 [cv x.kind, .string x.name, cv e1, vi e2, uv e3, .string e4, .slice e5 e6 e7, .slice e8 e9 e10, .slice e11 e12 e13, .slice e14 e15 e16, vi e17]]) (Imp.cut (M := [cellsAt b o [cv k, .string s, cv lk, vi ln, uv lb, .string lt, .slice la items.length lc, .slice aa args.length ac, .slice ta temps.length tc, .slice ka kids.length kc, vi p], SK, LL, LA, LT, R, A, cellsAt q 0 [cv x.kind, .string x.name, cv e1, vi e2, uv e3, .string e4, .slice e5 e6 e7, .slice e8 e9 e10, .slice e11 e12 e13, .slice e14 e15 e16, vi e17]]) (by exact IMx) (Imp.perm (by rw [← hSK]; simp))) ?_
        rw [show decide (how.tmod 6 = 4) = false from decide_eq_false h4]
        refine GOH ?_
        refine VC.draws ⟨?_, ?_, trivial⟩
        all_goals
          refine GOH ?_
          refine st_load1 (by rfl) (Has.at (i := 9) rfl) ?_
          refine GOH ?_
          refine st_bslice (out := [Value.int .u8 0, .string ⟨#[]⟩, .int .u8 0, .int .i64 0, .int .u64 0, .string ⟨#[]⟩, .slice none 0 0, .slice none 0 0, .slice none 0 0, .slice none 0 0, .int .i64 0]) (by rfl) (by rfl) (fun r => ?_)
          refine st_append (k := kids.length) (m := 1) (xs := rows.flatten) (sp := sp) (ys := [Value.int .u8 0, .string ⟨#[]⟩, .int .u8 0, .int .i64 0, .int .u64 0, .string ⟨#[]⟩, .slice none 0 0, .slice none 0 0, .slice none 0 0, .slice none 0 0, .int .i64 0]) (by rfl) (by rfl) hsl (by exact TKx) (by rfl) ?_ rfl (by rfl) (by rfl) (by decide) (by omega) (fun sv' sp' hsl' => ?_)
          · exact ⟨rfl, fun a ha => by simp only [List.flatten_cons, List.mem_append]; exact .inl ha⟩
          obtain ⟨b2, o2, c2, rfl, _, _⟩ := hsl'.some (by omega)
          have hcells : slA (.slice (some ⟨b2, o2, none⟩) (kids.length + 1) c2) (rows.flatten ++ [Value.int .u8 0, .string ⟨#[]⟩, .int .u8 0, .int .i64 0, .int .u64 0, .string ⟨#[]⟩, .slice none 0 0, .slice none 0 0, .slice none 0 0, .slice none 0 0, .int .i64 0]) sp' = cellsAt b2 o2 rows.flatten ++ (cellsAt b2 (o2 + kids.length * 11) [Value.int .u8 0, .string ⟨#[]⟩, .int .u8 0, .int .i64 0, .int .u64 0, .string ⟨#[]⟩, .slice none 0 0, .slice none 0 0, .slice none 0 0, .slice none 0 0, .int .i64 0] ++ cellsAt b2 (o2 + (kids.length * 11 + 11)) sp') := by
            show cellsAt b2 o2 ((rows.flatten ++ [Value.int .u8 0, .string ⟨#[]⟩, .int .u8 0, .int .i64 0, .int .u64 0, .string ⟨#[]⟩, .slice none 0 0, .slice none 0 0, .slice none 0 0, .slice none 0 0, .int .i64 0]) ++ sp') = _
            rw [List.append_assoc, cellsAt_append, cellsAt_append, hsl.len, Nat.add_assoc]; rfl
          have hfl : rows.flatten ++ [Value.int .u8 0, .string ⟨#[]⟩, .int .u8 0, .int .i64 0, .int .u64 0, .string ⟨#[]⟩, .slice none 0 0, .slice none 0 0, .slice none 0 0, .slice none 0 0, .int .i64 0] = (rows ++ [[Value.int .u8 0, .string ⟨#[]⟩, .int .u8 0, .int .i64 0, .int .u64 0, .string ⟨#[]⟩, .slice none 0 0, .slice none 0 0, .slice none 0 0, .slice none 0 0, .int .i64 0]]).flatten := by simp
          rw [hfl] at hcells
          rw [hfl] at hsl' ⊢
          generalize hU1 : cellsAt b2 o2 rows.flatten = U1 at hcells
          generalize hU2 : cellsAt b2 (o2 + (kids.length * 11 + 11)) sp' = U2 at hcells
          refine VO.imp (H' := [cellsAt b o [cv k, .string s, cv lk, vi ln, uv lb, .string lt, .slice la items.length lc, .slice aa args.length ac, .slice ta temps.length tc, .slice ka kids.length kc, vi p], cellsAt b2 (o2 + kids.length * 11) [Value.int .u8 0, .string ⟨#[]⟩, .int .u8 0, .int .i64 0, .int .u64 0, .string ⟨#[]⟩, .slice none 0 0, .slice none 0 0, .slice none 0 0, .slice none 0 0, .int .i64 0], U1, U2, K, LL, LA, LT, R, A, cellsAt q 0 [cv x.kind, .string x.name, cv e1, vi e2, uv e3, .string e4, .slice e5 e6 e7, .slice e8 e9 e10, .slice e11 e12 e13, .slice e14 e15 e16, vi e17]]) (Imp.cut (M := [slA (.slice (some ⟨b2, o2, none⟩) (kids.length + 1) c2) (rows ++ [[Value.int .u8 0, .string ⟨#[]⟩, .int .u8 0, .int .i64 0, .int .u64 0, .string ⟨#[]⟩, .slice none 0 0, .slice none 0 0, .slice none 0 0, .slice none 0 0, .int .i64 0]]).flatten sp', cellsAt b o [cv k, .string s, cv lk, vi ln, uv lb, .string lt, .slice la items.length lc, .slice aa args.length ac, .slice ta temps.length tc, .slice ka kids.length kc, vi p], K, LL, LA, LT, R, A, cellsAt q 0 [cv x.kind, .string x.name, cv e1, vi e2, uv e3, .string e4, .slice e5 e6 e7, .slice e8 e9 e10, .slice e11 e12 e13, .slice e14 e15 e16, vi e17]]) (by exact IMx) (Imp.perm (by simp only [List.flatten_cons]; rw [hcells]; exact permB _ _ _ _ _ _))) ?_
          refine GOH ?_
          refine st_store' (by rfl) (by rfl) (by rfl) (by rfl) (by rfl) (Upd.at (i := 9) (ws := [cv k, .string s, cv lk, vi ln, uv lb, .string lt, .slice la items.length lc, .slice aa args.length ac, .slice ta temps.length tc, .slice (some ⟨b2, o2, none⟩) (kids.length + 1) c2, vi p]) (by simp) rfl) ?_
          refine GOH ?_
          have hlen1 : kids.length ≠ (kids ++ [zNd]).length := by simp
          obtain ⟨z, us, Lz, g1, g2, g3, g4⟩ := hfb _ [cv k, .string s, cv lk, vi ln, uv lb, .string lt, .slice la items.length lc, .slice aa args.length ac, .slice ta temps.length tc, .slice (some ⟨b2, o2, none⟩) (kids.length + 1) c2, vi p] (LL ++ (LA ++ (LT ++ (slA (.slice (some ⟨b2, o2, none⟩) (kids.length + 1) c2) (rows ++ [[Value.int .u8 0, .string ⟨#[]⟩, .int .u8 0, .int .i64 0, .int .u64 0, .string ⟨#[]⟩, .slice none 0 0, .slice none 0 0, .slice none 0 0, .slice none 0 0, .int .i64 0]]).flatten sp' ++ K)))) (by
            have := NdOwn.of (p := p) (k := k) (s := s) (kids := kids ++ [zNd]) (by rw [List.length_append]; exact hsl') (hrows.snoc zNd_own) ⟨wf.kind, wf.name, by rw [List.length_append, List.length_singleton]; omega, wf.at_⟩ hlt hav htv
            rw [List.append_nil] at this
            exact this) (by simp [ndEq, ndsEq_len hlen1]) (by simp [ndEq, ndsEq_len hlen1.symm])
          rw [hcells] at g4
          exact ⟨(z, us, Lz), ⟨g1, g2, g3⟩, by exact SUx, Imp.cut (M := [cellsAt b o [cv k, .string s, cv lk, vi ln, uv lb, .string lt, .slice la items.length lc, .slice aa args.length ac, .slice ta temps.length tc, .slice (some ⟨b2, o2, none⟩) (kids.length + 1) c2, vi p], LL, LA, LT, U1, cellsAt b2 (o2 + kids.length * 11) [Value.int .u8 0, .string ⟨#[]⟩, .int .u8 0, .int .i64 0, .int .u64 0, .string ⟨#[]⟩, .slice none 0 0, .slice none 0 0, .slice none 0 0, .slice none 0 0, .int .i64 0], U2, K, R, A, cellsAt q 0 [cv x.kind, .string x.name, cv e1, vi e2, uv e3, .string e4, .slice e5 e6 e7, .slice e8 e9 e10, .slice e11 e12 e13, .slice e14 e15 e16, vi e17]]) (by exact IMx) (Imp.cut (M := [cellsAt b o [cv k, .string s, cv lk, vi ln, uv lb, .string lt, .slice la items.length lc, .slice aa args.length ac, .slice ta temps.length tc, .slice (some ⟨b2, o2, none⟩) (kids.length + 1) c2, vi p], LL ++ (LA ++ (LT ++ ((U1 ++ (cellsAt b2 (o2 + kids.length * 11) [Value.int .u8 0, .string ⟨#[]⟩, .int .u8 0, .int .i64 0, .int .u64 0, .string ⟨#[]⟩, .slice none 0 0, .slice none 0 0, .slice none 0 0, .slice none 0 0, .int .i64 0] ++ U2)) ++ K))), R, A, cellsAt q 0 [cv x.kind, .string x.name, cv e1, vi e2, uv e3, .string e4, .slice e5 e6 e7, .slice e8 e9 e10, .slice e11 e12 e13, .slice e14 e15 e16, vi e17]]) (Imp.perm (by simp)) (Imp.turn g4))⟩
      · rintro ⟨z, us, Lz⟩ ⟨g1, g2, g3⟩
        simp only at g1 g2 g3
        dsimp only
        have hzr := (g3.rd.more (B := A ++ Lz) fun y hy => List.mem_append_right _ hy)
        have hxr := (hrd.more (B := A ++ Lz) fun y hy => List.mem_append_left _ hy)
        have hs1 := SameNode_spec (A ++ Lz) x z _ _ hxr hzr
        have hs2 := SameNode_spec (A ++ Lz) z x _ _ hzr hxr
        obtain ⟨f1, f2, f3, f4, f5, f6, f7, f8, f9, f10, f11, f12, f13, f14, f15, f16, f17, hus, _, _⟩ := nd_open2 g3.rd
        rw [hus] at hs1 hs2 ⊢
        rw [g1] at hs1
        rw [g2] at hs2
        refine VC.imp (H' := [A ++ Lz, cellsAt q 0 [cv x.kind, .string x.name, cv e1, vi e2, uv e3, .string e4, .slice e5 e6 e7, .slice e8 e9 e10, .slice e11 e12 e13, .slice e14 e15 e16, vi e17], cellsAt p9 0 [cv z.kind, .string z.name, cv f1, vi f2, uv f3, .string f4, .slice f5 f6 f7, .slice f8 f9 f10, .slice f11 f12 f13, .slice f14 f15 f16, vi f17]]) (Imp.cut (M := [A, Lz, cellsAt q 0 [cv x.kind, .string x.name, cv e1, vi e2, uv e3, .string e4, .slice e5 e6 e7, .slice e8 e9 e10, .slice e11 e12 e13, .slice e14 e15 e16, vi e17], cellsAt p9 0 [cv z.kind, .string z.name, cv f1, vi f2, uv f3, .string f4, .slice f5 f6 f7, .slice f8 f9 f10, .slice f11 f12 f13, .slice f14 f15 f16, vi f17]]) (by exact IMx) (Imp.perm (by simp))) ?_
        refine GOH ?_
        refine st_call hs1 (by rfl) (by exact SPx) (fun v Post hv => ?_)
        obtain ⟨rfl, rfl⟩ := hv
        simp only [CNx]
        refine GOH ?_
        refine st_call hs2 (by rfl) (by exact SPx) (fun v Post hv => ?_)
        obtain ⟨rfl, rfl⟩ := hv
        simp only [CNx]
        refine GOH ?_
        exact endQ_mk (Post := [A]) (.inr rfl) (.tmp (by rfl) .nil) ⟨rfl, rfl⟩ (Imp.cut (M := [A ++ Lz]) (by exact IMx) (Imp.cut (M := [A, Lz]) (Imp.perm (by simp)) (by exact IMx)))
end Go.Proofs.YtmnmandpdadedaaGreatDoor

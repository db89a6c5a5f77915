/-
  The example's tree; what looking at it comes to.
-/
import Derived.Test.YtmnmandpdadedaaGreatDoorT12
import Derived.Test.YtmnmandpdadedaaGreatDoorT11
import Derived.Test.YtmnmandpdadedaaGreatDoorV14
import Derived.Test.YtmnmandpdadedaaGreatDoorV13
import Derived.Test.YtmnmandpdadedaaGreatDoorCards
import Derived.Test.YtmnmandpdadedaaGreatDoorTie
import Derived.OpenShut
import Derived.Deep.DeepHandedRow
import Derived.Deep.DeepWitnessRowRef
import Derived.Lib.LaidTab
import Derived.JoinedCond
import Derived.Lay
import Derived.Stop.LaidErr
import Derived.KernelRfl
set_option linter.unusedSimpArgs false
set_option linter.unusedVariables false
namespace Go.Proofs.YtmnmandpdadedaaGreatDoor
open Go Go.V
set_option maxHeartbeats 3200000
set_option maxRecDepth 100000
def zeroL : Lt := .mk 0 0 0 ⟨#[]⟩ []
def leafN (s : ByteArray) : Nd := .mk 2 s zeroL [] [] [] 0
def mulN : Nd := .mk 4 ⟨#[42]⟩ zeroL [] [] [leafN ⟨#[98]⟩, leafN ⟨#[99]⟩] 5
def sumN : Nd := .mk 4 ⟨#[43]⟩ zeroL [] [] [leafN ⟨#[97]⟩, mulN] 0
abbrev leafC (s : ByteArray) : List Value := [.int .u8 2, .string s, .int .u8 0, .int .i64 0, .int .u64 0, .string ⟨#[]⟩, .slice none 0 0, .slice none 0 0, .slice none 0 0, .slice none 0 0, .int .i64 0]
abbrev sendC (s : ByteArray) (q : Nat) (p : Int) : List Value := [.int .u8 4, .string s, .int .u8 0, .int .i64 0, .int .u64 0, .string ⟨#[]⟩, .slice none 0 0, .slice none 0 0, .slice none 0 0, .slice (some ⟨q, 0, none⟩) 2 2, .int .i64 p]
theorem zeroL_rd : LtRd [] zeroL [.int .u8 0, .int .i64 0, .int .u64 0, .string ⟨#[]⟩, .slice none 0 0] :=
  lt_made (B := []) (k := 0) (n := 0) (b := 0) (t := ⟨#[]⟩) (items := []) (rows := []) (sp := []) .nil rfl (fun r h => by cases h) (fun i x r h => by simp at h) ⟨by omega, by omega, by omega, by decide, by simp⟩
theorem none_rd : RdT [] (.slice none 0 0) [] := ⟨none, 0, rfl, by simp, fun i t e => by simp at e⟩
theorem leaf_rd (s : ByteArray) (hs : s.size ≤ 140737488355328) : NdRd [] (leafN s) (leafC s) :=
  nd_made (B := []) (k := 2) (s := s) (lit := zeroL) (kids := []) (p := 0) (rows := []) (sp := []) .nil rfl (fun r h => by cases h) (fun i x r h => by simp at h) ⟨by omega, hs, by simp, by omega⟩ zeroL_rd none_rd none_rd
theorem mul_rd (q : Nat) : NdRd (cellsAt q 0 (leafC ⟨#[98]⟩ ++ leafC ⟨#[99]⟩)) mulN (sendC ⟨#[42]⟩ q 5) := by
  have := nd_made (B := []) (k := 4) (s := ⟨#[42]⟩) (lit := zeroL) (kids := [leafN ⟨#[98]⟩, leafN ⟨#[99]⟩]) (p := 5) (sv := .slice (some ⟨q, 0, none⟩) 2 2) (rows := [leafC ⟨#[98]⟩, leafC ⟨#[99]⟩]) (sp := []) (.mk rfl rfl (Nat.le_refl _)) rfl (fun r h => by
    rcases List.mem_cons.1 h with rfl | h
    · rfl
    · rw [List.mem_singleton.1 h]; rfl) (fun i x r h1 h2 => by
    match i, h1, h2 with
    | 0, h1, h2 => cases h1; cases h2; exact leaf_rd _ (by decide)
    | 1, h1, h2 => cases h1; cases h2; exact leaf_rd _ (by decide)
    | i + 2, h1, h2 => simp at h1) ⟨by omega, by decide, by simp, by omega⟩ zeroL_rd none_rd none_rd
  exact this.more fun z hz => by simpa [slA] using hz
theorem sum_rd (q q2 : Nat) : NdRd (cellsAt q2 0 (leafC ⟨#[97]⟩ ++ sendC ⟨#[42]⟩ q 5) ++ cellsAt q 0 (leafC ⟨#[98]⟩ ++ leafC ⟨#[99]⟩)) sumN (sendC ⟨#[43]⟩ q2 0) := by
  have hsub : ∀ z ∈ ([] : List Atom), z ∈ cellsAt q 0 (leafC ⟨#[98]⟩ ++ leafC ⟨#[99]⟩) := fun z h => by cases h
  have := nd_made (B := cellsAt q 0 (leafC ⟨#[98]⟩ ++ leafC ⟨#[99]⟩)) (k := 4) (s := ⟨#[43]⟩) (lit := zeroL) (kids := [leafN ⟨#[97]⟩, mulN]) (p := 0) (sv := .slice (some ⟨q2, 0, none⟩) 2 2) (rows := [leafC ⟨#[97]⟩, sendC ⟨#[42]⟩ q 5]) (sp := []) (.mk rfl rfl (Nat.le_refl _)) rfl (fun r h => by
    rcases List.mem_cons.1 h with rfl | h
    · rfl
    · rw [List.mem_singleton.1 h]; rfl) (fun i x r h1 h2 => by
    match i, h1, h2 with
    | 0, h1, h2 => cases h1; cases h2; exact (leaf_rd _ (by decide)).more hsub
    | 1, h1, h2 => cases h1; cases h2; exact mul_rd q
    | i + 2, h1, h2 => simp at h1) ⟨by omega, by decide, by simp, by omega⟩ (zeroL_rd.more hsub) (none_rd.more hsub) (none_rd.more hsub)
  exact this.more fun z hz => by simpa [slA] using hz
theorem sum_spec : Fun Tryz.prog 42 [] [] (fun v Post => ∃ q q2, v = .agg (sendC ⟨#[43]⟩ q2 0).toArray ∧ Post = [cellsAt q2 0 (leafC ⟨#[97]⟩ ++ sendC ⟨#[42]⟩ q 5), cellsAt q 0 (leafC ⟨#[98]⟩ ++ leafC ⟨#[99]⟩)]) := by
  refine Fun.intro low42 (by simp [n42]) ?_
  refine GOH ?_
  refine st_alloc (fun r => ?_)
  refine GOH ?_
  refine st_bslice (out := leafC ⟨#[98]⟩ ++ leafC ⟨#[99]⟩) (by rfl) (by rfl) (fun q => ?_)
  refine GOH ?_
  refine st_alloc (fun r2 => ?_)
  refine GOH ?_
  refine st_bslice (out := leafC ⟨#[97]⟩ ++ sendC ⟨#[42]⟩ q 5) (by rfl) (by rfl) (fun q2 => ?_)
  refine GOH ?_
  exact ⟨.inr rfl, [.agg (sendC ⟨#[43]⟩ q2 0).toArray], [cellsAt q2 0 (leafC ⟨#[97]⟩ ++ sendC ⟨#[42]⟩ q 5), cellsAt q 0 (leafC ⟨#[98]⟩ ++ leafC ⟨#[99]⟩)], .cellN (us := sendC ⟨#[43]⟩ q2 0) (by rfl) (by rfl) (fun y hy => by simp only [List.flatten_cons, List.mem_append]; first | exact .inl hy | exact .inr (.inl hy) | exact .inr (.inr (.inl hy)) | exact .inr (.inr (.inr (.inl hy)))) .nil, by exact IMx, ⟨q, q2, rfl, rfl⟩⟩
def sumM : Md := ⟨⟨#[120]⟩, [], [], 0, [sumN]⟩
def badM : Md := ⟨⟨#[120, 58]⟩, [], [], 0, []⟩
theorem e_level : levelT sumN = 4 := by decide
theorem e_depth : depthT sumN = 1 := by decide
theorem e_size : (allN sumN).length = 5 := by decide
theorem e_check : checkN sumN = 0 := by decide
theorem e_super : checkN (leafN ⟨#[115, 117, 112, 101, 114]⟩) = 150 := by decide
theorem e_m : checkM sumM = 0 := by decide
theorem e_bad : checkM badM = 150 := by decide
theorem e_sends : sendsM sumM = [⟨#[43]⟩, ⟨#[42]⟩] := by decide
theorem e_same : mdEq sumM sumM.bare = true := by decide
theorem e_one : ndEq sumN sumN = true := by decide
theorem ErA.more {A B : List Atom} (h : ErA A) (hs : ∀ z ∈ A, z ∈ B) : ErA B := by
  obtain ⟨ev, h1, h2⟩ := h
  exact ⟨ev, hs _ h1, h2⟩
theorem badM_rd (A : List Atom) : MdW A badM [.string ⟨#[120, 58]⟩, .slice none 0 0, .slice none 0 0, .int .i64 0, .slice none 0 0] :=
  ⟨⟨none, 0, none, 0, none, 0, 0, 0, fun _ => [], rfl, ⟨none, 0, rfl, by decide, fun i t e => by simp [badM] at e⟩, ⟨none, 0, rfl, by decide, fun i t e => by simp [badM] at e⟩, ⟨fun h => absurd h (by decide), by decide, fun i hi => absurd hi (by simp [badM]), fun i x e => by simp [badM] at e⟩⟩, by decide, by decide⟩
theorem sumM_rd {A : List Atom} {q2 : Nat} (h : NdRd A sumN (sendC ⟨#[43]⟩ q2 0)) (q3 : Nat) : MdW (A ++ cellsAt q3 0 (sendC ⟨#[43]⟩ q2 0)) sumM [.string ⟨#[120]⟩, .slice none 0 0, .slice none 0 0, .int .i64 0, .slice (some ⟨q3, 0, none⟩) 1 1] :=
  ⟨⟨none, 0, none, 0, some ⟨q3, 0, none⟩, 1, q3, 0, fun _ => sendC ⟨#[43]⟩ q2 0, rfl, ⟨none, 0, rfl, by decide, fun i t e => by simp [sumM] at e⟩, ⟨none, 0, rfl, by decide, fun i t e => by simp [sumM] at e⟩,
    ⟨fun _ => rfl, by decide, fun i hi y hy => by
      have : i = 0 := by simp [sumM] at hi; omega
      subst this
      exact List.mem_append_right _ (by simpa using hy), fun i x e => by
      match i, e with
      | 0, e => cases e; exact h.more fun z hz => List.mem_append_left _ hz
      | i + 1, e => simp [sumM] at e⟩⟩, by decide, by decide⟩
theorem bare_at {B : List Atom} {ws : List Value} (h : MdW B sumM.bare ws) : ∃ aa ac ta tc c bk o bk2 o2 c2, ws = [.string ⟨#[120]⟩, .slice aa 0 ac, .slice ta 0 tc, vi 0, .slice (some ⟨bk, o, none⟩) 1 c] ∧ Atom.cell bk (o + 9) (.slice (some ⟨bk2, o2, none⟩) 2 c2) ∈ B ∧ Atom.cell bk2 (o2 + 21) (vi 0) ∈ B := by
  obtain ⟨⟨aa, ac, ta, tc, a, c, bk, o, us, rfl, _, _, hk⟩, _, _⟩ := h
  have ha := hk.at_ (by decide)
  have hm := hk.mem 0 (by decide)
  have hr := hk.rd 0 sumN.bare rfl
  obtain ⟨e1, e2, e3, e4, e5, e6, e7, e8, e9, e10, e11, e12, e13, a2, c2, bk2, o2, us2, hvs, hmany, ha2, hm2, hr2⟩ := nd_at hr
  rw [hvs] at hm
  have ha3 := ha2 (by decide)
  have hk2 := hm2 1 (by decide)
  have hr3 := hr2 1 mulN.bare rfl
  obtain ⟨f1, f2, f3, f4, f5, f6, f7, f8, f9, f10, f11, f12, f13, f14, f15, f16, hws⟩ := nd_open3 hr3
  rw [hws] at hk2
  subst ha ha3
  refine ⟨aa, ac, ta, tc, c, bk, o, bk2, o2, c2, rfl, ?_, ?_⟩
  · exact hm _ (mem_cellsAt.2 ⟨9, _, rfl, by rw [Nat.zero_mul, Nat.add_zero]; rfl⟩)
  · exact hk2 _ (mem_cellsAt.2 ⟨10, _, rfl, by rw [show o2 + 1 * 11 + 10 = o2 + 21 by omega]; rfl⟩)
theorem awake_spec (A : List Atom) (hE : ErA A) : Fun Tryz.prog 10 [] [A] (fun v Post => v = .bool true ∧ Post = [A]) := by
  refine Fun.intro low10 (by simp [n10]) ?_
  refine GOH ?_
  refine st_call sum_spec (by rfl) (by exact SPx) (fun v Post hv => ?_)
  obtain ⟨q, q2, rfl, rfl⟩ := hv
  simp only [CNx]
  obtain ⟨A1, hA1⟩ : ∃ A1, A1 = A ++ (cellsAt q2 0 (leafC ⟨#[97]⟩ ++ sendC ⟨#[42]⟩ q 5) ++ cellsAt q 0 (leafC ⟨#[98]⟩ ++ leafC ⟨#[99]⟩)) := ⟨_, rfl⟩
  have hE1 : ErA A1 := hE.more fun z hz => by rw [hA1]; exact List.mem_append_left _ hz
  have hn : NdRd A1 sumN (sendC ⟨#[43]⟩ q2 0) := (sum_rd q q2).more fun z hz => by rw [hA1]; exact List.mem_append_right _ hz
  have hnok := node_spec A1 hE1 sumN (by decide) _ hn
  refine VO.imp (H' := [A1]) (Imp.perm (by rw [hA1]; simp only [List.flatten_cons, List.flatten_nil, List.append_nil]; rw [← List.append_assoc]; exact List.perm_append_comm)) ?_
  have hsub1 : ∀ z ∈ A, z ∈ A1 := fun z hz => by rw [hA1]; exact List.mem_append_left _ hz
  have hA1p : ∃ X, A1.Perm (A ++ X) := ⟨_, by rw [hA1]⟩
  clear hA1
  refine st_alloc (fun p1 => ?_)
  refine GOH ?_
  refine st_call (Level_spec A1 sumN _ hn hnok) (by rfl) (by exact SPx) (fun v Post hv => ?_)
  obtain ⟨rfl, rfl⟩ := hv
  rw [e_level]
  simp only [CNx]
  refine GOH ?_
  refine st_call (Depth_spec A1 sumN _ hn hnok) (by rfl) (by exact SPx) (fun v Post hv => ?_)
  obtain ⟨rfl, rfl⟩ := hv
  rw [e_depth]
  simp only [CNx]
  refine GOH ?_
  refine st_call (Size_spec A1 sumN _ hn (by decide)) (by rfl) (by exact SPx) (fun v Post hv => ?_)
  obtain ⟨rfl, rfl⟩ := hv
  rw [e_size]
  simp only [CNx]
  refine GOH ?_
  refine st_call (checkNode_spec A1 sumN _ hn hnok) (by rfl) (by exact SPx) (fun v Post hv => ?_)
  obtain ⟨rfl, rfl⟩ := hv
  rw [e_check]
  simp only [CNx]
  refine GOH ?_
  have hl := (leaf_rd ⟨#[115, 117, 112, 101, 114]⟩ (by decide)).more (B := A1) (fun z hz => by cases hz)
  refine st_call (checkNode_spec A1 (leafN ⟨#[115, 117, 112, 101, 114]⟩) _ hl (node_spec A1 hE1 _ (by decide) _ hl)) (by rfl) (by exact SPx) (fun v Post hv => ?_)
  obtain ⟨rfl, rfl⟩ := hv
  rw [e_super]
  simp only [CNx]
  refine GOH ?_
  refine st_bslice (out := sendC ⟨#[43]⟩ q2 0) (by rfl) (by rfl) (fun q3 => ?_)
  refine GOH ?_
  refine st_alloc (fun p7 => ?_)
  refine GOH ?_
  obtain ⟨A2, hA2⟩ : ∃ A2, A2 = A1 ++ cellsAt q3 0 (sendC ⟨#[43]⟩ q2 0) := ⟨_, rfl⟩
  have hE2 : ErA A2 := hE1.more fun z hz => by rw [hA2]; exact List.mem_append_left _ hz
  have hmw : MdW A2 sumM [.string ⟨#[120]⟩, .slice none 0 0, .slice none 0 0, .int .i64 0, .slice (some ⟨q3, 0, none⟩) 1 1] := by rw [hA2]; exact sumM_rd hn q3
  have hm := hmw.ok hE2 (by decide)
  have hn2 : NdRd A2 sumN (sendC ⟨#[43]⟩ q2 0) := hn.more fun z hz => by rw [hA2]; exact List.mem_append_left _ hz
  have hA2p : ∃ X, A2.Perm (A ++ X) := by
    obtain ⟨X, hX⟩ := hA1p
    exact ⟨X ++ cellsAt q3 0 (sendC ⟨#[43]⟩ q2 0), by rw [hA2, ← List.append_assoc]; exact hX.append_right _⟩
  refine VO.imp (H' := [A2, cellsAt p7 0 [.string ⟨#[120]⟩, .slice none 0 0, .slice none 0 0, .int .i64 0, .slice (some ⟨q3, 0, none⟩) 1 1], cellsAt p1 0 (sendC ⟨#[43]⟩ q2 0)]) (Imp.cut (M := [A1, cellsAt q3 0 (sendC ⟨#[43]⟩ q2 0), cellsAt p7 0 [.string ⟨#[120]⟩, .slice none 0 0, .slice none 0 0, .int .i64 0, .slice (some ⟨q3, 0, none⟩) 1 1], cellsAt p1 0 (sendC ⟨#[43]⟩ q2 0)]) (by exact IMx) (Imp.perm (by rw [hA2]; simp))) ?_
  clear hA2
  refine st_call (Check_spec A2 sumM _ hm) (by rfl) (by exact SPx) (fun v Post hv => ?_)
  obtain ⟨rfl, rfl⟩ := hv
  rw [e_m]
  simp only [CNx]
  refine GOH ?_
  refine st_call (Check_spec A2 badM _ ((badM_rd A2).ok hE2 (by decide))) (by rfl) (by exact SPx) (fun v Post hv => ?_)
  obtain ⟨rfl, rfl⟩ := hv
  rw [e_bad]
  simp only [CNx]
  refine GOH ?_
  refine st_call (Sends_spec A2 sumM _ hm (by decide)) (by rfl) (by exact SPx) (fun v Post hv => ?_)
  obtain ⟨ssp, hsl, rfl⟩ := hv
  rw [e_sends] at *
  rw [show ([⟨#[43]⟩, ⟨#[42]⟩] : List ByteArray).length = 2 from rfl, show List.map Value.string [⟨#[43]⟩, ⟨#[42]⟩] = [.string ⟨#[43]⟩, .string ⟨#[42]⟩] from rfl] at *
  obtain ⟨sb, so, sc, rfl, hsc, hsl2⟩ := hsl.some (by decide)
  simp only [CNx]
  have hs0 : Atom.cell sb (so + 0) (.string ⟨#[43]⟩) ∈ slA (.slice (some ⟨sb, so, none⟩) 2 sc) [.string ⟨#[43]⟩, .string ⟨#[42]⟩] ssp := by
    simp [slA, cellsAt]
  refine GOH ?_
  refine st_call (Bare_spec A2 sumM _ hmw (by decide)) (by rfl) (by exact SPx) (fun v Post hv => ?_)
  obtain ⟨ws, B2, rfl, hb, rfl⟩ := hv
  simp only [CNx]
  obtain ⟨aa, ac, ta, tc, c, bk, o, bk2, o2, c2, rfl, hb1, hb2⟩ := bare_at hb
  refine GOH ?_
  refine st_alloc (fun p11 => ?_)
  refine GOH ?_
  obtain ⟨A3, hA3⟩ : ∃ A3, A3 = A2 ++ B2 := ⟨_, rfl⟩
  have hE3 : ErA A3 := hE2.more fun z hz => by rw [hA3]; exact List.mem_append_left _ hz
  have hm3 := (hmw.more (B := A3) fun z hz => by rw [hA3]; exact List.mem_append_left _ hz).ok hE3 (by decide)
  have hbb := (hb.more (B := A3) fun z hz => by rw [hA3]; exact List.mem_append_right _ hz).ok hE3 (by decide)
  have hn3 : NdRd A3 sumN (sendC ⟨#[43]⟩ q2 0) := hn2.more fun z hz => by rw [hA3]; exact List.mem_append_left _ hz
  have hc1 : Atom.cell bk (o + 9) (.slice (some ⟨bk2, o2, none⟩) 2 c2) ∈ A3 := by rw [hA3]; exact List.mem_append_right _ hb1
  have hc2 : Atom.cell bk2 (o2 + 21) (vi 0) ∈ A3 := by rw [hA3]; exact List.mem_append_right _ hb2
  have hA3p : ∃ X, A3.Perm (A ++ X) := by
    obtain ⟨X, hX⟩ := hA2p
    exact ⟨X ++ B2, by rw [hA3, ← List.append_assoc]; exact hX.append_right _⟩
  have hS : ∃ S, S = slA (.slice (some ⟨sb, so, none⟩) 2 sc) [.string ⟨#[43]⟩, .string ⟨#[42]⟩] ssp := ⟨_, rfl⟩
  obtain ⟨S, hS⟩ := hS
  rw [← hS] at hs0 ⊢
  clear hS
  refine VO.imp (H' := [A3, S, cellsAt p11 0 [.string ⟨#[120]⟩, .slice aa 0 ac, .slice ta 0 tc, vi 0, .slice (some ⟨bk, o, none⟩) 1 c], cellsAt p1 0 (sendC ⟨#[43]⟩ q2 0)]) (Imp.cut (M := [A2, B2, S, cellsAt p11 0 [.string ⟨#[120]⟩, .slice aa 0 ac, .slice ta 0 tc, vi 0, .slice (some ⟨bk, o, none⟩) 1 c], cellsAt p1 0 (sendC ⟨#[43]⟩ q2 0)]) (by exact IMx) (Imp.perm (by rw [hA3]; simp))) ?_
  clear hA3
  refine st_call (Same_spec A3 sumM sumM.bare _ _ hm3 hbb) (by rfl) (by exact SPx) (fun v Post hv => ?_)
  obtain ⟨rfl, rfl⟩ := hv
  rw [e_same]
  simp only [CNx]
  refine GOH ?_
  refine st_call (SameNode_spec A3 sumN sumN _ _ hn3 hn3) (by rfl) (by exact SPx) (fun v Post hv => ?_)
  obtain ⟨rfl, rfl⟩ := hv
  rw [e_one]
  simp only [CNx]
  refine GOH ?_
  obtain ⟨X, hX⟩ := hA3p
  exact endQ_mk (Post := [A]) (.inr rfl) (.tmp (by rfl) .nil) ⟨rfl, rfl⟩ (Imp.cut (M := [A3]) (by exact IMx) ⟨[X], by simpa [V.Spl] using hX⟩)
theorem rowsN_flat (f : List NV) : rowsN f = (f.map fun p => p.2).flatten := by rw [rowsN, List.flatMap_def]
theorem want_row {A W : List Atom} {f : List NV} {b o n c : Nat} {sp : List Value} (h : ∀ p ∈ f, NdRd A p.1 p.2) (hW : W = slA (.slice (some ⟨b, o, none⟩) n c) (rowsN f) sp) {k : Nat} {y : Nd} {ws : List Value} (hk : f[k]? = some (y, ws)) : ∀ z ∈ cellsAt b (o + k * 11) ws, z ∈ W := by
  intro z hz
  rw [hW]
  simp only [slA, cellsAt_append]
  refine List.mem_append_left _ ?_
  rw [rowsN_flat]
  refine cells_row (fun r hr => ?_) (i := k) (r := ws) (by rw [List.getElem?_map, hk]; rfl) z hz
  obtain ⟨p, hp, rfl⟩ := List.mem_map.1 hr
  exact (h p hp).len
theorem spec_at {A : List Atom} {x : Nd} {f c : List NV} {u : NV} (hf : SpecN A x f) (hok : OkC (SpecN A x) (c ++ [u])) : NdRd A u.1 u.2 ∧ ∃ ws, f[c.length]? = some (u.1, ws) ∧ NdRd A u.1 ws := by
  obtain ⟨t, ht⟩ := hok
  refine ⟨ht.2 u (by simp), ?_⟩
  have h1 : (allN x)[c.length]? = some u.1 := by
    rw [← ht.1]; simp
  rw [← hf.1, List.getElem?_map] at h1
  obtain ⟨p, hp, hp2⟩ := Option.map_eq_some_iff.1 h1
  obtain ⟨y, ws⟩ := p
  simp only at hp2
  subst hp2
  exact ⟨ws, hp, hf.2 _ (List.mem_of_getElem? hp)⟩
theorem spec_lt {A : List Atom} {x : Nd} {f c : List NV} {u : NV} (hf : SpecN A x f) (hok : OkC (SpecN A x) (c ++ [u])) : c.length < f.length := by
  obtain ⟨_, ws, h, _⟩ := spec_at hf hok
  exact (List.getElem?_eq_some_iff.1 h).1
theorem spl_nil (H : SH) : Spl H [] H := by simp [V.Spl]
theorem TreeAlls_spec (A : List Atom) (hE : ErA A) (x : Nd) (hw : x.w ≤ 274877906944) (vs : List Value) (h : NdRd A x vs) (most : Int) (hmo : -9223372036854775808 ≤ most ∧ most ≤ 9223372036854775807) : Fun Tryz.prog 6 [.agg vs.toArray, vi most] [A] (fun v Post => v = .bool true ∧ Post = [A]) := by
  have hfar := farNode_spec A x vs h
  have hall := All_spec vs
  have hit := all_iter2 A x vs h
  have hnodes := Nodes_spec A x vs h hw
  have hlen := allN_len _ x (Nat.le_refl _)
  have hpos : 0 < (allN x).length := by rw [allN_eq]; simp
  obtain ⟨vs', hvs'⟩ : ∃ vs', vs' = vs := ⟨_, rfl⟩
  obtain ⟨g1, g2, g3, g4, g5, g6, g7, g8, g9, g10, g11, g12, g13, g14, g15, g16, g17, hvs, hsz, hkk⟩ := nd_open2 h
  rw [hvs] at hfar hall hnodes ⊢
  refine Fun.intro low6 (by simp [n6]) ?_
  refine GOHS ?_
  refine st_box (by rfl) (fun p2 => ?_)
  refine st_box (by rfl) (fun p3 => ?_)
  refine st_alloc (fun p4 => ?_)
  simp only [Value.cells]
  refine GOHS ?_
  refine st_call (awake_spec A hE) (by rfl) (by exact SPx) (fun v Post hv => ?_)
  obtain ⟨rfl, rfl⟩ := hv
  simp only [CNx]
  refine GOHS ?_
  refine st_call hfar (by rfl) (by exact SPx) (fun v Post hv => ?_)
  obtain ⟨b, rfl, rfl⟩ := hv
  simp only [CNx]
  cases b with
  | true =>
    refine GOH ?_
    exact ⟨.inr rfl, [.bool true], [A], .cell1 (by rfl) (by simp [cellsAt]) .nil, by exact IMx, ⟨rfl, rfl⟩⟩
  | false =>
    refine GOH ?_
    refine st_call hnodes (by rfl) (by exact SPx) (fun v Post hv => ?_)
    obtain ⟨f, sp, hf, hsl, rfl⟩ := hv
    have hfl := specN_len hf
    obtain ⟨b, o, wc, rfl, hwc, hwl⟩ := hsl.some (by omega)
    obtain ⟨W, hW⟩ : ∃ W, W = slA (.slice (some ⟨b, o, none⟩) f.length wc) (rowsN f) sp := ⟨_, rfl⟩
    rw [← hW]
    have hrow := fun {k : Nat} {y : Nd} {ws : List Value} (hk : f[k]? = some (y, ws)) => want_row hf.2 hW hk
    clear hW hsl hwl
    simp only [CNx]
    refine GOH ?_
    refine st_alloc (fun p7 => ?_)
    refine GOH ?_
    refine st_call hall (by rfl) (by exact SPx) (fun v Post hv => ?_)
    obtain ⟨q2, rfl, rfl⟩ := hv
    simp only [CNx]
    refine GOH ?_
    refine st_alloc (fun p8 => ?_)
    refine GOH ?_
    refine st_alloc (fun p9 => ?_)
    rw [← hvs]
    refine GOHS ?_
    refine VC.join (α := Nat) (fun i => [(3, ptr0 p3), (4, ptr0 p4), (7, ptr0 p7), (8, ptr0 p8), (9, ptr0 p9)]) (fun i => [cellsAt p9 0 [vi i], cellsAt p7 0 [.slice (some ⟨b, o, none⟩) f.length wc], cellsAt p8 0 [.func (.func 82) #[] #[ptr0 q2]], cellsAt p4 0 [.bool false], cellsAt p3 0 [vi most], W, A, cellsAt q2 0 vs])
      (fun i => i ≤ f.length ∧ (i = f.length ∨ (i : Int) = most)) ?_ ?_
    · refine GOH ?_
      refine VC.rangefA (fun c B => c.length ≤ 201 ∧ B = [cellsAt p9 0 [vi c.length], cellsAt p7 0 [.slice (some ⟨b, o, none⟩) f.length wc], cellsAt p8 0 [.func (.func 82) #[] #[ptr0 q2]], cellsAt p4 0 [.bool false], cellsAt p3 0 [vi most], W, A, cellsAt q2 0 vs].flatten) ([cellsAt p9 0 [vi 0], cellsAt p7 0 [.slice (some ⟨b, o, none⟩) f.length wc], cellsAt p8 0 [.func (.func 82) #[] #[ptr0 q2]], cellsAt p4 0 [.bool false], cellsAt p3 0 [vi most], W, A, cellsAt q2 0 vs].flatten) (by rfl) (hit q2) (fun A B h => h.more) ?_ (spl_nil _) (Imp.cut (M := [cellsAt p9 0 [vi 0], cellsAt p7 0 [.slice (some ⟨b, o, none⟩) f.length wc], cellsAt p8 0 [.func (.func 82) #[] #[ptr0 q2]], cellsAt p4 0 [.bool false], cellsAt p3 0 [vi most], W, A, cellsAt q2 0 vs]) (by exact IMx) (Imp.perm (by simp))) ⟨by simp, rfl⟩ (fun _ => rfl) ?_ ?_
      · rintro c B ⟨_, rfl⟩
        refine ⟨[cellsAt p9 0 [vi c.length], cellsAt p7 0 [.slice (some ⟨b, o, none⟩) f.length wc], cellsAt p8 0 [.func (.func 82) #[] #[ptr0 q2]], cellsAt p4 0 [.bool false], cellsAt p3 0 [vi most], W].flatten, ?_⟩
        simp only [List.flatten_cons, List.flatten_nil, List.append_nil]
        generalize cellsAt p9 0 _ = X1
        generalize cellsAt p7 0 _ = X2
        generalize cellsAt p8 0 _ = X3
        generalize cellsAt p4 0 _ = X4
        generalize cellsAt p3 0 _ = X5
        have e : X1 ++ (X2 ++ (X3 ++ (X4 ++ (X5 ++ (W ++ (A ++ cellsAt q2 0 vs)))))) = (X1 ++ (X2 ++ (X3 ++ (X4 ++ (X5 ++ W))))) ++ (A ++ cellsAt q2 0 vs) := by simp [List.append_assoc]
        rw [e]
        exact List.perm_append_comm
      · rintro c ⟨y, us⟩ B hok ⟨hc, rfl⟩
        obtain ⟨hur, ws, hfk, hwr⟩ := spec_at hf hok
        have hlt := spec_lt hf hok
        simp only at hur hfk hwr
        have hwm := hrow hfk
        have hwl := hwr.len
        have hsame := sameNodeP_spec A _ y y (Nat.le_refl _) us ws hur hwr
        rw [ndSm_refl _ y (Nat.le_refl _)] at hsame
        simp only [encN, bindE]
        obtain ⟨e1, e2, e3, e4, e5, e6, e7, e8, e9, e10, e11, e12, e13, e14, e15, e16, e17, rfl, hus, huk⟩ := nd_open2 hur
        refine VC.imp (H' := [cellsAt p9 0 [vi c.length], cellsAt p7 0 [.slice (some ⟨b, o, none⟩) f.length wc], cellsAt p8 0 [.func (.func 82) #[] #[ptr0 q2]], cellsAt p4 0 [.bool false], cellsAt p3 0 [vi most], W, A, cellsAt q2 0 vs]) (Imp.perm (by simp)) ?_
        refine GOH ?_
        refine st_alloc (fun p10 => ?_)
        refine GOH ?_
        refine ⟨trivial, ?_⟩
        refine GOH ?_
        rw [show decide ((c.length : Int) ≥ (f.length : Int)) = false from decide_eq_false (by omega)]
        refine GOH ?_
        refine st_loadA (by rfl) (fun z hz => by simp only [List.flatten_cons, List.mem_append]; simp [hwm z hz]) hwl ?_
        refine GOH ?_
        refine st_call hsame (by rfl) (by exact SPx) (fun v Post hv => ?_)
        obtain ⟨rfl, rfl⟩ := hv
        simp only [CNx]
        refine GOH ?_
        by_cases h200 : c.length > 200
        · rw [show decide ((c.length : Int) > 200) = true from decide_eq_true (by omega)]
          refine GOH ?_
          exact ⟨.inr rfl, [.bool true], [A], .cell1 (by rfl) (by simp [cellsAt]) .nil, by (try simp only [List.nil_append]); exact IMx, ⟨rfl, rfl⟩⟩
        rw [show decide ((c.length : Int) > 200) = false from decide_eq_false (by omega)]
        refine GOH ?_
        by_cases hm : (c.length : Int) = most
        · rw [decide_eq_true hm]
          refine GOH ?_
          exact ⟨c.length, ⟨by omega, .inr hm⟩, by exact SUx, by (try simp only [List.nil_append]); exact IMx⟩
        rw [decide_eq_false hm]
        refine GOH ?_
        refine st_alloc (fun p12 => ?_)
        refine GOHS ?_
        refine VC.join (α := Unit) (fun _ => [(4, ptr0 p4), (7, ptr0 p7), (9, ptr0 p9)]) (fun _ => [cellsAt p9 0 [vi c.length], cellsAt p7 0 [.slice (some ⟨b, o, none⟩) f.length wc], cellsAt p8 0 [.func (.func 82) #[] #[ptr0 q2]], cellsAt p4 0 [.bool false], cellsAt p3 0 [vi most], W, A, cellsAt q2 0 vs]) (fun _ => True) ?_ ?_
        · refine GOH ?_
          refine VC.rangefA (fun c2 B => B = [cellsAt p12 0 [vi c2.length], cellsAt p9 0 [vi c.length], cellsAt p7 0 [.slice (some ⟨b, o, none⟩) f.length wc], cellsAt p8 0 [.func (.func 82) #[] #[ptr0 q2]], cellsAt p4 0 [.bool false], cellsAt p3 0 [vi most], W, A, cellsAt q2 0 vs].flatten) ([cellsAt p12 0 [vi 0], cellsAt p9 0 [vi c.length], cellsAt p7 0 [.slice (some ⟨b, o, none⟩) f.length wc], cellsAt p8 0 [.func (.func 82) #[] #[ptr0 q2]], cellsAt p4 0 [.bool false], cellsAt p3 0 [vi most], W, A, cellsAt q2 0 vs].flatten) (by rfl) (hit q2) (fun A B h => h.more) ?_ (spl_nil _) (Imp.cut (M := [cellsAt p12 0 [vi 0], cellsAt p9 0 [vi c.length], cellsAt p7 0 [.slice (some ⟨b, o, none⟩) f.length wc], cellsAt p8 0 [.func (.func 82) #[] #[ptr0 q2]], cellsAt p4 0 [.bool false], cellsAt p3 0 [vi most], W, A, cellsAt q2 0 vs]) (by exact IMx) (Imp.perm (by simp))) rfl (fun _ => rfl) ?_ ?_
          · rintro c2 B rfl
            refine ⟨[cellsAt p12 0 [vi c2.length], cellsAt p9 0 [vi c.length], cellsAt p7 0 [.slice (some ⟨b, o, none⟩) f.length wc], cellsAt p8 0 [.func (.func 82) #[] #[ptr0 q2]], cellsAt p4 0 [.bool false], cellsAt p3 0 [vi most], W].flatten, ?_⟩
            simp only [List.flatten_cons, List.flatten_nil, List.append_nil]
            generalize cellsAt p12 0 _ = X0
            generalize cellsAt p9 0 _ = X1
            generalize cellsAt p7 0 _ = X2
            generalize cellsAt p8 0 _ = X3
            generalize cellsAt p4 0 _ = X4
            generalize cellsAt p3 0 _ = X5
            have e : X0 ++ (X1 ++ (X2 ++ (X3 ++ (X4 ++ (X5 ++ (W ++ (A ++ cellsAt q2 0 vs))))))) = (X0 ++ (X1 ++ (X2 ++ (X3 ++ (X4 ++ (X5 ++ W)))))) ++ (A ++ cellsAt q2 0 vs) := by simp [List.append_assoc]
            rw [e]
            exact List.perm_append_comm
          · rintro c2 ⟨y2, us2⟩ B hok2 rfl
            obtain ⟨hur2, ws2, hfk2, hwr2⟩ := spec_at hf hok2
            have hlt2 := spec_lt hf hok2
            simp only at hur2 hfk2 hwr2
            have hwm2 := hrow hfk2
            obtain ⟨f1, f2, f3, f4, f5, f6, f7, f8, f9, f10, f11, f12, f13, f14, f15, f16, hws2⟩ := nd_open3 hwr2
            rw [hws2] at hwm2
            have hK0 : Atom.cell b (o + c2.length * 11) (cv y2.kind) ∈ W := hwm2 _ (mem_cellsAt.2 ⟨0, _, rfl, rfl⟩)
            have hK10 : Atom.cell b (o + (c2.length * 11 + 10)) (vi y2.at_) ∈ W := hwm2 _ (mem_cellsAt.2 ⟨10, _, rfl, by rw [Nat.add_assoc]⟩)
            simp only [encN, bindE]
            obtain ⟨d1, d2, d3, d4, d5, d6, d7, d8, d9, d10, d11, d12, d13, d14, d15, d16, rfl⟩ := nd_open3 hur2
            refine VC.imp (H' := [cellsAt p12 0 [vi c2.length], cellsAt p9 0 [vi c.length], cellsAt p7 0 [.slice (some ⟨b, o, none⟩) f.length wc], cellsAt p8 0 [.func (.func 82) #[] #[ptr0 q2]], cellsAt p4 0 [.bool false], cellsAt p3 0 [vi most], W, A, cellsAt q2 0 vs]) (Imp.perm (by simp)) ?_
            refine GOH ?_
            refine st_alloc (fun p13 => ?_)
            refine GOH ?_
            refine ⟨trivial, ?_⟩
            refine GOH ?_
            by_cases hk20 : c2.length > 20
            · rw [show decide ((c2.length : Int) > 20) = true from decide_eq_true (by omega)]
              refine GOH ?_
              exact ⟨(), trivial, by exact SUx, by (try simp only [List.nil_append]); exact IMx⟩
            rw [show decide ((c2.length : Int) > 20) = false from decide_eq_false (by omega)]
            refine GOH ?_
            by_cases hi2 : c.length > 2
            · rw [show decide ((c.length : Int) > 2) = true from decide_eq_true (by omega)]
              refine GOH ?_
              exact ⟨(), trivial, by exact SUx, by (try simp only [List.nil_append]); exact IMx⟩
            rw [show decide ((c.length : Int) > 2) = false from decide_eq_false (by omega)]
            refine GOH ?_
            rw [show decide ((c2.length : Int) ≥ (f.length : Int)) = false from decide_eq_false (by omega)]
            refine GOH ?_
            rw [decide_eq_true (show (y2.kind : Int) = (y2.kind : Int) from rfl)]
            refine GOH ?_
            refine ⟨_, rfl, ?_⟩
            refine Imp.cut (M := [cellsAt p12 0 [vi ((c2.length : Int) + 1)], cellsAt p9 0 [vi c.length], cellsAt p7 0 [.slice (some ⟨b, o, none⟩) f.length wc], cellsAt p8 0 [.func (.func 82) #[] #[ptr0 q2]], cellsAt p4 0 [.bool false], cellsAt p3 0 [vi most], W, A, cellsAt q2 0 vs]) (by (try simp only [List.nil_append]); exact IMx) (Imp.perm (by simp))
          · rintro full B hfull rfl
            exact ⟨(), trivial, by exact SUx, Imp.cut (M := [cellsAt p12 0 [vi full.length], cellsAt p9 0 [vi c.length], cellsAt p7 0 [.slice (some ⟨b, o, none⟩) f.length wc], cellsAt p8 0 [.func (.func 82) #[] #[ptr0 q2]], cellsAt p4 0 [.bool false], cellsAt p3 0 [vi most], W, A, cellsAt q2 0 vs]) (Imp.perm (by simp)) (by exact IMx)⟩
        · rintro _ _
          refine GOH ?_
          refine ⟨_, ⟨by simp only [List.length_append, List.length_singleton]; omega, rfl⟩, ?_⟩
          refine Imp.cut (M := [cellsAt p9 0 [vi ((c.length : Int) + 1)], cellsAt p7 0 [.slice (some ⟨b, o, none⟩) f.length wc], cellsAt p8 0 [.func (.func 82) #[] #[ptr0 q2]], cellsAt p4 0 [.bool false], cellsAt p3 0 [vi most], W, A, cellsAt q2 0 vs]) (by (try simp only [List.nil_append]); exact IMx) (Imp.perm (by simp))
      · rintro full B hfull ⟨hc, rfl⟩
        have := specN_len hfull
        exact ⟨full.length, ⟨by omega, .inl (by omega)⟩, by exact SUx, Imp.cut (M := [cellsAt p9 0 [vi full.length], cellsAt p7 0 [.slice (some ⟨b, o, none⟩) f.length wc], cellsAt p8 0 [.func (.func 82) #[] #[ptr0 q2]], cellsAt p4 0 [.bool false], cellsAt p3 0 [vi most], W, A, cellsAt q2 0 vs]) (Imp.perm (by simp)) (by exact IMx)⟩
    · rintro i ⟨hi, hi2⟩
      refine GOH ?_
      refine st_alloc (fun p14 => ?_)
      refine GOH ?_
      refine VC.rangefA (fun c B => c.length ≤ 201 ∧ B = [cellsAt p14 0 [vi c.length], cellsAt p9 0 [vi i], cellsAt p7 0 [.slice (some ⟨b, o, none⟩) f.length wc], cellsAt p8 0 [.func (.func 82) #[] #[ptr0 q2]], cellsAt p4 0 [.bool false], cellsAt p3 0 [vi most], W, A, cellsAt q2 0 vs].flatten) ([cellsAt p14 0 [vi 0], cellsAt p9 0 [vi i], cellsAt p7 0 [.slice (some ⟨b, o, none⟩) f.length wc], cellsAt p8 0 [.func (.func 82) #[] #[ptr0 q2]], cellsAt p4 0 [.bool false], cellsAt p3 0 [vi most], W, A, cellsAt q2 0 vs].flatten) (by rfl) (hit q2) (fun A B h => h.more) ?_ (spl_nil _) (Imp.cut (M := [cellsAt p14 0 [vi 0], cellsAt p9 0 [vi i], cellsAt p7 0 [.slice (some ⟨b, o, none⟩) f.length wc], cellsAt p8 0 [.func (.func 82) #[] #[ptr0 q2]], cellsAt p4 0 [.bool false], cellsAt p3 0 [vi most], W, A, cellsAt q2 0 vs]) (by exact IMx) (Imp.perm (by simp))) ⟨by simp, rfl⟩ (fun _ => rfl) ?_ ?_
      · rintro c2 B ⟨_, rfl⟩
        refine ⟨[cellsAt p14 0 [vi c2.length], cellsAt p9 0 [vi i], cellsAt p7 0 [.slice (some ⟨b, o, none⟩) f.length wc], cellsAt p8 0 [.func (.func 82) #[] #[ptr0 q2]], cellsAt p4 0 [.bool false], cellsAt p3 0 [vi most], W].flatten, ?_⟩
        simp only [List.flatten_cons, List.flatten_nil, List.append_nil]
        generalize cellsAt p14 0 _ = X0
        generalize cellsAt p9 0 _ = X1
        generalize cellsAt p7 0 _ = X2
        generalize cellsAt p8 0 _ = X3
        generalize cellsAt p4 0 _ = X4
        generalize cellsAt p3 0 _ = X5
        have e : X0 ++ (X1 ++ (X2 ++ (X3 ++ (X4 ++ (X5 ++ (W ++ (A ++ cellsAt q2 0 vs))))))) = (X0 ++ (X1 ++ (X2 ++ (X3 ++ (X4 ++ (X5 ++ W)))))) ++ (A ++ cellsAt q2 0 vs) := by simp [List.append_assoc]
        rw [e]
        exact List.perm_append_comm
      · rintro c2 ⟨y2, us2⟩ B hok2 ⟨hc2, rfl⟩
        obtain ⟨hur2, ws2, hfk2, hwr2⟩ := spec_at hf hok2
        have hlt2 := spec_lt hf hok2
        simp only at hur2 hfk2 hwr2
        have hwm2 := hrow hfk2
        obtain ⟨f1, f2, f3, f4, f5, f6, f7, f8, f9, f10, f11, f12, f13, f14, f15, f16, hws2⟩ := nd_open3 hwr2
        rw [hws2] at hwm2
        have hK0 : Atom.cell b (o + c2.length * 11) (cv y2.kind) ∈ W := hwm2 _ (mem_cellsAt.2 ⟨0, _, rfl, rfl⟩)
        simp only [encN, bindE]
        obtain ⟨d1, d2, d3, d4, d5, d6, d7, d8, d9, d10, d11, d12, d13, d14, d15, d16, rfl⟩ := nd_open3 hur2
        refine VC.imp (H' := [cellsAt p14 0 [vi c2.length], cellsAt p9 0 [vi i], cellsAt p7 0 [.slice (some ⟨b, o, none⟩) f.length wc], cellsAt p8 0 [.func (.func 82) #[] #[ptr0 q2]], cellsAt p4 0 [.bool false], cellsAt p3 0 [vi most], W, A, cellsAt q2 0 vs]) (Imp.perm (by simp)) ?_
        refine GOH ?_
        refine st_alloc (fun p15 => ?_)
        refine GOH ?_
        refine ⟨trivial, ?_⟩
        refine GOH ?_
        by_cases h200 : c2.length > 200
        · rw [show decide ((c2.length : Int) > 200) = true from decide_eq_true (by omega)]
          refine GOH ?_
          rw [show decide ((c2.length : Int) > 200) = true from decide_eq_true (by omega)]
          exact ⟨.inr rfl, [.bool true], [A], .cell1 (by rfl) (by simp [cellsAt]) .nil, by (try simp only [List.nil_append]); exact IMx, ⟨rfl, rfl⟩⟩
        rw [show decide ((c2.length : Int) > 200) = false from decide_eq_false (by omega)]
        refine GOH ?_
        rw [show decide ((c2.length : Int) ≥ (f.length : Int)) = false from decide_eq_false (by omega)]
        refine GOH ?_
        refine ⟨_, ⟨by simp only [List.length_append, List.length_singleton]; omega, rfl⟩, ?_⟩
        refine Imp.cut (M := [cellsAt p14 0 [vi ((c2.length : Int) + 1)], cellsAt p9 0 [vi i], cellsAt p7 0 [.slice (some ⟨b, o, none⟩) f.length wc], cellsAt p8 0 [.func (.func 82) #[] #[ptr0 q2]], cellsAt p4 0 [.bool false], cellsAt p3 0 [vi most], W, A, cellsAt q2 0 vs]) (by (try simp only [List.nil_append]); exact IMx) (Imp.perm (by simp))
      · rintro full B hfull ⟨hc, rfl⟩
        refine VC.imp (H' := [cellsAt p14 0 [vi full.length], cellsAt p9 0 [vi i], cellsAt p7 0 [.slice (some ⟨b, o, none⟩) f.length wc], cellsAt p8 0 [.func (.func 82) #[] #[ptr0 q2]], cellsAt p4 0 [.bool false], cellsAt p3 0 [vi most], W, A, cellsAt q2 0 vs]) (Imp.perm (by simp)) ?_
        have hfl2 := specN_len hfull
        refine GOH ?_
        rw [show decide ((full.length : Int) = (f.length : Int)) = true from decide_eq_true (by omega)]
        refine GOH ?_
        by_cases hif : i = f.length
        · rw [show decide ((i : Int) = (f.length : Int)) = true from decide_eq_true (by omega)]
          refine GOH ?_
          exact ⟨.inr rfl, [.bool true], [A], .cell1 (by rfl) (by simp [cellsAt]) .nil, by (try simp only [List.nil_append]); exact IMx, ⟨rfl, rfl⟩⟩
        · have him : (i : Int) = most := by
            rcases hi2 with h | h
            · exact absurd h hif
            · exact h
          rw [show decide ((i : Int) = (f.length : Int)) = false from decide_eq_false (by omega)]
          refine GOH ?_
          rw [decide_eq_true him]
          refine GOH ?_
          exact ⟨.inr rfl, [.bool true], [A], .cell1 (by rfl) (by simp [cellsAt]) .nil, by (try simp only [List.nil_append]); exact IMx, ⟨rfl, rfl⟩⟩
theorem TreeSizes_spec (A : List Atom) (hE : ErA A) (x : Nd) (hw : x.w ≤ 274877906944) (vs : List Value) (h : NdRd A x vs) : Fun Tryz.prog 8 [.agg vs.toArray] [A] (fun v Post => v = .bool true ∧ Post = [A]) := by
  have hfar := farNode_spec A x vs h
  have hall := All_spec vs
  have hit := all_iter A x vs h
  have hsize := Size_spec A x vs h hw
  have hlen := allN_len _ x (Nat.le_refl _)
  have hsum : (allN x).length = 1 + (allsN x.kids).length := by rw [allN_eq, List.length_cons]; omega
  obtain ⟨e1, e2, e3, e4, e5, e6, e7, e8, e9, e10, e11, e12, e13, a, cc, bk, o, us, hvs, hmany, ha, hm, hr⟩ := nd_at h
  rw [hvs] at hfar hall hit hsize ⊢
  refine Fun.intro low8 (by simp [n8]) ?_
  refine GOH ?_
  refine st_box (by rfl) (fun q => ?_)
  simp only [Value.cells]
  refine GOH ?_
  refine st_call (awake_spec A hE) (by rfl) (by exact SPx) (fun v Post hv => ?_)
  obtain ⟨rfl, rfl⟩ := hv
  simp only [CNx]
  refine GOH ?_
  refine st_call hfar (by rfl) (by exact SPx) (fun v Post hv => ?_)
  obtain ⟨b, rfl, rfl⟩ := hv
  simp only [CNx]
  refine GOH ?_
  refine st_call hall (by rfl) (by exact SPx) (fun v Post hv => ?_)
  obtain ⟨q2, rfl, rfl⟩ := hv
  simp only [CNx]
  cases b with
  | true =>
    refine GOH ?_
    exact endQ_mk (Post := [A]) (.inr rfl) (.tmp (by rfl) .nil) ⟨rfl, rfl⟩ (by exact IMx)
  | false =>
    refine GOH ?_
    refine st_alloc (fun p => ?_)
    refine GOH ?_
    refine VC.rangefA (fun l B => B = [cellsAt p 0 [vi l.length], cellsAt q 0 [cv x.kind, .string x.name, cv e1, vi e2, uv e3, .string e4, .slice e5 e6 e7, .slice e8 e9 e10, .slice e11 e12 e13, .slice a x.kids.length cc, vi x.at_], A].flatten) ([cellsAt p 0 [vi 0], cellsAt q 0 [cv x.kind, .string x.name, cv e1, vi e2, uv e3, .string e4, .slice e5 e6 e7, .slice e8 e9 e10, .slice e11 e12 e13, .slice a x.kids.length cc, vi x.at_], A].flatten) (by rfl) (hit q2) (fun A B h => h.more) ?_ (R := [cellsAt p 0 [vi 0], A, cellsAt q 0 [cv x.kind, .string x.name, cv e1, vi e2, uv e3, .string e4, .slice e5 e6 e7, .slice e8 e9 e10, .slice e11 e12 e13, .slice a x.kids.length cc, vi x.at_]]) (by exact SPx) (Imp.cut (M := [cellsAt p 0 [vi 0], cellsAt q 0 [cv x.kind, .string x.name, cv e1, vi e2, uv e3, .string e4, .slice e5 e6 e7, .slice e8 e9 e10, .slice e11 e12 e13, .slice a x.kids.length cc, vi x.at_], A]) (by exact IMx) (Imp.perm (by simp))) rfl (fun _ => rfl) ?_ ?_
    · rintro l B rfl
      exact ⟨cellsAt p 0 [vi l.length] ++ cellsAt q 0 [cv x.kind, .string x.name, cv e1, vi e2, uv e3, .string e4, .slice e5 e6 e7, .slice e8 e9 e10, .slice e11 e12 e13, .slice a x.kids.length cc, vi x.at_], by simp only [List.flatten_cons, List.flatten_nil, List.append_nil]; rw [← List.append_assoc]; exact List.perm_append_comm⟩
    · rintro l u B hok rfl
      have hc : l.length < (allN x).length := by
        obtain ⟨t, ht⟩ := hok
        have := congrArg List.length ht.1
        simp at this; omega
      simp only [bindE]
      refine VC.imp (H' := [cellsAt p 0 [vi l.length], cellsAt q 0 [cv x.kind, .string x.name, cv e1, vi e2, uv e3, .string e4, .slice e5 e6 e7, .slice e8 e9 e10, .slice e11 e12 e13, .slice a x.kids.length cc, vi x.at_], A]) (Imp.perm (by simp)) ?_
      refine GOH ?_
      refine ⟨trivial, ?_⟩
      refine GOH ?_
      refine ⟨_, rfl, Imp.perm ?_⟩
      simp
    · rintro full B hfull rfl
      refine VC.imp (H' := [cellsAt p 0 [vi full.length], cellsAt q 0 [cv x.kind, .string x.name, cv e1, vi e2, uv e3, .string e4, .slice e5 e6 e7, .slice e8 e9 e10, .slice e11 e12 e13, .slice a x.kids.length cc, vi x.at_], A]) (Imp.perm (by simp)) ?_
      have hfl : full.length = (allN x).length := by rw [← hfull.1, List.length_map]
      rw [hfl]
      refine GOH ?_
      refine VC.loop (α := Nat × Nat) (Γf := fun s => [(1, ptr0 q), (6, ptr0 p), (7, vi s.2), (8, vi s.1)]) (Hf := fun _ => [cellsAt p 0 [vi (allN x).length], cellsAt q 0 [cv x.kind, .string x.name, cv e1, vi e2, uv e3, .string e4, .slice e5 e6 e7, .slice e8 e9 e10, .slice e11 e12 e13, .slice a x.kids.length cc, vi x.at_], A])
        (I := fun s => s.1 ≤ x.kids.length ∧ s.2 = 1 + (allsN (x.kids.take s.1)).length) (μ := fun s => x.kids.length - s.1) (0, 1) ⟨Nat.zero_le _, rfl⟩ (by exact SUx) (by exact IMx) ?_
      rintro ⟨j, n⟩ ⟨i1, i2⟩
      simp only at i1 i2
      subst i2
      dsimp only
      have hpart : (allsN (x.kids.take j)).length ≤ (allsN x.kids).length := by
        have e : allsN x.kids = allsN (x.kids.take j) ++ allsN (x.kids.drop j) := by rw [← allsN_append, List.take_append_drop]
        rw [e, List.length_append]; omega
      refine GOH ?_
      by_cases hj : j < x.kids.length
      rotate_left
      · rw [show decide ((j : Int) < (x.kids.length : Int)) = false from decide_eq_false (by omega)]
        have htk : x.kids.take j = x.kids := List.take_of_length_le (by omega)
        rw [htk]
        refine GOH ?_
        refine st_call hsize (by rfl) (by exact SPx) (fun v Post hv => ?_)
        obtain ⟨rfl, rfl⟩ := hv
        simp only [CNx]
        refine GOH ?_
        rw [show decide (((allN x).length : Int) = ((allN x).length : Int)) = true from decide_eq_true rfl]
        refine GOH ?_
        rw [show decide (((allN x).length : Int) = ((1 + (allsN x.kids).length : Nat) : Int)) = true from decide_eq_true (by omega)]
        refine GOH ?_
        exact endQ_mk (Post := [A]) (.inr rfl) (.tmp (by rfl) .nil) ⟨rfl, rfl⟩ (by exact IMx)
      rw [show decide ((j : Int) < (x.kids.length : Int)) = true from decide_eq_true (by omega)]
      obtain rfl := ha (by omega)
      obtain ⟨y, hy⟩ : ∃ y, x.kids[j]? = some y := ⟨_, List.getElem?_eq_getElem hj⟩
      have hym := hm j hj
      have hyr := hr j y hy
      have hyl := hyr.len
      have hyw : y.w ≤ 274877906944 := by
        have h1 := Nd.ws_mem (List.mem_of_getElem? hy)
        cases x
        simp only [Nd.w, Nd.kids] at hw h1
        omega
      have hys := Size_spec A y _ hyr hyw
      have hsum2 : allsN (x.kids.take (j + 1)) = allsN (x.kids.take j) ++ allN y := by
        rw [show x.kids.take (j + 1) = x.kids.take j ++ [y] by rw [List.take_add_one, hy]; rfl, allsN_append]; simp [allsN]
      have hpart2 : (allsN (x.kids.take (j + 1))).length ≤ (allsN x.kids).length := by
        have e : allsN x.kids = allsN (x.kids.take (j + 1)) ++ allsN (x.kids.drop (j + 1)) := by rw [← allsN_append, List.take_append_drop]
        rw [e, List.length_append]; omega
      rw [hsum2, List.length_append] at hpart2
      refine GOH ?_
      refine st_loadA (by rfl) (fun z hz => List.mem_append_right _ (List.mem_append_right _ (List.mem_append_left _ (hym z hz)))) hyl ?_
      refine GOH ?_
      refine st_call hys (by rfl) (by exact SPx) (fun v Post hv => ?_)
      obtain ⟨rfl, rfl⟩ := hv
      simp only [CNx]
      refine GOH ?_
      refine ⟨(j + 1, 1 + (allsN (x.kids.take (j + 1))).length), ⟨by simp only; omega, rfl⟩, by simp only; omega, ?_, by exact IMx⟩
      rw [hsum2, List.length_append]
      rw [show (((1 + ((allsN (x.kids.take j)).length + (allN y).length) : Nat) : Int)) = ((1 + (allsN (x.kids.take j)).length : Nat) : Int) + ((allN y).length : Int) by omega]
      exact SUx
open Go Go.V Go.ChangeShapes Go.WideShapes Go.Deep
section
variable {H : Type} {enc : TypeId × Value → H}
theorem u3 : Tryz.prog.underlying 3 = some (.int .i64) := by kernel_rfl
theorem u4 : Tryz.prog.underlying 4 = some .bool := by kernel_rfl
theorem u9 : Tryz.prog.underlying 9 = some .string := by kernel_rfl
theorem u22 : Tryz.prog.underlying 22 = some (.slice 9) := by kernel_rfl
theorem u23 : Tryz.prog.underlying 23 = some (.slice 48) := by kernel_rfl
theorem u44 : Tryz.prog.underlying 44 = some (.slice 46) := by kernel_rfl
noncomputable def fs46 : Array Field := match Tryz.prog.underlying 46 with | some (.struct fs) => fs | _ => #[]
theorem u46 : Tryz.prog.underlying 46 = some (.struct fs46) := by kernel_rfl
noncomputable def fs48 : Array Field := match Tryz.prog.underlying 48 with | some (.struct fs) => fs | _ => #[]
theorem u48 : Tryz.prog.underlying 48 = some (.struct fs48) := by kernel_rfl
theorem litT : LitT Tryz.prog 46 44 := ⟨⟨fs46, u46, by kernel_rfl, 42, 2, 43, 9, by kernel_rfl, by kernel_rfl, by kernel_rfl, by kernel_rfl, by kernel_rfl, by kernel_rfl, by kernel_rfl, by kernel_rfl, by kernel_rfl, by kernel_rfl⟩, by kernel_rfl, u44⟩
theorem nodT : NodT Tryz.prog 48 46 23 22 := ⟨⟨fs48, u48, by kernel_rfl, 41, 9, 3, by kernel_rfl, by kernel_rfl, by kernel_rfl, by kernel_rfl, by kernel_rfl, by kernel_rfl, by kernel_rfl, u22⟩, by kernel_rfl, by kernel_rfl, by kernel_rfl, by kernel_rfl, u23⟩
noncomputable def ms146 : Array (String × TypeId) := match Tryz.prog.underlying 146 with | some (.interface ms) => ms | _ => #[]
theorem u146 : Tryz.prog.underlying 146 = some (.interface ms146) := by kernel_rfl
theorem closedS : closedB Tryz.prog [2, 3, 4, 5, 9, 22, 23, 25, 41, 42, 43, 44, 46, 48, 62] = true := by kernel_rfl
theorem closedP : Closed Tryz.prog (· ∈ [2, 3, 4, 5, 9, 22, 23, 25, 41, 42, 43, 44, 46, 48, 62]) := closed_of closedS
theorem own : ownKnob Tryz.prog.godebug = none := by kernel_rfl
theorem bulk_one (d : DataW H) : 1 ≤ Rows.uptoBulk d := by
  cases d with
  | lit l => cases l <;> simp [Rows.uptoBulk]
  | _ => simp [Rows.uptoBulk]
theorem bulk_len (l : List (DataW H)) : l.length ≤ Rows.uptoBulkAll l := by
  induction l with
  | nil => simp
  | cons d r ih =>
    have := bulk_one d
    simp only [Rows.uptoBulkAll, List.length_cons]
    omega
theorem bulk_mem {d : DataW H} {l : List (DataW H)} (h : d ∈ l) : Rows.uptoBulk d ≤ Rows.uptoBulkAll l := by
  induction l with
  | nil => cases h
  | cons y r ih =>
    simp only [Rows.uptoBulkAll]
    rcases List.mem_cons.1 h with rfl | h
    · omega
    · have := ih h; omega
theorem bulk_sum (l : List (DataW H)) : (l.map Rows.uptoBulk).sum = Rows.uptoBulkAll l := by
  induction l with
  | nil => rfl
  | cons d r ih => simp only [List.map_cons, List.sum_cons, ih, Rows.uptoBulkAll]
theorem bulkB : Bulk (Rows.uptoBulk (H := H)) where
  agg l d h := by have := bulk_mem h; simp only [Rows.uptoBulk]; omega
  sl es sp d h := by have := bulk_mem h; simp only [Rows.uptoBulk]; omega
  len es sp := by have := bulk_len es; simp only [Rows.uptoBulk]; omega
  str bs := by simp only [Rows.uptoBulk]; omega
  sls es sp := by rw [bulk_sum]; simp only [Rows.uptoBulk]; omega
  aggs l := by rw [bulk_sum]; simp only [Rows.uptoBulk]; omega
theorem node_form {W : World} {base : Nat} {v : Value} (hv : Value.okWide Tryz.prog W .any base 48 v) : ∃ cs : List Value, v = .agg cs.toArray := by
  simp only [Value.okWide, u48] at hv
  obtain ⟨cs, rfl, _⟩ := hv
  exact ⟨cs.toList, by simp⟩
theorem gErr : Tryz.prog.globalNamed "strconv.ErrRange" = some 4 := by kernel_rfl
theorem gErrT : (Tryz.prog.globals[4]?).map (·.type) = some 146 := by kernel_rfl
theorem gRen : Tryz.sl174_ren.g 16 = 4 := by kernel_rfl
theorem err_in {W : World} {d : DataW Unit} {r : List (String × DataW Unit)} (h : laidMet Tryz.prog (("strconv.ErrRange", d) :: r) W) (hd : ∃ nm e, d = .iface nm e) {A : List Atom} (hA : ∀ a : Atom, a.holds W → a ∈ A) : ErA A := by
  obtain ⟨nm, e, rfl⟩ := hd
  obtain ⟨ps, ⟨g0, t0, cs0, f0, p0, q0, hg0, ht0, hv0, hd0, _, e0⟩, _, hrows⟩ := h
  obtain rfl := Option.some.inj (gErr.symm.trans hg0)
  obtain rfl := Option.some.inj (gErrT.symm.trans ht0)
  subst e0
  have hcs : ∃ te pe, cs0 = #[.iface te pe] := by
    obtain ⟨_, te, pe, he, _, _⟩ := iface_of_trod u146 hd0
    exact ⟨te, pe, by rw [← he]⟩
  obtain ⟨te, pe, rfl⟩ := hcs
  obtain ⟨⟨c, t, hc⟩, _⟩ := hrows 4 0 (by simp [MemPlace.row])
  refine ⟨.iface te pe, ?_, .inr ⟨te, pe, rfl⟩⟩
  rw [gRen]
  have hcell : W.cell? ⟨4, 0, none⟩ = some (.iface te pe) := by simpa using World.var?_cell gErr hv0 0
  refine hA _ (holds_cell hcell ?_)
  unfold World.frozen?
  rw [hc]
  simp
end
section
variable {H : Type} {enc : TypeId × Value → H}
theorem int_form {W : World} {base : Nat} {v : Value} {d : DataW H} {p : List MemPlace} (hv : Value.okWide Tryz.prog W .any base 3 v) (h : DataW.Trod enc Tryz.prog W 0 (fun _ => true) true 3 v d p) : ∃ n : Int, v = .int .i64 n ∧ -9223372036854775808 ≤ n ∧ n ≤ 9223372036854775807 := by
  obtain ⟨n, hn⟩ := h
  have hs : ∃ k z, v = .int k z := by
    cases v <;> simp only [Value.okWide, u3, Cell.okWide, Cell.ok] at hv
    exact ⟨_, _, rfl⟩
  obtain ⟨k, z, rfl⟩ := hs
  obtain ⟨m, hz, hx, hwf⟩ := DataW.trod_int u3 hn
  simp only [Value.cells, List.cons.injEq, Value.int.injEq, and_true] at hz
  obtain ⟨rfl, rfl⟩ := hz
  refine ⟨z, rfl, ?_⟩
  simp [Lit.wf] at hwf
  have e1 : IntKind.i64.min = -9223372036854775808 := by decide
  have e2 : IntKind.i64.max = 9223372036854775807 := by decide
  omega
end
end Go.Proofs.YtmnmandpdadedaaGreatDoor

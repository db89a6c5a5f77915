/-
  Of no lists: each is its owner's.
-/
import Derived.Test.YtgindbomnbojeaaGreatCC
import Derived.Test.YtgindbomnbojeaaGreatV20
import Derived.Test.YtgindbomnbojeaaGreatD9
set_option linter.unusedSimpArgs false
set_option linter.unusedVariables false
namespace Go.Proofs.YtgindbomnbojeaaGreat
open Go Go.V
set_option maxHeartbeats 6400000
set_option maxRecDepth 100000
theorem ownInts_nil : Fun Tryz.prog 73 [.slice none 0 0] [] (fun v Post => v = .bool true ∧ Post = []) := by
  refine Fun.intro low73 (by simp [n73]) ?_
  refine GO ?_
  refine VC.loop (α := Unit) (Γf := fun _ => [(0, .slice none 0 0), (3, vi 0)]) (Hf := fun _ => []) (I := fun _ => True) (μ := fun _ => 0) () trivial (by exact SUx) (by exact IMx) ?_
  intro _ _
  refine GO ?_
  refine VC.loop (α := Unit) (Γf := fun _ => [(0, .slice none 0 0), (5, .slice none 0 0), (6, vi 0)]) (Hf := fun _ => []) (I := fun _ => True) (μ := fun _ => 0) () trivial (by exact SUx) (by exact IMx) ?_
  intro _ _
  refine GO ?_
  refine VC.loop (α := Unit) (Γf := fun _ => [(0, .slice none 0 0), (5, .slice none 0 0), (9, vi 0)]) (Hf := fun _ => []) (I := fun _ => True) (μ := fun _ => 0) () trivial (by exact SUx) (by exact IMx) ?_
  intro _ _
  refine GO ?_
  exact endQ_mk (Post := []) (.inr rfl) (.tmp (by rfl) .nil) ⟨rfl, rfl⟩ (by exact IMx)
theorem ownNumbers_nil : Fun Tryz.prog 74 [.slice none 0 0] [] (fun v Post => v = .bool true ∧ Post = []) := by
  refine Fun.intro low74 (by simp [n74]) ?_
  refine GO ?_
  refine VC.loop (α := Unit) (Γf := fun _ => [(0, .slice none 0 0), (3, vi 0)]) (Hf := fun _ => []) (I := fun _ => True) (μ := fun _ => 0) () trivial (by exact SUx) (by exact IMx) ?_
  intro _ _
  refine GO ?_
  refine VC.loop (α := Unit) (Γf := fun _ => [(0, .slice none 0 0), (5, .slice none 0 0), (6, vi 0)]) (Hf := fun _ => []) (I := fun _ => True) (μ := fun _ => 0) () trivial (by exact SUx) (by exact IMx) ?_
  intro _ _
  refine GO ?_
  refine VC.loop (α := Unit) (Γf := fun _ => [(0, .slice none 0 0), (5, .slice none 0 0), (9, vi 0)]) (Hf := fun _ => []) (I := fun _ => True) (μ := fun _ => 0) () trivial (by exact SUx) (by exact IMx) ?_
  intro _ _
  refine GO ?_
  exact endQ_mk (Post := []) (.inr rfl) (.tmp (by rfl) .nil) ⟨rfl, rfl⟩ (by exact IMx)
theorem ownOops_nil : Fun Tryz.prog 75 [.slice none 0 0] [] (fun v Post => v = .bool true ∧ Post = []) := by
  refine Fun.intro low75 (by simp [n75]) ?_
  refine GO ?_
  refine VC.loop (α := Unit) (Γf := fun _ => [(0, .slice none 0 0), (3, vi 0)]) (Hf := fun _ => []) (I := fun _ => True) (μ := fun _ => 0) () trivial (by exact SUx) (by exact IMx) ?_
  intro _ _
  refine GO ?_
  refine VC.loop (α := Unit) (Γf := fun _ => [(0, .slice none 0 0), (5, .slice none 0 0), (6, vi 0)]) (Hf := fun _ => []) (I := fun _ => True) (μ := fun _ => 0) () trivial (by exact SUx) (by exact IMx) ?_
  intro _ _
  refine GO ?_
  refine VC.loop (α := Unit) (Γf := fun _ => [(0, .slice none 0 0), (5, .slice none 0 0), (9, vi 0)]) (Hf := fun _ => []) (I := fun _ => True) (μ := fun _ => 0) () trivial (by exact SUx) (by exact IMx) ?_
  intro _ _
  refine GO ?_
  exact endQ_mk (Post := []) (.inr rfl) (.tmp (by rfl) .nil) ⟨rfl, rfl⟩ (by exact IMx)
theorem ownChoices_nil : Fun Tryz.prog 78 [.slice none 0 0] [] (fun v Post => v = .bool true ∧ Post = []) := by
  refine Fun.intro low78 (by simp [n78]) ?_
  refine GO ?_
  refine VC.loop (α := Unit) (Γf := fun _ => [(0, .slice none 0 0), (3, vi 0)]) (Hf := fun _ => []) (I := fun _ => True) (μ := fun _ => 0) () trivial (by exact SUx) (by exact IMx) ?_
  intro _ _
  refine GO ?_
  refine VC.loop (α := Unit) (Γf := fun _ => [(0, .slice none 0 0), (5, .slice none 0 0), (6, vi 0)]) (Hf := fun _ => []) (I := fun _ => True) (μ := fun _ => 0) () trivial (by exact SUx) (by exact IMx) ?_
  intro _ _
  refine GO ?_
  refine VC.loop (α := Unit) (Γf := fun _ => [(0, .slice none 0 0), (5, .slice none 0 0), (9, vi 0)]) (Hf := fun _ => []) (I := fun _ => True) (μ := fun _ => 0) () trivial (by exact SUx) (by exact IMx) ?_
  intro _ _
  refine GO ?_
  exact endQ_mk (Post := []) (.inr rfl) (.tmp (by rfl) .nil) ⟨rfl, rfl⟩ (by exact IMx)
theorem ownTexts_nil : Fun Tryz.prog 79 [.slice none 0 0] [] (fun v Post => v = .bool true ∧ Post = []) := by
  refine Fun.intro low79 (by simp [n79]) ?_
  refine GO ?_
  refine VC.loop (α := Unit) (Γf := fun _ => [(0, .slice none 0 0), (3, vi 0)]) (Hf := fun _ => []) (I := fun _ => True) (μ := fun _ => 0) () trivial (by exact SUx) (by exact IMx) ?_
  intro _ _
  refine GO ?_
  refine VC.loop (α := Unit) (Γf := fun _ => [(0, .slice none 0 0), (5, .slice none 0 0), (6, vi 0)]) (Hf := fun _ => []) (I := fun _ => True) (μ := fun _ => 0) () trivial (by exact SUx) (by exact IMx) ?_
  intro _ _
  refine GO ?_
  refine VC.loop (α := Unit) (Γf := fun _ => [(0, .slice none 0 0), (5, .slice none 0 0), (9, vi 0)]) (Hf := fun _ => []) (I := fun _ => True) (μ := fun _ => 0) () trivial (by exact SUx) (by exact IMx) ?_
  intro _ _
  refine GO ?_
  exact endQ_mk (Post := []) (.inr rfl) (.tmp (by rfl) .nil) ⟨rfl, rfl⟩ (by exact IMx)
theorem ownBits_nil : Fun Tryz.prog 80 [.slice none 0 0] [] (fun v Post => v = .bool true ∧ Post = []) := by
  refine Fun.intro low80 (by simp [n80]) ?_
  refine GO ?_
  refine VC.loop (α := Unit) (Γf := fun _ => [(0, .slice none 0 0), (3, vi 0)]) (Hf := fun _ => []) (I := fun _ => True) (μ := fun _ => 0) () trivial (by exact SUx) (by exact IMx) ?_
  intro _ _
  refine GO ?_
  refine VC.loop (α := Unit) (Γf := fun _ => [(0, .slice none 0 0), (5, .slice none 0 0), (6, vi 0)]) (Hf := fun _ => []) (I := fun _ => True) (μ := fun _ => 0) () trivial (by exact SUx) (by exact IMx) ?_
  intro _ _
  refine GO ?_
  refine VC.loop (α := Unit) (Γf := fun _ => [(0, .slice none 0 0), (5, .slice none 0 0), (9, vi 0)]) (Hf := fun _ => []) (I := fun _ => True) (μ := fun _ => 0) () trivial (by exact SUx) (by exact IMx) ?_
  intro _ _
  refine GO ?_
  exact endQ_mk (Post := []) (.inr rfl) (.tmp (by rfl) .nil) ⟨rfl, rfl⟩ (by exact IMx)
def markD (z : Int) : List Value := [.int .u8 0, vi z, .string ⟨#[]⟩, .string ⟨#[]⟩, vi 0, vi 0]
theorem markD_len (z : Int) : (markD z).length = 6 := rfl
theorem ownDeeds_spec (lv : Value) (ps : List OwnI) (lsp : List Value) (hl : IsSl 1 lv ps.length (ps.map (·.v)) lsp) (hps : ∀ p ∈ ps, IsSl 6 p.v p.n p.xs p.sp) (hN : ps.length ≤ 1073741824) (hn : ∀ p ∈ ps, p.n ≤ 1073741824) :
    Fun Tryz.prog 76 [lv] [slA lv (ps.map (·.v)) lsp, ps.flatMap owA] (fun v Post => v = .bool true ∧ Post = []) := by
  refine Fun.intro low76 (by simp [n76]) ?_
  obtain ⟨la, lc, hle⟩ := hl.form
  have hrd := hl.rd
  rw [hle] at hrd ⊢
  generalize slA (.slice la ps.length lc) (ps.map (·.v)) lsp = L at hrd ⊢
  refine GO ?_
  refine VC.loop (α := Nat) (Γf := fun i => [(0, .slice la ps.length lc), (3, vi i)]) (Hf := fun i => [L, (ph1 markD i ps).flatMap owA]) (I := fun i => i ≤ ps.length) (μ := fun i => ps.length - i) 0 (Nat.zero_le _) (by exact SUx) (by rw [ph1_zero]; exact IMx) ?_
  intro i hi
  refine GO ?_
  (first | (apply VC.seq_cond; rfl) | (apply VC.cond; rfl))
  · intro hlt
    have hlt : i < ps.length := by simpa using hlt
    obtain ⟨⟨pv, pn, pxs, psp⟩, hp⟩ : ∃ p, ps[i]? = some p := ⟨ps[i], List.getElem?_eq_getElem hlt⟩
    have hpm := List.mem_of_getElem? hp
    have hpo := hps _ hpm
    have hpn := hn _ hpm
    simp only at hpo hpn
    obtain ⟨b, o, c, hve, m1⟩ := (show RdRow 1 L (.slice la ps.length lc) ps.length (ps.map fun q => q.v) from hrd).cell hp
    simp only [Value.slice.injEq, true_and] at hve
    obtain ⟨rfl, rfl⟩ := hve
    have hg := ph1_get (enc := markD) (i := i) hp
    rw [if_neg (by omega)] at hg
    obtain ⟨rest, hr1, hr2⟩ := flat_take (f := owA) hg
    have hr3 := hr2 ⟨pv, pn, (mkL i pn).flatMap markD, psp⟩
    rw [← ph1_succ hp] at hr3
    obtain ⟨pa, pc, hpv⟩ := hpo.form
    simp only [hpv] at m1
    refine GO ?_
    refine VC.loop (α := Nat) (Γf := fun k => [(0, .slice (some ⟨b, o, none⟩) ps.length lc), (3, vi i), (4, vi k)]) (Hf := fun k => [L, slA (.slice pa pn pc) ((mkL i k).flatMap markD ++ pxs.drop (k * 6)) psp, rest]) (I := fun k => k ≤ pn) (μ := fun k => pn - k) 0 (Nat.zero_le _) (by exact SUx)
      (Imp.perm (by simp only [List.flatten_cons, List.flatten_nil, List.append_nil]; refine List.Perm.append_left _ ?_; simpa [owA, hpv, mkL] using hr1)) ?_
    intro k hk
    refine GO ?_
    (first | (apply VC.seq_cond; rfl) | (apply VC.cond; rfl))
    rotate_left
    · intro hge
      have hge : ¬ k < pn := by simpa using hge
      obtain rfl : k = pn := by omega
      refine GO ?_
      refine ⟨i + 1, by omega, by omega, by exact SUx, Imp.perm ?_⟩
      simp only [List.flatten_cons, List.flatten_nil, List.append_nil]
      refine List.Perm.append_left _ ?_
      rw [List.drop_of_length_le (by rw [hpo.len]; exact Nat.le_refl _), List.append_nil]
      simpa [owA, hpv] using hr3.symm
    intro hlk
    have hlk : k < pn := by simpa using hlk
    rw [hpv] at hpo
    cases hpo with
    | nil => omega
    | @mk b2 o2 _ _ _ _ q1 q2 q3 =>
    refine GO ?_
    refine VO.imp (H' := [cellsAt b2 o2 (((mkL i k).flatMap markD ++ pxs.drop (k * 6)) ++ psp), L, rest]) (Imp.perm (by simp only [slA, List.flatten_cons, List.flatten_nil]; exact perm_lead _ _ _)) ?_
    have hu : Upd [cellsAt b2 o2 (((mkL i k).flatMap markD ++ pxs.drop (k * 6)) ++ psp), L, rest] b2 (o2 + k * 6) (markD (mkI i k)) [cellsAt b2 o2 (((mkL i (k + 1)).flatMap markD ++ pxs.drop ((k + 1) * 6)) ++ psp), L, rest] :=
      .cells (by omega) (by rw [List.length_append, own_len markD_len q1 (Nat.le_of_lt hlk), markD_len]; omega) (by rw [Nat.add_sub_cancel_left]; exact own_lay markD_len q1 hlk i)
    refine st_store' (us := markD (mkI i k)) (by rfl) (by rfl) (by rfl) (by rfl) (by rfl) hu ?_
    refine GO ?_
    exact ⟨k + 1, by omega, by omega, by exact SUx, Imp.cut (M := [L, cellsAt b2 o2 (((mkL i (k + 1)).flatMap markD ++ pxs.drop ((k + 1) * 6)) ++ psp), rest]) (by exact IMx) (by simp only [slA]; exact Imp.refl _)⟩
  intro hge
  have hge : ¬ i < ps.length := by simpa using hge
  obtain rfl : i = ps.length := by omega
  refine GO ?_
  refine VC.loop (α := Nat × Value × List Value × List Value × List Atom) (Γf := fun s => [(0, .slice la ps.length lc), (5, s.2.1), (6, vi s.1)]) (Hf := fun s => [L, slA s.2.1 s.2.2.1 s.2.2.2.1, s.2.2.2.2, ((ph1 markD ps.length ps).drop s.1).flatMap owA])
    (I := fun s => s.1 ≤ ps.length ∧ s.2.2.1.length = s.1 ∧ IsSl 1 s.2.1 s.1 s.2.2.1 s.2.2.2.1 ∧ ∀ j p, j < s.1 → ps[j]? = some p → RdRow 6 s.2.2.2.2 p.v p.n ((mkL j p.n).flatMap markD) ∧ ∃ xv, s.2.2.1[j]? = some xv ∧ RdRow 6 s.2.2.2.2 xv (p.n + 16) ((mkL j p.n ++ bkL j 16).flatMap markD)) (μ := fun s => ps.length - s.1) (0, .slice none 0 0, [], [], []) ⟨Nat.zero_le _, rfl, .nil, fun j p h => by omega⟩ (by exact SUx)
    (Imp.perm (by simp [slA])) ?_
  rintro ⟨i, lv2, ws, lsp2, D⟩ ⟨hi, hws, hl2, hD⟩
  simp only at hi hws hl2 hD
  obtain ⟨ma, mc, rfl⟩ := hl2.form
  refine GO ?_
  (first | (apply VC.seq_cond; rfl) | (apply VC.cond; rfl))
  · intro hlt
    have hlt : i < ps.length := by simpa using hlt
    obtain ⟨⟨pv, pn, pxs, psp⟩, hp⟩ : ∃ p, ps[i]? = some p := ⟨ps[i], List.getElem?_eq_getElem hlt⟩
    have hpm := List.mem_of_getElem? hp
    have hpo := hps _ hpm
    have hpn := hn _ hpm
    simp only at hpo hpn
    obtain ⟨b, o, c, hve, m1⟩ := (show RdRow 1 L (.slice la ps.length lc) ps.length (ps.map fun q => q.v) from hrd).cell hp
    simp only [Value.slice.injEq, true_and] at hve
    obtain ⟨rfl, rfl⟩ := hve
    obtain ⟨pa, pc, hpv⟩ := hpo.form
    have hpo2 : IsSl 6 pv pn ((mkL i pn).flatMap markD) psp := by
      cases hpo with
      | mk q1 q2 q3 => exact .mk (by rw [flatMap_len (fun x _ => markD_len x), mkL_len]) (by rw [flatMap_len (fun x _ => markD_len x), mkL_len]; omega) q3
      | nil => exact .nil
    have hml : ((mkL i pn).flatMap markD).length = pn * 6 := by rw [flatMap_len (fun x _ => markD_len x), mkL_len]
    rw [ph1_all hp]
    simp only at m1
    refine GO ?_
    refine VC.loop (α := Nat × Value × List Value × List Atom) (Γf := fun s => [(0, .slice (some ⟨b, o, none⟩) ps.length lc), (5, .slice ma i mc), (6, vi i), (7, s.2.1), (8, vi s.1)]) (Hf := fun s => [L, slA (.slice ma i mc) ws lsp2, D, slA s.2.1 ((mkL i pn).flatMap markD ++ (bkL i s.1).flatMap markD) s.2.2.1, s.2.2.2, ((ph1 markD ps.length ps).drop (i + 1)).flatMap owA])
      (I := fun s => s.1 ≤ 16 ∧ IsSl 6 s.2.1 (pn + s.1) ((mkL i pn).flatMap markD ++ (bkL i s.1).flatMap markD) s.2.2.1 ∧ Kept 6 s.2.2.2 pv pn ((mkL i pn).flatMap markD) s.2.1 (pn + s.1)) (μ := fun s => 16 - s.1) (0, pv, psp, []) ⟨Nat.zero_le _, by simpa [bkL] using hpo2, Kept.start hpo2⟩ (by exact SUx)
      (Imp.perm (by simp [bkL])) ?_
    rintro ⟨k, xv, xsp, E⟩ ⟨hk, hxv, hE⟩
    simp only at hk hxv hE
    have hbl : ((bkL i k).flatMap markD).length = k * 6 := by rw [flatMap_len (fun x _ => markD_len x), bkL_len]
    obtain ⟨xa, xc, rfl⟩ := hxv.form
    by_cases h16 : k < 16
    · refine GO ?_
      simp only [show (k : Int) < 16 by omega, decide_true]
      refine GO ?_
      refine st_bslice (out := markD (bkI i k)) (by rfl) (by rfl) (fun q3 => ?_)
      refine GO ?_
      have hsucc : (bkL i (k + 1)).flatMap markD = (bkL i k).flatMap markD ++ markD (bkI i k) := by rw [bkL_succ]; simp
      refine st_append2 (k := pn + k) (m := 1) (xs := (mkL i pn).flatMap markD ++ (bkL i k).flatMap markD) (sp := xsp) (ys := markD (bkI i k)) (by rfl) (by rfl) hxv (by exact TKx) (by rfl) ?_ rfl (by rfl) (by rfl) (by decide) (by omega) ?_ ?_
      · exact ⟨rfl, fun a ha => by simp only [List.flatten_cons, List.mem_append]; exact .inl ha⟩
      · intro b3 o3 c3 sp' hxe hsl'
        rw [List.append_assoc, ← hsucc] at hsl' ⊢
        simp only [Value.slice.injEq, true_and] at hxe
        obtain ⟨rfl, rfl⟩ := hxe
        refine GO ?_
        refine ⟨(k + 1, .slice (some ⟨b3, o3, none⟩) (pn + k + 1) xc, sp', E), ⟨by show k + 1 ≤ 16; omega, hsl', ?_⟩, by simp only; omega, by exact SUx, by exact IMx⟩
        rcases hE with h | ⟨h1, b4, o4, c4, h2, h3⟩
        · exact .inl h
        · simp only [Value.slice.injEq, Option.some.injEq, Addr.mk.injEq, and_true] at h3
          obtain ⟨⟨rfl, rfl⟩, _, rfl⟩ := h3
          exact .inr ⟨h1, _, _, _, h2, rfl⟩
      · intro sv' sp' hsl'
        rw [List.append_assoc, ← hsucc] at hsl' ⊢
        obtain ⟨a', c', rfl⟩ := hsl'.form
        refine GO ?_
        exact ⟨(k + 1, .slice a' (pn + k + 1) c', sp', slA (.slice xa (pn + k) xc) ((mkL i pn).flatMap markD ++ (bkL i k).flatMap markD) xsp ++ E), ⟨by show k + 1 ≤ 16; omega, hsl', hE.moved hxv hml (by omega)⟩, by simp only; omega, by exact SUx, Imp.cut (M := [L, slA (.slice ma i mc) ws lsp2, D, slA (.slice a' (pn + k + 1) c') ((mkL i pn).flatMap markD ++ (bkL i (k + 1)).flatMap markD) sp', slA (.slice xa (pn + k) xc) ((mkL i pn).flatMap markD ++ (bkL i k).flatMap markD) xsp, E, ((ph1 markD ps.length ps).drop (i + 1)).flatMap owA]) (by exact IMx) (Imp.perm (by simp))⟩
    · obtain rfl : k = 16 := by omega
      refine GO ?_
      refine st_bslice (out := [.slice xa (pn + 16) xc]) (by rfl) (by rfl) (fun q3 => ?_)
      refine GO ?_
      refine st_append (k := i) (m := 1) (xs := ws) (sp := lsp2) (ys := [.slice xa (pn + 16) xc]) (by rfl) (by rfl) hl2 (by exact TKx) (by rfl) ?_ rfl (by rfl) (by rfl) (by decide) (by omega) (fun sv' sp' hsl' => ?_)
      · exact ⟨rfl, fun a ha => by simp only [List.flatten_cons, List.mem_append]; exact .inl ha⟩
      obtain ⟨a', c', rfl⟩ := hsl'.form
      refine GO ?_
      have hdone := hE.done hxv hml (by omega)
      have hx16 : RdRow 6 (slA (.slice xa (pn + 16) xc) ((mkL i pn).flatMap markD ++ (bkL i 16).flatMap markD) xsp ++ E) (.slice xa (pn + 16) xc) (pn + 16) ((mkL i pn ++ bkL i 16).flatMap markD) := by
        rw [List.flatMap_append]; exact hxv.rd.mono (fun a ha => List.mem_append_left _ ha)
      refine ⟨(i + 1, .slice a' (i + 1) c', ws ++ [.slice xa (pn + 16) xc], sp', D ++ (slA (.slice xa (pn + 16) xc) ((mkL i pn).flatMap markD ++ (bkL i 16).flatMap markD) xsp ++ E)), ⟨by show i + 1 ≤ ps.length; omega, by simp [hws], hsl', fun j p hj hpj => ?_⟩, by simp only; omega, by exact SUx, Imp.cut (M := [L, slA (.slice a' (i + 1) c') (ws ++ [.slice xa (pn + 16) xc]) sp', D, slA (.slice xa (pn + 16) xc) ((mkL i pn).flatMap markD ++ (bkL i 16).flatMap markD) xsp, E, ((ph1 markD ps.length ps).drop (i + 1)).flatMap owA]) (by exact IMx) (Imp.perm (by simp))⟩
      simp only at hj ⊢
      by_cases hji : j < i
      · obtain ⟨d1, yv, d2, d3⟩ := hD j p hji hpj
        exact ⟨d1.mono (fun a ha => List.mem_append_left _ ha), yv, by rw [List.getElem?_append_left (by omega)]; exact d2, d3.mono (fun a ha => List.mem_append_left _ ha)⟩
      · obtain rfl : j = i := by omega
        rw [hp] at hpj
        cases hpj
        exact ⟨hdone.mono (fun a ha => List.mem_append_right _ ha), _, by rw [List.getElem?_append_right (by omega), hws]; simp, hx16.mono (fun a ha => List.mem_append_right _ ha)⟩
  intro hge
  have hge : ¬ i < ps.length := by simpa using hge
  obtain rfl : i = ps.length := by omega
  have hrd2 := hl2.rd
  generalize slA (.slice ma ps.length mc) ws lsp2 = L2 at hrd2 ⊢
  generalize ((ph1 markD ps.length ps).drop ps.length).flatMap owA = D0
  refine GO ?_
  refine VC.loop (α := Nat) (Γf := fun i => [(0, .slice la ps.length lc), (5, .slice ma ps.length mc), (9, vi i)]) (Hf := fun i => [L, L2, D]) (I := fun i => i ≤ ps.length) (μ := fun i => ps.length - i) 0 (Nat.zero_le _) (by exact SUx) (by exact IMx) ?_
  intro i hi
  refine GO ?_
  (first | (apply VC.seq_cond; rfl) | (apply VC.cond; rfl))
  rotate_left
  · intro _
    refine GO ?_
    exact endQ_mk (Post := []) (.inr rfl) (.tmp (by rfl) .nil) ⟨rfl, rfl⟩ Imp.nil
  intro hlt
  have hlt : i < ps.length := by simpa using hlt
  obtain ⟨⟨pv, pn, pxs, psp⟩, hp⟩ : ∃ p, ps[i]? = some p := ⟨ps[i], List.getElem?_eq_getElem hlt⟩
  have hpn := hn _ (List.mem_of_getElem? hp)
  obtain ⟨d1, xv, d2, d3⟩ := hD i _ hlt hp
  simp only at hpn d1 d3
  obtain ⟨b, o, c, hve, m1⟩ := (show RdRow 1 L (.slice la ps.length lc) ps.length (ps.map fun q => q.v) from hrd).cell hp
  simp only [Value.slice.injEq, true_and] at hve
  obtain ⟨rfl, rfl⟩ := hve
  have hwm : RdRow 1 L2 (.slice ma ws.length mc) ws.length (ws.map fun q => q) := by rw [List.map_id', hws]; exact hrd2
  obtain ⟨b2, o2, c2, hve2, m2⟩ := hwm.cell d2
  simp only [Value.slice.injEq, true_and] at hve2
  obtain ⟨rfl, rfl⟩ := hve2
  obtain ⟨pa, pc, rfl⟩ := d1.form
  obtain ⟨xa, xc, rfl⟩ := d3.form
  simp only at m1
  refine GO ?_
  refine VC.loop (α := Nat) (Γf := fun k => [(0, .slice (some ⟨b, o, none⟩) ps.length lc), (5, .slice (some ⟨b2, o2, none⟩) ps.length mc), (9, vi i), (10, vi pn), (11, vi k)]) (Hf := fun i => [L, L2, D]) (I := fun k => k ≤ pn) (μ := fun k => pn - k) 0 (Nat.zero_le _) (by exact SUx) (by exact IMx) ?_
  intro k hk
  refine GO ?_
  (first | (apply VC.seq_cond; rfl) | (apply VC.cond; rfl))
  · intro hlk
    have hlk : k < pn := by simpa using hlk
    have d1' := d1
    have d3' := d3
    rw [show pn = (mkL i pn).length by rw [mkL_len]] at d1'
    rw [show pn + 16 = (mkL i pn ++ bkL i 16).length by rw [List.length_append, mkL_len, bkL_len]] at d3'
    obtain ⟨b3, o3, c3, hve3, m3⟩ := RdRow.at_ (enc := markD) (l := mkL i pn) (by simpa [mkL_len] using d1) markD_len (mkL_get hlk)
    obtain ⟨b4, o4, c4, hve4, m4⟩ := RdRow.at_ (enc := markD) (l := mkL i pn ++ bkL i 16) (by simpa [mkL_len, bkL_len] using d3) markD_len (both_get1 hlk)
    simp only [Value.slice.injEq, mkL_len, List.length_append, bkL_len, true_and] at hve3 hve4
    obtain ⟨rfl, rfl⟩ := hve3
    obtain ⟨rfl, rfl⟩ := hve4
    refine GO ?_
    refine st_loadA (us := markD (mkI i k)) (by rfl) (fun y hy => by simp only [List.flatten_cons, List.mem_append]; simp only [m3 y hy, true_or, or_true]) (by rfl) ?_
    refine GO ?_
    simp only [mkI, eq_self, decide_true, Bool.and_true, Bool.not_true, ↓reduceIte]
    refine GO ?_
    refine st_loadA (us := markD (mkI i k)) (by rfl) (fun y hy => by simp only [List.flatten_cons, List.mem_append]; simp only [m4 y hy, true_or, or_true]) (by rfl) ?_
    refine GO ?_
    simp only [mkI, eq_self, decide_true, Bool.and_true, Bool.not_true, ↓reduceIte]
    refine GO ?_
    exact ⟨k + 1, by omega, by omega, by exact SUx, by exact IMx⟩
  intro _
  refine GO ?_
  refine VC.loop (α := Nat) (Γf := fun k => [(0, .slice (some ⟨b, o, none⟩) ps.length lc), (5, .slice (some ⟨b2, o2, none⟩) ps.length mc), (9, vi i), (10, vi pn), (12, vi k)]) (Hf := fun _ => [L, L2, D]) (I := fun k => k ≤ 16) (μ := fun k => 16 - k) 0 (Nat.zero_le _) (by exact SUx) (by exact IMx) ?_
  intro k hk
  by_cases h16 : k < 16
  · refine GO ?_
    simp only [show (k : Int) < 16 by omega, decide_true]
    obtain ⟨b4, o4, c4, hve4, m4⟩ := RdRow.at_ (enc := markD) (l := mkL i pn ++ bkL i 16) (by simpa [mkL_len, bkL_len] using d3) markD_len (both_get2 (n := pn) h16)
    simp only [Value.slice.injEq, List.length_append, mkL_len, bkL_len, true_and] at hve4
    obtain ⟨rfl, rfl⟩ := hve4
    refine GO ?_
    refine st_loadA (us := markD (bkI i k)) (by rfl) (fun y hy => by simp only [List.flatten_cons, List.mem_append]; simp only [m4 y hy, true_or, or_true]) (by rfl) ?_
    refine GO ?_
    simp only [bkI, eq_self, decide_true, Bool.and_true, Bool.not_true, ↓reduceIte]
    refine GO ?_
    exact ⟨k + 1, by omega, by omega, by exact SUx, by exact IMx⟩
  · obtain rfl : k = 16 := by omega
    refine GO ?_
    exact ⟨i + 1, by omega, by omega, by exact SUx, by exact IMx⟩
end Go.Proofs.YtgindbomnbojeaaGreat

/-
  Lists of files that came out are their owner's.
-/
import Derived.Test.YtgindbomnbojeaaGreatCC
import Derived.Test.YtgindbomnbojeaaGreatV20
import Derived.Test.YtgindbomnbojeaaGreatD9
import Derived.Test.YtgindbomnbojeaaGreatE1
import Derived.Test.YtgindbomnbojeaaGreatD7
import Derived.Test.YtgindbomnbojeaaGreatD8
import Derived.Test.YtgindbomnbojeaaGreatD4
import Derived.Test.YtgindbomnbojeaaGreatP8
import Derived.Test.YtgindbomnbojeaaGreatCE
import Derived.Test.YtgindbomnbojeaaGreatV22
set_option linter.unusedSimpArgs false
set_option linter.unusedVariables false
namespace Go.Proofs.YtgindbomnbojeaaGreat
open Go Go.V
set_option maxHeartbeats 6400000
set_option maxRecDepth 100000
theorem markF_len (z : Int) : (markF z).length = 2 := rfl
theorem ownFiles_spec (lv : Value) (ps : List OwnI) (lsp : List Value) (hl : IsSl 1 lv ps.length (ps.map (·.v)) lsp) (hps : ∀ p ∈ ps, IsSl 2 p.v p.n p.xs p.sp) (hN : ps.length ≤ 1073741824) (hn : ∀ p ∈ ps, p.n ≤ 1073741824) :
    Fun Tryz.prog 77 [lv] [slA lv (ps.map (·.v)) lsp, ps.flatMap owA] (fun v Post => v = .bool true ∧ Post = []) := by
  refine Fun.intro low77 (by simp [n77]) ?_
  obtain ⟨la, lc, hle⟩ := hl.form
  have hrd := hl.rd
  rw [hle] at hrd ⊢
  generalize slA (.slice la ps.length lc) (ps.map (·.v)) lsp = L at hrd ⊢
  refine GO ?_
  refine VC.loop (α := Nat) (Γf := fun i => [(0, .slice la ps.length lc), (3, vi i)]) (Hf := fun i => [L, (ph1 markF i ps).flatMap owA]) (I := fun i => i ≤ ps.length) (μ := fun i => ps.length - i) 0 (Nat.zero_le _) (by exact SUx) (by rw [ph1_zero]; exact IMx) ?_
  intro i hi
  refine GO ?_
  (first | (apply VC.seq_cond; rfl) | (apply VC.cond; rfl))
  · intro hlt
    have hlt : i < ps.length := by simpa using hlt
    obtain ⟨⟨pv, pn, pxs, psp⟩, hp⟩ : ∃ p, ps[i]? = some p := ⟨ps[i], List.getElem?_eq_getElem hlt⟩
    have hpm := List.mem_of_getElem? hp
    have hpo := hps _ hpm
    have hpn := hn _ hpm
    simp only at hpo hpn
    obtain ⟨b, o, c, hve, m1⟩ := (show RdRow 1 L (.slice la ps.length lc) ps.length (ps.map fun q => q.v) from hrd).cell hp
    simp only [Value.slice.injEq, true_and] at hve
    obtain ⟨rfl, rfl⟩ := hve
    have hg := ph1_get (enc := markF) (i := i) hp
    rw [if_neg (by omega)] at hg
    obtain ⟨rest, hr1, hr2⟩ := flat_take (f := owA) hg
    have hr3 := hr2 ⟨pv, pn, (mkL i pn).flatMap markF, psp⟩
    rw [← ph1_succ hp] at hr3
    obtain ⟨pa, pc, hpv⟩ := hpo.form
    simp only [hpv] at m1
    refine GO ?_
    refine VC.loop (α := Nat) (Γf := fun k => [(0, .slice (some ⟨b, o, none⟩) ps.length lc), (3, vi i), (4, vi k)]) (Hf := fun k => [L, slA (.slice pa pn pc) ((mkL i k).flatMap markF ++ pxs.drop (k * 2)) psp, rest]) (I := fun k => k ≤ pn) (μ := fun k => pn - k) 0 (Nat.zero_le _) (by exact SUx)
      (Imp.perm (by simp only [List.flatten_cons, List.flatten_nil, List.append_nil]; refine List.Perm.append_left _ ?_; simpa [owA, hpv, mkL] using hr1)) ?_
    intro k hk
    refine GO ?_
    (first | (apply VC.seq_cond; rfl) | (apply VC.cond; rfl))
    rotate_left
    · intro hge
      have hge : ¬ k < pn := by simpa using hge
      obtain rfl : k = pn := by omega
      refine GO ?_
      refine ⟨i + 1, by omega, by omega, by exact SUx, Imp.perm ?_⟩
      simp only [List.flatten_cons, List.flatten_nil, List.append_nil]
      refine List.Perm.append_left _ ?_
      rw [List.drop_of_length_le (by rw [hpo.len]; exact Nat.le_refl _), List.append_nil]
      simpa [owA, hpv] using hr3.symm
    intro hlk
    have hlk : k < pn := by simpa using hlk
    rw [hpv] at hpo
    cases hpo with
    | nil => omega
    | @mk b2 o2 _ _ _ _ q1 q2 q3 =>
    have hu : Upd [cellsAt b2 o2 (((mkL i k).flatMap markF ++ pxs.drop (k * 2)) ++ psp), L, rest] b2 (o2 + k * 2) (markF (mkI i k)) [cellsAt b2 o2 (((mkL i (k + 1)).flatMap markF ++ pxs.drop ((k + 1) * 2)) ++ psp), L, rest] :=
      .cells (by omega) (by rw [List.length_append, own_len markF_len q1 (Nat.le_of_lt hlk), markF_len]; omega) (by rw [Nat.add_sub_cancel_left]; exact own_lay markF_len q1 hlk i)
    refine GO ?_
    refine VC.draws ⟨?_, ?_, trivial⟩
    all_goals
      refine GO ?_
      refine st_call (mark_spec (mkI i k) (by unfold mkI; omega) (by unfold mkI; omega)) (by rfl) Spl.nil (fun v Post hv => ?_)
      obtain ⟨rfl, rfl⟩ := hv
      simp only [List.nil_append]
      refine GO ?_
      refine VO.imp (H' := [cellsAt b2 o2 (((mkL i k).flatMap markF ++ pxs.drop (k * 2)) ++ psp), L, rest]) (Imp.perm (by simp only [slA, List.flatten_cons, List.flatten_nil]; exact perm_lead _ _ _)) ?_
      refine st_store' (us := markF (mkI i k)) (by rfl) (by rfl) (by rfl) (by rfl) (by rfl) hu ?_
      refine GO ?_
      exact ⟨k + 1, by omega, by omega, by exact SUx, Imp.cut (M := [L, cellsAt b2 o2 (((mkL i (k + 1)).flatMap markF ++ pxs.drop ((k + 1) * 2)) ++ psp), rest]) (by exact IMx) (by simp only [slA]; exact Imp.refl _)⟩
  intro hge
  have hge : ¬ i < ps.length := by simpa using hge
  obtain rfl : i = ps.length := by omega
  refine GO ?_
  refine VC.loop (α := Nat × Value × List Value × List Value × List Atom) (Γf := fun s => [(0, .slice la ps.length lc), (5, s.2.1), (6, vi s.1)]) (Hf := fun s => [L, slA s.2.1 s.2.2.1 s.2.2.2.1, s.2.2.2.2, ((ph1 markF ps.length ps).drop s.1).flatMap owA])
    (I := fun s => s.1 ≤ ps.length ∧ s.2.2.1.length = s.1 ∧ IsSl 1 s.2.1 s.1 s.2.2.1 s.2.2.2.1 ∧ ∀ j p, j < s.1 → ps[j]? = some p → RdRow 2 s.2.2.2.2 p.v p.n ((mkL j p.n).flatMap markF) ∧ ∃ xv, s.2.2.1[j]? = some xv ∧ RdRow 2 s.2.2.2.2 xv (p.n + 16) ((mkL j p.n ++ bkL j 16).flatMap markF)) (μ := fun s => ps.length - s.1) (0, .slice none 0 0, [], [], []) ⟨Nat.zero_le _, rfl, .nil, fun j p h => by omega⟩ (by exact SUx)
    (Imp.perm (by simp [slA])) ?_
  rintro ⟨i, lv2, ws, lsp2, D⟩ ⟨hi, hws, hl2, hD⟩
  simp only at hi hws hl2 hD
  obtain ⟨ma, mc, rfl⟩ := hl2.form
  refine GO ?_
  (first | (apply VC.seq_cond; rfl) | (apply VC.cond; rfl))
  · intro hlt
    have hlt : i < ps.length := by simpa using hlt
    obtain ⟨⟨pv, pn, pxs, psp⟩, hp⟩ : ∃ p, ps[i]? = some p := ⟨ps[i], List.getElem?_eq_getElem hlt⟩
    have hpm := List.mem_of_getElem? hp
    have hpo := hps _ hpm
    have hpn := hn _ hpm
    simp only at hpo hpn
    obtain ⟨b, o, c, hve, m1⟩ := (show RdRow 1 L (.slice la ps.length lc) ps.length (ps.map fun q => q.v) from hrd).cell hp
    simp only [Value.slice.injEq, true_and] at hve
    obtain ⟨rfl, rfl⟩ := hve
    obtain ⟨pa, pc, hpv⟩ := hpo.form
    have hpo2 : IsSl 2 pv pn ((mkL i pn).flatMap markF) psp := by
      cases hpo with
      | mk q1 q2 q3 => exact .mk (by rw [flatMap_len (fun x _ => markF_len x), mkL_len]) (by rw [flatMap_len (fun x _ => markF_len x), mkL_len]; omega) q3
      | nil => exact .nil
    have hml : ((mkL i pn).flatMap markF).length = pn * 2 := by rw [flatMap_len (fun x _ => markF_len x), mkL_len]
    rw [ph1_all hp]
    simp only at m1
    refine GO ?_
    refine VC.loop (α := Nat × Value × List Value × List Atom) (Γf := fun s => [(0, .slice (some ⟨b, o, none⟩) ps.length lc), (5, .slice ma i mc), (6, vi i), (7, s.2.1), (8, vi s.1)]) (Hf := fun s => [L, slA (.slice ma i mc) ws lsp2, D, slA s.2.1 ((mkL i pn).flatMap markF ++ (bkL i s.1).flatMap markF) s.2.2.1, s.2.2.2, ((ph1 markF ps.length ps).drop (i + 1)).flatMap owA])
      (I := fun s => s.1 ≤ 16 ∧ IsSl 2 s.2.1 (pn + s.1) ((mkL i pn).flatMap markF ++ (bkL i s.1).flatMap markF) s.2.2.1 ∧ Kept 2 s.2.2.2 pv pn ((mkL i pn).flatMap markF) s.2.1 (pn + s.1)) (μ := fun s => 16 - s.1) (0, pv, psp, []) ⟨Nat.zero_le _, by simpa [bkL] using hpo2, Kept.start hpo2⟩ (by exact SUx)
      (Imp.perm (by simp [bkL])) ?_
    rintro ⟨k, xv, xsp, E⟩ ⟨hk, hxv, hE⟩
    simp only at hk hxv hE
    have hbl : ((bkL i k).flatMap markF).length = k * 2 := by rw [flatMap_len (fun x _ => markF_len x), bkL_len]
    obtain ⟨xa, xc, rfl⟩ := hxv.form
    by_cases h16 : k < 16
    · refine GO ?_
      simp only [show (k : Int) < 16 by omega, decide_true]
      refine GO ?_
      refine st_call (mark_spec (bkI i k) (by unfold bkI; omega) (by unfold bkI; omega)) (by rfl) Spl.nil (fun v Post hv => ?_)
      obtain ⟨rfl, rfl⟩ := hv
      simp only [List.nil_append]
      refine GO ?_
      refine st_bslice (out := markF (bkI i k)) (by rfl) (by rfl) (fun q3 => ?_)
      refine GO ?_
      have hsucc : (bkL i (k + 1)).flatMap markF = (bkL i k).flatMap markF ++ markF (bkI i k) := by rw [bkL_succ]; simp
      refine st_append2 (k := pn + k) (m := 1) (xs := (mkL i pn).flatMap markF ++ (bkL i k).flatMap markF) (sp := xsp) (ys := markF (bkI i k)) (by rfl) (by rfl) hxv (by exact TKx) (by rfl) ?_ rfl (by rfl) (by rfl) (by decide) (by omega) ?_ ?_
      · exact ⟨rfl, fun a ha => by simp only [List.flatten_cons, List.mem_append]; exact .inl ha⟩
      · intro b3 o3 c3 sp' hxe hsl'
        rw [List.append_assoc, ← hsucc] at hsl' ⊢
        simp only [Value.slice.injEq, true_and] at hxe
        obtain ⟨rfl, rfl⟩ := hxe
        refine GO ?_
        refine ⟨(k + 1, .slice (some ⟨b3, o3, none⟩) (pn + k + 1) xc, sp', E), ⟨by show k + 1 ≤ 16; omega, hsl', ?_⟩, by simp only; omega, by exact SUx, by exact IMx⟩
        rcases hE with h | ⟨h1, b4, o4, c4, h2, h3⟩
        · exact .inl h
        · simp only [Value.slice.injEq, Option.some.injEq, Addr.mk.injEq, and_true] at h3
          obtain ⟨⟨rfl, rfl⟩, _, rfl⟩ := h3
          exact .inr ⟨h1, _, _, _, h2, rfl⟩
      · intro sv' sp' hsl'
        rw [List.append_assoc, ← hsucc] at hsl' ⊢
        obtain ⟨a', c', rfl⟩ := hsl'.form
        refine GO ?_
        exact ⟨(k + 1, .slice a' (pn + k + 1) c', sp', slA (.slice xa (pn + k) xc) ((mkL i pn).flatMap markF ++ (bkL i k).flatMap markF) xsp ++ E), ⟨by show k + 1 ≤ 16; omega, hsl', hE.moved hxv hml (by omega)⟩, by simp only; omega, by exact SUx, Imp.cut (M := [L, slA (.slice ma i mc) ws lsp2, D, slA (.slice a' (pn + k + 1) c') ((mkL i pn).flatMap markF ++ (bkL i (k + 1)).flatMap markF) sp', slA (.slice xa (pn + k) xc) ((mkL i pn).flatMap markF ++ (bkL i k).flatMap markF) xsp, E, ((ph1 markF ps.length ps).drop (i + 1)).flatMap owA]) (by exact IMx) (Imp.perm (by simp))⟩
    · obtain rfl : k = 16 := by omega
      refine GO ?_
      refine st_bslice (out := [.slice xa (pn + 16) xc]) (by rfl) (by rfl) (fun q3 => ?_)
      refine GO ?_
      refine st_append (k := i) (m := 1) (xs := ws) (sp := lsp2) (ys := [.slice xa (pn + 16) xc]) (by rfl) (by rfl) hl2 (by exact TKx) (by rfl) ?_ rfl (by rfl) (by rfl) (by decide) (by omega) (fun sv' sp' hsl' => ?_)
      · exact ⟨rfl, fun a ha => by simp only [List.flatten_cons, List.mem_append]; exact .inl ha⟩
      obtain ⟨a', c', rfl⟩ := hsl'.form
      refine GO ?_
      have hdone := hE.done hxv hml (by omega)
      have hx16 : RdRow 2 (slA (.slice xa (pn + 16) xc) ((mkL i pn).flatMap markF ++ (bkL i 16).flatMap markF) xsp ++ E) (.slice xa (pn + 16) xc) (pn + 16) ((mkL i pn ++ bkL i 16).flatMap markF) := by
        rw [List.flatMap_append]; exact hxv.rd.mono (fun a ha => List.mem_append_left _ ha)
      refine ⟨(i + 1, .slice a' (i + 1) c', ws ++ [.slice xa (pn + 16) xc], sp', D ++ (slA (.slice xa (pn + 16) xc) ((mkL i pn).flatMap markF ++ (bkL i 16).flatMap markF) xsp ++ E)), ⟨by show i + 1 ≤ ps.length; omega, by simp [hws], hsl', fun j p hj hpj => ?_⟩, by simp only; omega, by exact SUx, Imp.cut (M := [L, slA (.slice a' (i + 1) c') (ws ++ [.slice xa (pn + 16) xc]) sp', D, slA (.slice xa (pn + 16) xc) ((mkL i pn).flatMap markF ++ (bkL i 16).flatMap markF) xsp, E, ((ph1 markF ps.length ps).drop (i + 1)).flatMap owA]) (by exact IMx) (Imp.perm (by simp))⟩
      simp only at hj ⊢
      by_cases hji : j < i
      · obtain ⟨d1, yv, d2, d3⟩ := hD j p hji hpj
        exact ⟨d1.mono (fun a ha => List.mem_append_left _ ha), yv, by rw [List.getElem?_append_left (by omega)]; exact d2, d3.mono (fun a ha => List.mem_append_left _ ha)⟩
      · obtain rfl : j = i := by omega
        rw [hp] at hpj
        cases hpj
        exact ⟨hdone.mono (fun a ha => List.mem_append_right _ ha), _, by rw [List.getElem?_append_right (by omega), hws]; simp, hx16.mono (fun a ha => List.mem_append_right _ ha)⟩
  intro hge
  have hge : ¬ i < ps.length := by simpa using hge
  obtain rfl : i = ps.length := by omega
  have hrd2 := hl2.rd
  generalize slA (.slice ma ps.length mc) ws lsp2 = L2 at hrd2 ⊢
  generalize ((ph1 markF ps.length ps).drop ps.length).flatMap owA = D0
  refine GO ?_
  refine VC.loop (α := Nat) (Γf := fun i => [(0, .slice la ps.length lc), (5, .slice ma ps.length mc), (9, vi i)]) (Hf := fun i => [L, L2, D]) (I := fun i => i ≤ ps.length) (μ := fun i => ps.length - i) 0 (Nat.zero_le _) (by exact SUx) (by exact IMx) ?_
  intro i hi
  refine GO ?_
  (first | (apply VC.seq_cond; rfl) | (apply VC.cond; rfl))
  rotate_left
  · intro _
    refine GO ?_
    exact endQ_mk (Post := []) (.inr rfl) (.tmp (by rfl) .nil) ⟨rfl, rfl⟩ Imp.nil
  intro hlt
  have hlt : i < ps.length := by simpa using hlt
  obtain ⟨⟨pv, pn, pxs, psp⟩, hp⟩ : ∃ p, ps[i]? = some p := ⟨ps[i], List.getElem?_eq_getElem hlt⟩
  have hpn := hn _ (List.mem_of_getElem? hp)
  obtain ⟨d1, xv, d2, d3⟩ := hD i _ hlt hp
  simp only at hpn d1 d3
  obtain ⟨b, o, c, hve, m1⟩ := (show RdRow 1 L (.slice la ps.length lc) ps.length (ps.map fun q => q.v) from hrd).cell hp
  simp only [Value.slice.injEq, true_and] at hve
  obtain ⟨rfl, rfl⟩ := hve
  have hwm : RdRow 1 L2 (.slice ma ws.length mc) ws.length (ws.map fun q => q) := by rw [List.map_id', hws]; exact hrd2
  obtain ⟨b2, o2, c2, hve2, m2⟩ := hwm.cell d2
  simp only [Value.slice.injEq, true_and] at hve2
  obtain ⟨rfl, rfl⟩ := hve2
  obtain ⟨pa, pc, rfl⟩ := d1.form
  obtain ⟨xa, xc, rfl⟩ := d3.form
  simp only at m1
  refine GO ?_
  refine VC.loop (α := Nat) (Γf := fun k => [(0, .slice (some ⟨b, o, none⟩) ps.length lc), (5, .slice (some ⟨b2, o2, none⟩) ps.length mc), (9, vi i), (10, vi pn), (11, vi k)]) (Hf := fun i => [L, L2, D]) (I := fun k => k ≤ pn) (μ := fun k => pn - k) 0 (Nat.zero_le _) (by exact SUx) (by exact IMx) ?_
  intro k hk
  refine GO ?_
  (first | (apply VC.seq_cond; rfl) | (apply VC.cond; rfl))
  · intro hlk
    have hlk : k < pn := by simpa using hlk
    have d1' := d1
    have d3' := d3
    rw [show pn = (mkL i pn).length by rw [mkL_len]] at d1'
    rw [show pn + 16 = (mkL i pn ++ bkL i 16).length by rw [List.length_append, mkL_len, bkL_len]] at d3'
    obtain ⟨b3, o3, c3, hve3, m3⟩ := RdRow.at_ (enc := markF) (l := mkL i pn) (by simpa [mkL_len] using d1) markF_len (mkL_get hlk)
    obtain ⟨b4, o4, c4, hve4, m4⟩ := RdRow.at_ (enc := markF) (l := mkL i pn ++ bkL i 16) (by simpa [mkL_len, bkL_len] using d3) markF_len (both_get1 hlk)
    simp only [Value.slice.injEq, mkL_len, List.length_append, bkL_len, true_and] at hve3 hve4
    obtain ⟨rfl, rfl⟩ := hve3
    obtain ⟨rfl, rfl⟩ := hve4
    refine GO ?_
    refine VC.seq_draws (α := Unit) (fun _ => [(0, .slice (some ⟨b, o, none⟩) ps.length lc), (5, .slice (some ⟨b2, o2, none⟩) ps.length mc), (9, vi i), (10, vi pn), (11, vi k), (113, .bool false)]) (fun _ => [L, L2, D]) (fun _ => True) ⟨?_, ?_, ?_, ?_, ?_, ?_, ?_, ?_, ?_, trivial⟩ (fun _ _ => ?_)
    all_goals first
      | (refine GO ?_
         first
          | (refine st_loadA (us := markF (mkI i k)) (by rfl) (fun y hy => by simp only [List.flatten_cons, List.mem_append]; simp only [m3 y hy, true_or, or_true]) (by rfl) ?_)
          | (refine st_call (mark_spec (mkI i k) (by unfold mkI; omega) (by unfold mkI; omega)) (by rfl) Spl.nil (fun v Post hv => ?_)
             obtain ⟨rfl, rfl⟩ := hv
             simp only [List.nil_append])
         refine GO ?_
         first
          | (refine st_loadA (us := markF (mkI i k)) (by rfl) (fun y hy => by simp only [List.flatten_cons, List.mem_append]; simp only [m3 y hy, true_or, or_true]) (by rfl) ?_)
          | (refine st_call (mark_spec (mkI i k) (by unfold mkI; omega) (by unfold mkI; omega)) (by rfl) Spl.nil (fun v Post hv => ?_)
             obtain ⟨rfl, rfl⟩ := hv
             simp only [List.nil_append])
         refine GO ?_
         simp only [markF, eq_self, decide_true, Bool.and_true, Bool.not_true, ↓reduceIte]
         refine GO ?_
         first
          | (refine st_loadA (us := markF (mkI i k)) (by rfl) (fun y hy => by simp only [List.flatten_cons, List.mem_append]; simp only [m4 y hy, true_or, or_true]) (by rfl) ?_)
          | (refine st_call (mark_spec (mkI i k) (by unfold mkI; omega) (by unfold mkI; omega)) (by rfl) Spl.nil (fun v Post hv => ?_)
             obtain ⟨rfl, rfl⟩ := hv
             simp only [List.nil_append])
         refine GO ?_
         first
          | (refine st_loadA (us := markF (mkI i k)) (by rfl) (fun y hy => by simp only [List.flatten_cons, List.mem_append]; simp only [m4 y hy, true_or, or_true]) (by rfl) ?_)
          | (refine st_call (mark_spec (mkI i k) (by unfold mkI; omega) (by unfold mkI; omega)) (by rfl) Spl.nil (fun v Post hv => ?_)
             obtain ⟨rfl, rfl⟩ := hv
             simp only [List.nil_append])
         refine GO ?_
         simp only [markF, eq_self, decide_true, Bool.and_true, Bool.not_true, ↓reduceIte]
         refine GO ?_
         exact ⟨(), trivial, by exact SUx, by exact IMx⟩)
      | skip
    refine GO ?_
    exact ⟨k + 1, by omega, by omega, by exact SUx, by exact IMx⟩
  intro _
  refine GO ?_
  refine VC.loop (α := Nat) (Γf := fun k => [(0, .slice (some ⟨b, o, none⟩) ps.length lc), (5, .slice (some ⟨b2, o2, none⟩) ps.length mc), (9, vi i), (10, vi pn), (12, vi k)]) (Hf := fun _ => [L, L2, D]) (I := fun k => k ≤ 16) (μ := fun k => 16 - k) 0 (Nat.zero_le _) (by exact SUx) (by exact IMx) ?_
  intro k hk
  by_cases h16 : k < 16
  · refine GO ?_
    simp only [show (k : Int) < 16 by omega, decide_true]
    obtain ⟨b4, o4, c4, hve4, m4⟩ := RdRow.at_ (enc := markF) (l := mkL i pn ++ bkL i 16) (by simpa [mkL_len, bkL_len] using d3) markF_len (both_get2 (n := pn) h16)
    simp only [Value.slice.injEq, List.length_append, mkL_len, bkL_len, true_and] at hve4
    obtain ⟨rfl, rfl⟩ := hve4
    refine GO ?_
    refine VC.seq_draws (α := Unit) (fun _ => [(0, .slice (some ⟨b, o, none⟩) ps.length lc), (5, .slice (some ⟨b2, o2, none⟩) ps.length mc), (9, vi i), (10, vi pn), (12, vi k), (134, .bool false)]) (fun _ => [L, L2, D]) (fun _ => True) ⟨?_, ?_, ?_, trivial⟩ (fun _ _ => ?_)
    all_goals first
      | (refine GO ?_
         first
          | (refine st_loadA (us := markF (bkI i k)) (by rfl) (fun y hy => by simp only [List.flatten_cons, List.mem_append]; simp only [m4 y hy, true_or, or_true]) (by rfl) ?_)
          | (refine st_call (mark_spec (bkI i k) (by unfold bkI; omega) (by unfold bkI; omega)) (by rfl) Spl.nil (fun v Post hv => ?_)
             obtain ⟨rfl, rfl⟩ := hv
             simp only [List.nil_append])
         refine GO ?_
         first
          | (refine st_loadA (us := markF (bkI i k)) (by rfl) (fun y hy => by simp only [List.flatten_cons, List.mem_append]; simp only [m4 y hy, true_or, or_true]) (by rfl) ?_)
          | (refine st_call (mark_spec (bkI i k) (by unfold bkI; omega) (by unfold bkI; omega)) (by rfl) Spl.nil (fun v Post hv => ?_)
             obtain ⟨rfl, rfl⟩ := hv
             simp only [List.nil_append])
         refine GO ?_
         simp only [markF, eq_self, decide_true, Bool.and_true, Bool.not_true, ↓reduceIte]
         refine GO ?_
         exact ⟨(), trivial, by exact SUx, by exact IMx⟩)
      | skip
    refine GO ?_
    exact ⟨k + 1, by omega, by omega, by exact SUx, by exact IMx⟩
  · obtain rfl : k = 16 := by omega
    refine GO ?_
    exact ⟨i + 1, by omega, by omega, by exact SUx, by exact IMx⟩
end Go.Proofs.YtgindbomnbojeaaGreat
namespace Go.V
open Go
structure Bk where
  dv : Value
  dp : List OwnI
  dsp : List Value
  fv : Value
  fp : List OwnI
  fsp : List Value
structure BkOk (k : Bk) (n : Nat) : Prop where
  dl : IsSl 1 k.dv k.dp.length (k.dp.map (·.v)) k.dsp
  fl : IsSl 1 k.fv k.fp.length (k.fp.map (·.v)) k.fsp
  down : ∀ p ∈ k.dp, IsSl 6 p.v p.n p.xs p.sp
  fown : ∀ p ∈ k.fp, IsSl 2 p.v p.n p.xs p.sp
  dsm : ∀ p ∈ k.dp, p.n ≤ 1073741824
  fsm : ∀ p ∈ k.fp, p.n ≤ 1073741824
  dlen : k.dp.length ≤ n
  flen : k.fp.length ≤ n
theorem BkOk.more {k : Bk} {n m : Nat} (h : BkOk k n) (hm : n ≤ m) : BkOk k m := { h with dlen := Nat.le_trans h.dlen hm, flen := Nat.le_trans h.flen hm }
theorem BkOk.put {k : Bk} {n : Nat} (h : BkOk k n) {p f : OwnI} (hp : IsSl 6 p.v p.n p.xs p.sp) (hpn : p.n ≤ 1073741824) (hf : IsSl 2 f.v f.n f.xs f.sp) (hfn : f.n ≤ 1073741824) {dv fv : Value} {dsp fsp : List Value}
    (hd : IsSl 1 dv (k.dp.length + 1) (k.dp.map (·.v) ++ [p.v]) dsp) (hfv : IsSl 1 fv (k.fp.length + 1) (k.fp.map (·.v) ++ [f.v]) fsp) : BkOk ⟨dv, k.dp ++ [p], dsp, fv, k.fp ++ [f], fsp⟩ (n + 1) := by
  have h1 := h.dlen
  have h2 := h.flen
  refine ⟨by simpa using hd, by simpa using hfv, fun q hq => ?_, fun q hq => ?_, fun q hq => ?_, fun q hq => ?_, by simp; omega, by simp; omega⟩
  · rcases List.mem_append.1 hq with hq | hq
    · exact h.down q hq
    · obtain rfl := List.mem_singleton.1 hq; exact hp
  · rcases List.mem_append.1 hq with hq | hq
    · exact h.fown q hq
    · obtain rfl := List.mem_singleton.1 hq; exact hf
  · rcases List.mem_append.1 hq with hq | hq
    · exact h.dsm q hq
    · obtain rfl := List.mem_singleton.1 hq; exact hpn
  · rcases List.mem_append.1 hq with hq | hq
    · exact h.fsm q hq
    · obtain rfl := List.mem_singleton.1 hq; exact hfn
end Go.V
namespace Go.Proofs.YtgindbomnbojeaaGreat
open Go Go.V
set_option maxHeartbeats 6400000
set_option maxRecDepth 100000
def BkM (q : Nat) (k : Bk) : SH := [cellsAt q 0 (bkDF k.dv k.fv), slA k.dv (k.dp.map (·.v)) k.dsp, k.dp.flatMap owA, slA k.fv (k.fp.map (·.v)) k.fsp, k.fp.flatMap owA]
def BA (q : Nat) (k : Bk) : List Atom := (BkM q k).flatten
theorem bookOwn_spec (q : Nat) (k : Bk) (n : Nat) (hk : BkOk k n) (hn : n ≤ 1073741824) :
    Fun Tryz.prog 19 [ptr0 q] [BA q k] (fun v Post => v = .bool true ∧ Post = []) := by
  refine Fun.intro low19 (by simp [n19]) ?_
  have h1 := hk.dlen
  have h2 := hk.flen
  refine VC.imp (H' := [cellsAt q 0 (bkDF k.dv k.fv), slA k.dv (k.dp.map (·.v)) k.dsp, k.dp.flatMap owA, slA k.fv (k.fp.map (·.v)) k.fsp, k.fp.flatMap owA]) (Imp.perm (by simp [BA, BkM])) ?_
  simp only [bkDF]
  refine GO ?_
  refine st_call ownInts_nil (by rfl) Spl.nil (fun v Post hv => ?_)
  obtain ⟨rfl, rfl⟩ := hv
  simp only [List.nil_append]
  refine GO ?_
  refine st_call ownNumbers_nil (by rfl) Spl.nil (fun v Post hv => ?_)
  obtain ⟨rfl, rfl⟩ := hv
  simp only [List.nil_append]
  refine GO ?_
  refine st_call ownOops_nil (by rfl) Spl.nil (fun v Post hv => ?_)
  obtain ⟨rfl, rfl⟩ := hv
  simp only [List.nil_append]
  refine GO ?_
  refine st_call (ownDeeds_spec k.dv k.dp k.dsp hk.dl hk.down (by omega) hk.dsm) (by rfl) (by exact SPx) (fun v Post hv => ?_)
  obtain ⟨rfl, rfl⟩ := hv
  simp only [List.nil_append]
  refine GO ?_
  refine st_call (ownFiles_spec k.fv k.fp k.fsp hk.fl hk.fown (by omega) hk.fsm) (by rfl) (by exact SPx) (fun v Post hv => ?_)
  obtain ⟨rfl, rfl⟩ := hv
  simp only [List.nil_append]
  refine GO ?_
  refine st_call ownChoices_nil (by rfl) Spl.nil (fun v Post hv => ?_)
  obtain ⟨rfl, rfl⟩ := hv
  simp only [List.nil_append]
  refine GO ?_
  refine st_call ownTexts_nil (by rfl) Spl.nil (fun v Post hv => ?_)
  obtain ⟨rfl, rfl⟩ := hv
  simp only [List.nil_append]
  refine GO ?_
  refine st_call ownBits_nil (by rfl) Spl.nil (fun v Post hv => ?_)
  obtain ⟨rfl, rfl⟩ := hv
  simp only [List.nil_append]
  refine GO ?_
  exact endQ_mk (Post := []) (.inr rfl) (.tmp (by rfl) .nil) ⟨rfl, rfl⟩ Imp.nil
def PW (t : Nat) (w : WR) : List Atom := (WMem t w).flatten
def DW (t : Nat) (r : QR) : List Atom := (QMem t r).flatten
theorem pw_eq (t : Nat) (w : WR) : (WMem t w).flatten = PW t w := rfl
theorem dw_eq (t : Nat) (r : QR) : (QMem t r).flatten = DW t r := rfl
theorem fun_pw {f t : Nat} {w : WR} {args : List Value} {Q : Value → SH → Prop} (h : Fun Tryz.prog f args (WMem t w) Q) : Fun Tryz.prog f args [PW t w] (fun v Post => ∃ Post', Q v Post' ∧ Post = [Post'.flatten]) := h.flat
theorem fun_dw {f t : Nat} {r : QR} {args : List Value} {Q : Value → SH → Prop} (h : Fun Tryz.prog f args (QMem t r) Q) : Fun Tryz.prog f args [DW t r] (fun v Post => ∃ Post', Q v Post' ∧ Post = [Post'.flatten]) := h.flat
theorem trace_fl (t : Nat) (w : WR) (a : AW) (M : Nat) (hM : M ≤ 1073741823) (hR : Rep w a M) :
    Fun Tryz.prog 18 [ptr0 t] [PW t w] (fun v Post => ∃ sp, IsSl 6 v a.trace.length (a.trace.flatMap deEnc) sp ∧ Post = [slA v (a.trace.flatMap deEnc) sp, PW t w]) := by
  refine (trace_spec t w a M hM hR).conv (R := []) (by simp [V.Spl, PW]) ?_
  rintro v Post ⟨sp, h, rfl⟩
  exact ⟨_, ⟨sp, h, rfl⟩, Imp.perm (by simp only [List.append_nil, List.flatten_append, List.flatten_cons, List.flatten_nil, PW]; exact List.perm_append_comm)⟩
theorem files_fl (t : Nat) (w : WR) (a : AW) (M : Nat) (hM : M ≤ 1073741823) (hR : Rep w a M) :
    Fun Tryz.prog 17 [ptr0 t] [PW t w] (fun v Post => ∃ ys sp, SortedOf ltS (a.names.map (·.1)) ys ∧ IsSl 2 v ys.length ((ys.map (fileOf a)).flatMap fiEnc) sp ∧ Post = [slA v ((ys.map (fileOf a)).flatMap fiEnc) sp, PW t w]) := by
  refine (files_spec t w a M hM hR).conv (R := []) (by simp [V.Spl, PW]) ?_
  rintro v Post ⟨ys, sp, h1, h2, rfl⟩
  exact ⟨_, ⟨ys, sp, h1, h2, rfl⟩, Imp.perm (by simp only [List.append_nil, List.flatten_append, List.flatten_cons, List.flatten_nil, PW]; exact List.perm_append_comm)⟩
theorem qfiles_fl (t : Nat) (r : QR) (a : AW) (M : Nat) (hM : M ≤ 1073741000) (h : QRep r a M) (hk : (a.names.map (·.1)).Nodup) (hin : ∀ p ∈ a.names, p.2 < a.files.length) (ys : List ByteArray) (hys : SortedOf ltS (a.names.map (·.1)) ys) :
    Fun Tryz.prog 66 [ptr0 t] [DW t r] (fun v Post => ∃ sp, IsSl 2 v ys.length ((ys.map (fileOf a)).flatMap fiEnc) sp ∧ Post = [slA v ((ys.map (fileOf a)).flatMap fiEnc) sp, DW t r]) := by
  refine (qfiles_spec t r a M hM h hk hin ys hys).conv (R := []) (by simp [V.Spl, DW]) ?_
  rintro v Post ⟨sp, h2, rfl⟩
  exact ⟨_, ⟨sp, h2, rfl⟩, Imp.perm (by simp only [List.append_nil, List.flatten_append, List.flatten_cons, List.flatten_nil, DW]; exact List.perm_append_comm)⟩
def DWr (r : QR) : List Atom := slA r.cv (r.choices.flatMap chEnc) r.csp ++ (slA r.av (r.all.flatMap alEnc) r.asp ++ (slA r.wv (r.ws.flatMap rwEnc) r.wsp ++ slA r.hv (r.hs.flatMap rhEnc) r.hsp))
theorem dw_cut (t : Nat) (r : QR) : (DW t r).Perm (cellsAt t 0 [r.cv, r.av, r.wv, r.hv, r.tv, vi r.now, .bool r.dead] ++ (slA r.tv (r.told.flatMap deEnc) r.tsp ++ DWr r)) := by
  simp only [DW, QMem, DWr, List.flatten_cons, List.flatten_nil, List.append_nil]
  refine List.Perm.append_left _ ?_
  refine List.Perm.trans ?_ List.perm_append_comm
  simp only [List.append_assoc]
  exact .refl _
structure Twin (w : WR) (r : QR) (a : AW) (M : Nat) : Prop where
  rep : Rep w a M
  doc : QRep r a M
  inv : AInv a
theorem looks_spec (t tr q : Nat) (w : WR) (r : QR) (a : AW) (M n : Nat) (k : Bk) (h : Twin w r a M) (hk : BkOk k n) (hM : M ≤ 1073741000) (hn : n ≤ 1073741823) :
    Fun Tryz.prog 16 [ptr0 t, ptr0 tr, ptr0 q] [PW t w, DW tr r, BA q k] (fun v Post => v = .bool true ∧ ∃ k', BkOk k' (n + 1) ∧ Post = [PW t w, DW tr r, BA q k']) := by
  refine Fun.intro low16 (by simp [n16]) ?_
  have htl : a.trace.length ≤ M := by rw [← h.rep.tr]; exact h.rep.ok.trmany
  have hnl : a.names.length ≤ 1073741823 := h.rep.files64
  have hkd := hk.dlen
  have hkf := hk.flen
  refine VC.imp (H' := [PW t w, DW tr r, cellsAt q 0 (bkDF k.dv k.fv), slA k.dv (k.dp.map (·.v)) k.dsp, k.dp.flatMap owA, slA k.fv (k.fp.map (·.v)) k.fsp, k.fp.flatMap owA]) (Imp.perm (by simp [BA, BkM])) ?_
  refine GO ?_
  refine st_call (trace_fl t w a M (by omega) h.rep) (by rfl) (by exact SPx) (fun v Post hv => ?_)
  obtain ⟨tsp, htv, rfl⟩ := hv
  obtain ⟨ta, tc, rfl⟩ := htv.form
  simp only [CNx]
  refine GO ?_
  refine st_call (files_fl t w a M (by omega) h.rep) (by rfl) (by exact SPx) (fun v Post hv => ?_)
  obtain ⟨ys, fsp, hys, hfv, rfl⟩ := hv
  have hyl : ys.length ≤ 1073741823 := by have := hys.1.length_eq; rw [List.length_map] at this; omega
  obtain ⟨fa, fc, rfl⟩ := hfv.form
  simp only [CNx]
  refine GO ?_
  refine st_call (fun_pw (dead_spec t w a M h.rep)) (by rfl) (by exact SPx) (fun v Post hv => ?_)
  obtain ⟨P1, ⟨rfl, rfl⟩, rfl⟩ := hv
  simp only [List.cons_append, List.nil_append, pw_eq]
  refine GO ?_
  refine st_call (qfiles_fl tr r a M hM h.doc h.inv.keys h.inv.nin ys hys) (by rfl) (by exact SPx) (fun v Post hv => ?_)
  obtain ⟨gsp, hgv, rfl⟩ := hv
  obtain ⟨ga, gc, rfl⟩ := hgv.form
  simp only [CNx]
  refine GO ?_
  refine VO.split (A := DW tr r) (B := cellsAt tr 0 [r.cv, r.av, r.wv, r.hv, r.tv, vi r.now, .bool r.dead]) (C := slA r.tv (r.told.flatMap deEnc) r.tsp ++ DWr r) (by exact TKx) (dw_cut tr r) ?_
  refine VO.split (A := slA r.tv (r.told.flatMap deEnc) r.tsp ++ DWr r) (B := slA r.tv (r.told.flatMap deEnc) r.tsp) (C := DWr r) (by exact TKx) (.refl _) ?_
  have hrt := h.doc.tsl.rd
  have hrr : slA r.tv (r.told.flatMap deEnc) r.tsp = slA r.tv (a.trace.flatMap deEnc) r.tsp := by rw [h.doc.told]
  rw [h.doc.told] at hrt
  rw [hrr]
  refine GO ?_
  refine st_call (sameDeeds_spec (slA (.slice ta a.trace.length tc) (a.trace.flatMap deEnc) tsp) (slA r.tv (a.trace.flatMap deEnc) r.tsp) _ _ a.trace a.trace.length rfl htv.rd hrt (by omega)) (by rfl) (by exact SPx) (fun v Post hv => ?_)
  obtain ⟨rfl, rfl⟩ := hv
  simp only [CNx]
  refine GO ?_
  refine st_call (sameFiles_spec (slA (.slice fa ys.length fc) ((ys.map (fileOf a)).flatMap fiEnc) fsp) (slA (.slice ga ys.length gc) ((ys.map (fileOf a)).flatMap fiEnc) gsp) _ _ (ys.map (fileOf a)) ys.length (by simp) hfv.rd hgv.rd (by simp; omega)) (by rfl) (by exact SPx) (fun v Post hv => ?_)
  obtain ⟨rfl, rfl⟩ := hv
  simp only [CNx]
  refine GO ?_
  refine st_call (bookDeeds_spec q k.fv k.dv (k.dp.map (·.v)) k.dsp k.dp.length ta a.trace.length tc hk.dl (by omega)) (by rfl) (by exact SPx) (fun v Post hv => ?_)
  obtain ⟨dv', dsp', hd', rfl, rfl⟩ := hv
  simp only [CNx]
  refine GO ?_
  refine st_call (bookFiles_spec q dv' k.fv (k.fp.map (·.v)) k.fsp k.fp.length fa ys.length fc hk.fl (by omega)) (by rfl) (by exact SPx) (fun v Post hv => ?_)
  obtain ⟨fv', fsp', hf', rfl, rfl⟩ := hv
  simp only [CNx]
  rw [show r.dead = a.dead from h.doc.dead]
  refine GO ?_
  simp only [beq_self_eq_true]
  have hb := hk.put (p := ⟨.slice ta a.trace.length tc, a.trace.length, a.trace.flatMap deEnc, tsp⟩) (f := ⟨.slice fa ys.length fc, ys.length, (ys.map (fileOf a)).flatMap fiEnc, fsp⟩) htv (by show a.trace.length ≤ 1073741824; omega) hfv (by show ys.length ≤ 1073741824; omega) hd' hf'
  refine endQ_mk (Post := [PW t w, DW tr r, BA q ⟨dv', k.dp ++ [⟨.slice ta a.trace.length tc, a.trace.length, a.trace.flatMap deEnc, tsp⟩], dsp', fv', k.fp ++ [⟨.slice fa ys.length fc, ys.length, (ys.map (fileOf a)).flatMap fiEnc, fsp⟩], fsp'⟩]) (.inr rfl) (.tmp (by rfl) .nil) ⟨rfl, _, hb, rfl⟩ ?_
  refine Imp.cut (M := [PW t w, cellsAt tr 0 [r.cv, r.av, r.wv, r.hv, r.tv, vi r.now, .bool a.dead], slA r.tv (a.trace.flatMap deEnc) r.tsp, DWr r, cellsAt q 0 (bkDF dv' fv'), slA dv' (k.dp.map (·.v) ++ [.slice ta a.trace.length tc]) dsp', k.dp.flatMap owA, slA (.slice ta a.trace.length tc) (a.trace.flatMap deEnc) tsp, slA fv' (k.fp.map (·.v) ++ [.slice fa ys.length fc]) fsp', k.fp.flatMap owA, slA (.slice fa ys.length fc) ((ys.map (fileOf a)).flatMap fiEnc) fsp]) (by exact IMx) (Imp.perm ?_)
  have hd := dw_cut tr r
  rw [hrr, show r.dead = a.dead from h.doc.dead] at hd
  simp only [List.flatten_cons, List.flatten_nil, List.append_nil]
  refine List.Perm.append_left _ ?_
  refine List.Perm.trans ?_ (List.Perm.append_right _ hd.symm)
  simp [BA, BkM, owA]
end Go.Proofs.YtgindbomnbojeaaGreat

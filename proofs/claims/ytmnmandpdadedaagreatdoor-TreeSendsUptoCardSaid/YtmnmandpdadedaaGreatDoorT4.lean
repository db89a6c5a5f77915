/-
  ownNames: lists that came out are their owner's alone.
-/
import Derived.Test.YtmnmandpdadedaaGreatDoorT2
import Derived.Test.YtmnmandpdadedaaGreatDoorV11
import Derived.Test.YtmnmandpdadedaaGreatDoorV10
import Derived.Test.YtmnmandpdadedaaGreatDoorT3
import Derived.Test.YtmnmandpdadedaaGreatDoorV12
import Derived.Test.YtmnmandpdadedaaGreatDoorT1
import Derived.Shelf.Strings.Search2
import Derived.Shelf.Lay
set_option linter.unusedSimpArgs false
set_option linter.unusedVariables false
namespace Go.Proofs.YtmnmandpdadedaaGreatDoor
open Go Go.V
set_option maxHeartbeats 6400000
set_option maxRecDepth 100000
theorem neq_self (s : ByteArray) : binV .neq (.string s) (.string s) = some (.bool false) := by simp [binV, strV]
theorem ownNames_spec (lv : Value) (ps : List OwnR) (lsp : List Value) (hl : IsSl 1 lv ps.length (ps.map (·.v)) lsp) (hps : ∀ p ∈ ps, OkR 1 p) (hN : ps.length ≤ 1073741824) :
    Fun Tryz.prog 64 [lv] [slA lv (ps.map (·.v)) lsp, ps.flatMap owR] (fun v Post => v = .bool true ∧ Post = []) := by
  obtain ⟨MK, hMK⟩ : ∃ MK : Nat → Nat → Value, MK = fun i k => .string (markZ (spotZ i k)) := ⟨_, rfl⟩
  have hMKe : ∀ i k, MK i k = .string (markZ (spotZ i k)) := fun i k => by rw [hMK]
  obtain ⟨MB, hMB⟩ : ∃ MB : Nat → Nat → Value, MB = fun i k => .string (markZ (behZ i k)) := ⟨_, rfl⟩
  have hMBe : ∀ i k, MB i k = .string (markZ (behZ i k)) := fun i k => by rw [hMB]
  obtain ⟨ZR, hZR⟩ : ∃ ZR : List Value, ZR = [.string ⟨#[]⟩] := ⟨_, rfl⟩
  have hZl : ZR.length = 1 := by rw [hZR]; rfl
  refine Fun.intro low64 (by simp [n64]) ?_
  obtain ⟨la, lc, hle⟩ := hl.form
  have hrd := hl.rd
  rw [hle] at hrd ⊢
  generalize slA (.slice la ps.length lc) (ps.map (·.v)) lsp = L at hrd ⊢
  refine GO ?_
  refine VC.loop (α := Nat) (Γf := fun i => [(0, .slice la ps.length lc), (3, .slice none 0 0), (4, vi i)]) (Hf := fun i => [L, (phK MK 0 i ps).flatMap owR]) (I := fun i => i ≤ ps.length) (μ := fun i => ps.length - i) 0 (Nat.zero_le _) (by exact SUx) (by rw [phK_zero]; exact IMx) ?_
  intro i hi
  refine GO ?_
  by_cases hlt : i < ps.length
  · obtain ⟨⟨pv, prows, psp⟩, hp⟩ : ∃ p, ps[i]? = some p := ⟨ps[i], List.getElem?_eq_getElem hlt⟩
    have hpm := List.mem_of_getElem? hp
    obtain ⟨hpo, hpl, hpn⟩ := hps _ hpm
    simp only at hpo hpl hpn
    obtain ⟨b, o, c, hve, m1⟩ := (show RdRow 1 L (.slice la ps.length lc) ps.length (ps.map fun q => q.v) from hrd).cell hp
    simp only [Value.slice.injEq, true_and] at hve
    obtain ⟨rfl, rfl⟩ := hve
    have hg := phK_get (mk := MK) (f := 0) (i := i) hp
    rw [if_neg (by omega)] at hg
    obtain ⟨rest, hr1, hr2⟩ := flat_take (f := owR) hg
    have hr3 := hr2 ⟨pv, markK (MK i) 0 prows.length prows, psp⟩
    rw [← phK_succ hp] at hr3
    obtain ⟨pa, pc, hpv⟩ := hpo.form
    simp only [hpv] at m1
    rw [show decide ((i : Int) < (ps.length : Int)) = true from decide_eq_true (by omega)]
    refine GO ?_
    refine VC.loop (α := Nat) (Γf := fun k => [(0, .slice (some ⟨b, o, none⟩) ps.length lc), (3, .slice none 0 0), (4, vi i), (5, vi k)]) (Hf := fun k => [L, slA (.slice pa prows.length pc) (markK (MK i) 0 k prows).flatten psp, rest]) (I := fun k => k ≤ prows.length) (μ := fun k => prows.length - k) 0 (Nat.zero_le _) (by exact SUx)
      (Imp.perm (by rw [markK_zero]; simp only [List.flatten_cons, List.flatten_nil, List.append_nil]; refine List.Perm.append_left _ ?_; simpa [owR, hpv] using hr1)) ?_
    intro k hk
    refine GO ?_
    by_cases hlk : k < prows.length
    rotate_left
    · obtain rfl : k = prows.length := by omega
      rw [show decide ((prows.length : Int) < (prows.length : Int)) = false from decide_eq_false (by omega)]
      refine GO ?_
      refine ⟨i + 1, by omega, by omega, by exact SUx, Imp.perm ?_⟩
      simp only [List.flatten_cons, List.flatten_nil, List.append_nil]
      refine List.Perm.append_left _ ?_
      simpa [owR, hpv] using hr3.symm
    rw [show decide ((k : Int) < (prows.length : Int)) = true from decide_eq_true (by omega)]
    have hfl := rows_len (markK_all (mk := MK i) (f := 0) (k := k) hpl)
    rw [markK_len] at hfl
    have hms := mark_flat (mk := MK i) (f := 0) (k := k) (by omega) hpl hlk
    rw [hpv] at hpo
    obtain ⟨b2, o2, c2, hpe, _, _⟩ := hpo.some (by omega)
    simp only [Value.slice.injEq, true_and] at hpe
    obtain ⟨rfl, rfl⟩ := hpe
    have hu : Upd [cellsAt b2 o2 ((markK (MK i) 0 k prows).flatten ++ psp), L, rest] b2 (o2 + k) [MK i k] [cellsAt b2 o2 ((markK (MK i) 0 (k + 1) prows).flatten ++ psp), L, rest] := by
      rw [hms, ← List.set_append_left _ _ (by omega)]
      exact Upd.set1 (by omega) (by rw [List.length_append]; omega)
    rw [hMKe] at hu
    refine GO ?_
    refine VC.draws ⟨?_, ?_, ?_, trivial⟩
    all_goals
      refine GO ?_
      refine st_callP (spot_spec i k (by omega) (by omega)) (by rfl) ?_
      refine GO ?_
      refine st_callP (mark_spec (spotZ i k) (by unfold spotZ; omega) (by unfold spotZ; omega)) (by rfl) ?_
      refine GO ?_
      refine VO.imp (H' := [cellsAt b2 o2 ((markK (MK i) 0 k prows).flatten ++ psp), L, rest]) (Imp.perm (by simp only [slA, List.flatten_cons, List.flatten_nil]; exact perm_lead _ _ _)) ?_
      refine st_store' (us := [.string (markZ (spotZ i k))]) (by rfl) (by rfl) (by rfl) (by rfl) (by rfl) hu ?_
      refine GO ?_
      exact ⟨k + 1, by omega, by omega, by exact SUx, Imp.cut (M := [L, cellsAt b2 o2 ((markK (MK i) 0 (k + 1) prows).flatten ++ psp), rest]) (by exact IMx) (by simp only [slA]; exact Imp.refl _)⟩
  obtain rfl : i = ps.length := by omega
  rw [show decide ((ps.length : Int) < (ps.length : Int)) = false from decide_eq_false (by omega)]
  refine GO ?_
  refine VC.loop (α := Nat × Value × List Value × List Value × List Atom) (Γf := fun s => [(0, .slice la ps.length lc), (3, s.2.1), (6, vi s.1)]) (Hf := fun s => [L, slA s.2.1 s.2.2.1 s.2.2.2.1, s.2.2.2.2, ((phK MK 0 ps.length ps).drop s.1).flatMap owR])
    (I := fun s => s.1 ≤ ps.length ∧ s.2.2.1.length = s.1 ∧ IsSl 1 s.2.1 s.1 s.2.2.1 s.2.2.2.1 ∧ ∀ j p, j < s.1 → ps[j]? = some p → RdRow 1 s.2.2.2.2 p.v p.rows.length (markK (MK j) 0 p.rows.length p.rows).flatten ∧ ∃ xv, s.2.2.1[j]? = some xv ∧ RdRow 1 s.2.2.2.2 xv (p.rows.length + 8) ((markK (MK j) 0 p.rows.length p.rows).flatten ++ (bkR (MB j) ZR 0 8).flatten)) (μ := fun s => ps.length - s.1) (0, .slice none 0 0, [], [], []) ⟨Nat.zero_le _, rfl, .nil, fun j p h => by omega⟩ (by exact SUx)
    (Imp.perm (by simp [slA])) ?_
  rintro ⟨i, lv2, ws, lsp2, D⟩ ⟨hi, hws, hl2, hD⟩
  simp only at hi hws hl2 hD
  obtain ⟨ma, mc, rfl⟩ := hl2.form
  refine GO ?_
  by_cases hlt : i < ps.length
  · obtain ⟨⟨pv, prows, psp⟩, hp⟩ : ∃ p, ps[i]? = some p := ⟨ps[i], List.getElem?_eq_getElem hlt⟩
    have hpm := List.mem_of_getElem? hp
    obtain ⟨hpo, hpl, hpn⟩ := hps _ hpm
    simp only at hpo hpl hpn
    obtain ⟨b, o, c, hve, m1⟩ := (show RdRow 1 L (.slice la ps.length lc) ps.length (ps.map fun q => q.v) from hrd).cell hp
    simp only [Value.slice.injEq, true_and] at hve
    obtain ⟨rfl, rfl⟩ := hve
    obtain ⟨pa, pc, hpv⟩ := hpo.form
    have hml := rows_len (markK_all (mk := MK i) (f := 0) (k := prows.length) hpl)
    rw [markK_len] at hml
    obtain ⟨ms, hms⟩ : ∃ ms, ms = (markK (MK i) 0 prows.length prows).flatten := ⟨_, rfl⟩
    have hpo2 : IsSl 1 pv prows.length ms psp := by
      rw [← hms] at hml
      have hol := hpo.len
      generalize hpf : prows.flatten = pf at hpo hol
      generalize prows.length = pn at *
      cases hpo with
      | mk q1 q2 q3 => exact .mk hml (by omega) q3
      | nil =>
        have : ms = [] := List.length_eq_zero_iff.1 (by omega)
        rw [this]; exact .nil
    rw [phK_all hp]
    simp only [← hms] at hml ⊢
    simp only at m1
    have hms2 : (markK (MK i) 0 prows.length prows).flatten = ms := hms.symm
    generalize hpnn : prows.length = pn at *
    rw [show decide ((i : Int) < (ps.length : Int)) = true from decide_eq_true (by omega)]
    refine GO ?_
    refine VC.loop (α := Nat × Value × List Value × List Atom) (Γf := fun s => [(0, .slice (some ⟨b, o, none⟩) ps.length lc), (3, .slice ma i mc), (6, vi i), (7, s.2.1), (8, vi s.1)]) (Hf := fun s => [L, slA (.slice ma i mc) ws lsp2, D, slA s.2.1 (ms ++ (bkR (MB i) ZR 0 s.1).flatten) s.2.2.1, s.2.2.2, ((phK MK 0 ps.length ps).drop (i + 1)).flatMap owR])
      (I := fun s => s.1 ≤ 8 ∧ IsSl 1 s.2.1 (pn + s.1) (ms ++ (bkR (MB i) ZR 0 s.1).flatten) s.2.2.1 ∧ Kept 1 s.2.2.2 pv pn ms s.2.1 (pn + s.1)) (μ := fun s => 8 - s.1) (0, pv, psp, []) ⟨Nat.zero_le _, by simpa [bkR] using hpo2, Kept.start hpo2⟩ (by exact SUx)
      (Imp.perm (by simp [bkR])) ?_
    rintro ⟨k, xv, xsp, E⟩ ⟨hk, hxv, hE⟩
    simp only at hk hxv hE
    obtain ⟨xa, xc, rfl⟩ := hxv.form
    by_cases h16 : k < 8
    · refine GO ?_
      simp only [show (k : Int) < 8 by omega, decide_true]
      refine GO ?_
      refine st_callP (beh_spec i k (by omega) (by omega)) (by rfl) ?_
      refine GO ?_
      refine st_callP (mark_spec (behZ i k) (by unfold behZ; omega) (by unfold behZ; omega)) (by rfl) ?_
      refine GO ?_
      have hrow : (bkR (MB i) ZR 0 (k + 1)).flatten = (bkR (MB i) ZR 0 k).flatten ++ ZR.set 0 (.string (markZ (behZ i k))) := by rw [bkR_succ, hMBe]; simp
      refine st_bslice (out := ZR.set 0 (.string (markZ (behZ i k)))) (by rfl) (by rw [hZR]; rfl) (fun q3 => ?_)
      have hsucc := hrow
      refine st_append2 (k := pn + k) (m := 1) (xs := ms ++ (bkR (MB i) ZR 0 k).flatten) (sp := xsp) (ys := ZR.set 0 (.string (markZ (behZ i k)))) (by rfl) (by rfl) hxv (by exact TKx) (by rfl) ?_ (by rw [hZR]; rfl) (by rw [hZR]; rfl) (by rfl) (by decide) (by omega) ?_ ?_
      · exact ⟨by rw [List.length_set, hZl], fun a ha => by simp only [List.flatten_cons, List.mem_append]; exact .inl ha⟩
      · intro b3 o3 c3 sp' hxe hsl'
        rw [List.append_assoc, ← hsucc] at hsl' ⊢
        simp only [Value.slice.injEq, true_and] at hxe
        obtain ⟨rfl, rfl⟩ := hxe
        refine GO ?_
        refine ⟨(k + 1, .slice (some ⟨b3, o3, none⟩) (pn + k + 1) xc, sp', E), ⟨by show k + 1 ≤ 8; omega, hsl', ?_⟩, by simp only; omega, by exact SUx, by exact IMx⟩
        rcases hE with h | ⟨h1, b4, o4, c4, h2, h3⟩
        · exact .inl h
        · simp only [Value.slice.injEq, Option.some.injEq, Addr.mk.injEq, and_true] at h3
          obtain ⟨⟨rfl, rfl⟩, _, rfl⟩ := h3
          exact .inr ⟨h1, _, _, _, h2, rfl⟩
      · intro sv' sp' hsl'
        rw [List.append_assoc, ← hsucc] at hsl' ⊢
        obtain ⟨a', c', rfl⟩ := hsl'.form
        refine GO ?_
        exact ⟨(k + 1, .slice a' (pn + k + 1) c', sp', slA (.slice xa (pn + k) xc) (ms ++ (bkR (MB i) ZR 0 k).flatten) xsp ++ E), ⟨by show k + 1 ≤ 8; omega, hsl', hE.moved hxv hml (by omega)⟩, by simp only; omega, by exact SUx, Imp.cut (M := [L, slA (.slice ma i mc) ws lsp2, D, slA (.slice a' (pn + k + 1) c') (ms ++ (bkR (MB i) ZR 0 (k + 1)).flatten) sp', slA (.slice xa (pn + k) xc) (ms ++ (bkR (MB i) ZR 0 k).flatten) xsp, E, ((phK MK 0 ps.length ps).drop (i + 1)).flatMap owR]) (by exact IMx) (Imp.perm (by simp))⟩
    · obtain rfl : k = 8 := by omega
      refine GO ?_
      refine st_bslice (out := [.slice xa (pn + 8) xc]) (by rfl) (by rfl) (fun q3 => ?_)
      refine GO ?_
      refine st_append (k := i) (m := 1) (xs := ws) (sp := lsp2) (ys := [.slice xa (pn + 8) xc]) (by rfl) (by rfl) hl2 (by exact TKx) (by rfl) ?_ rfl (by rfl) (by rfl) (by decide) (by omega) (fun sv' sp' hsl' => ?_)
      · exact ⟨rfl, fun a ha => by simp only [List.flatten_cons, List.mem_append]; exact .inl ha⟩
      obtain ⟨a', c', rfl⟩ := hsl'.form
      refine GO ?_
      have hdone := hE.done hxv hml (by omega)
      have hx16 : RdRow 1 (slA (.slice xa (pn + 8) xc) (ms ++ (bkR (MB i) ZR 0 8).flatten) xsp ++ E) (.slice xa (pn + 8) xc) (pn + 8) (ms ++ (bkR (MB i) ZR 0 8).flatten) := hxv.rd.mono (fun a ha => List.mem_append_left _ ha)
      refine ⟨(i + 1, .slice a' (i + 1) c', ws ++ [.slice xa (pn + 8) xc], sp', D ++ (slA (.slice xa (pn + 8) xc) (ms ++ (bkR (MB i) ZR 0 8).flatten) xsp ++ E)), ⟨by show i + 1 ≤ ps.length; omega, by simp [hws], hsl', fun j p hj hpj => ?_⟩, by simp only; omega, by exact SUx, Imp.cut (M := [L, slA (.slice a' (i + 1) c') (ws ++ [.slice xa (pn + 8) xc]) sp', D, slA (.slice xa (pn + 8) xc) (ms ++ (bkR (MB i) ZR 0 8).flatten) xsp, E, ((phK MK 0 ps.length ps).drop (i + 1)).flatMap owR]) (by exact IMx) (Imp.perm (by simp))⟩
      simp only at hj ⊢
      by_cases hji : j < i
      · obtain ⟨d1, yv, d2, d3⟩ := hD j p hji hpj
        exact ⟨d1.mono (fun a ha => List.mem_append_left _ ha), yv, by rw [List.getElem?_append_left (by omega)]; exact d2, d3.mono (fun a ha => List.mem_append_left _ ha)⟩
      · obtain rfl : j = i := by omega
        rw [hp] at hpj
        cases hpj
        simp only [hpnn, hms2]
        exact ⟨hdone.mono (fun a ha => List.mem_append_right _ ha), _, by rw [List.getElem?_append_right (by omega), hws]; simp, hx16.mono (fun a ha => List.mem_append_right _ ha)⟩
  obtain rfl : i = ps.length := by omega
  have hrd2 := hl2.rd
  generalize slA (.slice ma ps.length mc) ws lsp2 = L2 at hrd2 ⊢
  generalize ((phK MK 0 ps.length ps).drop ps.length).flatMap owR = D0
  rw [show decide ((ps.length : Int) < (ps.length : Int)) = false from decide_eq_false (by omega)]
  refine GO ?_
  refine VC.loop (α := Nat) (Γf := fun i => [(0, .slice la ps.length lc), (3, .slice ma ps.length mc), (9, vi i)]) (Hf := fun i => [L, L2, D]) (I := fun i => i ≤ ps.length) (μ := fun i => ps.length - i) 0 (Nat.zero_le _) (by exact SUx) (by exact IMx) ?_
  intro i hi
  refine GO ?_
  by_cases hlt : i < ps.length
  rotate_left
  · skip
    rw [show decide ((i : Int) < (ps.length : Int)) = false from decide_eq_false (by omega)]
    refine GO ?_
    exact endQ_mk (Post := []) (.inr rfl) (.tmp (by rfl) .nil) ⟨rfl, rfl⟩ Imp.nil
  obtain ⟨⟨pv, prows, psp⟩, hp⟩ : ∃ p, ps[i]? = some p := ⟨ps[i], List.getElem?_eq_getElem hlt⟩
  obtain ⟨hpo, hpl, hpn⟩ := hps _ (List.mem_of_getElem? hp)
  obtain ⟨d1, xv, d2, d3⟩ := hD i _ hlt hp
  simp only at hpl hpn d1 d3
  obtain ⟨b, o, c, hve, m1⟩ := (show RdRow 1 L (.slice la ps.length lc) ps.length (ps.map fun q => q.v) from hrd).cell hp
  simp only [Value.slice.injEq, true_and] at hve
  obtain ⟨rfl, rfl⟩ := hve
  have hwm : RdRow 1 L2 (.slice ma ws.length mc) ws.length (ws.map fun q => q) := by rw [List.map_id', hws]; exact hrd2
  obtain ⟨b2, o2, c2, hve2, m2⟩ := hwm.cell d2
  simp only [Value.slice.injEq, true_and] at hve2
  obtain ⟨rfl, rfl⟩ := hve2
  obtain ⟨pa, pc, rfl⟩ := d1.form
  obtain ⟨xa, xc, rfl⟩ := d3.form
  simp only at m1
  have hml := rows_len (markK_all (mk := MK i) (f := 0) (k := prows.length) hpl)
  rw [markK_len] at hml
  have hc1 : ∀ k, k < prows.length → (markK (MK i) 0 prows.length prows).flatten[k * 1 + 0]? = some (.string (markZ (spotZ i k))) := fun k hk => by rw [mark_cell (by omega) hpl hk hk, hMKe]
  have hc2 : ∀ k, k < 8 → ((markK (MK i) 0 prows.length prows).flatten ++ (bkR (MB i) ZR 0 8).flatten)[(prows.length + k) * 1 + 0]? = some (.string (markZ (behZ i k))) := fun k hk => by
    rw [List.getElem?_append_right (by rw [hml, Nat.add_mul]; omega), hml, show (prows.length + k) * 1 + 0 - prows.length * 1 = k * 1 + 0 by rw [Nat.add_mul]; omega]
    rw [flat_get (by omega) (fun r hr => by rw [bkR_all r hr, hZl]) (bkR_get hk), List.getElem?_set_self (by omega), hMBe]
  have hc3 : ∀ k, k < prows.length → ((markK (MK i) 0 prows.length prows).flatten ++ (bkR (MB i) ZR 0 8).flatten)[k * 1 + 0]? = some (.string (markZ (spotZ i k))) := fun k hk => by
    have := hc1 k hk
    rw [List.getElem?_append_left (List.getElem?_eq_some_iff.1 this).1]
    exact this
  generalize (markK (MK i) 0 prows.length prows).flatten ++ (bkR (MB i) ZR 0 8).flatten = ms2 at d3 hc2 hc3
  generalize (markK (MK i) 0 prows.length prows).flatten = ms at d1 hc1
  generalize hpnn : prows.length = pn at *
  rw [show decide ((i : Int) < (ps.length : Int)) = true from decide_eq_true (by omega)]
  refine GO ?_
  refine VC.loop (α := Nat) (Γf := fun k => [(0, .slice (some ⟨b, o, none⟩) ps.length lc), (3, .slice (some ⟨b2, o2, none⟩) ps.length mc), (9, vi i), (10, vi pn), (11, vi k)]) (Hf := fun i => [L, L2, D]) (I := fun k => k ≤ pn) (μ := fun k => pn - k) 0 (Nat.zero_le _) (by exact SUx) (by exact IMx) ?_
  intro k hk
  refine GO ?_
  by_cases hlk : k < pn
  · obtain ⟨b3, o3, c3, hve3, e1⟩ := d1.part (hc1 k hlk) (by omega)
    obtain ⟨b4, o4, c4, hve4, e2⟩ := d3.part (hc3 k hlk) (by omega)
    simp only [Value.slice.injEq, true_and] at hve3 hve4
    obtain ⟨rfl, rfl⟩ := hve3
    obtain ⟨rfl, rfl⟩ := hve4
    rw [show decide ((k : Int) < (pn : Int)) = true from decide_eq_true (by omega)]
    refine GO ?_
    rw [Nat.mul_one, Nat.add_zero] at e1 e2
    refine VC.seq (VC.free 26 (fun i' v B => match i' with
      | 0 => v = .slice (some ⟨b, o, none⟩) ps.length lc ∧ B = []
      | 1 => v = vi i ∧ B = []
      | 2 => v = .pointer (some ⟨b, o + i, none⟩) ∧ B = []
      | 3 => v = .slice (some ⟨b3, o3, none⟩) pn pc ∧ B = []
      | 4 => v = vi k ∧ B = []
      | 5 => v = .pointer (some ⟨b3, o3 + k, none⟩) ∧ B = []
      | 6 => v = .string (markZ (spotZ i k)) ∧ B = []
      | 7 => v = vi i ∧ B = []
      | 8 => v = vi k ∧ B = []
      | 9 => v = vi (spotZ i k) ∧ B = []
      | 10 => v = .string (markZ (spotZ i k)) ∧ B = []
      | 11 => v = .bool false ∧ B = []
      | 12 => v = .bool false ∧ B = []
      | 13 => v = .slice (some ⟨b2, o2, none⟩) ps.length mc ∧ B = []
      | 14 => v = vi i ∧ B = []
      | 15 => v = .pointer (some ⟨b2, o2 + i, none⟩) ∧ B = []
      | 16 => v = .slice (some ⟨b4, o4, none⟩) (pn + 8) xc ∧ B = []
      | 17 => v = vi k ∧ B = []
      | 18 => v = .pointer (some ⟨b4, o4 + k, none⟩) ∧ B = []
      | 19 => v = .string (markZ (spotZ i k)) ∧ B = []
      | 20 => v = vi i ∧ B = []
      | 21 => v = vi k ∧ B = []
      | 22 => v = vi (spotZ i k) ∧ B = []
      | 23 => v = .string (markZ (spotZ i k)) ∧ B = []
      | 24 => v = .bool false ∧ B = []
      | 25 => v = .bool false ∧ B = []
      | _ => True) (by decide) (by decide) (by decide) ?_ ?_)
    · intro i' hi' vv hg Γ' hh hkp
      match i', hi' with
      | 0, _ =>
        show VO _ _ [⟨some 79, none, .mv (.tmp 0)⟩] _ _ _ _
        exact st_mv (hkp 0 _ rfl (by decide)) (VO.nil ⟨_, [], rfl, ⟨rfl, rfl⟩, Imp.perm (by simp)⟩)
      | 1, _ =>
        show VO _ _ [⟨some 80, none, .mv (.tmp 9)⟩] _ _ _ _
        exact st_mv (hkp 9 _ rfl (by decide)) (VO.nil ⟨_, [], rfl, ⟨rfl, rfl⟩, Imp.perm (by simp)⟩)
      | 2, _ =>
        show VO _ _ [⟨some 81, none, .idxL 1 (.tmp 79) (.tmp 80)⟩] _ _ _ _
        have e := hh 0 (by decide) 79 rfl
        rw [(hg 0 (by decide)).1] at e
        have e2 := hh 1 (by decide) 80 rfl
        rw [(hg 1 (by decide)).1] at e2
        exact st_idxL (o' := o + i) e e2 ⟨by omega, by omega⟩ (by simp) (VO.nil ⟨_, [], rfl, ⟨rfl, rfl⟩, Imp.perm (by simp)⟩)
      | 3, _ =>
        show VO _ _ [⟨some 82, none, .load1 (.tmp 81)⟩] _ _ _ _
        have e := hh 2 (by decide) 81 rfl
        rw [(hg 2 (by decide)).1] at e
        exact st_load1 e (by (focus ((repeat (first | (apply Has.among; assumption) | apply Has.there)); done))) (VO.nil ⟨_, [], rfl, ⟨rfl, rfl⟩, Imp.perm (by simp)⟩)
      | 4, _ =>
        show VO _ _ [⟨some 83, none, .mv (.tmp 11)⟩] _ _ _ _
        exact st_mv (hkp 11 _ rfl (by decide)) (VO.nil ⟨_, [], rfl, ⟨rfl, rfl⟩, Imp.perm (by simp)⟩)
      | 5, _ =>
        show VO _ _ [⟨some 84, none, .idxL 1 (.tmp 82) (.tmp 83)⟩] _ _ _ _
        have e := hh 3 (by decide) 82 rfl
        rw [(hg 3 (by decide)).1] at e
        have e2 := hh 4 (by decide) 83 rfl
        rw [(hg 4 (by decide)).1] at e2
        exact st_idxL (o' := o3 + k) e e2 ⟨by omega, by omega⟩ (by simp) (VO.nil ⟨_, [], rfl, ⟨rfl, rfl⟩, Imp.perm (by simp)⟩)
      | 6, _ =>
        show VO _ _ [⟨some 85, none, .load1 (.tmp 84)⟩] _ _ _ _
        have e := hh 5 (by decide) 84 rfl
        rw [(hg 5 (by decide)).1] at e
        exact st_load1 e (by (focus ((repeat (first | (apply Has.among; assumption) | apply Has.there)); done))) (VO.nil ⟨_, [], rfl, ⟨rfl, rfl⟩, Imp.perm (by simp)⟩)
      | 7, _ =>
        show VO _ _ [⟨some 86, none, .mv (.tmp 9)⟩] _ _ _ _
        exact st_mv (hkp 9 _ rfl (by decide)) (VO.nil ⟨_, [], rfl, ⟨rfl, rfl⟩, Imp.perm (by simp)⟩)
      | 8, _ =>
        show VO _ _ [⟨some 87, none, .mv (.tmp 11)⟩] _ _ _ _
        exact st_mv (hkp 11 _ rfl (by decide)) (VO.nil ⟨_, [], rfl, ⟨rfl, rfl⟩, Imp.perm (by simp)⟩)
      | 9, _ =>
        show VO _ _ [⟨some 88, none, .call 100 [.tmp 86, .tmp 87]⟩] _ _ _ _
        have e := hh 7 (by decide) 86 rfl
        rw [(hg 7 (by decide)).1] at e
        have e2 := hh 8 (by decide) 87 rfl
        rw [(hg 8 (by decide)).1] at e2
        exact st_callP (spot_spec i k (by omega) (by omega)) (by simp only [V.evs, V.ev, e, e2]) (VO.nil ⟨_, [], rfl, ⟨rfl, rfl⟩, Imp.perm (by simp)⟩)
      | 10, _ =>
        show VO _ _ [⟨some 89, none, .call 102 [.tmp 88]⟩] _ _ _ _
        have e := hh 9 (by decide) 88 rfl
        rw [(hg 9 (by decide)).1] at e
        exact st_callP (mark_spec (spotZ i k) (by unfold spotZ; omega) (by unfold spotZ; omega)) (by simp only [V.evs, V.ev, e]) (VO.nil ⟨_, [], rfl, ⟨rfl, rfl⟩, Imp.perm (by simp)⟩)
      | 11, _ =>
        show VO _ _ [⟨some 90, none, .bin .neq (.tmp 85) (.tmp 89)⟩] _ _ _ _
        have e := hh 6 (by decide) 85 rfl
        rw [(hg 6 (by decide)).1] at e
        have e2 := hh 10 (by decide) 89 rfl
        rw [(hg 10 (by decide)).1] at e2
        exact st_bin e e2 (neq_self _) (VO.nil ⟨_, [], rfl, ⟨rfl, rfl⟩, Imp.perm (by simp)⟩)
      | 12, _ =>
        show VO _ _ [⟨some 91, none, .mv (.tmp 90)⟩] _ _ _ _
        have e := hh 11 (by decide) 90 rfl
        rw [(hg 11 (by decide)).1] at e
        exact st_mv e (VO.nil ⟨_, [], rfl, ⟨rfl, rfl⟩, Imp.perm (by simp)⟩)
      | 13, _ =>
        show VO _ _ [⟨some 92, some (91, false), .mv (.tmp 3)⟩] _ _ _ _
        have e91 := hh 12 (by decide) 91 rfl
        rw [(hg 12 (by decide)).1] at e91
        exact st_gt e91 (st_mv (hkp 3 _ rfl (by decide)) (VO.nil ⟨_, [], rfl, ⟨rfl, rfl⟩, Imp.perm (by simp)⟩))
      | 14, _ =>
        show VO _ _ [⟨some 93, some (91, false), .mv (.tmp 9)⟩] _ _ _ _
        have e91 := hh 12 (by decide) 91 rfl
        rw [(hg 12 (by decide)).1] at e91
        exact st_gt e91 (st_mv (hkp 9 _ rfl (by decide)) (VO.nil ⟨_, [], rfl, ⟨rfl, rfl⟩, Imp.perm (by simp)⟩))
      | 15, _ =>
        show VO _ _ [⟨some 94, some (91, false), .idxL 1 (.tmp 92) (.tmp 93)⟩] _ _ _ _
        have e91 := hh 12 (by decide) 91 rfl
        rw [(hg 12 (by decide)).1] at e91
        have e := hh 13 (by decide) 92 rfl
        rw [(hg 13 (by decide)).1] at e
        have e2 := hh 14 (by decide) 93 rfl
        rw [(hg 14 (by decide)).1] at e2
        exact st_gt e91 (st_idxL (o' := o2 + i) e e2 ⟨by omega, by omega⟩ (by simp) (VO.nil ⟨_, [], rfl, ⟨rfl, rfl⟩, Imp.perm (by simp)⟩))
      | 16, _ =>
        show VO _ _ [⟨some 95, some (91, false), .load1 (.tmp 94)⟩] _ _ _ _
        have e91 := hh 12 (by decide) 91 rfl
        rw [(hg 12 (by decide)).1] at e91
        have e := hh 15 (by decide) 94 rfl
        rw [(hg 15 (by decide)).1] at e
        exact st_gt e91 (st_load1 e (by (focus ((repeat (first | (apply Has.among; assumption) | apply Has.there)); done))) (VO.nil ⟨_, [], rfl, ⟨rfl, rfl⟩, Imp.perm (by simp)⟩))
      | 17, _ =>
        show VO _ _ [⟨some 96, some (91, false), .mv (.tmp 11)⟩] _ _ _ _
        have e91 := hh 12 (by decide) 91 rfl
        rw [(hg 12 (by decide)).1] at e91
        exact st_gt e91 (st_mv (hkp 11 _ rfl (by decide)) (VO.nil ⟨_, [], rfl, ⟨rfl, rfl⟩, Imp.perm (by simp)⟩))
      | 18, _ =>
        show VO _ _ [⟨some 97, some (91, false), .idxL 1 (.tmp 95) (.tmp 96)⟩] _ _ _ _
        have e91 := hh 12 (by decide) 91 rfl
        rw [(hg 12 (by decide)).1] at e91
        have e := hh 16 (by decide) 95 rfl
        rw [(hg 16 (by decide)).1] at e
        have e2 := hh 17 (by decide) 96 rfl
        rw [(hg 17 (by decide)).1] at e2
        exact st_gt e91 (st_idxL (o' := o4 + k) e e2 ⟨by omega, by omega⟩ (by simp) (VO.nil ⟨_, [], rfl, ⟨rfl, rfl⟩, Imp.perm (by simp)⟩))
      | 19, _ =>
        show VO _ _ [⟨some 98, some (91, false), .load1 (.tmp 97)⟩] _ _ _ _
        have e91 := hh 12 (by decide) 91 rfl
        rw [(hg 12 (by decide)).1] at e91
        have e := hh 18 (by decide) 97 rfl
        rw [(hg 18 (by decide)).1] at e
        exact st_gt e91 (st_load1 e (by (focus ((repeat (first | (apply Has.among; assumption) | apply Has.there)); done))) (VO.nil ⟨_, [], rfl, ⟨rfl, rfl⟩, Imp.perm (by simp)⟩))
      | 20, _ =>
        show VO _ _ [⟨some 99, some (91, false), .mv (.tmp 9)⟩] _ _ _ _
        have e91 := hh 12 (by decide) 91 rfl
        rw [(hg 12 (by decide)).1] at e91
        exact st_gt e91 (st_mv (hkp 9 _ rfl (by decide)) (VO.nil ⟨_, [], rfl, ⟨rfl, rfl⟩, Imp.perm (by simp)⟩))
      | 21, _ =>
        show VO _ _ [⟨some 100, some (91, false), .mv (.tmp 11)⟩] _ _ _ _
        have e91 := hh 12 (by decide) 91 rfl
        rw [(hg 12 (by decide)).1] at e91
        exact st_gt e91 (st_mv (hkp 11 _ rfl (by decide)) (VO.nil ⟨_, [], rfl, ⟨rfl, rfl⟩, Imp.perm (by simp)⟩))
      | 22, _ =>
        show VO _ _ [⟨some 101, some (91, false), .call 100 [.tmp 99, .tmp 100]⟩] _ _ _ _
        have e91 := hh 12 (by decide) 91 rfl
        rw [(hg 12 (by decide)).1] at e91
        have e := hh 20 (by decide) 99 rfl
        rw [(hg 20 (by decide)).1] at e
        have e2 := hh 21 (by decide) 100 rfl
        rw [(hg 21 (by decide)).1] at e2
        exact st_gt e91 (st_callP (spot_spec i k (by omega) (by omega)) (by simp only [V.evs, V.ev, e, e2]) (VO.nil ⟨_, [], rfl, ⟨rfl, rfl⟩, Imp.perm (by simp)⟩))
      | 23, _ =>
        show VO _ _ [⟨some 102, some (91, false), .call 102 [.tmp 101]⟩] _ _ _ _
        have e91 := hh 12 (by decide) 91 rfl
        rw [(hg 12 (by decide)).1] at e91
        have e := hh 22 (by decide) 101 rfl
        rw [(hg 22 (by decide)).1] at e
        exact st_gt e91 (st_callP (mark_spec (spotZ i k) (by unfold spotZ; omega) (by unfold spotZ; omega)) (by simp only [V.evs, V.ev, e]) (VO.nil ⟨_, [], rfl, ⟨rfl, rfl⟩, Imp.perm (by simp)⟩))
      | 24, _ =>
        show VO _ _ [⟨some 103, some (91, false), .bin .neq (.tmp 98) (.tmp 102)⟩] _ _ _ _
        have e91 := hh 12 (by decide) 91 rfl
        rw [(hg 12 (by decide)).1] at e91
        have e := hh 19 (by decide) 98 rfl
        rw [(hg 19 (by decide)).1] at e
        have e2 := hh 23 (by decide) 102 rfl
        rw [(hg 23 (by decide)).1] at e2
        exact st_gt e91 (st_bin e e2 (neq_self _) (VO.nil ⟨_, [], rfl, ⟨rfl, rfl⟩, Imp.perm (by simp)⟩))
      | 25, _ =>
        show VO _ _ [⟨some 104, none, .pick (.tmp 91) (.const (.bool true)) (.tmp 103)⟩] _ _ _ _
        have e91 := hh 12 (by decide) 91 rfl
        rw [(hg 12 (by decide)).1] at e91
        have e := hh 24 (by decide) 103 rfl
        rw [(hg 24 (by decide)).1] at e
        exact st_pick_f e91 e (VO.nil ⟨_, [], rfl, ⟨rfl, rfl⟩, Imp.perm (by simp)⟩)
      | n + 26, h => exact absurd h (by omega)
    · intro vv hg Γ' hh hkp
      show VO _ _ _ _ [(vv 0).2, (vv 1).2, (vv 2).2, (vv 3).2, (vv 4).2, (vv 5).2, (vv 6).2, (vv 7).2, (vv 8).2, (vv 9).2, (vv 10).2, (vv 11).2, (vv 12).2, (vv 13).2, (vv 14).2, (vv 15).2, (vv 16).2, (vv 17).2, (vv 18).2, (vv 19).2, (vv 20).2, (vv 21).2, (vv 22).2, (vv 23).2, (vv 24).2, (vv 25).2, L, L2, D] _ _
      refine VO.imp (H' := [L, L2, D]) (by exact IMx) ?_
      have s104 := hh 25 (by decide) 104 rfl
      rw [(hg 25 (by omega)).1] at s104
      refine VO.sub (Δ := [(0, .slice (some ⟨b, o, none⟩) ps.length lc), (3, .slice (some ⟨b2, o2, none⟩) ps.length mc), (9, vi i), (10, vi pn), (11, vi k), (104, .bool false)]) (Sub.cons (hkp 0 _ rfl (by decide)) (Sub.cons (hkp 3 _ rfl (by decide)) (Sub.cons (hkp 9 _ rfl (by decide)) (Sub.cons (hkp 10 _ rfl (by decide)) (Sub.cons (hkp 11 _ rfl (by decide)) (Sub.cons s104 Sub.nil)))))) ?_
      refine GO ?_
      exact ⟨k + 1, by omega, by omega, by exact SUx, by exact IMx⟩
  rw [show decide ((k : Int) < (pn : Int)) = false from decide_eq_false (by omega)]
  refine GO ?_
  refine VC.loop (α := Nat) (Γf := fun k => [(0, .slice (some ⟨b, o, none⟩) ps.length lc), (3, .slice (some ⟨b2, o2, none⟩) ps.length mc), (9, vi i), (10, vi pn), (12, vi k)]) (Hf := fun _ => [L, L2, D]) (I := fun k => k ≤ 8) (μ := fun k => 8 - k) 0 (Nat.zero_le _) (by exact SUx) (by exact IMx) ?_
  intro k hk
  by_cases h16 : k < 8
  · refine GO ?_
    simp only [show (k : Int) < 8 by omega, decide_true]
    obtain ⟨b4, o4, c4, hve4, e1⟩ := d3.part (hc2 k h16) (by omega)
    rw [Nat.mul_one, Nat.add_zero] at e1
    simp only [Value.slice.injEq, true_and] at hve4
    obtain ⟨rfl, rfl⟩ := hve4
    refine GO ?_
    refine VC.seq_draws (α := Unit) (fun _ => [(0, .slice (some ⟨b, o, none⟩) ps.length lc), (3, .slice (some ⟨b2, o2, none⟩) ps.length mc), (9, vi i), (10, vi pn), (12, vi k), (122, .bool false)]) (fun _ => [L, L2, D]) (fun _ => True) ⟨?_, ?_, ?_, ?_, ?_, ?_, trivial⟩ (fun _ _ => ?_)
    all_goals first
      | (refine GO ?_
         refine st_callP (beh_spec i k (by omega) (by omega)) (by rfl) ?_
         refine GO ?_
         refine st_callP (mark_spec (behZ i k) (by unfold behZ; omega) (by unfold behZ; omega)) (by rfl) ?_
         refine GO ?_
         (try simp only [eq_self, decide_true, Bool.not_true])
         (try refine GO ?_)
         exact ⟨(), trivial, by exact SUx, by exact IMx⟩)
      | skip
    refine GO ?_
    exact ⟨k + 1, by omega, by omega, by exact SUx, by exact IMx⟩
  · obtain rfl : k = 8 := by omega
    refine GO ?_
    exact ⟨i + 1, by omega, by omega, by exact SUx, by exact IMx⟩
set_option maxHeartbeats 3200000
theorem ownTokens_nil : Fun Tryz.prog 61 [.slice none 0 0] [] (fun v Post => v = .bool true ∧ Post = []) := by
  refine Fun.intro low61 (by simp [n61]) ?_
  refine GO ?_
  refine VC.loop (α := Unit) (Γf := fun _ => [(0, .slice none 0 0), (3, .slice none 0 0), (4, vi 0)]) (Hf := fun _ => []) (I := fun _ => True) (μ := fun _ => 0) () trivial (by exact SUx) Imp.nil ?_
  intro _ _
  refine GO ?_
  refine VC.loop (α := Unit) (Γf := fun _ => [(0, .slice none 0 0), (3, .slice none 0 0), (6, vi 0)]) (Hf := fun _ => []) (I := fun _ => True) (μ := fun _ => 0) () trivial (by exact SUx) Imp.nil ?_
  intro _ _
  refine GO ?_
  refine VC.loop (α := Unit) (Γf := fun _ => [(0, .slice none 0 0), (3, .slice none 0 0), (9, vi 0)]) (Hf := fun _ => []) (I := fun _ => True) (μ := fun _ => 0) () trivial (by exact SUx) Imp.nil ?_
  intro _ _
  refine GO ?_
  exact endQ_mk (Post := []) (.inr rfl) (.tmp (by rfl) .nil) ⟨rfl, rfl⟩ Imp.nil
theorem Texts_spec (p : Nat) (tv lv nv xv : Value) (k : Nat) (vs sp : List Value) (hsl : IsSl 1 xv k vs sp) (hk : k ≤ 274877906944) (a : Option Addr) (m c : Nat) :
    Fun Tryz.prog 38 [ptr0 p, .slice a m c] [cellsAt p 0 [tv, lv, nv, xv], slA xv vs sp] (fun v Post => v = .tuple #[] ∧ ∃ xv' sp', IsSl 1 xv' (k + 1) (vs ++ [.slice a m c]) sp' ∧ Post = [cellsAt p 0 [tv, lv, nv, xv'], slA xv' (vs ++ [.slice a m c]) sp']) := by
  obtain ⟨xa, xc, rfl⟩ := hsl.form
  refine Fun.intro low38 (by simp [n38]) ?_
  refine GOH ?_
  refine st_bslice (out := [.slice a m c]) (by rfl) (by rfl) (fun r => ?_)
  refine st_append (k := k) (m := 1) (xs := vs) (sp := sp) (ys := [.slice a m c]) (by rfl) (by rfl) hsl (by exact TKx) (by rfl) ?_ rfl (by rfl) (by rfl) (by decide) (by omega) (fun sv' sp' hsl' => ?_)
  · exact ⟨rfl, fun a ha => by simp only [List.flatten_cons, List.mem_append]; exact .inl ha⟩
  obtain ⟨xa', xc', rfl⟩ := hsl'.form
  refine GOH ?_
  exact endQ_mk (Post := [cellsAt p 0 [tv, lv, nv, .slice xa' (k + 1) xc'], slA (.slice xa' (k + 1) xc') (vs ++ [.slice a m c]) sp']) (.inl rfl) .nil ⟨rfl, _, _, hsl', rfl⟩ (by exact IMx)
theorem Own_spec (p : Nat) (lv nv xv : Value) (ls ns xs : List OwnR) (lsp nsp xsp : List Value) (hl : IsSl 1 lv ls.length (ls.map (·.v)) lsp) (hls : ∀ q ∈ ls, OkR 5 q) (hln : ls.length ≤ 1073741824) (hn : IsSl 1 nv ns.length (ns.map (·.v)) nsp) (hns : ∀ q ∈ ns, OkR 11 q) (hnn : ns.length ≤ 1073741824)
    (hx : IsSl 1 xv xs.length (xs.map (·.v)) xsp) (hxs : ∀ q ∈ xs, OkR 1 q) (hxn : xs.length ≤ 1073741824) :
    Fun Tryz.prog 20 [ptr0 p] [cellsAt p 0 [.slice none 0 0, lv, nv, xv], slA lv (ls.map (·.v)) lsp, ls.flatMap owR, slA nv (ns.map (·.v)) nsp, ns.flatMap owR, slA xv (xs.map (·.v)) xsp, xs.flatMap owR] (fun v Post => v = .bool true ∧ Post = []) := by
  have h1 := ownLits_spec lv ls lsp hl hls hln
  have h2 := ownNodes_spec nv ns nsp hn hns hnn
  have h3 := ownNames_spec xv xs xsp hx hxs hxn
  obtain ⟨la, lc, rfl⟩ := hl.form
  obtain ⟨na, nc, rfl⟩ := hn.form
  obtain ⟨xa, xc, rfl⟩ := hx.form
  refine Fun.intro low20 (by simp [n20]) ?_
  generalize slA (.slice la ls.length lc) (ls.map (·.v)) lsp = A1 at h1 ⊢
  generalize ls.flatMap owR = A2 at h1 ⊢
  generalize slA (.slice na ns.length nc) (ns.map (·.v)) nsp = A3 at h2 ⊢
  generalize ns.flatMap owR = A4 at h2 ⊢
  generalize slA (.slice xa xs.length xc) (xs.map (·.v)) xsp = A5 at h3 ⊢
  generalize xs.flatMap owR = A6 at h3 ⊢
  refine GOH ?_
  refine st_call ownTokens_nil (by rfl) (by exact SPx) (fun v Post hv => ?_)
  obtain ⟨rfl, rfl⟩ := hv
  simp only [CNx]
  refine GOH ?_
  refine st_call h1 (by rfl) (by exact SPx) (fun v Post hv => ?_)
  obtain ⟨rfl, rfl⟩ := hv
  simp only [CNx]
  refine GOH ?_
  refine st_call h2 (by rfl) (by exact SPx) (fun v Post hv => ?_)
  obtain ⟨rfl, rfl⟩ := hv
  simp only [CNx]
  refine GOH ?_
  refine st_call h3 (by rfl) (by exact SPx) (fun v Post hv => ?_)
  obtain ⟨rfl, rfl⟩ := hv
  simp only [CNx]
  refine GOH ?_
  exact endQ_mk (Post := []) (.inr rfl) (.tmp (by rfl) .nil) ⟨rfl, rfl⟩ Imp.nil
open Go Go.V Go.Shelf
shelf_lay Lays.n217 Nm 217 at Tryz as Tryz.sl217
shelf_lay Lays.n219 Nm 219 at Tryz as Tryz.sl219
theorem ixb_spec (s : ByteArray) (c : Nat) (hc : c < 256) : Fun Tryz.prog 143 [.string s, cv c] [] (fun v Post => v = vi (ixN (bytesN s) c) ∧ Post = []) := by
  refine Fun.of_calls (by kernel_rfl) (fun w => (Any.stringslite_IndexByte Tryz.sl217 s c w).mono ?_)
  rintro e w' ⟨rfl, rfl⟩
  refine ⟨_, rfl, ?_, rfl⟩
  have hx : ((c : Int).toNat.toUInt8).toNat = c := by
    rw [Int.toNat_natCast]
    exact Nat.mod_eq_of_lt hc
  rw [ix_eq, hx]; rfl
theorem ixs_spec (s : ByteArray) : Fun Tryz.prog 155 [.string s, .string ⟨#[58]⟩] [] (fun v Post => v = vi (ixN (bytesN s) 58) ∧ Post = []) := by
  refine Fun.of_calls (by kernel_rfl) (fun w => (Any.stringslite_Index_one Tryz.sl219 s 58 w).mono ?_)
  rintro e w' ⟨rfl, rfl⟩
  exact ⟨_, rfl, by rw [ix_eq]; rfl, rfl⟩
theorem letter_spec (c : Nat) (hc : c < 256) : Fun Tryz.prog 121 [cv c] [] (fun v Post => v = .bool (letB c) ∧ Post = []) := by
  refine Fun.intro low121 (by simp [n121]) ?_
  (repeat' (first | refine GOPH ?_ | refine st_gcase (by rfl) (fun _ => ?_) (fun _ => ?_) | refine st_pcase (by rfl) (fun _ => ?_) (fun _ => ?_) | refine VC.seq_cond (by rfl) (fun _ => ?_) (fun _ => ?_) | refine VC.cond (by rfl) (fun _ => ?_) (fun _ => ?_)))
  all_goals refine ⟨.inr rfl, _, _, .tmp (by rfl) .nil, by exact IMx, ?_, rfl⟩
  all_goals (simp only [tup, letB, Value.bool.injEq, decide_eq_true_eq, decide_eq_false_iff_not] at *)
  all_goals (rw [Bool.eq_iff_iff]; simp only [Bool.or_eq_true, Bool.and_eq_true, Bool.not_eq_true', decide_eq_true_eq, decide_eq_false_iff_not, true_iff, iff_true, reduceCtorEq, false_iff, iff_false]; omega)
theorem digit_spec (c : Nat) (hc : c < 256) : Fun Tryz.prog 126 [cv c] [] (fun v Post => v = .bool (digB c) ∧ Post = []) := by
  refine Fun.intro low126 (by simp [n126]) ?_
  (repeat' (first | refine GOPH ?_ | refine st_gcase (by rfl) (fun _ => ?_) (fun _ => ?_) | refine st_pcase (by rfl) (fun _ => ?_) (fun _ => ?_) | refine VC.seq_cond (by rfl) (fun _ => ?_) (fun _ => ?_) | refine VC.cond (by rfl) (fun _ => ?_) (fun _ => ?_)))
  all_goals refine ⟨.inr rfl, _, _, .tmp (by rfl) .nil, by exact IMx, ?_, rfl⟩
  all_goals (simp only [tup, digB, Value.bool.injEq, decide_eq_true_eq, decide_eq_false_iff_not] at *)
  all_goals (rw [Bool.eq_iff_iff]; simp only [Bool.or_eq_true, Bool.and_eq_true, Bool.not_eq_true', decide_eq_true_eq, decide_eq_false_iff_not, true_iff, iff_true, reduceCtorEq, false_iff, iff_false]; omega)
theorem inner_spec (c : Nat) (hc : c < 256) : Fun Tryz.prog 123 [cv c] [] (fun v Post => v = .bool (innB c) ∧ Post = []) := by
  refine Fun.intro low123 (by simp [n123]) ?_
  refine GOH ?_
  refine st_callP (letter_spec c hc) (by rfl) ?_
  cases hl : letB c with
  | true =>
    refine GOH ?_
    refine ⟨.inr rfl, _, _, .tmp (by rfl) .nil, by exact IMx, ?_, rfl⟩
    simp [tup, innB, hl]
  | false =>
    refine GOH ?_
    refine st_callP (digit_spec c hc) (by rfl) ?_
    refine GOH ?_
    refine ⟨.inr rfl, _, _, .tmp (by rfl) .nil, by exact IMx, ?_, rfl⟩
    simp [tup, innB, hl]
theorem binary_spec (c : Nat) (hc : c < 256) : Fun Tryz.prog 89 [cv c] [] (fun v Post => v = .bool (binB c) ∧ Post = []) := by
  refine Fun.intro low89 (by simp [n89]) ?_
  have hb := ixN_bin hc
  have h : Fun Tryz.prog 124 [.string ⟨#[43, 45, 42, 47, 92, 126, 60, 62, 61, 64, 37, 38, 63, 44, 33]⟩, cv c] [] (fun v Post => v = vi (ixN [43, 45, 42, 47, 92, 126, 60, 62, 61, 64, 37, 38, 63, 44, 33] c) ∧ Post = []) := by
    refine Fun.intro low124 (by simp [n124]) ?_
    refine GOH ?_
    refine st_callP (ixb_spec _ c hc) (by rfl) ?_
    refine GOH ?_
    refine ⟨.inr rfl, _, _, .tmp (by rfl) .nil, by exact IMx, ?_, rfl⟩
    rfl
  generalize ixN [43, 45, 42, 47, 92, 126, 60, 62, 61, 64, 37, 38, 63, 44, 33] c = z at h hb
  refine GOH ?_
  refine st_callP h (by rfl) ?_
  refine GOH ?_
  refine ⟨.inr rfl, _, _, .tmp (by rfl) .nil, by exact IMx, ?_, rfl⟩
  simp only [tup, ← hb]
theorem peek_spec (s : ByteArray) (hs : s.size ≤ 140737488355328) (k : Nat) : Fun Tryz.prog 127 [.string s, vi k] [] (fun v Post => v = cv ((bytesN s).getD k 0) ∧ Post = []) := by
  refine Fun.intro low127 (by simp [n127]) ?_
  refine GOH ?_
  by_cases h : k < s.size
  · rw [decide_eq_true (by omega)]
    obtain ⟨c, hc, hc2⟩ := bytesN_ex h
    refine GOH ?_
    refine st_idxS (by rfl) (by rfl) (j := k) rfl hc ?_
    refine GOH ?_
    refine ⟨.inr rfl, _, _, .tmp (by rfl) .nil, by exact IMx, ?_, rfl⟩
    simp [tup, List.getD_eq_getElem?_getD, hc2]
  · rw [decide_eq_false (by omega)]
    refine GOH ?_
    refine ⟨.inr rfl, _, _, .tmp (by rfl) .nil, by exact IMx, ?_, rfl⟩
    have : (bytesN s)[k]? = none := List.getElem?_eq_none (by rw [bytesN_len]; omega)
    simp [tup, List.getD_eq_getElem?_getD, this]
theorem run_spec (s : ByteArray) (hs : s.size ≤ 140737488355328) (a : Nat) (ha : a ≤ s.size) (fv : Value) (I : Nat → SH) (on : Nat → Bool)
    (h : ∀ k c, a ≤ k → (bytesN s)[k]? = some c → FunV Tryz.prog fv [cv c] (I k) (fun v Post => v = .bool (on k) ∧ Post = I (k + 1))) :
    Fun Tryz.prog 122 [.string s, vi a, fv] (I a) (fun v Post => ∃ e j : Nat, v = vi e ∧ a ≤ e ∧ e ≤ s.size ∧ (∀ k, a ≤ k → k < e → on k = true) ∧ (e < s.size → on e = false) ∧ Post = I j) := by
  refine Fun.intro low122 (by simp [n122]) ?_
  refine GOH ?_
  refine VC.loop (α := Nat) (Γf := fun k => [(0, .string s), (1, vi k), (2, fv)]) (Hf := fun k => I k) (I := fun k => a ≤ k ∧ k ≤ s.size ∧ ∀ i, a ≤ i → i < k → on i = true) (μ := fun k => s.size - k) a ⟨Nat.le_refl _, ha, fun i _ _ => by omega⟩ (by exact SUx) (Imp.refl _) ?_
  rintro k ⟨i1, i2, i3⟩
  refine GOH ?_
  by_cases hk : k < s.size
  · rw [decide_eq_true (by omega)]
    obtain ⟨c, hc, hc2⟩ := bytesN_ex hk
    refine GOH ?_
    refine st_idxS (by rfl) (by rfl) (j := k) rfl hc ?_
    refine GOH ?_
    refine st_callV (by rfl) (h k _ i1 hc2) (by rfl) (R := []) (by simp [V.Spl]) ?_
    rintro v Post ⟨rfl, rfl⟩
    rw [List.append_nil]
    cases ho : on k with
    | true =>
      refine GOH ?_
      refine ⟨k + 1, ⟨by omega, by omega, fun i g1 g2 => ?_⟩, by omega, by exact SUx, Imp.refl _⟩
      by_cases e : i = k
      · subst e; exact ho
      · exact i3 i g1 (by omega)
    | false =>
      refine GOH ?_
      exact endQ_mk (Post := I (k + 1)) (.inr rfl) (.tmp (by rfl) .nil) ⟨k, k + 1, rfl, i1, i2, i3, fun _ => ho, rfl⟩ (Imp.refl _)
  · rw [decide_eq_false (by omega)]
    refine GOH ?_
    exact endQ_mk (Post := I k) (.inr rfl) (.tmp (by rfl) .nil) ⟨k, k, rfl, i1, i2, i3, fun hh => absurd hh hk, rfl⟩ (Imp.refl _)
theorem name_spec (s : ByteArray) (hs : s.size ≤ 140737488355328) : Fun Tryz.prog 88 [.string s] [] (fun v Post => v = .bool (nameS s) ∧ Post = []) := by
  refine Fun.intro low88 (by simp [n88]) ?_
  have hlen := bytesN_len s
  unfold nameS nameL
  refine GOH ?_
  by_cases h0 : s = ⟨#[]⟩
  · subst h0
    refine GOH ?_
    refine ⟨.inr rfl, _, _, .tmp (by rfl) .nil, by exact IMx, ?_, rfl⟩
    rfl
  obtain ⟨c, r, hc, hr, hc256, hpos⟩ := bytesN_cons h0
  rw [decide_eq_false h0, Bool.not_false]
  refine GOH ?_
  by_cases h40 : s.size ≤ 40
  rotate_left
  · rw [decide_eq_false (by omega)]
    refine GOH ?_
    refine ⟨.inr rfl, _, _, .tmp (by rfl) .nil, by exact IMx, ?_, rfl⟩
    have h2 : ¬ (c.toNat :: r).length ≤ 40 := by rw [← hr]; omega
    simp only [tup, hr, decide_eq_false h2, Bool.false_and]
  rw [decide_eq_true (by omega)]
  refine GOH ?_
  refine st_idxS (by rfl) (by rfl) (j := 0) rfl hc ?_
  refine GOH ?_
  refine st_callP (letter_spec _ hc256) (by rfl) ?_
  cases hl : letB c.toNat with
  | false =>
    refine GOH ?_
    refine ⟨.inr rfl, _, _, .tmp (by rfl) .nil, by exact IMx, ?_, rfl⟩
    simp [tup, hr, hl]
  | true =>
    refine GOH ?_
    refine st_call (run_spec s hs 0 (by omega) (.func (.func 123) #[] #[]) (fun _ => []) (fun k => innB ((bytesN s).getD k 0)) (fun k x _ hx => FunV.of_fun ?_)) (by rfl) (by exact SPx) (fun v Post hv => ?_)
    · rw [List.getD_eq_getElem?_getD, hx]
      exact inner_spec _ (bytesN_lt s _ (List.mem_of_getElem? hx))
    obtain ⟨e, j, rfl, e1, e2, e3, e4, rfl⟩ := hv
    have hall := all_run (l := bytesN s) (p := innB) (e := e) (by omega) (fun k hk => e3 k (by omega) hk) (fun hk => e4 (by omega))
    have h2 : (c.toNat :: r).length ≤ 40 := by rw [← hr]; omega
    simp only [List.nil_append]
    refine GOH ?_
    refine ⟨.inr rfl, _, _, .tmp (by rfl) .nil, by exact IMx, ?_, rfl⟩
    rw [hr] at hall
    simp only [tup, hr, decide_eq_true h2, hl, hall, Bool.true_and, Value.bool.injEq]
    rw [← hr, hlen]
    (rw [Bool.eq_iff_iff]; simp only [Bool.or_eq_true, Bool.and_eq_true, Bool.not_eq_true', decide_eq_true_eq, decide_eq_false_iff_not, true_iff, iff_true, reduceCtorEq, false_iff, iff_false]; omega)
end Go.Proofs.YtmnmandpdadedaaGreatDoor

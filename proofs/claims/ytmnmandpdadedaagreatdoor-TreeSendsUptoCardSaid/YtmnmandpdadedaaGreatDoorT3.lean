/-
  ownLits: lists that came out are their owner's alone.
-/
import Derived.Test.YtmnmandpdadedaaGreatDoorT2
import Derived.Test.YtmnmandpdadedaaGreatDoorV11
import Derived.Test.YtmnmandpdadedaaGreatDoorV10
import Derived.KernelRfl
import Derived.Test.YtmnmandpdadedaaGreatDoorProg
set_option linter.unusedSimpArgs false
set_option linter.unusedVariables false
namespace Go.Proofs.YtmnmandpdadedaaGreatDoor
open Go Go.V
set_option maxHeartbeats 6400000
set_option maxRecDepth 100000
theorem ownLits_spec (lv : Value) (ps : List OwnR) (lsp : List Value) (hl : IsSl 1 lv ps.length (ps.map (·.v)) lsp) (hps : ∀ p ∈ ps, OkR 5 p) (hN : ps.length ≤ 1073741824) :
    Fun Tryz.prog 62 [lv] [slA lv (ps.map (·.v)) lsp, ps.flatMap owR] (fun v Post => v = .bool true ∧ Post = []) := by
  obtain ⟨MK, hMK⟩ : ∃ MK : Nat → Nat → Value, MK = fun i k => vi (spotZ i k) := ⟨_, rfl⟩
  have hMKe : ∀ i k, MK i k = vi (spotZ i k) := fun i k => by rw [hMK]
  obtain ⟨MB, hMB⟩ : ∃ MB : Nat → Nat → Value, MB = fun i k => vi (behZ i k) := ⟨_, rfl⟩
  have hMBe : ∀ i k, MB i k = vi (behZ i k) := fun i k => by rw [hMB]
  obtain ⟨ZR, hZR⟩ : ∃ ZR : List Value, ZR = [.int .u8 0, .int .i64 0, .int .u64 0, .string ⟨#[]⟩, .slice none 0 0] := ⟨_, rfl⟩
  have hZl : ZR.length = 5 := by rw [hZR]; rfl
  refine Fun.intro low62 (by simp [n62]) ?_
  obtain ⟨la, lc, hle⟩ := hl.form
  have hrd := hl.rd
  rw [hle] at hrd ⊢
  generalize slA (.slice la ps.length lc) (ps.map (·.v)) lsp = L at hrd ⊢
  refine GO ?_
  refine VC.loop (α := Nat) (Γf := fun i => [(0, .slice la ps.length lc), (3, .slice none 0 0), (4, vi i)]) (Hf := fun i => [L, (phK MK 1 i ps).flatMap owR]) (I := fun i => i ≤ ps.length) (μ := fun i => ps.length - i) 0 (Nat.zero_le _) (by exact SUx) (by rw [phK_zero]; exact IMx) ?_
  intro i hi
  refine GO ?_
  by_cases hlt : i < ps.length
  · obtain ⟨⟨pv, prows, psp⟩, hp⟩ : ∃ p, ps[i]? = some p := ⟨ps[i], List.getElem?_eq_getElem hlt⟩
    have hpm := List.mem_of_getElem? hp
    obtain ⟨hpo, hpl, hpn⟩ := hps _ hpm
    simp only at hpo hpl hpn
    obtain ⟨b, o, c, hve, m1⟩ := (show RdRow 1 L (.slice la ps.length lc) ps.length (ps.map fun q => q.v) from hrd).cell hp
    simp only [Value.slice.injEq, true_and] at hve
    obtain ⟨rfl, rfl⟩ := hve
    have hg := phK_get (mk := MK) (f := 1) (i := i) hp
    rw [if_neg (by omega)] at hg
    obtain ⟨rest, hr1, hr2⟩ := flat_take (f := owR) hg
    have hr3 := hr2 ⟨pv, markK (MK i) 1 prows.length prows, psp⟩
    rw [← phK_succ hp] at hr3
    obtain ⟨pa, pc, hpv⟩ := hpo.form
    simp only [hpv] at m1
    rw [show decide ((i : Int) < (ps.length : Int)) = true from decide_eq_true (by omega)]
    refine GO ?_
    refine VC.loop (α := Nat) (Γf := fun k => [(0, .slice (some ⟨b, o, none⟩) ps.length lc), (3, .slice none 0 0), (4, vi i), (5, vi k)]) (Hf := fun k => [L, slA (.slice pa prows.length pc) (markK (MK i) 1 k prows).flatten psp, rest]) (I := fun k => k ≤ prows.length) (μ := fun k => prows.length - k) 0 (Nat.zero_le _) (by exact SUx)
      (Imp.perm (by rw [markK_zero]; simp only [List.flatten_cons, List.flatten_nil, List.append_nil]; refine List.Perm.append_left _ ?_; simpa [owR, hpv] using hr1)) ?_
    intro k hk
    refine GO ?_
    by_cases hlk : k < prows.length
    rotate_left
    · obtain rfl : k = prows.length := by omega
      rw [show decide ((prows.length : Int) < (prows.length : Int)) = false from decide_eq_false (by omega)]
      refine GO ?_
      refine ⟨i + 1, by omega, by omega, by exact SUx, Imp.perm ?_⟩
      simp only [List.flatten_cons, List.flatten_nil, List.append_nil]
      refine List.Perm.append_left _ ?_
      simpa [owR, hpv] using hr3.symm
    rw [show decide ((k : Int) < (prows.length : Int)) = true from decide_eq_true (by omega)]
    have hfl := rows_len (markK_all (mk := MK i) (f := 1) (k := k) hpl)
    rw [markK_len] at hfl
    have hms := mark_flat (mk := MK i) (f := 1) (k := k) (by omega) hpl hlk
    rw [hpv] at hpo
    obtain ⟨b2, o2, c2, hpe, _, _⟩ := hpo.some (by omega)
    simp only [Value.slice.injEq, true_and] at hpe
    obtain ⟨rfl, rfl⟩ := hpe
    have hu : Upd [cellsAt b2 o2 ((markK (MK i) 1 k prows).flatten ++ psp), L, rest] b2 (o2 + (k * 5 + 1)) [MK i k] [cellsAt b2 o2 ((markK (MK i) 1 (k + 1) prows).flatten ++ psp), L, rest] := by
      rw [hms, ← List.set_append_left _ _ (by omega)]
      exact Upd.set1 rfl (by rw [List.length_append]; omega)
    rw [hMKe] at hu
    refine GO ?_
    refine VC.draws ⟨?_, ?_, trivial⟩
    all_goals
      refine GO ?_
      refine st_callP (spot_spec i k (by omega) (by omega)) (by rfl) ?_
      refine GO ?_
      refine VO.imp (H' := [cellsAt b2 o2 ((markK (MK i) 1 k prows).flatten ++ psp), L, rest]) (Imp.perm (by simp only [slA, List.flatten_cons, List.flatten_nil]; exact perm_lead _ _ _)) ?_
      refine st_store' (us := [vi (spotZ i k)]) (by rfl) (by rfl) (by rfl) (by rfl) (by rfl) hu ?_
      refine GO ?_
      exact ⟨k + 1, by omega, by omega, by exact SUx, Imp.cut (M := [L, cellsAt b2 o2 ((markK (MK i) 1 (k + 1) prows).flatten ++ psp), rest]) (by exact IMx) (by simp only [slA]; exact Imp.refl _)⟩
  obtain rfl : i = ps.length := by omega
  rw [show decide ((ps.length : Int) < (ps.length : Int)) = false from decide_eq_false (by omega)]
  refine GO ?_
  refine VC.loop (α := Nat × Value × List Value × List Value × List Atom) (Γf := fun s => [(0, .slice la ps.length lc), (3, s.2.1), (6, vi s.1)]) (Hf := fun s => [L, slA s.2.1 s.2.2.1 s.2.2.2.1, s.2.2.2.2, ((phK MK 1 ps.length ps).drop s.1).flatMap owR])
    (I := fun s => s.1 ≤ ps.length ∧ s.2.2.1.length = s.1 ∧ IsSl 1 s.2.1 s.1 s.2.2.1 s.2.2.2.1 ∧ ∀ j p, j < s.1 → ps[j]? = some p → RdRow 5 s.2.2.2.2 p.v p.rows.length (markK (MK j) 1 p.rows.length p.rows).flatten ∧ ∃ xv, s.2.2.1[j]? = some xv ∧ RdRow 5 s.2.2.2.2 xv (p.rows.length + 8) ((markK (MK j) 1 p.rows.length p.rows).flatten ++ (bkR (MB j) ZR 1 8).flatten)) (μ := fun s => ps.length - s.1) (0, .slice none 0 0, [], [], []) ⟨Nat.zero_le _, rfl, .nil, fun j p h => by omega⟩ (by exact SUx)
    (Imp.perm (by simp [slA])) ?_
  rintro ⟨i, lv2, ws, lsp2, D⟩ ⟨hi, hws, hl2, hD⟩
  simp only at hi hws hl2 hD
  obtain ⟨ma, mc, rfl⟩ := hl2.form
  refine GO ?_
  by_cases hlt : i < ps.length
  · obtain ⟨⟨pv, prows, psp⟩, hp⟩ : ∃ p, ps[i]? = some p := ⟨ps[i], List.getElem?_eq_getElem hlt⟩
    have hpm := List.mem_of_getElem? hp
    obtain ⟨hpo, hpl, hpn⟩ := hps _ hpm
    simp only at hpo hpl hpn
    obtain ⟨b, o, c, hve, m1⟩ := (show RdRow 1 L (.slice la ps.length lc) ps.length (ps.map fun q => q.v) from hrd).cell hp
    simp only [Value.slice.injEq, true_and] at hve
    obtain ⟨rfl, rfl⟩ := hve
    obtain ⟨pa, pc, hpv⟩ := hpo.form
    have hml := rows_len (markK_all (mk := MK i) (f := 1) (k := prows.length) hpl)
    rw [markK_len] at hml
    obtain ⟨ms, hms⟩ : ∃ ms, ms = (markK (MK i) 1 prows.length prows).flatten := ⟨_, rfl⟩
    have hpo2 : IsSl 5 pv prows.length ms psp := by
      rw [← hms] at hml
      have hol := hpo.len
      generalize hpf : prows.flatten = pf at hpo hol
      generalize prows.length = pn at *
      cases hpo with
      | mk q1 q2 q3 => exact .mk hml (by omega) q3
      | nil =>
        have : ms = [] := List.length_eq_zero_iff.1 (by omega)
        rw [this]; exact .nil
    rw [phK_all hp]
    simp only [← hms] at hml ⊢
    simp only at m1
    have hms2 : (markK (MK i) 1 prows.length prows).flatten = ms := hms.symm
    generalize hpnn : prows.length = pn at *
    rw [show decide ((i : Int) < (ps.length : Int)) = true from decide_eq_true (by omega)]
    refine GO ?_
    refine VC.loop (α := Nat × Value × List Value × List Atom) (Γf := fun s => [(0, .slice (some ⟨b, o, none⟩) ps.length lc), (3, .slice ma i mc), (6, vi i), (7, s.2.1), (8, vi s.1)]) (Hf := fun s => [L, slA (.slice ma i mc) ws lsp2, D, slA s.2.1 (ms ++ (bkR (MB i) ZR 1 s.1).flatten) s.2.2.1, s.2.2.2, ((phK MK 1 ps.length ps).drop (i + 1)).flatMap owR])
      (I := fun s => s.1 ≤ 8 ∧ IsSl 5 s.2.1 (pn + s.1) (ms ++ (bkR (MB i) ZR 1 s.1).flatten) s.2.2.1 ∧ Kept 5 s.2.2.2 pv pn ms s.2.1 (pn + s.1)) (μ := fun s => 8 - s.1) (0, pv, psp, []) ⟨Nat.zero_le _, by simpa [bkR] using hpo2, Kept.start hpo2⟩ (by exact SUx)
      (Imp.perm (by simp [bkR])) ?_
    rintro ⟨k, xv, xsp, E⟩ ⟨hk, hxv, hE⟩
    simp only at hk hxv hE
    obtain ⟨xa, xc, rfl⟩ := hxv.form
    by_cases h16 : k < 8
    · refine GO ?_
      simp only [show (k : Int) < 8 by omega, decide_true]
      refine GO ?_
      refine st_callP (beh_spec i k (by omega) (by omega)) (by rfl) ?_
      refine GO ?_
      have hrow : (bkR (MB i) ZR 1 (k + 1)).flatten = (bkR (MB i) ZR 1 k).flatten ++ ZR.set 1 (vi (behZ i k)) := by rw [bkR_succ, hMBe]; simp
      refine st_bslice (out := ZR.set 1 (vi (behZ i k))) (by rfl) (by rw [hZR]; rfl) (fun q3 => ?_)
      have hsucc := hrow
      refine st_append2 (k := pn + k) (m := 1) (xs := ms ++ (bkR (MB i) ZR 1 k).flatten) (sp := xsp) (ys := ZR.set 1 (vi (behZ i k))) (by rfl) (by rfl) hxv (by exact TKx) (by rfl) ?_ (by rw [hZR]; rfl) (by rw [hZR]; rfl) (by rfl) (by decide) (by omega) ?_ ?_
      · exact ⟨by rw [List.length_set, hZl], fun a ha => by simp only [List.flatten_cons, List.mem_append]; exact .inl ha⟩
      · intro b3 o3 c3 sp' hxe hsl'
        rw [List.append_assoc, ← hsucc] at hsl' ⊢
        simp only [Value.slice.injEq, true_and] at hxe
        obtain ⟨rfl, rfl⟩ := hxe
        refine GO ?_
        refine ⟨(k + 1, .slice (some ⟨b3, o3, none⟩) (pn + k + 1) xc, sp', E), ⟨by show k + 1 ≤ 8; omega, hsl', ?_⟩, by simp only; omega, by exact SUx, by exact IMx⟩
        rcases hE with h | ⟨h1, b4, o4, c4, h2, h3⟩
        · exact .inl h
        · simp only [Value.slice.injEq, Option.some.injEq, Addr.mk.injEq, and_true] at h3
          obtain ⟨⟨rfl, rfl⟩, _, rfl⟩ := h3
          exact .inr ⟨h1, _, _, _, h2, rfl⟩
      · intro sv' sp' hsl'
        rw [List.append_assoc, ← hsucc] at hsl' ⊢
        obtain ⟨a', c', rfl⟩ := hsl'.form
        refine GO ?_
        exact ⟨(k + 1, .slice a' (pn + k + 1) c', sp', slA (.slice xa (pn + k) xc) (ms ++ (bkR (MB i) ZR 1 k).flatten) xsp ++ E), ⟨by show k + 1 ≤ 8; omega, hsl', hE.moved hxv hml (by omega)⟩, by simp only; omega, by exact SUx, Imp.cut (M := [L, slA (.slice ma i mc) ws lsp2, D, slA (.slice a' (pn + k + 1) c') (ms ++ (bkR (MB i) ZR 1 (k + 1)).flatten) sp', slA (.slice xa (pn + k) xc) (ms ++ (bkR (MB i) ZR 1 k).flatten) xsp, E, ((phK MK 1 ps.length ps).drop (i + 1)).flatMap owR]) (by exact IMx) (Imp.perm (by simp))⟩
    · obtain rfl : k = 8 := by omega
      refine GO ?_
      refine st_bslice (out := [.slice xa (pn + 8) xc]) (by rfl) (by rfl) (fun q3 => ?_)
      refine GO ?_
      refine st_append (k := i) (m := 1) (xs := ws) (sp := lsp2) (ys := [.slice xa (pn + 8) xc]) (by rfl) (by rfl) hl2 (by exact TKx) (by rfl) ?_ rfl (by rfl) (by rfl) (by decide) (by omega) (fun sv' sp' hsl' => ?_)
      · exact ⟨rfl, fun a ha => by simp only [List.flatten_cons, List.mem_append]; exact .inl ha⟩
      obtain ⟨a', c', rfl⟩ := hsl'.form
      refine GO ?_
      have hdone := hE.done hxv hml (by omega)
      have hx16 : RdRow 5 (slA (.slice xa (pn + 8) xc) (ms ++ (bkR (MB i) ZR 1 8).flatten) xsp ++ E) (.slice xa (pn + 8) xc) (pn + 8) (ms ++ (bkR (MB i) ZR 1 8).flatten) := hxv.rd.mono (fun a ha => List.mem_append_left _ ha)
      refine ⟨(i + 1, .slice a' (i + 1) c', ws ++ [.slice xa (pn + 8) xc], sp', D ++ (slA (.slice xa (pn + 8) xc) (ms ++ (bkR (MB i) ZR 1 8).flatten) xsp ++ E)), ⟨by show i + 1 ≤ ps.length; omega, by simp [hws], hsl', fun j p hj hpj => ?_⟩, by simp only; omega, by exact SUx, Imp.cut (M := [L, slA (.slice a' (i + 1) c') (ws ++ [.slice xa (pn + 8) xc]) sp', D, slA (.slice xa (pn + 8) xc) (ms ++ (bkR (MB i) ZR 1 8).flatten) xsp, E, ((phK MK 1 ps.length ps).drop (i + 1)).flatMap owR]) (by exact IMx) (Imp.perm (by simp))⟩
      simp only at hj ⊢
      by_cases hji : j < i
      · obtain ⟨d1, yv, d2, d3⟩ := hD j p hji hpj
        exact ⟨d1.mono (fun a ha => List.mem_append_left _ ha), yv, by rw [List.getElem?_append_left (by omega)]; exact d2, d3.mono (fun a ha => List.mem_append_left _ ha)⟩
      · obtain rfl : j = i := by omega
        rw [hp] at hpj
        cases hpj
        simp only [hpnn, hms2]
        exact ⟨hdone.mono (fun a ha => List.mem_append_right _ ha), _, by rw [List.getElem?_append_right (by omega), hws]; simp, hx16.mono (fun a ha => List.mem_append_right _ ha)⟩
  obtain rfl : i = ps.length := by omega
  have hrd2 := hl2.rd
  generalize slA (.slice ma ps.length mc) ws lsp2 = L2 at hrd2 ⊢
  generalize ((phK MK 1 ps.length ps).drop ps.length).flatMap owR = D0
  rw [show decide ((ps.length : Int) < (ps.length : Int)) = false from decide_eq_false (by omega)]
  refine GO ?_
  refine VC.loop (α := Nat) (Γf := fun i => [(0, .slice la ps.length lc), (3, .slice ma ps.length mc), (9, vi i)]) (Hf := fun i => [L, L2, D]) (I := fun i => i ≤ ps.length) (μ := fun i => ps.length - i) 0 (Nat.zero_le _) (by exact SUx) (by exact IMx) ?_
  intro i hi
  refine GO ?_
  by_cases hlt : i < ps.length
  rotate_left
  · skip
    rw [show decide ((i : Int) < (ps.length : Int)) = false from decide_eq_false (by omega)]
    refine GO ?_
    exact endQ_mk (Post := []) (.inr rfl) (.tmp (by rfl) .nil) ⟨rfl, rfl⟩ Imp.nil
  obtain ⟨⟨pv, prows, psp⟩, hp⟩ : ∃ p, ps[i]? = some p := ⟨ps[i], List.getElem?_eq_getElem hlt⟩
  obtain ⟨hpo, hpl, hpn⟩ := hps _ (List.mem_of_getElem? hp)
  obtain ⟨d1, xv, d2, d3⟩ := hD i _ hlt hp
  simp only at hpl hpn d1 d3
  obtain ⟨b, o, c, hve, m1⟩ := (show RdRow 1 L (.slice la ps.length lc) ps.length (ps.map fun q => q.v) from hrd).cell hp
  simp only [Value.slice.injEq, true_and] at hve
  obtain ⟨rfl, rfl⟩ := hve
  have hwm : RdRow 1 L2 (.slice ma ws.length mc) ws.length (ws.map fun q => q) := by rw [List.map_id', hws]; exact hrd2
  obtain ⟨b2, o2, c2, hve2, m2⟩ := hwm.cell d2
  simp only [Value.slice.injEq, true_and] at hve2
  obtain ⟨rfl, rfl⟩ := hve2
  obtain ⟨pa, pc, rfl⟩ := d1.form
  obtain ⟨xa, xc, rfl⟩ := d3.form
  simp only at m1
  have hml := rows_len (markK_all (mk := MK i) (f := 1) (k := prows.length) hpl)
  rw [markK_len] at hml
  have hc1 : ∀ k, k < prows.length → (markK (MK i) 1 prows.length prows).flatten[k * 5 + 1]? = some (vi (spotZ i k)) := fun k hk => by rw [mark_cell (by omega) hpl hk hk, hMKe]
  have hc2 : ∀ k, k < 8 → ((markK (MK i) 1 prows.length prows).flatten ++ (bkR (MB i) ZR 1 8).flatten)[(prows.length + k) * 5 + 1]? = some (vi (behZ i k)) := fun k hk => by
    rw [List.getElem?_append_right (by rw [hml, Nat.add_mul]; omega), hml, show (prows.length + k) * 5 + 1 - prows.length * 5 = k * 5 + 1 by rw [Nat.add_mul]; omega]
    rw [flat_get (by omega) (fun r hr => by rw [bkR_all r hr, hZl]) (bkR_get hk), List.getElem?_set_self (by omega), hMBe]
  have hc3 : ∀ k, k < prows.length → ((markK (MK i) 1 prows.length prows).flatten ++ (bkR (MB i) ZR 1 8).flatten)[k * 5 + 1]? = some (vi (spotZ i k)) := fun k hk => by
    have := hc1 k hk
    rw [List.getElem?_append_left (List.getElem?_eq_some_iff.1 this).1]
    exact this
  generalize (markK (MK i) 1 prows.length prows).flatten ++ (bkR (MB i) ZR 1 8).flatten = ms2 at d3 hc2 hc3
  generalize (markK (MK i) 1 prows.length prows).flatten = ms at d1 hc1
  generalize hpnn : prows.length = pn at *
  rw [show decide ((i : Int) < (ps.length : Int)) = true from decide_eq_true (by omega)]
  refine GO ?_
  refine VC.loop (α := Nat) (Γf := fun k => [(0, .slice (some ⟨b, o, none⟩) ps.length lc), (3, .slice (some ⟨b2, o2, none⟩) ps.length mc), (9, vi i), (10, vi pn), (11, vi k)]) (Hf := fun i => [L, L2, D]) (I := fun k => k ≤ pn) (μ := fun k => pn - k) 0 (Nat.zero_le _) (by exact SUx) (by exact IMx) ?_
  intro k hk
  refine GO ?_
  by_cases hlk : k < pn
  · obtain ⟨b3, o3, c3, hve3, e1⟩ := d1.part (hc1 k hlk) (by omega)
    obtain ⟨b4, o4, c4, hve4, e2⟩ := d3.part (hc3 k hlk) (by omega)
    simp only [Value.slice.injEq, true_and] at hve3 hve4
    obtain ⟨rfl, rfl⟩ := hve3
    obtain ⟨rfl, rfl⟩ := hve4
    rw [show decide ((k : Int) < (pn : Int)) = true from decide_eq_true (by omega)]
    refine GO ?_
    refine VC.seq_draws (α := Unit) (fun _ => [(0, .slice (some ⟨b, o, none⟩) ps.length lc), (3, .slice (some ⟨b2, o2, none⟩) ps.length mc), (9, vi i), (10, vi pn), (11, vi k), (104, .bool false)]) (fun _ => [L, L2, D]) (fun _ => True) ⟨?_, ?_, ?_, ?_, ?_, ?_, ?_, ?_, ?_, trivial⟩ (fun _ _ => ?_)
    all_goals first
      | (refine GO ?_
         refine st_callP (spot_spec i k (by omega) (by omega)) (by rfl) ?_
         refine GO ?_
         simp only [eq_self, decide_true, Bool.not_true]
         refine GO ?_
         refine st_callP (spot_spec i k (by omega) (by omega)) (by rfl) ?_
         refine GO ?_
         (try simp only [eq_self, decide_true, Bool.not_true])
         (try refine GO ?_)
         exact ⟨(), trivial, by exact SUx, by exact IMx⟩)
      | skip
    refine GO ?_
    exact ⟨k + 1, by omega, by omega, by exact SUx, by exact IMx⟩
  rw [show decide ((k : Int) < (pn : Int)) = false from decide_eq_false (by omega)]
  refine GO ?_
  refine VC.loop (α := Nat) (Γf := fun k => [(0, .slice (some ⟨b, o, none⟩) ps.length lc), (3, .slice (some ⟨b2, o2, none⟩) ps.length mc), (9, vi i), (10, vi pn), (12, vi k)]) (Hf := fun _ => [L, L2, D]) (I := fun k => k ≤ 8) (μ := fun k => 8 - k) 0 (Nat.zero_le _) (by exact SUx) (by exact IMx) ?_
  intro k hk
  by_cases h16 : k < 8
  · refine GO ?_
    simp only [show (k : Int) < 8 by omega, decide_true]
    obtain ⟨b4, o4, c4, hve4, e1⟩ := d3.part (hc2 k h16) (by omega)
    simp only [Value.slice.injEq, true_and] at hve4
    obtain ⟨rfl, rfl⟩ := hve4
    refine GO ?_
    refine VC.seq_draws (α := Unit) (fun _ => [(0, .slice (some ⟨b, o, none⟩) ps.length lc), (3, .slice (some ⟨b2, o2, none⟩) ps.length mc), (9, vi i), (10, vi pn), (12, vi k), (122, .bool false)]) (fun _ => [L, L2, D]) (fun _ => True) ⟨?_, ?_, ?_, trivial⟩ (fun _ _ => ?_)
    all_goals first
      | (refine GO ?_
         refine st_callP (beh_spec i k (by omega) (by omega)) (by rfl) ?_
         refine GO ?_
         (try simp only [eq_self, decide_true, Bool.not_true])
         (try refine GO ?_)
         exact ⟨(), trivial, by exact SUx, by exact IMx⟩)
      | skip
    refine GO ?_
    exact ⟨k + 1, by omega, by omega, by exact SUx, by exact IMx⟩
  · obtain rfl : k = 8 := by omega
    refine GO ?_
    exact ⟨i + 1, by omega, by omega, by exact SUx, by exact IMx⟩
def F64 : FIR := laid (X := ⟨123, [.tmp 2],
 (qS [qz 2 false] [0]
 (qS [qo 3 (.mv (.const (Value.slice none 0 0)))] [0,3]
 (.seq (qS [qk 4 0] [0,3,4]
 (.block 0 (.loop (.seq (qS [qm 13 4,qm 14 0,qL 15 14,qb 16 .lss 13 15] [0,3,4,16]
 (qC 16 .skip
 (.exit 0)))
 (.seq (.block 1 (qS [qk 5 0] [0,3,4,5]
 (.block 2 (.loop (.seq (qS [qm 19 5,qm 20 0,qm 21 4,qi 22 1 20 21,ql 23 22,qL 24 23,qb 25 .lss 19 24] [0,3,4,5,25]
 (qC 25 .skip
 (.exit 2)))
 (.seq (.block 3 (qD [qm 28 0,qm 29 4,qi 30 1 28 29,ql 31 30,qm 32 5,qm 33 4,qm 34 5,qx 35 100 [33,34],qx 36 102 [35],qi 37 1 31 32,qs 1 37 36] [[0,1,2,3,4,5,6,7,8,9,10], [0,1,2,4,5,6,7,3,8,9,10], [0,1,2,4,5,6,7,8,3,9,10]] [0,3,4,5]))
 (.reg [qm 26 5,qc 27 .add 26 1,qm 5 27] [0,3,4,5])))))))
 (.reg [qm 17 4,qc 18 .add 17 1,qm 4 18] [0,3,4]))))))
 (.seq (qS [qk 6 0] [0,3,6]
 (.block 4 (.loop (.seq (qS [qm 38 6,qm 39 0,qL 40 39,qb 41 .lss 38 40] [0,3,6,41]
 (qC 41 .skip
 (.exit 4)))
 (.seq (.block 5 (qS [qm 44 0,qm 45 6,qi 46 1 44 45,ql 47 46,qm 7 47] [0,3,6,7]
 (.seq (qS [qk 8 0] [0,3,6,7,8]
 (.block 6 (.loop (.seq (qS [qm 48 8,qc 49 .lss 48 8] [0,3,6,7,8,49]
 (qC 49 .skip
 (.exit 6)))
 (.seq (.block 7 (.reg [qm 52 7,qm 53 6,qm 54 8,qx 55 101 [53,54],qx 56 102 [55],qo 57 (.bslice 9 1 [(Value.string ⟨#[]⟩)] [(0, 1, (.tmp 56))]),
  qo 58 (.append 9 1 16 [(Value.string ⟨#[]⟩)] (.tmp 52) (.tmp 57)),qm 7 58] [0,3,6,7,8]))
 (.reg [qm 50 8,qc 51 .add 50 1,qm 8 51] [0,3,6,7,8]))))))
 (.reg [qm 59 3,qm 60 7,qo 61 (.bslice 22 1 [(Value.slice none 0 0)] [(0, 1, (.tmp 60))]),
  qo 62 (.append 22 1 24 [(Value.slice none 0 0)] (.tmp 59) (.tmp 61)),qm 3 62] [0,3,6]))))
 (.reg [qm 42 6,qc 43 .add 42 1,qm 6 43] [0,3,6]))))))
 (.seq (qS [qk 9 0] [0,3,9]
 (.block 8 (.loop (.seq (qS [qm 63 9,qm 64 0,qL 65 64,qb 66 .lss 63 65] [0,3,9,66]
 (qC 66 .skip
 (.exit 8)))
 (.seq (.block 9 (qS [qm 69 0,qm 70 9,qi 71 1 69 70,ql 72 71,qL 73 72,qm 10 73] [0,3,9,10]
 (.seq (qS [qk 11 0] [0,3,9,10,11]
 (.block 10 (.loop (.seq (qS [qm 74 11,qm 75 10,qb 76 .lss 74 75] [0,3,9,10,11,76]
 (qC 76 .skip
 (.exit 10)))
 (.seq (.block 11 (.seq (.free [qm 79 0,qm 80 9,qi 81 1 79 80,ql 82 81,qm 83 11,qi 84 1 82 83,ql 85 84,qm 86 9,qm 87 11,qx 88 100 [86,87],qx 89 102 [88],
  qb 90 .neq 85 89,qm 91 90,qu 91 (qm 92 3),qu 91 (qm 93 9),qu 91 (qi 94 1 92 93),qu 91 (ql 95 94),qu 91 (qm 96 11),qu 91 (qi 97 1 95 96),
  qu 91 (ql 98 97),qu 91 (qm 99 9),qu 91 (qm 100 11),qu 91 (qx 101 100 [99,100]),qu 91 (qx 102 102 [101]),qu 91 (qb 103 .neq 98 102),qr 104 91 103] [[], [], [1,0], [0,1,2], [], [4,2,1,0,3], [3,0,1,2,4,5], [], [], [8,7], [7,8,9], [9,8,7,10,5,4,2,1,0,3,6], [6,3,0,1,2,4,5,10,7,8,9,11], [11,9,8,7,10,5,4,2,1,0,3,6,12], [11,9,8,7,10,5,4,2,1,0,3,6,12], [14,12,6,3,0,1,2,4,5,10,7,8,9,11,13], [13,11,9,8,7,10,5,4,2,1,0,3,6,12,14,15], [11,9,8,7,10,5,4,2,1,0,3,6,12], [17,15,14,12,6,3,0,1,2,4,5,10,7,8,9,11,13,16], [16,13,11,9,8,7,10,5,4,2,1,0,3,6,12,14,15,17,18], [11,9,8,7,10,5,4,2,1,0,3,6,12], [11,9,8,7,10,5,4,2,1,0,3,6,12], [21,12,6,3,0,1,2,4,5,10,7,8,9,11,20], [20,11,9,8,7,10,5,4,2,1,0,3,6,12,21,22], [22,21,20,23,18,17,15,14,12,6,3,0,1,2,4,5,10,7,8,9,11,13,16,19], [19,16,13,14,15,17,18,23,20,21,22,24,11,9,8,7,10,5,4,2,1,0,3,6,12]] [0,3,9,10,11,104])
 (qC 104 (qS [qz 2 false] [2]
 .ret)
 .skip)))
 (.reg [qm 77 11,qc 78 .add 77 1,qm 11 78] [0,3,9,10,11]))))))
 (qS [qk 12 0] [0,3,9,10,12]
 (.block 12 (.loop (.seq (qS [qm 105 12,qc 106 .lss 105 8] [0,3,9,10,12,106]
 (qC 106 .skip
 (.exit 12)))
 (.seq (.block 13 (.seq (qD [qm 109 3,qm 110 9,qi 111 1 109 110,ql 112 111,qm 113 10,qm 114 12,qb 115 .add 113 114,qi 116 1 112 115,ql 117 116,qm 118 9,
  qm 119 12,qx 120 101 [118,119],qx 121 102 [120],qb 122 .neq 117 121] [[0,1,2,3,4,5,6,7,8,9,10,11,12,13], [0,1,2,3,4,5,6,7,9,10,11,8,12,13], [0,1,2,4,5,6,9,10,11,3,7,8,12,13], [0,1,2,3,4,5,6,7,9,10,11,12,8,13], [0,1,2,4,5,6,9,10,11,3,7,12,8,13], [0,1,2,4,5,6,9,10,11,12,3,7,8,13]] [0,3,9,10,12,122])
 (qC 122 (qS [qz 2 false] [2]
 .ret)
 .skip)))
 (.reg [qm 107 12,qc 108 .add 107 1,qm 12 108] [0,3,9,10,12])))))))))
 (.reg [qm 67 9,qc 68 .add 67 1,qm 9 68] [0,3,9]))))))
 (qS [qz 2 true] [2]
 .ret))))))⟩)
theorem n64 : F64.n = 123 := rfl
theorem low64 : lowF Tryz.prog (kpO F64) (assoc [(8,[[0,1,2,3,4,5,6,7,8,9,10], [0,1,2,4,5,6,7,3,8,9,10], [0,1,2,4,5,6,7,8,3,9,10]]), (25,[]), (30,[[0,1,2,3,4,5,6,7,8,9,10,11,12,13], [0,1,2,3,4,5,6,7,9,10,11,8,12,13], [0,1,2,4,5,6,9,10,11,3,7,8,12,13], [0,1,2,3,4,5,6,7,9,10,11,12,8,13], [0,1,2,4,5,6,9,10,11,3,7,12,8,13], [0,1,2,4,5,6,9,10,11,12,3,7,8,13]])]) 64 = some F64 := by kernel_rfl
def F5 : FIR := laid (X := ⟨60, [.tmp 2],
 (qS [qB 1 25 0,qz 2 false] [1]
 (qS [qx 14 10 [],qm 3 14] [1,3]
 (qS [qN 15 5 1,qx 16 11 [15],qm 4 16] [1,3,4]
 (.seq (qS [qm 17 3,qo 18 (.un .not (.tmp 17)),qm 19 18,qu 19 (qm 20 4),qr 21 19 20] [1,3,21]
 (qC 21 (qS [qm 22 3,qm 2 22] [2]
 .ret)
 .skip))
 (qS [qN 23 5 1,qx 24 12 [23],
  qo 5 (.alloc 25 [(Value.string ⟨#[]⟩), (Value.slice none 0 0), (Value.slice none 0 0), (Value.int IntKind.i64 0), (Value.slice none 0 0)]),qs 5 5 24] [1,5]
 (qS [qN 25 5 5,qx 26 35 [25],qm 6 26] [1,5,6]
 (qS [qN 27 5 5,qx 28 35 [27],qm 7 28] [1,5,6,7]
 (qS [qN 29 5 5,qN 30 5 1,qx 31 16 [29,30],qm 8 31] [1,6,7,8]
 (qS [qN 32 5 1,qx 33 36 [32],qm 9 33] [6,7,8,9]
 (qS [qm 34 6,qm 35 9,qx 36 37 [34,35],qm 10 36] [6,7,8,9,10]
 (qS [qm 37 7,qm 38 9,qx 39 37 [37,38],qm 11 39] [6,7,8,10,11]
 (qS [qo 40 (.build [(Value.slice none 0 0), (Value.slice none 0 0), (Value.slice none 0 0), (Value.slice none 0 0)] []),qB 41 39 40,
  qm 12 41] [6,7,8,10,11,12]
 (qS [qm 42 12,qm 43 6,qx 44 38 [42,43]] [7,8,10,11,12]
 (qS [qm 45 12,qm 46 7,qx 47 38 [45,46]] [8,10,11,12]
 (qS [qm 48 12,qx 49 20 [48],qm 13 49] [8,10,11,13]
 (qS [qm 50 10,qm 51 50,qt 51 (qm 52 11),qa 53 51 52,qm 54 53,qt 54 (qm 55 8),qa 56 54 55,qm 57 56,qt 57 (qm 58 13),qa 59 57 58,qm 2 59] [2]
 .ret))))))))))))))))⟩)
theorem n5 : F5.n = 60 := rfl
theorem low5 : lowF Tryz.prog (kpO F5) (assoc []) 5 = some F5 := by kernel_rfl
end Go.Proofs.YtmnmandpdadedaaGreatDoor

/-
  ownNodes: lists that came out are their owner's alone.
-/
import Derived.Test.YtmnmandpdadedaaGreatDoorT1
import Derived.Test.YtmnmandpdadedaaGreatDoorV4
import Derived.KernelRfl
import Derived.Test.YtmnmandpdadedaaGreatDoorProg
import Derived.Test.YtmnmandpdadedaaGreatDoorV5
import Derived.Shelf.Strings.Search2
import Derived.Shelf.Lay
set_option linter.unusedSimpArgs false
set_option linter.unusedVariables false
namespace Go.Proofs.YtmnmandpdadedaaGreatDoor
open Go Go.V
set_option maxHeartbeats 6400000
set_option maxRecDepth 100000
theorem ownNodes_spec (lv : Value) (ps : List OwnR) (lsp : List Value) (hl : ku 1 lv ps.length (ps.map (·.v)) lsp) (hps : ∀ p ∈ ps, OkR 11 p) (hN : ps.length <= 1073741824) :
    Fun Tryz.prog 63 [lv] [slA lv (ps.map (·.v)) lsp, ps.flatMap owR] (fun v Post => v = .bool true /\ Post = []) := by
  obtain ⟨MK, hMK⟩ : ∃ MK : Nat -> Nat -> Value, MK = fun i k => vi (jr i k) := ⟨_, rfl⟩
  have hMKe : ∀ i k, MK i k = vi (jr i k) := fun i k => by rw [hMK]
  obtain ⟨MB, hMB⟩ : ∃ MB : Nat -> Nat -> Value, MB = fun i k => vi (behZ i k) := ⟨_, rfl⟩
  have hMBe : ∀ i k, MB i k = vi (behZ i k) := fun i k => by rw [hMB]
  obtain ⟨ZR, hZR⟩ : ∃ ZR : List Value, ZR = [.int .u8 0, .string ⟨#[]⟩, .int .u8 0, .int .i64 0, .int .u64 0, .string ⟨#[]⟩, .slice none 0 0, .slice none 0 0, .slice none 0 0, .slice none 0 0, .int .i64 0] := ⟨_, rfl⟩;have hZl : ZR.length = 11 := by rw [hZR];rfl
  refine Fun.intro low63 (by simp [n63]) ?_;obtain ⟨la, lc, hle⟩ := hl.form;have hrd := hl.rd;rw [hle] at hrd |-;generalize slA (.slice la ps.length lc) (ps.map (·.v)) lsp = L at hrd |-;refine GO ?_;refine VC.loop (α := Nat) (Γf := fun i => [(0, .slice la ps.length lc), (3, .slice none 0 0), (4, vi i)]) (Hf := fun i => [L, (phK MK 10 i ps).flatMap owR]) (I := fun i => i <= ps.length) (μ := fun i => ps.length - i) 0 (Nat.zero_le _) ZU (by rw [phK_zero];exact IMx) ?_;intro i hi;refine GO ?_;by_cases hlt : i < ps.length
  · obtain ⟨⟨pv, prows, psp⟩, hp⟩ : ∃ p, ps[i]? = some p := ⟨ps[i], Zg hlt⟩;have hpm := Zv hp;obtain ⟨hpo, hpl, hpn⟩ := hps _ hpm;simp only at hpo hpl hpn;obtain ⟨b, o, c, hve, m1⟩ := (show jd 1 L (.slice la ps.length lc) ps.length (ps.map fun q => q.v) from hrd).cell hp;simp only [Value.slice.injEq, true_and] at hve;obtain ⟨rfl, rfl⟩ := hve;have hg := phK_get (mk := MK) (f := 10) (i := i) hp;rw [if_neg Zo] at hg;obtain ⟨rest, hr1, hr2⟩ := flat_take (f := owR) hg;have hr3 := hr2 ⟨pv, kr (MK i) 10 prows.length prows, psp⟩;rw [<- phK_succ hp] at hr3;obtain ⟨pa, pc, hpv⟩ := hpo.form;simp only [hpv] at m1;rw [show decide ((i : Int) < (ps.length : Int)) = true from Zt Zo];refine GO ?_;refine VC.loop (α := Nat) (Γf := fun k => [(0, .slice (some ⟨b, o, none⟩) ps.length lc), (3, .slice none 0 0), (4, vi i), (5, vi k)]) (Hf := fun k => [L, slA (.slice pa prows.length pc) (kr (MK i) 10 k prows).flatten psp, rest]) (I := fun k => k <= prows.length) (μ := fun k => prows.length - k) 0 (Nat.zero_le _) ZU
      (Imp.perm (by rw [markK_zero];simp only [List.flatten_cons, List.flatten_nil, List.append_nil];refine List.Perm.append_left _ ?_;simpa [owR, hpv] using hr1)) ?_
    intro k hk;refine GO ?_;by_cases hlk : k < prows.length;rotate_left
    · obtain rfl : k = prows.length := by omega
      rw [show decide ((prows.length : Int) < (prows.length : Int)) = false from Zf Zo];refine GO ?_;refine ⟨i + 1, Zo, Zo, ZU, Imp.perm ?_⟩;simp only [List.flatten_cons, List.flatten_nil, List.append_nil];refine List.Perm.append_left _ ?_;simpa [owR, hpv] using hr3.symm
    rw [show decide ((k : Int) < (prows.length : Int)) = true from Zt Zo];have hfl := jJ (wP (mk := MK i) (f := 10) (k := k) hpl);rw [jb] at hfl;have hms := mark_flat (mk := MK i) (f := 10) (k := k) Zo hpl hlk;rw [hpv] at hpo;obtain ⟨b2, o2, c2, hpe, _, _⟩ := hpo.some Zo;simp only [Value.slice.injEq, true_and] at hpe;obtain ⟨rfl, rfl⟩ := hpe;have hu : Upd [kA b2 o2 ((kr (MK i) 10 k prows).flatten ++ psp), L, rest] b2 (o2 + (k * 11 + 10)) [MK i k] [kA b2 o2 ((kr (MK i) 10 (k + 1) prows).flatten ++ psp), L, rest] := by
      rw [hms, <- List.set_append_left _ _ Zo];exact Upd.set1 rfl (by rw [List.length_append];omega)
    rw [hMKe] at hu;refine GO ?_;refine VC.draws ⟨?_, ?_, trivial⟩
    all_goals
      refine GO ?_;refine kH (z5 i k Zo Zo) Zr ?_;refine GO ?_;refine VO.imp (H' := [kA b2 o2 ((kr (MK i) 10 k prows).flatten ++ psp), L, rest]) (Imp.perm (by simp only [slA, List.flatten_cons, List.flatten_nil];exact jP _ _ _)) ?_;refine jD (us := [vi (jr i k)]) Zr Zr Zr Zr Zr hu ?_;refine GO ?_;exact ⟨k + 1, Zo, Zo, ZU, Imp.cut (M := [L, kA b2 o2 ((kr (MK i) 10 (k + 1) prows).flatten ++ psp), rest]) ZI (by simp only [slA];exact Imp.refl _)⟩
  obtain rfl : i = ps.length := by omega
  rw [show decide ((ps.length : Int) < (ps.length : Int)) = false from Zf Zo];refine GO ?_;refine VC.loop (α := Nat × Value × List Value × List Value × List kE) (Γf := fun s => [(0, .slice la ps.length lc), (3, s.2.1), (6, vi s.1)]) (Hf := fun s => [L, slA s.2.1 s.2.2.1 s.2.2.2.1, s.2.2.2.2, ((phK MK 10 ps.length ps).drop s.1).flatMap owR])
    (I := fun s => s.1 <= ps.length /\ s.2.2.1.length = s.1 /\ ku 1 s.2.1 s.1 s.2.2.1 s.2.2.2.1 /\ ∀ j p, j < s.1 -> ps[j]? = some p -> jd 11 s.2.2.2.2 p.v p.rows.length (kr (MK j) 10 p.rows.length p.rows).flatten /\ ∃ xv, s.2.2.1[j]? = some xv /\ jd 11 s.2.2.2.2 xv (p.rows.length + 8) ((kr (MK j) 10 p.rows.length p.rows).flatten ++ (bkR (MB j) ZR 10 8).flatten)) (μ := fun s => ps.length - s.1) (0, .slice none 0 0, [], [], []) ⟨Nat.zero_le _, rfl, .nil, fun j p h => by omega⟩ ZU
    (Imp.perm (by simp [slA])) ?_
  rintro ⟨i, lv2, ws, lsp2, D⟩ ⟨hi, hws, hl2, hD⟩
  simp only at hi hws hl2 hD;obtain ⟨ma, mc, rfl⟩ := hl2.form;refine GO ?_;by_cases hlt : i < ps.length
  · obtain ⟨⟨pv, prows, psp⟩, hp⟩ : ∃ p, ps[i]? = some p := ⟨ps[i], Zg hlt⟩;have hpm := Zv hp;obtain ⟨hpo, hpl, hpn⟩ := hps _ hpm;simp only at hpo hpl hpn;obtain ⟨b, o, c, hve, m1⟩ := (show jd 1 L (.slice la ps.length lc) ps.length (ps.map fun q => q.v) from hrd).cell hp;simp only [Value.slice.injEq, true_and] at hve;obtain ⟨rfl, rfl⟩ := hve;obtain ⟨pa, pc, hpv⟩ := hpo.form;have hml := jJ (wP (mk := MK i) (f := 10) (k := prows.length) hpl);rw [jb] at hml;obtain ⟨ms, hms⟩ : ∃ ms, ms = (kr (MK i) 10 prows.length prows).flatten := ⟨_, rfl⟩;have hpo2 : ku 11 pv prows.length ms psp := by
      rw [<- hms] at hml;have hol := hpo.len;generalize hpf : prows.flatten = pf at hpo hol;generalize prows.length = pn at *;cases hpo with
      | mk q1 q2 q3 => exact .mk hml Zo q3
      | nil =>
        have : ms = [] := List.length_eq_zero_iff.1 Zo;rw [this];exact .nil
    rw [phK_all hp];simp only [<- hms] at hml |-;simp only at m1;have hms2 : (kr (MK i) 10 prows.length prows).flatten = ms := hms.symm;generalize hpnn : prows.length = pn at *;rw [show decide ((i : Int) < (ps.length : Int)) = true from Zt Zo];refine GO ?_;refine VC.loop (α := Nat × Value × List Value × List kE) (Γf := fun s => [(0, .slice (some ⟨b, o, none⟩) ps.length lc), (3, .slice ma i mc), (6, vi i), (7, s.2.1), (8, vi s.1)]) (Hf := fun s => [L, slA (.slice ma i mc) ws lsp2, D, slA s.2.1 (ms ++ (bkR (MB i) ZR 10 s.1).flatten) s.2.2.1, s.2.2.2, ((phK MK 10 ps.length ps).drop (i + 1)).flatMap owR])
      (I := fun s => s.1 <= 8 /\ ku 11 s.2.1 (pn + s.1) (ms ++ (bkR (MB i) ZR 10 s.1).flatten) s.2.2.1 /\ Kept 11 s.2.2.2 pv pn ms s.2.1 (pn + s.1)) (μ := fun s => 8 - s.1) (0, pv, psp, []) ⟨Nat.zero_le _, by simpa [bkR] using hpo2, Kept.start hpo2⟩ ZU
      (Imp.perm (by simp [bkR])) ?_
    rintro ⟨k, xv, xsp, E⟩ ⟨hk, hxv, hE⟩
    simp only at hk hxv hE;obtain ⟨xa, xc, rfl⟩ := hxv.form;by_cases h16 : k < 8
    · refine GO ?_;simp only [show (k : Int) < 8 by omega, decide_true];refine GO ?_;refine kH (beh_spec i k Zo Zo) Zr ?_;refine GO ?_;have hrow : (bkR (MB i) ZR 10 (k + 1)).flatten = (bkR (MB i) ZR 10 k).flatten ++ ZR.set 10 (vi (behZ i k)) := by rw [bkR_succ, hMBe];simp
      refine ki (out := ZR.set 10 (vi (behZ i k))) Zr (by rw [hZR];rfl) (fun q3 => ?_);have hsucc := hrow;refine st_append2 (k := pn + k) (m := 1) (xs := ms ++ (bkR (MB i) ZR 10 k).flatten) (sp := xsp) (ys := ZR.set 10 (vi (behZ i k))) Zr Zr hxv ZK Zr ?_ (by rw [hZR];rfl) (by rw [hZR];rfl) Zr Zd Zo ?_ ?_
      · exact ⟨by rw [List.length_set, hZl], fun a ha => by simp only [List.flatten_cons, List.mem_append];exact .inl ha⟩
      · intro b3 o3 c3 sp' hxe hsl';rw [List.append_assoc, <- hsucc] at hsl' |-;simp only [Value.slice.injEq, true_and] at hxe;obtain ⟨rfl, rfl⟩ := hxe;refine GO ?_;refine ⟨(k + 1, .slice (some ⟨b3, o3, none⟩) (pn + k + 1) xc, sp', E), ⟨by show k + 1 <= 8;omega, hsl', ?_⟩, by simp only;omega, ZU, ZI⟩;rcases hE with h | ⟨h1, b4, o4, c4, h2, h3⟩
        · exact .inl h
        · simp only [Value.slice.injEq, Option.some.injEq, Addr.mk.injEq, and_true] at h3;obtain ⟨⟨rfl, rfl⟩, _, rfl⟩ := h3;exact .inr ⟨h1, _, _, _, h2, rfl⟩
      · intro sv' sp' hsl';rw [List.append_assoc, <- hsucc] at hsl' |-;obtain ⟨a', c', rfl⟩ := hsl'.form;refine GO ?_;exact ⟨(k + 1, .slice a' (pn + k + 1) c', sp', slA (.slice xa (pn + k) xc) (ms ++ (bkR (MB i) ZR 10 k).flatten) xsp ++ E), ⟨by show k + 1 <= 8;omega, hsl', hE.moved hxv hml Zo⟩, by simp only;omega, ZU, Imp.cut (M := [L, slA (.slice ma i mc) ws lsp2, D, slA (.slice a' (pn + k + 1) c') (ms ++ (bkR (MB i) ZR 10 (k + 1)).flatten) sp', slA (.slice xa (pn + k) xc) (ms ++ (bkR (MB i) ZR 10 k).flatten) xsp, E, ((phK MK 10 ps.length ps).drop (i + 1)).flatMap owR]) ZI (Imp.perm Zs)⟩
    · obtain rfl : k = 8 := by omega
      refine GO ?_;refine ki (out := [.slice xa (pn + 8) xc]) Zr Zr (fun q3 => ?_);refine GO ?_;refine j8 (k := i) (m := 1) (xs := ws) (sp := lsp2) (ys := [.slice xa (pn + 8) xc]) Zr Zr hl2 ZK Zr ?_ rfl Zr Zr Zd Zo (fun sv' sp' hsl' => ?_)
      · exact Zal
      obtain ⟨a', c', rfl⟩ := hsl'.form;refine GO ?_;have hdone := hE.done hxv hml Zo;have hx16 : jd 11 (slA (.slice xa (pn + 8) xc) (ms ++ (bkR (MB i) ZR 10 8).flatten) xsp ++ E) (.slice xa (pn + 8) xc) (pn + 8) (ms ++ (bkR (MB i) ZR 10 8).flatten) := hxv.rd.mono (fun a ha => Zw _ ha);refine ⟨(i + 1, .slice a' (i + 1) c', ws ++ [.slice xa (pn + 8) xc], sp', D ++ (slA (.slice xa (pn + 8) xc) (ms ++ (bkR (MB i) ZR 10 8).flatten) xsp ++ E)), ⟨by show i + 1 <= ps.length;omega, by simp [hws], hsl', fun j p hj hpj => ?_⟩, by simp only;omega, ZU, Imp.cut (M := [L, slA (.slice a' (i + 1) c') (ws ++ [.slice xa (pn + 8) xc]) sp', D, slA (.slice xa (pn + 8) xc) (ms ++ (bkR (MB i) ZR 10 8).flatten) xsp, E, ((phK MK 10 ps.length ps).drop (i + 1)).flatMap owR]) ZI (Imp.perm Zs)⟩;simp only at hj |-;by_cases hji : j < i
      · obtain ⟨d1, yv, d2, d3⟩ := hD j p hji hpj;exact ⟨d1.mono (fun a ha => Zw _ ha), yv, by rw [List.getElem?_append_left Zo];exact d2, d3.mono (fun a ha => Zw _ ha)⟩
      · obtain rfl : j = i := by omega
        rw [hp] at hpj;cases hpj;simp only [hpnn, hms2];exact ⟨hdone.mono (fun a ha => List.mem_append_right _ ha), _, by rw [List.getElem?_append_right Zo, hws];simp, hx16.mono (fun a ha => List.mem_append_right _ ha)⟩
  obtain rfl : i = ps.length := by omega
  have hrd2 := hl2.rd;generalize slA (.slice ma ps.length mc) ws lsp2 = L2 at hrd2 |-;generalize ((phK MK 10 ps.length ps).drop ps.length).flatMap owR = D0;rw [show decide ((ps.length : Int) < (ps.length : Int)) = false from Zf Zo];refine GO ?_;refine VC.loop (α := Nat) (Γf := fun i => [(0, .slice la ps.length lc), (3, .slice ma ps.length mc), (9, vi i)]) (Hf := fun i => [L, L2, D]) (I := fun i => i <= ps.length) (μ := fun i => ps.length - i) 0 (Nat.zero_le _) ZU ZI ?_;intro i hi;refine GO ?_;by_cases hlt : i < ps.length;rotate_left
  · skip
    rw [show decide ((i : Int) < (ps.length : Int)) = false from Zf Zo];refine GO ?_;exact kC (Post := []) (.inr rfl) (.tmp Zr .nil) ⟨rfl, rfl⟩ Imp.nil
  obtain ⟨⟨pv, prows, psp⟩, hp⟩ : ∃ p, ps[i]? = some p := ⟨ps[i], Zg hlt⟩;obtain ⟨hpo, hpl, hpn⟩ := hps _ (Zv hp);obtain ⟨d1, xv, d2, d3⟩ := hD i _ hlt hp;simp only at hpl hpn d1 d3;obtain ⟨b, o, c, hve, m1⟩ := (show jd 1 L (.slice la ps.length lc) ps.length (ps.map fun q => q.v) from hrd).cell hp;simp only [Value.slice.injEq, true_and] at hve;obtain ⟨rfl, rfl⟩ := hve;have hwm : jd 1 L2 (.slice ma ws.length mc) ws.length (ws.map fun q => q) := by rw [List.map_id', hws];exact hrd2
  obtain ⟨b2, o2, c2, hve2, m2⟩ := hwm.cell d2;simp only [Value.slice.injEq, true_and] at hve2;obtain ⟨rfl, rfl⟩ := hve2;obtain ⟨pa, pc, rfl⟩ := d1.form;obtain ⟨xa, xc, rfl⟩ := d3.form;simp only at m1;have hml := jJ (wP (mk := MK i) (f := 10) (k := prows.length) hpl);rw [jb] at hml;have hc1 : ∀ k, k < prows.length -> (kr (MK i) 10 prows.length prows).flatten[k * 11 + 10]? = some (vi (jr i k)) := fun k hk => by rw [mark_cell Zo hpl hk hk, hMKe]
  have hc2 : ∀ k, k < 8 -> ((kr (MK i) 10 prows.length prows).flatten ++ (bkR (MB i) ZR 10 8).flatten)[(prows.length + k) * 11 + 10]? = some (vi (behZ i k)) := fun k hk => by
    rw [List.getElem?_append_right (by rw [hml, Nat.add_mul];omega), hml, show (prows.length + k) * 11 + 10 - prows.length * 11 = k * 11 + 10 by rw [Nat.add_mul];omega];rw [flat_get Zo (fun r hr => by rw [bkR_all r hr, hZl]) (bkR_get hk), List.getElem?_set_self Zo, hMBe]
  have hc3 : ∀ k, k < prows.length -> ((kr (MK i) 10 prows.length prows).flatten ++ (bkR (MB i) ZR 10 8).flatten)[k * 11 + 10]? = some (vi (jr i k)) := fun k hk => by
    have := hc1 k hk;rw [List.getElem?_append_left (List.getElem?_eq_some_iff.1 this).1];exact this
  generalize (kr (MK i) 10 prows.length prows).flatten ++ (bkR (MB i) ZR 10 8).flatten = ms2 at d3 hc2 hc3;generalize (kr (MK i) 10 prows.length prows).flatten = ms at d1 hc1;generalize hpnn : prows.length = pn at *;rw [show decide ((i : Int) < (ps.length : Int)) = true from Zt Zo];refine GO ?_;refine VC.loop (α := Nat) (Γf := fun k => [(0, .slice (some ⟨b, o, none⟩) ps.length lc), (3, .slice (some ⟨b2, o2, none⟩) ps.length mc), (9, vi i), (10, vi pn), (11, vi k)]) (Hf := fun i => [L, L2, D]) (I := fun k => k <= pn) (μ := fun k => pn - k) 0 (Nat.zero_le _) ZU ZI ?_;intro k hk;refine GO ?_;by_cases hlk : k < pn
  · obtain ⟨b3, o3, c3, hve3, e1⟩ := d1.part (hc1 k hlk) Zo;obtain ⟨b4, o4, c4, hve4, e2⟩ := d3.part (hc3 k hlk) Zo;simp only [Value.slice.injEq, true_and] at hve3 hve4;obtain ⟨rfl, rfl⟩ := hve3;obtain ⟨rfl, rfl⟩ := hve4;rw [show decide ((k : Int) < (pn : Int)) = true from Zt Zo];refine GO ?_;refine VC.seq_draws (α := Unit) (fun _ => [(0, .slice (some ⟨b, o, none⟩) ps.length lc), (3, .slice (some ⟨b2, o2, none⟩) ps.length mc), (9, vi i), (10, vi pn), (11, vi k), (104, .bool false)]) (fun _ => [L, L2, D]) (fun _ => True) ⟨?_, ?_, ?_, ?_, ?_, ?_, ?_, ?_, ?_, trivial⟩ (fun _ _ => ?_)
    all_goals first
      | (refine GO ?_
         refine kH (z5 i k Zo Zo) Zr ?_;refine GO ?_;simp only [eq_self, decide_true, Bool.not_true];refine GO ?_;refine kH (z5 i k Zo Zo) Zr ?_;refine GO ?_
         (try simp only [eq_self, decide_true, Bool.not_true])
         (try refine GO ?_)
         exact ⟨(), trivial, ZU, ZI⟩)
      | skip
    refine GO ?_;exact ⟨k + 1, Zo, Zo, ZU, ZI⟩
  rw [show decide ((k : Int) < (pn : Int)) = false from Zf Zo];refine GO ?_;refine VC.loop (α := Nat) (Γf := fun k => [(0, .slice (some ⟨b, o, none⟩) ps.length lc), (3, .slice (some ⟨b2, o2, none⟩) ps.length mc), (9, vi i), (10, vi pn), (12, vi k)]) (Hf := fun _ => [L, L2, D]) (I := fun k => k <= 8) (μ := fun k => 8 - k) 0 (Nat.zero_le _) ZU ZI ?_;intro k hk;by_cases h16 : k < 8
  · refine GO ?_;simp only [show (k : Int) < 8 by omega, decide_true];obtain ⟨b4, o4, c4, hve4, e1⟩ := d3.part (hc2 k h16) Zo;simp only [Value.slice.injEq, true_and] at hve4;obtain ⟨rfl, rfl⟩ := hve4;refine GO ?_;refine VC.seq_draws (α := Unit) (fun _ => [(0, .slice (some ⟨b, o, none⟩) ps.length lc), (3, .slice (some ⟨b2, o2, none⟩) ps.length mc), (9, vi i), (10, vi pn), (12, vi k), (122, .bool false)]) (fun _ => [L, L2, D]) (fun _ => True) ⟨?_, ?_, ?_, trivial⟩ (fun _ _ => ?_)
    all_goals first
      | (refine GO ?_
         refine kH (beh_spec i k Zo Zo) Zr ?_;refine GO ?_
         (try simp only [eq_self, decide_true, Bool.not_true])
         (try refine GO ?_)
         exact ⟨(), trivial, ZU, ZI⟩)
      | skip
    refine GO ?_;exact ⟨k + 1, Zo, Zo, ZU, ZI⟩
  · obtain rfl : k = 8 := by omega
    refine GO ?_;exact ⟨i + 1, Zo, Zo, ZU, ZI⟩
end Go.Proofs.YtmnmandpdadedaaGreatDoor
namespace Go.Proofs.YtmnmandpdadedaaGreatDoor
open Go Go.V
set_option maxHeartbeats 6400000
set_option maxRecDepth 100000
theorem ownLits_spec (lv : Value) (ps : List OwnR) (lsp : List Value) (hl : ku 1 lv ps.length (ps.map (·.v)) lsp) (hps : ∀ p ∈ ps, OkR 5 p) (hN : ps.length <= 1073741824) :
    Fun Tryz.prog 62 [lv] [slA lv (ps.map (·.v)) lsp, ps.flatMap owR] (fun v Post => v = .bool true /\ Post = []) := by
  obtain ⟨MK, hMK⟩ : ∃ MK : Nat -> Nat -> Value, MK = fun i k => vi (jr i k) := ⟨_, rfl⟩
  have hMKe : ∀ i k, MK i k = vi (jr i k) := fun i k => by rw [hMK]
  obtain ⟨MB, hMB⟩ : ∃ MB : Nat -> Nat -> Value, MB = fun i k => vi (behZ i k) := ⟨_, rfl⟩
  have hMBe : ∀ i k, MB i k = vi (behZ i k) := fun i k => by rw [hMB]
  obtain ⟨ZR, hZR⟩ : ∃ ZR : List Value, ZR = [.int .u8 0, .int .i64 0, .int .u64 0, .string ⟨#[]⟩, .slice none 0 0] := ⟨_, rfl⟩;have hZl : ZR.length = 5 := by rw [hZR];rfl
  refine Fun.intro low62 (by simp [n62]) ?_;obtain ⟨la, lc, hle⟩ := hl.form;have hrd := hl.rd;rw [hle] at hrd |-;generalize slA (.slice la ps.length lc) (ps.map (·.v)) lsp = L at hrd |-;refine GO ?_;refine VC.loop (α := Nat) (Γf := fun i => [(0, .slice la ps.length lc), (3, .slice none 0 0), (4, vi i)]) (Hf := fun i => [L, (phK MK 1 i ps).flatMap owR]) (I := fun i => i <= ps.length) (μ := fun i => ps.length - i) 0 (Nat.zero_le _) ZU (by rw [phK_zero];exact IMx) ?_;intro i hi;refine GO ?_;by_cases hlt : i < ps.length
  · obtain ⟨⟨pv, prows, psp⟩, hp⟩ : ∃ p, ps[i]? = some p := ⟨ps[i], Zg hlt⟩;have hpm := Zv hp;obtain ⟨hpo, hpl, hpn⟩ := hps _ hpm;simp only at hpo hpl hpn;obtain ⟨b, o, c, hve, m1⟩ := (show jd 1 L (.slice la ps.length lc) ps.length (ps.map fun q => q.v) from hrd).cell hp;simp only [Value.slice.injEq, true_and] at hve;obtain ⟨rfl, rfl⟩ := hve;have hg := phK_get (mk := MK) (f := 1) (i := i) hp;rw [if_neg Zo] at hg;obtain ⟨rest, hr1, hr2⟩ := flat_take (f := owR) hg;have hr3 := hr2 ⟨pv, kr (MK i) 1 prows.length prows, psp⟩;rw [<- phK_succ hp] at hr3;obtain ⟨pa, pc, hpv⟩ := hpo.form;simp only [hpv] at m1;rw [show decide ((i : Int) < (ps.length : Int)) = true from Zt Zo];refine GO ?_;refine VC.loop (α := Nat) (Γf := fun k => [(0, .slice (some ⟨b, o, none⟩) ps.length lc), (3, .slice none 0 0), (4, vi i), (5, vi k)]) (Hf := fun k => [L, slA (.slice pa prows.length pc) (kr (MK i) 1 k prows).flatten psp, rest]) (I := fun k => k <= prows.length) (μ := fun k => prows.length - k) 0 (Nat.zero_le _) ZU
      (Imp.perm (by rw [markK_zero];simp only [List.flatten_cons, List.flatten_nil, List.append_nil];refine List.Perm.append_left _ ?_;simpa [owR, hpv] using hr1)) ?_
    intro k hk;refine GO ?_;by_cases hlk : k < prows.length;rotate_left
    · obtain rfl : k = prows.length := by omega
      rw [show decide ((prows.length : Int) < (prows.length : Int)) = false from Zf Zo];refine GO ?_;refine ⟨i + 1, Zo, Zo, ZU, Imp.perm ?_⟩;simp only [List.flatten_cons, List.flatten_nil, List.append_nil];refine List.Perm.append_left _ ?_;simpa [owR, hpv] using hr3.symm
    rw [show decide ((k : Int) < (prows.length : Int)) = true from Zt Zo];have hfl := jJ (wP (mk := MK i) (f := 1) (k := k) hpl);rw [jb] at hfl;have hms := mark_flat (mk := MK i) (f := 1) (k := k) Zo hpl hlk;rw [hpv] at hpo;obtain ⟨b2, o2, c2, hpe, _, _⟩ := hpo.some Zo;simp only [Value.slice.injEq, true_and] at hpe;obtain ⟨rfl, rfl⟩ := hpe;have hu : Upd [kA b2 o2 ((kr (MK i) 1 k prows).flatten ++ psp), L, rest] b2 (o2 + (k * 5 + 1)) [MK i k] [kA b2 o2 ((kr (MK i) 1 (k + 1) prows).flatten ++ psp), L, rest] := by
      rw [hms, <- List.set_append_left _ _ Zo];exact Upd.set1 rfl (by rw [List.length_append];omega)
    rw [hMKe] at hu;refine GO ?_;refine VC.draws ⟨?_, ?_, trivial⟩
    all_goals
      refine GO ?_;refine kH (z5 i k Zo Zo) Zr ?_;refine GO ?_;refine VO.imp (H' := [kA b2 o2 ((kr (MK i) 1 k prows).flatten ++ psp), L, rest]) (Imp.perm (by simp only [slA, List.flatten_cons, List.flatten_nil];exact jP _ _ _)) ?_;refine jD (us := [vi (jr i k)]) Zr Zr Zr Zr Zr hu ?_;refine GO ?_;exact ⟨k + 1, Zo, Zo, ZU, Imp.cut (M := [L, kA b2 o2 ((kr (MK i) 1 (k + 1) prows).flatten ++ psp), rest]) ZI (by simp only [slA];exact Imp.refl _)⟩
  obtain rfl : i = ps.length := by omega
  rw [show decide ((ps.length : Int) < (ps.length : Int)) = false from Zf Zo];refine GO ?_;refine VC.loop (α := Nat × Value × List Value × List Value × List kE) (Γf := fun s => [(0, .slice la ps.length lc), (3, s.2.1), (6, vi s.1)]) (Hf := fun s => [L, slA s.2.1 s.2.2.1 s.2.2.2.1, s.2.2.2.2, ((phK MK 1 ps.length ps).drop s.1).flatMap owR])
    (I := fun s => s.1 <= ps.length /\ s.2.2.1.length = s.1 /\ ku 1 s.2.1 s.1 s.2.2.1 s.2.2.2.1 /\ ∀ j p, j < s.1 -> ps[j]? = some p -> jd 5 s.2.2.2.2 p.v p.rows.length (kr (MK j) 1 p.rows.length p.rows).flatten /\ ∃ xv, s.2.2.1[j]? = some xv /\ jd 5 s.2.2.2.2 xv (p.rows.length + 8) ((kr (MK j) 1 p.rows.length p.rows).flatten ++ (bkR (MB j) ZR 1 8).flatten)) (μ := fun s => ps.length - s.1) (0, .slice none 0 0, [], [], []) ⟨Nat.zero_le _, rfl, .nil, fun j p h => by omega⟩ ZU
    (Imp.perm (by simp [slA])) ?_
  rintro ⟨i, lv2, ws, lsp2, D⟩ ⟨hi, hws, hl2, hD⟩
  simp only at hi hws hl2 hD;obtain ⟨ma, mc, rfl⟩ := hl2.form;refine GO ?_;by_cases hlt : i < ps.length
  · obtain ⟨⟨pv, prows, psp⟩, hp⟩ : ∃ p, ps[i]? = some p := ⟨ps[i], Zg hlt⟩;have hpm := Zv hp;obtain ⟨hpo, hpl, hpn⟩ := hps _ hpm;simp only at hpo hpl hpn;obtain ⟨b, o, c, hve, m1⟩ := (show jd 1 L (.slice la ps.length lc) ps.length (ps.map fun q => q.v) from hrd).cell hp;simp only [Value.slice.injEq, true_and] at hve;obtain ⟨rfl, rfl⟩ := hve;obtain ⟨pa, pc, hpv⟩ := hpo.form;have hml := jJ (wP (mk := MK i) (f := 1) (k := prows.length) hpl);rw [jb] at hml;obtain ⟨ms, hms⟩ : ∃ ms, ms = (kr (MK i) 1 prows.length prows).flatten := ⟨_, rfl⟩;have hpo2 : ku 5 pv prows.length ms psp := by
      rw [<- hms] at hml;have hol := hpo.len;generalize hpf : prows.flatten = pf at hpo hol;generalize prows.length = pn at *;cases hpo with
      | mk q1 q2 q3 => exact .mk hml Zo q3
      | nil =>
        have : ms = [] := List.length_eq_zero_iff.1 Zo;rw [this];exact .nil
    rw [phK_all hp];simp only [<- hms] at hml |-;simp only at m1;have hms2 : (kr (MK i) 1 prows.length prows).flatten = ms := hms.symm;generalize hpnn : prows.length = pn at *;rw [show decide ((i : Int) < (ps.length : Int)) = true from Zt Zo];refine GO ?_;refine VC.loop (α := Nat × Value × List Value × List kE) (Γf := fun s => [(0, .slice (some ⟨b, o, none⟩) ps.length lc), (3, .slice ma i mc), (6, vi i), (7, s.2.1), (8, vi s.1)]) (Hf := fun s => [L, slA (.slice ma i mc) ws lsp2, D, slA s.2.1 (ms ++ (bkR (MB i) ZR 1 s.1).flatten) s.2.2.1, s.2.2.2, ((phK MK 1 ps.length ps).drop (i + 1)).flatMap owR])
      (I := fun s => s.1 <= 8 /\ ku 5 s.2.1 (pn + s.1) (ms ++ (bkR (MB i) ZR 1 s.1).flatten) s.2.2.1 /\ Kept 5 s.2.2.2 pv pn ms s.2.1 (pn + s.1)) (μ := fun s => 8 - s.1) (0, pv, psp, []) ⟨Nat.zero_le _, by simpa [bkR] using hpo2, Kept.start hpo2⟩ ZU
      (Imp.perm (by simp [bkR])) ?_
    rintro ⟨k, xv, xsp, E⟩ ⟨hk, hxv, hE⟩
    simp only at hk hxv hE;obtain ⟨xa, xc, rfl⟩ := hxv.form;by_cases h16 : k < 8
    · refine GO ?_;simp only [show (k : Int) < 8 by omega, decide_true];refine GO ?_;refine kH (beh_spec i k Zo Zo) Zr ?_;refine GO ?_;have hrow : (bkR (MB i) ZR 1 (k + 1)).flatten = (bkR (MB i) ZR 1 k).flatten ++ ZR.set 1 (vi (behZ i k)) := by rw [bkR_succ, hMBe];simp
      refine ki (out := ZR.set 1 (vi (behZ i k))) Zr (by rw [hZR];rfl) (fun q3 => ?_);have hsucc := hrow;refine st_append2 (k := pn + k) (m := 1) (xs := ms ++ (bkR (MB i) ZR 1 k).flatten) (sp := xsp) (ys := ZR.set 1 (vi (behZ i k))) Zr Zr hxv ZK Zr ?_ (by rw [hZR];rfl) (by rw [hZR];rfl) Zr Zd Zo ?_ ?_
      · exact ⟨by rw [List.length_set, hZl], fun a ha => by simp only [List.flatten_cons, List.mem_append];exact .inl ha⟩
      · intro b3 o3 c3 sp' hxe hsl';rw [List.append_assoc, <- hsucc] at hsl' |-;simp only [Value.slice.injEq, true_and] at hxe;obtain ⟨rfl, rfl⟩ := hxe;refine GO ?_;refine ⟨(k + 1, .slice (some ⟨b3, o3, none⟩) (pn + k + 1) xc, sp', E), ⟨by show k + 1 <= 8;omega, hsl', ?_⟩, by simp only;omega, ZU, ZI⟩;rcases hE with h | ⟨h1, b4, o4, c4, h2, h3⟩
        · exact .inl h
        · simp only [Value.slice.injEq, Option.some.injEq, Addr.mk.injEq, and_true] at h3;obtain ⟨⟨rfl, rfl⟩, _, rfl⟩ := h3;exact .inr ⟨h1, _, _, _, h2, rfl⟩
      · intro sv' sp' hsl';rw [List.append_assoc, <- hsucc] at hsl' |-;obtain ⟨a', c', rfl⟩ := hsl'.form;refine GO ?_;exact ⟨(k + 1, .slice a' (pn + k + 1) c', sp', slA (.slice xa (pn + k) xc) (ms ++ (bkR (MB i) ZR 1 k).flatten) xsp ++ E), ⟨by show k + 1 <= 8;omega, hsl', hE.moved hxv hml Zo⟩, by simp only;omega, ZU, Imp.cut (M := [L, slA (.slice ma i mc) ws lsp2, D, slA (.slice a' (pn + k + 1) c') (ms ++ (bkR (MB i) ZR 1 (k + 1)).flatten) sp', slA (.slice xa (pn + k) xc) (ms ++ (bkR (MB i) ZR 1 k).flatten) xsp, E, ((phK MK 1 ps.length ps).drop (i + 1)).flatMap owR]) ZI (Imp.perm Zs)⟩
    · obtain rfl : k = 8 := by omega
      refine GO ?_;refine ki (out := [.slice xa (pn + 8) xc]) Zr Zr (fun q3 => ?_);refine GO ?_;refine j8 (k := i) (m := 1) (xs := ws) (sp := lsp2) (ys := [.slice xa (pn + 8) xc]) Zr Zr hl2 ZK Zr ?_ rfl Zr Zr Zd Zo (fun sv' sp' hsl' => ?_)
      · exact Zal
      obtain ⟨a', c', rfl⟩ := hsl'.form;refine GO ?_;have hdone := hE.done hxv hml Zo;have hx16 : jd 5 (slA (.slice xa (pn + 8) xc) (ms ++ (bkR (MB i) ZR 1 8).flatten) xsp ++ E) (.slice xa (pn + 8) xc) (pn + 8) (ms ++ (bkR (MB i) ZR 1 8).flatten) := hxv.rd.mono (fun a ha => Zw _ ha);refine ⟨(i + 1, .slice a' (i + 1) c', ws ++ [.slice xa (pn + 8) xc], sp', D ++ (slA (.slice xa (pn + 8) xc) (ms ++ (bkR (MB i) ZR 1 8).flatten) xsp ++ E)), ⟨by show i + 1 <= ps.length;omega, by simp [hws], hsl', fun j p hj hpj => ?_⟩, by simp only;omega, ZU, Imp.cut (M := [L, slA (.slice a' (i + 1) c') (ws ++ [.slice xa (pn + 8) xc]) sp', D, slA (.slice xa (pn + 8) xc) (ms ++ (bkR (MB i) ZR 1 8).flatten) xsp, E, ((phK MK 1 ps.length ps).drop (i + 1)).flatMap owR]) ZI (Imp.perm Zs)⟩;simp only at hj |-;by_cases hji : j < i
      · obtain ⟨d1, yv, d2, d3⟩ := hD j p hji hpj;exact ⟨d1.mono (fun a ha => Zw _ ha), yv, by rw [List.getElem?_append_left Zo];exact d2, d3.mono (fun a ha => Zw _ ha)⟩
      · obtain rfl : j = i := by omega
        rw [hp] at hpj;cases hpj;simp only [hpnn, hms2];exact ⟨hdone.mono (fun a ha => List.mem_append_right _ ha), _, by rw [List.getElem?_append_right Zo, hws];simp, hx16.mono (fun a ha => List.mem_append_right _ ha)⟩
  obtain rfl : i = ps.length := by omega
  have hrd2 := hl2.rd;generalize slA (.slice ma ps.length mc) ws lsp2 = L2 at hrd2 |-;generalize ((phK MK 1 ps.length ps).drop ps.length).flatMap owR = D0;rw [show decide ((ps.length : Int) < (ps.length : Int)) = false from Zf Zo];refine GO ?_;refine VC.loop (α := Nat) (Γf := fun i => [(0, .slice la ps.length lc), (3, .slice ma ps.length mc), (9, vi i)]) (Hf := fun i => [L, L2, D]) (I := fun i => i <= ps.length) (μ := fun i => ps.length - i) 0 (Nat.zero_le _) ZU ZI ?_;intro i hi;refine GO ?_;by_cases hlt : i < ps.length;rotate_left
  · skip
    rw [show decide ((i : Int) < (ps.length : Int)) = false from Zf Zo];refine GO ?_;exact kC (Post := []) (.inr rfl) (.tmp Zr .nil) ⟨rfl, rfl⟩ Imp.nil
  obtain ⟨⟨pv, prows, psp⟩, hp⟩ : ∃ p, ps[i]? = some p := ⟨ps[i], Zg hlt⟩;obtain ⟨hpo, hpl, hpn⟩ := hps _ (Zv hp);obtain ⟨d1, xv, d2, d3⟩ := hD i _ hlt hp;simp only at hpl hpn d1 d3;obtain ⟨b, o, c, hve, m1⟩ := (show jd 1 L (.slice la ps.length lc) ps.length (ps.map fun q => q.v) from hrd).cell hp;simp only [Value.slice.injEq, true_and] at hve;obtain ⟨rfl, rfl⟩ := hve;have hwm : jd 1 L2 (.slice ma ws.length mc) ws.length (ws.map fun q => q) := by rw [List.map_id', hws];exact hrd2
  obtain ⟨b2, o2, c2, hve2, m2⟩ := hwm.cell d2;simp only [Value.slice.injEq, true_and] at hve2;obtain ⟨rfl, rfl⟩ := hve2;obtain ⟨pa, pc, rfl⟩ := d1.form;obtain ⟨xa, xc, rfl⟩ := d3.form;simp only at m1;have hml := jJ (wP (mk := MK i) (f := 1) (k := prows.length) hpl);rw [jb] at hml;have hc1 : ∀ k, k < prows.length -> (kr (MK i) 1 prows.length prows).flatten[k * 5 + 1]? = some (vi (jr i k)) := fun k hk => by rw [mark_cell Zo hpl hk hk, hMKe]
  have hc2 : ∀ k, k < 8 -> ((kr (MK i) 1 prows.length prows).flatten ++ (bkR (MB i) ZR 1 8).flatten)[(prows.length + k) * 5 + 1]? = some (vi (behZ i k)) := fun k hk => by
    rw [List.getElem?_append_right (by rw [hml, Nat.add_mul];omega), hml, show (prows.length + k) * 5 + 1 - prows.length * 5 = k * 5 + 1 by rw [Nat.add_mul];omega];rw [flat_get Zo (fun r hr => by rw [bkR_all r hr, hZl]) (bkR_get hk), List.getElem?_set_self Zo, hMBe]
  have hc3 : ∀ k, k < prows.length -> ((kr (MK i) 1 prows.length prows).flatten ++ (bkR (MB i) ZR 1 8).flatten)[k * 5 + 1]? = some (vi (jr i k)) := fun k hk => by
    have := hc1 k hk;rw [List.getElem?_append_left (List.getElem?_eq_some_iff.1 this).1];exact this
  generalize (kr (MK i) 1 prows.length prows).flatten ++ (bkR (MB i) ZR 1 8).flatten = ms2 at d3 hc2 hc3;generalize (kr (MK i) 1 prows.length prows).flatten = ms at d1 hc1;generalize hpnn : prows.length = pn at *;rw [show decide ((i : Int) < (ps.length : Int)) = true from Zt Zo];refine GO ?_;refine VC.loop (α := Nat) (Γf := fun k => [(0, .slice (some ⟨b, o, none⟩) ps.length lc), (3, .slice (some ⟨b2, o2, none⟩) ps.length mc), (9, vi i), (10, vi pn), (11, vi k)]) (Hf := fun i => [L, L2, D]) (I := fun k => k <= pn) (μ := fun k => pn - k) 0 (Nat.zero_le _) ZU ZI ?_;intro k hk;refine GO ?_;by_cases hlk : k < pn
  · obtain ⟨b3, o3, c3, hve3, e1⟩ := d1.part (hc1 k hlk) Zo;obtain ⟨b4, o4, c4, hve4, e2⟩ := d3.part (hc3 k hlk) Zo;simp only [Value.slice.injEq, true_and] at hve3 hve4;obtain ⟨rfl, rfl⟩ := hve3;obtain ⟨rfl, rfl⟩ := hve4;rw [show decide ((k : Int) < (pn : Int)) = true from Zt Zo];refine GO ?_;refine VC.seq_draws (α := Unit) (fun _ => [(0, .slice (some ⟨b, o, none⟩) ps.length lc), (3, .slice (some ⟨b2, o2, none⟩) ps.length mc), (9, vi i), (10, vi pn), (11, vi k), (104, .bool false)]) (fun _ => [L, L2, D]) (fun _ => True) ⟨?_, ?_, ?_, ?_, ?_, ?_, ?_, ?_, ?_, trivial⟩ (fun _ _ => ?_)
    all_goals first
      | (refine GO ?_
         refine kH (z5 i k Zo Zo) Zr ?_;refine GO ?_;simp only [eq_self, decide_true, Bool.not_true];refine GO ?_;refine kH (z5 i k Zo Zo) Zr ?_;refine GO ?_
         (try simp only [eq_self, decide_true, Bool.not_true])
         (try refine GO ?_)
         exact ⟨(), trivial, ZU, ZI⟩)
      | skip
    refine GO ?_;exact ⟨k + 1, Zo, Zo, ZU, ZI⟩
  rw [show decide ((k : Int) < (pn : Int)) = false from Zf Zo];refine GO ?_;refine VC.loop (α := Nat) (Γf := fun k => [(0, .slice (some ⟨b, o, none⟩) ps.length lc), (3, .slice (some ⟨b2, o2, none⟩) ps.length mc), (9, vi i), (10, vi pn), (12, vi k)]) (Hf := fun _ => [L, L2, D]) (I := fun k => k <= 8) (μ := fun k => 8 - k) 0 (Nat.zero_le _) ZU ZI ?_;intro k hk;by_cases h16 : k < 8
  · refine GO ?_;simp only [show (k : Int) < 8 by omega, decide_true];obtain ⟨b4, o4, c4, hve4, e1⟩ := d3.part (hc2 k h16) Zo;simp only [Value.slice.injEq, true_and] at hve4;obtain ⟨rfl, rfl⟩ := hve4;refine GO ?_;refine VC.seq_draws (α := Unit) (fun _ => [(0, .slice (some ⟨b, o, none⟩) ps.length lc), (3, .slice (some ⟨b2, o2, none⟩) ps.length mc), (9, vi i), (10, vi pn), (12, vi k), (122, .bool false)]) (fun _ => [L, L2, D]) (fun _ => True) ⟨?_, ?_, ?_, trivial⟩ (fun _ _ => ?_)
    all_goals first
      | (refine GO ?_
         refine kH (beh_spec i k Zo Zo) Zr ?_;refine GO ?_
         (try simp only [eq_self, decide_true, Bool.not_true])
         (try refine GO ?_)
         exact ⟨(), trivial, ZU, ZI⟩)
      | skip
    refine GO ?_;exact ⟨k + 1, Zo, Zo, ZU, ZI⟩
  · obtain rfl : k = 8 := by omega
    refine GO ?_;exact ⟨i + 1, Zo, Zo, ZU, ZI⟩
end Go.Proofs.YtmnmandpdadedaaGreatDoor
namespace Go.Proofs.YtmnmandpdadedaaGreatDoor
open Go Go.V
set_option maxRecDepth 100000
def F64 : FIR := laid (X := ⟨123, [.tmp 2], (qS [qz 2 false] [0] (qS [qo 3 (.mv (.const (.slice none 0 0)))] [0,3] (.seq (qS [qk 4 0] [0,3,4] (.block 0 (.loop (.seq (qS [qm 13 4,qm 14 0,qL 15 14,qb 16 .lss 13 15] [0,3,4,16] (qC 16 .skip (.exit 0))) (.seq (.block 1 (qS [qk 5 0] [0,3,4,5] (.block 2 (.loop (.seq (qS [qm 19 5,qm 20 0,qm 21 4,qi 22 1 20 21,ql 23 22,qL 24 23,qb 25 .lss 19 24] [0,3,4,5,25] (qC 25 .skip (.exit 2))) (.seq (.block 3 (qD [qm 28 0,qm 29 4,qi 30 1 28 29,ql 31 30,qm 32 5,qm 33 4,qm 34 5,qx 35 100 [33,34],qx 36 102 [35],qi 37 1 31 32,qs 1 37 36] [[0,1,2,3,4,5,6,7,8,9,10], [0,1,2,4,5,6,7,3,8,9,10], [0,1,2,4,5,6,7,8,3,9,10]] [0,3,4,5])) (.reg [qm 26 5,qc 27 .add 26 1,qm 5 27] [0,3,4,5]))))))) (.reg [qm 17 4,qc 18 .add 17 1,qm 4 18] [0,3,4])))))) (.seq (qS [qk 6 0] [0,3,6] (.block 4 (.loop (.seq (qS [qm 38 6,qm 39 0,qL 40 39,qb 41 .lss 38 40] [0,3,6,41] (qC 41 .skip (.exit 4))) (.seq (.block 5 (qS [qm 44 0,qm 45 6,qi 46 1 44 45,ql 47 46,qm 7 47] [0,3,6,7] (.seq (qS [qk 8 0] [0,3,6,7,8] (.block 6 (.loop (.seq (qS [qm 48 8,qc 49 .lss 48 8] [0,3,6,7,8,49] (qC 49 .skip (.exit 6))) (.seq (.block 7 (.reg [qm 52 7,qm 53 6,qm 54 8,qx 55 101 [53,54],qx 56 102 [55],qo 57 (.bslice 9 1 [(.string ⟨#[]⟩)] [(0, 1, (.tmp 56))]),
  qo 58 (.append 9 1 16 [(.string ⟨#[]⟩)] (.tmp 52) (.tmp 57)),qm 7 58] [0,3,6,7,8])) (.reg [qm 50 8,qc 51 .add 50 1,qm 8 51] [0,3,6,7,8])))))) (.reg [qm 59 3,qm 60 7,qo 61 (.bslice 22 1 [(.slice none 0 0)] [(0, 1, (.tmp 60))]),
  qo 62 (.append 22 1 24 [(.slice none 0 0)] (.tmp 59) (.tmp 61)),qm 3 62] [0,3,6])))) (.reg [qm 42 6,qc 43 .add 42 1,qm 6 43] [0,3,6])))))) (.seq (qS [qk 9 0] [0,3,9] (.block 8 (.loop (.seq (qS [qm 63 9,qm 64 0,qL 65 64,qb 66 .lss 63 65] [0,3,9,66] (qC 66 .skip (.exit 8))) (.seq (.block 9 (qS [qm 69 0,qm 70 9,qi 71 1 69 70,ql 72 71,qL 73 72,qm 10 73] [0,3,9,10] (.seq (qS [qk 11 0] [0,3,9,10,11] (.block 10 (.loop (.seq (qS [qm 74 11,qm 75 10,qb 76 .lss 74 75] [0,3,9,10,11,76] (qC 76 .skip (.exit 10))) (.seq (.block 11 (.seq (.free [qm 79 0,qm 80 9,qi 81 1 79 80,ql 82 81,qm 83 11,qi 84 1 82 83,ql 85 84,qm 86 9,qm 87 11,qx 88 100 [86,87],qx 89 102 [88],
  qb 90 .neq 85 89,qm 91 90,qu 91 (qm 92 3),qu 91 (qm 93 9),qu 91 (qi 94 1 92 93),qu 91 (ql 95 94),qu 91 (qm 96 11),qu 91 (qi 97 1 95 96),
  qu 91 (ql 98 97),qu 91 (qm 99 9),qu 91 (qm 100 11),qu 91 (qx 101 100 [99,100]),qu 91 (qx 102 102 [101]),qu 91 (qb 103 .neq 98 102),qr 104 91 103] [[], [], [1,0], [0,1,2], [], [4,2,1,0,3], [3,0,1,2,4,5], [], [], [8,7], [7,8,9], [9,8,7,10,5,4,2,1,0,3,6], [6,3,0,1,2,4,5,10,7,8,9,11], [11,9,8,7,10,5,4,2,1,0,3,6,12], [11,9,8,7,10,5,4,2,1,0,3,6,12], [14,12,6,3,0,1,2,4,5,10,7,8,9,11,13], [13,11,9,8,7,10,5,4,2,1,0,3,6,12,14,15], [11,9,8,7,10,5,4,2,1,0,3,6,12], [17,15,14,12,6,3,0,1,2,4,5,10,7,8,9,11,13,16], [16,13,11,9,8,7,10,5,4,2,1,0,3,6,12,14,15,17,18], [11,9,8,7,10,5,4,2,1,0,3,6,12], [11,9,8,7,10,5,4,2,1,0,3,6,12], [21,12,6,3,0,1,2,4,5,10,7,8,9,11,20], [20,11,9,8,7,10,5,4,2,1,0,3,6,12,21,22], [22,21,20,23,18,17,15,14,12,6,3,0,1,2,4,5,10,7,8,9,11,13,16,19], [19,16,13,14,15,17,18,23,20,21,22,24,11,9,8,7,10,5,4,2,1,0,3,6,12]] [0,3,9,10,11,104]) (qC 104 (qS [qz 2 false] [2] .ret) .skip))) (.reg [qm 77 11,qc 78 .add 77 1,qm 11 78] [0,3,9,10,11])))))) (qS [qk 12 0] [0,3,9,10,12] (.block 12 (.loop (.seq (qS [qm 105 12,qc 106 .lss 105 8] [0,3,9,10,12,106] (qC 106 .skip (.exit 12))) (.seq (.block 13 (.seq (qD [qm 109 3,qm 110 9,qi 111 1 109 110,ql 112 111,qm 113 10,qm 114 12,qb 115 .add 113 114,qi 116 1 112 115,ql 117 116,qm 118 9,
  qm 119 12,qx 120 101 [118,119],qx 121 102 [120],qb 122 .neq 117 121] [[0,1,2,3,4,5,6,7,8,9,10,11,12,13], [0,1,2,3,4,5,6,7,9,10,11,8,12,13], [0,1,2,4,5,6,9,10,11,3,7,8,12,13], [0,1,2,3,4,5,6,7,9,10,11,12,8,13], [0,1,2,4,5,6,9,10,11,3,7,12,8,13], [0,1,2,4,5,6,9,10,11,12,3,7,8,13]] [0,3,9,10,12,122]) (qC 122 (qS [qz 2 false] [2] .ret) .skip))) (.reg [qm 107 12,qc 108 .add 107 1,qm 12 108] [0,3,9,10,12]))))))))) (.reg [qm 67 9,qc 68 .add 67 1,qm 9 68] [0,3,9])))))) (qS [qz 2 true] [2] .ret))))))⟩)
theorem n64 : F64.n = 123 := rfl
theorem low64 : kV Tryz.prog (kpO F64) (kM [(8,[[0,1,2,3,4,5,6,7,8,9,10], [0,1,2,4,5,6,7,3,8,9,10], [0,1,2,4,5,6,7,8,3,9,10]]), (25,[]), (30,[[0,1,2,3,4,5,6,7,8,9,10,11,12,13], [0,1,2,3,4,5,6,7,9,10,11,8,12,13], [0,1,2,4,5,6,9,10,11,3,7,8,12,13], [0,1,2,3,4,5,6,7,9,10,11,12,8,13], [0,1,2,4,5,6,9,10,11,3,7,12,8,13], [0,1,2,4,5,6,9,10,11,12,3,7,8,13]])]) 64 = some F64 := by kernel_rfl
end Go.Proofs.YtmnmandpdadedaaGreatDoor
namespace Go.Proofs.YtmnmandpdadedaaGreatDoor
open Go Go.V
set_option maxHeartbeats 6400000
set_option maxRecDepth 100000
theorem neq_self (s : ByteArray) : zg .neq (.string s) (.string s) = some (.bool false) := by simp [zg, strV]
theorem ownNames_spec (lv : Value) (ps : List OwnR) (lsp : List Value) (hl : ku 1 lv ps.length (ps.map (·.v)) lsp) (hps : ∀ p ∈ ps, OkR 1 p) (hN : ps.length <= 1073741824) :
    Fun Tryz.prog 64 [lv] [slA lv (ps.map (·.v)) lsp, ps.flatMap owR] (fun v Post => v = .bool true /\ Post = []) := by
  obtain ⟨MK, hMK⟩ : ∃ MK : Nat -> Nat -> Value, MK = fun i k => .string (zc (jr i k)) := ⟨_, rfl⟩
  have hMKe : ∀ i k, MK i k = .string (zc (jr i k)) := fun i k => by rw [hMK]
  obtain ⟨MB, hMB⟩ : ∃ MB : Nat -> Nat -> Value, MB = fun i k => .string (zc (behZ i k)) := ⟨_, rfl⟩
  have hMBe : ∀ i k, MB i k = .string (zc (behZ i k)) := fun i k => by rw [hMB]
  obtain ⟨ZR, hZR⟩ : ∃ ZR : List Value, ZR = [.string ⟨#[]⟩] := ⟨_, rfl⟩;have hZl : ZR.length = 1 := by rw [hZR];rfl
  refine Fun.intro low64 (by simp [n64]) ?_;obtain ⟨la, lc, hle⟩ := hl.form;have hrd := hl.rd;rw [hle] at hrd |-;generalize slA (.slice la ps.length lc) (ps.map (·.v)) lsp = L at hrd |-;refine GO ?_;refine VC.loop (α := Nat) (Γf := fun i => [(0, .slice la ps.length lc), (3, .slice none 0 0), (4, vi i)]) (Hf := fun i => [L, (phK MK 0 i ps).flatMap owR]) (I := fun i => i <= ps.length) (μ := fun i => ps.length - i) 0 (Nat.zero_le _) ZU (by rw [phK_zero];exact IMx) ?_;intro i hi;refine GO ?_;by_cases hlt : i < ps.length
  · obtain ⟨⟨pv, prows, psp⟩, hp⟩ : ∃ p, ps[i]? = some p := ⟨ps[i], Zg hlt⟩;have hpm := Zv hp;obtain ⟨hpo, hpl, hpn⟩ := hps _ hpm;simp only at hpo hpl hpn;obtain ⟨b, o, c, hve, m1⟩ := (show jd 1 L (.slice la ps.length lc) ps.length (ps.map fun q => q.v) from hrd).cell hp;simp only [Value.slice.injEq, true_and] at hve;obtain ⟨rfl, rfl⟩ := hve;have hg := phK_get (mk := MK) (f := 0) (i := i) hp;rw [if_neg Zo] at hg;obtain ⟨rest, hr1, hr2⟩ := flat_take (f := owR) hg;have hr3 := hr2 ⟨pv, kr (MK i) 0 prows.length prows, psp⟩;rw [<- phK_succ hp] at hr3;obtain ⟨pa, pc, hpv⟩ := hpo.form;simp only [hpv] at m1;rw [show decide ((i : Int) < (ps.length : Int)) = true from Zt Zo];refine GO ?_;refine VC.loop (α := Nat) (Γf := fun k => [(0, .slice (some ⟨b, o, none⟩) ps.length lc), (3, .slice none 0 0), (4, vi i), (5, vi k)]) (Hf := fun k => [L, slA (.slice pa prows.length pc) (kr (MK i) 0 k prows).flatten psp, rest]) (I := fun k => k <= prows.length) (μ := fun k => prows.length - k) 0 (Nat.zero_le _) ZU
      (Imp.perm (by rw [markK_zero];simp only [List.flatten_cons, List.flatten_nil, List.append_nil];refine List.Perm.append_left _ ?_;simpa [owR, hpv] using hr1)) ?_
    intro k hk;refine GO ?_;by_cases hlk : k < prows.length;rotate_left
    · obtain rfl : k = prows.length := by omega
      rw [show decide ((prows.length : Int) < (prows.length : Int)) = false from Zf Zo];refine GO ?_;refine ⟨i + 1, Zo, Zo, ZU, Imp.perm ?_⟩;simp only [List.flatten_cons, List.flatten_nil, List.append_nil];refine List.Perm.append_left _ ?_;simpa [owR, hpv] using hr3.symm
    rw [show decide ((k : Int) < (prows.length : Int)) = true from Zt Zo];have hfl := jJ (wP (mk := MK i) (f := 0) (k := k) hpl);rw [jb] at hfl;have hms := mark_flat (mk := MK i) (f := 0) (k := k) Zo hpl hlk;rw [hpv] at hpo;obtain ⟨b2, o2, c2, hpe, _, _⟩ := hpo.some Zo;simp only [Value.slice.injEq, true_and] at hpe;obtain ⟨rfl, rfl⟩ := hpe;have hu : Upd [kA b2 o2 ((kr (MK i) 0 k prows).flatten ++ psp), L, rest] b2 (o2 + k) [MK i k] [kA b2 o2 ((kr (MK i) 0 (k + 1) prows).flatten ++ psp), L, rest] := by
      rw [hms, <- List.set_append_left _ _ Zo];exact Upd.set1 Zo (by rw [List.length_append];omega)
    rw [hMKe] at hu;refine GO ?_;refine VC.draws ⟨?_, ?_, ?_, trivial⟩
    all_goals
      refine GO ?_;refine kH (z5 i k Zo Zo) Zr ?_;refine GO ?_;refine kH (mark_spec (jr i k) (by unfold jr;omega) (by unfold jr;omega)) Zr ?_;refine GO ?_;refine VO.imp (H' := [kA b2 o2 ((kr (MK i) 0 k prows).flatten ++ psp), L, rest]) (Imp.perm (by simp only [slA, List.flatten_cons, List.flatten_nil];exact jP _ _ _)) ?_;refine jD (us := [.string (zc (jr i k))]) Zr Zr Zr Zr Zr hu ?_;refine GO ?_;exact ⟨k + 1, Zo, Zo, ZU, Imp.cut (M := [L, kA b2 o2 ((kr (MK i) 0 (k + 1) prows).flatten ++ psp), rest]) ZI (by simp only [slA];exact Imp.refl _)⟩
  obtain rfl : i = ps.length := by omega
  rw [show decide ((ps.length : Int) < (ps.length : Int)) = false from Zf Zo];refine GO ?_;refine VC.loop (α := Nat × Value × List Value × List Value × List kE) (Γf := fun s => [(0, .slice la ps.length lc), (3, s.2.1), (6, vi s.1)]) (Hf := fun s => [L, slA s.2.1 s.2.2.1 s.2.2.2.1, s.2.2.2.2, ((phK MK 0 ps.length ps).drop s.1).flatMap owR])
    (I := fun s => s.1 <= ps.length /\ s.2.2.1.length = s.1 /\ ku 1 s.2.1 s.1 s.2.2.1 s.2.2.2.1 /\ ∀ j p, j < s.1 -> ps[j]? = some p -> jd 1 s.2.2.2.2 p.v p.rows.length (kr (MK j) 0 p.rows.length p.rows).flatten /\ ∃ xv, s.2.2.1[j]? = some xv /\ jd 1 s.2.2.2.2 xv (p.rows.length + 8) ((kr (MK j) 0 p.rows.length p.rows).flatten ++ (bkR (MB j) ZR 0 8).flatten)) (μ := fun s => ps.length - s.1) (0, .slice none 0 0, [], [], []) ⟨Nat.zero_le _, rfl, .nil, fun j p h => by omega⟩ ZU
    (Imp.perm (by simp [slA])) ?_
  rintro ⟨i, lv2, ws, lsp2, D⟩ ⟨hi, hws, hl2, hD⟩
  simp only at hi hws hl2 hD;obtain ⟨ma, mc, rfl⟩ := hl2.form;refine GO ?_;by_cases hlt : i < ps.length
  · obtain ⟨⟨pv, prows, psp⟩, hp⟩ : ∃ p, ps[i]? = some p := ⟨ps[i], Zg hlt⟩;have hpm := Zv hp;obtain ⟨hpo, hpl, hpn⟩ := hps _ hpm;simp only at hpo hpl hpn;obtain ⟨b, o, c, hve, m1⟩ := (show jd 1 L (.slice la ps.length lc) ps.length (ps.map fun q => q.v) from hrd).cell hp;simp only [Value.slice.injEq, true_and] at hve;obtain ⟨rfl, rfl⟩ := hve;obtain ⟨pa, pc, hpv⟩ := hpo.form;have hml := jJ (wP (mk := MK i) (f := 0) (k := prows.length) hpl);rw [jb] at hml;obtain ⟨ms, hms⟩ : ∃ ms, ms = (kr (MK i) 0 prows.length prows).flatten := ⟨_, rfl⟩;have hpo2 : ku 1 pv prows.length ms psp := by
      rw [<- hms] at hml;have hol := hpo.len;generalize hpf : prows.flatten = pf at hpo hol;generalize prows.length = pn at *;cases hpo with
      | mk q1 q2 q3 => exact .mk hml Zo q3
      | nil =>
        have : ms = [] := List.length_eq_zero_iff.1 Zo;rw [this];exact .nil
    rw [phK_all hp];simp only [<- hms] at hml |-;simp only at m1;have hms2 : (kr (MK i) 0 prows.length prows).flatten = ms := hms.symm;generalize hpnn : prows.length = pn at *;rw [show decide ((i : Int) < (ps.length : Int)) = true from Zt Zo];refine GO ?_;refine VC.loop (α := Nat × Value × List Value × List kE) (Γf := fun s => [(0, .slice (some ⟨b, o, none⟩) ps.length lc), (3, .slice ma i mc), (6, vi i), (7, s.2.1), (8, vi s.1)]) (Hf := fun s => [L, slA (.slice ma i mc) ws lsp2, D, slA s.2.1 (ms ++ (bkR (MB i) ZR 0 s.1).flatten) s.2.2.1, s.2.2.2, ((phK MK 0 ps.length ps).drop (i + 1)).flatMap owR])
      (I := fun s => s.1 <= 8 /\ ku 1 s.2.1 (pn + s.1) (ms ++ (bkR (MB i) ZR 0 s.1).flatten) s.2.2.1 /\ Kept 1 s.2.2.2 pv pn ms s.2.1 (pn + s.1)) (μ := fun s => 8 - s.1) (0, pv, psp, []) ⟨Nat.zero_le _, by simpa [bkR] using hpo2, Kept.start hpo2⟩ ZU
      (Imp.perm (by simp [bkR])) ?_
    rintro ⟨k, xv, xsp, E⟩ ⟨hk, hxv, hE⟩
    simp only at hk hxv hE;obtain ⟨xa, xc, rfl⟩ := hxv.form;by_cases h16 : k < 8
    · refine GO ?_;simp only [show (k : Int) < 8 by omega, decide_true];refine GO ?_;refine kH (beh_spec i k Zo Zo) Zr ?_;refine GO ?_;refine kH (mark_spec (behZ i k) (by unfold behZ;omega) (by unfold behZ;omega)) Zr ?_;refine GO ?_;have hrow : (bkR (MB i) ZR 0 (k + 1)).flatten = (bkR (MB i) ZR 0 k).flatten ++ ZR.set 0 (.string (zc (behZ i k))) := by rw [bkR_succ, hMBe];simp
      refine ki (out := ZR.set 0 (.string (zc (behZ i k)))) Zr (by rw [hZR];rfl) (fun q3 => ?_);have hsucc := hrow;refine st_append2 (k := pn + k) (m := 1) (xs := ms ++ (bkR (MB i) ZR 0 k).flatten) (sp := xsp) (ys := ZR.set 0 (.string (zc (behZ i k)))) Zr Zr hxv ZK Zr ?_ (by rw [hZR];rfl) (by rw [hZR];rfl) Zr Zd Zo ?_ ?_
      · exact ⟨by rw [List.length_set, hZl], fun a ha => by simp only [List.flatten_cons, List.mem_append];exact .inl ha⟩
      · intro b3 o3 c3 sp' hxe hsl';rw [List.append_assoc, <- hsucc] at hsl' |-;simp only [Value.slice.injEq, true_and] at hxe;obtain ⟨rfl, rfl⟩ := hxe;refine GO ?_;refine ⟨(k + 1, .slice (some ⟨b3, o3, none⟩) (pn + k + 1) xc, sp', E), ⟨by show k + 1 <= 8;omega, hsl', ?_⟩, by simp only;omega, ZU, ZI⟩;rcases hE with h | ⟨h1, b4, o4, c4, h2, h3⟩
        · exact .inl h
        · simp only [Value.slice.injEq, Option.some.injEq, Addr.mk.injEq, and_true] at h3;obtain ⟨⟨rfl, rfl⟩, _, rfl⟩ := h3;exact .inr ⟨h1, _, _, _, h2, rfl⟩
      · intro sv' sp' hsl';rw [List.append_assoc, <- hsucc] at hsl' |-;obtain ⟨a', c', rfl⟩ := hsl'.form;refine GO ?_;exact ⟨(k + 1, .slice a' (pn + k + 1) c', sp', slA (.slice xa (pn + k) xc) (ms ++ (bkR (MB i) ZR 0 k).flatten) xsp ++ E), ⟨by show k + 1 <= 8;omega, hsl', hE.moved hxv hml Zo⟩, by simp only;omega, ZU, Imp.cut (M := [L, slA (.slice ma i mc) ws lsp2, D, slA (.slice a' (pn + k + 1) c') (ms ++ (bkR (MB i) ZR 0 (k + 1)).flatten) sp', slA (.slice xa (pn + k) xc) (ms ++ (bkR (MB i) ZR 0 k).flatten) xsp, E, ((phK MK 0 ps.length ps).drop (i + 1)).flatMap owR]) ZI (Imp.perm Zs)⟩
    · obtain rfl : k = 8 := by omega
      refine GO ?_;refine ki (out := [.slice xa (pn + 8) xc]) Zr Zr (fun q3 => ?_);refine GO ?_;refine j8 (k := i) (m := 1) (xs := ws) (sp := lsp2) (ys := [.slice xa (pn + 8) xc]) Zr Zr hl2 ZK Zr ?_ rfl Zr Zr Zd Zo (fun sv' sp' hsl' => ?_)
      · exact Zal
      obtain ⟨a', c', rfl⟩ := hsl'.form;refine GO ?_;have hdone := hE.done hxv hml Zo;have hx16 : jd 1 (slA (.slice xa (pn + 8) xc) (ms ++ (bkR (MB i) ZR 0 8).flatten) xsp ++ E) (.slice xa (pn + 8) xc) (pn + 8) (ms ++ (bkR (MB i) ZR 0 8).flatten) := hxv.rd.mono (fun a ha => Zw _ ha);refine ⟨(i + 1, .slice a' (i + 1) c', ws ++ [.slice xa (pn + 8) xc], sp', D ++ (slA (.slice xa (pn + 8) xc) (ms ++ (bkR (MB i) ZR 0 8).flatten) xsp ++ E)), ⟨by show i + 1 <= ps.length;omega, by simp [hws], hsl', fun j p hj hpj => ?_⟩, by simp only;omega, ZU, Imp.cut (M := [L, slA (.slice a' (i + 1) c') (ws ++ [.slice xa (pn + 8) xc]) sp', D, slA (.slice xa (pn + 8) xc) (ms ++ (bkR (MB i) ZR 0 8).flatten) xsp, E, ((phK MK 0 ps.length ps).drop (i + 1)).flatMap owR]) ZI (Imp.perm Zs)⟩;simp only at hj |-;by_cases hji : j < i
      · obtain ⟨d1, yv, d2, d3⟩ := hD j p hji hpj;exact ⟨d1.mono (fun a ha => Zw _ ha), yv, by rw [List.getElem?_append_left Zo];exact d2, d3.mono (fun a ha => Zw _ ha)⟩
      · obtain rfl : j = i := by omega
        rw [hp] at hpj;cases hpj;simp only [hpnn, hms2];exact ⟨hdone.mono (fun a ha => List.mem_append_right _ ha), _, by rw [List.getElem?_append_right Zo, hws];simp, hx16.mono (fun a ha => List.mem_append_right _ ha)⟩
  obtain rfl : i = ps.length := by omega
  have hrd2 := hl2.rd;generalize slA (.slice ma ps.length mc) ws lsp2 = L2 at hrd2 |-;generalize ((phK MK 0 ps.length ps).drop ps.length).flatMap owR = D0;rw [show decide ((ps.length : Int) < (ps.length : Int)) = false from Zf Zo];refine GO ?_;refine VC.loop (α := Nat) (Γf := fun i => [(0, .slice la ps.length lc), (3, .slice ma ps.length mc), (9, vi i)]) (Hf := fun i => [L, L2, D]) (I := fun i => i <= ps.length) (μ := fun i => ps.length - i) 0 (Nat.zero_le _) ZU ZI ?_;intro i hi;refine GO ?_;by_cases hlt : i < ps.length;rotate_left
  · skip
    rw [show decide ((i : Int) < (ps.length : Int)) = false from Zf Zo];refine GO ?_;exact kC (Post := []) (.inr rfl) (.tmp Zr .nil) ⟨rfl, rfl⟩ Imp.nil
  obtain ⟨⟨pv, prows, psp⟩, hp⟩ : ∃ p, ps[i]? = some p := ⟨ps[i], Zg hlt⟩;obtain ⟨hpo, hpl, hpn⟩ := hps _ (Zv hp);obtain ⟨d1, xv, d2, d3⟩ := hD i _ hlt hp;simp only at hpl hpn d1 d3;obtain ⟨b, o, c, hve, m1⟩ := (show jd 1 L (.slice la ps.length lc) ps.length (ps.map fun q => q.v) from hrd).cell hp;simp only [Value.slice.injEq, true_and] at hve;obtain ⟨rfl, rfl⟩ := hve;have hwm : jd 1 L2 (.slice ma ws.length mc) ws.length (ws.map fun q => q) := by rw [List.map_id', hws];exact hrd2
  obtain ⟨b2, o2, c2, hve2, m2⟩ := hwm.cell d2;simp only [Value.slice.injEq, true_and] at hve2;obtain ⟨rfl, rfl⟩ := hve2;obtain ⟨pa, pc, rfl⟩ := d1.form;obtain ⟨xa, xc, rfl⟩ := d3.form;simp only at m1;have hml := jJ (wP (mk := MK i) (f := 0) (k := prows.length) hpl);rw [jb] at hml;have hc1 : ∀ k, k < prows.length -> (kr (MK i) 0 prows.length prows).flatten[k * 1 + 0]? = some (.string (zc (jr i k))) := fun k hk => by rw [mark_cell Zo hpl hk hk, hMKe]
  have hc2 : ∀ k, k < 8 -> ((kr (MK i) 0 prows.length prows).flatten ++ (bkR (MB i) ZR 0 8).flatten)[(prows.length + k) * 1 + 0]? = some (.string (zc (behZ i k))) := fun k hk => by
    rw [List.getElem?_append_right (by rw [hml, Nat.add_mul];omega), hml, show (prows.length + k) * 1 + 0 - prows.length * 1 = k * 1 + 0 by rw [Nat.add_mul];omega];rw [flat_get Zo (fun r hr => by rw [bkR_all r hr, hZl]) (bkR_get hk), List.getElem?_set_self Zo, hMBe]
  have hc3 : ∀ k, k < prows.length -> ((kr (MK i) 0 prows.length prows).flatten ++ (bkR (MB i) ZR 0 8).flatten)[k * 1 + 0]? = some (.string (zc (jr i k))) := fun k hk => by
    have := hc1 k hk;rw [List.getElem?_append_left (List.getElem?_eq_some_iff.1 this).1];exact this
  generalize (kr (MK i) 0 prows.length prows).flatten ++ (bkR (MB i) ZR 0 8).flatten = ms2 at d3 hc2 hc3;generalize (kr (MK i) 0 prows.length prows).flatten = ms at d1 hc1;generalize hpnn : prows.length = pn at *;rw [show decide ((i : Int) < (ps.length : Int)) = true from Zt Zo];refine GO ?_;refine VC.loop (α := Nat) (Γf := fun k => [(0, .slice (some ⟨b, o, none⟩) ps.length lc), (3, .slice (some ⟨b2, o2, none⟩) ps.length mc), (9, vi i), (10, vi pn), (11, vi k)]) (Hf := fun i => [L, L2, D]) (I := fun k => k <= pn) (μ := fun k => pn - k) 0 (Nat.zero_le _) ZU ZI ?_;intro k hk;refine GO ?_;by_cases hlk : k < pn
  · obtain ⟨b3, o3, c3, hve3, e1⟩ := d1.part (hc1 k hlk) Zo;obtain ⟨b4, o4, c4, hve4, e2⟩ := d3.part (hc3 k hlk) Zo;simp only [Value.slice.injEq, true_and] at hve3 hve4;obtain ⟨rfl, rfl⟩ := hve3;obtain ⟨rfl, rfl⟩ := hve4;rw [show decide ((k : Int) < (pn : Int)) = true from Zt Zo];refine GO ?_;rw [Nat.mul_one, Nat.add_zero] at e1 e2;refine VC.seq (VC.free 26 (fun i' v B => match i' with
      | 0 => v = .slice (some ⟨b, o, none⟩) ps.length lc /\ B = []
      | 1 => v = vi i /\ B = []
      | 2 => v = .pointer (some ⟨b, o + i, none⟩) /\ B = []
      | 3 => v = .slice (some ⟨b3, o3, none⟩) pn pc /\ B = []
      | 4 => v = vi k /\ B = []
      | 5 => v = .pointer (some ⟨b3, o3 + k, none⟩) /\ B = []
      | 6 => v = .string (zc (jr i k)) /\ B = []
      | 7 => v = vi i /\ B = []
      | 8 => v = vi k /\ B = []
      | 9 => v = vi (jr i k) /\ B = []
      | 10 => v = .string (zc (jr i k)) /\ B = []
      | 11 => v = .bool false /\ B = []
      | 12 => v = .bool false /\ B = []
      | 13 => v = .slice (some ⟨b2, o2, none⟩) ps.length mc /\ B = []
      | 14 => v = vi i /\ B = []
      | 15 => v = .pointer (some ⟨b2, o2 + i, none⟩) /\ B = []
      | 16 => v = .slice (some ⟨b4, o4, none⟩) (pn + 8) xc /\ B = []
      | 17 => v = vi k /\ B = []
      | 18 => v = .pointer (some ⟨b4, o4 + k, none⟩) /\ B = []
      | 19 => v = .string (zc (jr i k)) /\ B = []
      | 20 => v = vi i /\ B = []
      | 21 => v = vi k /\ B = []
      | 22 => v = vi (jr i k) /\ B = []
      | 23 => v = .string (zc (jr i k)) /\ B = []
      | 24 => v = .bool false /\ B = []
      | 25 => v = .bool false /\ B = []
      | _ => True) Zd Zd Zd ?_ ?_)
    · intro i' hi' vv hg Γ' hh hkp
      match i', hi' with
      | 0, _ =>
        show VO _ _ [⟨some 79, none, .mv (.tmp 0)⟩] _ _ _ _;exact ka (hkp 0 _ rfl Zd) Zad
      | 1, _ =>
        show VO _ _ [⟨some 80, none, .mv (.tmp 9)⟩] _ _ _ _;exact ka (hkp 9 _ rfl Zd) Zad
      | 2, _ =>
        show VO _ _ [⟨some 81, none, .idxL 1 (.tmp 79) (.tmp 80)⟩] _ _ _ _;have e := hh 0 Zd 79 rfl;rw [(hg 0 Zd).1] at e;have e2 := hh 1 Zd 80 rfl;rw [(hg 1 Zd).1] at e2;exact jf (o' := o + i) e e2 ⟨Zo, Zo⟩ Zs (VO.nil ⟨_, [], rfl, ⟨rfl, rfl⟩, Imp.perm Zs⟩)
      | 3, _ =>
        show VO _ _ [⟨some 82, none, .load1 (.tmp 81)⟩] _ _ _ _;have e := hh 2 Zd 81 rfl;rw [(hg 2 Zd).1] at e;exact kI e Zm Zad
      | 4, _ =>
        show VO _ _ [⟨some 83, none, .mv (.tmp 11)⟩] _ _ _ _;exact ka (hkp 11 _ rfl Zd) Zad
      | 5, _ =>
        show VO _ _ [⟨some 84, none, .idxL 1 (.tmp 82) (.tmp 83)⟩] _ _ _ _;have e := hh 3 Zd 82 rfl;rw [(hg 3 Zd).1] at e;have e2 := hh 4 Zd 83 rfl;rw [(hg 4 Zd).1] at e2;exact jf (o' := o3 + k) e e2 ⟨Zo, Zo⟩ Zs (VO.nil ⟨_, [], rfl, ⟨rfl, rfl⟩, Imp.perm Zs⟩)
      | 6, _ =>
        show VO _ _ [⟨some 85, none, .load1 (.tmp 84)⟩] _ _ _ _;have e := hh 5 Zd 84 rfl;rw [(hg 5 Zd).1] at e;exact kI e Zm Zad
      | 7, _ =>
        show VO _ _ [⟨some 86, none, .mv (.tmp 9)⟩] _ _ _ _;exact ka (hkp 9 _ rfl Zd) Zad
      | 8, _ =>
        show VO _ _ [⟨some 87, none, .mv (.tmp 11)⟩] _ _ _ _;exact ka (hkp 11 _ rfl Zd) Zad
      | 9, _ =>
        show VO _ _ [⟨some 88, none, .call 100 [.tmp 86, .tmp 87]⟩] _ _ _ _;have e := hh 7 Zd 86 rfl;rw [(hg 7 Zd).1] at e;have e2 := hh 8 Zd 87 rfl;rw [(hg 8 Zd).1] at e2;exact kH (z5 i k Zo Zo) (by simp only [V.evs, V.ev, e, e2]) Zad
      | 10, _ =>
        show VO _ _ [⟨some 89, none, .call 102 [.tmp 88]⟩] _ _ _ _;have e := hh 9 Zd 88 rfl;rw [(hg 9 Zd).1] at e;exact kH (mark_spec (jr i k) (by unfold jr;omega) (by unfold jr;omega)) Zao Zad
      | 11, _ =>
        show VO _ _ [⟨some 90, none, .bin .neq (.tmp 85) (.tmp 89)⟩] _ _ _ _;have e := hh 6 Zd 85 rfl;rw [(hg 6 Zd).1] at e;have e2 := hh 10 Zd 89 rfl;rw [(hg 10 Zd).1] at e2;exact zT e e2 (neq_self _) (VO.nil ⟨_, [], rfl, ⟨rfl, rfl⟩, Imp.perm Zs⟩)
      | 12, _ =>
        show VO _ _ [⟨some 91, none, .mv (.tmp 90)⟩] _ _ _ _;have e := hh 11 Zd 90 rfl;rw [(hg 11 Zd).1] at e;exact ka e Zad
      | 13, _ =>
        show VO _ _ [⟨some 92, some (91, false), .mv (.tmp 3)⟩] _ _ _ _;have e91 := hh 12 Zd 91 rfl;rw [(hg 12 Zd).1] at e91;exact jS e91 (ka (hkp 3 _ rfl Zd) Zad)
      | 14, _ =>
        show VO _ _ [⟨some 93, some (91, false), .mv (.tmp 9)⟩] _ _ _ _;have e91 := hh 12 Zd 91 rfl;rw [(hg 12 Zd).1] at e91;exact jS e91 (ka (hkp 9 _ rfl Zd) Zad)
      | 15, _ =>
        show VO _ _ [⟨some 94, some (91, false), .idxL 1 (.tmp 92) (.tmp 93)⟩] _ _ _ _;have e91 := hh 12 Zd 91 rfl;rw [(hg 12 Zd).1] at e91;have e := hh 13 Zd 92 rfl;rw [(hg 13 Zd).1] at e;have e2 := hh 14 Zd 93 rfl;rw [(hg 14 Zd).1] at e2;exact jS e91 (jf (o' := o2 + i) e e2 ⟨Zo, Zo⟩ Zs (VO.nil ⟨_, [], rfl, ⟨rfl, rfl⟩, Imp.perm Zs⟩))
      | 16, _ =>
        show VO _ _ [⟨some 95, some (91, false), .load1 (.tmp 94)⟩] _ _ _ _;have e91 := hh 12 Zd 91 rfl;rw [(hg 12 Zd).1] at e91;have e := hh 15 Zd 94 rfl;rw [(hg 15 Zd).1] at e;exact jS e91 (kI e Zm Zad)
      | 17, _ =>
        show VO _ _ [⟨some 96, some (91, false), .mv (.tmp 11)⟩] _ _ _ _;have e91 := hh 12 Zd 91 rfl;rw [(hg 12 Zd).1] at e91;exact jS e91 (ka (hkp 11 _ rfl Zd) Zad)
      | 18, _ =>
        show VO _ _ [⟨some 97, some (91, false), .idxL 1 (.tmp 95) (.tmp 96)⟩] _ _ _ _;have e91 := hh 12 Zd 91 rfl;rw [(hg 12 Zd).1] at e91;have e := hh 16 Zd 95 rfl;rw [(hg 16 Zd).1] at e;have e2 := hh 17 Zd 96 rfl;rw [(hg 17 Zd).1] at e2;exact jS e91 (jf (o' := o4 + k) e e2 ⟨Zo, Zo⟩ Zs (VO.nil ⟨_, [], rfl, ⟨rfl, rfl⟩, Imp.perm Zs⟩))
      | 19, _ =>
        show VO _ _ [⟨some 98, some (91, false), .load1 (.tmp 97)⟩] _ _ _ _;have e91 := hh 12 Zd 91 rfl;rw [(hg 12 Zd).1] at e91;have e := hh 18 Zd 97 rfl;rw [(hg 18 Zd).1] at e;exact jS e91 (kI e Zm Zad)
      | 20, _ =>
        show VO _ _ [⟨some 99, some (91, false), .mv (.tmp 9)⟩] _ _ _ _;have e91 := hh 12 Zd 91 rfl;rw [(hg 12 Zd).1] at e91;exact jS e91 (ka (hkp 9 _ rfl Zd) Zad)
      | 21, _ =>
        show VO _ _ [⟨some 100, some (91, false), .mv (.tmp 11)⟩] _ _ _ _;have e91 := hh 12 Zd 91 rfl;rw [(hg 12 Zd).1] at e91;exact jS e91 (ka (hkp 11 _ rfl Zd) Zad)
      | 22, _ =>
        show VO _ _ [⟨some 101, some (91, false), .call 100 [.tmp 99, .tmp 100]⟩] _ _ _ _;have e91 := hh 12 Zd 91 rfl;rw [(hg 12 Zd).1] at e91;have e := hh 20 Zd 99 rfl;rw [(hg 20 Zd).1] at e;have e2 := hh 21 Zd 100 rfl;rw [(hg 21 Zd).1] at e2;exact jS e91 (kH (z5 i k Zo Zo) (by simp only [V.evs, V.ev, e, e2]) Zad)
      | 23, _ =>
        show VO _ _ [⟨some 102, some (91, false), .call 102 [.tmp 101]⟩] _ _ _ _;have e91 := hh 12 Zd 91 rfl;rw [(hg 12 Zd).1] at e91;have e := hh 22 Zd 101 rfl;rw [(hg 22 Zd).1] at e;exact jS e91 (kH (mark_spec (jr i k) (by unfold jr;omega) (by unfold jr;omega)) Zao Zad)
      | 24, _ =>
        show VO _ _ [⟨some 103, some (91, false), .bin .neq (.tmp 98) (.tmp 102)⟩] _ _ _ _;have e91 := hh 12 Zd 91 rfl;rw [(hg 12 Zd).1] at e91;have e := hh 19 Zd 98 rfl;rw [(hg 19 Zd).1] at e;have e2 := hh 23 Zd 102 rfl;rw [(hg 23 Zd).1] at e2;exact jS e91 (zT e e2 (neq_self _) (VO.nil ⟨_, [], rfl, ⟨rfl, rfl⟩, Imp.perm Zs⟩))
      | 25, _ =>
        show VO _ _ [⟨some 104, none, .pick (.tmp 91) (.const (.bool true)) (.tmp 103)⟩] _ _ _ _;have e91 := hh 12 Zd 91 rfl;rw [(hg 12 Zd).1] at e91;have e := hh 24 Zd 103 rfl;rw [(hg 24 Zd).1] at e;exact w7 e91 e Zad
      | n + 26, h => exact absurd h Zo
    · intro vv hg Γ' hh hkp;show VO _ _ _ _ [(vv 0).2, (vv 1).2, (vv 2).2, (vv 3).2, (vv 4).2, (vv 5).2, (vv 6).2, (vv 7).2, (vv 8).2, (vv 9).2, (vv 10).2, (vv 11).2, (vv 12).2, (vv 13).2, (vv 14).2, (vv 15).2, (vv 16).2, (vv 17).2, (vv 18).2, (vv 19).2, (vv 20).2, (vv 21).2, (vv 22).2, (vv 23).2, (vv 24).2, (vv 25).2, L, L2, D] _ _;refine VO.imp (H' := [L, L2, D]) ZI ?_;have s104 := hh 25 Zd 104 rfl;rw [(hg 25 Zo).1] at s104;refine VO.sub (Δ := [(0, .slice (some ⟨b, o, none⟩) ps.length lc), (3, .slice (some ⟨b2, o2, none⟩) ps.length mc), (9, vi i), (10, vi pn), (11, vi k), (104, .bool false)]) (Sub.cons (hkp 0 _ rfl Zd) (Sub.cons (hkp 3 _ rfl Zd) (Sub.cons (hkp 9 _ rfl Zd) (Sub.cons (hkp 10 _ rfl Zd) (Sub.cons (hkp 11 _ rfl Zd) (Sub.cons s104 Sub.nil)))))) ?_;refine GO ?_;exact ⟨k + 1, Zo, Zo, ZU, ZI⟩
  rw [show decide ((k : Int) < (pn : Int)) = false from Zf Zo];refine GO ?_;refine VC.loop (α := Nat) (Γf := fun k => [(0, .slice (some ⟨b, o, none⟩) ps.length lc), (3, .slice (some ⟨b2, o2, none⟩) ps.length mc), (9, vi i), (10, vi pn), (12, vi k)]) (Hf := fun _ => [L, L2, D]) (I := fun k => k <= 8) (μ := fun k => 8 - k) 0 (Nat.zero_le _) ZU ZI ?_;intro k hk;by_cases h16 : k < 8
  · refine GO ?_;simp only [show (k : Int) < 8 by omega, decide_true];obtain ⟨b4, o4, c4, hve4, e1⟩ := d3.part (hc2 k h16) Zo;rw [Nat.mul_one, Nat.add_zero] at e1;simp only [Value.slice.injEq, true_and] at hve4;obtain ⟨rfl, rfl⟩ := hve4;refine GO ?_;refine VC.seq_draws (α := Unit) (fun _ => [(0, .slice (some ⟨b, o, none⟩) ps.length lc), (3, .slice (some ⟨b2, o2, none⟩) ps.length mc), (9, vi i), (10, vi pn), (12, vi k), (122, .bool false)]) (fun _ => [L, L2, D]) (fun _ => True) ⟨?_, ?_, ?_, ?_, ?_, ?_, trivial⟩ (fun _ _ => ?_)
    all_goals first
      | (refine GO ?_
         refine kH (beh_spec i k Zo Zo) Zr ?_;refine GO ?_;refine kH (mark_spec (behZ i k) (by unfold behZ;omega) (by unfold behZ;omega)) Zr ?_;refine GO ?_
         (try simp only [eq_self, decide_true, Bool.not_true])
         (try refine GO ?_)
         exact ⟨(), trivial, ZU, ZI⟩)
      | skip
    refine GO ?_;exact ⟨k + 1, Zo, Zo, ZU, ZI⟩
  · obtain rfl : k = 8 := by omega
    refine GO ?_;exact ⟨i + 1, Zo, Zo, ZU, ZI⟩
end Go.Proofs.YtmnmandpdadedaaGreatDoor
namespace Go.Proofs.YtmnmandpdadedaaGreatDoor
open Go Go.V
set_option maxHeartbeats 3200000
set_option maxRecDepth 100000
theorem ownTokens_nil : Fun Tryz.prog 61 [.slice none 0 0] [] (fun v Post => v = .bool true /\ Post = []) := by
  refine Fun.intro low61 (by simp [n61]) ?_;refine GO ?_;refine VC.loop (α := Unit) (Γf := fun _ => [(0, .slice none 0 0), (3, .slice none 0 0), (4, vi 0)]) (Hf := fun _ => []) (I := fun _ => True) (μ := fun _ => 0) () trivial ZU Imp.nil ?_;intro _ _;refine GO ?_;refine VC.loop (α := Unit) (Γf := fun _ => [(0, .slice none 0 0), (3, .slice none 0 0), (6, vi 0)]) (Hf := fun _ => []) (I := fun _ => True) (μ := fun _ => 0) () trivial ZU Imp.nil ?_;intro _ _;refine GO ?_;refine VC.loop (α := Unit) (Γf := fun _ => [(0, .slice none 0 0), (3, .slice none 0 0), (9, vi 0)]) (Hf := fun _ => []) (I := fun _ => True) (μ := fun _ => 0) () trivial ZU Imp.nil ?_;intro _ _;refine GO ?_;exact kC (Post := []) (.inr rfl) (.tmp Zr .nil) ⟨rfl, rfl⟩ Imp.nil
theorem Own_spec (p : Nat) (lv nv xv : Value) (ls ns xs : List OwnR) (lsp nsp xsp : List Value) (hl : ku 1 lv ls.length (ls.map (·.v)) lsp) (hls : ∀ q ∈ ls, OkR 5 q) (hln : ls.length <= 1073741824) (hn : ku 1 nv ns.length (ns.map (·.v)) nsp) (hns : ∀ q ∈ ns, OkR 11 q) (hnn : ns.length <= 1073741824)
    (hx : ku 1 xv xs.length (xs.map (·.v)) xsp) (hxs : ∀ q ∈ xs, OkR 1 q) (hxn : xs.length <= 1073741824) :
    Fun Tryz.prog 20 [kN p] [kA p 0 [.slice none 0 0, lv, nv, xv], slA lv (ls.map (·.v)) lsp, ls.flatMap owR, slA nv (ns.map (·.v)) nsp, ns.flatMap owR, slA xv (xs.map (·.v)) xsp, xs.flatMap owR] (fun v Post => v = .bool true /\ Post = []) := by
  have h1 := ownLits_spec lv ls lsp hl hls hln;have h2 := ownNodes_spec nv ns nsp hn hns hnn;have h3 := ownNames_spec xv xs xsp hx hxs hxn;obtain ⟨la, lc, rfl⟩ := hl.form;obtain ⟨na, nc, rfl⟩ := hn.form;obtain ⟨xa, xc, rfl⟩ := hx.form;refine Fun.intro low20 (by simp [n20]) ?_;generalize slA (.slice la ls.length lc) (ls.map (·.v)) lsp = A1 at h1 |-;generalize ls.flatMap owR = A2 at h1 |-;generalize slA (.slice na ns.length nc) (ns.map (·.v)) nsp = A3 at h2 |-;generalize ns.flatMap owR = A4 at h2 |-;generalize slA (.slice xa xs.length xc) (xs.map (·.v)) xsp = A5 at h3 |-;generalize xs.flatMap owR = A6 at h3 |-;refine GOH ?_;refine kD ownTokens_nil Zr ZP (fun v Post hv => ?_);obtain ⟨rfl, rfl⟩ := hv;simp only [CNx];refine GOH ?_;refine kD h1 Zr ZP (fun v Post hv => ?_);obtain ⟨rfl, rfl⟩ := hv;simp only [CNx];refine GOH ?_;refine kD h2 Zr ZP (fun v Post hv => ?_);obtain ⟨rfl, rfl⟩ := hv;simp only [CNx];refine GOH ?_;refine kD h3 Zr ZP (fun v Post hv => ?_);obtain ⟨rfl, rfl⟩ := hv;simp only [CNx];refine GOH ?_;exact kC (Post := []) (.inr rfl) (.tmp Zr .nil) ⟨rfl, rfl⟩ Imp.nil
end Go.Proofs.YtmnmandpdadedaaGreatDoor
namespace Go.Proofs.YtmnmandpdadedaaGreatDoor
open Go Go.V Go.Shelf
set_option maxHeartbeats 3200000
set_option maxRecDepth 100000
shelf_lay Lays.n217 Nm 217 at Tryz as Tryz.sl217
shelf_lay Lays.n219 Nm 219 at Tryz as Tryz.sl219
theorem ixb_spec (s : ByteArray) (c : Nat) (hc : c < 256) : Fun Tryz.prog 143 [.string s, cv c] [] (fun v Post => v = vi (ixN (kB s) c) /\ Post = []) := by
  refine Fun.of_calls (by kernel_rfl) (fun w => (Any.stringslite_IndexByte Tryz.sl217 s c w).mono ?_)
  rintro e w' ⟨rfl, rfl⟩
  refine ⟨_, rfl, ?_, rfl⟩;have hx : ((c : Int).toNat.toUInt8).toNat = c := by
    rw [Int.toNat_natCast];exact Nat.mod_eq_of_lt hc
  rw [ix_eq, hx];rfl
theorem ixs_spec (s : ByteArray) : Fun Tryz.prog 155 [.string s, .string ⟨#[58]⟩] [] (fun v Post => v = vi (ixN (kB s) 58) /\ Post = []) := by
  refine Fun.of_calls (by kernel_rfl) (fun w => (Any.stringslite_Index_one Tryz.sl219 s 58 w).mono ?_)
  rintro e w' ⟨rfl, rfl⟩
  exact ⟨_, rfl, by rw [ix_eq];rfl, rfl⟩
theorem letter_spec (c : Nat) (hc : c < 256) : Fun Tryz.prog 121 [cv c] [] (fun v Post => v = .bool (letB c) /\ Post = []) := by
  refine Fun.intro low121 (by simp [n121]) ?_
  (repeat' (first | refine GOPH ?_ | refine st_gcase Zr (fun _ => ?_) (fun _ => ?_) | refine st_pcase Zr (fun _ => ?_) (fun _ => ?_) | refine VC.seq_cond Zr (fun _ => ?_) (fun _ => ?_) | refine VC.cond Zr (fun _ => ?_) (fun _ => ?_)))
  all_goals refine ⟨.inr rfl, _, _, .tmp Zr .nil, ZI, ?_, rfl⟩
  all_goals (simp only [tup, letB, Value.bool.injEq, decide_eq_true_eq, decide_eq_false_iff_not] at *)
  all_goals (rw [Bool.eq_iff_iff];simp only [Bool.or_eq_true, Bool.and_eq_true, Bool.not_eq_true', decide_eq_true_eq, decide_eq_false_iff_not, true_iff, iff_true, reduceCtorEq, false_iff, iff_false];omega)
theorem digit_spec (c : Nat) (hc : c < 256) : Fun Tryz.prog 126 [cv c] [] (fun v Post => v = .bool (jt c) /\ Post = []) := by
  refine Fun.intro low126 (by simp [n126]) ?_
  (repeat' (first | refine GOPH ?_ | refine st_gcase Zr (fun _ => ?_) (fun _ => ?_) | refine st_pcase Zr (fun _ => ?_) (fun _ => ?_) | refine VC.seq_cond Zr (fun _ => ?_) (fun _ => ?_) | refine VC.cond Zr (fun _ => ?_) (fun _ => ?_)))
  all_goals refine ⟨.inr rfl, _, _, .tmp Zr .nil, ZI, ?_, rfl⟩
  all_goals (simp only [tup, jt, Value.bool.injEq, decide_eq_true_eq, decide_eq_false_iff_not] at *)
  all_goals (rw [Bool.eq_iff_iff];simp only [Bool.or_eq_true, Bool.and_eq_true, Bool.not_eq_true', decide_eq_true_eq, decide_eq_false_iff_not, true_iff, iff_true, reduceCtorEq, false_iff, iff_false];omega)
theorem inner_spec (c : Nat) (hc : c < 256) : Fun Tryz.prog 123 [cv c] [] (fun v Post => v = .bool (innB c) /\ Post = []) := by
  refine Fun.intro low123 (by simp [n123]) ?_;refine GOH ?_;refine kH (letter_spec c hc) Zr ?_;cases hl : letB c with
  | true =>
    refine GOH ?_;refine ⟨.inr rfl, _, _, .tmp Zr .nil, ZI, ?_, rfl⟩;simp [tup, innB, hl]
  | false =>
    refine GOH ?_;refine kH (digit_spec c hc) Zr ?_;refine GOH ?_;refine ⟨.inr rfl, _, _, .tmp Zr .nil, ZI, ?_, rfl⟩;simp [tup, innB, hl]
theorem binary_spec (c : Nat) (hc : c < 256) : Fun Tryz.prog 89 [cv c] [] (fun v Post => v = .bool (binB c) /\ Post = []) := by
  refine Fun.intro low89 (by simp [n89]) ?_;have hb := ixN_bin hc;have h : Fun Tryz.prog 124 [.string ⟨#[43, 45, 42, 47, 92, 126, 60, 62, 61, 64, 37, 38, 63, 44, 33]⟩, cv c] [] (fun v Post => v = vi (ixN [43, 45, 42, 47, 92, 126, 60, 62, 61, 64, 37, 38, 63, 44, 33] c) /\ Post = []) := by
    refine Fun.intro low124 (by simp [n124]) ?_;refine GOH ?_;refine kH (ixb_spec _ c hc) Zr ?_;refine GOH ?_;refine ⟨.inr rfl, _, _, .tmp Zr .nil, ZI, ?_, rfl⟩;rfl
  generalize ixN [43, 45, 42, 47, 92, 126, 60, 62, 61, 64, 37, 38, 63, 44, 33] c = z at h hb;refine GOH ?_;refine kH h Zr ?_;refine GOH ?_;refine ⟨.inr rfl, _, _, .tmp Zr .nil, ZI, ?_, rfl⟩;simp only [tup, <- hb]
theorem peek_spec (s : ByteArray) (hs : s.size <= 140737488355328) (k : Nat) : Fun Tryz.prog 127 [.string s, vi k] [] (fun v Post => v = cv ((kB s).getD k 0) /\ Post = []) := by
  refine Fun.intro low127 (by simp [n127]) ?_;refine GOH ?_;by_cases h : k < s.size
  · rw [Zt Zo];obtain ⟨c, hc, hc2⟩ := jQ h;refine GOH ?_;refine jY Zr Zr (j := k) rfl hc ?_;refine GOH ?_;refine ⟨.inr rfl, _, _, .tmp Zr .nil, ZI, ?_, rfl⟩;simp [tup, List.getD_eq_getElem?_getD, hc2]
  · rw [Zf Zo];refine GOH ?_;refine ⟨.inr rfl, _, _, .tmp Zr .nil, ZI, ?_, rfl⟩;have : (kB s)[k]? = none := List.getElem?_eq_none (by rw [kT];omega);simp [tup, List.getD_eq_getElem?_getD, this]
theorem run_spec (s : ByteArray) (hs : s.size <= 140737488355328) (a : Nat) (ha : a <= s.size) (fv : Value) (I : Nat -> SH) (on : Nat -> Bool)
    (h : ∀ k c, a <= k -> (kB s)[k]? = some c -> zD Tryz.prog fv [cv c] (I k) (fun v Post => v = .bool (on k) /\ Post = I (k + 1))) :
    Fun Tryz.prog 122 [.string s, vi a, fv] (I a) (fun v Post => ∃ e j : Nat, v = vi e /\ a <= e /\ e <= s.size /\ (∀ k, a <= k -> k < e -> on k = true) /\ (e < s.size -> on e = false) /\ Post = I j) := by
  refine Fun.intro low122 (by simp [n122]) ?_;refine GOH ?_;refine VC.loop (α := Nat) (Γf := fun k => [(0, .string s), (1, vi k), (2, fv)]) (Hf := fun k => I k) (I := fun k => a <= k /\ k <= s.size /\ ∀ i, a <= i -> i < k -> on i = true) (μ := fun k => s.size - k) a ⟨Nat.le_refl _, ha, fun i _ _ => by omega⟩ ZU (Imp.refl _) ?_
  rintro k ⟨i1, i2, i3⟩
  refine GOH ?_;by_cases hk : k < s.size
  · rw [Zt Zo];obtain ⟨c, hc, hc2⟩ := jQ hk;refine GOH ?_;refine jY Zr Zr (j := k) rfl hc ?_;refine GOH ?_;refine wm Zr (h k _ i1 hc2) Zr (R := []) (by simp [V.Spl]) ?_
    rintro v Post ⟨rfl, rfl⟩
    rw [List.append_nil];cases ho : on k with
    | true =>
      refine GOH ?_;refine ⟨k + 1, ⟨Zo, Zo, fun i g1 g2 => ?_⟩, Zo, ZU, Imp.refl _⟩;by_cases e : i = k
      · subst e;exact ho
      · exact i3 i g1 Zo
    | false =>
      refine GOH ?_;exact kC (Post := I (k + 1)) (.inr rfl) (.tmp Zr .nil) ⟨k, k + 1, rfl, i1, i2, i3, fun _ => ho, rfl⟩ (Imp.refl _)
  · rw [Zf Zo];refine GOH ?_;exact kC (Post := I k) (.inr rfl) (.tmp Zr .nil) ⟨k, k, rfl, i1, i2, i3, fun hh => absurd hh hk, rfl⟩ (Imp.refl _)
theorem name_spec (s : ByteArray) (hs : s.size <= 140737488355328) : Fun Tryz.prog 88 [.string s] [] (fun v Post => v = .bool (nameS s) /\ Post = []) := by
  refine Fun.intro low88 (by simp [n88]) ?_;have hlen := kT s;unfold nameS nameL;refine GOH ?_;by_cases h0 : s = ⟨#[]⟩
  · subst h0;refine GOH ?_;refine ⟨.inr rfl, _, _, .tmp Zr .nil, ZI, ?_, rfl⟩;rfl
  obtain ⟨c, r, hc, hr, hc256, hpos⟩ := bytesN_cons h0;rw [Zf h0, Bool.not_false];refine GOH ?_;by_cases h40 : s.size <= 40;rotate_left
  · rw [Zf Zo];refine GOH ?_;refine ⟨.inr rfl, _, _, .tmp Zr .nil, ZI, ?_, rfl⟩;have h2 : ¬ (c.toNat :: r).length <= 40 := by rw [<- hr];omega
    simp only [tup, hr, Zf h2, Bool.false_and]
  rw [Zt Zo];refine GOH ?_;refine jY Zr Zr (j := 0) rfl hc ?_;refine GOH ?_;refine kH (letter_spec _ hc256) Zr ?_;cases hl : letB c.toNat with
  | false =>
    refine GOH ?_;refine ⟨.inr rfl, _, _, .tmp Zr .nil, ZI, ?_, rfl⟩;simp [tup, hr, hl]
  | true =>
    refine GOH ?_;refine kD (run_spec s hs 0 Zo (.func (.func 123) #[] #[]) (fun _ => []) (fun k => innB ((kB s).getD k 0)) (fun k x _ hx => zD.of_fun ?_)) Zr ZP (fun v Post hv => ?_)
    · rw [List.getD_eq_getElem?_getD, hx];exact inner_spec _ (zA s _ (Zv hx))
    obtain ⟨e, j, rfl, e1, e2, e3, e4, rfl⟩ := hv;have hall := all_run (l := kB s) (p := innB) (e := e) Zo (fun k hk => e3 k Zo hk) (fun hk => e4 Zo);have h2 : (c.toNat :: r).length <= 40 := by rw [<- hr];omega
    simp only [List.nil_append];refine GOH ?_;refine ⟨.inr rfl, _, _, .tmp Zr .nil, ZI, ?_, rfl⟩;rw [hr] at hall;simp only [tup, hr, Zt h2, hl, hall, Bool.true_and, Value.bool.injEq];rw [<- hr, hlen]
    (rw [Bool.eq_iff_iff];simp only [Bool.or_eq_true, Bool.and_eq_true, Bool.not_eq_true', decide_eq_true_eq, decide_eq_false_iff_not, true_iff, iff_true, reduceCtorEq, false_iff, iff_false];omega)
end Go.Proofs.YtmnmandpdadedaaGreatDoor
namespace Go.Proofs.YtmnmandpdadedaaGreatDoor
open Go Go.V
set_option maxHeartbeats 3200000
set_option maxRecDepth 100000
theorem sign1_spec (pa pf ps : Nat) (s : ByteArray) (hs : s.size <= 140737488355328) (k c : Nat) (hk : k < s.size) (hc : c < 256) :
    Fun Tryz.prog 125 [cv c, kN pa, kN pf, kN ps] [kA pa 0 [vi k], kA pf 0 [vi 0], kA ps 0 [.string s]] (fun v Post => v = .bool (binB c && (decide (k = 0) || decide (c ≠ 45) || !jt ((kB s).getD (k + 1) 0))) /\ Post = [kA pa 0 [vi ((k : Int) + 1)], kA pf 0 [vi 0], kA ps 0 [.string s]]) := by
  refine Fun.intro low125 (by simp [n125]) ?_;have hd : (kB s).getD (k + 1) 0 < 256 := by
    rw [List.getD_eq_getElem?_getD];cases h : (kB s)[k + 1]? with
    | none => decide
    | some x => exact zA s _ (Zv h)
  have hp := peek_spec s hs (k + 1);generalize (kB s).getD (k + 1) 0 = d at hd hp |-;refine GOH ?_;refine kH (binary_spec c hc) Zr ?_;cases hb : binB c with
  | false =>
    refine GOH ?_;refine kC (.inr rfl) (.tmp Zr .nil) ⟨by simp [tup], rfl⟩ ZI
  | true =>
    refine GOH ?_;by_cases h0 : k = 0
    · rw [Zt (show (k : Int) = 0 by omega)];refine GOH ?_;refine kC (.inr rfl) (.tmp Zr .nil) ⟨by simp [tup, h0], rfl⟩ ZI
    rw [Zf (show ¬ (k : Int) = 0 by omega)];refine GOH ?_;by_cases h45 : c = 45;rotate_left
    · rw [show decide ((c : Int) = 45) = false from Zf Zo];refine GOH ?_;refine kC (.inr rfl) (.tmp Zr .nil) ⟨by simp [tup, h0, h45], rfl⟩ ZI
    rw [show decide ((c : Int) = 45) = true from Zt Zo];refine GOH ?_;refine kH hp Zr ?_;refine GOH ?_;refine kH (digit_spec d hd) Zr ?_;cases hdd : jt d
    · refine GOH ?_;refine kC (.inr rfl) (.tmp Zr .nil) ⟨by simp [tup, h0, h45], rfl⟩ ZI
    · refine GOH ?_;refine kC (.inr rfl) (.tmp Zr .nil) ⟨by simp [tup, h0, h45], rfl⟩ ZI
theorem sign_spec (s : ByteArray) (hs : s.size <= 140737488355328) (c : UInt8) (r : List Nat) (hc : s[0]? = some c) (hr : kB s = c.toNat :: r) (hb : c.toNat = 124 ∨ binB c.toNat = true) :
    Fun Tryz.prog 90 [.string s, vi 0] [] (fun v Post => v = vi (signL (kB s)) /\ Post = []) := by
  refine Fun.intro low90 (by simp [n90]) ?_;have hlen := kT s;have hpos : 0 < s.size := by rw [<- hlen, hr];simp
  refine GOH ?_;refine kS Zr (fun ps => ?_);simp only [Value.cells];refine GOH ?_;refine kS Zr (fun pa => ?_);simp only [Value.cells];refine GOH ?_;refine jY Zr Zr (j := 0) rfl hc ?_;refine GOH ?_;by_cases h0 : c.toNat = 124
  · rw [show decide ((c.toNat : Int) = 124) = true from Zt Zo];refine GOH ?_;refine kC (Post := []) (.inr rfl) (.tmp Zr .nil) ⟨by simp [tup, hr, signL, h0], rfl⟩ ZI
  rw [show decide ((c.toNat : Int) = 124) = false from Zf Zo];have hbin : binB c.toNat = true := by
    rcases hb with h | h
    · exact absurd h h0
    · exact h
  refine GOH ?_;refine kP (fun pf => ?_);refine GOH ?_;have hrun := run_spec s hs 0 Zo (.func (.func 125) #[] #[kN pa, kN pf, kN ps]) (fun k => [kA pa 0 [vi k], kA pf 0 [vi 0], kA ps 0 [.string s]])
    (fun k => binB ((kB s).getD k 0) && (decide (k = 0) || decide ((kB s).getD k 0 ≠ 45) || !jt ((kB s).getD (k + 1) 0))) (fun k x _ hx => zD.of_fun (by
      have hk : k < s.size := by rw [<- hlen];exact (List.getElem?_eq_some_iff.1 hx).1
      have := sign1_spec pa pf ps s hs k x hk (zA s _ (Zv hx));rw [List.getD_eq_getElem?_getD (i := k), hx];exact this))
  simp only [show ((0 : Nat) : Int) = 0 from rfl] at hrun;refine kD hrun Zr ZP (fun v Post hv => ?_);obtain ⟨e, j, rfl, e1, e2, e3, e4, rfl⟩ := hv;simp only [CNx];refine GOH ?_;refine kC (Post := []) (.inr rfl) (.tmp Zr .nil) ⟨?_, rfl⟩ ZI;have hget : ∀ k, k < s.size -> ∃ x, (kB s)[k]? = some x /\ (kB s).getD k 0 = x := fun k hk => by
    obtain ⟨x, _, hx⟩ := jQ hk;exact ⟨_, hx, by rw [List.getD_eq_getElem?_getD, hx];rfl⟩
  have he0 : e ≠ 0 := fun e0 => by
    subst e0;have := e4 hpos;rw [hr] at this;simp [hbin] at this
  have hon : ∀ k, 1 <= k -> k < s.size -> signOn ((kB s).drop k) = (binB ((kB s).getD k 0) && (decide (k = 0) || decide ((kB s).getD k 0 ≠ 45) || !jt ((kB s).getD (k + 1) 0))) := fun k h1 hk => by
    obtain ⟨x, hx, hx2⟩ := hget k hk;rw [signOn_drop hx, hx2, Zf (show ¬ k = 0 by omega), Bool.false_or]
  have := sign_run (c := c.toNat) (r := r) (e := e) h0 hbin (by rw [<- hr];omega) (fun k h1 h2 => by rw [<- hr, hon k h2 Zo];exact e3 k Zo h1) (fun hk => by
    rw [<- hr] at hk |-;exact ⟨Zo, by rw [hon e Zo Zo];exact e4 Zo⟩)
  rcases this with h | h
  · rw [hr, h];rfl
  · exact absurd h he0
theorem keys_iter (qs qt qn : Nat) (s : ByteArray) (hs : s.size <= 140737488355328) :
    Iter Tryz.prog (.func (.func 144) #[] #[kN qs, kN qt, kN qn]) (fun x => [.string x]) [kA qs 0 [.string ⟨#[58]⟩], kA qt 0 [.string s], kA qn 0 [vi 1]] [] (fun full => full.map kB = kj (kB s)) := by
  intro y J SP hy A hA;refine zD.of_fun (first := #[]) (cap := #[kN qs, kN qt, kN qn]) ?_;show Fun Tryz.prog 144 [y, kN qs, kN qt, kN qn] _ _;refine Fun.intro low144 (by simp [n144]) ?_;simp only [CNx];refine GOH ?_;refine VC.loop (α := List ByteArray × ByteArray × List kE) (Γf := fun _ => [(0, y), (1, kN qs), (2, kN qt), (3, kN qn)]) (Hf := fun st => [kA qs 0 [.string ⟨#[58]⟩], kA qt 0 [.string st.2.1], kA qn 0 [vi 1], st.2.2])
    (I := fun st => st.1.map kB ++ kj (kB st.2.1) = kj (kB s) /\ st.2.1.size <= s.size /\ J st.1 st.2.2) (μ := fun st => st.2.1.size) ([], s, A) ⟨rfl, Nat.le_refl _, hA⟩ ZU ZI ?_
  rintro ⟨c, t, A1⟩ ⟨i1, i2, i3⟩
  simp only at i1 i2 i3;dsimp only;have hlen := kT t;have hix : Fun Tryz.prog 146 [.string t, .string ⟨#[58]⟩] [] (fun v Post => v = vi (ixN (kB t) 58) /\ Post = []) := by
    refine Fun.intro low146 (by simp [n146]) ?_;refine GOH ?_;refine kH (ixs_spec t) Zr ?_;refine GOH ?_;refine ⟨.inr rfl, _, _, .tmp Zr .nil, ZI, ?_, rfl⟩;rfl
  refine GOH ?_;refine kH hix Zr ?_;rcases ixN_cases (kB t) 58 with ⟨h1, h2⟩ | ⟨p, r, h1, h2, h3⟩
  · rw [h1];refine GOH ?_;have hfull : (c ++ [t]).map kB = kj (kB s) := by rw [<- i1, pieces_none h2];simp
    refine wm Zr (hy c t A1 ⟨[], by simpa using hfull⟩ i3) Zr ZP (fun v Post hv => ?_);rcases hv with ⟨rfl, A', hA', rfl⟩ | ⟨rfl, B', hB', rfl⟩
    · simp only [CNx];refine GOH ?_;exact kC (Post := [A']) (.inl rfl) .nil ⟨rfl, .inl ⟨c ++ [t], A', hfull, hA', rfl⟩⟩ ZI
    · simp only [CNx];refine GOH ?_;exact kC (Post := [B']) (.inl rfl) .nil ⟨rfl, .inr ⟨c ++ [t], B', ⟨[], by simpa using hfull⟩, hB', rfl⟩⟩ ZI
  · have hsz : t.size = p.length + 1 + r.length := by rw [<- hlen, h1];simp;omega
    have hx : kB (t.extract 0 (p.length + 1)) = p ++ [58] := by
      rw [jG, h1, show p ++ 58 :: r = (p ++ [58]) ++ r by simp, List.take_left' Zs];rfl
    have hy2 : kB (t.extract (p.length + 1) t.size) = r := by
      rw [jG, List.take_of_length_le Zo, h1];simp [List.drop_append]
    have hys : (t.extract (p.length + 1) t.size).size = r.length := by rw [<- kT, hy2]
    have hpc := pieces_cons (p := p) (r := r) h2;rw [<- h1] at hpc;obtain ⟨full, hful⟩ := pieces_ex (t.extract (p.length + 1) t.size);rw [hy2] at hful;have hok : OkC (fun full => full.map kB = kj (kB s)) (c ++ [t.extract 0 (p.length + 1)]) := ⟨full, by rw [<- i1, hpc];simp [hx, hful]⟩;rw [h3];refine GOH ?_;rw [Zf (show ¬ ((p.length : Int) < 0) by omega)];refine GOH ?_;refine st_slcS (l := 0) (h := p.length + 1) Zr .dft (.num Zr) Zo ?_;refine GOH ?_;refine wm Zr (hy c _ A1 hok i3) Zr ZP (fun v Post hv => ?_);rcases hv with ⟨rfl, A', hA', rfl⟩ | ⟨rfl, B', hB', rfl⟩
    · simp only [CNx];refine GOH ?_;rw [show (((⟨#[58]⟩ : ByteArray).size : Nat) : Int) = 1 from rfl, wrap64 (show -9223372036854775808 <= (p.length : Int) + 1 /\ (p.length : Int) + 1 <= 9223372036854775807 by omega)];refine st_slcS (l := p.length + 1) (h := t.size) Zr (.num Zr) .dft Zo ?_;refine GOH ?_;exact ⟨(c ++ [t.extract 0 (p.length + 1)], t.extract (p.length + 1) t.size, A'), ⟨by simp only [hy2];rw [<- i1, hpc];simp [hx], by simp only [hys];omega, hA'⟩, by simp only [hys];omega, ZU, ZI⟩
    · simp only [CNx];refine GOH ?_;exact kC (Post := [B']) (.inr rfl) .nil ⟨rfl, .inr ⟨_, B', hok, hB', rfl⟩⟩ ZI
theorem cutSuffix_spec (s : ByteArray) (hs : s.size <= 140737488355328) : Fun Tryz.prog 92 [.string s, .string ⟨#[58]⟩] [] (fun v Post => ∃ t, v = .tuple #[.string t, .bool (decide ((kB s).getLast? = some 58))] /\ ((kB s).getLast? = some 58 -> kB t = (kB s).dropLast) /\ t.size <= s.size /\ Post = []) := by
  have hlen := kT s;have hlast : ∀ (h : 1 <= s.size), s.extract (s.size - 1) s.size = ⟨#[58]⟩ ↔ (kB s).getLast? = some 58 := fun h => by
    have hb : kB (s.extract (s.size - 1) s.size) = (kB s).drop (s.size - 1) := by rw [jG, List.take_of_length_le Zo]
    rw [List.getLast?_eq_getElem?, hlen];constructor
    · intro e;rw [e] at hb;have : (kB s).drop (s.size - 1) = [58] := hb.symm;have h2 := congrArg (fun l => l[0]?) this;simpa using h2
    · intro e;apply kq;rw [hb];obtain ⟨hk, hv⟩ := List.getElem?_eq_some_iff.1 e;rw [List.drop_eq_getElem_cons hk, hv, List.drop_eq_nil_of_le Zo];rfl
  have hsuf : Fun Tryz.prog 147 [.string s, .string ⟨#[58]⟩] [] (fun v Post => v = .bool (decide ((kB s).getLast? = some 58)) /\ Post = []) := by
    refine Fun.intro low147 (by simp [n147]) ?_;refine GOH ?_;rw [show (((⟨#[58]⟩ : ByteArray).size : Nat) : Int) = 1 from rfl];by_cases h : 1 <= s.size
    · rw [Zt (show (s.size : Int) ≥ 1 by omega)];refine GOH ?_;rw [show (((⟨#[58]⟩ : ByteArray).size : Nat) : Int) = 1 from rfl, wrap64 (show -9223372036854775808 <= (s.size : Int) - 1 /\ (s.size : Int) - 1 <= 9223372036854775807 by omega), show (s.size : Int) - 1 = ((s.size - 1 : Nat) : Int) by omega];refine st_slcS (l := s.size - 1) (h := s.size) Zr (.num Zr) .dft Zo ?_;refine GOH ?_;refine ⟨.inr rfl, _, _, .tmp Zr .nil, ZI, ?_, rfl⟩;simp only [tup, hlast h]
    · rw [Zf (show ¬ (s.size : Int) ≥ 1 by omega)];refine GOH ?_;refine ⟨.inr rfl, _, _, .tmp Zr .nil, ZI, ?_, rfl⟩;have : kB s = [] := List.length_eq_zero_iff.1 Zo;simp [tup, this]
  have hcut : Fun Tryz.prog 129 [.string s, .string ⟨#[58]⟩] [] (fun v Post => ∃ t, v = .tuple #[.string t, .bool (decide ((kB s).getLast? = some 58))] /\ ((kB s).getLast? = some 58 -> kB t = (kB s).dropLast) /\ t.size <= s.size /\ Post = []) := by
    refine Fun.intro low129 (by simp [n129]) ?_;refine GOH ?_;refine kH hsuf Zr ?_;by_cases h : (kB s).getLast? = some 58
    · have hpos : 1 <= s.size := by
        cases hb : kB s with
        | nil => rw [hb] at h;cases h
        | cons a r => rw [<- hlen, hb];simp
      rw [Zt h];refine GOH ?_;rw [show (((⟨#[58]⟩ : ByteArray).size : Nat) : Int) = 1 from rfl, wrap64 (show -9223372036854775808 <= (s.size : Int) - 1 /\ (s.size : Int) - 1 <= 9223372036854775807 by omega), show (s.size : Int) - 1 = ((s.size - 1 : Nat) : Int) by omega];refine st_slcS (l := 0) (h := s.size - 1) Zr .dft (.num Zr) Zo ?_;refine GOH ?_;have hb : kB (s.extract 0 (s.size - 1)) = (kB s).dropLast := by rw [jG, List.drop_zero, List.dropLast_eq_take, hlen]
      refine kC (Post := []) (.inr rfl) (.tmp Zr (.tmp Zr .nil)) ⟨_, rfl, fun _ => hb, ?_, rfl⟩ ZI;rw [<- kT, hb, <- hlen];simp
    · rw [Zf h];refine GOH ?_;refine kC (Post := []) (.inr rfl) (.tmp Zr (.tmp Zr .nil)) ⟨_, rfl, fun h2 => absurd h2 h, Nat.le_refl _, rfl⟩ ZI
  refine Fun.intro low92 (by simp [n92]) ?_;refine GOH ?_;refine kD hcut Zr ZP (fun v Post hv => ?_);obtain ⟨t, rfl, h1, h2, rfl⟩ := hv;simp only [List.nil_append];refine GOH ?_;refine kC (Post := []) (.inr rfl) (.tmp Zr (.tmp Zr .nil)) ⟨t, rfl, h1, h2, rfl⟩ ZI
theorem splitAfter_spec (s : ByteArray) : Fun Tryz.prog 91 [.string s, .string ⟨#[58]⟩] [] (fun v Post => ∃ qs qt qn, v = .func (.func 144) #[] #[kN qs, kN qt, kN qn] /\ Post = [kA qs 0 [.string ⟨#[58]⟩], kA qt 0 [.string s], kA qn 0 [vi 1]]) := by
  have h : Fun Tryz.prog 128 [.string s, .string ⟨#[58]⟩, vi 1] [] (fun v Post => ∃ qs qt qn, v = .func (.func 144) #[] #[kN qs, kN qt, kN qn] /\ Post = [kA qs 0 [.string ⟨#[58]⟩], kA qt 0 [.string s], kA qn 0 [vi 1]]) := by
    refine Fun.intro low128 (by simp [n128]) ?_;refine GOH ?_;refine kS Zr (fun qt => ?_);simp only [Value.cells];refine GOH ?_;refine kS Zr (fun qs => ?_);simp only [Value.cells];refine GOH ?_;refine kS Zr (fun qn => ?_);simp only [Value.cells];refine GOH ?_;refine kC (.inr rfl) (.tmp Zr .nil) ⟨qs, qt, qn, rfl, rfl⟩ ZI
  refine Fun.intro low91 (by simp [n91]) ?_;refine GOH ?_;rw [show (((⟨#[58]⟩ : ByteArray).size : Nat) : Int) = 1 from rfl];refine kD h Zr ZP (fun v Post hv => ?_);obtain ⟨qs, qt, qn, rfl, rfl⟩ := hv;simp only [CNx];refine GOH ?_;refine kC (.inr rfl) (.tmp Zr .nil) ⟨qs, qt, qn, rfl, rfl⟩ ZI
end Go.Proofs.YtmnmandpdadedaaGreatDoor
namespace Go.Proofs.YtmnmandpdadedaaGreatDoor
open Go Go.V
set_option maxHeartbeats 3200000
set_option maxRecDepth 100000
def keyL (p : List Nat) : Bool := decide (p.getLast? = some 58) && nameL p.dropLast
theorem keysL_good : ∀ {c : List (List Nat)} {rest : List (List Nat)} {n : Nat}, (∀ p ∈ c, keyL p = true) -> wy (c ++ rest) n = wy rest (n + c.length) := by
  intro c
  induction c with
  | nil => intro rest n _;simp
  | cons p c ih =>
    intro rest n h;have hp := h p Zs;simp only [keyL, Bool.and_eq_true, decide_eq_true_eq] at hp;have hne : p ≠ [] := fun e => by rw [e] at hp;simp at hp
    simp only [List.cons_append, wy, if_neg hne, hp.1, hp.2, decide_true, Bool.and_self, if_true];rw [ih (fun q hq => h q (by simp [hq])), List.length_cons, show n + 1 + c.length = n + (c.length + 1) by omega]
theorem keysL_bad {p : List Nat} {rest : List (List Nat)} {n : Nat} (h0 : p ≠ []) (h : keyL p = false) : wy (p :: rest) n = -1 := by
  simp only [keyL] at h;simp [wy, h0, h]
theorem pieces_len (l : List Nat) : (kj l).length <= l.length + 1 := by
  induction l with
  | nil => simp [kj]
  | cons c r ih =>
    simp only [kj];split
    · simp;omega
    · cases h : kj r with
      | nil => simp
      | cons p ps => rw [h] at ih;simp at ih |-;omega
theorem jv (s : ByteArray) (hs : s.size <= 140737488355328) : Fun Tryz.prog 48 [.string s] [] (fun v Post => v = vi (kR s) /\ Post = []) := by
  refine Fun.intro low48 (by simp [n48]) ?_;have hlen := kT s;refine GOH ?_;refine kP (fun pr => ?_);refine GOH ?_;refine kH (name_spec s hs) Zr ?_;cases hn : nameS s with
  | true =>
    refine GOH ?_;have : kR s = 0 := by unfold kR arityL;rw [show nameL (kB s) = true from hn];rfl
    rw [this];exact ⟨.inr rfl, [vi 0], [], .cell1 (v := vi 0) Zr Zan .nil, Imp.nil, ⟨rfl, rfl⟩⟩
  | false =>
    have hn2 : nameL (kB s) = false := hn;refine GOH ?_;by_cases h0 : s = ⟨#[]⟩
    · subst h0;refine GOH ?_;exact ⟨.inr rfl, [vi (-1)], [], .cell1 (v := vi (-1)) Zr Zan .nil, Imp.nil, ⟨rfl, rfl⟩⟩
    obtain ⟨c, r, hc, hr, hc256, hpos⟩ := bytesN_cons h0;rw [Zf h0];refine GOH ?_;refine jY Zr Zr (j := 0) rfl hc ?_;refine GOH ?_;have har : kR s = if (binB c.toNat || decide (c.toNat = 124)) = true then (if signL (kB s) = (kB s).length then 1 else -1) else wy (kj (kB s)) 0 := by
      unfold kR arityL;rw [if_neg (by rw [hn2];simp)];simp only [hr]
    refine kH (binary_spec _ hc256) Zr ?_;cases hb : binB c.toNat with
    | true =>
      refine GOH ?_;refine kH (sign_spec s hs c r hc hr (.inr hb)) Zr ?_;rw [show (binB c.toNat || decide (c.toNat = 124)) = true by simp [hb], if_pos rfl] at har;generalize signL (kB s) = z at har |-;refine GOH ?_;by_cases he : z = (kB s).length
      · rw [Zt (show ((z : Nat) : Int) = (s.size : Int) by omega)];rw [if_pos he] at har;refine GOH ?_;rw [har];exact ⟨.inr rfl, [vi 1], [], .cell1 (v := vi 1) Zr Zan .nil, Imp.nil, ⟨rfl, rfl⟩⟩
      · rw [Zf (show ¬ ((z : Nat) : Int) = (s.size : Int) by omega)];rw [if_neg he] at har;refine GOH ?_;rw [har];exact ⟨.inr rfl, [vi (-1)], [], .cell1 (v := vi (-1)) Zr Zan .nil, Imp.nil, ⟨rfl, rfl⟩⟩
    | false =>
      refine GOH ?_;refine jY Zr Zr (j := 0) rfl hc ?_;refine GOH ?_;by_cases h124 : c.toNat = 124
      · rw [show decide ((c.toNat : Int) = 124) = true from Zt Zo];refine GOH ?_;refine kH (sign_spec s hs c r hc hr (.inl h124)) Zr ?_;rw [show (binB c.toNat || decide (c.toNat = 124)) = true by simp [h124], if_pos rfl] at har;generalize signL (kB s) = z at har |-;refine GOH ?_;by_cases he : z = (kB s).length
        · rw [Zt (show ((z : Nat) : Int) = (s.size : Int) by omega)];rw [if_pos he] at har;refine GOH ?_;rw [har];exact ⟨.inr rfl, [vi 1], [], .cell1 (v := vi 1) Zr Zan .nil, Imp.nil, ⟨rfl, rfl⟩⟩
        · rw [Zf (show ¬ ((z : Nat) : Int) = (s.size : Int) by omega)];rw [if_neg he] at har;refine GOH ?_;rw [har];exact ⟨.inr rfl, [vi (-1)], [], .cell1 (v := vi (-1)) Zr Zan .nil, Imp.nil, ⟨rfl, rfl⟩⟩
      rw [show decide ((c.toNat : Int) = 124) = false from Zf Zo];rw [if_neg (by simp [hb, h124])] at har;refine GOH ?_;refine kP (fun pn => ?_);refine GOH ?_;refine kD (splitAfter_spec s) Zr ZP (fun v Post hv => ?_);obtain ⟨qs, qt, qn, rfl, rfl⟩ := hv;simp only [CNx];refine GOH ?_;have hcl : ∀ d : List ByteArray, OkC (fun full : List ByteArray => full.map kB = kj (kB s)) d -> d.length <= s.size + 1 := fun d ⟨t, ht⟩ => by
        have h1 := congrArg List.length ht;have h2 := pieces_len (kB s);simp at h1;omega
      refine VC.rangef (α := ByteArray) (enc := fun x => [.string x]) (fun d A => (∀ x ∈ d, keyL (kB x) = true) /\ A = [kA pn 0 [vi d.length], kA pr 0 [vi 0]].flatten) ([kA pn 0 [vi 0], kA pr 0 [vi 0]].flatten) Zr (keys_iter qs qt qn s hs) (R := [kA pn 0 [vi 0], kA pr 0 [vi 0]]) ZP (Imp.perm Zs)
        ⟨fun x hx => (by cases hx), rfl⟩ (fun _ => rfl) ?_ ?_
      · rintro d x A hok ⟨hd, rfl⟩
        have hdl := hcl _ hok;simp only [List.length_append, List.length_singleton] at hdl;obtain ⟨rest, hrest⟩ := hok;have har2 : kR s = wy (kB x :: rest.map kB) d.length := by
          rw [har, <- hrest];have := keysL_good (c := d.map kB) (rest := kB x :: rest.map kB) (n := 0) (fun p hp => by obtain ⟨y, hy, rfl⟩ := List.mem_map.1 hp;exact hd y hy);simpa using this
        have hxs : x.size <= s.size := by
          have h1 : kB x ∈ kj (kB s) := by rw [<- hrest];simp
          have h2 := (List.sublist_flatten_of_mem h1).length_le;rw [pieces_flat, kT, kT] at h2;omega
        simp only [bindE];refine VC.imp (H' := [kA pn 0 [vi d.length], kA pr 0 [vi 0]]) (Imp.perm Zs) ?_;refine VC.reg ?_;refine GOH ?_;refine ⟨trivial, ?_⟩;refine GOH ?_;by_cases hx0 : x = ⟨#[]⟩
        · rw [Zt hx0];have : kR s = d.length := by
            rw [har2, hx0];rfl
          refine GOH ?_;rw [this];exact ⟨.inr rfl, [vi d.length], [], .cell1 (v := vi d.length) Zr Zan .nil, Imp.nil, ⟨rfl, rfl⟩⟩
        rw [Zf hx0];have hx1 : kB x ≠ [] := fun e => hx0 (kq (by rw [e];rfl))
        refine GOH ?_;refine kD (cutSuffix_spec x Zo) Zr ZP (fun v Post hv => ?_);obtain ⟨y, rfl, hy1, hy2, rfl⟩ := hv;simp only [List.nil_append];by_cases h58 : (kB x).getLast? = some 58
        · rw [Zt h58];have hyb := hy1 h58;refine GOH ?_;refine kH (name_spec y Zo) Zr ?_;cases hny : nameS y with
          | true =>
            have hk : keyL (kB x) = true := by
              unfold keyL;rw [Zt h58, <- hyb];exact hny
            refine GOH ?_;refine ⟨[kA pn 0 [vi (d.length + 1 : Nat)], kA pr 0 [vi 0]].flatten, ⟨fun z hz => ?_, Zs⟩, ?_⟩
            · rcases List.mem_append.1 hz with h | h
              · exact hd z h
              · rw [List.mem_singleton.1 h];exact hk
            · refine Imp.cut (M := [kA pn 0 [vi ((d.length : Int) + 1)], kA pr 0 [vi 0]]) ZI (Imp.perm Zs)
          | false =>
            have hk : keyL (kB x) = false := by
              unfold keyL;rw [Zt h58, <- hyb];exact hny
            have : kR s = -1 := by rw [har2, keysL_bad hx1 hk]
            refine GOH ?_;rw [this];exact ⟨.inr rfl, [vi (-1)], [], .cell1 (v := vi (-1)) Zr Zan .nil, Imp.nil, ⟨rfl, rfl⟩⟩
        · rw [Zf h58];have hk : keyL (kB x) = false := by
            unfold keyL;rw [Zf h58];rfl
          have : kR s = -1 := by rw [har2, keysL_bad hx1 hk]
          refine GOH ?_;rw [this];exact ⟨.inr rfl, [vi (-1)], [], .cell1 (v := vi (-1)) Zr Zan .nil, Imp.nil, ⟨rfl, rfl⟩⟩
      · rintro full A hfull ⟨hd, rfl⟩
        have : kR s = full.length := by
          rw [har, <- hfull];have := keysL_good (c := full.map kB) (rest := []) (n := 0) (fun p hp => by obtain ⟨y, hy, rfl⟩ := List.mem_map.1 hp;exact hd y hy);simpa [wy] using this
        refine VC.imp (H' := [kA pn 0 [vi full.length], kA pr 0 [vi 0]]) (Imp.perm Zs) ?_;refine GOH ?_;rw [this];exact ⟨.inr rfl, [vi full.length], [], .cell1 (v := vi full.length) Zr Zan .nil, Imp.nil, ⟨rfl, rfl⟩⟩
end Go.Proofs.YtmnmandpdadedaaGreatDoor

/-
  Looks: a cascade.
-/
import Derived.Test.YtmnmandpdadedaaGreatDoorT4
import Derived.Test.YtmnmandpdadedaaGreatDoorV5
import Derived.Test.YtmnmandpdadedaaGreatDoorT3
import Derived.KernelRfl
import Derived.Test.YtmnmandpdadedaaGreatDoorProg
set_option linter.unusedSimpArgs false
set_option linter.unusedVariables false
namespace Go.Proofs.YtmnmandpdadedaaGreatDoor
open Go Go.V
set_option maxHeartbeats 3200000
set_option maxRecDepth 100000
theorem node_k5 (A : List kE) (hE : ErA A) (x : Nd) (vs : List Value) (h : kf A x vs) (hw : x.w <= 274877906944) (hok : ∀ y us, y ∈ x.kids -> kf A y us -> jw A y us) (hk : x.kind = 5) : NodeSw A x vs := by
  intro lb q r m0 deep;cases h with
  | @mk k s lit args temps kids p lv av tv a c bk o us wf hl hav htv ha hm hr hcp =>
  simp only [Nd.kind] at hk;have hl2 := hl;cases hl2 with
  | @mk lk ln lbt lt items la lc lbk lo lus lwf lha lhm lhr =>
  have hav2 := hav;have htv2 := htv;obtain ⟨aa, ac, rfl, hal, har⟩ := hav2;obtain ⟨ta, tc, rfl, htl, htr⟩ := htv2;have hkids : za A kids a bk o us := ⟨ha, wf.many, hm, hr, fun i y e => hok y (us i) (Zv e) (hr i y e)⟩;have hns := wf.name;have hmany := wf.many;simp only [Nd.w] at hw;obtain ⟨RR, hRR⟩ : ∃ RR, RR = kO (.mk k s (.mk lk ln lbt lt items) args temps kids p) := ⟨_, rfl⟩;rw [<- hRR];rw [show kO (.mk k s (.mk lk ln lbt lt items) args temps kids p) = jE k s (.mk lk ln lbt lt items) args temps kids (kids.map kO) by simp [kO, jK]] at hRR;show VC _ _ _ _ [kA r 0 [cv k, .string s, cv lk, vi ln, uv lbt, .string lt, .slice la items.length lc, .slice aa args.length ac, .slice ta temps.length tc, .slice none 0 0, vi p], kA q 0 [cv k, .string s, cv lk, vi ln, uv lbt, .string lt, .slice la items.length lc, .slice aa args.length ac, .slice ta temps.length tc, .slice a kids.length c, vi p], A, lkA lb m0 deep] _;subst hk;refine GOH ?_;by_cases hk0 : 2 < kids.length;rotate_left
  · have hnone : RR = none := by
      rw [hRR];unfold jE;rw [if_neg Zd, if_neg Zd, if_neg Zd, if_neg Zd, if_neg Zd, if_pos rfl];simp [kK, hk0]
    rw [show decide ((kids.length : Int) > 2) = false from Zf Zo];refine GOH ?_;refine kG (kJ false) Zr ZP Zai (fun ch Post hz => ?_);obtain ⟨_, rfl, rfl⟩ := hz;exact ⟨[A, lkA lb m0 deep], ZI, hnone, rfl, m0, rfl⟩
  rw [show decide ((kids.length : Int) > 2) = true from Zt Zo];refine GOH ?_;refine kG (kJ true) Zr ZP (fun v Post hv => ?_) Zaj;obtain ⟨_, rfl, rfl⟩ := hv;simp only [List.nil_append];refine GOH ?_;obtain ⟨y, z, l, hky⟩ : ∃ y z l, kids = y :: z :: l := by
    match kids, hk0 with
    | y :: z :: l, _ => exact ⟨y, z, l, rfl⟩
    | [], h => simp at h
    | [_], h => simp at h
  have hy0 : kids[0]? = some y := by rw [hky];rfl
  have hz0 : kids[1]? = some z := by rw [hky];rfl
  have hym := hm 0 Zo;rw [Nat.zero_mul, Nat.add_zero] at hym;have hyl := (hr 0 y hy0).len;have hzn : z.name.size <= 140737488355328 /\ kE.cell bk (o + 12) (.string z.name) ∈ A := by
    have hzr := hr 1 z hz0;have hzm := hm 1 Zo;obtain ⟨c2, c3, c4, c5, c6, c7, c8, c9, c10, e, hsz, hkk⟩ := nd_open hzr;rw [e] at hzm;exact ⟨hsz, hzm _ (kb.2 ⟨1, _, rfl, by rw [show o + 1 * 11 + 1 = o + 12 by omega]⟩)⟩
  obtain ⟨hzs, hzc⟩ := hzn;obtain rfl := ha Zo;have hls : (z :: l).length = kids.length - 1 := by rw [hky];rfl
  have hF := fun m => first_spec A y _ (hr 0 y hy0) (hkids.ok 0 y hy0) z.name hzs lb m deep
  have hR5 : RR = kK (decide (s.size = 0 /\ args.length = 0 /\ temps.length = 0 /\ 2 < kids.length) && ji (.mk lk ln lbt lt items)) (jm (decide (256 < kids.length)) (wU (jF ((z :: l).map fun y => kK (decide (y.kind = 6)) (kO y))) (we y z.name (kO y)))) := by
    rw [hRR, hky, <- msgsR_map];rfl
  obtain ⟨m0', hm0'⟩ : ∃ m0', m0' = m0 := ⟨_, rfl⟩;cases m0 with
  | true =>
    obtain ⟨mB, hmB⟩ : ∃ b, b = (true || decide (256 < kids.length)) := ⟨_, rfl⟩;have hmB0 : mB = true := by rw [hmB, Bool.true_or]
    refine j7 ?_;refine VC.join (α := Nat × Bool) (fun z => [(0, kN lb), (3, kN q), (5, kN r), (6, vi z.1)]) (fun z => [A, lkA lb (mB || z.2) deep, kA r 0 [cv 5, .string s, cv lk, vi ln, uv lbt, .string lt, .slice la items.length lc, .slice aa args.length ac, .slice ta temps.length tc, .slice none 0 0, vi p], kA q 0 [cv 5, .string s, cv lk, vi ln, uv lbt, .string lt, .slice la items.length lc, .slice aa args.length ac, .slice ta temps.length tc, .slice (some ⟨bk, o, none⟩) kids.length c, vi p]]) (fun e => jF ((z :: l).map fun y => kK (decide (y.kind = 6)) (kO y)) = some (e.1, e.2)) ?_ ?_
    · refine GOH ?_;refine w9 Zr Zr (l := 1) rfl Zo ?_;rw [<- hls, if_neg Zo];refine GOH ?_;refine VC.loop (α := Nat × Nat × Bool) (Γf := fun s => [(0, kN lb), (3, kN q), (5, kN r), (6, vi s.2.1), (123, .slice (some ⟨bk, o + 1 * 11, none⟩) (z :: l).length (c - 1)), (124, vi (z :: l).length), (125, vi s.1)]) (Hf := fun e => [A, lkA lb (mB || e.2.2) deep, kA r 0 [cv 5, .string s, cv lk, vi ln, uv lbt, .string lt, .slice la items.length lc, .slice aa args.length ac, .slice ta temps.length tc, .slice none 0 0, vi p], kA q 0 [cv 5, .string s, cv lk, vi ln, uv lbt, .string lt, .slice la items.length lc, .slice aa args.length ac, .slice ta temps.length tc, .slice (some ⟨bk, o, none⟩) kids.length c, vi p]])
        (I := fun s => s.1 <= (z :: l).length /\ jF (((z :: l).take s.1).map fun y => kK (decide (y.kind = 6)) (kO y)) = some (s.2.1, s.2.2)) (μ := fun s => (z :: l).length - s.1) (0, 0, false) ⟨Nat.zero_le _, rfl⟩ ZU (by show Imp _ [A, lkA lb (mB || false) deep, kA r 0 [cv 5, .string s, cv lk, vi ln, uv lbt, .string lt, .slice la items.length lc, .slice aa args.length ac, .slice ta temps.length tc, .slice none 0 0, vi p], kA q 0 [cv 5, .string s, cv lk, vi ln, uv lbt, .string lt, .slice la items.length lc, .slice aa args.length ac, .slice ta temps.length tc, .slice (some ⟨bk, o, none⟩) kids.length c, vi p]];rw [Bool.or_false, hmB0];exact IMx) ?_
      rintro ⟨j, d, mm⟩ ⟨i1, i2⟩
      simp only at i1 i2;dsimp only;have hget : ∀ j y, (z :: l)[j]? = some y -> kids[j + 1]? = some y := fun j y e => by rw [hky];exact e
      have hmul : (z :: l).length <= 140737488355328 := by omega
      generalize htl : z :: l = tl at *;refine GOH ?_;by_cases hj : j < tl.length;rotate_left
      · rw [show decide ((j : Int) < (tl.length : Int)) = false from Zf Zo];rw [List.take_of_length_le Zo] at i2;refine GOH ?_;exact ⟨(d, mm), i2, ZU, ZI⟩
      rw [show decide ((j : Int) < (tl.length : Int)) = true from Zt Zo];obtain ⟨u, hu⟩ : ∃ u, tl[j]? = some u := ⟨_, Zg hj⟩;have hur := hr (j + 1) u (hget j u hu);have hum := hm (j + 1) Zo;have huok := hkids.ok (j + 1) u (hget j u hu);rw [show o + (j + 1) * 11 = o + (11 + j * 11) by omega] at hum;have hv := huok.1 lb (mB || mm) deep;generalize us (j + 1) = uj at hur hum hv;obtain ⟨e1, e2, e3, e4, e5, e6, e7, e8, e9, e10, e11, e12, e13, e14, e15, e16, e17, rfl, hsz, hkk⟩ := km hur;have htk : tl.take (j + 1) = tl.take j ++ [u] := by rw [List.take_add_one, hu];rfl
      refine GOH ?_;refine kL Zr (fun z hz => Zw _ (hum z hz)) rfl ?_;refine GOH ?_;refine kP (fun q9 => ?_);refine GOH ?_;by_cases h6 : u.kind = 6;rotate_left
      · have hnone : RR = none := by
          rw [hR5, zX (.inl (ja (List.mem_map.2 ⟨u, Zv hu, by simp [kK, h6]⟩)))];unfold kK;split <;> rfl
        rw [show decide ((u.kind : Int) = 6) = false from Zf Zo];refine GOH ?_;refine kG (kJ false) Zr ZP Zai (fun ch Post hz => ?_);obtain ⟨_, rfl, rfl⟩ := hz;exact ⟨[A, lkA lb (mB || mm) deep], ZI, hnone, rfl, _, rfl⟩
      rw [show decide ((u.kind : Int) = 6) = true from Zt Zo];refine GOH ?_;refine kG (kJ true) Zr ZP (fun v Post hv => ?_) Zaj;obtain ⟨_, rfl, rfl⟩ := hv;simp only [List.nil_append];refine GOH ?_;refine kG hv Zr ZP (fun v Post hv => ?_) (fun ch Post hz => ?_);rotate_left
      · obtain ⟨hb, rfl, m2, rfl⟩ := hz;have hnone : RR = none := by
          rw [hR5, zX (.inl (ja (List.mem_map.2 ⟨u, Zv hu, by simp [kK, h6, hb]⟩)))];unfold kK;split <;> rfl
        exact ⟨[A, lkA lb m2 deep], ZI, hnone, rfl, m2, rfl⟩
      obtain ⟨e, m2, he, rfl, rfl⟩ := hv;simp only [CNx];refine GOH ?_;rw [show (if (e : Int) > (d : Int) then (e : Int) else (d : Int)) = ((max d e : Nat) : Int) by split <;> omega];refine ⟨(j + 1, max d e, mm || m2), ⟨by simp only;omega, ?_⟩, by simp only;omega, ZU, ?_⟩
      · simp only [htk, List.map_append, List.map_cons, List.map_nil, he];simp only [h6, decide_true];exact jZ i2
      · simp only [Bool.or_assoc];exact IMx
    · rintro ⟨d, mm⟩ i2
      simp only at i2;dsimp only;cases hf : we y z.name (kO y) with
      | some pf =>
        obtain ⟨dF, mF⟩ := pf;have hFf := look_some (hF (mB || mm)) hf;refine VC.draws ⟨?_, trivial⟩;refine GOH ?_;refine kL Zr (fun z hz => by simp only [List.flatten_cons, List.mem_append];simp [hym z hz]) hyl ?_;refine GOH ?_;refine kD hFf Zr ZP (fun v Post hv => ?_);obtain ⟨rfl, rfl⟩ := hv;simp only [CNx];refine GOH ?_;rw [show (if (dF : Int) > (d : Int) then (dF : Int) else (d : Int)) = ((max d dF : Nat) : Int) by split <;> omega];refine ⟨⟨max d dF, decide (256 < kids.length) || (mm || mF), s, lk, ln, lbt, lt, la, items.length, lc, aa, args.length, ac, ta, temps.length, tc⟩, ?_, ZU, ?_⟩
        · rw [hR5, hf, i2];simp [je.ok, kK, wU, jm, hk0, ji, Lt.kind, Lt.n, Lt.bits, Lt.text, Lt.items];simp only [and_assoc]
        · simp only;rw [<- Bool.or_assoc, <- hmB, <- Bool.or_assoc];show Imp _ [A, lkA lb (mB || mm || mF) deep, kA r 0 [cv 5, .string s, cv lk, vi ln, uv lbt, .string lt, .slice la items.length lc, .slice aa args.length ac, .slice ta temps.length tc, .slice none 0 0, vi p]];exact IMx
      | none =>
        have hnone : RR = none := by
          rw [hR5, zX (.inr hf)];unfold kK;split <;> rfl
        obtain ⟨dF, φF, hFφ, hFz⟩ := look_any hF;refine VC.drawZ (fun ch H' => ch = jR /\ ∃ m, Imp H' [A, lkA lb m deep]) (fun H' => ∃ m, Imp H' [A, lkA lb m deep, kA q 0 [cv 5, .string s, cv lk, vi ln, uv lbt, .string lt, .slice la items.length lc, .slice aa args.length ac, .slice ta temps.length tc, .slice (some ⟨bk, o, none⟩) kids.length c, vi p]]) ⟨mB || mm, ZI⟩ ?_ (fun ch H' hp => ?_)
        · skip
          intro rs hrs;rcases List.mem_cons.1 hrs with rfl | hrs
          · skip
            refine ⟨rfl, vi d, True, fun Γ H hΓ hH => ?_, ?_⟩
            · obtain ⟨mz, hz⟩ := hH;refine VO.imp hz ?_;exact ka (hΓ 6 Zd _ rfl) Zae
            refine ⟨rfl, kN lb, True, fun Γ H hΓ hH => ?_, ?_⟩
            · obtain ⟨mz, hz⟩ := hH;refine VO.imp hz ?_;exact ka (hΓ 0 Zd _ rfl) Zae
            refine ⟨rfl, .pointer (some ⟨q, 9, none⟩), True, fun Γ H hΓ hH => ?_, ?_⟩
            · obtain ⟨mz, hz⟩ := hH;refine VO.imp hz ?_;exact kQ (hΓ 3 Zd _ rfl) rfl Zae
            refine ⟨rfl, .slice (some ⟨bk, o, none⟩) kids.length c, True, fun Γ H hΓ hH => ?_, ?_⟩
            · obtain ⟨mz, hz⟩ := hH;refine VO.imp hz ?_;exact kI (hΓ 141 Zd _ rfl) Zaq Zae
            refine ⟨rfl, .pointer (some ⟨bk, o, none⟩), True, fun Γ H hΓ hH => ?_, ?_⟩
            · obtain ⟨mz, hz⟩ := hH;refine VO.imp hz ?_;exact jf (hΓ 142 Zd _ rfl) rfl Zo Zz (VO.nil ⟨rfl, ⟨mz, Imp.refl _⟩, trivial⟩)
            refine ⟨rfl, .agg (us 0).toArray, True, fun Γ H hΓ hH => ?_, ?_⟩
            · obtain ⟨mz, hz⟩ := hH;refine VO.imp hz ?_;exact kL (hΓ 143 Zd _ rfl) Zah hyl Zae
            refine ⟨rfl, .pointer (some ⟨q, 9, none⟩), True, fun Γ H hΓ hH => ?_, ?_⟩
            · obtain ⟨mz, hz⟩ := hH;refine VO.imp hz ?_;exact kQ (hΓ 3 Zd _ rfl) rfl Zae
            refine ⟨rfl, .slice (some ⟨bk, o, none⟩) kids.length c, True, fun Γ H hΓ hH => ?_, ?_⟩
            · obtain ⟨mz, hz⟩ := hH;refine VO.imp hz ?_;exact kI (hΓ 145 Zd _ rfl) Zaq Zae
            refine ⟨rfl, .pointer (some ⟨bk, o + 11, none⟩), True, fun Γ H hΓ hH => ?_, ?_⟩
            · obtain ⟨mz, hz⟩ := hH;refine VO.imp hz ?_;exact jf (hΓ 146 Zd _ rfl) rfl Zo Zz (VO.nil ⟨rfl, ⟨mz, Imp.refl _⟩, trivial⟩)
            refine ⟨rfl, .pointer (some ⟨bk, o + 12, none⟩), True, fun Γ H hΓ hH => ?_, ?_⟩
            · obtain ⟨mz, hz⟩ := hH;refine VO.imp hz ?_;exact kQ (hΓ 147 Zd _ rfl) Zo (VO.nil ⟨rfl, ⟨mz, Imp.refl _⟩, trivial⟩)
            refine ⟨rfl, .string z.name, True, fun Γ H hΓ hH => ?_, ?_⟩
            · obtain ⟨mz, hz⟩ := hH;refine VO.imp hz ?_;exact kI (hΓ 148 Zd _ rfl) Zaq Zae
            refine ⟨rfl, vi dF, φF, fun Γ H hΓ hH => ?_, ?_⟩
            · obtain ⟨mz, hz⟩ := hH;refine VO.imp hz ?_;refine kG (hFz mz) (by simp only [V.evs, V.ev, hΓ 140 Zd _ rfl, hΓ 144 Zd _ rfl, hΓ 149 Zd _ rfl]) ZP (fun v Post hv => ?_) (fun ch Post hz => ?_)
              · obtain ⟨rfl, hφ, m', rfl⟩ := hv;exact VO.nil ⟨rfl, ⟨m', Imp.refl _⟩, hφ⟩
              · obtain ⟨rfl, m', rfl⟩ := hz;exact ⟨rfl, m', ZI⟩
            refine ⟨rfl, vi (max d dF : Nat), True, fun Γ H hΓ hH => ?_, ?_⟩
            · obtain ⟨mz, hz⟩ := hH;refine VO.imp hz ?_;exact st_max (by simp only [V.ev, hΓ 139 Zd _ rfl]) (by simp only [V.ev, hΓ 150 Zd _ rfl]) (VO.nil ⟨rfl, ⟨mz, Imp.refl _⟩, trivial⟩)
            refine ⟨rfl, vi (max d dF : Nat), True, fun Γ H hΓ hH => ?_, ?_⟩
            · obtain ⟨mz, hz⟩ := hH;refine VO.imp hz ?_;exact ka (hΓ 151 Zd _ rfl) Zae
            exact fun hh => by
              simp only [true_and, and_true] at hh;exact hFφ hh hf
          · cases hrs
        · obtain ⟨rfl, m, hi⟩ := hp;exact ⟨_, hi, hnone, rfl, m, rfl⟩
  | false =>
    obtain ⟨mB, hmB⟩ : ∃ b, b = (false || decide (256 < kids.length)) := ⟨_, rfl⟩;have hmB0 : mB = decide ((kids.length : Int) > 256) := by
      rw [hmB, Bool.false_or];exact decide_eq_decide.2 Zo
    refine j7 ?_;refine VC.join (α := Nat × Bool) (fun z => [(0, kN lb), (3, kN q), (5, kN r), (6, vi z.1)]) (fun z => [A, lkA lb (mB || z.2) deep, kA r 0 [cv 5, .string s, cv lk, vi ln, uv lbt, .string lt, .slice la items.length lc, .slice aa args.length ac, .slice ta temps.length tc, .slice none 0 0, vi p], kA q 0 [cv 5, .string s, cv lk, vi ln, uv lbt, .string lt, .slice la items.length lc, .slice aa args.length ac, .slice ta temps.length tc, .slice (some ⟨bk, o, none⟩) kids.length c, vi p]]) (fun e => jF ((z :: l).map fun y => kK (decide (y.kind = 6)) (kO y)) = some (e.1, e.2)) ?_ ?_
    · refine GOH ?_;refine w9 Zr Zr (l := 1) rfl Zo ?_;rw [<- hls, if_neg Zo];refine GOH ?_;refine VC.loop (α := Nat × Nat × Bool) (Γf := fun s => [(0, kN lb), (3, kN q), (5, kN r), (6, vi s.2.1), (123, .slice (some ⟨bk, o + 1 * 11, none⟩) (z :: l).length (c - 1)), (124, vi (z :: l).length), (125, vi s.1)]) (Hf := fun e => [A, lkA lb (mB || e.2.2) deep, kA r 0 [cv 5, .string s, cv lk, vi ln, uv lbt, .string lt, .slice la items.length lc, .slice aa args.length ac, .slice ta temps.length tc, .slice none 0 0, vi p], kA q 0 [cv 5, .string s, cv lk, vi ln, uv lbt, .string lt, .slice la items.length lc, .slice aa args.length ac, .slice ta temps.length tc, .slice (some ⟨bk, o, none⟩) kids.length c, vi p]])
        (I := fun s => s.1 <= (z :: l).length /\ jF (((z :: l).take s.1).map fun y => kK (decide (y.kind = 6)) (kO y)) = some (s.2.1, s.2.2)) (μ := fun s => (z :: l).length - s.1) (0, 0, false) ⟨Nat.zero_le _, rfl⟩ ZU (by show Imp _ [A, lkA lb (mB || false) deep, kA r 0 [cv 5, .string s, cv lk, vi ln, uv lbt, .string lt, .slice la items.length lc, .slice aa args.length ac, .slice ta temps.length tc, .slice none 0 0, vi p], kA q 0 [cv 5, .string s, cv lk, vi ln, uv lbt, .string lt, .slice la items.length lc, .slice aa args.length ac, .slice ta temps.length tc, .slice (some ⟨bk, o, none⟩) kids.length c, vi p]];rw [Bool.or_false, hmB0];exact IMx) ?_
      rintro ⟨j, d, mm⟩ ⟨i1, i2⟩
      simp only at i1 i2;dsimp only;have hget : ∀ j y, (z :: l)[j]? = some y -> kids[j + 1]? = some y := fun j y e => by rw [hky];exact e
      have hmul : (z :: l).length <= 140737488355328 := by omega
      generalize htl : z :: l = tl at *;refine GOH ?_;by_cases hj : j < tl.length;rotate_left
      · rw [show decide ((j : Int) < (tl.length : Int)) = false from Zf Zo];rw [List.take_of_length_le Zo] at i2;refine GOH ?_;exact ⟨(d, mm), i2, ZU, ZI⟩
      rw [show decide ((j : Int) < (tl.length : Int)) = true from Zt Zo];obtain ⟨u, hu⟩ : ∃ u, tl[j]? = some u := ⟨_, Zg hj⟩;have hur := hr (j + 1) u (hget j u hu);have hum := hm (j + 1) Zo;have huok := hkids.ok (j + 1) u (hget j u hu);rw [show o + (j + 1) * 11 = o + (11 + j * 11) by omega] at hum;have hv := huok.1 lb (mB || mm) deep;generalize us (j + 1) = uj at hur hum hv;obtain ⟨e1, e2, e3, e4, e5, e6, e7, e8, e9, e10, e11, e12, e13, e14, e15, e16, e17, rfl, hsz, hkk⟩ := km hur;have htk : tl.take (j + 1) = tl.take j ++ [u] := by rw [List.take_add_one, hu];rfl
      refine GOH ?_;refine kL Zr (fun z hz => Zw _ (hum z hz)) rfl ?_;refine GOH ?_;refine kP (fun q9 => ?_);refine GOH ?_;by_cases h6 : u.kind = 6;rotate_left
      · have hnone : RR = none := by
          rw [hR5, zX (.inl (ja (List.mem_map.2 ⟨u, Zv hu, by simp [kK, h6]⟩)))];unfold kK;split <;> rfl
        rw [show decide ((u.kind : Int) = 6) = false from Zf Zo];refine GOH ?_;refine kG (kJ false) Zr ZP Zai (fun ch Post hz => ?_);obtain ⟨_, rfl, rfl⟩ := hz;exact ⟨[A, lkA lb (mB || mm) deep], ZI, hnone, rfl, _, rfl⟩
      rw [show decide ((u.kind : Int) = 6) = true from Zt Zo];refine GOH ?_;refine kG (kJ true) Zr ZP (fun v Post hv => ?_) Zaj;obtain ⟨_, rfl, rfl⟩ := hv;simp only [List.nil_append];refine GOH ?_;refine kG hv Zr ZP (fun v Post hv => ?_) (fun ch Post hz => ?_);rotate_left
      · obtain ⟨hb, rfl, m2, rfl⟩ := hz;have hnone : RR = none := by
          rw [hR5, zX (.inl (ja (List.mem_map.2 ⟨u, Zv hu, by simp [kK, h6, hb]⟩)))];unfold kK;split <;> rfl
        exact ⟨[A, lkA lb m2 deep], ZI, hnone, rfl, m2, rfl⟩
      obtain ⟨e, m2, he, rfl, rfl⟩ := hv;simp only [CNx];refine GOH ?_;rw [show (if (e : Int) > (d : Int) then (e : Int) else (d : Int)) = ((max d e : Nat) : Int) by split <;> omega];refine ⟨(j + 1, max d e, mm || m2), ⟨by simp only;omega, ?_⟩, by simp only;omega, ZU, ?_⟩
      · simp only [htk, List.map_append, List.map_cons, List.map_nil, he];simp only [h6, decide_true];exact jZ i2
      · simp only [Bool.or_assoc];exact IMx
    · rintro ⟨d, mm⟩ i2
      simp only at i2;dsimp only;cases hf : we y z.name (kO y) with
      | some pf =>
        obtain ⟨dF, mF⟩ := pf;have hFf := look_some (hF (mB || mm)) hf;refine VC.draws ⟨?_, trivial⟩;refine GOH ?_;refine kL Zr (fun z hz => by simp only [List.flatten_cons, List.mem_append];simp [hym z hz]) hyl ?_;refine GOH ?_;refine kD hFf Zr ZP (fun v Post hv => ?_);obtain ⟨rfl, rfl⟩ := hv;simp only [CNx];refine GOH ?_;rw [show (if (dF : Int) > (d : Int) then (dF : Int) else (d : Int)) = ((max d dF : Nat) : Int) by split <;> omega];refine ⟨⟨max d dF, decide (256 < kids.length) || (mm || mF), s, lk, ln, lbt, lt, la, items.length, lc, aa, args.length, ac, ta, temps.length, tc⟩, ?_, ZU, ?_⟩
        · rw [hR5, hf, i2];simp [je.ok, kK, wU, jm, hk0, ji, Lt.kind, Lt.n, Lt.bits, Lt.text, Lt.items];simp only [and_assoc]
        · simp only;rw [<- Bool.or_assoc, <- hmB, <- Bool.or_assoc];show Imp _ [A, lkA lb (mB || mm || mF) deep, kA r 0 [cv 5, .string s, cv lk, vi ln, uv lbt, .string lt, .slice la items.length lc, .slice aa args.length ac, .slice ta temps.length tc, .slice none 0 0, vi p]];exact IMx
      | none =>
        have hnone : RR = none := by
          rw [hR5, zX (.inr hf)];unfold kK;split <;> rfl
        obtain ⟨dF, φF, hFφ, hFz⟩ := look_any hF;refine VC.drawZ (fun ch H' => ch = jR /\ ∃ m, Imp H' [A, lkA lb m deep]) (fun H' => ∃ m, Imp H' [A, lkA lb m deep, kA q 0 [cv 5, .string s, cv lk, vi ln, uv lbt, .string lt, .slice la items.length lc, .slice aa args.length ac, .slice ta temps.length tc, .slice (some ⟨bk, o, none⟩) kids.length c, vi p]]) ⟨mB || mm, ZI⟩ ?_ (fun ch H' hp => ?_)
        · skip
          intro rs hrs;rcases List.mem_cons.1 hrs with rfl | hrs
          · skip
            refine ⟨rfl, vi d, True, fun Γ H hΓ hH => ?_, ?_⟩
            · obtain ⟨mz, hz⟩ := hH;refine VO.imp hz ?_;exact ka (hΓ 6 Zd _ rfl) Zae
            refine ⟨rfl, kN lb, True, fun Γ H hΓ hH => ?_, ?_⟩
            · obtain ⟨mz, hz⟩ := hH;refine VO.imp hz ?_;exact ka (hΓ 0 Zd _ rfl) Zae
            refine ⟨rfl, .pointer (some ⟨q, 9, none⟩), True, fun Γ H hΓ hH => ?_, ?_⟩
            · obtain ⟨mz, hz⟩ := hH;refine VO.imp hz ?_;exact kQ (hΓ 3 Zd _ rfl) rfl Zae
            refine ⟨rfl, .slice (some ⟨bk, o, none⟩) kids.length c, True, fun Γ H hΓ hH => ?_, ?_⟩
            · obtain ⟨mz, hz⟩ := hH;refine VO.imp hz ?_;exact kI (hΓ 141 Zd _ rfl) Zaq Zae
            refine ⟨rfl, .pointer (some ⟨bk, o, none⟩), True, fun Γ H hΓ hH => ?_, ?_⟩
            · obtain ⟨mz, hz⟩ := hH;refine VO.imp hz ?_;exact jf (hΓ 142 Zd _ rfl) rfl Zo Zz (VO.nil ⟨rfl, ⟨mz, Imp.refl _⟩, trivial⟩)
            refine ⟨rfl, .agg (us 0).toArray, True, fun Γ H hΓ hH => ?_, ?_⟩
            · obtain ⟨mz, hz⟩ := hH;refine VO.imp hz ?_;exact kL (hΓ 143 Zd _ rfl) Zah hyl Zae
            refine ⟨rfl, .pointer (some ⟨q, 9, none⟩), True, fun Γ H hΓ hH => ?_, ?_⟩
            · obtain ⟨mz, hz⟩ := hH;refine VO.imp hz ?_;exact kQ (hΓ 3 Zd _ rfl) rfl Zae
            refine ⟨rfl, .slice (some ⟨bk, o, none⟩) kids.length c, True, fun Γ H hΓ hH => ?_, ?_⟩
            · obtain ⟨mz, hz⟩ := hH;refine VO.imp hz ?_;exact kI (hΓ 145 Zd _ rfl) Zaq Zae
            refine ⟨rfl, .pointer (some ⟨bk, o + 11, none⟩), True, fun Γ H hΓ hH => ?_, ?_⟩
            · obtain ⟨mz, hz⟩ := hH;refine VO.imp hz ?_;exact jf (hΓ 146 Zd _ rfl) rfl Zo Zz (VO.nil ⟨rfl, ⟨mz, Imp.refl _⟩, trivial⟩)
            refine ⟨rfl, .pointer (some ⟨bk, o + 12, none⟩), True, fun Γ H hΓ hH => ?_, ?_⟩
            · obtain ⟨mz, hz⟩ := hH;refine VO.imp hz ?_;exact kQ (hΓ 147 Zd _ rfl) Zo (VO.nil ⟨rfl, ⟨mz, Imp.refl _⟩, trivial⟩)
            refine ⟨rfl, .string z.name, True, fun Γ H hΓ hH => ?_, ?_⟩
            · obtain ⟨mz, hz⟩ := hH;refine VO.imp hz ?_;exact kI (hΓ 148 Zd _ rfl) Zaq Zae
            refine ⟨rfl, vi dF, φF, fun Γ H hΓ hH => ?_, ?_⟩
            · obtain ⟨mz, hz⟩ := hH;refine VO.imp hz ?_;refine kG (hFz mz) (by simp only [V.evs, V.ev, hΓ 140 Zd _ rfl, hΓ 144 Zd _ rfl, hΓ 149 Zd _ rfl]) ZP (fun v Post hv => ?_) (fun ch Post hz => ?_)
              · obtain ⟨rfl, hφ, m', rfl⟩ := hv;exact VO.nil ⟨rfl, ⟨m', Imp.refl _⟩, hφ⟩
              · obtain ⟨rfl, m', rfl⟩ := hz;exact ⟨rfl, m', ZI⟩
            refine ⟨rfl, vi (max d dF : Nat), True, fun Γ H hΓ hH => ?_, ?_⟩
            · obtain ⟨mz, hz⟩ := hH;refine VO.imp hz ?_;exact st_max (by simp only [V.ev, hΓ 139 Zd _ rfl]) (by simp only [V.ev, hΓ 150 Zd _ rfl]) (VO.nil ⟨rfl, ⟨mz, Imp.refl _⟩, trivial⟩)
            refine ⟨rfl, vi (max d dF : Nat), True, fun Γ H hΓ hH => ?_, ?_⟩
            · obtain ⟨mz, hz⟩ := hH;refine VO.imp hz ?_;exact ka (hΓ 151 Zd _ rfl) Zae
            exact fun hh => by
              simp only [true_and, and_true] at hh;exact hFφ hh hf
          · cases hrs
        · obtain ⟨rfl, m, hi⟩ := hp;exact ⟨_, hi, hnone, rfl, m, rfl⟩
end Go.Proofs.YtmnmandpdadedaaGreatDoor
namespace Go.Proofs.YtmnmandpdadedaaGreatDoor
open Go Go.V
theorem node_ok (A : List kE) (hE : ErA A) : ∀ (N : Nat) (x : Nd), x.w <= N -> x.w <= 274877906944 -> ∀ vs, kf A x vs -> jw A x vs := by
  intro N
  induction N with
  | zero => intro x hx;have := x.w_pos;omega
  | succ N ih =>
    intro x hx hb vs h;have hok : ∀ y us, y ∈ x.kids -> kf A y us -> jw A y us := fun y us hy hr => by
      have h1 : y.w < x.w := by
        cases x;have := Nd.ws_mem hy;simp only [Nd.kids] at this;simp only [Nd.w];omega
      exact ih y Zo Zo us hr
    refine ⟨fun lb m0 deep => node_of A x vs h ?_ lb m0 deep, fun d m e => ?_⟩
    · by_cases k1 : x.kind = 1
      · exact node_k1 A hE x vs h hb hok k1
      by_cases k2 : x.kind = 2
      · exact node_k2 A hE x vs h hb hok k2
      by_cases k3 : x.kind = 3
      · exact node_k3 A hE x vs h hb hok k3
      by_cases k4 : x.kind = 4
      · exact node_k4 A hE x vs h hb hok k4
      by_cases k5 : x.kind = 5
      · exact node_k5 A hE x vs h hb hok k5
      by_cases k6 : x.kind = 6
      · exact node_k6 A hE x vs h hb hok k6
      by_cases k7 : x.kind = 7
      · exact node_k7 A hE x vs h hb hok k7
      by_cases k8 : x.kind = 8
      · exact node_k8 A hE x vs h hb hok k8
      by_cases k9 : x.kind = 9
      · exact node_k9 A hE x vs h hb hok k9
      exact node_k0 A hE x vs h hb hok ⟨k1, k2, k3, k4, k5, k6, k7, k8, k9⟩
    · have := nodeD_le _ x (Nat.le_refl _) d m e;omega
theorem node_spec (A : List kE) (hE : ErA A) (x : Nd) (hb : x.w <= 274877906944) (vs : List Value) (h : kf A x vs) : jw A x vs := node_ok A hE _ x (Nat.le_refl _) hb vs h
end Go.Proofs.YtmnmandpdadedaaGreatDoor
namespace Go.Proofs.YtmnmandpdadedaaGreatDoor
open Go Go.V
set_option maxRecDepth 100000
def F87 : RIR := laidA (X := ⟨11, [], 4, [qo 5 (.tassert 96 (Value.agg #[(.int .i64 0)]) true (.tmp 4)),qm 3 5,qe 6 3 0,qe 7 3 1,
  qo 1 (.alloc 96 [(.int .i64 0)]),qs 1 1 6,qm 2 7], (qS [qm 8 2] [0,1,8] (qC 8 (.reg [qf 9 0 1,ql 10 9,qs 1 0 10] []) .skip))⟩)
theorem n87 : F87.n = 11 := rfl
theorem low87 : lowFR Tryz.prog (kM [(0, [0,1,2]), (1, [0,1,8]), (2, [])]) (kM []) 87 = some F87 := by kernel_rfl
end Go.Proofs.YtmnmandpdadedaaGreatDoor
namespace Go.Proofs.YtmnmandpdadedaaGreatDoor
open Go Go.V
set_option maxHeartbeats 3200000
set_option maxRecDepth 100000
theorem caught1_none (e : Nat) (n : Int) : FunDR Tryz.prog 87 [kN e] .returning .returning [kA e 0 [vi n]] (fun Post => Post = [kA e 0 [vi n]]) := by
  refine FunDR.intro low87 (by simp [n87]) .none ?_;refine GOH ?_;refine kP (fun q => ?_);refine GOH ?_;refine VCz.seq (VCz.reg ?_);refine GOH ?_;refine VCz.cond (t := false) Zr (fun h => by cases h) (fun _ => VCz.skip ?_);exact kC (Post := [kA e 0 [vi n]]) (.inl rfl) .nil rfl ZI
theorem caught1_some (e : Nat) (n : Int) : FunDR Tryz.prog 87 [kN e] (.panicking jR) (.panicking [{ v := wrongV, recovered := true }]) [kA e 0 [vi n]] (fun Post => Post = [kA e 0 [vi 150]]) := by
  refine FunDR.intro low87 (by simp [n87]) .some ?_;refine GOH ?_;refine kP (fun q => ?_);refine GOH ?_;refine VCz.seq (VCz.reg ?_);refine GOH ?_;refine VCz.cond (t := true) Zr (fun _ => VCz.reg ?_) (fun h => by cases h);refine GOH ?_;exact kC (Post := [kA e 0 [vi 150]]) (.inl rfl) .nil rfl ZI
theorem spl_comm (L R : SH) : Spl (L ++ R) R L := by
  simp only [V.Spl, List.flatten_append];exact List.perm_append_comm
theorem imp_drop2 (X Y : List kE) (L : SH) : Imp ([X, Y] ++ L) L := ⟨[X, Y], by
  simp only [V.Spl, List.flatten_append];exact List.perm_append_comm⟩
theorem imp_drop2f (X Y : List kE) (L : SH) : Imp ([X] ++ [Y, L.flatten]) L := ⟨[X, Y], by
  simp only [V.Spl, List.flatten_append, List.flatten_cons, List.flatten_nil, List.append_nil];rw [<- List.append_assoc];exact List.perm_append_comm⟩
theorem caught_end (e lb : Nat) (n : Int) (m d : Bool) (Post' : SH) (Q : Value -> SH -> Prop) (Γ : Env) (hΓ : V.look Γ 2 = some (kN e)) (hq : Q (vi n) Post') {H : SH} (hH : Spl H [kA e 0 [vi n]] [lkA lb m d, Post'.flatten]) :
    endDP Tryz.prog 87 [kN e] [.cell1 2] Q .ret Γ H := by
  refine ⟨.inr rfl, [kA e 0 [vi n]], [lkA lb m d, Post'.flatten], _, caught1_none e n, hH, ?_⟩
  rintro Post rfl
  exact ⟨.inr rfl, [vi n], Post', .cell1 hΓ Zan .nil, imp_drop2f _ _ _, hq⟩
theorem caught_spec (fv : Value) (Pre : SH) (QQ : Bool -> Bool -> SH -> Prop) (ZZ : SH -> Prop)
    (h : ∀ lb, FunVP Tryz.prog fv [kN lb] (lkA lb false false :: Pre) (fun v Post => ∃ m d Post', Post = lkA lb m d :: Post' /\ QQ m d Post') (fun ch Post => ch = jR /\ ∃ m d Post', Post = lkA lb m d :: Post' /\ ZZ Post')) :
    Fun Tryz.prog 45 [fv] Pre (fun v Post => (∃ m d, v = vi (if m then 151 else if d then 152 else 0) /\ QQ m d Post) ∨ (v = vi 150 /\ ZZ Post)) := by
  refine Fun.introDP low45 (by simp [n45]) ?_;simp only [F45, laidA, VDP];refine GOH ?_;refine kP (fun e => ?_);refine GOH ?_;refine kS Zr (fun lb => ?_);simp only [Value.cells];refine GOH ?_;refine ⟨[kN e], Zr, ?_⟩;refine GOH ?_;have hR : Spl (kA lb 0 [.bool false, .bool false] :: kA e 0 [vi 0] :: Pre) (lkA lb false false :: Pre) [kA e 0 [vi 0]] := by
    simp only [V.Spl, List.flatten_cons, List.flatten_nil, List.cons_append, List.append_nil, List.append_assoc];exact List.Perm.append_left _ List.perm_append_comm
  refine st_callVZ Zr (h lb) Zr hR (fun v Post hv => ?_) (fun ch Post hz => ?_);rotate_left
  · obtain ⟨rfl, m, d, Post', rfl, hz⟩ := hz;refine ⟨[kA e 0 [vi 0]], lkA lb m d :: Post', _, _, caught1_some e 0, rfl, spl_comm _ _, ?_⟩
    rintro Post rfl
    exact ⟨.inr rfl, [vi 150], Post', .cell1 Zr Zan .nil, imp_drop2 _ _ _, .inr ⟨rfl, hz⟩⟩
  obtain ⟨m, d, Post', rfl, hq⟩ := hv;refine VO.imp (H' := [lkA lb m d, kA e 0 [vi 0], Post'.flatten]) (Imp.perm ?_) ?_
  · simp only [List.flatten_cons, List.flatten_nil, List.cons_append, List.append_nil, List.flatten_append];exact List.Perm.append_left _ List.perm_append_comm
  cases m with
  | true =>
    refine GOH ?_;exact caught_end e lb 151 true d Post' _ _ rfl (.inl ⟨true, d, rfl, hq⟩) ZP
  | false =>
    cases d with
    | true =>
      refine GOH ?_;exact caught_end e lb 152 false true Post' _ _ rfl (.inl ⟨false, true, rfl, hq⟩) ZP
    | false =>
      refine GOH ?_;exact caught_end e lb 0 false false Post' _ _ rfl (.inl ⟨false, false, rfl, hq⟩) ZP
end Go.Proofs.YtmnmandpdadedaaGreatDoor
namespace Go.Proofs.YtmnmandpdadedaaGreatDoor
open Go Go.V
set_option maxHeartbeats 3200000
set_option maxRecDepth 100000
theorem checkNode1_spec (A : List kE) (x : Nd) (vs : List Value) (h : kf A x vs) (hok : jw A x vs) (q lb : Nat) :
    wE Tryz.prog 72 [kN lb, kN q] [lkA lb false false, A, kA q 0 vs] (fun v Post => ∃ m d Post', Post = lkA lb m d :: Post' /\ (∃ dd, j5 x 0 (kO x) = some (dd, m) /\ d = decide (40 < dd)) /\ Post' = [A])
      (fun ch Post => ch = jR /\ ∃ m d Post', Post = lkA lb m d :: Post' /\ j5 x 0 (kO x) = none /\ Post' = [A]) := by
  have hv := wF A x vs h hok 0 lb false false;obtain ⟨e1, e2, e3, e4, e5, e6, e7, e8, e9, e10, e11, e12, e13, e14, e15, e16, e17, rfl, hsz, hkk⟩ := km h;refine wE.intro low72 (by simp [n72]) ?_;refine GOH ?_;refine kG hv Zr ZP (fun v Post hv => ?_) (fun ch Post hz => ?_);rotate_left
  · obtain ⟨hb, rfl, m2, rfl⟩ := hz;exact ⟨[lkA lb m2 false, A], by simp only [CNx];exact IMx, rfl, m2, false, [A], rfl, hb, rfl⟩
  obtain ⟨d, m2, he, rfl, rfl⟩ := hv;rw [Bool.false_or];simp only [CNx];refine GOH ?_;exact jk (kC (Post := [lkA lb m2 (decide ((d : Int) > 40)), A]) (.inl rfl) .nil ⟨m2, _, [A], rfl, ⟨d, he, decide_eq_decide.2 Zo⟩, rfl⟩ ZI)
theorem checkNode_spec (A : List kE) (x : Nd) (vs : List Value) (h : kf A x vs) (hok : jw A x vs) : Fun Tryz.prog 24 [.agg vs.toArray] [A] (fun v Post => v = vi (checkN x) /\ Post = [A]) := by
  have h1 := checkNode1_spec A x vs h hok;obtain ⟨e1, e2, e3, e4, e5, e6, e7, e8, e9, e10, e11, e12, e13, e14, e15, e16, e17, rfl, hsz, hkk⟩ := km h;refine Fun.intro low24 (by simp [n24]) ?_;refine GOH ?_;refine kS Zr (fun q => ?_);simp only [Value.cells];refine GOH ?_;refine kD (caught_spec (.func (.func 72) #[] #[kN q]) [A, kA q 0 [cv x.kind, .string x.name, cv e1, vi e2, uv e3, .string e4, .slice e5 e6 e7, .slice e8 e9 e10, .slice e11 e12 e13, .slice e14 e15 e16, vi e17]]
    (fun m d Post' => (∃ dd, j5 x 0 (kO x) = some (dd, m) /\ d = decide (40 < dd)) /\ Post' = [A]) (fun Post' => j5 x 0 (kO x) = none /\ Post' = [A]) (fun lb => FunVP.of_fun (first := #[]) (cap := #[kN q]) (h1 q lb))) Zr ZP (fun v Post hv => ?_)
  have hfin : v = vi (checkN x) /\ Post = [A] := by
    rcases hv with ⟨m, d, rfl, ⟨dd, e, rfl⟩, rfl⟩ | ⟨rfl, e, rfl⟩
    · refine ⟨?_, rfl⟩;simp only [checkN, endE, e];cases m <;> simp <;> split <;> rfl
    · refine ⟨?_, rfl⟩;simp only [checkN, endE, e];rfl
  obtain ⟨rfl, rfl⟩ := hfin;simp only [CNx];refine GOH ?_;exact kC (Post := [A]) (.inr rfl) (.tmp Zr .nil) ⟨rfl, rfl⟩ ZI
theorem sound1_spec (A : List kE) (x : Nd) (vs : List Value) (h : kf A x vs) (hok : jw A x vs) (q dp lb : Nat) :
    wE Tryz.prog 114 [kN lb, kN q, kN dp] [lkA lb false false, A, kA q 0 vs, kA dp 0 [vi 0]] (fun v Post => ∃ m d Post', Post = lkA lb m d :: Post' /\ (d = false /\ ∃ dd : Nat, kO x = some (dd, m) /\ Post' = [A, kA dp 0 [vi dd]]))
      (fun ch Post => ch = jR /\ ∃ m d Post', Post = lkA lb m d :: Post' /\ kO x = none /\ Post' = [A, kA dp 0 [vi 0]]) := by
  have hv := hok.1 lb false false;obtain ⟨e1, e2, e3, e4, e5, e6, e7, e8, e9, e10, e11, e12, e13, e14, e15, e16, e17, rfl, hsz, hkk⟩ := km h;refine wE.intro low114 (by simp [n114]) ?_;refine GOH ?_;refine kG hv Zr ZP (fun v Post hv => ?_) (fun ch Post hz => ?_);rotate_left
  · obtain ⟨hb, rfl, m2, rfl⟩ := hz;exact ⟨[lkA lb m2 false, A, kA dp 0 [vi 0]], by simp only [CNx];exact IMx, rfl, m2, false, _, rfl, hb, rfl⟩
  obtain ⟨d, m2, he, rfl, rfl⟩ := hv;rw [Bool.false_or];simp only [CNx];refine GOH ?_;exact jk (kC (Post := [lkA lb m2 false, A, kA dp 0 [vi d]]) (.inl rfl) .nil ⟨m2, false, _, rfl, rfl, d, he, rfl⟩ ZI)
theorem sound_spec (A : List kE) (x : Nd) (vs : List Value) (h : kf A x vs) (hok : jw A x vs) : Fun Tryz.prog 74 [.agg vs.toArray] [A] (fun v Post => ∃ k : Nat, v = .tuple #[vi k, .bool (zU x).isSome] /\ (∀ d, zU x = some d -> k = d) /\ Post = [A]) := by
  have h1 := sound1_spec A x vs h hok;obtain ⟨e1, e2, e3, e4, e5, e6, e7, e8, e9, e10, e11, e12, e13, e14, e15, e16, e17, rfl, hsz, hkk⟩ := km h;refine Fun.intro low74 (by simp [n74]) ?_;refine GOH ?_;refine kS Zr (fun q => ?_);simp only [Value.cells];refine GOH ?_;refine kP (fun dp => ?_);refine GOH ?_;refine kD (caught_spec (.func (.func 114) #[] #[kN q, kN dp]) [A, kA q 0 [cv x.kind, .string x.name, cv e1, vi e2, uv e3, .string e4, .slice e5 e6 e7, .slice e8 e9 e10, .slice e11 e12 e13, .slice e14 e15 e16, vi e17], kA dp 0 [vi 0]]
    (fun m d Post' => d = false /\ ∃ dd : Nat, kO x = some (dd, m) /\ Post' = [A, kA dp 0 [vi dd]]) (fun Post' => kO x = none /\ Post' = [A, kA dp 0 [vi 0]]) (fun lb => FunVP.of_fun (first := #[]) (cap := #[kN q, kN dp]) (h1 q dp lb))) Zr ZP (fun v Post hv => ?_)
  have hfin : ∃ (e k : Nat), v = vi e /\ Post = [A, kA dp 0 [vi k]] /\ (zU x).isSome = decide (e = 0) /\ ∀ d, zU x = some d -> k = d := by
    rcases hv with ⟨m, d, rfl, rfl, dd, e, rfl⟩ | ⟨rfl, e, rfl⟩
    · cases m with
      | true => exact ⟨151, dd, rfl, rfl, by simp [zU, e], fun d h => by simp [zU, e] at h⟩
      | false => exact ⟨0, dd, rfl, rfl, by simp [zU, e], fun d h => by simpa [zU, e] using h⟩
    · exact ⟨150, 0, rfl, rfl, by simp [zU, e], fun d h => by simp [zU, e] at h⟩
  obtain ⟨e, k, rfl, rfl, hs, hk⟩ := hfin;simp only [CNx];refine GOH ?_;have hs2 : (zU x).isSome = decide ((e : Int) = 0) := by rw [hs];exact decide_eq_decide.2 Zo
  exact ⟨.inr rfl, [vi k, .bool (decide ((e : Int) = 0))], [A], .cell1 Zr Zan (.tmp Zr .nil), ZI, ⟨k, by rw [hs2];rfl, hk, rfl⟩⟩
def levelT (x : Nd) : Nat := if (zU x).isSome then jU x else 0
def depthT (x : Nd) : Nat := (zU x).getD 0
theorem Level_spec (A : List kE) (x : Nd) (vs : List Value) (h : kf A x vs) (hok : jw A x vs) : Fun Tryz.prog 25 [.agg vs.toArray] [A] (fun v Post => v = vi (levelT x) /\ Post = [A]) := by
  have h1 := sound_spec A x vs h hok;obtain ⟨e1, e2, e3, e4, e5, e6, e7, e8, e9, e10, e11, e12, e13, e14, e15, e16, e17, rfl, hsz, hkk⟩ := km h;have hls := level_spec x.kind x.name hsz (cv e1) (vi e2) (uv e3) (.string e4) (.slice e5 e6 e7) (.slice e8 e9 e10) (.slice e11 e12 e13) (.slice e14 e15 e16) (vi e17);have hlv : zl x.kind x.name = jU x := rfl;refine Fun.intro low25 (by simp [n25]) ?_;unfold levelT;refine GOH ?_;refine kS Zr (fun q => ?_);simp only [Value.cells];refine GOH ?_;refine kD h1 Zr ZP (fun v Post hv => ?_);obtain ⟨k, rfl, hk, rfl⟩ := hv;simp only [CNx];cases hs : (zU x).isSome with
  | false =>
    refine GOH ?_;exact kC (Post := [A]) (.inr rfl) (.tmp Zr .nil) ⟨rfl, rfl⟩ ZI
  | true =>
    refine GOH ?_;refine kH hls Zr ?_;refine GOH ?_;exact kC (Post := [A]) (.inr rfl) (.tmp Zr .nil) ⟨rfl, rfl⟩ ZI
theorem Depth_spec (A : List kE) (x : Nd) (vs : List Value) (h : kf A x vs) (hok : jw A x vs) : Fun Tryz.prog 26 [.agg vs.toArray] [A] (fun v Post => v = vi (depthT x) /\ Post = [A]) := by
  have h1 := sound_spec A x vs h hok;obtain ⟨e1, e2, e3, e4, e5, e6, e7, e8, e9, e10, e11, e12, e13, e14, e15, e16, e17, rfl, hsz, hkk⟩ := km h;refine Fun.intro low26 (by simp [n26]) ?_;unfold depthT;refine GOH ?_;refine kS Zr (fun q => ?_);simp only [Value.cells];refine GOH ?_;refine kD h1 Zr ZP (fun v Post hv => ?_);obtain ⟨k, rfl, hk, rfl⟩ := hv;simp only [CNx];cases hs : zU x with
  | none =>
    refine GOH ?_;exact kC (Post := [A]) (.inr rfl) (.tmp Zr .nil) ⟨rfl, rfl⟩ ZI
  | some d =>
    obtain rfl := hk d hs;refine GOH ?_;exact kC (Post := [A]) (.inr rfl) (.tmp Zr .nil) ⟨rfl, rfl⟩ ZI
end Go.Proofs.YtmnmandpdadedaaGreatDoor

/-
  The heap: an object is filled, an object is made.
-/
import Derived.Test.YtmlnoodopoaafaaDoorP4
import Derived.Test.YtmlnoodopoaafaaDoorH3
import Derived.Test.YtmlnoodopoaafaaDoorH4
import Derived.Test.YtmlnoodopoaafaaDoorC2
set_option linter.unusedSimpArgs false
set_option linter.unusedVariables false
namespace Go.Proofs.YtmlnoodopoaafaaDoor
open Go Go.V
set_option maxHeartbeats 6400000
set_option maxRecDepth 100000
theorem fill_spec (p : Nat) (x : HW) (hx : HOk x) (b : Ob) (hb : b ∈ x.a.obs) (h6 : b.hd.fmt ≠ 6) (hy : spaceW x.a.rm b.at_ < 4 ∨ youngO x.a (x.a.sp.headD 0) = false) :
    Fun Tryd.prog 30 [ptr0 p, vi b.at_, .slice (some ⟨x.wb, b.off, none⟩) b.hd.slots b.hd.slots] [HA p x] (fun r Post => ∃ y, (r = .tuple #[] ∧ HOk y ∧ y.a = filledA x.a b.at_ b.hd.slots) ∧ Post = [HA p y]) := by
  obtain ⟨v, hv⟩ : ∃ v, x.a.sp[0]? = some v := ⟨_, List.getElem?_eq_getElem (by rw [hx.spl]; omega)⟩
  have hhd : x.a.sp.headD 0 = v := by
    cases e : x.a.sp with
    | nil => rw [e] at hv; cases hv
    | cons a r => rw [e] at hv; simpa using hv
  have hvs := hx.sps v (List.mem_of_getElem? hv)
  have hms := ha_sp (p := p) hv
  simp only [Nat.add_zero] at hms
  have hr := hx.range hb
  have hok := hx.lay.ok b hb
  have hsl := hok.may.slots
  have hlen := hok.len
  have hhigh := hx.lay.high b hb
  unfold Ob.stop at hhigh
  have hoff : ∀ i, i < b.hd.slots → b.off + i < x.ws.length := fun i hi => by unfold Ob.off; split <;> omega
  unfold filledA
  rw [hhd] at hy ⊢
  refine Fun.intro low30 (by simp [n30]) ?_
  refine GOH ?_
  refine VC.loop (α := Nat × HW) (Γf := fun s => [(0, ptr0 p), (1, vi b.at_), (2, .slice (some ⟨x.wb, b.off, none⟩) b.hd.slots b.hd.slots), (6, uv v), (14, vi b.hd.slots), (15, vi s.1)]) (Hf := fun s => [HA p s.2])
    (I := fun s => s.1 ≤ b.hd.slots ∧ HOk s.2 ∧ s.2.wb = x.wb ∧ s.2.ws.length = x.ws.length ∧ s.2.a = { x.a with obs := updO b.at_ (fillB s.1 v) x.a.obs }) (μ := fun s => b.hd.slots - s.1) (0, x) ⟨Nat.zero_le _, hx, rfl, rfl, ?_⟩ (by exact SUx) (Imp.refl _) ?_
  · show x.a = { x.a with obs := updO b.at_ (fillB 0 v) x.a.obs }
    rw [updO_id (f := fillB 0 v) (fun c _ _ => rfl)]
  rintro ⟨i, y⟩ ⟨i1, i2, i3, i4, i5⟩
  simp only at i1 i2 i3 i4 i5 ⊢
  refine GOH ?_
  by_cases hlt : i < b.hd.slots
  · rw [show decide ((i : Int) < (b.hd.slots : Int)) = true from decide_eq_true (by omega)]
    refine GOH ?_
    refine st_storeW (x := y) (i := b.off + i) (by rw [i3]; rfl) (by rfl) .here (by rw [i4]; exact hoff i hlt) ?_
    have hb' : fillB i v b ∈ y.a.obs := by rw [i5]; exact mem_updO.2 ⟨b, hb, by rw [if_pos rfl]⟩
    have key := i2.setB hb' (i := i) (v := v) hlt hvs (fun e => absurd e h6)
    refine GOH ?_
    refine ⟨(i + 1, _), ⟨by simp only; omega, key, i3, ?_, ?_⟩, by simp only; omega, by exact SUx, Imp.refl _⟩
    · simp only [List.length_set]; exact i4
    · simp only [i5]
      have e : updO b.at_ (setB i v) (updO b.at_ (fillB i v) x.a.obs) = updO b.at_ (fillB (i + 1) v) x.a.obs := (updO_updO (keep_fillB i v)).trans (updO_congr (fun c hc e => by
        have hcb := sort_one hx.lay.sort hc hb e
        subst hcb
        exact fillB_step (by rw [hlen]; exact hlt)))
      exact congrArg (fun o => ({ x.a with obs := o } : AH)) e
  · rw [show decide ((i : Int) < (b.hd.slots : Int)) = false from decide_eq_false (by omega)]
    have hi : i = b.hd.slots := by omega
    subst hi
    have hw := where_spec p y i2 b.at_ (by omega)
    rw [show y.a.rm = x.a.rm by rw [i5]] at hw
    have fin : HOk y ∧ y.a = { x.a with obs := updO b.at_ (fillB b.hd.slots v) x.a.obs } := ⟨i2, i5⟩
    by_cases h0 : b.hd.slots = 0
    · refine GOH ?_
      rw [show decide ((0 : Int) < (b.hd.slots : Int)) = false from decide_eq_false (by omega)]
      refine GOH ?_
      exact endQ_mk (.inl rfl) .nil ⟨y, ⟨rfl, i2, i5⟩, rfl⟩ (by exact IMx)
    · refine GOH ?_
      rw [show decide ((0 : Int) < (b.hd.slots : Int)) = true from decide_eq_true (by omega)]
      refine GOH ?_
      refine st_callS hw (by rfl) .here ?_
      refine GOH ?_
      by_cases h4 : spaceW x.a.rm b.at_ < 4
      rotate_left
      · have hyo : youngO y.a v = false := by
          rw [i5, youngO_upd (keep_fillB _ _)]
          exact hy.resolve_left h4
        have hyg := young_spec p y i2 v hvs
        rw [hyo] at hyg
        rw [show decide ((4 : Int) ≤ (spaceW x.a.rm b.at_ : Int)) = true from decide_eq_true (by omega)]
        refine GOH ?_
        refine st_callS hyg (by rfl) .here ?_
        refine GOH ?_
        exact endQ_mk (.inl rfl) .nil ⟨y, ⟨rfl, i2, i5⟩, rfl⟩ (by exact IMx)
      rw [show decide ((4 : Int) ≤ (spaceW x.a.rm b.at_ : Int)) = false from decide_eq_false (by omega)]
      refine GOH ?_
      exact endQ_mk (.inl rfl) .nil ⟨y, ⟨rfl, i2, i5⟩, rfl⟩ (by exact IMx)
theorem sizedH_spec (c f n : Nat) (hc : c ≤ 4095) (hf : f ≠ 5) (hn : n ≤ 65536) : Fun Tryd.prog 27 [.agg #[vi c, cv f, vi 0, vi 0, vi 0, vi 0, .bool false, .bool false], vi n, vi 0] [] (fun v Post => v = .tuple #[.agg (hdEnc (hdOf c f n)).toArray, .bool true] ∧ Post = []) :=
  (sized_spec c f n 0).mono (fun v Post ⟨⟨us, h1, _, h3⟩, h4⟩ => by
    have hok : okS c n 0 := ⟨by omega, by omega, by omega, by omega, by omega, by omega, by omega⟩
    have h5 := h3 hok
    refine ⟨?_, h4⟩
    rw [h1, decide_eq_true hok, h5]
    unfold hdOf; rw [if_neg hf]
    simp [hdEnc])
theorem sizedB_spec (c n : Nat) (hc : c ≤ 4095) (hn : n ≤ 524288) : Fun Tryd.prog 27 [.agg #[vi c, cv 5, vi 0, vi 0, vi 0, vi 0, .bool false, .bool false], vi 0, vi n] [] (fun v Post => v = .tuple #[.agg (hdEnc (hdOf c 5 n)).toArray, .bool true] ∧ Post = []) :=
  (sized_spec c 5 0 n).mono (fun v Post ⟨⟨us, h1, _, h3⟩, h4⟩ => by
    have hok : okS c 0 n := ⟨by omega, by omega, by omega, by omega, by omega, by omega, by omega⟩
    have h5 := h3 hok
    refine ⟨?_, h4⟩
    rw [h1, decide_eq_true hok, h5]
    unfold hdOf; rw [if_pos rfl]
    simp only [hdEnc]
    rw [show ((n : Int) + 7) / 8 * 8 - (n : Int) = (((n + 7) / 8 * 8 - n : Nat) : Int) by omega, show (0 : Int) + ((n : Int) + 7) / 8 = (((n + 7) / 8 : Nat) : Int) by omega]
    rfl)
def fullA (a : AH) (sp : Nat) (h : Hd) : Prop := ((roomA a sp).2.1 : Int) - (roomA a sp).2.2 < 2 + h.slots
def allocA (a : AH) (sp : Nat) (h : Hd) : AH := if h.fmt ≤ 3 then filledA (laidA a sp h) (roomA a sp).2.2 h.slots else laidA a sp h
theorem alloc_spec (p : Nat) (x : HW) (hx : HOk x) (sp c f n : Nat) (hsp : sp = 1 ∨ sp = 3 ∨ sp = 4) (hc : c ≤ 4095) (hf : 1 ≤ f ∧ f ≤ 5) (hn : n ≤ 60000) (h3 : f = 3 → 0 < n) (h4 : f ≤ 3 → sp ≠ 4 ∨ youngO x.a (x.a.sp.headD 0) = false) :
    Fun Tryd.prog 8 [ptr0 p, cv sp, vi c, cv f, vi n] [HA p x]
      (fun v Post => ∃ y, ((fullA x.a sp (hdOf c f n) ∧ v = .tuple #[uv 0, vi 41] ∧ y = x) ∨ (¬ fullA x.a sp (hdOf c f n) ∧ v = .tuple #[uv (8 * (roomA x.a sp).2.2), vi 0] ∧ HOk y ∧ y.a = allocA x.a sp (hdOf c f n))) ∧ Post = [HA p y]) := by
  have hmay := hdOf_may hc hf (by omega : n ≤ 65536) h3
  have hfmt : (hdOf c f n).fmt = f := by unfold hdOf; split <;> simp_all
  have hlay := lay_spec p x hx sp (hdOf c f n) hmay (by omega) (by omega) (by omega)
  have hmk : Fun Tryd.prog 28 [cv sp] [] (fun v Post => v = .bool true ∧ Post = []) := (makes_spec sp (by omega)).mono (fun v Post hv => by
    obtain ⟨rfl, rfl⟩ := hv; exact ⟨by rw [decide_eq_true (by omega)], rfl⟩)
  have hsl : (hdOf c f n).slots ≤ 65536 := hmay.slots
  have hsl3 : f = 3 → 0 < (hdOf c f n).slots := fun e => hmay.eph (by omega)
  have hsz : f ≠ 5 → Fun Tryd.prog 27 [.agg #[vi c, cv f, vi 0, vi 0, vi 0, vi 0, .bool false, .bool false], vi n, vi 0] [] (fun v Post => v = .tuple #[.agg (hdEnc (hdOf c f n)).toArray, .bool true] ∧ Post = []) := fun h => sizedH_spec c f n hc h (by omega)
  have hszB : f = 5 → Fun Tryd.prog 27 [.agg #[vi c, cv f, vi 0, vi 0, vi 0, vi 0, .bool false, .bool false], vi 0, vi n] [] (fun v Post => v = .tuple #[.agg (hdEnc (hdOf c f n)).toArray, .bool true] ∧ Post = []) := fun h => by subst h; exact sizedB_spec c n hc (by omega)
  unfold fullA allocA
  generalize hH : hdOf c f n = H at *
  simp only [hdEnc] at hsz hszB hlay
  refine Fun.intro low8 (by simp [n8]) ?_
  have hf5 : f = 1 ∨ f = 2 ∨ f = 3 ∨ f = 4 ∨ f = 5 := by omega
  have hspc : ∀ y : HW, HOk y → y.a = laidA x.a sp H → f ≤ 3 → newO (roomA x.a sp).2.2 H ∈ y.a.obs ∧ (spaceW y.a.rm (roomA x.a sp).2.2 < 4 ∨ youngO y.a (y.a.sp.headD 0) = false) := fun y hy e hf3 => by
    have hl6 := hx.rm.len
    obtain ⟨r, hr⟩ : ∃ r, x.a.rm[sp]? = some r := ⟨_, List.getElem?_eq_getElem (by omega)⟩
    have hroom : roomA x.a sp = r := by unfold roomA; rw [hr]; rfl
    have hrg := hx.rm.rng sp r hr
    have hyr : y.a.rm[sp]? = some (r.1, r.2.1, r.2.2 + (2 + H.slots)) := by
      rw [e]
      show (x.a.rm.set sp ((roomA x.a sp).1, (roomA x.a sp).2.1, (roomA x.a sp).2.2 + (2 + H.slots)))[sp]? = _
      rw [List.getElem?_set_self (by omega), hroom]
    have hrg2 := hy.rm.rng sp _ hyr
    simp only at hrg2
    refine ⟨by rw [e]; exact mem_insO.2 (.inl rfl), ?_⟩
    rw [space_of hy (sp := sp) (by omega) (by omega) hyr (by rw [hroom]; simp only; omega)]
    by_cases hs4 : sp = 4
    · subst hs4
      right
      have hyo := (h4 hf3).resolve_left (by simp)
      rw [show y.a.sp = x.a.sp by rw [e]; rfl]
      refine youngO_ins hx hy (b := newO (roomA x.a 4).2.2 H) (by rw [e]; rfl) (fun i => ?_) ?_ hyo
      · rw [e]
        unfold roomR laidA tookA
        simp only
        by_cases hi : i = 4
        · subst hi
          rw [List.getElem?_set_self (by omega), hr, hroom]; exact ⟨rfl, rfl⟩
        · rw [List.getElem?_set_ne (fun h => hi h.symm)]; exact ⟨rfl, rfl⟩
      · show 4 ≤ spaceW x.a.rm (roomA x.a 4).2.2
        have hlt : r.2.2 < r.2.1 := by omega
        rw [space_of hx (sp := 4) (by omega) (by omega) hr (by rw [hroom]; omega)]
        exact Nat.le_refl _
    · left; omega
  have hlow : 1 ≤ (roomA x.a sp).2.2 ∧ (roomA x.a sp).2.2 ≤ 268435455 := by
    have hl6 := hx.rm.len
    obtain ⟨r, hr⟩ : ∃ r, x.a.rm[sp]? = some r := ⟨_, List.getElem?_eq_getElem (by omega)⟩
    have hroom : roomA x.a sp = r := by unfold roomA; rw [hr]; rfl
    have hrg := hx.rm.rng sp r hr
    have hlw := hx.rm.low sp r (by omega) hr
    have := hx.lay.len
    rw [hroom]; omega
  have hoop := oop_spec (roomA x.a sp).2.2 hlow.1 hlow.2
  generalize hT : (roomA x.a sp).2.2 = top at *
  rcases hf5 with rfl | rfl | rfl | rfl | rfl
  rotate_right
  · refine GOH ?_
    refine st_callP (hszB rfl) (by rfl) ?_
    refine GOH ?_
    refine st_alloc (fun q => ?_)
    refine GOH ?_
    refine st_callP hmk (by rfl) ?_
    refine GOH ?_
    refine st_call hlay (by rfl) (by exact SPx) (fun v Post hv => ?_)
    obtain ⟨y, hy, rfl⟩ := hv
    simp only [CNx]
    rcases hy with ⟨hfu, rfl, rfl⟩ | ⟨hfu, rfl, hok, hya⟩
    · refine GOH ?_
      exact endQ_mk (.inr rfl) (.tmp (by rfl) (.tmp (by rfl) .nil)) ⟨y, .inl ⟨hfu, rfl, rfl⟩, rfl⟩ (by exact IMx)
    · refine GOH ?_
      refine st_callP hoop (by rfl) ?_
      refine GOH ?_
      exact endQ_mk (.inr rfl) (.tmp (by rfl) (.tmp (by rfl) .nil)) ⟨y, .inr ⟨hfu, rfl, hok, by rw [if_neg (by omega)]; exact hya⟩, rfl⟩ (by exact IMx)
  all_goals
    refine GOH ?_
    refine st_callP (hsz (by omega)) (by rfl) ?_
    refine GOH ?_
    refine st_alloc (fun q => ?_)
    refine GOH ?_
    refine st_callP hmk (by rfl) ?_
    refine GOH ?_
    try
      rw [show decide ((H.slots : Int) < 0 + 1) = false from decide_eq_false (by have := hsl3 rfl; omega)]
      refine GOH ?_
    refine st_call hlay (by rfl) (by exact SPx) (fun v Post hv => ?_)
    obtain ⟨y, hy, rfl⟩ := hv
    simp only [CNx]
    rcases hy with ⟨hfu, rfl, rfl⟩ | ⟨hfu, rfl, hok, hya⟩
    · refine GOH ?_
      exact endQ_mk (.inr rfl) (.tmp (by rfl) (.tmp (by rfl) .nil)) ⟨y, .inl ⟨hfu, rfl, rfl⟩, rfl⟩ (by exact IMx)
    · refine GOH ?_
      first
        | (refine st_callP hoop (by rfl) ?_
           refine GOH ?_
           exact endQ_mk (.inr rfl) (.tmp (by rfl) (.tmp (by rfl) .nil)) ⟨y, .inr ⟨hfu, rfl, hok, by rw [if_neg (by omega)]; exact hya⟩, rfl⟩ (by exact IMx))
        | (obtain ⟨hb, hsp4⟩ := hspc y hok hya (by omega)
           refine st_callS (slots_spec p y hok (newO top H) hb) (by rfl) .here ?_
           refine GOH ?_
           refine st_call (fill_spec p y hok (newO top H) hb (by show H.fmt ≠ 6; omega) hsp4) (by rfl) (by exact SPx) (fun v Post hv => ?_)
           obtain ⟨y2, ⟨rfl, hok2, hya2⟩, rfl⟩ := hv
           simp only [CNx]
           refine GOH ?_
           refine st_callP hoop (by rfl) ?_
           refine GOH ?_
           exact endQ_mk (.inr rfl) (.tmp (by rfl) (.tmp (by rfl) .nil)) ⟨y2, .inr ⟨hfu, rfl, hok2, by rw [if_pos (by omega), hya2, hya]; rfl⟩, rfl⟩ (by exact IMx))
set_option maxHeartbeats 3200000
theorem meets_spec (p q : Nat) (x : HW) (hx : HOk x) (n : LN) (hn : LOk x.a n) (o : Nat) (ho : o < 18446744073709551616) (hobs : x.a.obs.length < 1073741823) :
    Fun Tryd.prog 106 [ptr0 q, uv o] [LA q p n, HA p x] (fun v Post => ∃ m, (v = .tuple #[] ∧ LOk x.a m ∧ m.l = meetA x.a n.l o) ∧ Post = [LA q p m, HA p x]) := by
  have hi := is_spec p x hx o ho
  obtain ⟨a, c, hk⟩ := hn.sl.form
  have hsl := hn.sl
  rw [hk] at hsl
  have hll := line_len hn.nodup hn.obs
  refine Fun.conv (Pre := LMem q p n ++ [HA p x]) (R := []) (Q := fun v Post => ∃ m, (v = .tuple #[] ∧ LOk x.a m ∧ m.l = meetA x.a n.l o) ∧ Post = LMem q p m ++ [HA p x]) ?_ (by simp [V.Spl, LA]) (fun v Post hv => by obtain ⟨m, hm, rfl⟩ := hv; exact ⟨_, ⟨m, hm, rfl⟩, Imp.perm (by simp [LA])⟩)
  refine Fun.intro low106 (by simp [n106]) ?_
  simp only [LMem, hk, List.cons_append, List.nil_append]
  unfold meetA
  by_cases hmem : o ∈ n.l
  · rw [if_pos hmem]
    have hg := met_some hn.nodup hmem
    refine GOH ?_
    refine st_lookup (E := kU) (k := o) (by rfl) (by rfl) rfl (by (focus ((repeat (first | with_reducible exact HasO.here | apply HasO.there)); done))) hn.map ?_
    rw [hg]
    simp only [Option.map_some, lookV, Bool.false_eq_true, if_false]
    refine GOH ?_
    refine endQ_mk (.inl rfl) .nil ⟨n, ⟨rfl, hn, rfl⟩, rfl⟩ ?_
    simp only [LMem, hk, List.cons_append, List.nil_append]
    exact IMx
  · rw [if_neg hmem]
    have hg := met_none hmem
    refine GOH ?_
    refine st_lookup (E := kU) (k := o) (by rfl) (by rfl) rfl (by (focus ((repeat (first | with_reducible exact HasO.here | apply HasO.there)); done))) hn.map ?_
    rw [hg]
    simp only [Option.map_none, lookV, Bool.false_eq_true, if_false]
    refine GOH ?_
    refine st_callS hi (by rfl) (by exact TKx) ?_
    cases hs : (getO x.a.obs o).isSome with
    | false =>
      refine GOH ?_
      simp only [Bool.false_eq_true, if_false]
      refine endQ_mk (.inl rfl) .nil ⟨n, ⟨rfl, hn, rfl⟩, rfl⟩ ?_
      simp only [LMem, hk, List.cons_append, List.nil_append]
      exact IMx
    | true =>
      refine GOH ?_
      refine st_bslice (out := [uv o]) (by rfl) (by rfl) (fun r => ?_)
      refine st_append (k := n.l.length) (m := 1) (xs := n.l.map uv) (sp := n.ls) (ys := [uv o]) (by rfl) (by rfl) hsl (by exact TKx) (by rfl) ?_ rfl (by rfl) (by rfl) (by decide) (by omega) (fun sv' sp' hsl' => ?_)
      · exact ⟨rfl, fun a ha => by simp only [List.flatten_cons, List.mem_append]; exact .inl ha⟩
      have hsl2 : IsSl 1 sv' (n.l ++ [o]).length ((n.l ++ [o]).map uv) sp' := by simpa using hsl'
      have hmap : (n.l ++ [o]).map uv = n.l.map uv ++ [uv o] := by simp
      obtain ⟨a', c', rfl⟩ := hsl'.form
      refine GOH ?_
      refine st_mapupd (E := kU) (k := o) (v := n.l.length + 1) (by rfl) (by rfl) (by rfl) rfl (by exact TKx) hn.map (fun es' c' hm' => ?_)
      rw [mget_none_mset hg, ← metM_snoc] at hm'
      have key : LOk x.a ⟨n.l ++ [o], _, sp', n.mb, es', c'⟩ := ⟨hsl2, hm', by
          rw [List.nodup_append]; exact ⟨hn.nodup, by simp, fun y hy z hz e => by rw [List.mem_singleton.1 hz] at e; exact hmem (e ▸ hy)⟩, fun y hy => by
          rcases List.mem_append.1 hy with hy | hy
          · exact hn.obs y hy
          · rw [List.mem_singleton.1 hy]; exact hs⟩
      refine GOH ?_
      refine endQ_mk (.inl rfl) .nil ⟨_, ⟨rfl, key, rfl⟩, rfl⟩ ?_
      simp only [LMem, hmap, List.cons_append, List.nil_append]
      exact IMx
theorem goops_spec (p : Nat) (x : HW) (hx : HOk x) (o : Nat) (b : Ob) (hb : getO x.a.obs o = some b) (ho : o < 18446744073709551616) :
    Fun Tryd.prog 46 [ptr0 p, uv o] [HA p x] (fun v Post => ∃ r, v = .slice (some ⟨r, 0, none⟩) (kidsA x.a o).length (kidsA x.a o).length ∧ Post = [cellsAt r 0 ((kidsA x.a o).map uv), HA p x]) := by
  obtain ⟨hw, hm⟩ := hx.word hb
  have hok := hx.lay.ok b hm
  have hmany := hok.many
  have hsl := hok.may.slots
  have hlen := hok.len
  have hk : kidsA x.a o = b.body.take b.many := by unfold kidsA; rw [hb]
  have hkl : (kidsA x.a o).length = b.many := by rw [hk, List.length_take]; omega
  have hget : ∀ i, i < b.many → ∃ u, b.body[i]? = some u ∧ (kidsA x.a o)[i]? = some u := fun i hi => by
    obtain ⟨u, hu⟩ : ∃ u, b.body[i]? = some u := ⟨_, List.getElem?_eq_getElem (by omega)⟩
    exact ⟨u, hu, by rw [hk, List.getElem?_take_of_lt hi]; exact hu⟩
  have ho2 := oops_spec p x hx o b hb ho
  rw [hkl]
  generalize kidsA x.a o = ks at *
  refine Fun.intro low46 (by simp [n46]) ?_
  refine GOH ?_
  refine st_callS ho2 (by rfl) .here ?_
  refine GOH ?_
  refine st_mkU b.many (by rfl) (by rfl) rfl (by omega) (fun r => ?_)
  refine GOH ?_
  refine VC.loop (α := Nat) (Γf := fun i => [(0, ptr0 p), (1, uv o), (7, .slice (some ⟨r, 0, none⟩) b.many b.many), (18, vi b.many), (19, vi i)]) (Hf := fun i => [cellsAt r 0 ((ks.take i ++ List.replicate (b.many - i) 0).map uv), HA p x])
    (I := fun i => i ≤ b.many) (μ := fun i => b.many - i) 0 (Nat.zero_le _) (by exact SUx) (by rw [List.take_zero, List.nil_append, Nat.sub_zero]; exact Imp.refl _) ?_
  intro i hi
  refine GOH ?_
  by_cases hlt : i < b.many
  · obtain ⟨u, hu1, hu2⟩ := hget i hlt
    rw [show decide ((i : Int) < (b.many : Int)) = true from decide_eq_true (by omega)]
    refine GOH ?_
    refine st_callS (slotV_spec p x hx o b hb ho i u hlt hu1) (by rfl) (by exact TKx) ?_
    refine GOH ?_
    have hl : (ks.take i ++ List.replicate (b.many - i) 0).length = b.many := by simp [hkl]; omega
    refine st_storeU (i := i) (by rfl) (by rfl) .here (by omega) (by omega) ?_
    have hset : (ks.take i ++ List.replicate (b.many - i) 0).set i u = ks.take (i + 1) ++ List.replicate (b.many - (i + 1)) 0 := by
      have h1 : (ks.take i).length = i := by rw [List.length_take]; omega
      rw [List.set_append_right _ _ (by omega), h1, Nat.sub_self, show b.many - i = (b.many - (i + 1)) + 1 by omega, List.replicate_succ, List.set_cons_zero, List.take_add_one, hu2]
      simp
    rw [hset]
    refine GOH ?_
    exact ⟨i + 1, by omega, by omega, by exact SUx, Imp.refl _⟩
  · rw [show decide ((i : Int) < (b.many : Int)) = false from decide_eq_false (by omega)]
    have hi2 : i = b.many := by omega
    subst hi2
    rw [List.take_of_length_le (by omega), Nat.sub_self, List.replicate_zero, List.append_nil]
    refine GOH ?_
    exact endQ_mk (.inr rfl) (.tmp (by rfl) .nil) ⟨r, rfl, rfl⟩ (by exact IMx)
theorem all_spec (p q : Nat) (x : HW) (hx : HOk x) (n : LN) (hn : LOk x.a n) (o : Nat) (b : Ob) (hb : getO x.a.obs o = some b) (ho : o < 18446744073709551616) (hobs : x.a.obs.length < 1073741823) :
    Fun Tryd.prog 75 [ptr0 q, uv o] [LA q p n, HA p x] (fun v Post => ∃ m, (v = .tuple #[] ∧ LOk x.a m ∧ m.l = (kidsA x.a o).foldl (meetA x.a) n.l) ∧ Post = [LA q p m, HA p x]) := by
  obtain ⟨hw, hm⟩ := hx.word hb
  have hok := hx.lay.ok b hm
  have hmany := hok.many
  have hsl := hok.may.slots
  have hlen := hok.len
  have hk : kidsA x.a o = b.body.take b.many := by unfold kidsA; rw [hb]
  have hkl : (kidsA x.a o).length = b.many := by rw [hk, List.length_take]; omega
  have hks : ∀ u ∈ kidsA x.a o, u < 18446744073709551616 := fun u hu => hok.small u (by rw [hk] at hu; exact List.mem_of_mem_take hu)
  have hgo := goops_spec p x hx o b hb ho
  have hq : ∀ m : LN, Atom.cell q 0 (ptr0 p) ∈ LA q p m := fun m => by simp [LA, LMem, cellsAt]
  generalize kidsA x.a o = ks at *
  refine Fun.intro low75 (by simp [n75]) ?_
  have hq0 := hq n
  refine GOH ?_
  refine st_call hgo (by rfl) (by exact SPx) (fun v Post hv => ?_)
  obtain ⟨r, rfl, rfl⟩ := hv
  simp only [CNx]
  refine GOH ?_
  refine VC.loop (α := Nat × LN) (Γf := fun s => [(0, ptr0 q), (11, .slice (some ⟨r, 0, none⟩) ks.length ks.length), (12, vi ks.length), (13, vi s.1)]) (Hf := fun s => [cellsAt r 0 (ks.map uv), HA p x, LA q p s.2])
    (I := fun s => s.1 ≤ ks.length ∧ LOk x.a s.2 ∧ s.2.l = (ks.take s.1).foldl (meetA x.a) n.l) (μ := fun s => ks.length - s.1) (0, n) ⟨Nat.zero_le _, hn, by simp⟩ (by exact SUx) (by exact IMx) ?_
  rintro ⟨i, m⟩ ⟨i1, i2, i3⟩
  simp only at i1 i2 i3 ⊢
  refine GOH ?_
  by_cases hlt : i < ks.length
  · obtain ⟨u, hu⟩ : ∃ u, ks[i]? = some u := ⟨_, List.getElem?_eq_getElem hlt⟩
    have hmu := mem_u0 (b := r) hu
    rw [show decide ((i : Int) < (ks.length : Int)) = true from decide_eq_true (by omega)]
    generalize hC : cellsAt r 0 (ks.map uv) = C at hmu ⊢
    refine GOH ?_
    refine st_call (meets_spec p q x hx m i2 u (hks u (List.mem_of_getElem? hu)) hobs) (by rfl) (by exact SPx) (fun v Post hv => ?_)
    obtain ⟨m', ⟨rfl, h1, h2⟩, rfl⟩ := hv
    simp only [CNx]
    refine GOH ?_
    refine ⟨(i + 1, m'), ⟨by simp only; omega, h1, ?_⟩, by simp only; omega, by exact SUx, by exact IMx⟩
    simp only
    rw [h2, i3, List.take_add_one, hu, List.foldl_append]; rfl
  · rw [show decide ((i : Int) < (ks.length : Int)) = false from decide_eq_false (by omega)]
    refine GOH ?_
    rw [List.take_of_length_le (by omega)] at i3
    exact endQ_mk (.inl rfl) .nil ⟨m, ⟨rfl, i2, i3⟩, rfl⟩ (by exact IMx)
end Go.Proofs.YtmlnoodopoaafaaDoor

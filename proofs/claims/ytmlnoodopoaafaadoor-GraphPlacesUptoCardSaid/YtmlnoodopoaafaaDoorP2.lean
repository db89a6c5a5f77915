/-
  The heap: where objects begin, their headers, their slots.
-/
import Derived.Test.YtmlnoodopoaafaaDoorP1
import Derived.Test.YtmlnoodopoaafaaDoorH2
import Derived.Test.YtmlnoodopoaafaaDoorC1
import Derived.Test.YtmlnoodopoaafaaDoorH4
set_option linter.unusedSimpArgs false
set_option linter.unusedVariables false
namespace Go.Proofs.YtmlnoodopoaafaaDoor
open Go Go.V
set_option maxHeartbeats 3200000
set_option maxRecDepth 100000
theorem begins_spec (p : Nat) (x : HW) (hx : HOk x) (w : Nat) (hw : w < 1073741824) : Fun Tryd.prog 69 [ptr0 p, vi w] [HA p x] (fun v Post => v = .bool (isAt x.a.obs w) ∧ Post = [HA p x]) := by
  refine Fun.haR ?_
  refine Fun.intro low69 (by simp [n69]) ?_
  have hstl := hx.lay.stl
  by_cases hlt : w < x.ws.length
  · have hi : w / 64 < x.st.length := by omega
    have hst : x.st[w / 64]? = some x.st[w / 64] := List.getElem?_eq_getElem hi
    have hsm := hx.lay.sts _ (List.getElem_mem hi)
    have hb : isAt x.a.obs w = decide (x.st[w / 64] / 2 ^ (w % 64) % 2 = 1) := by
      rw [hx.lay.isAt hlt]; unfold bitAt
      rw [List.getD_eq_getElem?_getD, hst, Option.getD_some, Nat.testBit_eq_decide_div_mod_eq]
    have ms := mem_u0 (b := x.sb) hst
    rw [hb]
    simp only [HMem, arrV]
    generalize x.st[w / 64] = s at ms hsm ⊢
    generalize cellsAt x.sb 0 (x.st.map uv) = B at ms ⊢
    refine GOH ?_
    rw [decide_eq_true (show (w : Int) < (x.ws.length : Int) by omega)]
    refine GOH ?_
    refine endQ_mk (.inr rfl) (.tmp (by rfl) .nil) ⟨?_, rfl⟩ (by exact IMx)
    generalize s / 2 ^ (w % 64) % 2 = z
    simp only [tup, Value.bool.injEq, decide_eq_decide]; omega
  · rw [hx.lay.isAt_no hlt]
    simp only [HMem, arrV]
    refine GOH ?_
    rw [decide_eq_false (show ¬ (w : Int) < (x.ws.length : Int) by omega)]
    refine GOH ?_
    exact endQ_mk (.inr rfl) (.tmp (by rfl) .nil) ⟨rfl, rfl⟩ (by exact IMx)
theorem at_spec (p : Nat) (x : HW) (hx : HOk x) (o : Nat) (ho : o < 18446744073709551616) : Fun Tryd.prog 34 [ptr0 p, uv o] [HA p x] (fun v Post => v = .tuple #[vi (wordO o : Nat), .bool (getO x.a.obs o).isSome] ∧ Post = [HA p x]) := by
  have hw : wordO o < 1073741824 := by
    unfold wordO; split
    · rename_i e; have := tagO_three e; omega
    · omega
  rw [getO_is (fun b hb => hx.range hb)]
  refine Fun.intro low34 (by simp [n34]) ?_
  refine GOH ?_
  refine st_callP (wordOf_spec o ho) (by rfl) ?_
  refine GOH ?_
  by_cases e : tagO o = 3
  · rw [decide_eq_true e]
    refine GOH ?_
    refine st_callS (begins_spec p x hx _ hw) (by rfl) .here ?_
    refine GOH ?_
    exact endQ_mk (.inr rfl) (.tmp (by rfl) (.tmp (by rfl) .nil)) ⟨by rw [Bool.true_and]; rfl, rfl⟩ (by exact IMx)
  · rw [decide_eq_false e]
    refine GOH ?_
    exact endQ_mk (.inr rfl) (.tmp (by rfl) (.tmp (by rfl) .nil)) ⟨by rw [Bool.false_and]; rfl, rfl⟩ (by exact IMx)
theorem is_spec (p : Nat) (x : HW) (hx : HOk x) (o : Nat) (ho : o < 18446744073709551616) : Fun Tryd.prog 72 [ptr0 p, uv o] [HA p x] (fun v Post => v = .bool (getO x.a.obs o).isSome ∧ Post = [HA p x]) := by
  refine Fun.intro low72 (by simp [n72]) ?_
  refine GOH ?_
  refine st_callS (at_spec p x hx o ho) (by rfl) .here ?_
  refine GOH ?_
  exact endQ_mk (.inr rfl) (.tmp (by rfl) .nil) ⟨rfl, rfl⟩ (by exact IMx)
theorem head_spec (p : Nat) (x : HW) (hx : HOk x) (b : Ob) (hb : b ∈ x.a.obs) : Fun Tryd.prog 35 [ptr0 p, vi b.at_] [HA p x] (fun v Post => v = .agg (hdEnc b.hd).toArray ∧ Post = [HA p x]) := by
  refine Fun.haR ?_
  refine Fun.intro low35 (by simp [n35]) ?_
  obtain ⟨h1, h2⟩ := hx.lay.head b hb
  have hlt := hx.lay.at_lt hb
  have hlen := hx.lay.len
  have m1 := mem_u0 (b := x.wb) h1
  have m2 := mem_u0 (b := x.wb) h2
  have hu := unpack_spec b.hd (hx.lay.ok b hb).may
  rw [hmw]
  generalize cellsAt x.wb 0 (x.ws.map uv) = B at m1 m2 ⊢
  simp only [hdEnc] at hu ⊢
  refine VC.seq_reg ?_
  refine st_alloc (fun q => ?_)
  simp only [HMw]
  refine GOH ?_
  refine VC.seq_draws (α := Nat) (fun r => [(4, ptr0 q), (5, ptr0 r)]) (fun r => cellsAt r 0 (hdEnc b.hd) :: cellsAt q 0 [.int .i64 0, .int .u8 0, .int .i64 0, .int .i64 0, .int .i64 0, .int .i64 0, .bool false, .bool false] :: HMw p x B) (fun _ => True) ⟨?_, ?_, trivial⟩ (fun r _ => ?_)
  rotate_right
  · simp only [hdEnc, HMw]
    refine GOH ?_
    refine ⟨.inr rfl, _, _, .cellN (us := hdEnc b.hd) (by rfl) (by rfl) (fun y hy => by simp only [List.flatten_cons, List.mem_append]; first | exact .inl hy | exact .inr (.inl hy)) .nil, ?_, ⟨rfl, rfl⟩⟩
    exact IMx
  all_goals
    repeat' first
      | refine GOPH ?_
      | refine st_callP hu (by rfl) ?_
      | refine st_alloc (fun r => ?_)
    exact ⟨_, trivial, by exact SUx, by simp only [hdEnc, HMw]; exact IMx⟩
theorem slotsW_spec (p : Nat) (x : HW) (w n : Nat) (h2 : x.ws[w + 1]? = some n) (hst : w + 2 + n ≤ x.ws.length) (hlen : x.ws.length < 4194304) : Fun Tryd.prog 31 [ptr0 p, vi w] [HA p x] (fun v Post => v = .slice (some ⟨x.wb, if n = 0 then 0 else w + 2, none⟩) n n ∧ Post = [HA p x]) := by
  refine Fun.haR ?_
  refine Fun.intro low31 (by simp [n31]) ?_
  have m2 := mem_u0 (b := x.wb) h2
  simp only [HMem, arrV]
  generalize cellsAt x.wb 0 (x.ws.map uv) = B at m2 ⊢
  refine GOH ?_
  refine st_slcL3 (l := w + 2) (h := w + 2 + n) (m := w + 2 + n) (by rfl) (by rfl) (by rfl) (by rfl) (by omega) (by omega) (by omega) (by omega) rfl ?_
  refine GOH ?_
  refine endQ_mk (.inr rfl) (.tmp (by rfl) .nil) ⟨?_, rfl⟩ (by exact IMx)
  have e1 : w + 2 + n - (w + 2) = n := by omega
  simp only [tup, e1]
  congr 3
  split <;> split <;> omega
theorem slots_spec (p : Nat) (x : HW) (hx : HOk x) (b : Ob) (hb : b ∈ x.a.obs) : Fun Tryd.prog 31 [ptr0 p, vi b.at_] [HA p x] (fun v Post => v = .slice (some ⟨x.wb, if b.hd.slots = 0 then 0 else b.at_ + 2, none⟩) b.hd.slots b.hd.slots ∧ Post = [HA p x]) :=
  slotsW_spec p x b.at_ b.hd.slots (hx.lay.head b hb).2 (hx.lay.high b hb) hx.lay.len
theorem where_spec (p : Nat) (x : HW) (hx : HOk x) (w : Nat) (hw : w < 1073741824) : Fun Tryd.prog 37 [ptr0 p, vi w] [HA p x] (fun v Post => v = cv (spaceW x.a.rm w) ∧ Post = [HA p x]) := by
  refine Fun.haR ?_
  refine Fun.intro low37 (by simp [n37]) ?_
  obtain ⟨r0, r1, r2, r3, r4, r5, hrm⟩ := rm_six hx.rm.len
  have hin : ∀ i, inRm x.a.rm i w = decide (((([r0, r1, r2, r3, r4, r5] : List (Nat × Nat × Nat))[i]?).getD (0, 0, 0)).1 ≤ w ∧ w < ((([r0, r1, r2, r3, r4, r5] : List (Nat × Nat × Nat))[i]?).getD (0, 0, 0)).2.1) := fun i => by rw [← hrm]; rfl
  generalize hsp : spaceW x.a.rm w = s
  have hs0 : (∀ j, 1 ≤ j → j < 6 → inRm x.a.rm j w = false) → s = 0 := fun h => hsp.symm.trans (spaceW_none h)
  have hs1 : ∀ i, 1 ≤ i → i ≤ 5 → inRm x.a.rm i w = true → (∀ j, 1 ≤ j → j < i → inRm x.a.rm j w = false) → s = i := fun i h1 h2 h3 h4 => hsp.symm.trans (spaceW_some h1 h2 h3 h4)
  simp only [HMem, arrV, hrm, List.flatMap_cons, List.flatMap_nil, rmEnc, List.cons_append, List.nil_append]
  refine GOH ?_
  refine VC.loop (α := Nat) (Γf := fun i => [(0, ptr0 p), (1, vi w), (5, cv i)]) (Hf := fun _ => _) (I := fun i => 1 ≤ i ∧ i ≤ 6 ∧ ∀ j, 1 ≤ j → j < i → inRm x.a.rm j w = false) (μ := fun i => 6 - i) 1 ⟨by omega, by omega, by omega⟩ (by exact SUx) (Imp.refl _) ?_
  intro i ⟨i1, i2, i3⟩
  have step : ∀ b, inRm x.a.rm i w = b → b = false → ∀ j, 1 ≤ j → j < i + 1 → inRm x.a.rm j w = false := fun b hb e j h1 h2 => by
    by_cases hj : j = i
    · subst hj; rw [hb, e]
    · exact i3 j h1 (by omega)
  have hi := hin i
  have hii : i = 1 ∨ i = 2 ∨ i = 3 ∨ i = 4 ∨ i = 5 ∨ i = 6 := by omega
  rcases hii with rfl | rfl | rfl | rfl | rfl | rfl
  rotate_right
  · refine GOH ?_
    exact endQ_mk (.inr rfl) (.tmp (by rfl) .nil) ⟨by rw [hs0 i3]; rfl, rfl⟩ (by exact IMx)
  all_goals
    simp only [List.getElem?_cons_succ, List.getElem?_cons_zero, Option.getD_some] at hi
    (repeat' (first | refine GOPH ?_ | refine st_gcase (by rfl) (fun _ => ?_) (fun _ => ?_) | refine st_pcase (by rfl) (fun _ => ?_) (fun _ => ?_) | refine VC.seq_cond (by rfl) (fun _ => ?_) (fun _ => ?_) | refine VC.cond (by rfl) (fun _ => ?_) (fun _ => ?_)))
    all_goals
      simp only [decide_eq_true_eq, decide_eq_false_iff_not] at *
    all_goals first
      | exact endQ_mk (.inr rfl) (.tmp (by rfl) .nil) ⟨by rw [hs1 _ i1 (by omega) (hi.trans (decide_eq_true (by omega))) i3]; rfl, rfl⟩ (by exact IMx)
      | exact ⟨_, ⟨by omega, by omega, step _ (hi.trans (decide_eq_false (by omega))) rfl⟩, by omega, by exact SUx, Imp.refl _⟩
theorem space_spec (p : Nat) (x : HW) (hx : HOk x) (o : Nat) (ho : o < 18446744073709551616) : Fun Tryd.prog 73 [ptr0 p, uv o] [HA p x] (fun v Post => v = cv (spaceO x.a o) ∧ Post = [HA p x]) := by
  refine Fun.intro low73 (by simp [n73]) ?_
  have ha := at_spec p x hx o ho
  unfold spaceO
  cases hg : getO x.a.obs o with
  | none =>
    rw [hg] at ha
    refine GOH ?_
    refine st_callS ha (by rfl) .here ?_
    refine GOH ?_
    exact endQ_mk (.inr rfl) (.tmp (by rfl) .nil) ⟨rfl, rfl⟩ (by exact IMx)
  | some b =>
    obtain ⟨hw, hb⟩ := hx.word hg
    have hr := hx.range hb
    rw [hg, hw] at ha
    refine GOH ?_
    refine st_callS ha (by rfl) .here ?_
    refine GOH ?_
    refine st_callS (where_spec p x hx b.at_ (by omega)) (by rfl) .here ?_
    refine GOH ?_
    exact endQ_mk (.inr rfl) (.tmp (by rfl) .nil) ⟨rfl, rfl⟩ (by exact IMx)
theorem young_spec (p : Nat) (x : HW) (hx : HOk x) (o : Nat) (ho : o < 18446744073709551616) : Fun Tryd.prog 38 [ptr0 p, uv o] [HA p x] (fun v Post => v = .bool (youngO x.a o) ∧ Post = [HA p x]) := by
  refine Fun.intro low38 (by simp [n38]) ?_
  have hs : spaceO x.a o ≤ 5 := by unfold spaceO; split <;> first | exact spaceW_le _ _ | omega
  unfold youngO
  refine GOH ?_
  refine st_callS (space_spec p x hx o ho) (by rfl) .here ?_
  (repeat' (first | refine GOPH ?_ | refine st_gcase (by rfl) (fun _ => ?_) (fun _ => ?_) | refine st_pcase (by rfl) (fun _ => ?_) (fun _ => ?_) | refine VC.seq_cond (by rfl) (fun _ => ?_) (fun _ => ?_) | refine VC.cond (by rfl) (fun _ => ?_) (fun _ => ?_)))
  all_goals
    simp only [decide_eq_true_eq, decide_eq_false_iff_not] at *
    refine endQ_mk (.inr rfl) (.tmp (by rfl) .nil) ⟨?_, rfl⟩ (by exact IMx)
    simp only [tup, Value.bool.injEq]
    first
      | (rw [decide_eq_decide]; omega)
      | (symm; rw [decide_eq_false_iff_not]; omega)
theorem begin_spec (p : Nat) (x : HW) (w : Nat) (b : Bool) (hw : w / 64 < x.st.length) (hl : x.st.length < 1073741824) (hs : ∀ y ∈ x.st, y < 18446744073709551616) :
    Fun Tryd.prog 65 [ptr0 p, vi w, .bool b] [HA p x] (fun v Post => v = .tuple #[] ∧ Post = [HA p { x with st := setBit x.st w b }]) := by
  refine Fun.conv (Pre := HMem p x) (R := []) (Q := fun v Post => v = .tuple #[] ∧ Post = HMem p { x with st := setBit x.st w b }) ?_ (ha_spl p x) (fun v Post hv => by obtain ⟨rfl, rfl⟩ := hv; exact ⟨_, ⟨rfl, rfl⟩, ha_back p _⟩)
  refine Fun.intro low65 (by simp [n65]) ?_
  have hst : x.st[w / 64]? = some x.st[w / 64] := List.getElem?_eq_getElem hw
  have hsm := hs _ (List.getElem_mem hw)
  have hp := pow_lt64 (i := w % 64) (by omega)
  have hg : x.st.getD (w / 64) 0 = x.st[w / 64] := by rw [List.getD_eq_getElem?_getD, hst]; rfl
  have hset : ∀ b, setBit x.st w b = x.st.set (w / 64) (if b then andN x.st[w / 64] (2 ^ (w % 64)) ||| 2 ^ (w % 64) else andN x.st[w / 64] (2 ^ (w % 64))) := fun b => by unfold setBit; rw [hg]
  rw [hset]
  generalize x.st[w / 64] = s at hst hsm ⊢
  have hn := andN_lt (b := 2 ^ (w % 64)) hsm
  simp only [HMem, arrV, List.length_set]
  have hmod : 1 * 2 ^ (w % 64) % 18446744073709551616 = 2 ^ (w % 64) := by rw [Nat.one_mul, Nat.mod_eq_of_lt hp]
  have ms := mem_u0 (b := x.sb) hst
  generalize hB : cellsAt x.sb 0 (x.st.map uv) = B at ms ⊢
  refine GOH ?_
  subst hB
  rw [hmod]
  refine st_storeU (i := w / 64) (by rfl) (by rfl) (by exact TKx) (by omega) hw ?_
  have h2 : (x.st.set (w / 64) (andN s (2 ^ (w % 64))))[w / 64]? = some (andN s (2 ^ (w % 64))) := by rw [List.getElem?_set_self hw]
  have ms2 := mem_u0 (b := x.sb) h2
  cases b with
  | false =>
    refine GOH ?_
    exact endQ_mk (.inl rfl) .nil ⟨rfl, rfl⟩ (by simp only [Bool.false_eq_true, if_false]; exact IMx)
  | true =>
    generalize hB : cellsAt x.sb 0 ((x.st.set (w / 64) (andN s (2 ^ (w % 64)))).map uv) = B at ms2 ⊢
    have hl2 : (x.st.set (w / 64) (andN s (2 ^ (w % 64)))).length = x.st.length := List.length_set
    refine GOH ?_
    subst hB
    rw [hmod]
    refine st_storeU (i := w / 64) (by rfl) (by rfl) (by exact TKx) (by omega) (by rw [hl2]; exact hw) ?_
    rw [List.set_set]
    refine GOH ?_
    exact endQ_mk (.inl rfl) .nil ⟨rfl, rfl⟩ (by exact IMx)
theorem setHead_spec (p : Nat) (x : HW) (w : Nat) (h : Hd) (m : h.May) (hw : w + 1 < x.ws.length) (hl : x.ws.length < 4194304) :
    Fun Tryd.prog 64 [ptr0 p, vi w, .agg (hdEnc h).toArray] [HA p x] (fun v Post => v = .tuple #[] ∧ Post = [HA p { x with ws := (x.ws.set w (pk h)).set (w + 1) h.slots }]) := by
  refine Fun.conv (Pre := HMem p x) (R := []) (Q := fun v Post => v = .tuple #[] ∧ Post = HMem p { x with ws := (x.ws.set w (pk h)).set (w + 1) h.slots }) ?_ (ha_spl p x) (fun v Post hv => by obtain ⟨rfl, rfl⟩ := hv; exact ⟨_, ⟨rfl, rfl⟩, ha_back p _⟩)
  refine Fun.intro low64 (by simp [n64]) ?_
  have hp := pack_spec h m
  have hs := m.slots
  simp only [HMem, arrV, List.length_set]
  refine VC.seq_reg ?_
  refine st_box (by rfl) (fun q => ?_)
  simp only [Value.cells, hdEnc] at hp ⊢
  refine GOH ?_
  refine VC.draws ⟨?_, ?_, ?_, ?_, ?_, ?_, trivial⟩
  all_goals
    repeat' first
      | refine GOPH ?_
      | refine st_callP hp (by rfl) ?_
    refine st_storeU (i := w) (by rfl) (by rfl) (by exact TKx) (by omega) (by omega) ?_
    refine GOH ?_
    refine st_storeU (i := w + 1) (by rfl) (by rfl) (by exact TKx) (by omega) (by rw [List.length_set]; omega) ?_
    refine GOH ?_
    exact endQ_mk (.inl rfl) .nil ⟨rfl, rfl⟩ (by exact IMx)
theorem tz_spec (i k : Nat) (h : 2 ^ i * (2 * k + 1) < 18446744073709551616) : Fun Tryd.prog 112 [uv (2 ^ i * (2 * k + 1))] [TZ] (fun v Post => v = vi i ∧ Post = [TZ]) := by
  refine Fun.intro low112 (by simp [n112]) ?_
  have hp := Nat.two_pow_pos i
  have hz : 0 < 2 ^ i * (2 * k + 1) := Nat.mul_pos hp (by omega)
  have hi : i < 64 := by
    by_cases hi : i < 64
    · exact hi
    · have : 2 ^ 64 ≤ 2 ^ i := Nat.pow_le_pow_right (by omega) (by omega)
      have h2 : 2 ^ i * 1 ≤ 2 ^ i * (2 * k + 1) := Nat.mul_le_mul_left _ (by omega)
      omega
  have ha := low_and h
  obtain ⟨t1, t2⟩ := tz_all i hi
  have hm := tz_mem t2
  have hpi := pow_lt64 hi
  generalize 2 ^ i * (2 * k + 1) = z at *
  generalize 2 ^ i = y at *
  have hneg := negU hz h
  refine GOH ?_
  rw [show decide ((z : Int) = 0) = false from decide_eq_false (by omega)]
  refine GOH ?_
  rw [hneg, Int.toNat_natCast, ha]
  have hq := tzM y
  rw [hq]
  obtain ⟨j, hj⟩ : ∃ j, j = y * 285870213051353865 % 18446744073709551616 / 288230376151711744 := ⟨_, rfl⟩
  rw [← hj] at t1 t2 hm ⊢
  clear hj
  clear hq hneg ha hpi h hz t2 hp
  refine GOH ?_
  exact endQ_mk (.inr rfl) (.tmp (by rfl) .nil) ⟨rfl, rfl⟩ (by exact IMx)
theorem next_spec (p : Nat) (x : HW) (hx : HOk x) (w e : Nat) (hw : w ≤ 4194304) (he : e ≤ x.ws.length) : Fun Tryd.prog 98 [ptr0 p, vi w, vi e] [HA p x, TZ] (fun v Post => v = vi (nextV (nextO x.a.obs w e)) ∧ Post = [HA p x, TZ]) := by
  have hstl := hx.lay.stl
  have hlen := hx.lay.len
  refine Fun.conv (Pre := HMem p x ++ [TZ]) (R := []) (Q := fun v Post => v = vi (nextV (nextO x.a.obs w e)) ∧ Post = HMem p x ++ [TZ]) ?_ (by simp [V.Spl, HA]) (fun v Post hv => by obtain ⟨rfl, rfl⟩ := hv; exact ⟨_, ⟨rfl, rfl⟩, Imp.perm (by simp [HA])⟩)
  refine Fun.intro low98 (by simp [n98]) ?_
  simp only [HMem, arrV, List.cons_append, List.nil_append]
  refine GOH ?_
  refine VC.loop (α := Nat) (Γf := fun v => [(0, ptr0 p), (1, vi v), (2, vi e)]) (Hf := fun _ => _) (I := fun v => w ≤ v ∧ v ≤ 4194304 + 64 ∧ ∀ b ∈ x.a.obs, ¬ (w ≤ b.at_ ∧ b.at_ < v)) (μ := fun v => 4194304 + 64 - v) w ⟨Nat.le_refl _, by omega, fun b hb => by omega⟩ (by exact SUx) (Imp.refl _) ?_
  intro v ⟨i1, i2, i3⟩
  refine GOH ?_
  by_cases hlt : v < e
  rotate_left
  · rw [decide_eq_false (by omega)]
    refine GOH ?_
    rw [nextO_none (fun b hb hb2 => i3 b hb ⟨hb2.1, by omega⟩)]
    exact endQ_mk (.inr rfl) (.tmp (by rfl) .nil) ⟨rfl, rfl⟩ (by exact IMx)
  rw [decide_eq_true (by omega)]
  have hi : v / 64 < x.st.length := by omega
  have hst : x.st[v / 64]? = some x.st[v / 64] := List.getElem?_eq_getElem hi
  have hsm := hx.lay.sts _ (List.getElem_mem hi)
  have hbit : ∀ j, (x.st[v / 64] / 2 ^ (v % 64)).testBit j = if v % 64 + j < 64 then bitAt x.st (v + j) else false := fun j => by
    rw [Nat.testBit_div_two_pow]
    split
    · rename_i h
      unfold bitAt
      rw [show (v + j) / 64 = v / 64 by omega, show (v + j) % 64 = j + v % 64 by omega, List.getD_eq_getElem?_getD, hst]; rfl
    · rename_i h
      exact Nat.testBit_lt_two_pow (Nat.lt_of_lt_of_le hsm (by rw [show (18446744073709551616 : Nat) = 2 ^ 64 from rfl]; exact Nat.pow_le_pow_right (by omega) (by omega)))
  have hd : x.st[v / 64] / 2 ^ (v % 64) < 18446744073709551616 := Nat.lt_of_le_of_lt (Nat.div_le_self _ _) hsm
  have ms := mem_u0 (b := x.sb) hst
  generalize x.st[v / 64] = s at ms hsm hbit hd ⊢
  generalize hB : cellsAt x.sb 0 (x.st.map uv) = B at ms ⊢
  refine GOH ?_
  by_cases hz : s / 2 ^ (v % 64) = 0
  · rw [show decide (((s / 2 ^ (v % 64) : Nat) : Int) = 0) = true from decide_eq_true (by omega)]
    refine GOH ?_
    have hnb : ∀ b ∈ x.a.obs, ¬ (w ≤ b.at_ ∧ b.at_ < v + (64 - v % 64)) := fun b hb hb2 => by
      by_cases h1 : b.at_ < v
      · exact i3 b hb ⟨hb2.1, h1⟩
      · have h2 := hbit (b.at_ - v)
        rw [hz, Nat.zero_testBit, if_pos (by omega), show v + (b.at_ - v) = b.at_ by omega, (hx.lay.bits b.at_ (by have := hx.lay.at_lt hb; omega)).2 ⟨b, hb, rfl⟩] at h2
        cases h2
    rw [show ((v : Int) + (64 - ((v % 64 : Nat) : Int))) = ((v + (64 - v % 64) : Nat) : Int) by omega]
    exact ⟨v + (64 - v % 64), ⟨by omega, by omega, hnb⟩, by omega, by exact SUx, by exact IMx⟩
  · rw [show decide (((s / 2 ^ (v % 64) : Nat) : Int) = 0) = false from decide_eq_false (by omega)]
    obtain ⟨i, k, hik⟩ := low_ex hz
    have htz := tz_spec i k (by rw [← hik]; exact hd)
    rw [← hik] at htz
    have hlow := fun j => (low_bits (i := i) (k := k) (j := j))
    rw [← hik] at hlow
    have hi64 : v % 64 + i < 64 ∧ bitAt x.st (v + i) = true := by
      have h1 := hlow i
      have h2 := hbit i
      rw [h1, if_neg (by omega), Nat.sub_self, Nat.testBit_zero] at h2
      have h3 : decide ((2 * k + 1) % 2 = 1) = true := by simp
      rw [h3] at h2
      split at h2
      · rename_i h4; exact ⟨h4, h2.symm⟩
      · cases h2
    have hnb : ∀ b ∈ x.a.obs, ¬ (w ≤ b.at_ ∧ b.at_ < v + i) := fun b hb hb2 => by
      by_cases h1 : b.at_ < v
      · exact i3 b hb ⟨hb2.1, h1⟩
      · have h2 := hbit (b.at_ - v)
        rw [hlow, if_pos (by omega), if_pos (by omega), show v + (b.at_ - v) = b.at_ by omega, (hx.lay.bits b.at_ (by have := hx.lay.at_lt hb; omega)).2 ⟨b, hb, rfl⟩] at h2
        cases h2
    generalize s / 2 ^ (v % 64) = z at htz hz ⊢
    refine GOH ?_
    refine st_callS htz (by rfl) (by exact TKx) ?_
    refine GOH ?_
    by_cases hge : e ≤ v + i
    · rw [show decide ((e : Int) ≤ (v : Int) + (i : Int)) = true from decide_eq_true (by omega)]
      refine GOH ?_
      rw [nextO_none (fun b hb hb2 => hnb b hb ⟨hb2.1, by omega⟩)]
      exact endQ_mk (.inr rfl) (.tmp (by rfl) .nil) ⟨rfl, rfl⟩ (by exact IMx)
    · rw [show decide ((e : Int) ≤ (v : Int) + (i : Int)) = false from decide_eq_false (by omega)]
      obtain ⟨b, hb, hbv⟩ := (hx.lay.bits (v + i) (by omega)).1 hi64.2
      refine GOH ?_
      rw [nextO_some hx.lay.sort hb (by omega) (by omega) (fun c hc hc2 => hnb c hc ⟨hc2.1, by omega⟩)]
      refine endQ_mk (.inr rfl) (.tmp (by rfl) .nil) ⟨?_, rfl⟩ (by exact IMx)
      simp only [tup, nextV, hbv]; rfl
end Go.Proofs.YtmlnoodopoaafaaDoor

/-
  The walk of CompactWeak.
-/
import Derived.Test.YtmlnoodopoaafaaDoorH10
import Derived.Test.YtmlnoodopoaafaaDoorV10
import Derived.Test.YtmlnoodopoaafaaDoorV11
import Derived.Test.YtmlnoodopoaafaaDoorCards
import Derived.Test.YtmlnoodopoaafaaDoorTie
import Derived.OpenShut
import Derived.Deep.DeepHandedRow
import Derived.Lib.LaidTab
import Derived.JoinedCond
import Derived.KernelRfl
set_option linter.unusedSimpArgs false
set_option linter.unusedVariables false
namespace Go.Proofs.YtmlnoodopoaafaaDoor
open Go Go.V
set_option maxHeartbeats 12800000
set_option maxRecDepth 100000
theorem ysL_none {N m n : Nat} (hn : ¬ 0 < n) (xs : List Nat) (ns : List Int) (i j : Nat) : ysL N m n xs ns i = ysL N m n xs ns j := by
  unfold ysL
  exact List.map_congr_left fun k _ => by rw [if_neg (fun h => hn h.2), if_neg (fun h => hn h.2)]
theorem compactWeak_spec (S : List Atom) (sv nv hv : Value) (ss ns : List Int) (hs : List Bool) (hss : RdJ S sv ss) (hns : RdJ S nv ns) (hhs : RdT S hv hs) (hT : ∃ S', S.Perm (TZ ++ S')) (hsl : ss.length < 1073741824) (hnl : ns.length < 1073741824) (hhl : hs.length < 1073741824) :
    Fun Tryd.prog 5 [sv, nv, hv] [S] (fun v Post => v = .bool true ∧ Post = [S]) := by
  obtain ⟨sa, sc, rfl, hm⟩ := hss
  obtain ⟨na, nc, rfl, hmn⟩ := hns
  obtain ⟨ha, hc, rfl, hmh⟩ := hhs
  obtain ⟨S', hT⟩ := hT
  have hworks : Fun Tryd.prog 19 [] [S] (fun v Post => v = .bool true ∧ Post = [S]) := by
    refine worksW_spec.conv (R := [S']) ?_ ?_
    · simpa [Spl] using hT
    · rintro v Post ⟨rfl, rfl⟩
      exact ⟨_, ⟨rfl, rfl⟩, Imp.perm (by simpa using hT.symm)⟩
  refine Fun.intro low5 (by simp [n5]) ?_
  refine GOH ?_
  refine st_call hworks (by rfl) (by exact SPx) (fun v Post hv => ?_)
  obtain ⟨rfl, rfl⟩ := hv
  simp only [CNx]
  refine GOH ?_
  obtain ⟨n, hn⟩ : ∃ n : Nat, n = min ss.length 100 := ⟨_, rfl⟩
  refine st_call (new_spec 2048 1024 4096 0 0 (by decide) (by decide) (by decide) (by decide) (by decide)) (by rfl) (by exact SPx) (fun v Post hv => ?_)
  obtain ⟨p, x0, ⟨rfl, hx0, hxa0⟩, rfl⟩ := hv
  simp only [CNx]
  refine GOH ?_
  rw [show (if 100 < (ss.length : Int) then 100 else (ss.length : Int)) = (n : Int) by split <;> omega]
  refine st_call (alloc_spec p x0 hx0 4 4000 1 0 (by decide) (by decide) (by decide) (by decide) (by decide) (fun _ => .inr (by rw [hxa0]; kernel_rfl))) (by rfl) (by exact SPx) (fun v Post hv => ?_)
  obtain ⟨x1, hv, rfl⟩ := hv
  simp only [CNx]
  rcases hv with ⟨hf, _, _⟩ | ⟨_, rfl, hx1, hxa1⟩
  · rw [hxa0] at hf
    exact absurd hf (by unfold fullA; decide)
  rw [hxa0, show 8 * (roomA (newH 2048 1024 4096 0) 4).2.2 = 32784 from rfl]
  rw [hxa0] at hxa1
  refine GOH ?_
  refine st_call (setSpecial_spec p x1 hx1 0 32784 (by decide) (by decide) (by rw [hxa1]; kernel_rfl)) (by rfl) (by exact SPx) (fun v Post hv => ?_)
  obtain ⟨⟨rfl, hx2⟩, rfl⟩ := hv
  simp only [CNx]
  have hpre : PreA (spW x1 0 32784).a 32784 [] (heldL hs []) := PreA.start (by show ({ x1.a with sp := x1.a.sp.set 0 32784 } : AH) = _; rw [hxa1]; rfl)
  generalize spW x1 0 32784 = x2 at hx2 hpre ⊢
  clear hx0 hxa0 hx1 hxa1
  refine GOH ?_
  refine VC.loop (α := Nat × List Nat × Value × List Value × HW) (Γf := fun s => [(0, .slice sa ss.length sc), (1, .slice na ns.length nc), (2, .slice ha hs.length hc), (7, .bool true), (8, ptr0 p), (10, vi n), (13, s.2.2.1), (14, vi s.1)])
    (Hf := fun s => [HA p s.2.2.2.2, slA s.2.2.1 (s.2.1.map uv) s.2.2.2.1, S]) (I := fun s => s.1 ≤ n ∧ s.2.1.length = s.1 ∧ IsSl 1 s.2.2.1 s.2.1.length (s.2.1.map uv) s.2.2.2.1 ∧ HOk s.2.2.2.2 ∧ PreA s.2.2.2.2.a 32784 s.2.1 (heldL hs s.2.1)) (μ := fun s => n - s.1) (0, [], .slice none 0 0, [], x2)
    ⟨Nat.zero_le _, rfl, .nil, hx2, hpre⟩ (by exact SUx) (Imp.cut (M := [HA p x2, S]) (by exact IMx) (Imp.perm (by simp [slA]))) ?_
  clear hx2 hpre
  rintro ⟨i, xs, lv, sp, x⟩ ⟨hi, hxl, hls, hx, hpre⟩
  simp only at hi hxl hls hx hpre ⊢
  obtain ⟨la, lc, rfl⟩ := hls.form
  refine GOH ?_
  by_cases hlt : i < n
  · rw [show decide ((i : Int) < (n : Int)) = true from decide_eq_true (by omega)]
    obtain ⟨a0, ha0⟩ : ∃ a0, ss[i]? = some a0 := ⟨_, List.getElem?_eq_getElem (by omega)⟩
    obtain ⟨b, o, rfl, hm1⟩ := hm i a0 ha0
    refine GOH ?_
    by_cases he : a0.tmod 2 = 0
    · rw [show decide (a0.tmod 2 = 0) = true from decide_eq_true he]
      refine GOH ?_
      refine st_call (alloc_spec p x hx 4 i 5 0 (by decide) (by omega) (by decide) (by decide) (by decide) (fun e => absurd e (by decide))) (by rfl) (by exact SPx) (fun v Post hv => ?_)
      obtain ⟨y, hv, rfl⟩ := hv
      simp only [CNx]
      rcases hv with ⟨hf, _, _⟩ | ⟨_, rfl, hy, hya⟩
      · exact absurd hf (hpre.notFull (by omega) i (by decide))
      rw [← hxl] at hya
      have hadd := hpre.add hy (by decide) hya
      refine GOH ?_
      refine st_bslice (out := [uv (8 * (roomA x.a 4).2.2)]) (by rfl) (by rfl) (fun q5 => ?_)
      refine st_appU (xs := xs) (ys := [8 * (roomA x.a 4).2.2]) (sp := sp) (by rfl) (by rfl) hls (by exact TKx) (srcU_lit (fun y hy => by simp only [List.flatten_cons, List.mem_append]; exact .inl hy)) (by simp only [List.length_singleton]; omega) (fun sv' sp' hls' => ?_)
      obtain ⟨la', lc', rfl⟩ := hls'.form
      by_cases hh : i < hs.length
      · obtain ⟨t, ht⟩ : ∃ t, hs[i]? = some t := ⟨_, List.getElem?_eq_getElem hh⟩
        obtain ⟨hb, ho, rfl, hm2⟩ := hmh i t ht
        have hgd : hs.getD i false = t := by rw [List.getD_eq_getElem?_getD, ht]; rfl
        refine GOH ?_
        rw [show decide ((i : Int) < (hs.length : Int)) = true from decide_eq_true (by omega)]
        cases t
        · refine GOH ?_
          exact ⟨(i + 1, xs ++ [8 * (roomA x.a 4).2.2], _, sp', y), ⟨by simp only; omega, by simp only; rw [List.length_append, List.length_singleton]; omega, hls', hy, by simp only; rw [heldL_add, hxl, hgd]; simpa using hadd⟩, by simp only; omega, by exact SUx, by exact IMx⟩
        · refine GOH ?_
          obtain ⟨bb, hbb, _⟩ := hadd.xb xs.length (8 * (roomA x.a 4).2.2) (by simp)
          have hsl4 : y.a.stack.length < 4096 := by
            rw [hadd.stack]
            have := heldL_len hs xs
            omega
          refine st_call (push_spec p y hy (8 * (roomA x.a 4).2.2) (hy.oop_lt hbb) (by unfold mayO; rw [hbb]; simp) hsl4) (by rfl) (by exact SPx) (fun v Post hv => ?_)
          obtain ⟨z, ⟨rfl, hz, hza⟩, rfl⟩ := hv
          have hps := hadd.push (8 * (roomA x.a 4).2.2)
          rw [← hza] at hps
          simp only [CNx]
          refine GOH ?_
          exact ⟨(i + 1, xs ++ [8 * (roomA x.a 4).2.2], _, sp', z), ⟨by simp only; omega, by simp only; rw [List.length_append, List.length_singleton]; omega, hls', hz, by simp only; rw [heldL_add, hxl, hgd]; exact hps⟩, by simp only; omega, by exact SUx, by exact IMx⟩
      · refine GOH ?_
        rw [show decide ((i : Int) < (hs.length : Int)) = false from decide_eq_false (by omega)]
        have hgd : hs.getD i false = false := by rw [List.getD_eq_getElem?_getD, List.getElem?_eq_none (by omega)]; rfl
        refine GOH ?_
        exact ⟨(i + 1, xs ++ [8 * (roomA x.a 4).2.2], _, sp', y), ⟨by simp only; omega, by simp only; rw [List.length_append, List.length_singleton]; omega, hls', hy, by simp only; rw [heldL_add, hxl, hgd]; simpa using hadd⟩, by simp only; omega, by exact SUx, by exact IMx⟩
    · rw [show decide (a0.tmod 2 = 0) = false from decide_eq_false he]
      refine GOH ?_
      refine st_call (alloc_spec p x hx 1 i 5 0 (by decide) (by omega) (by decide) (by decide) (by decide) (fun e => absurd e (by decide))) (by rfl) (by exact SPx) (fun v Post hv => ?_)
      obtain ⟨y, hv, rfl⟩ := hv
      simp only [CNx]
      rcases hv with ⟨hf, _, _⟩ | ⟨_, rfl, hy, hya⟩
      · exact absurd hf (hpre.notFull (by omega) i (by decide))
      rw [← hxl] at hya
      have hadd := hpre.add hy (by decide) hya
      refine GOH ?_
      refine st_bslice (out := [uv (8 * (roomA x.a 1).2.2)]) (by rfl) (by rfl) (fun q5 => ?_)
      refine st_appU (xs := xs) (ys := [8 * (roomA x.a 1).2.2]) (sp := sp) (by rfl) (by rfl) hls (by exact TKx) (srcU_lit (fun y hy => by simp only [List.flatten_cons, List.mem_append]; exact .inl hy)) (by simp only [List.length_singleton]; omega) (fun sv' sp' hls' => ?_)
      obtain ⟨la', lc', rfl⟩ := hls'.form
      by_cases hh : i < hs.length
      · obtain ⟨t, ht⟩ : ∃ t, hs[i]? = some t := ⟨_, List.getElem?_eq_getElem hh⟩
        obtain ⟨hb, ho, rfl, hm2⟩ := hmh i t ht
        have hgd : hs.getD i false = t := by rw [List.getD_eq_getElem?_getD, ht]; rfl
        refine GOH ?_
        rw [show decide ((i : Int) < (hs.length : Int)) = true from decide_eq_true (by omega)]
        cases t
        · refine GOH ?_
          exact ⟨(i + 1, xs ++ [8 * (roomA x.a 1).2.2], _, sp', y), ⟨by simp only; omega, by simp only; rw [List.length_append, List.length_singleton]; omega, hls', hy, by simp only; rw [heldL_add, hxl, hgd]; simpa using hadd⟩, by simp only; omega, by exact SUx, by exact IMx⟩
        · refine GOH ?_
          obtain ⟨bb, hbb, _⟩ := hadd.xb xs.length (8 * (roomA x.a 1).2.2) (by simp)
          have hsl4 : y.a.stack.length < 4096 := by
            rw [hadd.stack]
            have := heldL_len hs xs
            omega
          refine st_call (push_spec p y hy (8 * (roomA x.a 1).2.2) (hy.oop_lt hbb) (by unfold mayO; rw [hbb]; simp) hsl4) (by rfl) (by exact SPx) (fun v Post hv => ?_)
          obtain ⟨z, ⟨rfl, hz, hza⟩, rfl⟩ := hv
          have hps := hadd.push (8 * (roomA x.a 1).2.2)
          rw [← hza] at hps
          simp only [CNx]
          refine GOH ?_
          exact ⟨(i + 1, xs ++ [8 * (roomA x.a 1).2.2], _, sp', z), ⟨by simp only; omega, by simp only; rw [List.length_append, List.length_singleton]; omega, hls', hz, by simp only; rw [heldL_add, hxl, hgd]; exact hps⟩, by simp only; omega, by exact SUx, by exact IMx⟩
      · refine GOH ?_
        rw [show decide ((i : Int) < (hs.length : Int)) = false from decide_eq_false (by omega)]
        have hgd : hs.getD i false = false := by rw [List.getD_eq_getElem?_getD, List.getElem?_eq_none (by omega)]; rfl
        refine GOH ?_
        exact ⟨(i + 1, xs ++ [8 * (roomA x.a 1).2.2], _, sp', y), ⟨by simp only; omega, by simp only; rw [List.length_append, List.length_singleton]; omega, hls', hy, by simp only; rw [heldL_add, hxl, hgd]; simpa using hadd⟩, by simp only; omega, by exact SUx, by exact IMx⟩
  rw [show decide ((i : Int) < (n : Int)) = false from decide_eq_false (by omega)]
  obtain rfl : n = i := by omega
  obtain ⟨m, hm2⟩ : ∃ m : Nat, m = min ns.length 100 := ⟨_, rfl⟩
  have hwr := hpre.weakRoom (m := m) (by omega) (by omega)
  have hyo : youngO x.a (x.a.sp.headD 0) = false := by
    rw [show x.a.sp.headD 0 = 32784 by rw [hpre.sp]; rfl]; exact hpre.young
  refine GOH ?_
  rw [show (if 100 < (ns.length : Int) then 100 else (ns.length : Int)) = (m : Int) by split <;> omega]
  refine st_call (alloc_spec p x hx 4 4001 2 m (by decide) (by decide) (by decide) (by omega) (fun e => absurd e (by decide)) (fun _ => .inr hyo)) (by rfl) (by exact SPx) (fun v Post hv => ?_)
  obtain ⟨y, hv, rfl⟩ := hv
  simp only [CNx]
  rcases hv with ⟨hf, _, _⟩ | ⟨_, rfl, hy, hya⟩
  · exact absurd hf hwr
  obtain ⟨hwk, hnt⟩ := hpre.weak hy m hya
  obtain ⟨W, hW⟩ : ∃ W, W = 8 * (roomA x.a 4).2.2 := ⟨_, rfl⟩
  rw [← hW] at hwk ⊢
  obtain ⟨bw, hbw, _⟩ := id hwk.wb
  have hbw : getO y.a.obs W = some bw := hbw
  refine GOH ?_
  refine st_call (setSpecial_spec p y hy 1 W (by decide) (hy.oop_lt hbw) (by unfold mayO; rw [hbw]; simp)) (by rfl) (by exact SPx) (fun v Post hv => ?_)
  obtain ⟨⟨rfl, hz⟩, rfl⟩ := hv
  simp only [CNx]
  have hzw : WeakA (spW y 1 W).a 32784 W xs (heldL hs xs) (ysL 32784 m n xs ns 0) := by rw [ysL_zero]; exact hwk
  have hzn : (spW y 1 W).a.noted.length ≤ 0 := by show y.a.noted.length ≤ 0; rw [hnt]; exact Nat.le_refl _
  generalize spW y 1 W = z at hz hzw hzn ⊢
  clear hwk hnt hbw hya hy hyo hwr hpre hx
  generalize hLV : slA _ _ sp = LV
  have hrd : ∀ k o, xs[k]? = some o → ∃ b o', la = some ⟨b, o', none⟩ ∧ Atom.cell b (o' + k) (uv o) ∈ LV := fun k o ho => by
    obtain ⟨a', c', e, h⟩ := hls.rdU
    cases e
    rw [← hLV]; exact h k o ho
  have hrun : ∀ z, HOk z → WeakA z.a 32784 W xs (heldL hs xs) (ysL 32784 m n xs ns m) → Fun Tryd.prog 21 [ptr0 p] [HA p z, S] (fun v Post => ∃ (z' x' : HW) (sl : List Atom), (HOk z' ∧ HOk x' ∧ x'.a = keptA (msA z.a) ∧ z'.a = slideA x'.a) ∧ Post = [sl, HA p z', S]) := fun z hz hw => by
    refine (run_spec p z hz (fun s hs => by rw [hw.end_ hs]; exact hw.run hz)).conv (R := [S']) ?_ ?_
    · simp only [Spl, List.flatten_cons, List.flatten_nil, List.append_nil, List.append_assoc]
      exact List.Perm.append_left _ hT
    · rintro v Post ⟨s, z', fv, fs, ⟨hs, _, hz', hza, _, x', hx', hxa⟩, rfl⟩
      obtain rfl := hw.end_ hs
      refine ⟨_, ⟨z', x', slA fv (List.map uv (firedA (keptA (msA z.a)) (roomL z'.a 4) (msA z.a).fired)) fs, ⟨hz', hx', hxa, by rw [hza, hxa]⟩, rfl⟩, Imp.perm ?_⟩
      simp only [List.cons_append, List.nil_append, List.flatten_cons, List.flatten_nil, List.append_nil, List.append_assoc]
      exact List.Perm.append_left _ (List.Perm.append_left _ hT.symm)
  refine GOH ?_
  refine VC.loop (α := Nat × HW) (Γf := fun s => [(1, .slice na ns.length nc), (2, .slice ha hs.length hc), (7, .bool true), (8, ptr0 p), (10, vi n), (13, .slice la xs.length lc), (18, vi m), (19, uv W), (21, vi s.1)])
    (Hf := fun s => [HA p s.2, LV, S]) (I := fun s => s.1 ≤ m ∧ HOk s.2 ∧ WeakA s.2.a 32784 W xs (heldL hs xs) (ysL 32784 m n xs ns s.1) ∧ s.2.a.noted.length ≤ s.1) (μ := fun s => m - s.1) (0, z)
    ⟨Nat.zero_le _, hz, hzw, hzn⟩ (by exact SUx) (by exact IMx) ?_
  clear hz hzw hzn
  rintro ⟨j, z⟩ ⟨hj, hz, hzw, hzn⟩
  simp only at hj hz hzw hzn ⊢
  have hneg : ∀ a : Int, (if a.tmod n < 0 then -(a.tmod n) else a.tmod n) = (toW n a : Int) := fun a => by
    unfold toW; split <;> omega
  refine GOH ?_
  by_cases hjn : j < m ∧ 0 < n
  · obtain ⟨hlt2, hn0⟩ := hjn
    rw [show decide ((j : Int) < (m : Int)) = true from decide_eq_true (by omega)]
    refine GOH ?_
    rw [show decide ((0 : Int) < (n : Int)) = true from decide_eq_true (by omega)]
    obtain ⟨a0, ha0⟩ : ∃ a0, ns[j]? = some a0 := ⟨_, List.getElem?_eq_getElem (by omega)⟩
    obtain ⟨b, o, rfl, hm1⟩ := hmn j a0 ha0
    have hgd : ns.getD j 0 = a0 := by rw [List.getD_eq_getElem?_getD, ha0]; rfl
    refine GOH ?_
    refine st_remW (by rfl) (by rfl) (by omega) ?_
    refine GOH ?_
    by_cases hng : a0.tmod n < 0
    · rw [show decide (a0.tmod n < 0) = true from decide_eq_true hng]
      have hk := hneg a0
      rw [if_pos hng] at hk
      have e : IntKind.i64.wrap (0 - a0.tmod n) = ((toW n a0 : Nat) : Int) := by
        have := toW_lt a0 hn0
        rw [show (0 - a0.tmod n) = ((toW n a0 : Nat) : Int) by omega]
        exact wrapI (by omega)
      refine GOH ?_
      rw [e]
      obtain ⟨w, hw⟩ : ∃ w, xs[toW n a0]? = some w := ⟨_, List.getElem?_eq_getElem (by have := toW_lt a0 hn0; rw [hxl]; exact this)⟩
      have hkx : toW n a0 < xs.length := (List.getElem?_eq_some_iff.1 hw).1
      obtain ⟨lb, lo, rfl, hm3⟩ := hrd _ w hw
      refine GOH ?_
      obtain ⟨bw, hbw, w2, w3, w4⟩ := hzw.wb
      obtain ⟨bo, hbo, _⟩ := hzw.xb _ _ hw
      refine st_call (setSlotN_spec p z hz W bw hbw (hz.oop_lt hbw) j w (by rw [many_two w2, w3, w4, ysL_len]; exact hlt2) (hz.oop_lt hbo) (by omega) (by unfold mayO; rw [hbo]; simp) (by omega)) (by rfl) (by exact SPx) (fun v Post hv => ?_)
      obtain ⟨y2, ⟨rfl, hy2, hya2⟩, rfl⟩ := hv
      obtain ⟨u1, u2⟩ := hzw.set hz hbw j w (List.mem_of_getElem? hw) (by omega) hya2
      simp only [CNx]
      refine GOH ?_
      exact ⟨(j + 1, y2), ⟨by simp only; omega, hy2, by simp only; rw [ysL_step xs ns hlt2 hn0, hgd, List.getD_eq_getElem?_getD, hw]; exact u1, by simp only; omega⟩, by simp only; omega, by exact SUx, by exact IMx⟩
    · rw [show decide (a0.tmod n < 0) = false from decide_eq_false hng]
      have hk := hneg a0
      rw [if_neg hng] at hk
      rw [hk]
      refine GOH ?_
      obtain ⟨w, hw⟩ : ∃ w, xs[toW n a0]? = some w := ⟨_, List.getElem?_eq_getElem (by have := toW_lt a0 hn0; rw [hxl]; exact this)⟩
      have hkx : toW n a0 < xs.length := (List.getElem?_eq_some_iff.1 hw).1
      obtain ⟨lb, lo, rfl, hm3⟩ := hrd _ w hw
      refine GOH ?_
      obtain ⟨bw, hbw, w2, w3, w4⟩ := hzw.wb
      obtain ⟨bo, hbo, _⟩ := hzw.xb _ _ hw
      refine st_call (setSlotN_spec p z hz W bw hbw (hz.oop_lt hbw) j w (by rw [many_two w2, w3, w4, ysL_len]; exact hlt2) (hz.oop_lt hbo) (by omega) (by unfold mayO; rw [hbo]; simp) (by omega)) (by rfl) (by exact SPx) (fun v Post hv => ?_)
      obtain ⟨y2, ⟨rfl, hy2, hya2⟩, rfl⟩ := hv
      obtain ⟨u1, u2⟩ := hzw.set hz hbw j w (List.mem_of_getElem? hw) (by omega) hya2
      simp only [CNx]
      refine GOH ?_
      exact ⟨(j + 1, y2), ⟨by simp only; omega, hy2, by simp only; rw [ysL_step xs ns hlt2 hn0, hgd, List.getD_eq_getElem?_getD, hw]; exact u1, by simp only; omega⟩, by simp only; omega, by exact SUx, by exact IMx⟩
  have hzm : WeakA z.a 32784 W xs (heldL hs xs) (ysL 32784 m n xs ns m) := by
    by_cases hlt2 : j < m
    · rw [← ysL_none (fun h => hjn ⟨hlt2, h⟩) xs ns j m]; exact hzw
    · have e : j = m := by omega
      rw [e] at hzw; exact hzw
  clear hzw
  have hzw := hzm
  clear hzm
  rcases Nat.lt_or_ge j m with hlt2 | hlt2
  case inl => 
    rw [show decide ((j : Int) < (m : Int)) = true from decide_eq_true (by omega)]
    refine GOH ?_
    rw [show decide ((0 : Int) < (n : Int)) = false from decide_eq_false (fun h => hjn ⟨hlt2, by omega⟩)]
    refine GOH ?_
    refine st_call (hrun z hz hzw) (by rfl) (by exact SPx) (fun v Post hv => ?_)
    obtain ⟨z', x', sl, ⟨hz', hx', ex, ez⟩, rfl⟩ := hv
    obtain ⟨N', W', r, bw, n', hsp, hbw, hmy, hnb, hl⟩ := weak_law hz hzw hx' hz' ex ez
    simp only [CNx]
    refine GOH ?_
    refine st_call (special_spec p z' hz' 1 W' (by rw [hsp]; rfl)) (by rfl) (by exact SPx) (fun v Post hv => ?_)
    obtain ⟨rfl, rfl⟩ := hv
    simp only [CNx]
    refine GOH ?_
    refine st_call (special_spec p z' hz' 0 N' (by rw [hsp]; rfl)) (by rfl) (by exact SPx) (fun v Post hv => ?_)
    obtain ⟨rfl, rfl⟩ := hv
    simp only [CNx]
    refine GOH ?_
    refine VC.loop (α := Nat) (Γf := fun s => [(1, .slice na ns.length nc), (2, .slice ha hs.length hc), (7, .bool true), (8, ptr0 p), (10, vi n), (11, uv N'), (18, vi m), (19, uv W'), (23, vi s)]) (Hf := fun s => [HA p z', S]) (I := fun s => s ≤ m) (μ := fun s => m - s) 0 (Nat.zero_le _) (by exact SUx) (by exact IMx) ?_
    intro i hi
    refine GOH ?_
    by_cases h1 : i < m
    rotate_left
    · rw [show decide ((i : Int) < (m : Int)) = false from decide_eq_false (by omega)]
      refine GOH ?_
      exact endQ_mk (.inr rfl) (.tmp (by rfl) .nil) ⟨rfl, rfl⟩ (by exact IMx)
    rw [show decide ((i : Int) < (m : Int)) = true from decide_eq_true (by omega)]
    refine GOH ?_
    by_cases hn1 : 0 < n
    rotate_left
    · rw [show decide ((0 : Int) < (n : Int)) = false from decide_eq_false (by omega)]
      refine GOH ?_
      exact endQ_mk (.inr rfl) (.tmp (by rfl) .nil) ⟨rfl, rfl⟩ (by exact IMx)
    exact absurd ⟨hlt2, hn1⟩ hjn
  case inr =>
    rw [show decide ((j : Int) < (m : Int)) = false from decide_eq_false (by omega)]
    refine GOH ?_
    refine st_call (hrun z hz hzw) (by rfl) (by exact SPx) (fun v Post hv => ?_)
    obtain ⟨z', x', sl, ⟨hz', hx', ex, ez⟩, rfl⟩ := hv
    obtain ⟨N', W', r, bw, n', hsp, hbw, hmy, hnb, hl⟩ := weak_law hz hzw hx' hz' ex ez
    simp only [CNx]
    refine GOH ?_
    refine st_call (special_spec p z' hz' 1 W' (by rw [hsp]; rfl)) (by rfl) (by exact SPx) (fun v Post hv => ?_)
    obtain ⟨rfl, rfl⟩ := hv
    simp only [CNx]
    refine GOH ?_
    refine st_call (special_spec p z' hz' 0 N' (by rw [hsp]; rfl)) (by rfl) (by exact SPx) (fun v Post hv => ?_)
    obtain ⟨rfl, rfl⟩ := hv
    simp only [CNx]
    refine GOH ?_
    refine VC.loop (α := Nat) (Γf := fun s => [(1, .slice na ns.length nc), (2, .slice ha hs.length hc), (7, .bool true), (8, ptr0 p), (10, vi n), (11, uv N'), (18, vi m), (19, uv W'), (23, vi s)]) (Hf := fun s => [HA p z', S]) (I := fun s => s ≤ m) (μ := fun s => m - s) 0 (Nat.zero_le _) (by exact SUx) (by exact IMx) ?_
    intro i hi
    refine GOH ?_
    by_cases h1 : i < m
    rotate_left
    · rw [show decide ((i : Int) < (m : Int)) = false from decide_eq_false (by omega)]
      refine GOH ?_
      exact endQ_mk (.inr rfl) (.tmp (by rfl) .nil) ⟨rfl, rfl⟩ (by exact IMx)
    rw [show decide ((i : Int) < (m : Int)) = true from decide_eq_true (by omega)]
    refine GOH ?_
    by_cases hn1 : 0 < n
    rotate_left
    · rw [show decide ((0 : Int) < (n : Int)) = false from decide_eq_false (by omega)]
      refine GOH ?_
      exact endQ_mk (.inr rfl) (.tmp (by rfl) .nil) ⟨rfl, rfl⟩ (by exact IMx)
    rw [show decide ((0 : Int) < (n : Int)) = true from decide_eq_true (by omega)]
    obtain ⟨a0, ha0⟩ : ∃ a0, ns[i]? = some a0 := ⟨_, List.getElem?_eq_getElem (by omega)⟩
    obtain ⟨b, o, rfl, hm1⟩ := hmn i a0 ha0
    have hgd : ns.getD i 0 = a0 := by rw [List.getD_eq_getElem?_getD, ha0]; rfl
    have htw := toW_lt a0 hn1
    obtain ⟨w, hw⟩ : ∃ w, xs[toW n a0]? = some w := ⟨_, List.getElem?_eq_getElem (by rw [hxl]; exact htw)⟩
    have hys : (ysL 32784 m n xs ns m)[i]? = some w := by rw [ysL_at xs ns h1 h1 hn1, hgd, List.getD_eq_getElem?_getD, hw]; rfl
    obtain ⟨v, hv1, hv2, hv3⟩ := hl i (toW n a0) w hys hw
    have hheld := hzw.held hw
    have hk := hneg a0
    refine GOH ?_
    refine st_remW (by rfl) (by rfl) (by omega) ?_
    refine GOH ?_
    by_cases hng : a0.tmod n < 0
    · rw [show decide (a0.tmod n < 0) = true from decide_eq_true hng]
      have e : IntKind.i64.wrap (0 - a0.tmod n) = ((toW n a0 : Nat) : Int) := by
        rw [if_pos hng] at hk
        rw [show (0 - a0.tmod n) = ((toW n a0 : Nat) : Int) by omega]
        exact wrapI (by omega)
      refine GOH ?_
      rw [e]
      generalize toW n a0 = k at *
      refine st_call (slotV_spec p z' hz' W' bw hbw (hz'.oop_lt hbw) i v (by rw [hmy, ysL_len]; exact h1) hv1) (by rfl) (by exact SPx) (fun v Post hv => ?_)
      obtain ⟨rfl, rfl⟩ := hv
      simp only [CNx]
      refine GOH ?_
      have hno : hs.getD k false = false → v = N' := fun h => hv3 (fun h' => by rw [hheld, h] at h'; cases h')
      by_cases hh : k < hs.length
      · obtain ⟨t, ht⟩ : ∃ t, hs[k]? = some t := ⟨_, List.getElem?_eq_getElem hh⟩
        obtain ⟨hb, ho, rfl, hm2⟩ := hmh k t ht
        have hgd2 : hs.getD k false = t := by rw [List.getD_eq_getElem?_getD, ht]; rfl
        rw [show decide ((k : Int) < (hs.length : Int)) = true from decide_eq_true (by omega)]
        refine GOH ?_
        cases t
        · obtain rfl := hno hgd2
          have hhd := headV_spec p z' hz' v n' hnb (hz'.oop_lt hnb)
          simp only [hdEnc] at hhd
          refine st_callS hhd (by rfl) (by exact TKx) ?_
          refine GOH ?_
          refine st_alloc (fun q9 => ?_)
          refine GOH ?_
          exact ⟨i + 1, by omega, by omega, by exact SUx, by exact IMx⟩
        · obtain ⟨b2, hb2, hc2⟩ := hv2 (hheld.2 hgd2)
          have hhd := headV_spec p z' hz' v b2 hb2 (hz'.oop_lt hb2)
          simp only [hdEnc] at hhd
          rw [hc2] at hhd
          refine st_callS hhd (by rfl) (by exact TKx) ?_
          refine GOH ?_
          refine st_alloc (fun q9 => ?_)
          refine GOH ?_
          rw [show decide ((k : Int) = (k : Int)) = true from decide_eq_true rfl]
          refine GOH ?_
          exact ⟨i + 1, by omega, by omega, by exact SUx, by exact IMx⟩
      · rw [show decide ((k : Int) < (hs.length : Int)) = false from decide_eq_false (by omega)]
        obtain rfl := hno (by rw [List.getD_eq_getElem?_getD, List.getElem?_eq_none (by omega)]; rfl)
        refine GOH ?_
        have hhd := headV_spec p z' hz' v n' hnb (hz'.oop_lt hnb)
        simp only [hdEnc] at hhd
        refine st_callS hhd (by rfl) (by exact TKx) ?_
        refine GOH ?_
        refine st_alloc (fun q9 => ?_)
        refine GOH ?_
        exact ⟨i + 1, by omega, by omega, by exact SUx, by exact IMx⟩
    · rw [show decide (a0.tmod n < 0) = false from decide_eq_false hng]
      rw [if_neg hng] at hk
      rw [hk]
      refine GOH ?_
      generalize toW n a0 = k at *
      refine st_call (slotV_spec p z' hz' W' bw hbw (hz'.oop_lt hbw) i v (by rw [hmy, ysL_len]; exact h1) hv1) (by rfl) (by exact SPx) (fun v Post hv => ?_)
      obtain ⟨rfl, rfl⟩ := hv
      simp only [CNx]
      refine GOH ?_
      have hno : hs.getD k false = false → v = N' := fun h => hv3 (fun h' => by rw [hheld, h] at h'; cases h')
      by_cases hh : k < hs.length
      · obtain ⟨t, ht⟩ : ∃ t, hs[k]? = some t := ⟨_, List.getElem?_eq_getElem hh⟩
        obtain ⟨hb, ho, rfl, hm2⟩ := hmh k t ht
        have hgd2 : hs.getD k false = t := by rw [List.getD_eq_getElem?_getD, ht]; rfl
        rw [show decide ((k : Int) < (hs.length : Int)) = true from decide_eq_true (by omega)]
        refine GOH ?_
        cases t
        · obtain rfl := hno hgd2
          have hhd := headV_spec p z' hz' v n' hnb (hz'.oop_lt hnb)
          simp only [hdEnc] at hhd
          refine st_callS hhd (by rfl) (by exact TKx) ?_
          refine GOH ?_
          refine st_alloc (fun q9 => ?_)
          refine GOH ?_
          exact ⟨i + 1, by omega, by omega, by exact SUx, by exact IMx⟩
        · obtain ⟨b2, hb2, hc2⟩ := hv2 (hheld.2 hgd2)
          have hhd := headV_spec p z' hz' v b2 hb2 (hz'.oop_lt hb2)
          simp only [hdEnc] at hhd
          rw [hc2] at hhd
          refine st_callS hhd (by rfl) (by exact TKx) ?_
          refine GOH ?_
          refine st_alloc (fun q9 => ?_)
          refine GOH ?_
          rw [show decide ((k : Int) = (k : Int)) = true from decide_eq_true rfl]
          refine GOH ?_
          exact ⟨i + 1, by omega, by omega, by exact SUx, by exact IMx⟩
      · rw [show decide ((k : Int) < (hs.length : Int)) = false from decide_eq_false (by omega)]
        obtain rfl := hno (by rw [List.getD_eq_getElem?_getD, List.getElem?_eq_none (by omega)]; rfl)
        refine GOH ?_
        have hhd := headV_spec p z' hz' v n' hnb (hz'.oop_lt hnb)
        simp only [hdEnc] at hhd
        refine st_callS hhd (by rfl) (by exact TKx) ?_
        refine GOH ?_
        refine st_alloc (fun q9 => ?_)
        refine GOH ?_
        exact ⟨i + 1, by omega, by omega, by exact SUx, by exact IMx⟩
open Go Go.V Go.ChangeShapes Go.WideShapes Go.Deep
section
variable {H : Type} {enc : TypeId × Value → H}
theorem u2 : Tryd.prog.underlying 2 = some (.int .i64) := by kernel_rfl
theorem u3 : Tryd.prog.underlying 3 = some (.int .i64) := by kernel_rfl
theorem u4 : Tryd.prog.underlying 4 = some .bool := by kernel_rfl
theorem u23 : Tryd.prog.underlying 23 = some (.slice 3) := by kernel_rfl
theorem u56 : Tryd.prog.underlying 56 = some (.slice 4) := by kernel_rfl
theorem cells3 : Tryd.prog.cellsOf 3 = 1 := by kernel_rfl
theorem cells4 : Tryd.prog.cellsOf 4 = 1 := by kernel_rfl
theorem closedS : closedB Tryd.prog [2, 3, 4, 9, 22, 23, 47, 56] = true := by kernel_rfl
theorem closedP : Closed Tryd.prog (· ∈ [2, 3, 4, 9, 22, 23, 47, 56]) := closed_of closedS
theorem own : ownKnob Tryd.prog.godebug = none := by kernel_rfl
theorem bulk_one (d : DataW H) : 1 ≤ Rows.uptoBulk d := by
  cases d with
  | lit l => cases l <;> simp [Rows.uptoBulk]
  | _ => simp [Rows.uptoBulk]
theorem bulk_len (l : List (DataW H)) : l.length ≤ Rows.uptoBulkAll l := by
  induction l with
  | nil => simp
  | cons d r ih =>
    have := bulk_one d
    simp only [Rows.uptoBulkAll, List.length_cons]
    omega
noncomputable def laidWorld (os : Os) : World :=
  { World.holding Tryd.prog os ⟨#[], #[], []⟩ with heap := (World.holding Tryd.prog os ⟨#[], #[], []⟩).heap.modify 0 fun
      | .cells _ t frozen => .cells (#[0, 1, 56, 2, 57, 49, 28, 3, 61, 58, 42, 50, 38, 29, 17, 4, 62, 47, 59, 36, 45, 43, 51, 22, 53, 39, 33, 30, 24, 18, 12, 5, 63, 55, 48, 27, 60, 41, 37, 16, 46, 35, 44, 21, 52, 32, 23, 11, 54, 26, 40, 15, 34, 20, 31, 10, 25, 14, 19, 9, 13, 8, 7, 6].map fun n => Value.int .u8 n) t frozen
      | o => o }
end
end Go.Proofs.YtmlnoodopoaafaaDoor

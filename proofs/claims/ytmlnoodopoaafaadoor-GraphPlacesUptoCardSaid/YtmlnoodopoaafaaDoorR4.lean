/-
  The walk of GraphPlaces.
-/
import Derived.Test.YtmlnoodopoaafaaDoorR3
import Derived.Test.YtmlnoodopoaafaaDoorQ1
import Derived.Test.YtmlnoodopoaafaaDoorH4
set_option linter.unusedSimpArgs false
set_option linter.unusedVariables false
namespace Go.V
open Go
def RdN (A : List Atom) (v : Value) (ns : List (List Int)) : Prop := ∃ a c, v = .slice a ns.length c ∧ ∀ (i : Nat) l, ns[i]? = some l → ∃ b o u, a = some ⟨b, o, none⟩ ∧ Atom.cell b (o + i) u ∈ A ∧ RdI A u l
theorem perm_five {S T S' A B C D E : List Atom} (h : S.Perm (T ++ S')) : (A ++ (B ++ (C ++ (D ++ (E ++ S))))).Perm (B ++ (T ++ (A ++ (C ++ (D ++ (E ++ S')))))) := by
  refine (((((h.append_left E).append_left D).append_left C).append_left B).append_left A).trans ?_
  have e1 : A ++ (B ++ (C ++ (D ++ (E ++ (T ++ S'))))) = A ++ (B ++ ((C ++ (D ++ E)) ++ (T ++ S'))) := by simp [List.append_assoc]
  have e2 : B ++ (T ++ (A ++ (C ++ (D ++ (E ++ S'))))) = B ++ (T ++ (A ++ ((C ++ (D ++ E)) ++ S'))) := by simp [List.append_assoc]
  rw [e1, e2]
  refine (perm_lead A B _).trans (List.Perm.append_left B ?_)
  exact ((perm_lead _ _ _).append_left A).trans (perm_lead _ _ _)
section
variable {P : Program} {n : Nat} {rs : List RO} {Γ : Env} {H : SH} {Z : List PanicEntry → Env → SH → Prop} {K : Env → SH → Prop} {d : Option Nat}
theorem st_remI {x y : Operand} {a b : Int} (hx : ev Γ x = some (.int .i64 a)) (hy : ev Γ y = some (.int .i64 b)) (hb : b ≠ 0) (h : VO P n rs (putE d (.int .i64 (a.tmod b)) Γ) H Z K) : VO P n (⟨d, none, .bin .rem x y⟩ :: rs) Γ H Z K :=
  st_bin hx hy (by simp only [binV, intV]; rw [if_pos ⟨trivial, hb⟩]) h
end
theorem tmod_lt (a : Int) {n : Nat} (hn : 0 < n) : -(n : Int) < a.tmod n ∧ a.tmod n < n := by
  have h1 := Int.tmod_lt_of_pos a (b := (n : Int)) (by omega)
  have h2 := Int.tmod_lt_of_pos (-a) (b := (n : Int)) (by omega)
  rw [Int.neg_tmod] at h2
  omega
def toN (n : Nat) (a : Int) : Nat := (a.tmod n).natAbs
theorem toN_lt (a : Int) {n : Nat} (hn : 0 < n) : toN n a < n := by
  have := tmod_lt a hn
  unfold toN; omega
def bodP (n : Nat) (ns : List (List Int)) (i0 k0 : Nat) (i k : Nat) : Option Nat := if i < i0 ∨ (i = i0 ∧ k < k0) then some (toN n (((ns.getD i []).getD k 0))) else none
theorem bodP_step (n : Nat) (ns : List (List Int)) (i k i' k' : Nat) : bodP n ns i (k + 1) i' k' = if i' = i ∧ k' = k then some (toN n ((ns.getD i []).getD k 0)) else bodP n ns i k i' k' := by
  unfold bodP
  by_cases h : i' = i ∧ k' = k
  · obtain ⟨rfl, rfl⟩ := h
    rw [if_pos (by omega), if_pos ⟨rfl, rfl⟩]
  · rw [if_neg h]
    by_cases h2 : i' < i ∨ (i' = i ∧ k' < k)
    · rw [if_pos (by omega), if_pos h2]
    · rw [if_neg (by omega), if_neg h2]
theorem bodP_next (n : Nat) (ns : List (List Int)) (i m i' k' : Nat) (h : i' = i → k' < m) : bodP n ns (i + 1) 0 i' k' = bodP n ns i m i' k' := by
  unfold bodP
  by_cases h2 : i' < i + 1 ∨ (i' = i + 1 ∧ k' < 0)
  · rw [if_pos h2, if_pos (by omega)]
  · rw [if_neg h2, if_neg (by omega)]
def oI : Option Nat → Int
  | some j => j
  | none => -1
end Go.V
namespace Go.Proofs.YtmlnoodopoaafaaDoor
open Go Go.V
set_option maxHeartbeats 6400000
set_option maxRecDepth 100000
theorem graphPlaces_spec (S : List Atom) (nv ov : Value) (ns : List (List Int)) (os : List Int) (hns : RdN S nv ns) (hos : RdI S ov os) (hT : ∃ S', S.Perm (TZ ++ S')) (hnl : ns.length < 1073741824) (hin : ∀ l ∈ ns, l.length < 1073741824) (hol : os.length < 1073741824) :
    Fun Tryd.prog 3 [nv, ov] [S] (fun v Post => v = .bool true ∧ Post = [S]) := by
  obtain ⟨na, nc, rfl, hm⟩ := hns
  obtain ⟨oa, oc, rfl, hmo⟩ := hos
  obtain ⟨S', hT⟩ := hT
  refine Fun.intro low3 (by simp [n3]) ?_
  refine GOH ?_
  refine st_call works_spec (by rfl) (by exact SPx) (fun v Post hv => ?_)
  obtain ⟨rfl, rfl⟩ := hv
  simp only [CNx]
  refine GOH ?_
  obtain ⟨n, hn⟩ : ∃ n : Nat, n = min ns.length 60 := ⟨_, rfl⟩
  rw [show (if 60 < (ns.length : Int) then 60 else (ns.length : Int)) = (n : Int) by split <;> omega]
  refine st_call (new_spec 4096 64 4096 4096 0 (by decide) (by decide) (by decide) (by decide) (by decide)) (by rfl) (by exact SPx) (fun v Post hv => ?_)
  obtain ⟨p, xa, ⟨rfl, hxa, hxaa⟩, rfl⟩ := hv
  simp only [CNx]
  refine GOH ?_
  refine st_call (new_spec 8192 64 8192 4096 0 (by decide) (by decide) (by decide) (by decide) (by decide)) (by rfl) (by exact SPx) (fun v Post hv => ?_)
  obtain ⟨q, xb, ⟨rfl, hxb, hxba⟩, rfl⟩ := hv
  simp only [CNx]
  refine GOH ?_
  refine st_mkU n (by rfl) (by rfl) rfl (by omega) (fun bx => ?_)
  refine GOH ?_
  refine st_mkU n (by rfl) (by rfl) rfl (by omega) (fun bY => ?_)
  refine GOH ?_
  obtain ⟨len, hlen⟩ : ∃ len : Nat → Nat, len = fun i => min ((ns.getD i []).length) 8 := ⟨_, rfl⟩
  have hlv : ∀ i l, ns[i]? = some l → (if 8 < (l.length : Int) then 8 else (l.length : Int)) = (len i : Int) := fun i l h => by
    have e : len i = min l.length 8 := by rw [hlen]; show min ((ns.getD i []).length) 8 = _; rw [List.getD_eq_getElem?_getD, h]; rfl
    rw [e]; split <;> omega
  have hl8 : ∀ i, len i ≤ 8 := fun i => by rw [hlen]; exact Nat.min_le_right _ _
  have hma  : V.Mod xa.a [] (List.replicate n 0) len (fun _ _ => none) := by rw [hxaa]; exact V.Mod.nil 4096 64 4096 4096 _ _
  have hmb  : V.Mod xb.a [] (List.replicate n 0) len (fun _ _ => none) := by rw [hxba]; exact V.Mod.nil 8192 64 8192 4096 _ _
  have hna : xa.a.noted = [] ∧ xa.a.stack = [] := by rw [hxaa]; exact ⟨rfl, rfl⟩
  have hnb : xb.a.noted = [] ∧ xb.a.stack = [] := by rw [hxba]; exact ⟨rfl, rfl⟩
  refine VC.loop (α := Nat × List Nat × HW) (Γf := fun s => [(0, .slice na ns.length nc), (1, .slice oa os.length oc), (5, .bool true), (6, vi n), (7, ptr0 p), (9, ptr0 q), (11, .slice (some ⟨bx, 0, none⟩) n n), (12, .slice (some ⟨bY, 0, none⟩) n n), (13, vi s.1)])
    (Hf := fun s => [HA p s.2.2, cellsAt bx 0 (s.2.1.map uv), cellsAt bY 0 ((List.replicate n 0).map uv), HA q xb, S]) (I := fun s => s.1 ≤ n ∧ s.2.1.length = n ∧ HOk s.2.2 ∧ V.Mod s.2.2.a (List.range s.1) s.2.1 len (fun _ _ => none) ∧ s.2.2.a.noted = [] ∧ s.2.2.a.stack = []) (μ := fun s => n - s.1) (0, List.replicate n 0, xa)
    ⟨Nat.zero_le _, by simp, hxa, hma, hna⟩ (by exact SUx) (by exact IMx) ?_
  clear hxa hma hna hxaa
  rintro ⟨i, xs, xa⟩ ⟨hin', hxl, hxa, hma, hna⟩
  simp only at hin' hxl hxa hma hna ⊢
  refine GOH ?_
  by_cases hi : i < n
  · rw [show decide ((i : Int) < (n : Int)) = true from decide_eq_true (by omega)]
    obtain ⟨l, hl⟩ : ∃ l, ns[i]? = some l := ⟨_, List.getElem?_eq_getElem (by omega)⟩
    obtain ⟨nb, no, u, rfl, hmu, hu⟩ := hm i l hl
    obtain ⟨ua, uc, rfl, _⟩ := hu
    have hlenl := hlv i l hl
    refine GOH ?_
    rw [hlenl]
    refine st_call (alloc_spec p xa hxa 1 i 1 (len i) (by decide) (by omega) (by decide) (by have := hl8 i; omega) (fun e => absurd e (by decide)) (fun _ => .inl (by decide))) (by rfl) (by exact SPx) (fun v Post hv => ?_)
    obtain ⟨y, hv, rfl⟩ := hv
    simp only [CNx]
    rcases hv with ⟨hf, rfl, rfl⟩ | ⟨_, rfl, hy, hya⟩
    · refine GOH ?_
      refine st_storeU (i := i) (m := 0) (l := xs) (by rfl) (by rfl) (by exact TKx) (by omega) (by omega) ?_
      refine GOH ?_
      exact endQ_mk (.inr rfl) (.tmp (by rfl) .nil) ⟨rfl, rfl⟩ (by exact IMx)
    · refine GOH ?_
      refine st_storeU (i := i) (m := 8 * (roomA xa.a 1).2.2) (l := xs) (by rfl) (by rfl) (by exact TKx) (by omega) (by omega) ?_
      refine GOH ?_
      have hsp0 : xa.a.sp.headD 0 = 0 := by rw [hma.sp]; rfl
      have hlr : i ∉ List.range i := by simp
      have hma2 := hma.add hxa hy (i := i) (w := (roomA xa.a 1).2.2) hlr (by omega) (fun _ => rfl) (by
        rw [hya]
        unfold allocA
        rw [if_pos (show (hdOf i 1 (len i)).fmt ≤ 3 from (by decide : 1 ≤ 3))]
        unfold filledA laidA tookA
        simp only [hsp0]; rfl) (by rw [hya]; unfold allocA; split <;> rfl) (by rw [hya]; unfold allocA; split <;> rfl) (by rw [hya]; unfold allocA; split <;> rfl)
      rw [← List.range_succ] at hma2
      exact ⟨(i + 1, xs.set i (8 * (roomA xa.a 1).2.2), y), ⟨hi, by simp [hxl], hy, hma2, by rw [hya]; unfold allocA; split <;> exact hna⟩, by simp only; omega, by exact SUx, by exact IMx⟩
  rw [show decide ((i : Int) < (n : Int)) = false from decide_eq_false (by omega)]
  obtain rfl : n = i := by omega
  clear hin' hi
  refine GOH ?_
  refine VC.loop (α := Nat × List Nat × List Nat × HW) (Γf := fun s => [(0, .slice na ns.length nc), (1, .slice oa os.length oc), (5, .bool true), (6, vi n), (7, ptr0 p), (9, ptr0 q), (11, .slice (some ⟨bx, 0, none⟩) n n), (12, .slice (some ⟨bY, 0, none⟩) n n), (14, vi s.1)])
    (Hf := fun s => [HA q s.2.2.2, cellsAt bY 0 (s.2.1.map uv), HA p xa, cellsAt bx 0 (xs.map uv), S]) (I := fun s => s.1 ≤ n ∧ s.2.1.length = n ∧ HOk s.2.2.2 ∧ V.Mod s.2.2.2.a s.2.2.1 s.2.1 len (fun _ _ => none) ∧ s.2.2.2.a.noted = [] ∧ s.2.2.2.a.stack = [] ∧ s.2.2.1.length = s.1 ∧ (∀ j ∈ s.2.2.1, j < n) ∧ (∀ j < n, j ∉ s.2.2.1 → s.2.1.getD j 0 = 0)) (μ := fun s => n - s.1) (0, List.replicate n 0, [], xb)
    ⟨Nat.zero_le _, by simp, hxb, hmb, hnb.1, hnb.2, rfl, by simp, fun j hj _ => by rw [List.getD_eq_getElem?_getD, List.getElem?_replicate, if_pos hj]; rfl⟩ (by exact SUx) (by exact IMx) ?_
  clear hxb hmb hnb hxba
  rintro ⟨k, ys, S2, xb⟩ ⟨hk, hyl, hxb, hmb, hnb, hsb, hS2, hSn, hy0⟩
  simp only at hk hyl hxb hmb hnb hsb hS2 hSn hy0 ⊢
  have hyne : ∀ j ∈ S2, ys.getD j 0 ≠ 0 := fun j hj e => by
    have := hmb.tag j hj
    rw [e] at this; cases this
  have hyg : ∀ j, j < n → ys[j]? = some (ys.getD j 0) := fun j hj => by
    rw [List.getD_eq_getElem?_getD, List.getElem?_eq_getElem (by omega)]; rfl
  have hysm : ∀ j, j < n → ys.getD j 0 < 18446744073709551616 := fun j hj => by
    by_cases hjs : j ∈ S2
    · have := tagO_three (hmb.tag j hjs); omega
    · rw [hy0 j hj hjs]; omega
  have hym : ∀ j, j < n → Atom.cell bY j (uv (ys.getD j 0)) ∈ cellsAt bY 0 (ys.map uv) := fun j hj => mem_u0 (hyg j hj)
  refine GOH ?_
  by_cases hkn : k < n
  · rw [show decide ((k : Int) < (n : Int)) = true from decide_eq_true (by omega)]
    refine GOHS ?_
    refine VC.join (α := Option Nat) (fun o => [(0, .slice na ns.length nc), (1, .slice oa os.length oc), (5, .bool true), (6, vi n), (7, ptr0 p), (9, ptr0 q), (11, .slice (some ⟨bx, 0, none⟩) n n), (12, .slice (some ⟨bY, 0, none⟩) n n), (14, vi k), (15, vi (oI o))]) (fun _ => [HA q xb, cellsAt bY 0 (ys.map uv), HA p xa, cellsAt bx 0 (xs.map uv), S]) (fun o => ∀ j, o = some j → j < n ∧ j ∉ S2) ?_ (fun o ho => ?_)
    · generalize hBY : cellsAt bY 0 (ys.map uv) = BY at hym ⊢
      refine GOH ?_
      by_cases h1 : k < os.length
      rotate_left
      · rw [show decide ((k : Int) < (os.length : Int)) = false from decide_eq_false (by omega)]
        refine GOH ?_
        exact ⟨none, fun j h => (by cases h), by exact SUx, by exact IMx⟩
      rw [show decide ((k : Int) < (os.length : Int)) = true from decide_eq_true (by omega)]
      obtain ⟨w, hw⟩ : ∃ w, os[k]? = some w := ⟨_, List.getElem?_eq_getElem h1⟩
      obtain ⟨ob, oo, rfl, hmw⟩ := hmo k w hw
      refine GOH ?_
      by_cases h2 : 0 ≤ w
      rotate_left
      · rw [decide_eq_false h2]
        refine GOH ?_
        exact ⟨none, fun j h => (by cases h), by exact SUx, by exact IMx⟩
      rw [decide_eq_true h2]
      obtain ⟨j, rfl⟩ := Int.eq_ofNat_of_zero_le h2
      refine GOH ?_
      by_cases h3 : j < n
      rotate_left
      · rw [show decide ((j : Int) < (n : Int)) = false from decide_eq_false (by omega)]
        refine GOH ?_
        exact ⟨none, fun j h => (by cases h), by exact SUx, by exact IMx⟩
      rw [show decide ((j : Int) < (n : Int)) = true from decide_eq_true (by omega)]
      have hmj := hym j h3
      refine GOH ?_
      by_cases h4 : ys.getD j 0 = 0
      · rw [h4]
        refine GOH ?_
        exact ⟨some j, fun j' h => by cases h; exact ⟨h3, fun hs => hyne j hs h4⟩, by exact SUx, by exact IMx⟩
      · rw [show decide (((ys.getD j 0 : Nat) : Int) = 0) = false from decide_eq_false (by omega)]
        refine GOH ?_
        exact ⟨none, fun j h => (by cases h), by exact SUx, by exact IMx⟩
    · refine VC.join (α := Nat) (fun i => [(0, .slice na ns.length nc), (1, .slice oa os.length oc), (5, .bool true), (6, vi n), (7, ptr0 p), (9, ptr0 q), (11, .slice (some ⟨bx, 0, none⟩) n n), (12, .slice (some ⟨bY, 0, none⟩) n n), (14, vi k), (15, vi i)]) (fun _ => [HA q xb, cellsAt bY 0 (ys.map uv), HA p xa, cellsAt bx 0 (xs.map uv), S]) (fun i => i < n ∧ i ∉ S2) ?_ (fun i hi => ?_)
      rotate_left
      · obtain ⟨hin2, his⟩ := hi
        obtain ⟨l, hl⟩ : ∃ l, ns[i]? = some l := ⟨_, List.getElem?_eq_getElem (by omega)⟩
        obtain ⟨nb, no, u, rfl, hmu, hu⟩ := hm i l hl
        obtain ⟨ua, uc, rfl, _⟩ := hu
        have hlenl := hlv i l hl
        have hl8i := hl8 i
        have hsp0 : xb.a.sp.headD 0 = 0 := by rw [hmb.sp]; rfl
        have hyo : youngO xb.a (xb.a.sp.headD 0) = false := by
          rw [hsp0]; unfold youngO spaceO; rw [hmb.zero]; rfl
        have hstep : ∀ (w : Nat) (y : HW), HOk y → y.a.obs = updO w (fillB (len i) 0) (insO (newO w (hdOf i 1 (len i))) xb.a.obs) → y.a.sp = xb.a.sp → y.a.cl = xb.a.cl → y.a.queue = xb.a.queue → y.a.noted = xb.a.noted → y.a.stack = xb.a.stack →
            k + 1 ≤ n ∧ (ys.set i (8 * w)).length = n ∧ HOk y ∧ V.Mod y.a (S2 ++ [i]) (ys.set i (8 * w)) len (fun _ _ => none) ∧ y.a.noted = [] ∧ y.a.stack = [] ∧ (S2 ++ [i]).length = k + 1 ∧ (∀ j ∈ S2 ++ [i], j < n) ∧ (∀ j < n, j ∉ S2 ++ [i] → (ys.set i (8 * w)).getD j 0 = 0) := fun w y hy h1 h2 h3 h4 h5 h6 => by
          refine ⟨by omega, by simp [hyl], hy, hmb.add hxb hy his (by omega) (fun _ => rfl) h1 h2 h3 h4, h5.trans hnb, h6.trans hsb, by simp [hS2], fun j hj => ?_, fun j hj hjs => ?_⟩
          · rcases List.mem_append.1 hj with h | h
            · exact hSn j h
            · rw [List.mem_singleton.1 h]; exact hin2
          · have hji : i ≠ j := fun e => hjs (by rw [e]; simp)
            rw [List.getD_eq_getElem?_getD, List.getElem?_set_ne hji, ← List.getD_eq_getElem?_getD]
            exact hy0 j hj (fun h => hjs (by simp [h]))
        refine GOH ?_
        rw [hlenl]
        refine st_bslice (out := [cv 1, cv 4, cv 5]) (by rfl) (by rfl) (fun bs => ?_)
        have hk3 : k % 3 = 0 ∨ k % 3 = 1 ∨ k % 3 = 2 := by omega
        rcases hk3 with hk3 | hk3 | hk3
        · rw [hk3]
          refine GOH ?_
          refine st_call (alloc_spec q xb hxb 1 i 1 (len i) (by decide) (by omega) (by decide) (by omega) (fun e => absurd e (by decide)) (fun _ => .inl (by decide))) (by rfl) (by exact SPx) (fun v Post hv => ?_)
          obtain ⟨y, hv, rfl⟩ := hv
          simp only [CNx]
          rcases hv with ⟨hf, rfl, rfl⟩ | ⟨_, rfl, hy, hya⟩
          · refine GOH ?_
            refine st_storeU (i := i) (m := 0) (l := ys) (by rfl) (by rfl) (by exact TKx) (by omega) (by omega) ?_
            refine GOH ?_
            exact endQ_mk (.inr rfl) (.tmp (by rfl) .nil) ⟨rfl, rfl⟩ (by exact IMx)
          · refine GOH ?_
            refine st_storeU (i := i) (m := 8 * (roomA xb.a 1).2.2) (l := ys) (by rfl) (by rfl) (by exact TKx) (by omega) (by omega) ?_
            refine GOH ?_
            refine ⟨(k + 1, ys.set i (8 * (roomA xb.a 1).2.2), S2 ++ [i], y), hstep (roomA xb.a 1).2.2 y hy ?_ ?_ ?_ ?_ ?_ ?_, by simp only; omega, by exact SUx, by exact IMx⟩
            · rw [hya]
              unfold allocA
              rw [if_pos (show (hdOf i 1 (len i)).fmt ≤ 3 from (by decide : 1 ≤ 3))]
              unfold filledA laidA tookA
              simp only [hsp0]; rfl
            all_goals (rw [hya]; unfold allocA; split <;> rfl)
        · rw [hk3]
          refine GOH ?_
          refine st_call (alloc_spec q xb hxb 4 i 1 (len i) (by decide) (by omega) (by decide) (by omega) (fun e => absurd e (by decide)) (fun _ => .inr hyo)) (by rfl) (by exact SPx) (fun v Post hv => ?_)
          obtain ⟨y, hv, rfl⟩ := hv
          simp only [CNx]
          rcases hv with ⟨hf, rfl, rfl⟩ | ⟨_, rfl, hy, hya⟩
          · refine GOH ?_
            refine st_storeU (i := i) (m := 0) (l := ys) (by rfl) (by rfl) (by exact TKx) (by omega) (by omega) ?_
            refine GOH ?_
            exact endQ_mk (.inr rfl) (.tmp (by rfl) .nil) ⟨rfl, rfl⟩ (by exact IMx)
          · refine GOH ?_
            refine st_storeU (i := i) (m := 8 * (roomA xb.a 4).2.2) (l := ys) (by rfl) (by rfl) (by exact TKx) (by omega) (by omega) ?_
            refine GOH ?_
            refine ⟨(k + 1, ys.set i (8 * (roomA xb.a 4).2.2), S2 ++ [i], y), hstep (roomA xb.a 4).2.2 y hy ?_ ?_ ?_ ?_ ?_ ?_, by simp only; omega, by exact SUx, by exact IMx⟩
            · rw [hya]
              unfold allocA
              rw [if_pos (show (hdOf i 1 (len i)).fmt ≤ 3 from (by decide : 1 ≤ 3))]
              unfold filledA laidA tookA
              simp only [hsp0]; rfl
            all_goals (rw [hya]; unfold allocA; split <;> rfl)
        · rw [hk3]
          refine GOH ?_
          refine VO.imp (H' := [HA q xb, TZ, cellsAt bs 0 [cv 1, cv 4, cv 5], cellsAt bY 0 (ys.map uv), HA p xa, cellsAt bx 0 (xs.map uv), S']) (Imp.perm (by
            simp only [List.flatten_cons, List.flatten_nil, List.append_nil]
            generalize cellsAt bs 0 _ = B1
            generalize cellsAt bY 0 _ = B2
            generalize cellsAt bx 0 _ = B3
            exact perm_five hT)) ?_
          refine st_call (alloc5_spec q xb hxb i (len i) (by omega) (by omega) hyo) (by rfl) (by exact SPx) (fun v Post hv => ?_)
          obtain ⟨y, hv, rfl⟩ := hv
          simp only [CNx]
          refine VO.imp (H' := [HA q y, cellsAt bY 0 (ys.map uv), HA p xa, cellsAt bx 0 (xs.map uv), S]) (Imp.cut (M := [cellsAt bs 0 [cv 1, cv 4, cv 5], HA q y, cellsAt bY 0 (ys.map uv), HA p xa, cellsAt bx 0 (xs.map uv), S]) (Imp.perm (by
            simp only [List.flatten_cons, List.flatten_nil, List.append_nil]
            generalize cellsAt bs 0 _ = B1
            generalize cellsAt bY 0 _ = B2
            generalize cellsAt bx 0 _ = B3
            exact (perm_five hT).symm)) (by exact IMx)) ?_
          rcases hv with ⟨rfl, rfl⟩ | ⟨w, rfl, _, _, hy, hya⟩
          · refine GOH ?_
            refine st_storeU (i := i) (m := 0) (l := ys) (by rfl) (by rfl) (by exact TKx) (by omega) (by omega) ?_
            refine GOH ?_
            exact endQ_mk (.inr rfl) (.tmp (by rfl) .nil) ⟨rfl, rfl⟩ (by exact IMx)
          · refine GOH ?_
            refine st_storeU (i := i) (m := 8 * w) (l := ys) (by rfl) (by rfl) (by exact TKx) (by omega) (by omega) ?_
            refine GOH ?_
            refine ⟨(k + 1, ys.set i (8 * w), S2 ++ [i], y), hstep w y hy ?_ ?_ ?_ ?_ ?_ ?_, by simp only; omega, by exact SUx, by exact IMx⟩
            · rw [hya]
              unfold filledA putA
              simp only [hsp0]
            all_goals (rw [hya]; rfl)
      refine GOH ?_
      refine VC.loop (α := Option Nat × Nat) (Γf := fun z => [(0, .slice na ns.length nc), (1, .slice oa os.length oc), (5, .bool true), (6, vi n), (7, ptr0 p), (9, ptr0 q), (11, .slice (some ⟨bx, 0, none⟩) n n), (12, .slice (some ⟨bY, 0, none⟩) n n), (14, vi k), (15, vi (oI z.1)), (16, vi ((z.2 : Int) - 1))]) (Hf := fun _ => [HA q xb, cellsAt bY 0 (ys.map uv), HA p xa, cellsAt bx 0 (xs.map uv), S])
        (I := fun z => (∀ j, z.1 = some j → j < n ∧ j ∉ S2) ∧ z.2 ≤ n ∧ (z.1 = none → ∀ j, z.2 ≤ j → j < n → j ∈ S2)) (μ := fun z => z.2) (o, n) ⟨ho, Nat.le_refl _, fun _ j h1 h2 => by simp only at h1; omega⟩ (by exact SUx) (Imp.refl _) ?_
      clear ho
      rintro ⟨o, m⟩ ⟨ho, hmn, hon⟩
      simp only at ho hmn hon ⊢
      have hex : ∀ j, o = some j → True := fun _ _ => trivial
      cases o with
      | none =>
        by_cases hm0 : m = 0
        · subst hm0
          exfalso
          have := nodup_le (l := List.range n) (m := S2) List.nodup_range (fun j hj => hon rfl j (Nat.zero_le _) (List.mem_range.1 hj))
          rw [List.length_range] at this; omega
        obtain ⟨m, rfl⟩ : ∃ m', m = m' + 1 := ⟨m - 1, by omega⟩
        rw [show (((m + 1 : Nat) : Int) - 1) = (m : Int) by omega]
        generalize hBY : cellsAt bY 0 (ys.map uv) = BY at hym ⊢
        have hmj := hym m (by omega)
        refine GOH ?_
        by_cases h4 : ys.getD m 0 = 0
        · rw [h4]
          refine GOH ?_
          exact ⟨(some m, m), ⟨fun j' h => by cases h; exact ⟨by omega, fun hs => hyne m hs h4⟩, by simp only; omega, fun h => by cases h⟩, by simp only; omega, by exact SUx, by exact IMx⟩
        · rw [show decide (((ys.getD m 0 : Nat) : Int) = 0) = false from decide_eq_false (by omega)]
          refine GOH ?_
          refine ⟨(none, m), ⟨fun j' h => (by cases h), by simp only; omega, fun _ j h1 h2 => ?_⟩, by simp only; omega, by exact SUx, by exact IMx⟩
          simp only at h1
          by_cases hj : j = m
          · subst hj
            by_cases hs : j ∈ S2
            · exact hs
            · exact absurd (hy0 j (by omega) hs) h4
          · exact hon rfl j (by omega) h2
      | some i =>
        have hi2 := ho i rfl
        rw [show oI (some i) = (i : Int) from rfl]
        by_cases hm0 : m = 0
        · subst hm0
          refine GOH ?_
          exact ⟨i, hi2, by exact SUx, by exact IMx⟩
        · rw [show ((m : Int) - 1) = ((m - 1 : Nat) : Int) by omega]
          refine GOH ?_
          rw [show decide ((i : Int) < 0) = false from decide_eq_false (by omega)]
          refine GOH ?_
          exact ⟨i, hi2, by exact SUx, by exact IMx⟩
  rw [show decide ((k : Int) < (n : Int)) = false from decide_eq_false (by omega)]
  obtain rfl : n = k := by omega
  have hall : ∀ j, j < n → j ∈ S2 := fun j hj => by
    by_cases h : j ∈ S2
    · exact h
    · have := nodup_le (l := j :: S2) (m := List.range n) (List.nodup_cons.2 ⟨h, hmb.nod⟩) (fun i hi => by
        rcases List.mem_cons.1 hi with rfl | hi
        · exact List.mem_range.2 hj
        · exact List.mem_range.2 (hSn i hi))
      rw [List.length_cons, List.length_range] at this; omega
  clear hkn hk hy0 hyne hmo hym hyg
  have hxsm : ∀ j, j < n → xs.getD j 0 < 18446744073709551616 := fun j hj => by
    have := tagO_three (hma.tag j (List.mem_range.2 hj)); omega
  have hxg : ∀ j, j < n → xs[j]? = some (xs.getD j 0) := fun j hj => by
    rw [List.getD_eq_getElem?_getD, List.getElem?_eq_getElem (by omega)]; rfl
  have hyg : ∀ j, j < n → ys[j]? = some (ys.getD j 0) := fun j hj => by
    rw [List.getD_eq_getElem?_getD, List.getElem?_eq_getElem (by omega)]; rfl
  have hxm : ∀ j, j < n → Atom.cell bx j (uv (xs.getD j 0)) ∈ cellsAt bx 0 (xs.map uv) := fun j hj => mem_u0 (hxg j hj)
  have hym : ∀ j, j < n → Atom.cell bY j (uv (ys.getD j 0)) ∈ cellsAt bY 0 (ys.map uv) := fun j hj => mem_u0 (hyg j hj)
  generalize hBX : cellsAt bx 0 (xs.map uv) = BX at hxm ⊢
  generalize hBY : cellsAt bY 0 (ys.map uv) = BY at hym ⊢
  clear hBX hBY hxg hyg
  have hma0 := hma.congr (bod' := bodP n ns 0 0) (fun i _ k _ => by unfold bodP; rw [if_neg (by omega)])
  have hmb0 := hmb.congr (bod' := bodP n ns 0 0) (fun i _ k _ => by unfold bodP; rw [if_neg (by omega)])
  clear hma hmb
  refine GOH ?_
  refine VC.loop (α := Nat × HW × HW) (Γf := fun s => [(0, .slice na ns.length nc), (5, .bool true), (6, vi n), (7, ptr0 p), (9, ptr0 q), (11, .slice (some ⟨bx, 0, none⟩) n n), (12, .slice (some ⟨bY, 0, none⟩) n n), (17, vi s.1)])
    (Hf := fun s => [HA p s.2.1, HA q s.2.2, BY, BX, S]) (I := fun s => s.1 ≤ n ∧ HOk s.2.1 ∧ HOk s.2.2 ∧ V.Mod s.2.1.a (List.range n) xs len (bodP n ns s.1 0) ∧ V.Mod s.2.2.a S2 ys len (bodP n ns s.1 0) ∧ s.2.1.a.noted.length ≤ s.1 * 8 ∧ s.2.2.a.noted.length ≤ s.1 * 8 ∧ s.2.1.a.stack = [] ∧ s.2.2.a.stack = []) (μ := fun s => n - s.1) (0, xa, xb)
    ⟨Nat.zero_le _, hxa, hxb, hma0, hmb0, by rw [hna.1]; exact Nat.le_refl _, by rw [hnb]; exact Nat.le_refl _, hna.2, hsb⟩ (by exact SUx) (by exact IMx) ?_
  clear hxa hxb hma0 hmb0 hna hnb hsb
  rintro ⟨i, xa, xb⟩ ⟨hi, hxa, hxb, hma, hmb, hna, hnb, hsa, hsb⟩
  simp only at hi hxa hxb hma hmb hna hnb hsa hsb ⊢
  refine GOH ?_
  by_cases hin2 : i < n
  · rw [show decide ((i : Int) < (n : Int)) = true from decide_eq_true (by omega)]
    obtain ⟨l, hl⟩ : ∃ l, ns[i]? = some l := ⟨_, List.getElem?_eq_getElem (by omega)⟩
    obtain ⟨nb, no, u, rfl, hmu, hu⟩ := hm i l hl
    obtain ⟨ua, uc, rfl, hul⟩ := hu
    have hleni : len i = min l.length 8 := by rw [hlen]; show min ((ns.getD i []).length) 8 = _; rw [List.getD_eq_getElem?_getD, hl]; rfl
    have hnsi : ns.getD i [] = l := by rw [List.getD_eq_getElem?_getD, hl]; rfl
    refine GOH ?_
    refine VC.loop (α := Nat × HW × HW) (Γf := fun s => [(0, .slice (some ⟨nb, no, none⟩) ns.length nc), (5, .bool true), (6, vi n), (7, ptr0 p), (9, ptr0 q), (11, .slice (some ⟨bx, 0, none⟩) n n), (12, .slice (some ⟨bY, 0, none⟩) n n), (17, vi i), (18, vi s.1)])
      (Hf := fun s => [HA p s.2.1, HA q s.2.2, BY, BX, S]) (I := fun s => s.1 ≤ len i ∧ HOk s.2.1 ∧ HOk s.2.2 ∧ V.Mod s.2.1.a (List.range n) xs len (bodP n ns i s.1) ∧ V.Mod s.2.2.a S2 ys len (bodP n ns i s.1) ∧ s.2.1.a.noted.length ≤ i * 8 + s.1 ∧ s.2.2.a.noted.length ≤ i * 8 + s.1 ∧ s.2.1.a.stack = [] ∧ s.2.2.a.stack = []) (μ := fun s => len i - s.1) (0, xa, xb)
      ⟨Nat.zero_le _, hxa, hxb, hma, hmb, hna, hnb, hsa, hsb⟩ (by exact SUx) (by exact IMx) ?_
    clear hxa hxb hma hmb hna hnb hsa hsb
    rintro ⟨k, xa, xb⟩ ⟨hk, hxa, hxb, hma, hmb, hna, hnb, hsa, hsb⟩
    simp only at hk hxa hxb hma hmb hna hnb hsa hsb ⊢
    refine GOH ?_
    by_cases hkl : k < len i
    · rw [show decide ((k : Int) < (l.length : Int)) = true from decide_eq_true (by omega)]
      refine GOH ?_
      rw [show decide ((k : Int) < 8) = true from decide_eq_true (by omega)]
      obtain ⟨w, hw⟩ : ∃ w, l[k]? = some w := ⟨_, List.getElem?_eq_getElem (by omega)⟩
      obtain ⟨ob, oo, rfl, hmw⟩ := hul k w hw
      refine GOH ?_
      refine st_remI (by rfl) (by rfl) (by omega) ?_
      have htm := tmod_lt w (n := n) (by omega)
      have hj := toN_lt w (n := n) (by omega)
      have hnw : (ns.getD i []).getD k 0 = w := by rw [hnsi, List.getD_eq_getElem?_getD, hw]; rfl
      refine GOHS ?_
      refine VC.join (α := Unit) (fun _ => [(0, .slice (some ⟨nb, no, none⟩) ns.length nc), (5, .bool true), (6, vi n), (7, ptr0 p), (9, ptr0 q), (11, .slice (some ⟨bx, 0, none⟩) n n), (12, .slice (some ⟨bY, 0, none⟩) n n), (17, vi i), (18, vi k), (19, vi (toN n w))]) (fun _ => [HA p xa, HA q xb, BY, BX, S]) (fun _ => True) ?_ (fun _ _ => ?_)
      · refine GOH ?_
        by_cases hneg : w.tmod n < 0
        · rw [decide_eq_true hneg]
          refine GOH ?_
          have e : IntKind.i64.wrap (0 - w.tmod n) = ((toN n w : Nat) : Int) := by
            rw [show 0 - w.tmod n = ((toN n w : Nat) : Int) by unfold toN; omega]
            exact wrapI (by omega)
          rw [e]
          exact ⟨(), trivial, by exact SUx, by exact IMx⟩
        · rw [decide_eq_false hneg]
          refine GOH ?_
          rw [show w.tmod n = ((toN n w : Nat) : Int) by unfold toN; omega]
          exact ⟨(), trivial, by exact SUx, by exact IMx⟩
      generalize hjw : toN n w = j at hj
      have hiR : i ∈ List.range n := List.mem_range.2 hin2
      have hjR : j ∈ List.range n := List.mem_range.2 hj
      obtain ⟨ba, hba, hfa, hpa, hda⟩ := hma.get i hiR
      obtain ⟨bb, hbb, hfb, hpb, hdb⟩ := hmb.get i (hall i hin2)
      obtain ⟨ca, hca, _⟩ := hma.get j hjR
      obtain ⟨cb, hcb, _⟩ := hmb.get j (hall j hj)
      have hmya : ba.many = len i := by unfold Ob.many; rw [hfa, if_neg (by decide), if_neg (by decide)]; exact congrArg Hd.slots hpa
      have hmyb : bb.many = len i := by unfold Ob.many; rw [hfb, if_neg (by decide), if_neg (by decide)]; exact congrArg Hd.slots hpb
      have hx1 := hxm i hin2
      have hx2 := hxm j hj
      have hy1 := hym i hin2
      have hy2 := hym j hj
      have hmod : ∀ (a : AH) (S0 zs : List Nat), V.Mod a S0 zs len (fun i' k' => if i' = i ∧ k' = k then some j else bodP n ns i k i' k') → V.Mod a S0 zs len (bodP n ns i (k + 1)) := fun a S0 zs h => h.congr (fun i' _ k' _ => by rw [bodP_step, hnw, hjw])
      refine GOH ?_
      refine st_call (setSlotN_spec p xa hxa (xs.getD i 0) ba hba (hxsm i hin2) k (xs.getD j 0) (by omega) (hxsm j hj) (by omega) (by unfold mayO; rw [hca]; simp) (by omega)) (by rfl) (by exact SPx) (fun v Post hv => ?_)
      obtain ⟨ya, ⟨rfl, hya, hyaa⟩, rfl⟩ := hv
      simp only [CNx]
      refine GOH ?_
      refine st_call (setSlotN_spec q xb hxb (ys.getD i 0) bb hbb (hysm i hin2) k (ys.getD j 0) (by omega) (hysm j hj) (by omega) (by unfold mayO; rw [hcb]; simp) (by omega)) (by rfl) (by exact SPx) (fun v Post hv => ?_)
      obtain ⟨yb, ⟨rfl, hyb, hyba⟩, rfl⟩ := hv
      simp only [CNx]
      refine GOH ?_
      obtain ⟨_, _, _, _, hn1, _, _, _, hs1⟩ := setA_obs xa.a ba k (xs.getD j 0)
      obtain ⟨_, _, _, _, hn2, _, _, _, hs2⟩ := setA_obs xb.a bb k (ys.getD j 0)
      refine ⟨(k + 1, ya, yb), ⟨hkl, hya, hyb, ?_, ?_, ?_, ?_, ?_, ?_⟩, by simp only; omega, by exact SUx, by exact IMx⟩
      · simp only [hyaa]; exact hmod _ _ _ (hma.slot hxa hiR hkl hjR hba)
      · simp only [hyba]; exact hmod _ _ _ (hmb.slot hxb (hall i hin2) hkl (hall j hj) hbb)
      · simp only [hyaa]; omega
      · simp only [hyba]; omega
      · simp only [hyaa]; exact hs1.trans hsa
      · simp only [hyba]; exact hs2.trans hsb
    · obtain rfl : k = len i := by omega
      have hfin : ∃ s' : Nat × HW × HW, (s'.1 ≤ n ∧ HOk s'.2.1 ∧ HOk s'.2.2 ∧ V.Mod s'.2.1.a (List.range n) xs len (bodP n ns s'.1 0) ∧ V.Mod s'.2.2.a S2 ys len (bodP n ns s'.1 0) ∧ s'.2.1.a.noted.length ≤ s'.1 * 8 ∧ s'.2.2.a.noted.length ≤ s'.1 * 8 ∧ s'.2.1.a.stack = [] ∧ s'.2.2.a.stack = []) ∧ s' = (i + 1, xa, xb) := by
        have h8 := hl8 i
        refine ⟨(i + 1, xa, xb), ⟨hin2, hxa, hxb, hma.congr (fun i' _ k' h => bodP_next _ _ _ _ _ _ (fun e => by rw [← e]; exact h)), hmb.congr (fun i' _ k' h => bodP_next _ _ _ _ _ _ (fun e => by rw [← e]; exact h)), by simp only; omega, by simp only; omega, hsa, hsb⟩, rfl⟩
      obtain ⟨s', hs', rfl⟩ := hfin
      by_cases hkl2 : len i < l.length
      · rw [show decide (((len i : Nat) : Int) < (l.length : Int)) = true from decide_eq_true (by omega)]
        refine GOH ?_
        rw [show decide (((len i : Nat) : Int) < 8) = false from decide_eq_false (by omega)]
        refine GOH ?_
        exact ⟨(i + 1, xa, xb), hs', by simp only; omega, by exact SUx, by exact IMx⟩
      · rw [show decide (((len i : Nat) : Int) < (l.length : Int)) = false from decide_eq_false (by omega)]
        refine GOH ?_
        exact ⟨(i + 1, xa, xb), hs', by simp only; omega, by exact SUx, by exact IMx⟩
  rw [show decide ((i : Int) < (n : Int)) = false from decide_eq_false (by omega)]
  obtain rfl : n = i := by omega
  clear hin2 hi hm
  refine GOHS ?_
  refine VC.join (α := HW × HW) (fun _ => [(5, .bool true), (7, ptr0 p), (9, ptr0 q)]) (fun z => [HA p z.1, HA q z.2, S]) (fun z => HOk z.1 ∧ HOk z.2 ∧ formA z.1.a = formA z.2.a) ?_ (fun z hz => ?_)
  · refine GOH ?_
    by_cases h0 : n = 0
    · subst h0
      rw [show decide ((0 : Int) < ((0 : Nat) : Int)) = false from rfl]
      refine GOH ?_
      refine ⟨(xa, xb), ⟨hxa, hxb, ?_⟩, by exact SUx, by exact IMx⟩
      have e1 := hma.form (st := []) (by rw [hsa]; rfl) (by simp)
      have e2 := hmb.form (st := []) (by rw [hsb]; rfl) (by simp)
      simp only
      rw [e1, e2, List.length_range, hS2]
    · rw [show decide ((0 : Int) < (n : Int)) = true from decide_eq_true (by omega)]
      have hn1 : n - 1 < n := by omega
      have hx1 := hxm (n - 1) hn1
      have hy1 := hym (n - 1) hn1
      obtain ⟨ca, hca, _⟩ := hma.get (n - 1) (List.mem_range.2 hn1)
      obtain ⟨cb, hcb, _⟩ := hmb.get (n - 1) (hall (n - 1) hn1)
      obtain ⟨m, hm1⟩ : ∃ m, m = n - 1 := ⟨_, rfl⟩
      have hnm : n = m + 1 := by omega
      rw [← hm1] at hx1 hy1 hca hcb
      have e1 : ((n : Int) - 1) = (m : Int) := by omega
      refine GOH ?_
      rw [e1]
      refine GOH ?_
      refine st_call (push_spec p xa hxa (xs.getD m 0) (hxsm m (by omega)) (by unfold mayO; rw [hca]; simp) (by rw [hsa]; decide)) (by rfl) (by exact SPx) (fun v Post hv => ?_)
      obtain ⟨ya, ⟨rfl, hya, hyaa⟩, rfl⟩ := hv
      simp only [CNx]
      refine GOH ?_
      rw [e1]
      refine GOH ?_
      refine st_call (push_spec q xb hxb (ys.getD m 0) (hysm m (by omega)) (by unfold mayO; rw [hcb]; simp) (by rw [hsb]; decide)) (by rfl) (by exact SPx) (fun v Post hv => ?_)
      obtain ⟨yb, ⟨rfl, hyb, hyba⟩, rfl⟩ := hv
      simp only [CNx]
      refine GOH ?_
      refine ⟨(ya, yb), ⟨hya, hyb, ?_⟩, by exact SUx, by exact IMx⟩
      have ma : V.Mod ya.a (List.range n) xs len (bodP n ns n 0) := by rw [hyaa]; exact ⟨hma.cnt, hma.nod, hma.inj, hma.tag, hma.get, hma.bod, hma.zero, hma.sp, hma.cl, hma.que⟩
      have mb : V.Mod yb.a S2 ys len (bodP n ns n 0) := by rw [hyba]; exact ⟨hmb.cnt, hmb.nod, hmb.inj, hmb.tag, hmb.get, hmb.bod, hmb.zero, hmb.sp, hmb.cl, hmb.que⟩
      have e3 := ma.form (st := [m]) (by rw [hyaa, hsa]; rfl) (fun j hj => by rw [List.mem_singleton.1 hj]; exact List.mem_range.2 (by omega))
      have e4 := mb.form (st := [m]) (by rw [hyba, hsb]; rfl) (fun j hj => by rw [List.mem_singleton.1 hj]; exact hall m (by omega))
      simp only
      rw [e3, e4, List.length_range, hS2]
  obtain ⟨za, zb⟩ := z
  obtain ⟨hza, hzb, hform⟩ := hz
  simp only at hza hzb hform ⊢
  clear hma hmb hna hnb hxa hxb hsa hsb hxm hym
  refine GOH ?_
  refine st_call (form_spec p za hza) (by rfl) (by exact SPx) (fun v Post hv => ?_)
  obtain ⟨s1, hs1, rfl⟩ := hv
  simp only [CNx]
  refine GOH ?_
  refine st_call (form_spec q zb hzb) (by rfl) (by exact SPx) (fun w Post hv => ?_)
  obtain ⟨s2, hs2, rfl⟩ := hv
  simp only [CNx]
  refine GOH ?_
  refine st_call (sameN_spec _ _ v w _ _ hs1.rdU hs2.rdU (formA_len hza)) (by rfl) (by exact SPx) (fun u Post hv => ?_)
  obtain ⟨rfl, rfl⟩ := hv
  simp only [CNx]
  rw [decide_eq_true hform]
  refine GOH ?_
  refine st_call (same_spec p q za zb hza hzb) (by rfl) (by exact SPx) (fun u Post hv => ?_)
  obtain ⟨rfl, rfl⟩ := hv
  simp only [CNx]
  rw [decide_eq_true hform]
  refine GOH ?_
  exact endQ_mk (.inr rfl) (.tmp (by rfl) .nil) ⟨rfl, rfl⟩ (by exact IMx)
end Go.Proofs.YtmlnoodopoaafaaDoor

/-
  Regions that draw their order, op by op: what is looked at is not changed by the others.
-/
import Derived.Test.YtmnmandpdadedaaGreatDoorV14
set_option linter.unusedSimpArgs false
set_option linter.unusedVariables false
namespace Go.V
open Go
section
variable {P : Program} {n : Nat}
def Holds (dst : Nat → Option Nat) (vv : Nat → Value × List Atom) (done : List Nat) (Γ : Env) : Prop := ∀ i ∈ done, ∀ t, dst i = some t → look Γ t = some (vv i).1
def Kept (Γ0 : Env) (ds : List Nat) (Γ : Env) : Prop := ∀ t v, look Γ0 t = some v → t ∉ ds → look Γ t = some v
theorem run_free {X : Nat → RO × Oper} {G : Nat → Value → List Atom → Prop} {base : SH} {Γ0 : Env} {ds : List Nat} {an : Nat → List Nat} (li : List Nat) (hn : li.Nodup) (hlow : ∀ i ∈ li, LowAll P n [(X i).1] [X i])
    (hds : ∀ i ∈ li, ∀ t, (X i).1.dst = some t → t ∈ ds) (hdd : ∀ i ∈ li, ∀ j ∈ li, ∀ t, (X i).1.dst = some t → (X j).1.dst = some t → i = j)
    (hbef : ∀ l1 i l2, li = l1 ++ i :: l2 → ∀ j ∈ an i, j ∈ l1)
    (step : ∀ i ∈ li, ∀ (vv : Nat → Value × List Atom), (∀ j ∈ an i, G j (vv j).1 (vv j).2) → ∀ Γ, Holds (fun j => (X j).1.dst) vv (an i) Γ → Kept Γ0 ds Γ →
      VO P n [(X i).1] Γ base (fun _ _ _ => False) (fun Γ' H' => ∃ v B, Γ' = putE (X i).1.dst v Γ ∧ G i v B ∧ Imp H' (B :: base)))
    {F : List Atom} {ZZ : Exit → Act → World → Prop} {Q : Act → World → Prop} {rest : List (RO × Oper)} {a0 : Act} {w0 : World}
    (hq : ∀ (vv : Nat → Value × List Atom) a' w' Γ', (∀ i ∈ li, G i (vv i).1 (vv i).2) → Holds (fun j => (X j).1.dst) vv li Γ' → Kept Γ0 ds Γ' → Agree n Γ' a' → a'.defers = a0.defers → Sat w' ((li.flatMap fun i => (vv i).2) ++ (base.flatten ++ F)) → Keeps w0 w' → wpR P ZZ Q rest a' w') :
    ∀ (l2 l1 : List Nat), li = l1 ++ l2 → ∀ (vv : Nat → Value × List Atom) Γ a w, (∀ i ∈ l1, G i (vv i).1 (vv i).2) → Holds (fun j => (X j).1.dst) vv l1 Γ → Kept Γ0 ds Γ → Agree n Γ a → a.defers = a0.defers → Sat w ((l1.flatMap fun i => (vv i).2) ++ (base.flatten ++ F)) → Keeps w0 w → wpR P ZZ Q (l2.map X ++ rest) a w := by
  intro l2
  induction l2 with
  | nil =>
    intro l1 hl vv Γ a w hg hh hk ha hd hs hkw
    rw [List.append_nil] at hl
    subst hl
    exact hq vv a w Γ hg hh hk ha hd hs hkw
  | cons i l2 ih =>
    intro l1 hl vv Γ a w hg hh hk ha hd hs hkw
    have hi : i ∈ li := by rw [hl]; simp
    have hb := hbef l1 i l2 hl
    have st := step i hi vv (fun j hj => hg j (hb j hj)) Γ (fun j hj => hh j (hb j hj)) hk
    have hs' : Sat w (base.flatten ++ ((l1.flatMap fun i => (vv i).2) ++ F)) := hs.perm (by
      rw [← List.append_assoc, ← List.append_assoc]
      exact List.perm_append_comm.append_right F)
    have hil : i ∉ l1 := by
      rw [hl] at hn
      intro h
      exact (List.nodup_append.1 hn).2.2 i h i (by simp) rfl
    refine st [X i] (hlow i hi) a w ((l1.flatMap fun i => (vv i).2) ++ F) ZZ (wpR P ZZ Q (l2.map X ++ rest)) ha hs' (fun a' w' Γ' H' ⟨v, B, k1, k2, k3⟩ g1 g2 g3 g4 => ?_) (fun _ _ _ _ _ k => k.elim)
    subst k1
    have hvv : ∀ j ∈ l1, (if j = i then (v, B) else vv j) = vv j := fun j hj => if_neg (fun e : j = i => hil (e ▸ hj))
    refine ih (l1 ++ [i]) (by rw [hl]; simp) (fun j => if j = i then (v, B) else vv j) _ a' w' (fun j hj => ?_) (fun j hj t ht => ?_) (fun t u hu hnd => ?_) g1 (g2.trans hd) ?_ (hkw.trans g4)
    · rcases List.mem_append.1 hj with h | h
      · simp only [hvv j h]; exact hg j h
      · rw [List.mem_singleton.1 h]; simp only [if_true]; exact k2
    · rcases List.mem_append.1 hj with h | h
      · have hji : j ≠ i := fun e => hil (e ▸ h)
        have hj2 : j ∈ li := by rw [hl]; simp [h]
        simp only [hvv j h]
        cases hd2 : (X i).1.dst with
        | none => exact hh j h t ht
        | some s =>
          have : s ≠ t := fun e => hji (hdd j hj2 i hi t ht (by rw [hd2, e]))
          simp only [putE, look, if_neg this]
          exact hh j h t ht
      · rw [List.mem_singleton.1 h] at ht ⊢
        simp only [if_true]
        simp only [ht, putE, look, if_true]
    · cases hd2 : (X i).1.dst with
      | none => exact hk t u hu hnd
      | some s =>
        have : s ≠ t := fun e => hnd (e ▸ hds i hi s hd2)
        simp only [putE, look, if_neg this]
        exact hk t u hu hnd
    · have g5 := g3.imp k3
      have e : ((l1 ++ [i]).flatMap fun j => (if j = i then (v, B) else vv j).2) = (l1.flatMap fun i => (vv i).2) ++ B := by
        rw [List.flatMap_append]
        congr 1
        · rw [List.flatMap_def, List.flatMap_def]
          congr 1
          exact List.map_congr_left fun j hj => by rw [hvv j hj]
        · simp
      rw [e]
      refine g5.perm ?_
      simp only [List.flatten_cons, List.append_assoc]
      have p1 : (B ++ (base.flatten ++ ((l1.flatMap fun i => (vv i).2) ++ F))).Perm (B ++ ((l1.flatMap fun i => (vv i).2) ++ (base.flatten ++ F))) := by
        refine List.Perm.append_left _ ?_
        rw [← List.append_assoc, ← List.append_assoc]
        exact List.perm_append_comm.append_right F
      refine p1.trans ?_
      rw [← List.append_assoc, ← List.append_assoc (l1.flatMap _)]
      exact List.perm_append_comm.append_right _
def tailB (an : List (List Nat)) (k n : Nat) : Bool := (List.range n).all fun i => decide (i < k) || (List.range i).all fun j => (an.getD i []).contains j
def dstsB (rs : List RO) (k : Nat) : Bool := nodupN ((rs.take k).filterMap fun r => r.dst)
  where nodupN : List Nat → Bool
    | [] => true
    | x :: r => !r.contains x && nodupN r
theorem nodupN_spec : ∀ {l : List Nat}, dstsB.nodupN l = true → l.Nodup := by
  intro l
  induction l with
  | nil => intro _; exact .nil
  | cons x r ih =>
    intro h
    simp only [dstsB.nodupN, Bool.and_eq_true, Bool.not_eq_true', List.contains_eq_mem, decide_eq_false_iff_not] at h
    exact List.nodup_cons.2 ⟨h.1, ih h.2⟩
theorem dst_inj : ∀ {rs : List RO} {k : Nat}, ((rs.take k).filterMap fun r => r.dst).Nodup → ∀ {i j t : Nat}, i < k → j < k → i < rs.length → j < rs.length → (rs.getD i default).dst = some t → (rs.getD j default).dst = some t → i = j := by
  intro rs
  induction rs with
  | nil => intro k _ i j t _ _ hi; simp at hi
  | cons r rs ih =>
    intro k h i j t hi hj hli hlj h1 h2
    cases k with
    | zero => omega
    | succ k =>
      simp only [List.take_succ_cons, List.filterMap_cons] at h
      have hmem : ∀ {m : Nat}, m < k → m < rs.length → (rs.getD m default).dst = some t → t ∈ (rs.take k).filterMap fun r => r.dst := fun {m} hm hlm hd => by
        refine List.mem_filterMap.2 ⟨rs.getD m default, ?_, hd⟩
        rw [List.getD_eq_getElem?_getD, List.getElem?_eq_getElem hlm, Option.getD_some]
        exact List.mem_take_iff_getElem.2 ⟨m, by omega, rfl⟩
      have hrest : ((rs.take k).filterMap fun r => r.dst).Nodup := by
        cases hr : r.dst with
        | none => rw [hr] at h; exact h
        | some d => rw [hr] at h; exact (List.nodup_cons.1 h).2
      cases i with
      | zero =>
        cases j with
        | zero => rfl
        | succ j =>
          simp only [List.getD_cons_zero, List.getD_cons_succ] at h1 h2
          rw [h1] at h
          exact absurd (hmem (by omega) (by simpa using hlj) h2) (List.nodup_cons.1 h).1
      | succ i =>
        cases j with
        | zero =>
          simp only [List.getD_cons_zero, List.getD_cons_succ] at h1 h2
          rw [h2] at h
          exact absurd (hmem (by omega) (by simpa using hli) h1) (List.nodup_cons.1 h).1
        | succ j =>
          simp only [List.getD_cons_succ] at h1 h2
          rw [ih hrest (by omega) (by omega) (by simpa using hli) (by simpa using hlj) h1 h2]
theorem VC.free {Γ : Env} {base : SH} {Q : Exit → Env → SH → Prop} {rs : List RO} {an : List (List Nat)} {keep : List Nat} (k : Nat) (G : Nat → Value → List Atom → Prop) (hk : k ≤ rs.length) (htail : tailB an k rs.length = true) (hdst : dstsB rs k = true)
    (step : ∀ i, i < k → ∀ (vv : Nat → Value × List Atom), (∀ j ∈ an.getD i [], G j (vv j).1 (vv j).2) → ∀ Γ', Holds (fun j => (rs.getD j default).dst) vv (an.getD i []) Γ' → Kept Γ ((rs.take k).filterMap fun r => r.dst) Γ' →
      VO P n [rs.getD i default] Γ' base (fun _ _ _ => False) (fun Γ2 H' => ∃ v B, Γ2 = putE (rs.getD i default).dst v Γ' ∧ G i v B ∧ Imp H' (B :: base)))
    (fin : ∀ (vv : Nat → Value × List Atom), (∀ i, i < k → G i (vv i).1 (vv i).2) → ∀ Γ', Holds (fun j => (rs.getD j default).dst) vv (List.range k) Γ' → Kept Γ ((rs.take k).filterMap fun r => r.dst) Γ' →
      VO P n (rs.drop k) Γ' (((List.range k).map fun i => (vv i).2) ++ base) (fun ch _ H' => Q (.panic ch) [] H') (fun Γ2 H' => Q .normal (restr keep Γ2) H')) : VC P n (.free rs an keep) Γ base Q := by
  intro ρ kp od code hl a w F QQ hr ha hs hh
  obtain ⟨id, ops, rfl, h1, hm, hb, rfl, rfl⟩ := lowC_inv hl
  have hlen := (lowList_length h1).1
  refine wpIn_region_draw (fun t => ?_)
  have hsched : Region.schedule (P.follows .mixedOrders) ops t = sched ops ops.size t (Array.replicate ops.size false) := by simp [Region.schedule, hm, Region.linearise, sched]
  rw [hsched]
  have hu : unl ops (Array.replicate ops.size false) = List.range ops.size := by
    simp only [unl]
    refine List.filter_eq_self.2 (fun i hi => ?_)
    have := List.mem_range.1 hi
    simp [this]
  obtain ⟨s1, s2, _⟩ := sched_spec hb ops.size t (Array.replicate ops.size false) (by simp) (by rw [hu]; simp)
  have hbefA : ∀ {x y : Nat}, y < ops.size → x ∈ (ancs ops).getD y [] → Bef (sched ops ops.size t (Array.replicate ops.size false)) x y := fun hy hx => anc_bef hb (Nat.le_refl _) (ancs_sound hx) hy
  generalize hl : sched ops ops.size t (Array.replicate ops.size false) = l at *
  have hmem : ∀ i, i ∈ l ↔ i < ops.size := fun i => by rw [s2, hu]; simp
  have hX : ∀ i, i < ops.size → ops[i]? = some ((rs.zip ops.toList).getD i default).2 ∧ ((rs.zip ops.toList).getD i default).1 = rs.getD i default ∧ lowRO P n ops ((rs.zip ops.toList).getD i default).2 = some ((rs.zip ops.toList).getD i default).1 := fun i hi => zip_getD h1 hi
  have hro : rs.length = ops.size := by simpa using hlen
  have htl : ∀ i, k ≤ i → i < rs.length → ∀ j, j < i → j ∈ (ancs ops).getD i [] := fun i hki hi j hj => by
    have := List.all_eq_true.1 htail i (List.mem_range.2 hi)
    simp only [Bool.or_eq_true, decide_eq_true_eq] at this
    rcases this with h | h
    · omega
    · have := List.all_eq_true.1 h j (List.mem_range.2 hj)
      exact List.contains_iff_mem.1 this
  have hsplit : l.filter (fun i => decide (i < k)) ++ List.range' k (rs.length - k) = l := by
    refine eq_of_order ?_ s1 ?_
    · refine (List.perm_ext_iff_of_nodup ?_ s1).2 (fun x => ?_)
      · refine List.nodup_append.2 ⟨s1.filter _, List.nodup_range', fun x hx y hy e => ?_⟩
        have h1 := (List.mem_filter.1 hx).2
        have h2 := List.mem_range'_1.1 hy
        simp only [decide_eq_true_eq] at h1
        omega
      · simp only [List.mem_append, List.mem_filter, hmem, List.mem_range'_1, decide_eq_true_eq]
        omega
    · refine List.pairwise_append.2 ⟨List.pairwise_iff_forall_sublist.2 fun h => h.trans List.filter_sublist, ?_, ?_⟩
      · refine (List.pairwise_lt_range' (s := k) (n := rs.length - k) (step := 1)).imp_of_mem ?_
        intro x y hx hy hxy
        have h1 := List.mem_range'_1.1 hx
        have h2 := List.mem_range'_1.1 hy
        exact (hbefA (by omega) (htl y (by omega) (by omega) x hxy)).sub
      · intro x hx y hy
        have h1 := (List.mem_filter.1 hx).2
        have h2 := List.mem_range'_1.1 hy
        simp only [decide_eq_true_eq] at h1
        exact (hbefA (by omega) (htl y (by omega) (by omega) x (by omega))).sub
  generalize hli : l.filter (fun i => decide (i < k)) = li at hsplit
  have hlim : ∀ i, i ∈ li ↔ i < k := fun i => by
    rw [← hli, List.mem_filter, hmem, decide_eq_true_eq]; omega
  have hlin : li.Nodup := hli ▸ s1.filter _
  refine wpR_sound (P := P) (ρ := ρ) (n := n) (ops := ops) (X := fun i => (rs.zip ops.toList).getD i default) (QQ := QQ) (fun i hi => ⟨(hX i hi).1, (hX i hi).2.2⟩) _ a _ (fun i hi => (hmem i).1 hi) ?_
  rw [← hsplit, List.map_append]
  have hXi : ∀ i, i < k → ((rs.zip ops.toList).getD i default).1 = rs.getD i default := fun i hi => (hX i (by omega)).2.1
  have hnd := nodupN_spec hdst
  refine run_free (X := fun i => (rs.zip ops.toList).getD i default) (G := G) (base := base) (Γ0 := Γ) (ds := (rs.take k).filterMap fun r => r.dst) (an := fun i => (ancs ops).getD i []) li hlin (fun i hi => ?_) (fun i hi t ht => ?_) (fun i hi j hj t ht1 ht2 => ?_) ?_ ?_ (F := F) (a0 := a) (w0 := { w with drawn := w.drawn + 1 }) ?_ li [] rfl (fun _ => (undef, [])) Γ a _ (fun i hi => by cases hi) (fun i hi => by cases hi) (fun t v h _ => h) ha rfl (by simp only [List.flatMap_nil, List.nil_append]; exact hs.drawn _) (.refl _)
  · have hi' := (hlim i).1 hi
    exact ⟨rfl, fun x hx => by rw [List.mem_singleton.1 hx]; exact ⟨ops, (hX i (by omega)).2.2⟩⟩
  · have hi' := (hlim i).1 hi
    simp only [hXi i hi'] at ht
    refine List.mem_filterMap.2 ⟨rs.getD i default, ?_, ht⟩
    rw [List.getD_eq_getElem?_getD, List.getElem?_eq_getElem (by omega), Option.getD_some]
    exact List.mem_take_iff_getElem.2 ⟨i, by omega, rfl⟩
  · have hi' := (hlim i).1 hi
    have hj' := (hlim j).1 hj
    simp only [hXi i hi', hXi j hj'] at ht1 ht2
    exact dst_inj hnd hi' hj' (by omega) (by omega) ht1 ht2
  · intro l1 i l2 e j hj
    have hi : i < k := (hlim i).1 (by rw [e]; simp)
    have hb2 := hbefA (by omega) hj
    rw [← hsplit, e] at hb2
    have hnn : (l1 ++ i :: l2 ++ List.range' k (rs.length - k)).Nodup := by rw [← e, hsplit]; exact s1
    have hij := hb2.2.2
    rw [List.append_assoc, List.idxOf_append (l₁ := l1), List.idxOf_append (l₁ := l1)] at hij
    by_cases hjl : j ∈ l1
    · exact hjl
    · rw [if_neg hjl] at hij
      have hil : i ∉ l1 := by
        rw [List.append_assoc] at hnn
        intro h
        exact (List.nodup_append.1 hnn).2.2 i h i (by simp) rfl
      rw [if_neg hil] at hij
      rw [List.cons_append, List.idxOf_cons_self] at hij
      omega
  · intro i hi vv hg Γ' hh hkk
    have hi' := (hlim i).1 hi
    have e := hXi i hi'
    show VO P n [((rs.zip ops.toList).getD i default).1] _ _ _ _
    rw [e]
    have hanlt : ∀ j ∈ (ancs ops).getD i [], j < k ∨ True := fun _ _ => .inr trivial
    refine (step i hi' vv hg Γ' (fun j hj t ht => ?_) hkk)
    refine hh j hj t ?_
    have hjm : j < ops.size := (hmem j).1 (hbefA (by omega) hj).1
    show ((rs.zip ops.toList).getD j default).1.dst = some t
    rw [(hX j hjm).2.1]; exact ht
  · intro vv a' w' Γ' hg hhold hkk ha' hd' hs' hkw
    have hf := fin vv (fun i hi => hg i ((hlim i).2 hi)) Γ' (fun j hj t ht => by
      have hj' := List.mem_range.1 hj
      refine hhold j ((hlim j).2 hj') t ?_
      show ((rs.zip ops.toList).getD j default).1.dst = some t
      rw [hXi j hj']; exact ht) hkk
    have hlow : LowAll P n (rs.drop k) ((List.range' k (rs.length - k)).map fun i => (rs.zip ops.toList).getD i default) := by
      refine ⟨?_, fun x hx => ?_⟩
      · rw [List.map_map]
        apply List.ext_getElem?
        intro i
        simp only [List.getElem?_drop, List.getElem?_map]
        by_cases hi : i < rs.length - k
        · rw [List.getElem?_range' hi]
          simp only [Option.map_some, Function.comp]
          rw [(hX (k + 1 * i) (by omega)).2.1, Nat.one_mul, List.getD_eq_getElem?_getD, List.getElem?_eq_getElem (by omega), Option.getD_some]
        · rw [List.getElem?_eq_none (by simpa using hi), List.getElem?_eq_none (by omega)]; rfl
      · obtain ⟨i, hi, rfl⟩ := List.mem_map.1 hx
        have := List.mem_range'_1.1 hi
        exact ⟨ops, (hX i (by omega)).2.2⟩
    have hperm : (li.flatMap fun i => (vv i).2).Perm ((List.range k).map fun i => (vv i).2).flatten := by
      rw [← List.flatMap_def]
      refine List.Perm.flatMap_right _ ?_
      refine (List.perm_ext_iff_of_nodup hlin List.nodup_range).2 (fun x => ?_)
      rw [hlim, List.mem_range]
    have hs2 : Sat w' ((((List.range k).map fun i => (vv i).2) ++ base).flatten ++ F) := hs'.perm (by
      rw [List.flatten_append, List.append_assoc]
      exact hperm.append_right _)
    refine hf _ hlow a' w' F QQ (QQ .normal) ha' hs2 (fun a2 w2 Γ2 H2 q2 k1 k2 k3 k4 => ?_) (fun ch a2 w2 Γ2 H2 q2 k1 k2 k3 k4 => ?_)
    · exact hh _ a2 w2 _ H2 [] q2 ⟨k1.size, fun t v e => k1.slots t v (sub_restr _ _ t v e)⟩ (k2.trans hd') k3.nomarks (((Keeps.refl w).drawn _).trans (hkw.trans k4))
    · exact hh _ a2 w2 [] H2 [] q2 ⟨k1.size, fun t v e => by cases e⟩ (k2.trans hd') k3.nomarks (((Keeps.refl w).drawn _).trans (hkw.trans k4))
end
end Go.V

/-
  Regions that draw their order, op by op: what is looked at is not changed by the others.
-/
import Derived.Test.YtmnmandpdadedaaGreatDoorV11
import Derived.Test.YtmnmandpdadedaaGreatDoorV10
import Derived.Test.YtmnmandpdadedaaGreatDoorV9
import Derived.Test.YtmnmandpdadedaaGreatDoorV7
import Derived.Test.YtmnmandpdadedaaGreatDoorV6
set_option linter.unusedSimpArgs false
set_option linter.unusedVariables false
namespace Go.V
open Go
section
variable {P : Program} {n : Nat}
def Holds (dst : Nat → Option Nat) (vv : Nat → Value × List Atom) (done : List Nat) (Γ : Env) : Prop := ∀ i ∈ done, ∀ t, dst i = some t → look Γ t = some (vv i).1
def KeptE (Γ0 : Env) (ds : List Nat) (Γ : Env) : Prop := ∀ t v, look Γ0 t = some v → t ∉ ds → look Γ t = some v
theorem run_free {X : Nat → RO × Oper} {G : Nat → Value → List Atom → Prop} {base : SH} {Γ0 : Env} {ds : List Nat} {an : Nat → List Nat} (li : List Nat) (hn : li.Nodup) (hlow : ∀ i ∈ li, LowAll P n [(X i).1] [X i])
    (hds : ∀ i ∈ li, ∀ t, (X i).1.dst = some t → t ∈ ds) (hdd : ∀ i ∈ li, ∀ j ∈ li, ∀ t, (X i).1.dst = some t → (X j).1.dst = some t → i = j)
    (hbef : ∀ l1 i l2, li = l1 ++ i :: l2 → ∀ j ∈ an i, j ∈ l1)
    (step : ∀ i ∈ li, ∀ (vv : Nat → Value × List Atom), (∀ j ∈ an i, G j (vv j).1 (vv j).2) → ∀ Γ, Holds (fun j => (X j).1.dst) vv (an i) Γ → KeptE Γ0 ds Γ →
      VO P n [(X i).1] Γ base (fun _ _ _ => False) (fun Γ' H' => ∃ v B, Γ' = putE (X i).1.dst v Γ ∧ G i v B ∧ Imp H' (B :: base)))
    {F : List Atom} {ZZ : Exit → Act → World → Prop} {Q : Act → World → Prop} {rest : List (RO × Oper)} {a0 : Act} {w0 : World}
    (hq : ∀ (vv : Nat → Value × List Atom) a' w' Γ', (∀ i ∈ li, G i (vv i).1 (vv i).2) → Holds (fun j => (X j).1.dst) vv li Γ' → KeptE Γ0 ds Γ' → Agree n Γ' a' → a'.defers = a0.defers → Sat w' ((li.flatMap fun i => (vv i).2) ++ (base.flatten ++ F)) → Keeps w0 w' → wpR P ZZ Q rest a' w') :
    ∀ (l2 l1 : List Nat), li = l1 ++ l2 → ∀ (vv : Nat → Value × List Atom) Γ a w, (∀ i ∈ l1, G i (vv i).1 (vv i).2) → Holds (fun j => (X j).1.dst) vv l1 Γ → KeptE Γ0 ds Γ → Agree n Γ a → a.defers = a0.defers → Sat w ((l1.flatMap fun i => (vv i).2) ++ (base.flatten ++ F)) → Keeps w0 w → wpR P ZZ Q (l2.map X ++ rest) a w := by
  intro l2
  induction l2 with
  | nil =>
    intro l1 hl vv Γ a w hg hh hk ha hd hs hkw
    rw [List.append_nil] at hl
    subst hl
    exact hq vv a w Γ hg hh hk ha hd hs hkw
  | cons i l2 ih =>
    intro l1 hl vv Γ a w hg hh hk ha hd hs hkw
    have hi : i ∈ li := by rw [hl]; simp
    have hb := hbef l1 i l2 hl
    have st := step i hi vv (fun j hj => hg j (hb j hj)) Γ (fun j hj => hh j (hb j hj)) hk
    have hs' : Sat w (base.flatten ++ ((l1.flatMap fun i => (vv i).2) ++ F)) := hs.perm (by
      rw [← List.append_assoc, ← List.append_assoc]
      exact List.perm_append_comm.append_right F)
    have hil : i ∉ l1 := by
      rw [hl] at hn
      intro h
      exact (List.nodup_append.1 hn).2.2 i h i (by simp) rfl
    refine st [X i] (hlow i hi) a w ((l1.flatMap fun i => (vv i).2) ++ F) ZZ (wpR P ZZ Q (l2.map X ++ rest)) ha hs' (fun a' w' Γ' H' ⟨v, B, k1, k2, k3⟩ g1 g2 g3 g4 => ?_) (fun _ _ _ _ _ k => k.elim)
    subst k1
    have hvv : ∀ j ∈ l1, (if j = i then (v, B) else vv j) = vv j := fun j hj => if_neg (fun e : j = i => hil (e ▸ hj))
    refine ih (l1 ++ [i]) (by rw [hl]; simp) (fun j => if j = i then (v, B) else vv j) _ a' w' (fun j hj => ?_) (fun j hj t ht => ?_) (fun t u hu hnd => ?_) g1 (g2.trans hd) ?_ (hkw.trans g4)
    · rcases List.mem_append.1 hj with h | h
      · simp only [hvv j h]; exact hg j h
      · rw [List.mem_singleton.1 h]; simp only [if_true]; exact k2
    · rcases List.mem_append.1 hj with h | h
      · have hji : j ≠ i := fun e => hil (e ▸ h)
        have hj2 : j ∈ li := by rw [hl]; simp [h]
        simp only [hvv j h]
        cases hd2 : (X i).1.dst with
        | none => exact hh j h t ht
        | some s =>
          have : s ≠ t := fun e => hji (hdd j hj2 i hi t ht (by rw [hd2, e]))
          simp only [putE, look, if_neg this]
          exact hh j h t ht
      · rw [List.mem_singleton.1 h] at ht ⊢
        simp only [if_true]
        simp only [ht, putE, look, if_true]
    · cases hd2 : (X i).1.dst with
      | none => exact hk t u hu hnd
      | some s =>
        have : s ≠ t := fun e => hnd (e ▸ hds i hi s hd2)
        simp only [putE, look, if_neg this]
        exact hk t u hu hnd
    · have g5 := g3.imp k3
      have e : ((l1 ++ [i]).flatMap fun j => (if j = i then (v, B) else vv j).2) = (l1.flatMap fun i => (vv i).2) ++ B := by
        rw [List.flatMap_append]
        congr 1
        · rw [List.flatMap_def, List.flatMap_def]
          congr 1
          exact List.map_congr_left fun j hj => by rw [hvv j hj]
        · simp
      rw [e]
      refine g5.perm ?_
      simp only [List.flatten_cons, List.append_assoc]
      have p1 : (B ++ (base.flatten ++ ((l1.flatMap fun i => (vv i).2) ++ F))).Perm (B ++ ((l1.flatMap fun i => (vv i).2) ++ (base.flatten ++ F))) := by
        refine List.Perm.append_left _ ?_
        rw [← List.append_assoc, ← List.append_assoc]
        exact List.perm_append_comm.append_right F
      refine p1.trans ?_
      rw [← List.append_assoc, ← List.append_assoc (l1.flatMap _)]
      exact List.perm_append_comm.append_right _
def tailB (an : List (List Nat)) (k n : Nat) : Bool := (List.range n).all fun i => decide (i < k) || (List.range i).all fun j => (an.getD i []).contains j
def dstsB (rs : List RO) (k : Nat) : Bool := nodupN ((rs.take k).filterMap fun r => r.dst)
  where nodupN : List Nat → Bool
    | [] => true
    | x :: r => !r.contains x && nodupN r
theorem nodupN_spec : ∀ {l : List Nat}, dstsB.nodupN l = true → l.Nodup := by
  intro l
  induction l with
  | nil => intro _; exact .nil
  | cons x r ih =>
    intro h
    simp only [dstsB.nodupN, Bool.and_eq_true, Bool.not_eq_true', List.contains_eq_mem, decide_eq_false_iff_not] at h
    exact List.nodup_cons.2 ⟨h.1, ih h.2⟩
theorem dst_inj : ∀ {rs : List RO} {k : Nat}, ((rs.take k).filterMap fun r => r.dst).Nodup → ∀ {i j t : Nat}, i < k → j < k → i < rs.length → j < rs.length → (rs.getD i default).dst = some t → (rs.getD j default).dst = some t → i = j := by
  intro rs
  induction rs with
  | nil => intro k _ i j t _ _ hi; simp at hi
  | cons r rs ih =>
    intro k h i j t hi hj hli hlj h1 h2
    cases k with
    | zero => omega
    | succ k =>
      simp only [List.take_succ_cons, List.filterMap_cons] at h
      have hmem : ∀ {m : Nat}, m < k → m < rs.length → (rs.getD m default).dst = some t → t ∈ (rs.take k).filterMap fun r => r.dst := fun {m} hm hlm hd => by
        refine List.mem_filterMap.2 ⟨rs.getD m default, ?_, hd⟩
        rw [List.getD_eq_getElem?_getD, List.getElem?_eq_getElem hlm, Option.getD_some]
        exact List.mem_take_iff_getElem.2 ⟨m, by omega, rfl⟩
      have hrest : ((rs.take k).filterMap fun r => r.dst).Nodup := by
        cases hr : r.dst with
        | none => rw [hr] at h; exact h
        | some d => rw [hr] at h; exact (List.nodup_cons.1 h).2
      cases i with
      | zero =>
        cases j with
        | zero => rfl
        | succ j =>
          simp only [List.getD_cons_zero, List.getD_cons_succ] at h1 h2
          rw [h1] at h
          exact absurd (hmem (by omega) (by simpa using hlj) h2) (List.nodup_cons.1 h).1
      | succ i =>
        cases j with
        | zero =>
          simp only [List.getD_cons_zero, List.getD_cons_succ] at h1 h2
          rw [h2] at h
          exact absurd (hmem (by omega) (by simpa using hli) h1) (List.nodup_cons.1 h).1
        | succ j =>
          simp only [List.getD_cons_succ] at h1 h2
          rw [ih hrest (by omega) (by omega) (by simpa using hli) (by simpa using hlj) h1 h2]
theorem VC.free {Γ : Env} {base : SH} {Q : Exit → Env → SH → Prop} {rs : List RO} {an : List (List Nat)} {keep : List Nat} (k : Nat) (G : Nat → Value → List Atom → Prop) (hk : k ≤ rs.length) (htail : tailB an k rs.length = true) (hdst : dstsB rs k = true)
    (step : ∀ i, i < k → ∀ (vv : Nat → Value × List Atom), (∀ j ∈ an.getD i [], G j (vv j).1 (vv j).2) → ∀ Γ', Holds (fun j => (rs.getD j default).dst) vv (an.getD i []) Γ' → KeptE Γ ((rs.take k).filterMap fun r => r.dst) Γ' →
      VO P n [rs.getD i default] Γ' base (fun _ _ _ => False) (fun Γ2 H' => ∃ v B, Γ2 = putE (rs.getD i default).dst v Γ' ∧ G i v B ∧ Imp H' (B :: base)))
    (fin : ∀ (vv : Nat → Value × List Atom), (∀ i, i < k → G i (vv i).1 (vv i).2) → ∀ Γ', Holds (fun j => (rs.getD j default).dst) vv (List.range k) Γ' → KeptE Γ ((rs.take k).filterMap fun r => r.dst) Γ' →
      VO P n (rs.drop k) Γ' (((List.range k).map fun i => (vv i).2) ++ base) (fun ch _ H' => Q (.panic ch) [] H') (fun Γ2 H' => Q .normal (restr keep Γ2) H')) : VC P n (.free rs an keep) Γ base Q := by
  intro ρ kp od code hl a w F QQ hr ha hs hh
  obtain ⟨id, ops, rfl, h1, hm, hb, rfl, rfl⟩ := lowC_inv hl
  have hlen := (lowList_length h1).1
  refine wpIn_region_draw (fun t => ?_)
  have hsched : Region.schedule (P.follows .mixedOrders) ops t = sched ops ops.size t (Array.replicate ops.size false) := by simp [Region.schedule, hm, Region.linearise, sched]
  rw [hsched]
  have hu : unl ops (Array.replicate ops.size false) = List.range ops.size := by
    simp only [unl]
    refine List.filter_eq_self.2 (fun i hi => ?_)
    have := List.mem_range.1 hi
    simp [this]
  obtain ⟨s1, s2, _⟩ := sched_spec hb ops.size t (Array.replicate ops.size false) (by simp) (by rw [hu]; simp)
  have hbefA : ∀ {x y : Nat}, y < ops.size → x ∈ (ancs ops).getD y [] → Bef (sched ops ops.size t (Array.replicate ops.size false)) x y := fun hy hx => anc_bef hb (Nat.le_refl _) (ancs_sound hx) hy
  generalize hl : sched ops ops.size t (Array.replicate ops.size false) = l at *
  have hmem : ∀ i, i ∈ l ↔ i < ops.size := fun i => by rw [s2, hu]; simp
  have hX : ∀ i, i < ops.size → ops[i]? = some ((rs.zip ops.toList).getD i default).2 ∧ ((rs.zip ops.toList).getD i default).1 = rs.getD i default ∧ lowRO P n ops ((rs.zip ops.toList).getD i default).2 = some ((rs.zip ops.toList).getD i default).1 := fun i hi => zip_getD h1 hi
  have hro : rs.length = ops.size := by simpa using hlen
  have htl : ∀ i, k ≤ i → i < rs.length → ∀ j, j < i → j ∈ (ancs ops).getD i [] := fun i hki hi j hj => by
    have := List.all_eq_true.1 htail i (List.mem_range.2 hi)
    simp only [Bool.or_eq_true, decide_eq_true_eq] at this
    rcases this with h | h
    · omega
    · have := List.all_eq_true.1 h j (List.mem_range.2 hj)
      exact List.contains_iff_mem.1 this
  have hsplit : l.filter (fun i => decide (i < k)) ++ List.range' k (rs.length - k) = l := by
    refine eq_of_order ?_ s1 ?_
    · refine (List.perm_ext_iff_of_nodup ?_ s1).2 (fun x => ?_)
      · refine List.nodup_append.2 ⟨s1.filter _, List.nodup_range', fun x hx y hy e => ?_⟩
        have h1 := (List.mem_filter.1 hx).2
        have h2 := List.mem_range'_1.1 hy
        simp only [decide_eq_true_eq] at h1
        omega
      · simp only [List.mem_append, List.mem_filter, hmem, List.mem_range'_1, decide_eq_true_eq]
        omega
    · refine List.pairwise_append.2 ⟨List.pairwise_iff_forall_sublist.2 fun h => h.trans List.filter_sublist, ?_, ?_⟩
      · refine (List.pairwise_lt_range' (s := k) (n := rs.length - k) (step := 1)).imp_of_mem ?_
        intro x y hx hy hxy
        have h1 := List.mem_range'_1.1 hx
        have h2 := List.mem_range'_1.1 hy
        exact (hbefA (by omega) (htl y (by omega) (by omega) x hxy)).sub
      · intro x hx y hy
        have h1 := (List.mem_filter.1 hx).2
        have h2 := List.mem_range'_1.1 hy
        simp only [decide_eq_true_eq] at h1
        exact (hbefA (by omega) (htl y (by omega) (by omega) x (by omega))).sub
  generalize hli : l.filter (fun i => decide (i < k)) = li at hsplit
  have hlim : ∀ i, i ∈ li ↔ i < k := fun i => by
    rw [← hli, List.mem_filter, hmem, decide_eq_true_eq]; omega
  have hlin : li.Nodup := hli ▸ s1.filter _
  refine wpR_sound (P := P) (ρ := ρ) (n := n) (ops := ops) (X := fun i => (rs.zip ops.toList).getD i default) (QQ := QQ) (fun i hi => ⟨(hX i hi).1, (hX i hi).2.2⟩) _ a _ (fun i hi => (hmem i).1 hi) ?_
  rw [← hsplit, List.map_append]
  have hXi : ∀ i, i < k → ((rs.zip ops.toList).getD i default).1 = rs.getD i default := fun i hi => (hX i (by omega)).2.1
  have hnd := nodupN_spec hdst
  refine run_free (X := fun i => (rs.zip ops.toList).getD i default) (G := G) (base := base) (Γ0 := Γ) (ds := (rs.take k).filterMap fun r => r.dst) (an := fun i => (ancs ops).getD i []) li hlin (fun i hi => ?_) (fun i hi t ht => ?_) (fun i hi j hj t ht1 ht2 => ?_) ?_ ?_ (F := F) (a0 := a) (w0 := { w with drawn := w.drawn + 1 }) ?_ li [] rfl (fun _ => (undef, [])) Γ a _ (fun i hi => by cases hi) (fun i hi => by cases hi) (fun t v h _ => h) ha rfl (by simp only [List.flatMap_nil, List.nil_append]; exact hs.drawn _) (.refl _)
  · have hi' := (hlim i).1 hi
    exact ⟨rfl, fun x hx => by rw [List.mem_singleton.1 hx]; exact ⟨ops, (hX i (by omega)).2.2⟩⟩
  · have hi' := (hlim i).1 hi
    simp only [hXi i hi'] at ht
    refine List.mem_filterMap.2 ⟨rs.getD i default, ?_, ht⟩
    rw [List.getD_eq_getElem?_getD, List.getElem?_eq_getElem (by omega), Option.getD_some]
    exact List.mem_take_iff_getElem.2 ⟨i, by omega, rfl⟩
  · have hi' := (hlim i).1 hi
    have hj' := (hlim j).1 hj
    simp only [hXi i hi', hXi j hj'] at ht1 ht2
    exact dst_inj hnd hi' hj' (by omega) (by omega) ht1 ht2
  · intro l1 i l2 e j hj
    have hi : i < k := (hlim i).1 (by rw [e]; simp)
    have hb2 := hbefA (by omega) hj
    rw [← hsplit, e] at hb2
    have hnn : (l1 ++ i :: l2 ++ List.range' k (rs.length - k)).Nodup := by rw [← e, hsplit]; exact s1
    have hij := hb2.2.2
    rw [List.append_assoc, List.idxOf_append (l₁ := l1), List.idxOf_append (l₁ := l1)] at hij
    by_cases hjl : j ∈ l1
    · exact hjl
    · rw [if_neg hjl] at hij
      have hil : i ∉ l1 := by
        rw [List.append_assoc] at hnn
        intro h
        exact (List.nodup_append.1 hnn).2.2 i h i (by simp) rfl
      rw [if_neg hil] at hij
      rw [List.cons_append, List.idxOf_cons_self] at hij
      omega
  · intro i hi vv hg Γ' hh hkk
    have hi' := (hlim i).1 hi
    have e := hXi i hi'
    show VO P n [((rs.zip ops.toList).getD i default).1] _ _ _ _
    rw [e]
    have hanlt : ∀ j ∈ (ancs ops).getD i [], j < k ∨ True := fun _ _ => .inr trivial
    refine (step i hi' vv hg Γ' (fun j hj t ht => ?_) hkk)
    refine hh j hj t ?_
    have hjm : j < ops.size := (hmem j).1 (hbefA (by omega) hj).1
    show ((rs.zip ops.toList).getD j default).1.dst = some t
    rw [(hX j hjm).2.1]; exact ht
  · intro vv a' w' Γ' hg hhold hkk ha' hd' hs' hkw
    have hf := fin vv (fun i hi => hg i ((hlim i).2 hi)) Γ' (fun j hj t ht => by
      have hj' := List.mem_range.1 hj
      refine hhold j ((hlim j).2 hj') t ?_
      show ((rs.zip ops.toList).getD j default).1.dst = some t
      rw [hXi j hj']; exact ht) hkk
    have hlow : LowAll P n (rs.drop k) ((List.range' k (rs.length - k)).map fun i => (rs.zip ops.toList).getD i default) := by
      refine ⟨?_, fun x hx => ?_⟩
      · rw [List.map_map]
        apply List.ext_getElem?
        intro i
        simp only [List.getElem?_drop, List.getElem?_map]
        by_cases hi : i < rs.length - k
        · rw [List.getElem?_range' hi]
          simp only [Option.map_some, Function.comp]
          rw [(hX (k + 1 * i) (by omega)).2.1, Nat.one_mul, List.getD_eq_getElem?_getD, List.getElem?_eq_getElem (by omega), Option.getD_some]
        · rw [List.getElem?_eq_none (by simpa using hi), List.getElem?_eq_none (by omega)]; rfl
      · obtain ⟨i, hi, rfl⟩ := List.mem_map.1 hx
        have := List.mem_range'_1.1 hi
        exact ⟨ops, (hX i (by omega)).2.2⟩
    have hperm : (li.flatMap fun i => (vv i).2).Perm ((List.range k).map fun i => (vv i).2).flatten := by
      rw [← List.flatMap_def]
      refine List.Perm.flatMap_right _ ?_
      refine (List.perm_ext_iff_of_nodup hlin List.nodup_range).2 (fun x => ?_)
      rw [hlim, List.mem_range]
    have hs2 : Sat w' ((((List.range k).map fun i => (vv i).2) ++ base).flatten ++ F) := hs'.perm (by
      rw [List.flatten_append, List.append_assoc]
      exact hperm.append_right _)
    refine hf _ hlow a' w' F QQ (QQ .normal) ha' hs2 (fun a2 w2 Γ2 H2 q2 k1 k2 k3 k4 => ?_) (fun ch a2 w2 Γ2 H2 q2 k1 k2 k3 k4 => ?_)
    · exact hh _ a2 w2 _ H2 [] q2 ⟨k1.size, fun t v e => k1.slots t v (sub_restr _ _ t v e)⟩ (k2.trans hd') k3.nomarks (((Keeps.refl w).drawn _).trans (hkw.trans k4))
    · exact hh _ a2 w2 [] H2 [] q2 ⟨k1.size, fun t v e => by cases e⟩ (k2.trans hd') k3.nomarks (((Keeps.refl w).drawn _).trans (hkw.trans k4))
end
section
variable {P : Program} {n : Nat} {rs : List RO} {Γ : Env} {H : SH} {Z : List PanicEntry → Env → SH → Prop} {K : Env → SH → Prop} {d : Option Nat}
theorem st_max {x y : Operand} {a b : Nat} (hx : ev Γ x = some (vi a)) (hy : ev Γ y = some (vi b)) (h : VO P n rs (putE d (vi (max a b : Nat)) Γ) H Z K) :
    VO P n (⟨d, none, .max2 x y⟩ :: rs) Γ H Z K := by
  refine VO.pure rfl (v := vi (max a b : Nat)) (fun ρ hρ => ?_) h
  have e : (if (b : Int) > (a : Int) then (b : Int) else (a : Int)) = ((max a b : Nat) : Int) := by split <;> omega
  simp only [pureV, hρ _ _ hx, hρ _ _ hy, vi, e]
theorem st_eqI {x y : Operand} {k : IntKind} {a b : Int} {t : Bool} (hx : ev Γ x = some (.int k a)) (hy : ev Γ y = some (.int k b)) (ht : decide (a = b) = t) (h : VO P n rs (putE d (.bool t) Γ) H Z K) :
    VO P n (⟨d, none, .bin .eql x y⟩ :: rs) Γ H Z K :=
  VO.pure rfl (v := .bool t) (fun ρ hρ => by subst ht; simp [pureV, hρ _ _ hx, hρ _ _ hy, binV, intV]) h
theorem st_leI {x y : Operand} {k : IntKind} {a b : Int} {t : Bool} (hx : ev Γ x = some (.int k a)) (hy : ev Γ y = some (.int k b)) (ht : decide (a ≤ b) = t) (h : VO P n rs (putE d (.bool t) Γ) H Z K) :
    VO P n (⟨d, none, .bin .leq x y⟩ :: rs) Γ H Z K :=
  VO.pure rfl (v := .bool t) (fun ρ hρ => by subst ht; simp [pureV, hρ _ _ hx, hρ _ _ hy, binV, intV]) h
theorem st_lenI {x : Operand} {a : Option Addr} {m c : Nat} (hx : ev Γ x = some (.slice a m c)) (h : VO P n rs (putE d (vi m) Γ) H Z K) :
    VO P n (⟨d, none, .lenL x⟩ :: rs) Γ H Z K :=
  VO.pure rfl (v := vi m) (fun ρ hρ => by simp [pureV, hρ _ _ hx, vi]) h
end
theorem litsEq_iff : ∀ l l' : List Lt, litsEq l l' = true ↔ l.length = l'.length ∧ ∀ (j : Nat) x y, l[j]? = some x → l'[j]? = some y → litEq x y = true := by
  intro l
  induction l with
  | nil =>
    intro l'
    cases l' with
    | nil => simp [litsEq]
    | cons y r => simp [litsEq]
  | cons x r ih =>
    intro l'
    cases l' with
    | nil => simp [litsEq]
    | cons y q =>
      simp only [litsEq, Bool.and_eq_true, ih q, List.length_cons]
      constructor
      · rintro ⟨h1, h2, h3⟩
        refine ⟨by omega, fun j => ?_⟩
        cases j with
        | zero => intro x' y' e1 e2; cases e1; cases e2; exact h1
        | succ j => intro x' y' e1 e2; exact h3 j x' y' (by simpa using e1) (by simpa using e2)
      · rintro ⟨h1, h2⟩
        exact ⟨h2 0 x y rfl rfl, by omega, fun j x' y' e1 e2 => h2 (j + 1) x' y' (by simpa using e1) (by simpa using e2)⟩
theorem ndsEq_iff : ∀ l l' : List Nd, ndsEq l l' = true ↔ l.length = l'.length ∧ ∀ (j : Nat) x y, l[j]? = some x → l'[j]? = some y → ndEq x y = true := by
  intro l
  induction l with
  | nil =>
    intro l'
    cases l' with
    | nil => simp [ndsEq]
    | cons y r => simp [ndsEq]
  | cons x r ih =>
    intro l'
    cases l' with
    | nil => simp [ndsEq]
    | cons y q =>
      simp only [ndsEq, Bool.and_eq_true, ih q, List.length_cons]
      constructor
      · rintro ⟨h1, h2, h3⟩
        refine ⟨by omega, fun j => ?_⟩
        cases j with
        | zero => intro x' y' e1 e2; cases e1; cases e2; exact h1
        | succ j => intro x' y' e1 e2; exact h3 j x' y' (by simpa using e1) (by simpa using e2)
      · rintro ⟨h1, h2⟩
        exact ⟨h2 0 x y rfl rfl, by omega, fun j x' y' e1 e2 => h2 (j + 1) x' y' (by simpa using e1) (by simpa using e2)⟩
theorem litsEq_false {l l' : List Lt} {j : Nat} {x y : Lt} (h1 : l[j]? = some x) (h2 : l'[j]? = some y) (h : litEq x y = false) : litsEq l l' = false :=
  Bool.eq_false_iff.2 fun e => by have := ((litsEq_iff l l').1 e).2 j x y h1 h2; rw [h] at this; cases this
theorem ndsEq_false {l l' : List Nd} {j : Nat} {x y : Nd} (h1 : l[j]? = some x) (h2 : l'[j]? = some y) (h : ndEq x y = false) : ndsEq l l' = false :=
  Bool.eq_false_iff.2 fun e => by have := ((ndsEq_iff l l').1 e).2 j x y h1 h2; rw [h] at this; cases this
theorem litsEq_len {l l' : List Lt} (h : l.length ≠ l'.length) : litsEq l l' = false := Bool.eq_false_iff.2 fun e => h ((litsEq_iff l l').1 e).1
theorem ndsEq_len {l l' : List Nd} (h : l.length ≠ l'.length) : ndsEq l l' = false := Bool.eq_false_iff.2 fun e => h ((ndsEq_iff l l').1 e).1
theorem texts_eq {l l' : List ByteArray} (h1 : l.length = l'.length) (h2 : ∀ (j : Nat) x y, l[j]? = some x → l'[j]? = some y → x = y) : l = l' := by
  apply List.ext_getElem? 
  intro j
  by_cases hj : j < l.length
  · rw [List.getElem?_eq_getElem hj, List.getElem?_eq_getElem (h1 ▸ hj)]
    rw [h2 j l[j] (l'[j]'(h1 ▸ hj)) (List.getElem?_eq_getElem hj) (List.getElem?_eq_getElem (h1 ▸ hj))]
  · rw [List.getElem?_eq_none (by omega), List.getElem?_eq_none (by omega)]
structure Hd where
  cls : Nat
  fmt : Nat
  spare : Nat
  hash : Nat
  age : Nat
  slots : Nat
  marked : Bool
  noted : Bool
def b2n (b : Bool) : Nat := if b then 1 else 0
theorem b2n_le (b : Bool) : b2n b ≤ 1 := by cases b <;> decide
structure Hd.May (h : Hd) : Prop where
  cls : h.cls ≤ 4095
  hash : h.hash ≤ 4194303
  age : h.age ≤ 15
  slots : h.slots ≤ 65536
  spare : h.spare ≤ 7
  fmt : 1 ≤ h.fmt ∧ h.fmt ≤ 6
  plain : h.fmt ≤ 4 → h.spare = 0
  eph : h.fmt = 3 → 0 < h.slots
  meth : h.fmt = 6 → 0 < h.slots
  some : h.spare ≠ 0 → (if h.fmt = 6 then 1 else 0) < h.slots
def pk (h : Hd) : Nat := h.cls + h.fmt * 4096 + h.spare * 32768 + h.hash * 262144 + h.age * 1099511627776 + b2n h.marked * 17592186044416 + b2n h.noted * 35184372088832
theorem Hd.May.lt {h : Hd} (m : h.May) : pk h < 70368744177664 := by
  obtain ⟨h1, h2, h3, h4, h5, h6, _⟩ := m
  have := b2n_le h.marked
  have := b2n_le h.noted
  unfold pk
  omega
structure Ob where
  at_ : Nat
  hd : Hd
  body : List Nat
def Ob.many (b : Ob) : Nat := if b.hd.fmt = 6 then b.body.headD 0 / 8 + 1 else if b.hd.fmt = 4 ∨ b.hd.fmt = 5 then 0 else b.hd.slots
def Ob.stop (b : Ob) : Nat := b.at_ + 2 + b.hd.slots
structure Ob.Ok (b : Ob) : Prop where
  may : b.hd.May
  len : b.body.length = b.hd.slots
  small : ∀ x ∈ b.body, x < 18446744073709551616
  meth : b.hd.fmt = 6 → ∃ n r, b.body = (8 * n + 1) :: r ∧ n ≤ r.length
theorem Ob.Ok.many {b : Ob} (h : b.Ok) : b.many ≤ b.hd.slots := by
  unfold Ob.many
  split
  · rename_i e
    obtain ⟨n, r, e1, e2⟩ := h.meth e
    have := h.len
    rw [e1] at this ⊢
    simp only [List.headD_cons, List.length_cons] at *
    omega
  · split <;> omega
structure Lay (ws st : List Nat) (obs : List Ob) : Prop where
  small : ∀ x ∈ ws, x < 18446744073709551616
  sts : ∀ x ∈ st, x < 18446744073709551616
  stl : st.length = ws.length / 64 + 1
  len : ws.length < 4194304
  ok : ∀ b ∈ obs, b.Ok
  low : ∀ b ∈ obs, 2 ≤ b.at_
  high : ∀ b ∈ obs, b.stop ≤ ws.length
  head : ∀ b ∈ obs, ws[b.at_]? = some (pk b.hd) ∧ ws[b.at_ + 1]? = some b.hd.slots
  body : ∀ b ∈ obs, ∀ i < b.hd.slots, ws[b.at_ + 2 + i]? = b.body[i]?
  sort : obs.Pairwise fun a b => a.stop ≤ b.at_
  bits : ∀ w, w < ws.length → (bitAt st w = true ↔ ∃ b ∈ obs, b.at_ = w)
theorem sort_one {obs : List Ob} (h : obs.Pairwise fun a b => a.stop ≤ b.at_) {a b : Ob} (ha : a ∈ obs) (hb : b ∈ obs) (e : a.at_ = b.at_) : a = b := by
  induction obs with
  | nil => cases ha
  | cons x r ih =>
    obtain ⟨h1, h2⟩ := List.pairwise_cons.1 h
    rcases List.mem_cons.1 ha with rfl | ha'
    · rcases List.mem_cons.1 hb with rfl | hb'
      · rfl
      · have := h1 b hb'; unfold Ob.stop at this; omega
    · rcases List.mem_cons.1 hb with rfl | hb'
      · have := h1 a ha'; unfold Ob.stop at this; omega
      · exact ih h2 ha' hb'
theorem sort_apart {obs : List Ob} (h : obs.Pairwise fun a b => a.stop ≤ b.at_) {a b : Ob} (ha : a ∈ obs) (hb : b ∈ obs) (hne : a ≠ b) : a.stop ≤ b.at_ ∨ b.stop ≤ a.at_ := by
  induction obs with
  | nil => cases ha
  | cons x r ih =>
    obtain ⟨h1, h2⟩ := List.pairwise_cons.1 h
    rcases List.mem_cons.1 ha with rfl | ha'
    · rcases List.mem_cons.1 hb with rfl | hb'
      · exact absurd rfl hne
      · exact .inl (h1 b hb')
    · rcases List.mem_cons.1 hb with rfl | hb'
      · exact .inr (h1 a ha')
      · exact ih h2 ha' hb'
def kU : KEnc Nat := ⟨.int, uv, fun a b => by
  show some (decide (((a : Nat) : Int) = ((b : Nat) : Int))) = some (decide (a = b))
  congr 1; rw [decide_eq_decide]; omega⟩
structure AH where
  rm : List (Nat × Nat × Nat)
  obs : List Ob
  sp : List Nat
  cl : List Nat
  stack : List Nat
  queue : List Nat
  noted : List Nat
  ahead : List (Nat × Nat)
  given : Nat
structure HW where
  a : AH
  ws : List Nat
  st : List Nat
  wb : Nat
  sb : Nat
  kv : Value
  qv : Value
  nv : Value
  ks : List Value
  qs : List Value
  ns : List Value
  mb : Nat
  es : Array MapEntry
  mc : Nat
def rmEnc (r : Nat × Nat × Nat) : List Value := [vi r.1, vi r.2.1, vi r.2.2]
def arrV (b : Nat) (l : List Nat) : Value := .slice (some ⟨b, 0, none⟩) l.length l.length
def HMem (p : Nat) (x : HW) : SH :=
  [cellsAt p 0 [arrV x.wb x.ws, arrV x.sb x.st], cellsAt p 4180 [x.kv, x.qv, x.nv, .map (some x.mb), vi x.a.given], cellsAt p 2 (x.a.rm.flatMap rmEnc), cellsAt p 20 (x.a.sp.map uv), cellsAt p 84 (x.a.cl.map uv),
   cellsAt x.wb 0 (x.ws.map uv), cellsAt x.sb 0 (x.st.map uv), slA x.kv (x.a.stack.map uv) x.ks, slA x.qv (x.a.queue.map uv) x.qs, slA x.nv (x.a.noted.map uv) x.ns, [.obj x.mb (.map x.es x.mc)]]
def HMw (p : Nat) (x : HW) (B : List Atom) : SH :=
  [cellsAt p 0 [.slice (some ⟨x.wb, 0, none⟩) x.ws.length x.ws.length, .slice (some ⟨x.sb, 0, none⟩) x.st.length x.st.length], cellsAt p 4180 [x.kv, x.qv, x.nv, .map (some x.mb), vi x.a.given], cellsAt p 2 (x.a.rm.flatMap rmEnc), cellsAt p 20 (x.a.sp.map uv), cellsAt p 84 (x.a.cl.map uv),
   B, cellsAt x.sb 0 (x.st.map uv), slA x.kv (x.a.stack.map uv) x.ks, slA x.qv (x.a.queue.map uv) x.qs, slA x.nv (x.a.noted.map uv) x.ns, [.obj x.mb (.map x.es x.mc)]]
theorem hmw (p : Nat) (x : HW) : HMem p x = HMw p x (cellsAt x.wb 0 (x.ws.map uv)) := rfl
def HA (p : Nat) (x : HW) : List Atom := (HMem p x).flatten
structure RmOk (a : AH) (n : Nat) : Prop where
  len : a.rm.length = 6
  zero : a.rm[0]? = some (0, 0, 0)
  rng : ∀ (i : Nat) (r : Nat × Nat × Nat), a.rm[i]? = some r → r.1 ≤ r.2.2 ∧ r.2.2 ≤ r.2.1 ∧ r.2.1 ≤ n
  low : ∀ (i : Nat) (r : Nat × Nat × Nat), 1 ≤ i → a.rm[i]? = some r → 2 ≤ r.1
  apart : ∀ (i j : Nat) (r s : Nat × Nat × Nat), i < j → a.rm[i]? = some r → a.rm[j]? = some s → 1 ≤ i → r.2.1 ≤ s.1 ∨ s.2.1 ≤ r.1
  inn : ∀ b ∈ a.obs, ∃ (i : Nat) (r : Nat × Nat × Nat), 1 ≤ i ∧ a.rm[i]? = some r ∧ r.1 ≤ b.at_ ∧ b.stop ≤ (if i = 5 then r.2.1 else r.2.2)
structure HOk (x : HW) : Prop where
  lay : Lay x.ws x.st x.a.obs
  rm : RmOk x.a x.ws.length
  spl : x.a.sp.length = 64
  cll : x.a.cl.length = 4096
  sps : ∀ o ∈ x.a.sp, o < 18446744073709551616
  cls : ∀ o ∈ x.a.cl, o < 18446744073709551616
  stks : ∀ o ∈ x.a.stack, o < 18446744073709551616
  ques : ∀ o ∈ x.a.queue, o < 18446744073709551616
  nots : ∀ o ∈ x.a.noted, o < 18446744073709551616
  stk : IsSl 1 x.kv x.a.stack.length (x.a.stack.map uv) x.ks
  que : IsSl 1 x.qv x.a.queue.length (x.a.queue.map uv) x.qs
  note : IsSl 1 x.nv x.a.noted.length (x.a.noted.map uv) x.ns
  map : MapIs kU uv x.es x.mc x.a.ahead
  given : x.a.given ≤ 4194303
  deep : x.a.stack.length ≤ 4096
  few : x.a.queue.length ≤ 1073741823 ∧ x.a.noted.length ≤ 1073741823
section
variable {P : Program} {n : Nat} {rs : List RO} {Γ : Env} {H : SH} {Z : List PanicEntry → Env → SH → Prop} {K : Env → SH → Prop}
end
theorem Lay.at_lt {ws st : List Nat} {obs : List Ob} (h : Lay ws st obs) {b : Ob} (hb : b ∈ obs) : b.at_ + 1 < ws.length := by
  have := h.high b hb; unfold Ob.stop at this; omega
theorem HOk.range {x : HW} (h : HOk x) {b : Ob} (hb : b ∈ x.a.obs) : 1 ≤ b.at_ ∧ b.at_ ≤ 268435455 := by
  have h1 := h.lay.low b hb
  have h2 := h.lay.at_lt hb
  have h3 := h.lay.len
  omega
def updO (w : Nat) (f : Ob → Ob) (obs : List Ob) : List Ob := obs.map fun b => if b.at_ = w then f b else b
theorem mem_updO {w : Nat} {f : Ob → Ob} {obs : List Ob} {y : Ob} : y ∈ updO w f obs ↔ ∃ b ∈ obs, y = if b.at_ = w then f b else b := by
  simp only [updO, List.mem_map]; constructor <;> rintro ⟨b, h1, h2⟩ <;> exact ⟨b, h1, h2.symm⟩
structure Keep (f : Ob → Ob) : Prop where
  at_ : ∀ b, (f b).at_ = b.at_
  slots : ∀ b, (f b).hd.slots = b.hd.slots
theorem updO_sort {w : Nat} {f : Ob → Ob} (hf : Keep f) {obs : List Ob} (h : obs.Pairwise fun a b => a.stop ≤ b.at_) : (updO w f obs).Pairwise fun a b => a.stop ≤ b.at_ := by
  unfold updO
  rw [List.pairwise_map]
  refine h.imp (fun {a b} hab => ?_)
  have e1 : ∀ c : Ob, (if c.at_ = w then f c else c).at_ = c.at_ := fun c => by split <;> simp [hf.at_]
  have e2 : ∀ c : Ob, (if c.at_ = w then f c else c).stop = c.stop := fun c => by split <;> simp [Ob.stop, hf.at_, hf.slots]
  rw [e1, e2]; exact hab
theorem updO_at {w : Nat} {f : Ob → Ob} (hf : Keep f) {obs : List Ob} {v : Nat} : (∃ b ∈ updO w f obs, b.at_ = v) ↔ ∃ b ∈ obs, b.at_ = v := by
  have e1 : ∀ c : Ob, (if c.at_ = w then f c else c).at_ = c.at_ := fun c => by split <;> simp [hf.at_]
  constructor
  · rintro ⟨y, hy, rfl⟩
    obtain ⟨b, hb, rfl⟩ := mem_updO.1 hy
    exact ⟨b, hb, (e1 b).symm⟩
  · rintro ⟨b, hb, rfl⟩
    exact ⟨_, mem_updO.2 ⟨b, hb, rfl⟩, e1 b⟩
section
variable {ws st : List Nat} {obs : List Ob}
theorem Lay.upd (h : Lay ws st obs) {b : Ob} (hb : b ∈ obs) {f : Ob → Ob} (hf : Keep f) {ws' : List Nat} (hl : ws'.length = ws.length) (hs : ∀ x ∈ ws', x < 18446744073709551616) (hok : (f b).Ok)
    (hout : ∀ i, ¬ (b.at_ ≤ i ∧ i < b.stop) → ws'[i]? = ws[i]?) (hh : ws'[b.at_]? = some (pk (f b).hd) ∧ ws'[b.at_ + 1]? = some b.hd.slots) (hbd : ∀ i < b.hd.slots, ws'[b.at_ + 2 + i]? = (f b).body[i]?) : Lay ws' st (updO b.at_ f obs) := by
  have key : ∀ c ∈ obs, c.at_ = b.at_ → c = b := fun c hc e => sort_one h.sort hc hb e
  have apart : ∀ c ∈ obs, c.at_ ≠ b.at_ → ∀ i, c.at_ ≤ i → i < c.stop → ws'[i]? = ws[i]? := fun c hc e i h1 h2 => by
    refine hout i (fun h3 => ?_)
    rcases sort_apart h.sort hc hb (fun e' => e (by rw [e'])) with h4 | h4 <;> omega
  have cases_ : ∀ y ∈ updO b.at_ f obs, y = f b ∨ (y ∈ obs ∧ y.at_ ≠ b.at_) := fun y hy => by
    obtain ⟨c, hc, rfl⟩ := mem_updO.1 hy
    split
    · rename_i e; rw [key c hc e]; exact .inl rfl
    · rename_i e; exact .inr ⟨hc, e⟩
  have hfs : (f b).stop = b.stop := by simp [Ob.stop, hf.at_, hf.slots]
  refine ⟨hs, h.sts, by rw [hl]; exact h.stl, by rw [hl]; exact h.len, ?_, ?_, ?_, ?_, ?_, updO_sort hf h.sort, ?_⟩
  · intro y hy
    rcases cases_ y hy with rfl | ⟨h1, _⟩
    · exact hok
    · exact h.ok y h1
  · intro y hy
    rcases cases_ y hy with rfl | ⟨h1, _⟩
    · rw [hf.at_]; exact h.low b hb
    · exact h.low y h1
  · intro y hy
    rw [hl]
    rcases cases_ y hy with rfl | ⟨h1, _⟩
    · rw [hfs]; exact h.high b hb
    · exact h.high y h1
  · intro y hy
    rcases cases_ y hy with rfl | ⟨h1, h2⟩
    · rw [hf.at_, hf.slots]; exact hh
    · have := h.head y h1
      rw [apart y h1 h2 _ (Nat.le_refl _) (by unfold Ob.stop; omega), apart y h1 h2 _ (by omega) (by unfold Ob.stop; omega)]; exact this
  · intro y hy i hi
    rcases cases_ y hy with rfl | ⟨h1, h2⟩
    · rw [hf.at_]; exact hbd i (by rw [hf.slots] at hi; exact hi)
    · rw [apart y h1 h2 _ (by omega) (by unfold Ob.stop; omega)]; exact h.body y h1 i hi
  · intro v hv
    rw [hl] at hv
    rw [updO_at hf]; exact h.bits v hv
end
def IterA (P : Program) (g : Value) {α : Type} (enc : α → List Value) (Acc : List Atom → Prop) (Pre Post : SH) (Spec : List α → Prop) : Prop :=
  ∀ (y : Value) (J SP : List α → List Atom → Prop), y.cells = #[y] → (∀ c A, J c A → Acc A) →
    (∀ c x A, OkC Spec (c ++ [x]) → J c A → FunV P y (enc x) [A] (fun v B => (v = .bool true ∧ ∃ A', J (c ++ [x]) A' ∧ B = [A']) ∨ (v = .bool false ∧ ∃ B', SP (c ++ [x]) B' ∧ B = [B']))) →
    ∀ A, J [] A → FunV P g [y] (Pre ++ [A]) (fun v B => v = .tuple #[] ∧ ((∃ full A', Spec full ∧ J full A' ∧ B = Post ++ [A']) ∨ (∃ c B', OkC Spec c ∧ SP c B' ∧ B = Post ++ [B'])))
section
variable {P : Program} {n : Nat} {Γ : Env} {H : SH} {Q : Exit → Env → SH → Prop}
theorem VC.rangefA {α : Type} {enc : α → List Value} {g : Operand} {f : Nat} {first cap : Array Value} {ps : List Nat} {asg body : IC} {Pre Post R : SH} {Spec : List α → Prop} {Acc : List Atom → Prop} (I : List α → List Atom → Prop) (A0 : List Atom) (hg : ev Γ g = some (.func (.func f) first cap))
    (hit : IterA P (.func (.func f) first cap) enc Acc Pre Post Spec) (hmo : ∀ A B, Acc A → Acc (A ++ B)) (hacc : ∀ c A, I c A → Acc A) (hs : Spl H Pre R) (h0 : Imp R [A0]) (h1 : I [] A0) (hlen : ∀ x, (enc x).length = ps.length)
    (round : ∀ c x A, OkC Spec (c ++ [x]) → I c A → VC P n asg (bindE ps (enc x) Γ) [A] (fun e Γ' H' => e = .normal ∧ VC P n body Γ' H' (fun e _ H'' => match e with | .normal => ∃ A', I (c ++ [x]) A' ∧ Imp H'' [A'] | .ret => Q .ret Γ (Post ++ H'') | .exit id => Q (.exit id) Γ (Post ++ H'') | _ => False)))
    (done : ∀ full A, Spec full → I full A → Q .normal Γ (Post ++ [A])) : VC P n (.rangef g ps asg body) Γ H Q := by
  intro ρ kp od code hl a w F QQ hr ha hsat hh
  obtain ⟨qs, A, B, rfl, rfl, hlt, h1', h2⟩ := lowC_inv hl
  refine wpIn_rangeFunc (fun fnid _ => ?_)
  obtain ⟨l, db, X, w1, he, hs1, hk1⟩ := enter_spec (P := P) (fnid := fnid) (tmps := a.tmps) (qs := qs) (A := A) (B := B) hr hsat
  have hyield := hit (.func (.yield l) #[] #[]) (fun c A' => ∃ A1, I c A1 ∧ A' = A1 ++ [.obj l (.loop (lrec fnid a.tmps qs A B db .ready none))])
    (fun c B' => ∃ H'', (Q .ret Γ (Post ++ H'') ∧ B' = H''.flatten ++ [.obj l (.loop (lrec fnid a.tmps qs A B db .done (some .ret)))]) ∨ (∃ id, Q (.exit id) Γ (Post ++ H'') ∧ B' = H''.flatten ++ [.obj l (.loop (lrec fnid a.tmps qs A B db .done (some (.exit id))))]))
    rfl
    (fun c A' hA => by obtain ⟨A1, hI, rfl⟩ := hA; exact hmo _ _ (hacc c A1 hI))
    (fun c x A' hc hA => by
      obtain ⟨A1, hI, rfl⟩ := hA
      have hx := round_spec (P := P) (n := n) (Γ := Γ) (fn := fnid) (tmps := a.tmps) (db := db) (l := l) (vs := enc x) (I := A1) (Qb := fun e H'' => match e with | .normal => ∃ A', I (c ++ [x]) A' ∧ Imp H'' [A'] | .ret => Q .ret Γ (Post ++ H'') | .exit id => Q (.exit id) Γ (Post ++ H'') | _ => False)
        hlt (hlen x).symm ⟨ha.size, ha.slots⟩ h1' h2 ((round c x A1 hc hI).mono (fun e Γ' H' ⟨q1, q2⟩ => ⟨q1, q2.mono (fun e _ H'' q => by cases e <;> exact q)⟩))
      refine hx.conv (R := []) (by simp [Spl]) ?_
      rintro v Bk (⟨rfl, H'', ⟨A2, hI2, q⟩, rfl⟩ | ⟨rfl, H'', q⟩)
      · refine ⟨_, .inl ⟨rfl, _, ⟨A2, hI2, rfl⟩, rfl⟩, ?_⟩
        obtain ⟨R', hR'⟩ := q
        refine ⟨R', ?_⟩
        simp only [Spl, List.flatten_cons, List.flatten_nil, List.append_nil] at hR' ⊢
        rw [List.append_assoc]
        refine (List.Perm.append_right _ hR').trans ?_
        rw [List.append_assoc]
        exact List.Perm.append_left _ List.perm_append_comm
      · rcases q with ⟨q, rfl⟩ | ⟨id, q, rfl⟩
        · exact ⟨_, .inr ⟨rfl, _, ⟨H'', .inl ⟨q, rfl⟩⟩, rfl⟩, by rw [List.append_nil]; exact Imp.refl _⟩
        · exact ⟨_, .inr ⟨rfl, _, ⟨H'', .inr ⟨id, q, rfl⟩⟩, rfl⟩, by rw [List.append_nil]; exact Imp.refl _⟩)
    _ ⟨A0, h1, rfl⟩
  have hs2 : Sat w1 ((Pre ++ [A0 ++ [Atom.obj l (.loop (lrec fnid a.tmps qs A B db .ready none))]]).flatten ++ (F ++ marks X)) := by
    have p1 : (Atom.obj l (.loop (lrec fnid a.tmps qs A B db .ready none)) :: (H.flatten ++ (F ++ marks X))).Perm (R.flatten ++ (Pre.flatten ++ (Atom.obj l (.loop (lrec fnid a.tmps qs A B db .ready none)) :: (F ++ marks X)))) := by
      refine List.perm_middle.symm.trans ?_
      refine (List.Perm.append_right _ hs).trans ?_
      rw [List.append_assoc]
      exact perm_lead _ _ _
    have h3 := (hs1.perm p1).imp h0
    refine h3.perm ?_
    simp only [List.flatten_append, List.flatten_cons, List.flatten_nil, List.append_nil, List.append_assoc, List.singleton_append]
    exact perm_lead _ _ _
  have hcall := hyield (F ++ marks X) w1 hs2
  obtain ⟨hcallable, hcalls⟩ := hcall
  refine ⟨l, X.map coll, w1, { target := .fn (.func f) cap, args := first ++ [Value.func (.yield l) #[] #[]].toArray }, w1, f, first ++ [Value.func (.yield l) #[] #[]].toArray ++ cap, w1, he, ?_, fun _ _ => trivial, ?_, ?_, ?_⟩
  · have hev : a.eval g = .func (.func f) first cap := ha.ev hg
    simp only [resolve, hev, Deferred.ofValue]
    simp [Act.eval]
  · simp only [invoke]
    rw [run_callFunc hcallable]
  · intro h; simp at h
  refine callsIn_v (hcalls.mono ?_)
  · rintro e w3 ⟨v, Pst, rfl, ⟨rfl, hp⟩, hs3, hk3⟩
    have ha' : Agree n Γ { a with defers := X.map coll ++ a.defers } := ⟨ha.size, ha.slots⟩
    rcases hp with ⟨full, _, hf, ⟨A1, hI, rfl⟩, rfl⟩ | ⟨c, B', _, ⟨H'', hj⟩, rfl⟩
    · obtain ⟨w4, e1, e2, e3'⟩ := end_spec (P := P) (L := Post.flatten ++ A1) (st := .ready) (pe := none) (by simp) (by simpa [List.append_assoc] using hs3)
      have e3 := hk1.trans (hk3.trans e3')
      exact ⟨none, w4, e1, hh _ _ _ _ _ X (done full A1 hf hI) ha' rfl (by simpa using e2) e3⟩
    · rcases hj with ⟨q, rfl⟩ | ⟨id, q, rfl⟩
      · obtain ⟨w4, e1, e2, e3'⟩ := end_spec (P := P) (L := Post.flatten ++ H''.flatten) (st := .done) (pe := some .ret) (by simp) (by simpa [List.append_assoc] using hs3)
        have e3 := hk1.trans (hk3.trans e3')
        exact ⟨_, w4, e1, wpIn_ret (hh _ _ _ _ _ X q ha' rfl (by simpa using e2) e3)⟩
      · obtain ⟨w4, e1, e2, e3'⟩ := end_spec (P := P) (L := Post.flatten ++ H''.flatten) (st := .done) (pe := some (.exit id)) (by simp) (by simpa [List.append_assoc] using hs3)
        have e3 := hk1.trans (hk3.trans e3')
        exact ⟨_, w4, e1, wpIn_exit (hh _ _ _ _ _ X q ha' rfl (by simpa using e2) e3)⟩
end
abbrev NV := Nd × List Value
def SpecN (A : List Atom) (x : Nd) (f : List NV) : Prop := f.map Prod.fst = allN x ∧ ∀ p ∈ f, NdRd A p.1 p.2
def SpecNs (A : List Atom) (l : List Nd) (f : List NV) : Prop := f.map Prod.fst = allsN l ∧ ∀ p ∈ f, NdRd A p.1 p.2
theorem allsN_append : ∀ l r : List Nd, allsN (l ++ r) = allsN l ++ allsN r := by
  intro l
  induction l with
  | nil => intro r; rfl
  | cons x l ih => intro r; simp only [List.cons_append, allsN, ih, List.append_assoc]
theorem allN_eq (x : Nd) : allN x = x :: allsN x.kids := by cases x; rfl
theorem allsN_mem {x y : Nd} : ∀ {l : List Nd}, y ∈ l → x ∈ allN y → x ∈ allsN l := by
  intro l
  induction l with
  | nil => intro h; cases h
  | cons z r ih =>
    intro h hx
    simp only [allsN, List.mem_append]
    rcases List.mem_cons.1 h with rfl | h
    · exact .inl hx
    · exact .inr (ih h hx)
theorem mem_allsN {x : Nd} : ∀ {l : List Nd}, x ∈ allsN l → ∃ y ∈ l, x ∈ allN y := by
  intro l
  induction l with
  | nil => intro h; cases h
  | cons z r ih =>
    intro h
    simp only [allsN, List.mem_append] at h
    rcases h with h | h
    · exact ⟨z, by simp, h⟩
    · obtain ⟨y, hy, h⟩ := ih h; exact ⟨y, by simp [hy], h⟩
theorem nd_kid {A : List Atom} {x y : Nd} {vs : List Value} (h : NdRd A x vs) (hy : y ∈ x.kids) : ∃ us, NdRd A y us := by
  cases h with
  | mk wf hl hav htv ha hm hr hcp =>
    simp only [Nd.kids] at hy
    obtain ⟨i, hi⟩ := List.getElem?_of_mem hy
    exact ⟨_, hr i y hi⟩
theorem rd_all {A : List Atom} : ∀ (N : Nat) (x : Nd), x.w ≤ N → ∀ vs, NdRd A x vs → ∀ y ∈ allN x, ∃ us, NdRd A y us := by
  intro N
  induction N with
  | zero => intro x hx; have := x.w_pos; omega
  | succ N ih =>
    intro x hx vs h y hy
    rw [allN_eq] at hy
    rcases List.mem_cons.1 hy with rfl | hy
    · exact ⟨vs, h⟩
    · obtain ⟨z, hz, hy⟩ := mem_allsN hy
      obtain ⟨us, hu⟩ := nd_kid h hz
      have : z.w < x.w := by
        cases x
        have := Nd.ws_mem hz
        simp only [Nd.kids] at this
        simp only [Nd.w]; omega
      exact ih z (by omega) us hu y hy
theorem spec_ex {A : List Atom} : ∀ (l : List Nd), (∀ y ∈ l, ∃ us, NdRd A y us) → ∃ f : List NV, f.map Prod.fst = l ∧ ∀ p ∈ f, NdRd A p.1 p.2 := by
  intro l
  induction l with
  | nil => intro _; exact ⟨[], rfl, fun p hp => by cases hp⟩
  | cons y l ih =>
    intro h
    obtain ⟨us, hu⟩ := h y (by simp)
    obtain ⟨f, h1, h2⟩ := ih fun z hz => h z (by simp [hz])
    refine ⟨(y, us) :: f, by simp [h1], fun p hp => ?_⟩
    rcases List.mem_cons.1 hp with rfl | hp
    · exact hu
    · exact h2 p hp
theorem SpecN.cons {A : List Atom} {x : Nd} {vs : List Value} (h : NdRd A x vs) {f : List NV} (hf : SpecNs A x.kids f) : SpecN A x ((x, vs) :: f) := by
  refine ⟨by rw [allN_eq, List.map_cons, hf.1], fun p hp => ?_⟩
  rcases List.mem_cons.1 hp with rfl | hp
  · exact h
  · exact hf.2 p hp
theorem SpecNs.append {A : List Atom} {l r : List Nd} {f g : List NV} (hf : SpecNs A l f) (hg : SpecNs A r g) : SpecNs A (l ++ r) (f ++ g) := by
  refine ⟨by rw [List.map_append, allsN_append, hf.1, hg.1], fun p hp => ?_⟩
  rcases List.mem_append.1 hp with hp | hp
  · exact hf.2 p hp
  · exact hg.2 p hp
theorem SpecNs.one {A : List Atom} {x : Nd} {f : List NV} (hf : SpecN A x f) : SpecNs A [x] f := ⟨by simp [allsN, hf.1], hf.2⟩
theorem SpecNs.nil {A : List Atom} : SpecNs A [] [] := ⟨rfl, fun p hp => by cases hp⟩
theorem specNs_ex {A : List Atom} {x : Nd} {vs : List Value} (h : NdRd A x vs) {l : List Nd} (hl : ∀ y ∈ l, y ∈ x.kids) : ∃ g, SpecNs A l g := by
  obtain ⟨f, h1, h2⟩ := spec_ex (A := A) (allsN l) (fun y hy => by
    obtain ⟨z, hz, hy⟩ := mem_allsN hy
    obtain ⟨us, hu⟩ := nd_kid h (hl z hz)
    exact rd_all _ z (Nat.le_refl _) us hu y hy)
  exact ⟨f, h1, h2⟩
theorem allN_len : ∀ (N : Nat) (x : Nd), x.w ≤ N → (allN x).length ≤ x.w := by
  intro N
  induction N with
  | zero => intro x hx; have := x.w_pos; omega
  | succ N ih =>
    intro x hx
    cases x with
    | mk k s lit args temps kids p =>
    have hk : ∀ l : List Nd, Nd.ws l ≤ N → (allsN l).length ≤ Nd.ws l := by
      intro l
      induction l with
      | nil => intro _; exact Nat.zero_le _
      | cons y r ih2 =>
        intro h
        simp only [Nd.ws] at h ⊢
        have := ih y (by omega)
        have := ih2 (by omega)
        simp only [allsN, List.length_append]; omega
    simp only [Nd.w] at hx ⊢
    have := hk kids (by omega)
    simp only [allN, List.length_cons]; omega
def AccT (A : List Atom) (B : List Atom) : Prop := ∃ X, B.Perm (A ++ X)
theorem AccT.mem {A B : List Atom} (h : AccT A B) : ∀ a ∈ A, a ∈ B := fun _ ha => let ⟨_, hp⟩ := h; hp.symm.subset (List.mem_append_left _ ha)
theorem AccT.more {A B C : List Atom} (h : AccT A B) : AccT A (B ++ C) := by
  obtain ⟨X, hX⟩ := h
  exact ⟨X ++ C, by rw [← List.append_assoc]; exact hX.append_right C⟩
theorem nd_at {A : List Atom} {x : Nd} {vs : List Value} (h : NdRd A x vs) : ∃ (e1 : Nat) (e2 : Int) (e3 : Nat) (e4 : ByteArray) (e5 : Option Addr) (e6 e7 : Nat) (e8 : Option Addr) (e9 e10 : Nat) (e11 : Option Addr) (e12 e13 : Nat) (a : Option Addr) (c bk o : Nat) (us : Nat → List Value),
    vs = [cv x.kind, .string x.name, cv e1, vi e2, uv e3, .string e4, .slice e5 e6 e7, .slice e8 e9 e10, .slice e11 e12 e13, .slice a x.kids.length c, vi x.at_] ∧ x.kids.length ≤ 140737488355328 ∧ (0 < x.kids.length → a = some ⟨bk, o, none⟩) ∧
    (∀ i, i < x.kids.length → ∀ y ∈ cellsAt bk (o + i * 11) (us i), y ∈ A) ∧ ∀ i y, x.kids[i]? = some y → NdRd A y (us i) := by
  cases h with
  | mk wf hl hav htv ha hm hr hcp =>
    obtain ⟨_, _, rfl, _⟩ := hav
    obtain ⟨_, _, rfl, _⟩ := htv
    cases hl with
    | mk wf2 ha2 hm2 hr2 => exact ⟨_, _, _, _, _, _, _, _, _, _, _, _, _, _, _, _, _, _, rfl, wf.many, ha, hm, hr⟩
def hasS (r : List ByteArray) (s : ByteArray) : Bool := r.any fun t => decide (t = s)
def cntS (r : List ByteArray) (s : ByteArray) : Nat := (r.filter fun t => decide (t = s)).length
theorem hasS_iff {r : List ByteArray} {s : ByteArray} : hasS r s = true ↔ s ∈ r := by simp [hasS]
theorem cntS_zero {r : List ByteArray} {s : ByteArray} : cntS r s = 0 ↔ s ∉ r := by
  simp only [cntS, List.length_eq_zero_iff, List.filter_eq_nil_iff, decide_eq_true_eq]
  exact ⟨fun h hm => h s hm rfl, fun h t ht e => h (e ▸ ht)⟩
theorem cntS_snoc {r : List ByteArray} {s t : ByteArray} : cntS (r ++ [t]) s = cntS r s + if t = s then 1 else 0 := by
  simp only [cntS, List.filter_append, List.length_append, List.filter_cons, List.filter_nil]
  by_cases h : t = s <;> simp [h]
theorem cntS_le (r : List ByteArray) (s : ByteArray) : cntS r s ≤ r.length := List.length_filter_le ..
def firsts (l : List ByteArray) : List ByteArray := l.foldl (fun r s => if hasS r s then r else r ++ [s]) []
def sendsN (x : Nd) : Bool := decide (x.kind = 4) || decide (x.kind = 6)
def sendsOf (l : List Nd) : List ByteArray := (l.filter sendsN).map Nd.name
theorem firsts_snoc (l : List ByteArray) (s : ByteArray) : firsts (l ++ [s]) = if hasS (firsts l) s then firsts l else firsts l ++ [s] := by
  unfold firsts
  rw [List.foldl_append]
  rfl
theorem snoc_ind {α : Type} {p : List α → Prop} (h0 : p []) (h1 : ∀ l x, p l → p (l ++ [x])) : ∀ l, p l := by
  intro l
  have : ∀ n (l : List α), l.length = n → p l := by
    intro n
    induction n with
    | zero => intro l h; rw [List.length_eq_zero_iff.1 h]; exact h0
    | succ n ih =>
      intro l h
      have hne : l ≠ [] := fun e => by rw [e] at h; cases h
      rw [← List.dropLast_concat_getLast hne]
      exact h1 _ _ (ih _ (by rw [List.length_dropLast]; omega))
  exact this _ l rfl
theorem mem_firsts {s : ByteArray} : ∀ l, s ∈ firsts l ↔ s ∈ l := by
  refine snoc_ind (by simp [firsts]) (fun l x ih => ?_)
  rw [firsts_snoc]
  split
  · rename_i h
    have h := hasS_iff.1 h
    rw [ih, List.mem_append, List.mem_singleton]
    refine ⟨.inl, fun h2 => h2.elim id fun e => ?_⟩
    subst e; exact ih.1 h
  · simp [ih]
theorem firsts_le : ∀ l, (firsts l).length ≤ l.length := by
  refine snoc_ind (by simp [firsts]) (fun l x ih => ?_)
  rw [firsts_snoc]
  split
  · simp; omega
  · simp; omega
theorem firsts_cnt (l : List ByteArray) (s : ByteArray) : hasS (firsts l) s = decide (cntS l s ≠ 0) := by
  rw [Bool.eq_iff_iff, hasS_iff, mem_firsts, decide_eq_true_eq]
  have := @cntS_zero l s
  exact ⟨fun h e => this.1 e h, fun h => Classical.byContradiction fun hn => h (this.2 hn)⟩
theorem sendsOf_append (l r : List Nd) : sendsOf (l ++ r) = sendsOf l ++ sendsOf r := by simp [sendsOf]
theorem sendsOf_le (l : List Nd) : (sendsOf l).length ≤ l.length := by simp only [sendsOf, List.length_map]; exact List.length_filter_le ..
theorem sendsOf_one (x : Nd) : sendsOf [x] = if sendsN x then [x.name] else [] := by
  simp only [sendsOf, List.filter_cons, List.filter_nil]; split <;> rfl
theorem look_get {m : List (ByteArray × Int)} {s : ByteArray} : lookV false (.int .i64 0) ((mget s m).map vi) = vi ((mget s m).getD 0) := by
  cases mget s m <;> rfl
end Go.V

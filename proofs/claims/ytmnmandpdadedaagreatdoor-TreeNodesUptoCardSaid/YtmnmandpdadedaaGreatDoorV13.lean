/-
  Regions that draw their order and may panic.
-/
import Derived.Test.YtmnmandpdadedaaGreatDoorV10
import Derived.Test.YtmnmandpdadedaaGreatDoorV12
import Derived.Test.YtmnmandpdadedaaGreatDoorV8
import Derived.Test.YtmnmandpdadedaaGreatDoorV9
set_option linter.unusedSimpArgs false
set_option linter.unusedVariables false
namespace Go.V
open Go
section
variable {ops : Array Oper}
theorem coverC {both : Bool} {rs : List (RO × Oper)} {orders : List (List Nat)} (hc : coverG both rs ops orders = true) (t : Nat) :
    ∃ o ∈ orders, o.Perm (sched ops ops.size t (Array.replicate ops.size false)) ∧ (sched ops ops.size t (Array.replicate ops.size false)).Nodup ∧ (∀ i ∈ o, i < ops.size) ∧
      o.Pairwise (fun x y => indep (rs.getD y default) (rs.getD x default) = true ∨ [x, y].Sublist (sched ops ops.size t (Array.replicate ops.size false))) := by
  simp only [coverG, Bool.and_eq_true] at hc
  obtain ⟨⟨⟨hb, hd⟩, ho⟩, hp⟩ := hc
  have hu : unl ops (Array.replicate ops.size false) = List.range ops.size := by
    simp only [unl]
    refine List.filter_eq_self.2 (fun i hi => ?_)
    have := List.mem_range.1 hi
    simp [this]
  obtain ⟨s1, s2, _⟩ := sched_spec hb ops.size t (Array.replicate ops.size false) (by simp) (by rw [hu]; simp)
  generalize hl : sched ops ops.size t (Array.replicate ops.size false) = l at s1 s2 ⊢
  have hanc : ∀ {x y : Nat}, y < ops.size → x ∈ (ancs ops).getD y [] → Bef l x y := fun hy hx => hl ▸ anc_bef hb (Nat.le_refl _) (ancs_sound hx) hy
  have hmem : ∀ i, i ∈ l ↔ i < ops.size := fun i => by rw [s2, hu]; simp
  generalize hdd : clash both rs (ancs ops) ops.size = d at hd hp
  have hdlt : ∀ x ∈ d, x < ops.size := by
    intro x hx; rw [← hdd] at hx; simp only [clash, List.mem_filter, List.mem_range] at hx; exact hx.1
  have hsp : (l.filter (d.contains ·)).Perm d := by
    refine (List.perm_ext_iff_of_nodup (s1.filter _) (nodupB_spec hd)).2 (fun x => ?_)
    simp only [List.mem_filter, hmem, List.contains_iff_mem]
    exact ⟨fun h => h.2, fun h => ⟨hdlt x h, h⟩⟩
  have hall := List.all_eq_true.1 hp _ (mem_perms hsp)
  simp only [Bool.or_eq_true, Bool.not_eq_true', List.any_eq_true] at hall
  have hresp : pairsAll (fun x y => !((ancs ops).getD x []).contains y) (l.filter (d.contains ·)) = true := by
    have key : ∀ (s : List Nat), s.Sublist l → pairsAll (fun x y => !((ancs ops).getD x []).contains y) s = true := by
      intro s
      induction s with
      | nil => intro _; rfl
      | cons x s ih =>
        intro hs
        simp only [pairsAll, Bool.and_eq_true, List.all_eq_true, Bool.not_eq_true']
        refine ⟨fun y hy => ?_, ih ((List.sublist_cons_self x s).trans hs)⟩
        have h2 : [x, y].Sublist l := (List.Sublist.cons_cons x (List.singleton_sublist.2 hy)).trans hs
        have b1 := sub_bef s1 h2
        cases hcc : ((ancs ops).getD x []).contains y with
        | false => rfl
        | true =>
          have b2 := hanc ((hmem x).1 b1.1) (List.contains_iff_mem.1 hcc)
          have := b1.2.2; have := b2.2.2; omega
    exact key _ List.filter_sublist
  rcases hall with hall | ⟨o, hom, hpo⟩
  · rw [hresp] at hall; cases hall
  have ho' := List.all_eq_true.1 ho o hom
  simp only [Bool.and_eq_true, beq_iff_eq, List.all_eq_true, decide_eq_true_eq] at ho'
  obtain ⟨⟨o1, o2⟩, o3⟩ := ho'
  have hperm : o.Perm l := by
    have hol : o.Subset l := fun x hx => (hmem x).2 (o3 x hx)
    have hno := nodupB_spec o2
    have hl' : l.length = ops.size := by
      have : l.Perm (List.range ops.size) := (List.perm_ext_iff_of_nodup s1 List.nodup_range).2 (fun x => by simp [hmem])
      simpa using this.length_eq
    have hor : o.Perm (List.range ops.size) := by
      refine (List.perm_ext_iff_of_nodup hno List.nodup_range).2 (fun x => ?_)
      refine ⟨fun hx => by simpa using o3 x hx, fun hx => ?_⟩
      exact mem_of_full hno o3 o1 (by simpa using hx)
    exact hor.trans ((List.perm_ext_iff_of_nodup s1 List.nodup_range).2 (fun x => by simp [hmem])).symm
  refine ⟨o, hom, hperm, s1, fun i hi => (hmem i).1 (hperm.subset hi), ?_⟩
  refine (pairsAll_spec hpo).imp_of_mem (fun {x y} hx hy h => ?_)
  simp only [Bool.or_eq_true] at h
  rcases h with (h | h) | h
  · left
    simp only [indepAt] at h
    split at h
    · rename_i p q hp hq
      simp only [List.getD_eq_getElem?_getD, hp, hq, Option.getD_some]
      exact h
    · cases h
  · right; exact (hanc (o3 y hy) (List.contains_iff_mem.1 h)).sub
  · right; exact (befB_sub h).trans List.filter_sublist
theorem eq_of_order {o l : List Nat} (hp : o.Perm l) (hn : l.Nodup) (h : o.Pairwise fun x y => [x, y].Sublist l) : o = l := by
  refine List.Perm.eq_of_pairwise (le := fun x y => [x, y].Sublist l) (fun a b _ _ h1 h2 => ?_) h (List.pairwise_iff_forall_sublist.2 fun h => h) hp
  have b1 := (sub_bef hn h1).2.2
  have b2 := (sub_bef hn h2).2.2
  omega
def envO (X : Nat → RO × Oper) (val : Nat → Value) : List Nat → Env → Env
  | [], Γ => Γ
  | i :: r, Γ => envO X val r (putE (X i).1.dst (val i) Γ)
def writes (X : Nat → RO × Oper) (t j : Nat) : Bool := (X j).1.dst == some t
theorem envO_filter {X : Nat → RO × Oper} {val : Nat → Value} {t : Nat} : ∀ {p : List Nat} {Γ Δ : Env}, look Γ t = look Δ t → look (envO X val p Γ) t = look (envO X val (p.filter (writes X t)) Δ) t := by
  intro p
  induction p with
  | nil => intro Γ Δ h; exact h
  | cons j p ih =>
    intro Γ Δ h
    simp only [envO, List.filter_cons]
    by_cases hw : writes X t j = true
    · rw [if_pos hw]
      simp only [envO]
      refine ih ?_
      simp only [writes, beq_iff_eq] at hw
      rw [hw]; simp [putE, look]
    · rw [if_neg hw]
      refine ih ?_
      simp only [writes, beq_iff_eq] at hw
      rw [← h]
      cases hd : (X j).1.dst with
      | none => rfl
      | some d =>
        have : d ≠ t := fun e => hw (by rw [hd, e])
        simp [putE, look, this]
theorem split_at {i : Nat} : ∀ {a b c d : List Nat}, a ++ i :: b = c ++ i :: d → i ∉ a → i ∉ c → a = c := by
  intro a
  induction a with
  | nil =>
    intro b c d h _ hc
    cases c with
    | nil => rfl
    | cons x c => simp at h; exact absurd (by simp [h.1]) hc
  | cons x a ih =>
    intro b c d h ha hc
    cases c with
    | nil => simp at h; exact absurd (by simp [h.1]) ha
    | cons y c =>
      simp only [List.cons_append, List.cons.injEq] at h
      rw [h.1, ih h.2 (fun h => ha (by simp [h])) (fun h => hc (by simp [h]))]
theorem env_alike {X : Nat → RO × Oper} {val : Nat → Value} {Γ : Env} {p q l1 l2 : List Nat} {i t : Nat} (hp : (p ++ i :: q).Perm (l1 ++ i :: l2)) (hn : (l1 ++ i :: l2).Nodup)
    (hpw : (p ++ i :: q).Pairwise (fun x y => indep (X y) (X x) = true ∨ [x, y].Sublist (l1 ++ i :: l2))) (ht : t ∈ looks (X i)) : look (envO X val p Γ) t = look (envO X val l1 Γ) t := by
  have key : (p ++ i :: q).filter (fun j => decide (j = i) || writes X t j) = (l1 ++ i :: l2).filter (fun j => decide (j = i) || writes X t j) := by
    refine eq_of_order (hp.filter _) (hn.filter _) ?_
    have hno : (p ++ i :: q).Pairwise (fun x y => x ≠ y) := hp.nodup_iff.2 hn
    refine ((hpw.and hno).filter _).imp_of_mem ?_
    intro x y hx hy ⟨h, hne⟩
    have fx := (List.mem_filter.1 hx).2
    have fy := (List.mem_filter.1 hy).2
    rcases h with h | h
    · exfalso
      simp only [indep, Bool.and_eq_true] at h
      obtain ⟨⟨h1, h2⟩, _⟩ := h
      have a1 := apart1_spec h1
      have a2 := apart1_spec h2
      simp only [Bool.or_eq_true, decide_eq_true_eq, writes, beq_iff_eq] at fx fy
      rcases fx with fx | fx <;> rcases fy with fy | fy
      · exact hne (fx.trans fy.symm)
      · subst fx; exact (a1 t fy).1 ht
      · subst fy; exact (a2 t fx).1 ht
      · exact (a1 t fy).2 fx
    · have := h.filter (fun j => decide (j = i) || writes X t j)
      rwa [show List.filter (fun j => decide (j = i) || writes X t j) [x, y] = [x, y] by simp only [List.filter, fx, fy]] at this
  have hip : i ∉ p := by
    have := hp.nodup_iff.2 hn
    intro h
    exact (List.nodup_append.1 this).2.2 i h i (by simp) rfl
  have hil : i ∉ l1 := fun h => (List.nodup_append.1 hn).2.2 i h i (by simp) rfl
  rw [List.filter_append, List.filter_append, List.filter_cons_of_pos (by simp), List.filter_cons_of_pos (by simp)] at key
  have h2 := split_at key (fun h => hip ((List.mem_filter.1 h).1)) (fun h => hil ((List.mem_filter.1 h).1))
  have fe : ∀ l : List Nat, i ∉ l → l.filter (fun j => decide (j = i) || writes X t j) = l.filter (writes X t) := fun l hl => List.filter_congr fun j hj => by
    have : j ≠ i := fun e => hl (e ▸ hj)
    simp [this]
  rw [fe p hip, fe l1 hil] at h2
  rw [envO_filter (p := p) rfl, envO_filter (p := l1) rfl, h2]
theorem envO_snoc {X : Nat → RO × Oper} {val : Nat → Value} {i : Nat} : ∀ {p : List Nat} {Γ : Env}, envO X val (p ++ [i]) Γ = putE (X i).1.dst (val i) (envO X val p Γ) := by
  intro p
  induction p with
  | nil => intro Γ; rfl
  | cons j p ih => intro Γ; exact ih
def StepZ (P : Program) (n : Nat) (X : Nat → RO × Oper) (PZ : List PanicEntry → SH → Prop) (Hs : SH → Prop) (val : Nat → Value) (φ : Nat → Prop) (i : Nat) (Δ : Env) : Prop :=
  ∀ Γ H, (∀ t ∈ looks (X i), ∀ v, look Δ t = some v → look Γ t = some v) → Hs H → VO P n [(X i).1] Γ H (fun ch _ H' => PZ ch H') (fun Γ' H' => Γ' = putE (X i).1.dst (val i) Γ ∧ Hs H' ∧ φ i)
theorem run_any {P : Program} {n : Nat} {X : Nat → RO × Oper} {PZ : List PanicEntry → SH → Prop} {Hs : SH → Prop} {val : Nat → Value} {φ : Nat → Prop} {Γ0 : Env} {o l : List Nat} (hp : o.Perm l) (hn : l.Nodup)
    (hpw : o.Pairwise (fun x y => indep (X y) (X x) = true ∨ [x, y].Sublist l)) (hlow : ∀ i ∈ l, LowAll P n [(X i).1] [X i]) (hstep : ∀ p i q, o = p ++ i :: q → StepZ P n X PZ Hs val φ i (envO X val p Γ0))
    {F : List Atom} {ZZ : Exit → Act → World → Prop} {Q : Act → World → Prop} {a0 : Act} {w0 : World}
    (hq : ∀ a' w' H', Agree n (envO X val l Γ0) a' → a'.defers = a0.defers → Sat w' (H'.flatten ++ F) → Keeps w0 w' → Hs H' → (∀ i ∈ l, φ i) → Q a' w')
    (hz : ∀ ch a' w' H', a'.tmps.size = n → a'.defers = a0.defers → Sat w' (H'.flatten ++ F) → Keeps w0 w' → PZ ch H' → ZZ (.panic ch) a' w') :
    ∀ (l2 l1 : List Nat), l = l1 ++ l2 → ∀ a w H, Agree n (envO X val l1 Γ0) a → a.defers = a0.defers → Sat w (H.flatten ++ F) → Keeps w0 w → Hs H → (∀ i ∈ l1, φ i) → wpR P ZZ Q (l2.map X) a w := by
  intro l2
  induction l2 with
  | nil =>
    intro l1 hl a w H ha hd hs hk hh hφ
    rw [List.append_nil] at hl
    subst hl
    exact hq a w H ha hd hs hk hh hφ
  | cons i l2 ih =>
    intro l1 hl a w H ha hd hs hk hh hφ
    have hi : i ∈ o := hp.mem_iff.2 (by rw [hl]; simp)
    obtain ⟨p, q, ho⟩ := List.append_of_mem hi
    have st := hstep p i q ho (envO X val l1 Γ0) H (fun t ht v hv => by
      rw [← env_alike (val := val) (Γ := Γ0) (by rw [← ho, ← hl]; exact hp) (by rw [← hl]; exact hn) (by rw [← ho, ← hl]; exact hpw) ht]; exact hv) hh
    have := st [X i] (hlow i (by rw [hl]; simp)) a w F ZZ (wpR P ZZ Q (l2.map X)) ha hs
      (fun a' w' Γ' H' ⟨k1, k2, k3⟩ g1 g2 g3 g4 => by
        subst k1
        exact ih (l1 ++ [i]) (by rw [hl]; simp) a' w' H' (by rw [envO_snoc]; exact g1) (g2.trans hd) g3 (hk.trans g4) k2 (fun j hj => by
          rcases List.mem_append.1 hj with h | h
          · exact hφ j h
          · rw [List.mem_singleton.1 h]; exact k3))
      (fun ch a' w' Γ' H' k g1 g2 g3 g4 => hz ch a' w' H' g1.size (g2.trans hd) g3 (hk.trans g4) k)
    exact this
def argO : R → List Operand
  | .call _ xs => xs
  | r => rOps r
def looksR (r : RO) : List Nat := guardTmps r.guard ++ opTmps (argO r.op)
def okR (r : RO) : Bool := isPure r.op || isRead r.op || (match r.op with | .call _ _ => true | _ => false)
def StepsZ (P : Program) (n : Nat) (PZ : List PanicEntry → SH → Prop) (Hs : SH → Prop) : List RO → Env → Prop → Prop
  | [], _, Φ => ¬ Φ
  | r :: rs, Δ, Φ => okR r = true ∧ ∃ (v : Value) (φ : Prop), (∀ Γ H, (∀ t ∈ looksR r, ∀ u, look Δ t = some u → look Γ t = some u) → Hs H → VO P n [r] Γ H (fun ch _ H' => PZ ch H') (fun Γ' H' => Γ' = putE r.dst v Γ ∧ Hs H' ∧ φ)) ∧
      StepsZ P n PZ Hs rs (putE r.dst v Δ) (Φ ∧ φ)
theorem looksR_sub {P : Program} {n : Nat} {x : RO × Oper} (hl : lowRO P n ops x.2 = some x.1) (hok : okR x.1 = true) : ∀ t ∈ looksR x.1, t ∈ looks x := by
  intro t ht
  simp only [looksR, looks, List.mem_append] at ht ⊢
  rcases ht with ht | ht
  · exact .inl ht
  right
  by_cases hq : (isPure x.1.op || isRead x.1.op) = true
  · rw [if_pos hq]
    have : argO x.1.op = rOps x.1.op := by
      cases hop : x.1.op <;> first | rfl | (rw [hop] at hq; cases hq)
    rwa [this] at ht
  · rw [if_neg hq]
    simp only [okR, hq, Bool.false_or] at hok
    cases hop : x.1.op with
    | call f xs =>
      have g1 := (lowRO_spec hl).1
      rw [hop] at g1
      obtain ⟨c, h1, h2, h3, h4⟩ := low_call g1
      rw [hop] at ht
      simp only [argO] at ht
      rw [h1]
      simp only [Op.operands, Call.operands, Array.toList_append, h3, opTmps, List.filterMap_append, List.mem_append]
      exact .inr ht
    | _ => rw [hop] at hok; cases hok
theorem envO_congr {X : Nat → RO × Oper} {val val' : Nat → Value} : ∀ {p : List Nat} {Γ : Env}, (∀ j ∈ p, val j = val' j) → envO X val p Γ = envO X val' p Γ := by
  intro p
  induction p with
  | nil => intro Γ _; rfl
  | cons j p ih => intro Γ h; simp only [envO]; rw [h j (by simp)]; exact ih fun k hk => h k (by simp [hk])
theorem stepsZ_funs {P : Program} {n : Nat} {X : Nat → RO × Oper} {PZ : List PanicEntry → SH → Prop} {Hs : SH → Prop} : ∀ (o : List Nat) (Γ : Env) (Φ : Prop), o.Nodup → (∀ i ∈ o, okR (X i).1 = true → ∀ t ∈ looksR (X i).1, t ∈ looks (X i)) → StepsZ P n PZ Hs (o.map fun i => (X i).1) Γ Φ →
    ∃ (val : Nat → Value) (φ : Nat → Prop), (∀ p i q, o = p ++ i :: q → StepZ P n X PZ Hs val φ i (envO X val p Γ)) ∧ ¬ (Φ ∧ ∀ i ∈ o, φ i) := by
  intro o
  induction o with
  | nil => intro Γ Φ _ _ h; exact ⟨fun _ => undef, fun _ => True, fun p i q e => by simp at e, fun hh => h hh.1⟩
  | cons i o ih =>
    intro Γ Φ hn hsub h
    obtain ⟨hok, v, φ0, h1, h2⟩ := h
    have hn' := List.nodup_cons.1 hn
    obtain ⟨val, φ, g1, g2⟩ := ih _ _ hn'.2 (fun j hj => hsub j (by simp [hj])) h2
    refine ⟨fun j => if j = i then v else val j, fun j => if j = i then φ0 else φ j, fun p j q e => ?_, fun hh => g2 ⟨⟨hh.1, ?_⟩, fun j hj => ?_⟩⟩
    · cases p with
      | nil =>
        simp only [List.nil_append, List.cons.injEq] at e
        obtain ⟨rfl, rfl⟩ := e
        intro Γ' H hl hH
        have := h1 Γ' H (fun t ht => hl t (hsub i (by simp) hok t ht)) hH
        simpa using this
      | cons k p =>
        simp only [List.cons_append, List.cons.injEq] at e
        obtain ⟨rfl, e⟩ := e
        have hj : j ∈ o := by rw [e]; simp
        have hji : j ≠ i := fun e2 => hn'.1 (e2 ▸ hj)
        have st := g1 p j q e
        have hc : envO X (fun j => if j = i then v else val j) p (putE (X i).1.dst v Γ) = envO X val p (putE (X i).1.dst v Γ) := envO_congr fun k hk => by
          have hk2 : k ∈ o := by rw [e]; simp [hk]
          have hki : k ≠ i := fun e2 => hn'.1 (e2 ▸ hk2)
          simp [hki]
        intro Γ' H hl hH
        simp only [envO, if_pos] at hl
        rw [hc] at hl
        have := st Γ' H hl hH
        simpa [hji] using this
    · have := hh.2 i (by simp); simpa using this
    · have h3 := hh.2 j (by simp [hj])
      have hji : j ≠ i := fun e2 => hn'.1 (e2 ▸ hj)
      simpa [hji] using h3
end
theorem VC.drawZ {P : Program} {n : Nat} {Γ : Env} {H : SH} {Q : Exit → Env → SH → Prop} {rss : List (List RO)} {keep : List Nat} (PZ : List PanicEntry → SH → Prop) (Hs : SH → Prop) (h0 : Hs H)
    (h : ∀ rs ∈ rss, StepsZ P n PZ Hs rs Γ True) (hz : ∀ ch H', PZ ch H' → Q (.panic ch) [] H') : VC P n (.draw rss keep) Γ H Q := by
  intro ρ kp od code hl a w F QQ hr ha hs hh
  obtain ⟨id, ops, rs, rfl, h1, hm, hc, rfl, rfl⟩ := lowC_inv hl
  have hlen := (lowList_length h1).1
  refine wpIn_region_draw (fun t => ?_)
  have hsched : Region.schedule (P.follows .mixedOrders) ops t = sched ops ops.size t (Array.replicate ops.size false) := by simp [Region.schedule, hm, Region.linearise, sched]
  rw [hsched]
  obtain ⟨both, hcb⟩ : ∃ both, coverG both (rs.zip ops.toList) ops (od id) = true := by
    unfold coverB at hc
    rcases Bool.or_eq_true_iff.1 hc with hc | hc
    · exact ⟨_, hc⟩
    · exact ⟨_, hc⟩
  obtain ⟨o, hom, hp, hn, hlt, hpw⟩ := coverC hcb t
  have hX : ∀ i, i < ops.size → ops[i]? = some ((rs.zip ops.toList).getD i default).2 ∧ ((rs.zip ops.toList).getD i default).1 = rs.getD i default ∧ lowRO P n ops ((rs.zip ops.toList).getD i default).2 = some ((rs.zip ops.toList).getD i default).1 := fun i hi => zip_getD h1 hi
  have hlt2 : ∀ i ∈ sched ops ops.size t (Array.replicate ops.size false), i < ops.size := fun i hi => hlt i (hp.mem_iff.2 hi)
  refine wpR_sound (P := P) (ρ := ρ) (n := n) (ops := ops) (X := fun i => (rs.zip ops.toList).getD i default) (QQ := QQ) (fun i hi => ⟨(hX i hi).1, (hX i hi).2.2⟩) _ a _ hlt2 ?_
  have hst := h (o.map fun i => rs.getD i default) (List.mem_map.2 ⟨o, hom, rfl⟩)
  have hmap : (o.map fun i => rs.getD i default) = o.map fun i => ((rs.zip ops.toList).getD i default).1 := List.map_congr_left fun i hi => (hX i (hlt i hi)).2.1.symm
  rw [hmap] at hst
  obtain ⟨val, φ, g1, g2⟩ := stepsZ_funs (X := fun i => (rs.zip ops.toList).getD i default) o Γ True (hp.nodup_iff.2 hn) (fun i hi hok => looksR_sub (hX i (hlt i hi)).2.2 hok) hst
  refine run_any (X := fun i => (rs.zip ops.toList).getD i default) (l := sched ops ops.size t (Array.replicate ops.size false)) (val := val) (φ := φ) (Γ0 := Γ) (a0 := a) (w0 := { w with drawn := w.drawn + 1 }) (F := F) hp hn hpw (fun i hi => ⟨rfl, fun x hx => by rw [List.mem_singleton.1 hx]; exact ⟨ops, (hX i (hlt2 i hi)).2.2⟩⟩) g1 ?_ ?_ _ [] rfl a _ H ha rfl (hs.drawn _) (.refl _) h0 (fun i hi => by cases hi)
  · intro a' w' H' _ _ _ _ _ hall
    exact absurd ⟨trivial, fun i hi => hall i (hp.mem_iff.1 hi)⟩ g2
  · intro ch a' w' H' k1 k2 k3 k4 k5
    exact hh (.panic ch) a' w' [] H' [] (hz ch H' k5) ⟨k1, fun t v e => by cases e⟩ k2 k3.nomarks (((Keeps.refl w).drawn _).trans k4)
section
variable {P : Program} {n : Nat} {rs : List RO} {Γ : Env} {H : SH} {Z : List PanicEntry → Env → SH → Prop} {K : Env → SH → Prop} {d : Option Nat}
theorem st_max {x y : Operand} {a b : Nat} (hx : ev Γ x = some (vi a)) (hy : ev Γ y = some (vi b)) (h : VO P n rs (putE d (vi (max a b : Nat)) Γ) H Z K) :
    VO P n (⟨d, none, .max2 x y⟩ :: rs) Γ H Z K := by
  refine VO.pure rfl (v := vi (max a b : Nat)) (fun ρ hρ => ?_) h
  have e : (if (b : Int) > (a : Int) then (b : Int) else (a : Int)) = ((max a b : Nat) : Int) := by split <;> omega
  simp only [pureV, hρ _ _ hx, hρ _ _ hy, vi, e]
theorem st_eqI {x y : Operand} {k : IntKind} {a b : Int} {t : Bool} (hx : ev Γ x = some (.int k a)) (hy : ev Γ y = some (.int k b)) (ht : decide (a = b) = t) (h : VO P n rs (putE d (.bool t) Γ) H Z K) :
    VO P n (⟨d, none, .bin .eql x y⟩ :: rs) Γ H Z K :=
  VO.pure rfl (v := .bool t) (fun ρ hρ => by subst ht; simp [pureV, hρ _ _ hx, hρ _ _ hy, binV, intV]) h
theorem st_leI {x y : Operand} {k : IntKind} {a b : Int} {t : Bool} (hx : ev Γ x = some (.int k a)) (hy : ev Γ y = some (.int k b)) (ht : decide (a ≤ b) = t) (h : VO P n rs (putE d (.bool t) Γ) H Z K) :
    VO P n (⟨d, none, .bin .leq x y⟩ :: rs) Γ H Z K :=
  VO.pure rfl (v := .bool t) (fun ρ hρ => by subst ht; simp [pureV, hρ _ _ hx, hρ _ _ hy, binV, intV]) h
theorem st_lenI {x : Operand} {a : Option Addr} {m c : Nat} (hx : ev Γ x = some (.slice a m c)) (h : VO P n rs (putE d (vi m) Γ) H Z K) :
    VO P n (⟨d, none, .lenL x⟩ :: rs) Γ H Z K :=
  VO.pure rfl (v := vi m) (fun ρ hρ => by simp [pureV, hρ _ _ hx, vi]) h
end
theorem GOHS {R G : Prop} (r : R) (h : Later R → G := by
  intro later
  (repeat (first
      | (first
    | (apply st_gt; rfl)
    | (apply st_shr; rfl; rfl; omega; omega; (first | with_reducible exact Int.toNat_natCast _ | ((try simp only [Int.reduceToNat]); rfl)); (first | with_reducible exact Int.toNat_natCast _ | ((try simp only [Int.reduceToNat]); rfl)); (first | assumption | ((try simp only [Nat.reducePow]); rfl)); rfl)
    | (apply st_shl; rfl; rfl; omega; omega; (first | with_reducible exact Int.toNat_natCast _ | ((try simp only [Int.reduceToNat]); rfl)); (first | with_reducible exact Int.toNat_natCast _ | ((try simp only [Int.reduceToNat]); rfl)); (first | assumption | ((try simp only [Nat.reducePow]); rfl)); rfl)
    | (apply st_and; rfl; rfl; (first | exact ltM | (focus (apply ltB; (repeat' (first | exact modM | apply orC | apply andN_lt | apply divC | omega)); done)) | omega); (first | exact ltM | (focus (apply ltB; (repeat' (first | exact modM | apply orC | apply andN_lt | apply divC | omega)); done)) | omega); (first | with_reducible exact Int.toNat_natCast _ | ((try simp only [Int.reduceToNat]); rfl)); (first | with_reducible exact Int.toNat_natCast _ | ((try simp only [Int.reduceToNat]); rfl)); (first | exact and1 _ | exact and7 _ | exact and15 _ | rfl))
    | (apply st_or; rfl; rfl; (first | exact ltM | (focus (apply ltB; (repeat' (first | exact modM | apply orC | apply andN_lt | apply divC | omega)); done)) | omega); (first | exact ltM | (focus (apply ltB; (repeat' (first | exact modM | apply orC | apply andN_lt | apply divC | omega)); done)) | omega); (first | with_reducible exact Int.toNat_natCast _ | ((try simp only [Int.reduceToNat]); rfl)); (first | with_reducible exact Int.toNat_natCast _ | ((try simp only [Int.reduceToNat]); rfl)); rfl)
    | (apply st_andN; rfl; rfl; (first | exact ltM | (focus (apply ltB; (repeat' (first | exact modM | apply orC | apply andN_lt | apply divC | omega)); done)) | omega); (first | exact ltM | (focus (apply ltB; (repeat' (first | exact modM | apply orC | apply andN_lt | apply divC | omega)); done)) | omega); (first | with_reducible exact Int.toNat_natCast _ | ((try simp only [Int.reduceToNat]); rfl)); (first | with_reducible exact Int.toNat_natCast _ | ((try simp only [Int.reduceToNat]); rfl)))
    | (apply st_subU; rfl; rfl; omega; omega; (first | with_reducible exact Int.toNat_natCast _ | ((try simp only [Int.reduceToNat]); rfl)); (first | with_reducible exact Int.toNat_natCast _ | ((try simp only [Int.reduceToNat]); rfl)))
    | (apply st_addB; rfl; rfl; omega; omega; omega; (first | with_reducible exact Int.toNat_natCast _ | ((try simp only [Int.reduceToNat]); rfl)); (first | with_reducible exact Int.toNat_natCast _ | ((try simp only [Int.reduceToNat]); rfl)))
    | (apply st_convN; rfl; (first | exact wrapI (by omega) | exact wrapU_lt (by omega) | exact wrapB_lt (by omega)))
    | (apply st_quoN; rfl; rfl; omega; omega; (first | with_reducible exact Int.toNat_natCast _ | ((try simp only [Int.reduceToNat]); rfl)); (first | with_reducible exact Int.toNat_natCast _ | ((try simp only [Int.reduceToNat]); rfl)))
    | (apply st_remN; rfl; rfl; omega; omega; (first | with_reducible exact Int.toNat_natCast _ | ((try simp only [Int.reduceToNat]); rfl)); (first | with_reducible exact Int.toNat_natCast _ | ((try simp only [Int.reduceToNat]); rfl)))
    | (apply st_gf; rfl; rfl)
    | (apply st_gu; rfl)
    | (apply st_mv; rfl)
    | (apply st_nil; rfl)
    | (apply st_pick_t; rfl; rfl)
    | (apply st_pick_f; rfl; rfl)
    | (apply st_fld; rfl; ((try simp only [Nat.zero_add, Nat.add_zero, Nat.reduceAdd, Nat.reduceMul, Nat.add_assoc, Int.toNat_natCast, Nat.mul_one]); rfl))
    | (apply st_load1; rfl; (focus ((repeat (first | (apply Has.cells; omega; rfl) | apply Has.there)); done)))
    | (apply st_load1; rfl; (focus ((repeat (first | (apply Has.among; assumption) | apply Has.there)); done)))
    | (apply st_loadM; rfl; (focus ((repeat (first | (apply HasM.cells; omega; (focus (simp only [List.length_cons, List.length_nil, Nat.reduceAdd, Nat.zero_add, Nat.reduceSub, Nat.sub_self, Nat.reduceLeDiff, Nat.le_refl]; done)); (focus (simp only [lnb, Value.cells, Nat.zero_add, Nat.reduceEqDiff, ↓reduceIte, eq_self, Nat.reduceAdd, Nat.reduceSub, Nat.sub_self, Nat.reduceLeDiff, Nat.le_refl, and_self, rep, zeroRow] <;> rfl)); rfl) | apply HasM.there)); done)))
    | (apply st_extL; rfl; rfl)
    | (apply st_ext; rfl; rfl)
    | (apply st_add; rfl; rfl; omega)
    | (apply st_sub; rfl; rfl; omega)
    | (apply st_mul; rfl; rfl; omega)
    | (apply st_rem; rfl; rfl; decide)
    | (apply st_idxL; rfl; rfl; omega; ((try simp only [Nat.zero_add, Nat.add_zero, Nat.reduceAdd, Nat.reduceMul, Nat.add_assoc, Int.toNat_natCast, Nat.mul_one]); rfl))
    | (apply st_idxA; rfl; rfl; omega; ((try simp only [Nat.zero_add, Nat.add_zero, Nat.reduceAdd, Nat.reduceMul, Nat.add_assoc, Int.toNat_natCast, Nat.mul_one]); rfl))
    | (apply st_build; rfl; (focus (simp only [lnb, Value.cells, Nat.zero_add, Nat.reduceEqDiff, ↓reduceIte, eq_self, Nat.reduceAdd, Nat.reduceSub, Nat.sub_self, Nat.reduceLeDiff, Nat.le_refl, and_self, rep, zeroRow] <;> rfl)))
    | (apply st_store'; rfl; rfl; (focus (simp only [lnb, Value.cells, Nat.zero_add, Nat.reduceEqDiff, ↓reduceIte, eq_self, Nat.reduceAdd, Nat.reduceSub, Nat.sub_self, Nat.reduceLeDiff, Nat.le_refl, and_self, rep, zeroRow] <;> rfl)); rfl; rfl; (focus ((repeat (first | (apply Upd.cells; omega; (focus (simp only [List.length_cons, List.length_nil, Nat.reduceAdd, Nat.zero_add, Nat.reduceSub, Nat.sub_self, Nat.reduceLeDiff, Nat.le_refl]; done)); (focus (simp only [lnb, Value.cells, Nat.zero_add, Nat.reduceEqDiff, ↓reduceIte, eq_self, Nat.reduceAdd, Nat.reduceSub, Nat.sub_self, Nat.reduceLeDiff, Nat.le_refl, and_self, rep, zeroRow] <;> rfl))) | apply Upd.there)); done)))
    | (apply st_pure; rfl; rfl; rfl))
      | (refine VO.nil ?_; simp only [V.argsEnv, V.restr, V.look, V.putE, V.thenQ, V.blockQ, Nat.zero_add, Nat.reduceAdd, Nat.reduceEqDiff, ↓reduceIte, eq_self])
      | refine VC.seq_reg ?_
      | refine VC.seq_draw1 ?_
      | refine VC.seq_block ?_
      | refine VC.seq_skip ?_
      | refine VC.reg ?_
      | refine VC.draw1 ?_
      | refine VC.block ?_
      | (refine VC.skip ?_; try simp only [V.argsEnv, V.restr, V.look, V.putE, V.thenQ, V.blockQ, Nat.zero_add, Nat.reduceAdd, Nat.reduceEqDiff, ↓reduceIte, eq_self])
      | (refine VC.exit ?_; try simp only [V.argsEnv, V.restr, V.look, V.putE, V.thenQ, V.blockQ, Nat.zero_add, Nat.reduceAdd, Nat.reduceEqDiff, ↓reduceIte, eq_self])
      | (refine VC.ret ?_; try simp only [V.thenQ, V.blockQ])
      | (apply VC.seq_cond_t; rfl)
      | (apply VC.seq_cond_f; rfl)
      | (apply VC.cond_t; rfl)
      | (apply VC.cond_f; rfl)))
  exact later.out) : G := h ⟨r⟩
theorem HOk.free {x : HW} (hx : HOk x) {sp : Nat} {r : Nat × Nat × Nat} (h1 : 1 ≤ sp) (h5 : sp ≠ 5) (hr : x.a.rm[sp]? = some r) {e : Nat} (he : e ≤ r.2.1) : ∀ c ∈ x.a.obs, c.stop ≤ r.2.2 ∨ e ≤ c.at_ := by
  intro c hc
  obtain ⟨i, t, hi, ht, c1, c2⟩ := hx.rm.inn c hc
  have k1 := hx.rm.rng sp r hr
  have k2 := hx.rm.rng i t ht
  have c3 : c.stop ≤ t.2.1 := by split at c2 <;> omega
  by_cases e2 : i = sp
  · subst e2
    rw [hr] at ht; cases ht
    rw [if_neg h5] at c2
    exact .inl c2
  · by_cases h : i < sp
    · rcases hx.rm.apart i sp t r h ht hr hi with h2 | h2
      · exact .inl (by omega)
      · exact .inr (by omega)
    · rcases hx.rm.apart sp i r t (by omega) hr ht h1 with h2 | h2
      · exact .inr (by omega)
      · exact .inl (by omega)
section
variable {P : Program} {n : Nat} {rs : List RO} {Γ : Env} {H : SH} {Z : List PanicEntry → Env → SH → Prop} {K : Env → SH → Prop} {d : Option Nat}
end
def Ob.off (b : Ob) : Nat := if b.hd.slots = 0 then 0 else b.at_ + 2
theorem HOk.slot {x : HW} (hx : HOk x) {b : Ob} (hb : b ∈ x.a.obs) {i v : Nat} (h : b.body[i]? = some v) : x.ws[b.off + i]? = some v ∧ v < 18446744073709551616 := by
  have hok := hx.lay.ok b hb
  have hi := (List.getElem?_eq_some_iff.1 h).1
  rw [hok.len] at hi
  have := hx.lay.body b hb i hi
  unfold Ob.off
  rw [if_neg (by omega), this]
  exact ⟨h, hok.small v (List.mem_of_getElem? h)⟩
section
variable {P : Program} {n : Nat} {rs : List RO} {Γ : Env} {H : SH} {Z : List PanicEntry → Env → SH → Prop} {K : Env → SH → Prop} {d : Option Nat}
theorem st_slcL1 {size len cap l b o : Nat} {x lo : Operand} {kl : IntKind} {cl : Int} (hx : ev Γ x = some (.slice (some ⟨b, o, none⟩) len cap)) (hlo : ev Γ lo = some (.int kl cl)) (el : cl = (l : Int)) (hr : l ≤ len ∧ len ≤ cap)
    (k : VO P n rs (putE d (.slice (some ⟨b, if cap = l then o else o + l * size, none⟩) (len - l) (cap - l)) Γ) H Z K) :
    VO P n (⟨d, none, .slcL size x (some lo) none none⟩ :: rs) Γ H Z K := by
  subst el
  refine VO.pure rfl (fun ρ hρ => ?_) k
  have h1 : bound (Value.int kl (l : Int)) len = some l := by simp [bound]; omega
  simp [pureV, hρ _ _ hx, hρ _ _ hlo, bounds, h1, boundO]
end
section
variable {P : Program} {n : Nat}
def Holds (dst : Nat → Option Nat) (vv : Nat → Value × List Atom) (done : List Nat) (Γ : Env) : Prop := ∀ i ∈ done, ∀ t, dst i = some t → look Γ t = some (vv i).1
def Kept (Γ0 : Env) (ds : List Nat) (Γ : Env) : Prop := ∀ t v, look Γ0 t = some v → t ∉ ds → look Γ t = some v
theorem run_free {X : Nat → RO × Oper} {G : Nat → Value → List Atom → Prop} {base : SH} {Γ0 : Env} {ds : List Nat} {an : Nat → List Nat} (li : List Nat) (hn : li.Nodup) (hlow : ∀ i ∈ li, LowAll P n [(X i).1] [X i])
    (hds : ∀ i ∈ li, ∀ t, (X i).1.dst = some t → t ∈ ds) (hdd : ∀ i ∈ li, ∀ j ∈ li, ∀ t, (X i).1.dst = some t → (X j).1.dst = some t → i = j)
    (hbef : ∀ l1 i l2, li = l1 ++ i :: l2 → ∀ j ∈ an i, j ∈ l1)
    (step : ∀ i ∈ li, ∀ (vv : Nat → Value × List Atom), (∀ j ∈ an i, G j (vv j).1 (vv j).2) → ∀ Γ, Holds (fun j => (X j).1.dst) vv (an i) Γ → Kept Γ0 ds Γ →
      VO P n [(X i).1] Γ base (fun _ _ _ => False) (fun Γ' H' => ∃ v B, Γ' = putE (X i).1.dst v Γ ∧ G i v B ∧ Imp H' (B :: base)))
    {F : List Atom} {ZZ : Exit → Act → World → Prop} {Q : Act → World → Prop} {rest : List (RO × Oper)} {a0 : Act} {w0 : World}
    (hq : ∀ (vv : Nat → Value × List Atom) a' w' Γ', (∀ i ∈ li, G i (vv i).1 (vv i).2) → Holds (fun j => (X j).1.dst) vv li Γ' → Kept Γ0 ds Γ' → Agree n Γ' a' → a'.defers = a0.defers → Sat w' ((li.flatMap fun i => (vv i).2) ++ (base.flatten ++ F)) → Keeps w0 w' → wpR P ZZ Q rest a' w') :
    ∀ (l2 l1 : List Nat), li = l1 ++ l2 → ∀ (vv : Nat → Value × List Atom) Γ a w, (∀ i ∈ l1, G i (vv i).1 (vv i).2) → Holds (fun j => (X j).1.dst) vv l1 Γ → Kept Γ0 ds Γ → Agree n Γ a → a.defers = a0.defers → Sat w ((l1.flatMap fun i => (vv i).2) ++ (base.flatten ++ F)) → Keeps w0 w → wpR P ZZ Q (l2.map X ++ rest) a w := by
  intro l2
  induction l2 with
  | nil =>
    intro l1 hl vv Γ a w hg hh hk ha hd hs hkw
    rw [List.append_nil] at hl
    subst hl
    exact hq vv a w Γ hg hh hk ha hd hs hkw
  | cons i l2 ih =>
    intro l1 hl vv Γ a w hg hh hk ha hd hs hkw
    have hi : i ∈ li := by rw [hl]; simp
    have hb := hbef l1 i l2 hl
    have st := step i hi vv (fun j hj => hg j (hb j hj)) Γ (fun j hj => hh j (hb j hj)) hk
    have hs' : Sat w (base.flatten ++ ((l1.flatMap fun i => (vv i).2) ++ F)) := hs.perm (by
      rw [← List.append_assoc, ← List.append_assoc]
      exact List.perm_append_comm.append_right F)
    have hil : i ∉ l1 := by
      rw [hl] at hn
      intro h
      exact (List.nodup_append.1 hn).2.2 i h i (by simp) rfl
    refine st [X i] (hlow i hi) a w ((l1.flatMap fun i => (vv i).2) ++ F) ZZ (wpR P ZZ Q (l2.map X ++ rest)) ha hs' (fun a' w' Γ' H' ⟨v, B, k1, k2, k3⟩ g1 g2 g3 g4 => ?_) (fun _ _ _ _ _ k => k.elim)
    subst k1
    have hvv : ∀ j ∈ l1, (if j = i then (v, B) else vv j) = vv j := fun j hj => if_neg (fun e : j = i => hil (e ▸ hj))
    refine ih (l1 ++ [i]) (by rw [hl]; simp) (fun j => if j = i then (v, B) else vv j) _ a' w' (fun j hj => ?_) (fun j hj t ht => ?_) (fun t u hu hnd => ?_) g1 (g2.trans hd) ?_ (hkw.trans g4)
    · rcases List.mem_append.1 hj with h | h
      · simp only [hvv j h]; exact hg j h
      · rw [List.mem_singleton.1 h]; simp only [if_true]; exact k2
    · rcases List.mem_append.1 hj with h | h
      · have hji : j ≠ i := fun e => hil (e ▸ h)
        have hj2 : j ∈ li := by rw [hl]; simp [h]
        simp only [hvv j h]
        cases hd2 : (X i).1.dst with
        | none => exact hh j h t ht
        | some s =>
          have : s ≠ t := fun e => hji (hdd j hj2 i hi t ht (by rw [hd2, e]))
          simp only [putE, look, if_neg this]
          exact hh j h t ht
      · rw [List.mem_singleton.1 h] at ht ⊢
        simp only [if_true]
        simp only [ht, putE, look, if_true]
    · cases hd2 : (X i).1.dst with
      | none => exact hk t u hu hnd
      | some s =>
        have : s ≠ t := fun e => hnd (e ▸ hds i hi s hd2)
        simp only [putE, look, if_neg this]
        exact hk t u hu hnd
    · have g5 := g3.imp k3
      have e : ((l1 ++ [i]).flatMap fun j => (if j = i then (v, B) else vv j).2) = (l1.flatMap fun i => (vv i).2) ++ B := by
        rw [List.flatMap_append]
        congr 1
        · rw [List.flatMap_def, List.flatMap_def]
          congr 1
          exact List.map_congr_left fun j hj => by rw [hvv j hj]
        · simp
      rw [e]
      refine g5.perm ?_
      simp only [List.flatten_cons, List.append_assoc]
      have p1 : (B ++ (base.flatten ++ ((l1.flatMap fun i => (vv i).2) ++ F))).Perm (B ++ ((l1.flatMap fun i => (vv i).2) ++ (base.flatten ++ F))) := by
        refine List.Perm.append_left _ ?_
        rw [← List.append_assoc, ← List.append_assoc]
        exact List.perm_append_comm.append_right F
      refine p1.trans ?_
      rw [← List.append_assoc, ← List.append_assoc (l1.flatMap _)]
      exact List.perm_append_comm.append_right _
def tailB (an : List (List Nat)) (k n : Nat) : Bool := (List.range n).all fun i => decide (i < k) || (List.range i).all fun j => (an.getD i []).contains j
def dstsB (rs : List RO) (k : Nat) : Bool := nodupN ((rs.take k).filterMap fun r => r.dst)
  where nodupN : List Nat → Bool
    | [] => true
    | x :: r => !r.contains x && nodupN r
theorem nodupN_spec : ∀ {l : List Nat}, dstsB.nodupN l = true → l.Nodup := by
  intro l
  induction l with
  | nil => intro _; exact .nil
  | cons x r ih =>
    intro h
    simp only [dstsB.nodupN, Bool.and_eq_true, Bool.not_eq_true', List.contains_eq_mem, decide_eq_false_iff_not] at h
    exact List.nodup_cons.2 ⟨h.1, ih h.2⟩
theorem dst_inj : ∀ {rs : List RO} {k : Nat}, ((rs.take k).filterMap fun r => r.dst).Nodup → ∀ {i j t : Nat}, i < k → j < k → i < rs.length → j < rs.length → (rs.getD i default).dst = some t → (rs.getD j default).dst = some t → i = j := by
  intro rs
  induction rs with
  | nil => intro k _ i j t _ _ hi; simp at hi
  | cons r rs ih =>
    intro k h i j t hi hj hli hlj h1 h2
    cases k with
    | zero => omega
    | succ k =>
      simp only [List.take_succ_cons, List.filterMap_cons] at h
      have hmem : ∀ {m : Nat}, m < k → m < rs.length → (rs.getD m default).dst = some t → t ∈ (rs.take k).filterMap fun r => r.dst := fun {m} hm hlm hd => by
        refine List.mem_filterMap.2 ⟨rs.getD m default, ?_, hd⟩
        rw [List.getD_eq_getElem?_getD, List.getElem?_eq_getElem hlm, Option.getD_some]
        exact List.mem_take_iff_getElem.2 ⟨m, by omega, rfl⟩
      have hrest : ((rs.take k).filterMap fun r => r.dst).Nodup := by
        cases hr : r.dst with
        | none => rw [hr] at h; exact h
        | some d => rw [hr] at h; exact (List.nodup_cons.1 h).2
      cases i with
      | zero =>
        cases j with
        | zero => rfl
        | succ j =>
          simp only [List.getD_cons_zero, List.getD_cons_succ] at h1 h2
          rw [h1] at h
          exact absurd (hmem (by omega) (by simpa using hlj) h2) (List.nodup_cons.1 h).1
      | succ i =>
        cases j with
        | zero =>
          simp only [List.getD_cons_zero, List.getD_cons_succ] at h1 h2
          rw [h2] at h
          exact absurd (hmem (by omega) (by simpa using hli) h1) (List.nodup_cons.1 h).1
        | succ j =>
          simp only [List.getD_cons_succ] at h1 h2
          rw [ih hrest (by omega) (by omega) (by simpa using hli) (by simpa using hlj) h1 h2]
theorem VC.free {Γ : Env} {base : SH} {Q : Exit → Env → SH → Prop} {rs : List RO} {an : List (List Nat)} {keep : List Nat} (k : Nat) (G : Nat → Value → List Atom → Prop) (hk : k ≤ rs.length) (htail : tailB an k rs.length = true) (hdst : dstsB rs k = true)
    (step : ∀ i, i < k → ∀ (vv : Nat → Value × List Atom), (∀ j ∈ an.getD i [], G j (vv j).1 (vv j).2) → ∀ Γ', Holds (fun j => (rs.getD j default).dst) vv (an.getD i []) Γ' → Kept Γ ((rs.take k).filterMap fun r => r.dst) Γ' →
      VO P n [rs.getD i default] Γ' base (fun _ _ _ => False) (fun Γ2 H' => ∃ v B, Γ2 = putE (rs.getD i default).dst v Γ' ∧ G i v B ∧ Imp H' (B :: base)))
    (fin : ∀ (vv : Nat → Value × List Atom), (∀ i, i < k → G i (vv i).1 (vv i).2) → ∀ Γ', Holds (fun j => (rs.getD j default).dst) vv (List.range k) Γ' → Kept Γ ((rs.take k).filterMap fun r => r.dst) Γ' →
      VO P n (rs.drop k) Γ' (((List.range k).map fun i => (vv i).2) ++ base) (fun ch _ H' => Q (.panic ch) [] H') (fun Γ2 H' => Q .normal (restr keep Γ2) H')) : VC P n (.free rs an keep) Γ base Q := by
  intro ρ kp od code hl a w F QQ hr ha hs hh
  obtain ⟨id, ops, rfl, h1, hm, hb, rfl, rfl⟩ := lowC_inv hl
  have hlen := (lowList_length h1).1
  refine wpIn_region_draw (fun t => ?_)
  have hsched : Region.schedule (P.follows .mixedOrders) ops t = sched ops ops.size t (Array.replicate ops.size false) := by simp [Region.schedule, hm, Region.linearise, sched]
  rw [hsched]
  have hu : unl ops (Array.replicate ops.size false) = List.range ops.size := by
    simp only [unl]
    refine List.filter_eq_self.2 (fun i hi => ?_)
    have := List.mem_range.1 hi
    simp [this]
  obtain ⟨s1, s2, _⟩ := sched_spec hb ops.size t (Array.replicate ops.size false) (by simp) (by rw [hu]; simp)
  have hbefA : ∀ {x y : Nat}, y < ops.size → x ∈ (ancs ops).getD y [] → Bef (sched ops ops.size t (Array.replicate ops.size false)) x y := fun hy hx => anc_bef hb (Nat.le_refl _) (ancs_sound hx) hy
  generalize hl : sched ops ops.size t (Array.replicate ops.size false) = l at *
  have hmem : ∀ i, i ∈ l ↔ i < ops.size := fun i => by rw [s2, hu]; simp
  have hX : ∀ i, i < ops.size → ops[i]? = some ((rs.zip ops.toList).getD i default).2 ∧ ((rs.zip ops.toList).getD i default).1 = rs.getD i default ∧ lowRO P n ops ((rs.zip ops.toList).getD i default).2 = some ((rs.zip ops.toList).getD i default).1 := fun i hi => zip_getD h1 hi
  have hro : rs.length = ops.size := by simpa using hlen
  have htl : ∀ i, k ≤ i → i < rs.length → ∀ j, j < i → j ∈ (ancs ops).getD i [] := fun i hki hi j hj => by
    have := List.all_eq_true.1 htail i (List.mem_range.2 hi)
    simp only [Bool.or_eq_true, decide_eq_true_eq] at this
    rcases this with h | h
    · omega
    · have := List.all_eq_true.1 h j (List.mem_range.2 hj)
      exact List.contains_iff_mem.1 this
  have hsplit : l.filter (fun i => decide (i < k)) ++ List.range' k (rs.length - k) = l := by
    refine eq_of_order ?_ s1 ?_
    · refine (List.perm_ext_iff_of_nodup ?_ s1).2 (fun x => ?_)
      · refine List.nodup_append.2 ⟨s1.filter _, List.nodup_range', fun x hx y hy e => ?_⟩
        have h1 := (List.mem_filter.1 hx).2
        have h2 := List.mem_range'_1.1 hy
        simp only [decide_eq_true_eq] at h1
        omega
      · simp only [List.mem_append, List.mem_filter, hmem, List.mem_range'_1, decide_eq_true_eq]
        omega
    · refine List.pairwise_append.2 ⟨List.pairwise_iff_forall_sublist.2 fun h => h.trans List.filter_sublist, ?_, ?_⟩
      · refine (List.pairwise_lt_range' (s := k) (n := rs.length - k) (step := 1)).imp_of_mem ?_
        intro x y hx hy hxy
        have h1 := List.mem_range'_1.1 hx
        have h2 := List.mem_range'_1.1 hy
        exact (hbefA (by omega) (htl y (by omega) (by omega) x hxy)).sub
      · intro x hx y hy
        have h1 := (List.mem_filter.1 hx).2
        have h2 := List.mem_range'_1.1 hy
        simp only [decide_eq_true_eq] at h1
        exact (hbefA (by omega) (htl y (by omega) (by omega) x (by omega))).sub
  generalize hli : l.filter (fun i => decide (i < k)) = li at hsplit
  have hlim : ∀ i, i ∈ li ↔ i < k := fun i => by
    rw [← hli, List.mem_filter, hmem, decide_eq_true_eq]; omega
  have hlin : li.Nodup := hli ▸ s1.filter _
  refine wpR_sound (P := P) (ρ := ρ) (n := n) (ops := ops) (X := fun i => (rs.zip ops.toList).getD i default) (QQ := QQ) (fun i hi => ⟨(hX i hi).1, (hX i hi).2.2⟩) _ a _ (fun i hi => (hmem i).1 hi) ?_
  rw [← hsplit, List.map_append]
  have hXi : ∀ i, i < k → ((rs.zip ops.toList).getD i default).1 = rs.getD i default := fun i hi => (hX i (by omega)).2.1
  have hnd := nodupN_spec hdst
  refine run_free (X := fun i => (rs.zip ops.toList).getD i default) (G := G) (base := base) (Γ0 := Γ) (ds := (rs.take k).filterMap fun r => r.dst) (an := fun i => (ancs ops).getD i []) li hlin (fun i hi => ?_) (fun i hi t ht => ?_) (fun i hi j hj t ht1 ht2 => ?_) ?_ ?_ (F := F) (a0 := a) (w0 := { w with drawn := w.drawn + 1 }) ?_ li [] rfl (fun _ => (undef, [])) Γ a _ (fun i hi => by cases hi) (fun i hi => by cases hi) (fun t v h _ => h) ha rfl (by simp only [List.flatMap_nil, List.nil_append]; exact hs.drawn _) (.refl _)
  · have hi' := (hlim i).1 hi
    exact ⟨rfl, fun x hx => by rw [List.mem_singleton.1 hx]; exact ⟨ops, (hX i (by omega)).2.2⟩⟩
  · have hi' := (hlim i).1 hi
    simp only [hXi i hi'] at ht
    refine List.mem_filterMap.2 ⟨rs.getD i default, ?_, ht⟩
    rw [List.getD_eq_getElem?_getD, List.getElem?_eq_getElem (by omega), Option.getD_some]
    exact List.mem_take_iff_getElem.2 ⟨i, by omega, rfl⟩
  · have hi' := (hlim i).1 hi
    have hj' := (hlim j).1 hj
    simp only [hXi i hi', hXi j hj'] at ht1 ht2
    exact dst_inj hnd hi' hj' (by omega) (by omega) ht1 ht2
  · intro l1 i l2 e j hj
    have hi : i < k := (hlim i).1 (by rw [e]; simp)
    have hb2 := hbefA (by omega) hj
    rw [← hsplit, e] at hb2
    have hnn : (l1 ++ i :: l2 ++ List.range' k (rs.length - k)).Nodup := by rw [← e, hsplit]; exact s1
    have hij := hb2.2.2
    rw [List.append_assoc, List.idxOf_append (l₁ := l1), List.idxOf_append (l₁ := l1)] at hij
    by_cases hjl : j ∈ l1
    · exact hjl
    · rw [if_neg hjl] at hij
      have hil : i ∉ l1 := by
        rw [List.append_assoc] at hnn
        intro h
        exact (List.nodup_append.1 hnn).2.2 i h i (by simp) rfl
      rw [if_neg hil] at hij
      rw [List.cons_append, List.idxOf_cons_self] at hij
      omega
  · intro i hi vv hg Γ' hh hkk
    have hi' := (hlim i).1 hi
    have e := hXi i hi'
    show VO P n [((rs.zip ops.toList).getD i default).1] _ _ _ _
    rw [e]
    have hanlt : ∀ j ∈ (ancs ops).getD i [], j < k ∨ True := fun _ _ => .inr trivial
    refine (step i hi' vv hg Γ' (fun j hj t ht => ?_) hkk)
    refine hh j hj t ?_
    have hjm : j < ops.size := (hmem j).1 (hbefA (by omega) hj).1
    show ((rs.zip ops.toList).getD j default).1.dst = some t
    rw [(hX j hjm).2.1]; exact ht
  · intro vv a' w' Γ' hg hhold hkk ha' hd' hs' hkw
    have hf := fin vv (fun i hi => hg i ((hlim i).2 hi)) Γ' (fun j hj t ht => by
      have hj' := List.mem_range.1 hj
      refine hhold j ((hlim j).2 hj') t ?_
      show ((rs.zip ops.toList).getD j default).1.dst = some t
      rw [hXi j hj']; exact ht) hkk
    have hlow : LowAll P n (rs.drop k) ((List.range' k (rs.length - k)).map fun i => (rs.zip ops.toList).getD i default) := by
      refine ⟨?_, fun x hx => ?_⟩
      · rw [List.map_map]
        apply List.ext_getElem?
        intro i
        simp only [List.getElem?_drop, List.getElem?_map]
        by_cases hi : i < rs.length - k
        · rw [List.getElem?_range' hi]
          simp only [Option.map_some, Function.comp]
          rw [(hX (k + 1 * i) (by omega)).2.1, Nat.one_mul, List.getD_eq_getElem?_getD, List.getElem?_eq_getElem (by omega), Option.getD_some]
        · rw [List.getElem?_eq_none (by simpa using hi), List.getElem?_eq_none (by omega)]; rfl
      · obtain ⟨i, hi, rfl⟩ := List.mem_map.1 hx
        have := List.mem_range'_1.1 hi
        exact ⟨ops, (hX i (by omega)).2.2⟩
    have hperm : (li.flatMap fun i => (vv i).2).Perm ((List.range k).map fun i => (vv i).2).flatten := by
      rw [← List.flatMap_def]
      refine List.Perm.flatMap_right _ ?_
      refine (List.perm_ext_iff_of_nodup hlin List.nodup_range).2 (fun x => ?_)
      rw [hlim, List.mem_range]
    have hs2 : Sat w' ((((List.range k).map fun i => (vv i).2) ++ base).flatten ++ F) := hs'.perm (by
      rw [List.flatten_append, List.append_assoc]
      exact hperm.append_right _)
    refine hf _ hlow a' w' F QQ (QQ .normal) ha' hs2 (fun a2 w2 Γ2 H2 q2 k1 k2 k3 k4 => ?_) (fun ch a2 w2 Γ2 H2 q2 k1 k2 k3 k4 => ?_)
    · exact hh _ a2 w2 _ H2 [] q2 ⟨k1.size, fun t v e => k1.slots t v (sub_restr _ _ t v e)⟩ (k2.trans hd') k3.nomarks (((Keeps.refl w).drawn _).trans (hkw.trans k4))
    · exact hh _ a2 w2 [] H2 [] q2 ⟨k1.size, fun t v e => by cases e⟩ (k2.trans hd') k3.nomarks (((Keeps.refl w).drawn _).trans (hkw.trans k4))
end
end Go.V

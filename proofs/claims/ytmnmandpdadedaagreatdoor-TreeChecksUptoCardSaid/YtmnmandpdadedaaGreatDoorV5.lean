/-
  Regions that draw their order and may panic.
-/
import Derived.Test.YtmnmandpdadedaaGreatDoorV4
import Derived.Test.YtmnmandpdadedaaGreatDoorV3
import Derived.ChangeOld
import Derived.RowKit3
import Derived.ChangeSame
import Derived.ChangeSlices
import Derived.RowKit
import Derived.Deep.Slices
import Derived.Deep.Fields
set_option linter.unusedSimpArgs false
set_option linter.unusedVariables false
namespace Go.V
open Go
section
variable {ops : Array Oper}
theorem coverC {both : Bool} {rs : List (RO × Oper)} {orders : List (List Nat)} (hc : coverG both rs ops orders = true) (t : Nat) :
    ∃ o ∈ orders, o.Perm (wA ops ops.size t (Array.replicate ops.size false)) /\ (wA ops ops.size t (Array.replicate ops.size false)).Nodup /\ (∀ i ∈ o, i < ops.size) /\
      o.Pairwise (fun x y => indep (rs.getD y default) (rs.getD x default) = true ∨ [x, y].Sublist (wA ops ops.size t (Array.replicate ops.size false))) := by
  simp only [coverG, Bool.and_eq_true] at hc;obtain ⟨⟨⟨hb, hd⟩, ho⟩, hp⟩ := hc;have hu : unl ops (Array.replicate ops.size false) = List.range ops.size := by
    simp only [unl];refine List.filter_eq_self.2 (fun i hi => ?_);have := List.mem_range.1 hi;simp [this]
  obtain ⟨s1, s2, _⟩ := sched_spec hb ops.size t (Array.replicate ops.size false) Zs (by rw [hu];simp);generalize hl : wA ops ops.size t (Array.replicate ops.size false) = l at s1 s2 |-;have hanc : ∀ {x y : Nat}, y < ops.size -> x ∈ (ancs ops).getD y [] -> Bef l x y := fun hy hx => hl ▸ anc_bef hb (Nat.le_refl _) (ancs_sound hx) hy
  have hmem : ∀ i, i ∈ l ↔ i < ops.size := fun i => by rw [s2, hu];simp
  generalize hdd : clash both rs (ancs ops) ops.size = d at hd hp;have hdlt : ∀ x ∈ d, x < ops.size := by
    intro x hx;rw [<- hdd] at hx;simp only [clash, List.mem_filter, List.mem_range] at hx;exact hx.1
  have hsp : (l.filter (d.contains ·)).Perm d := by
    refine (List.perm_ext_iff_of_nodup (s1.filter _) (nodupB_spec hd)).2 (fun x => ?_);simp only [List.mem_filter, hmem, List.contains_iff_mem];exact ⟨fun h => h.2, fun h => ⟨hdlt x h, h⟩⟩
  have hall := List.all_eq_true.1 hp _ (mem_perms hsp);simp only [Bool.or_eq_true, Bool.not_eq_true', List.any_eq_true] at hall;have hresp : wp (fun x y => !((ancs ops).getD x []).contains y) (l.filter (d.contains ·)) = true := by
    have key : ∀ (s : List Nat), s.Sublist l -> wp (fun x y => !((ancs ops).getD x []).contains y) s = true := by
      intro s
      induction s with
      | nil => intro _;rfl
      | cons x s ih =>
        intro hs;simp only [wp, Bool.and_eq_true, List.all_eq_true, Bool.not_eq_true'];refine ⟨fun y hy => ?_, ih ((List.sublist_cons_self x s).trans hs)⟩;have h2 : [x, y].Sublist l := (List.Sublist.cons_cons x (List.singleton_sublist.2 hy)).trans hs;have b1 := sub_bef s1 h2;cases hcc : ((ancs ops).getD x []).contains y with
        | false => rfl
        | true =>
          have b2 := hanc ((hmem x).1 b1.1) (List.contains_iff_mem.1 hcc);have := b1.2.2;have := b2.2.2;omega
    exact key _ List.filter_sublist
  rcases hall with hall | ⟨o, hom, hpo⟩
  · rw [hresp] at hall;cases hall
  have ho' := List.all_eq_true.1 ho o hom;simp only [Bool.and_eq_true, beq_iff_eq, List.all_eq_true, decide_eq_true_eq] at ho';obtain ⟨⟨o1, o2⟩, o3⟩ := ho';have hperm : o.Perm l := by
    have hol : o.Subset l := fun x hx => (hmem x).2 (o3 x hx)
    have hno := nodupB_spec o2;have hl' : l.length = ops.size := by
      have : l.Perm (List.range ops.size) := (List.perm_ext_iff_of_nodup s1 List.nodup_range).2 (fun x => by simp [hmem]);simpa using this.length_eq
    have hor : o.Perm (List.range ops.size) := by
      refine (List.perm_ext_iff_of_nodup hno List.nodup_range).2 (fun x => ?_);refine ⟨fun hx => by simpa using o3 x hx, fun hx => ?_⟩;exact mem_of_full hno o3 o1 (by simpa using hx)
    exact hor.trans ((List.perm_ext_iff_of_nodup s1 List.nodup_range).2 (fun x => by simp [hmem])).symm
  refine ⟨o, hom, hperm, s1, fun i hi => (hmem i).1 (hperm.subset hi), ?_⟩;refine (pairsAll_spec hpo).imp_of_mem (fun {x y} hx hy h => ?_);simp only [Bool.or_eq_true] at h;rcases h with (h | h) | h
  · left;simp only [indepAt] at h;split at h
    · rename_i p q hp hq;simp only [List.getD_eq_getElem?_getD, hp, hq, Option.getD_some];exact h
    · cases h
  · right;exact (hanc (o3 y hy) (List.contains_iff_mem.1 h)).sub
  · right;exact (befB_sub h).trans List.filter_sublist
theorem eq_of_order {o l : List Nat} (hp : o.Perm l) (hn : l.Nodup) (h : o.Pairwise fun x y => [x, y].Sublist l) : o = l := by
  refine List.Perm.eq_of_pairwise (le := fun x y => [x, y].Sublist l) (fun a b _ _ h1 h2 => ?_) h (List.pairwise_iff_forall_sublist.2 fun h => h) hp;have b1 := (sub_bef hn h1).2.2;have b2 := (sub_bef hn h2).2.2;omega
def envO (X : Nat -> RO × Oper) (val : Nat -> Value) : List Nat -> Env -> Env
  | [], Γ => Γ
  | i :: r, Γ => envO X val r (putE (X i).1.dst (val i) Γ)
def writes (X : Nat -> RO × Oper) (t j : Nat) : Bool := (X j).1.dst == some t
theorem envO_filter {X : Nat -> RO × Oper} {val : Nat -> Value} {t : Nat} : ∀ {p : List Nat} {Γ Δ : Env}, look Γ t = look Δ t -> look (envO X val p Γ) t = look (envO X val (p.filter (writes X t)) Δ) t := by
  intro p
  induction p with
  | nil => intro Γ Δ h;exact h
  | cons j p ih =>
    intro Γ Δ h;simp only [envO, List.filter_cons];by_cases hw : writes X t j = true
    · rw [if_pos hw];simp only [envO];refine ih ?_;simp only [writes, beq_iff_eq] at hw;rw [hw];simp [putE, look]
    · rw [if_neg hw];refine ih ?_;simp only [writes, beq_iff_eq] at hw;rw [<- h];cases hd : (X j).1.dst with
      | none => rfl
      | some d =>
        have : d ≠ t := fun e => hw (by rw [hd, e])
        simp [putE, look, this]
theorem split_at {i : Nat} : ∀ {a b c d : List Nat}, a ++ i :: b = c ++ i :: d -> i ∉ a -> i ∉ c -> a = c := by
  intro a
  induction a with
  | nil =>
    intro b c d h _ hc;cases c with
    | nil => rfl
    | cons x c => simp at h;exact absurd (by simp [h.1]) hc
  | cons x a ih =>
    intro b c d h ha hc;cases c with
    | nil => simp at h;exact absurd (by simp [h.1]) ha
    | cons y c =>
      simp only [List.cons_append, List.cons.injEq] at h;rw [h.1, ih h.2 (fun h => ha (by simp [h])) (fun h => hc (by simp [h]))]
theorem env_alike {X : Nat -> RO × Oper} {val : Nat -> Value} {Γ : Env} {p q l1 l2 : List Nat} {i t : Nat} (hp : (p ++ i :: q).Perm (l1 ++ i :: l2)) (hn : (l1 ++ i :: l2).Nodup)
    (hpw : (p ++ i :: q).Pairwise (fun x y => indep (X y) (X x) = true ∨ [x, y].Sublist (l1 ++ i :: l2))) (ht : t ∈ looks (X i)) : look (envO X val p Γ) t = look (envO X val l1 Γ) t := by
  have key : (p ++ i :: q).filter (fun j => decide (j = i) || writes X t j) = (l1 ++ i :: l2).filter (fun j => decide (j = i) || writes X t j) := by
    refine eq_of_order (hp.filter _) (hn.filter _) ?_;have hno : (p ++ i :: q).Pairwise (fun x y => x ≠ y) := hp.nodup_iff.2 hn;refine ((hpw.and hno).filter _).imp_of_mem ?_;intro x y hx hy ⟨h, hne⟩;have fx := (List.mem_filter.1 hx).2;have fy := (List.mem_filter.1 hy).2;rcases h with h | h
    · exfalso;simp only [indep, Bool.and_eq_true] at h;obtain ⟨⟨h1, h2⟩, _⟩ := h;have a1 := apart1_spec h1;have a2 := apart1_spec h2;simp only [Bool.or_eq_true, decide_eq_true_eq, writes, beq_iff_eq] at fx fy;rcases fx with fx | fx <;> rcases fy with fy | fy
      · exact hne (fx.trans fy.symm)
      · subst fx;exact (a1 t fy).1 ht
      · subst fy;exact (a2 t fx).1 ht
      · exact (a1 t fy).2 fx
    · have := h.filter (fun j => decide (j = i) || writes X t j)
      rwa [show List.filter (fun j => decide (j = i) || writes X t j) [x, y] = [x, y] by simp only [List.filter, fx, fy]] at this
  have hip : i ∉ p := by
    have := hp.nodup_iff.2 hn;intro h;exact (List.nodup_append.1 this).2.2 i h i Zs rfl
  have hil : i ∉ l1 := fun h => (List.nodup_append.1 hn).2.2 i h i Zs rfl
  rw [List.filter_append, List.filter_append, List.filter_cons_of_pos Zs, List.filter_cons_of_pos Zs] at key;have h2 := split_at key (fun h => hip ((List.mem_filter.1 h).1)) (fun h => hil ((List.mem_filter.1 h).1));have fe : ∀ l : List Nat, i ∉ l -> l.filter (fun j => decide (j = i) || writes X t j) = l.filter (writes X t) := fun l hl => List.filter_congr fun j hj => by
    have : j ≠ i := fun e => hl (e ▸ hj)
    simp [this]
  rw [fe p hip, fe l1 hil] at h2;rw [envO_filter (p := p) rfl, envO_filter (p := l1) rfl, h2]
theorem envO_snoc {X : Nat -> RO × Oper} {val : Nat -> Value} {i : Nat} : ∀ {p : List Nat} {Γ : Env}, envO X val (p ++ [i]) Γ = putE (X i).1.dst (val i) (envO X val p Γ) := by
  intro p
  induction p with
  | nil => intro Γ;rfl
  | cons j p ih => intro Γ;exact ih
def StepZ (P : Program) (n : Nat) (X : Nat -> RO × Oper) (PZ : List PanicEntry -> SH -> Prop) (Hs : SH -> Prop) (val : Nat -> Value) (φ : Nat -> Prop) (i : Nat) (Δ : Env) : Prop :=
  ∀ Γ H, (∀ t ∈ looks (X i), ∀ v, look Δ t = some v -> look Γ t = some v) -> Hs H -> VO P n [(X i).1] Γ H (fun ch _ H' => PZ ch H') (fun Γ' H' => Γ' = putE (X i).1.dst (val i) Γ /\ Hs H' /\ φ i)
theorem run_any {P : Program} {n : Nat} {X : Nat -> RO × Oper} {PZ : List PanicEntry -> SH -> Prop} {Hs : SH -> Prop} {val : Nat -> Value} {φ : Nat -> Prop} {Γ0 : Env} {o l : List Nat} (hp : o.Perm l) (hn : l.Nodup)
    (hpw : o.Pairwise (fun x y => indep (X y) (X x) = true ∨ [x, y].Sublist l)) (hlow : ∀ i ∈ l, LowAll P n [(X i).1] [X i]) (hstep : ∀ p i q, o = p ++ i :: q -> StepZ P n X PZ Hs val φ i (envO X val p Γ0))
    {F : List kE} {ZZ : Exit -> Act -> World -> Prop} {Q : Act -> World -> Prop} {a0 : Act} {w0 : World}
    (hq : ∀ a' w' H', jW n (envO X val l Γ0) a' -> a'.defers = a0.defers -> Sat w' (H'.flatten ++ F) -> ko w0 w' -> Hs H' -> (∀ i ∈ l, φ i) -> Q a' w')
    (hz : ∀ ch a' w' H', a'.tmps.size = n -> a'.defers = a0.defers -> Sat w' (H'.flatten ++ F) -> ko w0 w' -> PZ ch H' -> ZZ (.panic ch) a' w') :
    ∀ (l2 l1 : List Nat), l = l1 ++ l2 -> ∀ a w H, jW n (envO X val l1 Γ0) a -> a.defers = a0.defers -> Sat w (H.flatten ++ F) -> ko w0 w -> Hs H -> (∀ i ∈ l1, φ i) -> wpR P ZZ Q (l2.map X) a w := by
  intro l2
  induction l2 with
  | nil =>
    intro l1 hl a w H ha hd hs hk hh hφ;rw [List.append_nil] at hl;subst hl;exact hq a w H ha hd hs hk hh hφ
  | cons i l2 ih =>
    intro l1 hl a w H ha hd hs hk hh hφ;have hi : i ∈ o := hp.mem_iff.2 (by rw [hl];simp);obtain ⟨p, q, ho⟩ := List.append_of_mem hi;have st := hstep p i q ho (envO X val l1 Γ0) H (fun t ht v hv => by
      rw [<- env_alike (val := val) (Γ := Γ0) (by rw [<- ho, <- hl];exact hp) (by rw [<- hl];exact hn) (by rw [<- ho, <- hl];exact hpw) ht];exact hv) hh
    have := st [X i] (hlow i (by rw [hl];simp)) a w F ZZ (wpR P ZZ Q (l2.map X)) ha hs
      (fun a' w' Γ' H' ⟨k1, k2, k3⟩ g1 g2 g3 g4 => by
        subst k1;exact ih (l1 ++ [i]) (by rw [hl];simp) a' w' H' (by rw [envO_snoc];exact g1) (g2.trans hd) g3 (hk.trans g4) k2 (fun j hj => by
          rcases List.mem_append.1 hj with h | h
          · exact hφ j h
          · rw [List.mem_singleton.1 h];exact k3))
      (fun ch a' w' Γ' H' k g1 g2 g3 g4 => hz ch a' w' H' g1.size (g2.trans hd) g3 (hk.trans g4) k)
    exact this
def argO : R -> List Operand
  | .call _ xs => xs
  | r => rOps r
def looksR (r : RO) : List Nat := guardTmps r.guard ++ opTmps (argO r.op)
def okR (r : RO) : Bool := jC r.op || jI r.op || (match r.op with | .call _ _ => true | _ => false)
def StepsZ (P : Program) (n : Nat) (PZ : List PanicEntry -> SH -> Prop) (Hs : SH -> Prop) : List RO -> Env -> Prop -> Prop
  | [], _, Φ => ¬ Φ
  | r :: rs, Δ, Φ => okR r = true /\ ∃ (v : Value) (φ : Prop), (∀ Γ H, (∀ t ∈ looksR r, ∀ u, look Δ t = some u -> look Γ t = some u) -> Hs H -> VO P n [r] Γ H (fun ch _ H' => PZ ch H') (fun Γ' H' => Γ' = putE r.dst v Γ /\ Hs H' /\ φ)) /\
      StepsZ P n PZ Hs rs (putE r.dst v Δ) (Φ /\ φ)
theorem looksR_sub {P : Program} {n : Nat} {x : RO × Oper} (hl : lowRO P n ops x.2 = some x.1) (hok : okR x.1 = true) : ∀ t ∈ looksR x.1, t ∈ looks x := by
  intro t ht;simp only [looksR, looks, List.mem_append] at ht |-;rcases ht with ht | ht
  · exact .inl ht
  right;by_cases hq : (jC x.1.op || jI x.1.op) = true
  · rw [if_pos hq];have : argO x.1.op = rOps x.1.op := by
      cases hop : x.1.op <;> first | rfl | (rw [hop] at hq;cases hq)
    rwa [this] at ht
  · rw [if_neg hq];simp only [okR, hq, Bool.false_or] at hok;cases hop : x.1.op with
    | call f xs =>
      have g1 := (j6 hl).1;rw [hop] at g1;obtain ⟨c, h1, h2, h3, h4⟩ := low_call g1;rw [hop] at ht;simp only [argO] at ht;rw [h1];simp only [Op.operands, Call.operands, Array.toList_append, h3, opTmps, List.filterMap_append, List.mem_append];exact .inr ht
    | _ => rw [hop] at hok;cases hok
theorem envO_congr {X : Nat -> RO × Oper} {val val' : Nat -> Value} : ∀ {p : List Nat} {Γ : Env}, (∀ j ∈ p, val j = val' j) -> envO X val p Γ = envO X val' p Γ := by
  intro p
  induction p with
  | nil => intro Γ _;rfl
  | cons j p ih => intro Γ h;simp only [envO];rw [h j Zs];exact ih fun k hk => h k (by simp [hk])
theorem stepsZ_funs {P : Program} {n : Nat} {X : Nat -> RO × Oper} {PZ : List PanicEntry -> SH -> Prop} {Hs : SH -> Prop} : ∀ (o : List Nat) (Γ : Env) (Φ : Prop), o.Nodup -> (∀ i ∈ o, okR (X i).1 = true -> ∀ t ∈ looksR (X i).1, t ∈ looks (X i)) -> StepsZ P n PZ Hs (o.map fun i => (X i).1) Γ Φ ->
    ∃ (val : Nat -> Value) (φ : Nat -> Prop), (∀ p i q, o = p ++ i :: q -> StepZ P n X PZ Hs val φ i (envO X val p Γ)) /\ ¬ (Φ /\ ∀ i ∈ o, φ i) := by
  intro o
  induction o with
  | nil => intro Γ Φ _ _ h;exact ⟨fun _ => undef, fun _ => True, fun p i q e => by simp at e, fun hh => h hh.1⟩
  | cons i o ih =>
    intro Γ Φ hn hsub h;obtain ⟨hok, v, φ0, h1, h2⟩ := h;have hn' := List.nodup_cons.1 hn;obtain ⟨val, φ, g1, g2⟩ := ih _ _ hn'.2 (fun j hj => hsub j (by simp [hj])) h2;refine ⟨fun j => if j = i then v else val j, fun j => if j = i then φ0 else φ j, fun p j q e => ?_, fun hh => g2 ⟨⟨hh.1, ?_⟩, fun j hj => ?_⟩⟩
    · cases p with
      | nil =>
        simp only [List.nil_append, List.cons.injEq] at e;obtain ⟨rfl, rfl⟩ := e;intro Γ' H hl hH;have := h1 Γ' H (fun t ht => hl t (hsub i Zs hok t ht)) hH;simpa using this
      | cons k p =>
        simp only [List.cons_append, List.cons.injEq] at e;obtain ⟨rfl, e⟩ := e;have hj : j ∈ o := by rw [e];simp
        have hji : j ≠ i := fun e2 => hn'.1 (e2 ▸ hj)
        have st := g1 p j q e;have hc : envO X (fun j => if j = i then v else val j) p (putE (X i).1.dst v Γ) = envO X val p (putE (X i).1.dst v Γ) := envO_congr fun k hk => by
          have hk2 : k ∈ o := by rw [e];simp [hk]
          have hki : k ≠ i := fun e2 => hn'.1 (e2 ▸ hk2)
          simp [hki]
        intro Γ' H hl hH;simp only [envO, if_pos] at hl;rw [hc] at hl;have := st Γ' H hl hH;simpa [hji] using this
    · have := hh.2 i Zs;simpa using this
    · have h3 := hh.2 j (by simp [hj]);have hji : j ≠ i := fun e2 => hn'.1 (e2 ▸ hj)
      simpa [hji] using h3
end
theorem VC.drawZ {P : Program} {n : Nat} {Γ : Env} {H : SH} {Q : Exit -> Env -> SH -> Prop} {rss : List (List RO)} {keep : List Nat} (PZ : List PanicEntry -> SH -> Prop) (Hs : SH -> Prop) (h0 : Hs H)
    (h : ∀ rs ∈ rss, StepsZ P n PZ Hs rs Γ True) (hz : ∀ ch H', PZ ch H' -> Q (.panic ch) [] H') : VC P n (.draw rss keep) Γ H Q := by
  intro ρ kp od code hl a w F QQ hr ha hs hh;obtain ⟨id, ops, rs, rfl, h1, hm, hc, rfl, rfl⟩ := jT hl;have hlen := (js h1).1;refine wpIn_region_draw (fun t => ?_);have hsched : Region.schedule (P.follows .mixedOrders) ops t = wA ops ops.size t (Array.replicate ops.size false) := by simp [Region.schedule, hm, Region.linearise, wA]
  rw [hsched];obtain ⟨both, hcb⟩ : ∃ both, coverG both (rs.zip ops.toList) ops (od id) = true := by
    unfold coverB at hc;rcases Bool.or_eq_true_iff.1 hc with hc | hc
    · exact ⟨_, hc⟩
    · exact ⟨_, hc⟩
  obtain ⟨o, hom, hp, hn, hlt, hpw⟩ := coverC hcb t;have hX : ∀ i, i < ops.size -> ops[i]? = some ((rs.zip ops.toList).getD i default).2 /\ ((rs.zip ops.toList).getD i default).1 = rs.getD i default /\ lowRO P n ops ((rs.zip ops.toList).getD i default).2 = some ((rs.zip ops.toList).getD i default).1 := fun i hi => zE h1 hi
  have hlt2 : ∀ i ∈ wA ops ops.size t (Array.replicate ops.size false), i < ops.size := fun i hi => hlt i (hp.mem_iff.2 hi)
  refine wpR_sound (P := P) (ρ := ρ) (n := n) (ops := ops) (X := fun i => (rs.zip ops.toList).getD i default) (QQ := QQ) (fun i hi => ⟨(hX i hi).1, (hX i hi).2.2⟩) _ a _ hlt2 ?_;have hst := h (o.map fun i => rs.getD i default) (List.mem_map.2 ⟨o, hom, rfl⟩);have hmap : (o.map fun i => rs.getD i default) = o.map fun i => ((rs.zip ops.toList).getD i default).1 := List.map_congr_left fun i hi => (hX i (hlt i hi)).2.1.symm
  rw [hmap] at hst;obtain ⟨val, φ, g1, g2⟩ := stepsZ_funs (X := fun i => (rs.zip ops.toList).getD i default) o Γ True (hp.nodup_iff.2 hn) (fun i hi hok => looksR_sub (hX i (hlt i hi)).2.2 hok) hst;refine run_any (X := fun i => (rs.zip ops.toList).getD i default) (l := wA ops ops.size t (Array.replicate ops.size false)) (val := val) (φ := φ) (Γ0 := Γ) (a0 := a) (w0 := { w with drawn := w.drawn + 1 }) (F := F) hp hn hpw (fun i hi => ⟨rfl, fun x hx => by rw [List.mem_singleton.1 hx];exact ⟨ops, (hX i (hlt2 i hi)).2.2⟩⟩) g1 ?_ ?_ _ [] rfl a _ H ha rfl (hs.drawn _) (.refl _) h0 (fun i hi => by cases hi)
  · intro a' w' H' _ _ _ _ _ hall;exact absurd ⟨trivial, fun i hi => hall i (hp.mem_iff.1 hi)⟩ g2
  · intro ch a' w' H' k1 k2 k3 k4 k5;exact hh (.panic ch) a' w' [] H' [] (hz ch H' k5) ⟨k1, fun t v e => by cases e⟩ k2 k3.nomarks (((ko.refl w).drawn _).trans k4)
end Go.V
namespace Go.V
open Go
section
variable {P : Program} {n : Nat}
def Holds (dst : Nat -> Option Nat) (vv : Nat -> Value × List kE) (done : List Nat) (Γ : Env) : Prop := ∀ i ∈ done, ∀ t, dst i = some t -> look Γ t = some (vv i).1
def KeptE (Γ0 : Env) (ds : List Nat) (Γ : Env) : Prop := ∀ t v, look Γ0 t = some v -> t ∉ ds -> look Γ t = some v
theorem run_free {X : Nat -> RO × Oper} {G : Nat -> Value -> List kE -> Prop} {base : SH} {Γ0 : Env} {ds : List Nat} {an : Nat -> List Nat} (li : List Nat) (hn : li.Nodup) (hlow : ∀ i ∈ li, LowAll P n [(X i).1] [X i])
    (hds : ∀ i ∈ li, ∀ t, (X i).1.dst = some t -> t ∈ ds) (hdd : ∀ i ∈ li, ∀ j ∈ li, ∀ t, (X i).1.dst = some t -> (X j).1.dst = some t -> i = j)
    (hbef : ∀ l1 i l2, li = l1 ++ i :: l2 -> ∀ j ∈ an i, j ∈ l1)
    (step : ∀ i ∈ li, ∀ (vv : Nat -> Value × List kE), (∀ j ∈ an i, G j (vv j).1 (vv j).2) -> ∀ Γ, Holds (fun j => (X j).1.dst) vv (an i) Γ -> KeptE Γ0 ds Γ ->
      VO P n [(X i).1] Γ base (fun _ _ _ => False) (fun Γ' H' => ∃ v B, Γ' = putE (X i).1.dst v Γ /\ G i v B /\ Imp H' (B :: base)))
    {F : List kE} {ZZ : Exit -> Act -> World -> Prop} {Q : Act -> World -> Prop} {rest : List (RO × Oper)} {a0 : Act} {w0 : World}
    (hq : ∀ (vv : Nat -> Value × List kE) a' w' Γ', (∀ i ∈ li, G i (vv i).1 (vv i).2) -> Holds (fun j => (X j).1.dst) vv li Γ' -> KeptE Γ0 ds Γ' -> jW n Γ' a' -> a'.defers = a0.defers -> Sat w' ((li.flatMap fun i => (vv i).2) ++ (base.flatten ++ F)) -> ko w0 w' -> wpR P ZZ Q rest a' w') :
    ∀ (l2 l1 : List Nat), li = l1 ++ l2 -> ∀ (vv : Nat -> Value × List kE) Γ a w, (∀ i ∈ l1, G i (vv i).1 (vv i).2) -> Holds (fun j => (X j).1.dst) vv l1 Γ -> KeptE Γ0 ds Γ -> jW n Γ a -> a.defers = a0.defers -> Sat w ((l1.flatMap fun i => (vv i).2) ++ (base.flatten ++ F)) -> ko w0 w -> wpR P ZZ Q (l2.map X ++ rest) a w := by
  intro l2
  induction l2 with
  | nil =>
    intro l1 hl vv Γ a w hg hh hk ha hd hs hkw;rw [List.append_nil] at hl;subst hl;exact hq vv a w Γ hg hh hk ha hd hs hkw
  | cons i l2 ih =>
    intro l1 hl vv Γ a w hg hh hk ha hd hs hkw;have hi : i ∈ li := by rw [hl];simp
    have hb := hbef l1 i l2 hl;have st := step i hi vv (fun j hj => hg j (hb j hj)) Γ (fun j hj => hh j (hb j hj)) hk;have hs' : Sat w (base.flatten ++ ((l1.flatMap fun i => (vv i).2) ++ F)) := hs.perm (by
      rw [<- List.append_assoc, <- List.append_assoc];exact List.perm_append_comm.append_right F)
    have hil : i ∉ l1 := by
      rw [hl] at hn;intro h;exact (List.nodup_append.1 hn).2.2 i h i Zs rfl
    refine st [X i] (hlow i hi) a w ((l1.flatMap fun i => (vv i).2) ++ F) ZZ (wpR P ZZ Q (l2.map X ++ rest)) ha hs' (fun a' w' Γ' H' ⟨v, B, k1, k2, k3⟩ g1 g2 g3 g4 => ?_) (fun _ _ _ _ _ k => k.elim);subst k1;have hvv : ∀ j ∈ l1, (if j = i then (v, B) else vv j) = vv j := fun j hj => if_neg (fun e : j = i => hil (e ▸ hj))
    refine ih (l1 ++ [i]) (by rw [hl];simp) (fun j => if j = i then (v, B) else vv j) _ a' w' (fun j hj => ?_) (fun j hj t ht => ?_) (fun t u hu hnd => ?_) g1 (g2.trans hd) ?_ (hkw.trans g4)
    · rcases List.mem_append.1 hj with h | h
      · simp only [hvv j h];exact hg j h
      · rw [List.mem_singleton.1 h];simp only [if_true];exact k2
    · rcases List.mem_append.1 hj with h | h
      · have hji : j ≠ i := fun e => hil (e ▸ h)
        have hj2 : j ∈ li := by rw [hl];simp [h]
        simp only [hvv j h];cases hd2 : (X i).1.dst with
        | none => exact hh j h t ht
        | some s =>
          have : s ≠ t := fun e => hji (hdd j hj2 i hi t ht (by rw [hd2, e]))
          simp only [putE, look, if_neg this];exact hh j h t ht
      · rw [List.mem_singleton.1 h] at ht |-;simp only [if_true];simp only [ht, putE, look, if_true]
    · cases hd2 : (X i).1.dst with
      | none => exact hk t u hu hnd
      | some s =>
        have : s ≠ t := fun e => hnd (e ▸ hds i hi s hd2)
        simp only [putE, look, if_neg this];exact hk t u hu hnd
    · have g5 := g3.imp k3;have e : ((l1 ++ [i]).flatMap fun j => (if j = i then (v, B) else vv j).2) = (l1.flatMap fun i => (vv i).2) ++ B := by
        rw [List.flatMap_append]
        congr 1
        · rw [List.flatMap_def, List.flatMap_def]
          congr 1
          exact List.map_congr_left fun j hj => by rw [hvv j hj]
        · simp
      rw [e];refine g5.perm ?_;simp only [List.flatten_cons, List.append_assoc];have p1 : (B ++ (base.flatten ++ ((l1.flatMap fun i => (vv i).2) ++ F))).Perm (B ++ ((l1.flatMap fun i => (vv i).2) ++ (base.flatten ++ F))) := by
        refine List.Perm.append_left _ ?_;rw [<- List.append_assoc, <- List.append_assoc];exact List.perm_append_comm.append_right F
      refine p1.trans ?_;rw [<- List.append_assoc, <- List.append_assoc (l1.flatMap _)];exact List.perm_append_comm.append_right _
def tailB (an : List (List Nat)) (k n : Nat) : Bool := (List.range n).all fun i => decide (i < k) || (List.range i).all fun j => (an.getD i []).contains j
def dstsB (rs : List RO) (k : Nat) : Bool := nodupN ((rs.take k).filterMap fun r => r.dst)
  where nodupN : List Nat -> Bool
    | [] => true
    | x :: r => !r.contains x && nodupN r
theorem nodupN_spec : ∀ {l : List Nat}, dstsB.nodupN l = true -> l.Nodup := by
  intro l
  induction l with
  | nil => intro _;exact .nil
  | cons x r ih =>
    intro h;simp only [dstsB.nodupN, Bool.and_eq_true, Bool.not_eq_true', List.contains_eq_mem, decide_eq_false_iff_not] at h;exact List.nodup_cons.2 ⟨h.1, ih h.2⟩
theorem dst_inj : ∀ {rs : List RO} {k : Nat}, ((rs.take k).filterMap fun r => r.dst).Nodup -> ∀ {i j t : Nat}, i < k -> j < k -> i < rs.length -> j < rs.length -> (rs.getD i default).dst = some t -> (rs.getD j default).dst = some t -> i = j := by
  intro rs
  induction rs with
  | nil => intro k _ i j t _ _ hi;simp at hi
  | cons r rs ih =>
    intro k h i j t hi hj hli hlj h1 h2;cases k with
    | zero => omega
    | succ k =>
      simp only [List.take_succ_cons, List.filterMap_cons] at h;have hmem : ∀ {m : Nat}, m < k -> m < rs.length -> (rs.getD m default).dst = some t -> t ∈ (rs.take k).filterMap fun r => r.dst := fun {m} hm hlm hd => by
        refine List.mem_filterMap.2 ⟨rs.getD m default, ?_, hd⟩;rw [List.getD_eq_getElem?_getD, Zg hlm, Option.getD_some];exact List.mem_take_iff_getElem.2 ⟨m, Zo, rfl⟩
      have hrest : ((rs.take k).filterMap fun r => r.dst).Nodup := by
        cases hr : r.dst with
        | none => rw [hr] at h;exact h
        | some d => rw [hr] at h;exact (List.nodup_cons.1 h).2
      cases i with
      | zero =>
        cases j with
        | zero => rfl
        | succ j =>
          simp only [List.getD_cons_zero, List.getD_cons_succ] at h1 h2;rw [h1] at h;exact absurd (hmem Zo (by simpa using hlj) h2) (List.nodup_cons.1 h).1
      | succ i =>
        cases j with
        | zero =>
          simp only [List.getD_cons_zero, List.getD_cons_succ] at h1 h2;rw [h2] at h;exact absurd (hmem Zo (by simpa using hli) h1) (List.nodup_cons.1 h).1
        | succ j =>
          simp only [List.getD_cons_succ] at h1 h2;rw [ih hrest Zo Zo (by simpa using hli) (by simpa using hlj) h1 h2]
theorem VC.free {Γ : Env} {base : SH} {Q : Exit -> Env -> SH -> Prop} {rs : List RO} {an : List (List Nat)} {keep : List Nat} (k : Nat) (G : Nat -> Value -> List kE -> Prop) (hk : k <= rs.length) (htail : tailB an k rs.length = true) (hdst : dstsB rs k = true)
    (step : ∀ i, i < k -> ∀ (vv : Nat -> Value × List kE), (∀ j ∈ an.getD i [], G j (vv j).1 (vv j).2) -> ∀ Γ', Holds (fun j => (rs.getD j default).dst) vv (an.getD i []) Γ' -> KeptE Γ ((rs.take k).filterMap fun r => r.dst) Γ' ->
      VO P n [rs.getD i default] Γ' base (fun _ _ _ => False) (fun Γ2 H' => ∃ v B, Γ2 = putE (rs.getD i default).dst v Γ' /\ G i v B /\ Imp H' (B :: base)))
    (fin : ∀ (vv : Nat -> Value × List kE), (∀ i, i < k -> G i (vv i).1 (vv i).2) -> ∀ Γ', Holds (fun j => (rs.getD j default).dst) vv (List.range k) Γ' -> KeptE Γ ((rs.take k).filterMap fun r => r.dst) Γ' ->
      VO P n (rs.drop k) Γ' (((List.range k).map fun i => (vv i).2) ++ base) (fun ch _ H' => Q (.panic ch) [] H') (fun Γ2 H' => Q .normal (restr keep Γ2) H')) : VC P n (.free rs an keep) Γ base Q := by
  intro ρ kp od code hl a w F QQ hr ha hs hh;obtain ⟨id, ops, rfl, h1, hm, hb, rfl, rfl⟩ := jT hl;have hlen := (js h1).1;refine wpIn_region_draw (fun t => ?_);have hsched : Region.schedule (P.follows .mixedOrders) ops t = wA ops ops.size t (Array.replicate ops.size false) := by simp [Region.schedule, hm, Region.linearise, wA]
  rw [hsched];have hu : unl ops (Array.replicate ops.size false) = List.range ops.size := by
    simp only [unl];refine List.filter_eq_self.2 (fun i hi => ?_);have := List.mem_range.1 hi;simp [this]
  obtain ⟨s1, s2, _⟩ := sched_spec hb ops.size t (Array.replicate ops.size false) Zs (by rw [hu];simp);have hbefA : ∀ {x y : Nat}, y < ops.size -> x ∈ (ancs ops).getD y [] -> Bef (wA ops ops.size t (Array.replicate ops.size false)) x y := fun hy hx => anc_bef hb (Nat.le_refl _) (ancs_sound hx) hy
  generalize hl : wA ops ops.size t (Array.replicate ops.size false) = l at *;have hmem : ∀ i, i ∈ l ↔ i < ops.size := fun i => by rw [s2, hu];simp
  have hX : ∀ i, i < ops.size -> ops[i]? = some ((rs.zip ops.toList).getD i default).2 /\ ((rs.zip ops.toList).getD i default).1 = rs.getD i default /\ lowRO P n ops ((rs.zip ops.toList).getD i default).2 = some ((rs.zip ops.toList).getD i default).1 := fun i hi => zE h1 hi
  have hro : rs.length = ops.size := by simpa using hlen
  have htl : ∀ i, k <= i -> i < rs.length -> ∀ j, j < i -> j ∈ (ancs ops).getD i [] := fun i hki hi j hj => by
    have := List.all_eq_true.1 htail i (List.mem_range.2 hi);simp only [Bool.or_eq_true, decide_eq_true_eq] at this;rcases this with h | h
    · omega
    · have := List.all_eq_true.1 h j (List.mem_range.2 hj);exact List.contains_iff_mem.1 this
  have hsplit : l.filter (fun i => decide (i < k)) ++ List.range' k (rs.length - k) = l := by
    refine eq_of_order ?_ s1 ?_
    · refine (List.perm_ext_iff_of_nodup ?_ s1).2 (fun x => ?_)
      · refine List.nodup_append.2 ⟨s1.filter _, List.nodup_range', fun x hx y hy e => ?_⟩;have h1 := (List.mem_filter.1 hx).2;have h2 := List.mem_range'_1.1 hy;simp only [decide_eq_true_eq] at h1;omega
      · simp only [List.mem_append, List.mem_filter, hmem, List.mem_range'_1, decide_eq_true_eq];omega
    · refine List.pairwise_append.2 ⟨List.pairwise_iff_forall_sublist.2 fun h => h.trans List.filter_sublist, ?_, ?_⟩
      · refine (List.pairwise_lt_range' (s := k) (n := rs.length - k) (step := 1)).imp_of_mem ?_;intro x y hx hy hxy;have h1 := List.mem_range'_1.1 hx;have h2 := List.mem_range'_1.1 hy;exact (hbefA Zo (htl y Zo Zo x hxy)).sub
      · intro x hx y hy;have h1 := (List.mem_filter.1 hx).2;have h2 := List.mem_range'_1.1 hy;simp only [decide_eq_true_eq] at h1;exact (hbefA Zo (htl y Zo Zo x Zo)).sub
  generalize hli : l.filter (fun i => decide (i < k)) = li at hsplit;have hlim : ∀ i, i ∈ li ↔ i < k := fun i => by
    rw [<- hli, List.mem_filter, hmem, decide_eq_true_eq];omega
  have hlin : li.Nodup := hli ▸ s1.filter _;refine wpR_sound (P := P) (ρ := ρ) (n := n) (ops := ops) (X := fun i => (rs.zip ops.toList).getD i default) (QQ := QQ) (fun i hi => ⟨(hX i hi).1, (hX i hi).2.2⟩) _ a _ (fun i hi => (hmem i).1 hi) ?_;rw [<- hsplit, List.map_append];have hXi : ∀ i, i < k -> ((rs.zip ops.toList).getD i default).1 = rs.getD i default := fun i hi => (hX i Zo).2.1
  have hnd := nodupN_spec hdst;refine run_free (X := fun i => (rs.zip ops.toList).getD i default) (G := G) (base := base) (Γ0 := Γ) (ds := (rs.take k).filterMap fun r => r.dst) (an := fun i => (ancs ops).getD i []) li hlin (fun i hi => ?_) (fun i hi t ht => ?_) (fun i hi j hj t ht1 ht2 => ?_) ?_ ?_ (F := F) (a0 := a) (w0 := { w with drawn := w.drawn + 1 }) ?_ li [] rfl (fun _ => (undef, [])) Γ a _ (fun i hi => by cases hi) (fun i hi => by cases hi) (fun t v h _ => h) ha rfl (by simp only [List.flatMap_nil, List.nil_append];exact hs.drawn _) (.refl _)
  · have hi' := (hlim i).1 hi;exact ⟨rfl, fun x hx => by rw [List.mem_singleton.1 hx];exact ⟨ops, (hX i Zo).2.2⟩⟩
  · have hi' := (hlim i).1 hi;simp only [hXi i hi'] at ht;refine List.mem_filterMap.2 ⟨rs.getD i default, ?_, ht⟩;rw [List.getD_eq_getElem?_getD, Zg Zo, Option.getD_some];exact List.mem_take_iff_getElem.2 ⟨i, Zo, rfl⟩
  · have hi' := (hlim i).1 hi;have hj' := (hlim j).1 hj;simp only [hXi i hi', hXi j hj'] at ht1 ht2;exact dst_inj hnd hi' hj' Zo Zo ht1 ht2
  · intro l1 i l2 e j hj;have hi : i < k := (hlim i).1 (by rw [e];simp);have hb2 := hbefA Zo hj;rw [<- hsplit, e] at hb2;have hnn : (l1 ++ i :: l2 ++ List.range' k (rs.length - k)).Nodup := by rw [<- e, hsplit];exact s1
    have hij := hb2.2.2;rw [List.append_assoc, List.idxOf_append (l₁ := l1), List.idxOf_append (l₁ := l1)] at hij;by_cases hjl : j ∈ l1
    · exact hjl
    · rw [if_neg hjl] at hij;have hil : i ∉ l1 := by
        rw [List.append_assoc] at hnn;intro h;exact (List.nodup_append.1 hnn).2.2 i h i Zs rfl
      rw [if_neg hil] at hij;rw [List.cons_append, List.idxOf_cons_self] at hij;omega
  · intro i hi vv hg Γ' hh hkk;have hi' := (hlim i).1 hi;have e := hXi i hi';show VO P n [((rs.zip ops.toList).getD i default).1] _ _ _ _;rw [e];have hanlt : ∀ j ∈ (ancs ops).getD i [], j < k ∨ True := fun _ _ => .inr trivial
    refine (step i hi' vv hg Γ' (fun j hj t ht => ?_) hkk);refine hh j hj t ?_;have hjm : j < ops.size := (hmem j).1 (hbefA Zo hj).1;show ((rs.zip ops.toList).getD j default).1.dst = some t;rw [(hX j hjm).2.1];exact ht
  · intro vv a' w' Γ' hg hhold hkk ha' hd' hs' hkw;have hf := fin vv (fun i hi => hg i ((hlim i).2 hi)) Γ' (fun j hj t ht => by
      have hj' := List.mem_range.1 hj;refine hhold j ((hlim j).2 hj') t ?_;show ((rs.zip ops.toList).getD j default).1.dst = some t;rw [hXi j hj'];exact ht) hkk
    have hlow : LowAll P n (rs.drop k) ((List.range' k (rs.length - k)).map fun i => (rs.zip ops.toList).getD i default) := by
      refine ⟨?_, fun x hx => ?_⟩
      · rw [List.map_map];apply List.ext_getElem?;intro i;simp only [List.getElem?_drop, List.getElem?_map];by_cases hi : i < rs.length - k
        · rw [List.getElem?_range' hi];simp only [Option.map_some, Function.comp];rw [(hX (k + 1 * i) Zo).2.1, Nat.one_mul, List.getD_eq_getElem?_getD, Zg Zo, Option.getD_some]
        · rw [List.getElem?_eq_none (by simpa using hi), List.getElem?_eq_none Zo];rfl
      · obtain ⟨i, hi, rfl⟩ := List.mem_map.1 hx;have := List.mem_range'_1.1 hi;exact ⟨ops, (hX i Zo).2.2⟩
    have hperm : (li.flatMap fun i => (vv i).2).Perm ((List.range k).map fun i => (vv i).2).flatten := by
      rw [<- List.flatMap_def];refine List.Perm.flatMap_right _ ?_;refine (List.perm_ext_iff_of_nodup hlin List.nodup_range).2 (fun x => ?_);rw [hlim, List.mem_range]
    have hs2 : Sat w' ((((List.range k).map fun i => (vv i).2) ++ base).flatten ++ F) := hs'.perm (by
      rw [List.flatten_append, List.append_assoc];exact hperm.append_right _)
    refine hf _ hlow a' w' F QQ (QQ .normal) ha' hs2 (fun a2 w2 Γ2 H2 q2 k1 k2 k3 k4 => ?_) (fun ch a2 w2 Γ2 H2 q2 k1 k2 k3 k4 => ?_)
    · exact hh _ a2 w2 _ H2 [] q2 ⟨k1.size, fun t v e => k1.slots t v (sub_restr _ _ t v e)⟩ (k2.trans hd') k3.nomarks (((ko.refl w).drawn _).trans (hkw.trans k4))
    · exact hh _ a2 w2 [] H2 [] q2 ⟨k1.size, fun t v e => by cases e⟩ (k2.trans hd') k3.nomarks (((ko.refl w).drawn _).trans (hkw.trans k4))
end
end Go.V
namespace Go.V
open Go
section
variable {P : Program} {n : Nat} {rs : List RO} {Γ : Env} {H : SH} {Z : List PanicEntry -> Env -> SH -> Prop} {K : Env -> SH -> Prop} {d : Option Nat}
theorem st_max {x y : Operand} {a b : Nat} (hx : ev Γ x = some (vi a)) (hy : ev Γ y = some (vi b)) (h : VO P n rs (putE d (vi (max a b : Nat)) Γ) H Z K) :
    VO P n (⟨d, none, .max2 x y⟩ :: rs) Γ H Z K := by
  refine VO.pure rfl (v := vi (max a b : Nat)) (fun ρ hρ => ?_) h;have e : (if (b : Int) > (a : Int) then (b : Int) else (a : Int)) = ((max a b : Nat) : Int) := by split <;> omega
  simp only [kZ, hρ _ _ hx, hρ _ _ hy, vi, e]
theorem st_eqI {x y : Operand} {k : IntKind} {a b : Int} {t : Bool} (hx : ev Γ x = some (.int k a)) (hy : ev Γ y = some (.int k b)) (ht : decide (a = b) = t) (h : VO P n rs (putE d (.bool t) Γ) H Z K) :
    VO P n (⟨d, none, .bin .eql x y⟩ :: rs) Γ H Z K :=
  VO.pure rfl (v := .bool t) (fun ρ hρ => by subst ht;simp [kZ, hρ _ _ hx, hρ _ _ hy, zg, intV]) h
theorem st_leI {x y : Operand} {k : IntKind} {a b : Int} {t : Bool} (hx : ev Γ x = some (.int k a)) (hy : ev Γ y = some (.int k b)) (ht : decide (a <= b) = t) (h : VO P n rs (putE d (.bool t) Γ) H Z K) :
    VO P n (⟨d, none, .bin .leq x y⟩ :: rs) Γ H Z K :=
  VO.pure rfl (v := .bool t) (fun ρ hρ => by subst ht;simp [kZ, hρ _ _ hx, hρ _ _ hy, zg, intV]) h
theorem st_lenI {x : Operand} {a : Option Addr} {m c : Nat} (hx : ev Γ x = some (.slice a m c)) (h : VO P n rs (putE d (vi m) Γ) H Z K) :
    VO P n (⟨d, none, .lenL x⟩ :: rs) Γ H Z K :=
  VO.pure rfl (v := vi m) (fun ρ hρ => by simp [kZ, hρ _ _ hx, vi]) h
end
end Go.V
namespace Go.V
open Go
theorem holds_loc {w : World} {a b : kE} (ha : a.holds w) (hb : b.holds w) (h : a.loc = b.loc) : a = b := by
  cases a with
  | cell i k v =>
    cases b with
    | cell j l u =>
      simp only [kE.loc, Prod.mk.injEq, Option.some.injEq] at h;obtain ⟨rfl, rfl⟩ := h;obtain ⟨c, t, lo, hi, h1, h2, _⟩ := ha;obtain ⟨c', t', lo', hi', h3, h4, _⟩ := hb;rw [h1] at h3;cases h3;rw [h2] at h4;cases h4;rfl
    | obj j o => simp [kE.loc] at h
  | obj i o =>
    cases b with
    | cell j l u => simp [kE.loc] at h
    | obj j p =>
      simp only [kE.loc, Prod.mk.injEq, and_true] at h;subst h;have h1 := ha.1;rw [hb.1] at h1;cases h1;rfl
theorem sat_of_list {w : World} : ∀ L : List kE, (∀ a ∈ L, a.holds w) -> ∃ L', Sat w L' /\ ∀ a ∈ L, a ∈ L' := by
  intro L
  induction L with
  | nil => intro _;exact ⟨[], ⟨Zs, Zs⟩, Zs⟩
  | cons x L ih =>
    intro h;obtain ⟨L', h1, h2⟩ := ih (fun a ha => h a (by simp [ha]));by_cases hx : x.loc ∈ L'.map kE.loc
    · obtain ⟨y, hy, e⟩ := List.mem_map.1 hx;have : y = x := holds_loc (h1.holds y hy) (h x Zs) e;subst this;refine ⟨L', h1, fun a ha => ?_⟩;rcases List.mem_cons.1 ha with rfl | ha
      · exact hy
      · exact h2 a ha
    · refine ⟨x :: L', ⟨fun a ha => ?_, by simp only [List.map_cons, List.nodup_cons];exact ⟨hx, h1.nodup⟩⟩, fun a ha => ?_⟩
      · rcases List.mem_cons.1 ha with rfl | ha
        · exact h a Zs
        · exact h1.holds a ha
      · rcases List.mem_cons.1 ha with rfl | ha
        · simp
        · simp [h2 a ha]
def blockAtoms (w : World) (i : Nat) : List kE := match w.heap[i]? with
  | some (.cells c _ (lo, hi)) => (List.range c.size).filterMap fun j => if lo <= j /\ j < hi then none else (c[j]?).map fun v => .cell i j v
  | some o => [.obj i o]
  | none => []
theorem sat_all (w : World) : ∃ L, Sat w L /\ ∀ a : kE, a.holds w -> a ∈ L := by
  obtain ⟨L, h1, h2⟩ := sat_of_list (w := w) ((List.range w.heap.size).flatMap (blockAtoms w)) (by
    intro a ha;obtain ⟨i, _, ha⟩ := List.mem_flatMap.1 ha;unfold blockAtoms at ha;split at ha
    · rename_i c t lo hi hb;obtain ⟨j, _, hj⟩ := List.mem_filterMap.1 ha;split at hj
      · cases hj
      · rename_i hf;simp only [Option.map_eq_some_iff] at hj;obtain ⟨v, hv, rfl⟩ := hj;exact ⟨c, t, lo, hi, hb, hv, hf⟩
    · rename_i o hne hb;simp only [List.mem_singleton] at ha;subst ha;refine ⟨hb, ?_⟩;cases o <;> first | rfl | (rename_i c t fr;exact absurd rfl (hne c t fr.1 fr.2))
    · cases ha)
  refine ⟨L, h1, fun a ha => h2 a ?_⟩;cases a with
  | cell i k v =>
    obtain ⟨c, t, lo, hi, hb, hv, hf⟩ := ha;have hi' : i < w.heap.size := by
      rcases Nat.lt_or_ge i w.heap.size with h | h
      · exact h
      · rw [Array.getElem?_eq_none h] at hb;cases hb
    refine List.mem_flatMap.2 ⟨i, List.mem_range.2 hi', ?_⟩;unfold blockAtoms;rw [hb];refine List.mem_filterMap.2 ⟨k, List.mem_range.2 (Array.getElem?_eq_some_iff.1 hv).1, ?_⟩;rw [if_neg hf, hv];rfl
  | obj i o =>
    obtain ⟨hb, hc⟩ := ha;have hi' : i < w.heap.size := by
      rcases Nat.lt_or_ge i w.heap.size with h | h
      · exact h
      · rw [Array.getElem?_eq_none h] at hb;cases hb
    refine List.mem_flatMap.2 ⟨i, List.mem_range.2 hi', ?_⟩;unfold blockAtoms;rw [hb];cases o <;> first | (simp;done) | (simp [z9] at hc)
theorem old_same {w w' : World} {L : List kE} (hL : ∀ a : kE, a.holds w -> a ∈ L) (hs : Sat w' L) (hk : ko w w') : ∀ i, i < w.heap.size -> w'.heap[i]? = w.heap[i]? := by
  intro i hi;have hb : w.heap[i]? = some w.heap[i] := Array.getElem?_eq_getElem hi;generalize w.heap[i] = o at hb;rw [hb];by_cases hc : z9 o = false
  · exact (hs.holds _ (hL (.obj i o) ⟨hb, hc⟩)).1
  · cases o <;> first | (exact absurd rfl hc) | skip
    rename_i c t fr;obtain ⟨lo, hi2⟩ := fr;obtain ⟨c', h1, h2, h3⟩ := hk.cells i c t lo hi2 hb;rw [h1]
    congr 2
    apply Array.ext h2;intro j hj1 hj2;by_cases hf : lo <= j /\ j < hi2
    · have := h3 j hf;rw [Array.getElem?_eq_getElem hj1, Array.getElem?_eq_getElem hj2] at this;exact Option.some.inj this
    · obtain ⟨c2, t2, lo2, hi3, g1, g2, _⟩ := hs.holds _ (hL (.cell i j c[j]) ⟨c, t, lo, hi2, hb, Array.getElem?_eq_getElem hj2, hf⟩);rw [h1] at g1;cases g1;rw [Array.getElem?_eq_getElem hj1] at g2;exact Option.some.inj g2
end Go.V
namespace Go.V
open Go
theorem mapM_mono {α β : Type} {f g : α -> Option β} : ∀ {l : List α} {r : List β}, (∀ x ∈ l, ∀ y, f x = some y -> g x = some y) -> l.mapM f = some r -> l.mapM g = some r := by
  intro l
  induction l with
  | nil => intro r _ h;simpa using h
  | cons a l ih =>
    intro r hfg h;simp only [List.mapM_cons, Option.bind_eq_bind, Option.pure_def, Option.bind_eq_some_iff] at h |-;obtain ⟨y, h1, ys, h2, h3⟩ := h;exact ⟨y, hfg a Zs y h1, ys, ih (fun x hx => hfg x (by simp [hx])) h2, h3⟩
theorem cells?_same {w w' : World} (hold : ∀ i, i < w.heap.size -> w'.heap[i]? = w.heap[i]?) {base n : Nat} {a : Addr} {cs : List Value} (h : w.cells? base a n = some cs) : w'.cells? base a n = some cs := by
  unfold World.cells? at h |-;split at h
  · rename_i hb;rw [if_pos hb];refine mapM_mono (fun i _ v hv => ?_) h;have hlt := World.block_lt_of_cell? w _ hv;unfold World.cell? at hv |-;rw [hold _ hlt];exact hv
  · cases h
section
variable {H : Type} {enc : TypeId × Value -> H} {P : Program} {w w' : World} {base : Nat} {sp : Nat -> Bool} {held : Bool}
structure Closed (P : Program) (ok : TypeId -> Prop) : Prop where
  ptr : ∀ t e, ok t -> P.underlying t = some (.pointer e) -> ok e
  slice : ∀ t e, ok t -> P.underlying t = some (.slice e) -> ok e /\ 0 < P.cellsOf e
  struct : ∀ t fs, ok t -> P.underlying t = some (.struct fs) -> ∀ f ∈ fs.toList, ok f.type
  array : ∀ t n e, ok t -> P.underlying t = some (.array n e) -> ok e
  map : ∀ t k e, ok t -> P.underlying t = some (.map k e) -> ok e
def closedB (P : Program) (S : List TypeId) : Bool := S.all fun t => match P.underlying t with
  | some (.pointer e) => S.contains e
  | some (.slice e) => S.contains e && decide (0 < P.cellsOf e)
  | some (.struct fs) => fs.toList.all fun f => S.contains f.type
  | some (.array _ e) => S.contains e
  | some (.map _ e) => S.contains e
  | _ => true
theorem closed_of {S : List TypeId} (h : closedB P S = true) : Closed P (· ∈ S) := by
  have h' := List.all_eq_true.1 h;refine ⟨fun t e ht hu => ?_, fun t e ht hu => ?_, fun t fs ht hu f hf => ?_, fun t n e ht hu => ?_, fun t k e ht hu => ?_⟩
  all_goals have := h' t ht
  all_goals rw [hu] at this
  all_goals simp only [List.contains_iff_mem, Bool.and_eq_true, decide_eq_true_eq, List.all_eq_true] at this
  · exact this
  · exact this
  · exact this f hf
  · exact this
  · exact this
theorem trodStep_same {ok : TypeId -> Prop} (hcl : Closed P ok) (hold : ∀ i, i < w.heap.size -> w'.heap[i]? = w.heap[i]?) (hsp : ∀ b, b < w.heap.size -> sp b = true)
    {r r' : TypeId -> List Value -> Option (DataW H × List MemPlace)} (hr : ∀ t cs x, ok t -> r t cs = some x -> r' t cs = some x) {t : TypeId} {cs : List Value} {x : DataW H × List MemPlace} (ht : ok t)
    (h : DataW.trodStep enc P w base (fun _ => true) true r t cs = some x) : DataW.trodStep enc P w' base sp true r' t cs = some x := by
  unfold DataW.trodStep at h;split at h
  case h_1 hu => unfold DataW.trodStep;simp only [hu];exact h
  case h_2 hu => unfold DataW.trodStep;simp only [hu];exact h
  case h_3 hu => unfold DataW.trodStep;simp only [hu];exact h
  case h_4 hu => unfold DataW.trodStep;simp only [hu];exact h
  case h_5 hu => unfold DataW.trodStep;simp only [hu];exact h
  case h_6 e a hu =>
    unfold DataW.trodStep;simp only [hu];simp only [Option.map_eq_some_iff, Option.bind_eq_some_iff] at h |-;obtain ⟨y, ⟨cs', hc, hy⟩, hx⟩ := h;exact ⟨y, ⟨cs', cells?_same hold hc, hr _ _ _ (hcl.ptr t e ht hu) hy⟩, hx⟩
  case h_7 hu => unfold DataW.trodStep;simp only [hu];exact h
  case h_8 e a len cap hu =>
    unfold DataW.trodStep;simp only [hu];obtain ⟨hoe, hpos⟩ := hcl.slice t e ht hu;simp only at h;split at h
    · rename_i hb;rw [if_pos hb];simp only [Option.map_eq_some_iff, Option.bind_eq_some_iff, if_true] at h |-;obtain ⟨elems, he, rest, hrest, hx⟩ := h;have one : ∀ i y, (w.cells? base (a.add (i * P.cellsOf e)) (P.cellsOf e)).bind (r e) = some y -> (w'.cells? base (a.add (i * P.cellsOf e)) (P.cellsOf e)).bind (r' e) = some y := by
        intro i y hy;simp only [Option.bind_eq_some_iff] at hy |-;obtain ⟨cs', hc, hy⟩ := hy;exact ⟨cs', cells?_same hold hc, hr _ _ _ hoe hy⟩
      have hb' : (cap - len = 0) ∨ a.block < w.heap.size := by
        rcases Nat.eq_zero_or_pos (cap - len) with h0 | h0
        · exact .inl h0
        · right;have hne : rest ≠ [] := by
            intro hn;subst hn;have := congrArg List.length (show [] = _ from rfl : ([] : List Nat) = []);have hlen : ∀ {l : List Nat} {g : Nat -> Option (DataW H × List MemPlace)} {q : List (DataW H × List MemPlace)}, l.mapM g = some q -> q.length = l.length := by
              intro l g
              induction l with
              | nil => intro q hq;simp at hq;subst hq;rfl
              | cons a l ih =>
                intro q hq;simp only [List.mapM_cons, Option.bind_eq_bind, Option.pure_def, Option.bind_eq_some_iff] at hq;obtain ⟨y, _, ys, h2, h3⟩ := hq;cases h3;simp [ih h2]
            have := hlen hrest;simp at this;omega
          obtain ⟨y, hy⟩ := List.exists_mem_of_ne_nil _ hne;obtain ⟨j, _, hj⟩ := mapM_mem_of hrest y hy;simp only [Option.bind_eq_some_iff] at hj;obtain ⟨cs', hc, _⟩ := hj;have := World.cells?_block hc hpos;have e1 : (a.add ((len + j) * P.cellsOf e)).block = a.block := by unfold Addr.add;split <;> rfl
          rw [e1] at this;exact this
      refine ⟨elems, mapM_mono (fun i _ y hy => one i y hy) he, rest, ?_, hx⟩;rcases hb' with h0 | h0
      · rw [h0] at hrest |-;simp at hrest |-;subst hrest;rfl
      · rw [hsp _ h0];exact mapM_mono (fun i _ y hy => one _ y hy) hrest
    · cases h
  case h_9 fs hu =>
    unfold DataW.trodStep;simp only [hu];split at h
    · rename_i hl;rw [if_pos hl];simp only [Option.map_eq_some_iff] at h |-;obtain ⟨xs, hx, e⟩ := h;exact ⟨xs, mapM_mono (fun f hf y hy => hr _ _ _ (hcl.struct t fs ht hu f hf) hy) hx, e⟩
    · cases h
  case h_10 n e hu =>
    unfold DataW.trodStep;simp only [hu];split at h
    · rename_i hl;rw [if_pos hl];simp only [Option.map_eq_some_iff] at h |-;obtain ⟨xs, hx, e1⟩ := h;exact ⟨xs, mapM_mono (fun f _ y hy => hr _ _ _ (hcl.array t n e ht hu) hy) hx, e1⟩
    · cases h
  case h_11 hu => unfold DataW.trodStep;simp only [hu];exact h
  case h_12 u v hu =>
    unfold DataW.trodStep;simp only [hu];exact h
  case h_13 hu => unfold DataW.trodStep;simp only [hu];exact h
  case h_14 k e b hu =>
    unfold DataW.trodStep;simp only [hu];split at h
    · rename_i es clock hb;have hlt : b < w.heap.size := by
        rcases Nat.lt_or_ge b w.heap.size with h' | h'
        · exact h'
        · simp [Array.getElem?_eq_none h'] at hb
      rw [hold b hlt, hb];dsimp only;split at h
      · rename_i hc;rw [if_pos hc];simp only [Option.bind_eq_some_iff] at h |-;obtain ⟨entries, he, hd⟩ := h;refine ⟨entries, mapM_mono (fun x _ y hy => ?_) he, hd⟩;obtain ⟨key, hk, hz'⟩ := Option.bind_eq_some_iff.1 hy;refine Option.bind_eq_some_iff.2 ⟨key, hk, ?_⟩;split at hz'
        · rename_i hf;rw [if_pos hf];simp only [Option.map_eq_some_iff] at hz' |-;obtain ⟨q, hq, e⟩ := hz';exact ⟨q, hr _ _ _ (hcl.map t k _ ht hu) hq, e⟩
        · cases hz'
      · cases h
    · cases h
  case h_15 hu => unfold DataW.trodStep;simp only [hu];exact h
  case h_16 hu => unfold DataW.trodStep;simp only [hu];exact h
  case h_17 hu => unfold DataW.trodStep;simp only [hu];exact h
  case h_18 hu => unfold DataW.trodStep;simp only [hu];exact h
  case h_19 hu => unfold DataW.trodStep;simp only [hu];exact h
  case h_20 hu => unfold DataW.trodStep;simp only [hu];exact h
  case h_21 => cases h
theorem trod_same {ok : TypeId -> Prop} (hcl : Closed P ok) (hold : ∀ i, i < w.heap.size -> w'.heap[i]? = w.heap[i]?) (hsp : ∀ b, b < w.heap.size -> sp b = true) :
    ∀ (n : Nat) (t : TypeId) (cs : List Value) (x : DataW H × List MemPlace), ok t -> DataW.trod enc P w base (fun _ => true) true n t cs = some x -> DataW.trod enc P w' base sp true n t cs = some x := by
  intro n
  induction n with
  | zero => intro t cs x _ h;simp [DataW.trod] at h
  | succ n ih =>
    intro t cs x ht h;rw [DataW.trod_step] at h |-;exact trodStep_same hcl hold hsp ih ht h
theorem trodAll_same {ok : TypeId -> Prop} (hcl : Closed P ok) (hold : ∀ i, i < w.heap.size -> w'.heap[i]? = w.heap[i]?) (hsp : ∀ b, b < w.heap.size -> sp b = true) :
    ∀ {ts : List TypeId} {vs : List Value} {ds : List (DataW H)} {ps : List MemPlace}, (∀ t ∈ ts, ok t) -> DataW.TrodAll enc P w base (fun _ => true) true ts vs ds ps -> DataW.TrodAll enc P w' base sp true ts vs ds ps
  | [], [], [], _, _, h => h
  | _ :: _, _ :: _, _ :: _, _, ho, ⟨p, q, ⟨n, h1⟩, h2, e⟩ => ⟨p, q, ⟨n, trod_same hcl hold hsp n _ _ _ (ho _ Zs) h1⟩, trodAll_same hcl hold hsp (fun t ht => ho t (by simp [ht])) h2, e⟩
end
end Go.V
namespace Go.V
open Go Go.ChangeShapes Go.WideShapes
section
variable {H : Type} {enc : TypeId × Value -> H} {P : Program}
theorem glue {f : FuncId} {fn : Func} {s : ChangeSpec} {rt : TypeId} {apart fresh handsOn : Bool} {W : World} {args : List Value} {ds gs : List (DataW H)} {before : List MemPlace}
    (hvars : s.vars = []) (hrt : fn.resultTypes = #[rt]) (hb : P.underlying rt = some .bool) (hfn : s.fn H (ds ++ gs) = { results := [.lit (.bool true)], args := ds })
    {ok : TypeId -> Prop} (hcl : Closed P ok) (hok : ∀ t ∈ fn.params.toList, ok t) (hW : DataW.Whole enc P fn.params.toList s.vars apart W args ds gs before)
    (hF : ∀ A, (∀ a : kE, a.holds W -> a ∈ A) -> Fun P f args [A] fun v Post => v = .bool true /\ Post = [A]) :
    Calls P f args.toArray W fun e W' => ∃ v, e = .returned v /\ s.post enc P fn apart fresh handsOn false W args.toArray v W' := by
  obtain ⟨A, hA, hall⟩ := sat_all W;have h := (hF A hall).2 [] W (by simpa using hA);refine h.mono ?_
  rintro e W' ⟨v, Post, rfl, ⟨rfl, rfl⟩, hs, hk⟩
  have hs' : Sat W' A := by simpa using hs
  have hold := old_same hall hs' hk;refine ⟨_, rfl, ds, gs, before, [], before, [], by simpa using hW, ?_, ?_, ?_, ?_, fun h => by cases h⟩
  · rw [hrt, hfn];exact trodAll_mk1 ⟨1, by simp [DataW.trod, hb, Value.cells]⟩
  · obtain ⟨p, q, h1, h2, h3, _, _⟩ := hW;rw [hvars] at h2;obtain ⟨rfl, rfl⟩ := trodVars_none h2;rw [hfn];simp only [List.append_nil] at h3;subst h3;simpa using trodAll_same hcl hold (fun b hb => by simpa using hb) hok h1
  · rw [hfn, hvars];rfl
  · refine ⟨hk.os, hk.output, fun i hi => ?_⟩;rw [hold i hi];have : W.heap[i]? = some W.heap[i] := Array.getElem?_eq_getElem hi;generalize W.heap[i] = o at this;rw [this];cases o <;> first | exact ⟨rfl, rfl, rfl, fun _ _ => rfl⟩ | exact .inr ⟨rfl, rfl⟩ | rfl
theorem holds_cell {W : World} {b o : Nat} {v : Value} (h : W.cell? ⟨b, o, none⟩ = some v) (hf : W.frozen? ⟨b, o, none⟩ = false) : (kE.cell b o v).holds W := by
  unfold World.cell? at h;unfold World.frozen? at hf;split at h
  · rename_i c t fr hb;obtain ⟨lo, hi⟩ := fr;simp only at hb hf h;rw [hb] at hf;simp only [Bool.and_eq_false_iff, decide_eq_false_iff_not] at hf;refine ⟨c, t, lo, hi, hb, by simpa using h, fun hh => ?_⟩;rcases hf with hf | hf
    · exact hf hh.1
    · exact hf hh.2
  · cases h
end
end Go.V
namespace Go.V
open Go Go.ChangeShapes Go.WideShapes Go.Deep
inductive SC where
  | int (k : IntKind)
  | str
section
variable {H : Type} {enc : TypeId × Value -> H} {P : Program} {W : World} {base : Nat}
theorem add_addr (b o i : Nat) : (⟨b, o, none⟩ : Addr).add i = ⟨b, o + i, none⟩ := by
  unfold Addr.add;split
  · rename_i h0;have : i = 0 := by simpa using h0
    subst this;rfl
  · rfl
theorem choose_rows {α : Type} {Q : Nat -> α -> Prop} {n : Nat} (h : ∀ i, i < n -> ∃ x, Q i x) : ∃ l : List α, l.length = n /\ ∀ i x, l[i]? = some x -> Q i x := by
  induction n with
  | zero => exact ⟨[], rfl, Zs⟩
  | succ n ih =>
    obtain ⟨l, h1, h2⟩ := ih (fun i hi => h i Zo);obtain ⟨x, hx⟩ := h n Zo;refine ⟨l ++ [x], by simp [h1], fun i y hy => ?_⟩;by_cases hi : i < l.length
    · rw [List.getElem?_append_left hi] at hy;exact h2 i y hy
    · rw [List.getElem?_append_right Zo] at hy;have : i = n := by
        have := (List.getElem?_eq_some_iff.1 hy).1;simp at this;omega
      subst this;simp [h1] at hy;subst hy;exact hx
end
end Go.V
namespace Go.V
open Go Go.ChangeShapes Go.WideShapes Go.Deep
structure Bulk {H : Type} (bulk : DataW H -> Nat) : Prop where
  agg : ∀ l d, d ∈ l -> bulk d < bulk (.agg l)
  sl : ∀ es sp d, d ∈ es -> bulk d < bulk (.slice es sp)
  len : ∀ es sp, es.length <= bulk (.slice es sp)
  sls : ∀ es sp, (es.map bulk).sum <= bulk (.slice es sp)
  aggs : ∀ l, (l.map bulk).sum < bulk (.agg l)
  str : ∀ bs, bs.length <= bulk (.lit (.string bs))
theorem spot_noneV {W : World} {a : Addr} {v : Value} (h : W.cell? a = some v) : a = ⟨a.block, a.off, none⟩ := by
  obtain ⟨b, o, s⟩ := a;cases s with
  | none => rfl
  | some s =>
    unfold World.cell? at h;split at h
    · simp at h
    · cases h
section
variable {H : Type} {enc : TypeId × Value -> H} {P : Program} {bulk : DataW H -> Nat}
theorem rd_rows (hb : Bulk bulk) {t e : TypeId} {sz : Nat} (ht : P.underlying t = some (.slice e)) (hc : P.cellsOf e = sz) (hpos : 0 < sz) {W : World} {u : Value} {n : Nat} {x : DataW H × List MemPlace} {A : List kE} (h : DataW.trod enc P W 0 (fun _ => true) true n t [u] = some x) (hf : W.noneFrozen x.2) (hA : ∀ a : kE, a.holds W -> a ∈ A) :
    ∃ (a : Option Addr) (k c bk o : Nat) (us : Nat -> List Value) (D : Nat -> DataW H) (Pl : Nat -> List MemPlace) (m : Nat), u = .slice a k c /\ (k <= bulk x.1 /\ ((List.range' 0 k).map fun i => bulk (D i)).sum <= bulk x.1 /\ k <= c) /\ (0 < k -> a = some ⟨bk, o, none⟩) /\ ∀ i, i < k -> bulk (D i) < bulk x.1 /\ (us i).length = sz /\ (∀ y ∈ kA bk (o + i * sz) (us i), y ∈ A) /\ DataW.trod enc P W 0 (fun _ => true) true m e (us i) = some (D i, Pl i) /\ W.noneFrozen (Pl i) := by
  rcases open_slice ht h with ⟨h1, _⟩ | ⟨a, len, cap, m, n', D, Pl, hcs, _, hl, _, hm, hx, hi⟩
  · simp only [List.cons.injEq, and_true] at h1;exact ⟨none, 0, 0, 0, 0, fun _ => [], fun _ => .nil, fun _ => [], 0, h1, ⟨Nat.zero_le _, Nat.zero_le _, Nat.le_refl _⟩, fun h => absurd h (Nat.lt_irrefl 0), fun i hi => absurd hi (Nat.not_lt_zero _)⟩
  · simp only [List.cons.injEq, and_true] at hcs;simp only [if_true] at hm;subst hm;subst hx;rw [hc] at hi;obtain ⟨us, hus⟩ : ∃ us : Nat -> List Value, ∀ i, i < m -> W.cells? 0 (a.add (i * sz)) sz = some (us i) /\ DataW.trod enc P W 0 (fun _ => true) true n' e (us i) = some (D i, Pl i) :=
      ⟨fun i => if h : i < m then (hi i h).choose else [], fun i h => by simp only [dif_pos h];exact (hi i h).choose_spec⟩
    refine ⟨some a, len, m, a.block, a.off, us, D, Pl, n', hcs, ⟨?_, ?_, Zo⟩, fun hk => ?_, fun i hik => ?_⟩
    · have := hb.len ((List.range len).map D) ((List.range (m - len)).map fun j => D (len + j));simpa using this
    · have := hb.sls ((List.range len).map D) ((List.range (m - len)).map fun j => D (len + j));rw [List.map_map] at this;rw [<- List.range_eq_range'];exact this
    · obtain ⟨h0, _⟩ := hus 0 Zo;obtain ⟨_, _, hat⟩ := World.cells?_some h0;have h00 := hat 0 hpos;obtain ⟨_, hlen, _⟩ := World.cells?_some h0;rw [Zg Zo] at h00;have e1 : (a.add (0 * sz)).add 0 = a := by rw [Nat.zero_mul];rfl
      rw [e1] at h00;rw [<- spot_noneV h00]
    · obtain ⟨h0, h1⟩ := hus i Zo;obtain ⟨_, hlen, hat⟩ := World.cells?_some h0;have ha : a = ⟨a.block, a.off, none⟩ := by
        obtain ⟨g0, _⟩ := hus 0 Zo;obtain ⟨_, glen, gat⟩ := World.cells?_some g0;have h00 := gat 0 hpos;rw [Zg Zo] at h00;have e1 : (a.add (0 * sz)).add 0 = a := by rw [Nat.zero_mul];rfl
        rw [e1] at h00;exact spot_noneV h00
      refine ⟨hb.sl _ _ _ (List.mem_map.2 ⟨i, List.mem_range.2 hik, rfl⟩), hlen, fun y hy => ?_, h1, fun b o hbo => hf b o ?_⟩
      · obtain ⟨j, v, hj, rfl⟩ := kb.1 hy;have hjl := (List.getElem?_eq_some_iff.1 hj).1;have hcell := hat j Zo;rw [ha, add_addr, add_addr, hj] at hcell;refine hA _ (holds_cell hcell (hf _ _ ?_));refine Zw _ (MemPlace.mem_row.2 ⟨i * sz + j, ?_, ?_⟩)
        · rw [hc];have : (i + 1) * sz <= m * sz := Nat.mul_le_mul_right _ Zo;rw [Nat.succ_mul] at this;omega
        · rw [Nat.add_assoc]
      · exact List.mem_append_right _ (List.mem_flatMap.2 ⟨i, List.mem_range.2 Zo, hbo⟩)
theorem rd_texts (hb : Bulk bulk) {t e : TypeId} (ht : P.underlying t = some (.slice e)) (he : P.underlying e = some .string) (hc : P.cellsOf e = 1) {W : World} {u : Value} {n : Nat} {x : DataW H × List MemPlace} {A : List kE} (h : DataW.trod enc P W 0 (fun _ => true) true n t [u] = some x) (hf : W.noneFrozen x.2) (hA : ∀ a : kE, a.holds W -> a ∈ A) (hsz : bulk x.1 <= 1048576) :
    ∃ l : List ByteArray, RdT A u l /\ l.length <= bulk x.1 := by
  obtain ⟨a, k, c, bk, o, us, D, Pl, m, rfl, ⟨hk, _⟩, ha, hi⟩ := rd_rows hb ht hc Zd h hf hA;obtain ⟨l, hl, hx⟩ := choose_rows (α := ByteArray) (Q := fun i t => kE.cell bk (o + i) (.string t) ∈ A /\ t.size <= 140737488355328) (n := k) (fun i hik => by
    obtain ⟨h1, h2, h3, h4, h5⟩ := hi i hik;obtain ⟨s, hs, hd, _⟩ := DataW.trod_string he h4;refine ⟨s, h3 _ (kb.2 ⟨0, .string s, by rw [hs];rfl, by rw [Nat.mul_one];rfl⟩), ?_⟩;have e1 : D i = .lit (.string s.data.toList) := congrArg Prod.fst hd;have := hb.str s.data.toList;rw [e1] at h1;have e2 : s.data.toList.length = s.size := by simp
    omega)
  refine ⟨l, ⟨a, c, by rw [hl], Zo, fun i t h => ?_⟩, Zo⟩;have hik : i < k := by have := (List.getElem?_eq_some_iff.1 h).1;omega
  exact ⟨bk, o, ha Zo, (hx i t h).1, (hx i t h).2⟩
structure LitT (P : Program) (t : TypeId) (sl : TypeId) : Prop where
  str : ∃ fs : Array Field, P.underlying t = some (.struct fs) /\ fs.size = 5 /\ ∃ t0 t1 t2 t3, (fs.toList.map fun f => (f.type, f.offset)) = [(t0, 0), (t1, 1), (t2, 2), (t3, 3), (sl, 4)] /\ P.underlying t0 = some (.int .u8) /\ P.underlying t1 = some (.int .i64) /\ P.underlying t2 = some (.int .u64) /\ P.underlying t3 = some .string /\
    P.cellsOf t0 = 1 /\ P.cellsOf t1 = 1 /\ P.cellsOf t2 = 1 /\ P.cellsOf t3 = 1 /\ P.cellsOf sl = 1
  cells : P.cellsOf t = 5
  items : P.underlying sl = some (.slice t)
theorem wf_u8 {n : Int} (h : (Lit.int .u8 n).wf = true) : ∃ k : Nat, n = k /\ k < 256 := by
  simp [Lit.wf] at h;have e1 : IntKind.u8.min = 0 := by decide
  have e2 : IntKind.u8.max = 255 := by decide
  exact ⟨n.toNat, Zo, Zo⟩
theorem wf_u64 {n : Int} (h : (Lit.int .u64 n).wf = true) : ∃ k : Nat, n = k /\ k < 18446744073709551616 := by
  simp [Lit.wf] at h;have e1 : IntKind.u64.min = 0 := by decide
  have e2 : IntKind.u64.max = 18446744073709551615 := by decide
  exact ⟨n.toNat, Zo, Zo⟩
theorem wf_i64 {n : Int} (h : (Lit.int .i64 n).wf = true) : -9223372036854775808 <= n /\ n <= 9223372036854775807 := by
  simp [Lit.wf] at h;have e1 : IntKind.i64.min = -9223372036854775808 := by decide
  have e2 : IntKind.i64.max = 9223372036854775807 := by decide
  omega
theorem jc {α : Type} {l : List α} {i : Nat} {v : α} (h : (l.drop i).take 1 = [v]) : l[i]? = some v := by
  have := congrArg (fun m : List α => m[0]?) h;simp only [List.getElem?_take, List.getElem?_drop] at this;simpa using this
theorem flat_sub {ys : List (DataW H × List MemPlace)} {i : Nat} {y : DataW H × List MemPlace} (h : ys[i]? = some y) {q : MemPlace} (hq : q ∈ y.2) : q ∈ ys.flatMap (·.2) := List.mem_flatMap.2 ⟨y, Zv h, hq⟩
theorem rd_lit (hb : Bulk bulk) {t sl : TypeId} (hT : LitT P t sl) {W : World} {A : List kE} (hA : ∀ a : kE, a.holds W -> a ∈ A) : ∀ (N : Nat) (n : Nat) (cs : List Value) (x : DataW H × List MemPlace), bulk x.1 <= N -> N <= 1048576 -> DataW.trod enc P W 0 (fun _ => true) true n t cs = some x -> W.noneFrozen x.2 -> ∃ l : Lt, zL A l cs /\ l.size <= bulk x.1 := by
  obtain ⟨fs, hu, hsz, t0, t1, t2, t3, hfs, u0, u1, u2, u3, c0, c1, c2, c3, c4⟩ := hT.str;intro N
  induction N using Nat.strongRecOn with
  | _ N ih =>
    intro n cs x hx hN h hf;obtain ⟨ys, k, _, rfl, hlen, hyl, hfld⟩ := DataW.trod_struct hu h;rw [hT.cells] at hlen
    replace hx : bulk (.agg (ys.map (·.1))) <= N := hx
    have hget : ∀ (i : Nat) (ty off : Nat), (fs.toList.map fun f => (f.type, f.offset))[i]? = some (ty, off) -> DataW.trod enc P W 0 (fun _ => true) true k ty ((cs.drop off).take (P.cellsOf ty)) = ys[i]? := fun i ty off hi => by
      rw [List.getElem?_map] at hi;obtain ⟨f, hf1, hf2⟩ := Option.map_eq_some_iff.1 hi;cases hf2;exact hfld i f (by rw [<- hf1, Array.getElem?_toList])
    have hys : ∀ i, i < 5 -> ys[i]? = some (ys.getD i (.nil, [])) := fun i hi => by
      rw [List.getD_eq_getElem?_getD, Zg Zo];rfl
    have g0 := (hget 0 t0 0 (by rw [hfs];rfl)).trans (hys 0 Zo);have g1 := (hget 1 t1 1 (by rw [hfs];rfl)).trans (hys 1 Zo);have g2 := (hget 2 t2 2 (by rw [hfs];rfl)).trans (hys 2 Zo);have g3 := (hget 3 t3 3 (by rw [hfs];rfl)).trans (hys 3 Zo);have g4 := (hget 4 sl 4 (by rw [hfs];rfl)).trans (hys 4 Zo);rw [c0] at g0;rw [c1] at g1;rw [c2] at g2;rw [c3] at g3;rw [c4] at g4;obtain ⟨z0, e0, _, w0⟩ := DataW.trod_int u0 g0;obtain ⟨z1, e1, _, w1⟩ := DataW.trod_int u1 g1;obtain ⟨z2, e2, _, w2⟩ := DataW.trod_int u2 g2;obtain ⟨s, e3, d3, _⟩ := DataW.trod_string u3 g3;have hlt : ∀ i, i < 5 -> bulk (ys.getD i (.nil, [])).1 < bulk (.agg (ys.map (·.1))) := fun i hi => hb.agg _ _ (List.mem_map.2 ⟨_, Zv (hys i hi), rfl⟩)
    have hfr : ∀ i, i < 5 -> W.noneFrozen (ys.getD i (.nil, [])).2 := fun i hi b o hbo => hf b o (flat_sub (hys i hi) hbo)
    obtain ⟨v4, e4⟩ : ∃ v, (cs.drop 4).take 1 = [v] := List.length_eq_one_iff.1 Zam;rw [e4] at g4;obtain ⟨a, kk, c, bk, o, us, D, Pl, m, rfl, ⟨hk, hks, hkc⟩, ha, hi⟩ := rd_rows hb hT.items hT.cells Zd g4 (hfr 4 Zo) hA;obtain ⟨l, hl, hq⟩ := choose_rows (α := Lt) (Q := fun i y => zL A y (us i) /\ y.size <= bulk (D i)) (n := kk) (fun i hik => by
      obtain ⟨q1, _, _, q4, q5⟩ := hi i hik;have q6 := hlt 4 Zo;exact ih (bulk (D i)) Zo m (us i) (D i, Pl i) (Nat.le_refl _) Zo q4 q5)
    obtain ⟨k0, rfl, b0⟩ := wf_u8 w0;obtain ⟨k2, rfl, b2⟩ := wf_u64 w2;have b1 := wf_i64 w1;have hcs : cs = [cv k0, vi z1, uv k2, .string s, .slice a l.length c] := by
      have p0 := jc e0;have p1 := jc e1;have p2 := jc e2;have p3 := jc e3;have p4 := jc e4;obtain ⟨a0, a1, a2, a3, a4, rfl⟩ : ∃ a0 a1 a2 a3 a4, cs = [a0, a1, a2, a3, a4] := by
        match cs, hlen with
        | [a0, a1, a2, a3, a4], _ => exact ⟨a0, a1, a2, a3, a4, rfl⟩
      simp only [List.getElem?_cons_zero, List.getElem?_cons_succ, Option.some.injEq] at p0 p1 p2 p3 p4;rw [p0, p1, p2, p3, p4, hl]
    have hs3 : s.size <= 1048576 := by
      have h3 := hlt 3 Zo;have e : (ys.getD 3 (.nil, [])).1 = .lit (.string s.data.toList) := congrArg Prod.fst d3;rw [e] at h3;have h5 := hb.str s.data.toList;have e2 : s.data.toList.length = s.size := by simp
      omega
    have h4 := hlt 4 Zo;have hsz4 : Lt.sizes l <= bulk (ys.getD 4 (.nil, [])).1 := by
      refine Nat.le_trans (Lt.sizes_le (f := fun i => bulk (D i)) (o := 0) (fun i x hx => ?_)) ?_
      · rw [Nat.zero_add];exact (hq i x hx).2
      · rw [hl];exact hks
    rw [hcs];refine ⟨.mk k0 z1 k2 s l, .mk ⟨b0, b1, b2, Zo, Zo⟩ (fun hp => ha Zo) (fun i hi' => (hi i Zo).2.2.1) (fun i x hx => (hq i x hx).1), ?_⟩;show 1 + Lt.sizes l <= bulk (.agg (ys.map (·.1)));omega
structure NodT (P : Program) (t tl sl st : TypeId) : Prop where
  str : ∃ fs : Array Field, P.underlying t = some (.struct fs) /\ fs.size = 7 /\ ∃ t0 t1 t6, (fs.toList.map fun f => (f.type, f.offset)) = [(t0, 0), (t1, 1), (tl, 2), (st, 7), (st, 8), (sl, 9), (t6, 10)] /\ P.underlying t0 = some (.int .u8) /\ P.underlying t1 = some .string /\ P.underlying t6 = some (.int .i64) /\
    P.cellsOf t0 = 1 /\ P.cellsOf t1 = 1 /\ P.cellsOf t6 = 1 /\ P.underlying st = some (.slice t1)
  cells : P.cellsOf t = 11
  cs : P.cellsOf sl = 1
  ct : P.cellsOf st = 1
  cl : P.cellsOf tl = 5
  kids : P.underlying sl = some (.slice t)
theorem rd_node (hb : Bulk bulk) {t tl sl st ll : TypeId} (hT : NodT P t tl sl st) (hL : LitT P tl ll) {W : World} {A : List kE} (hA : ∀ a : kE, a.holds W -> a ∈ A) : ∀ (N : Nat) (n : Nat) (cs : List Value) (x : DataW H × List MemPlace), bulk x.1 <= N -> N <= 1048576 -> DataW.trod enc P W 0 (fun _ => true) true n t cs = some x -> W.noneFrozen x.2 -> ∃ l : Nd, kf A l cs /\ l.w <= bulk x.1 := by
  obtain ⟨fs, hu, hsz, t0, t1, t6, hfs, u0, u1, u6, c0, c1, c6, us3⟩ := hT.str;intro N
  induction N using Nat.strongRecOn with
  | _ N ih =>
    intro n cs x hx hN h hf;obtain ⟨ys, k, _, rfl, hlen, hyl, hfld⟩ := DataW.trod_struct hu h;rw [hT.cells] at hlen
    replace hx : bulk (.agg (ys.map (·.1))) <= N := hx
    have hget : ∀ (i : Nat) (ty off : Nat), (fs.toList.map fun f => (f.type, f.offset))[i]? = some (ty, off) -> DataW.trod enc P W 0 (fun _ => true) true k ty ((cs.drop off).take (P.cellsOf ty)) = ys[i]? := fun i ty off hi => by
      rw [List.getElem?_map] at hi;obtain ⟨f, hf1, hf2⟩ := Option.map_eq_some_iff.1 hi;cases hf2;exact hfld i f (by rw [<- hf1, Array.getElem?_toList])
    have hys : ∀ i, i < 7 -> ys[i]? = some (ys.getD i (.nil, [])) := fun i hi => by
      rw [List.getD_eq_getElem?_getD, Zg Zo];rfl
    have g0 := (hget 0 t0 0 (by rw [hfs];rfl)).trans (hys 0 Zo);have g1 := (hget 1 t1 1 (by rw [hfs];rfl)).trans (hys 1 Zo);have g2 := (hget 2 tl 2 (by rw [hfs];rfl)).trans (hys 2 Zo);have g3 := (hget 3 st 7 (by rw [hfs];rfl)).trans (hys 3 Zo);have g4 := (hget 4 st 8 (by rw [hfs];rfl)).trans (hys 4 Zo);have g5 := (hget 5 sl 9 (by rw [hfs];rfl)).trans (hys 5 Zo);have g6 := (hget 6 t6 10 (by rw [hfs];rfl)).trans (hys 6 Zo);rw [c0] at g0;rw [c1] at g1;rw [hT.cl] at g2;rw [hT.ct] at g3 g4;rw [hT.cs] at g5;rw [c6] at g6;obtain ⟨z0, e0, _, w0⟩ := DataW.trod_int u0 g0;obtain ⟨s, e1, d1, _⟩ := DataW.trod_string u1 g1;obtain ⟨z6, e6, _, w6⟩ := DataW.trod_int u6 g6;have hlt : ∀ i, i < 7 -> bulk (ys.getD i (.nil, [])).1 < bulk (.agg (ys.map (·.1))) := fun i hi => hb.agg _ _ (List.mem_map.2 ⟨_, Zv (hys i hi), rfl⟩)
    have hfr : ∀ i, i < 7 -> W.noneFrozen (ys.getD i (.nil, [])).2 := fun i hi b o hbo => hf b o (flat_sub (hys i hi) hbo)
    obtain ⟨v3, e3⟩ : ∃ v, (cs.drop 7).take 1 = [v] := List.length_eq_one_iff.1 Zam;obtain ⟨v4, e4⟩ : ∃ v, (cs.drop 8).take 1 = [v] := List.length_eq_one_iff.1 Zam;obtain ⟨v5, e5⟩ : ∃ v, (cs.drop 9).take 1 = [v] := List.length_eq_one_iff.1 Zam;rw [e3] at g3;rw [e4] at g4;rw [e5] at g5;have l2 := hlt 2 Zo;have l3 := hlt 3 Zo;have l4 := hlt 4 Zo;have l5 := hlt 5 Zo;obtain ⟨lit, hlit, hlw⟩ := rd_lit hb hL hA 1048576 k _ _ Zo (Nat.le_refl _) g2 (hfr 2 Zo);obtain ⟨args, hargs, hargl⟩ := rd_texts hb us3 u1 c1 g3 (hfr 3 Zo) hA Zo;obtain ⟨temps, htemps, htempl⟩ := rd_texts hb us3 u1 c1 g4 (hfr 4 Zo) hA Zo;obtain ⟨a, kk, c, bk, o, us, D, Pl, m, rfl, ⟨hk, hks, hkc⟩, ha, hi⟩ := rd_rows hb hT.kids hT.cells Zd g5 (hfr 5 Zo) hA;obtain ⟨l, hl, hq⟩ := choose_rows (α := Nd) (Q := fun i y => kf A y (us i) /\ y.w <= bulk (D i)) (n := kk) (fun i hik => by
      obtain ⟨q1, _, _, q4, q5⟩ := hi i hik;exact ih (bulk (D i)) Zo m (us i) (D i, Pl i) (Nat.le_refl _) Zo q4 q5)
    have hyl2 : ys.length = 7 := by rw [hyl];exact hsz
    obtain ⟨k0, rfl, b0⟩ := wf_u8 w0;have b6 := wf_i64 w6;have hcs : cs = [cv k0, .string s] ++ (cs.drop 2).take 5 ++ [v3, v4, .slice a l.length c, vi z6] := by
      have p0 := jc e0;have p1 := jc e1;have p3 := jc e3;have p4 := jc e4;have p5 := jc e5;have p6 := jc e6;obtain ⟨a0, a1, a2, a3, a4, a5, a6, a7, a8, a9, a10, rfl⟩ : ∃ a0 a1 a2 a3 a4 a5 a6 a7 a8 a9 a10, cs = [a0, a1, a2, a3, a4, a5, a6, a7, a8, a9, a10] := by
        match cs, hlen with
        | [a0, a1, a2, a3, a4, a5, a6, a7, a8, a9, a10], _ => exact ⟨a0, a1, a2, a3, a4, a5, a6, a7, a8, a9, a10, rfl⟩
      simp only [List.getElem?_cons_zero, List.getElem?_cons_succ, Option.some.injEq] at p0 p1 p3 p4 p5 p6;rw [p0, p1, p3, p4, p5, p6, hl];rfl
    have hs0 : s.size <= bulk (ys.getD 1 (.nil, [])).1 := by
      have e : (ys.getD 1 (.nil, [])).1 = .lit (.string s.data.toList) := congrArg Prod.fst d1;rw [e];have h5 := hb.str s.data.toList;have e2 : s.data.toList.length = s.size := by simp
      omega
    have hs1 : s.size <= 1048576 := by
      have h3 := hlt 1 Zo;have e : (ys.getD 1 (.nil, [])).1 = .lit (.string s.data.toList) := congrArg Prod.fst d1;rw [e] at h3;have h5 := hb.str s.data.toList;have e2 : s.data.toList.length = s.size := by simp
      omega
    rw [hcs];have hsz5 : Nd.ws l <= bulk (ys.getD 5 (.nil, [])).1 := by
      refine Nat.le_trans (Nd.ws_le (f := fun i => bulk (D i)) (o := 0) (fun i x hx => ?_)) ?_
      · rw [Nat.zero_add];exact (hq i x hx).2
      · rw [hl];exact hks
    refine ⟨.mk k0 s lit args temps l z6, .mk ⟨b0, Zo, Zo, b6⟩ hlit hargs htemps (fun hp => ha Zo) (fun i hi' => (hi i Zo).2.2.1) (fun i x hx => (hq i x hx).1) Zo, ?_⟩;have hag := hb.aggs (ys.map (·.1));have hsum : bulk (ys.getD 1 (.nil, [])).1 + bulk (ys.getD 2 (.nil, [])).1 + bulk (ys.getD 3 (.nil, [])).1 + bulk (ys.getD 4 (.nil, [])).1 + bulk (ys.getD 5 (.nil, [])).1 <= ((ys.map (·.1)).map bulk).sum := by
      match ys, hyl2 with
      | [y0, y1, y2, y3, y4, y5, y6], _ => simp only [List.map_cons, List.map_nil, List.sum_cons, List.sum_nil, List.getD_cons_zero, List.getD_cons_succ];omega
    show 1 + s.size + lit.size + args.length + temps.length + Nd.ws l <= bulk (.agg (ys.map (·.1)));omega
end
end Go.V
namespace Go.V
open Go
theorem j7 {R G : Prop} (r : R) (h : Later R -> G := by
  intro later
  (repeat (first
      | (first
    | (apply jS;rfl)
    | (apply st_shr;rfl;rfl;omega;omega;exact Zi;exact Zi;(first | assumption | ((try simp only [Nat.reducePow]);rfl));rfl)
    | (apply st_shl;rfl;rfl;omega;omega;exact Zi;exact Zi;(first | assumption | ((try simp only [Nat.reducePow]);rfl));rfl)
    | (apply st_and;rfl;rfl;exact Zl;exact Zl;exact Zi;exact Zi;(first | exact and1 _ | exact and7 _ | exact and15 _ | rfl))
    | (apply st_or;rfl;rfl;exact Zl;exact Zl;exact Zi;exact Zi;rfl)
    | (apply st_andN;rfl;rfl;exact Zl;exact Zl;exact Zi;exact Zi)
    | (apply st_subU;rfl;rfl;omega;omega;exact Zi;exact Zi)
    | (apply st_addB;rfl;rfl;omega;omega;omega;exact Zi;exact Zi)
    | (apply st_convN;rfl;(first | exact wrapI Zo | exact wrapU_lt Zo | exact wrapB_lt Zo))
    | (apply st_quoN;rfl;rfl;omega;omega;exact Zi;exact Zi)
    | (apply st_remN;rfl;rfl;omega;omega;exact Zi;exact Zi)
    | (apply wk;rfl;rfl)
    | (apply st_gu;rfl)
    | (apply ka;rfl)
    | (apply st_nil;rfl)
    | (apply wM;rfl;rfl)
    | (apply w7;rfl;rfl)
    | (apply kQ;rfl;exact Zz)
    | (apply kI;rfl;exact Zh)
    | (apply kI;rfl;exact Zm)
    | (apply jq;rfl;exact Zab)
    | (apply st_extL;rfl;rfl)
    | (apply st_ext;rfl;rfl)
    | (apply st_add;rfl;rfl;omega)
    | (apply st_sub;rfl;rfl;omega)
    | (apply st_mul;rfl;rfl;omega)
    | (apply st_rem;rfl;rfl;decide)
    | (apply jf;rfl;rfl;omega;exact Zz)
    | (apply st_idxA;rfl;rfl;omega;exact Zz)
    | (apply st_build;rfl;(focus (simp only [lnb, Value.cells, Nat.zero_add, Nat.reduceEqDiff, ↓reduceIte, eq_self, Nat.reduceAdd, Nat.reduceSub, Nat.sub_self, Nat.reduceLeDiff, Nat.le_refl, and_self, rep, kd] <;> rfl)))
    | (apply jD;rfl;rfl;(focus (simp only [lnb, Value.cells, Nat.zero_add, Nat.reduceEqDiff, ↓reduceIte, eq_self, Nat.reduceAdd, Nat.reduceSub, Nat.sub_self, Nat.reduceLeDiff, Nat.le_refl, and_self, rep, kd] <;> rfl));rfl;rfl;exact Zac)
    | (apply st_pure;rfl;rfl;rfl))
      | (refine VO.nil ?_;simp only [V.argsEnv, V.restr, V.look, V.putE, V.thenQ, V.blockQ, Nat.zero_add, Nat.reduceAdd, Nat.reduceEqDiff, ↓reduceIte, eq_self])
      | refine VC.seq_reg ?_
      | refine VC.seq_draw1 ?_
      | refine VC.seq_block ?_
      | refine VC.seq_skip ?_
      | refine VC.reg ?_
      | refine VC.draw1 ?_
      | refine VC.block ?_
      | (refine VC.skip ?_;try simp only [V.argsEnv, V.restr, V.look, V.putE, V.thenQ, V.blockQ, Nat.zero_add, Nat.reduceAdd, Nat.reduceEqDiff, ↓reduceIte, eq_self])
      | (refine VC.exit ?_;try simp only [V.argsEnv, V.restr, V.look, V.putE, V.thenQ, V.blockQ, Nat.zero_add, Nat.reduceAdd, Nat.reduceEqDiff, ↓reduceIte, eq_self])
      | (refine VC.ret ?_;try simp only [V.thenQ, V.blockQ])
      | (apply VC.seq_cond_t;rfl)
      | (apply VC.seq_cond_f;rfl)
      | (apply VC.cond_t;rfl)
      | (apply VC.cond_f;rfl)))
  exact later.out) : G := h ⟨r⟩
end Go.V
namespace Go.V
open Go
structure Hd where
  cls : Nat
  fmt : Nat
  spare : Nat
  hash : Nat
  age : Nat
  slots : Nat
  marked : Bool
  noted : Bool
def b2n (b : Bool) : Nat := if b then 1 else 0
structure Hd.May (h : Hd) : Prop where
  cls : h.cls <= 4095
  hash : h.hash <= 4194303
  age : h.age <= 15
  slots : h.slots <= 65536
  spare : h.spare <= 7
  fmt : 1 <= h.fmt /\ h.fmt <= 6
  plain : h.fmt <= 4 -> h.spare = 0
  eph : h.fmt = 3 -> 0 < h.slots
  meth : h.fmt = 6 -> 0 < h.slots
  some : h.spare ≠ 0 -> (if h.fmt = 6 then 1 else 0) < h.slots
def pk (h : Hd) : Nat := h.cls + h.fmt * 4096 + h.spare * 32768 + h.hash * 262144 + h.age * 1099511627776 + b2n h.marked * 17592186044416 + b2n h.noted * 35184372088832
structure Ob where
  at_ : Nat
  hd : Hd
  body : List Nat
def Ob.stop (b : Ob) : Nat := b.at_ + 2 + b.hd.slots
structure Ob.Ok (b : Ob) : Prop where
  may : b.hd.May
  len : b.body.length = b.hd.slots
  small : ∀ x ∈ b.body, x < 18446744073709551616
  meth : b.hd.fmt = 6 -> ∃ n r, b.body = (8 * n + 1) :: r /\ n <= r.length
structure Lay (ws st : List Nat) (obs : List Ob) : Prop where
  small : ∀ x ∈ ws, x < 18446744073709551616
  sts : ∀ x ∈ st, x < 18446744073709551616
  stl : st.length = ws.length / 64 + 1
  len : ws.length < 4194304
  ok : ∀ b ∈ obs, b.Ok
  low : ∀ b ∈ obs, 2 <= b.at_
  high : ∀ b ∈ obs, b.stop <= ws.length
  head : ∀ b ∈ obs, ws[b.at_]? = some (pk b.hd) /\ ws[b.at_ + 1]? = some b.hd.slots
  body : ∀ b ∈ obs, ∀ i < b.hd.slots, ws[b.at_ + 2 + i]? = b.body[i]?
  sort : obs.Pairwise fun a b => a.stop <= b.at_
  bits : ∀ w, w < ws.length -> (bitAt st w = true ↔ ∃ b ∈ obs, b.at_ = w)
end Go.V
namespace Go.V
open Go
def kU : KEnc Nat := ⟨.int, uv, fun a b => by
  show some (decide (((a : Nat) : Int) = ((b : Nat) : Int))) = some (decide (a = b))
  congr 1;rw [decide_eq_decide];omega⟩
structure AH where
  rm : List (Nat × Nat × Nat)
  obs : List Ob
  sp : List Nat
  cl : List Nat
  stack : List Nat
  queue : List Nat
  noted : List Nat
  ahead : List (Nat × Nat)
  given : Nat
structure HW where
  a : AH
  ws : List Nat
  st : List Nat
  wb : Nat
  sb : Nat
  kv : Value
  qv : Value
  nv : Value
  ks : List Value
  qs : List Value
  ns : List Value
  mb : Nat
  es : Array MapEntry
  mc : Nat
def rmEnc (r : Nat × Nat × Nat) : List Value := [vi r.1, vi r.2.1, vi r.2.2]
def arrV (b : Nat) (l : List Nat) : Value := .slice (some ⟨b, 0, none⟩) l.length l.length
def HMem (p : Nat) (x : HW) : SH :=
  [kA p 0 [arrV x.wb x.ws, arrV x.sb x.st], kA p 4180 [x.kv, x.qv, x.nv, .map (some x.mb), vi x.a.given], kA p 2 (x.a.rm.flatMap rmEnc), kA p 20 (x.a.sp.map uv), kA p 84 (x.a.cl.map uv),
   kA x.wb 0 (x.ws.map uv), kA x.sb 0 (x.st.map uv), slA x.kv (x.a.stack.map uv) x.ks, slA x.qv (x.a.queue.map uv) x.qs, slA x.nv (x.a.noted.map uv) x.ns, [.obj x.mb (.map x.es x.mc)]]
def HMw (p : Nat) (x : HW) (B : List kE) : SH :=
  [kA p 0 [.slice (some ⟨x.wb, 0, none⟩) x.ws.length x.ws.length, .slice (some ⟨x.sb, 0, none⟩) x.st.length x.st.length], kA p 4180 [x.kv, x.qv, x.nv, .map (some x.mb), vi x.a.given], kA p 2 (x.a.rm.flatMap rmEnc), kA p 20 (x.a.sp.map uv), kA p 84 (x.a.cl.map uv),
   B, kA x.sb 0 (x.st.map uv), slA x.kv (x.a.stack.map uv) x.ks, slA x.qv (x.a.queue.map uv) x.qs, slA x.nv (x.a.noted.map uv) x.ns, [.obj x.mb (.map x.es x.mc)]]
theorem hmw (p : Nat) (x : HW) : HMem p x = HMw p x (kA x.wb 0 (x.ws.map uv)) := rfl
def HA (p : Nat) (x : HW) : List kE := (HMem p x).flatten
structure RmOk (a : AH) (n : Nat) : Prop where
  len : a.rm.length = 6
  zero : a.rm[0]? = some (0, 0, 0)
  rng : ∀ (i : Nat) (r : Nat × Nat × Nat), a.rm[i]? = some r -> r.1 <= r.2.2 /\ r.2.2 <= r.2.1 /\ r.2.1 <= n
  low : ∀ (i : Nat) (r : Nat × Nat × Nat), 1 <= i -> a.rm[i]? = some r -> 2 <= r.1
  apart : ∀ (i j : Nat) (r s : Nat × Nat × Nat), i < j -> a.rm[i]? = some r -> a.rm[j]? = some s -> 1 <= i -> r.2.1 <= s.1 ∨ s.2.1 <= r.1
  inn : ∀ b ∈ a.obs, ∃ (i : Nat) (r : Nat × Nat × Nat), 1 <= i /\ a.rm[i]? = some r /\ r.1 <= b.at_ /\ b.stop <= (if i = 5 then r.2.1 else r.2.2)
structure HOk (x : HW) : Prop where
  lay : Lay x.ws x.st x.a.obs
  rm : RmOk x.a x.ws.length
  spl : x.a.sp.length = 64
  cll : x.a.cl.length = 4096
  sps : ∀ o ∈ x.a.sp, o < 18446744073709551616
  cls : ∀ o ∈ x.a.cl, o < 18446744073709551616
  stks : ∀ o ∈ x.a.stack, o < 18446744073709551616
  ques : ∀ o ∈ x.a.queue, o < 18446744073709551616
  nots : ∀ o ∈ x.a.noted, o < 18446744073709551616
  stk : ku 1 x.kv x.a.stack.length (x.a.stack.map uv) x.ks
  que : ku 1 x.qv x.a.queue.length (x.a.queue.map uv) x.qs
  note : ku 1 x.nv x.a.noted.length (x.a.noted.map uv) x.ns
  map : MapIs kU uv x.es x.mc x.a.ahead
  given : x.a.given <= 4194303
  deep : x.a.stack.length <= 4096
  few : x.a.queue.length <= 1073741823 /\ x.a.noted.length <= 1073741823
section
variable {P : Program} {n : Nat} {rs : List RO} {Γ : Env} {H : SH} {Z : List PanicEntry -> Env -> SH -> Prop} {K : Env -> SH -> Prop}
end
end Go.V
namespace Go.V
open Go
structure Keep (f : Ob -> Ob) : Prop where
  at_ : ∀ b, (f b).at_ = b.at_
  slots : ∀ b, (f b).hd.slots = b.hd.slots
section
variable {ws st : List Nat} {obs : List Ob}
end
end Go.V
namespace Go.V
open Go
section
variable {P : Program} {n : Nat} {rs : List RO} {Γ : Env} {H : SH} {Z : List PanicEntry -> Env -> SH -> Prop} {K : Env -> SH -> Prop} {d : Option Nat}
end
section
variable {P : Program} {n : Nat} {rs : List RO} {Γ : Env} {H : SH} {Z : List PanicEntry -> Env -> SH -> Prop} {K : Env -> SH -> Prop} {d : Option Nat}
theorem w9 {size len cap l b o : Nat} {x lo : Operand} {kl : IntKind} {cl : Int} (hx : ev Γ x = some (.slice (some ⟨b, o, none⟩) len cap)) (hlo : ev Γ lo = some (.int kl cl)) (el : cl = (l : Int)) (hr : l <= len /\ len <= cap)
    (k : VO P n rs (putE d (.slice (some ⟨b, if cap = l then o else o + l * size, none⟩) (len - l) (cap - l)) Γ) H Z K) :
    VO P n (⟨d, none, .slcL size x (some lo) none none⟩ :: rs) Γ H Z K := by
  subst el;refine VO.pure rfl (fun ρ hρ => ?_) k;have h1 : bound (Value.int kl (l : Int)) len = some l := by simp [bound];omega
  simp [kZ, hρ _ _ hx, hρ _ _ hlo, bounds, h1, zW]
end
end Go.V
namespace Go.V
open Go
def IterA (P : Program) (g : Value) {α : Type} (enc : α -> List Value) (Acc : List kE -> Prop) (Pre Post : SH) (Spec : List α -> Prop) : Prop :=
  ∀ (y : Value) (J SP : List α -> List kE -> Prop), y.cells = #[y] -> (∀ c A, J c A -> Acc A) ->
    (∀ c x A, OkC Spec (c ++ [x]) -> J c A -> zD P y (enc x) [A] (fun v B => (v = .bool true /\ ∃ A', J (c ++ [x]) A' /\ B = [A']) ∨ (v = .bool false /\ ∃ B', SP (c ++ [x]) B' /\ B = [B']))) ->
    ∀ A, J [] A -> zD P g [y] (Pre ++ [A]) (fun v B => v = .tuple #[] /\ ((∃ full A', Spec full /\ J full A' /\ B = Post ++ [A']) ∨ (∃ c B', OkC Spec c /\ SP c B' /\ B = Post ++ [B'])))
section
variable {P : Program} {n : Nat} {Γ : Env} {H : SH} {Q : Exit -> Env -> SH -> Prop}
theorem VC.rangefA {α : Type} {enc : α -> List Value} {g : Operand} {f : Nat} {first cap : Array Value} {ps : List Nat} {asg body : IC} {Pre Post R : SH} {Spec : List α -> Prop} {Acc : List kE -> Prop} (I : List α -> List kE -> Prop) (A0 : List kE) (hg : ev Γ g = some (.func (.func f) first cap))
    (hit : IterA P (.func (.func f) first cap) enc Acc Pre Post Spec) (hmo : ∀ A B, Acc A -> Acc (A ++ B)) (hacc : ∀ c A, I c A -> Acc A) (hs : Spl H Pre R) (h0 : Imp R [A0]) (h1 : I [] A0) (hlen : ∀ x, (enc x).length = ps.length)
    (round : ∀ c x A, OkC Spec (c ++ [x]) -> I c A -> VC P n asg (bindE ps (enc x) Γ) [A] (fun e Γ' H' => e = .normal /\ VC P n body Γ' H' (fun e _ H'' => match e with | .normal => ∃ A', I (c ++ [x]) A' /\ Imp H'' [A'] | .ret => Q .ret Γ (Post ++ H'') | .exit id => Q (.exit id) Γ (Post ++ H'') | _ => False)))
    (done : ∀ full A, Spec full -> I full A -> Q .normal Γ (Post ++ [A])) : VC P n (.rangef g ps asg body) Γ H Q := by
  intro ρ kp od code hl a w F QQ hr ha hsat hh;obtain ⟨qs, A, B, rfl, rfl, hlt, h1', h2⟩ := jT hl;refine wpIn_rangeFunc (fun fnid _ => ?_);obtain ⟨l, db, X, w1, he, hs1, hk1⟩ := enter_spec (P := P) (fnid := fnid) (tmps := a.tmps) (qs := qs) (A := A) (B := B) hr hsat;have hyield := hit (.func (.yield l) #[] #[]) (fun c A' => ∃ A1, I c A1 /\ A' = A1 ++ [.obj l (.loop (wH fnid a.tmps qs A B db .ready none))])
    (fun c B' => ∃ H'', (Q .ret Γ (Post ++ H'') /\ B' = H''.flatten ++ [.obj l (.loop (wH fnid a.tmps qs A B db .done (some .ret)))]) ∨ (∃ id, Q (.exit id) Γ (Post ++ H'') /\ B' = H''.flatten ++ [.obj l (.loop (wH fnid a.tmps qs A B db .done (some (.exit id))))]))
    rfl
    (fun c A' hA => by obtain ⟨A1, hI, rfl⟩ := hA;exact hmo _ _ (hacc c A1 hI))
    (fun c x A' hc hA => by
      obtain ⟨A1, hI, rfl⟩ := hA;have hx := round_spec (P := P) (n := n) (Γ := Γ) (fn := fnid) (tmps := a.tmps) (db := db) (l := l) (vs := enc x) (I := A1) (Qb := fun e H'' => match e with | .normal => ∃ A', I (c ++ [x]) A' /\ Imp H'' [A'] | .ret => Q .ret Γ (Post ++ H'') | .exit id => Q (.exit id) Γ (Post ++ H'') | _ => False)
        hlt (hlen x).symm ⟨ha.size, ha.slots⟩ h1' h2 ((round c x A1 hc hI).mono (fun e Γ' H' ⟨q1, q2⟩ => ⟨q1, q2.mono (fun e _ H'' q => by cases e <;> exact q)⟩))
      refine hx.conv (R := []) (by simp [Spl]) ?_
      rintro v Bk (⟨rfl, H'', ⟨A2, hI2, q⟩, rfl⟩ | ⟨rfl, H'', q⟩)
      · refine ⟨_, .inl ⟨rfl, _, ⟨A2, hI2, rfl⟩, rfl⟩, ?_⟩;obtain ⟨R', hR'⟩ := q;refine ⟨R', ?_⟩;simp only [Spl, List.flatten_cons, List.flatten_nil, List.append_nil] at hR' |-;rw [List.append_assoc];refine (List.Perm.append_right _ hR').trans ?_;rw [List.append_assoc];exact List.Perm.append_left _ List.perm_append_comm
      · rcases q with ⟨q, rfl⟩ | ⟨id, q, rfl⟩
        · exact ⟨_, .inr ⟨rfl, _, ⟨H'', .inl ⟨q, rfl⟩⟩, rfl⟩, by rw [List.append_nil];exact Imp.refl _⟩
        · exact ⟨_, .inr ⟨rfl, _, ⟨H'', .inr ⟨id, q, rfl⟩⟩, rfl⟩, by rw [List.append_nil];exact Imp.refl _⟩)
    _ ⟨A0, h1, rfl⟩
  have hs2 : Sat w1 ((Pre ++ [A0 ++ [kE.obj l (.loop (wH fnid a.tmps qs A B db .ready none))]]).flatten ++ (F ++ marks X)) := by
    have p1 : (kE.obj l (.loop (wH fnid a.tmps qs A B db .ready none)) :: (H.flatten ++ (F ++ marks X))).Perm (R.flatten ++ (Pre.flatten ++ (kE.obj l (.loop (wH fnid a.tmps qs A B db .ready none)) :: (F ++ marks X)))) := by
      refine List.perm_middle.symm.trans ?_;refine (List.Perm.append_right _ hs).trans ?_;rw [List.append_assoc];exact jP _ _ _
    have h3 := (hs1.perm p1).imp h0;refine h3.perm ?_;simp only [List.flatten_append, List.flatten_cons, List.flatten_nil, List.append_nil, List.append_assoc, List.singleton_append];exact jP _ _ _
  have hcall := hyield (F ++ marks X) w1 hs2;obtain ⟨hcallable, hcalls⟩ := hcall;refine ⟨l, X.map coll, w1, { target := .fn (.func f) cap, args := first ++ [Value.func (.yield l) #[] #[]].toArray }, w1, f, first ++ [Value.func (.yield l) #[] #[]].toArray ++ cap, w1, he, ?_, fun _ _ => trivial, ?_, ?_, ?_⟩
  · have hev : a.eval g = .func (.func f) first cap := ha.ev hg
    simp only [resolve, hev, Deferred.ofValue];simp [Act.eval]
  · simp only [invoke];rw [wX hcallable]
  · intro h;simp at h
  refine callsIn_v (hcalls.mono ?_)
  · rintro e w3 ⟨v, Pst, rfl, ⟨rfl, hp⟩, hs3, hk3⟩
    have ha' : jW n Γ { a with defers := X.map coll ++ a.defers } := ⟨ha.size, ha.slots⟩;rcases hp with ⟨full, _, hf, ⟨A1, hI, rfl⟩, rfl⟩ | ⟨c, B', _, ⟨H'', hj⟩, rfl⟩
    · obtain ⟨w4, e1, e2, e3'⟩ := end_spec (P := P) (L := Post.flatten ++ A1) (st := .ready) (pe := none) Zs (by simpa [List.append_assoc] using hs3);have e3 := hk1.trans (hk3.trans e3');exact ⟨none, w4, e1, hh _ _ _ _ _ X (done full A1 hf hI) ha' rfl (by simpa using e2) e3⟩
    · rcases hj with ⟨q, rfl⟩ | ⟨id, q, rfl⟩
      · obtain ⟨w4, e1, e2, e3'⟩ := end_spec (P := P) (L := Post.flatten ++ H''.flatten) (st := .done) (pe := some .ret) Zs (by simpa [List.append_assoc] using hs3);have e3 := hk1.trans (hk3.trans e3');exact ⟨_, w4, e1, wpIn_ret (hh _ _ _ _ _ X q ha' rfl (by simpa using e2) e3)⟩
      · obtain ⟨w4, e1, e2, e3'⟩ := end_spec (P := P) (L := Post.flatten ++ H''.flatten) (st := .done) (pe := some (.exit id)) Zs (by simpa [List.append_assoc] using hs3);have e3 := hk1.trans (hk3.trans e3');exact ⟨_, w4, e1, wpIn_exit (hh _ _ _ _ _ X q ha' rfl (by simpa using e2) e3)⟩
end
end Go.V
namespace Go.V
open Go
abbrev NV := Nd × List Value
def SpecN (A : List kE) (x : Nd) (f : List NV) : Prop := f.map Prod.fst = allN x /\ ∀ p ∈ f, kf A p.1 p.2
def zY (A : List kE) (l : List Nd) (f : List NV) : Prop := f.map Prod.fst = jo l /\ ∀ p ∈ f, kf A p.1 p.2
theorem allsN_append : ∀ l r : List Nd, jo (l ++ r) = jo l ++ jo r := by
  intro l
  induction l with
  | nil => intro r;rfl
  | cons x l ih => intro r;simp only [List.cons_append, jo, ih, List.append_assoc]
theorem allN_eq (x : Nd) : allN x = x :: jo x.kids := by cases x;rfl
theorem allsN_mem {x y : Nd} : ∀ {l : List Nd}, y ∈ l -> x ∈ allN y -> x ∈ jo l := by
  intro l
  induction l with
  | nil => intro h;cases h
  | cons z r ih =>
    intro h hx;simp only [jo, List.mem_append];rcases List.mem_cons.1 h with rfl | h
    · exact .inl hx
    · exact .inr (ih h hx)
theorem mem_allsN {x : Nd} : ∀ {l : List Nd}, x ∈ jo l -> ∃ y ∈ l, x ∈ allN y := by
  intro l
  induction l with
  | nil => intro h;cases h
  | cons z r ih =>
    intro h;simp only [jo, List.mem_append] at h;rcases h with h | h
    · exact ⟨z, Zs, h⟩
    · obtain ⟨y, hy, h⟩ := ih h;exact ⟨y, by simp [hy], h⟩
theorem nd_kid {A : List kE} {x y : Nd} {vs : List Value} (h : kf A x vs) (hy : y ∈ x.kids) : ∃ us, kf A y us := by
  cases h with
  | mk wf hl hav htv ha hm hr hcp =>
    simp only [Nd.kids] at hy;obtain ⟨i, hi⟩ := List.getElem?_of_mem hy;exact ⟨_, hr i y hi⟩
theorem rd_all {A : List kE} : ∀ (N : Nat) (x : Nd), x.w <= N -> ∀ vs, kf A x vs -> ∀ y ∈ allN x, ∃ us, kf A y us := by
  intro N
  induction N with
  | zero => intro x hx;have := x.w_pos;omega
  | succ N ih =>
    intro x hx vs h y hy;rw [allN_eq] at hy;rcases List.mem_cons.1 hy with rfl | hy
    · exact ⟨vs, h⟩
    · obtain ⟨z, hz, hy⟩ := mem_allsN hy;obtain ⟨us, hu⟩ := nd_kid h hz;have : z.w < x.w := by
        cases x;have := Nd.ws_mem hz;simp only [Nd.kids] at this;simp only [Nd.w];omega
      exact ih z Zo us hu y hy
theorem spec_ex {A : List kE} : ∀ (l : List Nd), (∀ y ∈ l, ∃ us, kf A y us) -> ∃ f : List NV, f.map Prod.fst = l /\ ∀ p ∈ f, kf A p.1 p.2 := by
  intro l
  induction l with
  | nil => intro _;exact ⟨[], rfl, fun p hp => by cases hp⟩
  | cons y l ih =>
    intro h;obtain ⟨us, hu⟩ := h y Zs;obtain ⟨f, h1, h2⟩ := ih fun z hz => h z (by simp [hz])
    refine ⟨(y, us) :: f, by simp [h1], fun p hp => ?_⟩;rcases List.mem_cons.1 hp with rfl | hp
    · exact hu
    · exact h2 p hp
theorem SpecN.cons {A : List kE} {x : Nd} {vs : List Value} (h : kf A x vs) {f : List NV} (hf : zY A x.kids f) : SpecN A x ((x, vs) :: f) := by
  refine ⟨by rw [allN_eq, List.map_cons, hf.1], fun p hp => ?_⟩;rcases List.mem_cons.1 hp with rfl | hp
  · exact h
  · exact hf.2 p hp
theorem zY.append {A : List kE} {l r : List Nd} {f g : List NV} (hf : zY A l f) (hg : zY A r g) : zY A (l ++ r) (f ++ g) := by
  refine ⟨by rw [List.map_append, allsN_append, hf.1, hg.1], fun p hp => ?_⟩;rcases List.mem_append.1 hp with hp | hp
  · exact hf.2 p hp
  · exact hg.2 p hp
theorem zY.one {A : List kE} {x : Nd} {f : List NV} (hf : SpecN A x f) : zY A [x] f := ⟨by simp [jo, hf.1], hf.2⟩
theorem zY.nil {A : List kE} : zY A [] [] := ⟨rfl, fun p hp => by cases hp⟩
theorem specNs_ex {A : List kE} {x : Nd} {vs : List Value} (h : kf A x vs) {l : List Nd} (hl : ∀ y ∈ l, y ∈ x.kids) : ∃ g, zY A l g := by
  obtain ⟨f, h1, h2⟩ := spec_ex (A := A) (jo l) (fun y hy => by
    obtain ⟨z, hz, hy⟩ := mem_allsN hy;obtain ⟨us, hu⟩ := nd_kid h (hl z hz);exact rd_all _ z (Nat.le_refl _) us hu y hy)
  exact ⟨f, h1, h2⟩
theorem allN_len : ∀ (N : Nat) (x : Nd), x.w <= N -> (allN x).length <= x.w := by
  intro N
  induction N with
  | zero => intro x hx;have := x.w_pos;omega
  | succ N ih =>
    intro x hx;cases x with
    | mk k s lit args temps kids p =>
    have hk : ∀ l : List Nd, Nd.ws l <= N -> (jo l).length <= Nd.ws l := by
      intro l
      induction l with
      | nil => intro _;exact Nat.zero_le _
      | cons y r ih2 =>
        intro h;simp only [Nd.ws] at h |-;have := ih y Zo;have := ih2 Zo;simp only [jo, List.length_append];omega
    simp only [Nd.w] at hx |-;have := hk kids Zo;simp only [allN, List.length_cons];omega
def AccT (A : List kE) (B : List kE) : Prop := ∃ X, B.Perm (A ++ X)
theorem AccT.mem {A B : List kE} (h : AccT A B) : ∀ a ∈ A, a ∈ B := fun _ ha => let ⟨_, hp⟩ := h;hp.symm.subset (Zw _ ha)
theorem AccT.more {A B C : List kE} (h : AccT A B) : AccT A (B ++ C) := by
  obtain ⟨X, hX⟩ := h;exact ⟨X ++ C, by rw [<- List.append_assoc];exact hX.append_right C⟩
theorem nd_at {A : List kE} {x : Nd} {vs : List Value} (h : kf A x vs) : ∃ (e1 : Nat) (e2 : Int) (e3 : Nat) (e4 : ByteArray) (e5 : Option Addr) (e6 e7 : Nat) (e8 : Option Addr) (e9 e10 : Nat) (e11 : Option Addr) (e12 e13 : Nat) (a : Option Addr) (c bk o : Nat) (us : Nat -> List Value),
    vs = [cv x.kind, .string x.name, cv e1, vi e2, uv e3, .string e4, .slice e5 e6 e7, .slice e8 e9 e10, .slice e11 e12 e13, .slice a x.kids.length c, vi x.at_] /\ x.kids.length <= 140737488355328 /\ (0 < x.kids.length -> a = some ⟨bk, o, none⟩) /\
    (∀ i, i < x.kids.length -> ∀ y ∈ kA bk (o + i * 11) (us i), y ∈ A) /\ ∀ i y, x.kids[i]? = some y -> kf A y (us i) := by
  cases h with
  | mk wf hl hav htv ha hm hr hcp =>
    obtain ⟨_, _, rfl, _⟩ := hav;obtain ⟨_, _, rfl, _⟩ := htv;cases hl with
    | mk wf2 ha2 hm2 hr2 => exact ⟨_, _, _, _, _, _, _, _, _, _, _, _, _, _, _, _, _, _, rfl, wf.many, ha, hm, hr⟩
end Go.V
namespace Go.V
open Go
theorem litsEq_iff : ∀ l l' : List Lt, zk l l' = true ↔ l.length = l'.length /\ ∀ (j : Nat) x y, l[j]? = some x -> l'[j]? = some y -> wx x y = true := by
  intro l
  induction l with
  | nil =>
    intro l';cases l' with
    | nil => simp [zk]
    | cons y r => simp [zk]
  | cons x r ih =>
    intro l';cases l' with
    | nil => simp [zk]
    | cons y q =>
      simp only [zk, Bool.and_eq_true, ih q, List.length_cons];constructor
      · rintro ⟨h1, h2, h3⟩
        refine ⟨Zo, fun j => ?_⟩;cases j with
        | zero => intro x' y' e1 e2;cases e1;cases e2;exact h1
        | succ j => intro x' y' e1 e2;exact h3 j x' y' (by simpa using e1) (by simpa using e2)
      · rintro ⟨h1, h2⟩
        exact ⟨h2 0 x y rfl rfl, Zo, fun j x' y' e1 e2 => h2 (j + 1) x' y' (by simpa using e1) (by simpa using e2)⟩
theorem z7 : ∀ l l' : List Nd, zG l l' = true ↔ l.length = l'.length /\ ∀ (j : Nat) x y, l[j]? = some x -> l'[j]? = some y -> zH x y = true := by
  intro l
  induction l with
  | nil =>
    intro l';cases l' with
    | nil => simp [zG]
    | cons y r => simp [zG]
  | cons x r ih =>
    intro l';cases l' with
    | nil => simp [zG]
    | cons y q =>
      simp only [zG, Bool.and_eq_true, ih q, List.length_cons];constructor
      · rintro ⟨h1, h2, h3⟩
        refine ⟨Zo, fun j => ?_⟩;cases j with
        | zero => intro x' y' e1 e2;cases e1;cases e2;exact h1
        | succ j => intro x' y' e1 e2;exact h3 j x' y' (by simpa using e1) (by simpa using e2)
      · rintro ⟨h1, h2⟩
        exact ⟨h2 0 x y rfl rfl, Zo, fun j x' y' e1 e2 => h2 (j + 1) x' y' (by simpa using e1) (by simpa using e2)⟩
theorem litsEq_false {l l' : List Lt} {j : Nat} {x y : Lt} (h1 : l[j]? = some x) (h2 : l'[j]? = some y) (h : wx x y = false) : zk l l' = false :=
  Bool.eq_false_iff.2 fun e => by have := ((litsEq_iff l l').1 e).2 j x y h1 h2;rw [h] at this;cases this
theorem ndsEq_false {l l' : List Nd} {j : Nat} {x y : Nd} (h1 : l[j]? = some x) (h2 : l'[j]? = some y) (h : zH x y = false) : zG l l' = false :=
  Bool.eq_false_iff.2 fun e => by have := ((z7 l l').1 e).2 j x y h1 h2;rw [h] at this;cases this
theorem litsEq_len {l l' : List Lt} (h : l.length ≠ l'.length) : zk l l' = false := Bool.eq_false_iff.2 fun e => h ((litsEq_iff l l').1 e).1
theorem ndsEq_len {l l' : List Nd} (h : l.length ≠ l'.length) : zG l l' = false := Bool.eq_false_iff.2 fun e => h ((z7 l l').1 e).1
theorem texts_eq {l l' : List ByteArray} (h1 : l.length = l'.length) (h2 : ∀ (j : Nat) x y, l[j]? = some x -> l'[j]? = some y -> x = y) : l = l' := by
  apply List.ext_getElem? ;intro j;by_cases hj : j < l.length
  · rw [Zg hj, Zg (h1 ▸ hj)];rw [h2 j l[j] (l'[j]'(h1 ▸ hj)) (Zg hj) (Zg (h1 ▸ hj))]
  · rw [List.getElem?_eq_none Zo, List.getElem?_eq_none Zo]
end Go.V
namespace Go.V
open Go
def hasS (r : List ByteArray) (s : ByteArray) : Bool := r.any fun t => decide (t = s)
def cntS (r : List ByteArray) (s : ByteArray) : Nat := (r.filter fun t => decide (t = s)).length
theorem hasS_iff {r : List ByteArray} {s : ByteArray} : hasS r s = true ↔ s ∈ r := by simp [hasS]
theorem cntS_zero {r : List ByteArray} {s : ByteArray} : cntS r s = 0 ↔ s ∉ r := by
  simp only [cntS, List.length_eq_zero_iff, List.filter_eq_nil_iff, decide_eq_true_eq];exact ⟨fun h hm => h s hm rfl, fun h t ht e => h (e ▸ ht)⟩
theorem cntS_snoc {r : List ByteArray} {s t : ByteArray} : cntS (r ++ [t]) s = cntS r s + if t = s then 1 else 0 := by
  simp only [cntS, List.filter_append, List.length_append, List.filter_cons, List.filter_nil];by_cases h : t = s <;> simp [h]
theorem cntS_le (r : List ByteArray) (s : ByteArray) : cntS r s <= r.length := List.length_filter_le ..
def kY (l : List ByteArray) : List ByteArray := l.foldl (fun r s => if hasS r s then r else r ++ [s]) []
def sendsN (x : Nd) : Bool := decide (x.kind = 4) || decide (x.kind = 6)
def jg (l : List Nd) : List ByteArray := (l.filter sendsN).map Nd.name
theorem zd (l : List ByteArray) (s : ByteArray) : kY (l ++ [s]) = if hasS (kY l) s then kY l else kY l ++ [s] := by
  unfold kY;rw [List.foldl_append];rfl
theorem snoc_ind {α : Type} {p : List α -> Prop} (h0 : p []) (h1 : ∀ l x, p l -> p (l ++ [x])) : ∀ l, p l := by
  intro l;have : ∀ n (l : List α), l.length = n -> p l := by
    intro n
    induction n with
    | zero => intro l h;rw [List.length_eq_zero_iff.1 h];exact h0
    | succ n ih =>
      intro l h;have hne : l ≠ [] := fun e => by rw [e] at h;cases h
      rw [<- List.dropLast_concat_getLast hne];exact h1 _ _ (ih _ (by rw [List.length_dropLast];omega))
  exact this _ l rfl
theorem mem_firsts {s : ByteArray} : ∀ l, s ∈ kY l ↔ s ∈ l := by
  refine snoc_ind (by simp [kY]) (fun l x ih => ?_);rw [zd];split
  · rename_i h;have h := hasS_iff.1 h;rw [ih, List.mem_append, List.mem_singleton];refine ⟨.inl, fun h2 => h2.elim id fun e => ?_⟩;subst e;exact ih.1 h
  · simp [ih]
theorem firsts_le : ∀ l, (kY l).length <= l.length := by
  refine snoc_ind (by simp [kY]) (fun l x ih => ?_);rw [zd];split
  · simp;omega
  · simp;omega
theorem firsts_cnt (l : List ByteArray) (s : ByteArray) : hasS (kY l) s = decide (cntS l s ≠ 0) := by
  rw [Bool.eq_iff_iff, hasS_iff, mem_firsts, decide_eq_true_eq];have := @cntS_zero l s;exact ⟨fun h e => this.1 e h, fun h => Classical.byContradiction fun hn => h (this.2 hn)⟩
theorem wn (l r : List Nd) : jg (l ++ r) = jg l ++ jg r := by simp [jg]
theorem sendsOf_le (l : List Nd) : (jg l).length <= l.length := by simp only [jg, List.length_map];exact List.length_filter_le ..
theorem sendsOf_one (x : Nd) : jg [x] = if sendsN x then [x.name] else [] := by
  simp only [jg, List.filter_cons, List.filter_nil];split <;> rfl
theorem look_get {m : List (ByteArray × Int)} {s : ByteArray} : lookV false (.int .i64 0) ((mget s m).map vi) = vi ((mget s m).getD 0) := by
  cases mget s m <;> rfl
end Go.V
namespace Go.V
open Go
theorem bare_kind (x : Nd) : x.bare.kind = x.kind := by cases x;rfl
theorem bare_name (x : Nd) : x.bare.name = x.name := by cases x;rfl
theorem bares_eq : ∀ l : List Nd, Nd.bares l = l.map Nd.bare := by
  intro l
  induction l with
  | nil => rfl
  | cons x r ih => simp only [Nd.bares, ih, List.map_cons]
theorem valueR_bare (x : Nd) (p : Nat) (r : Rs) : j5 x.bare p r = j5 x p r := by
  cases x;rfl
theorem firstR_bare (x : Nd) (s : ByteArray) (r : Rs) : we x.bare s r = we x s r := by
  cases x;rfl
theorem z4 (p : Nat) : ∀ (l : List Nd) (rs : List Rs), valuesR p (l.map Nd.bare) rs = valuesR p l rs := by
  intro l
  induction l with
  | nil => intro rs;rfl
  | cons x r ih =>
    intro rs;cases rs with
    | nil => rfl
    | cons q rs => simp only [List.map_cons, valuesR, ih, valueR_bare]
theorem msgsR_bare : ∀ (l : List Nd) (rs : List Rs), msgsR (l.map Nd.bare) rs = msgsR l rs := by
  intro l
  induction l with
  | nil => intro rs;rfl
  | cons x r ih =>
    intro rs;cases rs with
    | nil => rfl
    | cons q rs => simp only [List.map_cons, msgsR, ih, bare_kind]
theorem stmtsR_bare : ∀ (l : List Nd) (rs : List Rs), wL (l.map Nd.bare) rs = wL l rs := by
  intro l
  induction l with
  | nil => intro rs;rfl
  | cons x r ih =>
    intro rs;cases r with
    | nil =>
      cases rs with
      | nil => rfl
      | cons q rs => simp only [List.map_cons, List.map_nil, wL, bare_kind, valueR_bare]
    | cons y r =>
      cases rs with
      | nil => rfl
      | cons q rs =>
        have := ih rs;simp only [List.map_cons] at this |-;simp only [wL, valueR_bare, this]
theorem wz (s : ByteArray) (l : List Nd) (rs : List Rs) : argsR s (l.map Nd.bare) rs = argsR s l rs := by
  simp only [argsR, List.length_map, z4]
theorem nodeR_bare (k : Nat) (s : ByteArray) (lit : Lt) (args temps : List ByteArray) (kids : List Nd) (rs : List Rs) : jE k s lit args temps (kids.map Nd.bare) rs = jE k s lit args temps kids rs := by
  match kids, rs with
  | [], rs => rfl
  | [x], [] => simp only [jE, List.map_cons, List.map_nil, <- z4 1 [x], <- stmtsR_bare [x], <- wz s [x], List.length_cons, List.length_nil]
  | [x], [r] => simp only [jE, List.map_cons, List.map_nil, <- z4 1 [x], <- stmtsR_bare [x], <- wz s [x], <- wz s [], <- valueR_bare x, <- firstR_bare x, List.length_cons, List.length_nil]
  | [x], r :: q :: rs => simp only [jE, List.map_cons, List.map_nil, <- z4 1 [x], <- stmtsR_bare [x], <- wz s [x], <- wz s [], <- firstR_bare x, List.length_cons, List.length_nil]
  | x :: y :: l, [] =>
    have h1 := z4 1 (x :: y :: l) [];have h2 := stmtsR_bare (x :: y :: l) [];have h3 := wz s (x :: y :: l) [];simp only [List.map_cons] at h1 h2 h3 |-;simp only [jE, h1, h2, h3, List.length_cons, List.length_map]
  | x :: y :: l, r :: rs =>
    have h1 := z4 1 (x :: y :: l) (r :: rs);have h2 := stmtsR_bare (x :: y :: l) (r :: rs);have h3 := wz s (x :: y :: l) (r :: rs);have h4 := wz s (y :: l) rs;have h5 := msgsR_bare (y :: l) rs;simp only [List.map_cons] at h1 h2 h3 h4 h5 |-;simp only [jE, h1, h2, h3, h4, h5, firstR_bare, bare_name, List.length_cons, List.length_map]
theorem nodeD_bare : ∀ (N : Nat) (x : Nd), x.w <= N -> kO x.bare = kO x := by
  intro N
  induction N with
  | zero => intro x hx;have := x.w_pos;omega
  | succ N ih =>
    intro x hx;cases x with
    | mk k s lit args temps kids p =>
    simp only [Nd.w] at hx;have hk : nodesD (Nd.bares kids) = nodesD kids := by
      rw [jK, jK, bares_eq, List.map_map];exact List.map_congr_left fun y hy => ih y (by have := Nd.ws_mem hy;omega)
    rw [bares_eq] at hk;simp only [Nd.bare, kO, bares_eq, nodeR_bare, hk]
theorem w_bare : ∀ (N : Nat) (x : Nd), x.w <= N -> x.bare.w = x.w := by
  intro N
  induction N with
  | zero => intro x hx;have := x.w_pos;omega
  | succ N ih =>
    intro x hx;cases x with
    | mk k s lit args temps kids p =>
    simp only [Nd.w] at hx;have hk : ∀ l : List Nd, (∀ y ∈ l, y ∈ kids) -> Nd.ws (Nd.bares l) = Nd.ws l := by
      intro l
      induction l with
      | nil => intro _;rfl
      | cons y r ih2 =>
        intro h;simp only [Nd.bares, Nd.ws];rw [ih y (by have := Nd.ws_mem (h y Zs);omega), ih2 fun z hz => h z (by simp [hz])]
    simp only [Nd.bare, Nd.w, hk kids fun _ h => h]
theorem ws_bare (l : List Nd) : Nd.ws (l.map Nd.bare) = Nd.ws l := by
  induction l with
  | nil => rfl
  | cons x r ih => simp only [List.map_cons, Nd.ws, ih, w_bare _ x (Nat.le_refl _)]
theorem litEq_refl : ∀ (N : Nat) (x : Lt), x.size <= N -> wx x x = true := by
  intro N
  induction N with
  | zero => intro x hx;have := x.size_pos;omega
  | succ N ih =>
    intro x hx;cases x with
    | mk k n b t items =>
    simp only [Lt.size] at hx;have : zk items items = true := (litsEq_iff items items).2 ⟨rfl, fun j x y e1 e2 => by
      rw [e1] at e2;cases e2;exact ih x (by have := Lt.sizes_mem (Zv e1);omega)⟩
    simp [wx, this]
theorem ndEq_bare : ∀ (N : Nat) (x : Nd), x.w <= N -> zH x x.bare = true /\ zH x.bare x = true /\ zH x x = true := by
  intro N
  induction N with
  | zero => intro x hx;have := x.w_pos;omega
  | succ N ih =>
    intro x hx;cases x with
    | mk k s lit args temps kids p =>
    simp only [Nd.w] at hx;have hl := litEq_refl _ lit (Nat.le_refl _);have h1 : zG kids (kids.map Nd.bare) = true := (z7 _ _).2 ⟨Zs, fun j x y e1 e2 => by
      rw [List.getElem?_map, e1] at e2;cases e2;exact (ih x (by have := Nd.ws_mem (Zv e1);omega)).1⟩
    have h2 : zG (kids.map Nd.bare) kids = true := (z7 _ _).2 ⟨Zs, fun j x y e1 e2 => by
      rw [List.getElem?_map, e2] at e1;cases e1;exact (ih y (by have := Nd.ws_mem (Zv e2);omega)).2.1⟩
    have h3 : zG kids kids = true := (z7 _ _).2 ⟨rfl, fun j x y e1 e2 => by
      rw [e1] at e2;cases e2;exact (ih x (by have := Nd.ws_mem (Zv e1);omega)).2.2⟩
    simp only [Nd.bare, bares_eq, zH, h1, h2, h3, hl];simp
mutual
def ndSm : Nd -> Nd -> Bool
  | .mk k s l a t ks p, .mk k' s' l' a' t' ks' p' => decide (k = k') && decide (s = s') && decide (a = a') && decide (t = t') && wx l l' && decide (p = p') && ndsSm ks ks'
def ndsSm : List Nd -> List Nd -> Bool
  | [], [] => true
  | x :: r, y :: q => ndSm x y && ndsSm r q
  | _, _ => false
end
theorem ndsSm_iff : ∀ l l' : List Nd, ndsSm l l' = true ↔ l.length = l'.length /\ ∀ (j : Nat) x y, l[j]? = some x -> l'[j]? = some y -> ndSm x y = true := by
  intro l
  induction l with
  | nil =>
    intro l';cases l' with
    | nil => simp [ndsSm]
    | cons y r => simp [ndsSm]
  | cons x r ih =>
    intro l';cases l' with
    | nil => simp [ndsSm]
    | cons y q =>
      simp only [ndsSm, Bool.and_eq_true, ih q, List.length_cons];constructor
      · rintro ⟨h1, h2, h3⟩
        refine ⟨Zo, fun j => ?_⟩;cases j with
        | zero => intro x' y' e1 e2;cases e1;cases e2;exact h1
        | succ j => intro x' y' e1 e2;exact h3 j x' y' (by simpa using e1) (by simpa using e2)
      · rintro ⟨h1, h2⟩
        exact ⟨h2 0 x y rfl rfl, Zo, fun j x' y' e1 e2 => h2 (j + 1) x' y' (by simpa using e1) (by simpa using e2)⟩
theorem ndsSm_false {l l' : List Nd} {j : Nat} {x y : Nd} (h1 : l[j]? = some x) (h2 : l'[j]? = some y) (h : ndSm x y = false) : ndsSm l l' = false :=
  Bool.eq_false_iff.2 fun e => by have := ((ndsSm_iff l l').1 e).2 j x y h1 h2;rw [h] at this;cases this
theorem ndsSm_len {l l' : List Nd} (h : l.length ≠ l'.length) : ndsSm l l' = false := Bool.eq_false_iff.2 fun e => h ((ndsSm_iff l l').1 e).1
theorem ndSm_refl : ∀ (N : Nat) (x : Nd), x.w <= N -> ndSm x x = true := by
  intro N
  induction N with
  | zero => intro x hx;have := x.w_pos;omega
  | succ N ih =>
    intro x hx;cases x with
    | mk k s lit args temps kids p =>
    simp only [Nd.w] at hx;have hl := litEq_refl _ lit (Nat.le_refl _);have h3 : ndsSm kids kids = true := (ndsSm_iff _ _).2 ⟨rfl, fun j x y e1 e2 => by
      rw [e1] at e2;cases e2;exact ih x (by have := Nd.ws_mem (Zv e1);omega)⟩
    simp [ndSm, h3, hl]
end Go.V

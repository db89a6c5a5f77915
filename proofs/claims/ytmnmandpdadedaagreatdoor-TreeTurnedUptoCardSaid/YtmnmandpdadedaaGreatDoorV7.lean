/-
  Lists of keys with values, as lists.
-/
import Derived.Test.YtmnmandpdadedaaGreatDoorV6
set_option linter.unusedSimpArgs false
set_option linter.unusedVariables false
namespace Go.V
open Go
section
variable {κ β : Type} [DecidableEq κ]
theorem mget_mem {k : κ} {v : β} : ∀ {m : List (κ × β)}, mget k m = some v → (k, v) ∈ m := by
  intro m
  induction m with
  | nil => intro h; simp [mget] at h
  | cons p m ih =>
    obtain ⟨a, u⟩ := p
    intro h
    simp only [mget] at h
    split at h
    · rename_i e; cases h; subst e; simp
    · simp [ih h]
theorem mget_none {k : κ} : ∀ {m : List (κ × β)}, mget k m = none ↔ k ∉ m.map (·.1) := by
  intro m
  induction m with
  | nil => simp [mget]
  | cons p m ih =>
    obtain ⟨a, u⟩ := p
    simp only [mget, List.map_cons, List.mem_cons]
    split
    · rename_i e; simp [e]
    · rename_i e; rw [ih]; simp only [not_or]; exact ⟨fun h => ⟨fun x => e x.symm, h⟩, fun h => h.2⟩
theorem mem_mget {k : κ} {v : β} : ∀ {m : List (κ × β)}, (m.map (·.1)).Nodup → (k, v) ∈ m → mget k m = some v := by
  intro m
  induction m with
  | nil => intro _ h; cases h
  | cons p m ih =>
    obtain ⟨a, u⟩ := p
    intro hn h
    simp only [List.map_cons, List.nodup_cons] at hn
    simp only [mget]
    rcases List.mem_cons.1 h with h | h
    · cases h; simp
    · have : a ≠ k := fun e => hn.1 (by subst e; exact List.mem_map.2 ⟨_, h, rfl⟩)
      rw [if_neg this]; exact ih hn.2 h
theorem mget_mset {k j : κ} {v : β} : ∀ {m : List (κ × β)}, mget j (mset k v m) = if k = j then some v else mget j m := by
  intro m
  induction m with
  | nil => simp [mset, mget]
  | cons p m ih =>
    obtain ⟨a, u⟩ := p
    simp only [mset]
    split
    · rename_i e; subst e
      simp only [mget]
      split <;> rfl
    · rename_i e
      simp only [mget, ih]
      by_cases h1 : a = j
      · subst h1; simp [show ¬ k = a from fun x => e x.symm]
      · simp [h1]
theorem mset_keys {k : κ} {v : β} : ∀ {m : List (κ × β)}, (mset k v m).map (·.1) = if k ∈ m.map (·.1) then m.map (·.1) else m.map (·.1) ++ [k] := by
  intro m
  induction m with
  | nil => simp [mset]
  | cons p m ih =>
    obtain ⟨a, u⟩ := p
    simp only [mset]
    split
    · rename_i e; simp [e]
    · rename_i e
      have e' : ¬ k = a := fun x => e x.symm
      simp only [List.map_cons, ih, List.mem_cons, e', false_or]
      split <;> simp
theorem mset_nodup {k : κ} {v : β} {m : List (κ × β)} (h : (m.map (·.1)).Nodup) : ((mset k v m).map (·.1)).Nodup := by
  rw [mset_keys]
  split
  · exact h
  · rename_i hk
    rw [List.nodup_append]
    refine ⟨h, by simp, ?_⟩
    intro a ha b hb
    simp at hb
    rintro rfl
    exact hk (hb ▸ ha)
theorem mdel_sub {k : κ} : ∀ {m : List (κ × β)}, (mdel k m).Sublist m := by
  intro m
  induction m with
  | nil => exact .slnil
  | cons p m ih =>
    obtain ⟨a, u⟩ := p
    simp only [mdel]
    split
    · exact List.sublist_cons_self _ _
    · exact ih.cons_cons _
theorem mdel_nodup {k : κ} {m : List (κ × β)} (h : (m.map (·.1)).Nodup) : ((mdel k m).map (·.1)).Nodup := (mdel_sub.map _).nodup h
theorem mdel_filter {k : κ} : ∀ {m : List (κ × β)}, (m.map (·.1)).Nodup → mdel k m = m.filter fun p => decide (p.1 ≠ k) := by
  intro m
  induction m with
  | nil => intro _; rfl
  | cons p m ih =>
    obtain ⟨a, u⟩ := p
    intro h
    simp only [List.map_cons, List.nodup_cons] at h
    simp only [mdel]
    split
    · rename_i e; subst e
      rw [List.filter_cons_of_neg (by simp)]
      refine (List.filter_eq_self.2 ?_).symm
      intro q hq
      simp only [ne_eq, decide_not, Bool.not_eq_eq_eq_not, Bool.not_true, decide_eq_false_iff_not]
      exact fun e => h.1 (by rw [← e]; exact List.mem_map.2 ⟨q, hq, rfl⟩)
    · rename_i e
      rw [List.filter_cons_of_pos (by simpa using e), ih h.2]
theorem mget_filter {k : κ} {f : κ × β → Bool} : ∀ {m : List (κ × β)}, (m.map (·.1)).Nodup → mget k (m.filter f) = (mget k m).filter (fun v => f (k, v)) := by
  intro m
  induction m with
  | nil => intro _; rfl
  | cons p m ih =>
    obtain ⟨a, u⟩ := p
    intro h
    simp only [List.map_cons, List.nodup_cons] at h
    rw [List.filter_cons]
    by_cases e : a = k
    · subst e
      simp only [mget, if_true, Option.filter_some]
      split
      · simp [mget]
      · rw [ih h.2]
        have : mget a m = none := mget_none.2 h.1
        rw [this]; rfl
    · split
      · simp only [mget, if_neg e]; exact ih h.2
      · simp only [mget, if_neg e]; exact ih h.2
theorem mget_mdel {k j : κ} {m : List (κ × β)} (h : (m.map (·.1)).Nodup) : mget j (mdel k m) = if k = j then none else mget j m := by
  rw [mdel_filter h, mget_filter h]
  by_cases e : k = j
  · subst e; simp
  · simp only [ne_eq, show ¬ j = k from fun x => e x.symm, not_false_eq_true, decide_true, e, if_false]
    cases mget j m <;> rfl
theorem mget_perm {k : κ} {x : β} : ∀ {m : List (κ × β)}, mget k m = some x → m.Perm ((k, x) :: mdel k m) := by
  intro m
  induction m with
  | nil => intro h; simp [mget] at h
  | cons p m ih =>
    obtain ⟨a, u⟩ := p
    intro h
    simp only [mget] at h
    simp only [mdel]
    split at h
    · rename_i e; cases h; subst e; simp
    · rename_i e
      rw [if_neg e]
      exact ((ih h).cons _).trans (List.Perm.swap _ _ _)
theorem mset_perm {k : κ} {x : β} : ∀ {m : List (κ × β)}, (mset k x m).Perm ((k, x) :: mdel k m) := by
  intro m
  induction m with
  | nil => exact .refl _
  | cons p m ih =>
    obtain ⟨a, u⟩ := p
    simp only [mset, mdel]
    split
    · rename_i e; subst e; simp
    · exact (ih.cons _).trans (List.Perm.swap _ _ _)
theorem mset_mset {k : κ} {x y : β} : ∀ {m : List (κ × β)}, mset k y (mset k x m) = mset k y m := by
  intro m
  induction m with
  | nil => simp [mset]
  | cons p m ih =>
    obtain ⟨a, u⟩ := p
    simp only [mset]
    split
    · rename_i e; simp [mset, e]
    · rename_i e; simp [mset, e, ih]
theorem mdel_mset {k : κ} {x : β} : ∀ {m : List (κ × β)}, mdel k (mset k x m) = mdel k m := by
  intro m
  induction m with
  | nil => simp [mset, mdel]
  | cons p m ih =>
    obtain ⟨a, u⟩ := p
    simp only [mset]
    split
    · rename_i e; simp [mdel, e]
    · rename_i e; simp [mdel, e, ih]
theorem mset_mem {k : κ} {v : β} {q : κ × β} : ∀ {m : List (κ × β)}, q ∈ mset k v m → q = (k, v) ∨ q ∈ m := by
  intro m hq
  have := mset_perm.mem_iff.1 hq
  rcases List.mem_cons.1 this with h | h
  · exact .inl h
  · exact .inr (mdel_sub.subset h)
theorem MapIs.same {E : KEnc κ} {V : β → Value} {es : Array MapEntry} {c : Nat} {m : List (κ × β)} {k : κ} {x y : β} (h : MapIs E V es c m) (hx : mget k m = some x) (hv : V y = V x) : MapIs E V es c (mset k y m) := by
  refine ⟨?_, h.born, h.clock⟩
  have h1 := h.of
  unfold MapOf at h1 ⊢
  rw [h1]
  clear h1 h
  induction m with
  | nil => simp [mget] at hx
  | cons p m ih =>
    obtain ⟨a, u⟩ := p
    simp only [mget] at hx
    simp only [mset]
    split at hx
    · rename_i e; cases hx; subst e; simp [hv]
    · rename_i e; simp only [if_neg e, List.map_cons, ih hx]
theorem perm_flat {α γ : Type} {f : α → List γ} {l l' : List α} (h : l.Perm l') : (l.flatMap f).Perm (l'.flatMap f) := h.flatMap_right f
end
theorem Upd.set1 {b o i k : Nat} {vs : List Value} {u : Value} {L : SH} (hk : o + i = k) (h : i < vs.length) : Upd (cellsAt b o vs :: L) b k [u] (cellsAt b o (vs.set i u) :: L) := by
  subst hk
  refine .cells (by omega) (by simp; omega) ?_
  rw [Nat.add_sub_cancel_left, List.set_eq_take_append_cons_drop, if_pos h]
  simp
section
variable {κ β : Type} [DecidableEq κ] {E : KEnc κ} {V : β → Value}
theorem MapIs.entry {es : Array MapEntry} {c : Nat} {m : List (κ × β)} (h : MapIs E V es c m) {e : MapEntry} (he : e ∈ es.toList) : ∃ p ∈ m, e.key = E.enc p.1 ∧ e.val = V p.2 := by
  have h1 : (e.key, e.val) ∈ es.toList.map (fun e => (e.key, e.val)) := List.mem_map.2 ⟨e, he, rfl⟩
  rw [show es.toList.map (fun e => (e.key, e.val)) = _ from h.of] at h1
  obtain ⟨p, hp, e1⟩ := List.mem_map.1 h1
  simp only [Prod.mk.injEq] at e1
  exact ⟨p, hp, e1.1.symm, e1.2.symm⟩
theorem MapIs.has {es : Array MapEntry} {c : Nat} {m : List (κ × β)} (h : MapIs E V es c m) {p : κ × β} (hp : p ∈ m) : ∃ e ∈ es.toList, e.key = E.enc p.1 ∧ e.val = V p.2 := by
  have h1 : (E.enc p.1, V p.2) ∈ m.map (fun p => (E.enc p.1, V p.2)) := List.mem_map.2 ⟨p, hp, rfl⟩
  rw [← show es.toList.map (fun e => (e.key, e.val)) = _ from h.of] at h1
  obtain ⟨e, he, e1⟩ := List.mem_map.1 h1
  simp only [Prod.mk.injEq] at e1
  exact ⟨e, he, e1.1, e1.2⟩
theorem KEnc.inj {a b : κ} (h : E.enc a = E.enc b) : a = b := by
  have h1 := E.same a b
  have h2 := E.same b b
  rw [h] at h1
  rw [h1] at h2
  simpa using h2
theorem born_one {l : List MapEntry} (h : l.Pairwise fun a b => a.born < b.born) {e e' : MapEntry} (he : e ∈ l) (he' : e' ∈ l) (hb : e.born = e'.born) : e = e' := by
  induction l with
  | nil => cases he
  | cons a r ih =>
    have hp := List.pairwise_cons.1 h
    rcases List.mem_cons.1 he with h1 | h1
    · rcases List.mem_cons.1 he' with h2 | h2
      · rw [h1, h2]
      · have := hp.1 e' h2; rw [h1] at hb; omega
    · rcases List.mem_cons.1 he' with h2 | h2
      · have := hp.1 e h1; rw [h2] at hb; omega
      · exact ih hp.2 h1 h2
theorem filter_less {α : Type} {l : List α} {p q : α → Bool} (h : ∀ x ∈ l, q x = true → p x = true) {e : α} (he : e ∈ l) (h1 : p e = true) (h2 : q e = false) : (l.filter q).length < (l.filter p).length := by
  have : l.filter q = (l.filter p).filter q := by
    rw [List.filter_filter]
    refine List.filter_congr (fun x hx => ?_)
    cases hq : q x
    · simp
    · simp [h x hx hq]
  rw [this, List.length_filter_lt_length_iff_exists]
  exact ⟨e, List.mem_filter.2 ⟨he, h1⟩, by simp [h2]⟩
theorem perm_filter {α γ : Type} (f : α → List γ) (l : List α) (p : α → Bool) : (l.flatMap f).Perm ((l.filter p).flatMap f ++ (l.filter fun x => !p x).flatMap f) := by
  rw [← List.flatMap_append]
  exact perm_flat (List.filter_append_perm p l).symm
end
theorem Spl.tail2 {A B : List Atom} {I : SH} : Spl (A :: B :: I) I [A, B] := by
  simp only [Spl, List.flatten_cons, List.flatten_nil, List.append_nil]
  rw [← List.append_assoc]
  exact List.perm_append_comm
theorem Imp.tail2 {A B : List Atom} {I : SH} : Imp (I ++ [A, B]) (A :: B :: I) := by
  refine Imp.perm ?_
  simp only [List.flatten_cons, List.flatten_nil, List.append_nil, List.flatten_append]
  refine List.perm_append_comm.trans ?_
  rw [List.append_assoc]
theorem Imp.tail1 {A : List Atom} {I : SH} : Imp (A :: I) I := by
  refine ⟨[A], ?_⟩
  simp only [Spl, List.flatten_cons, List.flatten_nil, List.append_nil]
  exact List.perm_append_comm
theorem VC.seq_cond_t {P : Program} {n : Nat} {Γ : Env} {H : SH} {Q : Exit → Env → SH → Prop} {c : Operand} {x y z : IC} (hc : ev Γ c = some (.bool true)) (h : VC P n x Γ H (thenQ (fun Γ' H' => VC P n z Γ' H' Q) Q)) : VC P n (.seq (.cond c x y) z) Γ H Q := VC.seq (VC.cond_t hc h)
theorem VC.seq_cond_f {P : Program} {n : Nat} {Γ : Env} {H : SH} {Q : Exit → Env → SH → Prop} {c : Operand} {x y z : IC} (hc : ev Γ c = some (.bool false)) (h : VC P n y Γ H (thenQ (fun Γ' H' => VC P n z Γ' H' Q) Q)) : VC P n (.seq (.cond c x y) z) Γ H Q := VC.seq (VC.cond_f hc h)
theorem Imp.part {H R : SH} {A B C : List Atom} (ht : Tk H A R) (hp : A.Perm (B ++ C)) : Imp H [B] := by
  refine ⟨C :: R, ?_⟩
  simp only [Spl, List.flatten_cons, List.flatten_nil, List.append_nil]
  refine ht.perm.trans ?_
  rw [← List.append_assoc]
  exact hp.append_right _
abbrev vi (n : Int) : Value := .int .i64 n
abbrev ptr0 (b : Nat) : Value := .pointer (some ⟨b, 0, none⟩)
theorem Imp.cut {H M Δ : SH} (h : Imp H M) (k : Imp M Δ) : Imp H Δ := by
  obtain ⟨X, hX⟩ := h
  obtain ⟨Y, hY⟩ := k
  refine ⟨Y ++ X, ?_⟩
  simp only [Spl, List.flatten_append] at *
  refine hX.trans ?_
  rw [← List.append_assoc]
  exact hY.append_right _
theorem Imp.fresh {H : SH} {A : List Atom} (h : A = [] := by rfl) : Imp H (A :: H) := by subst h; exact Imp.perm (by simp)
theorem Imp.app4 {A B C D : List Atom} {R : SH} : Imp ((A ++ (B ++ (C ++ D))) :: R) (A :: B :: C :: D :: R) := Imp.perm (by simp)
theorem Spl.tail1 {A : List Atom} {I : SH} : Spl (A :: I) I [A] := by
  simp only [Spl, List.flatten_cons, List.flatten_nil, List.append_nil]
  exact List.perm_append_comm
theorem Spl.right {A I : SH} : Spl (I ++ A) I A := by simp [Spl]
theorem Spl.mid {A : List Atom} {C S : SH} : Spl (A :: (C ++ S)) C (A :: S) := by
  simp only [Spl, List.flatten_cons, List.flatten_append]
  exact perm_lead _ _ _
theorem Imp.mid {A : List Atom} {C S : SH} : Imp (C ++ (A :: S)) (A :: (C ++ S)) := by
  refine Imp.perm ?_
  simp only [List.flatten_cons, List.flatten_append]
  exact perm_lead _ _ _
theorem Fun.conv {P : Program} {f : Nat} {args : List Value} {H Pre R : SH} {Q Q' : Value → SH → Prop} (h : Fun P f args Pre Q) (hs : Spl H Pre R) (hq : ∀ v Post, Q v Post → ∃ Post', Q' v Post' ∧ Imp (Post ++ R) Post') : Fun P f args H Q' := by
  refine ⟨h.1, fun F w hw => ?_⟩
  have hw' : Sat w (Pre.flatten ++ (R.flatten ++ F)) := by
    rw [← List.append_assoc]; exact hw.perm (List.Perm.append_right F hs)
  refine (h.2 (R.flatten ++ F) w hw').mono ?_
  rintro e w' ⟨v, Post, h1, h2, h3, h4⟩
  obtain ⟨Post', h5, h6⟩ := hq v Post h2
  refine ⟨v, Post', h1, h5, Sat.imp h6 ?_, h4⟩
  rw [List.flatten_append, List.append_assoc]; exact h3
theorem Imp.back {A I : SH} : Imp (I ++ A) (A ++ I) := Imp.perm (by simp only [List.flatten_append]; exact List.perm_append_comm)
theorem Imp.back1 {A : List Atom} {I : SH} : Imp (I ++ [A]) (A :: I) := Imp.back (A := [A])
theorem Imp.head {A : List Atom} {I : SH} : Imp (A :: I) [A] := ⟨I, by simp [Spl]⟩
theorem st_loadA {P : Program} {n : Nat} {rs : List RO} {Γ : Env} {H : SH} {Z : List PanicEntry → Env → SH → Prop} {K : Env → SH → Prop} {d : Option Nat} {m : Nat} {x : Operand} {b o : Nat} {us : List Value} (hx : ev Γ x = some (.pointer (some ⟨b, o, none⟩))) (hm : ∀ a ∈ cellsAt b o us, a ∈ H.flatten) (hn : us.length = m) (h : VO P n rs (putE d (.agg us.toArray) Γ) H Z K) : VO P n (⟨d, none, .loadN m x⟩ :: rs) Γ H Z K :=
  VO.read rfl rfl (fun ρ hρ => ⟨_, rfl, fun F w hs => by
    simp [hρ _ _ hx, Instr.sureAddr, run_loadCells hn hm hs]⟩) h
theorem Fun.flat {P : Program} {f : Nat} {args : List Value} {Pre : SH} {Q : Value → SH → Prop} (h : Fun P f args Pre Q) : Fun P f args [Pre.flatten] (fun v Post => ∃ Post', Q v Post' ∧ Post = [Post'.flatten]) := by
  refine h.conv (R := []) (by simp [V.Spl]) (fun v Post hq => ⟨_, ⟨Post, hq, rfl⟩, Imp.perm (by simp)⟩)
theorem st_extL {P : Program} {n : Nat} {rs : List RO} {Γ : Env} {H : SH} {Z : List PanicEntry → Env → SH → Prop} {K : Env → SH → Prop} {d : Option Nat} {i : Nat} {x : Operand} {l : List Value} {v : Value} (hx : ev Γ x = some (.tuple l.toArray)) (hi : l[i]? = some v) (h : VO P n rs (putE d v Γ) H Z K) : VO P n (⟨d, none, .ext x i⟩ :: rs) Γ H Z K :=
  VO.pure rfl (fun ρ hρ => by simp [pureV, hρ _ _ hx, hi]) h
theorem st_gu {P : Program} {n : Nat} {rs : List RO} {Γ : Env} {H : SH} {Z : List PanicEntry → Env → SH → Prop} {K : Env → SH → Prop} {d : Option Nat} {r : R} {s : Nat} {b : Bool} (hs : look Γ s = some undef) (h : VO P n rs (putE d undef Γ) H Z K) : VO P n (⟨d, some (s, b), r⟩ :: rs) Γ H Z K := by
  intro l hl a w F ZZ Q ha hsat hq hz
  obtain ⟨o, l', rfl, hl', ops, ho⟩ := low_cons hl
  obtain ⟨g1, g2, g3, g4⟩ := lowRO_spec ho
  have hw : wantedR (some (s, b)) a = false := by simp [wantedR, ha.slots _ _ hs, undef]
  show wpR1 P ZZ (⟨d, some (s, b), r⟩, o) (wpR P ZZ Q l') a w
  unfold wpR1
  rw [if_neg (by simp [hw])]
  exact h l' hl' _ w F ZZ Q (ha.putE g3 undef) hsat (fun a2 w2 Γ2 H2 k1 k2 k3 k4 k5 => hq a2 w2 Γ2 H2 k1 k2 (k3.trans (put_defers ..)) k4 k5) (fun ch a2 w2 Γ2 H2 k1 k2 k3 k4 k5 => hz ch a2 w2 Γ2 H2 k1 k2 (k3.trans (put_defers ..)) k4 k5)
structure Later (R : Prop) : Prop where
  out : R
theorem GO {R G : Prop} (r : R) (h : Later R → G := by
  intro later
  (repeat (first
      | (first
    | (apply st_gt; rfl)
    | (apply st_gf; rfl; rfl)
    | (apply st_gu; rfl)
    | (apply st_mv; rfl)
    | (apply st_nil; rfl)
    | (apply st_pick_t; rfl; rfl)
    | (apply st_pick_f; rfl; rfl)
    | (apply st_fld; rfl; ((try simp only [Nat.zero_add, Nat.add_zero, Nat.reduceAdd, Nat.reduceMul, Nat.add_assoc, Int.toNat_natCast, Nat.mul_one]); rfl))
    | (apply st_load1; rfl; (focus ((repeat (first | (apply Has.cells; omega; rfl) | apply Has.there)); done)))
    | (apply st_load1; rfl; (focus ((repeat (first | (apply Has.among; assumption) | apply Has.there)); done)))
    | (apply st_loadM; rfl; (focus ((repeat (first | (apply HasM.cells; omega; (focus (simp only [List.length_cons, List.length_nil, Nat.reduceAdd, Nat.zero_add, Nat.reduceSub, Nat.sub_self, Nat.reduceLeDiff, Nat.le_refl]; done)); (focus (simp only [lnb, Value.cells, Nat.zero_add, Nat.reduceEqDiff, ↓reduceIte, eq_self, Nat.reduceAdd, Nat.reduceSub, Nat.sub_self, Nat.reduceLeDiff, Nat.le_refl, and_self, rep, zeroRow] <;> rfl)); rfl) | apply HasM.there)); done)))
    | (apply st_extL; rfl; rfl)
    | (apply st_ext; rfl; rfl)
    | (apply st_add; rfl; rfl; omega)
    | (apply st_sub; rfl; rfl; omega)
    | (apply st_mul; rfl; rfl; omega)
    | (apply st_rem; rfl; rfl; decide)
    | (apply st_idxL; rfl; rfl; omega; ((try simp only [Nat.zero_add, Nat.add_zero, Nat.reduceAdd, Nat.reduceMul, Nat.add_assoc, Int.toNat_natCast, Nat.mul_one]); rfl))
    | (apply st_idxA; rfl; rfl; omega; ((try simp only [Nat.zero_add, Nat.add_zero, Nat.reduceAdd, Nat.reduceMul, Nat.add_assoc, Int.toNat_natCast, Nat.mul_one]); rfl))
    | (apply st_build; rfl; (focus (simp only [lnb, Value.cells, Nat.zero_add, Nat.reduceEqDiff, ↓reduceIte, eq_self, Nat.reduceAdd, Nat.reduceSub, Nat.sub_self, Nat.reduceLeDiff, Nat.le_refl, and_self, rep, zeroRow] <;> rfl)))
    | (apply st_store'; rfl; rfl; (focus (simp only [lnb, Value.cells, Nat.zero_add, Nat.reduceEqDiff, ↓reduceIte, eq_self, Nat.reduceAdd, Nat.reduceSub, Nat.sub_self, Nat.reduceLeDiff, Nat.le_refl, and_self, rep, zeroRow] <;> rfl)); rfl; rfl; (focus ((repeat (first | (apply Upd.cells; omega; (focus (simp only [List.length_cons, List.length_nil, Nat.reduceAdd, Nat.zero_add, Nat.reduceSub, Nat.sub_self, Nat.reduceLeDiff, Nat.le_refl]; done)); (focus (simp only [lnb, Value.cells, Nat.zero_add, Nat.reduceEqDiff, ↓reduceIte, eq_self, Nat.reduceAdd, Nat.reduceSub, Nat.sub_self, Nat.reduceLeDiff, Nat.le_refl, and_self, rep, zeroRow] <;> rfl))) | apply Upd.there)); done)))
    | (apply st_pure; rfl; rfl; rfl))
      | (refine VO.nil ?_; simp only [V.argsEnv, V.restr, V.look, V.putE, V.thenQ, V.blockQ, Nat.zero_add, Nat.reduceAdd, Nat.reduceEqDiff, ↓reduceIte, eq_self])
      | refine VC.seq_reg ?_
      | refine VC.seq_draw1 ?_
      | refine VC.seq_seq ?_
      | refine VC.seq_block ?_
      | refine VC.seq_skip ?_
      | refine VC.reg ?_
      | refine VC.draw1 ?_
      | refine VC.block ?_
      | (refine VC.skip ?_; simp only [V.argsEnv, V.restr, V.look, V.putE, V.thenQ, V.blockQ, Nat.zero_add, Nat.reduceAdd, Nat.reduceEqDiff, ↓reduceIte, eq_self])
      | (refine VC.exit ?_; simp only [V.argsEnv, V.restr, V.look, V.putE, V.thenQ, V.blockQ, Nat.zero_add, Nat.reduceAdd, Nat.reduceEqDiff, ↓reduceIte, eq_self])
      | (refine VC.ret ?_; try simp only [V.thenQ, V.blockQ])
      | (apply VC.seq_cond_t; rfl)
      | (apply VC.seq_cond_f; rfl)
      | (apply VC.cond_t; rfl)
      | (apply VC.cond_f; rfl)))
  exact later.out) : G := h ⟨r⟩
def Invk (P : Program) (fv : Value) (args : List Value) (w : World) (R : Ending → World → Prop) : Prop :=
  match fv with
  | .func (.func f) first cap => callable P f = true ∧ Calls P f (first ++ args.toArray ++ cap) w R
  | .func (.yield l) first _ => ∃ f tmps asg body, (Instr.yield l (first ++ args.toArray)).run P w = .ok (.round l f tmps asg body) w ∧ RoundIn Fence.wide 0 P l f tmps asg body w R
  | _ => False
def FunV (P : Program) (fv : Value) (args : List Value) (Pre : SH) (Q : Value → SH → Prop) : Prop :=
  ∀ F w, Sat w (Pre.flatten ++ F) → Invk P fv args w fun e w' => ∃ v Post, e = .returned v ∧ Q v Post ∧ Sat w' (Post.flatten ++ F) ∧ Keeps w w'
theorem Invk.mono {P : Program} {fv : Value} {args : List Value} {w : World} {R R' : Ending → World → Prop} (h : Invk P fv args w R) (hr : ∀ e w', R e w' → R' e w') : Invk P fv args w R' := by
  unfold Invk at *
  split at h
  · exact ⟨h.1, Calls.mono h.2 hr⟩
  · obtain ⟨f, tmps, asg, body, h1, h2⟩ := h
    exact ⟨f, tmps, asg, body, h1, RoundIn.mono h2 hr⟩
  · exact h.elim
theorem FunV.mono {P : Program} {fv : Value} {args : List Value} {Pre : SH} {Q Q' : Value → SH → Prop} (h : FunV P fv args Pre Q) (hq : ∀ v Post, Q v Post → Q' v Post) : FunV P fv args Pre Q' :=
  fun F w hs => (h F w hs).mono fun _ _ ⟨v, Post, a, b, c⟩ => ⟨v, Post, a, hq _ _ b, c⟩
theorem FunV.conv {P : Program} {fv : Value} {args : List Value} {H Pre R : SH} {Q Q' : Value → SH → Prop} (h : FunV P fv args Pre Q) (hs : Spl H Pre R) (hq : ∀ v Post, Q v Post → ∃ Post', Q' v Post' ∧ Imp (Post ++ R) Post') : FunV P fv args H Q' := by
  intro F w hw
  have hw' : Sat w (Pre.flatten ++ (R.flatten ++ F)) := by
    rw [← List.append_assoc]; exact hw.perm (List.Perm.append_right F hs)
  refine (h (R.flatten ++ F) w hw').mono ?_
  rintro e w' ⟨v, Post, h1, h2, h3, h4⟩
  obtain ⟨Post', h5, h6⟩ := hq v Post h2
  refine ⟨v, Post', h1, h5, Sat.imp h6 ?_, h4⟩
  rw [List.flatten_append, List.append_assoc]; exact h3
theorem FunV.of_fun {P : Program} {f : Nat} {first cap : Array Value} {args : List Value} {Pre : SH} {Q : Value → SH → Prop} (h : Fun P f (first.toList ++ args ++ cap.toList) Pre Q) : FunV P (.func (.func f) first cap) args Pre Q := by
  intro F w hs
  refine ⟨h.1, ?_⟩
  have hall : first ++ args.toArray ++ cap = (first.toList ++ args ++ cap.toList).toArray := by
    apply Array.toList_inj.1; simp
  rw [hall]
  exact h.2 F w hs
theorem st_callV {P : Program} {n : Nat} {rs : List RO} {Γ : Env} {H : SH} {Z : List PanicEntry → Env → SH → Prop} {K : Env → SH → Prop} {d : Option Nat} {x : Operand} {fv : Value} {xs : List Operand} {args : List Value} {Pre R : SH} {Q : Value → SH → Prop}
    (hx : ev Γ x = some fv) (hf : FunV P fv args Pre Q) (he : evs Γ xs = some args) (hs : Spl H Pre R)
    (h : ∀ v Post, Q v Post → VO P n rs (putE d v Γ) (Post ++ R) Z K) : VO P n (⟨d, none, .callv x xs⟩ :: rs) Γ H Z K := by
  intro l hl a w F ZZ Q' ha hsat hq hz
  obtain ⟨o, l', rfl, hl', ops, ho⟩ := low_cons hl
  obtain ⟨g1, g2, g3, g4⟩ := lowRO_spec ho
  show wpR1 P ZZ (_, o) (wpR P ZZ Q' l') a w
  unfold wpR1
  have hp : isPure (V.R.callv x xs) = false := rfl
  have hr : isRead (V.R.callv x xs) = false := rfl
  simp only [wantedR, hp, hr, if_true, Bool.false_eq_true, if_false]
  refine ⟨fun e => (by cases e), ?_⟩
  obtain ⟨c, h1, h2, h3⟩ := low_callv g1
  have hm : xs.map a.eval = args := ha.evs he
  have hargs : (c.args.map a.eval) = args.toArray := by
    apply Array.toList_inj.1; rw [Array.toList_map, h3, hm]
  have hsat' : Sat w (Pre.flatten ++ (R.flatten ++ F)) := by
    rw [← List.append_assoc]; exact hsat.perm (hs.append_right F)
  have hi := hf (R.flatten ++ F) w hsat'
  have fin : ∀ (e : Ending) (w' : World), (∃ v Post, e = .returned v ∧ Q v Post ∧ Sat w' (Post.flatten ++ (R.flatten ++ F)) ∧ Keeps w w') → ∃ v, e = .returned v ∧ wpR P ZZ Q' l' (a.put o.dst v) w' := by
    rintro e w' ⟨v, Post, rfl, hQ, hs', hk⟩
    refine ⟨v, rfl, ?_⟩
    rw [← g2]
    refine h v Post hQ l' hl' _ w' F ZZ Q' (ha.putE g3 v) ?_ (fun a2 w2 Γ2 H2 k1 k2 k3 k4 k5 => hq a2 w2 Γ2 H2 k1 k2 (k3.trans (put_defers ..)) k4 (hk.trans k5)) (fun ch a2 w2 Γ2 H2 k1 k2 k3 k4 k5 => hz ch a2 w2 Γ2 H2 k1 k2 (k3.trans (put_defers ..)) k4 (hk.trans k5))
    rw [List.flatten_append, List.append_assoc]; exact hs'
  have hev : a.eval x = fv := ha.ev hx
  unfold Invk at hi
  split at hi
  · rename_i f first cap
    have hrun : (execOp a.eval o).run P w = .ok (.enter f (first ++ args.toArray ++ cap)) w := by
      simp [execOp, h1, resolve, h2, hev, Deferred.ofValue, invoke, hargs]
      rw [run_callFunc hi.1]
    simp only [wpV, hrun, uponV]
    refine hi.2.mono (fun e w' he => ?_)
    obtain ⟨v, rfl, hv⟩ := fin e w' he
    exact hv
  · rename_i l0 first cap
    obtain ⟨f, tmps, asg, body, hy, hrd⟩ := hi
    have hrun : (execOp a.eval o).run P w = .ok (.round l0 f tmps asg body) w := by
      simp [execOp, h1, resolve, h2, hev, Deferred.ofValue, invoke, hargs]
      exact hy
    simp only [wpV, hrun, uponV]
    refine hrd.mono (fun e w' he => ?_)
    obtain ⟨v, rfl, hv⟩ := fin e w' he
    exact hv
  · exact hi.elim
def bindE : List Nat → List Value → Env → Env
  | p :: ps, v :: vs, Γ => bindE ps vs ((p, v) :: Γ)
  | _, _, Γ => Γ
def OkC {α : Type} (Spec : List α → Prop) (c : List α) : Prop := ∃ t, Spec (c ++ t)
def Iter (P : Program) (g : Value) {α : Type} (enc : α → List Value) (Pre Post : SH) (Spec : List α → Prop) : Prop :=
  ∀ (y : Value) (J SP : List α → List Atom → Prop),
    (∀ c x A, OkC Spec (c ++ [x]) → J c A → FunV P y (enc x) [A] (fun v B => (v = .bool true ∧ ∃ A', J (c ++ [x]) A' ∧ B = [A']) ∨ (v = .bool false ∧ ∃ B', SP (c ++ [x]) B' ∧ B = [B']))) →
    ∀ A, J [] A → FunV P g [y] (Pre ++ [A]) (fun v B => v = .tuple #[] ∧ ((∃ full A', Spec full ∧ J full A' ∧ B = Post ++ [A']) ∨ (∃ c B', OkC Spec c ∧ SP c B' ∧ B = Post ++ [B'])))
section
variable {P : Program} {n : Nat} {Γ : Env} {H : SH} {Q : Exit → Env → SH → Prop}
theorem bind_agree {ps : List Nat} : ∀ {vs : List Value} {Γ : Env} {tmps : Array Value}, (∀ t ∈ ps, t < n) → ps.length = vs.length → Agree n Γ { tmps := tmps, defers := [] } →
    Agree n (bindE ps vs Γ) { tmps := (ps.zip vs).foldl (fun tmps (t, a) => tmps.setIfInBounds t a) tmps, defers := [] } := by
  induction ps with
  | nil => intro vs Γ tmps _ _ h; cases vs <;> exact h
  | cons p ps ih =>
    intro vs Γ tmps hp hl h
    cases vs with
    | nil => simp at hl
    | cons v vs =>
      simp only [bindE, List.zip_cons_cons, List.foldl_cons]
      refine ih (fun t ht => hp t (by simp [ht])) (by simpa using hl) ?_
      exact h.put (d := p) (hp p (by simp)) v
def lrec (fn : FuncId) (tmps : Array Value) (qs : Array Tmp) (A B : Code) (db : Nat) (st : LoopState) (pe : Option Code) : Loop := { state := st, pending := pe, fn, tmps, params := qs, assign := A, body := B, defers := db }
theorem run_getLoop {w : World} {l : Nat} {r : Loop} (h : w.heap[l]? = some (.loop r)) : (Instr.getLoop l).run P w = .ok r w := by
  simp [Instr.getLoop, Go.getObj, Sem.run, h]
theorem round_spec {kp : Nat → List Nat} {od : Nat → List (List Nat)} {fn : FuncId} {tmps : Array Value} {qs : Array Tmp} {A B : Code} {db l : Nat} {asg body : IC} {vs : List Value} {I : List Atom} {Qb : Exit → SH → Prop}
    (hqs : ∀ t ∈ qs.toList, t < n) (hlen : qs.toList.length = vs.length) (ha : Agree n Γ { tmps := tmps, defers := [] }) (h1 : lowC P n kp od A = some asg) (h2 : lowC P n kp od B = some body)
    (h : VC P n asg (bindE qs.toList vs Γ) [I] (fun e Γ' H' => e = .normal ∧ VC P n body Γ' H' (fun e _ H'' => match e with | .normal => Qb .normal H'' | .ret => Qb .ret H'' | .exit id => Qb (.exit id) H'' | _ => False))) :
    FunV P (.func (.yield l) #[] #[]) vs [I ++ [.obj l (.loop (lrec fn tmps qs A B db .ready none))]] (fun v Bk => (v = .bool true ∧ ∃ H'', Qb .normal H'' ∧ Bk = [H''.flatten ++ [.obj l (.loop (lrec fn tmps qs A B db .ready none))]]) ∨
      (v = .bool false ∧ ∃ H'', ((Qb .ret H'' ∧ Bk = [H''.flatten ++ [.obj l (.loop (lrec fn tmps qs A B db .done (some .ret)))]]) ∨ (∃ id, Qb (.exit id) H'' ∧ Bk = [H''.flatten ++ [.obj l (.loop (lrec fn tmps qs A B db .done (some (.exit id))))]])))) := by
  intro F w hs
  have hs1 : Sat w ([I].flatten ++ (.obj l (.loop (lrec fn tmps qs A B db .ready none)) :: F)) := by simpa using hs
  have hobj := (hs1.obj (b := l) (List.mem_append_right _ (List.mem_cons_self ..))).1
  refine ⟨fn, (qs.zip vs.toArray).foldl (fun tmps (t, a) => tmps.setIfInBounds t a) tmps, A, B, ?_, ?_⟩
  · simp only [Instr.yield, Sem.run_bind, run_getLoop hobj, Result.andThen_ok]
    have : (#[] ++ vs.toArray : Array Value).size = qs.size := by simpa using hlen.symm
    simp [lrec, hlen.symm]
  · have hz : (qs.zip vs.toArray).foldl (fun tmps (t, a) => tmps.setIfInBounds t a) tmps = (qs.toList.zip vs).foldl (fun tmps (t, a) => tmps.setIfInBounds t a) tmps := by
      rw [← Array.foldl_toList]; simp
    rw [hz]
    refine roundIn_of_wpIn trivial ?_
    refine h (some l) kp od A h1 _ w _ _ (fun l' e => by cases e; exact ⟨_, List.mem_cons_self ..⟩) (bind_agree hqs hlen ha) hs1 ?_
    rintro e a1 w1 Γ1 H1 X ⟨rfl, hb⟩ g1 _ g3 g4
    have g3' : Sat w1 (.obj l (.loop (lrec fn tmps qs A B db .ready none)) :: (H1.flatten ++ (F ++ marks X))) := by
      refine g3.perm ?_
      simp only [List.cons_append]
      exact List.perm_middle
    have hobj1 := (g3'.obj (List.mem_cons_self ..)).1
    obtain ⟨s1, s2⟩ := Sat.setObj (u := .loop (lrec fn tmps qs A B db .busy none)) g3' rfl
    refine ⟨{ w1 with heap := w1.heap.setIfInBounds l (.loop (lrec fn tmps qs A B db .busy none)) }, ?_, ?_⟩
    · have hg := run_getLoop (P := P) hobj1
      simp only [Instr.beginRound, Sem.run_bind, hg, Result.andThen_ok]
      simp [lrec, Go.setObj, Sem.run, hobj1]
    have s3 : Sat { w1 with heap := w1.heap.setIfInBounds l (.loop (lrec fn tmps qs A B db .busy none)) } (H1.flatten ++ (.obj l (.loop (lrec fn tmps qs A B db .busy none)) :: (F ++ marks X))) := s1.perm List.perm_middle.symm
    refine hb (some l) kp od B h2 a1 _ _ _ (fun l' e => by cases e; exact ⟨_, List.mem_cons_self ..⟩) g1 s3 ?_
    intro e a2 w2 Γ2 H2 Y q k1 _ k3 k4
    have k3' : Sat w2 (.obj l (.loop (lrec fn tmps qs A B db .busy none)) :: (H2.flatten ++ F)) := by
      have p : (H2.flatten ++ (.obj l (.loop (lrec fn tmps qs A B db .busy none)) :: (F ++ marks X) ++ marks Y)).Perm ((.obj l (.loop (lrec fn tmps qs A B db .busy none)) :: (H2.flatten ++ F)) ++ (marks X ++ marks Y)) := by
        simp only [List.cons_append, List.append_assoc]
        exact List.perm_middle
      exact (k3.perm p).left
    have hobj2 := (k3'.obj (List.mem_cons_self ..)).1
    have keep := g4.trans (s2.trans k4)
    have fin : ∀ (j : Option Code) (st : LoopState), ∀ (hst : st = if j.isNone then .ready else .done), (Instr.endRound l j).run P w2 = .ok (.bool j.isNone) { w2 with heap := w2.heap.setIfInBounds l (.loop (lrec fn tmps qs A B db st j)) } ∧
        Sat { w2 with heap := w2.heap.setIfInBounds l (.loop (lrec fn tmps qs A B db st j)) } ([H2.flatten ++ [Atom.obj l (.loop (lrec fn tmps qs A B db st j))]].flatten ++ F) ∧ Keeps w { w2 with heap := w2.heap.setIfInBounds l (.loop (lrec fn tmps qs A B db st j)) } := by
      intro j st hst
      obtain ⟨t1, t2⟩ := Sat.setObj (u := .loop (lrec fn tmps qs A B db st j)) k3' rfl
      refine ⟨?_, ?_, keep.trans t2⟩
      · subst hst
        simp only [Instr.endRound, Sem.run_bind, run_getLoop hobj2, Result.andThen_ok, lrec, Go.setObj, Sem.run, hobj2, Sem.run_pure]
      · refine t1.perm ?_
        simp only [List.flatten_cons, List.flatten_nil, List.append_nil, List.append_assoc, List.singleton_append]
        exact List.perm_middle.symm
    cases e with
    | normal =>
      obtain ⟨f1, f2, f3⟩ := fin none .ready rfl
      exact ⟨_, _, f1, _, _, rfl, .inl ⟨rfl, _, q, rfl⟩, f2, f3⟩
    | ret =>
      obtain ⟨f1, f2, f3⟩ := fin (some .ret) .done rfl
      exact ⟨_, _, f1, _, _, rfl, .inr ⟨rfl, _, .inl ⟨q, rfl⟩⟩, f2, f3⟩
    | exit id =>
      obtain ⟨f1, f2, f3⟩ := fin (some (.exit id)) .done rfl
      exact ⟨_, _, f1, _, _, rfl, .inr ⟨rfl, _, .inr ⟨id, q, rfl⟩⟩, f2, f3⟩
    | goto _ => exact q.elim
    | panic _ => exact q.elim
    | outgrown => exact q.elim
theorem enter_spec {fnid : FuncId} {tmps : Array Value} {qs : Array Tmp} {A B : Code} {ρ : Option Nat} {w : World} {L F : List Atom} (hr : Rnd ρ F) (hsat : Sat w (L ++ F)) :
    ∃ (l db : Nat) (X : List Nat) (w1 : World), (Instr.enterLoop fnid tmps qs A B ρ).run P w = .ok (l, X.map coll) w1 ∧
      Sat w1 (.obj l (.loop (lrec fnid tmps qs A B db .ready none)) :: (L ++ (F ++ marks X))) ∧ Keeps w w1 := by
  cases ρ with
  | none =>
    obtain ⟨s1, s2⟩ := hsat.newObj (.deferred (some [])) rfl
    obtain ⟨s3, s4⟩ := s1.newObj (.loop (lrec fnid tmps qs A B w.heap.size .ready none)) rfl
    refine ⟨(w.heap.push (.deferred (some []))).size, w.heap.size, [w.heap.size], _, ?_, s3.perm ?_, s2.trans s4⟩
    · simp [Instr.enterLoop, Go.newObj, Sem.run, lrec, coll]; rfl
    · refine List.Perm.cons _ ?_
      simp only [marks, List.map_cons, List.map_nil]
      rw [← List.append_assoc]
      exact (List.perm_append_singleton _ _).symm
  | some l0 =>
    obtain ⟨r, hr0⟩ := hr l0 rfl
    have ho := (hsat.obj (List.mem_append_right _ hr0)).1
    obtain ⟨s3, s4⟩ := hsat.newObj (.loop (lrec fnid tmps qs A B r.defers .ready none)) rfl
    refine ⟨w.heap.size, r.defers, [], _, ?_, ?_, s4⟩
    · simp [Instr.enterLoop, run_getLoop ho, Go.newObj, Sem.run, lrec]
    · simpa [marks] using s3
theorem end_spec {fnid : FuncId} {tmps : Array Value} {qs : Array Tmp} {A B : Code} {db l : Nat} {st : LoopState} {pe : Option Code} {w : World} {L F : List Atom} (hst : st ≠ .busy)
    (hs : Sat w (L ++ [.obj l (.loop (lrec fnid tmps qs A B db st pe))] ++ F)) : ∃ w4, (Instr.endLoop l).run P w = .ok pe w4 ∧ Sat w4 (L ++ F) ∧ Keeps w w4 := by
  have hs5 : Sat w (.obj l (.loop (lrec fnid tmps qs A B db st pe)) :: (L ++ F)) := by
    refine hs.perm ?_
    rw [List.append_assoc]
    exact List.perm_middle
  have ho := (hs5.obj (List.mem_cons_self ..)).1
  obtain ⟨t1, t2⟩ := Sat.setObj (u := .loop (lrec fnid tmps qs A B db .exhausted pe)) hs5 rfl
  refine ⟨_, ?_, t1.sub (List.sublist_cons_self ..), t2⟩
  have hgl := run_getLoop (P := P) ho
  have hb : ((lrec fnid tmps qs A B db st pe).state == LoopState.busy) = false := by cases st <;> first | rfl | exact absurd rfl hst
  simp only [Instr.endLoop, Sem.run_bind, hgl, Result.andThen_ok, hb]
  simp [lrec, Go.setObj, Sem.run, ho]
theorem VC.rangef {α : Type} {enc : α → List Value} {g : Operand} {f : Nat} {first cap : Array Value} {ps : List Nat} {asg body : IC} {Pre Post R : SH} {Spec : List α → Prop} (I : List α → List Atom → Prop) (A0 : List Atom) (hg : ev Γ g = some (.func (.func f) first cap))
    (hit : Iter P (.func (.func f) first cap) enc Pre Post Spec) (hs : Spl H Pre R) (h0 : Imp R [A0]) (h1 : I [] A0) (hlen : ∀ x, (enc x).length = ps.length)
    (round : ∀ c x A, OkC Spec (c ++ [x]) → I c A → VC P n asg (bindE ps (enc x) Γ) [A] (fun e Γ' H' => e = .normal ∧ VC P n body Γ' H' (fun e _ H'' => match e with | .normal => ∃ A', I (c ++ [x]) A' ∧ Imp H'' [A'] | .ret => Q .ret Γ (Post ++ H'') | .exit id => Q (.exit id) Γ (Post ++ H'') | _ => False)))
    (done : ∀ full A, Spec full → I full A → Q .normal Γ (Post ++ [A])) : VC P n (.rangef g ps asg body) Γ H Q := by
  intro ρ kp od code hl a w F QQ hr ha hsat hh
  obtain ⟨qs, A, B, rfl, rfl, hlt, h1', h2⟩ := lowC_inv hl
  refine wpIn_rangeFunc (fun fnid _ => ?_)
  obtain ⟨l, db, X, w1, he, hs1, hk1⟩ := enter_spec (P := P) (fnid := fnid) (tmps := a.tmps) (qs := qs) (A := A) (B := B) hr hsat
  have hyield := hit (.func (.yield l) #[] #[]) (fun c A' => ∃ A1, I c A1 ∧ A' = A1 ++ [.obj l (.loop (lrec fnid a.tmps qs A B db .ready none))])
    (fun c B' => ∃ H'', (Q .ret Γ (Post ++ H'') ∧ B' = H''.flatten ++ [.obj l (.loop (lrec fnid a.tmps qs A B db .done (some .ret)))]) ∨ (∃ id, Q (.exit id) Γ (Post ++ H'') ∧ B' = H''.flatten ++ [.obj l (.loop (lrec fnid a.tmps qs A B db .done (some (.exit id))))]))
    (fun c x A' hc hA => by
      obtain ⟨A1, hI, rfl⟩ := hA
      have hx := round_spec (P := P) (n := n) (Γ := Γ) (fn := fnid) (tmps := a.tmps) (db := db) (l := l) (vs := enc x) (I := A1) (Qb := fun e H'' => match e with | .normal => ∃ A', I (c ++ [x]) A' ∧ Imp H'' [A'] | .ret => Q .ret Γ (Post ++ H'') | .exit id => Q (.exit id) Γ (Post ++ H'') | _ => False)
        hlt (hlen x).symm ⟨ha.size, ha.slots⟩ h1' h2 ((round c x A1 hc hI).mono (fun e Γ' H' ⟨q1, q2⟩ => ⟨q1, q2.mono (fun e _ H'' q => by cases e <;> exact q)⟩))
      refine hx.conv (R := []) (by simp [Spl]) ?_
      rintro v Bk (⟨rfl, H'', ⟨A2, hI2, q⟩, rfl⟩ | ⟨rfl, H'', q⟩)
      · refine ⟨_, .inl ⟨rfl, _, ⟨A2, hI2, rfl⟩, rfl⟩, ?_⟩
        obtain ⟨R', hR'⟩ := q
        refine ⟨R', ?_⟩
        simp only [Spl, List.flatten_cons, List.flatten_nil, List.append_nil] at hR' ⊢
        rw [List.append_assoc]
        refine (List.Perm.append_right _ hR').trans ?_
        rw [List.append_assoc]
        exact List.Perm.append_left _ List.perm_append_comm
      · rcases q with ⟨q, rfl⟩ | ⟨id, q, rfl⟩
        · exact ⟨_, .inr ⟨rfl, _, ⟨H'', .inl ⟨q, rfl⟩⟩, rfl⟩, by rw [List.append_nil]; exact Imp.refl _⟩
        · exact ⟨_, .inr ⟨rfl, _, ⟨H'', .inr ⟨id, q, rfl⟩⟩, rfl⟩, by rw [List.append_nil]; exact Imp.refl _⟩)
    _ ⟨A0, h1, rfl⟩
  have hs2 : Sat w1 ((Pre ++ [A0 ++ [Atom.obj l (.loop (lrec fnid a.tmps qs A B db .ready none))]]).flatten ++ (F ++ marks X)) := by
    have p1 : (Atom.obj l (.loop (lrec fnid a.tmps qs A B db .ready none)) :: (H.flatten ++ (F ++ marks X))).Perm (R.flatten ++ (Pre.flatten ++ (Atom.obj l (.loop (lrec fnid a.tmps qs A B db .ready none)) :: (F ++ marks X)))) := by
      refine List.perm_middle.symm.trans ?_
      refine (List.Perm.append_right _ hs).trans ?_
      rw [List.append_assoc]
      exact perm_lead _ _ _
    have h3 := (hs1.perm p1).imp h0
    refine h3.perm ?_
    simp only [List.flatten_append, List.flatten_cons, List.flatten_nil, List.append_nil, List.append_assoc, List.singleton_append]
    exact perm_lead _ _ _
  have hcall := hyield (F ++ marks X) w1 hs2
  obtain ⟨hcallable, hcalls⟩ := hcall
  refine ⟨l, X.map coll, w1, { target := .fn (.func f) cap, args := first ++ [Value.func (.yield l) #[] #[]].toArray }, w1, f, first ++ [Value.func (.yield l) #[] #[]].toArray ++ cap, w1, he, ?_, fun _ _ => trivial, ?_, ?_, ?_⟩
  · have hev : a.eval g = .func (.func f) first cap := ha.ev hg
    simp only [resolve, hev, Deferred.ofValue]
    simp [Act.eval]
  · simp only [invoke]
    rw [run_callFunc hcallable]
  · intro h; simp at h
  refine callsIn_v (hcalls.mono ?_)
  · rintro e w3 ⟨v, Pst, rfl, ⟨rfl, hp⟩, hs3, hk3⟩
    have ha' : Agree n Γ { a with defers := X.map coll ++ a.defers } := ⟨ha.size, ha.slots⟩
    rcases hp with ⟨full, _, hf, ⟨A1, hI, rfl⟩, rfl⟩ | ⟨c, B', _, ⟨H'', hj⟩, rfl⟩
    · obtain ⟨w4, e1, e2, e3'⟩ := end_spec (P := P) (L := Post.flatten ++ A1) (st := .ready) (pe := none) (by simp) (by simpa [List.append_assoc] using hs3)
      have e3 := hk1.trans (hk3.trans e3')
      exact ⟨none, w4, e1, hh _ _ _ _ _ X (done full A1 hf hI) ha' rfl (by simpa using e2) e3⟩
    · rcases hj with ⟨q, rfl⟩ | ⟨id, q, rfl⟩
      · obtain ⟨w4, e1, e2, e3'⟩ := end_spec (P := P) (L := Post.flatten ++ H''.flatten) (st := .done) (pe := some .ret) (by simp) (by simpa [List.append_assoc] using hs3)
        have e3 := hk1.trans (hk3.trans e3')
        exact ⟨_, w4, e1, wpIn_ret (hh _ _ _ _ _ X q ha' rfl (by simpa using e2) e3)⟩
      · obtain ⟨w4, e1, e2, e3'⟩ := end_spec (P := P) (L := Post.flatten ++ H''.flatten) (st := .done) (pe := some (.exit id)) (by simp) (by simpa [List.append_assoc] using hs3)
        have e3 := hk1.trans (hk3.trans e3')
        exact ⟨_, w4, e1, wpIn_exit (hh _ _ _ _ _ X q ha' rfl (by simpa using e2) e3)⟩
end
end Go.V

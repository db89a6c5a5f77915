/-
  Lists of keys with values, as lists.
-/
import Derived.Test.YtffmipimgodfdaaVP
set_option linter.unusedSimpArgs false
set_option linter.unusedVariables false
namespace Go.V
open Go
section
variable {κ β : Type} [DecidableEq κ]

theorem mget_mem {k : κ} {v : β} : ∀ {m : List (κ × β)}, mget k m = some v → (k, v) ∈ m := by
  intro m
  induction m with
  | nil => intro h; simp [mget] at h
  | cons p m ih =>
    obtain ⟨a, u⟩ := p
    intro h
    simp only [mget] at h
    split at h
    · rename_i e; cases h; subst e; simp
    · simp [ih h]

theorem mget_none {k : κ} : ∀ {m : List (κ × β)}, mget k m = none ↔ k ∉ m.map (·.1) := by
  intro m
  induction m with
  | nil => simp [mget]
  | cons p m ih =>
    obtain ⟨a, u⟩ := p
    simp only [mget, List.map_cons, List.mem_cons]
    split
    · rename_i e; simp [e]
    · rename_i e; rw [ih]; simp only [not_or]; exact ⟨fun h => ⟨fun x => e x.symm, h⟩, fun h => h.2⟩

theorem mem_mget {k : κ} {v : β} : ∀ {m : List (κ × β)}, (m.map (·.1)).Nodup → (k, v) ∈ m → mget k m = some v := by
  intro m
  induction m with
  | nil => intro _ h; cases h
  | cons p m ih =>
    obtain ⟨a, u⟩ := p
    intro hn h
    simp only [List.map_cons, List.nodup_cons] at hn
    simp only [mget]
    rcases List.mem_cons.1 h with h | h
    · cases h; simp
    · have : a ≠ k := fun e => hn.1 (by subst e; exact List.mem_map.2 ⟨_, h, rfl⟩)
      rw [if_neg this]; exact ih hn.2 h

theorem mget_mset {k j : κ} {v : β} : ∀ {m : List (κ × β)}, mget j (mset k v m) = if k = j then some v else mget j m := by
  intro m
  induction m with
  | nil => simp [mset, mget]
  | cons p m ih =>
    obtain ⟨a, u⟩ := p
    simp only [mset]
    split
    · rename_i e; subst e
      simp only [mget]
      split <;> rfl
    · rename_i e
      simp only [mget, ih]
      by_cases h1 : a = j
      · subst h1; simp [show ¬ k = a from fun x => e x.symm]
      · simp [h1]

theorem mset_keys {k : κ} {v : β} : ∀ {m : List (κ × β)}, (mset k v m).map (·.1) = if k ∈ m.map (·.1) then m.map (·.1) else m.map (·.1) ++ [k] := by
  intro m
  induction m with
  | nil => simp [mset]
  | cons p m ih =>
    obtain ⟨a, u⟩ := p
    simp only [mset]
    split
    · rename_i e; simp [e]
    · rename_i e
      have e' : ¬ k = a := fun x => e x.symm
      simp only [List.map_cons, ih, List.mem_cons, e', false_or]
      split <;> simp

theorem mset_nodup {k : κ} {v : β} {m : List (κ × β)} (h : (m.map (·.1)).Nodup) : ((mset k v m).map (·.1)).Nodup := by
  rw [mset_keys]
  split
  · exact h
  · rename_i hk
    rw [List.nodup_append]
    refine ⟨h, by simp, ?_⟩
    intro a ha b hb
    simp at hb
    rintro rfl
    exact hk (hb ▸ ha)

theorem mdel_sub {k : κ} : ∀ {m : List (κ × β)}, (mdel k m).Sublist m := by
  intro m
  induction m with
  | nil => exact .slnil
  | cons p m ih =>
    obtain ⟨a, u⟩ := p
    simp only [mdel]
    split
    · exact List.sublist_cons_self _ _
    · exact ih.cons_cons _

theorem mdel_nodup {k : κ} {m : List (κ × β)} (h : (m.map (·.1)).Nodup) : ((mdel k m).map (·.1)).Nodup := (mdel_sub.map _).nodup h

theorem mdel_filter {k : κ} : ∀ {m : List (κ × β)}, (m.map (·.1)).Nodup → mdel k m = m.filter fun p => decide (p.1 ≠ k) := by
  intro m
  induction m with
  | nil => intro _; rfl
  | cons p m ih =>
    obtain ⟨a, u⟩ := p
    intro h
    simp only [List.map_cons, List.nodup_cons] at h
    simp only [mdel]
    split
    · rename_i e; subst e
      rw [List.filter_cons_of_neg (by simp)]
      refine (List.filter_eq_self.2 ?_).symm
      intro q hq
      simp only [ne_eq, decide_not, Bool.not_eq_eq_eq_not, Bool.not_true, decide_eq_false_iff_not]
      exact fun e => h.1 (by rw [← e]; exact List.mem_map.2 ⟨q, hq, rfl⟩)
    · rename_i e
      rw [List.filter_cons_of_pos (by simpa using e), ih h.2]

theorem mget_filter {k : κ} {f : κ × β → Bool} : ∀ {m : List (κ × β)}, (m.map (·.1)).Nodup → mget k (m.filter f) = (mget k m).filter (fun v => f (k, v)) := by
  intro m
  induction m with
  | nil => intro _; rfl
  | cons p m ih =>
    obtain ⟨a, u⟩ := p
    intro h
    simp only [List.map_cons, List.nodup_cons] at h
    rw [List.filter_cons]
    by_cases e : a = k
    · subst e
      simp only [mget, if_true, Option.filter_some]
      split
      · simp [mget]
      · rw [ih h.2]
        have : mget a m = none := mget_none.2 h.1
        rw [this]; rfl
    · split
      · simp only [mget, if_neg e]; exact ih h.2
      · simp only [mget, if_neg e]; exact ih h.2

theorem mget_mdel {k j : κ} {m : List (κ × β)} (h : (m.map (·.1)).Nodup) : mget j (mdel k m) = if k = j then none else mget j m := by
  rw [mdel_filter h, mget_filter h]
  by_cases e : k = j
  · subst e; simp
  · simp only [ne_eq, show ¬ j = k from fun x => e x.symm, not_false_eq_true, decide_true, e, if_false]
    cases mget j m <;> rfl

theorem mget_perm {k : κ} {x : β} : ∀ {m : List (κ × β)}, mget k m = some x → m.Perm ((k, x) :: mdel k m) := by
  intro m
  induction m with
  | nil => intro h; simp [mget] at h
  | cons p m ih =>
    obtain ⟨a, u⟩ := p
    intro h
    simp only [mget] at h
    simp only [mdel]
    split at h
    · rename_i e; cases h; subst e; simp
    · rename_i e
      rw [if_neg e]
      exact ((ih h).cons _).trans (List.Perm.swap _ _ _)

theorem mset_perm {k : κ} {x : β} : ∀ {m : List (κ × β)}, (mset k x m).Perm ((k, x) :: mdel k m) := by
  intro m
  induction m with
  | nil => exact .refl _
  | cons p m ih =>
    obtain ⟨a, u⟩ := p
    simp only [mset, mdel]
    split
    · rename_i e; subst e; simp
    · exact (ih.cons _).trans (List.Perm.swap _ _ _)

theorem mset_mset {k : κ} {x y : β} : ∀ {m : List (κ × β)}, mset k y (mset k x m) = mset k y m := by
  intro m
  induction m with
  | nil => simp [mset]
  | cons p m ih =>
    obtain ⟨a, u⟩ := p
    simp only [mset]
    split
    · rename_i e; simp [mset, e]
    · rename_i e; simp [mset, e, ih]

theorem mdel_mset {k : κ} {x : β} : ∀ {m : List (κ × β)}, mdel k (mset k x m) = mdel k m := by
  intro m
  induction m with
  | nil => simp [mset, mdel]
  | cons p m ih =>
    obtain ⟨a, u⟩ := p
    simp only [mset]
    split
    · rename_i e; simp [mdel, e]
    · rename_i e; simp [mdel, e, ih]

theorem mset_mem {k : κ} {v : β} {q : κ × β} : ∀ {m : List (κ × β)}, q ∈ mset k v m → q = (k, v) ∨ q ∈ m := by
  intro m hq
  have := mset_perm.mem_iff.1 hq
  rcases List.mem_cons.1 this with h | h
  · exact .inl h
  · exact .inr (mdel_sub.subset h)

theorem MapIs.same {E : KEnc κ} {V : β → Value} {es : Array MapEntry} {c : Nat} {m : List (κ × β)} {k : κ} {x y : β} (h : MapIs E V es c m) (hx : mget k m = some x) (hv : V y = V x) : MapIs E V es c (mset k y m) := by
  refine ⟨?_, h.born, h.clock⟩
  have h1 := h.of
  unfold MapOf at h1 ⊢
  rw [h1]
  clear h1 h
  induction m with
  | nil => simp [mget] at hx
  | cons p m ih =>
    obtain ⟨a, u⟩ := p
    simp only [mget] at hx
    simp only [mset]
    split at hx
    · rename_i e; cases hx; subst e; simp [hv]
    · rename_i e; simp only [if_neg e, List.map_cons, ih hx]

theorem perm_flat {α γ : Type} {f : α → List γ} {l l' : List α} (h : l.Perm l') : (l.flatMap f).Perm (l'.flatMap f) := h.flatMap_right f
end

theorem Upd.set1 {b o i k : Nat} {vs : List Value} {u : Value} {L : SH} (hk : o + i = k) (h : i < vs.length) : Upd (cellsAt b o vs :: L) b k [u] (cellsAt b o (vs.set i u) :: L) := by
  subst hk
  refine .cells (by omega) (by simp; omega) ?_
  rw [Nat.add_sub_cancel_left, List.set_eq_take_append_cons_drop, if_pos h]
  simp

section
variable {κ β : Type} [DecidableEq κ] {E : KEnc κ} {V : β → Value}

theorem MapIs.entry {es : Array MapEntry} {c : Nat} {m : List (κ × β)} (h : MapIs E V es c m) {e : MapEntry} (he : e ∈ es.toList) : ∃ p ∈ m, e.key = E.enc p.1 ∧ e.val = V p.2 := by
  have h1 : (e.key, e.val) ∈ es.toList.map (fun e => (e.key, e.val)) := List.mem_map.2 ⟨e, he, rfl⟩
  rw [show es.toList.map (fun e => (e.key, e.val)) = _ from h.of] at h1
  obtain ⟨p, hp, e1⟩ := List.mem_map.1 h1
  simp only [Prod.mk.injEq] at e1
  exact ⟨p, hp, e1.1.symm, e1.2.symm⟩

theorem MapIs.has {es : Array MapEntry} {c : Nat} {m : List (κ × β)} (h : MapIs E V es c m) {p : κ × β} (hp : p ∈ m) : ∃ e ∈ es.toList, e.key = E.enc p.1 ∧ e.val = V p.2 := by
  have h1 : (E.enc p.1, V p.2) ∈ m.map (fun p => (E.enc p.1, V p.2)) := List.mem_map.2 ⟨p, hp, rfl⟩
  rw [← show es.toList.map (fun e => (e.key, e.val)) = _ from h.of] at h1
  obtain ⟨e, he, e1⟩ := List.mem_map.1 h1
  simp only [Prod.mk.injEq] at e1
  exact ⟨e, he, e1.1, e1.2⟩

theorem KEnc.inj {a b : κ} (h : E.enc a = E.enc b) : a = b := by
  have h1 := E.same a b
  have h2 := E.same b b
  rw [h] at h1
  rw [h1] at h2
  simpa using h2

theorem born_one {l : List MapEntry} (h : l.Pairwise fun a b => a.born < b.born) {e e' : MapEntry} (he : e ∈ l) (he' : e' ∈ l) (hb : e.born = e'.born) : e = e' := by
  induction l with
  | nil => cases he
  | cons a r ih =>
    have hp := List.pairwise_cons.1 h
    rcases List.mem_cons.1 he with h1 | h1
    · rcases List.mem_cons.1 he' with h2 | h2
      · rw [h1, h2]
      · have := hp.1 e' h2; rw [h1] at hb; omega
    · rcases List.mem_cons.1 he' with h2 | h2
      · have := hp.1 e h1; rw [h2] at hb; omega
      · exact ih hp.2 h1 h2

theorem filter_less {α : Type} {l : List α} {p q : α → Bool} (h : ∀ x ∈ l, q x = true → p x = true) {e : α} (he : e ∈ l) (h1 : p e = true) (h2 : q e = false) : (l.filter q).length < (l.filter p).length := by
  have : l.filter q = (l.filter p).filter q := by
    rw [List.filter_filter]
    refine List.filter_congr (fun x hx => ?_)
    cases hq : q x
    · simp
    · simp [h x hx hq]
  rw [this, List.length_filter_lt_length_iff_exists]
  exact ⟨e, List.mem_filter.2 ⟨he, h1⟩, by simp [h2]⟩

theorem perm_filter {α γ : Type} (f : α → List γ) (l : List α) (p : α → Bool) : (l.flatMap f).Perm ((l.filter p).flatMap f ++ (l.filter fun x => !p x).flatMap f) := by
  rw [← List.flatMap_append]
  exact perm_flat (List.filter_append_perm p l).symm
end

theorem Spl.tail2 {A B : List Atom} {I : SH} : Spl (A :: B :: I) I [A, B] := by
  simp only [Spl, List.flatten_cons, List.flatten_nil, List.append_nil]
  rw [← List.append_assoc]
  exact List.perm_append_comm
theorem Imp.tail2 {A B : List Atom} {I : SH} : Imp (I ++ [A, B]) (A :: B :: I) := by
  refine Imp.perm ?_
  simp only [List.flatten_cons, List.flatten_nil, List.append_nil, List.flatten_append]
  refine List.perm_append_comm.trans ?_
  rw [List.append_assoc]
theorem Imp.tail1 {A : List Atom} {I : SH} : Imp (A :: I) I := by
  refine ⟨[A], ?_⟩
  simp only [Spl, List.flatten_cons, List.flatten_nil, List.append_nil]
  exact List.perm_append_comm
theorem VC.seq_cond_t {P : Program} {n : Nat} {Γ : Env} {H : SH} {Q : Exit → Env → SH → Prop} {c : Operand} {x y z : IC} (hc : ev Γ c = some (.bool true)) (h : VC P n x Γ H (thenQ (fun Γ' H' => VC P n z Γ' H' Q) Q)) : VC P n (.seq (.cond c x y) z) Γ H Q := VC.seq (VC.cond_t hc h)
theorem VC.seq_cond_f {P : Program} {n : Nat} {Γ : Env} {H : SH} {Q : Exit → Env → SH → Prop} {c : Operand} {x y z : IC} (hc : ev Γ c = some (.bool false)) (h : VC P n y Γ H (thenQ (fun Γ' H' => VC P n z Γ' H' Q) Q)) : VC P n (.seq (.cond c x y) z) Γ H Q := VC.seq (VC.cond_f hc h)
theorem Imp.part {H R : SH} {A B C : List Atom} (ht : Tk H A R) (hp : A.Perm (B ++ C)) : Imp H [B] := by
  refine ⟨C :: R, ?_⟩
  simp only [Spl, List.flatten_cons, List.flatten_nil, List.append_nil]
  refine ht.perm.trans ?_
  rw [← List.append_assoc]
  exact hp.append_right _
end Go.V
namespace Go.V
open Go

abbrev vi (n : Int) : Value := .int .i64 n
abbrev ptr0 (b : Nat) : Value := .pointer (some ⟨b, 0, none⟩)

theorem Imp.cut {H M Δ : SH} (h : Imp H M) (k : Imp M Δ) : Imp H Δ := by
  obtain ⟨X, hX⟩ := h
  obtain ⟨Y, hY⟩ := k
  refine ⟨Y ++ X, ?_⟩
  simp only [Spl, List.flatten_append] at *
  refine hX.trans ?_
  rw [← List.append_assoc]
  exact hY.append_right _

theorem Imp.fresh {H : SH} {A : List Atom} (h : A = [] := by rfl) : Imp H (A :: H) := by subst h; exact Imp.perm (by simp)

theorem Imp.app4 {A B C D : List Atom} {R : SH} : Imp ((A ++ (B ++ (C ++ D))) :: R) (A :: B :: C :: D :: R) := Imp.perm (by simp)

theorem Spl.tail1 {A : List Atom} {I : SH} : Spl (A :: I) I [A] := by
  simp only [Spl, List.flatten_cons, List.flatten_nil, List.append_nil]
  exact List.perm_append_comm

theorem Spl.right {A I : SH} : Spl (I ++ A) I A := by simp [Spl]

theorem Spl.mid {A : List Atom} {C S : SH} : Spl (A :: (C ++ S)) C (A :: S) := by
  simp only [Spl, List.flatten_cons, List.flatten_append]
  exact perm_lead _ _ _

theorem Imp.mid {A : List Atom} {C S : SH} : Imp (C ++ (A :: S)) (A :: (C ++ S)) := by
  refine Imp.perm ?_
  simp only [List.flatten_cons, List.flatten_append]
  exact perm_lead _ _ _

theorem Fun.conv {P : Program} {f : Nat} {args : List Value} {H Pre R : SH} {Q Q' : Value → SH → Prop} (h : Fun P f args Pre Q) (hs : Spl H Pre R) (hq : ∀ v Post, Q v Post → ∃ Post', Q' v Post' ∧ Imp (Post ++ R) Post') : Fun P f args H Q' := by
  refine ⟨h.1, fun F w hw => ?_⟩
  have hw' : Sat w (Pre.flatten ++ (R.flatten ++ F)) := by
    rw [← List.append_assoc]; exact hw.perm (List.Perm.append_right F hs)
  refine (h.2 (R.flatten ++ F) w hw').mono ?_
  rintro e w' ⟨v, Post, h1, h2, h3, h4⟩
  obtain ⟨Post', h5, h6⟩ := hq v Post h2
  refine ⟨v, Post', h1, h5, Sat.imp h6 ?_, h4⟩
  rw [List.flatten_append, List.append_assoc]; exact h3

theorem Imp.back {A I : SH} : Imp (I ++ A) (A ++ I) := Imp.perm (by simp only [List.flatten_append]; exact List.perm_append_comm)

theorem Imp.back1 {A : List Atom} {I : SH} : Imp (I ++ [A]) (A :: I) := Imp.back (A := [A])

theorem Imp.head {A : List Atom} {I : SH} : Imp (A :: I) [A] := ⟨I, by simp [Spl]⟩

theorem st_loadA {P : Program} {n : Nat} {rs : List RO} {Γ : Env} {H : SH} {Z : List PanicEntry → Env → SH → Prop} {K : Env → SH → Prop} {d : Option Nat} {m : Nat} {x : Operand} {b o : Nat} {us : List Value} (hx : ev Γ x = some (.pointer (some ⟨b, o, none⟩))) (hm : ∀ a ∈ cellsAt b o us, a ∈ H.flatten) (hn : us.length = m) (h : VO P n rs (putE d (.agg us.toArray) Γ) H Z K) : VO P n (⟨d, none, .loadN m x⟩ :: rs) Γ H Z K :=
  VO.read rfl rfl (fun ρ hρ => ⟨_, rfl, fun F w hs => by
    simp [hρ _ _ hx, Instr.sureAddr, run_loadCells hn hm hs]⟩) h

theorem Fun.flat {P : Program} {f : Nat} {args : List Value} {Pre : SH} {Q : Value → SH → Prop} (h : Fun P f args Pre Q) : Fun P f args [Pre.flatten] (fun v Post => ∃ Post', Q v Post' ∧ Post = [Post'.flatten]) := by
  refine h.conv (R := []) (by simp [V.Spl]) (fun v Post hq => ⟨_, ⟨Post, hq, rfl⟩, Imp.perm (by simp)⟩)

theorem st_extL {P : Program} {n : Nat} {rs : List RO} {Γ : Env} {H : SH} {Z : List PanicEntry → Env → SH → Prop} {K : Env → SH → Prop} {d : Option Nat} {i : Nat} {x : Operand} {l : List Value} {v : Value} (hx : ev Γ x = some (.tuple l.toArray)) (hi : l[i]? = some v) (h : VO P n rs (putE d v Γ) H Z K) : VO P n (⟨d, none, .ext x i⟩ :: rs) Γ H Z K :=
  VO.pure rfl (fun ρ hρ => by simp [pureV, hρ _ _ hx, hi]) h

/-- What is wanted just where a test is true that was itself not wanted: it is not. -/
theorem st_gu {P : Program} {n : Nat} {rs : List RO} {Γ : Env} {H : SH} {Z : List PanicEntry → Env → SH → Prop} {K : Env → SH → Prop} {d : Option Nat} {r : R} {s : Nat} {b : Bool} (hs : look Γ s = some undef) (h : VO P n rs (putE d undef Γ) H Z K) : VO P n (⟨d, some (s, b), r⟩ :: rs) Γ H Z K := by
  intro l hl a w F ZZ Q ha hsat hq hz
  obtain ⟨o, l', rfl, hl', ops, ho⟩ := low_cons hl
  obtain ⟨g1, g2, g3, g4⟩ := lowRO_spec ho
  have hw : wantedR (some (s, b)) a = false := by simp [wantedR, ha.slots _ _ hs, undef]
  show wpR1 P ZZ (⟨d, some (s, b), r⟩, o) (wpR P ZZ Q l') a w
  unfold wpR1
  rw [if_neg (by simp [hw])]
  exact h l' hl' _ w F ZZ Q (ha.putE g3 undef) hsat (fun a2 w2 Γ2 H2 k1 k2 k3 k4 k5 => hq a2 w2 Γ2 H2 k1 k2 (k3.trans (put_defers ..)) k4 k5) (fun ch a2 w2 Γ2 H2 k1 k2 k3 k4 k5 => hz ch a2 w2 Γ2 H2 k1 k2 (k3.trans (put_defers ..)) k4 k5)

/-- A proof that is still to come. -/
structure Later (R : Prop) : Prop where
  out : R

theorem GO {R G : Prop} (r : R) (h : Later R → G := by
  intro later
  (repeat (first
      | (first
    | (apply st_gt; rfl)
    | (apply st_gf; rfl; rfl)
    | (apply st_gu; rfl)
    | (apply st_mv; rfl)
    | (apply st_nil; rfl)
    | (apply st_pick_t; rfl; rfl)
    | (apply st_pick_f; rfl; rfl)
    | (apply st_fld; rfl; ((try simp only [Nat.zero_add, Nat.add_zero, Nat.reduceAdd, Nat.reduceMul, Nat.add_assoc, Int.toNat_natCast, Nat.mul_one]); rfl))
    | (apply st_load1; rfl; (focus ((repeat (first | (apply Has.cells; omega; rfl) | apply Has.there)); done)))
    | (apply st_load1; rfl; (focus ((repeat (first | (apply Has.among; assumption) | apply Has.there)); done)))
    | (apply st_loadM; rfl; (focus ((repeat (first | (apply HasM.cells; omega; (focus (simp only [List.length_cons, List.length_nil, Nat.reduceAdd, Nat.zero_add, Nat.reduceSub, Nat.sub_self, Nat.reduceLeDiff, Nat.le_refl]; done)); (focus (simp only [lnb, Value.cells, Nat.zero_add, Nat.reduceEqDiff, ↓reduceIte, eq_self, Nat.reduceAdd, Nat.reduceSub, Nat.sub_self, Nat.reduceLeDiff, Nat.le_refl, and_self, rep, zeroRow] <;> rfl)); rfl) | apply HasM.there)); done)))
    | (apply st_extL; rfl; rfl)
    | (apply st_ext; rfl; rfl)
    | (apply st_add; rfl; rfl; omega)
    | (apply st_sub; rfl; rfl; omega)
    | (apply st_mul; rfl; rfl; omega)
    | (apply st_rem; rfl; rfl; decide)
    | (apply st_idxL; rfl; rfl; omega; ((try simp only [Nat.zero_add, Nat.add_zero, Nat.reduceAdd, Nat.reduceMul, Nat.add_assoc, Int.toNat_natCast, Nat.mul_one]); rfl))
    | (apply st_idxA; rfl; rfl; omega; ((try simp only [Nat.zero_add, Nat.add_zero, Nat.reduceAdd, Nat.reduceMul, Nat.add_assoc, Int.toNat_natCast, Nat.mul_one]); rfl))
    | (apply st_build; rfl; (focus (simp only [lnb, Value.cells, Nat.zero_add, Nat.reduceEqDiff, ↓reduceIte, eq_self, Nat.reduceAdd, Nat.reduceSub, Nat.sub_self, Nat.reduceLeDiff, Nat.le_refl, and_self, rep, zeroRow] <;> rfl)))
    | (apply st_store'; rfl; rfl; (focus (simp only [lnb, Value.cells, Nat.zero_add, Nat.reduceEqDiff, ↓reduceIte, eq_self, Nat.reduceAdd, Nat.reduceSub, Nat.sub_self, Nat.reduceLeDiff, Nat.le_refl, and_self, rep, zeroRow] <;> rfl)); rfl; rfl; (focus ((repeat (first | (apply Upd.cells; omega; (focus (simp only [List.length_cons, List.length_nil, Nat.reduceAdd, Nat.zero_add, Nat.reduceSub, Nat.sub_self, Nat.reduceLeDiff, Nat.le_refl]; done)); (focus (simp only [lnb, Value.cells, Nat.zero_add, Nat.reduceEqDiff, ↓reduceIte, eq_self, Nat.reduceAdd, Nat.reduceSub, Nat.sub_self, Nat.reduceLeDiff, Nat.le_refl, and_self, rep, zeroRow] <;> rfl))) | apply Upd.there)); done)))
    | (apply st_pure; rfl; rfl; rfl))
      | (refine VO.nil ?_; simp only [V.argsEnv, V.restr, V.look, V.putE, V.thenQ, V.blockQ, Nat.zero_add, Nat.reduceAdd, Nat.reduceEqDiff, ↓reduceIte, eq_self])
      | refine VC.seq_reg ?_
      | refine VC.seq_draw1 ?_
      | refine VC.seq_seq ?_
      | refine VC.seq_block ?_
      | refine VC.seq_skip ?_
      | refine VC.reg ?_
      | refine VC.draw1 ?_
      | refine VC.block ?_
      | (refine VC.skip ?_; simp only [V.argsEnv, V.restr, V.look, V.putE, V.thenQ, V.blockQ, Nat.zero_add, Nat.reduceAdd, Nat.reduceEqDiff, ↓reduceIte, eq_self])
      | (refine VC.exit ?_; simp only [V.argsEnv, V.restr, V.look, V.putE, V.thenQ, V.blockQ, Nat.zero_add, Nat.reduceAdd, Nat.reduceEqDiff, ↓reduceIte, eq_self])
      | (refine VC.ret ?_; try simp only [V.thenQ, V.blockQ])
      | (apply VC.seq_cond_t; rfl)
      | (apply VC.seq_cond_f; rfl)
      | (apply VC.cond_t; rfl)
      | (apply VC.cond_f; rfl)))
  exact later.out) : G := h ⟨r⟩
end Go.V

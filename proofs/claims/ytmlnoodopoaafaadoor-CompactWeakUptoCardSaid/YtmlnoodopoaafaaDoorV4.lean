/-
  Triples over lowered code: what the slots hold (a list), what memory holds (a list of items), and what follows.
-/
import Derived.Test.YtmlnoodopoaafaaDoorV3
set_option linter.unusedSimpArgs false
set_option linter.unusedVariables false
namespace Go.V
open Go
abbrev Env := List (Nat × Value)
abbrev SH := List (List Atom)
def look : Env → Nat → Option Value
  | [], _ => none
  | (s, v) :: r, t => if s = t then some v else look r t
def ev (Γ : Env) : Operand → Option Value
  | .tmp t => look Γ t
  | .const v => some v
  | .global g => some (.pointer (some ⟨g, 0, none⟩))
  | .func f => some (.func (.func f) #[] #[])
def evs (Γ : Env) : List Operand → Option (List Value)
  | [] => some []
  | x :: r => match ev Γ x, evs Γ r with
    | some v, some l => some (v :: l)
    | _, _ => none
structure Agree (n : Nat) (Γ : Env) (a : Act) : Prop where
  size : a.tmps.size = n
  slots : ∀ t v, look Γ t = some v → a.tmps[t]? = some v
def Sub (Γ Δ : Env) : Prop := ∀ t v, look Δ t = some v → look Γ t = some v
theorem Agree.sub {n : Nat} {Γ Δ : Env} {a : Act} (h : Agree n Γ a) (s : Sub Γ Δ) : Agree n Δ a := ⟨h.size, fun t v e => h.slots t v (s t v e)⟩
theorem Agree.put {n : Nat} {Γ : Env} {a : Act} (h : Agree n Γ a) {d : Nat} (hd : d < n) (v : Value) : Agree n ((d, v) :: Γ) (a.put (some d) v) := by
  refine ⟨by simp [Act.put, h.size], fun t u e => ?_⟩
  simp only [look] at e
  split at e
  · rename_i hd'
    subst hd'
    cases e
    simp [Act.put, h.size, hd]
  · rename_i hne
    simp only [Act.put, Array.getElem?_setIfInBounds_ne hne]
    exact h.slots t u e
theorem Agree.ev {n : Nat} {Γ : Env} {a : Act} (h : Agree n Γ a) {x : Operand} {v : Value} (e : ev Γ x = some v) : a.eval x = v := by
  cases x with
  | tmp t => simp only [V.ev] at e; simp [Act.eval, Array.getD_eq_getD_getElem?, h.slots t v e]
  | const u => simpa [V.ev, Act.eval] using e
  | global g => simpa [V.ev, Act.eval] using e
  | func f => simpa [V.ev, Act.eval] using e
theorem Agree.evs {n : Nat} {Γ : Env} {a : Act} (h : Agree n Γ a) : ∀ {l : List Operand} {vs : List Value}, evs Γ l = some vs → l.map a.eval = vs := by
  intro l
  induction l with
  | nil => intro vs e; simp [V.evs] at e; subst e; rfl
  | cons x r ih =>
    intro vs e
    simp only [V.evs] at e
    split at e
    · rename_i v l hv hl; cases e; simp [h.ev hv, ih hl]
    · cases e
def putE (d : Option Nat) (v : Value) (Γ : Env) : Env := match d with | some d => (d, v) :: Γ | none => Γ
theorem Agree.putE {n : Nat} {Γ : Env} {a : Act} (h : Agree n Γ a) {d : Option Nat} (hd : ∀ t, d = some t → t < n) (v : Value) : Agree n (V.putE d v Γ) (a.put d v) := by
  cases d with
  | none => exact h
  | some d => exact h.put (hd d rfl) v
def LowAll (P : Program) (n : Nat) (rs : List RO) (l : List (RO × Oper)) : Prop := l.map (·.1) = rs ∧ ∀ x ∈ l, ∃ ops, lowRO P n ops x.2 = some x.1
theorem put_defers (a : Act) (d : Option Nat) (v : Value) : (a.put d v).defers = a.defers := by cases d <;> rfl
def VO (P : Program) (n : Nat) (rs : List RO) (Γ : Env) (H : SH) (Z : List PanicEntry → Env → SH → Prop) (K : Env → SH → Prop) : Prop :=
  ∀ l, LowAll P n rs l → ∀ a w F (ZZ : Exit → Act → World → Prop) (Q : Act → World → Prop), Agree n Γ a → Sat w (H.flatten ++ F) →
    (∀ a' w' Γ' H', K Γ' H' → Agree n Γ' a' → a'.defers = a.defers → Sat w' (H'.flatten ++ F) → Keeps w w' → Q a' w') →
    (∀ ch a' w' Γ' H', Z ch Γ' H' → Agree n Γ' a' → a'.defers = a.defers → Sat w' (H'.flatten ++ F) → Keeps w w' → ZZ (.panic ch) a' w') → wpR P ZZ Q l a w
def Fun (P : Program) (f : Nat) (args : List Value) (Pre : SH) (Q : Value → SH → Prop) : Prop :=
  callable P f = true ∧ ∀ F w, Sat w (Pre.flatten ++ F) →
    Calls P f args.toArray w fun e w' => ∃ v Post, e = .returned v ∧ Q v Post ∧ Sat w' (Post.flatten ++ F) ∧ Keeps w w'
def Spl (H Pre R : SH) : Prop := H.flatten.Perm (Pre.flatten ++ R.flatten)
section
variable {P : Program} {n : Nat} {rs : List RO} {Γ Δ : Env} {H : SH} {Z : List PanicEntry → Env → SH → Prop} {K : Env → SH → Prop}
theorem VO.nil (h : K Γ H) : VO P n [] Γ H Z K := by
  intro l hl a w F ZZ Q ha hs hq hz
  obtain rfl : l = [] := by simpa using hl.1
  exact hq a w Γ H h ha rfl hs (.refl w)
theorem VO.sub (s : Sub Γ Δ) (h : VO P n rs Δ H Z K) : VO P n rs Γ H Z K := fun l hl a w F ZZ Q ha hs hq hz => h l hl a w F ZZ Q (ha.sub s) hs hq hz
theorem VO.perm {H' : SH} (p : H.flatten.Perm H'.flatten) (h : VO P n rs Γ H' Z K) : VO P n rs Γ H Z K := fun l hl a w F ZZ Q ha hs hq hz => h l hl a w F ZZ Q ha (hs.perm (p.append_right F)) hq hz
theorem VO.mono {K' : Env → SH → Prop} (h : VO P n rs Γ H Z K) (hk : ∀ Γ H, K Γ H → K' Γ H) : VO P n rs Γ H Z K' := fun l hl a w F ZZ Q ha hs hq hz => h l hl a w F ZZ Q ha hs (fun a' w' Γ' H' k => hq a' w' Γ' H' (hk _ _ k)) hz
theorem low_cons {r : RO} {l : List (RO × Oper)} (h : LowAll P n (r :: rs) l) : ∃ o l', l = (r, o) :: l' ∧ LowAll P n rs l' ∧ ∃ ops, lowRO P n ops o = some r := by
  obtain ⟨h1, h2⟩ := h
  cases l with
  | nil => simp at h1
  | cons x l =>
    simp at h1
    obtain ⟨rfl, h1⟩ := h1
    exact ⟨x.2, l, rfl, ⟨h1, fun y hy => h2 y (by simp [hy])⟩, h2 x (by simp)⟩
theorem VO.pure {d : Option Nat} {r : R} {v : Value} (hp : isPure r = true) (hv : ∀ ρ : Operand → Value, (∀ x u, ev Γ x = some u → ρ x = u) → pureV ρ r = some v) (h : VO P n rs (putE d v Γ) H Z K) : VO P n (⟨d, none, r⟩ :: rs) Γ H Z K := by
  intro l hl a w F ZZ Q ha hs hq hz
  obtain ⟨o, l', rfl, hl', ops, ho⟩ := low_cons hl
  obtain ⟨g1, g2, g3, g4⟩ := lowRO_spec ho
  show wpR1 P ZZ (_, o) (wpR P ZZ Q l') a w
  unfold wpR1
  simp only [wantedR, hp, if_true]
  exact ⟨v, hv a.eval (fun x u e => ha.ev e), h l' hl' _ w F ZZ Q (ha.putE g3 v) hs (fun a2 w2 Γ2 H2 k1 k2 k3 k4 k5 => hq a2 w2 Γ2 H2 k1 k2 (k3.trans (put_defers ..)) k4 k5) (fun ch a2 w2 Γ2 H2 k1 k2 k3 k4 k5 => hz ch a2 w2 Γ2 H2 k1 k2 (k3.trans (put_defers ..)) k4 k5)⟩
theorem VO.read {d : Option Nat} {r : R} {v : Value} (hp : isPure r = false) (hr : isRead r = true) (hv : ∀ ρ : Operand → Value, (∀ x u, ev Γ x = some u → ρ x = u) → ∃ s, memS ρ r = some s ∧ ∀ F w, Sat w (H.flatten ++ F) → s.run P w = .ok (.value v) w)
    (h : VO P n rs (putE d v Γ) H Z K) : VO P n (⟨d, none, r⟩ :: rs) Γ H Z K := by
  intro l hl a w F ZZ Q ha hs hq hz
  obtain ⟨o, l', rfl, hl', ops, ho⟩ := low_cons hl
  obtain ⟨g1, g2, g3, g4⟩ := lowRO_spec ho
  show wpR1 P ZZ (_, o) (wpR P ZZ Q l') a w
  unfold wpR1
  obtain ⟨s, h1, h2⟩ := hv a.eval (fun x u e => ha.ev e)
  simp only [wantedR, hp, hr, if_true, Bool.false_eq_true, if_false]
  exact ⟨s, v, h1, fun w2 e2 => h2 F w2 (hs.ext e2), h l' hl' _ w F ZZ Q (ha.putE g3 v) hs (fun a2 w2 Γ2 H2 k1 k2 k3 k4 k5 => hq a2 w2 Γ2 H2 k1 k2 (k3.trans (put_defers ..)) k4 k5) (fun ch a2 w2 Γ2 H2 k1 k2 k3 k4 k5 => hz ch a2 w2 Γ2 H2 k1 k2 (k3.trans (put_defers ..)) k4 k5)⟩
theorem ext_push {w : World} (o : Obj) : Ext w { w with heap := w.heap.push o } := fun i x h => by
  have hl := (Array.getElem?_eq_some_iff.1 h).1
  show (w.heap.push o)[i]? = _
  rw [Array.getElem?_push, if_neg (Nat.ne_of_lt hl)]; exact h
theorem ext_freeze {w : World} {a : Addr} {n : Nat} (h : w.heap.size ≤ a.block) : ∀ {w' : World}, Ext w w' → Ext w (w'.freeze a n) := by
  intro w' e i o hi
  have hl := (Array.getElem?_eq_some_iff.1 hi).1
  unfold World.freeze
  split
  · exact e _ _ hi
  · have := e _ _ hi
    simp only [Array.getElem?_modify, this, if_neg (show ¬ a.block = i by omega)]
theorem run_new_ext {w w' : World} {c : Array Value} {t : TypeId} {f : Nat → Next} {nx : Next} (h : (do let b ← Go.newObj (.cells c t); pure (f b) : Sem Next).run P w = .ok nx w') : nx = f w.heap.size ∧ Ext w w' := by
  simp only [Go.newObj, Sem.run_bind, Sem.run, Sem.run_pure, Result.andThen_ok] at h
  cases h
  exact ⟨rfl, ext_push _⟩
theorem run_s2b_ext {w w' : World} {t : TypeId} {s : ByteArray} {v : Value} (h : (Conv.stringToBytes t s).run P w = .ok v w') : Ext w w' := by
  unfold Conv.stringToBytes at h
  rw [Sem.run_bind] at h
  obtain ⟨cap, w1, h1, h2⟩ := andThen_ok_of h
  have e1 : w1.heap = w.heap := by
    simp only [Go.choose, Sem.run] at h1
    split at h1 <;> (cases h1; rfl)
  have x1 : Ext w w1 := fun i o e => by rw [e1]; exact e
  refine x1.trans ?_
  rw [Sem.run_bind] at h2
  obtain ⟨a, w2, h3, h4⟩ := andThen_ok_of h2
  have h3' : a = ⟨w1.heap.size, 0, none⟩ ∧ w2 = { w1 with heap := w1.heap.push (.cells (s.data.map (fun b => Value.int .u8 b.toNat) ++ Array.replicate (cap - s.size) (.int .u8 0)) t) } := by
    simp only [newRow, Go.newObj, Sem.run_bind, Sem.run, Sem.run_pure, Result.andThen_ok] at h3
    cases h3; exact ⟨rfl, rfl⟩
  obtain ⟨rfl, rfl⟩ := h3'
  rw [Sem.run_bind] at h4
  obtain ⟨_, w3, h5, h6⟩ := andThen_ok_of h4
  rw [Sem.run_pure] at h6
  cases h6
  unfold markStringish at h5
  rw [Sem.run_bind] at h5
  simp only [Go.shape, Sem.run, Result.andThen_ok] at h5
  split at h5
  · simp only [Go.freeze, Sem.run] at h5
    cases h5
    exact ext_freeze (Nat.le_refl _) (ext_push _)
  · rw [Sem.run_pure] at h5
    cases h5
    exact ext_push _
theorem loadFrom_any {P : Program} {a : Addr} : ∀ (k i : Nat) (acc : Array Value) (w1 : World) (r : Array Value) (w2 : World), (loadCellsFrom a i k acc).run P w1 = .ok r w2 → w2 = w1 := by
  intro k
  induction k with
  | zero => intro i acc w1 r w2 h; simp [loadCellsFrom] at h; exact h.2.symm
  | succ k ih =>
    intro i acc w1 r w2 h
    simp only [loadCellsFrom, Sem.run_bind] at h
    obtain ⟨v, w3, h1, h2⟩ := andThen_ok_of h
    have hw : w3 = w1 := by
      simp only [Go.load, Sem.run] at h1
      split at h1
      · cases h1; rfl
      · split at h1 <;> cases h1; rfl
    rw [ih _ _ _ _ _ h2, hw]
theorem first_same {P : Program} {size n : Nat} {x : Value} {w w' : World} {c : Array Value} (h : (Builtin.firstCells size n x).run P w = .ok c w') : w' = w := by
  unfold Builtin.firstCells at h
  split at h
  · exact loadFrom_any _ _ _ _ _ _ h
  · rw [Sem.run_pure] at h; cases h; rfl
  · rw [Sem.run_pure] at h; cases h; rfl
  · simp [stuck, Sem.run] at h
theorem memS_new {ρ : Operand → Value} {r : R} {s : Sem Next} {w w' : World} {nx : Next} (hρ : ∀ u, ρ (.const u) = u) (hn : isNew r = true) (hs : memS ρ r = some s) (h : s.run P w = .ok nx w') : ∃ u, nx = .value u ∧ Ext w w' := by
  cases r
  case append t size bytes zero sx x =>
    have e : sx = .const (.slice none 0 0) := by
      unfold isNew at hn
      split at hn <;> first | (rename_i e; cases e; done) | (rename_i e; cases e; rfl) | cases hn
    subst e
    simp only [memS, hρ, Option.some.injEq] at hs
    subst hs
    cases hm : seqLen (ρ x) with
    | none => rw [hm] at h; simp [stuck, Sem.run] at h
    | some m =>
      rw [hm] at h
      simp only at h
      split at h
      · rw [Sem.run_bind] at h
        obtain ⟨c, w1, h1, h2⟩ := andThen_ok_of h
        rw [first_same h1] at h2
        simp only [Sem.run_bind, Sem.run_pure, Result.andThen_ok] at h2
        cases h2
        exact ⟨_, rfl, .refl _⟩
      · split at h
        · simp [stuck, Sem.run] at h
        · rw [Sem.run_bind] at h
          obtain ⟨cap, w1, h1, h2⟩ := andThen_ok_of h
          have e1 : w1.heap = w.heap := by
            simp only [Go.choose, Sem.run] at h1
            split at h1 <;> (cases h1; rfl)
          have x1 : Ext w w1 := fun i o e => by rw [e1]; exact e
          rw [Sem.run_bind] at h2
          obtain ⟨old, w2, h3, h4⟩ := andThen_ok_of h2
          rw [first_same h3] at h4
          rw [Sem.run_bind] at h4
          obtain ⟨new, w3, h5, h6⟩ := andThen_ok_of h4
          rw [first_same h5] at h6
          obtain ⟨rfl, e⟩ := run_new_ext h6
          exact ⟨_, rfl, x1.trans e⟩
  all_goals simp only [isNew] at hn
  all_goals first | (cases hn; done) | skip
  all_goals (simp only [memS, Option.some.injEq] at hs; subst hs)
  case alloc => obtain ⟨rfl, e⟩ := run_new_ext h; exact ⟨_, rfl, e⟩
  case box => obtain ⟨rfl, e⟩ := run_new_ext h; exact ⟨_, rfl, e⟩
  case bslice =>
    split at h
    · obtain ⟨rfl, e⟩ := run_new_ext h; exact ⟨_, rfl, e⟩
    · simp [stuck, Sem.run] at h
  case mkmap =>
    simp only [Go.newObj, Sem.run_bind, Sem.run, Sem.run_pure, Result.andThen_ok] at h
    cases h
    exact ⟨_, rfl, ext_push _⟩
  case s2b =>
    split at h
    · rw [Sem.run_bind] at h
      obtain ⟨v, w1, h1, h2⟩ := andThen_ok_of h
      rw [Sem.run_pure] at h2
      cases h2
      exact ⟨_, rfl, run_s2b_ext h1⟩
    · simp [stuck, Sem.run] at h
theorem VO.act {d : Option Nat} {r : R} (hp : isPure r = false) (hr : isRead r = false)
    (hv : ∀ ρ : Operand → Value, (∀ x u, ev Γ x = some u → ρ x = u) → ∃ s, memS ρ r = some s ∧ SWP P s H.flatten fun nx L => ∃ v H', (nx = .value v ∨ (nx = .skip ∧ v = undef)) ∧ L.Perm H'.flatten ∧ VO P n rs (putE d v Γ) H' Z K) :
    VO P n (⟨d, none, r⟩ :: rs) Γ H Z K := by
  intro l hl a w F ZZ Q ha hs hq hz
  obtain ⟨o, l', rfl, hl', ops, ho⟩ := low_cons hl
  obtain ⟨g1, g2, g3, g4⟩ := lowRO_spec ho
  show wpR1 P ZZ (_, o) (wpR P ZZ Q l') a w
  unfold wpR1
  obtain ⟨s, h1, h2⟩ := hv a.eval (fun x u e => ha.ev e)
  simp only [wantedR, hp, hr, if_true, Bool.false_eq_true, if_false]
  obtain ⟨nx, w', L, hrun, ⟨v, H', hnx, hL, hvo⟩, hs', hk⟩ := h2 F w hs
  have hrun' := mem_sound (eval_const a) g1 h1 hrun
  refine ⟨fun hn => ?_, ?_⟩
  · obtain ⟨u, hu, hext⟩ := memS_new (eval_const a) hn h1 hrun
    exact ⟨u, w', by rw [hrun', hu], hext⟩
  have fin : wpR P ZZ Q l' (a.put o.dst v) w' := by
    rw [← g2]
    exact hvo l' hl' _ w' F ZZ Q (ha.putE g3 v) (hs'.perm (hL.append_right F)) (fun a2 w2 Γ2 H2 k1 k2 k3 k4 k5 => hq a2 w2 Γ2 H2 k1 k2 (k3.trans (put_defers ..)) k4 (hk.trans k5)) (fun ch a2 w2 Γ2 H2 k1 k2 k3 k4 k5 => hz ch a2 w2 Γ2 H2 k1 k2 (k3.trans (put_defers ..)) k4 (hk.trans k5))
  rcases hnx with rfl | ⟨rfl, rfl⟩
  · simpa only [wpV, hrun', uponV] using fin
  · simpa only [wpV, hrun', uponV] using fin
theorem VO.act' {d : Option Nat} {r : R} (hp : isPure r = false) (hr : isRead r = false)
    (hv : ∀ ρ : Operand → Value, (∀ x u, ev Γ x = some u → ρ x = u) → ∃ s, memS ρ r = some s ∧ SWP P s H.flatten fun nx L => ∃ v H' X, (nx = .value v ∨ (nx = .skip ∧ v = undef)) ∧ L.Perm (List.flatten H' ++ X) ∧ VO P n rs (putE d v Γ) H' Z K) :
    VO P n (⟨d, none, r⟩ :: rs) Γ H Z K := by
  refine VO.act hp hr (fun ρ hρ => ?_)
  obtain ⟨s, h1, h2⟩ := hv ρ hρ
  refine ⟨s, h1, fun F w hs => ?_⟩
  obtain ⟨nx, w', L, k1, ⟨v, H', X, k2, k3, k4⟩, k5, k6⟩ := h2 F w hs
  refine ⟨nx, w', H'.flatten, k1, ⟨v, H', k2, .refl _, k4⟩, ?_, k6⟩
  have := k5.perm (k3.append_right F)
  rw [List.append_assoc] at this
  exact this.sub ((List.Sublist.refl _).append (List.sublist_append_right _ _))
theorem run_callFunc {f : Nat} {args : Array Value} {w : World} (h : callable P f = true) : (callFunc f args).run P w = .ok (.enter f args) w := by
  unfold callable at h
  split at h
  · rename_i fn hf
    simp only [Bool.and_eq_true, bne_iff_ne] at h
    obtain ⟨c, hc⟩ := Option.isSome_iff_exists.1 h.2
    simp [callFunc, hf, h.1, hc]
  · cases h
theorem wp_call {o : Oper} {a : Act} {w : World} {f : Nat} {args : List Value} {next : Act → World → Prop} {ZZ : Exit → Act → World → Prop} (he : (execOp a.eval o).run P w = .ok (.enter f args.toArray) w)
    (h : Calls P f args.toArray w fun e w' => (∃ v, e = .returned v ∧ next (a.put o.dst v) w') ∨ (∃ ch, e = .panicked ch ∧ ZZ (.panic ch) a w')) : wpV P o a w next ZZ := by
  simp only [wpV, he, uponV]
  refine h.mono ?_
  rintro e w' (⟨v, rfl, hn⟩ | ⟨ch, rfl, hn⟩)
  · exact hn
  · exact hn
theorem VO.call_aux {d : Option Nat} {r : R} {f : Nat} {args : List Value} {Pre R : SH} {Q : Value → SH → Prop} (hp : isPure r = false) (hr : isRead r = false) (hnw : isNew r = false)
    (hx : ∀ (a : Act) (w : World) (o : Oper), (∀ x u, ev Γ x = some u → a.eval x = u) → lowOp P o.op = some r → (execOp a.eval o).run P w = .ok (.enter f args.toArray) w)
    (hf : Fun P f args Pre Q) (hs : Spl H Pre R) (h : ∀ v Post, Q v Post → VO P n rs (putE d v Γ) (Post ++ R) Z K) : VO P n (⟨d, none, r⟩ :: rs) Γ H Z K := by
  intro l hl a w F ZZ Q' ha hsat hq hz
  obtain ⟨o, l', rfl, hl', ops, ho⟩ := low_cons hl
  obtain ⟨g1, g2, g3, g4⟩ := lowRO_spec ho
  show wpR1 P ZZ (_, o) (wpR P ZZ Q' l') a w
  unfold wpR1
  simp only [wantedR, hp, hr, if_true, Bool.false_eq_true, if_false]
  refine ⟨fun e => (by rw [hnw] at e; cases e), ?_⟩
  refine wp_call (hx a w o (fun x u e => ha.ev e) g1) ?_
  have hsat' : Sat w (Pre.flatten ++ (R.flatten ++ F)) := by
    rw [← List.append_assoc]; exact hsat.perm (hs.append_right F)
  refine (hf.2 (R.flatten ++ F) w hsat').mono ?_
  rintro e w' ⟨v, Post, rfl, hQ, hs', hk⟩
  refine .inl ⟨v, rfl, ?_⟩
  rw [← g2]
  refine h v Post hQ l' hl' _ w' F ZZ Q' (ha.putE g3 v) ?_ (fun a2 w2 Γ2 H2 k1 k2 k3 k4 k5 => hq a2 w2 Γ2 H2 k1 k2 (k3.trans (put_defers ..)) k4 (hk.trans k5)) (fun ch a2 w2 Γ2 H2 k1 k2 k3 k4 k5 => hz ch a2 w2 Γ2 H2 k1 k2 (k3.trans (put_defers ..)) k4 (hk.trans k5))
  rw [List.flatten_append, List.append_assoc]; exact hs'
theorem low_call {op : Op} {f : Nat} {xs : List Operand} (h : lowOp P op = some (.call f xs)) : ∃ c, op = .call c ∧ c.callee = .value (.func f) ∧ c.args.toList = xs ∧ callable P f = true := by
  cases op
  case call c =>
    refine ⟨c, rfl, ?_⟩
    obtain ⟨callee, args, ats⟩ := c
    simp only [lowOp] at h
    split at h
    · split at h
      · rename_i hc; cases h; exact ⟨rfl, rfl, hc⟩
      · cases h
    · cases h
    all_goals (repeat' split at h)
    all_goals first
      | (cases h; done)
      | (simp only [Option.map_eq_some_iff] at h; obtain ⟨_, _, h⟩ := h; cases h; done)
  all_goals (exfalso; try simp only [lowOp] at h)
  all_goals (repeat' split at h)
  all_goals first
    | (cases h; done)
    | (simp only [Option.map_eq_some_iff] at h; obtain ⟨_, _, h⟩ := h; cases h; done)
theorem low_callv {op : Op} {x : Operand} {xs : List Operand} (h : lowOp P op = some (.callv x xs)) : ∃ c, op = .call c ∧ c.callee = .value x ∧ c.args.toList = xs := by
  cases op
  case call c =>
    refine ⟨c, rfl, ?_⟩
    obtain ⟨callee, args, ats⟩ := c
    simp only [lowOp] at h
    split at h
    · split at h
      · cases h
      · cases h
    · cases h; exact ⟨rfl, rfl⟩
    all_goals (repeat' split at h)
    all_goals first
      | (cases h; done)
      | (simp only [Option.map_eq_some_iff] at h; obtain ⟨_, _, h⟩ := h; cases h; done)
  all_goals (exfalso; try simp only [lowOp] at h)
  all_goals (repeat' split at h)
  all_goals first
    | (cases h; done)
    | (simp only [Option.map_eq_some_iff] at h; obtain ⟨_, _, h⟩ := h; cases h; done)
theorem VO.call {d : Option Nat} {f : Nat} {xs : List Operand} {args : List Value} {Pre R : SH} {Q : Value → SH → Prop} (hf : Fun P f args Pre Q) (he : evs Γ xs = some args) (hs : Spl H Pre R)
    (h : ∀ v Post, Q v Post → VO P n rs (putE d v Γ) (Post ++ R) Z K) : VO P n (⟨d, none, .call f xs⟩ :: rs) Γ H Z K := by
  refine VO.call_aux rfl rfl rfl (fun a w o ha hl => ?_) hf hs h
  obtain ⟨c, h1, h2, h3, h4⟩ := low_call hl
  have hm : xs.map a.eval = args := by
    have : ∀ {l : List Operand} {vs : List Value}, evs Γ l = some vs → l.map a.eval = vs := by
      intro l
      induction l with
      | nil => intro vs e; simp [evs] at e; subst e; rfl
      | cons x r ih =>
        intro vs e
        simp only [evs] at e
        split at e
        · rename_i v l hv hl; cases e; simp [ha _ _ hv, ih hl]
        · cases e
    exact this he
  have hargs : (c.args.map a.eval) = args.toArray := by
    apply Array.toList_inj.1; rw [Array.toList_map, h3, hm]
  simp [execOp, h1, resolve, h2, Act.eval, Deferred.ofValue, invoke, hargs, run_callFunc h4]
theorem VO.callv {d : Option Nat} {x : Operand} {f : Nat} {first cap : Array Value} {xs : List Operand} {args : List Value} {Pre R : SH} {Q : Value → SH → Prop} (hx : ev Γ x = some (.func (.func f) first cap))
    (hf : Fun P f (first.toList ++ args ++ cap.toList) Pre Q) (he : evs Γ xs = some args) (hs : Spl H Pre R)
    (h : ∀ v Post, Q v Post → VO P n rs (putE d v Γ) (Post ++ R) Z K) : VO P n (⟨d, none, .callv x xs⟩ :: rs) Γ H Z K := by
  refine VO.call_aux rfl rfl rfl (fun a w o ha hl => ?_) hf hs h
  obtain ⟨c, h1, h2, h3⟩ := low_callv hl
  have hm : xs.map a.eval = args := by
    have : ∀ {l : List Operand} {vs : List Value}, evs Γ l = some vs → l.map a.eval = vs := by
      intro l
      induction l with
      | nil => intro vs e; simp [evs] at e; subst e; rfl
      | cons x r ih =>
        intro vs e
        simp only [evs] at e
        split at e
        · rename_i v l hv hl; cases e; simp [ha _ _ hv, ih hl]
        · cases e
    exact this he
  have hargs : (c.args.map a.eval) = args.toArray := by
    apply Array.toList_inj.1; rw [Array.toList_map, h3, hm]
  have hall : first ++ args.toArray ++ cap = (first.toList ++ args ++ cap.toList).toArray := by
    apply Array.toList_inj.1; simp
  rw [← hall]
  simp [execOp, h1, resolve, h2, ha _ _ hx, Deferred.ofValue, invoke, hargs]
  rw [run_callFunc hf.1]
end
inductive IC where
  | skip
  | reg (rs : List RO) (keep : List Nat)
  | draw (rss : List (List RO)) (keep : List Nat)
  | seq (a b : IC)
  | cond (c : Operand) (a b : IC)
  | block (id : Nat) (b : IC)
  | loop (b : IC)
  | exit (id : Nat)
  | ret
  | rangef (g : Operand) (ps : List Nat) (asg b : IC)
  | free (rs : List RO) (an : List (List Nat)) (keep : List Nat)
  | scope (b : IC)
  | label (l : Nat)
def lowList (P : Program) (n : Nat) (ops : Array Oper) : List Oper → Option (List RO)
  | [] => some []
  | o :: r => match lowRO P n ops o, lowList P n ops r with
    | some x, some l => some (x :: l)
    | _, _ => none
def lowC (P : Program) (n : Nat) (kp : Nat → List Nat) (od : Nat → List (List Nat)) : Code → Option IC
  | .skip => some .skip
  | .region id ops false => (lowList P n ops ops.toList).map fun rs => .reg rs (kp id)
  | .region id ops true =>
    match lowList P n ops ops.toList with
    | some rs => if (od id).isEmpty then (if P.follows .mixedOrders && backEdges ops then some (.free rs (ancs ops) (kp id)) else none) else
      if P.follows .mixedOrders && coverB (rs.zip ops.toList) ops (od id) then some (.draw ((od id).map fun o => o.map fun i => rs.getD i default) (kp id)) else none
    | none => none
  | .seq a b => match lowC P n kp od a, lowC P n kp od b with
    | some x, some y => some (.seq x y)
    | _, _ => none
  | .cond c a b => match lowC P n kp od a, lowC P n kp od b with
    | some x, some y => some (.cond c x y)
    | _, _ => none
  | .block id b => (lowC P n kp od b).map (IC.block id)
  | .loop b => (lowC P n kp od b).map IC.loop
  | .exit id => some (.exit id)
  | .ret => some .ret
  | .rangeFunc g ps x b => match lowC P n kp od x, lowC P n kp od b with
    | some x, some y => if ps.all (· < n) then some (.rangef g ps.toList x y) else none
    | _, _ => none
  | .scope b => (lowC P n kp od b).map IC.scope
  | .label l => some (.label l)
  | _ => none
def LowInv (P : Program) (n : Nat) (kp : Nat → List Nat) (od : Nat → List (List Nat)) : IC → Code → Prop
  | .skip, code => code = .skip
  | .reg rs keep, code => ∃ id ops, code = .region id ops false ∧ lowList P n ops ops.toList = some rs ∧ keep = kp id
  | .draw rss keep, code => ∃ id ops rs, code = .region id ops true ∧ lowList P n ops ops.toList = some rs ∧ P.follows .mixedOrders = true ∧ coverB (rs.zip ops.toList) ops (od id) = true ∧ rss = ((od id).map fun o => o.map fun i => rs.getD i default) ∧ keep = kp id
  | .free rs an keep, code => ∃ id ops, code = .region id ops true ∧ lowList P n ops ops.toList = some rs ∧ P.follows .mixedOrders = true ∧ backEdges ops = true ∧ an = ancs ops ∧ keep = kp id
  | .seq x y, code => ∃ a b, code = .seq a b ∧ lowC P n kp od a = some x ∧ lowC P n kp od b = some y
  | .cond c x y, code => ∃ a b, code = .cond c a b ∧ lowC P n kp od a = some x ∧ lowC P n kp od b = some y
  | .block id x, code => ∃ a, code = .block id a ∧ lowC P n kp od a = some x
  | .loop x, code => ∃ a, code = .loop a ∧ lowC P n kp od a = some x
  | .exit id, code => code = .exit id
  | .ret, code => code = .ret
  | .rangef g ps x y, code => ∃ qs a b, code = .rangeFunc g qs a b ∧ qs.toList = ps ∧ (∀ t ∈ ps, t < n) ∧ lowC P n kp od a = some x ∧ lowC P n kp od b = some y
  | .scope x, code => ∃ a, code = .scope a ∧ lowC P n kp od a = some x
  | .label l, code => code = .label l
theorem lowC_inv {P : Program} {n : Nat} {kp : Nat → List Nat} {od : Nat → List (List Nat)} {code : Code} {c : IC} (h : lowC P n kp od code = some c) : LowInv P n kp od c code := by
  cases code with
  | skip => simp only [lowC] at h; cases h; rfl
  | region id ops b =>
    cases b
    · simp only [lowC, Option.map_eq_some_iff] at h
      obtain ⟨rs, h1, rfl⟩ := h
      exact ⟨id, ops, rfl, h1, rfl⟩
    · simp only [lowC] at h
      split at h
      case h_2 => cases h
      rename_i rs h1
      split at h
      · split at h
        case isFalse => cases h
        rename_i hc
        simp only [Bool.and_eq_true] at hc
        cases h
        exact ⟨id, ops, rfl, h1, hc.1, hc.2, rfl, rfl⟩
      split at h
      case isFalse => cases h
      rename_i hc
      simp only [Bool.and_eq_true] at hc
      cases h
      exact ⟨id, ops, rs, rfl, h1, hc.1, hc.2, rfl, rfl⟩
  | seq a b =>
    simp only [lowC] at h
    split at h
    case h_2 => cases h
    rename_i x y h1 h2
    cases h; exact ⟨a, b, rfl, h1, h2⟩
  | cond q a b =>
    simp only [lowC] at h
    split at h
    case h_2 => cases h
    rename_i x y h1 h2
    cases h; exact ⟨a, b, rfl, h1, h2⟩
  | block id b =>
    simp only [lowC, Option.map_eq_some_iff] at h
    obtain ⟨x, h1, rfl⟩ := h
    exact ⟨b, rfl, h1⟩
  | loop b =>
    simp only [lowC, Option.map_eq_some_iff] at h
    obtain ⟨x, h1, rfl⟩ := h
    exact ⟨b, rfl, h1⟩
  | exit id => simp only [lowC] at h; cases h; rfl
  | ret => simp only [lowC] at h; cases h; rfl
  | rangeFunc g ps a b =>
    simp only [lowC] at h
    split at h
    case h_2 => cases h
    rename_i x y h1 h2
    split at h
    case isFalse => cases h
    rename_i hp
    cases h
    exact ⟨ps, a, b, rfl, rfl, fun t ht => by have := Array.all_eq_true_iff_forall_mem.1 hp t (by simpa using ht); simpa using this, h1, h2⟩
  | scope b =>
    simp only [lowC, Option.map_eq_some_iff] at h
    obtain ⟨x, h1, rfl⟩ := h
    exact ⟨b, rfl, h1⟩
  | label l => simp only [lowC] at h; cases h; rfl
  | _ => simp only [lowC] at h; cases h
def restr : List Nat → Env → Env
  | [], _ => []
  | t :: r, Γ => match look Γ t with
    | some v => (t, v) :: restr r Γ
    | none => restr r Γ
theorem sub_restr (k : List Nat) (Γ : Env) : Sub Γ (restr k Γ) := by
  induction k with
  | nil => intro t v h; simp [restr, look] at h
  | cons s r ih =>
    intro t v h
    simp only [restr] at h
    split at h
    · rename_i u hu
      simp only [look] at h
      split at h
      · rename_i e; subst e; cases h; exact hu
      · exact ih t v h
    · exact ih t v h
def coll (r : Nat) : Deferred := { target := .collected r, args := #[] }
def marks (X : List Nat) : List Atom := X.map fun r => .obj r (.deferred (some []))
def Rnd (ρ : Option Nat) (F : List Atom) : Prop := ∀ l, ρ = some l → ∃ r, Atom.obj l (.loop r) ∈ F
theorem Rnd.more {ρ : Option Nat} {F F' : List Atom} (h : Rnd ρ F) (hf : ∀ x ∈ F, x ∈ F') : Rnd ρ F' := fun l e => let ⟨r, hr⟩ := h l e; ⟨r, hf _ hr⟩
def VC (P : Program) (n : Nat) (c : IC) (Γ : Env) (H : SH) (Q : Exit → Env → SH → Prop) : Prop :=
  ∀ ρ kp od code, lowC P n kp od code = some c → ∀ a w F (QQ : Exit → Act → World → Prop), Rnd ρ F → Agree n Γ a → Sat w (H.flatten ++ F) →
    (∀ e a' w' Γ' H' X, Q e Γ' H' → Agree n Γ' a' → a'.defers = X.map coll ++ a.defers → Sat w' (H'.flatten ++ (F ++ marks X)) → Keeps w w' → QQ e a' w') → code.wpIn (VFc ρ) 0 P QQ a w
def Imp (H H' : SH) : Prop := ∃ R, Spl H H' R
theorem Imp.refl (H : SH) : Imp H H := ⟨[], by simp [Spl]⟩
theorem Sat.imp {w : World} {H H' : SH} {F : List Atom} (h : Imp H H') (hs : Sat w (H.flatten ++ F)) : Sat w (H'.flatten ++ F) := by
  obtain ⟨R, hR⟩ := h
  have := hs.perm (hR.append_right F)
  rw [List.append_assoc] at this
  exact this.sub ((List.Sublist.refl _).append (List.sublist_append_right _ _))
def thenQ (K : Env → SH → Prop) (Q : Exit → Env → SH → Prop) : Exit → Env → SH → Prop
  | .normal, Γ, H => K Γ H
  | e, Γ, H => Q e Γ H
def blockQ (id : Nat) (Q : Exit → Env → SH → Prop) : Exit → Env → SH → Prop
  | .exit i, Γ, H => if i = id then Q .normal Γ H else Q (.exit i) Γ H
  | e, Γ, H => Q e Γ H
section
variable {P : Program} {n : Nat} {Γ Δ : Env} {H : SH} {Q Q' : Exit → Env → SH → Prop}
theorem marks_app (X Y : List Nat) : marks (X ++ Y) = marks X ++ marks Y := by simp [marks]
theorem Sat.marks {w : World} {L F : List Atom} {X Y : List Nat} (h : Sat w (L ++ ((F ++ marks X) ++ marks Y))) : Sat w (L ++ (F ++ marks (Y ++ X))) := by
  refine h.perm (List.Perm.append_left _ ?_)
  rw [marks_app, List.append_assoc]
  exact List.Perm.append_left _ List.perm_append_comm
theorem Sat.nomarks {w : World} {L F : List Atom} (h : Sat w (L ++ F)) : Sat w (L ++ (F ++ V.marks [])) := by simpa [V.marks] using h
theorem VC.mono {c : IC} (h : VC P n c Γ H Q) (hq : ∀ e Γ H, Q e Γ H → Q' e Γ H) : VC P n c Γ H Q' := fun ρ kp od code hl a w F QQ hr ha hs hh =>
  h ρ kp od code hl a w F QQ hr ha hs (fun e a' w' Γ' H' X q => hh e a' w' Γ' H' X (hq _ _ _ q))
theorem VC.sub {c : IC} (s : Sub Γ Δ) (h : VC P n c Δ H Q) : VC P n c Γ H Q := fun ρ kp od code hl a w F QQ hr ha hs hh => h ρ kp od code hl a w F QQ hr (ha.sub s) hs hh
theorem VC.imp {c : IC} {H' : SH} (i : Imp H H') (h : VC P n c Γ H' Q) : VC P n c Γ H Q := fun ρ kp od code hl a w F QQ hr ha hs hh => h ρ kp od code hl a w F QQ hr ha (hs.imp i) hh
theorem VC.skip (h : Q .normal Γ H) : VC P n .skip Γ H Q := by
  intro ρ kp od code hl a w F QQ hr ha hs hh
  obtain rfl := lowC_inv hl
  exact wpIn_skip (hh _ _ _ _ _ [] h ha rfl hs.nomarks (.refl w))
theorem VC.exit {id : Nat} (h : Q (.exit id) Γ H) : VC P n (.exit id) Γ H Q := by
  intro ρ kp od code hl a w F QQ hr ha hs hh
  obtain rfl := lowC_inv hl
  exact wpIn_exit (hh _ _ _ _ _ [] h ha rfl hs.nomarks (.refl w))
theorem VC.ret (h : Q .ret Γ H) : VC P n .ret Γ H Q := by
  intro ρ kp od code hl a w F QQ hr ha hs hh
  obtain rfl := lowC_inv hl
  exact wpIn_ret (hh _ _ _ _ _ [] h ha rfl hs.nomarks (.refl w))
theorem VC.cond {c : Operand} {x y : IC} {t : Bool} (hc : ev Γ c = some (.bool t)) (ht : t = true → VC P n x Γ H Q) (hf : t = false → VC P n y Γ H Q) : VC P n (.cond c x y) Γ H Q := by
  intro ρ kp od code hl a w F QQ hr ha hs hh
  obtain ⟨p, q, rfl, h1, h2⟩ := lowC_inv hl
  exact wpIn_cond_split (ha.ev hc) (fun e => ht e ρ kp od _ h1 a w F QQ hr ha hs hh) (fun e => hf e ρ kp od _ h2 a w F QQ hr ha hs hh)
theorem VC.seq {x y : IC} (h : VC P n x Γ H (thenQ (fun Γ' H' => VC P n y Γ' H' Q) Q)) : VC P n (.seq x y) Γ H Q := by
  intro ρ kp od code hl a w F QQ hr ha hs hh
  obtain ⟨p, q, rfl, h1, h2⟩ := lowC_inv hl
  refine wpIn_seq (h ρ kp od _ h1 a w F _ hr ha hs (fun e a' w' Γ' H' X q g1 g2 g3 g4 => ?_))
  cases e <;> first
    | exact q ρ kp od _ h2 a' w' (F ++ marks X) QQ (hr.more (fun x hx => List.mem_append_left _ hx)) g1 g3 (fun e a2 w2 Γ2 H2 Y q2 k1 k2 k3 k4 => hh e a2 w2 Γ2 H2 (Y ++ X) q2 k1 (by rw [k2, g2]; simp) k3.marks (g4.trans k4))
    | exact hh _ _ _ _ _ X q g1 g2 g3 g4
theorem VC.block {id : Nat} {x : IC} (h : VC P n x Γ H (blockQ id Q)) : VC P n (.block id x) Γ H Q := by
  intro ρ kp od code hl a w F QQ hr ha hs hh
  obtain ⟨p, rfl, h1⟩ := lowC_inv hl
  refine wpIn_block (h ρ kp od _ h1 a w F _ hr ha hs (fun e a' w' Γ' H' X q g1 g2 g3 g4 => ?_))
  cases e <;> first
    | exact hh _ _ _ _ _ X q g1 g2 g3 g4
    | skip
  rename_i i
  simp only [blockQ] at q
  simp only [Exit.inBlock]
  split at q
  · rename_i e; rw [if_pos e]; exact hh _ _ _ _ _ X q g1 g2 g3 g4
  · rename_i e; rw [if_neg e]; exact hh _ _ _ _ _ X q g1 g2 g3 g4
theorem stepR_scope' {P : Program} {b : Frame} {a : Act} {k : List Item} {cs : List Frame} {w : World} {c : Code} : step P (lone (b.atR a (.code (.scope c) :: k)) cs w) = .next (lone (b.atR a (.code c :: .inScope c :: k)) cs w) :=
  step_lone_go (by simp [stepG, stepG.exec, Frame.atR])
theorem stepR_inScope' {P : Program} {b : Frame} {a : Act} {k : List Item} {cs : List Frame} {w : World} {c : Code} : step P (lone (b.atR a (.inScope c :: k)) cs w) = .next (lone (b.atR a k) cs w) :=
  step_lone_go (by simp [stepG, stepG.exec, Frame.atR])
theorem wpIn_scope' {F : Fence} {n : Nat} {P : Program} {Q : Exit → Act → World → Prop} {a : Act} {w : World} {c : Code} (h : c.wpIn F n P (fun e a w => (∀ l, e ≠ .goto l) ∧ Q e a w) a w) : (Code.scope c).wpIn F n P Q a w := by
  intro b k cs hro hb hr
  have h0 : (lone (b.atR a (.code (.scope c) :: k)) cs w).fenced P F := fenced_calm hb hr rfl
  obtain ⟨e, a₁, w₁, ⟨hg, hq⟩, harr⟩ := h b (.inScope c :: k) cs hro hb hr
  cases e with
  | normal => exact ⟨.normal, a₁, w₁, hq, .head h0 stepR_scope' (StepsIn.trans harr (.one (fenced_calm hb hr rfl) stepR_inScope'))⟩
  | exit id =>
    have hx : exitTo id (.inScope c :: k) = exitTo id k := by simp [exitTo]
    exact ⟨.exit id, a₁, w₁, hq, fun k' hk => .head h0 stepR_scope' (harr.1 k' (by rw [hx]; exact hk)),
      fun hr' hk => let ⟨k₁, h1, h2⟩ := harr.2 hr' (by rw [hx]; exact hk); ⟨k₁, h1, .head h0 stepR_scope' h2⟩⟩
  | goto l => exact absurd rfl (hg l)
  | ret => exact ⟨_, a₁, w₁, hq, .of_steps (.one h0 stepR_scope') harr⟩
  | panic ch => exact ⟨_, a₁, w₁, hq, .of_steps (.one h0 stepR_scope') harr⟩
  | outgrown => exact ⟨_, a₁, w₁, hq, .of_steps (.one h0 stepR_scope') harr⟩
theorem VC.scope {x : IC} (h : VC P n x Γ H fun e Γ' H' => (∀ l, e ≠ .goto l) ∧ Q e Γ' H') : VC P n (.scope x) Γ H Q := by
  intro ρ kp od code hl a w F QQ hr ha hs hh
  obtain ⟨p, rfl, h1⟩ := lowC_inv hl
  exact wpIn_scope' (h ρ kp od _ h1 a w F _ hr ha hs fun e a' w' Γ' H' X q g1 g2 g3 g4 => ⟨q.1, hh _ _ _ _ _ X q.2 g1 g2 g3 g4⟩)
theorem VC.label {l : Nat} (h : Q .normal Γ H) : VC P n (.label l) Γ H Q := by
  intro ρ kp od code hl a w F QQ hr ha hs hh
  obtain rfl := lowC_inv hl
  exact wpIn_label (hh _ _ _ _ _ [] h ha rfl hs.nomarks (.refl w))
theorem lowList_length {ops : Array Oper} : ∀ {l : List Oper} {rs : List RO}, lowList P n ops l = some rs → rs.length = l.length ∧ ∀ (i : Nat) r o, rs[i]? = some r → l[i]? = some o → lowRO P n ops o = some r := by
  intro l
  induction l with
  | nil => intro rs h; simp [lowList] at h; subst h; simp
  | cons o l ih =>
    intro rs h
    simp only [lowList] at h
    split at h
    · rename_i x l' hx hl
      cases h
      obtain ⟨h1, h2⟩ := ih hl
      refine ⟨by simp [h1], fun i r o' hr ho => ?_⟩
      cases i with
      | zero => simp at hr ho; subst hr ho; exact hx
      | succ i => simp at hr ho; exact h2 i r o' hr ho
    · cases h
theorem zip_getD {ops : Array Oper} {rs : List RO} (h : lowList P n ops ops.toList = some rs) {i : Nat} (hi : i < ops.size) :
    ops[i]? = some ((rs.zip ops.toList).getD i default).2 ∧ ((rs.zip ops.toList).getD i default).1 = rs.getD i default ∧ lowRO P n ops ((rs.zip ops.toList).getD i default).2 = some ((rs.zip ops.toList).getD i default).1 := by
  obtain ⟨h1, h2⟩ := lowList_length h
  have hl : i < rs.length := by rw [h1]; simpa using hi
  have hz : (rs.zip ops.toList)[i]? = some (rs[i], ops[i]) := by
    rw [List.getElem?_eq_getElem (by rw [List.length_zip]; simp only [Array.length_toList]; omega)]; simp
  have he : (rs.zip ops.toList).getD i default = (rs[i], ops[i]) := by rw [List.getD_eq_getElem?_getD, hz]; rfl
  rw [he]
  refine ⟨by simp [hi], by simp [List.getD_eq_getElem?_getD, hl], ?_⟩
  exact h2 i rs[i] ops[i] (by simp [hl]) (by simp [hi])
theorem VC.reg {rs : List RO} {keep : List Nat} (h : VO P n rs Γ H (fun ch Γ' H' => Q (.panic ch) Γ' H') fun Γ' H' => Q .normal (restr keep Γ') H') : VC P n (.reg rs keep) Γ H Q := by
  intro ρ kp od code hl a w F QQ hr ha hs hh
  obtain ⟨id, ops, rfl, h1, rfl⟩ := lowC_inv hl
  refine wpIn_region ?_
  refine wpR_sound (P := P) (ρ := ρ) (n := n) (ops := ops) (X := fun i => (rs.zip ops.toList).getD i default) (QQ := QQ) (fun i hi => ?_) (List.range ops.size) a w (fun i hi => by simpa using hi) ?_
  · obtain ⟨g1, g2, g3⟩ := zip_getD h1 hi; exact ⟨g1, g3⟩
  · have hlen := (lowList_length h1).1
    have hmap : (List.range ops.size).map (fun i => (rs.zip ops.toList).getD i default) = rs.zip ops.toList := by
      have hzl : (rs.zip ops.toList).length = ops.size := by simp [hlen]
      apply List.ext_getElem?
      intro i
      simp only [List.getElem?_map]
      by_cases hi : i < ops.size
      · rw [List.getElem?_range hi, Option.map_some]
        rw [List.getD_eq_getElem?_getD]
        have : i < (rs.zip ops.toList).length := by omega
        rw [List.getElem?_eq_getElem this]; rfl
      · rw [List.getElem?_eq_none (l := List.range ops.size) (by simpa using hi), List.getElem?_eq_none (by omega)]; rfl
    rw [hmap]
    refine h (rs.zip ops.toList) ⟨?_, ?_⟩ a w F _ _ ha hs (fun a' w' Γ' H' q g1 g2 g3 g4 => hh .normal a' w' _ H' [] q (g1.sub (sub_restr _ _)) g2 g3.nomarks g4) (fun ch a' w' Γ' H' q g1 g2 g3 g4 => hh (.panic ch) a' w' _ H' [] q g1 g2 g3.nomarks g4)
    · rw [List.map_fst_zip]; simp [hlen]
    · intro x hx
      obtain ⟨i, hi⟩ := List.getElem?_of_mem hx
      have hi2 : i < (rs.zip ops.toList).length := (List.getElem?_eq_some_iff.1 hi).1
      have hi3 : i < ops.size := by simp [hlen] at hi2; omega
      obtain ⟨g1, g2, g3⟩ := zip_getD h1 hi3
      have : (rs.zip ops.toList).getD i default = x := by rw [List.getD_eq_getElem?_getD, hi]; rfl
      rw [this] at g3
      exact ⟨ops, g3⟩
theorem VC.draw {rss : List (List RO)} {keep : List Nat} (h : ∀ rs ∈ rss, VO P n rs Γ H (fun _ _ _ => False) fun Γ' H' => Q .normal (restr keep Γ') H') : VC P n (.draw rss keep) Γ H Q := by
  intro ρ kp od code hl a w F QQ hr ha hs hh
  obtain ⟨id, ops, rs, rfl, h1, hm, hc, rfl, rfl⟩ := lowC_inv hl
  have hlen := (lowList_length h1).1
  refine wpIn_region_draw (fun t => ?_)
  have hsched : Region.schedule (P.follows .mixedOrders) ops t = sched ops ops.size t (Array.replicate ops.size false) := by simp [Region.schedule, hm, Region.linearise, sched]
  rw [hsched]
  have hu : unl ops (Array.replicate ops.size false) = List.range ops.size := by
    simp only [unl]
    refine List.filter_eq_self.2 (fun i hi => ?_)
    have := List.mem_range.1 hi
    simp [this]
  have hback : backEdges ops = true := by
    rcases Bool.or_eq_true_iff.1 hc with hc | hc <;> (simp only [coverG, Bool.and_eq_true] at hc; exact hc.1.1.1)
  have hmem := (sched_spec hback ops.size t (Array.replicate ops.size false) (by simp) (by rw [hu]; simp)).2.1
  refine wpR_sound (P := P) (ρ := ρ) (n := n) (ops := ops) (X := fun i => (rs.zip ops.toList).getD i default) (QQ := QQ) (fun i hi => ?_) _ a _ (fun i hi => by rw [hmem, hu] at hi; simpa using hi) ?_
  · obtain ⟨g1, g2, g3⟩ := zip_getD h1 hi; exact ⟨g1, g3⟩
  · refine wpR_zmono ?_
    refine cover (P := P) (n := n) (by simp [hlen]) (fun i x hx => ?_) hc (fun o ho => ?_) t
    · have hi2 : i < (rs.zip ops.toList).length := (List.getElem?_eq_some_iff.1 hx).1
      have hi3 : i < ops.size := by simp [hlen] at hi2; omega
      obtain ⟨g1, g2, g3⟩ := zip_getD h1 hi3
      have : (rs.zip ops.toList).getD i default = x := by rw [List.getD_eq_getElem?_getD, hx]; rfl
      rw [this] at g3
      exact Good.of_low g3
    · have hall : o.all (· < ops.size) = true := by
        rcases Bool.or_eq_true_iff.1 hc with hc | hc <;>
        · simp only [coverG, Bool.and_eq_true, List.all_eq_true] at hc
          have := hc.1.2 o ho
          simp only [List.all_eq_true]
          exact this.2
      have hlt : ∀ i ∈ o, i < ops.size := by simpa [List.all_eq_true] using hall
      refine h (o.map fun i => rs.getD i default) (List.mem_map.2 ⟨o, ho, rfl⟩) _ ⟨?_, ?_⟩ a { w with drawn := w.drawn + 1 } F _ _ ha (hs.drawn _) (fun a' w' Γ' H' q g1 g2 g3 g4 => hh .normal a' w' _ H' [] q (g1.sub (sub_restr _ _)) g2 g3.nomarks ?_) (fun _ _ _ _ _ q => q.elim)
      · rw [List.map_map]
        refine List.map_congr_left (fun i hi => ?_)
        obtain ⟨g1, g2, g3⟩ := zip_getD h1 (hlt i hi)
        exact g2
      · intro x hx
        obtain ⟨i, hi, rfl⟩ := List.mem_map.1 hx
        obtain ⟨g1, g2, g3⟩ := zip_getD h1 (hlt i hi)
        exact ⟨ops, g3⟩
      · exact ((Keeps.refl w).drawn _).trans g4
theorem VC.loop {x : IC} {α : Type} (Γf : α → Env) (Hf : α → SH) (I : α → Prop) (μ : α → Nat) (s0 : α) (h0 : I s0) (hΓ : Sub Γ (Γf s0)) (hH : Imp H (Hf s0))
    (round : ∀ s, I s → VC P n x (Γf s) (Hf s) (thenQ (fun Γ' H' => ∃ s', I s' ∧ μ s' < μ s ∧ Sub Γ' (Γf s') ∧ Imp H' (Hf s')) Q)) : VC P n (.loop x) Γ H Q := by
  intro ρ kp od code hl a w F QQ hr ha hs hh
  obtain ⟨body, rfl, h1⟩ := lowC_inv hl
  intro b k cs hro hfn hroom
  have key : ∀ m s X, μ s = m → I s → ∀ a1 w1, Agree n (Γf s) a1 → a1.defers = X.map coll ++ a.defers → Sat w1 ((Hf s).flatten ++ (F ++ marks X)) → Keeps w w1 →
      ∃ e a' w', QQ e a' w' ∧ ArrivesIn (Machine.fenced P (VFc ρ)) P (lone (b.atR a1 (.code body :: .inLoop body :: k)) cs w1) b k cs e a' w' := by
    intro m
    induction m using Nat.strongRecOn with
    | _ m ih =>
      intro s X hm hI a1 w1 ha1 hd1 hs1 hk1
      have hrd := round s hI ρ kp od body h1 a1 w1 (F ++ marks X) (Exit.then (fun a' w' => ∃ s' Y, I s' ∧ μ s' < μ s ∧ Agree n (Γf s') a' ∧ a'.defers = (Y ++ X).map coll ++ a.defers ∧ Sat w' ((Hf s').flatten ++ (F ++ marks (Y ++ X))) ∧ Keeps w w') QQ) (hr.more (fun x hx => List.mem_append_left _ hx)) ha1 hs1 (fun e a' w' Γ' H' Y q g1 g2 g3 g4 => by
        cases e <;> first
          | (obtain ⟨s', i1, i2, i3, i4⟩ := q; exact ⟨s', Y, i1, i2, g1.sub i3, by rw [g2, hd1]; simp, (g3.imp i4).marks, hk1.trans g4⟩)
          | exact hh _ _ _ _ _ (Y ++ X) q g1 (by rw [g2, hd1]; simp) g3.marks (hk1.trans g4))
      obtain ⟨e, a2, w2, hq, harr⟩ := hrd b (.inLoop body :: k) cs hro hfn hroom
      cases e with
      | normal =>
        obtain ⟨s', Y, i1, i2, i3, i3', i4, i5⟩ := hq
        obtain ⟨e2, a3, w3, hq2, harr2⟩ := ih (μ s') (hm ▸ i2) s' (Y ++ X) rfl i1 a2 w2 i3 i3' i4 i5
        exact ⟨e2, a3, w3, hq2, .of_steps (StepsIn.trans harr (.one (fenced_calm (n := 0) (fr := b.atR a2 (.inLoop body :: k)) hfn hroom rfl) stepR_inLoop)) harr2⟩
      | exit id => exact ⟨_, a2, w2, hq, .pass (x := .inLoop body) rfl (fun _ _ => .inl (by simp)) harr⟩
      | goto l => exact ⟨_, a2, w2, hq, .pass (x := .inLoop body) rfl (fun _ _ => .inl (by simp)) harr⟩
      | ret => exact ⟨_, a2, w2, hq, .pass (x := .inLoop body) rfl (fun _ _ => .inl (by simp)) harr⟩
      | panic ch => exact ⟨_, a2, w2, hq, .pass (x := .inLoop body) rfl (fun _ _ => .inl (by simp)) harr⟩
      | outgrown => exact ⟨_, a2, w2, hq, .pass (x := .inLoop body) rfl (fun _ _ => .inl (by simp)) harr⟩
  obtain ⟨e, a', w', hq, harr⟩ := key _ s0 [] rfl h0 a w (ha.sub hΓ) rfl (hs.imp hH).nomarks (.refl w)
  exact ⟨e, a', w', hq, .of_steps (.one (fenced_calm (n := 0) (fr := b.atR a (.code (.loop body) :: k)) hfn hroom rfl) stepR_loop) harr⟩
end
def assoc {α : Type} (l : List (Nat × List α)) (i : Nat) : List α := match l with
  | [] => []
  | (k, v) :: r => if k = i then v else assoc r i
def rep (n : Nat) (l : List Value) : List Value := match n with
  | 0 => []
  | n + 1 => l ++ rep n l
inductive RV where
  | tmp (t : Nat)
  | cell1 (t : Nat)
  | cellN (t n : Nat)
structure FIR where
  n : Nat
  res : List RV
  body : IC
def resTmps (P : Program) : List ResultVar → Option (List RV)
  | [] => some []
  | .tmp t :: r => (resTmps P r).map (.tmp t :: ·)
  | .cell a t :: r => match P.underlying t, P.info? t with
    | some (.struct _), some i => (resTmps P r).map (.cellN a i.size :: ·)
    | some (.array _ _), some i => (resTmps P r).map (.cellN a i.size :: ·)
    | some _, some _ => (resTmps P r).map (.cell1 a :: ·)
    | _, _ => none
def lowF (P : Program) (kp : Nat → List Nat) (od : Nat → List (List Nat)) (f : Nat) : Option FIR :=
  match P.funcs[f]? with
  | none => none
  | some fn => match fn.body with
    | none => none
    | some c => if fn.name != "runtime.NumGoroutine" then
        match lowC P fn.ntmps kp od c, resTmps P fn.results.toList with
        | some b, some r => some ⟨fn.ntmps, r, b⟩
        | _, _ => none
      else none
def argsEnv : Nat → List Value → Env
  | _, [] => []
  | k, v :: r => (k, v) :: argsEnv (k + 1) r
def tup : List Value → Value
  | [v] => v
  | vs => .tuple vs.toArray
inductive Res (Γ : Env) (H : SH) : List RV → List Value → Prop where
  | nil : Res Γ H [] []
  | tmp {t : Nat} {v : Value} {r : List RV} {vs : List Value} : look Γ t = some v → Res Γ H r vs → Res Γ H (.tmp t :: r) (v :: vs)
  | cell1 {t b o : Nat} {v : Value} {r : List RV} {vs : List Value} : look Γ t = some (.pointer (some ⟨b, o, none⟩)) → Atom.cell b o v ∈ H.flatten → Res Γ H r vs → Res Γ H (.cell1 t :: r) (v :: vs)
  | cellN {t b o n : Nat} {us : List Value} {r : List RV} {vs : List Value} : look Γ t = some (.pointer (some ⟨b, o, none⟩)) → us.length = n → (∀ x ∈ cellsAt b o us, x ∈ H.flatten) → Res Γ H r vs → Res Γ H (.cellN t n :: r) (.agg us.toArray :: vs)
def endQ (res : List RV) (Q : Value → SH → Prop) : Exit → Env → SH → Prop := fun e Γ H => (e = .normal ∨ e = .ret) ∧ ∃ vs Post, Res Γ H res vs ∧ Imp H Post ∧ Q (tup vs) Post
theorem look_argsEnv : ∀ {vs : List Value} {k t : Nat} {v : Value}, look (argsEnv k vs) t = some v → k ≤ t ∧ vs[t - k]? = some v := by
  intro vs
  induction vs with
  | nil => intro k t v h; simp [argsEnv, look] at h
  | cons u r ih =>
    intro k t v h
    simp only [argsEnv, look] at h
    split at h
    · rename_i e; subst e; cases h; simp
    · obtain ⟨h1, h2⟩ := ih h
      refine ⟨by omega, ?_⟩
      have : t - k = (t - (k + 1)) + 1 := by omega
      rw [this]; simpa using h2
theorem loadFrom_same {P : Program} {b o : Nat} : ∀ (k i : Nat) (acc : Array Value) (w1 : World) (r : Array Value) (w2 : World), (loadCellsFrom ⟨b, o, none⟩ i k acc).run P w1 = .ok r w2 → w2 = w1 := by
  intro k
  induction k with
  | zero => intro i acc w1 r w2 h; simp [loadCellsFrom] at h; exact h.2.symm
  | succ k ih =>
    intro i acc w1 r w2 h
    simp only [loadCellsFrom, Sem.run_bind] at h
    obtain ⟨v, w3, h1, h2⟩ := andThen_ok_of h
    have hw : w3 = w1 := by
      simp only [Go.load, Sem.run] at h1
      split at h1
      · cases h1; rfl
      · split at h1 <;> cases h1; rfl
    rw [ih _ _ _ _ _ h2, hw]
theorem run_loadCells {P : Program} {b o m : Nat} {us : List Value} {H : List Atom} {F : List Atom} {w : World} (hn : us.length = m) (hm : ∀ x ∈ cellsAt b o us, x ∈ H) (hs : Sat w (H ++ F)) :
    (loadCells ⟨b, o, none⟩ m).run P w = .ok us.toArray w := by
  have hsw : SWP P (loadCells ⟨b, o, none⟩ m) H (fun r L => r = us.toArray ∧ L = H) := SWP.loadCells hn hm ⟨rfl, rfl⟩
  obtain ⟨r, w', L, h1, ⟨rfl, rfl⟩, h3, h4⟩ := hsw F w hs
  obtain rfl := loadFrom_same _ _ _ _ _ _ h1
  exact h1
theorem run_results {P : Program} {fn : Func} {r : List RV} {a : Act} {n : Nat} {Γ : Env} {vs : List Value} {w : World} {H : SH} {F : List Atom} (hs : Sat w (H.flatten ++ F)) (hr : resTmps P fn.results.toList = some r) (ha : Agree n Γ a) (hv : Res Γ H r vs) :
    (results fn a.tmps).run P w = .ok (tup vs) w := by
  have key : ∀ (l : List ResultVar) (r : List RV) (vs : List Value) (f : ResultVar → Sem Value), (∀ t, f (.tmp t) = pure (a.tmps.getD t undef)) → (∀ x t, f (.cell x t) = (do loadVar t (← asAddr (a.tmps.getD x undef)))) →
      resTmps P l = some r → Res Γ H r vs → (l.mapM f).run P w = .ok vs w := by
    intro l
    induction l with
    | nil => intro r vs f _ _ h1 h2; simp [resTmps] at h1; subst h1; cases h2; simp
    | cons x l ih =>
      intro r vs f hf hf2 h1 h2
      cases x with
      | cell x t =>
        simp only [resTmps] at h1
        have slot : ∀ {v}, look Γ x = some v → a.tmps.getD x undef = v := fun h => by simp [Array.getD_eq_getD_getElem?, ha.slots x _ h]
        split at h1
        · rename_i i hu hi
          simp only [Option.map_eq_some_iff] at h1
          obtain ⟨r', h3, rfl⟩ := h1
          cases h2 with
          | cellN k1 k2 k3 k4 =>
            simp only [List.mapM_cons, Sem.run_bind, hf2, slot k1, asAddr, Sem.run_pure, Result.andThen_ok, loadVar, isAgg_of hu, if_true, run_sizeOf_of hi, run_loadCells k2 k3 hs, ih r' _ f hf hf2 h3 k4]
        · rename_i i hu hi
          simp only [Option.map_eq_some_iff] at h1
          obtain ⟨r', h3, rfl⟩ := h1
          cases h2 with
          | cellN k1 k2 k3 k4 =>
            simp only [List.mapM_cons, Sem.run_bind, hf2, slot k1, asAddr, Sem.run_pure, Result.andThen_ok, loadVar, isAgg_of hu, if_true, run_sizeOf_of hi, run_loadCells k2 k3 hs, ih r' _ f hf hf2 h3 k4]
        · rename_i d j g1 g2 hu hj
          simp only [Option.map_eq_some_iff] at h1
          obtain ⟨r', h3, rfl⟩ := h1
          have hag : (isAgg t).run P w = .ok false w := by rw [isAgg_of hu]; cases d <;> simp_all
          cases h2 with
          | cell1 k1 k2 k4 =>
            have hc := (hs.cell (List.mem_append_left F k2)).1
            simp only [List.mapM_cons, Sem.run_bind, hf2, slot k1, asAddr, Sem.run_pure, Result.andThen_ok, loadVar, hag, Bool.false_eq_true, if_false, run_load, hc, ih r' _ f hf hf2 h3 k4]
        · cases h1
      | tmp t =>
        simp only [resTmps, Option.map_eq_some_iff] at h1
        obtain ⟨r', h3, rfl⟩ := h1
        cases h2 with
        | tmp k1 k2 =>
          rename_i v0 _
          have hslot : a.tmps.getD t undef = v0 := by simp [Array.getD_eq_getD_getElem?, ha.slots t _ k1]
          simp only [List.mapM_cons, Sem.run_bind, hf, Sem.run_pure, Result.andThen_ok, ih r' _ f hf hf2 h3 k2, hslot]
  unfold results
  simp only [Sem.run_bind]
  rw [Array.mapM_eq_mapM_toList]
  simp only [Sem.run_map]
  rw [key fn.results.toList r vs _ (fun t => rfl) (fun x t => rfl) hr hv]
  cases vs with
  | nil => simp [tup]
  | cons v l => cases l <;> simp [tup]
theorem Fun.intro {P : Program} {kp : Nat → List Nat} {od : Nat → List (List Nat)} {f : Nat} {F : FIR} {args : List Value} {Pre : SH} {Q : Value → SH → Prop} (hl : lowF P kp od f = some F) (hn : args.length ≤ F.n)
    (h : VC P F.n F.body (argsEnv 0 args) Pre (endQ F.res Q)) : Fun P f args Pre Q := by
  unfold lowF at hl
  split at hl
  · cases hl
  rename_i fn hfn
  split at hl
  · cases hl
  rename_i c hc
  split at hl
  case isFalse => cases hl
  rename_i hname
  split at hl
  case h_2 => cases hl
  rename_i b r hb hr
  cases hl
  refine ⟨by simp only [callable, hfn, hname, hc]; rfl, fun FF w hs => ?_⟩
  refine (callsIn_wide (n := 0)).1 (callsIn_of_wp_marks hfn hc trivial (h none kp od c hb _ w FF _ (fun l e => by cases e) ⟨?_, fun t v e => ?_⟩ hs (fun e a' w' Γ' H' X q g1 g2 g3 g4 => ?_)))
  · simp at hn ⊢; omega
  · obtain ⟨_, h2⟩ := look_argsEnv e
    simp only [Nat.sub_zero] at h2
    have hlt : t < args.length := (List.getElem?_eq_some_iff.1 h2).1
    simp only [Array.getElem?_append, List.size_toArray, hlt, if_true]
    simpa using h2
  · obtain ⟨he, vs, Post, h1, h2, h3⟩ := q
    have hb : LeavesInM (VFc none) 0 P fn a'.tmps (fun e w' => ∃ v Post, e = .returned v ∧ Q v Post ∧ Sat w' (Post.flatten ++ FF) ∧ Keeps w w') a'.defers .returning w' := by
      rw [g2, List.append_nil]
      clear g2
      induction X generalizing w' with
      | nil =>
        have g3' : Sat w' (H'.flatten ++ FF) := by simpa [V.marks] using g3
        exact ⟨_, run_results g3' hr g1 h1, _, Post, rfl, h3, g3'.imp h2, g4⟩
      | cons r X ih =>
        have hp : (H'.flatten ++ (FF ++ V.marks (r :: X))).Perm (.obj r (.deferred (some [])) :: (H'.flatten ++ (FF ++ V.marks X))) := by
          simp only [V.marks, List.map_cons]
          rw [← List.append_assoc, ← List.append_assoc]
          exact List.perm_middle
        have g5 := g3.perm hp
        obtain ⟨k1, k2⟩ := g5.obj (List.mem_cons_self ..)
        obtain ⟨s1, s2⟩ := Sat.setObj (u := .deferred none) g5 rfl
        refine ⟨by simp, .inl ⟨r, _, rfl, ?_, ih _ (s1.sub (List.sublist_cons_self ..)) (g4.trans s2)⟩⟩
        simp [Instr.takeDeferred, Go.getObj, Go.setObj, Sem.run, k1]
    rcases he with rfl | rfl <;> exact hb
theorem Fun.mono {P : Program} {f : Nat} {args : List Value} {Pre : SH} {Q Q' : Value → SH → Prop} (h : Fun P f args Pre Q) (hq : ∀ v Post, Q v Post → Q' v Post) : Fun P f args Pre Q' :=
  ⟨h.1, fun F w hs => (h.2 F w hs).mono fun _ _ ⟨v, Post, a, b, c⟩ => ⟨v, Post, a, hq _ _ b, c⟩⟩
end Go.V

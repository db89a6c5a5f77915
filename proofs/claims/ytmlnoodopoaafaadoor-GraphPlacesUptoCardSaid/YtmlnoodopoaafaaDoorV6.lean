/-
  Triples over lowered code: what the slots hold (a list), what memory holds (a list of items), and what follows.
-/
import Derived.Test.YtmlnoodopoaafaaDoorV5
set_option linter.unusedSimpArgs false
set_option linter.unusedVariables false
namespace Go.V
open Go
abbrev Env := List (Nat × Value)
abbrev SH := List (List Atom)
def look : Env → Nat → Option Value
  | [], _ => none
  | (s, v) :: r, t => if s = t then some v else look r t
def ev (Γ : Env) : Operand → Option Value
  | .tmp t => look Γ t
  | .const v => some v
  | .global g => some (.pointer (some ⟨g, 0, none⟩))
  | .func f => some (.func (.func f) #[] #[])
def evs (Γ : Env) : List Operand → Option (List Value)
  | [] => some []
  | x :: r => match ev Γ x, evs Γ r with
    | some v, some l => some (v :: l)
    | _, _ => none
structure Agree (n : Nat) (Γ : Env) (a : Act) : Prop where
  size : a.tmps.size = n
  slots : ∀ t v, look Γ t = some v → a.tmps[t]? = some v
def Sub (Γ Δ : Env) : Prop := ∀ t v, look Δ t = some v → look Γ t = some v
theorem Agree.sub {n : Nat} {Γ Δ : Env} {a : Act} (h : Agree n Γ a) (s : Sub Γ Δ) : Agree n Δ a := ⟨h.size, fun t v e => h.slots t v (s t v e)⟩
theorem Agree.put {n : Nat} {Γ : Env} {a : Act} (h : Agree n Γ a) {d : Nat} (hd : d < n) (v : Value) : Agree n ((d, v) :: Γ) (a.put (some d) v) := by
  refine ⟨by simp [Act.put, h.size], fun t u e => ?_⟩
  simp only [look] at e
  split at e
  · rename_i hd'
    subst hd'
    cases e
    simp [Act.put, h.size, hd]
  · rename_i hne
    simp only [Act.put, Array.getElem?_setIfInBounds_ne hne]
    exact h.slots t u e
theorem Agree.ev {n : Nat} {Γ : Env} {a : Act} (h : Agree n Γ a) {x : Operand} {v : Value} (e : ev Γ x = some v) : a.eval x = v := by
  cases x with
  | tmp t => simp only [V.ev] at e; simp [Act.eval, Array.getD_eq_getD_getElem?, h.slots t v e]
  | const u => simpa [V.ev, Act.eval] using e
  | global g => simpa [V.ev, Act.eval] using e
  | func f => simpa [V.ev, Act.eval] using e
theorem Agree.evs {n : Nat} {Γ : Env} {a : Act} (h : Agree n Γ a) : ∀ {l : List Operand} {vs : List Value}, evs Γ l = some vs → l.map a.eval = vs := by
  intro l
  induction l with
  | nil => intro vs e; simp [V.evs] at e; subst e; rfl
  | cons x r ih =>
    intro vs e
    simp only [V.evs] at e
    split at e
    · rename_i v l hv hl; cases e; simp [h.ev hv, ih hl]
    · cases e
def putE (d : Option Nat) (v : Value) (Γ : Env) : Env := match d with | some d => (d, v) :: Γ | none => Γ
theorem Agree.putE {n : Nat} {Γ : Env} {a : Act} (h : Agree n Γ a) {d : Option Nat} (hd : ∀ t, d = some t → t < n) (v : Value) : Agree n (V.putE d v Γ) (a.put d v) := by
  cases d with
  | none => exact h
  | some d => exact h.put (hd d rfl) v
def LowAll (P : Program) (n : Nat) (rs : List RO) (l : List (RO × Oper)) : Prop := l.map (·.1) = rs ∧ ∀ x ∈ l, ∃ ops, lowRO P n ops x.2 = some x.1
theorem put_defers (a : Act) (d : Option Nat) (v : Value) : (a.put d v).defers = a.defers := by cases d <;> rfl
def VO (P : Program) (n : Nat) (rs : List RO) (Γ : Env) (H : SH) (Z : List PanicEntry → Env → SH → Prop) (K : Env → SH → Prop) : Prop :=
  ∀ l, LowAll P n rs l → ∀ a w F (ZZ : Exit → Act → World → Prop) (Q : Act → World → Prop), Agree n Γ a → Sat w (H.flatten ++ F) →
    (∀ a' w' Γ' H', K Γ' H' → Agree n Γ' a' → a'.defers = a.defers → Sat w' (H'.flatten ++ F) → Keeps w w' → Q a' w') →
    (∀ ch a' w' Γ' H', Z ch Γ' H' → Agree n Γ' a' → a'.defers = a.defers → Sat w' (H'.flatten ++ F) → Keeps w w' → ZZ (.panic ch) a' w') → wpR P ZZ Q l a w
def Fun (P : Program) (f : Nat) (args : List Value) (Pre : SH) (Q : Value → SH → Prop) : Prop :=
  callable P f = true ∧ ∀ F w, Sat w (Pre.flatten ++ F) →
    Calls P f args.toArray w fun e w' => ∃ v Post, e = .returned v ∧ Q v Post ∧ Sat w' (Post.flatten ++ F) ∧ Keeps w w'
def Spl (H Pre R : SH) : Prop := H.flatten.Perm (Pre.flatten ++ R.flatten)
section
variable {P : Program} {n : Nat} {rs : List RO} {Γ Δ : Env} {H : SH} {Z : List PanicEntry → Env → SH → Prop} {K : Env → SH → Prop}
theorem VO.nil (h : K Γ H) : VO P n [] Γ H Z K := by
  intro l hl a w F ZZ Q ha hs hq hz
  obtain rfl : l = [] := by simpa using hl.1
  exact hq a w Γ H h ha rfl hs (.refl w)
theorem VO.sub (s : Sub Γ Δ) (h : VO P n rs Δ H Z K) : VO P n rs Γ H Z K := fun l hl a w F ZZ Q ha hs hq hz => h l hl a w F ZZ Q (ha.sub s) hs hq hz
theorem VO.perm {H' : SH} (p : H.flatten.Perm H'.flatten) (h : VO P n rs Γ H' Z K) : VO P n rs Γ H Z K := fun l hl a w F ZZ Q ha hs hq hz => h l hl a w F ZZ Q ha (hs.perm (p.append_right F)) hq hz
theorem VO.mono {K' : Env → SH → Prop} (h : VO P n rs Γ H Z K) (hk : ∀ Γ H, K Γ H → K' Γ H) : VO P n rs Γ H Z K' := fun l hl a w F ZZ Q ha hs hq hz => h l hl a w F ZZ Q ha hs (fun a' w' Γ' H' k => hq a' w' Γ' H' (hk _ _ k)) hz
theorem low_cons {r : RO} {l : List (RO × Oper)} (h : LowAll P n (r :: rs) l) : ∃ o l', l = (r, o) :: l' ∧ LowAll P n rs l' ∧ ∃ ops, lowRO P n ops o = some r := by
  obtain ⟨h1, h2⟩ := h
  cases l with
  | nil => simp at h1
  | cons x l =>
    simp at h1
    obtain ⟨rfl, h1⟩ := h1
    exact ⟨x.2, l, rfl, ⟨h1, fun y hy => h2 y (by simp [hy])⟩, h2 x (by simp)⟩
theorem VO.pure {d : Option Nat} {r : R} {v : Value} (hp : isPure r = true) (hv : ∀ ρ : Operand → Value, (∀ x u, ev Γ x = some u → ρ x = u) → pureV ρ r = some v) (h : VO P n rs (putE d v Γ) H Z K) : VO P n (⟨d, none, r⟩ :: rs) Γ H Z K := by
  intro l hl a w F ZZ Q ha hs hq hz
  obtain ⟨o, l', rfl, hl', ops, ho⟩ := low_cons hl
  obtain ⟨g1, g2, g3, g4⟩ := lowRO_spec ho
  show wpR1 P ZZ (_, o) (wpR P ZZ Q l') a w
  unfold wpR1
  simp only [wantedR, hp, if_true]
  exact ⟨v, hv a.eval (fun x u e => ha.ev e), h l' hl' _ w F ZZ Q (ha.putE g3 v) hs (fun a2 w2 Γ2 H2 k1 k2 k3 k4 k5 => hq a2 w2 Γ2 H2 k1 k2 (k3.trans (put_defers ..)) k4 k5) (fun ch a2 w2 Γ2 H2 k1 k2 k3 k4 k5 => hz ch a2 w2 Γ2 H2 k1 k2 (k3.trans (put_defers ..)) k4 k5)⟩
theorem VO.read {d : Option Nat} {r : R} {v : Value} (hp : isPure r = false) (hr : isRead r = true) (hv : ∀ ρ : Operand → Value, (∀ x u, ev Γ x = some u → ρ x = u) → ∃ s, memS ρ r = some s ∧ ∀ F w, Sat w (H.flatten ++ F) → s.run P w = .ok (.value v) w)
    (h : VO P n rs (putE d v Γ) H Z K) : VO P n (⟨d, none, r⟩ :: rs) Γ H Z K := by
  intro l hl a w F ZZ Q ha hs hq hz
  obtain ⟨o, l', rfl, hl', ops, ho⟩ := low_cons hl
  obtain ⟨g1, g2, g3, g4⟩ := lowRO_spec ho
  show wpR1 P ZZ (_, o) (wpR P ZZ Q l') a w
  unfold wpR1
  obtain ⟨s, h1, h2⟩ := hv a.eval (fun x u e => ha.ev e)
  simp only [wantedR, hp, hr, if_true, Bool.false_eq_true, if_false]
  exact ⟨s, v, h1, fun w2 e2 => h2 F w2 (hs.ext e2), h l' hl' _ w F ZZ Q (ha.putE g3 v) hs (fun a2 w2 Γ2 H2 k1 k2 k3 k4 k5 => hq a2 w2 Γ2 H2 k1 k2 (k3.trans (put_defers ..)) k4 k5) (fun ch a2 w2 Γ2 H2 k1 k2 k3 k4 k5 => hz ch a2 w2 Γ2 H2 k1 k2 (k3.trans (put_defers ..)) k4 k5)⟩
theorem ext_push {w : World} (o : Obj) : Ext w { w with heap := w.heap.push o } := fun i x h => by
  have hl := (Array.getElem?_eq_some_iff.1 h).1
  show (w.heap.push o)[i]? = _
  rw [Array.getElem?_push, if_neg (Nat.ne_of_lt hl)]; exact h
theorem ext_freeze {w : World} {a : Addr} {n : Nat} (h : w.heap.size ≤ a.block) : ∀ {w' : World}, Ext w w' → Ext w (w'.freeze a n) := by
  intro w' e i o hi
  have hl := (Array.getElem?_eq_some_iff.1 hi).1
  unfold World.freeze
  split
  · exact e _ _ hi
  · have := e _ _ hi
    simp only [Array.getElem?_modify, this, if_neg (show ¬ a.block = i by omega)]
theorem run_new_ext {w w' : World} {c : Array Value} {t : TypeId} {f : Nat → Next} {nx : Next} (h : (do let b ← Go.newObj (.cells c t); pure (f b) : Sem Next).run P w = .ok nx w') : nx = f w.heap.size ∧ Ext w w' := by
  simp only [Go.newObj, Sem.run_bind, Sem.run, Sem.run_pure, Result.andThen_ok] at h
  cases h
  exact ⟨rfl, ext_push _⟩
theorem run_s2b_ext {w w' : World} {t : TypeId} {s : ByteArray} {v : Value} (h : (Conv.stringToBytes t s).run P w = .ok v w') : Ext w w' := by
  unfold Conv.stringToBytes at h
  rw [Sem.run_bind] at h
  obtain ⟨cap, w1, h1, h2⟩ := andThen_ok_of h
  have e1 : w1.heap = w.heap := by
    simp only [Go.choose, Sem.run] at h1
    split at h1 <;> (cases h1; rfl)
  have x1 : Ext w w1 := fun i o e => by rw [e1]; exact e
  refine x1.trans ?_
  rw [Sem.run_bind] at h2
  obtain ⟨a, w2, h3, h4⟩ := andThen_ok_of h2
  have h3' : a = ⟨w1.heap.size, 0, none⟩ ∧ w2 = { w1 with heap := w1.heap.push (.cells (s.data.map (fun b => Value.int .u8 b.toNat) ++ Array.replicate (cap - s.size) (.int .u8 0)) t) } := by
    simp only [newRow, Go.newObj, Sem.run_bind, Sem.run, Sem.run_pure, Result.andThen_ok] at h3
    cases h3; exact ⟨rfl, rfl⟩
  obtain ⟨rfl, rfl⟩ := h3'
  rw [Sem.run_bind] at h4
  obtain ⟨_, w3, h5, h6⟩ := andThen_ok_of h4
  rw [Sem.run_pure] at h6
  cases h6
  unfold markStringish at h5
  rw [Sem.run_bind] at h5
  simp only [Go.shape, Sem.run, Result.andThen_ok] at h5
  split at h5
  · simp only [Go.freeze, Sem.run] at h5
    cases h5
    exact ext_freeze (Nat.le_refl _) (ext_push _)
  · rw [Sem.run_pure] at h5
    cases h5
    exact ext_push _
theorem memS_new {ρ : Operand → Value} {r : R} {s : Sem Next} {w w' : World} {nx : Next} (hn : isNew r = true) (hs : memS ρ r = some s) (h : s.run P w = .ok nx w') : ∃ u, nx = .value u ∧ Ext w w' := by
  cases r <;> simp only [isNew] at hn <;> first | (cases hn; done) | skip
  all_goals (simp only [memS, Option.some.injEq] at hs; subst hs)
  case alloc => obtain ⟨rfl, e⟩ := run_new_ext h; exact ⟨_, rfl, e⟩
  case box => obtain ⟨rfl, e⟩ := run_new_ext h; exact ⟨_, rfl, e⟩
  case bslice =>
    split at h
    · obtain ⟨rfl, e⟩ := run_new_ext h; exact ⟨_, rfl, e⟩
    · simp [stuck, Sem.run] at h
  case mkmap =>
    simp only [Go.newObj, Sem.run_bind, Sem.run, Sem.run_pure, Result.andThen_ok] at h
    cases h
    exact ⟨_, rfl, ext_push _⟩
  case s2b =>
    split at h
    · rw [Sem.run_bind] at h
      obtain ⟨v, w1, h1, h2⟩ := andThen_ok_of h
      rw [Sem.run_pure] at h2
      cases h2
      exact ⟨_, rfl, run_s2b_ext h1⟩
    · simp [stuck, Sem.run] at h
theorem VO.act {d : Option Nat} {r : R} (hp : isPure r = false) (hr : isRead r = false)
    (hv : ∀ ρ : Operand → Value, (∀ x u, ev Γ x = some u → ρ x = u) → ∃ s, memS ρ r = some s ∧ SWP P s H.flatten fun nx L => ∃ v H', (nx = .value v ∨ (nx = .skip ∧ v = undef)) ∧ L.Perm H'.flatten ∧ VO P n rs (putE d v Γ) H' Z K) :
    VO P n (⟨d, none, r⟩ :: rs) Γ H Z K := by
  intro l hl a w F ZZ Q ha hs hq hz
  obtain ⟨o, l', rfl, hl', ops, ho⟩ := low_cons hl
  obtain ⟨g1, g2, g3, g4⟩ := lowRO_spec ho
  show wpR1 P ZZ (_, o) (wpR P ZZ Q l') a w
  unfold wpR1
  obtain ⟨s, h1, h2⟩ := hv a.eval (fun x u e => ha.ev e)
  simp only [wantedR, hp, hr, if_true, Bool.false_eq_true, if_false]
  obtain ⟨nx, w', L, hrun, ⟨v, H', hnx, hL, hvo⟩, hs', hk⟩ := h2 F w hs
  have hrun' := mem_sound (eval_const a) g1 h1 hrun
  refine ⟨fun hn => ?_, ?_⟩
  · obtain ⟨u, hu, hext⟩ := memS_new hn h1 hrun
    exact ⟨u, w', by rw [hrun', hu], hext⟩
  have fin : wpR P ZZ Q l' (a.put o.dst v) w' := by
    rw [← g2]
    exact hvo l' hl' _ w' F ZZ Q (ha.putE g3 v) (hs'.perm (hL.append_right F)) (fun a2 w2 Γ2 H2 k1 k2 k3 k4 k5 => hq a2 w2 Γ2 H2 k1 k2 (k3.trans (put_defers ..)) k4 (hk.trans k5)) (fun ch a2 w2 Γ2 H2 k1 k2 k3 k4 k5 => hz ch a2 w2 Γ2 H2 k1 k2 (k3.trans (put_defers ..)) k4 (hk.trans k5))
  rcases hnx with rfl | ⟨rfl, rfl⟩
  · simpa only [wpV, hrun', uponV] using fin
  · simpa only [wpV, hrun', uponV] using fin
theorem VO.act' {d : Option Nat} {r : R} (hp : isPure r = false) (hr : isRead r = false)
    (hv : ∀ ρ : Operand → Value, (∀ x u, ev Γ x = some u → ρ x = u) → ∃ s, memS ρ r = some s ∧ SWP P s H.flatten fun nx L => ∃ v H' X, (nx = .value v ∨ (nx = .skip ∧ v = undef)) ∧ L.Perm (List.flatten H' ++ X) ∧ VO P n rs (putE d v Γ) H' Z K) :
    VO P n (⟨d, none, r⟩ :: rs) Γ H Z K := by
  refine VO.act hp hr (fun ρ hρ => ?_)
  obtain ⟨s, h1, h2⟩ := hv ρ hρ
  refine ⟨s, h1, fun F w hs => ?_⟩
  obtain ⟨nx, w', L, k1, ⟨v, H', X, k2, k3, k4⟩, k5, k6⟩ := h2 F w hs
  refine ⟨nx, w', H'.flatten, k1, ⟨v, H', k2, .refl _, k4⟩, ?_, k6⟩
  have := k5.perm (k3.append_right F)
  rw [List.append_assoc] at this
  exact this.sub ((List.Sublist.refl _).append (List.sublist_append_right _ _))
theorem run_callFunc {f : Nat} {args : Array Value} {w : World} (h : callable P f = true) : (callFunc f args).run P w = .ok (.enter f args) w := by
  unfold callable at h
  split at h
  · rename_i fn hf
    simp only [Bool.and_eq_true, bne_iff_ne] at h
    obtain ⟨c, hc⟩ := Option.isSome_iff_exists.1 h.2
    simp [callFunc, hf, h.1, hc]
  · cases h
theorem wp_call {o : Oper} {a : Act} {w : World} {f : Nat} {args : List Value} {next : Act → World → Prop} {ZZ : Exit → Act → World → Prop} (he : (execOp a.eval o).run P w = .ok (.enter f args.toArray) w)
    (h : Calls P f args.toArray w fun e w' => (∃ v, e = .returned v ∧ next (a.put o.dst v) w') ∨ (∃ ch, e = .panicked ch ∧ ZZ (.panic ch) a w')) : wpV P o a w next ZZ := by
  simp only [wpV, he, uponV]
  refine h.mono ?_
  rintro e w' (⟨v, rfl, hn⟩ | ⟨ch, rfl, hn⟩)
  · exact hn
  · exact hn
theorem VO.call_aux {d : Option Nat} {r : R} {f : Nat} {args : List Value} {Pre R : SH} {Q : Value → SH → Prop} (hp : isPure r = false) (hr : isRead r = false) (hnw : isNew r = false)
    (hx : ∀ (a : Act) (w : World) (o : Oper), (∀ x u, ev Γ x = some u → a.eval x = u) → lowOp P o.op = some r → (execOp a.eval o).run P w = .ok (.enter f args.toArray) w)
    (hf : Fun P f args Pre Q) (hs : Spl H Pre R) (h : ∀ v Post, Q v Post → VO P n rs (putE d v Γ) (Post ++ R) Z K) : VO P n (⟨d, none, r⟩ :: rs) Γ H Z K := by
  intro l hl a w F ZZ Q' ha hsat hq hz
  obtain ⟨o, l', rfl, hl', ops, ho⟩ := low_cons hl
  obtain ⟨g1, g2, g3, g4⟩ := lowRO_spec ho
  show wpR1 P ZZ (_, o) (wpR P ZZ Q' l') a w
  unfold wpR1
  simp only [wantedR, hp, hr, if_true, Bool.false_eq_true, if_false]
  refine ⟨fun e => (by rw [hnw] at e; cases e), ?_⟩
  refine wp_call (hx a w o (fun x u e => ha.ev e) g1) ?_
  have hsat' : Sat w (Pre.flatten ++ (R.flatten ++ F)) := by
    rw [← List.append_assoc]; exact hsat.perm (hs.append_right F)
  refine (hf.2 (R.flatten ++ F) w hsat').mono ?_
  rintro e w' ⟨v, Post, rfl, hQ, hs', hk⟩
  refine .inl ⟨v, rfl, ?_⟩
  rw [← g2]
  refine h v Post hQ l' hl' _ w' F ZZ Q' (ha.putE g3 v) ?_ (fun a2 w2 Γ2 H2 k1 k2 k3 k4 k5 => hq a2 w2 Γ2 H2 k1 k2 (k3.trans (put_defers ..)) k4 (hk.trans k5)) (fun ch a2 w2 Γ2 H2 k1 k2 k3 k4 k5 => hz ch a2 w2 Γ2 H2 k1 k2 (k3.trans (put_defers ..)) k4 (hk.trans k5))
  rw [List.flatten_append, List.append_assoc]; exact hs'
theorem low_call {op : Op} {f : Nat} {xs : List Operand} (h : lowOp P op = some (.call f xs)) : ∃ c, op = .call c ∧ c.callee = .value (.func f) ∧ c.args.toList = xs ∧ callable P f = true := by
  cases op
  case call c =>
    refine ⟨c, rfl, ?_⟩
    obtain ⟨callee, args, ats⟩ := c
    simp only [lowOp] at h
    split at h
    · split at h
      · rename_i hc; cases h; exact ⟨rfl, rfl, hc⟩
      · cases h
    · cases h
    all_goals (repeat' split at h)
    all_goals first
      | (cases h; done)
      | (simp only [Option.map_eq_some_iff] at h; obtain ⟨_, _, h⟩ := h; cases h; done)
  all_goals (exfalso; try simp only [lowOp] at h)
  all_goals (repeat' split at h)
  all_goals first
    | (cases h; done)
    | (simp only [Option.map_eq_some_iff] at h; obtain ⟨_, _, h⟩ := h; cases h; done)
theorem low_callv {op : Op} {x : Operand} {xs : List Operand} (h : lowOp P op = some (.callv x xs)) : ∃ c, op = .call c ∧ c.callee = .value x ∧ c.args.toList = xs := by
  cases op
  case call c =>
    refine ⟨c, rfl, ?_⟩
    obtain ⟨callee, args, ats⟩ := c
    simp only [lowOp] at h
    split at h
    · split at h
      · cases h
      · cases h
    · cases h; exact ⟨rfl, rfl⟩
    all_goals (repeat' split at h)
    all_goals first
      | (cases h; done)
      | (simp only [Option.map_eq_some_iff] at h; obtain ⟨_, _, h⟩ := h; cases h; done)
  all_goals (exfalso; try simp only [lowOp] at h)
  all_goals (repeat' split at h)
  all_goals first
    | (cases h; done)
    | (simp only [Option.map_eq_some_iff] at h; obtain ⟨_, _, h⟩ := h; cases h; done)
theorem VO.call {d : Option Nat} {f : Nat} {xs : List Operand} {args : List Value} {Pre R : SH} {Q : Value → SH → Prop} (hf : Fun P f args Pre Q) (he : evs Γ xs = some args) (hs : Spl H Pre R)
    (h : ∀ v Post, Q v Post → VO P n rs (putE d v Γ) (Post ++ R) Z K) : VO P n (⟨d, none, .call f xs⟩ :: rs) Γ H Z K := by
  refine VO.call_aux rfl rfl rfl (fun a w o ha hl => ?_) hf hs h
  obtain ⟨c, h1, h2, h3, h4⟩ := low_call hl
  have hm : xs.map a.eval = args := by
    have : ∀ {l : List Operand} {vs : List Value}, evs Γ l = some vs → l.map a.eval = vs := by
      intro l
      induction l with
      | nil => intro vs e; simp [evs] at e; subst e; rfl
      | cons x r ih =>
        intro vs e
        simp only [evs] at e
        split at e
        · rename_i v l hv hl; cases e; simp [ha _ _ hv, ih hl]
        · cases e
    exact this he
  have hargs : (c.args.map a.eval) = args.toArray := by
    apply Array.toList_inj.1; rw [Array.toList_map, h3, hm]
  simp [execOp, h1, resolve, h2, Act.eval, Deferred.ofValue, invoke, hargs, run_callFunc h4]
theorem VO.callv {d : Option Nat} {x : Operand} {f : Nat} {first cap : Array Value} {xs : List Operand} {args : List Value} {Pre R : SH} {Q : Value → SH → Prop} (hx : ev Γ x = some (.func (.func f) first cap))
    (hf : Fun P f (first.toList ++ args ++ cap.toList) Pre Q) (he : evs Γ xs = some args) (hs : Spl H Pre R)
    (h : ∀ v Post, Q v Post → VO P n rs (putE d v Γ) (Post ++ R) Z K) : VO P n (⟨d, none, .callv x xs⟩ :: rs) Γ H Z K := by
  refine VO.call_aux rfl rfl rfl (fun a w o ha hl => ?_) hf hs h
  obtain ⟨c, h1, h2, h3⟩ := low_callv hl
  have hm : xs.map a.eval = args := by
    have : ∀ {l : List Operand} {vs : List Value}, evs Γ l = some vs → l.map a.eval = vs := by
      intro l
      induction l with
      | nil => intro vs e; simp [evs] at e; subst e; rfl
      | cons x r ih =>
        intro vs e
        simp only [evs] at e
        split at e
        · rename_i v l hv hl; cases e; simp [ha _ _ hv, ih hl]
        · cases e
    exact this he
  have hargs : (c.args.map a.eval) = args.toArray := by
    apply Array.toList_inj.1; rw [Array.toList_map, h3, hm]
  have hall : first ++ args.toArray ++ cap = (first.toList ++ args ++ cap.toList).toArray := by
    apply Array.toList_inj.1; simp
  rw [← hall]
  simp [execOp, h1, resolve, h2, ha _ _ hx, Deferred.ofValue, invoke, hargs]
  rw [run_callFunc hf.1]
end
end Go.V

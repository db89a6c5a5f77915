/-
  Functions that may panic; what is caught.
-/
import Derived.Test.YtmpdaalhafkgjaaGreatDoorV6
import Derived.RecoverIn
set_option linter.unusedSimpArgs false
set_option linter.unusedVariables false
namespace Go.V
open Go
def FunP (P : Program) (f : Nat) (args : List Value) (Pre : SH) (Q : Value → SH → Prop) (Z : List PanicEntry → SH → Prop) : Prop :=
  callable P f = true ∧ ∀ F w, Sat w (Pre.flatten ++ F) →
    Calls P f args.toArray w fun e w' => ∃ Post, ((∃ v, e = .returned v ∧ Q v Post) ∨ (∃ ch, e = .panicked ch ∧ Z ch Post)) ∧ Sat w' (Post.flatten ++ F) ∧ Keeps w w'
section
variable {P : Program} {f : Nat} {args : List Value} {Pre : SH} {Q Q' : Value → SH → Prop} {Z Z' : List PanicEntry → SH → Prop}
theorem FunP.mono (h : FunP P f args Pre Q Z) (hq : ∀ v Post, Q v Post → Q' v Post) (hz : ∀ ch Post, Z ch Post → Z' ch Post) : FunP P f args Pre Q' Z' :=
  ⟨h.1, fun F w hs => (h.2 F w hs).mono fun _ _ ⟨Post, a, b, c⟩ => ⟨Post, a.imp (fun ⟨v, e, q⟩ => ⟨v, e, hq _ _ q⟩) (fun ⟨ch, e, q⟩ => ⟨ch, e, hz _ _ q⟩), b, c⟩⟩
theorem FunP.of_fun (h : Fun P f args Pre Q) : FunP P f args Pre Q Z :=
  ⟨h.1, fun F w hs => (h.2 F w hs).mono fun _ _ ⟨v, Post, a, b, c, d⟩ => ⟨Post, .inl ⟨v, a, b⟩, c, d⟩⟩
theorem FunP.fun (h : FunP P f args Pre Q (fun _ _ => False)) : Fun P f args Pre Q :=
  ⟨h.1, fun F w hs => (h.2 F w hs).mono fun _ _ ⟨Post, a, b, c⟩ => by
    rcases a with ⟨v, e, q⟩ | ⟨ch, e, q⟩
    · exact ⟨v, Post, e, q, b, c⟩
    · exact q.elim⟩
theorem FunP.conv {H R : SH} (h : FunP P f args Pre Q Z) (hs : Spl H Pre R) (hq : ∀ v Post, Q v Post → ∃ Post', Q' v Post' ∧ Imp (Post ++ R) Post') (hz : ∀ ch Post, Z ch Post → ∃ Post', Z' ch Post' ∧ Imp (Post ++ R) Post') : FunP P f args H Q' Z' := by
  refine ⟨h.1, fun F w hw => ?_⟩
  have hw' : Sat w (Pre.flatten ++ (R.flatten ++ F)) := by
    rw [← List.append_assoc]; exact hw.perm (List.Perm.append_right F hs)
  refine (h.2 (R.flatten ++ F) w hw').mono ?_
  rintro e w' ⟨Post, h1, h3, h4⟩
  have h3' : Sat w' ((Post ++ R).flatten ++ F) := by rw [List.flatten_append, List.append_assoc]; exact h3
  rcases h1 with ⟨v, e1, q⟩ | ⟨ch, e1, q⟩
  · obtain ⟨Post', h5, h6⟩ := hq v Post q
    exact ⟨Post', .inl ⟨v, e1, h5⟩, Sat.imp h6 h3', h4⟩
  · obtain ⟨Post', h5, h6⟩ := hz ch Post q
    exact ⟨Post', .inr ⟨ch, e1, h5⟩, Sat.imp h6 h3', h4⟩
end
section
variable {P : Program} {n : Nat} {rs : List RO} {Γ : Env} {H : SH} {Z : List PanicEntry → Env → SH → Prop} {K : Env → SH → Prop} {d : Option Nat}
theorem st_callZ {f : Nat} {xs : List Operand} {args : List Value} {Pre R : SH} {Q : Value → SH → Prop} {Z' : List PanicEntry → SH → Prop} (hf : FunP P f args Pre Q Z') (he : evs Γ xs = some args) (hs : Spl H Pre R)
    (h : ∀ v Post, Q v Post → VO P n rs (putE d v Γ) (Post ++ R) Z K) (hz' : ∀ ch Post, Z' ch Post → Z ch Γ (Post ++ R)) : VO P n (⟨d, none, .call f xs⟩ :: rs) Γ H Z K := by
  intro l hl a w F ZZ Q' ha hsat hq hz
  obtain ⟨o, l', rfl, hl', ops, ho⟩ := low_cons hl
  obtain ⟨g1, g2, g3, g4⟩ := lowRO_spec ho
  show wpR1 P ZZ (_, o) (wpR P ZZ Q' l') a w
  unfold wpR1
  simp only [wantedR, show isPure (V.R.call f xs) = false from rfl, show isRead (V.R.call f xs) = false from rfl, if_true, Bool.false_eq_true, if_false]
  refine ⟨fun e => (by cases e), ?_⟩
  obtain ⟨c, h1, h2, h3, h4⟩ := low_call g1
  have hargs : (c.args.map a.eval) = args.toArray := by
    apply Array.toList_inj.1; rw [Array.toList_map, h3, ha.evs he]
  have hrun : (execOp a.eval o).run P w = .ok (.enter f args.toArray) w := by
    simp [execOp, h1, resolve, h2, Act.eval, Deferred.ofValue, invoke, hargs, run_callFunc h4]
  refine wp_call hrun ?_
  have hsat' : Sat w (Pre.flatten ++ (R.flatten ++ F)) := by
    rw [← List.append_assoc]; exact hsat.perm (hs.append_right F)
  refine (hf.2 (R.flatten ++ F) w hsat').mono ?_
  rintro e w' ⟨Post, h5, hs', hk⟩
  have hs2 : Sat w' ((Post ++ R).flatten ++ F) := by rw [List.flatten_append, List.append_assoc]; exact hs'
  rcases h5 with ⟨v, rfl, hQ⟩ | ⟨ch, rfl, hQ⟩
  · refine .inl ⟨v, rfl, ?_⟩
    rw [← g2]
    exact h v Post hQ l' hl' _ w' F ZZ Q' (ha.putE g3 v) hs2 (fun a2 w2 Γ2 H2 k1 k2 k3 k4 k5 => hq a2 w2 Γ2 H2 k1 k2 (k3.trans (put_defers ..)) k4 (hk.trans k5)) (fun ch a2 w2 Γ2 H2 k1 k2 k3 k4 k5 => hz ch a2 w2 Γ2 H2 k1 k2 (k3.trans (put_defers ..)) k4 (hk.trans k5))
  · exact .inr ⟨ch, rfl, hz ch a w' Γ _ (hz' ch Post hQ) ha rfl hs2 hk⟩
theorem st_pnc {x : Operand} {t : TypeId} {v : Value} (hx : ev Γ x = some (.iface t v)) (h : Z [{ v := .iface t v, recovered := false }] Γ H) : VO P n (⟨d, none, .pnc x⟩ :: rs) Γ H Z K := by
  intro l hl a w F ZZ Q' ha hsat hq hz
  obtain ⟨o, l', rfl, hl', ops, ho⟩ := low_cons hl
  obtain ⟨g1, g2, g3, g4⟩ := lowRO_spec ho
  show wpR1 P ZZ (_, o) (wpR P ZZ Q' l') a w
  unfold wpR1
  simp only [wantedR, show isPure (V.R.pnc x) = false from rfl, show isRead (V.R.pnc x) = false from rfl, if_true, Bool.false_eq_true, if_false]
  refine ⟨fun e => (by cases e), ?_⟩
  have hop : o.op = .panic x := by
    obtain ⟨dst, op, ty, pos, after, guard⟩ := o
    simp only at g1 ⊢
    cases op
    case panic y => simp only [lowOp, Option.some.injEq, V.R.pnc.injEq] at g1; rw [g1]
    all_goals (exfalso; try simp only [lowOp] at g1)
    all_goals (repeat' split at g1)
    all_goals first
      | (cases g1; done)
      | (simp only [Option.map_eq_some_iff] at g1; obtain ⟨_, _, g1⟩ := g1; cases g1; done)
  have hrun : (execOp a.eval o).run P w = .halt (.panic (.iface t v)) w := by
    simp [execOp, hop, ha.ev hx, Instr.panic, goPanic, Sem.run]
  simp only [wpV, hrun, uponV]
  exact hz _ a w Γ H h ha rfl hsat (.refl w)
end
def endP (res : List RV) (Q : Value → SH → Prop) (Z : List PanicEntry → SH → Prop) : Exit → Env → SH → Prop
  | .panic ch, _, H => ∃ Post, Imp H Post ∧ Z ch Post
  | e, Γ, H => endQ res Q e Γ H
theorem endP_mk {res : List RV} {Q : Value → SH → Prop} {Z : List PanicEntry → SH → Prop} {e : Exit} {Γ : Env} {H : SH} (h : endQ res Q e Γ H) : endP res Q Z e Γ H := by
  have he := h.1
  rcases he with rfl | rfl <;> exact h
section
variable {P : Program} {fn : Func} {tmps : Array Value} {FF : List Atom} {w0 : World}
theorem leaves_marksU {R : Ending → World → Prop} {ds : List Deferred} {L : List Atom} {u : FrameMode} (hu : u ≠ .run) : ∀ (X : List Nat) (w' : World), Sat w' (L ++ (FF ++ marks X)) → Keeps w0 w' →
    (∀ w'', Sat w'' (L ++ FF) → Keeps w0 w'' → LeavesInM (VFc none) 0 P fn tmps R ds u w'') → LeavesInM (VFc none) 0 P fn tmps R (X.map coll ++ ds) u w' := by
  intro X
  induction X with
  | nil => intro w' hs hk h; exact h w' (by simpa [V.marks] using hs) hk
  | cons r X ih =>
    intro w' hs hk h
    have hp : (L ++ (FF ++ V.marks (r :: X))).Perm (.obj r (.deferred (some [])) :: (L ++ (FF ++ V.marks X))) := by
      simp only [V.marks, List.map_cons]
      rw [← List.append_assoc, ← List.append_assoc]
      exact List.perm_middle
    have g5 := hs.perm hp
    obtain ⟨k1, k2⟩ := g5.obj (List.mem_cons_self ..)
    obtain ⟨s1, s2⟩ := Sat.setObj (u := .deferred none) g5 rfl
    refine ⟨hu, .inl ⟨r, _, rfl, ?_, ih _ (s1.sub (List.sublist_cons_self ..)) (hk.trans s2) h⟩⟩
    simp [Instr.takeDeferred, Go.getObj, Go.setObj, Sem.run, k1]
end
theorem FunP.intro {P : Program} {kp : Nat → List Nat} {od : Nat → List (List Nat)} {f : Nat} {F : FIR} {args : List Value} {Pre : SH} {Q : Value → SH → Prop} {Z : List PanicEntry → SH → Prop} (hl : lowF P kp od f = some F) (hn : args.length ≤ F.n)
    (h : VC P F.n F.body (argsEnv 0 args) Pre (endP F.res Q Z)) : FunP P f args Pre Q Z := by
  unfold lowF at hl
  split at hl
  · cases hl
  rename_i fn hfn
  split at hl
  · cases hl
  rename_i c hc
  split at hl
  case isFalse => cases hl
  rename_i hname
  split at hl
  case h_2 => cases hl
  rename_i b r hb hr
  cases hl
  refine ⟨by simp only [callable, hfn, hname, hc]; rfl, fun FF w hs => ?_⟩
  refine (callsIn_wide (n := 0)).1 (callsIn_of_wp_marks hfn hc trivial (h none kp od c hb _ w FF _ (fun l e => by cases e) ⟨?_, fun t v e => ?_⟩ hs (fun e a' w' Γ' H' X q g1 g2 g3 g4 => ?_)))
  · simp at hn ⊢; omega
  · obtain ⟨_, h2⟩ := look_argsEnv e
    simp only [Nat.sub_zero] at h2
    have hlt : t < args.length := (List.getElem?_eq_some_iff.1 h2).1
    simp only [Array.getElem?_append, List.size_toArray, hlt, if_true]
    simpa using h2
  · have hret : ∀ e0, endQ r Q e0 Γ' H' → LeavesInM (VFc none) 0 P fn a'.tmps (fun e w' => ∃ Post, ((∃ v, e = .returned v ∧ Q v Post) ∨ (∃ ch, e = .panicked ch ∧ Z ch Post)) ∧ Sat w' (Post.flatten ++ FF) ∧ Keeps w w') a'.defers .returning w' := by
      rintro e0 ⟨_, vs, Post, h1, h2, h3⟩
      have := leaves_marksU (P := P) (fn := fn) (tmps := a'.tmps) (w0 := w) (FF := FF) (L := H'.flatten) (u := .returning) (R := fun e w' => ∃ Post, ((∃ v, e = .returned v ∧ Q v Post) ∨ (∃ ch, e = .panicked ch ∧ Z ch Post)) ∧ Sat w' (Post.flatten ++ FF) ∧ Keeps w w') (ds := []) (by simp) X w' g3 g4
        (fun w'' s k => ⟨_, run_results s hr g1 h1, Post, .inl ⟨_, rfl, h3⟩, s.imp h2, k⟩)
      rw [g2]; exact this
    cases e with
    | normal => exact hret _ q
    | ret => exact hret _ q
    | panic ch =>
      obtain ⟨Post, h2, h3⟩ := q
      have := leaves_marksU (P := P) (fn := fn) (tmps := a'.tmps) (w0 := w) (FF := FF) (L := H'.flatten) (u := .panicking ch) (R := fun e w' => ∃ Post, ((∃ v, e = .returned v ∧ Q v Post) ∨ (∃ ch, e = .panicked ch ∧ Z ch Post)) ∧ Sat w' (Post.flatten ++ FF) ∧ Keeps w w') (ds := []) (by simp) X w' g3 g4
        (fun w'' s k => (⟨Post, .inr ⟨ch, rfl, h3⟩, s.imp h2, k⟩ : ∃ Post, _))
      show LeavesInM _ _ _ _ _ _ a'.defers _ _
      rw [g2]; exact this
    | exit id => exact absurd q.1 (by simp)
    | goto l => exact absurd q.1 (by simp)
    | outgrown => exact absurd q.1 (by simp)
def FunVP (P : Program) (fv : Value) (args : List Value) (Pre : SH) (Q : Value → SH → Prop) (Z : List PanicEntry → SH → Prop) : Prop :=
  ∀ F w, Sat w (Pre.flatten ++ F) → Invk P fv args w fun e w' => ∃ Post, ((∃ v, e = .returned v ∧ Q v Post) ∨ (∃ ch, e = .panicked ch ∧ Z ch Post)) ∧ Sat w' (Post.flatten ++ F) ∧ Keeps w w'
theorem FunVP.of_fun {P : Program} {f : Nat} {first cap : Array Value} {args : List Value} {Pre : SH} {Q : Value → SH → Prop} {Z : List PanicEntry → SH → Prop} (h : FunP P f (first.toList ++ args ++ cap.toList) Pre Q Z) : FunVP P (.func (.func f) first cap) args Pre Q Z := by
  intro F w hs
  refine ⟨h.1, ?_⟩
  have hall : first ++ args.toArray ++ cap = (first.toList ++ args ++ cap.toList).toArray := by
    apply Array.toList_inj.1; simp
  rw [hall]
  exact h.2 F w hs
theorem st_callVZ {P : Program} {n : Nat} {rs : List RO} {Γ : Env} {H : SH} {Z : List PanicEntry → Env → SH → Prop} {K : Env → SH → Prop} {d : Option Nat} {x : Operand} {fv : Value} {xs : List Operand} {args : List Value} {Pre R : SH} {Q : Value → SH → Prop} {Z' : List PanicEntry → SH → Prop}
    (hx : ev Γ x = some fv) (hf : FunVP P fv args Pre Q Z') (he : evs Γ xs = some args) (hs : Spl H Pre R)
    (h : ∀ v Post, Q v Post → VO P n rs (putE d v Γ) (Post ++ R) Z K) (hz' : ∀ ch Post, Z' ch Post → Z ch Γ (Post ++ R)) : VO P n (⟨d, none, .callv x xs⟩ :: rs) Γ H Z K := by
  intro l hl a w F ZZ Q' ha hsat hq hz
  obtain ⟨o, l', rfl, hl', ops, ho⟩ := low_cons hl
  obtain ⟨g1, g2, g3, g4⟩ := lowRO_spec ho
  show wpR1 P ZZ (_, o) (wpR P ZZ Q' l') a w
  unfold wpR1
  have hp : isPure (V.R.callv x xs) = false := rfl
  have hr : isRead (V.R.callv x xs) = false := rfl
  simp only [wantedR, hp, hr, if_true, Bool.false_eq_true, if_false]
  refine ⟨fun e => (by cases e), ?_⟩
  obtain ⟨c, h1, h2, h3⟩ := low_callv g1
  have hm : xs.map a.eval = args := ha.evs he
  have hargs : (c.args.map a.eval) = args.toArray := by
    apply Array.toList_inj.1; rw [Array.toList_map, h3, hm]
  have hsat' : Sat w (Pre.flatten ++ (R.flatten ++ F)) := by
    rw [← List.append_assoc]; exact hsat.perm (hs.append_right F)
  have hi := hf (R.flatten ++ F) w hsat'
  have fin : ∀ (e : Ending) (w' : World), (∃ Post, ((∃ v, e = .returned v ∧ Q v Post) ∨ (∃ ch, e = .panicked ch ∧ Z' ch Post)) ∧ Sat w' (Post.flatten ++ (R.flatten ++ F)) ∧ Keeps w w') →
      (∃ v, e = .returned v ∧ wpR P ZZ Q' l' (a.put o.dst v) w') ∨ (∃ ch, e = .panicked ch ∧ ZZ (.panic ch) a w') := by
    rintro e w' ⟨Post, h5, hs', hk⟩
    have hs2 : Sat w' ((Post ++ R).flatten ++ F) := by rw [List.flatten_append, List.append_assoc]; exact hs'
    rcases h5 with ⟨v, rfl, hQ⟩ | ⟨ch, rfl, hQ⟩
    · refine .inl ⟨v, rfl, ?_⟩
      rw [← g2]
      exact h v Post hQ l' hl' _ w' F ZZ Q' (ha.putE g3 v) hs2 (fun a2 w2 Γ2 H2 k1 k2 k3 k4 k5 => hq a2 w2 Γ2 H2 k1 k2 (k3.trans (put_defers ..)) k4 (hk.trans k5)) (fun ch a2 w2 Γ2 H2 k1 k2 k3 k4 k5 => hz ch a2 w2 Γ2 H2 k1 k2 (k3.trans (put_defers ..)) k4 (hk.trans k5))
    · exact .inr ⟨ch, rfl, hz ch a w' Γ _ (hz' ch Post hQ) ha rfl hs2 hk⟩
  have hev : a.eval x = fv := ha.ev hx
  unfold Invk at hi
  split at hi
  · rename_i f first cap
    have hrun : (execOp a.eval o).run P w = .ok (.enter f (first ++ args.toArray ++ cap)) w := by
      simp [execOp, h1, resolve, h2, hev, Deferred.ofValue, invoke, hargs]
      rw [run_callFunc hi.1]
    simp only [wpV, hrun, uponV]
    refine hi.2.mono (fun e w' he => ?_)
    rcases fin e w' he with ⟨v, rfl, hv⟩ | ⟨ch, rfl, hv⟩ <;> exact hv
  · rename_i l0 first cap
    obtain ⟨f, tmps, asg, body, hy, hrd⟩ := hi
    have hrun : (execOp a.eval o).run P w = .ok (.round l0 f tmps asg body) w := by
      simp [execOp, h1, resolve, h2, hev, Deferred.ofValue, invoke, hargs]
      exact hy
    simp only [wpV, hrun, uponV]
    refine hrd.mono (fun e w' he => ?_)
    rcases fin e w' he with ⟨v, rfl, hv⟩ | ⟨ch, rfl, hv⟩ <;> exact hv
  · exact hi.elim
def okRcv (r : R) : Bool := isPure r || isRead r || isNew r || (match r with | .store .. => true | _ => false)
def isRcv (o : Oper) : Bool := match o.op with
  | .call c => (match c.callee with | .builtin .recover => true | _ => false) && o.guard.isNone
  | _ => false
def lowRcv (P : Program) (n : Nat) (kp : Nat → List Nat) (od : Nat → List (List Nat)) : Code → Option (Nat × List RO × IC)
  | .seq (.region _ ops false) c => match ops.toList with
    | o1 :: os => if isRcv o1 then match o1.dst, lowList P n ops os, lowC P n kp od c with
      | some d, some rs, some y => if d < n ∧ rs.all (fun r => okRcv r.op) = true then some (d, rs, y) else none
      | _, _, _ => none else none
    | [] => none
  | _ => none
structure RIR where
  n : Nat
  res : List RV
  d : Nat
  rs : List RO
  post : IC
def lowFR (P : Program) (kp : Nat → List Nat) (od : Nat → List (List Nat)) (f : Nat) : Option RIR :=
  match P.funcs[f]? with
  | none => none
  | some fn => match fn.body with
    | none => none
    | some c => if fn.name != "runtime.NumGoroutine" then
        match lowRcv P fn.ntmps kp od c, resTmps P fn.results.toList with
        | some (d, rs, y), some r => some ⟨fn.ntmps, r, d, rs, y⟩
        | _, _ => none
      else none
def FunDR (P : Program) (f : Nat) (args : List Value) (u u' : FrameMode) (Pre : SH) (Q : SH → Prop) : Prop :=
  callable P f = true ∧ ∀ F w, Sat w (Pre.flatten ++ F) → CallsDIn (VFc none) 0 P f args.toArray u w fun e u2 w' => u2 = u' ∧ ∃ v Post, e = .returned v ∧ Q Post ∧ Sat w' (Post.flatten ++ F) ∧ Keeps w w'
inductive Rcv : FrameMode → Value → FrameMode → Prop where
  | none : Rcv .returning .nilIface .returning
  | some {v : Value} : Rcv (.panicking [{ v := v, recovered := false }]) v (.panicking [{ v := v, recovered := true }])
section
variable {P : Program} {n m : Nat} {ops : Array Oper} {Q : Exit → Act → List Frame → World → Prop} {cs : List Frame}
theorem run_storeO {o : Oper} {t : TypeId} {x y : Operand} (h : o.op = .store t x y) {ρ : Operand → Value} {w : World} : (∃ w', (execOp ρ o).run P w = .ok .skip w') ∨ (∃ e w', (execOp ρ o).run P w = .halt e w') := by
  simp only [execOp, h]
  rw [Sem.run_bind]
  cases hh : (Instr.storeAt t (ρ x) (ρ y)).run P w with
  | ok v w' => exact .inl ⟨w', rfl⟩
  | halt e w' => exact .inr ⟨e, w', rfl⟩
theorem opsS_pure : ∀ (l : List (RO × Oper)) (idx : List Nat), idx.map (fun i => ops[i]?) = l.map (fun x => some x.2) → (∀ x ∈ l, okRcv x.1.op = true ∧ lowRO P n ops x.2 = some x.1) →
    ∀ (a : Act) (w : World), wpR P (fun _ _ _ => False) (fun a' w' => Q .normal a' cs w') l a w → wpOpsSIn (VFc none) m P ops Q idx a cs w := by
  intro l
  induction l with
  | nil =>
    intro idx hi _ a w h
    obtain rfl : idx = [] := by simpa using hi
    exact h
  | cons x l ih =>
    intro idx hi hx a w h
    cases idx with
    | nil => simp at hi
    | cons i idx =>
      simp only [List.map_cons, List.cons.injEq] at hi
      obtain ⟨hi1, hi2⟩ := hi
      obtain ⟨hp, hlow⟩ := hx x (by simp)
      obtain ⟨g1, g2, g3, g4⟩ := lowRO_spec hlow
      have ih' := ih idx hi2 (fun y hy => hx y (by simp [hy]))
      simp only [wpOpsSIn, hi1]
      refine ⟨fun _ _ => trivial, ?_⟩
      rw [g4 a]
      have h' : wpR1 P (fun _ _ _ => False) x (wpR P (fun _ _ _ => False) (fun a' w' => Q .normal a' cs w') l) a w := h
      unfold wpR1 at h'
      by_cases hw : wantedR x.1.guard a = true
      · rw [if_pos hw] at h' ⊢
        by_cases hpu : isPure x.1.op = true
        · rw [if_pos hpu] at h'
          obtain ⟨v, e, hn⟩ := h'
          have hrun : (execOp a.eval x.2).run P w = .ok (.value v) w := pure_sound (w := w) (eval_const a) g1 e
          rw [hrun]
          rw [g2] at hn
          exact ih' _ _ hn
        · by_cases hre : isRead x.1.op = true
          · rw [if_neg hpu, if_pos hre] at h'
            obtain ⟨s, v, e, er, hn⟩ := h'
            have hrun : (execOp a.eval x.2).run P w = .ok (.value v) w := mem_sound (eval_const a) g1 e (er w (.refl w))
            rw [hrun]
            rw [g2] at hn
            exact ih' _ _ hn
          · rw [if_neg hpu, if_neg hre] at h'
            obtain ⟨hnew, hv⟩ := h'
            by_cases hnw : isNew x.1.op = true
            · obtain ⟨u, w', hrun, _⟩ := hnew hnw
              simp only [wpV, hrun, uponV] at hv
              rw [hrun]
              exact ih' _ _ hv
            · have hst : ∃ k y z, x.1.op = .store k y z := by
                simp only [okRcv, Bool.or_eq_true] at hp
                rcases hp with ((h | h) | h) | h
                · exact absurd h hpu
                · exact absurd h hre
                · exact absurd h hnw
                · split at h
                  · exact ⟨_, _, _, by assumption⟩
                  · cases h
              obtain ⟨k, y, z, hst⟩ := hst
              have hop : ∃ t, x.2.op = .store t y z := by
                rw [hst] at g1
                generalize x.2 = oo at g1 ⊢
                obtain ⟨dst, op, ty, pos, after, guard⟩ := oo
                simp only at g1 ⊢
                cases op
                case store t y' z' =>
                  simp only [lowOp, Option.map_eq_some_iff] at g1
                  obtain ⟨i, _, g1⟩ := g1
                  cases g1
                  exact ⟨_, rfl⟩
                all_goals (exfalso; try simp only [lowOp] at g1)
                all_goals (repeat' split at g1)
                all_goals first
                  | (cases g1; done)
                  | (simp only [Option.map_eq_some_iff] at g1; obtain ⟨_, _, g1⟩ := g1; cases g1; done)
              obtain ⟨t, hop⟩ := hop
              rcases run_storeO (P := P) hop (ρ := a.eval) (w := w) with ⟨w', hrun⟩ | ⟨e, w', hrun⟩
              · simp only [wpV, hrun, uponV] at hv
                rw [hrun]
                exact ih' _ _ hv
              · simp only [wpV, hrun] at hv
                cases e <;> exact hv.elim
      · rw [if_neg hw] at h' ⊢
        rw [g2] at h'
        exact ih' _ _ h'
end
theorem FunDR.intro {P : Program} {kp : Nat → List Nat} {od : Nat → List (List Nat)} {f : Nat} {F : RIR} {args : List Value} {Pre : SH} {u u' : FrameMode} {rv : Value} {Q : SH → Prop} (hl : lowFR P kp od f = some F) (hn : args.length ≤ F.n) (hu : Rcv u rv u')
    (h : VO P F.n F.rs ((F.d, rv) :: argsEnv 0 args) Pre (fun _ _ _ => False) fun Γ' H' => VCz P F.n F.post Γ' H' (endQ F.res fun _ Post => Q Post)) : FunDR P f args u u' Pre Q := by
  unfold lowFR at hl
  split at hl
  · cases hl
  rename_i fn hfn
  split at hl
  · cases hl
  rename_i c hc
  split at hl
  case isFalse => cases hl
  rename_i hname
  split at hl
  case h_2 => cases hl
  rename_i d rs y r hb hr
  cases hl
  refine ⟨by simp only [callable, hfn, hname, hc]; rfl, fun FF w hs => ?_⟩
  unfold lowRcv at hb
  split at hb
  case h_2 => cases hb
  rename_i id ops c2
  split at hb
  case h_2 => cases hb
  rename_i o1 os hops
  split at hb
  case isFalse => cases hb
  rename_i hrcv
  split at hb
  case h_2 => cases hb
  rename_i d' rs' y' hd1 hd2 hd3
  split at hb
  case isFalse => cases hb
  rename_i hcond
  cases hb
  obtain ⟨hdn, hall⟩ := hcond
  refine callsDIn_of_wpSIn hfn hc trivial (fun c₀ cs hmode => ?_)
  have hsz : ops.size = os.length + 1 := by rw [← Array.length_toList, hops]; rfl
  refine wpSIn_seq (wpSIn_region ?_)
  rw [hsz, List.range_succ_eq_map]
  have h0 : ops[0]? = some o1 := by rw [← Array.getElem?_toList, hops]; rfl
  unfold isRcv at hrcv
  split at hrcv
  case h_2 => cases hrcv
  rename_i cl hcl
  simp only [Bool.and_eq_true] at hrcv
  obtain ⟨hcal, hg⟩ := hrcv
  have hcal' : cl.callee = .builtin .recover := by
    split at hcal
    · assumption
    · cases hcal
  have hg' : o1.guard = none := by simpa using hg
  obtain ⟨a0, ha0⟩ : ∃ a0 : Act, a0 = { tmps := args.toArray ++ Array.replicate (fn.ntmps - args.toArray.size) undef, defers := [] } := ⟨_, rfl⟩
  rw [← ha0]
  have hagree : Agree fn.ntmps (argsEnv 0 args) a0 := by
    rw [ha0]
    refine ⟨?_, fun t v e => ?_⟩
    · simp at hn ⊢; omega
    · obtain ⟨_, h2⟩ := look_argsEnv e
      simp only [Nat.sub_zero] at h2
      have hlt : t < args.length := (List.getElem?_eq_some_iff.1 h2).1
      simp only [Array.getElem?_append, List.size_toArray, hlt, if_true]
      simpa using h2
  have hdef : a0.defers = [] := by rw [ha0]
  simp only [wpOpsSIn, h0]
  refine ⟨fun _ _ => trivial, ?_⟩
  have hw : Region.wanted o1 (yielded ops a0.tmps) = true := by simp [Region.wanted, hg']
  rw [if_pos hw]
  have hrun : (execOp a0.eval o1).run P w = .ok .recover w := by
    simp [execOp, hcl, resolve, hcal', invoke, builtin]
  rw [hrun]
  have hag1 := hagree.put hdn rv
  have hl2 : lowList P fn.ntmps ops os = some rs := hd2
  obtain ⟨hlen, hget⟩ := lowList_length hl2
  have key : ∀ cs', (∃ u2, cs' = { c₀ with mode := u2 } :: cs ∧ u2 = u') → wpOpsSIn (VFc none) 0 P ops (Exit.thenS (c2.wpSIn (VFc none) 0 P (bodyPostS P fn c₀ cs fun e u2 w' => u2 = u' ∧ ∃ v Post, e = .returned v ∧ Q Post ∧ Sat w' (Post.flatten ++ FF) ∧ Keeps w w')) (bodyPostS P fn c₀ cs fun e u2 w' => u2 = u' ∧ ∃ v Post, e = .returned v ∧ Q Post ∧ Sat w' (Post.flatten ++ FF) ∧ Keeps w w')) (List.map Nat.succ (List.range os.length)) (a0.put o1.dst rv) cs' w := by
    rintro cs' ⟨u2, rfl, rfl⟩
    refine opsS_pure (n := fn.ntmps) (rs.zip os) _ ?_ ?_ _ _ ?_
    · apply List.ext_getElem?
      intro i
      simp only [List.getElem?_map]
      by_cases hi : i < os.length
      · rw [List.getElem?_range hi]
        have hz : (rs.zip os)[i]? = some (rs[i]'(by omega), os[i]) := by
          rw [List.getElem?_eq_getElem (by simp; omega)]; simp
        rw [hz]
        simp only [Option.map_some]
        rw [← Array.getElem?_toList, hops]
        simp [hi]
      · rw [List.getElem?_eq_none (by simpa using hi), List.getElem?_eq_none (by simp; omega)]; rfl
    · intro x hx
      obtain ⟨i, hi⟩ := List.getElem?_of_mem hx
      have hil := (List.getElem?_eq_some_iff.1 hi).1
      simp at hil
      have e : (rs.zip os)[i]? = some (rs[i]'(by omega), os[i]'(by omega)) := by
        rw [List.getElem?_eq_getElem (by simp; omega)]; simp
      rw [e] at hi
      cases hi
      refine ⟨?_, hget i _ _ (List.getElem?_eq_getElem (by omega)) (List.getElem?_eq_getElem (by omega))⟩
      exact List.all_eq_true.1 hall _ (List.getElem_mem _)
    · rw [hd1]
      refine h (rs.zip os) ⟨by rw [List.map_fst_zip]; omega, fun x hx => ?_⟩ _ w FF _ _ hag1 hs (fun a2 w2 Γ2 H2 q k1 k2 k3 k4 => ?_) (fun _ _ _ _ _ q => q.elim)
      · obtain ⟨i, hi⟩ := List.getElem?_of_mem hx
        have hil := (List.getElem?_eq_some_iff.1 hi).1
        simp at hil
        have e : (rs.zip os)[i]? = some (rs[i]'(by omega), os[i]'(by omega)) := by
          rw [List.getElem?_eq_getElem (by simp; omega)]; simp
        rw [e] at hi
        cases hi
        exact ⟨ops, hget i _ _ (List.getElem?_eq_getElem (by omega)) (List.getElem?_eq_getElem (by omega))⟩
      · show c2.wpSIn _ _ _ _ a2 _ w2
        refine wpSIn_of_wpIn rfl ?_
        refine q none kp od c2 hd3 a2 w2 FF _ k1 k3 (fun e a3 w3 Γ3 H3 q3 j1 j2 j3 j4 => ?_)
        obtain ⟨he, vs, Post, e1, e2, e3⟩ := q3
        have hdd : a3.defers = [] := by rw [j2, k2, put_defers, hdef]
        have hb : a3.defers = [] ∧ ∃ u2', ({ c₀ with mode := u2 } :: cs : List Frame) = { c₀ with mode := u2' } :: cs ∧ ∃ v, (results fn a3.tmps).run P w3 = .ok v w3 ∧ (u2' = u2 ∧ ∃ v' Post, (Ending.returned v) = .returned v' ∧ Q Post ∧ Sat w3 (Post.flatten ++ FF) ∧ Keeps w w3) :=
          ⟨hdd, u2, rfl, _, run_results j3 hr j1 e1, rfl, _, Post, rfl, e3, j3.imp e2, k4.trans j4⟩
        rcases he with rfl | rfl <;> exact hb
  cases hu with
  | none =>
    have hrd : recoverD (c₀ :: cs) = none := by simp [recoverD, hmode]
    simp only [hrd]
    refine key _ ⟨.returning, ?_, rfl⟩
    have : c₀ = { c₀ with mode := .returning } := by cases c₀; simp_all
    rw [← this]
  | some =>
    have hrd : recoverD (c₀ :: cs) = some (rv, { c₀ with mode := .panicking [{ v := rv, recovered := true }] } :: cs) := by simp [recoverD, hmode]
    simp only [hrd]
    exact key _ ⟨_, rfl, rfl⟩
def endDP (P : Program) (g : Nat) (caps : List Value) (res : List RV) (Q : Value → SH → Prop) : Exit → Env → SH → Prop
  | .panic ch, Γ, H => ∃ Pre R Q2 u', FunDR P g caps (.panicking ch) u' Pre Q2 ∧ settle u' = .returning ∧ Spl H Pre R ∧ ∀ Post, Q2 Post → endQ res Q .ret Γ (Post ++ R)
  | e, Γ, H => (e = .normal ∨ e = .ret) ∧ ∃ Pre R Q2, FunDR P g caps .returning .returning Pre Q2 ∧ Spl H Pre R ∧ ∀ Post, Q2 Post → endQ res Q .ret Γ (Post ++ R)
def VDP (P : Program) (n : Nat) (res : List RV) (dr : DR) (post : IC) (Q : Value → SH → Prop) : List IC → Env → SH → Prop
  | [], Γ, H => ∃ vs, evs Γ dr.caps = some vs ∧ VC P n post ((dr.d, .func (.func dr.g) #[] vs.toArray) :: Γ) H (endDP P dr.g vs res Q)
  | x :: l, Γ, H => VC P n x Γ H (thenQ (fun Γ' H' => VDP P n res dr post Q l Γ' H') (endQ res Q))
section
variable {P : Program} {n : Nat} {fn : Func} {tmps : Array Value} {FF : List Atom} {w0 : World}
theorem vdp_sound {kp : Nat → List Nat} {od : Nat → List (List Nat)} {r : List RV} {Q : Value → SH → Prop} (hr : resTmps P fn.results.toList = some r) : ∀ (l : List IC) (c : Code) (dr : DR) (y : IC), lowD P n kp od c = some (l, dr, y) →
    ∀ Γ H a w X, VDP P n r dr y Q l Γ H → Agree n Γ a → Sat w (H.flatten ++ (FF ++ marks X)) → a.defers = X.map coll → Keeps w0 w →
    c.wpIn (VFc none) 0 P (bodyPostM (VFc none) 0 P fn (fun e w' => ∃ v Post, e = .returned v ∧ Q v Post ∧ Sat w' (Post.flatten ++ FF) ∧ Keeps w0 w')) a w := by
  intro l
  induction l with
  | nil =>
    intro c dr y hl Γ H a w X hv ha hs hd hk
    unfold lowD at hl
    split at hl
    case h_2 => cases hl
    rename_i p q
    split at hl
    case h_2 =>
      split at hl <;> cases hl
    rename_i x hx
    simp only [Option.map_eq_some_iff] at hl
    obtain ⟨y', hy, he⟩ := hl
    cases he
    obtain ⟨id, ops, o1, o2, cl, rfl, hops, h1, h2, hcal, hargs, hg, hdst⟩ := lowDef_inv hx
    obtain ⟨vs, hvs, hpost⟩ := hv
    refine wpIn_seq (wpIn_region_list ?_)
    rw [hops]
    obtain ⟨g1, g2, g3, g4⟩ := lowRO_spec h1
    have hv1 : pureV a.eval (.clos (.func dr.g) [] dr.caps) = some (.func (.func dr.g) #[] vs.toArray) := by
      simp [pureV, ha.evs hvs]
    have hrun : (execOp a.eval o1).run P w = .ok (.value (.func (.func dr.g) #[] vs.toArray)) w := pure_sound (w := w) (eval_const a) g1 hv1
    have ha1 := ha.putE g3 (.func (.func dr.g) #[] vs.toArray)
    simp only at ha1 g2
    simp only [wpListIn, g4 a, wantedR, if_true]
    refine ⟨fun _ _ => trivial, ?_⟩
    rw [Oper.semAt_none, hrun]
    show (if Region.wanted o2 (yielded ops (a.put o1.dst _).tmps) then _ else _)
    rw [← g2]
    have hw : Region.wanted o2 (yielded ops (a.put (some dr.d) (.func (.func dr.g) #[] vs.toArray)).tmps) = true := by simp [Region.wanted, hg]
    rw [if_pos hw]
    have hev : (a.put (some dr.d) (.func (.func dr.g) #[] vs.toArray)).eval (.tmp dr.d) = .func (.func dr.g) #[] vs.toArray := ha1.ev (by simp [V.ev, V.putE, V.look])
    have hdef : (execOp (a.put (some dr.d) (.func (.func dr.g) #[] vs.toArray)).eval o2).run P w = .ok (.defer { target := .fn (.func dr.g) vs.toArray, args := #[] }) w := by
      simp [execOp, h2, resolve, hcal, hargs, hev, Deferred.ofValue]
    refine ⟨fun _ _ => trivial, ?_⟩
    rw [Oper.semAt_none, hdef, Oper.uponIn_defer, hdst]
    show q.wpIn _ _ _ _ _ w
    have hputd : (a.put (some dr.d) (.func (.func dr.g) #[] vs.toArray)).defers = a.defers := put_defers ..
    refine hpost none kp od _ hy _ w (FF ++ marks X) _ (fun l e => by cases e) ⟨ha1.size, ha1.slots⟩ hs (fun e a' w' Γ' H' Y q k1 k2 k3 k4 => ?_)
    have hdefs : a'.defers = Y.map coll ++ ({ target := .fn (.func dr.g) vs.toArray, args := #[] } :: X.map coll) := by
      rw [k2]
      show _ ++ ({ target := .fn (.func dr.g) vs.toArray, args := #[] } :: (a.put (some dr.d) (.func (.func dr.g) #[] vs.toArray)).defers) = _
      rw [hputd, hd]
    have go : ∀ (u u' : FrameMode) (Pre Rr : SH) (Q2 : SH → Prop), u ≠ .run → settle u' = .returning → FunDR P dr.g vs u u' Pre Q2 → Spl H' Pre Rr → (∀ Post, Q2 Post → endQ r Q .ret Γ' (Post ++ Rr)) →
        LeavesInM (VFc none) 0 P fn a'.tmps (fun e w' => ∃ v Post, e = .returned v ∧ Q v Post ∧ Sat w' (Post.flatten ++ FF) ∧ Keeps w0 w') a'.defers u w' := by
      intro u u' Pre Rr Q2 hu hset hfd hspl hfin
      rw [hdefs]
      refine leaves_marksU (w0 := w0) (FF := FF ++ marks X) hu Y w' k3 (hk.trans k4) (fun w2 s2 c2 => ?_)
      refine ⟨hu, .inr ⟨by simp, .func dr.g, vs.toArray, dr.g, vs.toArray, rfl, ?_, fun _ _ => trivial, ?_⟩⟩
      · simp [invoke, run_callFunc hfd.1]
      · have hs2 : Sat w2 (Pre.flatten ++ (Rr.flatten ++ (FF ++ marks X))) := by
          rw [← List.append_assoc]; exact s2.perm (hspl.append_right _)
        refine (hfd.2 (Rr.flatten ++ (FF ++ marks X)) w2 hs2).mono ?_
        rintro e2 u2 w3 ⟨rfl, v, Post, rfl, hq2, hs3, hk3⟩
        show LeavesInM _ _ _ _ _ _ (X.map coll) (settle u2) w3
        rw [hset]
        refine leaves_end hr (hfin Post hq2) k1 ?_ (c2.trans hk3)
        rw [List.flatten_append, List.append_assoc]; exact hs3
    cases e with
    | normal =>
      obtain ⟨_, Pre, Rr, Q2, hfd, hspl, hfin⟩ := q
      exact go .returning .returning Pre Rr Q2 (by simp) rfl hfd hspl hfin
    | ret =>
      obtain ⟨_, Pre, Rr, Q2, hfd, hspl, hfin⟩ := q
      exact go .returning .returning Pre Rr Q2 (by simp) rfl hfd hspl hfin
    | panic ch =>
      obtain ⟨Pre, Rr, Q2, u', hfd, hset, hspl, hfin⟩ := q
      exact go (.panicking ch) u' Pre Rr Q2 (by simp) hset hfd hspl hfin
    | exit id => exact absurd q.1 (by simp)
    | goto l => exact absurd q.1 (by simp)
    | outgrown => exact absurd q.1 (by simp)
  | cons x l ih =>
    intro c dr y hl Γ H a w X hv ha hs hd hk
    unfold lowD at hl
    split at hl
    case h_2 => cases hl
    rename_i p q
    split at hl
    · simp only [Option.map_eq_some_iff] at hl
      obtain ⟨y', hy, he⟩ := hl
      cases he
    split at hl
    case h_2 => cases hl
    rename_i x' l' d' y' hx hq
    cases hl
    refine wpIn_seq (hv none kp od _ hx a w (FF ++ marks X) _ (fun l e => by cases e) ha hs (fun e a' w' Γ' H' Y q k1 k2 k3 k4 => ?_))
    have hdefs : a'.defers = (Y ++ X).map coll := by rw [k2, hd]; simp
    cases e <;> first
      | exact ih _ _ _ hq Γ' H' a' w' (Y ++ X) q k1 k3.marks hdefs (hk.trans k4)
      | (obtain ⟨he, _⟩ := q; simp at he; done)
      | (show LeavesInM _ _ _ _ _ _ a'.defers _ w'; rw [hdefs]; exact leaves_end hr q k1 k3.marks (hk.trans k4))
end
theorem Fun.introDP {P : Program} {kp : Nat → List Nat} {od : Nat → List (List Nat)} {f : Nat} {F : DIR} {args : List Value} {Pre : SH} {Q : Value → SH → Prop} (hl : lowFD P kp od f = some F) (hn : args.length ≤ F.n)
    (h : VDP P F.n F.res F.dr F.post Q F.pre (argsEnv 0 args) Pre) : Fun P f args Pre Q := by
  unfold lowFD at hl
  split at hl
  · cases hl
  rename_i fn hfn
  split at hl
  · cases hl
  rename_i c hc
  split at hl
  case isFalse => cases hl
  rename_i hname
  split at hl
  case h_2 => cases hl
  rename_i l d y r hb hr
  cases hl
  refine ⟨by simp only [callable, hfn, hname, hc]; rfl, fun FF w hs => ?_⟩
  refine (callsIn_wide (n := 0)).1 (callsIn_of_wp_marks hfn hc trivial (vdp_sound hr l c d y hb _ _ _ w [] h ⟨?_, fun t v e => ?_⟩ (by simpa [V.marks] using hs) rfl (.refl w)))
  · simp at hn ⊢; omega
  · obtain ⟨_, h2⟩ := look_argsEnv e
    simp only [Nat.sub_zero] at h2
    have hlt : t < args.length := (List.getElem?_eq_some_iff.1 h2).1
    simp only [Array.getElem?_append, List.size_toArray, hlt, if_true]
    simpa using h2
def laidA {α : Type} {X F : α} (_h : F = X := by (dsimp only [qm, qk, qz, qo, ql, qf, qi, qb, qc, qn, qs, qp, qa, qr, qe, tmps, qx, qL, qN, qB, qt, qu, qS, qC, nthO, ordO, ordsO, qD] <;> exact rfl)) : α := F
def sBytes (s : ByteArray) : List Value := s.data.toList.map fun c => .int .u8 c.toNat
def SubAt : Value → Nat → Value → Prop
  | .slice (some ⟨b, o, none⟩) k c, l, dv => dv = .slice (some ⟨b, (if c = l then o else o + l), none⟩) (k - l) (c - l)
  | .slice none k c, l, dv => dv = .slice none (k - l) (c - l)
  | _, _, _ => False
section
variable {P : Program} {n : Nat} {rs : List RO} {Γ : Env} {H : SH} {Z : List PanicEntry → Env → SH → Prop} {K : Env → SH → Prop} {d : Option Nat}
end
def setObj (objs : List (Nat × FO)) (b : Nat) (fo : FO) : List (Nat × FO) := objs.map fun p => if p.1 = b then (b, fo) else p
structure AF where
  now : List UInt8
  base : List UInt8
  writes : List Wr
structure AW where
  choices : List Ch
  names : List (ByteArray × Nat)
  files : List AF
  hs : List HO
  trace : List De
  clock : Int
  seq : Int
  dead : Bool
def foF (f : FO) : AF := ⟨f.now, f.base, f.writes⟩
def ho0 (h : HO) : HO := { h with blk := 0 }
def hoB (B : List Nat) (h : HO) : HO := { h with blk := 0, file := h.file.map fun i => B.getD i 0 }
structure Rep (w : WR) (a : AW) (M : Nat) : Prop where
  ch : w.choices = a.choices
  tr : w.trace = a.trace
  clock : w.clock = a.clock
  seq : w.seq = a.seq
  dead : w.dead = a.dead
  names : w.names = a.names.map fun p => (p.1, (w.objs.map (·.1)).getD p.2 0)
  nin : ∀ p ∈ a.names, p.2 < a.files.length
  files : w.objs.map (fun p => foF p.2) = a.files
  hs : w.hs.map ho0 = a.hs.map (hoB (w.objs.map (·.1)))
  hin : ∀ h ∈ a.hs, ∀ i, h.file = some i → i < a.files.length
  ok : WOk w M
theorem heldE_congr {hs hs' : List HO} (h : hs.map (fun h => (h.closed, h.stale, h.file.isNone)) = hs'.map fun h => (h.closed, h.stale, h.file.isNone)) (n : Int) (host : Bool) : heldE hs n host = heldE hs' n host := by
  unfold heldE
  by_cases h1 : 1 ≤ n
  · simp only [if_pos h1]
    have hg : ((hs.map (fun h => (h.closed, h.stale, h.file.isNone)))[(n - 1).toNat]?) = ((hs'.map (fun h => (h.closed, h.stale, h.file.isNone)))[(n - 1).toNat]?) := by rw [h]
    simp only [List.getElem?_map] at hg
    cases hx : hs[(n - 1).toNat]? with
    | none =>
      cases hy : hs'[(n - 1).toNat]? with
      | none => rfl
      | some y => rw [hx, hy] at hg; cases hg
    | some x =>
      cases hy : hs'[(n - 1).toNat]? with
      | none => rw [hx, hy] at hg; cases hg
      | some y =>
        rw [hx, hy] at hg
        simp only [Option.map_some, Option.some.injEq, Prod.mk.injEq] at hg
        obtain ⟨g1, g2, g3⟩ := hg
        simp only [g1, g2, g3]
  · simp only [if_neg h1]
theorem anyE_congr {hs hs' : List HO} (h : hs.map (fun h => (h.closed, h.stale, h.file.isNone)) = hs'.map fun h => (h.closed, h.stale, h.file.isNone)) (n : Int) : anyE hs n = anyE hs' n := by
  unfold anyE
  by_cases h1 : 1 ≤ n
  · simp only [if_pos h1]
    have hg : ((hs.map (fun h => (h.closed, h.stale, h.file.isNone)))[(n - 1).toNat]?) = ((hs'.map (fun h => (h.closed, h.stale, h.file.isNone)))[(n - 1).toNat]?) := by rw [h]
    simp only [List.getElem?_map] at hg
    cases hx : hs[(n - 1).toNat]? with
    | none =>
      cases hy : hs'[(n - 1).toNat]? with
      | none => rfl
      | some y => rw [hx, hy] at hg; cases hg
    | some x =>
      cases hy : hs'[(n - 1).toNat]? with
      | none => rw [hx, hy] at hg; cases hg
      | some y =>
        rw [hx, hy] at hg
        simp only [Option.map_some, Option.some.injEq, Prod.mk.injEq] at hg
        simp only [hg.1]
  · simp only [if_neg h1]
section
variable {w : WR} {a : AW} {M : Nat}
theorem Rep.flags (h : Rep w a M) : w.hs.map (fun h => (h.closed, h.stale, h.file.isNone)) = a.hs.map fun h => (h.closed, h.stale, h.file.isNone) := by
  have := congrArg (List.map fun h : HO => (h.closed, h.stale, h.file.isNone)) h.hs
  simp only [List.map_map] at this
  have e1 : ((fun h : HO => (h.closed, h.stale, h.file.isNone)) ∘ ho0) = fun h => (h.closed, h.stale, h.file.isNone) := rfl
  have e2 : ((fun h : HO => (h.closed, h.stale, h.file.isNone)) ∘ hoB (w.objs.map (·.1))) = fun h => (h.closed, h.stale, h.file.isNone) := by
    funext h; simp [hoB]
  rw [e1, e2] at this
  exact this
theorem Rep.held (h : Rep w a M) (n : Int) (host : Bool) : heldE w.hs n host = heldE a.hs n host := heldE_congr h.flags n host
theorem Rep.any (h : Rep w a M) (n : Int) : anyE w.hs n = anyE a.hs n := anyE_congr h.flags n
theorem Rep.hlen (h : Rep w a M) : w.hs.length = a.hs.length := by have := congrArg List.length h.hs; simpa using this
theorem Rep.flen (h : Rep w a M) : w.objs.length = a.files.length := by have := congrArg List.length h.files; simpa using this
theorem WOk.mono {M' : Nat} (h : WOk w M) (hm : M ≤ M') : WOk w M' :=
  { h with fo := fun p hp => let x := h.fo p hp; { x with many := Nat.le_trans x.many hm }, hmany := Nat.le_trans h.hmany hm, trmany := Nat.le_trans h.trmany hm, seq := ⟨h.seq.1, by have := h.seq.2; omega⟩ }
theorem Rep.mono {M' : Nat} (h : Rep w a M) (hm : M ≤ M') : Rep w a M' := { h with ok := h.ok.mono hm }
theorem Rep.handle (h : Rep w a M) {i : Nat} {x : HO} (hx : w.hs[i]? = some x) : ∃ y, a.hs[i]? = some y ∧ ho0 x = hoB (w.objs.map (·.1)) y := by
  have := congrArg (·[i]?) h.hs
  simp only [List.getElem?_map, hx, Option.map_some] at this
  cases hy : a.hs[i]? with
  | none => rw [hy] at this; cases this
  | some y => rw [hy] at this; exact ⟨y, rfl, by simpa using this⟩
theorem Rep.file (h : Rep w a M) {j : Nat} (hj : j < a.files.length) : ∃ b fo, w.objs[j]? = some (b, fo) ∧ (w.objs.map (·.1)).getD j 0 = b ∧ a.files[j]? = some (foF fo) ∧ FOk fo M := by
  have hl : j < w.objs.length := by rw [h.flen]; exact hj
  refine ⟨w.objs[j].1, w.objs[j].2, by simp [hl], ?_, ?_, h.ok.fo _ (List.getElem_mem hl)⟩
  · simp [List.getD_eq_getElem?_getD, hl]
  · rw [← h.files]; simp [hl]
end
def ftxt (l : List UInt8) : ByteArray := ⟨l.toArray⟩
def chA (a : AW) : Ch := if a.dead then noCh else a.choices.headD noCh
def liveA (a : AW) : Bool := !(a.dead || decide ((chA a).kind = 5))
def takeA (a : AW) : AW := { a with choices := if a.dead then a.choices else a.choices.tail, dead := !liveA a }
theorem Rep.take {w : WR} {a : AW} {M : Nat} (h : Rep w a M) {w1 : WR} (hT : Taken w w1) : Rep w1 (takeA a) M ∧ takeC w = chA a ∧ takeL w = liveA a := by
  obtain ⟨cv', csp', cs, h1, h2, h3, rfl⟩ := hT
  have hc : takeC w = chA a := by simp only [takeC, chA, h.dead, h.ch]
  have hl : takeL w = liveA a := by simp only [takeL, liveA, hc, h.dead]
  refine ⟨{ h with ch := ?_, dead := ?_, ok := { h.ok with ch := h3, chmany := Nat.le_trans h1 h.ok.chmany } }, hc, hl⟩
  · simp only [takeA, h2, h.dead, h.ch]
  · simp only [takeA, hl]
section
variable {P : Program} {n : Nat} {Γ : Env} {H : SH} {Q : Exit → Env → SH → Prop}
end
theorem Sat.apart {w : World} {H R : SH} {F A : List Atom} {x y : Atom} (h : Sat w (H.flatten ++ F)) (ht : Tk H A R) (hx : x ∈ A) (hy : y ∈ R.flatten) : x.loc ≠ y.loc := by
  intro he
  have h1 := (h.perm (ht.perm.append_right F)).nodup
  rw [List.append_assoc, List.map_append, List.nodup_append] at h1
  exact h1.2.2 x.loc (List.mem_map_of_mem hx) y.loc (List.mem_map_of_mem (List.mem_append_left _ hy)) he
theorem modify_push {α : Type} (l : Array α) (x : α) (f : α → α) : (l.push x).modify l.size f = l.push (f x) := by
  apply Array.ext
  · simp
  · intro i h1 h2
    simp only [Array.getElem_modify, Array.getElem_push]
    by_cases hi : i < l.size
    · simp [hi, Nat.ne_of_gt hi]
    · have : l.size = i := by simp at h1; omega
      simp [hi, this]
section
variable {P : Program}
theorem swp_newS {H : List Atom} {c : Array Value} {t : TypeId} {K : Addr → List Atom → Prop} (h : ∀ b, K ⟨b, 0, none⟩ (cellsAt b 0 c.toList ++ H)) : SWP P (do let a ← newRow t c; markStringish a; pure a) H K := by
  intro F w hs
  obtain ⟨s1, s2⟩ := hs.push (.cells c t (c.size, c.size + 1)) (cellsAt w.heap.size 0 c.toList) (fun x hx => by
    obtain ⟨i, v, hi, rfl⟩ := mem_cellsAt.1 hx
    refine ⟨rfl, c, t, c.size, c.size + 1, by simp, by simpa using hi, ?_⟩
    have := (List.getElem?_eq_some_iff.1 hi).1
    simp at this ⊢; omega) (nodup_cellsAt _ _ _)
  refine ⟨⟨w.heap.size, 0, none⟩, _, _, ?_, h _, by rw [List.append_assoc]; exact s1, s2⟩
  have hsh : ({ w with heap := w.heap.push (.cells c t) } : World).shape? w.heap.size = some (t, c.size) := by simp [World.shape?]
  have hfr : ({ w with heap := w.heap.push (.cells c t) } : World).freeze ⟨w.heap.size, c.size, none⟩ 1 = { w with heap := w.heap.push (.cells c t (c.size, c.size + 1)) } := by
    simp [World.freeze, modify_push]
  have h1 : (Go.newRow t c).run P w = .ok ⟨w.heap.size, 0, none⟩ { w with heap := w.heap.push (.cells c t) } := by
    simp [Go.newRow, Go.newObj, Sem.run]
  have h2 : (markStringish ⟨w.heap.size, 0, none⟩).run P { w with heap := w.heap.push (.cells c t) } = .ok () { w with heap := w.heap.push (.cells c t (c.size, c.size + 1)) } := by
    rw [← hfr]
    unfold markStringish
    simp only [Go.shape, Sem.run_bind, Sem.run, hsh, Result.andThen_ok, Go.freeze]
  simp only [Sem.run_bind, h1, h2, Result.andThen_ok, Sem.run_pure]
theorem swp_s2b {H : List Atom} {t : TypeId} {s : ByteArray} {K : Value → List Atom → Prop} (h : ∀ b cap, s.size ≤ cap → K (.slice (some ⟨b, 0, none⟩) s.size cap) (cellsAt b 0 (sBytes s ++ List.replicate (cap - s.size) (.int .u8 0)) ++ H)) : SWP P (Conv.stringToBytes t s) H K := by
  have fin : ∀ cap, s.size ≤ cap → SWP P (do
      let a ← newRow t (s.data.map (fun b => Value.int .u8 b.toNat) ++ Array.replicate (cap - s.size) (.int .u8 0))
      markStringish a
      pure (Value.slice (some a) s.size cap)) H K := by
    intro cap hcap
    have := swp_newS (P := P) (H := H) (c := s.data.map (fun b => Value.int .u8 b.toNat) ++ Array.replicate (cap - s.size) (.int .u8 0)) (t := t) (K := fun a L => K (.slice (some a) s.size cap) L) (fun b => by
      have := h b cap hcap
      simpa [sBytes] using this)
    have h2 := SWP.bind (f := fun a => (pure (Value.slice (some a) s.size cap) : Sem Value)) (this.mono (fun a L ha => SWP.pure ha))
    simpa using h2
  unfold Conv.stringToBytes
  refine SWP.bind (SWP.choose (fun hf => by simp [Question.forced] at hf) (fun t' => ?_))
  simp only [Question.cut]
  exact fin _ (by omega)
end
def BytesAt (H : SH) : Value → List UInt8 → Prop
  | .slice (some ⟨b, o, none⟩) k _, l => k = l.length ∧ ∀ a ∈ cellsAt b o (l.map u8v), a ∈ H.flatten
  | .slice none _ _, l => l = []
  | _, _ => False
theorem IsSl.bytes {H R : SH} {sv : Value} {l : List UInt8} {sp : List Value} (h : IsSl 1 sv l.length (l.map u8v) sp) (ht : Tk H (slA sv (l.map u8v) sp) R) : BytesAt H sv l := by
  obtain ⟨a, c, rfl⟩ := h.form
  generalize hk : l.length = k at h
  generalize hm : l.map u8v = us at h
  cases h with
  | mk h1 h2 h3 =>
    refine ⟨hk.symm, fun x hx => ?_⟩
    refine (ht.perm.mem_iff).2 (List.mem_append_left _ ?_)
    rw [hk, hm]
    rw [hm] at hx
    simp only [slA, cellsAt_append, List.mem_append]
    exact .inl hx
  | nil => exact List.map_eq_nil_iff.1 hm
theorem ofNat_u8 (c : UInt8) : UInt8.ofNat (((c.toNat : Nat) : Int).toNat) = c := by simp
theorem run_push {P : Program} {w : World} {f : Value → ByteArray → Sem (ForInStep ByteArray)} (hf : ∀ (c : UInt8) r, f (u8v c) r = pure (ForInStep.yield (r.push (UInt8.ofNat ((c.toNat : Int)).toNat)))) : ∀ (l : List UInt8) (acc : ByteArray), (forIn (l.map u8v) acc f).run P w = .ok ⟨acc.data ++ l.toArray⟩ w := by
  intro l
  induction l with
  | nil => intro acc; simp
  | cons c l ih =>
    intro acc
    have := ih (acc.push c)
    rw [List.map_cons, List.forIn_cons, hf, Sem.run_bind, Sem.run_pure, Result.andThen_ok]
    simp only [ofNat_u8]
    rw [this]
    simp [ByteArray.push]
theorem run_b2s {P : Program} {H : SH} {dv : Value} {l : List UInt8} {F : List Atom} {w : World} (h : BytesAt H dv l) (hs : Sat w (H.flatten ++ F)) : (Conv.bytesToString dv).run P w = .ok (.string (ftxt l)) w := by
  unfold BytesAt at h
  split at h
  · obtain ⟨rfl, hm⟩ := h
    have hl := run_loadCells (P := P) (m := l.length) (us := l.map u8v) (by simp) hm hs
    unfold Conv.bytesToString
    simp only [Sem.run_bind, hl, Result.andThen_ok]
    rw [List.forIn_toArray]
    rw [run_push (fun c r => rfl)]
    simp [ftxt]
  · subst h
    unfold Conv.bytesToString
    rfl
  · exact h.elim
section
variable {P : Program} {n : Nat} {rs : List RO} {Γ : Env} {H : SH} {Z : List PanicEntry → Env → SH → Prop} {K : Env → SH → Prop} {d : Option Nat}
theorem st_b2s {x : Operand} {dv : Value} {l : List UInt8} (hx : ev Γ x = some dv) (hb : BytesAt H dv l) (h : VO P n rs (putE d (.string (ftxt l)) Γ) H Z K) : VO P n (⟨d, none, .b2s x⟩ :: rs) Γ H Z K :=
  VO.read rfl rfl (fun ρ hρ => ⟨_, rfl, fun F w hs => by
    rw [hρ _ _ hx]
    simp [run_b2s hb hs]⟩) h
theorem st_s2b {t : TypeId} {x : Operand} {s : ByteArray} (hx : ev Γ x = some (.string s)) (h : ∀ sv sp, IsSl 1 sv s.size (sBytes s) sp → VO P n rs (putE d sv Γ) (slA sv (sBytes s) sp :: H) Z K) : VO P n (⟨d, none, .s2b t x⟩ :: rs) Γ H Z K := by
  refine VO.act rfl rfl (fun ρ hρ => ⟨_, rfl, ?_⟩)
  rw [hρ _ _ hx]
  refine SWP.bind (swp_s2b (fun b cap hcap => SWP.pure ?_))
  refine ⟨_, slA (.slice (some ⟨b, 0, none⟩) s.size cap) (sBytes s) (List.replicate (cap - s.size) (.int .u8 0)) :: H, .inl rfl, by simp [slA], h _ _ (.mk (by simp [sBytes]) (by simp [sBytes]; omega) hcap)⟩
end
def Win : Value → Nat → Nat → Value → Prop
  | .slice (some ⟨b, o, none⟩) _ _, l, h, dv => ∃ o' c', dv = .slice (some ⟨b, o', none⟩) h c' ∧ (0 < h → o' = o + l)
  | .slice none _ _, _, h, dv => ∃ c', dv = .slice none h c'
  | _, _, _, _ => False
theorem Win.form {sv dv : Value} {l h : Nat} (hw : Win sv l h dv) : ∃ a c, dv = .slice a h c := by
  unfold Win at hw
  split at hw
  · obtain ⟨_, _, rfl, _⟩ := hw; exact ⟨_, _, rfl⟩
  · obtain ⟨_, rfl⟩ := hw; exact ⟨_, _, rfl⟩
  · exact hw.elim
theorem SubAt.form {sv dv : Value} {k l : Nat} {xs sp : List Value} (h : IsSl 1 sv k xs sp) (hd : SubAt sv l dv) : ∃ a c, dv = .slice a (k - l) c := by
  cases h with
  | mk h1 h2 h3 => simp only [SubAt] at hd; exact ⟨_, _, hd⟩
  | nil => simp only [SubAt] at hd; exact ⟨_, _, hd⟩
theorem Win.bytes {H R : SH} {sv dv : Value} {k l h : Nat} {bs : List UInt8} {sp : List Value} (hsl : IsSl 1 sv k (bs.map u8v) sp) (hw : Win sv l h dv) (hh : l + h ≤ k) (ht : Tk H (slA sv (bs.map u8v) sp) R) : BytesAt H dv ((bs.drop l).take h) := by
  have hlen := hsl.len
  simp only [List.length_map, Nat.mul_one] at hlen
  generalize hus : bs.map u8v = us at hsl ht
  cases hsl with
  | @mk b o _ c _ _ h1 h2 h3 =>
    obtain ⟨o', c', rfl, ho⟩ := hw
    refine ⟨by simp; omega, fun x hx => ?_⟩
    refine (ht.perm.mem_iff).2 (List.mem_append_left _ ?_)
    obtain ⟨i, v, hi, rfl⟩ := mem_cellsAt.1 hx
    have hlt := (List.getElem?_eq_some_iff.1 hi).1
    simp only [List.length_map, List.length_take, List.length_drop] at hlt
    obtain rfl := ho (by omega)
    refine mem_cellsAt.2 ⟨l + i, v, ?_, by congr 1; omega⟩
    rw [List.getElem?_append_left (by rw [← hus]; simp; omega), ← hus]
    rw [List.getElem?_map, List.getElem?_take, if_pos (by omega), List.getElem?_drop] at hi
    rw [List.getElem?_map]; exact hi
  | nil =>
    obtain ⟨c', rfl⟩ := hw
    simp only [List.map_eq_nil_iff] at hus
    simp [BytesAt, hus]
section
variable {P : Program} {n : Nat} {rs : List RO} {Γ : Env} {H : SH} {Z : List PanicEntry → Env → SH → Prop} {K : Env → SH → Prop} {d : Option Nat}
end
section
variable {κ α β : Type} [DecidableEq κ] {g : α → β} {k : κ}
theorem mget_map {l : List (κ × α)} : mget k (l.map fun p => (p.1, g p.2)) = (mget k l).map g := by
  induction l with
  | nil => rfl
  | cons p l ih => simp only [List.map_cons, mget]; split <;> simp_all
end
section
variable {w : WR} {a : AW} {M : Nat}
theorem Rep.mget (h : Rep w a M) (p : ByteArray) : V.mget p w.names = (V.mget p a.names).map fun j => (w.objs.map (·.1)).getD j 0 := by
  rw [h.names]; exact mget_map (κ := ByteArray) (α := Nat) (β := Nat) (g := fun j => (w.objs.map (·.1)).getD j 0)
theorem Rep.keys (h : Rep w a M) : (a.names.map (·.1)).Nodup := by
  have := h.ok.keys
  rw [h.names] at this
  simpa [List.map_map, Function.comp_def] using this
theorem Rep.next (h : Rep w a M) : Rep { w with seq := w.seq + 1 } { a with seq := a.seq + 1 } (M + 1) := by
  have h' := h.mono (Nat.le_succ M)
  refine { h' with seq := by simp only [h.seq], ok := { h'.ok with seq := ?_ } }
  have := h.ok.seq
  constructor
  · show 0 ≤ w.seq + 1; omega
  · show w.seq + 1 ≤ ((M + 1 : Nat) : Int); omega
end
def RdRow (size : Nat) (A : List Atom) (v : Value) (k : Nat) (xs : List Value) : Prop :=
  (v = .slice none 0 0 ∧ k = 0 ∧ xs = []) ∨ ∃ b o c, v = .slice (some ⟨b, o, none⟩) k c ∧ k ≤ c ∧ xs.length = k * size ∧ ∀ x ∈ cellsAt b o xs, x ∈ A
theorem RdRow.form {size : Nat} {A : List Atom} {v : Value} {k : Nat} {xs : List Value} (h : RdRow size A v k xs) : ∃ a c, v = .slice a k c := by
  rcases h with ⟨rfl, rfl, _⟩ | ⟨b, o, c, rfl, _⟩
  · exact ⟨_, _, rfl⟩
  · exact ⟨_, _, rfl⟩
theorem RdRow.mono {size : Nat} {A B : List Atom} {v : Value} {k : Nat} {xs : List Value} (h : RdRow size A v k xs) (hs : ∀ a ∈ A, a ∈ B) : RdRow size B v k xs := by
  rcases h with h | ⟨b, o, c, h1, h2, h3, h4⟩
  · exact .inl h
  · exact .inr ⟨b, o, c, h1, h2, h3, fun x hx => hs x (h4 x hx)⟩
theorem RdRow.at_ {size : Nat} {A : List Atom} {v : Value} {α : Type} {enc : α → List Value} {l : List α} (h : RdRow size A v l.length (l.flatMap enc)) (he : ∀ x, (enc x).length = size) {i : Nat} {x : α} (hx : l[i]? = some x) :
    ∃ b o c, v = .slice (some ⟨b, o, none⟩) l.length c ∧ ∀ a ∈ cellsAt b (o + i * size) (enc x), a ∈ A := by
  have hi := (List.getElem?_eq_some_iff.1 hx).1
  rcases h with ⟨_, h2, _⟩ | ⟨b, o, c, h1, h2, h3, h4⟩
  · omega
  · refine ⟨b, o, c, h1, fun a ha => h4 a ?_⟩
    obtain ⟨j, v, hj, rfl⟩ := mem_cellsAt.1 ha
    have hjl := (List.getElem?_eq_some_iff.1 hj).1
    rw [he] at hjl
    refine mem_cellsAt.2 ⟨i * size + j, v, ?_, by congr 1; omega⟩
    have key : ∀ (l : List α) (i : Nat), l[i]? = some x → (l.flatMap enc)[i * size + j]? = some v := by
      intro l
      induction l with
      | nil => intro i h; simp at h
      | cons y l ih =>
        intro i h
        cases i with
        | zero =>
          simp only [List.getElem?_cons_zero, Option.some.injEq] at h
          subst h
          rw [List.flatMap_cons, Nat.zero_mul, Nat.zero_add, List.getElem?_append_left (by rw [he]; exact hjl)]
          exact hj
        | succ i =>
          rw [List.flatMap_cons, List.getElem?_append_right (by rw [he, Nat.succ_mul]; omega), he]
          have := ih i (by simpa using h)
          rw [← this]
          congr 1
          rw [Nat.succ_mul]; omega
    exact key l i hx
structure Seen {β : Type} (es : Array MapEntry) (l : List (ByteArray × β)) (seen : Array Nat) (C : List (ByteArray × β)) : Prop where
  nodup : (C.map (·.1)).Nodup
  mem : ∀ p ∈ C, p ∈ l
  seen : ∀ e ∈ es.toList, (e.born ∈ seen.toList ↔ ∃ p ∈ C, e.key = .string p.1)
section
variable {β : Type} {Vf : β → Value} {es : Array MapEntry} {c : Nat} {l : List (ByteArray × β)}
theorem Seen.step {seen : Array Nat} {C : List (ByteArray × β)} (h : Seen es l seen C) (hl : MapIs kStr Vf es c l) (hk : (l.map (·.1)).Nodup) {e : MapEntry} (he : e ∈ es.toList) (hne : e.born ∉ seen.toList) :
    ∃ p ∈ l, e.key = .string p.1 ∧ e.val = Vf p.2 ∧ p.1 ∉ C.map (·.1) ∧ Seen es l (seen.push e.born) (C ++ [p]) ∧
      (es.toList.filter fun e' => decide (e'.born ∉ (seen.push e.born).toList)).length < (es.toList.filter fun e' => decide (e'.born ∉ seen.toList)).length := by
  obtain ⟨p, hp, e1, e2⟩ := hl.entry he
  have hnk : p.1 ∉ C.map (·.1) := fun hc => by
    obtain ⟨q, hq, hqp⟩ := List.mem_map.1 hc
    exact hne ((h.seen e he).2 ⟨q, hq, by rw [hqp]; exact e1⟩)
  refine ⟨p, hp, e1, e2, hnk, ⟨?_, ?_, ?_⟩, ?_⟩
  · rw [List.map_append, List.nodup_append]
    exact ⟨h.nodup, by simp, fun x hx y hy => by simp at hy; rw [hy]; intro e; subst e; exact hnk hx⟩
  · intro q hq
    rcases List.mem_append.1 hq with hq | hq
    · exact h.mem q hq
    · rw [List.mem_singleton.1 hq]; exact hp
  · intro e' he'
    simp only [Array.toList_push, List.mem_append, List.mem_singleton]
    constructor
    · rintro (h1 | h1)
      · obtain ⟨k, hk1, hk2⟩ := (h.seen e' he').1 h1
        exact ⟨k, .inl hk1, hk2⟩
      · have := born_one hl.born he' he h1
        subst this
        exact ⟨p, .inr rfl, e1⟩
    · rintro ⟨k, hk1 | hk1, hk2⟩
      · exact .inl ((h.seen e' he').2 ⟨k, hk1, hk2⟩)
      · subst hk1
        exact .inr (by rw [key_one hl hk he' he (hk2.trans e1.symm)])
  · refine filter_less (fun x _ hx => ?_) he (by simpa using hne) (by simp)
    simp at hx ⊢
    exact hx.1
end
def nowOf (a : AW) (n : ByteArray) : List UInt8 := ((a.files[(mget n a.names).getD 0]?).getD ⟨[], [], []⟩).now
theorem mget_some_of {κ β : Type} [DecidableEq κ] {k : κ} {l : List (κ × β)} (h : k ∈ l.map (·.1)) : ∃ v, mget k l = some v := by
  induction l with
  | nil => cases h
  | cons p l ih =>
    simp only [mget]
    split
    · exact ⟨_, rfl⟩
    · rename_i hne
      rcases List.mem_cons.1 h with h | h
      · exact absurd h.symm hne
      · exact ih h
theorem Rep.named {w : WR} {a : AW} {M : Nat} (h : Rep w a M) {n : ByteArray} (hn : n ∈ a.names.map (·.1)) :
    ∃ j b fo, V.mget n a.names = some j ∧ V.mget n w.names = some b ∧ w.objs[j]? = some (b, fo) ∧ a.files[j]? = some (foF fo) ∧ FOk fo M ∧ nowOf a n = fo.now := by
  obtain ⟨j, hj⟩ := mget_some_of hn
  have hin := h.nin _ (mget_mem hj)
  obtain ⟨b, fo, h1, h2, h3, h4⟩ := h.file hin
  refine ⟨j, b, fo, hj, ?_, h1, h3, h4, ?_⟩
  · rw [h.mget, hj, Option.map_some, h2]
  · simp [nowOf, hj, h3, foF]
end Go.V

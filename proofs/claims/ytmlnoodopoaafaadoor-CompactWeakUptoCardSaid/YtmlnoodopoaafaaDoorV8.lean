/-
  Functions that may panic; what is caught.
-/
import Derived.Test.YtmlnoodopoaafaaDoorV7
import Derived.RecoverIn
import Derived.Test.YtmlnoodopoaafaaDoorV6
set_option linter.unusedSimpArgs false
set_option linter.unusedVariables false
namespace Go.V
open Go
def FunP (P : Program) (f : Nat) (args : List Value) (Pre : SH) (Q : Value → SH → Prop) (Z : List PanicEntry → SH → Prop) : Prop :=
  callable P f = true ∧ ∀ F w, Sat w (Pre.flatten ++ F) →
    Calls P f args.toArray w fun e w' => ∃ Post, ((∃ v, e = .returned v ∧ Q v Post) ∨ (∃ ch, e = .panicked ch ∧ Z ch Post)) ∧ Sat w' (Post.flatten ++ F) ∧ Keeps w w'
section
variable {P : Program} {f : Nat} {args : List Value} {Pre : SH} {Q Q' : Value → SH → Prop} {Z Z' : List PanicEntry → SH → Prop}
theorem FunP.mono (h : FunP P f args Pre Q Z) (hq : ∀ v Post, Q v Post → Q' v Post) (hz : ∀ ch Post, Z ch Post → Z' ch Post) : FunP P f args Pre Q' Z' :=
  ⟨h.1, fun F w hs => (h.2 F w hs).mono fun _ _ ⟨Post, a, b, c⟩ => ⟨Post, a.imp (fun ⟨v, e, q⟩ => ⟨v, e, hq _ _ q⟩) (fun ⟨ch, e, q⟩ => ⟨ch, e, hz _ _ q⟩), b, c⟩⟩
theorem FunP.of_fun (h : Fun P f args Pre Q) : FunP P f args Pre Q Z :=
  ⟨h.1, fun F w hs => (h.2 F w hs).mono fun _ _ ⟨v, Post, a, b, c, d⟩ => ⟨Post, .inl ⟨v, a, b⟩, c, d⟩⟩
theorem FunP.fun (h : FunP P f args Pre Q (fun _ _ => False)) : Fun P f args Pre Q :=
  ⟨h.1, fun F w hs => (h.2 F w hs).mono fun _ _ ⟨Post, a, b, c⟩ => by
    rcases a with ⟨v, e, q⟩ | ⟨ch, e, q⟩
    · exact ⟨v, Post, e, q, b, c⟩
    · exact q.elim⟩
theorem FunP.conv {H R : SH} (h : FunP P f args Pre Q Z) (hs : Spl H Pre R) (hq : ∀ v Post, Q v Post → ∃ Post', Q' v Post' ∧ Imp (Post ++ R) Post') (hz : ∀ ch Post, Z ch Post → ∃ Post', Z' ch Post' ∧ Imp (Post ++ R) Post') : FunP P f args H Q' Z' := by
  refine ⟨h.1, fun F w hw => ?_⟩
  have hw' : Sat w (Pre.flatten ++ (R.flatten ++ F)) := by
    rw [← List.append_assoc]; exact hw.perm (List.Perm.append_right F hs)
  refine (h.2 (R.flatten ++ F) w hw').mono ?_
  rintro e w' ⟨Post, h1, h3, h4⟩
  have h3' : Sat w' ((Post ++ R).flatten ++ F) := by rw [List.flatten_append, List.append_assoc]; exact h3
  rcases h1 with ⟨v, e1, q⟩ | ⟨ch, e1, q⟩
  · obtain ⟨Post', h5, h6⟩ := hq v Post q
    exact ⟨Post', .inl ⟨v, e1, h5⟩, Sat.imp h6 h3', h4⟩
  · obtain ⟨Post', h5, h6⟩ := hz ch Post q
    exact ⟨Post', .inr ⟨ch, e1, h5⟩, Sat.imp h6 h3', h4⟩
end
section
variable {P : Program} {n : Nat} {rs : List RO} {Γ : Env} {H : SH} {Z : List PanicEntry → Env → SH → Prop} {K : Env → SH → Prop} {d : Option Nat}
end
def endP (res : List RV) (Q : Value → SH → Prop) (Z : List PanicEntry → SH → Prop) : Exit → Env → SH → Prop
  | .panic ch, _, H => ∃ Post, Imp H Post ∧ Z ch Post
  | e, Γ, H => endQ res Q e Γ H
section
variable {P : Program} {fn : Func} {tmps : Array Value} {FF : List Atom} {w0 : World}
theorem leaves_marksU {R : Ending → World → Prop} {ds : List Deferred} {L : List Atom} {u : FrameMode} (hu : u ≠ .run) : ∀ (X : List Nat) (w' : World), Sat w' (L ++ (FF ++ marks X)) → Keeps w0 w' →
    (∀ w'', Sat w'' (L ++ FF) → Keeps w0 w'' → LeavesInM (VFc none) 0 P fn tmps R ds u w'') → LeavesInM (VFc none) 0 P fn tmps R (X.map coll ++ ds) u w' := by
  intro X
  induction X with
  | nil => intro w' hs hk h; exact h w' (by simpa [V.marks] using hs) hk
  | cons r X ih =>
    intro w' hs hk h
    have hp : (L ++ (FF ++ V.marks (r :: X))).Perm (.obj r (.deferred (some [])) :: (L ++ (FF ++ V.marks X))) := by
      simp only [V.marks, List.map_cons]
      rw [← List.append_assoc, ← List.append_assoc]
      exact List.perm_middle
    have g5 := hs.perm hp
    obtain ⟨k1, k2⟩ := g5.obj (List.mem_cons_self ..)
    obtain ⟨s1, s2⟩ := Sat.setObj (u := .deferred none) g5 rfl
    refine ⟨hu, .inl ⟨r, _, rfl, ?_, ih _ (s1.sub (List.sublist_cons_self ..)) (hk.trans s2) h⟩⟩
    simp [Instr.takeDeferred, Go.getObj, Go.setObj, Sem.run, k1]
end
theorem FunP.intro {P : Program} {kp : Nat → List Nat} {od : Nat → List (List Nat)} {f : Nat} {F : FIR} {args : List Value} {Pre : SH} {Q : Value → SH → Prop} {Z : List PanicEntry → SH → Prop} (hl : lowF P kp od f = some F) (hn : args.length ≤ F.n)
    (h : VC P F.n F.body (argsEnv 0 args) Pre (endP F.res Q Z)) : FunP P f args Pre Q Z := by
  unfold lowF at hl
  split at hl
  · cases hl
  rename_i fn hfn
  split at hl
  · cases hl
  rename_i c hc
  split at hl
  case isFalse => cases hl
  rename_i hname
  split at hl
  case h_2 => cases hl
  rename_i b r hb hr
  cases hl
  refine ⟨by simp only [callable, hfn, hname, hc]; rfl, fun FF w hs => ?_⟩
  refine (callsIn_wide (n := 0)).1 (callsIn_of_wp_marks hfn hc trivial (h none kp od c hb _ w FF _ (fun l e => by cases e) ⟨?_, fun t v e => ?_⟩ hs (fun e a' w' Γ' H' X q g1 g2 g3 g4 => ?_)))
  · simp at hn ⊢; omega
  · obtain ⟨_, h2⟩ := look_argsEnv e
    simp only [Nat.sub_zero] at h2
    have hlt : t < args.length := (List.getElem?_eq_some_iff.1 h2).1
    simp only [Array.getElem?_append, List.size_toArray, hlt, if_true]
    simpa using h2
  · have hret : ∀ e0, endQ r Q e0 Γ' H' → LeavesInM (VFc none) 0 P fn a'.tmps (fun e w' => ∃ Post, ((∃ v, e = .returned v ∧ Q v Post) ∨ (∃ ch, e = .panicked ch ∧ Z ch Post)) ∧ Sat w' (Post.flatten ++ FF) ∧ Keeps w w') a'.defers .returning w' := by
      rintro e0 ⟨_, vs, Post, h1, h2, h3⟩
      have := leaves_marksU (P := P) (fn := fn) (tmps := a'.tmps) (w0 := w) (FF := FF) (L := H'.flatten) (u := .returning) (R := fun e w' => ∃ Post, ((∃ v, e = .returned v ∧ Q v Post) ∨ (∃ ch, e = .panicked ch ∧ Z ch Post)) ∧ Sat w' (Post.flatten ++ FF) ∧ Keeps w w') (ds := []) (by simp) X w' g3 g4
        (fun w'' s k => ⟨_, run_results s hr g1 h1, Post, .inl ⟨_, rfl, h3⟩, s.imp h2, k⟩)
      rw [g2]; exact this
    cases e with
    | normal => exact hret _ q
    | ret => exact hret _ q
    | panic ch =>
      obtain ⟨Post, h2, h3⟩ := q
      have := leaves_marksU (P := P) (fn := fn) (tmps := a'.tmps) (w0 := w) (FF := FF) (L := H'.flatten) (u := .panicking ch) (R := fun e w' => ∃ Post, ((∃ v, e = .returned v ∧ Q v Post) ∨ (∃ ch, e = .panicked ch ∧ Z ch Post)) ∧ Sat w' (Post.flatten ++ FF) ∧ Keeps w w') (ds := []) (by simp) X w' g3 g4
        (fun w'' s k => (⟨Post, .inr ⟨ch, rfl, h3⟩, s.imp h2, k⟩ : ∃ Post, _))
      show LeavesInM _ _ _ _ _ _ a'.defers _ _
      rw [g2]; exact this
    | exit id => exact absurd q.1 (by simp)
    | goto l => exact absurd q.1 (by simp)
    | outgrown => exact absurd q.1 (by simp)
def FunVP (P : Program) (fv : Value) (args : List Value) (Pre : SH) (Q : Value → SH → Prop) (Z : List PanicEntry → SH → Prop) : Prop :=
  ∀ F w, Sat w (Pre.flatten ++ F) → Invk P fv args w fun e w' => ∃ Post, ((∃ v, e = .returned v ∧ Q v Post) ∨ (∃ ch, e = .panicked ch ∧ Z ch Post)) ∧ Sat w' (Post.flatten ++ F) ∧ Keeps w w'
theorem FunVP.of_fun {P : Program} {f : Nat} {first cap : Array Value} {args : List Value} {Pre : SH} {Q : Value → SH → Prop} {Z : List PanicEntry → SH → Prop} (h : FunP P f (first.toList ++ args ++ cap.toList) Pre Q Z) : FunVP P (.func (.func f) first cap) args Pre Q Z := by
  intro F w hs
  refine ⟨h.1, ?_⟩
  have hall : first ++ args.toArray ++ cap = (first.toList ++ args ++ cap.toList).toArray := by
    apply Array.toList_inj.1; simp
  rw [hall]
  exact h.2 F w hs
def okRcv (r : R) : Bool := isPure r || isRead r || isNew r || (match r with | .store .. => true | _ => false)
def isRcv (o : Oper) : Bool := match o.op with
  | .call c => (match c.callee with | .builtin .recover => true | _ => false) && o.guard.isNone
  | _ => false
def lowRcv (P : Program) (n : Nat) (kp : Nat → List Nat) (od : Nat → List (List Nat)) : Code → Option (Nat × List RO × IC)
  | .seq (.region _ ops false) c => match ops.toList with
    | o1 :: os => if isRcv o1 then match o1.dst, lowList P n ops os, lowC P n kp od c with
      | some d, some rs, some y => if d < n ∧ rs.all (fun r => okRcv r.op) = true then some (d, rs, y) else none
      | _, _, _ => none else none
    | [] => none
  | _ => none
structure RIR where
  n : Nat
  res : List RV
  d : Nat
  rs : List RO
  post : IC
def lowFR (P : Program) (kp : Nat → List Nat) (od : Nat → List (List Nat)) (f : Nat) : Option RIR :=
  match P.funcs[f]? with
  | none => none
  | some fn => match fn.body with
    | none => none
    | some c => if fn.name != "runtime.NumGoroutine" then
        match lowRcv P fn.ntmps kp od c, resTmps P fn.results.toList with
        | some (d, rs, y), some r => some ⟨fn.ntmps, r, d, rs, y⟩
        | _, _ => none
      else none
def FunDR (P : Program) (f : Nat) (args : List Value) (u u' : FrameMode) (Pre : SH) (Q : SH → Prop) : Prop :=
  callable P f = true ∧ ∀ F w, Sat w (Pre.flatten ++ F) → CallsDIn (VFc none) 0 P f args.toArray u w fun e u2 w' => u2 = u' ∧ ∃ v Post, e = .returned v ∧ Q Post ∧ Sat w' (Post.flatten ++ F) ∧ Keeps w w'
inductive Rcv : FrameMode → Value → FrameMode → Prop where
  | none : Rcv .returning .nilIface .returning
  | some {v : Value} : Rcv (.panicking [{ v := v, recovered := false }]) v (.panicking [{ v := v, recovered := true }])
section
variable {P : Program} {n m : Nat} {ops : Array Oper} {Q : Exit → Act → List Frame → World → Prop} {cs : List Frame}
theorem run_storeO {o : Oper} {t : TypeId} {x y : Operand} (h : o.op = .store t x y) {ρ : Operand → Value} {w : World} : (∃ w', (execOp ρ o).run P w = .ok .skip w') ∨ (∃ e w', (execOp ρ o).run P w = .halt e w') := by
  simp only [execOp, h]
  rw [Sem.run_bind]
  cases hh : (Instr.storeAt t (ρ x) (ρ y)).run P w with
  | ok v w' => exact .inl ⟨w', rfl⟩
  | halt e w' => exact .inr ⟨e, w', rfl⟩
theorem opsS_pure : ∀ (l : List (RO × Oper)) (idx : List Nat), idx.map (fun i => ops[i]?) = l.map (fun x => some x.2) → (∀ x ∈ l, okRcv x.1.op = true ∧ lowRO P n ops x.2 = some x.1) →
    ∀ (a : Act) (w : World), wpR P (fun _ _ _ => False) (fun a' w' => Q .normal a' cs w') l a w → wpOpsSIn (VFc none) m P ops Q idx a cs w := by
  intro l
  induction l with
  | nil =>
    intro idx hi _ a w h
    obtain rfl : idx = [] := by simpa using hi
    exact h
  | cons x l ih =>
    intro idx hi hx a w h
    cases idx with
    | nil => simp at hi
    | cons i idx =>
      simp only [List.map_cons, List.cons.injEq] at hi
      obtain ⟨hi1, hi2⟩ := hi
      obtain ⟨hp, hlow⟩ := hx x (by simp)
      obtain ⟨g1, g2, g3, g4⟩ := lowRO_spec hlow
      have ih' := ih idx hi2 (fun y hy => hx y (by simp [hy]))
      simp only [wpOpsSIn, hi1]
      refine ⟨fun _ _ => trivial, ?_⟩
      rw [g4 a]
      have h' : wpR1 P (fun _ _ _ => False) x (wpR P (fun _ _ _ => False) (fun a' w' => Q .normal a' cs w') l) a w := h
      unfold wpR1 at h'
      by_cases hw : wantedR x.1.guard a = true
      · rw [if_pos hw] at h' ⊢
        by_cases hpu : isPure x.1.op = true
        · rw [if_pos hpu] at h'
          obtain ⟨v, e, hn⟩ := h'
          have hrun : (execOp a.eval x.2).run P w = .ok (.value v) w := pure_sound (w := w) (eval_const a) g1 e
          rw [hrun]
          rw [g2] at hn
          exact ih' _ _ hn
        · by_cases hre : isRead x.1.op = true
          · rw [if_neg hpu, if_pos hre] at h'
            obtain ⟨s, v, e, er, hn⟩ := h'
            have hrun : (execOp a.eval x.2).run P w = .ok (.value v) w := mem_sound (eval_const a) g1 e (er w (.refl w))
            rw [hrun]
            rw [g2] at hn
            exact ih' _ _ hn
          · rw [if_neg hpu, if_neg hre] at h'
            obtain ⟨hnew, hv⟩ := h'
            by_cases hnw : isNew x.1.op = true
            · obtain ⟨u, w', hrun, _⟩ := hnew hnw
              simp only [wpV, hrun, uponV] at hv
              rw [hrun]
              exact ih' _ _ hv
            · have hst : ∃ k y z, x.1.op = .store k y z := by
                simp only [okRcv, Bool.or_eq_true] at hp
                rcases hp with ((h | h) | h) | h
                · exact absurd h hpu
                · exact absurd h hre
                · exact absurd h hnw
                · split at h
                  · exact ⟨_, _, _, by assumption⟩
                  · cases h
              obtain ⟨k, y, z, hst⟩ := hst
              have hop : ∃ t, x.2.op = .store t y z := by
                rw [hst] at g1
                generalize x.2 = oo at g1 ⊢
                obtain ⟨dst, op, ty, pos, after, guard⟩ := oo
                simp only at g1 ⊢
                cases op
                case store t y' z' =>
                  simp only [lowOp, Option.map_eq_some_iff] at g1
                  obtain ⟨i, _, g1⟩ := g1
                  cases g1
                  exact ⟨_, rfl⟩
                all_goals (exfalso; try simp only [lowOp] at g1)
                all_goals (repeat' split at g1)
                all_goals first
                  | (cases g1; done)
                  | (simp only [Option.map_eq_some_iff] at g1; obtain ⟨_, _, g1⟩ := g1; cases g1; done)
              obtain ⟨t, hop⟩ := hop
              rcases run_storeO (P := P) hop (ρ := a.eval) (w := w) with ⟨w', hrun⟩ | ⟨e, w', hrun⟩
              · simp only [wpV, hrun, uponV] at hv
                rw [hrun]
                exact ih' _ _ hv
              · simp only [wpV, hrun] at hv
                cases e <;> exact hv.elim
      · rw [if_neg hw] at h' ⊢
        rw [g2] at h'
        exact ih' _ _ h'
end
theorem FunDR.intro {P : Program} {kp : Nat → List Nat} {od : Nat → List (List Nat)} {f : Nat} {F : RIR} {args : List Value} {Pre : SH} {u u' : FrameMode} {rv : Value} {Q : SH → Prop} (hl : lowFR P kp od f = some F) (hn : args.length ≤ F.n) (hu : Rcv u rv u')
    (h : VO P F.n F.rs ((F.d, rv) :: argsEnv 0 args) Pre (fun _ _ _ => False) fun Γ' H' => VCz P F.n F.post Γ' H' (endQ F.res fun _ Post => Q Post)) : FunDR P f args u u' Pre Q := by
  unfold lowFR at hl
  split at hl
  · cases hl
  rename_i fn hfn
  split at hl
  · cases hl
  rename_i c hc
  split at hl
  case isFalse => cases hl
  rename_i hname
  split at hl
  case h_2 => cases hl
  rename_i d rs y r hb hr
  cases hl
  refine ⟨by simp only [callable, hfn, hname, hc]; rfl, fun FF w hs => ?_⟩
  unfold lowRcv at hb
  split at hb
  case h_2 => cases hb
  rename_i id ops c2
  split at hb
  case h_2 => cases hb
  rename_i o1 os hops
  split at hb
  case isFalse => cases hb
  rename_i hrcv
  split at hb
  case h_2 => cases hb
  rename_i d' rs' y' hd1 hd2 hd3
  split at hb
  case isFalse => cases hb
  rename_i hcond
  cases hb
  obtain ⟨hdn, hall⟩ := hcond
  refine callsDIn_of_wpSIn hfn hc trivial (fun c₀ cs hmode => ?_)
  have hsz : ops.size = os.length + 1 := by rw [← Array.length_toList, hops]; rfl
  refine wpSIn_seq (wpSIn_region ?_)
  rw [hsz, List.range_succ_eq_map]
  have h0 : ops[0]? = some o1 := by rw [← Array.getElem?_toList, hops]; rfl
  unfold isRcv at hrcv
  split at hrcv
  case h_2 => cases hrcv
  rename_i cl hcl
  simp only [Bool.and_eq_true] at hrcv
  obtain ⟨hcal, hg⟩ := hrcv
  have hcal' : cl.callee = .builtin .recover := by
    split at hcal
    · assumption
    · cases hcal
  have hg' : o1.guard = none := by simpa using hg
  obtain ⟨a0, ha0⟩ : ∃ a0 : Act, a0 = { tmps := args.toArray ++ Array.replicate (fn.ntmps - args.toArray.size) undef, defers := [] } := ⟨_, rfl⟩
  rw [← ha0]
  have hagree : Agree fn.ntmps (argsEnv 0 args) a0 := by
    rw [ha0]
    refine ⟨?_, fun t v e => ?_⟩
    · simp at hn ⊢; omega
    · obtain ⟨_, h2⟩ := look_argsEnv e
      simp only [Nat.sub_zero] at h2
      have hlt : t < args.length := (List.getElem?_eq_some_iff.1 h2).1
      simp only [Array.getElem?_append, List.size_toArray, hlt, if_true]
      simpa using h2
  have hdef : a0.defers = [] := by rw [ha0]
  simp only [wpOpsSIn, h0]
  refine ⟨fun _ _ => trivial, ?_⟩
  have hw : Region.wanted o1 (yielded ops a0.tmps) = true := by simp [Region.wanted, hg']
  rw [if_pos hw]
  have hrun : (execOp a0.eval o1).run P w = .ok .recover w := by
    simp [execOp, hcl, resolve, hcal', invoke, builtin]
  rw [hrun]
  have hag1 := hagree.put hdn rv
  have hl2 : lowList P fn.ntmps ops os = some rs := hd2
  obtain ⟨hlen, hget⟩ := lowList_length hl2
  have key : ∀ cs', (∃ u2, cs' = { c₀ with mode := u2 } :: cs ∧ u2 = u') → wpOpsSIn (VFc none) 0 P ops (Exit.thenS (c2.wpSIn (VFc none) 0 P (bodyPostS P fn c₀ cs fun e u2 w' => u2 = u' ∧ ∃ v Post, e = .returned v ∧ Q Post ∧ Sat w' (Post.flatten ++ FF) ∧ Keeps w w')) (bodyPostS P fn c₀ cs fun e u2 w' => u2 = u' ∧ ∃ v Post, e = .returned v ∧ Q Post ∧ Sat w' (Post.flatten ++ FF) ∧ Keeps w w')) (List.map Nat.succ (List.range os.length)) (a0.put o1.dst rv) cs' w := by
    rintro cs' ⟨u2, rfl, rfl⟩
    refine opsS_pure (n := fn.ntmps) (rs.zip os) _ ?_ ?_ _ _ ?_
    · apply List.ext_getElem?
      intro i
      simp only [List.getElem?_map]
      by_cases hi : i < os.length
      · rw [List.getElem?_range hi]
        have hz : (rs.zip os)[i]? = some (rs[i]'(by omega), os[i]) := by
          rw [List.getElem?_eq_getElem (by simp; omega)]; simp
        rw [hz]
        simp only [Option.map_some]
        rw [← Array.getElem?_toList, hops]
        simp [hi]
      · rw [List.getElem?_eq_none (by simpa using hi), List.getElem?_eq_none (by simp; omega)]; rfl
    · intro x hx
      obtain ⟨i, hi⟩ := List.getElem?_of_mem hx
      have hil := (List.getElem?_eq_some_iff.1 hi).1
      simp at hil
      have e : (rs.zip os)[i]? = some (rs[i]'(by omega), os[i]'(by omega)) := by
        rw [List.getElem?_eq_getElem (by simp; omega)]; simp
      rw [e] at hi
      cases hi
      refine ⟨?_, hget i _ _ (List.getElem?_eq_getElem (by omega)) (List.getElem?_eq_getElem (by omega))⟩
      exact List.all_eq_true.1 hall _ (List.getElem_mem _)
    · rw [hd1]
      refine h (rs.zip os) ⟨by rw [List.map_fst_zip]; omega, fun x hx => ?_⟩ _ w FF _ _ hag1 hs (fun a2 w2 Γ2 H2 q k1 k2 k3 k4 => ?_) (fun _ _ _ _ _ q => q.elim)
      · obtain ⟨i, hi⟩ := List.getElem?_of_mem hx
        have hil := (List.getElem?_eq_some_iff.1 hi).1
        simp at hil
        have e : (rs.zip os)[i]? = some (rs[i]'(by omega), os[i]'(by omega)) := by
          rw [List.getElem?_eq_getElem (by simp; omega)]; simp
        rw [e] at hi
        cases hi
        exact ⟨ops, hget i _ _ (List.getElem?_eq_getElem (by omega)) (List.getElem?_eq_getElem (by omega))⟩
      · show c2.wpSIn _ _ _ _ a2 _ w2
        refine wpSIn_of_wpIn rfl ?_
        refine q none kp od c2 hd3 a2 w2 FF _ k1 k3 (fun e a3 w3 Γ3 H3 q3 j1 j2 j3 j4 => ?_)
        obtain ⟨he, vs, Post, e1, e2, e3⟩ := q3
        have hdd : a3.defers = [] := by rw [j2, k2, put_defers, hdef]
        have hb : a3.defers = [] ∧ ∃ u2', ({ c₀ with mode := u2 } :: cs : List Frame) = { c₀ with mode := u2' } :: cs ∧ ∃ v, (results fn a3.tmps).run P w3 = .ok v w3 ∧ (u2' = u2 ∧ ∃ v' Post, (Ending.returned v) = .returned v' ∧ Q Post ∧ Sat w3 (Post.flatten ++ FF) ∧ Keeps w w3) :=
          ⟨hdd, u2, rfl, _, run_results j3 hr j1 e1, rfl, _, Post, rfl, e3, j3.imp e2, k4.trans j4⟩
        rcases he with rfl | rfl <;> exact hb
  cases hu with
  | none =>
    have hrd : recoverD (c₀ :: cs) = none := by simp [recoverD, hmode]
    simp only [hrd]
    refine key _ ⟨.returning, ?_, rfl⟩
    have : c₀ = { c₀ with mode := .returning } := by cases c₀; simp_all
    rw [← this]
  | some =>
    have hrd : recoverD (c₀ :: cs) = some (rv, { c₀ with mode := .panicking [{ v := rv, recovered := true }] } :: cs) := by simp [recoverD, hmode]
    simp only [hrd]
    exact key _ ⟨_, rfl, rfl⟩
section
variable {P : Program} {n : Nat} {fn : Func} {tmps : Array Value} {FF : List Atom} {w0 : World}
end
def laidA {α : Type} {X F : α} (_h : F = X := by (dsimp only [qm, qk, qz, qo, ql, qf, qi, qb, qc, qn, qs, qp, qa, qr, qe, tmps, qx, qL, qN, qB, qt, qu, qS, qC, nthO, ordO, ordsO, qD] <;> exact rfl)) : α := F
def SubAt : Value → Nat → Value → Prop
  | .slice (some ⟨b, o, none⟩) k c, l, dv => dv = .slice (some ⟨b, (if c = l then o else o + l), none⟩) (k - l) (c - l)
  | .slice none k c, l, dv => dv = .slice none (k - l) (c - l)
  | _, _, _ => False
section
variable {P : Program} {n : Nat} {rs : List RO} {Γ : Env} {H : SH} {Z : List PanicEntry → Env → SH → Prop} {K : Env → SH → Prop} {d : Option Nat}
end
def setObj (objs : List (Nat × FO)) (b : Nat) (fo : FO) : List (Nat × FO) := objs.map fun p => if p.1 = b then (b, fo) else p
theorem set_blk {hs : List HO} {i : Nat} {x y : HO} (hx : hs[i]? = some x) (hb : y.blk = x.blk) : (hs.set i y).map (fun h => ptr0 h.blk) = hs.map fun h => ptr0 h.blk := by
  obtain ⟨hlt, rfl⟩ := List.getElem?_eq_some_iff.1 hx
  rw [List.map_set, hb]
  conv => rhs; rw [← List.set_getElem_self (as := hs.map fun h => ptr0 h.blk) (i := i) (by simpa using hlt)]
  simp
structure AF where
  now : List UInt8
  base : List UInt8
  writes : List Wr
structure AW where
  choices : List Ch
  names : List (ByteArray × Nat)
  files : List AF
  hs : List HO
  trace : List De
  clock : Int
  seq : Int
  dead : Bool
def foF (f : FO) : AF := ⟨f.now, f.base, f.writes⟩
def ho0 (h : HO) : HO := { h with blk := 0 }
def hoB (B : List Nat) (h : HO) : HO := { h with blk := 0, file := h.file.map fun i => B.getD i 0 }
structure Rep (w : WR) (a : AW) (M : Nat) : Prop where
  ch : w.choices = a.choices
  tr : w.trace = a.trace
  clock : w.clock = a.clock
  seq : w.seq = a.seq
  dead : w.dead = a.dead
  names : w.names = a.names.map fun p => (p.1, (w.objs.map (·.1)).getD p.2 0)
  nin : ∀ p ∈ a.names, p.2 < a.files.length
  files : w.objs.map (fun p => foF p.2) = a.files
  hs : w.hs.map ho0 = a.hs.map (hoB (w.objs.map (·.1)))
  hin : ∀ h ∈ a.hs, ∀ i, h.file = some i → i < a.files.length
  ok : WOk w M
theorem heldE_congr {hs hs' : List HO} (h : hs.map (fun h => (h.closed, h.stale, h.file.isNone)) = hs'.map fun h => (h.closed, h.stale, h.file.isNone)) (n : Int) (host : Bool) : heldE hs n host = heldE hs' n host := by
  unfold heldE
  by_cases h1 : 1 ≤ n
  · simp only [if_pos h1]
    have hg : ((hs.map (fun h => (h.closed, h.stale, h.file.isNone)))[(n - 1).toNat]?) = ((hs'.map (fun h => (h.closed, h.stale, h.file.isNone)))[(n - 1).toNat]?) := by rw [h]
    simp only [List.getElem?_map] at hg
    cases hx : hs[(n - 1).toNat]? with
    | none =>
      cases hy : hs'[(n - 1).toNat]? with
      | none => rfl
      | some y => rw [hx, hy] at hg; cases hg
    | some x =>
      cases hy : hs'[(n - 1).toNat]? with
      | none => rw [hx, hy] at hg; cases hg
      | some y =>
        rw [hx, hy] at hg
        simp only [Option.map_some, Option.some.injEq, Prod.mk.injEq] at hg
        obtain ⟨g1, g2, g3⟩ := hg
        simp only [g1, g2, g3]
  · simp only [if_neg h1]
theorem anyE_congr {hs hs' : List HO} (h : hs.map (fun h => (h.closed, h.stale, h.file.isNone)) = hs'.map fun h => (h.closed, h.stale, h.file.isNone)) (n : Int) : anyE hs n = anyE hs' n := by
  unfold anyE
  by_cases h1 : 1 ≤ n
  · simp only [if_pos h1]
    have hg : ((hs.map (fun h => (h.closed, h.stale, h.file.isNone)))[(n - 1).toNat]?) = ((hs'.map (fun h => (h.closed, h.stale, h.file.isNone)))[(n - 1).toNat]?) := by rw [h]
    simp only [List.getElem?_map] at hg
    cases hx : hs[(n - 1).toNat]? with
    | none =>
      cases hy : hs'[(n - 1).toNat]? with
      | none => rfl
      | some y => rw [hx, hy] at hg; cases hg
    | some x =>
      cases hy : hs'[(n - 1).toNat]? with
      | none => rw [hx, hy] at hg; cases hg
      | some y =>
        rw [hx, hy] at hg
        simp only [Option.map_some, Option.some.injEq, Prod.mk.injEq] at hg
        simp only [hg.1]
  · simp only [if_neg h1]
section
variable {w : WR} {a : AW} {M : Nat}
theorem Rep.flags (h : Rep w a M) : w.hs.map (fun h => (h.closed, h.stale, h.file.isNone)) = a.hs.map fun h => (h.closed, h.stale, h.file.isNone) := by
  have := congrArg (List.map fun h : HO => (h.closed, h.stale, h.file.isNone)) h.hs
  simp only [List.map_map] at this
  have e1 : ((fun h : HO => (h.closed, h.stale, h.file.isNone)) ∘ ho0) = fun h => (h.closed, h.stale, h.file.isNone) := rfl
  have e2 : ((fun h : HO => (h.closed, h.stale, h.file.isNone)) ∘ hoB (w.objs.map (·.1))) = fun h => (h.closed, h.stale, h.file.isNone) := by
    funext h; simp [hoB]
  rw [e1, e2] at this
  exact this
theorem Rep.held (h : Rep w a M) (n : Int) (host : Bool) : heldE w.hs n host = heldE a.hs n host := heldE_congr h.flags n host
theorem Rep.any (h : Rep w a M) (n : Int) : anyE w.hs n = anyE a.hs n := anyE_congr h.flags n
theorem Rep.hlen (h : Rep w a M) : w.hs.length = a.hs.length := by have := congrArg List.length h.hs; simpa using this
theorem Rep.flen (h : Rep w a M) : w.objs.length = a.files.length := by have := congrArg List.length h.files; simpa using this
theorem WOk.mono {M' : Nat} (h : WOk w M) (hm : M ≤ M') : WOk w M' :=
  { h with fo := fun p hp => let x := h.fo p hp; { x with many := Nat.le_trans x.many hm }, hmany := Nat.le_trans h.hmany hm, trmany := Nat.le_trans h.trmany hm, seq := ⟨h.seq.1, by have := h.seq.2; omega⟩ }
theorem Rep.mono {M' : Nat} (h : Rep w a M) (hm : M ≤ M') : Rep w a M' := { h with ok := h.ok.mono hm }
theorem Rep.handle (h : Rep w a M) {i : Nat} {x : HO} (hx : w.hs[i]? = some x) : ∃ y, a.hs[i]? = some y ∧ ho0 x = hoB (w.objs.map (·.1)) y := by
  have := congrArg (·[i]?) h.hs
  simp only [List.getElem?_map, hx, Option.map_some] at this
  cases hy : a.hs[i]? with
  | none => rw [hy] at this; cases this
  | some y => rw [hy] at this; exact ⟨y, rfl, by simpa using this⟩
theorem Rep.file (h : Rep w a M) {j : Nat} (hj : j < a.files.length) : ∃ b fo, w.objs[j]? = some (b, fo) ∧ (w.objs.map (·.1)).getD j 0 = b ∧ a.files[j]? = some (foF fo) ∧ FOk fo M := by
  have hl : j < w.objs.length := by rw [h.flen]; exact hj
  refine ⟨w.objs[j].1, w.objs[j].2, by simp [hl], ?_, ?_, h.ok.fo _ (List.getElem_mem hl)⟩
  · simp [List.getD_eq_getElem?_getD, hl]
  · rw [← h.files]; simp [hl]
theorem Rep.setH (h : Rep w a M) {i : Nat} {x y x' y' : HO} (hx : w.hs[i]? = some x) (hy : a.hs[i]? = some y) (hb : x'.blk = x.blk) (hf : x'.file = x.file) (hf' : y'.file = y.file)
    (he : x'.closed = y'.closed ∧ x'.stale = y'.stale ∧ x'.mode = y'.mode ∧ x'.at_ = y'.at_) (ha : 0 ≤ x'.at_ ∧ x'.at_ ≤ 4194304) : Rep { w with hs := w.hs.set i x' } { a with hs := a.hs.set i y' } M := by
  obtain ⟨z, hz, hxz⟩ := h.handle hx
  rw [hy] at hz; cases hz
  have hfb : x.file = y.file.map fun i => (w.objs.map (·.1)).getD i 0 := by
    have := congrArg HO.file hxz; simpa [ho0, hoB] using this
  have hmx : ∀ z ∈ w.hs.set i x', z = x' ∨ z ∈ w.hs := fun z hz => (List.mem_or_eq_of_mem_set hz).symm
  refine { h with hs := ?_, hin := ?_, ok := { h.ok with hv := ?_, hfile := ?_, hat := ?_, hmany := ?_ } }
  · simp only [List.map_set]
    rw [h.hs]
    congr 1
    obtain ⟨b0, c0, s0, f0, m0, a0⟩ := x'
    obtain ⟨b1, c1, s1, f1, m1, a1⟩ := y'
    simp only at he hf hf'
    obtain ⟨rfl, rfl, rfl, rfl⟩ := he
    simp only [ho0, hoB, HO.mk.injEq, true_and, and_true]
    rw [hf, hfb, hf']
  · intro z hz k hk
    rcases List.mem_or_eq_of_mem_set hz with hz | rfl
    · exact h.hin z hz k hk
    · exact h.hin y (List.mem_of_getElem? hy) k (by rw [← hf']; exact hk)
  · rw [set_blk hx hb, List.length_set]; exact h.ok.hv
  · intro z hz b hzb
    rcases hmx z hz with rfl | hz
    · exact h.ok.hfile x (List.mem_of_getElem? hx) b (by rw [← hf]; exact hzb)
    · exact h.ok.hfile z hz b hzb
  · intro z hz
    rcases hmx z hz with rfl | hz
    · exact ha
    · exact h.ok.hat z hz
  · simpa using h.ok.hmany
end
def chA (a : AW) : Ch := if a.dead then noCh else a.choices.headD noCh
def liveA (a : AW) : Bool := !(a.dead || decide ((chA a).kind = 5))
def takeA (a : AW) : AW := { a with choices := if a.dead then a.choices else a.choices.tail, dead := !liveA a }
theorem Rep.take {w : WR} {a : AW} {M : Nat} (h : Rep w a M) {w1 : WR} (hT : Taken w w1) : Rep w1 (takeA a) M ∧ takeC w = chA a ∧ takeL w = liveA a := by
  obtain ⟨cv', csp', cs, h1, h2, h3, rfl⟩ := hT
  have hc : takeC w = chA a := by simp only [takeC, chA, h.dead, h.ch]
  have hl : takeL w = liveA a := by simp only [takeL, liveA, hc, h.dead]
  refine ⟨{ h with ch := ?_, dead := ?_, ok := { h.ok with ch := h3, chmany := Nat.le_trans h1 h.ok.chmany } }, hc, hl⟩
  · simp only [takeA, h2, h.dead, h.ch]
  · simp only [takeA, hl]
section
variable {P : Program} {n : Nat} {Γ : Env} {H : SH} {Q : Exit → Env → SH → Prop}
end
theorem Sat.apart {w : World} {H R : SH} {F A : List Atom} {x y : Atom} (h : Sat w (H.flatten ++ F)) (ht : Tk H A R) (hx : x ∈ A) (hy : y ∈ R.flatten) : x.loc ≠ y.loc := by
  intro he
  have h1 := (h.perm (ht.perm.append_right F)).nodup
  rw [List.append_assoc, List.map_append, List.nodup_append] at h1
  exact h1.2.2 x.loc (List.mem_map_of_mem hx) y.loc (List.mem_map_of_mem (List.mem_append_left _ hy)) he
section
variable {P : Program}
end
def BytesAt (H : SH) : Value → List UInt8 → Prop
  | .slice (some ⟨b, o, none⟩) k _, l => k = l.length ∧ ∀ a ∈ cellsAt b o (l.map u8v), a ∈ H.flatten
  | .slice none _ _, l => l = []
  | _, _ => False
theorem IsSl.bytes {H R : SH} {sv : Value} {l : List UInt8} {sp : List Value} (h : IsSl 1 sv l.length (l.map u8v) sp) (ht : Tk H (slA sv (l.map u8v) sp) R) : BytesAt H sv l := by
  obtain ⟨a, c, rfl⟩ := h.form
  generalize hk : l.length = k at h
  generalize hm : l.map u8v = us at h
  cases h with
  | mk h1 h2 h3 =>
    refine ⟨hk.symm, fun x hx => ?_⟩
    refine (ht.perm.mem_iff).2 (List.mem_append_left _ ?_)
    rw [hk, hm]
    rw [hm] at hx
    simp only [slA, cellsAt_append, List.mem_append]
    exact .inl hx
  | nil => exact List.map_eq_nil_iff.1 hm
section
variable {P : Program} {n : Nat} {rs : List RO} {Γ : Env} {H : SH} {Z : List PanicEntry → Env → SH → Prop} {K : Env → SH → Prop} {d : Option Nat}
end
def Win : Value → Nat → Nat → Value → Prop
  | .slice (some ⟨b, o, none⟩) _ _, l, h, dv => ∃ o' c', dv = .slice (some ⟨b, o', none⟩) h c' ∧ (0 < h → o' = o + l)
  | .slice none _ _, _, h, dv => ∃ c', dv = .slice none h c'
  | _, _, _, _ => False
theorem Win.form {sv dv : Value} {l h : Nat} (hw : Win sv l h dv) : ∃ a c, dv = .slice a h c := by
  unfold Win at hw
  split at hw
  · obtain ⟨_, _, rfl, _⟩ := hw; exact ⟨_, _, rfl⟩
  · obtain ⟨_, rfl⟩ := hw; exact ⟨_, _, rfl⟩
  · exact hw.elim
theorem SubAt.form {sv dv : Value} {k l : Nat} {xs sp : List Value} (h : IsSl 1 sv k xs sp) (hd : SubAt sv l dv) : ∃ a c, dv = .slice a (k - l) c := by
  cases h with
  | mk h1 h2 h3 => simp only [SubAt] at hd; exact ⟨_, _, hd⟩
  | nil => simp only [SubAt] at hd; exact ⟨_, _, hd⟩
theorem Win.bytes {H R : SH} {sv dv : Value} {k l h : Nat} {bs : List UInt8} {sp : List Value} (hsl : IsSl 1 sv k (bs.map u8v) sp) (hw : Win sv l h dv) (hh : l + h ≤ k) (ht : Tk H (slA sv (bs.map u8v) sp) R) : BytesAt H dv ((bs.drop l).take h) := by
  have hlen := hsl.len
  simp only [List.length_map, Nat.mul_one] at hlen
  generalize hus : bs.map u8v = us at hsl ht
  cases hsl with
  | @mk b o _ c _ _ h1 h2 h3 =>
    obtain ⟨o', c', rfl, ho⟩ := hw
    refine ⟨by simp; omega, fun x hx => ?_⟩
    refine (ht.perm.mem_iff).2 (List.mem_append_left _ ?_)
    obtain ⟨i, v, hi, rfl⟩ := mem_cellsAt.1 hx
    have hlt := (List.getElem?_eq_some_iff.1 hi).1
    simp only [List.length_map, List.length_take, List.length_drop] at hlt
    obtain rfl := ho (by omega)
    refine mem_cellsAt.2 ⟨l + i, v, ?_, by congr 1; omega⟩
    rw [List.getElem?_append_left (by rw [← hus]; simp; omega), ← hus]
    rw [List.getElem?_map, List.getElem?_take, if_pos (by omega), List.getElem?_drop] at hi
    rw [List.getElem?_map]; exact hi
  | nil =>
    obtain ⟨c', rfl⟩ := hw
    simp only [List.map_eq_nil_iff] at hus
    simp [BytesAt, hus]
section
variable {P : Program} {n : Nat} {rs : List RO} {Γ : Env} {H : SH} {Z : List PanicEntry → Env → SH → Prop} {K : Env → SH → Prop} {d : Option Nat}
end
section
variable {κ α β : Type} [DecidableEq κ] {g : α → β} {k : κ}
theorem mget_map {l : List (κ × α)} : mget k (l.map fun p => (p.1, g p.2)) = (mget k l).map g := by
  induction l with
  | nil => rfl
  | cons p l ih => simp only [List.map_cons, mget]; split <;> simp_all
end
section
variable {w : WR} {a : AW} {M : Nat}
theorem Rep.mget (h : Rep w a M) (p : ByteArray) : V.mget p w.names = (V.mget p a.names).map fun j => (w.objs.map (·.1)).getD j 0 := by
  rw [h.names]; exact mget_map (κ := ByteArray) (α := Nat) (β := Nat) (g := fun j => (w.objs.map (·.1)).getD j 0)
theorem Rep.keys (h : Rep w a M) : (a.names.map (·.1)).Nodup := by
  have := h.ok.keys
  rw [h.names] at this
  simpa [List.map_map, Function.comp_def] using this
theorem Rep.next (h : Rep w a M) : Rep { w with seq := w.seq + 1 } { a with seq := a.seq + 1 } (M + 1) := by
  have h' := h.mono (Nat.le_succ M)
  refine { h' with seq := by simp only [h.seq], ok := { h'.ok with seq := ?_ } }
  have := h.ok.seq
  constructor
  · show 0 ≤ w.seq + 1; omega
  · show w.seq + 1 ≤ ((M + 1 : Nat) : Int); omega
end
def RdRow (size : Nat) (A : List Atom) (v : Value) (k : Nat) (xs : List Value) : Prop :=
  (v = .slice none 0 0 ∧ k = 0 ∧ xs = []) ∨ ∃ b o c, v = .slice (some ⟨b, o, none⟩) k c ∧ k ≤ c ∧ xs.length = k * size ∧ ∀ x ∈ cellsAt b o xs, x ∈ A
theorem RdRow.form {size : Nat} {A : List Atom} {v : Value} {k : Nat} {xs : List Value} (h : RdRow size A v k xs) : ∃ a c, v = .slice a k c := by
  rcases h with ⟨rfl, rfl, _⟩ | ⟨b, o, c, rfl, _⟩
  · exact ⟨_, _, rfl⟩
  · exact ⟨_, _, rfl⟩
theorem RdRow.mono {size : Nat} {A B : List Atom} {v : Value} {k : Nat} {xs : List Value} (h : RdRow size A v k xs) (hs : ∀ a ∈ A, a ∈ B) : RdRow size B v k xs := by
  rcases h with h | ⟨b, o, c, h1, h2, h3, h4⟩
  · exact .inl h
  · exact .inr ⟨b, o, c, h1, h2, h3, fun x hx => hs x (h4 x hx)⟩
theorem IsSl.rd {size k : Nat} {v : Value} {xs sp : List Value} (h : IsSl size v k xs sp) : RdRow size (slA v xs sp) v k xs := by
  cases h with
  | @mk b o _ c _ _ h1 h2 h3 =>
    refine .inr ⟨b, o, c, rfl, h3, h1, fun x hx => ?_⟩
    simp only [slA, cellsAt_append, List.mem_append]
    exact .inl hx
  | nil => exact .inl ⟨rfl, rfl, rfl⟩
theorem RdRow.at_ {size : Nat} {A : List Atom} {v : Value} {α : Type} {enc : α → List Value} {l : List α} (h : RdRow size A v l.length (l.flatMap enc)) (he : ∀ x, (enc x).length = size) {i : Nat} {x : α} (hx : l[i]? = some x) :
    ∃ b o c, v = .slice (some ⟨b, o, none⟩) l.length c ∧ ∀ a ∈ cellsAt b (o + i * size) (enc x), a ∈ A := by
  have hi := (List.getElem?_eq_some_iff.1 hx).1
  rcases h with ⟨_, h2, _⟩ | ⟨b, o, c, h1, h2, h3, h4⟩
  · omega
  · refine ⟨b, o, c, h1, fun a ha => h4 a ?_⟩
    obtain ⟨j, v, hj, rfl⟩ := mem_cellsAt.1 ha
    have hjl := (List.getElem?_eq_some_iff.1 hj).1
    rw [he] at hjl
    refine mem_cellsAt.2 ⟨i * size + j, v, ?_, by congr 1; omega⟩
    have key : ∀ (l : List α) (i : Nat), l[i]? = some x → (l.flatMap enc)[i * size + j]? = some v := by
      intro l
      induction l with
      | nil => intro i h; simp at h
      | cons y l ih =>
        intro i h
        cases i with
        | zero =>
          simp only [List.getElem?_cons_zero, Option.some.injEq] at h
          subst h
          rw [List.flatMap_cons, Nat.zero_mul, Nat.zero_add, List.getElem?_append_left (by rw [he]; exact hjl)]
          exact hj
        | succ i =>
          rw [List.flatMap_cons, List.getElem?_append_right (by rw [he, Nat.succ_mul]; omega), he]
          have := ih i (by simpa using h)
          rw [← this]
          congr 1
          rw [Nat.succ_mul]; omega
    exact key l i hx
structure Seen {β : Type} (es : Array MapEntry) (l : List (ByteArray × β)) (seen : Array Nat) (C : List (ByteArray × β)) : Prop where
  nodup : (C.map (·.1)).Nodup
  mem : ∀ p ∈ C, p ∈ l
  seen : ∀ e ∈ es.toList, (e.born ∈ seen.toList ↔ ∃ p ∈ C, e.key = .string p.1)
section
variable {β : Type} {Vf : β → Value} {es : Array MapEntry} {c : Nat} {l : List (ByteArray × β)}
theorem Seen.step {seen : Array Nat} {C : List (ByteArray × β)} (h : Seen es l seen C) (hl : MapIs kStr Vf es c l) (hk : (l.map (·.1)).Nodup) {e : MapEntry} (he : e ∈ es.toList) (hne : e.born ∉ seen.toList) :
    ∃ p ∈ l, e.key = .string p.1 ∧ e.val = Vf p.2 ∧ p.1 ∉ C.map (·.1) ∧ Seen es l (seen.push e.born) (C ++ [p]) ∧
      (es.toList.filter fun e' => decide (e'.born ∉ (seen.push e.born).toList)).length < (es.toList.filter fun e' => decide (e'.born ∉ seen.toList)).length := by
  obtain ⟨p, hp, e1, e2⟩ := hl.entry he
  have hnk : p.1 ∉ C.map (·.1) := fun hc => by
    obtain ⟨q, hq, hqp⟩ := List.mem_map.1 hc
    exact hne ((h.seen e he).2 ⟨q, hq, by rw [hqp]; exact e1⟩)
  refine ⟨p, hp, e1, e2, hnk, ⟨?_, ?_, ?_⟩, ?_⟩
  · rw [List.map_append, List.nodup_append]
    exact ⟨h.nodup, by simp, fun x hx y hy => by simp at hy; rw [hy]; intro e; subst e; exact hnk hx⟩
  · intro q hq
    rcases List.mem_append.1 hq with hq | hq
    · exact h.mem q hq
    · rw [List.mem_singleton.1 hq]; exact hp
  · intro e' he'
    simp only [Array.toList_push, List.mem_append, List.mem_singleton]
    constructor
    · rintro (h1 | h1)
      · obtain ⟨k, hk1, hk2⟩ := (h.seen e' he').1 h1
        exact ⟨k, .inl hk1, hk2⟩
      · have := born_one hl.born he' he h1
        subst this
        exact ⟨p, .inr rfl, e1⟩
    · rintro ⟨k, hk1 | hk1, hk2⟩
      · exact .inl ((h.seen e' he').2 ⟨k, hk1, hk2⟩)
      · subst hk1
        exact .inr (by rw [key_one hl hk he' he (hk2.trans e1.symm)])
  · refine filter_less (fun x _ hx => ?_) he (by simpa using hne) (by simp)
    simp at hx ⊢
    exact hx.1
end
def nowOf (a : AW) (n : ByteArray) : List UInt8 := ((a.files[(mget n a.names).getD 0]?).getD ⟨[], [], []⟩).now
theorem mget_some_of {κ β : Type} [DecidableEq κ] {k : κ} {l : List (κ × β)} (h : k ∈ l.map (·.1)) : ∃ v, mget k l = some v := by
  induction l with
  | nil => cases h
  | cons p l ih =>
    simp only [mget]
    split
    · exact ⟨_, rfl⟩
    · rename_i hne
      rcases List.mem_cons.1 h with h | h
      · exact absurd h.symm hne
      · exact ih h
theorem Rep.named {w : WR} {a : AW} {M : Nat} (h : Rep w a M) {n : ByteArray} (hn : n ∈ a.names.map (·.1)) :
    ∃ j b fo, V.mget n a.names = some j ∧ V.mget n w.names = some b ∧ w.objs[j]? = some (b, fo) ∧ a.files[j]? = some (foF fo) ∧ FOk fo M ∧ nowOf a n = fo.now := by
  obtain ⟨j, hj⟩ := mget_some_of hn
  have hin := h.nin _ (mget_mem hj)
  obtain ⟨b, fo, h1, h2, h3, h4⟩ := h.file hin
  refine ⟨j, b, fo, hj, ?_, h1, h3, h4, ?_⟩
  · rw [h.mget, hj, Option.map_some, h2]
  · simp [nowOf, hj, h3, foF]
def kU : KEnc Nat := ⟨.int, uv, fun a b => by
  show some (decide (((a : Nat) : Int) = ((b : Nat) : Int))) = some (decide (a = b))
  congr 1; rw [decide_eq_decide]; omega⟩
structure AH where
  rm : List (Nat × Nat × Nat)
  obs : List Ob
  sp : List Nat
  cl : List Nat
  stack : List Nat
  queue : List Nat
  noted : List Nat
  ahead : List (Nat × Nat)
  given : Nat
structure HW where
  a : AH
  ws : List Nat
  st : List Nat
  wb : Nat
  sb : Nat
  kv : Value
  qv : Value
  nv : Value
  ks : List Value
  qs : List Value
  ns : List Value
  mb : Nat
  es : Array MapEntry
  mc : Nat
def rmEnc (r : Nat × Nat × Nat) : List Value := [vi r.1, vi r.2.1, vi r.2.2]
def arrV (b : Nat) (l : List Nat) : Value := .slice (some ⟨b, 0, none⟩) l.length l.length
def HMem (p : Nat) (x : HW) : SH :=
  [cellsAt p 0 [arrV x.wb x.ws, arrV x.sb x.st], cellsAt p 4180 [x.kv, x.qv, x.nv, .map (some x.mb), vi x.a.given], cellsAt p 2 (x.a.rm.flatMap rmEnc), cellsAt p 20 (x.a.sp.map uv), cellsAt p 84 (x.a.cl.map uv),
   cellsAt x.wb 0 (x.ws.map uv), cellsAt x.sb 0 (x.st.map uv), slA x.kv (x.a.stack.map uv) x.ks, slA x.qv (x.a.queue.map uv) x.qs, slA x.nv (x.a.noted.map uv) x.ns, [.obj x.mb (.map x.es x.mc)]]
def HMw (p : Nat) (x : HW) (B : List Atom) : SH :=
  [cellsAt p 0 [.slice (some ⟨x.wb, 0, none⟩) x.ws.length x.ws.length, .slice (some ⟨x.sb, 0, none⟩) x.st.length x.st.length], cellsAt p 4180 [x.kv, x.qv, x.nv, .map (some x.mb), vi x.a.given], cellsAt p 2 (x.a.rm.flatMap rmEnc), cellsAt p 20 (x.a.sp.map uv), cellsAt p 84 (x.a.cl.map uv),
   B, cellsAt x.sb 0 (x.st.map uv), slA x.kv (x.a.stack.map uv) x.ks, slA x.qv (x.a.queue.map uv) x.qs, slA x.nv (x.a.noted.map uv) x.ns, [.obj x.mb (.map x.es x.mc)]]
theorem hmw (p : Nat) (x : HW) : HMem p x = HMw p x (cellsAt x.wb 0 (x.ws.map uv)) := rfl
def HA (p : Nat) (x : HW) : List Atom := (HMem p x).flatten
structure RmOk (a : AH) (n : Nat) : Prop where
  len : a.rm.length = 6
  zero : a.rm[0]? = some (0, 0, 0)
  rng : ∀ (i : Nat) (r : Nat × Nat × Nat), a.rm[i]? = some r → r.1 ≤ r.2.2 ∧ r.2.2 ≤ r.2.1 ∧ r.2.1 ≤ n
  low : ∀ (i : Nat) (r : Nat × Nat × Nat), 1 ≤ i → a.rm[i]? = some r → 2 ≤ r.1
  apart : ∀ (i j : Nat) (r s : Nat × Nat × Nat), i < j → a.rm[i]? = some r → a.rm[j]? = some s → 1 ≤ i → r.2.1 ≤ s.1 ∨ s.2.1 ≤ r.1
  inn : ∀ b ∈ a.obs, ∃ (i : Nat) (r : Nat × Nat × Nat), 1 ≤ i ∧ a.rm[i]? = some r ∧ r.1 ≤ b.at_ ∧ b.stop ≤ (if i = 5 then r.2.1 else r.2.2)
structure HOk (x : HW) : Prop where
  lay : Lay x.ws x.st x.a.obs
  rm : RmOk x.a x.ws.length
  spl : x.a.sp.length = 64
  cll : x.a.cl.length = 4096
  sps : ∀ o ∈ x.a.sp, o < 18446744073709551616
  cls : ∀ o ∈ x.a.cl, o < 18446744073709551616
  stks : ∀ o ∈ x.a.stack, o < 18446744073709551616
  ques : ∀ o ∈ x.a.queue, o < 18446744073709551616
  nots : ∀ o ∈ x.a.noted, o < 18446744073709551616
  stk : IsSl 1 x.kv x.a.stack.length (x.a.stack.map uv) x.ks
  que : IsSl 1 x.qv x.a.queue.length (x.a.queue.map uv) x.qs
  note : IsSl 1 x.nv x.a.noted.length (x.a.noted.map uv) x.ns
  map : MapIs kU uv x.es x.mc x.a.ahead
  given : x.a.given ≤ 4194303
  deep : x.a.stack.length ≤ 4096
  few : x.a.queue.length ≤ 1073741823 ∧ x.a.noted.length ≤ 1073741823
theorem mem_u {b o i n : Nat} {l : List Nat} (h : l[i]? = some n) : Atom.cell b (o + i) (uv n) ∈ cellsAt b o (l.map uv) :=
  mem_cellsAt.2 ⟨i, uv n, by simp [h], rfl⟩
theorem mem_u0 {b i n : Nat} {l : List Nat} (h : l[i]? = some n) : Atom.cell b i (uv n) ∈ cellsAt b 0 (l.map uv) :=
  mem_cellsAt.2 ⟨i, uv n, by simp [h], by simp⟩
section
variable {P : Program} {n : Nat} {rs : List RO} {Γ : Env} {H : SH} {Z : List PanicEntry → Env → SH → Prop} {K : Env → SH → Prop}
theorem st_storeU {d : Option Nat} {x y : Operand} {b o i k m : Nat} {l : List Nat} {R : SH} (hx : ev Γ x = some (.pointer (some ⟨b, k, none⟩))) (hy : ev Γ y = some (uv m)) (ht : Tk H (cellsAt b o (l.map uv)) R) (hk : o + i = k) (hi : i < l.length)
    (h : VO P n rs (putE d undef Γ) (cellsAt b o ((l.set i m).map uv) :: R) Z K) : VO P n (⟨d, none, .store 1 x y⟩ :: rs) Γ H Z K := by
  refine VO.perm (H' := cellsAt b o (l.map uv) :: R) (by simpa using ht.perm) ?_
  refine st_store' (us := [uv m]) hx hy rfl rfl rfl (Upd.set1 (i := i) hk (by rw [List.length_map]; exact hi)) ?_
  rw [← List.map_set]; exact h
end
theorem ha_spl (p : Nat) (x : HW) : Spl [HA p x] (HMem p x) [] := by simp [Spl, HA]
theorem ha_back (p : Nat) (x : HW) : Imp (HMem p x ++ []) [HA p x] := Imp.perm (by simp [HA])
theorem Fun.haR {P : Program} {f : Nat} {args : List Value} {p : Nat} {x : HW} {w : Value} (h : Fun P f args (HMem p x) (fun v Post => v = w ∧ Post = HMem p x)) : Fun P f args [HA p x] (fun v Post => v = w ∧ Post = [HA p x]) :=
  h.conv (ha_spl p x) (fun v Post hv => by obtain ⟨rfl, rfl⟩ := hv; exact ⟨_, ⟨rfl, rfl⟩, ha_back p x⟩)
theorem Fun.haT {P : Program} {f : Nat} {args : List Value} {p : Nat} {x : HW} {Q : Value → HW → Prop} (h : Fun P f args (HMem p x) (fun v Post => ∃ y, Q v y ∧ Post = HMem p y)) : Fun P f args [HA p x] (fun v Post => ∃ y, Q v y ∧ Post = [HA p y]) :=
  h.conv (ha_spl p x) (fun v Post hv => by obtain ⟨y, hy, rfl⟩ := hv; exact ⟨_, ⟨y, hy, rfl⟩, ha_back p y⟩)
def isAt (obs : List Ob) (w : Nat) : Bool := obs.any fun b => decide (b.at_ = w)
theorem isAt_iff {obs : List Ob} {w : Nat} : isAt obs w = true ↔ ∃ b ∈ obs, b.at_ = w := by simp [isAt]
theorem Lay.at_lt {ws st : List Nat} {obs : List Ob} (h : Lay ws st obs) {b : Ob} (hb : b ∈ obs) : b.at_ + 1 < ws.length := by
  have := h.high b hb; unfold Ob.stop at this; omega
theorem Lay.isAt {ws st : List Nat} {obs : List Ob} (h : Lay ws st obs) {w : Nat} (hw : w < ws.length) : V.isAt obs w = bitAt st w := by
  rw [Bool.eq_iff_iff, isAt_iff, h.bits w hw]
theorem Lay.isAt_no {ws st : List Nat} {obs : List Ob} (h : Lay ws st obs) {w : Nat} (hw : ¬ w < ws.length) : V.isAt obs w = false := by
  rw [Bool.eq_false_iff]
  intro e
  obtain ⟨b, hb, rfl⟩ := isAt_iff.1 e
  have := h.at_lt hb; omega
theorem getO_is {obs : List Ob} {o : Nat} (hl : ∀ b ∈ obs, 1 ≤ b.at_ ∧ b.at_ ≤ 268435455) : (getO obs o).isSome = (decide (tagO o = 3) && isAt obs (wordO o)) := by
  rw [Bool.eq_iff_iff, Option.isSome_iff_exists, Bool.and_eq_true, decide_eq_true_eq, isAt_iff]
  constructor
  · rintro ⟨b, hb⟩
    obtain ⟨h1, rfl⟩ := getO_some hb
    have h2 := hl b h1
    have h3 : tagO b.oop = 3 := tagO_obj h2.1 h2.2
    refine ⟨h3, b, h1, ?_⟩
    unfold wordO; rw [if_pos h3]; unfold Ob.oop; omega
  · rintro ⟨h1, b, hb, h2⟩
    unfold wordO at h2
    rw [if_pos h1] at h2
    have h3 := tagO_three h1
    cases e : getO obs o with
    | some c => exact ⟨c, rfl⟩
    | none => exact absurd (by unfold Ob.oop; omega) (getO_none e b hb)
theorem HOk.range {x : HW} (h : HOk x) {b : Ob} (hb : b ∈ x.a.obs) : 1 ≤ b.at_ ∧ b.at_ ≤ 268435455 := by
  have h1 := h.lay.low b hb
  have h2 := h.lay.at_lt hb
  have h3 := h.lay.len
  omega
def inRm (rm : List (Nat × Nat × Nat)) (i w : Nat) : Bool := decide (((rm[i]?).getD (0, 0, 0)).1 ≤ w ∧ w < ((rm[i]?).getD (0, 0, 0)).2.1)
def spaceW (rm : List (Nat × Nat × Nat)) (w : Nat) : Nat := if inRm rm 1 w then 1 else if inRm rm 2 w then 2 else if inRm rm 3 w then 3 else if inRm rm 4 w then 4 else if inRm rm 5 w then 5 else 0
def spaceO (a : AH) (o : Nat) : Nat := match getO a.obs o with | some b => spaceW a.rm b.at_ | none => 0
def youngO (a : AH) (o : Nat) : Bool := decide (1 ≤ spaceO a o ∧ spaceO a o ≤ 3)
theorem spaceW_le (rm : List (Nat × Nat × Nat)) (w : Nat) : spaceW rm w ≤ 5 := by unfold spaceW; repeat' split
                                                                                  all_goals omega
theorem spaceW_some {rm : List (Nat × Nat × Nat)} {w i : Nat} (h1 : 1 ≤ i) (h2 : i ≤ 5) (h : inRm rm i w = true) (hn : ∀ j, 1 ≤ j → j < i → inRm rm j w = false) : spaceW rm w = i := by
  have hi : i = 1 ∨ i = 2 ∨ i = 3 ∨ i = 4 ∨ i = 5 := by omega
  unfold spaceW
  rcases hi with rfl | rfl | rfl | rfl | rfl
  · simp [h]
  · simp [h, hn 1]
  · simp [h, hn 1, hn 2]
  · simp [h, hn 1, hn 2, hn 3]
  · simp [h, hn 1, hn 2, hn 3, hn 4]
theorem spaceW_none {rm : List (Nat × Nat × Nat)} {w : Nat} (hn : ∀ j, 1 ≤ j → j < 6 → inRm rm j w = false) : spaceW rm w = 0 := by
  unfold spaceW; simp [hn 1, hn 2, hn 3, hn 4, hn 5]
theorem rm_six {rm : List (Nat × Nat × Nat)} (h : rm.length = 6) : ∃ r0 r1 r2 r3 r4 r5, rm = [r0, r1, r2, r3, r4, r5] := by
  match rm, h with
  | [r0, r1, r2, r3, r4, r5], _ => exact ⟨_, _, _, _, _, _, rfl⟩
theorem HOk.word {x : HW} (hx : HOk x) {o : Nat} {b : Ob} (h : getO x.a.obs o = some b) : wordO o = b.at_ ∧ b ∈ x.a.obs := by
  obtain ⟨h1, rfl⟩ := getO_some h
  have h2 := hx.range h1
  refine ⟨?_, h1⟩
  unfold wordO
  rw [show tagO b.oop = 3 from tagO_obj h2.1 h2.2, if_pos rfl]
  unfold Ob.oop; omega
def insO (b : Ob) : List Ob → List Ob
  | [] => [b]
  | c :: r => if c.at_ < b.at_ then c :: insO b r else b :: c :: r
def updO (w : Nat) (f : Ob → Ob) (obs : List Ob) : List Ob := obs.map fun b => if b.at_ = w then f b else b
theorem mem_insO {b x : Ob} : ∀ {obs : List Ob}, x ∈ insO b obs ↔ x = b ∨ x ∈ obs := by
  intro obs
  induction obs with
  | nil => simp [insO]
  | cons c r ih =>
    simp only [insO]
    split
    · simp only [List.mem_cons, ih]
      constructor
      · rintro (h | h | h) <;> simp [h]
      · rintro (h | h | h) <;> simp [h]
    · simp only [List.mem_cons]
theorem insO_sort {b : Ob} : ∀ {obs : List Ob}, (obs.Pairwise fun a b => a.stop ≤ b.at_) → (∀ c ∈ obs, c.stop ≤ b.at_ ∨ b.stop ≤ c.at_) → (insO b obs).Pairwise fun a b => a.stop ≤ b.at_ := by
  intro obs
  induction obs with
  | nil => intro _ _; simp [insO]
  | cons c r ih =>
    intro h hc
    obtain ⟨h1, h2⟩ := List.pairwise_cons.1 h
    have hcb := hc c (by simp)
    simp only [insO]
    split
    · rename_i hlt
      have hs : c.stop ≤ b.at_ := by
        rcases hcb with h | h
        · exact h
        · unfold Ob.stop at h; omega
      refine List.pairwise_cons.2 ⟨fun x hx => ?_, ih h2 (fun c hc' => hc c (by simp [hc']))⟩
      rcases mem_insO.1 hx with rfl | hx
      · exact hs
      · exact h1 x hx
    · rename_i hlt
      have hs : b.stop ≤ c.at_ := by
        rcases hcb with h | h
        · unfold Ob.stop at h; omega
        · exact h
      refine List.pairwise_cons.2 ⟨fun x hx => ?_, h⟩
      rcases List.mem_cons.1 hx with rfl | hx
      · exact hs
      · have := h1 x hx; unfold Ob.stop at this hs ⊢; omega
theorem mem_updO {w : Nat} {f : Ob → Ob} {obs : List Ob} {y : Ob} : y ∈ updO w f obs ↔ ∃ b ∈ obs, y = if b.at_ = w then f b else b := by
  simp only [updO, List.mem_map]; constructor <;> rintro ⟨b, h1, h2⟩ <;> exact ⟨b, h1, h2.symm⟩
structure Keep (f : Ob → Ob) : Prop where
  at_ : ∀ b, (f b).at_ = b.at_
  slots : ∀ b, (f b).hd.slots = b.hd.slots
theorem updO_sort {w : Nat} {f : Ob → Ob} (hf : Keep f) {obs : List Ob} (h : obs.Pairwise fun a b => a.stop ≤ b.at_) : (updO w f obs).Pairwise fun a b => a.stop ≤ b.at_ := by
  unfold updO
  rw [List.pairwise_map]
  refine h.imp (fun {a b} hab => ?_)
  have e1 : ∀ c : Ob, (if c.at_ = w then f c else c).at_ = c.at_ := fun c => by split <;> simp [hf.at_]
  have e2 : ∀ c : Ob, (if c.at_ = w then f c else c).stop = c.stop := fun c => by split <;> simp [Ob.stop, hf.at_, hf.slots]
  rw [e1, e2]; exact hab
theorem updO_at {w : Nat} {f : Ob → Ob} (hf : Keep f) {obs : List Ob} {v : Nat} : (∃ b ∈ updO w f obs, b.at_ = v) ↔ ∃ b ∈ obs, b.at_ = v := by
  have e1 : ∀ c : Ob, (if c.at_ = w then f c else c).at_ = c.at_ := fun c => by split <;> simp [hf.at_]
  constructor
  · rintro ⟨y, hy, rfl⟩
    obtain ⟨b, hb, rfl⟩ := mem_updO.1 hy
    exact ⟨b, hb, (e1 b).symm⟩
  · rintro ⟨b, hb, rfl⟩
    exact ⟨_, mem_updO.2 ⟨b, hb, rfl⟩, e1 b⟩
section
variable {ws st : List Nat} {obs : List Ob}
theorem Lay.upd (h : Lay ws st obs) {b : Ob} (hb : b ∈ obs) {f : Ob → Ob} (hf : Keep f) {ws' : List Nat} (hl : ws'.length = ws.length) (hs : ∀ x ∈ ws', x < 18446744073709551616) (hok : (f b).Ok)
    (hout : ∀ i, ¬ (b.at_ ≤ i ∧ i < b.stop) → ws'[i]? = ws[i]?) (hh : ws'[b.at_]? = some (pk (f b).hd) ∧ ws'[b.at_ + 1]? = some b.hd.slots) (hbd : ∀ i < b.hd.slots, ws'[b.at_ + 2 + i]? = (f b).body[i]?) : Lay ws' st (updO b.at_ f obs) := by
  have key : ∀ c ∈ obs, c.at_ = b.at_ → c = b := fun c hc e => sort_one h.sort hc hb e
  have apart : ∀ c ∈ obs, c.at_ ≠ b.at_ → ∀ i, c.at_ ≤ i → i < c.stop → ws'[i]? = ws[i]? := fun c hc e i h1 h2 => by
    refine hout i (fun h3 => ?_)
    rcases sort_apart h.sort hc hb (fun e' => e (by rw [e'])) with h4 | h4 <;> omega
  have cases_ : ∀ y ∈ updO b.at_ f obs, y = f b ∨ (y ∈ obs ∧ y.at_ ≠ b.at_) := fun y hy => by
    obtain ⟨c, hc, rfl⟩ := mem_updO.1 hy
    split
    · rename_i e; rw [key c hc e]; exact .inl rfl
    · rename_i e; exact .inr ⟨hc, e⟩
  have hfs : (f b).stop = b.stop := by simp [Ob.stop, hf.at_, hf.slots]
  refine ⟨hs, h.sts, by rw [hl]; exact h.stl, by rw [hl]; exact h.len, ?_, ?_, ?_, ?_, ?_, updO_sort hf h.sort, ?_⟩
  · intro y hy
    rcases cases_ y hy with rfl | ⟨h1, _⟩
    · exact hok
    · exact h.ok y h1
  · intro y hy
    rcases cases_ y hy with rfl | ⟨h1, _⟩
    · rw [hf.at_]; exact h.low b hb
    · exact h.low y h1
  · intro y hy
    rw [hl]
    rcases cases_ y hy with rfl | ⟨h1, _⟩
    · rw [hfs]; exact h.high b hb
    · exact h.high y h1
  · intro y hy
    rcases cases_ y hy with rfl | ⟨h1, h2⟩
    · rw [hf.at_, hf.slots]; exact hh
    · have := h.head y h1
      rw [apart y h1 h2 _ (Nat.le_refl _) (by unfold Ob.stop; omega), apart y h1 h2 _ (by omega) (by unfold Ob.stop; omega)]; exact this
  · intro y hy i hi
    rcases cases_ y hy with rfl | ⟨h1, h2⟩
    · rw [hf.at_]; exact hbd i (by rw [hf.slots] at hi; exact hi)
    · rw [apart y h1 h2 _ (by omega) (by unfold Ob.stop; omega)]; exact h.body y h1 i hi
  · intro v hv
    rw [hl] at hv
    rw [updO_at hf]; exact h.bits v hv
theorem Lay.ins (h : Lay ws st obs) {b : Ob} (hok : b.Ok) (hlow : 2 ≤ b.at_) (hhigh : b.stop ≤ ws.length) (hap : ∀ c ∈ obs, c.stop ≤ b.at_ ∨ b.stop ≤ c.at_) {ws' : List Nat} (hl : ws'.length = ws.length) (hs : ∀ x ∈ ws', x < 18446744073709551616)
    (hout : ∀ i, ¬ (b.at_ ≤ i ∧ i < b.stop) → ws'[i]? = ws[i]?) (hh : ws'[b.at_]? = some (pk b.hd) ∧ ws'[b.at_ + 1]? = some b.hd.slots) (hbd : ∀ i < b.hd.slots, ws'[b.at_ + 2 + i]? = b.body[i]?) : Lay ws' (setBit st b.at_ true) (insO b obs) := by
  have apart : ∀ c ∈ obs, ∀ i, c.at_ ≤ i → i < c.stop → ws'[i]? = ws[i]? := fun c hc i h1 h2 => by
    refine hout i (fun h3 => ?_)
    rcases hap c hc with h4 | h4 <;> omega
  have hw : b.at_ / 64 < st.length := by rw [h.stl]; unfold Ob.stop at hhigh; omega
  refine ⟨hs, setBit_small h.sts, by rw [setBit_len, hl]; exact h.stl, by rw [hl]; exact h.len, ?_, ?_, ?_, ?_, ?_, insO_sort h.sort hap, ?_⟩
  · intro y hy
    rcases mem_insO.1 hy with rfl | h1
    · exact hok
    · exact h.ok y h1
  · intro y hy
    rcases mem_insO.1 hy with rfl | h1
    · exact hlow
    · exact h.low y h1
  · intro y hy
    rw [hl]
    rcases mem_insO.1 hy with rfl | h1
    · exact hhigh
    · exact h.high y h1
  · intro y hy
    rcases mem_insO.1 hy with rfl | h1
    · exact hh
    · have := h.head y h1
      rw [apart y h1 _ (Nat.le_refl _) (by unfold Ob.stop; omega), apart y h1 _ (by omega) (by unfold Ob.stop; omega)]; exact this
  · intro y hy i hi
    rcases mem_insO.1 hy with rfl | h1
    · exact hbd i hi
    · rw [apart y h1 _ (by omega) (by unfold Ob.stop; omega)]; exact h.body y h1 i hi
  · intro v hv
    rw [hl] at hv
    rw [bitAt_set h.sts hw]
    by_cases e : v = b.at_
    · subst e
      simp only [if_true, true_iff]
      exact ⟨b, mem_insO.2 (.inl rfl), rfl⟩
    · rw [if_neg e, h.bits v hv]
      constructor
      · rintro ⟨c, hc, rfl⟩; exact ⟨c, mem_insO.2 (.inr hc), rfl⟩
      · rintro ⟨c, hc, rfl⟩
        rcases mem_insO.1 hc with rfl | hc
        · exact absurd rfl e
        · exact ⟨c, hc, rfl⟩
theorem Lay.del (h : Lay ws st obs) {w : Nat} (hw : w < ws.length) : Lay ws (setBit st w false) (obs.filter fun b => decide (b.at_ ≠ w)) := by
  have sub : ∀ y ∈ obs.filter (fun b => decide (b.at_ ≠ w)), y ∈ obs := fun y hy => (List.mem_filter.1 hy).1
  refine ⟨h.small, setBit_small h.sts, by rw [setBit_len]; exact h.stl, h.len, fun y hy => h.ok y (sub y hy), fun y hy => h.low y (sub y hy), fun y hy => h.high y (sub y hy), fun y hy => h.head y (sub y hy), fun y hy => h.body y (sub y hy), h.sort.sublist List.filter_sublist, ?_⟩
  intro v hv
  rw [bitAt_set h.sts (by rw [h.stl]; omega)]
  by_cases e : v = w
  · subst e; simp
  · rw [if_neg e, h.bits v hv]
    constructor
    · rintro ⟨c, hc, rfl⟩; exact ⟨c, List.mem_filter.2 ⟨hc, by simpa using e⟩, rfl⟩
    · rintro ⟨c, hc, rfl⟩; exact ⟨c, sub c hc, rfl⟩
end
end Go.V

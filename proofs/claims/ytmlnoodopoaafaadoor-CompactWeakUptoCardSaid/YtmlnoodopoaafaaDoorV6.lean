/-
  Stepping, as the default proof of one lemma's premise.
-/
import Derived.Test.YtmlnoodopoaafaaDoorV5
set_option linter.unusedSimpArgs false
set_option linter.unusedVariables false
namespace Go.V
open Go
abbrev vi (n : Int) : Value := .int .i64 n
abbrev ptr0 (b : Nat) : Value := .pointer (some ⟨b, 0, none⟩)
theorem Imp.cut {H M Δ : SH} (h : Imp H M) (k : Imp M Δ) : Imp H Δ := by
  obtain ⟨X, hX⟩ := h
  obtain ⟨Y, hY⟩ := k
  refine ⟨Y ++ X, ?_⟩
  simp only [Spl, List.flatten_append] at *
  refine hX.trans ?_
  rw [← List.append_assoc]
  exact hY.append_right _
theorem Imp.fresh {H : SH} {A : List Atom} (h : A = [] := by rfl) : Imp H (A :: H) := by subst h; exact Imp.perm (by simp)
theorem Spl.right {A I : SH} : Spl (I ++ A) I A := by simp [Spl]
theorem Spl.mid {A : List Atom} {C S : SH} : Spl (A :: (C ++ S)) C (A :: S) := by
  simp only [Spl, List.flatten_cons, List.flatten_append]
  exact perm_lead _ _ _
theorem Imp.mid {A : List Atom} {C S : SH} : Imp (C ++ (A :: S)) (A :: (C ++ S)) := by
  refine Imp.perm ?_
  simp only [List.flatten_cons, List.flatten_append]
  exact perm_lead _ _ _
theorem Fun.conv {P : Program} {f : Nat} {args : List Value} {H Pre R : SH} {Q Q' : Value → SH → Prop} (h : Fun P f args Pre Q) (hs : Spl H Pre R) (hq : ∀ v Post, Q v Post → ∃ Post', Q' v Post' ∧ Imp (Post ++ R) Post') : Fun P f args H Q' := by
  refine ⟨h.1, fun F w hw => ?_⟩
  have hw' : Sat w (Pre.flatten ++ (R.flatten ++ F)) := by
    rw [← List.append_assoc]; exact hw.perm (List.Perm.append_right F hs)
  refine (h.2 (R.flatten ++ F) w hw').mono ?_
  rintro e w' ⟨v, Post, h1, h2, h3, h4⟩
  obtain ⟨Post', h5, h6⟩ := hq v Post h2
  refine ⟨v, Post', h1, h5, Sat.imp h6 ?_, h4⟩
  rw [List.flatten_append, List.append_assoc]; exact h3
theorem Imp.head {A : List Atom} {I : SH} : Imp (A :: I) [A] := ⟨I, by simp [Spl]⟩
theorem st_extL {P : Program} {n : Nat} {rs : List RO} {Γ : Env} {H : SH} {Z : List PanicEntry → Env → SH → Prop} {K : Env → SH → Prop} {d : Option Nat} {i : Nat} {x : Operand} {l : List Value} {v : Value} (hx : ev Γ x = some (.tuple l.toArray)) (hi : l[i]? = some v) (h : VO P n rs (putE d v Γ) H Z K) : VO P n (⟨d, none, .ext x i⟩ :: rs) Γ H Z K :=
  VO.pure rfl (fun ρ hρ => by simp [pureV, hρ _ _ hx, hi]) h
theorem st_gu {P : Program} {n : Nat} {rs : List RO} {Γ : Env} {H : SH} {Z : List PanicEntry → Env → SH → Prop} {K : Env → SH → Prop} {d : Option Nat} {r : R} {s : Nat} {b : Bool} (hs : look Γ s = some undef) (h : VO P n rs (putE d undef Γ) H Z K) : VO P n (⟨d, some (s, b), r⟩ :: rs) Γ H Z K := by
  intro l hl a w F ZZ Q ha hsat hq hz
  obtain ⟨o, l', rfl, hl', ops, ho⟩ := low_cons hl
  obtain ⟨g1, g2, g3, g4⟩ := lowRO_spec ho
  have hw : wantedR (some (s, b)) a = false := by simp [wantedR, ha.slots _ _ hs, undef]
  show wpR1 P ZZ (⟨d, some (s, b), r⟩, o) (wpR P ZZ Q l') a w
  unfold wpR1
  rw [if_neg (by simp [hw])]
  exact h l' hl' _ w F ZZ Q (ha.putE g3 undef) hsat (fun a2 w2 Γ2 H2 k1 k2 k3 k4 k5 => hq a2 w2 Γ2 H2 k1 k2 (k3.trans (put_defers ..)) k4 k5) (fun ch a2 w2 Γ2 H2 k1 k2 k3 k4 k5 => hz ch a2 w2 Γ2 H2 k1 k2 (k3.trans (put_defers ..)) k4 k5)
structure Later (R : Prop) : Prop where
  out : R
def Invk (P : Program) (fv : Value) (args : List Value) (w : World) (R : Ending → World → Prop) : Prop :=
  match fv with
  | .func (.func f) first cap => callable P f = true ∧ Calls P f (first ++ args.toArray ++ cap) w R
  | .func (.yield l) first _ => ∃ f tmps asg body, (Instr.yield l (first ++ args.toArray)).run P w = .ok (.round l f tmps asg body) w ∧ RoundIn Fence.wide 0 P l f tmps asg body w R
  | _ => False
def FunV (P : Program) (fv : Value) (args : List Value) (Pre : SH) (Q : Value → SH → Prop) : Prop :=
  ∀ F w, Sat w (Pre.flatten ++ F) → Invk P fv args w fun e w' => ∃ v Post, e = .returned v ∧ Q v Post ∧ Sat w' (Post.flatten ++ F) ∧ Keeps w w'
theorem Invk.mono {P : Program} {fv : Value} {args : List Value} {w : World} {R R' : Ending → World → Prop} (h : Invk P fv args w R) (hr : ∀ e w', R e w' → R' e w') : Invk P fv args w R' := by
  unfold Invk at *
  split at h
  · exact ⟨h.1, Calls.mono h.2 hr⟩
  · obtain ⟨f, tmps, asg, body, h1, h2⟩ := h
    exact ⟨f, tmps, asg, body, h1, RoundIn.mono h2 hr⟩
  · exact h.elim
theorem FunV.mono {P : Program} {fv : Value} {args : List Value} {Pre : SH} {Q Q' : Value → SH → Prop} (h : FunV P fv args Pre Q) (hq : ∀ v Post, Q v Post → Q' v Post) : FunV P fv args Pre Q' :=
  fun F w hs => (h F w hs).mono fun _ _ ⟨v, Post, a, b, c⟩ => ⟨v, Post, a, hq _ _ b, c⟩
theorem FunV.conv {P : Program} {fv : Value} {args : List Value} {H Pre R : SH} {Q Q' : Value → SH → Prop} (h : FunV P fv args Pre Q) (hs : Spl H Pre R) (hq : ∀ v Post, Q v Post → ∃ Post', Q' v Post' ∧ Imp (Post ++ R) Post') : FunV P fv args H Q' := by
  intro F w hw
  have hw' : Sat w (Pre.flatten ++ (R.flatten ++ F)) := by
    rw [← List.append_assoc]; exact hw.perm (List.Perm.append_right F hs)
  refine (h (R.flatten ++ F) w hw').mono ?_
  rintro e w' ⟨v, Post, h1, h2, h3, h4⟩
  obtain ⟨Post', h5, h6⟩ := hq v Post h2
  refine ⟨v, Post', h1, h5, Sat.imp h6 ?_, h4⟩
  rw [List.flatten_append, List.append_assoc]; exact h3
theorem FunV.of_fun {P : Program} {f : Nat} {first cap : Array Value} {args : List Value} {Pre : SH} {Q : Value → SH → Prop} (h : Fun P f (first.toList ++ args ++ cap.toList) Pre Q) : FunV P (.func (.func f) first cap) args Pre Q := by
  intro F w hs
  refine ⟨h.1, ?_⟩
  have hall : first ++ args.toArray ++ cap = (first.toList ++ args ++ cap.toList).toArray := by
    apply Array.toList_inj.1; simp
  rw [hall]
  exact h.2 F w hs
theorem st_callV {P : Program} {n : Nat} {rs : List RO} {Γ : Env} {H : SH} {Z : List PanicEntry → Env → SH → Prop} {K : Env → SH → Prop} {d : Option Nat} {x : Operand} {fv : Value} {xs : List Operand} {args : List Value} {Pre R : SH} {Q : Value → SH → Prop}
    (hx : ev Γ x = some fv) (hf : FunV P fv args Pre Q) (he : evs Γ xs = some args) (hs : Spl H Pre R)
    (h : ∀ v Post, Q v Post → VO P n rs (putE d v Γ) (Post ++ R) Z K) : VO P n (⟨d, none, .callv x xs⟩ :: rs) Γ H Z K := by
  intro l hl a w F ZZ Q' ha hsat hq hz
  obtain ⟨o, l', rfl, hl', ops, ho⟩ := low_cons hl
  obtain ⟨g1, g2, g3, g4⟩ := lowRO_spec ho
  show wpR1 P ZZ (_, o) (wpR P ZZ Q' l') a w
  unfold wpR1
  have hp : isPure (V.R.callv x xs) = false := rfl
  have hr : isRead (V.R.callv x xs) = false := rfl
  simp only [wantedR, hp, hr, if_true, Bool.false_eq_true, if_false]
  refine ⟨fun e => (by cases e), ?_⟩
  obtain ⟨c, h1, h2, h3⟩ := low_callv g1
  have hm : xs.map a.eval = args := ha.evs he
  have hargs : (c.args.map a.eval) = args.toArray := by
    apply Array.toList_inj.1; rw [Array.toList_map, h3, hm]
  have hsat' : Sat w (Pre.flatten ++ (R.flatten ++ F)) := by
    rw [← List.append_assoc]; exact hsat.perm (hs.append_right F)
  have hi := hf (R.flatten ++ F) w hsat'
  have fin : ∀ (e : Ending) (w' : World), (∃ v Post, e = .returned v ∧ Q v Post ∧ Sat w' (Post.flatten ++ (R.flatten ++ F)) ∧ Keeps w w') → ∃ v, e = .returned v ∧ wpR P ZZ Q' l' (a.put o.dst v) w' := by
    rintro e w' ⟨v, Post, rfl, hQ, hs', hk⟩
    refine ⟨v, rfl, ?_⟩
    rw [← g2]
    refine h v Post hQ l' hl' _ w' F ZZ Q' (ha.putE g3 v) ?_ (fun a2 w2 Γ2 H2 k1 k2 k3 k4 k5 => hq a2 w2 Γ2 H2 k1 k2 (k3.trans (put_defers ..)) k4 (hk.trans k5)) (fun ch a2 w2 Γ2 H2 k1 k2 k3 k4 k5 => hz ch a2 w2 Γ2 H2 k1 k2 (k3.trans (put_defers ..)) k4 (hk.trans k5))
    rw [List.flatten_append, List.append_assoc]; exact hs'
  have hev : a.eval x = fv := ha.ev hx
  unfold Invk at hi
  split at hi
  · rename_i f first cap
    have hrun : (execOp a.eval o).run P w = .ok (.enter f (first ++ args.toArray ++ cap)) w := by
      simp [execOp, h1, resolve, h2, hev, Deferred.ofValue, invoke, hargs]
      rw [run_callFunc hi.1]
    simp only [wpV, hrun, uponV]
    refine hi.2.mono (fun e w' he => ?_)
    obtain ⟨v, rfl, hv⟩ := fin e w' he
    exact hv
  · rename_i l0 first cap
    obtain ⟨f, tmps, asg, body, hy, hrd⟩ := hi
    have hrun : (execOp a.eval o).run P w = .ok (.round l0 f tmps asg body) w := by
      simp [execOp, h1, resolve, h2, hev, Deferred.ofValue, invoke, hargs]
      exact hy
    simp only [wpV, hrun, uponV]
    refine hrd.mono (fun e w' he => ?_)
    obtain ⟨v, rfl, hv⟩ := fin e w' he
    exact hv
  · exact hi.elim
def bindE : List Nat → List Value → Env → Env
  | p :: ps, v :: vs, Γ => bindE ps vs ((p, v) :: Γ)
  | _, _, Γ => Γ
def OkC {α : Type} (Spec : List α → Prop) (c : List α) : Prop := ∃ t, Spec (c ++ t)
def Iter (P : Program) (g : Value) {α : Type} (enc : α → List Value) (Pre Post : SH) (Spec : List α → Prop) : Prop :=
  ∀ (y : Value) (J SP : List α → List Atom → Prop),
    (∀ c x A, OkC Spec (c ++ [x]) → J c A → FunV P y (enc x) [A] (fun v B => (v = .bool true ∧ ∃ A', J (c ++ [x]) A' ∧ B = [A']) ∨ (v = .bool false ∧ ∃ B', SP (c ++ [x]) B' ∧ B = [B']))) →
    ∀ A, J [] A → FunV P g [y] (Pre ++ [A]) (fun v B => v = .tuple #[] ∧ ((∃ full A', Spec full ∧ J full A' ∧ B = Post ++ [A']) ∨ (∃ c B', OkC Spec c ∧ SP c B' ∧ B = Post ++ [B'])))
section
variable {P : Program} {n : Nat} {Γ : Env} {H : SH} {Q : Exit → Env → SH → Prop}
theorem bind_agree {ps : List Nat} : ∀ {vs : List Value} {Γ : Env} {tmps : Array Value}, (∀ t ∈ ps, t < n) → ps.length = vs.length → Agree n Γ { tmps := tmps, defers := [] } →
    Agree n (bindE ps vs Γ) { tmps := (ps.zip vs).foldl (fun tmps (t, a) => tmps.setIfInBounds t a) tmps, defers := [] } := by
  induction ps with
  | nil => intro vs Γ tmps _ _ h; cases vs <;> exact h
  | cons p ps ih =>
    intro vs Γ tmps hp hl h
    cases vs with
    | nil => simp at hl
    | cons v vs =>
      simp only [bindE, List.zip_cons_cons, List.foldl_cons]
      refine ih (fun t ht => hp t (by simp [ht])) (by simpa using hl) ?_
      exact h.put (d := p) (hp p (by simp)) v
def lrec (fn : FuncId) (tmps : Array Value) (qs : Array Tmp) (A B : Code) (db : Nat) (st : LoopState) (pe : Option Code) : Loop := { state := st, pending := pe, fn, tmps, params := qs, assign := A, body := B, defers := db }
theorem run_getLoop {w : World} {l : Nat} {r : Loop} (h : w.heap[l]? = some (.loop r)) : (Instr.getLoop l).run P w = .ok r w := by
  simp [Instr.getLoop, Go.getObj, Sem.run, h]
theorem round_spec {kp : Nat → List Nat} {od : Nat → List (List Nat)} {fn : FuncId} {tmps : Array Value} {qs : Array Tmp} {A B : Code} {db l : Nat} {asg body : IC} {vs : List Value} {I : List Atom} {Qb : Exit → SH → Prop}
    (hqs : ∀ t ∈ qs.toList, t < n) (hlen : qs.toList.length = vs.length) (ha : Agree n Γ { tmps := tmps, defers := [] }) (h1 : lowC P n kp od A = some asg) (h2 : lowC P n kp od B = some body)
    (h : VC P n asg (bindE qs.toList vs Γ) [I] (fun e Γ' H' => e = .normal ∧ VC P n body Γ' H' (fun e _ H'' => match e with | .normal => Qb .normal H'' | .ret => Qb .ret H'' | .exit id => Qb (.exit id) H'' | _ => False))) :
    FunV P (.func (.yield l) #[] #[]) vs [I ++ [.obj l (.loop (lrec fn tmps qs A B db .ready none))]] (fun v Bk => (v = .bool true ∧ ∃ H'', Qb .normal H'' ∧ Bk = [H''.flatten ++ [.obj l (.loop (lrec fn tmps qs A B db .ready none))]]) ∨
      (v = .bool false ∧ ∃ H'', ((Qb .ret H'' ∧ Bk = [H''.flatten ++ [.obj l (.loop (lrec fn tmps qs A B db .done (some .ret)))]]) ∨ (∃ id, Qb (.exit id) H'' ∧ Bk = [H''.flatten ++ [.obj l (.loop (lrec fn tmps qs A B db .done (some (.exit id))))]])))) := by
  intro F w hs
  have hs1 : Sat w ([I].flatten ++ (.obj l (.loop (lrec fn tmps qs A B db .ready none)) :: F)) := by simpa using hs
  have hobj := (hs1.obj (b := l) (List.mem_append_right _ (List.mem_cons_self ..))).1
  refine ⟨fn, (qs.zip vs.toArray).foldl (fun tmps (t, a) => tmps.setIfInBounds t a) tmps, A, B, ?_, ?_⟩
  · simp only [Instr.yield, Sem.run_bind, run_getLoop hobj, Result.andThen_ok]
    have : (#[] ++ vs.toArray : Array Value).size = qs.size := by simpa using hlen.symm
    simp [lrec, hlen.symm]
  · have hz : (qs.zip vs.toArray).foldl (fun tmps (t, a) => tmps.setIfInBounds t a) tmps = (qs.toList.zip vs).foldl (fun tmps (t, a) => tmps.setIfInBounds t a) tmps := by
      rw [← Array.foldl_toList]; simp
    rw [hz]
    refine roundIn_of_wpIn trivial ?_
    refine h (some l) kp od A h1 _ w _ _ (fun l' e => by cases e; exact ⟨_, List.mem_cons_self ..⟩) (bind_agree hqs hlen ha) hs1 ?_
    rintro e a1 w1 Γ1 H1 X ⟨rfl, hb⟩ g1 _ g3 g4
    have g3' : Sat w1 (.obj l (.loop (lrec fn tmps qs A B db .ready none)) :: (H1.flatten ++ (F ++ marks X))) := by
      refine g3.perm ?_
      simp only [List.cons_append]
      exact List.perm_middle
    have hobj1 := (g3'.obj (List.mem_cons_self ..)).1
    obtain ⟨s1, s2⟩ := Sat.setObj (u := .loop (lrec fn tmps qs A B db .busy none)) g3' rfl
    refine ⟨{ w1 with heap := w1.heap.setIfInBounds l (.loop (lrec fn tmps qs A B db .busy none)) }, ?_, ?_⟩
    · have hg := run_getLoop (P := P) hobj1
      simp only [Instr.beginRound, Sem.run_bind, hg, Result.andThen_ok]
      simp [lrec, Go.setObj, Sem.run, hobj1]
    have s3 : Sat { w1 with heap := w1.heap.setIfInBounds l (.loop (lrec fn tmps qs A B db .busy none)) } (H1.flatten ++ (.obj l (.loop (lrec fn tmps qs A B db .busy none)) :: (F ++ marks X))) := s1.perm List.perm_middle.symm
    refine hb (some l) kp od B h2 a1 _ _ _ (fun l' e => by cases e; exact ⟨_, List.mem_cons_self ..⟩) g1 s3 ?_
    intro e a2 w2 Γ2 H2 Y q k1 _ k3 k4
    have k3' : Sat w2 (.obj l (.loop (lrec fn tmps qs A B db .busy none)) :: (H2.flatten ++ F)) := by
      have p : (H2.flatten ++ (.obj l (.loop (lrec fn tmps qs A B db .busy none)) :: (F ++ marks X) ++ marks Y)).Perm ((.obj l (.loop (lrec fn tmps qs A B db .busy none)) :: (H2.flatten ++ F)) ++ (marks X ++ marks Y)) := by
        simp only [List.cons_append, List.append_assoc]
        exact List.perm_middle
      exact (k3.perm p).left
    have hobj2 := (k3'.obj (List.mem_cons_self ..)).1
    have keep := g4.trans (s2.trans k4)
    have fin : ∀ (j : Option Code) (st : LoopState), ∀ (hst : st = if j.isNone then .ready else .done), (Instr.endRound l j).run P w2 = .ok (.bool j.isNone) { w2 with heap := w2.heap.setIfInBounds l (.loop (lrec fn tmps qs A B db st j)) } ∧
        Sat { w2 with heap := w2.heap.setIfInBounds l (.loop (lrec fn tmps qs A B db st j)) } ([H2.flatten ++ [Atom.obj l (.loop (lrec fn tmps qs A B db st j))]].flatten ++ F) ∧ Keeps w { w2 with heap := w2.heap.setIfInBounds l (.loop (lrec fn tmps qs A B db st j)) } := by
      intro j st hst
      obtain ⟨t1, t2⟩ := Sat.setObj (u := .loop (lrec fn tmps qs A B db st j)) k3' rfl
      refine ⟨?_, ?_, keep.trans t2⟩
      · subst hst
        simp only [Instr.endRound, Sem.run_bind, run_getLoop hobj2, Result.andThen_ok, lrec, Go.setObj, Sem.run, hobj2, Sem.run_pure]
      · refine t1.perm ?_
        simp only [List.flatten_cons, List.flatten_nil, List.append_nil, List.append_assoc, List.singleton_append]
        exact List.perm_middle.symm
    cases e with
    | normal =>
      obtain ⟨f1, f2, f3⟩ := fin none .ready rfl
      exact ⟨_, _, f1, _, _, rfl, .inl ⟨rfl, _, q, rfl⟩, f2, f3⟩
    | ret =>
      obtain ⟨f1, f2, f3⟩ := fin (some .ret) .done rfl
      exact ⟨_, _, f1, _, _, rfl, .inr ⟨rfl, _, .inl ⟨q, rfl⟩⟩, f2, f3⟩
    | exit id =>
      obtain ⟨f1, f2, f3⟩ := fin (some (.exit id)) .done rfl
      exact ⟨_, _, f1, _, _, rfl, .inr ⟨rfl, _, .inr ⟨id, q, rfl⟩⟩, f2, f3⟩
    | goto _ => exact q.elim
    | panic _ => exact q.elim
    | outgrown => exact q.elim
theorem enter_spec {fnid : FuncId} {tmps : Array Value} {qs : Array Tmp} {A B : Code} {ρ : Option Nat} {w : World} {L F : List Atom} (hr : Rnd ρ F) (hsat : Sat w (L ++ F)) :
    ∃ (l db : Nat) (X : List Nat) (w1 : World), (Instr.enterLoop fnid tmps qs A B ρ).run P w = .ok (l, X.map coll) w1 ∧
      Sat w1 (.obj l (.loop (lrec fnid tmps qs A B db .ready none)) :: (L ++ (F ++ marks X))) ∧ Keeps w w1 := by
  cases ρ with
  | none =>
    obtain ⟨s1, s2⟩ := hsat.newObj (.deferred (some [])) rfl
    obtain ⟨s3, s4⟩ := s1.newObj (.loop (lrec fnid tmps qs A B w.heap.size .ready none)) rfl
    refine ⟨(w.heap.push (.deferred (some []))).size, w.heap.size, [w.heap.size], _, ?_, s3.perm ?_, s2.trans s4⟩
    · simp [Instr.enterLoop, Go.newObj, Sem.run, lrec, coll]; rfl
    · refine List.Perm.cons _ ?_
      simp only [marks, List.map_cons, List.map_nil]
      rw [← List.append_assoc]
      exact (List.perm_append_singleton _ _).symm
  | some l0 =>
    obtain ⟨r, hr0⟩ := hr l0 rfl
    have ho := (hsat.obj (List.mem_append_right _ hr0)).1
    obtain ⟨s3, s4⟩ := hsat.newObj (.loop (lrec fnid tmps qs A B r.defers .ready none)) rfl
    refine ⟨w.heap.size, r.defers, [], _, ?_, ?_, s4⟩
    · simp [Instr.enterLoop, run_getLoop ho, Go.newObj, Sem.run, lrec]
    · simpa [marks] using s3
theorem end_spec {fnid : FuncId} {tmps : Array Value} {qs : Array Tmp} {A B : Code} {db l : Nat} {st : LoopState} {pe : Option Code} {w : World} {L F : List Atom} (hst : st ≠ .busy)
    (hs : Sat w (L ++ [.obj l (.loop (lrec fnid tmps qs A B db st pe))] ++ F)) : ∃ w4, (Instr.endLoop l).run P w = .ok pe w4 ∧ Sat w4 (L ++ F) ∧ Keeps w w4 := by
  have hs5 : Sat w (.obj l (.loop (lrec fnid tmps qs A B db st pe)) :: (L ++ F)) := by
    refine hs.perm ?_
    rw [List.append_assoc]
    exact List.perm_middle
  have ho := (hs5.obj (List.mem_cons_self ..)).1
  obtain ⟨t1, t2⟩ := Sat.setObj (u := .loop (lrec fnid tmps qs A B db .exhausted pe)) hs5 rfl
  refine ⟨_, ?_, t1.sub (List.sublist_cons_self ..), t2⟩
  have hgl := run_getLoop (P := P) ho
  have hb : ((lrec fnid tmps qs A B db st pe).state == LoopState.busy) = false := by cases st <;> first | rfl | exact absurd rfl hst
  simp only [Instr.endLoop, Sem.run_bind, hgl, Result.andThen_ok, hb]
  simp [lrec, Go.setObj, Sem.run, ho]
theorem VC.rangef {α : Type} {enc : α → List Value} {g : Operand} {f : Nat} {first cap : Array Value} {ps : List Nat} {asg body : IC} {Pre Post R : SH} {Spec : List α → Prop} (I : List α → List Atom → Prop) (A0 : List Atom) (hg : ev Γ g = some (.func (.func f) first cap))
    (hit : Iter P (.func (.func f) first cap) enc Pre Post Spec) (hs : Spl H Pre R) (h0 : Imp R [A0]) (h1 : I [] A0) (hlen : ∀ x, (enc x).length = ps.length)
    (round : ∀ c x A, OkC Spec (c ++ [x]) → I c A → VC P n asg (bindE ps (enc x) Γ) [A] (fun e Γ' H' => e = .normal ∧ VC P n body Γ' H' (fun e _ H'' => match e with | .normal => ∃ A', I (c ++ [x]) A' ∧ Imp H'' [A'] | .ret => Q .ret Γ (Post ++ H'') | .exit id => Q (.exit id) Γ (Post ++ H'') | _ => False)))
    (done : ∀ full A, Spec full → I full A → Q .normal Γ (Post ++ [A])) : VC P n (.rangef g ps asg body) Γ H Q := by
  intro ρ kp od code hl a w F QQ hr ha hsat hh
  obtain ⟨qs, A, B, rfl, rfl, hlt, h1', h2⟩ := lowC_inv hl
  refine wpIn_rangeFunc (fun fnid _ => ?_)
  obtain ⟨l, db, X, w1, he, hs1, hk1⟩ := enter_spec (P := P) (fnid := fnid) (tmps := a.tmps) (qs := qs) (A := A) (B := B) hr hsat
  have hyield := hit (.func (.yield l) #[] #[]) (fun c A' => ∃ A1, I c A1 ∧ A' = A1 ++ [.obj l (.loop (lrec fnid a.tmps qs A B db .ready none))])
    (fun c B' => ∃ H'', (Q .ret Γ (Post ++ H'') ∧ B' = H''.flatten ++ [.obj l (.loop (lrec fnid a.tmps qs A B db .done (some .ret)))]) ∨ (∃ id, Q (.exit id) Γ (Post ++ H'') ∧ B' = H''.flatten ++ [.obj l (.loop (lrec fnid a.tmps qs A B db .done (some (.exit id))))]))
    (fun c x A' hc hA => by
      obtain ⟨A1, hI, rfl⟩ := hA
      have hx := round_spec (P := P) (n := n) (Γ := Γ) (fn := fnid) (tmps := a.tmps) (db := db) (l := l) (vs := enc x) (I := A1) (Qb := fun e H'' => match e with | .normal => ∃ A', I (c ++ [x]) A' ∧ Imp H'' [A'] | .ret => Q .ret Γ (Post ++ H'') | .exit id => Q (.exit id) Γ (Post ++ H'') | _ => False)
        hlt (hlen x).symm ⟨ha.size, ha.slots⟩ h1' h2 ((round c x A1 hc hI).mono (fun e Γ' H' ⟨q1, q2⟩ => ⟨q1, q2.mono (fun e _ H'' q => by cases e <;> exact q)⟩))
      refine hx.conv (R := []) (by simp [Spl]) ?_
      rintro v Bk (⟨rfl, H'', ⟨A2, hI2, q⟩, rfl⟩ | ⟨rfl, H'', q⟩)
      · refine ⟨_, .inl ⟨rfl, _, ⟨A2, hI2, rfl⟩, rfl⟩, ?_⟩
        obtain ⟨R', hR'⟩ := q
        refine ⟨R', ?_⟩
        simp only [Spl, List.flatten_cons, List.flatten_nil, List.append_nil] at hR' ⊢
        rw [List.append_assoc]
        refine (List.Perm.append_right _ hR').trans ?_
        rw [List.append_assoc]
        exact List.Perm.append_left _ List.perm_append_comm
      · rcases q with ⟨q, rfl⟩ | ⟨id, q, rfl⟩
        · exact ⟨_, .inr ⟨rfl, _, ⟨H'', .inl ⟨q, rfl⟩⟩, rfl⟩, by rw [List.append_nil]; exact Imp.refl _⟩
        · exact ⟨_, .inr ⟨rfl, _, ⟨H'', .inr ⟨id, q, rfl⟩⟩, rfl⟩, by rw [List.append_nil]; exact Imp.refl _⟩)
    _ ⟨A0, h1, rfl⟩
  have hs2 : Sat w1 ((Pre ++ [A0 ++ [Atom.obj l (.loop (lrec fnid a.tmps qs A B db .ready none))]]).flatten ++ (F ++ marks X)) := by
    have p1 : (Atom.obj l (.loop (lrec fnid a.tmps qs A B db .ready none)) :: (H.flatten ++ (F ++ marks X))).Perm (R.flatten ++ (Pre.flatten ++ (Atom.obj l (.loop (lrec fnid a.tmps qs A B db .ready none)) :: (F ++ marks X)))) := by
      refine List.perm_middle.symm.trans ?_
      refine (List.Perm.append_right _ hs).trans ?_
      rw [List.append_assoc]
      exact perm_lead _ _ _
    have h3 := (hs1.perm p1).imp h0
    refine h3.perm ?_
    simp only [List.flatten_append, List.flatten_cons, List.flatten_nil, List.append_nil, List.append_assoc, List.singleton_append]
    exact perm_lead _ _ _
  have hcall := hyield (F ++ marks X) w1 hs2
  obtain ⟨hcallable, hcalls⟩ := hcall
  refine ⟨l, X.map coll, w1, { target := .fn (.func f) cap, args := first ++ [Value.func (.yield l) #[] #[]].toArray }, w1, f, first ++ [Value.func (.yield l) #[] #[]].toArray ++ cap, w1, he, ?_, fun _ _ => trivial, ?_, ?_, ?_⟩
  · have hev : a.eval g = .func (.func f) first cap := ha.ev hg
    simp only [resolve, hev, Deferred.ofValue]
    simp [Act.eval]
  · simp only [invoke]
    rw [run_callFunc hcallable]
  · intro h; simp at h
  refine callsIn_v (hcalls.mono ?_)
  · rintro e w3 ⟨v, Pst, rfl, ⟨rfl, hp⟩, hs3, hk3⟩
    have ha' : Agree n Γ { a with defers := X.map coll ++ a.defers } := ⟨ha.size, ha.slots⟩
    rcases hp with ⟨full, _, hf, ⟨A1, hI, rfl⟩, rfl⟩ | ⟨c, B', _, ⟨H'', hj⟩, rfl⟩
    · obtain ⟨w4, e1, e2, e3'⟩ := end_spec (P := P) (L := Post.flatten ++ A1) (st := .ready) (pe := none) (by simp) (by simpa [List.append_assoc] using hs3)
      have e3 := hk1.trans (hk3.trans e3')
      exact ⟨none, w4, e1, hh _ _ _ _ _ X (done full A1 hf hI) ha' rfl (by simpa using e2) e3⟩
    · rcases hj with ⟨q, rfl⟩ | ⟨id, q, rfl⟩
      · obtain ⟨w4, e1, e2, e3'⟩ := end_spec (P := P) (L := Post.flatten ++ H''.flatten) (st := .done) (pe := some .ret) (by simp) (by simpa [List.append_assoc] using hs3)
        have e3 := hk1.trans (hk3.trans e3')
        exact ⟨_, w4, e1, wpIn_ret (hh _ _ _ _ _ X q ha' rfl (by simpa using e2) e3)⟩
      · obtain ⟨w4, e1, e2, e3'⟩ := end_spec (P := P) (L := Post.flatten ++ H''.flatten) (st := .done) (pe := some (.exit id)) (by simp) (by simpa [List.append_assoc] using hs3)
        have e3 := hk1.trans (hk3.trans e3')
        exact ⟨_, w4, e1, wpIn_exit (hh _ _ _ _ _ X q ha' rfl (by simpa using e2) e3)⟩
end
end Go.V
namespace Go.V
open Go
def upd {α : Type} (f : Int → α) (i : Int) (v : α) : Int → α := fun k => if k = i then v else f k
abbrev swp {α : Type} (f : Int → α) (i j : Int) : Int → α := upd (upd f i (f j)) j (f i)
theorem swp_at {α : Type} (f : Int → α) (i j k : Int) : swp f i j k = if k = j then f i else if k = i then f j else f k := by simp only [swp, upd]
inductive Sw {α : Type} (a b : Int) (f : Int → α) : (Int → α) → Prop where
  | refl : Sw a b f f
  | step {g : Int → α} {i j : Int} : Sw a b f g → a ≤ i ∧ i < b → a ≤ j ∧ j < b → Sw a b f (swp g i j)
theorem Sw.trans {α : Type} {a b : Int} {f g h : Int → α} (h1 : Sw a b f g) (h2 : Sw a b g h) : Sw a b f h := by
  induction h2 with
  | refl => exact h1
  | step _ hi hj ih => exact ih.step hi hj
theorem Sw.wide {α : Type} {a b c d : Int} {f g : Int → α} (h : Sw a b f g) (h1 : c ≤ a) (h2 : b ≤ d) : Sw c d f g := by
  induction h with
  | refl => exact .refl
  | step _ hi hj ih => exact ih.step (by omega) (by omega)
theorem Sw.out {α : Type} {a b : Int} {f g : Int → α} (h : Sw a b f g) {k : Int} (hk : k < a ∨ b ≤ k) : g k = f k := by
  induction h with
  | refl => rfl
  | step _ hi hj ih => rw [swp_at, if_neg (by omega), if_neg (by omega), ih]
theorem Sw.from {α : Type} {a b : Int} {f g : Int → α} (h : Sw a b f g) : ∀ {k : Int}, a ≤ k → k < b → ∃ m, a ≤ m ∧ m < b ∧ g k = f m := by
  induction h with
  | refl => intro k h1 h2; exact ⟨k, h1, h2, rfl⟩
  | step _ hi hj ih =>
    intro k h1 h2
    rw [swp_at]
    split
    · exact ih hi.1 hi.2
    · split
      · exact ih hj.1 hj.2
      · exact ih h1 h2
def Inj {α : Type} (n : Int) (f : Int → α) : Prop := ∀ i j, 0 ≤ i → i < n → 0 ≤ j → j < n → f i = f j → i = j
theorem Inj.swp {α : Type} {n : Int} {f : Int → α} (h : Inj n f) {i j : Int} (hi : 0 ≤ i ∧ i < n) (hj : 0 ≤ j ∧ j < n) : Inj n (swp f i j) := by
  intro x y x0 x1 y0 y1 e
  rw [swp_at, swp_at] at e
  by_cases a1 : x = j <;> by_cases a2 : y = j <;> by_cases a3 : x = i <;> by_cases a4 : y = i <;> simp only [a1, a2, a3, a4, if_true, if_false] at e <;>
    first
      | omega
      | (have := h _ _ (by omega) (by omega) (by omega) (by omega) e; omega)
      | (subst a1; subst a2; omega)
      | skip
  all_goals (repeat' split at e)
  all_goals first
    | omega
    | (have := h _ _ (by omega) (by omega) (by omega) (by omega) e; omega)
theorem Inj.sw {α : Type} {n a b : Int} {f g : Int → α} (h : Inj n f) (hs : Sw a b f g) (ha : 0 ≤ a) (hb : b ≤ n) : Inj n g := by
  induction hs with
  | refl => exact h
  | step _ hi hj ih => exact ih.swp (by omega) (by omega)
structure LtOk {α : Type} (lt : α → α → Bool) : Prop where
  asymm : ∀ x y, lt x y = true → lt y x = false
  le_trans : ∀ x y z, lt y x = false → lt z y = false → lt z x = false
  eq : ∀ x y, lt x y = false → lt y x = false → x = y
def Srt {α : Type} (lt : α → α → Bool) (a b : Int) (f : Int → α) : Prop := ∀ p q, a ≤ p → p < q → q < b → lt (f q) (f p) = false
section
variable {P : Program} {n : Nat} {rs : List RO} {Γ : Env} {H R : SH} {Z : List PanicEntry → Env → SH → Prop} {K : Env → SH → Prop} {d : Option Nat} {α : Type} {e : α → Value} {N b o : Nat} {f : Int → α}
end
section
variable {α : Type} {lt : α → α → Bool}
def InsI (lt : α → α → Bool) (a i j : Int) (f : Int → α) : Prop := ∀ p q, a ≤ p → p < q → q ≤ i → q ≠ j → lt (f q) (f p) = false
theorem InsI.start {a i : Int} {f : Int → α} (h : Srt lt a i f) : InsI lt a i i f := fun p q h1 h2 h3 h4 => h p q h1 h2 (by omega)
theorem InsI.first {a i : Int} {f : Int → α} (h : InsI lt a i a f) : Srt lt a (i + 1) f := fun p q h1 h2 h3 => h p q h1 h2 (by omega) (by omega)
theorem InsI.stop (ok : LtOk lt) {a i j : Int} {f : Int → α} (h : InsI lt a i j f) (hl : lt (f j) (f (j - 1)) = false) (hj : j ≤ i) : Srt lt a (i + 1) f := by
  intro p q h1 h2 h3
  by_cases e : q = j
  · subst e
    by_cases e2 : p = q - 1
    · subst e2; exact hl
    · exact ok.le_trans _ _ _ (h p (q - 1) h1 (by omega) (by omega) (by omega)) hl
  · exact h p q h1 h2 (by omega) e
theorem InsI.swap (ok : LtOk lt) {a i j : Int} {f : Int → α} (h : InsI lt a i j f) (hl : lt (f j) (f (j - 1)) = true) (ha : a < j) (hj : j ≤ i) : InsI lt a i (j - 1) (swp f j (j - 1)) := by
  intro p q h1 h2 h3 h4
  rw [swp_at, swp_at]
  by_cases q1 : q = j
  · subst q1
    rw [if_neg h4, if_pos rfl]
    by_cases p1 : p = q - 1
    · subst p1; rw [if_pos rfl]; exact ok.asymm _ _ hl
    · rw [if_neg p1, if_neg (by omega)]; exact h p (q - 1) h1 (by omega) (by omega) (by omega)
  · rw [if_neg h4, if_neg q1]
    by_cases p1 : p = j - 1
    · subst p1; rw [if_pos rfl]; exact h j q (by omega) (by omega) h3 q1
    · rw [if_neg p1]
      by_cases p2 : p = j
      · subst p2; rw [if_pos rfl]; exact h (p - 1) q (by omega) (by omega) h3 q1
      · rw [if_neg p2]; exact h p q h1 h2 h3 q1
end
section
variable {α : Type} {lt : α → α → Bool}
def Kid (r c : Int) : Prop := c = 2 * r + 1 ∨ c = 2 * r + 2
def Hp (lt : α → α → Bool) (s lo hi : Int) (f : Int → α) : Prop := ∀ r c, lo ≤ r → Kid r c → c < hi → lt (f (s + r)) (f (s + c)) = false
def HpX (lt : α → α → Bool) (s lo hi x : Int) (f : Int → α) : Prop :=
  (∀ r c, lo ≤ r → Kid r c → c < hi → r ≠ x → lt (f (s + r)) (f (s + c)) = false) ∧ (∀ r c, lo ≤ r → Kid r x → Kid x c → c < hi → lt (f (s + r)) (f (s + c)) = false)
theorem LtOk.refl (ok : LtOk lt) (x : α) : lt x x = false := by
  cases h : lt x x with
  | false => rfl
  | true => exact (ok.asymm x x h).symm.trans h |>.symm ▸ rfl
theorem HpX.start {s lo hi : Int} {f : Int → α} (h : Hp lt s (lo + 1) hi f) (h0 : 0 ≤ lo) : HpX lt s lo hi lo f :=
  ⟨fun r c h1 h2 h3 h4 => h r c (by omega) h2 h3, fun r c h1 h2 h3 h4 => by unfold Kid at h2; omega⟩
theorem HpX.none {s lo hi x : Int} {f : Int → α} (h : HpX lt s lo hi x f) (hx : hi ≤ 2 * x + 1) : Hp lt s lo hi f := by
  intro r c h1 h2 h3
  by_cases e : r = x
  · subst e; unfold Kid at h2; omega
  · exact h.1 r c h1 h2 h3 e
theorem HpX.stop (ok : LtOk lt) {s lo hi x m : Int} {f : Int → α} (h : HpX lt s lo hi x f) (hmax : ∀ c, Kid x c → c < hi → lt (f (s + m)) (f (s + c)) = false) (hl : lt (f (s + x)) (f (s + m)) = false) : Hp lt s lo hi f := by
  intro r c h1 h2 h3
  by_cases e : r = x
  · subst e; exact ok.le_trans _ _ _ (hmax c h2 h3) hl
  · exact h.1 r c h1 h2 h3 e
theorem Hp.top (ok : LtOk lt) {s hi : Int} {f : Int → α} (h : Hp lt s 0 hi f) : ∀ (n : Nat) (c : Int), c = n → c < hi → lt (f s) (f (s + c)) = false := by
  intro n
  induction n using Nat.strongRecOn with
  | _ n ih =>
    intro c hc hhi
    by_cases e : c = 0
    · subst e; rw [Int.add_zero]; exact ok.refl _
    · have hk : Kid ((c - 1) / 2) c := by unfold Kid; omega
      have h1 := h _ c (by omega) hk hhi
      exact ok.le_trans _ _ _ h1 (ih ((c - 1) / 2).toNat (by omega) ((c - 1) / 2) (by omega) (by omega))
theorem Hp.none {s lo hi : Int} {f : Int → α} (h : hi ≤ 2 * lo + 1) : Hp lt s lo hi f := fun r c h1 h2 h3 => by unfold Kid at h2; omega
end
section
variable {α : Type} {lt : α → α → Bool}
def Lo (lt : α → α → Bool) (a z : Int) (f : Int → α) : Prop := 0 < a → ∀ k, a ≤ k → k < z → lt (f k) (f (a - 1)) = false
theorem Lo.sw {a z : Int} {f g : Int → α} (h : Lo lt a z f) (hs : Sw a z f g) : Lo lt a z g := by
  intro h0 k h1 h2
  obtain ⟨m, m1, m2, m3⟩ := hs.from h1 h2
  rw [m3, hs.out (k := a - 1) (by omega)]
  exact h h0 m m1 m2
structure PI (lt : α → α → Bool) (a z i j : Int) (p : α) (g : Int → α) : Prop where
  piv : g a = p
  less : ∀ k, a < k → k < i → lt (g k) p = true
  more : ∀ k, j < k → k < z → lt (g k) p = false
  lo : a + 1 ≤ i
  mid : i ≤ j + 1
  hi : j < z
theorem PI.swap {a z i j : Int} {p : α} {g : Int → α} (h : PI lt a z i j p g) (hij : i ≤ j) (h1 : lt (g i) p = false) (h2 : lt (g j) p = true) : PI lt a z (i + 1) (j - 1) p (swp g i j) := by
  have hne : i ≠ j := fun e => by subst e; rw [h1] at h2; cases h2
  have l1 := h.lo
  have l2 := h.hi
  refine ⟨?_, fun k k1 k2 => ?_, fun k k1 k2 => ?_, by omega, by omega, by omega⟩
  · rw [swp_at, if_neg (by omega), if_neg (by omega)]; exact h.piv
  · rw [swp_at, if_neg (by omega)]
    by_cases e : k = i
    · rw [if_pos e]; exact h2
    · rw [if_neg e]; exact h.less k k1 (by omega)
  · rw [swp_at]
    by_cases e : k = j
    · rw [if_pos e]; exact h1
    · rw [if_neg e, if_neg (by omega)]; exact h.more k (by omega) k2
def Parted (lt : α → α → Bool) (a z m : Int) (g : Int → α) : Prop := (∀ k, a ≤ k → k < m → lt (g k) (g m) = true) ∧ (∀ k, m < k → k < z → lt (g k) (g m) = false)
theorem PI.done {a z j : Int} {p : α} {g : Int → α} (h : PI lt a z (j + 1) j p g) : Parted lt a z j (swp g j a) := by
  have l1 := h.lo
  have hp : swp g j a j = p := by
    rw [swp_at]
    by_cases e : j = a
    · rw [if_pos e, e]; exact h.piv
    · rw [if_neg e, if_pos rfl]; exact h.piv
  refine ⟨fun k k1 k2 => ?_, fun k k1 k2 => ?_⟩
  · rw [hp, swp_at]
    by_cases e : k = a
    · rw [if_pos e]; exact h.less j (by omega) (by omega)
    · rw [if_neg e, if_neg (by omega)]; exact h.less k (by omega) (by omega)
  · rw [hp, swp_at, if_neg (by omega), if_neg (by omega)]; exact h.more k k1 k2
end
section
variable {α : Type} {lt : α → α → Bool}
def But (lt : α → α → Bool) (a z x y : Int) (f : Int → α) : Prop := ∀ p q, a ≤ p → p < q → q < z → ¬ (x ≤ p ∧ q < y) → lt (f q) (f p) = false
theorem But.start {a z : Int} {f : Int → α} : But lt a z a z f := fun p q h1 h2 h3 h4 => absurd ⟨h1, h3⟩ h4
theorem But.sw {a z x y : Int} {f g : Int → α} (h : But lt a z x y f) (hs : Sw x y f g) (ha : a ≤ x) (hz : y ≤ z) : But lt a z x y g := by
  intro p q h1 h2 h3 h4
  by_cases hp : x ≤ p ∧ p < y
  · obtain ⟨m, m1, m2, m3⟩ := hs.from hp.1 hp.2
    rw [m3, hs.out (k := q) (by omega)]
    exact h m q (by omega) (by omega) h3 (by omega)
  · by_cases hq : x ≤ q ∧ q < y
    · obtain ⟨m, m1, m2, m3⟩ := hs.from hq.1 hq.2
      rw [m3, hs.out (k := p) (by omega)]
      exact h p m h1 (by omega) (by omega) (by omega)
    · rw [hs.out (k := p) (by omega), hs.out (k := q) (by omega)]
      exact h p q h1 h2 h3 h4
theorem But.done {a z x y : Int} {f : Int → α} (h : But lt a z x y f) (hs : Srt lt x y f) : Srt lt a z f := by
  intro p q h1 h2 h3
  by_cases e : x ≤ p ∧ q < y
  · exact hs p q e.1 h2 e.2
  · exact h p q h1 h2 h3 e
theorem But.lo {a z x y : Int} {f : Int → α} (h : But lt a z x y f) (hl : Lo lt a z f) (ha : a ≤ x) (hz : y ≤ z) : Lo lt x y f := by
  intro h0 k h1 h2
  by_cases e : x = a
  · subst e; exact hl h0 k h1 (by omega)
  · exact h (x - 1) k (by omega) (by omega) (by omega) (by omega)
theorem But.left (ok : LtOk lt) {a z x y m : Int} {f g : Int → α} (h : But lt a z x y f) (hp : Parted lt x y m f) (hm : x ≤ m ∧ m < y) (ha : a ≤ x) (hz : y ≤ z) (hs : Sw x m f g) (hg : Srt lt x m g) : But lt a z (m + 1) y g := by
  have h' := h.sw (hs.wide (Int.le_refl _) (by omega : m ≤ y)) ha hz
  have gm : g m = f m := hs.out (by omega)
  intro p q h1 h2 h3 h4
  by_cases e : x ≤ p ∧ q < y
  · -- both within: one of them is not behind m
    by_cases hq : q < m
    · exact hg p q e.1 h2 hq
    · by_cases hpm : p < m
      · obtain ⟨k, k1, k2, k3⟩ := hs.from e.1 hpm
        have a1 : lt (g p) (g m) = true := by rw [k3, gm]; exact hp.1 k k1 k2
        have a2 := ok.asymm _ _ a1
        by_cases e2 : q = m
        · subst e2; exact a2
        · have a3 : lt (g q) (g m) = false := by rw [hs.out (k := q) (by omega), gm]; exact hp.2 q (by omega) (by omega)
          exact ok.le_trans _ _ _ a2 a3
      · have e2 : p = m := by omega
        subst e2
        rw [hs.out (k := q) (by omega), gm]
        exact hp.2 q (by omega) (by omega)
  · exact h' p q h1 h2 h3 e
theorem But.right (ok : LtOk lt) {a z x y m : Int} {f g : Int → α} (h : But lt a z x y f) (hp : Parted lt x y m f) (hm : x ≤ m ∧ m < y) (ha : a ≤ x) (hz : y ≤ z) (hs : Sw (m + 1) y f g) (hg : Srt lt (m + 1) y g) : But lt a z x m g := by
  have h' := h.sw (hs.wide (by omega : x ≤ m + 1) (Int.le_refl _)) ha hz
  have gm : g m = f m := hs.out (by omega)
  intro p q h1 h2 h3 h4
  by_cases e : x ≤ p ∧ q < y
  · by_cases hpm : m + 1 ≤ p
    · exact hg p q hpm h2 e.2
    · have a2 : lt (g m) (g p) = false := by
        by_cases e2 : p = m
        · subst e2; exact ok.refl _
        · rw [hs.out (k := p) (by omega), gm]; exact ok.asymm _ _ (hp.1 p (by omega) (by omega))
      by_cases e2 : q = m
      · subst e2; exact a2
      · obtain ⟨k, k1, k2, k3⟩ := hs.from (k := q) (by omega) (by omega)
        have a3 : lt (g q) (g m) = false := by rw [k3, gm]; exact hp.2 k (by omega) k2
        exact ok.le_trans _ _ _ a2 a3
  · exact h' p q h1 h2 h3 e
end
theorem VC.meet {P : Program} {n : Nat} {Γ : Env} {H : SH} {Q : Exit → Env → SH → Prop} {x y : IC} {α : Type} (Γf : α → Env) (Hf : α → SH) (I : α → Prop) (h1 : VC P n x Γ H (thenQ (fun Γ' H' => ∃ s, I s ∧ Sub Γ' (Γf s) ∧ Imp H' (Hf s)) Q))
    (h2 : ∀ s, I s → VC P n y (Γf s) (Hf s) Q) : VC P n x Γ H (thenQ (fun Γ' H' => VC P n y Γ' H' Q) Q) := by
  refine h1.mono ?_
  intro e Γ' H' q
  cases e <;> first
    | (obtain ⟨s, i1, i2, i3⟩ := q; exact VC.sub i2 (VC.imp i3 (h2 s i1)))
    | exact q
section
variable {α : Type}
def listOf (n : Nat) (f : Int → α) : List α := (List.range n).map fun i : Nat => f i
theorem listOf_get {n : Nat} {f : Int → α} {i : Nat} (h : i < n) : (listOf n f)[i]? = some (f i) := by simp [listOf, List.getElem?_range h]
theorem listOf_length {n : Nat} {f : Int → α} : (listOf n f).length = n := by simp [listOf]
theorem listOf_upd {n : Nat} {f : Int → α} {m : Int} {v : α} (h : 0 ≤ m ∧ m < n) : listOf n (upd f m v) = (listOf n f).set m.toNat v := by
  apply List.ext_getElem?
  intro i
  rw [List.getElem?_set]
  by_cases hi : i < n
  · rw [listOf_get hi, listOf_get hi, listOf_length]
    simp only [upd]
    by_cases e : m.toNat = i
    · rw [if_pos e, if_pos (by omega), if_pos (by omega)]
    · rw [if_neg e, if_neg (by omega)]
  · have h1 : (listOf n (upd f m v))[i]? = none := List.getElem?_eq_none (by rw [listOf_length]; omega)
    have h2 : (listOf n f)[i]? = none := List.getElem?_eq_none (by rw [listOf_length]; omega)
    rw [h1, h2, listOf_length, if_neg (show ¬ (m.toNat = i) by omega)]
theorem listOf_swp {n : Nat} {f : Int → α} {i j : Int} (hi : 0 ≤ i ∧ i < n) (hj : 0 ≤ j ∧ j < n) : (listOf n (swp f i j)).Perm (listOf n f) := by
  have hl : (listOf n f).length = n := listOf_length
  have h1 : (listOf n f)[i.toNat]'(by omega) = f i := by
    have := listOf_get (f := f) (n := n) (i := i.toNat) (by omega)
    rw [List.getElem?_eq_getElem (by omega)] at this
    rw [Option.some.inj this, Int.toNat_of_nonneg hi.1]
  have h2 : (listOf n f)[j.toNat]'(by omega) = f j := by
    have := listOf_get (f := f) (n := n) (i := j.toNat) (by omega)
    rw [List.getElem?_eq_getElem (by omega)] at this
    rw [Option.some.inj this, Int.toNat_of_nonneg hj.1]
  show (listOf n (upd (upd f i (f j)) j (f i))).Perm _
  rw [listOf_upd hj, listOf_upd hi, ← h1, ← h2]
  exact List.set_set_perm (by omega) (by omega)
theorem Sw.perm {n : Nat} {a z : Int} {f g : Int → α} (h : Sw a z f g) (ha : 0 ≤ a) (hz : z ≤ n) : (listOf n g).Perm (listOf n f) := by
  induction h with
  | refl => exact .refl _
  | step _ hi hj ih => exact (listOf_swp (by omega) (by omega)).trans ih
end
theorem mapOf_keys {κ β : Type} [DecidableEq κ] {E : KEnc κ} {V : β → Value} : ∀ {es : List MapEntry} {m : List (κ × β)}, MapOf E V es m → es.map (·.key) = m.map (fun p => E.enc p.1) := by
  intro es m h
  have h' := congrArg (List.map (·.1)) (show es.map (fun e => (e.key, e.val)) = m.map (fun p => (E.enc p.1, V p.2)) from h)
  simpa [List.map_map, Function.comp_def] using h'
theorem key_one {κ β : Type} [DecidableEq κ] {E : KEnc κ} {V : β → Value} {es : Array MapEntry} {c : Nat} {m : List (κ × β)} (h : MapIs E V es c m) (hk : (m.map (·.1)).Nodup) {e e' : MapEntry} (he : e ∈ es.toList) (he' : e' ∈ es.toList) (hkey : e.key = e'.key) : e.born = e'.born := by
  obtain ⟨i, hi⟩ := List.getElem?_of_mem he
  obtain ⟨j, hj⟩ := List.getElem?_of_mem he'
  have hkeys := mapOf_keys h.of
  have a1 : (m.map (·.1))[i]? = (m.map (·.1))[j]? := by
    have b1 := congrArg (fun l : List Value => l[i]?) hkeys
    have b2 := congrArg (fun l : List Value => l[j]?) hkeys
    simp only [List.getElem?_map, hi, hj, Option.map_some] at b1 b2
    cases hm : m[i]? with
    | none => rw [hm] at b1; cases b1
    | some p =>
      cases hm2 : m[j]? with
      | none => rw [hm2] at b2; cases b2
      | some p2 =>
        rw [hm] at b1; rw [hm2] at b2
        simp only [Option.map_some, Option.some.injEq] at b1 b2
        have := KEnc.inj (E := E) (b1.symm.trans (hkey.trans b2))
        simp [hm, hm2, this]
  have hlen : i < (m.map (·.1)).length := by
    have b1 := congrArg List.length hkeys
    simp only [List.length_map] at b1 ⊢
    have := (List.getElem?_eq_some_iff.1 hi).1
    omega
  have hij : i = j := by
    have hjl : j < (m.map (·.1)).length := by
      rw [List.getElem?_eq_getElem hlen] at a1
      exact (List.getElem?_eq_some_iff.1 a1.symm).1
    rw [List.getElem?_eq_getElem hlen, List.getElem?_eq_getElem hjl] at a1
    have key : ∀ (p q : Nat) (hp : p < (m.map (·.1)).length) (hq : q < (m.map (·.1)).length), (m.map (·.1))[p] = (m.map (·.1))[q] → ¬ p < q := fun p q hp hq e2 hpq => (List.pairwise_iff_getElem.1 hk p q hp hq hpq) e2
    have k1 := key _ _ hlen hjl (Option.some.inj a1)
    have k2 := key _ _ hjl hlen (Option.some.inj a1).symm
    omega
  subst hij
  rw [hi] at hj
  cases hj
  rfl
structure Ch where
  kind : Int
  n : Int
  text : ByteArray
structure De where
  kind : Int
  handle : Int
  text : ByteArray
  to : ByteArray
  n : Int
  err : Int
structure Wr where
  seq : Int
  at_ : Int
  text : ByteArray
  empty : Bool
structure FO where
  now : List UInt8
  base : List UInt8
  writes : List Wr
  nv : Value
  bv : Value
  wv : Value
  ns : List Value
  bs : List Value
  ws : List Value
structure HO where
  blk : Nat
  closed : Bool
  stale : Bool
  file : Option Nat
  mode : Int
  at_ : Int
def chEnc (c : Ch) : List Value := [.int .u8 c.kind, vi c.n, .string c.text]
def deEnc (d : De) : List Value := [.int .u8 d.kind, vi d.handle, .string d.text, .string d.to, vi d.n, vi d.err]
def wrEnc (x : Wr) : List Value := [vi x.seq, vi x.at_, .string x.text, .bool x.empty]
def u8v (c : UInt8) : Value := .int .u8 c.toNat
def pf (f : Option Nat) : Value := .pointer (f.map fun b => ⟨b, 0, none⟩)
def hoEnc (h : HO) : List Value := [.bool h.closed, .bool h.stale, pf h.file, vi h.mode, vi h.at_]
def hoA (h : HO) : List Atom := cellsAt h.blk 0 (hoEnc h)
def foA (p : Nat × FO) : List Atom := cellsAt p.1 0 [p.2.nv, p.2.bv, p.2.wv] ++ (slA p.2.nv (p.2.now.map u8v) p.2.ns ++ (slA p.2.bv (p.2.base.map u8v) p.2.bs ++ slA p.2.wv (p.2.writes.flatMap wrEnc) p.2.ws))
structure WR where
  cv : Value
  choices : List Ch
  csp : List Value
  fm : Nat
  fes : Array MapEntry
  fc : Nat
  names : List (ByteArray × Nat)
  objs : List (Nat × FO)
  hv : Value
  hs : List HO
  hsp : List Value
  tv : Value
  trace : List De
  tsp : List Value
  clock : Int
  seq : Int
  dead : Bool
abbrev hdr (w : WR) : List Value := [w.cv, .map (some w.fm), w.hv, w.tv, vi w.clock, vi w.seq, .bool w.dead]
abbrev WMem (t : Nat) (w : WR) : SH :=
  [cellsAt t 0 [w.cv, .map (some w.fm), w.hv, w.tv, vi w.clock, vi w.seq, .bool w.dead], slA w.cv (w.choices.flatMap chEnc) w.csp, [.obj w.fm (.map w.fes w.fc)], w.objs.flatMap foA, slA w.hv (w.hs.map fun h => ptr0 h.blk) w.hsp, w.hs.flatMap hoA, slA w.tv (w.trace.flatMap deEnc) w.tsp]
structure FOk (f : FO) (M : Nat) : Prop where
  now : IsSl 1 f.nv f.now.length (f.now.map u8v) f.ns
  base : IsSl 1 f.bv f.base.length (f.base.map u8v) f.bs
  wr : IsSl 4 f.wv f.writes.length (f.writes.flatMap wrEnc) f.ws
  len : f.now.length ≤ 4194304
  len2 : f.base.length ≤ 4194304
  many : f.writes.length ≤ M
  at_ : ∀ x ∈ f.writes, 0 ≤ x.at_ ∧ x.at_ + x.text.size ≤ 4194304
structure WOk (w : WR) (M : Nat) : Prop where
  ch : IsSl 3 w.cv w.choices.length (w.choices.flatMap chEnc) w.csp
  fm : MapIs kStr (fun b : Nat => ptr0 b) w.fes w.fc w.names
  keys : (w.names.map (·.1)).Nodup
  blks : (w.objs.map (·.1)).Nodup
  named : ∀ p ∈ w.names, p.2 ∈ w.objs.map (·.1)
  fo : ∀ p ∈ w.objs, FOk p.2 M
  hv : IsSl 1 w.hv w.hs.length (w.hs.map fun h => ptr0 h.blk) w.hsp
  hfile : ∀ h ∈ w.hs, ∀ b, h.file = some b → b ∈ w.objs.map (·.1)
  hat : ∀ h ∈ w.hs, 0 ≤ h.at_ ∧ h.at_ ≤ 4194304
  hmany : w.hs.length ≤ M
  tr : IsSl 6 w.tv w.trace.length (w.trace.flatMap deEnc) w.tsp
  trmany : w.trace.length ≤ M
  seq : 0 ≤ w.seq ∧ w.seq ≤ M
  clock : 0 ≤ w.clock ∧ w.clock ≤ 1000000000000000000
  files : w.names.length ≤ 1073741823
  chmany : w.choices.length ≤ 65536
def anyE (hs : List HO) (n : Int) : Int := match (if 1 ≤ n then hs[(n - 1).toNat]? else none) with | some h => if h.closed then 30 else 0 | none => 30
def heldE (hs : List HO) (n : Int) (host : Bool) : Int := match (if 1 ≤ n then hs[(n - 1).toNat]? else none) with
  | some h => if h.closed then 30 else if h.file.isNone != host then 30 else if h.stale then 31 else 0
  | none => 30
def noCh : Ch := ⟨0, 0, ⟨#[]⟩⟩
def takeC (w : WR) : Ch := if w.dead then noCh else w.choices.headD noCh
def takeL (w : WR) : Bool := !(w.dead || decide ((takeC w).kind = 5))
def Taken (w w1 : WR) : Prop := ∃ cv' csp' cs, cs.length ≤ w.choices.length ∧ cs = (if w.dead then w.choices else w.choices.tail) ∧ IsSl 3 cv' cs.length (cs.flatMap chEnc) csp' ∧ w1 = { w with cv := cv', choices := cs, csp := csp', dead := !takeL w }
def AllVO (K : List RO → Prop) : List (List RO) → Prop
  | [] => True
  | rs :: r => K rs ∧ AllVO K r
theorem AllVO.mem {K : List RO → Prop} : ∀ {rss : List (List RO)}, AllVO K rss → ∀ rs ∈ rss, K rs := by
  intro rss
  induction rss with
  | nil => intro _ rs h; cases h
  | cons a r ih =>
    intro h rs hm
    rcases List.mem_cons.1 hm with rfl | hm
    · exact h.1
    · exact ih h.2 rs hm
theorem VC.draws {P : Program} {n : Nat} {Γ : Env} {H : SH} {Q : Exit → Env → SH → Prop} {rss : List (List RO)} {keep : List Nat} (h : AllVO (fun rs => VO P n rs Γ H (fun _ _ _ => False) fun Γ' H' => Q .normal (restr keep Γ') H') rss) : VC P n (.draw rss keep) Γ H Q := VC.draw h.mem
theorem VC.seq_draws {P : Program} {n : Nat} {Γ : Env} {H : SH} {Q : Exit → Env → SH → Prop} {rss : List (List RO)} {keep : List Nat} {y : IC} {α : Type} (Γf : α → Env) (Hf : α → SH) (I : α → Prop)
    (h : AllVO (fun rs => VO P n rs Γ H (fun _ _ _ => False) fun Γ' H' => ∃ s, I s ∧ Sub (restr keep Γ') (Γf s) ∧ Imp H' (Hf s)) rss) (h2 : ∀ s, I s → VC P n y (Γf s) (Hf s) Q) : VC P n (.seq (.draw rss keep) y) Γ H Q := by
  refine VC.seq (VC.draws ?_)
  have key : ∀ {l : List (List RO)}, AllVO (fun rs => VO P n rs Γ H (fun _ _ _ => False) fun Γ' H' => ∃ s, I s ∧ Sub (restr keep Γ') (Γf s) ∧ Imp H' (Hf s)) l →
      AllVO (fun rs => VO P n rs Γ H (fun _ _ _ => False) fun Γ' H' => VC P n y (restr keep Γ') H' Q) l := by
    intro l
    induction l with
    | nil => intro _; trivial
    | cons a r ih =>
      intro hh
      exact ⟨hh.1.mono (fun Γ' H' ⟨s, i1, i2, i3⟩ => VC.sub i2 (VC.imp i3 (h2 s i1))), ih hh.2⟩
  exact key h
section
variable {P : Program} {n : Nat} {rs : List RO} {Γ : Env} {H : SH} {Z : List PanicEntry → Env → SH → Prop} {K : Env → SH → Prop} {d : Option Nat}
theorem st_gcase {r : R} {s : Nat} {b c : Bool} (hs : look Γ s = some (.bool c)) (ht : c = true → VO P n (⟨d, some (s, b), r⟩ :: rs) ((s, .bool true) :: Γ) H Z K) (hf : c = false → VO P n (⟨d, some (s, b), r⟩ :: rs) ((s, .bool false) :: Γ) H Z K) :
    VO P n (⟨d, some (s, b), r⟩ :: rs) Γ H Z K := st_case hs ht hf
theorem st_pcase {s : Nat} {x y : Operand} {c : Bool} (hs : look Γ s = some (.bool c)) (ht : c = true → VO P n (⟨d, none, .pick (.tmp s) x y⟩ :: rs) ((s, .bool true) :: Γ) H Z K) (hf : c = false → VO P n (⟨d, none, .pick (.tmp s) x y⟩ :: rs) ((s, .bool false) :: Γ) H Z K) :
    VO P n (⟨d, none, .pick (.tmp s) x y⟩ :: rs) Γ H Z K := st_case hs ht hf
end
end Go.V

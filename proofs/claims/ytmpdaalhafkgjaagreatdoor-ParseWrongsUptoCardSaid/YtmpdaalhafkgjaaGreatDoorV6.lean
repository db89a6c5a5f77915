/-
  Calls of values, the rounds of a range over a function, and such a range itself.
-/
import Derived.Test.YtmpdaalhafkgjaaGreatDoorV5
import Derived.DefersIn
set_option linter.unusedSimpArgs false
set_option linter.unusedVariables false
namespace Go.V
open Go
def Invk (P : Program) (fv : Value) (args : List Value) (w : World) (R : Ending → World → Prop) : Prop :=
  match fv with
  | .func (.func f) first cap => callable P f = true ∧ Calls P f (first ++ args.toArray ++ cap) w R
  | .func (.yield l) first _ => ∃ f tmps asg body, (Instr.yield l (first ++ args.toArray)).run P w = .ok (.round l f tmps asg body) w ∧ RoundIn Fence.wide 0 P l f tmps asg body w R
  | _ => False
def FunV (P : Program) (fv : Value) (args : List Value) (Pre : SH) (Q : Value → SH → Prop) : Prop :=
  ∀ F w, Sat w (Pre.flatten ++ F) → Invk P fv args w fun e w' => ∃ v Post, e = .returned v ∧ Q v Post ∧ Sat w' (Post.flatten ++ F) ∧ Keeps w w'
theorem Invk.mono {P : Program} {fv : Value} {args : List Value} {w : World} {R R' : Ending → World → Prop} (h : Invk P fv args w R) (hr : ∀ e w', R e w' → R' e w') : Invk P fv args w R' := by
  unfold Invk at *
  split at h
  · exact ⟨h.1, Calls.mono h.2 hr⟩
  · obtain ⟨f, tmps, asg, body, h1, h2⟩ := h
    exact ⟨f, tmps, asg, body, h1, RoundIn.mono h2 hr⟩
  · exact h.elim
theorem FunV.mono {P : Program} {fv : Value} {args : List Value} {Pre : SH} {Q Q' : Value → SH → Prop} (h : FunV P fv args Pre Q) (hq : ∀ v Post, Q v Post → Q' v Post) : FunV P fv args Pre Q' :=
  fun F w hs => (h F w hs).mono fun _ _ ⟨v, Post, a, b, c⟩ => ⟨v, Post, a, hq _ _ b, c⟩
theorem FunV.conv {P : Program} {fv : Value} {args : List Value} {H Pre R : SH} {Q Q' : Value → SH → Prop} (h : FunV P fv args Pre Q) (hs : Spl H Pre R) (hq : ∀ v Post, Q v Post → ∃ Post', Q' v Post' ∧ Imp (Post ++ R) Post') : FunV P fv args H Q' := by
  intro F w hw
  have hw' : Sat w (Pre.flatten ++ (R.flatten ++ F)) := by
    rw [← List.append_assoc]; exact hw.perm (List.Perm.append_right F hs)
  refine (h (R.flatten ++ F) w hw').mono ?_
  rintro e w' ⟨v, Post, h1, h2, h3, h4⟩
  obtain ⟨Post', h5, h6⟩ := hq v Post h2
  refine ⟨v, Post', h1, h5, Sat.imp h6 ?_, h4⟩
  rw [List.flatten_append, List.append_assoc]; exact h3
theorem FunV.of_fun {P : Program} {f : Nat} {first cap : Array Value} {args : List Value} {Pre : SH} {Q : Value → SH → Prop} (h : Fun P f (first.toList ++ args ++ cap.toList) Pre Q) : FunV P (.func (.func f) first cap) args Pre Q := by
  intro F w hs
  refine ⟨h.1, ?_⟩
  have hall : first ++ args.toArray ++ cap = (first.toList ++ args ++ cap.toList).toArray := by
    apply Array.toList_inj.1; simp
  rw [hall]
  exact h.2 F w hs
def bindE : List Nat → List Value → Env → Env
  | p :: ps, v :: vs, Γ => bindE ps vs ((p, v) :: Γ)
  | _, _, Γ => Γ
def OkC {α : Type} (Spec : List α → Prop) (c : List α) : Prop := ∃ t, Spec (c ++ t)
def Iter (P : Program) (g : Value) {α : Type} (enc : α → List Value) (Pre Post : SH) (Spec : List α → Prop) : Prop :=
  ∀ (y : Value) (J SP : List α → List Atom → Prop),
    (∀ c x A, OkC Spec (c ++ [x]) → J c A → FunV P y (enc x) [A] (fun v B => (v = .bool true ∧ ∃ A', J (c ++ [x]) A' ∧ B = [A']) ∨ (v = .bool false ∧ ∃ B', SP (c ++ [x]) B' ∧ B = [B']))) →
    ∀ A, J [] A → FunV P g [y] (Pre ++ [A]) (fun v B => v = .tuple #[] ∧ ((∃ full A', Spec full ∧ J full A' ∧ B = Post ++ [A']) ∨ (∃ c B', OkC Spec c ∧ SP c B' ∧ B = Post ++ [B'])))
section
variable {P : Program} {n : Nat} {Γ : Env} {H : SH} {Q : Exit → Env → SH → Prop}
theorem bind_agree {ps : List Nat} : ∀ {vs : List Value} {Γ : Env} {tmps : Array Value}, (∀ t ∈ ps, t < n) → ps.length = vs.length → Agree n Γ { tmps := tmps, defers := [] } →
    Agree n (bindE ps vs Γ) { tmps := (ps.zip vs).foldl (fun tmps (t, a) => tmps.setIfInBounds t a) tmps, defers := [] } := by
  induction ps with
  | nil => intro vs Γ tmps _ _ h; cases vs <;> exact h
  | cons p ps ih =>
    intro vs Γ tmps hp hl h
    cases vs with
    | nil => simp at hl
    | cons v vs =>
      simp only [bindE, List.zip_cons_cons, List.foldl_cons]
      refine ih (fun t ht => hp t (by simp [ht])) (by simpa using hl) ?_
      exact h.put (d := p) (hp p (by simp)) v
def lrec (fn : FuncId) (tmps : Array Value) (qs : Array Tmp) (A B : Code) (db : Nat) (st : LoopState) (pe : Option Code) : Loop := { state := st, pending := pe, fn, tmps, params := qs, assign := A, body := B, defers := db }
theorem run_getLoop {w : World} {l : Nat} {r : Loop} (h : w.heap[l]? = some (.loop r)) : (Instr.getLoop l).run P w = .ok r w := by
  simp [Instr.getLoop, Go.getObj, Sem.run, h]
theorem round_spec {kp : Nat → List Nat} {od : Nat → List (List Nat)} {fn : FuncId} {tmps : Array Value} {qs : Array Tmp} {A B : Code} {db l : Nat} {asg body : IC} {vs : List Value} {I : List Atom} {Qb : Exit → SH → Prop}
    (hqs : ∀ t ∈ qs.toList, t < n) (hlen : qs.toList.length = vs.length) (ha : Agree n Γ { tmps := tmps, defers := [] }) (h1 : lowC P n kp od A = some asg) (h2 : lowC P n kp od B = some body)
    (h : VC P n asg (bindE qs.toList vs Γ) [I] (fun e Γ' H' => e = .normal ∧ VC P n body Γ' H' (fun e _ H'' => match e with | .normal => Qb .normal H'' | .ret => Qb .ret H'' | .exit id => Qb (.exit id) H'' | _ => False))) :
    FunV P (.func (.yield l) #[] #[]) vs [I ++ [.obj l (.loop (lrec fn tmps qs A B db .ready none))]] (fun v Bk => (v = .bool true ∧ ∃ H'', Qb .normal H'' ∧ Bk = [H''.flatten ++ [.obj l (.loop (lrec fn tmps qs A B db .ready none))]]) ∨
      (v = .bool false ∧ ∃ H'', ((Qb .ret H'' ∧ Bk = [H''.flatten ++ [.obj l (.loop (lrec fn tmps qs A B db .done (some .ret)))]]) ∨ (∃ id, Qb (.exit id) H'' ∧ Bk = [H''.flatten ++ [.obj l (.loop (lrec fn tmps qs A B db .done (some (.exit id))))]])))) := by
  intro F w hs
  have hs1 : Sat w ([I].flatten ++ (.obj l (.loop (lrec fn tmps qs A B db .ready none)) :: F)) := by simpa using hs
  have hobj := (hs1.obj (b := l) (List.mem_append_right _ (List.mem_cons_self ..))).1
  refine ⟨fn, (qs.zip vs.toArray).foldl (fun tmps (t, a) => tmps.setIfInBounds t a) tmps, A, B, ?_, ?_⟩
  · simp only [Instr.yield, Sem.run_bind, run_getLoop hobj, Result.andThen_ok]
    have : (#[] ++ vs.toArray : Array Value).size = qs.size := by simpa using hlen.symm
    simp [lrec, hlen.symm]
  · have hz : (qs.zip vs.toArray).foldl (fun tmps (t, a) => tmps.setIfInBounds t a) tmps = (qs.toList.zip vs).foldl (fun tmps (t, a) => tmps.setIfInBounds t a) tmps := by
      rw [← Array.foldl_toList]; simp
    rw [hz]
    refine roundIn_of_wpIn trivial ?_
    refine h (some l) kp od A h1 _ w _ _ (fun l' e => by cases e; exact ⟨_, List.mem_cons_self ..⟩) (bind_agree hqs hlen ha) hs1 ?_
    rintro e a1 w1 Γ1 H1 X ⟨rfl, hb⟩ g1 _ g3 g4
    have g3' : Sat w1 (.obj l (.loop (lrec fn tmps qs A B db .ready none)) :: (H1.flatten ++ (F ++ marks X))) := by
      refine g3.perm ?_
      simp only [List.cons_append]
      exact List.perm_middle
    have hobj1 := (g3'.obj (List.mem_cons_self ..)).1
    obtain ⟨s1, s2⟩ := Sat.setObj (u := .loop (lrec fn tmps qs A B db .busy none)) g3' rfl
    refine ⟨{ w1 with heap := w1.heap.setIfInBounds l (.loop (lrec fn tmps qs A B db .busy none)) }, ?_, ?_⟩
    · have hg := run_getLoop (P := P) hobj1
      simp only [Instr.beginRound, Sem.run_bind, hg, Result.andThen_ok]
      simp [lrec, Go.setObj, Sem.run, hobj1]
    have s3 : Sat { w1 with heap := w1.heap.setIfInBounds l (.loop (lrec fn tmps qs A B db .busy none)) } (H1.flatten ++ (.obj l (.loop (lrec fn tmps qs A B db .busy none)) :: (F ++ marks X))) := s1.perm List.perm_middle.symm
    refine hb (some l) kp od B h2 a1 _ _ _ (fun l' e => by cases e; exact ⟨_, List.mem_cons_self ..⟩) g1 s3 ?_
    intro e a2 w2 Γ2 H2 Y q k1 _ k3 k4
    have k3' : Sat w2 (.obj l (.loop (lrec fn tmps qs A B db .busy none)) :: (H2.flatten ++ F)) := by
      have p : (H2.flatten ++ (.obj l (.loop (lrec fn tmps qs A B db .busy none)) :: (F ++ marks X) ++ marks Y)).Perm ((.obj l (.loop (lrec fn tmps qs A B db .busy none)) :: (H2.flatten ++ F)) ++ (marks X ++ marks Y)) := by
        simp only [List.cons_append, List.append_assoc]
        exact List.perm_middle
      exact (k3.perm p).left
    have hobj2 := (k3'.obj (List.mem_cons_self ..)).1
    have keep := g4.trans (s2.trans k4)
    have fin : ∀ (j : Option Code) (st : LoopState), ∀ (hst : st = if j.isNone then .ready else .done), (Instr.endRound l j).run P w2 = .ok (.bool j.isNone) { w2 with heap := w2.heap.setIfInBounds l (.loop (lrec fn tmps qs A B db st j)) } ∧
        Sat { w2 with heap := w2.heap.setIfInBounds l (.loop (lrec fn tmps qs A B db st j)) } ([H2.flatten ++ [Atom.obj l (.loop (lrec fn tmps qs A B db st j))]].flatten ++ F) ∧ Keeps w { w2 with heap := w2.heap.setIfInBounds l (.loop (lrec fn tmps qs A B db st j)) } := by
      intro j st hst
      obtain ⟨t1, t2⟩ := Sat.setObj (u := .loop (lrec fn tmps qs A B db st j)) k3' rfl
      refine ⟨?_, ?_, keep.trans t2⟩
      · subst hst
        simp only [Instr.endRound, Sem.run_bind, run_getLoop hobj2, Result.andThen_ok, lrec, Go.setObj, Sem.run, hobj2, Sem.run_pure]
      · refine t1.perm ?_
        simp only [List.flatten_cons, List.flatten_nil, List.append_nil, List.append_assoc, List.singleton_append]
        exact List.perm_middle.symm
    cases e with
    | normal =>
      obtain ⟨f1, f2, f3⟩ := fin none .ready rfl
      exact ⟨_, _, f1, _, _, rfl, .inl ⟨rfl, _, q, rfl⟩, f2, f3⟩
    | ret =>
      obtain ⟨f1, f2, f3⟩ := fin (some .ret) .done rfl
      exact ⟨_, _, f1, _, _, rfl, .inr ⟨rfl, _, .inl ⟨q, rfl⟩⟩, f2, f3⟩
    | exit id =>
      obtain ⟨f1, f2, f3⟩ := fin (some (.exit id)) .done rfl
      exact ⟨_, _, f1, _, _, rfl, .inr ⟨rfl, _, .inr ⟨id, q, rfl⟩⟩, f2, f3⟩
    | goto _ => exact q.elim
    | panic _ => exact q.elim
    | outgrown => exact q.elim
theorem enter_spec {fnid : FuncId} {tmps : Array Value} {qs : Array Tmp} {A B : Code} {ρ : Option Nat} {w : World} {L F : List Atom} (hr : Rnd ρ F) (hsat : Sat w (L ++ F)) :
    ∃ (l db : Nat) (X : List Nat) (w1 : World), (Instr.enterLoop fnid tmps qs A B ρ).run P w = .ok (l, X.map coll) w1 ∧
      Sat w1 (.obj l (.loop (lrec fnid tmps qs A B db .ready none)) :: (L ++ (F ++ marks X))) ∧ Keeps w w1 := by
  cases ρ with
  | none =>
    obtain ⟨s1, s2⟩ := hsat.newObj (.deferred (some [])) rfl
    obtain ⟨s3, s4⟩ := s1.newObj (.loop (lrec fnid tmps qs A B w.heap.size .ready none)) rfl
    refine ⟨(w.heap.push (.deferred (some []))).size, w.heap.size, [w.heap.size], _, ?_, s3.perm ?_, s2.trans s4⟩
    · simp [Instr.enterLoop, Go.newObj, Sem.run, lrec, coll]; rfl
    · refine List.Perm.cons _ ?_
      simp only [marks, List.map_cons, List.map_nil]
      rw [← List.append_assoc]
      exact (List.perm_append_singleton _ _).symm
  | some l0 =>
    obtain ⟨r, hr0⟩ := hr l0 rfl
    have ho := (hsat.obj (List.mem_append_right _ hr0)).1
    obtain ⟨s3, s4⟩ := hsat.newObj (.loop (lrec fnid tmps qs A B r.defers .ready none)) rfl
    refine ⟨w.heap.size, r.defers, [], _, ?_, ?_, s4⟩
    · simp [Instr.enterLoop, run_getLoop ho, Go.newObj, Sem.run, lrec]
    · simpa [marks] using s3
theorem end_spec {fnid : FuncId} {tmps : Array Value} {qs : Array Tmp} {A B : Code} {db l : Nat} {st : LoopState} {pe : Option Code} {w : World} {L F : List Atom} (hst : st ≠ .busy)
    (hs : Sat w (L ++ [.obj l (.loop (lrec fnid tmps qs A B db st pe))] ++ F)) : ∃ w4, (Instr.endLoop l).run P w = .ok pe w4 ∧ Sat w4 (L ++ F) ∧ Keeps w w4 := by
  have hs5 : Sat w (.obj l (.loop (lrec fnid tmps qs A B db st pe)) :: (L ++ F)) := by
    refine hs.perm ?_
    rw [List.append_assoc]
    exact List.perm_middle
  have ho := (hs5.obj (List.mem_cons_self ..)).1
  obtain ⟨t1, t2⟩ := Sat.setObj (u := .loop (lrec fnid tmps qs A B db .exhausted pe)) hs5 rfl
  refine ⟨_, ?_, t1.sub (List.sublist_cons_self ..), t2⟩
  have hgl := run_getLoop (P := P) ho
  have hb : ((lrec fnid tmps qs A B db st pe).state == LoopState.busy) = false := by cases st <;> first | rfl | exact absurd rfl hst
  simp only [Instr.endLoop, Sem.run_bind, hgl, Result.andThen_ok, hb]
  simp [lrec, Go.setObj, Sem.run, ho]
theorem VC.rangef {α : Type} {enc : α → List Value} {g : Operand} {f : Nat} {first cap : Array Value} {ps : List Nat} {asg body : IC} {Pre Post R : SH} {Spec : List α → Prop} (I : List α → List Atom → Prop) (A0 : List Atom) (hg : ev Γ g = some (.func (.func f) first cap))
    (hit : Iter P (.func (.func f) first cap) enc Pre Post Spec) (hs : Spl H Pre R) (h0 : Imp R [A0]) (h1 : I [] A0) (hlen : ∀ x, (enc x).length = ps.length)
    (round : ∀ c x A, OkC Spec (c ++ [x]) → I c A → VC P n asg (bindE ps (enc x) Γ) [A] (fun e Γ' H' => e = .normal ∧ VC P n body Γ' H' (fun e _ H'' => match e with | .normal => ∃ A', I (c ++ [x]) A' ∧ Imp H'' [A'] | .ret => Q .ret Γ (Post ++ H'') | .exit id => Q (.exit id) Γ (Post ++ H'') | _ => False)))
    (done : ∀ full A, Spec full → I full A → Q .normal Γ (Post ++ [A])) : VC P n (.rangef g ps asg body) Γ H Q := by
  intro ρ kp od code hl a w F QQ hr ha hsat hh
  obtain ⟨qs, A, B, rfl, rfl, hlt, h1', h2⟩ := lowC_inv hl
  refine wpIn_rangeFunc (fun fnid _ => ?_)
  obtain ⟨l, db, X, w1, he, hs1, hk1⟩ := enter_spec (P := P) (fnid := fnid) (tmps := a.tmps) (qs := qs) (A := A) (B := B) hr hsat
  have hyield := hit (.func (.yield l) #[] #[]) (fun c A' => ∃ A1, I c A1 ∧ A' = A1 ++ [.obj l (.loop (lrec fnid a.tmps qs A B db .ready none))])
    (fun c B' => ∃ H'', (Q .ret Γ (Post ++ H'') ∧ B' = H''.flatten ++ [.obj l (.loop (lrec fnid a.tmps qs A B db .done (some .ret)))]) ∨ (∃ id, Q (.exit id) Γ (Post ++ H'') ∧ B' = H''.flatten ++ [.obj l (.loop (lrec fnid a.tmps qs A B db .done (some (.exit id))))]))
    (fun c x A' hc hA => by
      obtain ⟨A1, hI, rfl⟩ := hA
      have hx := round_spec (P := P) (n := n) (Γ := Γ) (fn := fnid) (tmps := a.tmps) (db := db) (l := l) (vs := enc x) (I := A1) (Qb := fun e H'' => match e with | .normal => ∃ A', I (c ++ [x]) A' ∧ Imp H'' [A'] | .ret => Q .ret Γ (Post ++ H'') | .exit id => Q (.exit id) Γ (Post ++ H'') | _ => False)
        hlt (hlen x).symm ⟨ha.size, ha.slots⟩ h1' h2 ((round c x A1 hc hI).mono (fun e Γ' H' ⟨q1, q2⟩ => ⟨q1, q2.mono (fun e _ H'' q => by cases e <;> exact q)⟩))
      refine hx.conv (R := []) (by simp [Spl]) ?_
      rintro v Bk (⟨rfl, H'', ⟨A2, hI2, q⟩, rfl⟩ | ⟨rfl, H'', q⟩)
      · refine ⟨_, .inl ⟨rfl, _, ⟨A2, hI2, rfl⟩, rfl⟩, ?_⟩
        obtain ⟨R', hR'⟩ := q
        refine ⟨R', ?_⟩
        simp only [Spl, List.flatten_cons, List.flatten_nil, List.append_nil] at hR' ⊢
        rw [List.append_assoc]
        refine (List.Perm.append_right _ hR').trans ?_
        rw [List.append_assoc]
        exact List.Perm.append_left _ List.perm_append_comm
      · rcases q with ⟨q, rfl⟩ | ⟨id, q, rfl⟩
        · exact ⟨_, .inr ⟨rfl, _, ⟨H'', .inl ⟨q, rfl⟩⟩, rfl⟩, by rw [List.append_nil]; exact Imp.refl _⟩
        · exact ⟨_, .inr ⟨rfl, _, ⟨H'', .inr ⟨id, q, rfl⟩⟩, rfl⟩, by rw [List.append_nil]; exact Imp.refl _⟩)
    _ ⟨A0, h1, rfl⟩
  have hs2 : Sat w1 ((Pre ++ [A0 ++ [Atom.obj l (.loop (lrec fnid a.tmps qs A B db .ready none))]]).flatten ++ (F ++ marks X)) := by
    have p1 : (Atom.obj l (.loop (lrec fnid a.tmps qs A B db .ready none)) :: (H.flatten ++ (F ++ marks X))).Perm (R.flatten ++ (Pre.flatten ++ (Atom.obj l (.loop (lrec fnid a.tmps qs A B db .ready none)) :: (F ++ marks X)))) := by
      refine List.perm_middle.symm.trans ?_
      refine (List.Perm.append_right _ hs).trans ?_
      rw [List.append_assoc]
      exact perm_lead _ _ _
    have h3 := (hs1.perm p1).imp h0
    refine h3.perm ?_
    simp only [List.flatten_append, List.flatten_cons, List.flatten_nil, List.append_nil, List.append_assoc, List.singleton_append]
    exact perm_lead _ _ _
  have hcall := hyield (F ++ marks X) w1 hs2
  obtain ⟨hcallable, hcalls⟩ := hcall
  refine ⟨l, X.map coll, w1, { target := .fn (.func f) cap, args := first ++ [Value.func (.yield l) #[] #[]].toArray }, w1, f, first ++ [Value.func (.yield l) #[] #[]].toArray ++ cap, w1, he, ?_, fun _ _ => trivial, ?_, ?_, ?_⟩
  · have hev : a.eval g = .func (.func f) first cap := ha.ev hg
    simp only [resolve, hev, Deferred.ofValue]
    simp [Act.eval]
  · simp only [invoke]
    rw [run_callFunc hcallable]
  · intro h; simp at h
  refine callsIn_v (hcalls.mono ?_)
  · rintro e w3 ⟨v, Pst, rfl, ⟨rfl, hp⟩, hs3, hk3⟩
    have ha' : Agree n Γ { a with defers := X.map coll ++ a.defers } := ⟨ha.size, ha.slots⟩
    rcases hp with ⟨full, _, hf, ⟨A1, hI, rfl⟩, rfl⟩ | ⟨c, B', _, ⟨H'', hj⟩, rfl⟩
    · obtain ⟨w4, e1, e2, e3'⟩ := end_spec (P := P) (L := Post.flatten ++ A1) (st := .ready) (pe := none) (by simp) (by simpa [List.append_assoc] using hs3)
      have e3 := hk1.trans (hk3.trans e3')
      exact ⟨none, w4, e1, hh _ _ _ _ _ X (done full A1 hf hI) ha' rfl (by simpa using e2) e3⟩
    · rcases hj with ⟨q, rfl⟩ | ⟨id, q, rfl⟩
      · obtain ⟨w4, e1, e2, e3'⟩ := end_spec (P := P) (L := Post.flatten ++ H''.flatten) (st := .done) (pe := some .ret) (by simp) (by simpa [List.append_assoc] using hs3)
        have e3 := hk1.trans (hk3.trans e3')
        exact ⟨_, w4, e1, wpIn_ret (hh _ _ _ _ _ X q ha' rfl (by simpa using e2) e3)⟩
      · obtain ⟨w4, e1, e2, e3'⟩ := end_spec (P := P) (L := Post.flatten ++ H''.flatten) (st := .done) (pe := some (.exit id)) (by simp) (by simpa [List.append_assoc] using hs3)
        have e3 := hk1.trans (hk3.trans e3')
        exact ⟨_, w4, e1, wpIn_exit (hh _ _ _ _ _ X q ha' rfl (by simpa using e2) e3)⟩
end
end Go.V
namespace Go.V
open Go
def upd {α : Type} (f : Int → α) (i : Int) (v : α) : Int → α := fun k => if k = i then v else f k
abbrev swp {α : Type} (f : Int → α) (i j : Int) : Int → α := upd (upd f i (f j)) j (f i)
theorem swp_at {α : Type} (f : Int → α) (i j k : Int) : swp f i j k = if k = j then f i else if k = i then f j else f k := by simp only [swp, upd]
inductive Sw {α : Type} (a b : Int) (f : Int → α) : (Int → α) → Prop where
  | refl : Sw a b f f
  | step {g : Int → α} {i j : Int} : Sw a b f g → a ≤ i ∧ i < b → a ≤ j ∧ j < b → Sw a b f (swp g i j)
theorem Sw.trans {α : Type} {a b : Int} {f g h : Int → α} (h1 : Sw a b f g) (h2 : Sw a b g h) : Sw a b f h := by
  induction h2 with
  | refl => exact h1
  | step _ hi hj ih => exact ih.step hi hj
theorem Sw.wide {α : Type} {a b c d : Int} {f g : Int → α} (h : Sw a b f g) (h1 : c ≤ a) (h2 : b ≤ d) : Sw c d f g := by
  induction h with
  | refl => exact .refl
  | step _ hi hj ih => exact ih.step (by omega) (by omega)
theorem Sw.out {α : Type} {a b : Int} {f g : Int → α} (h : Sw a b f g) {k : Int} (hk : k < a ∨ b ≤ k) : g k = f k := by
  induction h with
  | refl => rfl
  | step _ hi hj ih => rw [swp_at, if_neg (by omega), if_neg (by omega), ih]
theorem Sw.from {α : Type} {a b : Int} {f g : Int → α} (h : Sw a b f g) : ∀ {k : Int}, a ≤ k → k < b → ∃ m, a ≤ m ∧ m < b ∧ g k = f m := by
  induction h with
  | refl => intro k h1 h2; exact ⟨k, h1, h2, rfl⟩
  | step _ hi hj ih =>
    intro k h1 h2
    rw [swp_at]
    split
    · exact ih hi.1 hi.2
    · split
      · exact ih hj.1 hj.2
      · exact ih h1 h2
def Inj {α : Type} (n : Int) (f : Int → α) : Prop := ∀ i j, 0 ≤ i → i < n → 0 ≤ j → j < n → f i = f j → i = j
theorem Inj.swp {α : Type} {n : Int} {f : Int → α} (h : Inj n f) {i j : Int} (hi : 0 ≤ i ∧ i < n) (hj : 0 ≤ j ∧ j < n) : Inj n (swp f i j) := by
  intro x y x0 x1 y0 y1 e
  rw [swp_at, swp_at] at e
  by_cases a1 : x = j <;> by_cases a2 : y = j <;> by_cases a3 : x = i <;> by_cases a4 : y = i <;> simp only [a1, a2, a3, a4, if_true, if_false] at e <;>
    first
      | omega
      | (have := h _ _ (by omega) (by omega) (by omega) (by omega) e; omega)
      | (subst a1; subst a2; omega)
      | skip
  all_goals (repeat' split at e)
  all_goals first
    | omega
    | (have := h _ _ (by omega) (by omega) (by omega) (by omega) e; omega)
theorem Inj.sw {α : Type} {n a b : Int} {f g : Int → α} (h : Inj n f) (hs : Sw a b f g) (ha : 0 ≤ a) (hb : b ≤ n) : Inj n g := by
  induction hs with
  | refl => exact h
  | step _ hi hj ih => exact ih.swp (by omega) (by omega)
structure LtOk {α : Type} (lt : α → α → Bool) : Prop where
  asymm : ∀ x y, lt x y = true → lt y x = false
  le_trans : ∀ x y z, lt y x = false → lt z y = false → lt z x = false
  eq : ∀ x y, lt x y = false → lt y x = false → x = y
def Srt {α : Type} (lt : α → α → Bool) (a b : Int) (f : Int → α) : Prop := ∀ p q, a ≤ p → p < q → q < b → lt (f q) (f p) = false
section
variable {P : Program} {n : Nat} {rs : List RO} {Γ : Env} {H R : SH} {Z : List PanicEntry → Env → SH → Prop} {K : Env → SH → Prop} {d : Option Nat} {α : Type} {e : α → Value} {N b o : Nat} {f : Int → α}
end
section
variable {α : Type} {lt : α → α → Bool}
def InsI (lt : α → α → Bool) (a i j : Int) (f : Int → α) : Prop := ∀ p q, a ≤ p → p < q → q ≤ i → q ≠ j → lt (f q) (f p) = false
theorem InsI.first {a i : Int} {f : Int → α} (h : InsI lt a i a f) : Srt lt a (i + 1) f := fun p q h1 h2 h3 => h p q h1 h2 (by omega) (by omega)
theorem InsI.stop (ok : LtOk lt) {a i j : Int} {f : Int → α} (h : InsI lt a i j f) (hl : lt (f j) (f (j - 1)) = false) (hj : j ≤ i) : Srt lt a (i + 1) f := by
  intro p q h1 h2 h3
  by_cases e : q = j
  · subst e
    by_cases e2 : p = q - 1
    · subst e2; exact hl
    · exact ok.le_trans _ _ _ (h p (q - 1) h1 (by omega) (by omega) (by omega)) hl
  · exact h p q h1 h2 (by omega) e
theorem InsI.swap (ok : LtOk lt) {a i j : Int} {f : Int → α} (h : InsI lt a i j f) (hl : lt (f j) (f (j - 1)) = true) (ha : a < j) (hj : j ≤ i) : InsI lt a i (j - 1) (swp f j (j - 1)) := by
  intro p q h1 h2 h3 h4
  rw [swp_at, swp_at]
  by_cases q1 : q = j
  · subst q1
    rw [if_neg h4, if_pos rfl]
    by_cases p1 : p = q - 1
    · subst p1; rw [if_pos rfl]; exact ok.asymm _ _ hl
    · rw [if_neg p1, if_neg (by omega)]; exact h p (q - 1) h1 (by omega) (by omega) (by omega)
  · rw [if_neg h4, if_neg q1]
    by_cases p1 : p = j - 1
    · subst p1; rw [if_pos rfl]; exact h j q (by omega) (by omega) h3 q1
    · rw [if_neg p1]
      by_cases p2 : p = j
      · subst p2; rw [if_pos rfl]; exact h (p - 1) q (by omega) (by omega) h3 q1
      · rw [if_neg p2]; exact h p q h1 h2 h3 q1
end
section
variable {α : Type} {lt : α → α → Bool}
def Kid (r c : Int) : Prop := c = 2 * r + 1 ∨ c = 2 * r + 2
def Hp (lt : α → α → Bool) (s lo hi : Int) (f : Int → α) : Prop := ∀ r c, lo ≤ r → Kid r c → c < hi → lt (f (s + r)) (f (s + c)) = false
def HpX (lt : α → α → Bool) (s lo hi x : Int) (f : Int → α) : Prop :=
  (∀ r c, lo ≤ r → Kid r c → c < hi → r ≠ x → lt (f (s + r)) (f (s + c)) = false) ∧ (∀ r c, lo ≤ r → Kid r x → Kid x c → c < hi → lt (f (s + r)) (f (s + c)) = false)
theorem LtOk.refl (ok : LtOk lt) (x : α) : lt x x = false := by
  cases h : lt x x with
  | false => rfl
  | true => exact (ok.asymm x x h).symm.trans h |>.symm ▸ rfl
theorem HpX.none {s lo hi x : Int} {f : Int → α} (h : HpX lt s lo hi x f) (hx : hi ≤ 2 * x + 1) : Hp lt s lo hi f := by
  intro r c h1 h2 h3
  by_cases e : r = x
  · subst e; unfold Kid at h2; omega
  · exact h.1 r c h1 h2 h3 e
theorem HpX.stop (ok : LtOk lt) {s lo hi x m : Int} {f : Int → α} (h : HpX lt s lo hi x f) (hmax : ∀ c, Kid x c → c < hi → lt (f (s + m)) (f (s + c)) = false) (hl : lt (f (s + x)) (f (s + m)) = false) : Hp lt s lo hi f := by
  intro r c h1 h2 h3
  by_cases e : r = x
  · subst e; exact ok.le_trans _ _ _ (hmax c h2 h3) hl
  · exact h.1 r c h1 h2 h3 e
theorem Hp.none {s lo hi : Int} {f : Int → α} (h : hi ≤ 2 * lo + 1) : Hp lt s lo hi f := fun r c h1 h2 h3 => by unfold Kid at h2; omega
end
section
variable {α : Type} {lt : α → α → Bool}
def Lo (lt : α → α → Bool) (a z : Int) (f : Int → α) : Prop := 0 < a → ∀ k, a ≤ k → k < z → lt (f k) (f (a - 1)) = false
theorem Lo.sw {a z : Int} {f g : Int → α} (h : Lo lt a z f) (hs : Sw a z f g) : Lo lt a z g := by
  intro h0 k h1 h2
  obtain ⟨m, m1, m2, m3⟩ := hs.from h1 h2
  rw [m3, hs.out (k := a - 1) (by omega)]
  exact h h0 m m1 m2
structure PI (lt : α → α → Bool) (a z i j : Int) (p : α) (g : Int → α) : Prop where
  piv : g a = p
  less : ∀ k, a < k → k < i → lt (g k) p = true
  more : ∀ k, j < k → k < z → lt (g k) p = false
  lo : a + 1 ≤ i
  mid : i ≤ j + 1
  hi : j < z
theorem PI.swap {a z i j : Int} {p : α} {g : Int → α} (h : PI lt a z i j p g) (hij : i ≤ j) (h1 : lt (g i) p = false) (h2 : lt (g j) p = true) : PI lt a z (i + 1) (j - 1) p (swp g i j) := by
  have hne : i ≠ j := fun e => by subst e; rw [h1] at h2; cases h2
  have l1 := h.lo
  have l2 := h.hi
  refine ⟨?_, fun k k1 k2 => ?_, fun k k1 k2 => ?_, by omega, by omega, by omega⟩
  · rw [swp_at, if_neg (by omega), if_neg (by omega)]; exact h.piv
  · rw [swp_at, if_neg (by omega)]
    by_cases e : k = i
    · rw [if_pos e]; exact h2
    · rw [if_neg e]; exact h.less k k1 (by omega)
  · rw [swp_at]
    by_cases e : k = j
    · rw [if_pos e]; exact h1
    · rw [if_neg e, if_neg (by omega)]; exact h.more k (by omega) k2
def Parted (lt : α → α → Bool) (a z m : Int) (g : Int → α) : Prop := (∀ k, a ≤ k → k < m → lt (g k) (g m) = true) ∧ (∀ k, m < k → k < z → lt (g k) (g m) = false)
theorem PI.done {a z j : Int} {p : α} {g : Int → α} (h : PI lt a z (j + 1) j p g) : Parted lt a z j (swp g j a) := by
  have l1 := h.lo
  have hp : swp g j a j = p := by
    rw [swp_at]
    by_cases e : j = a
    · rw [if_pos e, e]; exact h.piv
    · rw [if_neg e, if_pos rfl]; exact h.piv
  refine ⟨fun k k1 k2 => ?_, fun k k1 k2 => ?_⟩
  · rw [hp, swp_at]
    by_cases e : k = a
    · rw [if_pos e]; exact h.less j (by omega) (by omega)
    · rw [if_neg e, if_neg (by omega)]; exact h.less k (by omega) (by omega)
  · rw [hp, swp_at, if_neg (by omega), if_neg (by omega)]; exact h.more k k1 k2
end
section
variable {α : Type} {lt : α → α → Bool}
def But (lt : α → α → Bool) (a z x y : Int) (f : Int → α) : Prop := ∀ p q, a ≤ p → p < q → q < z → ¬ (x ≤ p ∧ q < y) → lt (f q) (f p) = false
theorem But.sw {a z x y : Int} {f g : Int → α} (h : But lt a z x y f) (hs : Sw x y f g) (ha : a ≤ x) (hz : y ≤ z) : But lt a z x y g := by
  intro p q h1 h2 h3 h4
  by_cases hp : x ≤ p ∧ p < y
  · obtain ⟨m, m1, m2, m3⟩ := hs.from hp.1 hp.2
    rw [m3, hs.out (k := q) (by omega)]
    exact h m q (by omega) (by omega) h3 (by omega)
  · by_cases hq : x ≤ q ∧ q < y
    · obtain ⟨m, m1, m2, m3⟩ := hs.from hq.1 hq.2
      rw [m3, hs.out (k := p) (by omega)]
      exact h p m h1 (by omega) (by omega) (by omega)
    · rw [hs.out (k := p) (by omega), hs.out (k := q) (by omega)]
      exact h p q h1 h2 h3 h4
theorem But.done {a z x y : Int} {f : Int → α} (h : But lt a z x y f) (hs : Srt lt x y f) : Srt lt a z f := by
  intro p q h1 h2 h3
  by_cases e : x ≤ p ∧ q < y
  · exact hs p q e.1 h2 e.2
  · exact h p q h1 h2 h3 e
theorem But.lo {a z x y : Int} {f : Int → α} (h : But lt a z x y f) (hl : Lo lt a z f) (ha : a ≤ x) (hz : y ≤ z) : Lo lt x y f := by
  intro h0 k h1 h2
  by_cases e : x = a
  · subst e; exact hl h0 k h1 (by omega)
  · exact h (x - 1) k (by omega) (by omega) (by omega) (by omega)
theorem But.left (ok : LtOk lt) {a z x y m : Int} {f g : Int → α} (h : But lt a z x y f) (hp : Parted lt x y m f) (hm : x ≤ m ∧ m < y) (ha : a ≤ x) (hz : y ≤ z) (hs : Sw x m f g) (hg : Srt lt x m g) : But lt a z (m + 1) y g := by
  have h' := h.sw (hs.wide (Int.le_refl _) (by omega : m ≤ y)) ha hz
  have gm : g m = f m := hs.out (by omega)
  intro p q h1 h2 h3 h4
  by_cases e : x ≤ p ∧ q < y
  · -- both within: one of them is not behind m
    by_cases hq : q < m
    · exact hg p q e.1 h2 hq
    · by_cases hpm : p < m
      · obtain ⟨k, k1, k2, k3⟩ := hs.from e.1 hpm
        have a1 : lt (g p) (g m) = true := by rw [k3, gm]; exact hp.1 k k1 k2
        have a2 := ok.asymm _ _ a1
        by_cases e2 : q = m
        · subst e2; exact a2
        · have a3 : lt (g q) (g m) = false := by rw [hs.out (k := q) (by omega), gm]; exact hp.2 q (by omega) (by omega)
          exact ok.le_trans _ _ _ a2 a3
      · have e2 : p = m := by omega
        subst e2
        rw [hs.out (k := q) (by omega), gm]
        exact hp.2 q (by omega) (by omega)
  · exact h' p q h1 h2 h3 e
theorem But.right (ok : LtOk lt) {a z x y m : Int} {f g : Int → α} (h : But lt a z x y f) (hp : Parted lt x y m f) (hm : x ≤ m ∧ m < y) (ha : a ≤ x) (hz : y ≤ z) (hs : Sw (m + 1) y f g) (hg : Srt lt (m + 1) y g) : But lt a z x m g := by
  have h' := h.sw (hs.wide (by omega : x ≤ m + 1) (Int.le_refl _)) ha hz
  have gm : g m = f m := hs.out (by omega)
  intro p q h1 h2 h3 h4
  by_cases e : x ≤ p ∧ q < y
  · by_cases hpm : m + 1 ≤ p
    · exact hg p q hpm h2 e.2
    · have a2 : lt (g m) (g p) = false := by
        by_cases e2 : p = m
        · subst e2; exact ok.refl _
        · rw [hs.out (k := p) (by omega), gm]; exact ok.asymm _ _ (hp.1 p (by omega) (by omega))
      by_cases e2 : q = m
      · subst e2; exact a2
      · obtain ⟨k, k1, k2, k3⟩ := hs.from (k := q) (by omega) (by omega)
        have a3 : lt (g q) (g m) = false := by rw [k3, gm]; exact hp.2 k (by omega) k2
        exact ok.le_trans _ _ _ a2 a3
  · exact h' p q h1 h2 h3 e
end
section
variable {α : Type}
def listOf (n : Nat) (f : Int → α) : List α := (List.range n).map fun i : Nat => f i
theorem listOf_get {n : Nat} {f : Int → α} {i : Nat} (h : i < n) : (listOf n f)[i]? = some (f i) := by simp [listOf, List.getElem?_range h]
theorem listOf_length {n : Nat} {f : Int → α} : (listOf n f).length = n := by simp [listOf]
theorem listOf_upd {n : Nat} {f : Int → α} {m : Int} {v : α} (h : 0 ≤ m ∧ m < n) : listOf n (upd f m v) = (listOf n f).set m.toNat v := by
  apply List.ext_getElem?
  intro i
  rw [List.getElem?_set]
  by_cases hi : i < n
  · rw [listOf_get hi, listOf_get hi, listOf_length]
    simp only [upd]
    by_cases e : m.toNat = i
    · rw [if_pos e, if_pos (by omega), if_pos (by omega)]
    · rw [if_neg e, if_neg (by omega)]
  · have h1 : (listOf n (upd f m v))[i]? = none := List.getElem?_eq_none (by rw [listOf_length]; omega)
    have h2 : (listOf n f)[i]? = none := List.getElem?_eq_none (by rw [listOf_length]; omega)
    rw [h1, h2, listOf_length, if_neg (show ¬ (m.toNat = i) by omega)]
theorem listOf_swp {n : Nat} {f : Int → α} {i j : Int} (hi : 0 ≤ i ∧ i < n) (hj : 0 ≤ j ∧ j < n) : (listOf n (swp f i j)).Perm (listOf n f) := by
  have hl : (listOf n f).length = n := listOf_length
  have h1 : (listOf n f)[i.toNat]'(by omega) = f i := by
    have := listOf_get (f := f) (n := n) (i := i.toNat) (by omega)
    rw [List.getElem?_eq_getElem (by omega)] at this
    rw [Option.some.inj this, Int.toNat_of_nonneg hi.1]
  have h2 : (listOf n f)[j.toNat]'(by omega) = f j := by
    have := listOf_get (f := f) (n := n) (i := j.toNat) (by omega)
    rw [List.getElem?_eq_getElem (by omega)] at this
    rw [Option.some.inj this, Int.toNat_of_nonneg hj.1]
  show (listOf n (upd (upd f i (f j)) j (f i))).Perm _
  rw [listOf_upd hj, listOf_upd hi, ← h1, ← h2]
  exact List.set_set_perm (by omega) (by omega)
theorem Sw.perm {n : Nat} {a z : Int} {f g : Int → α} (h : Sw a z f g) (ha : 0 ≤ a) (hz : z ≤ n) : (listOf n g).Perm (listOf n f) := by
  induction h with
  | refl => exact .refl _
  | step _ hi hj ih => exact (listOf_swp (by omega) (by omega)).trans ih
end
theorem mapOf_keys {κ β : Type} [DecidableEq κ] {E : KEnc κ} {V : β → Value} : ∀ {es : List MapEntry} {m : List (κ × β)}, MapOf E V es m → es.map (·.key) = m.map (fun p => E.enc p.1) := by
  intro es m h
  have h' := congrArg (List.map (·.1)) (show es.map (fun e => (e.key, e.val)) = m.map (fun p => (E.enc p.1, V p.2)) from h)
  simpa [List.map_map, Function.comp_def] using h'
theorem key_one {κ β : Type} [DecidableEq κ] {E : KEnc κ} {V : β → Value} {es : Array MapEntry} {c : Nat} {m : List (κ × β)} (h : MapIs E V es c m) (hk : (m.map (·.1)).Nodup) {e e' : MapEntry} (he : e ∈ es.toList) (he' : e' ∈ es.toList) (hkey : e.key = e'.key) : e.born = e'.born := by
  obtain ⟨i, hi⟩ := List.getElem?_of_mem he
  obtain ⟨j, hj⟩ := List.getElem?_of_mem he'
  have hkeys := mapOf_keys h.of
  have a1 : (m.map (·.1))[i]? = (m.map (·.1))[j]? := by
    have b1 := congrArg (fun l : List Value => l[i]?) hkeys
    have b2 := congrArg (fun l : List Value => l[j]?) hkeys
    simp only [List.getElem?_map, hi, hj, Option.map_some] at b1 b2
    cases hm : m[i]? with
    | none => rw [hm] at b1; cases b1
    | some p =>
      cases hm2 : m[j]? with
      | none => rw [hm2] at b2; cases b2
      | some p2 =>
        rw [hm] at b1; rw [hm2] at b2
        simp only [Option.map_some, Option.some.injEq] at b1 b2
        have := KEnc.inj (E := E) (b1.symm.trans (hkey.trans b2))
        simp [hm, hm2, this]
  have hlen : i < (m.map (·.1)).length := by
    have b1 := congrArg List.length hkeys
    simp only [List.length_map] at b1 ⊢
    have := (List.getElem?_eq_some_iff.1 hi).1
    omega
  have hij : i = j := by
    have hjl : j < (m.map (·.1)).length := by
      rw [List.getElem?_eq_getElem hlen] at a1
      exact (List.getElem?_eq_some_iff.1 a1.symm).1
    rw [List.getElem?_eq_getElem hlen, List.getElem?_eq_getElem hjl] at a1
    have key : ∀ (p q : Nat) (hp : p < (m.map (·.1)).length) (hq : q < (m.map (·.1)).length), (m.map (·.1))[p] = (m.map (·.1))[q] → ¬ p < q := fun p q hp hq e2 hpq => (List.pairwise_iff_getElem.1 hk p q hp hq hpq) e2
    have k1 := key _ _ hlen hjl (Option.some.inj a1)
    have k2 := key _ _ hjl hlen (Option.some.inj a1).symm
    omega
  subst hij
  rw [hi] at hj
  cases hj
  rfl
structure Ch where
  kind : Int
  n : Int
  text : ByteArray
structure De where
  kind : Int
  handle : Int
  text : ByteArray
  to : ByteArray
  n : Int
  err : Int
structure Wr where
  seq : Int
  at_ : Int
  text : ByteArray
  empty : Bool
structure FO where
  now : List UInt8
  base : List UInt8
  writes : List Wr
  nv : Value
  bv : Value
  wv : Value
  ns : List Value
  bs : List Value
  ws : List Value
structure HO where
  blk : Nat
  closed : Bool
  stale : Bool
  file : Option Nat
  mode : Int
  at_ : Int
def chEnc (c : Ch) : List Value := [.int .u8 c.kind, vi c.n, .string c.text]
def deEnc (d : De) : List Value := [.int .u8 d.kind, vi d.handle, .string d.text, .string d.to, vi d.n, vi d.err]
def wrEnc (x : Wr) : List Value := [vi x.seq, vi x.at_, .string x.text, .bool x.empty]
def u8v (c : UInt8) : Value := .int .u8 c.toNat
def pf (f : Option Nat) : Value := .pointer (f.map fun b => ⟨b, 0, none⟩)
def hoEnc (h : HO) : List Value := [.bool h.closed, .bool h.stale, pf h.file, vi h.mode, vi h.at_]
def hoA (h : HO) : List Atom := cellsAt h.blk 0 (hoEnc h)
def foA (p : Nat × FO) : List Atom := cellsAt p.1 0 [p.2.nv, p.2.bv, p.2.wv] ++ (slA p.2.nv (p.2.now.map u8v) p.2.ns ++ (slA p.2.bv (p.2.base.map u8v) p.2.bs ++ slA p.2.wv (p.2.writes.flatMap wrEnc) p.2.ws))
structure WR where
  cv : Value
  choices : List Ch
  csp : List Value
  fm : Nat
  fes : Array MapEntry
  fc : Nat
  names : List (ByteArray × Nat)
  objs : List (Nat × FO)
  hv : Value
  hs : List HO
  hsp : List Value
  tv : Value
  trace : List De
  tsp : List Value
  clock : Int
  seq : Int
  dead : Bool
abbrev hdr (w : WR) : List Value := [w.cv, .map (some w.fm), w.hv, w.tv, vi w.clock, vi w.seq, .bool w.dead]
abbrev WMem (t : Nat) (w : WR) : SH :=
  [cellsAt t 0 [w.cv, .map (some w.fm), w.hv, w.tv, vi w.clock, vi w.seq, .bool w.dead], slA w.cv (w.choices.flatMap chEnc) w.csp, [.obj w.fm (.map w.fes w.fc)], w.objs.flatMap foA, slA w.hv (w.hs.map fun h => ptr0 h.blk) w.hsp, w.hs.flatMap hoA, slA w.tv (w.trace.flatMap deEnc) w.tsp]
structure FOk (f : FO) (M : Nat) : Prop where
  now : IsSl 1 f.nv f.now.length (f.now.map u8v) f.ns
  base : IsSl 1 f.bv f.base.length (f.base.map u8v) f.bs
  wr : IsSl 4 f.wv f.writes.length (f.writes.flatMap wrEnc) f.ws
  len : f.now.length ≤ 4194304
  len2 : f.base.length ≤ 4194304
  many : f.writes.length ≤ M
  at_ : ∀ x ∈ f.writes, 0 ≤ x.at_ ∧ x.at_ + x.text.size ≤ 4194304
structure WOk (w : WR) (M : Nat) : Prop where
  ch : IsSl 3 w.cv w.choices.length (w.choices.flatMap chEnc) w.csp
  fm : MapIs kStr (fun b : Nat => ptr0 b) w.fes w.fc w.names
  keys : (w.names.map (·.1)).Nodup
  blks : (w.objs.map (·.1)).Nodup
  named : ∀ p ∈ w.names, p.2 ∈ w.objs.map (·.1)
  fo : ∀ p ∈ w.objs, FOk p.2 M
  hv : IsSl 1 w.hv w.hs.length (w.hs.map fun h => ptr0 h.blk) w.hsp
  hfile : ∀ h ∈ w.hs, ∀ b, h.file = some b → b ∈ w.objs.map (·.1)
  hat : ∀ h ∈ w.hs, 0 ≤ h.at_ ∧ h.at_ ≤ 4194304
  hmany : w.hs.length ≤ M
  tr : IsSl 6 w.tv w.trace.length (w.trace.flatMap deEnc) w.tsp
  trmany : w.trace.length ≤ M
  seq : 0 ≤ w.seq ∧ w.seq ≤ M
  clock : 0 ≤ w.clock ∧ w.clock ≤ 1000000000000000000
  files : w.names.length ≤ 1073741823
  chmany : w.choices.length ≤ 65536
def anyE (hs : List HO) (n : Int) : Int := match (if 1 ≤ n then hs[(n - 1).toNat]? else none) with | some h => if h.closed then 30 else 0 | none => 30
def heldE (hs : List HO) (n : Int) (host : Bool) : Int := match (if 1 ≤ n then hs[(n - 1).toNat]? else none) with
  | some h => if h.closed then 30 else if h.file.isNone != host then 30 else if h.stale then 31 else 0
  | none => 30
def noCh : Ch := ⟨0, 0, ⟨#[]⟩⟩
def takeC (w : WR) : Ch := if w.dead then noCh else w.choices.headD noCh
def takeL (w : WR) : Bool := !(w.dead || decide ((takeC w).kind = 5))
def Taken (w w1 : WR) : Prop := ∃ cv' csp' cs, cs.length ≤ w.choices.length ∧ cs = (if w.dead then w.choices else w.choices.tail) ∧ IsSl 3 cv' cs.length (cs.flatMap chEnc) csp' ∧ w1 = { w with cv := cv', choices := cs, csp := csp', dead := !takeL w }
def AllVO (K : List RO → Prop) : List (List RO) → Prop
  | [] => True
  | rs :: r => K rs ∧ AllVO K r
theorem AllVO.mem {K : List RO → Prop} : ∀ {rss : List (List RO)}, AllVO K rss → ∀ rs ∈ rss, K rs := by
  intro rss
  induction rss with
  | nil => intro _ rs h; cases h
  | cons a r ih =>
    intro h rs hm
    rcases List.mem_cons.1 hm with rfl | hm
    · exact h.1
    · exact ih h.2 rs hm
section
variable {P : Program} {n : Nat} {rs : List RO} {Γ : Env} {H : SH} {Z : List PanicEntry → Env → SH → Prop} {K : Env → SH → Prop} {d : Option Nat}
end
def qm (d a : Nat) : RO := ⟨some d, none, .mv (.tmp a)⟩
def qk (d : Nat) (v : Int) : RO := ⟨some d, none, .mv (.const (.int .i64 v))⟩
def qz (d : Nat) (b : Bool) : RO := ⟨some d, none, .mv (.const (.bool b))⟩
def qo (d : Nat) (r : R) : RO := ⟨some d, none, r⟩
def ql (d a : Nat) : RO := ⟨some d, none, .load1 (.tmp a)⟩
def qf (d o a : Nat) : RO := ⟨some d, none, .fld o (.tmp a)⟩
def qi (d s a b : Nat) : RO := ⟨some d, none, .idxL s (.tmp a) (.tmp b)⟩
def qb (d : Nat) (o : BinOp) (a b : Nat) : RO := ⟨some d, none, .bin o (.tmp a) (.tmp b)⟩
def qc (d : Nat) (o : BinOp) (a : Nat) (v : Int) : RO := ⟨some d, none, .bin o (.tmp a) (.const (.int .i64 v))⟩
def qn (d a : Nat) : RO := ⟨some d, none, .nilck (.tmp a)⟩
def qs (n a b : Nat) : RO := ⟨none, none, .store n (.tmp a) (.tmp b)⟩
def qp (d c a b : Nat) : RO := ⟨some d, none, .pick (.tmp c) (.tmp a) (.tmp b)⟩
def qa (d c a : Nat) : RO := ⟨some d, none, .pick (.tmp c) (.tmp a) (.const (.bool false))⟩
def qr (d c b : Nat) : RO := ⟨some d, none, .pick (.tmp c) (.const (.bool true)) (.tmp b)⟩
def qe (d a i : Nat) : RO := ⟨some d, none, .ext (.tmp a) i⟩
def tmps : List Nat → List Operand
  | [] => []
  | a :: r => .tmp a :: tmps r
def qx (d f : Nat) (l : List Nat) : RO := ⟨some d, none, .call f (tmps l)⟩
def qL (d a : Nat) : RO := ⟨some d, none, .lenL (.tmp a)⟩
def qN (d n a : Nat) : RO := ⟨some d, none, .loadN n (.tmp a)⟩
def qB (d t a : Nat) : RO := ⟨some d, none, .box t (.tmp a)⟩
def qt (g : Nat) (x : RO) : RO := ⟨x.dst, some (g, true), x.op⟩
def qu (g : Nat) (x : RO) : RO := ⟨x.dst, some (g, false), x.op⟩
def qS (rs : List RO) (k : List Nat) (r : IC) : IC := .seq (.reg rs k) r
def qC (c : Nat) (a b : IC) : IC := .cond (.tmp c) a b
def nthO : List RO → Nat → RO
  | [], _ => default
  | x :: _, 0 => x
  | _ :: r, n + 1 => nthO r n
def ordO (l : List RO) : List Nat → List RO
  | [] => []
  | i :: r => nthO l i :: ordO l r
def ordsO (l : List RO) : List (List Nat) → List (List RO)
  | [] => []
  | p :: r => ordO l p :: ordsO l r
def qD (l : List RO) (ps : List (List Nat)) (k : List Nat) : IC := .draw (ordsO l ps) k
def keepsO : IC → List (List Nat)
  | .skip | .exit _ | .ret | .label _ => []
  | .reg _ k | .draw _ k | .free _ _ k => [k]
  | .seq a b | .cond _ a b | .rangef _ _ a b => keepsO a ++ keepsO b
  | .loop (.seq a (.seq b c)) => keepsO a ++ (keepsO c ++ keepsO b)
  | .block _ b | .loop b | .scope b => keepsO b
def kpO (F : FIR) (i : Nat) : List Nat := (keepsO F.body).getD i []
def laid {X F : FIR} (_h : F = X := by (dsimp only [qm, qk, qz, qo, ql, qf, qi, qb, qc, qn, qs, qp, qa, qr, qe, tmps, qx, qL, qN, qB, qt, qu, qS, qC, nthO, ordO, ordsO, qD] <;> exact rfl)) : FIR := F
theorem IMx {H D : SH} (h : Imp H D := by (first | with_reducible exact Imp.refl | with_reducible exact Imp.left | (focus ((try simp only [List.nil_append]); (repeat (first | exact Imp.nil | (apply Imp.cons; (focus ((repeat (first | with_reducible exact Tk.here | apply Tk.there)); done))))); done)))) : Imp H D := h
theorem SPx {H D R : SH} (h : Spl H D R := by (focus ((repeat (first | exact Spl.nil | (apply Spl.cons; (focus ((repeat (first | with_reducible exact Tk.here | apply Tk.there)); done))))); done))) : Spl H D R := h
theorem CNx {α : Type} : (∀ (a : α) (l r : List α), (a :: l) ++ r = a :: (l ++ r)) ∧ (∀ r : List α, ([] : List α) ++ r = r) := ⟨fun _ _ _ => rfl, fun _ => rfl⟩
def VCz (P : Program) (n : Nat) (c : IC) (Γ : Env) (H : SH) (Q : Exit → Env → SH → Prop) : Prop :=
  ∀ ρ kp od code, lowC P n kp od code = some c → ∀ a w F (QQ : Exit → Act → World → Prop), Agree n Γ a → Sat w (H.flatten ++ F) →
    (∀ e a' w' Γ' H', Q e Γ' H' → Agree n Γ' a' → a'.defers = a.defers → Sat w' (H'.flatten ++ F) → Keeps w w' → QQ e a' w') → code.wpIn (VFc ρ) 0 P QQ a w
section
variable {P : Program} {n : Nat} {Γ : Env} {H : SH} {Q Q' : Exit → Env → SH → Prop}
theorem VCz.mono {c : IC} (h : VCz P n c Γ H Q) (hq : ∀ e Γ H, Q e Γ H → Q' e Γ H) : VCz P n c Γ H Q' := fun ρ kp od code hl a w F QQ ha hs hh =>
  h ρ kp od code hl a w F QQ ha hs (fun e a' w' Γ' H' q => hh e a' w' Γ' H' (hq _ _ _ q))
theorem VCz.skip (h : Q .normal Γ H) : VCz P n .skip Γ H Q := by
  intro ρ kp od code hl a w F QQ ha hs hh
  obtain rfl := lowC_inv hl
  exact wpIn_skip (hh _ _ _ _ _ h ha rfl hs (.refl w))
theorem VCz.ret (h : Q .ret Γ H) : VCz P n .ret Γ H Q := by
  intro ρ kp od code hl a w F QQ ha hs hh
  obtain rfl := lowC_inv hl
  exact wpIn_ret (hh _ _ _ _ _ h ha rfl hs (.refl w))
theorem VCz.cond {c : Operand} {x y : IC} {t : Bool} (hc : ev Γ c = some (.bool t)) (ht : t = true → VCz P n x Γ H Q) (hf : t = false → VCz P n y Γ H Q) : VCz P n (.cond c x y) Γ H Q := by
  intro ρ kp od code hl a w F QQ ha hs hh
  obtain ⟨p, q, rfl, h1, h2⟩ := lowC_inv hl
  exact wpIn_cond_split (ha.ev hc) (fun e => ht e ρ kp od _ h1 a w F QQ ha hs hh) (fun e => hf e ρ kp od _ h2 a w F QQ ha hs hh)
theorem VCz.seq {x y : IC} (h : VCz P n x Γ H (thenQ (fun Γ' H' => VCz P n y Γ' H' Q) Q)) : VCz P n (.seq x y) Γ H Q := by
  intro ρ kp od code hl a w F QQ ha hs hh
  obtain ⟨p, q, rfl, h1, h2⟩ := lowC_inv hl
  refine wpIn_seq (h ρ kp od _ h1 a w F _ ha hs (fun e a' w' Γ' H' q g1 g2 g3 g4 => ?_))
  cases e <;> first
    | exact q ρ kp od _ h2 a' w' F QQ g1 g3 (fun e a2 w2 Γ2 H2 q2 k1 k2 k3 k4 => hh e a2 w2 Γ2 H2 q2 k1 (by rw [k2, g2]) k3 (g4.trans k4))
    | exact hh _ _ _ _ _ q g1 g2 g3 g4
theorem VCz.reg {rs : List RO} {keep : List Nat} (h : VO P n rs Γ H (fun ch Γ' H' => Q (.panic ch) Γ' H') fun Γ' H' => Q .normal (restr keep Γ') H') : VCz P n (.reg rs keep) Γ H Q := by
  intro ρ kp od code hl a w F QQ ha hs hh
  obtain ⟨id, ops, rfl, h1, rfl⟩ := lowC_inv hl
  refine wpIn_region ?_
  refine wpR_sound (P := P) (ρ := ρ) (n := n) (ops := ops) (X := fun i => (rs.zip ops.toList).getD i default) (QQ := QQ) (fun i hi => ?_) (List.range ops.size) a w (fun i hi => by simpa using hi) ?_
  · obtain ⟨g1, g2, g3⟩ := zip_getD h1 hi; exact ⟨g1, g3⟩
  · have hlen := (lowList_length h1).1
    have hmap : (List.range ops.size).map (fun i => (rs.zip ops.toList).getD i default) = rs.zip ops.toList := by
      have hzl : (rs.zip ops.toList).length = ops.size := by simp [hlen]
      apply List.ext_getElem?
      intro i
      simp only [List.getElem?_map]
      by_cases hi : i < ops.size
      · rw [List.getElem?_range hi, Option.map_some]
        rw [List.getD_eq_getElem?_getD]
        have : i < (rs.zip ops.toList).length := by omega
        rw [List.getElem?_eq_getElem this]; rfl
      · rw [List.getElem?_eq_none (l := List.range ops.size) (by simpa using hi), List.getElem?_eq_none (by omega)]; rfl
    rw [hmap]
    refine h (rs.zip ops.toList) ⟨?_, ?_⟩ a w F _ _ ha hs (fun a' w' Γ' H' q g1 g2 g3 g4 => hh .normal a' w' _ H' q (g1.sub (sub_restr _ _)) g2 g3 g4) (fun ch a' w' Γ' H' q g1 g2 g3 g4 => hh (.panic ch) a' w' _ H' q g1 g2 g3 g4)
    · rw [List.map_fst_zip]; simp [hlen]
    · intro x hx
      obtain ⟨i, hi⟩ := List.getElem?_of_mem hx
      have hi2 : i < (rs.zip ops.toList).length := (List.getElem?_eq_some_iff.1 hi).1
      have hi3 : i < ops.size := by simp [hlen] at hi2; omega
      obtain ⟨g1, g2, g3⟩ := zip_getD h1 hi3
      have : (rs.zip ops.toList).getD i default = x := by rw [List.getD_eq_getElem?_getD, hi]; rfl
      rw [this] at g3
      exact ⟨ops, g3⟩
end
def FunD (P : Program) (f : Nat) (args : List Value) (Pre : SH) (Q : Value → SH → Prop) : Prop :=
  callable P f = true ∧ ∀ F w u, Sat w (Pre.flatten ++ F) → CallsDIn (VFc none) 0 P f args.toArray u w fun e u' w' => u' = u ∧ ∃ v Post, e = .returned v ∧ Q v Post ∧ Sat w' (Post.flatten ++ F) ∧ Keeps w w'
theorem FunD.intro {P : Program} {kp : Nat → List Nat} {od : Nat → List (List Nat)} {f : Nat} {F : FIR} {args : List Value} {Pre : SH} {Q : Value → SH → Prop} (hl : lowF P kp od f = some F) (hn : args.length ≤ F.n)
    (h : VCz P F.n F.body (argsEnv 0 args) Pre (endQ F.res Q)) : FunD P f args Pre Q := by
  unfold lowF at hl
  split at hl
  · cases hl
  rename_i fn hfn
  split at hl
  · cases hl
  rename_i c hc
  split at hl
  case isFalse => cases hl
  rename_i hname
  split at hl
  case h_2 => cases hl
  rename_i b r hb hr
  cases hl
  refine ⟨by simp only [callable, hfn, hname, hc]; rfl, fun FF w u hs => ?_⟩
  refine callsDIn_of_wp (R := fun e w' => ∃ v Post, e = .returned v ∧ Q v Post ∧ Sat w' (Post.flatten ++ FF) ∧ Keeps w w') hfn hc trivial (h none kp od c hb _ w FF _ ⟨?_, fun t v e => ?_⟩ hs (fun e a' w' Γ' H' q g1 g2 g3 g4 => ?_))
  · simp at hn ⊢; omega
  · obtain ⟨_, h2⟩ := look_argsEnv e
    simp only [Nat.sub_zero] at h2
    have hlt : t < args.length := (List.getElem?_eq_some_iff.1 h2).1
    simp only [Array.getElem?_append, List.size_toArray, hlt, if_true]
    simpa using h2
  · obtain ⟨he, vs, Post, h1, h2, h3⟩ := q
    have hb : a'.defers = [] ∧ ∃ v, (results fn a'.tmps).run P w' = .ok v w' ∧ (∃ v' Post, (Ending.returned v) = .returned v' ∧ Q v' Post ∧ Sat w' (Post.flatten ++ FF) ∧ Keeps w w') :=
      ⟨g2, _, run_results g3 hr g1 h1, _, Post, rfl, h3, g3.imp h2, g4⟩
    rcases he with rfl | rfl <;> exact hb
theorem FunD.mono {P : Program} {f : Nat} {args : List Value} {Pre : SH} {Q Q' : Value → SH → Prop} (h : FunD P f args Pre Q) (hq : ∀ v Post, Q v Post → Q' v Post) : FunD P f args Pre Q' :=
  ⟨h.1, fun F w u hs => (h.2 F w u hs).mono fun _ _ _ ⟨hu, v, Post, a, b, c⟩ => ⟨hu, v, Post, a, hq _ _ b, c⟩⟩
structure DR where
  d : Nat
  g : Nat
  caps : List Operand
def lowDef (P : Program) (n : Nat) : Code → Option DR
  | .region _ ops false => match ops.toList with
    | [o1, o2] => match lowRO P n ops o1, o2.op with
      | some ⟨some d, none, .clos (.func g) [] caps⟩, .defer c => match c.callee with
        | .value (.tmp d') => if d' = d ∧ c.args.size = 0 ∧ o2.guard.isNone = true ∧ o2.dst.isNone = true then some ⟨d, g, caps⟩ else none
        | _ => none
      | _, _ => none
    | _ => none
  | _ => none
structure DIR where
  n : Nat
  res : List RV
  pre : List IC
  dr : DR
  post : IC
def lowD (P : Program) (n : Nat) (kp : Nat → List Nat) (od : Nat → List (List Nat)) : Code → Option (List IC × DR × IC)
  | .seq a b => match lowDef P n a with
    | some x => (lowC P n kp od b).map fun y => ([], x, y)
    | none => match lowC P n kp od a, lowD P n kp od b with
      | some x, some (l, d, y) => some (x :: l, d, y)
      | _, _ => none
  | _ => none
def lowFD (P : Program) (kp : Nat → List Nat) (od : Nat → List (List Nat)) (f : Nat) : Option DIR :=
  match P.funcs[f]? with
  | none => none
  | some fn => match fn.body with
    | none => none
    | some c => if fn.name != "runtime.NumGoroutine" then
        match lowD P fn.ntmps kp od c, resTmps P fn.results.toList with
        | some (l, d, y), some r => some ⟨fn.ntmps, r, l, d, y⟩
        | _, _ => none
      else none
def endD (P : Program) (g : Nat) (caps : List Value) (res : List RV) (Q : Value → SH → Prop) : Exit → Env → SH → Prop := fun e Γ H => (e = .normal ∨ e = .ret) ∧ ∃ Pre R Q2, FunD P g caps Pre Q2 ∧ Spl H Pre R ∧
  ∀ v Post, Q2 v Post → endQ res Q .ret Γ (Post ++ R)
def VD (P : Program) (n : Nat) (res : List RV) (dr : DR) (post : IC) (Q : Value → SH → Prop) : List IC → Env → SH → Prop
  | [], Γ, H => ∃ vs, evs Γ dr.caps = some vs ∧ VC P n post ((dr.d, .func (.func dr.g) #[] vs.toArray) :: Γ) H (endD P dr.g vs res Q)
  | x :: l, Γ, H => VC P n x Γ H (thenQ (fun Γ' H' => VD P n res dr post Q l Γ' H') (endQ res Q))
theorem lowDef_inv {P : Program} {n : Nat} {c : Code} {x : DR} (h : lowDef P n c = some x) : ∃ id ops o1 o2 cl, c = .region id ops false ∧ ops.toList = [o1, o2] ∧ lowRO P n ops o1 = some ⟨some x.d, none, .clos (.func x.g) [] x.caps⟩ ∧
    o2.op = .defer cl ∧ cl.callee = .value (.tmp x.d) ∧ cl.args = #[] ∧ o2.guard = none ∧ o2.dst = none := by
  unfold lowDef at h
  split at h
  case h_2 => cases h
  rename_i id ops
  split at h
  case h_2 => cases h
  rename_i o1 o2 hops
  split at h
  case h_2 => cases h
  rename_i d g caps c h1 h2
  split at h
  case h_2 => cases h
  rename_i d' hc
  split at h
  case isFalse => cases h
  rename_i hcond
  obtain ⟨rfl, h3, h4, h5⟩ := hcond
  cases h
  exact ⟨id, ops, o1, o2, c, rfl, hops, h1, h2, hc, by simpa using h3, by simpa using h4, by simpa using h5⟩
section
variable {P : Program} {n : Nat} {fn : Func} {tmps : Array Value} {FF : List Atom} {w0 : World}
theorem leaves_marks {R : Ending → World → Prop} {ds : List Deferred} {L : List Atom} : ∀ (X : List Nat) (w' : World), Sat w' (L ++ (FF ++ marks X)) → Keeps w0 w' →
    (∀ w'', Sat w'' (L ++ FF) → Keeps w0 w'' → LeavesInM (VFc none) 0 P fn tmps R ds .returning w'') → LeavesInM (VFc none) 0 P fn tmps R (X.map coll ++ ds) .returning w' := by
  intro X
  induction X with
  | nil => intro w' hs hk h; exact h w' (by simpa [V.marks] using hs) hk
  | cons r X ih =>
    intro w' hs hk h
    have hp : (L ++ (FF ++ V.marks (r :: X))).Perm (.obj r (.deferred (some [])) :: (L ++ (FF ++ V.marks X))) := by
      simp only [V.marks, List.map_cons]
      rw [← List.append_assoc, ← List.append_assoc]
      exact List.perm_middle
    have g5 := hs.perm hp
    obtain ⟨k1, k2⟩ := g5.obj (List.mem_cons_self ..)
    obtain ⟨s1, s2⟩ := Sat.setObj (u := .deferred none) g5 rfl
    refine ⟨by simp, .inl ⟨r, _, rfl, ?_, ih _ (s1.sub (List.sublist_cons_self ..)) (hk.trans s2) h⟩⟩
    simp [Instr.takeDeferred, Go.getObj, Go.setObj, Sem.run, k1]
theorem leaves_end {r : List RV} {Q : Value → SH → Prop} {a' : Act} {w' : World} {Γ' : Env} {H' : SH} {X : List Nat} {e : Exit} (hr : resTmps P fn.results.toList = some r) (q : endQ r Q e Γ' H') (g1 : Agree n Γ' a') (g3 : Sat w' (H'.flatten ++ (FF ++ marks X))) (g4 : Keeps w0 w') :
    LeavesInM (VFc none) 0 P fn a'.tmps (fun e w' => ∃ v Post, e = .returned v ∧ Q v Post ∧ Sat w' (Post.flatten ++ FF) ∧ Keeps w0 w') (X.map coll) .returning w' := by
  obtain ⟨he, vs, Post, h1, h2, h3⟩ := q
  have := leaves_marks (P := P) (fn := fn) (tmps := a'.tmps) (R := fun e w' => ∃ v Post, e = .returned v ∧ Q v Post ∧ Sat w' (Post.flatten ++ FF) ∧ Keeps w0 w') (ds := []) X w' g3 g4 (fun w'' s k => ⟨_, run_results s hr g1 h1, _, Post, rfl, h3, s.imp h2, k⟩)
  simpa using this
end
end Go.V

/-
  A function that defers one closure.
-/
import Derived.Test.YtklkngccaemjdaaVU
import Derived.DefersIn
import Derived.Test.YtklkngccaemjdaaWM
set_option linter.unusedSimpArgs false
set_option linter.unusedVariables false
namespace Go.V
open Go

/-- As VC, for code that leaves nothing deferred. -/
def VCz (P : Program) (n : Nat) (c : IC) (Γ : Env) (H : SH) (Q : Exit → Env → SH → Prop) : Prop :=
  ∀ ρ kp od code, lowC P n kp od code = some c → ∀ a w F (QQ : Exit → Act → World → Prop), Agree n Γ a → Sat w (H.flatten ++ F) →
    (∀ e a' w' Γ' H', Q e Γ' H' → Agree n Γ' a' → a'.defers = a.defers → Sat w' (H'.flatten ++ F) → Keeps w w' → QQ e a' w') → code.wpIn (VFc ρ) 0 P QQ a w

section
variable {P : Program} {n : Nat} {Γ : Env} {H : SH} {Q Q' : Exit → Env → SH → Prop}

theorem VCz.mono {c : IC} (h : VCz P n c Γ H Q) (hq : ∀ e Γ H, Q e Γ H → Q' e Γ H) : VCz P n c Γ H Q' := fun ρ kp od code hl a w F QQ ha hs hh =>
  h ρ kp od code hl a w F QQ ha hs (fun e a' w' Γ' H' q => hh e a' w' Γ' H' (hq _ _ _ q))

theorem VCz.skip (h : Q .normal Γ H) : VCz P n .skip Γ H Q := by
  intro ρ kp od code hl a w F QQ ha hs hh
  obtain rfl := lowC_inv hl
  exact wpIn_skip (hh _ _ _ _ _ h ha rfl hs (.refl w))

theorem VCz.ret (h : Q .ret Γ H) : VCz P n .ret Γ H Q := by
  intro ρ kp od code hl a w F QQ ha hs hh
  obtain rfl := lowC_inv hl
  exact wpIn_ret (hh _ _ _ _ _ h ha rfl hs (.refl w))

theorem VCz.cond {c : Operand} {x y : IC} {t : Bool} (hc : ev Γ c = some (.bool t)) (ht : t = true → VCz P n x Γ H Q) (hf : t = false → VCz P n y Γ H Q) : VCz P n (.cond c x y) Γ H Q := by
  intro ρ kp od code hl a w F QQ ha hs hh
  obtain ⟨p, q, rfl, h1, h2⟩ := lowC_inv hl
  exact wpIn_cond_split (ha.ev hc) (fun e => ht e ρ kp od _ h1 a w F QQ ha hs hh) (fun e => hf e ρ kp od _ h2 a w F QQ ha hs hh)

theorem VCz.seq {x y : IC} (h : VCz P n x Γ H (thenQ (fun Γ' H' => VCz P n y Γ' H' Q) Q)) : VCz P n (.seq x y) Γ H Q := by
  intro ρ kp od code hl a w F QQ ha hs hh
  obtain ⟨p, q, rfl, h1, h2⟩ := lowC_inv hl
  refine wpIn_seq (h ρ kp od _ h1 a w F _ ha hs (fun e a' w' Γ' H' q g1 g2 g3 g4 => ?_))
  cases e <;> first
    | exact q ρ kp od _ h2 a' w' F QQ g1 g3 (fun e a2 w2 Γ2 H2 q2 k1 k2 k3 k4 => hh e a2 w2 Γ2 H2 q2 k1 (by rw [k2, g2]) k3 (g4.trans k4))
    | exact hh _ _ _ _ _ q g1 g2 g3 g4

theorem VCz.reg {rs : List RO} {keep : List Nat} (h : VO P n rs Γ H (fun ch Γ' H' => Q (.panic ch) Γ' H') fun Γ' H' => Q .normal (restr keep Γ') H') : VCz P n (.reg rs keep) Γ H Q := by
  intro ρ kp od code hl a w F QQ ha hs hh
  obtain ⟨id, ops, rfl, h1, rfl⟩ := lowC_inv hl
  refine wpIn_region ?_
  refine wpR_sound (P := P) (ρ := ρ) (n := n) (ops := ops) (X := fun i => (rs.zip ops.toList).getD i default) (QQ := QQ) (fun i hi => ?_) (List.range ops.size) a w (fun i hi => by simpa using hi) ?_
  · obtain ⟨g1, g2, g3⟩ := zip_getD h1 hi; exact ⟨g1, g3⟩
  · have hlen := (lowList_length h1).1
    have hmap : (List.range ops.size).map (fun i => (rs.zip ops.toList).getD i default) = rs.zip ops.toList := by
      have hzl : (rs.zip ops.toList).length = ops.size := by simp [hlen]
      apply List.ext_getElem?
      intro i
      simp only [List.getElem?_map]
      by_cases hi : i < ops.size
      · rw [List.getElem?_range hi, Option.map_some]
        rw [List.getD_eq_getElem?_getD]
        have : i < (rs.zip ops.toList).length := by omega
        rw [List.getElem?_eq_getElem this]; rfl
      · rw [List.getElem?_eq_none (l := List.range ops.size) (by simpa using hi), List.getElem?_eq_none (by omega)]; rfl
    rw [hmap]
    refine h (rs.zip ops.toList) ⟨?_, ?_⟩ a w F _ _ ha hs (fun a' w' Γ' H' q g1 g2 g3 g4 => hh .normal a' w' _ H' q (g1.sub (sub_restr _ _)) g2 g3 g4) (fun ch a' w' Γ' H' q g1 g2 g3 g4 => hh (.panic ch) a' w' _ H' q g1 g2 g3 g4)
    · rw [List.map_fst_zip]; simp [hlen]
    · intro x hx
      obtain ⟨i, hi⟩ := List.getElem?_of_mem hx
      have hi2 : i < (rs.zip ops.toList).length := (List.getElem?_eq_some_iff.1 hi).1
      have hi3 : i < ops.size := by simp [hlen] at hi2; omega
      obtain ⟨g1, g2, g3⟩ := zip_getD h1 hi3
      have : (rs.zip ops.toList).getD i default = x := by rw [List.getD_eq_getElem?_getD, hi]; rfl
      rw [this] at g3
      exact ⟨ops, g3⟩
end

/-- A function that is called by being deferred. -/
def FunD (P : Program) (f : Nat) (args : List Value) (Pre : SH) (Q : Value → SH → Prop) : Prop :=
  callable P f = true ∧ ∀ F w u, Sat w (Pre.flatten ++ F) → CallsDIn (VFc none) 0 P f args.toArray u w fun e u' w' => u' = u ∧ ∃ v Post, e = .returned v ∧ Q v Post ∧ Sat w' (Post.flatten ++ F) ∧ Keeps w w'

theorem FunD.intro {P : Program} {kp : Nat → List Nat} {od : Nat → List (List Nat)} {f : Nat} {F : FIR} {args : List Value} {Pre : SH} {Q : Value → SH → Prop} (hl : lowF P kp od f = some F) (hn : args.length ≤ F.n)
    (h : VCz P F.n F.body (argsEnv 0 args) Pre (endQ F.res Q)) : FunD P f args Pre Q := by
  unfold lowF at hl
  split at hl
  · cases hl
  rename_i fn hfn
  split at hl
  · cases hl
  rename_i c hc
  split at hl
  case isFalse => cases hl
  rename_i hname
  split at hl
  case h_2 => cases hl
  rename_i b r hb hr
  cases hl
  refine ⟨by simp only [callable, hfn, hname, hc]; rfl, fun FF w u hs => ?_⟩
  refine callsDIn_of_wp (R := fun e w' => ∃ v Post, e = .returned v ∧ Q v Post ∧ Sat w' (Post.flatten ++ FF) ∧ Keeps w w') hfn hc trivial (h none kp od c hb _ w FF _ ⟨?_, fun t v e => ?_⟩ hs (fun e a' w' Γ' H' q g1 g2 g3 g4 => ?_))
  · simp at hn ⊢; omega
  · obtain ⟨_, h2⟩ := look_argsEnv e
    simp only [Nat.sub_zero] at h2
    have hlt : t < args.length := (List.getElem?_eq_some_iff.1 h2).1
    simp only [Array.getElem?_append, List.size_toArray, hlt, if_true]
    simpa using h2
  · obtain ⟨he, vs, Post, h1, h2, h3⟩ := q
    have hb : a'.defers = [] ∧ ∃ v, (results fn a'.tmps).run P w' = .ok v w' ∧ (∃ v' Post, (Ending.returned v) = .returned v' ∧ Q v' Post ∧ Sat w' (Post.flatten ++ FF) ∧ Keeps w w') :=
      ⟨g2, _, run_results g3 hr g1 h1, _, Post, rfl, h3, g3.imp h2, g4⟩
    rcases he with rfl | rfl <;> exact hb

theorem FunD.mono {P : Program} {f : Nat} {args : List Value} {Pre : SH} {Q Q' : Value → SH → Prop} (h : FunD P f args Pre Q) (hq : ∀ v Post, Q v Post → Q' v Post) : FunD P f args Pre Q' :=
  ⟨h.1, fun F w u hs => (h.2 F w u hs).mono fun _ _ _ ⟨hu, v, Post, a, b, c⟩ => ⟨hu, v, Post, a, hq _ _ b, c⟩⟩

/-- The region that defers a closure: its slot, the closure's function, what it captures. -/
structure DR where
  d : Nat
  g : Nat
  caps : List Operand

def lowDef (P : Program) (n : Nat) : Code → Option DR
  | .region _ ops false => match ops.toList with
    | [o1, o2] => match lowRO P n ops o1, o2.op with
      | some ⟨some d, none, .clos (.func g) [] caps⟩, .defer c => match c.callee with
        | .value (.tmp d') => if d' = d ∧ c.args.size = 0 ∧ o2.guard.isNone = true ∧ o2.dst.isNone = true then some ⟨d, g, caps⟩ else none
        | _ => none
      | _, _ => none
    | _ => none
  | _ => none

structure DIR where
  n : Nat
  res : List RV
  pre : List IC
  dr : DR
  post : IC

def lowD (P : Program) (n : Nat) (kp : Nat → List Nat) (od : Nat → List (List Nat)) : Code → Option (List IC × DR × IC)
  | .seq a b => match lowDef P n a with
    | some x => (lowC P n kp od b).map fun y => ([], x, y)
    | none => match lowC P n kp od a, lowD P n kp od b with
      | some x, some (l, d, y) => some (x :: l, d, y)
      | _, _ => none
  | _ => none

def lowFD (P : Program) (kp : Nat → List Nat) (od : Nat → List (List Nat)) (f : Nat) : Option DIR :=
  match P.funcs[f]? with
  | none => none
  | some fn => match fn.body with
    | none => none
    | some c => if fn.name != "runtime.NumGoroutine" then
        match lowD P fn.ntmps kp od c, resTmps P fn.results.toList with
        | some (l, d, y), some r => some ⟨fn.ntmps, r, l, d, y⟩
        | _, _ => none
      else none

/-- At the end: the deferred closure is called, then the results are read. -/
def endD (P : Program) (g : Nat) (caps : List Value) (res : List RV) (Q : Value → SH → Prop) : Exit → Env → SH → Prop := fun e Γ H => (e = .normal ∨ e = .ret) ∧ ∃ Pre R Q2, FunD P g caps Pre Q2 ∧ Spl H Pre R ∧
  ∀ v Post, Q2 v Post → endQ res Q .ret Γ (Post ++ R)

def VD (P : Program) (n : Nat) (res : List RV) (dr : DR) (post : IC) (Q : Value → SH → Prop) : List IC → Env → SH → Prop
  | [], Γ, H => ∃ vs, evs Γ dr.caps = some vs ∧ VC P n post ((dr.d, .func (.func dr.g) #[] vs.toArray) :: Γ) H (endD P dr.g vs res Q)
  | x :: l, Γ, H => VC P n x Γ H (thenQ (fun Γ' H' => VD P n res dr post Q l Γ' H') (endQ res Q))

theorem lowDef_inv {P : Program} {n : Nat} {c : Code} {x : DR} (h : lowDef P n c = some x) : ∃ id ops o1 o2 cl, c = .region id ops false ∧ ops.toList = [o1, o2] ∧ lowRO P n ops o1 = some ⟨some x.d, none, .clos (.func x.g) [] x.caps⟩ ∧
    o2.op = .defer cl ∧ cl.callee = .value (.tmp x.d) ∧ cl.args = #[] ∧ o2.guard = none ∧ o2.dst = none := by
  unfold lowDef at h
  split at h
  case h_2 => cases h
  rename_i id ops
  split at h
  case h_2 => cases h
  rename_i o1 o2 hops
  split at h
  case h_2 => cases h
  rename_i d g caps c h1 h2
  split at h
  case h_2 => cases h
  rename_i d' hc
  split at h
  case isFalse => cases h
  rename_i hcond
  obtain ⟨rfl, h3, h4, h5⟩ := hcond
  cases h
  exact ⟨id, ops, o1, o2, c, rfl, hops, h1, h2, hc, by simpa using h3, by simpa using h4, by simpa using h5⟩

section
variable {P : Program} {n : Nat} {fn : Func} {tmps : Array Value} {FF : List Atom} {w0 : World}

/-- The marks are taken first. -/
theorem leaves_marks {R : Ending → World → Prop} {ds : List Deferred} {L : List Atom} : ∀ (X : List Nat) (w' : World), Sat w' (L ++ (FF ++ marks X)) → Keeps w0 w' →
    (∀ w'', Sat w'' (L ++ FF) → Keeps w0 w'' → LeavesInM (VFc none) 0 P fn tmps R ds .returning w'') → LeavesInM (VFc none) 0 P fn tmps R (X.map coll ++ ds) .returning w' := by
  intro X
  induction X with
  | nil => intro w' hs hk h; exact h w' (by simpa [V.marks] using hs) hk
  | cons r X ih =>
    intro w' hs hk h
    have hp : (L ++ (FF ++ V.marks (r :: X))).Perm (.obj r (.deferred (some [])) :: (L ++ (FF ++ V.marks X))) := by
      simp only [V.marks, List.map_cons]
      rw [← List.append_assoc, ← List.append_assoc]
      exact List.perm_middle
    have g5 := hs.perm hp
    obtain ⟨k1, k2⟩ := g5.obj (List.mem_cons_self ..)
    obtain ⟨s1, s2⟩ := Sat.setObj (u := .deferred none) g5 rfl
    refine ⟨by simp, .inl ⟨r, _, rfl, ?_, ih _ (s1.sub (List.sublist_cons_self ..)) (hk.trans s2) h⟩⟩
    simp [Instr.takeDeferred, Go.getObj, Go.setObj, Sem.run, k1]

theorem leaves_end {r : List RV} {Q : Value → SH → Prop} {a' : Act} {w' : World} {Γ' : Env} {H' : SH} {X : List Nat} {e : Exit} (hr : resTmps P fn.results.toList = some r) (q : endQ r Q e Γ' H') (g1 : Agree n Γ' a') (g3 : Sat w' (H'.flatten ++ (FF ++ marks X))) (g4 : Keeps w0 w') :
    LeavesInM (VFc none) 0 P fn a'.tmps (fun e w' => ∃ v Post, e = .returned v ∧ Q v Post ∧ Sat w' (Post.flatten ++ FF) ∧ Keeps w0 w') (X.map coll) .returning w' := by
  obtain ⟨he, vs, Post, h1, h2, h3⟩ := q
  have := leaves_marks (P := P) (fn := fn) (tmps := a'.tmps) (R := fun e w' => ∃ v Post, e = .returned v ∧ Q v Post ∧ Sat w' (Post.flatten ++ FF) ∧ Keeps w0 w') (ds := []) X w' g3 g4 (fun w'' s k => ⟨_, run_results s hr g1 h1, _, Post, rfl, h3, s.imp h2, k⟩)
  simpa using this

theorem vd_sound {kp : Nat → List Nat} {od : Nat → List (List Nat)} {r : List RV} {Q : Value → SH → Prop} (hr : resTmps P fn.results.toList = some r) : ∀ (l : List IC) (c : Code) (dr : DR) (y : IC), lowD P n kp od c = some (l, dr, y) →
    ∀ Γ H a w X, VD P n r dr y Q l Γ H → Agree n Γ a → Sat w (H.flatten ++ (FF ++ marks X)) → a.defers = X.map coll → Keeps w0 w →
    c.wpIn (VFc none) 0 P (bodyPostM (VFc none) 0 P fn (fun e w' => ∃ v Post, e = .returned v ∧ Q v Post ∧ Sat w' (Post.flatten ++ FF) ∧ Keeps w0 w')) a w := by
  intro l
  induction l with
  | nil =>
    intro c dr y hl Γ H a w X hv ha hs hd hk
    unfold lowD at hl
    split at hl
    case h_2 => cases hl
    rename_i p q
    split at hl
    case h_2 =>
      split at hl <;> cases hl
    rename_i x hx
    simp only [Option.map_eq_some_iff] at hl
    obtain ⟨y', hy, he⟩ := hl
    cases he
    obtain ⟨id, ops, o1, o2, cl, rfl, hops, h1, h2, hcal, hargs, hg, hdst⟩ := lowDef_inv hx
    obtain ⟨vs, hvs, hpost⟩ := hv
    refine wpIn_seq (wpIn_region_list ?_)
    rw [hops]
    obtain ⟨g1, g2, g3, g4⟩ := lowRO_spec h1
    have hv1 : pureV a.eval (.clos (.func dr.g) [] dr.caps) = some (.func (.func dr.g) #[] vs.toArray) := by
      simp [pureV, ha.evs hvs]
    have hrun : (execOp a.eval o1).run P w = .ok (.value (.func (.func dr.g) #[] vs.toArray)) w := pure_sound (w := w) (eval_const a) g1 hv1
    have ha1 := ha.putE g3 (.func (.func dr.g) #[] vs.toArray)
    simp only at ha1 g2
    simp only [wpListIn, g4 a, wantedR, if_true]
    refine ⟨fun _ _ => trivial, ?_⟩
    rw [Oper.semAt_none, hrun]
    show (if Region.wanted o2 (yielded ops (a.put o1.dst _).tmps) then _ else _)
    rw [← g2]
    have hw : Region.wanted o2 (yielded ops (a.put (some dr.d) (.func (.func dr.g) #[] vs.toArray)).tmps) = true := by simp [Region.wanted, hg]
    rw [if_pos hw]
    have hev : (a.put (some dr.d) (.func (.func dr.g) #[] vs.toArray)).eval (.tmp dr.d) = .func (.func dr.g) #[] vs.toArray := ha1.ev (by simp [V.ev, V.putE, V.look])
    have hdef : (execOp (a.put (some dr.d) (.func (.func dr.g) #[] vs.toArray)).eval o2).run P w = .ok (.defer { target := .fn (.func dr.g) vs.toArray, args := #[] }) w := by
      simp [execOp, h2, resolve, hcal, hargs, hev, Deferred.ofValue]
    refine ⟨fun _ _ => trivial, ?_⟩
    rw [Oper.semAt_none, hdef, Oper.uponIn_defer, hdst]
    show q.wpIn _ _ _ _ _ w
    have hputd : (a.put (some dr.d) (.func (.func dr.g) #[] vs.toArray)).defers = a.defers := put_defers ..
    refine hpost none kp od _ hy _ w (FF ++ marks X) _ (fun l e => by cases e) ⟨ha1.size, ha1.slots⟩ hs (fun e a' w' Γ' H' Y q k1 k2 k3 k4 => ?_)
    obtain ⟨he, Pre, Rr, Q2, hfd, hspl, hfin⟩ := q
    have hdefs : a'.defers = Y.map coll ++ ({ target := .fn (.func dr.g) vs.toArray, args := #[] } :: X.map coll) := by
      rw [k2]
      show _ ++ ({ target := .fn (.func dr.g) vs.toArray, args := #[] } :: (a.put (some dr.d) (.func (.func dr.g) #[] vs.toArray)).defers) = _
      rw [hputd, hd]
    have hb : LeavesInM (VFc none) 0 P fn a'.tmps (fun e w' => ∃ v Post, e = .returned v ∧ Q v Post ∧ Sat w' (Post.flatten ++ FF) ∧ Keeps w0 w') a'.defers .returning w' := by
      rw [hdefs]
      refine leaves_marks (w0 := w0) (FF := FF ++ marks X) Y w' k3 (hk.trans k4) (fun w2 s2 c2 => ?_)
      refine ⟨by simp, .inr ⟨by simp, .func dr.g, vs.toArray, dr.g, vs.toArray, rfl, ?_, fun _ _ => trivial, ?_⟩⟩
      · simp [invoke, run_callFunc hfd.1]
      · have hs2 : Sat w2 (Pre.flatten ++ (Rr.flatten ++ (FF ++ marks X))) := by
          rw [← List.append_assoc]; exact s2.perm (hspl.append_right _)
        refine (hfd.2 (Rr.flatten ++ (FF ++ marks X)) w2 .returning hs2).mono ?_
        rintro e2 u2 w3 ⟨rfl, v, Post, rfl, hq2, hs3, hk3⟩
        show LeavesInM _ _ _ _ _ _ (X.map coll) .returning w3
        refine leaves_end hr (hfin v Post hq2) k1 ?_ (c2.trans hk3)
        rw [List.flatten_append, List.append_assoc]; exact hs3
    rcases he with rfl | rfl <;> exact hb
  | cons x l ih =>
    intro c dr y hl Γ H a w X hv ha hs hd hk
    unfold lowD at hl
    split at hl
    case h_2 => cases hl
    rename_i p q
    split at hl
    · simp only [Option.map_eq_some_iff] at hl
      obtain ⟨y', hy, he⟩ := hl
      cases he
    split at hl
    case h_2 => cases hl
    rename_i x' l' d' y' hx hq
    cases hl
    refine wpIn_seq (hv none kp od _ hx a w (FF ++ marks X) _ (fun l e => by cases e) ha hs (fun e a' w' Γ' H' Y q k1 k2 k3 k4 => ?_))
    have hdefs : a'.defers = (Y ++ X).map coll := by rw [k2, hd]; simp
    cases e <;> first
      | exact ih _ _ _ hq Γ' H' a' w' (Y ++ X) q k1 k3.marks hdefs (hk.trans k4)
      | (obtain ⟨he, _⟩ := q; simp at he; done)
      | (show LeavesInM _ _ _ _ _ _ a'.defers _ w'; rw [hdefs]; exact leaves_end hr q k1 k3.marks (hk.trans k4))
end

/-- The contract of a function that defers one closure. -/
theorem Fun.introD {P : Program} {kp : Nat → List Nat} {od : Nat → List (List Nat)} {f : Nat} {F : DIR} {args : List Value} {Pre : SH} {Q : Value → SH → Prop} (hl : lowFD P kp od f = some F) (hn : args.length ≤ F.n)
    (h : VD P F.n F.res F.dr F.post Q F.pre (argsEnv 0 args) Pre) : Fun P f args Pre Q := by
  unfold lowFD at hl
  split at hl
  · cases hl
  rename_i fn hfn
  split at hl
  · cases hl
  rename_i c hc
  split at hl
  case isFalse => cases hl
  rename_i hname
  split at hl
  case h_2 => cases hl
  rename_i l d y r hb hr
  cases hl
  refine ⟨by simp only [callable, hfn, hname, hc]; rfl, fun FF w hs => ?_⟩
  refine (callsIn_wide (n := 0)).1 (callsIn_of_wp_marks hfn hc trivial (vd_sound hr l c d y hb _ _ _ w [] h ⟨?_, fun t v e => ?_⟩ (by simpa [V.marks] using hs) rfl (.refl w)))
  · simp at hn ⊢; omega
  · obtain ⟨_, h2⟩ := look_argsEnv e
    simp only [Nat.sub_zero] at h2
    have hlt : t < args.length := (List.getElem?_eq_some_iff.1 h2).1
    simp only [Array.getElem?_append, List.size_toArray, hlt, if_true]
    simpa using h2
end Go.V
namespace Go.V
open Go

theorem ext_ext2 (s : ByteArray) (a b c d : Nat) : (s.extract a b).extract c d = s.extract (a + c) (min (a + d) b) := by
  apply ByteArray.ext
  simp only [ByteArray.data_extract, Array.extract_extract]

theorem ext_end (s : ByteArray) (a b : Nat) (h : s.size ≤ b) : s.extract a b = s.extract a s.size := by
  apply ByteArray.ext
  simp only [ByteArray.data_extract]
  have e : s.data.size = s.size := rfl
  apply Array.ext
  · simp only [Array.size_extract, e]; omega
  · intro i h1 h2; simp

theorem ext_ext (s : ByteArray) (a n : Nat) (h : a + n ≤ s.size) : (s.extract a s.size).extract 0 n = s.extract a (a + n) := by
  rw [ext_ext2]; congr 1; omega

theorem ext_drop (s : ByteArray) (a n : Nat) : (s.extract a s.size).extract n (s.extract a s.size).size = s.extract (a + n) s.size := by
  rw [ext_ext2, ByteArray.size_extract, Nat.min_self]
  by_cases h : a ≤ s.size
  · congr 1; omega
  · apply ByteArray.ext
    have e : s.data.size = s.size := rfl
    apply Array.ext
    · simp only [ByteArray.data_extract, Array.size_extract, e]; omega
    · intro i h1 h2; simp only [ByteArray.data_extract, Array.size_extract, e] at h1; omega

/-- How many pieces; the pieces. -/
def pcN (s : ByteArray) : Nat := (s.size + 4095) / 4096
def pcAt (s : ByteArray) (i : Nat) : ByteArray := s.extract (4096 * i) (min (4096 * i + 4096) s.size)
def pcs (s : ByteArray) : List ByteArray := (List.range (pcN s)).map (pcAt s)
def rest4 (s : ByteArray) (i : Nat) : ByteArray := s.extract (4096 * i) s.size

theorem rest4_size (s : ByteArray) (i : Nat) : (rest4 s i).size = s.size - 4096 * i := by simp [rest4, ByteArray.size_extract]
theorem rest4_zero (s : ByteArray) : rest4 s 0 = s := by simp [rest4]
theorem pc_more {s : ByteArray} {i : Nat} (hi : i ≤ pcN s) : 0 < s.size - 4096 * i ↔ i < pcN s := by unfold pcN at *; omega
theorem pcs_take {s : ByteArray} {i : Nat} (hi : i < pcN s) : (pcs s).take (i + 1) = (pcs s).take i ++ [pcAt s i] := by
  rw [List.take_add_one]
  congr 1
  simp [pcs, hi]
theorem pcs_len (s : ByteArray) : (pcs s).length = pcN s := by simp [pcs]
theorem pcs_ok {s : ByteArray} {i : Nat} (hi : i < pcN s) : OkC (fun full => full = pcs s) ((pcs s).take i ++ [pcAt s i]) := ⟨(pcs s).drop (i + 1), by rw [← pcs_take hi, List.take_append_drop]⟩
theorem pc_head {s : ByteArray} {i : Nat} : (rest4 s i).extract 0 (min 4096 (rest4 s i).size) = pcAt s i := by
  rw [rest4_size]
  unfold rest4 pcAt
  rw [ext_ext2]
  by_cases h : 4096 * i ≤ s.size
  · congr 1; omega
  · apply ByteArray.ext
    have e : s.data.size = s.size := rfl
    apply Array.ext
    · simp only [ByteArray.data_extract, Array.size_extract, e]; omega
    · intro i h1 h2; simp only [ByteArray.data_extract, Array.size_extract, e] at h1; omega
theorem pc_tail {s : ByteArray} {i : Nat} (hi : i < pcN s) : (rest4 s i).extract (min 4096 (rest4 s i).size) (rest4 s i).size = rest4 s (i + 1) := by
  have h2 := (pc_more (Nat.le_of_lt hi)).2 hi
  unfold rest4
  rw [ext_drop, ByteArray.size_extract, Nat.min_self]
  by_cases h : s.size - 4096 * i ≤ 4096
  · apply ByteArray.ext
    have e : s.data.size = s.size := rfl
    apply Array.ext
    · simp only [ByteArray.data_extract, Array.size_extract, e]; omega
    · intro i h1 h2; simp only [ByteArray.data_extract, Array.size_extract, e] at h1; omega
  · congr 1; omega
end Go.V

/-
  Short names for the code of functions: a function's code is laid by them, and holds the code itself.
-/
import Derived.Test.YtmnmandpdadedaaGreatDoorV7
import Derived.DefersIn
import Derived.RecoverIn
set_option linter.unusedSimpArgs false
set_option linter.unusedVariables false
namespace Go.V
open Go
def qm (d a : Nat) : RO := ⟨some d, none, .mv (.tmp a)⟩
def qk (d : Nat) (v : Int) : RO := ⟨some d, none, .mv (.const (.int .i64 v))⟩
def qz (d : Nat) (b : Bool) : RO := ⟨some d, none, .mv (.const (.bool b))⟩
def qo (d : Nat) (r : R) : RO := ⟨some d, none, r⟩
def ql (d a : Nat) : RO := ⟨some d, none, .load1 (.tmp a)⟩
def qf (d o a : Nat) : RO := ⟨some d, none, .fld o (.tmp a)⟩
def qi (d s a b : Nat) : RO := ⟨some d, none, .idxL s (.tmp a) (.tmp b)⟩
def qb (d : Nat) (o : BinOp) (a b : Nat) : RO := ⟨some d, none, .bin o (.tmp a) (.tmp b)⟩
def qc (d : Nat) (o : BinOp) (a : Nat) (v : Int) : RO := ⟨some d, none, .bin o (.tmp a) (.const (.int .i64 v))⟩
def qn (d a : Nat) : RO := ⟨some d, none, .nilck (.tmp a)⟩
def qs (n a b : Nat) : RO := ⟨none, none, .store n (.tmp a) (.tmp b)⟩
def qp (d c a b : Nat) : RO := ⟨some d, none, .pick (.tmp c) (.tmp a) (.tmp b)⟩
def qa (d c a : Nat) : RO := ⟨some d, none, .pick (.tmp c) (.tmp a) (.const (.bool false))⟩
def qr (d c b : Nat) : RO := ⟨some d, none, .pick (.tmp c) (.const (.bool true)) (.tmp b)⟩
def qe (d a i : Nat) : RO := ⟨some d, none, .ext (.tmp a) i⟩
def tmps : List Nat → List Operand
  | [] => []
  | a :: r => .tmp a :: tmps r
def qx (d f : Nat) (l : List Nat) : RO := ⟨some d, none, .call f (tmps l)⟩
def qL (d a : Nat) : RO := ⟨some d, none, .lenL (.tmp a)⟩
def qN (d n a : Nat) : RO := ⟨some d, none, .loadN n (.tmp a)⟩
def qB (d t a : Nat) : RO := ⟨some d, none, .box t (.tmp a)⟩
def qt (g : Nat) (x : RO) : RO := ⟨x.dst, some (g, true), x.op⟩
def qu (g : Nat) (x : RO) : RO := ⟨x.dst, some (g, false), x.op⟩
def qS (rs : List RO) (k : List Nat) (r : IC) : IC := .seq (.reg rs k) r
def qC (c : Nat) (a b : IC) : IC := .cond (.tmp c) a b
def nthO : List RO → Nat → RO
  | [], _ => default
  | x :: _, 0 => x
  | _ :: r, n + 1 => nthO r n
def ordO (l : List RO) : List Nat → List RO
  | [] => []
  | i :: r => nthO l i :: ordO l r
def ordsO (l : List RO) : List (List Nat) → List (List RO)
  | [] => []
  | p :: r => ordO l p :: ordsO l r
def qD (l : List RO) (ps : List (List Nat)) (k : List Nat) : IC := .draw (ordsO l ps) k
def keepsO : IC → List (List Nat)
  | .skip | .exit _ | .ret => []
  | .reg _ k | .draw _ k | .free _ _ k => [k]
  | .seq a b | .cond _ a b | .rangef _ _ a b => keepsO a ++ keepsO b
  | .loop (.seq a (.seq b c)) => keepsO a ++ (keepsO c ++ keepsO b)
  | .block _ b | .loop b => keepsO b
def kpO (F : FIR) (i : Nat) : List Nat := (keepsO F.body).getD i []
def laid {X F : FIR} (_h : F = X := by (dsimp only [qm, qk, qz, qo, ql, qf, qi, qb, qc, qn, qs, qp, qa, qr, qe, tmps, qx, qL, qN, qB, qt, qu, qS, qC, nthO, ordO, ordsO, qD] <;> exact rfl)) : FIR := F
theorem TKx {H R : SH} {A : List Atom} (h : Tk H A R := by (focus ((repeat (first | with_reducible exact Tk.here | apply Tk.there)); done))) : Tk H A R := h
theorem IMx {H D : SH} (h : Imp H D := by (first | with_reducible exact Imp.refl | with_reducible exact Imp.left | (focus ((try simp only [List.nil_append]); (repeat (first | exact Imp.nil | (apply Imp.cons; (focus ((repeat (first | with_reducible exact Tk.here | apply Tk.there)); done))))); done)))) : Imp H D := h
theorem SPx {H D R : SH} (h : Spl H D R := by (focus ((repeat (first | exact Spl.nil | (apply Spl.cons; (focus ((repeat (first | with_reducible exact Tk.here | apply Tk.there)); done))))); done))) : Spl H D R := h
theorem SUx {G D : Env} (h : Sub G D := by (repeat (first | exact Sub.nil | (apply Sub.cons; rfl)))) : Sub G D := h
theorem CNx {α : Type} : (∀ (a : α) (l r : List α), (a :: l) ++ r = a :: (l ++ r)) ∧ (∀ r : List α, ([] : List α) ++ r = r) := ⟨fun _ _ _ => rfl, fun _ => rfl⟩
def VCz (P : Program) (n : Nat) (c : IC) (Γ : Env) (H : SH) (Q : Exit → Env → SH → Prop) : Prop :=
  ∀ ρ kp od code, lowC P n kp od code = some c → ∀ a w F (QQ : Exit → Act → World → Prop), Agree n Γ a → Sat w (H.flatten ++ F) →
    (∀ e a' w' Γ' H', Q e Γ' H' → Agree n Γ' a' → a'.defers = a.defers → Sat w' (H'.flatten ++ F) → Keeps w w' → QQ e a' w') → code.wpIn (VFc ρ) 0 P QQ a w
section
variable {P : Program} {n : Nat} {Γ : Env} {H : SH} {Q Q' : Exit → Env → SH → Prop}
theorem VCz.mono {c : IC} (h : VCz P n c Γ H Q) (hq : ∀ e Γ H, Q e Γ H → Q' e Γ H) : VCz P n c Γ H Q' := fun ρ kp od code hl a w F QQ ha hs hh =>
  h ρ kp od code hl a w F QQ ha hs (fun e a' w' Γ' H' q => hh e a' w' Γ' H' (hq _ _ _ q))
theorem VCz.skip (h : Q .normal Γ H) : VCz P n .skip Γ H Q := by
  intro ρ kp od code hl a w F QQ ha hs hh
  obtain rfl := lowC_inv hl
  exact wpIn_skip (hh _ _ _ _ _ h ha rfl hs (.refl w))
theorem VCz.ret (h : Q .ret Γ H) : VCz P n .ret Γ H Q := by
  intro ρ kp od code hl a w F QQ ha hs hh
  obtain rfl := lowC_inv hl
  exact wpIn_ret (hh _ _ _ _ _ h ha rfl hs (.refl w))
theorem VCz.cond {c : Operand} {x y : IC} {t : Bool} (hc : ev Γ c = some (.bool t)) (ht : t = true → VCz P n x Γ H Q) (hf : t = false → VCz P n y Γ H Q) : VCz P n (.cond c x y) Γ H Q := by
  intro ρ kp od code hl a w F QQ ha hs hh
  obtain ⟨p, q, rfl, h1, h2⟩ := lowC_inv hl
  exact wpIn_cond_split (ha.ev hc) (fun e => ht e ρ kp od _ h1 a w F QQ ha hs hh) (fun e => hf e ρ kp od _ h2 a w F QQ ha hs hh)
theorem VCz.seq {x y : IC} (h : VCz P n x Γ H (thenQ (fun Γ' H' => VCz P n y Γ' H' Q) Q)) : VCz P n (.seq x y) Γ H Q := by
  intro ρ kp od code hl a w F QQ ha hs hh
  obtain ⟨p, q, rfl, h1, h2⟩ := lowC_inv hl
  refine wpIn_seq (h ρ kp od _ h1 a w F _ ha hs (fun e a' w' Γ' H' q g1 g2 g3 g4 => ?_))
  cases e <;> first
    | exact q ρ kp od _ h2 a' w' F QQ g1 g3 (fun e a2 w2 Γ2 H2 q2 k1 k2 k3 k4 => hh e a2 w2 Γ2 H2 q2 k1 (by rw [k2, g2]) k3 (g4.trans k4))
    | exact hh _ _ _ _ _ q g1 g2 g3 g4
theorem VCz.reg {rs : List RO} {keep : List Nat} (h : VO P n rs Γ H (fun ch Γ' H' => Q (.panic ch) Γ' H') fun Γ' H' => Q .normal (restr keep Γ') H') : VCz P n (.reg rs keep) Γ H Q := by
  intro ρ kp od code hl a w F QQ ha hs hh
  obtain ⟨id, ops, rfl, h1, rfl⟩ := lowC_inv hl
  refine wpIn_region ?_
  refine wpR_sound (P := P) (ρ := ρ) (n := n) (ops := ops) (X := fun i => (rs.zip ops.toList).getD i default) (QQ := QQ) (fun i hi => ?_) (List.range ops.size) a w (fun i hi => by simpa using hi) ?_
  · obtain ⟨g1, g2, g3⟩ := zip_getD h1 hi; exact ⟨g1, g3⟩
  · have hlen := (lowList_length h1).1
    have hmap : (List.range ops.size).map (fun i => (rs.zip ops.toList).getD i default) = rs.zip ops.toList := by
      have hzl : (rs.zip ops.toList).length = ops.size := by simp [hlen]
      apply List.ext_getElem?
      intro i
      simp only [List.getElem?_map]
      by_cases hi : i < ops.size
      · rw [List.getElem?_range hi, Option.map_some]
        rw [List.getD_eq_getElem?_getD]
        have : i < (rs.zip ops.toList).length := by omega
        rw [List.getElem?_eq_getElem this]; rfl
      · rw [List.getElem?_eq_none (l := List.range ops.size) (by simpa using hi), List.getElem?_eq_none (by omega)]; rfl
    rw [hmap]
    refine h (rs.zip ops.toList) ⟨?_, ?_⟩ a w F _ _ ha hs (fun a' w' Γ' H' q g1 g2 g3 g4 => hh .normal a' w' _ H' q (g1.sub (sub_restr _ _)) g2 g3 g4) (fun ch a' w' Γ' H' q g1 g2 g3 g4 => hh (.panic ch) a' w' _ H' q g1 g2 g3 g4)
    · rw [List.map_fst_zip]; simp [hlen]
    · intro x hx
      obtain ⟨i, hi⟩ := List.getElem?_of_mem hx
      have hi2 : i < (rs.zip ops.toList).length := (List.getElem?_eq_some_iff.1 hi).1
      have hi3 : i < ops.size := by simp [hlen] at hi2; omega
      obtain ⟨g1, g2, g3⟩ := zip_getD h1 hi3
      have : (rs.zip ops.toList).getD i default = x := by rw [List.getD_eq_getElem?_getD, hi]; rfl
      rw [this] at g3
      exact ⟨ops, g3⟩
end
def FunD (P : Program) (f : Nat) (args : List Value) (Pre : SH) (Q : Value → SH → Prop) : Prop :=
  callable P f = true ∧ ∀ F w u, Sat w (Pre.flatten ++ F) → CallsDIn (VFc none) 0 P f args.toArray u w fun e u' w' => u' = u ∧ ∃ v Post, e = .returned v ∧ Q v Post ∧ Sat w' (Post.flatten ++ F) ∧ Keeps w w'
theorem FunD.intro {P : Program} {kp : Nat → List Nat} {od : Nat → List (List Nat)} {f : Nat} {F : FIR} {args : List Value} {Pre : SH} {Q : Value → SH → Prop} (hl : lowF P kp od f = some F) (hn : args.length ≤ F.n)
    (h : VCz P F.n F.body (argsEnv 0 args) Pre (endQ F.res Q)) : FunD P f args Pre Q := by
  unfold lowF at hl
  split at hl
  · cases hl
  rename_i fn hfn
  split at hl
  · cases hl
  rename_i c hc
  split at hl
  case isFalse => cases hl
  rename_i hname
  split at hl
  case h_2 => cases hl
  rename_i b r hb hr
  cases hl
  refine ⟨by simp only [callable, hfn, hname, hc]; rfl, fun FF w u hs => ?_⟩
  refine callsDIn_of_wp (R := fun e w' => ∃ v Post, e = .returned v ∧ Q v Post ∧ Sat w' (Post.flatten ++ FF) ∧ Keeps w w') hfn hc trivial (h none kp od c hb _ w FF _ ⟨?_, fun t v e => ?_⟩ hs (fun e a' w' Γ' H' q g1 g2 g3 g4 => ?_))
  · simp at hn ⊢; omega
  · obtain ⟨_, h2⟩ := look_argsEnv e
    simp only [Nat.sub_zero] at h2
    have hlt : t < args.length := (List.getElem?_eq_some_iff.1 h2).1
    simp only [Array.getElem?_append, List.size_toArray, hlt, if_true]
    simpa using h2
  · obtain ⟨he, vs, Post, h1, h2, h3⟩ := q
    have hb : a'.defers = [] ∧ ∃ v, (results fn a'.tmps).run P w' = .ok v w' ∧ (∃ v' Post, (Ending.returned v) = .returned v' ∧ Q v' Post ∧ Sat w' (Post.flatten ++ FF) ∧ Keeps w w') :=
      ⟨g2, _, run_results g3 hr g1 h1, _, Post, rfl, h3, g3.imp h2, g4⟩
    rcases he with rfl | rfl <;> exact hb
theorem FunD.mono {P : Program} {f : Nat} {args : List Value} {Pre : SH} {Q Q' : Value → SH → Prop} (h : FunD P f args Pre Q) (hq : ∀ v Post, Q v Post → Q' v Post) : FunD P f args Pre Q' :=
  ⟨h.1, fun F w u hs => (h.2 F w u hs).mono fun _ _ _ ⟨hu, v, Post, a, b, c⟩ => ⟨hu, v, Post, a, hq _ _ b, c⟩⟩
structure DR where
  d : Nat
  g : Nat
  caps : List Operand
def lowDef (P : Program) (n : Nat) : Code → Option DR
  | .region _ ops false => match ops.toList with
    | [o1, o2] => match lowRO P n ops o1, o2.op with
      | some ⟨some d, none, .clos (.func g) [] caps⟩, .defer c => match c.callee with
        | .value (.tmp d') => if d' = d ∧ c.args.size = 0 ∧ o2.guard.isNone = true ∧ o2.dst.isNone = true then some ⟨d, g, caps⟩ else none
        | _ => none
      | _, _ => none
    | _ => none
  | _ => none
structure DIR where
  n : Nat
  res : List RV
  pre : List IC
  dr : DR
  post : IC
def lowD (P : Program) (n : Nat) (kp : Nat → List Nat) (od : Nat → List (List Nat)) : Code → Option (List IC × DR × IC)
  | .seq a b => match lowDef P n a with
    | some x => (lowC P n kp od b).map fun y => ([], x, y)
    | none => match lowC P n kp od a, lowD P n kp od b with
      | some x, some (l, d, y) => some (x :: l, d, y)
      | _, _ => none
  | _ => none
def lowFD (P : Program) (kp : Nat → List Nat) (od : Nat → List (List Nat)) (f : Nat) : Option DIR :=
  match P.funcs[f]? with
  | none => none
  | some fn => match fn.body with
    | none => none
    | some c => if fn.name != "runtime.NumGoroutine" then
        match lowD P fn.ntmps kp od c, resTmps P fn.results.toList with
        | some (l, d, y), some r => some ⟨fn.ntmps, r, l, d, y⟩
        | _, _ => none
      else none
def endD (P : Program) (g : Nat) (caps : List Value) (res : List RV) (Q : Value → SH → Prop) : Exit → Env → SH → Prop := fun e Γ H => (e = .normal ∨ e = .ret) ∧ ∃ Pre R Q2, FunD P g caps Pre Q2 ∧ Spl H Pre R ∧
  ∀ v Post, Q2 v Post → endQ res Q .ret Γ (Post ++ R)
def VD (P : Program) (n : Nat) (res : List RV) (dr : DR) (post : IC) (Q : Value → SH → Prop) : List IC → Env → SH → Prop
  | [], Γ, H => ∃ vs, evs Γ dr.caps = some vs ∧ VC P n post ((dr.d, .func (.func dr.g) #[] vs.toArray) :: Γ) H (endD P dr.g vs res Q)
  | x :: l, Γ, H => VC P n x Γ H (thenQ (fun Γ' H' => VD P n res dr post Q l Γ' H') (endQ res Q))
theorem lowDef_inv {P : Program} {n : Nat} {c : Code} {x : DR} (h : lowDef P n c = some x) : ∃ id ops o1 o2 cl, c = .region id ops false ∧ ops.toList = [o1, o2] ∧ lowRO P n ops o1 = some ⟨some x.d, none, .clos (.func x.g) [] x.caps⟩ ∧
    o2.op = .defer cl ∧ cl.callee = .value (.tmp x.d) ∧ cl.args = #[] ∧ o2.guard = none ∧ o2.dst = none := by
  unfold lowDef at h
  split at h
  case h_2 => cases h
  rename_i id ops
  split at h
  case h_2 => cases h
  rename_i o1 o2 hops
  split at h
  case h_2 => cases h
  rename_i d g caps c h1 h2
  split at h
  case h_2 => cases h
  rename_i d' hc
  split at h
  case isFalse => cases h
  rename_i hcond
  obtain ⟨rfl, h3, h4, h5⟩ := hcond
  cases h
  exact ⟨id, ops, o1, o2, c, rfl, hops, h1, h2, hc, by simpa using h3, by simpa using h4, by simpa using h5⟩
section
variable {P : Program} {n : Nat} {fn : Func} {tmps : Array Value} {FF : List Atom} {w0 : World}
theorem leaves_marks {R : Ending → World → Prop} {ds : List Deferred} {L : List Atom} : ∀ (X : List Nat) (w' : World), Sat w' (L ++ (FF ++ marks X)) → Keeps w0 w' →
    (∀ w'', Sat w'' (L ++ FF) → Keeps w0 w'' → LeavesInM (VFc none) 0 P fn tmps R ds .returning w'') → LeavesInM (VFc none) 0 P fn tmps R (X.map coll ++ ds) .returning w' := by
  intro X
  induction X with
  | nil => intro w' hs hk h; exact h w' (by simpa [V.marks] using hs) hk
  | cons r X ih =>
    intro w' hs hk h
    have hp : (L ++ (FF ++ V.marks (r :: X))).Perm (.obj r (.deferred (some [])) :: (L ++ (FF ++ V.marks X))) := by
      simp only [V.marks, List.map_cons]
      rw [← List.append_assoc, ← List.append_assoc]
      exact List.perm_middle
    have g5 := hs.perm hp
    obtain ⟨k1, k2⟩ := g5.obj (List.mem_cons_self ..)
    obtain ⟨s1, s2⟩ := Sat.setObj (u := .deferred none) g5 rfl
    refine ⟨by simp, .inl ⟨r, _, rfl, ?_, ih _ (s1.sub (List.sublist_cons_self ..)) (hk.trans s2) h⟩⟩
    simp [Instr.takeDeferred, Go.getObj, Go.setObj, Sem.run, k1]
theorem leaves_end {r : List RV} {Q : Value → SH → Prop} {a' : Act} {w' : World} {Γ' : Env} {H' : SH} {X : List Nat} {e : Exit} (hr : resTmps P fn.results.toList = some r) (q : endQ r Q e Γ' H') (g1 : Agree n Γ' a') (g3 : Sat w' (H'.flatten ++ (FF ++ marks X))) (g4 : Keeps w0 w') :
    LeavesInM (VFc none) 0 P fn a'.tmps (fun e w' => ∃ v Post, e = .returned v ∧ Q v Post ∧ Sat w' (Post.flatten ++ FF) ∧ Keeps w0 w') (X.map coll) .returning w' := by
  obtain ⟨he, vs, Post, h1, h2, h3⟩ := q
  have := leaves_marks (P := P) (fn := fn) (tmps := a'.tmps) (R := fun e w' => ∃ v Post, e = .returned v ∧ Q v Post ∧ Sat w' (Post.flatten ++ FF) ∧ Keeps w0 w') (ds := []) X w' g3 g4 (fun w'' s k => ⟨_, run_results s hr g1 h1, _, Post, rfl, h3, s.imp h2, k⟩)
  simpa using this
end
def FunP (P : Program) (f : Nat) (args : List Value) (Pre : SH) (Q : Value → SH → Prop) (Z : List PanicEntry → SH → Prop) : Prop :=
  callable P f = true ∧ ∀ F w, Sat w (Pre.flatten ++ F) →
    Calls P f args.toArray w fun e w' => ∃ Post, ((∃ v, e = .returned v ∧ Q v Post) ∨ (∃ ch, e = .panicked ch ∧ Z ch Post)) ∧ Sat w' (Post.flatten ++ F) ∧ Keeps w w'
section
variable {P : Program} {f : Nat} {args : List Value} {Pre : SH} {Q Q' : Value → SH → Prop} {Z Z' : List PanicEntry → SH → Prop}
theorem FunP.mono (h : FunP P f args Pre Q Z) (hq : ∀ v Post, Q v Post → Q' v Post) (hz : ∀ ch Post, Z ch Post → Z' ch Post) : FunP P f args Pre Q' Z' :=
  ⟨h.1, fun F w hs => (h.2 F w hs).mono fun _ _ ⟨Post, a, b, c⟩ => ⟨Post, a.imp (fun ⟨v, e, q⟩ => ⟨v, e, hq _ _ q⟩) (fun ⟨ch, e, q⟩ => ⟨ch, e, hz _ _ q⟩), b, c⟩⟩
theorem FunP.of_fun (h : Fun P f args Pre Q) : FunP P f args Pre Q Z :=
  ⟨h.1, fun F w hs => (h.2 F w hs).mono fun _ _ ⟨v, Post, a, b, c, d⟩ => ⟨Post, .inl ⟨v, a, b⟩, c, d⟩⟩
theorem FunP.fun (h : FunP P f args Pre Q (fun _ _ => False)) : Fun P f args Pre Q :=
  ⟨h.1, fun F w hs => (h.2 F w hs).mono fun _ _ ⟨Post, a, b, c⟩ => by
    rcases a with ⟨v, e, q⟩ | ⟨ch, e, q⟩
    · exact ⟨v, Post, e, q, b, c⟩
    · exact q.elim⟩
theorem FunP.conv {H R : SH} (h : FunP P f args Pre Q Z) (hs : Spl H Pre R) (hq : ∀ v Post, Q v Post → ∃ Post', Q' v Post' ∧ Imp (Post ++ R) Post') (hz : ∀ ch Post, Z ch Post → ∃ Post', Z' ch Post' ∧ Imp (Post ++ R) Post') : FunP P f args H Q' Z' := by
  refine ⟨h.1, fun F w hw => ?_⟩
  have hw' : Sat w (Pre.flatten ++ (R.flatten ++ F)) := by
    rw [← List.append_assoc]; exact hw.perm (List.Perm.append_right F hs)
  refine (h.2 (R.flatten ++ F) w hw').mono ?_
  rintro e w' ⟨Post, h1, h3, h4⟩
  have h3' : Sat w' ((Post ++ R).flatten ++ F) := by rw [List.flatten_append, List.append_assoc]; exact h3
  rcases h1 with ⟨v, e1, q⟩ | ⟨ch, e1, q⟩
  · obtain ⟨Post', h5, h6⟩ := hq v Post q
    exact ⟨Post', .inl ⟨v, e1, h5⟩, Sat.imp h6 h3', h4⟩
  · obtain ⟨Post', h5, h6⟩ := hz ch Post q
    exact ⟨Post', .inr ⟨ch, e1, h5⟩, Sat.imp h6 h3', h4⟩
end
section
variable {P : Program} {n : Nat} {rs : List RO} {Γ : Env} {H : SH} {Z : List PanicEntry → Env → SH → Prop} {K : Env → SH → Prop} {d : Option Nat}
theorem st_callZ {f : Nat} {xs : List Operand} {args : List Value} {Pre R : SH} {Q : Value → SH → Prop} {Z' : List PanicEntry → SH → Prop} (hf : FunP P f args Pre Q Z') (he : evs Γ xs = some args) (hs : Spl H Pre R)
    (h : ∀ v Post, Q v Post → VO P n rs (putE d v Γ) (Post ++ R) Z K) (hz' : ∀ ch Post, Z' ch Post → Z ch Γ (Post ++ R)) : VO P n (⟨d, none, .call f xs⟩ :: rs) Γ H Z K := by
  intro l hl a w F ZZ Q' ha hsat hq hz
  obtain ⟨o, l', rfl, hl', ops, ho⟩ := low_cons hl
  obtain ⟨g1, g2, g3, g4⟩ := lowRO_spec ho
  show wpR1 P ZZ (_, o) (wpR P ZZ Q' l') a w
  unfold wpR1
  simp only [wantedR, show isPure (V.R.call f xs) = false from rfl, show isRead (V.R.call f xs) = false from rfl, if_true, Bool.false_eq_true, if_false]
  refine ⟨fun e => (by cases e), ?_⟩
  obtain ⟨c, h1, h2, h3, h4⟩ := low_call g1
  have hargs : (c.args.map a.eval) = args.toArray := by
    apply Array.toList_inj.1; rw [Array.toList_map, h3, ha.evs he]
  have hrun : (execOp a.eval o).run P w = .ok (.enter f args.toArray) w := by
    simp [execOp, h1, resolve, h2, Act.eval, Deferred.ofValue, invoke, hargs, run_callFunc h4]
  refine wp_call hrun ?_
  have hsat' : Sat w (Pre.flatten ++ (R.flatten ++ F)) := by
    rw [← List.append_assoc]; exact hsat.perm (hs.append_right F)
  refine (hf.2 (R.flatten ++ F) w hsat').mono ?_
  rintro e w' ⟨Post, h5, hs', hk⟩
  have hs2 : Sat w' ((Post ++ R).flatten ++ F) := by rw [List.flatten_append, List.append_assoc]; exact hs'
  rcases h5 with ⟨v, rfl, hQ⟩ | ⟨ch, rfl, hQ⟩
  · refine .inl ⟨v, rfl, ?_⟩
    rw [← g2]
    exact h v Post hQ l' hl' _ w' F ZZ Q' (ha.putE g3 v) hs2 (fun a2 w2 Γ2 H2 k1 k2 k3 k4 k5 => hq a2 w2 Γ2 H2 k1 k2 (k3.trans (put_defers ..)) k4 (hk.trans k5)) (fun ch a2 w2 Γ2 H2 k1 k2 k3 k4 k5 => hz ch a2 w2 Γ2 H2 k1 k2 (k3.trans (put_defers ..)) k4 (hk.trans k5))
  · exact .inr ⟨ch, rfl, hz ch a w' Γ _ (hz' ch Post hQ) ha rfl hs2 hk⟩
theorem st_pnc {x : Operand} {t : TypeId} {v : Value} (hx : ev Γ x = some (.iface t v)) (h : Z [{ v := .iface t v, recovered := false }] Γ H) : VO P n (⟨d, none, .pnc x⟩ :: rs) Γ H Z K := by
  intro l hl a w F ZZ Q' ha hsat hq hz
  obtain ⟨o, l', rfl, hl', ops, ho⟩ := low_cons hl
  obtain ⟨g1, g2, g3, g4⟩ := lowRO_spec ho
  show wpR1 P ZZ (_, o) (wpR P ZZ Q' l') a w
  unfold wpR1
  simp only [wantedR, show isPure (V.R.pnc x) = false from rfl, show isRead (V.R.pnc x) = false from rfl, if_true, Bool.false_eq_true, if_false]
  refine ⟨fun e => (by cases e), ?_⟩
  have hop : o.op = .panic x := by
    obtain ⟨dst, op, ty, pos, after, guard⟩ := o
    simp only at g1 ⊢
    cases op
    case panic y => simp only [lowOp, Option.some.injEq, V.R.pnc.injEq] at g1; rw [g1]
    all_goals (exfalso; try simp only [lowOp] at g1)
    all_goals (repeat' split at g1)
    all_goals first
      | (cases g1; done)
      | (simp only [Option.map_eq_some_iff] at g1; obtain ⟨_, _, g1⟩ := g1; cases g1; done)
  have hrun : (execOp a.eval o).run P w = .halt (.panic (.iface t v)) w := by
    simp [execOp, hop, ha.ev hx, Instr.panic, goPanic, Sem.run]
  simp only [wpV, hrun, uponV]
  exact hz _ a w Γ H h ha rfl hsat (.refl w)
end
def endP (res : List RV) (Q : Value → SH → Prop) (Z : List PanicEntry → SH → Prop) : Exit → Env → SH → Prop
  | .panic ch, _, H => ∃ Post, Imp H Post ∧ Z ch Post
  | e, Γ, H => endQ res Q e Γ H
theorem endP_mk {res : List RV} {Q : Value → SH → Prop} {Z : List PanicEntry → SH → Prop} {e : Exit} {Γ : Env} {H : SH} (h : endQ res Q e Γ H) : endP res Q Z e Γ H := by
  have he := h.1
  rcases he with rfl | rfl <;> exact h
section
variable {P : Program} {fn : Func} {tmps : Array Value} {FF : List Atom} {w0 : World}
theorem leaves_marksU {R : Ending → World → Prop} {ds : List Deferred} {L : List Atom} {u : FrameMode} (hu : u ≠ .run) : ∀ (X : List Nat) (w' : World), Sat w' (L ++ (FF ++ marks X)) → Keeps w0 w' →
    (∀ w'', Sat w'' (L ++ FF) → Keeps w0 w'' → LeavesInM (VFc none) 0 P fn tmps R ds u w'') → LeavesInM (VFc none) 0 P fn tmps R (X.map coll ++ ds) u w' := by
  intro X
  induction X with
  | nil => intro w' hs hk h; exact h w' (by simpa [V.marks] using hs) hk
  | cons r X ih =>
    intro w' hs hk h
    have hp : (L ++ (FF ++ V.marks (r :: X))).Perm (.obj r (.deferred (some [])) :: (L ++ (FF ++ V.marks X))) := by
      simp only [V.marks, List.map_cons]
      rw [← List.append_assoc, ← List.append_assoc]
      exact List.perm_middle
    have g5 := hs.perm hp
    obtain ⟨k1, k2⟩ := g5.obj (List.mem_cons_self ..)
    obtain ⟨s1, s2⟩ := Sat.setObj (u := .deferred none) g5 rfl
    refine ⟨hu, .inl ⟨r, _, rfl, ?_, ih _ (s1.sub (List.sublist_cons_self ..)) (hk.trans s2) h⟩⟩
    simp [Instr.takeDeferred, Go.getObj, Go.setObj, Sem.run, k1]
end
theorem FunP.intro {P : Program} {kp : Nat → List Nat} {od : Nat → List (List Nat)} {f : Nat} {F : FIR} {args : List Value} {Pre : SH} {Q : Value → SH → Prop} {Z : List PanicEntry → SH → Prop} (hl : lowF P kp od f = some F) (hn : args.length ≤ F.n)
    (h : VC P F.n F.body (argsEnv 0 args) Pre (endP F.res Q Z)) : FunP P f args Pre Q Z := by
  unfold lowF at hl
  split at hl
  · cases hl
  rename_i fn hfn
  split at hl
  · cases hl
  rename_i c hc
  split at hl
  case isFalse => cases hl
  rename_i hname
  split at hl
  case h_2 => cases hl
  rename_i b r hb hr
  cases hl
  refine ⟨by simp only [callable, hfn, hname, hc]; rfl, fun FF w hs => ?_⟩
  refine (callsIn_wide (n := 0)).1 (callsIn_of_wp_marks hfn hc trivial (h none kp od c hb _ w FF _ (fun l e => by cases e) ⟨?_, fun t v e => ?_⟩ hs (fun e a' w' Γ' H' X q g1 g2 g3 g4 => ?_)))
  · simp at hn ⊢; omega
  · obtain ⟨_, h2⟩ := look_argsEnv e
    simp only [Nat.sub_zero] at h2
    have hlt : t < args.length := (List.getElem?_eq_some_iff.1 h2).1
    simp only [Array.getElem?_append, List.size_toArray, hlt, if_true]
    simpa using h2
  · have hret : ∀ e0, endQ r Q e0 Γ' H' → LeavesInM (VFc none) 0 P fn a'.tmps (fun e w' => ∃ Post, ((∃ v, e = .returned v ∧ Q v Post) ∨ (∃ ch, e = .panicked ch ∧ Z ch Post)) ∧ Sat w' (Post.flatten ++ FF) ∧ Keeps w w') a'.defers .returning w' := by
      rintro e0 ⟨_, vs, Post, h1, h2, h3⟩
      have := leaves_marksU (P := P) (fn := fn) (tmps := a'.tmps) (w0 := w) (FF := FF) (L := H'.flatten) (u := .returning) (R := fun e w' => ∃ Post, ((∃ v, e = .returned v ∧ Q v Post) ∨ (∃ ch, e = .panicked ch ∧ Z ch Post)) ∧ Sat w' (Post.flatten ++ FF) ∧ Keeps w w') (ds := []) (by simp) X w' g3 g4
        (fun w'' s k => ⟨_, run_results s hr g1 h1, Post, .inl ⟨_, rfl, h3⟩, s.imp h2, k⟩)
      rw [g2]; exact this
    cases e with
    | normal => exact hret _ q
    | ret => exact hret _ q
    | panic ch =>
      obtain ⟨Post, h2, h3⟩ := q
      have := leaves_marksU (P := P) (fn := fn) (tmps := a'.tmps) (w0 := w) (FF := FF) (L := H'.flatten) (u := .panicking ch) (R := fun e w' => ∃ Post, ((∃ v, e = .returned v ∧ Q v Post) ∨ (∃ ch, e = .panicked ch ∧ Z ch Post)) ∧ Sat w' (Post.flatten ++ FF) ∧ Keeps w w') (ds := []) (by simp) X w' g3 g4
        (fun w'' s k => (⟨Post, .inr ⟨ch, rfl, h3⟩, s.imp h2, k⟩ : ∃ Post, _))
      show LeavesInM _ _ _ _ _ _ a'.defers _ _
      rw [g2]; exact this
    | exit id => exact absurd q.1 (by simp)
    | goto l => exact absurd q.1 (by simp)
    | outgrown => exact absurd q.1 (by simp)
def FunVP (P : Program) (fv : Value) (args : List Value) (Pre : SH) (Q : Value → SH → Prop) (Z : List PanicEntry → SH → Prop) : Prop :=
  ∀ F w, Sat w (Pre.flatten ++ F) → Invk P fv args w fun e w' => ∃ Post, ((∃ v, e = .returned v ∧ Q v Post) ∨ (∃ ch, e = .panicked ch ∧ Z ch Post)) ∧ Sat w' (Post.flatten ++ F) ∧ Keeps w w'
theorem FunVP.of_fun {P : Program} {f : Nat} {first cap : Array Value} {args : List Value} {Pre : SH} {Q : Value → SH → Prop} {Z : List PanicEntry → SH → Prop} (h : FunP P f (first.toList ++ args ++ cap.toList) Pre Q Z) : FunVP P (.func (.func f) first cap) args Pre Q Z := by
  intro F w hs
  refine ⟨h.1, ?_⟩
  have hall : first ++ args.toArray ++ cap = (first.toList ++ args ++ cap.toList).toArray := by
    apply Array.toList_inj.1; simp
  rw [hall]
  exact h.2 F w hs
theorem st_callVZ {P : Program} {n : Nat} {rs : List RO} {Γ : Env} {H : SH} {Z : List PanicEntry → Env → SH → Prop} {K : Env → SH → Prop} {d : Option Nat} {x : Operand} {fv : Value} {xs : List Operand} {args : List Value} {Pre R : SH} {Q : Value → SH → Prop} {Z' : List PanicEntry → SH → Prop}
    (hx : ev Γ x = some fv) (hf : FunVP P fv args Pre Q Z') (he : evs Γ xs = some args) (hs : Spl H Pre R)
    (h : ∀ v Post, Q v Post → VO P n rs (putE d v Γ) (Post ++ R) Z K) (hz' : ∀ ch Post, Z' ch Post → Z ch Γ (Post ++ R)) : VO P n (⟨d, none, .callv x xs⟩ :: rs) Γ H Z K := by
  intro l hl a w F ZZ Q' ha hsat hq hz
  obtain ⟨o, l', rfl, hl', ops, ho⟩ := low_cons hl
  obtain ⟨g1, g2, g3, g4⟩ := lowRO_spec ho
  show wpR1 P ZZ (_, o) (wpR P ZZ Q' l') a w
  unfold wpR1
  have hp : isPure (V.R.callv x xs) = false := rfl
  have hr : isRead (V.R.callv x xs) = false := rfl
  simp only [wantedR, hp, hr, if_true, Bool.false_eq_true, if_false]
  refine ⟨fun e => (by cases e), ?_⟩
  obtain ⟨c, h1, h2, h3⟩ := low_callv g1
  have hm : xs.map a.eval = args := ha.evs he
  have hargs : (c.args.map a.eval) = args.toArray := by
    apply Array.toList_inj.1; rw [Array.toList_map, h3, hm]
  have hsat' : Sat w (Pre.flatten ++ (R.flatten ++ F)) := by
    rw [← List.append_assoc]; exact hsat.perm (hs.append_right F)
  have hi := hf (R.flatten ++ F) w hsat'
  have fin : ∀ (e : Ending) (w' : World), (∃ Post, ((∃ v, e = .returned v ∧ Q v Post) ∨ (∃ ch, e = .panicked ch ∧ Z' ch Post)) ∧ Sat w' (Post.flatten ++ (R.flatten ++ F)) ∧ Keeps w w') →
      (∃ v, e = .returned v ∧ wpR P ZZ Q' l' (a.put o.dst v) w') ∨ (∃ ch, e = .panicked ch ∧ ZZ (.panic ch) a w') := by
    rintro e w' ⟨Post, h5, hs', hk⟩
    have hs2 : Sat w' ((Post ++ R).flatten ++ F) := by rw [List.flatten_append, List.append_assoc]; exact hs'
    rcases h5 with ⟨v, rfl, hQ⟩ | ⟨ch, rfl, hQ⟩
    · refine .inl ⟨v, rfl, ?_⟩
      rw [← g2]
      exact h v Post hQ l' hl' _ w' F ZZ Q' (ha.putE g3 v) hs2 (fun a2 w2 Γ2 H2 k1 k2 k3 k4 k5 => hq a2 w2 Γ2 H2 k1 k2 (k3.trans (put_defers ..)) k4 (hk.trans k5)) (fun ch a2 w2 Γ2 H2 k1 k2 k3 k4 k5 => hz ch a2 w2 Γ2 H2 k1 k2 (k3.trans (put_defers ..)) k4 (hk.trans k5))
    · exact .inr ⟨ch, rfl, hz ch a w' Γ _ (hz' ch Post hQ) ha rfl hs2 hk⟩
  have hev : a.eval x = fv := ha.ev hx
  unfold Invk at hi
  split at hi
  · rename_i f first cap
    have hrun : (execOp a.eval o).run P w = .ok (.enter f (first ++ args.toArray ++ cap)) w := by
      simp [execOp, h1, resolve, h2, hev, Deferred.ofValue, invoke, hargs]
      rw [run_callFunc hi.1]
    simp only [wpV, hrun, uponV]
    refine hi.2.mono (fun e w' he => ?_)
    rcases fin e w' he with ⟨v, rfl, hv⟩ | ⟨ch, rfl, hv⟩ <;> exact hv
  · rename_i l0 first cap
    obtain ⟨f, tmps, asg, body, hy, hrd⟩ := hi
    have hrun : (execOp a.eval o).run P w = .ok (.round l0 f tmps asg body) w := by
      simp [execOp, h1, resolve, h2, hev, Deferred.ofValue, invoke, hargs]
      exact hy
    simp only [wpV, hrun, uponV]
    refine hrd.mono (fun e w' he => ?_)
    rcases fin e w' he with ⟨v, rfl, hv⟩ | ⟨ch, rfl, hv⟩ <;> exact hv
  · exact hi.elim
def okRcv (r : R) : Bool := isPure r || isRead r || isNew r || (match r with | .store .. => true | _ => false)
def isRcv (o : Oper) : Bool := match o.op with
  | .call c => (match c.callee with | .builtin .recover => true | _ => false) && o.guard.isNone
  | _ => false
def lowRcv (P : Program) (n : Nat) (kp : Nat → List Nat) (od : Nat → List (List Nat)) : Code → Option (Nat × List RO × IC)
  | .seq (.region _ ops false) c => match ops.toList with
    | o1 :: os => if isRcv o1 then match o1.dst, lowList P n ops os, lowC P n kp od c with
      | some d, some rs, some y => if d < n ∧ rs.all (fun r => okRcv r.op) = true then some (d, rs, y) else none
      | _, _, _ => none else none
    | [] => none
  | _ => none
structure RIR where
  n : Nat
  res : List RV
  d : Nat
  rs : List RO
  post : IC
def lowFR (P : Program) (kp : Nat → List Nat) (od : Nat → List (List Nat)) (f : Nat) : Option RIR :=
  match P.funcs[f]? with
  | none => none
  | some fn => match fn.body with
    | none => none
    | some c => if fn.name != "runtime.NumGoroutine" then
        match lowRcv P fn.ntmps kp od c, resTmps P fn.results.toList with
        | some (d, rs, y), some r => some ⟨fn.ntmps, r, d, rs, y⟩
        | _, _ => none
      else none
def FunDR (P : Program) (f : Nat) (args : List Value) (u u' : FrameMode) (Pre : SH) (Q : SH → Prop) : Prop :=
  callable P f = true ∧ ∀ F w, Sat w (Pre.flatten ++ F) → CallsDIn (VFc none) 0 P f args.toArray u w fun e u2 w' => u2 = u' ∧ ∃ v Post, e = .returned v ∧ Q Post ∧ Sat w' (Post.flatten ++ F) ∧ Keeps w w'
inductive Rcv : FrameMode → Value → FrameMode → Prop where
  | none : Rcv .returning .nilIface .returning
  | some {v : Value} : Rcv (.panicking [{ v := v, recovered := false }]) v (.panicking [{ v := v, recovered := true }])
section
variable {P : Program} {n m : Nat} {ops : Array Oper} {Q : Exit → Act → List Frame → World → Prop} {cs : List Frame}
theorem run_storeO {o : Oper} {t : TypeId} {x y : Operand} (h : o.op = .store t x y) {ρ : Operand → Value} {w : World} : (∃ w', (execOp ρ o).run P w = .ok .skip w') ∨ (∃ e w', (execOp ρ o).run P w = .halt e w') := by
  simp only [execOp, h]
  rw [Sem.run_bind]
  cases hh : (Instr.storeAt t (ρ x) (ρ y)).run P w with
  | ok v w' => exact .inl ⟨w', rfl⟩
  | halt e w' => exact .inr ⟨e, w', rfl⟩
theorem opsS_pure : ∀ (l : List (RO × Oper)) (idx : List Nat), idx.map (fun i => ops[i]?) = l.map (fun x => some x.2) → (∀ x ∈ l, okRcv x.1.op = true ∧ lowRO P n ops x.2 = some x.1) →
    ∀ (a : Act) (w : World), wpR P (fun _ _ _ => False) (fun a' w' => Q .normal a' cs w') l a w → wpOpsSIn (VFc none) m P ops Q idx a cs w := by
  intro l
  induction l with
  | nil =>
    intro idx hi _ a w h
    obtain rfl : idx = [] := by simpa using hi
    exact h
  | cons x l ih =>
    intro idx hi hx a w h
    cases idx with
    | nil => simp at hi
    | cons i idx =>
      simp only [List.map_cons, List.cons.injEq] at hi
      obtain ⟨hi1, hi2⟩ := hi
      obtain ⟨hp, hlow⟩ := hx x (by simp)
      obtain ⟨g1, g2, g3, g4⟩ := lowRO_spec hlow
      have ih' := ih idx hi2 (fun y hy => hx y (by simp [hy]))
      simp only [wpOpsSIn, hi1]
      refine ⟨fun _ _ => trivial, ?_⟩
      rw [g4 a]
      have h' : wpR1 P (fun _ _ _ => False) x (wpR P (fun _ _ _ => False) (fun a' w' => Q .normal a' cs w') l) a w := h
      unfold wpR1 at h'
      by_cases hw : wantedR x.1.guard a = true
      · rw [if_pos hw] at h' ⊢
        by_cases hpu : isPure x.1.op = true
        · rw [if_pos hpu] at h'
          obtain ⟨v, e, hn⟩ := h'
          have hrun : (execOp a.eval x.2).run P w = .ok (.value v) w := pure_sound (w := w) (eval_const a) g1 e
          rw [hrun]
          rw [g2] at hn
          exact ih' _ _ hn
        · by_cases hre : isRead x.1.op = true
          · rw [if_neg hpu, if_pos hre] at h'
            obtain ⟨s, v, e, er, hn⟩ := h'
            have hrun : (execOp a.eval x.2).run P w = .ok (.value v) w := mem_sound (eval_const a) g1 e (er w (.refl w))
            rw [hrun]
            rw [g2] at hn
            exact ih' _ _ hn
          · rw [if_neg hpu, if_neg hre] at h'
            obtain ⟨hnew, hv⟩ := h'
            by_cases hnw : isNew x.1.op = true
            · obtain ⟨u, w', hrun, _⟩ := hnew hnw
              simp only [wpV, hrun, uponV] at hv
              rw [hrun]
              exact ih' _ _ hv
            · have hst : ∃ k y z, x.1.op = .store k y z := by
                simp only [okRcv, Bool.or_eq_true] at hp
                rcases hp with ((h | h) | h) | h
                · exact absurd h hpu
                · exact absurd h hre
                · exact absurd h hnw
                · split at h
                  · exact ⟨_, _, _, by assumption⟩
                  · cases h
              obtain ⟨k, y, z, hst⟩ := hst
              have hop : ∃ t, x.2.op = .store t y z := by
                rw [hst] at g1
                generalize x.2 = oo at g1 ⊢
                obtain ⟨dst, op, ty, pos, after, guard⟩ := oo
                simp only at g1 ⊢
                cases op
                case store t y' z' =>
                  simp only [lowOp, Option.map_eq_some_iff] at g1
                  obtain ⟨i, _, g1⟩ := g1
                  cases g1
                  exact ⟨_, rfl⟩
                all_goals (exfalso; try simp only [lowOp] at g1)
                all_goals (repeat' split at g1)
                all_goals first
                  | (cases g1; done)
                  | (simp only [Option.map_eq_some_iff] at g1; obtain ⟨_, _, g1⟩ := g1; cases g1; done)
              obtain ⟨t, hop⟩ := hop
              rcases run_storeO (P := P) hop (ρ := a.eval) (w := w) with ⟨w', hrun⟩ | ⟨e, w', hrun⟩
              · simp only [wpV, hrun, uponV] at hv
                rw [hrun]
                exact ih' _ _ hv
              · simp only [wpV, hrun] at hv
                cases e <;> exact hv.elim
      · rw [if_neg hw] at h' ⊢
        rw [g2] at h'
        exact ih' _ _ h'
end
theorem FunDR.intro {P : Program} {kp : Nat → List Nat} {od : Nat → List (List Nat)} {f : Nat} {F : RIR} {args : List Value} {Pre : SH} {u u' : FrameMode} {rv : Value} {Q : SH → Prop} (hl : lowFR P kp od f = some F) (hn : args.length ≤ F.n) (hu : Rcv u rv u')
    (h : VO P F.n F.rs ((F.d, rv) :: argsEnv 0 args) Pre (fun _ _ _ => False) fun Γ' H' => VCz P F.n F.post Γ' H' (endQ F.res fun _ Post => Q Post)) : FunDR P f args u u' Pre Q := by
  unfold lowFR at hl
  split at hl
  · cases hl
  rename_i fn hfn
  split at hl
  · cases hl
  rename_i c hc
  split at hl
  case isFalse => cases hl
  rename_i hname
  split at hl
  case h_2 => cases hl
  rename_i d rs y r hb hr
  cases hl
  refine ⟨by simp only [callable, hfn, hname, hc]; rfl, fun FF w hs => ?_⟩
  unfold lowRcv at hb
  split at hb
  case h_2 => cases hb
  rename_i id ops c2
  split at hb
  case h_2 => cases hb
  rename_i o1 os hops
  split at hb
  case isFalse => cases hb
  rename_i hrcv
  split at hb
  case h_2 => cases hb
  rename_i d' rs' y' hd1 hd2 hd3
  split at hb
  case isFalse => cases hb
  rename_i hcond
  cases hb
  obtain ⟨hdn, hall⟩ := hcond
  refine callsDIn_of_wpSIn hfn hc trivial (fun c₀ cs hmode => ?_)
  have hsz : ops.size = os.length + 1 := by rw [← Array.length_toList, hops]; rfl
  refine wpSIn_seq (wpSIn_region ?_)
  rw [hsz, List.range_succ_eq_map]
  have h0 : ops[0]? = some o1 := by rw [← Array.getElem?_toList, hops]; rfl
  unfold isRcv at hrcv
  split at hrcv
  case h_2 => cases hrcv
  rename_i cl hcl
  simp only [Bool.and_eq_true] at hrcv
  obtain ⟨hcal, hg⟩ := hrcv
  have hcal' : cl.callee = .builtin .recover := by
    split at hcal
    · assumption
    · cases hcal
  have hg' : o1.guard = none := by simpa using hg
  obtain ⟨a0, ha0⟩ : ∃ a0 : Act, a0 = { tmps := args.toArray ++ Array.replicate (fn.ntmps - args.toArray.size) undef, defers := [] } := ⟨_, rfl⟩
  rw [← ha0]
  have hagree : Agree fn.ntmps (argsEnv 0 args) a0 := by
    rw [ha0]
    refine ⟨?_, fun t v e => ?_⟩
    · simp at hn ⊢; omega
    · obtain ⟨_, h2⟩ := look_argsEnv e
      simp only [Nat.sub_zero] at h2
      have hlt : t < args.length := (List.getElem?_eq_some_iff.1 h2).1
      simp only [Array.getElem?_append, List.size_toArray, hlt, if_true]
      simpa using h2
  have hdef : a0.defers = [] := by rw [ha0]
  simp only [wpOpsSIn, h0]
  refine ⟨fun _ _ => trivial, ?_⟩
  have hw : Region.wanted o1 (yielded ops a0.tmps) = true := by simp [Region.wanted, hg']
  rw [if_pos hw]
  have hrun : (execOp a0.eval o1).run P w = .ok .recover w := by
    simp [execOp, hcl, resolve, hcal', invoke, builtin]
  rw [hrun]
  have hag1 := hagree.put hdn rv
  have hl2 : lowList P fn.ntmps ops os = some rs := hd2
  obtain ⟨hlen, hget⟩ := lowList_length hl2
  have key : ∀ cs', (∃ u2, cs' = { c₀ with mode := u2 } :: cs ∧ u2 = u') → wpOpsSIn (VFc none) 0 P ops (Exit.thenS (c2.wpSIn (VFc none) 0 P (bodyPostS P fn c₀ cs fun e u2 w' => u2 = u' ∧ ∃ v Post, e = .returned v ∧ Q Post ∧ Sat w' (Post.flatten ++ FF) ∧ Keeps w w')) (bodyPostS P fn c₀ cs fun e u2 w' => u2 = u' ∧ ∃ v Post, e = .returned v ∧ Q Post ∧ Sat w' (Post.flatten ++ FF) ∧ Keeps w w')) (List.map Nat.succ (List.range os.length)) (a0.put o1.dst rv) cs' w := by
    rintro cs' ⟨u2, rfl, rfl⟩
    refine opsS_pure (n := fn.ntmps) (rs.zip os) _ ?_ ?_ _ _ ?_
    · apply List.ext_getElem?
      intro i
      simp only [List.getElem?_map]
      by_cases hi : i < os.length
      · rw [List.getElem?_range hi]
        have hz : (rs.zip os)[i]? = some (rs[i]'(by omega), os[i]) := by
          rw [List.getElem?_eq_getElem (by simp; omega)]; simp
        rw [hz]
        simp only [Option.map_some]
        rw [← Array.getElem?_toList, hops]
        simp [hi]
      · rw [List.getElem?_eq_none (by simpa using hi), List.getElem?_eq_none (by simp; omega)]; rfl
    · intro x hx
      obtain ⟨i, hi⟩ := List.getElem?_of_mem hx
      have hil := (List.getElem?_eq_some_iff.1 hi).1
      simp at hil
      have e : (rs.zip os)[i]? = some (rs[i]'(by omega), os[i]'(by omega)) := by
        rw [List.getElem?_eq_getElem (by simp; omega)]; simp
      rw [e] at hi
      cases hi
      refine ⟨?_, hget i _ _ (List.getElem?_eq_getElem (by omega)) (List.getElem?_eq_getElem (by omega))⟩
      exact List.all_eq_true.1 hall _ (List.getElem_mem _)
    · rw [hd1]
      refine h (rs.zip os) ⟨by rw [List.map_fst_zip]; omega, fun x hx => ?_⟩ _ w FF _ _ hag1 hs (fun a2 w2 Γ2 H2 q k1 k2 k3 k4 => ?_) (fun _ _ _ _ _ q => q.elim)
      · obtain ⟨i, hi⟩ := List.getElem?_of_mem hx
        have hil := (List.getElem?_eq_some_iff.1 hi).1
        simp at hil
        have e : (rs.zip os)[i]? = some (rs[i]'(by omega), os[i]'(by omega)) := by
          rw [List.getElem?_eq_getElem (by simp; omega)]; simp
        rw [e] at hi
        cases hi
        exact ⟨ops, hget i _ _ (List.getElem?_eq_getElem (by omega)) (List.getElem?_eq_getElem (by omega))⟩
      · show c2.wpSIn _ _ _ _ a2 _ w2
        refine wpSIn_of_wpIn rfl ?_
        refine q none kp od c2 hd3 a2 w2 FF _ k1 k3 (fun e a3 w3 Γ3 H3 q3 j1 j2 j3 j4 => ?_)
        obtain ⟨he, vs, Post, e1, e2, e3⟩ := q3
        have hdd : a3.defers = [] := by rw [j2, k2, put_defers, hdef]
        have hb : a3.defers = [] ∧ ∃ u2', ({ c₀ with mode := u2 } :: cs : List Frame) = { c₀ with mode := u2' } :: cs ∧ ∃ v, (results fn a3.tmps).run P w3 = .ok v w3 ∧ (u2' = u2 ∧ ∃ v' Post, (Ending.returned v) = .returned v' ∧ Q Post ∧ Sat w3 (Post.flatten ++ FF) ∧ Keeps w w3) :=
          ⟨hdd, u2, rfl, _, run_results j3 hr j1 e1, rfl, _, Post, rfl, e3, j3.imp e2, k4.trans j4⟩
        rcases he with rfl | rfl <;> exact hb
  cases hu with
  | none =>
    have hrd : recoverD (c₀ :: cs) = none := by simp [recoverD, hmode]
    simp only [hrd]
    refine key _ ⟨.returning, ?_, rfl⟩
    have : c₀ = { c₀ with mode := .returning } := by cases c₀; simp_all
    rw [← this]
  | some =>
    have hrd : recoverD (c₀ :: cs) = some (rv, { c₀ with mode := .panicking [{ v := rv, recovered := true }] } :: cs) := by simp [recoverD, hmode]
    simp only [hrd]
    exact key _ ⟨_, rfl, rfl⟩
def endDP (P : Program) (g : Nat) (caps : List Value) (res : List RV) (Q : Value → SH → Prop) : Exit → Env → SH → Prop
  | .panic ch, Γ, H => ∃ Pre R Q2 u', FunDR P g caps (.panicking ch) u' Pre Q2 ∧ settle u' = .returning ∧ Spl H Pre R ∧ ∀ Post, Q2 Post → endQ res Q .ret Γ (Post ++ R)
  | e, Γ, H => (e = .normal ∨ e = .ret) ∧ ∃ Pre R Q2, FunDR P g caps .returning .returning Pre Q2 ∧ Spl H Pre R ∧ ∀ Post, Q2 Post → endQ res Q .ret Γ (Post ++ R)
def VDP (P : Program) (n : Nat) (res : List RV) (dr : DR) (post : IC) (Q : Value → SH → Prop) : List IC → Env → SH → Prop
  | [], Γ, H => ∃ vs, evs Γ dr.caps = some vs ∧ VC P n post ((dr.d, .func (.func dr.g) #[] vs.toArray) :: Γ) H (endDP P dr.g vs res Q)
  | x :: l, Γ, H => VC P n x Γ H (thenQ (fun Γ' H' => VDP P n res dr post Q l Γ' H') (endQ res Q))
section
variable {P : Program} {n : Nat} {fn : Func} {tmps : Array Value} {FF : List Atom} {w0 : World}
theorem vdp_sound {kp : Nat → List Nat} {od : Nat → List (List Nat)} {r : List RV} {Q : Value → SH → Prop} (hr : resTmps P fn.results.toList = some r) : ∀ (l : List IC) (c : Code) (dr : DR) (y : IC), lowD P n kp od c = some (l, dr, y) →
    ∀ Γ H a w X, VDP P n r dr y Q l Γ H → Agree n Γ a → Sat w (H.flatten ++ (FF ++ marks X)) → a.defers = X.map coll → Keeps w0 w →
    c.wpIn (VFc none) 0 P (bodyPostM (VFc none) 0 P fn (fun e w' => ∃ v Post, e = .returned v ∧ Q v Post ∧ Sat w' (Post.flatten ++ FF) ∧ Keeps w0 w')) a w := by
  intro l
  induction l with
  | nil =>
    intro c dr y hl Γ H a w X hv ha hs hd hk
    unfold lowD at hl
    split at hl
    case h_2 => cases hl
    rename_i p q
    split at hl
    case h_2 =>
      split at hl <;> cases hl
    rename_i x hx
    simp only [Option.map_eq_some_iff] at hl
    obtain ⟨y', hy, he⟩ := hl
    cases he
    obtain ⟨id, ops, o1, o2, cl, rfl, hops, h1, h2, hcal, hargs, hg, hdst⟩ := lowDef_inv hx
    obtain ⟨vs, hvs, hpost⟩ := hv
    refine wpIn_seq (wpIn_region_list ?_)
    rw [hops]
    obtain ⟨g1, g2, g3, g4⟩ := lowRO_spec h1
    have hv1 : pureV a.eval (.clos (.func dr.g) [] dr.caps) = some (.func (.func dr.g) #[] vs.toArray) := by
      simp [pureV, ha.evs hvs]
    have hrun : (execOp a.eval o1).run P w = .ok (.value (.func (.func dr.g) #[] vs.toArray)) w := pure_sound (w := w) (eval_const a) g1 hv1
    have ha1 := ha.putE g3 (.func (.func dr.g) #[] vs.toArray)
    simp only at ha1 g2
    simp only [wpListIn, g4 a, wantedR, if_true]
    refine ⟨fun _ _ => trivial, ?_⟩
    rw [Oper.semAt_none, hrun]
    show (if Region.wanted o2 (yielded ops (a.put o1.dst _).tmps) then _ else _)
    rw [← g2]
    have hw : Region.wanted o2 (yielded ops (a.put (some dr.d) (.func (.func dr.g) #[] vs.toArray)).tmps) = true := by simp [Region.wanted, hg]
    rw [if_pos hw]
    have hev : (a.put (some dr.d) (.func (.func dr.g) #[] vs.toArray)).eval (.tmp dr.d) = .func (.func dr.g) #[] vs.toArray := ha1.ev (by simp [V.ev, V.putE, V.look])
    have hdef : (execOp (a.put (some dr.d) (.func (.func dr.g) #[] vs.toArray)).eval o2).run P w = .ok (.defer { target := .fn (.func dr.g) vs.toArray, args := #[] }) w := by
      simp [execOp, h2, resolve, hcal, hargs, hev, Deferred.ofValue]
    refine ⟨fun _ _ => trivial, ?_⟩
    rw [Oper.semAt_none, hdef, Oper.uponIn_defer, hdst]
    show q.wpIn _ _ _ _ _ w
    have hputd : (a.put (some dr.d) (.func (.func dr.g) #[] vs.toArray)).defers = a.defers := put_defers ..
    refine hpost none kp od _ hy _ w (FF ++ marks X) _ (fun l e => by cases e) ⟨ha1.size, ha1.slots⟩ hs (fun e a' w' Γ' H' Y q k1 k2 k3 k4 => ?_)
    have hdefs : a'.defers = Y.map coll ++ ({ target := .fn (.func dr.g) vs.toArray, args := #[] } :: X.map coll) := by
      rw [k2]
      show _ ++ ({ target := .fn (.func dr.g) vs.toArray, args := #[] } :: (a.put (some dr.d) (.func (.func dr.g) #[] vs.toArray)).defers) = _
      rw [hputd, hd]
    have go : ∀ (u u' : FrameMode) (Pre Rr : SH) (Q2 : SH → Prop), u ≠ .run → settle u' = .returning → FunDR P dr.g vs u u' Pre Q2 → Spl H' Pre Rr → (∀ Post, Q2 Post → endQ r Q .ret Γ' (Post ++ Rr)) →
        LeavesInM (VFc none) 0 P fn a'.tmps (fun e w' => ∃ v Post, e = .returned v ∧ Q v Post ∧ Sat w' (Post.flatten ++ FF) ∧ Keeps w0 w') a'.defers u w' := by
      intro u u' Pre Rr Q2 hu hset hfd hspl hfin
      rw [hdefs]
      refine leaves_marksU (w0 := w0) (FF := FF ++ marks X) hu Y w' k3 (hk.trans k4) (fun w2 s2 c2 => ?_)
      refine ⟨hu, .inr ⟨by simp, .func dr.g, vs.toArray, dr.g, vs.toArray, rfl, ?_, fun _ _ => trivial, ?_⟩⟩
      · simp [invoke, run_callFunc hfd.1]
      · have hs2 : Sat w2 (Pre.flatten ++ (Rr.flatten ++ (FF ++ marks X))) := by
          rw [← List.append_assoc]; exact s2.perm (hspl.append_right _)
        refine (hfd.2 (Rr.flatten ++ (FF ++ marks X)) w2 hs2).mono ?_
        rintro e2 u2 w3 ⟨rfl, v, Post, rfl, hq2, hs3, hk3⟩
        show LeavesInM _ _ _ _ _ _ (X.map coll) (settle u2) w3
        rw [hset]
        refine leaves_end hr (hfin Post hq2) k1 ?_ (c2.trans hk3)
        rw [List.flatten_append, List.append_assoc]; exact hs3
    cases e with
    | normal =>
      obtain ⟨_, Pre, Rr, Q2, hfd, hspl, hfin⟩ := q
      exact go .returning .returning Pre Rr Q2 (by simp) rfl hfd hspl hfin
    | ret =>
      obtain ⟨_, Pre, Rr, Q2, hfd, hspl, hfin⟩ := q
      exact go .returning .returning Pre Rr Q2 (by simp) rfl hfd hspl hfin
    | panic ch =>
      obtain ⟨Pre, Rr, Q2, u', hfd, hset, hspl, hfin⟩ := q
      exact go (.panicking ch) u' Pre Rr Q2 (by simp) hset hfd hspl hfin
    | exit id => exact absurd q.1 (by simp)
    | goto l => exact absurd q.1 (by simp)
    | outgrown => exact absurd q.1 (by simp)
  | cons x l ih =>
    intro c dr y hl Γ H a w X hv ha hs hd hk
    unfold lowD at hl
    split at hl
    case h_2 => cases hl
    rename_i p q
    split at hl
    · simp only [Option.map_eq_some_iff] at hl
      obtain ⟨y', hy, he⟩ := hl
      cases he
    split at hl
    case h_2 => cases hl
    rename_i x' l' d' y' hx hq
    cases hl
    refine wpIn_seq (hv none kp od _ hx a w (FF ++ marks X) _ (fun l e => by cases e) ha hs (fun e a' w' Γ' H' Y q k1 k2 k3 k4 => ?_))
    have hdefs : a'.defers = (Y ++ X).map coll := by rw [k2, hd]; simp
    cases e <;> first
      | exact ih _ _ _ hq Γ' H' a' w' (Y ++ X) q k1 k3.marks hdefs (hk.trans k4)
      | (obtain ⟨he, _⟩ := q; simp at he; done)
      | (show LeavesInM _ _ _ _ _ _ a'.defers _ w'; rw [hdefs]; exact leaves_end hr q k1 k3.marks (hk.trans k4))
end
theorem Fun.introDP {P : Program} {kp : Nat → List Nat} {od : Nat → List (List Nat)} {f : Nat} {F : DIR} {args : List Value} {Pre : SH} {Q : Value → SH → Prop} (hl : lowFD P kp od f = some F) (hn : args.length ≤ F.n)
    (h : VDP P F.n F.res F.dr F.post Q F.pre (argsEnv 0 args) Pre) : Fun P f args Pre Q := by
  unfold lowFD at hl
  split at hl
  · cases hl
  rename_i fn hfn
  split at hl
  · cases hl
  rename_i c hc
  split at hl
  case isFalse => cases hl
  rename_i hname
  split at hl
  case h_2 => cases hl
  rename_i l d y r hb hr
  cases hl
  refine ⟨by simp only [callable, hfn, hname, hc]; rfl, fun FF w hs => ?_⟩
  refine (callsIn_wide (n := 0)).1 (callsIn_of_wp_marks hfn hc trivial (vdp_sound hr l c d y hb _ _ _ w [] h ⟨?_, fun t v e => ?_⟩ (by simpa [V.marks] using hs) rfl (.refl w)))
  · simp at hn ⊢; omega
  · obtain ⟨_, h2⟩ := look_argsEnv e
    simp only [Nat.sub_zero] at h2
    have hlt : t < args.length := (List.getElem?_eq_some_iff.1 h2).1
    simp only [Array.getElem?_append, List.size_toArray, hlt, if_true]
    simpa using h2
def laidA {α : Type} {X F : α} (_h : F = X := by (dsimp only [qm, qk, qz, qo, ql, qf, qi, qb, qc, qn, qs, qp, qa, qr, qe, tmps, qx, qL, qN, qB, qt, qu, qS, qC, nthO, ordO, ordsO, qD] <;> exact rfl)) : α := F
def SubAt : Value → Nat → Value → Prop
  | .slice (some ⟨b, o, none⟩) k c, l, dv => dv = .slice (some ⟨b, (if c = l then o else o + l), none⟩) (k - l) (c - l)
  | .slice none k c, l, dv => dv = .slice none (k - l) (c - l)
  | _, _, _ => False
section
variable {P : Program} {n : Nat} {rs : List RO} {Γ : Env} {H : SH} {Z : List PanicEntry → Env → SH → Prop} {K : Env → SH → Prop} {d : Option Nat}
end
def setObj (objs : List (Nat × FO)) (b : Nat) (fo : FO) : List (Nat × FO) := objs.map fun p => if p.1 = b then (b, fo) else p
end Go.V

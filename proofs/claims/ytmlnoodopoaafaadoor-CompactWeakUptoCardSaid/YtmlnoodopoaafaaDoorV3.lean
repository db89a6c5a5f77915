/-
  A region's operations, one behind the other or in whatever order their edges allow.
-/
import Derived.Test.YtmlnoodopoaafaaDoorV2
import Derived.Orders
import Derived.RangeFuncIn
import Derived.RangeFuncLeaves
import Derived.OwnWalkIn
set_option linter.unusedSimpArgs false
set_option linter.unusedVariables false
namespace Go.V
open Go
structure RO where
  dst : Option Nat
  guard : Option (Nat × Bool)
  op : R
def lowRO (P : Program) (n : Nat) (ops : Array Oper) (o : Oper) : Option RO :=
  match lowOp P o.op with
  | none => none
  | some r =>
    if o.dst.all (· < n) then
      match o.guard with
      | none => some ⟨o.dst, none, r⟩
      | some (j, b) => match (ops[j]?).bind (·.dst) with
        | some s => some ⟨o.dst, some (s, b), r⟩
        | none => none
    else none
def isRead : R → Bool
  | .load1 .. | .loadN .. | .mlen .. | .lookup .. | .entry .. | .b2s .. => true
  | _ => false
def isNew : R → Bool
  | .alloc .. | .box .. | .bslice .. | .mkmap | .s2b .. => true
  | .append _ _ _ _ (.const (.slice none 0 0)) _ => true
  | _ => false
def Ext (w w' : World) : Prop := ∀ (i : Nat) (o : Obj), w.heap[i]? = some o → w'.heap[i]? = some o
theorem Ext.refl (w : World) : Ext w w := fun _ _ h => h
theorem Ext.trans {a b c : World} (h : Ext a b) (k : Ext b c) : Ext a c := fun i o e => k i o (h i o e)
theorem Sat.ext {w w' : World} {L : List Atom} (h : Sat w L) (e : Ext w w') : Sat w' L := ⟨fun x hx => by
  have := h.holds x hx
  cases x with
  | cell b off v => obtain ⟨c, t, lo, hi, h1, h2⟩ := this; exact ⟨c, t, lo, hi, e _ _ h1, h2⟩
  | obj b o => exact ⟨e _ _ this.1, this.2⟩
  | row b n => obtain ⟨c, t, lo, hi, h1, h2⟩ := this; exact ⟨c, t, lo, hi, e _ _ h1, h2⟩, h.nodup⟩
def isPure : R → Bool
  | .mv .. | .pick .. | .bin .. | .eqb .. | .eqnil .. | .eqagg .. | .un .. | .conv .. | .cvs .. | .mkif .. | .clos .. | .ext .. | .build .. | .nilck .. | .fld .. | .fldV .. | .idxA .. | .idxL .. | .idxS .. | .idxV .. | .slcS ..
  | .slcL .. | .slcA .. | .lenS .. | .lenL .. | .cap .. | .min2 .. | .max2 .. | .tassert .. => true
  | _ => false
def wantedR (g : Option (Nat × Bool)) (a : Act) : Bool :=
  match g with
  | none => true
  | some (s, b) => match a.tmps[s]? with | some (.bool c) => c == b | _ => false
def noWay : Exit → Act → World → Prop := fun _ _ _ => False
abbrev VFc (ρ : Option Nat) : Fence := { fn := fun _ => True, depth := none, alive := false, round := ρ }
def uponV (P : Program) (o : Oper) (a : Act) (next : Act → World → Prop) (Z : Exit → Act → World → Prop) : Result Next → Prop
  | .ok (.value v) w' => next (a.put o.dst v) w'
  | .ok .skip w' => next (a.put o.dst undef) w'
  | .ok (.enter f args) w' => Calls P f args w' fun
      | .returned v, w'' => next (a.put o.dst v) w''
      | .panicked chain, w'' => Z (.panic chain) a w''
      | .outgrown, _ => False
  | .ok (.round l f tmps assign body) w' => RoundIn Fence.wide 0 P l f tmps assign body w' fun
      | .returned v, w'' => next (a.put o.dst v) w''
      | .panicked chain, w'' => Z (.panic chain) a w''
      | .outgrown, _ => False
  | .halt (.panic v) w' => Z (.panic [{ v, recovered := false }]) a w'
  | _ => False
def wpV (P : Program) (o : Oper) (a : Act) (w : World) (next : Act → World → Prop) (Z : Exit → Act → World → Prop) : Prop := uponV P o a next Z ((execOp a.eval o).run P w)
theorem callsIn_v {P : Program} {ρ : Option Nat} {n : Nat} {f : FuncId} {args : Array Value} {w : World} {R : Ending → World → Prop} (h : Calls P f args w R) : CallsIn (VFc ρ) n P f args w R :=
  ⟨trivial, fun cs _ => let ⟨e, w', fr, r, s, x⟩ := h cs; ⟨e, w', fr, r, comesIn_wide.2 s, x⟩⟩
theorem uponV_in {P : Program} {ρ : Option Nat} {o : Oper} {a : Act} {next : Act → World → Prop} {Z : Exit → Act → World → Prop} {r : Result Next} (h : uponV P o a next Z r) : o.uponIn (VFc ρ) 0 P a next Z r := by
  cases r with
  | ok n w' =>
    cases n <;> simp only [uponV] at h <;> simp only [Oper.uponIn] <;> first
      | exact h
      | exact h.elim
      | exact ⟨fun h => by simp at h, callsIn_v (Calls.mono h (fun e w'' he => by cases e <;> first | exact he | exact he.elim))⟩
      | exact ⟨fun h => by simp at h, RoundIn.mono h (fun e w'' he => by cases e <;> first | exact he | exact he.elim)⟩
  | halt x w' => cases x <;> simp only [uponV] at h <;> simp only [Oper.uponIn] <;> exact h
def wpA (P : Program) (Z : Exit → Act → World → Prop) (x : RO × Oper) (next : Act → World → Prop) (a : Act) (w : World) : Prop :=
  (isNew x.1.op = true → ∃ u w', (execOp a.eval x.2).run P w = .ok (.value u) w' ∧ Ext w w') ∧ wpV P x.2 a w next Z
def wpR1 (P : Program) (Z : Exit → Act → World → Prop) (x : RO × Oper) (next : Act → World → Prop) (a : Act) (w : World) : Prop :=
  if wantedR x.1.guard a then
    if isPure x.1.op then ∃ v, pureV a.eval x.1.op = some v ∧ next (a.put x.1.dst v) w
    else if isRead x.1.op then ∃ s v, memS a.eval x.1.op = some s ∧ (∀ w', Ext w w' → s.run P w' = .ok (.value v) w') ∧ next (a.put x.1.dst v) w
    else wpA P Z x next a w
  else next (a.put x.1.dst undef) w
def wpR (P : Program) (Z : Exit → Act → World → Prop) (Q : Act → World → Prop) : List (RO × Oper) → Act → World → Prop
  | [], a, w => Q a w
  | x :: rest, a, w => wpR1 P Z x (wpR P Z Q rest) a w
section
variable {P : Program} {Z : Exit → Act → World → Prop} {Q Q' : Act → World → Prop} {a : Act} {w : World}
theorem wpV_mono {o : Oper} {K K' : Act → World → Prop} (h : ∀ a w, K a w → K' a w) (hh : wpV P o a w K Z) : wpV P o a w K' Z := by
  unfold wpV at *
  generalize (execOp a.eval o).run P w = r at *
  cases r with
  | ok n w' =>
    cases n <;> simp only [uponV] at hh ⊢ <;> first
      | exact h _ _ hh
      | exact Calls.mono hh (fun e w'' he => by cases e <;> first | exact h _ _ he | exact he)
      | exact RoundIn.mono hh (fun e w'' he => by cases e <;> first | exact h _ _ he | exact he)
  | halt x w' => cases x <;> simp only [uponV] at hh ⊢ <;> exact hh
theorem wpR1_mono {x : RO × Oper} (h : ∀ a w, Q a w → Q' a w) (hh : wpR1 P Z x Q a w) : wpR1 P Z x Q' a w := by
  unfold wpR1 at *
  split
  · rename_i h1; rw [if_pos h1] at hh
    split
    · rename_i h2; rw [if_pos h2] at hh; obtain ⟨v, e, hv⟩ := hh; exact ⟨v, e, h _ _ hv⟩
    · rename_i h2; rw [if_neg h2] at hh
      split
      · rename_i h3; rw [if_pos h3] at hh; obtain ⟨s, v, e, e', hv⟩ := hh; exact ⟨s, v, e, e', h _ _ hv⟩
      · rename_i h3; rw [if_neg h3] at hh; exact ⟨hh.1, wpV_mono h hh.2⟩
  · rename_i h1; rw [if_neg h1] at hh; exact h _ _ hh
theorem wpV_zmono {o : Oper} {K : Act → World → Prop} (hh : wpV P o a w K noWay) : wpV P o a w K Z := by
  unfold wpV at *
  generalize (execOp a.eval o).run P w = r at *
  cases r with
  | ok n w' =>
    cases n <;> simp only [uponV] at hh ⊢ <;> first
      | exact hh
      | exact Calls.mono hh (fun e w'' he => by cases e <;> first | exact he | exact he.elim)
      | exact RoundIn.mono hh (fun e w'' he => by cases e <;> first | exact he | exact he.elim)
  | halt x w' => cases x <;> simp only [uponV] at hh ⊢ <;> exact hh.elim
theorem wpR_zmono {l : List (RO × Oper)} : ∀ {a w}, wpR P noWay Q l a w → wpR P Z Q l a w := by
  induction l with
  | nil => intro a w hh; exact hh
  | cons x l ih =>
    intro a w hh
    have h1 : wpR1 P noWay x (wpR P Z Q l) a w := wpR1_mono (fun a w h => ih h) hh
    show wpR1 P Z x (wpR P Z Q l) a w
    unfold wpR1 at *
    split
    · rename_i h2; rw [if_pos h2] at h1
      split
      · rename_i h3; rw [if_pos h3] at h1; exact h1
      · rename_i h3; rw [if_neg h3] at h1
        split
        · rename_i h4; rw [if_pos h4] at h1; exact h1
        · rename_i h4; rw [if_neg h4] at h1; exact ⟨h1.1, wpV_zmono h1.2⟩
    · rename_i h2; rw [if_neg h2] at h1; exact h1
theorem lowRO_spec {n : Nat} {ops : Array Oper} {o : Oper} {r : RO} (h : lowRO P n ops o = some r) : lowOp P o.op = some r.op ∧ r.dst = o.dst ∧ (∀ d, r.dst = some d → d < n) ∧
    ∀ a : Act, Region.wanted o (yielded ops a.tmps) = wantedR r.guard a := by
  unfold lowRO at h
  split at h
  · cases h
  · rename_i r' hr
    split at h
    case isFalse => cases h
    rename_i hd
    have hd' : ∀ d, o.dst = some d → d < n := by intro d e; rw [e] at hd; simpa using hd
    split at h
    · rename_i hg; cases h
      exact ⟨hr, rfl, hd', fun a => by simp [Region.wanted, hg, wantedR]⟩
    · rename_i j b hg
      split at h
      case h_2 => cases h
      rename_i s hs
      cases h
      refine ⟨hr, rfl, hd', fun a => ?_⟩
      simp only [Region.wanted, hg, yielded, hs, Option.bind_some, wantedR]
      cases a.tmps[s]? with
      | none => simp
      | some v => cases v <;> simp
theorem eval_const (a : Act) (u : Value) : a.eval (.const u) = u := rfl
theorem wpR_sound {ρ : Option Nat} {n : Nat} {ops : Array Oper} {X : Nat → RO × Oper} {QQ : Exit → Act → World → Prop} (hX : ∀ i, i < ops.size → ops[i]? = some (X i).2 ∧ lowRO P n ops (X i).2 = some (X i).1) :
    ∀ (l : List Nat) (a : Act) (w : World), (∀ i ∈ l, i < ops.size) → wpR P QQ (QQ .normal) (l.map X) a w → wpOpsIn (VFc ρ) 0 P ops QQ l a w := by
  intro l
  induction l with
  | nil => intro a w _ h; exact h
  | cons i l ih =>
    intro a w hl h
    obtain ⟨h1, h2⟩ := hX i (hl i (by simp))
    obtain ⟨g1, g2, g3, g4⟩ := lowRO_spec h2
    have ih' := fun a w => ih a w (fun j hj => hl j (by simp [hj]))
    have nd : ∀ c, (X i).2.op ≠ .defer c := fun c e => by rw [e] at g1; simp [lowOp] at g1
    simp only [List.map_cons, wpR, wpR1] at h
    simp only [wpOpsIn, h1, g4 a]
    split
    · rename_i hw; rw [if_pos hw] at h
      refine ⟨fun _ _ => trivial, ?_⟩
      rw [Oper.semAt_plain _ _ _ nd]
      refine uponV_in ?_
      split at h
      · obtain ⟨v, hv, hn⟩ := h
        simp only [pure_sound (w := w) (eval_const a) g1 hv, uponV, ← g2]
        exact ih' _ _ hn
      · split at h
        · obtain ⟨s, v, hs, hr, hn⟩ := h
          simp only [mem_sound (eval_const a) g1 hs (hr w (.refl w)), uponV, ← g2]
          exact ih' _ _ hn
        · exact wpV_mono ih' h.2
    · rename_i hw; rw [if_neg hw] at h
      refine ⟨fun _ _ => trivial, ?_⟩
      rw [← g2]; exact ih' _ _ h
end
def guardTmps (g : Option (Nat × Bool)) : List Nat := match g with | some (s, _) => [s] | none => []
def optl (x : Option Operand) : List Operand := x.toList
def rOps : R → List Operand
  | .mv x | .un _ x | .conv _ x | .cvs x | .mkif _ x | .ext x _ | .nilck x | .fld _ x | .fldV _ _ _ x | .lenS x | .lenL x | .cap x | .tassert _ _ _ x | .eqnil _ _ x | .load1 x | .loadN _ x | .mlen x | .entry x | .b2s x => [x]
  | .pick c a b => [c, a, b]
  | .bin _ x y | .eqb _ x y | .eqagg _ _ x y | .idxA _ _ x y | .idxL _ x y | .idxS x y | .idxV _ _ _ x y | .min2 x y | .max2 x y | .lookup _ _ _ x y => [x, y]
  | .clos _ f c => f ++ c
  | .build _ ps => ps.map (·.2.2)
  | .slcS x lo hi => x :: (optl lo ++ optl hi)
  | .slcL _ x lo hi mx => x :: (optl lo ++ optl hi ++ optl mx)
  | .slcA _ _ x lo hi => x :: (optl lo ++ optl hi)
  | _ => []
def opTmps (l : List Operand) : List Nat := l.filterMap fun | .tmp t => some t | _ => none
def looks (x : RO × Oper) : List Nat := guardTmps x.1.guard ++ (if isPure x.1.op || isRead x.1.op then opTmps (rOps x.1.op) else opTmps x.2.op.operands.toList)
def apart1 (x y : RO × Oper) : Bool := match x.1.dst with | some d => !(looks y).contains d && y.1.dst != some d | none => true
def indep (x y : RO × Oper) : Bool := apart1 x y && apart1 y x && (isPure x.1.op || isPure y.1.op || (isRead x.1.op && isRead y.1.op) || (isNew x.1.op && isRead y.1.op))
theorem opt_congr {ρ ρ' : Operand → Value} {o : Option Operand} (h : ∀ x ∈ optl o, ρ x = ρ' x) : o.map ρ = o.map ρ' := by
  cases o with
  | none => rfl
  | some x => simp [h x (by simp [optl])]
theorem pureV_congr {ρ ρ' : Operand → Value} {r : R} (hp : isPure r = true) (h : ∀ x ∈ rOps r, ρ x = ρ' x) : pureV ρ r = pureV ρ' r := by
  cases r <;> simp only [isPure] at hp <;> first | (cases hp; done) | skip
  case clos f first c =>
    simp only [rOps, List.mem_append] at h
    simp only [pureV]
    rw [List.map_congr_left (fun x hx => h x (.inl hx)), List.map_congr_left (fun x hx => h x (.inr hx))]
  case build z ps =>
    simp only [rOps, List.mem_map] at h
    simp only [pureV]
    have : evParts ρ ps = evParts ρ' ps := by
      simp only [evParts]
      refine List.map_congr_left (fun p hp => ?_)
      obtain ⟨a, b, c⟩ := p
      simp [h c ⟨_, hp, rfl⟩]
    rw [this]
  case slcS x lo hi =>
    simp only [rOps, List.mem_cons, List.mem_append] at h
    simp only [pureV, h x (.inl rfl), opt_congr (fun y hy => h y (.inr (.inl hy))), opt_congr (fun y hy => h y (.inr (.inr hy)))]
  case slcL z x lo hi mx =>
    simp only [rOps, List.mem_cons, List.mem_append] at h
    simp only [pureV, h x (.inl rfl), opt_congr (fun y hy => h y (.inr (.inl (.inl hy)))), opt_congr (fun y hy => h y (.inr (.inl (.inr hy)))), opt_congr (fun y hy => h y (.inr (.inr hy)))]
  case slcA n z x lo hi =>
    simp only [rOps, List.mem_cons, List.mem_append] at h
    simp only [pureV, h x (.inl rfl), opt_congr (fun y hy => h y (.inr (.inl hy))), opt_congr (fun y hy => h y (.inr (.inr hy)))]
  case un op x => cases op <;> simp only [rOps, List.mem_singleton, forall_eq] at h <;> simp only [pureV, h]
  all_goals (simp only [rOps, List.mem_cons, List.not_mem_nil, or_false, forall_eq_or_imp, forall_eq] at h; simp only [pureV, h])
theorem memS_congr {ρ ρ' : Operand → Value} {r : R} (hp : isRead r = true) (h : ∀ x ∈ rOps r, ρ x = ρ' x) : memS ρ r = memS ρ' r := by
  cases r <;> simp only [isRead] at hp <;> first | (cases hp; done) | skip
  all_goals (simp only [rOps, List.mem_cons, List.not_mem_nil, or_false, forall_eq_or_imp, forall_eq] at h; simp only [memS, h])
section
variable {P : Program}
theorem eval_put_of {a : Act} {d : Option Nat} {v : Value} {l : List Operand} (h : ∀ t, d = some t → t ∉ opTmps l) {x : Operand} (hx : x ∈ l) : (a.put d v).eval x = a.eval x := by
  refine Act.eval_put (fun t e hxt => ?_)
  subst hxt
  exact h t e (by simp only [opTmps, List.mem_filterMap]; exact ⟨_, hx, rfl⟩)
theorem wanted_put_of {a : Act} {d : Option Nat} {v : Value} {g : Option (Nat × Bool)} (h : ∀ t, d = some t → t ∉ guardTmps g) : wantedR g (a.put d v) = wantedR g a := by
  cases g with
  | none => rfl
  | some p =>
    obtain ⟨s, b⟩ := p
    cases d with
    | none => rfl
    | some t =>
      have hne : t ≠ s := fun e => h t rfl (by simp [guardTmps, e])
      simp [wantedR, Act.put, Array.getElem?_setIfInBounds_ne hne]
def Yv (P : Program) (x : RO × Oper) (a : Act) (w : World) (v : Value) : Prop :=
  if wantedR x.1.guard a then
    if isPure x.1.op then pureV a.eval x.1.op = some v else ∃ s, memS a.eval x.1.op = some s ∧ ∀ w', Ext w w' → s.run P w' = .ok (.value v) w'
  else v = undef
theorem wpR1_quiet {Z : Exit → Act → World → Prop} {x : RO × Oper} (hq : (isPure x.1.op || isRead x.1.op) = true) {K : Act → World → Prop} {a : Act} {w : World} : wpR1 P Z x K a w ↔ ∃ v, Yv P x a w v ∧ K (a.put x.1.dst v) w := by
  unfold wpR1 Yv
  split
  · split
    · exact Iff.rfl
    · rename_i hp
      have hr : isRead x.1.op = true := by simpa [hp] using hq
      rw [if_pos hr]
      constructor
      · rintro ⟨s, v, h1, h2, h3⟩; exact ⟨v, ⟨s, h1, h2⟩, h3⟩
      · rintro ⟨v, ⟨s, h1, h2⟩, h3⟩; exact ⟨s, v, h1, h2, h3⟩
  · constructor
    · intro h; exact ⟨_, rfl, h⟩
    · rintro ⟨v, rfl, h⟩; exact h
theorem looks_parts {x : RO × Oper} {t : Nat} (h : t ∉ looks x) : t ∉ guardTmps x.1.guard ∧ ((isPure x.1.op || isRead x.1.op) = true → t ∉ opTmps (rOps x.1.op)) ∧ ((isPure x.1.op || isRead x.1.op) = false → t ∉ opTmps x.2.op.operands.toList) := by
  simp only [looks, List.mem_append, not_or] at h
  refine ⟨h.1, fun e => ?_, fun e => ?_⟩
  · rw [if_pos e] at h; exact h.2
  · rw [if_neg (by simp [e])] at h; exact h.2
theorem Yv_put {x : RO × Oper} (hq : (isPure x.1.op || isRead x.1.op) = true) {d : Option Nat} (hd : ∀ t, d = some t → t ∉ looks x) {a : Act} {w : World} {u v : Value} : Yv P x (a.put d u) w v ↔ Yv P x a w v := by
  unfold Yv
  rw [wanted_put_of (fun t e => (looks_parts (hd t e)).1)]
  have he : ∀ y ∈ rOps x.1.op, (a.put d u).eval y = a.eval y := fun y hy => eval_put_of (fun t e => (looks_parts (hd t e)).2.1 hq) hy
  split
  · split
    · rename_i hp; rw [pureV_congr hp he]
    · rename_i hp
      have hr : isRead x.1.op = true := by simpa [hp] using hq
      rw [memS_congr hr he]
  · exact Iff.rfl
theorem Yv_pure {x : RO × Oper} (hp : isPure x.1.op = true) {a : Act} {w w' : World} {v : Value} : Yv P x a w v ↔ Yv P x a w' v := by
  unfold Yv; simp [hp]
theorem Yv_ext {x : RO × Oper} {a : Act} {w w' : World} {v : Value} (h : Yv P x a w v) (e : Ext w w') : Yv P x a w' v := by
  unfold Yv at *
  split at h
  · rename_i hw; rw [if_pos hw]
    split at h
    · rename_i hp; rw [if_pos hp]; exact h
    · rename_i hp; rw [if_neg hp]
      obtain ⟨s, h1, h2⟩ := h
      exact ⟨s, h1, fun w2 e2 => h2 w2 (e.trans e2)⟩
  · rename_i hw; rw [if_neg hw]; exact h
theorem Yv_fun {x : RO × Oper} {a : Act} {w : World} {u v : Value} (h : Yv P x a w u) (k : Yv P x a w v) : u = v := by
  unfold Yv at *
  split at h
  · rename_i hw; rw [if_pos hw] at k
    split at h
    · rename_i hp; rw [if_pos hp] at k; rw [h] at k; cases k; rfl
    · rename_i hp; rw [if_neg hp] at k
      obtain ⟨s, h1, h2⟩ := h; obtain ⟨s', k1, k2⟩ := k
      rw [h1] at k1; cases k1; have h3 := h2 w (.refl w); rw [k2 w (.refl w)] at h3; cases h3; rfl
  · rename_i hw; rw [if_neg hw] at k; rw [h, k]
end
section
variable {P : Program}
theorem upon_put {o : Oper} {a : Act} {d : Nat} {u : Value} (hd : o.dst ≠ some d) {K : Act → World → Prop} {r : Result Next}
    (h : uponV P o a (fun a' w' => K (a'.put (some d) u) w') noWay r) : uponV P o (a.put (some d) u) K noWay r := by
  have hc : ∀ v, (a.put o.dst v).put (some d) u = (a.put (some d) u).put o.dst v := fun v => Act.put_comm a v u (fun e h1 h2 => hd (by rw [h1, ← h2]))
  cases r with
  | ok n w' =>
    cases n <;> simp only [uponV] at h ⊢
    case value v => rw [← hc]; exact h
    case skip => rw [← hc]; exact h
    case enter f args => exact Calls.mono h (fun e w'' he => by cases e <;> first | (simp only at he ⊢; rw [← hc]; exact he) | exact he)
    case round l f tmps assign body => exact RoundIn.mono h (fun e w'' he => by cases e <;> first | (simp only at he ⊢; rw [← hc]; exact he) | exact he)
  | halt x w' => cases x <;> simp only [uponV] at h ⊢ <;> exact h
theorem upon_put' {o : Oper} {a : Act} {d : Nat} {u : Value} (hd : o.dst ≠ some d) {K : Act → World → Prop} {r : Result Next}
    (h : uponV P o (a.put (some d) u) K noWay r) : uponV P o a (fun a' w' => K (a'.put (some d) u) w') noWay r := by
  have hc : ∀ v, (a.put o.dst v).put (some d) u = (a.put (some d) u).put o.dst v := fun v => Act.put_comm a v u (fun e h1 h2 => hd (by rw [h1, ← h2]))
  cases r with
  | ok n w' =>
    cases n <;> simp only [uponV] at h ⊢
    case value v => rw [hc]; exact h
    case skip => rw [hc]; exact h
    case enter f args => exact Calls.mono h (fun e w'' he => by cases e <;> first | (simp only at he ⊢; rw [hc]; exact he) | exact he)
    case round l f tmps assign body => exact RoundIn.mono h (fun e w'' he => by cases e <;> first | (simp only at he ⊢; rw [hc]; exact he) | exact he)
  | halt x w' => cases x <;> simp only [uponV] at h ⊢ <;> exact h
theorem upon_exists {o : Oper} {a : Act} {K : Act → World → Prop} {r : Result Next} (h : uponV P o a K noWay r) : ∃ ds v w', K ({ a with defers := ds }.put o.dst v) w' := by
  cases r with
  | ok n w' =>
    cases n <;> simp only [uponV] at h
    case value v => exact ⟨a.defers, v, w', h⟩
    case skip => exact ⟨a.defers, undef, w', h⟩
    case enter f args =>
      obtain ⟨e, w1, fr, hR, _⟩ := h []
      cases e with
      | returned v => exact ⟨a.defers, v, w1, hR⟩
      | panicked c => exact hR.elim
      | outgrown => exact hR.elim
    case round l f tmps assign body =>
      obtain ⟨e, w1, hR, _⟩ := h.2 default [] (room_wide _)
      cases e with
      | returned v => exact ⟨a.defers, v, w1, hR⟩
      | panicked c => exact hR.elim
      | outgrown => exact hR.elim
  | halt x w' => cases x <;> simp only [uponV] at h <;> exact h.elim
theorem eval_defers (a : Act) (ds : List Deferred) : ({ a with defers := ds } : Act).eval = a.eval := by funext x; cases x <;> rfl
theorem Yv_defers {x : RO × Oper} {a : Act} {ds : List Deferred} {w : World} {v : Value} : Yv P x { a with defers := ds } w v ↔ Yv P x a w v := by
  unfold Yv
  rw [eval_defers]
  have : wantedR x.1.guard { a with defers := ds } = wantedR x.1.guard a := by cases x.1.guard <;> rfl
  rw [this]
structure Good (P : Program) (n : Nat) (ops : Array Oper) (x : RO × Oper) : Prop where
  low : lowRO P n ops x.2 = some x.1
  sel : ∀ cs b, x.2.op ≠ .select cs b
theorem low_noSelect {op : Op} {r : R} (h : lowOp P op = some r) (cs : Array SelectCase) (b : Bool) : op ≠ .select cs b := by
  rintro rfl; simp [lowOp] at h
theorem Good.of_low {n : Nat} {ops : Array Oper} {x : RO × Oper} (h : lowRO P n ops x.2 = some x.1) : Good P n ops x := ⟨h, low_noSelect (lowRO_spec h).1⟩
theorem apart1_spec {x y : RO × Oper} (h : apart1 x y = true) : ∀ d, x.1.dst = some d → d ∉ looks y ∧ y.1.dst ≠ some d := by
  intro d e
  simp only [apart1, e, Bool.and_eq_true, Bool.not_eq_true', bne_iff_ne] at h
  exact ⟨by simpa using h.1, h.2⟩
variable {n : Nat} {ops : Array Oper}
theorem swap {x y : RO × Oper} (gx : Good P n ops x) (gy : Good P n ops y) (h : indep x y = true) {K : Act → World → Prop} {a : Act} {w : World}
    (hh : wpR1 P noWay y (fun a w => wpR1 P noWay x K a w) a w) : wpR1 P noWay x (fun a w => wpR1 P noWay y K a w) a w := by
  simp only [indep, Bool.and_eq_true] at h
  obtain ⟨⟨hxy, hyx⟩, hc⟩ := h
  have axy := apart1_spec hxy
  have ayx := apart1_spec hyx
  have comm : ∀ (b : Act) (u v : Value), (b.put x.1.dst u).put y.1.dst v = (b.put y.1.dst v).put x.1.dst u := fun b u v => Act.put_comm b u v (fun d e => (axy d e).2)
  by_cases qx : (isPure x.1.op || isRead x.1.op) = true
  · by_cases qy : (isPure y.1.op || isRead y.1.op) = true
    · obtain ⟨v, hv, h1⟩ := (wpR1_quiet qy).1 hh
      obtain ⟨u, hu, h2⟩ := (wpR1_quiet qx).1 h1
      refine (wpR1_quiet qx).2 ⟨u, (Yv_put qx (fun t e => (ayx t e).1)).1 hu, (wpR1_quiet qy).2 ⟨v, (Yv_put qy (fun t e => (axy t e).1)).2 hv, ?_⟩⟩
      rw [comm]; exact h2
    · -- x is pure, y acts
      have qy' : (isPure y.1.op || isRead y.1.op) = false := by simpa using qy
      have px : isPure x.1.op = true := by
        try simp only [Bool.or_eq_true, Bool.and_eq_true] at hc
        simp only [Bool.or_eq_false_iff] at qy'
        rcases hc with ((h | h) | h) | h
        · exact h
        · rw [qy'.1] at h; cases h
        · rw [qy'.2] at h; cases h.2
        · rw [qy'.2] at h; cases h.2
      simp only [Bool.or_eq_false_iff] at qy'
      by_cases hw : wantedR y.1.guard a = true
      · unfold wpR1 at hh
        rw [if_pos hw, if_neg (by simp [qy'.1]), if_neg (by simp [qy'.2])] at hh
        obtain ⟨hnew, hh⟩ := hh
        replace hh := wpV_mono (K' := fun a w => ∃ v, Yv P x a w v ∧ K (a.put x.1.dst v) w) (fun a w h => (wpR1_quiet qx).1 h) hh
        obtain ⟨gl1, gl2, gl3, _⟩ := lowRO_spec gy.low
        obtain ⟨ds, v0, w0, u, hu, _⟩ := upon_exists hh
        have hu' : ∀ w, Yv P x a w u := fun w => by
          rw [← gl2] at hu
          have := (Yv_put qx (fun t e => (ayx t e).1)).1 hu
          exact (Yv_pure px).1 (Yv_defers.1 this)
        refine (wpR1_quiet qx).2 ⟨u, hu' w, ?_⟩
        have hw' : wantedR y.1.guard (a.put x.1.dst u) = true := by rw [wanted_put_of (fun t e => (looks_parts (axy t e).1).1)]; exact hw
        show wpR1 P noWay y K (a.put x.1.dst u) w
        unfold wpR1
        rw [if_pos hw', if_neg (by simp [qy'.1]), if_neg (by simp [qy'.2])]
        have he : execOp (a.put x.1.dst u).eval y.2 = execOp a.eval y.2 :=
          execOp_congr y.2 gy.sel (fun z hz => eval_put_of (fun t e => (looks_parts (axy t e).1).2.2 (by simp [qy'.1, qy'.2])) (by simpa using hz))
        refine ⟨fun e => by rw [he]; exact hnew e, ?_⟩
        unfold wpV at hh ⊢
        rw [he]
        have step : uponV P y.2 a (fun a' w' => K (a'.put x.1.dst u) w') noWay ((execOp a.eval y.2).run P w) := by
          generalize (execOp a.eval y.2).run P w = r at hh
          have fin : ∀ {b : Act} {w' : World}, (∃ ds v, b = { a with defers := ds }.put y.2.dst v) → (∃ u', Yv P x b w' u' ∧ K (b.put x.1.dst u') w') → K (b.put x.1.dst u) w' := by
            rintro b w' ⟨ds, v, rfl⟩ ⟨u', h1, h2⟩
            rw [← gl2] at h1
            have h3 := (Yv_put qx (fun t e => (ayx t e).1)).1 h1
            have h4 := Yv_defers.1 h3
            rw [Yv_fun (hu' w') h4]; exact h2
          cases r with
          | ok nx w' =>
            cases nx <;> simp only [uponV] at hh ⊢
            case value v => exact fin ⟨a.defers, v, rfl⟩ hh
            case skip => exact fin ⟨a.defers, undef, rfl⟩ hh
            case enter f args => exact Calls.mono hh (fun e w'' he => by cases e <;> first | exact fin ⟨a.defers, _, rfl⟩ he | exact he)
            case round l f tmps assign body => exact RoundIn.mono hh (fun e w'' he => by cases e <;> first | exact fin ⟨a.defers, _, rfl⟩ he | exact he)
          | halt z w' => cases z <;> simp only [uponV] at hh ⊢ <;> exact hh
        cases hxd : x.1.dst with
        | none => rw [hxd] at step; exact step
        | some d =>
          rw [hxd] at step
          exact upon_put (by rw [← gl2]; exact (axy d hxd).2) step
      · unfold wpR1 at hh
        rw [if_neg hw] at hh
        obtain ⟨u, hu, h2⟩ := (wpR1_quiet qx).1 hh
        refine (wpR1_quiet qx).2 ⟨u, (Yv_put qx (fun t e => (ayx t e).1)).1 hu, ?_⟩
        show wpR1 P noWay y K (a.put x.1.dst u) w
        unfold wpR1
        rw [if_neg (by rw [wanted_put_of (fun t e => (looks_parts (axy t e).1).1)]; exact hw), comm]
        exact h2
  · -- x acts, y is pure
    have qx' : (isPure x.1.op || isRead x.1.op) = false := by simpa using qx
    have pq : isPure y.1.op = true ∨ (isNew x.1.op = true ∧ isRead y.1.op = true) := by
      try simp only [Bool.or_eq_true, Bool.and_eq_true] at hc
      simp only [Bool.or_eq_false_iff] at qx'
      rcases hc with ((h | h) | h) | h
      · rw [qx'.1] at h; cases h
      · exact .inl h
      · rw [qx'.2] at h; cases h.1
      · exact .inr h
    have qy : (isPure y.1.op || isRead y.1.op) = true := by rcases pq with h | h <;> simp [h]
    simp only [Bool.or_eq_false_iff] at qx'
    obtain ⟨v, hv, h1⟩ := (wpR1_quiet qy).1 hh
    have hwe : wantedR x.1.guard (a.put y.1.dst v) = wantedR x.1.guard a := wanted_put_of (fun t e => (looks_parts (ayx t e).1).1)
    unfold wpR1 at h1 ⊢
    rw [hwe] at h1
    by_cases hw : wantedR x.1.guard a = true
    · rw [if_pos hw, if_neg (by simp [qx'.1]), if_neg (by simp [qx'.2])] at h1 ⊢
      obtain ⟨gl1, gl2, gl3, _⟩ := lowRO_spec gx.low
      obtain ⟨hnew, h1⟩ := h1
      unfold wpV at h1
      have he : execOp (a.put y.1.dst v).eval x.2 = execOp a.eval x.2 :=
        execOp_congr x.2 gx.sel (fun z hz => eval_put_of (fun t e => (looks_parts (ayx t e).1).2.2 (by simp [qx'.1, qx'.2])) (by simpa using hz))
      rw [he] at h1 hnew
      refine ⟨hnew, ?_⟩
      unfold wpV
      have step : uponV P x.2 a (fun a' w' => K (a'.put y.1.dst v) w') noWay ((execOp a.eval x.2).run P w) := by
        cases hyd : y.1.dst with
        | none => rw [hyd] at h1; exact h1
        | some d =>
          rw [hyd] at h1
          exact upon_put' (by rw [← gl2]; exact (ayx d hyd).2) h1
      have fin0 : ∀ {b : Act} {w' : World}, (∃ ds u, b = { a with defers := ds }.put x.2.dst u) → Yv P y a w' v → K (b.put y.1.dst v) w' → wpR1 P noWay y K b w' := by
        rintro b w' ⟨ds, u, rfl⟩ hv h2
        refine (wpR1_quiet qy).2 ⟨v, ?_, h2⟩
        rw [← gl2]
        exact (Yv_put qy (fun t e => (axy t e).1)).2 (Yv_defers.2 hv)
      rcases pq with py | ⟨nx, _⟩
      rotate_left
      · obtain ⟨u, w', hrun, hext⟩ := hnew nx
        rw [hrun] at step ⊢
        exact fin0 ⟨a.defers, u, rfl⟩ (Yv_ext hv hext) step
      have fin : ∀ {b : Act} {w' : World}, (∃ ds u, b = { a with defers := ds }.put x.2.dst u) → K (b.put y.1.dst v) w' → wpR1 P noWay y K b w' := fun hb h2 => fin0 hb ((Yv_pure py).1 hv) h2
      generalize (execOp a.eval x.2).run P w = r at step
      cases r with
      | ok nx w' =>
        cases nx <;> simp only [uponV] at step ⊢
        case value u => exact fin ⟨a.defers, u, rfl⟩ step
        case skip => exact fin ⟨a.defers, undef, rfl⟩ step
        case enter f args => exact Calls.mono step (fun e w'' he => by cases e <;> first | exact fin ⟨a.defers, _, rfl⟩ he | exact he)
        case round l f tmps assign body => exact RoundIn.mono step (fun e w'' he => by cases e <;> first | exact fin ⟨a.defers, _, rfl⟩ he | exact he)
      | halt z w' => cases z <;> simp only [uponV] at step ⊢ <;> exact step
    · rw [if_neg hw] at h1 ⊢
      refine (wpR1_quiet qy).2 ⟨v, (Yv_put qy (fun t e => (axy t e).1)).2 hv, ?_⟩
      rw [comm]; exact h1
theorem toFront {X : Nat → RO × Oper} {Q : Act → World → Prop} (i : Nat) (l2 : List Nat) (gi : Good P n ops (X i)) : ∀ (l1 : List Nat), (∀ j ∈ l1, Good P n ops (X j) ∧ indep (X i) (X j) = true) →
    ∀ {a w}, wpR P noWay Q ((l1 ++ i :: l2).map X) a w → wpR P noWay Q ((i :: (l1 ++ l2)).map X) a w := by
  intro l1
  induction l1 with
  | nil => intro _ a w h; exact h
  | cons j l1 ih =>
    intro hj a w h
    have h1 : wpR1 P noWay (X j) (wpR P noWay Q ((i :: (l1 ++ l2)).map X)) a w := wpR1_mono (fun a w h => ih (fun k hk => hj k (by simp [hk])) h) h
    obtain ⟨gj, hij⟩ := hj j (by simp)
    exact swap gi gj hij h1
theorem reorder {X : Nat → RO × Oper} {Q : Act → World → Prop} : ∀ (l o : List Nat), o.Perm l → l.Nodup → (∀ i ∈ l, Good P n ops (X i)) →
    o.Pairwise (fun x y => indep (X y) (X x) = true ∨ [x, y].Sublist l) → ∀ {a w}, wpR P noWay Q (o.map X) a w → wpR P noWay Q (l.map X) a w := by
  intro l
  induction l with
  | nil => intro o hp _ _ _ a w h; rw [List.perm_nil.1 hp] at h; exact h
  | cons i l ih =>
    intro o hp hn hg hpw a w h
    have hi : i ∈ o := hp.mem_iff.2 (by simp)
    obtain ⟨o1, o2, rfl⟩ := List.append_of_mem hi
    have hn' := List.nodup_cons.1 hn
    have hind : ∀ x ∈ o1, indep (X i) (X x) = true := by
      intro x hx
      have hx2 := (List.pairwise_append.1 hpw).2.2 x hx i (by simp)
      rcases hx2 with h | h
      · exact h
      · exfalso
        cases h with
        | cons _ h => exact hn'.1 (h.subset (by simp))
        | cons_cons _ h => exact hn'.1 (h.subset (by simp))
    have h1 := toFront i o2 (hg i (by simp)) o1 (fun x hx => ⟨hg x (hp.mem_iff.1 (by simp [hx])), hind x hx⟩) h
    have hp' : (o1 ++ o2).Perm l := by
      have := (List.perm_middle (a := i) (l₁ := o1) (l₂ := o2)).symm.trans hp
      exact List.Perm.cons_inv this
    refine wpR1_mono (fun a w h => ih (o1 ++ o2) hp' hn'.2 (fun j hj => hg j (by simp [hj])) ?_ h) h1
    have hsub : (o1 ++ o2).Sublist (o1 ++ i :: o2) := List.Sublist.append_left (List.sublist_cons_self i o2) o1
    have hpw' := hpw.sublist hsub
    refine hpw'.imp_of_mem (fun {x y} hx hy h => ?_)
    rcases h with h | h
    · exact .inl h
    · right
      have hxi : x ≠ i := by rintro rfl; exact hn'.1 (hp'.mem_iff.1 hx)
      cases h with
      | cons _ h => exact h
      | cons_cons _ h => exact absurd rfl hxi
end
def Bef (l : List Nat) (x y : Nat) : Prop := x ∈ l ∧ y ∈ l ∧ l.idxOf x < l.idxOf y
theorem idxOf_ne {a x : Nat} {l : List Nat} (h : a ≠ x) : List.idxOf x (a :: l) = List.idxOf x l + 1 := by
  rw [List.idxOf_cons, show (a == x) = false from beq_eq_false_iff_ne.2 h]; rfl
theorem Bef.trans {l : List Nat} {x y z : Nat} (h : Bef l x y) (k : Bef l y z) : Bef l x z := ⟨h.1, k.2.1, Nat.lt_trans h.2.2 k.2.2⟩
theorem Bef.sub {x y : Nat} : ∀ {l : List Nat}, Bef l x y → [x, y].Sublist l := by
  intro l
  induction l with
  | nil => rintro ⟨h, _⟩; simp at h
  | cons a l ih =>
    rintro ⟨h1, h2, h3⟩
    by_cases ex : a = x
    · subst ex
      refine List.Sublist.cons_cons _ (List.singleton_sublist.2 ?_)
      rcases List.mem_cons.1 h2 with rfl | h
      · simp at h3
      · exact h
    · refine List.Sublist.cons _ (ih ?_)
      have hx : x ∈ l := by rcases List.mem_cons.1 h1 with rfl | h; exact absurd rfl ex; exact h
      have ey : a ≠ y := by
        rintro rfl
        simp [List.idxOf_cons] at h3
      have hy : y ∈ l := by rcases List.mem_cons.1 h2 with rfl | h; exact absurd rfl ey; exact h
      refine ⟨hx, hy, ?_⟩
      rw [idxOf_ne ex, idxOf_ne ey] at h3
      omega
theorem sub_bef {x y : Nat} : ∀ {l : List Nat}, l.Nodup → [x, y].Sublist l → Bef l x y := by
  intro l
  induction l with
  | nil => intro _ h; cases h
  | cons a l ih =>
    intro hn h
    have hn' := List.nodup_cons.1 hn
    cases h with
    | cons _ h =>
      obtain ⟨h1, h2, h3⟩ := ih hn'.2 h
      have ex : a ≠ x := by rintro rfl; exact hn'.1 h1
      have ey : a ≠ y := by rintro rfl; exact hn'.1 h2
      exact ⟨by simp [h1], by simp [h2], by rw [idxOf_ne ex, idxOf_ne ey]; omega⟩
    | cons_cons _ h =>
      have hy : y ∈ l := List.singleton_sublist.1 h
      have ey : x ≠ y := by rintro rfl; exact hn'.1 hy
      exact ⟨by simp, by simp [hy], by rw [idxOf_ne ey]; simp⟩
section
variable {ops : Array Oper}
def sched (ops : Array Oper) (fuel t : Nat) (listed : Array Bool) : List Nat := Region.linearise.go .any ops fuel t listed []
theorem sched_succ (fuel t : Nat) (listed : Array Bool) : sched ops (fuel + 1) t listed =
    match (Region.ready .any ops listed)[t % (Region.ready .any ops listed).length]? with
    | some i => i :: sched ops fuel (t / (Region.ready .any ops listed).length) (listed.setIfInBounds i true)
    | none => [] := by
  unfold sched
  simp only [Region.linearise.go]
  change (match (Region.ready .any ops listed)[t % (Region.ready .any ops listed).length]? with
      | some i => Region.linearise.go .any ops fuel (t / (Region.ready .any ops listed).length) (listed.setIfInBounds i true) [i]
      | none => [].reverse) = _
  split
  · rw [linearise_go_acc]; simp
  · simp
def backEdges (ops : Array Oper) : Bool := ops.toList.zipIdx.all fun (o, i) => o.after.all fun e => !Region.binds .any e || e.on < i
theorem backEdges_spec (h : backEdges ops = true) {i : Nat} {o : Oper} (ho : ops[i]? = some o) {e : Edge} (he : e ∈ o.after) (hb : Region.binds .any e = true) : e.on < i := by
  simp only [backEdges, List.all_eq_true] at h
  have hm : (o, i) ∈ ops.toList.zipIdx := by
    rw [List.mem_zipIdx_iff_getElem?]; simpa using ho
  have h2 := Array.all_eq_true_iff_forall_mem.1 (h _ hm) e he
  simpa [hb] using h2
def unl (ops : Array Oper) (listed : Array Bool) : List Nat := (List.range ops.size).filter fun i => !listed.getD i true
theorem ready_ne (h : backEdges ops = true) {listed : Array Bool} (hs : listed.size = ops.size) (hu : unl ops listed ≠ []) : Region.ready .any ops listed ≠ [] := by
  obtain ⟨i, hi, hmin⟩ : ∃ i, i ∈ unl ops listed ∧ ∀ j, j < i → j ∉ unl ops listed := by
    obtain ⟨k, hk⟩ := List.exists_mem_of_ne_nil _ hu
    have : ∀ n, ∀ k, k ≤ n → k ∈ unl ops listed → ∃ i, i ∈ unl ops listed ∧ ∀ j, j < i → j ∉ unl ops listed := by
      intro n
      induction n with
      | zero => intro k hkn hk; exact ⟨k, hk, fun j hj => by omega⟩
      | succ n ih =>
        intro k hkn hk
        by_cases hex : ∃ j, j < k ∧ j ∈ unl ops listed
        · obtain ⟨j, hj, hj'⟩ := hex; exact ih j (by omega) hj'
        · exact ⟨k, hk, fun j hj hj' => hex ⟨j, hj, hj'⟩⟩
    exact this k k (Nat.le_refl _) hk
  intro he
  have : i ∈ Region.ready .any ops listed := by
    simp only [unl, List.mem_filter, List.mem_range, Bool.not_eq_true'] at hi
    rw [mem_ready]
    obtain ⟨o, ho⟩ : ∃ o, ops[i]? = some o := ⟨ops[i], by simp [hi.1]⟩
    refine ⟨hi.2, o, ho, fun e hee hb => ?_⟩
    have hlt := backEdges_spec h ho hee hb
    have := hmin e.on hlt
    simp only [unl, List.mem_filter, List.mem_range, Bool.not_eq_true', not_and, Bool.not_eq_false] at this
    have h2 := this (by omega)
    have hlt2 : e.on < listed.size := by omega
    simpa [hlt2] using h2
  rw [he] at this; cases this
theorem sched_spec (hb : backEdges ops = true) : ∀ (fuel t : Nat) (listed : Array Bool), listed.size = ops.size → (unl ops listed).length ≤ fuel →
    (sched ops fuel t listed).Nodup ∧ (∀ i, i ∈ sched ops fuel t listed ↔ i ∈ unl ops listed) ∧
    ∀ i ∈ sched ops fuel t listed, ∀ o, ops[i]? = some o → ∀ e ∈ o.after, Region.binds .any e = true → listed.getD e.on false = true ∨ Bef (sched ops fuel t listed) e.on i := by
  intro fuel
  induction fuel with
  | zero =>
    intro t listed hs hl
    have hnil : unl ops listed = [] := List.length_eq_zero_iff.1 (by omega)
    have : sched ops 0 t listed = [] := by simp [sched, Region.linearise.go]
    rw [this, hnil]; simp
  | succ fuel ih =>
    intro t listed hs hl
    rw [sched_succ]
    cases hr : (Region.ready .any ops listed)[t % (Region.ready .any ops listed).length]? with
    | none =>
      have hnil : unl ops listed = [] := by
        by_cases hu : unl ops listed = []
        · exact hu
        · have hne := ready_ne hb hs hu
          have hlt : t % (Region.ready .any ops listed).length < (Region.ready .any ops listed).length := Nat.mod_lt _ (List.length_pos_iff.2 hne)
          rw [List.getElem?_eq_getElem hlt] at hr; cases hr
      simp [hnil]
    | some i =>
      have hi := List.mem_of_getElem? hr
      obtain ⟨hi0, o, ho, hedge⟩ := mem_ready.1 hi
      have hin : i < ops.size := (Array.getElem?_eq_some_iff.1 ho).1
      have hiu : i ∈ unl ops listed := by simp only [unl, List.mem_filter, List.mem_range, Bool.not_eq_true']; exact ⟨hin, hi0⟩
      have hset : ∀ j, (listed.setIfInBounds i true).getD j true = if j = i then true else listed.getD j true := by
        intro j
        by_cases e : j = i
        · subst e; simp [hs, hin]
        · rw [getD_set_ne true (Ne.symm e)]; simp [e]
      have hmem : ∀ j, j ∈ unl ops (listed.setIfInBounds i true) ↔ j ∈ unl ops listed ∧ j ≠ i := by
        intro j
        simp only [unl, List.mem_filter, List.mem_range, Bool.not_eq_true', hset]
        by_cases e : j = i <;> simp [e]
      have hlen : (unl ops (listed.setIfInBounds i true)).length ≤ fuel := by
        have hp : (unl ops (listed.setIfInBounds i true)).Perm ((unl ops listed).erase i) := by
          have nd : (unl ops listed).Nodup := List.nodup_range.filter _
          refine (List.perm_ext_iff_of_nodup (List.nodup_range.filter _) (nd.erase i)).2 (fun j => ?_)
          rw [nd.mem_erase_iff]
          rw [show (j ∈ List.filter (fun k => !(listed.setIfInBounds i true).getD k true) (List.range ops.size)) ↔ _ from hmem j]
          exact And.comm
        have := hp.length_eq
        rw [List.length_erase_of_mem hiu] at this
        have hpos : 0 < (unl ops listed).length := List.length_pos_of_mem hiu
        omega
      obtain ⟨n1, n2, n3⟩ := ih (t / (Region.ready .any ops listed).length) (listed.setIfInBounds i true) (by simp [hs]) hlen
      have hnot : i ∉ sched ops fuel (t / (Region.ready .any ops listed).length) (listed.setIfInBounds i true) := fun h => ((hmem i).1 ((n2 i).1 h)).2 rfl
      refine ⟨List.nodup_cons.2 ⟨hnot, n1⟩, fun j => ?_, fun j hj o' ho' e he hbe => ?_⟩
      · rw [List.mem_cons, n2, hmem]
        constructor
        · rintro (rfl | h); exact hiu; exact h.1
        · intro h; by_cases e : j = i; exact .inl e; exact .inr ⟨h, e⟩
      · rcases List.mem_cons.1 hj with rfl | hj'
        · rw [ho] at ho'; cases ho'
          exact .inl (hedge e he hbe)
        · have hji : i ≠ j := fun e => hnot (e ▸ hj')
          rcases n3 j hj' o' ho' e he hbe with h | h
          · by_cases ei : e.on = i
            · right
              exact ⟨by simp [ei], by simp [hj'], by rw [ei, idxOf_ne hji]; simp⟩
            · left
              rw [getD_set_ne false (Ne.symm ei)] at h; exact h
          · right
            have ei : i ≠ e.on := fun e' => hnot (e' ▸ h.1)
            exact ⟨by simp [h.1], by simp [hj'], by rw [idxOf_ne ei, idxOf_ne hji]; have := h.2.2; omega⟩
inductive Anc (ops : Array Oper) : Nat → Nat → Prop where
  | edge {i : Nat} {o : Oper} {e : Edge} : ops[i]? = some o → e ∈ o.after → Region.binds .any e = true → Anc ops e.on i
  | step {i j : Nat} {o : Oper} {e : Edge} : ops[i]? = some o → e ∈ o.after → Region.binds .any e = true → Anc ops j e.on → Anc ops j i
def addNew (s : List Nat) (l : List Nat) : List Nat := l.foldl (fun s x => if s.contains x then s else x :: s) s
theorem mem_addNew {x : Nat} : ∀ {l s : List Nat}, x ∈ addNew s l → x ∈ s ∨ x ∈ l := by
  intro l
  induction l with
  | nil => intro s h; exact .inl h
  | cons a l ih =>
    intro s h
    simp only [addNew, List.foldl_cons] at h
    rcases ih (s := if s.contains a then s else a :: s) h with h | h
    · split at h
      · exact .inl h
      · rcases List.mem_cons.1 h with rfl | h
        · exact .inr (by simp)
        · exact .inl h
    · exact .inr (by simp [h])
def ancStep (acc : List (List Nat)) (o : Oper) : List Nat :=
  o.after.toList.foldl (fun s e => if Region.binds .any e then addNew (addNew s [e.on]) (acc.getD e.on []) else s) []
def ancGo : List Oper → List (List Nat) → List (List Nat)
  | [], acc => acc
  | o :: r, acc => ancGo r (acc ++ [ancStep acc o])
def ancs (ops : Array Oper) : List (List Nat) := ancGo ops.toList []
theorem ancStep_sound {acc : List (List Nat)} {k : Nat} {o : Oper} (ho : ops[k]? = some o) (hacc : ∀ j x, x ∈ acc.getD j [] → Anc ops x j) {x : Nat} (hx : x ∈ ancStep acc o) : Anc ops x k := by
  unfold ancStep at hx
  have : ∀ (l : List Edge) (s : List Nat), (∀ e ∈ l, e ∈ o.after) → (∀ x ∈ s, Anc ops x k) → ∀ x ∈ l.foldl (fun s e => if Region.binds .any e then addNew (addNew s [e.on]) (acc.getD e.on []) else s) s, Anc ops x k := by
    intro l
    induction l with
    | nil => intro s _ hs x hx; exact hs x hx
    | cons e l ih =>
      intro s hl hs x hx
      simp only [List.foldl_cons] at hx
      refine ih _ (fun e he => hl e (by simp [he])) (fun y hy => ?_) x hx
      split at hy
      · rename_i hb
        rcases mem_addNew hy with hy | hy
        · rcases mem_addNew hy with hy | hy
          · exact hs y hy
          · rw [List.mem_singleton.1 hy]; exact .edge ho (hl e (by simp)) hb
        · exact .step ho (hl e (by simp)) hb (hacc _ _ hy)
      · exact hs y hy
  exact this o.after.toList [] (fun e he => by simpa using he) (fun _ h => by cases h) x hx
theorem ancGo_sound : ∀ (l : List Oper) (acc : List (List Nat)), (∀ j, l[j]? = ops[acc.length + j]?) → (∀ j x, x ∈ acc.getD j [] → Anc ops x j) → ∀ j x, x ∈ (ancGo l acc).getD j [] → Anc ops x j := by
  intro l
  induction l with
  | nil => intro acc _ h; exact h
  | cons o l ih =>
    intro acc hl hacc
    refine ih (acc ++ [ancStep acc o]) (fun j => ?_) (fun j x hx => ?_)
    · have := hl (j + 1); simp only [List.getElem?_cons_succ] at this; rw [this]; simp; congr 1; omega
    · by_cases e : j < acc.length
      · rw [List.getD_eq_getElem?_getD, List.getElem?_append_left e, ← List.getD_eq_getElem?_getD] at hx; exact hacc j x hx
      · rw [List.getD_eq_getElem?_getD, List.getElem?_append_right (by omega)] at hx
        by_cases e2 : j - acc.length = 0
        · rw [e2] at hx
          have hj : j = acc.length := by omega
          subst hj
          have h0 := hl 0
          simp at h0 hx
          exact ancStep_sound h0.symm hacc hx
        · have : ([ancStep acc o] : List (List Nat))[j - acc.length]? = none := by
            rw [List.getElem?_eq_none]; simp; omega
          rw [this] at hx; simp at hx
theorem ancs_sound {x j : Nat} (h : x ∈ (ancs ops).getD j []) : Anc ops x j := ancGo_sound ops.toList [] (by simp) (by simp) j x h
theorem anc_bef (hb : backEdges ops = true) {fuel t : Nat} (hf : ops.size ≤ fuel) {x y : Nat} (h : Anc ops x y) : y < ops.size → Bef (sched ops fuel t (Array.replicate ops.size false)) x y := by
  have hu : unl ops (Array.replicate ops.size false) = List.range ops.size := by
    simp only [unl]
    refine List.filter_eq_self.2 (fun i hi => ?_)
    have := List.mem_range.1 hi
    simp [this]
  obtain ⟨s1, s2, s3⟩ := sched_spec hb fuel t (Array.replicate ops.size false) (by simp) (by rw [hu]; simpa using hf)
  have edge : ∀ {i : Nat} {o : Oper} {e : Edge}, ops[i]? = some o → e ∈ o.after → Region.binds .any e = true → Bef (sched ops fuel t (Array.replicate ops.size false)) e.on i := by
    intro i o e ho he hbe
    have hi : i < ops.size := (Array.getElem?_eq_some_iff.1 ho).1
    rcases s3 i ((s2 i).2 (by rw [hu]; simpa using hi)) o ho e he hbe with h | h
    · have : e.on < ops.size := Nat.lt_trans (backEdges_spec hb ho he hbe) hi
      simp [this] at h
    · exact h
  induction h with
  | edge ho he hbe => intro _; exact edge ho he hbe
  | step ho he hbe _ ih =>
    intro hi
    exact (ih (Nat.lt_trans (backEdges_spec hb ho he hbe) hi)).trans (edge ho he hbe)
def insAll (x : Nat) : List Nat → List (List Nat)
  | [] => [[x]]
  | y :: r => (x :: y :: r) :: (insAll x r).map (y :: ·)
def perms : List Nat → List (List Nat)
  | [] => [[]]
  | x :: r => (perms r).flatMap (insAll x)
theorem mem_insAll {x : Nat} (l1 l2 : List Nat) : l1 ++ x :: l2 ∈ insAll x (l1 ++ l2) := by
  induction l1 with
  | nil => cases l2 <;> simp [insAll]
  | cons a l1 ih => simp only [List.cons_append, insAll, List.mem_cons, List.mem_map]; right; exact ⟨_, ih, rfl⟩
theorem mem_perms : ∀ {d s : List Nat}, s.Perm d → s ∈ perms d := by
  intro d
  induction d with
  | nil => intro s h; rw [List.perm_nil.1 h]; simp [perms]
  | cons x d ih =>
    intro s h
    have hx : x ∈ s := h.mem_iff.2 (by simp)
    obtain ⟨l1, l2, rfl⟩ := List.append_of_mem hx
    have := ih (List.Perm.cons_inv ((List.perm_middle (a := x) (l₁ := l1) (l₂ := l2)).symm.trans h))
    simp only [perms, List.mem_flatMap]
    exact ⟨_, this, mem_insAll l1 l2⟩
def befB (x y : Nat) : List Nat → Bool
  | [] => false
  | z :: r => if z = x then r.contains y else befB x y r
theorem befB_sub {x y : Nat} : ∀ {l : List Nat}, befB x y l = true → [x, y].Sublist l := by
  intro l
  induction l with
  | nil => intro h; cases h
  | cons z r ih =>
    intro h
    simp only [befB] at h
    split at h
    · rename_i e; subst e; exact List.Sublist.cons_cons _ (List.singleton_sublist.2 (by simpa using h))
    · exact List.Sublist.cons _ (ih h)
def pairsAll (p : Nat → Nat → Bool) : List Nat → Bool
  | [] => true
  | x :: r => r.all (p x) && pairsAll p r
theorem pairsAll_spec {p : Nat → Nat → Bool} : ∀ {l : List Nat}, pairsAll p l = true → l.Pairwise fun x y => p x y = true := by
  intro l
  induction l with
  | nil => intro _; exact .nil
  | cons x r ih =>
    intro h
    simp only [pairsAll, Bool.and_eq_true, List.all_eq_true] at h
    exact .cons h.1 (ih h.2)
theorem mem_of_full {n : Nat} : ∀ {o : List Nat}, o.Nodup → (∀ x ∈ o, x < n) → o.length = n → ∀ {x}, x < n → x ∈ o := by
  induction n with
  | zero => intro o _ _ _ x hx; omega
  | succ n ih =>
    intro o hn hlt hlen x hx
    have hmem : n ∈ o := by
      refine Classical.byContradiction fun hno => ?_
      have h2 : ∀ x ∈ o, x < n := fun y hy => by
        have := hlt y hy
        have : y ≠ n := fun e => hno (e ▸ hy)
        omega
      have key : ∀ (m : Nat) (l : List Nat), l.Nodup → (∀ y ∈ l, y < m) → l.length ≤ m := by
        intro m
        induction m with
        | zero => intro l _ h; cases l with | nil => simp | cons a l => exact absurd (h a (by simp)) (by omega)
        | succ m ihm =>
          intro l hl hb
          have := ihm (l.erase m) (hl.erase m) (fun y hy => by
            have h1 := hb y (List.mem_of_mem_erase hy)
            have h2 : y ≠ m := fun e => by rw [e] at hy; exact (hl.mem_erase_iff.1 hy).1 rfl
            omega)
          by_cases hm : m ∈ l
          · rw [List.length_erase_of_mem hm] at this; omega
          · rw [List.erase_of_not_mem hm] at this; omega
      have := key n o hn h2
      omega
    by_cases e : x = n
    · exact e ▸ hmem
    · have := ih (o := o.erase n) (hn.erase n) (fun y hy => by
        have h1 := hlt y (List.mem_of_mem_erase hy)
        have h2 : y ≠ n := fun e => by rw [e] at hy; exact (hn.mem_erase_iff.1 hy).1 rfl
        omega) (by rw [List.length_erase_of_mem hmem]; omega) (x := x) (by omega)
      exact List.mem_of_mem_erase this
instance : Inhabited RO := ⟨⟨none, none, .mkmap⟩⟩
def indepAt (rs : List (RO × Oper)) (x y : Nat) : Bool := match rs[x]?, rs[y]? with | some a, some b => indep b a | _, _ => false
def nodupB : List Nat → Bool
  | [] => true
  | x :: r => !r.contains x && nodupB r
theorem nodupB_spec : ∀ {l : List Nat}, nodupB l = true → l.Nodup := by
  intro l
  induction l with
  | nil => intro _; exact .nil
  | cons x r ih =>
    intro h
    simp only [nodupB, Bool.and_eq_true, Bool.not_eq_true'] at h
    exact List.nodup_cons.2 ⟨by simpa using h.1, ih h.2⟩
def clash (both : Bool) (rs : List (RO × Oper)) (an : List (List Nat)) (n : Nat) : List Nat :=
  (List.range n).filter fun x => (List.range n).any fun y => x != y && !(an.getD x []).contains y && !(an.getD y []).contains x && !(if both then indepAt rs x y && indepAt rs y x else indepAt rs x y || indepAt rs y x)
def coverG (both : Bool) (rs : List (RO × Oper)) (ops : Array Oper) (orders : List (List Nat)) : Bool :=
  let an := ancs ops
  let n := ops.size
  let d := clash both rs an n
  backEdges ops && nodupB d && orders.all (fun o => o.length == n && nodupB o && o.all (· < n)) &&
  (perms d).all fun s => !(pairsAll (fun x y => !(an.getD x []).contains y) s) || orders.any fun o => pairsAll (fun x y => indepAt rs x y || (an.getD y []).contains x || befB x y s) o
def coverB (rs : List (RO × Oper)) (ops : Array Oper) (orders : List (List Nat)) : Bool := coverG false rs ops orders || coverG true rs ops orders
theorem coverOf {both : Bool} {P : Program} {n : Nat} {rs : List (RO × Oper)} {orders : List (List Nat)} {Q : Act → World → Prop} {a : Act} {w : World} (hlen : rs.length = ops.size) (hX : ∀ (i : Nat) x, rs[i]? = some x → Good P n ops x)
    (hc : coverG both rs ops orders = true) (h : ∀ o ∈ orders, wpR P noWay Q (o.map fun i => rs.getD i default) a w) (t : Nat) :
    wpR P noWay Q ((sched ops ops.size t (Array.replicate ops.size false)).map fun i => rs.getD i default) a w := by
  simp only [coverG, Bool.and_eq_true] at hc
  obtain ⟨⟨⟨hb, hd⟩, ho⟩, hp⟩ := hc
  have hu : unl ops (Array.replicate ops.size false) = List.range ops.size := by
    simp only [unl]
    refine List.filter_eq_self.2 (fun i hi => ?_)
    have := List.mem_range.1 hi
    simp [this]
  obtain ⟨s1, s2, _⟩ := sched_spec hb ops.size t (Array.replicate ops.size false) (by simp) (by rw [hu]; simp)
  generalize hl : sched ops ops.size t (Array.replicate ops.size false) = l at s1 s2 ⊢
  have hanc : ∀ {x y : Nat}, y < ops.size → x ∈ (ancs ops).getD y [] → Bef l x y := fun hy hx => hl ▸ anc_bef hb (Nat.le_refl _) (ancs_sound hx) hy
  have hmem : ∀ i, i ∈ l ↔ i < ops.size := fun i => by rw [s2, hu]; simp
  generalize hdd : clash both rs (ancs ops) ops.size = d at hd hp
  have hdlt : ∀ x ∈ d, x < ops.size := by
    intro x hx; rw [← hdd] at hx; simp only [clash, List.mem_filter, List.mem_range] at hx; exact hx.1
  have hsp : (l.filter (d.contains ·)).Perm d := by
    refine (List.perm_ext_iff_of_nodup (s1.filter _) (nodupB_spec hd)).2 (fun x => ?_)
    simp only [List.mem_filter, hmem, List.contains_iff_mem]
    exact ⟨fun h => h.2, fun h => ⟨hdlt x h, h⟩⟩
  have hall := List.all_eq_true.1 hp _ (mem_perms hsp)
  simp only [Bool.or_eq_true, Bool.not_eq_true', List.any_eq_true] at hall
  have hresp : pairsAll (fun x y => !((ancs ops).getD x []).contains y) (l.filter (d.contains ·)) = true := by
    have key : ∀ (s : List Nat), s.Sublist l → pairsAll (fun x y => !((ancs ops).getD x []).contains y) s = true := by
      intro s
      induction s with
      | nil => intro _; rfl
      | cons x s ih =>
        intro hs
        simp only [pairsAll, Bool.and_eq_true, List.all_eq_true, Bool.not_eq_true']
        refine ⟨fun y hy => ?_, ih ((List.sublist_cons_self x s).trans hs)⟩
        have h2 : [x, y].Sublist l := (List.Sublist.cons_cons x (List.singleton_sublist.2 hy)).trans hs
        have b1 := sub_bef s1 h2
        cases hcc : ((ancs ops).getD x []).contains y with
        | false => rfl
        | true =>
          have b2 := hanc ((hmem x).1 b1.1) (List.contains_iff_mem.1 hcc)
          have := b1.2.2; have := b2.2.2; omega
    exact key _ List.filter_sublist
  rcases hall with hall | ⟨o, hom, hpo⟩
  · rw [hresp] at hall; cases hall
  have ho' := List.all_eq_true.1 ho o hom
  simp only [Bool.and_eq_true, beq_iff_eq, List.all_eq_true, decide_eq_true_eq] at ho'
  obtain ⟨⟨o1, o2⟩, o3⟩ := ho'
  have hperm : o.Perm l := by
    have hol : o.Subset l := fun x hx => (hmem x).2 (o3 x hx)
    have hno := nodupB_spec o2
    have hl' : l.length = ops.size := by
      have : l.Perm (List.range ops.size) := (List.perm_ext_iff_of_nodup s1 List.nodup_range).2 (fun x => by simp [hmem])
      simpa using this.length_eq
    have hor : o.Perm (List.range ops.size) := by
      refine (List.perm_ext_iff_of_nodup hno List.nodup_range).2 (fun x => ?_)
      refine ⟨fun hx => by simpa using o3 x hx, fun hx => ?_⟩
      exact mem_of_full hno o3 o1 (by simpa using hx)
    exact hor.trans ((List.perm_ext_iff_of_nodup s1 List.nodup_range).2 (fun x => by simp [hmem])).symm
  refine reorder (P := P) (n := n) (ops := ops) l o hperm s1 (fun i hi => ?_) ?_ (h o hom)
  · have hi' := (hmem i).1 hi
    have : rs[i]? = some (rs.getD i default) := by
      rw [List.getD_eq_getElem?_getD]
      have hlt : i < rs.length := by omega
      simp [hlt]
    exact hX i _ this
  · refine (pairsAll_spec hpo).imp_of_mem (fun {x y} hx hy h => ?_)
    simp only [Bool.or_eq_true] at h
    rcases h with (h | h) | h
    · left
      simp only [indepAt] at h
      split at h
      · rename_i p q hp hq
        simp only [List.getD_eq_getElem?_getD, hp, hq, Option.getD_some]
        exact h
      · cases h
    · right; exact (hanc (o3 y hy) (List.contains_iff_mem.1 h)).sub
    · right; exact (befB_sub h).trans List.filter_sublist
theorem cover {P : Program} {n : Nat} {rs : List (RO × Oper)} {orders : List (List Nat)} {Q : Act → World → Prop} {a : Act} {w : World} (hlen : rs.length = ops.size) (hX : ∀ (i : Nat) x, rs[i]? = some x → Good P n ops x)
    (hc : coverB rs ops orders = true) (h : ∀ o ∈ orders, wpR P noWay Q (o.map fun i => rs.getD i default) a w) (t : Nat) :
    wpR P noWay Q ((sched ops ops.size t (Array.replicate ops.size false)).map fun i => rs.getD i default) a w := by
  unfold coverB at hc
  rcases Bool.or_eq_true_iff.1 hc with hc | hc
  · exact coverOf hlen hX hc h t
  · exact coverOf hlen hX hc h t
end
end Go.V

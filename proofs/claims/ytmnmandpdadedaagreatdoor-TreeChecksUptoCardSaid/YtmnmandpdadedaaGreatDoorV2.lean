/-
  A region's operations, one behind the other or in whatever order their edges allow.
-/
import Derived.Test.YtmnmandpdadedaaGreatDoorV1
import Derived.Orders
import Derived.RangeFuncIn
import Derived.RangeFuncLeaves
import Derived.OwnWalkIn
set_option linter.unusedSimpArgs false
set_option linter.unusedVariables false
namespace Go.V
open Go
structure RO where
  dst : Option Nat
  guard : Option (Nat × Bool)
  op : R
def lowRO (P : Program) (n : Nat) (ops : Array Oper) (o : Oper) : Option RO :=
  match kz P o.op with
  | none => none
  | some r =>
    if o.dst.all (· < n) then
      match o.guard with
      | none => some ⟨o.dst, none, r⟩
      | some (j, b) => match (ops[j]?).bind (·.dst) with
        | some s => some ⟨o.dst, some (s, b), r⟩
        | none => none
    else none
def jI : R -> Bool
  | .load1 .. | .loadN .. | .mlen .. | .lookup .. | .entry .. | .b2s .. => true
  | _ => false
def isNew : R -> Bool
  | .alloc .. | .box .. | .bslice .. | .mkmap | .s2b .. => true
  | _ => false
def Ext (w w' : World) : Prop := ∀ (i : Nat) (o : Obj), w.heap[i]? = some o -> w'.heap[i]? = some o
theorem Ext.refl (w : World) : Ext w w := fun _ _ h => h
theorem Ext.trans {a b c : World} (h : Ext a b) (k : Ext b c) : Ext a c := fun i o e => k i o (h i o e)
theorem Sat.ext {w w' : World} {L : List kE} (h : Sat w L) (e : Ext w w') : Sat w' L := ⟨fun x hx => by
  have := h.holds x hx;cases x with
  | cell b off v => obtain ⟨c, t, lo, hi, h1, h2⟩ := this;exact ⟨c, t, lo, hi, e _ _ h1, h2⟩
  | obj b o => exact ⟨e _ _ this.1, this.2⟩, h.nodup⟩
def jC : R -> Bool
  | .mv .. | .pick .. | .bin .. | .eqb .. | .eqnil .. | .eqagg .. | .un .. | .conv .. | .cvs .. | .mkif .. | .clos .. | .ext .. | .build .. | .nilck .. | .fld .. | .fldV .. | .idxA .. | .idxL .. | .idxS .. | .idxV .. | .slcS ..
  | .slcL .. | .slcA .. | .lenS .. | .lenL .. | .cap .. | .min2 .. | .max2 .. | .tassert .. => true
  | _ => false
def kw (g : Option (Nat × Bool)) (a : Act) : Bool :=
  match g with
  | none => true
  | some (s, b) => match a.tmps[s]? with | some (.bool c) => c == b | _ => false
def wI : Exit -> Act -> World -> Prop := fun _ _ _ => False
abbrev VFc (ρ : Option Nat) : Fence := { fn := fun _ => True, depth := none, alive := false, round := ρ }
def jN (P : Program) (o : Oper) (a : Act) (next : Act -> World -> Prop) (Z : Exit -> Act -> World -> Prop) : Result Next -> Prop
  | .ok (.value v) w' => next (a.put o.dst v) w'
  | .ok .skip w' => next (a.put o.dst undef) w'
  | .ok (.enter f args) w' => Calls P f args w' fun
      | .returned v, w'' => next (a.put o.dst v) w''
      | .panicked chain, w'' => Z (.panic chain) a w''
      | .outgrown, _ => False
  | .ok (.round l f tmps assign body) w' => RoundIn Fence.wide 0 P l f tmps assign body w' fun
      | .returned v, w'' => next (a.put o.dst v) w''
      | .panicked chain, w'' => Z (.panic chain) a w''
      | .outgrown, _ => False
  | .halt (.panic v) w' => Z (.panic [{ v, recovered := false }]) a w'
  | _ => False
def wpV (P : Program) (o : Oper) (a : Act) (w : World) (next : Act -> World -> Prop) (Z : Exit -> Act -> World -> Prop) : Prop := jN P o a next Z ((execOp a.eval o).run P w)
theorem callsIn_v {P : Program} {ρ : Option Nat} {n : Nat} {f : FuncId} {args : Array Value} {w : World} {R : Ending -> World -> Prop} (h : Calls P f args w R) : CallsIn (VFc ρ) n P f args w R :=
  ⟨trivial, fun cs _ => let ⟨e, w', fr, r, s, x⟩ := h cs;⟨e, w', fr, r, comesIn_wide.2 s, x⟩⟩
theorem uponV_in {P : Program} {ρ : Option Nat} {o : Oper} {a : Act} {next : Act -> World -> Prop} {Z : Exit -> Act -> World -> Prop} {r : Result Next} (h : jN P o a next Z r) : o.uponIn (VFc ρ) 0 P a next Z r := by
  cases r with
  | ok n w' =>
    cases n <;> simp only [jN] at h <;> simp only [Oper.uponIn] <;> first
      | exact h
      | exact h.elim
      | exact ⟨fun h => by simp at h, callsIn_v (Calls.mono h (fun e w'' he => by cases e <;> first | exact he | exact he.elim))⟩
      | exact ⟨fun h => by simp at h, RoundIn.mono h (fun e w'' he => by cases e <;> first | exact he | exact he.elim)⟩
  | halt x w' => cases x <;> simp only [jN] at h <;> simp only [Oper.uponIn] <;> exact h
def wpA (P : Program) (Z : Exit -> Act -> World -> Prop) (x : RO × Oper) (next : Act -> World -> Prop) (a : Act) (w : World) : Prop :=
  (isNew x.1.op = true -> ∃ u w', (execOp a.eval x.2).run P w = .ok (.value u) w' /\ Ext w w') /\ wpV P x.2 a w next Z
def jX (P : Program) (Z : Exit -> Act -> World -> Prop) (x : RO × Oper) (next : Act -> World -> Prop) (a : Act) (w : World) : Prop :=
  if kw x.1.guard a then
    if jC x.1.op then ∃ v, kZ a.eval x.1.op = some v /\ next (a.put x.1.dst v) w
    else if jI x.1.op then ∃ s v, jz a.eval x.1.op = some s /\ (∀ w', Ext w w' -> s.run P w' = .ok (.value v) w') /\ next (a.put x.1.dst v) w
    else wpA P Z x next a w
  else next (a.put x.1.dst undef) w
def wpR (P : Program) (Z : Exit -> Act -> World -> Prop) (Q : Act -> World -> Prop) : List (RO × Oper) -> Act -> World -> Prop
  | [], a, w => Q a w
  | x :: rest, a, w => jX P Z x (wpR P Z Q rest) a w
section
variable {P : Program} {Z : Exit -> Act -> World -> Prop} {Q Q' : Act -> World -> Prop} {a : Act} {w : World}
theorem wpV_mono {o : Oper} {K K' : Act -> World -> Prop} (h : ∀ a w, K a w -> K' a w) (hh : wpV P o a w K Z) : wpV P o a w K' Z := by
  unfold wpV at *;generalize (execOp a.eval o).run P w = r at *;cases r with
  | ok n w' =>
    cases n <;> simp only [jN] at hh |- <;> first
      | exact h _ _ hh
      | exact Calls.mono hh (fun e w'' he => by cases e <;> first | exact h _ _ he | exact he)
      | exact RoundIn.mono hh (fun e w'' he => by cases e <;> first | exact h _ _ he | exact he)
  | halt x w' => cases x <;> simp only [jN] at hh |- <;> exact hh
theorem wpR1_mono {x : RO × Oper} (h : ∀ a w, Q a w -> Q' a w) (hh : jX P Z x Q a w) : jX P Z x Q' a w := by
  unfold jX at *;split
  · rename_i h1;rw [if_pos h1] at hh;split
    · rename_i h2;rw [if_pos h2] at hh;obtain ⟨v, e, hv⟩ := hh;exact ⟨v, e, h _ _ hv⟩
    · rename_i h2;rw [if_neg h2] at hh;split
      · rename_i h3;rw [if_pos h3] at hh;obtain ⟨s, v, e, e', hv⟩ := hh;exact ⟨s, v, e, e', h _ _ hv⟩
      · rename_i h3;rw [if_neg h3] at hh;exact ⟨hh.1, wpV_mono h hh.2⟩
  · rename_i h1;rw [if_neg h1] at hh;exact h _ _ hh
theorem wpR_mono {l : List (RO × Oper)} (h : ∀ a w, Q a w -> Q' a w) : ∀ {a w}, wpR P Z Q l a w -> wpR P Z Q' l a w := by
  induction l with
  | nil => intro a w hh;exact h _ _ hh
  | cons x l ih => intro a w hh;exact wpR1_mono (fun a w h => ih h) hh
theorem wpV_zmono {o : Oper} {K : Act -> World -> Prop} (hh : wpV P o a w K wI) : wpV P o a w K Z := by
  unfold wpV at *;generalize (execOp a.eval o).run P w = r at *;cases r with
  | ok n w' =>
    cases n <;> simp only [jN] at hh |- <;> first
      | exact hh
      | exact Calls.mono hh (fun e w'' he => by cases e <;> first | exact he | exact he.elim)
      | exact RoundIn.mono hh (fun e w'' he => by cases e <;> first | exact he | exact he.elim)
  | halt x w' => cases x <;> simp only [jN] at hh |- <;> exact hh.elim
theorem wpR_zmono {l : List (RO × Oper)} : ∀ {a w}, wpR P wI Q l a w -> wpR P Z Q l a w := by
  induction l with
  | nil => intro a w hh;exact hh
  | cons x l ih =>
    intro a w hh;have h1 : jX P wI x (wpR P Z Q l) a w := wpR1_mono (fun a w h => ih h) hh;show jX P Z x (wpR P Z Q l) a w;unfold jX at *;split
    · rename_i h2;rw [if_pos h2] at h1;split
      · rename_i h3;rw [if_pos h3] at h1;exact h1
      · rename_i h3;rw [if_neg h3] at h1;split
        · rename_i h4;rw [if_pos h4] at h1;exact h1
        · rename_i h4;rw [if_neg h4] at h1;exact ⟨h1.1, wpV_zmono h1.2⟩
    · rename_i h2;rw [if_neg h2] at h1;exact h1
theorem j6 {n : Nat} {ops : Array Oper} {o : Oper} {r : RO} (h : lowRO P n ops o = some r) : kz P o.op = some r.op /\ r.dst = o.dst /\ (∀ d, r.dst = some d -> d < n) /\
    ∀ a : Act, Region.wanted o (yielded ops a.tmps) = kw r.guard a := by
  unfold lowRO at h;split at h
  · cases h
  · rename_i r' hr;split at h
    case isFalse => cases h
    rename_i hd;have hd' : ∀ d, o.dst = some d -> d < n := by intro d e;rw [e] at hd;simpa using hd
    split at h
    · rename_i hg;cases h;exact ⟨hr, rfl, hd', fun a => by simp [Region.wanted, hg, kw]⟩
    · rename_i j b hg;split at h
      case h_2 => cases h
      rename_i s hs;cases h;refine ⟨hr, rfl, hd', fun a => ?_⟩;simp only [Region.wanted, hg, yielded, hs, Option.bind_some, kw];cases a.tmps[s]? with
      | none => simp
      | some v => cases v <;> simp
theorem eval_const (a : Act) (u : Value) : a.eval (.const u) = u := rfl
theorem wpR_sound {ρ : Option Nat} {n : Nat} {ops : Array Oper} {X : Nat -> RO × Oper} {QQ : Exit -> Act -> World -> Prop} (hX : ∀ i, i < ops.size -> ops[i]? = some (X i).2 /\ lowRO P n ops (X i).2 = some (X i).1) :
    ∀ (l : List Nat) (a : Act) (w : World), (∀ i ∈ l, i < ops.size) -> wpR P QQ (QQ .normal) (l.map X) a w -> wpOpsIn (VFc ρ) 0 P ops QQ l a w := by
  intro l
  induction l with
  | nil => intro a w _ h;exact h
  | cons i l ih =>
    intro a w hl h;obtain ⟨h1, h2⟩ := hX i (hl i Zs);obtain ⟨g1, g2, g3, g4⟩ := j6 h2;have ih' := fun a w => ih a w (fun j hj => hl j (by simp [hj]))
    have nd : ∀ c, (X i).2.op ≠ .defer c := fun c e => by rw [e] at g1;simp [kz] at g1
    simp only [List.map_cons, wpR, jX] at h;simp only [wpOpsIn, h1, g4 a];split
    · rename_i hw;rw [if_pos hw] at h;refine ⟨fun _ _ => trivial, ?_⟩;rw [Oper.semAt_plain _ _ _ nd];refine uponV_in ?_;split at h
      · obtain ⟨v, hv, hn⟩ := h;simp only [pure_sound (w := w) (eval_const a) g1 hv, jN, <- g2];exact ih' _ _ hn
      · split at h
        · obtain ⟨s, v, hs, hr, hn⟩ := h;simp only [mem_sound (eval_const a) g1 hs (hr w (.refl w)), jN, <- g2];exact ih' _ _ hn
        · exact wpV_mono ih' h.2
    · rename_i hw;rw [if_neg hw] at h;refine ⟨fun _ _ => trivial, ?_⟩;rw [<- g2];exact ih' _ _ h
end
def guardTmps (g : Option (Nat × Bool)) : List Nat := match g with | some (s, _) => [s] | none => []
def optl (x : Option Operand) : List Operand := x.toList
def rOps : R -> List Operand
  | .mv x | .un _ x | .conv _ x | .cvs x | .mkif _ x | .ext x _ | .nilck x | .fld _ x | .fldV _ _ _ x | .lenS x | .lenL x | .cap x | .tassert _ _ _ x | .eqnil _ _ x | .load1 x | .loadN _ x | .mlen x | .entry x | .b2s x => [x]
  | .pick c a b => [c, a, b]
  | .bin _ x y | .eqb _ x y | .eqagg _ _ x y | .idxA _ _ x y | .idxL _ x y | .idxS x y | .idxV _ _ _ x y | .min2 x y | .max2 x y | .lookup _ _ _ x y => [x, y]
  | .clos _ f c => f ++ c
  | .build _ ps => ps.map (·.2.2)
  | .slcS x lo hi => x :: (optl lo ++ optl hi)
  | .slcL _ x lo hi mx => x :: (optl lo ++ optl hi ++ optl mx)
  | .slcA _ _ x lo hi => x :: (optl lo ++ optl hi)
  | _ => []
def opTmps (l : List Operand) : List Nat := l.filterMap fun | .tmp t => some t | _ => none
def looks (x : RO × Oper) : List Nat := guardTmps x.1.guard ++ (if jC x.1.op || jI x.1.op then opTmps (rOps x.1.op) else opTmps x.2.op.operands.toList)
def apart1 (x y : RO × Oper) : Bool := match x.1.dst with | some d => !(looks y).contains d && y.1.dst != some d | none => true
def indep (x y : RO × Oper) : Bool := apart1 x y && apart1 y x && (jC x.1.op || jC y.1.op || (jI x.1.op && jI y.1.op) || (isNew x.1.op && jI y.1.op))
theorem opt_congr {ρ ρ' : Operand -> Value} {o : Option Operand} (h : ∀ x ∈ optl o, ρ x = ρ' x) : o.map ρ = o.map ρ' := by
  cases o with
  | none => rfl
  | some x => simp [h x (by simp [optl])]
theorem pureV_congr {ρ ρ' : Operand -> Value} {r : R} (hp : jC r = true) (h : ∀ x ∈ rOps r, ρ x = ρ' x) : kZ ρ r = kZ ρ' r := by
  cases r <;> simp only [jC] at hp <;> first | (cases hp;done) | skip
  case clos f first c =>
    simp only [rOps, List.mem_append] at h;simp only [kZ];rw [List.map_congr_left (fun x hx => h x (.inl hx)), List.map_congr_left (fun x hx => h x (.inr hx))]
  case build z ps =>
    simp only [rOps, List.mem_map] at h;simp only [kZ];have : jj ρ ps = jj ρ' ps := by
      simp only [jj];refine List.map_congr_left (fun p hp => ?_);obtain ⟨a, b, c⟩ := p;simp [h c ⟨_, hp, rfl⟩]
    rw [this]
  case slcS x lo hi =>
    simp only [rOps, List.mem_cons, List.mem_append] at h;simp only [kZ, h x (.inl rfl), opt_congr (fun y hy => h y (.inr (.inl hy))), opt_congr (fun y hy => h y (.inr (.inr hy)))]
  case slcL z x lo hi mx =>
    simp only [rOps, List.mem_cons, List.mem_append] at h;simp only [kZ, h x (.inl rfl), opt_congr (fun y hy => h y (.inr (.inl (.inl hy)))), opt_congr (fun y hy => h y (.inr (.inl (.inr hy)))), opt_congr (fun y hy => h y (.inr (.inr hy)))]
  case slcA n z x lo hi =>
    simp only [rOps, List.mem_cons, List.mem_append] at h;simp only [kZ, h x (.inl rfl), opt_congr (fun y hy => h y (.inr (.inl hy))), opt_congr (fun y hy => h y (.inr (.inr hy)))]
  case un op x => cases op <;> simp only [rOps, List.mem_singleton, forall_eq] at h <;> simp only [kZ, h]
  all_goals (simp only [rOps, List.mem_cons, List.not_mem_nil, or_false, forall_eq_or_imp, forall_eq] at h;simp only [kZ, h])
theorem memS_congr {ρ ρ' : Operand -> Value} {r : R} (hp : jI r = true) (h : ∀ x ∈ rOps r, ρ x = ρ' x) : jz ρ r = jz ρ' r := by
  cases r <;> simp only [jI] at hp <;> first | (cases hp;done) | skip
  all_goals (simp only [rOps, List.mem_cons, List.not_mem_nil, or_false, forall_eq_or_imp, forall_eq] at h;simp only [jz, h])
section
variable {P : Program}
theorem eval_put_of {a : Act} {d : Option Nat} {v : Value} {l : List Operand} (h : ∀ t, d = some t -> t ∉ opTmps l) {x : Operand} (hx : x ∈ l) : (a.put d v).eval x = a.eval x := by
  refine Act.eval_put (fun t e hxt => ?_);subst hxt;exact h t e (by simp only [opTmps, List.mem_filterMap];exact ⟨_, hx, rfl⟩)
theorem wanted_put_of {a : Act} {d : Option Nat} {v : Value} {g : Option (Nat × Bool)} (h : ∀ t, d = some t -> t ∉ guardTmps g) : kw g (a.put d v) = kw g a := by
  cases g with
  | none => rfl
  | some p =>
    obtain ⟨s, b⟩ := p;cases d with
    | none => rfl
    | some t =>
      have hne : t ≠ s := fun e => h t rfl (by simp [guardTmps, e])
      simp [kw, Act.put, Array.getElem?_setIfInBounds_ne hne]
def Yv (P : Program) (x : RO × Oper) (a : Act) (w : World) (v : Value) : Prop :=
  if kw x.1.guard a then
    if jC x.1.op then kZ a.eval x.1.op = some v else ∃ s, jz a.eval x.1.op = some s /\ ∀ w', Ext w w' -> s.run P w' = .ok (.value v) w'
  else v = undef
theorem jp {Z : Exit -> Act -> World -> Prop} {x : RO × Oper} (hq : (jC x.1.op || jI x.1.op) = true) {K : Act -> World -> Prop} {a : Act} {w : World} : jX P Z x K a w ↔ ∃ v, Yv P x a w v /\ K (a.put x.1.dst v) w := by
  unfold jX Yv;split
  · split
    · exact Iff.rfl
    · rename_i hp;have hr : jI x.1.op = true := by simpa [hp] using hq
      rw [if_pos hr];constructor
      · rintro ⟨s, v, h1, h2, h3⟩;exact ⟨v, ⟨s, h1, h2⟩, h3⟩
      · rintro ⟨v, ⟨s, h1, h2⟩, h3⟩;exact ⟨s, v, h1, h2, h3⟩
  · constructor
    · intro h;exact ⟨_, rfl, h⟩
    · rintro ⟨v, rfl, h⟩;exact h
theorem ww {x : RO × Oper} {t : Nat} (h : t ∉ looks x) : t ∉ guardTmps x.1.guard /\ ((jC x.1.op || jI x.1.op) = true -> t ∉ opTmps (rOps x.1.op)) /\ ((jC x.1.op || jI x.1.op) = false -> t ∉ opTmps x.2.op.operands.toList) := by
  simp only [looks, List.mem_append, not_or] at h;refine ⟨h.1, fun e => ?_, fun e => ?_⟩
  · rw [if_pos e] at h;exact h.2
  · rw [if_neg (by simp [e])] at h;exact h.2
theorem Yv_put {x : RO × Oper} (hq : (jC x.1.op || jI x.1.op) = true) {d : Option Nat} (hd : ∀ t, d = some t -> t ∉ looks x) {a : Act} {w : World} {u v : Value} : Yv P x (a.put d u) w v ↔ Yv P x a w v := by
  unfold Yv;rw [wanted_put_of (fun t e => (ww (hd t e)).1)];have he : ∀ y ∈ rOps x.1.op, (a.put d u).eval y = a.eval y := fun y hy => eval_put_of (fun t e => (ww (hd t e)).2.1 hq) hy
  split
  · split
    · rename_i hp;rw [pureV_congr hp he]
    · rename_i hp;have hr : jI x.1.op = true := by simpa [hp] using hq
      rw [memS_congr hr he]
  · exact Iff.rfl
theorem Yv_pure {x : RO × Oper} (hp : jC x.1.op = true) {a : Act} {w w' : World} {v : Value} : Yv P x a w v ↔ Yv P x a w' v := by
  unfold Yv;simp [hp]
theorem Yv_ext {x : RO × Oper} {a : Act} {w w' : World} {v : Value} (h : Yv P x a w v) (e : Ext w w') : Yv P x a w' v := by
  unfold Yv at *;split at h
  · rename_i hw;rw [if_pos hw];split at h
    · rename_i hp;rw [if_pos hp];exact h
    · rename_i hp;rw [if_neg hp];obtain ⟨s, h1, h2⟩ := h;exact ⟨s, h1, fun w2 e2 => h2 w2 (e.trans e2)⟩
  · rename_i hw;rw [if_neg hw];exact h
theorem Yv_fun {x : RO × Oper} {a : Act} {w : World} {u v : Value} (h : Yv P x a w u) (k : Yv P x a w v) : u = v := by
  unfold Yv at *;split at h
  · rename_i hw;rw [if_pos hw] at k;split at h
    · rename_i hp;rw [if_pos hp] at k;rw [h] at k;cases k;rfl
    · rename_i hp;rw [if_neg hp] at k;obtain ⟨s, h1, h2⟩ := h;obtain ⟨s', k1, k2⟩ := k;rw [h1] at k1;cases k1;have h3 := h2 w (.refl w);rw [k2 w (.refl w)] at h3;cases h3;rfl
  · rename_i hw;rw [if_neg hw] at k;rw [h, k]
end
end Go.V
namespace Go.V
open Go
section
variable {P : Program}
theorem upon_put {o : Oper} {a : Act} {d : Nat} {u : Value} (hd : o.dst ≠ some d) {K : Act -> World -> Prop} {r : Result Next}
    (h : jN P o a (fun a' w' => K (a'.put (some d) u) w') wI r) : jN P o (a.put (some d) u) K wI r := by
  have hc : ∀ v, (a.put o.dst v).put (some d) u = (a.put (some d) u).put o.dst v := fun v => Act.put_comm a v u (fun e h1 h2 => hd (by rw [h1, <- h2]))
  cases r with
  | ok n w' =>
    cases n <;> simp only [jN] at h |-
    case value v => rw [<- hc];exact h
    case skip => rw [<- hc];exact h
    case enter f args => exact Calls.mono h (fun e w'' he => by cases e <;> first | (simp only at he |-;rw [<- hc];exact he) | exact he)
    case round l f tmps assign body => exact RoundIn.mono h (fun e w'' he => by cases e <;> first | (simp only at he |-;rw [<- hc];exact he) | exact he)
  | halt x w' => cases x <;> simp only [jN] at h |- <;> exact h
theorem upon_put' {o : Oper} {a : Act} {d : Nat} {u : Value} (hd : o.dst ≠ some d) {K : Act -> World -> Prop} {r : Result Next}
    (h : jN P o (a.put (some d) u) K wI r) : jN P o a (fun a' w' => K (a'.put (some d) u) w') wI r := by
  have hc : ∀ v, (a.put o.dst v).put (some d) u = (a.put (some d) u).put o.dst v := fun v => Act.put_comm a v u (fun e h1 h2 => hd (by rw [h1, <- h2]))
  cases r with
  | ok n w' =>
    cases n <;> simp only [jN] at h |-
    case value v => rw [hc];exact h
    case skip => rw [hc];exact h
    case enter f args => exact Calls.mono h (fun e w'' he => by cases e <;> first | (simp only at he |-;rw [hc];exact he) | exact he)
    case round l f tmps assign body => exact RoundIn.mono h (fun e w'' he => by cases e <;> first | (simp only at he |-;rw [hc];exact he) | exact he)
  | halt x w' => cases x <;> simp only [jN] at h |- <;> exact h
theorem upon_exists {o : Oper} {a : Act} {K : Act -> World -> Prop} {r : Result Next} (h : jN P o a K wI r) : ∃ ds v w', K ({ a with defers := ds }.put o.dst v) w' := by
  cases r with
  | ok n w' =>
    cases n <;> simp only [jN] at h
    case value v => exact ⟨a.defers, v, w', h⟩
    case skip => exact ⟨a.defers, undef, w', h⟩
    case enter f args =>
      obtain ⟨e, w1, fr, hR, _⟩ := h [];cases e with
      | returned v => exact ⟨a.defers, v, w1, hR⟩
      | panicked c => exact hR.elim
      | outgrown => exact hR.elim
    case round l f tmps assign body =>
      obtain ⟨e, w1, hR, _⟩ := h.2 default [] (room_wide _);cases e with
      | returned v => exact ⟨a.defers, v, w1, hR⟩
      | panicked c => exact hR.elim
      | outgrown => exact hR.elim
  | halt x w' => cases x <;> simp only [jN] at h <;> exact h.elim
theorem eval_defers (a : Act) (ds : List Deferred) : ({ a with defers := ds } : Act).eval = a.eval := by funext x;cases x <;> rfl
theorem Yv_defers {x : RO × Oper} {a : Act} {ds : List Deferred} {w : World} {v : Value} : Yv P x { a with defers := ds } w v ↔ Yv P x a w v := by
  unfold Yv;rw [eval_defers];have : kw x.1.guard { a with defers := ds } = kw x.1.guard a := by cases x.1.guard <;> rfl
  rw [this]
structure Good (P : Program) (n : Nat) (ops : Array Oper) (x : RO × Oper) : Prop where
  low : lowRO P n ops x.2 = some x.1
  sel : ∀ cs b, x.2.op ≠ .select cs b
theorem low_noSelect {op : Op} {r : R} (h : kz P op = some r) (cs : Array SelectCase) (b : Bool) : op ≠ .select cs b := by
  rintro rfl;simp [kz] at h
theorem Good.of_low {n : Nat} {ops : Array Oper} {x : RO × Oper} (h : lowRO P n ops x.2 = some x.1) : Good P n ops x := ⟨h, low_noSelect (j6 h).1⟩
theorem apart1_spec {x y : RO × Oper} (h : apart1 x y = true) : ∀ d, x.1.dst = some d -> d ∉ looks y /\ y.1.dst ≠ some d := by
  intro d e;simp only [apart1, e, Bool.and_eq_true, Bool.not_eq_true', bne_iff_ne] at h;exact ⟨by simpa using h.1, h.2⟩
variable {n : Nat} {ops : Array Oper}
theorem swap {x y : RO × Oper} (gx : Good P n ops x) (gy : Good P n ops y) (h : indep x y = true) {K : Act -> World -> Prop} {a : Act} {w : World}
    (hh : jX P wI y (fun a w => jX P wI x K a w) a w) : jX P wI x (fun a w => jX P wI y K a w) a w := by
  simp only [indep, Bool.and_eq_true] at h;obtain ⟨⟨hxy, hyx⟩, hc⟩ := h;have axy := apart1_spec hxy;have ayx := apart1_spec hyx;have comm : ∀ (b : Act) (u v : Value), (b.put x.1.dst u).put y.1.dst v = (b.put y.1.dst v).put x.1.dst u := fun b u v => Act.put_comm b u v (fun d e => (axy d e).2)
  by_cases qx : (jC x.1.op || jI x.1.op) = true
  · by_cases qy : (jC y.1.op || jI y.1.op) = true
    · obtain ⟨v, hv, h1⟩ := (jp qy).1 hh;obtain ⟨u, hu, h2⟩ := (jp qx).1 h1;refine (jp qx).2 ⟨u, (Yv_put qx (fun t e => (ayx t e).1)).1 hu, (jp qy).2 ⟨v, (Yv_put qy (fun t e => (axy t e).1)).2 hv, ?_⟩⟩;rw [comm];exact h2
    · -- x is pure, y acts
      have qy' : (jC y.1.op || jI y.1.op) = false := by simpa using qy
      have px : jC x.1.op = true := by
        try simp only [Bool.or_eq_true, Bool.and_eq_true] at hc
        simp only [Bool.or_eq_false_iff] at qy';rcases hc with ((h | h) | h) | h
        · exact h
        · rw [qy'.1] at h;cases h
        · rw [qy'.2] at h;cases h.2
        · rw [qy'.2] at h;cases h.2
      simp only [Bool.or_eq_false_iff] at qy';by_cases hw : kw y.1.guard a = true
      · unfold jX at hh;rw [if_pos hw, if_neg (by simp [qy'.1]), if_neg (by simp [qy'.2])] at hh;obtain ⟨hnew, hh⟩ := hh
        replace hh := wpV_mono (K' := fun a w => ∃ v, Yv P x a w v /\ K (a.put x.1.dst v) w) (fun a w h => (jp qx).1 h) hh
        obtain ⟨gl1, gl2, gl3, _⟩ := j6 gy.low;obtain ⟨ds, v0, w0, u, hu, _⟩ := upon_exists hh;have hu' : ∀ w, Yv P x a w u := fun w => by
          rw [<- gl2] at hu;have := (Yv_put qx (fun t e => (ayx t e).1)).1 hu;exact (Yv_pure px).1 (Yv_defers.1 this)
        refine (jp qx).2 ⟨u, hu' w, ?_⟩;have hw' : kw y.1.guard (a.put x.1.dst u) = true := by rw [wanted_put_of (fun t e => (ww (axy t e).1).1)];exact hw
        show jX P wI y K (a.put x.1.dst u) w;unfold jX;rw [if_pos hw', if_neg (by simp [qy'.1]), if_neg (by simp [qy'.2])];have he : execOp (a.put x.1.dst u).eval y.2 = execOp a.eval y.2 :=
          execOp_congr y.2 gy.sel (fun z hz => eval_put_of (fun t e => (ww (axy t e).1).2.2 (by simp [qy'.1, qy'.2])) (by simpa using hz))
        refine ⟨fun e => by rw [he];exact hnew e, ?_⟩;unfold wpV at hh |-;rw [he];have step : jN P y.2 a (fun a' w' => K (a'.put x.1.dst u) w') wI ((execOp a.eval y.2).run P w) := by
          generalize (execOp a.eval y.2).run P w = r at hh;have fin : ∀ {b : Act} {w' : World}, (∃ ds v, b = { a with defers := ds }.put y.2.dst v) -> (∃ u', Yv P x b w' u' /\ K (b.put x.1.dst u') w') -> K (b.put x.1.dst u) w' := by
            rintro b w' ⟨ds, v, rfl⟩ ⟨u', h1, h2⟩
            rw [<- gl2] at h1;have h3 := (Yv_put qx (fun t e => (ayx t e).1)).1 h1;have h4 := Yv_defers.1 h3;rw [Yv_fun (hu' w') h4];exact h2
          cases r with
          | ok nx w' =>
            cases nx <;> simp only [jN] at hh |-
            case value v => exact fin ⟨a.defers, v, rfl⟩ hh
            case skip => exact fin ⟨a.defers, undef, rfl⟩ hh
            case enter f args => exact Calls.mono hh (fun e w'' he => by cases e <;> first | exact fin ⟨a.defers, _, rfl⟩ he | exact he)
            case round l f tmps assign body => exact RoundIn.mono hh (fun e w'' he => by cases e <;> first | exact fin ⟨a.defers, _, rfl⟩ he | exact he)
          | halt z w' => cases z <;> simp only [jN] at hh |- <;> exact hh
        cases hxd : x.1.dst with
        | none => rw [hxd] at step;exact step
        | some d =>
          rw [hxd] at step;exact upon_put (by rw [<- gl2];exact (axy d hxd).2) step
      · unfold jX at hh;rw [if_neg hw] at hh;obtain ⟨u, hu, h2⟩ := (jp qx).1 hh;refine (jp qx).2 ⟨u, (Yv_put qx (fun t e => (ayx t e).1)).1 hu, ?_⟩;show jX P wI y K (a.put x.1.dst u) w;unfold jX;rw [if_neg (by rw [wanted_put_of (fun t e => (ww (axy t e).1).1)];exact hw), comm];exact h2
  · -- x acts, y is pure
    have qx' : (jC x.1.op || jI x.1.op) = false := by simpa using qx
    have pq : jC y.1.op = true ∨ (isNew x.1.op = true /\ jI y.1.op = true) := by
      try simp only [Bool.or_eq_true, Bool.and_eq_true] at hc
      simp only [Bool.or_eq_false_iff] at qx';rcases hc with ((h | h) | h) | h
      · rw [qx'.1] at h;cases h
      · exact .inl h
      · rw [qx'.2] at h;cases h.1
      · exact .inr h
    have qy : (jC y.1.op || jI y.1.op) = true := by rcases pq with h | h <;> simp [h]
    simp only [Bool.or_eq_false_iff] at qx';obtain ⟨v, hv, h1⟩ := (jp qy).1 hh;have hwe : kw x.1.guard (a.put y.1.dst v) = kw x.1.guard a := wanted_put_of (fun t e => (ww (ayx t e).1).1);unfold jX at h1 |-;rw [hwe] at h1;by_cases hw : kw x.1.guard a = true
    · rw [if_pos hw, if_neg (by simp [qx'.1]), if_neg (by simp [qx'.2])] at h1 |-;obtain ⟨gl1, gl2, gl3, _⟩ := j6 gx.low;obtain ⟨hnew, h1⟩ := h1;unfold wpV at h1;have he : execOp (a.put y.1.dst v).eval x.2 = execOp a.eval x.2 :=
        execOp_congr x.2 gx.sel (fun z hz => eval_put_of (fun t e => (ww (ayx t e).1).2.2 (by simp [qx'.1, qx'.2])) (by simpa using hz))
      rw [he] at h1 hnew;refine ⟨hnew, ?_⟩;unfold wpV;have step : jN P x.2 a (fun a' w' => K (a'.put y.1.dst v) w') wI ((execOp a.eval x.2).run P w) := by
        cases hyd : y.1.dst with
        | none => rw [hyd] at h1;exact h1
        | some d =>
          rw [hyd] at h1;exact upon_put' (by rw [<- gl2];exact (ayx d hyd).2) h1
      have fin0 : ∀ {b : Act} {w' : World}, (∃ ds u, b = { a with defers := ds }.put x.2.dst u) -> Yv P y a w' v -> K (b.put y.1.dst v) w' -> jX P wI y K b w' := by
        rintro b w' ⟨ds, u, rfl⟩ hv h2
        refine (jp qy).2 ⟨v, ?_, h2⟩;rw [<- gl2];exact (Yv_put qy (fun t e => (axy t e).1)).2 (Yv_defers.2 hv)
      rcases pq with py | ⟨nx, _⟩
      rotate_left
      · obtain ⟨u, w', hrun, hext⟩ := hnew nx;rw [hrun] at step |-;exact fin0 ⟨a.defers, u, rfl⟩ (Yv_ext hv hext) step
      have fin : ∀ {b : Act} {w' : World}, (∃ ds u, b = { a with defers := ds }.put x.2.dst u) -> K (b.put y.1.dst v) w' -> jX P wI y K b w' := fun hb h2 => fin0 hb ((Yv_pure py).1 hv) h2
      generalize (execOp a.eval x.2).run P w = r at step;cases r with
      | ok nx w' =>
        cases nx <;> simp only [jN] at step |-
        case value u => exact fin ⟨a.defers, u, rfl⟩ step
        case skip => exact fin ⟨a.defers, undef, rfl⟩ step
        case enter f args => exact Calls.mono step (fun e w'' he => by cases e <;> first | exact fin ⟨a.defers, _, rfl⟩ he | exact he)
        case round l f tmps assign body => exact RoundIn.mono step (fun e w'' he => by cases e <;> first | exact fin ⟨a.defers, _, rfl⟩ he | exact he)
      | halt z w' => cases z <;> simp only [jN] at step |- <;> exact step
    · rw [if_neg hw] at h1 |-;refine (jp qy).2 ⟨v, (Yv_put qy (fun t e => (axy t e).1)).2 hv, ?_⟩;rw [comm];exact h1
theorem toFront {X : Nat -> RO × Oper} {Q : Act -> World -> Prop} (i : Nat) (l2 : List Nat) (gi : Good P n ops (X i)) : ∀ (l1 : List Nat), (∀ j ∈ l1, Good P n ops (X j) /\ indep (X i) (X j) = true) ->
    ∀ {a w}, wpR P wI Q ((l1 ++ i :: l2).map X) a w -> wpR P wI Q ((i :: (l1 ++ l2)).map X) a w := by
  intro l1
  induction l1 with
  | nil => intro _ a w h;exact h
  | cons j l1 ih =>
    intro hj a w h;have h1 : jX P wI (X j) (wpR P wI Q ((i :: (l1 ++ l2)).map X)) a w := wpR1_mono (fun a w h => ih (fun k hk => hj k (by simp [hk])) h) h;obtain ⟨gj, hij⟩ := hj j Zs;exact swap gi gj hij h1
theorem reorder {X : Nat -> RO × Oper} {Q : Act -> World -> Prop} : ∀ (l o : List Nat), o.Perm l -> l.Nodup -> (∀ i ∈ l, Good P n ops (X i)) ->
    o.Pairwise (fun x y => indep (X y) (X x) = true ∨ [x, y].Sublist l) -> ∀ {a w}, wpR P wI Q (o.map X) a w -> wpR P wI Q (l.map X) a w := by
  intro l
  induction l with
  | nil => intro o hp _ _ _ a w h;rw [List.perm_nil.1 hp] at h;exact h
  | cons i l ih =>
    intro o hp hn hg hpw a w h;have hi : i ∈ o := hp.mem_iff.2 Zs;obtain ⟨o1, o2, rfl⟩ := List.append_of_mem hi;have hn' := List.nodup_cons.1 hn;have hind : ∀ x ∈ o1, indep (X i) (X x) = true := by
      intro x hx;have hx2 := (List.pairwise_append.1 hpw).2.2 x hx i Zs;rcases hx2 with h | h
      · exact h
      · exfalso;cases h with
        | cons _ h => exact hn'.1 (h.subset Zs)
        | cons_cons _ h => exact hn'.1 (h.subset Zs)
    have h1 := toFront i o2 (hg i Zs) o1 (fun x hx => ⟨hg x (hp.mem_iff.1 (by simp [hx])), hind x hx⟩) h;have hp' : (o1 ++ o2).Perm l := by
      have := (List.perm_middle (a := i) (l₁ := o1) (l₂ := o2)).symm.trans hp;exact List.Perm.cons_inv this
    refine wpR1_mono (fun a w h => ih (o1 ++ o2) hp' hn'.2 (fun j hj => hg j (by simp [hj])) ?_ h) h1;have hsub : (o1 ++ o2).Sublist (o1 ++ i :: o2) := List.Sublist.append_left (List.sublist_cons_self i o2) o1;have hpw' := hpw.sublist hsub;refine hpw'.imp_of_mem (fun {x y} hx hy h => ?_);rcases h with h | h
    · exact .inl h
    · right;have hxi : x ≠ i := by rintro rfl;exact hn'.1 (hp'.mem_iff.1 hx)
      cases h with
      | cons _ h => exact h
      | cons_cons _ h => exact absurd rfl hxi
end
end Go.V
namespace Go.V
open Go
def Bef (l : List Nat) (x y : Nat) : Prop := x ∈ l /\ y ∈ l /\ l.idxOf x < l.idxOf y
theorem idxOf_ne {a x : Nat} {l : List Nat} (h : a ≠ x) : List.idxOf x (a :: l) = List.idxOf x l + 1 := by
  rw [List.idxOf_cons, show (a == x) = false from beq_eq_false_iff_ne.2 h];rfl
theorem Bef.trans {l : List Nat} {x y z : Nat} (h : Bef l x y) (k : Bef l y z) : Bef l x z := ⟨h.1, k.2.1, Nat.lt_trans h.2.2 k.2.2⟩
theorem Bef.sub {x y : Nat} : ∀ {l : List Nat}, Bef l x y -> [x, y].Sublist l := by
  intro l
  induction l with
  | nil => rintro ⟨h, _⟩;simp at h
  | cons a l ih =>
    rintro ⟨h1, h2, h3⟩
    by_cases ex : a = x
    · subst ex;refine List.Sublist.cons_cons _ (List.singleton_sublist.2 ?_);rcases List.mem_cons.1 h2 with rfl | h
      · simp at h3
      · exact h
    · refine List.Sublist.cons _ (ih ?_);have hx : x ∈ l := by rcases List.mem_cons.1 h1 with rfl | h;exact absurd rfl ex;exact h
      have ey : a ≠ y := by
        rintro rfl
        simp [List.idxOf_cons] at h3
      have hy : y ∈ l := by rcases List.mem_cons.1 h2 with rfl | h;exact absurd rfl ey;exact h
      refine ⟨hx, hy, ?_⟩;rw [idxOf_ne ex, idxOf_ne ey] at h3;omega
theorem sub_bef {x y : Nat} : ∀ {l : List Nat}, l.Nodup -> [x, y].Sublist l -> Bef l x y := by
  intro l
  induction l with
  | nil => intro _ h;cases h
  | cons a l ih =>
    intro hn h;have hn' := List.nodup_cons.1 hn;cases h with
    | cons _ h =>
      obtain ⟨h1, h2, h3⟩ := ih hn'.2 h;have ex : a ≠ x := by rintro rfl;exact hn'.1 h1
      have ey : a ≠ y := by rintro rfl;exact hn'.1 h2
      exact ⟨by simp [h1], by simp [h2], by rw [idxOf_ne ex, idxOf_ne ey];omega⟩
    | cons_cons _ h =>
      have hy : y ∈ l := List.singleton_sublist.1 h;have ey : x ≠ y := by rintro rfl;exact hn'.1 hy
      exact ⟨Zs, by simp [hy], by rw [idxOf_ne ey];simp⟩
section
variable {ops : Array Oper}
def wA (ops : Array Oper) (fuel t : Nat) (listed : Array Bool) : List Nat := Region.linearise.go .any ops fuel t listed []
theorem sched_succ (fuel t : Nat) (listed : Array Bool) : wA ops (fuel + 1) t listed =
    match (Region.ready .any ops listed)[t % (Region.ready .any ops listed).length]? with
    | some i => i :: wA ops fuel (t / (Region.ready .any ops listed).length) (listed.setIfInBounds i true)
    | none => [] := by
  unfold wA;simp only [Region.linearise.go];change (match (Region.ready .any ops listed)[t % (Region.ready .any ops listed).length]? with
      | some i => Region.linearise.go .any ops fuel (t / (Region.ready .any ops listed).length) (listed.setIfInBounds i true) [i]
      | none => [].reverse) = _
  split
  · rw [linearise_go_acc];simp
  · simp
def zB (ops : Array Oper) : Bool := ops.toList.zipIdx.all fun (o, i) => o.after.all fun e => !Region.binds .any e || e.on < i
theorem backEdges_spec (h : zB ops = true) {i : Nat} {o : Oper} (ho : ops[i]? = some o) {e : Edge} (he : e ∈ o.after) (hb : Region.binds .any e = true) : e.on < i := by
  simp only [zB, List.all_eq_true] at h;have hm : (o, i) ∈ ops.toList.zipIdx := by
    rw [List.mem_zipIdx_iff_getElem?];simpa using ho
  have h2 := Array.all_eq_true_iff_forall_mem.1 (h _ hm) e he;simpa [hb] using h2
def unl (ops : Array Oper) (listed : Array Bool) : List Nat := (List.range ops.size).filter fun i => !listed.getD i true
theorem ready_ne (h : zB ops = true) {listed : Array Bool} (hs : listed.size = ops.size) (hu : unl ops listed ≠ []) : Region.ready .any ops listed ≠ [] := by
  obtain ⟨i, hi, hmin⟩ : ∃ i, i ∈ unl ops listed /\ ∀ j, j < i -> j ∉ unl ops listed := by
    obtain ⟨k, hk⟩ := List.exists_mem_of_ne_nil _ hu;have : ∀ n, ∀ k, k <= n -> k ∈ unl ops listed -> ∃ i, i ∈ unl ops listed /\ ∀ j, j < i -> j ∉ unl ops listed := by
      intro n
      induction n with
      | zero => intro k hkn hk;exact ⟨k, hk, fun j hj => by omega⟩
      | succ n ih =>
        intro k hkn hk;by_cases hex : ∃ j, j < k /\ j ∈ unl ops listed
        · obtain ⟨j, hj, hj'⟩ := hex;exact ih j Zo hj'
        · exact ⟨k, hk, fun j hj hj' => hex ⟨j, hj, hj'⟩⟩
    exact this k k (Nat.le_refl _) hk
  intro he;have : i ∈ Region.ready .any ops listed := by
    simp only [unl, List.mem_filter, List.mem_range, Bool.not_eq_true'] at hi;rw [mem_ready];obtain ⟨o, ho⟩ : ∃ o, ops[i]? = some o := ⟨ops[i], by simp [hi.1]⟩;refine ⟨hi.2, o, ho, fun e hee hb => ?_⟩;have hlt := backEdges_spec h ho hee hb;have := hmin e.on hlt;simp only [unl, List.mem_filter, List.mem_range, Bool.not_eq_true', not_and, Bool.not_eq_false] at this;have h2 := this Zo;have hlt2 : e.on < listed.size := by omega
    simpa [hlt2] using h2
  rw [he] at this;cases this
theorem sched_spec (hb : zB ops = true) : ∀ (fuel t : Nat) (listed : Array Bool), listed.size = ops.size -> (unl ops listed).length <= fuel ->
    (wA ops fuel t listed).Nodup /\ (∀ i, i ∈ wA ops fuel t listed ↔ i ∈ unl ops listed) /\
    ∀ i ∈ wA ops fuel t listed, ∀ o, ops[i]? = some o -> ∀ e ∈ o.after, Region.binds .any e = true -> listed.getD e.on false = true ∨ Bef (wA ops fuel t listed) e.on i := by
  intro fuel
  induction fuel with
  | zero =>
    intro t listed hs hl;have hnil : unl ops listed = [] := List.length_eq_zero_iff.1 Zo;have : wA ops 0 t listed = [] := by simp [wA, Region.linearise.go]
    rw [this, hnil];simp
  | succ fuel ih =>
    intro t listed hs hl;rw [sched_succ];cases hr : (Region.ready .any ops listed)[t % (Region.ready .any ops listed).length]? with
    | none =>
      have hnil : unl ops listed = [] := by
        by_cases hu : unl ops listed = []
        · exact hu
        · have hne := ready_ne hb hs hu;have hlt : t % (Region.ready .any ops listed).length < (Region.ready .any ops listed).length := Nat.mod_lt _ (List.length_pos_iff.2 hne);rw [Zg hlt] at hr;cases hr
      simp [hnil]
    | some i =>
      have hi := Zv hr;obtain ⟨hi0, o, ho, hedge⟩ := mem_ready.1 hi;have hin : i < ops.size := (Array.getElem?_eq_some_iff.1 ho).1;have hiu : i ∈ unl ops listed := by simp only [unl, List.mem_filter, List.mem_range, Bool.not_eq_true'];exact ⟨hin, hi0⟩
      have hset : ∀ j, (listed.setIfInBounds i true).getD j true = if j = i then true else listed.getD j true := by
        intro j;by_cases e : j = i
        · subst e;simp [hs, hin]
        · rw [getD_set_ne true (Ne.symm e)];simp [e]
      have hmem : ∀ j, j ∈ unl ops (listed.setIfInBounds i true) ↔ j ∈ unl ops listed /\ j ≠ i := by
        intro j;simp only [unl, List.mem_filter, List.mem_range, Bool.not_eq_true', hset];by_cases e : j = i <;> simp [e]
      have hlen : (unl ops (listed.setIfInBounds i true)).length <= fuel := by
        have hp : (unl ops (listed.setIfInBounds i true)).Perm ((unl ops listed).erase i) := by
          have nd : (unl ops listed).Nodup := List.nodup_range.filter _;refine (List.perm_ext_iff_of_nodup (List.nodup_range.filter _) (nd.erase i)).2 (fun j => ?_);rw [nd.mem_erase_iff];rw [show (j ∈ List.filter (fun k => !(listed.setIfInBounds i true).getD k true) (List.range ops.size)) ↔ _ from hmem j];exact And.comm
        have := hp.length_eq;rw [List.length_erase_of_mem hiu] at this;have hpos : 0 < (unl ops listed).length := List.length_pos_of_mem hiu;omega
      obtain ⟨n1, n2, n3⟩ := ih (t / (Region.ready .any ops listed).length) (listed.setIfInBounds i true) (by simp [hs]) hlen;have hnot : i ∉ wA ops fuel (t / (Region.ready .any ops listed).length) (listed.setIfInBounds i true) := fun h => ((hmem i).1 ((n2 i).1 h)).2 rfl
      refine ⟨List.nodup_cons.2 ⟨hnot, n1⟩, fun j => ?_, fun j hj o' ho' e he hbe => ?_⟩
      · rw [List.mem_cons, n2, hmem];constructor
        · rintro (rfl | h);exact hiu;exact h.1
        · intro h;by_cases e : j = i;exact .inl e;exact .inr ⟨h, e⟩
      · rcases List.mem_cons.1 hj with rfl | hj'
        · rw [ho] at ho';cases ho';exact .inl (hedge e he hbe)
        · have hji : i ≠ j := fun e => hnot (e ▸ hj')
          rcases n3 j hj' o' ho' e he hbe with h | h
          · by_cases ei : e.on = i
            · right;exact ⟨by simp [ei], by simp [hj'], by rw [ei, idxOf_ne hji];simp⟩
            · left;rw [getD_set_ne false (Ne.symm ei)] at h;exact h
          · right;have ei : i ≠ e.on := fun e' => hnot (e' ▸ h.1)
            exact ⟨by simp [h.1], by simp [hj'], by rw [idxOf_ne ei, idxOf_ne hji];have := h.2.2;omega⟩
inductive Anc (ops : Array Oper) : Nat -> Nat -> Prop where
  | edge {i : Nat} {o : Oper} {e : Edge} : ops[i]? = some o -> e ∈ o.after -> Region.binds .any e = true -> Anc ops e.on i
  | step {i j : Nat} {o : Oper} {e : Edge} : ops[i]? = some o -> e ∈ o.after -> Region.binds .any e = true -> Anc ops j e.on -> Anc ops j i
def addNew (s : List Nat) (l : List Nat) : List Nat := l.foldl (fun s x => if s.contains x then s else x :: s) s
theorem mem_addNew {x : Nat} : ∀ {l s : List Nat}, x ∈ addNew s l -> x ∈ s ∨ x ∈ l := by
  intro l
  induction l with
  | nil => intro s h;exact .inl h
  | cons a l ih =>
    intro s h;simp only [addNew, List.foldl_cons] at h;rcases ih (s := if s.contains a then s else a :: s) h with h | h
    · split at h
      · exact .inl h
      · rcases List.mem_cons.1 h with rfl | h
        · exact .inr Zs
        · exact .inl h
    · exact .inr (by simp [h])
def ancStep (acc : List (List Nat)) (o : Oper) : List Nat :=
  o.after.toList.foldl (fun s e => if Region.binds .any e then addNew (addNew s [e.on]) (acc.getD e.on []) else s) []
def ancGo : List Oper -> List (List Nat) -> List (List Nat)
  | [], acc => acc
  | o :: r, acc => ancGo r (acc ++ [ancStep acc o])
def ancs (ops : Array Oper) : List (List Nat) := ancGo ops.toList []
theorem ancStep_sound {acc : List (List Nat)} {k : Nat} {o : Oper} (ho : ops[k]? = some o) (hacc : ∀ j x, x ∈ acc.getD j [] -> Anc ops x j) {x : Nat} (hx : x ∈ ancStep acc o) : Anc ops x k := by
  unfold ancStep at hx;have : ∀ (l : List Edge) (s : List Nat), (∀ e ∈ l, e ∈ o.after) -> (∀ x ∈ s, Anc ops x k) -> ∀ x ∈ l.foldl (fun s e => if Region.binds .any e then addNew (addNew s [e.on]) (acc.getD e.on []) else s) s, Anc ops x k := by
    intro l
    induction l with
    | nil => intro s _ hs x hx;exact hs x hx
    | cons e l ih =>
      intro s hl hs x hx;simp only [List.foldl_cons] at hx;refine ih _ (fun e he => hl e (by simp [he])) (fun y hy => ?_) x hx;split at hy
      · rename_i hb;rcases mem_addNew hy with hy | hy
        · rcases mem_addNew hy with hy | hy
          · exact hs y hy
          · rw [List.mem_singleton.1 hy];exact .edge ho (hl e Zs) hb
        · exact .step ho (hl e Zs) hb (hacc _ _ hy)
      · exact hs y hy
  exact this o.after.toList [] (fun e he => by simpa using he) (fun _ h => by cases h) x hx
theorem ancGo_sound : ∀ (l : List Oper) (acc : List (List Nat)), (∀ j, l[j]? = ops[acc.length + j]?) -> (∀ j x, x ∈ acc.getD j [] -> Anc ops x j) -> ∀ j x, x ∈ (ancGo l acc).getD j [] -> Anc ops x j := by
  intro l
  induction l with
  | nil => intro acc _ h;exact h
  | cons o l ih =>
    intro acc hl hacc;refine ih (acc ++ [ancStep acc o]) (fun j => ?_) (fun j x hx => ?_)
    · have := hl (j + 1);simp only [List.getElem?_cons_succ] at this;rw [this];simp;congr 1;omega
    · by_cases e : j < acc.length
      · rw [List.getD_eq_getElem?_getD, List.getElem?_append_left e, <- List.getD_eq_getElem?_getD] at hx;exact hacc j x hx
      · rw [List.getD_eq_getElem?_getD, List.getElem?_append_right Zo] at hx;by_cases e2 : j - acc.length = 0
        · rw [e2] at hx;have hj : j = acc.length := by omega
          subst hj;have h0 := hl 0;simp at h0 hx;exact ancStep_sound h0.symm hacc hx
        · have : ([ancStep acc o] : List (List Nat))[j - acc.length]? = none := by
            rw [List.getElem?_eq_none];simp;omega
          rw [this] at hx;simp at hx
theorem ancs_sound {x j : Nat} (h : x ∈ (ancs ops).getD j []) : Anc ops x j := ancGo_sound ops.toList [] Zs Zs j x h
theorem anc_bef (hb : zB ops = true) {fuel t : Nat} (hf : ops.size <= fuel) {x y : Nat} (h : Anc ops x y) : y < ops.size -> Bef (wA ops fuel t (Array.replicate ops.size false)) x y := by
  have hu : unl ops (Array.replicate ops.size false) = List.range ops.size := by
    simp only [unl];refine List.filter_eq_self.2 (fun i hi => ?_);have := List.mem_range.1 hi;simp [this]
  obtain ⟨s1, s2, s3⟩ := sched_spec hb fuel t (Array.replicate ops.size false) Zs (by rw [hu];simpa using hf);have edge : ∀ {i : Nat} {o : Oper} {e : Edge}, ops[i]? = some o -> e ∈ o.after -> Region.binds .any e = true -> Bef (wA ops fuel t (Array.replicate ops.size false)) e.on i := by
    intro i o e ho he hbe;have hi : i < ops.size := (Array.getElem?_eq_some_iff.1 ho).1;rcases s3 i ((s2 i).2 (by rw [hu];simpa using hi)) o ho e he hbe with h | h
    · have : e.on < ops.size := Nat.lt_trans (backEdges_spec hb ho he hbe) hi;simp [this] at h
    · exact h
  induction h with
  | edge ho he hbe => intro _;exact edge ho he hbe
  | step ho he hbe _ ih =>
    intro hi;exact (ih (Nat.lt_trans (backEdges_spec hb ho he hbe) hi)).trans (edge ho he hbe)
def insAll (x : Nat) : List Nat -> List (List Nat)
  | [] => [[x]]
  | y :: r => (x :: y :: r) :: (insAll x r).map (y :: ·)
def perms : List Nat -> List (List Nat)
  | [] => [[]]
  | x :: r => (perms r).flatMap (insAll x)
theorem mem_insAll {x : Nat} (l1 l2 : List Nat) : l1 ++ x :: l2 ∈ insAll x (l1 ++ l2) := by
  induction l1 with
  | nil => cases l2 <;> simp [insAll]
  | cons a l1 ih => simp only [List.cons_append, insAll, List.mem_cons, List.mem_map];right;exact ⟨_, ih, rfl⟩
theorem mem_perms : ∀ {d s : List Nat}, s.Perm d -> s ∈ perms d := by
  intro d
  induction d with
  | nil => intro s h;rw [List.perm_nil.1 h];simp [perms]
  | cons x d ih =>
    intro s h;have hx : x ∈ s := h.mem_iff.2 Zs;obtain ⟨l1, l2, rfl⟩ := List.append_of_mem hx;have := ih (List.Perm.cons_inv ((List.perm_middle (a := x) (l₁ := l1) (l₂ := l2)).symm.trans h));simp only [perms, List.mem_flatMap];exact ⟨_, this, mem_insAll l1 l2⟩
def befB (x y : Nat) : List Nat -> Bool
  | [] => false
  | z :: r => if z = x then r.contains y else befB x y r
theorem befB_sub {x y : Nat} : ∀ {l : List Nat}, befB x y l = true -> [x, y].Sublist l := by
  intro l
  induction l with
  | nil => intro h;cases h
  | cons z r ih =>
    intro h;simp only [befB] at h;split at h
    · rename_i e;subst e;exact List.Sublist.cons_cons _ (List.singleton_sublist.2 (by simpa using h))
    · exact List.Sublist.cons _ (ih h)
def wp (p : Nat -> Nat -> Bool) : List Nat -> Bool
  | [] => true
  | x :: r => r.all (p x) && wp p r
theorem pairsAll_spec {p : Nat -> Nat -> Bool} : ∀ {l : List Nat}, wp p l = true -> l.Pairwise fun x y => p x y = true := by
  intro l
  induction l with
  | nil => intro _;exact .nil
  | cons x r ih =>
    intro h;simp only [wp, Bool.and_eq_true, List.all_eq_true] at h;exact .cons h.1 (ih h.2)
theorem mem_of_full {n : Nat} : ∀ {o : List Nat}, o.Nodup -> (∀ x ∈ o, x < n) -> o.length = n -> ∀ {x}, x < n -> x ∈ o := by
  induction n with
  | zero => intro o _ _ _ x hx;omega
  | succ n ih =>
    intro o hn hlt hlen x hx;have hmem : n ∈ o := by
      refine Classical.byContradiction fun hno => ?_
      have h2 : ∀ x ∈ o, x < n := fun y hy => by
        have := hlt y hy;have : y ≠ n := fun e => hno (e ▸ hy)
        omega
      have key : ∀ (m : Nat) (l : List Nat), l.Nodup -> (∀ y ∈ l, y < m) -> l.length <= m := by
        intro m
        induction m with
        | zero => intro l _ h;cases l with | nil => simp | cons a l => exact absurd (h a Zs) Zo
        | succ m ihm =>
          intro l hl hb;have := ihm (l.erase m) (hl.erase m) (fun y hy => by
            have h1 := hb y (List.mem_of_mem_erase hy);have h2 : y ≠ m := fun e => by rw [e] at hy;exact (hl.mem_erase_iff.1 hy).1 rfl
            omega)
          by_cases hm : m ∈ l
          · rw [List.length_erase_of_mem hm] at this;omega
          · rw [List.erase_of_not_mem hm] at this;omega
      have := key n o hn h2;omega
    by_cases e : x = n
    · exact e ▸ hmem
    · have := ih (o := o.erase n) (hn.erase n) (fun y hy => by
        have h1 := hlt y (List.mem_of_mem_erase hy);have h2 : y ≠ n := fun e => by rw [e] at hy;exact (hn.mem_erase_iff.1 hy).1 rfl
        omega) (by rw [List.length_erase_of_mem hmem];omega) (x := x) Zo
      exact List.mem_of_mem_erase this
instance : Inhabited RO := ⟨⟨none, none, .mkmap⟩⟩
def indepAt (rs : List (RO × Oper)) (x y : Nat) : Bool := match rs[x]?, rs[y]? with | some a, some b => indep b a | _, _ => false
def nodupB : List Nat -> Bool
  | [] => true
  | x :: r => !r.contains x && nodupB r
theorem nodupB_spec : ∀ {l : List Nat}, nodupB l = true -> l.Nodup := by
  intro l
  induction l with
  | nil => intro _;exact .nil
  | cons x r ih =>
    intro h;simp only [nodupB, Bool.and_eq_true, Bool.not_eq_true'] at h;exact List.nodup_cons.2 ⟨by simpa using h.1, ih h.2⟩
def clash (both : Bool) (rs : List (RO × Oper)) (an : List (List Nat)) (n : Nat) : List Nat :=
  (List.range n).filter fun x => (List.range n).any fun y => x != y && !(an.getD x []).contains y && !(an.getD y []).contains x && !(if both then indepAt rs x y && indepAt rs y x else indepAt rs x y || indepAt rs y x)
def coverG (both : Bool) (rs : List (RO × Oper)) (ops : Array Oper) (orders : List (List Nat)) : Bool :=
  let an := ancs ops
  let n := ops.size
  let d := clash both rs an n
  zB ops && nodupB d && orders.all (fun o => o.length == n && nodupB o && o.all (· < n)) &&
  (perms d).all fun s => !(wp (fun x y => !(an.getD x []).contains y) s) || orders.any fun o => wp (fun x y => indepAt rs x y || (an.getD y []).contains x || befB x y s) o
def coverB (rs : List (RO × Oper)) (ops : Array Oper) (orders : List (List Nat)) : Bool := coverG false rs ops orders || coverG true rs ops orders
theorem coverOf {both : Bool} {P : Program} {n : Nat} {rs : List (RO × Oper)} {orders : List (List Nat)} {Q : Act -> World -> Prop} {a : Act} {w : World} (hlen : rs.length = ops.size) (hX : ∀ (i : Nat) x, rs[i]? = some x -> Good P n ops x)
    (hc : coverG both rs ops orders = true) (h : ∀ o ∈ orders, wpR P wI Q (o.map fun i => rs.getD i default) a w) (t : Nat) :
    wpR P wI Q ((wA ops ops.size t (Array.replicate ops.size false)).map fun i => rs.getD i default) a w := by
  simp only [coverG, Bool.and_eq_true] at hc;obtain ⟨⟨⟨hb, hd⟩, ho⟩, hp⟩ := hc;have hu : unl ops (Array.replicate ops.size false) = List.range ops.size := by
    simp only [unl];refine List.filter_eq_self.2 (fun i hi => ?_);have := List.mem_range.1 hi;simp [this]
  obtain ⟨s1, s2, _⟩ := sched_spec hb ops.size t (Array.replicate ops.size false) Zs (by rw [hu];simp);generalize hl : wA ops ops.size t (Array.replicate ops.size false) = l at s1 s2 |-;have hanc : ∀ {x y : Nat}, y < ops.size -> x ∈ (ancs ops).getD y [] -> Bef l x y := fun hy hx => hl ▸ anc_bef hb (Nat.le_refl _) (ancs_sound hx) hy
  have hmem : ∀ i, i ∈ l ↔ i < ops.size := fun i => by rw [s2, hu];simp
  generalize hdd : clash both rs (ancs ops) ops.size = d at hd hp;have hdlt : ∀ x ∈ d, x < ops.size := by
    intro x hx;rw [<- hdd] at hx;simp only [clash, List.mem_filter, List.mem_range] at hx;exact hx.1
  have hsp : (l.filter (d.contains ·)).Perm d := by
    refine (List.perm_ext_iff_of_nodup (s1.filter _) (nodupB_spec hd)).2 (fun x => ?_);simp only [List.mem_filter, hmem, List.contains_iff_mem];exact ⟨fun h => h.2, fun h => ⟨hdlt x h, h⟩⟩
  have hall := List.all_eq_true.1 hp _ (mem_perms hsp);simp only [Bool.or_eq_true, Bool.not_eq_true', List.any_eq_true] at hall;have hresp : wp (fun x y => !((ancs ops).getD x []).contains y) (l.filter (d.contains ·)) = true := by
    have key : ∀ (s : List Nat), s.Sublist l -> wp (fun x y => !((ancs ops).getD x []).contains y) s = true := by
      intro s
      induction s with
      | nil => intro _;rfl
      | cons x s ih =>
        intro hs;simp only [wp, Bool.and_eq_true, List.all_eq_true, Bool.not_eq_true'];refine ⟨fun y hy => ?_, ih ((List.sublist_cons_self x s).trans hs)⟩;have h2 : [x, y].Sublist l := (List.Sublist.cons_cons x (List.singleton_sublist.2 hy)).trans hs;have b1 := sub_bef s1 h2;cases hcc : ((ancs ops).getD x []).contains y with
        | false => rfl
        | true =>
          have b2 := hanc ((hmem x).1 b1.1) (List.contains_iff_mem.1 hcc);have := b1.2.2;have := b2.2.2;omega
    exact key _ List.filter_sublist
  rcases hall with hall | ⟨o, hom, hpo⟩
  · rw [hresp] at hall;cases hall
  have ho' := List.all_eq_true.1 ho o hom;simp only [Bool.and_eq_true, beq_iff_eq, List.all_eq_true, decide_eq_true_eq] at ho';obtain ⟨⟨o1, o2⟩, o3⟩ := ho';have hperm : o.Perm l := by
    have hol : o.Subset l := fun x hx => (hmem x).2 (o3 x hx)
    have hno := nodupB_spec o2;have hl' : l.length = ops.size := by
      have : l.Perm (List.range ops.size) := (List.perm_ext_iff_of_nodup s1 List.nodup_range).2 (fun x => by simp [hmem]);simpa using this.length_eq
    have hor : o.Perm (List.range ops.size) := by
      refine (List.perm_ext_iff_of_nodup hno List.nodup_range).2 (fun x => ?_);refine ⟨fun hx => by simpa using o3 x hx, fun hx => ?_⟩;exact mem_of_full hno o3 o1 (by simpa using hx)
    exact hor.trans ((List.perm_ext_iff_of_nodup s1 List.nodup_range).2 (fun x => by simp [hmem])).symm
  refine reorder (P := P) (n := n) (ops := ops) l o hperm s1 (fun i hi => ?_) ?_ (h o hom)
  · have hi' := (hmem i).1 hi;have : rs[i]? = some (rs.getD i default) := by
      rw [List.getD_eq_getElem?_getD];have hlt : i < rs.length := by omega
      simp [hlt]
    exact hX i _ this
  · refine (pairsAll_spec hpo).imp_of_mem (fun {x y} hx hy h => ?_);simp only [Bool.or_eq_true] at h;rcases h with (h | h) | h
    · left;simp only [indepAt] at h;split at h
      · rename_i p q hp hq;simp only [List.getD_eq_getElem?_getD, hp, hq, Option.getD_some];exact h
      · cases h
    · right;exact (hanc (o3 y hy) (List.contains_iff_mem.1 h)).sub
    · right;exact (befB_sub h).trans List.filter_sublist
theorem cover {P : Program} {n : Nat} {rs : List (RO × Oper)} {orders : List (List Nat)} {Q : Act -> World -> Prop} {a : Act} {w : World} (hlen : rs.length = ops.size) (hX : ∀ (i : Nat) x, rs[i]? = some x -> Good P n ops x)
    (hc : coverB rs ops orders = true) (h : ∀ o ∈ orders, wpR P wI Q (o.map fun i => rs.getD i default) a w) (t : Nat) :
    wpR P wI Q ((wA ops ops.size t (Array.replicate ops.size false)).map fun i => rs.getD i default) a w := by
  unfold coverB at hc;rcases Bool.or_eq_true_iff.1 hc with hc | hc
  · exact coverOf hlen hX hc h t
  · exact coverOf hlen hX hc h t
end
end Go.V
namespace Go.V
open Go
abbrev Env := List (Nat × Value)
abbrev SH := List (List kE)
def look : Env -> Nat -> Option Value
  | [], _ => none
  | (s, v) :: r, t => if s = t then some v else look r t
def ev (Γ : Env) : Operand -> Option Value
  | .tmp t => look Γ t
  | .const v => some v
  | .global g => some (.pointer (some ⟨g, 0, none⟩))
  | .func f => some (.func (.func f) #[] #[])
def evs (Γ : Env) : List Operand -> Option (List Value)
  | [] => some []
  | x :: r => match ev Γ x, evs Γ r with
    | some v, some l => some (v :: l)
    | _, _ => none
structure jW (n : Nat) (Γ : Env) (a : Act) : Prop where
  size : a.tmps.size = n
  slots : ∀ t v, look Γ t = some v -> a.tmps[t]? = some v
def Sub (Γ Δ : Env) : Prop := ∀ t v, look Δ t = some v -> look Γ t = some v
theorem jW.sub {n : Nat} {Γ Δ : Env} {a : Act} (h : jW n Γ a) (s : Sub Γ Δ) : jW n Δ a := ⟨h.size, fun t v e => h.slots t v (s t v e)⟩
theorem jW.put {n : Nat} {Γ : Env} {a : Act} (h : jW n Γ a) {d : Nat} (hd : d < n) (v : Value) : jW n ((d, v) :: Γ) (a.put (some d) v) := by
  refine ⟨by simp [Act.put, h.size], fun t u e => ?_⟩;simp only [look] at e;split at e
  · rename_i hd';subst hd';cases e;simp [Act.put, h.size, hd]
  · rename_i hne;simp only [Act.put, Array.getElem?_setIfInBounds_ne hne];exact h.slots t u e
theorem jW.ev {n : Nat} {Γ : Env} {a : Act} (h : jW n Γ a) {x : Operand} {v : Value} (e : ev Γ x = some v) : a.eval x = v := by
  cases x with
  | tmp t => simp only [V.ev] at e;simp [Act.eval, Array.getD_eq_getD_getElem?, h.slots t v e]
  | const u => simpa [V.ev, Act.eval] using e
  | global g => simpa [V.ev, Act.eval] using e
  | func f => simpa [V.ev, Act.eval] using e
theorem jW.evs {n : Nat} {Γ : Env} {a : Act} (h : jW n Γ a) : ∀ {l : List Operand} {vs : List Value}, evs Γ l = some vs -> l.map a.eval = vs := by
  intro l
  induction l with
  | nil => intro vs e;simp [V.evs] at e;subst e;rfl
  | cons x r ih =>
    intro vs e;simp only [V.evs] at e;split at e
    · rename_i v l hv hl;cases e;simp [h.ev hv, ih hl]
    · cases e
def putE (d : Option Nat) (v : Value) (Γ : Env) : Env := match d with | some d => (d, v) :: Γ | none => Γ
theorem jW.putE {n : Nat} {Γ : Env} {a : Act} (h : jW n Γ a) {d : Option Nat} (hd : ∀ t, d = some t -> t < n) (v : Value) : jW n (V.putE d v Γ) (a.put d v) := by
  cases d with
  | none => exact h
  | some d => exact h.put (hd d rfl) v
def LowAll (P : Program) (n : Nat) (rs : List RO) (l : List (RO × Oper)) : Prop := l.map (·.1) = rs /\ ∀ x ∈ l, ∃ ops, lowRO P n ops x.2 = some x.1
theorem ky (a : Act) (d : Option Nat) (v : Value) : (a.put d v).defers = a.defers := by cases d <;> rfl
def VO (P : Program) (n : Nat) (rs : List RO) (Γ : Env) (H : SH) (Z : List PanicEntry -> Env -> SH -> Prop) (K : Env -> SH -> Prop) : Prop :=
  ∀ l, LowAll P n rs l -> ∀ a w F (ZZ : Exit -> Act -> World -> Prop) (Q : Act -> World -> Prop), jW n Γ a -> Sat w (H.flatten ++ F) ->
    (∀ a' w' Γ' H', K Γ' H' -> jW n Γ' a' -> a'.defers = a.defers -> Sat w' (H'.flatten ++ F) -> ko w w' -> Q a' w') ->
    (∀ ch a' w' Γ' H', Z ch Γ' H' -> jW n Γ' a' -> a'.defers = a.defers -> Sat w' (H'.flatten ++ F) -> ko w w' -> ZZ (.panic ch) a' w') -> wpR P ZZ Q l a w
def Fun (P : Program) (f : Nat) (args : List Value) (Pre : SH) (Q : Value -> SH -> Prop) : Prop :=
  ju P f = true /\ ∀ F w, Sat w (Pre.flatten ++ F) ->
    Calls P f args.toArray w fun e w' => ∃ v Post, e = .returned v /\ Q v Post /\ Sat w' (Post.flatten ++ F) /\ ko w w'
def Spl (H Pre R : SH) : Prop := H.flatten.Perm (Pre.flatten ++ R.flatten)
section
variable {P : Program} {n : Nat} {rs : List RO} {Γ Δ : Env} {H : SH} {Z : List PanicEntry -> Env -> SH -> Prop} {K : Env -> SH -> Prop}
theorem VO.nil (h : K Γ H) : VO P n [] Γ H Z K := by
  intro l hl a w F ZZ Q ha hs hq hz;obtain rfl : l = [] := by simpa using hl.1
  exact hq a w Γ H h ha rfl hs (.refl w)
theorem VO.sub (s : Sub Γ Δ) (h : VO P n rs Δ H Z K) : VO P n rs Γ H Z K := fun l hl a w F ZZ Q ha hs hq hz => h l hl a w F ZZ Q (ha.sub s) hs hq hz
theorem VO.mono {K' : Env -> SH -> Prop} (h : VO P n rs Γ H Z K) (hk : ∀ Γ H, K Γ H -> K' Γ H) : VO P n rs Γ H Z K' := fun l hl a w F ZZ Q ha hs hq hz => h l hl a w F ZZ Q ha hs (fun a' w' Γ' H' k => hq a' w' Γ' H' (hk _ _ k)) hz
theorem wu {r : RO} {l : List (RO × Oper)} (h : LowAll P n (r :: rs) l) : ∃ o l', l = (r, o) :: l' /\ LowAll P n rs l' /\ ∃ ops, lowRO P n ops o = some r := by
  obtain ⟨h1, h2⟩ := h;cases l with
  | nil => simp at h1
  | cons x l =>
    simp at h1;obtain ⟨rfl, h1⟩ := h1;exact ⟨x.2, l, rfl, ⟨h1, fun y hy => h2 y (by simp [hy])⟩, h2 x Zs⟩
theorem VO.pure {d : Option Nat} {r : R} {v : Value} (hp : jC r = true) (hv : ∀ ρ : Operand -> Value, (∀ x u, ev Γ x = some u -> ρ x = u) -> kZ ρ r = some v) (h : VO P n rs (putE d v Γ) H Z K) : VO P n (⟨d, none, r⟩ :: rs) Γ H Z K := by
  intro l hl a w F ZZ Q ha hs hq hz;obtain ⟨o, l', rfl, hl', ops, ho⟩ := wu hl;obtain ⟨g1, g2, g3, g4⟩ := j6 ho;show jX P ZZ (_, o) (wpR P ZZ Q l') a w;unfold jX;simp only [kw, hp, if_true];exact ⟨v, hv a.eval (fun x u e => ha.ev e), h l' hl' _ w F ZZ Q (ha.putE g3 v) hs (fun a2 w2 Γ2 H2 k1 k2 k3 k4 k5 => hq a2 w2 Γ2 H2 k1 k2 (k3.trans (ky ..)) k4 k5) (fun ch a2 w2 Γ2 H2 k1 k2 k3 k4 k5 => hz ch a2 w2 Γ2 H2 k1 k2 (k3.trans (ky ..)) k4 k5)⟩
theorem VO.read {d : Option Nat} {r : R} {v : Value} (hp : jC r = false) (hr : jI r = true) (hv : ∀ ρ : Operand -> Value, (∀ x u, ev Γ x = some u -> ρ x = u) -> ∃ s, jz ρ r = some s /\ ∀ F w, Sat w (H.flatten ++ F) -> s.run P w = .ok (.value v) w)
    (h : VO P n rs (putE d v Γ) H Z K) : VO P n (⟨d, none, r⟩ :: rs) Γ H Z K := by
  intro l hl a w F ZZ Q ha hs hq hz;obtain ⟨o, l', rfl, hl', ops, ho⟩ := wu hl;obtain ⟨g1, g2, g3, g4⟩ := j6 ho;show jX P ZZ (_, o) (wpR P ZZ Q l') a w;unfold jX;obtain ⟨s, h1, h2⟩ := hv a.eval (fun x u e => ha.ev e);simp only [kw, hp, hr, if_true, Bool.false_eq_true, if_false];exact ⟨s, v, h1, fun w2 e2 => h2 F w2 (hs.ext e2), h l' hl' _ w F ZZ Q (ha.putE g3 v) hs (fun a2 w2 Γ2 H2 k1 k2 k3 k4 k5 => hq a2 w2 Γ2 H2 k1 k2 (k3.trans (ky ..)) k4 k5) (fun ch a2 w2 Γ2 H2 k1 k2 k3 k4 k5 => hz ch a2 w2 Γ2 H2 k1 k2 (k3.trans (ky ..)) k4 k5)⟩
theorem ext_push {w : World} (o : Obj) : Ext w { w with heap := w.heap.push o } := fun i x h => by
  have hl := (Array.getElem?_eq_some_iff.1 h).1;show (w.heap.push o)[i]? = _;rw [Array.getElem?_push, if_neg (Nat.ne_of_lt hl)];exact h
theorem ext_freeze {w : World} {a : Addr} {n : Nat} (h : w.heap.size <= a.block) : ∀ {w' : World}, Ext w w' -> Ext w (w'.freeze a n) := by
  intro w' e i o hi;have hl := (Array.getElem?_eq_some_iff.1 hi).1;unfold World.freeze;split
  · exact e _ _ hi
  · have := e _ _ hi;simp only [Array.getElem?_modify, this, if_neg (show ¬ a.block = i by omega)]
theorem run_new_ext {w w' : World} {c : Array Value} {t : TypeId} {f : Nat -> Next} {nx : Next} (h : (do let b <- Go.newObj (.cells c t);pure (f b) : Sem Next).run P w = .ok nx w') : nx = f w.heap.size /\ Ext w w' := by
  simp only [Go.newObj, Sem.run_bind, Sem.run, Sem.run_pure, Result.andThen_ok] at h;cases h;exact ⟨rfl, ext_push _⟩
theorem run_s2b_ext {w w' : World} {t : TypeId} {s : ByteArray} {v : Value} (h : (Conv.stringToBytes t s).run P w = .ok v w') : Ext w w' := by
  unfold Conv.stringToBytes at h;rw [Sem.run_bind] at h;obtain ⟨cap, w1, h1, h2⟩ := jA h;have e1 : w1.heap = w.heap := by
    simp only [Go.choose, Sem.run] at h1;split at h1 <;> (cases h1;rfl)
  have x1 : Ext w w1 := fun i o e => by rw [e1];exact e
  refine x1.trans ?_;rw [Sem.run_bind] at h2;obtain ⟨a, w2, h3, h4⟩ := jA h2;have h3' : a = ⟨w1.heap.size, 0, none⟩ /\ w2 = { w1 with heap := w1.heap.push (.cells (s.data.map (fun b => Value.int .u8 b.toNat) ++ Array.replicate (cap - s.size) (.int .u8 0)) t) } := by
    simp only [newRow, Go.newObj, Sem.run_bind, Sem.run, Sem.run_pure, Result.andThen_ok] at h3;cases h3;exact ⟨rfl, rfl⟩
  obtain ⟨rfl, rfl⟩ := h3';rw [Sem.run_bind] at h4;obtain ⟨_, w3, h5, h6⟩ := jA h4;rw [Sem.run_pure] at h6;cases h6;unfold markStringish at h5;rw [Sem.run_bind] at h5;simp only [Go.shape, Sem.run, Result.andThen_ok] at h5;split at h5
  · simp only [Go.freeze, Sem.run] at h5;cases h5;exact ext_freeze (Nat.le_refl _) (ext_push _)
  · rw [Sem.run_pure] at h5;cases h5;exact ext_push _
theorem memS_new {ρ : Operand -> Value} {r : R} {s : Sem Next} {w w' : World} {nx : Next} (hn : isNew r = true) (hs : jz ρ r = some s) (h : s.run P w = .ok nx w') : ∃ u, nx = .value u /\ Ext w w' := by
  cases r <;> simp only [isNew] at hn <;> first | (cases hn;done) | skip
  all_goals (simp only [jz, Option.some.injEq] at hs;subst hs)
  case alloc => obtain ⟨rfl, e⟩ := run_new_ext h;exact ⟨_, rfl, e⟩
  case box => obtain ⟨rfl, e⟩ := run_new_ext h;exact ⟨_, rfl, e⟩
  case bslice =>
    split at h
    · obtain ⟨rfl, e⟩ := run_new_ext h;exact ⟨_, rfl, e⟩
    · simp [stuck, Sem.run] at h
  case mkmap =>
    simp only [Go.newObj, Sem.run_bind, Sem.run, Sem.run_pure, Result.andThen_ok] at h;cases h;exact ⟨_, rfl, ext_push _⟩
  case s2b =>
    split at h
    · rw [Sem.run_bind] at h;obtain ⟨v, w1, h1, h2⟩ := jA h;rw [Sem.run_pure] at h2;cases h2;exact ⟨_, rfl, run_s2b_ext h1⟩
    · simp [stuck, Sem.run] at h
theorem VO.act {d : Option Nat} {r : R} (hp : jC r = false) (hr : jI r = false)
    (hv : ∀ ρ : Operand -> Value, (∀ x u, ev Γ x = some u -> ρ x = u) -> ∃ s, jz ρ r = some s /\ SWP P s H.flatten fun nx L => ∃ v H', (nx = .value v ∨ (nx = .skip /\ v = undef)) /\ L.Perm H'.flatten /\ VO P n rs (putE d v Γ) H' Z K) :
    VO P n (⟨d, none, r⟩ :: rs) Γ H Z K := by
  intro l hl a w F ZZ Q ha hs hq hz;obtain ⟨o, l', rfl, hl', ops, ho⟩ := wu hl;obtain ⟨g1, g2, g3, g4⟩ := j6 ho;show jX P ZZ (_, o) (wpR P ZZ Q l') a w;unfold jX;obtain ⟨s, h1, h2⟩ := hv a.eval (fun x u e => ha.ev e);simp only [kw, hp, hr, if_true, Bool.false_eq_true, if_false];obtain ⟨nx, w', L, hrun, ⟨v, H', hnx, hL, hvo⟩, hs', hk⟩ := h2 F w hs;have hrun' := mem_sound (eval_const a) g1 h1 hrun;refine ⟨fun hn => ?_, ?_⟩
  · obtain ⟨u, hu, hext⟩ := memS_new hn h1 hrun;exact ⟨u, w', by rw [hrun', hu], hext⟩
  have fin : wpR P ZZ Q l' (a.put o.dst v) w' := by
    rw [<- g2];exact hvo l' hl' _ w' F ZZ Q (ha.putE g3 v) (hs'.perm (hL.append_right F)) (fun a2 w2 Γ2 H2 k1 k2 k3 k4 k5 => hq a2 w2 Γ2 H2 k1 k2 (k3.trans (ky ..)) k4 (hk.trans k5)) (fun ch a2 w2 Γ2 H2 k1 k2 k3 k4 k5 => hz ch a2 w2 Γ2 H2 k1 k2 (k3.trans (ky ..)) k4 (hk.trans k5))
  rcases hnx with rfl | ⟨rfl, rfl⟩
  · simpa only [wpV, hrun', jN] using fin
  · simpa only [wpV, hrun', jN] using fin
theorem VO.act' {d : Option Nat} {r : R} (hp : jC r = false) (hr : jI r = false)
    (hv : ∀ ρ : Operand -> Value, (∀ x u, ev Γ x = some u -> ρ x = u) -> ∃ s, jz ρ r = some s /\ SWP P s H.flatten fun nx L => ∃ v H' X, (nx = .value v ∨ (nx = .skip /\ v = undef)) /\ L.Perm (List.flatten H' ++ X) /\ VO P n rs (putE d v Γ) H' Z K) :
    VO P n (⟨d, none, r⟩ :: rs) Γ H Z K := by
  refine VO.act hp hr (fun ρ hρ => ?_);obtain ⟨s, h1, h2⟩ := hv ρ hρ;refine ⟨s, h1, fun F w hs => ?_⟩;obtain ⟨nx, w', L, k1, ⟨v, H', X, k2, k3, k4⟩, k5, k6⟩ := h2 F w hs;refine ⟨nx, w', H'.flatten, k1, ⟨v, H', k2, .refl _, k4⟩, ?_, k6⟩;have := k5.perm (k3.append_right F);rw [List.append_assoc] at this;exact this.sub ((List.Sublist.refl _).append (List.sublist_append_right _ _))
theorem wX {f : Nat} {args : Array Value} {w : World} (h : ju P f = true) : (callFunc f args).run P w = .ok (.enter f args) w := by
  unfold ju at h;split at h
  · rename_i fn hf;simp only [Bool.and_eq_true, bne_iff_ne] at h;obtain ⟨c, hc⟩ := Option.isSome_iff_exists.1 h.2;simp [callFunc, hf, h.1, hc]
  · cases h
theorem wp_call {o : Oper} {a : Act} {w : World} {f : Nat} {args : List Value} {next : Act -> World -> Prop} {ZZ : Exit -> Act -> World -> Prop} (he : (execOp a.eval o).run P w = .ok (.enter f args.toArray) w)
    (h : Calls P f args.toArray w fun e w' => (∃ v, e = .returned v /\ next (a.put o.dst v) w') ∨ (∃ ch, e = .panicked ch /\ ZZ (.panic ch) a w')) : wpV P o a w next ZZ := by
  simp only [wpV, he, jN];refine h.mono ?_
  rintro e w' (⟨v, rfl, hn⟩ | ⟨ch, rfl, hn⟩)
  · exact hn
  · exact hn
theorem VO.call_aux {d : Option Nat} {r : R} {f : Nat} {args : List Value} {Pre R : SH} {Q : Value -> SH -> Prop} (hp : jC r = false) (hr : jI r = false) (hnw : isNew r = false)
    (hx : ∀ (a : Act) (w : World) (o : Oper), (∀ x u, ev Γ x = some u -> a.eval x = u) -> kz P o.op = some r -> (execOp a.eval o).run P w = .ok (.enter f args.toArray) w)
    (hf : Fun P f args Pre Q) (hs : Spl H Pre R) (h : ∀ v Post, Q v Post -> VO P n rs (putE d v Γ) (Post ++ R) Z K) : VO P n (⟨d, none, r⟩ :: rs) Γ H Z K := by
  intro l hl a w F ZZ Q' ha hsat hq hz;obtain ⟨o, l', rfl, hl', ops, ho⟩ := wu hl;obtain ⟨g1, g2, g3, g4⟩ := j6 ho;show jX P ZZ (_, o) (wpR P ZZ Q' l') a w;unfold jX;simp only [kw, hp, hr, if_true, Bool.false_eq_true, if_false];refine ⟨fun e => (by rw [hnw] at e;cases e), ?_⟩;refine wp_call (hx a w o (fun x u e => ha.ev e) g1) ?_;have hsat' : Sat w (Pre.flatten ++ (R.flatten ++ F)) := by
    rw [<- List.append_assoc];exact hsat.perm (hs.append_right F)
  refine (hf.2 (R.flatten ++ F) w hsat').mono ?_
  rintro e w' ⟨v, Post, rfl, hQ, hs', hk⟩
  refine .inl ⟨v, rfl, ?_⟩;rw [<- g2];refine h v Post hQ l' hl' _ w' F ZZ Q' (ha.putE g3 v) ?_ (fun a2 w2 Γ2 H2 k1 k2 k3 k4 k5 => hq a2 w2 Γ2 H2 k1 k2 (k3.trans (ky ..)) k4 (hk.trans k5)) (fun ch a2 w2 Γ2 H2 k1 k2 k3 k4 k5 => hz ch a2 w2 Γ2 H2 k1 k2 (k3.trans (ky ..)) k4 (hk.trans k5));rw [List.flatten_append, List.append_assoc];exact hs'
theorem low_call {op : Op} {f : Nat} {xs : List Operand} (h : kz P op = some (.call f xs)) : ∃ c, op = .call c /\ c.callee = .value (.func f) /\ c.args.toList = xs /\ ju P f = true := by
  cases op
  case call c =>
    refine ⟨c, rfl, ?_⟩;obtain ⟨callee, args, ats⟩ := c;simp only [kz] at h;split at h
    · split at h
      · rename_i hc;cases h;exact ⟨rfl, rfl, hc⟩
      · cases h
    · cases h
    all_goals (repeat' split at h)
    all_goals first
      | (cases h;done)
      | (simp only [Option.map_eq_some_iff] at h;obtain ⟨_, _, h⟩ := h;cases h;done)
  all_goals (exfalso;try simp only [kz] at h)
  all_goals (repeat' split at h)
  all_goals first
    | (cases h;done)
    | (simp only [Option.map_eq_some_iff] at h;obtain ⟨_, _, h⟩ := h;cases h;done)
theorem low_callv {op : Op} {x : Operand} {xs : List Operand} (h : kz P op = some (.callv x xs)) : ∃ c, op = .call c /\ c.callee = .value x /\ c.args.toList = xs := by
  cases op
  case call c =>
    refine ⟨c, rfl, ?_⟩;obtain ⟨callee, args, ats⟩ := c;simp only [kz] at h;split at h
    · split at h
      · cases h
      · cases h
    · cases h;exact ⟨rfl, rfl⟩
    all_goals (repeat' split at h)
    all_goals first
      | (cases h;done)
      | (simp only [Option.map_eq_some_iff] at h;obtain ⟨_, _, h⟩ := h;cases h;done)
  all_goals (exfalso;try simp only [kz] at h)
  all_goals (repeat' split at h)
  all_goals first
    | (cases h;done)
    | (simp only [Option.map_eq_some_iff] at h;obtain ⟨_, _, h⟩ := h;cases h;done)
theorem VO.call {d : Option Nat} {f : Nat} {xs : List Operand} {args : List Value} {Pre R : SH} {Q : Value -> SH -> Prop} (hf : Fun P f args Pre Q) (he : evs Γ xs = some args) (hs : Spl H Pre R)
    (h : ∀ v Post, Q v Post -> VO P n rs (putE d v Γ) (Post ++ R) Z K) : VO P n (⟨d, none, .call f xs⟩ :: rs) Γ H Z K := by
  refine VO.call_aux rfl rfl rfl (fun a w o ha hl => ?_) hf hs h;obtain ⟨c, h1, h2, h3, h4⟩ := low_call hl;have hm : xs.map a.eval = args := by
    have : ∀ {l : List Operand} {vs : List Value}, evs Γ l = some vs -> l.map a.eval = vs := by
      intro l
      induction l with
      | nil => intro vs e;simp [evs] at e;subst e;rfl
      | cons x r ih =>
        intro vs e;simp only [evs] at e;split at e
        · rename_i v l hv hl;cases e;simp [ha _ _ hv, ih hl]
        · cases e
    exact this he
  have hargs : (c.args.map a.eval) = args.toArray := by
    apply Array.toList_inj.1;rw [Array.toList_map, h3, hm]
  simp [execOp, h1, resolve, h2, Act.eval, Deferred.ofValue, invoke, hargs, wX h4]
end
end Go.V
namespace Go.V
open Go
inductive IC where
  | skip
  | reg (rs : List RO) (keep : List Nat)
  | draw (rss : List (List RO)) (keep : List Nat)
  | seq (a b : IC)
  | cond (c : Operand) (a b : IC)
  | block (id : Nat) (b : IC)
  | loop (b : IC)
  | exit (id : Nat)
  | ret
  | rangef (g : Operand) (ps : List Nat) (asg b : IC)
  | free (rs : List RO) (an : List (List Nat)) (keep : List Nat)
def zQ (P : Program) (n : Nat) (ops : Array Oper) : List Oper -> Option (List RO)
  | [] => some []
  | o :: r => match lowRO P n ops o, zQ P n ops r with
    | some x, some l => some (x :: l)
    | _, _ => none
def wi (P : Program) (n : Nat) (kp : Nat -> List Nat) (od : Nat -> List (List Nat)) : Code -> Option IC
  | .skip => some .skip
  | .region id ops false => (zQ P n ops ops.toList).map fun rs => .reg rs (kp id)
  | .region id ops true =>
    match zQ P n ops ops.toList with
    | some rs => if (od id).isEmpty then (if P.follows .mixedOrders && zB ops then some (.free rs (ancs ops) (kp id)) else none) else
      if P.follows .mixedOrders && coverB (rs.zip ops.toList) ops (od id) then some (.draw ((od id).map fun o => o.map fun i => rs.getD i default) (kp id)) else none
    | none => none
  | .seq a b => match wi P n kp od a, wi P n kp od b with
    | some x, some y => some (.seq x y)
    | _, _ => none
  | .cond c a b => match wi P n kp od a, wi P n kp od b with
    | some x, some y => some (.cond c x y)
    | _, _ => none
  | .block id b => (wi P n kp od b).map (IC.block id)
  | .loop b => (wi P n kp od b).map IC.loop
  | .exit id => some (.exit id)
  | .ret => some .ret
  | .rangeFunc g ps x b => match wi P n kp od x, wi P n kp od b with
    | some x, some y => if ps.all (· < n) then some (.rangef g ps.toList x y) else none
    | _, _ => none
  | _ => none
def LowInv (P : Program) (n : Nat) (kp : Nat -> List Nat) (od : Nat -> List (List Nat)) : IC -> Code -> Prop
  | .skip, code => code = .skip
  | .reg rs keep, code => ∃ id ops, code = .region id ops false /\ zQ P n ops ops.toList = some rs /\ keep = kp id
  | .draw rss keep, code => ∃ id ops rs, code = .region id ops true /\ zQ P n ops ops.toList = some rs /\ P.follows .mixedOrders = true /\ coverB (rs.zip ops.toList) ops (od id) = true /\ rss = ((od id).map fun o => o.map fun i => rs.getD i default) /\ keep = kp id
  | .free rs an keep, code => ∃ id ops, code = .region id ops true /\ zQ P n ops ops.toList = some rs /\ P.follows .mixedOrders = true /\ zB ops = true /\ an = ancs ops /\ keep = kp id
  | .seq x y, code => ∃ a b, code = .seq a b /\ wi P n kp od a = some x /\ wi P n kp od b = some y
  | .cond c x y, code => ∃ a b, code = .cond c a b /\ wi P n kp od a = some x /\ wi P n kp od b = some y
  | .block id x, code => ∃ a, code = .block id a /\ wi P n kp od a = some x
  | .loop x, code => ∃ a, code = .loop a /\ wi P n kp od a = some x
  | .exit id, code => code = .exit id
  | .ret, code => code = .ret
  | .rangef g ps x y, code => ∃ qs a b, code = .rangeFunc g qs a b /\ qs.toList = ps /\ (∀ t ∈ ps, t < n) /\ wi P n kp od a = some x /\ wi P n kp od b = some y
theorem jT {P : Program} {n : Nat} {kp : Nat -> List Nat} {od : Nat -> List (List Nat)} {code : Code} {c : IC} (h : wi P n kp od code = some c) : LowInv P n kp od c code := by
  cases code with
  | skip => simp only [wi] at h;cases h;rfl
  | region id ops b =>
    cases b
    · simp only [wi, Option.map_eq_some_iff] at h;obtain ⟨rs, h1, rfl⟩ := h;exact ⟨id, ops, rfl, h1, rfl⟩
    · simp only [wi] at h;split at h
      case h_2 => cases h
      rename_i rs h1;split at h
      · split at h
        case isFalse => cases h
        rename_i hc;simp only [Bool.and_eq_true] at hc;cases h;exact ⟨id, ops, rfl, h1, hc.1, hc.2, rfl, rfl⟩
      split at h
      case isFalse => cases h
      rename_i hc;simp only [Bool.and_eq_true] at hc;cases h;exact ⟨id, ops, rs, rfl, h1, hc.1, hc.2, rfl, rfl⟩
  | seq a b =>
    simp only [wi] at h;split at h
    case h_2 => cases h
    rename_i x y h1 h2;cases h;exact ⟨a, b, rfl, h1, h2⟩
  | cond q a b =>
    simp only [wi] at h;split at h
    case h_2 => cases h
    rename_i x y h1 h2;cases h;exact ⟨a, b, rfl, h1, h2⟩
  | block id b =>
    simp only [wi, Option.map_eq_some_iff] at h;obtain ⟨x, h1, rfl⟩ := h;exact ⟨b, rfl, h1⟩
  | loop b =>
    simp only [wi, Option.map_eq_some_iff] at h;obtain ⟨x, h1, rfl⟩ := h;exact ⟨b, rfl, h1⟩
  | exit id => simp only [wi] at h;cases h;rfl
  | ret => simp only [wi] at h;cases h;rfl
  | rangeFunc g ps a b =>
    simp only [wi] at h;split at h
    case h_2 => cases h
    rename_i x y h1 h2;split at h
    case isFalse => cases h
    rename_i hp;cases h;exact ⟨ps, a, b, rfl, rfl, fun t ht => by have := Array.all_eq_true_iff_forall_mem.1 hp t (by simpa using ht);simpa using this, h1, h2⟩
  | _ => simp only [wi] at h;cases h
def restr : List Nat -> Env -> Env
  | [], _ => []
  | t :: r, Γ => match look Γ t with
    | some v => (t, v) :: restr r Γ
    | none => restr r Γ
theorem sub_restr (k : List Nat) (Γ : Env) : Sub Γ (restr k Γ) := by
  induction k with
  | nil => intro t v h;simp [restr, look] at h
  | cons s r ih =>
    intro t v h;simp only [restr] at h;split at h
    · rename_i u hu;simp only [look] at h;split at h
      · rename_i e;subst e;cases h;exact hu
      · exact ih t v h
    · exact ih t v h
def coll (r : Nat) : Deferred := { target := .collected r, args := #[] }
def marks (X : List Nat) : List kE := X.map fun r => .obj r (.deferred (some []))
def Rnd (ρ : Option Nat) (F : List kE) : Prop := ∀ l, ρ = some l -> ∃ r, kE.obj l (.loop r) ∈ F
theorem Rnd.more {ρ : Option Nat} {F F' : List kE} (h : Rnd ρ F) (hf : ∀ x ∈ F, x ∈ F') : Rnd ρ F' := fun l e => let ⟨r, hr⟩ := h l e;⟨r, hf _ hr⟩
def VC (P : Program) (n : Nat) (c : IC) (Γ : Env) (H : SH) (Q : Exit -> Env -> SH -> Prop) : Prop :=
  ∀ ρ kp od code, wi P n kp od code = some c -> ∀ a w F (QQ : Exit -> Act -> World -> Prop), Rnd ρ F -> jW n Γ a -> Sat w (H.flatten ++ F) ->
    (∀ e a' w' Γ' H' X, Q e Γ' H' -> jW n Γ' a' -> a'.defers = X.map coll ++ a.defers -> Sat w' (H'.flatten ++ (F ++ marks X)) -> ko w w' -> QQ e a' w') -> code.wpIn (VFc ρ) 0 P QQ a w
def Imp (H H' : SH) : Prop := ∃ R, Spl H H' R
theorem Imp.refl (H : SH) : Imp H H := ⟨[], by simp [Spl]⟩
theorem Sat.imp {w : World} {H H' : SH} {F : List kE} (h : Imp H H') (hs : Sat w (H.flatten ++ F)) : Sat w (H'.flatten ++ F) := by
  obtain ⟨R, hR⟩ := h;have := hs.perm (hR.append_right F);rw [List.append_assoc] at this;exact this.sub ((List.Sublist.refl _).append (List.sublist_append_right _ _))
def thenQ (K : Env -> SH -> Prop) (Q : Exit -> Env -> SH -> Prop) : Exit -> Env -> SH -> Prop
  | .normal, Γ, H => K Γ H
  | e, Γ, H => Q e Γ H
def blockQ (id : Nat) (Q : Exit -> Env -> SH -> Prop) : Exit -> Env -> SH -> Prop
  | .exit i, Γ, H => if i = id then Q .normal Γ H else Q (.exit i) Γ H
  | e, Γ, H => Q e Γ H
section
variable {P : Program} {n : Nat} {Γ Δ : Env} {H : SH} {Q Q' : Exit -> Env -> SH -> Prop}
theorem marks_app (X Y : List Nat) : marks (X ++ Y) = marks X ++ marks Y := by simp [marks]
theorem Sat.marks {w : World} {L F : List kE} {X Y : List Nat} (h : Sat w (L ++ ((F ++ marks X) ++ marks Y))) : Sat w (L ++ (F ++ marks (Y ++ X))) := by
  refine h.perm (List.Perm.append_left _ ?_);rw [marks_app, List.append_assoc];exact List.Perm.append_left _ List.perm_append_comm
theorem Sat.nomarks {w : World} {L F : List kE} (h : Sat w (L ++ F)) : Sat w (L ++ (F ++ V.marks [])) := by simpa [V.marks] using h
theorem VC.mono {c : IC} (h : VC P n c Γ H Q) (hq : ∀ e Γ H, Q e Γ H -> Q' e Γ H) : VC P n c Γ H Q' := fun ρ kp od code hl a w F QQ hr ha hs hh =>
  h ρ kp od code hl a w F QQ hr ha hs (fun e a' w' Γ' H' X q => hh e a' w' Γ' H' X (hq _ _ _ q))
theorem VC.sub {c : IC} (s : Sub Γ Δ) (h : VC P n c Δ H Q) : VC P n c Γ H Q := fun ρ kp od code hl a w F QQ hr ha hs hh => h ρ kp od code hl a w F QQ hr (ha.sub s) hs hh
theorem VC.imp {c : IC} {H' : SH} (i : Imp H H') (h : VC P n c Γ H' Q) : VC P n c Γ H Q := fun ρ kp od code hl a w F QQ hr ha hs hh => h ρ kp od code hl a w F QQ hr ha (hs.imp i) hh
theorem VC.skip (h : Q .normal Γ H) : VC P n .skip Γ H Q := by
  intro ρ kp od code hl a w F QQ hr ha hs hh;obtain rfl := jT hl;exact wpIn_skip (hh _ _ _ _ _ [] h ha rfl hs.nomarks (.refl w))
theorem VC.exit {id : Nat} (h : Q (.exit id) Γ H) : VC P n (.exit id) Γ H Q := by
  intro ρ kp od code hl a w F QQ hr ha hs hh;obtain rfl := jT hl;exact wpIn_exit (hh _ _ _ _ _ [] h ha rfl hs.nomarks (.refl w))
theorem VC.ret (h : Q .ret Γ H) : VC P n .ret Γ H Q := by
  intro ρ kp od code hl a w F QQ hr ha hs hh;obtain rfl := jT hl;exact wpIn_ret (hh _ _ _ _ _ [] h ha rfl hs.nomarks (.refl w))
theorem VC.cond {c : Operand} {x y : IC} {t : Bool} (hc : ev Γ c = some (.bool t)) (ht : t = true -> VC P n x Γ H Q) (hf : t = false -> VC P n y Γ H Q) : VC P n (.cond c x y) Γ H Q := by
  intro ρ kp od code hl a w F QQ hr ha hs hh;obtain ⟨p, q, rfl, h1, h2⟩ := jT hl;exact wpIn_cond_split (ha.ev hc) (fun e => ht e ρ kp od _ h1 a w F QQ hr ha hs hh) (fun e => hf e ρ kp od _ h2 a w F QQ hr ha hs hh)
theorem VC.seq {x y : IC} (h : VC P n x Γ H (thenQ (fun Γ' H' => VC P n y Γ' H' Q) Q)) : VC P n (.seq x y) Γ H Q := by
  intro ρ kp od code hl a w F QQ hr ha hs hh;obtain ⟨p, q, rfl, h1, h2⟩ := jT hl;refine wpIn_seq (h ρ kp od _ h1 a w F _ hr ha hs (fun e a' w' Γ' H' X q g1 g2 g3 g4 => ?_));cases e <;> first
    | exact q ρ kp od _ h2 a' w' (F ++ marks X) QQ (hr.more (fun x hx => Zw _ hx)) g1 g3 (fun e a2 w2 Γ2 H2 Y q2 k1 k2 k3 k4 => hh e a2 w2 Γ2 H2 (Y ++ X) q2 k1 (by rw [k2, g2];simp) k3.marks (g4.trans k4))
    | exact hh _ _ _ _ _ X q g1 g2 g3 g4
theorem VC.block {id : Nat} {x : IC} (h : VC P n x Γ H (blockQ id Q)) : VC P n (.block id x) Γ H Q := by
  intro ρ kp od code hl a w F QQ hr ha hs hh;obtain ⟨p, rfl, h1⟩ := jT hl;refine wpIn_block (h ρ kp od _ h1 a w F _ hr ha hs (fun e a' w' Γ' H' X q g1 g2 g3 g4 => ?_));cases e <;> first
    | exact hh _ _ _ _ _ X q g1 g2 g3 g4
    | skip
  rename_i i;simp only [blockQ] at q;simp only [Exit.inBlock];split at q
  · rename_i e;rw [if_pos e];exact hh _ _ _ _ _ X q g1 g2 g3 g4
  · rename_i e;rw [if_neg e];exact hh _ _ _ _ _ X q g1 g2 g3 g4
theorem js {ops : Array Oper} : ∀ {l : List Oper} {rs : List RO}, zQ P n ops l = some rs -> rs.length = l.length /\ ∀ (i : Nat) r o, rs[i]? = some r -> l[i]? = some o -> lowRO P n ops o = some r := by
  intro l
  induction l with
  | nil => intro rs h;simp [zQ] at h;subst h;simp
  | cons o l ih =>
    intro rs h;simp only [zQ] at h;split at h
    · rename_i x l' hx hl;cases h;obtain ⟨h1, h2⟩ := ih hl;refine ⟨by simp [h1], fun i r o' hr ho => ?_⟩;cases i with
      | zero => simp at hr ho;subst hr ho;exact hx
      | succ i => simp at hr ho;exact h2 i r o' hr ho
    · cases h
theorem zE {ops : Array Oper} {rs : List RO} (h : zQ P n ops ops.toList = some rs) {i : Nat} (hi : i < ops.size) :
    ops[i]? = some ((rs.zip ops.toList).getD i default).2 /\ ((rs.zip ops.toList).getD i default).1 = rs.getD i default /\ lowRO P n ops ((rs.zip ops.toList).getD i default).2 = some ((rs.zip ops.toList).getD i default).1 := by
  obtain ⟨h1, h2⟩ := js h;have hl : i < rs.length := by rw [h1];simpa using hi
  have hz : (rs.zip ops.toList)[i]? = some (rs[i], ops[i]) := by
    rw [Zg (by rw [List.length_zip];simp only [Array.length_toList];omega)];simp
  have he : (rs.zip ops.toList).getD i default = (rs[i], ops[i]) := by rw [List.getD_eq_getElem?_getD, hz];rfl
  rw [he];refine ⟨by simp [hi], by simp [List.getD_eq_getElem?_getD, hl], ?_⟩;exact h2 i rs[i] ops[i] (by simp [hl]) (by simp [hi])
theorem VC.reg {rs : List RO} {keep : List Nat} (h : VO P n rs Γ H (fun ch Γ' H' => Q (.panic ch) Γ' H') fun Γ' H' => Q .normal (restr keep Γ') H') : VC P n (.reg rs keep) Γ H Q := by
  intro ρ kp od code hl a w F QQ hr ha hs hh;obtain ⟨id, ops, rfl, h1, rfl⟩ := jT hl;refine wpIn_region ?_;refine wpR_sound (P := P) (ρ := ρ) (n := n) (ops := ops) (X := fun i => (rs.zip ops.toList).getD i default) (QQ := QQ) (fun i hi => ?_) (List.range ops.size) a w (fun i hi => by simpa using hi) ?_
  · obtain ⟨g1, g2, g3⟩ := zE h1 hi;exact ⟨g1, g3⟩
  · have hlen := (js h1).1;have hmap : (List.range ops.size).map (fun i => (rs.zip ops.toList).getD i default) = rs.zip ops.toList := by
      have hzl : (rs.zip ops.toList).length = ops.size := by simp [hlen]
      apply List.ext_getElem?;intro i;simp only [List.getElem?_map];by_cases hi : i < ops.size
      · rw [List.getElem?_range hi, Option.map_some];rw [List.getD_eq_getElem?_getD];have : i < (rs.zip ops.toList).length := by omega
        rw [Zg this];rfl
      · rw [List.getElem?_eq_none (l := List.range ops.size) (by simpa using hi), List.getElem?_eq_none Zo];rfl
    rw [hmap];refine h (rs.zip ops.toList) ⟨?_, ?_⟩ a w F _ _ ha hs (fun a' w' Γ' H' q g1 g2 g3 g4 => hh .normal a' w' _ H' [] q (g1.sub (sub_restr _ _)) g2 g3.nomarks g4) (fun ch a' w' Γ' H' q g1 g2 g3 g4 => hh (.panic ch) a' w' _ H' [] q g1 g2 g3.nomarks g4)
    · rw [List.map_fst_zip];simp [hlen]
    · intro x hx;obtain ⟨i, hi⟩ := List.getElem?_of_mem hx;have hi2 : i < (rs.zip ops.toList).length := (List.getElem?_eq_some_iff.1 hi).1;have hi3 : i < ops.size := by simp [hlen] at hi2;omega
      obtain ⟨g1, g2, g3⟩ := zE h1 hi3;have : (rs.zip ops.toList).getD i default = x := by rw [List.getD_eq_getElem?_getD, hi];rfl
      rw [this] at g3;exact ⟨ops, g3⟩
theorem VC.draw {rss : List (List RO)} {keep : List Nat} (h : ∀ rs ∈ rss, VO P n rs Γ H (fun _ _ _ => False) fun Γ' H' => Q .normal (restr keep Γ') H') : VC P n (.draw rss keep) Γ H Q := by
  intro ρ kp od code hl a w F QQ hr ha hs hh;obtain ⟨id, ops, rs, rfl, h1, hm, hc, rfl, rfl⟩ := jT hl;have hlen := (js h1).1;refine wpIn_region_draw (fun t => ?_);have hsched : Region.schedule (P.follows .mixedOrders) ops t = wA ops ops.size t (Array.replicate ops.size false) := by simp [Region.schedule, hm, Region.linearise, wA]
  rw [hsched];have hu : unl ops (Array.replicate ops.size false) = List.range ops.size := by
    simp only [unl];refine List.filter_eq_self.2 (fun i hi => ?_);have := List.mem_range.1 hi;simp [this]
  have hback : zB ops = true := by
    rcases Bool.or_eq_true_iff.1 hc with hc | hc <;> (simp only [coverG, Bool.and_eq_true] at hc;exact hc.1.1.1)
  have hmem := (sched_spec hback ops.size t (Array.replicate ops.size false) Zs (by rw [hu];simp)).2.1;refine wpR_sound (P := P) (ρ := ρ) (n := n) (ops := ops) (X := fun i => (rs.zip ops.toList).getD i default) (QQ := QQ) (fun i hi => ?_) _ a _ (fun i hi => by rw [hmem, hu] at hi;simpa using hi) ?_
  · obtain ⟨g1, g2, g3⟩ := zE h1 hi;exact ⟨g1, g3⟩
  · refine wpR_zmono ?_;refine cover (P := P) (n := n) (by simp [hlen]) (fun i x hx => ?_) hc (fun o ho => ?_) t
    · have hi2 : i < (rs.zip ops.toList).length := (List.getElem?_eq_some_iff.1 hx).1;have hi3 : i < ops.size := by simp [hlen] at hi2;omega
      obtain ⟨g1, g2, g3⟩ := zE h1 hi3;have : (rs.zip ops.toList).getD i default = x := by rw [List.getD_eq_getElem?_getD, hx];rfl
      rw [this] at g3;exact Good.of_low g3
    · have hall : o.all (· < ops.size) = true := by
        rcases Bool.or_eq_true_iff.1 hc with hc | hc <;>
        · simp only [coverG, Bool.and_eq_true, List.all_eq_true] at hc;have := hc.1.2 o ho;simp only [List.all_eq_true];exact this.2
      have hlt : ∀ i ∈ o, i < ops.size := by simpa [List.all_eq_true] using hall
      refine h (o.map fun i => rs.getD i default) (List.mem_map.2 ⟨o, ho, rfl⟩) _ ⟨?_, ?_⟩ a { w with drawn := w.drawn + 1 } F _ _ ha (hs.drawn _) (fun a' w' Γ' H' q g1 g2 g3 g4 => hh .normal a' w' _ H' [] q (g1.sub (sub_restr _ _)) g2 g3.nomarks ?_) (fun _ _ _ _ _ q => q.elim)
      · rw [List.map_map];refine List.map_congr_left (fun i hi => ?_);obtain ⟨g1, g2, g3⟩ := zE h1 (hlt i hi);exact g2
      · intro x hx;obtain ⟨i, hi, rfl⟩ := List.mem_map.1 hx;obtain ⟨g1, g2, g3⟩ := zE h1 (hlt i hi);exact ⟨ops, g3⟩
      · exact ((ko.refl w).drawn _).trans g4
theorem VC.loop {x : IC} {α : Type} (Γf : α -> Env) (Hf : α -> SH) (I : α -> Prop) (μ : α -> Nat) (s0 : α) (h0 : I s0) (hΓ : Sub Γ (Γf s0)) (hH : Imp H (Hf s0))
    (round : ∀ s, I s -> VC P n x (Γf s) (Hf s) (thenQ (fun Γ' H' => ∃ s', I s' /\ μ s' < μ s /\ Sub Γ' (Γf s') /\ Imp H' (Hf s')) Q)) : VC P n (.loop x) Γ H Q := by
  intro ρ kp od code hl a w F QQ hr ha hs hh;obtain ⟨body, rfl, h1⟩ := jT hl;intro b k cs hro hfn hroom;have key : ∀ m s X, μ s = m -> I s -> ∀ a1 w1, jW n (Γf s) a1 -> a1.defers = X.map coll ++ a.defers -> Sat w1 ((Hf s).flatten ++ (F ++ marks X)) -> ko w w1 ->
      ∃ e a' w', QQ e a' w' /\ ArrivesIn (Machine.fenced P (VFc ρ)) P (lone (b.atR a1 (.code body :: .inLoop body :: k)) cs w1) b k cs e a' w' := by
    intro m
    induction m using Nat.strongRecOn with
    | _ m ih =>
      intro s X hm hI a1 w1 ha1 hd1 hs1 hk1;have hrd := round s hI ρ kp od body h1 a1 w1 (F ++ marks X) (Exit.then (fun a' w' => ∃ s' Y, I s' /\ μ s' < μ s /\ jW n (Γf s') a' /\ a'.defers = (Y ++ X).map coll ++ a.defers /\ Sat w' ((Hf s').flatten ++ (F ++ marks (Y ++ X))) /\ ko w w') QQ) (hr.more (fun x hx => Zw _ hx)) ha1 hs1 (fun e a' w' Γ' H' Y q g1 g2 g3 g4 => by
        cases e <;> first
          | (obtain ⟨s', i1, i2, i3, i4⟩ := q;exact ⟨s', Y, i1, i2, g1.sub i3, by rw [g2, hd1];simp, (g3.imp i4).marks, hk1.trans g4⟩)
          | exact hh _ _ _ _ _ (Y ++ X) q g1 (by rw [g2, hd1];simp) g3.marks (hk1.trans g4))
      obtain ⟨e, a2, w2, hq, harr⟩ := hrd b (.inLoop body :: k) cs hro hfn hroom;cases e with
      | normal =>
        obtain ⟨s', Y, i1, i2, i3, i3', i4, i5⟩ := hq;obtain ⟨e2, a3, w3, hq2, harr2⟩ := ih (μ s') (hm ▸ i2) s' (Y ++ X) rfl i1 a2 w2 i3 i3' i4 i5;exact ⟨e2, a3, w3, hq2, .of_steps (StepsIn.trans harr (.one (fenced_calm (n := 0) (fr := b.atR a2 (.inLoop body :: k)) hfn hroom rfl) stepR_inLoop)) harr2⟩
      | exit id => exact ⟨_, a2, w2, hq, .pass (x := .inLoop body) rfl (fun _ _ => .inl Zs) harr⟩
      | goto l => exact ⟨_, a2, w2, hq, .pass (x := .inLoop body) rfl (fun _ _ => .inl Zs) harr⟩
      | ret => exact ⟨_, a2, w2, hq, .pass (x := .inLoop body) rfl (fun _ _ => .inl Zs) harr⟩
      | panic ch => exact ⟨_, a2, w2, hq, .pass (x := .inLoop body) rfl (fun _ _ => .inl Zs) harr⟩
      | outgrown => exact ⟨_, a2, w2, hq, .pass (x := .inLoop body) rfl (fun _ _ => .inl Zs) harr⟩
  obtain ⟨e, a', w', hq, harr⟩ := key _ s0 [] rfl h0 a w (ha.sub hΓ) rfl (hs.imp hH).nomarks (.refl w);exact ⟨e, a', w', hq, .of_steps (.one (fenced_calm (n := 0) (fr := b.atR a (.code (.loop body) :: k)) hfn hroom rfl) stepR_loop) harr⟩
theorem VC.join {x y : IC} {α : Type} (Γf : α -> Env) (Hf : α -> SH) (I : α -> Prop) (h1 : VC P n x Γ H (thenQ (fun Γ' H' => ∃ s, I s /\ Sub Γ' (Γf s) /\ Imp H' (Hf s)) Q))
    (h2 : ∀ s, I s -> VC P n y (Γf s) (Hf s) Q) : VC P n (.seq x y) Γ H Q := by
  refine VC.seq (h1.mono ?_);intro e Γ' H' q;cases e <;> first
    | (obtain ⟨s, i1, i2, i3⟩ := q;exact VC.sub i2 (VC.imp i3 (h2 s i1)))
    | exact q
end
def kM {α : Type} (l : List (Nat × List α)) (i : Nat) : List α := match l with
  | [] => []
  | (k, v) :: r => if k = i then v else kM r i
def rep (n : Nat) (l : List Value) : List Value := match n with
  | 0 => []
  | n + 1 => l ++ rep n l
inductive RV where
  | tmp (t : Nat)
  | cell1 (t : Nat)
  | cellN (t n : Nat)
structure FIR where
  n : Nat
  res : List RV
  body : IC
def wg (P : Program) : List ResultVar -> Option (List RV)
  | [] => some []
  | .tmp t :: r => (wg P r).map (.tmp t :: ·)
  | .cell a t :: r => match P.underlying t, P.info? t with
    | some (.struct _), some i => (wg P r).map (.cellN a i.size :: ·)
    | some (.array _ _), some i => (wg P r).map (.cellN a i.size :: ·)
    | some _, some _ => (wg P r).map (.cell1 a :: ·)
    | _, _ => none
def kV (P : Program) (kp : Nat -> List Nat) (od : Nat -> List (List Nat)) (f : Nat) : Option FIR :=
  match P.funcs[f]? with
  | none => none
  | some fn => match fn.body with
    | none => none
    | some c => if fn.name != "runtime.NumGoroutine" then
        match wi P fn.ntmps kp od c, wg P fn.results.toList with
        | some b, some r => some ⟨fn.ntmps, r, b⟩
        | _, _ => none
      else none
def argsEnv : Nat -> List Value -> Env
  | _, [] => []
  | k, v :: r => (k, v) :: argsEnv (k + 1) r
def tup : List Value -> Value
  | [v] => v
  | vs => .tuple vs.toArray
inductive Res (Γ : Env) (H : SH) : List RV -> List Value -> Prop where
  | nil : Res Γ H [] []
  | tmp {t : Nat} {v : Value} {r : List RV} {vs : List Value} : look Γ t = some v -> Res Γ H r vs -> Res Γ H (.tmp t :: r) (v :: vs)
  | cell1 {t b o : Nat} {v : Value} {r : List RV} {vs : List Value} : look Γ t = some (.pointer (some ⟨b, o, none⟩)) -> kE.cell b o v ∈ H.flatten -> Res Γ H r vs -> Res Γ H (.cell1 t :: r) (v :: vs)
  | cellN {t b o n : Nat} {us : List Value} {r : List RV} {vs : List Value} : look Γ t = some (.pointer (some ⟨b, o, none⟩)) -> us.length = n -> (∀ x ∈ kA b o us, x ∈ H.flatten) -> Res Γ H r vs -> Res Γ H (.cellN t n :: r) (.agg us.toArray :: vs)
def endQ (res : List RV) (Q : Value -> SH -> Prop) : Exit -> Env -> SH -> Prop := fun e Γ H => (e = .normal ∨ e = .ret) /\ ∃ vs Post, Res Γ H res vs /\ Imp H Post /\ Q (tup vs) Post
theorem look_argsEnv : ∀ {vs : List Value} {k t : Nat} {v : Value}, look (argsEnv k vs) t = some v -> k <= t /\ vs[t - k]? = some v := by
  intro vs
  induction vs with
  | nil => intro k t v h;simp [argsEnv, look] at h
  | cons u r ih =>
    intro k t v h;simp only [argsEnv, look] at h;split at h
    · rename_i e;subst e;cases h;simp
    · obtain ⟨h1, h2⟩ := ih h;refine ⟨Zo, ?_⟩;have : t - k = (t - (k + 1)) + 1 := by omega
      rw [this];simpa using h2
theorem loadFrom_same {P : Program} {b o : Nat} : ∀ (k i : Nat) (acc : Array Value) (w1 : World) (r : Array Value) (w2 : World), (loadCellsFrom ⟨b, o, none⟩ i k acc).run P w1 = .ok r w2 -> w2 = w1 := by
  intro k
  induction k with
  | zero => intro i acc w1 r w2 h;simp [loadCellsFrom] at h;exact h.2.symm
  | succ k ih =>
    intro i acc w1 r w2 h;simp only [loadCellsFrom, Sem.run_bind] at h;obtain ⟨v, w3, h1, h2⟩ := jA h;have hw : w3 = w1 := by
      simp only [Go.load, Sem.run] at h1;split at h1
      · cases h1;rfl
      · split at h1 <;> cases h1;rfl
    rw [ih _ _ _ _ _ h2, hw]
theorem zF {P : Program} {b o m : Nat} {us : List Value} {H : List kE} {F : List kE} {w : World} (hn : us.length = m) (hm : ∀ x ∈ kA b o us, x ∈ H) (hs : Sat w (H ++ F)) :
    (loadCells ⟨b, o, none⟩ m).run P w = .ok us.toArray w := by
  have hsw : SWP P (loadCells ⟨b, o, none⟩ m) H (fun r L => r = us.toArray /\ L = H) := SWP.loadCells hn hm ⟨rfl, rfl⟩;obtain ⟨r, w', L, h1, ⟨rfl, rfl⟩, h3, h4⟩ := hsw F w hs;obtain rfl := loadFrom_same _ _ _ _ _ _ h1;exact h1
theorem run_results {P : Program} {fn : Func} {r : List RV} {a : Act} {n : Nat} {Γ : Env} {vs : List Value} {w : World} {H : SH} {F : List kE} (hs : Sat w (H.flatten ++ F)) (hr : wg P fn.results.toList = some r) (ha : jW n Γ a) (hv : Res Γ H r vs) :
    (results fn a.tmps).run P w = .ok (tup vs) w := by
  have key : ∀ (l : List ResultVar) (r : List RV) (vs : List Value) (f : ResultVar -> Sem Value), (∀ t, f (.tmp t) = pure (a.tmps.getD t undef)) -> (∀ x t, f (.cell x t) = (do loadVar t (<- asAddr (a.tmps.getD x undef)))) ->
      wg P l = some r -> Res Γ H r vs -> (l.mapM f).run P w = .ok vs w := by
    intro l
    induction l with
    | nil => intro r vs f _ _ h1 h2;simp [wg] at h1;subst h1;cases h2;simp
    | cons x l ih =>
      intro r vs f hf hf2 h1 h2;cases x with
      | cell x t =>
        simp only [wg] at h1;have slot : ∀ {v}, look Γ x = some v -> a.tmps.getD x undef = v := fun h => by simp [Array.getD_eq_getD_getElem?, ha.slots x _ h]
        split at h1
        · rename_i i hu hi;simp only [Option.map_eq_some_iff] at h1;obtain ⟨r', h3, rfl⟩ := h1;cases h2 with
          | cellN k1 k2 k3 k4 =>
            simp only [List.mapM_cons, Sem.run_bind, hf2, slot k1, asAddr, Sem.run_pure, Result.andThen_ok, loadVar, wa hu, if_true, kX hi, zF k2 k3 hs, ih r' _ f hf hf2 h3 k4]
        · rename_i i hu hi;simp only [Option.map_eq_some_iff] at h1;obtain ⟨r', h3, rfl⟩ := h1;cases h2 with
          | cellN k1 k2 k3 k4 =>
            simp only [List.mapM_cons, Sem.run_bind, hf2, slot k1, asAddr, Sem.run_pure, Result.andThen_ok, loadVar, wa hu, if_true, kX hi, zF k2 k3 hs, ih r' _ f hf hf2 h3 k4]
        · rename_i d j g1 g2 hu hj;simp only [Option.map_eq_some_iff] at h1;obtain ⟨r', h3, rfl⟩ := h1;have hag : (isAgg t).run P w = .ok false w := by rw [wa hu];cases d <;> simp_all
          cases h2 with
          | cell1 k1 k2 k4 =>
            have hc := (hs.cell (Zw F k2)).1;simp only [List.mapM_cons, Sem.run_bind, hf2, slot k1, asAddr, Sem.run_pure, Result.andThen_ok, loadVar, hag, Bool.false_eq_true, if_false, run_load, hc, ih r' _ f hf hf2 h3 k4]
        · cases h1
      | tmp t =>
        simp only [wg, Option.map_eq_some_iff] at h1;obtain ⟨r', h3, rfl⟩ := h1;cases h2 with
        | tmp k1 k2 =>
          rename_i v0 _;have hslot : a.tmps.getD t undef = v0 := by simp [Array.getD_eq_getD_getElem?, ha.slots t _ k1]
          simp only [List.mapM_cons, Sem.run_bind, hf, Sem.run_pure, Result.andThen_ok, ih r' _ f hf hf2 h3 k2, hslot]
  unfold results;simp only [Sem.run_bind];rw [Array.mapM_eq_mapM_toList];simp only [Sem.run_map];rw [key fn.results.toList r vs _ (fun t => rfl) (fun x t => rfl) hr hv];cases vs with
  | nil => simp [tup]
  | cons v l => cases l <;> simp [tup]
theorem Fun.intro {P : Program} {kp : Nat -> List Nat} {od : Nat -> List (List Nat)} {f : Nat} {F : FIR} {args : List Value} {Pre : SH} {Q : Value -> SH -> Prop} (hl : kV P kp od f = some F) (hn : args.length <= F.n)
    (h : VC P F.n F.body (argsEnv 0 args) Pre (endQ F.res Q)) : Fun P f args Pre Q := by
  unfold kV at hl;split at hl
  · cases hl
  rename_i fn hfn;split at hl
  · cases hl
  rename_i c hc;split at hl
  case isFalse => cases hl
  rename_i hname;split at hl
  case h_2 => cases hl
  rename_i b r hb hr;cases hl;refine ⟨by simp only [ju, hfn, hname, hc];rfl, fun FF w hs => ?_⟩;refine (callsIn_wide (n := 0)).1 (callsIn_of_wp_marks hfn hc trivial (h none kp od c hb _ w FF _ (fun l e => by cases e) ⟨?_, fun t v e => ?_⟩ hs (fun e a' w' Γ' H' X q g1 g2 g3 g4 => ?_)))
  · simp at hn |-;omega
  · obtain ⟨_, h2⟩ := look_argsEnv e;simp only [Nat.sub_zero] at h2;have hlt : t < args.length := (List.getElem?_eq_some_iff.1 h2).1;simp only [Array.getElem?_append, List.size_toArray, hlt, if_true];simpa using h2
  · obtain ⟨he, vs, Post, h1, h2, h3⟩ := q;have hb : LeavesInM (VFc none) 0 P fn a'.tmps (fun e w' => ∃ v Post, e = .returned v /\ Q v Post /\ Sat w' (Post.flatten ++ FF) /\ ko w w') a'.defers .returning w' := by
      rw [g2, List.append_nil];clear g2
      induction X generalizing w' with
      | nil =>
        have g3' : Sat w' (H'.flatten ++ FF) := by simpa [V.marks] using g3
        exact ⟨_, run_results g3' hr g1 h1, _, Post, rfl, h3, g3'.imp h2, g4⟩
      | cons r X ih =>
        have hp : (H'.flatten ++ (FF ++ V.marks (r :: X))).Perm (.obj r (.deferred (some [])) :: (H'.flatten ++ (FF ++ V.marks X))) := by
          simp only [V.marks, List.map_cons];rw [<- List.append_assoc, <- List.append_assoc];exact List.perm_middle
        have g5 := g3.perm hp;obtain ⟨k1, k2⟩ := g5.obj (List.mem_cons_self ..);obtain ⟨s1, s2⟩ := Sat.setObj (u := .deferred none) g5 rfl;refine ⟨Zs, .inl ⟨r, _, rfl, ?_, ih _ (s1.sub (List.sublist_cons_self ..)) (g4.trans s2)⟩⟩;simp [Instr.takeDeferred, Go.getObj, Go.setObj, Sem.run, k1]
    rcases he with rfl | rfl <;> exact hb
end Go.V

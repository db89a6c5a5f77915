/-
  Triples for what reads, makes or writes memory.
-/
import Derived.Test.YtmnmandpdadedaaGreatDoorV2
import Derived.Orders
import Derived.RangeFuncIn
import Derived.RangeFuncLeaves
import Derived.OwnWalkIn
set_option linter.unusedSimpArgs false
set_option linter.unusedVariables false
namespace Go.V
open Go
section
variable {P : Program} {ρ : Operand → Value} {H : List Atom} {K : Next → List Atom → Prop}
theorem cellsAt_append (b : Nat) (us vs : List Value) : ∀ o, cellsAt b o (us ++ vs) = cellsAt b o us ++ cellsAt b (o + us.length) vs := by
  induction us with
  | nil => intro o; simp [cellsAt]
  | cons u us ih => intro o; simp only [List.cons_append, cellsAt, ih, List.length_cons]; congr 3; omega
theorem swp_loadFrom {b o : Nat} {K : Array Value → List Atom → Prop} : ∀ (vs : List Value) (i : Nat) (acc : Array Value), (∀ x ∈ cellsAt b (o + i) vs, x ∈ H) → K (acc ++ vs.toArray) H →
    SWP P (loadCellsFrom ⟨b, o, none⟩ i vs.length acc) H K := by
  intro vs
  induction vs with
  | nil => intro i acc _ h; exact SWP.pure (by simpa using h)
  | cons v vs ih =>
    intro i acc hm h
    simp only [List.length_cons, loadCellsFrom, add_off]
    refine SWP.bind (SWP.load (v := v) (hm _ (by simp [cellsAt])) ?_)
    refine ih (i + 1) (acc.push v) (fun x hx => hm x (by simp only [cellsAt, List.mem_cons]; exact .inr hx)) ?_
    have : acc.push v ++ vs.toArray = acc ++ (v :: vs).toArray := by simp
    rw [this]; exact h
theorem SWP.loadCells {b o n : Nat} {vs : List Value} {K : Array Value → List Atom → Prop} (hn : vs.length = n) (hm : ∀ x ∈ cellsAt b o vs, x ∈ H) (h : K vs.toArray H) : SWP P (Go.loadCells ⟨b, o, none⟩ n) H K := by
  subst hn
  exact swp_loadFrom vs 0 #[] (by simpa using hm) (by simpa using h)
theorem swp_storeFrom {b o : Nat} {K : Unit → List Atom → Prop} : ∀ (vs us : List Value) (i : Nat) (L : List Atom), vs.length = us.length → (∀ v ∈ vs, oneCell v = true) →
    (∀ L', L'.Perm (cellsAt b (o + i) vs ++ L) → K () L') → ∀ M : List Atom, M.Perm (cellsAt b (o + i) us ++ L) → SWP P (storeCells ⟨b, o, none⟩ vs i) M K := by
  intro vs
  induction vs with
  | nil =>
    intro us i L hl _ h M hM
    cases us <;> simp at hl
    exact SWP.pure (h M (by simpa [cellsAt] using hM))
  | cons v vs ih =>
    intro us i L hl hone h M hM
    cases us with
    | nil => simp at hl
    | cons u us =>
      simp only [storeCells, add_off]
      refine SWP.perm hM (SWP.bind ?_)
      simp only [cellsAt, List.cons_append]
      refine SWP.store (hone v (by simp)) ?_
      refine ih us (i + 1) (.cell b (o + i) v :: L) (by simpa using hl) (fun x hx => hone x (by simp [hx])) (fun L' hL' => h L' ?_) _ ?_
      · refine hL'.trans ?_
        simp only [cellsAt, List.cons_append, Nat.add_assoc]
        exact List.perm_middle
      · simp only [Nat.add_assoc]
        exact List.perm_middle.symm
theorem SWP.storeCells {b o : Nat} {vs us : List Value} {R : List Atom} {K : Unit → List Atom → Prop} (hl : vs.length = us.length) (hone : ∀ v ∈ vs, oneCell v = true)
    (h : K () (cellsAt b o vs ++ R)) : SWP P (Go.storeCells ⟨b, o, none⟩ vs) (cellsAt b o us ++ R) K := by
  have := swp_storeFrom (P := P) (b := b) (o := o) (K := fun _ L => L.Perm (cellsAt b o vs ++ R)) vs us 0 R hl hone (fun L' hL' => by simpa using hL') (cellsAt b o us ++ R) (by simp)
  intro F w hs
  obtain ⟨v, w', H', h1, h2, h3, h4⟩ := this F w hs
  exact ⟨v, w', _, h1, h, h3.perm (h2.append_right F), h4⟩
def Src (H : List Atom) (size n : Nat) (vs : List Value) : Value → Prop
  | .slice (some ⟨b, o, none⟩) _ _ => vs.length = n * size ∧ ∀ x ∈ cellsAt b o vs, x ∈ H
  | .slice none _ _ => vs = []
  | .string s => vs = (s.data.toList.take n).map fun c => .int .u8 c.toNat
  | _ => False
theorem SWP.firstCells {size n : Nat} {x : Value} {vs : List Value} {K : Array Value → List Atom → Prop} (hx : Src H size n vs x) (h : K vs.toArray H) : SWP P (Builtin.firstCells size n x) H K := by
  unfold Src at hx
  split at hx
  · exact SWP.loadCells hx.1 hx.2 h
  · subst hx; exact SWP.pure h
  · rename_i s
    subst hx
    refine SWP.pure ?_
    have : (s.extract 0 n).data.map (fun b => Value.int .u8 b.toNat) = ((s.data.toList.take n).map fun c => Value.int .u8 c.toNat).toArray := by
      apply Array.toList_inj.1
      simp [ByteArray.data_extract, Array.toList_extract]
    rw [this]; exact h
  · exact hx.elim
theorem mem_store {n : Nat} {x v : Operand} {b o : Nat} {us : List Value} {R : List Atom} (hx : ρ x = .pointer (some ⟨b, o, none⟩)) (hn : (ρ v).cells.size = n) (hu : us.length = n) (hone : ∀ c ∈ (ρ v).cells.toList, oneCell c = true)
    (h : K .skip (cellsAt b o (ρ v).cells.toList ++ R)) :
    SWP P (do let a ← Instr.sureAddr (ρ x); if (ρ v).cells.size = n then (do storeCells a (ρ v).cells.toList; pure .skip) else stuck "size") (cellsAt b o us ++ R) K := by
  rw [hx]
  refine SWP.bind (SWP.pure ?_)
  rw [if_pos hn]
  exact SWP.bind (SWP.storeCells (by simp [hn, hu]) hone (SWP.pure h))
theorem mem_new {c : Array Value} {t : TypeId} {f : Nat → Next} (h : ∀ b, K (f b) (cellsAt b 0 c.toList ++ H)) : SWP P (do let b ← newObj (.cells c t); pure (f b)) H K :=
  SWP.bind (SWP.new_cells fun b => SWP.pure (h b))
theorem mem_newObj {o : Obj} {f : Nat → Next} (ho : isCells o = false) (h : ∀ b, K (f b) (.obj b o :: H)) : SWP P (do let b ← newObj o; pure (f b)) H K :=
  SWP.bind (SWP.new_obj ho fun b => SWP.pure (h b))
theorem swp_entries {m c : Nat} {es : Array MapEntry} {α : Type} {f : Array MapEntry × Nat → Sem α} {K : α → List Atom → Prop} (hm : Atom.obj m (.map es c) ∈ H) (h : SWP P (f (es, c)) H K) : SWP P (entriesOf (.map (some m)) >>= f) H K := by
  refine SWP.bind ?_
  unfold entriesOf
  exact SWP.bind (SWP.getObj hm (SWP.pure h))
theorem swp_key (old new : Value) {K : Value → List Atom → Prop} (h : ∀ k, k = old ∨ k = new → K k H) : SWP P (Instr.keyThatStays old new) H K := by
  unfold Instr.keyThatStays
  split
  · exact SWP.pure (h _ (.inr rfl))
  · refine SWP.bind (SWP.choose (fun _ => SWP.pure ?_) (fun n => SWP.pure ?_))
    · exact h _ (.inr rfl)
    · split
      · exact h _ (.inr rfl)
      · exact h _ (.inl rfl)
end
structure RO where
  dst : Option Nat
  guard : Option (Nat × Bool)
  op : R
def lowRO (P : Program) (n : Nat) (ops : Array Oper) (o : Oper) : Option RO :=
  match lowOp P o.op with
  | none => none
  | some r =>
    if o.dst.all (· < n) then
      match o.guard with
      | none => some ⟨o.dst, none, r⟩
      | some (j, b) => match (ops[j]?).bind (·.dst) with
        | some s => some ⟨o.dst, some (s, b), r⟩
        | none => none
    else none
def isRead : R → Bool
  | .load1 .. | .loadN .. | .mlen .. | .lookup .. | .entry .. | .b2s .. => true
  | _ => false
def isNew : R → Bool
  | .alloc .. | .box .. | .bslice .. | .mkmap | .s2b .. => true
  | _ => false
def Ext (w w' : World) : Prop := ∀ (i : Nat) (o : Obj), w.heap[i]? = some o → w'.heap[i]? = some o
theorem Ext.refl (w : World) : Ext w w := fun _ _ h => h
theorem Ext.trans {a b c : World} (h : Ext a b) (k : Ext b c) : Ext a c := fun i o e => k i o (h i o e)
theorem Sat.ext {w w' : World} {L : List Atom} (h : Sat w L) (e : Ext w w') : Sat w' L := ⟨fun x hx => by
  have := h.holds x hx
  cases x with
  | cell b off v => obtain ⟨c, t, lo, hi, h1, h2⟩ := this; exact ⟨c, t, lo, hi, e _ _ h1, h2⟩
  | obj b o => exact ⟨e _ _ this.1, this.2⟩, h.nodup⟩
def isPure : R → Bool
  | .mv .. | .pick .. | .bin .. | .eqb .. | .eqnil .. | .eqagg .. | .un .. | .conv .. | .cvs .. | .mkif .. | .clos .. | .ext .. | .build .. | .nilck .. | .fld .. | .fldV .. | .idxA .. | .idxL .. | .idxS .. | .idxV .. | .slcS ..
  | .slcL .. | .slcA .. | .lenS .. | .lenL .. | .cap .. | .min2 .. | .max2 .. | .tassert .. => true
  | _ => false
def wantedR (g : Option (Nat × Bool)) (a : Act) : Bool :=
  match g with
  | none => true
  | some (s, b) => match a.tmps[s]? with | some (.bool c) => c == b | _ => false
def noWay : Exit → Act → World → Prop := fun _ _ _ => False
abbrev VFc (ρ : Option Nat) : Fence := { fn := fun _ => True, depth := none, alive := false, round := ρ }
def uponV (P : Program) (o : Oper) (a : Act) (next : Act → World → Prop) (Z : Exit → Act → World → Prop) : Result Next → Prop
  | .ok (.value v) w' => next (a.put o.dst v) w'
  | .ok .skip w' => next (a.put o.dst undef) w'
  | .ok (.enter f args) w' => Calls P f args w' fun
      | .returned v, w'' => next (a.put o.dst v) w''
      | .panicked chain, w'' => Z (.panic chain) a w''
      | .outgrown, _ => False
  | .ok (.round l f tmps assign body) w' => RoundIn Fence.wide 0 P l f tmps assign body w' fun
      | .returned v, w'' => next (a.put o.dst v) w''
      | .panicked chain, w'' => Z (.panic chain) a w''
      | .outgrown, _ => False
  | .halt (.panic v) w' => Z (.panic [{ v, recovered := false }]) a w'
  | _ => False
def wpV (P : Program) (o : Oper) (a : Act) (w : World) (next : Act → World → Prop) (Z : Exit → Act → World → Prop) : Prop := uponV P o a next Z ((execOp a.eval o).run P w)
theorem callsIn_v {P : Program} {ρ : Option Nat} {n : Nat} {f : FuncId} {args : Array Value} {w : World} {R : Ending → World → Prop} (h : Calls P f args w R) : CallsIn (VFc ρ) n P f args w R :=
  ⟨trivial, fun cs _ => let ⟨e, w', fr, r, s, x⟩ := h cs; ⟨e, w', fr, r, comesIn_wide.2 s, x⟩⟩
theorem uponV_in {P : Program} {ρ : Option Nat} {o : Oper} {a : Act} {next : Act → World → Prop} {Z : Exit → Act → World → Prop} {r : Result Next} (h : uponV P o a next Z r) : o.uponIn (VFc ρ) 0 P a next Z r := by
  cases r with
  | ok n w' =>
    cases n <;> simp only [uponV] at h <;> simp only [Oper.uponIn] <;> first
      | exact h
      | exact h.elim
      | exact ⟨fun h => by simp at h, callsIn_v (Calls.mono h (fun e w'' he => by cases e <;> first | exact he | exact he.elim))⟩
      | exact ⟨fun h => by simp at h, RoundIn.mono h (fun e w'' he => by cases e <;> first | exact he | exact he.elim)⟩
  | halt x w' => cases x <;> simp only [uponV] at h <;> simp only [Oper.uponIn] <;> exact h
def wpA (P : Program) (Z : Exit → Act → World → Prop) (x : RO × Oper) (next : Act → World → Prop) (a : Act) (w : World) : Prop :=
  (isNew x.1.op = true → ∃ u w', (execOp a.eval x.2).run P w = .ok (.value u) w' ∧ Ext w w') ∧ wpV P x.2 a w next Z
def wpR1 (P : Program) (Z : Exit → Act → World → Prop) (x : RO × Oper) (next : Act → World → Prop) (a : Act) (w : World) : Prop :=
  if wantedR x.1.guard a then
    if isPure x.1.op then ∃ v, pureV a.eval x.1.op = some v ∧ next (a.put x.1.dst v) w
    else if isRead x.1.op then ∃ s v, memS a.eval x.1.op = some s ∧ (∀ w', Ext w w' → s.run P w' = .ok (.value v) w') ∧ next (a.put x.1.dst v) w
    else wpA P Z x next a w
  else next (a.put x.1.dst undef) w
def wpR (P : Program) (Z : Exit → Act → World → Prop) (Q : Act → World → Prop) : List (RO × Oper) → Act → World → Prop
  | [], a, w => Q a w
  | x :: rest, a, w => wpR1 P Z x (wpR P Z Q rest) a w
section
variable {P : Program} {Z : Exit → Act → World → Prop} {Q Q' : Act → World → Prop} {a : Act} {w : World}
theorem wpV_mono {o : Oper} {K K' : Act → World → Prop} (h : ∀ a w, K a w → K' a w) (hh : wpV P o a w K Z) : wpV P o a w K' Z := by
  unfold wpV at *
  generalize (execOp a.eval o).run P w = r at *
  cases r with
  | ok n w' =>
    cases n <;> simp only [uponV] at hh ⊢ <;> first
      | exact h _ _ hh
      | exact Calls.mono hh (fun e w'' he => by cases e <;> first | exact h _ _ he | exact he)
      | exact RoundIn.mono hh (fun e w'' he => by cases e <;> first | exact h _ _ he | exact he)
  | halt x w' => cases x <;> simp only [uponV] at hh ⊢ <;> exact hh
theorem wpR1_mono {x : RO × Oper} (h : ∀ a w, Q a w → Q' a w) (hh : wpR1 P Z x Q a w) : wpR1 P Z x Q' a w := by
  unfold wpR1 at *
  split
  · rename_i h1; rw [if_pos h1] at hh
    split
    · rename_i h2; rw [if_pos h2] at hh; obtain ⟨v, e, hv⟩ := hh; exact ⟨v, e, h _ _ hv⟩
    · rename_i h2; rw [if_neg h2] at hh
      split
      · rename_i h3; rw [if_pos h3] at hh; obtain ⟨s, v, e, e', hv⟩ := hh; exact ⟨s, v, e, e', h _ _ hv⟩
      · rename_i h3; rw [if_neg h3] at hh; exact ⟨hh.1, wpV_mono h hh.2⟩
  · rename_i h1; rw [if_neg h1] at hh; exact h _ _ hh
theorem wpR_mono {l : List (RO × Oper)} (h : ∀ a w, Q a w → Q' a w) : ∀ {a w}, wpR P Z Q l a w → wpR P Z Q' l a w := by
  induction l with
  | nil => intro a w hh; exact h _ _ hh
  | cons x l ih => intro a w hh; exact wpR1_mono (fun a w h => ih h) hh
theorem wpV_zmono {o : Oper} {K : Act → World → Prop} (hh : wpV P o a w K noWay) : wpV P o a w K Z := by
  unfold wpV at *
  generalize (execOp a.eval o).run P w = r at *
  cases r with
  | ok n w' =>
    cases n <;> simp only [uponV] at hh ⊢ <;> first
      | exact hh
      | exact Calls.mono hh (fun e w'' he => by cases e <;> first | exact he | exact he.elim)
      | exact RoundIn.mono hh (fun e w'' he => by cases e <;> first | exact he | exact he.elim)
  | halt x w' => cases x <;> simp only [uponV] at hh ⊢ <;> exact hh.elim
theorem wpR_zmono {l : List (RO × Oper)} : ∀ {a w}, wpR P noWay Q l a w → wpR P Z Q l a w := by
  induction l with
  | nil => intro a w hh; exact hh
  | cons x l ih =>
    intro a w hh
    have h1 : wpR1 P noWay x (wpR P Z Q l) a w := wpR1_mono (fun a w h => ih h) hh
    show wpR1 P Z x (wpR P Z Q l) a w
    unfold wpR1 at *
    split
    · rename_i h2; rw [if_pos h2] at h1
      split
      · rename_i h3; rw [if_pos h3] at h1; exact h1
      · rename_i h3; rw [if_neg h3] at h1
        split
        · rename_i h4; rw [if_pos h4] at h1; exact h1
        · rename_i h4; rw [if_neg h4] at h1; exact ⟨h1.1, wpV_zmono h1.2⟩
    · rename_i h2; rw [if_neg h2] at h1; exact h1
theorem lowRO_spec {n : Nat} {ops : Array Oper} {o : Oper} {r : RO} (h : lowRO P n ops o = some r) : lowOp P o.op = some r.op ∧ r.dst = o.dst ∧ (∀ d, r.dst = some d → d < n) ∧
    ∀ a : Act, Region.wanted o (yielded ops a.tmps) = wantedR r.guard a := by
  unfold lowRO at h
  split at h
  · cases h
  · rename_i r' hr
    split at h
    case isFalse => cases h
    rename_i hd
    have hd' : ∀ d, o.dst = some d → d < n := by intro d e; rw [e] at hd; simpa using hd
    split at h
    · rename_i hg; cases h
      exact ⟨hr, rfl, hd', fun a => by simp [Region.wanted, hg, wantedR]⟩
    · rename_i j b hg
      split at h
      case h_2 => cases h
      rename_i s hs
      cases h
      refine ⟨hr, rfl, hd', fun a => ?_⟩
      simp only [Region.wanted, hg, yielded, hs, Option.bind_some, wantedR]
      cases a.tmps[s]? with
      | none => simp
      | some v => cases v <;> simp
theorem eval_const (a : Act) (u : Value) : a.eval (.const u) = u := rfl
theorem wpR_sound {ρ : Option Nat} {n : Nat} {ops : Array Oper} {X : Nat → RO × Oper} {QQ : Exit → Act → World → Prop} (hX : ∀ i, i < ops.size → ops[i]? = some (X i).2 ∧ lowRO P n ops (X i).2 = some (X i).1) :
    ∀ (l : List Nat) (a : Act) (w : World), (∀ i ∈ l, i < ops.size) → wpR P QQ (QQ .normal) (l.map X) a w → wpOpsIn (VFc ρ) 0 P ops QQ l a w := by
  intro l
  induction l with
  | nil => intro a w _ h; exact h
  | cons i l ih =>
    intro a w hl h
    obtain ⟨h1, h2⟩ := hX i (hl i (by simp))
    obtain ⟨g1, g2, g3, g4⟩ := lowRO_spec h2
    have ih' := fun a w => ih a w (fun j hj => hl j (by simp [hj]))
    have nd : ∀ c, (X i).2.op ≠ .defer c := fun c e => by rw [e] at g1; simp [lowOp] at g1
    simp only [List.map_cons, wpR, wpR1] at h
    simp only [wpOpsIn, h1, g4 a]
    split
    · rename_i hw; rw [if_pos hw] at h
      refine ⟨fun _ _ => trivial, ?_⟩
      rw [Oper.semAt_plain _ _ _ nd]
      refine uponV_in ?_
      split at h
      · obtain ⟨v, hv, hn⟩ := h
        simp only [pure_sound (w := w) (eval_const a) g1 hv, uponV, ← g2]
        exact ih' _ _ hn
      · split at h
        · obtain ⟨s, v, hs, hr, hn⟩ := h
          simp only [mem_sound (eval_const a) g1 hs (hr w (.refl w)), uponV, ← g2]
          exact ih' _ _ hn
        · exact wpV_mono ih' h.2
    · rename_i hw; rw [if_neg hw] at h
      refine ⟨fun _ _ => trivial, ?_⟩
      rw [← g2]; exact ih' _ _ h
end
def guardTmps (g : Option (Nat × Bool)) : List Nat := match g with | some (s, _) => [s] | none => []
def optl (x : Option Operand) : List Operand := x.toList
def rOps : R → List Operand
  | .mv x | .un _ x | .conv _ x | .cvs x | .mkif _ x | .ext x _ | .nilck x | .fld _ x | .fldV _ _ _ x | .lenS x | .lenL x | .cap x | .tassert _ _ _ x | .eqnil _ _ x | .load1 x | .loadN _ x | .mlen x | .entry x | .b2s x => [x]
  | .pick c a b => [c, a, b]
  | .bin _ x y | .eqb _ x y | .eqagg _ _ x y | .idxA _ _ x y | .idxL _ x y | .idxS x y | .idxV _ _ _ x y | .min2 x y | .max2 x y | .lookup _ _ _ x y => [x, y]
  | .clos _ f c => f ++ c
  | .build _ ps => ps.map (·.2.2)
  | .slcS x lo hi => x :: (optl lo ++ optl hi)
  | .slcL _ x lo hi mx => x :: (optl lo ++ optl hi ++ optl mx)
  | .slcA _ _ x lo hi => x :: (optl lo ++ optl hi)
  | _ => []
def opTmps (l : List Operand) : List Nat := l.filterMap fun | .tmp t => some t | _ => none
def looks (x : RO × Oper) : List Nat := guardTmps x.1.guard ++ (if isPure x.1.op || isRead x.1.op then opTmps (rOps x.1.op) else opTmps x.2.op.operands.toList)
def apart1 (x y : RO × Oper) : Bool := match x.1.dst with | some d => !(looks y).contains d && y.1.dst != some d | none => true
def indep (x y : RO × Oper) : Bool := apart1 x y && apart1 y x && (isPure x.1.op || isPure y.1.op || (isRead x.1.op && isRead y.1.op) || (isNew x.1.op && isRead y.1.op))
theorem opt_congr {ρ ρ' : Operand → Value} {o : Option Operand} (h : ∀ x ∈ optl o, ρ x = ρ' x) : o.map ρ = o.map ρ' := by
  cases o with
  | none => rfl
  | some x => simp [h x (by simp [optl])]
theorem pureV_congr {ρ ρ' : Operand → Value} {r : R} (hp : isPure r = true) (h : ∀ x ∈ rOps r, ρ x = ρ' x) : pureV ρ r = pureV ρ' r := by
  cases r <;> simp only [isPure] at hp <;> first | (cases hp; done) | skip
  case clos f first c =>
    simp only [rOps, List.mem_append] at h
    simp only [pureV]
    rw [List.map_congr_left (fun x hx => h x (.inl hx)), List.map_congr_left (fun x hx => h x (.inr hx))]
  case build z ps =>
    simp only [rOps, List.mem_map] at h
    simp only [pureV]
    have : evParts ρ ps = evParts ρ' ps := by
      simp only [evParts]
      refine List.map_congr_left (fun p hp => ?_)
      obtain ⟨a, b, c⟩ := p
      simp [h c ⟨_, hp, rfl⟩]
    rw [this]
  case slcS x lo hi =>
    simp only [rOps, List.mem_cons, List.mem_append] at h
    simp only [pureV, h x (.inl rfl), opt_congr (fun y hy => h y (.inr (.inl hy))), opt_congr (fun y hy => h y (.inr (.inr hy)))]
  case slcL z x lo hi mx =>
    simp only [rOps, List.mem_cons, List.mem_append] at h
    simp only [pureV, h x (.inl rfl), opt_congr (fun y hy => h y (.inr (.inl (.inl hy)))), opt_congr (fun y hy => h y (.inr (.inl (.inr hy)))), opt_congr (fun y hy => h y (.inr (.inr hy)))]
  case slcA n z x lo hi =>
    simp only [rOps, List.mem_cons, List.mem_append] at h
    simp only [pureV, h x (.inl rfl), opt_congr (fun y hy => h y (.inr (.inl hy))), opt_congr (fun y hy => h y (.inr (.inr hy)))]
  case un op x => cases op <;> simp only [rOps, List.mem_singleton, forall_eq] at h <;> simp only [pureV, h]
  all_goals (simp only [rOps, List.mem_cons, List.not_mem_nil, or_false, forall_eq_or_imp, forall_eq] at h; simp only [pureV, h])
theorem memS_congr {ρ ρ' : Operand → Value} {r : R} (hp : isRead r = true) (h : ∀ x ∈ rOps r, ρ x = ρ' x) : memS ρ r = memS ρ' r := by
  cases r <;> simp only [isRead] at hp <;> first | (cases hp; done) | skip
  all_goals (simp only [rOps, List.mem_cons, List.not_mem_nil, or_false, forall_eq_or_imp, forall_eq] at h; simp only [memS, h])
section
variable {P : Program}
theorem eval_put_of {a : Act} {d : Option Nat} {v : Value} {l : List Operand} (h : ∀ t, d = some t → t ∉ opTmps l) {x : Operand} (hx : x ∈ l) : (a.put d v).eval x = a.eval x := by
  refine Act.eval_put (fun t e hxt => ?_)
  subst hxt
  exact h t e (by simp only [opTmps, List.mem_filterMap]; exact ⟨_, hx, rfl⟩)
theorem wanted_put_of {a : Act} {d : Option Nat} {v : Value} {g : Option (Nat × Bool)} (h : ∀ t, d = some t → t ∉ guardTmps g) : wantedR g (a.put d v) = wantedR g a := by
  cases g with
  | none => rfl
  | some p =>
    obtain ⟨s, b⟩ := p
    cases d with
    | none => rfl
    | some t =>
      have hne : t ≠ s := fun e => h t rfl (by simp [guardTmps, e])
      simp [wantedR, Act.put, Array.getElem?_setIfInBounds_ne hne]
def Yv (P : Program) (x : RO × Oper) (a : Act) (w : World) (v : Value) : Prop :=
  if wantedR x.1.guard a then
    if isPure x.1.op then pureV a.eval x.1.op = some v else ∃ s, memS a.eval x.1.op = some s ∧ ∀ w', Ext w w' → s.run P w' = .ok (.value v) w'
  else v = undef
theorem wpR1_quiet {Z : Exit → Act → World → Prop} {x : RO × Oper} (hq : (isPure x.1.op || isRead x.1.op) = true) {K : Act → World → Prop} {a : Act} {w : World} : wpR1 P Z x K a w ↔ ∃ v, Yv P x a w v ∧ K (a.put x.1.dst v) w := by
  unfold wpR1 Yv
  split
  · split
    · exact Iff.rfl
    · rename_i hp
      have hr : isRead x.1.op = true := by simpa [hp] using hq
      rw [if_pos hr]
      constructor
      · rintro ⟨s, v, h1, h2, h3⟩; exact ⟨v, ⟨s, h1, h2⟩, h3⟩
      · rintro ⟨v, ⟨s, h1, h2⟩, h3⟩; exact ⟨s, v, h1, h2, h3⟩
  · constructor
    · intro h; exact ⟨_, rfl, h⟩
    · rintro ⟨v, rfl, h⟩; exact h
theorem looks_parts {x : RO × Oper} {t : Nat} (h : t ∉ looks x) : t ∉ guardTmps x.1.guard ∧ ((isPure x.1.op || isRead x.1.op) = true → t ∉ opTmps (rOps x.1.op)) ∧ ((isPure x.1.op || isRead x.1.op) = false → t ∉ opTmps x.2.op.operands.toList) := by
  simp only [looks, List.mem_append, not_or] at h
  refine ⟨h.1, fun e => ?_, fun e => ?_⟩
  · rw [if_pos e] at h; exact h.2
  · rw [if_neg (by simp [e])] at h; exact h.2
theorem Yv_put {x : RO × Oper} (hq : (isPure x.1.op || isRead x.1.op) = true) {d : Option Nat} (hd : ∀ t, d = some t → t ∉ looks x) {a : Act} {w : World} {u v : Value} : Yv P x (a.put d u) w v ↔ Yv P x a w v := by
  unfold Yv
  rw [wanted_put_of (fun t e => (looks_parts (hd t e)).1)]
  have he : ∀ y ∈ rOps x.1.op, (a.put d u).eval y = a.eval y := fun y hy => eval_put_of (fun t e => (looks_parts (hd t e)).2.1 hq) hy
  split
  · split
    · rename_i hp; rw [pureV_congr hp he]
    · rename_i hp
      have hr : isRead x.1.op = true := by simpa [hp] using hq
      rw [memS_congr hr he]
  · exact Iff.rfl
theorem Yv_pure {x : RO × Oper} (hp : isPure x.1.op = true) {a : Act} {w w' : World} {v : Value} : Yv P x a w v ↔ Yv P x a w' v := by
  unfold Yv; simp [hp]
theorem Yv_ext {x : RO × Oper} {a : Act} {w w' : World} {v : Value} (h : Yv P x a w v) (e : Ext w w') : Yv P x a w' v := by
  unfold Yv at *
  split at h
  · rename_i hw; rw [if_pos hw]
    split at h
    · rename_i hp; rw [if_pos hp]; exact h
    · rename_i hp; rw [if_neg hp]
      obtain ⟨s, h1, h2⟩ := h
      exact ⟨s, h1, fun w2 e2 => h2 w2 (e.trans e2)⟩
  · rename_i hw; rw [if_neg hw]; exact h
theorem Yv_fun {x : RO × Oper} {a : Act} {w : World} {u v : Value} (h : Yv P x a w u) (k : Yv P x a w v) : u = v := by
  unfold Yv at *
  split at h
  · rename_i hw; rw [if_pos hw] at k
    split at h
    · rename_i hp; rw [if_pos hp] at k; rw [h] at k; cases k; rfl
    · rename_i hp; rw [if_neg hp] at k
      obtain ⟨s, h1, h2⟩ := h; obtain ⟨s', k1, k2⟩ := k
      rw [h1] at k1; cases k1; have h3 := h2 w (.refl w); rw [k2 w (.refl w)] at h3; cases h3; rfl
  · rename_i hw; rw [if_neg hw] at k; rw [h, k]
end
section
variable {P : Program}
theorem upon_put {o : Oper} {a : Act} {d : Nat} {u : Value} (hd : o.dst ≠ some d) {K : Act → World → Prop} {r : Result Next}
    (h : uponV P o a (fun a' w' => K (a'.put (some d) u) w') noWay r) : uponV P o (a.put (some d) u) K noWay r := by
  have hc : ∀ v, (a.put o.dst v).put (some d) u = (a.put (some d) u).put o.dst v := fun v => Act.put_comm a v u (fun e h1 h2 => hd (by rw [h1, ← h2]))
  cases r with
  | ok n w' =>
    cases n <;> simp only [uponV] at h ⊢
    case value v => rw [← hc]; exact h
    case skip => rw [← hc]; exact h
    case enter f args => exact Calls.mono h (fun e w'' he => by cases e <;> first | (simp only at he ⊢; rw [← hc]; exact he) | exact he)
    case round l f tmps assign body => exact RoundIn.mono h (fun e w'' he => by cases e <;> first | (simp only at he ⊢; rw [← hc]; exact he) | exact he)
  | halt x w' => cases x <;> simp only [uponV] at h ⊢ <;> exact h
theorem upon_put' {o : Oper} {a : Act} {d : Nat} {u : Value} (hd : o.dst ≠ some d) {K : Act → World → Prop} {r : Result Next}
    (h : uponV P o (a.put (some d) u) K noWay r) : uponV P o a (fun a' w' => K (a'.put (some d) u) w') noWay r := by
  have hc : ∀ v, (a.put o.dst v).put (some d) u = (a.put (some d) u).put o.dst v := fun v => Act.put_comm a v u (fun e h1 h2 => hd (by rw [h1, ← h2]))
  cases r with
  | ok n w' =>
    cases n <;> simp only [uponV] at h ⊢
    case value v => rw [hc]; exact h
    case skip => rw [hc]; exact h
    case enter f args => exact Calls.mono h (fun e w'' he => by cases e <;> first | (simp only at he ⊢; rw [hc]; exact he) | exact he)
    case round l f tmps assign body => exact RoundIn.mono h (fun e w'' he => by cases e <;> first | (simp only at he ⊢; rw [hc]; exact he) | exact he)
  | halt x w' => cases x <;> simp only [uponV] at h ⊢ <;> exact h
theorem upon_exists {o : Oper} {a : Act} {K : Act → World → Prop} {r : Result Next} (h : uponV P o a K noWay r) : ∃ ds v w', K ({ a with defers := ds }.put o.dst v) w' := by
  cases r with
  | ok n w' =>
    cases n <;> simp only [uponV] at h
    case value v => exact ⟨a.defers, v, w', h⟩
    case skip => exact ⟨a.defers, undef, w', h⟩
    case enter f args =>
      obtain ⟨e, w1, fr, hR, _⟩ := h []
      cases e with
      | returned v => exact ⟨a.defers, v, w1, hR⟩
      | panicked c => exact hR.elim
      | outgrown => exact hR.elim
    case round l f tmps assign body =>
      obtain ⟨e, w1, hR, _⟩ := h.2 default [] (room_wide _)
      cases e with
      | returned v => exact ⟨a.defers, v, w1, hR⟩
      | panicked c => exact hR.elim
      | outgrown => exact hR.elim
  | halt x w' => cases x <;> simp only [uponV] at h <;> exact h.elim
theorem eval_defers (a : Act) (ds : List Deferred) : ({ a with defers := ds } : Act).eval = a.eval := by funext x; cases x <;> rfl
theorem Yv_defers {x : RO × Oper} {a : Act} {ds : List Deferred} {w : World} {v : Value} : Yv P x { a with defers := ds } w v ↔ Yv P x a w v := by
  unfold Yv
  rw [eval_defers]
  have : wantedR x.1.guard { a with defers := ds } = wantedR x.1.guard a := by cases x.1.guard <;> rfl
  rw [this]
structure Good (P : Program) (n : Nat) (ops : Array Oper) (x : RO × Oper) : Prop where
  low : lowRO P n ops x.2 = some x.1
  sel : ∀ cs b, x.2.op ≠ .select cs b
theorem low_noSelect {op : Op} {r : R} (h : lowOp P op = some r) (cs : Array SelectCase) (b : Bool) : op ≠ .select cs b := by
  rintro rfl; simp [lowOp] at h
theorem Good.of_low {n : Nat} {ops : Array Oper} {x : RO × Oper} (h : lowRO P n ops x.2 = some x.1) : Good P n ops x := ⟨h, low_noSelect (lowRO_spec h).1⟩
theorem apart1_spec {x y : RO × Oper} (h : apart1 x y = true) : ∀ d, x.1.dst = some d → d ∉ looks y ∧ y.1.dst ≠ some d := by
  intro d e
  simp only [apart1, e, Bool.and_eq_true, Bool.not_eq_true', bne_iff_ne] at h
  exact ⟨by simpa using h.1, h.2⟩
variable {n : Nat} {ops : Array Oper}
theorem swap {x y : RO × Oper} (gx : Good P n ops x) (gy : Good P n ops y) (h : indep x y = true) {K : Act → World → Prop} {a : Act} {w : World}
    (hh : wpR1 P noWay y (fun a w => wpR1 P noWay x K a w) a w) : wpR1 P noWay x (fun a w => wpR1 P noWay y K a w) a w := by
  simp only [indep, Bool.and_eq_true] at h
  obtain ⟨⟨hxy, hyx⟩, hc⟩ := h
  have axy := apart1_spec hxy
  have ayx := apart1_spec hyx
  have comm : ∀ (b : Act) (u v : Value), (b.put x.1.dst u).put y.1.dst v = (b.put y.1.dst v).put x.1.dst u := fun b u v => Act.put_comm b u v (fun d e => (axy d e).2)
  by_cases qx : (isPure x.1.op || isRead x.1.op) = true
  · by_cases qy : (isPure y.1.op || isRead y.1.op) = true
    · obtain ⟨v, hv, h1⟩ := (wpR1_quiet qy).1 hh
      obtain ⟨u, hu, h2⟩ := (wpR1_quiet qx).1 h1
      refine (wpR1_quiet qx).2 ⟨u, (Yv_put qx (fun t e => (ayx t e).1)).1 hu, (wpR1_quiet qy).2 ⟨v, (Yv_put qy (fun t e => (axy t e).1)).2 hv, ?_⟩⟩
      rw [comm]; exact h2
    · -- x is pure, y acts
      have qy' : (isPure y.1.op || isRead y.1.op) = false := by simpa using qy
      have px : isPure x.1.op = true := by
        try simp only [Bool.or_eq_true, Bool.and_eq_true] at hc
        simp only [Bool.or_eq_false_iff] at qy'
        rcases hc with ((h | h) | h) | h
        · exact h
        · rw [qy'.1] at h; cases h
        · rw [qy'.2] at h; cases h.2
        · rw [qy'.2] at h; cases h.2
      simp only [Bool.or_eq_false_iff] at qy'
      by_cases hw : wantedR y.1.guard a = true
      · unfold wpR1 at hh
        rw [if_pos hw, if_neg (by simp [qy'.1]), if_neg (by simp [qy'.2])] at hh
        obtain ⟨hnew, hh⟩ := hh
        replace hh := wpV_mono (K' := fun a w => ∃ v, Yv P x a w v ∧ K (a.put x.1.dst v) w) (fun a w h => (wpR1_quiet qx).1 h) hh
        obtain ⟨gl1, gl2, gl3, _⟩ := lowRO_spec gy.low
        obtain ⟨ds, v0, w0, u, hu, _⟩ := upon_exists hh
        have hu' : ∀ w, Yv P x a w u := fun w => by
          rw [← gl2] at hu
          have := (Yv_put qx (fun t e => (ayx t e).1)).1 hu
          exact (Yv_pure px).1 (Yv_defers.1 this)
        refine (wpR1_quiet qx).2 ⟨u, hu' w, ?_⟩
        have hw' : wantedR y.1.guard (a.put x.1.dst u) = true := by rw [wanted_put_of (fun t e => (looks_parts (axy t e).1).1)]; exact hw
        show wpR1 P noWay y K (a.put x.1.dst u) w
        unfold wpR1
        rw [if_pos hw', if_neg (by simp [qy'.1]), if_neg (by simp [qy'.2])]
        have he : execOp (a.put x.1.dst u).eval y.2 = execOp a.eval y.2 :=
          execOp_congr y.2 gy.sel (fun z hz => eval_put_of (fun t e => (looks_parts (axy t e).1).2.2 (by simp [qy'.1, qy'.2])) (by simpa using hz))
        refine ⟨fun e => by rw [he]; exact hnew e, ?_⟩
        unfold wpV at hh ⊢
        rw [he]
        have step : uponV P y.2 a (fun a' w' => K (a'.put x.1.dst u) w') noWay ((execOp a.eval y.2).run P w) := by
          generalize (execOp a.eval y.2).run P w = r at hh
          have fin : ∀ {b : Act} {w' : World}, (∃ ds v, b = { a with defers := ds }.put y.2.dst v) → (∃ u', Yv P x b w' u' ∧ K (b.put x.1.dst u') w') → K (b.put x.1.dst u) w' := by
            rintro b w' ⟨ds, v, rfl⟩ ⟨u', h1, h2⟩
            rw [← gl2] at h1
            have h3 := (Yv_put qx (fun t e => (ayx t e).1)).1 h1
            have h4 := Yv_defers.1 h3
            rw [Yv_fun (hu' w') h4]; exact h2
          cases r with
          | ok nx w' =>
            cases nx <;> simp only [uponV] at hh ⊢
            case value v => exact fin ⟨a.defers, v, rfl⟩ hh
            case skip => exact fin ⟨a.defers, undef, rfl⟩ hh
            case enter f args => exact Calls.mono hh (fun e w'' he => by cases e <;> first | exact fin ⟨a.defers, _, rfl⟩ he | exact he)
            case round l f tmps assign body => exact RoundIn.mono hh (fun e w'' he => by cases e <;> first | exact fin ⟨a.defers, _, rfl⟩ he | exact he)
          | halt z w' => cases z <;> simp only [uponV] at hh ⊢ <;> exact hh
        cases hxd : x.1.dst with
        | none => rw [hxd] at step; exact step
        | some d =>
          rw [hxd] at step
          exact upon_put (by rw [← gl2]; exact (axy d hxd).2) step
      · unfold wpR1 at hh
        rw [if_neg hw] at hh
        obtain ⟨u, hu, h2⟩ := (wpR1_quiet qx).1 hh
        refine (wpR1_quiet qx).2 ⟨u, (Yv_put qx (fun t e => (ayx t e).1)).1 hu, ?_⟩
        show wpR1 P noWay y K (a.put x.1.dst u) w
        unfold wpR1
        rw [if_neg (by rw [wanted_put_of (fun t e => (looks_parts (axy t e).1).1)]; exact hw), comm]
        exact h2
  · -- x acts, y is pure
    have qx' : (isPure x.1.op || isRead x.1.op) = false := by simpa using qx
    have pq : isPure y.1.op = true ∨ (isNew x.1.op = true ∧ isRead y.1.op = true) := by
      try simp only [Bool.or_eq_true, Bool.and_eq_true] at hc
      simp only [Bool.or_eq_false_iff] at qx'
      rcases hc with ((h | h) | h) | h
      · rw [qx'.1] at h; cases h
      · exact .inl h
      · rw [qx'.2] at h; cases h.1
      · exact .inr h
    have qy : (isPure y.1.op || isRead y.1.op) = true := by rcases pq with h | h <;> simp [h]
    simp only [Bool.or_eq_false_iff] at qx'
    obtain ⟨v, hv, h1⟩ := (wpR1_quiet qy).1 hh
    have hwe : wantedR x.1.guard (a.put y.1.dst v) = wantedR x.1.guard a := wanted_put_of (fun t e => (looks_parts (ayx t e).1).1)
    unfold wpR1 at h1 ⊢
    rw [hwe] at h1
    by_cases hw : wantedR x.1.guard a = true
    · rw [if_pos hw, if_neg (by simp [qx'.1]), if_neg (by simp [qx'.2])] at h1 ⊢
      obtain ⟨gl1, gl2, gl3, _⟩ := lowRO_spec gx.low
      obtain ⟨hnew, h1⟩ := h1
      unfold wpV at h1
      have he : execOp (a.put y.1.dst v).eval x.2 = execOp a.eval x.2 :=
        execOp_congr x.2 gx.sel (fun z hz => eval_put_of (fun t e => (looks_parts (ayx t e).1).2.2 (by simp [qx'.1, qx'.2])) (by simpa using hz))
      rw [he] at h1 hnew
      refine ⟨hnew, ?_⟩
      unfold wpV
      have step : uponV P x.2 a (fun a' w' => K (a'.put y.1.dst v) w') noWay ((execOp a.eval x.2).run P w) := by
        cases hyd : y.1.dst with
        | none => rw [hyd] at h1; exact h1
        | some d =>
          rw [hyd] at h1
          exact upon_put' (by rw [← gl2]; exact (ayx d hyd).2) h1
      have fin0 : ∀ {b : Act} {w' : World}, (∃ ds u, b = { a with defers := ds }.put x.2.dst u) → Yv P y a w' v → K (b.put y.1.dst v) w' → wpR1 P noWay y K b w' := by
        rintro b w' ⟨ds, u, rfl⟩ hv h2
        refine (wpR1_quiet qy).2 ⟨v, ?_, h2⟩
        rw [← gl2]
        exact (Yv_put qy (fun t e => (axy t e).1)).2 (Yv_defers.2 hv)
      rcases pq with py | ⟨nx, _⟩
      rotate_left
      · obtain ⟨u, w', hrun, hext⟩ := hnew nx
        rw [hrun] at step ⊢
        exact fin0 ⟨a.defers, u, rfl⟩ (Yv_ext hv hext) step
      have fin : ∀ {b : Act} {w' : World}, (∃ ds u, b = { a with defers := ds }.put x.2.dst u) → K (b.put y.1.dst v) w' → wpR1 P noWay y K b w' := fun hb h2 => fin0 hb ((Yv_pure py).1 hv) h2
      generalize (execOp a.eval x.2).run P w = r at step
      cases r with
      | ok nx w' =>
        cases nx <;> simp only [uponV] at step ⊢
        case value u => exact fin ⟨a.defers, u, rfl⟩ step
        case skip => exact fin ⟨a.defers, undef, rfl⟩ step
        case enter f args => exact Calls.mono step (fun e w'' he => by cases e <;> first | exact fin ⟨a.defers, _, rfl⟩ he | exact he)
        case round l f tmps assign body => exact RoundIn.mono step (fun e w'' he => by cases e <;> first | exact fin ⟨a.defers, _, rfl⟩ he | exact he)
      | halt z w' => cases z <;> simp only [uponV] at step ⊢ <;> exact step
    · rw [if_neg hw] at h1 ⊢
      refine (wpR1_quiet qy).2 ⟨v, (Yv_put qy (fun t e => (axy t e).1)).2 hv, ?_⟩
      rw [comm]; exact h1
theorem toFront {X : Nat → RO × Oper} {Q : Act → World → Prop} (i : Nat) (l2 : List Nat) (gi : Good P n ops (X i)) : ∀ (l1 : List Nat), (∀ j ∈ l1, Good P n ops (X j) ∧ indep (X i) (X j) = true) →
    ∀ {a w}, wpR P noWay Q ((l1 ++ i :: l2).map X) a w → wpR P noWay Q ((i :: (l1 ++ l2)).map X) a w := by
  intro l1
  induction l1 with
  | nil => intro _ a w h; exact h
  | cons j l1 ih =>
    intro hj a w h
    have h1 : wpR1 P noWay (X j) (wpR P noWay Q ((i :: (l1 ++ l2)).map X)) a w := wpR1_mono (fun a w h => ih (fun k hk => hj k (by simp [hk])) h) h
    obtain ⟨gj, hij⟩ := hj j (by simp)
    exact swap gi gj hij h1
theorem reorder {X : Nat → RO × Oper} {Q : Act → World → Prop} : ∀ (l o : List Nat), o.Perm l → l.Nodup → (∀ i ∈ l, Good P n ops (X i)) →
    o.Pairwise (fun x y => indep (X y) (X x) = true ∨ [x, y].Sublist l) → ∀ {a w}, wpR P noWay Q (o.map X) a w → wpR P noWay Q (l.map X) a w := by
  intro l
  induction l with
  | nil => intro o hp _ _ _ a w h; rw [List.perm_nil.1 hp] at h; exact h
  | cons i l ih =>
    intro o hp hn hg hpw a w h
    have hi : i ∈ o := hp.mem_iff.2 (by simp)
    obtain ⟨o1, o2, rfl⟩ := List.append_of_mem hi
    have hn' := List.nodup_cons.1 hn
    have hind : ∀ x ∈ o1, indep (X i) (X x) = true := by
      intro x hx
      have hx2 := (List.pairwise_append.1 hpw).2.2 x hx i (by simp)
      rcases hx2 with h | h
      · exact h
      · exfalso
        cases h with
        | cons _ h => exact hn'.1 (h.subset (by simp))
        | cons_cons _ h => exact hn'.1 (h.subset (by simp))
    have h1 := toFront i o2 (hg i (by simp)) o1 (fun x hx => ⟨hg x (hp.mem_iff.1 (by simp [hx])), hind x hx⟩) h
    have hp' : (o1 ++ o2).Perm l := by
      have := (List.perm_middle (a := i) (l₁ := o1) (l₂ := o2)).symm.trans hp
      exact List.Perm.cons_inv this
    refine wpR1_mono (fun a w h => ih (o1 ++ o2) hp' hn'.2 (fun j hj => hg j (by simp [hj])) ?_ h) h1
    have hsub : (o1 ++ o2).Sublist (o1 ++ i :: o2) := List.Sublist.append_left (List.sublist_cons_self i o2) o1
    have hpw' := hpw.sublist hsub
    refine hpw'.imp_of_mem (fun {x y} hx hy h => ?_)
    rcases h with h | h
    · exact .inl h
    · right
      have hxi : x ≠ i := by rintro rfl; exact hn'.1 (hp'.mem_iff.1 hx)
      cases h with
      | cons _ h => exact h
      | cons_cons _ h => exact absurd rfl hxi
end
end Go.V

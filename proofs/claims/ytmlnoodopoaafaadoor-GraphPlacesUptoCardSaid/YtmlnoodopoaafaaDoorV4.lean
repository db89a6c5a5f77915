/-
  Triples for what reads, makes or writes memory.
-/
import Derived.Test.YtmlnoodopoaafaaDoorV3
import Derived.Orders
import Derived.RangeFuncIn
import Derived.RangeFuncLeaves
import Derived.OwnWalkIn
set_option linter.unusedSimpArgs false
set_option linter.unusedVariables false
namespace Go.V
open Go
section
variable {P : Program} {ρ : Operand → Value} {H : List Atom} {K : Next → List Atom → Prop}
theorem cellsAt_append (b : Nat) (us vs : List Value) : ∀ o, cellsAt b o (us ++ vs) = cellsAt b o us ++ cellsAt b (o + us.length) vs := by
  induction us with
  | nil => intro o; simp [cellsAt]
  | cons u us ih => intro o; simp only [List.cons_append, cellsAt, ih, List.length_cons]; congr 3; omega
theorem swp_loadFrom {b o : Nat} {K : Array Value → List Atom → Prop} : ∀ (vs : List Value) (i : Nat) (acc : Array Value), (∀ x ∈ cellsAt b (o + i) vs, x ∈ H) → K (acc ++ vs.toArray) H →
    SWP P (loadCellsFrom ⟨b, o, none⟩ i vs.length acc) H K := by
  intro vs
  induction vs with
  | nil => intro i acc _ h; exact SWP.pure (by simpa using h)
  | cons v vs ih =>
    intro i acc hm h
    simp only [List.length_cons, loadCellsFrom, add_off]
    refine SWP.bind (SWP.load (v := v) (hm _ (by simp [cellsAt])) ?_)
    refine ih (i + 1) (acc.push v) (fun x hx => hm x (by simp only [cellsAt, List.mem_cons]; exact .inr hx)) ?_
    have : acc.push v ++ vs.toArray = acc ++ (v :: vs).toArray := by simp
    rw [this]; exact h
theorem SWP.loadCells {b o n : Nat} {vs : List Value} {K : Array Value → List Atom → Prop} (hn : vs.length = n) (hm : ∀ x ∈ cellsAt b o vs, x ∈ H) (h : K vs.toArray H) : SWP P (Go.loadCells ⟨b, o, none⟩ n) H K := by
  subst hn
  exact swp_loadFrom vs 0 #[] (by simpa using hm) (by simpa using h)
theorem swp_storeFrom {b o : Nat} {K : Unit → List Atom → Prop} : ∀ (vs us : List Value) (i : Nat) (L : List Atom), vs.length = us.length → (∀ v ∈ vs, oneCell v = true) →
    (∀ L', L'.Perm (cellsAt b (o + i) vs ++ L) → K () L') → ∀ M : List Atom, M.Perm (cellsAt b (o + i) us ++ L) → SWP P (storeCells ⟨b, o, none⟩ vs i) M K := by
  intro vs
  induction vs with
  | nil =>
    intro us i L hl _ h M hM
    cases us <;> simp at hl
    exact SWP.pure (h M (by simpa [cellsAt] using hM))
  | cons v vs ih =>
    intro us i L hl hone h M hM
    cases us with
    | nil => simp at hl
    | cons u us =>
      simp only [storeCells, add_off]
      refine SWP.perm hM (SWP.bind ?_)
      simp only [cellsAt, List.cons_append]
      refine SWP.store (hone v (by simp)) ?_
      refine ih us (i + 1) (.cell b (o + i) v :: L) (by simpa using hl) (fun x hx => hone x (by simp [hx])) (fun L' hL' => h L' ?_) _ ?_
      · refine hL'.trans ?_
        simp only [cellsAt, List.cons_append, Nat.add_assoc]
        exact List.perm_middle
      · simp only [Nat.add_assoc]
        exact List.perm_middle.symm
theorem SWP.storeCells {b o : Nat} {vs us : List Value} {R : List Atom} {K : Unit → List Atom → Prop} (hl : vs.length = us.length) (hone : ∀ v ∈ vs, oneCell v = true)
    (h : K () (cellsAt b o vs ++ R)) : SWP P (Go.storeCells ⟨b, o, none⟩ vs) (cellsAt b o us ++ R) K := by
  have := swp_storeFrom (P := P) (b := b) (o := o) (K := fun _ L => L.Perm (cellsAt b o vs ++ R)) vs us 0 R hl hone (fun L' hL' => by simpa using hL') (cellsAt b o us ++ R) (by simp)
  intro F w hs
  obtain ⟨v, w', H', h1, h2, h3, h4⟩ := this F w hs
  exact ⟨v, w', _, h1, h, h3.perm (h2.append_right F), h4⟩
def Src (H : List Atom) (size n : Nat) (vs : List Value) : Value → Prop
  | .slice (some ⟨b, o, none⟩) _ _ => vs.length = n * size ∧ ∀ x ∈ cellsAt b o vs, x ∈ H
  | .slice none _ _ => vs = []
  | .string s => vs = (s.data.toList.take n).map fun c => .int .u8 c.toNat
  | _ => False
theorem SWP.firstCells {size n : Nat} {x : Value} {vs : List Value} {K : Array Value → List Atom → Prop} (hx : Src H size n vs x) (h : K vs.toArray H) : SWP P (Builtin.firstCells size n x) H K := by
  unfold Src at hx
  split at hx
  · exact SWP.loadCells hx.1 hx.2 h
  · subst hx; exact SWP.pure h
  · rename_i s
    subst hx
    refine SWP.pure ?_
    have : (s.extract 0 n).data.map (fun b => Value.int .u8 b.toNat) = ((s.data.toList.take n).map fun c => Value.int .u8 c.toNat).toArray := by
      apply Array.toList_inj.1
      simp [ByteArray.data_extract, Array.toList_extract]
    rw [this]; exact h
  · exact hx.elim
theorem mem_load1 {x : Operand} {b o : Nat} {v : Value} (hx : ρ x = .pointer (some ⟨b, o, none⟩)) (hm : Atom.cell b o v ∈ H) (h : K (.value v) H) :
    SWP P (do let a ← Instr.sureAddr (ρ x); let v ← load a; pure (.value v)) H K := by
  rw [hx]
  exact SWP.bind (SWP.pure (SWP.bind (SWP.load hm (SWP.pure h))))
theorem mem_loadN {n : Nat} {x : Operand} {b o : Nat} {vs : List Value} (hx : ρ x = .pointer (some ⟨b, o, none⟩)) (hn : vs.length = n) (hm : ∀ x ∈ cellsAt b o vs, x ∈ H) (h : K (.value (.agg vs.toArray)) H) :
    SWP P (do let a ← Instr.sureAddr (ρ x); let cs ← loadCells a n; pure (.value (.agg cs))) H K := by
  rw [hx]
  exact SWP.bind (SWP.pure (SWP.bind (SWP.loadCells hn hm (SWP.pure h))))
theorem mem_store {n : Nat} {x v : Operand} {b o : Nat} {us : List Value} {R : List Atom} (hx : ρ x = .pointer (some ⟨b, o, none⟩)) (hn : (ρ v).cells.size = n) (hu : us.length = n) (hone : ∀ c ∈ (ρ v).cells.toList, oneCell c = true)
    (h : K .skip (cellsAt b o (ρ v).cells.toList ++ R)) :
    SWP P (do let a ← Instr.sureAddr (ρ x); if (ρ v).cells.size = n then (do storeCells a (ρ v).cells.toList; pure .skip) else stuck "size") (cellsAt b o us ++ R) K := by
  rw [hx]
  refine SWP.bind (SWP.pure ?_)
  rw [if_pos hn]
  exact SWP.bind (SWP.storeCells (by simp [hn, hu]) hone (SWP.pure h))
theorem mem_new {c : Array Value} {t : TypeId} {f : Nat → Next} (h : ∀ b, K (f b) (cellsAt b 0 c.toList ++ H)) : SWP P (do let b ← newObj (.cells c t); pure (f b)) H K :=
  SWP.bind (SWP.new_cells fun b => SWP.pure (h b))
theorem mem_newObj {o : Obj} {f : Nat → Next} (ho : isCells o = false) (h : ∀ b, K (f b) (.obj b o :: H)) : SWP P (do let b ← newObj o; pure (f b)) H K :=
  SWP.bind (SWP.new_obj ho fun b => SWP.pure (h b))
theorem swp_entries {m c : Nat} {es : Array MapEntry} {α : Type} {f : Array MapEntry × Nat → Sem α} {K : α → List Atom → Prop} (hm : Atom.obj m (.map es c) ∈ H) (h : SWP P (f (es, c)) H K) : SWP P (entriesOf (.map (some m)) >>= f) H K := by
  refine SWP.bind ?_
  unfold entriesOf
  exact SWP.bind (SWP.getObj hm (SWP.pure h))
theorem swp_entries_nil {α : Type} {f : Array MapEntry × Nat → Sem α} {K : α → List Atom → Prop} (h : SWP P (f (#[], 0)) H K) : SWP P (entriesOf (.map none) >>= f) H K :=
  SWP.bind (SWP.pure h)
theorem swp_key (old new : Value) {K : Value → List Atom → Prop} (h : ∀ k, k = old ∨ k = new → K k H) : SWP P (Instr.keyThatStays old new) H K := by
  unfold Instr.keyThatStays
  split
  · exact SWP.pure (h _ (.inr rfl))
  · refine SWP.bind (SWP.choose (fun _ => SWP.pure ?_) (fun n => SWP.pure ?_))
    · exact h _ (.inr rfl)
    · split
      · exact h _ (.inr rfl)
      · exact h _ (.inl rfl)
end
structure RO where
  dst : Option Nat
  guard : Option (Nat × Bool)
  op : R
def lowRO (P : Program) (n : Nat) (ops : Array Oper) (o : Oper) : Option RO :=
  match lowOp P o.op with
  | none => none
  | some r =>
    if o.dst.all (· < n) then
      match o.guard with
      | none => some ⟨o.dst, none, r⟩
      | some (j, b) => match (ops[j]?).bind (·.dst) with
        | some s => some ⟨o.dst, some (s, b), r⟩
        | none => none
    else none
def isRead : R → Bool
  | .load1 .. | .loadN .. | .mlen .. | .lookup .. | .entry .. | .b2s .. => true
  | _ => false
def isNew : R → Bool
  | .alloc .. | .box .. | .bslice .. | .mkmap | .s2b .. => true
  | _ => false
def Ext (w w' : World) : Prop := ∀ (i : Nat) (o : Obj), w.heap[i]? = some o → w'.heap[i]? = some o
theorem Ext.refl (w : World) : Ext w w := fun _ _ h => h
theorem Ext.trans {a b c : World} (h : Ext a b) (k : Ext b c) : Ext a c := fun i o e => k i o (h i o e)
theorem Sat.ext {w w' : World} {L : List Atom} (h : Sat w L) (e : Ext w w') : Sat w' L := ⟨fun x hx => by
  have := h.holds x hx
  cases x with
  | cell b off v => obtain ⟨c, t, lo, hi, h1, h2⟩ := this; exact ⟨c, t, lo, hi, e _ _ h1, h2⟩
  | obj b o => exact ⟨e _ _ this.1, this.2⟩, h.nodup⟩
def isPure : R → Bool
  | .mv .. | .pick .. | .bin .. | .eqb .. | .eqnil .. | .eqagg .. | .un .. | .conv .. | .cvs .. | .mkif .. | .clos .. | .ext .. | .build .. | .nilck .. | .fld .. | .fldV .. | .idxA .. | .idxL .. | .idxS .. | .idxV .. | .slcS ..
  | .slcL .. | .slcA .. | .lenS .. | .lenL .. | .cap .. | .min2 .. | .max2 .. | .tassert .. => true
  | _ => false
def wantedR (g : Option (Nat × Bool)) (a : Act) : Bool :=
  match g with
  | none => true
  | some (s, b) => match a.tmps[s]? with | some (.bool c) => c == b | _ => false
def noWay : Exit → Act → World → Prop := fun _ _ _ => False
abbrev VFc (ρ : Option Nat) : Fence := { fn := fun _ => True, depth := none, alive := false, round := ρ }
def uponV (P : Program) (o : Oper) (a : Act) (next : Act → World → Prop) (Z : Exit → Act → World → Prop) : Result Next → Prop
  | .ok (.value v) w' => next (a.put o.dst v) w'
  | .ok .skip w' => next (a.put o.dst undef) w'
  | .ok (.enter f args) w' => Calls P f args w' fun
      | .returned v, w'' => next (a.put o.dst v) w''
      | .panicked chain, w'' => Z (.panic chain) a w''
      | .outgrown, _ => False
  | .ok (.round l f tmps assign body) w' => RoundIn Fence.wide 0 P l f tmps assign body w' fun
      | .returned v, w'' => next (a.put o.dst v) w''
      | .panicked chain, w'' => Z (.panic chain) a w''
      | .outgrown, _ => False
  | .halt (.panic v) w' => Z (.panic [{ v, recovered := false }]) a w'
  | _ => False
def wpV (P : Program) (o : Oper) (a : Act) (w : World) (next : Act → World → Prop) (Z : Exit → Act → World → Prop) : Prop := uponV P o a next Z ((execOp a.eval o).run P w)
theorem callsIn_v {P : Program} {ρ : Option Nat} {n : Nat} {f : FuncId} {args : Array Value} {w : World} {R : Ending → World → Prop} (h : Calls P f args w R) : CallsIn (VFc ρ) n P f args w R :=
  ⟨trivial, fun cs _ => let ⟨e, w', fr, r, s, x⟩ := h cs; ⟨e, w', fr, r, comesIn_wide.2 s, x⟩⟩
theorem uponV_in {P : Program} {ρ : Option Nat} {o : Oper} {a : Act} {next : Act → World → Prop} {Z : Exit → Act → World → Prop} {r : Result Next} (h : uponV P o a next Z r) : o.uponIn (VFc ρ) 0 P a next Z r := by
  cases r with
  | ok n w' =>
    cases n <;> simp only [uponV] at h <;> simp only [Oper.uponIn] <;> first
      | exact h
      | exact h.elim
      | exact ⟨fun h => by simp at h, callsIn_v (Calls.mono h (fun e w'' he => by cases e <;> first | exact he | exact he.elim))⟩
      | exact ⟨fun h => by simp at h, RoundIn.mono h (fun e w'' he => by cases e <;> first | exact he | exact he.elim)⟩
  | halt x w' => cases x <;> simp only [uponV] at h <;> simp only [Oper.uponIn] <;> exact h
def wpA (P : Program) (Z : Exit → Act → World → Prop) (x : RO × Oper) (next : Act → World → Prop) (a : Act) (w : World) : Prop :=
  (isNew x.1.op = true → ∃ u w', (execOp a.eval x.2).run P w = .ok (.value u) w' ∧ Ext w w') ∧ wpV P x.2 a w next Z
def wpR1 (P : Program) (Z : Exit → Act → World → Prop) (x : RO × Oper) (next : Act → World → Prop) (a : Act) (w : World) : Prop :=
  if wantedR x.1.guard a then
    if isPure x.1.op then ∃ v, pureV a.eval x.1.op = some v ∧ next (a.put x.1.dst v) w
    else if isRead x.1.op then ∃ s v, memS a.eval x.1.op = some s ∧ (∀ w', Ext w w' → s.run P w' = .ok (.value v) w') ∧ next (a.put x.1.dst v) w
    else wpA P Z x next a w
  else next (a.put x.1.dst undef) w
def wpR (P : Program) (Z : Exit → Act → World → Prop) (Q : Act → World → Prop) : List (RO × Oper) → Act → World → Prop
  | [], a, w => Q a w
  | x :: rest, a, w => wpR1 P Z x (wpR P Z Q rest) a w
section
variable {P : Program} {Z : Exit → Act → World → Prop} {Q Q' : Act → World → Prop} {a : Act} {w : World}
theorem wpV_mono {o : Oper} {K K' : Act → World → Prop} (h : ∀ a w, K a w → K' a w) (hh : wpV P o a w K Z) : wpV P o a w K' Z := by
  unfold wpV at *
  generalize (execOp a.eval o).run P w = r at *
  cases r with
  | ok n w' =>
    cases n <;> simp only [uponV] at hh ⊢ <;> first
      | exact h _ _ hh
      | exact Calls.mono hh (fun e w'' he => by cases e <;> first | exact h _ _ he | exact he)
      | exact RoundIn.mono hh (fun e w'' he => by cases e <;> first | exact h _ _ he | exact he)
  | halt x w' => cases x <;> simp only [uponV] at hh ⊢ <;> exact hh
theorem wpR1_mono {x : RO × Oper} (h : ∀ a w, Q a w → Q' a w) (hh : wpR1 P Z x Q a w) : wpR1 P Z x Q' a w := by
  unfold wpR1 at *
  split
  · rename_i h1; rw [if_pos h1] at hh
    split
    · rename_i h2; rw [if_pos h2] at hh; obtain ⟨v, e, hv⟩ := hh; exact ⟨v, e, h _ _ hv⟩
    · rename_i h2; rw [if_neg h2] at hh
      split
      · rename_i h3; rw [if_pos h3] at hh; obtain ⟨s, v, e, e', hv⟩ := hh; exact ⟨s, v, e, e', h _ _ hv⟩
      · rename_i h3; rw [if_neg h3] at hh; exact ⟨hh.1, wpV_mono h hh.2⟩
  · rename_i h1; rw [if_neg h1] at hh; exact h _ _ hh
theorem wpR_mono {l : List (RO × Oper)} (h : ∀ a w, Q a w → Q' a w) : ∀ {a w}, wpR P Z Q l a w → wpR P Z Q' l a w := by
  induction l with
  | nil => intro a w hh; exact h _ _ hh
  | cons x l ih => intro a w hh; exact wpR1_mono (fun a w h => ih h) hh
theorem wpV_zmono {o : Oper} {K : Act → World → Prop} (hh : wpV P o a w K noWay) : wpV P o a w K Z := by
  unfold wpV at *
  generalize (execOp a.eval o).run P w = r at *
  cases r with
  | ok n w' =>
    cases n <;> simp only [uponV] at hh ⊢ <;> first
      | exact hh
      | exact Calls.mono hh (fun e w'' he => by cases e <;> first | exact he | exact he.elim)
      | exact RoundIn.mono hh (fun e w'' he => by cases e <;> first | exact he | exact he.elim)
  | halt x w' => cases x <;> simp only [uponV] at hh ⊢ <;> exact hh.elim
theorem wpR_zmono {l : List (RO × Oper)} : ∀ {a w}, wpR P noWay Q l a w → wpR P Z Q l a w := by
  induction l with
  | nil => intro a w hh; exact hh
  | cons x l ih =>
    intro a w hh
    have h1 : wpR1 P noWay x (wpR P Z Q l) a w := wpR1_mono (fun a w h => ih h) hh
    show wpR1 P Z x (wpR P Z Q l) a w
    unfold wpR1 at *
    split
    · rename_i h2; rw [if_pos h2] at h1
      split
      · rename_i h3; rw [if_pos h3] at h1; exact h1
      · rename_i h3; rw [if_neg h3] at h1
        split
        · rename_i h4; rw [if_pos h4] at h1; exact h1
        · rename_i h4; rw [if_neg h4] at h1; exact ⟨h1.1, wpV_zmono h1.2⟩
    · rename_i h2; rw [if_neg h2] at h1; exact h1
theorem lowRO_spec {n : Nat} {ops : Array Oper} {o : Oper} {r : RO} (h : lowRO P n ops o = some r) : lowOp P o.op = some r.op ∧ r.dst = o.dst ∧ (∀ d, r.dst = some d → d < n) ∧
    ∀ a : Act, Region.wanted o (yielded ops a.tmps) = wantedR r.guard a := by
  unfold lowRO at h
  split at h
  · cases h
  · rename_i r' hr
    split at h
    case isFalse => cases h
    rename_i hd
    have hd' : ∀ d, o.dst = some d → d < n := by intro d e; rw [e] at hd; simpa using hd
    split at h
    · rename_i hg; cases h
      exact ⟨hr, rfl, hd', fun a => by simp [Region.wanted, hg, wantedR]⟩
    · rename_i j b hg
      split at h
      case h_2 => cases h
      rename_i s hs
      cases h
      refine ⟨hr, rfl, hd', fun a => ?_⟩
      simp only [Region.wanted, hg, yielded, hs, Option.bind_some, wantedR]
      cases a.tmps[s]? with
      | none => simp
      | some v => cases v <;> simp
theorem eval_const (a : Act) (u : Value) : a.eval (.const u) = u := rfl
theorem wpR_sound {ρ : Option Nat} {n : Nat} {ops : Array Oper} {X : Nat → RO × Oper} {QQ : Exit → Act → World → Prop} (hX : ∀ i, i < ops.size → ops[i]? = some (X i).2 ∧ lowRO P n ops (X i).2 = some (X i).1) :
    ∀ (l : List Nat) (a : Act) (w : World), (∀ i ∈ l, i < ops.size) → wpR P QQ (QQ .normal) (l.map X) a w → wpOpsIn (VFc ρ) 0 P ops QQ l a w := by
  intro l
  induction l with
  | nil => intro a w _ h; exact h
  | cons i l ih =>
    intro a w hl h
    obtain ⟨h1, h2⟩ := hX i (hl i (by simp))
    obtain ⟨g1, g2, g3, g4⟩ := lowRO_spec h2
    have ih' := fun a w => ih a w (fun j hj => hl j (by simp [hj]))
    have nd : ∀ c, (X i).2.op ≠ .defer c := fun c e => by rw [e] at g1; simp [lowOp] at g1
    simp only [List.map_cons, wpR, wpR1] at h
    simp only [wpOpsIn, h1, g4 a]
    split
    · rename_i hw; rw [if_pos hw] at h
      refine ⟨fun _ _ => trivial, ?_⟩
      rw [Oper.semAt_plain _ _ _ nd]
      refine uponV_in ?_
      split at h
      · obtain ⟨v, hv, hn⟩ := h
        simp only [pure_sound (w := w) (eval_const a) g1 hv, uponV, ← g2]
        exact ih' _ _ hn
      · split at h
        · obtain ⟨s, v, hs, hr, hn⟩ := h
          simp only [mem_sound (eval_const a) g1 hs (hr w (.refl w)), uponV, ← g2]
          exact ih' _ _ hn
        · exact wpV_mono ih' h.2
    · rename_i hw; rw [if_neg hw] at h
      refine ⟨fun _ _ => trivial, ?_⟩
      rw [← g2]; exact ih' _ _ h
end
def guardTmps (g : Option (Nat × Bool)) : List Nat := match g with | some (s, _) => [s] | none => []
def optl (x : Option Operand) : List Operand := x.toList
def rOps : R → List Operand
  | .mv x | .un _ x | .conv _ x | .cvs x | .mkif _ x | .ext x _ | .nilck x | .fld _ x | .fldV _ _ _ x | .lenS x | .lenL x | .cap x | .tassert _ _ _ x | .eqnil _ _ x | .load1 x | .loadN _ x | .mlen x | .entry x | .b2s x => [x]
  | .pick c a b => [c, a, b]
  | .bin _ x y | .eqb _ x y | .eqagg _ _ x y | .idxA _ _ x y | .idxL _ x y | .idxS x y | .idxV _ _ _ x y | .min2 x y | .max2 x y | .lookup _ _ _ x y => [x, y]
  | .clos _ f c => f ++ c
  | .build _ ps => ps.map (·.2.2)
  | .slcS x lo hi => x :: (optl lo ++ optl hi)
  | .slcL _ x lo hi mx => x :: (optl lo ++ optl hi ++ optl mx)
  | .slcA _ _ x lo hi => x :: (optl lo ++ optl hi)
  | _ => []
def opTmps (l : List Operand) : List Nat := l.filterMap fun | .tmp t => some t | _ => none
def looks (x : RO × Oper) : List Nat := guardTmps x.1.guard ++ (if isPure x.1.op || isRead x.1.op then opTmps (rOps x.1.op) else opTmps x.2.op.operands.toList)
def isSelect : Op → Bool
  | .select .. => true
  | _ => false
def apart1 (x y : RO × Oper) : Bool := match x.1.dst with | some d => !(looks y).contains d && y.1.dst != some d | none => true
def indep (x y : RO × Oper) : Bool := apart1 x y && apart1 y x && (isPure x.1.op || isPure y.1.op || (isRead x.1.op && isRead y.1.op) || (isNew x.1.op && isRead y.1.op))
theorem opt_congr {ρ ρ' : Operand → Value} {o : Option Operand} (h : ∀ x ∈ optl o, ρ x = ρ' x) : o.map ρ = o.map ρ' := by
  cases o with
  | none => rfl
  | some x => simp [h x (by simp [optl])]
theorem pureV_congr {ρ ρ' : Operand → Value} {r : R} (hp : isPure r = true) (h : ∀ x ∈ rOps r, ρ x = ρ' x) : pureV ρ r = pureV ρ' r := by
  cases r <;> simp only [isPure] at hp <;> first | (cases hp; done) | skip
  case clos f first c =>
    simp only [rOps, List.mem_append] at h
    simp only [pureV]
    rw [List.map_congr_left (fun x hx => h x (.inl hx)), List.map_congr_left (fun x hx => h x (.inr hx))]
  case build z ps =>
    simp only [rOps, List.mem_map] at h
    simp only [pureV]
    have : evParts ρ ps = evParts ρ' ps := by
      simp only [evParts]
      refine List.map_congr_left (fun p hp => ?_)
      obtain ⟨a, b, c⟩ := p
      simp [h c ⟨_, hp, rfl⟩]
    rw [this]
  case slcS x lo hi =>
    simp only [rOps, List.mem_cons, List.mem_append] at h
    simp only [pureV, h x (.inl rfl), opt_congr (fun y hy => h y (.inr (.inl hy))), opt_congr (fun y hy => h y (.inr (.inr hy)))]
  case slcL z x lo hi mx =>
    simp only [rOps, List.mem_cons, List.mem_append] at h
    simp only [pureV, h x (.inl rfl), opt_congr (fun y hy => h y (.inr (.inl (.inl hy)))), opt_congr (fun y hy => h y (.inr (.inl (.inr hy)))), opt_congr (fun y hy => h y (.inr (.inr hy)))]
  case slcA n z x lo hi =>
    simp only [rOps, List.mem_cons, List.mem_append] at h
    simp only [pureV, h x (.inl rfl), opt_congr (fun y hy => h y (.inr (.inl hy))), opt_congr (fun y hy => h y (.inr (.inr hy)))]
  case un op x => cases op <;> simp only [rOps, List.mem_singleton, forall_eq] at h <;> simp only [pureV, h]
  all_goals (simp only [rOps, List.mem_cons, List.not_mem_nil, or_false, forall_eq_or_imp, forall_eq] at h; simp only [pureV, h])
theorem memS_congr {ρ ρ' : Operand → Value} {r : R} (hp : isRead r = true) (h : ∀ x ∈ rOps r, ρ x = ρ' x) : memS ρ r = memS ρ' r := by
  cases r <;> simp only [isRead] at hp <;> first | (cases hp; done) | skip
  all_goals (simp only [rOps, List.mem_cons, List.not_mem_nil, or_false, forall_eq_or_imp, forall_eq] at h; simp only [memS, h])
section
variable {P : Program}
theorem eval_put_of {a : Act} {d : Option Nat} {v : Value} {l : List Operand} (h : ∀ t, d = some t → t ∉ opTmps l) {x : Operand} (hx : x ∈ l) : (a.put d v).eval x = a.eval x := by
  refine Act.eval_put (fun t e hxt => ?_)
  subst hxt
  exact h t e (by simp only [opTmps, List.mem_filterMap]; exact ⟨_, hx, rfl⟩)
theorem wanted_put_of {a : Act} {d : Option Nat} {v : Value} {g : Option (Nat × Bool)} (h : ∀ t, d = some t → t ∉ guardTmps g) : wantedR g (a.put d v) = wantedR g a := by
  cases g with
  | none => rfl
  | some p =>
    obtain ⟨s, b⟩ := p
    cases d with
    | none => rfl
    | some t =>
      have hne : t ≠ s := fun e => h t rfl (by simp [guardTmps, e])
      simp [wantedR, Act.put, Array.getElem?_setIfInBounds_ne hne]
def Yv (P : Program) (x : RO × Oper) (a : Act) (w : World) (v : Value) : Prop :=
  if wantedR x.1.guard a then
    if isPure x.1.op then pureV a.eval x.1.op = some v else ∃ s, memS a.eval x.1.op = some s ∧ ∀ w', Ext w w' → s.run P w' = .ok (.value v) w'
  else v = undef
theorem wpR1_quiet {Z : Exit → Act → World → Prop} {x : RO × Oper} (hq : (isPure x.1.op || isRead x.1.op) = true) {K : Act → World → Prop} {a : Act} {w : World} : wpR1 P Z x K a w ↔ ∃ v, Yv P x a w v ∧ K (a.put x.1.dst v) w := by
  unfold wpR1 Yv
  split
  · split
    · exact Iff.rfl
    · rename_i hp
      have hr : isRead x.1.op = true := by simpa [hp] using hq
      rw [if_pos hr]
      constructor
      · rintro ⟨s, v, h1, h2, h3⟩; exact ⟨v, ⟨s, h1, h2⟩, h3⟩
      · rintro ⟨v, ⟨s, h1, h2⟩, h3⟩; exact ⟨s, v, h1, h2, h3⟩
  · constructor
    · intro h; exact ⟨_, rfl, h⟩
    · rintro ⟨v, rfl, h⟩; exact h
theorem looks_parts {x : RO × Oper} {t : Nat} (h : t ∉ looks x) : t ∉ guardTmps x.1.guard ∧ ((isPure x.1.op || isRead x.1.op) = true → t ∉ opTmps (rOps x.1.op)) ∧ ((isPure x.1.op || isRead x.1.op) = false → t ∉ opTmps x.2.op.operands.toList) := by
  simp only [looks, List.mem_append, not_or] at h
  refine ⟨h.1, fun e => ?_, fun e => ?_⟩
  · rw [if_pos e] at h; exact h.2
  · rw [if_neg (by simp [e])] at h; exact h.2
theorem Yv_put {x : RO × Oper} (hq : (isPure x.1.op || isRead x.1.op) = true) {d : Option Nat} (hd : ∀ t, d = some t → t ∉ looks x) {a : Act} {w : World} {u v : Value} : Yv P x (a.put d u) w v ↔ Yv P x a w v := by
  unfold Yv
  rw [wanted_put_of (fun t e => (looks_parts (hd t e)).1)]
  have he : ∀ y ∈ rOps x.1.op, (a.put d u).eval y = a.eval y := fun y hy => eval_put_of (fun t e => (looks_parts (hd t e)).2.1 hq) hy
  split
  · split
    · rename_i hp; rw [pureV_congr hp he]
    · rename_i hp
      have hr : isRead x.1.op = true := by simpa [hp] using hq
      rw [memS_congr hr he]
  · exact Iff.rfl
theorem Yv_pure {x : RO × Oper} (hp : isPure x.1.op = true) {a : Act} {w w' : World} {v : Value} : Yv P x a w v ↔ Yv P x a w' v := by
  unfold Yv; simp [hp]
theorem Yv_ext {x : RO × Oper} {a : Act} {w w' : World} {v : Value} (h : Yv P x a w v) (e : Ext w w') : Yv P x a w' v := by
  unfold Yv at *
  split at h
  · rename_i hw; rw [if_pos hw]
    split at h
    · rename_i hp; rw [if_pos hp]; exact h
    · rename_i hp; rw [if_neg hp]
      obtain ⟨s, h1, h2⟩ := h
      exact ⟨s, h1, fun w2 e2 => h2 w2 (e.trans e2)⟩
  · rename_i hw; rw [if_neg hw]; exact h
theorem Yv_fun {x : RO × Oper} {a : Act} {w : World} {u v : Value} (h : Yv P x a w u) (k : Yv P x a w v) : u = v := by
  unfold Yv at *
  split at h
  · rename_i hw; rw [if_pos hw] at k
    split at h
    · rename_i hp; rw [if_pos hp] at k; rw [h] at k; cases k; rfl
    · rename_i hp; rw [if_neg hp] at k
      obtain ⟨s, h1, h2⟩ := h; obtain ⟨s', k1, k2⟩ := k
      rw [h1] at k1; cases k1; have h3 := h2 w (.refl w); rw [k2 w (.refl w)] at h3; cases h3; rfl
  · rename_i hw; rw [if_neg hw] at k; rw [h, k]
theorem put_comm' {a : Act} {x y : Option Nat} {u v : Value} (h : ∀ d, x = some d → y ≠ some d) : (a.put x u).put y v = (a.put y v).put x u := (Act.put_comm a u v h).symm ▸ rfl
end
end Go.V

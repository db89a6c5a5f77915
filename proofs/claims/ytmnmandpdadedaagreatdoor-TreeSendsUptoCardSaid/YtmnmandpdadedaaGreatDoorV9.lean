/-
  The outside world without places: what it is, and where it lies.
-/
import Derived.Test.YtmnmandpdadedaaGreatDoorV8
import Derived.Test.YtmnmandpdadedaaGreatDoorV6
set_option linter.unusedSimpArgs false
set_option linter.unusedVariables false
namespace Go.V
open Go
structure AF where
  now : List UInt8
  base : List UInt8
  writes : List Wr
structure AW where
  choices : List Ch
  names : List (ByteArray × Nat)
  files : List AF
  hs : List HO
  trace : List De
  clock : Int
  seq : Int
  dead : Bool
def foF (f : FO) : AF := ⟨f.now, f.base, f.writes⟩
def ho0 (h : HO) : HO := { h with blk := 0 }
def hoB (B : List Nat) (h : HO) : HO := { h with blk := 0, file := h.file.map fun i => B.getD i 0 }
structure Rep (w : WR) (a : AW) (M : Nat) : Prop where
  ch : w.choices = a.choices
  tr : w.trace = a.trace
  clock : w.clock = a.clock
  seq : w.seq = a.seq
  dead : w.dead = a.dead
  names : w.names = a.names.map fun p => (p.1, (w.objs.map (·.1)).getD p.2 0)
  nin : ∀ p ∈ a.names, p.2 < a.files.length
  files : w.objs.map (fun p => foF p.2) = a.files
  hs : w.hs.map ho0 = a.hs.map (hoB (w.objs.map (·.1)))
  hin : ∀ h ∈ a.hs, ∀ i, h.file = some i → i < a.files.length
  ok : WOk w M
theorem heldE_congr {hs hs' : List HO} (h : hs.map (fun h => (h.closed, h.stale, h.file.isNone)) = hs'.map fun h => (h.closed, h.stale, h.file.isNone)) (n : Int) (host : Bool) : heldE hs n host = heldE hs' n host := by
  unfold heldE
  by_cases h1 : 1 ≤ n
  · simp only [if_pos h1]
    have hg : ((hs.map (fun h => (h.closed, h.stale, h.file.isNone)))[(n - 1).toNat]?) = ((hs'.map (fun h => (h.closed, h.stale, h.file.isNone)))[(n - 1).toNat]?) := by rw [h]
    simp only [List.getElem?_map] at hg
    cases hx : hs[(n - 1).toNat]? with
    | none =>
      cases hy : hs'[(n - 1).toNat]? with
      | none => rfl
      | some y => rw [hx, hy] at hg; cases hg
    | some x =>
      cases hy : hs'[(n - 1).toNat]? with
      | none => rw [hx, hy] at hg; cases hg
      | some y =>
        rw [hx, hy] at hg
        simp only [Option.map_some, Option.some.injEq, Prod.mk.injEq] at hg
        obtain ⟨g1, g2, g3⟩ := hg
        simp only [g1, g2, g3]
  · simp only [if_neg h1]
theorem anyE_congr {hs hs' : List HO} (h : hs.map (fun h => (h.closed, h.stale, h.file.isNone)) = hs'.map fun h => (h.closed, h.stale, h.file.isNone)) (n : Int) : anyE hs n = anyE hs' n := by
  unfold anyE
  by_cases h1 : 1 ≤ n
  · simp only [if_pos h1]
    have hg : ((hs.map (fun h => (h.closed, h.stale, h.file.isNone)))[(n - 1).toNat]?) = ((hs'.map (fun h => (h.closed, h.stale, h.file.isNone)))[(n - 1).toNat]?) := by rw [h]
    simp only [List.getElem?_map] at hg
    cases hx : hs[(n - 1).toNat]? with
    | none =>
      cases hy : hs'[(n - 1).toNat]? with
      | none => rfl
      | some y => rw [hx, hy] at hg; cases hg
    | some x =>
      cases hy : hs'[(n - 1).toNat]? with
      | none => rw [hx, hy] at hg; cases hg
      | some y =>
        rw [hx, hy] at hg
        simp only [Option.map_some, Option.some.injEq, Prod.mk.injEq] at hg
        simp only [hg.1]
  · simp only [if_neg h1]
section
variable {w : WR} {a : AW} {M : Nat}
theorem Rep.flags (h : Rep w a M) : w.hs.map (fun h => (h.closed, h.stale, h.file.isNone)) = a.hs.map fun h => (h.closed, h.stale, h.file.isNone) := by
  have := congrArg (List.map fun h : HO => (h.closed, h.stale, h.file.isNone)) h.hs
  simp only [List.map_map] at this
  have e1 : ((fun h : HO => (h.closed, h.stale, h.file.isNone)) ∘ ho0) = fun h => (h.closed, h.stale, h.file.isNone) := rfl
  have e2 : ((fun h : HO => (h.closed, h.stale, h.file.isNone)) ∘ hoB (w.objs.map (·.1))) = fun h => (h.closed, h.stale, h.file.isNone) := by
    funext h; simp [hoB]
  rw [e1, e2] at this
  exact this
theorem Rep.held (h : Rep w a M) (n : Int) (host : Bool) : heldE w.hs n host = heldE a.hs n host := heldE_congr h.flags n host
theorem Rep.any (h : Rep w a M) (n : Int) : anyE w.hs n = anyE a.hs n := anyE_congr h.flags n
theorem Rep.hlen (h : Rep w a M) : w.hs.length = a.hs.length := by have := congrArg List.length h.hs; simpa using this
theorem Rep.flen (h : Rep w a M) : w.objs.length = a.files.length := by have := congrArg List.length h.files; simpa using this
theorem WOk.mono {M' : Nat} (h : WOk w M) (hm : M ≤ M') : WOk w M' :=
  { h with fo := fun p hp => let x := h.fo p hp; { x with many := Nat.le_trans x.many hm }, hmany := Nat.le_trans h.hmany hm, trmany := Nat.le_trans h.trmany hm, seq := ⟨h.seq.1, by have := h.seq.2; omega⟩ }
theorem Rep.mono {M' : Nat} (h : Rep w a M) (hm : M ≤ M') : Rep w a M' := { h with ok := h.ok.mono hm }
theorem Rep.handle (h : Rep w a M) {i : Nat} {x : HO} (hx : w.hs[i]? = some x) : ∃ y, a.hs[i]? = some y ∧ ho0 x = hoB (w.objs.map (·.1)) y := by
  have := congrArg (·[i]?) h.hs
  simp only [List.getElem?_map, hx, Option.map_some] at this
  cases hy : a.hs[i]? with
  | none => rw [hy] at this; cases this
  | some y => rw [hy] at this; exact ⟨y, rfl, by simpa using this⟩
theorem Rep.file (h : Rep w a M) {j : Nat} (hj : j < a.files.length) : ∃ b fo, w.objs[j]? = some (b, fo) ∧ (w.objs.map (·.1)).getD j 0 = b ∧ a.files[j]? = some (foF fo) ∧ FOk fo M := by
  have hl : j < w.objs.length := by rw [h.flen]; exact hj
  refine ⟨w.objs[j].1, w.objs[j].2, by simp [hl], ?_, ?_, h.ok.fo _ (List.getElem_mem hl)⟩
  · simp [List.getD_eq_getElem?_getD, hl]
  · rw [← h.files]; simp [hl]
end
theorem flat_take {α : Type} {f : α → List Atom} {l : List α} {i : Nat} {x : α} (hi : l[i]? = some x) :
    ∃ rest : List Atom, (l.flatMap f).Perm (f x ++ rest) ∧ ∀ x', ((l.set i x').flatMap f).Perm (f x' ++ rest) := by
  obtain ⟨hlt, rfl⟩ := List.getElem?_eq_some_iff.1 hi
  refine ⟨(l.take i).flatMap f ++ (l.drop (i + 1)).flatMap f, ?_, fun h' => ?_⟩
  · conv => lhs; rw [← List.take_append_drop i l, List.drop_eq_getElem_cons hlt]
    rw [List.flatMap_append, List.flatMap_cons]; exact perm_lead _ _ _
  · rw [List.set_eq_take_append_cons_drop, if_pos hlt, List.flatMap_append, List.flatMap_cons]; exact perm_lead _ _ _
def ftxt (l : List UInt8) : ByteArray := ⟨l.toArray⟩
def chA (a : AW) : Ch := if a.dead then noCh else a.choices.headD noCh
def liveA (a : AW) : Bool := !(a.dead || decide ((chA a).kind = 5))
def takeA (a : AW) : AW := { a with choices := if a.dead then a.choices else a.choices.tail, dead := !liveA a }
theorem Rep.take {w : WR} {a : AW} {M : Nat} (h : Rep w a M) {w1 : WR} (hT : Taken w w1) : Rep w1 (takeA a) M ∧ takeC w = chA a ∧ takeL w = liveA a := by
  obtain ⟨cv', csp', cs, h1, h2, h3, rfl⟩ := hT
  have hc : takeC w = chA a := by simp only [takeC, chA, h.dead, h.ch]
  have hl : takeL w = liveA a := by simp only [takeL, liveA, hc, h.dead]
  refine ⟨{ h with ch := ?_, dead := ?_, ok := { h.ok with ch := h3, chmany := Nat.le_trans h1 h.ok.chmany } }, hc, hl⟩
  · simp only [takeA, h2, h.dead, h.ch]
  · simp only [takeA, hl]
section
variable {P : Program} {n : Nat} {Γ : Env} {H : SH} {Q : Exit → Env → SH → Prop}
end
theorem Sat.apart {w : World} {H R : SH} {F A : List Atom} {x y : Atom} (h : Sat w (H.flatten ++ F)) (ht : Tk H A R) (hx : x ∈ A) (hy : y ∈ R.flatten) : x.loc ≠ y.loc := by
  intro he
  have h1 := (h.perm (ht.perm.append_right F)).nodup
  rw [List.append_assoc, List.map_append, List.nodup_append] at h1
  exact h1.2.2 x.loc (List.mem_map_of_mem hx) y.loc (List.mem_map_of_mem (List.mem_append_left _ hy)) he
section
variable {P : Program}
end
def BytesAt (H : SH) : Value → List UInt8 → Prop
  | .slice (some ⟨b, o, none⟩) k _, l => k = l.length ∧ ∀ a ∈ cellsAt b o (l.map u8v), a ∈ H.flatten
  | .slice none _ _, l => l = []
  | _, _ => False
theorem IsSl.bytes {H R : SH} {sv : Value} {l : List UInt8} {sp : List Value} (h : IsSl 1 sv l.length (l.map u8v) sp) (ht : Tk H (slA sv (l.map u8v) sp) R) : BytesAt H sv l := by
  obtain ⟨a, c, rfl⟩ := h.form
  generalize hk : l.length = k at h
  generalize hm : l.map u8v = us at h
  cases h with
  | mk h1 h2 h3 =>
    refine ⟨hk.symm, fun x hx => ?_⟩
    refine (ht.perm.mem_iff).2 (List.mem_append_left _ ?_)
    rw [hk, hm]
    rw [hm] at hx
    simp only [slA, cellsAt_append, List.mem_append]
    exact .inl hx
  | nil => exact List.map_eq_nil_iff.1 hm
theorem ofNat_u8 (c : UInt8) : UInt8.ofNat (((c.toNat : Nat) : Int).toNat) = c := by simp
theorem run_push {P : Program} {w : World} {f : Value → ByteArray → Sem (ForInStep ByteArray)} (hf : ∀ (c : UInt8) r, f (u8v c) r = pure (ForInStep.yield (r.push (UInt8.ofNat ((c.toNat : Int)).toNat)))) : ∀ (l : List UInt8) (acc : ByteArray), (forIn (l.map u8v) acc f).run P w = .ok ⟨acc.data ++ l.toArray⟩ w := by
  intro l
  induction l with
  | nil => intro acc; simp
  | cons c l ih =>
    intro acc
    have := ih (acc.push c)
    rw [List.map_cons, List.forIn_cons, hf, Sem.run_bind, Sem.run_pure, Result.andThen_ok]
    simp only [ofNat_u8]
    rw [this]
    simp [ByteArray.push]
theorem run_b2s {P : Program} {H : SH} {dv : Value} {l : List UInt8} {F : List Atom} {w : World} (h : BytesAt H dv l) (hs : Sat w (H.flatten ++ F)) : (Conv.bytesToString dv).run P w = .ok (.string (ftxt l)) w := by
  unfold BytesAt at h
  split at h
  · obtain ⟨rfl, hm⟩ := h
    have hl := run_loadCells (P := P) (m := l.length) (us := l.map u8v) (by simp) hm hs
    unfold Conv.bytesToString
    simp only [Sem.run_bind, hl, Result.andThen_ok]
    rw [List.forIn_toArray]
    rw [run_push (fun c r => rfl)]
    simp [ftxt]
  · subst h
    unfold Conv.bytesToString
    rfl
  · exact h.elim
section
variable {P : Program} {n : Nat} {rs : List RO} {Γ : Env} {H : SH} {Z : List PanicEntry → Env → SH → Prop} {K : Env → SH → Prop} {d : Option Nat}
theorem st_b2s {x : Operand} {dv : Value} {l : List UInt8} (hx : ev Γ x = some dv) (hb : BytesAt H dv l) (h : VO P n rs (putE d (.string (ftxt l)) Γ) H Z K) : VO P n (⟨d, none, .b2s x⟩ :: rs) Γ H Z K :=
  VO.read rfl rfl (fun ρ hρ => ⟨_, rfl, fun F w hs => by
    rw [hρ _ _ hx]
    simp [run_b2s hb hs]⟩) h
end
def Win : Value → Nat → Nat → Value → Prop
  | .slice (some ⟨b, o, none⟩) _ _, l, h, dv => ∃ o' c', dv = .slice (some ⟨b, o', none⟩) h c' ∧ (0 < h → o' = o + l)
  | .slice none _ _, _, h, dv => ∃ c', dv = .slice none h c'
  | _, _, _, _ => False
theorem Win.form {sv dv : Value} {l h : Nat} (hw : Win sv l h dv) : ∃ a c, dv = .slice a h c := by
  unfold Win at hw
  split at hw
  · obtain ⟨_, _, rfl, _⟩ := hw; exact ⟨_, _, rfl⟩
  · obtain ⟨_, rfl⟩ := hw; exact ⟨_, _, rfl⟩
  · exact hw.elim
theorem SubAt.form {sv dv : Value} {k l : Nat} {xs sp : List Value} (h : IsSl 1 sv k xs sp) (hd : SubAt sv l dv) : ∃ a c, dv = .slice a (k - l) c := by
  cases h with
  | mk h1 h2 h3 => simp only [SubAt] at hd; exact ⟨_, _, hd⟩
  | nil => simp only [SubAt] at hd; exact ⟨_, _, hd⟩
theorem Win.bytes {H R : SH} {sv dv : Value} {k l h : Nat} {bs : List UInt8} {sp : List Value} (hsl : IsSl 1 sv k (bs.map u8v) sp) (hw : Win sv l h dv) (hh : l + h ≤ k) (ht : Tk H (slA sv (bs.map u8v) sp) R) : BytesAt H dv ((bs.drop l).take h) := by
  have hlen := hsl.len
  simp only [List.length_map, Nat.mul_one] at hlen
  generalize hus : bs.map u8v = us at hsl ht
  cases hsl with
  | @mk b o _ c _ _ h1 h2 h3 =>
    obtain ⟨o', c', rfl, ho⟩ := hw
    refine ⟨by simp; omega, fun x hx => ?_⟩
    refine (ht.perm.mem_iff).2 (List.mem_append_left _ ?_)
    obtain ⟨i, v, hi, rfl⟩ := mem_cellsAt.1 hx
    have hlt := (List.getElem?_eq_some_iff.1 hi).1
    simp only [List.length_map, List.length_take, List.length_drop] at hlt
    obtain rfl := ho (by omega)
    refine mem_cellsAt.2 ⟨l + i, v, ?_, by congr 1; omega⟩
    rw [List.getElem?_append_left (by rw [← hus]; simp; omega), ← hus]
    rw [List.getElem?_map, List.getElem?_take, if_pos (by omega), List.getElem?_drop] at hi
    rw [List.getElem?_map]; exact hi
  | nil =>
    obtain ⟨c', rfl⟩ := hw
    simp only [List.map_eq_nil_iff] at hus
    simp [BytesAt, hus]
section
variable {P : Program} {n : Nat} {rs : List RO} {Γ : Env} {H : SH} {Z : List PanicEntry → Env → SH → Prop} {K : Env → SH → Prop} {d : Option Nat}
end
section
variable {κ α β : Type} [DecidableEq κ] {g : α → β} {k : κ}
theorem mget_map {l : List (κ × α)} : mget k (l.map fun p => (p.1, g p.2)) = (mget k l).map g := by
  induction l with
  | nil => rfl
  | cons p l ih => simp only [List.map_cons, mget]; split <;> simp_all
end
section
variable {w : WR} {a : AW} {M : Nat}
theorem Rep.mget (h : Rep w a M) (p : ByteArray) : V.mget p w.names = (V.mget p a.names).map fun j => (w.objs.map (·.1)).getD j 0 := by
  rw [h.names]; exact mget_map (κ := ByteArray) (α := Nat) (β := Nat) (g := fun j => (w.objs.map (·.1)).getD j 0)
theorem Rep.keys (h : Rep w a M) : (a.names.map (·.1)).Nodup := by
  have := h.ok.keys
  rw [h.names] at this
  simpa [List.map_map, Function.comp_def] using this
theorem Rep.next (h : Rep w a M) : Rep { w with seq := w.seq + 1 } { a with seq := a.seq + 1 } (M + 1) := by
  have h' := h.mono (Nat.le_succ M)
  refine { h' with seq := by simp only [h.seq], ok := { h'.ok with seq := ?_ } }
  have := h.ok.seq
  constructor
  · show 0 ≤ w.seq + 1; omega
  · show w.seq + 1 ≤ ((M + 1 : Nat) : Int); omega
end
def RdRow (size : Nat) (A : List Atom) (v : Value) (k : Nat) (xs : List Value) : Prop :=
  (v = .slice none 0 0 ∧ k = 0 ∧ xs = []) ∨ ∃ b o c, v = .slice (some ⟨b, o, none⟩) k c ∧ k ≤ c ∧ xs.length = k * size ∧ ∀ x ∈ cellsAt b o xs, x ∈ A
theorem RdRow.form {size : Nat} {A : List Atom} {v : Value} {k : Nat} {xs : List Value} (h : RdRow size A v k xs) : ∃ a c, v = .slice a k c := by
  rcases h with ⟨rfl, rfl, _⟩ | ⟨b, o, c, rfl, _⟩
  · exact ⟨_, _, rfl⟩
  · exact ⟨_, _, rfl⟩
theorem RdRow.mono {size : Nat} {A B : List Atom} {v : Value} {k : Nat} {xs : List Value} (h : RdRow size A v k xs) (hs : ∀ a ∈ A, a ∈ B) : RdRow size B v k xs := by
  rcases h with h | ⟨b, o, c, h1, h2, h3, h4⟩
  · exact .inl h
  · exact .inr ⟨b, o, c, h1, h2, h3, fun x hx => hs x (h4 x hx)⟩
theorem IsSl.rd {size k : Nat} {v : Value} {xs sp : List Value} (h : IsSl size v k xs sp) : RdRow size (slA v xs sp) v k xs := by
  cases h with
  | @mk b o _ c _ _ h1 h2 h3 =>
    refine .inr ⟨b, o, c, rfl, h3, h1, fun x hx => ?_⟩
    simp only [slA, cellsAt_append, List.mem_append]
    exact .inl hx
  | nil => exact .inl ⟨rfl, rfl, rfl⟩
theorem RdRow.at_ {size : Nat} {A : List Atom} {v : Value} {α : Type} {enc : α → List Value} {l : List α} (h : RdRow size A v l.length (l.flatMap enc)) (he : ∀ x, (enc x).length = size) {i : Nat} {x : α} (hx : l[i]? = some x) :
    ∃ b o c, v = .slice (some ⟨b, o, none⟩) l.length c ∧ ∀ a ∈ cellsAt b (o + i * size) (enc x), a ∈ A := by
  have hi := (List.getElem?_eq_some_iff.1 hx).1
  rcases h with ⟨_, h2, _⟩ | ⟨b, o, c, h1, h2, h3, h4⟩
  · omega
  · refine ⟨b, o, c, h1, fun a ha => h4 a ?_⟩
    obtain ⟨j, v, hj, rfl⟩ := mem_cellsAt.1 ha
    have hjl := (List.getElem?_eq_some_iff.1 hj).1
    rw [he] at hjl
    refine mem_cellsAt.2 ⟨i * size + j, v, ?_, by congr 1; omega⟩
    have key : ∀ (l : List α) (i : Nat), l[i]? = some x → (l.flatMap enc)[i * size + j]? = some v := by
      intro l
      induction l with
      | nil => intro i h; simp at h
      | cons y l ih =>
        intro i h
        cases i with
        | zero =>
          simp only [List.getElem?_cons_zero, Option.some.injEq] at h
          subst h
          rw [List.flatMap_cons, Nat.zero_mul, Nat.zero_add, List.getElem?_append_left (by rw [he]; exact hjl)]
          exact hj
        | succ i =>
          rw [List.flatMap_cons, List.getElem?_append_right (by rw [he, Nat.succ_mul]; omega), he]
          have := ih i (by simpa using h)
          rw [← this]
          congr 1
          rw [Nat.succ_mul]; omega
    exact key l i hx
structure Seen {β : Type} (es : Array MapEntry) (l : List (ByteArray × β)) (seen : Array Nat) (C : List (ByteArray × β)) : Prop where
  nodup : (C.map (·.1)).Nodup
  mem : ∀ p ∈ C, p ∈ l
  seen : ∀ e ∈ es.toList, (e.born ∈ seen.toList ↔ ∃ p ∈ C, e.key = .string p.1)
section
variable {β : Type} {Vf : β → Value} {es : Array MapEntry} {c : Nat} {l : List (ByteArray × β)}
theorem Seen.step {seen : Array Nat} {C : List (ByteArray × β)} (h : Seen es l seen C) (hl : MapIs kStr Vf es c l) (hk : (l.map (·.1)).Nodup) {e : MapEntry} (he : e ∈ es.toList) (hne : e.born ∉ seen.toList) :
    ∃ p ∈ l, e.key = .string p.1 ∧ e.val = Vf p.2 ∧ p.1 ∉ C.map (·.1) ∧ Seen es l (seen.push e.born) (C ++ [p]) ∧
      (es.toList.filter fun e' => decide (e'.born ∉ (seen.push e.born).toList)).length < (es.toList.filter fun e' => decide (e'.born ∉ seen.toList)).length := by
  obtain ⟨p, hp, e1, e2⟩ := hl.entry he
  have hnk : p.1 ∉ C.map (·.1) := fun hc => by
    obtain ⟨q, hq, hqp⟩ := List.mem_map.1 hc
    exact hne ((h.seen e he).2 ⟨q, hq, by rw [hqp]; exact e1⟩)
  refine ⟨p, hp, e1, e2, hnk, ⟨?_, ?_, ?_⟩, ?_⟩
  · rw [List.map_append, List.nodup_append]
    exact ⟨h.nodup, by simp, fun x hx y hy => by simp at hy; rw [hy]; intro e; subst e; exact hnk hx⟩
  · intro q hq
    rcases List.mem_append.1 hq with hq | hq
    · exact h.mem q hq
    · rw [List.mem_singleton.1 hq]; exact hp
  · intro e' he'
    simp only [Array.toList_push, List.mem_append, List.mem_singleton]
    constructor
    · rintro (h1 | h1)
      · obtain ⟨k, hk1, hk2⟩ := (h.seen e' he').1 h1
        exact ⟨k, .inl hk1, hk2⟩
      · have := born_one hl.born he' he h1
        subst this
        exact ⟨p, .inr rfl, e1⟩
    · rintro ⟨k, hk1 | hk1, hk2⟩
      · exact .inl ((h.seen e' he').2 ⟨k, hk1, hk2⟩)
      · subst hk1
        exact .inr (by rw [key_one hl hk he' he (hk2.trans e1.symm)])
  · refine filter_less (fun x _ hx => ?_) he (by simpa using hne) (by simp)
    simp at hx ⊢
    exact hx.1
end
def nowOf (a : AW) (n : ByteArray) : List UInt8 := ((a.files[(mget n a.names).getD 0]?).getD ⟨[], [], []⟩).now
theorem mget_some_of {κ β : Type} [DecidableEq κ] {k : κ} {l : List (κ × β)} (h : k ∈ l.map (·.1)) : ∃ v, mget k l = some v := by
  induction l with
  | nil => cases h
  | cons p l ih =>
    simp only [mget]
    split
    · exact ⟨_, rfl⟩
    · rename_i hne
      rcases List.mem_cons.1 h with h | h
      · exact absurd h.symm hne
      · exact ih h
theorem Rep.named {w : WR} {a : AW} {M : Nat} (h : Rep w a M) {n : ByteArray} (hn : n ∈ a.names.map (·.1)) :
    ∃ j b fo, V.mget n a.names = some j ∧ V.mget n w.names = some b ∧ w.objs[j]? = some (b, fo) ∧ a.files[j]? = some (foF fo) ∧ FOk fo M ∧ nowOf a n = fo.now := by
  obtain ⟨j, hj⟩ := mget_some_of hn
  have hin := h.nin _ (mget_mem hj)
  obtain ⟨b, fo, h1, h2, h3, h4⟩ := h.file hin
  refine ⟨j, b, fo, hj, ?_, h1, h3, h4, ?_⟩
  · rw [h.mget, hj, Option.map_some, h2]
  · simp [nowOf, hj, h3, foF]
section
variable {P : Program} {n : Nat} {rs : List RO} {Γ : Env} {H : SH} {Z : List PanicEntry → Env → SH → Prop} {K : Env → SH → Prop} {d : Option Nat}
theorem st_append2 {t : TypeId} {size bytes : Nat} {zero : List Value} {s x : Operand} {sv xv : Value} {k m : Nat} {xs sp ys : List Value} {R : SH} (hs : ev Γ s = some sv) (hx : ev Γ x = some xv) (hsl : IsSl size sv k xs sp)
    (ht : Tk H (slA sv xs sp) R) (hm : seqLen xv = some m) (hsrc : Src R.flatten size m ys xv) (hlen : ys.length = m * size) (hone : ys.all oneCell = true) (hz : zero.length = size) (hb : bytes ≠ 0) (hroom : (2 * (k + m) + 192) * bytes ≤ 2 ^ 48)
    (hin : ∀ b o c sp', sv = .slice (Option.some ⟨b, o, none⟩) k c → IsSl size (.slice (Option.some ⟨b, o, none⟩) (k + m) c) (k + m) (xs ++ ys) sp' → VO P n rs (putE d (.slice (Option.some ⟨b, o, none⟩) (k + m) c) Γ) (slA (.slice (Option.some ⟨b, o, none⟩) (k + m) c) (xs ++ ys) sp' :: R) Z K)
    (h : ∀ sv' sp', IsSl size sv' (k + m) (xs ++ ys) sp' → VO P n rs (putE d sv' Γ) (slA sv' (xs ++ ys) sp' :: slA sv xs sp :: R) Z K) : VO P n (⟨d, none, .append t size bytes zero s x⟩ :: rs) Γ H Z K := by
  refine VO.act' rfl rfl (fun ρ hρ => ⟨_, rfl, ?_⟩)
  rw [hρ _ _ hs, hρ _ _ hx]
  refine SWP.perm ht.perm ?_
  have hsrc' : Src (slA sv xs sp ++ R.flatten) size m ys xv := hsrc.mono (fun x hx => List.mem_append_right _ hx)
  have grow : ∀ (a : Option Addr) (c : Nat), sv = .slice a k c → ¬ (k + m ≤ c) → Src (slA sv xs sp ++ R.flatten) size k xs sv →
      SWP P (if Builtin.nextslicecap (k + m) c * bytes > 2 ^ 48 ∨ bytes = 0 then stuck "size" else do
        let cap ← choose (.appendCap (k + m) c t)
        let old ← Builtin.firstCells size k sv
        let new ← Builtin.firstCells size m xv
        let b ← newObj (.cells (old ++ new ++ (zeroRow (cap - (k + m)) zero).toArray) t)
        pure (Next.value (.slice (Option.some ⟨b, 0, none⟩) (k + m) cap)) : Sem Next) (slA sv xs sp ++ R.flatten) fun nx L => ∃ v H' X, (nx = .value v ∨ (nx = .skip ∧ v = undef)) ∧ L.Perm (List.flatten H' ++ X) ∧ VO P n rs (putE d v Γ) H' Z K := by
    intro a c hsv hle hso
    have hnc : Builtin.nextslicecap (k + m) c * bytes ≤ 2 ^ 48 := Nat.le_trans (Nat.mul_le_mul_right _ (nextcap_le (by omega))) hroom
    rw [if_neg (by omega)]
    have fin : ∀ cap, k + m ≤ cap → SWP P (do
        let old ← Builtin.firstCells size k sv
        let new ← Builtin.firstCells size m xv
        let b ← newObj (.cells (old ++ new ++ (zeroRow (cap - (k + m)) zero).toArray) t)
        pure (Next.value (.slice (Option.some ⟨b, 0, none⟩) (k + m) cap)) : Sem Next) (slA sv xs sp ++ R.flatten) fun nx L => ∃ v H' X, (nx = .value v ∨ (nx = .skip ∧ v = undef)) ∧ L.Perm (List.flatten H' ++ X) ∧ VO P n rs (putE d v Γ) H' Z K := by
      intro cap hcap
      refine SWP.bind (SWP.firstCells hso (SWP.bind (SWP.firstCells hsrc' (mem_new (fun b => ?_)))))
      have hI : IsSl size (.slice (Option.some ⟨b, 0, none⟩) (k + m) cap) (k + m) (xs ++ ys) (zeroRow (cap - (k + m)) zero) := by
        refine .mk ?_ ?_ hcap
        · rw [List.length_append, hsl.len, hlen, Nat.add_mul]
        · rw [List.length_append, hsl.len, hlen, zeroRow_length, hz, ← Nat.add_mul, ← Nat.add_mul]
          congr 1; omega
      refine ⟨_, _, [], .inl rfl, ?_, h _ _ hI⟩
      have : (xs.toArray ++ ys.toArray ++ (zeroRow (cap - (k + m)) zero).toArray).toList = xs ++ ys ++ zeroRow (cap - (k + m)) zero := by simp
      rw [this]
      simp only [List.flatten_cons, List.append_assoc, List.append_nil]
      simp only [slA, List.append_assoc]
      exact List.Perm.refl _
    refine SWP.bind (SWP.choose (fun hf => by simp [Question.forced] at hf) (fun t' => fin _ ?_))
    simp only [Question.cut]; omega
  cases hsl with
  | @mk b o _ c _ _ h1 h2 h3 =>
    simp only [hm]
    by_cases hle : k + m ≤ c
    · rw [if_pos hle]
      refine SWP.bind (SWP.firstCells hsrc' ?_)
      have hl2 : ys.length ≤ sp.length := by
        have e1 : (k + m) * size ≤ c * size := Nat.mul_le_mul_right _ hle
        rw [Nat.add_mul] at e1; omega
      have hsplit : cellsAt b o (xs ++ sp) = cellsAt b o xs ++ (cellsAt b (o + k * size) (sp.take ys.length) ++ cellsAt b (o + k * size + ys.length) (sp.drop ys.length)) := by
        rw [cellsAt_append, h1]
        congr 1
        conv => lhs; rw [← List.take_append_drop ys.length sp]
        rw [cellsAt_append]
        congr 2
        simp; omega
      have hI : IsSl size (.slice (Option.some ⟨b, o, none⟩) (k + m) c) (k + m) (xs ++ ys) (sp.drop ys.length) := by
        refine .mk ?_ ?_ hle
        · rw [List.length_append, h1, hlen, Nat.add_mul]
        · rw [List.length_append, List.length_drop]; omega
      have hadd : ((⟨b, o, none⟩ : Addr).add (k * size)) = ⟨b, o + k * size, none⟩ := add_off b o _
      simp only [hadd]
      have hperm : (slA (.slice (Option.some ⟨b, o, none⟩) k c) xs sp ++ R.flatten).Perm (cellsAt b (o + k * size) (sp.take ys.length) ++ (cellsAt b o xs ++ (cellsAt b (o + k * size + ys.length) (sp.drop ys.length) ++ R.flatten))) := by
        simp only [slA, hsplit, List.append_assoc]
        exact perm_lead _ _ _
      refine SWP.perm hperm (SWP.bind (SWP.storeCells (by simp; omega) (List.all_eq_true.1 hone) (SWP.pure ?_)))
      refine ⟨_, _, [], .inl rfl, ?_, hin b o c _ rfl hI⟩
      simp only [slA, List.flatten_cons, List.append_nil, cellsAt_append, h1, List.append_assoc]
      exact perm_lead _ _ _
    · rw [if_neg hle]
      refine grow _ c rfl hle ⟨h1, fun x hx => ?_⟩
      simp only [slA, cellsAt_append, List.mem_append]
      exact .inl (.inl hx)
  | nil =>
    simp only [hm]
    by_cases hle : 0 + m ≤ 0
    · rw [if_pos hle]
      have hm0 : m = 0 := by omega
      subst hm0
      obtain rfl : ys = [] := by simpa using hlen
      refine SWP.bind (SWP.firstCells hsrc' (SWP.pure ?_))
      exact ⟨_, _, [], .inl rfl, by simp [slA], h _ _ .nil⟩
    · rw [if_neg hle]
      exact grow _ 0 rfl hle rfl
end
structure AOk (a : AW) : Prop where
  seqs : (a.files.flatMap fun f => f.writes.map (·.seq)).Nodup
  rng : ∀ f ∈ a.files, ∀ x ∈ f.writes, 0 < x.seq ∧ x.seq ≤ a.seq
  one : (a.names.map (·.2)).Nodup
theorem Seen.ext {β : Type} [DecidableEq β] {es : Array MapEntry} {l : List (ByteArray × β)} {seen : Array Nat} {C : List (ByteArray × β)} (h : Seen es l seen C) (hk : (l.map (·.1)).Nodup) : ∃ t, (C ++ t).Perm l :=
  nodup_extend (List.Pairwise.of_map (f := fun p : ByteArray × β => p.1) (fun a b hab e => hab (by rw [e])) h.nodup) (List.Pairwise.of_map (f := fun p : ByteArray × β => p.1) (fun a b hab e => hab (by rw [e])) hk) h.mem
section
variable {P : Program} {n : Nat} {rs : List RO} {Γ : Env} {H : SH} {Z : List PanicEntry → Env → SH → Prop} {K : Env → SH → Prop} {d : Option Nat}
end
section
variable {P : Program} {n : Nat} {rs : List RO} {Γ : Env} {H : SH} {Z : List PanicEntry → Env → SH → Prop} {K : Env → SH → Prop} {d : Option Nat}
end
section
variable {P : Program} {n : Nat} {rs : List RO} {Γ : Env} {H : SH} {Z : List PanicEntry → Env → SH → Prop} {K : Env → SH → Prop} {d : Option Nat}
theorem st_cat {x y : Operand} {a b : ByteArray} (hx : ev Γ x = some (.string a)) (hy : ev Γ y = some (.string b)) (hb : a.size + b.size ≤ 9223372036854775807) (h : VO P n rs (putE d (.string (a ++ b)) Γ) H Z K) : VO P n (⟨d, none, .bin .add x y⟩ :: rs) Γ H Z K :=
  VO.pure rfl (fun ρ hρ => by simp only [pureV, hρ _ _ hx, hρ _ _ hy, binV, strV, hb, if_true]) h
end
theorem RdRow.cell {A : List Atom} {v : Value} {α : Type} {f : α → Value} {l : List α} (h : RdRow 1 A v l.length (l.map f)) {i : Nat} {x : α} (hx : l[i]? = some x) :
    ∃ b o c, v = .slice (some ⟨b, o, none⟩) l.length c ∧ Atom.cell b (o + i) (f x) ∈ A := by
  have hi := (List.getElem?_eq_some_iff.1 hx).1
  rcases h with ⟨_, h2, _⟩ | ⟨b, o, c, h1, h2, h3, h4⟩
  · omega
  · exact ⟨b, o, c, h1, h4 _ (mem_cellsAt.2 ⟨i, f x, by simp [hx], rfl⟩)⟩
section
variable {P : Program} {n : Nat} {rs : List RO} {Γ : Env} {H : SH} {Z : List PanicEntry → Env → SH → Prop} {K : Env → SH → Prop} {d : Option Nat}
end
structure OwnI where
  v : Value
  n : Nat
  xs : List Value
  sp : List Value
def Kept (size : Nat) (E : List Atom) (v : Value) (n : Nat) (ms : List Value) (xv : Value) (m : Nat) : Prop :=
  RdRow size E v n ms ∨ (E = [] ∧ ∃ b o c, v = .slice (some ⟨b, o, none⟩) n c ∧ xv = .slice (some ⟨b, o, none⟩) m c)
theorem Kept.start {size n : Nat} {v : Value} {ms sp : List Value} (h : IsSl size v n ms sp) : Kept size [] v n ms v n := by
  cases h with
  | mk h1 h2 h3 => exact .inr ⟨rfl, _, _, _, rfl, rfl⟩
  | nil => exact .inl (.inl ⟨rfl, rfl, rfl⟩)
theorem Kept.done {size n m : Nat} {E : List Atom} {v xv : Value} {ms ts xsp : List Value} (h : Kept size E v n ms xv m) (hx : IsSl size xv m (ms ++ ts) xsp) (hm : ms.length = n * size) (hnm : n ≤ m) :
    RdRow size (slA xv (ms ++ ts) xsp ++ E) v n ms := by
  rcases h with h | ⟨rfl, b, o, c, rfl, rfl⟩
  · exact h.mono (fun a ha => List.mem_append_right _ ha)
  · cases hx with
    | mk h1 h2 h3 =>
      refine .inr ⟨b, o, c, rfl, by omega, hm, fun x hx => ?_⟩
      simp only [slA, List.append_nil, cellsAt_append, List.mem_append]
      exact .inl (.inl hx)
theorem Kept.moved {size n m m' : Nat} {E : List Atom} {v xv xv' : Value} {ms ts xsp : List Value} (h : Kept size E v n ms xv m) (hx : IsSl size xv m (ms ++ ts) xsp) (hm : ms.length = n * size) (hnm : n ≤ m) : Kept size (slA xv (ms ++ ts) xsp ++ E) v n ms xv' m' := .inl (h.done hx hm hnm)
end Go.V

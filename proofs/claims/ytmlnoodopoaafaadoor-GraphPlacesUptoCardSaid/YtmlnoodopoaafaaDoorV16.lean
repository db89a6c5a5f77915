/-
  Lists that are read where they lie; the ways through a map; a world made, and one left behind.
-/
import Derived.Test.YtmlnoodopoaafaaDoorV15
set_option linter.unusedSimpArgs false
set_option linter.unusedVariables false
namespace Go.V
open Go
def RdRow (size : Nat) (A : List Atom) (v : Value) (k : Nat) (xs : List Value) : Prop :=
  (v = .slice none 0 0 ∧ k = 0 ∧ xs = []) ∨ ∃ b o c, v = .slice (some ⟨b, o, none⟩) k c ∧ k ≤ c ∧ xs.length = k * size ∧ ∀ x ∈ cellsAt b o xs, x ∈ A
theorem RdRow.form {size : Nat} {A : List Atom} {v : Value} {k : Nat} {xs : List Value} (h : RdRow size A v k xs) : ∃ a c, v = .slice a k c := by
  rcases h with ⟨rfl, rfl, _⟩ | ⟨b, o, c, rfl, _⟩
  · exact ⟨_, _, rfl⟩
  · exact ⟨_, _, rfl⟩
theorem RdRow.mono {size : Nat} {A B : List Atom} {v : Value} {k : Nat} {xs : List Value} (h : RdRow size A v k xs) (hs : ∀ a ∈ A, a ∈ B) : RdRow size B v k xs := by
  rcases h with h | ⟨b, o, c, h1, h2, h3, h4⟩
  · exact .inl h
  · exact .inr ⟨b, o, c, h1, h2, h3, fun x hx => hs x (h4 x hx)⟩
theorem IsSl.rd {size k : Nat} {v : Value} {xs sp : List Value} (h : IsSl size v k xs sp) : RdRow size (slA v xs sp) v k xs := by
  cases h with
  | @mk b o _ c _ _ h1 h2 h3 =>
    refine .inr ⟨b, o, c, rfl, h3, h1, fun x hx => ?_⟩
    simp only [slA, cellsAt_append, List.mem_append]
    exact .inl hx
  | nil => exact .inl ⟨rfl, rfl, rfl⟩
theorem RdRow.at_ {size : Nat} {A : List Atom} {v : Value} {α : Type} {enc : α → List Value} {l : List α} (h : RdRow size A v l.length (l.flatMap enc)) (he : ∀ x, (enc x).length = size) {i : Nat} {x : α} (hx : l[i]? = some x) :
    ∃ b o c, v = .slice (some ⟨b, o, none⟩) l.length c ∧ ∀ a ∈ cellsAt b (o + i * size) (enc x), a ∈ A := by
  have hi := (List.getElem?_eq_some_iff.1 hx).1
  rcases h with ⟨_, h2, _⟩ | ⟨b, o, c, h1, h2, h3, h4⟩
  · omega
  · refine ⟨b, o, c, h1, fun a ha => h4 a ?_⟩
    obtain ⟨j, v, hj, rfl⟩ := mem_cellsAt.1 ha
    have hjl := (List.getElem?_eq_some_iff.1 hj).1
    rw [he] at hjl
    refine mem_cellsAt.2 ⟨i * size + j, v, ?_, by congr 1; omega⟩
    have key : ∀ (l : List α) (i : Nat), l[i]? = some x → (l.flatMap enc)[i * size + j]? = some v := by
      intro l
      induction l with
      | nil => intro i h; simp at h
      | cons y l ih =>
        intro i h
        cases i with
        | zero =>
          simp only [List.getElem?_cons_zero, Option.some.injEq] at h
          subst h
          rw [List.flatMap_cons, Nat.zero_mul, Nat.zero_add, List.getElem?_append_left (by rw [he]; exact hjl)]
          exact hj
        | succ i =>
          rw [List.flatMap_cons, List.getElem?_append_right (by rw [he, Nat.succ_mul]; omega), he]
          have := ih i (by simpa using h)
          rw [← this]
          congr 1
          rw [Nat.succ_mul]; omega
    exact key l i hx
structure Seen {β : Type} (es : Array MapEntry) (l : List (ByteArray × β)) (seen : Array Nat) (C : List (ByteArray × β)) : Prop where
  nodup : (C.map (·.1)).Nodup
  mem : ∀ p ∈ C, p ∈ l
  seen : ∀ e ∈ es.toList, (e.born ∈ seen.toList ↔ ∃ p ∈ C, e.key = .string p.1)
section
variable {β : Type} {Vf : β → Value} {es : Array MapEntry} {c : Nat} {l : List (ByteArray × β)}
theorem Seen.init : Seen es l #[] [] := ⟨.nil, by simp, by simp⟩
theorem Seen.over {seen : Array Nat} {C : List (ByteArray × β)} (h : Seen es l seen C) (hl : MapIs kStr Vf es c l) (hk : (l.map (·.1)).Nodup) (hover : ∀ e ∈ es.toList, e.born ∈ seen.toList) : C.Perm l := by
  have hC : C.Nodup := List.Pairwise.of_map (f := fun p : ByteArray × β => p.1) (fun a b hab e => hab (by rw [e])) h.nodup
  have hL : l.Nodup := List.Pairwise.of_map (f := fun p : ByteArray × β => p.1) (fun a b hab e => hab (by rw [e])) hk
  classical
  have one : ∀ {p q : ByteArray × β}, p ∈ l → q ∈ l → p.1 = q.1 → p = q := by
    intro p q hp hq e
    clear hover h hl hC
    induction l with
    | nil => cases hp
    | cons x r ih =>
      simp only [List.map_cons, List.nodup_cons] at hk
      rcases List.mem_cons.1 hp with rfl | hp'
      · rcases List.mem_cons.1 hq with rfl | hq'
        · rfl
        · exact absurd (List.mem_map.2 ⟨q, hq', e.symm⟩) hk.1
      · rcases List.mem_cons.1 hq with rfl | hq'
        · exact absurd (List.mem_map.2 ⟨p, hp', e⟩) hk.1
        · exact ih hk.2 (List.nodup_cons.1 hL).2 hp' hq'
  refine (List.perm_ext_iff_of_nodup hC hL).2 (fun p => ⟨h.mem p, fun hp => ?_⟩)
  obtain ⟨e, he, e1, _⟩ := hl.has hp
  obtain ⟨q, hq, e2⟩ := (h.seen e he).1 (hover e he)
  rw [e1] at e2
  have : p.1 = q.1 := by simpa [kStr] using e2
  rw [one hp (h.mem q hq) this]; exact hq
theorem Seen.step {seen : Array Nat} {C : List (ByteArray × β)} (h : Seen es l seen C) (hl : MapIs kStr Vf es c l) (hk : (l.map (·.1)).Nodup) {e : MapEntry} (he : e ∈ es.toList) (hne : e.born ∉ seen.toList) :
    ∃ p ∈ l, e.key = .string p.1 ∧ e.val = Vf p.2 ∧ p.1 ∉ C.map (·.1) ∧ Seen es l (seen.push e.born) (C ++ [p]) ∧
      (es.toList.filter fun e' => decide (e'.born ∉ (seen.push e.born).toList)).length < (es.toList.filter fun e' => decide (e'.born ∉ seen.toList)).length := by
  obtain ⟨p, hp, e1, e2⟩ := hl.entry he
  have hnk : p.1 ∉ C.map (·.1) := fun hc => by
    obtain ⟨q, hq, hqp⟩ := List.mem_map.1 hc
    exact hne ((h.seen e he).2 ⟨q, hq, by rw [hqp]; exact e1⟩)
  refine ⟨p, hp, e1, e2, hnk, ⟨?_, ?_, ?_⟩, ?_⟩
  · rw [List.map_append, List.nodup_append]
    exact ⟨h.nodup, by simp, fun x hx y hy => by simp at hy; rw [hy]; intro e; subst e; exact hnk hx⟩
  · intro q hq
    rcases List.mem_append.1 hq with hq | hq
    · exact h.mem q hq
    · rw [List.mem_singleton.1 hq]; exact hp
  · intro e' he'
    simp only [Array.toList_push, List.mem_append, List.mem_singleton]
    constructor
    · rintro (h1 | h1)
      · obtain ⟨k, hk1, hk2⟩ := (h.seen e' he').1 h1
        exact ⟨k, .inl hk1, hk2⟩
      · have := born_one hl.born he' he h1
        subst this
        exact ⟨p, .inr rfl, e1⟩
    · rintro ⟨k, hk1 | hk1, hk2⟩
      · exact .inl ((h.seen e' he').2 ⟨k, hk1, hk2⟩)
      · subst hk1
        exact .inr (by rw [key_one hl hk he' he (hk2.trans e1.symm)])
  · refine filter_less (fun x _ hx => ?_) he (by simpa using hne) (by simp)
    simp at hx ⊢
    exact hx.1
end
def fiEnc (p : ByteArray × ByteArray) : List Value := [.string p.1, .string p.2]
def emptyA : AW := ⟨[], [], [], [], [], 0, 0, false⟩
def txL (s : ByteArray) : List UInt8 := s.data.toList
def addF (a : AW) (p : ByteArray × ByteArray) : Option AW :=
  if (mget p.1 a.names).isSome || !(nameB p.1) || decide (4194304 < p.2.size) then none
  else some { a with names := mset p.1 a.files.length a.names, files := a.files ++ [⟨txL p.2, txL p.2, []⟩] }
def addFs : AW → List (ByteArray × ByteArray) → Option AW
  | a, [] => some a
  | a, p :: r => match addF a p with | some b => addFs b r | none => none
def newA (cs : List Ch) (fs : List (ByteArray × ByteArray)) : Option AW :=
  match addFs emptyA fs with
  | none => none
  | some a => if 65536 < cs.length ∨ 64 < fs.length then none else some { a with choices := cs }
theorem addFs_snoc {a : AW} {fs : List (ByteArray × ByteArray)} {p : ByteArray × ByteArray} : addFs a (fs ++ [p]) = (addFs a fs).bind fun b => addF b p := by
  induction fs generalizing a with
  | nil => simp only [List.nil_append, addFs, Option.bind_some]; cases addF a p <;> rfl
  | cons q r ih => simp only [List.cons_append, addFs]; cases addF a q with
    | none => rfl
    | some b => exact ih
theorem addFs_none {a : AW} {fs gs : List (ByteArray × ByteArray)} (h : addFs a fs = none) : addFs a (fs ++ gs) = none := by
  induction fs generalizing a with
  | nil => cases h
  | cons q r ih =>
    simp only [List.cons_append, addFs] at h ⊢
    cases hq : addF a q with
    | none => rfl
    | some b => rw [hq] at h; exact ih h
def nowOf (a : AW) (n : ByteArray) : List UInt8 := ((a.files[(mget n a.names).getD 0]?).getD ⟨[], [], []⟩).now
def fileOf (a : AW) (n : ByteArray) : ByteArray × ByteArray := (n, ftxt (nowOf a n))
theorem imp_jn3 {H R1 R2 R3 R4 : SH} {a b c d x : List Atom} (ha : Tk H a R1) (hb : Tk R1 b R2) (hc : Tk R2 c R3) (hd : Tk R3 d R4) (h : x.Perm (d ++ (a ++ (b ++ c)))) : Imp H (x :: R4) := by
  refine Imp.perm (ha.perm.trans ?_)
  rw [List.flatten_cons]
  refine (List.Perm.append_left _ (hb.perm.trans (List.Perm.append_left _ (hc.perm.trans (List.Perm.append_left _ hd.perm))))).trans ?_
  refine List.Perm.trans ?_ (List.Perm.append_right _ h.symm)
  rw [← List.append_assoc, ← List.append_assoc, ← List.append_assoc]
  refine List.Perm.append_right _ ?_
  rw [List.append_assoc (a ++ b), List.append_assoc a]
  have : (a ++ (b ++ (c ++ d))) = ((a ++ (b ++ c)) ++ d) := by simp [List.append_assoc]
  rw [this]
  exact List.perm_append_comm
theorem Rep.newFile {w : WR} {a : AW} {M : Nat} (h : Rep w a M) {b : Nat} {fo : FO} {s : ByteArray} {fes : Array MapEntry} {fc : Nat} (hb : b ∉ w.objs.map (·.1)) (hf : FOk fo M) (hm : MapIs kStr (fun b : Nat => ptr0 b) fes fc (mset s b w.names)) (hl : a.names.length + 1 ≤ 1073741823) :
    Rep { w with fes := fes, fc := fc, names := (mset s a.files.length a.names).map (fun p => (p.1, ((w.objs ++ [(b, fo)]).map (·.1)).getD p.2 0)), objs := w.objs ++ [(b, fo)] } { a with names := mset s a.files.length a.names, files := a.files ++ [foF fo] } M ∧ (((w.objs ++ [(b, fo)]).map (·.1)).getD a.files.length 0) = b := by
  have hRf := h.addF hb hf
  have hB : (((w.objs ++ [(b, fo)]).map (·.1)).getD a.files.length 0) = b := by
    rw [← h.flen]; simp [List.getD_eq_getElem?_getD]
  have hnm := hRf.names
  dsimp only at hnm
  rw [hnm] at hm
  have hms := mset_map (κ := ByteArray) (k := s) (g := fun j => ((w.objs ++ [(b, fo)]).map (·.1)).getD j 0) (v := a.files.length) (l := a.names)
  rw [hB] at hms
  rw [hms] at hm
  exact ⟨hRf.setN hm (mset_keys_nodup h.keys) (fun p hp => by
    rcases mem_mset hp with rfl | hp
    · simp
    · have := h.nin p hp; simp; omega) (Nat.le_trans mset_length_le hl), hB⟩
theorem addFs_len {a b : AW} {fs : List (ByteArray × ByteArray)} (h : addFs a fs = some b) : b.names.length ≤ a.names.length + fs.length := by
  induction fs generalizing a with
  | nil => simp only [addFs, Option.some.injEq] at h; subst h; simp
  | cons p r ih =>
    simp only [addFs] at h
    cases hp : addF a p with
    | none => rw [hp] at h; cases h
    | some c =>
      rw [hp] at h
      have h1 := ih h
      have h2 : c.names.length ≤ a.names.length + 1 := by
        unfold addF at hp
        split at hp
        · cases hp
        · cases hp; exact mset_length_le
      simp only [List.length_cons]; omega
theorem addFs_bad {a : AW} {fs : List (ByteArray × ByteArray)} {k : Nat} {p : ByteArray × ByteArray} (h : addFs emptyA (fs.take k) = some a) (hp : fs[k]? = some p) (hb : addF a p = none) : addFs emptyA fs = none := by
  have hk := (List.getElem?_eq_some_iff.1 hp).1
  have : fs = (fs.take k ++ [p]) ++ fs.drop (k + 1) := by
    rw [List.append_assoc, List.singleton_append]
    conv => lhs; rw [← List.take_append_drop k fs, List.drop_eq_getElem_cons hk]
    rw [(List.getElem?_eq_some_iff.1 hp).2]
  rw [this]
  exact addFs_none (by rw [addFs_snoc, h]; exact hb)
theorem addFs_next {a : AW} {fs : List (ByteArray × ByteArray)} {k : Nat} {p : ByteArray × ByteArray} (h : addFs emptyA (fs.take k) = some a) (hp : fs[k]? = some p) : addFs emptyA (fs.take (k + 1)) = addF a p := by
  have hk := (List.getElem?_eq_some_iff.1 hp).1
  rw [List.take_add_one, hp, Option.toList_some, addFs_snoc, h]; rfl
theorem IsSl.bytesM {H : SH} {sv : Value} {l : List UInt8} {sp : List Value} (h : IsSl 1 sv l.length (l.map u8v) sp) (hm : ∀ a ∈ slA sv (l.map u8v) sp, a ∈ H.flatten) : BytesAt H sv l := by
  obtain ⟨a, c, rfl⟩ := h.form
  generalize hk : l.length = k at h
  generalize hu : l.map u8v = us at h hm
  cases h with
  | mk h1 h2 h3 =>
    refine ⟨hk.symm, fun x hx => hm x ?_⟩
    rw [hu] at hx
    simp only [slA, cellsAt_append, List.mem_append]
    exact .inl hx
  | nil => exact List.map_eq_nil_iff.1 hu
theorem mget_some_of {κ β : Type} [DecidableEq κ] {k : κ} {l : List (κ × β)} (h : k ∈ l.map (·.1)) : ∃ v, mget k l = some v := by
  induction l with
  | nil => cases h
  | cons p l ih =>
    simp only [mget]
    split
    · exact ⟨_, rfl⟩
    · rename_i hne
      rcases List.mem_cons.1 h with h | h
      · exact absurd h.symm hne
      · exact ih h
theorem Rep.keysEq {w : WR} {a : AW} {M : Nat} (h : Rep w a M) : w.names.map (·.1) = a.names.map (·.1) := by
  rw [h.names]; simp [List.map_map, Function.comp_def]
theorem Rep.named {w : WR} {a : AW} {M : Nat} (h : Rep w a M) {n : ByteArray} (hn : n ∈ a.names.map (·.1)) :
    ∃ j b fo, V.mget n a.names = some j ∧ V.mget n w.names = some b ∧ w.objs[j]? = some (b, fo) ∧ a.files[j]? = some (foF fo) ∧ FOk fo M ∧ nowOf a n = fo.now := by
  obtain ⟨j, hj⟩ := mget_some_of hn
  have hin := h.nin _ (mget_mem hj)
  obtain ⟨b, fo, h1, h2, h3, h4⟩ := h.file hin
  refine ⟨j, b, fo, hj, ?_, h1, h3, h4, ?_⟩
  · rw [h.mget, hj, Option.map_some, h2]
  · simp [nowOf, hj, h3, foF]
end Go.V

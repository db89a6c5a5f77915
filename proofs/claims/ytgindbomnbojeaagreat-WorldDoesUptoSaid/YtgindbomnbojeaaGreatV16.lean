/-
  Lists that are read where they lie; the ways through a map; a world made, and one left behind.
-/
import Derived.Test.YtgindbomnbojeaaGreatV15
set_option linter.unusedSimpArgs false
set_option linter.unusedVariables false
namespace Go.V
open Go
def RdRow (size : Nat) (A : List Atom) (v : Value) (k : Nat) (xs : List Value) : Prop :=
  (v = .slice none 0 0 ∧ k = 0 ∧ xs = []) ∨ ∃ b o c, v = .slice (some ⟨b, o, none⟩) k c ∧ k ≤ c ∧ xs.length = k * size ∧ ∀ x ∈ cellsAt b o xs, x ∈ A
theorem RdRow.form {size : Nat} {A : List Atom} {v : Value} {k : Nat} {xs : List Value} (h : RdRow size A v k xs) : ∃ a c, v = .slice a k c := by
  rcases h with ⟨rfl, rfl, _⟩ | ⟨b, o, c, rfl, _⟩
  · exact ⟨_, _, rfl⟩
  · exact ⟨_, _, rfl⟩
theorem RdRow.mono {size : Nat} {A B : List Atom} {v : Value} {k : Nat} {xs : List Value} (h : RdRow size A v k xs) (hs : ∀ a ∈ A, a ∈ B) : RdRow size B v k xs := by
  rcases h with h | ⟨b, o, c, h1, h2, h3, h4⟩
  · exact .inl h
  · exact .inr ⟨b, o, c, h1, h2, h3, fun x hx => hs x (h4 x hx)⟩
theorem IsSl.rd {size k : Nat} {v : Value} {xs sp : List Value} (h : IsSl size v k xs sp) : RdRow size (slA v xs sp) v k xs := by
  cases h with
  | @mk b o _ c _ _ h1 h2 h3 =>
    refine .inr ⟨b, o, c, rfl, h3, h1, fun x hx => ?_⟩
    simp only [slA, cellsAt_append, List.mem_append]
    exact .inl hx
  | nil => exact .inl ⟨rfl, rfl, rfl⟩
theorem RdRow.at_ {size : Nat} {A : List Atom} {v : Value} {α : Type} {enc : α → List Value} {l : List α} (h : RdRow size A v l.length (l.flatMap enc)) (he : ∀ x, (enc x).length = size) {i : Nat} {x : α} (hx : l[i]? = some x) :
    ∃ b o c, v = .slice (some ⟨b, o, none⟩) l.length c ∧ ∀ a ∈ cellsAt b (o + i * size) (enc x), a ∈ A := by
  have hi := (List.getElem?_eq_some_iff.1 hx).1
  rcases h with ⟨_, h2, _⟩ | ⟨b, o, c, h1, h2, h3, h4⟩
  · omega
  · refine ⟨b, o, c, h1, fun a ha => h4 a ?_⟩
    obtain ⟨j, v, hj, rfl⟩ := mem_cellsAt.1 ha
    have hjl := (List.getElem?_eq_some_iff.1 hj).1
    rw [he] at hjl
    refine mem_cellsAt.2 ⟨i * size + j, v, ?_, by congr 1; omega⟩
    have key : ∀ (l : List α) (i : Nat), l[i]? = some x → (l.flatMap enc)[i * size + j]? = some v := by
      intro l
      induction l with
      | nil => intro i h; simp at h
      | cons y l ih =>
        intro i h
        cases i with
        | zero =>
          simp only [List.getElem?_cons_zero, Option.some.injEq] at h
          subst h
          rw [List.flatMap_cons, Nat.zero_mul, Nat.zero_add, List.getElem?_append_left (by rw [he]; exact hjl)]
          exact hj
        | succ i =>
          rw [List.flatMap_cons, List.getElem?_append_right (by rw [he, Nat.succ_mul]; omega), he]
          have := ih i (by simpa using h)
          rw [← this]
          congr 1
          rw [Nat.succ_mul]; omega
    exact key l i hx
structure Seen {β : Type} (es : Array MapEntry) (l : List (ByteArray × β)) (seen : Array Nat) (C : List (ByteArray × β)) : Prop where
  nodup : (C.map (·.1)).Nodup
  mem : ∀ p ∈ C, p ∈ l
  seen : ∀ e ∈ es.toList, (e.born ∈ seen.toList ↔ ∃ p ∈ C, e.key = .string p.1)
section
variable {β : Type} {Vf : β → Value} {es : Array MapEntry} {c : Nat} {l : List (ByteArray × β)}
theorem Seen.init : Seen es l #[] [] := ⟨.nil, by simp, by simp⟩
theorem Seen.over {seen : Array Nat} {C : List (ByteArray × β)} (h : Seen es l seen C) (hl : MapIs kStr Vf es c l) (hk : (l.map (·.1)).Nodup) (hover : ∀ e ∈ es.toList, e.born ∈ seen.toList) : C.Perm l := by
  have hC : C.Nodup := List.Pairwise.of_map (f := fun p : ByteArray × β => p.1) (fun a b hab e => hab (by rw [e])) h.nodup
  have hL : l.Nodup := List.Pairwise.of_map (f := fun p : ByteArray × β => p.1) (fun a b hab e => hab (by rw [e])) hk
  classical
  have one : ∀ {p q : ByteArray × β}, p ∈ l → q ∈ l → p.1 = q.1 → p = q := by
    intro p q hp hq e
    clear hover h hl hC
    induction l with
    | nil => cases hp
    | cons x r ih =>
      simp only [List.map_cons, List.nodup_cons] at hk
      rcases List.mem_cons.1 hp with rfl | hp'
      · rcases List.mem_cons.1 hq with rfl | hq'
        · rfl
        · exact absurd (List.mem_map.2 ⟨q, hq', e.symm⟩) hk.1
      · rcases List.mem_cons.1 hq with rfl | hq'
        · exact absurd (List.mem_map.2 ⟨p, hp', e⟩) hk.1
        · exact ih hk.2 (List.nodup_cons.1 hL).2 hp' hq'
  refine (List.perm_ext_iff_of_nodup hC hL).2 (fun p => ⟨h.mem p, fun hp => ?_⟩)
  obtain ⟨e, he, e1, _⟩ := hl.has hp
  obtain ⟨q, hq, e2⟩ := (h.seen e he).1 (hover e he)
  rw [e1] at e2
  have : p.1 = q.1 := by simpa [kStr] using e2
  rw [one hp (h.mem q hq) this]; exact hq
theorem Seen.step {seen : Array Nat} {C : List (ByteArray × β)} (h : Seen es l seen C) (hl : MapIs kStr Vf es c l) (hk : (l.map (·.1)).Nodup) {e : MapEntry} (he : e ∈ es.toList) (hne : e.born ∉ seen.toList) :
    ∃ p ∈ l, e.key = .string p.1 ∧ e.val = Vf p.2 ∧ p.1 ∉ C.map (·.1) ∧ Seen es l (seen.push e.born) (C ++ [p]) ∧
      (es.toList.filter fun e' => decide (e'.born ∉ (seen.push e.born).toList)).length < (es.toList.filter fun e' => decide (e'.born ∉ seen.toList)).length := by
  obtain ⟨p, hp, e1, e2⟩ := hl.entry he
  have hnk : p.1 ∉ C.map (·.1) := fun hc => by
    obtain ⟨q, hq, hqp⟩ := List.mem_map.1 hc
    exact hne ((h.seen e he).2 ⟨q, hq, by rw [hqp]; exact e1⟩)
  refine ⟨p, hp, e1, e2, hnk, ⟨?_, ?_, ?_⟩, ?_⟩
  · rw [List.map_append, List.nodup_append]
    exact ⟨h.nodup, by simp, fun x hx y hy => by simp at hy; rw [hy]; intro e; subst e; exact hnk hx⟩
  · intro q hq
    rcases List.mem_append.1 hq with hq | hq
    · exact h.mem q hq
    · rw [List.mem_singleton.1 hq]; exact hp
  · intro e' he'
    simp only [Array.toList_push, List.mem_append, List.mem_singleton]
    constructor
    · rintro (h1 | h1)
      · obtain ⟨k, hk1, hk2⟩ := (h.seen e' he').1 h1
        exact ⟨k, .inl hk1, hk2⟩
      · have := born_one hl.born he' he h1
        subst this
        exact ⟨p, .inr rfl, e1⟩
    · rintro ⟨k, hk1 | hk1, hk2⟩
      · exact .inl ((h.seen e' he').2 ⟨k, hk1, hk2⟩)
      · subst hk1
        exact .inr (by rw [key_one hl hk he' he (hk2.trans e1.symm)])
  · refine filter_less (fun x _ hx => ?_) he (by simpa using hne) (by simp)
    simp at hx ⊢
    exact hx.1
end
def fiEnc (p : ByteArray × ByteArray) : List Value := [.string p.1, .string p.2]
def emptyA : AW := ⟨[], [], [], [], [], 0, 0, false⟩
def txL (s : ByteArray) : List UInt8 := s.data.toList
def addF (a : AW) (p : ByteArray × ByteArray) : Option AW :=
  if (mget p.1 a.names).isSome || !(nameB p.1) || decide (4194304 < p.2.size) then none
  else some { a with names := mset p.1 a.files.length a.names, files := a.files ++ [⟨txL p.2, txL p.2, []⟩] }
def addFs : AW → List (ByteArray × ByteArray) → Option AW
  | a, [] => some a
  | a, p :: r => match addF a p with | some b => addFs b r | none => none
def newA (cs : List Ch) (fs : List (ByteArray × ByteArray)) : Option AW :=
  match addFs emptyA fs with
  | none => none
  | some a => if 65536 < cs.length ∨ 64 < fs.length then none else some { a with choices := cs }
theorem addFs_snoc {a : AW} {fs : List (ByteArray × ByteArray)} {p : ByteArray × ByteArray} : addFs a (fs ++ [p]) = (addFs a fs).bind fun b => addF b p := by
  induction fs generalizing a with
  | nil => simp only [List.nil_append, addFs, Option.bind_some]; cases addF a p <;> rfl
  | cons q r ih => simp only [List.cons_append, addFs]; cases addF a q with
    | none => rfl
    | some b => exact ih
theorem addFs_none {a : AW} {fs gs : List (ByteArray × ByteArray)} (h : addFs a fs = none) : addFs a (fs ++ gs) = none := by
  induction fs generalizing a with
  | nil => cases h
  | cons q r ih =>
    simp only [List.cons_append, addFs] at h ⊢
    cases hq : addF a q with
    | none => rfl
    | some b => rw [hq] at h; exact ih h
def nowOf (a : AW) (n : ByteArray) : List UInt8 := ((a.files[(mget n a.names).getD 0]?).getD ⟨[], [], []⟩).now
def fileOf (a : AW) (n : ByteArray) : ByteArray × ByteArray := (n, ftxt (nowOf a n))
theorem imp_jn3 {H R1 R2 R3 R4 : SH} {a b c d x : List Atom} (ha : Tk H a R1) (hb : Tk R1 b R2) (hc : Tk R2 c R3) (hd : Tk R3 d R4) (h : x.Perm (d ++ (a ++ (b ++ c)))) : Imp H (x :: R4) := by
  refine Imp.perm (ha.perm.trans ?_)
  rw [List.flatten_cons]
  refine (List.Perm.append_left _ (hb.perm.trans (List.Perm.append_left _ (hc.perm.trans (List.Perm.append_left _ hd.perm))))).trans ?_
  refine List.Perm.trans ?_ (List.Perm.append_right _ h.symm)
  rw [← List.append_assoc, ← List.append_assoc, ← List.append_assoc]
  refine List.Perm.append_right _ ?_
  rw [List.append_assoc (a ++ b), List.append_assoc a]
  have : (a ++ (b ++ (c ++ d))) = ((a ++ (b ++ c)) ++ d) := by simp [List.append_assoc]
  rw [this]
  exact List.perm_append_comm
theorem Rep.newFile {w : WR} {a : AW} {M : Nat} (h : Rep w a M) {b : Nat} {fo : FO} {s : ByteArray} {fes : Array MapEntry} {fc : Nat} (hb : b ∉ w.objs.map (·.1)) (hf : FOk fo M) (hm : MapIs kStr (fun b : Nat => ptr0 b) fes fc (mset s b w.names)) (hl : a.names.length + 1 ≤ 1073741823) :
    Rep { w with fes := fes, fc := fc, names := (mset s a.files.length a.names).map (fun p => (p.1, ((w.objs ++ [(b, fo)]).map (·.1)).getD p.2 0)), objs := w.objs ++ [(b, fo)] } { a with names := mset s a.files.length a.names, files := a.files ++ [foF fo] } M ∧ (((w.objs ++ [(b, fo)]).map (·.1)).getD a.files.length 0) = b := by
  have hRf := h.addF hb hf
  have hB : (((w.objs ++ [(b, fo)]).map (·.1)).getD a.files.length 0) = b := by
    rw [← h.flen]; simp [List.getD_eq_getElem?_getD]
  have hnm := hRf.names
  dsimp only at hnm
  rw [hnm] at hm
  have hms := mset_map (κ := ByteArray) (k := s) (g := fun j => ((w.objs ++ [(b, fo)]).map (·.1)).getD j 0) (v := a.files.length) (l := a.names)
  rw [hB] at hms
  rw [hms] at hm
  exact ⟨hRf.setN hm (mset_keys_nodup h.keys) (fun p hp => by
    rcases mem_mset hp with rfl | hp
    · simp
    · have := h.nin p hp; simp; omega) (Nat.le_trans mset_length_le hl), hB⟩
theorem addFs_len {a b : AW} {fs : List (ByteArray × ByteArray)} (h : addFs a fs = some b) : b.names.length ≤ a.names.length + fs.length := by
  induction fs generalizing a with
  | nil => simp only [addFs, Option.some.injEq] at h; subst h; simp
  | cons p r ih =>
    simp only [addFs] at h
    cases hp : addF a p with
    | none => rw [hp] at h; cases h
    | some c =>
      rw [hp] at h
      have h1 := ih h
      have h2 : c.names.length ≤ a.names.length + 1 := by
        unfold addF at hp
        split at hp
        · cases hp
        · cases hp; exact mset_length_le
      simp only [List.length_cons]; omega
theorem addFs_bad {a : AW} {fs : List (ByteArray × ByteArray)} {k : Nat} {p : ByteArray × ByteArray} (h : addFs emptyA (fs.take k) = some a) (hp : fs[k]? = some p) (hb : addF a p = none) : addFs emptyA fs = none := by
  have hk := (List.getElem?_eq_some_iff.1 hp).1
  have : fs = (fs.take k ++ [p]) ++ fs.drop (k + 1) := by
    rw [List.append_assoc, List.singleton_append]
    conv => lhs; rw [← List.take_append_drop k fs, List.drop_eq_getElem_cons hk]
    rw [(List.getElem?_eq_some_iff.1 hp).2]
  rw [this]
  exact addFs_none (by rw [addFs_snoc, h]; exact hb)
theorem addFs_next {a : AW} {fs : List (ByteArray × ByteArray)} {k : Nat} {p : ByteArray × ByteArray} (h : addFs emptyA (fs.take k) = some a) (hp : fs[k]? = some p) : addFs emptyA (fs.take (k + 1)) = addF a p := by
  have hk := (List.getElem?_eq_some_iff.1 hp).1
  rw [List.take_add_one, hp, Option.toList_some, addFs_snoc, h]; rfl
theorem IsSl.bytesM {H : SH} {sv : Value} {l : List UInt8} {sp : List Value} (h : IsSl 1 sv l.length (l.map u8v) sp) (hm : ∀ a ∈ slA sv (l.map u8v) sp, a ∈ H.flatten) : BytesAt H sv l := by
  obtain ⟨a, c, rfl⟩ := h.form
  generalize hk : l.length = k at h
  generalize hu : l.map u8v = us at h hm
  cases h with
  | mk h1 h2 h3 =>
    refine ⟨hk.symm, fun x hx => hm x ?_⟩
    rw [hu] at hx
    simp only [slA, cellsAt_append, List.mem_append]
    exact .inl hx
  | nil => exact List.map_eq_nil_iff.1 hu
theorem mget_some_of {κ β : Type} [DecidableEq κ] {k : κ} {l : List (κ × β)} (h : k ∈ l.map (·.1)) : ∃ v, mget k l = some v := by
  induction l with
  | nil => cases h
  | cons p l ih =>
    simp only [mget]
    split
    · exact ⟨_, rfl⟩
    · rename_i hne
      rcases List.mem_cons.1 h with h | h
      · exact absurd h.symm hne
      · exact ih h
theorem Rep.keysEq {w : WR} {a : AW} {M : Nat} (h : Rep w a M) : w.names.map (·.1) = a.names.map (·.1) := by
  rw [h.names]; simp [List.map_map, Function.comp_def]
theorem Rep.named {w : WR} {a : AW} {M : Nat} (h : Rep w a M) {n : ByteArray} (hn : n ∈ a.names.map (·.1)) :
    ∃ j b fo, V.mget n a.names = some j ∧ V.mget n w.names = some b ∧ w.objs[j]? = some (b, fo) ∧ a.files[j]? = some (foF fo) ∧ FOk fo M ∧ nowOf a n = fo.now := by
  obtain ⟨j, hj⟩ := mget_some_of hn
  have hin := h.nin _ (mget_mem hj)
  obtain ⟨b, fo, h1, h2, h3, h4⟩ := h.file hin
  refine ⟨j, b, fo, hj, ?_, h1, h3, h4, ?_⟩
  · rw [h.mget, hj, Option.map_some, h2]
  · simp [nowOf, hj, h3, foF]
def fileAt (a : AW) (j : Nat) : AF := (a.files[j]?).getD ⟨[], [], []⟩
def seqsAt (a : AW) (j : Nat) : List Int := (fileAt a j).writes.map (·.seq)
def seqsOf (a : AW) (l : List (ByteArray × Nat)) : List Int := l.flatMap fun p => seqsAt a p.2
structure AOk (a : AW) : Prop where
  seqs : (a.files.flatMap fun f => f.writes.map (·.seq)).Nodup
  rng : ∀ f ∈ a.files, ∀ x ∈ f.writes, 0 < x.seq ∧ x.seq ≤ a.seq
  one : (a.names.map (·.2)).Nodup
def bitV (which : Int) (k : Nat) : Bool := decide (IntKind.u64.wrap ((BitVec.ofInt 64 (which.fdiv (2 ^ (min k 64))) &&& BitVec.ofInt 64 1).toNat : Int) = 1)
def keepB (which : Int) (k : Nat) : Bool := decide (k < 64) && bitV which k
def keptT (which : Int) (ys : List Int) (k : Nat) : List (Int × Bool) := (List.range k).foldl (fun m i => mset ((ys[i]?).getD 0) (keepB which i) m) []
theorem keptT_succ {which : Int} {ys : List Int} {k : Nat} {y : Int} (h : ys[k]? = some y) : keptT which ys (k + 1) = mset y (keepB which k) (keptT which ys k) := by
  simp [keptT, List.range_succ, List.foldl_append, h]
def onKept (m : List (Int × Bool)) (b : List UInt8) (x : Wr) : List UInt8 := if (mget x.seq m).getD false then onL x b else b
def recF (m : List (Int × Bool)) (f : AF) : List UInt8 := f.writes.foldl (onKept m) f.base
def leftC (a : AW) (m : List (Int × Bool)) (cs : List Ch) (C : List (ByteArray × Nat)) : AW :=
  ⟨cs, C.zipIdx.map (fun p => (p.1.1, p.2)), C.map (fun p => ⟨recF m (fileAt a p.2), recF m (fileAt a p.2), []⟩), [], [], a.clock, 0, false⟩
def LeftR (a : AW) (which : Int) (cs : List Ch) (a' : AW) : Prop :=
  ∃ ord ys, ord.Perm a.names ∧ SortedOf ltI (seqsOf a a.names) ys ∧ a' = leftC a (keptT which ys ys.length) (cs.take 65536) ord
theorem leftC_names {a : AW} {m : List (Int × Bool)} {cs : List Ch} {C : List (ByteArray × Nat)} : (leftC a m cs C).names.map (·.1) = C.map (·.1) := by
  simp only [leftC, List.map_map]
  have : ∀ (C : List (ByteArray × Nat)) (k : Nat), (C.zipIdx k).map ((fun x : ByteArray × Nat => x.1) ∘ fun p : (ByteArray × Nat) × Nat => (p.1.1, p.2)) = C.map (·.1) := by
    intro C
    induction C with
    | nil => intro k; rfl
    | cons x C ih => intro k; simp only [List.zipIdx_cons, List.map_cons, Function.comp, ih (k + 1)]
  exact this C 0
theorem leftC_snoc {a : AW} {m : List (Int × Bool)} {cs : List Ch} {C : List (ByteArray × Nat)} {p : ByteArray × Nat} (hp : p.1 ∉ C.map (·.1)) :
    leftC a m cs (C ++ [p]) = { leftC a m cs C with names := mset p.1 (leftC a m cs C).files.length (leftC a m cs C).names, files := (leftC a m cs C).files ++ [⟨recF m (fileAt a p.2), recF m (fileAt a p.2), []⟩] } := by
  have hn : mget p.1 (leftC a m cs C).names = none := by
    cases hg : mget p.1 (leftC a m cs C).names with
    | none => rfl
    | some v =>
      have := List.mem_map_of_mem (f := fun q : ByteArray × Nat => q.1) (mget_mem hg)
      rw [leftC_names] at this
      exact absurd this hp
  rw [mget_none_mset hn]
  simp only [leftC, List.zipIdx_append, List.map_append, List.length_map, List.zipIdx_cons, List.zipIdx_nil, List.map_cons, List.map_nil, Nat.zero_add]
theorem mapIs_re {β γ : Type} {V : β → Value} {g : γ → β} {es : Array MapEntry} {c : Nat} {l : List (ByteArray × γ)} (h : MapIs kStr V es c (l.map fun p => (p.1, g p.2))) : MapIs kStr (fun x => V (g x)) es c l :=
  ⟨by have := h.of; simp only [MapOf, List.map_map] at this ⊢; exact this, h.born, h.clock⟩
theorem Rep.fmA {w : WR} {a : AW} {M : Nat} (h : Rep w a M) : MapIs kStr (fun j => ptr0 ((w.objs.map (·.1)).getD j 0)) w.fes w.fc a.names := by
  have := h.ok.fm
  rw [h.names] at this
  exact mapIs_re (g := fun j => (w.objs.map (·.1)).getD j 0) this
theorem nodup_int_le {l : List Int} {M : Int} (hn : l.Nodup) (h : ∀ x ∈ l, 0 < x ∧ x ≤ M) : (l.length : Int) ≤ M ∨ l = [] := by
  by_cases hl : l = []
  · exact .inr hl
  left
  have hM : 0 < M := by
    obtain ⟨x, hx⟩ := List.exists_mem_of_ne_nil _ hl
    have := h x hx; omega
  have h1 : (l.map Int.toNat).Nodup := by
    refine List.Pairwise.map _ (fun x y hxy => hxy) ?_
    refine hn.imp_of_mem (fun {x y} hx hy hne e => hne ?_)
    have := h x hx; have := h y hy; omega
  have key : ∀ (m : Nat) (l : List Nat), l.Nodup → (∀ y ∈ l, y < m) → l.length ≤ m := by
    intro m
    induction m with
    | zero => intro l _ h; cases l with | nil => simp | cons a l => exact absurd (h a (by simp)) (by omega)
    | succ m ihm =>
      intro l hl hb
      have := ihm (l.erase m) (hl.erase m) (fun y hy => by
        have h1 := hb y (List.mem_of_mem_erase hy)
        have h2 : y ≠ m := fun e => by rw [e] at hy; exact (hl.mem_erase_iff.1 hy).1 rfl
        omega)
      by_cases hm : m ∈ l
      · rw [List.length_erase_of_mem hm] at this; omega
      · rw [List.erase_of_not_mem hm] at this; omega
  have h2 := key M.toNat ((l.map Int.toNat).map (· - 1)) (by
    refine List.Pairwise.map _ (fun x y hxy => hxy) ?_
    refine h1.imp_of_mem (fun {x y} hx hy hne e => hne ?_)
    obtain ⟨u, hu, rfl⟩ := List.mem_map.1 hx
    obtain ⟨v, hv, rfl⟩ := List.mem_map.1 hy
    have := h u hu; have := h v hv; omega) (fun y hy => by
    obtain ⟨z, hz, rfl⟩ := List.mem_map.1 hy
    obtain ⟨u, hu, rfl⟩ := List.mem_map.1 hz
    have := h u hu; omega)
  simp at h2
  omega
theorem seqs_nodup {a : AW} (h : AOk a) (hin : ∀ p ∈ a.names, p.2 < a.files.length) : (seqsOf a a.names).Nodup := by
  have key : ∀ (l : List (ByteArray × Nat)), (l.map (·.2)).Nodup → (∀ p ∈ l, p.2 < a.files.length) → (seqsOf a l).Nodup := by
    intro l
    induction l with
    | nil => intro _ _; exact .nil
    | cons p l ih =>
      intro hn hl
      simp only [List.map_cons, List.nodup_cons] at hn
      simp only [seqsOf, List.flatMap_cons]
      rw [List.nodup_append]
      have hp := hl p (by simp)
      have hfa : fileAt a p.2 = a.files[p.2] := by simp [fileAt, hp]
      refine ⟨?_, ih hn.2 (fun q hq => hl q (by simp [hq])), ?_⟩
      · have := (List.pairwise_flatMap.1 h.seqs).1 a.files[p.2] (List.getElem_mem hp)
        simp only [seqsAt, hfa]; exact this
      · intro x hx y hy e
        subst e
        obtain ⟨q, hq, hyq⟩ := List.mem_flatMap.1 hy
        have hq' := hl q (by simp [hq])
        have hfq : fileAt a q.2 = a.files[q.2] := by simp [fileAt, hq']
        have hne : p.2 ≠ q.2 := fun e => hn.1 (List.mem_map.2 ⟨q, hq, e.symm⟩)
        have hpw := List.pairwise_iff_getElem.1 (List.pairwise_flatMap.1 h.seqs).2
        simp only [seqsAt, hfa, hfq] at hx hyq
        rcases Nat.lt_or_gt_of_ne hne with hlt | hlt
        · exact hpw p.2 q.2 hp hq' hlt x hx x hyq rfl
        · exact hpw q.2 p.2 hq' hp hlt x hyq x hx rfl
  exact key a.names h.one hin
theorem seqs_le {a : AW} {w : WR} {M : Nat} (h : AOk a) (hR : Rep w a M) : (seqsOf a a.names).length ≤ M := by
  have h2 := hR.ok.seq
  rcases nodup_int_le (M := a.seq) (seqs_nodup h hR.nin) (fun x hx => by
    obtain ⟨p, hp, hxp⟩ := List.mem_flatMap.1 hx
    have hl := hR.nin p hp
    obtain ⟨y, hy, rfl⟩ := List.mem_map.1 hxp
    have hfa : fileAt a p.2 = a.files[p.2] := by simp [fileAt, hl]
    rw [hfa] at hy
    exact h.rng _ (List.getElem_mem hl) y hy) with h1 | h1
  · rw [hR.seq] at h2; omega
  · rw [h1]; simp
theorem Seen.ext {β : Type} [DecidableEq β] {es : Array MapEntry} {l : List (ByteArray × β)} {seen : Array Nat} {C : List (ByteArray × β)} (h : Seen es l seen C) (hk : (l.map (·.1)).Nodup) : ∃ t, (C ++ t).Perm l :=
  nodup_extend (List.Pairwise.of_map (f := fun p : ByteArray × β => p.1) (fun a b hab e => hab (by rw [e])) h.nodup) (List.Pairwise.of_map (f := fun p : ByteArray × β => p.1) (fun a b hab e => hab (by rw [e])) hk) h.mem
theorem onKept_le {m : List (Int × Bool)} {b : List UInt8} {x : Wr} (hb : b.length ≤ 4194304) (hx : 0 ≤ x.at_ ∧ x.at_ + x.text.size ≤ 4194304) : (onKept m b x).length ≤ 4194304 := by
  unfold onKept
  split
  · cases he : x.empty with
    | true => simp [onL, he]
    | false =>
      rw [onL_length he]
      show max _ _ ≤ _
      omega
  · exact hb
theorem foldl_kept_le {m : List (Int × Bool)} {l : List Wr} {b : List UInt8} (hb : b.length ≤ 4194304) (hl : ∀ x ∈ l, 0 ≤ x.at_ ∧ x.at_ + x.text.size ≤ 4194304) : (l.foldl (onKept m) b).length ≤ 4194304 := by
  induction l generalizing b with
  | nil => exact hb
  | cons x l ih => exact ih (onKept_le hb (hl x (by simp))) (fun y hy => hl y (by simp [hy]))
theorem foldl_take {α β : Type} {f : β → α → β} {l : List α} {b : β} {k : Nat} {x : α} (h : l[k]? = some x) : (l.take (k + 1)).foldl f b = f ((l.take k).foldl f b) x := by
  rw [List.take_add_one, h, Option.toList_some, List.foldl_append]; rfl
theorem flatMap_take_len {α : Type} {enc : α → List Value} {size : Nat} (he : ∀ x, (enc x).length = size) (l : List α) (h : Nat) : (l.take h).flatMap enc = (l.flatMap enc).take (h * size) := by
  induction l generalizing h with
  | nil => simp
  | cons x l ih =>
    cases h with
    | zero => simp
    | succ h =>
      simp only [List.take_succ_cons, List.flatMap_cons, ih]
      rw [List.take_append, he, Nat.succ_mul, List.take_of_length_le (l := enc x) (by rw [he]; omega), Nat.add_sub_cancel]
section
variable {P : Program} {n : Nat} {rs : List RO} {Γ : Env} {H : SH} {Z : List PanicEntry → Env → SH → Prop} {K : Env → SH → Prop} {d : Option Nat}
theorem st_slcRow {size : Nat} {x hi : Operand} {v : Value} {A : List Atom} {k h : Nat} {xs : List Value} (hx : ev Γ x = some v) (hr : RdRow size A v k xs) (hhi : Bnd Γ k (some hi) h) (hh : h ≤ k)
    (hK : ∀ dv, RdRow size A dv h (xs.take (h * size)) → VO P n rs (putE d dv Γ) H Z K) : VO P n (⟨d, none, .slcL size x none (some hi) none⟩ :: rs) Γ H Z K := by
  rcases hr with ⟨rfl, rfl, rfl⟩ | ⟨b, o, c, rfl, h2, h3, h4⟩
  · obtain rfl : h = 0 := by omega
    exact st_slcN hx .dft hhi ⟨Nat.le_refl _, Nat.le_refl _⟩ (hK _ (.inl ⟨rfl, rfl, by simp⟩))
  · refine st_slcL hx .dft hhi ⟨Nat.zero_le _, by omega⟩ rfl (hK _ (.inr ⟨b, _, _, by rw [Nat.sub_zero], by omega, ?_, ?_⟩))
    · rw [List.length_take, h3]
      have : h * size ≤ k * size := Nat.mul_le_mul_right _ hh
      omega
    · intro y hy
      refine h4 y ?_
      obtain ⟨i, u, hi, rfl⟩ := mem_cellsAt.1 hy
      have hlt := (List.getElem?_eq_some_iff.1 hi).1
      rw [List.length_take] at hlt
      rw [List.getElem?_take] at hi
      split at hi
      · rename_i hih
        refine mem_cellsAt.2 ⟨i, u, hi, ?_⟩
        have hc : c ≠ 0 := by
          intro hc0
          have hk0 : k = 0 := by omega
          rw [hk0] at h3; simp at h3
          rw [h3] at hlt; simp at hlt
        congr 1
        split
        · rename_i e; exact absurd e hc
        · omega
      · cases hi
end
section
variable {P : Program} {n : Nat} {rs : List RO} {Γ : Env} {H : SH} {Z : List PanicEntry → Env → SH → Prop} {K : Env → SH → Prop} {d : Option Nat}
end
theorem ftxt_append (l m : List UInt8) : ftxt l ++ ftxt m = ftxt (l ++ m) := by
  apply ByteArray.ext
  simp [ftxt, ByteArray.data_append]
section
variable {P : Program} {n : Nat} {rs : List RO} {Γ : Env} {H : SH} {Z : List PanicEntry → Env → SH → Prop} {K : Env → SH → Prop} {d : Option Nat}
theorem st_cat {x y : Operand} {a b : ByteArray} (hx : ev Γ x = some (.string a)) (hy : ev Γ y = some (.string b)) (hb : a.size + b.size ≤ 9223372036854775807) (h : VO P n rs (putE d (.string (a ++ b)) Γ) H Z K) : VO P n (⟨d, none, .bin .add x y⟩ :: rs) Γ H Z K :=
  VO.pure rfl (fun ρ hρ => by simp only [pureV, hρ _ _ hx, hρ _ _ hy, binV, strV, hb, if_true]) h
end
theorem ftxt_size (l : List UInt8) : (ftxt l).size = l.length := by simp [ftxt, ByteArray.size]
theorem RdRow.cell {A : List Atom} {v : Value} {α : Type} {f : α → Value} {l : List α} (h : RdRow 1 A v l.length (l.map f)) {i : Nat} {x : α} (hx : l[i]? = some x) :
    ∃ b o c, v = .slice (some ⟨b, o, none⟩) l.length c ∧ Atom.cell b (o + i) (f x) ∈ A := by
  have hi := (List.getElem?_eq_some_iff.1 hx).1
  rcases h with ⟨_, h2, _⟩ | ⟨b, o, c, h1, h2, h3, h4⟩
  · omega
  · exact ⟨b, o, c, h1, h4 _ (mem_cellsAt.2 ⟨i, f x, by simp [hx], rfl⟩)⟩
section
variable {P : Program} {n : Nat} {rs : List RO} {Γ : Env} {H : SH} {Z : List PanicEntry → Env → SH → Prop} {K : Env → SH → Prop} {d : Option Nat}
end
end Go.V

/-
  What is written is read back: the law in terms of lists.
-/
import Derived.Test.YtklkngccaemjdaaWC
set_option linter.unusedSimpArgs false
set_option linter.unusedVariables false
namespace Go.V
open Go

theorem onL_in {x : Wr} {l : List UInt8} {at_ : Nat} (he : x.empty = false) (ha : x.at_ = at_) (h : at_ ≤ l.length) : onL x l = l.take at_ ++ x.text.data.toList ++ l.drop (at_ + x.text.size) := by
  have h1 : x.at_.toNat = at_ := by omega
  simp only [onL, he, h1, Bool.false_eq_true, ↓reduceIte]
  rw [List.take_append_of_le_length h]
  congr 1
  by_cases hl : at_ + x.text.size ≤ l.length
  · rw [show at_ + x.text.size - l.length = 0 by omega]; simp
  · rw [List.drop_append, List.drop_eq_nil_of_le (by omega : l.length ≤ at_ + x.text.size)]
    simp

theorem filedM_ok {d d' : De} {f : De → AW → Int × De × AW} {a a2 : AW} (hl : liveA a = true) (hk : (chA a).kind ≠ 4) (hF : f d (takeA a) = (0, d', a2)) : filedM d f a = (d', d'.err, { a2 with trace := a2.trace ++ [d'] }) := by
  have hfa : faultA d (f d) (takeA a) (chA a) = (0, d', a2) := by
    unfold faultA; rw [if_neg (fun h => hk h.1), hF]
  simp only [filedM, deedA, hl, if_true, hfa]

/-- A world of one file, opened for writing. -/
def oneA (n : ByteArray) (l b : List UInt8) (ws : List Wr) (at_ : Int) (tr : List De) (cl sq : Int) : AW := ⟨[], [(n, 0)], [⟨l, b, ws⟩], [⟨0, false, false, some 0, 2, at_⟩], tr, cl, sq, false⟩

theorem one_seek {n : ByteArray} {l b : List UInt8} {ws : List Wr} {at0 at_ : Int} {tr : List De} {cl sq : Int} (h : 0 ≤ at_ ∧ at_ ≤ l.length) :
    (seekM 1 at_ (oneA n l b ws at0 tr cl sq)).2.1 = 0 ∧ (seekM 1 at_ (oneA n l b ws at0 tr cl sq)).2.2 = oneA n l b ws at_ (tr ++ [deSeek 1 at_]) cl sq := by
  have hF : seekF 1 at_ (deSeek 1 at_) (oneA n l b ws at0 tr cl sq) = (0, deSeek 1 at_, oneA n l b ws at_ tr cl sq) := by
    simp [seekF, oneA, heldE, getF, getH, putH, h]
  have hE := filedM_ok (a := oneA n l b ws at0 tr cl sq) rfl (by show (0 : Int) ≠ 4; decide) hF
  simp only [seekM]
  rw [hE]
  exact ⟨rfl, rfl⟩

theorem one_write {n : ByteArray} {l b : List UInt8} {ws : List Wr} {at_ : Nat} {tr : List De} {cl sq : Int} {s : ByteArray} (h : at_ ≤ l.length) (hs : at_ + s.size ≤ 4194304) :
    (writeM 1 s (oneA n l b ws at_ tr cl sq)).2.1 = 0 ∧ ∃ ws' tr', (writeM 1 s (oneA n l b ws at_ tr cl sq)).2.2 = oneA n (l.take at_ ++ s.data.toList ++ l.drop (at_ + s.size)) b ws' ((at_ : Int) + s.size) tr' cl (sq + 1) := by
  have hon := onL_in (x := ⟨sq + 1, at_, s, false⟩) (l := l) (at_ := at_) rfl rfl h
  have hF : writeF 1 s (deWrite 1 s) (oneA n l b ws at_ tr cl sq) = (0, deWrite 1 s, oneA n (l.take at_ ++ s.data.toList ++ l.drop (at_ + s.size)) b (ws ++ [⟨sq + 1, at_, s, false⟩]) ((at_ : Int) + s.size) tr cl (sq + 1)) := by
    have hb : ¬ (4194304 - (at_ : Int) < s.size) := by omega
    simp [writeF, oneA, heldE, writeAt, getF, getH, putH, putF, doesA, hon, hb]
  have hE := filedM_ok (a := oneA n l b ws at_ tr cl sq) rfl (by show (0 : Int) ≠ 4; decide) hF
  simp only [writeM]
  rw [hE]
  exact ⟨rfl, _, _, rfl⟩

/-- The same, opened once more for reading. -/
def twoA (n : ByteArray) (l b : List UInt8) (ws : List Wr) (at1 at_ : Int) (tr : List De) (cl sq : Int) : AW := ⟨[], [(n, 0)], [⟨l, b, ws⟩], [⟨0, false, false, some 0, 2, at1⟩, ⟨0, false, false, some 0, 1, at_⟩], tr, cl, sq, false⟩

theorem one_open {n : ByteArray} {l b : List UInt8} {ws : List Wr} {at0 : Int} {tr : List De} {cl sq : Int} (hn : nameB n = true) :
    (openM n 1 (oneA n l b ws at0 tr cl sq)).2.1 = 0 ∧ (openM n 1 (oneA n l b ws at0 tr cl sq)).1.handle = 2 ∧ ∃ tr', (openM n 1 (oneA n l b ws at0 tr cl sq)).2.2 = twoA n l b ws at0 0 tr' cl sq := by
  have hF : openF n 1 (deOpen n 1) (oneA n l b ws at0 tr cl sq) = (0, { deOpen n 1 with handle := 2 }, twoA n l b ws at0 0 tr cl sq) := by
    have hu : usedN [(⟨0, false, false, some 0, 2, at0⟩ : HO)] = 1 := rfl
    simp [openF, hn, oneA, twoA, mget, hu, openB]
  have hE := filedM_ok (a := oneA n l b ws at0 tr cl sq) rfl (by show (0 : Int) ≠ 4; decide) hF
  simp only [openM]
  rw [hE]
  exact ⟨rfl, rfl, _, rfl⟩

theorem two_size {n : ByteArray} {l b : List UInt8} {ws : List Wr} {at1 at_ : Int} {tr : List De} {cl sq : Int} : sizeM 2 (twoA n l b ws at1 at_ tr cl sq) = ((l.length : Int), 0) := by
  simp [sizeM, twoA, heldE, getF, getH]

theorem two_read {n : ByteArray} {l b : List UInt8} {ws : List Wr} {at1 : Int} {at_ many : Nat} {tr : List De} {cl sq : Int} (h : at_ ≤ l.length) :
    (readM 2 many (twoA n l b ws at1 at_ tr cl sq)).2.1 = 0 ∧ (readM 2 many (twoA n l b ws at1 at_ tr cl sq)).1.text = ftxt ((l.drop at_).take many) ∧
      ∃ tr', (readM 2 many (twoA n l b ws at1 at_ tr cl sq)).2.2 = twoA n l b ws at1 ((at_ + min many (l.length - at_) : Nat) : Int) tr' cl sq := by
  have hmin : min at_ l.length = at_ := by omega
  have hF : readF 2 many (deRead 2 many) (twoA n l b ws at1 at_ tr cl sq) = (0, { deRead 2 many with text := ftxt ((l.drop at_).take many) }, twoA n l b ws at1 ((at_ + min many (l.length - at_) : Nat) : Int) tr cl sq) := by
    have hneg : ¬ ((many : Int) < 0) := by omega
    simp [readF, twoA, heldE, getF, getH, putH, hneg, hmin]
  have hE := filedM_ok (a := twoA n l b ws at1 at_ tr cl sq) rfl (by show (0 : Int) ≠ 4; decide) hF
  simp only [readM]
  rw [hE]
  exact ⟨rfl, rfl, _, rfl⟩

theorem new_empty : newA [] [] = some emptyA := rfl
theorem empty_open {n : ByteArray} (hn : nameB n = true) : (openM n 2 emptyA).2.1 = 0 ∧ (openM n 2 emptyA).1.handle = 1 ∧ ∃ ws tr, (openM n 2 emptyA).2.2 = oneA n [] [] ws 0 tr 0 1 := by
  have hF : openF n 2 (deOpen n 2) emptyA = (0, { deOpen n 2 with handle := 1 }, oneA n [] [] [⟨1, 0, nilTx, true⟩] 0 [] 0 1) := by
    have hu : usedN ([] : List HO) = 0 := rfl
    simp [openF, hn, emptyA, oneA, mget, hu, openB, newF, mset, doesA, onL]
  have hE := filedM_ok (a := emptyA) rfl (by show (0 : Int) ≠ 4; decide) hF
  simp only [openM]
  rw [hE]
  exact ⟨rfl, rfl, _, _, rfl⟩

theorem ftxt_append (l m : List UInt8) : ftxt l ++ ftxt m = ftxt (l ++ m) := by
  apply ByteArray.ext
  simp [ftxt, ByteArray.data_append]
end Go.V
namespace Go.V
open Go
section
variable {P : Program} {n : Nat} {rs : List RO} {Γ : Env} {H : SH} {Z : List PanicEntry → Env → SH → Prop} {K : Env → SH → Prop} {d : Option Nat}
theorem st_cat {x y : Operand} {a b : ByteArray} (hx : ev Γ x = some (.string a)) (hy : ev Γ y = some (.string b)) (hb : a.size + b.size ≤ 9223372036854775807) (h : VO P n rs (putE d (.string (a ++ b)) Γ) H Z K) : VO P n (⟨d, none, .bin .add x y⟩ :: rs) Γ H Z K :=
  VO.pure rfl (fun ρ hρ => by simp only [pureV, hρ _ _ hx, hρ _ _ hy, binV, strV, hb, if_true]) h
end
theorem ftxt_size (l : List UInt8) : (ftxt l).size = l.length := by simp [ftxt, ByteArray.size]
end Go.V
namespace Go.V
open Go
/-- A thing of a list that is read, of one cell. -/
theorem RdRow.cell {A : List Atom} {v : Value} {α : Type} {f : α → Value} {l : List α} (h : RdRow 1 A v l.length (l.map f)) {i : Nat} {x : α} (hx : l[i]? = some x) :
    ∃ b o c, v = .slice (some ⟨b, o, none⟩) l.length c ∧ Atom.cell b (o + i) (f x) ∈ A := by
  have hi := (List.getElem?_eq_some_iff.1 hx).1
  rcases h with ⟨_, h2, _⟩ | ⟨b, o, c, h1, h2, h3, h4⟩
  · omega
  · exact ⟨b, o, c, h1, h4 _ (mem_cellsAt.2 ⟨i, f x, by simp [hx], rfl⟩)⟩

section
variable {P : Program} {n : Nat} {rs : List RO} {Γ : Env} {H : SH} {Z : List PanicEntry → Env → SH → Prop} {K : Env → SH → Prop} {d : Option Nat}
theorem st_setSl {x y : Operand} {v : Value} {b o c k m : Nat} {xs sp : List Value} {R : SH} (hx : ev Γ x = some (.pointer (some ⟨b, o + m, none⟩))) (hy : ev Γ y = some v) (hv : v.cells.toList = [v]) (hone : oneCell v = true)
    (ht : Tk H (slA (.slice (some ⟨b, o, none⟩) k c) xs sp) R) (hm : m < xs.length) (h : VO P n rs (putE d undef Γ) (slA (.slice (some ⟨b, o, none⟩) k c) (xs.set m v) sp :: R) Z K) : VO P n (⟨d, none, .store 1 x y⟩ :: rs) Γ H Z K := by
  refine VO.perm (H' := slA (.slice (some ⟨b, o, none⟩) k c) xs sp :: R) (by rw [List.flatten_cons]; exact ht.perm) ?_
  refine st_store' (us := [v]) hx hy hv rfl (by simp [hone]) (Upd.cells (ws := xs.set m v ++ sp) (by omega) (by simp; omega) ?_) h
  have h1 : o + m - o = m := by omega
  rw [h1, List.set_eq_take_append_cons_drop, if_pos hm]
  simp only [List.length_cons, List.length_nil, Nat.zero_add]
  rw [List.take_append_of_le_length (by omega), List.drop_append_of_le_length (by omega)]
  simp
end

/-- What is wanted, so far. -/
def wantL (l : List UInt8) (at_ : Nat) (s : List UInt8) (j : Nat) : List UInt8 := l.take at_ ++ s.take j ++ l.drop (at_ + j)
theorem wantL_len {l s : List UInt8} {at_ j : Nat} (h : at_ ≤ l.length) (hj : j ≤ s.length) : (wantL l at_ s j).length = max l.length (at_ + j) := by
  simp only [wantL, List.length_append, List.length_take, List.length_drop]; omega
theorem wantL_zero {l s : List UInt8} {at_ : Nat} : wantL l at_ s 0 = l := by simp [wantL]
theorem wantL_in {l s : List UInt8} {at_ j : Nat} {c : UInt8} (h : at_ + j < l.length) (hc : s[j]? = some c) : wantL l at_ s (j + 1) = (wantL l at_ s j).set (at_ + j) c := by
  have hj := (List.getElem?_eq_some_iff.1 hc).1
  have h1 : (l.take at_ ++ s.take j).length = at_ + j := by simp; omega
  have hd : l.drop (at_ + j) = l[at_ + j] :: l.drop (at_ + j + 1) := List.drop_eq_getElem_cons h
  simp only [wantL]
  rw [hd, List.set_append_right _ _ (by omega), h1, Nat.sub_self, List.set_cons_zero, List.take_add_one, hc]
  simp [Nat.add_assoc]
theorem wantL_out {l s : List UInt8} {at_ j : Nat} {c : UInt8} (h : l.length ≤ at_ + j) (hc : s[j]? = some c) : wantL l at_ s (j + 1) = wantL l at_ s j ++ [c] := by
  simp only [wantL]
  rw [List.drop_eq_nil_of_le h, List.drop_eq_nil_of_le (by omega), List.take_add_one, hc]
  simp
end Go.V
namespace Go.V
open Go

structure AInv (a : AW) : Prop where
  ok : AOk a
  nin : ∀ p ∈ a.names, p.2 < a.files.length
  keys : (a.names.map (·.1)).Nodup
  play : ∀ f ∈ a.files, f.now = f.writes.foldl (fun b x => onL x b) f.base

theorem AInv.congr {a b : AW} (h : AInv a) (h1 : b.files = a.files) (h2 : b.names = a.names) (h3 : b.seq = a.seq) : AInv b :=
  ⟨⟨by rw [h1]; exact h.ok.seqs, by rw [h1, h3]; exact h.ok.rng, by rw [h2]; exact h.ok.one⟩, by rw [h1, h2]; exact h.nin, by rw [h2]; exact h.keys, by rw [h1]; exact h.play⟩

theorem flatMap_set_perm {α β : Type} {f : α → List β} {l : List α} {i : Nat} {x y : α} (hx : l[i]? = some x) : ∃ rest, (l.flatMap f).Perm (f x ++ rest) ∧ ((l.set i y).flatMap f).Perm (f y ++ rest) := by
  obtain ⟨hlt, rfl⟩ := List.getElem?_eq_some_iff.1 hx
  refine ⟨(l.take i).flatMap f ++ (l.drop (i + 1)).flatMap f, ?_, ?_⟩
  · conv => lhs; rw [← List.take_append_drop i l, List.drop_eq_getElem_cons hlt]
    rw [List.flatMap_append, List.flatMap_cons, ← List.append_assoc, ← List.append_assoc]
    exact List.Perm.append_right _ List.perm_append_comm
  · rw [List.set_eq_take_append_cons_drop, if_pos hlt, List.flatMap_append, List.flatMap_cons, ← List.append_assoc, ← List.append_assoc]
    exact List.Perm.append_right _ List.perm_append_comm

theorem AOk.rngM {a : AW} (h : AOk a) : ∀ s ∈ a.files.flatMap (fun f => f.writes.map (·.seq)), 0 < s ∧ s ≤ a.seq := by
  intro s hs
  obtain ⟨f, hf, hs⟩ := List.mem_flatMap.1 hs
  obtain ⟨x, hx, rfl⟩ := List.mem_map.1 hs
  exact h.rng f hf x hx

/-- A write on a file. -/
theorem AInv.write {a : AW} {j : Nat} {f : AF} {x : Wr} (h : AInv a) (hj : a.files[j]? = some f) (hx : x.seq = a.seq + 1) (hs : 0 ≤ a.seq) (b : AW) (h1 : b.files = a.files.set j (doesA f x)) (h2 : b.names = a.names) (h3 : b.seq = a.seq + 1) : AInv b := by
  obtain ⟨rest, p1, p2⟩ := flatMap_set_perm (f := fun f : AF => f.writes.map (·.seq)) (y := doesA f x) hj
  have hmem : f ∈ a.files := List.mem_of_getElem? hj
  refine ⟨⟨?_, ?_, by rw [h2]; exact h.ok.one⟩, ?_, by rw [h2]; exact h.keys, ?_⟩
  · rw [h1]
    refine (p2.nodup_iff).2 ?_
    have q : ((doesA f x).writes.map (·.seq) ++ rest).Perm ((a.seq + 1) :: (f.writes.map (·.seq) ++ rest)) := by
      simp only [doesA, List.map_append, List.map_cons, List.map_nil, hx]
      rw [List.append_assoc, List.singleton_append]
      exact List.perm_middle
    refine (q.nodup_iff).2 (List.nodup_cons.2 ⟨fun hm => ?_, (p1.nodup_iff).1 h.ok.seqs⟩)
    have := h.ok.rngM _ ((p1.mem_iff).2 hm)
    omega
  · rw [h1, h3]
    intro g hg y hy
    rcases List.mem_or_eq_of_mem_set hg with hg | rfl
    · have := h.ok.rng g hg y hy; omega
    · simp only [doesA, List.mem_append, List.mem_singleton] at hy
      rcases hy with hy | rfl
      · have := h.ok.rng f hmem y hy; omega
      · rw [hx]; omega
  · rw [h1, h2]; simpa using h.nin
  · rw [h1]
    intro g hg
    rcases List.mem_or_eq_of_mem_set hg with hg | rfl
    · exact h.play g hg
    · simp only [doesA, List.foldl_append, List.foldl_cons, List.foldl_nil, ← h.play f hmem]

theorem AInv.sync {a : AW} {j : Nat} {f : AF} (h : AInv a) (hj : a.files[j]? = some f) (b : AW) (h1 : b.files = a.files.set j ⟨f.now, f.now, []⟩) (h2 : b.names = a.names) (h3 : b.seq = a.seq) : AInv b := by
  obtain ⟨rest, p1, p2⟩ := flatMap_set_perm (f := fun f : AF => f.writes.map (·.seq)) (y := ⟨f.now, f.now, []⟩) hj
  refine ⟨⟨?_, ?_, by rw [h2]; exact h.ok.one⟩, ?_, by rw [h2]; exact h.keys, ?_⟩
  · rw [h1]
    refine (p2.nodup_iff).2 ?_
    have := (p1.nodup_iff).1 h.ok.seqs
    simpa using (List.nodup_append.1 this).2.1
  · rw [h1, h3]
    intro g hg y hy
    rcases List.mem_or_eq_of_mem_set hg with hg | rfl
    · exact h.ok.rng g hg y hy
    · cases hy
  · rw [h1, h2]; simpa using h.nin
  · rw [h1]
    intro g hg
    rcases List.mem_or_eq_of_mem_set hg with hg | rfl
    · exact h.play g hg
    · rfl

/-- One more file, with a new name. -/
theorem AInv.file {a : AW} {p : ByteArray} {t : List UInt8} (h : AInv a) (hp : mget p a.names = none) (b : AW) (h1 : b.files = a.files ++ [⟨t, t, []⟩]) (h2 : b.names = mset p a.files.length a.names) (h3 : b.seq = a.seq) : AInv b := by
  rw [mget_none_mset hp] at h2
  refine ⟨⟨?_, ?_, ?_⟩, ?_, ?_, ?_⟩
  · rw [h1, List.flatMap_append]; simpa using h.ok.seqs
  · rw [h1, h3]
    intro g hg y hy
    rcases List.mem_append.1 hg with hg | hg
    · exact h.ok.rng g hg y hy
    · rw [List.mem_singleton.1 hg] at hy; cases hy
  · rw [h2, List.map_append, List.nodup_append]
    refine ⟨h.ok.one, by simp, fun x hx y hy e => ?_⟩
    obtain ⟨q, hq, rfl⟩ := List.mem_map.1 hx
    simp at hy
    have := h.nin q hq; omega
  · rw [h1, h2]
    intro q hq
    rcases List.mem_append.1 hq with hq | hq
    · have := h.nin q hq; simp; omega
    · rw [List.mem_singleton.1 hq]; simp
  · rw [h2, ← mget_none_mset hp]; exact mset_keys_nodup h.keys
  · rw [h1]
    intro g hg
    rcases List.mem_append.1 hg with hg | hg
    · exact h.play g hg
    · rw [List.mem_singleton.1 hg]; rfl

theorem mget_mset_ne {κ β : Type} [DecidableEq κ] {k k' : κ} {v : β} {l : List (κ × β)} (h : k' ≠ k) : mget k' (mset k v l) = mget k' l := by
  induction l with
  | nil => simp [mset, mget, Ne.symm h]
  | cons q l ih =>
    simp only [mset]
    split
    · rename_i e; subst e; simp [mget, Ne.symm h]
    · simp only [mget, ih]
theorem mget_mset_eq {κ β : Type} [DecidableEq κ] {k : κ} {v : β} {l : List (κ × β)} : mget k (mset k v l) = some v := by
  induction l with
  | nil => simp [mset, mget]
  | cons q l ih =>
    simp only [mset]
    split
    · rename_i h; simp only [mget, if_pos h]
    · rename_i h; simp only [mget, if_neg h, ih]
theorem mget_mdel_ne {κ β : Type} [DecidableEq κ] {k k' : κ} {l : List (κ × β)} (h : k' ≠ k) : mget k' (mdel k l) = mget k' l := by
  induction l with
  | nil => rfl
  | cons q l ih =>
    simp only [mdel]
    split
    · rename_i e; subst e; simp [mget, Ne.symm h]
    · simp only [mget, ih]
theorem mget_none_of {κ β : Type} [DecidableEq κ] {k : κ} {l : List (κ × β)} (h : k ∉ l.map (·.1)) : mget k l = none := by
  cases hg : mget k l with
  | none => rfl
  | some v => exact absurd (List.mem_map_of_mem (f := fun p : κ × β => p.1) (mget_mem hg)) h
theorem mget_mdel_eq {κ β : Type} [DecidableEq κ] {k : κ} {l : List (κ × β)} (hn : (l.map (·.1)).Nodup) : mget k (mdel k l) = none := by
  induction l with
  | nil => rfl
  | cons q l ih =>
    simp only [List.map_cons, List.nodup_cons] at hn
    simp only [mdel]
    split
    · rename_i e; subst e; exact mget_none_of hn.1
    · rename_i e; simp only [mget, if_neg e]; exact ih hn.2

theorem mdel_snd_sub {κ : Type} [DecidableEq κ] {k : κ} {l : List (κ × Nat)} : ((mdel k l).map (·.2)).Sublist (l.map (·.2)) := by
  induction l with
  | nil => exact .refl _
  | cons q l ih =>
    simp only [mdel]
    split
    · exact List.sublist_cons_self _ _
    · exact List.Sublist.cons_cons _ ih

theorem mset_snd_nodup {κ : Type} [DecidableEq κ] {k : κ} {j : Nat} {l : List (κ × Nat)} (hn : (l.map (·.2)).Nodup) (hj : j ∉ l.map (·.2)) : ((mset k j l).map (·.2)).Nodup := by
  induction l with
  | nil => simp [mset]
  | cons q l ih =>
    simp only [List.map_cons, List.nodup_cons, List.mem_cons, not_or] at hn hj
    simp only [mset]
    split
    · simp only [List.map_cons, List.nodup_cons]; exact ⟨hj.2, hn.2⟩
    · simp only [List.map_cons, List.nodup_cons]
      refine ⟨fun hm => ?_, ih hn.2 hj.2⟩
      obtain ⟨p, hp, he⟩ := List.mem_map.1 hm
      rcases mem_mset hp with rfl | hp
      · exact hj.1 he
      · exact hn.1 (he ▸ List.mem_map_of_mem hp)

theorem mdel_snd_not {κ : Type} [DecidableEq κ] {k : κ} {j : Nat} {l : List (κ × Nat)} (hn : (l.map (·.2)).Nodup) (hg : mget k l = some j) : j ∉ (mdel k l).map (·.2) := by
  induction l with
  | nil => cases hg
  | cons q l ih =>
    simp only [List.map_cons, List.nodup_cons] at hn
    simp only [mget] at hg
    simp only [mdel]
    split at hg
    · rename_i e; cases hg; rw [if_pos e]; exact hn.1
    · rename_i e
      rw [if_neg e]
      simp only [List.map_cons, List.mem_cons, not_or]
      have hm := List.mem_map_of_mem (f := fun p : κ × Nat => p.2) (mget_mem hg)
      exact ⟨fun h => hn.1 (h ▸ hm), ih hn.2 hg⟩

theorem AInv.delete {a : AW} {p : ByteArray} (h : AInv a) (b : AW) (h1 : b.files = a.files) (h2 : b.names = mdel p a.names) (h3 : b.seq = a.seq) : AInv b :=
  ⟨⟨by rw [h1]; exact h.ok.seqs, by rw [h1, h3]; exact h.ok.rng, by rw [h2]; exact h.ok.one.sublist mdel_snd_sub⟩, by rw [h1, h2]; exact fun q hq => h.nin q (mem_mdel hq), by rw [h2]; exact mdel_keys_nodup h.keys, by rw [h1]; exact h.play⟩

theorem AInv.rename {a : AW} {p q : ByteArray} {j : Nat} (h : AInv a) (hp : mget p a.names = some j) (b : AW) (h1 : b.files = a.files) (h2 : b.names = mset q j (mdel p a.names)) (h3 : b.seq = a.seq) : AInv b := by
  refine ⟨⟨by rw [h1]; exact h.ok.seqs, by rw [h1, h3]; exact h.ok.rng, ?_⟩, ?_, ?_, by rw [h1]; exact h.play⟩
  · rw [h2]; exact mset_snd_nodup (h.ok.one.sublist mdel_snd_sub) (mdel_snd_not h.ok.one hp)
  · rw [h1, h2]
    intro r hr
    rcases mem_mset hr with rfl | hr
    · exact h.nin (p, j) (mget_mem hp)
    · exact h.nin r (mem_mdel hr)
  · rw [h2]; exact mset_keys_nodup (mdel_keys_nodup h.keys)

theorem AInv.empty : AInv emptyA := ⟨⟨by simp [emptyA], by simp [emptyA], by simp [emptyA]⟩, by simp [emptyA], by simp [emptyA], by simp [emptyA]⟩

theorem addFs_inv {fs : List (ByteArray × ByteArray)} : ∀ {a b : AW}, AInv a → addFs a fs = some b → AInv b := by
  induction fs with
  | nil => intro a b h e; simp only [addFs, Option.some.injEq] at e; subst e; exact h
  | cons p r ih =>
    intro a b h e
    simp only [addFs] at e
    cases hp : addF a p with
    | none => rw [hp] at e; cases e
    | some c =>
      rw [hp] at e
      refine ih ?_ e
      unfold addF at hp
      split at hp
      · cases hp
      · rename_i hc
        cases hp
        have hg : mget p.1 a.names = none := by
          cases hg : mget p.1 a.names with
          | none => rfl
          | some v => simp [hg] at hc
        exact h.file hg _ rfl rfl rfl

theorem newA_inv {cs : List Ch} {fs : List (ByteArray × ByteArray)} {a : AW} (h : newA cs fs = some a) : AInv a := by
  unfold newA at h
  split at h
  · cases h
  · rename_i b hb
    split at h
    · cases h
    · cases h
      exact (addFs_inv AInv.empty hb).congr rfl rfl rfl

theorem takeA_inv {a : AW} (h : AInv a) : AInv (takeA a) := h.congr rfl rfl rfl
theorem deedA_inv {a : AW} {d : De} {F : AW → Ch → Int × De × AW} (h : AInv a) (hF : AInv (F (takeA a) (chA a)).2.2) : AInv (deedA a d F).2.2 := by
  unfold deedA
  split
  · exact hF.congr rfl rfl rfl
  · exact takeA_inv h
theorem filedM_inv {a : AW} {d : De} {f : De → AW → Int × De × AW} (h : AInv a) (hF : AInv (f d (takeA a)).2.2) : AInv (filedM d f a).2.2 := by
  refine deedA_inv h ?_
  unfold faultA
  split
  · exact takeA_inv h
  · exact hF

/-- Where a held handle's file is. -/
theorem held_getF {a : AW} {n : Int} (hin : ∀ h ∈ a.hs, ∀ i, h.file = some i → i < a.files.length) (he : heldE a.hs n false = 0) : ∃ f, a.files[(getH a n).file.getD 0]? = some f ∧ getF a n = f := by
  obtain ⟨h1, x, hx, _, hf, _⟩ := heldE_ok he
  have hg : getH a n = x := by simp only [getH, hx, Option.getD_some]
  cases hxf : x.file with
  | none => rw [hxf] at hf; cases hf
  | some j =>
    have hj := hin x (List.mem_of_getElem? hx) j hxf
    refine ⟨a.files[j], ?_, ?_⟩
    · rw [hg, hxf]; simp [hj]
    · simp [getF, hg, hxf, hj]

section
variable {a : AW} (h : AInv a)
include h
theorem seekF_inv {n t : Int} {d : De} : AInv (seekF n t d a).2.2 := by unfold seekF; (repeat' split) <;> exact h.congr rfl rfl rfl
theorem readF_inv {n t : Int} {d : De} : AInv (readF n t d a).2.2 := by unfold readF; (repeat' split) <;> exact h.congr rfl rfl rfl
theorem closeF_inv {n : Int} {d : De} : AInv (closeF n d a).2.2 := by unfold closeF; (repeat' split) <;> exact h.congr rfl rfl rfl
theorem clockF_inv {d : De} {c : Ch} : AInv (clockF d a c).2.2 := h.congr rfl rfl rfl
theorem connectF_inv {s : ByteArray} {d : De} {c : Ch} : AInv (connectF s d a c).2.2 := by unfold connectF; (repeat' split) <;> exact h.congr rfl rfl rfl
theorem sendF_inv {n : Int} {d : De} {c : Ch} : AInv (sendF n d a c).2.2 := h
theorem receiveF_inv {n m : Int} {d : De} {c : Ch} : AInv (receiveF n m d a c).2.2 := by unfold receiveF; (repeat' split) <;> exact h
theorem showF_inv {d : De} {c : Ch} : AInv (showF d a c).2.2 := h
theorem deleteF_inv {s : ByteArray} {d : De} : AInv (deleteF s d a).2.2 := by unfold deleteF; (repeat' split) <;> first | exact h | exact h.delete _ rfl rfl rfl
theorem renameF_inv {s t : ByteArray} {d : De} : AInv (renameF s t d a).2.2 := by
  unfold renameF
  split
  · exact h
  · split
    · exact h
    · rename_i j hj; exact h.rename hj _ rfl rfl rfl
theorem syncF_inv {n : Int} {d : De} (hin : ∀ h ∈ a.hs, ∀ i, h.file = some i → i < a.files.length) : AInv (syncF n d a).2.2 := by
  unfold syncF
  split
  · exact h
  · rename_i he
    obtain ⟨f, h1, h2⟩ := held_getF hin (Classical.not_not.1 he)
    rw [h2]; exact h.sync h1 _ rfl rfl rfl
theorem writeF_inv {n : Int} {s : ByteArray} {d : De} (hin : ∀ h ∈ a.hs, ∀ i, h.file = some i → i < a.files.length) (hs : 0 ≤ a.seq) : AInv (writeF n s d a).2.2 := by
  unfold writeF
  split
  · exact h
  · rename_i he
    obtain ⟨f, h1, h2⟩ := held_getF hin (Classical.not_not.1 he)
    split
    · exact h
    · split
      · exact h
      · rw [h2]; exact h.write h1 (x := ⟨a.seq + 1, writeAt a n, s, false⟩) rfl hs _ rfl rfl rfl
theorem openB_inv {j : Nat} {m : Int} {d : De} (hj : j < a.files.length) (hs : 0 ≤ a.seq) : AInv (openB j m d a).2.2 := by
  unfold openB
  dsimp only
  split
  · have h1 : a.files[j]? = some a.files[j] := by simp [hj]
    rw [h1]
    exact h.write h1 (x := ⟨a.seq + 1, 0, nilTx, true⟩) rfl hs _ rfl rfl rfl
  · exact h.congr rfl rfl rfl
theorem openF_inv {s : ByteArray} {m : Int} {d : De} (hs : 0 ≤ a.seq) : AInv (openF s m d a).2.2 := by
  unfold openF
  split
  · exact h
  · split
    · exact h
    · split
      · rename_i hg
        split
        · exact h
        · split
          · exact h
          · exact openB_inv (h.file hg (newF s a) rfl rfl rfl) (by simp [newF]) hs
      · rename_i j hg
        split
        · exact h
        · exact openB_inv h (h.nin _ (mget_mem hg)) hs
end
end Go.V
namespace Go.V
open Go

theorem one_key {κ β : Type} {l : List (κ × β)} (hk : (l.map (·.1)).Nodup) {p q : κ × β} (hp : p ∈ l) (hq : q ∈ l) (e : p.1 = q.1) : p = q := by
  induction l with
  | nil => cases hp
  | cons x r ih =>
    simp only [List.map_cons, List.nodup_cons] at hk
    rcases List.mem_cons.1 hp with rfl | hp'
    · rcases List.mem_cons.1 hq with rfl | hq'
      · rfl
      · exact absurd (List.mem_map.2 ⟨q, hq', e.symm⟩) hk.1
    · rcases List.mem_cons.1 hq with rfl | hq'
      · exact absurd (List.mem_map.2 ⟨p, hp', e⟩) hk.1
      · exact ih hk.2 hp' hq'

theorem LeftR.keys {a a' : AW} {which : Int} {cs : List Ch} (h : LeftR a which cs a') : (a'.names.map (·.1)).Perm (a.names.map (·.1)) := by
  obtain ⟨ord, ys, h1, _, rfl⟩ := h
  rw [leftC_names]
  exact h1.map _

/-- What a file has behind it. -/
theorem LeftR.now {a a' : AW} {which : Int} {cs : List Ch} (h : LeftR a which cs a') (hk : (a.names.map (·.1)).Nodup) :
    ∃ ys, SortedOf ltI (seqsOf a a.names) ys ∧ ∀ n j, mget n a.names = some j → nowOf a' n = recF (keptT which ys ys.length) (fileAt a j) := by
  obtain ⟨ord, ys, h1, h2, rfl⟩ := h
  refine ⟨ys, h2, fun n j hj => ?_⟩
  have hm : (n, j) ∈ ord := h1.mem_iff.2 (mget_mem hj)
  have hko : (ord.map (·.1)).Nodup := ((h1.map _).nodup_iff).2 hk
  have hin : n ∈ (leftC a (keptT which ys ys.length) (cs.take 65536) ord).names.map (·.1) := by
    rw [leftC_names]; exact List.mem_map.2 ⟨_, hm, rfl⟩
  obtain ⟨k, hg⟩ := mget_some_of hin
  have hgm := mget_mem hg
  simp only [leftC, List.mem_map] at hgm
  obtain ⟨⟨q, i⟩, hq, hqe⟩ := hgm
  simp only [Prod.mk.injEq] at hqe
  obtain ⟨rfl, rfl⟩ := hqe
  rw [List.mem_zipIdx_iff_getElem?] at hq
  simp only at hq
  have hqm := List.mem_of_getElem? hq
  have hqe : q = (q.1, j) := one_key hko hqm hm rfl
  rw [hqe] at hq
  unfold nowOf
  rw [hg]
  simp [leftC, hq]

theorem LeftR.rest {a a' : AW} {which : Int} {cs : List Ch} (h : LeftR a which cs a') : a'.choices = cs.take 65536 ∧ a'.hs = [] ∧ a'.trace = [] ∧ a'.seq = 0 ∧ a'.dead = false ∧ a'.clock = a.clock := by
  obtain ⟨ord, ys, h1, h2, rfl⟩ := h
  exact ⟨rfl, rfl, rfl, rfl, rfl, rfl⟩

theorem LeftR.synced {a a' : AW} {which : Int} {cs : List Ch} (h : LeftR a which cs a') : ∀ f ∈ a'.files, f.writes = [] ∧ f.base = f.now := by
  obtain ⟨ord, ys, h1, h2, rfl⟩ := h
  intro f hf
  simp only [leftC, List.mem_map] at hf
  obtain ⟨p, _, rfl⟩ := hf
  exact ⟨rfl, rfl⟩

theorem LeftR.inv {a a' : AW} {which : Int} {cs : List Ch} (h : LeftR a which cs a') (hk : (a.names.map (·.1)).Nodup) : AInv a' := by
  have hs := h.synced
  have hko := (h.keys.nodup_iff).2 hk
  obtain ⟨ord, ys, h1, h2, rfl⟩ := h
  refine ⟨⟨?_, ?_, ?_⟩, ?_, hko, ?_⟩
  · have : ((leftC a (keptT which ys ys.length) (cs.take 65536) ord).files.flatMap fun f => f.writes.map (·.seq)) = [] := by
      rw [List.flatMap_eq_nil_iff]; intro f hf; rw [(hs f hf).1]; rfl
    rw [this]; exact .nil
  · intro f hf x hx; rw [(hs f hf).1] at hx; cases hx
  · simp only [leftC, List.map_map]
    have : ∀ (C : List (ByteArray × Nat)) (k : Nat), (C.zipIdx k).map ((fun x : ByteArray × Nat => x.2) ∘ fun p : (ByteArray × Nat) × Nat => (p.1.1, p.2)) = List.range' k C.length := by
      intro C
      induction C with
      | nil => intro k; rfl
      | cons x C ih => intro k; simp only [List.zipIdx_cons, List.map_cons, Function.comp, List.length_cons, List.range'_succ, ih (k + 1)]
    rw [this]; exact List.nodup_range'
  · intro p hp
    simp only [leftC, List.mem_map] at hp
    obtain ⟨⟨q, i⟩, hq, rfl⟩ := hp
    rw [List.mem_zipIdx_iff_getElem?] at hq
    have := (List.getElem?_eq_some_iff.1 hq).1
    simpa [leftC] using this
  · intro f hf; rw [(hs f hf).1, (hs f hf).2]; rfl

theorem recF_synced {m : List (Int × Bool)} {f : AF} (h : f.writes = []) : recF m f = f.base := by simp [recF, h]

/-! A world without choices -/
def Calm (a : AW) : Prop := a.choices = [] ∧ a.dead = false
theorem Calm.live {a : AW} (h : Calm a) : liveA a = true := by simp [liveA, chA, h.1, h.2, noCh]
theorem Calm.take {a : AW} (h : Calm a) : takeA a = a := by
  have h1 := h.live
  obtain ⟨c, n, f, hs, tr, cl, sq, d⟩ := a
  obtain ⟨hc, hd⟩ := h
  simp only at hc hd
  subst hc hd
  simp [takeA, h1]
theorem Calm.ch {a : AW} (h : Calm a) : chA a = noCh := by simp [chA, h.1, h.2]

theorem Calm.filed {a : AW} {d : De} {f : De → AW → Int × De × AW} (h : Calm a) :
    filedM d f a = (if (f d a).1 = 0 then (f d a).2.1 else { d with err := (f d a).1 }, (if (f d a).1 = 0 then (f d a).2.1 else { d with err := (f d a).1 }).err,
      { (f d a).2.2 with trace := (f d a).2.2.trace ++ [if (f d a).1 = 0 then (f d a).2.1 else { d with err := (f d a).1 }] }) := by
  have hfa : faultA d (f d) a (chA a) = f d a := by unfold faultA; rw [if_neg (by rw [h.ch]; simp [noCh])]
  simp only [filedM, deedA, h.live, if_true, h.take, hfa]

/-- An opening that was done. -/
theorem openF_ok {p : ByteArray} {m : Int} {d : De} {a : AW} (h : (openF p m d a).1 = 0) :
    nameB p = true ∧ ∃ b j, (b = a ∨ (mget p a.names = none ∧ b = newF p a)) ∧ mget p b.names = some j ∧ openF p m d a = openB j m d b := by
  unfold openF at h ⊢
  cases hn : nameB p with
  | false => simp [hn] at h
  | true =>
    simp only [hn, Bool.not_true, Bool.false_eq_true, if_false] at h ⊢
    refine ⟨trivial, ?_⟩
    split at h
    · cases h
    · rename_i hm
      rw [if_neg hm]
      cases hg : mget p a.names with
      | none =>
        simp only [hg] at h ⊢
        split at h
        · cases h
        · rename_i h1
          rw [if_neg h1]
          split at h
          · cases h
          · rename_i h2
            rw [if_neg h2]
            exact ⟨newF p a, a.files.length, .inr ⟨trivial, rfl⟩, by simp only [newF, mget_mset_eq], rfl⟩
      | some j =>
        simp only [hg] at h ⊢
        split at h
        · cases h
        · rename_i h1
          rw [if_neg h1]
          exact ⟨a, j, .inl rfl, hg, rfl⟩

theorem open_handle {p : ByteArray} {m : Int} {a : AW} (h : (openM p m a).2.1 ≠ 0) : (openM p m a).1.handle = 0 := by
  unfold openM filedM deedA at h ⊢
  split
  · rename_i hl
    rw [if_pos hl] at h
    simp only at h ⊢
    split
    · rename_i h0
      rw [if_pos h0] at h
      exfalso
      unfold faultA at h0 h
      split at h0
      · rename_i hf; exact hf.2 h0
      · rename_i hf
        rw [if_neg hf] at h
        obtain ⟨_, b, j, _, _, he⟩ := openF_ok h0
        rw [he] at h
        exact h rfl
    · rfl
  · rfl

section
variable {a : AW} {j : Nat} {at_ : Int} {f : AF} {d : De} {s : ByteArray}
theorem wr1 (hh : a.hs = [⟨0, false, false, some j, 2, at_⟩]) (hf : a.files[j]? = some f) :
    writeF 1 s d a = if 4194304 - at_ < s.size then (34, d, a) else (0, d, { a with seq := a.seq + 1, files := a.files.set j (doesA f ⟨a.seq + 1, at_, s, false⟩), hs := [⟨0, false, false, some j, 2, at_ + s.size⟩] }) := by
  have h1 : heldE a.hs 1 false = 0 := by rw [hh]; rfl
  have h1' : heldE [(⟨0, false, false, some j, 2, at_⟩ : HO)] 1 false = 0 := rfl
  have h2 : getH a 1 = ⟨0, false, false, some j, 2, at_⟩ := by simp [getH, hh]
  have h3 : getF a 1 = f := by simp [getF, h2, hf]
  simp [writeF, h1', h2, h3, writeAt, putH, putF, hh]
theorem sy1 (hh : a.hs = [⟨0, false, false, some j, 2, at_⟩]) (hf : a.files[j]? = some f) : syncF 1 d a = (0, d, { a with files := a.files.set j ⟨f.now, f.now, []⟩ }) := by
  have h1 : heldE a.hs 1 false = 0 := by rw [hh]; rfl
  have h1' : heldE [(⟨0, false, false, some j, 2, at_⟩ : HO)] 1 false = 0 := rfl
  have h2 : getH a 1 = ⟨0, false, false, some j, 2, at_⟩ := by simp [getH, hh]
  have h3 : getF a 1 = f := by simp [getF, h2, hf]
  simp [syncF, h1, h2, h3, putF]
theorem cl1 (hh : a.hs = [⟨0, false, false, some j, 2, at_⟩]) : closeF 1 d a = (0, d, { a with hs := [⟨0, true, false, some j, 2, at_⟩] }) := by
  have h1 : anyE [(⟨0, false, false, some j, 2, at_⟩ : HO)] 1 = 0 := rfl
  have h2 : getH a 1 = ⟨0, false, false, some j, 2, at_⟩ := by simp [getH, hh]
  simp [closeF, h1, h2, putH, hh]
end

theorem onL_fresh {q : Int} {s : ByteArray} : onL ⟨q, 0, s, false⟩ [] = txL s := by
  simp [onL, txL]

/-- A file written, synced, renamed. -/
theorem synced_law {a0 : AW} (hinv : AInv a0) (hc : Calm a0) (hhs : a0.hs = []) (from_ to : ByteArray) (text : ByteArray) (h1 : (openM from_ 2 a0).2.1 = 0) :
    (openM from_ 2 a0).1.handle = 1 ∧ ((writeM 1 text (openM from_ 2 a0).2.2).2.1 = 0 ∨ (writeM 1 text (openM from_ 2 a0).2.2).2.1 = 34) ∧
    ((writeM 1 text (openM from_ 2 a0).2.2).2.1 = 0 → ∀ a2 a3 a4, a2 = (writeM 1 text (openM from_ 2 a0).2.2).2.2 → a3 = (syncM 1 a2).2.2 → a4 = (closeM 1 a3).2.2 →
      (syncM 1 a2).2.1 = 0 ∧ (closeM 1 a3).2.1 = 0 ∧ ((renameM from_ to a4).2.1 = 35 ∨ ((renameM from_ to a4).2.1 = 0 ∧ ∀ a5, a5 = (renameM from_ to a4).2.2 →
        (∃ j, mget to a5.names = some j ∧ fileAt a5 j = ⟨txL text, txL text, []⟩) ∧ (from_ ≠ to → mget from_ a5.names = none)))) := by
  have hop : openM from_ 2 a0 = _ := hc.filed (d := deOpen from_ 2) (f := openF from_ 2)
  have hz : (openF from_ 2 (deOpen from_ 2) a0).1 = 0 := by
    rw [hop] at h1
    simp only at h1
    split at h1
    · assumption
    · exact h1
  obtain ⟨hn, b, j, hb, hj, he⟩ := openF_ok hz
  have hbinv : AInv b := by
    rcases hb with rfl | ⟨hg, rfl⟩
    · exact hinv
    · exact hinv.file hg _ rfl rfl rfl
  have hbhs : b.hs = [] := by rcases hb with rfl | ⟨hg, rfl⟩ <;> exact hhs
  have hbc : b.choices = [] ∧ b.dead = false := by rcases hb with rfl | ⟨hg, rfl⟩ <;> exact hc
  have hjl := hbinv.nin _ (mget_mem hj)
  simp only at hjl
  have hfj : b.files[j]? = some b.files[j] := by simp [hjl]
  -- the world behind the opening
  obtain ⟨x, hx⟩ : ∃ x : Wr, x = ⟨b.seq + 1, 0, nilTx, true⟩ := ⟨_, rfl⟩
  obtain ⟨a1, ha1⟩ : ∃ a1, a1 = (openM from_ 2 a0).2.2 := ⟨_, rfl⟩
  have h1a : a1.hs = [⟨0, false, false, some j, 2, 0⟩] ∧ a1.files = b.files.set j (doesA b.files[j] x) ∧ a1.names = b.names ∧ a1.choices = [] ∧ a1.dead = false ∧ (openM from_ 2 a0).1.handle = 1 := by
    rw [ha1, hop, he]
    simp [openB, hbhs, hfj, hx, hbc, deOpen]
  obtain ⟨g1, g2, g3, g4, g5, g6⟩ := h1a
  have hf1 : a1.files[j]? = some (doesA b.files[j] x) := by rw [g2]; simp [hjl]
  have hnow1 : (doesA b.files[j] x).now = [] := by rw [hx]; rfl
  have hc1 : Calm a1 := ⟨g4, g5⟩
  rw [← ha1]
  have hwr : writeM 1 text a1 = _ := hc1.filed (d := deWrite 1 text) (f := writeF 1 text)
  have hw1 := wr1 (d := deWrite 1 text) (s := text) g1 hf1
  refine ⟨g6, ?_, ?_⟩
  · rw [hwr, hw1]
    split
    · right; simp
    · left; simp [deWrite]
  intro hw0 a2 a3 a4 e2 e3 e4
  have hsm : ¬ (4194304 - (0 : Int) < text.size) := by
    intro hbad
    rw [hwr, hw1, if_pos hbad] at hw0
    simp at hw0
  rw [if_neg hsm] at hw1
  have h2a : a2.hs = [⟨0, false, false, some j, 2, 0 + text.size⟩] ∧ a2.files = a1.files.set j (doesA (doesA b.files[j] x) ⟨a1.seq + 1, 0, text, false⟩) ∧ a2.names = a1.names ∧ a2.choices = [] ∧ a2.dead = false := by
    rw [e2, hwr, hw1]
    simp [g4, g5]
  obtain ⟨k1, k2, k3, k4, k5⟩ := h2a
  have hf2 : a2.files[j]? = some (doesA (doesA b.files[j] x) ⟨a1.seq + 1, 0, text, false⟩) := by rw [k2, g2]; simp [hjl]
  have hnow2 : (doesA (doesA b.files[j] x) ⟨a1.seq + 1, 0, text, false⟩).now = txL text := by
    have e : (doesA (doesA b.files[j] x) ⟨a1.seq + 1, 0, text, false⟩).now = onL ⟨a1.seq + 1, 0, text, false⟩ (doesA b.files[j] x).now := by simp only [doesA]
    rw [e, hnow1]; exact onL_fresh
  have hc2 : Calm a2 := ⟨k4, k5⟩
  have hsy : syncM 1 a2 = _ := hc2.filed (d := deSync 1) (f := syncF 1)
  have hs1 := sy1 (d := deSync 1) k1 hf2
  rw [hnow2] at hs1
  have h3a : a3.hs = a2.hs ∧ a3.files = a2.files.set j ⟨txL text, txL text, []⟩ ∧ a3.names = a2.names ∧ a3.choices = [] ∧ a3.dead = false := by
    rw [e3, hsy, hs1]; simp [k4, k5]
  obtain ⟨l1, l2, l3, l4, l5⟩ := h3a
  have hc3 : Calm a3 := ⟨l4, l5⟩
  have hcl : closeM 1 a3 = _ := hc3.filed (d := deClose 1) (f := closeF 1)
  have hcl1 := cl1 (d := deClose 1) (l1.trans k1)
  have h4a : a4.files = a3.files ∧ a4.names = a3.names ∧ a4.choices = [] ∧ a4.dead = false := by
    rw [e4, hcl, hcl1]; simp [l4, l5]
  obtain ⟨m1, m2, m3, m4⟩ := h4a
  refine ⟨by rw [hsy, hs1]; simp [deSync], by rw [hcl, hcl1]; simp [deClose], ?_⟩
  have hnames : a4.names = b.names := by rw [m2, l3, k3, g3]
  have hc4 : Calm a4 := ⟨m3, m4⟩
  have hre : renameM from_ to a4 = _ := hc4.filed (d := deRename from_ to) (f := renameF from_ to)
  cases hnt : nameB to with
  | false =>
    left
    have : renameF from_ to (deRename from_ to) a4 = (35, deRename from_ to, a4) := by simp [renameF, hnt]
    rw [hre, this]; simp
  | true =>
    right
    have : renameF from_ to (deRename from_ to) a4 = (0, deRename from_ to, { a4 with names := mset to j (mdel from_ a4.names) }) := by
      have hg4 : mget from_ a4.names = some j := by rw [hnames]; exact hj
      simp [renameF, hn, hnt, hg4]
    refine ⟨by rw [hre, this]; simp [deRename], fun a5 e5 => ?_⟩
    have h5 : a5.names = mset to j (mdel from_ b.names) ∧ a5.files = a4.files := by rw [e5, hre, this]; simp [hnames]
    rw [h5.1]
    refine ⟨⟨j, mget_mset_eq, ?_⟩, fun hne => ?_⟩
    · simp only [fileAt, h5.2, m1, l2, k2, g2]
      simp [hjl]
    · rw [mget_mset_ne hne]; exact mget_mdel_eq hbinv.keys
end Go.V
namespace Go.V
open Go
theorem ftxt_txL (s : ByteArray) : ftxt (txL s) = s := by
  apply ByteArray.ext; simp [ftxt, txL]

/-- What is found behind a crash of a file that was synced. -/
theorem synced_left {a5 a' : AW} {which : Int} {cs : List Ch} (h : LeftR a5 which cs a') (hk : (a5.names.map (·.1)).Nodup) {to text : ByteArray} {j : Nat} (hj : mget to a5.names = some j) (hf : fileAt a5 j = ⟨txL text, txL text, []⟩) : fileOf a' to = (to, text) := by
  obtain ⟨ys, _, h2⟩ := h.now hk
  simp only [fileOf, h2 to j hj, hf, recF_synced (f := ⟨txL text, txL text, []⟩) rfl, ftxt_txL]

theorem newA_calm {fs : List (ByteArray × ByteArray)} {a : AW} (h : newA [] fs = some a) : Calm a ∧ a.hs = [] ∧ a.seq = 0 := by
  have key : ∀ {fs : List (ByteArray × ByteArray)} {a b : AW}, addFs a fs = some b → b.hs = a.hs ∧ b.dead = a.dead ∧ b.seq = a.seq := by
    intro fs
    induction fs with
    | nil => intro a b e; simp only [addFs, Option.some.injEq] at e; subst e; exact ⟨rfl, rfl, rfl⟩
    | cons p r ih =>
      intro a b e
      simp only [addFs] at e
      cases hp : addF a p with
      | none => rw [hp] at e; cases e
      | some c =>
        rw [hp] at e
        obtain ⟨h1, h2, h3⟩ := ih e
        unfold addF at hp
        split at hp
        · cases hp
        · cases hp; exact ⟨h1, h2, h3⟩
  unfold newA at h
  split at h
  · cases h
  · rename_i b hb
    split at h
    · cases h
    · cases h
      obtain ⟨h1, h2, h3⟩ := key hb
      exact ⟨⟨rfl, h2⟩, h1, h3⟩

/-- How often a name is among others. -/
def cntN (to : ByteArray) (l : List ByteArray) : Nat := (l.filter fun n => decide (n = to)).length
theorem cntN_snoc {to n : ByteArray} {l : List ByteArray} {k : Nat} (h : l[k]? = some n) : cntN to (l.take (k + 1)) = cntN to (l.take k) + if n = to then 1 else 0 := by
  unfold cntN
  rw [List.take_add_one, h, Option.toList_some, List.filter_append, List.length_append]
  congr 1
  by_cases e : n = to <;> simp [e]
theorem cntN_le {to : ByteArray} {l : List ByteArray} : cntN to l ≤ l.length := List.length_filter_le _ _
theorem cntN_one {to : ByteArray} {l : List ByteArray} (hn : l.Nodup) (hm : to ∈ l) : cntN to l = 1 := by
  unfold cntN
  induction l with
  | nil => cases hm
  | cons x l ih =>
    have hp := List.nodup_cons.1 hn
    by_cases e : x = to
    · subst e
      have : l.filter (fun n => decide (n = x)) = [] := by
        rw [List.filter_eq_nil_iff]; intro y hy; simp; rintro rfl; exact hp.1 hy
      simp [this]
    · rcases List.mem_cons.1 hm with rfl | hm
      · exact absurd rfl e
      · simp [e, ih hp.2 hm]
end Go.V

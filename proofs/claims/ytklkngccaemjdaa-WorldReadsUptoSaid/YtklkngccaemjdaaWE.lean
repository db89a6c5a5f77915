/-
  What is written is read back: the law in terms of lists.
-/
import Derived.Test.YtklkngccaemjdaaWC
namespace Go.V
open Go

theorem onL_in {x : Wr} {l : List UInt8} {at_ : Nat} (he : x.empty = false) (ha : x.at_ = at_) (h : at_ ≤ l.length) : onL x l = l.take at_ ++ x.text.data.toList ++ l.drop (at_ + x.text.size) := by
  have h1 : x.at_.toNat = at_ := by omega
  simp only [onL, he, h1, Bool.false_eq_true, ↓reduceIte]
  rw [List.take_append_of_le_length h]
  congr 1
  by_cases hl : at_ + x.text.size ≤ l.length
  · rw [show at_ + x.text.size - l.length = 0 by omega]; simp
  · rw [List.drop_append, List.drop_eq_nil_of_le (by omega : l.length ≤ at_ + x.text.size)]
    simp

theorem filedM_ok {d d' : De} {f : De → AW → Int × De × AW} {a a2 : AW} (hl : liveA a = true) (hk : (chA a).kind ≠ 4) (hF : f d (takeA a) = (0, d', a2)) : filedM d f a = (d', d'.err, { a2 with trace := a2.trace ++ [d'] }) := by
  have hfa : faultA d (f d) (takeA a) (chA a) = (0, d', a2) := by
    unfold faultA; rw [if_neg (fun h => hk h.1), hF]
  simp only [filedM, deedA, hl, if_true, hfa]

/-- A world of one file, opened for writing. -/
def oneA (n : ByteArray) (l b : List UInt8) (ws : List Wr) (at_ : Int) (tr : List De) (cl sq : Int) : AW := ⟨[], [(n, 0)], [⟨l, b, ws⟩], [⟨0, false, false, some 0, 2, at_⟩], tr, cl, sq, false⟩

theorem one_seek {n : ByteArray} {l b : List UInt8} {ws : List Wr} {at0 at_ : Int} {tr : List De} {cl sq : Int} (h : 0 ≤ at_ ∧ at_ ≤ l.length) :
    (seekM 1 at_ (oneA n l b ws at0 tr cl sq)).2.1 = 0 ∧ (seekM 1 at_ (oneA n l b ws at0 tr cl sq)).2.2 = oneA n l b ws at_ (tr ++ [deSeek 1 at_]) cl sq := by
  have hF : seekF 1 at_ (deSeek 1 at_) (oneA n l b ws at0 tr cl sq) = (0, deSeek 1 at_, oneA n l b ws at_ tr cl sq) := by
    simp [seekF, oneA, heldE, getF, getH, putH, h]
  have hE := filedM_ok (a := oneA n l b ws at0 tr cl sq) rfl (by show (0 : Int) ≠ 4; decide) hF
  simp only [seekM]
  rw [hE]
  exact ⟨rfl, rfl⟩

theorem one_write {n : ByteArray} {l b : List UInt8} {ws : List Wr} {at_ : Nat} {tr : List De} {cl sq : Int} {s : ByteArray} (h : at_ ≤ l.length) (hs : at_ + s.size ≤ 4194304) :
    (writeM 1 s (oneA n l b ws at_ tr cl sq)).2.1 = 0 ∧ ∃ ws' tr', (writeM 1 s (oneA n l b ws at_ tr cl sq)).2.2 = oneA n (l.take at_ ++ s.data.toList ++ l.drop (at_ + s.size)) b ws' ((at_ : Int) + s.size) tr' cl (sq + 1) := by
  have hon := onL_in (x := ⟨sq + 1, at_, s, false⟩) (l := l) (at_ := at_) rfl rfl h
  have hF : writeF 1 s (deWrite 1 s) (oneA n l b ws at_ tr cl sq) = (0, deWrite 1 s, oneA n (l.take at_ ++ s.data.toList ++ l.drop (at_ + s.size)) b (ws ++ [⟨sq + 1, at_, s, false⟩]) ((at_ : Int) + s.size) tr cl (sq + 1)) := by
    have hb : ¬ (4194304 - (at_ : Int) < s.size) := by omega
    simp [writeF, oneA, heldE, writeAt, getF, getH, putH, putF, doesA, hon, hb]
  have hE := filedM_ok (a := oneA n l b ws at_ tr cl sq) rfl (by show (0 : Int) ≠ 4; decide) hF
  simp only [writeM]
  rw [hE]
  exact ⟨rfl, _, _, rfl⟩

/-- The same, opened once more for reading. -/
def twoA (n : ByteArray) (l b : List UInt8) (ws : List Wr) (at1 at_ : Int) (tr : List De) (cl sq : Int) : AW := ⟨[], [(n, 0)], [⟨l, b, ws⟩], [⟨0, false, false, some 0, 2, at1⟩, ⟨0, false, false, some 0, 1, at_⟩], tr, cl, sq, false⟩

theorem one_open {n : ByteArray} {l b : List UInt8} {ws : List Wr} {at0 : Int} {tr : List De} {cl sq : Int} (hn : nameB n = true) :
    (openM n 1 (oneA n l b ws at0 tr cl sq)).2.1 = 0 ∧ (openM n 1 (oneA n l b ws at0 tr cl sq)).1.handle = 2 ∧ ∃ tr', (openM n 1 (oneA n l b ws at0 tr cl sq)).2.2 = twoA n l b ws at0 0 tr' cl sq := by
  have hF : openF n 1 (deOpen n 1) (oneA n l b ws at0 tr cl sq) = (0, { deOpen n 1 with handle := 2 }, twoA n l b ws at0 0 tr cl sq) := by
    have hu : usedN [(⟨0, false, false, some 0, 2, at0⟩ : HO)] = 1 := rfl
    simp [openF, hn, oneA, twoA, mget, hu, openB]
  have hE := filedM_ok (a := oneA n l b ws at0 tr cl sq) rfl (by show (0 : Int) ≠ 4; decide) hF
  simp only [openM]
  rw [hE]
  exact ⟨rfl, rfl, _, rfl⟩

theorem two_size {n : ByteArray} {l b : List UInt8} {ws : List Wr} {at1 at_ : Int} {tr : List De} {cl sq : Int} : sizeM 2 (twoA n l b ws at1 at_ tr cl sq) = ((l.length : Int), 0) := by
  simp [sizeM, twoA, heldE, getF, getH]

theorem two_read {n : ByteArray} {l b : List UInt8} {ws : List Wr} {at1 : Int} {at_ many : Nat} {tr : List De} {cl sq : Int} (h : at_ ≤ l.length) :
    (readM 2 many (twoA n l b ws at1 at_ tr cl sq)).2.1 = 0 ∧ (readM 2 many (twoA n l b ws at1 at_ tr cl sq)).1.text = ftxt ((l.drop at_).take many) ∧
      ∃ tr', (readM 2 many (twoA n l b ws at1 at_ tr cl sq)).2.2 = twoA n l b ws at1 ((at_ + min many (l.length - at_) : Nat) : Int) tr' cl sq := by
  have hmin : min at_ l.length = at_ := by omega
  have hF : readF 2 many (deRead 2 many) (twoA n l b ws at1 at_ tr cl sq) = (0, { deRead 2 many with text := ftxt ((l.drop at_).take many) }, twoA n l b ws at1 ((at_ + min many (l.length - at_) : Nat) : Int) tr cl sq) := by
    have hneg : ¬ ((many : Int) < 0) := by omega
    simp [readF, twoA, heldE, getF, getH, putH, hneg, hmin]
  have hE := filedM_ok (a := twoA n l b ws at1 at_ tr cl sq) rfl (by show (0 : Int) ≠ 4; decide) hF
  simp only [readM]
  rw [hE]
  exact ⟨rfl, rfl, _, rfl⟩

theorem new_empty : newA [] [] = some emptyA := rfl
theorem empty_open {n : ByteArray} (hn : nameB n = true) : (openM n 2 emptyA).2.1 = 0 ∧ (openM n 2 emptyA).1.handle = 1 ∧ ∃ ws tr, (openM n 2 emptyA).2.2 = oneA n [] [] ws 0 tr 0 1 := by
  have hF : openF n 2 (deOpen n 2) emptyA = (0, { deOpen n 2 with handle := 1 }, oneA n [] [] [⟨1, 0, nilTx, true⟩] 0 [] 0 1) := by
    have hu : usedN ([] : List HO) = 0 := rfl
    simp [openF, hn, emptyA, oneA, mget, hu, openB, newF, mset, doesA, onL]
  have hE := filedM_ok (a := emptyA) rfl (by show (0 : Int) ≠ 4; decide) hF
  simp only [openM]
  rw [hE]
  exact ⟨rfl, rfl, _, _, rfl⟩

theorem ftxt_append (l m : List UInt8) : ftxt l ++ ftxt m = ftxt (l ++ m) := by
  apply ByteArray.ext
  simp [ftxt, ByteArray.data_append]
end Go.V
namespace Go.V
open Go
section
variable {P : Program} {n : Nat} {rs : List RO} {Γ : Env} {H : SH} {Z : List PanicEntry → Env → SH → Prop} {K : Env → SH → Prop} {d : Option Nat}
theorem st_cat {x y : Operand} {a b : ByteArray} (hx : ev Γ x = some (.string a)) (hy : ev Γ y = some (.string b)) (hb : a.size + b.size ≤ 9223372036854775807) (h : VO P n rs (putE d (.string (a ++ b)) Γ) H Z K) : VO P n (⟨d, none, .bin .add x y⟩ :: rs) Γ H Z K :=
  VO.pure rfl (fun ρ hρ => by simp only [pureV, hρ _ _ hx, hρ _ _ hy, binV, strV, hb, if_true]) h
end
theorem ftxt_size (l : List UInt8) : (ftxt l).size = l.length := by simp [ftxt, ByteArray.size]
end Go.V
namespace Go.V
open Go
/-- A thing of a list that is read, of one cell. -/
theorem RdRow.cell {A : List Atom} {v : Value} {α : Type} {f : α → Value} {l : List α} (h : RdRow 1 A v l.length (l.map f)) {i : Nat} {x : α} (hx : l[i]? = some x) :
    ∃ b o c, v = .slice (some ⟨b, o, none⟩) l.length c ∧ Atom.cell b (o + i) (f x) ∈ A := by
  have hi := (List.getElem?_eq_some_iff.1 hx).1
  rcases h with ⟨_, h2, _⟩ | ⟨b, o, c, h1, h2, h3, h4⟩
  · omega
  · exact ⟨b, o, c, h1, h4 _ (mem_cellsAt.2 ⟨i, f x, by simp [hx], rfl⟩)⟩

section
variable {P : Program} {n : Nat} {rs : List RO} {Γ : Env} {H : SH} {Z : List PanicEntry → Env → SH → Prop} {K : Env → SH → Prop} {d : Option Nat}
theorem st_setSl {x y : Operand} {v : Value} {b o c k m : Nat} {xs sp : List Value} {R : SH} (hx : ev Γ x = some (.pointer (some ⟨b, o + m, none⟩))) (hy : ev Γ y = some v) (hv : v.cells.toList = [v]) (hone : oneCell v = true)
    (ht : Tk H (slA (.slice (some ⟨b, o, none⟩) k c) xs sp) R) (hm : m < xs.length) (h : VO P n rs (putE d undef Γ) (slA (.slice (some ⟨b, o, none⟩) k c) (xs.set m v) sp :: R) Z K) : VO P n (⟨d, none, .store 1 x y⟩ :: rs) Γ H Z K := by
  refine VO.perm (H' := slA (.slice (some ⟨b, o, none⟩) k c) xs sp :: R) (by rw [List.flatten_cons]; exact ht.perm) ?_
  refine st_store' (us := [v]) hx hy hv rfl (by simp [hone]) (Upd.cells (ws := xs.set m v ++ sp) (by omega) (by simp; omega) ?_) h
  have h1 : o + m - o = m := by omega
  rw [h1, List.set_eq_take_append_cons_drop, if_pos hm]
  simp only [List.length_cons, List.length_nil, Nat.zero_add]
  rw [List.take_append_of_le_length (by omega), List.drop_append_of_le_length (by omega)]
  simp
end

/-- What is wanted, so far. -/
def wantL (l : List UInt8) (at_ : Nat) (s : List UInt8) (j : Nat) : List UInt8 := l.take at_ ++ s.take j ++ l.drop (at_ + j)
theorem wantL_len {l s : List UInt8} {at_ j : Nat} (h : at_ ≤ l.length) (hj : j ≤ s.length) : (wantL l at_ s j).length = max l.length (at_ + j) := by
  simp only [wantL, List.length_append, List.length_take, List.length_drop]; omega
theorem wantL_zero {l s : List UInt8} {at_ : Nat} : wantL l at_ s 0 = l := by simp [wantL]
theorem wantL_in {l s : List UInt8} {at_ j : Nat} {c : UInt8} (h : at_ + j < l.length) (hc : s[j]? = some c) : wantL l at_ s (j + 1) = (wantL l at_ s j).set (at_ + j) c := by
  have hj := (List.getElem?_eq_some_iff.1 hc).1
  have h1 : (l.take at_ ++ s.take j).length = at_ + j := by simp; omega
  have hd : l.drop (at_ + j) = l[at_ + j] :: l.drop (at_ + j + 1) := List.drop_eq_getElem_cons h
  simp only [wantL]
  rw [hd, List.set_append_right _ _ (by omega), h1, Nat.sub_self, List.set_cons_zero, List.take_add_one, hc]
  simp [Nat.add_assoc]
theorem wantL_out {l s : List UInt8} {at_ j : Nat} {c : UInt8} (h : l.length ≤ at_ + j) (hc : s[j]? = some c) : wantL l at_ s (j + 1) = wantL l at_ s j ++ [c] := by
  simp only [wantL]
  rw [List.drop_eq_nil_of_le h, List.drop_eq_nil_of_le (by omega), List.take_add_one, hc]
  simp
end Go.V

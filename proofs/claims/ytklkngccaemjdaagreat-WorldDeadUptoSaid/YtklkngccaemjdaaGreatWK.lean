/-
  What is written is read back: the law in terms of lists.
-/
import Derived.Test.YtklkngccaemjdaaGreatWC
set_option linter.unusedSimpArgs false
set_option linter.unusedVariables false
namespace Go.V
open Go

theorem onL_in {x : Wr} {l : List UInt8} {at_ : Nat} (he : x.empty = false) (ha : x.at_ = at_) (h : at_ ≤ l.length) : onL x l = l.take at_ ++ x.text.data.toList ++ l.drop (at_ + x.text.size) := by
  have h1 : x.at_.toNat = at_ := by omega
  simp only [onL, he, h1, Bool.false_eq_true, ↓reduceIte]
  rw [List.take_append_of_le_length h]
  congr 1
  by_cases hl : at_ + x.text.size ≤ l.length
  · rw [show at_ + x.text.size - l.length = 0 by omega]; simp
  · rw [List.drop_append, List.drop_eq_nil_of_le (by omega : l.length ≤ at_ + x.text.size)]
    simp

theorem filedM_ok {d d' : De} {f : De → AW → Int × De × AW} {a a2 : AW} (hl : liveA a = true) (hk : (chA a).kind ≠ 4) (hF : f d (takeA a) = (0, d', a2)) : filedM d f a = (d', d'.err, { a2 with trace := a2.trace ++ [d'] }) := by
  have hfa : faultA d (f d) (takeA a) (chA a) = (0, d', a2) := by
    unfold faultA; rw [if_neg (fun h => hk h.1), hF]
  simp only [filedM, deedA, hl, if_true, hfa]

/-- A world of one file, opened for writing. -/
def oneA (n : ByteArray) (l b : List UInt8) (ws : List Wr) (at_ : Int) (tr : List De) (cl sq : Int) : AW := ⟨[], [(n, 0)], [⟨l, b, ws⟩], [⟨0, false, false, some 0, 2, at_⟩], tr, cl, sq, false⟩

theorem one_seek {n : ByteArray} {l b : List UInt8} {ws : List Wr} {at0 at_ : Int} {tr : List De} {cl sq : Int} (h : 0 ≤ at_ ∧ at_ ≤ l.length) :
    (seekM 1 at_ (oneA n l b ws at0 tr cl sq)).2.1 = 0 ∧ (seekM 1 at_ (oneA n l b ws at0 tr cl sq)).2.2 = oneA n l b ws at_ (tr ++ [deSeek 1 at_]) cl sq := by
  have hF : seekF 1 at_ (deSeek 1 at_) (oneA n l b ws at0 tr cl sq) = (0, deSeek 1 at_, oneA n l b ws at_ tr cl sq) := by
    simp [seekF, oneA, heldE, getF, getH, putH, h]
  have hE := filedM_ok (a := oneA n l b ws at0 tr cl sq) rfl (by show (0 : Int) ≠ 4; decide) hF
  simp only [seekM]
  rw [hE]
  exact ⟨rfl, rfl⟩

theorem one_write {n : ByteArray} {l b : List UInt8} {ws : List Wr} {at_ : Nat} {tr : List De} {cl sq : Int} {s : ByteArray} (h : at_ ≤ l.length) (hs : at_ + s.size ≤ 4194304) :
    (writeM 1 s (oneA n l b ws at_ tr cl sq)).2.1 = 0 ∧ ∃ ws' tr', (writeM 1 s (oneA n l b ws at_ tr cl sq)).2.2 = oneA n (l.take at_ ++ s.data.toList ++ l.drop (at_ + s.size)) b ws' ((at_ : Int) + s.size) tr' cl (sq + 1) := by
  have hon := onL_in (x := ⟨sq + 1, at_, s, false⟩) (l := l) (at_ := at_) rfl rfl h
  have hF : writeF 1 s (deWrite 1 s) (oneA n l b ws at_ tr cl sq) = (0, deWrite 1 s, oneA n (l.take at_ ++ s.data.toList ++ l.drop (at_ + s.size)) b (ws ++ [⟨sq + 1, at_, s, false⟩]) ((at_ : Int) + s.size) tr cl (sq + 1)) := by
    have hb : ¬ (4194304 - (at_ : Int) < s.size) := by omega
    simp [writeF, oneA, heldE, writeAt, getF, getH, putH, putF, doesA, hon, hb]
  have hE := filedM_ok (a := oneA n l b ws at_ tr cl sq) rfl (by show (0 : Int) ≠ 4; decide) hF
  simp only [writeM]
  rw [hE]
  exact ⟨rfl, _, _, rfl⟩

/-- The same, opened once more for reading. -/
def twoA (n : ByteArray) (l b : List UInt8) (ws : List Wr) (at1 at_ : Int) (tr : List De) (cl sq : Int) : AW := ⟨[], [(n, 0)], [⟨l, b, ws⟩], [⟨0, false, false, some 0, 2, at1⟩, ⟨0, false, false, some 0, 1, at_⟩], tr, cl, sq, false⟩

theorem one_open {n : ByteArray} {l b : List UInt8} {ws : List Wr} {at0 : Int} {tr : List De} {cl sq : Int} (hn : nameB n = true) :
    (openM n 1 (oneA n l b ws at0 tr cl sq)).2.1 = 0 ∧ (openM n 1 (oneA n l b ws at0 tr cl sq)).1.handle = 2 ∧ ∃ tr', (openM n 1 (oneA n l b ws at0 tr cl sq)).2.2 = twoA n l b ws at0 0 tr' cl sq := by
  have hF : openF n 1 (deOpen n 1) (oneA n l b ws at0 tr cl sq) = (0, { deOpen n 1 with handle := 2 }, twoA n l b ws at0 0 tr cl sq) := by
    have hu : usedN [(⟨0, false, false, some 0, 2, at0⟩ : HO)] = 1 := rfl
    simp [openF, hn, oneA, twoA, mget, hu, openB]
  have hE := filedM_ok (a := oneA n l b ws at0 tr cl sq) rfl (by show (0 : Int) ≠ 4; decide) hF
  simp only [openM]
  rw [hE]
  exact ⟨rfl, rfl, _, rfl⟩

theorem two_size {n : ByteArray} {l b : List UInt8} {ws : List Wr} {at1 at_ : Int} {tr : List De} {cl sq : Int} : sizeM 2 (twoA n l b ws at1 at_ tr cl sq) = ((l.length : Int), 0) := by
  simp [sizeM, twoA, heldE, getF, getH]

theorem two_read {n : ByteArray} {l b : List UInt8} {ws : List Wr} {at1 : Int} {at_ many : Nat} {tr : List De} {cl sq : Int} (h : at_ ≤ l.length) :
    (readM 2 many (twoA n l b ws at1 at_ tr cl sq)).2.1 = 0 ∧ (readM 2 many (twoA n l b ws at1 at_ tr cl sq)).1.text = ftxt ((l.drop at_).take many) ∧
      ∃ tr', (readM 2 many (twoA n l b ws at1 at_ tr cl sq)).2.2 = twoA n l b ws at1 ((at_ + min many (l.length - at_) : Nat) : Int) tr' cl sq := by
  have hmin : min at_ l.length = at_ := by omega
  have hF : readF 2 many (deRead 2 many) (twoA n l b ws at1 at_ tr cl sq) = (0, { deRead 2 many with text := ftxt ((l.drop at_).take many) }, twoA n l b ws at1 ((at_ + min many (l.length - at_) : Nat) : Int) tr cl sq) := by
    have hneg : ¬ ((many : Int) < 0) := by omega
    simp [readF, twoA, heldE, getF, getH, putH, hneg, hmin]
  have hE := filedM_ok (a := twoA n l b ws at1 at_ tr cl sq) rfl (by show (0 : Int) ≠ 4; decide) hF
  simp only [readM]
  rw [hE]
  exact ⟨rfl, rfl, _, rfl⟩

theorem new_empty : newA [] [] = some emptyA := rfl
theorem empty_open {n : ByteArray} (hn : nameB n = true) : (openM n 2 emptyA).2.1 = 0 ∧ (openM n 2 emptyA).1.handle = 1 ∧ ∃ ws tr, (openM n 2 emptyA).2.2 = oneA n [] [] ws 0 tr 0 1 := by
  have hF : openF n 2 (deOpen n 2) emptyA = (0, { deOpen n 2 with handle := 1 }, oneA n [] [] [⟨1, 0, nilTx, true⟩] 0 [] 0 1) := by
    have hu : usedN ([] : List HO) = 0 := rfl
    simp [openF, hn, emptyA, oneA, mget, hu, openB, newF, mset, doesA, onL]
  have hE := filedM_ok (a := emptyA) rfl (by show (0 : Int) ≠ 4; decide) hF
  simp only [openM]
  rw [hE]
  exact ⟨rfl, rfl, _, _, rfl⟩

theorem ftxt_append (l m : List UInt8) : ftxt l ++ ftxt m = ftxt (l ++ m) := by
  apply ByteArray.ext
  simp [ftxt, ByteArray.data_append]
end Go.V
namespace Go.V
open Go
section
variable {P : Program} {n : Nat} {rs : List RO} {Γ : Env} {H : SH} {Z : List PanicEntry → Env → SH → Prop} {K : Env → SH → Prop} {d : Option Nat}
theorem st_cat {x y : Operand} {a b : ByteArray} (hx : ev Γ x = some (.string a)) (hy : ev Γ y = some (.string b)) (hb : a.size + b.size ≤ 9223372036854775807) (h : VO P n rs (putE d (.string (a ++ b)) Γ) H Z K) : VO P n (⟨d, none, .bin .add x y⟩ :: rs) Γ H Z K :=
  VO.pure rfl (fun ρ hρ => by simp only [pureV, hρ _ _ hx, hρ _ _ hy, binV, strV, hb, if_true]) h
end
theorem ftxt_size (l : List UInt8) : (ftxt l).size = l.length := by simp [ftxt, ByteArray.size]
end Go.V
namespace Go.V
open Go
/-- A thing of a list that is read, of one cell. -/
theorem RdRow.cell {A : List Atom} {v : Value} {α : Type} {f : α → Value} {l : List α} (h : RdRow 1 A v l.length (l.map f)) {i : Nat} {x : α} (hx : l[i]? = some x) :
    ∃ b o c, v = .slice (some ⟨b, o, none⟩) l.length c ∧ Atom.cell b (o + i) (f x) ∈ A := by
  have hi := (List.getElem?_eq_some_iff.1 hx).1
  rcases h with ⟨_, h2, _⟩ | ⟨b, o, c, h1, h2, h3, h4⟩
  · omega
  · exact ⟨b, o, c, h1, h4 _ (mem_cellsAt.2 ⟨i, f x, by simp [hx], rfl⟩)⟩

section
variable {P : Program} {n : Nat} {rs : List RO} {Γ : Env} {H : SH} {Z : List PanicEntry → Env → SH → Prop} {K : Env → SH → Prop} {d : Option Nat}
theorem st_setSl {x y : Operand} {v : Value} {b o c k m : Nat} {xs sp : List Value} {R : SH} (hx : ev Γ x = some (.pointer (some ⟨b, o + m, none⟩))) (hy : ev Γ y = some v) (hv : v.cells.toList = [v]) (hone : oneCell v = true)
    (ht : Tk H (slA (.slice (some ⟨b, o, none⟩) k c) xs sp) R) (hm : m < xs.length) (h : VO P n rs (putE d undef Γ) (slA (.slice (some ⟨b, o, none⟩) k c) (xs.set m v) sp :: R) Z K) : VO P n (⟨d, none, .store 1 x y⟩ :: rs) Γ H Z K := by
  refine VO.perm (H' := slA (.slice (some ⟨b, o, none⟩) k c) xs sp :: R) (by rw [List.flatten_cons]; exact ht.perm) ?_
  refine st_store' (us := [v]) hx hy hv rfl (by simp [hone]) (Upd.cells (ws := xs.set m v ++ sp) (by omega) (by simp; omega) ?_) h
  have h1 : o + m - o = m := by omega
  rw [h1, List.set_eq_take_append_cons_drop, if_pos hm]
  simp only [List.length_cons, List.length_nil, Nat.zero_add]
  rw [List.take_append_of_le_length (by omega), List.drop_append_of_le_length (by omega)]
  simp
end

/-- What is wanted, so far. -/
def wantL (l : List UInt8) (at_ : Nat) (s : List UInt8) (j : Nat) : List UInt8 := l.take at_ ++ s.take j ++ l.drop (at_ + j)
theorem wantL_len {l s : List UInt8} {at_ j : Nat} (h : at_ ≤ l.length) (hj : j ≤ s.length) : (wantL l at_ s j).length = max l.length (at_ + j) := by
  simp only [wantL, List.length_append, List.length_take, List.length_drop]; omega
theorem wantL_zero {l s : List UInt8} {at_ : Nat} : wantL l at_ s 0 = l := by simp [wantL]
theorem wantL_in {l s : List UInt8} {at_ j : Nat} {c : UInt8} (h : at_ + j < l.length) (hc : s[j]? = some c) : wantL l at_ s (j + 1) = (wantL l at_ s j).set (at_ + j) c := by
  have hj := (List.getElem?_eq_some_iff.1 hc).1
  have h1 : (l.take at_ ++ s.take j).length = at_ + j := by simp; omega
  have hd : l.drop (at_ + j) = l[at_ + j] :: l.drop (at_ + j + 1) := List.drop_eq_getElem_cons h
  simp only [wantL]
  rw [hd, List.set_append_right _ _ (by omega), h1, Nat.sub_self, List.set_cons_zero, List.take_add_one, hc]
  simp [Nat.add_assoc]
theorem wantL_out {l s : List UInt8} {at_ j : Nat} {c : UInt8} (h : l.length ≤ at_ + j) (hc : s[j]? = some c) : wantL l at_ s (j + 1) = wantL l at_ s j ++ [c] := by
  simp only [wantL]
  rw [List.drop_eq_nil_of_le h, List.drop_eq_nil_of_le (by omega), List.take_add_one, hc]
  simp
end Go.V
namespace Go.V
open Go

structure ActW where
  kind : Int
  name : ByteArray
  text : ByteArray
  h : Int
  n : Int
def actEnc (x : ActW) : List Value := [vi x.kind, .string x.name, .string x.text, vi x.h, vi x.n]

/-- A call; its error, the world behind it. -/
def callM (x : ActW) (a : AW) : Int × AW :=
  if x.kind = 1 then (openM x.name x.h a).2
  else if x.kind = 2 then (readM x.h x.n a).2
  else if x.kind = 3 then (writeM x.h x.text a).2
  else if x.kind = 4 then (seekM x.h x.n a).2
  else if x.kind = 5 then (syncM x.h a).2
  else if x.kind = 6 then (closeM x.h a).2
  else if x.kind = 7 then (renameM x.name x.text a).2
  else if x.kind = 8 then (deleteM x.name a).2
  else if x.kind = 9 then (clockM a).2
  else if x.kind = 10 then (connectM x.name a).2
  else if x.kind = 11 then (sendM x.h x.text a).2
  else if x.kind = 12 then (receiveM x.h x.n a).2
  else if x.kind = 13 then (showM x.text a).2
  else if x.kind = 14 then (quitM x.n a).2
  else (0, a)

theorem sorted_perm {α : Type} {lt : α → α → Bool} (ok : LtOk lt) {xs xs' ys zs : List α} (h : SortedOf lt xs ys) (k : SortedOf lt xs' zs) (p : xs.Perm xs') : ys = zs :=
  sorted_unique ok h ⟨k.1.trans p.symm, k.2⟩

end Go.V
namespace Go.V
open Go
set_option linter.unusedSimpArgs false
set_option linter.unusedVariables false

def crashC : Ch := ⟨5, 0, nilTx⟩
def wc (cs : List Ch) (b : AW) : AW := { b with choices := cs }
/-- A deed that doesn't look at the choices ahead. -/
def Blind (f : AW → Int × De × AW) : Prop := ∀ b cs, f (wc cs b) = ((f b).1, (f b).2.1, wc cs (f b).2.2) ∧ (f b).2.2.choices = b.choices ∧ (f b).2.2.dead = b.dead

theorem Blind.leaf {f : AW → Int × De × AW} (h : ∀ b cs, f (wc cs b) = ((f b).1, (f b).2.1, wc cs (f b).2.2)) (h1 : ∀ b, (f b).2.2.choices = b.choices) (h2 : ∀ b, (f b).2.2.dead = b.dead) : Blind f := fun b cs => ⟨h b cs, h1 b, h2 b⟩
theorem Blind.ite {c : AW → Prop} [∀ a, Decidable (c a)] {x y : AW → Int × De × AW} (hc : ∀ b cs, c (wc cs b) = c b) (hx : Blind x) (hy : Blind y) : Blind (fun a => if c a then x a else y a) := by
  intro b cs
  by_cases h : c b
  · have h' : c (wc cs b) := by rw [hc]; exact h
    simp only [if_pos h, if_pos h']
    exact hx b cs
  · have h' : ¬ c (wc cs b) := by rw [hc]; exact h
    simp only [if_neg h, if_neg h']
    exact hy b cs
theorem Blind.opt {o : AW → Option Nat} {x : AW → Int × De × AW} {y : Nat → AW → Int × De × AW} (ho : ∀ b cs, o (wc cs b) = o b) (hx : Blind x) (hy : ∀ j, Blind (y j)) : Blind (fun a => match o a with | none => x a | some j => y j a) := by
  intro b cs
  cases h : o b with
  | none => have h' : o (wc cs b) = none := by rw [ho, h]
            simp only [h, h']; exact hx b cs
  | some j => have h' : o (wc cs b) = some j := by rw [ho, h]
              simp only [h, h']; exact hy j b cs
theorem putF_wc {cs : List Ch} {b : AW} {n : Int} {f : AF} : putF (wc cs b) n f = wc cs (putF b n f) ∧ (putF b n f).choices = b.choices ∧ (putF b n f).dead = b.dead ∧ (putF b n f).hs = b.hs := by
  refine ⟨?_, ?_, ?_, ?_⟩
  · unfold putF
    rw [show getH (wc cs b) n = getH b n from rfl]
    cases (getH b n).file <;> rfl
  all_goals (unfold putF; cases (getH b n).file <;> rfl)
theorem seekF_blind {n at_ : Int} {d : De} : Blind (seekF n at_ d) :=
  Blind.ite (c := fun a => heldE a.hs n false ≠ 0) (fun _ _ => rfl) (fun _ _ => ⟨rfl, rfl, rfl⟩) (Blind.ite (c := fun a => 0 ≤ at_ ∧ at_ ≤ (getF a n).now.length) (fun _ _ => rfl) (fun _ _ => ⟨rfl, rfl, rfl⟩) (fun _ _ => ⟨rfl, rfl, rfl⟩))
theorem readF_blind {n m : Int} {d : De} : Blind (readF n m d) :=
  Blind.ite (c := fun a => heldE a.hs n false ≠ 0) (fun _ _ => rfl) (fun _ _ => ⟨rfl, rfl, rfl⟩) (Blind.ite (c := fun a => (getH a n).mode ≠ 1) (fun _ _ => rfl) (fun _ _ => ⟨rfl, rfl, rfl⟩) (Blind.ite (c := fun a => m < 0) (fun _ _ => rfl) (fun _ _ => ⟨rfl, rfl, rfl⟩) (fun _ _ => ⟨rfl, rfl, rfl⟩)))
theorem writeF_blind {n : Int} {s : ByteArray} {d : De} : Blind (writeF n s d) :=
  Blind.ite (c := fun a => heldE a.hs n false ≠ 0) (fun _ _ => rfl) (fun _ _ => ⟨rfl, rfl, rfl⟩) (Blind.ite (c := fun a => (getH a n).mode = 1) (fun _ _ => rfl) (fun _ _ => ⟨rfl, rfl, rfl⟩) (Blind.ite (c := fun a => 4194304 - writeAt a n < s.size) (fun _ _ => rfl) (fun _ _ => ⟨rfl, rfl, rfl⟩) (by
    intro b cs
    obtain ⟨p1, p2, p3, p4⟩ := putF_wc (cs := cs) (b := b) (n := n) (f := doesA (getF b n) ⟨b.seq + 1, writeAt b n, s, false⟩)
    refine ⟨?_, p2, p3⟩
    show (0, d, putH { putF (wc cs b) n (doesA (getF b n) ⟨b.seq + 1, writeAt b n, s, false⟩) with seq := b.seq + 1 } n { getH b n with at_ := writeAt b n + s.size }) = _
    rw [p1]
    rfl)))
theorem syncF_blind {n : Int} {d : De} : Blind (syncF n d) :=
  Blind.ite (c := fun a => heldE a.hs n false ≠ 0) (fun _ _ => rfl) (fun _ _ => ⟨rfl, rfl, rfl⟩) (by
    intro b cs
    obtain ⟨p1, p2, p3, p4⟩ := putF_wc (cs := cs) (b := b) (n := n) (f := ⟨(getF b n).now, (getF b n).now, []⟩)
    refine ⟨?_, p2, p3⟩
    show (0, d, putF (wc cs b) n ⟨(getF b n).now, (getF b n).now, []⟩) = _
    rw [p1])
theorem closeF_blind {n : Int} {d : De} : Blind (closeF n d) :=
  Blind.ite (c := fun a => anyE a.hs n ≠ 0) (fun _ _ => rfl) (fun _ _ => ⟨rfl, rfl, rfl⟩) (Blind.ite (c := fun a => (getH a n).stale = true) (fun _ _ => rfl) (fun _ _ => ⟨rfl, rfl, rfl⟩) (fun _ _ => ⟨rfl, rfl, rfl⟩))
theorem renameF_blind {p q : ByteArray} {d : De} : Blind (renameF p q d) :=
  Blind.ite (c := fun a => (!(nameB p) || !(nameB q)) = true) (fun _ _ => rfl) (fun _ _ => ⟨rfl, rfl, rfl⟩) (Blind.opt (o := fun a => mget p a.names) (fun _ _ => rfl) (fun _ _ => ⟨rfl, rfl, rfl⟩) (fun _ _ _ => ⟨rfl, rfl, rfl⟩))
theorem deleteF_blind {p : ByteArray} {d : De} : Blind (deleteF p d) :=
  Blind.ite (c := fun a => (!(nameB p)) = true) (fun _ _ => rfl) (fun _ _ => ⟨rfl, rfl, rfl⟩) (Blind.opt (o := fun a => mget p a.names) (fun _ _ => rfl) (fun _ _ => ⟨rfl, rfl, rfl⟩) (fun _ _ _ => ⟨rfl, rfl, rfl⟩))
theorem openB_blind {j : Nat} {m : Int} {d : De} : Blind (openB j m d) := by
  intro b cs
  unfold openB
  by_cases h : m = 2
  · simp only [if_pos h, wc, and_self]
  · simp only [if_neg h, wc, and_self]
theorem Blind.pre {f : AW → Int × De × AW} (h : Blind f) {g : AW → AW} (hg : ∀ b cs, g (wc cs b) = wc cs (g b)) (h1 : ∀ b, (g b).choices = b.choices) (h2 : ∀ b, (g b).dead = b.dead) : Blind (fun a => f (g a)) := by
  intro b cs
  obtain ⟨p, q, r⟩ := h (g b) cs
  exact ⟨by simp only [hg, p], q.trans (h1 b), r.trans (h2 b)⟩
theorem newB_blind {p : ByteArray} {m : Int} {d : De} : Blind (fun a => openB a.files.length m d (newF p a)) := by
  intro b cs
  obtain ⟨p1, q, r⟩ := openB_blind (j := b.files.length) (m := m) (d := d) (newF p b) cs
  exact ⟨p1, q, r⟩
theorem openF_blind {p : ByteArray} {m : Int} {d : De} : Blind (openF p m d) :=
  Blind.ite (c := fun a => (!(nameB p)) = true) (fun _ _ => rfl) (fun _ _ => ⟨rfl, rfl, rfl⟩) (Blind.ite (c := fun a => m < 1 ∨ 3 < m) (fun _ _ => rfl) (fun _ _ => ⟨rfl, rfl, rfl⟩)
    (Blind.opt (o := fun a => mget p a.names) (fun _ _ => rfl) (Blind.ite (c := fun a => m = 1) (fun _ _ => rfl) (fun _ _ => ⟨rfl, rfl, rfl⟩) (Blind.ite (c := fun a => 32 ≤ usedN a.hs ∨ 64 ≤ a.names.length) (fun _ _ => rfl) (fun _ _ => ⟨rfl, rfl, rfl⟩) newB_blind))
      (fun j => Blind.ite (c := fun a => 32 ≤ usedN a.hs) (fun _ _ => rfl) (fun _ _ => ⟨rfl, rfl, rfl⟩) openB_blind)))
theorem clockF_blind {d : De} {c : Ch} : Blind (fun a => clockF d a c) := fun _ _ => ⟨rfl, rfl, rfl⟩
theorem connectF_blind {p : ByteArray} {d : De} {c : Ch} : Blind (fun a => connectF p d a c) :=
  Blind.ite (c := fun a => (!(nameB p)) = true) (fun _ _ => rfl) (fun _ _ => ⟨rfl, rfl, rfl⟩) (Blind.ite (c := fun a => c.kind ≠ 2 ∨ c.text ≠ p) (fun _ _ => rfl) (fun _ _ => ⟨rfl, rfl, rfl⟩) (Blind.ite (c := fun a => chosenE c.n ≠ 0) (fun _ _ => rfl) (fun _ _ => ⟨rfl, rfl, rfl⟩)
    (Blind.ite (c := fun a => 32 ≤ usedN a.hs) (fun _ _ => rfl) (fun _ _ => ⟨rfl, rfl, rfl⟩) (fun _ _ => ⟨rfl, rfl, rfl⟩))))
theorem sendF_blind {n : Int} {d : De} {c : Ch} : Blind (fun a => sendF n d a c) := fun _ _ => ⟨rfl, rfl, rfl⟩
theorem receiveF_blind {n m : Int} {d : De} {c : Ch} : Blind (fun a => receiveF n m d a c) :=
  Blind.ite (c := fun a => heldE a.hs n true ≠ 0) (fun _ _ => rfl) (fun _ _ => ⟨rfl, rfl, rfl⟩) (Blind.ite (c := fun a => m < 0) (fun _ _ => rfl) (fun _ _ => ⟨rfl, rfl, rfl⟩) (Blind.ite (c := fun a => c.kind ≠ 3) (fun _ _ => rfl) (fun _ _ => ⟨rfl, rfl, rfl⟩)
    (Blind.ite (c := fun a => chosenE c.n ≠ 0) (fun _ _ => rfl) (fun _ _ => ⟨rfl, rfl, rfl⟩) (fun _ _ => ⟨rfl, rfl, rfl⟩))))
theorem showF_blind {d : De} {c : Ch} : Blind (fun a => showF d a c) := fun _ _ => ⟨rfl, rfl, rfl⟩
theorem faultA_blind {d : De} {f : AW → Int × De × AW} {c : Ch} (h : Blind f) : Blind (fun a => faultA d f a c) :=
  Blind.ite (c := fun a => c.kind = 4 ∧ chosenE c.n ≠ 0) (fun _ _ => rfl) (fun _ _ => ⟨rfl, rfl, rfl⟩) h

/-- One has a crash ahead that the other has not. -/
def Cut (a b : AW) : Prop := a = wc (b.choices ++ [crashC]) b ∧ b.dead = false ∧ ∀ c ∈ b.choices, c.kind ≠ 5

theorem deed_cut {a b : AW} (h : Cut a b) {d : De} {f : AW → Ch → Int × De × AW} (hf : ∀ c, Blind (fun x => f x c)) :
    ((deedA a d f).2.2.dead = false → (deedA a d f).2.1 = (deedA b d f).2.1 ∧ Cut (deedA a d f).2.2 (deedA b d f).2.2) ∧
    ((deedA a d f).2.2.dead = true → (deedA a d f).2.1 = 36 ∧ (deedA a d f).2.2 = { a with choices := [], dead := true }) := by
  obtain ⟨rfl, hd, hk⟩ := h
  cases hc : b.choices with
  | nil =>
    have hl : liveA (wc (([] : List Ch) ++ [crashC]) b) = false := by simp [liveA, chA, wc, hd, crashC]
    have ht : takeA (wc (([] : List Ch) ++ [crashC]) b) = { wc (([] : List Ch) ++ [crashC]) b with choices := [], dead := true } := by simp only [takeA, hl]; simp [wc, hd]
    have hdd : deedA (wc (([] : List Ch) ++ [crashC]) b) d f = (noDe, 36, takeA (wc (([] : List Ch) ++ [crashC]) b)) := by unfold deedA; rw [hl]; rfl
    rw [hdd, ht]
    refine ⟨fun h => (by simp at h), fun _ => ⟨rfl, rfl⟩⟩
  | cons c r =>
    have hck : c.kind ≠ 5 := hk c (by rw [hc]; simp)
    have c1 : chA (wc (c :: r ++ [crashC]) b) = c := by simp [chA, wc, hd]
    have c2 : chA b = c := by simp [chA, hd, hc]
    have l1 : liveA (wc (c :: r ++ [crashC]) b) = true := by unfold liveA; rw [c1, show (wc (c :: r ++ [crashC]) b).dead = b.dead from rfl, hd, decide_eq_false hck]; rfl
    have l2 : liveA b = true := by simp [liveA, c2, hck, hd]
    have t2 : takeA b = { b with choices := r, dead := false } := by simp only [takeA, l2]; simp [hd, hc]
    have t1 : takeA (wc (c :: r ++ [crashC]) b) = wc (r ++ [crashC]) (takeA b) := by rw [t2]; simp only [takeA, l1]; simp [wc, hd]
    obtain ⟨f1, f2, f3⟩ := hf c (takeA b) (r ++ [crashC])
    simp only at f1 f2 f3
    unfold deedA
    rw [l1, l2]
    simp only [if_true]
    rw [t1, c1, c2, f1]
    generalize f (takeA b) c = y at f1 f2 f3 ⊢
    rw [t2] at f2 f3
    simp only at f2 f3
    refine ⟨fun _ => ⟨rfl, ?_⟩, fun hdead => ?_⟩
    · refine ⟨?_, f3, fun x hx => hk x (by rw [hc]; simp only at hx; rw [f2] at hx; simp [hx])⟩
      simp only [wc, f2]
    · simp only [wc] at hdead
      rw [f3] at hdead
      cases hdead

theorem cut_call {a b : AW} (h : Cut a b) (x : ActW) :
    ((callM x a).2.dead = false → (callM x a).1 = (callM x b).1 ∧ Cut (callM x a).2 (callM x b).2) ∧
    ((callM x a).2.dead = true → (callM x a).1 = 36 ∧ (callM x a).2 = { a with choices := [], dead := true }) := by
  have filed : ∀ {d : De} {f : De → AW → Int × De × AW}, (∀ d, Blind (f d)) → ((filedM d f a).2.2.dead = false → (filedM d f a).2.1 = (filedM d f b).2.1 ∧ Cut (filedM d f a).2.2 (filedM d f b).2.2) ∧ ((filedM d f a).2.2.dead = true → (filedM d f a).2.1 = 36 ∧ (filedM d f a).2.2 = { a with choices := [], dead := true }) :=
    fun hf => deed_cut h (fun c => faultA_blind (hf _))
  unfold callM
  by_cases h1 : x.kind = 1
  · rw [if_pos h1, if_pos h1]; exact filed (fun _ => openF_blind)
  rw [if_neg h1, if_neg h1]
  by_cases h2 : x.kind = 2
  · rw [if_pos h2, if_pos h2]; exact filed (fun _ => readF_blind)
  rw [if_neg h2, if_neg h2]
  by_cases h3 : x.kind = 3
  · rw [if_pos h3, if_pos h3]; exact filed (fun _ => writeF_blind)
  rw [if_neg h3, if_neg h3]
  by_cases h4 : x.kind = 4
  · rw [if_pos h4, if_pos h4]; exact filed (fun _ => seekF_blind)
  rw [if_neg h4, if_neg h4]
  by_cases h5 : x.kind = 5
  · rw [if_pos h5, if_pos h5]; exact filed (fun _ => syncF_blind)
  rw [if_neg h5, if_neg h5]
  by_cases h6 : x.kind = 6
  · rw [if_pos h6, if_pos h6]; exact filed (fun _ => closeF_blind)
  rw [if_neg h6, if_neg h6]
  by_cases h7 : x.kind = 7
  · rw [if_pos h7, if_pos h7]; exact filed (fun _ => renameF_blind)
  rw [if_neg h7, if_neg h7]
  by_cases h8 : x.kind = 8
  · rw [if_pos h8, if_pos h8]; exact filed (fun _ => deleteF_blind)
  rw [if_neg h8, if_neg h8]
  by_cases h9 : x.kind = 9
  · rw [if_pos h9, if_pos h9]; exact deed_cut h (fun c => clockF_blind)
  rw [if_neg h9, if_neg h9]
  by_cases h10 : x.kind = 10
  · rw [if_pos h10, if_pos h10]; exact deed_cut h (fun c => connectF_blind)
  rw [if_neg h10, if_neg h10]
  by_cases h11 : x.kind = 11
  · rw [if_pos h11, if_pos h11]; exact deed_cut h (fun c => sendF_blind)
  rw [if_neg h11, if_neg h11]
  by_cases h12 : x.kind = 12
  · rw [if_pos h12, if_pos h12]; exact deed_cut h (fun c => receiveF_blind)
  rw [if_neg h12, if_neg h12]
  by_cases h13 : x.kind = 13
  · rw [if_pos h13, if_pos h13]; exact deed_cut h (fun c => showF_blind)
  rw [if_neg h13, if_neg h13]
  by_cases h14 : x.kind = 14
  · rw [if_pos h14, if_pos h14]; exact deed_cut h (fun c => showF_blind)
  rw [if_neg h14, if_neg h14]
  obtain ⟨rfl, hd, hk⟩ := h
  exact ⟨fun _ => ⟨rfl, rfl, hd, hk⟩, fun hx => by simp only [wc] at hx; rw [hd] at hx; cases hx⟩

/-- A dead world does nothing. -/
theorem dead_deed {a : AW} (h : a.dead = true) (d : De) (f : AW → Ch → Int × De × AW) : deedA a d f = (noDe, 36, a) := by
  have hl : liveA a = false := by simp [liveA, h]
  unfold deedA
  rw [hl]
  simp only [takeA, hl, h, if_true, Bool.not_false]
  simp only [Bool.false_eq_true, if_false]
  cases a; simp only at h; subst h; rfl

theorem cut_new {cs : List Ch} {fs : List (ByteArray × ByteArray)} (hl : cs.length < 65536) (hk : ∀ c ∈ cs, c.kind ≠ 5) :
    (newA (cs ++ [crashC]) fs = none ∧ newA cs fs = none) ∨ ∃ a b, newA (cs ++ [crashC]) fs = some a ∧ newA cs fs = some b ∧ Cut a b := by
  unfold newA
  cases hf : addFs emptyA fs with
  | none => exact .inl ⟨rfl, rfl⟩
  | some x =>
    simp only
    by_cases h64 : 64 < fs.length
    · left; simp [h64]
    · right
      have c1 : ¬ (65536 < (cs ++ [crashC]).length ∨ 64 < fs.length) := by simp; omega
      have c2 : ¬ (65536 < cs.length ∨ 64 < fs.length) := by omega
      rw [if_neg c1, if_neg c2]
      refine ⟨_, _, rfl, rfl, rfl, ?_, hk⟩
      have : ∀ (fs : List (ByteArray × ByteArray)) (a b : AW), addFs a fs = some b → b.dead = a.dead := by
        intro fs
        induction fs with
        | nil => intro a b e; simp only [addFs, Option.some.injEq] at e; rw [e]
        | cons p r ih =>
          intro a b e
          simp only [addFs] at e
          cases hp : addF a p with
          | none => rw [hp] at e; cases e
          | some c =>
            rw [hp] at e
            rw [ih c b e]
            unfold addF at hp
            split at hp
            · cases hp
            · cases hp; rfl
      exact this fs emptyA x hf
def cutC (cs : List Ch) : List Ch := cs.filter fun c => decide (c.kind ≠ 5)
theorem cutC_kind {cs : List Ch} : ∀ c ∈ cutC cs, c.kind ≠ 5 := by intro c hc; simp only [cutC, List.mem_filter, decide_eq_true_eq] at hc; exact hc.2
theorem cutC_succ {l : List Ch} {k : Nat} {c : Ch} (h : l[k]? = some c) : cutC (l.take (k + 1)) = cutC (l.take k) ++ (if c.kind ≠ 5 then [c] else []) := by
  simp only [cutC, List.take_add_one, h, Option.toList_some, List.filter_append, List.filter_cons, List.filter_nil, decide_eq_true_eq]
theorem cutC_le (l : List Ch) : (cutC l).length ≤ l.length := List.length_filter_le _ _
end Go.V

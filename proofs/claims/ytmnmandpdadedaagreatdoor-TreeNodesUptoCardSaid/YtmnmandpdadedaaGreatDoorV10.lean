/-
  Trees of literals and nodes, read where they lie.
-/
import Derived.Test.YtmnmandpdadedaaGreatDoorV8
import Derived.Test.YtmnmandpdadedaaGreatDoorV9
import Derived.Test.YtmnmandpdadedaaGreatDoorV6
set_option linter.unusedSimpArgs false
set_option linter.unusedVariables false
namespace Go.V
open Go
inductive Lt where
  | mk (kind : Nat) (n : Int) (bits : Nat) (text : ByteArray) (items : List Lt)
inductive Nd where
  | mk (kind : Nat) (name : ByteArray) (lit : Lt) (args temps : List ByteArray) (kids : List Nd) (at_ : Int)
def Lt.kind : Lt → Nat | .mk k _ _ _ _ => k
def Lt.n : Lt → Int | .mk _ n _ _ _ => n
def Lt.bits : Lt → Nat | .mk _ _ b _ _ => b
def Lt.text : Lt → ByteArray | .mk _ _ _ t _ => t
def Lt.items : Lt → List Lt | .mk _ _ _ _ l => l
def Nd.kind : Nd → Nat | .mk k _ _ _ _ _ _ => k
def Nd.name : Nd → ByteArray | .mk _ s _ _ _ _ _ => s
def Nd.lit : Nd → Lt | .mk _ _ l _ _ _ _ => l
def Nd.args : Nd → List ByteArray | .mk _ _ _ a _ _ _ => a
def Nd.temps : Nd → List ByteArray | .mk _ _ _ _ t _ _ => t
def Nd.kids : Nd → List Nd | .mk _ _ _ _ _ k _ => k
def Nd.at_ : Nd → Int | .mk _ _ _ _ _ _ p => p
mutual
def Lt.size : Lt → Nat
  | .mk _ _ _ _ items => 1 + Lt.sizes items
def Lt.sizes : List Lt → Nat
  | [] => 0
  | x :: r => x.size + Lt.sizes r
end
mutual
def Nd.size : Nd → Nat
  | .mk _ _ _ _ _ kids _ => 1 + Nd.sizes kids
def Nd.sizes : List Nd → Nat
  | [] => 0
  | x :: r => x.size + Nd.sizes r
end
theorem Lt.size_pos (x : Lt) : 0 < x.size := by cases x; simp only [Lt.size]; omega
theorem Nd.size_pos (x : Nd) : 0 < x.size := by cases x; simp only [Nd.size]; omega
theorem Lt.sizes_mem {x : Lt} : ∀ {l : List Lt}, x ∈ l → x.size ≤ Lt.sizes l := by
  intro l
  induction l with
  | nil => intro h; cases h
  | cons y r ih =>
    intro h
    simp only [Lt.sizes]
    rcases List.mem_cons.1 h with rfl | h
    · omega
    · have := ih h; omega
theorem Nd.sizes_mem {x : Nd} : ∀ {l : List Nd}, x ∈ l → x.size ≤ Nd.sizes l := by
  intro l
  induction l with
  | nil => intro h; cases h
  | cons y r ih =>
    intro h
    simp only [Nd.sizes]
    rcases List.mem_cons.1 h with rfl | h
    · omega
    · have := ih h; omega
def RdT (A : List Atom) (v : Value) (l : List ByteArray) : Prop := ∃ a c, v = .slice a l.length c ∧ l.length ≤ 1099511627776 ∧ ∀ (i : Nat) t, l[i]? = some t → ∃ b o, a = some ⟨b, o, none⟩ ∧ Atom.cell b (o + i) (.string t) ∈ A ∧ t.size ≤ 140737488355328
theorem RdT.more {A B : List Atom} {v : Value} {l : List ByteArray} (h : RdT A v l) (hs : ∀ x ∈ A, x ∈ B) : RdT B v l := by
  obtain ⟨a, c, h1, h2, h3⟩ := h
  exact ⟨a, c, h1, h2, fun i t e => let ⟨b, o, k1, k2, k3⟩ := h3 i t e; ⟨b, o, k1, hs _ k2, k3⟩⟩
structure LtWf (k : Nat) (n : Int) (b : Nat) (t : ByteArray) (m : Nat) : Prop where
  kind : k < 256
  n : -9223372036854775808 ≤ n ∧ n ≤ 9223372036854775807
  bits : b < 18446744073709551616
  text : t.size ≤ 140737488355328
  many : m ≤ 140737488355328
inductive LtRd (A : List Atom) : Lt → List Value → Prop
  | mk {k : Nat} {n : Int} {b : Nat} {t : ByteArray} {items : List Lt} {a : Option Addr} {c bk o : Nat} {us : Nat → List Value} (wf : LtWf k n b t items.length) (ha : 0 < items.length → a = some ⟨bk, o, none⟩)
      (hm : ∀ i, i < items.length → ∀ y ∈ cellsAt bk (o + i * 5) (us i), y ∈ A) (hr : ∀ i x, items[i]? = some x → LtRd A x (us i)) : LtRd A (.mk k n b t items) [cv k, vi n, uv b, .string t, .slice a items.length c]
structure NdWf (k : Nat) (s : ByteArray) (m : Nat) (p : Int) : Prop where
  kind : k < 256
  name : s.size ≤ 140737488355328
  many : m ≤ 140737488355328
  at_ : -9223372036854775808 ≤ p ∧ p ≤ 9223372036854775807
inductive NdRd (A : List Atom) : Nd → List Value → Prop
  | mk {k : Nat} {s : ByteArray} {lit : Lt} {args temps : List ByteArray} {kids : List Nd} {p : Int} {lv : List Value} {av tv : Value} {a : Option Addr} {c bk o : Nat} {us : Nat → List Value} (wf : NdWf k s kids.length p) (hl : LtRd A lit lv) (hav : RdT A av args) (htv : RdT A tv temps)
      (ha : 0 < kids.length → a = some ⟨bk, o, none⟩) (hm : ∀ i, i < kids.length → ∀ y ∈ cellsAt bk (o + i * 11) (us i), y ∈ A) (hr : ∀ i x, kids[i]? = some x → NdRd A x (us i)) (hcp : kids.length ≤ c) : NdRd A (.mk k s lit args temps kids p) ([cv k, .string s] ++ lv ++ [av, tv, .slice a kids.length c, vi p])
theorem LtRd.len {A : List Atom} {x : Lt} {vs : List Value} (h : LtRd A x vs) : vs.length = 5 := by cases h; rfl
theorem NdRd.len {A : List Atom} {x : Nd} {vs : List Value} (h : NdRd A x vs) : vs.length = 11 := by
  cases h with
  | mk wf hl => simp [hl.len]
theorem LtRd.more {A B : List Atom} (hs : ∀ x ∈ A, x ∈ B) {x : Lt} {vs : List Value} (h : LtRd A x vs) : LtRd B x vs := by
  induction h with
  | mk wf ha hm hr ih => exact .mk wf ha (fun i hi y hy => hs _ (hm i hi y hy)) ih
theorem NdRd.more {A B : List Atom} (hs : ∀ x ∈ A, x ∈ B) {x : Nd} {vs : List Value} (h : NdRd A x vs) : NdRd B x vs := by
  induction h with
  | mk wf hl hav htv ha hm hr hcp ih => exact .mk wf (hl.more hs) (hav.more hs) (htv.more hs) ha (fun i hi y hy => hs _ (hm i hi y hy)) ih hcp
def bytesN (s : ByteArray) : List Nat := s.data.toList.map UInt8.toNat
def letB (c : Nat) : Bool := (decide (97 ≤ c) && decide (c ≤ 122)) || (decide (65 ≤ c) && decide (c ≤ 90)) || decide (c = 95)
def digB (c : Nat) : Bool := decide (48 ≤ c) && decide (c ≤ 57)
def innB (c : Nat) : Bool := letB c || digB c
def binB (c : Nat) : Bool := [43, 45, 42, 47, 92, 126, 60, 62, 61, 64, 37, 38, 63, 44, 33].contains c
def nameL (l : List Nat) : Bool := match l with
  | [] => false
  | c :: _ => decide (l.length ≤ 40) && letB c && l.all innB
def runL (on : List Nat → Bool) : List Nat → Nat
  | [] => 0
  | c :: r => if on (c :: r) then 1 + runL on r else 0
def signOn : List Nat → Bool
  | [] => false
  | c :: r => binB c && (decide (c ≠ 45) || !(match r with | d :: _ => digB d | [] => false))
def signL : List Nat → Nat
  | [] => 0
  | c :: r => if c = 124 then 1 else if binB c then 1 + runL signOn r else 0
def piecesL : List Nat → List (List Nat)
  | [] => [[]]
  | c :: r => if c = 58 then [58] :: piecesL r else match piecesL r with
    | p :: ps => (c :: p) :: ps
    | [] => [[c]]
def keysL : List (List Nat) → Nat → Int
  | [], n => n
  | p :: ps, n => if p = [] then n else if p.getLast? = some 58 && nameL p.dropLast then keysL ps (n + 1) else -1
def arityL (l : List Nat) : Int :=
  if nameL l then 0 else match l with
  | [] => -1
  | c :: _ => if binB c || decide (c = 124) then (if signL l = l.length then 1 else -1) else keysL (piecesL l) 0
def nameS (s : ByteArray) : Bool := nameL (bytesN s)
def arityS (s : ByteArray) : Int := arityL (bytesN s)
def takenL : List (List Nat) := [[115, 101, 108, 102], [115, 117, 112, 101, 114], [110, 105, 108], [116, 114, 117, 101], [102, 97, 108, 115, 101]]
def freeS (s : ByteArray) : Bool := !takenL.contains (bytesN s) && nameS s
def plainL : List Nat → List Nat
  | 48 :: c :: r => plainL (c :: r)
  | l => l
def numL (l : List Nat) : Nat := l.foldl (fun n c => n * 10 + (c - 48)) 0
def largeL (l : List Nat) : Bool :=
  let (d, minus) := match l with | 45 :: r => (r, true) | _ => (l, false)
  decide (d ≠ []) && d.all digB && decide (plainL d = d) && decide (d.length ≤ 255) && decide ((if minus then 1152921504606846976 else 1152921504606846975) < numL d)
abbrev Rs := Option (Nat × Bool)
def maxR : List Rs → Rs
  | [] => some (0, false)
  | r :: rs => match r, maxR rs with
    | some (d, m), some (e, k) => some (max d e, m || k)
    | _, _ => none
def manyR (b : Bool) : Rs → Rs
  | some (d, m) => some (d, b || m)
  | none => none
def deeper : Rs → Rs
  | some (d, m) => some (d + 1, m)
  | none => none
def mustR (b : Bool) (r : Rs) : Rs := if b then r else none
mutual
def litD : Lt → Bool → Rs
  | .mk k n b t items, inside =>
    if k = 1 ∨ k = 2 ∨ k = 3 then mustR (inside && decide (n = 0 ∧ b = 0 ∧ t.size = 0 ∧ items.length = 0)) (some (0, false))
    else if k = 4 then mustR (decide (-1152921504606846976 ≤ n ∧ n ≤ 1152921504606846975 ∧ b = 0 ∧ t.size = 0 ∧ items.length = 0)) (some (0, false))
    else if k = 5 then mustR (largeL (bytesN t) && decide (n = 0 ∧ b = 0 ∧ items.length = 0)) (some (0, false))
    else if k = 6 then mustR (decide (b * 2 % 18446744073709551616 / 9007199254740992 ≠ 2047 ∧ n = 0 ∧ t.size = 0 ∧ items.length = 0)) (some (0, false))
    else if k = 7 then mustR (decide (0 ≤ n ∧ n ≤ 255 ∧ b = 0 ∧ t.size = 0 ∧ items.length = 0)) (some (0, false))
    else if k = 8 ∨ k = 9 then mustR (decide (n = 0 ∧ b = 0 ∧ items.length = 0)) (some (0, false))
    else if k = 11 then mustR (decide (n = 0 ∧ b = 0 ∧ items.length = 0)) (some (0, decide (255 < t.size)))
    else if k = 10 then mustR (decide (n = 0 ∧ b = 0 ∧ t.size = 0)) (deeper (manyR (decide (255 < items.length)) (maxR (litsD items))))
    else none
def litsD : List Lt → List Rs
  | [] => []
  | x :: r => litD x true :: litsD r
end
def superN (x : Nd) : Bool := decide (x.kind = 2) && decide (bytesN x.name = [115, 117, 112, 101, 114])
def bindS (s : ByteArray) : Nat := if arityS s = 0 then 5 else if arityS s = 1 ∧ (bytesN s).getLast? ≠ some 58 then 4 else 3
def levelN (x : Nd) : Nat := if x.kind = 3 then 1 else if x.kind = 5 then 2 else if x.kind = 4 then bindS x.name else 6
def recvS (s : ByteArray) : Nat := max 4 (bindS s)
def argS (s : ByteArray) : Nat := if bindS s = 4 then 5 else 4
def partR (x : Nd) (place : Nat) (r : Rs) : Rs := mustR (decide (x.kind ≠ 9 ∧ x.kind ≠ 6)) (if levelN x < place then deeper r else r)
def valueR (x : Nd) (place : Nat) (r : Rs) : Rs := mustR (!superN x) (partR x place r)
def firstR (x : Nd) (sel : ByteArray) (r : Rs) : Rs := if superN x then r else valueR x (recvS sel) r
def valuesR (place : Nat) : List Nd → List Rs → List Rs
  | x :: l, r :: rs => valueR x place r :: valuesR place l rs
  | _, _ => []
def argsR (sel : ByteArray) (l : List Nd) (rs : List Rs) : Rs := mustR (decide (arityS sel = l.length)) (manyR (decide (15 < arityS sel)) (maxR (valuesR (argS sel) l rs)))
def stmtsR : List Nd → List Rs → List Rs
  | [x], r :: _ => [if x.kind = 9 then r else valueR x 1 r]
  | x :: l, r :: rs => valueR x 1 r :: stmtsR l rs
  | _, _ => []
def msgsR : List Nd → List Rs → List Rs
  | x :: l, r :: rs => mustR (decide (x.kind = 6)) r :: msgsR l rs
  | _, _ => []
def namesR (most : Nat) (l : List ByteArray) (r : Rs) : Rs := mustR (l.all freeS) (manyR (decide (most < l.length)) r)
def litZ (l : Lt) : Bool := decide (l.kind = 0 ∧ l.n = 0 ∧ l.bits = 0 ∧ l.text.size = 0 ∧ l.items.length = 0)
def bothR : Rs → Rs → Rs
  | some (d, m), some (e, k) => some (max d e, m || k)
  | _, _ => none
def nodeR (k : Nat) (s : ByteArray) (lit : Lt) (args temps : List ByteArray) (kids : List Nd) (rs : List Rs) : Rs :=
  if k = 1 then mustR (decide (kids.length = 0 ∧ s.size = 0 ∧ args.length = 0 ∧ temps.length = 0)) (litD lit false)
  else if k = 2 then mustR (decide (kids.length = 0 ∧ args.length = 0 ∧ temps.length = 0) && nameS s && litZ lit) (some (0, false))
  else if k = 3 then mustR (decide (args.length = 0 ∧ temps.length = 0) && litZ lit && freeS s) (match kids, rs with | [x], [r] => valueR x 1 r | _, _ => none)
  else if k = 4 then mustR (decide (args.length = 0 ∧ temps.length = 0) && litZ lit && decide (0 ≤ arityS s)) (match kids, rs with | x :: l, r :: q => bothR (firstR x s r) (argsR s l q) | _, _ => none)
  else if k = 6 then mustR (decide (args.length = 0 ∧ temps.length = 0) && litZ lit) (argsR s kids rs)
  else if k = 5 then mustR (decide (s.size = 0 ∧ args.length = 0 ∧ temps.length = 0 ∧ 2 < kids.length) && litZ lit) (match kids, rs with | x :: y :: l, r :: q => manyR (decide (256 < kids.length)) (bothR (maxR (msgsR (y :: l) q)) (firstR x y.name r)) | _, _ => none)
  else if k = 7 then mustR (decide (s.size = 0) && litZ lit) (namesR 15 args (namesR 63 temps (deeper (maxR (stmtsR kids rs)))))
  else if k = 8 then mustR (decide (s.size = 0 ∧ args.length = 0 ∧ temps.length = 0) && litZ lit) (deeper (manyR (decide (255 < kids.length)) (maxR (valuesR 1 kids rs))))
  else if k = 9 then mustR (decide (s.size = 0 ∧ args.length = 0 ∧ temps.length = 0) && litZ lit) (match kids, rs with | [x], [r] => valueR x 1 r | _, _ => none)
  else none
mutual
def nodeD : Nd → Rs
  | .mk k s lit args temps kids _ => nodeR k s lit args temps kids (nodesD kids)
def nodesD : List Nd → List Rs
  | [] => []
  | x :: r => nodeD x :: nodesD r
end
theorem nodesD_map : ∀ l : List Nd, nodesD l = l.map nodeD := by
  intro l
  induction l with
  | nil => rfl
  | cons x r ih => simp only [nodesD, ih, List.map_cons]
theorem litsD_map : ∀ l : List Lt, litsD l = l.map fun x => litD x true := by
  intro l
  induction l with
  | nil => rfl
  | cons x r ih => simp only [litsD, ih, List.map_cons]
def endE (deep : Nat → Bool) : Rs → Nat
  | none => 150
  | some (d, m) => if m then 151 else if deep d then 152 else 0
def checkN (x : Nd) : Nat := endE (fun d => decide (40 < d)) (valueR x 0 (nodeD x))
def soundN (x : Nd) : Option Nat := match nodeD x with | some (d, false) => some d | _ => none
mutual
def allN : Nd → List Nd
  | .mk k s lit args temps kids p => .mk k s lit args temps kids p :: allsN kids
def allsN : List Nd → List Nd
  | [] => []
  | x :: r => allN x ++ allsN r
end
mutual
def Nd.bare : Nd → Nd
  | .mk k s lit args temps kids _ => .mk k s lit args temps (Nd.bares kids) 0
def Nd.bares : List Nd → List Nd
  | [] => []
  | x :: r => x.bare :: Nd.bares r
end
mutual
def litEq : Lt → Lt → Bool
  | .mk k n b t l, .mk k' n' b' t' l' => decide (k = k') && decide (n = n') && decide (b = b') && decide (t = t') && litsEq l l'
def litsEq : List Lt → List Lt → Bool
  | [], [] => true
  | x :: r, y :: q => litEq x y && litsEq r q
  | _, _ => false
end
mutual
def ndEq : Nd → Nd → Bool
  | .mk k s l a t ks _, .mk k' s' l' a' t' ks' _ => decide (k = k') && decide (s = s') && decide (a = a') && decide (t = t') && litEq l l' && ndsEq ks ks'
def ndsEq : List Nd → List Nd → Bool
  | [], [] => true
  | x :: r, y :: q => ndEq x y && ndsEq r q
  | _, _ => false
end
theorem maxR_none : ∀ {l : List Rs}, none ∈ l → maxR l = none := by
  intro l
  induction l with
  | nil => intro h; cases h
  | cons r l ih =>
    intro h
    cases r with
    | none => rfl
    | some p =>
      rcases List.mem_cons.1 h with h | h
      · cases h
      · simp only [maxR, ih h]
theorem maxR_snoc {d e : Nat} {m k : Bool} : ∀ {l : List Rs}, maxR l = some (d, m) → maxR (l ++ [some (e, k)]) = some (max d e, m || k) := by
  intro l
  induction l generalizing d m with
  | nil => intro h; cases h; simp [maxR]
  | cons r l ih =>
    intro h
    cases r with
    | none => cases h
    | some p =>
      simp only [maxR] at h
      cases hl : maxR l with
      | none => rw [hl] at h; cases h
      | some q =>
        rw [hl] at h
        cases h
        simp only [List.cons_append, maxR, ih hl, Option.some.injEq, Prod.mk.injEq]
        exact ⟨by omega, by rw [Bool.or_assoc]⟩
theorem maxR_le {K : Nat} : ∀ {l : List Rs} {d : Nat} {m : Bool}, (∀ r ∈ l, ∀ d m, r = some (d, m) → d ≤ K) → maxR l = some (d, m) → d ≤ K := by
  intro l
  induction l with
  | nil => intro d m _ h; cases h; omega
  | cons r l ih =>
    intro d m hl h
    cases r with
    | none => cases h
    | some p =>
      simp only [maxR] at h
      cases hq : maxR l with
      | none => rw [hq] at h; cases h
      | some q =>
        rw [hq] at h
        cases h
        have h1 := hl (some p) (by simp) p.1 p.2 rfl
        have h2 := ih (fun r hr => hl r (by simp [hr])) hq
        omega
theorem mustR_some {b : Bool} {r : Rs} {p : Nat × Bool} (h : mustR b r = some p) : r = some p := by
  unfold mustR at h
  split at h
  · exact h
  · cases h
theorem manyR_some {b : Bool} {r : Rs} {d : Nat} {m : Bool} (h : manyR b r = some (d, m)) : ∃ m', r = some (d, m') := by
  cases r with
  | none => cases h
  | some p => cases h; exact ⟨_, rfl⟩
theorem deeper_some {r : Rs} {d : Nat} {m : Bool} (h : deeper r = some (d, m)) : ∃ d', d = d' + 1 ∧ r = some (d', m) := by
  cases r with
  | none => cases h
  | some p => cases h; exact ⟨_, rfl, rfl⟩
theorem litD_le : ∀ (N : Nat) (x : Lt), x.size ≤ N → ∀ (i : Bool) (d : Nat) (m : Bool), litD x i = some (d, m) → d ≤ x.size := by
  intro N
  induction N with
  | zero => intro x hx; have := x.size_pos; omega
  | succ N ih =>
    intro x hx i d m h
    cases x with
    | mk k n b t items =>
    simp only [Lt.size] at hx ⊢
    simp only [litD] at h
    have zero : ∀ (c : Bool) (q : Bool), mustR c (some (0, q)) = some (d, m) → d = 0 := fun c q h => by have := mustR_some h; cases this; rfl
    split at h
    · have := zero _ _ h; omega
    split at h
    · have := zero _ _ h; omega
    split at h
    · have := zero _ _ h; omega
    split at h
    · have := zero _ _ h; omega
    split at h
    · have := zero _ _ h; omega
    split at h
    · have := zero _ _ h; omega
    split at h
    · have := zero _ _ h; omega
    split at h
    · obtain ⟨d', hd, h2⟩ := deeper_some (mustR_some h)
      obtain ⟨m', h3⟩ := manyR_some h2
      rw [litsD_map] at h3
      have := maxR_le (K := Lt.sizes items) (fun r hr d m e => by
        obtain ⟨y, hy, rfl⟩ := List.mem_map.1 hr
        have h1 := Lt.sizes_mem hy
        have h2 := ih y (by omega) true d m e
        omega) h3
      omega
    · cases h
theorem valuesR_map (place : Nat) : ∀ l : List Nd, valuesR place l (l.map nodeD) = l.map fun x => valueR x place (nodeD x) := by
  intro l
  induction l with
  | nil => rfl
  | cons x r ih => simp only [List.map_cons, valuesR, ih]
theorem msgsR_map : ∀ l : List Nd, msgsR l (l.map nodeD) = l.map fun x => mustR (decide (x.kind = 6)) (nodeD x) := by
  intro l
  induction l with
  | nil => rfl
  | cons x r ih => simp only [List.map_cons, msgsR, ih]
theorem stmtsR_snoc (x : Nd) : ∀ l : List Nd, stmtsR (l ++ [x]) ((l ++ [x]).map nodeD) = (l.map fun y => valueR y 1 (nodeD y)) ++ [if x.kind = 9 then nodeD x else valueR x 1 (nodeD x)] := by
  intro l
  induction l with
  | nil => rfl
  | cons y r ih =>
    cases r with
    | nil => rfl
    | cons z r => simpa [stmtsR] using ih
theorem valueR_le {x : Nd} {place K d : Nat} {r : Rs} {m : Bool} (hr : ∀ d m, r = some (d, m) → d ≤ K) (h : valueR x place r = some (d, m)) : d ≤ K + 1 := by
  have h2 := mustR_some (mustR_some h)
  split at h2
  · obtain ⟨d', e, h3⟩ := deeper_some h2
    have := hr d' m h3
    omega
  · have := hr d m h2; omega
mutual
def Nd.w : Nd → Nat
  | .mk _ s lit args temps kids _ => 1 + s.size + lit.size + args.length + temps.length + Nd.ws kids
def Nd.ws : List Nd → Nat
  | [] => 0
  | x :: r => x.w + Nd.ws r
end
theorem Nd.w_pos (x : Nd) : 0 < x.w := by cases x; simp only [Nd.w]; omega
theorem Nd.ws_mem {x : Nd} : ∀ {l : List Nd}, x ∈ l → x.w ≤ Nd.ws l := by
  intro l
  induction l with
  | nil => intro h; cases h
  | cons y r ih =>
    intro h
    simp only [Nd.ws]
    rcases List.mem_cons.1 h with rfl | h
    · omega
    · have := ih h; omega
theorem Nd.ws_le {f : Nat → Nat} : ∀ {l : List Nd} {o : Nat}, (∀ i x, l[i]? = some x → x.w ≤ f (o + i)) → Nd.ws l ≤ ((List.range' o l.length).map f).sum := by
  intro l
  induction l with
  | nil => intro o _; simp [Nd.ws]
  | cons y r ih =>
    intro o h
    have h0 := h 0 y rfl
    have h1 := ih (o := o + 1) (fun i x e => by have := h (i + 1) x e; rwa [Nat.add_assoc, Nat.add_comm 1 i])
    simp only [Nd.ws, List.length_cons, List.range'_succ, List.map_cons, List.sum_cons, Nat.add_zero] at h0 h1 ⊢
    omega
theorem Lt.sizes_le {f : Nat → Nat} : ∀ {l : List Lt} {o : Nat}, (∀ i x, l[i]? = some x → x.size ≤ f (o + i)) → Lt.sizes l ≤ ((List.range' o l.length).map f).sum := by
  intro l
  induction l with
  | nil => intro o _; simp [Lt.sizes]
  | cons y r ih =>
    intro o h
    have h0 := h 0 y rfl
    have h1 := ih (o := o + 1) (fun i x e => by have := h (i + 1) x e; rwa [Nat.add_assoc, Nat.add_comm 1 i])
    simp only [Lt.sizes, List.length_cons, List.range'_succ, List.map_cons, List.sum_cons, Nat.add_zero] at h0 h1 ⊢
    omega
theorem bothR_le {K d : Nat} {m : Bool} {p q : Rs} (hp : ∀ d m, p = some (d, m) → d ≤ K) (hq : ∀ d m, q = some (d, m) → d ≤ K) (h : bothR p q = some (d, m)) : d ≤ K := by
  cases p with
  | none => cases h
  | some p =>
    cases q with
    | none => cases h
    | some q =>
      simp only [bothR, Option.some.injEq, Prod.mk.injEq] at h
      have h1 := hp p.1 p.2 rfl
      have h2 := hq q.1 q.2 rfl
      omega
theorem stmtsR_len : ∀ l : List Nd, (stmtsR l (l.map nodeD)).length = l.length := by
  intro l
  induction l with
  | nil => rfl
  | cons x r ih =>
    cases r with
    | nil => rfl
    | cons y r => simpa [stmtsR] using ih
theorem stmtsR_get : ∀ (l : List Nd) (j : Nat) (y : Nd), l[j]? = some y → (stmtsR l (l.map nodeD))[j]? = some (if y.kind = 9 ∧ j + 1 = l.length then nodeD y else valueR y 1 (nodeD y)) := by
  intro l
  induction l with
  | nil => intro j y h; simp at h
  | cons x r ih =>
    intro j y h
    cases r with
    | nil =>
      cases j with
      | zero =>
        simp only [List.getElem?_cons_zero, Option.some.injEq] at h
        subst h
        simp [stmtsR]
      | succ j => simp at h
    | cons z r =>
      cases j with
      | zero =>
        simp only [List.getElem?_cons_zero, Option.some.injEq] at h
        subst h
        simp [stmtsR]
      | succ j =>
        have := ih j y (by simpa using h)
        simpa [stmtsR] using this
theorem nodeD_le : ∀ (N : Nat) (x : Nd), x.w ≤ N → ∀ (d : Nat) (m : Bool), nodeD x = some (d, m) → d ≤ 2 * x.w := by
  intro N
  induction N with
  | zero => intro x hx; have := x.w_pos; omega
  | succ N ih =>
    intro x hx d m h
    cases x with
    | mk k s lit args temps kids p =>
    simp only [Nd.w] at hx ⊢
    have hk : ∀ y ∈ kids, ∀ d m, nodeD y = some (d, m) → d ≤ 2 * Nd.ws kids := fun y hy d m e => by
      have h1 := Nd.ws_mem hy
      have h2 := ih y (by omega) d m e
      omega
    have hv : ∀ (y : Nd) (pl : Nat), y ∈ kids → ∀ d m, valueR y pl (nodeD y) = some (d, m) → d ≤ 2 * Nd.ws kids + 1 := fun y pl hy d m e => valueR_le (hk y hy) e
    have hvs : ∀ (l : List Nd) (pl : Nat), (∀ y ∈ l, y ∈ kids) → ∀ d m, maxR (valuesR pl l (l.map nodeD)) = some (d, m) → d ≤ 2 * Nd.ws kids + 1 := fun l pl hl d m e => by
      rw [valuesR_map] at e
      refine maxR_le (fun r hr d m e => ?_) e
      obtain ⟨y, hy, rfl⟩ := List.mem_map.1 hr
      exact hv y pl (hl y hy) d m e
    have ha : ∀ (l : List Nd) (q : ByteArray), (∀ y ∈ l, y ∈ kids) → ∀ d m, argsR q l (l.map nodeD) = some (d, m) → d ≤ 2 * Nd.ws kids + 1 := fun l q hl d m e => by
      obtain ⟨m', h2⟩ := manyR_some (mustR_some e)
      exact hvs l _ hl d m' h2
    have hf : ∀ (y : Nd) (q : ByteArray), y ∈ kids → ∀ d m, firstR y q (nodeD y) = some (d, m) → d ≤ 2 * Nd.ws kids + 1 := fun y q hy d m e => by
      unfold firstR at e
      split at e
      · have := hk y hy d m e; omega
      · exact hv y _ hy d m e
    have hone : ∀ d m, (match kids, kids.map nodeD with | [x], [r] => valueR x 1 r | _, _ => none) = some (d, m) → d ≤ 2 * Nd.ws kids + 1 := fun d m e => by
      match kids, hv, e with
      | [y], hv, e => exact hv y 1 (by simp) d m e
      | [], _, e => cases e
      | _ :: _ :: _, _, e => cases e
    simp only [nodeD, nodesD_map, nodeR] at h
    split at h
    · have h2 := litD_le _ lit (Nat.le_refl _) false d m (mustR_some h); omega
    split at h
    · have := mustR_some h; cases this; omega
    split at h
    · have := hone d m (mustR_some h); omega
    split at h
    · have h2 := mustR_some h
      match kids, hf, ha, h2 with
      | [], _, _, h2 => cases h2
      | y :: l, hf, ha, h2 =>
        have := bothR_le (hf y s (by simp)) (ha l s (fun z hz => by simp [hz])) h2
        omega
    split at h
    · have := ha kids s (fun _ h => h) d m (mustR_some h); omega
    split at h
    · have h2 := mustR_some h
      match kids, hf, hk, h2 with
      | [], _, _, h2 => cases h2
      | [_], _, _, h2 => cases h2
      | y :: z :: l, hf, hk, h2 =>
        obtain ⟨m', h3⟩ := manyR_some h2
        have := bothR_le (K := 2 * Nd.ws (y :: z :: l) + 1) (fun d m e => ?_) (hf y z.name (by simp)) h3
        · omega
        · change maxR (msgsR (z :: l) ((z :: l).map nodeD)) = some (d, m) at e
          rw [msgsR_map] at e
          have := maxR_le (K := 2 * Nd.ws (y :: z :: l)) (fun r hr d m e => by
            obtain ⟨u, hu, rfl⟩ := List.mem_map.1 hr
            exact hk u (List.mem_cons_of_mem _ hu) d m (mustR_some e)) e
          omega
    split at h
    · have h2 := mustR_some h
      simp only [namesR] at h2
      obtain ⟨m', h3⟩ := manyR_some (mustR_some h2)
      obtain ⟨m'', h4⟩ := manyR_some (mustR_some h3)
      obtain ⟨d', rfl, h5⟩ := deeper_some h4
      have := maxR_le (K := 2 * Nd.ws kids + 1) (fun r hr d m e => by
        obtain ⟨j, hj⟩ := List.getElem?_of_mem hr
        have hjl := (List.getElem?_eq_some_iff.1 hj).1
        rw [stmtsR_len] at hjl
        have hget := stmtsR_get kids j kids[j] (List.getElem?_eq_getElem hjl)
        rw [hget] at hj
        have hmem : kids[j] ∈ kids := List.getElem_mem _
        split at hj
        · cases hj; have := hk _ hmem d m e; omega
        · cases hj; exact hv _ 1 hmem d m e) h5
      omega
    split at h
    · obtain ⟨d', rfl, h5⟩ := deeper_some (mustR_some h)
      obtain ⟨m', h6⟩ := manyR_some h5
      have := hvs kids 1 (fun _ h => h) d' m' h6
      omega
    split at h
    · have := hone d m (mustR_some h); omega
    · cases h
theorem cells_row {b sz : Nat} : ∀ {rows : List (List Value)} {o : Nat}, (∀ r ∈ rows, r.length = sz) → ∀ {i : Nat} {r : List Value}, rows[i]? = some r → ∀ y ∈ cellsAt b (o + i * sz) r, y ∈ cellsAt b o rows.flatten := by
  intro rows
  induction rows with
  | nil => intro o _ i r h; simp at h
  | cons q rows ih =>
    intro o h i r hi y hy
    rw [List.flatten_cons, cellsAt_append, List.mem_append]
    cases i with
    | zero =>
      simp only [List.getElem?_cons_zero, Option.some.injEq] at hi
      subst hi
      rw [Nat.zero_mul, Nat.add_zero] at hy
      exact .inl hy
    | succ i =>
      right
      rw [h q (by simp)]
      refine ih (fun r hr => h r (by simp [hr])) (by simpa using hi) y ?_
      rwa [show o + sz + i * sz = o + (i + 1) * sz by rw [Nat.succ_mul]; omega]
theorem rows_len {sz : Nat} : ∀ {rows : List (List Value)}, (∀ r ∈ rows, r.length = sz) → rows.flatten.length = rows.length * sz := by
  intro rows
  induction rows with
  | nil => intro _; simp
  | cons q rows ih =>
    intro h
    rw [List.flatten_cons, List.length_append, h q (by simp), ih fun r hr => h r (by simp [hr]), List.length_cons, Nat.succ_mul]; omega
theorem lt_made {B : List Atom} {k : Nat} {n : Int} {b : Nat} {t : ByteArray} {items : List Lt} {sv : Value} {rows : List (List Value)} {sp : List Value} (hsl : IsSl 5 sv items.length rows.flatten sp) (hl : rows.length = items.length) (h5 : ∀ r ∈ rows, r.length = 5)
    (hr : ∀ (i : Nat) x r, items[i]? = some x → rows[i]? = some r → LtRd B x r) (wf : LtWf k n b t items.length) : LtRd (slA sv rows.flatten sp ++ B) (.mk k n b t items) [cv k, vi n, uv b, .string t, sv] := by
  have hget : ∀ i, i < items.length → rows[i]? = some (rows.getD i []) := fun i hi => by
    rw [List.getD_eq_getElem?_getD, List.getElem?_eq_getElem (by omega)]; rfl
  generalize hm : items.length = m at hsl
  generalize hxs : rows.flatten = xs at hsl ⊢
  cases hsl with
  | @mk bk o _ c _ _ h1 h2 h3 =>
    rw [← hm]
    subst hxs
    refine .mk (bk := bk) (o := o) (us := fun i => rows.getD i []) wf (fun _ => rfl) (fun i hi y hy => ?_) (fun i x hx => ?_)
    · refine List.mem_append_left _ ?_
      simp only [slA, cellsAt_append]
      exact List.mem_append_left _ (cells_row h5 (hget i hi) y hy)
    · have hi := (List.getElem?_eq_some_iff.1 hx).1
      exact (hr i x _ hx (hget i hi)).more fun y hy => List.mem_append_right _ hy
  | nil =>
    have h0 : items = [] := List.eq_nil_of_length_eq_zero hm
    subst h0
    exact .mk (bk := 0) (o := 0) (us := fun _ => []) wf (fun h => absurd h (by simp)) (fun i hi => absurd hi (by simp)) (fun i x hx => by simp at hx)
theorem nd_made {B : List Atom} {k : Nat} {s : ByteArray} {lit : Lt} {args temps : List ByteArray} {kids : List Nd} {p : Int} {lv : List Value} {av tv sv : Value} {rows : List (List Value)} {sp : List Value} (hsl : IsSl 11 sv kids.length rows.flatten sp) (hl : rows.length = kids.length) (h11 : ∀ r ∈ rows, r.length = 11)
    (hr : ∀ (i : Nat) x r, kids[i]? = some x → rows[i]? = some r → NdRd B x r) (wf : NdWf k s kids.length p) (hlt : LtRd B lit lv) (hav : RdT B av args) (htv : RdT B tv temps) : NdRd (slA sv rows.flatten sp ++ B) (.mk k s lit args temps kids p) ([cv k, .string s] ++ lv ++ [av, tv, sv, vi p]) := by
  have hget : ∀ i, i < kids.length → rows[i]? = some (rows.getD i []) := fun i hi => by
    rw [List.getD_eq_getElem?_getD, List.getElem?_eq_getElem (by omega)]; rfl
  have hsub : ∀ y ∈ B, y ∈ slA sv rows.flatten sp ++ B := fun y hy => List.mem_append_right _ hy
  have hlt2 := hlt.more hsub
  have hav2 := hav.more hsub
  have htv2 := htv.more hsub
  clear hlt hav htv
  generalize hm : kids.length = m at hsl
  generalize hxs : rows.flatten = xs at hsl ⊢
  cases hsl with
  | @mk bk o _ c _ _ h1 h2 h3 =>
    rw [← hm]
    subst hxs
    refine .mk (bk := bk) (o := o) (us := fun i => rows.getD i []) wf hlt2 hav2 htv2 (fun _ => rfl) (fun i hi y hy => ?_) (fun i x hx => ?_) (by omega)
    · refine List.mem_append_left _ ?_
      simp only [slA, cellsAt_append]
      exact List.mem_append_left _ (cells_row h11 (hget i hi) y hy)
    · have hi := (List.getElem?_eq_some_iff.1 hx).1
      exact (hr i x _ hx (hget i hi)).more hsub
  | nil =>
    have h0 : kids = [] := List.eq_nil_of_length_eq_zero hm
    subst h0
    exact .mk (bk := 0) (o := 0) (us := fun _ => []) wf hlt2 hav2 htv2 (fun h => absurd h (by simp)) (fun i hi => absurd hi (by simp)) (fun i x hx => by simp at hx) (by simp)
theorem texts_made {sv : Value} {l : List ByteArray} {sp : List Value} {n : Nat} (hn : n = l.length) (hsl : IsSl 1 sv n (l.map Value.string) sp) (hl : l.length ≤ 1099511627776) (ht : ∀ t ∈ l, t.size ≤ 140737488355328) : RdT (slA sv (l.map Value.string) sp) sv l := by
  generalize hx : l.map Value.string = xs at hsl
  cases hsl with
  | @mk bk o _ c _ _ h1 h2 h3 =>
    subst hx
    refine ⟨_, c, by rw [hn], hl, fun i t e => ⟨bk, o, rfl, ?_, ht t (List.mem_of_getElem? e)⟩⟩
    simp only [slA, cellsAt_append]
    refine List.mem_append_left _ (mem_cellsAt.2 ⟨i, _, ?_, rfl⟩)
    rw [List.getElem?_map, e]; rfl
  | nil =>
    have h0 : l = [] := List.eq_nil_of_length_eq_zero hn.symm
    subst h0
    exact ⟨none, 0, rfl, by simp, fun i t e => by simp at e⟩
theorem st_append0 {P : Program} {n : Nat} {rs : List RO} {Γ : Env} {H : SH} {Z : List PanicEntry → Env → SH → Prop} {K : Env → SH → Prop} {d : Option Nat} {t : TypeId} {size bytes : Nat} {zero : List Value} {s x : Operand} {b o k c c2 : Nat} {ad : Addr}
    (hs : ev Γ s = some (.slice (some ⟨b, o, none⟩) k c)) (hx : ev Γ x = some (.slice (some ad) 0 c2)) (hle : k ≤ c) (h : VO P n rs (putE d (.slice (some ⟨b, o, none⟩) k c) Γ) H Z K) : VO P n (⟨d, none, .append t size bytes zero s x⟩ :: rs) Γ H Z K := by
  refine VO.act' rfl rfl (fun ρ hρ => ⟨_, rfl, ?_⟩)
  rw [hρ _ _ hs, hρ _ _ hx]
  simp only [seqLen]
  rw [if_pos (show k + 0 ≤ c by omega)]
  have e0 : (Builtin.firstCells size 0 (.slice (some ad) 0 c2) : Sem (Array Value)) = pure #[] := by
    simp only [Builtin.firstCells, Nat.zero_mul]; rfl
  rw [e0]
  refine SWP.bind (SWP.pure ?_)
  refine SWP.bind (SWP.pure (SWP.pure ?_))
  exact ⟨_, H, [], .inl rfl, by simp, h⟩
theorem sizes_ge : ∀ l : List Lt, l.length ≤ Lt.sizes l := by
  intro l
  induction l with
  | nil => exact Nat.zero_le _
  | cons x r ih => have := x.size_pos; simp only [Lt.sizes, List.length_cons]; omega
theorem ws_ge : ∀ l : List Nd, l.length ≤ Nd.ws l := by
  intro l
  induction l with
  | nil => exact Nat.zero_le _
  | cons x r ih => have := x.w_pos; simp only [Nd.ws, List.length_cons]; omega
theorem litsEq_iff : ∀ l l' : List Lt, litsEq l l' = true ↔ l.length = l'.length ∧ ∀ (j : Nat) x y, l[j]? = some x → l'[j]? = some y → litEq x y = true := by
  intro l
  induction l with
  | nil =>
    intro l'
    cases l' with
    | nil => simp [litsEq]
    | cons y r => simp [litsEq]
  | cons x r ih =>
    intro l'
    cases l' with
    | nil => simp [litsEq]
    | cons y q =>
      simp only [litsEq, Bool.and_eq_true, ih q, List.length_cons]
      constructor
      · rintro ⟨h1, h2, h3⟩
        refine ⟨by omega, fun j => ?_⟩
        cases j with
        | zero => intro x' y' e1 e2; cases e1; cases e2; exact h1
        | succ j => intro x' y' e1 e2; exact h3 j x' y' (by simpa using e1) (by simpa using e2)
      · rintro ⟨h1, h2⟩
        exact ⟨h2 0 x y rfl rfl, by omega, fun j x' y' e1 e2 => h2 (j + 1) x' y' (by simpa using e1) (by simpa using e2)⟩
theorem ndsEq_iff : ∀ l l' : List Nd, ndsEq l l' = true ↔ l.length = l'.length ∧ ∀ (j : Nat) x y, l[j]? = some x → l'[j]? = some y → ndEq x y = true := by
  intro l
  induction l with
  | nil =>
    intro l'
    cases l' with
    | nil => simp [ndsEq]
    | cons y r => simp [ndsEq]
  | cons x r ih =>
    intro l'
    cases l' with
    | nil => simp [ndsEq]
    | cons y q =>
      simp only [ndsEq, Bool.and_eq_true, ih q, List.length_cons]
      constructor
      · rintro ⟨h1, h2, h3⟩
        refine ⟨by omega, fun j => ?_⟩
        cases j with
        | zero => intro x' y' e1 e2; cases e1; cases e2; exact h1
        | succ j => intro x' y' e1 e2; exact h3 j x' y' (by simpa using e1) (by simpa using e2)
      · rintro ⟨h1, h2⟩
        exact ⟨h2 0 x y rfl rfl, by omega, fun j x' y' e1 e2 => h2 (j + 1) x' y' (by simpa using e1) (by simpa using e2)⟩
theorem litsEq_false {l l' : List Lt} {j : Nat} {x y : Lt} (h1 : l[j]? = some x) (h2 : l'[j]? = some y) (h : litEq x y = false) : litsEq l l' = false :=
  Bool.eq_false_iff.2 fun e => by have := ((litsEq_iff l l').1 e).2 j x y h1 h2; rw [h] at this; cases this
theorem ndsEq_false {l l' : List Nd} {j : Nat} {x y : Nd} (h1 : l[j]? = some x) (h2 : l'[j]? = some y) (h : ndEq x y = false) : ndsEq l l' = false :=
  Bool.eq_false_iff.2 fun e => by have := ((ndsEq_iff l l').1 e).2 j x y h1 h2; rw [h] at this; cases this
theorem litsEq_len {l l' : List Lt} (h : l.length ≠ l'.length) : litsEq l l' = false := Bool.eq_false_iff.2 fun e => h ((litsEq_iff l l').1 e).1
theorem ndsEq_len {l l' : List Nd} (h : l.length ≠ l'.length) : ndsEq l l' = false := Bool.eq_false_iff.2 fun e => h ((ndsEq_iff l l').1 e).1
theorem texts_eq {l l' : List ByteArray} (h1 : l.length = l'.length) (h2 : ∀ (j : Nat) x y, l[j]? = some x → l'[j]? = some y → x = y) : l = l' := by
  apply List.ext_getElem? 
  intro j
  by_cases hj : j < l.length
  · rw [List.getElem?_eq_getElem hj, List.getElem?_eq_getElem (h1 ▸ hj)]
    rw [h2 j l[j] (l'[j]'(h1 ▸ hj)) (List.getElem?_eq_getElem hj) (List.getElem?_eq_getElem (h1 ▸ hj))]
  · rw [List.getElem?_eq_none (by omega), List.getElem?_eq_none (by omega)]
structure Hd where
  cls : Nat
  fmt : Nat
  spare : Nat
  hash : Nat
  age : Nat
  slots : Nat
  marked : Bool
  noted : Bool
def b2n (b : Bool) : Nat := if b then 1 else 0
theorem b2n_le (b : Bool) : b2n b ≤ 1 := by cases b <;> decide
structure Hd.May (h : Hd) : Prop where
  cls : h.cls ≤ 4095
  hash : h.hash ≤ 4194303
  age : h.age ≤ 15
  slots : h.slots ≤ 65536
  spare : h.spare ≤ 7
  fmt : 1 ≤ h.fmt ∧ h.fmt ≤ 6
  plain : h.fmt ≤ 4 → h.spare = 0
  eph : h.fmt = 3 → 0 < h.slots
  meth : h.fmt = 6 → 0 < h.slots
  some : h.spare ≠ 0 → (if h.fmt = 6 then 1 else 0) < h.slots
def pk (h : Hd) : Nat := h.cls + h.fmt * 4096 + h.spare * 32768 + h.hash * 262144 + h.age * 1099511627776 + b2n h.marked * 17592186044416 + b2n h.noted * 35184372088832
theorem Hd.May.lt {h : Hd} (m : h.May) : pk h < 70368744177664 := by
  obtain ⟨h1, h2, h3, h4, h5, h6, _⟩ := m
  have := b2n_le h.marked
  have := b2n_le h.noted
  unfold pk
  omega
structure Ob where
  at_ : Nat
  hd : Hd
  body : List Nat
def Ob.many (b : Ob) : Nat := if b.hd.fmt = 6 then b.body.headD 0 / 8 + 1 else if b.hd.fmt = 4 ∨ b.hd.fmt = 5 then 0 else b.hd.slots
def Ob.stop (b : Ob) : Nat := b.at_ + 2 + b.hd.slots
structure Ob.Ok (b : Ob) : Prop where
  may : b.hd.May
  len : b.body.length = b.hd.slots
  small : ∀ x ∈ b.body, x < 18446744073709551616
  meth : b.hd.fmt = 6 → ∃ n r, b.body = (8 * n + 1) :: r ∧ n ≤ r.length
theorem Ob.Ok.many {b : Ob} (h : b.Ok) : b.many ≤ b.hd.slots := by
  unfold Ob.many
  split
  · rename_i e
    obtain ⟨n, r, e1, e2⟩ := h.meth e
    have := h.len
    rw [e1] at this ⊢
    simp only [List.headD_cons, List.length_cons] at *
    omega
  · split <;> omega
structure Lay (ws st : List Nat) (obs : List Ob) : Prop where
  small : ∀ x ∈ ws, x < 18446744073709551616
  sts : ∀ x ∈ st, x < 18446744073709551616
  stl : st.length = ws.length / 64 + 1
  len : ws.length < 4194304
  ok : ∀ b ∈ obs, b.Ok
  low : ∀ b ∈ obs, 2 ≤ b.at_
  high : ∀ b ∈ obs, b.stop ≤ ws.length
  head : ∀ b ∈ obs, ws[b.at_]? = some (pk b.hd) ∧ ws[b.at_ + 1]? = some b.hd.slots
  body : ∀ b ∈ obs, ∀ i < b.hd.slots, ws[b.at_ + 2 + i]? = b.body[i]?
  sort : obs.Pairwise fun a b => a.stop ≤ b.at_
  bits : ∀ w, w < ws.length → (bitAt st w = true ↔ ∃ b ∈ obs, b.at_ = w)
theorem sort_one {obs : List Ob} (h : obs.Pairwise fun a b => a.stop ≤ b.at_) {a b : Ob} (ha : a ∈ obs) (hb : b ∈ obs) (e : a.at_ = b.at_) : a = b := by
  induction obs with
  | nil => cases ha
  | cons x r ih =>
    obtain ⟨h1, h2⟩ := List.pairwise_cons.1 h
    rcases List.mem_cons.1 ha with rfl | ha'
    · rcases List.mem_cons.1 hb with rfl | hb'
      · rfl
      · have := h1 b hb'; unfold Ob.stop at this; omega
    · rcases List.mem_cons.1 hb with rfl | hb'
      · have := h1 a ha'; unfold Ob.stop at this; omega
      · exact ih h2 ha' hb'
theorem sort_apart {obs : List Ob} (h : obs.Pairwise fun a b => a.stop ≤ b.at_) {a b : Ob} (ha : a ∈ obs) (hb : b ∈ obs) (hne : a ≠ b) : a.stop ≤ b.at_ ∨ b.stop ≤ a.at_ := by
  induction obs with
  | nil => cases ha
  | cons x r ih =>
    obtain ⟨h1, h2⟩ := List.pairwise_cons.1 h
    rcases List.mem_cons.1 ha with rfl | ha'
    · rcases List.mem_cons.1 hb with rfl | hb'
      · exact absurd rfl hne
      · exact .inl (h1 b hb')
    · rcases List.mem_cons.1 hb with rfl | hb'
      · exact .inr (h1 a ha')
      · exact ih h2 ha' hb'
def kU : KEnc Nat := ⟨.int, uv, fun a b => by
  show some (decide (((a : Nat) : Int) = ((b : Nat) : Int))) = some (decide (a = b))
  congr 1; rw [decide_eq_decide]; omega⟩
structure AH where
  rm : List (Nat × Nat × Nat)
  obs : List Ob
  sp : List Nat
  cl : List Nat
  stack : List Nat
  queue : List Nat
  noted : List Nat
  ahead : List (Nat × Nat)
  given : Nat
structure HW where
  a : AH
  ws : List Nat
  st : List Nat
  wb : Nat
  sb : Nat
  kv : Value
  qv : Value
  nv : Value
  ks : List Value
  qs : List Value
  ns : List Value
  mb : Nat
  es : Array MapEntry
  mc : Nat
def rmEnc (r : Nat × Nat × Nat) : List Value := [vi r.1, vi r.2.1, vi r.2.2]
def arrV (b : Nat) (l : List Nat) : Value := .slice (some ⟨b, 0, none⟩) l.length l.length
def HMem (p : Nat) (x : HW) : SH :=
  [cellsAt p 0 [arrV x.wb x.ws, arrV x.sb x.st], cellsAt p 4180 [x.kv, x.qv, x.nv, .map (some x.mb), vi x.a.given], cellsAt p 2 (x.a.rm.flatMap rmEnc), cellsAt p 20 (x.a.sp.map uv), cellsAt p 84 (x.a.cl.map uv),
   cellsAt x.wb 0 (x.ws.map uv), cellsAt x.sb 0 (x.st.map uv), slA x.kv (x.a.stack.map uv) x.ks, slA x.qv (x.a.queue.map uv) x.qs, slA x.nv (x.a.noted.map uv) x.ns, [.obj x.mb (.map x.es x.mc)]]
def HMw (p : Nat) (x : HW) (B : List Atom) : SH :=
  [cellsAt p 0 [.slice (some ⟨x.wb, 0, none⟩) x.ws.length x.ws.length, .slice (some ⟨x.sb, 0, none⟩) x.st.length x.st.length], cellsAt p 4180 [x.kv, x.qv, x.nv, .map (some x.mb), vi x.a.given], cellsAt p 2 (x.a.rm.flatMap rmEnc), cellsAt p 20 (x.a.sp.map uv), cellsAt p 84 (x.a.cl.map uv),
   B, cellsAt x.sb 0 (x.st.map uv), slA x.kv (x.a.stack.map uv) x.ks, slA x.qv (x.a.queue.map uv) x.qs, slA x.nv (x.a.noted.map uv) x.ns, [.obj x.mb (.map x.es x.mc)]]
theorem hmw (p : Nat) (x : HW) : HMem p x = HMw p x (cellsAt x.wb 0 (x.ws.map uv)) := rfl
def HA (p : Nat) (x : HW) : List Atom := (HMem p x).flatten
structure RmOk (a : AH) (n : Nat) : Prop where
  len : a.rm.length = 6
  zero : a.rm[0]? = some (0, 0, 0)
  rng : ∀ (i : Nat) (r : Nat × Nat × Nat), a.rm[i]? = some r → r.1 ≤ r.2.2 ∧ r.2.2 ≤ r.2.1 ∧ r.2.1 ≤ n
  low : ∀ (i : Nat) (r : Nat × Nat × Nat), 1 ≤ i → a.rm[i]? = some r → 2 ≤ r.1
  apart : ∀ (i j : Nat) (r s : Nat × Nat × Nat), i < j → a.rm[i]? = some r → a.rm[j]? = some s → 1 ≤ i → r.2.1 ≤ s.1 ∨ s.2.1 ≤ r.1
  inn : ∀ b ∈ a.obs, ∃ (i : Nat) (r : Nat × Nat × Nat), 1 ≤ i ∧ a.rm[i]? = some r ∧ r.1 ≤ b.at_ ∧ b.stop ≤ (if i = 5 then r.2.1 else r.2.2)
structure HOk (x : HW) : Prop where
  lay : Lay x.ws x.st x.a.obs
  rm : RmOk x.a x.ws.length
  spl : x.a.sp.length = 64
  cll : x.a.cl.length = 4096
  sps : ∀ o ∈ x.a.sp, o < 18446744073709551616
  cls : ∀ o ∈ x.a.cl, o < 18446744073709551616
  stks : ∀ o ∈ x.a.stack, o < 18446744073709551616
  ques : ∀ o ∈ x.a.queue, o < 18446744073709551616
  nots : ∀ o ∈ x.a.noted, o < 18446744073709551616
  stk : IsSl 1 x.kv x.a.stack.length (x.a.stack.map uv) x.ks
  que : IsSl 1 x.qv x.a.queue.length (x.a.queue.map uv) x.qs
  note : IsSl 1 x.nv x.a.noted.length (x.a.noted.map uv) x.ns
  map : MapIs kU uv x.es x.mc x.a.ahead
  given : x.a.given ≤ 4194303
  deep : x.a.stack.length ≤ 4096
  few : x.a.queue.length ≤ 1073741823 ∧ x.a.noted.length ≤ 1073741823
section
variable {P : Program} {n : Nat} {rs : List RO} {Γ : Env} {H : SH} {Z : List PanicEntry → Env → SH → Prop} {K : Env → SH → Prop}
end
theorem Lay.at_lt {ws st : List Nat} {obs : List Ob} (h : Lay ws st obs) {b : Ob} (hb : b ∈ obs) : b.at_ + 1 < ws.length := by
  have := h.high b hb; unfold Ob.stop at this; omega
theorem HOk.range {x : HW} (h : HOk x) {b : Ob} (hb : b ∈ x.a.obs) : 1 ≤ b.at_ ∧ b.at_ ≤ 268435455 := by
  have h1 := h.lay.low b hb
  have h2 := h.lay.at_lt hb
  have h3 := h.lay.len
  omega
def updO (w : Nat) (f : Ob → Ob) (obs : List Ob) : List Ob := obs.map fun b => if b.at_ = w then f b else b
theorem mem_updO {w : Nat} {f : Ob → Ob} {obs : List Ob} {y : Ob} : y ∈ updO w f obs ↔ ∃ b ∈ obs, y = if b.at_ = w then f b else b := by
  simp only [updO, List.mem_map]; constructor <;> rintro ⟨b, h1, h2⟩ <;> exact ⟨b, h1, h2.symm⟩
structure Keep (f : Ob → Ob) : Prop where
  at_ : ∀ b, (f b).at_ = b.at_
  slots : ∀ b, (f b).hd.slots = b.hd.slots
theorem updO_sort {w : Nat} {f : Ob → Ob} (hf : Keep f) {obs : List Ob} (h : obs.Pairwise fun a b => a.stop ≤ b.at_) : (updO w f obs).Pairwise fun a b => a.stop ≤ b.at_ := by
  unfold updO
  rw [List.pairwise_map]
  refine h.imp (fun {a b} hab => ?_)
  have e1 : ∀ c : Ob, (if c.at_ = w then f c else c).at_ = c.at_ := fun c => by split <;> simp [hf.at_]
  have e2 : ∀ c : Ob, (if c.at_ = w then f c else c).stop = c.stop := fun c => by split <;> simp [Ob.stop, hf.at_, hf.slots]
  rw [e1, e2]; exact hab
theorem updO_at {w : Nat} {f : Ob → Ob} (hf : Keep f) {obs : List Ob} {v : Nat} : (∃ b ∈ updO w f obs, b.at_ = v) ↔ ∃ b ∈ obs, b.at_ = v := by
  have e1 : ∀ c : Ob, (if c.at_ = w then f c else c).at_ = c.at_ := fun c => by split <;> simp [hf.at_]
  constructor
  · rintro ⟨y, hy, rfl⟩
    obtain ⟨b, hb, rfl⟩ := mem_updO.1 hy
    exact ⟨b, hb, (e1 b).symm⟩
  · rintro ⟨b, hb, rfl⟩
    exact ⟨_, mem_updO.2 ⟨b, hb, rfl⟩, e1 b⟩
section
variable {ws st : List Nat} {obs : List Ob}
theorem Lay.upd (h : Lay ws st obs) {b : Ob} (hb : b ∈ obs) {f : Ob → Ob} (hf : Keep f) {ws' : List Nat} (hl : ws'.length = ws.length) (hs : ∀ x ∈ ws', x < 18446744073709551616) (hok : (f b).Ok)
    (hout : ∀ i, ¬ (b.at_ ≤ i ∧ i < b.stop) → ws'[i]? = ws[i]?) (hh : ws'[b.at_]? = some (pk (f b).hd) ∧ ws'[b.at_ + 1]? = some b.hd.slots) (hbd : ∀ i < b.hd.slots, ws'[b.at_ + 2 + i]? = (f b).body[i]?) : Lay ws' st (updO b.at_ f obs) := by
  have key : ∀ c ∈ obs, c.at_ = b.at_ → c = b := fun c hc e => sort_one h.sort hc hb e
  have apart : ∀ c ∈ obs, c.at_ ≠ b.at_ → ∀ i, c.at_ ≤ i → i < c.stop → ws'[i]? = ws[i]? := fun c hc e i h1 h2 => by
    refine hout i (fun h3 => ?_)
    rcases sort_apart h.sort hc hb (fun e' => e (by rw [e'])) with h4 | h4 <;> omega
  have cases_ : ∀ y ∈ updO b.at_ f obs, y = f b ∨ (y ∈ obs ∧ y.at_ ≠ b.at_) := fun y hy => by
    obtain ⟨c, hc, rfl⟩ := mem_updO.1 hy
    split
    · rename_i e; rw [key c hc e]; exact .inl rfl
    · rename_i e; exact .inr ⟨hc, e⟩
  have hfs : (f b).stop = b.stop := by simp [Ob.stop, hf.at_, hf.slots]
  refine ⟨hs, h.sts, by rw [hl]; exact h.stl, by rw [hl]; exact h.len, ?_, ?_, ?_, ?_, ?_, updO_sort hf h.sort, ?_⟩
  · intro y hy
    rcases cases_ y hy with rfl | ⟨h1, _⟩
    · exact hok
    · exact h.ok y h1
  · intro y hy
    rcases cases_ y hy with rfl | ⟨h1, _⟩
    · rw [hf.at_]; exact h.low b hb
    · exact h.low y h1
  · intro y hy
    rw [hl]
    rcases cases_ y hy with rfl | ⟨h1, _⟩
    · rw [hfs]; exact h.high b hb
    · exact h.high y h1
  · intro y hy
    rcases cases_ y hy with rfl | ⟨h1, h2⟩
    · rw [hf.at_, hf.slots]; exact hh
    · have := h.head y h1
      rw [apart y h1 h2 _ (Nat.le_refl _) (by unfold Ob.stop; omega), apart y h1 h2 _ (by omega) (by unfold Ob.stop; omega)]; exact this
  · intro y hy i hi
    rcases cases_ y hy with rfl | ⟨h1, h2⟩
    · rw [hf.at_]; exact hbd i (by rw [hf.slots] at hi; exact hi)
    · rw [apart y h1 h2 _ (by omega) (by unfold Ob.stop; omega)]; exact h.body y h1 i hi
  · intro v hv
    rw [hl] at hv
    rw [updO_at hf]; exact h.bits v hv
end
end Go.V

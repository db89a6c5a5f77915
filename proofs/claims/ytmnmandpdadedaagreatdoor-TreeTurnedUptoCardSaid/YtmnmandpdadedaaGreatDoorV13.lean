/-
  The library's contracts as ours; texts as lists of bytes.
-/
import Derived.Test.YtmnmandpdadedaaGreatDoorV12
import Derived.Below
import Derived.Lib.Bytealg
import Derived.Test.YtmnmandpdadedaaGreatDoorV7
import Derived.ChangeOld
import Derived.RowKit3
import Derived.ChangeSame
import Derived.ChangeSlices
import Derived.RowKit
import Derived.Test.YtmnmandpdadedaaGreatDoorV11
import Derived.Deep.Slices
import Derived.Deep.Fields
set_option linter.unusedSimpArgs false
set_option linter.unusedVariables false
namespace Go.V
open Go
theorem Sat.below {w w' : World} {L : List Atom} (h : RowKit.Below w.heap.size w w') (hs : Sat w L) : Sat w' L := by
  refine ⟨fun x hx => ?_, hs.nodup⟩
  have hl := hs.lt hx
  have hh := hs.holds x hx
  cases x with
  | cell b off v =>
    obtain ⟨c, t, lo, hi, hb, r⟩ := hh
    exact ⟨c, t, lo, hi, by rw [h.block b hl]; exact hb, r⟩
  | obj b o => exact ⟨by rw [h.block b hl]; exact hh.1, hh.2⟩
theorem Keeps.below {w w' : World} (h : RowKit.Below w.heap.size w w') : Keeps w w' :=
  ⟨h.os, h.output, h.size, fun i c t lo hi hi' => ⟨c, by rw [h.block i (Array.getElem?_eq_some_iff.1 hi').1]; exact hi', rfl, fun _ _ => rfl⟩⟩
theorem Fun.of_calls {P : Program} {f : Nat} {args : List Value} {Q : Value → Prop} (hc : callable P f = true) (h : ∀ w, Calls P f args.toArray w fun e w' => ∃ v, e = .returned v ∧ Q v ∧ w' = w) : Fun P f args [] (fun v Post => Q v ∧ Post = []) :=
  ⟨hc, fun F w hs => (h w).mono fun e w' ⟨v, h1, h2, h3⟩ => by subst h3; exact ⟨v, [], h1, ⟨h2, rfl⟩, hs, .refl _⟩⟩
theorem Fun.of_calls2 {P : Program} {f : Nat} {args : List Value} {Q : Value → Prop} {A : List Atom} (hc : callable P f = true) (h : ∀ w F, Sat w (A ++ F) → Calls P f args.toArray w fun e w' => ∃ v, e = .returned v ∧ Q v ∧ RowKit.Below w.heap.size w w') : Fun P f args [A] (fun v Post => Q v ∧ Post = [A]) :=
  ⟨hc, fun F w hs => (h w F (by simpa using hs)).mono fun e w' ⟨v, h1, h2, h3⟩ => ⟨v, [A], h1, ⟨h2, rfl⟩, hs.below h3, .below h3⟩⟩
theorem bytesN_len (s : ByteArray) : (bytesN s).length = s.size := by simp [bytesN]
theorem bytesN_get {s : ByteArray} {i : Nat} {c : UInt8} (h : s[i]? = some c) : (bytesN s)[i]? = some c.toNat := by
  have hi : i < s.size := by
    by_cases hi : i < s.size
    · exact hi
    · simp [hi] at h
  have h2 : s.data[i]? = some c := by
    have h3 : s[i]? = some s[i] := by simp [hi]
    rw [h3] at h
    rw [← h]
    exact Array.getElem?_eq_getElem (xs := s.data) hi
  simp [bytesN, h2]
theorem bytesN_lt (s : ByteArray) : ∀ c ∈ bytesN s, c < 256 := by
  intro c hc
  obtain ⟨x, _, rfl⟩ := List.mem_map.1 hc
  exact x.toNat_lt
theorem bytesN_inj {s t : ByteArray} (h : bytesN s = bytesN t) : s = t := by
  have h2 : s.data.toList = t.data.toList := by
    have hm : ∀ l m : List UInt8, l.map UInt8.toNat = m.map UInt8.toNat → l = m := by
      intro l
      induction l with
      | nil => intro m e; cases m with | nil => rfl | cons => cases e
      | cons a l ih =>
        intro m e
        cases m with
        | nil => cases e
        | cons b m =>
          simp only [List.map_cons, List.cons.injEq] at e
          rw [UInt8.toNat_inj.1 e.1, ih m e.2]
    exact hm _ _ h
  exact ByteArray.ext (Array.toList_inj.1 h2)
theorem bytesN_ex {s : ByteArray} {i : Nat} (h : i < s.size) : ∃ c : UInt8, s[i]? = some c ∧ (bytesN s)[i]? = some c.toNat := ⟨s[i], by simp [h], bytesN_get (by simp [h])⟩
def ixN : List Nat → Nat → Int
  | [], _ => -1
  | b :: l, c => if b = c then 0 else if ixN l c = -1 then -1 else ixN l c + 1
theorem ix_eq (l : List UInt8) (c : UInt8) : Lib.indexByte l c = ixN (l.map UInt8.toNat) c.toNat := by
  induction l with
  | nil => rfl
  | cons b l ih =>
    simp only [Lib.indexByte, List.map_cons, ixN, ih]
    by_cases h : b = c
    · subst h; simp
    · have : b.toNat ≠ c.toNat := fun e => h (UInt8.toNat_inj.1 e)
      simp [h, this]
theorem ixN_bin {c : Nat} (h : c < 256) : decide (0 ≤ ixN [43, 45, 42, 47, 92, 126, 60, 62, 61, 64, 37, 38, 63, 44, 33] c) = binB c := by
  have h2 : ∀ c : Fin 256, decide (0 ≤ ixN [43, 45, 42, 47, 92, 126, 60, 62, 61, 64, 37, 38, 63, 44, 33] c.val) = binB c.val := by decide +kernel
  exact h2 ⟨c, h⟩
theorem ixN_cases (l : List Nat) (c : Nat) : (ixN l c = -1 ∧ c ∉ l) ∨ ∃ p r : List Nat, l = p ++ c :: r ∧ c ∉ p ∧ ixN l c = p.length := by
  induction l with
  | nil => exact .inl ⟨rfl, by simp⟩
  | cons b l ih =>
    by_cases h : b = c
    · subst h; exact .inr ⟨[], l, rfl, by simp, by simp [ixN]⟩
    · rcases ih with ⟨h1, h2⟩ | ⟨p, r, h1, h2, h3⟩
      · exact .inl ⟨by simp [ixN, h, h1], by simp [h2, Ne.symm h]⟩
      · refine .inr ⟨b :: p, r, by simp [h1], by simp [h2, Ne.symm h], ?_⟩
        have hne : ¬ ((p.length : Int) = -1) := by omega
        simp [ixN, h, h3, hne]
theorem pieces_none : ∀ {l : List Nat}, 58 ∉ l → piecesL l = [l] := by
  intro l
  induction l with
  | nil => intro _; rfl
  | cons b l ih =>
    intro h
    simp only [List.mem_cons, not_or] at h
    simp only [piecesL, if_neg (Ne.symm h.1), ih h.2]
theorem pieces_cons : ∀ {p r : List Nat}, 58 ∉ p → piecesL (p ++ 58 :: r) = (p ++ [58]) :: piecesL r := by
  intro p r
  induction p with
  | nil => intro _; simp [piecesL]
  | cons b p ih =>
    intro h
    simp only [List.mem_cons, not_or] at h
    simp only [List.cons_append, piecesL, if_neg (Ne.symm h.1), ih h.2]
theorem all_run {l : List Nat} {p : Nat → Bool} {e : Nat} (h1 : e ≤ l.length) (h2 : ∀ k, k < e → p (l.getD k 0) = true) (h3 : e < l.length → p (l.getD e 0) = false) : l.all p = decide (e = l.length) := by
  by_cases h : e = l.length
  · rw [decide_eq_true h, List.all_eq_true]
    intro x hx
    obtain ⟨i, hi, rfl⟩ := List.getElem_of_mem hx
    have := h2 i (by omega)
    rwa [List.getD_eq_getElem?_getD, List.getElem?_eq_getElem hi] at this
  · rw [decide_eq_false h, List.all_eq_false]
    have hlt : e < l.length := by omega
    have := h3 hlt
    rw [List.getD_eq_getElem?_getD, List.getElem?_eq_getElem hlt] at this
    exact ⟨_, List.getElem_mem hlt, by simpa using this⟩
theorem bytesN_cons {s : ByteArray} (h : s ≠ ⟨#[]⟩) : ∃ (c : UInt8) (r : List Nat), s[0]? = some c ∧ bytesN s = c.toNat :: r ∧ c.toNat < 256 ∧ 0 < s.size := by
  have hpos : 0 < s.size := by
    rcases Nat.eq_zero_or_pos s.size with h2 | h2
    · exact absurd (ByteArray.ext (Array.eq_empty_of_size_eq_zero h2)) h
    · exact h2
  obtain ⟨c, hc, hc2⟩ := bytesN_ex hpos
  refine ⟨c, (bytesN s).tail, hc, ?_, c.toNat_lt, hpos⟩
  cases hb : bytesN s with
  | nil => rw [hb] at hc2; cases hc2
  | cons a r => rw [hb] at hc2; cases hc2; rfl
theorem bytesN_extract (s : ByteArray) (a b : Nat) : bytesN (s.extract a b) = ((bytesN s).take b).drop a := by
  simp only [bytesN, ByteArray.data_extract, Array.toList_extract, List.extract_eq_take_drop, List.map_take, List.map_drop, List.drop_take]
def ofN (l : List Nat) : ByteArray := ⟨(l.map Nat.toUInt8).toArray⟩
theorem bytesN_ofN {l : List Nat} (h : ∀ c ∈ l, c < 256) : bytesN (ofN l) = l := by
  simp only [bytesN, ofN, List.map_map]
  conv => rhs; rw [← List.map_id l]
  refine List.map_congr_left fun c hc => ?_
  exact Nat.mod_eq_of_lt (h c hc)
theorem pieces_flat (l : List Nat) : (piecesL l).flatten = l := by
  induction l with
  | nil => rfl
  | cons c r ih =>
    simp only [piecesL]
    split
    · rename_i h; simp [ih, h]
    · cases h : piecesL r with
      | nil => rw [h] at ih; simp at ih; simp [← ih]
      | cons p ps => rw [h] at ih; simp at ih ⊢; exact ih
theorem pieces_ex (t : ByteArray) : ∃ full : List ByteArray, full.map bytesN = piecesL (bytesN t) := by
  have h : ∀ p ∈ piecesL (bytesN t), ∀ c ∈ p, c < 256 := fun p hp c hc => bytesN_lt t c (by rw [← pieces_flat (bytesN t)]; exact List.mem_flatten.2 ⟨p, hp, hc⟩)
  generalize piecesL (bytesN t) = l at h
  refine ⟨l.map ofN, ?_⟩
  rw [List.map_map]
  conv => rhs; rw [← List.map_id l]
  exact List.map_congr_left fun p hp => bytesN_ofN (h p hp)
theorem runL_eq {on : List Nat → Bool} : ∀ {l : List Nat} {e : Nat}, e ≤ l.length → (∀ k, k < e → on (l.drop k) = true) → (e < l.length → on (l.drop e) = false) → runL on l = e := by
  intro l
  induction l with
  | nil => intro e h _ _; simp at h; simp [runL, h]
  | cons c r ih =>
    intro e h h2 h3
    cases e with
    | zero =>
      have := h3 (by simp)
      simp only [List.drop_zero] at this
      simp [runL, this]
    | succ e =>
      have h0 := h2 0 (by omega)
      simp only [List.drop_zero] at h0
      have := ih (e := e) (by simpa using h) (fun k hk => by simpa using h2 (k + 1) (by omega)) (fun hk => by simpa using h3 (by simpa using hk))
      simp [runL, h0, this]; omega
theorem signOn_drop {l : List Nat} {k : Nat} {c : Nat} (h : l[k]? = some c) : signOn (l.drop k) = (binB c && (decide (c ≠ 45) || !digB (l.getD (k + 1) 0))) := by
  obtain ⟨hk, rfl⟩ := List.getElem?_eq_some_iff.1 h
  rw [List.drop_eq_getElem_cons hk]
  simp only [signOn]
  congr 2
  rw [List.getD_eq_getElem?_getD]
  by_cases h2 : k + 1 < l.length
  · rw [List.drop_eq_getElem_cons h2]; simp [h2]
  · rw [List.drop_eq_nil_of_le (by omega), List.getElem?_eq_none (by omega)]; rfl
theorem sign_run {c : Nat} {r : List Nat} {e : Nat} (h0 : c ≠ 124) (hb : binB c = true) (h1 : e ≤ (c :: r).length) (h2 : ∀ k, k < e → 1 ≤ k → signOn ((c :: r).drop k) = true) (h3 : e < (c :: r).length → 1 ≤ e ∧ signOn ((c :: r).drop e) = false) : signL (c :: r) = e ∨ (e = 0) := by
  cases e with
  | zero => exact .inr rfl
  | succ e =>
    left
    simp only [signL, if_neg h0, hb, if_true]
    have := runL_eq (on := signOn) (l := r) (e := e) (by simpa using h1) (fun k hk => by simpa using h2 (k + 1) (by omega) (by omega)) (fun hk => by simpa using (h3 (by simpa using hk)).2)
    omega
theorem bytesN_append (s t : ByteArray) : bytesN (s ++ t) = bytesN s ++ bytesN t := by
  simp [bytesN]
theorem maxR_none : ∀ {l : List Rs}, none ∈ l → maxR l = none := by
  intro l
  induction l with
  | nil => intro h; cases h
  | cons r l ih =>
    intro h
    cases r with
    | none => rfl
    | some p =>
      rcases List.mem_cons.1 h with h | h
      · cases h
      · simp only [maxR, ih h]
theorem maxR_snoc {d e : Nat} {m k : Bool} : ∀ {l : List Rs}, maxR l = some (d, m) → maxR (l ++ [some (e, k)]) = some (max d e, m || k) := by
  intro l
  induction l generalizing d m with
  | nil => intro h; cases h; simp [maxR]
  | cons r l ih =>
    intro h
    cases r with
    | none => cases h
    | some p =>
      simp only [maxR] at h
      cases hl : maxR l with
      | none => rw [hl] at h; cases h
      | some q =>
        rw [hl] at h
        cases h
        simp only [List.cons_append, maxR, ih hl, Option.some.injEq, Prod.mk.injEq]
        exact ⟨by omega, by rw [Bool.or_assoc]⟩
theorem maxR_le {K : Nat} : ∀ {l : List Rs} {d : Nat} {m : Bool}, (∀ r ∈ l, ∀ d m, r = some (d, m) → d ≤ K) → maxR l = some (d, m) → d ≤ K := by
  intro l
  induction l with
  | nil => intro d m _ h; cases h; omega
  | cons r l ih =>
    intro d m hl h
    cases r with
    | none => cases h
    | some p =>
      simp only [maxR] at h
      cases hq : maxR l with
      | none => rw [hq] at h; cases h
      | some q =>
        rw [hq] at h
        cases h
        have h1 := hl (some p) (by simp) p.1 p.2 rfl
        have h2 := ih (fun r hr => hl r (by simp [hr])) hq
        omega
theorem mustR_some {b : Bool} {r : Rs} {p : Nat × Bool} (h : mustR b r = some p) : r = some p := by
  unfold mustR at h
  split at h
  · exact h
  · cases h
theorem manyR_some {b : Bool} {r : Rs} {d : Nat} {m : Bool} (h : manyR b r = some (d, m)) : ∃ m', r = some (d, m') := by
  cases r with
  | none => cases h
  | some p => cases h; exact ⟨_, rfl⟩
theorem deeper_some {r : Rs} {d : Nat} {m : Bool} (h : deeper r = some (d, m)) : ∃ d', d = d' + 1 ∧ r = some (d', m) := by
  cases r with
  | none => cases h
  | some p => cases h; exact ⟨_, rfl, rfl⟩
theorem litD_le : ∀ (N : Nat) (x : Lt), x.size ≤ N → ∀ (i : Bool) (d : Nat) (m : Bool), litD x i = some (d, m) → d ≤ x.size := by
  intro N
  induction N with
  | zero => intro x hx; have := x.size_pos; omega
  | succ N ih =>
    intro x hx i d m h
    cases x with
    | mk k n b t items =>
    simp only [Lt.size] at hx ⊢
    simp only [litD] at h
    have zero : ∀ (c : Bool) (q : Bool), mustR c (some (0, q)) = some (d, m) → d = 0 := fun c q h => by have := mustR_some h; cases this; rfl
    split at h
    · have := zero _ _ h; omega
    split at h
    · have := zero _ _ h; omega
    split at h
    · have := zero _ _ h; omega
    split at h
    · have := zero _ _ h; omega
    split at h
    · have := zero _ _ h; omega
    split at h
    · have := zero _ _ h; omega
    split at h
    · have := zero _ _ h; omega
    split at h
    · obtain ⟨d', hd, h2⟩ := deeper_some (mustR_some h)
      obtain ⟨m', h3⟩ := manyR_some h2
      rw [litsD_map] at h3
      have := maxR_le (K := Lt.sizes items) (fun r hr d m e => by
        obtain ⟨y, hy, rfl⟩ := List.mem_map.1 hr
        have h1 := Lt.sizes_mem hy
        have h2 := ih y (by omega) true d m e
        omega) h3
      omega
    · cases h
theorem valuesR_map (place : Nat) : ∀ l : List Nd, valuesR place l (l.map nodeD) = l.map fun x => valueR x place (nodeD x) := by
  intro l
  induction l with
  | nil => rfl
  | cons x r ih => simp only [List.map_cons, valuesR, ih]
theorem msgsR_map : ∀ l : List Nd, msgsR l (l.map nodeD) = l.map fun x => mustR (decide (x.kind = 6)) (nodeD x) := by
  intro l
  induction l with
  | nil => rfl
  | cons x r ih => simp only [List.map_cons, msgsR, ih]
theorem stmtsR_snoc (x : Nd) : ∀ l : List Nd, stmtsR (l ++ [x]) ((l ++ [x]).map nodeD) = (l.map fun y => valueR y 1 (nodeD y)) ++ [if x.kind = 9 then nodeD x else valueR x 1 (nodeD x)] := by
  intro l
  induction l with
  | nil => rfl
  | cons y r ih =>
    cases r with
    | nil => rfl
    | cons z r => simpa [stmtsR] using ih
theorem mustR_le {b : Bool} {r : Rs} {K d : Nat} {m : Bool} (hr : ∀ d m, r = some (d, m) → d ≤ K) (h : mustR b r = some (d, m)) : d ≤ K := hr d m (mustR_some h)
theorem valueR_le {x : Nd} {place K d : Nat} {r : Rs} {m : Bool} (hr : ∀ d m, r = some (d, m) → d ≤ K) (h : valueR x place r = some (d, m)) : d ≤ K + 1 := by
  have h2 := mustR_some (mustR_some h)
  split at h2
  · obtain ⟨d', e, h3⟩ := deeper_some h2
    have := hr d' m h3
    omega
  · have := hr d m h2; omega
mutual
def Nd.w : Nd → Nat
  | .mk _ s lit args temps kids _ => 1 + s.size + lit.size + args.length + temps.length + Nd.ws kids
def Nd.ws : List Nd → Nat
  | [] => 0
  | x :: r => x.w + Nd.ws r
end
theorem Nd.w_pos (x : Nd) : 0 < x.w := by cases x; simp only [Nd.w]; omega
theorem Nd.ws_mem {x : Nd} : ∀ {l : List Nd}, x ∈ l → x.w ≤ Nd.ws l := by
  intro l
  induction l with
  | nil => intro h; cases h
  | cons y r ih =>
    intro h
    simp only [Nd.ws]
    rcases List.mem_cons.1 h with rfl | h
    · omega
    · have := ih h; omega
theorem Nd.ws_le {f : Nat → Nat} : ∀ {l : List Nd} {o : Nat}, (∀ i x, l[i]? = some x → x.w ≤ f (o + i)) → Nd.ws l ≤ ((List.range' o l.length).map f).sum := by
  intro l
  induction l with
  | nil => intro o _; simp [Nd.ws]
  | cons y r ih =>
    intro o h
    have h0 := h 0 y rfl
    have h1 := ih (o := o + 1) (fun i x e => by have := h (i + 1) x e; rwa [Nat.add_assoc, Nat.add_comm 1 i])
    simp only [Nd.ws, List.length_cons, List.range'_succ, List.map_cons, List.sum_cons, Nat.add_zero] at h0 h1 ⊢
    omega
theorem Lt.sizes_le {f : Nat → Nat} : ∀ {l : List Lt} {o : Nat}, (∀ i x, l[i]? = some x → x.size ≤ f (o + i)) → Lt.sizes l ≤ ((List.range' o l.length).map f).sum := by
  intro l
  induction l with
  | nil => intro o _; simp [Lt.sizes]
  | cons y r ih =>
    intro o h
    have h0 := h 0 y rfl
    have h1 := ih (o := o + 1) (fun i x e => by have := h (i + 1) x e; rwa [Nat.add_assoc, Nat.add_comm 1 i])
    simp only [Lt.sizes, List.length_cons, List.range'_succ, List.map_cons, List.sum_cons, Nat.add_zero] at h0 h1 ⊢
    omega
theorem bothR_le {K d : Nat} {m : Bool} {p q : Rs} (hp : ∀ d m, p = some (d, m) → d ≤ K) (hq : ∀ d m, q = some (d, m) → d ≤ K) (h : bothR p q = some (d, m)) : d ≤ K := by
  cases p with
  | none => cases h
  | some p =>
    cases q with
    | none => cases h
    | some q =>
      simp only [bothR, Option.some.injEq, Prod.mk.injEq] at h
      have h1 := hp p.1 p.2 rfl
      have h2 := hq q.1 q.2 rfl
      omega
theorem stmtsR_len : ∀ l : List Nd, (stmtsR l (l.map nodeD)).length = l.length := by
  intro l
  induction l with
  | nil => rfl
  | cons x r ih =>
    cases r with
    | nil => rfl
    | cons y r => simpa [stmtsR] using ih
theorem stmtsR_get : ∀ (l : List Nd) (j : Nat) (y : Nd), l[j]? = some y → (stmtsR l (l.map nodeD))[j]? = some (if y.kind = 9 ∧ j + 1 = l.length then nodeD y else valueR y 1 (nodeD y)) := by
  intro l
  induction l with
  | nil => intro j y h; simp at h
  | cons x r ih =>
    intro j y h
    cases r with
    | nil =>
      cases j with
      | zero =>
        simp only [List.getElem?_cons_zero, Option.some.injEq] at h
        subst h
        simp [stmtsR]
      | succ j => simp at h
    | cons z r =>
      cases j with
      | zero =>
        simp only [List.getElem?_cons_zero, Option.some.injEq] at h
        subst h
        simp [stmtsR]
      | succ j =>
        have := ih j y (by simpa using h)
        simpa [stmtsR] using this
theorem nodeD_le : ∀ (N : Nat) (x : Nd), x.w ≤ N → ∀ (d : Nat) (m : Bool), nodeD x = some (d, m) → d ≤ 2 * x.w := by
  intro N
  induction N with
  | zero => intro x hx; have := x.w_pos; omega
  | succ N ih =>
    intro x hx d m h
    cases x with
    | mk k s lit args temps kids p =>
    simp only [Nd.w] at hx ⊢
    have hk : ∀ y ∈ kids, ∀ d m, nodeD y = some (d, m) → d ≤ 2 * Nd.ws kids := fun y hy d m e => by
      have h1 := Nd.ws_mem hy
      have h2 := ih y (by omega) d m e
      omega
    have hv : ∀ (y : Nd) (pl : Nat), y ∈ kids → ∀ d m, valueR y pl (nodeD y) = some (d, m) → d ≤ 2 * Nd.ws kids + 1 := fun y pl hy d m e => valueR_le (hk y hy) e
    have hvs : ∀ (l : List Nd) (pl : Nat), (∀ y ∈ l, y ∈ kids) → ∀ d m, maxR (valuesR pl l (l.map nodeD)) = some (d, m) → d ≤ 2 * Nd.ws kids + 1 := fun l pl hl d m e => by
      rw [valuesR_map] at e
      refine maxR_le (fun r hr d m e => ?_) e
      obtain ⟨y, hy, rfl⟩ := List.mem_map.1 hr
      exact hv y pl (hl y hy) d m e
    have ha : ∀ (l : List Nd) (q : ByteArray), (∀ y ∈ l, y ∈ kids) → ∀ d m, argsR q l (l.map nodeD) = some (d, m) → d ≤ 2 * Nd.ws kids + 1 := fun l q hl d m e => by
      obtain ⟨m', h2⟩ := manyR_some (mustR_some e)
      exact hvs l _ hl d m' h2
    have hf : ∀ (y : Nd) (q : ByteArray), y ∈ kids → ∀ d m, firstR y q (nodeD y) = some (d, m) → d ≤ 2 * Nd.ws kids + 1 := fun y q hy d m e => by
      unfold firstR at e
      split at e
      · have := hk y hy d m e; omega
      · exact hv y _ hy d m e
    have hone : ∀ d m, (match kids, kids.map nodeD with | [x], [r] => valueR x 1 r | _, _ => none) = some (d, m) → d ≤ 2 * Nd.ws kids + 1 := fun d m e => by
      match kids, hv, e with
      | [y], hv, e => exact hv y 1 (by simp) d m e
      | [], _, e => cases e
      | _ :: _ :: _, _, e => cases e
    simp only [nodeD, nodesD_map, nodeR] at h
    split at h
    · have h2 := litD_le _ lit (Nat.le_refl _) false d m (mustR_some h); omega
    split at h
    · have := mustR_some h; cases this; omega
    split at h
    · have := hone d m (mustR_some h); omega
    split at h
    · have h2 := mustR_some h
      match kids, hf, ha, h2 with
      | [], _, _, h2 => cases h2
      | y :: l, hf, ha, h2 =>
        have := bothR_le (hf y s (by simp)) (ha l s (fun z hz => by simp [hz])) h2
        omega
    split at h
    · have := ha kids s (fun _ h => h) d m (mustR_some h); omega
    split at h
    · have h2 := mustR_some h
      match kids, hf, hk, h2 with
      | [], _, _, h2 => cases h2
      | [_], _, _, h2 => cases h2
      | y :: z :: l, hf, hk, h2 =>
        obtain ⟨m', h3⟩ := manyR_some h2
        have := bothR_le (K := 2 * Nd.ws (y :: z :: l) + 1) (fun d m e => ?_) (hf y z.name (by simp)) h3
        · omega
        · change maxR (msgsR (z :: l) ((z :: l).map nodeD)) = some (d, m) at e
          rw [msgsR_map] at e
          have := maxR_le (K := 2 * Nd.ws (y :: z :: l)) (fun r hr d m e => by
            obtain ⟨u, hu, rfl⟩ := List.mem_map.1 hr
            exact hk u (List.mem_cons_of_mem _ hu) d m (mustR_some e)) e
          omega
    split at h
    · have h2 := mustR_some h
      simp only [namesR] at h2
      obtain ⟨m', h3⟩ := manyR_some (mustR_some h2)
      obtain ⟨m'', h4⟩ := manyR_some (mustR_some h3)
      obtain ⟨d', rfl, h5⟩ := deeper_some h4
      have := maxR_le (K := 2 * Nd.ws kids + 1) (fun r hr d m e => by
        obtain ⟨j, hj⟩ := List.getElem?_of_mem hr
        have hjl := (List.getElem?_eq_some_iff.1 hj).1
        rw [stmtsR_len] at hjl
        have hget := stmtsR_get kids j kids[j] (List.getElem?_eq_getElem hjl)
        rw [hget] at hj
        have hmem : kids[j] ∈ kids := List.getElem_mem _
        split at hj
        · cases hj; have := hk _ hmem d m e; omega
        · cases hj; exact hv _ 1 hmem d m e) h5
      omega
    split at h
    · obtain ⟨d', rfl, h5⟩ := deeper_some (mustR_some h)
      obtain ⟨m', h6⟩ := manyR_some h5
      have := hvs kids 1 (fun _ h => h) d' m' h6
      omega
    split at h
    · have := hone d m (mustR_some h); omega
    · cases h
theorem holds_loc {w : World} {a b : Atom} (ha : a.holds w) (hb : b.holds w) (h : a.loc = b.loc) : a = b := by
  cases a with
  | cell i k v =>
    cases b with
    | cell j l u =>
      simp only [Atom.loc, Prod.mk.injEq, Option.some.injEq] at h
      obtain ⟨rfl, rfl⟩ := h
      obtain ⟨c, t, lo, hi, h1, h2, _⟩ := ha
      obtain ⟨c', t', lo', hi', h3, h4, _⟩ := hb
      rw [h1] at h3
      cases h3
      rw [h2] at h4
      cases h4
      rfl
    | obj j o => simp [Atom.loc] at h
  | obj i o =>
    cases b with
    | cell j l u => simp [Atom.loc] at h
    | obj j p =>
      simp only [Atom.loc, Prod.mk.injEq, and_true] at h
      subst h
      have h1 := ha.1
      rw [hb.1] at h1
      cases h1
      rfl
theorem sat_of_list {w : World} : ∀ L : List Atom, (∀ a ∈ L, a.holds w) → ∃ L', Sat w L' ∧ ∀ a ∈ L, a ∈ L' := by
  intro L
  induction L with
  | nil => intro _; exact ⟨[], ⟨by simp, by simp⟩, by simp⟩
  | cons x L ih =>
    intro h
    obtain ⟨L', h1, h2⟩ := ih (fun a ha => h a (by simp [ha]))
    by_cases hx : x.loc ∈ L'.map Atom.loc
    · obtain ⟨y, hy, e⟩ := List.mem_map.1 hx
      have : y = x := holds_loc (h1.holds y hy) (h x (by simp)) e
      subst this
      refine ⟨L', h1, fun a ha => ?_⟩
      rcases List.mem_cons.1 ha with rfl | ha
      · exact hy
      · exact h2 a ha
    · refine ⟨x :: L', ⟨fun a ha => ?_, by simp only [List.map_cons, List.nodup_cons]; exact ⟨hx, h1.nodup⟩⟩, fun a ha => ?_⟩
      · rcases List.mem_cons.1 ha with rfl | ha
        · exact h a (by simp)
        · exact h1.holds a ha
      · rcases List.mem_cons.1 ha with rfl | ha
        · simp
        · simp [h2 a ha]
def blockAtoms (w : World) (i : Nat) : List Atom := match w.heap[i]? with
  | some (.cells c _ (lo, hi)) => (List.range c.size).filterMap fun j => if lo ≤ j ∧ j < hi then none else (c[j]?).map fun v => .cell i j v
  | some o => [.obj i o]
  | none => []
theorem sat_all (w : World) : ∃ L, Sat w L ∧ ∀ a : Atom, a.holds w → a ∈ L := by
  obtain ⟨L, h1, h2⟩ := sat_of_list (w := w) ((List.range w.heap.size).flatMap (blockAtoms w)) (by
    intro a ha
    obtain ⟨i, _, ha⟩ := List.mem_flatMap.1 ha
    unfold blockAtoms at ha
    split at ha
    · rename_i c t lo hi hb
      obtain ⟨j, _, hj⟩ := List.mem_filterMap.1 ha
      split at hj
      · cases hj
      · rename_i hf
        simp only [Option.map_eq_some_iff] at hj
        obtain ⟨v, hv, rfl⟩ := hj
        exact ⟨c, t, lo, hi, hb, hv, hf⟩
    · rename_i o hne hb
      simp only [List.mem_singleton] at ha
      subst ha
      refine ⟨hb, ?_⟩
      cases o <;> first | rfl | (rename_i c t fr; exact absurd rfl (hne c t fr.1 fr.2))
    · cases ha)
  refine ⟨L, h1, fun a ha => h2 a ?_⟩
  cases a with
  | cell i k v =>
    obtain ⟨c, t, lo, hi, hb, hv, hf⟩ := ha
    have hi' : i < w.heap.size := by
      rcases Nat.lt_or_ge i w.heap.size with h | h
      · exact h
      · rw [Array.getElem?_eq_none h] at hb; cases hb
    refine List.mem_flatMap.2 ⟨i, List.mem_range.2 hi', ?_⟩
    unfold blockAtoms
    rw [hb]
    refine List.mem_filterMap.2 ⟨k, List.mem_range.2 (Array.getElem?_eq_some_iff.1 hv).1, ?_⟩
    rw [if_neg hf, hv]; rfl
  | obj i o =>
    obtain ⟨hb, hc⟩ := ha
    have hi' : i < w.heap.size := by
      rcases Nat.lt_or_ge i w.heap.size with h | h
      · exact h
      · rw [Array.getElem?_eq_none h] at hb; cases hb
    refine List.mem_flatMap.2 ⟨i, List.mem_range.2 hi', ?_⟩
    unfold blockAtoms
    rw [hb]
    cases o <;> first | (simp; done) | (simp [isCells] at hc)
theorem old_same {w w' : World} {L : List Atom} (hL : ∀ a : Atom, a.holds w → a ∈ L) (hs : Sat w' L) (hk : Keeps w w') : ∀ i, i < w.heap.size → w'.heap[i]? = w.heap[i]? := by
  intro i hi
  have hb : w.heap[i]? = some w.heap[i] := Array.getElem?_eq_getElem hi
  generalize w.heap[i] = o at hb
  rw [hb]
  by_cases hc : isCells o = false
  · exact (hs.holds _ (hL (.obj i o) ⟨hb, hc⟩)).1
  · cases o <;> first | (exact absurd rfl hc) | skip
    rename_i c t fr
    obtain ⟨lo, hi2⟩ := fr
    obtain ⟨c', h1, h2, h3⟩ := hk.cells i c t lo hi2 hb
    rw [h1]
    congr 2
    apply Array.ext h2
    intro j hj1 hj2
    by_cases hf : lo ≤ j ∧ j < hi2
    · have := h3 j hf
      rw [Array.getElem?_eq_getElem hj1, Array.getElem?_eq_getElem hj2] at this
      exact Option.some.inj this
    · obtain ⟨c2, t2, lo2, hi3, g1, g2, _⟩ := hs.holds _ (hL (.cell i j c[j]) ⟨c, t, lo, hi2, hb, Array.getElem?_eq_getElem hj2, hf⟩)
      rw [h1] at g1
      cases g1
      rw [Array.getElem?_eq_getElem hj1] at g2
      exact Option.some.inj g2
theorem mapM_mono {α β : Type} {f g : α → Option β} : ∀ {l : List α} {r : List β}, (∀ x ∈ l, ∀ y, f x = some y → g x = some y) → l.mapM f = some r → l.mapM g = some r := by
  intro l
  induction l with
  | nil => intro r _ h; simpa using h
  | cons a l ih =>
    intro r hfg h
    simp only [List.mapM_cons, Option.bind_eq_bind, Option.pure_def, Option.bind_eq_some_iff] at h ⊢
    obtain ⟨y, h1, ys, h2, h3⟩ := h
    exact ⟨y, hfg a (by simp) y h1, ys, ih (fun x hx => hfg x (by simp [hx])) h2, h3⟩
theorem cells?_same {w w' : World} (hold : ∀ i, i < w.heap.size → w'.heap[i]? = w.heap[i]?) {base n : Nat} {a : Addr} {cs : List Value} (h : w.cells? base a n = some cs) : w'.cells? base a n = some cs := by
  unfold World.cells? at h ⊢
  split at h
  · rename_i hb
    rw [if_pos hb]
    refine mapM_mono (fun i _ v hv => ?_) h
    have hlt := World.block_lt_of_cell? w _ hv
    unfold World.cell? at hv ⊢
    rw [hold _ hlt]; exact hv
  · cases h
section
variable {H : Type} {enc : TypeId × Value → H} {P : Program} {w w' : World} {base : Nat} {sp : Nat → Bool} {held : Bool}
structure Closed (P : Program) (ok : TypeId → Prop) : Prop where
  ptr : ∀ t e, ok t → P.underlying t = some (.pointer e) → ok e
  slice : ∀ t e, ok t → P.underlying t = some (.slice e) → ok e ∧ 0 < P.cellsOf e
  struct : ∀ t fs, ok t → P.underlying t = some (.struct fs) → ∀ f ∈ fs.toList, ok f.type
  array : ∀ t n e, ok t → P.underlying t = some (.array n e) → ok e
  map : ∀ t k e, ok t → P.underlying t = some (.map k e) → ok e
def closedB (P : Program) (S : List TypeId) : Bool := S.all fun t => match P.underlying t with
  | some (.pointer e) => S.contains e
  | some (.slice e) => S.contains e && decide (0 < P.cellsOf e)
  | some (.struct fs) => fs.toList.all fun f => S.contains f.type
  | some (.array _ e) => S.contains e
  | some (.map _ e) => S.contains e
  | _ => true
theorem closed_of {S : List TypeId} (h : closedB P S = true) : Closed P (· ∈ S) := by
  have h' := List.all_eq_true.1 h
  refine ⟨fun t e ht hu => ?_, fun t e ht hu => ?_, fun t fs ht hu f hf => ?_, fun t n e ht hu => ?_, fun t k e ht hu => ?_⟩
  all_goals have := h' t ht
  all_goals rw [hu] at this
  all_goals simp only [List.contains_iff_mem, Bool.and_eq_true, decide_eq_true_eq, List.all_eq_true] at this
  · exact this
  · exact this
  · exact this f hf
  · exact this
  · exact this
theorem trodStep_same {ok : TypeId → Prop} (hcl : Closed P ok) (hold : ∀ i, i < w.heap.size → w'.heap[i]? = w.heap[i]?) (hsp : ∀ b, b < w.heap.size → sp b = true)
    {r r' : TypeId → List Value → Option (DataW H × List MemPlace)} (hr : ∀ t cs x, ok t → r t cs = some x → r' t cs = some x) {t : TypeId} {cs : List Value} {x : DataW H × List MemPlace} (ht : ok t)
    (h : DataW.trodStep enc P w base (fun _ => true) true r t cs = some x) : DataW.trodStep enc P w' base sp true r' t cs = some x := by
  unfold DataW.trodStep at h
  split at h
  case h_1 hu => unfold DataW.trodStep; simp only [hu]; exact h
  case h_2 hu => unfold DataW.trodStep; simp only [hu]; exact h
  case h_3 hu => unfold DataW.trodStep; simp only [hu]; exact h
  case h_4 hu => unfold DataW.trodStep; simp only [hu]; exact h
  case h_5 hu => unfold DataW.trodStep; simp only [hu]; exact h
  case h_6 e a hu =>
    unfold DataW.trodStep; simp only [hu]
    simp only [Option.map_eq_some_iff, Option.bind_eq_some_iff] at h ⊢
    obtain ⟨y, ⟨cs', hc, hy⟩, hx⟩ := h
    exact ⟨y, ⟨cs', cells?_same hold hc, hr _ _ _ (hcl.ptr t e ht hu) hy⟩, hx⟩
  case h_7 hu => unfold DataW.trodStep; simp only [hu]; exact h
  case h_8 e a len cap hu =>
    unfold DataW.trodStep; simp only [hu]
    obtain ⟨hoe, hpos⟩ := hcl.slice t e ht hu
    simp only at h
    split at h
    · rename_i hb
      rw [if_pos hb]
      simp only [Option.map_eq_some_iff, Option.bind_eq_some_iff, if_true] at h ⊢
      obtain ⟨elems, he, rest, hrest, hx⟩ := h
      have one : ∀ i y, (w.cells? base (a.add (i * P.cellsOf e)) (P.cellsOf e)).bind (r e) = some y → (w'.cells? base (a.add (i * P.cellsOf e)) (P.cellsOf e)).bind (r' e) = some y := by
        intro i y hy
        simp only [Option.bind_eq_some_iff] at hy ⊢
        obtain ⟨cs', hc, hy⟩ := hy
        exact ⟨cs', cells?_same hold hc, hr _ _ _ hoe hy⟩
      have hb' : (cap - len = 0) ∨ a.block < w.heap.size := by
        rcases Nat.eq_zero_or_pos (cap - len) with h0 | h0
        · exact .inl h0
        · right
          have hne : rest ≠ [] := by
            intro hn
            subst hn
            have := congrArg List.length (show [] = _ from rfl : ([] : List Nat) = [])
            have hlen : ∀ {l : List Nat} {g : Nat → Option (DataW H × List MemPlace)} {q : List (DataW H × List MemPlace)}, l.mapM g = some q → q.length = l.length := by
              intro l g
              induction l with
              | nil => intro q hq; simp at hq; subst hq; rfl
              | cons a l ih =>
                intro q hq
                simp only [List.mapM_cons, Option.bind_eq_bind, Option.pure_def, Option.bind_eq_some_iff] at hq
                obtain ⟨y, _, ys, h2, h3⟩ := hq
                cases h3
                simp [ih h2]
            have := hlen hrest
            simp at this; omega
          obtain ⟨y, hy⟩ := List.exists_mem_of_ne_nil _ hne
          obtain ⟨j, _, hj⟩ := mapM_mem_of hrest y hy
          simp only [Option.bind_eq_some_iff] at hj
          obtain ⟨cs', hc, _⟩ := hj
          have := World.cells?_block hc hpos
          have e1 : (a.add ((len + j) * P.cellsOf e)).block = a.block := by unfold Addr.add; split <;> rfl
          rw [e1] at this
          exact this
      refine ⟨elems, mapM_mono (fun i _ y hy => one i y hy) he, rest, ?_, hx⟩
      rcases hb' with h0 | h0
      · rw [h0] at hrest ⊢
        simp at hrest ⊢
        subst hrest
        rfl
      · rw [hsp _ h0]
        exact mapM_mono (fun i _ y hy => one _ y hy) hrest
    · cases h
  case h_9 fs hu =>
    unfold DataW.trodStep; simp only [hu]
    split at h
    · rename_i hl
      rw [if_pos hl]
      simp only [Option.map_eq_some_iff] at h ⊢
      obtain ⟨xs, hx, e⟩ := h
      exact ⟨xs, mapM_mono (fun f hf y hy => hr _ _ _ (hcl.struct t fs ht hu f hf) hy) hx, e⟩
    · cases h
  case h_10 n e hu =>
    unfold DataW.trodStep; simp only [hu]
    split at h
    · rename_i hl
      rw [if_pos hl]
      simp only [Option.map_eq_some_iff] at h ⊢
      obtain ⟨xs, hx, e1⟩ := h
      exact ⟨xs, mapM_mono (fun f _ y hy => hr _ _ _ (hcl.array t n e ht hu) hy) hx, e1⟩
    · cases h
  case h_11 hu => unfold DataW.trodStep; simp only [hu]; exact h
  case h_12 u v hu =>
    unfold DataW.trodStep; simp only [hu]
    exact h
  case h_13 hu => unfold DataW.trodStep; simp only [hu]; exact h
  case h_14 k e b hu =>
    unfold DataW.trodStep; simp only [hu]
    split at h
    · rename_i es clock hb
      have hlt : b < w.heap.size := by
        rcases Nat.lt_or_ge b w.heap.size with h' | h'
        · exact h'
        · simp [Array.getElem?_eq_none h'] at hb
      rw [hold b hlt, hb]
      dsimp only
      split at h
      · rename_i hc
        rw [if_pos hc]
        simp only [Option.bind_eq_some_iff] at h ⊢
        obtain ⟨entries, he, hd⟩ := h
        refine ⟨entries, mapM_mono (fun x _ y hy => ?_) he, hd⟩
        obtain ⟨key, hk, hz'⟩ := Option.bind_eq_some_iff.1 hy
        refine Option.bind_eq_some_iff.2 ⟨key, hk, ?_⟩
        split at hz'
        · rename_i hf
          rw [if_pos hf]
          simp only [Option.map_eq_some_iff] at hz' ⊢
          obtain ⟨q, hq, e⟩ := hz'
          exact ⟨q, hr _ _ _ (hcl.map t k _ ht hu) hq, e⟩
        · cases hz'
      · cases h
    · cases h
  case h_15 hu => unfold DataW.trodStep; simp only [hu]; exact h
  case h_16 hu => unfold DataW.trodStep; simp only [hu]; exact h
  case h_17 hu => unfold DataW.trodStep; simp only [hu]; exact h
  case h_18 hu => unfold DataW.trodStep; simp only [hu]; exact h
  case h_19 hu => unfold DataW.trodStep; simp only [hu]; exact h
  case h_20 hu => unfold DataW.trodStep; simp only [hu]; exact h
  case h_21 => cases h
theorem trod_same {ok : TypeId → Prop} (hcl : Closed P ok) (hold : ∀ i, i < w.heap.size → w'.heap[i]? = w.heap[i]?) (hsp : ∀ b, b < w.heap.size → sp b = true) :
    ∀ (n : Nat) (t : TypeId) (cs : List Value) (x : DataW H × List MemPlace), ok t → DataW.trod enc P w base (fun _ => true) true n t cs = some x → DataW.trod enc P w' base sp true n t cs = some x := by
  intro n
  induction n with
  | zero => intro t cs x _ h; simp [DataW.trod] at h
  | succ n ih =>
    intro t cs x ht h
    rw [DataW.trod_step] at h ⊢
    exact trodStep_same hcl hold hsp ih ht h
theorem trodAll_same {ok : TypeId → Prop} (hcl : Closed P ok) (hold : ∀ i, i < w.heap.size → w'.heap[i]? = w.heap[i]?) (hsp : ∀ b, b < w.heap.size → sp b = true) :
    ∀ {ts : List TypeId} {vs : List Value} {ds : List (DataW H)} {ps : List MemPlace}, (∀ t ∈ ts, ok t) → DataW.TrodAll enc P w base (fun _ => true) true ts vs ds ps → DataW.TrodAll enc P w' base sp true ts vs ds ps
  | [], [], [], _, _, h => h
  | _ :: _, _ :: _, _ :: _, _, ho, ⟨p, q, ⟨n, h1⟩, h2, e⟩ => ⟨p, q, ⟨n, trod_same hcl hold hsp n _ _ _ (ho _ (by simp)) h1⟩, trodAll_same hcl hold hsp (fun t ht => ho t (by simp [ht])) h2, e⟩
end
open Go Go.ChangeShapes Go.WideShapes
section
variable {H : Type} {enc : TypeId × Value → H} {P : Program}
theorem glue {f : FuncId} {fn : Func} {s : ChangeSpec} {rt : TypeId} {apart fresh handsOn : Bool} {W : World} {args : List Value} {ds gs : List (DataW H)} {before : List MemPlace}
    (hvars : s.vars = []) (hrt : fn.resultTypes = #[rt]) (hb : P.underlying rt = some .bool) (hfn : s.fn H (ds ++ gs) = { results := [.lit (.bool true)], args := ds })
    {ok : TypeId → Prop} (hcl : Closed P ok) (hok : ∀ t ∈ fn.params.toList, ok t) (hW : DataW.Whole enc P fn.params.toList s.vars apart W args ds gs before)
    (hF : ∀ A, (∀ a : Atom, a.holds W → a ∈ A) → Fun P f args [A] fun v Post => v = .bool true ∧ Post = [A]) :
    Calls P f args.toArray W fun e W' => ∃ v, e = .returned v ∧ s.post enc P fn apart fresh handsOn false W args.toArray v W' := by
  obtain ⟨A, hA, hall⟩ := sat_all W
  have h := (hF A hall).2 [] W (by simpa using hA)
  refine h.mono ?_
  rintro e W' ⟨v, Post, rfl, ⟨rfl, rfl⟩, hs, hk⟩
  have hs' : Sat W' A := by simpa using hs
  have hold := old_same hall hs' hk
  refine ⟨_, rfl, ds, gs, before, [], before, [], by simpa using hW, ?_, ?_, ?_, ?_, fun h => by cases h⟩
  · rw [hrt, hfn]
    exact trodAll_mk1 ⟨1, by simp [DataW.trod, hb, Value.cells]⟩
  · obtain ⟨p, q, h1, h2, h3, _, _⟩ := hW
    rw [hvars] at h2
    obtain ⟨rfl, rfl⟩ := trodVars_none h2
    rw [hfn]
    simp only [List.append_nil] at h3
    subst h3
    simpa using trodAll_same hcl hold (fun b hb => by simpa using hb) hok h1
  · rw [hfn, hvars]; rfl
  · refine ⟨hk.os, hk.output, fun i hi => ?_⟩
    rw [hold i hi]
    have : W.heap[i]? = some W.heap[i] := Array.getElem?_eq_getElem hi
    generalize W.heap[i] = o at this
    rw [this]
    cases o <;> first | exact ⟨rfl, rfl, rfl, fun _ _ => rfl⟩ | exact .inr ⟨rfl, rfl⟩ | rfl
theorem holds_cell {W : World} {b o : Nat} {v : Value} (h : W.cell? ⟨b, o, none⟩ = some v) (hf : W.frozen? ⟨b, o, none⟩ = false) : (Atom.cell b o v).holds W := by
  unfold World.cell? at h
  unfold World.frozen? at hf
  split at h
  · rename_i c t fr hb
    obtain ⟨lo, hi⟩ := fr
    simp only at hb hf h
    rw [hb] at hf
    simp only [Bool.and_eq_false_iff, decide_eq_false_iff_not] at hf
    refine ⟨c, t, lo, hi, hb, by simpa using h, fun hh => ?_⟩
    rcases hf with hf | hf
    · exact hf hh.1
    · exact hf hh.2
  · cases h
theorem slice_form {W : World} {base : Nat} {t e : TypeId} {v : Value} (ht : P.underlying t = some (.slice e)) (hv : Value.okWide P W .any base t v) :
    v = .slice none 0 0 ∨ ∃ b o len cap, v = .slice (some ⟨b, o, none⟩) len cap ∧ len ≤ cap := by
  cases v <;> simp only [Value.okWide, ht, Cell.okWide, Cell.ok] at hv
  rename_i a len cap
  cases a with
  | none =>
    left
    split at hv <;> simp_all
  | some a =>
    right
    obtain ⟨b, o, sp⟩ := a
    obtain ⟨h1, _, _, h2, _⟩ := hv
    simp only at h2
    subst h2
    exact ⟨b, o, len, cap, rfl, h1⟩
theorem open_rd {W : World} {base : Nat} {t e : TypeId} {v : Value} {d : DataW H} {p : List MemPlace} {A : List Atom} (ht : P.underlying t = some (.slice e)) (he : P.underlying e = some (.int .i64)) (hc : P.cellsOf e = 1)
    (hv : Value.okWide P W .any base t v) (h : DataW.Trod enc P W 0 (fun _ => true) true t v d p) (hf : W.noneFrozen p) (hA : ∀ a : Atom, a.holds W → a ∈ A) :
    ∃ xs : List Int, ((v = .slice none 0 0 ∧ xs = []) ∨ ∃ b o c, v = .slice (some ⟨b, o, none⟩) xs.length c ∧ ∀ i x, xs[i]? = some x → Atom.cell b (o + i) (.int .i64 x) ∈ A) ∧ ((d = .nil ∧ xs = []) ∨ ∃ es sp, d = .slice es sp ∧ es.length = xs.length) := by
  obtain ⟨n, hn⟩ := h
  rcases slice_form ht hv with rfl | ⟨b, o, len, cap, rfl, hl⟩
  · rcases open_ints ht he hc hn with ⟨_, h2⟩ | ⟨a, l, c, zs, h1, _⟩
    · cases h2
      exact ⟨[], .inl ⟨rfl, rfl⟩, .inl ⟨rfl, rfl⟩⟩
    · simp [Value.cells] at h1
  · rcases open_ints ht he hc hn with ⟨h1, _⟩ | ⟨a, l, c, zs, h1, _, hlc, _, hz, hx, hcell, _⟩
    · simp [Value.cells] at h1
    · simp only [Value.cells, List.cons.injEq, Value.slice.injEq, Option.some.injEq, and_true] at h1
      obtain ⟨rfl, rfl, rfl⟩ := h1
      simp only [if_true] at hz
      cases hx
      have hlen : (zs.take len).length = len := by simp; omega
      refine ⟨zs.take len, .inr ⟨b, o, cap, by rw [hlen], fun i x hi => ?_⟩, .inr ⟨_, _, rfl, ?_⟩⟩
      · rw [List.getElem?_take] at hi
        split at hi
        · have hil := (List.getElem?_eq_some_iff.1 hi).1
          have h3 := hcell i hil
          have h4 : zs.getD i 0 = x := by simp [List.getD, hi]
          rw [h4] at h3
          have ea : (⟨b, o, none⟩ : Addr).add i = ⟨b, o + i, none⟩ := by
            unfold Addr.add
            split
            · rename_i h0; have : i = 0 := by simpa using h0
              subst this; rfl
            · rfl
          rw [ea] at h3
          refine hA _ (holds_cell h3 (hf b (o + i) ?_))
          exact MemPlace.mem_row.2 ⟨i, hil, rfl⟩
        · cases hi
      · have : (lits IntKind.i64 (List.take len zs) : List (DataW H)).length = (List.take len zs).length := by simp [lits]
        rw [this]
end
open Go Go.ChangeShapes Go.WideShapes Go.Deep
inductive SC where
  | int (k : IntKind)
  | str
def SC.td : SC → TypeDesc
  | .int k => .int k
  | .str => .string
def SC.ok : SC → Value → Prop
  | .int k, v => ∃ n, v = .int k n ∧ (Lit.int k n).wf = true
  | .str, v => ∃ s : ByteArray, v = .string s ∧ s.size ≤ maxLen
def valD {H : Type} : Value → DataW H
  | .int k n => .lit (.int k n)
  | .string s => .lit (.string s.data.toList)
  | _ => .nil
def Typed (scs : List SC) (r : List Value) : Prop := r.length = scs.length ∧ ∀ (j : Nat) (sc : SC) (u : Value), scs[j]? = some sc → r[j]? = some u → sc.ok u
section
variable {H : Type} {enc : TypeId × Value → H} {P : Program} {W : World} {base : Nat}
theorem sc_trod {sc : SC} {t : TypeId} {sp : Nat → Bool} {held : Bool} {fuel : Nat} {v : Value} {y : DataW H × List MemPlace} (ht : P.underlying t = some sc.td) (h : DataW.trod enc P W base sp held fuel t [v] = some y) : sc.ok v ∧ y.1 = valD v := by
  cases sc with
  | int k =>
    obtain ⟨n, h1, h2, h3⟩ := DataW.trod_int ht h
    cases h1
    rw [h2]
    exact ⟨⟨n, rfl, h3⟩, rfl⟩
  | str =>
    obtain ⟨s, h1, h2, h3⟩ := DataW.trod_string ht h
    cases h1
    rw [h2]
    exact ⟨⟨s, rfl, h3⟩, rfl⟩
theorem add_addr (b o i : Nat) : (⟨b, o, none⟩ : Addr).add i = ⟨b, o + i, none⟩ := by
  unfold Addr.add
  split
  · rename_i h0
    have : i = 0 := by simpa using h0
    subst this; rfl
  · rfl
theorem choose_rows {α : Type} {Q : Nat → α → Prop} {n : Nat} (h : ∀ i, i < n → ∃ x, Q i x) : ∃ l : List α, l.length = n ∧ ∀ i x, l[i]? = some x → Q i x := by
  induction n with
  | zero => exact ⟨[], rfl, by simp⟩
  | succ n ih =>
    obtain ⟨l, h1, h2⟩ := ih (fun i hi => h i (by omega))
    obtain ⟨x, hx⟩ := h n (by omega)
    refine ⟨l ++ [x], by simp [h1], fun i y hy => ?_⟩
    by_cases hi : i < l.length
    · rw [List.getElem?_append_left hi] at hy; exact h2 i y hy
    · rw [List.getElem?_append_right (by omega)] at hy
      have : i = n := by
        have := (List.getElem?_eq_some_iff.1 hy).1
        simp at this; omega
      subst this
      simp [h1] at hy
      subst hy; exact hx
theorem flatten_rows {A : List Atom} {b size : Nat} : ∀ {rows : List (List Value)} {o : Nat}, (∀ i r, rows[i]? = some r → r.length = size ∧ ∀ a ∈ cellsAt b (o + i * size) r, a ∈ A) → rows.flatten.length = rows.length * size ∧ ∀ a ∈ cellsAt b o rows.flatten, a ∈ A := by
  intro rows
  induction rows with
  | nil => intro o _; exact ⟨by simp, by simp [cellsAt]⟩
  | cons r rows ih =>
    intro o h
    obtain ⟨h1, h2⟩ := h 0 r rfl
    obtain ⟨h3, h4⟩ := ih (o := o + size) (fun i r' hr => by
      have := h (i + 1) r' (by simpa using hr)
      rw [show o + size + i * size = o + (i + 1) * size by rw [Nat.succ_mul]; omega]
      exact this)
    refine ⟨by rw [List.flatten_cons, List.length_append, h1, h3, List.length_cons, Nat.succ_mul]; omega, fun a ha => ?_⟩
    rw [List.flatten_cons, cellsAt_append, List.mem_append] at ha
    rcases ha with ha | ha
    · refine h2 a ?_
      rw [Nat.zero_mul, Nat.add_zero]; exact ha
    · rw [h1] at ha; exact h4 a ha
theorem rd_struct {t e : TypeId} {fs : Array Field} {scs : List SC} {v : Value} {d : DataW H} {p : List MemPlace} {A : List Atom} (ht : P.underlying t = some (.slice e)) (he : P.underlying e = some (.struct fs)) (hone : oneCellFields P fs = true) (hC : P.cellsOf e = fs.size)
    (hfs : fs.toList.map (fun f => P.underlying f.type) = scs.map (fun s => some s.td)) (hv : Value.okWide P W .any base t v) (h : DataW.Trod enc P W 0 (fun _ => true) true t v d p) (hf : W.noneFrozen p) (hA : ∀ a : Atom, a.holds W → a ∈ A) :
    ∃ rows : List (List Value), RdRow scs.length A v rows.length rows.flatten ∧ (∀ r ∈ rows, Typed scs r) ∧ ((d = .nil ∧ rows = []) ∨ ∃ sp, d = .slice (rows.map fun r => .agg (r.map valD)) sp) := by
  have hsz : scs.length = fs.size := by have := congrArg List.length hfs; simpa using this.symm
  obtain ⟨n, hn⟩ := h
  rcases slice_form ht hv with rfl | ⟨b, o, len, cap, rfl, hl⟩
  · rcases open_slice ht hn with ⟨_, h2⟩ | ⟨a, l, c, m, n', D, Pl, h1, _⟩
    · cases h2
      exact ⟨[], .inl ⟨rfl, rfl, rfl⟩, by simp, .inl ⟨rfl, rfl⟩⟩
    · simp [Value.cells] at h1
  · rcases open_slice ht hn with ⟨h1, _⟩ | ⟨a, l, c, m, n', D, Pl, hcs, hb, hlc, hcm, hm, hx, hi⟩
    · simp [Value.cells] at h1
    · simp only [Value.cells, List.cons.injEq, Value.slice.injEq, Option.some.injEq, and_true] at hcs
      obtain ⟨rfl, rfl, rfl⟩ := hcs
      simp only [if_true] at hm
      subst hm
      rw [hC] at hx hi
      have key : ∀ i, i < len → ∃ r : List Value, Typed scs r ∧ r.length = scs.length ∧ (∀ a ∈ cellsAt b (o + i * scs.length) r, a ∈ A) ∧ D i = .agg (r.map valD) := by
        intro i hil
        obtain ⟨cs', hc, ht'⟩ := hi i (by omega)
        obtain ⟨ys, k, hn', hy, hlen, hyl, hfld⟩ := DataW.trod_struct he ht'
        obtain ⟨_, hcl, hat⟩ := World.cells?_some hc
        simp only [Prod.mk.injEq] at hy
        have each : ∀ (j : Nat) (sc : SC), scs[j]? = some sc → ∃ u y, cs'[j]? = some u ∧ ys[j]? = some y ∧ sc.ok u ∧ y.1 = valD u := by
          intro j sc hsc
          have hjl : j < fs.size := by have := (List.getElem?_eq_some_iff.1 hsc).1; omega
          have hfj : fs[j]? = some fs[j] := by simp [hjl]
          have htj : P.underlying (fs[j]).type = some sc.td := by
            have := congrArg (·[j]?) hfs
            simp only [List.getElem?_map, hsc, Option.map_some] at this
            rw [show fs.toList[j]? = some fs[j] by simp [hjl]] at this
            simpa using this
          obtain ⟨ho, hk⟩ := hone_of hone j _ hfj
          have h1 := hfld j _ hfj
          rw [ho, hk] at h1
          have hone' : (cs'.drop j).take 1 = [cs'[j]'(by omega)] := by
            rw [List.drop_eq_getElem_cons (by omega)]; rfl
          rw [hone'] at h1
          have hys : ys[j]? = some (ys[j]'(by omega)) := List.getElem?_eq_getElem (by omega)
          obtain ⟨g1, g2⟩ := sc_trod htj (h1.trans hys)
          exact ⟨_, _, List.getElem?_eq_getElem (by omega), hys, g1, g2⟩
        have hcl' : cs'.length = scs.length := by omega
        refine ⟨cs', ⟨hcl', fun j sc u hsc hu => ?_⟩, hcl', fun a ha => ?_, ?_⟩
        · obtain ⟨u', y, g1, _, g3, _⟩ := each j sc hsc
          rw [hu] at g1; cases g1; exact g3
        · obtain ⟨j, u, hj, rfl⟩ := mem_cellsAt.1 ha
          have hjl : j < fs.size := by have := (List.getElem?_eq_some_iff.1 hj).1; omega
          have hcell := hat j hjl
          rw [add_addr, add_addr, Nat.add_assoc] at hcell
          have hu : cs'[j]? = some u := hj
          have hcu : W.cell? ⟨b, o + (i * fs.size + j), none⟩ = some u := by rw [hcell]; exact hu
          rw [hsz, Nat.add_assoc]
          refine hA _ (holds_cell hcu (hf b _ ?_))
          cases hx
          refine List.mem_append_left _ (MemPlace.mem_row.2 ⟨i * fs.size + j, ?_, rfl⟩)
          have : (i + 1) * fs.size ≤ m * fs.size := Nat.mul_le_mul_right _ (by omega)
          rw [Nat.succ_mul] at this; omega
        · rw [hy.1]
          congr 1
          apply List.ext_getElem?
          intro j
          by_cases hjl : j < scs.length
          · obtain ⟨sc, hsc⟩ : ∃ sc, scs[j]? = some sc := ⟨scs[j], by simp [hjl]⟩
            obtain ⟨u, y, g1, g2, _, g4⟩ := each j sc hsc
            rw [List.getElem?_map, List.getElem?_map, g1, g2]
            simp [g4]
          · rw [List.getElem?_eq_none (by simp; omega), List.getElem?_eq_none (by simp; omega)]
      obtain ⟨rows, hr1, hr2⟩ := choose_rows key
      obtain ⟨f1, f2⟩ := flatten_rows (A := A) (b := b) (size := scs.length) (rows := rows) (o := o) (fun i r hr => ⟨(hr2 i r hr).2.1, (hr2 i r hr).2.2.1⟩)
      refine ⟨rows, .inr ⟨b, o, m, by rw [hr1], by rw [hr1]; exact hl, f1, f2⟩, fun r hr => ?_, .inr ⟨(List.range (m - len)).map fun j => D (len + j), ?_⟩⟩
      · obtain ⟨i, hi⟩ := List.getElem?_of_mem hr
        exact (hr2 i r hi).1
      · cases hx
        congr 1
        apply List.ext_getElem?
        intro i
        by_cases hil : i < len
        · obtain ⟨r, hr⟩ : ∃ r, rows[i]? = some r := ⟨rows[i]'(by omega), by rw [List.getElem?_eq_getElem]⟩
          rw [List.getElem?_map, List.getElem?_map, hr, List.getElem?_range hil]
          simp [(hr2 i r hr).2.2.2]
        · rw [List.getElem?_eq_none (by simp; omega), List.getElem?_eq_none (by simp; omega)]
theorem rd_scal {t e : TypeId} {sc : SC} {v : Value} {d : DataW H} {p : List MemPlace} {A : List Atom} (ht : P.underlying t = some (.slice e)) (he : P.underlying e = some sc.td) (hC : P.cellsOf e = 1)
    (hv : Value.okWide P W .any base t v) (h : DataW.Trod enc P W 0 (fun _ => true) true t v d p) (hf : W.noneFrozen p) (hA : ∀ a : Atom, a.holds W → a ∈ A) :
    ∃ vs : List Value, RdRow 1 A v vs.length vs ∧ (∀ u ∈ vs, sc.ok u) ∧ ((d = .nil ∧ vs = []) ∨ ∃ sp, d = .slice (vs.map valD) sp) := by
  obtain ⟨n, hn⟩ := h
  rcases slice_form ht hv with rfl | ⟨b, o, len, cap, rfl, hl⟩
  · rcases open_slice ht hn with ⟨_, h2⟩ | ⟨a, l, c, m, n', D, Pl, h1, _⟩
    · cases h2
      exact ⟨[], .inl ⟨rfl, rfl, rfl⟩, by simp, .inl ⟨rfl, rfl⟩⟩
    · simp [Value.cells] at h1
  · rcases open_slice ht hn with ⟨h1, _⟩ | ⟨a, l, c, m, n', D, Pl, hcs, hb, hlc, hcm, hm, hx, hi⟩
    · simp [Value.cells] at h1
    · simp only [Value.cells, List.cons.injEq, Value.slice.injEq, Option.some.injEq, and_true] at hcs
      obtain ⟨rfl, rfl, rfl⟩ := hcs
      simp only [if_true] at hm
      subst hm
      rw [hC] at hx hi
      have key : ∀ i, i < len → ∃ u : Value, sc.ok u ∧ Atom.cell b (o + i) u ∈ A ∧ D i = valD u := by
        intro i hil
        obtain ⟨cs', hc, ht'⟩ := hi i (by omega)
        obtain ⟨_, hcl, hat⟩ := World.cells?_some hc
        obtain ⟨u, rfl⟩ : ∃ u, cs' = [u] := List.length_eq_one_iff.1 hcl
        obtain ⟨g1, g2⟩ := sc_trod he ht'
        have hcell := hat 0 (by omega)
        rw [add_addr, add_addr, Nat.mul_one, Nat.add_zero] at hcell
        refine ⟨u, g1, hA _ (holds_cell hcell (hf b _ ?_)), g2⟩
        cases hx
        exact List.mem_append_left _ (MemPlace.mem_row.2 ⟨i, by omega, rfl⟩)
      obtain ⟨vs, hr1, hr2⟩ := choose_rows key
      refine ⟨vs, .inr ⟨b, o, m, by rw [hr1], by rw [hr1]; exact hl, by omega, fun a ha => ?_⟩, fun u hu => ?_, .inr ⟨(List.range (m - len)).map fun j => D (len + j), ?_⟩⟩
      · obtain ⟨j, u, hj, rfl⟩ := mem_cellsAt.1 ha
        exact (hr2 j u hj).2.1
      · obtain ⟨i, hi⟩ := List.getElem?_of_mem hu
        exact (hr2 i u hi).1
      · cases hx
        congr 1
        apply List.ext_getElem?
        intro i
        by_cases hil : i < len
        · obtain ⟨r, hr⟩ : ∃ r, vs[i]? = some r := ⟨vs[i]'(by omega), by rw [List.getElem?_eq_getElem]⟩
          rw [List.getElem?_map, List.getElem?_map, hr, List.getElem?_range hil]
          simp [(hr2 i r hr).2.2]
        · rw [List.getElem?_eq_none (by simp; omega), List.getElem?_eq_none (by simp; omega)]
end
theorem map_of {α β : Type} {f : α → β} {l : List β} (h : ∀ y ∈ l, ∃ x, y = f x) : ∃ m : List α, l = m.map f := by
  induction l with
  | nil => exact ⟨[], rfl⟩
  | cons y l ih =>
    obtain ⟨m, rfl⟩ := ih (fun z hz => h z (by simp [hz]))
    obtain ⟨x, rfl⟩ := h y (by simp)
    exact ⟨x :: m, rfl⟩
end Go.V

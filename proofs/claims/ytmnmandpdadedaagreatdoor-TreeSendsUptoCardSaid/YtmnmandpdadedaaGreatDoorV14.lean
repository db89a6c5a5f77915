/-
  Trees that own their memory: rows, a focus; what changes them.
-/
import Derived.Test.YtmnmandpdadedaaGreatDoorV13
import Derived.Test.YtmnmandpdadedaaGreatDoorV12
import Derived.Test.YtmnmandpdadedaaGreatDoorV11
import Derived.Test.YtmnmandpdadedaaGreatDoorV10
import Derived.Test.YtmnmandpdadedaaGreatDoorV6
set_option linter.unusedSimpArgs false
set_option linter.unusedVariables false
namespace Go.V
open Go
theorem flat_snoc (Ls : Nat → List Atom) (L' : List Atom) (j : Nat) : ∃ Ls' : Nat → List Atom, (∀ i, i < j → Ls' i = Ls i) ∧ Ls' j = L' ∧ (List.range (j + 1)).flatMap Ls' = (List.range j).flatMap Ls ++ L' := by
  refine ⟨fun i => if i < j then Ls i else L', fun i hi => if_pos hi, if_neg (Nat.lt_irrefl _), ?_⟩
  rw [List.range_succ, List.flatMap_append]
  simp only [List.flatMap_cons, List.flatMap_nil, List.append_nil, Nat.lt_irrefl, if_false]
  congr 1
  rw [List.flatMap_def, List.flatMap_def]
  congr 1
  exact List.map_congr_left fun i hi => if_pos (List.mem_range.1 hi)
def LtRows (l : List Lt) (rows : List (List Value)) (K : List Atom) : Prop := rows.length = l.length ∧ (∀ r ∈ rows, r.length = 5) ∧ ∃ Ls, K = (List.range l.length).flatMap Ls ∧ ∀ (i : Nat) x r, l[i]? = some x → rows[i]? = some r → LtOwn x r (Ls i)
def NdRows (l : List Nd) (rows : List (List Value)) (K : List Atom) : Prop := rows.length = l.length ∧ (∀ r ∈ rows, r.length = 11) ∧ ∃ Ls, K = (List.range l.length).flatMap Ls ∧ ∀ (i : Nat) x r, l[i]? = some x → rows[i]? = some r → NdOwn x r (Ls i)
theorem LtRows.nil : LtRows [] [] [] := ⟨rfl, fun r hr => (by cases hr), fun _ => [], rfl, fun i x r h => (by simp at h)⟩
theorem NdRows.nil : NdRows [] [] [] := ⟨rfl, fun r hr => (by cases hr), fun _ => [], rfl, fun i x r h => (by simp at h)⟩
theorem snoc_at {α : Type} {l : List α} {z x : α} {i : Nat} (h : (l ++ [z])[i]? = some x) : (i < l.length ∧ l[i]? = some x) ∨ (i = l.length ∧ x = z) := by
  have hi := (List.getElem?_eq_some_iff.1 h).1
  rw [List.length_append, List.length_singleton] at hi
  by_cases e : i < l.length
  · rw [List.getElem?_append_left e] at h
    exact .inl ⟨e, h⟩
  · have : i = l.length := by omega
    subst this
    rw [List.getElem?_append_right (Nat.le_refl _), Nat.sub_self] at h
    simp only [List.getElem?_cons_zero, Option.some.injEq] at h
    exact .inr ⟨rfl, h.symm⟩
theorem LtRows.snoc {l : List Lt} {rows : List (List Value)} {K : List Atom} (h : LtRows l rows K) {x : Lt} {r : List Value} {L : List Atom} (hx : LtOwn x r L) : LtRows (l ++ [x]) (rows ++ [r]) (K ++ L) := by
  obtain ⟨h1, h2, Ls, rfl, h3⟩ := h
  obtain ⟨Ls', e1, e2, e3⟩ := flat_snoc Ls L l.length
  refine ⟨by simp [h1], fun r' hr' => ?_, Ls', by rw [List.length_append, List.length_singleton, e3], fun i y r' hy hr' => ?_⟩
  · rcases List.mem_append.1 hr' with h | h
    · exact h2 r' h
    · rw [List.mem_singleton.1 h]; exact hx.rd.len
  · rcases snoc_at hy with ⟨hi, hy⟩ | ⟨rfl, rfl⟩
    · rcases snoc_at hr' with ⟨_, hr'⟩ | ⟨e, _⟩
      · rw [e1 i hi]; exact h3 i y r' hy hr'
      · omega
    · rcases snoc_at hr' with ⟨e, _⟩ | ⟨_, rfl⟩
      · omega
      · rw [e2]; exact hx
theorem NdRows.snoc {l : List Nd} {rows : List (List Value)} {K : List Atom} (h : NdRows l rows K) {x : Nd} {r : List Value} {L : List Atom} (hx : NdOwn x r L) : NdRows (l ++ [x]) (rows ++ [r]) (K ++ L) := by
  obtain ⟨h1, h2, Ls, rfl, h3⟩ := h
  obtain ⟨Ls', e1, e2, e3⟩ := flat_snoc Ls L l.length
  refine ⟨by simp [h1], fun r' hr' => ?_, Ls', by rw [List.length_append, List.length_singleton, e3], fun i y r' hy hr' => ?_⟩
  · rcases List.mem_append.1 hr' with h | h
    · exact h2 r' h
    · rw [List.mem_singleton.1 h]; exact hx.rd.len
  · rcases snoc_at hy with ⟨hi, hy⟩ | ⟨rfl, rfl⟩
    · rcases snoc_at hr' with ⟨_, hr'⟩ | ⟨e, _⟩
      · rw [e1 i hi]; exact h3 i y r' hy hr'
      · omega
    · rcases snoc_at hr' with ⟨e, _⟩ | ⟨_, rfl⟩
      · omega
      · rw [e2]; exact hx
theorem LtOwn.of {k : Nat} {n : Int} {b : Nat} {t : ByteArray} {items : List Lt} {sv : Value} {rows : List (List Value)} {sp : List Value} {K : List Atom} (hsl : IsSl 5 sv items.length rows.flatten sp) (h : LtRows items rows K) (wf : LtWf k n b t items.length) :
    LtOwn (.mk k n b t items) [cv k, vi n, uv b, .string t, sv] (slA sv rows.flatten sp ++ K) := by
  obtain ⟨h1, h2, Ls, rfl, h3⟩ := h
  exact .mk hsl h1 h2 h3 wf (List.Perm.refl _)
theorem LtOwn.parts {x : Lt} {vs : List Value} {L : List Atom} (h : LtOwn x vs L) : ∃ sv rows sp K, vs = [cv x.kind, vi x.n, uv x.bits, .string x.text, sv] ∧ IsSl 5 sv x.items.length rows.flatten sp ∧ LtRows x.items rows K ∧ LtWf x.kind x.n x.bits x.text x.items.length ∧ L.Perm (slA sv rows.flatten sp ++ K) := by
  cases h with
  | mk hsl hl h5 hr wf hL => exact ⟨_, _, _, _, rfl, hsl, ⟨hl, h5, _, rfl, hr⟩, wf, hL⟩
theorem NdOwn.of {k : Nat} {s : ByteArray} {lit : Lt} {args temps : List ByteArray} {kids : List Nd} {p : Int} {lv : List Value} {av tv sv : Value} {rows : List (List Value)} {sp : List Value} {LL LA LT K : List Atom} (hsl : IsSl 11 sv kids.length rows.flatten sp) (h : NdRows kids rows K) (wf : NdWf k s kids.length p) (hlt : LtOwn lit lv LL) (hav : TxOwn av args LA) (htv : TxOwn tv temps LT) :
    NdOwn (.mk k s lit args temps kids p) ([cv k, .string s] ++ lv ++ [av, tv, sv, vi p]) (LL ++ (LA ++ (LT ++ (slA sv rows.flatten sp ++ K)))) := by
  obtain ⟨h1, h2, Ls, rfl, h3⟩ := h
  exact .mk hsl h1 h2 h3 wf hlt hav htv (List.Perm.refl _)
theorem NdOwn.parts {x : Nd} {vs : List Value} {L : List Atom} (h : NdOwn x vs L) : ∃ lv av tv sv rows sp LL LA LT K, vs = [cv x.kind, .string x.name] ++ lv ++ [av, tv, sv, vi x.at_] ∧ IsSl 11 sv x.kids.length rows.flatten sp ∧ NdRows x.kids rows K ∧ NdWf x.kind x.name x.kids.length x.at_ ∧
    LtOwn x.lit lv LL ∧ TxOwn av x.args LA ∧ TxOwn tv x.temps LT ∧ L.Perm (LL ++ (LA ++ (LT ++ (slA sv rows.flatten sp ++ K)))) := by
  cases h with
  | mk hsl hl h11 hr wf hlt hav htv hL => exact ⟨_, _, _, _, _, _, _, _, _, _, rfl, hsl, ⟨hl, h11, _, rfl, hr⟩, wf, hlt, hav, htv, hL⟩
structure Foc (p9 : Nat) (x0 : Nd) (M : List Atom) (b o : Nat) (x : Nd) (vs : List Value) (L R : List Atom) : Prop where
  own : NdOwn x vs L
  here : M.Perm (cellsAt b o vs ++ (L ++ R))
  w : x.w ≤ x0.w
  back : ∀ y ws L', NdOwn y ws L' → ndEq x y = false → ndEq y x = false → ∃ z us Lz, ndEq x0 z = false ∧ ndEq z x0 = false ∧ NdOwn z us Lz ∧ (cellsAt b o ws ++ (L' ++ R)).Perm (cellsAt p9 0 us ++ Lz)
section
variable {H : Type} {enc : TypeId × Value → H} {P : Program} {bulk : DataW H → Nat}
open Go.ChangeShapes Go.WideShapes Go.Deep
end
def roomT : ByteArray := ⟨#[114, 111, 111, 109]⟩
def moreT : ByteArray := ⟨#[109, 111, 114, 101]⟩
def TxLen (A : List Atom) (v : Value) (l : List ByteArray) : Prop := ∃ b c, v = .slice (some ⟨b, 0, none⟩) l.length c ∧ l.length + 2 ≤ c ∧ l.length ≤ 1099511627776 ∧ (∀ (i : Nat) t, l[i]? = some t → Atom.cell b i (.string t) ∈ A ∧ t.size ≤ 140737488355328) ∧ Atom.cell b l.length (.string roomT) ∈ A ∧ Atom.cell b (l.length + 1) (.string moreT) ∈ A
theorem TxLen.rd {A : List Atom} {v : Value} {l : List ByteArray} (h : TxLen A v l) : RdT A v l := by
  obtain ⟨b, c, h1, h2, h3, h4, _⟩ := h
  exact ⟨_, _, h1, h3, fun i t e => ⟨b, 0, rfl, by rw [Nat.zero_add]; exact (h4 i t e).1, (h4 i t e).2⟩⟩
theorem TxLen.more {A B : List Atom} (hs : ∀ x ∈ A, x ∈ B) {v : Value} {l : List ByteArray} (h : TxLen A v l) : TxLen B v l := by
  obtain ⟨b, c, h1, h2, h3, h4, h5, h6⟩ := h
  exact ⟨b, c, h1, h2, h3, fun i t e => ⟨hs _ (h4 i t e).1, (h4 i t e).2⟩, hs _ h5, hs _ h6⟩
inductive LtLen (A : List Atom) : Lt → List Value → Prop
  | mk {k : Nat} {n : Int} {b : Nat} {t : ByteArray} {items : List Lt} {c bk : Nat} {us : Nat → List Value} (wf : LtWf k n b t items.length)
      (hm : ∀ i, i < items.length → ∀ y ∈ cellsAt bk (i * 5) (us i), y ∈ A) (hr : ∀ i x, items[i]? = some x → LtLen A x (us i)) (hroom : Atom.cell bk (items.length * 5 + 1) (vi (-771)) ∈ A) (hc : items.length + 1 ≤ c) : LtLen A (.mk k n b t items) [cv k, vi n, uv b, .string t, .slice (some ⟨bk, 0, none⟩) items.length c]
inductive NdLen (A : List Atom) : Nd → List Value → Prop
  | mk {k : Nat} {s : ByteArray} {lit : Lt} {args temps : List ByteArray} {kids : List Nd} {p : Int} {lv : List Value} {av tv : Value} {c bk : Nat} {us : Nat → List Value} (wf : NdWf k s kids.length p) (hl : LtLen A lit lv) (hav : TxLen A av args) (htv : TxLen A tv temps)
      (hm : ∀ i, i < kids.length → ∀ y ∈ cellsAt bk (i * 11) (us i), y ∈ A) (hr : ∀ i x, kids[i]? = some x → NdLen A x (us i)) (hroom : Atom.cell bk (kids.length * 11 + 10) (vi (-771)) ∈ A) (hc : kids.length + 1 ≤ c) : NdLen A (.mk k s lit args temps kids p) ([cv k, .string s] ++ lv ++ [av, tv, .slice (some ⟨bk, 0, none⟩) kids.length c, vi p])
theorem LtLen.rd {A : List Atom} {x : Lt} {vs : List Value} (h : LtLen A x vs) : LtRd A x vs := by
  induction h with
  | mk wf hm hr hroom hc ih => exact .mk wf (fun _ => rfl) (fun i hi y hy => hm i hi y (by rwa [Nat.zero_add] at hy)) ih
theorem NdLen.rd {A : List Atom} {x : Nd} {vs : List Value} (h : NdLen A x vs) : NdRd A x vs := by
  induction h with
  | mk wf hl hav htv hm hr hroom hc ih => exact .mk wf hl.rd hav.rd htv.rd (fun _ => rfl) (fun i hi y hy => hm i hi y (by rwa [Nat.zero_add] at hy)) ih (by omega)
theorem LtLen.more {A B : List Atom} (hs : ∀ x ∈ A, x ∈ B) {x : Lt} {vs : List Value} (h : LtLen A x vs) : LtLen B x vs := by
  induction h with
  | mk wf hm hr hroom hc ih => exact .mk wf (fun i hi y hy => hs _ (hm i hi y hy)) ih (hs _ hroom) hc
theorem NdLen.more {A B : List Atom} (hs : ∀ x ∈ A, x ∈ B) {x : Nd} {vs : List Value} (h : NdLen A x vs) : NdLen B x vs := by
  induction h with
  | mk wf hl hav htv hm hr hroom hc ih => exact .mk wf (hl.more hs) (hav.more hs) (htv.more hs) (fun i hi y hy => hs _ (hm i hi y hy)) ih (hs _ hroom) hc
theorem LtLen.len {A : List Atom} {x : Lt} {vs : List Value} (h : LtLen A x vs) : vs.length = 5 := h.rd.len
theorem NdLen.len {A : List Atom} {x : Nd} {vs : List Value} (h : NdLen A x vs) : vs.length = 11 := h.rd.len
theorem row_upd {sz j : Nat} {rows : List (List Value)} {row tl : List Value} (hr : rows.flatten.length = j * sz) (hl : row.length = sz) : (rows.flatten ++ tl).take (j * sz) ++ row ++ (rows.flatten ++ tl).drop (j * sz + row.length) = (rows ++ [row]).flatten ++ tl.drop sz := by
  rw [List.take_append_of_le_length (by omega), List.take_of_length_le (by omega), List.drop_append, List.drop_of_length_le (by omega), hr, hl, Nat.add_sub_cancel_left]
  simp
theorem set_row {b sz n f : Nat} {rows : List (List Value)} {tl : List Value} {u : Value} (hl : ∀ r ∈ rows, r.length = sz) (hn : rows.length = n) {i : Nat} {r : List Value} (hi : rows[i]? = some r) : ∀ y ∈ cellsAt b (i * sz) r, y ∈ cellsAt b 0 ((rows.flatten ++ tl).set (n * sz + f) u) := by
  intro y hy
  obtain ⟨k, v, hk, rfl⟩ := mem_cellsAt.1 hy
  have hil := (List.getElem?_eq_some_iff.1 hi).1
  have hkl := (List.getElem?_eq_some_iff.1 hk).1
  have hrl := hl r (List.mem_of_getElem? hi)
  have h1 : Atom.cell b (i * sz + k) v ∈ cellsAt b 0 rows.flatten := cells_row hl hi _ (by rw [Nat.zero_add]; exact mem_cellsAt.2 ⟨k, v, hk, rfl⟩)
  obtain ⟨m, w, hm, he⟩ := mem_cellsAt.1 h1
  simp only [Atom.cell.injEq, true_and, Nat.zero_add] at he
  obtain ⟨rfl, rfl⟩ := he
  have hlt : i * sz + k < n * sz := by
    have h2 : (i + 1) * sz ≤ n * sz := Nat.mul_le_mul_right _ (by omega)
    rw [Nat.add_mul] at h2; omega
  refine mem_cellsAt.2 ⟨i * sz + k, v, ?_, by rw [Nat.zero_add]⟩
  rw [List.getElem?_set_ne (by omega), List.getElem?_append_left (by have := (List.getElem?_eq_some_iff.1 hm).1; omega)]
  exact hm
theorem set_room {b m : Nat} {l : List Value} {u : Value} (h : m < l.length) : Atom.cell b m u ∈ cellsAt b 0 (l.set m u) :=
  mem_cellsAt.2 ⟨m, u, by rw [List.getElem?_set_self h], by rw [Nat.zero_add]⟩
def LtRowsL (l : List Lt) (rows : List (List Value)) (K : List Atom) : Prop := rows.length = l.length ∧ (∀ r ∈ rows, r.length = 5) ∧ ∀ (i : Nat) x r, l[i]? = some x → rows[i]? = some r → LtLen K x r
def NdRowsL (l : List Nd) (rows : List (List Value)) (K : List Atom) : Prop := rows.length = l.length ∧ (∀ r ∈ rows, r.length = 11) ∧ ∀ (i : Nat) x r, l[i]? = some x → rows[i]? = some r → NdLen K x r
theorem LtRowsL.nil : LtRowsL [] [] [] := ⟨rfl, fun r hr => (by cases hr), fun i x r h => (by simp at h)⟩
theorem NdRowsL.nil : NdRowsL [] [] [] := ⟨rfl, fun r hr => (by cases hr), fun i x r h => (by simp at h)⟩
theorem LtRowsL.snoc {l : List Lt} {rows : List (List Value)} {K : List Atom} (h : LtRowsL l rows K) {x : Lt} {r : List Value} {L : List Atom} (hx : LtLen L x r) : LtRowsL (l ++ [x]) (rows ++ [r]) (K ++ L) := by
  obtain ⟨h1, h2, h3⟩ := h
  refine ⟨by simp [h1], fun q hq => ?_, fun i y q hy hq => ?_⟩
  · rcases List.mem_append.1 hq with hq | hq
    · exact h2 q hq
    · rw [List.mem_singleton.1 hq]; exact hx.len
  · rcases snoc_at hy with ⟨g1, g2⟩ | ⟨g1, rfl⟩
    · rw [List.getElem?_append_left (by omega)] at hq
      exact (h3 i y q g2 hq).more fun _ ha => List.mem_append_left _ ha
    · subst g1
      rw [← h1, List.getElem?_append_right (Nat.le_refl _), Nat.sub_self] at hq
      cases hq
      exact hx.more fun _ ha => List.mem_append_right _ ha
theorem NdRowsL.snoc {l : List Nd} {rows : List (List Value)} {K : List Atom} (h : NdRowsL l rows K) {x : Nd} {r : List Value} {L : List Atom} (hx : NdLen L x r) : NdRowsL (l ++ [x]) (rows ++ [r]) (K ++ L) := by
  obtain ⟨h1, h2, h3⟩ := h
  refine ⟨by simp [h1], fun q hq => ?_, fun i y q hy hq => ?_⟩
  · rcases List.mem_append.1 hq with hq | hq
    · exact h2 q hq
    · rw [List.mem_singleton.1 hq]; exact hx.len
  · rcases snoc_at hy with ⟨g1, g2⟩ | ⟨g1, rfl⟩
    · rw [List.getElem?_append_left (by omega)] at hq
      exact (h3 i y q g2 hq).more fun _ ha => List.mem_append_left _ ha
    · subst g1
      rw [← h1, List.getElem?_append_right (Nat.le_refl _), Nat.sub_self] at hq
      cases hq
      exact hx.more fun _ ha => List.mem_append_right _ ha
theorem LtRowsL.row {l : List Lt} {rows : List (List Value)} {K : List Atom} (h : LtRowsL l rows K) {i : Nat} (hi : i < l.length) : rows[i]? = some (rows.getD i []) := by
  rw [List.getD_eq_getElem?_getD, List.getElem?_eq_getElem (by rw [h.1]; exact hi)]; rfl
theorem NdRowsL.row {l : List Nd} {rows : List (List Value)} {K : List Atom} (h : NdRowsL l rows K) {i : Nat} (hi : i < l.length) : rows[i]? = some (rows.getD i []) := by
  rw [List.getD_eq_getElem?_getD, List.getElem?_eq_getElem (by rw [h.1]; exact hi)]; rfl
theorem LtLen.of {k : Nat} {n : Int} {b : Nat} {t : ByteArray} {items : List Lt} {rows : List (List Value)} {tl : List Value} {K : List Atom} {bk c : Nat} (h : LtRowsL items rows K) (wf : LtWf k n b t items.length) (ht : 5 ≤ tl.length) (hc : items.length + 1 ≤ c) :
    LtLen (cellsAt bk 0 ((rows.flatten ++ tl).set (items.length * 5 + 1) (vi (-771))) ++ K) (.mk k n b t items) [cv k, vi n, uv b, .string t, .slice (some ⟨bk, 0, none⟩) items.length c] := by
  have hlen := rows_len h.2.1
  refine .mk (us := fun i => rows.getD i []) wf (fun i hi y hy => ?_) (fun i x hx => ?_) ?_ hc
  · exact List.mem_append_left _ (set_row h.2.1 h.1 (h.row hi) y hy)
  · have hi := (List.getElem?_eq_some_iff.1 hx).1
    exact (h.2.2 i x _ hx (h.row hi)).more fun _ ha => List.mem_append_right _ ha
  · exact List.mem_append_left _ (set_room (by rw [List.length_append, hlen, h.1]; omega))
theorem NdLen.of {k : Nat} {s : ByteArray} {lit : Lt} {args temps : List ByteArray} {kids : List Nd} {p : Int} {lv : List Value} {av tv : Value} {rows : List (List Value)} {tl : List Value} {K L1 L2 L3 : List Atom} {bk c : Nat} (h : NdRowsL kids rows K) (wf : NdWf k s kids.length p) (hl : LtLen L1 lit lv) (hav : TxLen L2 av args) (htv : TxLen L3 tv temps) (ht : 11 ≤ tl.length) (hc : kids.length + 1 ≤ c) :
    NdLen (cellsAt bk 0 ((rows.flatten ++ tl).set (kids.length * 11 + 10) (vi (-771))) ++ (K ++ (L1 ++ (L2 ++ L3)))) (.mk k s lit args temps kids p) ([cv k, .string s] ++ lv ++ [av, tv, .slice (some ⟨bk, 0, none⟩) kids.length c, vi p]) := by
  have hlen := rows_len h.2.1
  refine .mk (us := fun i => rows.getD i []) wf (hl.more fun _ ha => ?_) (hav.more fun _ ha => ?_) (htv.more fun _ ha => ?_) (fun i hi y hy => ?_) (fun i x hx => ?_) ?_ hc
  · exact List.mem_append_right _ (List.mem_append_right _ (List.mem_append_left _ ha))
  · exact List.mem_append_right _ (List.mem_append_right _ (List.mem_append_right _ (List.mem_append_left _ ha)))
  · exact List.mem_append_right _ (List.mem_append_right _ (List.mem_append_right _ (List.mem_append_right _ ha)))
  · exact List.mem_append_left _ (set_row h.2.1 h.1 (h.row hi) y hy)
  · have hi := (List.getElem?_eq_some_iff.1 hx).1
    exact (h.2.2 i x _ hx (h.row hi)).more fun _ ha => List.mem_append_right _ (List.mem_append_left _ ha)
  · exact List.mem_append_left _ (set_room (by rw [List.length_append, hlen, h.1]; omega))
theorem GOHS {R G : Prop} (r : R) (h : Later R → G := by
  intro later
  (repeat (first
      | (first
    | (apply st_gt; rfl)
    | (apply st_shr; rfl; rfl; omega; omega; (first | with_reducible exact Int.toNat_natCast _ | ((try simp only [Int.reduceToNat]); rfl)); (first | with_reducible exact Int.toNat_natCast _ | ((try simp only [Int.reduceToNat]); rfl)); (first | assumption | ((try simp only [Nat.reducePow]); rfl)); rfl)
    | (apply st_shl; rfl; rfl; omega; omega; (first | with_reducible exact Int.toNat_natCast _ | ((try simp only [Int.reduceToNat]); rfl)); (first | with_reducible exact Int.toNat_natCast _ | ((try simp only [Int.reduceToNat]); rfl)); (first | assumption | ((try simp only [Nat.reducePow]); rfl)); rfl)
    | (apply st_and; rfl; rfl; (first | exact ltM | (focus (apply ltB; (repeat' (first | exact modM | apply orC | apply andN_lt | apply divC | omega)); done)) | omega); (first | exact ltM | (focus (apply ltB; (repeat' (first | exact modM | apply orC | apply andN_lt | apply divC | omega)); done)) | omega); (first | with_reducible exact Int.toNat_natCast _ | ((try simp only [Int.reduceToNat]); rfl)); (first | with_reducible exact Int.toNat_natCast _ | ((try simp only [Int.reduceToNat]); rfl)); (first | exact and1 _ | exact and7 _ | exact and15 _ | rfl))
    | (apply st_or; rfl; rfl; (first | exact ltM | (focus (apply ltB; (repeat' (first | exact modM | apply orC | apply andN_lt | apply divC | omega)); done)) | omega); (first | exact ltM | (focus (apply ltB; (repeat' (first | exact modM | apply orC | apply andN_lt | apply divC | omega)); done)) | omega); (first | with_reducible exact Int.toNat_natCast _ | ((try simp only [Int.reduceToNat]); rfl)); (first | with_reducible exact Int.toNat_natCast _ | ((try simp only [Int.reduceToNat]); rfl)); rfl)
    | (apply st_andN; rfl; rfl; (first | exact ltM | (focus (apply ltB; (repeat' (first | exact modM | apply orC | apply andN_lt | apply divC | omega)); done)) | omega); (first | exact ltM | (focus (apply ltB; (repeat' (first | exact modM | apply orC | apply andN_lt | apply divC | omega)); done)) | omega); (first | with_reducible exact Int.toNat_natCast _ | ((try simp only [Int.reduceToNat]); rfl)); (first | with_reducible exact Int.toNat_natCast _ | ((try simp only [Int.reduceToNat]); rfl)))
    | (apply st_subU; rfl; rfl; omega; omega; (first | with_reducible exact Int.toNat_natCast _ | ((try simp only [Int.reduceToNat]); rfl)); (first | with_reducible exact Int.toNat_natCast _ | ((try simp only [Int.reduceToNat]); rfl)))
    | (apply st_addB; rfl; rfl; omega; omega; omega; (first | with_reducible exact Int.toNat_natCast _ | ((try simp only [Int.reduceToNat]); rfl)); (first | with_reducible exact Int.toNat_natCast _ | ((try simp only [Int.reduceToNat]); rfl)))
    | (apply st_convN; rfl; (first | exact wrapI (by omega) | exact wrapU_lt (by omega) | exact wrapB_lt (by omega)))
    | (apply st_quoN; rfl; rfl; omega; omega; (first | with_reducible exact Int.toNat_natCast _ | ((try simp only [Int.reduceToNat]); rfl)); (first | with_reducible exact Int.toNat_natCast _ | ((try simp only [Int.reduceToNat]); rfl)))
    | (apply st_remN; rfl; rfl; omega; omega; (first | with_reducible exact Int.toNat_natCast _ | ((try simp only [Int.reduceToNat]); rfl)); (first | with_reducible exact Int.toNat_natCast _ | ((try simp only [Int.reduceToNat]); rfl)))
    | (apply st_gf; rfl; rfl)
    | (apply st_gu; rfl)
    | (apply st_mv; rfl)
    | (apply st_nil; rfl)
    | (apply st_pick_t; rfl; rfl)
    | (apply st_pick_f; rfl; rfl)
    | (apply st_fld; rfl; ((try simp only [Nat.zero_add, Nat.add_zero, Nat.reduceAdd, Nat.reduceMul, Nat.add_assoc, Int.toNat_natCast, Nat.mul_one]); rfl))
    | (apply st_load1; rfl; (focus ((repeat (first | (apply Has.cells; omega; rfl) | apply Has.there)); done)))
    | (apply st_load1; rfl; (focus ((repeat (first | (apply Has.among; assumption) | apply Has.there)); done)))
    | (apply st_loadM; rfl; (focus ((repeat (first | (apply HasM.cells; omega; (focus (simp only [List.length_cons, List.length_nil, Nat.reduceAdd, Nat.zero_add, Nat.reduceSub, Nat.sub_self, Nat.reduceLeDiff, Nat.le_refl]; done)); (focus (simp only [lnb, Value.cells, Nat.zero_add, Nat.reduceEqDiff, ↓reduceIte, eq_self, Nat.reduceAdd, Nat.reduceSub, Nat.sub_self, Nat.reduceLeDiff, Nat.le_refl, and_self, rep, zeroRow] <;> rfl)); rfl) | apply HasM.there)); done)))
    | (apply st_extL; rfl; rfl)
    | (apply st_ext; rfl; rfl)
    | (apply st_add; rfl; rfl; omega)
    | (apply st_sub; rfl; rfl; omega)
    | (apply st_mul; rfl; rfl; omega)
    | (apply st_rem; rfl; rfl; decide)
    | (apply st_idxL; rfl; rfl; omega; ((try simp only [Nat.zero_add, Nat.add_zero, Nat.reduceAdd, Nat.reduceMul, Nat.add_assoc, Int.toNat_natCast, Nat.mul_one]); rfl))
    | (apply st_idxA; rfl; rfl; omega; ((try simp only [Nat.zero_add, Nat.add_zero, Nat.reduceAdd, Nat.reduceMul, Nat.add_assoc, Int.toNat_natCast, Nat.mul_one]); rfl))
    | (apply st_build; rfl; (focus (simp only [lnb, Value.cells, Nat.zero_add, Nat.reduceEqDiff, ↓reduceIte, eq_self, Nat.reduceAdd, Nat.reduceSub, Nat.sub_self, Nat.reduceLeDiff, Nat.le_refl, and_self, rep, zeroRow] <;> rfl)))
    | (apply st_store'; rfl; rfl; (focus (simp only [lnb, Value.cells, Nat.zero_add, Nat.reduceEqDiff, ↓reduceIte, eq_self, Nat.reduceAdd, Nat.reduceSub, Nat.sub_self, Nat.reduceLeDiff, Nat.le_refl, and_self, rep, zeroRow] <;> rfl)); rfl; rfl; (focus ((repeat (first | (apply Upd.cells; omega; (focus (simp only [List.length_cons, List.length_nil, Nat.reduceAdd, Nat.zero_add, Nat.reduceSub, Nat.sub_self, Nat.reduceLeDiff, Nat.le_refl]; done)); (focus (simp only [lnb, Value.cells, Nat.zero_add, Nat.reduceEqDiff, ↓reduceIte, eq_self, Nat.reduceAdd, Nat.reduceSub, Nat.sub_self, Nat.reduceLeDiff, Nat.le_refl, and_self, rep, zeroRow] <;> rfl))) | apply Upd.there)); done)))
    | (apply st_pure; rfl; rfl; rfl))
      | (refine VO.nil ?_; simp only [V.argsEnv, V.restr, V.look, V.putE, V.thenQ, V.blockQ, Nat.zero_add, Nat.reduceAdd, Nat.reduceEqDiff, ↓reduceIte, eq_self])
      | refine VC.seq_reg ?_
      | refine VC.seq_draw1 ?_
      | refine VC.seq_block ?_
      | refine VC.seq_skip ?_
      | refine VC.reg ?_
      | refine VC.draw1 ?_
      | refine VC.block ?_
      | (refine VC.skip ?_; try simp only [V.argsEnv, V.restr, V.look, V.putE, V.thenQ, V.blockQ, Nat.zero_add, Nat.reduceAdd, Nat.reduceEqDiff, ↓reduceIte, eq_self])
      | (refine VC.exit ?_; try simp only [V.argsEnv, V.restr, V.look, V.putE, V.thenQ, V.blockQ, Nat.zero_add, Nat.reduceAdd, Nat.reduceEqDiff, ↓reduceIte, eq_self])
      | (refine VC.ret ?_; try simp only [V.thenQ, V.blockQ])
      | (apply VC.seq_cond_t; rfl)
      | (apply VC.seq_cond_f; rfl)
      | (apply VC.cond_t; rfl)
      | (apply VC.cond_f; rfl)))
  exact later.out) : G := h ⟨r⟩
theorem HOk.free {x : HW} (hx : HOk x) {sp : Nat} {r : Nat × Nat × Nat} (h1 : 1 ≤ sp) (h5 : sp ≠ 5) (hr : x.a.rm[sp]? = some r) {e : Nat} (he : e ≤ r.2.1) : ∀ c ∈ x.a.obs, c.stop ≤ r.2.2 ∨ e ≤ c.at_ := by
  intro c hc
  obtain ⟨i, t, hi, ht, c1, c2⟩ := hx.rm.inn c hc
  have k1 := hx.rm.rng sp r hr
  have k2 := hx.rm.rng i t ht
  have c3 : c.stop ≤ t.2.1 := by split at c2 <;> omega
  by_cases e2 : i = sp
  · subst e2
    rw [hr] at ht; cases ht
    rw [if_neg h5] at c2
    exact .inl c2
  · by_cases h : i < sp
    · rcases hx.rm.apart i sp t r h ht hr hi with h2 | h2
      · exact .inl (by omega)
      · exact .inr (by omega)
    · rcases hx.rm.apart sp i r t (by omega) hr ht h1 with h2 | h2
      · exact .inr (by omega)
      · exact .inl (by omega)
section
variable {P : Program} {n : Nat} {rs : List RO} {Γ : Env} {H : SH} {Z : List PanicEntry → Env → SH → Prop} {K : Env → SH → Prop} {d : Option Nat}
end
def Ob.off (b : Ob) : Nat := if b.hd.slots = 0 then 0 else b.at_ + 2
theorem HOk.slot {x : HW} (hx : HOk x) {b : Ob} (hb : b ∈ x.a.obs) {i v : Nat} (h : b.body[i]? = some v) : x.ws[b.off + i]? = some v ∧ v < 18446744073709551616 := by
  have hok := hx.lay.ok b hb
  have hi := (List.getElem?_eq_some_iff.1 h).1
  rw [hok.len] at hi
  have := hx.lay.body b hb i hi
  unfold Ob.off
  rw [if_neg (by omega), this]
  exact ⟨h, hok.small v (List.mem_of_getElem? h)⟩
section
variable {P : Program} {n : Nat} {rs : List RO} {Γ : Env} {H : SH} {Z : List PanicEntry → Env → SH → Prop} {K : Env → SH → Prop} {d : Option Nat}
theorem st_slcL1 {size len cap l b o : Nat} {x lo : Operand} {kl : IntKind} {cl : Int} (hx : ev Γ x = some (.slice (some ⟨b, o, none⟩) len cap)) (hlo : ev Γ lo = some (.int kl cl)) (el : cl = (l : Int)) (hr : l ≤ len ∧ len ≤ cap)
    (k : VO P n rs (putE d (.slice (some ⟨b, if cap = l then o else o + l * size, none⟩) (len - l) (cap - l)) Γ) H Z K) :
    VO P n (⟨d, none, .slcL size x (some lo) none none⟩ :: rs) Γ H Z K := by
  subst el
  refine VO.pure rfl (fun ρ hρ => ?_) k
  have h1 : bound (Value.int kl (l : Int)) len = some l := by simp [bound]; omega
  simp [pureV, hρ _ _ hx, hρ _ _ hlo, bounds, h1, boundO]
end
def mx {α : Type} (f : α → Nat) : List α → Nat
  | [] => 0
  | x :: r => max (f x) (mx f r)
theorem wpR_append {P : Program} {Z : Exit → Act → World → Prop} {Q : Act → World → Prop} {l m : List (RO × Oper)} : ∀ {a w}, wpR P Z (fun a w => wpR P Z Q m a w) l a w → wpR P Z Q (l ++ m) a w := by
  induction l with
  | nil => intro a w h; exact h
  | cons x l ih =>
    intro a w h
    have key : wpR P Z (fun a w => wpR P Z Q m a w) (x :: l) = wpR1 P Z x (wpR P Z (fun a w => wpR P Z Q m a w) l) := by funext a w; rfl
    show wpR1 P Z x (wpR P Z Q (l ++ m)) a w
    have h2 : wpR1 P Z x (wpR P Z (fun a w => wpR P Z Q m a w) l) a w := h
    have h3 : wpR P Z (wpR P Z Q (l ++ m)) [x] a w := wpR_mono (l := [x]) (Q := wpR P Z (fun a w => wpR P Z Q m a w) l) (fun a w g => ih g) h2
    exact h3
section
variable {P : Program} {n : Nat} {rs l1 l2 : List RO} {Γ : Env} {H : SH} {Z : List PanicEntry → Env → SH → Prop} {K : Env → SH → Prop}
theorem VO.app (h : VO P n l1 Γ H Z (fun Γ' H' => VO P n l2 Γ' H' Z K)) : VO P n (l1 ++ l2) Γ H Z K := by
  intro l hl a w F ZZ Q ha hs hq hz
  obtain ⟨hl1, hl2⟩ := hl
  obtain ⟨p, q, rfl, hp, hq2⟩ := List.map_eq_append_iff.1 hl1
  refine wpR_append (h p ⟨hp, fun x hx => hl2 x (List.mem_append_left _ hx)⟩ a w F ZZ _ ha hs (fun a' w' Γ' H' k g1 g2 g3 g4 => ?_) hz)
  refine k q ⟨hq2, fun x hx => hl2 x (List.mem_append_right _ hx)⟩ a' w' F ZZ Q g1 g3 (fun a2 w2 Γ2 H2 k2 e1 e2 e3 e4 => hq a2 w2 Γ2 H2 k2 e1 (e2.trans g2) e3 (g4.trans e4)) (fun ch a2 w2 Γ2 H2 k2 e1 e2 e3 e4 => hz ch a2 w2 Γ2 H2 k2 e1 (e2.trans g2) e3 (g4.trans e4))
def cutAt (t : Nat) : List RO → List RO × List RO
  | [] => ([], [])
  | r :: l => if r.dst = some t then ([r], l) else ((r :: (cutAt t l).1), (cutAt t l).2)
theorem cutAt_eq (t : Nat) : ∀ l : List RO, l = (cutAt t l).1 ++ (cutAt t l).2 := by
  intro l
  induction l with
  | nil => rfl
  | cons r l ih =>
    simp only [cutAt]
    split
    · rfl
    · simp only [List.cons_append]; rw [← ih]
theorem VO.bool (t : Nat) (b : Bool) (hc : cutAt t rs = (l1, l2)) (h1 : VO P n l1 Γ H Z (fun Γ' H' => look Γ' t = some (.bool b) ∧ Sub Γ' Γ ∧ Imp H' H)) (h2 : VO P n l2 ((t, .bool b) :: Γ) H Z K) : VO P n rs Γ H Z K := by
  have he := cutAt_eq t rs
  rw [hc] at he
  rw [he]
  refine VO.app (h1.mono fun Γ' H' ⟨g1, g2, g3⟩ => VO.sub ?_ (VO.imp g3 h2))
  intro s v hs
  simp only [look] at hs
  split at hs
  · rename_i e; cases hs
    first
      | (subst e; exact g1)
      | (rw [← e]; exact g1)
      | (rw [e]; exact g1)
  · exact g2 s v hs
end
end Go.V

/-
  Trees that own their memory: a part may be changed.
-/
import Derived.Test.YtmnmandpdadedaaGreatDoorV4
import Derived.Test.YtmnmandpdadedaaGreatDoorV5
import Derived.Test.YtmnmandpdadedaaGreatDoorV3
set_option linter.unusedSimpArgs false
set_option linter.unusedVariables false
namespace Go.V
open Go
inductive wS : Lt -> List Value -> List kE -> Prop
  | mk {k : Nat} {n : Int} {b : Nat} {t : ByteArray} {items : List Lt} {sv : Value} {rows : List (List Value)} {sp : List Value} {Ls : Nat -> List kE} {L : List kE} (hsl : ku 5 sv items.length rows.flatten sp) (hl : rows.length = items.length) (h5 : ∀ r ∈ rows, r.length = 5)
      (hr : ∀ (i : Nat) x r, items[i]? = some x -> rows[i]? = some r -> wS x r (Ls i)) (wf : LtWf k n b t items.length) (hL : L.Perm (slA sv rows.flatten sp ++ (List.range items.length).flatMap Ls)) : wS (.mk k n b t items) [cv k, vi n, uv b, .string t, sv] L
def wC (v : Value) (l : List ByteArray) (L : List kE) : Prop := ∃ sp, ku 1 v l.length (l.map Value.string) sp /\ L = slA v (l.map Value.string) sp /\ l.length <= 1099511627776 /\ ∀ t ∈ l, t.size <= 140737488355328
inductive wD : Nd -> List Value -> List kE -> Prop
  | mk {k : Nat} {s : ByteArray} {lit : Lt} {args temps : List ByteArray} {kids : List Nd} {p : Int} {lv : List Value} {av tv sv : Value} {rows : List (List Value)} {sp : List Value} {Ls : Nat -> List kE} {LL LA LT L : List kE} (hsl : ku 11 sv kids.length rows.flatten sp) (hl : rows.length = kids.length) (h11 : ∀ r ∈ rows, r.length = 11)
      (hr : ∀ (i : Nat) x r, kids[i]? = some x -> rows[i]? = some r -> wD x r (Ls i)) (wf : NdWf k s kids.length p) (hlt : wS lit lv LL) (hav : wC av args LA) (htv : wC tv temps LT)
      (hL : L.Perm (LL ++ (LA ++ (LT ++ (slA sv rows.flatten sp ++ (List.range kids.length).flatMap Ls))))) : wD (.mk k s lit args temps kids p) ([cv k, .string s] ++ lv ++ [av, tv, sv, vi p]) L
theorem wS.rd {x : Lt} {vs : List Value} {L : List kE} (h : wS x vs L) : zL L x vs := by
  induction h with
  | @mk k n b t items sv rows sp Ls L hsl hl h5 hr wf hL ih =>
    have := lt_made (B := (List.range items.length).flatMap Ls) (k := k) (n := n) (b := b) (t := t) hsl hl h5 (fun i x r e1 e2 => (ih i x r e1 e2).more fun z hz => List.mem_flatMap.2 ⟨i, List.mem_range.2 (List.getElem?_eq_some_iff.1 e1).1, hz⟩) wf;exact this.more fun z hz => hL.symm.subset hz
theorem wC.rd {v : Value} {l : List ByteArray} {L : List kE} (h : wC v l L) : RdT L v l := by
  obtain ⟨sp, h1, rfl, h3, h4⟩ := h;exact texts_made rfl h1 h3 h4
theorem wD.rd {x : Nd} {vs : List Value} {L : List kE} (h : wD x vs L) : kf L x vs := by
  induction h with
  | @mk k s lit args temps kids p lv av tv sv rows sp Ls LL LA LT L hsl hl h11 hr wf hlt hav htv hL ih =>
    have := nd_made (B := LL ++ (LA ++ (LT ++ (List.range kids.length).flatMap Ls))) hsl hl h11 (fun i x r e1 e2 => (ih i x r e1 e2).more fun z hz => by
      simp only [List.mem_append];exact .inr (.inr (.inr (List.mem_flatMap.2 ⟨i, List.mem_range.2 (List.getElem?_eq_some_iff.1 e1).1, hz⟩)))) wf (hlt.rd.more fun z hz => by simp [hz]) (hav.rd.more fun z hz => by simp [hz]) (htv.rd.more fun z hz => by simp [hz])
    refine this.more fun z hz => hL.symm.subset ?_
    simp only [List.mem_append] at hz |-;rcases hz with h | h | h | h | h
    · exact .inr (.inr (.inr (.inl h)))
    · exact .inl h
    · exact .inr (.inl h)
    · exact .inr (.inr (.inl h))
    · exact .inr (.inr (.inr (.inr h)))
theorem wD.len {x : Nd} {vs : List Value} {L : List kE} (h : wD x vs L) : vs.length = 11 := h.rd.len
theorem wD.perm {x : Nd} {vs : List Value} {L M : List kE} (h : wD x vs L) (hp : M.Perm L) : wD x vs M := by
  cases h with
  | mk hsl hl h11 hr wf hlt hav htv hL => exact .mk hsl hl h11 hr wf hlt hav htv (hp.trans hL)
end Go.V
namespace Go.V
open Go
theorem st_appendN {P : Program} {n : Nat} {rs : List RO} {Γ : Env} {H : SH} {Z : List PanicEntry -> Env -> SH -> Prop} {K : Env -> SH -> Prop} {d : Option Nat} {t : TypeId} {size bytes : Nat} {zero : List Value} {s x : Operand} {a : Option Addr} {c2 : Nat}
    (hs : ev Γ s = some (.slice none 0 0)) (hx : ev Γ x = some (.slice a 0 c2)) (h : VO P n rs (putE d (.slice none 0 0) Γ) H Z K) : VO P n (⟨d, none, .append t size bytes zero s x⟩ :: rs) Γ H Z K := by
  refine VO.act' rfl rfl (fun ρ hρ => ⟨_, rfl, ?_⟩);rw [hρ _ _ hs, hρ _ _ hx];simp only [seqLen];rw [if_pos (show 0 + 0 <= 0 by omega)];cases a with
  | none =>
    refine SWP.bind (SWP.pure ?_);exact SWP.pure ⟨_, H, [], .inl rfl, Zs, h⟩
  | some ad =>
    have e0 : (Builtin.firstCells size 0 (.slice (some ad) 0 c2) : Sem (Array Value)) = pure #[] := by
      simp only [Builtin.firstCells, Nat.zero_mul];rfl
    rw [e0];refine SWP.bind (SWP.pure ?_);exact SWP.pure ⟨_, H, [], .inl rfl, Zs, h⟩
theorem flat_snoc (Ls : Nat -> List kE) (L' : List kE) (j : Nat) : ∃ Ls' : Nat -> List kE, (∀ i, i < j -> Ls' i = Ls i) /\ Ls' j = L' /\ (List.range (j + 1)).flatMap Ls' = (List.range j).flatMap Ls ++ L' := by
  refine ⟨fun i => if i < j then Ls i else L', fun i hi => if_pos hi, if_neg (Nat.lt_irrefl _), ?_⟩;rw [List.range_succ, List.flatMap_append];simp only [List.flatMap_cons, List.flatMap_nil, List.append_nil, Nat.lt_irrefl, if_false]
  congr 1
  rw [List.flatMap_def, List.flatMap_def]
  congr 1
  exact List.map_congr_left fun i hi => if_pos (List.mem_range.1 hi)
def zZ (l : List Lt) (rows : List (List Value)) (K : List kE) : Prop := rows.length = l.length /\ (∀ r ∈ rows, r.length = 5) /\ ∃ Ls, K = (List.range l.length).flatMap Ls /\ ∀ (i : Nat) x r, l[i]? = some x -> rows[i]? = some r -> wS x r (Ls i)
def jl (l : List Nd) (rows : List (List Value)) (K : List kE) : Prop := rows.length = l.length /\ (∀ r ∈ rows, r.length = 11) /\ ∃ Ls, K = (List.range l.length).flatMap Ls /\ ∀ (i : Nat) x r, l[i]? = some x -> rows[i]? = some r -> wD x r (Ls i)
theorem zZ.nil : zZ [] [] [] := ⟨rfl, fun r hr => (by cases hr), fun _ => [], rfl, fun i x r h => (by simp at h)⟩
theorem jl.nil : jl [] [] [] := ⟨rfl, fun r hr => (by cases hr), fun _ => [], rfl, fun i x r h => (by simp at h)⟩
theorem snoc_at {α : Type} {l : List α} {z x : α} {i : Nat} (h : (l ++ [z])[i]? = some x) : (i < l.length /\ l[i]? = some x) ∨ (i = l.length /\ x = z) := by
  have hi := (List.getElem?_eq_some_iff.1 h).1;rw [List.length_append, List.length_singleton] at hi;by_cases e : i < l.length
  · rw [List.getElem?_append_left e] at h;exact .inl ⟨e, h⟩
  · have : i = l.length := by omega
    subst this;rw [List.getElem?_append_right (Nat.le_refl _), Nat.sub_self] at h;simp only [List.getElem?_cons_zero, Option.some.injEq] at h;exact .inr ⟨rfl, h.symm⟩
theorem zZ.snoc {l : List Lt} {rows : List (List Value)} {K : List kE} (h : zZ l rows K) {x : Lt} {r : List Value} {L : List kE} (hx : wS x r L) : zZ (l ++ [x]) (rows ++ [r]) (K ++ L) := by
  obtain ⟨h1, h2, Ls, rfl, h3⟩ := h;obtain ⟨Ls', e1, e2, e3⟩ := flat_snoc Ls L l.length;refine ⟨by simp [h1], fun r' hr' => ?_, Ls', by rw [List.length_append, List.length_singleton, e3], fun i y r' hy hr' => ?_⟩
  · rcases List.mem_append.1 hr' with h | h
    · exact h2 r' h
    · rw [List.mem_singleton.1 h];exact hx.rd.len
  · rcases snoc_at hy with ⟨hi, hy⟩ | ⟨rfl, rfl⟩
    · rcases snoc_at hr' with ⟨_, hr'⟩ | ⟨e, _⟩
      · rw [e1 i hi];exact h3 i y r' hy hr'
      · omega
    · rcases snoc_at hr' with ⟨e, _⟩ | ⟨_, rfl⟩
      · omega
      · rw [e2];exact hx
theorem jl.snoc {l : List Nd} {rows : List (List Value)} {K : List kE} (h : jl l rows K) {x : Nd} {r : List Value} {L : List kE} (hx : wD x r L) : jl (l ++ [x]) (rows ++ [r]) (K ++ L) := by
  obtain ⟨h1, h2, Ls, rfl, h3⟩ := h;obtain ⟨Ls', e1, e2, e3⟩ := flat_snoc Ls L l.length;refine ⟨by simp [h1], fun r' hr' => ?_, Ls', by rw [List.length_append, List.length_singleton, e3], fun i y r' hy hr' => ?_⟩
  · rcases List.mem_append.1 hr' with h | h
    · exact h2 r' h
    · rw [List.mem_singleton.1 h];exact hx.rd.len
  · rcases snoc_at hy with ⟨hi, hy⟩ | ⟨rfl, rfl⟩
    · rcases snoc_at hr' with ⟨_, hr'⟩ | ⟨e, _⟩
      · rw [e1 i hi];exact h3 i y r' hy hr'
      · omega
    · rcases snoc_at hr' with ⟨e, _⟩ | ⟨_, rfl⟩
      · omega
      · rw [e2];exact hx
theorem wS.of {k : Nat} {n : Int} {b : Nat} {t : ByteArray} {items : List Lt} {sv : Value} {rows : List (List Value)} {sp : List Value} {K : List kE} (hsl : ku 5 sv items.length rows.flatten sp) (h : zZ items rows K) (wf : LtWf k n b t items.length) :
    wS (.mk k n b t items) [cv k, vi n, uv b, .string t, sv] (slA sv rows.flatten sp ++ K) := by
  obtain ⟨h1, h2, Ls, rfl, h3⟩ := h;exact .mk hsl h1 h2 h3 wf (List.Perm.refl _)
theorem wS.parts {x : Lt} {vs : List Value} {L : List kE} (h : wS x vs L) : ∃ sv rows sp K, vs = [cv x.kind, vi x.n, uv x.bits, .string x.text, sv] /\ ku 5 sv x.items.length rows.flatten sp /\ zZ x.items rows K /\ LtWf x.kind x.n x.bits x.text x.items.length /\ L.Perm (slA sv rows.flatten sp ++ K) := by
  cases h with
  | mk hsl hl h5 hr wf hL => exact ⟨_, _, _, _, rfl, hsl, ⟨hl, h5, _, rfl, hr⟩, wf, hL⟩
theorem wD.of {k : Nat} {s : ByteArray} {lit : Lt} {args temps : List ByteArray} {kids : List Nd} {p : Int} {lv : List Value} {av tv sv : Value} {rows : List (List Value)} {sp : List Value} {LL LA LT K : List kE} (hsl : ku 11 sv kids.length rows.flatten sp) (h : jl kids rows K) (wf : NdWf k s kids.length p) (hlt : wS lit lv LL) (hav : wC av args LA) (htv : wC tv temps LT) :
    wD (.mk k s lit args temps kids p) ([cv k, .string s] ++ lv ++ [av, tv, sv, vi p]) (LL ++ (LA ++ (LT ++ (slA sv rows.flatten sp ++ K)))) := by
  obtain ⟨h1, h2, Ls, rfl, h3⟩ := h;exact .mk hsl h1 h2 h3 wf hlt hav htv (List.Perm.refl _)
theorem wD.parts {x : Nd} {vs : List Value} {L : List kE} (h : wD x vs L) : ∃ lv av tv sv rows sp LL LA LT K, vs = [cv x.kind, .string x.name] ++ lv ++ [av, tv, sv, vi x.at_] /\ ku 11 sv x.kids.length rows.flatten sp /\ jl x.kids rows K /\ NdWf x.kind x.name x.kids.length x.at_ /\
    wS x.lit lv LL /\ wC av x.args LA /\ wC tv x.temps LT /\ L.Perm (LL ++ (LA ++ (LT ++ (slA sv rows.flatten sp ++ K)))) := by
  cases h with
  | mk hsl hl h11 hr wf hlt hav htv hL => exact ⟨_, _, _, _, _, _, _, _, _, _, rfl, hsl, ⟨hl, h11, _, rfl, hr⟩, wf, hlt, hav, htv, hL⟩
structure Foc (p9 : Nat) (x0 : Nd) (M : List kE) (b o : Nat) (x : Nd) (vs : List Value) (L R : List kE) : Prop where
  own : wD x vs L
  here : M.Perm (kA b o vs ++ (L ++ R))
  w : x.w <= x0.w
  back : ∀ y ws L', wD y ws L' -> zH x y = false -> zH y x = false -> ∃ z us Lz, zH x0 z = false /\ zH z x0 = false /\ wD z us Lz /\ (kA b o ws ++ (L' ++ R)).Perm (kA p9 0 us ++ Lz)
section
variable {H : Type} {enc : TypeId × Value -> H} {P : Program} {bulk : DataW H -> Nat}
open Go.ChangeShapes Go.WideShapes Go.Deep
end
end Go.V
namespace Go.V
open Go
def roomT : ByteArray := ⟨#[114, 111, 111, 109]⟩
def moreT : ByteArray := ⟨#[109, 111, 114, 101]⟩
def TxLen (A : List kE) (v : Value) (l : List ByteArray) : Prop := ∃ b c, v = .slice (some ⟨b, 0, none⟩) l.length c /\ l.length + 2 <= c /\ l.length <= 1099511627776 /\ (∀ (i : Nat) t, l[i]? = some t -> kE.cell b i (.string t) ∈ A /\ t.size <= 140737488355328) /\ kE.cell b l.length (.string roomT) ∈ A /\ kE.cell b (l.length + 1) (.string moreT) ∈ A
theorem TxLen.rd {A : List kE} {v : Value} {l : List ByteArray} (h : TxLen A v l) : RdT A v l := by
  obtain ⟨b, c, h1, h2, h3, h4, _⟩ := h;exact ⟨_, _, h1, h3, fun i t e => ⟨b, 0, rfl, by rw [Nat.zero_add];exact (h4 i t e).1, (h4 i t e).2⟩⟩
theorem TxLen.more {A B : List kE} (hs : ∀ x ∈ A, x ∈ B) {v : Value} {l : List ByteArray} (h : TxLen A v l) : TxLen B v l := by
  obtain ⟨b, c, h1, h2, h3, h4, h5, h6⟩ := h;exact ⟨b, c, h1, h2, h3, fun i t e => ⟨hs _ (h4 i t e).1, (h4 i t e).2⟩, hs _ h5, hs _ h6⟩
inductive zo (A : List kE) : Lt -> List Value -> Prop
  | mk {k : Nat} {n : Int} {b : Nat} {t : ByteArray} {items : List Lt} {c bk : Nat} {us : Nat -> List Value} (wf : LtWf k n b t items.length)
      (hm : ∀ i, i < items.length -> ∀ y ∈ kA bk (i * 5) (us i), y ∈ A) (hr : ∀ i x, items[i]? = some x -> zo A x (us i)) (hroom : kE.cell bk (items.length * 5 + 1) (vi (-771)) ∈ A) (hc : items.length + 1 <= c) : zo A (.mk k n b t items) [cv k, vi n, uv b, .string t, .slice (some ⟨bk, 0, none⟩) items.length c]
inductive NdLen (A : List kE) : Nd -> List Value -> Prop
  | mk {k : Nat} {s : ByteArray} {lit : Lt} {args temps : List ByteArray} {kids : List Nd} {p : Int} {lv : List Value} {av tv : Value} {c bk : Nat} {us : Nat -> List Value} (wf : NdWf k s kids.length p) (hl : zo A lit lv) (hav : TxLen A av args) (htv : TxLen A tv temps)
      (hm : ∀ i, i < kids.length -> ∀ y ∈ kA bk (i * 11) (us i), y ∈ A) (hr : ∀ i x, kids[i]? = some x -> NdLen A x (us i)) (hroom : kE.cell bk (kids.length * 11 + 10) (vi (-771)) ∈ A) (hc : kids.length + 1 <= c) : NdLen A (.mk k s lit args temps kids p) ([cv k, .string s] ++ lv ++ [av, tv, .slice (some ⟨bk, 0, none⟩) kids.length c, vi p])
theorem zo.rd {A : List kE} {x : Lt} {vs : List Value} (h : zo A x vs) : zL A x vs := by
  induction h with
  | mk wf hm hr hroom hc ih => exact .mk wf (fun _ => rfl) (fun i hi y hy => hm i hi y (by rwa [Nat.zero_add] at hy)) ih
theorem NdLen.rd {A : List kE} {x : Nd} {vs : List Value} (h : NdLen A x vs) : kf A x vs := by
  induction h with
  | mk wf hl hav htv hm hr hroom hc ih => exact .mk wf hl.rd hav.rd htv.rd (fun _ => rfl) (fun i hi y hy => hm i hi y (by rwa [Nat.zero_add] at hy)) ih Zo
theorem zo.more {A B : List kE} (hs : ∀ x ∈ A, x ∈ B) {x : Lt} {vs : List Value} (h : zo A x vs) : zo B x vs := by
  induction h with
  | mk wf hm hr hroom hc ih => exact .mk wf (fun i hi y hy => hs _ (hm i hi y hy)) ih (hs _ hroom) hc
theorem NdLen.more {A B : List kE} (hs : ∀ x ∈ A, x ∈ B) {x : Nd} {vs : List Value} (h : NdLen A x vs) : NdLen B x vs := by
  induction h with
  | mk wf hl hav htv hm hr hroom hc ih => exact .mk wf (hl.more hs) (hav.more hs) (htv.more hs) (fun i hi y hy => hs _ (hm i hi y hy)) ih (hs _ hroom) hc
theorem zo.len {A : List kE} {x : Lt} {vs : List Value} (h : zo A x vs) : vs.length = 5 := h.rd.len
theorem NdLen.len {A : List kE} {x : Nd} {vs : List Value} (h : NdLen A x vs) : vs.length = 11 := h.rd.len
theorem row_upd {sz j : Nat} {rows : List (List Value)} {row tl : List Value} (hr : rows.flatten.length = j * sz) (hl : row.length = sz) : (rows.flatten ++ tl).take (j * sz) ++ row ++ (rows.flatten ++ tl).drop (j * sz + row.length) = (rows ++ [row]).flatten ++ tl.drop sz := by
  rw [List.take_append_of_le_length Zo, List.take_of_length_le Zo, List.drop_append, List.drop_of_length_le Zo, hr, hl, Nat.add_sub_cancel_left];simp
theorem set_row {b sz n f : Nat} {rows : List (List Value)} {tl : List Value} {u : Value} (hl : ∀ r ∈ rows, r.length = sz) (hn : rows.length = n) {i : Nat} {r : List Value} (hi : rows[i]? = some r) : ∀ y ∈ kA b (i * sz) r, y ∈ kA b 0 ((rows.flatten ++ tl).set (n * sz + f) u) := by
  intro y hy;obtain ⟨k, v, hk, rfl⟩ := kb.1 hy;have hil := (List.getElem?_eq_some_iff.1 hi).1;have hkl := (List.getElem?_eq_some_iff.1 hk).1;have hrl := hl r (Zv hi);have h1 : kE.cell b (i * sz + k) v ∈ kA b 0 rows.flatten := ze hl hi _ (by rw [Nat.zero_add];exact kb.2 ⟨k, v, hk, rfl⟩);obtain ⟨m, w, hm, he⟩ := kb.1 h1;simp only [kE.cell.injEq, true_and, Nat.zero_add] at he;obtain ⟨rfl, rfl⟩ := he;have hlt : i * sz + k < n * sz := by
    have h2 : (i + 1) * sz <= n * sz := Nat.mul_le_mul_right _ Zo;rw [Nat.add_mul] at h2;omega
  refine kb.2 ⟨i * sz + k, v, ?_, by rw [Nat.zero_add]⟩;rw [List.getElem?_set_ne Zo, List.getElem?_append_left (by have := (List.getElem?_eq_some_iff.1 hm).1;omega)];exact hm
theorem set_room {b m : Nat} {l : List Value} {u : Value} (h : m < l.length) : kE.cell b m u ∈ kA b 0 (l.set m u) :=
  kb.2 ⟨m, u, by rw [List.getElem?_set_self h], by rw [Nat.zero_add]⟩
def LtRowsL (l : List Lt) (rows : List (List Value)) (K : List kE) : Prop := rows.length = l.length /\ (∀ r ∈ rows, r.length = 5) /\ ∀ (i : Nat) x r, l[i]? = some x -> rows[i]? = some r -> zo K x r
def zC (l : List Nd) (rows : List (List Value)) (K : List kE) : Prop := rows.length = l.length /\ (∀ r ∈ rows, r.length = 11) /\ ∀ (i : Nat) x r, l[i]? = some x -> rows[i]? = some r -> NdLen K x r
theorem LtRowsL.nil : LtRowsL [] [] [] := ⟨rfl, fun r hr => (by cases hr), fun i x r h => (by simp at h)⟩
theorem zC.nil : zC [] [] [] := ⟨rfl, fun r hr => (by cases hr), fun i x r h => (by simp at h)⟩
theorem LtRowsL.snoc {l : List Lt} {rows : List (List Value)} {K : List kE} (h : LtRowsL l rows K) {x : Lt} {r : List Value} {L : List kE} (hx : zo L x r) : LtRowsL (l ++ [x]) (rows ++ [r]) (K ++ L) := by
  obtain ⟨h1, h2, h3⟩ := h;refine ⟨by simp [h1], fun q hq => ?_, fun i y q hy hq => ?_⟩
  · rcases List.mem_append.1 hq with hq | hq
    · exact h2 q hq
    · rw [List.mem_singleton.1 hq];exact hx.len
  · rcases snoc_at hy with ⟨g1, g2⟩ | ⟨g1, rfl⟩
    · rw [List.getElem?_append_left Zo] at hq;exact (h3 i y q g2 hq).more fun _ ha => Zw _ ha
    · subst g1;rw [<- h1, List.getElem?_append_right (Nat.le_refl _), Nat.sub_self] at hq;cases hq;exact hx.more fun _ ha => List.mem_append_right _ ha
theorem zC.snoc {l : List Nd} {rows : List (List Value)} {K : List kE} (h : zC l rows K) {x : Nd} {r : List Value} {L : List kE} (hx : NdLen L x r) : zC (l ++ [x]) (rows ++ [r]) (K ++ L) := by
  obtain ⟨h1, h2, h3⟩ := h;refine ⟨by simp [h1], fun q hq => ?_, fun i y q hy hq => ?_⟩
  · rcases List.mem_append.1 hq with hq | hq
    · exact h2 q hq
    · rw [List.mem_singleton.1 hq];exact hx.len
  · rcases snoc_at hy with ⟨g1, g2⟩ | ⟨g1, rfl⟩
    · rw [List.getElem?_append_left Zo] at hq;exact (h3 i y q g2 hq).more fun _ ha => Zw _ ha
    · subst g1;rw [<- h1, List.getElem?_append_right (Nat.le_refl _), Nat.sub_self] at hq;cases hq;exact hx.more fun _ ha => List.mem_append_right _ ha
theorem LtRowsL.row {l : List Lt} {rows : List (List Value)} {K : List kE} (h : LtRowsL l rows K) {i : Nat} (hi : i < l.length) : rows[i]? = some (rows.getD i []) := by
  rw [List.getD_eq_getElem?_getD, Zg (by rw [h.1];exact hi)];rfl
theorem zC.row {l : List Nd} {rows : List (List Value)} {K : List kE} (h : zC l rows K) {i : Nat} (hi : i < l.length) : rows[i]? = some (rows.getD i []) := by
  rw [List.getD_eq_getElem?_getD, Zg (by rw [h.1];exact hi)];rfl
theorem zo.of {k : Nat} {n : Int} {b : Nat} {t : ByteArray} {items : List Lt} {rows : List (List Value)} {tl : List Value} {K : List kE} {bk c : Nat} (h : LtRowsL items rows K) (wf : LtWf k n b t items.length) (ht : 5 <= tl.length) (hc : items.length + 1 <= c) :
    zo (kA bk 0 ((rows.flatten ++ tl).set (items.length * 5 + 1) (vi (-771))) ++ K) (.mk k n b t items) [cv k, vi n, uv b, .string t, .slice (some ⟨bk, 0, none⟩) items.length c] := by
  have hlen := jJ h.2.1;refine .mk (us := fun i => rows.getD i []) wf (fun i hi y hy => ?_) (fun i x hx => ?_) ?_ hc
  · exact Zw _ (set_row h.2.1 h.1 (h.row hi) y hy)
  · have hi := (List.getElem?_eq_some_iff.1 hx).1;exact (h.2.2 i x _ hx (h.row hi)).more fun _ ha => List.mem_append_right _ ha
  · exact Zw _ (set_room (by rw [List.length_append, hlen, h.1];omega))
theorem NdLen.of {k : Nat} {s : ByteArray} {lit : Lt} {args temps : List ByteArray} {kids : List Nd} {p : Int} {lv : List Value} {av tv : Value} {rows : List (List Value)} {tl : List Value} {K L1 L2 L3 : List kE} {bk c : Nat} (h : zC kids rows K) (wf : NdWf k s kids.length p) (hl : zo L1 lit lv) (hav : TxLen L2 av args) (htv : TxLen L3 tv temps) (ht : 11 <= tl.length) (hc : kids.length + 1 <= c) :
    NdLen (kA bk 0 ((rows.flatten ++ tl).set (kids.length * 11 + 10) (vi (-771))) ++ (K ++ (L1 ++ (L2 ++ L3)))) (.mk k s lit args temps kids p) ([cv k, .string s] ++ lv ++ [av, tv, .slice (some ⟨bk, 0, none⟩) kids.length c, vi p]) := by
  have hlen := jJ h.2.1;refine .mk (us := fun i => rows.getD i []) wf (hl.more fun _ ha => ?_) (hav.more fun _ ha => ?_) (htv.more fun _ ha => ?_) (fun i hi y hy => ?_) (fun i x hx => ?_) ?_ hc
  · exact List.mem_append_right _ (List.mem_append_right _ (Zw _ ha))
  · exact List.mem_append_right _ (List.mem_append_right _ (List.mem_append_right _ (Zw _ ha)))
  · exact List.mem_append_right _ (List.mem_append_right _ (List.mem_append_right _ (List.mem_append_right _ ha)))
  · exact Zw _ (set_row h.2.1 h.1 (h.row hi) y hy)
  · have hi := (List.getElem?_eq_some_iff.1 hx).1;exact (h.2.2 i x _ hx (h.row hi)).more fun _ ha => List.mem_append_right _ (Zw _ ha)
  · exact Zw _ (set_room (by rw [List.length_append, hlen, h.1];omega))
end Go.V
namespace Go.V
open Go
def cR (p : Bool) (d : Nat) (m : Bool) : Rs := if p then some (d, m) else none
theorem cR_eq {p q : Bool} {d e : Nat} {m k : Bool} (h : p = q) (h2 : q = true -> d = e /\ m = k) : cR p d m = cR q e k := by
  subst h;cases p with
  | false => rfl
  | true => obtain ⟨rfl, rfl⟩ := h2 rfl;rfl
theorem jM (b p : Bool) (d : Nat) (m : Bool) : kK b (cR p d m) = cR (b && p) d m := by cases b <;> cases p <;> rfl
theorem deeper_c (p : Bool) (d : Nat) (m : Bool) : w5 (cR p d m) = cR p (d + 1) m := by cases p <;> rfl
theorem manyR_c (b p : Bool) (d : Nat) (m : Bool) : jm b (cR p d m) = cR p d (b || m) := by cases p <;> rfl
theorem bothR_c (p q : Bool) (d e : Nat) (m k : Bool) : wU (cR p d m) (cR q e k) = cR (p && q) (max d e) (m || k) := by cases p <;> cases q <;> rfl
theorem zero_c : (some (0, false) : Rs) = cR true 0 false := rfl
theorem maxR_cons (r : Rs) (l : List Rs) : jF (r :: l) = wU r (jF l) := by
  cases r with
  | none => cases h : jF l <;> rfl
  | some p => cases h : jF l <;> simp [jF, wU, h]
theorem bothR_zero (r : Rs) : wU r (some (0, false)) = r := by
  cases r with
  | none => rfl
  | some p => simp [wU]
theorem zero_bothR (r : Rs) : wU (some (0, false)) r = r := by
  cases r with
  | none => rfl
  | some p => simp [wU]
theorem maxR_append (l r : List Rs) : jF (l ++ r) = wU (jF l) (jF r) := by
  induction l with
  | nil => simp only [List.nil_append, jF, zero_bothR]
  | cons x l ih =>
    rw [List.cons_append, maxR_cons, maxR_cons, ih];cases x <;> cases jF l <;> cases jF r <;> simp [wU, Nat.max_assoc, Bool.or_assoc]
def mx {α : Type} (f : α -> Nat) : List α -> Nat
  | [] => 0
  | x :: r => max (f x) (mx f r)
theorem mx_le {α : Type} {f : α -> Nat} {K : Nat} : ∀ {l : List α}, (∀ x ∈ l, f x <= K) -> mx f l <= K := by
  intro l
  induction l with
  | nil => intro _;exact Nat.zero_le _
  | cons x r ih =>
    intro h;have h1 := h x Zs;have h2 := ih fun y hy => h y (by simp [hy])
    simp only [mx];omega
theorem maxR_c {α : Type} {g : α -> Rs} {p : α -> Bool} {d : α -> Nat} {m : α -> Bool} : ∀ {l : List α}, (∀ x ∈ l, g x = cR (p x) (d x) (m x)) -> jF (l.map g) = cR (l.all p) (mx d l) (l.any m) := by
  intro l
  induction l with
  | nil => intro _;rfl
  | cons x r ih =>
    intro h;rw [List.map_cons, maxR_cons, h x Zs, ih fun y hy => h y (by simp [hy]), bothR_c];rfl
mutual
def wh : Lt -> Nat
  | .mk k _ _ _ items => if k = 10 then litDps items + 1 else 0
def litDps : List Lt -> Nat
  | [] => 0
  | x :: r => max (wh x) (litDps r)
end
mutual
def litM : Lt -> Bool
  | .mk k _ _ t items => decide (255 < items.length) || (decide (k = 11) && decide (255 < t.size)) || litMs items
def litMs : List Lt -> Bool
  | [] => false
  | x :: r => litM x || litMs r
end
theorem litDps_eq : ∀ l : List Lt, litDps l = mx wh l := by
  intro l
  induction l with
  | nil => rfl
  | cons x r ih => simp only [litDps, mx, ih]
theorem litMs_eq : ∀ l : List Lt, litMs l = l.any litM := by
  intro l
  induction l with
  | nil => rfl
  | cons x r ih => simp only [litMs, List.any_cons, ih]
theorem litD_law : ∀ (N : Nat) (x : Lt), x.size <= N -> ∀ i, kn x i = cR (kn x i).isSome (wh x) (litM x) := by
  intro N
  induction N with
  | zero => intro x hx;have := x.size_pos;omega
  | succ N ih =>
    intro x hx i;cases x with
    | mk k n b t items =>
    simp only [Lt.size] at hx;have hk : ∀ y ∈ items, kn y true = cR (kn y true).isSome (wh y) (litM y) := fun y hy => ih y (by have := Lt.sizes_mem hy;omega) true
    have leaf : ∀ (c q : Bool), (c = true -> items = [] /\ k ≠ 10 /\ q = (decide (k = 11) && decide (255 < t.size))) -> kK c (some (0, q)) = cR (kK c (some (0, q))).isSome (wh (.mk k n b t items)) (litM (.mk k n b t items)) := by
      intro c q h;cases c with
      | false => rfl
      | true =>
        obtain ⟨h1, h2, h3⟩ := h rfl;subst h1;simp only [wh, litM, if_neg h2, litMs, List.length_nil, <- h3];simp [kK, cR]
    simp only [kn];split
    · exact leaf _ _ fun h => by simp only [Bool.and_eq_true, decide_eq_true_eq] at h;exact ⟨List.eq_nil_of_length_eq_zero h.2.2.2.2, Zo, by simp;omega⟩
    split
    · exact leaf _ _ fun h => by simp only [decide_eq_true_eq] at h;exact ⟨List.eq_nil_of_length_eq_zero h.2.2.2.2, Zo, by simp;omega⟩
    split
    · exact leaf _ _ fun h => by simp only [Bool.and_eq_true, decide_eq_true_eq] at h;exact ⟨List.eq_nil_of_length_eq_zero h.2.2.2, Zo, by simp;omega⟩
    split
    · exact leaf _ _ fun h => by simp only [decide_eq_true_eq] at h;exact ⟨List.eq_nil_of_length_eq_zero h.2.2.2, Zo, by simp;omega⟩
    split
    · exact leaf _ _ fun h => by simp only [decide_eq_true_eq] at h;exact ⟨List.eq_nil_of_length_eq_zero h.2.2.2.2, Zo, by simp;omega⟩
    split
    · exact leaf _ _ fun h => by simp only [decide_eq_true_eq] at h;exact ⟨List.eq_nil_of_length_eq_zero h.2.2, Zo, by simp;omega⟩
    split
    · rename_i h11;exact leaf _ _ fun h => by simp only [decide_eq_true_eq] at h;exact ⟨List.eq_nil_of_length_eq_zero h.2.2, Zo, by simp [h11]⟩
    split
    · rename_i h10;subst h10;rw [z8, maxR_c hk, manyR_c, deeper_c, jM];simp only [wh, litM, if_pos, litDps_eq, litMs_eq];generalize (_ && List.all items _ : Bool) = c;cases c <;> simp [cR]
    · rfl
theorem litZ_law {l : Lt} (h : ji l = true) : wh l = 0 /\ litM l = false := by
  cases l with
  | mk k n b t items =>
  have h := of_decide_eq_true h;simp only [Lt.kind, Lt.n, Lt.bits, Lt.text, Lt.items] at h;obtain ⟨rfl, _, _, _, h5⟩ := h;obtain rfl := List.eq_nil_of_length_eq_zero h5;simp [wh, litM, litMs]
def wO (k : Nat) (s : ByteArray) (lit : Lt) (args temps : List ByteArray) (m : Nat) : Bool :=
  if k = 1 then (kn lit false).isSome && decide (s.size = 0 /\ args.length = 0 /\ temps.length = 0)
  else if k = 2 then nameS s && ji lit && decide (args.length = 0 /\ temps.length = 0)
  else if k = 3 then jH s && ji lit && decide (args.length = 0 /\ temps.length = 0)
  else if k = 4 then decide (0 <= kR s) && ji lit && decide (args.length = 0 /\ temps.length = 0)
  else if k = 5 then decide (2 < m) && ji lit && decide (s.size = 0 /\ args.length = 0 /\ temps.length = 0)
  else if k = 6 then decide (0 <= kR s) && ji lit && decide (args.length = 0 /\ temps.length = 0)
  else if k = 7 then args.all jH && temps.all jH && ji lit && decide (s.size = 0)
  else if k = 8 ∨ k = 9 then ji lit && decide (s.size = 0 /\ args.length = 0 /\ temps.length = 0)
  else false
def zJ (k : Nat) (s : ByteArray) : Int :=
  if k = 3 ∨ k = 9 then 1 else if k = 4 then kR s + 1 else if k = 6 then kR s else if k = 5 ∨ k = 7 ∨ k = 8 then -1 else 0
def kidB (k m i : Nat) (x : Nd) : Bool :=
  !(jy x && !(decide (i = 0) && (decide (k = 4) || decide (k = 5)))) && !(decide (x.kind = 9) && !(decide (i + 1 = m) && decide (k = 7))) && (decide (x.kind = 6) == (decide (k = 5) && decide (0 < i)))
mutual
def jB : Nd -> Bool
  | .mk k s lit args temps kids _ => wO k s lit args temps kids.length && !(decide (0 <= zJ k s) && decide (zJ k s ≠ kids.length)) && kh k kids.length 0 kids
def kh (k m : Nat) : Nat -> List Nd -> Bool
  | _, [] => true
  | i, x :: r => jB x && kidB k m i x && kh k m (i + 1) r
end
mutual
def jL : Nd -> Bool
  | .mk k _ lit args temps kids _ => litM lit || decide (15 < args.length) || decide (63 < temps.length) || (decide (k = 4) && decide (16 < kids.length)) || (decide (k = 6) && decide (15 < kids.length)) || (decide (k = 5) && decide (256 < kids.length)) || (decide (k = 8) && decide (255 < kids.length)) || manysN kids
def manysN : List Nd -> Bool
  | [] => false
  | x :: r => jL x || manysN r
end
def asksN (k : Nat) (s : ByteArray) (i : Nat) : Nat :=
  if i = 0 /\ (k = 4 ∨ k = 5) then (if zf s = 5 then 5 else 4) else if (k = 4 /\ 0 < i) ∨ k = 6 then (if zf s = 4 then 5 else 4) else 1
def brkB (k : Nat) (s : ByteArray) (i : Nat) (x : Nd) : Bool := decide (x.kind ≠ 6) && decide (x.kind ≠ 9) && decide (jU x < asksN k s i)
def askS (k : Nat) (s : ByteArray) (kids : List Nd) : ByteArray := if k = 5 then (kids.drop 1).head?.elim ⟨#[]⟩ Nd.name else s
mutual
def jO : Nd -> Nat
  | .mk k s lit _ _ kids _ => max (wh lit) (jV k (askS k s kids) 0 kids) + if k = 7 ∨ k = 8 then 1 else 0
def jV (k : Nat) (s : ByteArray) : Nat -> List Nd -> Nat
  | _, [] => 0
  | i, x :: r => max (jO x + if brkB k s i x then 1 else 0) (jV k s (i + 1) r)
end
theorem manysN_eq : ∀ l : List Nd, manysN l = l.any jL := by
  intro l
  induction l with
  | nil => rfl
  | cons x r ih => simp only [manysN, List.any_cons, ih]
def zI (x : Nd) : Bool := !jy x && decide (x.kind ≠ 9 /\ x.kind ≠ 6)
theorem super_kind {x : Nd} (h : jy x = true) : x.kind = 2 := by
  simp only [jy, Bool.and_eq_true, decide_eq_true_eq] at h;exact h.1
theorem kidB_any {k m i : Nat} {x : Nd} (h4 : ¬(i = 0 /\ (k = 4 ∨ k = 5))) (h5 : ¬(k = 5 /\ 0 < i)) (h7 : ¬(k = 7 /\ i + 1 = m)) : kidB k m i x = zI x := by
  have e1 : (decide (i = 0) && (decide (k = 4) || decide (k = 5))) = false := by
    rw [Bool.eq_false_iff];intro h;simp at h;exact h4 h
  have e2 : (decide (k = 5) && decide (0 < i)) = false := by
    rw [Bool.eq_false_iff];intro h;simp only [Bool.and_eq_true, decide_eq_true_eq] at h;exact h5 h
  have e3 : (decide (i + 1 = m) && decide (k = 7)) = false := by
    rw [Bool.eq_false_iff];intro h;simp only [Bool.and_eq_true, decide_eq_true_eq] at h;exact h7 ⟨h.2, h.1⟩
  simp only [kidB, zI, e1, e2, e3];by_cases a : x.kind = 9 <;> by_cases b : x.kind = 6 <;> cases jy x <;> simp [a, b]
theorem levelN_pos (x : Nd) : 1 <= jU x := by
  unfold jU zf
  repeat' split
  all_goals omega
theorem valueR_c {x : Nd} {p : Nat} {f m : Bool} {d : Nat} : j5 x p (cR f d m) = cR (f && zI x) (d + if jU x < p then 1 else 0) m := by
  unfold j5 partR zI;by_cases hl : jU x < p
  · rw [if_pos hl, if_pos hl, deeper_c, jM, jM]
    congr 1
    cases f <;> cases jy x <;> simp
  · rw [if_neg hl, if_neg hl, jM, jM]
    congr 1
    cases f <;> cases jy x <;> simp
theorem formsN_any {k m : Nat} : ∀ {l : List Nd} {i : Nat}, (∀ j x, l[j]? = some x -> kidB k m (i + j) x = zI x) -> kh k m i l = l.all fun x => jB x && zI x := by
  intro l
  induction l with
  | nil => intro i _;rfl
  | cons x r ih =>
    intro i h;have h0 := h 0 x rfl;rw [Nat.add_zero] at h0;simp only [kh, List.all_cons, h0];rw [ih (i := i + 1) fun j y hy => by rw [Nat.add_assoc, Nat.add_comm 1 j];exact h (j + 1) y hy]
theorem deepsN_any {k : Nat} {s : ByteArray} {p : Nat} : ∀ {l : List Nd} {i : Nat}, (∀ j x, l[j]? = some x -> zI x = true /\ asksN k s (i + j) = p) -> jV k s i l = mx (fun x => jO x + if jU x < p then 1 else 0) l := by
  intro l
  induction l with
  | nil => intro i _;rfl
  | cons x r ih =>
    intro i h;obtain ⟨h0, h1⟩ := h 0 x rfl;rw [Nat.add_zero] at h1;simp only [zI, Bool.and_eq_true, decide_eq_true_eq] at h0;simp only [jV, mx, brkB, h1];rw [ih (i := i + 1) fun j y hy => by rw [Nat.add_assoc, Nat.add_comm 1 j];exact h (j + 1) y hy];simp [h0.2.1, h0.2.2]
theorem formsN_append {k m : Nat} : ∀ {l r : List Nd} {i : Nat}, kh k m i (l ++ r) = (kh k m i l && kh k m (i + l.length) r) := by
  intro l
  induction l with
  | nil => intro r i;simp [kh]
  | cons x l ih =>
    intro r i;simp only [List.cons_append, kh, ih, List.length_cons];rw [show i + 1 + l.length = i + (l.length + 1) by omega];simp only [Bool.and_assoc]
theorem deepsN_append {k : Nat} {s : ByteArray} : ∀ {l r : List Nd} {i : Nat}, jV k s i (l ++ r) = max (jV k s i l) (jV k s (i + l.length) r) := by
  intro l
  induction l with
  | nil => intro r i;simp [jV]
  | cons x l ih =>
    intro r i;simp only [List.cons_append, jV, ih, List.length_cons];rw [show i + 1 + l.length = i + (l.length + 1) by omega, Nat.max_assoc]
end Go.V
namespace Go.V
open Go
theorem lastB {l : List Nd} (h : l ≠ []) : ∃ r x, l = r ++ [x] := ⟨l.dropLast, l.getLast h, (List.dropLast_concat_getLast h).symm⟩
theorem recv_asks (s : ByteArray) : recvS s = if zf s = 5 then 5 else 4 := by
  unfold recvS zf
  repeat' split
  all_goals omega
theorem super_level {x : Nd} (h : jy x = true) : jU x = 6 := by
  have := super_kind h;simp [jU, this]
theorem firstR_c {x : Nd} {s : ByteArray} {f m : Bool} {d : Nat} : we x s (cR f d m) = cR (f && decide (x.kind ≠ 9 /\ x.kind ≠ 6)) (d + if jU x < recvS s then 1 else 0) m := by
  unfold we;by_cases h : jy x = true
  · rw [if_pos h];have hk := super_kind h;have hl := super_level h;have : ¬ jU x < recvS s := by
      rw [hl, recv_asks];split <;> omega
    rw [if_neg this];simp [hk]
  · rw [if_neg h, valueR_c];simp only [Bool.not_eq_true] at h;simp [zI, h]
theorem kidB_first {k m : Nat} (hk : k = 4 ∨ k = 5) (x : Nd) : kidB k m 0 x = decide (x.kind ≠ 9 /\ x.kind ≠ 6) := by
  unfold kidB;have h7 : decide (k = 7) = false := Zf Zo;rw [h7];have h45 : (decide (k = 4) || decide (k = 5)) = true := by simp;exact hk
  rw [h45];by_cases a : x.kind = 9 <;> by_cases b : x.kind = 6 <;> simp [a, b]
theorem formN_kids {k m i : Nat} {l : List Nd} (h : kh k m i l = true) : ∀ x ∈ l, jB x = true := by
  induction l generalizing i with
  | nil => intro x hx;cases hx
  | cons y r ih =>
    simp only [kh, Bool.and_eq_true] at h;intro x hx;rcases List.mem_cons.1 hx with rfl | hx
    · exact h.1.1
    · exact ih h.2 x hx
theorem nodeD_law : ∀ (N : Nat) (x : Nd), x.w <= N -> kO x = cR (jB x) (jO x) (jL x) := by
  intro N
  induction N with
  | zero => intro x hx;have := x.w_pos;omega
  | succ N ih =>
    intro x hx;cases x with
    | mk k s lit args temps kids p =>
    simp only [Nd.w] at hx;have hk : ∀ y ∈ kids, kO y = cR (jB y) (jO y) (jL y) := fun y hy => ih y (by have := Nd.ws_mem hy;omega)
    have hv : ∀ (l : List Nd) (pl : Nat), (∀ y ∈ l, y ∈ kids) -> jF (valuesR pl l (l.map kO)) = cR (l.all fun x => jB x && zI x) (mx (fun x => jO x + if jU x < pl then 1 else 0) l) (l.any jL) := fun l pl hl => by
      rw [valuesR_map];exact maxR_c fun x hx => by rw [hk x (hl x hx), valueR_c]
    have kp : ∀ {l : List Nd}, (l.all fun x => jB x && zI x) = true -> ∀ x ∈ l, zI x = true := fun {l} h x hx => by
      have := List.all_eq_true.1 h x hx;simp only [Bool.and_eq_true] at this;exact this.2
    have l1 : ∀ x : Nd, (if jU x < 1 then 1 else 0) = 0 := fun x => if_neg (by have := levelN_pos x;omega)
    have one : ∀ (h3 : k = 3 ∨ k = 9) (y : Nd), kids = [y] -> kh k 1 0 kids = (jB y && zI y) /\ (zI y = true -> jV k (askS k s kids) 0 kids = jO y) := by
      rintro h3 y rfl
      constructor
      · simp only [kh, Bool.and_true];rw [kidB_any Zo Zo Zo]
      · intro hy;rw [deepsN_any (p := 1) (fun j x hx => ?_)]
        · simp only [mx, l1];omega
        · cases j with
          | zero => cases hx;exact ⟨hy, by unfold asksN;rw [if_neg Zo, if_neg Zo]⟩
          | succ j => simp at hx
    have cb : ∀ (b c m : Bool) (d : Nat), 0 <= zJ k s -> zJ k s ≠ kids.length -> cR (b && !(decide (0 <= zJ k s) && decide (zJ k s ≠ kids.length)) && c) d m = none := fun b c m d h1 h2 => by
      rw [Zt h1, Zt h2];cases b <;> rfl
    have cg : ¬(0 <= zJ k s /\ zJ k s ≠ kids.length) -> (!(decide (0 <= zJ k s) && decide (zJ k s ≠ kids.length))) = true := fun h => by
      rw [Bool.not_eq_true', Bool.and_eq_false_iff];simp only [decide_eq_false_iff_not];omega
    have mn : ∀ (c : Bool) (r : Rs), c = false -> kK c r = none := fun c r h => by subst h;rfl
    simp only [kO, jK, jE];simp only [jB, jL, jO, manysN_eq];by_cases h1 : k = 1
    · subst h1;rw [if_pos rfl, litD_law _ lit (Nat.le_refl _) false, jM];cases kids with
      | nil =>
        rw [cg Zaz];refine cR_eq (by simp [wO, kh];cases (kn lit false).isSome <;> simp) (fun h => ?_);simp only [wO, if_true, Bool.and_eq_true, decide_eq_true_eq] at h;simp [jV, h.1.1.2.2.1, h.1.1.2.2.2]
      | cons y r =>
        rw [cb _ _ _ _ Zaz (by simp [zJ];omega)];simp [cR]
    rw [if_neg h1];by_cases h2 : k = 2
    · subst h2;rw [if_pos rfl, zero_c, jM];cases kids with
      | nil =>
        rw [cg Zaz];refine cR_eq (by simp [wO, kh];cases nameS s <;> cases ji lit <;> simp) (fun h => ?_);simp only [wO, show ¬ (2 : Nat) = 1 by omega, if_false, if_true, Bool.and_eq_true, decide_eq_true_eq] at h;obtain ⟨g1, g2⟩ := litZ_law h.1.1.1.2;simp [jV, h.1.1.2.1, h.1.1.2.2, g1, g2]
      | cons y r =>
        rw [cb _ _ _ _ Zaz (by simp [zJ];omega)];simp [cR]
    rw [if_neg h2];by_cases h3 : k = 3
    · subst h3;rw [if_pos rfl];rcases kids with _ | ⟨y, _ | ⟨z, r⟩⟩
      · rw [cb _ _ _ _ Zaz Zaz];simp [kK]
      · obtain ⟨o1, o2⟩ := one (.inl rfl) y rfl;rw [cg Zaz];show kK _ (j5 y 1 (kO y)) = _;rw [hk y Zs, valueR_c, l1, jM, show kh 3 [y].length 0 [y] = (jB y && zI y) from o1];refine cR_eq ?_ (fun h => ?_)
        · simp [wO];cases jB y && zI y <;> cases ji lit <;> cases jH s <;> simp
        · simp only [wO, show ¬ (3 : Nat) = 1 by omega, show ¬ (3 : Nat) = 2 by omega, if_false, if_true, Bool.and_eq_true, decide_eq_true_eq] at h;obtain ⟨g1, g2⟩ := litZ_law h.1.1.1.2;rw [o2 h.2.2];simp [h.1.1.2.1, h.1.1.2.2, g1, g2]
      · rw [cb _ _ _ _ Zaz (by simp [zJ];omega)];simp [kK]
    rw [if_neg h3];by_cases h4 : k = 4
    · subst h4;rw [if_pos rfl];rcases kids with _ | ⟨y, l⟩
      · by_cases ha : 0 <= kR s
        · rw [cb _ _ _ _ (by simp [zJ];omega) (by simp [zJ];omega)];simp [kK]
        · rw [mn _ _ (by simp [ha])];simp [wO, ha, cR]
      · have hrest : kh 4 (y :: l).length 1 l = l.all fun x => jB x && zI x := formsN_any fun j x _ => kidB_any Zo Zo Zo
        show kK _ (wU (we y s (kO y)) (argsR s l (l.map kO))) = _;rw [hk y Zs, firstR_c, argsR, hv l (argS s) fun z hz => by simp [hz], manyR_c, jM, bothR_c, jM];have ce : zJ 4 s = kR s + 1 := by simp [zJ]
        rw [ce];have hrest' : kh 4 (l.length + 1) (0 + 1) l = l.all fun x => jB x && zI x := hrest
        refine cR_eq ?_ (fun h => ?_)
        · simp only [kh, hrest, kidB_first (.inl rfl), wO, List.length_cons, hrest', Int.natCast_add, Int.natCast_one];simp only [show ¬ (4 : Nat) = 1 by omega, show ¬ (4 : Nat) = 2 by omega, show ¬ (4 : Nat) = 3 by omega, show ¬ ((4 : Nat) = 3 ∨ (4 : Nat) = 9) by omega, if_false, if_true, List.length_cons];rw [Bool.eq_iff_iff];simp only [Bool.and_eq_true, Bool.not_eq_true', Bool.and_eq_false_iff, decide_eq_true_eq, decide_eq_false_iff_not];constructor
          · rintro ⟨⟨⟨⟨a1, a2⟩, a3⟩, a4⟩, ⟨a5, a6⟩, a7, a8⟩
            exact ⟨⟨⟨⟨a4, a3⟩, a1, a2⟩, .inr Zo⟩, ⟨a5, a6⟩, a8⟩
          · rintro ⟨⟨⟨⟨a4, a3⟩, a1, a2⟩, a7⟩, ⟨a5, a6⟩, a8⟩
            exact ⟨⟨⟨⟨a1, a2⟩, a3⟩, a4⟩, ⟨a5, a6⟩, Zo, a8⟩
        · simp only [kh, hrest, List.length_cons, hrest', wO, show ¬ (4 : Nat) = 1 by omega, show ¬ (4 : Nat) = 2 by omega, show ¬ (4 : Nat) = 3 by omega, show ¬ ((4 : Nat) = 3 ∨ (4 : Nat) = 9) by omega, if_false, if_true, List.length_cons, Bool.and_eq_true, decide_eq_true_eq, Bool.not_eq_true', Bool.and_eq_false_iff, decide_eq_false_iff_not] at h;obtain ⟨g1, g2⟩ := litZ_law h.1.1.1.2;obtain ⟨⟨⟨⟨c1, c2⟩, c3, c4⟩, c5⟩, ⟨c6, c7⟩, c8⟩ := h;have hkp := kp c8;have hal : (l.length : Int) = kR s := by omega
          rw [kidB_first (.inl rfl)] at c7;simp only [decide_eq_true_eq] at c7;have hd : jV 4 s 1 l = mx (fun x => jO x + if jU x < argS s then 1 else 0) l := deepsN_any fun j x hx => ⟨hkp x (Zv hx), by unfold asksN argS;rw [if_neg Zo, if_pos Zo]⟩
          simp only [jV, askS, show ¬ (4 : Nat) = 5 by omega, if_false, hd, g1, g2, c3, c4, List.any_cons];constructor
          · have : brkB 4 s 0 y = decide (jU y < recvS s) := by
              simp [brkB, c7.1, c7.2, asksN, recv_asks]
            rw [this];simp
          · have e1 : decide (15 < kR s) = decide (16 < (y :: l).length) := by
              rw [Bool.eq_iff_iff, decide_eq_true_eq, decide_eq_true_eq, List.length_cons];omega
            rw [e1];cases jL y <;> simp
    rw [if_neg h4];by_cases h6 : k = 6
    · subst h6;have hrest : kh 6 kids.length 0 kids = kids.all fun x => jB x && zI x := formsN_any fun j x _ => kidB_any Zo Zo Zo
      rw [if_pos rfl, argsR, hv kids (argS s) fun z hz => hz, manyR_c, jM, jM];have ce : zJ 6 s = kR s := by simp [zJ]
      rw [ce];refine cR_eq ?_ (fun h => ?_)
      · simp only [hrest, wO, show ¬ (6 : Nat) = 1 by omega, show ¬ (6 : Nat) = 2 by omega, show ¬ (6 : Nat) = 3 by omega, show ¬ (6 : Nat) = 4 by omega, show ¬ (6 : Nat) = 5 by omega, show ¬ ((6 : Nat) = 3 ∨ (6 : Nat) = 9) by omega, if_false, if_true];rw [Bool.eq_iff_iff];simp only [Bool.and_eq_true, Bool.not_eq_true', Bool.and_eq_false_iff, decide_eq_true_eq, decide_eq_false_iff_not];constructor
        · rintro ⟨⟨⟨a1, a2⟩, a3⟩, a4, a5⟩
          exact ⟨⟨⟨⟨Zo, a3⟩, a1, a2⟩, .inr Zo⟩, a5⟩
        · rintro ⟨⟨⟨⟨a4, a3⟩, a1, a2⟩, a6⟩, a5⟩
          exact ⟨⟨⟨a1, a2⟩, a3⟩, Zo, a5⟩
      · simp only [hrest, wO, show ¬ (6 : Nat) = 1 by omega, show ¬ (6 : Nat) = 2 by omega, show ¬ (6 : Nat) = 3 by omega, show ¬ (6 : Nat) = 4 by omega, show ¬ (6 : Nat) = 5 by omega, show ¬ ((6 : Nat) = 3 ∨ (6 : Nat) = 9) by omega, if_false, if_true, Bool.and_eq_true, decide_eq_true_eq, Bool.not_eq_true', Bool.and_eq_false_iff, decide_eq_false_iff_not] at h;obtain ⟨⟨⟨⟨c1, c2⟩, c3, c4⟩, c5⟩, c8⟩ := h;obtain ⟨g1, g2⟩ := litZ_law c2;have hkp := kp c8;have hd : jV 6 s 0 kids = mx (fun x => jO x + if jU x < argS s then 1 else 0) kids := deepsN_any fun j x hx => ⟨hkp x (Zv hx), by unfold asksN argS;rw [if_neg Zo, if_pos Zo]⟩
        have e1 : decide (15 < kR s) = decide (15 < kids.length) := by
          rw [Bool.eq_iff_iff, decide_eq_true_eq, decide_eq_true_eq];omega
        simp only [askS, show ¬ (6 : Nat) = 5 by omega, if_false, hd, g1, g2, c3, c4, e1];simp
    rw [if_neg h6];by_cases h5 : k = 5
    · subst h5;rw [if_pos rfl];rcases kids with _ | ⟨y, _ | ⟨z, l⟩⟩
      · rw [mn _ _ Zs];simp [wO, cR]
      · rw [mn _ _ Zs];simp [wO, cR]
      · have hfk : ∀ {r : List Nd} {i : Nat}, 0 < i -> kh 5 (y :: z :: l).length i r = r.all fun x => jB x && decide (x.kind = 6) := by
          intro r
          induction r with
          | nil => intro i _;rfl
          | cons u r ihr =>
            intro i hi;simp only [kh, List.all_cons, ihr (i := i + 1) Zo]
            congr 2
            have hs : jy u = true -> u.kind = 2 := super_kind;unfold kidB;rw [Zf (show ¬ i = 0 by omega), Zt hi];by_cases h6 : u.kind = 6
            · have : jy u = false := by rw [Bool.eq_false_iff];intro h;have := hs h;omega
              simp [h6, this]
            · simp [h6]
        have hmsg : jF (msgsR (z :: l) ((z :: l).map kO)) = cR ((z :: l).all fun x => jB x && decide (x.kind = 6)) (mx jO (z :: l)) ((z :: l).any jL) := by
          rw [msgsR_map];exact maxR_c fun x hx => by rw [hk x (by simp only [List.mem_cons] at hx |-;exact .inr hx), jM, Bool.and_comm]
        show kK _ (jm _ (wU (jF (msgsR (z :: l) ((z :: l).map kO))) (we y z.name (kO y)))) = _;rw [hmsg, hk y Zs, firstR_c, bothR_c, manyR_c, jM];have hf1 := hfk (r := z :: l) (i := 1) Zo;rw [cg Zaz];refine cR_eq ?_ (fun h => ?_)
        · rw [kh, hf1];simp only [kidB_first (.inr rfl), wO];simp only [show ¬ (5 : Nat) = 1 by omega, show ¬ (5 : Nat) = 2 by omega, show ¬ (5 : Nat) = 3 by omega, show ¬ (5 : Nat) = 4 by omega, show ¬ (5 : Nat) = 6 by omega, show ¬ ((5 : Nat) = 3 ∨ (5 : Nat) = 9) by omega, if_false, if_true];rw [Bool.eq_iff_iff];simp only [Bool.and_eq_true, Bool.not_eq_true', Bool.and_eq_false_iff, decide_eq_true_eq, decide_eq_false_iff_not];constructor
          · rintro ⟨⟨⟨a1, a2, a3, a4⟩, a5⟩, a6, a7, a8⟩
            exact ⟨⟨⟨⟨a4, a5⟩, a1, a2, a3⟩, trivial⟩, ⟨a7, a8⟩, a6⟩
          · rintro ⟨⟨⟨⟨a4, a5⟩, a1, a2, a3⟩, _⟩, ⟨a7, a8⟩, a6⟩
            exact ⟨⟨⟨a1, a2, a3, a4⟩, a5⟩, a6, a7, a8⟩
        · rw [kh, hf1] at h;simp only [wO, kidB_first (.inr rfl), show ¬ (5 : Nat) = 1 by omega, show ¬ (5 : Nat) = 2 by omega, show ¬ (5 : Nat) = 3 by omega, show ¬ (5 : Nat) = 4 by omega, if_false, if_true, Bool.and_eq_true, decide_eq_true_eq] at h;obtain ⟨⟨⟨⟨c1, c2⟩, c0, c3, c4⟩, c5⟩, ⟨c6, c7⟩, c8⟩ := h;obtain ⟨g1, g2⟩ := litZ_law c2;have h6 : ∀ x ∈ z :: l, x.kind = 6 := fun x hx => by
            have := List.all_eq_true.1 c8 x hx;simp only [Bool.and_eq_true, decide_eq_true_eq] at this;exact this.2
          have hd : ∀ {r : List Nd} {i : Nat} {q : ByteArray}, (∀ x ∈ r, x.kind = 6) -> jV 5 q i r = mx jO r := by
            intro r
            induction r with
            | nil => intro i q _;rfl
            | cons u r ihr =>
              intro i q hr;simp only [jV, mx, ihr fun x hx => hr x (by simp [hx])];simp [brkB, hr u Zs]
          have hbr : brkB 5 z.name 0 y = decide (jU y < recvS z.name) := by
            simp [brkB, c7.1, c7.2, asksN, recv_asks]
          have hask : askS 5 s (y :: z :: l) = z.name := rfl;rw [hask];rw [jV, hd h6, hbr];simp only [g1, g2, c3, c4, List.any_cons];constructor
          · simp [Nat.max_comm]
          · cases jL y <;> simp
    rw [if_neg h5];by_cases h7 : k = 7
    · subst h7;rw [if_pos rfl];have hst : jF (wL kids (kids.map kO)) = cR (kh 7 kids.length 0 kids) (jV 7 s 0 kids) (kids.any jL) := by
        rcases (Classical.em (kids = [])).imp_right lastB with rfl | ⟨l, x, rfl⟩
        · rfl
        · have hl := hv l 1 (fun z hz => by simp [hz]);rw [valuesR_map] at hl;have hfl : kh 7 (l ++ [x]).length 0 l = l.all fun x => jB x && zI x := formsN_any fun j y hy => kidB_any Zo Zo (by
            have := (List.getElem?_eq_some_iff.1 hy).1;rw [List.length_append, List.length_singleton];omega)
          have hx1 : (if x.kind = 9 then kO x else j5 x 1 (kO x)) = cR (jB x && kidB 7 (l ++ [x]).length (0 + l.length) x) (jO x) (jL x) := by
            rw [hk x Zs];have hkb : kidB 7 (l ++ [x]).length (0 + l.length) x = (!jy x && decide (x.kind ≠ 6)) := by
              unfold kidB;rw [Zt (show 0 + l.length + 1 = (l ++ [x]).length by simp)];by_cases h6 : x.kind = 6 <;> simp [h6]
            rw [hkb];by_cases h9 : x.kind = 9
            · rw [if_pos h9];have : jy x = false := by rw [Bool.eq_false_iff];intro h;have := super_kind h;omega
              simp [this, h9]
            · rw [if_neg h9, valueR_c, l1]
              congr 1
              simp [zI, h9]
          rw [stmtsR_snoc, maxR_append, hl, maxR_cons, hx1, show jF [] = some (0, false) from rfl, bothR_zero, bothR_c];rw [formsN_append, deepsN_append, hfl];refine cR_eq ?_ (fun h => ?_)
          · simp [kh]
          · have hal : (l.all fun x => jB x && zI x) = true := by
              rw [Bool.and_eq_true] at h;exact h.1
            have hkp := kp hal;have hfin : jB x && kidB 7 (l ++ [x]).length (0 + l.length) x = true := by
              simp only [kh, Bool.and_true, Bool.and_eq_true] at h |-;exact ⟨h.2.1, by simpa using h.2.2⟩
            have hd : jV 7 s 0 l = mx (fun x => jO x + if jU x < 1 then 1 else 0) l := deepsN_any fun j y hy => ⟨hkp y (Zv hy), by unfold asksN;rw [if_neg Zo, if_neg Zo]⟩
            have hb : brkB 7 s (0 + l.length) x = false := by
              unfold brkB asksN;rw [if_neg Zo, if_neg Zo, Zf (show ¬ jU x < 1 by have := levelN_pos x;omega)];simp
            simp only [hd, jV, hb];simp
      unfold wG;rw [hst, deeper_c, manyR_c, jM, manyR_c, jM, jM];refine cR_eq ?_ (fun h => ?_)
      · rw [cg Zaz];simp only [wO, show ¬ (7 : Nat) = 1 by omega, show ¬ (7 : Nat) = 2 by omega, show ¬ (7 : Nat) = 3 by omega, show ¬ (7 : Nat) = 4 by omega, show ¬ (7 : Nat) = 5 by omega, show ¬ (7 : Nat) = 6 by omega, if_false, if_true];cases args.all jH <;> cases temps.all jH <;> cases ji lit <;> cases decide (s.size = 0) <;> simp
      · simp only [wO, show ¬ (7 : Nat) = 1 by omega, show ¬ (7 : Nat) = 2 by omega, show ¬ (7 : Nat) = 3 by omega, show ¬ (7 : Nat) = 4 by omega, show ¬ (7 : Nat) = 5 by omega, show ¬ (7 : Nat) = 6 by omega, if_false, if_true, Bool.and_eq_true, decide_eq_true_eq] at h;obtain ⟨⟨⟨⟨c1, c2⟩, c3⟩, c4⟩, c5⟩ := h;obtain ⟨g1, g2⟩ := litZ_law c2;simp only [askS, show ¬ (7 : Nat) = 5 by omega, if_false, g1, g2];refine ⟨Zs, ?_⟩;cases kids.any jL <;> cases decide (15 < args.length) <;> cases decide (63 < temps.length) <;> rfl
    rw [if_neg h7];by_cases h8 : k = 8
    · subst h8;have hrest : kh 8 kids.length 0 kids = kids.all fun x => jB x && zI x := formsN_any fun j x _ => kidB_any Zo Zo Zo
      rw [if_pos rfl, hv kids 1 fun z hz => hz, manyR_c, deeper_c, jM, cg Zaz];refine cR_eq ?_ (fun h => ?_)
      · simp only [hrest, wO, show ¬ (8 : Nat) = 1 by omega, show ¬ (8 : Nat) = 2 by omega, show ¬ (8 : Nat) = 3 by omega, show ¬ (8 : Nat) = 4 by omega, show ¬ (8 : Nat) = 5 by omega, show ¬ (8 : Nat) = 6 by omega, show ¬ (8 : Nat) = 7 by omega, if_false, true_or, if_true];cases ji lit <;> simp
      · simp only [hrest, wO, show ¬ (8 : Nat) = 1 by omega, show ¬ (8 : Nat) = 2 by omega, show ¬ (8 : Nat) = 3 by omega, show ¬ (8 : Nat) = 4 by omega, show ¬ (8 : Nat) = 5 by omega, show ¬ (8 : Nat) = 6 by omega, show ¬ (8 : Nat) = 7 by omega, if_false, true_or, if_true, Bool.and_eq_true, decide_eq_true_eq] at h;obtain ⟨⟨⟨c1, c2, c3, c4⟩, c5⟩, c8⟩ := h;obtain ⟨g1, g2⟩ := litZ_law c1;have hkp := kp (l := kids) (List.all_eq_true.2 fun x hx => by simpa using List.all_eq_true.1 c8 x hx);have hd : jV 8 s 0 kids = mx (fun x => jO x + if jU x < 1 then 1 else 0) kids := deepsN_any fun j x hx => ⟨hkp x (Zv hx), by unfold asksN;rw [if_neg Zo, if_neg Zo]⟩
        simp only [askS, show ¬ (8 : Nat) = 5 by omega, if_false, hd, g1, g2, c3, c4];simp
    rw [if_neg h8];by_cases h9 : k = 9
    · subst h9;rw [if_pos rfl];rcases kids with _ | ⟨y, _ | ⟨z, r⟩⟩
      · rw [cb _ _ _ _ Zaz Zaz];simp [kK]
      · obtain ⟨o1, o2⟩ := one (.inr rfl) y rfl;rw [cg Zaz];show kK _ (j5 y 1 (kO y)) = _;rw [hk y Zs, valueR_c, l1, jM, show kh 9 [y].length 0 [y] = (jB y && zI y) from o1];refine cR_eq ?_ (fun h => ?_)
        · simp [wO];cases jB y && zI y <;> cases ji lit <;> simp
        · simp only [wO, show ¬ (9 : Nat) = 1 by omega, show ¬ (9 : Nat) = 2 by omega, show ¬ (9 : Nat) = 3 by omega, show ¬ (9 : Nat) = 4 by omega, show ¬ (9 : Nat) = 5 by omega, show ¬ (9 : Nat) = 6 by omega, show ¬ (9 : Nat) = 7 by omega, if_false, or_true, if_true, Bool.and_eq_true, decide_eq_true_eq] at h;obtain ⟨⟨⟨c1, c2, c3, c4⟩, c5⟩, c6, c7⟩ := h;obtain ⟨g1, g2⟩ := litZ_law c1;rw [o2 c7];simp [g1, g2, c3, c4]
      · rw [cb _ _ _ _ Zaz (by simp [zJ];omega)];simp [kK]
    rw [if_neg h9];simp [wO, cR, h1, h2, h3, h4, h5, h6, h7, h8, h9]
end Go.V
namespace Go.V
open Go
theorem wpR_append {P : Program} {Z : Exit -> Act -> World -> Prop} {Q : Act -> World -> Prop} {l m : List (RO × Oper)} : ∀ {a w}, wpR P Z (fun a w => wpR P Z Q m a w) l a w -> wpR P Z Q (l ++ m) a w := by
  induction l with
  | nil => intro a w h;exact h
  | cons x l ih =>
    intro a w h;have key : wpR P Z (fun a w => wpR P Z Q m a w) (x :: l) = jX P Z x (wpR P Z (fun a w => wpR P Z Q m a w) l) := by funext a w;rfl
    show jX P Z x (wpR P Z Q (l ++ m)) a w;have h2 : jX P Z x (wpR P Z (fun a w => wpR P Z Q m a w) l) a w := h;have h3 : wpR P Z (wpR P Z Q (l ++ m)) [x] a w := wpR_mono (l := [x]) (Q := wpR P Z (fun a w => wpR P Z Q m a w) l) (fun a w g => ih g) h2;exact h3
section
variable {P : Program} {n : Nat} {rs l1 l2 : List RO} {Γ : Env} {H : SH} {Z : List PanicEntry -> Env -> SH -> Prop} {K : Env -> SH -> Prop}
theorem VO.app (h : VO P n l1 Γ H Z (fun Γ' H' => VO P n l2 Γ' H' Z K)) : VO P n (l1 ++ l2) Γ H Z K := by
  intro l hl a w F ZZ Q ha hs hq hz;obtain ⟨hl1, hl2⟩ := hl;obtain ⟨p, q, rfl, hp, hq2⟩ := List.map_eq_append_iff.1 hl1;refine wpR_append (h p ⟨hp, fun x hx => hl2 x (Zw _ hx)⟩ a w F ZZ _ ha hs (fun a' w' Γ' H' k g1 g2 g3 g4 => ?_) hz);refine k q ⟨hq2, fun x hx => hl2 x (List.mem_append_right _ hx)⟩ a' w' F ZZ Q g1 g3 (fun a2 w2 Γ2 H2 k2 e1 e2 e3 e4 => hq a2 w2 Γ2 H2 k2 e1 (e2.trans g2) e3 (g4.trans e4)) (fun ch a2 w2 Γ2 H2 k2 e1 e2 e3 e4 => hz ch a2 w2 Γ2 H2 k2 e1 (e2.trans g2) e3 (g4.trans e4))
def cutAt (t : Nat) : List RO -> List RO × List RO
  | [] => ([], [])
  | r :: l => if r.dst = some t then ([r], l) else ((r :: (cutAt t l).1), (cutAt t l).2)
theorem cutAt_eq (t : Nat) : ∀ l : List RO, l = (cutAt t l).1 ++ (cutAt t l).2 := by
  intro l
  induction l with
  | nil => rfl
  | cons r l ih =>
    simp only [cutAt];split
    · rfl
    · simp only [List.cons_append];rw [<- ih]
theorem VO.bool (t : Nat) (b : Bool) (hc : cutAt t rs = (l1, l2)) (h1 : VO P n l1 Γ H Z (fun Γ' H' => look Γ' t = some (.bool b) /\ Sub Γ' Γ /\ Imp H' H)) (h2 : VO P n l2 ((t, .bool b) :: Γ) H Z K) : VO P n rs Γ H Z K := by
  have he := cutAt_eq t rs;rw [hc] at he;rw [he];refine VO.app (h1.mono fun Γ' H' ⟨g1, g2, g3⟩ => VO.sub ?_ (VO.imp g3 h2));intro s v hs;simp only [look] at hs;split at hs
  · rename_i e;cases hs
    first
      | (subst e;exact g1)
      | (rw [<- e];exact g1)
      | (rw [e];exact g1)
  · exact g2 s v hs
end
end Go.V
namespace Go.V
open Go
theorem stmts_law (l : List Nd) : jF (wL l (l.map kO)) = cR (kh 7 l.length 0 l) (mx jO l) (l.any jL) := by
  have hk : ∀ y ∈ l, kO y = cR (jB y) (jO y) (jL y) := fun y _ => nodeD_law _ y (Nat.le_refl _)
  have l1 : ∀ x : Nd, (if jU x < 1 then 1 else 0) = 0 := fun x => if_neg (by have := levelN_pos x;omega)
  rcases (Classical.em (l = [])).imp_right lastB with rfl | ⟨l, x, rfl⟩
  · rfl
  · have hl : jF (l.map fun x => j5 x 1 (kO x)) = cR (l.all fun x => jB x && zI x) (mx jO l) (l.any jL) := maxR_c fun x hx => by rw [hk x (by simp [hx]), valueR_c, l1];rfl
    have hfl : kh 7 (l ++ [x]).length 0 l = l.all fun x => jB x && zI x := formsN_any fun j y hy => kidB_any Zo Zo (by
      have := (List.getElem?_eq_some_iff.1 hy).1;rw [List.length_append, List.length_singleton];omega)
    have hx1 : (if x.kind = 9 then kO x else j5 x 1 (kO x)) = cR (jB x && kidB 7 (l ++ [x]).length (0 + l.length) x) (jO x) (jL x) := by
      rw [hk x Zs];have hkb : kidB 7 (l ++ [x]).length (0 + l.length) x = (!jy x && decide (x.kind ≠ 6)) := by
        unfold kidB;rw [Zt (show 0 + l.length + 1 = (l ++ [x]).length by simp)];by_cases h6 : x.kind = 6 <;> simp [h6]
      rw [hkb];by_cases h9 : x.kind = 9
      · rw [if_pos h9];have : jy x = false := by rw [Bool.eq_false_iff];intro h;have := super_kind h;omega
        simp [this, h9]
      · rw [if_neg h9, valueR_c, l1]
        congr 1
        simp [zI, h9]
    rw [stmtsR_snoc, maxR_append, hl, maxR_cons, hx1, show jF [] = some (0, false) from rfl, bothR_zero, bothR_c];rw [formsN_append, hfl];have hmx : ∀ l : List Nd, mx jO (l ++ [x]) = max (mx jO l) (jO x) := by
      intro l
      induction l with
      | nil => simp [mx]
      | cons y l ih => simp only [List.cons_append, mx, ih];omega
    rw [hmx];refine cR_eq (by simp [kh]) fun _ => ⟨rfl, Zs⟩
theorem mx_any {α : Type} {f : α -> Nat} {K : Nat} : ∀ l : List α, decide (K < mx f l) = l.any fun x => decide (K < f x) := by
  intro l
  induction l with
  | nil => simp [mx]
  | cons x l ih =>
    rw [List.any_cons, <- ih, Bool.eq_iff_iff, Bool.or_eq_true, decide_eq_true_eq, decide_eq_true_eq];simp only [decide_eq_true_eq];show K < max (f x) (mx f l) ↔ K < f x ∨ K < mx f l;rcases Nat.le_total (f x) (mx f l) with h | h
    · rw [Nat.max_eq_right h];omega
    · rw [Nat.max_eq_left h];omega
end Go.V

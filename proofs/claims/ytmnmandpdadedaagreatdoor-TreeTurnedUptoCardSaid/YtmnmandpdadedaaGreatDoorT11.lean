/-
  The code of functions, as terms: printed by a program, proved to be what the seat has.
-/
import Derived.Test.YtmnmandpdadedaaGreatDoorT9
import Derived.KernelRfl
import Derived.Test.YtmnmandpdadedaaGreatDoorProg
import Derived.Test.YtmnmandpdadedaaGreatDoorT10
import Derived.Test.YtmnmandpdadedaaGreatDoorV16
set_option linter.unusedSimpArgs false
set_option linter.unusedVariables false
namespace Go.Proofs.YtmnmandpdadedaaGreatDoor
open Go Go.V
set_option maxRecDepth 100000
def F54 : FIR := laid (X := ⟨22, [.tmp 4],
 (qS [qo 4 (.mv (.const (Value.slice none 0 0)))] [0,1]
 (qS [qo 5 (.mv (.const (Value.slice none 0 0)))] [0,1,5]
 (.seq (qS [qm 8 0,qL 9 8,qk 10 0] [1,5,8,9,10]
 (.block 0 (.loop (qS [qb 11 .lss 10 9] [1,5,8,9,10,11]
 (.seq (qC 11 .skip
 (.exit 0))
 (.seq (.block 1 (qS [qi 12 11 8 10,qN 13 11 12,
  qo 7 (.alloc 48 [(Value.int IntKind.u8 0), (Value.string ⟨#[]⟩), (Value.int IntKind.u8 0), (Value.int IntKind.i64 0), (Value.int IntKind.u64 0), (Value.string ⟨#[]⟩), (Value.slice none 0 0), (Value.slice none 0 0), (Value.slice none 0 0), (Value.slice none 0 0), (Value.int IntKind.i64 0)]),
  qs 11 7 13] [1,5,7,8,9,10]
 (.reg [qm 14 5,qm 15 1,qN 16 11 7,qo 17 (.callv (.tmp 15) [(.tmp 16)]),
  qo 18 (.bslice 48 1 [(Value.int IntKind.u8 0), (Value.string ⟨#[]⟩), (Value.int IntKind.u8 0), (Value.int IntKind.i64 0), (Value.int IntKind.u64 0), (Value.string ⟨#[]⟩), (Value.slice none 0 0), (Value.slice none 0 0), (Value.slice none 0 0), (Value.slice none 0 0), (Value.int IntKind.i64 0)] [(0, 11, (.tmp 17))]),
  qo 19 (.append 48 11 168 [(Value.int IntKind.u8 0), (Value.string ⟨#[]⟩), (Value.int IntKind.u8 0), (Value.int IntKind.i64 0), (Value.int IntKind.u64 0), (Value.string ⟨#[]⟩), (Value.slice none 0 0), (Value.slice none 0 0), (Value.slice none 0 0), (Value.slice none 0 0), (Value.int IntKind.i64 0)] (.tmp 14) (.tmp 18)),
  qm 5 19] [1,5,8,9,10])))
 (.reg [qc 20 .add 10 1,qm 10 20] [1,5,8,9,10])))))))
 (qS [qm 21 5,qm 4 21] [4]
 .ret))))⟩)
theorem n54 : F54.n = 22 := rfl
theorem low54 : lowF Tryz.prog (kpO F54) (assoc []) 54 = some F54 := by kernel_rfl
def F134 : FIR := laid (X := ⟨22, [.tmp 4],
 (qS [qo 4 (.mv (.const (Value.slice none 0 0)))] [0,1]
 (qS [qo 5 (.mv (.const (Value.slice none 0 0)))] [0,1,5]
 (.seq (qS [qm 8 0,qL 9 8,qk 10 0] [1,5,8,9,10]
 (.block 0 (.loop (qS [qb 11 .lss 10 9] [1,5,8,9,10,11]
 (.seq (qC 11 .skip
 (.exit 0))
 (.seq (.block 1 (qS [qi 12 5 8 10,qN 13 5 12,
  qo 7 (.alloc 46 [(Value.int IntKind.u8 0), (Value.int IntKind.i64 0), (Value.int IntKind.u64 0), (Value.string ⟨#[]⟩), (Value.slice none 0 0)]),
  qs 5 7 13] [1,5,7,8,9,10]
 (.reg [qm 14 5,qm 15 1,qN 16 5 7,qo 17 (.callv (.tmp 15) [(.tmp 16)]),
  qo 18 (.bslice 46 1 [(Value.int IntKind.u8 0), (Value.int IntKind.i64 0), (Value.int IntKind.u64 0), (Value.string ⟨#[]⟩), (Value.slice none 0 0)] [(0, 5, (.tmp 17))]),
  qo 19 (.append 46 5 64 [(Value.int IntKind.u8 0), (Value.int IntKind.i64 0), (Value.int IntKind.u64 0), (Value.string ⟨#[]⟩), (Value.slice none 0 0)] (.tmp 14) (.tmp 18)),
  qm 5 19] [1,5,8,9,10])))
 (.reg [qc 20 .add 10 1,qm 10 20] [1,5,8,9,10])))))))
 (qS [qm 21 5,qm 4 21] [4]
 .ret))))⟩)
theorem n134 : F134.n = 22 := rfl
theorem low134 : lowF Tryz.prog (kpO F134) (assoc []) 134 = some F134 := by kernel_rfl
def F97 : FIR := laid (X := ⟨8, [.cellN 2 5],
 (qS [qB 1 46 0,
  qo 2 (.alloc 46 [(Value.int IntKind.u8 0), (Value.int IntKind.i64 0), (Value.int IntKind.u64 0), (Value.string ⟨#[]⟩), (Value.slice none 0 0)])] [1,2]
 (qS [qf 3 4 1,ql 4 3,qo 5 (.call 134 [(.tmp 4), (.func 97)]),qf 6 4 1,qs 1 6 5] [1,2]
 (qS [qN 7 5 1,qs 5 2 7] [2]
 .ret)))⟩)
theorem n97 : F97.n = 8 := rfl
theorem low97 : lowF Tryz.prog (kpO F97) (assoc []) 97 = some F97 := by kernel_rfl
def F55 : FIR := laid (X := ⟨20, [.cellN 2 11],
 (qS [qB 1 48 0,
  qo 2 (.alloc 48 [(Value.int IntKind.u8 0), (Value.string ⟨#[]⟩), (Value.int IntKind.u8 0), (Value.int IntKind.i64 0), (Value.int IntKind.u64 0), (Value.string ⟨#[]⟩), (Value.slice none 0 0), (Value.slice none 0 0), (Value.slice none 0 0), (Value.slice none 0 0), (Value.int IntKind.i64 0)])] [1,2]
 (.seq (.free [qf 3 0 1,ql 4 3,qf 5 1 1,ql 6 5,qf 7 2 1,qN 8 5 7,qx 9 97 [8],qf 10 7 1,ql 11 10,qx 12 53 [11],qf 13 8 1,ql 14 13,qx 15 53 [14],
  qf 16 9 1,ql 17 16,qo 18 (.call 54 [(.tmp 17), (.func 55)]),
  qo 19 (.build [(Value.int IntKind.u8 0), (Value.string ⟨#[]⟩), (Value.int IntKind.u8 0), (Value.int IntKind.i64 0), (Value.int IntKind.u64 0), (Value.string ⟨#[]⟩), (Value.slice none 0 0), (Value.slice none 0 0), (Value.slice none 0 0), (Value.slice none 0 0), (Value.int IntKind.i64 0)] [(0, 1, (.tmp 4)), (1, 1, (.tmp 6)), (2, 5, (.tmp 9)), (7, 1, (.tmp 12)), (8, 1, (.tmp 15)), (9, 1, (.tmp 18))]),
  qs 11 2 19] [[], [0], [], [2], [], [4], [4,5], [], [7], [5,4,6,7,8], [], [10], [8,7,6,4,5,9,10,11], [], [13], [11,10,9,5,4,6,7,8,12,13,14], [14,13,15,11,10,12,8,7,9,5,4,6,2,3,0,1], [1,0,3,2,6,4,5,9,7,8,12,10,11,15,13,14,16]] [2])
 .ret))⟩)
theorem n55 : F55.n = 20 := rfl
theorem low55 : lowF Tryz.prog (kpO F55) (assoc [(1,[])]) 55 = some F55 := by kernel_rfl
def F15 : FIR := laid (X := ⟨16, [.cellN 2 5],
 (qS [qB 1 25 0,
  qo 2 (.alloc 25 [(Value.string ⟨#[]⟩), (Value.slice none 0 0), (Value.slice none 0 0), (Value.int IntKind.i64 0), (Value.slice none 0 0)])] [1,2]
 (.seq (qD [qf 3 1 1,ql 4 3,qx 5 53 [4],qf 6 2 1,ql 7 6,qx 8 53 [7],qf 9 1 1,qs 1 9 5,qf 10 2 1,qs 1 10 8] [[0,1,2,3,4,5,6,7,8,9], [0,1,3,4,2,5,6,7,8,9]] [1,2])
 (qS [qf 11 4 1,ql 12 11,qo 13 (.call 54 [(.tmp 12), (.func 55)]),qf 14 4 1,qs 1 14 13] [1,2]
 (qS [qN 15 5 1,qs 5 2 15] [2]
 .ret))))⟩)
theorem n15 : F15.n = 16 := rfl
theorem low15 : lowF Tryz.prog (kpO F15) (assoc [(1,[[0,1,2,3,4,5,6,7,8,9], [0,1,3,4,2,5,6,7,8,9]])]) 15 = some F15 := by kernel_rfl
def F42 : FIR := laid (X := ⟨10, [.cellN 0 11],
 (qS [qo 0 (.alloc 48 [(Value.int IntKind.u8 0), (Value.string ⟨#[]⟩), (Value.int IntKind.u8 0), (Value.int IntKind.i64 0), (Value.int IntKind.u64 0), (Value.string ⟨#[]⟩), (Value.slice none 0 0), (Value.slice none 0 0), (Value.slice none 0 0), (Value.slice none 0 0), (Value.int IntKind.i64 0)])] [0]
 (qS [qo 2 (.build [(Value.int IntKind.u8 0), (Value.string ⟨#[]⟩), (Value.int IntKind.u8 0), (Value.int IntKind.i64 0), (Value.int IntKind.u64 0), (Value.string ⟨#[]⟩), (Value.slice none 0 0), (Value.slice none 0 0), (Value.slice none 0 0), (Value.slice none 0 0), (Value.int IntKind.i64 0)] [(0, 1, (.const (Value.int IntKind.u8 2))), (1, 1, (.const (Value.string ⟨#[98]⟩)))]),
  qo 3 (.build [(Value.int IntKind.u8 0), (Value.string ⟨#[]⟩), (Value.int IntKind.u8 0), (Value.int IntKind.i64 0), (Value.int IntKind.u64 0), (Value.string ⟨#[]⟩), (Value.slice none 0 0), (Value.slice none 0 0), (Value.slice none 0 0), (Value.slice none 0 0), (Value.int IntKind.i64 0)] [(0, 1, (.const (Value.int IntKind.u8 2))), (1, 1, (.const (Value.string ⟨#[99]⟩)))]),
  qo 4 (.bslice 48 2 [(Value.int IntKind.u8 0), (Value.string ⟨#[]⟩), (Value.int IntKind.u8 0), (Value.int IntKind.i64 0), (Value.int IntKind.u64 0), (Value.string ⟨#[]⟩), (Value.slice none 0 0), (Value.slice none 0 0), (Value.slice none 0 0), (Value.slice none 0 0), (Value.int IntKind.i64 0)] [(0, 11, (.tmp 2)), (11, 11, (.tmp 3))]),
  qo 5 (.build [(Value.int IntKind.u8 0), (Value.string ⟨#[]⟩), (Value.int IntKind.u8 0), (Value.int IntKind.i64 0), (Value.int IntKind.u64 0), (Value.string ⟨#[]⟩), (Value.slice none 0 0), (Value.slice none 0 0), (Value.slice none 0 0), (Value.slice none 0 0), (Value.int IntKind.i64 0)] [(0, 1, (.const (Value.int IntKind.u8 4))), (1, 1, (.const (Value.string ⟨#[42]⟩))), (9, 1, (.tmp 4)), (10, 1, (.const (Value.int IntKind.i64 5)))]),
  qo 1 (.alloc 48 [(Value.int IntKind.u8 0), (Value.string ⟨#[]⟩), (Value.int IntKind.u8 0), (Value.int IntKind.i64 0), (Value.int IntKind.u64 0), (Value.string ⟨#[]⟩), (Value.slice none 0 0), (Value.slice none 0 0), (Value.slice none 0 0), (Value.slice none 0 0), (Value.int IntKind.i64 0)]),
  qs 11 1 5] [0,1]
 (qS [qo 6 (.build [(Value.int IntKind.u8 0), (Value.string ⟨#[]⟩), (Value.int IntKind.u8 0), (Value.int IntKind.i64 0), (Value.int IntKind.u64 0), (Value.string ⟨#[]⟩), (Value.slice none 0 0), (Value.slice none 0 0), (Value.slice none 0 0), (Value.slice none 0 0), (Value.int IntKind.i64 0)] [(0, 1, (.const (Value.int IntKind.u8 2))), (1, 1, (.const (Value.string ⟨#[97]⟩)))]),
  qN 7 11 1,
  qo 8 (.bslice 48 2 [(Value.int IntKind.u8 0), (Value.string ⟨#[]⟩), (Value.int IntKind.u8 0), (Value.int IntKind.i64 0), (Value.int IntKind.u64 0), (Value.string ⟨#[]⟩), (Value.slice none 0 0), (Value.slice none 0 0), (Value.slice none 0 0), (Value.slice none 0 0), (Value.int IntKind.i64 0)] [(0, 11, (.tmp 6)), (11, 11, (.tmp 7))]),
  qo 9 (.build [(Value.int IntKind.u8 0), (Value.string ⟨#[]⟩), (Value.int IntKind.u8 0), (Value.int IntKind.i64 0), (Value.int IntKind.u64 0), (Value.string ⟨#[]⟩), (Value.slice none 0 0), (Value.slice none 0 0), (Value.slice none 0 0), (Value.slice none 0 0), (Value.int IntKind.i64 0)] [(0, 1, (.const (Value.int IntKind.u8 4))), (1, 1, (.const (Value.string ⟨#[43]⟩))), (9, 1, (.tmp 8))]),
  qs 11 0 9] [0]
 .ret)))⟩)
theorem n42 : F42.n = 10 := rfl
theorem low42 : lowF Tryz.prog (kpO F42) (assoc []) 42 = some F42 := by kernel_rfl
set_option maxHeartbeats 3200000
theorem cloneTexts_spec (A : List Atom) (av : Value) (l : List ByteArray) (h : RdT A av l) : Fun Tryz.prog 53 [av] [A] (fun v Post => ∃ B, RdT B v l ∧ Post = [A, B]) := by
  obtain ⟨a, c, rfl, hl, hr⟩ := h
  refine Fun.intro low53 (by simp [n53]) ?_
  have hsz : ∀ t ∈ l, t.size ≤ 140737488355328 := fun t ht => by
    obtain ⟨i, hi⟩ := List.getElem?_of_mem ht
    obtain ⟨_, _, _, _, h⟩ := hr i t hi
    exact h
  cases a with
  | none =>
    have hl0 : l = [] := by
      cases l with
      | nil => rfl
      | cons t l => obtain ⟨_, _, h, _⟩ := hr 0 t rfl; cases h
    subst hl0
    refine GOH ?_
    exact endQ_mk (Post := [A, []]) (.inr rfl) (.tmp (by rfl) .nil) ⟨[], ⟨none, 0, rfl, by simp, fun i t e => by simp at e⟩, rfl⟩ ⟨[], by simp [V.Spl]⟩
  | some ad =>
    refine GOH ?_
    refine st_bslice (out := []) (by rfl) (by rfl) (fun q => ?_)
    refine GOH ?_
    cases hl0 : l with
    | nil =>
      subst hl0
      refine st_append0 (by rfl) (by rfl) (Nat.le_refl _) ?_
      refine GOH ?_
      exact endQ_mk (Post := [A, []]) (.inr rfl) (.tmp (by rfl) .nil) ⟨[], ⟨_, 0, rfl, by simp, fun i t e => by simp at e⟩, rfl⟩ ⟨[], by simp [V.Spl, cellsAt]⟩
    | cons t l' =>
      rw [← hl0]
      obtain ⟨b, o, had, _⟩ := hr 0 t (by rw [hl0]; rfl)
      cases had
      have hsrc : Src [A].flatten 1 l.length (l.map Value.string) (.slice (some ⟨b, o, none⟩) l.length c) := by
        refine ⟨by simp, fun x hx => ?_⟩
        obtain ⟨i, v, hi, rfl⟩ := mem_cellsAt.1 hx
        rw [List.getElem?_map] at hi
        obtain ⟨u, hu, rfl⟩ := Option.map_eq_some_iff.1 hi
        obtain ⟨b2, o2, h1, h2, _⟩ := hr i u hu
        cases h1
        simpa using h2
      refine st_append (k := 0) (m := l.length) (xs := []) (sp := []) (ys := l.map Value.string) (by rfl) (by rfl) (.mk rfl rfl (Nat.le_refl _)) (show Tk [cellsAt q 0 [], A] (cellsAt q 0 []) [A] from .here) (by rfl) hsrc (by simp) (by simp [List.all_eq_true, oneCell]) (by rfl) (by decide) (by omega) (fun sv' sp' hsl' => ?_)
      rw [List.nil_append, Nat.zero_add] at *
      obtain ⟨a', c', rfl⟩ := hsl'.form
      refine GOH ?_
      exact endQ_mk (Post := [A, slA (.slice a' l.length c') (l.map Value.string) sp']) (.inr rfl) (.tmp (by rfl) .nil) ⟨_, texts_made rfl hsl' hl hsz, rfl⟩ (by exact IMx)
theorem eachLits_spec (A : List Atom) (l : List Lt) (a : Option Addr) (c bk o : Nat) (us : Nat → List Value) (hla : l.length ≤ 274877906944) (ha : 0 < l.length → a = some ⟨bk, o, none⟩) (hm : ∀ i, i < l.length → ∀ y ∈ cellsAt bk (o + i * 5) (us i), y ∈ A) (hr : ∀ i x, l[i]? = some x → LtRd A x (us i))
    (fv : Value) (hfv : ∀ i x, l[i]? = some x → FunV Tryz.prog fv [.agg (us i).toArray] [A] (fun v Post => ∃ ws B, v = .agg ws.toArray ∧ LtRd B x ws ∧ Post = [A, B])) :
    Fun Tryz.prog 134 [.slice a l.length c, fv] [A] (fun v Post => ∃ (rows : List (List Value)) (sp : List Value) (B : List Atom), IsSl 5 v l.length rows.flatten sp ∧ rows.length = l.length ∧ (∀ r ∈ rows, r.length = 5) ∧ (∀ (i : Nat) x r, l[i]? = some x → rows[i]? = some r → LtRd B x r) ∧ Post = [A, slA v rows.flatten sp, B]) := by
  refine Fun.intro low134 (by simp [n134]) ?_
  refine GOH ?_
  refine VC.loop (α := Nat × Value × List (List Value) × List Value × List Atom) (Γf := fun s => [(1, fv), (5, s.2.1), (8, .slice a l.length c), (9, vi l.length), (10, vi s.1)]) (Hf := fun s => [A, slA s.2.1 s.2.2.1.flatten s.2.2.2.1, s.2.2.2.2])
    (I := fun s => s.1 ≤ l.length ∧ IsSl 5 s.2.1 s.1 s.2.2.1.flatten s.2.2.2.1 ∧ s.2.2.1.length = s.1 ∧ (∀ r ∈ s.2.2.1, r.length = 5) ∧ ∀ (i : Nat) x r, l[i]? = some x → s.2.2.1[i]? = some r → LtRd s.2.2.2.2 x r) (μ := fun s => l.length - s.1) (0, .slice none 0 0, [], [], []) ⟨Nat.zero_le _, .nil, rfl, fun r hr => (by cases hr), fun i x r _ h => (by simp at h)⟩ (by exact SUx) ⟨[], by simp [V.Spl, slA]⟩ ?_
  rintro ⟨j, sv, rows, sp, B⟩ ⟨i1, i2, i3, i4, i5⟩
  simp only at i1 i2 i3 i4 i5
  dsimp only
  refine GOH ?_
  by_cases hj : j < l.length
  rotate_left
  · rw [show decide ((j : Int) < (l.length : Int)) = false from decide_eq_false (by omega)]
    have hjl : j = l.length := by omega
    subst hjl
    refine GOH ?_
    exact endQ_mk (Post := [A, slA sv rows.flatten sp, B]) (.inr rfl) (.tmp (by rfl) .nil) ⟨rows, sp, B, i2, i3, i4, i5, rfl⟩ (by exact IMx)
  obtain rfl := ha (by omega)
  rw [show decide ((j : Int) < (l.length : Int)) = true from decide_eq_true (by omega)]
  obtain ⟨y, hy⟩ : ∃ y, l[j]? = some y := ⟨_, List.getElem?_eq_getElem hj⟩
  have hym := hm j hj
  have hyr := hr j y hy
  have hcall := hfv j y hy
  generalize us j = uj at *
  obtain ⟨e1, c1, rfl⟩ := lt_open hyr
  refine GOH ?_
  refine st_loadA (by rfl) (fun z hz => List.mem_append_left _ (hym z hz)) rfl ?_
  refine GOH ?_
  refine st_alloc (fun q => ?_)
  refine GOH ?_
  refine st_callV (by rfl) hcall (by rfl) (by exact SPx) (fun v Post hv => ?_)
  obtain ⟨ws, B2, rfl, hw, rfl⟩ := hv
  simp only [CNx]
  have hwl := hw.len
  obtain ⟨e2, c2, rfl⟩ := lt_open hw
  refine st_bslice (out := [cv y.kind, vi y.n, uv y.bits, .string y.text, .slice e2 y.items.length c2]) (by rfl) (by rfl) (fun r => ?_)
  refine st_append (k := j) (m := 1) (xs := rows.flatten) (sp := sp) (ys := [cv y.kind, vi y.n, uv y.bits, .string y.text, .slice e2 y.items.length c2]) (by rfl) (by rfl) i2 (by exact TKx) (by rfl) ?_ rfl (by rfl) (by rfl) (by decide) (by omega) (fun sv' sp' hsl' => ?_)
  · exact ⟨rfl, fun a ha => by simp only [List.flatten_cons, List.mem_append]; exact .inl ha⟩
  have hfl : rows.flatten ++ [cv y.kind, vi y.n, uv y.bits, .string y.text, .slice e2 y.items.length c2] = (rows ++ [[cv y.kind, vi y.n, uv y.bits, .string y.text, .slice e2 y.items.length c2]]).flatten := by simp
  rw [hfl] at hsl' ⊢
  refine GOH ?_
  refine ⟨(j + 1, sv', rows ++ [[cv y.kind, vi y.n, uv y.bits, .string y.text, .slice e2 y.items.length c2]], sp', B2 ++ B), ⟨by simp only; omega, hsl', by simp [i3], fun r hr => ?_, fun i x r hx hr => ?_⟩, by simp only; omega, by exact SUx, ?_⟩
  · rcases List.mem_append.1 hr with h | h
    · exact i4 r h
    · rw [List.mem_singleton.1 h]; rfl
  · simp only at hr
    by_cases hi : i < rows.length
    · rw [List.getElem?_append_left hi] at hr
      exact (i5 i x r hx hr).more fun z hz => List.mem_append_right _ hz
    · rw [List.getElem?_append_right (by omega)] at hr
      have hi0 : i - rows.length = 0 := by
        have := (List.getElem?_eq_some_iff.1 hr).1
        simp at this; omega
      rw [hi0] at hr
      simp only [List.getElem?_cons_zero, Option.some.injEq] at hr
      subst hr
      have : i = j := by omega
      subst this
      rw [hy] at hx; cases hx
      exact hw.more fun z hz => List.mem_append_left _ hz
  · simp only
    refine Imp.cut (M := [A, slA sv' (rows ++ [[cv y.kind, vi y.n, uv y.bits, .string y.text, .slice e2 y.items.length c2]]).flatten sp', B2, B]) (by exact IMx) (Imp.perm (by simp))
theorem own_spec (A : List Atom) : ∀ (N : Nat) (x : Lt), x.size ≤ N → x.size ≤ 274877906944 → ∀ vs, LtRd A x vs → Fun Tryz.prog 97 [.agg vs.toArray] [A] (fun v Post => ∃ ws B, v = .agg ws.toArray ∧ LtRd B x ws ∧ Post = [A, B]) := by
  intro N
  induction N with
  | zero => intro x hx; have := x.size_pos; omega
  | succ N ih =>
    intro x hx hb vs h
    cases h with
    | @mk k n b t items a c bk o us wf ha hm hr =>
    simp only [Lt.size] at hx hb
    have hge := sizes_ge items
    have hkids := eachLits_spec A items a c bk o us (by omega) ha hm hr (.func (.func 97) #[] #[]) (fun i x e1 => by
      have h1 := Lt.sizes_mem (List.mem_of_getElem? e1)
      exact FunV.of_fun (first := #[]) (cap := #[]) (ih x (by omega) (by omega) _ (hr i x e1)))
    refine Fun.intro low97 (by simp [n97]) ?_
    refine GOH ?_
    refine st_box (by rfl) (fun q => ?_)
    refine st_alloc (fun q2 => ?_)
    simp only [Value.cells]
    refine GOH ?_
    refine st_call hkids (by rfl) (by exact SPx) (fun v Post hv => ?_)
    obtain ⟨rows, sp, B, h1, h2, h3, h4, rfl⟩ := hv
    simp only [CNx]
    have hmade := lt_made h1 h2 h3 h4 wf
    obtain ⟨a', c', rfl⟩ := h1.form
    refine GOH ?_
    exact ⟨.inr rfl, [.agg #[cv k, vi n, uv b, .string t, .slice a' items.length c']], [A, slA (.slice a' items.length c') rows.flatten sp ++ B], .cellN (us := [cv k, vi n, uv b, .string t, .slice a' items.length c']) (by rfl) (by rfl) (fun y hy => by simp only [List.flatten_cons, List.mem_append]; first | exact .inl hy | exact .inr (.inl hy) | exact .inr (.inr (.inl hy)) | exact .inr (.inr (.inr (.inl hy))) | exact .inr (.inr (.inr (.inr (.inl hy))))) .nil, Imp.cut (M := [A, slA (.slice a' items.length c') rows.flatten sp, B]) (by exact IMx) (Imp.perm (by simp)), ⟨_, _, rfl, hmade, rfl⟩⟩
def F117 : FIR := laid (X := ⟨62, [.tmp 4],
 (qS [qB 2 46 0,qB 3 46 1,qz 4 false] [2,3]
 (.seq (qS [qf 7 0 2,ql 8 7,qf 9 0 3,ql 10 9,qb 11 .neq 8 10,qm 12 11,qu 12 (qf 13 1 2),qu 12 (ql 14 13),qu 12 (qf 15 1 3),qu 12 (ql 16 15),
  qu 12 (qb 17 .neq 14 16),qr 18 12 17,qm 19 18,qu 19 (qf 20 2 2),qu 19 (ql 21 20),qu 19 (qf 22 2 3),qu 19 (ql 23 22),qu 19 (qb 24 .neq 21 23),
  qr 25 19 24,qm 26 25,qu 26 (qf 27 3 2),qu 26 (ql 28 27),qu 26 (qf 29 3 3),qu 26 (ql 30 29),qu 26 (qb 31 .neq 28 30),qr 32 26 31,qm 33 32,
  qu 33 (qf 34 4 2),qu 33 (ql 35 34),qu 33 (qL 36 35),qu 33 (qf 37 4 3),qu 33 (ql 38 37),qu 33 (qL 39 38),qu 33 (qb 40 .neq 36 39),qr 41 33 40] [2,3,41]
 (qC 41 (qS [qz 4 false] [4]
 .ret)
 .skip))
 (.seq (qS [qk 5 0] [2,3,5]
 (.block 0 (.loop (.seq (qS [qm 42 5,qf 43 4 2,ql 44 43,qL 45 44,qb 46 .lss 42 45] [2,3,5,46]
 (qC 46 .skip
 (.exit 0)))
 (.seq (.block 1 (.seq (qD [qf 49 4 2,ql 50 49,qm 51 5,qi 52 5 50 51,qN 53 5 52,qf 54 4 3,ql 55 54,qm 56 5,qi 57 5 55 56,qN 58 5 57,qx 59 117 [53,58],qm 6 59] [[0,1,2,3,4,5,6,7,8,9,10,11]] [2,3,5,6])
 (qS [qm 60 6,qo 61 (.un .not (.tmp 60))] [2,3,5,61]
 (qC 61 (qS [qz 4 false] [4]
 .ret)
 .skip))))
 (.reg [qm 47 5,qc 48 .add 47 1,qm 5 48] [2,3,5]))))))
 (qS [qz 4 true] [4]
 .ret))))⟩)
theorem n117 : F117.n = 62 := rfl
theorem low117 : lowF Tryz.prog (kpO F117) (assoc [(6,[[0,1,2,3,4,5,6,7,8,9,10,11]])]) 117 = some F117 := by kernel_rfl
def F37 : FIR := laid (X := ⟨26, [.tmp 4],
 (qS [qz 4 false] [0,1]
 (.seq (qS [qm 6 0,qL 7 6,qm 8 1,qL 9 8,qb 10 .neq 7 9] [0,1,10]
 (qC 10 (qS [qz 4 false] [4]
 .ret)
 .skip))
 (.seq (qS [qk 5 0] [0,1,5]
 (.block 0 (.loop (.seq (qS [qm 11 5,qm 12 0,qL 13 12,qb 14 .lss 11 13] [0,1,5,14]
 (qC 14 .skip
 (.exit 0)))
 (.seq (.block 1 (.seq (qD [qm 17 0,qm 18 5,qi 19 1 17 18,ql 20 19,qm 21 1,qm 22 5,qi 23 1 21 22,ql 24 23,qb 25 .neq 20 24] [[0,1,2,3,4,5,6,7,8]] [0,1,5,25])
 (qC 25 (qS [qz 4 false] [4]
 .ret)
 .skip)))
 (.reg [qm 15 5,qc 16 .add 15 1,qm 5 16] [0,1,5]))))))
 (qS [qz 4 true] [4]
 .ret))))⟩)
theorem n37 : F37.n = 26 := rfl
theorem low37 : lowF Tryz.prog (kpO F37) (assoc [(6,[[0,1,2,3,4,5,6,7,8]])]) 37 = some F37 := by kernel_rfl
def F77 : FIR := laid (X := ⟨53, [.tmp 4],
 (qS [qB 2 48 0,qB 3 48 1,qz 4 false] [2,3]
 (qS [qf 8 2 2,qN 9 5 8,qf 10 2 3,qN 11 5 10,qx 12 117 [9,11],qm 5 12] [2,3,5]
 (qS [qf 13 7 2,ql 14 13,qf 15 7 3,ql 16 15,qx 17 37 [14,16],qm 6 17] [2,3,5,6]
 (qS [qf 18 8 2,ql 19 18,qf 20 8 3,ql 21 20,qx 22 37 [19,21],qm 7 22] [2,3,5,6,7]
 (qS [qm 23 5,qm 24 23,qt 24 (qm 25 6),qa 26 24 25,qm 27 26,qt 27 (qm 28 7),qa 29 27 28,qm 30 29,qt 30 (qf 31 0 2),qt 30 (ql 32 31),
  qt 30 (qf 33 0 3),qt 30 (ql 34 33),qt 30 (qb 35 .eql 32 34),qa 36 30 35,qm 37 36,qt 37 (qf 38 1 2),qt 37 (ql 39 38),qt 37 (qf 40 1 3),qt 37 (ql 41 40),
  qt 37 (qb 42 .eql 39 41),qa 43 37 42,qm 44 43,qt 44 (qf 45 9 2),qt 44 (ql 46 45),qt 44 (qL 47 46),qt 44 (qf 48 9 3),qt 44 (ql 49 48),qt 44 (qL 50 49),
  qt 44 (qb 51 .eql 47 50),qa 52 44 51,qm 4 52] [4]
 .ret)))))⟩)
theorem n77 : F77.n = 53 := rfl
theorem low77 : lowF Tryz.prog (kpO F77) (assoc []) 77 = some F77 := by kernel_rfl
def F30 : FIR := laid (X := ⟨32, [.tmp 4],
 (qS [qB 2 48 0,qB 3 48 1,qz 4 false] [2,3]
 (qS [qN 7 11 2,qN 8 11 3,qx 9 77 [7,8],qm 5 9] [2,3,5]
 (.seq (qS [qk 6 0] [2,3,5,6]
 (.block 0 (.loop (.seq (qS [qm 10 6,qf 11 9 2,ql 12 11,qL 13 12,qb 14 .lss 10 13,qm 15 14,qt 15 (qm 16 5),qa 17 15 16] [2,3,5,6,17]
 (qC 17 .skip
 (.exit 0)))
 (.seq (.block 1 (qD [qf 20 9 2,ql 21 20,qm 22 6,qi 23 11 21 22,qN 24 11 23,qf 25 9 3,ql 26 25,qm 27 6,qi 28 11 26 27,qN 29 11 28,qx 30 30 [24,29],
  qm 5 30] [[0,1,2,3,4,5,6,7,8,9,10,11]] [2,3,5,6]))
 (.reg [qm 18 6,qc 19 .add 18 1,qm 6 19] [2,3,5,6]))))))
 (qS [qm 31 5,qm 4 31] [4]
 .ret))))⟩)
theorem n30 : F30.n = 32 := rfl
theorem low30 : lowF Tryz.prog (kpO F30) (assoc [(5,[[0,1,2,3,4,5,6,7,8,9,10,11]])]) 30 = some F30 := by kernel_rfl
def F40 : FIR := laid (X := ⟨40, [.tmp 4],
 (qS [qB 2 48 0,qB 3 48 1,qz 4 false] [2,3]
 (qS [qN 8 11 2,qN 9 11 3,qx 10 77 [8,9],qm 5 10] [2,3,5]
 (.seq (qS [qm 11 5,qo 12 (.un .not (.tmp 11)),qm 13 12,qu 13 (qf 14 10 2),qu 13 (ql 15 14),qu 13 (qf 16 10 3),qu 13 (ql 17 16),
  qu 13 (qb 18 .neq 15 17),qr 19 13 18] [2,3,19]
 (qC 19 (qS [qz 4 false] [4]
 .ret)
 .skip))
 (.seq (qS [qk 6 0] [2,3,6]
 (.block 0 (.loop (.seq (qS [qm 20 6,qf 21 9 2,ql 22 21,qL 23 22,qb 24 .lss 20 23] [2,3,6,24]
 (qC 24 .skip
 (.exit 0)))
 (.seq (.block 1 (.seq (qD [qf 27 9 2,ql 28 27,qm 29 6,qi 30 11 28 29,qN 31 11 30,qf 32 9 3,ql 33 32,qm 34 6,qi 35 11 33 34,qN 36 11 35,qx 37 40 [31,36],
  qm 7 37] [[0,1,2,3,4,5,6,7,8,9,10,11]] [2,3,6,7])
 (qS [qm 38 7,qo 39 (.un .not (.tmp 38))] [2,3,6,39]
 (qC 39 (qS [qz 4 false] [4]
 .ret)
 .skip))))
 (.reg [qm 25 6,qc 26 .add 25 1,qm 6 26] [2,3,6]))))))
 (qS [qz 4 true] [4]
 .ret)))))⟩)
theorem n40 : F40.n = 40 := rfl
theorem low40 : lowF Tryz.prog (kpO F40) (assoc [(7,[[0,1,2,3,4,5,6,7,8,9,10,11]])]) 40 = some F40 := by kernel_rfl
def F18 : FIR := laid (X := ⟨82, [.tmp 6],
 (qS [qB 3 25 0,qB 4 25 1,qz 6 false] [2,3,4]
 (qS [qf 11 1 3,ql 12 11,qf 13 1 4,ql 14 13,qx 15 37 [12,14],qm 7 15] [2,3,4,7]
 (qS [qf 16 2 3,ql 17 16,qf 18 2 4,ql 19 18,qx 20 37 [17,19],qm 8 20] [2,3,4,7,8]
 (.seq (qS [qm 21 7,qo 22 (.un .not (.tmp 21)),qm 23 22,qu 23 (qm 24 8),qu 23 (qo 25 (.un .not (.tmp 24))),qr 26 23 25,qm 27 26,
  qu 27 (qf 28 0 3),qu 27 (ql 29 28),qu 27 (qf 30 0 4),qu 27 (ql 31 30),qu 27 (qb 32 .neq 29 31),qr 33 27 32,qm 34 33,qu 34 (qf 35 3 3),qu 34 (ql 36 35),
  qu 34 (qf 37 3 4),qu 34 (ql 38 37),qu 34 (qb 39 .neq 36 38),qr 40 34 39,qm 41 40,qu 41 (qf 42 4 3),qu 41 (ql 43 42),qu 41 (qL 44 43),qu 41 (qf 45 4 4),
  qu 41 (ql 46 45),qu 41 (qL 47 46),qu 41 (qb 48 .neq 44 47),qr 49 41 48] [2,3,4,49]
 (qC 49 (qS [qz 6 false] [6]
 .ret)
 .skip))
 (.seq (qS [qk 9 0] [2,3,4,9]
 (.block 0 (.loop (.seq (qS [qm 50 9,qf 51 4 3,ql 52 51,qL 53 52,qb 54 .lss 50 53] [2,3,4,9,54]
 (qC 54 .skip
 (.exit 0)))
 (.seq (.block 1 (.seq (qD [qf 57 4 3,ql 58 57,qm 59 9,qi 60 11 58 59,qN 61 11 60,qf 62 4 4,ql 63 62,qm 64 9,qi 65 11 63 64,qN 66 11 65,qx 67 30 [61,66],
  qm 10 67] [[0,1,2,3,4,5,6,7,8,9,10,11]] [2,3,4,9,10])
 (.seq (qS [qm 68 2] [2,3,4,9,10,68]
 (qC 68 (qD [qf 69 4 3,ql 70 69,qm 71 9,qi 72 11 70 71,qN 73 11 72,qf 74 4 4,ql 75 74,qm 76 9,qi 77 11 75 76,qN 78 11 77,qx 79 40 [73,78],
  qm 10 79] [[0,1,2,3,4,5,6,7,8,9,10,11]] [2,3,4,9,10])
 .skip))
 (qS [qm 80 10,qo 81 (.un .not (.tmp 80))] [2,3,4,9,81]
 (qC 81 (qS [qz 6 false] [6]
 .ret)
 .skip)))))
 (.reg [qm 55 9,qc 56 .add 55 1,qm 9 56] [2,3,4,9]))))))
 (qS [qz 6 true] [6]
 .ret))))))⟩)
theorem n18 : F18.n = 82 := rfl
theorem low18 : lowF Tryz.prog (kpO F18) (assoc [(8,[[0,1,2,3,4,5,6,7,8,9,10,11]]), (10,[[0,1,2,3,4,5,6,7,8,9,10,11]])]) 18 = some F18 := by kernel_rfl
def F43 : FIR := laid (X := ⟨34, [.tmp 2],
 (qS [qB 1 25 0,qk 2 0] [1]
 (qS [qf 5 1 1,ql 6 5,qf 7 0 1,ql 8 7,qo 9 (.lenS (.tmp 8)),qx 10 86 [6,9],qm 3 10] [1,3]
 (qS [qf 11 2 1,ql 12 11,qm 13 3,qx 14 86 [12,13],qm 3 14] [1,3]
 (.seq (qS [qk 4 0] [1,3,4]
 (.block 0 (.loop (.seq (qS [qm 15 4,qf 16 4 1,ql 17 16,qL 18 17,qb 19 .lss 15 18,qm 20 19,qt 20 (qm 21 3),qt 20 (qc 22 .leq 21 262144),qa 23 20 22] [1,3,4,23]
 (qC 23 .skip
 (.exit 0)))
 (.seq (.block 1 (.reg [qf 26 4 1,ql 27 26,qm 28 4,qi 29 11 27 28,qN 30 11 29,qm 31 3,
  qo 32 (.call 70 [(.tmp 30), (.tmp 31), (.const (Value.int IntKind.i64 0))]),qm 3 32] [1,3,4]))
 (.reg [qm 24 4,qc 25 .add 24 1,qm 4 25] [1,3,4]))))))
 (qS [qm 33 3,qm 2 33] [2]
 .ret)))))⟩)
theorem n43 : F43.n = 34 := rfl
theorem low43 : lowF Tryz.prog (kpO F43) (assoc []) 43 = some F43 := by kernel_rfl
def F11 : FIR := laid (X := ⟨6, [.tmp 2],
 (qS [qB 1 25 0,qz 2 false] [1]
 (qS [qN 3 5 1,qx 4 43 [3],qc 5 .gtr 4 262144,qm 2 5] [2]
 .ret))⟩)
theorem n11 : F11.n = 6 := rfl
theorem low11 : lowF Tryz.prog (kpO F11) (assoc []) 11 = some F11 := by kernel_rfl
def F7 : FIR := laid (X := ⟨120, [.tmp 2],
 (qS [qB 1 25 0,qz 2 false] [1]
 (qS [qx 20 10 [],qm 3 20] [1,3]
 (qS [qN 21 5 1,qx 22 11 [21],qm 4 22] [1,3,4]
 (.seq (qS [qm 23 3,qo 24 (.un .not (.tmp 23)),qm 25 24,qu 25 (qm 26 4),qr 27 25 26] [1,3,27]
 (qC 27 (qS [qm 28 3,qm 2 28] [2]
 .ret)
 .skip))
 (qS [qN 29 5 1,qx 30 15 [29],
  qo 5 (.alloc 25 [(Value.string ⟨#[]⟩), (Value.slice none 0 0), (Value.slice none 0 0), (Value.int IntKind.i64 0), (Value.slice none 0 0)]),qs 5 5 30] [1,5]
 (qS [qN 31 5 5,qx 32 15 [31],
  qo 6 (.alloc 25 [(Value.string ⟨#[]⟩), (Value.slice none 0 0), (Value.slice none 0 0), (Value.int IntKind.i64 0), (Value.slice none 0 0)]),qs 5 6 32] [1,5,6]
 (qS [qN 33 5 1,qx 34 13 [33],qm 7 34] [1,5,6,7]
 (qS [qN 35 5 5,qx 36 13 [35],qm 8 36] [1,5,6,7,8]
 (qS [qN 37 5 1,qN 38 5 5,qx 39 14 [37,38],qm 9 39] [1,5,6,7,8,9]
 (qS [qN 40 5 5,qN 41 5 1,qx 42 14 [40,41],qm 10 42] [1,5,6,7,8,9,10]
 (qS [qN 43 5 5,qN 44 5 6,qo 45 (.call 18 [(.tmp 43), (.tmp 44), (.const (Value.bool true))]),qm 11 45] [1,5,7,8,9,10,11]
 (qS [qN 46 5 1,qx 47 35 [46],qm 12 47] [1,5,7,8,9,10,11,12]
 (qS [qN 48 5 5,qx 49 35 [48],qm 13 49] [1,5,7,8,9,10,11,12,13]
 (qS [qm 50 12,qm 51 13,qx 52 37 [50,51],qm 14 52] [1,5,7,8,9,10,11,14]
 (.seq (qS [qm 53 7,qm 54 8,qb 55 .neq 53 54,qm 56 55,qu 56 (qm 57 9),qu 56 (qo 58 (.un .not (.tmp 57))),qr 59 56 58,qm 60 59,qu 60 (qm 61 10),
  qu 60 (qo 62 (.un .not (.tmp 61))),qr 63 60 62,qm 64 63,qu 64 (qm 65 11),qu 64 (qo 66 (.un .not (.tmp 65))),qr 67 64 66,qm 68 67,qu 68 (qm 69 14),
  qu 68 (qo 70 (.un .not (.tmp 69))),qr 71 68 70,qm 72 71,qu 72 (qf 73 4 5),qu 72 (ql 74 73),qu 72 (qL 75 74),qu 72 (qf 76 4 1),qu 72 (ql 77 76),
  qu 72 (qL 78 77),qu 72 (qb 79 .neq 75 78),qr 80 72 79] [1,5,80]
 (qC 80 (qS [qz 2 false] [2]
 .ret)
 .skip))
 (.seq (qS [qk 15 0] [1,5,15]
 (.block 0 (.loop (.seq (qS [qm 81 15,qf 82 4 1,ql 83 82,qL 84 83,qb 85 .lss 81 84] [1,5,15,85]
 (qC 85 .skip
 (.exit 0)))
 (.seq (.block 1 (qS [qf 88 4 1,ql 89 88,qm 90 15,qi 91 11 89 90,qN 92 11 91,qx 93 26 [92],qm 16 93] [1,5,15,16]
 (qS [qf 94 4 5,ql 95 94,qm 96 15,qi 97 11 95 96,qN 98 11 97,qx 99 26 [98],qm 17 99] [1,5,15,16,17]
 (qS [qf 100 4 1,ql 101 100,qm 102 15,qi 103 11 101 102,qN 104 11 103,qx 105 27 [104],qm 18 105] [1,5,15,16,17,18]
 (qS [qf 106 4 5,ql 107 106,qm 108 15,qi 109 11 107 108,qN 110 11 109,qx 111 27 [110],qm 19 111] [1,5,15,16,17,18,19]
 (qS [qm 112 16,qm 113 17,qb 114 .neq 112 113,qm 115 114,qu 115 (qm 116 18),qu 115 (qm 117 19),qu 115 (qb 118 .neq 116 117),
  qr 119 115 118] [1,5,15,119]
 (qC 119 (qS [qz 2 false] [2]
 .ret)
 .skip)))))))
 (.reg [qm 86 15,qc 87 .add 86 1,qm 15 87] [1,5,15]))))))
 (qS [qz 2 true] [2]
 .ret)))))))))))))))))⟩)
theorem n7 : F7.n = 120 := rfl
theorem low7 : lowF Tryz.prog (kpO F7) (assoc []) 7 = some F7 := by kernel_rfl
def F6 : FIR := laid (X := ⟨128, [.cell1 4],
 (qS [qB 2 48 0,qB 3 3 1,qo 4 (.alloc 4 [(Value.bool false)])] [2,3,4]
 (qS [qx 16 10 [],qm 5 16] [2,3,4,5]
 (qS [qN 17 11 2,qx 18 22 [17],qm 6 18] [2,3,4,5,6]
 (.seq (qS [qm 19 5,qo 20 (.un .not (.tmp 19)),qm 21 20,qu 21 (qm 22 6),qr 23 21 22] [2,3,4,5,23]
 (qC 23 (qS [qm 24 5,qs 1 4 24] [4]
 .ret)
 .skip))
 (qS [qN 25 11 2,qx 26 31 [25],qo 7 (.alloc 23 [(Value.slice none 0 0)]),qs 1 7 26] [2,3,4,7]
 (qS [qN 27 11 2,qx 28 39 [27],qo 8 (.alloc 59 [Value.nilFunc]),qs 1 8 28] [3,4,7,8]
 (.seq (qS [ql 29 8,qo 30 (.eqnil false .func (.tmp 29))] [3,4,7,8,30]
 (qC 30 (qS [⟨none,none,.store 1 (.tmp 4) (.const (Value.bool false))⟩] [4]
 .ret)
 .skip))
 (qS [qo 9 (.alloc 3 [(Value.int IntKind.i64 0)]),⟨none,none,.store 1 (.tmp 9) (.const (Value.int IntKind.i64 0))⟩] [3,4,7,8,9]
 (.seq (qS [ql 31 8] [3,4,7,8,9,31]
 (.block 0 (.rangef (.tmp 31) [32] (.reg [qo 10 (.alloc 48 [(Value.int IntKind.u8 0), (Value.string ⟨#[]⟩), (Value.int IntKind.u8 0), (Value.int IntKind.i64 0), (Value.int IntKind.u64 0), (Value.string ⟨#[]⟩), (Value.slice none 0 0), (Value.slice none 0 0), (Value.slice none 0 0), (Value.slice none 0 0), (Value.int IntKind.i64 0)]),
  qs 11 10 32] [3,4,7,8,9,10])
 (.block 1 (.seq (qS [ql 33 9,ql 34 7,qL 35 34,qb 36 .geq 33 35] [3,4,7,8,9,10,36]
 (qC 36 (qS [⟨none,none,.store 1 (.tmp 4) (.const (Value.bool false))⟩] [4]
 .ret)
 .skip))
 (.seq (qD [qN 37 11 10,ql 38 7,ql 39 9,qi 40 11 38 39,qN 41 11 40,qx 42 40 [37,41],qm 11 42] [[0,1,2,3,4,5,6]] [3,4,7,8,9,11])
 (.seq (qS [qm 43 11,qo 44 (.un .not (.tmp 43)),qm 45 44,qu 45 (ql 46 9),qu 45 (qc 47 .gtr 46 200),qr 48 45 47] [3,4,7,8,9,11,48]
 (qC 48 (qS [qm 49 11,qs 1 4 49] [4]
 .ret)
 .skip))
 (.seq (qS [ql 50 9,ql 51 3,qb 52 .eql 50 51] [3,4,7,8,9,52]
 (qC 52 (.exit 0)
 .skip))
 (qS [qo 12 (.alloc 3 [(Value.int IntKind.i64 0)]),⟨none,none,.store 1 (.tmp 12) (.const (Value.int IntKind.i64 0))⟩] [4,7,8,9,12]
 (.seq (qS [ql 53 8] [4,7,9,12,53]
 (.block 2 (.rangef (.tmp 53) [54] (.reg [qo 13 (.alloc 48 [(Value.int IntKind.u8 0), (Value.string ⟨#[]⟩), (Value.int IntKind.u8 0), (Value.int IntKind.i64 0), (Value.int IntKind.u64 0), (Value.string ⟨#[]⟩), (Value.slice none 0 0), (Value.slice none 0 0), (Value.slice none 0 0), (Value.slice none 0 0), (Value.int IntKind.i64 0)]),
  qs 11 13 54] [4,7,9,12,13])
 (.block 3 (.seq (qS [ql 55 12,qc 56 .gtr 55 20,qm 57 56,qu 57 (ql 58 9),qu 57 (qc 59 .gtr 58 2),qr 60 57 59] [4,7,9,12,13,60]
 (qC 60 (.exit 2)
 .skip))
 (.seq (.seq (qD [ql 61 12,ql 62 7,qL 63 62,qb 64 .geq 61 63,qm 65 64,qu 65 (qf 66 0 13),qu 65 (ql 67 66),qu 65 (ql 68 7),qu 65 (ql 69 12),
  qu 65 (qi 70 11 68 69),qu 65 (qf 71 0 70),qu 65 (ql 72 71),qu 65 (qb 73 .neq 67 72),qr 74 65 73,qm 75 74,qu 75 (qf 76 10 13),qu 75 (ql 77 76),
  qu 75 (ql 78 7),qu 75 (ql 79 12),qu 75 (qi 80 11 78 79),qu 75 (qf 81 10 80),qu 75 (ql 82 81),qu 75 (qb 83 .neq 77 82),qr 84 75 83] [[0,1,2,3,4,5,6,7,8,9,10,11,12,13,14,15,16,17,18,19,20,21,22,23]] [4,12,84])
 (qC 84 (qS [⟨none,none,.store 1 (.tmp 4) (.const (Value.bool false))⟩] [4]
 .ret)
 .skip))
 (.reg [ql 85 12,qc 86 .add 85 1,qs 1 12 86] [])))))))
 (.reg [ql 87 9,qc 88 .add 87 1,qs 1 9 88] [])))))))))))
 (qS [qo 14 (.alloc 3 [(Value.int IntKind.i64 0)]),⟨none,none,.store 1 (.tmp 14) (.const (Value.int IntKind.i64 0))⟩] [3,4,7,8,9,14]
 (.seq (qS [ql 89 8] [3,4,7,9,14,89]
 (.block 4 (.rangef (.tmp 89) [90] (.reg [qo 15 (.alloc 48 [(Value.int IntKind.u8 0), (Value.string ⟨#[]⟩), (Value.int IntKind.u8 0), (Value.int IntKind.i64 0), (Value.int IntKind.u64 0), (Value.string ⟨#[]⟩), (Value.slice none 0 0), (Value.slice none 0 0), (Value.slice none 0 0), (Value.slice none 0 0), (Value.int IntKind.i64 0)]),
  qs 11 15 90] [4,7,14,15])
 (.block 5 (.seq (.seq (qD [ql 91 14,qc 92 .gtr 91 200,qm 93 92,qu 93 (ql 94 14),qu 93 (ql 95 7),qu 93 (qL 96 95),qu 93 (qb 97 .geq 94 96),qr 98 93 97,qm 99 98,
  qu 99 (qf 100 0 15),qu 99 (ql 101 100),qu 99 (ql 102 7),qu 99 (ql 103 14),qu 99 (qi 104 11 102 103),qu 99 (qf 105 0 104),qu 99 (ql 106 105),
  qu 99 (qb 107 .neq 101 106),qr 108 99 107] [[0,1,2,3,4,5,6,7,8,9,10,11,12,13,14,15,16,17]] [4,14,108])
 (qC 108 (qS [ql 109 14,qc 110 .gtr 109 200,qs 1 4 110] [4]
 .ret)
 .skip))
 (.reg [ql 111 14,qc 112 .add 111 1,qs 1 14 112] []))))))
 (qS [ql 113 14,ql 114 7,qL 115 114,qb 116 .eql 113 115,qm 117 116,qt 117 (ql 118 9),qt 117 (ql 119 7),qt 117 (qL 120 119),
  qt 117 (qb 121 .eql 118 120),qt 117 (qm 122 121),qu 122 (ql 123 9),qu 122 (ql 124 3),qu 122 (qb 125 .eql 123 124),qt 117 (qr 126 122 125),
  qa 127 117 126,qs 1 4 127] [4]
 .ret))))))))))))⟩)
theorem n6 : F6.n = 128 := rfl
theorem low6 : lowF Tryz.prog (kpO F6) (assoc [(14,[[0,1,2,3,4,5,6]]), (22,[[0,1,2,3,4,5,6,7,8,9,10,11,12,13,14,15,16,17,18,19,20,21,22,23]]), (29,[[0,1,2,3,4,5,6,7,8,9,10,11,12,13,14,15,16,17]])]) 6 = some F6 := by kernel_rfl
def F31 : FIR := laid (X := ⟨5, [.tmp 2],
 (qS [qB 1 48 0,qo 2 (.mv (.const (Value.slice none 0 0)))] [1]
 (qS [qN 3 11 1,qo 4 (.call 78 [(.const (Value.slice none 0 0)), (.tmp 3)]),qm 2 4] [2]
 .ret))⟩)
theorem n31 : F31.n = 5 := rfl
theorem low31 : lowF Tryz.prog (kpO F31) (assoc []) 31 = some F31 := by kernel_rfl
def F78 : FIR := laid (X := ⟨25, [.tmp 4],
 (qS [qB 3 48 1,qo 4 (.mv (.const (Value.slice none 0 0)))] [0,3]
 (qS [qm 6 0,qN 7 11 3,
  qo 8 (.bslice 48 1 [(Value.int IntKind.u8 0), (Value.string ⟨#[]⟩), (Value.int IntKind.u8 0), (Value.int IntKind.i64 0), (Value.int IntKind.u64 0), (Value.string ⟨#[]⟩), (Value.slice none 0 0), (Value.slice none 0 0), (Value.slice none 0 0), (Value.slice none 0 0), (Value.int IntKind.i64 0)] [(0, 11, (.tmp 7))]),
  qo 9 (.append 48 11 168 [(Value.int IntKind.u8 0), (Value.string ⟨#[]⟩), (Value.int IntKind.u8 0), (Value.int IntKind.i64 0), (Value.int IntKind.u64 0), (Value.string ⟨#[]⟩), (Value.slice none 0 0), (Value.slice none 0 0), (Value.slice none 0 0), (Value.slice none 0 0), (Value.int IntKind.i64 0)] (.tmp 6) (.tmp 8)),
  qm 0 9] [0,3]
 (.seq (qS [qk 5 0] [0,3,5]
 (.block 0 (.loop (.seq (qS [qm 10 5,qf 11 9 3,ql 12 11,qL 13 12,qb 14 .lss 10 13] [0,3,5,14]
 (qC 14 .skip
 (.exit 0)))
 (.seq (.block 1 (.reg [qm 17 0,qf 18 9 3,ql 19 18,qm 20 5,qi 21 11 19 20,qN 22 11 21,qx 23 78 [17,22],qm 0 23] [0,3,5]))
 (.reg [qm 15 5,qc 16 .add 15 1,qm 5 16] [0,3,5]))))))
 (qS [qm 24 0,qm 4 24] [4]
 .ret))))⟩)
theorem n78 : F78.n = 25 := rfl
theorem low78 : lowF Tryz.prog (kpO F78) (assoc []) 78 = some F78 := by kernel_rfl
def F84 : FIR := laid (X := ⟨24, [.cellN 2 5],
 (qS [qB 1 46 0,
  qo 2 (.alloc 46 [(Value.int IntKind.u8 0), (Value.int IntKind.i64 0), (Value.int IntKind.u64 0), (Value.string ⟨#[]⟩), (Value.slice none 0 0)])] [1,2]
 (qS [qo 3 (.mv (.const (Value.slice none 0 0)))] [1,2,3]
 (.seq (qS [qk 4 0] [1,2,3,4]
 (.block 0 (.loop (.seq (qS [qm 5 4,qf 6 4 1,ql 7 6,qL 8 7,qb 9 .lss 5 8] [1,2,3,4,9]
 (qC 9 .skip
 (.exit 0)))
 (.seq (.block 1 (.reg [qm 12 3,qf 13 4 1,ql 14 13,qm 15 4,qi 16 5 14 15,qN 17 5 16,qx 18 84 [17],
  qo 19 (.bslice 46 1 [(Value.int IntKind.u8 0), (Value.int IntKind.i64 0), (Value.int IntKind.u64 0), (Value.string ⟨#[]⟩), (Value.slice none 0 0)] [(0, 5, (.tmp 18))]),
  qo 20 (.append 46 5 64 [(Value.int IntKind.u8 0), (Value.int IntKind.i64 0), (Value.int IntKind.u64 0), (Value.string ⟨#[]⟩), (Value.slice none 0 0)] (.tmp 12) (.tmp 19)),
  qm 3 20] [1,2,3,4]))
 (.reg [qm 10 4,qc 11 .add 10 1,qm 4 11] [1,2,3,4]))))))
 (qS [qm 21 3,qf 22 4 1,qs 1 22 21] [1,2]
 (qS [qN 23 5 1,qs 5 2 23] [2]
 .ret)))))⟩)
theorem n84 : F84.n = 24 := rfl
theorem low84 : lowF Tryz.prog (kpO F84) (assoc []) 84 = some F84 := by kernel_rfl
def F85 : FIR := laid (X := ⟨7, [.tmp 2],
 (qS [qo 2 (.mv (.const (Value.slice none 0 0)))] [0]
 (qS [qo 3 (.mv (.const (Value.slice none 0 0)))] [0,3]
 (qS [qm 4 3,qm 5 0,qo 6 (.append 9 1 16 [(Value.string ⟨#[]⟩)] (.tmp 4) (.tmp 5)),qm 2 6] [2]
 .ret)))⟩)
theorem n85 : F85.n = 7 := rfl
theorem low85 : lowF Tryz.prog (kpO F85) (assoc []) 85 = some F85 := by kernel_rfl
def F41 : FIR := laid (X := ⟨38, [.cellN 2 11],
 (qS [qB 1 48 0,
  qo 2 (.alloc 48 [(Value.int IntKind.u8 0), (Value.string ⟨#[]⟩), (Value.int IntKind.u8 0), (Value.int IntKind.i64 0), (Value.int IntKind.u64 0), (Value.string ⟨#[]⟩), (Value.slice none 0 0), (Value.slice none 0 0), (Value.slice none 0 0), (Value.slice none 0 0), (Value.int IntKind.i64 0)])] [1,2]
 (qS [qo 3 (.mv (.const (Value.slice none 0 0)))] [1,2,3]
 (.seq (qS [qk 4 0] [1,2,3,4]
 (.block 0 (.loop (.seq (qS [qm 5 4,qf 6 9 1,ql 7 6,qL 8 7,qb 9 .lss 5 8] [1,2,3,4,9]
 (qC 9 .skip
 (.exit 0)))
 (.seq (.block 1 (.reg [qm 12 3,qf 13 9 1,ql 14 13,qm 15 4,qi 16 11 14 15,qN 17 11 16,qx 18 41 [17],
  qo 19 (.bslice 48 1 [(Value.int IntKind.u8 0), (Value.string ⟨#[]⟩), (Value.int IntKind.u8 0), (Value.int IntKind.i64 0), (Value.int IntKind.u64 0), (Value.string ⟨#[]⟩), (Value.slice none 0 0), (Value.slice none 0 0), (Value.slice none 0 0), (Value.slice none 0 0), (Value.int IntKind.i64 0)] [(0, 11, (.tmp 18))]),
  qo 20 (.append 48 11 168 [(Value.int IntKind.u8 0), (Value.string ⟨#[]⟩), (Value.int IntKind.u8 0), (Value.int IntKind.i64 0), (Value.int IntKind.u64 0), (Value.string ⟨#[]⟩), (Value.slice none 0 0), (Value.slice none 0 0), (Value.slice none 0 0), (Value.slice none 0 0), (Value.int IntKind.i64 0)] (.tmp 12) (.tmp 19)),
  qm 3 20] [1,2,3,4]))
 (.reg [qm 10 4,qc 11 .add 10 1,qm 4 11] [1,2,3,4]))))))
 (.seq (.free [qf 21 0 1,ql 22 21,qf 23 1 1,ql 24 23,qf 25 2 1,qN 26 5 25,qx 27 84 [26],qf 28 7 1,ql 29 28,qx 30 85 [29],qf 31 8 1,ql 32 31,
  qx 33 85 [32],qm 34 3,qf 35 10 1,ql 36 35,
  qo 37 (.build [(Value.int IntKind.u8 0), (Value.string ⟨#[]⟩), (Value.int IntKind.u8 0), (Value.int IntKind.i64 0), (Value.int IntKind.u64 0), (Value.string ⟨#[]⟩), (Value.slice none 0 0), (Value.slice none 0 0), (Value.slice none 0 0), (Value.slice none 0 0), (Value.int IntKind.i64 0)] [(0, 1, (.tmp 22)), (1, 1, (.tmp 24)), (2, 5, (.tmp 27)), (7, 1, (.tmp 30)), (8, 1, (.tmp 33)), (9, 1, (.tmp 34)), (10, 1, (.tmp 36))]),
  qs 11 2 37] [[], [0], [], [2], [], [4], [4,5], [], [7], [5,4,6,7,8], [], [10], [8,7,6,4,5,9,10,11], [], [], [14], [14,15,13,11,10,12,8,7,9,5,4,6,2,3,0,1], [1,0,3,2,6,4,5,9,7,8,12,10,11,13,15,14,16]] [2])
 .ret))))⟩)
theorem n41 : F41.n = 38 := rfl
theorem low41 : lowF Tryz.prog (kpO F41) (assoc [(6,[])]) 41 = some F41 := by kernel_rfl
def F9 : FIR := laid (X := ⟨138, [.tmp 6],
 (qS [qB 3 48 0,qz 6 false] [1,2,3]
 (qS [qx 14 10 [],qm 7 14] [1,2,3,7]
 (qS [qN 15 11 3,qx 16 22 [15],qm 8 16] [1,2,3,7,8]
 (.seq (qS [qm 17 7,qo 18 (.un .not (.tmp 17)),qm 19 18,qu 19 (qm 20 8),qr 21 19 20] [1,2,3,7,21]
 (qC 21 (qS [qm 22 7,qm 6 22] [6]
 .ret)
 .skip))
 (qS [qN 23 11 3,qx 24 41 [23],
  qo 9 (.alloc 48 [(Value.int IntKind.u8 0), (Value.string ⟨#[]⟩), (Value.int IntKind.u8 0), (Value.int IntKind.i64 0), (Value.int IntKind.u64 0), (Value.string ⟨#[]⟩), (Value.slice none 0 0), (Value.slice none 0 0), (Value.slice none 0 0), (Value.slice none 0 0), (Value.int IntKind.i64 0)]),
  qs 11 9 24] [1,2,3,9]
 (qS [qm 10 9] [1,2,3,9,10]
 (.seq (qS [qk 11 0] [1,2,3,9,10,11]
 (.block 0 (.loop (.seq (qS [qm 25 11,qm 26 1,qL 27 26,qb 28 .lss 25 27,qm 29 28,qt 29 (qm 30 10),qt 29 (qn 31 30),qt 29 (qf 32 9 31),qt 29 (ql 33 32),
  qt 29 (qL 34 33),qt 29 (qc 35 .gtr 34 0),qa 36 29 35] [1,2,3,9,10,11,36]
 (qC 36 .skip
 (.exit 0)))
 (.seq (.block 1 (qD [qm 39 10,qn 40 39,qf 41 9 40,ql 42 41,qm 43 1,qm 44 11,qi 45 1 43 44,ql 46 45,qo 47 (.conv .i64 (.tmp 46)),qm 48 10,qn 49 48,
  qf 50 9 49,ql 51 50,qL 52 51,qb 53 .rem 47 52,qi 54 11 42 53,qm 10 54] [[0,1,2,3,4,5,6,7,8,9,10,11,12,13,14,15,16]] [1,2,3,9,10,11]))
 (.reg [qm 37 11,qc 38 .add 37 1,qm 11 38] [1,2,3,9,10,11]))))))
 (.seq (qS [qm 55 2,qc 56 .rem 55 6] [3,9,10,56]
 (.block 2 (qS [qc 69 .eql 56 0,qm 68 69] [3,9,10,56,68]
 (qC 68 (.reg [qm 70 10,qm 71 10,qn 72 71,qf 73 1 72,ql 74 73,qo 75 (.bin .add (.tmp 74) (.const (Value.string ⟨#[97]⟩))),qn 76 70,qf 77 1 76,
  qs 1 77 75] [3,9])
 (qS [qc 79 .eql 56 1,qm 78 79] [3,9,10,56,78]
 (qC 78 (.reg [qm 80 10,qm 81 10,qn 82 81,qf 83 0 82,ql 84 83,qo 85 (.bin .xor (.tmp 84) (.const (Value.int IntKind.u8 1))),qn 86 80,qf 87 0 86,
  qs 1 87 85] [3,9])
 (qS [qc 89 .eql 56 2,qm 88 89] [3,9,10,56,88]
 (qC 88 (.reg [qm 90 10,qm 91 10,qn 92 91,qf 93 2 92,qf 94 1 93,ql 95 94,qc 96 .xor 95 1,qn 97 90,qf 98 2 97,qf 99 1 98,qs 1 99 96] [3,9])
 (qS [qc 101 .eql 56 3,qm 100 101] [3,9,10,56,100]
 (qC 100 (.reg [qm 102 10,qm 103 10,qn 104 103,qf 105 7 104,ql 106 105,
  qo 107 (.bslice 9 1 [(Value.string ⟨#[]⟩)] [(0, 1, (.const (Value.string ⟨#[97]⟩)))]),
  qo 108 (.append 9 1 16 [(Value.string ⟨#[]⟩)] (.tmp 106) (.tmp 107)),qn 109 102,qf 110 7 109,qs 1 110 108] [3,9])
 (qS [qc 112 .eql 56 4,qm 111 112] [3,9,10,111]
 (qC 111 (qD [qm 113 10,qn 114 113,qf 115 2 114,qf 116 4 115,ql 117 116,
  qo 118 (.build [(Value.int IntKind.u8 0), (Value.int IntKind.i64 0), (Value.int IntKind.u64 0), (Value.string ⟨#[]⟩), (Value.slice none 0 0)] []),
  qL 119 117,
  qo 120 (.bslice 46 1 [(Value.int IntKind.u8 0), (Value.int IntKind.i64 0), (Value.int IntKind.u64 0), (Value.string ⟨#[]⟩), (Value.slice none 0 0)] [(0, 5, (.const (Value.agg #[(Value.int IntKind.u8 0), (Value.int IntKind.i64 0), (Value.int IntKind.u64 0), (Value.string ⟨#[]⟩), (Value.slice none 0 0)])))]),
  qo 121 (.append 46 5 64 [(Value.int IntKind.u8 0), (Value.int IntKind.i64 0), (Value.int IntKind.u64 0), (Value.string ⟨#[]⟩), (Value.slice none 0 0)] (.tmp 117) (.tmp 120)),
  qi 122 5 121 119,qs 5 122 118,qn 123 113,qf 124 2 123,qf 125 4 124,qs 1 125 121] [[0,1,2,3,4,5,6,7,8,9,10,11,12,13,14], [0,1,2,3,4,5,6,7,8,9,11,12,13,14,10]] [3,9])
 (qD [qm 57 10,qn 58 57,qf 59 9 58,ql 60 59,
  qo 61 (.build [(Value.int IntKind.u8 0), (Value.string ⟨#[]⟩), (Value.int IntKind.u8 0), (Value.int IntKind.i64 0), (Value.int IntKind.u64 0), (Value.string ⟨#[]⟩), (Value.slice none 0 0), (Value.slice none 0 0), (Value.slice none 0 0), (Value.slice none 0 0), (Value.int IntKind.i64 0)] []),
  qL 62 60,
  qo 63 (.bslice 48 1 [(Value.int IntKind.u8 0), (Value.string ⟨#[]⟩), (Value.int IntKind.u8 0), (Value.int IntKind.i64 0), (Value.int IntKind.u64 0), (Value.string ⟨#[]⟩), (Value.slice none 0 0), (Value.slice none 0 0), (Value.slice none 0 0), (Value.slice none 0 0), (Value.int IntKind.i64 0)] [(0, 11, (.const (Value.agg #[(Value.int IntKind.u8 0), (Value.string ⟨#[]⟩), (Value.int IntKind.u8 0), (Value.int IntKind.i64 0), (Value.int IntKind.u64 0), (Value.string ⟨#[]⟩), (Value.slice none 0 0), (Value.slice none 0 0), (Value.slice none 0 0), (Value.slice none 0 0), (Value.int IntKind.i64 0)])))]),
  qo 64 (.append 48 11 168 [(Value.int IntKind.u8 0), (Value.string ⟨#[]⟩), (Value.int IntKind.u8 0), (Value.int IntKind.i64 0), (Value.int IntKind.u64 0), (Value.string ⟨#[]⟩), (Value.slice none 0 0), (Value.slice none 0 0), (Value.slice none 0 0), (Value.slice none 0 0), (Value.int IntKind.i64 0)] (.tmp 60) (.tmp 63)),
  qi 65 11 64 62,qs 11 65 61,qn 66 57,qf 67 9 66,qs 1 67 64] [[0,1,2,3,4,5,6,7,8,9,10,11,12], [0,1,2,3,4,5,6,7,8,10,11,12,9]] [3,9])))))))))))))
 (qS [qN 126 11 3,qN 127 11 9,qx 128 28 [126,127],qm 12 128] [3,9,12]
 (qS [qN 129 11 9,qN 130 11 3,qx 131 28 [129,130],qm 13 131] [12,13]
 (qS [qm 132 12,qo 133 (.un .not (.tmp 132)),qm 134 133,qt 134 (qm 135 13),qt 134 (qo 136 (.un .not (.tmp 135))),qa 137 134 136,qm 6 137] [6]
 .ret)))))))))))⟩)
theorem n9 : F9.n = 138 := rfl
theorem low9 : lowF Tryz.prog (assoc [(0, [1,2,3]), (1, [1,2,3,7]), (2, [1,2,3,7,8]), (3, [1,2,3,7,21]), (4, [6]), (5, [1,2,3,9]), (6, [1,2,3,9,10]), (7, [1,2,3,9,10,11]), (8, [1,2,3,9,10,11,36]), (9, [1,2,3,9,10,11]), (10, [1,2,3,9,10,11]), (11, [3,9,10,56]), (12, [3,9]), (13, [3,9,10,56,68]), (14, [3,9]), (15, [3,9,10,56,78]), (16, [3,9]), (17, [3,9,10,56,88]), (18, [3,9]), (19, [3,9,10,56,100]), (20, [3,9]), (21, [3,9,10,111]), (22, [3,9]), (23, [3,9,12]), (24, [12,13]), (25, [6])]) (assoc [(10,[[0,1,2,3,4,5,6,7,8,9,10,11,12,13,14,15,16]]), (22,[[0,1,2,3,4,5,6,7,8,9,10,11,12,13,14], [0,1,2,3,4,5,6,7,8,9,11,12,13,14,10]]), (12,[[0,1,2,3,4,5,6,7,8,9,10,11,12], [0,1,2,3,4,5,6,7,8,10,11,12,9]])]) 9 = some F9 := by kernel_rfl
theorem CopyLit_spec (A : List Atom) : ∀ (N : Nat) (x : Lt), x.size ≤ N → x.size ≤ 274877906944 → ∀ vs, LtRd A x vs → Fun Tryz.prog 84 [.agg vs.toArray] [A] (fun v Post => ∃ ws B, v = .agg ws.toArray ∧ LtOwn x ws B ∧ Post = [A, B]) := by
  intro N
  induction N with
  | zero => intro x hx; have := x.size_pos; omega
  | succ N ih =>
    intro x hx hb vs h
    cases h with
    | @mk k n b t items a c bk o us wf ha hm hr =>
    simp only [Lt.size] at hx hb
    have hge := sizes_ge items
    refine Fun.intro low84 (by simp [n84]) ?_
    refine GOH ?_
    refine st_box (by rfl) (fun q => ?_)
    refine st_alloc (fun q2 => ?_)
    simp only [Value.cells]
    refine GOH ?_
    refine VC.loop (α := Nat × Value × List (List Value) × List Value × List Atom) (Γf := fun s => [(1, ptr0 q), (2, ptr0 q2), (3, s.2.1), (4, vi s.1)]) (Hf := fun s => [A, cellsAt q 0 [cv k, vi n, uv b, .string t, .slice a items.length c], cellsAt q2 0 [.int .u8 0, .int .i64 0, .int .u64 0, .string ⟨#[]⟩, .slice none 0 0], slA s.2.1 s.2.2.1.flatten s.2.2.2.1, s.2.2.2.2])
      (I := fun s => s.1 ≤ items.length ∧ IsSl 5 s.2.1 s.1 s.2.2.1.flatten s.2.2.2.1 ∧ LtRows (items.take s.1) s.2.2.1 s.2.2.2.2) (μ := fun s => items.length - s.1) (0, .slice none 0 0, [], [], []) ⟨Nat.zero_le _, .nil, LtRows.nil⟩ (by exact SUx) (Imp.cut (M := [A, cellsAt q 0 [cv k, vi n, uv b, .string t, .slice a items.length c], cellsAt q2 0 [.int .u8 0, .int .i64 0, .int .u64 0, .string ⟨#[]⟩, .slice none 0 0]]) (by exact IMx) (Imp.perm (by simp [slA]))) ?_
    rintro ⟨j, sv, rows, sp, K⟩ ⟨i1, i2, i3⟩
    simp only at i1 i2 i3
    dsimp only
    refine GOH ?_
    by_cases hj : j < items.length
    rotate_left
    · rw [show decide ((j : Int) < (items.length : Int)) = false from decide_eq_false (by omega)]
      have hjl : j = items.length := by omega
      subst hjl
      rw [List.take_length] at i3
      have hmade := LtOwn.of i2 i3 wf
      obtain ⟨a', c', rfl⟩ := i2.form
      refine GOH ?_
      exact ⟨.inr rfl, [.agg #[cv k, vi n, uv b, .string t, .slice a' items.length c']], [A, slA (.slice a' items.length c') rows.flatten sp ++ K], .cellN (us := [cv k, vi n, uv b, .string t, .slice a' items.length c']) (by rfl) (by rfl) (fun y hy => by simp only [List.flatten_cons, List.mem_append]; first | exact .inl hy | exact .inr (.inl hy) | exact .inr (.inr (.inl hy)) | exact .inr (.inr (.inr (.inl hy))) | exact .inr (.inr (.inr (.inr (.inl hy))))) .nil, Imp.cut (M := [A, slA (.slice a' items.length c') rows.flatten sp, K]) (by exact IMx) (Imp.perm (by simp)), ⟨_, _, rfl, hmade, rfl⟩⟩
    obtain rfl := ha (by omega)
    rw [show decide ((j : Int) < (items.length : Int)) = true from decide_eq_true (by omega)]
    obtain ⟨y, hy⟩ : ∃ y, items[j]? = some y := ⟨_, List.getElem?_eq_getElem hj⟩
    have hym := hm j hj
    have hyr := hr j y hy
    have h1 := Lt.sizes_mem (List.mem_of_getElem? hy)
    have hcall := ih y (by omega) (by omega) _ hyr
    generalize us j = uj at *
    obtain ⟨e1, c1, rfl⟩ := lt_open hyr
    refine GOH ?_
    refine st_loadA (by rfl) (fun z hz => List.mem_append_left _ (hym z hz)) rfl ?_
    refine GOH ?_
    refine st_call hcall (by rfl) (by exact SPx) (fun v Post hv => ?_)
    obtain ⟨ws, B2, rfl, hw, rfl⟩ := hv
    simp only [CNx]
    have hwl := hw.rd.len
    have hws := hw.rd
    obtain ⟨e2, c2, rfl⟩ := lt_open hws
    refine st_bslice (out := [cv y.kind, vi y.n, uv y.bits, .string y.text, .slice e2 y.items.length c2]) (by rfl) (by rfl) (fun r => ?_)
    refine st_append (k := j) (m := 1) (xs := rows.flatten) (sp := sp) (ys := [cv y.kind, vi y.n, uv y.bits, .string y.text, .slice e2 y.items.length c2]) (by rfl) (by rfl) i2 (by exact TKx) (by rfl) ?_ rfl (by rfl) (by rfl) (by decide) (by omega) (fun sv' sp' hsl' => ?_)
    · exact ⟨rfl, fun a ha => by simp only [List.flatten_cons, List.mem_append]; exact .inl ha⟩
    have hfl : rows.flatten ++ [cv y.kind, vi y.n, uv y.bits, .string y.text, .slice e2 y.items.length c2] = (rows ++ [[cv y.kind, vi y.n, uv y.bits, .string y.text, .slice e2 y.items.length c2]]).flatten := by simp
    rw [hfl] at hsl' ⊢
    have hsn := i3.snoc hw
    rw [show items.take j ++ [y] = items.take (j + 1) by rw [List.take_add_one, hy]; rfl] at hsn
    refine GOH ?_
    refine ⟨(j + 1, sv', rows ++ [[cv y.kind, vi y.n, uv y.bits, .string y.text, .slice e2 y.items.length c2]], sp', K ++ B2), ⟨by simp only; omega, hsl', hsn⟩, by simp only; omega, by exact SUx, ?_⟩
    simp only
    refine Imp.cut (M := [A, cellsAt q 0 [cv k, vi n, uv b, .string t, .slice (some ⟨bk, o, none⟩) items.length c], cellsAt q2 0 [.int .u8 0, .int .i64 0, .int .u64 0, .string ⟨#[]⟩, .slice none 0 0], slA sv' (rows ++ [[cv y.kind, vi y.n, uv y.bits, .string y.text, .slice e2 y.items.length c2]]).flatten sp', K, B2]) (by exact IMx) (Imp.perm (by simp))
theorem copyTexts_spec (A : List Atom) (av : Value) (l : List ByteArray) (h : RdT A av l) : Fun Tryz.prog 85 [av] [A] (fun v Post => ∃ B, TxOwn v l B ∧ Post = [A, B]) := by
  obtain ⟨a, c, rfl, hl, hr⟩ := h
  refine Fun.intro low85 (by simp [n85]) ?_
  have hsz : ∀ t ∈ l, t.size ≤ 140737488355328 := fun t ht => by
    obtain ⟨i, hi⟩ := List.getElem?_of_mem ht
    obtain ⟨_, _, _, _, h⟩ := hr i t hi
    exact h
  refine GOH ?_
  cases hl0 : l with
  | nil =>
    subst hl0
    refine st_appendN (by rfl) (by rfl) ?_
    refine GOH ?_
    exact endQ_mk (Post := [A, []]) (.inr rfl) (.tmp (by rfl) .nil) ⟨[], ⟨[], .nil, rfl, by simp, by simp⟩, rfl⟩ (Imp.cut (M := [A]) (by exact IMx) (Imp.perm (by simp)))
  | cons t l' =>
    rw [← hl0]
    obtain ⟨b, o, had, _⟩ := hr 0 t (by rw [hl0]; rfl)
    cases had
    have hsrc : Src ([A] : SH).flatten 1 l.length (l.map Value.string) (.slice (some ⟨b, o, none⟩) l.length c) := by
      refine ⟨by simp, fun x hx => ?_⟩
      obtain ⟨i, v, hi, rfl⟩ := mem_cellsAt.1 hx
      rw [List.getElem?_map] at hi
      obtain ⟨u, hu, rfl⟩ := Option.map_eq_some_iff.1 hi
      obtain ⟨b2, o2, h1, h2, _⟩ := hr i u hu
      cases h1
      simpa using h2
    refine VO.imp (H' := [slA (.slice none 0 0) [] [], A]) (Imp.perm (by simp [slA])) ?_
    refine st_append (k := 0) (m := l.length) (xs := []) (sp := []) (ys := l.map Value.string) (by rfl) (by rfl) .nil (by exact TKx) (by rfl) hsrc (by simp) (by simp [List.all_eq_true, oneCell]) (by rfl) (by decide) (by omega) (fun sv' sp' hsl' => ?_)
    rw [List.nil_append, Nat.zero_add] at *
    obtain ⟨a', c', rfl⟩ := hsl'.form
    refine GOH ?_
    exact endQ_mk (Post := [A, slA (.slice a' l.length c') (l.map Value.string) sp']) (.inr rfl) (.tmp (by rfl) .nil) ⟨_, ⟨_, hsl', rfl, hl, hsz⟩, rfl⟩ (by exact IMx)
end Go.Proofs.YtmnmandpdadedaaGreatDoor

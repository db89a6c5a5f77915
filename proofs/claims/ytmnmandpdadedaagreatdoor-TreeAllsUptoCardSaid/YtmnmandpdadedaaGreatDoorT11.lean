/-
  Weights: of texts, literals, nodes.
-/
import Derived.Test.YtmnmandpdadedaaGreatDoorT10
import Derived.Test.YtmnmandpdadedaaGreatDoorV16
import Derived.Test.YtmnmandpdadedaaGreatDoorV15
import Derived.Test.YtmnmandpdadedaaGreatDoorT9
import Derived.KernelRfl
import Derived.Test.YtmnmandpdadedaaGreatDoorProg
set_option linter.unusedSimpArgs false
set_option linter.unusedVariables false
namespace Go.Proofs.YtmnmandpdadedaaGreatDoor
open Go Go.V
set_option maxHeartbeats 3200000
set_option maxRecDepth 100000
def wB (s : Int) : Int := max s 262144 + 140737488355329
theorem weighTexts_spec (A : List Atom) (av : Value) (l : List ByteArray) (h : RdT A av l) (s : Int) (hs : 0 ≤ s ∧ s ≤ 2305843009213693952) : Fun Tryz.prog 86 [av, vi s] [A] (fun v Post => ∃ r, v = vi r ∧ 0 ≤ r ∧ r ≤ wB s ∧ Post = [A]) := by
  obtain ⟨a, c, rfl, hl, hr⟩ := h
  refine Fun.intro low86 (by simp [n86]) ?_
  refine GOH ?_
  refine VC.loop (α := Nat × Int) (Γf := fun z => [(0, .slice a l.length c), (1, vi z.2), (5, vi z.1)]) (Hf := fun _ => [A])
    (I := fun z => z.1 ≤ l.length ∧ 0 ≤ z.2 ∧ z.2 ≤ wB s) (μ := fun z => l.length - z.1) (0, s) ⟨Nat.zero_le _, hs.1, by unfold wB; omega⟩ (by exact SUx) (by exact IMx) ?_
  rintro ⟨j, r⟩ ⟨i1, i2, i3⟩
  simp only at i1 i2 i3
  dsimp only
  unfold wB at i3
  refine GOH ?_
  by_cases hj : j < l.length
  rotate_left
  · rw [show decide ((j : Int) < (l.length : Int)) = false from decide_eq_false (by omega)]
    refine GOH ?_
    exact endQ_mk (Post := [A]) (.inr rfl) (.tmp (by rfl) .nil) ⟨r, rfl, i2, by unfold wB; omega, rfl⟩ (by exact IMx)
  rw [show decide ((j : Int) < (l.length : Int)) = true from decide_eq_true (by omega)]
  refine GOH ?_
  by_cases hr2 : r ≤ 262144
  rotate_left
  · rw [decide_eq_false hr2]
    refine GOH ?_
    exact endQ_mk (Post := [A]) (.inr rfl) (.tmp (by rfl) .nil) ⟨r, rfl, i2, by unfold wB; omega, rfl⟩ (by exact IMx)
  rw [decide_eq_true hr2]
  obtain ⟨x, hx⟩ : ∃ x, l[j]? = some x := ⟨_, List.getElem?_eq_getElem hj⟩
  obtain ⟨b1, o1, rfl, hc1, hs1⟩ := hr j x hx
  refine GOH ?_
  refine ⟨(j + 1, r + 1 + x.size), ⟨by simp only; omega, by simp only; omega, by simp only; unfold wB; omega⟩, by simp only; omega, by exact SUx, by exact IMx⟩
theorem weighLit_spec (A : List Atom) : ∀ (N : Nat) (x : Lt), x.size ≤ N → ∀ vs, LtRd A x vs → ∀ (s d : Int), 0 ≤ s → s ≤ 2305843009213693952 → 0 ≤ d → d ≤ 60001 → Fun Tryz.prog 111 [.agg vs.toArray, vi s, vi d] [A] (fun v Post => ∃ r, v = vi r ∧ 0 ≤ r ∧ r ≤ wB s ∧ Post = [A]) := by
  intro N
  induction N with
  | zero => intro x hx; have := x.size_pos; omega
  | succ N ih =>
    intro x hx vs h s d hs1 hs2 hd1 hd2
    cases h with
    | @mk k n b t items a c bk o us wf ha hm hr =>
    have hmany := wf.many
    have htx := wf.text
    refine Fun.intro low111 (by simp [n111]) ?_
    refine GOH ?_
    refine st_box (by rfl) (fun q => ?_)
    simp only [Value.cells]
    refine GOH ?_
    by_cases hd : d > 60000
    · rw [decide_eq_true hd]
      refine GOH ?_
      exact endQ_mk (Post := [A]) (.inr rfl) (.tmp (by rfl) .nil) ⟨262145, rfl, by omega, by unfold wB; omega, rfl⟩ (by exact IMx)
    rw [decide_eq_false hd]
    refine GOH ?_
    refine VC.loop (α := Nat × Int) (Γf := fun z => [(1, vi z.2), (2, vi d), (3, ptr0 q), (7, vi z.1)]) (Hf := fun _ => [A, cellsAt q 0 [cv k, vi n, uv b, .string t, .slice a items.length c]])
      (I := fun z => z.1 ≤ items.length ∧ 0 ≤ z.2 ∧ z.2 ≤ wB s) (μ := fun z => items.length - z.1) (0, s + 1 + t.size) ⟨Nat.zero_le _, by simp only; omega, by simp only; unfold wB; omega⟩ (by exact SUx) (by exact IMx) ?_
    rintro ⟨j, r⟩ ⟨i1, i2, i3⟩
    simp only at i1 i2 i3
    dsimp only
    unfold wB at i3
    refine GOH ?_
    by_cases hj : j < items.length
    rotate_left
    · rw [show decide ((j : Int) < (items.length : Int)) = false from decide_eq_false (by omega)]
      refine GOH ?_
      exact endQ_mk (Post := [A]) (.inr rfl) (.tmp (by rfl) .nil) ⟨r, rfl, i2, by unfold wB; omega, rfl⟩ (by exact IMx)
    rw [show decide ((j : Int) < (items.length : Int)) = true from decide_eq_true (by omega)]
    refine GOH ?_
    by_cases hr2 : r ≤ 262144
    rotate_left
    · rw [decide_eq_false hr2]
      refine GOH ?_
      exact endQ_mk (Post := [A]) (.inr rfl) (.tmp (by rfl) .nil) ⟨r, rfl, i2, by unfold wB; omega, rfl⟩ (by exact IMx)
    rw [decide_eq_true hr2]
    obtain rfl := ha (by omega)
    obtain ⟨y, hy⟩ : ∃ y, items[j]? = some y := ⟨_, List.getElem?_eq_getElem hj⟩
    have hym := hm j hj
    have hyr := hr j y hy
    have hyl := hyr.len
    have h1 := Lt.sizes_mem (List.mem_of_getElem? hy)
    simp only [Lt.size] at hx
    have hcall := ih y (by omega) _ hyr r (d + 1) i2 (by omega) (by omega) (by omega)
    refine GOH ?_
    refine st_loadA (by rfl) (fun z hz => List.mem_append_left _ (hym z hz)) hyl ?_
    refine GOH ?_
    refine st_call hcall (by rfl) (by exact SPx) (fun v Post hv => ?_)
    obtain ⟨r', rfl, h2, h3, rfl⟩ := hv
    unfold wB at h3
    simp only [CNx]
    refine GOH ?_
    refine ⟨(j + 1, r'), ⟨by simp only; omega, by simp only; omega, by simp only; unfold wB; omega⟩, by simp only; omega, by exact SUx, by exact IMx⟩
def wN (s : Int) : Int := max s 262144 + 562949953421316
theorem weighNode_spec (A : List Atom) : ∀ (N : Nat) (x : Nd), x.w ≤ N → ∀ vs, NdRd A x vs → ∀ (s d : Int), 0 ≤ s → s ≤ 1152921504606846976 → 0 ≤ d → d ≤ 60001 → Fun Tryz.prog 70 [.agg vs.toArray, vi s, vi d] [A] (fun v Post => ∃ r, v = vi r ∧ 0 ≤ r ∧ r ≤ wN s ∧ Post = [A]) := by
  intro N
  induction N with
  | zero => intro x hx; have := x.w_pos; omega
  | succ N ih =>
    intro x hx vs h s d hs1 hs2 hd1 hd2
    cases h with
    | @mk k nm lit args temps kids p lv av tv a c bk o us wf hl hav htv ha hm hr hcp =>
    have hmany := wf.many
    have hnm := wf.name
    have hlit := fun s hs1 hs2 => weighLit_spec A _ lit (Nat.le_refl _) lv hl s 0 hs1 hs2 (by omega) (by omega)
    have hat := fun s hs => weighTexts_spec A av args hav s hs
    have htt := fun s hs => weighTexts_spec A tv temps htv s hs
    obtain ⟨aa, ac, rfl, _, _⟩ := hav
    obtain ⟨ta, tc, rfl, _, _⟩ := htv
    obtain ⟨la, lc, rfl⟩ := lt_open hl
    refine Fun.intro low70 (by simp [n70]) ?_
    simp only [CNx]
    refine GOH ?_
    refine st_box (by rfl) (fun q => ?_)
    simp only [Value.cells]
    refine GOH ?_
    refine st_call (hlit (s + 1 + nm.size) (by omega) (by omega)) (by rfl) (by exact SPx) (fun v Post hv => ?_)
    obtain ⟨r1, rfl, h1, h2, rfl⟩ := hv
    unfold wB at h2
    simp only [CNx]
    refine GOH ?_
    refine st_call (hat r1 (by omega)) (by rfl) (by exact SPx) (fun v Post hv => ?_)
    obtain ⟨r2, rfl, h3, h4, rfl⟩ := hv
    unfold wB at h4
    simp only [CNx]
    refine GOH ?_
    refine st_call (htt r2 (by omega)) (by rfl) (by exact SPx) (fun v Post hv => ?_)
    obtain ⟨r3, rfl, h5, h6, rfl⟩ := hv
    unfold wB at h6
    simp only [CNx]
    have h7 : r3 ≤ wN s := by unfold wN; omega
    clear h2 h4 h6
    refine GOH ?_
    by_cases hd : d > 60000
    · rw [decide_eq_true hd]
      refine GOH ?_
      exact endQ_mk (Post := [A]) (.inr rfl) (.tmp (by rfl) .nil) ⟨262145, rfl, by omega, by unfold wN; omega, rfl⟩ (by exact IMx)
    rw [decide_eq_false hd]
    refine GOH ?_
    refine VC.loop (α := Nat × Int) (Γf := fun z => [(1, vi z.2), (2, vi d), (3, ptr0 q), (7, vi z.1)]) (Hf := fun _ => [A, cellsAt q 0 [cv k, .string nm, cv lit.kind, vi lit.n, uv lit.bits, .string lit.text, .slice la lit.items.length lc, .slice aa args.length ac, .slice ta temps.length tc, .slice a kids.length c, vi p]])
      (I := fun z => z.1 ≤ kids.length ∧ 0 ≤ z.2 ∧ z.2 ≤ wN s) (μ := fun z => kids.length - z.1) (0, r3) ⟨Nat.zero_le _, h5, h7⟩ (by exact SUx) (by exact IMx) ?_
    rintro ⟨j, r⟩ ⟨i1, i2, i3⟩
    simp only at i1 i2 i3
    dsimp only
    unfold wN at i3
    refine GOH ?_
    by_cases hj : j < kids.length
    rotate_left
    · rw [show decide ((j : Int) < (kids.length : Int)) = false from decide_eq_false (by omega)]
      refine GOH ?_
      exact endQ_mk (Post := [A]) (.inr rfl) (.tmp (by rfl) .nil) ⟨r, rfl, i2, by unfold wN; omega, rfl⟩ (by exact IMx)
    rw [show decide ((j : Int) < (kids.length : Int)) = true from decide_eq_true (by omega)]
    refine GOH ?_
    by_cases hr2 : r ≤ 262144
    rotate_left
    · rw [decide_eq_false hr2]
      refine GOH ?_
      exact endQ_mk (Post := [A]) (.inr rfl) (.tmp (by rfl) .nil) ⟨r, rfl, i2, by unfold wN; omega, rfl⟩ (by exact IMx)
    rw [decide_eq_true hr2]
    obtain rfl := ha (by omega)
    obtain ⟨y, hy⟩ : ∃ y, kids[j]? = some y := ⟨_, List.getElem?_eq_getElem hj⟩
    have hym := hm j hj
    have hyr := hr j y hy
    have hyl := hyr.len
    have h1 := Nd.ws_mem (List.mem_of_getElem? hy)
    simp only [Nd.w] at hx
    have hcall := ih y (by omega) _ hyr r (d + 1) i2 (by omega) (by omega) (by omega)
    refine GOH ?_
    refine st_loadA (by rfl) (fun z hz => List.mem_append_left _ (hym z hz)) hyl ?_
    refine GOH ?_
    refine st_call hcall (by rfl) (by exact SPx) (fun v Post hv => ?_)
    obtain ⟨r', rfl, h2, h3, rfl⟩ := hv
    unfold wN at h3
    simp only [CNx]
    refine GOH ?_
    refine ⟨(j + 1, r'), ⟨by simp only; omega, by simp only; omega, by simp only; unfold wN; omega⟩, by simp only; omega, by exact SUx, by exact IMx⟩
theorem farNode_spec (A : List Atom) (x : Nd) (vs : List Value) (h : NdRd A x vs) : Fun Tryz.prog 22 [.agg vs.toArray] [A] (fun v Post => ∃ b, v = .bool b ∧ Post = [A]) := by
  have hw := weighNode_spec A _ x (Nat.le_refl _) vs h 0 0 (by omega) (by omega) (by omega) (by omega)
  obtain ⟨e1, e2, e3, e4, e5, e6, e7, e8, e9, e10, e11, e12, e13, e14, e15, e16, e17, rfl, _, _⟩ := nd_open2 h
  refine Fun.intro low22 (by simp [n22]) ?_
  refine GOH ?_
  refine st_box (by rfl) (fun q => ?_)
  simp only [Value.cells]
  refine GOH ?_
  refine st_call hw (by rfl) (by exact SPx) (fun v Post hv => ?_)
  obtain ⟨r, rfl, h1, h2, rfl⟩ := hv
  simp only [CNx]
  refine GOH ?_
  exact endQ_mk (Post := [A]) (.inr rfl) (.tmp (by rfl) .nil) ⟨_, rfl, rfl⟩ (by exact IMx)
def F117 : FIR := laid (X := ⟨62, [.tmp 4],
 (qS [qB 2 46 0,qB 3 46 1,qz 4 false] [2,3]
 (.seq (qS [qf 7 0 2,ql 8 7,qf 9 0 3,ql 10 9,qb 11 .neq 8 10,qm 12 11,qu 12 (qf 13 1 2),qu 12 (ql 14 13),qu 12 (qf 15 1 3),qu 12 (ql 16 15),
  qu 12 (qb 17 .neq 14 16),qr 18 12 17,qm 19 18,qu 19 (qf 20 2 2),qu 19 (ql 21 20),qu 19 (qf 22 2 3),qu 19 (ql 23 22),qu 19 (qb 24 .neq 21 23),
  qr 25 19 24,qm 26 25,qu 26 (qf 27 3 2),qu 26 (ql 28 27),qu 26 (qf 29 3 3),qu 26 (ql 30 29),qu 26 (qb 31 .neq 28 30),qr 32 26 31,qm 33 32,
  qu 33 (qf 34 4 2),qu 33 (ql 35 34),qu 33 (qL 36 35),qu 33 (qf 37 4 3),qu 33 (ql 38 37),qu 33 (qL 39 38),qu 33 (qb 40 .neq 36 39),qr 41 33 40] [2,3,41]
 (qC 41 (qS [qz 4 false] [4]
 .ret)
 .skip))
 (.seq (qS [qk 5 0] [2,3,5]
 (.block 0 (.loop (.seq (qS [qm 42 5,qf 43 4 2,ql 44 43,qL 45 44,qb 46 .lss 42 45] [2,3,5,46]
 (qC 46 .skip
 (.exit 0)))
 (.seq (.block 1 (.seq (qD [qf 49 4 2,ql 50 49,qm 51 5,qi 52 5 50 51,qN 53 5 52,qf 54 4 3,ql 55 54,qm 56 5,qi 57 5 55 56,qN 58 5 57,qx 59 117 [53,58],qm 6 59] [[0,1,2,3,4,5,6,7,8,9,10,11]] [2,3,5,6])
 (qS [qm 60 6,qo 61 (.un .not (.tmp 60))] [2,3,5,61]
 (qC 61 (qS [qz 4 false] [4]
 .ret)
 .skip))))
 (.reg [qm 47 5,qc 48 .add 47 1,qm 5 48] [2,3,5]))))))
 (qS [qz 4 true] [4]
 .ret))))⟩)
theorem n117 : F117.n = 62 := rfl
theorem low117 : lowF Tryz.prog (kpO F117) (assoc [(6,[[0,1,2,3,4,5,6,7,8,9,10,11]])]) 117 = some F117 := by kernel_rfl
def F37 : FIR := laid (X := ⟨26, [.tmp 4],
 (qS [qz 4 false] [0,1]
 (.seq (qS [qm 6 0,qL 7 6,qm 8 1,qL 9 8,qb 10 .neq 7 9] [0,1,10]
 (qC 10 (qS [qz 4 false] [4]
 .ret)
 .skip))
 (.seq (qS [qk 5 0] [0,1,5]
 (.block 0 (.loop (.seq (qS [qm 11 5,qm 12 0,qL 13 12,qb 14 .lss 11 13] [0,1,5,14]
 (qC 14 .skip
 (.exit 0)))
 (.seq (.block 1 (.seq (qD [qm 17 0,qm 18 5,qi 19 1 17 18,ql 20 19,qm 21 1,qm 22 5,qi 23 1 21 22,ql 24 23,qb 25 .neq 20 24] [[0,1,2,3,4,5,6,7,8]] [0,1,5,25])
 (qC 25 (qS [qz 4 false] [4]
 .ret)
 .skip)))
 (.reg [qm 15 5,qc 16 .add 15 1,qm 5 16] [0,1,5]))))))
 (qS [qz 4 true] [4]
 .ret))))⟩)
theorem n37 : F37.n = 26 := rfl
theorem low37 : lowF Tryz.prog (kpO F37) (assoc [(6,[[0,1,2,3,4,5,6,7,8]])]) 37 = some F37 := by kernel_rfl
def F77 : FIR := laid (X := ⟨53, [.tmp 4],
 (qS [qB 2 48 0,qB 3 48 1,qz 4 false] [2,3]
 (qS [qf 8 2 2,qN 9 5 8,qf 10 2 3,qN 11 5 10,qx 12 117 [9,11],qm 5 12] [2,3,5]
 (qS [qf 13 7 2,ql 14 13,qf 15 7 3,ql 16 15,qx 17 37 [14,16],qm 6 17] [2,3,5,6]
 (qS [qf 18 8 2,ql 19 18,qf 20 8 3,ql 21 20,qx 22 37 [19,21],qm 7 22] [2,3,5,6,7]
 (qS [qm 23 5,qm 24 23,qt 24 (qm 25 6),qa 26 24 25,qm 27 26,qt 27 (qm 28 7),qa 29 27 28,qm 30 29,qt 30 (qf 31 0 2),qt 30 (ql 32 31),
  qt 30 (qf 33 0 3),qt 30 (ql 34 33),qt 30 (qb 35 .eql 32 34),qa 36 30 35,qm 37 36,qt 37 (qf 38 1 2),qt 37 (ql 39 38),qt 37 (qf 40 1 3),qt 37 (ql 41 40),
  qt 37 (qb 42 .eql 39 41),qa 43 37 42,qm 44 43,qt 44 (qf 45 9 2),qt 44 (ql 46 45),qt 44 (qL 47 46),qt 44 (qf 48 9 3),qt 44 (ql 49 48),qt 44 (qL 50 49),
  qt 44 (qb 51 .eql 47 50),qa 52 44 51,qm 4 52] [4]
 .ret)))))⟩)
theorem n77 : F77.n = 53 := rfl
theorem low77 : lowF Tryz.prog (kpO F77) (assoc []) 77 = some F77 := by kernel_rfl
def F30 : FIR := laid (X := ⟨32, [.tmp 4],
 (qS [qB 2 48 0,qB 3 48 1,qz 4 false] [2,3]
 (qS [qN 7 11 2,qN 8 11 3,qx 9 77 [7,8],qm 5 9] [2,3,5]
 (.seq (qS [qk 6 0] [2,3,5,6]
 (.block 0 (.loop (.seq (qS [qm 10 6,qf 11 9 2,ql 12 11,qL 13 12,qb 14 .lss 10 13,qm 15 14,qt 15 (qm 16 5),qa 17 15 16] [2,3,5,6,17]
 (qC 17 .skip
 (.exit 0)))
 (.seq (.block 1 (qD [qf 20 9 2,ql 21 20,qm 22 6,qi 23 11 21 22,qN 24 11 23,qf 25 9 3,ql 26 25,qm 27 6,qi 28 11 26 27,qN 29 11 28,qx 30 30 [24,29],
  qm 5 30] [[0,1,2,3,4,5,6,7,8,9,10,11]] [2,3,5,6]))
 (.reg [qm 18 6,qc 19 .add 18 1,qm 6 19] [2,3,5,6]))))))
 (qS [qm 31 5,qm 4 31] [4]
 .ret))))⟩)
theorem n30 : F30.n = 32 := rfl
theorem low30 : lowF Tryz.prog (kpO F30) (assoc [(5,[[0,1,2,3,4,5,6,7,8,9,10,11]])]) 30 = some F30 := by kernel_rfl
def F40 : FIR := laid (X := ⟨40, [.tmp 4],
 (qS [qB 2 48 0,qB 3 48 1,qz 4 false] [2,3]
 (qS [qN 8 11 2,qN 9 11 3,qx 10 77 [8,9],qm 5 10] [2,3,5]
 (.seq (qS [qm 11 5,qo 12 (.un .not (.tmp 11)),qm 13 12,qu 13 (qf 14 10 2),qu 13 (ql 15 14),qu 13 (qf 16 10 3),qu 13 (ql 17 16),
  qu 13 (qb 18 .neq 15 17),qr 19 13 18] [2,3,19]
 (qC 19 (qS [qz 4 false] [4]
 .ret)
 .skip))
 (.seq (qS [qk 6 0] [2,3,6]
 (.block 0 (.loop (.seq (qS [qm 20 6,qf 21 9 2,ql 22 21,qL 23 22,qb 24 .lss 20 23] [2,3,6,24]
 (qC 24 .skip
 (.exit 0)))
 (.seq (.block 1 (.seq (qD [qf 27 9 2,ql 28 27,qm 29 6,qi 30 11 28 29,qN 31 11 30,qf 32 9 3,ql 33 32,qm 34 6,qi 35 11 33 34,qN 36 11 35,qx 37 40 [31,36],
  qm 7 37] [[0,1,2,3,4,5,6,7,8,9,10,11]] [2,3,6,7])
 (qS [qm 38 7,qo 39 (.un .not (.tmp 38))] [2,3,6,39]
 (qC 39 (qS [qz 4 false] [4]
 .ret)
 .skip))))
 (.reg [qm 25 6,qc 26 .add 25 1,qm 6 26] [2,3,6]))))))
 (qS [qz 4 true] [4]
 .ret)))))⟩)
theorem n40 : F40.n = 40 := rfl
theorem low40 : lowF Tryz.prog (kpO F40) (assoc [(7,[[0,1,2,3,4,5,6,7,8,9,10,11]])]) 40 = some F40 := by kernel_rfl
def F18 : FIR := laid (X := ⟨82, [.tmp 6],
 (qS [qB 3 25 0,qB 4 25 1,qz 6 false] [2,3,4]
 (qS [qf 11 1 3,ql 12 11,qf 13 1 4,ql 14 13,qx 15 37 [12,14],qm 7 15] [2,3,4,7]
 (qS [qf 16 2 3,ql 17 16,qf 18 2 4,ql 19 18,qx 20 37 [17,19],qm 8 20] [2,3,4,7,8]
 (.seq (qS [qm 21 7,qo 22 (.un .not (.tmp 21)),qm 23 22,qu 23 (qm 24 8),qu 23 (qo 25 (.un .not (.tmp 24))),qr 26 23 25,qm 27 26,
  qu 27 (qf 28 0 3),qu 27 (ql 29 28),qu 27 (qf 30 0 4),qu 27 (ql 31 30),qu 27 (qb 32 .neq 29 31),qr 33 27 32,qm 34 33,qu 34 (qf 35 3 3),qu 34 (ql 36 35),
  qu 34 (qf 37 3 4),qu 34 (ql 38 37),qu 34 (qb 39 .neq 36 38),qr 40 34 39,qm 41 40,qu 41 (qf 42 4 3),qu 41 (ql 43 42),qu 41 (qL 44 43),qu 41 (qf 45 4 4),
  qu 41 (ql 46 45),qu 41 (qL 47 46),qu 41 (qb 48 .neq 44 47),qr 49 41 48] [2,3,4,49]
 (qC 49 (qS [qz 6 false] [6]
 .ret)
 .skip))
 (.seq (qS [qk 9 0] [2,3,4,9]
 (.block 0 (.loop (.seq (qS [qm 50 9,qf 51 4 3,ql 52 51,qL 53 52,qb 54 .lss 50 53] [2,3,4,9,54]
 (qC 54 .skip
 (.exit 0)))
 (.seq (.block 1 (.seq (qD [qf 57 4 3,ql 58 57,qm 59 9,qi 60 11 58 59,qN 61 11 60,qf 62 4 4,ql 63 62,qm 64 9,qi 65 11 63 64,qN 66 11 65,qx 67 30 [61,66],
  qm 10 67] [[0,1,2,3,4,5,6,7,8,9,10,11]] [2,3,4,9,10])
 (.seq (qS [qm 68 2] [2,3,4,9,10,68]
 (qC 68 (qD [qf 69 4 3,ql 70 69,qm 71 9,qi 72 11 70 71,qN 73 11 72,qf 74 4 4,ql 75 74,qm 76 9,qi 77 11 75 76,qN 78 11 77,qx 79 40 [73,78],
  qm 10 79] [[0,1,2,3,4,5,6,7,8,9,10,11]] [2,3,4,9,10])
 .skip))
 (qS [qm 80 10,qo 81 (.un .not (.tmp 80))] [2,3,4,9,81]
 (qC 81 (qS [qz 6 false] [6]
 .ret)
 .skip)))))
 (.reg [qm 55 9,qc 56 .add 55 1,qm 9 56] [2,3,4,9]))))))
 (qS [qz 6 true] [6]
 .ret))))))⟩)
theorem n18 : F18.n = 82 := rfl
theorem low18 : lowF Tryz.prog (kpO F18) (assoc [(8,[[0,1,2,3,4,5,6,7,8,9,10,11]]), (10,[[0,1,2,3,4,5,6,7,8,9,10,11]])]) 18 = some F18 := by kernel_rfl
def F43 : FIR := laid (X := ⟨34, [.tmp 2],
 (qS [qB 1 25 0,qk 2 0] [1]
 (qS [qf 5 1 1,ql 6 5,qf 7 0 1,ql 8 7,qo 9 (.lenS (.tmp 8)),qx 10 86 [6,9],qm 3 10] [1,3]
 (qS [qf 11 2 1,ql 12 11,qm 13 3,qx 14 86 [12,13],qm 3 14] [1,3]
 (.seq (qS [qk 4 0] [1,3,4]
 (.block 0 (.loop (.seq (qS [qm 15 4,qf 16 4 1,ql 17 16,qL 18 17,qb 19 .lss 15 18,qm 20 19,qt 20 (qm 21 3),qt 20 (qc 22 .leq 21 262144),qa 23 20 22] [1,3,4,23]
 (qC 23 .skip
 (.exit 0)))
 (.seq (.block 1 (.reg [qf 26 4 1,ql 27 26,qm 28 4,qi 29 11 27 28,qN 30 11 29,qm 31 3,
  qo 32 (.call 70 [(.tmp 30), (.tmp 31), (.const (Value.int IntKind.i64 0))]),qm 3 32] [1,3,4]))
 (.reg [qm 24 4,qc 25 .add 24 1,qm 4 25] [1,3,4]))))))
 (qS [qm 33 3,qm 2 33] [2]
 .ret)))))⟩)
theorem n43 : F43.n = 34 := rfl
theorem low43 : lowF Tryz.prog (kpO F43) (assoc []) 43 = some F43 := by kernel_rfl
def F11 : FIR := laid (X := ⟨6, [.tmp 2],
 (qS [qB 1 25 0,qz 2 false] [1]
 (qS [qN 3 5 1,qx 4 43 [3],qc 5 .gtr 4 262144,qm 2 5] [2]
 .ret))⟩)
theorem n11 : F11.n = 6 := rfl
theorem low11 : lowF Tryz.prog (kpO F11) (assoc []) 11 = some F11 := by kernel_rfl
def F7 : FIR := laid (X := ⟨120, [.tmp 2],
 (qS [qB 1 25 0,qz 2 false] [1]
 (qS [qx 20 10 [],qm 3 20] [1,3]
 (qS [qN 21 5 1,qx 22 11 [21],qm 4 22] [1,3,4]
 (.seq (qS [qm 23 3,qo 24 (.un .not (.tmp 23)),qm 25 24,qu 25 (qm 26 4),qr 27 25 26] [1,3,27]
 (qC 27 (qS [qm 28 3,qm 2 28] [2]
 .ret)
 .skip))
 (qS [qN 29 5 1,qx 30 15 [29],
  qo 5 (.alloc 25 [(Value.string ⟨#[]⟩), (Value.slice none 0 0), (Value.slice none 0 0), (Value.int IntKind.i64 0), (Value.slice none 0 0)]),qs 5 5 30] [1,5]
 (qS [qN 31 5 5,qx 32 15 [31],
  qo 6 (.alloc 25 [(Value.string ⟨#[]⟩), (Value.slice none 0 0), (Value.slice none 0 0), (Value.int IntKind.i64 0), (Value.slice none 0 0)]),qs 5 6 32] [1,5,6]
 (qS [qN 33 5 1,qx 34 13 [33],qm 7 34] [1,5,6,7]
 (qS [qN 35 5 5,qx 36 13 [35],qm 8 36] [1,5,6,7,8]
 (qS [qN 37 5 1,qN 38 5 5,qx 39 14 [37,38],qm 9 39] [1,5,6,7,8,9]
 (qS [qN 40 5 5,qN 41 5 1,qx 42 14 [40,41],qm 10 42] [1,5,6,7,8,9,10]
 (qS [qN 43 5 5,qN 44 5 6,qo 45 (.call 18 [(.tmp 43), (.tmp 44), (.const (Value.bool true))]),qm 11 45] [1,5,7,8,9,10,11]
 (qS [qN 46 5 1,qx 47 35 [46],qm 12 47] [1,5,7,8,9,10,11,12]
 (qS [qN 48 5 5,qx 49 35 [48],qm 13 49] [1,5,7,8,9,10,11,12,13]
 (qS [qm 50 12,qm 51 13,qx 52 37 [50,51],qm 14 52] [1,5,7,8,9,10,11,14]
 (.seq (qS [qm 53 7,qm 54 8,qb 55 .neq 53 54,qm 56 55,qu 56 (qm 57 9),qu 56 (qo 58 (.un .not (.tmp 57))),qr 59 56 58,qm 60 59,qu 60 (qm 61 10),
  qu 60 (qo 62 (.un .not (.tmp 61))),qr 63 60 62,qm 64 63,qu 64 (qm 65 11),qu 64 (qo 66 (.un .not (.tmp 65))),qr 67 64 66,qm 68 67,qu 68 (qm 69 14),
  qu 68 (qo 70 (.un .not (.tmp 69))),qr 71 68 70,qm 72 71,qu 72 (qf 73 4 5),qu 72 (ql 74 73),qu 72 (qL 75 74),qu 72 (qf 76 4 1),qu 72 (ql 77 76),
  qu 72 (qL 78 77),qu 72 (qb 79 .neq 75 78),qr 80 72 79] [1,5,80]
 (qC 80 (qS [qz 2 false] [2]
 .ret)
 .skip))
 (.seq (qS [qk 15 0] [1,5,15]
 (.block 0 (.loop (.seq (qS [qm 81 15,qf 82 4 1,ql 83 82,qL 84 83,qb 85 .lss 81 84] [1,5,15,85]
 (qC 85 .skip
 (.exit 0)))
 (.seq (.block 1 (qS [qf 88 4 1,ql 89 88,qm 90 15,qi 91 11 89 90,qN 92 11 91,qx 93 26 [92],qm 16 93] [1,5,15,16]
 (qS [qf 94 4 5,ql 95 94,qm 96 15,qi 97 11 95 96,qN 98 11 97,qx 99 26 [98],qm 17 99] [1,5,15,16,17]
 (qS [qf 100 4 1,ql 101 100,qm 102 15,qi 103 11 101 102,qN 104 11 103,qx 105 27 [104],qm 18 105] [1,5,15,16,17,18]
 (qS [qf 106 4 5,ql 107 106,qm 108 15,qi 109 11 107 108,qN 110 11 109,qx 111 27 [110],qm 19 111] [1,5,15,16,17,18,19]
 (qS [qm 112 16,qm 113 17,qb 114 .neq 112 113,qm 115 114,qu 115 (qm 116 18),qu 115 (qm 117 19),qu 115 (qb 118 .neq 116 117),
  qr 119 115 118] [1,5,15,119]
 (qC 119 (qS [qz 2 false] [2]
 .ret)
 .skip)))))))
 (.reg [qm 86 15,qc 87 .add 86 1,qm 15 87] [1,5,15]))))))
 (qS [qz 2 true] [2]
 .ret)))))))))))))))))⟩)
theorem n7 : F7.n = 120 := rfl
theorem low7 : lowF Tryz.prog (kpO F7) (assoc []) 7 = some F7 := by kernel_rfl
theorem sameNames_spec (A : List Atom) (av bv : Value) (l m : List ByteArray) (hl : RdT A av l) (hm : RdT A bv m) : Fun Tryz.prog 37 [av, bv] [A] (fun v Post => v = .bool (decide (l = m)) ∧ Post = [A]) := by
  obtain ⟨a, c, rfl, hll, hlr⟩ := hl
  obtain ⟨b, cb, rfl, hml, hmr⟩ := hm
  refine Fun.intro low37 (by simp [n37]) ?_
  obtain ⟨t, ht⟩ : ∃ t, t = decide (l = m) := ⟨_, rfl⟩
  rw [← ht]
  refine GOH ?_
  by_cases hlen : l.length = m.length
  rotate_left
  · have hno : t = false := by rw [ht]; exact decide_eq_false fun h => hlen (by rw [h])
    rw [show decide ((l.length : Int) = (m.length : Int)) = false from decide_eq_false (by omega)]
    refine GOH ?_
    exact endQ_mk (Post := [A]) (.inr rfl) (.tmp (by rfl) .nil) ⟨by rw [hno]; rfl, rfl⟩ (by exact IMx)
  rw [show decide ((l.length : Int) = (m.length : Int)) = true from decide_eq_true (by omega)]
  refine GOH ?_
  refine VC.loop (α := Nat) (Γf := fun j => [(0, .slice a l.length c), (1, .slice b m.length cb), (5, vi j)]) (Hf := fun _ => [A])
    (I := fun j => j ≤ l.length ∧ ∀ i x y, i < j → l[i]? = some x → m[i]? = some y → x = y) (μ := fun j => l.length - j) 0 ⟨Nat.zero_le _, fun i x y h => absurd h (by omega)⟩ (by exact SUx) (by exact IMx) ?_
  rintro j ⟨i1, i2⟩
  refine GOH ?_
  by_cases hj : j < l.length
  rotate_left
  · rw [show decide ((j : Int) < (l.length : Int)) = false from decide_eq_false (by omega)]
    have htt : t = true := by
      rw [ht]
      refine decide_eq_true (texts_eq hlen fun i x y e1 e2 => i2 i x y ?_ e1 e2)
      have := (List.getElem?_eq_some_iff.1 e1).1
      omega
    refine GOH ?_
    exact endQ_mk (Post := [A]) (.inr rfl) (.tmp (by rfl) .nil) ⟨by rw [htt]; rfl, rfl⟩ (by exact IMx)
  rw [show decide ((j : Int) < (l.length : Int)) = true from decide_eq_true (by omega)]
  obtain ⟨x, hx⟩ : ∃ x, l[j]? = some x := ⟨_, List.getElem?_eq_getElem hj⟩
  obtain ⟨y, hy⟩ : ∃ y, m[j]? = some y := ⟨_, List.getElem?_eq_getElem (hlen ▸ hj)⟩
  obtain ⟨b1, o1, rfl, hc1, hs1⟩ := hlr j x hx
  obtain ⟨b2, o2, rfl, hc2, hs2⟩ := hmr j y hy
  refine GOH ?_
  by_cases hxy : x = y
  · rw [decide_eq_true hxy]
    refine GOH ?_
    refine ⟨j + 1, ⟨by omega, fun i u v hi e1 e2 => ?_⟩, by omega, by exact SUx, by exact IMx⟩
    by_cases hij : i = j
    · subst hij
      rw [hx] at e1; rw [hy] at e2
      cases e1; cases e2; exact hxy
    · exact i2 i u v (by omega) e1 e2
  · have hno : t = false := by
      rw [ht]
      refine decide_eq_false fun h => hxy ?_
      subst h
      rw [hx] at hy; cases hy; rfl
    rw [decide_eq_false hxy]
    refine GOH ?_
    exact endQ_mk (Post := [A]) (.inr rfl) (.tmp (by rfl) .nil) ⟨by rw [hno]; rfl, rfl⟩ (by exact IMx)
theorem sameLit_spec (A : List Atom) : ∀ (N : Nat) (x y : Lt), x.size ≤ N → ∀ vs ws, LtRd A x vs → LtRd A y ws → Fun Tryz.prog 117 [.agg vs.toArray, .agg ws.toArray] [A] (fun v Post => v = .bool (litEq x y) ∧ Post = [A]) := by
  intro N
  induction N with
  | zero => intro x y hx; have := x.size_pos; omega
  | succ N ih =>
    intro x y hx vs ws h h2
    cases h with
    | @mk k n b t items a c bk o us wf ha hm hr =>
    cases h2 with
    | @mk k' n' b' t' items' a' c' bk' o' us' wf' ha' hm' hr' =>
    have hmany := wf.many
    refine Fun.intro low117 (by simp [n117]) ?_
    obtain ⟨E, hE⟩ : ∃ E, E = litEq (.mk k n b t items) (.mk k' n' b' t' items') := ⟨_, rfl⟩
    rw [← hE]
    simp only [litEq] at hE
    refine GOH ?_
    refine st_box (by rfl) (fun q => ?_)
    refine st_box (by rfl) (fun q2 => ?_)
    simp only [Value.cells]
    refine GOH ?_
    by_cases h1 : k = k'
    rotate_left
    · have hno : E = false := by simp [hE, h1]
      rw [show decide ((k : Int) = (k' : Int)) = false from decide_eq_false (by omega)]
      refine GOH ?_
      exact endQ_mk (Post := [A]) (.inr rfl) (.tmp (by rfl) .nil) ⟨by rw [hno]; rfl, rfl⟩ (by exact IMx)
    rw [show decide ((k : Int) = (k' : Int)) = true from decide_eq_true (by omega)]
    refine GOH ?_
    by_cases h2 : n = n'
    rotate_left
    · have hno : E = false := by simp [hE, h2]
      rw [decide_eq_false h2]
      refine GOH ?_
      exact endQ_mk (Post := [A]) (.inr rfl) (.tmp (by rfl) .nil) ⟨by rw [hno]; rfl, rfl⟩ (by exact IMx)
    rw [decide_eq_true h2]
    refine GOH ?_
    by_cases h3 : b = b'
    rotate_left
    · have hno : E = false := by simp [hE, h3]
      rw [show decide ((b : Int) = (b' : Int)) = false from decide_eq_false (by omega)]
      refine GOH ?_
      exact endQ_mk (Post := [A]) (.inr rfl) (.tmp (by rfl) .nil) ⟨by rw [hno]; rfl, rfl⟩ (by exact IMx)
    rw [show decide ((b : Int) = (b' : Int)) = true from decide_eq_true (by omega)]
    refine GOH ?_
    by_cases h4 : t = t'
    rotate_left
    · have hno : E = false := by simp [hE, h4]
      rw [decide_eq_false h4]
      refine GOH ?_
      exact endQ_mk (Post := [A]) (.inr rfl) (.tmp (by rfl) .nil) ⟨by rw [hno]; rfl, rfl⟩ (by exact IMx)
    rw [decide_eq_true h4]
    refine GOH ?_
    by_cases h5 : items.length = items'.length
    rotate_left
    · have hno : E = false := by simp [hE, litsEq_len h5]
      rw [show decide ((items.length : Int) = (items'.length : Int)) = false from decide_eq_false (by omega)]
      refine GOH ?_
      exact endQ_mk (Post := [A]) (.inr rfl) (.tmp (by rfl) .nil) ⟨by rw [hno]; rfl, rfl⟩ (by exact IMx)
    rw [show decide ((items.length : Int) = (items'.length : Int)) = true from decide_eq_true (by omega)]
    have hyes : E = litsEq items items' := by simp [hE, h1, h2, h3, h4]
    clear hE
    refine GOH ?_
    refine VC.loop (α := Nat) (Γf := fun j => [(2, ptr0 q), (3, ptr0 q2), (5, vi j)]) (Hf := fun _ => [A, cellsAt q 0 [cv k, vi n, uv b, .string t, .slice a items.length c], cellsAt q2 0 [cv k', vi n', uv b', .string t', .slice a' items'.length c']])
      (I := fun j => j ≤ items.length ∧ ∀ i x y, i < j → items[i]? = some x → items'[i]? = some y → litEq x y = true) (μ := fun j => items.length - j) 0 ⟨Nat.zero_le _, fun i x y h => absurd h (by omega)⟩ (by exact SUx) (by exact IMx) ?_
    rintro j ⟨i1, i2⟩
    refine GOH ?_
    by_cases hj : j < items.length
    rotate_left
    · rw [show decide ((j : Int) < (items.length : Int)) = false from decide_eq_false (by omega)]
      have htt : E = true := by
        rw [hyes]
        exact (litsEq_iff _ _).2 ⟨h5, fun i x y e1 e2 => i2 i x y (by have := (List.getElem?_eq_some_iff.1 e1).1; omega) e1 e2⟩
      refine GOH ?_
      exact endQ_mk (Post := [A]) (.inr rfl) (.tmp (by rfl) .nil) ⟨by rw [htt]; rfl, rfl⟩ (by exact IMx)
    rw [show decide ((j : Int) < (items.length : Int)) = true from decide_eq_true (by omega)]
    obtain rfl := ha (by omega)
    obtain rfl := ha' (by omega)
    obtain ⟨x, hx1⟩ : ∃ x, items[j]? = some x := ⟨_, List.getElem?_eq_getElem hj⟩
    obtain ⟨y, hy1⟩ : ∃ y, items'[j]? = some y := ⟨_, List.getElem?_eq_getElem (h5 ▸ hj)⟩
    have hu := hm j hj
    have hw := hm' j (by omega)
    have hul := (hr j x hx1).len
    have hwl := (hr' j y hy1).len
    have hcall := ih x y (by have := Lt.sizes_mem (List.mem_of_getElem? hx1); simp only [Lt.size] at hx; omega) _ _ (hr j x hx1) (hr' j y hy1)
    refine GOH ?_
    refine st_loadA (by rfl) (fun z hz => List.mem_append_left _ (hu z hz)) hul ?_
    refine GOH ?_
    refine st_loadA (by rfl) (fun z hz => List.mem_append_left _ (hw z hz)) hwl ?_
    refine GOH ?_
    refine st_call hcall (by rfl) (by exact SPx) (fun v Post hv => ?_)
    obtain ⟨rfl, rfl⟩ := hv
    simp only [CNx]
    cases hxy : litEq x y with
    | true =>
      refine GOH ?_
      refine ⟨j + 1, ⟨by omega, fun i u v hi e1 e2 => ?_⟩, by omega, by exact SUx, by exact IMx⟩
      by_cases hij : i = j
      · subst hij
        rw [hx1] at e1; rw [hy1] at e2
        cases e1; cases e2; exact hxy
      · exact i2 i u v (by omega) e1 e2
    | false =>
      have hno : E = false := by rw [hyes]; exact litsEq_false hx1 hy1 hxy
      refine GOH ?_
      exact endQ_mk (Post := [A]) (.inr rfl) (.tmp (by rfl) .nil) ⟨by rw [hno]; rfl, rfl⟩ (by exact IMx)
def alikeN (x y : Nd) : Bool := decide (x.kind = y.kind) && decide (x.name = y.name) && decide (x.args = y.args) && decide (x.temps = y.temps) && litEq x.lit y.lit && decide (x.kids.length = y.kids.length)
theorem alike_spec (A : List Atom) (x y : Nd) (vs ws : List Value) (h : NdRd A x vs) (h2 : NdRd A y ws) : Fun Tryz.prog 77 [.agg vs.toArray, .agg ws.toArray] [A] (fun v Post => v = .bool (alikeN x y) ∧ Post = [A]) := by
  cases h with
  | @mk k s lit args temps kids p lv av tv a c bk o us wf hl hav htv ha hm hr hcp =>
  cases h2 with
  | @mk k' s' lit' args' temps' kids' p' lv' av' tv' a' c' bk' o' us' wf' hl' hav' htv' ha' hm' hr' hcp' =>
  have hlits := sameLit_spec A _ lit lit' (Nat.le_refl _) _ _ hl hl'
  have hargs := sameNames_spec A _ _ args args' hav hav'
  have htemps := sameNames_spec A _ _ temps temps' htv htv'
  obtain ⟨aa, ac, rfl, _, _⟩ := hav
  obtain ⟨ta, tc, rfl, _, _⟩ := htv
  obtain ⟨aa', ac', rfl, _, _⟩ := hav'
  obtain ⟨ta', tc', rfl, _, _⟩ := htv'
  obtain ⟨la, lc, rfl⟩ := lt_open hl
  obtain ⟨la', lc', rfl⟩ := lt_open hl'
  refine Fun.intro low77 (by simp [n77]) ?_
  obtain ⟨E, hE⟩ : ∃ E, E = alikeN (.mk k s lit args temps kids p) (.mk k' s' lit' args' temps' kids' p') := ⟨_, rfl⟩
  rw [← hE]
  simp only [alikeN, Nd.kind, Nd.name, Nd.args, Nd.temps, Nd.lit, Nd.kids] at hE
  simp only [CNx] at *
  refine GOH ?_
  refine st_box (by rfl) (fun q => ?_)
  refine st_box (by rfl) (fun q2 => ?_)
  simp only [Value.cells]
  refine GOH ?_
  refine st_call hlits (by rfl) (by exact SPx) (fun v Post hv => ?_)
  obtain ⟨rfl, rfl⟩ := hv
  simp only [CNx]
  refine GOH ?_
  refine st_call hargs (by rfl) (by exact SPx) (fun v Post hv => ?_)
  obtain ⟨rfl, rfl⟩ := hv
  simp only [CNx]
  refine GOH ?_
  refine st_call htemps (by rfl) (by exact SPx) (fun v Post hv => ?_)
  obtain ⟨rfl, rfl⟩ := hv
  simp only [CNx]
  refine GOH ?_
  cases h5 : litEq lit lit' with
  | false =>
    have hno : E = false := by simp [hE, h5]
    refine GOH ?_
    exact endQ_mk (Post := [A]) (.inr rfl) (.tmp (by rfl) .nil) ⟨by rw [hno]; rfl, rfl⟩ (by exact IMx)
  | true =>
    refine GOH ?_
    by_cases h3 : args = args'
    rotate_left
    · have hno : E = false := by simp [hE, h3]
      rw [decide_eq_false h3]
      refine GOH ?_
      exact endQ_mk (Post := [A]) (.inr rfl) (.tmp (by rfl) .nil) ⟨by rw [hno]; rfl, rfl⟩ (by exact IMx)
    rw [decide_eq_true h3]
    refine GOH ?_
    by_cases h4 : temps = temps'
    rotate_left
    · have hno : E = false := by simp [hE, h4]
      rw [decide_eq_false h4]
      refine GOH ?_
      exact endQ_mk (Post := [A]) (.inr rfl) (.tmp (by rfl) .nil) ⟨by rw [hno]; rfl, rfl⟩ (by exact IMx)
    rw [decide_eq_true h4]
    refine GOH ?_
    by_cases h1 : k = k'
    rotate_left
    · have hno : E = false := by simp [hE, h1]
      rw [show decide ((k : Int) = (k' : Int)) = false from decide_eq_false (by omega)]
      refine GOH ?_
      exact endQ_mk (Post := [A]) (.inr rfl) (.tmp (by rfl) .nil) ⟨by rw [hno]; rfl, rfl⟩ (by exact IMx)
    rw [show decide ((k : Int) = (k' : Int)) = true from decide_eq_true (by omega)]
    refine GOH ?_
    by_cases h2 : s = s'
    rotate_left
    · have hno : E = false := by simp [hE, h2]
      rw [decide_eq_false h2]
      refine GOH ?_
      exact endQ_mk (Post := [A]) (.inr rfl) (.tmp (by rfl) .nil) ⟨by rw [hno]; rfl, rfl⟩ (by exact IMx)
    rw [decide_eq_true h2]
    refine GOH ?_
    have hyes : E = decide ((kids.length : Int) = (kids'.length : Int)) := by
      simp only [hE, h1, h2, h3, h4, h5, decide_true, Bool.true_and]
      exact decide_eq_decide.2 (by omega)
    exact endQ_mk (Post := [A]) (.inr rfl) (.tmp (by rfl) .nil) ⟨by rw [hyes]; rfl, rfl⟩ (by exact IMx)
theorem ndEq_alike (x y : Nd) : ndEq x y = (alikeN x y && ndsEq x.kids y.kids) := by
  cases x with
  | mk k s lit args temps kids p =>
  cases y with
  | mk k' s' lit' args' temps' kids' p' =>
  show ndEq _ _ = (decide (k = k') && decide (s = s') && decide (args = args') && decide (temps = temps') && litEq lit lit' && decide (kids.length = kids'.length) && ndsEq kids kids')
  simp only [ndEq]
  by_cases h : kids.length = kids'.length
  · simp [h]
  · rw [ndsEq_len h]; simp
theorem ndSm_alike (x y : Nd) : ndSm x y = (alikeN x y && decide (x.at_ = y.at_) && ndsSm x.kids y.kids) := by
  cases x with
  | mk k s lit args temps kids p =>
  cases y with
  | mk k' s' lit' args' temps' kids' p' =>
  show ndSm _ _ = (decide (k = k') && decide (s = s') && decide (args = args') && decide (temps = temps') && litEq lit lit' && decide (kids.length = kids'.length) && decide (p = p') && ndsSm kids kids')
  simp only [ndSm]
  by_cases h : kids.length = kids'.length
  · simp [h]
  · rw [ndsSm_len h]; simp [h]
def F54 : FIR := laid (X := ⟨22, [.tmp 4],
 (qS [qo 4 (.mv (.const (Value.slice none 0 0)))] [0,1]
 (qS [qo 5 (.mv (.const (Value.slice none 0 0)))] [0,1,5]
 (.seq (qS [qm 8 0,qL 9 8,qk 10 0] [1,5,8,9,10]
 (.block 0 (.loop (qS [qb 11 .lss 10 9] [1,5,8,9,10,11]
 (.seq (qC 11 .skip
 (.exit 0))
 (.seq (.block 1 (qS [qi 12 11 8 10,qN 13 11 12,
  qo 7 (.alloc 48 [(Value.int IntKind.u8 0), (Value.string ⟨#[]⟩), (Value.int IntKind.u8 0), (Value.int IntKind.i64 0), (Value.int IntKind.u64 0), (Value.string ⟨#[]⟩), (Value.slice none 0 0), (Value.slice none 0 0), (Value.slice none 0 0), (Value.slice none 0 0), (Value.int IntKind.i64 0)]),
  qs 11 7 13] [1,5,7,8,9,10]
 (.reg [qm 14 5,qm 15 1,qN 16 11 7,qo 17 (.callv (.tmp 15) [(.tmp 16)]),
  qo 18 (.bslice 48 1 [(Value.int IntKind.u8 0), (Value.string ⟨#[]⟩), (Value.int IntKind.u8 0), (Value.int IntKind.i64 0), (Value.int IntKind.u64 0), (Value.string ⟨#[]⟩), (Value.slice none 0 0), (Value.slice none 0 0), (Value.slice none 0 0), (Value.slice none 0 0), (Value.int IntKind.i64 0)] [(0, 11, (.tmp 17))]),
  qo 19 (.append 48 11 168 [(Value.int IntKind.u8 0), (Value.string ⟨#[]⟩), (Value.int IntKind.u8 0), (Value.int IntKind.i64 0), (Value.int IntKind.u64 0), (Value.string ⟨#[]⟩), (Value.slice none 0 0), (Value.slice none 0 0), (Value.slice none 0 0), (Value.slice none 0 0), (Value.int IntKind.i64 0)] (.tmp 14) (.tmp 18)),
  qm 5 19] [1,5,8,9,10])))
 (.reg [qc 20 .add 10 1,qm 10 20] [1,5,8,9,10])))))))
 (qS [qm 21 5,qm 4 21] [4]
 .ret))))⟩)
theorem n54 : F54.n = 22 := rfl
theorem low54 : lowF Tryz.prog (kpO F54) (assoc []) 54 = some F54 := by kernel_rfl
def F134 : FIR := laid (X := ⟨22, [.tmp 4],
 (qS [qo 4 (.mv (.const (Value.slice none 0 0)))] [0,1]
 (qS [qo 5 (.mv (.const (Value.slice none 0 0)))] [0,1,5]
 (.seq (qS [qm 8 0,qL 9 8,qk 10 0] [1,5,8,9,10]
 (.block 0 (.loop (qS [qb 11 .lss 10 9] [1,5,8,9,10,11]
 (.seq (qC 11 .skip
 (.exit 0))
 (.seq (.block 1 (qS [qi 12 5 8 10,qN 13 5 12,
  qo 7 (.alloc 46 [(Value.int IntKind.u8 0), (Value.int IntKind.i64 0), (Value.int IntKind.u64 0), (Value.string ⟨#[]⟩), (Value.slice none 0 0)]),
  qs 5 7 13] [1,5,7,8,9,10]
 (.reg [qm 14 5,qm 15 1,qN 16 5 7,qo 17 (.callv (.tmp 15) [(.tmp 16)]),
  qo 18 (.bslice 46 1 [(Value.int IntKind.u8 0), (Value.int IntKind.i64 0), (Value.int IntKind.u64 0), (Value.string ⟨#[]⟩), (Value.slice none 0 0)] [(0, 5, (.tmp 17))]),
  qo 19 (.append 46 5 64 [(Value.int IntKind.u8 0), (Value.int IntKind.i64 0), (Value.int IntKind.u64 0), (Value.string ⟨#[]⟩), (Value.slice none 0 0)] (.tmp 14) (.tmp 18)),
  qm 5 19] [1,5,8,9,10])))
 (.reg [qc 20 .add 10 1,qm 10 20] [1,5,8,9,10])))))))
 (qS [qm 21 5,qm 4 21] [4]
 .ret))))⟩)
theorem n134 : F134.n = 22 := rfl
theorem low134 : lowF Tryz.prog (kpO F134) (assoc []) 134 = some F134 := by kernel_rfl
def F97 : FIR := laid (X := ⟨8, [.cellN 2 5],
 (qS [qB 1 46 0,
  qo 2 (.alloc 46 [(Value.int IntKind.u8 0), (Value.int IntKind.i64 0), (Value.int IntKind.u64 0), (Value.string ⟨#[]⟩), (Value.slice none 0 0)])] [1,2]
 (qS [qf 3 4 1,ql 4 3,qo 5 (.call 134 [(.tmp 4), (.func 97)]),qf 6 4 1,qs 1 6 5] [1,2]
 (qS [qN 7 5 1,qs 5 2 7] [2]
 .ret)))⟩)
theorem n97 : F97.n = 8 := rfl
theorem low97 : lowF Tryz.prog (kpO F97) (assoc []) 97 = some F97 := by kernel_rfl
def F55 : FIR := laid (X := ⟨20, [.cellN 2 11],
 (qS [qB 1 48 0,
  qo 2 (.alloc 48 [(Value.int IntKind.u8 0), (Value.string ⟨#[]⟩), (Value.int IntKind.u8 0), (Value.int IntKind.i64 0), (Value.int IntKind.u64 0), (Value.string ⟨#[]⟩), (Value.slice none 0 0), (Value.slice none 0 0), (Value.slice none 0 0), (Value.slice none 0 0), (Value.int IntKind.i64 0)])] [1,2]
 (.seq (.free [qf 3 0 1,ql 4 3,qf 5 1 1,ql 6 5,qf 7 2 1,qN 8 5 7,qx 9 97 [8],qf 10 7 1,ql 11 10,qx 12 53 [11],qf 13 8 1,ql 14 13,qx 15 53 [14],
  qf 16 9 1,ql 17 16,qo 18 (.call 54 [(.tmp 17), (.func 55)]),
  qo 19 (.build [(Value.int IntKind.u8 0), (Value.string ⟨#[]⟩), (Value.int IntKind.u8 0), (Value.int IntKind.i64 0), (Value.int IntKind.u64 0), (Value.string ⟨#[]⟩), (Value.slice none 0 0), (Value.slice none 0 0), (Value.slice none 0 0), (Value.slice none 0 0), (Value.int IntKind.i64 0)] [(0, 1, (.tmp 4)), (1, 1, (.tmp 6)), (2, 5, (.tmp 9)), (7, 1, (.tmp 12)), (8, 1, (.tmp 15)), (9, 1, (.tmp 18))]),
  qs 11 2 19] [[], [0], [], [2], [], [4], [4,5], [], [7], [5,4,6,7,8], [], [10], [8,7,6,4,5,9,10,11], [], [13], [11,10,9,5,4,6,7,8,12,13,14], [14,13,15,11,10,12,8,7,9,5,4,6,2,3,0,1], [1,0,3,2,6,4,5,9,7,8,12,10,11,15,13,14,16]] [2])
 .ret))⟩)
theorem n55 : F55.n = 20 := rfl
theorem low55 : lowF Tryz.prog (kpO F55) (assoc [(1,[])]) 55 = some F55 := by kernel_rfl
def F15 : FIR := laid (X := ⟨16, [.cellN 2 5],
 (qS [qB 1 25 0,
  qo 2 (.alloc 25 [(Value.string ⟨#[]⟩), (Value.slice none 0 0), (Value.slice none 0 0), (Value.int IntKind.i64 0), (Value.slice none 0 0)])] [1,2]
 (.seq (qD [qf 3 1 1,ql 4 3,qx 5 53 [4],qf 6 2 1,ql 7 6,qx 8 53 [7],qf 9 1 1,qs 1 9 5,qf 10 2 1,qs 1 10 8] [[0,1,2,3,4,5,6,7,8,9], [0,1,3,4,2,5,6,7,8,9]] [1,2])
 (qS [qf 11 4 1,ql 12 11,qo 13 (.call 54 [(.tmp 12), (.func 55)]),qf 14 4 1,qs 1 14 13] [1,2]
 (qS [qN 15 5 1,qs 5 2 15] [2]
 .ret))))⟩)
theorem n15 : F15.n = 16 := rfl
theorem low15 : lowF Tryz.prog (kpO F15) (assoc [(1,[[0,1,2,3,4,5,6,7,8,9], [0,1,3,4,2,5,6,7,8,9]])]) 15 = some F15 := by kernel_rfl
def F42 : FIR := laid (X := ⟨10, [.cellN 0 11],
 (qS [qo 0 (.alloc 48 [(Value.int IntKind.u8 0), (Value.string ⟨#[]⟩), (Value.int IntKind.u8 0), (Value.int IntKind.i64 0), (Value.int IntKind.u64 0), (Value.string ⟨#[]⟩), (Value.slice none 0 0), (Value.slice none 0 0), (Value.slice none 0 0), (Value.slice none 0 0), (Value.int IntKind.i64 0)])] [0]
 (qS [qo 2 (.build [(Value.int IntKind.u8 0), (Value.string ⟨#[]⟩), (Value.int IntKind.u8 0), (Value.int IntKind.i64 0), (Value.int IntKind.u64 0), (Value.string ⟨#[]⟩), (Value.slice none 0 0), (Value.slice none 0 0), (Value.slice none 0 0), (Value.slice none 0 0), (Value.int IntKind.i64 0)] [(0, 1, (.const (Value.int IntKind.u8 2))), (1, 1, (.const (Value.string ⟨#[98]⟩)))]),
  qo 3 (.build [(Value.int IntKind.u8 0), (Value.string ⟨#[]⟩), (Value.int IntKind.u8 0), (Value.int IntKind.i64 0), (Value.int IntKind.u64 0), (Value.string ⟨#[]⟩), (Value.slice none 0 0), (Value.slice none 0 0), (Value.slice none 0 0), (Value.slice none 0 0), (Value.int IntKind.i64 0)] [(0, 1, (.const (Value.int IntKind.u8 2))), (1, 1, (.const (Value.string ⟨#[99]⟩)))]),
  qo 4 (.bslice 48 2 [(Value.int IntKind.u8 0), (Value.string ⟨#[]⟩), (Value.int IntKind.u8 0), (Value.int IntKind.i64 0), (Value.int IntKind.u64 0), (Value.string ⟨#[]⟩), (Value.slice none 0 0), (Value.slice none 0 0), (Value.slice none 0 0), (Value.slice none 0 0), (Value.int IntKind.i64 0)] [(0, 11, (.tmp 2)), (11, 11, (.tmp 3))]),
  qo 5 (.build [(Value.int IntKind.u8 0), (Value.string ⟨#[]⟩), (Value.int IntKind.u8 0), (Value.int IntKind.i64 0), (Value.int IntKind.u64 0), (Value.string ⟨#[]⟩), (Value.slice none 0 0), (Value.slice none 0 0), (Value.slice none 0 0), (Value.slice none 0 0), (Value.int IntKind.i64 0)] [(0, 1, (.const (Value.int IntKind.u8 4))), (1, 1, (.const (Value.string ⟨#[42]⟩))), (9, 1, (.tmp 4)), (10, 1, (.const (Value.int IntKind.i64 5)))]),
  qo 1 (.alloc 48 [(Value.int IntKind.u8 0), (Value.string ⟨#[]⟩), (Value.int IntKind.u8 0), (Value.int IntKind.i64 0), (Value.int IntKind.u64 0), (Value.string ⟨#[]⟩), (Value.slice none 0 0), (Value.slice none 0 0), (Value.slice none 0 0), (Value.slice none 0 0), (Value.int IntKind.i64 0)]),
  qs 11 1 5] [0,1]
 (qS [qo 6 (.build [(Value.int IntKind.u8 0), (Value.string ⟨#[]⟩), (Value.int IntKind.u8 0), (Value.int IntKind.i64 0), (Value.int IntKind.u64 0), (Value.string ⟨#[]⟩), (Value.slice none 0 0), (Value.slice none 0 0), (Value.slice none 0 0), (Value.slice none 0 0), (Value.int IntKind.i64 0)] [(0, 1, (.const (Value.int IntKind.u8 2))), (1, 1, (.const (Value.string ⟨#[97]⟩)))]),
  qN 7 11 1,
  qo 8 (.bslice 48 2 [(Value.int IntKind.u8 0), (Value.string ⟨#[]⟩), (Value.int IntKind.u8 0), (Value.int IntKind.i64 0), (Value.int IntKind.u64 0), (Value.string ⟨#[]⟩), (Value.slice none 0 0), (Value.slice none 0 0), (Value.slice none 0 0), (Value.slice none 0 0), (Value.int IntKind.i64 0)] [(0, 11, (.tmp 6)), (11, 11, (.tmp 7))]),
  qo 9 (.build [(Value.int IntKind.u8 0), (Value.string ⟨#[]⟩), (Value.int IntKind.u8 0), (Value.int IntKind.i64 0), (Value.int IntKind.u64 0), (Value.string ⟨#[]⟩), (Value.slice none 0 0), (Value.slice none 0 0), (Value.slice none 0 0), (Value.slice none 0 0), (Value.int IntKind.i64 0)] [(0, 1, (.const (Value.int IntKind.u8 4))), (1, 1, (.const (Value.string ⟨#[43]⟩))), (9, 1, (.tmp 8))]),
  qs 11 0 9] [0]
 .ret)))⟩)
theorem n42 : F42.n = 10 := rfl
theorem low42 : lowF Tryz.prog (kpO F42) (assoc []) 42 = some F42 := by kernel_rfl
theorem cloneTexts_spec (A : List Atom) (av : Value) (l : List ByteArray) (h : RdT A av l) : Fun Tryz.prog 53 [av] [A] (fun v Post => ∃ B, RdT B v l ∧ Post = [A, B]) := by
  obtain ⟨a, c, rfl, hl, hr⟩ := h
  refine Fun.intro low53 (by simp [n53]) ?_
  have hsz : ∀ t ∈ l, t.size ≤ 140737488355328 := fun t ht => by
    obtain ⟨i, hi⟩ := List.getElem?_of_mem ht
    obtain ⟨_, _, _, _, h⟩ := hr i t hi
    exact h
  cases a with
  | none =>
    have hl0 : l = [] := by
      cases l with
      | nil => rfl
      | cons t l => obtain ⟨_, _, h, _⟩ := hr 0 t rfl; cases h
    subst hl0
    refine GOH ?_
    exact endQ_mk (Post := [A, []]) (.inr rfl) (.tmp (by rfl) .nil) ⟨[], ⟨none, 0, rfl, by simp, fun i t e => by simp at e⟩, rfl⟩ ⟨[], by simp [V.Spl]⟩
  | some ad =>
    refine GOH ?_
    refine st_bslice (out := []) (by rfl) (by rfl) (fun q => ?_)
    refine GOH ?_
    cases hl0 : l with
    | nil =>
      subst hl0
      refine st_append0 (by rfl) (by rfl) (Nat.le_refl _) ?_
      refine GOH ?_
      exact endQ_mk (Post := [A, []]) (.inr rfl) (.tmp (by rfl) .nil) ⟨[], ⟨_, 0, rfl, by simp, fun i t e => by simp at e⟩, rfl⟩ ⟨[], by simp [V.Spl, cellsAt]⟩
    | cons t l' =>
      rw [← hl0]
      obtain ⟨b, o, had, _⟩ := hr 0 t (by rw [hl0]; rfl)
      cases had
      have hsrc : Src [A].flatten 1 l.length (l.map Value.string) (.slice (some ⟨b, o, none⟩) l.length c) := by
        refine ⟨by simp, fun x hx => ?_⟩
        obtain ⟨i, v, hi, rfl⟩ := mem_cellsAt.1 hx
        rw [List.getElem?_map] at hi
        obtain ⟨u, hu, rfl⟩ := Option.map_eq_some_iff.1 hi
        obtain ⟨b2, o2, h1, h2, _⟩ := hr i u hu
        cases h1
        simpa using h2
      refine st_append (k := 0) (m := l.length) (xs := []) (sp := []) (ys := l.map Value.string) (by rfl) (by rfl) (.mk rfl rfl (Nat.le_refl _)) (show Tk [cellsAt q 0 [], A] (cellsAt q 0 []) [A] from .here) (by rfl) hsrc (by simp) (by simp [List.all_eq_true, oneCell]) (by rfl) (by decide) (by omega) (fun sv' sp' hsl' => ?_)
      rw [List.nil_append, Nat.zero_add] at *
      obtain ⟨a', c', rfl⟩ := hsl'.form
      refine GOH ?_
      exact endQ_mk (Post := [A, slA (.slice a' l.length c') (l.map Value.string) sp']) (.inr rfl) (.tmp (by rfl) .nil) ⟨_, texts_made rfl hsl' hl hsz, rfl⟩ (by exact IMx)
theorem eachLits_spec (A : List Atom) (l : List Lt) (a : Option Addr) (c bk o : Nat) (us : Nat → List Value) (hla : l.length ≤ 274877906944) (ha : 0 < l.length → a = some ⟨bk, o, none⟩) (hm : ∀ i, i < l.length → ∀ y ∈ cellsAt bk (o + i * 5) (us i), y ∈ A) (hr : ∀ i x, l[i]? = some x → LtRd A x (us i))
    (fv : Value) (hfv : ∀ i x, l[i]? = some x → FunV Tryz.prog fv [.agg (us i).toArray] [A] (fun v Post => ∃ ws B, v = .agg ws.toArray ∧ LtRd B x ws ∧ Post = [A, B])) :
    Fun Tryz.prog 134 [.slice a l.length c, fv] [A] (fun v Post => ∃ (rows : List (List Value)) (sp : List Value) (B : List Atom), IsSl 5 v l.length rows.flatten sp ∧ rows.length = l.length ∧ (∀ r ∈ rows, r.length = 5) ∧ (∀ (i : Nat) x r, l[i]? = some x → rows[i]? = some r → LtRd B x r) ∧ Post = [A, slA v rows.flatten sp, B]) := by
  refine Fun.intro low134 (by simp [n134]) ?_
  refine GOH ?_
  refine VC.loop (α := Nat × Value × List (List Value) × List Value × List Atom) (Γf := fun s => [(1, fv), (5, s.2.1), (8, .slice a l.length c), (9, vi l.length), (10, vi s.1)]) (Hf := fun s => [A, slA s.2.1 s.2.2.1.flatten s.2.2.2.1, s.2.2.2.2])
    (I := fun s => s.1 ≤ l.length ∧ IsSl 5 s.2.1 s.1 s.2.2.1.flatten s.2.2.2.1 ∧ s.2.2.1.length = s.1 ∧ (∀ r ∈ s.2.2.1, r.length = 5) ∧ ∀ (i : Nat) x r, l[i]? = some x → s.2.2.1[i]? = some r → LtRd s.2.2.2.2 x r) (μ := fun s => l.length - s.1) (0, .slice none 0 0, [], [], []) ⟨Nat.zero_le _, .nil, rfl, fun r hr => (by cases hr), fun i x r _ h => (by simp at h)⟩ (by exact SUx) ⟨[], by simp [V.Spl, slA]⟩ ?_
  rintro ⟨j, sv, rows, sp, B⟩ ⟨i1, i2, i3, i4, i5⟩
  simp only at i1 i2 i3 i4 i5
  dsimp only
  refine GOH ?_
  by_cases hj : j < l.length
  rotate_left
  · rw [show decide ((j : Int) < (l.length : Int)) = false from decide_eq_false (by omega)]
    have hjl : j = l.length := by omega
    subst hjl
    refine GOH ?_
    exact endQ_mk (Post := [A, slA sv rows.flatten sp, B]) (.inr rfl) (.tmp (by rfl) .nil) ⟨rows, sp, B, i2, i3, i4, i5, rfl⟩ (by exact IMx)
  obtain rfl := ha (by omega)
  rw [show decide ((j : Int) < (l.length : Int)) = true from decide_eq_true (by omega)]
  obtain ⟨y, hy⟩ : ∃ y, l[j]? = some y := ⟨_, List.getElem?_eq_getElem hj⟩
  have hym := hm j hj
  have hyr := hr j y hy
  have hcall := hfv j y hy
  generalize us j = uj at *
  obtain ⟨e1, c1, rfl⟩ := lt_open hyr
  refine GOH ?_
  refine st_loadA (by rfl) (fun z hz => List.mem_append_left _ (hym z hz)) rfl ?_
  refine GOH ?_
  refine st_alloc (fun q => ?_)
  refine GOH ?_
  refine st_callV (by rfl) hcall (by rfl) (by exact SPx) (fun v Post hv => ?_)
  obtain ⟨ws, B2, rfl, hw, rfl⟩ := hv
  simp only [CNx]
  have hwl := hw.len
  obtain ⟨e2, c2, rfl⟩ := lt_open hw
  refine st_bslice (out := [cv y.kind, vi y.n, uv y.bits, .string y.text, .slice e2 y.items.length c2]) (by rfl) (by rfl) (fun r => ?_)
  refine st_append (k := j) (m := 1) (xs := rows.flatten) (sp := sp) (ys := [cv y.kind, vi y.n, uv y.bits, .string y.text, .slice e2 y.items.length c2]) (by rfl) (by rfl) i2 (by exact TKx) (by rfl) ?_ rfl (by rfl) (by rfl) (by decide) (by omega) (fun sv' sp' hsl' => ?_)
  · exact ⟨rfl, fun a ha => by simp only [List.flatten_cons, List.mem_append]; exact .inl ha⟩
  have hfl : rows.flatten ++ [cv y.kind, vi y.n, uv y.bits, .string y.text, .slice e2 y.items.length c2] = (rows ++ [[cv y.kind, vi y.n, uv y.bits, .string y.text, .slice e2 y.items.length c2]]).flatten := by simp
  rw [hfl] at hsl' ⊢
  refine GOH ?_
  refine ⟨(j + 1, sv', rows ++ [[cv y.kind, vi y.n, uv y.bits, .string y.text, .slice e2 y.items.length c2]], sp', B2 ++ B), ⟨by simp only; omega, hsl', by simp [i3], fun r hr => ?_, fun i x r hx hr => ?_⟩, by simp only; omega, by exact SUx, ?_⟩
  · rcases List.mem_append.1 hr with h | h
    · exact i4 r h
    · rw [List.mem_singleton.1 h]; rfl
  · simp only at hr
    by_cases hi : i < rows.length
    · rw [List.getElem?_append_left hi] at hr
      exact (i5 i x r hx hr).more fun z hz => List.mem_append_right _ hz
    · rw [List.getElem?_append_right (by omega)] at hr
      have hi0 : i - rows.length = 0 := by
        have := (List.getElem?_eq_some_iff.1 hr).1
        simp at this; omega
      rw [hi0] at hr
      simp only [List.getElem?_cons_zero, Option.some.injEq] at hr
      subst hr
      have : i = j := by omega
      subst this
      rw [hy] at hx; cases hx
      exact hw.more fun z hz => List.mem_append_left _ hz
  · simp only
    refine Imp.cut (M := [A, slA sv' (rows ++ [[cv y.kind, vi y.n, uv y.bits, .string y.text, .slice e2 y.items.length c2]]).flatten sp', B2, B]) (by exact IMx) (Imp.perm (by simp))
theorem own_spec (A : List Atom) : ∀ (N : Nat) (x : Lt), x.size ≤ N → x.size ≤ 274877906944 → ∀ vs, LtRd A x vs → Fun Tryz.prog 97 [.agg vs.toArray] [A] (fun v Post => ∃ ws B, v = .agg ws.toArray ∧ LtRd B x ws ∧ Post = [A, B]) := by
  intro N
  induction N with
  | zero => intro x hx; have := x.size_pos; omega
  | succ N ih =>
    intro x hx hb vs h
    cases h with
    | @mk k n b t items a c bk o us wf ha hm hr =>
    simp only [Lt.size] at hx hb
    have hge := sizes_ge items
    have hkids := eachLits_spec A items a c bk o us (by omega) ha hm hr (.func (.func 97) #[] #[]) (fun i x e1 => by
      have h1 := Lt.sizes_mem (List.mem_of_getElem? e1)
      exact FunV.of_fun (first := #[]) (cap := #[]) (ih x (by omega) (by omega) _ (hr i x e1)))
    refine Fun.intro low97 (by simp [n97]) ?_
    refine GOH ?_
    refine st_box (by rfl) (fun q => ?_)
    refine st_alloc (fun q2 => ?_)
    simp only [Value.cells]
    refine GOH ?_
    refine st_call hkids (by rfl) (by exact SPx) (fun v Post hv => ?_)
    obtain ⟨rows, sp, B, h1, h2, h3, h4, rfl⟩ := hv
    simp only [CNx]
    have hmade := lt_made h1 h2 h3 h4 wf
    obtain ⟨a', c', rfl⟩ := h1.form
    refine GOH ?_
    exact ⟨.inr rfl, [.agg #[cv k, vi n, uv b, .string t, .slice a' items.length c']], [A, slA (.slice a' items.length c') rows.flatten sp ++ B], .cellN (us := [cv k, vi n, uv b, .string t, .slice a' items.length c']) (by rfl) (by rfl) (fun y hy => by simp only [List.flatten_cons, List.mem_append]; first | exact .inl hy | exact .inr (.inl hy) | exact .inr (.inr (.inl hy)) | exact .inr (.inr (.inr (.inl hy))) | exact .inr (.inr (.inr (.inr (.inl hy))))) .nil, Imp.cut (M := [A, slA (.slice a' items.length c') rows.flatten sp, B]) (by exact IMx) (Imp.perm (by simp)), ⟨_, _, rfl, hmade, rfl⟩⟩
end Go.Proofs.YtmnmandpdadedaaGreatDoor

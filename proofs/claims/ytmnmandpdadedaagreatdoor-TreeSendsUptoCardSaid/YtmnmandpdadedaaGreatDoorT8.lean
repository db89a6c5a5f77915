/-
  Looks: arguments.
-/
import Derived.Test.YtmnmandpdadedaaGreatDoorT7
import Derived.Test.YtmnmandpdadedaaGreatDoorV12
import Derived.Test.YtmnmandpdadedaaGreatDoorV14
set_option linter.unusedSimpArgs false
set_option linter.unusedVariables false
namespace Go.Proofs.YtmnmandpdadedaaGreatDoor
open Go Go.V
set_option maxHeartbeats 3200000
set_option maxRecDepth 100000
theorem nd_open2 {A : List Atom} {y : Nd} {vs : List Value} (h : NdRd A y vs) : ∃ (e1 : Nat) (e2 : Int) (e3 : Nat) (e4 : ByteArray) (e5 : Option Addr) (e6 e7 : Nat) (e8 : Option Addr) (e9 e10 : Nat) (e11 : Option Addr) (e12 e13 : Nat) (e14 : Option Addr) (e15 e16 : Nat) (e17 : Int),
    vs = [cv y.kind, .string y.name, cv e1, vi e2, uv e3, .string e4, .slice e5 e6 e7, .slice e8 e9 e10, .slice e11 e12 e13, .slice e14 e15 e16, vi e17] ∧ y.name.size ≤ 140737488355328 ∧ y.kind < 256 := by
  cases h with
  | mk wf hl hav htv ha hm hr =>
    obtain ⟨_, _, rfl, _⟩ := hav
    obtain ⟨_, _, rfl, _⟩ := htv
    cases hl with
    | mk wf2 ha2 hm2 hr2 => exact ⟨_, _, _, _, _, _, _, _, _, _, _, _, _, _, _, _, _, rfl, wf.name, wf.kind⟩
structure KidsOk (A : List Atom) (l : List Nd) (a : Option Addr) (bk o : Nat) (us : Nat → List Value) : Prop where
  at_ : 0 < l.length → a = some ⟨bk, o, none⟩
  many : l.length ≤ 140737488355328
  mem : ∀ i, i < l.length → ∀ y ∈ cellsAt bk (o + i * 11) (us i), y ∈ A
  rd : ∀ i x, l[i]? = some x → NdRd A x (us i)
  ok : ∀ i x, l[i]? = some x → NodeOk A x (us i)
theorem arguments_spec (A : List Atom) (l : List Nd) (a : Option Addr) (c bk o : Nat) (us : Nat → List Value) (hk : KidsOk A l a bk o us) (sel : ByteArray) (hsel : sel.size ≤ 140737488355328) (lb : Nat) (m0 deep : Bool) :
    Look 133 [ptr0 lb, .string sel, .slice a l.length c] A lb m0 deep (argsR sel l (l.map nodeD)) := by
  refine FunP.intro low133 (by simp [n133]) ?_
  unfold Go.V.argsR
  rw [valuesR_map]
  obtain ⟨RR, hRR⟩ : ∃ RR, RR = mustR (decide (arityS sel = l.length)) (manyR (decide (15 < arityS sel)) (maxR (l.map fun x => valueR x (argS sel) (nodeD x)))) := ⟨_, rfl⟩
  rw [← hRR]
  have hmany := hk.many
  refine GOH ?_
  refine st_callP (arity_spec sel hsel) (by rfl) ?_
  refine GOH ?_
  by_cases har : arityS sel = (l.length : Int)
  rotate_left
  · have hnone : RR = none := by simp [hRR, mustR, har]
    rw [decide_eq_false har]
    refine GOH ?_
    refine st_callZ (must_spec false) (by rfl) (by exact SPx) (fun v Post hv => absurd hv.1 (by decide)) (fun ch Post hz => ?_)
    obtain ⟨_, rfl, rfl⟩ := hz
    exact ⟨[A, lkA lb m0 deep], by exact IMx, hnone, rfl, m0, rfl⟩
  have hm1 : RR = manyR (decide (15 < arityS sel)) (maxR (l.map fun x => valueR x (argS sel) (nodeD x))) := by simp [hRR, mustR, har]
  rw [decide_eq_true har]
  refine GOH ?_
  refine st_callZ (must_spec true) (by rfl) (by exact SPx) (fun v Post hv => ?_) (fun ch Post hz => absurd hz.1 (by decide))
  obtain ⟨_, rfl, rfl⟩ := hv
  simp only [List.nil_append]
  refine GOH ?_
  obtain ⟨m0', hm0'⟩ : ∃ m0', m0' = m0 := ⟨_, rfl⟩
  cases m0 with
  | true =>
    obtain ⟨mB, hmB⟩ : ∃ b, b = (true || decide (15 < arityS sel)) := ⟨_, rfl⟩
    have hmB0 : mB = true := by rw [hmB, Bool.true_or]
    refine GOH ?_
    refine VC.loop (α := Nat × Nat × Bool) (Γf := fun s => [(0, ptr0 lb), (1, .string sel), (8, vi s.2.1), (29, .slice a l.length c), (30, vi l.length), (31, vi s.1)]) (Hf := fun s => [A, lkA lb (mB || s.2.2) deep])
      (I := fun s => s.1 ≤ l.length ∧ maxR ((l.take s.1).map fun x => valueR x (argS sel) (nodeD x)) = some (s.2.1, s.2.2)) (μ := fun s => l.length - s.1) (0, 0, false) ⟨Nat.zero_le _, rfl⟩ (by exact SUx) (by show Imp _ [A, lkA lb (mB || false) deep]; rw [Bool.or_false, hmB0]; exact IMx) ?_
    rintro ⟨j, d, mm⟩ ⟨i1, i2⟩
    simp only at i1 i2
    dsimp only
    refine GOH ?_
    by_cases hj : j < l.length
    rotate_left
    · rw [show decide ((j : Int) < (l.length : Int)) = false from decide_eq_false (by omega)]
      have htk : l.take j = l := List.take_of_length_le (by omega)
      rw [htk] at i2
      refine GOH ?_
      refine endP_mk (endQ_mk (Post := [A, lkA lb (m0' || (decide (15 < arityS sel) || mm)) deep]) (.inr rfl) (.tmp (by rfl) .nil) ⟨d, _, by rw [hm1, i2]; rfl, rfl, by rw [hm0']⟩ (by rw [hm0', ← Bool.or_assoc, ← hmB]; exact IMx))
    obtain rfl := hk.at_ (by omega)
    rw [show decide ((j : Int) < (l.length : Int)) = true from decide_eq_true (by omega)]
    obtain ⟨y, hy⟩ : ∃ y, l[j]? = some y := ⟨_, List.getElem?_eq_getElem hj⟩
    have hyr := hk.rd j y hy
    have hym := hk.mem j hj
    have hv := value_spec A y _ hyr (hk.ok j y hy) (argS sel) lb (mB || mm) deep
    generalize us j = uj at hyr hym hv
    obtain ⟨e1, e2, e3, e4, e5, e6, e7, e8, e9, e10, e11, e12, e13, e14, e15, e16, e17, rfl, hsz, hkk⟩ := nd_open2 hyr
    have htk : l.take (j + 1) = l.take j ++ [y] := by rw [List.take_add_one, hy]; rfl
    refine GOH ?_
    refine st_loadA (by rfl) (fun z hz => List.mem_append_left _ (hym z hz)) rfl ?_
    refine GOH ?_
    refine st_alloc (fun q => ?_)
    refine GOH ?_
    cases he : valueR y (argS sel) (nodeD y) with
    | some dm =>
      obtain ⟨e, m2⟩ := dm
      rw [he] at hv
      have hvf : FunP Tryz.prog 73 [ptr0 lb, .agg #[cv y.kind, .string y.name, cv e1, vi e2, uv e3, .string e4, .slice e5 e6 e7, .slice e8 e9 e10, .slice e11 e12 e13, .slice e14 e15 e16, vi e17], vi (argS sel)] [A, lkA lb (mB || mm) deep] (fun v Post => v = vi e ∧ Post = [A, lkA lb (mB || mm || m2) deep]) (fun _ _ => False) :=
        FunP.mono hv (fun v Post ⟨d', m', e, h1, h2⟩ => by cases e; exact ⟨h1, h2⟩) (fun ch Post hz => by cases hz.1)
      refine VC.draws ⟨?_, ?_, trivial⟩
      · skip
        refine GOH ?_
        refine st_callP (argument_spec sel hsel) (by rfl) ?_
        refine GOH ?_
        refine st_call hvf.fun (by rfl) (by exact SPx) (fun v Post hv => ?_)
        obtain ⟨rfl, rfl⟩ := hv
        simp only [CNx]
        refine GOH ?_
        rw [show (if (e : Int) > (d : Int) then (e : Int) else (d : Int)) = ((max d e : Nat) : Int) by split <;> omega]
        refine ⟨(j + 1, max d e, mm || m2), ⟨by simp only; omega, ?_⟩, by simp only; omega, by exact SUx, ?_⟩
        · simp only [htk, List.map_append, List.map_cons, List.map_nil, he]
          exact maxR_snoc i2
        · simp only [Bool.or_assoc]
          exact IMx
      · skip
        refine GOH ?_
        refine st_callP (argument_spec sel hsel) (by rfl) ?_
        refine GOH ?_
        refine st_call hvf.fun (by rfl) (by exact SPx) (fun v Post hv => ?_)
        obtain ⟨rfl, rfl⟩ := hv
        simp only [CNx]
        refine GOH ?_
        rw [show (if (e : Int) > (d : Int) then (e : Int) else (d : Int)) = ((max d e : Nat) : Int) by split <;> omega]
        refine ⟨(j + 1, max d e, mm || m2), ⟨by simp only; omega, ?_⟩, by simp only; omega, by exact SUx, ?_⟩
        · simp only [htk, List.map_append, List.map_cons, List.map_nil, he]
          exact maxR_snoc i2
        · simp only [Bool.or_assoc]
          exact IMx
    | none =>
      rw [he] at hv
      have hnone : RR = none := by
        rw [hRR, maxR_none (List.mem_map.2 ⟨y, List.mem_of_getElem? hy, he⟩)]
        unfold mustR; split <;> rfl
      have hvz : FunP Tryz.prog 73 [ptr0 lb, .agg #[cv y.kind, .string y.name, cv e1, vi e2, uv e3, .string e4, .slice e5 e6 e7, .slice e8 e9 e10, .slice e11 e12 e13, .slice e14 e15 e16, vi e17], vi (argS sel)] [A, lkA lb (mB || mm) deep] (fun v Post => False) (fun ch Post => ch = wrongCh ∧ ∃ m, Post = [A, lkA lb m deep]) :=
        FunP.mono hv (fun v Post ⟨d', m', e, _⟩ => by cases e) (fun ch Post hz => hz.2)
      refine VC.drawZ (fun ch H' => ch = wrongCh ∧ ∃ m, Imp H' [A, lkA lb m deep]) (fun H' => H' = [cellsAt q 0 [cv y.kind, .string y.name, cv e1, vi e2, uv e3, .string e4, .slice e5 e6 e7, .slice e8 e9 e10, .slice e11 e12 e13, .slice e14 e15 e16, vi e17], A, lkA lb (mB || mm) deep]) rfl ?_ (fun ch H' hp => ?_)
      · intro rs hrs
        rcases List.mem_cons.1 hrs with rfl | hrs
        · skip
          refine ⟨rfl, vi d, True, fun Γ H hΓ hH => ?_, ?_⟩
          · subst hH
            exact st_mv (hΓ 8 (by decide) _ rfl) (VO.nil ⟨rfl, rfl, trivial⟩)
          refine ⟨rfl, ptr0 lb, True, fun Γ H hΓ hH => ?_, ?_⟩
          · subst hH
            exact st_mv (hΓ 0 (by decide) _ rfl) (VO.nil ⟨rfl, rfl, trivial⟩)
          refine ⟨rfl, .agg #[cv y.kind, .string y.name, cv e1, vi e2, uv e3, .string e4, .slice e5 e6 e7, .slice e8 e9 e10, .slice e11 e12 e13, .slice e14 e15 e16, vi e17], True, fun Γ H hΓ hH => ?_, ?_⟩
          · subst hH
            exact st_loadM (hΓ 10 (by decide) _ rfl) (by (focus ((repeat (first | (apply HasM.cells; omega; (focus (simp only [List.length_cons, List.length_nil, Nat.reduceAdd, Nat.zero_add, Nat.reduceSub, Nat.sub_self, Nat.reduceLeDiff, Nat.le_refl]; done)); (focus (simp only [lnb, Value.cells, Nat.zero_add, Nat.reduceEqDiff, ↓reduceIte, eq_self, Nat.reduceAdd, Nat.reduceSub, Nat.sub_self, Nat.reduceLeDiff, Nat.le_refl, and_self, rep, zeroRow] <;> rfl)); rfl) | apply HasM.there)); done))) (VO.nil ⟨rfl, rfl, trivial⟩)
          refine ⟨rfl, .string sel, True, fun Γ H hΓ hH => ?_, ?_⟩
          · subst hH
            exact st_mv (hΓ 1 (by decide) _ rfl) (VO.nil ⟨rfl, rfl, trivial⟩)
          refine ⟨rfl, vi (argS sel), True, fun Γ H hΓ hH => ?_, ?_⟩
          · subst hH
            exact st_callP (argument_spec sel hsel) (by simp only [V.evs, V.ev, hΓ 38 (by decide) _ rfl]) (VO.nil ⟨rfl, rfl, trivial⟩)
          refine ⟨rfl, vi 0, False, fun Γ H hΓ hH => ?_, ?_⟩
          · subst hH
            refine st_callZ hvz (by simp only [V.evs, V.ev, hΓ 36 (by decide) _ rfl, hΓ 37 (by decide) _ rfl, hΓ 39 (by decide) _ rfl]) (by exact SPx) (fun v Post hv => hv.elim) (fun ch Post hz => ?_)
            obtain ⟨rfl, m, rfl⟩ := hz
            exact ⟨rfl, m, by exact IMx⟩
          refine ⟨rfl, vi d, True, fun Γ H hΓ hH => ?_, ?_⟩
          · subst hH
            exact st_max (a := d) (b := 0) (by simp only [V.ev, hΓ 35 (by decide) _ rfl]) (by simp only [V.ev, hΓ 40 (by decide) _ rfl]; rfl) (VO.nil ⟨by rw [Nat.max_zero], rfl, trivial⟩)
          refine ⟨rfl, vi d, True, fun Γ H hΓ hH => ?_, ?_⟩
          · subst hH
            exact st_mv (hΓ 41 (by decide) _ rfl) (VO.nil ⟨rfl, rfl, trivial⟩)
          exact fun hh => by simp at hh
        rcases List.mem_cons.1 hrs with rfl | hrs
        · skip
          refine ⟨rfl, vi d, True, fun Γ H hΓ hH => ?_, ?_⟩
          · subst hH
            exact st_mv (hΓ 8 (by decide) _ rfl) (VO.nil ⟨rfl, rfl, trivial⟩)
          refine ⟨rfl, ptr0 lb, True, fun Γ H hΓ hH => ?_, ?_⟩
          · subst hH
            exact st_mv (hΓ 0 (by decide) _ rfl) (VO.nil ⟨rfl, rfl, trivial⟩)
          refine ⟨rfl, .string sel, True, fun Γ H hΓ hH => ?_, ?_⟩
          · subst hH
            exact st_mv (hΓ 1 (by decide) _ rfl) (VO.nil ⟨rfl, rfl, trivial⟩)
          refine ⟨rfl, vi (argS sel), True, fun Γ H hΓ hH => ?_, ?_⟩
          · subst hH
            exact st_callP (argument_spec sel hsel) (by simp only [V.evs, V.ev, hΓ 38 (by decide) _ rfl]) (VO.nil ⟨rfl, rfl, trivial⟩)
          refine ⟨rfl, .agg #[cv y.kind, .string y.name, cv e1, vi e2, uv e3, .string e4, .slice e5 e6 e7, .slice e8 e9 e10, .slice e11 e12 e13, .slice e14 e15 e16, vi e17], True, fun Γ H hΓ hH => ?_, ?_⟩
          · subst hH
            exact st_loadM (hΓ 10 (by decide) _ rfl) (by (focus ((repeat (first | (apply HasM.cells; omega; (focus (simp only [List.length_cons, List.length_nil, Nat.reduceAdd, Nat.zero_add, Nat.reduceSub, Nat.sub_self, Nat.reduceLeDiff, Nat.le_refl]; done)); (focus (simp only [lnb, Value.cells, Nat.zero_add, Nat.reduceEqDiff, ↓reduceIte, eq_self, Nat.reduceAdd, Nat.reduceSub, Nat.sub_self, Nat.reduceLeDiff, Nat.le_refl, and_self, rep, zeroRow] <;> rfl)); rfl) | apply HasM.there)); done))) (VO.nil ⟨rfl, rfl, trivial⟩)
          refine ⟨rfl, vi 0, False, fun Γ H hΓ hH => ?_, ?_⟩
          · subst hH
            refine st_callZ hvz (by simp only [V.evs, V.ev, hΓ 36 (by decide) _ rfl, hΓ 37 (by decide) _ rfl, hΓ 39 (by decide) _ rfl]) (by exact SPx) (fun v Post hv => hv.elim) (fun ch Post hz => ?_)
            obtain ⟨rfl, m, rfl⟩ := hz
            exact ⟨rfl, m, by exact IMx⟩
          refine ⟨rfl, vi d, True, fun Γ H hΓ hH => ?_, ?_⟩
          · subst hH
            exact st_max (a := d) (b := 0) (by simp only [V.ev, hΓ 35 (by decide) _ rfl]) (by simp only [V.ev, hΓ 40 (by decide) _ rfl]; rfl) (VO.nil ⟨by rw [Nat.max_zero], rfl, trivial⟩)
          refine ⟨rfl, vi d, True, fun Γ H hΓ hH => ?_, ?_⟩
          · subst hH
            exact st_mv (hΓ 41 (by decide) _ rfl) (VO.nil ⟨rfl, rfl, trivial⟩)
          exact fun hh => by simp at hh
        · cases hrs
      · obtain ⟨rfl, m, hi⟩ := hp
        exact ⟨_, hi, hnone, rfl, m, rfl⟩
  | false =>
    obtain ⟨mB, hmB⟩ : ∃ b, b = (false || decide (15 < arityS sel)) := ⟨_, rfl⟩
    have hmB0 : mB = decide (arityS sel > 15) := by rw [hmB, Bool.false_or]
    refine GOH ?_
    refine VC.loop (α := Nat × Nat × Bool) (Γf := fun s => [(0, ptr0 lb), (1, .string sel), (8, vi s.2.1), (29, .slice a l.length c), (30, vi l.length), (31, vi s.1)]) (Hf := fun s => [A, lkA lb (mB || s.2.2) deep])
      (I := fun s => s.1 ≤ l.length ∧ maxR ((l.take s.1).map fun x => valueR x (argS sel) (nodeD x)) = some (s.2.1, s.2.2)) (μ := fun s => l.length - s.1) (0, 0, false) ⟨Nat.zero_le _, rfl⟩ (by exact SUx) (by show Imp _ [A, lkA lb (mB || false) deep]; rw [Bool.or_false, hmB0]; exact IMx) ?_
    rintro ⟨j, d, mm⟩ ⟨i1, i2⟩
    simp only at i1 i2
    dsimp only
    refine GOH ?_
    by_cases hj : j < l.length
    rotate_left
    · rw [show decide ((j : Int) < (l.length : Int)) = false from decide_eq_false (by omega)]
      have htk : l.take j = l := List.take_of_length_le (by omega)
      rw [htk] at i2
      refine GOH ?_
      refine endP_mk (endQ_mk (Post := [A, lkA lb (m0' || (decide (15 < arityS sel) || mm)) deep]) (.inr rfl) (.tmp (by rfl) .nil) ⟨d, _, by rw [hm1, i2]; rfl, rfl, by rw [hm0']⟩ (by rw [hm0', ← Bool.or_assoc, ← hmB]; exact IMx))
    obtain rfl := hk.at_ (by omega)
    rw [show decide ((j : Int) < (l.length : Int)) = true from decide_eq_true (by omega)]
    obtain ⟨y, hy⟩ : ∃ y, l[j]? = some y := ⟨_, List.getElem?_eq_getElem hj⟩
    have hyr := hk.rd j y hy
    have hym := hk.mem j hj
    have hv := value_spec A y _ hyr (hk.ok j y hy) (argS sel) lb (mB || mm) deep
    generalize us j = uj at hyr hym hv
    obtain ⟨e1, e2, e3, e4, e5, e6, e7, e8, e9, e10, e11, e12, e13, e14, e15, e16, e17, rfl, hsz, hkk⟩ := nd_open2 hyr
    have htk : l.take (j + 1) = l.take j ++ [y] := by rw [List.take_add_one, hy]; rfl
    refine GOH ?_
    refine st_loadA (by rfl) (fun z hz => List.mem_append_left _ (hym z hz)) rfl ?_
    refine GOH ?_
    refine st_alloc (fun q => ?_)
    refine GOH ?_
    cases he : valueR y (argS sel) (nodeD y) with
    | some dm =>
      obtain ⟨e, m2⟩ := dm
      rw [he] at hv
      have hvf : FunP Tryz.prog 73 [ptr0 lb, .agg #[cv y.kind, .string y.name, cv e1, vi e2, uv e3, .string e4, .slice e5 e6 e7, .slice e8 e9 e10, .slice e11 e12 e13, .slice e14 e15 e16, vi e17], vi (argS sel)] [A, lkA lb (mB || mm) deep] (fun v Post => v = vi e ∧ Post = [A, lkA lb (mB || mm || m2) deep]) (fun _ _ => False) :=
        FunP.mono hv (fun v Post ⟨d', m', e, h1, h2⟩ => by cases e; exact ⟨h1, h2⟩) (fun ch Post hz => by cases hz.1)
      refine VC.draws ⟨?_, ?_, trivial⟩
      · skip
        refine GOH ?_
        refine st_callP (argument_spec sel hsel) (by rfl) ?_
        refine GOH ?_
        refine st_call hvf.fun (by rfl) (by exact SPx) (fun v Post hv => ?_)
        obtain ⟨rfl, rfl⟩ := hv
        simp only [CNx]
        refine GOH ?_
        rw [show (if (e : Int) > (d : Int) then (e : Int) else (d : Int)) = ((max d e : Nat) : Int) by split <;> omega]
        refine ⟨(j + 1, max d e, mm || m2), ⟨by simp only; omega, ?_⟩, by simp only; omega, by exact SUx, ?_⟩
        · simp only [htk, List.map_append, List.map_cons, List.map_nil, he]
          exact maxR_snoc i2
        · simp only [Bool.or_assoc]
          exact IMx
      · skip
        refine GOH ?_
        refine st_callP (argument_spec sel hsel) (by rfl) ?_
        refine GOH ?_
        refine st_call hvf.fun (by rfl) (by exact SPx) (fun v Post hv => ?_)
        obtain ⟨rfl, rfl⟩ := hv
        simp only [CNx]
        refine GOH ?_
        rw [show (if (e : Int) > (d : Int) then (e : Int) else (d : Int)) = ((max d e : Nat) : Int) by split <;> omega]
        refine ⟨(j + 1, max d e, mm || m2), ⟨by simp only; omega, ?_⟩, by simp only; omega, by exact SUx, ?_⟩
        · simp only [htk, List.map_append, List.map_cons, List.map_nil, he]
          exact maxR_snoc i2
        · simp only [Bool.or_assoc]
          exact IMx
    | none =>
      rw [he] at hv
      have hnone : RR = none := by
        rw [hRR, maxR_none (List.mem_map.2 ⟨y, List.mem_of_getElem? hy, he⟩)]
        unfold mustR; split <;> rfl
      have hvz : FunP Tryz.prog 73 [ptr0 lb, .agg #[cv y.kind, .string y.name, cv e1, vi e2, uv e3, .string e4, .slice e5 e6 e7, .slice e8 e9 e10, .slice e11 e12 e13, .slice e14 e15 e16, vi e17], vi (argS sel)] [A, lkA lb (mB || mm) deep] (fun v Post => False) (fun ch Post => ch = wrongCh ∧ ∃ m, Post = [A, lkA lb m deep]) :=
        FunP.mono hv (fun v Post ⟨d', m', e, _⟩ => by cases e) (fun ch Post hz => hz.2)
      refine VC.drawZ (fun ch H' => ch = wrongCh ∧ ∃ m, Imp H' [A, lkA lb m deep]) (fun H' => H' = [cellsAt q 0 [cv y.kind, .string y.name, cv e1, vi e2, uv e3, .string e4, .slice e5 e6 e7, .slice e8 e9 e10, .slice e11 e12 e13, .slice e14 e15 e16, vi e17], A, lkA lb (mB || mm) deep]) rfl ?_ (fun ch H' hp => ?_)
      · intro rs hrs
        rcases List.mem_cons.1 hrs with rfl | hrs
        · skip
          refine ⟨rfl, vi d, True, fun Γ H hΓ hH => ?_, ?_⟩
          · subst hH
            exact st_mv (hΓ 8 (by decide) _ rfl) (VO.nil ⟨rfl, rfl, trivial⟩)
          refine ⟨rfl, ptr0 lb, True, fun Γ H hΓ hH => ?_, ?_⟩
          · subst hH
            exact st_mv (hΓ 0 (by decide) _ rfl) (VO.nil ⟨rfl, rfl, trivial⟩)
          refine ⟨rfl, .agg #[cv y.kind, .string y.name, cv e1, vi e2, uv e3, .string e4, .slice e5 e6 e7, .slice e8 e9 e10, .slice e11 e12 e13, .slice e14 e15 e16, vi e17], True, fun Γ H hΓ hH => ?_, ?_⟩
          · subst hH
            exact st_loadM (hΓ 10 (by decide) _ rfl) (by (focus ((repeat (first | (apply HasM.cells; omega; (focus (simp only [List.length_cons, List.length_nil, Nat.reduceAdd, Nat.zero_add, Nat.reduceSub, Nat.sub_self, Nat.reduceLeDiff, Nat.le_refl]; done)); (focus (simp only [lnb, Value.cells, Nat.zero_add, Nat.reduceEqDiff, ↓reduceIte, eq_self, Nat.reduceAdd, Nat.reduceSub, Nat.sub_self, Nat.reduceLeDiff, Nat.le_refl, and_self, rep, zeroRow] <;> rfl)); rfl) | apply HasM.there)); done))) (VO.nil ⟨rfl, rfl, trivial⟩)
          refine ⟨rfl, .string sel, True, fun Γ H hΓ hH => ?_, ?_⟩
          · subst hH
            exact st_mv (hΓ 1 (by decide) _ rfl) (VO.nil ⟨rfl, rfl, trivial⟩)
          refine ⟨rfl, vi (argS sel), True, fun Γ H hΓ hH => ?_, ?_⟩
          · subst hH
            exact st_callP (argument_spec sel hsel) (by simp only [V.evs, V.ev, hΓ 38 (by decide) _ rfl]) (VO.nil ⟨rfl, rfl, trivial⟩)
          refine ⟨rfl, vi 0, False, fun Γ H hΓ hH => ?_, ?_⟩
          · subst hH
            refine st_callZ hvz (by simp only [V.evs, V.ev, hΓ 36 (by decide) _ rfl, hΓ 37 (by decide) _ rfl, hΓ 39 (by decide) _ rfl]) (by exact SPx) (fun v Post hv => hv.elim) (fun ch Post hz => ?_)
            obtain ⟨rfl, m, rfl⟩ := hz
            exact ⟨rfl, m, by exact IMx⟩
          refine ⟨rfl, vi d, True, fun Γ H hΓ hH => ?_, ?_⟩
          · subst hH
            exact st_max (a := d) (b := 0) (by simp only [V.ev, hΓ 35 (by decide) _ rfl]) (by simp only [V.ev, hΓ 40 (by decide) _ rfl]; rfl) (VO.nil ⟨by rw [Nat.max_zero], rfl, trivial⟩)
          refine ⟨rfl, vi d, True, fun Γ H hΓ hH => ?_, ?_⟩
          · subst hH
            exact st_mv (hΓ 41 (by decide) _ rfl) (VO.nil ⟨rfl, rfl, trivial⟩)
          exact fun hh => by simp at hh
        rcases List.mem_cons.1 hrs with rfl | hrs
        · skip
          refine ⟨rfl, vi d, True, fun Γ H hΓ hH => ?_, ?_⟩
          · subst hH
            exact st_mv (hΓ 8 (by decide) _ rfl) (VO.nil ⟨rfl, rfl, trivial⟩)
          refine ⟨rfl, ptr0 lb, True, fun Γ H hΓ hH => ?_, ?_⟩
          · subst hH
            exact st_mv (hΓ 0 (by decide) _ rfl) (VO.nil ⟨rfl, rfl, trivial⟩)
          refine ⟨rfl, .string sel, True, fun Γ H hΓ hH => ?_, ?_⟩
          · subst hH
            exact st_mv (hΓ 1 (by decide) _ rfl) (VO.nil ⟨rfl, rfl, trivial⟩)
          refine ⟨rfl, vi (argS sel), True, fun Γ H hΓ hH => ?_, ?_⟩
          · subst hH
            exact st_callP (argument_spec sel hsel) (by simp only [V.evs, V.ev, hΓ 38 (by decide) _ rfl]) (VO.nil ⟨rfl, rfl, trivial⟩)
          refine ⟨rfl, .agg #[cv y.kind, .string y.name, cv e1, vi e2, uv e3, .string e4, .slice e5 e6 e7, .slice e8 e9 e10, .slice e11 e12 e13, .slice e14 e15 e16, vi e17], True, fun Γ H hΓ hH => ?_, ?_⟩
          · subst hH
            exact st_loadM (hΓ 10 (by decide) _ rfl) (by (focus ((repeat (first | (apply HasM.cells; omega; (focus (simp only [List.length_cons, List.length_nil, Nat.reduceAdd, Nat.zero_add, Nat.reduceSub, Nat.sub_self, Nat.reduceLeDiff, Nat.le_refl]; done)); (focus (simp only [lnb, Value.cells, Nat.zero_add, Nat.reduceEqDiff, ↓reduceIte, eq_self, Nat.reduceAdd, Nat.reduceSub, Nat.sub_self, Nat.reduceLeDiff, Nat.le_refl, and_self, rep, zeroRow] <;> rfl)); rfl) | apply HasM.there)); done))) (VO.nil ⟨rfl, rfl, trivial⟩)
          refine ⟨rfl, vi 0, False, fun Γ H hΓ hH => ?_, ?_⟩
          · subst hH
            refine st_callZ hvz (by simp only [V.evs, V.ev, hΓ 36 (by decide) _ rfl, hΓ 37 (by decide) _ rfl, hΓ 39 (by decide) _ rfl]) (by exact SPx) (fun v Post hv => hv.elim) (fun ch Post hz => ?_)
            obtain ⟨rfl, m, rfl⟩ := hz
            exact ⟨rfl, m, by exact IMx⟩
          refine ⟨rfl, vi d, True, fun Γ H hΓ hH => ?_, ?_⟩
          · subst hH
            exact st_max (a := d) (b := 0) (by simp only [V.ev, hΓ 35 (by decide) _ rfl]) (by simp only [V.ev, hΓ 40 (by decide) _ rfl]; rfl) (VO.nil ⟨by rw [Nat.max_zero], rfl, trivial⟩)
          refine ⟨rfl, vi d, True, fun Γ H hΓ hH => ?_, ?_⟩
          · subst hH
            exact st_mv (hΓ 41 (by decide) _ rfl) (VO.nil ⟨rfl, rfl, trivial⟩)
          exact fun hh => by simp at hh
        · cases hrs
      · obtain ⟨rfl, m, hi⟩ := hp
        exact ⟨_, hi, hnone, rfl, m, rfl⟩
theorem statements_spec (A : List Atom) (l : List Nd) (a : Option Addr) (c bk o : Nat) (us : Nat → List Value) (hk : KidsOk A l a bk o us) (lb : Nat) (m0 deep : Bool) :
    Look 50 [ptr0 lb, .slice a l.length c] A lb m0 deep (maxR (stmtsR l (l.map nodeD))) := by
  refine FunP.intro low50 (by simp [n50]) ?_
  have hmany := hk.many
  refine GOH ?_
  refine VC.loop (α := Nat × Nat × Bool) (Γf := fun s => [(0, ptr0 lb), (1, .slice a l.length c), (5, vi s.2.1), (8, .slice a l.length c), (9, vi l.length), (10, vi s.1)]) (Hf := fun s => [A, lkA lb (m0 || s.2.2) deep])
    (I := fun s => s.1 ≤ l.length ∧ maxR ((stmtsR l (l.map nodeD)).take s.1) = some (s.2.1, s.2.2)) (μ := fun s => l.length - s.1) (0, 0, false) ⟨Nat.zero_le _, rfl⟩ (by exact SUx) (by show Imp _ [A, lkA lb (m0 || false) deep]; rw [Bool.or_false]; exact IMx) ?_
  rintro ⟨j, d, mm⟩ ⟨i1, i2⟩
  simp only at i1 i2
  dsimp only
  refine GOH ?_
  by_cases hj : j < l.length
  rotate_left
  · rw [show decide ((j : Int) < (l.length : Int)) = false from decide_eq_false (by omega)]
    rw [List.take_of_length_le (by rw [stmtsR_len]; omega)] at i2
    refine GOH ?_
    refine endP_mk (endQ_mk (Post := [A, lkA lb (m0 || mm) deep]) (.inr rfl) (.tmp (by rfl) .nil) ⟨d, mm, i2, rfl, rfl⟩ (by exact IMx))
  obtain rfl := hk.at_ (by omega)
  rw [show decide ((j : Int) < (l.length : Int)) = true from decide_eq_true (by omega)]
  obtain ⟨y, hy⟩ : ∃ y, l[j]? = some y := ⟨_, List.getElem?_eq_getElem hj⟩
  have hyr := hk.rd j y hy
  have hym := hk.mem j hj
  have hget := stmtsR_get l j y hy
  have hok := hk.ok j y hy
  generalize us j = uj at hyr hym hok
  obtain ⟨e1, e2, e3, e4, e5, e6, e7, e8, e9, e10, e11, e12, e13, e14, e15, e16, e17, rfl, hsz, hkk⟩ := nd_open2 hyr
  refine GOH ?_
  refine st_loadA (by rfl) (fun z hz => List.mem_append_left _ (hym z hz)) rfl ?_
  refine GOH ?_
  refine st_alloc (fun q => ?_)
  refine GOH ?_
  by_cases h9 : y.kind = 9
  · rw [show decide ((y.kind : Int) = 9) = true from decide_eq_true (by omega)]
    refine GOH ?_
    by_cases hl : j + 1 = l.length
    · rw [show decide ((j : Int) = (l.length : Int) - 1) = true from decide_eq_true (by omega)]
      rw [if_pos ⟨h9, hl⟩] at hget
      have hv := hok.1 lb (m0 || mm) deep
      refine GOH ?_
      refine st_callZ hv (by rfl) (by exact SPx) (fun v Post hv => ?_) (fun ch Post hz => ?_)
      rotate_left
      · obtain ⟨hb, rfl, m2, rfl⟩ := hz
        exact ⟨[A, lkA lb m2 deep], by exact IMx, maxR_none (by rw [← hb]; exact List.mem_of_getElem? hget), rfl, m2, rfl⟩
      obtain ⟨e, m2, he, rfl, rfl⟩ := hv
      simp only [CNx]
      refine GOH ?_
      rw [show (if (e : Int) > (d : Int) then (e : Int) else (d : Int)) = ((max d e : Nat) : Int) by split <;> omega]
      refine ⟨(j + 1, max d e, mm || m2), ⟨by simp only; omega, ?_⟩, by simp only; omega, by exact SUx, ?_⟩
      · simp only
        rw [List.take_add_one, hget, he]
        exact maxR_snoc i2
      · simp only [Bool.or_assoc]
        exact IMx
    · rw [show decide ((j : Int) = (l.length : Int) - 1) = false from decide_eq_false (by omega)]
      rw [if_neg (fun h => hl h.2)] at hget
      have hv := value_spec A y _ hyr hok 1 lb (m0 || mm) deep
      refine GOH ?_
      refine st_callZ hv (by rfl) (by exact SPx) (fun v Post hv => ?_) (fun ch Post hz => ?_)
      rotate_left
      · obtain ⟨hb, rfl, m2, rfl⟩ := hz
        exact ⟨[A, lkA lb m2 deep], by exact IMx, maxR_none (by rw [← hb]; exact List.mem_of_getElem? hget), rfl, m2, rfl⟩
      obtain ⟨e, m2, he, rfl, rfl⟩ := hv
      simp only [CNx]
      refine GOH ?_
      rw [show (if (e : Int) > (d : Int) then (e : Int) else (d : Int)) = ((max d e : Nat) : Int) by split <;> omega]
      refine ⟨(j + 1, max d e, mm || m2), ⟨by simp only; omega, ?_⟩, by simp only; omega, by exact SUx, ?_⟩
      · simp only
        rw [List.take_add_one, hget, he]
        exact maxR_snoc i2
      · simp only [Bool.or_assoc]
        exact IMx
  · rw [show decide ((y.kind : Int) = 9) = false from decide_eq_false (by omega)]
    rw [if_neg (fun h => h9 h.1)] at hget
    have hv := value_spec A y _ hyr hok 1 lb (m0 || mm) deep
    refine GOH ?_
    refine st_callZ hv (by rfl) (by exact SPx) (fun v Post hv => ?_) (fun ch Post hz => ?_)
    rotate_left
    · obtain ⟨hb, rfl, m2, rfl⟩ := hz
      exact ⟨[A, lkA lb m2 deep], by exact IMx, maxR_none (by rw [← hb]; exact List.mem_of_getElem? hget), rfl, m2, rfl⟩
    obtain ⟨e, m2, he, rfl, rfl⟩ := hv
    simp only [CNx]
    refine GOH ?_
    rw [show (if (e : Int) > (d : Int) then (e : Int) else (d : Int)) = ((max d e : Nat) : Int) by split <;> omega]
    refine ⟨(j + 1, max d e, mm || m2), ⟨by simp only; omega, ?_⟩, by simp only; omega, by exact SUx, ?_⟩
    · simp only
      rw [List.take_add_one, hget, he]
      exact maxR_snoc i2
    · simp only [Bool.or_assoc]
      exact IMx
theorem nd_open3 {A : List Atom} {y : Nd} {vs : List Value} (h : NdRd A y vs) : ∃ (e1 : Nat) (e2 : Int) (e3 : Nat) (e4 : ByteArray) (e5 : Option Addr) (e6 e7 : Nat) (e8 : Option Addr) (e9 e10 : Nat) (e11 : Option Addr) (e12 e13 : Nat) (e14 : Option Addr) (e15 e16 : Nat),
    vs = [cv y.kind, .string y.name, cv e1, vi e2, uv e3, .string e4, .slice e5 e6 e7, .slice e8 e9 e10, .slice e11 e12 e13, .slice e14 e15 e16, vi y.at_] := by
  cases h with
  | mk wf hl hav htv ha hm hr =>
    obtain ⟨_, _, rfl, _⟩ := hav
    obtain ⟨_, _, rfl, _⟩ := htv
    cases hl with
    | mk wf2 ha2 hm2 hr2 => exact ⟨_, _, _, _, _, _, _, _, _, _, _, _, _, _, _, _, rfl⟩
structure NodeS where
  d : Nat
  mm : Bool
  name : ByteArray
  lk : Nat
  ln : Int
  lb : Nat
  lt : ByteArray
  la : Option Addr
  li : Nat
  lc : Nat
  aa : Option Addr
  an : Nat
  ac : Nat
  ta : Option Addr
  tn : Nat
  tc : Nat
def NodeS.ok (s : NodeS) : Prop := s.name.size = 0 ∧ s.an = 0 ∧ s.tn = 0 ∧ s.lk = 0 ∧ s.ln = 0 ∧ s.lb = 0 ∧ s.lt.size = 0 ∧ s.li = 0
instance nodeSDec (s : NodeS) : Decidable s.ok := by unfold NodeS.ok; infer_instance
abbrev NodeS.cells (s : NodeS) (k : Nat) (p : Int) : List Value := [cv k, .string s.name, cv s.lk, vi s.ln, uv s.lb, .string s.lt, .slice s.la s.li s.lc, .slice s.aa s.an s.ac, .slice s.ta s.tn s.tc, .slice none 0 0, vi p]
def nodeSw : IC := match F96.body with
  | .seq _ (.seq _ (.seq _ (.seq _ (.seq x _)))) => x
  | _ => .skip
def NodeSw (A : List Atom) (x : Nd) (vs : List Value) : Prop := ∀ (lb q r : Nat) (m0 deep : Bool),
  VC Tryz.prog F96.n nodeSw [(0, ptr0 lb), (3, ptr0 q), (5, ptr0 r), (6, vi 0)] [cellsAt r 0 (vs.set 9 (.slice none 0 0)), cellsAt q 0 vs, A, lkA lb m0 deep]
    (thenQ (fun Γ' H' => ∃ s : NodeS, (nodeD x = if s.ok then some (s.d, s.mm) else none) ∧ V.Sub Γ' [(5, ptr0 r), (6, vi s.d)] ∧ Imp H' [A, lkA lb (m0 || s.mm) deep, cellsAt r 0 (s.cells x.kind x.at_)])
      (endP F96.res (LkQ A lb m0 deep (nodeD x)) (LkZ A lb deep (nodeD x))))
theorem node_of (A : List Atom) (x : Nd) (vs : List Value) (h : NdRd A x vs) (hs : NodeSw A x vs) (lb : Nat) (m0 deep : Bool) : Look 96 [ptr0 lb, .agg vs.toArray] A lb m0 deep (nodeD x) := by
  have hsw := hs lb
  obtain ⟨e1, e2, e3, e4, e5, e6, e7, e8, e9, e10, e11, e12, e13, e14, e15, e16, rfl⟩ := nd_open3 h
  refine FunP.intro low96 (by simp [n96]) ?_
  refine GOHS ?_
  refine st_box (by rfl) (fun q => ?_)
  simp only [Value.cells]
  refine GOHS ?_
  refine st_alloc (fun r => ?_)
  refine GOHS ?_
  refine VC.join (α := NodeS) (fun s => [(5, ptr0 r), (6, vi s.d)]) (fun s => [A, lkA lb (m0 || s.mm) deep, cellsAt r 0 (s.cells x.kind x.at_)])
    (fun s => nodeD x = if s.ok then some (s.d, s.mm) else none) ?_ ?_
  · exact hsw q r m0 deep
  · rintro ⟨d, mm, name, lk, ln, lbt, lt, la, li, lc, aa, an, ac, ta, tn, tc⟩ hR
    simp only at hR
    rw [hR]
    unfold NodeS.ok
    simp only
    refine GOHS ?_
    refine st_alloc (fun q2 => ?_)
    refine GOHS ?_
    by_cases h1 : name = ⟨#[]⟩
    rotate_left
    · have hno : ¬ (name.size = 0 ∧ an = 0 ∧ tn = 0 ∧ lk = 0 ∧ ln = 0 ∧ lbt = 0 ∧ lt.size = 0 ∧ li = 0) := fun h => h1 (ByteArray.ext (Array.eq_empty_of_size_eq_zero h.1))
      rw [decide_eq_false h1]
      refine GOHS ?_
      refine st_callZ (must_spec false) (by rfl) (by exact SPx) (fun v Post hv => absurd hv.1 (by decide)) (fun ch Post hz => ?_)
      obtain ⟨_, rfl, rfl⟩ := hz
      exact ⟨[A, lkA lb (m0 || mm) deep], by exact IMx, if_neg hno, rfl, _, rfl⟩
    rw [decide_eq_true h1]
    refine GOHS ?_
    by_cases h2 : an = 0
    rotate_left
    · have hno : ¬ (name.size = 0 ∧ an = 0 ∧ tn = 0 ∧ lk = 0 ∧ ln = 0 ∧ lbt = 0 ∧ lt.size = 0 ∧ li = 0) := fun h => h2 h.2.1
      rw [show decide ((an : Int) = 0) = false from decide_eq_false (by omega)]
      refine GOHS ?_
      refine st_callZ (must_spec false) (by rfl) (by exact SPx) (fun v Post hv => absurd hv.1 (by decide)) (fun ch Post hz => ?_)
      obtain ⟨_, rfl, rfl⟩ := hz
      exact ⟨[A, lkA lb (m0 || mm) deep], by exact IMx, if_neg hno, rfl, _, rfl⟩
    rw [show decide ((an : Int) = 0) = true from decide_eq_true (by omega)]
    refine GOHS ?_
    by_cases h3 : tn = 0
    rotate_left
    · have hno : ¬ (name.size = 0 ∧ an = 0 ∧ tn = 0 ∧ lk = 0 ∧ ln = 0 ∧ lbt = 0 ∧ lt.size = 0 ∧ li = 0) := fun h => h3 h.2.2.1
      rw [show decide ((tn : Int) = 0) = false from decide_eq_false (by omega)]
      refine GOHS ?_
      refine st_callZ (must_spec false) (by rfl) (by exact SPx) (fun v Post hv => absurd hv.1 (by decide)) (fun ch Post hz => ?_)
      obtain ⟨_, rfl, rfl⟩ := hz
      exact ⟨[A, lkA lb (m0 || mm) deep], by exact IMx, if_neg hno, rfl, _, rfl⟩
    rw [show decide ((tn : Int) = 0) = true from decide_eq_true (by omega)]
    refine GOHS ?_
    by_cases h4 : lk = 0
    rotate_left
    · have hno : ¬ (name.size = 0 ∧ an = 0 ∧ tn = 0 ∧ lk = 0 ∧ ln = 0 ∧ lbt = 0 ∧ lt.size = 0 ∧ li = 0) := fun h => h4 h.2.2.2.1
      rw [show decide ((lk : Int) = 0) = false from decide_eq_false (by omega)]
      refine GOHS ?_
      refine st_callZ (must_spec false) (by rfl) (by exact SPx) (fun v Post hv => absurd hv.1 (by decide)) (fun ch Post hz => ?_)
      obtain ⟨_, rfl, rfl⟩ := hz
      exact ⟨[A, lkA lb (m0 || mm) deep], by exact IMx, if_neg hno, rfl, _, rfl⟩
    rw [show decide ((lk : Int) = 0) = true from decide_eq_true (by omega)]
    refine GOHS ?_
    by_cases h5 : ln = 0
    rotate_left
    · have hno : ¬ (name.size = 0 ∧ an = 0 ∧ tn = 0 ∧ lk = 0 ∧ ln = 0 ∧ lbt = 0 ∧ lt.size = 0 ∧ li = 0) := fun h => h5 h.2.2.2.2.1
      rw [decide_eq_false h5]
      refine GOHS ?_
      refine st_callZ (must_spec false) (by rfl) (by exact SPx) (fun v Post hv => absurd hv.1 (by decide)) (fun ch Post hz => ?_)
      obtain ⟨_, rfl, rfl⟩ := hz
      exact ⟨[A, lkA lb (m0 || mm) deep], by exact IMx, if_neg hno, rfl, _, rfl⟩
    rw [decide_eq_true h5]
    refine GOHS ?_
    by_cases h6 : lbt = 0
    rotate_left
    · have hno : ¬ (name.size = 0 ∧ an = 0 ∧ tn = 0 ∧ lk = 0 ∧ ln = 0 ∧ lbt = 0 ∧ lt.size = 0 ∧ li = 0) := fun h => h6 h.2.2.2.2.2.1
      rw [show decide ((lbt : Int) = 0) = false from decide_eq_false (by omega)]
      refine GOHS ?_
      refine st_callZ (must_spec false) (by rfl) (by exact SPx) (fun v Post hv => absurd hv.1 (by decide)) (fun ch Post hz => ?_)
      obtain ⟨_, rfl, rfl⟩ := hz
      exact ⟨[A, lkA lb (m0 || mm) deep], by exact IMx, if_neg hno, rfl, _, rfl⟩
    rw [show decide ((lbt : Int) = 0) = true from decide_eq_true (by omega)]
    refine GOHS ?_
    by_cases h7 : lt = ⟨#[]⟩
    rotate_left
    · have hno : ¬ (name.size = 0 ∧ an = 0 ∧ tn = 0 ∧ lk = 0 ∧ ln = 0 ∧ lbt = 0 ∧ lt.size = 0 ∧ li = 0) := fun h => h7 (ByteArray.ext (Array.eq_empty_of_size_eq_zero h.2.2.2.2.2.2.1))
      rw [decide_eq_false h7]
      refine GOHS ?_
      refine st_callZ (must_spec false) (by rfl) (by exact SPx) (fun v Post hv => absurd hv.1 (by decide)) (fun ch Post hz => ?_)
      obtain ⟨_, rfl, rfl⟩ := hz
      exact ⟨[A, lkA lb (m0 || mm) deep], by exact IMx, if_neg hno, rfl, _, rfl⟩
    rw [decide_eq_true h7]
    refine GOHS ?_
    by_cases h8 : li = 0
    rotate_left
    · have hno : ¬ (name.size = 0 ∧ an = 0 ∧ tn = 0 ∧ lk = 0 ∧ ln = 0 ∧ lbt = 0 ∧ lt.size = 0 ∧ li = 0) := fun h => h8 h.2.2.2.2.2.2.2
      rw [show decide ((li : Int) = 0) = false from decide_eq_false (by omega)]
      refine GOHS ?_
      refine st_callZ (must_spec false) (by rfl) (by exact SPx) (fun v Post hv => absurd hv.1 (by decide)) (fun ch Post hz => ?_)
      obtain ⟨_, rfl, rfl⟩ := hz
      exact ⟨[A, lkA lb (m0 || mm) deep], by exact IMx, if_neg hno, rfl, _, rfl⟩
    rw [show decide ((li : Int) = 0) = true from decide_eq_true (by omega)]
    refine GOHS ?_
    refine st_callZ (must_spec true) (by rfl) (by exact SPx) (fun v Post hv => ?_) (fun ch Post hz => absurd hz.1 (by decide))
    obtain ⟨_, rfl, rfl⟩ := hv
    simp only [List.nil_append]
    refine GOHS ?_
    exact endP_mk (endQ_mk (Post := [A, lkA lb (m0 || mm) deep]) (.inr rfl) (.tmp (by rfl) .nil) ⟨d, mm, if_pos ⟨by rw [h1]; rfl, h2, h3, h4, h5, h6, by rw [h7]; rfl, h8⟩, rfl, rfl⟩ (by exact IMx))
end Go.Proofs.YtmnmandpdadedaaGreatDoor

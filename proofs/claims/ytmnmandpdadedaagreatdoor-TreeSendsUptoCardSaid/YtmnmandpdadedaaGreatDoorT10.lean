/-
  Looks: blocks and braces.
-/
import Derived.Test.YtmnmandpdadedaaGreatDoorT8
import Derived.Test.YtmnmandpdadedaaGreatDoorT9
set_option linter.unusedSimpArgs false
set_option linter.unusedVariables false
namespace Go.Proofs.YtmnmandpdadedaaGreatDoor
open Go Go.V
set_option maxHeartbeats 3200000
set_option maxRecDepth 100000
theorem node_k7 (A : List Atom) (hE : ErA A) (x : Nd) (vs : List Value) (h : NdRd A x vs) (hw : x.w ≤ 274877906944) (hok : ∀ y us, y ∈ x.kids → NdRd A y us → NodeOk A y us) (hk : x.kind = 7) : NodeSw A x vs := by
  intro lb q r m0 deep
  cases h with
  | @mk k s lit args temps kids p lv av tv a c bk o us wf hl hav htv ha hm hr hcp =>
  simp only [Nd.kind] at hk
  have hl2 := hl
  cases hl2 with
  | @mk lk ln lbt lt items la lc lbk lo lus lwf lha lhm lhr =>
  have hav2 := hav
  have htv2 := htv
  obtain ⟨aa, ac, rfl, hal, har⟩ := hav2
  obtain ⟨ta, tc, rfl, htl, htr⟩ := htv2
  have hkids : KidsOk A kids a bk o us := ⟨ha, wf.many, hm, hr, fun i y e => hok y (us i) (List.mem_of_getElem? e) (hr i y e)⟩
  have hns := wf.name
  have hmany := wf.many
  simp only [Nd.w] at hw
  obtain ⟨RR, hRR⟩ : ∃ RR, RR = nodeD (.mk k s (.mk lk ln lbt lt items) args temps kids p) := ⟨_, rfl⟩
  rw [← hRR]
  rw [show nodeD (.mk k s (.mk lk ln lbt lt items) args temps kids p) = nodeR k s (.mk lk ln lbt lt items) args temps kids (kids.map nodeD) by simp [nodeD, nodesD_map]] at hRR
  show VC _ _ _ _ [cellsAt r 0 [cv k, .string s, cv lk, vi ln, uv lbt, .string lt, .slice la items.length lc, .slice aa args.length ac, .slice ta temps.length tc, .slice none 0 0, vi p], cellsAt q 0 [cv k, .string s, cv lk, vi ln, uv lbt, .string lt, .slice la items.length lc, .slice aa args.length ac, .slice ta temps.length tc, .slice a kids.length c, vi p], A, lkA lb m0 deep] _
  subst hk
  refine GOH ?_
  refine st_callZ (names_spec A _ args hav lb 15 m0 deep) (by rfl) (by exact SPx) (fun v Post hv => ?_) (fun ch Post hz => ?_)
  rotate_left
  · obtain ⟨hb, rfl, m2, rfl⟩ := hz
    exact ⟨[A, lkA lb m2 deep], by exact IMx, by simp [hRR, nodeR, mustR, namesR, hb], rfl, m2, rfl⟩
  obtain ⟨hf1, rfl, rfl⟩ := hv
  obtain ⟨m1, hm1⟩ : ∃ m1, m1 = (m0 || decide (15 < args.length)) := ⟨_, rfl⟩
  rw [← hm1]
  simp only [CNx]
  refine GOH ?_
  refine st_callZ (names_spec A _ temps htv lb 63 m1 deep) (by rfl) (by exact SPx) (fun v Post hv => ?_) (fun ch Post hz => ?_)
  rotate_left
  · obtain ⟨hb, rfl, m2, rfl⟩ := hz
    have hnone : RR = none := by
      simp only [hRR, nodeR, namesR, hb]
      simp [mustR, manyR]
    exact ⟨[A, lkA lb m2 deep], by exact IMx, hnone, rfl, m2, rfl⟩
  obtain ⟨hf2, rfl, rfl⟩ := hv
  obtain ⟨m2, hm2⟩ : ∃ m2, m2 = (m1 || decide (63 < temps.length)) := ⟨_, rfl⟩
  rw [← hm2]
  simp only [CNx]
  refine GOH ?_
  refine st_callZ (statements_spec A kids a c bk o us hkids lb m2 deep) (by rfl) (by exact SPx) (fun v Post hv => ?_) (fun ch Post hz => ?_)
  rotate_left
  · obtain ⟨hb, rfl, m3, rfl⟩ := hz
    have hnone : RR = none := by
      simp only [hRR, nodeR, namesR, hb, deeper, manyR]
      simp [mustR]
    exact ⟨[A, lkA lb m3 deep], by exact IMx, hnone, rfl, m3, rfl⟩
  obtain ⟨d, m3, he, rfl, rfl⟩ := hv
  have hdb : d ≤ 1099511627777 := maxR_le (fun r hr d m e => by
    obtain ⟨j, hj⟩ := List.getElem?_of_mem hr
    have hjl := (List.getElem?_eq_some_iff.1 hj).1
    rw [stmtsR_len] at hjl
    have hy := List.getElem?_eq_getElem hjl
    have hget := stmtsR_get kids j kids[j] hy
    rw [hget] at hj
    have hb := (hkids.ok j _ hy).2
    split at hj
    · cases hj; have := hb d m e; omega
    · cases hj; exact valueR_le hb e) he
  simp only [CNx]
  refine GOH ?_
  refine ⟨⟨d + 1, decide (15 < args.length) || (decide (63 < temps.length) || m3), s, lk, ln, lbt, lt, la, items.length, lc, none, 0, 0, none, 0, 0⟩, ?_, by exact SUx, ?_⟩
  · simp only [hRR, nodeR, namesR, hf1, hf2, he, deeper, manyR]
    simp [NodeS.ok, mustR, litZ, Lt.kind, Lt.n, Lt.bits, Lt.text, Lt.items]
  · rw [show (m0 || (decide (15 < args.length) || (decide (63 < temps.length) || m3))) = (m2 || m3) by rw [hm2, hm1]; simp only [Bool.or_assoc]]
    show Imp _ [A, lkA lb (m2 || m3) deep, cellsAt r 0 [cv 7, .string s, cv lk, vi ln, uv lbt, .string lt, .slice la items.length lc, .slice none 0 0, .slice none 0 0, .slice none 0 0, vi p]]
    exact IMx
theorem node_k8 (A : List Atom) (hE : ErA A) (x : Nd) (vs : List Value) (h : NdRd A x vs) (hw : x.w ≤ 274877906944) (hok : ∀ y us, y ∈ x.kids → NdRd A y us → NodeOk A y us) (hk : x.kind = 8) : NodeSw A x vs := by
  intro lb q r m0 deep
  cases h with
  | @mk k s lit args temps kids p lv av tv a c bk o us wf hl hav htv ha hm hr hcp =>
  simp only [Nd.kind] at hk
  have hl2 := hl
  cases hl2 with
  | @mk lk ln lbt lt items la lc lbk lo lus lwf lha lhm lhr =>
  have hav2 := hav
  have htv2 := htv
  obtain ⟨aa, ac, rfl, hal, har⟩ := hav2
  obtain ⟨ta, tc, rfl, htl, htr⟩ := htv2
  have hkids : KidsOk A kids a bk o us := ⟨ha, wf.many, hm, hr, fun i y e => hok y (us i) (List.mem_of_getElem? e) (hr i y e)⟩
  have hns := wf.name
  have hmany := wf.many
  simp only [Nd.w] at hw
  obtain ⟨RR, hRR⟩ : ∃ RR, RR = nodeD (.mk k s (.mk lk ln lbt lt items) args temps kids p) := ⟨_, rfl⟩
  rw [← hRR]
  rw [show nodeD (.mk k s (.mk lk ln lbt lt items) args temps kids p) = nodeR k s (.mk lk ln lbt lt items) args temps kids (kids.map nodeD) by simp [nodeD, nodesD_map]] at hRR
  show VC _ _ _ _ [cellsAt r 0 [cv k, .string s, cv lk, vi ln, uv lbt, .string lt, .slice la items.length lc, .slice aa args.length ac, .slice ta temps.length tc, .slice none 0 0, vi p], cellsAt q 0 [cv k, .string s, cv lk, vi ln, uv lbt, .string lt, .slice la items.length lc, .slice aa args.length ac, .slice ta temps.length tc, .slice a kids.length c, vi p], A, lkA lb m0 deep] _
  subst hk
  have hR8 : RR = mustR (decide (s.size = 0 ∧ args.length = 0 ∧ temps.length = 0) && litZ (.mk lk ln lbt lt items)) (deeper (manyR (decide (255 < kids.length)) (maxR (kids.map fun y => valueR y 1 (nodeD y))))) := by
    rw [hRR, ← valuesR_map]; rfl
  obtain ⟨m0', hm0'⟩ : ∃ m0', m0' = m0 := ⟨_, rfl⟩
  cases m0 with
  | true =>
    obtain ⟨mB, hmB⟩ : ∃ b, b = (true || decide (255 < kids.length)) := ⟨_, rfl⟩
    have hmB0 : mB = true := by rw [hmB, Bool.true_or]
    refine GOH ?_
    refine VC.loop (α := Nat × Nat × Bool) (Γf := fun s => [(0, ptr0 lb), (5, ptr0 r), (6, vi s.2.1), (185, .slice a kids.length c), (186, vi kids.length), (187, vi s.1)]) (Hf := fun z => [A, lkA lb (mB || z.2.2) deep, cellsAt r 0 [cv 8, .string s, cv lk, vi ln, uv lbt, .string lt, .slice la items.length lc, .slice aa args.length ac, .slice ta temps.length tc, .slice none 0 0, vi p]])
      (I := fun s => s.1 ≤ kids.length ∧ maxR ((kids.take s.1).map fun x => valueR x 1 (nodeD x)) = some (s.2.1, s.2.2)) (μ := fun s => kids.length - s.1) (0, 0, false) ⟨Nat.zero_le _, rfl⟩ (by exact SUx) (by show Imp _ [A, lkA lb (mB || false) deep, cellsAt r 0 [cv 8, .string s, cv lk, vi ln, uv lbt, .string lt, .slice la items.length lc, .slice aa args.length ac, .slice ta temps.length tc, .slice none 0 0, vi p]]; rw [Bool.or_false, hmB0]; exact IMx) ?_
    rintro ⟨j, d, mm⟩ ⟨i1, i2⟩
    simp only at i1 i2
    dsimp only
    have hdb : d ≤ 1099511627777 := maxR_le (fun r hr d m e => by
      obtain ⟨y, hy, rfl⟩ := List.mem_map.1 hr
      obtain ⟨i, hi⟩ := List.getElem?_of_mem (List.mem_of_mem_take hy)
      exact valueR_le (hkids.ok i _ hi).2 e) i2
    refine GOH ?_
    by_cases hj : j < kids.length
    rotate_left
    · rw [show decide ((j : Int) < (kids.length : Int)) = false from decide_eq_false (by omega)]
      rw [List.take_of_length_le (by omega)] at i2
      refine GOH ?_
      refine ⟨⟨d + 1, decide (255 < kids.length) || mm, s, lk, ln, lbt, lt, la, items.length, lc, aa, args.length, ac, ta, temps.length, tc⟩, ?_, by exact SUx, ?_⟩
      · simp only [hR8, i2, deeper, manyR]
        simp [NodeS.ok, mustR, litZ, Lt.kind, Lt.n, Lt.bits, Lt.text, Lt.items]
        simp only [and_assoc]
      · simp only
        rw [← Bool.or_assoc, ← hmB]
        show Imp _ [A, lkA lb (mB || mm) deep, cellsAt r 0 [cv 8, .string s, cv lk, vi ln, uv lbt, .string lt, .slice la items.length lc, .slice aa args.length ac, .slice ta temps.length tc, .slice none 0 0, vi p]]
        exact IMx
    obtain rfl := ha (by omega)
    rw [show decide ((j : Int) < (kids.length : Int)) = true from decide_eq_true (by omega)]
    obtain ⟨y, hy⟩ : ∃ y, kids[j]? = some y := ⟨_, List.getElem?_eq_getElem hj⟩
    have hyr := hr j y hy
    have hym := hm j hj
    have hv := value_spec A y _ hyr (hkids.ok j y hy) 1 lb (mB || mm) deep
    generalize us j = uj at hyr hym hv
    obtain ⟨e1, e2, e3, e4, e5, e6, e7, e8, e9, e10, e11, e12, e13, e14, e15, e16, e17, rfl, hsz, hkk⟩ := nd_open2 hyr
    have htk : kids.take (j + 1) = kids.take j ++ [y] := by rw [List.take_add_one, hy]; rfl
    refine GOH ?_
    refine st_loadA (by rfl) (fun z hz => List.mem_append_left _ (hym z hz)) rfl ?_
    refine GOH ?_
    refine st_alloc (fun q9 => ?_)
    refine GOH ?_
    refine st_callZ hv (by rfl) (by exact SPx) (fun v Post hv => ?_) (fun ch Post hz => ?_)
    rotate_left
    · obtain ⟨hb, rfl, m2, rfl⟩ := hz
      have hnone : RR = none := by
        rw [hR8, maxR_none (List.mem_map.2 ⟨y, List.mem_of_getElem? hy, hb⟩)]
        unfold mustR; split <;> rfl
      exact ⟨[A, lkA lb m2 deep], by exact IMx, hnone, rfl, m2, rfl⟩
    obtain ⟨e, m2, he, rfl, rfl⟩ := hv
    simp only [CNx]
    refine GOH ?_
    rw [show (if (e : Int) > (d : Int) then (e : Int) else (d : Int)) = ((max d e : Nat) : Int) by split <;> omega]
    refine ⟨(j + 1, max d e, mm || m2), ⟨by simp only; omega, ?_⟩, by simp only; omega, by exact SUx, ?_⟩
    · simp only [htk, List.map_append, List.map_cons, List.map_nil, he]
      exact maxR_snoc i2
    · simp only [Bool.or_assoc]
      exact IMx
  | false =>
    obtain ⟨mB, hmB⟩ : ∃ b, b = (false || decide (255 < kids.length)) := ⟨_, rfl⟩
    have hmB0 : mB = decide ((kids.length : Int) > 255) := by
      rw [hmB, Bool.false_or]
      exact decide_eq_decide.2 (by omega)
    refine GOH ?_
    refine VC.loop (α := Nat × Nat × Bool) (Γf := fun s => [(0, ptr0 lb), (5, ptr0 r), (6, vi s.2.1), (185, .slice a kids.length c), (186, vi kids.length), (187, vi s.1)]) (Hf := fun z => [A, lkA lb (mB || z.2.2) deep, cellsAt r 0 [cv 8, .string s, cv lk, vi ln, uv lbt, .string lt, .slice la items.length lc, .slice aa args.length ac, .slice ta temps.length tc, .slice none 0 0, vi p]])
      (I := fun s => s.1 ≤ kids.length ∧ maxR ((kids.take s.1).map fun x => valueR x 1 (nodeD x)) = some (s.2.1, s.2.2)) (μ := fun s => kids.length - s.1) (0, 0, false) ⟨Nat.zero_le _, rfl⟩ (by exact SUx) (by show Imp _ [A, lkA lb (mB || false) deep, cellsAt r 0 [cv 8, .string s, cv lk, vi ln, uv lbt, .string lt, .slice la items.length lc, .slice aa args.length ac, .slice ta temps.length tc, .slice none 0 0, vi p]]; rw [Bool.or_false, hmB0]; exact IMx) ?_
    rintro ⟨j, d, mm⟩ ⟨i1, i2⟩
    simp only at i1 i2
    dsimp only
    have hdb : d ≤ 1099511627777 := maxR_le (fun r hr d m e => by
      obtain ⟨y, hy, rfl⟩ := List.mem_map.1 hr
      obtain ⟨i, hi⟩ := List.getElem?_of_mem (List.mem_of_mem_take hy)
      exact valueR_le (hkids.ok i _ hi).2 e) i2
    refine GOH ?_
    by_cases hj : j < kids.length
    rotate_left
    · rw [show decide ((j : Int) < (kids.length : Int)) = false from decide_eq_false (by omega)]
      rw [List.take_of_length_le (by omega)] at i2
      refine GOH ?_
      refine ⟨⟨d + 1, decide (255 < kids.length) || mm, s, lk, ln, lbt, lt, la, items.length, lc, aa, args.length, ac, ta, temps.length, tc⟩, ?_, by exact SUx, ?_⟩
      · simp only [hR8, i2, deeper, manyR]
        simp [NodeS.ok, mustR, litZ, Lt.kind, Lt.n, Lt.bits, Lt.text, Lt.items]
        simp only [and_assoc]
      · simp only
        rw [← Bool.or_assoc, ← hmB]
        show Imp _ [A, lkA lb (mB || mm) deep, cellsAt r 0 [cv 8, .string s, cv lk, vi ln, uv lbt, .string lt, .slice la items.length lc, .slice aa args.length ac, .slice ta temps.length tc, .slice none 0 0, vi p]]
        exact IMx
    obtain rfl := ha (by omega)
    rw [show decide ((j : Int) < (kids.length : Int)) = true from decide_eq_true (by omega)]
    obtain ⟨y, hy⟩ : ∃ y, kids[j]? = some y := ⟨_, List.getElem?_eq_getElem hj⟩
    have hyr := hr j y hy
    have hym := hm j hj
    have hv := value_spec A y _ hyr (hkids.ok j y hy) 1 lb (mB || mm) deep
    generalize us j = uj at hyr hym hv
    obtain ⟨e1, e2, e3, e4, e5, e6, e7, e8, e9, e10, e11, e12, e13, e14, e15, e16, e17, rfl, hsz, hkk⟩ := nd_open2 hyr
    have htk : kids.take (j + 1) = kids.take j ++ [y] := by rw [List.take_add_one, hy]; rfl
    refine GOH ?_
    refine st_loadA (by rfl) (fun z hz => List.mem_append_left _ (hym z hz)) rfl ?_
    refine GOH ?_
    refine st_alloc (fun q9 => ?_)
    refine GOH ?_
    refine st_callZ hv (by rfl) (by exact SPx) (fun v Post hv => ?_) (fun ch Post hz => ?_)
    rotate_left
    · obtain ⟨hb, rfl, m2, rfl⟩ := hz
      have hnone : RR = none := by
        rw [hR8, maxR_none (List.mem_map.2 ⟨y, List.mem_of_getElem? hy, hb⟩)]
        unfold mustR; split <;> rfl
      exact ⟨[A, lkA lb m2 deep], by exact IMx, hnone, rfl, m2, rfl⟩
    obtain ⟨e, m2, he, rfl, rfl⟩ := hv
    simp only [CNx]
    refine GOH ?_
    rw [show (if (e : Int) > (d : Int) then (e : Int) else (d : Int)) = ((max d e : Nat) : Int) by split <;> omega]
    refine ⟨(j + 1, max d e, mm || m2), ⟨by simp only; omega, ?_⟩, by simp only; omega, by exact SUx, ?_⟩
    · simp only [htk, List.map_append, List.map_cons, List.map_nil, he]
      exact maxR_snoc i2
    · simp only [Bool.or_assoc]
      exact IMx
theorem look_some {f : Nat} {args : List Value} {A : List Atom} {lb : Nat} {m0 deep : Bool} {r : Rs} {d : Nat} {m : Bool} (h : Look f args A lb m0 deep r) (hr : r = some (d, m)) :
    Fun Tryz.prog f args [A, lkA lb m0 deep] (fun v Post => v = vi d ∧ Post = [A, lkA lb (m0 || m) deep]) := by
  refine FunP.fun (FunP.mono h (fun v Post ⟨d', m', e, h1, h2⟩ => ?_) (fun ch Post hz => ?_))
  · rw [hr] at e; cases e; exact ⟨h1, h2⟩
  · rw [hr] at hz; cases hz.1
theorem look_any {f : Nat} {args : List Value} {A : List Atom} {lb : Nat} {deep : Bool} {r : Rs} (h : ∀ m, Look f args A lb m deep r) :
    ∃ (d : Nat) (φ : Prop), (φ → r ≠ none) ∧ ∀ m, FunP Tryz.prog f args [A, lkA lb m deep] (fun v Post => v = vi d ∧ φ ∧ ∃ m', Post = [A, lkA lb m' deep]) (fun ch Post => ch = wrongCh ∧ ∃ m', Post = [A, lkA lb m' deep]) := by
  cases r with
  | none => exact ⟨0, False, fun h => h.elim, fun m => FunP.mono (h m) (fun v Post ⟨d', m', e, _⟩ => by cases e) (fun ch Post hz => hz.2)⟩
  | some p =>
    obtain ⟨d, m1⟩ := p
    exact ⟨d, True, fun _ => by simp, fun m => FunP.mono (h m) (fun v Post ⟨d', m', e, h1, h2⟩ => by cases e; exact ⟨h1, trivial, _, h2⟩) (fun ch Post hz => hz.2)⟩
theorem bothR_none {p q : Rs} (h : p = none ∨ q = none) : bothR p q = none := by
  rcases h with rfl | rfl
  · rfl
  · cases p <;> rfl
end Go.Proofs.YtmnmandpdadedaaGreatDoor

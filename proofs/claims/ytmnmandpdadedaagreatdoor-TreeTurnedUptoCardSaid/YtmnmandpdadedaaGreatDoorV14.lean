/-
  From what is handed in to trees.
-/
import Derived.Test.YtmnmandpdadedaaGreatDoorV13
import Derived.Test.YtmnmandpdadedaaGreatDoorV9
import Derived.Test.YtmnmandpdadedaaGreatDoorV12
set_option linter.unusedSimpArgs false
set_option linter.unusedVariables false
namespace Go.V
open Go Go.ChangeShapes Go.WideShapes Go.Deep
structure Bulk {H : Type} (bulk : DataW H → Nat) : Prop where
  agg : ∀ l d, d ∈ l → bulk d < bulk (.agg l)
  sl : ∀ es sp d, d ∈ es → bulk d < bulk (.slice es sp)
  len : ∀ es sp, es.length ≤ bulk (.slice es sp)
  sls : ∀ es sp, (es.map bulk).sum ≤ bulk (.slice es sp)
  aggs : ∀ l, (l.map bulk).sum < bulk (.agg l)
  str : ∀ bs, bs.length ≤ bulk (.lit (.string bs))
theorem spot_noneV {W : World} {a : Addr} {v : Value} (h : W.cell? a = some v) : a = ⟨a.block, a.off, none⟩ := by
  obtain ⟨b, o, s⟩ := a
  cases s with
  | none => rfl
  | some s =>
    unfold World.cell? at h
    split at h
    · simp at h
    · cases h
section
variable {H : Type} {enc : TypeId × Value → H} {P : Program} {bulk : DataW H → Nat}
theorem rd_rows (hb : Bulk bulk) {t e : TypeId} {sz : Nat} (ht : P.underlying t = some (.slice e)) (hc : P.cellsOf e = sz) (hpos : 0 < sz) {W : World} {u : Value} {n : Nat} {x : DataW H × List MemPlace} {A : List Atom} (h : DataW.trod enc P W 0 (fun _ => true) true n t [u] = some x) (hf : W.noneFrozen x.2) (hA : ∀ a : Atom, a.holds W → a ∈ A) :
    ∃ (a : Option Addr) (k c bk o : Nat) (us : Nat → List Value) (D : Nat → DataW H) (Pl : Nat → List MemPlace) (m : Nat), u = .slice a k c ∧ (k ≤ bulk x.1 ∧ ((List.range' 0 k).map fun i => bulk (D i)).sum ≤ bulk x.1 ∧ k ≤ c) ∧ (0 < k → a = some ⟨bk, o, none⟩) ∧ ∀ i, i < k → bulk (D i) < bulk x.1 ∧ (us i).length = sz ∧ (∀ y ∈ cellsAt bk (o + i * sz) (us i), y ∈ A) ∧ DataW.trod enc P W 0 (fun _ => true) true m e (us i) = some (D i, Pl i) ∧ W.noneFrozen (Pl i) := by
  rcases open_slice ht h with ⟨h1, _⟩ | ⟨a, len, cap, m, n', D, Pl, hcs, _, hl, _, hm, hx, hi⟩
  · simp only [List.cons.injEq, and_true] at h1
    exact ⟨none, 0, 0, 0, 0, fun _ => [], fun _ => .nil, fun _ => [], 0, h1, ⟨Nat.zero_le _, Nat.zero_le _, Nat.le_refl _⟩, fun h => absurd h (Nat.lt_irrefl 0), fun i hi => absurd hi (Nat.not_lt_zero _)⟩
  · simp only [List.cons.injEq, and_true] at hcs
    simp only [if_true] at hm
    subst hm
    subst hx
    rw [hc] at hi
    obtain ⟨us, hus⟩ : ∃ us : Nat → List Value, ∀ i, i < m → W.cells? 0 (a.add (i * sz)) sz = some (us i) ∧ DataW.trod enc P W 0 (fun _ => true) true n' e (us i) = some (D i, Pl i) :=
      ⟨fun i => if h : i < m then (hi i h).choose else [], fun i h => by simp only [dif_pos h]; exact (hi i h).choose_spec⟩
    refine ⟨some a, len, m, a.block, a.off, us, D, Pl, n', hcs, ⟨?_, ?_, by omega⟩, fun hk => ?_, fun i hik => ?_⟩
    · have := hb.len ((List.range len).map D) ((List.range (m - len)).map fun j => D (len + j))
      simpa using this
    · have := hb.sls ((List.range len).map D) ((List.range (m - len)).map fun j => D (len + j))
      rw [List.map_map] at this
      rw [← List.range_eq_range']
      exact this
    · obtain ⟨h0, _⟩ := hus 0 (by omega)
      obtain ⟨_, _, hat⟩ := World.cells?_some h0
      have h00 := hat 0 hpos
      obtain ⟨_, hlen, _⟩ := World.cells?_some h0
      rw [List.getElem?_eq_getElem (by omega)] at h00
      have e1 : (a.add (0 * sz)).add 0 = a := by rw [Nat.zero_mul]; rfl
      rw [e1] at h00
      rw [← spot_noneV h00]
    · obtain ⟨h0, h1⟩ := hus i (by omega)
      obtain ⟨_, hlen, hat⟩ := World.cells?_some h0
      have ha : a = ⟨a.block, a.off, none⟩ := by
        obtain ⟨g0, _⟩ := hus 0 (by omega)
        obtain ⟨_, glen, gat⟩ := World.cells?_some g0
        have h00 := gat 0 hpos
        rw [List.getElem?_eq_getElem (by omega)] at h00
        have e1 : (a.add (0 * sz)).add 0 = a := by rw [Nat.zero_mul]; rfl
        rw [e1] at h00
        exact spot_noneV h00
      refine ⟨hb.sl _ _ _ (List.mem_map.2 ⟨i, List.mem_range.2 hik, rfl⟩), hlen, fun y hy => ?_, h1, fun b o hbo => hf b o ?_⟩
      · obtain ⟨j, v, hj, rfl⟩ := mem_cellsAt.1 hy
        have hjl := (List.getElem?_eq_some_iff.1 hj).1
        have hcell := hat j (by omega)
        rw [ha, add_addr, add_addr, hj] at hcell
        refine hA _ (holds_cell hcell (hf _ _ ?_))
        refine List.mem_append_left _ (MemPlace.mem_row.2 ⟨i * sz + j, ?_, ?_⟩)
        · rw [hc]
          have : (i + 1) * sz ≤ m * sz := Nat.mul_le_mul_right _ (by omega)
          rw [Nat.succ_mul] at this; omega
        · rw [Nat.add_assoc]
      · exact List.mem_append_right _ (List.mem_flatMap.2 ⟨i, List.mem_range.2 (by omega), hbo⟩)
theorem rd_texts (hb : Bulk bulk) {t e : TypeId} (ht : P.underlying t = some (.slice e)) (he : P.underlying e = some .string) (hc : P.cellsOf e = 1) {W : World} {u : Value} {n : Nat} {x : DataW H × List MemPlace} {A : List Atom} (h : DataW.trod enc P W 0 (fun _ => true) true n t [u] = some x) (hf : W.noneFrozen x.2) (hA : ∀ a : Atom, a.holds W → a ∈ A) (hsz : bulk x.1 ≤ 1048576) :
    ∃ l : List ByteArray, RdT A u l ∧ l.length ≤ bulk x.1 := by
  obtain ⟨a, k, c, bk, o, us, D, Pl, m, rfl, ⟨hk, _⟩, ha, hi⟩ := rd_rows hb ht hc (by decide) h hf hA
  obtain ⟨l, hl, hx⟩ := choose_rows (α := ByteArray) (Q := fun i t => Atom.cell bk (o + i) (.string t) ∈ A ∧ t.size ≤ 140737488355328) (n := k) (fun i hik => by
    obtain ⟨h1, h2, h3, h4, h5⟩ := hi i hik
    obtain ⟨s, hs, hd, _⟩ := DataW.trod_string he h4
    refine ⟨s, h3 _ (mem_cellsAt.2 ⟨0, .string s, by rw [hs]; rfl, by rw [Nat.mul_one]; rfl⟩), ?_⟩
    have e1 : D i = .lit (.string s.data.toList) := congrArg Prod.fst hd
    have := hb.str s.data.toList
    rw [e1] at h1
    have e2 : s.data.toList.length = s.size := by simp
    omega)
  refine ⟨l, ⟨a, c, by rw [hl], by omega, fun i t h => ?_⟩, by omega⟩
  have hik : i < k := by have := (List.getElem?_eq_some_iff.1 h).1; omega
  exact ⟨bk, o, ha (by omega), (hx i t h).1, (hx i t h).2⟩
structure LitT (P : Program) (t : TypeId) (sl : TypeId) : Prop where
  str : ∃ fs : Array Field, P.underlying t = some (.struct fs) ∧ fs.size = 5 ∧ ∃ t0 t1 t2 t3, (fs.toList.map fun f => (f.type, f.offset)) = [(t0, 0), (t1, 1), (t2, 2), (t3, 3), (sl, 4)] ∧ P.underlying t0 = some (.int .u8) ∧ P.underlying t1 = some (.int .i64) ∧ P.underlying t2 = some (.int .u64) ∧ P.underlying t3 = some .string ∧
    P.cellsOf t0 = 1 ∧ P.cellsOf t1 = 1 ∧ P.cellsOf t2 = 1 ∧ P.cellsOf t3 = 1 ∧ P.cellsOf sl = 1
  cells : P.cellsOf t = 5
  items : P.underlying sl = some (.slice t)
theorem wf_u8 {n : Int} (h : (Lit.int .u8 n).wf = true) : ∃ k : Nat, n = k ∧ k < 256 := by
  simp [Lit.wf] at h
  have e1 : IntKind.u8.min = 0 := by decide
  have e2 : IntKind.u8.max = 255 := by decide
  exact ⟨n.toNat, by omega, by omega⟩
theorem wf_u64 {n : Int} (h : (Lit.int .u64 n).wf = true) : ∃ k : Nat, n = k ∧ k < 18446744073709551616 := by
  simp [Lit.wf] at h
  have e1 : IntKind.u64.min = 0 := by decide
  have e2 : IntKind.u64.max = 18446744073709551615 := by decide
  exact ⟨n.toNat, by omega, by omega⟩
theorem wf_i64 {n : Int} (h : (Lit.int .i64 n).wf = true) : -9223372036854775808 ≤ n ∧ n ≤ 9223372036854775807 := by
  simp [Lit.wf] at h
  have e1 : IntKind.i64.min = -9223372036854775808 := by decide
  have e2 : IntKind.i64.max = 9223372036854775807 := by decide
  omega
theorem take_one {α : Type} {l : List α} {i : Nat} {v : α} (h : (l.drop i).take 1 = [v]) : l[i]? = some v := by
  have := congrArg (fun m : List α => m[0]?) h
  simp only [List.getElem?_take, List.getElem?_drop] at this
  simpa using this
theorem flat_sub {ys : List (DataW H × List MemPlace)} {i : Nat} {y : DataW H × List MemPlace} (h : ys[i]? = some y) {q : MemPlace} (hq : q ∈ y.2) : q ∈ ys.flatMap (·.2) := List.mem_flatMap.2 ⟨y, List.mem_of_getElem? h, hq⟩
theorem rd_lit (hb : Bulk bulk) {t sl : TypeId} (hT : LitT P t sl) {W : World} {A : List Atom} (hA : ∀ a : Atom, a.holds W → a ∈ A) : ∀ (N : Nat) (n : Nat) (cs : List Value) (x : DataW H × List MemPlace), bulk x.1 ≤ N → N ≤ 1048576 → DataW.trod enc P W 0 (fun _ => true) true n t cs = some x → W.noneFrozen x.2 → ∃ l : Lt, LtRd A l cs ∧ l.size ≤ bulk x.1 := by
  obtain ⟨fs, hu, hsz, t0, t1, t2, t3, hfs, u0, u1, u2, u3, c0, c1, c2, c3, c4⟩ := hT.str
  intro N
  induction N using Nat.strongRecOn with
  | _ N ih =>
    intro n cs x hx hN h hf
    obtain ⟨ys, k, _, rfl, hlen, hyl, hfld⟩ := DataW.trod_struct hu h
    rw [hT.cells] at hlen
    replace hx : bulk (.agg (ys.map (·.1))) ≤ N := hx
    have hget : ∀ (i : Nat) (ty off : Nat), (fs.toList.map fun f => (f.type, f.offset))[i]? = some (ty, off) → DataW.trod enc P W 0 (fun _ => true) true k ty ((cs.drop off).take (P.cellsOf ty)) = ys[i]? := fun i ty off hi => by
      rw [List.getElem?_map] at hi
      obtain ⟨f, hf1, hf2⟩ := Option.map_eq_some_iff.1 hi
      cases hf2
      exact hfld i f (by rw [← hf1, Array.getElem?_toList])
    have hys : ∀ i, i < 5 → ys[i]? = some (ys.getD i (.nil, [])) := fun i hi => by
      rw [List.getD_eq_getElem?_getD, List.getElem?_eq_getElem (by omega)]; rfl
    have g0 := (hget 0 t0 0 (by rw [hfs]; rfl)).trans (hys 0 (by omega))
    have g1 := (hget 1 t1 1 (by rw [hfs]; rfl)).trans (hys 1 (by omega))
    have g2 := (hget 2 t2 2 (by rw [hfs]; rfl)).trans (hys 2 (by omega))
    have g3 := (hget 3 t3 3 (by rw [hfs]; rfl)).trans (hys 3 (by omega))
    have g4 := (hget 4 sl 4 (by rw [hfs]; rfl)).trans (hys 4 (by omega))
    rw [c0] at g0; rw [c1] at g1; rw [c2] at g2; rw [c3] at g3; rw [c4] at g4
    obtain ⟨z0, e0, _, w0⟩ := DataW.trod_int u0 g0
    obtain ⟨z1, e1, _, w1⟩ := DataW.trod_int u1 g1
    obtain ⟨z2, e2, _, w2⟩ := DataW.trod_int u2 g2
    obtain ⟨s, e3, d3, _⟩ := DataW.trod_string u3 g3
    have hlt : ∀ i, i < 5 → bulk (ys.getD i (.nil, [])).1 < bulk (.agg (ys.map (·.1))) := fun i hi => hb.agg _ _ (List.mem_map.2 ⟨_, List.mem_of_getElem? (hys i hi), rfl⟩)
    have hfr : ∀ i, i < 5 → W.noneFrozen (ys.getD i (.nil, [])).2 := fun i hi b o hbo => hf b o (flat_sub (hys i hi) hbo)
    obtain ⟨v4, e4⟩ : ∃ v, (cs.drop 4).take 1 = [v] := List.length_eq_one_iff.1 (by simp; omega)
    rw [e4] at g4
    obtain ⟨a, kk, c, bk, o, us, D, Pl, m, rfl, ⟨hk, hks, hkc⟩, ha, hi⟩ := rd_rows hb hT.items hT.cells (by decide) g4 (hfr 4 (by omega)) hA
    obtain ⟨l, hl, hq⟩ := choose_rows (α := Lt) (Q := fun i y => LtRd A y (us i) ∧ y.size ≤ bulk (D i)) (n := kk) (fun i hik => by
      obtain ⟨q1, _, _, q4, q5⟩ := hi i hik
      have q6 := hlt 4 (by omega)
      exact ih (bulk (D i)) (by omega) m (us i) (D i, Pl i) (Nat.le_refl _) (by omega) q4 q5)
    obtain ⟨k0, rfl, b0⟩ := wf_u8 w0
    obtain ⟨k2, rfl, b2⟩ := wf_u64 w2
    have b1 := wf_i64 w1
    have hcs : cs = [cv k0, vi z1, uv k2, .string s, .slice a l.length c] := by
      have p0 := take_one e0
      have p1 := take_one e1
      have p2 := take_one e2
      have p3 := take_one e3
      have p4 := take_one e4
      obtain ⟨a0, a1, a2, a3, a4, rfl⟩ : ∃ a0 a1 a2 a3 a4, cs = [a0, a1, a2, a3, a4] := by
        match cs, hlen with
        | [a0, a1, a2, a3, a4], _ => exact ⟨a0, a1, a2, a3, a4, rfl⟩
      simp only [List.getElem?_cons_zero, List.getElem?_cons_succ, Option.some.injEq] at p0 p1 p2 p3 p4
      rw [p0, p1, p2, p3, p4, hl]
    have hs3 : s.size ≤ 1048576 := by
      have h3 := hlt 3 (by omega)
      have e : (ys.getD 3 (.nil, [])).1 = .lit (.string s.data.toList) := congrArg Prod.fst d3
      rw [e] at h3
      have h5 := hb.str s.data.toList
      have e2 : s.data.toList.length = s.size := by simp
      omega
    have h4 := hlt 4 (by omega)
    have hsz4 : Lt.sizes l ≤ bulk (ys.getD 4 (.nil, [])).1 := by
      refine Nat.le_trans (Lt.sizes_le (f := fun i => bulk (D i)) (o := 0) (fun i x hx => ?_)) ?_
      · rw [Nat.zero_add]; exact (hq i x hx).2
      · rw [hl]; exact hks
    rw [hcs]
    refine ⟨.mk k0 z1 k2 s l, .mk ⟨b0, b1, b2, by omega, by omega⟩ (fun hp => ha (by omega)) (fun i hi' => (hi i (by omega)).2.2.1) (fun i x hx => (hq i x hx).1), ?_⟩
    show 1 + Lt.sizes l ≤ bulk (.agg (ys.map (·.1)))
    omega
structure NodT (P : Program) (t tl sl st : TypeId) : Prop where
  str : ∃ fs : Array Field, P.underlying t = some (.struct fs) ∧ fs.size = 7 ∧ ∃ t0 t1 t6, (fs.toList.map fun f => (f.type, f.offset)) = [(t0, 0), (t1, 1), (tl, 2), (st, 7), (st, 8), (sl, 9), (t6, 10)] ∧ P.underlying t0 = some (.int .u8) ∧ P.underlying t1 = some .string ∧ P.underlying t6 = some (.int .i64) ∧
    P.cellsOf t0 = 1 ∧ P.cellsOf t1 = 1 ∧ P.cellsOf t6 = 1 ∧ P.underlying st = some (.slice t1)
  cells : P.cellsOf t = 11
  cs : P.cellsOf sl = 1
  ct : P.cellsOf st = 1
  cl : P.cellsOf tl = 5
  kids : P.underlying sl = some (.slice t)
theorem rd_node (hb : Bulk bulk) {t tl sl st ll : TypeId} (hT : NodT P t tl sl st) (hL : LitT P tl ll) {W : World} {A : List Atom} (hA : ∀ a : Atom, a.holds W → a ∈ A) : ∀ (N : Nat) (n : Nat) (cs : List Value) (x : DataW H × List MemPlace), bulk x.1 ≤ N → N ≤ 1048576 → DataW.trod enc P W 0 (fun _ => true) true n t cs = some x → W.noneFrozen x.2 → ∃ l : Nd, NdRd A l cs ∧ l.w ≤ bulk x.1 := by
  obtain ⟨fs, hu, hsz, t0, t1, t6, hfs, u0, u1, u6, c0, c1, c6, us3⟩ := hT.str
  intro N
  induction N using Nat.strongRecOn with
  | _ N ih =>
    intro n cs x hx hN h hf
    obtain ⟨ys, k, _, rfl, hlen, hyl, hfld⟩ := DataW.trod_struct hu h
    rw [hT.cells] at hlen
    replace hx : bulk (.agg (ys.map (·.1))) ≤ N := hx
    have hget : ∀ (i : Nat) (ty off : Nat), (fs.toList.map fun f => (f.type, f.offset))[i]? = some (ty, off) → DataW.trod enc P W 0 (fun _ => true) true k ty ((cs.drop off).take (P.cellsOf ty)) = ys[i]? := fun i ty off hi => by
      rw [List.getElem?_map] at hi
      obtain ⟨f, hf1, hf2⟩ := Option.map_eq_some_iff.1 hi
      cases hf2
      exact hfld i f (by rw [← hf1, Array.getElem?_toList])
    have hys : ∀ i, i < 7 → ys[i]? = some (ys.getD i (.nil, [])) := fun i hi => by
      rw [List.getD_eq_getElem?_getD, List.getElem?_eq_getElem (by omega)]; rfl
    have g0 := (hget 0 t0 0 (by rw [hfs]; rfl)).trans (hys 0 (by omega))
    have g1 := (hget 1 t1 1 (by rw [hfs]; rfl)).trans (hys 1 (by omega))
    have g2 := (hget 2 tl 2 (by rw [hfs]; rfl)).trans (hys 2 (by omega))
    have g3 := (hget 3 st 7 (by rw [hfs]; rfl)).trans (hys 3 (by omega))
    have g4 := (hget 4 st 8 (by rw [hfs]; rfl)).trans (hys 4 (by omega))
    have g5 := (hget 5 sl 9 (by rw [hfs]; rfl)).trans (hys 5 (by omega))
    have g6 := (hget 6 t6 10 (by rw [hfs]; rfl)).trans (hys 6 (by omega))
    rw [c0] at g0; rw [c1] at g1; rw [hT.cl] at g2; rw [hT.ct] at g3 g4; rw [hT.cs] at g5; rw [c6] at g6
    obtain ⟨z0, e0, _, w0⟩ := DataW.trod_int u0 g0
    obtain ⟨s, e1, d1, _⟩ := DataW.trod_string u1 g1
    obtain ⟨z6, e6, _, w6⟩ := DataW.trod_int u6 g6
    have hlt : ∀ i, i < 7 → bulk (ys.getD i (.nil, [])).1 < bulk (.agg (ys.map (·.1))) := fun i hi => hb.agg _ _ (List.mem_map.2 ⟨_, List.mem_of_getElem? (hys i hi), rfl⟩)
    have hfr : ∀ i, i < 7 → W.noneFrozen (ys.getD i (.nil, [])).2 := fun i hi b o hbo => hf b o (flat_sub (hys i hi) hbo)
    obtain ⟨v3, e3⟩ : ∃ v, (cs.drop 7).take 1 = [v] := List.length_eq_one_iff.1 (by simp; omega)
    obtain ⟨v4, e4⟩ : ∃ v, (cs.drop 8).take 1 = [v] := List.length_eq_one_iff.1 (by simp; omega)
    obtain ⟨v5, e5⟩ : ∃ v, (cs.drop 9).take 1 = [v] := List.length_eq_one_iff.1 (by simp; omega)
    rw [e3] at g3; rw [e4] at g4; rw [e5] at g5
    have l2 := hlt 2 (by omega)
    have l3 := hlt 3 (by omega)
    have l4 := hlt 4 (by omega)
    have l5 := hlt 5 (by omega)
    obtain ⟨lit, hlit, hlw⟩ := rd_lit hb hL hA 1048576 k _ _ (by omega) (Nat.le_refl _) g2 (hfr 2 (by omega))
    obtain ⟨args, hargs, hargl⟩ := rd_texts hb us3 u1 c1 g3 (hfr 3 (by omega)) hA (by omega)
    obtain ⟨temps, htemps, htempl⟩ := rd_texts hb us3 u1 c1 g4 (hfr 4 (by omega)) hA (by omega)
    obtain ⟨a, kk, c, bk, o, us, D, Pl, m, rfl, ⟨hk, hks, hkc⟩, ha, hi⟩ := rd_rows hb hT.kids hT.cells (by decide) g5 (hfr 5 (by omega)) hA
    obtain ⟨l, hl, hq⟩ := choose_rows (α := Nd) (Q := fun i y => NdRd A y (us i) ∧ y.w ≤ bulk (D i)) (n := kk) (fun i hik => by
      obtain ⟨q1, _, _, q4, q5⟩ := hi i hik
      exact ih (bulk (D i)) (by omega) m (us i) (D i, Pl i) (Nat.le_refl _) (by omega) q4 q5)
    have hyl2 : ys.length = 7 := by rw [hyl]; exact hsz
    obtain ⟨k0, rfl, b0⟩ := wf_u8 w0
    have b6 := wf_i64 w6
    have hcs : cs = [cv k0, .string s] ++ (cs.drop 2).take 5 ++ [v3, v4, .slice a l.length c, vi z6] := by
      have p0 := take_one e0
      have p1 := take_one e1
      have p3 := take_one e3
      have p4 := take_one e4
      have p5 := take_one e5
      have p6 := take_one e6
      obtain ⟨a0, a1, a2, a3, a4, a5, a6, a7, a8, a9, a10, rfl⟩ : ∃ a0 a1 a2 a3 a4 a5 a6 a7 a8 a9 a10, cs = [a0, a1, a2, a3, a4, a5, a6, a7, a8, a9, a10] := by
        match cs, hlen with
        | [a0, a1, a2, a3, a4, a5, a6, a7, a8, a9, a10], _ => exact ⟨a0, a1, a2, a3, a4, a5, a6, a7, a8, a9, a10, rfl⟩
      simp only [List.getElem?_cons_zero, List.getElem?_cons_succ, Option.some.injEq] at p0 p1 p3 p4 p5 p6
      rw [p0, p1, p3, p4, p5, p6, hl]
      rfl
    have hs0 : s.size ≤ bulk (ys.getD 1 (.nil, [])).1 := by
      have e : (ys.getD 1 (.nil, [])).1 = .lit (.string s.data.toList) := congrArg Prod.fst d1
      rw [e]
      have h5 := hb.str s.data.toList
      have e2 : s.data.toList.length = s.size := by simp
      omega
    have hs1 : s.size ≤ 1048576 := by
      have h3 := hlt 1 (by omega)
      have e : (ys.getD 1 (.nil, [])).1 = .lit (.string s.data.toList) := congrArg Prod.fst d1
      rw [e] at h3
      have h5 := hb.str s.data.toList
      have e2 : s.data.toList.length = s.size := by simp
      omega
    rw [hcs]
    have hsz5 : Nd.ws l ≤ bulk (ys.getD 5 (.nil, [])).1 := by
      refine Nat.le_trans (Nd.ws_le (f := fun i => bulk (D i)) (o := 0) (fun i x hx => ?_)) ?_
      · rw [Nat.zero_add]; exact (hq i x hx).2
      · rw [hl]; exact hks
    refine ⟨.mk k0 s lit args temps l z6, .mk ⟨b0, by omega, by omega, b6⟩ hlit hargs htemps (fun hp => ha (by omega)) (fun i hi' => (hi i (by omega)).2.2.1) (fun i x hx => (hq i x hx).1) (by omega), ?_⟩
    have hag := hb.aggs (ys.map (·.1))
    have hsum : bulk (ys.getD 1 (.nil, [])).1 + bulk (ys.getD 2 (.nil, [])).1 + bulk (ys.getD 3 (.nil, [])).1 + bulk (ys.getD 4 (.nil, [])).1 + bulk (ys.getD 5 (.nil, [])).1 ≤ ((ys.map (·.1)).map bulk).sum := by
      match ys, hyl2 with
      | [y0, y1, y2, y3, y4, y5, y6], _ => simp only [List.map_cons, List.map_nil, List.sum_cons, List.sum_nil, List.getD_cons_zero, List.getD_cons_succ]; omega
    show 1 + s.size + lit.size + args.length + temps.length + Nd.ws l ≤ bulk (.agg (ys.map (·.1)))
    omega
end
open Go
section
variable {ops : Array Oper}
theorem coverC {both : Bool} {rs : List (RO × Oper)} {orders : List (List Nat)} (hc : coverG both rs ops orders = true) (t : Nat) :
    ∃ o ∈ orders, o.Perm (sched ops ops.size t (Array.replicate ops.size false)) ∧ (sched ops ops.size t (Array.replicate ops.size false)).Nodup ∧ (∀ i ∈ o, i < ops.size) ∧
      o.Pairwise (fun x y => indep (rs.getD y default) (rs.getD x default) = true ∨ [x, y].Sublist (sched ops ops.size t (Array.replicate ops.size false))) := by
  simp only [coverG, Bool.and_eq_true] at hc
  obtain ⟨⟨⟨hb, hd⟩, ho⟩, hp⟩ := hc
  have hu : unl ops (Array.replicate ops.size false) = List.range ops.size := by
    simp only [unl]
    refine List.filter_eq_self.2 (fun i hi => ?_)
    have := List.mem_range.1 hi
    simp [this]
  obtain ⟨s1, s2, _⟩ := sched_spec hb ops.size t (Array.replicate ops.size false) (by simp) (by rw [hu]; simp)
  generalize hl : sched ops ops.size t (Array.replicate ops.size false) = l at s1 s2 ⊢
  have hanc : ∀ {x y : Nat}, y < ops.size → x ∈ (ancs ops).getD y [] → Bef l x y := fun hy hx => hl ▸ anc_bef hb (Nat.le_refl _) (ancs_sound hx) hy
  have hmem : ∀ i, i ∈ l ↔ i < ops.size := fun i => by rw [s2, hu]; simp
  generalize hdd : clash both rs (ancs ops) ops.size = d at hd hp
  have hdlt : ∀ x ∈ d, x < ops.size := by
    intro x hx; rw [← hdd] at hx; simp only [clash, List.mem_filter, List.mem_range] at hx; exact hx.1
  have hsp : (l.filter (d.contains ·)).Perm d := by
    refine (List.perm_ext_iff_of_nodup (s1.filter _) (nodupB_spec hd)).2 (fun x => ?_)
    simp only [List.mem_filter, hmem, List.contains_iff_mem]
    exact ⟨fun h => h.2, fun h => ⟨hdlt x h, h⟩⟩
  have hall := List.all_eq_true.1 hp _ (mem_perms hsp)
  simp only [Bool.or_eq_true, Bool.not_eq_true', List.any_eq_true] at hall
  have hresp : pairsAll (fun x y => !((ancs ops).getD x []).contains y) (l.filter (d.contains ·)) = true := by
    have key : ∀ (s : List Nat), s.Sublist l → pairsAll (fun x y => !((ancs ops).getD x []).contains y) s = true := by
      intro s
      induction s with
      | nil => intro _; rfl
      | cons x s ih =>
        intro hs
        simp only [pairsAll, Bool.and_eq_true, List.all_eq_true, Bool.not_eq_true']
        refine ⟨fun y hy => ?_, ih ((List.sublist_cons_self x s).trans hs)⟩
        have h2 : [x, y].Sublist l := (List.Sublist.cons_cons x (List.singleton_sublist.2 hy)).trans hs
        have b1 := sub_bef s1 h2
        cases hcc : ((ancs ops).getD x []).contains y with
        | false => rfl
        | true =>
          have b2 := hanc ((hmem x).1 b1.1) (List.contains_iff_mem.1 hcc)
          have := b1.2.2; have := b2.2.2; omega
    exact key _ List.filter_sublist
  rcases hall with hall | ⟨o, hom, hpo⟩
  · rw [hresp] at hall; cases hall
  have ho' := List.all_eq_true.1 ho o hom
  simp only [Bool.and_eq_true, beq_iff_eq, List.all_eq_true, decide_eq_true_eq] at ho'
  obtain ⟨⟨o1, o2⟩, o3⟩ := ho'
  have hperm : o.Perm l := by
    have hol : o.Subset l := fun x hx => (hmem x).2 (o3 x hx)
    have hno := nodupB_spec o2
    have hl' : l.length = ops.size := by
      have : l.Perm (List.range ops.size) := (List.perm_ext_iff_of_nodup s1 List.nodup_range).2 (fun x => by simp [hmem])
      simpa using this.length_eq
    have hor : o.Perm (List.range ops.size) := by
      refine (List.perm_ext_iff_of_nodup hno List.nodup_range).2 (fun x => ?_)
      refine ⟨fun hx => by simpa using o3 x hx, fun hx => ?_⟩
      exact mem_of_full hno o3 o1 (by simpa using hx)
    exact hor.trans ((List.perm_ext_iff_of_nodup s1 List.nodup_range).2 (fun x => by simp [hmem])).symm
  refine ⟨o, hom, hperm, s1, fun i hi => (hmem i).1 (hperm.subset hi), ?_⟩
  refine (pairsAll_spec hpo).imp_of_mem (fun {x y} hx hy h => ?_)
  simp only [Bool.or_eq_true] at h
  rcases h with (h | h) | h
  · left
    simp only [indepAt] at h
    split at h
    · rename_i p q hp hq
      simp only [List.getD_eq_getElem?_getD, hp, hq, Option.getD_some]
      exact h
    · cases h
  · right; exact (hanc (o3 y hy) (List.contains_iff_mem.1 h)).sub
  · right; exact (befB_sub h).trans List.filter_sublist
theorem eq_of_order {o l : List Nat} (hp : o.Perm l) (hn : l.Nodup) (h : o.Pairwise fun x y => [x, y].Sublist l) : o = l := by
  refine List.Perm.eq_of_pairwise (le := fun x y => [x, y].Sublist l) (fun a b _ _ h1 h2 => ?_) h (List.pairwise_iff_forall_sublist.2 fun h => h) hp
  have b1 := (sub_bef hn h1).2.2
  have b2 := (sub_bef hn h2).2.2
  omega
def envO (X : Nat → RO × Oper) (val : Nat → Value) : List Nat → Env → Env
  | [], Γ => Γ
  | i :: r, Γ => envO X val r (putE (X i).1.dst (val i) Γ)
def writes (X : Nat → RO × Oper) (t j : Nat) : Bool := (X j).1.dst == some t
theorem envO_filter {X : Nat → RO × Oper} {val : Nat → Value} {t : Nat} : ∀ {p : List Nat} {Γ Δ : Env}, look Γ t = look Δ t → look (envO X val p Γ) t = look (envO X val (p.filter (writes X t)) Δ) t := by
  intro p
  induction p with
  | nil => intro Γ Δ h; exact h
  | cons j p ih =>
    intro Γ Δ h
    simp only [envO, List.filter_cons]
    by_cases hw : writes X t j = true
    · rw [if_pos hw]
      simp only [envO]
      refine ih ?_
      simp only [writes, beq_iff_eq] at hw
      rw [hw]; simp [putE, look]
    · rw [if_neg hw]
      refine ih ?_
      simp only [writes, beq_iff_eq] at hw
      rw [← h]
      cases hd : (X j).1.dst with
      | none => rfl
      | some d =>
        have : d ≠ t := fun e => hw (by rw [hd, e])
        simp [putE, look, this]
theorem split_at {i : Nat} : ∀ {a b c d : List Nat}, a ++ i :: b = c ++ i :: d → i ∉ a → i ∉ c → a = c := by
  intro a
  induction a with
  | nil =>
    intro b c d h _ hc
    cases c with
    | nil => rfl
    | cons x c => simp at h; exact absurd (by simp [h.1]) hc
  | cons x a ih =>
    intro b c d h ha hc
    cases c with
    | nil => simp at h; exact absurd (by simp [h.1]) ha
    | cons y c =>
      simp only [List.cons_append, List.cons.injEq] at h
      rw [h.1, ih h.2 (fun h => ha (by simp [h])) (fun h => hc (by simp [h]))]
theorem env_alike {X : Nat → RO × Oper} {val : Nat → Value} {Γ : Env} {p q l1 l2 : List Nat} {i t : Nat} (hp : (p ++ i :: q).Perm (l1 ++ i :: l2)) (hn : (l1 ++ i :: l2).Nodup)
    (hpw : (p ++ i :: q).Pairwise (fun x y => indep (X y) (X x) = true ∨ [x, y].Sublist (l1 ++ i :: l2))) (ht : t ∈ looks (X i)) : look (envO X val p Γ) t = look (envO X val l1 Γ) t := by
  have key : (p ++ i :: q).filter (fun j => decide (j = i) || writes X t j) = (l1 ++ i :: l2).filter (fun j => decide (j = i) || writes X t j) := by
    refine eq_of_order (hp.filter _) (hn.filter _) ?_
    have hno : (p ++ i :: q).Pairwise (fun x y => x ≠ y) := hp.nodup_iff.2 hn
    refine ((hpw.and hno).filter _).imp_of_mem ?_
    intro x y hx hy ⟨h, hne⟩
    have fx := (List.mem_filter.1 hx).2
    have fy := (List.mem_filter.1 hy).2
    rcases h with h | h
    · exfalso
      simp only [indep, Bool.and_eq_true] at h
      obtain ⟨⟨h1, h2⟩, _⟩ := h
      have a1 := apart1_spec h1
      have a2 := apart1_spec h2
      simp only [Bool.or_eq_true, decide_eq_true_eq, writes, beq_iff_eq] at fx fy
      rcases fx with fx | fx <;> rcases fy with fy | fy
      · exact hne (fx.trans fy.symm)
      · subst fx; exact (a1 t fy).1 ht
      · subst fy; exact (a2 t fx).1 ht
      · exact (a1 t fy).2 fx
    · have := h.filter (fun j => decide (j = i) || writes X t j)
      rwa [show List.filter (fun j => decide (j = i) || writes X t j) [x, y] = [x, y] by simp only [List.filter, fx, fy]] at this
  have hip : i ∉ p := by
    have := hp.nodup_iff.2 hn
    intro h
    exact (List.nodup_append.1 this).2.2 i h i (by simp) rfl
  have hil : i ∉ l1 := fun h => (List.nodup_append.1 hn).2.2 i h i (by simp) rfl
  rw [List.filter_append, List.filter_append, List.filter_cons_of_pos (by simp), List.filter_cons_of_pos (by simp)] at key
  have h2 := split_at key (fun h => hip ((List.mem_filter.1 h).1)) (fun h => hil ((List.mem_filter.1 h).1))
  have fe : ∀ l : List Nat, i ∉ l → l.filter (fun j => decide (j = i) || writes X t j) = l.filter (writes X t) := fun l hl => List.filter_congr fun j hj => by
    have : j ≠ i := fun e => hl (e ▸ hj)
    simp [this]
  rw [fe p hip, fe l1 hil] at h2
  rw [envO_filter (p := p) rfl, envO_filter (p := l1) rfl, h2]
theorem envO_snoc {X : Nat → RO × Oper} {val : Nat → Value} {i : Nat} : ∀ {p : List Nat} {Γ : Env}, envO X val (p ++ [i]) Γ = putE (X i).1.dst (val i) (envO X val p Γ) := by
  intro p
  induction p with
  | nil => intro Γ; rfl
  | cons j p ih => intro Γ; exact ih
def StepZ (P : Program) (n : Nat) (X : Nat → RO × Oper) (PZ : List PanicEntry → SH → Prop) (Hs : SH → Prop) (val : Nat → Value) (φ : Nat → Prop) (i : Nat) (Δ : Env) : Prop :=
  ∀ Γ H, (∀ t ∈ looks (X i), ∀ v, look Δ t = some v → look Γ t = some v) → Hs H → VO P n [(X i).1] Γ H (fun ch _ H' => PZ ch H') (fun Γ' H' => Γ' = putE (X i).1.dst (val i) Γ ∧ Hs H' ∧ φ i)
theorem run_any {P : Program} {n : Nat} {X : Nat → RO × Oper} {PZ : List PanicEntry → SH → Prop} {Hs : SH → Prop} {val : Nat → Value} {φ : Nat → Prop} {Γ0 : Env} {o l : List Nat} (hp : o.Perm l) (hn : l.Nodup)
    (hpw : o.Pairwise (fun x y => indep (X y) (X x) = true ∨ [x, y].Sublist l)) (hlow : ∀ i ∈ l, LowAll P n [(X i).1] [X i]) (hstep : ∀ p i q, o = p ++ i :: q → StepZ P n X PZ Hs val φ i (envO X val p Γ0))
    {F : List Atom} {ZZ : Exit → Act → World → Prop} {Q : Act → World → Prop} {a0 : Act} {w0 : World}
    (hq : ∀ a' w' H', Agree n (envO X val l Γ0) a' → a'.defers = a0.defers → Sat w' (H'.flatten ++ F) → Keeps w0 w' → Hs H' → (∀ i ∈ l, φ i) → Q a' w')
    (hz : ∀ ch a' w' H', a'.tmps.size = n → a'.defers = a0.defers → Sat w' (H'.flatten ++ F) → Keeps w0 w' → PZ ch H' → ZZ (.panic ch) a' w') :
    ∀ (l2 l1 : List Nat), l = l1 ++ l2 → ∀ a w H, Agree n (envO X val l1 Γ0) a → a.defers = a0.defers → Sat w (H.flatten ++ F) → Keeps w0 w → Hs H → (∀ i ∈ l1, φ i) → wpR P ZZ Q (l2.map X) a w := by
  intro l2
  induction l2 with
  | nil =>
    intro l1 hl a w H ha hd hs hk hh hφ
    rw [List.append_nil] at hl
    subst hl
    exact hq a w H ha hd hs hk hh hφ
  | cons i l2 ih =>
    intro l1 hl a w H ha hd hs hk hh hφ
    have hi : i ∈ o := hp.mem_iff.2 (by rw [hl]; simp)
    obtain ⟨p, q, ho⟩ := List.append_of_mem hi
    have st := hstep p i q ho (envO X val l1 Γ0) H (fun t ht v hv => by
      rw [← env_alike (val := val) (Γ := Γ0) (by rw [← ho, ← hl]; exact hp) (by rw [← hl]; exact hn) (by rw [← ho, ← hl]; exact hpw) ht]; exact hv) hh
    have := st [X i] (hlow i (by rw [hl]; simp)) a w F ZZ (wpR P ZZ Q (l2.map X)) ha hs
      (fun a' w' Γ' H' ⟨k1, k2, k3⟩ g1 g2 g3 g4 => by
        subst k1
        exact ih (l1 ++ [i]) (by rw [hl]; simp) a' w' H' (by rw [envO_snoc]; exact g1) (g2.trans hd) g3 (hk.trans g4) k2 (fun j hj => by
          rcases List.mem_append.1 hj with h | h
          · exact hφ j h
          · rw [List.mem_singleton.1 h]; exact k3))
      (fun ch a' w' Γ' H' k g1 g2 g3 g4 => hz ch a' w' H' g1.size (g2.trans hd) g3 (hk.trans g4) k)
    exact this
def argO : R → List Operand
  | .call _ xs => xs
  | r => rOps r
def looksR (r : RO) : List Nat := guardTmps r.guard ++ opTmps (argO r.op)
def okR (r : RO) : Bool := isPure r.op || isRead r.op || (match r.op with | .call _ _ => true | _ => false)
def StepsZ (P : Program) (n : Nat) (PZ : List PanicEntry → SH → Prop) (Hs : SH → Prop) : List RO → Env → Prop → Prop
  | [], _, Φ => ¬ Φ
  | r :: rs, Δ, Φ => okR r = true ∧ ∃ (v : Value) (φ : Prop), (∀ Γ H, (∀ t ∈ looksR r, ∀ u, look Δ t = some u → look Γ t = some u) → Hs H → VO P n [r] Γ H (fun ch _ H' => PZ ch H') (fun Γ' H' => Γ' = putE r.dst v Γ ∧ Hs H' ∧ φ)) ∧
      StepsZ P n PZ Hs rs (putE r.dst v Δ) (Φ ∧ φ)
theorem looksR_sub {P : Program} {n : Nat} {x : RO × Oper} (hl : lowRO P n ops x.2 = some x.1) (hok : okR x.1 = true) : ∀ t ∈ looksR x.1, t ∈ looks x := by
  intro t ht
  simp only [looksR, looks, List.mem_append] at ht ⊢
  rcases ht with ht | ht
  · exact .inl ht
  right
  by_cases hq : (isPure x.1.op || isRead x.1.op) = true
  · rw [if_pos hq]
    have : argO x.1.op = rOps x.1.op := by
      cases hop : x.1.op <;> first | rfl | (rw [hop] at hq; cases hq)
    rwa [this] at ht
  · rw [if_neg hq]
    simp only [okR, hq, Bool.false_or] at hok
    cases hop : x.1.op with
    | call f xs =>
      have g1 := (lowRO_spec hl).1
      rw [hop] at g1
      obtain ⟨c, h1, h2, h3, h4⟩ := low_call g1
      rw [hop] at ht
      simp only [argO] at ht
      rw [h1]
      simp only [Op.operands, Call.operands, Array.toList_append, h3, opTmps, List.filterMap_append, List.mem_append]
      exact .inr ht
    | _ => rw [hop] at hok; cases hok
theorem envO_congr {X : Nat → RO × Oper} {val val' : Nat → Value} : ∀ {p : List Nat} {Γ : Env}, (∀ j ∈ p, val j = val' j) → envO X val p Γ = envO X val' p Γ := by
  intro p
  induction p with
  | nil => intro Γ _; rfl
  | cons j p ih => intro Γ h; simp only [envO]; rw [h j (by simp)]; exact ih fun k hk => h k (by simp [hk])
theorem stepsZ_funs {P : Program} {n : Nat} {X : Nat → RO × Oper} {PZ : List PanicEntry → SH → Prop} {Hs : SH → Prop} : ∀ (o : List Nat) (Γ : Env) (Φ : Prop), o.Nodup → (∀ i ∈ o, okR (X i).1 = true → ∀ t ∈ looksR (X i).1, t ∈ looks (X i)) → StepsZ P n PZ Hs (o.map fun i => (X i).1) Γ Φ →
    ∃ (val : Nat → Value) (φ : Nat → Prop), (∀ p i q, o = p ++ i :: q → StepZ P n X PZ Hs val φ i (envO X val p Γ)) ∧ ¬ (Φ ∧ ∀ i ∈ o, φ i) := by
  intro o
  induction o with
  | nil => intro Γ Φ _ _ h; exact ⟨fun _ => undef, fun _ => True, fun p i q e => by simp at e, fun hh => h hh.1⟩
  | cons i o ih =>
    intro Γ Φ hn hsub h
    obtain ⟨hok, v, φ0, h1, h2⟩ := h
    have hn' := List.nodup_cons.1 hn
    obtain ⟨val, φ, g1, g2⟩ := ih _ _ hn'.2 (fun j hj => hsub j (by simp [hj])) h2
    refine ⟨fun j => if j = i then v else val j, fun j => if j = i then φ0 else φ j, fun p j q e => ?_, fun hh => g2 ⟨⟨hh.1, ?_⟩, fun j hj => ?_⟩⟩
    · cases p with
      | nil =>
        simp only [List.nil_append, List.cons.injEq] at e
        obtain ⟨rfl, rfl⟩ := e
        intro Γ' H hl hH
        have := h1 Γ' H (fun t ht => hl t (hsub i (by simp) hok t ht)) hH
        simpa using this
      | cons k p =>
        simp only [List.cons_append, List.cons.injEq] at e
        obtain ⟨rfl, e⟩ := e
        have hj : j ∈ o := by rw [e]; simp
        have hji : j ≠ i := fun e2 => hn'.1 (e2 ▸ hj)
        have st := g1 p j q e
        have hc : envO X (fun j => if j = i then v else val j) p (putE (X i).1.dst v Γ) = envO X val p (putE (X i).1.dst v Γ) := envO_congr fun k hk => by
          have hk2 : k ∈ o := by rw [e]; simp [hk]
          have hki : k ≠ i := fun e2 => hn'.1 (e2 ▸ hk2)
          simp [hki]
        intro Γ' H hl hH
        simp only [envO, if_pos] at hl
        rw [hc] at hl
        have := st Γ' H hl hH
        simpa [hji] using this
    · have := hh.2 i (by simp); simpa using this
    · have h3 := hh.2 j (by simp [hj])
      have hji : j ≠ i := fun e2 => hn'.1 (e2 ▸ hj)
      simpa [hji] using h3
end
theorem VC.drawZ {P : Program} {n : Nat} {Γ : Env} {H : SH} {Q : Exit → Env → SH → Prop} {rss : List (List RO)} {keep : List Nat} (PZ : List PanicEntry → SH → Prop) (Hs : SH → Prop) (h0 : Hs H)
    (h : ∀ rs ∈ rss, StepsZ P n PZ Hs rs Γ True) (hz : ∀ ch H', PZ ch H' → Q (.panic ch) [] H') : VC P n (.draw rss keep) Γ H Q := by
  intro ρ kp od code hl a w F QQ hr ha hs hh
  obtain ⟨id, ops, rs, rfl, h1, hm, hc, rfl, rfl⟩ := lowC_inv hl
  have hlen := (lowList_length h1).1
  refine wpIn_region_draw (fun t => ?_)
  have hsched : Region.schedule (P.follows .mixedOrders) ops t = sched ops ops.size t (Array.replicate ops.size false) := by simp [Region.schedule, hm, Region.linearise, sched]
  rw [hsched]
  obtain ⟨both, hcb⟩ : ∃ both, coverG both (rs.zip ops.toList) ops (od id) = true := by
    unfold coverB at hc
    rcases Bool.or_eq_true_iff.1 hc with hc | hc
    · exact ⟨_, hc⟩
    · exact ⟨_, hc⟩
  obtain ⟨o, hom, hp, hn, hlt, hpw⟩ := coverC hcb t
  have hX : ∀ i, i < ops.size → ops[i]? = some ((rs.zip ops.toList).getD i default).2 ∧ ((rs.zip ops.toList).getD i default).1 = rs.getD i default ∧ lowRO P n ops ((rs.zip ops.toList).getD i default).2 = some ((rs.zip ops.toList).getD i default).1 := fun i hi => zip_getD h1 hi
  have hlt2 : ∀ i ∈ sched ops ops.size t (Array.replicate ops.size false), i < ops.size := fun i hi => hlt i (hp.mem_iff.2 hi)
  refine wpR_sound (P := P) (ρ := ρ) (n := n) (ops := ops) (X := fun i => (rs.zip ops.toList).getD i default) (QQ := QQ) (fun i hi => ⟨(hX i hi).1, (hX i hi).2.2⟩) _ a _ hlt2 ?_
  have hst := h (o.map fun i => rs.getD i default) (List.mem_map.2 ⟨o, hom, rfl⟩)
  have hmap : (o.map fun i => rs.getD i default) = o.map fun i => ((rs.zip ops.toList).getD i default).1 := List.map_congr_left fun i hi => (hX i (hlt i hi)).2.1.symm
  rw [hmap] at hst
  obtain ⟨val, φ, g1, g2⟩ := stepsZ_funs (X := fun i => (rs.zip ops.toList).getD i default) o Γ True (hp.nodup_iff.2 hn) (fun i hi hok => looksR_sub (hX i (hlt i hi)).2.2 hok) hst
  refine run_any (X := fun i => (rs.zip ops.toList).getD i default) (l := sched ops ops.size t (Array.replicate ops.size false)) (val := val) (φ := φ) (Γ0 := Γ) (a0 := a) (w0 := { w with drawn := w.drawn + 1 }) (F := F) hp hn hpw (fun i hi => ⟨rfl, fun x hx => by rw [List.mem_singleton.1 hx]; exact ⟨ops, (hX i (hlt2 i hi)).2.2⟩⟩) g1 ?_ ?_ _ [] rfl a _ H ha rfl (hs.drawn _) (.refl _) h0 (fun i hi => by cases hi)
  · intro a' w' H' _ _ _ _ _ hall
    exact absurd ⟨trivial, fun i hi => hall i (hp.mem_iff.1 hi)⟩ g2
  · intro ch a' w' H' k1 k2 k3 k4 k5
    exact hh (.panic ch) a' w' [] H' [] (hz ch H' k5) ⟨k1, fun t v e => by cases e⟩ k2 k3.nomarks (((Keeps.refl w).drawn _).trans k4)
section
variable {P : Program} {n : Nat} {rs : List RO} {Γ : Env} {H : SH} {Z : List PanicEntry → Env → SH → Prop} {K : Env → SH → Prop} {d : Option Nat}
theorem st_max {x y : Operand} {a b : Nat} (hx : ev Γ x = some (vi a)) (hy : ev Γ y = some (vi b)) (h : VO P n rs (putE d (vi (max a b : Nat)) Γ) H Z K) :
    VO P n (⟨d, none, .max2 x y⟩ :: rs) Γ H Z K := by
  refine VO.pure rfl (v := vi (max a b : Nat)) (fun ρ hρ => ?_) h
  have e : (if (b : Int) > (a : Int) then (b : Int) else (a : Int)) = ((max a b : Nat) : Int) := by split <;> omega
  simp only [pureV, hρ _ _ hx, hρ _ _ hy, vi, e]
theorem st_eqI {x y : Operand} {k : IntKind} {a b : Int} {t : Bool} (hx : ev Γ x = some (.int k a)) (hy : ev Γ y = some (.int k b)) (ht : decide (a = b) = t) (h : VO P n rs (putE d (.bool t) Γ) H Z K) :
    VO P n (⟨d, none, .bin .eql x y⟩ :: rs) Γ H Z K :=
  VO.pure rfl (v := .bool t) (fun ρ hρ => by subst ht; simp [pureV, hρ _ _ hx, hρ _ _ hy, binV, intV]) h
theorem st_leI {x y : Operand} {k : IntKind} {a b : Int} {t : Bool} (hx : ev Γ x = some (.int k a)) (hy : ev Γ y = some (.int k b)) (ht : decide (a ≤ b) = t) (h : VO P n rs (putE d (.bool t) Γ) H Z K) :
    VO P n (⟨d, none, .bin .leq x y⟩ :: rs) Γ H Z K :=
  VO.pure rfl (v := .bool t) (fun ρ hρ => by subst ht; simp [pureV, hρ _ _ hx, hρ _ _ hy, binV, intV]) h
theorem st_lenI {x : Operand} {a : Option Addr} {m c : Nat} (hx : ev Γ x = some (.slice a m c)) (h : VO P n rs (putE d (vi m) Γ) H Z K) :
    VO P n (⟨d, none, .lenL x⟩ :: rs) Γ H Z K :=
  VO.pure rfl (v := vi m) (fun ρ hρ => by simp [pureV, hρ _ _ hx, vi]) h
end
theorem GOHS {R G : Prop} (r : R) (h : Later R → G := by
  intro later
  (repeat (first
      | (first
    | (apply st_gt; rfl)
    | (apply st_shr; rfl; rfl; omega; omega; (first | with_reducible exact Int.toNat_natCast _ | ((try simp only [Int.reduceToNat]); rfl)); (first | with_reducible exact Int.toNat_natCast _ | ((try simp only [Int.reduceToNat]); rfl)); (first | assumption | ((try simp only [Nat.reducePow]); rfl)); rfl)
    | (apply st_shl; rfl; rfl; omega; omega; (first | with_reducible exact Int.toNat_natCast _ | ((try simp only [Int.reduceToNat]); rfl)); (first | with_reducible exact Int.toNat_natCast _ | ((try simp only [Int.reduceToNat]); rfl)); (first | assumption | ((try simp only [Nat.reducePow]); rfl)); rfl)
    | (apply st_and; rfl; rfl; (first | exact ltM | (focus (apply ltB; (repeat' (first | exact modM | apply orC | apply andN_lt | apply divC | omega)); done)) | omega); (first | exact ltM | (focus (apply ltB; (repeat' (first | exact modM | apply orC | apply andN_lt | apply divC | omega)); done)) | omega); (first | with_reducible exact Int.toNat_natCast _ | ((try simp only [Int.reduceToNat]); rfl)); (first | with_reducible exact Int.toNat_natCast _ | ((try simp only [Int.reduceToNat]); rfl)); (first | exact and1 _ | exact and7 _ | exact and15 _ | rfl))
    | (apply st_or; rfl; rfl; (first | exact ltM | (focus (apply ltB; (repeat' (first | exact modM | apply orC | apply andN_lt | apply divC | omega)); done)) | omega); (first | exact ltM | (focus (apply ltB; (repeat' (first | exact modM | apply orC | apply andN_lt | apply divC | omega)); done)) | omega); (first | with_reducible exact Int.toNat_natCast _ | ((try simp only [Int.reduceToNat]); rfl)); (first | with_reducible exact Int.toNat_natCast _ | ((try simp only [Int.reduceToNat]); rfl)); rfl)
    | (apply st_andN; rfl; rfl; (first | exact ltM | (focus (apply ltB; (repeat' (first | exact modM | apply orC | apply andN_lt | apply divC | omega)); done)) | omega); (first | exact ltM | (focus (apply ltB; (repeat' (first | exact modM | apply orC | apply andN_lt | apply divC | omega)); done)) | omega); (first | with_reducible exact Int.toNat_natCast _ | ((try simp only [Int.reduceToNat]); rfl)); (first | with_reducible exact Int.toNat_natCast _ | ((try simp only [Int.reduceToNat]); rfl)))
    | (apply st_subU; rfl; rfl; omega; omega; (first | with_reducible exact Int.toNat_natCast _ | ((try simp only [Int.reduceToNat]); rfl)); (first | with_reducible exact Int.toNat_natCast _ | ((try simp only [Int.reduceToNat]); rfl)))
    | (apply st_addB; rfl; rfl; omega; omega; omega; (first | with_reducible exact Int.toNat_natCast _ | ((try simp only [Int.reduceToNat]); rfl)); (first | with_reducible exact Int.toNat_natCast _ | ((try simp only [Int.reduceToNat]); rfl)))
    | (apply st_convN; rfl; (first | exact wrapI (by omega) | exact wrapU_lt (by omega) | exact wrapB_lt (by omega)))
    | (apply st_quoN; rfl; rfl; omega; omega; (first | with_reducible exact Int.toNat_natCast _ | ((try simp only [Int.reduceToNat]); rfl)); (first | with_reducible exact Int.toNat_natCast _ | ((try simp only [Int.reduceToNat]); rfl)))
    | (apply st_remN; rfl; rfl; omega; omega; (first | with_reducible exact Int.toNat_natCast _ | ((try simp only [Int.reduceToNat]); rfl)); (first | with_reducible exact Int.toNat_natCast _ | ((try simp only [Int.reduceToNat]); rfl)))
    | (apply st_gf; rfl; rfl)
    | (apply st_gu; rfl)
    | (apply st_mv; rfl)
    | (apply st_nil; rfl)
    | (apply st_pick_t; rfl; rfl)
    | (apply st_pick_f; rfl; rfl)
    | (apply st_fld; rfl; ((try simp only [Nat.zero_add, Nat.add_zero, Nat.reduceAdd, Nat.reduceMul, Nat.add_assoc, Int.toNat_natCast, Nat.mul_one]); rfl))
    | (apply st_load1; rfl; (focus ((repeat (first | (apply Has.cells; omega; rfl) | apply Has.there)); done)))
    | (apply st_load1; rfl; (focus ((repeat (first | (apply Has.among; assumption) | apply Has.there)); done)))
    | (apply st_loadM; rfl; (focus ((repeat (first | (apply HasM.cells; omega; (focus (simp only [List.length_cons, List.length_nil, Nat.reduceAdd, Nat.zero_add, Nat.reduceSub, Nat.sub_self, Nat.reduceLeDiff, Nat.le_refl]; done)); (focus (simp only [lnb, Value.cells, Nat.zero_add, Nat.reduceEqDiff, ↓reduceIte, eq_self, Nat.reduceAdd, Nat.reduceSub, Nat.sub_self, Nat.reduceLeDiff, Nat.le_refl, and_self, rep, zeroRow] <;> rfl)); rfl) | apply HasM.there)); done)))
    | (apply st_extL; rfl; rfl)
    | (apply st_ext; rfl; rfl)
    | (apply st_add; rfl; rfl; omega)
    | (apply st_sub; rfl; rfl; omega)
    | (apply st_mul; rfl; rfl; omega)
    | (apply st_rem; rfl; rfl; decide)
    | (apply st_idxL; rfl; rfl; omega; ((try simp only [Nat.zero_add, Nat.add_zero, Nat.reduceAdd, Nat.reduceMul, Nat.add_assoc, Int.toNat_natCast, Nat.mul_one]); rfl))
    | (apply st_idxA; rfl; rfl; omega; ((try simp only [Nat.zero_add, Nat.add_zero, Nat.reduceAdd, Nat.reduceMul, Nat.add_assoc, Int.toNat_natCast, Nat.mul_one]); rfl))
    | (apply st_build; rfl; (focus (simp only [lnb, Value.cells, Nat.zero_add, Nat.reduceEqDiff, ↓reduceIte, eq_self, Nat.reduceAdd, Nat.reduceSub, Nat.sub_self, Nat.reduceLeDiff, Nat.le_refl, and_self, rep, zeroRow] <;> rfl)))
    | (apply st_store'; rfl; rfl; (focus (simp only [lnb, Value.cells, Nat.zero_add, Nat.reduceEqDiff, ↓reduceIte, eq_self, Nat.reduceAdd, Nat.reduceSub, Nat.sub_self, Nat.reduceLeDiff, Nat.le_refl, and_self, rep, zeroRow] <;> rfl)); rfl; rfl; (focus ((repeat (first | (apply Upd.cells; omega; (focus (simp only [List.length_cons, List.length_nil, Nat.reduceAdd, Nat.zero_add, Nat.reduceSub, Nat.sub_self, Nat.reduceLeDiff, Nat.le_refl]; done)); (focus (simp only [lnb, Value.cells, Nat.zero_add, Nat.reduceEqDiff, ↓reduceIte, eq_self, Nat.reduceAdd, Nat.reduceSub, Nat.sub_self, Nat.reduceLeDiff, Nat.le_refl, and_self, rep, zeroRow] <;> rfl))) | apply Upd.there)); done)))
    | (apply st_pure; rfl; rfl; rfl))
      | (refine VO.nil ?_; simp only [V.argsEnv, V.restr, V.look, V.putE, V.thenQ, V.blockQ, Nat.zero_add, Nat.reduceAdd, Nat.reduceEqDiff, ↓reduceIte, eq_self])
      | refine VC.seq_reg ?_
      | refine VC.seq_draw1 ?_
      | refine VC.seq_block ?_
      | refine VC.seq_skip ?_
      | refine VC.reg ?_
      | refine VC.draw1 ?_
      | refine VC.block ?_
      | (refine VC.skip ?_; try simp only [V.argsEnv, V.restr, V.look, V.putE, V.thenQ, V.blockQ, Nat.zero_add, Nat.reduceAdd, Nat.reduceEqDiff, ↓reduceIte, eq_self])
      | (refine VC.exit ?_; try simp only [V.argsEnv, V.restr, V.look, V.putE, V.thenQ, V.blockQ, Nat.zero_add, Nat.reduceAdd, Nat.reduceEqDiff, ↓reduceIte, eq_self])
      | (refine VC.ret ?_; try simp only [V.thenQ, V.blockQ])
      | (apply VC.seq_cond_t; rfl)
      | (apply VC.seq_cond_f; rfl)
      | (apply VC.cond_t; rfl)
      | (apply VC.cond_f; rfl)))
  exact later.out) : G := h ⟨r⟩
structure Hd where
  cls : Nat
  fmt : Nat
  spare : Nat
  hash : Nat
  age : Nat
  slots : Nat
  marked : Bool
  noted : Bool
def b2n (b : Bool) : Nat := if b then 1 else 0
theorem b2n_le (b : Bool) : b2n b ≤ 1 := by cases b <;> decide
def hdEnc (h : Hd) : List Value := [vi h.cls, cv h.fmt, vi h.spare, vi h.hash, vi h.age, vi h.slots, .bool h.marked, .bool h.noted]
structure Hd.May (h : Hd) : Prop where
  cls : h.cls ≤ 4095
  hash : h.hash ≤ 4194303
  age : h.age ≤ 15
  slots : h.slots ≤ 65536
  spare : h.spare ≤ 7
  fmt : 1 ≤ h.fmt ∧ h.fmt ≤ 6
  plain : h.fmt ≤ 4 → h.spare = 0
  eph : h.fmt = 3 → 0 < h.slots
  meth : h.fmt = 6 → 0 < h.slots
  some : h.spare ≠ 0 → (if h.fmt = 6 then 1 else 0) < h.slots
def pk (h : Hd) : Nat := h.cls + h.fmt * 4096 + h.spare * 32768 + h.hash * 262144 + h.age * 1099511627776 + b2n h.marked * 17592186044416 + b2n h.noted * 35184372088832
theorem orAdd {a b i : Nat} (h : a < 2 ^ i) : a ||| b * 2 ^ i = a + b * 2 ^ i := by
  have := Nat.two_pow_add_eq_or_of_lt h b
  rw [Nat.mul_comm b, Nat.or_comm, ← this]; omega
theorem Hd.May.lt {h : Hd} (m : h.May) : pk h < 70368744177664 := by
  obtain ⟨h1, h2, h3, h4, h5, h6, _⟩ := m
  have := b2n_le h.marked
  have := b2n_le h.noted
  unfold pk
  omega
theorem pk_fields {h : Hd} (m : h.May) : pk h % 4096 = h.cls ∧ pk h / 4096 % 8 = h.fmt ∧ pk h / 32768 % 8 = h.spare ∧ pk h / 262144 % 4194304 = h.hash ∧ pk h / 1099511627776 % 16 = h.age ∧ pk h / 17592186044416 % 2 = b2n h.marked ∧ pk h / 35184372088832 % 2 = b2n h.noted := by
  obtain ⟨h1, h2, h3, h4, h5, h6, _⟩ := m
  have h7 := b2n_le h.marked
  have h8 := b2n_le h.noted
  unfold pk
  generalize b2n h.marked = x at *
  generalize b2n h.noted = y at *
  omega
def pk0 (h : Hd) : Nat := h.cls + h.fmt * 4096 + h.spare * 32768 + h.hash * 262144 + h.age * 1099511627776
theorem pk0_lt {h : Hd} (m : h.May) : pk0 h < 17592186044416 := by
  obtain ⟨h1, h2, h3, h4, h5, h6, _⟩ := m
  unfold pk0; omega
theorem pk_eq (h : Hd) : pk h = pk0 h + b2n h.marked * 17592186044416 + b2n h.noted * 35184372088832 := rfl
theorem pk0_or {h : Hd} (m : h.May) : (((h.cls ||| h.fmt * 4096 % 18446744073709551616) ||| h.spare * 32768 % 18446744073709551616) ||| h.hash * 262144 % 18446744073709551616) ||| h.age * 1099511627776 % 18446744073709551616 = pk0 h := by
  obtain ⟨h1, h2, h3, h4, h5, h6, _⟩ := m
  rw [Nat.mod_eq_of_lt (by omega), Nat.mod_eq_of_lt (by omega), Nat.mod_eq_of_lt (by omega), Nat.mod_eq_of_lt (by omega)]
  have e1 := orAdd (a := h.cls) (b := h.fmt) (i := 12) (by omega)
  have e2 := orAdd (a := h.cls + h.fmt * 4096) (b := h.spare) (i := 15) (by omega)
  have e3 := orAdd (a := h.cls + h.fmt * 4096 + h.spare * 32768) (b := h.hash) (i := 18) (by omega)
  have e4 := orAdd (a := h.cls + h.fmt * 4096 + h.spare * 32768 + h.hash * 262144) (b := h.age) (i := 40) (by omega)
  simp only [Nat.reducePow] at e1 e2 e3 e4
  rw [e1, e2, e3, e4]; rfl
theorem pk_or {h : Hd} (m : h.May) : pk0 h ||| b2n h.marked * 17592186044416 ||| b2n h.noted * 35184372088832 = pk h := by
  have h0 := pk0_lt m
  have h1 := b2n_le h.marked
  have e1 := orAdd (a := pk0 h) (b := b2n h.marked) (i := 44) (by omega)
  have e2 := orAdd (a := pk0 h + b2n h.marked * 17592186044416) (b := b2n h.noted) (i := 45) (by omega)
  simp only [Nat.reducePow] at e1 e2
  rw [e1, e2, pk_eq]
def tagO (o : Nat) : Nat := if o % 8 = 1 then 1 else if o % 8 = 2 then (if o / 8 ≤ 2097151 then 2 else 4) else if o % 8 = 0 then (if o / 8 = 0 then 0 else if o / 8 ≤ 268435455 then 3 else 4) else 4
def wordO (o : Nat) : Nat := if tagO o = 3 then o / 8 else 0
theorem tagO_obj {w : Nat} (h1 : 1 ≤ w) (h2 : w ≤ 268435455) : tagO (8 * w) = 3 := by
  unfold tagO; rw [if_neg (by omega), if_neg (by omega), if_pos (by omega), if_neg (by omega), if_pos (by omega)]
theorem tagO_three {o : Nat} (h : tagO o = 3) : o = 8 * (o / 8) ∧ 1 ≤ o / 8 ∧ o / 8 ≤ 268435455 := by
  unfold tagO at h
  repeat' split at h
  all_goals (try omega)
structure Ob where
  at_ : Nat
  hd : Hd
  body : List Nat
def Ob.many (b : Ob) : Nat := if b.hd.fmt = 6 then b.body.headD 0 / 8 + 1 else if b.hd.fmt = 4 ∨ b.hd.fmt = 5 then 0 else b.hd.slots
def Ob.oop (b : Ob) : Nat := 8 * b.at_
def Ob.stop (b : Ob) : Nat := b.at_ + 2 + b.hd.slots
structure Ob.Ok (b : Ob) : Prop where
  may : b.hd.May
  len : b.body.length = b.hd.slots
  small : ∀ x ∈ b.body, x < 18446744073709551616
  meth : b.hd.fmt = 6 → ∃ n r, b.body = (8 * n + 1) :: r ∧ n ≤ r.length
theorem Ob.Ok.many {b : Ob} (h : b.Ok) : b.many ≤ b.hd.slots := by
  unfold Ob.many
  split
  · rename_i e
    obtain ⟨n, r, e1, e2⟩ := h.meth e
    have := h.len
    rw [e1] at this ⊢
    simp only [List.headD_cons, List.length_cons] at *
    omega
  · split <;> omega
structure Lay (ws st : List Nat) (obs : List Ob) : Prop where
  small : ∀ x ∈ ws, x < 18446744073709551616
  sts : ∀ x ∈ st, x < 18446744073709551616
  stl : st.length = ws.length / 64 + 1
  len : ws.length < 4194304
  ok : ∀ b ∈ obs, b.Ok
  low : ∀ b ∈ obs, 2 ≤ b.at_
  high : ∀ b ∈ obs, b.stop ≤ ws.length
  head : ∀ b ∈ obs, ws[b.at_]? = some (pk b.hd) ∧ ws[b.at_ + 1]? = some b.hd.slots
  body : ∀ b ∈ obs, ∀ i < b.hd.slots, ws[b.at_ + 2 + i]? = b.body[i]?
  sort : obs.Pairwise fun a b => a.stop ≤ b.at_
  bits : ∀ w, w < ws.length → (bitAt st w = true ↔ ∃ b ∈ obs, b.at_ = w)
def getO (obs : List Ob) (o : Nat) : Option Ob := obs.find? fun b => decide (b.oop = o)
theorem getO_some {obs : List Ob} {o : Nat} {b : Ob} (h : getO obs o = some b) : b ∈ obs ∧ b.oop = o := by
  unfold getO at h
  exact ⟨List.mem_of_find?_eq_some h, by simpa using List.find?_some h⟩
theorem getO_none {obs : List Ob} {o : Nat} (h : getO obs o = none) : ∀ b ∈ obs, b.oop ≠ o := by
  unfold getO at h
  intro b hb
  simpa using List.find?_eq_none.1 h b hb
theorem sort_one {obs : List Ob} (h : obs.Pairwise fun a b => a.stop ≤ b.at_) {a b : Ob} (ha : a ∈ obs) (hb : b ∈ obs) (e : a.at_ = b.at_) : a = b := by
  induction obs with
  | nil => cases ha
  | cons x r ih =>
    obtain ⟨h1, h2⟩ := List.pairwise_cons.1 h
    rcases List.mem_cons.1 ha with rfl | ha'
    · rcases List.mem_cons.1 hb with rfl | hb'
      · rfl
      · have := h1 b hb'; unfold Ob.stop at this; omega
    · rcases List.mem_cons.1 hb with rfl | hb'
      · have := h1 a ha'; unfold Ob.stop at this; omega
      · exact ih h2 ha' hb'
theorem sort_apart {obs : List Ob} (h : obs.Pairwise fun a b => a.stop ≤ b.at_) {a b : Ob} (ha : a ∈ obs) (hb : b ∈ obs) (hne : a ≠ b) : a.stop ≤ b.at_ ∨ b.stop ≤ a.at_ := by
  induction obs with
  | nil => cases ha
  | cons x r ih =>
    obtain ⟨h1, h2⟩ := List.pairwise_cons.1 h
    rcases List.mem_cons.1 ha with rfl | ha'
    · rcases List.mem_cons.1 hb with rfl | hb'
      · exact absurd rfl hne
      · exact .inl (h1 b hb')
    · rcases List.mem_cons.1 hb with rfl | hb'
      · exact .inr (h1 a ha')
      · exact ih h2 ha' hb'
theorem getO_mem {obs : List Ob} (h : obs.Pairwise fun a b => a.stop ≤ b.at_) {b : Ob} (hb : b ∈ obs) : getO obs b.oop = some b := by
  cases e : getO obs b.oop with
  | none => exact absurd rfl (getO_none e b hb)
  | some c =>
    obtain ⟨h1, h2⟩ := getO_some e
    rw [sort_one h h1 hb (by unfold Ob.oop at h2; omega)]
end Go.V

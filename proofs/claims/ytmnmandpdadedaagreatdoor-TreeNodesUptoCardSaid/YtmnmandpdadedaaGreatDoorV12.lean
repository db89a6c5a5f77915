/-
  From what is handed in to trees.
-/
import Derived.Test.YtmnmandpdadedaaGreatDoorV10
import Derived.Test.YtmnmandpdadedaaGreatDoorV11
import Derived.Test.YtmnmandpdadedaaGreatDoorV9
import Derived.Below
import Derived.Lib.Bytealg
set_option linter.unusedSimpArgs false
set_option linter.unusedVariables false
namespace Go.V
open Go Go.ChangeShapes Go.WideShapes Go.Deep
structure Bulk {H : Type} (bulk : DataW H → Nat) : Prop where
  agg : ∀ l d, d ∈ l → bulk d < bulk (.agg l)
  sl : ∀ es sp d, d ∈ es → bulk d < bulk (.slice es sp)
  len : ∀ es sp, es.length ≤ bulk (.slice es sp)
  sls : ∀ es sp, (es.map bulk).sum ≤ bulk (.slice es sp)
  aggs : ∀ l, (l.map bulk).sum < bulk (.agg l)
  str : ∀ bs, bs.length ≤ bulk (.lit (.string bs))
theorem spot_noneV {W : World} {a : Addr} {v : Value} (h : W.cell? a = some v) : a = ⟨a.block, a.off, none⟩ := by
  obtain ⟨b, o, s⟩ := a
  cases s with
  | none => rfl
  | some s =>
    unfold World.cell? at h
    split at h
    · simp at h
    · cases h
section
variable {H : Type} {enc : TypeId × Value → H} {P : Program} {bulk : DataW H → Nat}
theorem rd_rows (hb : Bulk bulk) {t e : TypeId} {sz : Nat} (ht : P.underlying t = some (.slice e)) (hc : P.cellsOf e = sz) (hpos : 0 < sz) {W : World} {u : Value} {n : Nat} {x : DataW H × List MemPlace} {A : List Atom} (h : DataW.trod enc P W 0 (fun _ => true) true n t [u] = some x) (hf : W.noneFrozen x.2) (hA : ∀ a : Atom, a.holds W → a ∈ A) :
    ∃ (a : Option Addr) (k c bk o : Nat) (us : Nat → List Value) (D : Nat → DataW H) (Pl : Nat → List MemPlace) (m : Nat), u = .slice a k c ∧ (k ≤ bulk x.1 ∧ ((List.range' 0 k).map fun i => bulk (D i)).sum ≤ bulk x.1 ∧ k ≤ c) ∧ (0 < k → a = some ⟨bk, o, none⟩) ∧ ∀ i, i < k → bulk (D i) < bulk x.1 ∧ (us i).length = sz ∧ (∀ y ∈ cellsAt bk (o + i * sz) (us i), y ∈ A) ∧ DataW.trod enc P W 0 (fun _ => true) true m e (us i) = some (D i, Pl i) ∧ W.noneFrozen (Pl i) := by
  rcases open_slice ht h with ⟨h1, _⟩ | ⟨a, len, cap, m, n', D, Pl, hcs, _, hl, _, hm, hx, hi⟩
  · simp only [List.cons.injEq, and_true] at h1
    exact ⟨none, 0, 0, 0, 0, fun _ => [], fun _ => .nil, fun _ => [], 0, h1, ⟨Nat.zero_le _, Nat.zero_le _, Nat.le_refl _⟩, fun h => absurd h (Nat.lt_irrefl 0), fun i hi => absurd hi (Nat.not_lt_zero _)⟩
  · simp only [List.cons.injEq, and_true] at hcs
    simp only [if_true] at hm
    subst hm
    subst hx
    rw [hc] at hi
    obtain ⟨us, hus⟩ : ∃ us : Nat → List Value, ∀ i, i < m → W.cells? 0 (a.add (i * sz)) sz = some (us i) ∧ DataW.trod enc P W 0 (fun _ => true) true n' e (us i) = some (D i, Pl i) :=
      ⟨fun i => if h : i < m then (hi i h).choose else [], fun i h => by simp only [dif_pos h]; exact (hi i h).choose_spec⟩
    refine ⟨some a, len, m, a.block, a.off, us, D, Pl, n', hcs, ⟨?_, ?_, by omega⟩, fun hk => ?_, fun i hik => ?_⟩
    · have := hb.len ((List.range len).map D) ((List.range (m - len)).map fun j => D (len + j))
      simpa using this
    · have := hb.sls ((List.range len).map D) ((List.range (m - len)).map fun j => D (len + j))
      rw [List.map_map] at this
      rw [← List.range_eq_range']
      exact this
    · obtain ⟨h0, _⟩ := hus 0 (by omega)
      obtain ⟨_, _, hat⟩ := World.cells?_some h0
      have h00 := hat 0 hpos
      obtain ⟨_, hlen, _⟩ := World.cells?_some h0
      rw [List.getElem?_eq_getElem (by omega)] at h00
      have e1 : (a.add (0 * sz)).add 0 = a := by rw [Nat.zero_mul]; rfl
      rw [e1] at h00
      rw [← spot_noneV h00]
    · obtain ⟨h0, h1⟩ := hus i (by omega)
      obtain ⟨_, hlen, hat⟩ := World.cells?_some h0
      have ha : a = ⟨a.block, a.off, none⟩ := by
        obtain ⟨g0, _⟩ := hus 0 (by omega)
        obtain ⟨_, glen, gat⟩ := World.cells?_some g0
        have h00 := gat 0 hpos
        rw [List.getElem?_eq_getElem (by omega)] at h00
        have e1 : (a.add (0 * sz)).add 0 = a := by rw [Nat.zero_mul]; rfl
        rw [e1] at h00
        exact spot_noneV h00
      refine ⟨hb.sl _ _ _ (List.mem_map.2 ⟨i, List.mem_range.2 hik, rfl⟩), hlen, fun y hy => ?_, h1, fun b o hbo => hf b o ?_⟩
      · obtain ⟨j, v, hj, rfl⟩ := mem_cellsAt.1 hy
        have hjl := (List.getElem?_eq_some_iff.1 hj).1
        have hcell := hat j (by omega)
        rw [ha, add_addr, add_addr, hj] at hcell
        refine hA _ (holds_cell hcell (hf _ _ ?_))
        refine List.mem_append_left _ (MemPlace.mem_row.2 ⟨i * sz + j, ?_, ?_⟩)
        · rw [hc]
          have : (i + 1) * sz ≤ m * sz := Nat.mul_le_mul_right _ (by omega)
          rw [Nat.succ_mul] at this; omega
        · rw [Nat.add_assoc]
      · exact List.mem_append_right _ (List.mem_flatMap.2 ⟨i, List.mem_range.2 (by omega), hbo⟩)
theorem rd_texts (hb : Bulk bulk) {t e : TypeId} (ht : P.underlying t = some (.slice e)) (he : P.underlying e = some .string) (hc : P.cellsOf e = 1) {W : World} {u : Value} {n : Nat} {x : DataW H × List MemPlace} {A : List Atom} (h : DataW.trod enc P W 0 (fun _ => true) true n t [u] = some x) (hf : W.noneFrozen x.2) (hA : ∀ a : Atom, a.holds W → a ∈ A) (hsz : bulk x.1 ≤ 1048576) :
    ∃ l : List ByteArray, RdT A u l ∧ l.length ≤ bulk x.1 := by
  obtain ⟨a, k, c, bk, o, us, D, Pl, m, rfl, ⟨hk, _⟩, ha, hi⟩ := rd_rows hb ht hc (by decide) h hf hA
  obtain ⟨l, hl, hx⟩ := choose_rows (α := ByteArray) (Q := fun i t => Atom.cell bk (o + i) (.string t) ∈ A ∧ t.size ≤ 140737488355328) (n := k) (fun i hik => by
    obtain ⟨h1, h2, h3, h4, h5⟩ := hi i hik
    obtain ⟨s, hs, hd, _⟩ := DataW.trod_string he h4
    refine ⟨s, h3 _ (mem_cellsAt.2 ⟨0, .string s, by rw [hs]; rfl, by rw [Nat.mul_one]; rfl⟩), ?_⟩
    have e1 : D i = .lit (.string s.data.toList) := congrArg Prod.fst hd
    have := hb.str s.data.toList
    rw [e1] at h1
    have e2 : s.data.toList.length = s.size := by simp
    omega)
  refine ⟨l, ⟨a, c, by rw [hl], by omega, fun i t h => ?_⟩, by omega⟩
  have hik : i < k := by have := (List.getElem?_eq_some_iff.1 h).1; omega
  exact ⟨bk, o, ha (by omega), (hx i t h).1, (hx i t h).2⟩
structure LitT (P : Program) (t : TypeId) (sl : TypeId) : Prop where
  str : ∃ fs : Array Field, P.underlying t = some (.struct fs) ∧ fs.size = 5 ∧ ∃ t0 t1 t2 t3, (fs.toList.map fun f => (f.type, f.offset)) = [(t0, 0), (t1, 1), (t2, 2), (t3, 3), (sl, 4)] ∧ P.underlying t0 = some (.int .u8) ∧ P.underlying t1 = some (.int .i64) ∧ P.underlying t2 = some (.int .u64) ∧ P.underlying t3 = some .string ∧
    P.cellsOf t0 = 1 ∧ P.cellsOf t1 = 1 ∧ P.cellsOf t2 = 1 ∧ P.cellsOf t3 = 1 ∧ P.cellsOf sl = 1
  cells : P.cellsOf t = 5
  items : P.underlying sl = some (.slice t)
theorem wf_u8 {n : Int} (h : (Lit.int .u8 n).wf = true) : ∃ k : Nat, n = k ∧ k < 256 := by
  simp [Lit.wf] at h
  have e1 : IntKind.u8.min = 0 := by decide
  have e2 : IntKind.u8.max = 255 := by decide
  exact ⟨n.toNat, by omega, by omega⟩
theorem wf_u64 {n : Int} (h : (Lit.int .u64 n).wf = true) : ∃ k : Nat, n = k ∧ k < 18446744073709551616 := by
  simp [Lit.wf] at h
  have e1 : IntKind.u64.min = 0 := by decide
  have e2 : IntKind.u64.max = 18446744073709551615 := by decide
  exact ⟨n.toNat, by omega, by omega⟩
theorem wf_i64 {n : Int} (h : (Lit.int .i64 n).wf = true) : -9223372036854775808 ≤ n ∧ n ≤ 9223372036854775807 := by
  simp [Lit.wf] at h
  have e1 : IntKind.i64.min = -9223372036854775808 := by decide
  have e2 : IntKind.i64.max = 9223372036854775807 := by decide
  omega
theorem take_one {α : Type} {l : List α} {i : Nat} {v : α} (h : (l.drop i).take 1 = [v]) : l[i]? = some v := by
  have := congrArg (fun m : List α => m[0]?) h
  simp only [List.getElem?_take, List.getElem?_drop] at this
  simpa using this
theorem flat_sub {ys : List (DataW H × List MemPlace)} {i : Nat} {y : DataW H × List MemPlace} (h : ys[i]? = some y) {q : MemPlace} (hq : q ∈ y.2) : q ∈ ys.flatMap (·.2) := List.mem_flatMap.2 ⟨y, List.mem_of_getElem? h, hq⟩
theorem rd_lit (hb : Bulk bulk) {t sl : TypeId} (hT : LitT P t sl) {W : World} {A : List Atom} (hA : ∀ a : Atom, a.holds W → a ∈ A) : ∀ (N : Nat) (n : Nat) (cs : List Value) (x : DataW H × List MemPlace), bulk x.1 ≤ N → N ≤ 1048576 → DataW.trod enc P W 0 (fun _ => true) true n t cs = some x → W.noneFrozen x.2 → ∃ l : Lt, LtRd A l cs ∧ l.size ≤ bulk x.1 := by
  obtain ⟨fs, hu, hsz, t0, t1, t2, t3, hfs, u0, u1, u2, u3, c0, c1, c2, c3, c4⟩ := hT.str
  intro N
  induction N using Nat.strongRecOn with
  | _ N ih =>
    intro n cs x hx hN h hf
    obtain ⟨ys, k, _, rfl, hlen, hyl, hfld⟩ := DataW.trod_struct hu h
    rw [hT.cells] at hlen
    replace hx : bulk (.agg (ys.map (·.1))) ≤ N := hx
    have hget : ∀ (i : Nat) (ty off : Nat), (fs.toList.map fun f => (f.type, f.offset))[i]? = some (ty, off) → DataW.trod enc P W 0 (fun _ => true) true k ty ((cs.drop off).take (P.cellsOf ty)) = ys[i]? := fun i ty off hi => by
      rw [List.getElem?_map] at hi
      obtain ⟨f, hf1, hf2⟩ := Option.map_eq_some_iff.1 hi
      cases hf2
      exact hfld i f (by rw [← hf1, Array.getElem?_toList])
    have hys : ∀ i, i < 5 → ys[i]? = some (ys.getD i (.nil, [])) := fun i hi => by
      rw [List.getD_eq_getElem?_getD, List.getElem?_eq_getElem (by omega)]; rfl
    have g0 := (hget 0 t0 0 (by rw [hfs]; rfl)).trans (hys 0 (by omega))
    have g1 := (hget 1 t1 1 (by rw [hfs]; rfl)).trans (hys 1 (by omega))
    have g2 := (hget 2 t2 2 (by rw [hfs]; rfl)).trans (hys 2 (by omega))
    have g3 := (hget 3 t3 3 (by rw [hfs]; rfl)).trans (hys 3 (by omega))
    have g4 := (hget 4 sl 4 (by rw [hfs]; rfl)).trans (hys 4 (by omega))
    rw [c0] at g0; rw [c1] at g1; rw [c2] at g2; rw [c3] at g3; rw [c4] at g4
    obtain ⟨z0, e0, _, w0⟩ := DataW.trod_int u0 g0
    obtain ⟨z1, e1, _, w1⟩ := DataW.trod_int u1 g1
    obtain ⟨z2, e2, _, w2⟩ := DataW.trod_int u2 g2
    obtain ⟨s, e3, d3, _⟩ := DataW.trod_string u3 g3
    have hlt : ∀ i, i < 5 → bulk (ys.getD i (.nil, [])).1 < bulk (.agg (ys.map (·.1))) := fun i hi => hb.agg _ _ (List.mem_map.2 ⟨_, List.mem_of_getElem? (hys i hi), rfl⟩)
    have hfr : ∀ i, i < 5 → W.noneFrozen (ys.getD i (.nil, [])).2 := fun i hi b o hbo => hf b o (flat_sub (hys i hi) hbo)
    obtain ⟨v4, e4⟩ : ∃ v, (cs.drop 4).take 1 = [v] := List.length_eq_one_iff.1 (by simp; omega)
    rw [e4] at g4
    obtain ⟨a, kk, c, bk, o, us, D, Pl, m, rfl, ⟨hk, hks, hkc⟩, ha, hi⟩ := rd_rows hb hT.items hT.cells (by decide) g4 (hfr 4 (by omega)) hA
    obtain ⟨l, hl, hq⟩ := choose_rows (α := Lt) (Q := fun i y => LtRd A y (us i) ∧ y.size ≤ bulk (D i)) (n := kk) (fun i hik => by
      obtain ⟨q1, _, _, q4, q5⟩ := hi i hik
      have q6 := hlt 4 (by omega)
      exact ih (bulk (D i)) (by omega) m (us i) (D i, Pl i) (Nat.le_refl _) (by omega) q4 q5)
    obtain ⟨k0, rfl, b0⟩ := wf_u8 w0
    obtain ⟨k2, rfl, b2⟩ := wf_u64 w2
    have b1 := wf_i64 w1
    have hcs : cs = [cv k0, vi z1, uv k2, .string s, .slice a l.length c] := by
      have p0 := take_one e0
      have p1 := take_one e1
      have p2 := take_one e2
      have p3 := take_one e3
      have p4 := take_one e4
      obtain ⟨a0, a1, a2, a3, a4, rfl⟩ : ∃ a0 a1 a2 a3 a4, cs = [a0, a1, a2, a3, a4] := by
        match cs, hlen with
        | [a0, a1, a2, a3, a4], _ => exact ⟨a0, a1, a2, a3, a4, rfl⟩
      simp only [List.getElem?_cons_zero, List.getElem?_cons_succ, Option.some.injEq] at p0 p1 p2 p3 p4
      rw [p0, p1, p2, p3, p4, hl]
    have hs3 : s.size ≤ 1048576 := by
      have h3 := hlt 3 (by omega)
      have e : (ys.getD 3 (.nil, [])).1 = .lit (.string s.data.toList) := congrArg Prod.fst d3
      rw [e] at h3
      have h5 := hb.str s.data.toList
      have e2 : s.data.toList.length = s.size := by simp
      omega
    have h4 := hlt 4 (by omega)
    have hsz4 : Lt.sizes l ≤ bulk (ys.getD 4 (.nil, [])).1 := by
      refine Nat.le_trans (Lt.sizes_le (f := fun i => bulk (D i)) (o := 0) (fun i x hx => ?_)) ?_
      · rw [Nat.zero_add]; exact (hq i x hx).2
      · rw [hl]; exact hks
    rw [hcs]
    refine ⟨.mk k0 z1 k2 s l, .mk ⟨b0, b1, b2, by omega, by omega⟩ (fun hp => ha (by omega)) (fun i hi' => (hi i (by omega)).2.2.1) (fun i x hx => (hq i x hx).1), ?_⟩
    show 1 + Lt.sizes l ≤ bulk (.agg (ys.map (·.1)))
    omega
structure NodT (P : Program) (t tl sl st : TypeId) : Prop where
  str : ∃ fs : Array Field, P.underlying t = some (.struct fs) ∧ fs.size = 7 ∧ ∃ t0 t1 t6, (fs.toList.map fun f => (f.type, f.offset)) = [(t0, 0), (t1, 1), (tl, 2), (st, 7), (st, 8), (sl, 9), (t6, 10)] ∧ P.underlying t0 = some (.int .u8) ∧ P.underlying t1 = some .string ∧ P.underlying t6 = some (.int .i64) ∧
    P.cellsOf t0 = 1 ∧ P.cellsOf t1 = 1 ∧ P.cellsOf t6 = 1 ∧ P.underlying st = some (.slice t1)
  cells : P.cellsOf t = 11
  cs : P.cellsOf sl = 1
  ct : P.cellsOf st = 1
  cl : P.cellsOf tl = 5
  kids : P.underlying sl = some (.slice t)
theorem rd_node (hb : Bulk bulk) {t tl sl st ll : TypeId} (hT : NodT P t tl sl st) (hL : LitT P tl ll) {W : World} {A : List Atom} (hA : ∀ a : Atom, a.holds W → a ∈ A) : ∀ (N : Nat) (n : Nat) (cs : List Value) (x : DataW H × List MemPlace), bulk x.1 ≤ N → N ≤ 1048576 → DataW.trod enc P W 0 (fun _ => true) true n t cs = some x → W.noneFrozen x.2 → ∃ l : Nd, NdRd A l cs ∧ l.w ≤ bulk x.1 := by
  obtain ⟨fs, hu, hsz, t0, t1, t6, hfs, u0, u1, u6, c0, c1, c6, us3⟩ := hT.str
  intro N
  induction N using Nat.strongRecOn with
  | _ N ih =>
    intro n cs x hx hN h hf
    obtain ⟨ys, k, _, rfl, hlen, hyl, hfld⟩ := DataW.trod_struct hu h
    rw [hT.cells] at hlen
    replace hx : bulk (.agg (ys.map (·.1))) ≤ N := hx
    have hget : ∀ (i : Nat) (ty off : Nat), (fs.toList.map fun f => (f.type, f.offset))[i]? = some (ty, off) → DataW.trod enc P W 0 (fun _ => true) true k ty ((cs.drop off).take (P.cellsOf ty)) = ys[i]? := fun i ty off hi => by
      rw [List.getElem?_map] at hi
      obtain ⟨f, hf1, hf2⟩ := Option.map_eq_some_iff.1 hi
      cases hf2
      exact hfld i f (by rw [← hf1, Array.getElem?_toList])
    have hys : ∀ i, i < 7 → ys[i]? = some (ys.getD i (.nil, [])) := fun i hi => by
      rw [List.getD_eq_getElem?_getD, List.getElem?_eq_getElem (by omega)]; rfl
    have g0 := (hget 0 t0 0 (by rw [hfs]; rfl)).trans (hys 0 (by omega))
    have g1 := (hget 1 t1 1 (by rw [hfs]; rfl)).trans (hys 1 (by omega))
    have g2 := (hget 2 tl 2 (by rw [hfs]; rfl)).trans (hys 2 (by omega))
    have g3 := (hget 3 st 7 (by rw [hfs]; rfl)).trans (hys 3 (by omega))
    have g4 := (hget 4 st 8 (by rw [hfs]; rfl)).trans (hys 4 (by omega))
    have g5 := (hget 5 sl 9 (by rw [hfs]; rfl)).trans (hys 5 (by omega))
    have g6 := (hget 6 t6 10 (by rw [hfs]; rfl)).trans (hys 6 (by omega))
    rw [c0] at g0; rw [c1] at g1; rw [hT.cl] at g2; rw [hT.ct] at g3 g4; rw [hT.cs] at g5; rw [c6] at g6
    obtain ⟨z0, e0, _, w0⟩ := DataW.trod_int u0 g0
    obtain ⟨s, e1, d1, _⟩ := DataW.trod_string u1 g1
    obtain ⟨z6, e6, _, w6⟩ := DataW.trod_int u6 g6
    have hlt : ∀ i, i < 7 → bulk (ys.getD i (.nil, [])).1 < bulk (.agg (ys.map (·.1))) := fun i hi => hb.agg _ _ (List.mem_map.2 ⟨_, List.mem_of_getElem? (hys i hi), rfl⟩)
    have hfr : ∀ i, i < 7 → W.noneFrozen (ys.getD i (.nil, [])).2 := fun i hi b o hbo => hf b o (flat_sub (hys i hi) hbo)
    obtain ⟨v3, e3⟩ : ∃ v, (cs.drop 7).take 1 = [v] := List.length_eq_one_iff.1 (by simp; omega)
    obtain ⟨v4, e4⟩ : ∃ v, (cs.drop 8).take 1 = [v] := List.length_eq_one_iff.1 (by simp; omega)
    obtain ⟨v5, e5⟩ : ∃ v, (cs.drop 9).take 1 = [v] := List.length_eq_one_iff.1 (by simp; omega)
    rw [e3] at g3; rw [e4] at g4; rw [e5] at g5
    have l2 := hlt 2 (by omega)
    have l3 := hlt 3 (by omega)
    have l4 := hlt 4 (by omega)
    have l5 := hlt 5 (by omega)
    obtain ⟨lit, hlit, hlw⟩ := rd_lit hb hL hA 1048576 k _ _ (by omega) (Nat.le_refl _) g2 (hfr 2 (by omega))
    obtain ⟨args, hargs, hargl⟩ := rd_texts hb us3 u1 c1 g3 (hfr 3 (by omega)) hA (by omega)
    obtain ⟨temps, htemps, htempl⟩ := rd_texts hb us3 u1 c1 g4 (hfr 4 (by omega)) hA (by omega)
    obtain ⟨a, kk, c, bk, o, us, D, Pl, m, rfl, ⟨hk, hks, hkc⟩, ha, hi⟩ := rd_rows hb hT.kids hT.cells (by decide) g5 (hfr 5 (by omega)) hA
    obtain ⟨l, hl, hq⟩ := choose_rows (α := Nd) (Q := fun i y => NdRd A y (us i) ∧ y.w ≤ bulk (D i)) (n := kk) (fun i hik => by
      obtain ⟨q1, _, _, q4, q5⟩ := hi i hik
      exact ih (bulk (D i)) (by omega) m (us i) (D i, Pl i) (Nat.le_refl _) (by omega) q4 q5)
    have hyl2 : ys.length = 7 := by rw [hyl]; exact hsz
    obtain ⟨k0, rfl, b0⟩ := wf_u8 w0
    have b6 := wf_i64 w6
    have hcs : cs = [cv k0, .string s] ++ (cs.drop 2).take 5 ++ [v3, v4, .slice a l.length c, vi z6] := by
      have p0 := take_one e0
      have p1 := take_one e1
      have p3 := take_one e3
      have p4 := take_one e4
      have p5 := take_one e5
      have p6 := take_one e6
      obtain ⟨a0, a1, a2, a3, a4, a5, a6, a7, a8, a9, a10, rfl⟩ : ∃ a0 a1 a2 a3 a4 a5 a6 a7 a8 a9 a10, cs = [a0, a1, a2, a3, a4, a5, a6, a7, a8, a9, a10] := by
        match cs, hlen with
        | [a0, a1, a2, a3, a4, a5, a6, a7, a8, a9, a10], _ => exact ⟨a0, a1, a2, a3, a4, a5, a6, a7, a8, a9, a10, rfl⟩
      simp only [List.getElem?_cons_zero, List.getElem?_cons_succ, Option.some.injEq] at p0 p1 p3 p4 p5 p6
      rw [p0, p1, p3, p4, p5, p6, hl]
      rfl
    have hs0 : s.size ≤ bulk (ys.getD 1 (.nil, [])).1 := by
      have e : (ys.getD 1 (.nil, [])).1 = .lit (.string s.data.toList) := congrArg Prod.fst d1
      rw [e]
      have h5 := hb.str s.data.toList
      have e2 : s.data.toList.length = s.size := by simp
      omega
    have hs1 : s.size ≤ 1048576 := by
      have h3 := hlt 1 (by omega)
      have e : (ys.getD 1 (.nil, [])).1 = .lit (.string s.data.toList) := congrArg Prod.fst d1
      rw [e] at h3
      have h5 := hb.str s.data.toList
      have e2 : s.data.toList.length = s.size := by simp
      omega
    rw [hcs]
    have hsz5 : Nd.ws l ≤ bulk (ys.getD 5 (.nil, [])).1 := by
      refine Nat.le_trans (Nd.ws_le (f := fun i => bulk (D i)) (o := 0) (fun i x hx => ?_)) ?_
      · rw [Nat.zero_add]; exact (hq i x hx).2
      · rw [hl]; exact hks
    refine ⟨.mk k0 s lit args temps l z6, .mk ⟨b0, by omega, by omega, b6⟩ hlit hargs htemps (fun hp => ha (by omega)) (fun i hi' => (hi i (by omega)).2.2.1) (fun i x hx => (hq i x hx).1) (by omega), ?_⟩
    have hag := hb.aggs (ys.map (·.1))
    have hsum : bulk (ys.getD 1 (.nil, [])).1 + bulk (ys.getD 2 (.nil, [])).1 + bulk (ys.getD 3 (.nil, [])).1 + bulk (ys.getD 4 (.nil, [])).1 + bulk (ys.getD 5 (.nil, [])).1 ≤ ((ys.map (·.1)).map bulk).sum := by
      match ys, hyl2 with
      | [y0, y1, y2, y3, y4, y5, y6], _ => simp only [List.map_cons, List.map_nil, List.sum_cons, List.sum_nil, List.getD_cons_zero, List.getD_cons_succ]; omega
    show 1 + s.size + lit.size + args.length + temps.length + Nd.ws l ≤ bulk (.agg (ys.map (·.1)))
    omega
end
open Go
theorem flat_snoc (Ls : Nat → List Atom) (L' : List Atom) (j : Nat) : ∃ Ls' : Nat → List Atom, (∀ i, i < j → Ls' i = Ls i) ∧ Ls' j = L' ∧ (List.range (j + 1)).flatMap Ls' = (List.range j).flatMap Ls ++ L' := by
  refine ⟨fun i => if i < j then Ls i else L', fun i hi => if_pos hi, if_neg (Nat.lt_irrefl _), ?_⟩
  rw [List.range_succ, List.flatMap_append]
  simp only [List.flatMap_cons, List.flatMap_nil, List.append_nil, Nat.lt_irrefl, if_false]
  congr 1
  rw [List.flatMap_def, List.flatMap_def]
  congr 1
  exact List.map_congr_left fun i hi => if_pos (List.mem_range.1 hi)
def LtRows (l : List Lt) (rows : List (List Value)) (K : List Atom) : Prop := rows.length = l.length ∧ (∀ r ∈ rows, r.length = 5) ∧ ∃ Ls, K = (List.range l.length).flatMap Ls ∧ ∀ (i : Nat) x r, l[i]? = some x → rows[i]? = some r → LtOwn x r (Ls i)
def NdRows (l : List Nd) (rows : List (List Value)) (K : List Atom) : Prop := rows.length = l.length ∧ (∀ r ∈ rows, r.length = 11) ∧ ∃ Ls, K = (List.range l.length).flatMap Ls ∧ ∀ (i : Nat) x r, l[i]? = some x → rows[i]? = some r → NdOwn x r (Ls i)
theorem LtRows.nil : LtRows [] [] [] := ⟨rfl, fun r hr => (by cases hr), fun _ => [], rfl, fun i x r h => (by simp at h)⟩
theorem NdRows.nil : NdRows [] [] [] := ⟨rfl, fun r hr => (by cases hr), fun _ => [], rfl, fun i x r h => (by simp at h)⟩
theorem snoc_at {α : Type} {l : List α} {z x : α} {i : Nat} (h : (l ++ [z])[i]? = some x) : (i < l.length ∧ l[i]? = some x) ∨ (i = l.length ∧ x = z) := by
  have hi := (List.getElem?_eq_some_iff.1 h).1
  rw [List.length_append, List.length_singleton] at hi
  by_cases e : i < l.length
  · rw [List.getElem?_append_left e] at h
    exact .inl ⟨e, h⟩
  · have : i = l.length := by omega
    subst this
    rw [List.getElem?_append_right (Nat.le_refl _), Nat.sub_self] at h
    simp only [List.getElem?_cons_zero, Option.some.injEq] at h
    exact .inr ⟨rfl, h.symm⟩
theorem LtRows.snoc {l : List Lt} {rows : List (List Value)} {K : List Atom} (h : LtRows l rows K) {x : Lt} {r : List Value} {L : List Atom} (hx : LtOwn x r L) : LtRows (l ++ [x]) (rows ++ [r]) (K ++ L) := by
  obtain ⟨h1, h2, Ls, rfl, h3⟩ := h
  obtain ⟨Ls', e1, e2, e3⟩ := flat_snoc Ls L l.length
  refine ⟨by simp [h1], fun r' hr' => ?_, Ls', by rw [List.length_append, List.length_singleton, e3], fun i y r' hy hr' => ?_⟩
  · rcases List.mem_append.1 hr' with h | h
    · exact h2 r' h
    · rw [List.mem_singleton.1 h]; exact hx.rd.len
  · rcases snoc_at hy with ⟨hi, hy⟩ | ⟨rfl, rfl⟩
    · rcases snoc_at hr' with ⟨_, hr'⟩ | ⟨e, _⟩
      · rw [e1 i hi]; exact h3 i y r' hy hr'
      · omega
    · rcases snoc_at hr' with ⟨e, _⟩ | ⟨_, rfl⟩
      · omega
      · rw [e2]; exact hx
theorem NdRows.snoc {l : List Nd} {rows : List (List Value)} {K : List Atom} (h : NdRows l rows K) {x : Nd} {r : List Value} {L : List Atom} (hx : NdOwn x r L) : NdRows (l ++ [x]) (rows ++ [r]) (K ++ L) := by
  obtain ⟨h1, h2, Ls, rfl, h3⟩ := h
  obtain ⟨Ls', e1, e2, e3⟩ := flat_snoc Ls L l.length
  refine ⟨by simp [h1], fun r' hr' => ?_, Ls', by rw [List.length_append, List.length_singleton, e3], fun i y r' hy hr' => ?_⟩
  · rcases List.mem_append.1 hr' with h | h
    · exact h2 r' h
    · rw [List.mem_singleton.1 h]; exact hx.rd.len
  · rcases snoc_at hy with ⟨hi, hy⟩ | ⟨rfl, rfl⟩
    · rcases snoc_at hr' with ⟨_, hr'⟩ | ⟨e, _⟩
      · rw [e1 i hi]; exact h3 i y r' hy hr'
      · omega
    · rcases snoc_at hr' with ⟨e, _⟩ | ⟨_, rfl⟩
      · omega
      · rw [e2]; exact hx
theorem LtOwn.of {k : Nat} {n : Int} {b : Nat} {t : ByteArray} {items : List Lt} {sv : Value} {rows : List (List Value)} {sp : List Value} {K : List Atom} (hsl : IsSl 5 sv items.length rows.flatten sp) (h : LtRows items rows K) (wf : LtWf k n b t items.length) :
    LtOwn (.mk k n b t items) [cv k, vi n, uv b, .string t, sv] (slA sv rows.flatten sp ++ K) := by
  obtain ⟨h1, h2, Ls, rfl, h3⟩ := h
  exact .mk hsl h1 h2 h3 wf (List.Perm.refl _)
theorem LtOwn.parts {x : Lt} {vs : List Value} {L : List Atom} (h : LtOwn x vs L) : ∃ sv rows sp K, vs = [cv x.kind, vi x.n, uv x.bits, .string x.text, sv] ∧ IsSl 5 sv x.items.length rows.flatten sp ∧ LtRows x.items rows K ∧ LtWf x.kind x.n x.bits x.text x.items.length ∧ L.Perm (slA sv rows.flatten sp ++ K) := by
  cases h with
  | mk hsl hl h5 hr wf hL => exact ⟨_, _, _, _, rfl, hsl, ⟨hl, h5, _, rfl, hr⟩, wf, hL⟩
theorem NdOwn.of {k : Nat} {s : ByteArray} {lit : Lt} {args temps : List ByteArray} {kids : List Nd} {p : Int} {lv : List Value} {av tv sv : Value} {rows : List (List Value)} {sp : List Value} {LL LA LT K : List Atom} (hsl : IsSl 11 sv kids.length rows.flatten sp) (h : NdRows kids rows K) (wf : NdWf k s kids.length p) (hlt : LtOwn lit lv LL) (hav : TxOwn av args LA) (htv : TxOwn tv temps LT) :
    NdOwn (.mk k s lit args temps kids p) ([cv k, .string s] ++ lv ++ [av, tv, sv, vi p]) (LL ++ (LA ++ (LT ++ (slA sv rows.flatten sp ++ K)))) := by
  obtain ⟨h1, h2, Ls, rfl, h3⟩ := h
  exact .mk hsl h1 h2 h3 wf hlt hav htv (List.Perm.refl _)
theorem NdOwn.parts {x : Nd} {vs : List Value} {L : List Atom} (h : NdOwn x vs L) : ∃ lv av tv sv rows sp LL LA LT K, vs = [cv x.kind, .string x.name] ++ lv ++ [av, tv, sv, vi x.at_] ∧ IsSl 11 sv x.kids.length rows.flatten sp ∧ NdRows x.kids rows K ∧ NdWf x.kind x.name x.kids.length x.at_ ∧
    LtOwn x.lit lv LL ∧ TxOwn av x.args LA ∧ TxOwn tv x.temps LT ∧ L.Perm (LL ++ (LA ++ (LT ++ (slA sv rows.flatten sp ++ K)))) := by
  cases h with
  | mk hsl hl h11 hr wf hlt hav htv hL => exact ⟨_, _, _, _, _, _, _, _, _, _, rfl, hsl, ⟨hl, h11, _, rfl, hr⟩, wf, hlt, hav, htv, hL⟩
structure Foc (p9 : Nat) (x0 : Nd) (M : List Atom) (b o : Nat) (x : Nd) (vs : List Value) (L R : List Atom) : Prop where
  own : NdOwn x vs L
  here : M.Perm (cellsAt b o vs ++ (L ++ R))
  w : x.w ≤ x0.w
  back : ∀ y ws L', NdOwn y ws L' → ndEq x y = false → ndEq y x = false → ∃ z us Lz, ndEq x0 z = false ∧ ndEq z x0 = false ∧ NdOwn z us Lz ∧ (cellsAt b o ws ++ (L' ++ R)).Perm (cellsAt p9 0 us ++ Lz)
section
variable {H : Type} {enc : TypeId × Value → H} {P : Program} {bulk : DataW H → Nat}
open Go.ChangeShapes Go.WideShapes Go.Deep
end
def roomT : ByteArray := ⟨#[114, 111, 111, 109]⟩
def moreT : ByteArray := ⟨#[109, 111, 114, 101]⟩
def TxLen (A : List Atom) (v : Value) (l : List ByteArray) : Prop := ∃ b c, v = .slice (some ⟨b, 0, none⟩) l.length c ∧ l.length + 2 ≤ c ∧ l.length ≤ 1099511627776 ∧ (∀ (i : Nat) t, l[i]? = some t → Atom.cell b i (.string t) ∈ A ∧ t.size ≤ 140737488355328) ∧ Atom.cell b l.length (.string roomT) ∈ A ∧ Atom.cell b (l.length + 1) (.string moreT) ∈ A
theorem TxLen.rd {A : List Atom} {v : Value} {l : List ByteArray} (h : TxLen A v l) : RdT A v l := by
  obtain ⟨b, c, h1, h2, h3, h4, _⟩ := h
  exact ⟨_, _, h1, h3, fun i t e => ⟨b, 0, rfl, by rw [Nat.zero_add]; exact (h4 i t e).1, (h4 i t e).2⟩⟩
theorem TxLen.more {A B : List Atom} (hs : ∀ x ∈ A, x ∈ B) {v : Value} {l : List ByteArray} (h : TxLen A v l) : TxLen B v l := by
  obtain ⟨b, c, h1, h2, h3, h4, h5, h6⟩ := h
  exact ⟨b, c, h1, h2, h3, fun i t e => ⟨hs _ (h4 i t e).1, (h4 i t e).2⟩, hs _ h5, hs _ h6⟩
inductive LtLen (A : List Atom) : Lt → List Value → Prop
  | mk {k : Nat} {n : Int} {b : Nat} {t : ByteArray} {items : List Lt} {c bk : Nat} {us : Nat → List Value} (wf : LtWf k n b t items.length)
      (hm : ∀ i, i < items.length → ∀ y ∈ cellsAt bk (i * 5) (us i), y ∈ A) (hr : ∀ i x, items[i]? = some x → LtLen A x (us i)) (hroom : Atom.cell bk (items.length * 5 + 1) (vi (-771)) ∈ A) (hc : items.length + 1 ≤ c) : LtLen A (.mk k n b t items) [cv k, vi n, uv b, .string t, .slice (some ⟨bk, 0, none⟩) items.length c]
inductive NdLen (A : List Atom) : Nd → List Value → Prop
  | mk {k : Nat} {s : ByteArray} {lit : Lt} {args temps : List ByteArray} {kids : List Nd} {p : Int} {lv : List Value} {av tv : Value} {c bk : Nat} {us : Nat → List Value} (wf : NdWf k s kids.length p) (hl : LtLen A lit lv) (hav : TxLen A av args) (htv : TxLen A tv temps)
      (hm : ∀ i, i < kids.length → ∀ y ∈ cellsAt bk (i * 11) (us i), y ∈ A) (hr : ∀ i x, kids[i]? = some x → NdLen A x (us i)) (hroom : Atom.cell bk (kids.length * 11 + 10) (vi (-771)) ∈ A) (hc : kids.length + 1 ≤ c) : NdLen A (.mk k s lit args temps kids p) ([cv k, .string s] ++ lv ++ [av, tv, .slice (some ⟨bk, 0, none⟩) kids.length c, vi p])
theorem LtLen.rd {A : List Atom} {x : Lt} {vs : List Value} (h : LtLen A x vs) : LtRd A x vs := by
  induction h with
  | mk wf hm hr hroom hc ih => exact .mk wf (fun _ => rfl) (fun i hi y hy => hm i hi y (by rwa [Nat.zero_add] at hy)) ih
theorem NdLen.rd {A : List Atom} {x : Nd} {vs : List Value} (h : NdLen A x vs) : NdRd A x vs := by
  induction h with
  | mk wf hl hav htv hm hr hroom hc ih => exact .mk wf hl.rd hav.rd htv.rd (fun _ => rfl) (fun i hi y hy => hm i hi y (by rwa [Nat.zero_add] at hy)) ih (by omega)
theorem LtLen.more {A B : List Atom} (hs : ∀ x ∈ A, x ∈ B) {x : Lt} {vs : List Value} (h : LtLen A x vs) : LtLen B x vs := by
  induction h with
  | mk wf hm hr hroom hc ih => exact .mk wf (fun i hi y hy => hs _ (hm i hi y hy)) ih (hs _ hroom) hc
theorem NdLen.more {A B : List Atom} (hs : ∀ x ∈ A, x ∈ B) {x : Nd} {vs : List Value} (h : NdLen A x vs) : NdLen B x vs := by
  induction h with
  | mk wf hl hav htv hm hr hroom hc ih => exact .mk wf (hl.more hs) (hav.more hs) (htv.more hs) (fun i hi y hy => hs _ (hm i hi y hy)) ih (hs _ hroom) hc
theorem LtLen.len {A : List Atom} {x : Lt} {vs : List Value} (h : LtLen A x vs) : vs.length = 5 := h.rd.len
theorem NdLen.len {A : List Atom} {x : Nd} {vs : List Value} (h : NdLen A x vs) : vs.length = 11 := h.rd.len
theorem row_upd {sz j : Nat} {rows : List (List Value)} {row tl : List Value} (hr : rows.flatten.length = j * sz) (hl : row.length = sz) : (rows.flatten ++ tl).take (j * sz) ++ row ++ (rows.flatten ++ tl).drop (j * sz + row.length) = (rows ++ [row]).flatten ++ tl.drop sz := by
  rw [List.take_append_of_le_length (by omega), List.take_of_length_le (by omega), List.drop_append, List.drop_of_length_le (by omega), hr, hl, Nat.add_sub_cancel_left]
  simp
theorem set_row {b sz n f : Nat} {rows : List (List Value)} {tl : List Value} {u : Value} (hl : ∀ r ∈ rows, r.length = sz) (hn : rows.length = n) {i : Nat} {r : List Value} (hi : rows[i]? = some r) : ∀ y ∈ cellsAt b (i * sz) r, y ∈ cellsAt b 0 ((rows.flatten ++ tl).set (n * sz + f) u) := by
  intro y hy
  obtain ⟨k, v, hk, rfl⟩ := mem_cellsAt.1 hy
  have hil := (List.getElem?_eq_some_iff.1 hi).1
  have hkl := (List.getElem?_eq_some_iff.1 hk).1
  have hrl := hl r (List.mem_of_getElem? hi)
  have h1 : Atom.cell b (i * sz + k) v ∈ cellsAt b 0 rows.flatten := cells_row hl hi _ (by rw [Nat.zero_add]; exact mem_cellsAt.2 ⟨k, v, hk, rfl⟩)
  obtain ⟨m, w, hm, he⟩ := mem_cellsAt.1 h1
  simp only [Atom.cell.injEq, true_and, Nat.zero_add] at he
  obtain ⟨rfl, rfl⟩ := he
  have hlt : i * sz + k < n * sz := by
    have h2 : (i + 1) * sz ≤ n * sz := Nat.mul_le_mul_right _ (by omega)
    rw [Nat.add_mul] at h2; omega
  refine mem_cellsAt.2 ⟨i * sz + k, v, ?_, by rw [Nat.zero_add]⟩
  rw [List.getElem?_set_ne (by omega), List.getElem?_append_left (by have := (List.getElem?_eq_some_iff.1 hm).1; omega)]
  exact hm
theorem set_room {b m : Nat} {l : List Value} {u : Value} (h : m < l.length) : Atom.cell b m u ∈ cellsAt b 0 (l.set m u) :=
  mem_cellsAt.2 ⟨m, u, by rw [List.getElem?_set_self h], by rw [Nat.zero_add]⟩
def LtRowsL (l : List Lt) (rows : List (List Value)) (K : List Atom) : Prop := rows.length = l.length ∧ (∀ r ∈ rows, r.length = 5) ∧ ∀ (i : Nat) x r, l[i]? = some x → rows[i]? = some r → LtLen K x r
def NdRowsL (l : List Nd) (rows : List (List Value)) (K : List Atom) : Prop := rows.length = l.length ∧ (∀ r ∈ rows, r.length = 11) ∧ ∀ (i : Nat) x r, l[i]? = some x → rows[i]? = some r → NdLen K x r
theorem LtRowsL.nil : LtRowsL [] [] [] := ⟨rfl, fun r hr => (by cases hr), fun i x r h => (by simp at h)⟩
theorem NdRowsL.nil : NdRowsL [] [] [] := ⟨rfl, fun r hr => (by cases hr), fun i x r h => (by simp at h)⟩
theorem LtRowsL.snoc {l : List Lt} {rows : List (List Value)} {K : List Atom} (h : LtRowsL l rows K) {x : Lt} {r : List Value} {L : List Atom} (hx : LtLen L x r) : LtRowsL (l ++ [x]) (rows ++ [r]) (K ++ L) := by
  obtain ⟨h1, h2, h3⟩ := h
  refine ⟨by simp [h1], fun q hq => ?_, fun i y q hy hq => ?_⟩
  · rcases List.mem_append.1 hq with hq | hq
    · exact h2 q hq
    · rw [List.mem_singleton.1 hq]; exact hx.len
  · rcases snoc_at hy with ⟨g1, g2⟩ | ⟨g1, rfl⟩
    · rw [List.getElem?_append_left (by omega)] at hq
      exact (h3 i y q g2 hq).more fun _ ha => List.mem_append_left _ ha
    · subst g1
      rw [← h1, List.getElem?_append_right (Nat.le_refl _), Nat.sub_self] at hq
      cases hq
      exact hx.more fun _ ha => List.mem_append_right _ ha
theorem NdRowsL.snoc {l : List Nd} {rows : List (List Value)} {K : List Atom} (h : NdRowsL l rows K) {x : Nd} {r : List Value} {L : List Atom} (hx : NdLen L x r) : NdRowsL (l ++ [x]) (rows ++ [r]) (K ++ L) := by
  obtain ⟨h1, h2, h3⟩ := h
  refine ⟨by simp [h1], fun q hq => ?_, fun i y q hy hq => ?_⟩
  · rcases List.mem_append.1 hq with hq | hq
    · exact h2 q hq
    · rw [List.mem_singleton.1 hq]; exact hx.len
  · rcases snoc_at hy with ⟨g1, g2⟩ | ⟨g1, rfl⟩
    · rw [List.getElem?_append_left (by omega)] at hq
      exact (h3 i y q g2 hq).more fun _ ha => List.mem_append_left _ ha
    · subst g1
      rw [← h1, List.getElem?_append_right (Nat.le_refl _), Nat.sub_self] at hq
      cases hq
      exact hx.more fun _ ha => List.mem_append_right _ ha
theorem LtRowsL.row {l : List Lt} {rows : List (List Value)} {K : List Atom} (h : LtRowsL l rows K) {i : Nat} (hi : i < l.length) : rows[i]? = some (rows.getD i []) := by
  rw [List.getD_eq_getElem?_getD, List.getElem?_eq_getElem (by rw [h.1]; exact hi)]; rfl
theorem NdRowsL.row {l : List Nd} {rows : List (List Value)} {K : List Atom} (h : NdRowsL l rows K) {i : Nat} (hi : i < l.length) : rows[i]? = some (rows.getD i []) := by
  rw [List.getD_eq_getElem?_getD, List.getElem?_eq_getElem (by rw [h.1]; exact hi)]; rfl
theorem LtLen.of {k : Nat} {n : Int} {b : Nat} {t : ByteArray} {items : List Lt} {rows : List (List Value)} {tl : List Value} {K : List Atom} {bk c : Nat} (h : LtRowsL items rows K) (wf : LtWf k n b t items.length) (ht : 5 ≤ tl.length) (hc : items.length + 1 ≤ c) :
    LtLen (cellsAt bk 0 ((rows.flatten ++ tl).set (items.length * 5 + 1) (vi (-771))) ++ K) (.mk k n b t items) [cv k, vi n, uv b, .string t, .slice (some ⟨bk, 0, none⟩) items.length c] := by
  have hlen := rows_len h.2.1
  refine .mk (us := fun i => rows.getD i []) wf (fun i hi y hy => ?_) (fun i x hx => ?_) ?_ hc
  · exact List.mem_append_left _ (set_row h.2.1 h.1 (h.row hi) y hy)
  · have hi := (List.getElem?_eq_some_iff.1 hx).1
    exact (h.2.2 i x _ hx (h.row hi)).more fun _ ha => List.mem_append_right _ ha
  · exact List.mem_append_left _ (set_room (by rw [List.length_append, hlen, h.1]; omega))
theorem NdLen.of {k : Nat} {s : ByteArray} {lit : Lt} {args temps : List ByteArray} {kids : List Nd} {p : Int} {lv : List Value} {av tv : Value} {rows : List (List Value)} {tl : List Value} {K L1 L2 L3 : List Atom} {bk c : Nat} (h : NdRowsL kids rows K) (wf : NdWf k s kids.length p) (hl : LtLen L1 lit lv) (hav : TxLen L2 av args) (htv : TxLen L3 tv temps) (ht : 11 ≤ tl.length) (hc : kids.length + 1 ≤ c) :
    NdLen (cellsAt bk 0 ((rows.flatten ++ tl).set (kids.length * 11 + 10) (vi (-771))) ++ (K ++ (L1 ++ (L2 ++ L3)))) (.mk k s lit args temps kids p) ([cv k, .string s] ++ lv ++ [av, tv, .slice (some ⟨bk, 0, none⟩) kids.length c, vi p]) := by
  have hlen := rows_len h.2.1
  refine .mk (us := fun i => rows.getD i []) wf (hl.more fun _ ha => ?_) (hav.more fun _ ha => ?_) (htv.more fun _ ha => ?_) (fun i hi y hy => ?_) (fun i x hx => ?_) ?_ hc
  · exact List.mem_append_right _ (List.mem_append_right _ (List.mem_append_left _ ha))
  · exact List.mem_append_right _ (List.mem_append_right _ (List.mem_append_right _ (List.mem_append_left _ ha)))
  · exact List.mem_append_right _ (List.mem_append_right _ (List.mem_append_right _ (List.mem_append_right _ ha)))
  · exact List.mem_append_left _ (set_row h.2.1 h.1 (h.row hi) y hy)
  · have hi := (List.getElem?_eq_some_iff.1 hx).1
    exact (h.2.2 i x _ hx (h.row hi)).more fun _ ha => List.mem_append_right _ (List.mem_append_left _ ha)
  · exact List.mem_append_left _ (set_room (by rw [List.length_append, hlen, h.1]; omega))
theorem Sat.below {w w' : World} {L : List Atom} (h : RowKit.Below w.heap.size w w') (hs : Sat w L) : Sat w' L := by
  refine ⟨fun x hx => ?_, hs.nodup⟩
  have hl := hs.lt hx
  have hh := hs.holds x hx
  cases x with
  | cell b off v =>
    obtain ⟨c, t, lo, hi, hb, r⟩ := hh
    exact ⟨c, t, lo, hi, by rw [h.block b hl]; exact hb, r⟩
  | obj b o => exact ⟨by rw [h.block b hl]; exact hh.1, hh.2⟩
theorem Keeps.below {w w' : World} (h : RowKit.Below w.heap.size w w') : Keeps w w' :=
  ⟨h.os, h.output, h.size, fun i c t lo hi hi' => ⟨c, by rw [h.block i (Array.getElem?_eq_some_iff.1 hi').1]; exact hi', rfl, fun _ _ => rfl⟩⟩
theorem Fun.of_calls {P : Program} {f : Nat} {args : List Value} {Q : Value → Prop} (hc : callable P f = true) (h : ∀ w, Calls P f args.toArray w fun e w' => ∃ v, e = .returned v ∧ Q v ∧ w' = w) : Fun P f args [] (fun v Post => Q v ∧ Post = []) :=
  ⟨hc, fun F w hs => (h w).mono fun e w' ⟨v, h1, h2, h3⟩ => by subst h3; exact ⟨v, [], h1, ⟨h2, rfl⟩, hs, .refl _⟩⟩
theorem Fun.of_calls2 {P : Program} {f : Nat} {args : List Value} {Q : Value → Prop} {A : List Atom} (hc : callable P f = true) (h : ∀ w F, Sat w (A ++ F) → Calls P f args.toArray w fun e w' => ∃ v, e = .returned v ∧ Q v ∧ RowKit.Below w.heap.size w w') : Fun P f args [A] (fun v Post => Q v ∧ Post = [A]) :=
  ⟨hc, fun F w hs => (h w F (by simpa using hs)).mono fun e w' ⟨v, h1, h2, h3⟩ => ⟨v, [A], h1, ⟨h2, rfl⟩, hs.below h3, .below h3⟩⟩
theorem bytesN_len (s : ByteArray) : (bytesN s).length = s.size := by simp [bytesN]
theorem bytesN_get {s : ByteArray} {i : Nat} {c : UInt8} (h : s[i]? = some c) : (bytesN s)[i]? = some c.toNat := by
  have hi : i < s.size := by
    by_cases hi : i < s.size
    · exact hi
    · simp [hi] at h
  have h2 : s.data[i]? = some c := by
    have h3 : s[i]? = some s[i] := by simp [hi]
    rw [h3] at h
    rw [← h]
    exact Array.getElem?_eq_getElem (xs := s.data) hi
  simp [bytesN, h2]
theorem bytesN_lt (s : ByteArray) : ∀ c ∈ bytesN s, c < 256 := by
  intro c hc
  obtain ⟨x, _, rfl⟩ := List.mem_map.1 hc
  exact x.toNat_lt
theorem bytesN_inj {s t : ByteArray} (h : bytesN s = bytesN t) : s = t := by
  have h2 : s.data.toList = t.data.toList := by
    have hm : ∀ l m : List UInt8, l.map UInt8.toNat = m.map UInt8.toNat → l = m := by
      intro l
      induction l with
      | nil => intro m e; cases m with | nil => rfl | cons => cases e
      | cons a l ih =>
        intro m e
        cases m with
        | nil => cases e
        | cons b m =>
          simp only [List.map_cons, List.cons.injEq] at e
          rw [UInt8.toNat_inj.1 e.1, ih m e.2]
    exact hm _ _ h
  exact ByteArray.ext (Array.toList_inj.1 h2)
theorem bytesN_ex {s : ByteArray} {i : Nat} (h : i < s.size) : ∃ c : UInt8, s[i]? = some c ∧ (bytesN s)[i]? = some c.toNat := ⟨s[i], by simp [h], bytesN_get (by simp [h])⟩
def ixN : List Nat → Nat → Int
  | [], _ => -1
  | b :: l, c => if b = c then 0 else if ixN l c = -1 then -1 else ixN l c + 1
theorem ix_eq (l : List UInt8) (c : UInt8) : Lib.indexByte l c = ixN (l.map UInt8.toNat) c.toNat := by
  induction l with
  | nil => rfl
  | cons b l ih =>
    simp only [Lib.indexByte, List.map_cons, ixN, ih]
    by_cases h : b = c
    · subst h; simp
    · have : b.toNat ≠ c.toNat := fun e => h (UInt8.toNat_inj.1 e)
      simp [h, this]
theorem ixN_bin {c : Nat} (h : c < 256) : decide (0 ≤ ixN [43, 45, 42, 47, 92, 126, 60, 62, 61, 64, 37, 38, 63, 44, 33] c) = binB c := by
  have h2 : ∀ c : Fin 256, decide (0 ≤ ixN [43, 45, 42, 47, 92, 126, 60, 62, 61, 64, 37, 38, 63, 44, 33] c.val) = binB c.val := by decide +kernel
  exact h2 ⟨c, h⟩
theorem ixN_cases (l : List Nat) (c : Nat) : (ixN l c = -1 ∧ c ∉ l) ∨ ∃ p r : List Nat, l = p ++ c :: r ∧ c ∉ p ∧ ixN l c = p.length := by
  induction l with
  | nil => exact .inl ⟨rfl, by simp⟩
  | cons b l ih =>
    by_cases h : b = c
    · subst h; exact .inr ⟨[], l, rfl, by simp, by simp [ixN]⟩
    · rcases ih with ⟨h1, h2⟩ | ⟨p, r, h1, h2, h3⟩
      · exact .inl ⟨by simp [ixN, h, h1], by simp [h2, Ne.symm h]⟩
      · refine .inr ⟨b :: p, r, by simp [h1], by simp [h2, Ne.symm h], ?_⟩
        have hne : ¬ ((p.length : Int) = -1) := by omega
        simp [ixN, h, h3, hne]
theorem pieces_none : ∀ {l : List Nat}, 58 ∉ l → piecesL l = [l] := by
  intro l
  induction l with
  | nil => intro _; rfl
  | cons b l ih =>
    intro h
    simp only [List.mem_cons, not_or] at h
    simp only [piecesL, if_neg (Ne.symm h.1), ih h.2]
theorem pieces_cons : ∀ {p r : List Nat}, 58 ∉ p → piecesL (p ++ 58 :: r) = (p ++ [58]) :: piecesL r := by
  intro p r
  induction p with
  | nil => intro _; simp [piecesL]
  | cons b p ih =>
    intro h
    simp only [List.mem_cons, not_or] at h
    simp only [List.cons_append, piecesL, if_neg (Ne.symm h.1), ih h.2]
theorem all_run {l : List Nat} {p : Nat → Bool} {e : Nat} (h1 : e ≤ l.length) (h2 : ∀ k, k < e → p (l.getD k 0) = true) (h3 : e < l.length → p (l.getD e 0) = false) : l.all p = decide (e = l.length) := by
  by_cases h : e = l.length
  · rw [decide_eq_true h, List.all_eq_true]
    intro x hx
    obtain ⟨i, hi, rfl⟩ := List.getElem_of_mem hx
    have := h2 i (by omega)
    rwa [List.getD_eq_getElem?_getD, List.getElem?_eq_getElem hi] at this
  · rw [decide_eq_false h, List.all_eq_false]
    have hlt : e < l.length := by omega
    have := h3 hlt
    rw [List.getD_eq_getElem?_getD, List.getElem?_eq_getElem hlt] at this
    exact ⟨_, List.getElem_mem hlt, by simpa using this⟩
theorem bytesN_cons {s : ByteArray} (h : s ≠ ⟨#[]⟩) : ∃ (c : UInt8) (r : List Nat), s[0]? = some c ∧ bytesN s = c.toNat :: r ∧ c.toNat < 256 ∧ 0 < s.size := by
  have hpos : 0 < s.size := by
    rcases Nat.eq_zero_or_pos s.size with h2 | h2
    · exact absurd (ByteArray.ext (Array.eq_empty_of_size_eq_zero h2)) h
    · exact h2
  obtain ⟨c, hc, hc2⟩ := bytesN_ex hpos
  refine ⟨c, (bytesN s).tail, hc, ?_, c.toNat_lt, hpos⟩
  cases hb : bytesN s with
  | nil => rw [hb] at hc2; cases hc2
  | cons a r => rw [hb] at hc2; cases hc2; rfl
theorem bytesN_extract (s : ByteArray) (a b : Nat) : bytesN (s.extract a b) = ((bytesN s).take b).drop a := by
  simp only [bytesN, ByteArray.data_extract, Array.toList_extract, List.extract_eq_take_drop, List.map_take, List.map_drop, List.drop_take]
def ofN (l : List Nat) : ByteArray := ⟨(l.map Nat.toUInt8).toArray⟩
theorem bytesN_ofN {l : List Nat} (h : ∀ c ∈ l, c < 256) : bytesN (ofN l) = l := by
  simp only [bytesN, ofN, List.map_map]
  conv => rhs; rw [← List.map_id l]
  refine List.map_congr_left fun c hc => ?_
  exact Nat.mod_eq_of_lt (h c hc)
theorem pieces_flat (l : List Nat) : (piecesL l).flatten = l := by
  induction l with
  | nil => rfl
  | cons c r ih =>
    simp only [piecesL]
    split
    · rename_i h; simp [ih, h]
    · cases h : piecesL r with
      | nil => rw [h] at ih; simp at ih; simp [← ih]
      | cons p ps => rw [h] at ih; simp at ih ⊢; exact ih
theorem pieces_ex (t : ByteArray) : ∃ full : List ByteArray, full.map bytesN = piecesL (bytesN t) := by
  have h : ∀ p ∈ piecesL (bytesN t), ∀ c ∈ p, c < 256 := fun p hp c hc => bytesN_lt t c (by rw [← pieces_flat (bytesN t)]; exact List.mem_flatten.2 ⟨p, hp, hc⟩)
  generalize piecesL (bytesN t) = l at h
  refine ⟨l.map ofN, ?_⟩
  rw [List.map_map]
  conv => rhs; rw [← List.map_id l]
  exact List.map_congr_left fun p hp => bytesN_ofN (h p hp)
theorem runL_eq {on : List Nat → Bool} : ∀ {l : List Nat} {e : Nat}, e ≤ l.length → (∀ k, k < e → on (l.drop k) = true) → (e < l.length → on (l.drop e) = false) → runL on l = e := by
  intro l
  induction l with
  | nil => intro e h _ _; simp at h; simp [runL, h]
  | cons c r ih =>
    intro e h h2 h3
    cases e with
    | zero =>
      have := h3 (by simp)
      simp only [List.drop_zero] at this
      simp [runL, this]
    | succ e =>
      have h0 := h2 0 (by omega)
      simp only [List.drop_zero] at h0
      have := ih (e := e) (by simpa using h) (fun k hk => by simpa using h2 (k + 1) (by omega)) (fun hk => by simpa using h3 (by simpa using hk))
      simp [runL, h0, this]; omega
theorem signOn_drop {l : List Nat} {k : Nat} {c : Nat} (h : l[k]? = some c) : signOn (l.drop k) = (binB c && (decide (c ≠ 45) || !digB (l.getD (k + 1) 0))) := by
  obtain ⟨hk, rfl⟩ := List.getElem?_eq_some_iff.1 h
  rw [List.drop_eq_getElem_cons hk]
  simp only [signOn]
  congr 2
  rw [List.getD_eq_getElem?_getD]
  by_cases h2 : k + 1 < l.length
  · rw [List.drop_eq_getElem_cons h2]; simp [h2]
  · rw [List.drop_eq_nil_of_le (by omega), List.getElem?_eq_none (by omega)]; rfl
theorem sign_run {c : Nat} {r : List Nat} {e : Nat} (h0 : c ≠ 124) (hb : binB c = true) (h1 : e ≤ (c :: r).length) (h2 : ∀ k, k < e → 1 ≤ k → signOn ((c :: r).drop k) = true) (h3 : e < (c :: r).length → 1 ≤ e ∧ signOn ((c :: r).drop e) = false) : signL (c :: r) = e ∨ (e = 0) := by
  cases e with
  | zero => exact .inr rfl
  | succ e =>
    left
    simp only [signL, if_neg h0, hb, if_true]
    have := runL_eq (on := signOn) (l := r) (e := e) (by simpa using h1) (fun k hk => by simpa using h2 (k + 1) (by omega) (by omega)) (fun hk => by simpa using (h3 (by simpa using hk)).2)
    omega
theorem bytesN_append (s t : ByteArray) : bytesN (s ++ t) = bytesN s ++ bytesN t := by
  simp [bytesN]
end Go.V

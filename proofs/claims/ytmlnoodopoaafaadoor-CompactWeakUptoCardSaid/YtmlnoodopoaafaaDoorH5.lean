/-
  A heap is made.
-/
import Derived.Test.YtmlnoodopoaafaaDoorH3
import Derived.Test.YtmlnoodopoaafaaDoorV10
import Derived.Test.YtmlnoodopoaafaaDoorV9
import Derived.Test.YtmlnoodopoaafaaDoorH4
set_option linter.unusedSimpArgs false
set_option linter.unusedVariables false
namespace Go.Proofs.YtmlnoodopoaafaaDoor
open Go Go.V
set_option maxHeartbeats 6400000
set_option maxRecDepth 100000
theorem new_spec (E S B Pn T : Nat) (h1 : 64 ≤ E ∧ E ≤ 65536) (h2 : 16 ≤ S ∧ S ≤ E) (h3 : 64 ≤ B ∧ B ≤ 1048576) (h4 : Pn ≤ 65536) (h5 : T ≤ 15) :
    Fun Tryd.prog 7 [.agg #[vi E, vi S, vi B, vi Pn, vi T]] [] (fun v Post => ∃ p x, (v = .tuple #[ptr0 p, vi 0] ∧ HOk x ∧ x.a = newH E S B Pn) ∧ Post = [HA p x]) := by
  have hT : ∀ {n l m : Int}, l ≤ n → n ≤ m → Fun Tryd.prog 26 [vi n, vi l, vi m] [] (fun v Post => v = .bool true ∧ Post = []) := fun {n l m} a b => (hwithin_spec n l m).mono (fun v Post hv => by
    obtain ⟨rfl, rfl⟩ := hv; exact ⟨by rw [decide_eq_true ⟨a, b⟩], rfl⟩)
  refine Fun.intro low7 (by simp [n7]) ?_
  refine VC.seq_reg ?_
  refine st_box (by rfl) (fun q => ?_)
  simp only [Value.cells]
  refine GOH ?_
  refine st_callP (hT (n := E) (l := 64) (m := 65536) (by omega) (by omega)) (by rfl) ?_
  refine GOH ?_
  refine st_callP (hT (n := S) (l := 16) (m := E) (by omega) (by omega)) (by rfl) ?_
  refine GOH ?_
  refine st_callP (hT (n := B) (l := 64) (m := 1048576) (by omega) (by omega)) (by rfl) ?_
  refine GOH ?_
  refine st_callP (hT (n := Pn) (l := 0) (m := 65536) (by omega) (by omega)) (by rfl) ?_
  refine GOH ?_
  refine st_callP (hT (n := T) (l := 0) (m := 15) (by omega) (by omega)) (by rfl) ?_
  refine GOH ?_
  refine st_mkmap (fun mb => ?_)
  rw [rep_one, rep_one]
  refine st_build (out := newZ (.map (some mb))) (by rfl) (newZ_put mb) ?_
  refine st_box (by rfl) (fun p => ?_)
  have hcl : (Value.agg (newZ (.map (some mb))).toArray).cells.toList = newZ (.map (some mb)) := by simp only [Value.cells]
  rw [hcl]
  refine VO.imp (H' := [cellsAt p 0 [Value.slice none 0 0, Value.slice none 0 0], cellsAt p 2 (List.replicate 18 (Value.int .i64 0)), cellsAt p 4180 [Value.slice none 0 0, Value.slice none 0 0, Value.slice none 0 0, .map (some mb), Value.int .i64 0], cellsAt p 20 ((List.replicate 64 0).map uv), cellsAt p 84 ((List.replicate 4096 0).map uv), [Atom.obj mb (Obj.map #[] 0)], cellsAt q 0 [vi E, vi S, vi B, vi Pn, vi T]]) ?_ ?_
  · rw [newZ_cells]
    refine Imp.cut (M := [cellsAt p 0 [Value.slice none 0 0, Value.slice none 0 0], cellsAt p 2 (List.replicate 18 (Value.int .i64 0)), cellsAt p 20 ((List.replicate 64 0).map uv), cellsAt p 84 ((List.replicate 4096 0).map uv), cellsAt p 4180 [Value.slice none 0 0, Value.slice none 0 0, Value.slice none 0 0, .map (some mb), Value.int .i64 0], [Atom.obj mb (Obj.map #[] 0)], cellsAt q 0 [vi E, vi S, vi B, vi Pn, vi T]]) (Imp.perm ?_) ?_
    · simp only [List.flatten_cons, List.flatten_nil, List.append_nil, List.append_assoc]; exact List.Perm.refl _
    · generalize cellsAt p 20 ((List.replicate 64 0).map uv) = A20
      generalize cellsAt p 84 ((List.replicate 4096 0).map uv) = A84
      generalize cellsAt p 2 (List.replicate 18 (Value.int .i64 0)) = A2
      exact IMx
  rw [show List.replicate 18 (Value.int .i64 0) = newRm E S B Pn 0 from rfl]
  generalize h20 : cellsAt p 20 ((List.replicate 64 0).map uv) = A20
  generalize h84 : cellsAt p 84 ((List.replicate 4096 0).map uv) = A84
  refine GOH ?_
  refine VC.loop (α := Nat) (Γf := fun i => [(4, ptr0 p), (5, vi (newAt E S B Pn i)), (52, Value.agg #[vi E, vi S, vi S, vi (B + E + 2 * S), vi Pn]), (53, vi (newI i))])
    (Hf := fun i => [cellsAt p 2 (newRm E S B Pn i), cellsAt p 0 [Value.slice none 0 0, Value.slice none 0 0], cellsAt p 4180 [Value.slice none 0 0, Value.slice none 0 0, Value.slice none 0 0, .map (some mb), Value.int .i64 0], A20, A84, [Atom.obj mb (Obj.map #[] 0)]])
    (I := fun i => i ≤ 5) (μ := fun i => 5 - i) 0 (Nat.zero_le _) (by exact SUx) (by exact IMx) ?_
  intro i hi
  have hii : i = 0 ∨ i = 1 ∨ i = 2 ∨ i = 3 ∨ i = 4 ∨ i = 5 := by omega
  rcases hii with rfl | rfl | rfl | rfl | rfl | rfl
  · rw [show newRm E S B Pn 0 = [vi 0, vi 0, vi 0, vi 0, vi 0, vi 0, vi 0, vi 0, vi 0, vi 0, vi 0, vi 0, vi 0, vi 0, vi 0, vi 0, vi 0, vi 0] from rfl, show newAt E S B Pn 0 = 2 from rfl, show newI 0 = 0 from rfl]
    refine GOH ?_
    rw [show 2 + ((0 : Int) + 1).toNat * 3 = 5 from rfl]
    refine GOH ?_
    exact ⟨1, by omega, by omega, by exact SUx, by rw [show newRm E S B Pn 1 = [vi 0, vi 0, vi 0, vi 2, vi (2 + (E : Int) : Int), vi 2, vi 0, vi 0, vi 0, vi 0, vi 0, vi 0, vi 0, vi 0, vi 0, vi 0, vi 0, vi 0] from rfl]; exact IMx⟩
  · rw [show newRm E S B Pn 1 = [vi 0, vi 0, vi 0, vi 2, vi (2 + (E : Int) : Int), vi 2, vi 0, vi 0, vi 0, vi 0, vi 0, vi 0, vi 0, vi 0, vi 0, vi 0, vi 0, vi 0] from rfl, show newAt E S B Pn 1 = (2 + (E : Int) : Int) from rfl, show newI 1 = 1 from rfl]
    refine GOH ?_
    rw [show 2 + ((1 : Int) + 1).toNat * 3 = 8 from rfl]
    refine GOH ?_
    exact ⟨2, by omega, by omega, by exact SUx, by rw [show newRm E S B Pn 2 = [vi 0, vi 0, vi 0, vi 2, vi (2 + (E : Int) : Int), vi 2, vi (2 + (E : Int) : Int), vi (2 + (E : Int) + (S : Int) : Int), vi (2 + (E : Int) : Int), vi 0, vi 0, vi 0, vi 0, vi 0, vi 0, vi 0, vi 0, vi 0] from rfl]; exact IMx⟩
  · rw [show newRm E S B Pn 2 = [vi 0, vi 0, vi 0, vi 2, vi (2 + (E : Int) : Int), vi 2, vi (2 + (E : Int) : Int), vi (2 + (E : Int) + (S : Int) : Int), vi (2 + (E : Int) : Int), vi 0, vi 0, vi 0, vi 0, vi 0, vi 0, vi 0, vi 0, vi 0] from rfl, show newAt E S B Pn 2 = (2 + (E : Int) + (S : Int) : Int) from rfl, show newI 2 = 2 from rfl]
    refine GOH ?_
    rw [show 2 + ((2 : Int) + 1).toNat * 3 = 11 from rfl]
    refine GOH ?_
    exact ⟨3, by omega, by omega, by exact SUx, by rw [show newRm E S B Pn 3 = [vi 0, vi 0, vi 0, vi 2, vi (2 + (E : Int) : Int), vi 2, vi (2 + (E : Int) : Int), vi (2 + (E : Int) + (S : Int) : Int), vi (2 + (E : Int) : Int), vi (2 + (E : Int) + (S : Int) : Int), vi (2 + (E : Int) + (S : Int) + (S : Int) : Int), vi (2 + (E : Int) + (S : Int) : Int), vi 0, vi 0, vi 0, vi 0, vi 0, vi 0] from rfl]; exact IMx⟩
  · rw [show newRm E S B Pn 3 = [vi 0, vi 0, vi 0, vi 2, vi (2 + (E : Int) : Int), vi 2, vi (2 + (E : Int) : Int), vi (2 + (E : Int) + (S : Int) : Int), vi (2 + (E : Int) : Int), vi (2 + (E : Int) + (S : Int) : Int), vi (2 + (E : Int) + (S : Int) + (S : Int) : Int), vi (2 + (E : Int) + (S : Int) : Int), vi 0, vi 0, vi 0, vi 0, vi 0, vi 0] from rfl, show newAt E S B Pn 3 = (2 + (E : Int) + (S : Int) + (S : Int) : Int) from rfl, show newI 3 = 3 from rfl]
    refine GOH ?_
    rw [show 2 + ((3 : Int) + 1).toNat * 3 = 14 from rfl]
    refine GOH ?_
    exact ⟨4, by omega, by omega, by exact SUx, by rw [show newRm E S B Pn 4 = [vi 0, vi 0, vi 0, vi 2, vi (2 + (E : Int) : Int), vi 2, vi (2 + (E : Int) : Int), vi (2 + (E : Int) + (S : Int) : Int), vi (2 + (E : Int) : Int), vi (2 + (E : Int) + (S : Int) : Int), vi (2 + (E : Int) + (S : Int) + (S : Int) : Int), vi (2 + (E : Int) + (S : Int) : Int), vi (2 + (E : Int) + (S : Int) + (S : Int) : Int), vi (2 + (E : Int) + (S : Int) + (S : Int) + ((B : Int) + (E : Int) + 2 * (S : Int)) : Int), vi (2 + (E : Int) + (S : Int) + (S : Int) : Int), vi 0, vi 0, vi 0] from rfl]; exact IMx⟩
  · rw [show newRm E S B Pn 4 = [vi 0, vi 0, vi 0, vi 2, vi (2 + (E : Int) : Int), vi 2, vi (2 + (E : Int) : Int), vi (2 + (E : Int) + (S : Int) : Int), vi (2 + (E : Int) : Int), vi (2 + (E : Int) + (S : Int) : Int), vi (2 + (E : Int) + (S : Int) + (S : Int) : Int), vi (2 + (E : Int) + (S : Int) : Int), vi (2 + (E : Int) + (S : Int) + (S : Int) : Int), vi (2 + (E : Int) + (S : Int) + (S : Int) + ((B : Int) + (E : Int) + 2 * (S : Int)) : Int), vi (2 + (E : Int) + (S : Int) + (S : Int) : Int), vi 0, vi 0, vi 0] from rfl, show newAt E S B Pn 4 = (2 + (E : Int) + (S : Int) + (S : Int) + ((B : Int) + (E : Int) + 2 * (S : Int)) : Int) from rfl, show newI 4 = 4 from rfl]
    refine GOH ?_
    rw [show 2 + ((4 : Int) + 1).toNat * 3 = 17 from rfl]
    refine GOH ?_
    exact ⟨5, by omega, by omega, by exact SUx, by rw [show newRm E S B Pn 5 = [vi 0, vi 0, vi 0, vi 2, vi (2 + (E : Int) : Int), vi 2, vi (2 + (E : Int) : Int), vi (2 + (E : Int) + (S : Int) : Int), vi (2 + (E : Int) : Int), vi (2 + (E : Int) + (S : Int) : Int), vi (2 + (E : Int) + (S : Int) + (S : Int) : Int), vi (2 + (E : Int) + (S : Int) : Int), vi (2 + (E : Int) + (S : Int) + (S : Int) : Int), vi (2 + (E : Int) + (S : Int) + (S : Int) + ((B : Int) + (E : Int) + 2 * (S : Int)) : Int), vi (2 + (E : Int) + (S : Int) + (S : Int) : Int), vi (2 + (E : Int) + (S : Int) + (S : Int) + ((B : Int) + (E : Int) + 2 * (S : Int)) : Int), vi (2 + (E : Int) + (S : Int) + (S : Int) + ((B : Int) + (E : Int) + 2 * (S : Int)) + (Pn : Int) : Int), vi (2 + (E : Int) + (S : Int) + (S : Int) + ((B : Int) + (E : Int) + 2 * (S : Int)) : Int)] from rfl]; exact IMx⟩
  · rw [show newRm E S B Pn 5 = [vi 0, vi 0, vi 0, vi 2, vi (2 + (E : Int) : Int), vi 2, vi (2 + (E : Int) : Int), vi (2 + (E : Int) + (S : Int) : Int), vi (2 + (E : Int) : Int), vi (2 + (E : Int) + (S : Int) : Int), vi (2 + (E : Int) + (S : Int) + (S : Int) : Int), vi (2 + (E : Int) + (S : Int) : Int), vi (2 + (E : Int) + (S : Int) + (S : Int) : Int), vi (2 + (E : Int) + (S : Int) + (S : Int) + ((B : Int) + (E : Int) + 2 * (S : Int)) : Int), vi (2 + (E : Int) + (S : Int) + (S : Int) : Int), vi (2 + (E : Int) + (S : Int) + (S : Int) + ((B : Int) + (E : Int) + 2 * (S : Int)) : Int), vi (2 + (E : Int) + (S : Int) + (S : Int) + ((B : Int) + (E : Int) + 2 * (S : Int)) + (Pn : Int) : Int), vi (2 + (E : Int) + (S : Int) + (S : Int) + ((B : Int) + (E : Int) + 2 * (S : Int)) : Int)] from rfl, show newAt E S B Pn 5 = (2 + (E : Int) + (S : Int) + (S : Int) + ((B : Int) + (E : Int) + 2 * (S : Int)) + (Pn : Int) : Int) from rfl, show newI 5 = 5 from rfl]
    refine GOH ?_
    have hN : newN E S B Pn < 4194304 := by unfold newN; omega
    have e5 : (2 + (E : Int) + (S : Int) + (S : Int) + ((B : Int) + (E : Int) + 2 * (S : Int)) + (Pn : Int)) = ((newN E S B Pn : Nat) : Int) := by unfold newN; omega
    rw [e5]
    generalize hNN : newN E S B Pn = N at *
    refine VC.seq_draws (α := Nat × Nat) (fun _ => [(4, ptr0 p)]) (fun s => [cellsAt p 0 [.slice (some ⟨s.1, 0, none⟩) N N, .slice (some ⟨s.2, 0, none⟩) (N / 64 + 1) (N / 64 + 1)], cellsAt p 4180 [Value.slice none 0 0, Value.slice none 0 0, Value.slice none 0 0, .map (some mb), Value.int .i64 0],
      cellsAt p 2 [vi 0, vi 0, vi 0, vi 2, vi (2 + (E : Int)), vi 2, vi (2 + (E : Int)), vi (2 + (E : Int) + (S : Int)), vi (2 + (E : Int)), vi (2 + (E : Int) + (S : Int)), vi (2 + (E : Int) + (S : Int) + (S : Int)), vi (2 + (E : Int) + (S : Int)), vi (2 + (E : Int) + (S : Int) + (S : Int)), vi (2 + (E : Int) + (S : Int) + (S : Int) + ((B : Int) + (E : Int) + 2 * (S : Int))),
        vi (2 + (E : Int) + (S : Int) + (S : Int)), vi (2 + (E : Int) + (S : Int) + (S : Int) + ((B : Int) + (E : Int) + 2 * (S : Int))), vi N, vi (2 + (E : Int) + (S : Int) + (S : Int) + ((B : Int) + (E : Int) + 2 * (S : Int)))], A20, A84, cellsAt s.1 0 ((List.replicate N 0).map uv), cellsAt s.2 0 ((List.replicate (N / 64 + 1) 0).map uv), [Atom.obj mb (Obj.map #[] 0)]]) (fun _ => True) ⟨?_, ?_, ?_, trivial⟩ (fun s _ => ?_)
    rotate_right
    · refine GOH ?_
      have key := new_ok (E := E) (S := S) (B := B) (P := Pn) s.1 s.2 mb (by rw [hNN]; exact hN)
      refine endQ_mk (.inr rfl) (.tmp (by rfl) (.tmp (by rfl) .nil)) ⟨p, _, ⟨rfl, key, rfl⟩, rfl⟩ (Imp.cut ?_ (ha_in p _))
      rw [new_mem, hNN, h20, h84]
      refine Imp.cut ?_ drop3
      exact IMx
    all_goals
      repeat' first
        | refine GOPH ?_
        | refine st_mkU N (by rfl) (by rfl) rfl (by omega) (fun b => ?_)
        | refine st_mkU (N / 64 + 1) (by rfl) (by rfl) (by omega) (by omega) (fun b => ?_)
      exact ⟨(_, _), trivial, by exact SUx, by exact IMx⟩
theorem fill_spec (p : Nat) (x : HW) (hx : HOk x) (b : Ob) (hb : b ∈ x.a.obs) (h6 : b.hd.fmt ≠ 6) (hy : spaceW x.a.rm b.at_ < 4 ∨ youngO x.a (x.a.sp.headD 0) = false) :
    Fun Tryd.prog 30 [ptr0 p, vi b.at_, .slice (some ⟨x.wb, b.off, none⟩) b.hd.slots b.hd.slots] [HA p x] (fun r Post => ∃ y, (r = .tuple #[] ∧ HOk y ∧ y.a = filledA x.a b.at_ b.hd.slots) ∧ Post = [HA p y]) := by
  obtain ⟨v, hv⟩ : ∃ v, x.a.sp[0]? = some v := ⟨_, List.getElem?_eq_getElem (by rw [hx.spl]; omega)⟩
  have hhd : x.a.sp.headD 0 = v := by
    cases e : x.a.sp with
    | nil => rw [e] at hv; cases hv
    | cons a r => rw [e] at hv; simpa using hv
  have hvs := hx.sps v (List.mem_of_getElem? hv)
  have hms := ha_sp (p := p) hv
  simp only [Nat.add_zero] at hms
  have hr := hx.range hb
  have hok := hx.lay.ok b hb
  have hsl := hok.may.slots
  have hlen := hok.len
  have hhigh := hx.lay.high b hb
  unfold Ob.stop at hhigh
  have hoff : ∀ i, i < b.hd.slots → b.off + i < x.ws.length := fun i hi => by unfold Ob.off; split <;> omega
  unfold filledA
  rw [hhd] at hy ⊢
  refine Fun.intro low30 (by simp [n30]) ?_
  refine GOH ?_
  refine VC.loop (α := Nat × HW) (Γf := fun s => [(0, ptr0 p), (1, vi b.at_), (2, .slice (some ⟨x.wb, b.off, none⟩) b.hd.slots b.hd.slots), (6, uv v), (14, vi b.hd.slots), (15, vi s.1)]) (Hf := fun s => [HA p s.2])
    (I := fun s => s.1 ≤ b.hd.slots ∧ HOk s.2 ∧ s.2.wb = x.wb ∧ s.2.ws.length = x.ws.length ∧ s.2.a = { x.a with obs := updO b.at_ (fillB s.1 v) x.a.obs }) (μ := fun s => b.hd.slots - s.1) (0, x) ⟨Nat.zero_le _, hx, rfl, rfl, ?_⟩ (by exact SUx) (Imp.refl _) ?_
  · show x.a = { x.a with obs := updO b.at_ (fillB 0 v) x.a.obs }
    rw [updO_id (f := fillB 0 v) (fun c _ _ => rfl)]
  rintro ⟨i, y⟩ ⟨i1, i2, i3, i4, i5⟩
  simp only at i1 i2 i3 i4 i5 ⊢
  refine GOH ?_
  by_cases hlt : i < b.hd.slots
  · rw [show decide ((i : Int) < (b.hd.slots : Int)) = true from decide_eq_true (by omega)]
    refine GOH ?_
    refine st_storeW (x := y) (i := b.off + i) (by rw [i3]; rfl) (by rfl) .here (by rw [i4]; exact hoff i hlt) ?_
    have hb' : fillB i v b ∈ y.a.obs := by rw [i5]; exact mem_updO.2 ⟨b, hb, by rw [if_pos rfl]⟩
    have key := i2.setB hb' (i := i) (v := v) hlt hvs (fun e => absurd e h6)
    refine GOH ?_
    refine ⟨(i + 1, _), ⟨by simp only; omega, key, i3, ?_, ?_⟩, by simp only; omega, by exact SUx, Imp.refl _⟩
    · simp only [List.length_set]; exact i4
    · simp only [i5]
      have e : updO b.at_ (setB i v) (updO b.at_ (fillB i v) x.a.obs) = updO b.at_ (fillB (i + 1) v) x.a.obs := (updO_updO (keep_fillB i v)).trans (updO_congr (fun c hc e => by
        have hcb := sort_one hx.lay.sort hc hb e
        subst hcb
        exact fillB_step (by rw [hlen]; exact hlt)))
      exact congrArg (fun o => ({ x.a with obs := o } : AH)) e
  · rw [show decide ((i : Int) < (b.hd.slots : Int)) = false from decide_eq_false (by omega)]
    have hi : i = b.hd.slots := by omega
    subst hi
    have hw := where_spec p y i2 b.at_ (by omega)
    rw [show y.a.rm = x.a.rm by rw [i5]] at hw
    have fin : HOk y ∧ y.a = { x.a with obs := updO b.at_ (fillB b.hd.slots v) x.a.obs } := ⟨i2, i5⟩
    by_cases h0 : b.hd.slots = 0
    · refine GOH ?_
      rw [show decide ((0 : Int) < (b.hd.slots : Int)) = false from decide_eq_false (by omega)]
      refine GOH ?_
      exact endQ_mk (.inl rfl) .nil ⟨y, ⟨rfl, i2, i5⟩, rfl⟩ (by exact IMx)
    · refine GOH ?_
      rw [show decide ((0 : Int) < (b.hd.slots : Int)) = true from decide_eq_true (by omega)]
      refine GOH ?_
      refine st_callS hw (by rfl) .here ?_
      refine GOH ?_
      by_cases h4 : spaceW x.a.rm b.at_ < 4
      rotate_left
      · have hyo : youngO y.a v = false := by
          rw [i5, youngO_upd (keep_fillB _ _)]
          exact hy.resolve_left h4
        have hyg := young_spec p y i2 v hvs
        rw [hyo] at hyg
        rw [show decide ((4 : Int) ≤ (spaceW x.a.rm b.at_ : Int)) = true from decide_eq_true (by omega)]
        refine GOH ?_
        refine st_callS hyg (by rfl) .here ?_
        refine GOH ?_
        exact endQ_mk (.inl rfl) .nil ⟨y, ⟨rfl, i2, i5⟩, rfl⟩ (by exact IMx)
      rw [show decide ((4 : Int) ≤ (spaceW x.a.rm b.at_ : Int)) = false from decide_eq_false (by omega)]
      refine GOH ?_
      exact endQ_mk (.inl rfl) .nil ⟨y, ⟨rfl, i2, i5⟩, rfl⟩ (by exact IMx)
theorem sizedH_spec (c f n : Nat) (hc : c ≤ 4095) (hf : f ≠ 5) (hn : n ≤ 65536) : Fun Tryd.prog 27 [.agg #[vi c, cv f, vi 0, vi 0, vi 0, vi 0, .bool false, .bool false], vi n, vi 0] [] (fun v Post => v = .tuple #[.agg (hdEnc (hdOf c f n)).toArray, .bool true] ∧ Post = []) :=
  (sized_spec c f n 0).mono (fun v Post ⟨⟨us, h1, _, h3⟩, h4⟩ => by
    have hok : okS c n 0 := ⟨by omega, by omega, by omega, by omega, by omega, by omega, by omega⟩
    have h5 := h3 hok
    refine ⟨?_, h4⟩
    rw [h1, decide_eq_true hok, h5]
    unfold hdOf; rw [if_neg hf]
    simp [hdEnc])
theorem sizedB_spec (c n : Nat) (hc : c ≤ 4095) (hn : n ≤ 524288) : Fun Tryd.prog 27 [.agg #[vi c, cv 5, vi 0, vi 0, vi 0, vi 0, .bool false, .bool false], vi 0, vi n] [] (fun v Post => v = .tuple #[.agg (hdEnc (hdOf c 5 n)).toArray, .bool true] ∧ Post = []) :=
  (sized_spec c 5 0 n).mono (fun v Post ⟨⟨us, h1, _, h3⟩, h4⟩ => by
    have hok : okS c 0 n := ⟨by omega, by omega, by omega, by omega, by omega, by omega, by omega⟩
    have h5 := h3 hok
    refine ⟨?_, h4⟩
    rw [h1, decide_eq_true hok, h5]
    unfold hdOf; rw [if_pos rfl]
    simp only [hdEnc]
    rw [show ((n : Int) + 7) / 8 * 8 - (n : Int) = (((n + 7) / 8 * 8 - n : Nat) : Int) by omega, show (0 : Int) + ((n : Int) + 7) / 8 = (((n + 7) / 8 : Nat) : Int) by omega]
    rfl)
def fullA (a : AH) (sp : Nat) (h : Hd) : Prop := ((roomA a sp).2.1 : Int) - (roomA a sp).2.2 < 2 + h.slots
def allocA (a : AH) (sp : Nat) (h : Hd) : AH := if h.fmt ≤ 3 then filledA (laidA a sp h) (roomA a sp).2.2 h.slots else laidA a sp h
theorem alloc_spec (p : Nat) (x : HW) (hx : HOk x) (sp c f n : Nat) (hsp : sp = 1 ∨ sp = 3 ∨ sp = 4) (hc : c ≤ 4095) (hf : 1 ≤ f ∧ f ≤ 5) (hn : n ≤ 60000) (h3 : f = 3 → 0 < n) (h4 : f ≤ 3 → sp ≠ 4 ∨ youngO x.a (x.a.sp.headD 0) = false) :
    Fun Tryd.prog 8 [ptr0 p, cv sp, vi c, cv f, vi n] [HA p x]
      (fun v Post => ∃ y, ((fullA x.a sp (hdOf c f n) ∧ v = .tuple #[uv 0, vi 41] ∧ y = x) ∨ (¬ fullA x.a sp (hdOf c f n) ∧ v = .tuple #[uv (8 * (roomA x.a sp).2.2), vi 0] ∧ HOk y ∧ y.a = allocA x.a sp (hdOf c f n))) ∧ Post = [HA p y]) := by
  have hmay := hdOf_may hc hf (by omega : n ≤ 65536) h3
  have hfmt : (hdOf c f n).fmt = f := by unfold hdOf; split <;> simp_all
  have hlay := lay_spec p x hx sp (hdOf c f n) hmay (by omega) (by omega) (by omega)
  have hmk : Fun Tryd.prog 28 [cv sp] [] (fun v Post => v = .bool true ∧ Post = []) := (makes_spec sp (by omega)).mono (fun v Post hv => by
    obtain ⟨rfl, rfl⟩ := hv; exact ⟨by rw [decide_eq_true (by omega)], rfl⟩)
  have hsl : (hdOf c f n).slots ≤ 65536 := hmay.slots
  have hsl3 : f = 3 → 0 < (hdOf c f n).slots := fun e => hmay.eph (by omega)
  have hsz : f ≠ 5 → Fun Tryd.prog 27 [.agg #[vi c, cv f, vi 0, vi 0, vi 0, vi 0, .bool false, .bool false], vi n, vi 0] [] (fun v Post => v = .tuple #[.agg (hdEnc (hdOf c f n)).toArray, .bool true] ∧ Post = []) := fun h => sizedH_spec c f n hc h (by omega)
  have hszB : f = 5 → Fun Tryd.prog 27 [.agg #[vi c, cv f, vi 0, vi 0, vi 0, vi 0, .bool false, .bool false], vi 0, vi n] [] (fun v Post => v = .tuple #[.agg (hdEnc (hdOf c f n)).toArray, .bool true] ∧ Post = []) := fun h => by subst h; exact sizedB_spec c n hc (by omega)
  unfold fullA allocA
  generalize hH : hdOf c f n = H at *
  simp only [hdEnc] at hsz hszB hlay
  refine Fun.intro low8 (by simp [n8]) ?_
  have hf5 : f = 1 ∨ f = 2 ∨ f = 3 ∨ f = 4 ∨ f = 5 := by omega
  have hspc : ∀ y : HW, HOk y → y.a = laidA x.a sp H → f ≤ 3 → newO (roomA x.a sp).2.2 H ∈ y.a.obs ∧ (spaceW y.a.rm (roomA x.a sp).2.2 < 4 ∨ youngO y.a (y.a.sp.headD 0) = false) := fun y hy e hf3 => by
    have hl6 := hx.rm.len
    obtain ⟨r, hr⟩ : ∃ r, x.a.rm[sp]? = some r := ⟨_, List.getElem?_eq_getElem (by omega)⟩
    have hroom : roomA x.a sp = r := by unfold roomA; rw [hr]; rfl
    have hrg := hx.rm.rng sp r hr
    have hyr : y.a.rm[sp]? = some (r.1, r.2.1, r.2.2 + (2 + H.slots)) := by
      rw [e]
      show (x.a.rm.set sp ((roomA x.a sp).1, (roomA x.a sp).2.1, (roomA x.a sp).2.2 + (2 + H.slots)))[sp]? = _
      rw [List.getElem?_set_self (by omega), hroom]
    have hrg2 := hy.rm.rng sp _ hyr
    simp only at hrg2
    refine ⟨by rw [e]; exact mem_insO.2 (.inl rfl), ?_⟩
    rw [space_of hy (sp := sp) (by omega) (by omega) hyr (by rw [hroom]; simp only; omega)]
    by_cases hs4 : sp = 4
    · subst hs4
      right
      have hyo := (h4 hf3).resolve_left (by simp)
      rw [show y.a.sp = x.a.sp by rw [e]; rfl]
      refine youngO_ins hx hy (b := newO (roomA x.a 4).2.2 H) (by rw [e]; rfl) (fun i => ?_) ?_ hyo
      · rw [e]
        unfold roomR laidA tookA
        simp only
        by_cases hi : i = 4
        · subst hi
          rw [List.getElem?_set_self (by omega), hr, hroom]; exact ⟨rfl, rfl⟩
        · rw [List.getElem?_set_ne (fun h => hi h.symm)]; exact ⟨rfl, rfl⟩
      · show 4 ≤ spaceW x.a.rm (roomA x.a 4).2.2
        have hlt : r.2.2 < r.2.1 := by omega
        rw [space_of hx (sp := 4) (by omega) (by omega) hr (by rw [hroom]; omega)]
        exact Nat.le_refl _
    · left; omega
  have hlow : 1 ≤ (roomA x.a sp).2.2 ∧ (roomA x.a sp).2.2 ≤ 268435455 := by
    have hl6 := hx.rm.len
    obtain ⟨r, hr⟩ : ∃ r, x.a.rm[sp]? = some r := ⟨_, List.getElem?_eq_getElem (by omega)⟩
    have hroom : roomA x.a sp = r := by unfold roomA; rw [hr]; rfl
    have hrg := hx.rm.rng sp r hr
    have hlw := hx.rm.low sp r (by omega) hr
    have := hx.lay.len
    rw [hroom]; omega
  have hoop := oop_spec (roomA x.a sp).2.2 hlow.1 hlow.2
  generalize hT : (roomA x.a sp).2.2 = top at *
  rcases hf5 with rfl | rfl | rfl | rfl | rfl
  rotate_right
  · refine GOH ?_
    refine st_callP (hszB rfl) (by rfl) ?_
    refine GOH ?_
    refine st_alloc (fun q => ?_)
    refine GOH ?_
    refine st_callP hmk (by rfl) ?_
    refine GOH ?_
    refine st_call hlay (by rfl) (by exact SPx) (fun v Post hv => ?_)
    obtain ⟨y, hy, rfl⟩ := hv
    simp only [CNx]
    rcases hy with ⟨hfu, rfl, rfl⟩ | ⟨hfu, rfl, hok, hya⟩
    · refine GOH ?_
      exact endQ_mk (.inr rfl) (.tmp (by rfl) (.tmp (by rfl) .nil)) ⟨y, .inl ⟨hfu, rfl, rfl⟩, rfl⟩ (by exact IMx)
    · refine GOH ?_
      refine st_callP hoop (by rfl) ?_
      refine GOH ?_
      exact endQ_mk (.inr rfl) (.tmp (by rfl) (.tmp (by rfl) .nil)) ⟨y, .inr ⟨hfu, rfl, hok, by rw [if_neg (by omega)]; exact hya⟩, rfl⟩ (by exact IMx)
  all_goals
    refine GOH ?_
    refine st_callP (hsz (by omega)) (by rfl) ?_
    refine GOH ?_
    refine st_alloc (fun q => ?_)
    refine GOH ?_
    refine st_callP hmk (by rfl) ?_
    refine GOH ?_
    try
      rw [show decide ((H.slots : Int) < 0 + 1) = false from decide_eq_false (by have := hsl3 rfl; omega)]
      refine GOH ?_
    refine st_call hlay (by rfl) (by exact SPx) (fun v Post hv => ?_)
    obtain ⟨y, hy, rfl⟩ := hv
    simp only [CNx]
    rcases hy with ⟨hfu, rfl, rfl⟩ | ⟨hfu, rfl, hok, hya⟩
    · refine GOH ?_
      exact endQ_mk (.inr rfl) (.tmp (by rfl) (.tmp (by rfl) .nil)) ⟨y, .inl ⟨hfu, rfl, rfl⟩, rfl⟩ (by exact IMx)
    · refine GOH ?_
      first
        | (refine st_callP hoop (by rfl) ?_
           refine GOH ?_
           exact endQ_mk (.inr rfl) (.tmp (by rfl) (.tmp (by rfl) .nil)) ⟨y, .inr ⟨hfu, rfl, hok, by rw [if_neg (by omega)]; exact hya⟩, rfl⟩ (by exact IMx))
        | (obtain ⟨hb, hsp4⟩ := hspc y hok hya (by omega)
           refine st_callS (slots_spec p y hok (newO top H) hb) (by rfl) .here ?_
           refine GOH ?_
           refine st_call (fill_spec p y hok (newO top H) hb (by show H.fmt ≠ 6; omega) hsp4) (by rfl) (by exact SPx) (fun v Post hv => ?_)
           obtain ⟨y2, ⟨rfl, hok2, hya2⟩, rfl⟩ := hv
           simp only [CNx]
           refine GOH ?_
           refine st_callP hoop (by rfl) ?_
           refine GOH ?_
           exact endQ_mk (.inr rfl) (.tmp (by rfl) (.tmp (by rfl) .nil)) ⟨y2, .inr ⟨hfu, rfl, hok2, by rw [if_pos (by omega), hya2, hya]; rfl⟩, rfl⟩ (by exact IMx))
set_option maxHeartbeats 3200000
end Go.Proofs.YtmlnoodopoaafaaDoor
namespace Go.V
open Go
def AccR (p : Nat) (x : HW) (A : List Atom) : Prop := ∃ y R, A.Perm (HA p y ++ R) ∧ HOk y ∧ y.a.sp = x.a.sp ∧ y.a.cl = x.a.cl ∧ y.a.stack = x.a.stack ∧ y.a.queue = x.a.queue ∧ y.kv = x.kv ∧ y.qv = x.qv
theorem AccR.more {p : Nat} {x : HW} {A B : List Atom} (h : AccR p x A) : AccR p x (A ++ B) := by
  obtain ⟨y, R, h1, h2⟩ := h
  exact ⟨y, R ++ B, (h1.append_right B).trans (by rw [List.append_assoc]), h2⟩
theorem AccR.sp {p : Nat} {x : HW} {A : List Atom} (h : AccR p x A) {i u : Nat} (hu : x.a.sp[i]? = some u) : Atom.cell p (20 + i) (uv u) ∈ A := by
  obtain ⟨y, R, h1, h2, h3, _⟩ := h
  exact h1.mem_iff.2 (List.mem_append_left _ (ha_sp (by rw [h3]; exact hu)))
theorem AccR.cl {p : Nat} {x : HW} {A : List Atom} (h : AccR p x A) {i u : Nat} (hu : x.a.cl[i]? = some u) : Atom.cell p (84 + i) (uv u) ∈ A := by
  obtain ⟨y, R, h1, h2, h3, h4, _⟩ := h
  exact h1.mem_iff.2 (List.mem_append_left _ (ha_cl (by rw [h4]; exact hu)))
theorem AccR.st {p : Nat} {x : HW} {A : List Atom} (h : AccR p x A) {i u b o c : Nat} (hu : x.a.stack[i]? = some u) (hk : x.kv = .slice (some ⟨b, o, none⟩) x.a.stack.length c) : Atom.cell b (o + i) (uv u) ∈ A := by
  obtain ⟨y, R, h1, h2, h3, h4, h5, h6, h7, h8⟩ := h
  refine h1.mem_iff.2 (List.mem_append_left _ ?_)
  have hi := (List.getElem?_eq_some_iff.1 hu).1
  simp only [HA, HMem, List.flatten_cons, List.mem_append]
  refine .inr (.inr (.inr (.inr (.inr (.inr (.inr (.inl ?_)))))))
  rw [h7, hk, h5]
  refine mem_cellsAt.2 ⟨i, uv u, ?_, rfl⟩
  rw [List.getElem?_append_left (by simpa using hi)]; simp [hu]
theorem AccR.qu {p : Nat} {x : HW} {A : List Atom} (h : AccR p x A) {i u b o c : Nat} (hu : x.a.queue[i]? = some u) (hk : x.qv = .slice (some ⟨b, o, none⟩) x.a.queue.length c) : Atom.cell b (o + i) (uv u) ∈ A := by
  obtain ⟨y, R, h1, h2, h3, h4, h5, h6, h7, h8⟩ := h
  refine h1.mem_iff.2 (List.mem_append_left _ ?_)
  have hi := (List.getElem?_eq_some_iff.1 hu).1
  simp only [HA, HMem, List.flatten_cons, List.mem_append]
  refine .inr (.inr (.inr (.inr (.inr (.inr (.inr (.inr (.inl ?_))))))))
  rw [h8, hk, h6]
  refine mem_cellsAt.2 ⟨i, uv u, ?_, rfl⟩
  rw [List.getElem?_append_left (by simpa using hi)]; simp [hu]
def preR (a : AH) : Nat → List Nat
  | 0 => []
  | 1 => a.sp
  | 2 => a.sp ++ a.cl
  | 3 => a.sp ++ (a.cl ++ a.stack)
  | _ => rootsA a
theorem okR {R a l b : List Nat} (h : R = a ++ (l ++ b)) {j u : Nat} (hu : l[j]? = some u) : OkC (fun full => full = R) (a ++ l.take j ++ [u]) := by
  refine ⟨l.drop (j + 1) ++ b, ?_⟩
  have hj := (List.getElem?_eq_some_iff.1 hu).1
  have e : l.take j ++ (u :: l.drop (j + 1)) = l := by
    have : l[j] = u := (List.getElem?_eq_some_iff.1 hu).2
    rw [← this, ← List.drop_eq_getElem_cons hj, List.take_append_drop]
  have e2 : a ++ l.take j ++ [u] ++ (l.drop (j + 1) ++ b) = a ++ ((l.take j ++ (u :: l.drop (j + 1))) ++ b) := by simp
  show a ++ l.take j ++ [u] ++ (l.drop (j + 1) ++ b) = R
  rw [e2, e, h]
end Go.V
namespace Go.Proofs.YtmlnoodopoaafaaDoor
open Go Go.V
set_option maxHeartbeats 6400000
set_option maxRecDepth 100000
def tabV (p : Nat) (x : HW) : List Value := [.slice (some ⟨p, 20, none⟩) 64 64, .slice (some ⟨p, 84, none⟩) 4096 4096, x.kv, x.qv]
theorem tables_spec (p : Nat) (x : HW) (hx : HOk x) : Fun Tryd.prog 77 [ptr0 p] [HA p x] (fun v Post => v = .agg (tabV p x).toArray ∧ Post = [HA p x]) := by
  have h1 := (ha_kv (p := p) (x := x)).1
  have h2 := (ha_kv (p := p) (x := x)).2.1
  obtain ⟨a1, c1, k1⟩ := hx.stk.form
  obtain ⟨a2, c2, k2⟩ := hx.que.form
  unfold tabV
  rw [k1] at h1 ⊢
  rw [k2] at h2 ⊢
  refine Fun.intro low77 (by simp [n77]) ?_
  refine VC.seq_reg ?_
  refine st_alloc (fun q => ?_)
  refine GOH ?_
  refine ⟨.inr rfl, _, _, .cellN (us := [.slice (some ⟨p, 20, none⟩) 64 64, .slice (some ⟨p, 84, none⟩) 4096 4096, .slice a1 x.a.stack.length c1, .slice a2 x.a.queue.length c2]) (by rfl) (by rfl) (fun y hy => by simp only [List.flatten_cons, List.mem_append]; exact .inl hy) .nil, ?_, ⟨rfl, rfl⟩⟩
  exact IMx
theorem roots_spec (p : Nat) (x : HW) : Fun Tryd.prog 43 [ptr0 p] [] (fun v Post => ∃ q, v = .func (.func 76) #[] #[ptr0 q] ∧ Post = [cellsAt q 0 [ptr0 p]]) := by
  refine Fun.intro low43 (by simp [n43]) ?_
  refine VC.seq_reg ?_
  refine st_box (by rfl) (fun q => ?_)
  simp only [Value.cells]
  refine GOH ?_
  exact endQ_mk (.inr rfl) (.tmp (by rfl) .nil) ⟨q, rfl, rfl⟩ (by exact IMx)
theorem roots_iter (p q : Nat) (x : HW) (hx : HOk x) :
    IterA Tryd.prog (.func (.func 76) #[] #[ptr0 q]) (fun o : Nat => [uv o]) (AccR p x) [cellsAt q 0 [ptr0 p]] [] (fun full => full = rootsA x.a) := by
  intro y J SP _ hJA hy A hA
  refine FunV.of_fun (first := #[]) (cap := #[ptr0 q]) ?_
  show Fun Tryd.prog 76 [y, ptr0 q] _ _
  obtain ⟨z, X, z1, z2, z3, z4, z5, z6, z7, z8⟩ := hJA [] A hA
  have htab := tables_spec p z z2
  have hspl : V.Spl [cellsAt q 0 [ptr0 p], A] [HA p z] [cellsAt q 0 [ptr0 p], X] := by
    simp only [V.Spl, List.flatten_cons, List.flatten_nil, List.append_nil]
    exact (z1.append_left _).trans (perm_lead _ _ _)
  have hback : Imp ([HA p z] ++ [cellsAt q 0 [ptr0 p], X]) [cellsAt q 0 [ptr0 p], A] := Imp.perm (by
    simp only [List.flatten_append, List.flatten_cons, List.flatten_nil, List.append_nil]
    exact (perm_lead _ _ _).trans (z1.symm.append_left _))
  obtain ⟨a1, c1, k1⟩ := hx.stk.form
  obtain ⟨a2, c2, k2⟩ := hx.que.form
  have htv : tabV p z = [.slice (some ⟨p, 20, none⟩) x.a.sp.length x.a.sp.length, .slice (some ⟨p, 84, none⟩) x.a.cl.length x.a.cl.length, .slice a1 x.a.stack.length c1, .slice a2 x.a.queue.length c2] := by unfold tabV; rw [z7, z8, k1, k2, hx.spl, hx.cll]
  rw [htv] at htab
  have hl1 := hx.spl
  have hl2 := hx.cll
  have hl3 := hx.deep
  have hl4 := hx.few.1
  refine Fun.intro low76 (by simp [n76]) ?_
  simp only [CNx]
  refine GOH ?_
  refine st_call htab (by rfl) hspl (fun v Post hv => ?_)
  obtain ⟨rfl, rfl⟩ := hv
  refine VO.imp hback ?_
  refine GOH ?_
  refine VC.loop (α := Nat × List Atom) (Γf := fun s => [(0, y), (8, .agg #[.slice (some ⟨p, 20, none⟩) x.a.sp.length x.a.sp.length, .slice (some ⟨p, 84, none⟩) x.a.cl.length x.a.cl.length, .slice a1 x.a.stack.length c1, .slice a2 x.a.queue.length c2]), (9, vi (newI s.1))]) (Hf := fun s => [cellsAt q 0 [ptr0 p], s.2]) (I := fun s => s.1 ≤ 4 ∧ J (preR x.a s.1) s.2) (μ := fun s => 4 - s.1) (0, A) ⟨by simp only; omega, hA⟩ (by exact SUx) (Imp.refl _) ?_
  rintro ⟨t, A1⟩ ⟨t1, t2⟩
  simp only at t1 t2 ⊢
  have ht : t = 0 ∨ t = 1 ∨ t = 2 ∨ t = 3 ∨ t = 4 := by omega
  rcases ht with rfl | rfl | rfl | rfl | rfl
  rotate_right
  · rw [show newI 4 = 4 from rfl]
    refine GOH ?_
    exact endQ_mk (.inl rfl) .nil ⟨rfl, .inl ⟨_, A1, rfl, t2, rfl⟩⟩ (by exact IMx)
  · have hR : rootsA x.a = preR x.a 0 ++ (x.a.sp ++ (x.a.cl ++ (x.a.stack ++ x.a.queue))) := by simp [rootsA, preR]
    have hN : preR x.a 0 ++ x.a.sp = preR x.a 1 := by simp [rootsA, preR]
    rw [show newI 0 = 0 from rfl]
    refine GOH ?_
    refine VC.loop (α := Nat × List Atom) (Γf := fun s => [(0, y), (8, .agg #[.slice (some ⟨p, 20, none⟩) x.a.sp.length x.a.sp.length, .slice (some ⟨p, 84, none⟩) x.a.cl.length x.a.cl.length, .slice a1 x.a.stack.length c1, .slice a2 x.a.queue.length c2]), (9, vi 0), (12, .slice (some ⟨p, 20, none⟩) x.a.sp.length x.a.sp.length), (13, vi x.a.sp.length), (14, vi s.1)]) (Hf := fun s => [cellsAt q 0 [ptr0 p], s.2]) (I := fun s => s.1 ≤ x.a.sp.length ∧ J (preR x.a 0 ++ x.a.sp.take s.1) s.2) (μ := fun s => x.a.sp.length - s.1) (0, A1) ⟨Nat.zero_le _, by simpa using t2⟩ (by exact SUx) (Imp.refl _) ?_
    rintro ⟨j, A2⟩ ⟨i1, i2⟩
    simp only at i1 i2 ⊢
    refine GOH ?_
    by_cases hlt : j < x.a.sp.length
    · rw [show decide ((j : Int) < (x.a.sp.length : Int)) = true from decide_eq_true (by omega)]
      obtain ⟨u, hu⟩ : ∃ u, x.a.sp[j]? = some u := ⟨_, List.getElem?_eq_getElem hlt⟩
      have hmem := (hJA _ _ i2).sp hu
      refine GOH ?_
      refine st_callV (by rfl) (hy _ u A2 (okR hR hu) i2) (by rfl) (by exact SPx) (fun v Post hv => ?_)
      rcases hv with ⟨rfl, A', hA', rfl⟩ | ⟨rfl, B', hB', rfl⟩
      · simp only [CNx]
        refine GOH ?_
        refine ⟨(j + 1, A'), ⟨by simp only; omega, ?_⟩, by simp only; omega, by exact SUx, by exact IMx⟩
        simp only
        rw [List.take_add_one, hu, ← List.append_assoc]; exact hA'
      · simp only [CNx]
        refine GOH ?_
        exact endQ_mk (.inr rfl) .nil ⟨rfl, .inr ⟨_, B', okR hR hu, hB', rfl⟩⟩ (by exact IMx)
    · rw [show decide ((j : Int) < (x.a.sp.length : Int)) = false from decide_eq_false (by omega)]
      rw [List.take_of_length_le (by omega), hN] at i2
      refine GOH ?_
      exact ⟨(1, A2), ⟨by simp only; omega, i2⟩, by simp only; omega, by exact SUx, by exact IMx⟩
  · have hR : rootsA x.a = preR x.a 1 ++ (x.a.cl ++ (x.a.stack ++ x.a.queue)) := by simp [rootsA, preR]
    have hN : preR x.a 1 ++ x.a.cl = preR x.a 2 := by simp [rootsA, preR]
    rw [show newI 1 = 1 from rfl]
    refine GOH ?_
    refine VC.loop (α := Nat × List Atom) (Γf := fun s => [(0, y), (8, .agg #[.slice (some ⟨p, 20, none⟩) x.a.sp.length x.a.sp.length, .slice (some ⟨p, 84, none⟩) x.a.cl.length x.a.cl.length, .slice a1 x.a.stack.length c1, .slice a2 x.a.queue.length c2]), (9, vi 1), (12, .slice (some ⟨p, 84, none⟩) x.a.cl.length x.a.cl.length), (13, vi x.a.cl.length), (14, vi s.1)]) (Hf := fun s => [cellsAt q 0 [ptr0 p], s.2]) (I := fun s => s.1 ≤ x.a.cl.length ∧ J (preR x.a 1 ++ x.a.cl.take s.1) s.2) (μ := fun s => x.a.cl.length - s.1) (0, A1) ⟨Nat.zero_le _, by simpa using t2⟩ (by exact SUx) (Imp.refl _) ?_
    rintro ⟨j, A2⟩ ⟨i1, i2⟩
    simp only at i1 i2 ⊢
    refine GOH ?_
    by_cases hlt : j < x.a.cl.length
    · rw [show decide ((j : Int) < (x.a.cl.length : Int)) = true from decide_eq_true (by omega)]
      obtain ⟨u, hu⟩ : ∃ u, x.a.cl[j]? = some u := ⟨_, List.getElem?_eq_getElem hlt⟩
      have hmem := (hJA _ _ i2).cl hu
      refine GOH ?_
      refine st_callV (by rfl) (hy _ u A2 (okR hR hu) i2) (by rfl) (by exact SPx) (fun v Post hv => ?_)
      rcases hv with ⟨rfl, A', hA', rfl⟩ | ⟨rfl, B', hB', rfl⟩
      · simp only [CNx]
        refine GOH ?_
        refine ⟨(j + 1, A'), ⟨by simp only; omega, ?_⟩, by simp only; omega, by exact SUx, by exact IMx⟩
        simp only
        rw [List.take_add_one, hu, ← List.append_assoc]; exact hA'
      · simp only [CNx]
        refine GOH ?_
        exact endQ_mk (.inr rfl) .nil ⟨rfl, .inr ⟨_, B', okR hR hu, hB', rfl⟩⟩ (by exact IMx)
    · rw [show decide ((j : Int) < (x.a.cl.length : Int)) = false from decide_eq_false (by omega)]
      rw [List.take_of_length_le (by omega), hN] at i2
      refine GOH ?_
      exact ⟨(2, A2), ⟨by simp only; omega, i2⟩, by simp only; omega, by exact SUx, by exact IMx⟩
  · have hR : rootsA x.a = preR x.a 2 ++ (x.a.stack ++ (x.a.queue)) := by simp [rootsA, preR]
    have hN : preR x.a 2 ++ x.a.stack = preR x.a 3 := by simp [rootsA, preR]
    rw [show newI 2 = 2 from rfl]
    refine GOH ?_
    refine VC.loop (α := Nat × List Atom) (Γf := fun s => [(0, y), (8, .agg #[.slice (some ⟨p, 20, none⟩) x.a.sp.length x.a.sp.length, .slice (some ⟨p, 84, none⟩) x.a.cl.length x.a.cl.length, .slice a1 x.a.stack.length c1, .slice a2 x.a.queue.length c2]), (9, vi 2), (12, .slice a1 x.a.stack.length c1), (13, vi x.a.stack.length), (14, vi s.1)]) (Hf := fun s => [cellsAt q 0 [ptr0 p], s.2]) (I := fun s => s.1 ≤ x.a.stack.length ∧ J (preR x.a 2 ++ x.a.stack.take s.1) s.2) (μ := fun s => x.a.stack.length - s.1) (0, A1) ⟨Nat.zero_le _, by simpa using t2⟩ (by exact SUx) (Imp.refl _) ?_
    rintro ⟨j, A2⟩ ⟨i1, i2⟩
    simp only at i1 i2 ⊢
    refine GOH ?_
    by_cases hlt : j < x.a.stack.length
    · rw [show decide ((j : Int) < (x.a.stack.length : Int)) = true from decide_eq_true (by omega)]
      obtain ⟨u, hu⟩ : ∃ u, x.a.stack[j]? = some u := ⟨_, List.getElem?_eq_getElem hlt⟩
      obtain ⟨b, o, c, hk, _, _⟩ := hx.stk.some (by omega)
      have hmem := (hJA _ _ i2).st hu hk
      rw [k1] at hk
      simp only [Value.slice.injEq, true_and] at hk
      obtain ⟨rfl, rfl⟩ := hk
      refine GOH ?_
      refine st_callV (by rfl) (hy _ u A2 (okR hR hu) i2) (by rfl) (by exact SPx) (fun v Post hv => ?_)
      rcases hv with ⟨rfl, A', hA', rfl⟩ | ⟨rfl, B', hB', rfl⟩
      · simp only [CNx]
        refine GOH ?_
        refine ⟨(j + 1, A'), ⟨by simp only; omega, ?_⟩, by simp only; omega, by exact SUx, by exact IMx⟩
        simp only
        rw [List.take_add_one, hu, ← List.append_assoc]; exact hA'
      · simp only [CNx]
        refine GOH ?_
        exact endQ_mk (.inr rfl) .nil ⟨rfl, .inr ⟨_, B', okR hR hu, hB', rfl⟩⟩ (by exact IMx)
    · rw [show decide ((j : Int) < (x.a.stack.length : Int)) = false from decide_eq_false (by omega)]
      rw [List.take_of_length_le (by omega), hN] at i2
      refine GOH ?_
      exact ⟨(3, A2), ⟨by simp only; omega, i2⟩, by simp only; omega, by exact SUx, by exact IMx⟩
  · have hR : rootsA x.a = preR x.a 3 ++ (x.a.queue ++ ([])) := by simp [rootsA, preR]
    have hN : preR x.a 3 ++ x.a.queue = preR x.a 4 := by simp [rootsA, preR]
    rw [show newI 3 = 3 from rfl]
    refine GOH ?_
    refine VC.loop (α := Nat × List Atom) (Γf := fun s => [(0, y), (8, .agg #[.slice (some ⟨p, 20, none⟩) x.a.sp.length x.a.sp.length, .slice (some ⟨p, 84, none⟩) x.a.cl.length x.a.cl.length, .slice a1 x.a.stack.length c1, .slice a2 x.a.queue.length c2]), (9, vi 3), (12, .slice a2 x.a.queue.length c2), (13, vi x.a.queue.length), (14, vi s.1)]) (Hf := fun s => [cellsAt q 0 [ptr0 p], s.2]) (I := fun s => s.1 ≤ x.a.queue.length ∧ J (preR x.a 3 ++ x.a.queue.take s.1) s.2) (μ := fun s => x.a.queue.length - s.1) (0, A1) ⟨Nat.zero_le _, by simpa using t2⟩ (by exact SUx) (Imp.refl _) ?_
    rintro ⟨j, A2⟩ ⟨i1, i2⟩
    simp only at i1 i2 ⊢
    refine GOH ?_
    by_cases hlt : j < x.a.queue.length
    · rw [show decide ((j : Int) < (x.a.queue.length : Int)) = true from decide_eq_true (by omega)]
      obtain ⟨u, hu⟩ : ∃ u, x.a.queue[j]? = some u := ⟨_, List.getElem?_eq_getElem hlt⟩
      obtain ⟨b, o, c, hk, _, _⟩ := hx.que.some (by omega)
      have hmem := (hJA _ _ i2).qu hu hk
      rw [k2] at hk
      simp only [Value.slice.injEq, true_and] at hk
      obtain ⟨rfl, rfl⟩ := hk
      refine GOH ?_
      refine st_callV (by rfl) (hy _ u A2 (okR hR hu) i2) (by rfl) (by exact SPx) (fun v Post hv => ?_)
      rcases hv with ⟨rfl, A', hA', rfl⟩ | ⟨rfl, B', hB', rfl⟩
      · simp only [CNx]
        refine GOH ?_
        refine ⟨(j + 1, A'), ⟨by simp only; omega, ?_⟩, by simp only; omega, by exact SUx, by exact IMx⟩
        simp only
        rw [List.take_add_one, hu, ← List.append_assoc]; exact hA'
      · simp only [CNx]
        refine GOH ?_
        exact endQ_mk (.inr rfl) .nil ⟨rfl, .inr ⟨_, B', okR hR hu, hB', rfl⟩⟩ (by exact IMx)
    · rw [show decide ((j : Int) < (x.a.queue.length : Int)) = false from decide_eq_false (by omega)]
      rw [List.take_of_length_le (by omega), hN] at i2
      refine GOH ?_
      exact ⟨(4, A2), ⟨by simp only; omega, i2⟩, by simp only; omega, by exact SUx, by exact IMx⟩
end Go.Proofs.YtmlnoodopoaafaaDoor
namespace Go.V
open Go
theorem HOk.roots {x : HW} (hx : HOk x) {o : Nat} (h : o ∈ rootsA x.a) : o < 18446744073709551616 := by
  simp only [rootsA, List.mem_append] at h
  rcases h with h | h | h | h
  · exact hx.sps o h
  · exact hx.cls o h
  · exact hx.stks o h
  · exact hx.ques o h
theorem HOk.oop_lt {x : HW} (hx : HOk x) {o : Nat} {b : Ob} (h : getO x.a.obs o = some b) : o < 18446744073709551616 := by
  obtain ⟨h1, rfl⟩ := getO_some h
  have := hx.range h1
  unfold Ob.oop; omega
end Go.V
namespace Go.Proofs.YtmlnoodopoaafaaDoor
open Go Go.V
set_option maxHeartbeats 6400000
set_option maxRecDepth 100000
end Go.Proofs.YtmlnoodopoaafaaDoor
namespace Go.V
open Go
theorem HOk.few_obs {x : HW} (hx : HOk x) : x.a.obs.length < 4194304 := by
  have h1 : (x.a.obs.map Ob.at_).Nodup := by
    rw [List.nodup_iff_pairwise_ne, List.pairwise_map]
    exact hx.lay.sort.imp (fun {a b} h e => by unfold Ob.stop at h; omega)
  have h2 := nodup_le (m := List.range x.ws.length) h1 (fun y hy => by
    obtain ⟨b, hb, rfl⟩ := List.mem_map.1 hy
    have := hx.lay.at_lt hb
    exact List.mem_range.2 (by omega))
  have h3 := hx.lay.len
  simp only [List.length_map, List.length_range] at h2
  omega
end Go.V
namespace Go.Proofs.YtmlnoodopoaafaaDoor
open Go Go.V
set_option maxHeartbeats 6400000
set_option maxRecDepth 100000
end Go.Proofs.YtmlnoodopoaafaaDoor
namespace Go.V
open Go
structure RW where
  s : MS
  x : HW
  lv : Value
  wv : Value
  fv : Value
  ls : List Value
  vs : List Value
  fs : List Value
def RMem (q p : Nat) (y : RW) : SH := [cellsAt q 0 [ptr0 p, y.lv, y.wv, y.fv], slA y.lv (y.s.line.map uv) y.ls, slA y.wv (y.s.waiting.map uv) y.vs, slA y.fv (y.s.fired.map uv) y.fs, HA p y.x]
def RA (q p : Nat) (y : RW) : List Atom := (RMem q p y).flatten
structure ROk (y : RW) : Prop where
  x : HOk y.x
  a : y.x.a = markA y.s.a y.s.line
  m : MOk y.s
  l : IsSl 1 y.lv y.s.line.length (y.s.line.map uv) y.ls
  w : IsSl 1 y.wv y.s.waiting.length (y.s.waiting.map uv) y.vs
  f : IsSl 1 y.fv y.s.fired.length (y.s.fired.map uv) y.fs
structure HSame (x y : HW) : Prop where
  sp : y.a.sp = x.a.sp
  cl : y.a.cl = x.a.cl
  st : y.a.stack = x.a.stack
  qu : y.a.queue = x.a.queue
  kv : y.kv = x.kv
  qv : y.qv = x.qv
theorem HSame.refl (x : HW) : HSame x x := ⟨rfl, rfl, rfl, rfl, rfl, rfl⟩
theorem HSame.trans {x y z : HW} (h : HSame x y) (k : HSame y z) : HSame x z := ⟨k.sp.trans h.sp, k.cl.trans h.cl, k.st.trans h.st, k.qu.trans h.qu, k.kv.trans h.kv, k.qv.trans h.qv⟩
theorem ra_out (q p : Nat) (y : RW) : Imp [RA q p y] (RMem q p y) := Imp.perm (by simp [RA])
theorem ra_in (q p : Nat) (y : RW) : Imp (RMem q p y) [RA q p y] := Imp.perm (by simp [RA])
theorem ra_spl (q p : Nat) (y : RW) : Spl [RA q p y] (RMem q p y) [] := by simp [Spl, RA]
theorem ra_back (q p : Nat) (y : RW) : Imp (RMem q p y ++ []) [RA q p y] := Imp.perm (by simp [RA])
theorem Fun.ra {P : Program} {f : Nat} {args : List Value} {q p : Nat} {y : RW} {Q : Value → RW → Prop} (h : Fun P f args (RMem q p y) (fun v Post => ∃ y', Q v y' ∧ Post = RMem q p y')) : Fun P f args [RA q p y] (fun v Post => ∃ y', Q v y' ∧ Post = [RA q p y']) :=
  h.conv (ra_spl q p y) (fun v Post hv => by obtain ⟨y', h, rfl⟩ := hv; exact ⟨_, ⟨y', h, rfl⟩, ra_back q p y'⟩)
theorem ROk.obs {y : RW} (h : ROk y) : y.s.a.obs.length < 4194304 := by
  have := h.x.few_obs
  rw [h.a] at this
  simpa [markA] using this
theorem ROk.line {y : RW} (h : ROk y) : y.s.line.length < 4194304 := Nat.lt_of_le_of_lt (line_len h.m.nd h.m.ob) h.obs
theorem ROk.get {y : RW} (h : ROk y) (o : Nat) : getO y.x.a.obs o = (getO y.s.a.obs o).map (mkB y.s.line) := by rw [h.a, getO_mark]
theorem ROk.getS {y : RW} (h : ROk y) {o : Nat} {b : Ob} (hb : getO y.s.a.obs o = some b) : getO y.x.a.obs o = some (mkB y.s.line b) := by rw [h.get, hb]; rfl
theorem mkB_marked {l : List Nat} {b : Ob} {a : AH} {o : Nat} (hb : getO a.obs o = some b) : (mkB l b).hd.marked = decide (o ∈ l) := by
  obtain ⟨_, rfl⟩ := getO_some hb
  rfl
theorem ROk.ok {y : RW} (h : ROk y) : ∀ b ∈ y.s.a.obs, b.Ok := fun b hb => by
  have hm : mkB y.s.line b ∈ y.x.a.obs := by rw [h.a]; exact List.mem_map.2 ⟨b, hb, rfl⟩
  have k := h.x.lay.ok _ hm
  exact ⟨⟨k.may.cls, k.may.hash, k.may.age, k.may.slots, k.may.spare, k.may.fmt, k.may.plain, k.may.eph, k.may.meth, k.may.some⟩, k.len, k.small, k.meth⟩
end Go.V
namespace Go.Proofs.YtmlnoodopoaafaaDoor
open Go Go.V
set_option maxHeartbeats 3200000
set_option maxRecDepth 100000
def RPost (q p : Nat) (y : RW) (s' : MS) : Value → SH → Prop := fun v Post => ∃ y', (v = .tuple #[] ∧ ROk y' ∧ y'.s = s' ∧ HSame y.x y'.x) ∧ Post = [RA q p y']
theorem meets_spec' (q p : Nat) (y : RW) (hy : ROk y) (o : Nat) (ho : o < 18446744073709551616) :
    Fun Tryd.prog 88 [ptr0 q, uv o] [RA q p y] (RPost q p y { y.s with line := meetA y.s.a y.s.line o }) := by
  refine Fun.ra (Q := fun v y' => v = .tuple #[] ∧ ROk y' ∧ y'.s = { y.s with line := meetA y.s.a y.s.line o } ∧ HSame y.x y'.x) ?_
  have hl := hy.line
  obtain ⟨a, c, hk⟩ := hy.l.form
  have hsl := hy.l
  rw [hk] at hsl
  cases hb : getO y.s.a.obs o with
  | none =>
    have hm := mark0_spec p y.x hy.x o (by rw [hy.get, hb]; rfl) ho true
    have e : meetA y.s.a y.s.line o = y.s.line := by
      unfold meetA
      split
      · rfl
      · rw [hb]; rfl
    rw [e]
    simp only [RMem]
    refine Fun.intro low88 (by simp [n88]) ?_
    refine GOH ?_
    refine st_callS hm (by rfl) (by exact TKx) ?_
    refine GOH ?_
    exact endQ_mk (.inl rfl) .nil ⟨y, ⟨rfl, hy, rfl, .refl _⟩, rfl⟩ (by exact IMx)
  | some b =>
    have hm := mark_spec p y.x hy.x o _ (hy.getS hb) ho true
    have hmk := mkB_marked (l := y.s.line) hb
    have hoo := (getO_some hb).2
    have ea : (turnW y.x (mkB y.s.line b) (setMk true)).a = markA y.s.a (y.s.line ++ [o]) := by
      show headA y.x.a _ _ = _
      unfold headA
      rw [hy.a, ← hoo]
      exact mark_on y.s.a y.s.line b
    by_cases hin : o ∈ y.s.line
    · rw [hmk, decide_eq_true hin] at hm
      have e : meetA y.s.a y.s.line o = y.s.line := by unfold meetA; rw [if_pos hin]
      rw [e]
      rw [mark_in _ hin] at ea
      simp only [RMem]
      refine Fun.intro low88 (by simp [n88]) ?_
      refine GOH ?_
      refine st_call hm (by rfl) (by exact SPx) (fun v Post hv => ?_)
      obtain ⟨⟨rfl, h1⟩, rfl⟩ := hv
      simp only [CNx]
      refine GOH ?_
      exact endQ_mk (.inl rfl) .nil ⟨{ y with x := turnW y.x (mkB y.s.line b) (setMk true) }, ⟨rfl, ⟨h1, ea, hy.m, hy.l, hy.w, hy.f⟩, rfl, ⟨rfl, rfl, rfl, rfl, rfl, rfl⟩⟩, rfl⟩ (by exact IMx)
    · rw [hmk, decide_eq_false hin] at hm
      have e : meetA y.s.a y.s.line o = y.s.line ++ [o] := by unfold meetA; rw [if_neg hin, hb]; rfl
      have hmap : (y.s.line ++ [o]).map uv = y.s.line.map uv ++ [uv o] := by simp
      have hmo := hy.m.meet o
      rw [e] at hmo ⊢
      simp only [RMem, hk]
      refine Fun.intro low88 (by simp [n88]) ?_
      refine GOH ?_
      refine st_call hm (by rfl) (by exact SPx) (fun v Post hv => ?_)
      obtain ⟨⟨rfl, h1⟩, rfl⟩ := hv
      simp only [CNx]
      refine GOH ?_
      refine st_bslice (out := [uv o]) (by rfl) (by rfl) (fun q3 => ?_)
      refine st_append (k := y.s.line.length) (m := 1) (xs := y.s.line.map uv) (sp := y.ls) (ys := [uv o]) (by rfl) (by rfl) hsl (by exact TKx) (by rfl) ?_ rfl (by rfl) (by rfl) (by decide) (by omega) (fun sv' sp' hsl' => ?_)
      · exact ⟨rfl, fun a ha => by simp only [List.flatten_cons, List.mem_append]; exact .inl ha⟩
      have hsl2 : IsSl 1 sv' (y.s.line ++ [o]).length ((y.s.line ++ [o]).map uv) sp' := by rw [hmap]; simpa using hsl'
      obtain ⟨a', c', rfl⟩ := hsl'.form
      refine GOH ?_
      refine endQ_mk (.inl rfl) .nil ⟨{ y with s := { y.s with line := y.s.line ++ [o] }, x := turnW y.x (mkB y.s.line b) (setMk true), lv := .slice a' (y.s.line.length + 1) c', ls := sp' }, ⟨rfl, ⟨h1, ea, hmo, hsl2, hy.w, hy.f⟩, rfl, ⟨rfl, rfl, rfl, rfl, rfl, rfl⟩⟩, rfl⟩ ?_
      simp only [hmap]
      exact IMx
end Go.Proofs.YtmlnoodopoaafaaDoor

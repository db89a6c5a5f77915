/-
  The heap: a slot, a byte, a class is laid; a root is pushed.
-/
import Derived.Test.YtmlnoodopoaafaaDoorP3
import Derived.Test.YtmlnoodopoaafaaDoorH3
import Derived.Test.YtmlnoodopoaafaaDoorV12
set_option linter.unusedSimpArgs false
set_option linter.unusedVariables false
namespace Go.Proofs.YtmlnoodopoaafaaDoor
open Go Go.V
set_option maxHeartbeats 3200000
set_option maxRecDepth 100000
def slotA (a : AH) (b : Ob) (i v : Nat) : AH := { a with obs := updO b.at_ (setB i v) a.obs }
theorem setSlot_spec (p : Nat) (x : HW) (hx : HOk x) (o : Nat) (b : Ob) (hb : getO x.a.obs o = some b) (ho : o < 18446744073709551616) (i v : Nat) (hi : i < b.many) (hv : v < 18446744073709551616) (hm6 : b.hd.fmt ≠ 6) (hmay : mayO x.a v = true) (hy : spaceW x.a.rm b.at_ < 4) :
    Fun Tryd.prog 9 [ptr0 p, uv o, vi i, uv v] [HA p x] (fun r Post => ∃ y, (r = vi 0 ∧ HOk y ∧ y.a = slotA x.a b i v) ∧ Post = [HA p y]) := by
  obtain ⟨hw, hm⟩ := hx.word hb
  have ha := at_spec p x hx o ho
  have hok := hx.lay.ok b hm
  have hmany := hok.many
  have hr := hx.range hm
  have hM := hmay_spec p x hx v hv
  have hh := head_spec p x hx b hm
  have key := hx.setB hm (i := i) (v := v) (by omega) hv (fun e => absurd e hm6)
  have hwr := where_spec p _ key b.at_ (by omega)
  have hoff : b.off + i < x.ws.length := by
    have := hx.lay.high b hm
    unfold Ob.stop at this; unfold Ob.off; split <;> omega
  rw [hmay] at hM
  rw [hb, hw] at ha
  simp only [hdEnc] at hh
  have hfm : decide ((b.hd.fmt : Int) = 6) = false := decide_eq_false (by omega)
  refine Fun.intro low9 (by simp [n9]) ?_
  refine GOH ?_
  refine st_callS (slot_spec p x hx o b hb ho i hi) (by rfl) (by exact TKx) ?_
  refine GOH ?_
  refine st_callS ha (by rfl) (by exact TKx) ?_
  refine GOH ?_
  by_cases h0 : i = 0
  · rw [show decide ((i : Int) = 0) = true from decide_eq_true (by omega)]
    refine GOH ?_
    refine st_callS hh (by rfl) (by exact TKx) ?_
    refine GOH ?_
    rw [hfm]
    refine GOH ?_
    refine st_callS hM (by rfl) (by exact TKx) ?_
    refine GOH ?_
    refine st_storeW (by rfl) (by rfl) .here hoff ?_
    refine GOH ?_
    refine st_callS hwr (by rfl) .here ?_
    refine GOH ?_
    rw [show decide ((4 : Int) ≤ (spaceW x.a.rm b.at_ : Int)) = false from decide_eq_false (by omega)]
    refine GOH ?_
    exact endQ_mk (.inr rfl) (.tmp (by rfl) .nil) ⟨_, ⟨rfl, key, rfl⟩, rfl⟩ Imp.head
  · rw [show decide ((i : Int) = 0) = false from decide_eq_false (by omega)]
    refine GOH ?_
    refine st_callS hM (by rfl) (by exact TKx) ?_
    refine GOH ?_
    refine st_storeW (by rfl) (by rfl) .here hoff ?_
    refine GOH ?_
    refine st_callS hwr (by rfl) .here ?_
    refine GOH ?_
    rw [show decide ((4 : Int) ≤ (spaceW x.a.rm b.at_ : Int)) = false from decide_eq_false (by omega)]
    refine GOH ?_
    exact endQ_mk (.inr rfl) (.tmp (by rfl) .nil) ⟨_, ⟨rfl, key, rfl⟩, rfl⟩ Imp.head
theorem push_spec (p : Nat) (x : HW) (hx : HOk x) (v : Nat) (hv : v < 18446744073709551616) (hmay : mayO x.a v = true) (hd : x.a.stack.length < 4096) :
    Fun Tryd.prog 10 [ptr0 p, uv v] [HA p x] (fun r Post => ∃ y, (r = .tuple #[vi x.a.stack.length, vi 0] ∧ HOk y ∧ y.a = { x.a with stack := x.a.stack ++ [v] }) ∧ Post = [HA p y]) := by
  have hM := hmay_spec p x hx v hv
  rw [hmay] at hM
  obtain ⟨a, c, hk⟩ := hx.stk.form
  have hkm := (ha_kv (p := p) (x := x)).1
  rw [hk] at hkm
  have hsl := hx.stk
  rw [hk] at hsl
  refine Fun.intro low10 (by simp [n10]) ?_
  refine GOH ?_
  rw [show decide ((4096 : Int) ≤ (x.a.stack.length : Int)) = false from decide_eq_false (by omega)]
  refine GOH ?_
  refine st_callS hM (by rfl) (by exact TKx) ?_
  refine GOH ?_
  refine VO.imp (ha_out p x) ?_
  simp only [HMem, arrV, hk]
  refine st_bslice (out := [uv v]) (by rfl) (by rfl) (fun q => ?_)
  refine st_append (k := x.a.stack.length) (m := 1) (xs := x.a.stack.map uv) (sp := x.ks) (ys := [uv v]) (by rfl) (by rfl) hsl (by exact TKx) (by rfl) ?_ rfl (by rfl) (by rfl) (by decide) (by omega) (fun sv' sp' hsl' => ?_)
  · exact ⟨rfl, fun a ha => by simp only [List.flatten_cons, List.mem_append]; exact .inl ha⟩
  have hsl2 : IsSl 1 sv' (x.a.stack ++ [v]).length ((x.a.stack ++ [v]).map uv) sp' := by simpa using hsl'
  have key : HOk { x with a := { x.a with stack := x.a.stack ++ [v] }, kv := sv', ks := sp' } := by
    refine ⟨hx.lay, ⟨hx.rm.len, hx.rm.zero, hx.rm.rng, hx.rm.low, hx.rm.apart, hx.rm.inn⟩, hx.spl, hx.cll, hx.sps, hx.cls, ?_, hx.ques, hx.nots, hsl2, hx.que, hx.note, hx.map, hx.given, by simp; omega, hx.few⟩
    intro o ho
    rcases List.mem_append.1 ho with h | h
    · exact hx.stks o h
    · rw [List.mem_singleton.1 h]; exact hv
  have hmap : (x.a.stack ++ [v]).map uv = x.a.stack.map uv ++ [uv v] := by simp
  obtain ⟨a', c', rfl⟩ := hsl'.form
  refine GOH ?_
  refine endQ_mk (.inr rfl) (.tmp (by rfl) (.tmp (by rfl) .nil)) ⟨_, ⟨?_, key, rfl⟩, rfl⟩ (Imp.cut ?_ (ha_in p _))
  · rw [show ((((x.a.stack.length + 1 : Nat)) : Int) - 1) = (x.a.stack.length : Int) by omega]; rfl
  · simp only [HMem, arrV, hmap]
    exact IMx
theorem setByte_spec (p : Nat) (x : HW) (hx : HOk x) (o : Nat) (b : Ob) (hb : getO x.a.obs o = some b) (ho : o < 18446744073709551616) (i u c : Nat) (hi : (i : Int) < b.bytesI) (hu : b.body[b.many + i / 8]? = some u) (hc : c < 256) (h5 : b.hd.fmt = 5) :
    Fun Tryd.prog 14 [ptr0 p, uv o, vi i, cv c] [HA p x] (fun r Post => ∃ y, (r = vi 0 ∧ HOk y ∧ y.a = slotA x.a b (b.many + i / 8) (andN u (255 * 2 ^ (i % 8 * 8)) ||| c * 2 ^ (i % 8 * 8))) ∧ Post = [HA p y]) := by
  obtain ⟨hw, hm⟩ := hx.word hb
  have hs := hx.slot hm hu
  have hmem := ha_mem (p := p) hs.1
  have hs2 := hs.2
  have hl := (hx.lay.ok b hm).len
  have hlt := (List.getElem?_eq_some_iff.1 hu).1
  have hpl : Fun Tryd.prog 49 [ptr0 p, uv o, vi i] [HA p x] (fun v Post => v = .tuple #[.pointer (some ⟨x.wb, b.off + (b.many + i / 8), none⟩), vi ((i % 8 * 8 : Nat) : Int), vi 0] ∧ Post = [HA p x]) := place_spec p x hx o b hb ho i hi
  have hj : i % 8 * 8 ≤ 56 := by omega
  have hoff : b.off + (b.many + i / 8) < x.ws.length := (List.getElem?_eq_some_iff.1 hs.1).1
  generalize b.many + i / 8 = k at *
  generalize i % 8 * 8 = j at *
  have hp : 2 ^ j ≤ 72057594037927936 := Nat.le_trans (Nat.pow_le_pow_right (by omega) hj) (by decide)
  have hm1 : 255 * 2 ^ j % 18446744073709551616 = 255 * 2 ^ j := Nat.mod_eq_of_lt (by omega)
  have hm2 : c * 2 ^ j % 18446744073709551616 = c * 2 ^ j := Nat.mod_eq_of_lt (Nat.lt_of_le_of_lt (Nat.mul_le_mul (show c ≤ 255 by omega) hp) (by decide))
  have hv : andN u (255 * 2 ^ j) ||| c * 2 ^ j < 18446744073709551616 := orC (andN_lt hs2) (by rw [← hm2]; exact modM)
  have key := hx.setB hm (i := k) (v := andN u (255 * 2 ^ j) ||| c * 2 ^ j) (by omega) hv (fun e => by omega)
  refine Fun.intro low14 (by simp [n14]) ?_
  refine GOH ?_
  refine st_callS hpl (by rfl) (by exact TKx) ?_
  refine GOH ?_
  rw [hm1, hm2]
  refine st_storeW (by rfl) (by rfl) .here hoff ?_
  refine GOH ?_
  exact endQ_mk (.inr rfl) (.tmp (by rfl) .nil) ⟨_, ⟨rfl, key, rfl⟩, rfl⟩ Imp.head
def headA (a : AH) (b : Ob) (g : Hd → Hd) : AH := { a with obs := updO b.at_ (setH g) a.obs }
theorem turn_spec (p : Nat) (x : HW) (hx : HOk x) (o : Nat) (b : Ob) (hb : getO x.a.obs o = some b) (ho : o < 18446744073709551616) (fv : Value) (X : List Atom) (g : Hd → Hd) (hg : ∀ d, (g d).slots = d.slots) (hm : (g b.hd).May) (h6 : (g b.hd).fmt = 6 → b.hd.fmt = 6)
    (hf : ∀ q, FunV Tryd.prog fv [ptr0 q] [cellsAt q 0 (hdEnc b.hd), X] (fun v Post => v = vi 0 ∧ Post = [cellsAt q 0 (hdEnc (g b.hd)), X])) :
    Fun Tryd.prog 51 [ptr0 p, uv o, fv] [HA p x, X] (fun r Post => ∃ y, (r = vi 0 ∧ HOk y ∧ y.a = headA x.a b g) ∧ Post = [HA p y, X]) := by
  obtain ⟨hw, hmm⟩ := hx.word hb
  have ha := at_spec p x hx o ho
  have hh := head_spec p x hx b hmm
  have key := hx.setH hmm hg hm h6
  have hlt := hx.lay.at_lt hmm
  have hset := setHead_spec p x b.at_ (g b.hd) hm hlt hx.lay.len
  rw [hg] at hset
  rw [hb, hw] at ha
  simp only [hdEnc] at hh hf hset
  refine Fun.intro low51 (by simp [n51]) ?_
  refine GOH ?_
  refine st_callS ha (by rfl) (by exact TKx) ?_
  refine GOH ?_
  refine st_callS hh (by rfl) (by exact TKx) ?_
  refine st_alloc (fun q => ?_)
  refine GOH ?_
  refine st_callV (by rfl) (hf q) (by rfl) (by exact SPx) (fun v Post hv => ?_)
  obtain ⟨rfl, rfl⟩ := hv
  simp only [CNx]
  refine GOH ?_
  refine st_call hset (by rfl) (by exact SPx) (fun v Post hv => ?_)
  obtain ⟨rfl, rfl⟩ := hv
  simp only [CNx]
  refine GOH ?_
  exact endQ_mk (.inr rfl) (.tmp (by rfl) .nil) ⟨_, ⟨rfl, key, rfl⟩, rfl⟩ (by show Imp _ [HA p { x with ws := (x.ws.set b.at_ (pk (g b.hd))).set (b.at_ + 1) b.hd.slots }, X]; exact IMx)
theorem setClass_spec (p : Nat) (x : HW) (hx : HOk x) (o : Nat) (b : Ob) (hb : getO x.a.obs o = some b) (ho : o < 18446744073709551616) (c : Nat) (hc : c ≤ 4095) :
    Fun Tryd.prog 18 [ptr0 p, uv o, vi c] [HA p x] (fun r Post => ∃ y, (r = vi 0 ∧ HOk y ∧ y.a = headA x.a b (fun d => { d with cls := c })) ∧ Post = [HA p y]) := by
  have hok := (hx.lay.ok b (hx.word hb).2).may
  have hm : ({ b.hd with cls := c } : Hd).May := ⟨hc, hok.hash, hok.age, hok.slots, hok.spare, hok.fmt, hok.plain, hok.eph, hok.meth, hok.some⟩
  have hf : ∀ k q, FunV Tryd.prog (.func (.func 52) #[] #[ptr0 k]) [ptr0 q] [cellsAt q 0 (hdEnc b.hd), cellsAt k 0 [vi c]] (fun v Post => v = vi 0 ∧ Post = [cellsAt q 0 (hdEnc ((fun d : Hd => { d with cls := c }) b.hd)), cellsAt k 0 [vi c]]) := fun k q => by
    refine FunV.of_fun ?_
    simp only [hdEnc, List.nil_append, List.cons_append]
    refine Fun.intro low52 (by simp [n52]) ?_
    refine GOH ?_
    refine st_callP (hwithin_spec c 0 4095) (by rfl) ?_
    rw [show decide ((0 : Int) ≤ (c : Int) ∧ (c : Int) ≤ 4095) = true from decide_eq_true (by omega)]
    refine GOH ?_
    exact endQ_mk (.inr rfl) (.tmp (by rfl) .nil) ⟨rfl, rfl⟩ (by exact IMx)
  refine Fun.intro low18 (by simp [n18]) ?_
  refine VC.seq_reg ?_
  refine st_box (by rfl) (fun k => ?_)
  simp only [Value.cells]
  refine GOH ?_
  refine st_call (turn_spec p x hx o b hb ho _ (cellsAt k 0 [vi c]) (fun d => { d with cls := c }) (fun _ => rfl) hm (fun e => e) (hf k)) (by rfl) (by exact SPx) (fun v Post hv => ?_)
  obtain ⟨y, ⟨rfl, h1, h2⟩, rfl⟩ := hv
  simp only [CNx]
  refine GOH ?_
  exact endQ_mk (.inr rfl) (.tmp (by rfl) .nil) ⟨_, ⟨rfl, h1, h2⟩, rfl⟩ (by exact IMx)
set_option maxHeartbeats 6400000
theorem new_spec (E S B Pn T : Nat) (h1 : 64 ≤ E ∧ E ≤ 65536) (h2 : 16 ≤ S ∧ S ≤ E) (h3 : 64 ≤ B ∧ B ≤ 1048576) (h4 : Pn ≤ 65536) (h5 : T ≤ 15) :
    Fun Tryd.prog 7 [.agg #[vi E, vi S, vi B, vi Pn, vi T]] [] (fun v Post => ∃ p x, (v = .tuple #[ptr0 p, vi 0] ∧ HOk x ∧ x.a = newH E S B Pn) ∧ Post = [HA p x]) := by
  have hT : ∀ {n l m : Int}, l ≤ n → n ≤ m → Fun Tryd.prog 26 [vi n, vi l, vi m] [] (fun v Post => v = .bool true ∧ Post = []) := fun {n l m} a b => (hwithin_spec n l m).mono (fun v Post hv => by
    obtain ⟨rfl, rfl⟩ := hv; exact ⟨by rw [decide_eq_true ⟨a, b⟩], rfl⟩)
  refine Fun.intro low7 (by simp [n7]) ?_
  refine VC.seq_reg ?_
  refine st_box (by rfl) (fun q => ?_)
  simp only [Value.cells]
  refine GOH ?_
  refine st_callP (hT (n := E) (l := 64) (m := 65536) (by omega) (by omega)) (by rfl) ?_
  refine GOH ?_
  refine st_callP (hT (n := S) (l := 16) (m := E) (by omega) (by omega)) (by rfl) ?_
  refine GOH ?_
  refine st_callP (hT (n := B) (l := 64) (m := 1048576) (by omega) (by omega)) (by rfl) ?_
  refine GOH ?_
  refine st_callP (hT (n := Pn) (l := 0) (m := 65536) (by omega) (by omega)) (by rfl) ?_
  refine GOH ?_
  refine st_callP (hT (n := T) (l := 0) (m := 15) (by omega) (by omega)) (by rfl) ?_
  refine GOH ?_
  refine st_mkmap (fun mb => ?_)
  rw [rep_one, rep_one]
  refine st_build (out := newZ (.map (some mb))) (by rfl) (newZ_put mb) ?_
  refine st_box (by rfl) (fun p => ?_)
  have hcl : (Value.agg (newZ (.map (some mb))).toArray).cells.toList = newZ (.map (some mb)) := by simp only [Value.cells]
  rw [hcl]
  refine VO.imp (H' := [cellsAt p 0 [Value.slice none 0 0, Value.slice none 0 0], cellsAt p 2 (List.replicate 18 (Value.int .i64 0)), cellsAt p 4180 [Value.slice none 0 0, Value.slice none 0 0, Value.slice none 0 0, .map (some mb), Value.int .i64 0], cellsAt p 20 ((List.replicate 64 0).map uv), cellsAt p 84 ((List.replicate 4096 0).map uv), [Atom.obj mb (Obj.map #[] 0)], cellsAt q 0 [vi E, vi S, vi B, vi Pn, vi T]]) ?_ ?_
  · rw [newZ_cells]
    refine Imp.cut (M := [cellsAt p 0 [Value.slice none 0 0, Value.slice none 0 0], cellsAt p 2 (List.replicate 18 (Value.int .i64 0)), cellsAt p 20 ((List.replicate 64 0).map uv), cellsAt p 84 ((List.replicate 4096 0).map uv), cellsAt p 4180 [Value.slice none 0 0, Value.slice none 0 0, Value.slice none 0 0, .map (some mb), Value.int .i64 0], [Atom.obj mb (Obj.map #[] 0)], cellsAt q 0 [vi E, vi S, vi B, vi Pn, vi T]]) (Imp.perm ?_) ?_
    · simp only [List.flatten_cons, List.flatten_nil, List.append_nil, List.append_assoc]; exact List.Perm.refl _
    · generalize cellsAt p 20 ((List.replicate 64 0).map uv) = A20
      generalize cellsAt p 84 ((List.replicate 4096 0).map uv) = A84
      generalize cellsAt p 2 (List.replicate 18 (Value.int .i64 0)) = A2
      exact IMx
  rw [show List.replicate 18 (Value.int .i64 0) = newRm E S B Pn 0 from rfl]
  generalize h20 : cellsAt p 20 ((List.replicate 64 0).map uv) = A20
  generalize h84 : cellsAt p 84 ((List.replicate 4096 0).map uv) = A84
  refine GOH ?_
  refine VC.loop (α := Nat) (Γf := fun i => [(4, ptr0 p), (5, vi (newAt E S B Pn i)), (52, Value.agg #[vi E, vi S, vi S, vi (B + E + 2 * S), vi Pn]), (53, vi (newI i))])
    (Hf := fun i => [cellsAt p 2 (newRm E S B Pn i), cellsAt p 0 [Value.slice none 0 0, Value.slice none 0 0], cellsAt p 4180 [Value.slice none 0 0, Value.slice none 0 0, Value.slice none 0 0, .map (some mb), Value.int .i64 0], A20, A84, [Atom.obj mb (Obj.map #[] 0)]])
    (I := fun i => i ≤ 5) (μ := fun i => 5 - i) 0 (Nat.zero_le _) (by exact SUx) (by exact IMx) ?_
  intro i hi
  have hii : i = 0 ∨ i = 1 ∨ i = 2 ∨ i = 3 ∨ i = 4 ∨ i = 5 := by omega
  rcases hii with rfl | rfl | rfl | rfl | rfl | rfl
  · rw [show newRm E S B Pn 0 = [vi 0, vi 0, vi 0, vi 0, vi 0, vi 0, vi 0, vi 0, vi 0, vi 0, vi 0, vi 0, vi 0, vi 0, vi 0, vi 0, vi 0, vi 0] from rfl, show newAt E S B Pn 0 = 2 from rfl, show newI 0 = 0 from rfl]
    refine GOH ?_
    rw [show 2 + ((0 : Int) + 1).toNat * 3 = 5 from rfl]
    refine GOH ?_
    exact ⟨1, by omega, by omega, by exact SUx, by rw [show newRm E S B Pn 1 = [vi 0, vi 0, vi 0, vi 2, vi (2 + (E : Int) : Int), vi 2, vi 0, vi 0, vi 0, vi 0, vi 0, vi 0, vi 0, vi 0, vi 0, vi 0, vi 0, vi 0] from rfl]; exact IMx⟩
  · rw [show newRm E S B Pn 1 = [vi 0, vi 0, vi 0, vi 2, vi (2 + (E : Int) : Int), vi 2, vi 0, vi 0, vi 0, vi 0, vi 0, vi 0, vi 0, vi 0, vi 0, vi 0, vi 0, vi 0] from rfl, show newAt E S B Pn 1 = (2 + (E : Int) : Int) from rfl, show newI 1 = 1 from rfl]
    refine GOH ?_
    rw [show 2 + ((1 : Int) + 1).toNat * 3 = 8 from rfl]
    refine GOH ?_
    exact ⟨2, by omega, by omega, by exact SUx, by rw [show newRm E S B Pn 2 = [vi 0, vi 0, vi 0, vi 2, vi (2 + (E : Int) : Int), vi 2, vi (2 + (E : Int) : Int), vi (2 + (E : Int) + (S : Int) : Int), vi (2 + (E : Int) : Int), vi 0, vi 0, vi 0, vi 0, vi 0, vi 0, vi 0, vi 0, vi 0] from rfl]; exact IMx⟩
  · rw [show newRm E S B Pn 2 = [vi 0, vi 0, vi 0, vi 2, vi (2 + (E : Int) : Int), vi 2, vi (2 + (E : Int) : Int), vi (2 + (E : Int) + (S : Int) : Int), vi (2 + (E : Int) : Int), vi 0, vi 0, vi 0, vi 0, vi 0, vi 0, vi 0, vi 0, vi 0] from rfl, show newAt E S B Pn 2 = (2 + (E : Int) + (S : Int) : Int) from rfl, show newI 2 = 2 from rfl]
    refine GOH ?_
    rw [show 2 + ((2 : Int) + 1).toNat * 3 = 11 from rfl]
    refine GOH ?_
    exact ⟨3, by omega, by omega, by exact SUx, by rw [show newRm E S B Pn 3 = [vi 0, vi 0, vi 0, vi 2, vi (2 + (E : Int) : Int), vi 2, vi (2 + (E : Int) : Int), vi (2 + (E : Int) + (S : Int) : Int), vi (2 + (E : Int) : Int), vi (2 + (E : Int) + (S : Int) : Int), vi (2 + (E : Int) + (S : Int) + (S : Int) : Int), vi (2 + (E : Int) + (S : Int) : Int), vi 0, vi 0, vi 0, vi 0, vi 0, vi 0] from rfl]; exact IMx⟩
  · rw [show newRm E S B Pn 3 = [vi 0, vi 0, vi 0, vi 2, vi (2 + (E : Int) : Int), vi 2, vi (2 + (E : Int) : Int), vi (2 + (E : Int) + (S : Int) : Int), vi (2 + (E : Int) : Int), vi (2 + (E : Int) + (S : Int) : Int), vi (2 + (E : Int) + (S : Int) + (S : Int) : Int), vi (2 + (E : Int) + (S : Int) : Int), vi 0, vi 0, vi 0, vi 0, vi 0, vi 0] from rfl, show newAt E S B Pn 3 = (2 + (E : Int) + (S : Int) + (S : Int) : Int) from rfl, show newI 3 = 3 from rfl]
    refine GOH ?_
    rw [show 2 + ((3 : Int) + 1).toNat * 3 = 14 from rfl]
    refine GOH ?_
    exact ⟨4, by omega, by omega, by exact SUx, by rw [show newRm E S B Pn 4 = [vi 0, vi 0, vi 0, vi 2, vi (2 + (E : Int) : Int), vi 2, vi (2 + (E : Int) : Int), vi (2 + (E : Int) + (S : Int) : Int), vi (2 + (E : Int) : Int), vi (2 + (E : Int) + (S : Int) : Int), vi (2 + (E : Int) + (S : Int) + (S : Int) : Int), vi (2 + (E : Int) + (S : Int) : Int), vi (2 + (E : Int) + (S : Int) + (S : Int) : Int), vi (2 + (E : Int) + (S : Int) + (S : Int) + ((B : Int) + (E : Int) + 2 * (S : Int)) : Int), vi (2 + (E : Int) + (S : Int) + (S : Int) : Int), vi 0, vi 0, vi 0] from rfl]; exact IMx⟩
  · rw [show newRm E S B Pn 4 = [vi 0, vi 0, vi 0, vi 2, vi (2 + (E : Int) : Int), vi 2, vi (2 + (E : Int) : Int), vi (2 + (E : Int) + (S : Int) : Int), vi (2 + (E : Int) : Int), vi (2 + (E : Int) + (S : Int) : Int), vi (2 + (E : Int) + (S : Int) + (S : Int) : Int), vi (2 + (E : Int) + (S : Int) : Int), vi (2 + (E : Int) + (S : Int) + (S : Int) : Int), vi (2 + (E : Int) + (S : Int) + (S : Int) + ((B : Int) + (E : Int) + 2 * (S : Int)) : Int), vi (2 + (E : Int) + (S : Int) + (S : Int) : Int), vi 0, vi 0, vi 0] from rfl, show newAt E S B Pn 4 = (2 + (E : Int) + (S : Int) + (S : Int) + ((B : Int) + (E : Int) + 2 * (S : Int)) : Int) from rfl, show newI 4 = 4 from rfl]
    refine GOH ?_
    rw [show 2 + ((4 : Int) + 1).toNat * 3 = 17 from rfl]
    refine GOH ?_
    exact ⟨5, by omega, by omega, by exact SUx, by rw [show newRm E S B Pn 5 = [vi 0, vi 0, vi 0, vi 2, vi (2 + (E : Int) : Int), vi 2, vi (2 + (E : Int) : Int), vi (2 + (E : Int) + (S : Int) : Int), vi (2 + (E : Int) : Int), vi (2 + (E : Int) + (S : Int) : Int), vi (2 + (E : Int) + (S : Int) + (S : Int) : Int), vi (2 + (E : Int) + (S : Int) : Int), vi (2 + (E : Int) + (S : Int) + (S : Int) : Int), vi (2 + (E : Int) + (S : Int) + (S : Int) + ((B : Int) + (E : Int) + 2 * (S : Int)) : Int), vi (2 + (E : Int) + (S : Int) + (S : Int) : Int), vi (2 + (E : Int) + (S : Int) + (S : Int) + ((B : Int) + (E : Int) + 2 * (S : Int)) : Int), vi (2 + (E : Int) + (S : Int) + (S : Int) + ((B : Int) + (E : Int) + 2 * (S : Int)) + (Pn : Int) : Int), vi (2 + (E : Int) + (S : Int) + (S : Int) + ((B : Int) + (E : Int) + 2 * (S : Int)) : Int)] from rfl]; exact IMx⟩
  · rw [show newRm E S B Pn 5 = [vi 0, vi 0, vi 0, vi 2, vi (2 + (E : Int) : Int), vi 2, vi (2 + (E : Int) : Int), vi (2 + (E : Int) + (S : Int) : Int), vi (2 + (E : Int) : Int), vi (2 + (E : Int) + (S : Int) : Int), vi (2 + (E : Int) + (S : Int) + (S : Int) : Int), vi (2 + (E : Int) + (S : Int) : Int), vi (2 + (E : Int) + (S : Int) + (S : Int) : Int), vi (2 + (E : Int) + (S : Int) + (S : Int) + ((B : Int) + (E : Int) + 2 * (S : Int)) : Int), vi (2 + (E : Int) + (S : Int) + (S : Int) : Int), vi (2 + (E : Int) + (S : Int) + (S : Int) + ((B : Int) + (E : Int) + 2 * (S : Int)) : Int), vi (2 + (E : Int) + (S : Int) + (S : Int) + ((B : Int) + (E : Int) + 2 * (S : Int)) + (Pn : Int) : Int), vi (2 + (E : Int) + (S : Int) + (S : Int) + ((B : Int) + (E : Int) + 2 * (S : Int)) : Int)] from rfl, show newAt E S B Pn 5 = (2 + (E : Int) + (S : Int) + (S : Int) + ((B : Int) + (E : Int) + 2 * (S : Int)) + (Pn : Int) : Int) from rfl, show newI 5 = 5 from rfl]
    refine GOH ?_
    have hN : newN E S B Pn < 4194304 := by unfold newN; omega
    have e5 : (2 + (E : Int) + (S : Int) + (S : Int) + ((B : Int) + (E : Int) + 2 * (S : Int)) + (Pn : Int)) = ((newN E S B Pn : Nat) : Int) := by unfold newN; omega
    rw [e5]
    generalize hNN : newN E S B Pn = N at *
    refine VC.seq_draws (α := Nat × Nat) (fun _ => [(4, ptr0 p)]) (fun s => [cellsAt p 0 [.slice (some ⟨s.1, 0, none⟩) N N, .slice (some ⟨s.2, 0, none⟩) (N / 64 + 1) (N / 64 + 1)], cellsAt p 4180 [Value.slice none 0 0, Value.slice none 0 0, Value.slice none 0 0, .map (some mb), Value.int .i64 0],
      cellsAt p 2 [vi 0, vi 0, vi 0, vi 2, vi (2 + (E : Int)), vi 2, vi (2 + (E : Int)), vi (2 + (E : Int) + (S : Int)), vi (2 + (E : Int)), vi (2 + (E : Int) + (S : Int)), vi (2 + (E : Int) + (S : Int) + (S : Int)), vi (2 + (E : Int) + (S : Int)), vi (2 + (E : Int) + (S : Int) + (S : Int)), vi (2 + (E : Int) + (S : Int) + (S : Int) + ((B : Int) + (E : Int) + 2 * (S : Int))),
        vi (2 + (E : Int) + (S : Int) + (S : Int)), vi (2 + (E : Int) + (S : Int) + (S : Int) + ((B : Int) + (E : Int) + 2 * (S : Int))), vi N, vi (2 + (E : Int) + (S : Int) + (S : Int) + ((B : Int) + (E : Int) + 2 * (S : Int)))], A20, A84, cellsAt s.1 0 ((List.replicate N 0).map uv), cellsAt s.2 0 ((List.replicate (N / 64 + 1) 0).map uv), [Atom.obj mb (Obj.map #[] 0)]]) (fun _ => True) ⟨?_, ?_, ?_, trivial⟩ (fun s _ => ?_)
    rotate_right
    · refine GOH ?_
      have key := new_ok (E := E) (S := S) (B := B) (P := Pn) s.1 s.2 mb (by rw [hNN]; exact hN)
      refine endQ_mk (.inr rfl) (.tmp (by rfl) (.tmp (by rfl) .nil)) ⟨p, _, ⟨rfl, key, rfl⟩, rfl⟩ (Imp.cut ?_ (ha_in p _))
      rw [new_mem, hNN, h20, h84]
      refine Imp.cut ?_ drop3
      exact IMx
    all_goals
      repeat' first
        | refine GOPH ?_
        | refine st_mkU N (by rfl) (by rfl) rfl (by omega) (fun b => ?_)
        | refine st_mkU (N / 64 + 1) (by rfl) (by rfl) (by omega) (by omega) (fun b => ?_)
      exact ⟨(_, _), trivial, by exact SUx, by exact IMx⟩
end Go.Proofs.YtmlnoodopoaafaaDoor

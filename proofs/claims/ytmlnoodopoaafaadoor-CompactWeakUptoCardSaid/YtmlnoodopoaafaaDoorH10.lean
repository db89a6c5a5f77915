/-
  The weak object is laid; its slots are laid.
-/
import Derived.Test.YtmlnoodopoaafaaDoorH9
import Derived.Test.YtmlnoodopoaafaaDoorV10
import Derived.Test.YtmlnoodopoaafaaDoorH6
set_option linter.unusedSimpArgs false
set_option linter.unusedVariables false
namespace Go.V
open Go Go.Proofs.YtmlnoodopoaafaaDoor
set_option maxRecDepth 100000
theorem PreA.start {a : AH} (h : a = { allocA (newH 2048 1024 4096 0) 4 (hdOf 4000 1 0) with sp := (List.replicate 64 0).set 0 32784 }) : PreA a 32784 [] [] := by
  have eo : a.obs = [⟨4098, hdOf 4000 1 0, []⟩] := by rw [h]; rfl
  refine ⟨⟨0, 0, rfl, by rw [h]; rfl⟩, by rw [h]; rfl, by rw [h]; rfl, by rw [h]; rfl, by rw [h]; rfl, by rw [h]; rfl, by rw [h]; rfl, ⟨⟨4098, hdOf 4000 1 0, []⟩, by rw [eo]; rfl, rfl, rfl, rfl⟩, fun i o hi => (by cases hi), fun b hb => ?_, fun b hb => ?_⟩
  · rw [eo] at hb
    rw [List.mem_singleton.1 hb]; exact .inl rfl
  · rw [eo] at hb
    rw [List.mem_singleton.1 hb]; rfl
theorem PreA.push {a : AH} {N : Nat} {xs st : List Nat} (h : PreA a N xs st) (o : Nat) : PreA { a with stack := a.stack ++ [o] } N xs (st ++ [o]) :=
  ⟨h.rm, h.sp, h.cl, by show a.stack ++ [o] = _; rw [h.stack], h.queue, h.ahead, h.noted, h.nb, h.xb, h.all, h.nt⟩
theorem PreA.young {a : AH} {N : Nat} {xs st : List Nat} (h : PreA a N xs st) : youngO a N = false := by
  obtain ⟨k1, k4, hk, hr⟩ := h.rm
  obtain ⟨b, hb, _, _, h4⟩ := h.nb
  have e : spaceO a N = 4 := by
    unfold spaceO
    rw [hb]
    simp only
    rw [h4, hr]; exact wk_space _ _
  unfold youngO
  rw [e]; rfl
theorem WeakA.upd {a a' : AH} {N W : Nat} {xs st ys ys' : List Nat} (h : WeakA a N W xs st ys) {bw : Ob} (hbw : getO a.obs W = some bw) {f : Ob → Ob} (hf : Keep f) (hF : (f bw).hd.fmt = bw.hd.fmt) (eo : a'.obs = updO bw.at_ f a.obs)
    (e1 : a'.rm = a.rm) (e2 : a'.sp = a.sp) (e3 : a'.cl = a.cl) (e4 : a'.stack = a.stack) (e5 : a'.queue = a.queue) (e6 : a'.ahead = a.ahead) (hone : ∀ c ∈ a.obs, c.at_ = bw.at_ → c = bw)
    (hb : (f bw).body = ys') (hlen : ys'.length = ys.length) (hyx : ∀ y ∈ ys', y = N ∨ y ∈ xs) (hn : a'.noted.length ≤ 100) : WeakA a' N W xs st ys' := by
  have hg : ∀ o, getO a'.obs o = (getO a.obs o).map fun b => if b.at_ = bw.at_ then f b else b := fun o => by rw [eo, getO_updO hf]
  have hWo := (getO_some hbw).2
  have hout : ∀ o b, getO a.obs o = some b → b.hd.fmt ≠ 2 → getO a'.obs o = some b := fun o b hb' h2 => by
    rw [hg, hb']
    show some (if b.at_ = bw.at_ then f b else b) = some b
    rw [if_neg]
    intro e
    have := hone b (getO_some hb').1 e
    obtain ⟨w, hw, w2, _⟩ := h.wb
    rw [hbw] at hw; cases hw
    rw [this] at h2; exact h2 w2
  refine ⟨by rw [e2]; exact h.sp, by rw [e3]; exact h.cl, by rw [e4]; exact h.stack, by rw [e5]; exact h.queue, by rw [e6]; exact h.ahead, hn, ?_, ?_, ?_, ?_, ?_, ?_, hyx⟩
  · obtain ⟨b, hb', h1, _⟩ := h.nb
    have := h.old
    unfold youngO spaceO at this ⊢
    rw [hout _ _ hb' (by omega), e1]
    rw [hb'] at this
    exact this
  · obtain ⟨b, hb', h1, h2⟩ := h.nb
    exact ⟨b, hout _ _ hb' (by omega), h1, h2⟩
  · obtain ⟨w, hw, w2, w3, w4⟩ := h.wb
    rw [hbw] at hw; cases hw
    refine ⟨f bw, ?_, by rw [hF]; exact w2, ?_, hb⟩
    · rw [hg, hbw]
      show some (if bw.at_ = bw.at_ then f bw else bw) = _
      rw [if_pos rfl]
    · rw [hf.slots, w3, hb, w4]; exact hlen.symm
  · intro i o hi
    obtain ⟨b, hb', h5, h6, h7⟩ := h.xb i o hi
    exact ⟨b, hout _ _ hb' (by omega), h5, h6, h7⟩
  · intro b hb'
    rw [eo] at hb'
    obtain ⟨c, hc, rfl⟩ := List.mem_map.1 hb'
    have : (if c.at_ = bw.at_ then f c else c).oop = c.oop := by
      split
      · unfold Ob.oop; rw [hf.at_]
      · rfl
    rw [this]; exact h.all c hc
  · intro b hb' hn'
    rw [eo] at hb'
    obtain ⟨c, hc, rfl⟩ := List.mem_map.1 hb'
    by_cases e : c.at_ = bw.at_
    · rw [if_pos e]
      unfold Ob.oop; rw [hf.at_, e]; exact hWo
    · rw [if_neg e] at hn' ⊢; exact h.nt c hc hn'
theorem WeakA.set {x y : HW} {N W : Nat} {xs st ys : List Nat} (hx : HOk x) (h : WeakA x.a N W xs st ys) {bw : Ob} (hbw : getO x.a.obs W = some bw) (i v : Nat) (hv : v ∈ xs) (hn : x.a.noted.length < 100) (e : y.a = setA x.a bw i v) :
    WeakA y.a N W xs st (ys.set i v) ∧ y.a.noted.length ≤ x.a.noted.length + 1 := by
  have hone : ∀ c ∈ x.a.obs, c.at_ = bw.at_ → c = bw := fun c hc e => sort_one hx.lay.sort hc (getO_some hbw).1 e
  obtain ⟨w, hw, w2, w3, w4⟩ := h.wb
  rw [hbw] at hw; cases hw
  have hyx : ∀ y ∈ ys.set i v, y = N ∨ y ∈ xs := fun y hy => by
    rcases List.mem_or_eq_of_mem_set hy with h' | rfl
    · exact h.yx y h'
    · exact .inr hv
  have h1 : WeakA (slotA x.a bw i v) N W xs st (ys.set i v) := h.upd hbw (keep_setB i v) rfl rfl rfl rfl rfl rfl rfl rfl hone (by show bw.body.set i v = _; rw [w4]) (by simp) hyx h.few
  have hgs : getO (slotA x.a bw i v).obs W = some (setB i v bw) := by
    show getO (updO bw.at_ (setB i v) x.a.obs) W = _
    rw [getO_updO (keep_setB i v), hbw]
    show some (if bw.at_ = bw.at_ then setB i v bw else bw) = _
    rw [if_pos rfl]
  have hone2 : ∀ c ∈ (slotA x.a bw i v).obs, c.at_ = (setB i v bw).at_ → c = setB i v bw := fun c hc e => by
    obtain ⟨d, hd, rfl⟩ := List.mem_map.1 hc
    have e2 : (if d.at_ = bw.at_ then setB i v d else d).at_ = d.at_ := by split <;> rfl
    rw [e2] at e
    rw [hone d hd e]
    rw [if_pos rfl]
  rw [e]
  unfold setA
  split
  · unfold noteA
    split
    · exact ⟨h1, by show x.a.noted.length ≤ _; omega⟩
    · refine ⟨h1.upd hgs (keep_setH (g := setNoted) (fun _ => rfl)) rfl rfl rfl rfl rfl rfl rfl rfl hone2 (by show bw.body.set i v = _; rw [w4]) rfl hyx ?_, ?_⟩
      · show (x.a.noted ++ [8 * bw.at_]).length ≤ 100
        rw [List.length_append, List.length_singleton]; omega
      · show (x.a.noted ++ [8 * bw.at_]).length ≤ _
        rw [List.length_append, List.length_singleton]; omega
  · exact ⟨h1, by show x.a.noted.length ≤ _; omega⟩
theorem PreA.weak {x y : HW} {N : Nat} {xs st : List Nat} (hy : HOk y) (h : PreA x.a N xs st) (m : Nat) (e : y.a = allocA x.a 4 (hdOf 4001 2 m)) :
    WeakA { y.a with sp := y.a.sp.set 1 (8 * (roomA x.a 4).2.2) } N (8 * (roomA x.a 4).2.2) xs st (List.replicate m N) ∧ y.a.noted = [] := by
  obtain ⟨t, ht⟩ : ∃ t, t = (roomA x.a 4).2.2 := ⟨_, rfl⟩
  have e2 : y.a = filledA (Go.Proofs.YtmlnoodopoaafaaDoor.laidA x.a 4 (hdOf 4001 2 m)) t m := by
    rw [e, ht]; unfold allocA
    rw [if_pos (show (hdOf 4001 2 m).fmt ≤ 3 from (by decide : (2 : Nat) ≤ 3))]; rfl
  rw [← ht]
  have eo : y.a.obs = updO t (fillB m N) (insO (newO t (hdOf 4001 2 m)) x.a.obs) := by
    rw [e2]; unfold filledA
    rw [show (Go.Proofs.YtmlnoodopoaafaaDoor.laidA x.a 4 (hdOf 4001 2 m)).sp = x.a.sp from rfl, h.sp, ht]; rfl
  have hs : (insO (newO t (hdOf 4001 2 m)) x.a.obs).Pairwise fun a b => a.stop ≤ b.at_ := by
    have h1 := hy.lay.sort
    rw [eo] at h1
    unfold updO at h1
    rw [List.pairwise_map] at h1
    refine h1.imp (fun {a b} h2 => ?_)
    have k1 : (if a.at_ = t then fillB m N a else a).stop = a.stop := by split <;> rfl
    have k2 : (if b.at_ = t then fillB m N b else b).at_ = b.at_ := by split <;> rfl
    rw [k1, k2] at h2; exact h2
  have hnew := insW_new hs
  have hget : ∀ o, getO y.a.obs o = (if o = 8 * t then some (newO t (hdOf 4001 2 m)) else getO x.a.obs o).map fun b => if b.at_ = t then fillB m N b else b := fun o => by
    rw [eo, getO_updO (keep_fillB m N), getW_ins hs]; rfl
  have hold : ∀ o b, getO x.a.obs o = some b → getO y.a.obs o = some b := fun o b hb => by
    have h1 : b.at_ ≠ t := hnew b (getO_some hb).1
    have h2 := (getO_some hb).2
    rw [hget, if_neg (by rintro rfl; unfold Ob.oop at h2; exact h1 (by omega)), hb]
    show some (if b.at_ = t then fillB m N b else b) = some b
    rw [if_neg h1]
  have hsp : y.a.sp = x.a.sp := by rw [e2]; rfl
  have hnt : y.a.noted = [] := by rw [e2]; exact h.noted
  refine ⟨⟨?_, ?_, ?_, ?_, ?_, ?_, ?_, ?_, ?_, ?_, ?_, ?_, ?_⟩, hnt⟩
  · show y.a.sp.set 1 _ = _
    rw [hsp, h.sp]; rfl
  · show y.a.cl = _
    rw [e2]; exact h.cl
  · show y.a.stack = _
    rw [e2]; exact h.stack
  · show y.a.queue = _
    rw [e2]; exact h.queue
  · show y.a.ahead = _
    rw [e2]; exact h.ahead
  · show y.a.noted.length ≤ 100
    rw [hnt]; decide
  · obtain ⟨b, hb, _, _, h4⟩ := h.nb
    obtain ⟨k1, k4, hk, hr⟩ := h.rm
    obtain ⟨r1, r4⟩ := wk_room (2 + 2 * k1) (4100 + 2 * k4)
    have er : y.a.rm = wkR (2 + 2 * k1) (4100 + 2 * k4 + (2 + m)) := by
      rw [e2]
      show x.a.rm.set 4 ((roomA x.a 4).1, (roomA x.a 4).2.1, (roomA x.a 4).2.2 + (2 + m)) = _
      unfold roomA
      rw [hr, r4]; rfl
    have e4 : spaceO { y.a with sp := y.a.sp.set 1 (8 * t) } N = 4 := by
      unfold spaceO
      rw [show ({ y.a with sp := y.a.sp.set 1 (8 * t) } : AH).obs = y.a.obs from rfl, hold _ _ hb]
      simp only
      rw [h4, er]; exact wk_space _ _
    unfold youngO
    rw [e4]; rfl
  · obtain ⟨b, hb, h1, h2, _⟩ := h.nb
    exact ⟨b, hold _ _ hb, h1, h2⟩
  · refine ⟨fillB m N (newO t (hdOf 4001 2 m)), ?_, rfl, ?_, ?_⟩
    · show getO y.a.obs (8 * t) = _
      rw [hget, if_pos rfl]
      show some (if t = t then _ else _) = _
      rw [if_pos rfl]
    · show m = (List.replicate m N ++ (List.replicate m 0).drop m).length
      simp
    · show List.replicate m N ++ (List.replicate m 0).drop m = _
      simp
  · intro i o hi
    obtain ⟨b, hb, r⟩ := h.xb i o hi
    exact ⟨b, hold _ _ hb, r⟩
  · intro b hb
    have hb : b ∈ y.a.obs := hb
    rw [eo] at hb
    obtain ⟨c, hc, rfl⟩ := List.mem_map.1 hb
    have : (if c.at_ = t then fillB m N c else c).oop = c.oop := by split <;> rfl
    rw [this]
    rcases mem_insO.1 hc with rfl | hc
    · exact .inr (.inl rfl)
    · exact (h.all c hc).imp id .inr
  · intro b hb hn
    have hb : b ∈ y.a.obs := hb
    rw [eo] at hb
    obtain ⟨c, hc, rfl⟩ := List.mem_map.1 hb
    have e3 : (if c.at_ = t then fillB m N c else c).hd = c.hd := by split <;> rfl
    rw [e3] at hn
    rcases mem_insO.1 hc with rfl | hc
    · cases hn
    · rw [h.nt c hc] at hn; cases hn
  · exact fun y hy => .inl (List.mem_replicate.1 hy).2
theorem PreA.weakRoom {a : AH} {N : Nat} {xs st : List Nat} (h : PreA a N xs st) (hl : xs.length ≤ 100) {m : Nat} (hm : m ≤ 100) : ¬ fullA a 4 (hdOf 4001 2 m) := by
  obtain ⟨k1, k4, hk, hr⟩ := h.rm
  obtain ⟨r1, r4⟩ := wk_room (2 + 2 * k1) (4100 + 2 * k4)
  unfold fullA roomA
  rw [hr, r4, show (hdOf 4001 2 m).slots = m from rfl]
  simp only; omega
def RdT (A : List Atom) (v : Value) (xs : List Bool) : Prop := ∃ a c, v = .slice a xs.length c ∧ ∀ (i : Nat) k, xs[i]? = some k → ∃ b o, a = some ⟨b, o, none⟩ ∧ Atom.cell b (o + i) (.bool k) ∈ A
def RdJ (A : List Atom) (v : Value) (xs : List Int) : Prop := ∃ a c, v = .slice a xs.length c ∧ ∀ (i : Nat) k, xs[i]? = some k → ∃ b o, a = some ⟨b, o, none⟩ ∧ Atom.cell b (o + i) (.int .i64 k) ∈ A
def heldL (hs : List Bool) (xs : List Nat) : List Nat := (xs.zipIdx.filter fun q => hs.getD q.2 false).map (·.1)
theorem heldL_add (hs : List Bool) (xs : List Nat) (o : Nat) : heldL hs (xs ++ [o]) = heldL hs xs ++ (if hs.getD xs.length false = true then [o] else []) := by
  unfold heldL
  rw [List.zipIdx_append, List.filter_append, List.map_append]
  congr 1
  simp only [List.zipIdx_cons, List.zipIdx_nil, Nat.zero_add, List.filter_cons, List.filter_nil]
  split <;> rfl
theorem heldL_len (hs : List Bool) (xs : List Nat) : (heldL hs xs).length ≤ xs.length := by
  unfold heldL
  rw [List.length_map]
  exact Nat.le_trans (List.length_filter_le _ _) (by simp)
theorem mem_heldL {hs : List Bool} {xs : List Nat} {o : Nat} : o ∈ heldL hs xs ↔ ∃ k, xs[k]? = some o ∧ hs.getD k false = true := by
  unfold heldL
  rw [List.mem_map]
  constructor
  · rintro ⟨⟨a, k⟩, h, rfl⟩
    obtain ⟨h1, h2⟩ := List.mem_filter.1 h
    exact ⟨k, List.mem_zipIdx_iff_getElem?.1 h1, h2⟩
  · rintro ⟨k, h1, h2⟩
    exact ⟨(o, k), List.mem_filter.2 ⟨List.mem_zipIdx_iff_getElem?.2 h1, h2⟩, rfl⟩
theorem WeakA.one {a : AH} {N W : Nat} {xs st ys : List Nat} (h : WeakA a N W xs st ys) {i j o : Nat} (hi : xs[i]? = some o) (hj : xs[j]? = some o) : i = j := by
  obtain ⟨b, hb, _, h1, _⟩ := h.xb i o hi
  obtain ⟨c, hc, _, h2, _⟩ := h.xb j o hj
  rw [hb] at hc; cases hc; omega
theorem WeakA.held {a : AH} {N W : Nat} {xs ys : List Nat} {hs : List Bool} (h : WeakA a N W xs (heldL hs xs) ys) {k o : Nat} (hk : xs[k]? = some o) : o ∈ heldL hs xs ↔ hs.getD k false = true := by
  rw [mem_heldL]
  constructor
  · rintro ⟨j, h1, h2⟩
    rw [h.one hk h1]; exact h2
  · exact fun h2 => ⟨k, hk, h2⟩
def toW (n : Nat) (a : Int) : Nat := (a.tmod n).natAbs
theorem toW_lt (a : Int) {n : Nat} (hn : 0 < n) : toW n a < n := by
  have h1 := Int.tmod_lt_of_pos a (b := (n : Int)) (by omega)
  have h2 := Int.tmod_lt_of_pos (-a) (b := (n : Int)) (by omega)
  rw [Int.neg_tmod] at h2
  unfold toW; omega
def ysL (N m n : Nat) (xs : List Nat) (ns : List Int) (i : Nat) : List Nat := (List.range m).map fun k => if k < i ∧ 0 < n then xs.getD (toW n (ns.getD k 0)) 0 else N
theorem ysL_zero (N m n : Nat) (xs : List Nat) (ns : List Int) : ysL N m n xs ns 0 = List.replicate m N := by
  unfold ysL
  rw [List.map_congr_left (g := fun _ => N) (fun k _ => by rw [if_neg (by omega)]), List.map_const', List.length_range]
theorem ysL_step {N m n : Nat} (xs : List Nat) (ns : List Int) {i : Nat} (hi : i < m) (hn : 0 < n) : ysL N m n xs ns (i + 1) = (ysL N m n xs ns i).set i (xs.getD (toW n (ns.getD i 0)) 0) := by
  apply List.ext_getElem?
  intro k
  unfold ysL
  rw [List.getElem?_set]
  simp only [List.getElem?_map, List.length_map, List.length_range]
  by_cases hk : k < m
  · rw [List.getElem?_range hk]
    simp only [Option.map_some]
    by_cases e : i = k
    · subst e
      rw [if_pos rfl, if_pos hk, if_pos ⟨by omega, hn⟩]
    · rw [if_neg e]
      by_cases h2 : k < i
      · rw [if_pos ⟨by omega, hn⟩, if_pos ⟨h2, hn⟩]
      · rw [if_neg (by omega), if_neg (by omega)]
  · rw [List.getElem?_eq_none (by simpa using hk), if_neg (by omega)]; rfl
theorem ysL_at {N m n : Nat} (xs : List Nat) (ns : List Int) {i k : Nat} (hk : k < m) (hi : k < i) (hn : 0 < n) : (ysL N m n xs ns i)[k]? = some (xs.getD (toW n (ns.getD k 0)) 0) := by
  unfold ysL
  rw [List.getElem?_map, List.getElem?_range hk, Option.map_some, if_pos ⟨hi, hn⟩]
theorem ysL_len (N m n : Nat) (xs : List Nat) (ns : List Int) (i : Nat) : (ysL N m n xs ns i).length = m := by simp [ysL]
section
variable {P : Program} {n : Nat} {rs : List RO} {Γ : Env} {H : SH} {Z : List PanicEntry → Env → SH → Prop} {K : Env → SH → Prop} {d : Option Nat}
theorem st_remW {x y : Operand} {a b : Int} (hx : ev Γ x = some (.int .i64 a)) (hy : ev Γ y = some (.int .i64 b)) (hb : b ≠ 0) (h : VO P n rs (putE d (.int .i64 (a.tmod b)) Γ) H Z K) : VO P n (⟨d, none, .bin .rem x y⟩ :: rs) Γ H Z K :=
  st_bin hx hy (by simp only [binV, intV]; rw [if_pos ⟨trivial, hb⟩]) h
end
end Go.V
namespace Go.Proofs.YtmlnoodopoaafaaDoor
open Go Go.V
set_option maxHeartbeats 6400000
set_option maxRecDepth 100000
def spW (x : HW) (i v : Nat) : HW := { x with a := { x.a with sp := x.a.sp.set i v } }
theorem spW_ok {x : HW} (hx : HOk x) (i : Nat) {v : Nat} (hv : v < 18446744073709551616) : HOk (spW x i v) := by
  refine ⟨hx.lay, ⟨hx.rm.len, hx.rm.zero, hx.rm.rng, hx.rm.low, hx.rm.apart, hx.rm.inn⟩, by show (x.a.sp.set i v).length = 64; rw [List.length_set]; exact hx.spl, hx.cll, fun o ho => ?_, hx.cls, hx.stks, hx.ques, hx.nots, hx.stk, hx.que, hx.note, hx.map, hx.given, hx.deep, hx.few⟩
  rcases List.mem_or_eq_of_mem_set ho with h | rfl
  · exact hx.sps o h
  · exact hv
theorem setSpecial_spec (p : Nat) (x : HW) (hx : HOk x) (i v : Nat) (hi : i < 64) (hv : v < 18446744073709551616) (hm : mayO x.a v = true) :
    Fun Tryd.prog 20 [ptr0 p, vi i, uv v] [HA p x] (fun r Post => (r = vi 0 ∧ HOk (spW x i v)) ∧ Post = [HA p (spW x i v)]) := by
  have hM := hmay_spec p x hx v hv
  rw [hm] at hM
  have hl := hx.spl
  have hset : Fun Tryd.prog 54 [ptr0 p, .slice (some ⟨p, 20, none⟩) 64 64, vi i, uv v] [HA p x] (fun r Post => r = vi 0 ∧ Post = [HA p (spW x i v)]) := by
    refine Fun.intro low54 (by simp [n54]) ?_
    refine GOH ?_
    rw [show decide (((64 : Nat) : Int) ≤ (i : Int)) = false from decide_eq_false (by omega)]
    refine GOH ?_
    refine st_callS hM (by rfl) (by exact TKx) ?_
    refine GOH ?_
    refine VO.imp (ha_out p x) ?_
    simp only [HMem]
    refine st_storeU (o := 20) (i := i) (m := v) (by rfl) (by rfl) (by exact TKx) (by omega) (by omega) ?_
    refine GOH ?_
    refine endQ_mk (.inr rfl) (.tmp (by rfl) .nil) ⟨rfl, rfl⟩ (Imp.cut ?_ (ha_in p _))
    simp only [HMem, spW]
    exact IMx
  refine Fun.intro low20 (by simp [n20]) ?_
  refine GOH ?_
  refine st_call hset (by rfl) (by exact SPx) (fun r Post hr => ?_)
  obtain ⟨rfl, rfl⟩ := hr
  simp only [CNx]
  refine GOH ?_
  exact endQ_mk (.inr rfl) (.tmp (by rfl) .nil) ⟨⟨rfl, spW_ok hx i hv⟩, rfl⟩ (by exact IMx)
theorem sound_spec (p : Nat) (x : HW) (hx : HOk x) (o : Nat) (ho : o < 18446744073709551616) : Fun Tryd.prog 84 [ptr0 p, uv o] [HA p x] (fun v Post => v = .bool (mayO x.a o) ∧ Post = [HA p x]) := by
  have hi := is_spec p x hx o ho
  refine Fun.intro low84 (by simp [n84]) ?_
  unfold mayO
  have ht : tagO o ≤ 4 := by unfold tagO; repeat' split
                             all_goals omega
  refine GOH ?_
  refine st_callP (tag_spec o ho) (by rfl) ?_
  by_cases h : tagO o ≤ 2
  · rw [decide_eq_true h, Bool.true_or]
    have h3 : tagO o = 0 ∨ tagO o = 1 ∨ tagO o = 2 := by omega
    rcases h3 with e | e | e
    all_goals
      rw [e]
      refine GOH ?_
      exact endQ_mk (.inr rfl) (.tmp (by rfl) .nil) ⟨rfl, rfl⟩ (by exact IMx)
  · rw [decide_eq_false h, Bool.false_or]
    have h3 : tagO o = 3 ∨ tagO o = 4 := by omega
    rcases h3 with e | e
    all_goals
      rw [e]
      refine GOH ?_
      refine st_callS hi (by rfl) .here ?_
      refine GOH ?_
      exact endQ_mk (.inr rfl) (.tmp (by rfl) .nil) ⟨rfl, rfl⟩ (by exact IMx)
structure SoundB (a : AH) (sp : Nat) (b : Ob) : Prop where
  unm : b.hd.marked = false
  may : ∀ v ∈ b.body.take b.many, mayO a v = true
  ny : 4 ≤ sp → b.hd.noted = false → ∀ v ∈ b.body.take b.many, youngO a v = false
theorem object_spec' (p : Nat) (x : HW) (hx : HOk x) (sp o : Nat) (hsp : sp ≤ 5) (b : Ob) (hb : getO x.a.obs o = some b) (hs : SoundB x.a sp b) :
    Fun Tryd.prog 86 [ptr0 p, cv sp, uv o] [HA p x] (fun v Post => v = vi 0 ∧ Post = [HA p x]) := by
  have ho := hx.oop_lt hb
  have hbm := (hx.word hb).2
  have hbo := hx.lay.ok b hbm
  have hmm := hbo.many
  have hsl := hbo.may.slots
  have hh := headV_spec p x hx o b hb ho
  have hop := oops_spec p x hx o b hb ho
  simp only [hdEnc] at hh
  rw [hs.unm] at hh
  refine Fun.intro low86 (by simp [n86]) ?_
  refine GOH ?_
  refine st_callS hh (by rfl) (by exact TKx) ?_
  refine GOH ?_
  refine st_alloc (fun k => ?_)
  refine GOH ?_
  refine st_callS hop (by rfl) (by exact TKx) ?_
  refine GOH ?_
  generalize hK : cellsAt k 0 _ = K
  refine VC.loop (α := Nat) (Γf := fun i => [(0, ptr0 p), (1, cv sp), (2, uv o), (7, ptr0 k), (11, .bool (((b.body.take b.many).take i).any (youngO x.a))), (28, vi b.many), (29, vi i)]) (Hf := fun _ => [K, HA p x])
    (I := fun i => i ≤ b.many) (μ := fun i => b.many - i) 0 (Nat.zero_le _) (by exact SUx) (by exact IMx) ?_
  intro i hi
  refine GOH ?_
  by_cases hlt : i < b.many
  rotate_left
  · rw [show decide ((i : Int) < (b.many : Int)) = false from decide_eq_false (by omega)]
    have hall : ((b.body.take b.many).take i) = b.body.take b.many := List.take_of_length_le (by rw [List.length_take]; omega)
    rw [hall]
    subst hK
    have hcase : (b.body.take b.many).any (youngO x.a) = false ∨ ¬ 4 ≤ sp ∨ b.hd.noted = true := by
      by_cases h4 : 4 ≤ sp
      · cases hn : b.hd.noted with
        | true => exact .inr (.inr rfl)
        | false =>
          refine .inl ?_
          rw [List.any_eq_false]
          intro v hv
          rw [hs.ny h4 hn v hv]; simp
      · exact .inr (.inl h4)
    cases hF : (b.body.take b.many).any (youngO x.a) with
    | false =>
      refine GOH ?_
      exact endQ_mk (.inr rfl) (.tmp (by rfl) .nil) ⟨rfl, rfl⟩ (by exact IMx)
    | true =>
      rw [hF] at hcase
      refine GOH ?_
      by_cases h4 : 4 ≤ sp
      · rw [show decide ((4 : Int) ≤ (sp : Int)) = true from decide_eq_true (by omega)]
        have hn : b.hd.noted = true := by
          rcases hcase with h | h | h
          · cases h
          · exact absurd h4 h
          · exact h
        rw [hn]
        refine GOH ?_
        exact endQ_mk (.inr rfl) (.tmp (by rfl) .nil) ⟨rfl, rfl⟩ (by exact IMx)
      · rw [show decide ((4 : Int) ≤ (sp : Int)) = false from decide_eq_false (by omega)]
        refine GOH ?_
        exact endQ_mk (.inr rfl) (.tmp (by rfl) .nil) ⟨rfl, rfl⟩ (by exact IMx)
  rw [show decide ((i : Int) < (b.many : Int)) = true from decide_eq_true (by omega)]
  obtain ⟨u, hu⟩ : ∃ u, b.body[i]? = some u := ⟨_, List.getElem?_eq_getElem (by rw [hbo.len]; omega)⟩
  have hul := hbo.small u (List.mem_of_getElem? hu)
  have hut : (b.body.take b.many)[i]? = some u := by rw [List.getElem?_take_of_lt hlt]; exact hu
  have hsV := slotV_spec p x hx o b hb ho i u hlt hu
  have hso := sound_spec p x hx u hul
  rw [hs.may u (List.mem_of_getElem? hut)] at hso
  have hspc := space_spec p x hx u hul
  have hst : ((b.body.take b.many).take (i + 1)).any (youngO x.a) = (((b.body.take b.many).take i).any (youngO x.a) || youngO x.a u) := by
    rw [List.take_add_one, hut, List.any_append]; simp
  refine GOH ?_
  refine st_callS hsV (by rfl) (by exact TKx) ?_
  refine GOH ?_
  refine st_callS hso (by rfl) (by exact TKx) ?_
  refine GOH ?_
  refine st_callS hspc (by rfl) (by exact TKx) ?_
  refine GOH ?_
  have hyo : youngO x.a u = decide (1 ≤ spaceO x.a u ∧ spaceO x.a u ≤ 3) := rfl
  generalize hA : ((b.body.take b.many).take i).any (youngO x.a) = A at hst ⊢
  cases A with
  | true =>
    refine GOH ?_
    exact ⟨i + 1, by omega, by omega, by rw [hst, Bool.true_or]; exact SUx, by exact IMx⟩
  | false =>
    rw [Bool.false_or] at hst
    by_cases c1 : 1 ≤ spaceO x.a u
    · by_cases c2 : spaceO x.a u ≤ 3
      · rw [hyo, decide_eq_true ⟨c1, c2⟩] at hst
        refine GOH ?_
        rw [show decide ((1 : Int) ≤ (spaceO x.a u : Int)) = true from decide_eq_true (by omega)]
        refine GOH ?_
        rw [show decide ((spaceO x.a u : Int) ≤ 3) = true from decide_eq_true (by omega)]
        refine GOH ?_
        exact ⟨i + 1, by omega, by omega, by rw [hst]; exact SUx, by exact IMx⟩
      · rw [hyo, decide_eq_false (fun h => c2 h.2)] at hst
        refine GOH ?_
        rw [show decide ((1 : Int) ≤ (spaceO x.a u : Int)) = true from decide_eq_true (by omega)]
        refine GOH ?_
        rw [show decide ((spaceO x.a u : Int) ≤ 3) = false from decide_eq_false (by omega)]
        refine GOH ?_
        exact ⟨i + 1, by omega, by omega, by rw [hst]; exact SUx, by exact IMx⟩
    · rw [hyo, decide_eq_false (fun h => c1 h.1)] at hst
      refine GOH ?_
      rw [show decide ((1 : Int) ≤ (spaceO x.a u : Int)) = false from decide_eq_false (by omega)]
      refine GOH ?_
      exact ⟨i + 1, by omega, by omega, by rw [hst]; exact SUx, by exact IMx⟩
end Go.Proofs.YtmlnoodopoaafaaDoor
namespace Go.V
open Go
theorem mem_eachP {a : AH} {t w : Nat} (h : (t, w) ∈ eachP a) : w ∈ roomL a t := by
  have key : ∀ k, (t, w) ∈ roomP a k → w ∈ roomL a t := fun k hk => by
    obtain ⟨u, hu, e⟩ := List.mem_map.1 hk
    cases e; exact hu
  have h2 : (t, w) ∈ roomP a 1 ++ (roomP a 2 ++ (roomP a 3 ++ (roomP a 4 ++ roomP a 5))) := h
  simp only [List.mem_append] at h2
  rcases h2 with h | h | h | h | h <;> exact key _ h
theorem eachP_le {a : AH} {t w : Nat} (h : (t, w) ∈ eachP a) : t ≤ 5 := by
  have key : ∀ k, k ≤ 5 → (t, w) ∈ roomP a k → t ≤ 5 := fun k h5 hk => by
    obtain ⟨u, hu, e⟩ := List.mem_map.1 hk
    cases e; exact h5
  have h2 : (t, w) ∈ roomP a 1 ++ (roomP a 2 ++ (roomP a 3 ++ (roomP a 4 ++ roomP a 5))) := h
  simp only [List.mem_append] at h2
  rcases h2 with h | h | h | h | h <;> exact key _ (by omega) h
end Go.V
namespace Go.Proofs.YtmlnoodopoaafaaDoor
open Go Go.V
set_option maxHeartbeats 6400000
set_option maxRecDepth 100000
structure SoundA (a : AH) : Prop where
  roots : ∀ o ∈ rootsA a, mayO a o = true
  obs : ∀ t w b, w ∈ roomL a t → getO a.obs (8 * w) = some b → SoundB a t b
theorem chk1_spec (p k1 k2 k3 : Nat) (x : HW) (hx : HOk x) (sp o : Nat) (hsp : sp ≤ 5) (b : Ob) (hb : getO x.a.obs o = some b) (hs : SoundB x.a sp b) :
    FunV Tryd.prog (.func (.func 85) #[] #[ptr0 k1, ptr0 k2, ptr0 k3]) [cv sp, uv o] [cellsAt k1 0 [ptr0 p], cellsAt k2 0 [vi 0], cellsAt k3 0 [uv 0], HA p x, TZ] (fun v Post => v = .bool true ∧ Post = [cellsAt k1 0 [ptr0 p], cellsAt k2 0 [vi 0], cellsAt k3 0 [uv 0], HA p x, TZ]) := by
  refine FunV.of_fun ?_
  simp only [List.nil_append, List.cons_append]
  refine Fun.intro low85 (by simp [n85]) ?_
  refine GOH ?_
  refine st_callS (object_spec' p x hx sp o hsp b hb hs) (by rfl) (by exact TKx) ?_
  refine GOH ?_
  exact endQ_mk (.inr rfl) (.tmp (by rfl) .nil) ⟨rfl, rfl⟩ (by exact IMx)
theorem check_spec (p : Nat) (x : HW) (hx : HOk x) (hs : SoundA x.a) :
    Fun Tryd.prog 53 [ptr0 p] [HA p x, TZ] (fun v Post => v = .tuple #[vi 0, uv 0] ∧ Post = [HA p x, TZ]) := by
  have key : ∀ k1 k2 k3, Fun Tryd.prog 55 [ptr0 p, .func (.func 85) #[] #[ptr0 k1, ptr0 k2, ptr0 k3]] [cellsAt k1 0 [ptr0 p], cellsAt k2 0 [vi 0], cellsAt k3 0 [uv 0], HA p x, TZ]
      (fun v Post => v = .tuple #[] ∧ Post = [cellsAt k1 0 [ptr0 p], cellsAt k2 0 [vi 0], cellsAt k3 0 [uv 0], HA p x, TZ]) := by
    intro k1 k2 k3
    have ke := each_spec p x hx (.func (.func 85) #[] #[ptr0 k1, ptr0 k2, ptr0 k3]) (by simp [Value.cells]) rfl
      (fun c A => A = [cellsAt k1 0 [ptr0 p], cellsAt k2 0 [vi 0], cellsAt k3 0 [uv 0], HA p x, TZ].flatten) (fun _ _ => False) ?_ ?_ ([cellsAt k1 0 [ptr0 p], cellsAt k2 0 [vi 0], cellsAt k3 0 [uv 0], HA p x, TZ].flatten) rfl
    · refine ke.conv (R := []) (by simp [Spl]) ?_
      rintro v Post ⟨rfl, ⟨A', rfl, rfl⟩ | ⟨c, B', _, hB, _⟩⟩
      · exact ⟨_, ⟨rfl, rfl⟩, Imp.perm (by simp)⟩
      · exact hB.elim
    · rintro c A rfl
      refine ⟨x, cellsAt k1 0 [ptr0 p] ++ (cellsAt k2 0 [vi 0] ++ cellsAt k3 0 [uv 0]), ?_, hx, rfl, rfl⟩
      simp only [List.flatten_cons, List.flatten_nil, List.append_nil]
      generalize HA p x = X
      generalize TZ = T
      have e : ∀ a b c : List Atom, (a ++ (b ++ (c ++ (X ++ T)))).Perm (X ++ (T ++ (a ++ (b ++ c)))) := fun a b c => by
        have h1 : a ++ (b ++ (c ++ (X ++ T))) = (a ++ (b ++ c)) ++ (X ++ T) := by simp [List.append_assoc]
        have h2 : X ++ (T ++ (a ++ (b ++ c))) = (X ++ T) ++ (a ++ (b ++ c)) := by simp [List.append_assoc]
        rw [h1, h2]; exact List.perm_append_comm
      exact e _ _ _
    · rintro c ⟨sp, w⟩ A hok rfl
      obtain ⟨b, hb, hbw, hnw⟩ := okE hx hok
      have hmem : (sp, w) ∈ eachP x.a := by
        obtain ⟨r, hr⟩ := hok
        rw [← hr]; simp
      have hr := chk1_spec p k1 k2 k3 x hx sp (8 * w) (eachP_le hmem) b hb (hs.obs sp w b (mem_eachP hmem) hb)
      refine hr.conv (R := []) (by simp [Spl]) ?_
      rintro v Post ⟨rfl, rfl⟩
      exact ⟨_, .inl ⟨rfl, _, rfl, rfl⟩, Imp.perm (by simp)⟩
  refine Fun.intro low53 (by simp [n53]) ?_
  refine VC.seq_reg ?_
  refine st_box (by rfl) (fun k1 => ?_)
  refine st_alloc (fun k2 => ?_)
  refine st_alloc (fun k3 => ?_)
  simp only [Value.cells]
  refine GOH ?_
  refine st_call (roots_spec p x) (by rfl) Spl.nil (fun v Post hv => ?_)
  obtain ⟨q2, rfl, rfl⟩ := hv
  simp only [CNx]
  refine GOH ?_
  refine VC.rangefA (fun c A => A = [cellsAt k1 0 [ptr0 p], cellsAt k2 0 [vi 0], cellsAt k3 0 [uv 0], HA p x, TZ].flatten) ([cellsAt k1 0 [ptr0 p], cellsAt k2 0 [vi 0], cellsAt k3 0 [uv 0], HA p x, TZ].flatten) (by rfl) (roots_iter p q2 x hx) (fun A B h => h.more) ?_
    (R := [cellsAt k3 0 [.int .u64 0], cellsAt k2 0 [.int .i64 0], cellsAt k1 0 [ptr0 p], HA p x, TZ]) (by exact SPx) ?_ rfl (fun _ => rfl) ?_ ?_
  · rintro c A rfl
    refine ⟨x, cellsAt k1 0 [ptr0 p] ++ (cellsAt k2 0 [vi 0] ++ (cellsAt k3 0 [uv 0] ++ TZ)), ?_, hx, rfl, rfl, rfl, rfl, rfl, rfl⟩
    simp only [List.flatten_cons, List.flatten_nil, List.append_nil]
    generalize HA p x = X
    generalize TZ = T
    have e : ∀ a b c : List Atom, (a ++ (b ++ (c ++ (X ++ T)))).Perm (X ++ (a ++ (b ++ (c ++ T)))) := fun a b c => by
      have h1 : a ++ (b ++ (c ++ (X ++ T))) = (a ++ (b ++ c)) ++ (X ++ T) := by simp [List.append_assoc]
      have h2 : X ++ (a ++ (b ++ (c ++ T))) = X ++ ((a ++ (b ++ c)) ++ T) := by simp [List.append_assoc]
      rw [h1, h2]; exact perm_lead _ _ _
    exact e _ _ _
  · refine Imp.cut (M := [cellsAt k1 0 [ptr0 p], cellsAt k2 0 [.int .i64 0], cellsAt k3 0 [.int .u64 0], HA p x, TZ]) (by exact IMx) ?_
    show Imp [cellsAt k1 0 [ptr0 p], cellsAt k2 0 [vi 0], cellsAt k3 0 [uv 0], HA p x, TZ] _
    exact Imp.perm (by simp)
  · rintro c o A hok rfl
    have hor : o ∈ rootsA x.a := by
      obtain ⟨t, ht⟩ := hok
      rw [← ht]; simp
    have hso := sound_spec p x hx o (hx.roots hor)
    rw [hs.roots o hor] at hso
    simp only [bindE]
    refine VC.imp (H' := [cellsAt k1 0 [ptr0 p], cellsAt k2 0 [vi 0], cellsAt k3 0 [uv 0], HA p x, TZ]) (Imp.perm (by simp)) ?_
    refine VC.reg ?_
    refine GOH ?_
    refine ⟨trivial, ?_⟩
    refine GOH ?_
    refine st_callS hso (by rfl) (by exact TKx) ?_
    refine GOH ?_
    exact ⟨_, rfl, Imp.cut (M := [cellsAt k1 0 [ptr0 p], cellsAt k2 0 [vi 0], cellsAt k3 0 [uv 0], HA p x, TZ]) (by exact IMx) (Imp.perm (by simp))⟩
  · rintro full A hfu rfl
    simp only [List.nil_append, V.blockQ, V.thenQ]
    refine VC.imp (H' := [cellsAt k1 0 [ptr0 p], cellsAt k2 0 [vi 0], cellsAt k3 0 [uv 0], HA p x, TZ]) (Imp.perm (by simp)) ?_
    refine GOH ?_
    refine st_call (key k1 k2 k3) (by rfl) (by exact SPx) (fun v Post hv => ?_)
    obtain ⟨rfl, rfl⟩ := hv
    simp only [CNx]
    refine GOH ?_
    refine VC.seq_draws (α := Unit) (fun _ => [(2, ptr0 k2), (3, ptr0 k3)]) (fun _ => [cellsAt k2 0 [vi 0], cellsAt k3 0 [uv 0], cellsAt k1 0 [ptr0 p], HA p x, TZ]) (fun _ => True) ⟨?_, ?_, trivial⟩ (fun s _ => ?_)
    rotate_right
    · refine GOH ?_
      refine ⟨.inr rfl, _, _, .cell1 (by rfl) (by simp only [List.flatten_cons, List.mem_append, cellsAt, List.mem_singleton, List.mem_cons]; simp) (.cell1 (by rfl) (by simp only [List.flatten_cons, List.mem_append, cellsAt, List.mem_singleton, List.mem_cons]; simp) .nil), ?_, ⟨rfl, rfl⟩⟩
      exact IMx
    all_goals
      refine GOH ?_
      exact ⟨(), trivial, by exact SUx, by exact IMx⟩
end Go.Proofs.YtmlnoodopoaafaaDoor
namespace Go.V
open Go Go.Proofs.YtmlnoodopoaafaaDoor
def weA (t1 t4 : Nat) (obs : List Ob) (st : List Nat) : AH := { newH 64 16 64 0 with rm := ((newH 64 16 64 0).rm.set 1 (2, 66, t1)).set 4 (98, 258, t4), obs := obs, stack := st }
def weX : Ob := ⟨98, hdOf 1 1 0, []⟩
def weW (a b : Nat) : Ob := ⟨100, hdOf 1 2 2, [a, b]⟩
def weY : Ob := ⟨104, hdOf 1 1 0, []⟩
def weF (a : Nat) : Ob := ⟨2, hdOf 1 3 2, [a, 0]⟩
def weK : Ob := ⟨6, hdOf 1 1 0, []⟩
theorem we_new : newH 64 16 64 0 = weA 2 98 [] [] := rfl
theorem we1 : allocA (weA 2 98 [] []) 4 (hdOf 1 1 0) = weA 2 100 [weX] [] := by kernel_rfl
theorem we2 : allocA (weA 2 100 [weX] []) 4 (hdOf 1 2 2) = weA 2 104 [weX, weW 0 0] [] := by kernel_rfl
theorem we3 : allocA (weA 2 104 [weX, weW 0 0] []) 4 (hdOf 1 1 0) = weA 2 106 [weX, weW 0 0, weY] [] := by kernel_rfl
theorem we4 : setA (weA 2 106 [weX, weW 0 0, weY] []) (weW 0 0) 0 784 = weA 2 106 [weX, weW 784 0, weY] [] := by kernel_rfl
theorem we5 : setA (weA 2 106 [weX, weW 784 0, weY] []) (weW 784 0) 1 832 = weA 2 106 [weX, weW 784 832, weY] [] := by kernel_rfl
theorem we6 : allocA (weA 2 106 [weX, weW 784 832, weY] [800, 832]) 1 (hdOf 1 3 2) = weA 6 106 [weF 0, weX, weW 784 832, weY] [800, 832] := by kernel_rfl
theorem we7 : allocA (weA 6 106 [weF 0, weX, weW 784 832, weY] [800, 832]) 1 (hdOf 1 1 0) = weA 8 106 [weF 0, weK, weX, weW 784 832, weY] [800, 832] := by kernel_rfl
theorem we8 : setA (weA 8 106 [weF 0, weK, weX, weW 784 832, weY] [800, 832]) (weF 0) 0 48 = weA 8 106 [weF 48, weK, weX, weW 784 832, weY] [800, 832] := by kernel_rfl
def we : AH := weA 8 106 [weF 48, weK, weX, weW 784 832, weY] [800, 832, 16]
def weG : Ob := ⟨2, setFm (hdOf 1 3 2), [48, 0]⟩
def weM : MS := ⟨weA 8 106 [weG, weK, weX, weW 784 832, weY] [800, 832, 16], [800, 832, 16, 48], [], [16]⟩
theorem meets_zero {a : AH} (n : Nat) (h : getO a.obs 0 = none) : ∀ l : List Nat, (List.replicate n 0).foldl (meetA a) l = l := by
  induction n with
  | zero => intro l; rfl
  | succ n ih =>
    intro l
    rw [List.replicate_succ, List.foldl_cons]
    have : meetA a l 0 = l := by
      unfold meetA
      split
      · rfl
      · rw [h]; rfl
    rw [this]; exact ih l
theorem we_roots : rootsA we = List.replicate 4160 0 ++ [800, 832, 16] := by
  unfold rootsA we weA newH
  simp only [List.append_nil]
  rw [← List.append_assoc, List.replicate_append_replicate]
theorem we_rooted : rootedA we = [800, 832, 16] := by
  unfold rootedA
  rw [we_roots, List.foldl_append, meets_zero _ (by rfl)]
  kernel_rfl
theorem we_marks : stepsF 5 (ms0 we, 0) = some (weM, 4) := by
  unfold ms0
  rw [we_rooted]
  kernel_rfl
theorem we_end {s : MS} (h : MEnd (ms0 we) s) : s = weM := by
  obtain ⟨i, h1, h2, h3, _⟩ := h
  exact msteps_end h1 h2 h3 we_marks (by kernel_rfl)
def weR : List Ob := [weG, weK, ⟨98, hdOf 1 2 2, [0, 816]⟩, ⟨102, hdOf 1 1 0, []⟩]
theorem we_cleared : (clearM weM).2 = 1 ∧ (goneM (clearM weM).1).length = 1 := ⟨by kernel_rfl, by kernel_rfl⟩
theorem we_obs : (clearM weM).1.a.obs = [weG, weK, weX, weW 0 832, weY] := by kernel_rfl
theorem we_kept : keptA weM = weA 8 106 [weG, weK, weW 0 832, weY] [800, 832, 16] := by kernel_rfl
def slideW (a : AH) (sp cl : List Nat) : AH :=
  { a with rm := a.rm.set 4 ((roomR a 4).1, (roomR a 4).2.1, slidEnd (roomR a 4).1 (oldO a)), obs := (slideObs a).map (renB (slideM a)), sp := sp, cl := cl,
           stack := a.stack.map (renO (slideM a)), queue := a.queue.map (renO (slideM a)), noted := a.noted.map (renO (slideM a)) }
theorem we_slidW : slideW (weA 8 106 [weG, weK, weW 0 832, weY] [800, 832, 16]) (List.replicate 64 0) (List.replicate 4096 0) = weA 8 104 weR [784, 816, 16] := by kernel_rfl
theorem we_slid : slideA (keptA weM) = weA 8 104 weR [784, 816, 16] := by
  rw [we_kept]
  have h : ∀ mv : List (Nat × Nat), mget 0 mv = none → ∀ n, (List.replicate n 0).map (renO mv) = List.replicate n 0 := fun mv e n => by
    rw [List.map_replicate]; unfold renO; rw [e]; rfl
  have h0 := h (slideM (weA 8 106 [weG, weK, weW 0 832, weY] [800, 832, 16])) (by kernel_rfl)
  rw [show slideA (weA 8 106 [weG, weK, weW 0 832, weY] [800, 832, 16]) = slideW (weA 8 106 [weG, weK, weW 0 832, weY] [800, 832, 16]) ((List.replicate 64 0).map (renO (slideM (weA 8 106 [weG, weK, weW 0 832, weY] [800, 832, 16])))) ((List.replicate 4096 0).map (renO (slideM (weA 8 106 [weG, weK, weW 0 832, weY] [800, 832, 16])))) from rfl, h0, h0]
  exact we_slidW
theorem we_moved : (slideM (keptA weM)).length = 2 := by rw [we_kept]; kernel_rfl
theorem we_fired : firedA (keptA weM) (roomL (weA 8 104 weR [784, 816, 16]) 4) weM.fired = [16] := by rw [we_kept]; kernel_rfl
theorem we_run : RunOk weM := by
  refine ⟨⟨by kernel_rfl, by kernel_rfl, by decide, by decide⟩, fun b hb hn => ?_, rfl⟩
  rw [we_obs] at hb
  simp only [List.mem_cons, List.not_mem_nil, or_false] at hb
  rcases hb with rfl | rfl | rfl | rfl | rfl <;> cases hn
theorem we_sound : SoundA (weA 8 104 weR [784, 816, 16]) := by
  have hr : rootsA (weA 8 104 weR [784, 816, 16]) = List.replicate 4160 0 ++ [784, 816, 16] := by
    unfold rootsA weA newH
    simp only [List.append_nil]
    rw [← List.append_assoc, List.replicate_append_replicate]
  refine ⟨fun o ho => ?_, fun t w b hw hb => ?_⟩
  · rw [hr] at ho
    rcases List.mem_append.1 ho with h | h
    · rw [(List.mem_replicate.1 h).2]; kernel_rfl
    · simp only [List.mem_cons, List.not_mem_nil, or_false] at h
      rcases h with rfl | rfl | rfl <;> exact (by kernel_rfl)
  · have hbm : b ∈ weR := (getO_some hb).1
    simp only [weR, List.mem_cons, List.not_mem_nil, or_false] at hbm
    rcases hbm with rfl | rfl | rfl | rfl
    · refine ⟨rfl, fun v hv => ?_, fun h4 _ => ?_⟩
      · have : v = 48 ∨ v = 0 := by simpa [weG, Ob.many, hdOf, setFm] using hv
        rcases this with rfl | rfl <;> decide +kernel
      · obtain ⟨hw1, e⟩ := List.mem_filter.1 hw
        have hat : w = 2 := by
          have := (getO_some hb).2
          have e2 : (weG).oop = 16 := rfl
          omega
        subst hat
        rcases (show t = 4 ∨ t = 5 ∨ 6 ≤ t by omega) with rfl | rfl | h6
        · exact absurd e (by decide)
        · exact absurd e (by decide)
        · have : roomR (weA 8 104 weR [784, 816, 16]) t = (0, 0, 0) := by
            unfold roomR
            rw [List.getElem?_eq_none (by show 6 ≤ t; exact h6)]; rfl
          rw [this] at e
          simp at e
    · exact ⟨rfl, fun v hv => by simp [weK, Ob.many, hdOf] at hv, fun _ _ v hv => by simp [weK, Ob.many, hdOf] at hv⟩
    · refine ⟨rfl, fun v hv => ?_, fun _ _ v hv => ?_⟩
      · have : v = 0 ∨ v = 816 := by simpa [Ob.many, hdOf] using hv
        rcases this with rfl | rfl <;> decide +kernel
      · have : v = 0 ∨ v = 816 := by simpa [Ob.many, hdOf] using hv
        rcases this with rfl | rfl <;> decide +kernel
    · exact ⟨rfl, fun v hv => by simp [Ob.many, hdOf] at hv, fun _ _ v hv => by simp [Ob.many, hdOf] at hv⟩
end Go.V
namespace Go.Proofs.YtmlnoodopoaafaaDoor
open Go Go.V
set_option maxHeartbeats 6400000
set_option maxRecDepth 100000
theorem worksW_spec : Fun Tryd.prog 19 [] [TZ] (fun v Post => v = .bool true ∧ Post = [TZ]) := by
  refine Fun.intro low19 (by simp [n19]) ?_
  refine GOH ?_
  refine st_call (new_spec 64 16 64 0 0 (by decide) (by decide) (by decide) (by decide) (by decide)) (by rfl) (by exact SPx) (fun v Post hv => ?_)
  obtain ⟨p, x0, ⟨rfl, hx0, hxa0⟩, rfl⟩ := hv
  simp only [CNx]
  rw [we_new] at hxa0
  refine GOH ?_
  refine st_call (alloc_spec p x0 hx0 4 1 1 0 (by decide) (by decide) (by decide) (by decide) (by decide) (fun _ => .inr (by rw [hxa0]; kernel_rfl))) (by rfl) (by exact SPx) (fun v Post hv => ?_)
  obtain ⟨x1, hv, rfl⟩ := hv
  simp only [CNx]
  rcases hv with ⟨hf, _, _⟩ | ⟨_, rfl, hx1, hxa1⟩
  · rw [hxa0] at hf
    exact absurd hf (by unfold fullA; decide)
  rw [hxa0, we1] at hxa1
  rw [hxa0, show 8 * (roomA (weA 2 98 [] []) 4).2.2 = 784 from rfl]
  refine GOH ?_
  refine st_call (alloc_spec p x1 hx1 4 1 2 2 (by decide) (by decide) (by decide) (by decide) (by decide) (fun _ => .inr (by rw [hxa1]; kernel_rfl))) (by rfl) (by exact SPx) (fun v Post hv => ?_)
  obtain ⟨x2, hv, rfl⟩ := hv
  simp only [CNx]
  rcases hv with ⟨hf, _, _⟩ | ⟨_, rfl, hx2, hxa2⟩
  · rw [hxa1] at hf
    exact absurd hf (by unfold fullA; decide)
  rw [hxa1, we2] at hxa2
  rw [hxa1, show 8 * (roomA (weA 2 100 [weX] []) 4).2.2 = 800 from rfl]
  refine GOH ?_
  refine st_call (alloc_spec p x2 hx2 4 1 1 0 (by decide) (by decide) (by decide) (by decide) (by decide) (fun _ => .inr (by rw [hxa2]; kernel_rfl))) (by rfl) (by exact SPx) (fun v Post hv => ?_)
  obtain ⟨x3, hv, rfl⟩ := hv
  simp only [CNx]
  rcases hv with ⟨hf, _, _⟩ | ⟨_, rfl, hx3, hxa3⟩
  · rw [hxa2] at hf
    exact absurd hf (by unfold fullA; decide)
  rw [hxa2, we3] at hxa3
  rw [hxa2, show 8 * (roomA (weA 2 104 [weX, weW 0 0] []) 4).2.2 = 832 from rfl]
  refine GOH ?_
  refine st_call (setSlotN_spec p x3 hx3 800 (weW 0 0) (by rw [hxa3]; kernel_rfl) (by decide) 0 784 (by decide) (by decide) (by decide) (by rw [hxa3]; kernel_rfl) (by rw [hxa3]; decide)) (by rfl) (by exact SPx) (fun v Post hv => ?_)
  obtain ⟨x4, ⟨rfl, hx4, hxa4⟩, rfl⟩ := hv
  rw [hxa3, we4] at hxa4
  simp only [CNx]
  refine GOH ?_
  refine st_call (setSlotN_spec p x4 hx4 800 (weW 784 0) (by rw [hxa4]; kernel_rfl) (by decide) 1 832 (by decide) (by decide) (by decide) (by rw [hxa4]; kernel_rfl) (by rw [hxa4]; decide)) (by rfl) (by exact SPx) (fun v Post hv => ?_)
  obtain ⟨x5, ⟨rfl, hx5, hxa5⟩, rfl⟩ := hv
  rw [hxa4, we5] at hxa5
  simp only [CNx]
  refine GOH ?_
  refine st_call (push_spec p x5 hx5 800 (by decide) (by rw [hxa5]; kernel_rfl) (by rw [hxa5]; decide)) (by rfl) (by exact SPx) (fun v Post hv => ?_)
  obtain ⟨x6, ⟨rfl, hx6, hxa6⟩, rfl⟩ := hv
  rw [hxa5] at hxa6
  replace hxa6 : x6.a = weA 2 106 [weX, weW 784 832, weY] [800] := hxa6
  simp only [CNx]
  refine GOH ?_
  refine st_call (push_spec p x6 hx6 832 (by decide) (by rw [hxa6]; kernel_rfl) (by rw [hxa6]; decide)) (by rfl) (by exact SPx) (fun v Post hv => ?_)
  obtain ⟨x7, ⟨rfl, hx7, hxa7⟩, rfl⟩ := hv
  rw [hxa6] at hxa7
  replace hxa7 : x7.a = weA 2 106 [weX, weW 784 832, weY] [800, 832] := hxa7
  simp only [CNx]
  refine GOH ?_
  refine st_call (alloc_spec p x7 hx7 1 1 3 2 (by decide) (by decide) (by decide) (by decide) (by decide) (fun _ => .inl (by decide))) (by rfl) (by exact SPx) (fun v Post hv => ?_)
  obtain ⟨x8, hv, rfl⟩ := hv
  simp only [CNx]
  rcases hv with ⟨hf, _, _⟩ | ⟨_, rfl, hx8, hxa8⟩
  · rw [hxa7] at hf
    exact absurd hf (by unfold fullA; decide)
  rw [hxa7, we6] at hxa8
  rw [hxa7, show 8 * (roomA (weA 2 106 [weX, weW 784 832, weY] [800, 832]) 1).2.2 = 16 from rfl]
  refine GOH ?_
  refine st_call (alloc_spec p x8 hx8 1 1 1 0 (by decide) (by decide) (by decide) (by decide) (by decide) (fun _ => .inl (by decide))) (by rfl) (by exact SPx) (fun v Post hv => ?_)
  obtain ⟨x9, hv, rfl⟩ := hv
  simp only [CNx]
  rcases hv with ⟨hf, _, _⟩ | ⟨_, rfl, hx9, hxa9⟩
  · rw [hxa8] at hf
    exact absurd hf (by unfold fullA; decide)
  rw [hxa8, we7] at hxa9
  rw [hxa8, show 8 * (roomA (weA 6 106 [weF 0, weX, weW 784 832, weY] [800, 832]) 1).2.2 = 48 from rfl]
  refine GOH ?_
  refine st_call (setSlotN_spec p x9 hx9 16 (weF 0) (by rw [hxa9]; kernel_rfl) (by decide) 0 48 (by decide) (by decide) (by decide) (by rw [hxa9]; kernel_rfl) (by rw [hxa9]; decide)) (by rfl) (by exact SPx) (fun v Post hv => ?_)
  obtain ⟨x10, ⟨rfl, hx10, hxa10⟩, rfl⟩ := hv
  rw [hxa9, we8] at hxa10
  simp only [CNx]
  refine GOH ?_
  refine st_call (push_spec p x10 hx10 16 (by decide) (by rw [hxa10]; kernel_rfl) (by rw [hxa10]; decide)) (by rfl) (by exact SPx) (fun v Post hv => ?_)
  obtain ⟨x11, ⟨rfl, hx11, hxa11⟩, rfl⟩ := hv
  rw [hxa10] at hxa11
  replace hxa11 : x11.a = we := hxa11
  simp only [CNx]
  refine GOH ?_
  refine st_call (run_spec p x11 hx11 (fun s hs => by rw [hxa11] at hs; rw [we_end hs]; exact we_run)) (by rfl) (by exact SPx) (fun v Post hv => ?_)
  obtain ⟨s, z, fv, fs, ⟨hend, rfl, hz, hza, hsl, _⟩, rfl⟩ := hv
  rw [hxa11] at hend
  obtain rfl := we_end hend
  rw [we_slid] at hza
  rw [hza, we_fired] at hsl ⊢
  rw [we_cleared.1, we_cleared.2, we_moved]
  obtain ⟨fa, fc, rfl⟩ := hsl.form
  have hrd := hsl.rdU
  generalize slA (.slice fa _ fc) _ fs = FA at hrd ⊢
  simp only [CNx]
  refine GOH ?_
  refine st_alloc (fun k13 => ?_)
  refine GOH ?_
  refine st_call (root_spec p z hz 0 784 (by rw [hza]; rfl)) (by rfl) (by exact SPx) (fun v Post hv => ?_)
  obtain ⟨rfl, rfl⟩ := hv
  simp only [CNx]
  refine GOH ?_
  refine st_call (slotV_spec p z hz 784 ⟨98, hdOf 1 2 2, [0, 816]⟩ (by rw [hza]; kernel_rfl) (by decide) 0 0 (by decide) rfl) (by rfl) (by exact SPx) (fun v Post hv => ?_)
  obtain ⟨rfl, rfl⟩ := hv
  simp only [CNx]
  refine GOH ?_
  refine st_call (slotV_spec p z hz 784 ⟨98, hdOf 1 2 2, [0, 816]⟩ (by rw [hza]; kernel_rfl) (by decide) 1 816 (by decide) rfl) (by rfl) (by exact SPx) (fun v Post hv => ?_)
  obtain ⟨rfl, rfl⟩ := hv
  simp only [CNx]
  refine GOH ?_
  refine st_call (root_spec p z hz 1 816 (by rw [hza]; rfl)) (by rfl) (by exact SPx) (fun v Post hv => ?_)
  obtain ⟨rfl, rfl⟩ := hv
  simp only [CNx]
  refine GOH ?_
  refine st_call (headV_spec p z hz 16 weG (by rw [hza]; kernel_rfl) (by decide)) (by rfl) (by exact SPx) (fun v Post hv => ?_)
  obtain ⟨rfl, rfl⟩ := hv
  simp only [CNx]
  rw [show (hdEnc weG.hd).toArray = #[vi 1, cv 1, vi 0, vi 0, vi 0, vi 2, .bool false, .bool false] from rfl]
  refine GOH ?_
  refine st_alloc (fun k22 => ?_)
  refine GOH ?_
  refine st_call (check_spec p z hz (by rw [hza]; exact we_sound)) (by rfl) (by exact SPx) (fun v Post hv => ?_)
  obtain ⟨rfl, rfl⟩ := hv
  simp only [CNx]
  refine GOH ?_
  refine st_bslice (out := [uv 16]) (by rfl) (by rfl) (fun b2 => ?_)
  have hrd2 : RdU (cellsAt b2 0 [uv 16]) (.slice (some ⟨b2, 0, none⟩) (1 : Nat) 1) [16] := ⟨some ⟨b2, 0, none⟩, 1, rfl, fun i u hu => ⟨b2, 0, rfl, by
    have hi : i < 1 := (List.getElem?_eq_some_iff.1 hu).1
    obtain rfl : i = 0 := by omega
    obtain rfl : 16 = u := by simpa using hu
    simp [cellsAt]⟩⟩
  refine st_call (sameO_spec _ _ _ _ [16] [16] hrd hrd2 (by decide)) (by rfl) (by exact SPx) (fun w Post hv => ?_)
  obtain ⟨rfl, rfl⟩ := hv
  simp only [List.cons_append, List.nil_append, decide_true]
  refine GOH ?_
  exact endQ_mk (Post := [TZ]) (.inr rfl) (.tmp (by rfl) .nil) ⟨rfl, rfl⟩ (by exact IMx)
end Go.Proofs.YtmlnoodopoaafaaDoor

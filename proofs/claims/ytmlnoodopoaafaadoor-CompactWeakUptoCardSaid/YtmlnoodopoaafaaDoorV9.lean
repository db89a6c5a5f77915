/-
  A heap with one object more.
-/
import Derived.Test.YtmlnoodopoaafaaDoorV8
import Derived.Test.YtmlnoodopoaafaaDoorV6
set_option linter.unusedSimpArgs false
set_option linter.unusedVariables false
namespace Go.V
open Go
theorem HOk.newO {x : HW} (hx : HOk x) {sp : Nat} {r : Nat × Nat × Nat} (h1 : 1 ≤ sp) (hr : x.a.rm[sp]? = some r) {b : Ob} (hb : b.Ok) (hap : ∀ c ∈ x.a.obs, c.stop ≤ b.at_ ∨ b.stop ≤ c.at_) (hlo : r.1 ≤ b.at_) (hhi : b.stop ≤ r.2.1)
    {rm' : List (Nat × Nat × Nat)} (hrm : (sp = 5 ∧ rm' = x.a.rm) ∨ (sp ≠ 5 ∧ b.at_ = r.2.2 ∧ rm' = x.a.rm.set sp (r.1, r.2.1, b.stop)))
    {ws' : List Nat} (hl : ws'.length = x.ws.length) (hs : ∀ y ∈ ws', y < 18446744073709551616)
    (hout : ∀ i, ¬ (b.at_ ≤ i ∧ i < b.stop) → ws'[i]? = x.ws[i]?) (hh : ws'[b.at_]? = some (pk b.hd) ∧ ws'[b.at_ + 1]? = some b.hd.slots) (hbd : ∀ i < b.hd.slots, ws'[b.at_ + 2 + i]? = b.body[i]?) :
    HOk { x with a := { x.a with rm := rm', obs := insO b x.a.obs }, ws := ws', st := setBit x.st b.at_ true } := by
  have hlow := hx.rm.low sp r h1 hr
  have hrg := hx.rm.rng sp r hr
  have hget : ∀ i, ∃ f : Nat × Nat × Nat → Nat, ∀ s, rm'[i]? = some s → ∃ t, x.a.rm[i]? = some t ∧ s.1 = t.1 ∧ s.2.1 = t.2.1 ∧ (s.2.2 = t.2.2 ∨ (i = sp ∧ s.2.2 = b.stop)) := fun i => ⟨fun _ => 0, fun s hs' => by
    rcases hrm with ⟨_, rfl⟩ | ⟨_, _, rfl⟩
    · exact ⟨s, hs', rfl, rfl, .inl rfl⟩
    · rw [List.getElem?_set] at hs'
      split at hs'
      · rename_i e
        subst e
        split at hs'
        · simp only [Option.some.injEq] at hs'; subst hs'; exact ⟨r, hr, rfl, rfl, .inr ⟨rfl, rfl⟩⟩
        · cases hs'
      · exact ⟨s, hs', rfl, rfl, .inl rfl⟩⟩
  have hget2 : ∀ i t, x.a.rm[i]? = some t → ∃ s, rm'[i]? = some s ∧ s.1 = t.1 ∧ s.2.1 = t.2.1 ∧ ((i ≠ sp ∧ s = t) ∨ (i = sp ∧ (sp ≠ 5 → s.2.2 = b.stop ∧ t.2.2 = b.at_))) := fun i t ht => by
    rcases hrm with ⟨e5, rfl⟩ | ⟨_, e2, rfl⟩
    · by_cases e : i = sp
      · exact ⟨t, ht, rfl, rfl, .inr ⟨e, fun h => absurd e5 h⟩⟩
      · exact ⟨t, ht, rfl, rfl, .inl ⟨e, rfl⟩⟩
    · by_cases e : i = sp
      · subst e
        rw [hr] at ht; cases ht
        exact ⟨_, List.getElem?_set_self (List.getElem?_eq_some_iff.1 hr).1, rfl, rfl, .inr ⟨rfl, fun _ => ⟨rfl, e2.symm⟩⟩⟩
      · exact ⟨t, by rw [List.getElem?_set_ne (fun h => e h.symm)]; exact ht, rfl, rfl, .inl ⟨e, rfl⟩⟩
  refine ⟨hx.lay.ins hb (by omega) (by omega) hap hl hs hout hh hbd, ?_, hx.spl, hx.cll, hx.sps, hx.cls, hx.stks, hx.ques, hx.nots, hx.stk, hx.que, hx.note, hx.map, hx.given, hx.deep, hx.few⟩
  refine ⟨?_, ?_, ?_, ?_, ?_, ?_⟩
  · rcases hrm with ⟨_, rfl⟩ | ⟨_, _, rfl⟩
    · exact hx.rm.len
    · simpa using hx.rm.len
  · rcases hrm with ⟨_, rfl⟩ | ⟨_, _, rfl⟩
    · exact hx.rm.zero
    · show (x.a.rm.set sp _)[0]? = _
      rw [List.getElem?_set_ne (by omega)]; exact hx.rm.zero
  · intro i s hs'
    obtain ⟨_, h⟩ := hget i
    obtain ⟨t, ht, e1, e2, e3⟩ := h s hs'
    have := hx.rm.rng i t ht
    rw [hl]
    rcases e3 with e3 | ⟨rfl, e3⟩
    · omega
    · rw [hr] at ht; cases ht
      unfold Ob.stop at *; omega
  · intro i s hi hs'
    obtain ⟨_, h⟩ := hget i
    obtain ⟨t, ht, e1, e2, e3⟩ := h s hs'
    rw [e1]; exact hx.rm.low i t hi ht
  · intro i j s s2 hij hs' hs2 hi
    obtain ⟨_, h⟩ := hget i
    obtain ⟨t, ht, e1, e2, e3⟩ := h s hs'
    obtain ⟨_, h⟩ := hget j
    obtain ⟨t2, ht2, f1, f2, f3⟩ := h s2 hs2
    rw [e1, e2, f1, f2]; exact hx.rm.apart i j t t2 hij ht ht2 hi
  · intro c hc
    rcases mem_insO.1 hc with rfl | hc
    · obtain ⟨s, hs1, hs2, hs3, hs4⟩ := hget2 sp r hr
      refine ⟨sp, s, h1, hs1, by omega, ?_⟩
      split
      · omega
      · rename_i e
        rcases hs4 with ⟨h, _⟩ | ⟨_, h⟩
        · exact absurd rfl h
        · rw [(h e).1]; exact Nat.le_refl _
    · obtain ⟨i, t, hi, ht, c1, c2⟩ := hx.rm.inn c hc
      obtain ⟨s, hs1, hs2, hs3, hs4⟩ := hget2 i t ht
      refine ⟨i, s, hi, hs1, by omega, ?_⟩
      split
      · rename_i e; rw [if_pos e] at c2; omega
      · rename_i e
        rw [if_neg e] at c2
        rcases hs4 with ⟨_, rfl⟩ | ⟨e2, h⟩
        · exact c2
        · have := h (by omega)
          rw [this.1]
          unfold Ob.stop at *; omega
theorem HOk.free {x : HW} (hx : HOk x) {sp : Nat} {r : Nat × Nat × Nat} (h1 : 1 ≤ sp) (h5 : sp ≠ 5) (hr : x.a.rm[sp]? = some r) {e : Nat} (he : e ≤ r.2.1) : ∀ c ∈ x.a.obs, c.stop ≤ r.2.2 ∨ e ≤ c.at_ := by
  intro c hc
  obtain ⟨i, t, hi, ht, c1, c2⟩ := hx.rm.inn c hc
  have k1 := hx.rm.rng sp r hr
  have k2 := hx.rm.rng i t ht
  have c3 : c.stop ≤ t.2.1 := by split at c2 <;> omega
  by_cases e2 : i = sp
  · subst e2
    rw [hr] at ht; cases ht
    rw [if_neg h5] at c2
    exact .inl c2
  · by_cases h : i < sp
    · rcases hx.rm.apart i sp t r h ht hr hi with h2 | h2
      · exact .inl (by omega)
      · exact .inr (by omega)
    · rcases hx.rm.apart sp i r t (by omega) hr ht h1 with h2 | h2
      · exact .inr (by omega)
      · exact .inl (by omega)
theorem ha_words (p : Nat) (x : HW) {a m b : List Nat} (h : x.ws = a ++ (m ++ b)) : ∃ R, (HA p x).Perm (cellsAt x.wb a.length (m.map uv) ++ R) ∧ ∀ m' : List Nat, m'.length = m.length → (cellsAt x.wb a.length (m'.map uv) ++ R).Perm (HA p { x with ws := a ++ (m' ++ b) }) := by
  have key : ∀ m' : List Nat, m'.length = m.length → (HA p { x with ws := a ++ (m' ++ b) }).Perm (cellsAt x.wb a.length (m'.map uv) ++ (cellsAt p 0 [.slice (some ⟨x.wb, 0, none⟩) x.ws.length x.ws.length, .slice (some ⟨x.sb, 0, none⟩) x.st.length x.st.length] ++ (cellsAt p 4180 [x.kv, x.qv, x.nv, .map (some x.mb), vi x.a.given] ++ (cellsAt p 2 (x.a.rm.flatMap rmEnc) ++ (cellsAt p 20 (x.a.sp.map uv) ++ (cellsAt p 84 (x.a.cl.map uv) ++
      (cellsAt x.wb 0 (a.map uv) ++ (cellsAt x.wb (a.length + m.length) (b.map uv) ++ (cellsAt x.sb 0 (x.st.map uv) ++ (slA x.kv (x.a.stack.map uv) x.ks ++ (slA x.qv (x.a.queue.map uv) x.qs ++ (slA x.nv (x.a.noted.map uv) x.ns ++ [.obj x.mb (.map x.es x.mc)])))))))))))) := by
    intro m' hm
    have hl : (a ++ (m' ++ b)).length = x.ws.length := by rw [h]; simp [hm]
    simp only [HA, HMem, arrV, hl, List.flatten_cons, List.flatten_nil, List.append_nil, List.map_append, cellsAt_append, List.length_map, Nat.zero_add, hm]
    generalize cellsAt p 0 _ = A1
    generalize cellsAt p 4180 _ = A2
    generalize cellsAt p 2 _ = A3
    generalize cellsAt p 20 _ = A4
    generalize cellsAt p 84 _ = A5
    generalize cellsAt x.wb 0 _ = A6
    generalize cellsAt x.wb a.length _ = A7
    generalize cellsAt x.wb (a.length + m.length) _ = A8
    generalize cellsAt x.sb 0 _ = A9
    generalize slA x.kv _ _ = A10
    generalize slA x.qv _ _ = A11
    generalize slA x.nv _ _ = A12
    simp only [List.append_assoc]
    exact ((((((perm_lead A6 A7 _).append_left A5 |>.trans (perm_lead A5 A7 _)).append_left A4 |>.trans (perm_lead A4 A7 _)).append_left A3 |>.trans (perm_lead A3 A7 _)).append_left A2 |>.trans (perm_lead A2 A7 _)).append_left A1 |>.trans (perm_lead A1 A7 _))
  refine ⟨_, ?_, fun m' hm => (key m' hm).symm⟩
  have := key m rfl
  rw [← h] at this
  exact this
theorem zrow (n : Nat) : zeroRow n [Value.int .u64 0] = (List.replicate n 0).map uv := by
  apply List.ext_getElem?
  intro i
  simp only [zeroRow, List.length_cons, List.length_nil, Nat.zero_add, Nat.mul_one, List.getElem?_map, List.map_replicate]
  by_cases h : i < n
  · rw [List.getElem?_range h, List.getElem?_replicate, if_pos h]
    simp only [Option.map_some, Nat.mod_one]; rfl
  · rw [List.getElem?_eq_none (by simpa using h), List.getElem?_replicate, if_neg h]; rfl
def clrW (l : List Nat) (w n : Nat) : List Nat := l.take (w + 2) ++ (List.replicate n 0 ++ l.drop (w + 2 + n))
theorem clrW_len {l : List Nat} {w n : Nat} (h : w + 2 + n ≤ l.length) : (clrW l w n).length = l.length := by simp [clrW]; omega
theorem clrW_get {l : List Nat} {w n i : Nat} (h : w + 2 + n ≤ l.length) : (clrW l w n)[i]? = if w + 2 ≤ i ∧ i < w + 2 + n then some 0 else l[i]? := by
  unfold clrW
  by_cases h1 : i < w + 2
  · rw [if_neg (by omega), List.getElem?_append_left (by simp; omega), List.getElem?_take_of_lt h1]
  · rw [List.getElem?_append_right (by simp; omega), List.length_take, Nat.min_eq_left (by omega)]
    by_cases h2 : i < w + 2 + n
    · rw [if_pos (by omega), List.getElem?_append_left (by simp; omega), List.getElem?_replicate, if_pos (by omega)]
    · rw [if_neg (by omega), List.getElem?_append_right (by simp; omega), List.length_replicate, List.getElem?_drop]
      congr 1; omega
section
variable {P : Program} {n : Nat} {rs : List RO} {Γ : Env} {H : SH} {Z : List PanicEntry → Env → SH → Prop} {K : Env → SH → Prop} {d : Option Nat}
theorem st_clrW {p : Nat} {x : HW} {w k : Nat} {y : Operand} {R : SH} (hw : w + 2 + k ≤ x.ws.length) (hy : ev Γ y = some (.slice (some ⟨x.wb, if k = 0 then 0 else w + 2, none⟩) k k)) (ht : Tk H (HA p x) R)
    (h : VO P n rs (putE d (.tuple #[]) Γ) (HA p { x with ws := clrW x.ws w k } :: R) Z K) : VO P n (⟨d, none, .clr [.int .u64 0] y⟩ :: rs) Γ H Z K := by
  have hone : (zeroRow k [Value.int .u64 0]).all oneCell = true := by
    rw [zrow]; simp [oneCell]
  by_cases h0 : k = 0
  · subst h0
    rw [if_pos rfl] at hy
    have e : clrW x.ws w 0 = x.ws := by simp [clrW]
    rw [e] at h
    refine VO.perm (H' := HA p x :: R) (by simpa using ht.perm) ?_
    refine st_clear (A := []) (old := []) (R := HA p x :: R) hy (by simp [cellsAt]) rfl hone ?_
    refine VO.perm ?_ h
    have : zeroRow 0 [Value.int .u64 0] = [] := rfl
    rw [this]; simp [cellsAt]
  · rw [if_neg h0] at hy
    have hs : x.ws = x.ws.take (w + 2) ++ ((x.ws.drop (w + 2)).take k ++ x.ws.drop (w + 2 + k)) := by
      rw [show x.ws.drop (w + 2 + k) = (x.ws.drop (w + 2)).drop k from List.drop_drop.symm, List.take_append_drop, List.take_append_drop]
    obtain ⟨X, hX1, hX2⟩ := ha_words p x hs
    have hl : (x.ws.take (w + 2)).length = w + 2 := by simp; omega
    have hl2 : ((x.ws.drop (w + 2)).take k).length = k := by simp; omega
    rw [hl] at hX1 hX2
    refine st_clear (A := []) (old := ((x.ws.drop (w + 2)).take k).map uv) (R := [X ++ R.flatten]) hy ?_ (by rw [List.length_map, hl2, zrow]; simp) hone ?_
    · refine ht.perm.trans ?_
      simp only [List.flatten_cons, List.flatten_nil, List.append_nil]
      rw [← List.append_assoc]
      exact hX1.append_right _
    · refine VO.perm ?_ h
      simp only [List.flatten_cons, List.flatten_nil, List.append_nil, zrow]
      rw [← List.append_assoc]
      exact (hX2 (List.replicate k 0) (by rw [hl2]; simp)).append_right _
end
theorem ha_mem {p : Nat} {x : HW} {i v : Nat} (h : x.ws[i]? = some v) : Atom.cell x.wb i (uv v) ∈ HA p x := by
  simp only [HA, HMem, List.flatten_cons, List.mem_append]
  exact .inr (.inr (.inr (.inr (.inr (.inl (mem_u0 h))))))
theorem ha_sp {p : Nat} {x : HW} {i v : Nat} (h : x.a.sp[i]? = some v) : Atom.cell p (20 + i) (uv v) ∈ HA p x := by
  simp only [HA, HMem, List.flatten_cons, List.mem_append]
  exact .inr (.inr (.inr (.inl (mem_u h))))
theorem ha_cl {p : Nat} {x : HW} {i v : Nat} (h : x.a.cl[i]? = some v) : Atom.cell p (84 + i) (uv v) ∈ HA p x := by
  simp only [HA, HMem, List.flatten_cons, List.mem_append]
  exact .inr (.inr (.inr (.inr (.inl (mem_u h)))))
theorem ha_kv {p : Nat} {x : HW} : Atom.cell p 4180 x.kv ∈ HA p x ∧ Atom.cell p 4181 x.qv ∈ HA p x ∧ Atom.cell p 4182 x.nv ∈ HA p x := by
  simp [HA, HMem, cellsAt]
def Ob.off (b : Ob) : Nat := if b.hd.slots = 0 then 0 else b.at_ + 2
theorem HOk.slot {x : HW} (hx : HOk x) {b : Ob} (hb : b ∈ x.a.obs) {i v : Nat} (h : b.body[i]? = some v) : x.ws[b.off + i]? = some v ∧ v < 18446744073709551616 := by
  have hok := hx.lay.ok b hb
  have hi := (List.getElem?_eq_some_iff.1 h).1
  rw [hok.len] at hi
  have := hx.lay.body b hb i hi
  unfold Ob.off
  rw [if_neg (by omega), this]
  exact ⟨h, hok.small v (List.mem_of_getElem? h)⟩
section
variable {P : Program} {n : Nat} {rs : List RO} {Γ : Env} {H : SH} {Z : List PanicEntry → Env → SH → Prop} {K : Env → SH → Prop} {d : Option Nat}
theorem st_slcL2 {size len cap h b o : Nat} {x hi mx : Operand} {kh km : IntKind} {ch cm : Int} (hx : ev Γ x = some (.slice (some ⟨b, o, none⟩) len cap)) (hhi : ev Γ hi = some (.int kh ch)) (hmx : ev Γ mx = some (.int km cm))
    (eh : ch = (h : Int)) (em : cm = (h : Int)) (hr : h ≤ cap) (k : VO P n rs (putE d (.slice (some ⟨b, o, none⟩) h h) Γ) H Z K) :
    VO P n (⟨d, none, .slcL size x none (some hi) (some mx)⟩ :: rs) Γ H Z K := by
  subst eh em
  refine VO.pure rfl (fun ρ hρ => ?_) k
  have h1 : bound (Value.int km (h : Int)) cap = some h := by simp [bound]; omega
  have h2 : bound (Value.int kh (h : Int)) h = some h := by simp [bound]
  simp [pureV, hρ _ _ hx, hρ _ _ hhi, hρ _ _ hmx, bounds, h1, h2, boundO]
theorem st_slcL1 {size len cap l b o : Nat} {x lo : Operand} {kl : IntKind} {cl : Int} (hx : ev Γ x = some (.slice (some ⟨b, o, none⟩) len cap)) (hlo : ev Γ lo = some (.int kl cl)) (el : cl = (l : Int)) (hr : l ≤ len ∧ len ≤ cap)
    (k : VO P n rs (putE d (.slice (some ⟨b, if cap = l then o else o + l * size, none⟩) (len - l) (cap - l)) Γ) H Z K) :
    VO P n (⟨d, none, .slcL size x (some lo) none none⟩ :: rs) Γ H Z K := by
  subst el
  refine VO.pure rfl (fun ρ hρ => ?_) k
  have h1 : bound (Value.int kl (l : Int)) len = some l := by simp [bound]; omega
  simp [pureV, hρ _ _ hx, hρ _ _ hlo, bounds, h1, boundO]
end
theorem HOk.upd {x : HW} (hx : HOk x) {b : Ob} (hb : b ∈ x.a.obs) {f : Ob → Ob} (hf : Keep f) {ws' : List Nat} (hl : ws'.length = x.ws.length) (hs : ∀ y ∈ ws', y < 18446744073709551616) (hok : (f b).Ok)
    (hout : ∀ i, ¬ (b.at_ ≤ i ∧ i < b.stop) → ws'[i]? = x.ws[i]?) (hh : ws'[b.at_]? = some (pk (f b).hd) ∧ ws'[b.at_ + 1]? = some b.hd.slots) (hbd : ∀ i < b.hd.slots, ws'[b.at_ + 2 + i]? = (f b).body[i]?) :
    HOk { x with a := { x.a with obs := updO b.at_ f x.a.obs }, ws := ws' } := by
  refine ⟨hx.lay.upd hb hf hl hs hok hout hh hbd, ⟨hx.rm.len, hx.rm.zero, fun i r hr => ?_, hx.rm.low, hx.rm.apart, fun c hc => ?_⟩, hx.spl, hx.cll, hx.sps, hx.cls, hx.stks, hx.ques, hx.nots, hx.stk, hx.que, hx.note, hx.map, hx.given, hx.deep, hx.few⟩
  · rw [hl]; exact hx.rm.rng i r hr
  · obtain ⟨d, hd, rfl⟩ := mem_updO.1 hc
    have e1 : (if d.at_ = b.at_ then f d else d).at_ = d.at_ := by split <;> simp [hf.at_]
    have e2 : (if d.at_ = b.at_ then f d else d).stop = d.stop := by split <;> simp [Ob.stop, hf.at_, hf.slots]
    rw [e1, e2]; exact hx.rm.inn d hd
def setB (i v : Nat) (b : Ob) : Ob := { b with body := b.body.set i v }
theorem keep_setB (i v : Nat) : Keep (setB i v) := ⟨fun _ => rfl, fun _ => rfl⟩
def setH (g : Hd → Hd) (b : Ob) : Ob := { b with hd := g b.hd }
theorem keep_setH {g : Hd → Hd} (h : ∀ d, (g d).slots = d.slots) : Keep (setH g) := ⟨fun _ => rfl, fun b => h b.hd⟩
theorem HOk.setB {x : HW} (hx : HOk x) {b : Ob} (hb : b ∈ x.a.obs) {i v : Nat} (hi : i < b.hd.slots) (hv : v < 18446744073709551616) (h6 : b.hd.fmt = 6 → i ≠ 0) :
    HOk { x with a := { x.a with obs := updO b.at_ (V.setB i v) x.a.obs }, ws := x.ws.set (b.off + i) v } := by
  have hok := hx.lay.ok b hb
  have hhigh := hx.lay.high b hb
  have hh := hx.lay.head b hb
  have ho : b.off = b.at_ + 2 := by unfold Ob.off; rw [if_neg (by omega)]
  rw [ho]
  unfold Ob.stop at hhigh
  refine hx.upd hb (keep_setB i v) (by simp) ?_ ⟨hok.may, by simp [V.setB, hok.len], ?_, ?_⟩ ?_ ?_ ?_
  · intro y hy
    rcases List.mem_or_eq_of_mem_set hy with h | rfl
    · exact hx.lay.small y h
    · exact hv
  · intro y hy
    rcases List.mem_or_eq_of_mem_set hy with h | rfl
    · exact hok.small y h
    · exact hv
  · intro e
    obtain ⟨n, r, e1, e2⟩ := hok.meth e
    have : i ≠ 0 := h6 e
    refine ⟨n, r.set (i - 1) v, ?_, by simpa using e2⟩
    show b.body.set i v = _
    rw [e1, show i = (i - 1) + 1 by omega, List.set_cons_succ]; rfl
  · intro j hj
    rw [List.getElem?_set_ne]; unfold Ob.stop at hj; omega
  · rw [List.getElem?_set_ne (by omega), List.getElem?_set_ne (by omega)]; exact hh
  · intro j hj
    show _ = (b.body.set i v)[j]?
    by_cases e : i = j
    · subst e
      rw [List.getElem?_set_self (by omega), List.getElem?_set_self (by rw [hok.len]; exact hj)]
    · rw [List.getElem?_set_ne (by omega), List.getElem?_set_ne e]; exact hx.lay.body b hb j hj
theorem HOk.setH {x : HW} (hx : HOk x) {b : Ob} (hb : b ∈ x.a.obs) {g : Hd → Hd} (hg : ∀ d, (g d).slots = d.slots) (hm : (g b.hd).May) (h6 : (g b.hd).fmt = 6 → b.hd.fmt = 6) :
    HOk { x with a := { x.a with obs := updO b.at_ (V.setH g) x.a.obs }, ws := (x.ws.set b.at_ (pk (g b.hd))).set (b.at_ + 1) b.hd.slots } := by
  have hok := hx.lay.ok b hb
  have hhigh := hx.lay.high b hb
  unfold Ob.stop at hhigh
  have hms := hok.may.slots
  refine hx.upd hb (keep_setH hg) (by simp) ?_ ⟨hm, by simp [V.setH, hok.len, hg], hok.small, fun e => hok.meth (h6 e)⟩ ?_ ?_ ?_
  · intro y hy
    rcases List.mem_or_eq_of_mem_set hy with h | rfl
    · rcases List.mem_or_eq_of_mem_set h with h | rfl
      · exact hx.lay.small y h
      · have := hm.lt; omega
    · omega
  · intro j hj
    unfold Ob.stop at hj
    rw [List.getElem?_set_ne (by omega), List.getElem?_set_ne (by omega)]
  · rw [List.getElem?_set_ne (by omega), List.getElem?_set_self (by omega), List.getElem?_set_self (by simp; omega)]; exact ⟨rfl, rfl⟩
  · intro j hj
    rw [List.getElem?_set_ne (by omega), List.getElem?_set_ne (by omega)]; exact hx.lay.body b hb j hj
section
variable {P : Program} {n : Nat} {rs : List RO} {Γ : Env} {H : SH} {Z : List PanicEntry → Env → SH → Prop} {K : Env → SH → Prop} {d : Option Nat}
theorem st_storeW {p : Nat} {x : HW} {i m : Nat} {u y : Operand} {R : SH} (hu : ev Γ u = some (.pointer (some ⟨x.wb, i, none⟩))) (hy : ev Γ y = some (uv m)) (ht : Tk H (HA p x) R) (hi : i < x.ws.length)
    (h : VO P n rs (putE d undef Γ) (HA p { x with ws := x.ws.set i m } :: R) Z K) : VO P n (⟨d, none, .store 1 u y⟩ :: rs) Γ H Z K := by
  have hs : x.ws = x.ws.take i ++ ([x.ws[i]] ++ x.ws.drop (i + 1)) := by
    rw [List.singleton_append, ← List.drop_eq_getElem_cons hi, List.take_append_drop]
  obtain ⟨X, hX1, hX2⟩ := ha_words p x hs
  have hl : (x.ws.take i).length = i := by simp; omega
  rw [hl] at hX1 hX2
  refine VO.perm (H' := cellsAt x.wb i [uv x.ws[i]] :: [X ++ R.flatten]) ?_ ?_
  · refine ht.perm.trans ?_
    simp only [List.flatten_cons, List.flatten_nil, List.append_nil]
    rw [← List.append_assoc]
    exact hX1.append_right _
  · refine st_store' (us := [uv m]) hu hy rfl rfl rfl (Upd.set1 (i := 0) (vs := [uv x.ws[i]]) (by omega) (Nat.zero_lt_one)) ?_
    refine VO.perm ?_ h
    have e : x.ws.set i m = x.ws.take i ++ ([m] ++ x.ws.drop (i + 1)) := by
      rw [List.set_eq_take_append_cons_drop, if_pos hi]; rfl
    rw [e]
    simp only [List.flatten_cons, List.flatten_nil, List.append_nil]
    rw [← List.append_assoc]
    exact (hX2 [m] rfl).append_right _
end
theorem ha_out (p : Nat) (x : HW) : Imp [HA p x] (HMem p x) := Imp.perm (by simp [HA])
theorem ha_in (p : Nat) (x : HW) : Imp (HMem p x) [HA p x] := Imp.perm (by simp [HA])
def IterA (P : Program) (g : Value) {α : Type} (enc : α → List Value) (Acc : List Atom → Prop) (Pre Post : SH) (Spec : List α → Prop) : Prop :=
  ∀ (y : Value) (J SP : List α → List Atom → Prop), y.cells = #[y] → (∀ c A, J c A → Acc A) →
    (∀ c x A, OkC Spec (c ++ [x]) → J c A → FunV P y (enc x) [A] (fun v B => (v = .bool true ∧ ∃ A', J (c ++ [x]) A' ∧ B = [A']) ∨ (v = .bool false ∧ ∃ B', SP (c ++ [x]) B' ∧ B = [B']))) →
    ∀ A, J [] A → FunV P g [y] (Pre ++ [A]) (fun v B => v = .tuple #[] ∧ ((∃ full A', Spec full ∧ J full A' ∧ B = Post ++ [A']) ∨ (∃ c B', OkC Spec c ∧ SP c B' ∧ B = Post ++ [B'])))
section
variable {P : Program} {n : Nat} {Γ : Env} {H : SH} {Q : Exit → Env → SH → Prop}
theorem VC.rangefA {α : Type} {enc : α → List Value} {g : Operand} {f : Nat} {first cap : Array Value} {ps : List Nat} {asg body : IC} {Pre Post R : SH} {Spec : List α → Prop} {Acc : List Atom → Prop} (I : List α → List Atom → Prop) (A0 : List Atom) (hg : ev Γ g = some (.func (.func f) first cap))
    (hit : IterA P (.func (.func f) first cap) enc Acc Pre Post Spec) (hmo : ∀ A B, Acc A → Acc (A ++ B)) (hacc : ∀ c A, I c A → Acc A) (hs : Spl H Pre R) (h0 : Imp R [A0]) (h1 : I [] A0) (hlen : ∀ x, (enc x).length = ps.length)
    (round : ∀ c x A, OkC Spec (c ++ [x]) → I c A → VC P n asg (bindE ps (enc x) Γ) [A] (fun e Γ' H' => e = .normal ∧ VC P n body Γ' H' (fun e _ H'' => match e with | .normal => ∃ A', I (c ++ [x]) A' ∧ Imp H'' [A'] | .ret => Q .ret Γ (Post ++ H'') | .exit id => Q (.exit id) Γ (Post ++ H'') | _ => False)))
    (done : ∀ full A, Spec full → I full A → Q .normal Γ (Post ++ [A])) : VC P n (.rangef g ps asg body) Γ H Q := by
  intro ρ kp od code hl a w F QQ hr ha hsat hh
  obtain ⟨qs, A, B, rfl, rfl, hlt, h1', h2⟩ := lowC_inv hl
  refine wpIn_rangeFunc (fun fnid _ => ?_)
  obtain ⟨l, db, X, w1, he, hs1, hk1⟩ := enter_spec (P := P) (fnid := fnid) (tmps := a.tmps) (qs := qs) (A := A) (B := B) hr hsat
  have hyield := hit (.func (.yield l) #[] #[]) (fun c A' => ∃ A1, I c A1 ∧ A' = A1 ++ [.obj l (.loop (lrec fnid a.tmps qs A B db .ready none))])
    (fun c B' => ∃ H'', (Q .ret Γ (Post ++ H'') ∧ B' = H''.flatten ++ [.obj l (.loop (lrec fnid a.tmps qs A B db .done (some .ret)))]) ∨ (∃ id, Q (.exit id) Γ (Post ++ H'') ∧ B' = H''.flatten ++ [.obj l (.loop (lrec fnid a.tmps qs A B db .done (some (.exit id))))]))
    rfl
    (fun c A' hA => by obtain ⟨A1, hI, rfl⟩ := hA; exact hmo _ _ (hacc c A1 hI))
    (fun c x A' hc hA => by
      obtain ⟨A1, hI, rfl⟩ := hA
      have hx := round_spec (P := P) (n := n) (Γ := Γ) (fn := fnid) (tmps := a.tmps) (db := db) (l := l) (vs := enc x) (I := A1) (Qb := fun e H'' => match e with | .normal => ∃ A', I (c ++ [x]) A' ∧ Imp H'' [A'] | .ret => Q .ret Γ (Post ++ H'') | .exit id => Q (.exit id) Γ (Post ++ H'') | _ => False)
        hlt (hlen x).symm ⟨ha.size, ha.slots⟩ h1' h2 ((round c x A1 hc hI).mono (fun e Γ' H' ⟨q1, q2⟩ => ⟨q1, q2.mono (fun e _ H'' q => by cases e <;> exact q)⟩))
      refine hx.conv (R := []) (by simp [Spl]) ?_
      rintro v Bk (⟨rfl, H'', ⟨A2, hI2, q⟩, rfl⟩ | ⟨rfl, H'', q⟩)
      · refine ⟨_, .inl ⟨rfl, _, ⟨A2, hI2, rfl⟩, rfl⟩, ?_⟩
        obtain ⟨R', hR'⟩ := q
        refine ⟨R', ?_⟩
        simp only [Spl, List.flatten_cons, List.flatten_nil, List.append_nil] at hR' ⊢
        rw [List.append_assoc]
        refine (List.Perm.append_right _ hR').trans ?_
        rw [List.append_assoc]
        exact List.Perm.append_left _ List.perm_append_comm
      · rcases q with ⟨q, rfl⟩ | ⟨id, q, rfl⟩
        · exact ⟨_, .inr ⟨rfl, _, ⟨H'', .inl ⟨q, rfl⟩⟩, rfl⟩, by rw [List.append_nil]; exact Imp.refl _⟩
        · exact ⟨_, .inr ⟨rfl, _, ⟨H'', .inr ⟨id, q, rfl⟩⟩, rfl⟩, by rw [List.append_nil]; exact Imp.refl _⟩)
    _ ⟨A0, h1, rfl⟩
  have hs2 : Sat w1 ((Pre ++ [A0 ++ [Atom.obj l (.loop (lrec fnid a.tmps qs A B db .ready none))]]).flatten ++ (F ++ marks X)) := by
    have p1 : (Atom.obj l (.loop (lrec fnid a.tmps qs A B db .ready none)) :: (H.flatten ++ (F ++ marks X))).Perm (R.flatten ++ (Pre.flatten ++ (Atom.obj l (.loop (lrec fnid a.tmps qs A B db .ready none)) :: (F ++ marks X)))) := by
      refine List.perm_middle.symm.trans ?_
      refine (List.Perm.append_right _ hs).trans ?_
      rw [List.append_assoc]
      exact perm_lead _ _ _
    have h3 := (hs1.perm p1).imp h0
    refine h3.perm ?_
    simp only [List.flatten_append, List.flatten_cons, List.flatten_nil, List.append_nil, List.append_assoc, List.singleton_append]
    exact perm_lead _ _ _
  have hcall := hyield (F ++ marks X) w1 hs2
  obtain ⟨hcallable, hcalls⟩ := hcall
  refine ⟨l, X.map coll, w1, { target := .fn (.func f) cap, args := first ++ [Value.func (.yield l) #[] #[]].toArray }, w1, f, first ++ [Value.func (.yield l) #[] #[]].toArray ++ cap, w1, he, ?_, fun _ _ => trivial, ?_, ?_, ?_⟩
  · have hev : a.eval g = .func (.func f) first cap := ha.ev hg
    simp only [resolve, hev, Deferred.ofValue]
    simp [Act.eval]
  · simp only [invoke]
    rw [run_callFunc hcallable]
  · intro h; simp at h
  refine callsIn_v (hcalls.mono ?_)
  · rintro e w3 ⟨v, Pst, rfl, ⟨rfl, hp⟩, hs3, hk3⟩
    have ha' : Agree n Γ { a with defers := X.map coll ++ a.defers } := ⟨ha.size, ha.slots⟩
    rcases hp with ⟨full, _, hf, ⟨A1, hI, rfl⟩, rfl⟩ | ⟨c, B', _, ⟨H'', hj⟩, rfl⟩
    · obtain ⟨w4, e1, e2, e3'⟩ := end_spec (P := P) (L := Post.flatten ++ A1) (st := .ready) (pe := none) (by simp) (by simpa [List.append_assoc] using hs3)
      have e3 := hk1.trans (hk3.trans e3')
      exact ⟨none, w4, e1, hh _ _ _ _ _ X (done full A1 hf hI) ha' rfl (by simpa using e2) e3⟩
    · rcases hj with ⟨q, rfl⟩ | ⟨id, q, rfl⟩
      · obtain ⟨w4, e1, e2, e3'⟩ := end_spec (P := P) (L := Post.flatten ++ H''.flatten) (st := .done) (pe := some .ret) (by simp) (by simpa [List.append_assoc] using hs3)
        have e3 := hk1.trans (hk3.trans e3')
        exact ⟨_, w4, e1, wpIn_ret (hh _ _ _ _ _ X q ha' rfl (by simpa using e2) e3)⟩
      · obtain ⟨w4, e1, e2, e3'⟩ := end_spec (P := P) (L := Post.flatten ++ H''.flatten) (st := .done) (pe := some (.exit id)) (by simp) (by simpa [List.append_assoc] using hs3)
        have e3 := hk1.trans (hk3.trans e3')
        exact ⟨_, w4, e1, wpIn_exit (hh _ _ _ _ _ X q ha' rfl (by simpa using e2) e3)⟩
end
theorem low_ex : ∀ {z : Nat}, z ≠ 0 → ∃ i k, z = 2 ^ i * (2 * k + 1) := by
  intro z
  induction z using Nat.strongRecOn with
  | _ z ih =>
    intro h
    by_cases e : z % 2 = 1
    · exact ⟨0, z / 2, by rw [Nat.pow_zero, Nat.one_mul]; omega⟩
    · obtain ⟨i, k, h2⟩ := ih (z / 2) (by omega) (by omega)
      refine ⟨i + 1, k, ?_⟩
      rw [Nat.pow_succ, Nat.mul_assoc, Nat.mul_comm 2, ← Nat.mul_assoc, ← h2]; omega
theorem low_bits {i k j : Nat} : (2 ^ i * (2 * k + 1)).testBit j = if j < i then false else (2 * k + 1).testBit (j - i) := by
  have := Nat.testBit_two_pow_mul_add (2 * k + 1) (b := 0) (i := i) (Nat.two_pow_pos _) j
  simpa using this
theorem low_and {i k : Nat} (h : 2 ^ i * (2 * k + 1) < 18446744073709551616) : (2 ^ i * (2 * k + 1)) &&& (18446744073709551616 - 2 ^ i * (2 * k + 1)) = 2 ^ i := by
  have hp := Nat.two_pow_pos i
  have hz : 0 < 2 ^ i * (2 * k + 1) := Nat.mul_pos hp (by omega)
  have hi : i < 64 := by
    by_cases hi : i < 64
    · exact hi
    · have : 2 ^ 64 ≤ 2 ^ i := Nat.pow_le_pow_right (by omega) (by omega)
      have h2 : 2 ^ i * 1 ≤ 2 ^ i * (2 * k + 1) := Nat.mul_le_mul_left _ (by omega)
      omega
  have e : 2 ^ i * (2 * k + 1) - 1 = 2 ^ i * (2 * k) + (2 ^ i - 1) := by rw [Nat.mul_add]; omega
  apply Nat.eq_of_testBit_eq
  intro j
  rw [Nat.testBit_and, Nat.testBit_two_pow]
  have h1 := Nat.testBit_two_pow_sub_succ (n := 64) (x := 2 ^ i * (2 * k + 1) - 1) (by omega) j
  rw [show 2 ^ 64 - (2 ^ i * (2 * k + 1) - 1 + 1) = 18446744073709551616 - 2 ^ i * (2 * k + 1) by omega] at h1
  rw [h1, e, Nat.testBit_two_pow_mul_add _ (by omega) j, low_bits]
  by_cases hj : j < i
  · simp [hj]; omega
  · simp only [hj, if_false]
    by_cases e2 : i = j
    · subst e2
      simp [hi]
    · have hs : j - i = (j - i - 1) + 1 := by omega
      rw [hs, Nat.testBit_succ, Nat.testBit_succ]
      rw [show (2 * k + 1) / 2 = k by omega, show (2 * k) / 2 = k by omega]
      simp only [e2, decide_false]
      cases k.testBit (j - i - 1) <;> simp
def tzTab : List Nat := [0, 1, 56, 2, 57, 49, 28, 3, 61, 58, 42, 50, 38, 29, 17, 4, 62, 47, 59, 36, 45, 43, 51, 22, 53, 39, 33, 30, 24, 18, 12, 5, 63, 55, 48, 27, 60, 41, 37, 16, 46, 35, 44, 21, 52, 32, 23, 11, 54, 26, 40, 15, 34, 20, 31, 10, 25, 14, 19, 9, 13, 8, 7, 6]
theorem wrapUI (a : Int) : IntKind.u64.wrap a = a % 18446744073709551616 := by
  simp only [IntKind.wrap, IntKind.bits, IntKind.signed]; simp
theorem negU {z : Nat} (h0 : 0 < z) (h : z < 18446744073709551616) : IntKind.u64.wrap (0 - (z : Int)) = ((18446744073709551616 - z : Nat) : Int) := by
  rw [wrapUI]; omega
theorem tzQ (t : Nat) : ((t : Int)).fdiv (2 ^ min (Int.toNat 58) IntKind.u64.bits) = ((t / 288230376151711744 : Nat) : Int) := by
  have e : (2 ^ min (Int.toNat 58) IntKind.u64.bits : Int) = 288230376151711744 := by decide
  rw [e, Int.fdiv_eq_ediv_of_nonneg _ (by omega)]; omega
theorem tzM (y : Nat) : (IntKind.u64.wrap ((y : Int) * 285870213051353865)).fdiv (2 ^ min (Int.toNat 58) IntKind.u64.bits) = ((y * 285870213051353865 % 18446744073709551616 / 288230376151711744 : Nat) : Int) := by
  rw [show ((y : Int) * 285870213051353865) = ((y * 285870213051353865 : Nat) : Int) by omega, wrapU, tzQ]
def TZ : List Atom := cellsAt 0 0 (tzTab.map cv)
theorem tz_all : ∀ i, i < 64 → (2 ^ i * 285870213051353865 % 18446744073709551616) / 288230376151711744 < 64 ∧ tzTab[(2 ^ i * 285870213051353865 % 18446744073709551616) / 288230376151711744]? = some i := by decide
theorem tz_mem {i j : Nat} (h : tzTab[j]? = some i) : Atom.cell 0 j (cv i) ∈ TZ := mem_cellsAt.2 ⟨j, cv i, by simp [h], by simp⟩
def nextO (obs : List Ob) (w e : Nat) : Option Ob := obs.find? fun b => decide (w ≤ b.at_ ∧ b.at_ < e)
def nextV (r : Option Ob) : Int := match r with | some b => b.at_ | none => -1
theorem nextO_none {obs : List Ob} {w e : Nat} (h : ∀ b ∈ obs, ¬ (w ≤ b.at_ ∧ b.at_ < e)) : nextO obs w e = none := by
  unfold nextO
  rw [List.find?_eq_none]
  intro b hb; simpa using h b hb
theorem nextO_some {obs : List Ob} (hs : obs.Pairwise fun a b => a.stop ≤ b.at_) {w e : Nat} {b : Ob} (hb : b ∈ obs) (h1 : w ≤ b.at_) (h2 : b.at_ < e) (hn : ∀ c ∈ obs, ¬ (w ≤ c.at_ ∧ c.at_ < b.at_)) : nextO obs w e = some b := by
  unfold nextO
  induction obs with
  | nil => cases hb
  | cons x r ih =>
    obtain ⟨p1, p2⟩ := List.pairwise_cons.1 hs
    by_cases hx : w ≤ x.at_ ∧ x.at_ < e
    · rw [List.find?_cons_of_pos (by simpa using hx)]
      rcases List.mem_cons.1 hb with rfl | hb'
      · rfl
      · have := p1 b hb'
        unfold Ob.stop at this
        exact absurd ⟨hx.1, by omega⟩ (hn x (by simp))
    · rw [List.find?_cons_of_neg (by simpa using hx)]
      rcases List.mem_cons.1 hb with rfl | hb'
      · exact absurd ⟨h1, h2⟩ hx
      · exact ih p2 hb' (fun c hc => hn c (by simp [hc]))
def atsA (a : AH) : List Nat := a.obs.map (·.at_)
def roomR (a : AH) (sp : Nat) : Nat × Nat × Nat := (a.rm[sp]?).getD (0, 0, 0)
def roomL (a : AH) (sp : Nat) : List Nat := (atsA a).filter fun v => decide ((roomR a sp).1 ≤ v ∧ v < (roomR a sp).2.1)
def nextN (l : List Nat) (w e : Nat) : Int := match l.find? (fun v => decide (w ≤ v ∧ v < e)) with | some v => (v : Int) | none => -1
theorem nextV_N (obs : List Ob) (w e : Nat) : nextV (nextO obs w e) = nextN (obs.map (·.at_)) w e := by
  unfold nextV nextO nextN
  rw [List.find?_map]
  show _ = match (obs.find? fun b => decide (w ≤ b.at_ ∧ b.at_ < e)).map (·.at_) with | some v => (v : Int) | none => -1
  cases obs.find? fun b => decide (w ≤ b.at_ ∧ b.at_ < e) <;> rfl
def headI : List Nat → Int
  | [] => -1
  | v :: _ => v
theorem nextN_head (l : List Nat) (w e : Nat) : nextN l w e = headI (l.filter fun v => decide (w ≤ v ∧ v < e)) := by
  unfold nextN
  rw [← List.head?_filter]
  cases l.filter (fun v => decide (w ≤ v ∧ v < e)) <;> rfl
theorem sorted_drop {W : List Nat} (h : W.Pairwise (· < ·)) {i u : Nat} (hu : W[i]? = some u) : (W.filter fun v => decide (u < v)) = W.drop (i + 1) := by
  induction W generalizing i with
  | nil => simp at hu
  | cons v r ih =>
    obtain ⟨h1, h2⟩ := List.pairwise_cons.1 h
    cases i with
    | zero =>
      obtain rfl : v = u := by simpa using hu
      rw [List.filter_cons_of_neg (by simp), List.drop_one, List.tail_cons]
      exact List.filter_eq_self.2 (fun y hy => by simpa using h1 y hy)
    | succ i =>
      simp only [List.getElem?_cons_succ] at hu
      have : v < u := h1 u (List.mem_of_getElem? hu)
      rw [List.filter_cons_of_neg (by simp; omega), List.drop_succ_cons]
      exact ih h2 hu
theorem atsA_sort {x : HW} (hx : HOk x) : (atsA x.a).Pairwise (· < ·) := by
  unfold atsA
  rw [List.pairwise_map]
  exact hx.lay.sort.imp (fun {a b} h => by unfold Ob.stop at h; omega)
theorem roomL_sort {x : HW} (hx : HOk x) (sp : Nat) : (roomL x.a sp).Pairwise (· < ·) := (atsA_sort hx).sublist List.filter_sublist
theorem next_first (a : AH) (sp : Nat) : nextN (atsA a) (roomR a sp).1 (roomR a sp).2.1 = headI (roomL a sp) := nextN_head _ _ _
theorem next_next {x : HW} (hx : HOk x) {sp i u : Nat} (hu : (roomL x.a sp)[i]? = some u) : nextN (atsA x.a) (u + 1) (roomR x.a sp).2.1 = headI ((roomL x.a sp).drop (i + 1)) := by
  rw [nextN_head, ← sorted_drop (roomL_sort hx sp) hu]
  unfold roomL
  rw [List.filter_filter]
  have hm := List.mem_of_getElem? hu
  have hr : (roomR x.a sp).1 ≤ u ∧ u < (roomR x.a sp).2.1 := by
    have := (List.mem_filter.1 hm).2
    simpa using this
  congr 1
  apply List.filter_congr
  intro v _
  rw [← Bool.decide_and, decide_eq_decide]
  omega
theorem headI_drop {l : List Nat} {i u : Nat} (hu : l[i]? = some u) : headI (l.drop i) = u := by
  rw [List.drop_eq_getElem_cons (List.getElem?_eq_some_iff.1 hu).1]
  have := (List.getElem?_eq_some_iff.1 hu).2
  rw [this]; rfl
theorem headI_end {l : List Nat} {i : Nat} (h : l.length ≤ i) : headI (l.drop i) = -1 := by rw [List.drop_of_length_le h]; rfl
theorem mem_roomL {x : HW} (hx : HOk x) {sp u : Nat} (hu : u ∈ roomL x.a sp) : 1 ≤ u ∧ u ≤ 268435455 ∧ ∃ b ∈ x.a.obs, b.at_ = u := by
  have h1 := (List.mem_filter.1 hu).1
  obtain ⟨b, hb, rfl⟩ := List.mem_map.1 h1
  have := hx.range hb
  exact ⟨this.1, this.2, b, hb, rfl⟩
def AccW (p : Nat) (x : HW) (sp : Nat) (A : List Atom) : Prop := ∃ y R, A.Perm (HA p y ++ (TZ ++ R)) ∧ HOk y ∧ atsA y.a = atsA x.a ∧ (roomR y.a sp).1 = (roomR x.a sp).1 ∧ (roomR y.a sp).2.1 = (roomR x.a sp).2.1
theorem AccW.more {p sp : Nat} {x : HW} {A : List Atom} (B : List Atom) (h : AccW p x sp A) : AccW p x sp (A ++ B) := by
  obtain ⟨y, R, h1, h2⟩ := h
  exact ⟨y, R ++ B, (h1.append_right B).trans (by simp [List.append_assoc]), h2⟩
theorem AccW.perm {p sp : Nat} {x : HW} {A B : List Atom} (e : B.Perm A) (h : AccW p x sp A) : AccW p x sp B := by
  obtain ⟨y, R, h1, h2⟩ := h
  exact ⟨y, R, e.trans h1, h2⟩
theorem AccW.refl {p sp : Nat} {x : HW} (hx : HOk x) {R : List Atom} : AccW p x sp (HA p x ++ (TZ ++ R)) := ⟨x, R, .refl _, hx, rfl, rfl, rfl⟩
theorem ha_room (p : Nat) (x : HW) {sp : Nat} {r : Nat × Nat × Nat} (hr : x.a.rm[sp]? = some r) : ∃ R, (HA p x).Perm (cellsAt p (2 + sp * 3) (rmEnc r) ++ R) := by
  have hl := (List.getElem?_eq_some_iff.1 hr).1
  have e : x.a.rm = x.a.rm.take sp ++ r :: x.a.rm.drop (sp + 1) := by
    have := (List.getElem?_eq_some_iff.1 hr).2
    rw [← this, ← List.drop_eq_getElem_cons hl, List.take_append_drop]
  have hlen : ∀ l : List (Nat × Nat × Nat), (l.flatMap rmEnc).length = l.length * 3 := by
    intro l
    induction l with
    | nil => rfl
    | cons y l ih => rw [List.flatMap_cons, List.length_append, ih, List.length_cons]; show 3 + _ = _; omega
  have h2 : cellsAt p 2 (x.a.rm.flatMap rmEnc) = cellsAt p 2 ((x.a.rm.take sp).flatMap rmEnc) ++ (cellsAt p (2 + sp * 3) (rmEnc r) ++ cellsAt p (2 + sp * 3 + 3) ((x.a.rm.drop (sp + 1)).flatMap rmEnc)) := by
    rw [e, List.flatMap_append, List.flatMap_cons, cellsAt_append, cellsAt_append, hlen, List.length_take, Nat.min_eq_left (by omega)]
    rw [← e]; rfl
  have h3 : ∃ R, (cellsAt p 2 (x.a.rm.flatMap rmEnc)).Perm (cellsAt p (2 + sp * 3) (rmEnc r) ++ R) := ⟨_, by rw [h2]; exact perm_lead _ _ _⟩
  obtain ⟨R, hR⟩ := h3
  refine ⟨R ++ (cellsAt p 0 [arrV x.wb x.ws, arrV x.sb x.st] ++ (cellsAt p 4180 [x.kv, x.qv, x.nv, .map (some x.mb), vi x.a.given] ++ (cellsAt p 20 (x.a.sp.map uv) ++ (cellsAt p 84 (x.a.cl.map uv) ++
   (cellsAt x.wb 0 (x.ws.map uv) ++ (cellsAt x.sb 0 (x.st.map uv) ++ (slA x.kv (x.a.stack.map uv) x.ks ++ (slA x.qv (x.a.queue.map uv) x.qs ++ (slA x.nv (x.a.noted.map uv) x.ns ++ [.obj x.mb (.map x.es x.mc)]))))))))), ?_⟩
  unfold HA HMem
  simp only [List.flatten_cons, List.flatten_nil, List.append_nil]
  generalize cellsAt p 2 _ = A at hR ⊢
  generalize cellsAt p (2 + sp * 3) _ = B at hR ⊢
  generalize cellsAt p 0 _ = C
  generalize cellsAt p 4180 _ = D
  rw [← List.append_assoc C D]
  refine (perm_lead (C ++ D) A _).trans ?_
  refine (hR.append_right _).trans ?_
  simp [List.append_assoc]
theorem getO_updO {w : Nat} {f : Ob → Ob} (hf : Keep f) (obs : List Ob) (o : Nat) : getO (updO w f obs) o = (getO obs o).map fun b => if b.at_ = w then f b else b := by
  unfold getO updO
  rw [List.find?_map]
  congr 1
  congr 1
  funext b
  show decide ((if b.at_ = w then f b else b).oop = o) = _
  have : (if b.at_ = w then f b else b).oop = b.oop := by split <;> simp [Ob.oop, hf.at_]
  rw [this]
theorem spaceO_upd {w : Nat} {f : Ob → Ob} (hf : Keep f) (a : AH) (o : Nat) : spaceO { a with obs := updO w f a.obs } o = spaceO a o := by
  unfold spaceO
  rw [show getO ({ a with obs := updO w f a.obs } : AH).obs o = _ from getO_updO hf a.obs o]
  cases getO a.obs o with
  | none => rfl
  | some b =>
    show spaceW a.rm (if b.at_ = w then f b else b).at_ = spaceW a.rm b.at_
    have : (if b.at_ = w then f b else b).at_ = b.at_ := by split <;> simp [hf.at_]
    rw [this]
theorem youngO_upd {w : Nat} {f : Ob → Ob} (hf : Keep f) (a : AH) (o : Nat) : youngO { a with obs := updO w f a.obs } o = youngO a o := by
  unfold youngO; rw [spaceO_upd hf]
theorem inRm_eq {a b : AH} (h : ∀ i, (roomR b i).1 = (roomR a i).1 ∧ (roomR b i).2.1 = (roomR a i).2.1) (i w : Nat) : inRm b.rm i w = inRm a.rm i w := by
  have := h i
  unfold roomR at this
  unfold inRm; rw [this.1, this.2]
theorem spaceW_eq {a b : AH} (h : ∀ i, (roomR b i).1 = (roomR a i).1 ∧ (roomR b i).2.1 = (roomR a i).2.1) (w : Nat) : spaceW b.rm w = spaceW a.rm w := by
  unfold spaceW; simp only [inRm_eq h]
theorem youngO_ins {x y : HW} (hx : HOk x) (hy : HOk y) {b : Ob} (ho : y.a.obs = insO b x.a.obs) (hr : ∀ i, (roomR y.a i).1 = (roomR x.a i).1 ∧ (roomR y.a i).2.1 = (roomR x.a i).2.1) (hb : 4 ≤ spaceW x.a.rm b.at_) {v : Nat} (h : youngO x.a v = false) : youngO y.a v = false := by
  unfold youngO spaceO at h ⊢
  cases e : getO y.a.obs v with
  | none => simp
  | some c =>
    obtain ⟨h1, rfl⟩ := getO_some e
    rw [ho] at h1
    simp only [spaceW_eq hr]
    rcases mem_insO.1 h1 with rfl | h1
    · rw [decide_eq_false_iff_not]; omega
    · rw [getO_mem hx.lay.sort h1] at h
      exact h
def fillB (i v : Nat) (b : Ob) : Ob := { b with body := List.replicate i v ++ b.body.drop i }
theorem keep_fillB (i v : Nat) : Keep (fillB i v) := ⟨fun _ => rfl, fun _ => rfl⟩
theorem updO_congr {w : Nat} {f g : Ob → Ob} {obs : List Ob} (h : ∀ c ∈ obs, c.at_ = w → f c = g c) : updO w f obs = updO w g obs := by
  unfold updO
  refine List.map_congr_left (fun c hc => ?_)
  split
  · rename_i e; exact h c hc e
  · rfl
theorem updO_updO {w : Nat} {f g : Ob → Ob} (hf : Keep f) {obs : List Ob} : updO w g (updO w f obs) = updO w (fun b => g (f b)) obs := by
  unfold updO
  rw [List.map_map]
  refine List.map_congr_left (fun c _ => ?_)
  simp only [Function.comp]
  by_cases e : c.at_ = w
  · simp only [if_pos e]; rw [if_pos (by rw [hf.at_]; exact e)]
  · simp only [if_neg e]
theorem updO_id {w : Nat} {f : Ob → Ob} {obs : List Ob} (h : ∀ c ∈ obs, c.at_ = w → f c = c) : updO w f obs = obs := by
  rw [updO_congr (g := id) h]
  unfold updO
  have : (fun b : Ob => if b.at_ = w then id b else b) = id := by funext b; simp
  rw [this, List.map_id]
theorem fillB_step {i v : Nat} {b : Ob} (h : i < b.body.length) : setB i v (fillB i v b) = fillB (i + 1) v b := by
  have e : (List.replicate i v ++ b.body.drop i).set i v = List.replicate (i + 1) v ++ b.body.drop (i + 1) := by
    rw [List.set_append_right _ _ (by simp), List.length_replicate, Nat.sub_self, List.drop_eq_getElem_cons h, List.set_cons_zero, List.replicate_succ', List.append_assoc]; rfl
  simp only [setB, fillB, e]
def filledA (a : AH) (w n : Nat) : AH := { a with obs := updO w (fillB n (a.sp.headD 0)) a.obs }
theorem space_of {x : HW} (hx : HOk x) {sp w : Nat} {r : Nat × Nat × Nat} (h1 : 1 ≤ sp) (h5 : sp ≤ 5) (hr : x.a.rm[sp]? = some r) (hw : r.1 ≤ w ∧ w < r.2.1) : spaceW x.a.rm w = sp := by
  refine spaceW_some h1 h5 ?_ (fun j j1 j2 => ?_)
  · unfold inRm; rw [hr]; exact decide_eq_true hw
  · obtain ⟨t, ht⟩ : ∃ t, x.a.rm[j]? = some t := ⟨_, List.getElem?_eq_getElem (by rw [hx.rm.len]; omega)⟩
    unfold inRm; rw [ht]
    refine decide_eq_false (fun h => ?_)
    simp only [Option.getD_some] at h
    have k1 := hx.rm.rng j t ht
    have k2 := hx.rm.rng sp r hr
    rcases hx.rm.apart j sp t r j2 ht hr j1 with h2 | h2 <;> omega
def hdOf (c f n : Nat) : Hd := if f = 5 then ⟨c, 5, (n + 7) / 8 * 8 - n, 0, 0, (n + 7) / 8, false, false⟩ else ⟨c, f, 0, 0, 0, n, false, false⟩
theorem hdOf_may {c f n : Nat} (hc : c ≤ 4095) (hf : 1 ≤ f ∧ f ≤ 5) (hn : n ≤ 65536) (h3 : f = 3 → 0 < n) : (hdOf c f n).May := by
  unfold hdOf
  split
  · exact ⟨hc, by simp, by simp, by simp only; omega, by simp only; omega, by simp, by simp, by simp, by simp, by simp only; intro h; rw [if_neg (by decide)]; omega⟩
  · rename_i h5
    exact ⟨hc, by simp, by simp, hn, by simp, by simp only; omega, by simp, h3, by simp only; omega, by simp⟩
def metM (l : List Nat) : List (Nat × Nat) := l.zipIdx.map fun q => (q.1, q.2 + 1)
def meetA (a : AH) (l : List Nat) (o : Nat) : List Nat := if o ∈ l then l else if (getO a.obs o).isSome then l ++ [o] else l
def kidsA (a : AH) (o : Nat) : List Nat := match getO a.obs o with | some b => b.body.take b.many | none => []
def rootsA (a : AH) : List Nat := a.sp ++ (a.cl ++ (a.stack ++ a.queue))
def rootedA (a : AH) : List Nat := (rootsA a).foldl (meetA a) []
theorem meetA_nodup {a : AH} {l : List Nat} {o : Nat} (h : l.Nodup) : (meetA a l o).Nodup := by
  unfold meetA
  split
  · exact h
  · rename_i hn
    split
    · rw [List.nodup_append]; exact ⟨h, by simp, fun x hx y hy e => by rw [List.mem_singleton.1 hy] at e; exact hn (e ▸ hx)⟩
    · exact h
theorem meetA_obs {a : AH} {l : List Nat} {o : Nat} (h : ∀ x ∈ l, (getO a.obs x).isSome = true) : ∀ x ∈ meetA a l o, (getO a.obs x).isSome = true := by
  unfold meetA
  split
  · exact h
  · split
    · rename_i hs
      intro x hx
      rcases List.mem_append.1 hx with hx | hx
      · exact h x hx
      · rw [List.mem_singleton.1 hx]; exact hs
    · exact h
theorem meets_nodup {a : AH} : ∀ {ks l : List Nat}, l.Nodup → (ks.foldl (meetA a) l).Nodup := by
  intro ks
  induction ks with
  | nil => intro l h; exact h
  | cons k ks ih => intro l h; exact ih (meetA_nodup h)
theorem meets_obs {a : AH} : ∀ {ks l : List Nat}, (∀ x ∈ l, (getO a.obs x).isSome = true) → ∀ x ∈ ks.foldl (meetA a) l, (getO a.obs x).isSome = true := by
  intro ks
  induction ks with
  | nil => intro l h; exact h
  | cons k ks ih => intro l h; exact ih (meetA_obs h)
theorem nodup_le : ∀ {l m : List Nat}, l.Nodup → (∀ x ∈ l, x ∈ m) → l.length ≤ m.length := by
  intro l
  induction l with
  | nil => intro m _ _; exact Nat.zero_le _
  | cons x r ih =>
    intro m hn h
    obtain ⟨h1, h2⟩ := List.nodup_cons.1 hn
    have hx := h x (by simp)
    have := ih (m := m.erase x) h2 (fun y hy => by
      have hne : y ≠ x := fun e => h1 (e ▸ hy)
      exact (List.mem_erase_of_ne hne).2 (h y (by simp [hy])))
    rw [List.length_erase_of_mem hx] at this
    have hp : 0 < m.length := List.length_pos_of_mem hx
    simp only [List.length_cons]; omega
theorem line_len {a : AH} {l : List Nat} (hn : l.Nodup) (h : ∀ x ∈ l, (getO a.obs x).isSome = true) : l.length ≤ a.obs.length := by
  have := nodup_le (m := a.obs.map Ob.oop) hn (fun x hx => by
    obtain ⟨b, hb⟩ := Option.isSome_iff_exists.1 (h x hx)
    obtain ⟨h1, h2⟩ := getO_some hb
    exact List.mem_map.2 ⟨b, h1, h2⟩)
  simpa using this
structure LN where
  l : List Nat
  lv : Value
  ls : List Value
  mb : Nat
  es : Array MapEntry
  mc : Nat
structure LOk (a : AH) (n : LN) : Prop where
  sl : IsSl 1 n.lv n.l.length (n.l.map uv) n.ls
  map : MapIs kU (fun i : Nat => vi i) n.es n.mc (metM n.l)
  nodup : n.l.Nodup
  obs : ∀ x ∈ n.l, (getO a.obs x).isSome = true
theorem slA_mem {b o n c i u : Nat} {xs : List Nat} {sp : List Value} (h : xs[i]? = some u) : Atom.cell b (o + i) (uv u) ∈ slA (.slice (some ⟨b, o, none⟩) n c) (xs.map uv) sp := by
  have hi := (List.getElem?_eq_some_iff.1 h).1
  refine mem_cellsAt.2 ⟨i, uv u, ?_, rfl⟩
  rw [List.getElem?_append_left (by simpa using hi)]; simp [h]
section
variable {P : Program} {n : Nat} {rs : List RO} {Γ : Env} {H : SH} {Z : List PanicEntry → Env → SH → Prop} {K : Env → SH → Prop} {d : Option Nat}
theorem st_storeS {x y : Operand} {b o i k m nn c : Nat} {xs : List Nat} {sp : List Value} {R : SH} (hx : ev Γ x = some (.pointer (some ⟨b, k, none⟩))) (hy : ev Γ y = some (uv m)) (ht : Tk H (slA (.slice (some ⟨b, o, none⟩) nn c) (xs.map uv) sp) R) (hk : o + i = k) (hi : i < xs.length)
    (h : VO P n rs (putE d undef Γ) (slA (.slice (some ⟨b, o, none⟩) nn c) ((xs.set i m).map uv) sp :: R) Z K) : VO P n (⟨d, none, .store 1 x y⟩ :: rs) Γ H Z K := by
  refine VO.perm (H' := cellsAt b o (xs.map uv ++ sp) :: R) (by have := ht.perm; simp only [slA] at this; simpa using this) ?_
  refine st_store' (us := [uv m]) hx hy rfl rfl rfl (Upd.set1 (i := i) hk (by simp; omega)) ?_
  rw [List.set_append_left _ _ (by simpa using hi), ← List.map_set]; exact h
end
def setMk (m : Bool) (h : Hd) : Hd := { h with marked := m }
def setFm (h : Hd) : Hd := { h with fmt := 1 }
def mkB (l : List Nat) (b : Ob) : Ob := setH (setMk (decide (b.oop ∈ l))) b
def markA (a : AH) (l : List Nat) : AH := { a with obs := a.obs.map (mkB l) }
theorem getO_map {f : Ob → Ob} (hf : ∀ b, (f b).oop = b.oop) {obs : List Ob} {o : Nat} : getO (obs.map f) o = (getO obs o).map f := by
  unfold getO
  rw [List.find?_map]
  congr 2
  funext b
  show decide ((f b).oop = o) = decide (b.oop = o)
  rw [hf]
theorem getO_mark (a : AH) (l : List Nat) (o : Nat) : getO (markA a l).obs o = (getO a.obs o).map (mkB l) := getO_map (f := mkB l) (fun _ => rfl)
theorem isO_mark (a : AH) (l : List Nat) (o : Nat) : (getO (markA a l).obs o).isSome = (getO a.obs o).isSome := by rw [getO_mark, Option.isSome_map]
theorem oop_at {b c : Ob} : b.oop = c.oop ↔ b.at_ = c.at_ := by unfold Ob.oop; omega
theorem mark_on (a : AH) (l : List Nat) (b : Ob) : { markA a l with obs := updO b.at_ (setH (setMk true)) (markA a l).obs } = markA a (l ++ [b.oop]) := by
  unfold markA updO
  simp only [List.map_map]
  congr 1
  apply List.map_congr_left
  intro c _
  simp only [Function.comp]
  have e : (mkB l c).at_ = c.at_ := rfl
  rw [e]
  by_cases h : c.at_ = b.at_
  · rw [if_pos h]
    unfold mkB setH setMk
    have : c.oop ∈ l ++ [b.oop] := List.mem_append_right _ (by rw [List.mem_singleton, oop_at]; exact h)
    rw [decide_eq_true this]
  · rw [if_neg h]
    unfold mkB setH setMk
    have : c.oop ∈ l ++ [b.oop] ↔ c.oop ∈ l := by
      rw [List.mem_append, List.mem_singleton, oop_at]
      exact ⟨fun k => k.resolve_right h, .inl⟩
    rw [show decide (c.oop ∈ l ++ [b.oop]) = decide (c.oop ∈ l) from by rw [decide_eq_decide]; exact this]
theorem mark_off (a : AH) (l : List Nat) (b : Ob) : { markA a l with obs := updO b.at_ (setH (setMk false)) (markA a l).obs } = markA a (l.filter fun o => decide (o ≠ b.oop)) := by
  unfold markA updO
  simp only [List.map_map]
  congr 1
  apply List.map_congr_left
  intro c _
  simp only [Function.comp]
  have e : (mkB l c).at_ = c.at_ := rfl
  rw [e]
  by_cases h : c.at_ = b.at_
  · rw [if_pos h]
    unfold mkB setH setMk
    have : ¬ c.oop ∈ l.filter fun o => decide (o ≠ b.oop) := fun k => by
      have := (List.mem_filter.1 k).2
      simp only [ne_eq, decide_not, Bool.not_eq_true', decide_eq_false_iff_not] at this
      exact this (oop_at.2 h)
    rw [decide_eq_false this]
  · rw [if_neg h]
    unfold mkB setH setMk
    have : c.oop ∈ (l.filter fun o => decide (o ≠ b.oop)) ↔ c.oop ∈ l := by
      rw [List.mem_filter]
      exact ⟨fun k => k.1, fun k => ⟨k, by simpa [oop_at] using h⟩⟩
    rw [show decide (c.oop ∈ l.filter fun o => decide (o ≠ b.oop)) = decide (c.oop ∈ l) from by rw [decide_eq_decide]; exact this]
theorem mark_same (a : AH) {l m : List Nat} (h : ∀ o, o ∈ l ↔ o ∈ m) : markA a l = markA a m := by
  unfold markA
  congr 1
  apply List.map_congr_left
  intro c _
  unfold mkB
  rw [show decide (c.oop ∈ l) = decide (c.oop ∈ m) from by rw [decide_eq_decide]; exact h _]
theorem mark_in (a : AH) {l : List Nat} {o : Nat} (h : o ∈ l) : markA a (l ++ [o]) = markA a l :=
  mark_same a fun x => by
    rw [List.mem_append, List.mem_singleton]
    exact ⟨fun k => k.elim id (fun e => e ▸ h), .inl⟩
theorem ats_mark (a : AH) (l : List Nat) : atsA (markA a l) = atsA a := by
  unfold atsA markA
  simp only [List.map_map]
  rfl
theorem room_mark (a : AH) (l : List Nat) (sp : Nat) : roomL (markA a l) sp = roomL a sp := by
  unfold roomL
  rw [ats_mark]; rfl
structure MS where
  a : AH
  line : List Nat
  waiting : List Nat
  fired : List Nat
def keyA (a : AH) (o : Nat) : Nat := match getO a.obs o with | some b => b.body.headD 0 | none => 0
def fmtO (a : AH) (o : Nat) : Nat := match getO a.obs o with | some b => b.hd.fmt | none => 0
def waitsM (s : MS) (o : Nat) : Bool := (getO s.a.obs (keyA s.a o)).isSome && !decide (keyA s.a o ∈ s.line)
def allM (s : MS) (o : Nat) : MS := { s with line := (kidsA s.a o).foldl (meetA s.a) s.line }
def waitM (s : MS) (o : Nat) : MS := { s with waiting := s.waiting ++ [o] }
def oneM (s : MS) (o : Nat) : MS := if fmtO s.a o = 3 then (if waitsM s o then waitM s o else allM s o) else if fmtO s.a o = 1 ∨ fmtO s.a o = 6 then allM s o else s
def againS (s : MS) (o : Nat) : MS := if waitsM s o then waitM s o else allM s o
def againM (s : MS) : MS := s.waiting.foldl againS { s with waiting := [] }
def fmA (a : AH) (o : Nat) : AH := { a with obs := updO (o / 8) (setH setFm) a.obs }
def fireS (s : MS) (o : Nat) : MS := allM { s with a := fmA s.a o } o
def fireM (s : MS) : MS := s.waiting.foldl fireS { s with waiting := [], fired := s.fired ++ s.waiting }
inductive MStep : MS × Nat → MS × Nat → Prop
  | one {s : MS} {i o : Nat} : s.line[i]? = some o → MStep (s, i) (oneM s o, i + 1)
  | again {s : MS} {i : Nat} : i = s.line.length → (againM s).waiting.length < s.waiting.length → MStep (s, i) (againM s, i)
  | fire {s : MS} {i : Nat} : i = s.line.length → ¬ (againM s).waiting.length < s.waiting.length → (againM s).waiting ≠ [] → MStep (s, i) (fireM (againM s), i)
inductive MSteps : MS × Nat → MS × Nat → Prop
  | refl (s : MS × Nat) : MSteps s s
  | more {s t u : MS × Nat} : MSteps s t → MStep t u → MSteps s u
structure MOk (s : MS) : Prop where
  nd : s.line.Nodup
  ob : ∀ o ∈ s.line, (getO s.a.obs o).isSome = true
  wt : ∀ o ∈ s.waiting, ∃ b, getO s.a.obs o = some b ∧ b.hd.fmt ≤ 3 ∧ 0 < b.hd.slots
  
theorem MOk.all {s : MS} (h : MOk s) (o : Nat) : MOk (allM s o) := ⟨meets_nodup h.nd, meets_obs h.ob, h.wt⟩
theorem MOk.meet {s : MS} (h : MOk s) (o : Nat) : MOk { s with line := meetA s.a s.line o } := ⟨meetA_nodup h.nd, meetA_obs h.ob, h.wt⟩
theorem MOk.wait {s : MS} (h : MOk s) {o : Nat} {b : Ob} (hb : getO s.a.obs o = some b) (h3 : b.hd.fmt ≤ 3) (h0 : 0 < b.hd.slots) : MOk (waitM s o) :=
  ⟨h.nd, h.ob, fun x hx => by
    rcases List.mem_append.1 hx with hx | hx
    · exact h.wt x hx
    · rw [List.mem_singleton.1 hx]; exact ⟨b, hb, h3, h0⟩⟩
theorem MOk.one {s : MS} (h : MOk s) (hok : ∀ b ∈ s.a.obs, b.Ok) (o : Nat) : MOk (oneM s o) := by
  unfold oneM
  split
  · rename_i h3
    split
    · cases hb : getO s.a.obs o with
      | none => unfold fmtO at h3; rw [hb] at h3; cases h3
      | some b =>
        unfold fmtO at h3
        rw [hb] at h3
        simp only at h3
        exact h.wait hb (by omega) ((hok b (getO_some hb).1).may.eph h3)
    · exact h.all o
  · split
    · exact h.all o
    · exact h
theorem MOk.againS {s : MS} (h : MOk s) {o : Nat} {b : Ob} (hb : getO s.a.obs o = some b) (h3 : b.hd.fmt ≤ 3) (h0 : 0 < b.hd.slots) : MOk (V.againS s o) ∧ (V.againS s o).a = s.a ∧ (V.againS s o).fired = s.fired := by
  unfold V.againS
  split
  · exact ⟨h.wait hb h3 h0, rfl, rfl⟩
  · exact ⟨h.all o, rfl, rfl⟩
theorem getO_fm (a : AH) (w o : Nat) : getO (fmA a o).obs w = (getO a.obs w).map fun b => if b.at_ = o / 8 then setH setFm b else b :=
  getO_map (fun b => by split <;> rfl)
theorem isO_fm (a : AH) (o w : Nat) : (getO (fmA a o).obs w).isSome = (getO a.obs w).isSome := by rw [getO_fm, Option.isSome_map]
theorem MOk.fm {s : MS} (h : MOk s) {o : Nat} : MOk { s with a := fmA s.a o } := by
  refine ⟨h.nd, fun x hx => by rw [isO_fm]; exact h.ob x hx, fun x hx => ?_⟩
  obtain ⟨b, hb, h3, h0⟩ := h.wt x hx
  refine ⟨if b.at_ = o / 8 then setH setFm b else b, by rw [getO_fm, hb]; rfl, ?_, ?_⟩
  · by_cases e : b.at_ = o / 8
    · rw [if_pos e]; show 1 ≤ 3; omega
    · rw [if_neg e]; exact h3
  · by_cases e : b.at_ = o / 8
    · rw [if_pos e]; exact h0
    · rw [if_neg e]; exact h0
theorem fm_mark (a : AH) (l : List Nat) (o : Nat) : fmA (markA a l) o = markA (fmA a o) l := by
  unfold fmA markA updO
  simp only [List.map_map]
  congr 1
  apply List.map_congr_left
  intro c _
  simp only [Function.comp]
  have e : (mkB l c).at_ = c.at_ := rfl
  rw [e]
  by_cases h : c.at_ = o / 8
  · rw [if_pos h, if_pos h]; rfl
  · rw [if_neg h, if_neg h]
end Go.V

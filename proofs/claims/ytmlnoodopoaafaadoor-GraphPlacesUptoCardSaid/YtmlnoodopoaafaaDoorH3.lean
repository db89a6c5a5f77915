/-
  A heap with one object more.
-/
import Derived.Test.YtmlnoodopoaafaaDoorH2
set_option linter.unusedSimpArgs false
set_option linter.unusedVariables false
namespace Go.V
open Go
theorem HOk.newO {x : HW} (hx : HOk x) {sp : Nat} {r : Nat × Nat × Nat} (h1 : 1 ≤ sp) (hr : x.a.rm[sp]? = some r) {b : Ob} (hb : b.Ok) (hap : ∀ c ∈ x.a.obs, c.stop ≤ b.at_ ∨ b.stop ≤ c.at_) (hlo : r.1 ≤ b.at_) (hhi : b.stop ≤ r.2.1)
    {rm' : List (Nat × Nat × Nat)} (hrm : (sp = 5 ∧ rm' = x.a.rm) ∨ (sp ≠ 5 ∧ b.at_ = r.2.2 ∧ rm' = x.a.rm.set sp (r.1, r.2.1, b.stop)))
    {ws' : List Nat} (hl : ws'.length = x.ws.length) (hs : ∀ y ∈ ws', y < 18446744073709551616)
    (hout : ∀ i, ¬ (b.at_ ≤ i ∧ i < b.stop) → ws'[i]? = x.ws[i]?) (hh : ws'[b.at_]? = some (pk b.hd) ∧ ws'[b.at_ + 1]? = some b.hd.slots) (hbd : ∀ i < b.hd.slots, ws'[b.at_ + 2 + i]? = b.body[i]?) :
    HOk { x with a := { x.a with rm := rm', obs := insO b x.a.obs }, ws := ws', st := setBit x.st b.at_ true } := by
  have hlow := hx.rm.low sp r h1 hr
  have hrg := hx.rm.rng sp r hr
  have hget : ∀ i, ∃ f : Nat × Nat × Nat → Nat, ∀ s, rm'[i]? = some s → ∃ t, x.a.rm[i]? = some t ∧ s.1 = t.1 ∧ s.2.1 = t.2.1 ∧ (s.2.2 = t.2.2 ∨ (i = sp ∧ s.2.2 = b.stop)) := fun i => ⟨fun _ => 0, fun s hs' => by
    rcases hrm with ⟨_, rfl⟩ | ⟨_, _, rfl⟩
    · exact ⟨s, hs', rfl, rfl, .inl rfl⟩
    · rw [List.getElem?_set] at hs'
      split at hs'
      · rename_i e
        subst e
        split at hs'
        · simp only [Option.some.injEq] at hs'; subst hs'; exact ⟨r, hr, rfl, rfl, .inr ⟨rfl, rfl⟩⟩
        · cases hs'
      · exact ⟨s, hs', rfl, rfl, .inl rfl⟩⟩
  have hget2 : ∀ i t, x.a.rm[i]? = some t → ∃ s, rm'[i]? = some s ∧ s.1 = t.1 ∧ s.2.1 = t.2.1 ∧ ((i ≠ sp ∧ s = t) ∨ (i = sp ∧ (sp ≠ 5 → s.2.2 = b.stop ∧ t.2.2 = b.at_))) := fun i t ht => by
    rcases hrm with ⟨e5, rfl⟩ | ⟨_, e2, rfl⟩
    · by_cases e : i = sp
      · exact ⟨t, ht, rfl, rfl, .inr ⟨e, fun h => absurd e5 h⟩⟩
      · exact ⟨t, ht, rfl, rfl, .inl ⟨e, rfl⟩⟩
    · by_cases e : i = sp
      · subst e
        rw [hr] at ht; cases ht
        exact ⟨_, List.getElem?_set_self (List.getElem?_eq_some_iff.1 hr).1, rfl, rfl, .inr ⟨rfl, fun _ => ⟨rfl, e2.symm⟩⟩⟩
      · exact ⟨t, by rw [List.getElem?_set_ne (fun h => e h.symm)]; exact ht, rfl, rfl, .inl ⟨e, rfl⟩⟩
  refine ⟨hx.lay.ins hb (by omega) (by omega) hap hl hs hout hh hbd, ?_, hx.spl, hx.cll, hx.sps, hx.cls, hx.stks, hx.ques, hx.nots, hx.stk, hx.que, hx.note, hx.map, hx.given, hx.deep, hx.few⟩
  refine ⟨?_, ?_, ?_, ?_, ?_, ?_⟩
  · rcases hrm with ⟨_, rfl⟩ | ⟨_, _, rfl⟩
    · exact hx.rm.len
    · simpa using hx.rm.len
  · rcases hrm with ⟨_, rfl⟩ | ⟨_, _, rfl⟩
    · exact hx.rm.zero
    · show (x.a.rm.set sp _)[0]? = _
      rw [List.getElem?_set_ne (by omega)]; exact hx.rm.zero
  · intro i s hs'
    obtain ⟨_, h⟩ := hget i
    obtain ⟨t, ht, e1, e2, e3⟩ := h s hs'
    have := hx.rm.rng i t ht
    rw [hl]
    rcases e3 with e3 | ⟨rfl, e3⟩
    · omega
    · rw [hr] at ht; cases ht
      unfold Ob.stop at *; omega
  · intro i s hi hs'
    obtain ⟨_, h⟩ := hget i
    obtain ⟨t, ht, e1, e2, e3⟩ := h s hs'
    rw [e1]; exact hx.rm.low i t hi ht
  · intro i j s s2 hij hs' hs2 hi
    obtain ⟨_, h⟩ := hget i
    obtain ⟨t, ht, e1, e2, e3⟩ := h s hs'
    obtain ⟨_, h⟩ := hget j
    obtain ⟨t2, ht2, f1, f2, f3⟩ := h s2 hs2
    rw [e1, e2, f1, f2]; exact hx.rm.apart i j t t2 hij ht ht2 hi
  · intro c hc
    rcases mem_insO.1 hc with rfl | hc
    · obtain ⟨s, hs1, hs2, hs3, hs4⟩ := hget2 sp r hr
      refine ⟨sp, s, h1, hs1, by omega, ?_⟩
      split
      · omega
      · rename_i e
        rcases hs4 with ⟨h, _⟩ | ⟨_, h⟩
        · exact absurd rfl h
        · rw [(h e).1]; exact Nat.le_refl _
    · obtain ⟨i, t, hi, ht, c1, c2⟩ := hx.rm.inn c hc
      obtain ⟨s, hs1, hs2, hs3, hs4⟩ := hget2 i t ht
      refine ⟨i, s, hi, hs1, by omega, ?_⟩
      split
      · rename_i e; rw [if_pos e] at c2; omega
      · rename_i e
        rw [if_neg e] at c2
        rcases hs4 with ⟨_, rfl⟩ | ⟨e2, h⟩
        · exact c2
        · have := h (by omega)
          rw [this.1]
          unfold Ob.stop at *; omega
theorem HOk.free {x : HW} (hx : HOk x) {sp : Nat} {r : Nat × Nat × Nat} (h1 : 1 ≤ sp) (h5 : sp ≠ 5) (hr : x.a.rm[sp]? = some r) {e : Nat} (he : e ≤ r.2.1) : ∀ c ∈ x.a.obs, c.stop ≤ r.2.2 ∨ e ≤ c.at_ := by
  intro c hc
  obtain ⟨i, t, hi, ht, c1, c2⟩ := hx.rm.inn c hc
  have k1 := hx.rm.rng sp r hr
  have k2 := hx.rm.rng i t ht
  have c3 : c.stop ≤ t.2.1 := by split at c2 <;> omega
  by_cases e2 : i = sp
  · subst e2
    rw [hr] at ht; cases ht
    rw [if_neg h5] at c2
    exact .inl c2
  · by_cases h : i < sp
    · rcases hx.rm.apart i sp t r h ht hr hi with h2 | h2
      · exact .inl (by omega)
      · exact .inr (by omega)
    · rcases hx.rm.apart sp i r t (by omega) hr ht h1 with h2 | h2
      · exact .inr (by omega)
      · exact .inl (by omega)
theorem ha_words (p : Nat) (x : HW) {a m b : List Nat} (h : x.ws = a ++ (m ++ b)) : ∃ R, (HA p x).Perm (cellsAt x.wb a.length (m.map uv) ++ R) ∧ ∀ m' : List Nat, m'.length = m.length → (cellsAt x.wb a.length (m'.map uv) ++ R).Perm (HA p { x with ws := a ++ (m' ++ b) }) := by
  have key : ∀ m' : List Nat, m'.length = m.length → (HA p { x with ws := a ++ (m' ++ b) }).Perm (cellsAt x.wb a.length (m'.map uv) ++ (cellsAt p 0 [.slice (some ⟨x.wb, 0, none⟩) x.ws.length x.ws.length, .slice (some ⟨x.sb, 0, none⟩) x.st.length x.st.length] ++ (cellsAt p 4180 [x.kv, x.qv, x.nv, .map (some x.mb), vi x.a.given] ++ (cellsAt p 2 (x.a.rm.flatMap rmEnc) ++ (cellsAt p 20 (x.a.sp.map uv) ++ (cellsAt p 84 (x.a.cl.map uv) ++
      (cellsAt x.wb 0 (a.map uv) ++ (cellsAt x.wb (a.length + m.length) (b.map uv) ++ (cellsAt x.sb 0 (x.st.map uv) ++ (slA x.kv (x.a.stack.map uv) x.ks ++ (slA x.qv (x.a.queue.map uv) x.qs ++ (slA x.nv (x.a.noted.map uv) x.ns ++ [.obj x.mb (.map x.es x.mc)])))))))))))) := by
    intro m' hm
    have hl : (a ++ (m' ++ b)).length = x.ws.length := by rw [h]; simp [hm]
    simp only [HA, HMem, arrV, hl, List.flatten_cons, List.flatten_nil, List.append_nil, List.map_append, cellsAt_append, List.length_map, Nat.zero_add, hm]
    generalize cellsAt p 0 _ = A1
    generalize cellsAt p 4180 _ = A2
    generalize cellsAt p 2 _ = A3
    generalize cellsAt p 20 _ = A4
    generalize cellsAt p 84 _ = A5
    generalize cellsAt x.wb 0 _ = A6
    generalize cellsAt x.wb a.length _ = A7
    generalize cellsAt x.wb (a.length + m.length) _ = A8
    generalize cellsAt x.sb 0 _ = A9
    generalize slA x.kv _ _ = A10
    generalize slA x.qv _ _ = A11
    generalize slA x.nv _ _ = A12
    simp only [List.append_assoc]
    exact ((((((perm_lead A6 A7 _).append_left A5 |>.trans (perm_lead A5 A7 _)).append_left A4 |>.trans (perm_lead A4 A7 _)).append_left A3 |>.trans (perm_lead A3 A7 _)).append_left A2 |>.trans (perm_lead A2 A7 _)).append_left A1 |>.trans (perm_lead A1 A7 _))
  refine ⟨_, ?_, fun m' hm => (key m' hm).symm⟩
  have := key m rfl
  rw [← h] at this
  exact this
theorem zrow (n : Nat) : zeroRow n [Value.int .u64 0] = (List.replicate n 0).map uv := by
  apply List.ext_getElem?
  intro i
  simp only [zeroRow, List.length_cons, List.length_nil, Nat.zero_add, Nat.mul_one, List.getElem?_map, List.map_replicate]
  by_cases h : i < n
  · rw [List.getElem?_range h, List.getElem?_replicate, if_pos h]
    simp only [Option.map_some, Nat.mod_one]; rfl
  · rw [List.getElem?_eq_none (by simpa using h), List.getElem?_replicate, if_neg h]; rfl
def clrW (l : List Nat) (w n : Nat) : List Nat := l.take (w + 2) ++ (List.replicate n 0 ++ l.drop (w + 2 + n))
theorem clrW_len {l : List Nat} {w n : Nat} (h : w + 2 + n ≤ l.length) : (clrW l w n).length = l.length := by simp [clrW]; omega
theorem clrW_get {l : List Nat} {w n i : Nat} (h : w + 2 + n ≤ l.length) : (clrW l w n)[i]? = if w + 2 ≤ i ∧ i < w + 2 + n then some 0 else l[i]? := by
  unfold clrW
  by_cases h1 : i < w + 2
  · rw [if_neg (by omega), List.getElem?_append_left (by simp; omega), List.getElem?_take_of_lt h1]
  · rw [List.getElem?_append_right (by simp; omega), List.length_take, Nat.min_eq_left (by omega)]
    by_cases h2 : i < w + 2 + n
    · rw [if_pos (by omega), List.getElem?_append_left (by simp; omega), List.getElem?_replicate, if_pos (by omega)]
    · rw [if_neg (by omega), List.getElem?_append_right (by simp; omega), List.length_replicate, List.getElem?_drop]
      congr 1; omega
section
variable {P : Program} {n : Nat} {rs : List RO} {Γ : Env} {H : SH} {Z : List PanicEntry → Env → SH → Prop} {K : Env → SH → Prop} {d : Option Nat}
theorem st_clrW {p : Nat} {x : HW} {w k : Nat} {y : Operand} {R : SH} (hw : w + 2 + k ≤ x.ws.length) (hy : ev Γ y = some (.slice (some ⟨x.wb, if k = 0 then 0 else w + 2, none⟩) k k)) (ht : Tk H (HA p x) R)
    (h : VO P n rs (putE d (.tuple #[]) Γ) (HA p { x with ws := clrW x.ws w k } :: R) Z K) : VO P n (⟨d, none, .clr [.int .u64 0] y⟩ :: rs) Γ H Z K := by
  have hone : (zeroRow k [Value.int .u64 0]).all oneCell = true := by
    rw [zrow]; simp [oneCell]
  by_cases h0 : k = 0
  · subst h0
    rw [if_pos rfl] at hy
    have e : clrW x.ws w 0 = x.ws := by simp [clrW]
    rw [e] at h
    refine VO.perm (H' := HA p x :: R) (by simpa using ht.perm) ?_
    refine st_clear (A := []) (old := []) (R := HA p x :: R) hy (by simp [cellsAt]) rfl hone ?_
    refine VO.perm ?_ h
    have : zeroRow 0 [Value.int .u64 0] = [] := rfl
    rw [this]; simp [cellsAt]
  · rw [if_neg h0] at hy
    have hs : x.ws = x.ws.take (w + 2) ++ ((x.ws.drop (w + 2)).take k ++ x.ws.drop (w + 2 + k)) := by
      rw [show x.ws.drop (w + 2 + k) = (x.ws.drop (w + 2)).drop k from List.drop_drop.symm, List.take_append_drop, List.take_append_drop]
    obtain ⟨X, hX1, hX2⟩ := ha_words p x hs
    have hl : (x.ws.take (w + 2)).length = w + 2 := by simp; omega
    have hl2 : ((x.ws.drop (w + 2)).take k).length = k := by simp; omega
    rw [hl] at hX1 hX2
    refine st_clear (A := []) (old := ((x.ws.drop (w + 2)).take k).map uv) (R := [X ++ R.flatten]) hy ?_ (by rw [List.length_map, hl2, zrow]; simp) hone ?_
    · refine ht.perm.trans ?_
      simp only [List.flatten_cons, List.flatten_nil, List.append_nil]
      rw [← List.append_assoc]
      exact hX1.append_right _
    · refine VO.perm ?_ h
      simp only [List.flatten_cons, List.flatten_nil, List.append_nil, zrow]
      rw [← List.append_assoc]
      exact (hX2 (List.replicate k 0) (by rw [hl2]; simp)).append_right _
end
theorem ha_mem {p : Nat} {x : HW} {i v : Nat} (h : x.ws[i]? = some v) : Atom.cell x.wb i (uv v) ∈ HA p x := by
  simp only [HA, HMem, List.flatten_cons, List.mem_append]
  exact .inr (.inr (.inr (.inr (.inr (.inl (mem_u0 h))))))
theorem ha_sp {p : Nat} {x : HW} {i v : Nat} (h : x.a.sp[i]? = some v) : Atom.cell p (20 + i) (uv v) ∈ HA p x := by
  simp only [HA, HMem, List.flatten_cons, List.mem_append]
  exact .inr (.inr (.inr (.inl (mem_u h))))
theorem ha_cl {p : Nat} {x : HW} {i v : Nat} (h : x.a.cl[i]? = some v) : Atom.cell p (84 + i) (uv v) ∈ HA p x := by
  simp only [HA, HMem, List.flatten_cons, List.mem_append]
  exact .inr (.inr (.inr (.inr (.inl (mem_u h)))))
theorem ha_kv {p : Nat} {x : HW} : Atom.cell p 4180 x.kv ∈ HA p x ∧ Atom.cell p 4181 x.qv ∈ HA p x ∧ Atom.cell p 4182 x.nv ∈ HA p x := by
  simp [HA, HMem, cellsAt]
def Ob.off (b : Ob) : Nat := if b.hd.slots = 0 then 0 else b.at_ + 2
theorem HOk.slot {x : HW} (hx : HOk x) {b : Ob} (hb : b ∈ x.a.obs) {i v : Nat} (h : b.body[i]? = some v) : x.ws[b.off + i]? = some v ∧ v < 18446744073709551616 := by
  have hok := hx.lay.ok b hb
  have hi := (List.getElem?_eq_some_iff.1 h).1
  rw [hok.len] at hi
  have := hx.lay.body b hb i hi
  unfold Ob.off
  rw [if_neg (by omega), this]
  exact ⟨h, hok.small v (List.mem_of_getElem? h)⟩
section
variable {P : Program} {n : Nat} {rs : List RO} {Γ : Env} {H : SH} {Z : List PanicEntry → Env → SH → Prop} {K : Env → SH → Prop} {d : Option Nat}
theorem st_slcL2 {size len cap h b o : Nat} {x hi mx : Operand} {kh km : IntKind} {ch cm : Int} (hx : ev Γ x = some (.slice (some ⟨b, o, none⟩) len cap)) (hhi : ev Γ hi = some (.int kh ch)) (hmx : ev Γ mx = some (.int km cm))
    (eh : ch = (h : Int)) (em : cm = (h : Int)) (hr : h ≤ cap) (k : VO P n rs (putE d (.slice (some ⟨b, o, none⟩) h h) Γ) H Z K) :
    VO P n (⟨d, none, .slcL size x none (some hi) (some mx)⟩ :: rs) Γ H Z K := by
  subst eh em
  refine VO.pure rfl (fun ρ hρ => ?_) k
  have h1 : bound (Value.int km (h : Int)) cap = some h := by simp [bound]; omega
  have h2 : bound (Value.int kh (h : Int)) h = some h := by simp [bound]
  simp [pureV, hρ _ _ hx, hρ _ _ hhi, hρ _ _ hmx, bounds, h1, h2, boundO]
theorem st_slcL1 {size len cap l b o : Nat} {x lo : Operand} {kl : IntKind} {cl : Int} (hx : ev Γ x = some (.slice (some ⟨b, o, none⟩) len cap)) (hlo : ev Γ lo = some (.int kl cl)) (el : cl = (l : Int)) (hr : l ≤ len ∧ len ≤ cap)
    (k : VO P n rs (putE d (.slice (some ⟨b, if cap = l then o else o + l * size, none⟩) (len - l) (cap - l)) Γ) H Z K) :
    VO P n (⟨d, none, .slcL size x (some lo) none none⟩ :: rs) Γ H Z K := by
  subst el
  refine VO.pure rfl (fun ρ hρ => ?_) k
  have h1 : bound (Value.int kl (l : Int)) len = some l := by simp [bound]; omega
  simp [pureV, hρ _ _ hx, hρ _ _ hlo, bounds, h1, boundO]
end
def Ob.bytesI (b : Ob) : Int := if b.hd.fmt < 5 then 0 else ((b.hd.slots - b.many : Nat) : Int) * 8 - b.hd.spare
theorem HOk.upd {x : HW} (hx : HOk x) {b : Ob} (hb : b ∈ x.a.obs) {f : Ob → Ob} (hf : Keep f) {ws' : List Nat} (hl : ws'.length = x.ws.length) (hs : ∀ y ∈ ws', y < 18446744073709551616) (hok : (f b).Ok)
    (hout : ∀ i, ¬ (b.at_ ≤ i ∧ i < b.stop) → ws'[i]? = x.ws[i]?) (hh : ws'[b.at_]? = some (pk (f b).hd) ∧ ws'[b.at_ + 1]? = some b.hd.slots) (hbd : ∀ i < b.hd.slots, ws'[b.at_ + 2 + i]? = (f b).body[i]?) :
    HOk { x with a := { x.a with obs := updO b.at_ f x.a.obs }, ws := ws' } := by
  refine ⟨hx.lay.upd hb hf hl hs hok hout hh hbd, ⟨hx.rm.len, hx.rm.zero, fun i r hr => ?_, hx.rm.low, hx.rm.apart, fun c hc => ?_⟩, hx.spl, hx.cll, hx.sps, hx.cls, hx.stks, hx.ques, hx.nots, hx.stk, hx.que, hx.note, hx.map, hx.given, hx.deep, hx.few⟩
  · rw [hl]; exact hx.rm.rng i r hr
  · obtain ⟨d, hd, rfl⟩ := mem_updO.1 hc
    have e1 : (if d.at_ = b.at_ then f d else d).at_ = d.at_ := by split <;> simp [hf.at_]
    have e2 : (if d.at_ = b.at_ then f d else d).stop = d.stop := by split <;> simp [Ob.stop, hf.at_, hf.slots]
    rw [e1, e2]; exact hx.rm.inn d hd
def setB (i v : Nat) (b : Ob) : Ob := { b with body := b.body.set i v }
theorem keep_setB (i v : Nat) : Keep (setB i v) := ⟨fun _ => rfl, fun _ => rfl⟩
def setH (g : Hd → Hd) (b : Ob) : Ob := { b with hd := g b.hd }
theorem keep_setH {g : Hd → Hd} (h : ∀ d, (g d).slots = d.slots) : Keep (setH g) := ⟨fun _ => rfl, fun b => h b.hd⟩
theorem HOk.setB {x : HW} (hx : HOk x) {b : Ob} (hb : b ∈ x.a.obs) {i v : Nat} (hi : i < b.hd.slots) (hv : v < 18446744073709551616) (h6 : b.hd.fmt = 6 → i ≠ 0) :
    HOk { x with a := { x.a with obs := updO b.at_ (V.setB i v) x.a.obs }, ws := x.ws.set (b.off + i) v } := by
  have hok := hx.lay.ok b hb
  have hhigh := hx.lay.high b hb
  have hh := hx.lay.head b hb
  have ho : b.off = b.at_ + 2 := by unfold Ob.off; rw [if_neg (by omega)]
  rw [ho]
  unfold Ob.stop at hhigh
  refine hx.upd hb (keep_setB i v) (by simp) ?_ ⟨hok.may, by simp [V.setB, hok.len], ?_, ?_⟩ ?_ ?_ ?_
  · intro y hy
    rcases List.mem_or_eq_of_mem_set hy with h | rfl
    · exact hx.lay.small y h
    · exact hv
  · intro y hy
    rcases List.mem_or_eq_of_mem_set hy with h | rfl
    · exact hok.small y h
    · exact hv
  · intro e
    obtain ⟨n, r, e1, e2⟩ := hok.meth e
    have : i ≠ 0 := h6 e
    refine ⟨n, r.set (i - 1) v, ?_, by simpa using e2⟩
    show b.body.set i v = _
    rw [e1, show i = (i - 1) + 1 by omega, List.set_cons_succ]; rfl
  · intro j hj
    rw [List.getElem?_set_ne]; unfold Ob.stop at hj; omega
  · rw [List.getElem?_set_ne (by omega), List.getElem?_set_ne (by omega)]; exact hh
  · intro j hj
    show _ = (b.body.set i v)[j]?
    by_cases e : i = j
    · subst e
      rw [List.getElem?_set_self (by omega), List.getElem?_set_self (by rw [hok.len]; exact hj)]
    · rw [List.getElem?_set_ne (by omega), List.getElem?_set_ne e]; exact hx.lay.body b hb j hj
theorem HOk.setH {x : HW} (hx : HOk x) {b : Ob} (hb : b ∈ x.a.obs) {g : Hd → Hd} (hg : ∀ d, (g d).slots = d.slots) (hm : (g b.hd).May) (h6 : (g b.hd).fmt = 6 → b.hd.fmt = 6) :
    HOk { x with a := { x.a with obs := updO b.at_ (V.setH g) x.a.obs }, ws := (x.ws.set b.at_ (pk (g b.hd))).set (b.at_ + 1) b.hd.slots } := by
  have hok := hx.lay.ok b hb
  have hhigh := hx.lay.high b hb
  unfold Ob.stop at hhigh
  have hms := hok.may.slots
  refine hx.upd hb (keep_setH hg) (by simp) ?_ ⟨hm, by simp [V.setH, hok.len, hg], hok.small, fun e => hok.meth (h6 e)⟩ ?_ ?_ ?_
  · intro y hy
    rcases List.mem_or_eq_of_mem_set hy with h | rfl
    · rcases List.mem_or_eq_of_mem_set h with h | rfl
      · exact hx.lay.small y h
      · have := hm.lt; omega
    · omega
  · intro j hj
    unfold Ob.stop at hj
    rw [List.getElem?_set_ne (by omega), List.getElem?_set_ne (by omega)]
  · rw [List.getElem?_set_ne (by omega), List.getElem?_set_self (by omega), List.getElem?_set_self (by simp; omega)]; exact ⟨rfl, rfl⟩
  · intro j hj
    rw [List.getElem?_set_ne (by omega), List.getElem?_set_ne (by omega)]; exact hx.lay.body b hb j hj
section
variable {P : Program} {n : Nat} {rs : List RO} {Γ : Env} {H : SH} {Z : List PanicEntry → Env → SH → Prop} {K : Env → SH → Prop} {d : Option Nat}
theorem st_storeW {p : Nat} {x : HW} {i m : Nat} {u y : Operand} {R : SH} (hu : ev Γ u = some (.pointer (some ⟨x.wb, i, none⟩))) (hy : ev Γ y = some (uv m)) (ht : Tk H (HA p x) R) (hi : i < x.ws.length)
    (h : VO P n rs (putE d undef Γ) (HA p { x with ws := x.ws.set i m } :: R) Z K) : VO P n (⟨d, none, .store 1 u y⟩ :: rs) Γ H Z K := by
  have hs : x.ws = x.ws.take i ++ ([x.ws[i]] ++ x.ws.drop (i + 1)) := by
    rw [List.singleton_append, ← List.drop_eq_getElem_cons hi, List.take_append_drop]
  obtain ⟨X, hX1, hX2⟩ := ha_words p x hs
  have hl : (x.ws.take i).length = i := by simp; omega
  rw [hl] at hX1 hX2
  refine VO.perm (H' := cellsAt x.wb i [uv x.ws[i]] :: [X ++ R.flatten]) ?_ ?_
  · refine ht.perm.trans ?_
    simp only [List.flatten_cons, List.flatten_nil, List.append_nil]
    rw [← List.append_assoc]
    exact hX1.append_right _
  · refine st_store' (us := [uv m]) hu hy rfl rfl rfl (Upd.set1 (i := 0) (vs := [uv x.ws[i]]) (by omega) (Nat.zero_lt_one)) ?_
    refine VO.perm ?_ h
    have e : x.ws.set i m = x.ws.take i ++ ([m] ++ x.ws.drop (i + 1)) := by
      rw [List.set_eq_take_append_cons_drop, if_pos hi]; rfl
    rw [e]
    simp only [List.flatten_cons, List.flatten_nil, List.append_nil]
    rw [← List.append_assoc]
    exact (hX2 [m] rfl).append_right _
end
theorem ha_out (p : Nat) (x : HW) : Imp [HA p x] (HMem p x) := Imp.perm (by simp [HA])
theorem ha_in (p : Nat) (x : HW) : Imp (HMem p x) [HA p x] := Imp.perm (by simp [HA])
theorem rep_one (v : Value) : ∀ n, rep n [v] = List.replicate n v := by
  intro n
  induction n with
  | zero => rfl
  | succ n ih => simp only [rep, ih, List.replicate_succ]; rfl
theorem putParts1 {A B : List Value} {x v : Value} {n : Nat} (hn : A.length = n) (h : v.cells.toList = [v]) : putParts (A ++ x :: B) [(n, 1, v)] = some (A ++ v :: B) := by
  subst hn
  have hs : v.cells.size = 1 := by rw [← Array.length_toList, h]; rfl
  simp only [putParts, hs, true_and, List.length_append, List.length_cons]
  rw [if_pos (by omega)]
  simp [h]
def newAt (E S B P : Nat) : Nat → Int
  | 0 => 2
  | 1 => 2 + E
  | 2 => 2 + E + S
  | 3 => 2 + E + S + S
  | 4 => 2 + E + S + S + (B + E + 2 * S)
  | _ => 2 + E + S + S + (B + E + 2 * S) + P
def newI : Nat → Int
  | 0 => 0
  | 1 => 1
  | 2 => 2
  | 3 => 3
  | 4 => 4
  | _ => 5
def newRm (E S B P i : Nat) : List Value :=
  [vi 0, vi 0, vi 0] ++ (if 0 < i then [vi (newAt E S B P 0), vi (newAt E S B P 1), vi (newAt E S B P 0)] else [vi 0, vi 0, vi 0]) ++ (if 1 < i then [vi (newAt E S B P 1), vi (newAt E S B P 2), vi (newAt E S B P 1)] else [vi 0, vi 0, vi 0]) ++
  (if 2 < i then [vi (newAt E S B P 2), vi (newAt E S B P 3), vi (newAt E S B P 2)] else [vi 0, vi 0, vi 0]) ++ (if 3 < i then [vi (newAt E S B P 3), vi (newAt E S B P 4), vi (newAt E S B P 3)] else [vi 0, vi 0, vi 0]) ++
  (if 4 < i then [vi (newAt E S B P 4), vi (newAt E S B P 5), vi (newAt E S B P 4)] else [vi 0, vi 0, vi 0])
def newN (E S B P : Nat) : Nat := 2 + E + S + S + (B + E + 2 * S) + P
def newH (E S B P : Nat) : AH where
  rm := [(0, 0, 0), (2, 2 + E, 2), (2 + E, 2 + E + S, 2 + E), (2 + E + S, 2 + E + S + S, 2 + E + S), (2 + E + S + S, 2 + E + S + S + (B + E + 2 * S), 2 + E + S + S), (2 + E + S + S + (B + E + 2 * S), newN E S B P, 2 + E + S + S + (B + E + 2 * S))]
  obs := []
  sp := List.replicate 64 0
  cl := List.replicate 4096 0
  stack := []
  queue := []
  noted := []
  ahead := []
  given := 0
def newW (E S B P wb sb mb : Nat) : HW where
  a := newH E S B P
  ws := List.replicate (newN E S B P) 0
  st := List.replicate (newN E S B P / 64 + 1) 0
  wb := wb
  sb := sb
  kv := .slice none 0 0
  qv := .slice none 0 0
  nv := .slice none 0 0
  ks := []
  qs := []
  ns := []
  mb := mb
  es := #[]
  mc := 0
theorem new_ok {E S B P : Nat} (wb sb mb : Nat) (h : newN E S B P < 4194304) : HOk (newW E S B P wb sb mb) := by
  have z : ∀ n, ∀ y ∈ List.replicate n 0, y < 18446744073709551616 := fun n y hy => by rw [List.eq_of_mem_replicate hy]; omega
  refine ⟨⟨z _, z _, ?_, ?_, ?_, ?_, ?_, ?_, ?_, .nil, ?_⟩, ⟨rfl, rfl, ?_, ?_, ?_, ?_⟩, ?_, ?_, z _, z _, ?_, ?_, ?_, .nil, .nil, .nil, .nil, Nat.zero_le _, Nat.zero_le _, ⟨Nat.zero_le _, Nat.zero_le _⟩⟩
  · simp [newW]
  · simpa [newW] using h
  all_goals (try (intro b hb; cases hb; done))
  · intro w hw
    have : bitAt (newW E S B P wb sb mb).st w = false := by
      unfold bitAt
      have : (newW E S B P wb sb mb).st.getD (w / 64) 0 = 0 := by
        simp only [newW, List.getD_eq_getElem?_getD, List.getElem?_replicate]; split <;> rfl
      rw [this]; exact Nat.zero_testBit _
    rw [this]
    constructor
    · intro h; cases h
    · rintro ⟨b, hb, _⟩; cases hb
  · intro i r hr
    have hl : (newW E S B P wb sb mb).ws.length = newN E S B P := by simp [newW]
    rw [hl]
    unfold newN
    match i, hr with
    | 0, hr => cases hr; simp only; omega
    | 1, hr => cases hr; simp only; omega
    | 2, hr => cases hr; simp only; omega
    | 3, hr => cases hr; simp only; omega
    | 4, hr => cases hr; simp only; omega
    | 5, hr => cases hr; simp only [newN]; omega
  · intro i r hi hr
    match i, hr with
    | 1, hr => cases hr; simp only; omega
    | 2, hr => cases hr; simp only; omega
    | 3, hr => cases hr; simp only; omega
    | 4, hr => cases hr; simp only; omega
    | 5, hr => cases hr; simp only; omega
  · intro i j r s hij hr hs hi
    left
    have hj : j ≤ 5 := by
      have := (List.getElem?_eq_some_iff.1 hs).1
      have e : (newW E S B P wb sb mb).a.rm.length = 6 := rfl
      omega
    have h2 : (i = 1 ∨ i = 2 ∨ i = 3 ∨ i = 4) ∧ (j = 2 ∨ j = 3 ∨ j = 4 ∨ j = 5) := by omega
    obtain ⟨h2, h3⟩ := h2
    rcases h2 with rfl | rfl | rfl | rfl <;> rcases h3 with rfl | rfl | rfl | rfl <;> first | (exfalso; omega) | (cases hr; cases hs; simp only; omega)
  · exact List.length_replicate ..
  · exact List.length_replicate ..
def newZ (m : Value) : List Value := [Value.slice none 0 0, Value.slice none 0 0] ++ List.replicate 18 (Value.int .i64 0) ++ List.replicate 4160 (Value.int .u64 0) ++ [Value.slice none 0 0, Value.slice none 0 0, Value.slice none 0 0, m, Value.int .i64 0]
theorem newZ_put (mb : Nat) : putParts (newZ (.map none)) [(4183, 1, .map (some mb))] = some (newZ (.map (some mb))) := by
  have := putParts1 (A := [Value.slice none 0 0, Value.slice none 0 0] ++ List.replicate 18 (Value.int .i64 0) ++ List.replicate 4160 (Value.int .u64 0) ++ [Value.slice none 0 0, Value.slice none 0 0, Value.slice none 0 0]) (B := [Value.int .i64 0]) (x := .map none) (v := .map (some mb)) (n := 4183)
    (by rw [List.length_append, List.length_append, List.length_append, List.length_replicate, List.length_replicate]; rfl) rfl
  unfold newZ
  simp only [List.append_assoc, List.cons_append, List.nil_append] at this ⊢
  exact this
theorem newZ_cells (b : Nat) (m : Value) : cellsAt b 0 (newZ m) = [cellsAt b 0 [Value.slice none 0 0, Value.slice none 0 0], cellsAt b 2 (List.replicate 18 (Value.int .i64 0)), cellsAt b 20 ((List.replicate 64 0).map uv), cellsAt b 84 ((List.replicate 4096 0).map uv), cellsAt b 4180 [Value.slice none 0 0, Value.slice none 0 0, Value.slice none 0 0, m, Value.int .i64 0]].flatten := by
  unfold newZ
  have e : List.replicate 4160 (Value.int .u64 0) = List.replicate 64 (Value.int .u64 0) ++ List.replicate 4096 (Value.int .u64 0) := by rw [List.replicate_append_replicate]
  rw [e, cellsAt_append, cellsAt_append, cellsAt_append, cellsAt_append, List.map_replicate, List.map_replicate]
  simp only [List.length_append, List.length_replicate, List.length_cons, List.length_nil, Nat.zero_add, Nat.reduceAdd, List.flatten_cons, List.flatten_nil, List.append_nil, List.append_assoc]
  rfl
section
variable {P : Program} {n : Nat} {rs : List RO} {Γ : Env} {H : SH} {Z : List PanicEntry → Env → SH → Prop} {K : Env → SH → Prop} {d : Option Nat}
theorem st_mkU (k : Nat) {t : TypeId} {l c : Operand} {li : Int} (hl : ev Γ l = some (.int .i64 li)) (hc : ev Γ c = some (.int .i64 li)) (hk : li = (k : Int)) (hb : k ≤ 1073741824)
    (h : ∀ b, VO P n rs (putE d (.slice (some ⟨b, 0, none⟩) k k) Γ) (cellsAt b 0 ((List.replicate k 0).map uv) :: H) Z K) : VO P n (⟨d, none, .mkslice t 1 8 [.int .u64 0] l c⟩ :: rs) Γ H Z K := by
  subst hk
  refine st_mkslice hl hc ⟨by omega, by omega, by omega, by omega⟩ rfl (fun b => ?_)
  rw [Int.toNat_natCast, zrow]; exact h b
end
theorem new_mem (p E S B P wb sb mb : Nat) : HMem p (newW E S B P wb sb mb) = [cellsAt p 0 [.slice (some ⟨wb, 0, none⟩) (newN E S B P) (newN E S B P), .slice (some ⟨sb, 0, none⟩) ((newN E S B P) / 64 + 1) ((newN E S B P) / 64 + 1)], cellsAt p 4180 [Value.slice none 0 0, Value.slice none 0 0, Value.slice none 0 0, .map (some mb), Value.int .i64 0],
    cellsAt p 2 [vi 0, vi 0, vi 0, vi (2), vi (2 + (E : Int)), vi (2), vi (2 + (E : Int)), vi (2 + (E : Int) + (S : Int)), vi (2 + (E : Int)), vi (2 + (E : Int) + (S : Int)), vi (2 + (E : Int) + (S : Int) + (S : Int)), vi (2 + (E : Int) + (S : Int)), vi (2 + (E : Int) + (S : Int) + (S : Int)), vi (2 + (E : Int) + (S : Int) + (S : Int) + ((B : Int) + (E : Int) + 2 * (S : Int))), vi (2 + (E : Int) + (S : Int) + (S : Int)), vi (2 + (E : Int) + (S : Int) + (S : Int) + ((B : Int) + (E : Int) + 2 * (S : Int))), vi (((newN E S B P) : Nat) : Int), vi (2 + (E : Int) + (S : Int) + (S : Int) + ((B : Int) + (E : Int) + 2 * (S : Int)))], cellsAt p 20 ((List.replicate 64 0).map uv), cellsAt p 84 ((List.replicate 4096 0).map uv), cellsAt wb 0 ((List.replicate (newN E S B P) 0).map uv), cellsAt sb 0 ((List.replicate ((newN E S B P) / 64 + 1) 0).map uv), [], [], [], [Atom.obj mb (Obj.map #[] 0)]] := by
  have e1 : ∀ b k, arrV b (List.replicate k 0) = .slice (some ⟨b, 0, none⟩) k k := fun b k => by unfold arrV; rw [List.length_replicate]
  have e3 : (newH E S B P).rm.flatMap rmEnc = [vi 0, vi 0, vi 0, vi (2), vi (2 + (E : Int)), vi (2), vi (2 + (E : Int)), vi (2 + (E : Int) + (S : Int)), vi (2 + (E : Int)), vi (2 + (E : Int) + (S : Int)), vi (2 + (E : Int) + (S : Int) + (S : Int)), vi (2 + (E : Int) + (S : Int)), vi (2 + (E : Int) + (S : Int) + (S : Int)), vi (2 + (E : Int) + (S : Int) + (S : Int) + ((B : Int) + (E : Int) + 2 * (S : Int))), vi (2 + (E : Int) + (S : Int) + (S : Int)), vi (2 + (E : Int) + (S : Int) + (S : Int) + ((B : Int) + (E : Int) + 2 * (S : Int))), vi (((newN E S B P) : Nat) : Int), vi (2 + (E : Int) + (S : Int) + (S : Int) + ((B : Int) + (E : Int) + 2 * (S : Int)))] := by
    simp only [newH, List.flatMap_cons, List.flatMap_nil, rmEnc, List.cons_append, List.nil_append, Int.natCast_add, Int.natCast_mul]
    rfl
  show [cellsAt p 0 [arrV wb (List.replicate (newN E S B P) 0), arrV sb (List.replicate ((newN E S B P) / 64 + 1) 0)], _, cellsAt p 2 ((newH E S B P).rm.flatMap rmEnc), _, _, _, _, _, _, _, _] = _
  rw [e1, e1, e3]; rfl
theorem drop3 {A1 A2 A3 A4 A5 A6 A7 O : List Atom} : Imp [A1, A2, A3, A4, A5, A6, A7, O] [A1, A2, A3, A4, A5, A6, A7, [], [], [], O] := Imp.perm (by simp only [List.flatten_cons, List.flatten_nil, List.nil_append]; exact List.Perm.refl _)
def fillB (i v : Nat) (b : Ob) : Ob := { b with body := List.replicate i v ++ b.body.drop i }
theorem keep_fillB (i v : Nat) : Keep (fillB i v) := ⟨fun _ => rfl, fun _ => rfl⟩
theorem updO_congr {w : Nat} {f g : Ob → Ob} {obs : List Ob} (h : ∀ c ∈ obs, c.at_ = w → f c = g c) : updO w f obs = updO w g obs := by
  unfold updO
  refine List.map_congr_left (fun c hc => ?_)
  split
  · rename_i e; exact h c hc e
  · rfl
theorem updO_updO {w : Nat} {f g : Ob → Ob} (hf : Keep f) {obs : List Ob} : updO w g (updO w f obs) = updO w (fun b => g (f b)) obs := by
  unfold updO
  rw [List.map_map]
  refine List.map_congr_left (fun c _ => ?_)
  simp only [Function.comp]
  by_cases e : c.at_ = w
  · simp only [if_pos e]; rw [if_pos (by rw [hf.at_]; exact e)]
  · simp only [if_neg e]
theorem updO_id {w : Nat} {f : Ob → Ob} {obs : List Ob} (h : ∀ c ∈ obs, c.at_ = w → f c = c) : updO w f obs = obs := by
  rw [updO_congr (g := id) h]
  unfold updO
  have : (fun b : Ob => if b.at_ = w then id b else b) = id := by funext b; simp
  rw [this, List.map_id]
theorem fillB_step {i v : Nat} {b : Ob} (h : i < b.body.length) : setB i v (fillB i v b) = fillB (i + 1) v b := by
  have e : (List.replicate i v ++ b.body.drop i).set i v = List.replicate (i + 1) v ++ b.body.drop (i + 1) := by
    rw [List.set_append_right _ _ (by simp), List.length_replicate, Nat.sub_self, List.drop_eq_getElem_cons h, List.set_cons_zero, List.replicate_succ', List.append_assoc]; rfl
  simp only [setB, fillB, e]
def filledA (a : AH) (w n : Nat) : AH := { a with obs := updO w (fillB n (a.sp.headD 0)) a.obs }
theorem space_of {x : HW} (hx : HOk x) {sp w : Nat} {r : Nat × Nat × Nat} (h1 : 1 ≤ sp) (h5 : sp ≤ 5) (hr : x.a.rm[sp]? = some r) (hw : r.1 ≤ w ∧ w < r.2.1) : spaceW x.a.rm w = sp := by
  refine spaceW_some h1 h5 ?_ (fun j j1 j2 => ?_)
  · unfold inRm; rw [hr]; exact decide_eq_true hw
  · obtain ⟨t, ht⟩ : ∃ t, x.a.rm[j]? = some t := ⟨_, List.getElem?_eq_getElem (by rw [hx.rm.len]; omega)⟩
    unfold inRm; rw [ht]
    refine decide_eq_false (fun h => ?_)
    simp only [Option.getD_some] at h
    have k1 := hx.rm.rng j t ht
    have k2 := hx.rm.rng sp r hr
    rcases hx.rm.apart j sp t r j2 ht hr j1 with h2 | h2 <;> omega
def hdOf (c f n : Nat) : Hd := if f = 5 then ⟨c, 5, (n + 7) / 8 * 8 - n, 0, 0, (n + 7) / 8, false, false⟩ else ⟨c, f, 0, 0, 0, n, false, false⟩
theorem hdOf_may {c f n : Nat} (hc : c ≤ 4095) (hf : 1 ≤ f ∧ f ≤ 5) (hn : n ≤ 65536) (h3 : f = 3 → 0 < n) : (hdOf c f n).May := by
  unfold hdOf
  split
  · exact ⟨hc, by simp, by simp, by simp only; omega, by simp only; omega, by simp, by simp, by simp, by simp, by simp only; intro h; rw [if_neg (by decide)]; omega⟩
  · rename_i h5
    exact ⟨hc, by simp, by simp, hn, by simp, by simp only; omega, by simp, h3, by simp only; omega, by simp⟩
end Go.V

/-
  The heap: its objects, its roots, its rooms; how it lies in memory.
-/
import Derived.Test.YtmlnoodopoaafaaDoorH1
import Derived.Test.YtmlnoodopoaafaaDoorV16
set_option linter.unusedSimpArgs false
set_option linter.unusedVariables false
namespace Go.V
open Go
def kU : KEnc Nat := ⟨.int, uv, fun a b => by
  show some (decide (((a : Nat) : Int) = ((b : Nat) : Int))) = some (decide (a = b))
  congr 1; rw [decide_eq_decide]; omega⟩
structure AH where
  rm : List (Nat × Nat × Nat)
  obs : List Ob
  sp : List Nat
  cl : List Nat
  stack : List Nat
  queue : List Nat
  noted : List Nat
  ahead : List (Nat × Nat)
  given : Nat
structure HW where
  a : AH
  ws : List Nat
  st : List Nat
  wb : Nat
  sb : Nat
  kv : Value
  qv : Value
  nv : Value
  ks : List Value
  qs : List Value
  ns : List Value
  mb : Nat
  es : Array MapEntry
  mc : Nat
def rmEnc (r : Nat × Nat × Nat) : List Value := [vi r.1, vi r.2.1, vi r.2.2]
def arrV (b : Nat) (l : List Nat) : Value := .slice (some ⟨b, 0, none⟩) l.length l.length
def HMem (p : Nat) (x : HW) : SH :=
  [cellsAt p 0 [arrV x.wb x.ws, arrV x.sb x.st], cellsAt p 4180 [x.kv, x.qv, x.nv, .map (some x.mb), vi x.a.given], cellsAt p 2 (x.a.rm.flatMap rmEnc), cellsAt p 20 (x.a.sp.map uv), cellsAt p 84 (x.a.cl.map uv),
   cellsAt x.wb 0 (x.ws.map uv), cellsAt x.sb 0 (x.st.map uv), slA x.kv (x.a.stack.map uv) x.ks, slA x.qv (x.a.queue.map uv) x.qs, slA x.nv (x.a.noted.map uv) x.ns, [.obj x.mb (.map x.es x.mc)]]
def HMw (p : Nat) (x : HW) (B : List Atom) : SH :=
  [cellsAt p 0 [.slice (some ⟨x.wb, 0, none⟩) x.ws.length x.ws.length, .slice (some ⟨x.sb, 0, none⟩) x.st.length x.st.length], cellsAt p 4180 [x.kv, x.qv, x.nv, .map (some x.mb), vi x.a.given], cellsAt p 2 (x.a.rm.flatMap rmEnc), cellsAt p 20 (x.a.sp.map uv), cellsAt p 84 (x.a.cl.map uv),
   B, cellsAt x.sb 0 (x.st.map uv), slA x.kv (x.a.stack.map uv) x.ks, slA x.qv (x.a.queue.map uv) x.qs, slA x.nv (x.a.noted.map uv) x.ns, [.obj x.mb (.map x.es x.mc)]]
theorem hmw (p : Nat) (x : HW) : HMem p x = HMw p x (cellsAt x.wb 0 (x.ws.map uv)) := rfl
def HA (p : Nat) (x : HW) : List Atom := (HMem p x).flatten
structure RmOk (a : AH) (n : Nat) : Prop where
  len : a.rm.length = 6
  zero : a.rm[0]? = some (0, 0, 0)
  rng : ∀ (i : Nat) (r : Nat × Nat × Nat), a.rm[i]? = some r → r.1 ≤ r.2.2 ∧ r.2.2 ≤ r.2.1 ∧ r.2.1 ≤ n
  low : ∀ (i : Nat) (r : Nat × Nat × Nat), 1 ≤ i → a.rm[i]? = some r → 2 ≤ r.1
  apart : ∀ (i j : Nat) (r s : Nat × Nat × Nat), i < j → a.rm[i]? = some r → a.rm[j]? = some s → 1 ≤ i → r.2.1 ≤ s.1 ∨ s.2.1 ≤ r.1
  inn : ∀ b ∈ a.obs, ∃ (i : Nat) (r : Nat × Nat × Nat), 1 ≤ i ∧ a.rm[i]? = some r ∧ r.1 ≤ b.at_ ∧ b.stop ≤ (if i = 5 then r.2.1 else r.2.2)
structure HOk (x : HW) : Prop where
  lay : Lay x.ws x.st x.a.obs
  rm : RmOk x.a x.ws.length
  spl : x.a.sp.length = 64
  cll : x.a.cl.length = 4096
  sps : ∀ o ∈ x.a.sp, o < 18446744073709551616
  cls : ∀ o ∈ x.a.cl, o < 18446744073709551616
  stks : ∀ o ∈ x.a.stack, o < 18446744073709551616
  ques : ∀ o ∈ x.a.queue, o < 18446744073709551616
  nots : ∀ o ∈ x.a.noted, o < 18446744073709551616
  stk : IsSl 1 x.kv x.a.stack.length (x.a.stack.map uv) x.ks
  que : IsSl 1 x.qv x.a.queue.length (x.a.queue.map uv) x.qs
  note : IsSl 1 x.nv x.a.noted.length (x.a.noted.map uv) x.ns
  map : MapIs kU uv x.es x.mc x.a.ahead
  given : x.a.given ≤ 4194303
  deep : x.a.stack.length ≤ 4096
  few : x.a.queue.length ≤ 1073741823 ∧ x.a.noted.length ≤ 1073741823
theorem mem_u {b o i n : Nat} {l : List Nat} (h : l[i]? = some n) : Atom.cell b (o + i) (uv n) ∈ cellsAt b o (l.map uv) :=
  mem_cellsAt.2 ⟨i, uv n, by simp [h], rfl⟩
theorem mem_u0 {b i n : Nat} {l : List Nat} (h : l[i]? = some n) : Atom.cell b i (uv n) ∈ cellsAt b 0 (l.map uv) :=
  mem_cellsAt.2 ⟨i, uv n, by simp [h], by simp⟩
section
variable {P : Program} {n : Nat} {rs : List RO} {Γ : Env} {H : SH} {Z : List PanicEntry → Env → SH → Prop} {K : Env → SH → Prop}
theorem st_storeU {d : Option Nat} {x y : Operand} {b o i k m : Nat} {l : List Nat} {R : SH} (hx : ev Γ x = some (.pointer (some ⟨b, k, none⟩))) (hy : ev Γ y = some (uv m)) (ht : Tk H (cellsAt b o (l.map uv)) R) (hk : o + i = k) (hi : i < l.length)
    (h : VO P n rs (putE d undef Γ) (cellsAt b o ((l.set i m).map uv) :: R) Z K) : VO P n (⟨d, none, .store 1 x y⟩ :: rs) Γ H Z K := by
  refine VO.perm (H' := cellsAt b o (l.map uv) :: R) (by simpa using ht.perm) ?_
  refine st_store' (us := [uv m]) hx hy rfl rfl rfl (Upd.set1 (i := i) hk (by rw [List.length_map]; exact hi)) ?_
  rw [← List.map_set]; exact h
end
theorem ha_spl (p : Nat) (x : HW) : Spl [HA p x] (HMem p x) [] := by simp [Spl, HA]
theorem ha_back (p : Nat) (x : HW) : Imp (HMem p x ++ []) [HA p x] := Imp.perm (by simp [HA])
theorem Fun.haR {P : Program} {f : Nat} {args : List Value} {p : Nat} {x : HW} {w : Value} (h : Fun P f args (HMem p x) (fun v Post => v = w ∧ Post = HMem p x)) : Fun P f args [HA p x] (fun v Post => v = w ∧ Post = [HA p x]) :=
  h.conv (ha_spl p x) (fun v Post hv => by obtain ⟨rfl, rfl⟩ := hv; exact ⟨_, ⟨rfl, rfl⟩, ha_back p x⟩)
theorem Fun.haT {P : Program} {f : Nat} {args : List Value} {p : Nat} {x : HW} {Q : Value → HW → Prop} (h : Fun P f args (HMem p x) (fun v Post => ∃ y, Q v y ∧ Post = HMem p y)) : Fun P f args [HA p x] (fun v Post => ∃ y, Q v y ∧ Post = [HA p y]) :=
  h.conv (ha_spl p x) (fun v Post hv => by obtain ⟨y, hy, rfl⟩ := hv; exact ⟨_, ⟨y, hy, rfl⟩, ha_back p y⟩)
def isAt (obs : List Ob) (w : Nat) : Bool := obs.any fun b => decide (b.at_ = w)
theorem isAt_iff {obs : List Ob} {w : Nat} : isAt obs w = true ↔ ∃ b ∈ obs, b.at_ = w := by simp [isAt]
theorem Lay.at_lt {ws st : List Nat} {obs : List Ob} (h : Lay ws st obs) {b : Ob} (hb : b ∈ obs) : b.at_ + 1 < ws.length := by
  have := h.high b hb; unfold Ob.stop at this; omega
theorem Lay.isAt {ws st : List Nat} {obs : List Ob} (h : Lay ws st obs) {w : Nat} (hw : w < ws.length) : V.isAt obs w = bitAt st w := by
  rw [Bool.eq_iff_iff, isAt_iff, h.bits w hw]
theorem Lay.isAt_no {ws st : List Nat} {obs : List Ob} (h : Lay ws st obs) {w : Nat} (hw : ¬ w < ws.length) : V.isAt obs w = false := by
  rw [Bool.eq_false_iff]
  intro e
  obtain ⟨b, hb, rfl⟩ := isAt_iff.1 e
  have := h.at_lt hb; omega
theorem getO_is {obs : List Ob} {o : Nat} (hl : ∀ b ∈ obs, 1 ≤ b.at_ ∧ b.at_ ≤ 268435455) : (getO obs o).isSome = (decide (tagO o = 3) && isAt obs (wordO o)) := by
  rw [Bool.eq_iff_iff, Option.isSome_iff_exists, Bool.and_eq_true, decide_eq_true_eq, isAt_iff]
  constructor
  · rintro ⟨b, hb⟩
    obtain ⟨h1, rfl⟩ := getO_some hb
    have h2 := hl b h1
    have h3 : tagO b.oop = 3 := tagO_obj h2.1 h2.2
    refine ⟨h3, b, h1, ?_⟩
    unfold wordO; rw [if_pos h3]; unfold Ob.oop; omega
  · rintro ⟨h1, b, hb, h2⟩
    unfold wordO at h2
    rw [if_pos h1] at h2
    have h3 := tagO_three h1
    cases e : getO obs o with
    | some c => exact ⟨c, rfl⟩
    | none => exact absurd (by unfold Ob.oop; omega) (getO_none e b hb)
theorem HOk.range {x : HW} (h : HOk x) {b : Ob} (hb : b ∈ x.a.obs) : 1 ≤ b.at_ ∧ b.at_ ≤ 268435455 := by
  have h1 := h.lay.low b hb
  have h2 := h.lay.at_lt hb
  have h3 := h.lay.len
  omega
def inRm (rm : List (Nat × Nat × Nat)) (i w : Nat) : Bool := decide (((rm[i]?).getD (0, 0, 0)).1 ≤ w ∧ w < ((rm[i]?).getD (0, 0, 0)).2.1)
def spaceW (rm : List (Nat × Nat × Nat)) (w : Nat) : Nat := if inRm rm 1 w then 1 else if inRm rm 2 w then 2 else if inRm rm 3 w then 3 else if inRm rm 4 w then 4 else if inRm rm 5 w then 5 else 0
def spaceO (a : AH) (o : Nat) : Nat := match getO a.obs o with | some b => spaceW a.rm b.at_ | none => 0
def youngO (a : AH) (o : Nat) : Bool := decide (1 ≤ spaceO a o ∧ spaceO a o ≤ 3)
theorem spaceW_le (rm : List (Nat × Nat × Nat)) (w : Nat) : spaceW rm w ≤ 5 := by unfold spaceW; repeat' split
                                                                                  all_goals omega
theorem spaceW_some {rm : List (Nat × Nat × Nat)} {w i : Nat} (h1 : 1 ≤ i) (h2 : i ≤ 5) (h : inRm rm i w = true) (hn : ∀ j, 1 ≤ j → j < i → inRm rm j w = false) : spaceW rm w = i := by
  have hi : i = 1 ∨ i = 2 ∨ i = 3 ∨ i = 4 ∨ i = 5 := by omega
  unfold spaceW
  rcases hi with rfl | rfl | rfl | rfl | rfl
  · simp [h]
  · simp [h, hn 1]
  · simp [h, hn 1, hn 2]
  · simp [h, hn 1, hn 2, hn 3]
  · simp [h, hn 1, hn 2, hn 3, hn 4]
theorem spaceW_none {rm : List (Nat × Nat × Nat)} {w : Nat} (hn : ∀ j, 1 ≤ j → j < 6 → inRm rm j w = false) : spaceW rm w = 0 := by
  unfold spaceW; simp [hn 1, hn 2, hn 3, hn 4, hn 5]
theorem rm_six {rm : List (Nat × Nat × Nat)} (h : rm.length = 6) : ∃ r0 r1 r2 r3 r4 r5, rm = [r0, r1, r2, r3, r4, r5] := by
  match rm, h with
  | [r0, r1, r2, r3, r4, r5], _ => exact ⟨_, _, _, _, _, _, rfl⟩
theorem HOk.word {x : HW} (hx : HOk x) {o : Nat} {b : Ob} (h : getO x.a.obs o = some b) : wordO o = b.at_ ∧ b ∈ x.a.obs := by
  obtain ⟨h1, rfl⟩ := getO_some h
  have h2 := hx.range h1
  refine ⟨?_, h1⟩
  unfold wordO
  rw [show tagO b.oop = 3 from tagO_obj h2.1 h2.2, if_pos rfl]
  unfold Ob.oop; omega
def insO (b : Ob) : List Ob → List Ob
  | [] => [b]
  | c :: r => if c.at_ < b.at_ then c :: insO b r else b :: c :: r
def updO (w : Nat) (f : Ob → Ob) (obs : List Ob) : List Ob := obs.map fun b => if b.at_ = w then f b else b
theorem mem_insO {b x : Ob} : ∀ {obs : List Ob}, x ∈ insO b obs ↔ x = b ∨ x ∈ obs := by
  intro obs
  induction obs with
  | nil => simp [insO]
  | cons c r ih =>
    simp only [insO]
    split
    · simp only [List.mem_cons, ih]
      constructor
      · rintro (h | h | h) <;> simp [h]
      · rintro (h | h | h) <;> simp [h]
    · simp only [List.mem_cons]
theorem insO_sort {b : Ob} : ∀ {obs : List Ob}, (obs.Pairwise fun a b => a.stop ≤ b.at_) → (∀ c ∈ obs, c.stop ≤ b.at_ ∨ b.stop ≤ c.at_) → (insO b obs).Pairwise fun a b => a.stop ≤ b.at_ := by
  intro obs
  induction obs with
  | nil => intro _ _; simp [insO]
  | cons c r ih =>
    intro h hc
    obtain ⟨h1, h2⟩ := List.pairwise_cons.1 h
    have hcb := hc c (by simp)
    simp only [insO]
    split
    · rename_i hlt
      have hs : c.stop ≤ b.at_ := by
        rcases hcb with h | h
        · exact h
        · unfold Ob.stop at h; omega
      refine List.pairwise_cons.2 ⟨fun x hx => ?_, ih h2 (fun c hc' => hc c (by simp [hc']))⟩
      rcases mem_insO.1 hx with rfl | hx
      · exact hs
      · exact h1 x hx
    · rename_i hlt
      have hs : b.stop ≤ c.at_ := by
        rcases hcb with h | h
        · unfold Ob.stop at h; omega
        · exact h
      refine List.pairwise_cons.2 ⟨fun x hx => ?_, h⟩
      rcases List.mem_cons.1 hx with rfl | hx
      · exact hs
      · have := h1 x hx; unfold Ob.stop at this hs ⊢; omega
theorem mem_updO {w : Nat} {f : Ob → Ob} {obs : List Ob} {y : Ob} : y ∈ updO w f obs ↔ ∃ b ∈ obs, y = if b.at_ = w then f b else b := by
  simp only [updO, List.mem_map]; constructor <;> rintro ⟨b, h1, h2⟩ <;> exact ⟨b, h1, h2.symm⟩
structure Keep (f : Ob → Ob) : Prop where
  at_ : ∀ b, (f b).at_ = b.at_
  slots : ∀ b, (f b).hd.slots = b.hd.slots
theorem updO_sort {w : Nat} {f : Ob → Ob} (hf : Keep f) {obs : List Ob} (h : obs.Pairwise fun a b => a.stop ≤ b.at_) : (updO w f obs).Pairwise fun a b => a.stop ≤ b.at_ := by
  unfold updO
  rw [List.pairwise_map]
  refine h.imp (fun {a b} hab => ?_)
  have e1 : ∀ c : Ob, (if c.at_ = w then f c else c).at_ = c.at_ := fun c => by split <;> simp [hf.at_]
  have e2 : ∀ c : Ob, (if c.at_ = w then f c else c).stop = c.stop := fun c => by split <;> simp [Ob.stop, hf.at_, hf.slots]
  rw [e1, e2]; exact hab
theorem updO_at {w : Nat} {f : Ob → Ob} (hf : Keep f) {obs : List Ob} {v : Nat} : (∃ b ∈ updO w f obs, b.at_ = v) ↔ ∃ b ∈ obs, b.at_ = v := by
  have e1 : ∀ c : Ob, (if c.at_ = w then f c else c).at_ = c.at_ := fun c => by split <;> simp [hf.at_]
  constructor
  · rintro ⟨y, hy, rfl⟩
    obtain ⟨b, hb, rfl⟩ := mem_updO.1 hy
    exact ⟨b, hb, (e1 b).symm⟩
  · rintro ⟨b, hb, rfl⟩
    exact ⟨_, mem_updO.2 ⟨b, hb, rfl⟩, e1 b⟩
section
variable {ws st : List Nat} {obs : List Ob}
theorem Lay.upd (h : Lay ws st obs) {b : Ob} (hb : b ∈ obs) {f : Ob → Ob} (hf : Keep f) {ws' : List Nat} (hl : ws'.length = ws.length) (hs : ∀ x ∈ ws', x < 18446744073709551616) (hok : (f b).Ok)
    (hout : ∀ i, ¬ (b.at_ ≤ i ∧ i < b.stop) → ws'[i]? = ws[i]?) (hh : ws'[b.at_]? = some (pk (f b).hd) ∧ ws'[b.at_ + 1]? = some b.hd.slots) (hbd : ∀ i < b.hd.slots, ws'[b.at_ + 2 + i]? = (f b).body[i]?) : Lay ws' st (updO b.at_ f obs) := by
  have key : ∀ c ∈ obs, c.at_ = b.at_ → c = b := fun c hc e => sort_one h.sort hc hb e
  have apart : ∀ c ∈ obs, c.at_ ≠ b.at_ → ∀ i, c.at_ ≤ i → i < c.stop → ws'[i]? = ws[i]? := fun c hc e i h1 h2 => by
    refine hout i (fun h3 => ?_)
    rcases sort_apart h.sort hc hb (fun e' => e (by rw [e'])) with h4 | h4 <;> omega
  have cases_ : ∀ y ∈ updO b.at_ f obs, y = f b ∨ (y ∈ obs ∧ y.at_ ≠ b.at_) := fun y hy => by
    obtain ⟨c, hc, rfl⟩ := mem_updO.1 hy
    split
    · rename_i e; rw [key c hc e]; exact .inl rfl
    · rename_i e; exact .inr ⟨hc, e⟩
  have hfs : (f b).stop = b.stop := by simp [Ob.stop, hf.at_, hf.slots]
  refine ⟨hs, h.sts, by rw [hl]; exact h.stl, by rw [hl]; exact h.len, ?_, ?_, ?_, ?_, ?_, updO_sort hf h.sort, ?_⟩
  · intro y hy
    rcases cases_ y hy with rfl | ⟨h1, _⟩
    · exact hok
    · exact h.ok y h1
  · intro y hy
    rcases cases_ y hy with rfl | ⟨h1, _⟩
    · rw [hf.at_]; exact h.low b hb
    · exact h.low y h1
  · intro y hy
    rw [hl]
    rcases cases_ y hy with rfl | ⟨h1, _⟩
    · rw [hfs]; exact h.high b hb
    · exact h.high y h1
  · intro y hy
    rcases cases_ y hy with rfl | ⟨h1, h2⟩
    · rw [hf.at_, hf.slots]; exact hh
    · have := h.head y h1
      rw [apart y h1 h2 _ (Nat.le_refl _) (by unfold Ob.stop; omega), apart y h1 h2 _ (by omega) (by unfold Ob.stop; omega)]; exact this
  · intro y hy i hi
    rcases cases_ y hy with rfl | ⟨h1, h2⟩
    · rw [hf.at_]; exact hbd i (by rw [hf.slots] at hi; exact hi)
    · rw [apart y h1 h2 _ (by omega) (by unfold Ob.stop; omega)]; exact h.body y h1 i hi
  · intro v hv
    rw [hl] at hv
    rw [updO_at hf]; exact h.bits v hv
theorem Lay.ins (h : Lay ws st obs) {b : Ob} (hok : b.Ok) (hlow : 2 ≤ b.at_) (hhigh : b.stop ≤ ws.length) (hap : ∀ c ∈ obs, c.stop ≤ b.at_ ∨ b.stop ≤ c.at_) {ws' : List Nat} (hl : ws'.length = ws.length) (hs : ∀ x ∈ ws', x < 18446744073709551616)
    (hout : ∀ i, ¬ (b.at_ ≤ i ∧ i < b.stop) → ws'[i]? = ws[i]?) (hh : ws'[b.at_]? = some (pk b.hd) ∧ ws'[b.at_ + 1]? = some b.hd.slots) (hbd : ∀ i < b.hd.slots, ws'[b.at_ + 2 + i]? = b.body[i]?) : Lay ws' (setBit st b.at_ true) (insO b obs) := by
  have apart : ∀ c ∈ obs, ∀ i, c.at_ ≤ i → i < c.stop → ws'[i]? = ws[i]? := fun c hc i h1 h2 => by
    refine hout i (fun h3 => ?_)
    rcases hap c hc with h4 | h4 <;> omega
  have hw : b.at_ / 64 < st.length := by rw [h.stl]; unfold Ob.stop at hhigh; omega
  refine ⟨hs, setBit_small h.sts, by rw [setBit_len, hl]; exact h.stl, by rw [hl]; exact h.len, ?_, ?_, ?_, ?_, ?_, insO_sort h.sort hap, ?_⟩
  · intro y hy
    rcases mem_insO.1 hy with rfl | h1
    · exact hok
    · exact h.ok y h1
  · intro y hy
    rcases mem_insO.1 hy with rfl | h1
    · exact hlow
    · exact h.low y h1
  · intro y hy
    rw [hl]
    rcases mem_insO.1 hy with rfl | h1
    · exact hhigh
    · exact h.high y h1
  · intro y hy
    rcases mem_insO.1 hy with rfl | h1
    · exact hh
    · have := h.head y h1
      rw [apart y h1 _ (Nat.le_refl _) (by unfold Ob.stop; omega), apart y h1 _ (by omega) (by unfold Ob.stop; omega)]; exact this
  · intro y hy i hi
    rcases mem_insO.1 hy with rfl | h1
    · exact hbd i hi
    · rw [apart y h1 _ (by omega) (by unfold Ob.stop; omega)]; exact h.body y h1 i hi
  · intro v hv
    rw [hl] at hv
    rw [bitAt_set h.sts hw]
    by_cases e : v = b.at_
    · subst e
      simp only [if_true, true_iff]
      exact ⟨b, mem_insO.2 (.inl rfl), rfl⟩
    · rw [if_neg e, h.bits v hv]
      constructor
      · rintro ⟨c, hc, rfl⟩; exact ⟨c, mem_insO.2 (.inr hc), rfl⟩
      · rintro ⟨c, hc, rfl⟩
        rcases mem_insO.1 hc with rfl | hc
        · exact absurd rfl e
        · exact ⟨c, hc, rfl⟩
theorem Lay.del (h : Lay ws st obs) {w : Nat} (hw : w < ws.length) : Lay ws (setBit st w false) (obs.filter fun b => decide (b.at_ ≠ w)) := by
  have sub : ∀ y ∈ obs.filter (fun b => decide (b.at_ ≠ w)), y ∈ obs := fun y hy => (List.mem_filter.1 hy).1
  refine ⟨h.small, setBit_small h.sts, by rw [setBit_len]; exact h.stl, h.len, fun y hy => h.ok y (sub y hy), fun y hy => h.low y (sub y hy), fun y hy => h.high y (sub y hy), fun y hy => h.head y (sub y hy), fun y hy => h.body y (sub y hy), h.sort.sublist List.filter_sublist, ?_⟩
  intro v hv
  rw [bitAt_set h.sts (by rw [h.stl]; omega)]
  by_cases e : v = w
  · subst e; simp
  · rw [if_neg e, h.bits v hv]
    constructor
    · rintro ⟨c, hc, rfl⟩; exact ⟨c, List.mem_filter.2 ⟨hc, by simpa using e⟩, rfl⟩
    · rintro ⟨c, hc, rfl⟩; exact ⟨c, sub c hc, rfl⟩
end
theorem low_ex : ∀ {z : Nat}, z ≠ 0 → ∃ i k, z = 2 ^ i * (2 * k + 1) := by
  intro z
  induction z using Nat.strongRecOn with
  | _ z ih =>
    intro h
    by_cases e : z % 2 = 1
    · exact ⟨0, z / 2, by rw [Nat.pow_zero, Nat.one_mul]; omega⟩
    · obtain ⟨i, k, h2⟩ := ih (z / 2) (by omega) (by omega)
      refine ⟨i + 1, k, ?_⟩
      rw [Nat.pow_succ, Nat.mul_assoc, Nat.mul_comm 2, ← Nat.mul_assoc, ← h2]; omega
theorem low_bits {i k j : Nat} : (2 ^ i * (2 * k + 1)).testBit j = if j < i then false else (2 * k + 1).testBit (j - i) := by
  have := Nat.testBit_two_pow_mul_add (2 * k + 1) (b := 0) (i := i) (Nat.two_pow_pos _) j
  simpa using this
theorem low_and {i k : Nat} (h : 2 ^ i * (2 * k + 1) < 18446744073709551616) : (2 ^ i * (2 * k + 1)) &&& (18446744073709551616 - 2 ^ i * (2 * k + 1)) = 2 ^ i := by
  have hp := Nat.two_pow_pos i
  have hz : 0 < 2 ^ i * (2 * k + 1) := Nat.mul_pos hp (by omega)
  have hi : i < 64 := by
    by_cases hi : i < 64
    · exact hi
    · have : 2 ^ 64 ≤ 2 ^ i := Nat.pow_le_pow_right (by omega) (by omega)
      have h2 : 2 ^ i * 1 ≤ 2 ^ i * (2 * k + 1) := Nat.mul_le_mul_left _ (by omega)
      omega
  have e : 2 ^ i * (2 * k + 1) - 1 = 2 ^ i * (2 * k) + (2 ^ i - 1) := by rw [Nat.mul_add]; omega
  apply Nat.eq_of_testBit_eq
  intro j
  rw [Nat.testBit_and, Nat.testBit_two_pow]
  have h1 := Nat.testBit_two_pow_sub_succ (n := 64) (x := 2 ^ i * (2 * k + 1) - 1) (by omega) j
  rw [show 2 ^ 64 - (2 ^ i * (2 * k + 1) - 1 + 1) = 18446744073709551616 - 2 ^ i * (2 * k + 1) by omega] at h1
  rw [h1, e, Nat.testBit_two_pow_mul_add _ (by omega) j, low_bits]
  by_cases hj : j < i
  · simp [hj]; omega
  · simp only [hj, if_false]
    by_cases e2 : i = j
    · subst e2
      simp [hi]
    · have hs : j - i = (j - i - 1) + 1 := by omega
      rw [hs, Nat.testBit_succ, Nat.testBit_succ]
      rw [show (2 * k + 1) / 2 = k by omega, show (2 * k) / 2 = k by omega]
      simp only [e2, decide_false]
      cases k.testBit (j - i - 1) <;> simp
def tzTab : List Nat := [0, 1, 56, 2, 57, 49, 28, 3, 61, 58, 42, 50, 38, 29, 17, 4, 62, 47, 59, 36, 45, 43, 51, 22, 53, 39, 33, 30, 24, 18, 12, 5, 63, 55, 48, 27, 60, 41, 37, 16, 46, 35, 44, 21, 52, 32, 23, 11, 54, 26, 40, 15, 34, 20, 31, 10, 25, 14, 19, 9, 13, 8, 7, 6]
theorem wrapUI (a : Int) : IntKind.u64.wrap a = a % 18446744073709551616 := by
  simp only [IntKind.wrap, IntKind.bits, IntKind.signed]; simp
theorem negU {z : Nat} (h0 : 0 < z) (h : z < 18446744073709551616) : IntKind.u64.wrap (0 - (z : Int)) = ((18446744073709551616 - z : Nat) : Int) := by
  rw [wrapUI]; omega
theorem tzQ (t : Nat) : ((t : Int)).fdiv (2 ^ min (Int.toNat 58) IntKind.u64.bits) = ((t / 288230376151711744 : Nat) : Int) := by
  have e : (2 ^ min (Int.toNat 58) IntKind.u64.bits : Int) = 288230376151711744 := by decide
  rw [e, Int.fdiv_eq_ediv_of_nonneg _ (by omega)]; omega
theorem tzM (y : Nat) : (IntKind.u64.wrap ((y : Int) * 285870213051353865)).fdiv (2 ^ min (Int.toNat 58) IntKind.u64.bits) = ((y * 285870213051353865 % 18446744073709551616 / 288230376151711744 : Nat) : Int) := by
  rw [show ((y : Int) * 285870213051353865) = ((y * 285870213051353865 : Nat) : Int) by omega, wrapU, tzQ]
def TZ : List Atom := cellsAt 0 0 (tzTab.map cv)
theorem tz_all : ∀ i, i < 64 → (2 ^ i * 285870213051353865 % 18446744073709551616) / 288230376151711744 < 64 ∧ tzTab[(2 ^ i * 285870213051353865 % 18446744073709551616) / 288230376151711744]? = some i := by decide
theorem tz_mem {i j : Nat} (h : tzTab[j]? = some i) : Atom.cell 0 j (cv i) ∈ TZ := mem_cellsAt.2 ⟨j, cv i, by simp [h], by simp⟩
def nextO (obs : List Ob) (w e : Nat) : Option Ob := obs.find? fun b => decide (w ≤ b.at_ ∧ b.at_ < e)
def nextV (r : Option Ob) : Int := match r with | some b => b.at_ | none => -1
theorem nextO_none {obs : List Ob} {w e : Nat} (h : ∀ b ∈ obs, ¬ (w ≤ b.at_ ∧ b.at_ < e)) : nextO obs w e = none := by
  unfold nextO
  rw [List.find?_eq_none]
  intro b hb; simpa using h b hb
theorem nextO_some {obs : List Ob} (hs : obs.Pairwise fun a b => a.stop ≤ b.at_) {w e : Nat} {b : Ob} (hb : b ∈ obs) (h1 : w ≤ b.at_) (h2 : b.at_ < e) (hn : ∀ c ∈ obs, ¬ (w ≤ c.at_ ∧ c.at_ < b.at_)) : nextO obs w e = some b := by
  unfold nextO
  induction obs with
  | nil => cases hb
  | cons x r ih =>
    obtain ⟨p1, p2⟩ := List.pairwise_cons.1 hs
    by_cases hx : w ≤ x.at_ ∧ x.at_ < e
    · rw [List.find?_cons_of_pos (by simpa using hx)]
      rcases List.mem_cons.1 hb with rfl | hb'
      · rfl
      · have := p1 b hb'
        unfold Ob.stop at this
        exact absurd ⟨hx.1, by omega⟩ (hn x (by simp))
    · rw [List.find?_cons_of_neg (by simpa using hx)]
      rcases List.mem_cons.1 hb with rfl | hb'
      · exact absurd ⟨h1, h2⟩ hx
      · exact ih p2 hb' (fun c hc => hn c (by simp [hc]))
theorem Lay.gap {ws st : List Nat} {obs : List Ob} (h : Lay ws st obs) {w v : Nat} (hv : v ≤ ws.length) : (∀ b ∈ obs, ¬ (w ≤ b.at_ ∧ b.at_ < v)) ↔ ∀ i, w ≤ i → i < v → bitAt st i = false := by
  constructor
  · intro hb i h1 h2
    rw [Bool.eq_false_iff]
    intro e
    obtain ⟨b, hb', rfl⟩ := (h.bits i (by omega)).1 e
    exact hb b hb' ⟨h1, h2⟩
  · intro hi b hb ⟨h1, h2⟩
    have := (h.bits b.at_ (by omega)).2 ⟨b, hb, rfl⟩
    rw [hi _ h1 h2] at this; cases this
end Go.V

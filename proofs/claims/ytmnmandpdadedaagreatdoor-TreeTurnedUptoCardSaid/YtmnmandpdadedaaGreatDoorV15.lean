/-
  The heap: its objects, its roots, its rooms; how it lies in memory.
-/
import Derived.Test.YtmnmandpdadedaaGreatDoorV14
import Derived.Test.YtmnmandpdadedaaGreatDoorV11
import Derived.Test.YtmnmandpdadedaaGreatDoorV7
import Derived.Test.YtmnmandpdadedaaGreatDoorV12
import Derived.Test.YtmnmandpdadedaaGreatDoorV13
set_option linter.unusedSimpArgs false
set_option linter.unusedVariables false
namespace Go.V
open Go
def kU : KEnc Nat := ⟨.int, uv, fun a b => by
  show some (decide (((a : Nat) : Int) = ((b : Nat) : Int))) = some (decide (a = b))
  congr 1; rw [decide_eq_decide]; omega⟩
structure AH where
  rm : List (Nat × Nat × Nat)
  obs : List Ob
  sp : List Nat
  cl : List Nat
  stack : List Nat
  queue : List Nat
  noted : List Nat
  ahead : List (Nat × Nat)
  given : Nat
structure HW where
  a : AH
  ws : List Nat
  st : List Nat
  wb : Nat
  sb : Nat
  kv : Value
  qv : Value
  nv : Value
  ks : List Value
  qs : List Value
  ns : List Value
  mb : Nat
  es : Array MapEntry
  mc : Nat
def rmEnc (r : Nat × Nat × Nat) : List Value := [vi r.1, vi r.2.1, vi r.2.2]
def arrV (b : Nat) (l : List Nat) : Value := .slice (some ⟨b, 0, none⟩) l.length l.length
def HMem (p : Nat) (x : HW) : SH :=
  [cellsAt p 0 [arrV x.wb x.ws, arrV x.sb x.st], cellsAt p 4180 [x.kv, x.qv, x.nv, .map (some x.mb), vi x.a.given], cellsAt p 2 (x.a.rm.flatMap rmEnc), cellsAt p 20 (x.a.sp.map uv), cellsAt p 84 (x.a.cl.map uv),
   cellsAt x.wb 0 (x.ws.map uv), cellsAt x.sb 0 (x.st.map uv), slA x.kv (x.a.stack.map uv) x.ks, slA x.qv (x.a.queue.map uv) x.qs, slA x.nv (x.a.noted.map uv) x.ns, [.obj x.mb (.map x.es x.mc)]]
def HMw (p : Nat) (x : HW) (B : List Atom) : SH :=
  [cellsAt p 0 [.slice (some ⟨x.wb, 0, none⟩) x.ws.length x.ws.length, .slice (some ⟨x.sb, 0, none⟩) x.st.length x.st.length], cellsAt p 4180 [x.kv, x.qv, x.nv, .map (some x.mb), vi x.a.given], cellsAt p 2 (x.a.rm.flatMap rmEnc), cellsAt p 20 (x.a.sp.map uv), cellsAt p 84 (x.a.cl.map uv),
   B, cellsAt x.sb 0 (x.st.map uv), slA x.kv (x.a.stack.map uv) x.ks, slA x.qv (x.a.queue.map uv) x.qs, slA x.nv (x.a.noted.map uv) x.ns, [.obj x.mb (.map x.es x.mc)]]
theorem hmw (p : Nat) (x : HW) : HMem p x = HMw p x (cellsAt x.wb 0 (x.ws.map uv)) := rfl
def HA (p : Nat) (x : HW) : List Atom := (HMem p x).flatten
structure RmOk (a : AH) (n : Nat) : Prop where
  len : a.rm.length = 6
  zero : a.rm[0]? = some (0, 0, 0)
  rng : ∀ (i : Nat) (r : Nat × Nat × Nat), a.rm[i]? = some r → r.1 ≤ r.2.2 ∧ r.2.2 ≤ r.2.1 ∧ r.2.1 ≤ n
  low : ∀ (i : Nat) (r : Nat × Nat × Nat), 1 ≤ i → a.rm[i]? = some r → 2 ≤ r.1
  apart : ∀ (i j : Nat) (r s : Nat × Nat × Nat), i < j → a.rm[i]? = some r → a.rm[j]? = some s → 1 ≤ i → r.2.1 ≤ s.1 ∨ s.2.1 ≤ r.1
  inn : ∀ b ∈ a.obs, ∃ (i : Nat) (r : Nat × Nat × Nat), 1 ≤ i ∧ a.rm[i]? = some r ∧ r.1 ≤ b.at_ ∧ b.stop ≤ (if i = 5 then r.2.1 else r.2.2)
structure HOk (x : HW) : Prop where
  lay : Lay x.ws x.st x.a.obs
  rm : RmOk x.a x.ws.length
  spl : x.a.sp.length = 64
  cll : x.a.cl.length = 4096
  sps : ∀ o ∈ x.a.sp, o < 18446744073709551616
  cls : ∀ o ∈ x.a.cl, o < 18446744073709551616
  stks : ∀ o ∈ x.a.stack, o < 18446744073709551616
  ques : ∀ o ∈ x.a.queue, o < 18446744073709551616
  nots : ∀ o ∈ x.a.noted, o < 18446744073709551616
  stk : IsSl 1 x.kv x.a.stack.length (x.a.stack.map uv) x.ks
  que : IsSl 1 x.qv x.a.queue.length (x.a.queue.map uv) x.qs
  note : IsSl 1 x.nv x.a.noted.length (x.a.noted.map uv) x.ns
  map : MapIs kU uv x.es x.mc x.a.ahead
  given : x.a.given ≤ 4194303
  deep : x.a.stack.length ≤ 4096
  few : x.a.queue.length ≤ 1073741823 ∧ x.a.noted.length ≤ 1073741823
theorem mem_u {b o i n : Nat} {l : List Nat} (h : l[i]? = some n) : Atom.cell b (o + i) (uv n) ∈ cellsAt b o (l.map uv) :=
  mem_cellsAt.2 ⟨i, uv n, by simp [h], rfl⟩
theorem mem_u0 {b i n : Nat} {l : List Nat} (h : l[i]? = some n) : Atom.cell b i (uv n) ∈ cellsAt b 0 (l.map uv) :=
  mem_cellsAt.2 ⟨i, uv n, by simp [h], by simp⟩
section
variable {P : Program} {n : Nat} {rs : List RO} {Γ : Env} {H : SH} {Z : List PanicEntry → Env → SH → Prop} {K : Env → SH → Prop}
theorem st_storeU {d : Option Nat} {x y : Operand} {b o i k m : Nat} {l : List Nat} {R : SH} (hx : ev Γ x = some (.pointer (some ⟨b, k, none⟩))) (hy : ev Γ y = some (uv m)) (ht : Tk H (cellsAt b o (l.map uv)) R) (hk : o + i = k) (hi : i < l.length)
    (h : VO P n rs (putE d undef Γ) (cellsAt b o ((l.set i m).map uv) :: R) Z K) : VO P n (⟨d, none, .store 1 x y⟩ :: rs) Γ H Z K := by
  refine VO.perm (H' := cellsAt b o (l.map uv) :: R) (by simpa using ht.perm) ?_
  refine st_store' (us := [uv m]) hx hy rfl rfl rfl (Upd.set1 (i := i) hk (by rw [List.length_map]; exact hi)) ?_
  rw [← List.map_set]; exact h
end
theorem ha_spl (p : Nat) (x : HW) : Spl [HA p x] (HMem p x) [] := by simp [Spl, HA]
theorem ha_back (p : Nat) (x : HW) : Imp (HMem p x ++ []) [HA p x] := Imp.perm (by simp [HA])
theorem Fun.haR {P : Program} {f : Nat} {args : List Value} {p : Nat} {x : HW} {w : Value} (h : Fun P f args (HMem p x) (fun v Post => v = w ∧ Post = HMem p x)) : Fun P f args [HA p x] (fun v Post => v = w ∧ Post = [HA p x]) :=
  h.conv (ha_spl p x) (fun v Post hv => by obtain ⟨rfl, rfl⟩ := hv; exact ⟨_, ⟨rfl, rfl⟩, ha_back p x⟩)
theorem Fun.haT {P : Program} {f : Nat} {args : List Value} {p : Nat} {x : HW} {Q : Value → HW → Prop} (h : Fun P f args (HMem p x) (fun v Post => ∃ y, Q v y ∧ Post = HMem p y)) : Fun P f args [HA p x] (fun v Post => ∃ y, Q v y ∧ Post = [HA p y]) :=
  h.conv (ha_spl p x) (fun v Post hv => by obtain ⟨y, hy, rfl⟩ := hv; exact ⟨_, ⟨y, hy, rfl⟩, ha_back p y⟩)
def isAt (obs : List Ob) (w : Nat) : Bool := obs.any fun b => decide (b.at_ = w)
theorem isAt_iff {obs : List Ob} {w : Nat} : isAt obs w = true ↔ ∃ b ∈ obs, b.at_ = w := by simp [isAt]
theorem Lay.at_lt {ws st : List Nat} {obs : List Ob} (h : Lay ws st obs) {b : Ob} (hb : b ∈ obs) : b.at_ + 1 < ws.length := by
  have := h.high b hb; unfold Ob.stop at this; omega
theorem Lay.isAt {ws st : List Nat} {obs : List Ob} (h : Lay ws st obs) {w : Nat} (hw : w < ws.length) : V.isAt obs w = bitAt st w := by
  rw [Bool.eq_iff_iff, isAt_iff, h.bits w hw]
theorem Lay.isAt_no {ws st : List Nat} {obs : List Ob} (h : Lay ws st obs) {w : Nat} (hw : ¬ w < ws.length) : V.isAt obs w = false := by
  rw [Bool.eq_false_iff]
  intro e
  obtain ⟨b, hb, rfl⟩ := isAt_iff.1 e
  have := h.at_lt hb; omega
theorem getO_is {obs : List Ob} {o : Nat} (hl : ∀ b ∈ obs, 1 ≤ b.at_ ∧ b.at_ ≤ 268435455) : (getO obs o).isSome = (decide (tagO o = 3) && isAt obs (wordO o)) := by
  rw [Bool.eq_iff_iff, Option.isSome_iff_exists, Bool.and_eq_true, decide_eq_true_eq, isAt_iff]
  constructor
  · rintro ⟨b, hb⟩
    obtain ⟨h1, rfl⟩ := getO_some hb
    have h2 := hl b h1
    have h3 : tagO b.oop = 3 := tagO_obj h2.1 h2.2
    refine ⟨h3, b, h1, ?_⟩
    unfold wordO; rw [if_pos h3]; unfold Ob.oop; omega
  · rintro ⟨h1, b, hb, h2⟩
    unfold wordO at h2
    rw [if_pos h1] at h2
    have h3 := tagO_three h1
    cases e : getO obs o with
    | some c => exact ⟨c, rfl⟩
    | none => exact absurd (by unfold Ob.oop; omega) (getO_none e b hb)
theorem HOk.range {x : HW} (h : HOk x) {b : Ob} (hb : b ∈ x.a.obs) : 1 ≤ b.at_ ∧ b.at_ ≤ 268435455 := by
  have h1 := h.lay.low b hb
  have h2 := h.lay.at_lt hb
  have h3 := h.lay.len
  omega
def inRm (rm : List (Nat × Nat × Nat)) (i w : Nat) : Bool := decide (((rm[i]?).getD (0, 0, 0)).1 ≤ w ∧ w < ((rm[i]?).getD (0, 0, 0)).2.1)
def spaceW (rm : List (Nat × Nat × Nat)) (w : Nat) : Nat := if inRm rm 1 w then 1 else if inRm rm 2 w then 2 else if inRm rm 3 w then 3 else if inRm rm 4 w then 4 else if inRm rm 5 w then 5 else 0
def spaceO (a : AH) (o : Nat) : Nat := match getO a.obs o with | some b => spaceW a.rm b.at_ | none => 0
def youngO (a : AH) (o : Nat) : Bool := decide (1 ≤ spaceO a o ∧ spaceO a o ≤ 3)
theorem spaceW_le (rm : List (Nat × Nat × Nat)) (w : Nat) : spaceW rm w ≤ 5 := by unfold spaceW; repeat' split
                                                                                  all_goals omega
theorem spaceW_some {rm : List (Nat × Nat × Nat)} {w i : Nat} (h1 : 1 ≤ i) (h2 : i ≤ 5) (h : inRm rm i w = true) (hn : ∀ j, 1 ≤ j → j < i → inRm rm j w = false) : spaceW rm w = i := by
  have hi : i = 1 ∨ i = 2 ∨ i = 3 ∨ i = 4 ∨ i = 5 := by omega
  unfold spaceW
  rcases hi with rfl | rfl | rfl | rfl | rfl
  · simp [h]
  · simp [h, hn 1]
  · simp [h, hn 1, hn 2]
  · simp [h, hn 1, hn 2, hn 3]
  · simp [h, hn 1, hn 2, hn 3, hn 4]
theorem spaceW_none {rm : List (Nat × Nat × Nat)} {w : Nat} (hn : ∀ j, 1 ≤ j → j < 6 → inRm rm j w = false) : spaceW rm w = 0 := by
  unfold spaceW; simp [hn 1, hn 2, hn 3, hn 4, hn 5]
theorem rm_six {rm : List (Nat × Nat × Nat)} (h : rm.length = 6) : ∃ r0 r1 r2 r3 r4 r5, rm = [r0, r1, r2, r3, r4, r5] := by
  match rm, h with
  | [r0, r1, r2, r3, r4, r5], _ => exact ⟨_, _, _, _, _, _, rfl⟩
theorem HOk.word {x : HW} (hx : HOk x) {o : Nat} {b : Ob} (h : getO x.a.obs o = some b) : wordO o = b.at_ ∧ b ∈ x.a.obs := by
  obtain ⟨h1, rfl⟩ := getO_some h
  have h2 := hx.range h1
  refine ⟨?_, h1⟩
  unfold wordO
  rw [show tagO b.oop = 3 from tagO_obj h2.1 h2.2, if_pos rfl]
  unfold Ob.oop; omega
def insO (b : Ob) : List Ob → List Ob
  | [] => [b]
  | c :: r => if c.at_ < b.at_ then c :: insO b r else b :: c :: r
def updO (w : Nat) (f : Ob → Ob) (obs : List Ob) : List Ob := obs.map fun b => if b.at_ = w then f b else b
theorem mem_insO {b x : Ob} : ∀ {obs : List Ob}, x ∈ insO b obs ↔ x = b ∨ x ∈ obs := by
  intro obs
  induction obs with
  | nil => simp [insO]
  | cons c r ih =>
    simp only [insO]
    split
    · simp only [List.mem_cons, ih]
      constructor
      · rintro (h | h | h) <;> simp [h]
      · rintro (h | h | h) <;> simp [h]
    · simp only [List.mem_cons]
theorem insO_sort {b : Ob} : ∀ {obs : List Ob}, (obs.Pairwise fun a b => a.stop ≤ b.at_) → (∀ c ∈ obs, c.stop ≤ b.at_ ∨ b.stop ≤ c.at_) → (insO b obs).Pairwise fun a b => a.stop ≤ b.at_ := by
  intro obs
  induction obs with
  | nil => intro _ _; simp [insO]
  | cons c r ih =>
    intro h hc
    obtain ⟨h1, h2⟩ := List.pairwise_cons.1 h
    have hcb := hc c (by simp)
    simp only [insO]
    split
    · rename_i hlt
      have hs : c.stop ≤ b.at_ := by
        rcases hcb with h | h
        · exact h
        · unfold Ob.stop at h; omega
      refine List.pairwise_cons.2 ⟨fun x hx => ?_, ih h2 (fun c hc' => hc c (by simp [hc']))⟩
      rcases mem_insO.1 hx with rfl | hx
      · exact hs
      · exact h1 x hx
    · rename_i hlt
      have hs : b.stop ≤ c.at_ := by
        rcases hcb with h | h
        · unfold Ob.stop at h; omega
        · exact h
      refine List.pairwise_cons.2 ⟨fun x hx => ?_, h⟩
      rcases List.mem_cons.1 hx with rfl | hx
      · exact hs
      · have := h1 x hx; unfold Ob.stop at this hs ⊢; omega
theorem mem_updO {w : Nat} {f : Ob → Ob} {obs : List Ob} {y : Ob} : y ∈ updO w f obs ↔ ∃ b ∈ obs, y = if b.at_ = w then f b else b := by
  simp only [updO, List.mem_map]; constructor <;> rintro ⟨b, h1, h2⟩ <;> exact ⟨b, h1, h2.symm⟩
structure Keep (f : Ob → Ob) : Prop where
  at_ : ∀ b, (f b).at_ = b.at_
  slots : ∀ b, (f b).hd.slots = b.hd.slots
theorem updO_sort {w : Nat} {f : Ob → Ob} (hf : Keep f) {obs : List Ob} (h : obs.Pairwise fun a b => a.stop ≤ b.at_) : (updO w f obs).Pairwise fun a b => a.stop ≤ b.at_ := by
  unfold updO
  rw [List.pairwise_map]
  refine h.imp (fun {a b} hab => ?_)
  have e1 : ∀ c : Ob, (if c.at_ = w then f c else c).at_ = c.at_ := fun c => by split <;> simp [hf.at_]
  have e2 : ∀ c : Ob, (if c.at_ = w then f c else c).stop = c.stop := fun c => by split <;> simp [Ob.stop, hf.at_, hf.slots]
  rw [e1, e2]; exact hab
theorem updO_at {w : Nat} {f : Ob → Ob} (hf : Keep f) {obs : List Ob} {v : Nat} : (∃ b ∈ updO w f obs, b.at_ = v) ↔ ∃ b ∈ obs, b.at_ = v := by
  have e1 : ∀ c : Ob, (if c.at_ = w then f c else c).at_ = c.at_ := fun c => by split <;> simp [hf.at_]
  constructor
  · rintro ⟨y, hy, rfl⟩
    obtain ⟨b, hb, rfl⟩ := mem_updO.1 hy
    exact ⟨b, hb, (e1 b).symm⟩
  · rintro ⟨b, hb, rfl⟩
    exact ⟨_, mem_updO.2 ⟨b, hb, rfl⟩, e1 b⟩
section
variable {ws st : List Nat} {obs : List Ob}
theorem Lay.upd (h : Lay ws st obs) {b : Ob} (hb : b ∈ obs) {f : Ob → Ob} (hf : Keep f) {ws' : List Nat} (hl : ws'.length = ws.length) (hs : ∀ x ∈ ws', x < 18446744073709551616) (hok : (f b).Ok)
    (hout : ∀ i, ¬ (b.at_ ≤ i ∧ i < b.stop) → ws'[i]? = ws[i]?) (hh : ws'[b.at_]? = some (pk (f b).hd) ∧ ws'[b.at_ + 1]? = some b.hd.slots) (hbd : ∀ i < b.hd.slots, ws'[b.at_ + 2 + i]? = (f b).body[i]?) : Lay ws' st (updO b.at_ f obs) := by
  have key : ∀ c ∈ obs, c.at_ = b.at_ → c = b := fun c hc e => sort_one h.sort hc hb e
  have apart : ∀ c ∈ obs, c.at_ ≠ b.at_ → ∀ i, c.at_ ≤ i → i < c.stop → ws'[i]? = ws[i]? := fun c hc e i h1 h2 => by
    refine hout i (fun h3 => ?_)
    rcases sort_apart h.sort hc hb (fun e' => e (by rw [e'])) with h4 | h4 <;> omega
  have cases_ : ∀ y ∈ updO b.at_ f obs, y = f b ∨ (y ∈ obs ∧ y.at_ ≠ b.at_) := fun y hy => by
    obtain ⟨c, hc, rfl⟩ := mem_updO.1 hy
    split
    · rename_i e; rw [key c hc e]; exact .inl rfl
    · rename_i e; exact .inr ⟨hc, e⟩
  have hfs : (f b).stop = b.stop := by simp [Ob.stop, hf.at_, hf.slots]
  refine ⟨hs, h.sts, by rw [hl]; exact h.stl, by rw [hl]; exact h.len, ?_, ?_, ?_, ?_, ?_, updO_sort hf h.sort, ?_⟩
  · intro y hy
    rcases cases_ y hy with rfl | ⟨h1, _⟩
    · exact hok
    · exact h.ok y h1
  · intro y hy
    rcases cases_ y hy with rfl | ⟨h1, _⟩
    · rw [hf.at_]; exact h.low b hb
    · exact h.low y h1
  · intro y hy
    rw [hl]
    rcases cases_ y hy with rfl | ⟨h1, _⟩
    · rw [hfs]; exact h.high b hb
    · exact h.high y h1
  · intro y hy
    rcases cases_ y hy with rfl | ⟨h1, h2⟩
    · rw [hf.at_, hf.slots]; exact hh
    · have := h.head y h1
      rw [apart y h1 h2 _ (Nat.le_refl _) (by unfold Ob.stop; omega), apart y h1 h2 _ (by omega) (by unfold Ob.stop; omega)]; exact this
  · intro y hy i hi
    rcases cases_ y hy with rfl | ⟨h1, h2⟩
    · rw [hf.at_]; exact hbd i (by rw [hf.slots] at hi; exact hi)
    · rw [apart y h1 h2 _ (by omega) (by unfold Ob.stop; omega)]; exact h.body y h1 i hi
  · intro v hv
    rw [hl] at hv
    rw [updO_at hf]; exact h.bits v hv
theorem Lay.ins (h : Lay ws st obs) {b : Ob} (hok : b.Ok) (hlow : 2 ≤ b.at_) (hhigh : b.stop ≤ ws.length) (hap : ∀ c ∈ obs, c.stop ≤ b.at_ ∨ b.stop ≤ c.at_) {ws' : List Nat} (hl : ws'.length = ws.length) (hs : ∀ x ∈ ws', x < 18446744073709551616)
    (hout : ∀ i, ¬ (b.at_ ≤ i ∧ i < b.stop) → ws'[i]? = ws[i]?) (hh : ws'[b.at_]? = some (pk b.hd) ∧ ws'[b.at_ + 1]? = some b.hd.slots) (hbd : ∀ i < b.hd.slots, ws'[b.at_ + 2 + i]? = b.body[i]?) : Lay ws' (setBit st b.at_ true) (insO b obs) := by
  have apart : ∀ c ∈ obs, ∀ i, c.at_ ≤ i → i < c.stop → ws'[i]? = ws[i]? := fun c hc i h1 h2 => by
    refine hout i (fun h3 => ?_)
    rcases hap c hc with h4 | h4 <;> omega
  have hw : b.at_ / 64 < st.length := by rw [h.stl]; unfold Ob.stop at hhigh; omega
  refine ⟨hs, setBit_small h.sts, by rw [setBit_len, hl]; exact h.stl, by rw [hl]; exact h.len, ?_, ?_, ?_, ?_, ?_, insO_sort h.sort hap, ?_⟩
  · intro y hy
    rcases mem_insO.1 hy with rfl | h1
    · exact hok
    · exact h.ok y h1
  · intro y hy
    rcases mem_insO.1 hy with rfl | h1
    · exact hlow
    · exact h.low y h1
  · intro y hy
    rw [hl]
    rcases mem_insO.1 hy with rfl | h1
    · exact hhigh
    · exact h.high y h1
  · intro y hy
    rcases mem_insO.1 hy with rfl | h1
    · exact hh
    · have := h.head y h1
      rw [apart y h1 _ (Nat.le_refl _) (by unfold Ob.stop; omega), apart y h1 _ (by omega) (by unfold Ob.stop; omega)]; exact this
  · intro y hy i hi
    rcases mem_insO.1 hy with rfl | h1
    · exact hbd i hi
    · rw [apart y h1 _ (by omega) (by unfold Ob.stop; omega)]; exact h.body y h1 i hi
  · intro v hv
    rw [hl] at hv
    rw [bitAt_set h.sts hw]
    by_cases e : v = b.at_
    · subst e
      simp only [if_true, true_iff]
      exact ⟨b, mem_insO.2 (.inl rfl), rfl⟩
    · rw [if_neg e, h.bits v hv]
      constructor
      · rintro ⟨c, hc, rfl⟩; exact ⟨c, mem_insO.2 (.inr hc), rfl⟩
      · rintro ⟨c, hc, rfl⟩
        rcases mem_insO.1 hc with rfl | hc
        · exact absurd rfl e
        · exact ⟨c, hc, rfl⟩
theorem Lay.del (h : Lay ws st obs) {w : Nat} (hw : w < ws.length) : Lay ws (setBit st w false) (obs.filter fun b => decide (b.at_ ≠ w)) := by
  have sub : ∀ y ∈ obs.filter (fun b => decide (b.at_ ≠ w)), y ∈ obs := fun y hy => (List.mem_filter.1 hy).1
  refine ⟨h.small, setBit_small h.sts, by rw [setBit_len]; exact h.stl, h.len, fun y hy => h.ok y (sub y hy), fun y hy => h.low y (sub y hy), fun y hy => h.high y (sub y hy), fun y hy => h.head y (sub y hy), fun y hy => h.body y (sub y hy), h.sort.sublist List.filter_sublist, ?_⟩
  intro v hv
  rw [bitAt_set h.sts (by rw [h.stl]; omega)]
  by_cases e : v = w
  · subst e; simp
  · rw [if_neg e, h.bits v hv]
    constructor
    · rintro ⟨c, hc, rfl⟩; exact ⟨c, List.mem_filter.2 ⟨hc, by simpa using e⟩, rfl⟩
    · rintro ⟨c, hc, rfl⟩; exact ⟨c, sub c hc, rfl⟩
end
theorem HOk.newO {x : HW} (hx : HOk x) {sp : Nat} {r : Nat × Nat × Nat} (h1 : 1 ≤ sp) (hr : x.a.rm[sp]? = some r) {b : Ob} (hb : b.Ok) (hap : ∀ c ∈ x.a.obs, c.stop ≤ b.at_ ∨ b.stop ≤ c.at_) (hlo : r.1 ≤ b.at_) (hhi : b.stop ≤ r.2.1)
    {rm' : List (Nat × Nat × Nat)} (hrm : (sp = 5 ∧ rm' = x.a.rm) ∨ (sp ≠ 5 ∧ b.at_ = r.2.2 ∧ rm' = x.a.rm.set sp (r.1, r.2.1, b.stop)))
    {ws' : List Nat} (hl : ws'.length = x.ws.length) (hs : ∀ y ∈ ws', y < 18446744073709551616)
    (hout : ∀ i, ¬ (b.at_ ≤ i ∧ i < b.stop) → ws'[i]? = x.ws[i]?) (hh : ws'[b.at_]? = some (pk b.hd) ∧ ws'[b.at_ + 1]? = some b.hd.slots) (hbd : ∀ i < b.hd.slots, ws'[b.at_ + 2 + i]? = b.body[i]?) :
    HOk { x with a := { x.a with rm := rm', obs := insO b x.a.obs }, ws := ws', st := setBit x.st b.at_ true } := by
  have hlow := hx.rm.low sp r h1 hr
  have hrg := hx.rm.rng sp r hr
  have hget : ∀ i, ∃ f : Nat × Nat × Nat → Nat, ∀ s, rm'[i]? = some s → ∃ t, x.a.rm[i]? = some t ∧ s.1 = t.1 ∧ s.2.1 = t.2.1 ∧ (s.2.2 = t.2.2 ∨ (i = sp ∧ s.2.2 = b.stop)) := fun i => ⟨fun _ => 0, fun s hs' => by
    rcases hrm with ⟨_, rfl⟩ | ⟨_, _, rfl⟩
    · exact ⟨s, hs', rfl, rfl, .inl rfl⟩
    · rw [List.getElem?_set] at hs'
      split at hs'
      · rename_i e
        subst e
        split at hs'
        · simp only [Option.some.injEq] at hs'; subst hs'; exact ⟨r, hr, rfl, rfl, .inr ⟨rfl, rfl⟩⟩
        · cases hs'
      · exact ⟨s, hs', rfl, rfl, .inl rfl⟩⟩
  have hget2 : ∀ i t, x.a.rm[i]? = some t → ∃ s, rm'[i]? = some s ∧ s.1 = t.1 ∧ s.2.1 = t.2.1 ∧ ((i ≠ sp ∧ s = t) ∨ (i = sp ∧ (sp ≠ 5 → s.2.2 = b.stop ∧ t.2.2 = b.at_))) := fun i t ht => by
    rcases hrm with ⟨e5, rfl⟩ | ⟨_, e2, rfl⟩
    · by_cases e : i = sp
      · exact ⟨t, ht, rfl, rfl, .inr ⟨e, fun h => absurd e5 h⟩⟩
      · exact ⟨t, ht, rfl, rfl, .inl ⟨e, rfl⟩⟩
    · by_cases e : i = sp
      · subst e
        rw [hr] at ht; cases ht
        exact ⟨_, List.getElem?_set_self (List.getElem?_eq_some_iff.1 hr).1, rfl, rfl, .inr ⟨rfl, fun _ => ⟨rfl, e2.symm⟩⟩⟩
      · exact ⟨t, by rw [List.getElem?_set_ne (fun h => e h.symm)]; exact ht, rfl, rfl, .inl ⟨e, rfl⟩⟩
  refine ⟨hx.lay.ins hb (by omega) (by omega) hap hl hs hout hh hbd, ?_, hx.spl, hx.cll, hx.sps, hx.cls, hx.stks, hx.ques, hx.nots, hx.stk, hx.que, hx.note, hx.map, hx.given, hx.deep, hx.few⟩
  refine ⟨?_, ?_, ?_, ?_, ?_, ?_⟩
  · rcases hrm with ⟨_, rfl⟩ | ⟨_, _, rfl⟩
    · exact hx.rm.len
    · simpa using hx.rm.len
  · rcases hrm with ⟨_, rfl⟩ | ⟨_, _, rfl⟩
    · exact hx.rm.zero
    · show (x.a.rm.set sp _)[0]? = _
      rw [List.getElem?_set_ne (by omega)]; exact hx.rm.zero
  · intro i s hs'
    obtain ⟨_, h⟩ := hget i
    obtain ⟨t, ht, e1, e2, e3⟩ := h s hs'
    have := hx.rm.rng i t ht
    rw [hl]
    rcases e3 with e3 | ⟨rfl, e3⟩
    · omega
    · rw [hr] at ht; cases ht
      unfold Ob.stop at *; omega
  · intro i s hi hs'
    obtain ⟨_, h⟩ := hget i
    obtain ⟨t, ht, e1, e2, e3⟩ := h s hs'
    rw [e1]; exact hx.rm.low i t hi ht
  · intro i j s s2 hij hs' hs2 hi
    obtain ⟨_, h⟩ := hget i
    obtain ⟨t, ht, e1, e2, e3⟩ := h s hs'
    obtain ⟨_, h⟩ := hget j
    obtain ⟨t2, ht2, f1, f2, f3⟩ := h s2 hs2
    rw [e1, e2, f1, f2]; exact hx.rm.apart i j t t2 hij ht ht2 hi
  · intro c hc
    rcases mem_insO.1 hc with rfl | hc
    · obtain ⟨s, hs1, hs2, hs3, hs4⟩ := hget2 sp r hr
      refine ⟨sp, s, h1, hs1, by omega, ?_⟩
      split
      · omega
      · rename_i e
        rcases hs4 with ⟨h, _⟩ | ⟨_, h⟩
        · exact absurd rfl h
        · rw [(h e).1]; exact Nat.le_refl _
    · obtain ⟨i, t, hi, ht, c1, c2⟩ := hx.rm.inn c hc
      obtain ⟨s, hs1, hs2, hs3, hs4⟩ := hget2 i t ht
      refine ⟨i, s, hi, hs1, by omega, ?_⟩
      split
      · rename_i e; rw [if_pos e] at c2; omega
      · rename_i e
        rw [if_neg e] at c2
        rcases hs4 with ⟨_, rfl⟩ | ⟨e2, h⟩
        · exact c2
        · have := h (by omega)
          rw [this.1]
          unfold Ob.stop at *; omega
theorem HOk.free {x : HW} (hx : HOk x) {sp : Nat} {r : Nat × Nat × Nat} (h1 : 1 ≤ sp) (h5 : sp ≠ 5) (hr : x.a.rm[sp]? = some r) {e : Nat} (he : e ≤ r.2.1) : ∀ c ∈ x.a.obs, c.stop ≤ r.2.2 ∨ e ≤ c.at_ := by
  intro c hc
  obtain ⟨i, t, hi, ht, c1, c2⟩ := hx.rm.inn c hc
  have k1 := hx.rm.rng sp r hr
  have k2 := hx.rm.rng i t ht
  have c3 : c.stop ≤ t.2.1 := by split at c2 <;> omega
  by_cases e2 : i = sp
  · subst e2
    rw [hr] at ht; cases ht
    rw [if_neg h5] at c2
    exact .inl c2
  · by_cases h : i < sp
    · rcases hx.rm.apart i sp t r h ht hr hi with h2 | h2
      · exact .inl (by omega)
      · exact .inr (by omega)
    · rcases hx.rm.apart sp i r t (by omega) hr ht h1 with h2 | h2
      · exact .inr (by omega)
      · exact .inl (by omega)
theorem ha_words (p : Nat) (x : HW) {a m b : List Nat} (h : x.ws = a ++ (m ++ b)) : ∃ R, (HA p x).Perm (cellsAt x.wb a.length (m.map uv) ++ R) ∧ ∀ m' : List Nat, m'.length = m.length → (cellsAt x.wb a.length (m'.map uv) ++ R).Perm (HA p { x with ws := a ++ (m' ++ b) }) := by
  have key : ∀ m' : List Nat, m'.length = m.length → (HA p { x with ws := a ++ (m' ++ b) }).Perm (cellsAt x.wb a.length (m'.map uv) ++ (cellsAt p 0 [.slice (some ⟨x.wb, 0, none⟩) x.ws.length x.ws.length, .slice (some ⟨x.sb, 0, none⟩) x.st.length x.st.length] ++ (cellsAt p 4180 [x.kv, x.qv, x.nv, .map (some x.mb), vi x.a.given] ++ (cellsAt p 2 (x.a.rm.flatMap rmEnc) ++ (cellsAt p 20 (x.a.sp.map uv) ++ (cellsAt p 84 (x.a.cl.map uv) ++
      (cellsAt x.wb 0 (a.map uv) ++ (cellsAt x.wb (a.length + m.length) (b.map uv) ++ (cellsAt x.sb 0 (x.st.map uv) ++ (slA x.kv (x.a.stack.map uv) x.ks ++ (slA x.qv (x.a.queue.map uv) x.qs ++ (slA x.nv (x.a.noted.map uv) x.ns ++ [.obj x.mb (.map x.es x.mc)])))))))))))) := by
    intro m' hm
    have hl : (a ++ (m' ++ b)).length = x.ws.length := by rw [h]; simp [hm]
    simp only [HA, HMem, arrV, hl, List.flatten_cons, List.flatten_nil, List.append_nil, List.map_append, cellsAt_append, List.length_map, Nat.zero_add, hm]
    generalize cellsAt p 0 _ = A1
    generalize cellsAt p 4180 _ = A2
    generalize cellsAt p 2 _ = A3
    generalize cellsAt p 20 _ = A4
    generalize cellsAt p 84 _ = A5
    generalize cellsAt x.wb 0 _ = A6
    generalize cellsAt x.wb a.length _ = A7
    generalize cellsAt x.wb (a.length + m.length) _ = A8
    generalize cellsAt x.sb 0 _ = A9
    generalize slA x.kv _ _ = A10
    generalize slA x.qv _ _ = A11
    generalize slA x.nv _ _ = A12
    simp only [List.append_assoc]
    exact ((((((perm_lead A6 A7 _).append_left A5 |>.trans (perm_lead A5 A7 _)).append_left A4 |>.trans (perm_lead A4 A7 _)).append_left A3 |>.trans (perm_lead A3 A7 _)).append_left A2 |>.trans (perm_lead A2 A7 _)).append_left A1 |>.trans (perm_lead A1 A7 _))
  refine ⟨_, ?_, fun m' hm => (key m' hm).symm⟩
  have := key m rfl
  rw [← h] at this
  exact this
theorem zrow (n : Nat) : zeroRow n [Value.int .u64 0] = (List.replicate n 0).map uv := by
  apply List.ext_getElem?
  intro i
  simp only [zeroRow, List.length_cons, List.length_nil, Nat.zero_add, Nat.mul_one, List.getElem?_map, List.map_replicate]
  by_cases h : i < n
  · rw [List.getElem?_range h, List.getElem?_replicate, if_pos h]
    simp only [Option.map_some, Nat.mod_one]; rfl
  · rw [List.getElem?_eq_none (by simpa using h), List.getElem?_replicate, if_neg h]; rfl
def clrW (l : List Nat) (w n : Nat) : List Nat := l.take (w + 2) ++ (List.replicate n 0 ++ l.drop (w + 2 + n))
theorem clrW_len {l : List Nat} {w n : Nat} (h : w + 2 + n ≤ l.length) : (clrW l w n).length = l.length := by simp [clrW]; omega
theorem clrW_get {l : List Nat} {w n i : Nat} (h : w + 2 + n ≤ l.length) : (clrW l w n)[i]? = if w + 2 ≤ i ∧ i < w + 2 + n then some 0 else l[i]? := by
  unfold clrW
  by_cases h1 : i < w + 2
  · rw [if_neg (by omega), List.getElem?_append_left (by simp; omega), List.getElem?_take_of_lt h1]
  · rw [List.getElem?_append_right (by simp; omega), List.length_take, Nat.min_eq_left (by omega)]
    by_cases h2 : i < w + 2 + n
    · rw [if_pos (by omega), List.getElem?_append_left (by simp; omega), List.getElem?_replicate, if_pos (by omega)]
    · rw [if_neg (by omega), List.getElem?_append_right (by simp; omega), List.length_replicate, List.getElem?_drop]
      congr 1; omega
section
variable {P : Program} {n : Nat} {rs : List RO} {Γ : Env} {H : SH} {Z : List PanicEntry → Env → SH → Prop} {K : Env → SH → Prop} {d : Option Nat}
theorem st_clrW {p : Nat} {x : HW} {w k : Nat} {y : Operand} {R : SH} (hw : w + 2 + k ≤ x.ws.length) (hy : ev Γ y = some (.slice (some ⟨x.wb, if k = 0 then 0 else w + 2, none⟩) k k)) (ht : Tk H (HA p x) R)
    (h : VO P n rs (putE d (.tuple #[]) Γ) (HA p { x with ws := clrW x.ws w k } :: R) Z K) : VO P n (⟨d, none, .clr [.int .u64 0] y⟩ :: rs) Γ H Z K := by
  have hone : (zeroRow k [Value.int .u64 0]).all oneCell = true := by
    rw [zrow]; simp [oneCell]
  by_cases h0 : k = 0
  · subst h0
    rw [if_pos rfl] at hy
    have e : clrW x.ws w 0 = x.ws := by simp [clrW]
    rw [e] at h
    refine VO.perm (H' := HA p x :: R) (by simpa using ht.perm) ?_
    refine st_clear (A := []) (old := []) (R := HA p x :: R) hy (by simp [cellsAt]) rfl hone ?_
    refine VO.perm ?_ h
    have : zeroRow 0 [Value.int .u64 0] = [] := rfl
    rw [this]; simp [cellsAt]
  · rw [if_neg h0] at hy
    have hs : x.ws = x.ws.take (w + 2) ++ ((x.ws.drop (w + 2)).take k ++ x.ws.drop (w + 2 + k)) := by
      rw [show x.ws.drop (w + 2 + k) = (x.ws.drop (w + 2)).drop k from List.drop_drop.symm, List.take_append_drop, List.take_append_drop]
    obtain ⟨X, hX1, hX2⟩ := ha_words p x hs
    have hl : (x.ws.take (w + 2)).length = w + 2 := by simp; omega
    have hl2 : ((x.ws.drop (w + 2)).take k).length = k := by simp; omega
    rw [hl] at hX1 hX2
    refine st_clear (A := []) (old := ((x.ws.drop (w + 2)).take k).map uv) (R := [X ++ R.flatten]) hy ?_ (by rw [List.length_map, hl2, zrow]; simp) hone ?_
    · refine ht.perm.trans ?_
      simp only [List.flatten_cons, List.flatten_nil, List.append_nil]
      rw [← List.append_assoc]
      exact hX1.append_right _
    · refine VO.perm ?_ h
      simp only [List.flatten_cons, List.flatten_nil, List.append_nil, zrow]
      rw [← List.append_assoc]
      exact (hX2 (List.replicate k 0) (by rw [hl2]; simp)).append_right _
end
theorem ha_mem {p : Nat} {x : HW} {i v : Nat} (h : x.ws[i]? = some v) : Atom.cell x.wb i (uv v) ∈ HA p x := by
  simp only [HA, HMem, List.flatten_cons, List.mem_append]
  exact .inr (.inr (.inr (.inr (.inr (.inl (mem_u0 h))))))
theorem ha_sp {p : Nat} {x : HW} {i v : Nat} (h : x.a.sp[i]? = some v) : Atom.cell p (20 + i) (uv v) ∈ HA p x := by
  simp only [HA, HMem, List.flatten_cons, List.mem_append]
  exact .inr (.inr (.inr (.inl (mem_u h))))
theorem ha_cl {p : Nat} {x : HW} {i v : Nat} (h : x.a.cl[i]? = some v) : Atom.cell p (84 + i) (uv v) ∈ HA p x := by
  simp only [HA, HMem, List.flatten_cons, List.mem_append]
  exact .inr (.inr (.inr (.inr (.inl (mem_u h)))))
theorem ha_kv {p : Nat} {x : HW} : Atom.cell p 4180 x.kv ∈ HA p x ∧ Atom.cell p 4181 x.qv ∈ HA p x ∧ Atom.cell p 4182 x.nv ∈ HA p x := by
  simp [HA, HMem, cellsAt]
def Ob.off (b : Ob) : Nat := if b.hd.slots = 0 then 0 else b.at_ + 2
theorem HOk.slot {x : HW} (hx : HOk x) {b : Ob} (hb : b ∈ x.a.obs) {i v : Nat} (h : b.body[i]? = some v) : x.ws[b.off + i]? = some v ∧ v < 18446744073709551616 := by
  have hok := hx.lay.ok b hb
  have hi := (List.getElem?_eq_some_iff.1 h).1
  rw [hok.len] at hi
  have := hx.lay.body b hb i hi
  unfold Ob.off
  rw [if_neg (by omega), this]
  exact ⟨h, hok.small v (List.mem_of_getElem? h)⟩
section
variable {P : Program} {n : Nat} {rs : List RO} {Γ : Env} {H : SH} {Z : List PanicEntry → Env → SH → Prop} {K : Env → SH → Prop} {d : Option Nat}
theorem st_slcL2 {size len cap h b o : Nat} {x hi mx : Operand} {kh km : IntKind} {ch cm : Int} (hx : ev Γ x = some (.slice (some ⟨b, o, none⟩) len cap)) (hhi : ev Γ hi = some (.int kh ch)) (hmx : ev Γ mx = some (.int km cm))
    (eh : ch = (h : Int)) (em : cm = (h : Int)) (hr : h ≤ cap) (k : VO P n rs (putE d (.slice (some ⟨b, o, none⟩) h h) Γ) H Z K) :
    VO P n (⟨d, none, .slcL size x none (some hi) (some mx)⟩ :: rs) Γ H Z K := by
  subst eh em
  refine VO.pure rfl (fun ρ hρ => ?_) k
  have h1 : bound (Value.int km (h : Int)) cap = some h := by simp [bound]; omega
  have h2 : bound (Value.int kh (h : Int)) h = some h := by simp [bound]
  simp [pureV, hρ _ _ hx, hρ _ _ hhi, hρ _ _ hmx, bounds, h1, h2, boundO]
theorem st_slcL1 {size len cap l b o : Nat} {x lo : Operand} {kl : IntKind} {cl : Int} (hx : ev Γ x = some (.slice (some ⟨b, o, none⟩) len cap)) (hlo : ev Γ lo = some (.int kl cl)) (el : cl = (l : Int)) (hr : l ≤ len ∧ len ≤ cap)
    (k : VO P n rs (putE d (.slice (some ⟨b, if cap = l then o else o + l * size, none⟩) (len - l) (cap - l)) Γ) H Z K) :
    VO P n (⟨d, none, .slcL size x (some lo) none none⟩ :: rs) Γ H Z K := by
  subst el
  refine VO.pure rfl (fun ρ hρ => ?_) k
  have h1 : bound (Value.int kl (l : Int)) len = some l := by simp [bound]; omega
  simp [pureV, hρ _ _ hx, hρ _ _ hlo, bounds, h1, boundO]
end
def Ob.bytesI (b : Ob) : Int := if b.hd.fmt < 5 then 0 else ((b.hd.slots - b.many : Nat) : Int) * 8 - b.hd.spare
def IterA (P : Program) (g : Value) {α : Type} (enc : α → List Value) (Acc : List Atom → Prop) (Pre Post : SH) (Spec : List α → Prop) : Prop :=
  ∀ (y : Value) (J SP : List α → List Atom → Prop), y.cells = #[y] → (∀ c A, J c A → Acc A) →
    (∀ c x A, OkC Spec (c ++ [x]) → J c A → FunV P y (enc x) [A] (fun v B => (v = .bool true ∧ ∃ A', J (c ++ [x]) A' ∧ B = [A']) ∨ (v = .bool false ∧ ∃ B', SP (c ++ [x]) B' ∧ B = [B']))) →
    ∀ A, J [] A → FunV P g [y] (Pre ++ [A]) (fun v B => v = .tuple #[] ∧ ((∃ full A', Spec full ∧ J full A' ∧ B = Post ++ [A']) ∨ (∃ c B', OkC Spec c ∧ SP c B' ∧ B = Post ++ [B'])))
section
variable {P : Program} {n : Nat} {Γ : Env} {H : SH} {Q : Exit → Env → SH → Prop}
theorem VC.rangefA {α : Type} {enc : α → List Value} {g : Operand} {f : Nat} {first cap : Array Value} {ps : List Nat} {asg body : IC} {Pre Post R : SH} {Spec : List α → Prop} {Acc : List Atom → Prop} (I : List α → List Atom → Prop) (A0 : List Atom) (hg : ev Γ g = some (.func (.func f) first cap))
    (hit : IterA P (.func (.func f) first cap) enc Acc Pre Post Spec) (hmo : ∀ A B, Acc A → Acc (A ++ B)) (hacc : ∀ c A, I c A → Acc A) (hs : Spl H Pre R) (h0 : Imp R [A0]) (h1 : I [] A0) (hlen : ∀ x, (enc x).length = ps.length)
    (round : ∀ c x A, OkC Spec (c ++ [x]) → I c A → VC P n asg (bindE ps (enc x) Γ) [A] (fun e Γ' H' => e = .normal ∧ VC P n body Γ' H' (fun e _ H'' => match e with | .normal => ∃ A', I (c ++ [x]) A' ∧ Imp H'' [A'] | .ret => Q .ret Γ (Post ++ H'') | .exit id => Q (.exit id) Γ (Post ++ H'') | _ => False)))
    (done : ∀ full A, Spec full → I full A → Q .normal Γ (Post ++ [A])) : VC P n (.rangef g ps asg body) Γ H Q := by
  intro ρ kp od code hl a w F QQ hr ha hsat hh
  obtain ⟨qs, A, B, rfl, rfl, hlt, h1', h2⟩ := lowC_inv hl
  refine wpIn_rangeFunc (fun fnid _ => ?_)
  obtain ⟨l, db, X, w1, he, hs1, hk1⟩ := enter_spec (P := P) (fnid := fnid) (tmps := a.tmps) (qs := qs) (A := A) (B := B) hr hsat
  have hyield := hit (.func (.yield l) #[] #[]) (fun c A' => ∃ A1, I c A1 ∧ A' = A1 ++ [.obj l (.loop (lrec fnid a.tmps qs A B db .ready none))])
    (fun c B' => ∃ H'', (Q .ret Γ (Post ++ H'') ∧ B' = H''.flatten ++ [.obj l (.loop (lrec fnid a.tmps qs A B db .done (some .ret)))]) ∨ (∃ id, Q (.exit id) Γ (Post ++ H'') ∧ B' = H''.flatten ++ [.obj l (.loop (lrec fnid a.tmps qs A B db .done (some (.exit id))))]))
    rfl
    (fun c A' hA => by obtain ⟨A1, hI, rfl⟩ := hA; exact hmo _ _ (hacc c A1 hI))
    (fun c x A' hc hA => by
      obtain ⟨A1, hI, rfl⟩ := hA
      have hx := round_spec (P := P) (n := n) (Γ := Γ) (fn := fnid) (tmps := a.tmps) (db := db) (l := l) (vs := enc x) (I := A1) (Qb := fun e H'' => match e with | .normal => ∃ A', I (c ++ [x]) A' ∧ Imp H'' [A'] | .ret => Q .ret Γ (Post ++ H'') | .exit id => Q (.exit id) Γ (Post ++ H'') | _ => False)
        hlt (hlen x).symm ⟨ha.size, ha.slots⟩ h1' h2 ((round c x A1 hc hI).mono (fun e Γ' H' ⟨q1, q2⟩ => ⟨q1, q2.mono (fun e _ H'' q => by cases e <;> exact q)⟩))
      refine hx.conv (R := []) (by simp [Spl]) ?_
      rintro v Bk (⟨rfl, H'', ⟨A2, hI2, q⟩, rfl⟩ | ⟨rfl, H'', q⟩)
      · refine ⟨_, .inl ⟨rfl, _, ⟨A2, hI2, rfl⟩, rfl⟩, ?_⟩
        obtain ⟨R', hR'⟩ := q
        refine ⟨R', ?_⟩
        simp only [Spl, List.flatten_cons, List.flatten_nil, List.append_nil] at hR' ⊢
        rw [List.append_assoc]
        refine (List.Perm.append_right _ hR').trans ?_
        rw [List.append_assoc]
        exact List.Perm.append_left _ List.perm_append_comm
      · rcases q with ⟨q, rfl⟩ | ⟨id, q, rfl⟩
        · exact ⟨_, .inr ⟨rfl, _, ⟨H'', .inl ⟨q, rfl⟩⟩, rfl⟩, by rw [List.append_nil]; exact Imp.refl _⟩
        · exact ⟨_, .inr ⟨rfl, _, ⟨H'', .inr ⟨id, q, rfl⟩⟩, rfl⟩, by rw [List.append_nil]; exact Imp.refl _⟩)
    _ ⟨A0, h1, rfl⟩
  have hs2 : Sat w1 ((Pre ++ [A0 ++ [Atom.obj l (.loop (lrec fnid a.tmps qs A B db .ready none))]]).flatten ++ (F ++ marks X)) := by
    have p1 : (Atom.obj l (.loop (lrec fnid a.tmps qs A B db .ready none)) :: (H.flatten ++ (F ++ marks X))).Perm (R.flatten ++ (Pre.flatten ++ (Atom.obj l (.loop (lrec fnid a.tmps qs A B db .ready none)) :: (F ++ marks X)))) := by
      refine List.perm_middle.symm.trans ?_
      refine (List.Perm.append_right _ hs).trans ?_
      rw [List.append_assoc]
      exact perm_lead _ _ _
    have h3 := (hs1.perm p1).imp h0
    refine h3.perm ?_
    simp only [List.flatten_append, List.flatten_cons, List.flatten_nil, List.append_nil, List.append_assoc, List.singleton_append]
    exact perm_lead _ _ _
  have hcall := hyield (F ++ marks X) w1 hs2
  obtain ⟨hcallable, hcalls⟩ := hcall
  refine ⟨l, X.map coll, w1, { target := .fn (.func f) cap, args := first ++ [Value.func (.yield l) #[] #[]].toArray }, w1, f, first ++ [Value.func (.yield l) #[] #[]].toArray ++ cap, w1, he, ?_, fun _ _ => trivial, ?_, ?_, ?_⟩
  · have hev : a.eval g = .func (.func f) first cap := ha.ev hg
    simp only [resolve, hev, Deferred.ofValue]
    simp [Act.eval]
  · simp only [invoke]
    rw [run_callFunc hcallable]
  · intro h; simp at h
  refine callsIn_v (hcalls.mono ?_)
  · rintro e w3 ⟨v, Pst, rfl, ⟨rfl, hp⟩, hs3, hk3⟩
    have ha' : Agree n Γ { a with defers := X.map coll ++ a.defers } := ⟨ha.size, ha.slots⟩
    rcases hp with ⟨full, _, hf, ⟨A1, hI, rfl⟩, rfl⟩ | ⟨c, B', _, ⟨H'', hj⟩, rfl⟩
    · obtain ⟨w4, e1, e2, e3'⟩ := end_spec (P := P) (L := Post.flatten ++ A1) (st := .ready) (pe := none) (by simp) (by simpa [List.append_assoc] using hs3)
      have e3 := hk1.trans (hk3.trans e3')
      exact ⟨none, w4, e1, hh _ _ _ _ _ X (done full A1 hf hI) ha' rfl (by simpa using e2) e3⟩
    · rcases hj with ⟨q, rfl⟩ | ⟨id, q, rfl⟩
      · obtain ⟨w4, e1, e2, e3'⟩ := end_spec (P := P) (L := Post.flatten ++ H''.flatten) (st := .done) (pe := some .ret) (by simp) (by simpa [List.append_assoc] using hs3)
        have e3 := hk1.trans (hk3.trans e3')
        exact ⟨_, w4, e1, wpIn_ret (hh _ _ _ _ _ X q ha' rfl (by simpa using e2) e3)⟩
      · obtain ⟨w4, e1, e2, e3'⟩ := end_spec (P := P) (L := Post.flatten ++ H''.flatten) (st := .done) (pe := some (.exit id)) (by simp) (by simpa [List.append_assoc] using hs3)
        have e3 := hk1.trans (hk3.trans e3')
        exact ⟨_, w4, e1, wpIn_exit (hh _ _ _ _ _ X q ha' rfl (by simpa using e2) e3)⟩
end
abbrev NV := Nd × List Value
def SpecN (A : List Atom) (x : Nd) (f : List NV) : Prop := f.map Prod.fst = allN x ∧ ∀ p ∈ f, NdRd A p.1 p.2
def SpecNs (A : List Atom) (l : List Nd) (f : List NV) : Prop := f.map Prod.fst = allsN l ∧ ∀ p ∈ f, NdRd A p.1 p.2
theorem allsN_append : ∀ l r : List Nd, allsN (l ++ r) = allsN l ++ allsN r := by
  intro l
  induction l with
  | nil => intro r; rfl
  | cons x l ih => intro r; simp only [List.cons_append, allsN, ih, List.append_assoc]
theorem allN_eq (x : Nd) : allN x = x :: allsN x.kids := by cases x; rfl
theorem allsN_mem {x y : Nd} : ∀ {l : List Nd}, y ∈ l → x ∈ allN y → x ∈ allsN l := by
  intro l
  induction l with
  | nil => intro h; cases h
  | cons z r ih =>
    intro h hx
    simp only [allsN, List.mem_append]
    rcases List.mem_cons.1 h with rfl | h
    · exact .inl hx
    · exact .inr (ih h hx)
theorem mem_allsN {x : Nd} : ∀ {l : List Nd}, x ∈ allsN l → ∃ y ∈ l, x ∈ allN y := by
  intro l
  induction l with
  | nil => intro h; cases h
  | cons z r ih =>
    intro h
    simp only [allsN, List.mem_append] at h
    rcases h with h | h
    · exact ⟨z, by simp, h⟩
    · obtain ⟨y, hy, h⟩ := ih h; exact ⟨y, by simp [hy], h⟩
theorem nd_kid {A : List Atom} {x y : Nd} {vs : List Value} (h : NdRd A x vs) (hy : y ∈ x.kids) : ∃ us, NdRd A y us := by
  cases h with
  | mk wf hl hav htv ha hm hr hcp =>
    simp only [Nd.kids] at hy
    obtain ⟨i, hi⟩ := List.getElem?_of_mem hy
    exact ⟨_, hr i y hi⟩
theorem rd_all {A : List Atom} : ∀ (N : Nat) (x : Nd), x.w ≤ N → ∀ vs, NdRd A x vs → ∀ y ∈ allN x, ∃ us, NdRd A y us := by
  intro N
  induction N with
  | zero => intro x hx; have := x.w_pos; omega
  | succ N ih =>
    intro x hx vs h y hy
    rw [allN_eq] at hy
    rcases List.mem_cons.1 hy with rfl | hy
    · exact ⟨vs, h⟩
    · obtain ⟨z, hz, hy⟩ := mem_allsN hy
      obtain ⟨us, hu⟩ := nd_kid h hz
      have : z.w < x.w := by
        cases x
        have := Nd.ws_mem hz
        simp only [Nd.kids] at this
        simp only [Nd.w]; omega
      exact ih z (by omega) us hu y hy
theorem spec_ex {A : List Atom} : ∀ (l : List Nd), (∀ y ∈ l, ∃ us, NdRd A y us) → ∃ f : List NV, f.map Prod.fst = l ∧ ∀ p ∈ f, NdRd A p.1 p.2 := by
  intro l
  induction l with
  | nil => intro _; exact ⟨[], rfl, fun p hp => by cases hp⟩
  | cons y l ih =>
    intro h
    obtain ⟨us, hu⟩ := h y (by simp)
    obtain ⟨f, h1, h2⟩ := ih fun z hz => h z (by simp [hz])
    refine ⟨(y, us) :: f, by simp [h1], fun p hp => ?_⟩
    rcases List.mem_cons.1 hp with rfl | hp
    · exact hu
    · exact h2 p hp
theorem SpecN.cons {A : List Atom} {x : Nd} {vs : List Value} (h : NdRd A x vs) {f : List NV} (hf : SpecNs A x.kids f) : SpecN A x ((x, vs) :: f) := by
  refine ⟨by rw [allN_eq, List.map_cons, hf.1], fun p hp => ?_⟩
  rcases List.mem_cons.1 hp with rfl | hp
  · exact h
  · exact hf.2 p hp
theorem SpecNs.append {A : List Atom} {l r : List Nd} {f g : List NV} (hf : SpecNs A l f) (hg : SpecNs A r g) : SpecNs A (l ++ r) (f ++ g) := by
  refine ⟨by rw [List.map_append, allsN_append, hf.1, hg.1], fun p hp => ?_⟩
  rcases List.mem_append.1 hp with hp | hp
  · exact hf.2 p hp
  · exact hg.2 p hp
theorem SpecNs.one {A : List Atom} {x : Nd} {f : List NV} (hf : SpecN A x f) : SpecNs A [x] f := ⟨by simp [allsN, hf.1], hf.2⟩
theorem SpecNs.nil {A : List Atom} : SpecNs A [] [] := ⟨rfl, fun p hp => by cases hp⟩
theorem specNs_ex {A : List Atom} {x : Nd} {vs : List Value} (h : NdRd A x vs) {l : List Nd} (hl : ∀ y ∈ l, y ∈ x.kids) : ∃ g, SpecNs A l g := by
  obtain ⟨f, h1, h2⟩ := spec_ex (A := A) (allsN l) (fun y hy => by
    obtain ⟨z, hz, hy⟩ := mem_allsN hy
    obtain ⟨us, hu⟩ := nd_kid h (hl z hz)
    exact rd_all _ z (Nat.le_refl _) us hu y hy)
  exact ⟨f, h1, h2⟩
theorem allN_len : ∀ (N : Nat) (x : Nd), x.w ≤ N → (allN x).length ≤ x.w := by
  intro N
  induction N with
  | zero => intro x hx; have := x.w_pos; omega
  | succ N ih =>
    intro x hx
    cases x with
    | mk k s lit args temps kids p =>
    have hk : ∀ l : List Nd, Nd.ws l ≤ N → (allsN l).length ≤ Nd.ws l := by
      intro l
      induction l with
      | nil => intro _; exact Nat.zero_le _
      | cons y r ih2 =>
        intro h
        simp only [Nd.ws] at h ⊢
        have := ih y (by omega)
        have := ih2 (by omega)
        simp only [allsN, List.length_append]; omega
    simp only [Nd.w] at hx ⊢
    have := hk kids (by omega)
    simp only [allN, List.length_cons]; omega
def AccT (A : List Atom) (B : List Atom) : Prop := ∃ X, B.Perm (A ++ X)
theorem AccT.mem {A B : List Atom} (h : AccT A B) : ∀ a ∈ A, a ∈ B := fun _ ha => let ⟨_, hp⟩ := h; hp.symm.subset (List.mem_append_left _ ha)
theorem AccT.more {A B C : List Atom} (h : AccT A B) : AccT A (B ++ C) := by
  obtain ⟨X, hX⟩ := h
  exact ⟨X ++ C, by rw [← List.append_assoc]; exact hX.append_right C⟩
theorem nd_at {A : List Atom} {x : Nd} {vs : List Value} (h : NdRd A x vs) : ∃ (e1 : Nat) (e2 : Int) (e3 : Nat) (e4 : ByteArray) (e5 : Option Addr) (e6 e7 : Nat) (e8 : Option Addr) (e9 e10 : Nat) (e11 : Option Addr) (e12 e13 : Nat) (a : Option Addr) (c bk o : Nat) (us : Nat → List Value),
    vs = [cv x.kind, .string x.name, cv e1, vi e2, uv e3, .string e4, .slice e5 e6 e7, .slice e8 e9 e10, .slice e11 e12 e13, .slice a x.kids.length c, vi x.at_] ∧ x.kids.length ≤ 140737488355328 ∧ (0 < x.kids.length → a = some ⟨bk, o, none⟩) ∧
    (∀ i, i < x.kids.length → ∀ y ∈ cellsAt bk (o + i * 11) (us i), y ∈ A) ∧ ∀ i y, x.kids[i]? = some y → NdRd A y (us i) := by
  cases h with
  | mk wf hl hav htv ha hm hr hcp =>
    obtain ⟨_, _, rfl, _⟩ := hav
    obtain ⟨_, _, rfl, _⟩ := htv
    cases hl with
    | mk wf2 ha2 hm2 hr2 => exact ⟨_, _, _, _, _, _, _, _, _, _, _, _, _, _, _, _, _, _, rfl, wf.many, ha, hm, hr⟩
theorem litsEq_iff : ∀ l l' : List Lt, litsEq l l' = true ↔ l.length = l'.length ∧ ∀ (j : Nat) x y, l[j]? = some x → l'[j]? = some y → litEq x y = true := by
  intro l
  induction l with
  | nil =>
    intro l'
    cases l' with
    | nil => simp [litsEq]
    | cons y r => simp [litsEq]
  | cons x r ih =>
    intro l'
    cases l' with
    | nil => simp [litsEq]
    | cons y q =>
      simp only [litsEq, Bool.and_eq_true, ih q, List.length_cons]
      constructor
      · rintro ⟨h1, h2, h3⟩
        refine ⟨by omega, fun j => ?_⟩
        cases j with
        | zero => intro x' y' e1 e2; cases e1; cases e2; exact h1
        | succ j => intro x' y' e1 e2; exact h3 j x' y' (by simpa using e1) (by simpa using e2)
      · rintro ⟨h1, h2⟩
        exact ⟨h2 0 x y rfl rfl, by omega, fun j x' y' e1 e2 => h2 (j + 1) x' y' (by simpa using e1) (by simpa using e2)⟩
theorem ndsEq_iff : ∀ l l' : List Nd, ndsEq l l' = true ↔ l.length = l'.length ∧ ∀ (j : Nat) x y, l[j]? = some x → l'[j]? = some y → ndEq x y = true := by
  intro l
  induction l with
  | nil =>
    intro l'
    cases l' with
    | nil => simp [ndsEq]
    | cons y r => simp [ndsEq]
  | cons x r ih =>
    intro l'
    cases l' with
    | nil => simp [ndsEq]
    | cons y q =>
      simp only [ndsEq, Bool.and_eq_true, ih q, List.length_cons]
      constructor
      · rintro ⟨h1, h2, h3⟩
        refine ⟨by omega, fun j => ?_⟩
        cases j with
        | zero => intro x' y' e1 e2; cases e1; cases e2; exact h1
        | succ j => intro x' y' e1 e2; exact h3 j x' y' (by simpa using e1) (by simpa using e2)
      · rintro ⟨h1, h2⟩
        exact ⟨h2 0 x y rfl rfl, by omega, fun j x' y' e1 e2 => h2 (j + 1) x' y' (by simpa using e1) (by simpa using e2)⟩
theorem litsEq_false {l l' : List Lt} {j : Nat} {x y : Lt} (h1 : l[j]? = some x) (h2 : l'[j]? = some y) (h : litEq x y = false) : litsEq l l' = false :=
  Bool.eq_false_iff.2 fun e => by have := ((litsEq_iff l l').1 e).2 j x y h1 h2; rw [h] at this; cases this
theorem ndsEq_false {l l' : List Nd} {j : Nat} {x y : Nd} (h1 : l[j]? = some x) (h2 : l'[j]? = some y) (h : ndEq x y = false) : ndsEq l l' = false :=
  Bool.eq_false_iff.2 fun e => by have := ((ndsEq_iff l l').1 e).2 j x y h1 h2; rw [h] at this; cases this
theorem litsEq_len {l l' : List Lt} (h : l.length ≠ l'.length) : litsEq l l' = false := Bool.eq_false_iff.2 fun e => h ((litsEq_iff l l').1 e).1
theorem ndsEq_len {l l' : List Nd} (h : l.length ≠ l'.length) : ndsEq l l' = false := Bool.eq_false_iff.2 fun e => h ((ndsEq_iff l l').1 e).1
theorem texts_eq {l l' : List ByteArray} (h1 : l.length = l'.length) (h2 : ∀ (j : Nat) x y, l[j]? = some x → l'[j]? = some y → x = y) : l = l' := by
  apply List.ext_getElem? 
  intro j
  by_cases hj : j < l.length
  · rw [List.getElem?_eq_getElem hj, List.getElem?_eq_getElem (h1 ▸ hj)]
    rw [h2 j l[j] (l'[j]'(h1 ▸ hj)) (List.getElem?_eq_getElem hj) (List.getElem?_eq_getElem (h1 ▸ hj))]
  · rw [List.getElem?_eq_none (by omega), List.getElem?_eq_none (by omega)]
def hasS (r : List ByteArray) (s : ByteArray) : Bool := r.any fun t => decide (t = s)
def cntS (r : List ByteArray) (s : ByteArray) : Nat := (r.filter fun t => decide (t = s)).length
theorem hasS_iff {r : List ByteArray} {s : ByteArray} : hasS r s = true ↔ s ∈ r := by simp [hasS]
theorem cntS_zero {r : List ByteArray} {s : ByteArray} : cntS r s = 0 ↔ s ∉ r := by
  simp only [cntS, List.length_eq_zero_iff, List.filter_eq_nil_iff, decide_eq_true_eq]
  exact ⟨fun h hm => h s hm rfl, fun h t ht e => h (e ▸ ht)⟩
theorem cntS_snoc {r : List ByteArray} {s t : ByteArray} : cntS (r ++ [t]) s = cntS r s + if t = s then 1 else 0 := by
  simp only [cntS, List.filter_append, List.length_append, List.filter_cons, List.filter_nil]
  by_cases h : t = s <;> simp [h]
theorem cntS_le (r : List ByteArray) (s : ByteArray) : cntS r s ≤ r.length := List.length_filter_le ..
def firsts (l : List ByteArray) : List ByteArray := l.foldl (fun r s => if hasS r s then r else r ++ [s]) []
def sendsN (x : Nd) : Bool := decide (x.kind = 4) || decide (x.kind = 6)
def sendsOf (l : List Nd) : List ByteArray := (l.filter sendsN).map Nd.name
theorem firsts_snoc (l : List ByteArray) (s : ByteArray) : firsts (l ++ [s]) = if hasS (firsts l) s then firsts l else firsts l ++ [s] := by
  unfold firsts
  rw [List.foldl_append]
  rfl
theorem snoc_ind {α : Type} {p : List α → Prop} (h0 : p []) (h1 : ∀ l x, p l → p (l ++ [x])) : ∀ l, p l := by
  intro l
  have : ∀ n (l : List α), l.length = n → p l := by
    intro n
    induction n with
    | zero => intro l h; rw [List.length_eq_zero_iff.1 h]; exact h0
    | succ n ih =>
      intro l h
      have hne : l ≠ [] := fun e => by rw [e] at h; cases h
      rw [← List.dropLast_concat_getLast hne]
      exact h1 _ _ (ih _ (by rw [List.length_dropLast]; omega))
  exact this _ l rfl
theorem mem_firsts {s : ByteArray} : ∀ l, s ∈ firsts l ↔ s ∈ l := by
  refine snoc_ind (by simp [firsts]) (fun l x ih => ?_)
  rw [firsts_snoc]
  split
  · rename_i h
    have h := hasS_iff.1 h
    rw [ih, List.mem_append, List.mem_singleton]
    refine ⟨.inl, fun h2 => h2.elim id fun e => ?_⟩
    subst e; exact ih.1 h
  · simp [ih]
theorem firsts_le : ∀ l, (firsts l).length ≤ l.length := by
  refine snoc_ind (by simp [firsts]) (fun l x ih => ?_)
  rw [firsts_snoc]
  split
  · simp; omega
  · simp; omega
theorem firsts_cnt (l : List ByteArray) (s : ByteArray) : hasS (firsts l) s = decide (cntS l s ≠ 0) := by
  rw [Bool.eq_iff_iff, hasS_iff, mem_firsts, decide_eq_true_eq]
  have := @cntS_zero l s
  exact ⟨fun h e => this.1 e h, fun h => Classical.byContradiction fun hn => h (this.2 hn)⟩
theorem sendsOf_append (l r : List Nd) : sendsOf (l ++ r) = sendsOf l ++ sendsOf r := by simp [sendsOf]
theorem sendsOf_le (l : List Nd) : (sendsOf l).length ≤ l.length := by simp only [sendsOf, List.length_map]; exact List.length_filter_le ..
theorem sendsOf_one (x : Nd) : sendsOf [x] = if sendsN x then [x.name] else [] := by
  simp only [sendsOf, List.filter_cons, List.filter_nil]; split <;> rfl
theorem look_get {m : List (ByteArray × Int)} {s : ByteArray} : lookV false (.int .i64 0) ((mget s m).map vi) = vi ((mget s m).getD 0) := by
  cases mget s m <;> rfl
end Go.V

/-
  Calls of a table, upon dictionaries as lists.
-/
import Derived.Test.YtffmipimgodfdaaDI
namespace Go.V
open Go

def Abs.ok (a : Abs) (c : Int) : Prop := 0 ≤ c ∧ c < a.sup.length
instance (a : Abs) (c : Int) : Decidable (a.ok c) := inferInstanceAs (Decidable (_ ∧ _))
def Abs.dic (a : Abs) (c : Int) : List (ByteArray × Int) := if 0 ≤ c then (a.ms[c.toNat]?).getD [] else []
def Abs.up (a : Abs) (c : Int) : Int := (a.sup[c.toNat]?).getD (-1)

def plainA (a : Abs) (s : ByteArray) : Nat → Int → Option Int × Nat
  | 0, _ => (none, 0)
  | f + 1, c => if c < 0 then (none, 0) else match mget s (a.dic c) with
    | some m => (some m, 1)
    | none => let r := plainA a s f (a.up c); (r.1, r.2 + 1)

theorem abs_dic (R : Rep) (c : Int) : R.dic c = R.abs.dic c := by simp [Rep.dic, Abs.dic, Rep.abs]

theorem plain_abs (R : Rep) (c : Int) (s : ByteArray) : plain R c s = plainA R.abs s (c + 1).toNat c := by
  unfold plain
  generalize (c + 1).toNat = f
  induction f generalizing c with
  | zero => rfl
  | succ f ih =>
    have hu : R.up c = R.abs.up c := rfl
    simp only [plainF, plainA, abs_dic, hu, ih]
    split
    · rfl
    · cases mget s (R.abs.dic c) <;> rfl

/-- What an installing answers, and leaves. -/
def instE (a : Abs) (c : Int) (s : ByteArray) : Int :=
  if a.ok c then (if s.size < 1 ∨ 640 < s.size then 221 else if mget s (a.dic c) = none ∧ 4096 ≤ (a.dic c).length then 222 else 0) else 220
def instA (a : Abs) (c : Int) (s : ByteArray) (m : Int) : Abs := if instE a c s = 0 then { a with ms := a.ms.set c.toNat (mset s m (a.dic c)) } else a

def remE (a : Abs) (c : Int) (s : ByteArray) : Int := if a.ok c then (if mget s (a.dic c) = none then 223 else 0) else 220
def remA (a : Abs) (c : Int) (s : ByteArray) : Abs := if remE a c s = 0 then { a with ms := a.ms.set c.toNat (mdel s (a.dic c)) } else a

def askA (a : Abs) (c : Int) : Abs := if a.ok c then { a with asked := a.asked + 1 } else a
def sendE (a : Abs) (at_ c : Int) : Int := if 0 ≤ at_ ∧ at_ < 65536 then (if a.ok c then 0 else 220) else 224
def sendA (a : Abs) (at_ c : Int) : Abs := if sendE a at_ c = 0 then { a with asked := a.asked + 1 } else a
def lookA (a : Abs) (c : Int) (s : ByteArray) : Option Int := if a.ok c then (plainA a s (c + 1).toNat c).1 else none

theorem pl_abs (R : Rep) (c : Int) (s : ByteArray) : pl R c s = lookA R.abs c s := by
  simp only [pl, lookA, plain_abs]; rfl

theorem look_abs (R : Rep) (N : Nat) (h : Fine R N) (c : Int) (s : ByteArray) : (lookR R c s).1 = lookA R.abs c s ∧ Fine (lookR R c s).2 (N + 1) ∧ (lookR R c s).2.abs = askA R.abs c := by
  obtain ⟨h1, h2, h3⟩ := h.look c s
  refine ⟨h1.trans (pl_abs R c s), h2, h3.trans ?_⟩
  unfold askA
  by_cases hc : R.abs.ok c
  · have hc' : 0 ≤ c ∧ c < R.sup.length := hc
    rw [if_pos hc, if_pos hc']; rfl
  · have hc' : ¬ (0 ≤ c ∧ c < R.sup.length) := hc
    rw [if_neg hc, if_neg hc']; rfl

theorem Spl.tail1 {A : List Atom} {I : SH} : Spl (A :: I) I [A] := by
  simp only [Spl, List.flatten_cons, List.flatten_nil, List.append_nil]
  exact List.perm_append_comm

/-- A call of one table alone. -/
def callA (a : Abs) (k c : Int) (s : ByteArray) (m at_ : Int) : Abs :=
  if k = 1 then instA a c s m else if k = 2 then remA a c s else if k = 5 then askA a c else if k = 6 then sendA a at_ c else a

theorem Spl.right {A I : SH} : Spl (I ++ A) I A := by simp [Spl]
theorem Spl.mid {A : List Atom} {C S : SH} : Spl (A :: (C ++ S)) C (A :: S) := by
  simp only [Spl, List.flatten_cons, List.flatten_append]
  exact perm_lead _ _ _
theorem Imp.mid {A : List Atom} {C S : SH} : Imp (C ++ (A :: S)) (A :: (C ++ S)) := by
  refine Imp.perm ?_
  simp only [List.flatten_cons, List.flatten_append]
  exact perm_lead _ _ _

theorem pl_step {R : Rep} (h : WF R) {c : Int} (s : ByteArray) (hc : 0 ≤ c ∧ c < R.sup.length) : pl R c s = match mget s (R.dic c) with | some m => some m | none => pl R (R.up c) s := by
  obtain ⟨u1, u2⟩ := up_lt h hc.1 hc.2
  unfold pl
  rw [if_pos hc, plain_step h s hc.1 hc.2]
  cases mget s (R.dic c) with
  | some m => rfl
  | none =>
    simp only
    by_cases h0 : 0 ≤ R.up c
    · rw [if_pos ⟨h0, by omega⟩]
    · rw [if_neg (fun hh => h0 hh.1), plain_neg s (by omega)]

theorem Fun.conv {P : Program} {f : Nat} {args : List Value} {H Pre R : SH} {Q Q' : Value → SH → Prop} (h : Fun P f args Pre Q) (hs : Spl H Pre R) (hq : ∀ v Post, Q v Post → ∃ Post', Q' v Post' ∧ Imp (Post ++ R) Post') : Fun P f args H Q' := by
  refine ⟨h.1, fun F w hw => ?_⟩
  have hw' : Sat w (Pre.flatten ++ (R.flatten ++ F)) := by
    rw [← List.append_assoc]; exact hw.perm (List.Perm.append_right F hs)
  refine (h.2 (R.flatten ++ F) w hw').mono ?_
  rintro e w' ⟨v, Post, h1, h2, h3, h4⟩
  obtain ⟨Post', h5, h6⟩ := hq v Post h2
  refine ⟨v, Post', h1, h5, Sat.imp h6 ?_, h4⟩
  rw [List.flatten_append, List.append_assoc]; exact h3

theorem Core_tel (t : Nat) (R : Rep) : Core t R = [cellsAt t 0 [R.sv, R.dv], cellsAt t 2 (R.glob.flatMap kEnc)] ++ (cellsAt t 195 (telEnc R.tel) :: [slA R.sv (R.sup.map vi) R.ssp, slA R.dv (R.dics.map fun d => .map (some d.b)) [], R.dics.flatMap dAtoms]) := rfl

theorem Fresh.fine {R : Rep} {xs : List Int} (h : Fresh R xs) : Fine R 0 ∧ R.abs = ⟨xs, List.replicate xs.length [], 0⟩ := by
  have ht := h.tel
  refine ⟨⟨h.wf, ⟨fun k hk hn => ?_, fun p hp => ?_⟩, by rw [ht]; exact ⟨Nat.le_refl _, Nat.le_refl _, Nat.le_refl _, Nat.le_refl _, Nat.le_refl _⟩, by rw [ht]; rfl, by rw [ht]; exact Nat.le_refl _⟩, ?_⟩
  · rw [h.glob] at hk
    rw [(List.mem_replicate.1 hk).2] at hn
    exact absurd rfl hn
  · rw [h.sites] at hp; cases hp
  · simp only [Rep.abs, h.sup, ht]
    congr 1
    rw [List.eq_replicate_iff]
    refine ⟨by rw [List.length_map, h.wf.len, h.sup], fun x hx => ?_⟩
    obtain ⟨d, hd, rfl⟩ := List.mem_map.1 hx
    exact h.dics d hd

/-- Nothing is known. -/
def Quiet (R : Rep) : Prop := ∀ k ∈ R.glob, k = noKnown

theorem Quiet.known {R : Rep} (h : Quiet R) (i : Nat) : R.known i = noKnown := by
  unfold Rep.known
  cases hk : R.glob[i]? with
  | none => rfl
  | some k => exact h k (List.mem_of_getElem? hk)

theorem Quiet.forget {R : Rep} (h : Quiet R) (g : ByteArray → Bool) (es : Array MapEntry) : Quiet (forgetR R g es) := by
  intro k hk
  obtain ⟨k0, h0, rfl⟩ := List.mem_map.1 hk
  rw [h k0 h0]
  unfold fgt
  split <;> rfl

theorem look_hit {R : Rep} {c m : Int} {s : ByteArray} (hc : 0 ≤ c ∧ c < R.sup.length) (hs : s ≠ ⟨#[]⟩) (hk : R.ask1.known (placeN c s) = ⟨c, s, m⟩) :
    lookR R c s = (some m, { R.ask1 with tel := { R.ask1.tel with glob := R.ask1.tel.glob + 1 } }) := by
  unfold lookR
  rw [if_pos hc, askR_hit (by rw [hk]; exact ⟨rfl, rfl⟩) hs, hk]

/-- Where nothing is known, a lookup walks and is known behind it; the next one is answered by the cache. -/
theorem look_twice {R : Rep} {c m : Int} {s : ByteArray} {n : Nat} (hw : WF R) (hq : Quiet R) (hc : 0 ≤ c ∧ c < R.sup.length) (hs : s ≠ ⟨#[]⟩) (hp : plain R c s = (some m, n)) :
    (lookR R c s).1 = some m ∧ (lookR (lookR R c s).2 c s).1 = some m ∧ (lookR (lookR R c s).2 c s).2.tel = ⟨R.tel.asked + 2, R.tel.inl, R.tel.glob + 1, R.tel.walked + 1, R.tel.steps + n⟩ := by
  have hp1 : plain R.ask1 c s = (some m, n) := by rw [Rep.ask1, plain_tel, hp]
  have hk : R.ask1.known (placeN c s) = noKnown := Quiet.known (R := R.ask1) hq _
  have e1 : lookR R c s = (some m, { R.ask1 with tel := R.ask1.tel.walk n, glob := R.glob.set (placeN c s) ⟨c, s, m⟩ }) := by
    unfold lookR
    rw [if_pos hc, askR_some (R := R.ask1) (m := m) (by rw [hk]; exact fun h => hs h.2.1.symm) (by rw [hp1]), hp1]
    rfl
  rw [e1]
  refine ⟨rfl, ?_⟩
  simp only
  have hl : placeN c s < R.glob.length := by rw [hw.glob]; exact placeN_lt c s
  have hk2 : (Rep.ask1 { R.ask1 with tel := R.ask1.tel.walk n, glob := R.glob.set (placeN c s) ⟨c, s, m⟩ }).known (placeN c s) = ⟨c, s, m⟩ := by
    simp [Rep.known, Rep.ask1, hl]
  rw [look_hit (by exact hc) hs hk2]
  exact ⟨rfl, rfl⟩
end Go.V

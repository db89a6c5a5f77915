/-
  A list that grows: in its own room, or in another; what was there stays.
-/
import Derived.Test.YtgindbomnbojeaaGreatV9
import Derived.Test.YtgindbomnbojeaaGreatV16
set_option linter.unusedSimpArgs false
set_option linter.unusedVariables false
namespace Go.V
open Go
section
variable {P : Program} {n : Nat} {rs : List RO} {Γ : Env} {H : SH} {Z : List PanicEntry → Env → SH → Prop} {K : Env → SH → Prop} {d : Option Nat}
theorem st_append2 {t : TypeId} {size bytes : Nat} {zero : List Value} {s x : Operand} {sv xv : Value} {k m : Nat} {xs sp ys : List Value} {R : SH} (hs : ev Γ s = some sv) (hx : ev Γ x = some xv) (hsl : IsSl size sv k xs sp)
    (ht : Tk H (slA sv xs sp) R) (hm : seqLen xv = some m) (hsrc : Src R.flatten size m ys xv) (hlen : ys.length = m * size) (hone : ys.all oneCell = true) (hz : zero.length = size) (hb : bytes ≠ 0) (hroom : (2 * (k + m) + 192) * bytes ≤ 2 ^ 48)
    (hin : ∀ b o c sp', sv = .slice (Option.some ⟨b, o, none⟩) k c → IsSl size (.slice (Option.some ⟨b, o, none⟩) (k + m) c) (k + m) (xs ++ ys) sp' → VO P n rs (putE d (.slice (Option.some ⟨b, o, none⟩) (k + m) c) Γ) (slA (.slice (Option.some ⟨b, o, none⟩) (k + m) c) (xs ++ ys) sp' :: R) Z K)
    (h : ∀ sv' sp', IsSl size sv' (k + m) (xs ++ ys) sp' → VO P n rs (putE d sv' Γ) (slA sv' (xs ++ ys) sp' :: slA sv xs sp :: R) Z K) : VO P n (⟨d, none, .append t size bytes zero s x⟩ :: rs) Γ H Z K := by
  refine VO.act' rfl rfl (fun ρ hρ => ⟨_, rfl, ?_⟩)
  rw [hρ _ _ hs, hρ _ _ hx]
  refine SWP.perm ht.perm ?_
  have hsrc' : Src (slA sv xs sp ++ R.flatten) size m ys xv := hsrc.mono (fun x hx => List.mem_append_right _ hx)
  have grow : ∀ (a : Option Addr) (c : Nat), sv = .slice a k c → ¬ (k + m ≤ c) → Src (slA sv xs sp ++ R.flatten) size k xs sv →
      SWP P (if Builtin.nextslicecap (k + m) c * bytes > 2 ^ 48 ∨ bytes = 0 then stuck "size" else do
        let cap ← choose (.appendCap (k + m) c t)
        let old ← Builtin.firstCells size k sv
        let new ← Builtin.firstCells size m xv
        let b ← newObj (.cells (old ++ new ++ (zeroRow (cap - (k + m)) zero).toArray) t)
        pure (Next.value (.slice (Option.some ⟨b, 0, none⟩) (k + m) cap)) : Sem Next) (slA sv xs sp ++ R.flatten) fun nx L => ∃ v H' X, (nx = .value v ∨ (nx = .skip ∧ v = undef)) ∧ L.Perm (List.flatten H' ++ X) ∧ VO P n rs (putE d v Γ) H' Z K := by
    intro a c hsv hle hso
    have hnc : Builtin.nextslicecap (k + m) c * bytes ≤ 2 ^ 48 := Nat.le_trans (Nat.mul_le_mul_right _ (nextcap_le (by omega))) hroom
    rw [if_neg (by omega)]
    have fin : ∀ cap, k + m ≤ cap → SWP P (do
        let old ← Builtin.firstCells size k sv
        let new ← Builtin.firstCells size m xv
        let b ← newObj (.cells (old ++ new ++ (zeroRow (cap - (k + m)) zero).toArray) t)
        pure (Next.value (.slice (Option.some ⟨b, 0, none⟩) (k + m) cap)) : Sem Next) (slA sv xs sp ++ R.flatten) fun nx L => ∃ v H' X, (nx = .value v ∨ (nx = .skip ∧ v = undef)) ∧ L.Perm (List.flatten H' ++ X) ∧ VO P n rs (putE d v Γ) H' Z K := by
      intro cap hcap
      refine SWP.bind (SWP.firstCells hso (SWP.bind (SWP.firstCells hsrc' (mem_new (fun b => ?_)))))
      have hI : IsSl size (.slice (Option.some ⟨b, 0, none⟩) (k + m) cap) (k + m) (xs ++ ys) (zeroRow (cap - (k + m)) zero) := by
        refine .mk ?_ ?_ hcap
        · rw [List.length_append, hsl.len, hlen, Nat.add_mul]
        · rw [List.length_append, hsl.len, hlen, zeroRow_length, hz, ← Nat.add_mul, ← Nat.add_mul]
          congr 1; omega
      refine ⟨_, _, [], .inl rfl, ?_, h _ _ hI⟩
      have : (xs.toArray ++ ys.toArray ++ (zeroRow (cap - (k + m)) zero).toArray).toList = xs ++ ys ++ zeroRow (cap - (k + m)) zero := by simp
      rw [this]
      simp only [List.flatten_cons, List.append_assoc, List.append_nil]
      simp only [slA, List.append_assoc]
      exact List.Perm.refl _
    refine SWP.bind (SWP.choose (fun hf => by simp [Question.forced] at hf) (fun t' => fin _ ?_))
    simp only [Question.cut]; omega
  cases hsl with
  | @mk b o _ c _ _ h1 h2 h3 =>
    simp only [hm]
    by_cases hle : k + m ≤ c
    · rw [if_pos hle]
      refine SWP.bind (SWP.firstCells hsrc' ?_)
      have hl2 : ys.length ≤ sp.length := by
        have e1 : (k + m) * size ≤ c * size := Nat.mul_le_mul_right _ hle
        rw [Nat.add_mul] at e1; omega
      have hsplit : cellsAt b o (xs ++ sp) = cellsAt b o xs ++ (cellsAt b (o + k * size) (sp.take ys.length) ++ cellsAt b (o + k * size + ys.length) (sp.drop ys.length)) := by
        rw [cellsAt_append, h1]
        congr 1
        conv => lhs; rw [← List.take_append_drop ys.length sp]
        rw [cellsAt_append]
        congr 2
        simp; omega
      have hI : IsSl size (.slice (Option.some ⟨b, o, none⟩) (k + m) c) (k + m) (xs ++ ys) (sp.drop ys.length) := by
        refine .mk ?_ ?_ hle
        · rw [List.length_append, h1, hlen, Nat.add_mul]
        · rw [List.length_append, List.length_drop]; omega
      have hadd : ((⟨b, o, none⟩ : Addr).add (k * size)) = ⟨b, o + k * size, none⟩ := add_off b o _
      simp only [hadd]
      have hperm : (slA (.slice (Option.some ⟨b, o, none⟩) k c) xs sp ++ R.flatten).Perm (cellsAt b (o + k * size) (sp.take ys.length) ++ (cellsAt b o xs ++ (cellsAt b (o + k * size + ys.length) (sp.drop ys.length) ++ R.flatten))) := by
        simp only [slA, hsplit, List.append_assoc]
        exact perm_lead _ _ _
      refine SWP.perm hperm (SWP.bind (SWP.storeCells (by simp; omega) (List.all_eq_true.1 hone) (SWP.pure ?_)))
      refine ⟨_, _, [], .inl rfl, ?_, hin b o c _ rfl hI⟩
      simp only [slA, List.flatten_cons, List.append_nil, cellsAt_append, h1, List.append_assoc]
      exact perm_lead _ _ _
    · rw [if_neg hle]
      refine grow _ c rfl hle ⟨h1, fun x hx => ?_⟩
      simp only [slA, cellsAt_append, List.mem_append]
      exact .inl (.inl hx)
  | nil =>
    simp only [hm]
    by_cases hle : 0 + m ≤ 0
    · rw [if_pos hle]
      have hm0 : m = 0 := by omega
      subst hm0
      obtain rfl : ys = [] := by simpa using hlen
      refine SWP.bind (SWP.firstCells hsrc' (SWP.pure ?_))
      exact ⟨_, _, [], .inl rfl, by simp [slA], h _ _ .nil⟩
    · rw [if_neg hle]
      exact grow _ 0 rfl hle rfl
end
structure OwnI where
  v : Value
  n : Nat
  xs : List Value
  sp : List Value
def owA (p : OwnI) : List Atom := slA p.v p.xs p.sp
def mkI (i j : Nat) : Int := (i : Int) * 1000 + j
def bkI (i j : Nat) : Int := (-1 - (i : Int)) * 1000 - j
def mkL (i n : Nat) : List Int := (List.range n).map (mkI i)
def bkL (i n : Nat) : List Int := (List.range n).map (bkI i)
theorem mkL_len (i n : Nat) : (mkL i n).length = n := by simp [mkL]
theorem bkL_len (i n : Nat) : (bkL i n).length = n := by simp [bkL]
theorem mkL_succ (i k : Nat) : mkL i (k + 1) = mkL i k ++ [mkI i k] := by simp [mkL, List.range_succ]
theorem bkL_succ (i k : Nat) : bkL i (k + 1) = bkL i k ++ [bkI i k] := by simp [bkL, List.range_succ]
theorem mkL_get {i n k : Nat} (h : k < n) : (mkL i n)[k]? = some (mkI i k) := by simp [mkL, h]
theorem both_get1 {i n k m : Nat} (h : k < n) : (mkL i n ++ bkL i m)[k]? = some (mkI i k) := by
  rw [List.getElem?_append_left (by rw [mkL_len]; exact h), mkL_get h]
theorem both_get2 {i n k m : Nat} (h : k < m) : (mkL i n ++ bkL i m)[n + k]? = some (bkI i k) := by
  rw [List.getElem?_append_right (by rw [mkL_len]; omega), mkL_len, Nat.add_sub_cancel_left]
  simp [bkL, h]
def ph1 (enc : Int → List Value) (i : Nat) (ps : List OwnI) : List OwnI := ps.mapIdx fun j p => if j < i then { p with xs := (mkL j p.n).flatMap enc } else p
theorem ph1_get {enc : Int → List Value} {i j : Nat} {ps : List OwnI} {p : OwnI} (h : ps[j]? = some p) : (ph1 enc i ps)[j]? = some (if j < i then { p with xs := (mkL j p.n).flatMap enc } else p) := by
  simp [ph1, List.getElem?_mapIdx, h]
theorem ph1_zero {enc : Int → List Value} {ps : List OwnI} : ph1 enc 0 ps = ps := by
  apply List.ext_getElem?
  intro j
  simp only [ph1, List.getElem?_mapIdx]
  cases ps[j]? <;> simp
theorem ph1_succ {enc : Int → List Value} {i : Nat} {ps : List OwnI} {p : OwnI} (h : ps[i]? = some p) : ph1 enc (i + 1) ps = (ph1 enc i ps).set i { p with xs := (mkL i p.n).flatMap enc } := by
  apply List.ext_getElem?
  intro j
  rw [List.getElem?_set]
  by_cases e : i = j
  · subst e
    rw [if_pos rfl, ph1_get h, if_pos (by omega)]
    have := (List.getElem?_eq_some_iff.1 (ph1_get (enc := enc) (i := i) h)).1
    rw [if_pos (by simpa using this)]
  · rw [if_neg e]
    simp only [ph1, List.getElem?_mapIdx]
    cases ps[j]? with
    | none => rfl
    | some q => simp only [Option.map_some]; simp only [show (j < i + 1) = (j < i) from by apply propext; omega]
theorem ph1_len {enc : Int → List Value} {i : Nat} {ps : List OwnI} : (ph1 enc i ps).length = ps.length := by simp [ph1]
theorem own_lay {size n k : Nat} {enc : Int → List Value} (he : ∀ z, (enc z).length = size) {xs sp : List Value} (hx : xs.length = n * size) (hk : k < n) (i : Nat) :
    (((mkL i k).flatMap enc ++ xs.drop (k * size)) ++ sp).take (k * size) ++ enc (mkI i k) ++ (((mkL i k).flatMap enc ++ xs.drop (k * size)) ++ sp).drop (k * size + (enc (mkI i k)).length) = ((mkL i (k + 1)).flatMap enc ++ xs.drop ((k + 1) * size)) ++ sp := by
  have hl : ((mkL i k).flatMap enc).length = k * size := by rw [flatMap_len (fun x _ => he x), mkL_len]
  have h2 : (k + 1) * size ≤ n * size := Nat.mul_le_mul_right _ hk
  rw [Nat.add_mul, Nat.one_mul] at h2
  rw [List.append_assoc ((mkL i k).flatMap enc), List.take_append_of_le_length (by omega), List.take_of_length_le (by omega), he]
  rw [List.drop_append, List.drop_of_length_le (by omega), List.nil_append, hl, Nat.add_sub_cancel_left]
  rw [List.drop_append_of_le_length (by rw [List.length_drop]; omega), List.drop_drop]
  rw [mkL_succ, List.flatMap_append, Nat.add_mul, Nat.one_mul]
  simp [List.append_assoc]
theorem own_len {size n k : Nat} {enc : Int → List Value} (he : ∀ z, (enc z).length = size) {xs : List Value} (hx : xs.length = n * size) (hk : k ≤ n) (i : Nat) : ((mkL i k).flatMap enc ++ xs.drop (k * size)).length = n * size := by
  rw [List.length_append, flatMap_len (fun x _ => he x), mkL_len, List.length_drop, hx]
  have h2 : k * size ≤ n * size := Nat.mul_le_mul_right _ hk
  omega
theorem ph1_all {enc : Int → List Value} {ps : List OwnI} {i : Nat} {p : OwnI} (h : ps[i]? = some p) : ((ph1 enc ps.length ps).drop i).flatMap owA = slA p.v ((mkL i p.n).flatMap enc) p.sp ++ ((ph1 enc ps.length ps).drop (i + 1)).flatMap owA := by
  have hi := (List.getElem?_eq_some_iff.1 h).1
  have hg := ph1_get (enc := enc) (i := ps.length) h
  rw [if_pos hi] at hg
  have hl : i < (ph1 enc ps.length ps).length := by rw [ph1_len]; exact hi
  rw [List.drop_eq_getElem_cons hl, List.flatMap_cons]
  rw [List.getElem?_eq_getElem hl, Option.some.injEq] at hg
  rw [hg]
  rfl
def Kept (size : Nat) (E : List Atom) (v : Value) (n : Nat) (ms : List Value) (xv : Value) (m : Nat) : Prop :=
  RdRow size E v n ms ∨ (E = [] ∧ ∃ b o c, v = .slice (some ⟨b, o, none⟩) n c ∧ xv = .slice (some ⟨b, o, none⟩) m c)
theorem Kept.start {size n : Nat} {v : Value} {ms sp : List Value} (h : IsSl size v n ms sp) : Kept size [] v n ms v n := by
  cases h with
  | mk h1 h2 h3 => exact .inr ⟨rfl, _, _, _, rfl, rfl⟩
  | nil => exact .inl (.inl ⟨rfl, rfl, rfl⟩)
theorem Kept.done {size n m : Nat} {E : List Atom} {v xv : Value} {ms ts xsp : List Value} (h : Kept size E v n ms xv m) (hx : IsSl size xv m (ms ++ ts) xsp) (hm : ms.length = n * size) (hnm : n ≤ m) :
    RdRow size (slA xv (ms ++ ts) xsp ++ E) v n ms := by
  rcases h with h | ⟨rfl, b, o, c, rfl, rfl⟩
  · exact h.mono (fun a ha => List.mem_append_right _ ha)
  · cases hx with
    | mk h1 h2 h3 =>
      refine .inr ⟨b, o, c, rfl, by omega, hm, fun x hx => ?_⟩
      simp only [slA, List.append_nil, cellsAt_append, List.mem_append]
      exact .inl (.inl hx)
theorem Kept.moved {size n m m' : Nat} {E : List Atom} {v xv xv' : Value} {ms ts xsp : List Value} (h : Kept size E v n ms xv m) (hx : IsSl size xv m (ms ++ ts) xsp) (hm : ms.length = n * size) (hnm : n ≤ m) : Kept size (slA xv (ms ++ ts) xsp ++ E) v n ms xv' m' := .inl (h.done hx hm hnm)
section
variable {P : Program} {n : Nat} {rs : List RO} {Γ : Env} {H : SH} {Z : List PanicEntry → Env → SH → Prop} {K : Env → SH → Prop} {d : Option Nat}
theorem st_append_in {t : TypeId} {size bytes : Nat} {zero : List Value} {s x : Operand} {b o c : Nat} {xv : Value} {k m : Nat} {xs sp ys : List Value} {R : SH} (hs : ev Γ s = some (.slice (Option.some ⟨b, o, none⟩) k c)) (hx : ev Γ x = some xv) (hsl : IsSl size (.slice (Option.some ⟨b, o, none⟩) k c) k xs sp)
    (ht : Tk H (slA (.slice (Option.some ⟨b, o, none⟩) k c) xs sp) R) (hm : seqLen xv = some m) (hsrc : Src R.flatten size m ys xv) (hlen : ys.length = m * size) (hone : ys.all oneCell = true) (hle : k + m ≤ c)
    (h : ∀ sp', IsSl size (.slice (Option.some ⟨b, o, none⟩) (k + m) c) (k + m) (xs ++ ys) sp' → VO P n rs (putE d (.slice (Option.some ⟨b, o, none⟩) (k + m) c) Γ) (slA (.slice (Option.some ⟨b, o, none⟩) (k + m) c) (xs ++ ys) sp' :: R) Z K) : VO P n (⟨d, none, .append t size bytes zero s x⟩ :: rs) Γ H Z K := by
  refine VO.act' rfl rfl (fun ρ hρ => ⟨_, rfl, ?_⟩)
  rw [hρ _ _ hs, hρ _ _ hx]
  refine SWP.perm ht.perm ?_
  have hsrc' : Src (slA (.slice (Option.some ⟨b, o, none⟩) k c) xs sp ++ R.flatten) size m ys xv := hsrc.mono (fun x hx => List.mem_append_right _ hx)
  cases hsl with
  | mk h1 h2 h3 =>
    simp only [hm]
    rw [if_pos hle]
    refine SWP.bind (SWP.firstCells hsrc' ?_)
    have hl2 : ys.length ≤ sp.length := by
      have e1 : (k + m) * size ≤ c * size := Nat.mul_le_mul_right _ hle
      rw [Nat.add_mul] at e1; omega
    have hsplit : cellsAt b o (xs ++ sp) = cellsAt b o xs ++ (cellsAt b (o + k * size) (sp.take ys.length) ++ cellsAt b (o + k * size + ys.length) (sp.drop ys.length)) := by
      rw [cellsAt_append, h1]
      congr 1
      conv => lhs; rw [← List.take_append_drop ys.length sp]
      rw [cellsAt_append]
      congr 2
      simp; omega
    have hI : IsSl size (.slice (Option.some ⟨b, o, none⟩) (k + m) c) (k + m) (xs ++ ys) (sp.drop ys.length) := by
      refine .mk ?_ ?_ hle
      · rw [List.length_append, h1, hlen, Nat.add_mul]
      · rw [List.length_append, List.length_drop]; omega
    have hadd : ((⟨b, o, none⟩ : Addr).add (k * size)) = ⟨b, o + k * size, none⟩ := add_off b o _
    simp only [hadd]
    have hperm : (slA (.slice (Option.some ⟨b, o, none⟩) k c) xs sp ++ R.flatten).Perm (cellsAt b (o + k * size) (sp.take ys.length) ++ (cellsAt b o xs ++ (cellsAt b (o + k * size + ys.length) (sp.drop ys.length) ++ R.flatten))) := by
      simp only [slA, hsplit, List.append_assoc]
      exact perm_lead _ _ _
    refine SWP.perm hperm (SWP.bind (SWP.storeCells (by simp; omega) (List.all_eq_true.1 hone) (SWP.pure ?_)))
    refine ⟨_, _, [], .inl rfl, ?_, h _ hI⟩
    simp only [slA, List.flatten_cons, List.append_nil, cellsAt_append, h1, List.append_assoc]
    exact perm_lead _ _ _
end
end Go.V

/-
  Sorting in place: things as a function of their places, what swaps make of it, and rules that read and write there.
-/
import Derived.Test.YtmnmandpdadedaaGreatDoorV7
set_option linter.unusedSimpArgs false
set_option linter.unusedVariables false
namespace Go.V
open Go
def upd {α : Type} (f : Int → α) (i : Int) (v : α) : Int → α := fun k => if k = i then v else f k
abbrev swp {α : Type} (f : Int → α) (i j : Int) : Int → α := upd (upd f i (f j)) j (f i)
theorem swp_at {α : Type} (f : Int → α) (i j k : Int) : swp f i j k = if k = j then f i else if k = i then f j else f k := by simp only [swp, upd]
inductive Sw {α : Type} (a b : Int) (f : Int → α) : (Int → α) → Prop where
  | refl : Sw a b f f
  | step {g : Int → α} {i j : Int} : Sw a b f g → a ≤ i ∧ i < b → a ≤ j ∧ j < b → Sw a b f (swp g i j)
theorem Sw.trans {α : Type} {a b : Int} {f g h : Int → α} (h1 : Sw a b f g) (h2 : Sw a b g h) : Sw a b f h := by
  induction h2 with
  | refl => exact h1
  | step _ hi hj ih => exact ih.step hi hj
theorem Sw.wide {α : Type} {a b c d : Int} {f g : Int → α} (h : Sw a b f g) (h1 : c ≤ a) (h2 : b ≤ d) : Sw c d f g := by
  induction h with
  | refl => exact .refl
  | step _ hi hj ih => exact ih.step (by omega) (by omega)
theorem Sw.out {α : Type} {a b : Int} {f g : Int → α} (h : Sw a b f g) {k : Int} (hk : k < a ∨ b ≤ k) : g k = f k := by
  induction h with
  | refl => rfl
  | step _ hi hj ih => rw [swp_at, if_neg (by omega), if_neg (by omega), ih]
theorem Sw.from {α : Type} {a b : Int} {f g : Int → α} (h : Sw a b f g) : ∀ {k : Int}, a ≤ k → k < b → ∃ m, a ≤ m ∧ m < b ∧ g k = f m := by
  induction h with
  | refl => intro k h1 h2; exact ⟨k, h1, h2, rfl⟩
  | step _ hi hj ih =>
    intro k h1 h2
    rw [swp_at]
    split
    · exact ih hi.1 hi.2
    · split
      · exact ih hj.1 hj.2
      · exact ih h1 h2
def Inj {α : Type} (n : Int) (f : Int → α) : Prop := ∀ i j, 0 ≤ i → i < n → 0 ≤ j → j < n → f i = f j → i = j
theorem Inj.swp {α : Type} {n : Int} {f : Int → α} (h : Inj n f) {i j : Int} (hi : 0 ≤ i ∧ i < n) (hj : 0 ≤ j ∧ j < n) : Inj n (swp f i j) := by
  intro x y x0 x1 y0 y1 e
  rw [swp_at, swp_at] at e
  by_cases a1 : x = j <;> by_cases a2 : y = j <;> by_cases a3 : x = i <;> by_cases a4 : y = i <;> simp only [a1, a2, a3, a4, if_true, if_false] at e <;>
    first
      | omega
      | (have := h _ _ (by omega) (by omega) (by omega) (by omega) e; omega)
      | (subst a1; subst a2; omega)
      | skip
  all_goals (repeat' split at e)
  all_goals first
    | omega
    | (have := h _ _ (by omega) (by omega) (by omega) (by omega) e; omega)
theorem Inj.sw {α : Type} {n a b : Int} {f g : Int → α} (h : Inj n f) (hs : Sw a b f g) (ha : 0 ≤ a) (hb : b ≤ n) : Inj n g := by
  induction hs with
  | refl => exact h
  | step _ hi hj ih => exact ih.swp (by omega) (by omega)
structure LtOk {α : Type} (lt : α → α → Bool) : Prop where
  asymm : ∀ x y, lt x y = true → lt y x = false
  le_trans : ∀ x y z, lt y x = false → lt z y = false → lt z x = false
  eq : ∀ x y, lt x y = false → lt y x = false → x = y
def Srt {α : Type} (lt : α → α → Bool) (a b : Int) (f : Int → α) : Prop := ∀ p q, a ≤ p → p < q → q < b → lt (f q) (f p) = false
def rowF {α : Type} (b o : Nat) (e : α → Value) (n : Nat) (f : Int → α) : List Atom := cellsAt b o ((List.range n).map fun i : Nat => e (f i))
theorem rowF_mem {α : Type} {b o : Nat} {e : α → Value} {n : Nat} {f : Int → α} {m : Int} (h : 0 ≤ m ∧ m < n) : Atom.cell b (o + m.toNat) (e (f m)) ∈ rowF b o e n f := by
  refine mem_cellsAt.2 ⟨m.toNat, _, ?_, rfl⟩
  rw [List.getElem?_map, List.getElem?_range (by omega)]
  simp only [Option.map_some]
  rw [Int.toNat_of_nonneg h.1]
theorem rowF_set {α : Type} {e : α → Value} {n : Nat} {f : Int → α} {m : Int} {v : α} (h : 0 ≤ m ∧ m < n) : ((List.range n).map fun i : Nat => e (f i)).set m.toNat (e v) = (List.range n).map fun i : Nat => e (upd f m v i) := by
  apply List.ext_getElem?
  intro i
  rw [List.getElem?_set]
  by_cases hi : i < n
  · simp only [List.getElem?_map, List.getElem?_range hi, Option.map_some, List.length_map, List.length_range, upd]
    by_cases e1 : m.toNat = i
    · rw [if_pos e1, if_pos (by omega), if_pos (by omega)]
    · rw [if_neg e1, if_neg (by omega)]
  · rw [if_neg (by omega)]
    rw [List.getElem?_eq_none (by simpa using hi), List.getElem?_eq_none (by simpa using hi)]
section
variable {P : Program} {n : Nat} {rs : List RO} {Γ : Env} {H R : SH} {Z : List PanicEntry → Env → SH → Prop} {K : Env → SH → Prop} {d : Option Nat} {α : Type} {e : α → Value} {N b o : Nat} {f : Int → α}
theorem st_ldF {x : Operand} {m : Int} (hx : ev Γ x = some (.pointer (some ⟨b, o + m.toNat, none⟩))) (ht : Tk H (rowF b o e N f) R) (hb : 0 ≤ m ∧ m < N) (h : VO P n rs (putE d (e (f m)) Γ) H Z K) : VO P n (⟨d, none, .load1 x⟩ :: rs) Γ H Z K :=
  VO.read rfl rfl (fun ρ hρ => ⟨_, rfl, fun F w hs => by
    have hm : Atom.cell b (o + m.toNat) (e (f m)) ∈ H.flatten := ht.perm.mem_iff.2 (List.mem_append_left _ (rowF_mem hb))
    have := (hs.cell (List.mem_append_left F hm)).1
    simp [hρ _ _ hx, Instr.sureAddr, this]⟩) h
theorem st_stF {x y : Operand} {m : Int} {v : α} (hx : ev Γ x = some (.pointer (some ⟨b, o + m.toNat, none⟩))) (hy : ev Γ y = some (e v)) (ht : Tk H (rowF b o e N f) R) (hb : 0 ≤ m ∧ m < N) (hc : (e v).cells = #[e v]) (hone : oneCell (e v) = true)
    (h : VO P n rs (putE d undef Γ) (rowF b o e N (upd f m v) :: R) Z K) : VO P n (⟨d, none, .store 1 x y⟩ :: rs) Γ H Z K := by
  refine VO.perm (H' := rowF b o e N f :: R) (by simpa using ht.perm) ?_
  refine st_store' (us := [e v]) hx hy (by rw [hc]) rfl (by simp [hone]) (H' := rowF b o e N (upd f m v) :: R) ?_ h
  have := Upd.set1 (b := b) (o := o) (i := m.toNat) (k := o + m.toNat) (vs := (List.range N).map fun i : Nat => e (f i)) (u := e v) (L := R) rfl (by simp; omega)
  rw [rowF_set hb] at this
  exact this
def LessIs (P : Program) (fn : Nat) {α : Type} (e : α → Value) (lt : α → α → Bool) : Prop := ∀ x y, Fun P fn [e x, e y] [] (fun v Post => v = .bool (lt x y) ∧ Post = [])
theorem st_less {fn : Nat} {lt : α → α → Bool} {xs : List Operand} {x y : α} (hl : LessIs P fn e lt) (he : evs Γ xs = some [e x, e y]) (h : VO P n rs (putE d (.bool (lt x y)) Γ) H Z K) : VO P n (⟨d, none, .call fn xs⟩ :: rs) Γ H Z K := by
  refine st_call (hl x y) he (R := H) (by simp [Spl]) (fun v Post hv => ?_)
  obtain ⟨rfl, rfl⟩ := hv
  exact h
end
section
variable {α : Type} {lt : α → α → Bool}
def InsI (lt : α → α → Bool) (a i j : Int) (f : Int → α) : Prop := ∀ p q, a ≤ p → p < q → q ≤ i → q ≠ j → lt (f q) (f p) = false
theorem InsI.start {a i : Int} {f : Int → α} (h : Srt lt a i f) : InsI lt a i i f := fun p q h1 h2 h3 h4 => h p q h1 h2 (by omega)
theorem InsI.first {a i : Int} {f : Int → α} (h : InsI lt a i a f) : Srt lt a (i + 1) f := fun p q h1 h2 h3 => h p q h1 h2 (by omega) (by omega)
theorem InsI.stop (ok : LtOk lt) {a i j : Int} {f : Int → α} (h : InsI lt a i j f) (hl : lt (f j) (f (j - 1)) = false) (hj : j ≤ i) : Srt lt a (i + 1) f := by
  intro p q h1 h2 h3
  by_cases e : q = j
  · subst e
    by_cases e2 : p = q - 1
    · subst e2; exact hl
    · exact ok.le_trans _ _ _ (h p (q - 1) h1 (by omega) (by omega) (by omega)) hl
  · exact h p q h1 h2 (by omega) e
theorem InsI.swap (ok : LtOk lt) {a i j : Int} {f : Int → α} (h : InsI lt a i j f) (hl : lt (f j) (f (j - 1)) = true) (ha : a < j) (hj : j ≤ i) : InsI lt a i (j - 1) (swp f j (j - 1)) := by
  intro p q h1 h2 h3 h4
  rw [swp_at, swp_at]
  by_cases q1 : q = j
  · subst q1
    rw [if_neg h4, if_pos rfl]
    by_cases p1 : p = q - 1
    · subst p1; rw [if_pos rfl]; exact ok.asymm _ _ hl
    · rw [if_neg p1, if_neg (by omega)]; exact h p (q - 1) h1 (by omega) (by omega) (by omega)
  · rw [if_neg h4, if_neg q1]
    by_cases p1 : p = j - 1
    · subst p1; rw [if_pos rfl]; exact h j q (by omega) (by omega) h3 q1
    · rw [if_neg p1]
      by_cases p2 : p = j
      · subst p2; rw [if_pos rfl]; exact h (p - 1) q (by omega) (by omega) h3 q1
      · rw [if_neg p2]; exact h p q h1 h2 h3 q1
end
theorem GOS {R G : Prop} (r : R) (h : Later R → G := by
  intro later
  (repeat (first
      | (first
    | (apply st_gt; rfl)
    | (apply st_gf; rfl; rfl)
    | (apply st_gu; rfl)
    | (apply st_mv; rfl)
    | (apply st_nil; rfl)
    | (apply st_pick_t; rfl; rfl)
    | (apply st_pick_f; rfl; rfl)
    | (apply st_fld; rfl; ((try simp only [Nat.zero_add, Nat.add_zero, Nat.reduceAdd, Nat.reduceMul, Nat.add_assoc, Int.toNat_natCast, Nat.mul_one]); rfl))
    | (apply st_ldF; rfl; (focus ((repeat (first | with_reducible exact Tk.here | apply Tk.there)); done)); omega)
    | (apply st_load1; rfl; (focus ((repeat (first | (apply Has.cells; omega; rfl) | apply Has.there)); done)))
    | (apply st_load1; rfl; (focus ((repeat (first | (apply Has.among; assumption) | apply Has.there)); done)))
    | (apply st_loadM; rfl; (focus ((repeat (first | (apply HasM.cells; omega; (focus (simp only [List.length_cons, List.length_nil, Nat.reduceAdd, Nat.zero_add, Nat.reduceSub, Nat.sub_self, Nat.reduceLeDiff, Nat.le_refl]; done)); (focus (simp only [lnb, Value.cells, Nat.zero_add, Nat.reduceEqDiff, ↓reduceIte, eq_self, Nat.reduceAdd, Nat.reduceSub, Nat.sub_self, Nat.reduceLeDiff, Nat.le_refl, and_self, rep, zeroRow] <;> rfl)); rfl) | apply HasM.there)); done)))
    | (apply st_extL; rfl; rfl)
    | (apply st_ext; rfl; rfl)
    | (apply st_add; rfl; rfl; omega)
    | (apply st_sub; rfl; rfl; omega)
    | (apply st_mul; rfl; rfl; omega)
    | (apply st_rem; rfl; rfl; decide)
    | (apply st_idxL; rfl; rfl; omega; ((try simp only [Nat.zero_add, Nat.add_zero, Nat.reduceAdd, Nat.reduceMul, Nat.add_assoc, Int.toNat_natCast, Nat.mul_one]); rfl))
    | (apply st_idxA; rfl; rfl; omega; ((try simp only [Nat.zero_add, Nat.add_zero, Nat.reduceAdd, Nat.reduceMul, Nat.add_assoc, Int.toNat_natCast, Nat.mul_one]); rfl))
    | (apply st_build; rfl; (focus (simp only [lnb, Value.cells, Nat.zero_add, Nat.reduceEqDiff, ↓reduceIte, eq_self, Nat.reduceAdd, Nat.reduceSub, Nat.sub_self, Nat.reduceLeDiff, Nat.le_refl, and_self, rep, zeroRow] <;> rfl)))
    | (apply st_stF; rfl; rfl; (focus ((repeat (first | with_reducible exact Tk.here | apply Tk.there)); done)); omega; rfl; rfl)
    | (apply st_less; assumption; rfl)
    | (apply st_store'; rfl; rfl; (focus (simp only [lnb, Value.cells, Nat.zero_add, Nat.reduceEqDiff, ↓reduceIte, eq_self, Nat.reduceAdd, Nat.reduceSub, Nat.sub_self, Nat.reduceLeDiff, Nat.le_refl, and_self, rep, zeroRow] <;> rfl)); rfl; rfl; (focus ((repeat (first | (apply Upd.cells; omega; (focus (simp only [List.length_cons, List.length_nil, Nat.reduceAdd, Nat.zero_add, Nat.reduceSub, Nat.sub_self, Nat.reduceLeDiff, Nat.le_refl]; done)); (focus (simp only [lnb, Value.cells, Nat.zero_add, Nat.reduceEqDiff, ↓reduceIte, eq_self, Nat.reduceAdd, Nat.reduceSub, Nat.sub_self, Nat.reduceLeDiff, Nat.le_refl, and_self, rep, zeroRow] <;> rfl))) | apply Upd.there)); done)))
    | (apply st_pure; rfl; rfl; rfl))
      | (refine VO.nil ?_; simp only [V.argsEnv, V.restr, V.look, V.putE, V.thenQ, V.blockQ, Nat.zero_add, Nat.reduceAdd, Nat.reduceEqDiff, ↓reduceIte, eq_self])
      | refine VC.seq_reg ?_
      | refine VC.seq_draw1 ?_
      | refine VC.seq_seq ?_
      | refine VC.seq_block ?_
      | refine VC.seq_skip ?_
      | refine VC.reg ?_
      | refine VC.draw1 ?_
      | refine VC.block ?_
      | (refine VC.skip ?_; simp only [V.argsEnv, V.restr, V.look, V.putE, V.thenQ, V.blockQ, Nat.zero_add, Nat.reduceAdd, Nat.reduceEqDiff, ↓reduceIte, eq_self])
      | (refine VC.exit ?_; simp only [V.argsEnv, V.restr, V.look, V.putE, V.thenQ, V.blockQ, Nat.zero_add, Nat.reduceAdd, Nat.reduceEqDiff, ↓reduceIte, eq_self])
      | (refine VC.ret ?_; try simp only [V.thenQ, V.blockQ])
      | (apply VC.seq_cond_t; rfl)
      | (apply VC.seq_cond_f; rfl)
      | (apply VC.cond_t; rfl)
      | (apply VC.cond_f; rfl)))
  exact later.out) : G := h ⟨r⟩
def ltI (x y : Int) : Bool := decide (x < y)
def ltS (x y : ByteArray) : Bool := Op.bytesLess x.toList y.toList
theorem ltI_ok : LtOk ltI := ⟨fun x y h => by simp [ltI] at *; omega, fun x y z h k => by simp [ltI] at *; omega, fun x y h k => by simp [ltI] at *; omega⟩
theorem bl_asymm : ∀ {a b : List UInt8}, Op.bytesLess a b = true → Op.bytesLess b a = false := by
  intro a
  induction a with
  | nil => intro b h; cases b <;> simp_all [Op.bytesLess]
  | cons x a ih =>
    intro b h
    cases b with
    | nil => simp [Op.bytesLess] at h
    | cons y b =>
      simp only [Op.bytesLess, Bool.or_eq_true, Bool.and_eq_true, decide_eq_true_eq, beq_iff_eq] at h
      simp only [Op.bytesLess, Bool.or_eq_false_iff, Bool.and_eq_false_iff, decide_eq_false_iff_not, beq_eq_false_iff_ne]
      rcases h with h | ⟨rfl, h⟩
      · exact ⟨by rw [UInt8.lt_iff_toNat_lt] at *; omega, .inl (fun e => by subst e; rw [UInt8.lt_iff_toNat_lt] at h; omega)⟩
      · exact ⟨by rw [UInt8.lt_iff_toNat_lt]; omega, .inr (ih h)⟩
theorem bl_total : ∀ {a b : List UInt8}, Op.bytesLess a b = false → Op.bytesLess b a = false → a = b := by
  intro a
  induction a with
  | nil => intro b h k; cases b <;> simp_all [Op.bytesLess]
  | cons x a ih =>
    intro b h k
    cases b with
    | nil => simp [Op.bytesLess] at k
    | cons y b =>
      simp only [Op.bytesLess, Bool.or_eq_false_iff, Bool.and_eq_false_iff, decide_eq_false_iff_not, beq_eq_false_iff_ne] at h k
      have e : x = y := by
        apply UInt8.toNat_inj.1
        have h1 := h.1; have k1 := k.1
        rw [UInt8.lt_iff_toNat_lt] at h1 k1
        omega
      subst e
      have h2 := h.2.resolve_left (fun hh => hh rfl)
      have k2 := k.2.resolve_left (fun hh => hh rfl)
      rw [ih h2 k2]
theorem bl_letrans : ∀ {a b c : List UInt8}, Op.bytesLess b a = false → Op.bytesLess c b = false → Op.bytesLess c a = false := by
  intro a
  induction a with
  | nil => intro b c _ _; cases c <;> rfl
  | cons x a ih =>
    intro b c h k
    cases c with
    | nil => cases b with
      | nil => simp [Op.bytesLess] at h
      | cons y b => simp [Op.bytesLess] at k
    | cons z c => cases b with
      | nil => simp [Op.bytesLess] at h
      | cons y b =>
        simp only [Op.bytesLess, Bool.or_eq_false_iff, Bool.and_eq_false_iff, decide_eq_false_iff_not, beq_eq_false_iff_ne] at h k ⊢
        rw [UInt8.lt_iff_toNat_lt] at h k
        rw [UInt8.lt_iff_toNat_lt]
        refine ⟨by omega, ?_⟩
        by_cases e : z = x
        · right
          have h1 := h.1; have k1 := k.1
          subst e
          have e2 : y = z := UInt8.toNat_inj.1 (by omega)
          subst e2
          exact ih (h.2.resolve_left (fun hh => hh rfl)) (k.2.resolve_left (fun hh => hh rfl))
        · exact .inl e
theorem ltS_ok : LtOk ltS := ⟨fun x y h => bl_asymm h, fun x y z h k => bl_letrans h k, fun x y h k => by
  have e : x.toList = y.toList := bl_total h k
  have h2 := str_eq x y
  rw [e] at h2
  simpa using h2.symm⟩
section
variable {α : Type} {lt : α → α → Bool}
def Kid (r c : Int) : Prop := c = 2 * r + 1 ∨ c = 2 * r + 2
def Hp (lt : α → α → Bool) (s lo hi : Int) (f : Int → α) : Prop := ∀ r c, lo ≤ r → Kid r c → c < hi → lt (f (s + r)) (f (s + c)) = false
def HpX (lt : α → α → Bool) (s lo hi x : Int) (f : Int → α) : Prop :=
  (∀ r c, lo ≤ r → Kid r c → c < hi → r ≠ x → lt (f (s + r)) (f (s + c)) = false) ∧ (∀ r c, lo ≤ r → Kid r x → Kid x c → c < hi → lt (f (s + r)) (f (s + c)) = false)
theorem LtOk.refl (ok : LtOk lt) (x : α) : lt x x = false := by
  cases h : lt x x with
  | false => rfl
  | true => exact (ok.asymm x x h).symm.trans h |>.symm ▸ rfl
theorem HpX.start {s lo hi : Int} {f : Int → α} (h : Hp lt s (lo + 1) hi f) (h0 : 0 ≤ lo) : HpX lt s lo hi lo f :=
  ⟨fun r c h1 h2 h3 h4 => h r c (by omega) h2 h3, fun r c h1 h2 h3 h4 => by unfold Kid at h2; omega⟩
theorem HpX.none {s lo hi x : Int} {f : Int → α} (h : HpX lt s lo hi x f) (hx : hi ≤ 2 * x + 1) : Hp lt s lo hi f := by
  intro r c h1 h2 h3
  by_cases e : r = x
  · subst e; unfold Kid at h2; omega
  · exact h.1 r c h1 h2 h3 e
theorem HpX.stop (ok : LtOk lt) {s lo hi x m : Int} {f : Int → α} (h : HpX lt s lo hi x f) (hmax : ∀ c, Kid x c → c < hi → lt (f (s + m)) (f (s + c)) = false) (hl : lt (f (s + x)) (f (s + m)) = false) : Hp lt s lo hi f := by
  intro r c h1 h2 h3
  by_cases e : r = x
  · subst e; exact ok.le_trans _ _ _ (hmax c h2 h3) hl
  · exact h.1 r c h1 h2 h3 e
theorem HpX.down (ok : LtOk lt) {s lo hi x m : Int} {f : Int → α} (h : HpX lt s lo hi x f) (h0 : 0 ≤ lo) (hx : lo ≤ x) (hm : Kid x m) (hmi : m < hi) (hmax : ∀ c, Kid x c → c < hi → lt (f (s + m)) (f (s + c)) = false) (hl : lt (f (s + x)) (f (s + m)) = true) :
    HpX lt s lo hi m (swp f (s + x) (s + m)) := by
  have hxm : x < m := by unfold Kid at hm; omega
  refine ⟨fun r c h1 h2 h3 h4 => ?_, fun r c h1 h2 h3 h4 => ?_⟩
  · rw [swp_at, swp_at]
    have hrc : r < c := by unfold Kid at h2; omega
    by_cases e : r = x
    · subst e
      rw [if_neg (by omega), if_pos rfl]
      by_cases e2 : c = m
      · subst e2; rw [if_pos rfl]; exact ok.asymm _ _ hl
      · rw [if_neg (by omega), if_neg (by omega)]; exact hmax c h2 h3
    · rw [if_neg (by omega), if_neg (by omega)]
      by_cases e2 : c = m
      · unfold Kid at h2 hm; omega
      · rw [if_neg (by omega)]
        by_cases e3 : c = x
        · subst e3; rw [if_pos rfl]; exact h.2 r m h1 h2 hm hmi
        · rw [if_neg (by omega)]; exact h.1 r c h1 h2 h3 e
  · have er : r = x := by unfold Kid at h2 hm; omega
    subst er
    have hmc : m < c := by unfold Kid at h3; omega
    rw [swp_at, swp_at, if_neg (by omega), if_pos rfl, if_neg (by omega), if_neg (by omega)]
    exact h.1 m c (by omega) h3 h4 (by omega)
theorem Hp.top (ok : LtOk lt) {s hi : Int} {f : Int → α} (h : Hp lt s 0 hi f) : ∀ (n : Nat) (c : Int), c = n → c < hi → lt (f s) (f (s + c)) = false := by
  intro n
  induction n using Nat.strongRecOn with
  | _ n ih =>
    intro c hc hhi
    by_cases e : c = 0
    · subst e; rw [Int.add_zero]; exact ok.refl _
    · have hk : Kid ((c - 1) / 2) c := by unfold Kid; omega
      have h1 := h _ c (by omega) hk hhi
      exact ok.le_trans _ _ _ h1 (ih ((c - 1) / 2).toNat (by omega) ((c - 1) / 2) (by omega) (by omega))
theorem Hp.none {s lo hi : Int} {f : Int → α} (h : hi ≤ 2 * lo + 1) : Hp lt s lo hi f := fun r c h1 h2 h3 => by unfold Kid at h2; omega
def Top (lt : α → α → Bool) (s i n : Int) (f : Int → α) : Prop := ∀ p q, 0 ≤ p → p < q → q < n → i ≤ q → lt (f (s + q)) (f (s + p)) = false
theorem Hp.popX {s i : Int} {f : Int → α} (h : Hp lt s 0 (i + 1) f) (hi : 0 ≤ i) : HpX lt s 0 i 0 (swp f s (s + i)) := by
  refine ⟨fun r c h1 h2 h3 h4 => ?_, fun r c h1 h2 h3 h4 => by unfold Kid at h2; omega⟩
  have hrc : r < c := by unfold Kid at h2; omega
  rw [swp_at, swp_at, if_neg (by omega), if_neg (by omega), if_neg (by omega), if_neg (by omega)]
  exact h r c h1 h2 (by omega)
theorem Top.pop (ok : LtOk lt) {s i n : Int} {f g : Int → α} (ht : Top lt s (i + 1) n f) (h : Hp lt s 0 (i + 1) f) (hi : 0 ≤ i) (hin : i < n) (hs : Sw s (s + i) (swp f s (s + i)) g) : Top lt s i n g := by
  intro p q h1 h2 h3 h4
  have low : ∀ k, 0 ≤ k → k < i → ∃ m, 0 ≤ m ∧ m < i + 1 ∧ g (s + k) = f (s + m) := by
    intro k k1 k2
    obtain ⟨m, m1, m2, m3⟩ := hs.from (k := s + k) (by omega) (by omega)
    rw [swp_at, if_neg (by omega)] at m3
    split at m3
    · exact ⟨i, by omega, by omega, m3⟩
    · exact ⟨m - s, by omega, by omega, by rw [m3]; congr 1; omega⟩
  have high : ∀ k, i < k → g (s + k) = f (s + k) := by
    intro k k1
    rw [hs.out (by omega), swp_at, if_neg (by omega), if_neg (by omega)]
  have at_i : g (s + i) = f s := by rw [hs.out (by omega), swp_at, if_pos rfl]
  by_cases e : q = i
  · subst e
    rw [at_i]
    obtain ⟨m, m1, m2, m3⟩ := low p h1 h2
    rw [m3]
    exact h.top ok m.toNat m (by omega) m2
  · rw [high q (by omega)]
    by_cases e2 : p < i
    · obtain ⟨m, m1, m2, m3⟩ := low p h1 e2
      rw [m3]
      exact ht m q m1 (by omega) h3 (by omega)
    · by_cases e3 : p = i
      · subst e3
        rw [at_i]
        have := ht 0 q (by omega) (by omega) h3 (by omega)
        rwa [Int.add_zero] at this
      · rw [high p (by omega)]
        exact ht p q h1 h2 h3 (by omega)
end
section
variable {α : Type} {lt : α → α → Bool}
def Lo (lt : α → α → Bool) (a z : Int) (f : Int → α) : Prop := 0 < a → ∀ k, a ≤ k → k < z → lt (f k) (f (a - 1)) = false
theorem Lo.sw {a z : Int} {f g : Int → α} (h : Lo lt a z f) (hs : Sw a z f g) : Lo lt a z g := by
  intro h0 k h1 h2
  obtain ⟨m, m1, m2, m3⟩ := hs.from h1 h2
  rw [m3, hs.out (k := a - 1) (by omega)]
  exact h h0 m m1 m2
structure PI (lt : α → α → Bool) (a z i j : Int) (p : α) (g : Int → α) : Prop where
  piv : g a = p
  less : ∀ k, a < k → k < i → lt (g k) p = true
  more : ∀ k, j < k → k < z → lt (g k) p = false
  lo : a + 1 ≤ i
  mid : i ≤ j + 1
  hi : j < z
theorem PI.up {a z i j : Int} {p : α} {g : Int → α} (h : PI lt a z i j p g) (hij : i ≤ j) (hl : lt (g i) p = true) : PI lt a z (i + 1) j p g :=
  ⟨h.piv, fun k h1 h2 => by
    by_cases e : k = i
    · subst e; exact hl
    · exact h.less k h1 (by omega), h.more, by have := h.lo; omega, by omega, h.hi⟩
theorem PI.down {a z i j : Int} {p : α} {g : Int → α} (h : PI lt a z i j p g) (hij : i ≤ j) (hl : lt (g j) p = false) : PI lt a z i (j - 1) p g :=
  ⟨h.piv, h.less, fun k h1 h2 => by
    by_cases e : k = j
    · subst e; exact hl
    · exact h.more k (by omega) h2, h.lo, by omega, by have := h.hi; omega⟩
theorem PI.swap {a z i j : Int} {p : α} {g : Int → α} (h : PI lt a z i j p g) (hij : i ≤ j) (h1 : lt (g i) p = false) (h2 : lt (g j) p = true) : PI lt a z (i + 1) (j - 1) p (swp g i j) := by
  have hne : i ≠ j := fun e => by subst e; rw [h1] at h2; cases h2
  have l1 := h.lo
  have l2 := h.hi
  refine ⟨?_, fun k k1 k2 => ?_, fun k k1 k2 => ?_, by omega, by omega, by omega⟩
  · rw [swp_at, if_neg (by omega), if_neg (by omega)]; exact h.piv
  · rw [swp_at, if_neg (by omega)]
    by_cases e : k = i
    · rw [if_pos e]; exact h2
    · rw [if_neg e]; exact h.less k k1 (by omega)
  · rw [swp_at]
    by_cases e : k = j
    · rw [if_pos e]; exact h1
    · rw [if_neg e, if_neg (by omega)]; exact h.more k (by omega) k2
def Parted (lt : α → α → Bool) (a z m : Int) (g : Int → α) : Prop := (∀ k, a ≤ k → k < m → lt (g k) (g m) = true) ∧ (∀ k, m < k → k < z → lt (g k) (g m) = false)
theorem PI.done {a z j : Int} {p : α} {g : Int → α} (h : PI lt a z (j + 1) j p g) : Parted lt a z j (swp g j a) := by
  have l1 := h.lo
  have hp : swp g j a j = p := by
    rw [swp_at]
    by_cases e : j = a
    · rw [if_pos e, e]; exact h.piv
    · rw [if_neg e, if_pos rfl]; exact h.piv
  refine ⟨fun k k1 k2 => ?_, fun k k1 k2 => ?_⟩
  · rw [hp, swp_at]
    by_cases e : k = a
    · rw [if_pos e]; exact h.less j (by omega) (by omega)
    · rw [if_neg e, if_neg (by omega)]; exact h.less k (by omega) (by omega)
  · rw [hp, swp_at, if_neg (by omega), if_neg (by omega)]; exact h.more k k1 k2
end
section
variable {α : Type} {lt : α → α → Bool}
def But (lt : α → α → Bool) (a z x y : Int) (f : Int → α) : Prop := ∀ p q, a ≤ p → p < q → q < z → ¬ (x ≤ p ∧ q < y) → lt (f q) (f p) = false
theorem But.start {a z : Int} {f : Int → α} : But lt a z a z f := fun p q h1 h2 h3 h4 => absurd ⟨h1, h3⟩ h4
theorem But.sw {a z x y : Int} {f g : Int → α} (h : But lt a z x y f) (hs : Sw x y f g) (ha : a ≤ x) (hz : y ≤ z) : But lt a z x y g := by
  intro p q h1 h2 h3 h4
  by_cases hp : x ≤ p ∧ p < y
  · obtain ⟨m, m1, m2, m3⟩ := hs.from hp.1 hp.2
    rw [m3, hs.out (k := q) (by omega)]
    exact h m q (by omega) (by omega) h3 (by omega)
  · by_cases hq : x ≤ q ∧ q < y
    · obtain ⟨m, m1, m2, m3⟩ := hs.from hq.1 hq.2
      rw [m3, hs.out (k := p) (by omega)]
      exact h p m h1 (by omega) (by omega) (by omega)
    · rw [hs.out (k := p) (by omega), hs.out (k := q) (by omega)]
      exact h p q h1 h2 h3 h4
theorem But.done {a z x y : Int} {f : Int → α} (h : But lt a z x y f) (hs : Srt lt x y f) : Srt lt a z f := by
  intro p q h1 h2 h3
  by_cases e : x ≤ p ∧ q < y
  · exact hs p q e.1 h2 e.2
  · exact h p q h1 h2 h3 e
theorem But.lo {a z x y : Int} {f : Int → α} (h : But lt a z x y f) (hl : Lo lt a z f) (ha : a ≤ x) (hz : y ≤ z) : Lo lt x y f := by
  intro h0 k h1 h2
  by_cases e : x = a
  · subst e; exact hl h0 k h1 (by omega)
  · exact h (x - 1) k (by omega) (by omega) (by omega) (by omega)
theorem But.left (ok : LtOk lt) {a z x y m : Int} {f g : Int → α} (h : But lt a z x y f) (hp : Parted lt x y m f) (hm : x ≤ m ∧ m < y) (ha : a ≤ x) (hz : y ≤ z) (hs : Sw x m f g) (hg : Srt lt x m g) : But lt a z (m + 1) y g := by
  have h' := h.sw (hs.wide (Int.le_refl _) (by omega : m ≤ y)) ha hz
  have gm : g m = f m := hs.out (by omega)
  intro p q h1 h2 h3 h4
  by_cases e : x ≤ p ∧ q < y
  · -- both within: one of them is not behind m
    by_cases hq : q < m
    · exact hg p q e.1 h2 hq
    · by_cases hpm : p < m
      · obtain ⟨k, k1, k2, k3⟩ := hs.from e.1 hpm
        have a1 : lt (g p) (g m) = true := by rw [k3, gm]; exact hp.1 k k1 k2
        have a2 := ok.asymm _ _ a1
        by_cases e2 : q = m
        · subst e2; exact a2
        · have a3 : lt (g q) (g m) = false := by rw [hs.out (k := q) (by omega), gm]; exact hp.2 q (by omega) (by omega)
          exact ok.le_trans _ _ _ a2 a3
      · have e2 : p = m := by omega
        subst e2
        rw [hs.out (k := q) (by omega), gm]
        exact hp.2 q (by omega) (by omega)
  · exact h' p q h1 h2 h3 e
theorem But.right (ok : LtOk lt) {a z x y m : Int} {f g : Int → α} (h : But lt a z x y f) (hp : Parted lt x y m f) (hm : x ≤ m ∧ m < y) (ha : a ≤ x) (hz : y ≤ z) (hs : Sw (m + 1) y f g) (hg : Srt lt (m + 1) y g) : But lt a z x m g := by
  have h' := h.sw (hs.wide (by omega : x ≤ m + 1) (Int.le_refl _)) ha hz
  have gm : g m = f m := hs.out (by omega)
  intro p q h1 h2 h3 h4
  by_cases e : x ≤ p ∧ q < y
  · by_cases hpm : m + 1 ≤ p
    · exact hg p q hpm h2 e.2
    · have a2 : lt (g m) (g p) = false := by
        by_cases e2 : p = m
        · subst e2; exact ok.refl _
        · rw [hs.out (k := p) (by omega), gm]; exact ok.asymm _ _ (hp.1 p (by omega) (by omega))
      by_cases e2 : q = m
      · subst e2; exact a2
      · obtain ⟨k, k1, k2, k3⟩ := hs.from (k := q) (by omega) (by omega)
        have a3 : lt (g q) (g m) = false := by rw [k3, gm]; exact hp.2 k (by omega) k2
        exact ok.le_trans _ _ _ a2 a3
  · exact h' p q h1 h2 h3 e
end
theorem VC.meet {P : Program} {n : Nat} {Γ : Env} {H : SH} {Q : Exit → Env → SH → Prop} {x y : IC} {α : Type} (Γf : α → Env) (Hf : α → SH) (I : α → Prop) (h1 : VC P n x Γ H (thenQ (fun Γ' H' => ∃ s, I s ∧ Sub Γ' (Γf s) ∧ Imp H' (Hf s)) Q))
    (h2 : ∀ s, I s → VC P n y (Γf s) (Hf s) Q) : VC P n x Γ H (thenQ (fun Γ' H' => VC P n y Γ' H' Q) Q) := by
  refine h1.mono ?_
  intro e Γ' H' q
  cases e <;> first
    | (obtain ⟨s, i1, i2, i3⟩ := q; exact VC.sub i2 (VC.imp i3 (h2 s i1)))
    | exact q
section
variable {α : Type}
def toF (d : α) (xs : List α) : Int → α := fun i => (xs[i.toNat]?).getD d
def listOf (n : Nat) (f : Int → α) : List α := (List.range n).map fun i : Nat => f i
theorem listOf_toF (d : α) (xs : List α) : listOf xs.length (toF d xs) = xs := by
  apply List.ext_getElem?
  intro i
  simp only [listOf, List.getElem?_map]
  by_cases hi : i < xs.length
  · rw [List.getElem?_range hi]; simp [toF, hi]
  · rw [List.getElem?_eq_none (by simpa using hi), List.getElem?_eq_none (by omega)]; rfl
theorem rowF_list {b o n : Nat} {e : α → Value} {f : Int → α} : rowF b o e n f = cellsAt b o ((listOf n f).map e) := by simp [rowF, listOf, List.map_map]; rfl
theorem rowF_of {b o : Nat} {e : α → Value} (d : α) (xs : List α) : rowF b o e xs.length (toF d xs) = cellsAt b o (xs.map e) := by rw [rowF_list, listOf_toF]
theorem listOf_get {n : Nat} {f : Int → α} {i : Nat} (h : i < n) : (listOf n f)[i]? = some (f i) := by simp [listOf, List.getElem?_range h]
theorem listOf_length {n : Nat} {f : Int → α} : (listOf n f).length = n := by simp [listOf]
theorem listOf_upd {n : Nat} {f : Int → α} {m : Int} {v : α} (h : 0 ≤ m ∧ m < n) : listOf n (upd f m v) = (listOf n f).set m.toNat v := by
  apply List.ext_getElem?
  intro i
  rw [List.getElem?_set]
  by_cases hi : i < n
  · rw [listOf_get hi, listOf_get hi, listOf_length]
    simp only [upd]
    by_cases e : m.toNat = i
    · rw [if_pos e, if_pos (by omega), if_pos (by omega)]
    · rw [if_neg e, if_neg (by omega)]
  · have h1 : (listOf n (upd f m v))[i]? = none := List.getElem?_eq_none (by rw [listOf_length]; omega)
    have h2 : (listOf n f)[i]? = none := List.getElem?_eq_none (by rw [listOf_length]; omega)
    rw [h1, h2, listOf_length, if_neg (show ¬ (m.toNat = i) by omega)]
theorem listOf_swp {n : Nat} {f : Int → α} {i j : Int} (hi : 0 ≤ i ∧ i < n) (hj : 0 ≤ j ∧ j < n) : (listOf n (swp f i j)).Perm (listOf n f) := by
  have hl : (listOf n f).length = n := listOf_length
  have h1 : (listOf n f)[i.toNat]'(by omega) = f i := by
    have := listOf_get (f := f) (n := n) (i := i.toNat) (by omega)
    rw [List.getElem?_eq_getElem (by omega)] at this
    rw [Option.some.inj this, Int.toNat_of_nonneg hi.1]
  have h2 : (listOf n f)[j.toNat]'(by omega) = f j := by
    have := listOf_get (f := f) (n := n) (i := j.toNat) (by omega)
    rw [List.getElem?_eq_getElem (by omega)] at this
    rw [Option.some.inj this, Int.toNat_of_nonneg hj.1]
  show (listOf n (upd (upd f i (f j)) j (f i))).Perm _
  rw [listOf_upd hj, listOf_upd hi, ← h1, ← h2]
  exact List.set_set_perm (by omega) (by omega)
theorem Sw.perm {n : Nat} {a z : Int} {f g : Int → α} (h : Sw a z f g) (ha : 0 ≤ a) (hz : z ≤ n) : (listOf n g).Perm (listOf n f) := by
  induction h with
  | refl => exact .refl _
  | step _ hi hj ih => exact (listOf_swp (by omega) (by omega)).trans ih
theorem Srt.list {lt : α → α → Bool} {n : Nat} {f : Int → α} (h : Srt lt 0 n f) : (listOf n f).Pairwise (fun x y => lt y x = false) := by
  rw [List.pairwise_iff_getElem]
  intro i j hi hj hij
  rw [listOf_length] at hi hj
  have h1 := listOf_get (f := f) (n := n) hi
  have h2 := listOf_get (f := f) (n := n) hj
  rw [List.getElem?_eq_getElem (by rw [listOf_length]; exact hi)] at h1
  rw [List.getElem?_eq_getElem (by rw [listOf_length]; exact hj)] at h2
  rw [Option.some.inj h1, Option.some.inj h2]
  exact h i j (by omega) (by omega) (by omega)
theorem Inj.of_nodup {d : α} {xs : List α} (h : xs.Nodup) : Inj xs.length (toF d xs) := by
  intro i j i0 i1 j0 j1 e
  have hi : i.toNat < xs.length := by omega
  have hj : j.toNat < xs.length := by omega
  simp only [toF, List.getElem?_eq_getElem hi, List.getElem?_eq_getElem hj, Option.getD_some] at e
  have key : ∀ (p q : Nat) (hp : p < xs.length) (hq : q < xs.length), xs[p] = xs[q] → ¬ p < q := fun p q hp hq e2 hpq => (List.pairwise_iff_getElem.1 h p q hp hq hpq) e2
  have k1 := key _ _ hi hj e
  have k2 := key _ _ hj hi e.symm
  omega
def SortedOf (lt : α → α → Bool) (xs ys : List α) : Prop := ys.Perm xs ∧ ys.Pairwise (fun x y => lt y x = false)
theorem sorted_unique {lt : α → α → Bool} (ok : LtOk lt) {xs ys zs : List α} (h : SortedOf lt xs ys) (k : SortedOf lt xs zs) : ys = zs :=
  List.Perm.eq_of_pairwise (le := fun x y => lt y x = false) (fun a b _ _ h1 h2 => ok.eq a b h2 h1) h.2 k.2 (h.1.trans k.1.symm)
end
theorem nodup_extend {α : Type} [DecidableEq α] {c l : List α} (hc : c.Nodup) (hl : l.Nodup) (h : ∀ k ∈ c, k ∈ l) : ∃ t, (c ++ t).Perm l := by
  refine ⟨l.filter (fun k => !decide (k ∈ c)), ?_⟩
  refine (List.perm_ext_iff_of_nodup ?_ hl).2 (fun k => ?_)
  · rw [List.nodup_append]
    refine ⟨hc, hl.filter _, fun x hx y hy e => ?_⟩
    subst e
    have := (List.mem_filter.1 hy).2
    simp [hx] at this
  · simp only [List.mem_append, List.mem_filter]
    constructor
    · rintro (hk | hk)
      · exact h k hk
      · exact hk.1
    · intro hk
      by_cases e : k ∈ c
      · exact .inl e
      · exact .inr ⟨hk, by simp [e]⟩
theorem mapOf_keys {κ β : Type} [DecidableEq κ] {E : KEnc κ} {V : β → Value} : ∀ {es : List MapEntry} {m : List (κ × β)}, MapOf E V es m → es.map (·.key) = m.map (fun p => E.enc p.1) := by
  intro es m h
  have h' := congrArg (List.map (·.1)) (show es.map (fun e => (e.key, e.val)) = m.map (fun p => (E.enc p.1, V p.2)) from h)
  simpa [List.map_map, Function.comp_def] using h'
theorem key_one {κ β : Type} [DecidableEq κ] {E : KEnc κ} {V : β → Value} {es : Array MapEntry} {c : Nat} {m : List (κ × β)} (h : MapIs E V es c m) (hk : (m.map (·.1)).Nodup) {e e' : MapEntry} (he : e ∈ es.toList) (he' : e' ∈ es.toList) (hkey : e.key = e'.key) : e.born = e'.born := by
  obtain ⟨i, hi⟩ := List.getElem?_of_mem he
  obtain ⟨j, hj⟩ := List.getElem?_of_mem he'
  have hkeys := mapOf_keys h.of
  have a1 : (m.map (·.1))[i]? = (m.map (·.1))[j]? := by
    have b1 := congrArg (fun l : List Value => l[i]?) hkeys
    have b2 := congrArg (fun l : List Value => l[j]?) hkeys
    simp only [List.getElem?_map, hi, hj, Option.map_some] at b1 b2
    cases hm : m[i]? with
    | none => rw [hm] at b1; cases b1
    | some p =>
      cases hm2 : m[j]? with
      | none => rw [hm2] at b2; cases b2
      | some p2 =>
        rw [hm] at b1; rw [hm2] at b2
        simp only [Option.map_some, Option.some.injEq] at b1 b2
        have := KEnc.inj (E := E) (b1.symm.trans (hkey.trans b2))
        simp [hm, hm2, this]
  have hlen : i < (m.map (·.1)).length := by
    have b1 := congrArg List.length hkeys
    simp only [List.length_map] at b1 ⊢
    have := (List.getElem?_eq_some_iff.1 hi).1
    omega
  have hij : i = j := by
    have hjl : j < (m.map (·.1)).length := by
      rw [List.getElem?_eq_getElem hlen] at a1
      exact (List.getElem?_eq_some_iff.1 a1.symm).1
    rw [List.getElem?_eq_getElem hlen, List.getElem?_eq_getElem hjl] at a1
    have key : ∀ (p q : Nat) (hp : p < (m.map (·.1)).length) (hq : q < (m.map (·.1)).length), (m.map (·.1))[p] = (m.map (·.1))[q] → ¬ p < q := fun p q hp hq e2 hpq => (List.pairwise_iff_getElem.1 hk p q hp hq hpq) e2
    have k1 := key _ _ hlen hjl (Option.some.inj a1)
    have k2 := key _ _ hjl hlen (Option.some.inj a1).symm
    omega
  subst hij
  rw [hi] at hj
  cases hj
  rfl
theorem IsSl.other {size n : Nat} {sv : Value} {us vs sp : List Value} (h : IsSl size sv n us sp) (hv : vs.length = us.length) : IsSl size sv n vs sp := by
  cases h with
  | mk a1 a2 a3 => exact .mk (by omega) (by omega) a3
  | nil =>
    have : vs = [] := List.eq_nil_of_length_eq_zero (by simpa using hv)
    subst this; exact .nil
structure Ch where
  kind : Int
  n : Int
  text : ByteArray
structure De where
  kind : Int
  handle : Int
  text : ByteArray
  to : ByteArray
  n : Int
  err : Int
structure Wr where
  seq : Int
  at_ : Int
  text : ByteArray
  empty : Bool
structure FO where
  now : List UInt8
  base : List UInt8
  writes : List Wr
  nv : Value
  bv : Value
  wv : Value
  ns : List Value
  bs : List Value
  ws : List Value
structure HO where
  blk : Nat
  closed : Bool
  stale : Bool
  file : Option Nat
  mode : Int
  at_ : Int
def chEnc (c : Ch) : List Value := [.int .u8 c.kind, vi c.n, .string c.text]
def deEnc (d : De) : List Value := [.int .u8 d.kind, vi d.handle, .string d.text, .string d.to, vi d.n, vi d.err]
def wrEnc (x : Wr) : List Value := [vi x.seq, vi x.at_, .string x.text, .bool x.empty]
def u8v (c : UInt8) : Value := .int .u8 c.toNat
def pf (f : Option Nat) : Value := .pointer (f.map fun b => ⟨b, 0, none⟩)
def hoEnc (h : HO) : List Value := [.bool h.closed, .bool h.stale, pf h.file, vi h.mode, vi h.at_]
def hoA (h : HO) : List Atom := cellsAt h.blk 0 (hoEnc h)
def foA (p : Nat × FO) : List Atom := cellsAt p.1 0 [p.2.nv, p.2.bv, p.2.wv] ++ (slA p.2.nv (p.2.now.map u8v) p.2.ns ++ (slA p.2.bv (p.2.base.map u8v) p.2.bs ++ slA p.2.wv (p.2.writes.flatMap wrEnc) p.2.ws))
structure WR where
  cv : Value
  choices : List Ch
  csp : List Value
  fm : Nat
  fes : Array MapEntry
  fc : Nat
  names : List (ByteArray × Nat)
  objs : List (Nat × FO)
  hv : Value
  hs : List HO
  hsp : List Value
  tv : Value
  trace : List De
  tsp : List Value
  clock : Int
  seq : Int
  dead : Bool
abbrev hdr (w : WR) : List Value := [w.cv, .map (some w.fm), w.hv, w.tv, vi w.clock, vi w.seq, .bool w.dead]
abbrev WMem (t : Nat) (w : WR) : SH :=
  [cellsAt t 0 [w.cv, .map (some w.fm), w.hv, w.tv, vi w.clock, vi w.seq, .bool w.dead], slA w.cv (w.choices.flatMap chEnc) w.csp, [.obj w.fm (.map w.fes w.fc)], w.objs.flatMap foA, slA w.hv (w.hs.map fun h => ptr0 h.blk) w.hsp, w.hs.flatMap hoA, slA w.tv (w.trace.flatMap deEnc) w.tsp]
structure FOk (f : FO) (M : Nat) : Prop where
  now : IsSl 1 f.nv f.now.length (f.now.map u8v) f.ns
  base : IsSl 1 f.bv f.base.length (f.base.map u8v) f.bs
  wr : IsSl 4 f.wv f.writes.length (f.writes.flatMap wrEnc) f.ws
  len : f.now.length ≤ 4194304
  len2 : f.base.length ≤ 4194304
  many : f.writes.length ≤ M
  at_ : ∀ x ∈ f.writes, 0 ≤ x.at_ ∧ x.at_ + x.text.size ≤ 4194304
structure WOk (w : WR) (M : Nat) : Prop where
  ch : IsSl 3 w.cv w.choices.length (w.choices.flatMap chEnc) w.csp
  fm : MapIs kStr (fun b : Nat => ptr0 b) w.fes w.fc w.names
  keys : (w.names.map (·.1)).Nodup
  blks : (w.objs.map (·.1)).Nodup
  named : ∀ p ∈ w.names, p.2 ∈ w.objs.map (·.1)
  fo : ∀ p ∈ w.objs, FOk p.2 M
  hv : IsSl 1 w.hv w.hs.length (w.hs.map fun h => ptr0 h.blk) w.hsp
  hfile : ∀ h ∈ w.hs, ∀ b, h.file = some b → b ∈ w.objs.map (·.1)
  hat : ∀ h ∈ w.hs, 0 ≤ h.at_ ∧ h.at_ ≤ 4194304
  hmany : w.hs.length ≤ M
  tr : IsSl 6 w.tv w.trace.length (w.trace.flatMap deEnc) w.tsp
  trmany : w.trace.length ≤ M
  seq : 0 ≤ w.seq ∧ w.seq ≤ M
  clock : 0 ≤ w.clock ∧ w.clock ≤ 1000000000000000000
  files : w.names.length ≤ 1073741823
  chmany : w.choices.length ≤ 65536
def inNameB (c : Nat) : Bool := (decide (97 ≤ c) && decide (c ≤ 122)) || (decide (65 ≤ c) && decide (c ≤ 90)) || (decide (48 ≤ c) && decide (c ≤ 57)) || (decide (c = 46) || decide (c = 45) || decide (c = 95) || decide (c = 47))
def nameB (s : ByteArray) : Bool := s.data.toList.all (fun c => inNameB c.toNat) && (decide (1 ≤ s.size) && decide (s.size ≤ 64))
theorem all_take {s : ByteArray} {k : Nat} (h : k < s.size) : (s.data.toList.take (k + 1)).all (fun c => inNameB c.toNat) = ((s.data.toList.take k).all (fun c => inNameB c.toNat) && inNameB (s[k]).toNat) := by
  have hl : k < s.data.toList.length := by simpa using h
  rw [List.take_add_one, List.getElem?_eq_getElem hl, List.all_append]
  simp
  rfl
def chosenE (n : Int) : Int := if 30 ≤ n ∧ n ≤ 35 then n else 0
def usedN (hs : List HO) : Nat := (hs.filter fun h => !(h.closed || h.stale)).length
def anyE (hs : List HO) (n : Int) : Int := match (if 1 ≤ n then hs[(n - 1).toNat]? else none) with | some h => if h.closed then 30 else 0 | none => 30
def heldE (hs : List HO) (n : Int) (host : Bool) : Int := match (if 1 ≤ n then hs[(n - 1).toNat]? else none) with
  | some h => if h.closed then 30 else if h.file.isNone != host then 30 else if h.stale then 31 else 0
  | none => 30
theorem anyE_ok {hs : List HO} {n : Int} (h : anyE hs n = 0) : 1 ≤ n ∧ ∃ x, hs[(n - 1).toNat]? = some x ∧ x.closed = false := by
  unfold anyE at h
  split at h
  · rename_i x hx
    split at hx
    · rename_i h1
      split at h
      · cases h
      · rename_i h2; exact ⟨h1, x, hx, by simpa using h2⟩
    · cases hx
  · cases h
theorem heldE_ok {hs : List HO} {n : Int} {host : Bool} (h : heldE hs n host = 0) : 1 ≤ n ∧ ∃ x, hs[(n - 1).toNat]? = some x ∧ x.closed = false ∧ x.file.isNone = host ∧ x.stale = false := by
  unfold heldE at h
  split at h
  · rename_i x hx
    split at hx
    · rename_i h1
      split at h
      · cases h
      · rename_i h2
        split at h
        · cases h
        · rename_i h3
          split at h
          · cases h
          · rename_i h4
            exact ⟨h1, x, hx, by simpa using h2, by simpa using h3, by simpa using h4⟩
    · cases hx
  · cases h
theorem usedN_take {hs : List HO} {k : Nat} (h : k < hs.length) : usedN (hs.take (k + 1)) = usedN (hs.take k) + (if hs[k].closed || hs[k].stale then 0 else 1) := by
  unfold usedN
  rw [List.take_add_one, List.getElem?_eq_getElem h, List.filter_append, List.length_append]
  congr 1
  simp only [Option.toList_some, List.filter_cons, List.filter_nil]
  cases hs[k].closed <;> cases hs[k].stale <;> rfl
theorem usedN_le (hs : List HO) : usedN hs ≤ hs.length := List.length_filter_le _ _
theorem hoA_mem {hs : List HO} {i : Nat} {h : HO} (hi : hs[i]? = some h) : ∀ a ∈ hoA h, a ∈ hs.flatMap hoA := fun a ha => List.mem_flatMap.2 ⟨h, List.mem_of_getElem? hi, ha⟩
theorem hoA_cell {hs : List HO} {i j : Nat} {h : HO} {v : Value} (hi : hs[i]? = some h) (hj : (hoEnc h)[j]? = some v) : Atom.cell h.blk j v ∈ hs.flatMap hoA :=
  hoA_mem hi _ (mem_cellsAt.2 ⟨j, v, hj, by simp⟩)
def noCh : Ch := ⟨0, 0, ⟨#[]⟩⟩
def takeC (w : WR) : Ch := if w.dead then noCh else w.choices.headD noCh
def takeL (w : WR) : Bool := !(w.dead || decide ((takeC w).kind = 5))
def Taken (w w1 : WR) : Prop := ∃ cv' csp' cs, cs.length ≤ w.choices.length ∧ cs = (if w.dead then w.choices else w.choices.tail) ∧ IsSl 3 cv' cs.length (cs.flatMap chEnc) csp' ∧ w1 = { w with cv := cv', choices := cs, csp := csp', dead := !takeL w }
def noDe : De := ⟨0, 0, ⟨#[]⟩, ⟨#[]⟩, 0, 0⟩
def DeedP (t : Nat) (w : WR) (d : De) (B : List Atom) (Qd : WR → Ch → Int → De → WR → Prop) (v : Value) (Post : SH) : Prop :=
  ∃ w1, Taken w w1 ∧ ((takeL w = false ∧ v = .tuple #[.agg (deEnc noDe).toArray, vi 36] ∧ Post = WMem t w1 ++ [B]) ∨
    (takeL w = true ∧ ∃ e d' w2 out tv' tsp', Qd w1 (takeC w) e d' w2 ∧ out = (if e = 0 then d' else { d with err := e }) ∧ v = .tuple #[.agg (deEnc out).toArray, vi out.err] ∧
      IsSl 6 tv' (w2.trace.length + 1) (w2.trace.flatMap deEnc ++ deEnc out) tsp' ∧ Post = WMem t { w2 with tv := tv', trace := w2.trace ++ [out], tsp := tsp' } ++ [B]))
def AllVO (K : List RO → Prop) : List (List RO) → Prop
  | [] => True
  | rs :: r => K rs ∧ AllVO K r
theorem AllVO.mem {K : List RO → Prop} : ∀ {rss : List (List RO)}, AllVO K rss → ∀ rs ∈ rss, K rs := by
  intro rss
  induction rss with
  | nil => intro _ rs h; cases h
  | cons a r ih =>
    intro h rs hm
    rcases List.mem_cons.1 hm with rfl | hm
    · exact h.1
    · exact ih h.2 rs hm
theorem VC.draws {P : Program} {n : Nat} {Γ : Env} {H : SH} {Q : Exit → Env → SH → Prop} {rss : List (List RO)} {keep : List Nat} (h : AllVO (fun rs => VO P n rs Γ H (fun _ _ _ => False) fun Γ' H' => Q .normal (restr keep Γ') H') rss) : VC P n (.draw rss keep) Γ H Q := VC.draw h.mem
theorem VC.seq_draws {P : Program} {n : Nat} {Γ : Env} {H : SH} {Q : Exit → Env → SH → Prop} {rss : List (List RO)} {keep : List Nat} {y : IC} {α : Type} (Γf : α → Env) (Hf : α → SH) (I : α → Prop)
    (h : AllVO (fun rs => VO P n rs Γ H (fun _ _ _ => False) fun Γ' H' => ∃ s, I s ∧ Sub (restr keep Γ') (Γf s) ∧ Imp H' (Hf s)) rss) (h2 : ∀ s, I s → VC P n y (Γf s) (Hf s) Q) : VC P n (.seq (.draw rss keep) y) Γ H Q := by
  refine VC.seq (VC.draws ?_)
  have key : ∀ {l : List (List RO)}, AllVO (fun rs => VO P n rs Γ H (fun _ _ _ => False) fun Γ' H' => ∃ s, I s ∧ Sub (restr keep Γ') (Γf s) ∧ Imp H' (Hf s)) l →
      AllVO (fun rs => VO P n rs Γ H (fun _ _ _ => False) fun Γ' H' => VC P n y (restr keep Γ') H' Q) l := by
    intro l
    induction l with
    | nil => intro _; trivial
    | cons a r ih =>
      intro hh
      exact ⟨hh.1.mono (fun Γ' H' ⟨s, i1, i2, i3⟩ => VC.sub i2 (VC.imp i3 (h2 s i1))), ih hh.2⟩
  exact key h
section
variable {P : Program} {n : Nat} {rs : List RO} {Γ : Env} {H : SH} {Z : List PanicEntry → Env → SH → Prop} {K : Env → SH → Prop} {d : Option Nat}
theorem st_gcase {r : R} {s : Nat} {b c : Bool} (hs : look Γ s = some (.bool c)) (ht : c = true → VO P n (⟨d, some (s, b), r⟩ :: rs) ((s, .bool true) :: Γ) H Z K) (hf : c = false → VO P n (⟨d, some (s, b), r⟩ :: rs) ((s, .bool false) :: Γ) H Z K) :
    VO P n (⟨d, some (s, b), r⟩ :: rs) Γ H Z K := st_case hs ht hf
theorem st_pcase {s : Nat} {x y : Operand} {c : Bool} (hs : look Γ s = some (.bool c)) (ht : c = true → VO P n (⟨d, none, .pick (.tmp s) x y⟩ :: rs) ((s, .bool true) :: Γ) H Z K) (hf : c = false → VO P n (⟨d, none, .pick (.tmp s) x y⟩ :: rs) ((s, .bool false) :: Γ) H Z K) :
    VO P n (⟨d, none, .pick (.tmp s) x y⟩ :: rs) Γ H Z K := st_case hs ht hf
end
theorem GOP {R G : Prop} (r : R) (h : Later R → G := by
  intro later
  (first
      | (first
    | (apply st_gt; rfl)
    | (apply st_gf; rfl; rfl)
    | (apply st_gu; rfl)
    | (apply st_mv; rfl)
    | (apply st_nil; rfl)
    | (apply st_pick_t; rfl; rfl)
    | (apply st_pick_f; rfl; rfl)
    | (apply st_fld; rfl; ((try simp only [Nat.zero_add, Nat.add_zero, Nat.reduceAdd, Nat.reduceMul, Nat.add_assoc, Int.toNat_natCast, Nat.mul_one]); rfl))
    | (apply st_load1; rfl; (focus ((repeat (first | (apply Has.cells; omega; rfl) | apply Has.there)); done)))
    | (apply st_load1; rfl; (focus ((repeat (first | (apply Has.among; assumption) | apply Has.there)); done)))
    | (apply st_loadM; rfl; (focus ((repeat (first | (apply HasM.cells; omega; (focus (simp only [List.length_cons, List.length_nil, Nat.reduceAdd, Nat.zero_add, Nat.reduceSub, Nat.sub_self, Nat.reduceLeDiff, Nat.le_refl]; done)); (focus (simp only [lnb, Value.cells, Nat.zero_add, Nat.reduceEqDiff, ↓reduceIte, eq_self, Nat.reduceAdd, Nat.reduceSub, Nat.sub_self, Nat.reduceLeDiff, Nat.le_refl, and_self, rep, zeroRow] <;> rfl)); rfl) | apply HasM.there)); done)))
    | (apply st_extL; rfl; rfl)
    | (apply st_ext; rfl; rfl)
    | (apply st_add; rfl; rfl; omega)
    | (apply st_sub; rfl; rfl; omega)
    | (apply st_mul; rfl; rfl; omega)
    | (apply st_rem; rfl; rfl; decide)
    | (apply st_idxL; rfl; rfl; omega; ((try simp only [Nat.zero_add, Nat.add_zero, Nat.reduceAdd, Nat.reduceMul, Nat.add_assoc, Int.toNat_natCast, Nat.mul_one]); rfl))
    | (apply st_idxA; rfl; rfl; omega; ((try simp only [Nat.zero_add, Nat.add_zero, Nat.reduceAdd, Nat.reduceMul, Nat.add_assoc, Int.toNat_natCast, Nat.mul_one]); rfl))
    | (apply st_build; rfl; (focus (simp only [lnb, Value.cells, Nat.zero_add, Nat.reduceEqDiff, ↓reduceIte, eq_self, Nat.reduceAdd, Nat.reduceSub, Nat.sub_self, Nat.reduceLeDiff, Nat.le_refl, and_self, rep, zeroRow] <;> rfl)))
    | (apply st_store'; rfl; rfl; (focus (simp only [lnb, Value.cells, Nat.zero_add, Nat.reduceEqDiff, ↓reduceIte, eq_self, Nat.reduceAdd, Nat.reduceSub, Nat.sub_self, Nat.reduceLeDiff, Nat.le_refl, and_self, rep, zeroRow] <;> rfl)); rfl; rfl; (focus ((repeat (first | (apply Upd.cells; omega; (focus (simp only [List.length_cons, List.length_nil, Nat.reduceAdd, Nat.zero_add, Nat.reduceSub, Nat.sub_self, Nat.reduceLeDiff, Nat.le_refl]; done)); (focus (simp only [lnb, Value.cells, Nat.zero_add, Nat.reduceEqDiff, ↓reduceIte, eq_self, Nat.reduceAdd, Nat.reduceSub, Nat.sub_self, Nat.reduceLeDiff, Nat.le_refl, and_self, rep, zeroRow] <;> rfl))) | apply Upd.there)); done)))
    | (apply st_pure; rfl; rfl; rfl))
      | (refine VO.nil ?_; simp only [V.argsEnv, V.restr, V.look, V.putE, V.thenQ, V.blockQ, Nat.zero_add, Nat.reduceAdd, Nat.reduceEqDiff, ↓reduceIte, eq_self])
      | refine VC.seq_reg ?_
      | refine VC.seq_draw1 ?_
      | refine VC.seq_seq ?_
      | refine VC.seq_block ?_
      | refine VC.seq_skip ?_
      | refine VC.reg ?_
      | refine VC.draw1 ?_
      | refine VC.block ?_
      | (refine VC.skip ?_; simp only [V.argsEnv, V.restr, V.look, V.putE, V.thenQ, V.blockQ, Nat.zero_add, Nat.reduceAdd, Nat.reduceEqDiff, ↓reduceIte, eq_self])
      | (refine VC.exit ?_; simp only [V.argsEnv, V.restr, V.look, V.putE, V.thenQ, V.blockQ, Nat.zero_add, Nat.reduceAdd, Nat.reduceEqDiff, ↓reduceIte, eq_self])
      | (refine VC.ret ?_; try simp only [V.thenQ, V.blockQ])
      | (apply VC.seq_cond_t; rfl)
      | (apply VC.seq_cond_f; rfl)
      | (apply VC.cond_t; rfl)
      | (apply VC.cond_f; rfl))
  (repeat (first
      | (first
    | (apply st_gt; rfl)
    | (apply st_gf; rfl; rfl)
    | (apply st_gu; rfl)
    | (apply st_mv; rfl)
    | (apply st_nil; rfl)
    | (apply st_pick_t; rfl; rfl)
    | (apply st_pick_f; rfl; rfl)
    | (apply st_fld; rfl; ((try simp only [Nat.zero_add, Nat.add_zero, Nat.reduceAdd, Nat.reduceMul, Nat.add_assoc, Int.toNat_natCast, Nat.mul_one]); rfl))
    | (apply st_load1; rfl; (focus ((repeat (first | (apply Has.cells; omega; rfl) | apply Has.there)); done)))
    | (apply st_load1; rfl; (focus ((repeat (first | (apply Has.among; assumption) | apply Has.there)); done)))
    | (apply st_loadM; rfl; (focus ((repeat (first | (apply HasM.cells; omega; (focus (simp only [List.length_cons, List.length_nil, Nat.reduceAdd, Nat.zero_add, Nat.reduceSub, Nat.sub_self, Nat.reduceLeDiff, Nat.le_refl]; done)); (focus (simp only [lnb, Value.cells, Nat.zero_add, Nat.reduceEqDiff, ↓reduceIte, eq_self, Nat.reduceAdd, Nat.reduceSub, Nat.sub_self, Nat.reduceLeDiff, Nat.le_refl, and_self, rep, zeroRow] <;> rfl)); rfl) | apply HasM.there)); done)))
    | (apply st_extL; rfl; rfl)
    | (apply st_ext; rfl; rfl)
    | (apply st_add; rfl; rfl; omega)
    | (apply st_sub; rfl; rfl; omega)
    | (apply st_mul; rfl; rfl; omega)
    | (apply st_rem; rfl; rfl; decide)
    | (apply st_idxL; rfl; rfl; omega; ((try simp only [Nat.zero_add, Nat.add_zero, Nat.reduceAdd, Nat.reduceMul, Nat.add_assoc, Int.toNat_natCast, Nat.mul_one]); rfl))
    | (apply st_idxA; rfl; rfl; omega; ((try simp only [Nat.zero_add, Nat.add_zero, Nat.reduceAdd, Nat.reduceMul, Nat.add_assoc, Int.toNat_natCast, Nat.mul_one]); rfl))
    | (apply st_build; rfl; (focus (simp only [lnb, Value.cells, Nat.zero_add, Nat.reduceEqDiff, ↓reduceIte, eq_self, Nat.reduceAdd, Nat.reduceSub, Nat.sub_self, Nat.reduceLeDiff, Nat.le_refl, and_self, rep, zeroRow] <;> rfl)))
    | (apply st_store'; rfl; rfl; (focus (simp only [lnb, Value.cells, Nat.zero_add, Nat.reduceEqDiff, ↓reduceIte, eq_self, Nat.reduceAdd, Nat.reduceSub, Nat.sub_self, Nat.reduceLeDiff, Nat.le_refl, and_self, rep, zeroRow] <;> rfl)); rfl; rfl; (focus ((repeat (first | (apply Upd.cells; omega; (focus (simp only [List.length_cons, List.length_nil, Nat.reduceAdd, Nat.zero_add, Nat.reduceSub, Nat.sub_self, Nat.reduceLeDiff, Nat.le_refl]; done)); (focus (simp only [lnb, Value.cells, Nat.zero_add, Nat.reduceEqDiff, ↓reduceIte, eq_self, Nat.reduceAdd, Nat.reduceSub, Nat.sub_self, Nat.reduceLeDiff, Nat.le_refl, and_self, rep, zeroRow] <;> rfl))) | apply Upd.there)); done)))
    | (apply st_pure; rfl; rfl; rfl))
      | (refine VO.nil ?_; simp only [V.argsEnv, V.restr, V.look, V.putE, V.thenQ, V.blockQ, Nat.zero_add, Nat.reduceAdd, Nat.reduceEqDiff, ↓reduceIte, eq_self])
      | refine VC.seq_reg ?_
      | refine VC.seq_draw1 ?_
      | refine VC.seq_seq ?_
      | refine VC.seq_block ?_
      | refine VC.seq_skip ?_
      | refine VC.reg ?_
      | refine VC.draw1 ?_
      | refine VC.block ?_
      | (refine VC.skip ?_; simp only [V.argsEnv, V.restr, V.look, V.putE, V.thenQ, V.blockQ, Nat.zero_add, Nat.reduceAdd, Nat.reduceEqDiff, ↓reduceIte, eq_self])
      | (refine VC.exit ?_; simp only [V.argsEnv, V.restr, V.look, V.putE, V.thenQ, V.blockQ, Nat.zero_add, Nat.reduceAdd, Nat.reduceEqDiff, ↓reduceIte, eq_self])
      | (refine VC.ret ?_; try simp only [V.thenQ, V.blockQ])
      | (apply VC.seq_cond_t; rfl)
      | (apply VC.seq_cond_f; rfl)
      | (apply VC.cond_t; rfl)
      | (apply VC.cond_f; rfl)))
  exact later.out) : G := h ⟨r⟩
end Go.V

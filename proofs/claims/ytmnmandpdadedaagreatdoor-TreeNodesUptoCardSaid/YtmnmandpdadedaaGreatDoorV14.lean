/-
  A tree's form, depth and greatness as the document says them, and that looking at a tree comes to the same.
-/
import Derived.Test.YtmnmandpdadedaaGreatDoorV10
import Derived.Test.YtmnmandpdadedaaGreatDoorV11
import Derived.Test.YtmnmandpdadedaaGreatDoorV6
set_option linter.unusedSimpArgs false
set_option linter.unusedVariables false
namespace Go.V
open Go
def cR (p : Bool) (d : Nat) (m : Bool) : Rs := if p then some (d, m) else none
theorem cR_eq {p q : Bool} {d e : Nat} {m k : Bool} (h : p = q) (h2 : q = true → d = e ∧ m = k) : cR p d m = cR q e k := by
  subst h
  cases p with
  | false => rfl
  | true => obtain ⟨rfl, rfl⟩ := h2 rfl; rfl
theorem mustR_c (b p : Bool) (d : Nat) (m : Bool) : mustR b (cR p d m) = cR (b && p) d m := by cases b <;> cases p <;> rfl
theorem deeper_c (p : Bool) (d : Nat) (m : Bool) : deeper (cR p d m) = cR p (d + 1) m := by cases p <;> rfl
theorem manyR_c (b p : Bool) (d : Nat) (m : Bool) : manyR b (cR p d m) = cR p d (b || m) := by cases p <;> rfl
theorem bothR_c (p q : Bool) (d e : Nat) (m k : Bool) : bothR (cR p d m) (cR q e k) = cR (p && q) (max d e) (m || k) := by cases p <;> cases q <;> rfl
theorem zero_c : (some (0, false) : Rs) = cR true 0 false := rfl
theorem maxR_cons (r : Rs) (l : List Rs) : maxR (r :: l) = bothR r (maxR l) := by
  cases r with
  | none => cases h : maxR l <;> rfl
  | some p => cases h : maxR l <;> simp [maxR, bothR, h]
theorem bothR_zero (r : Rs) : bothR r (some (0, false)) = r := by
  cases r with
  | none => rfl
  | some p => simp [bothR]
theorem zero_bothR (r : Rs) : bothR (some (0, false)) r = r := by
  cases r with
  | none => rfl
  | some p => simp [bothR]
theorem maxR_append (l r : List Rs) : maxR (l ++ r) = bothR (maxR l) (maxR r) := by
  induction l with
  | nil => simp only [List.nil_append, maxR, zero_bothR]
  | cons x l ih =>
    rw [List.cons_append, maxR_cons, maxR_cons, ih]
    cases x <;> cases maxR l <;> cases maxR r <;> simp [bothR, Nat.max_assoc, Bool.or_assoc]
def mx {α : Type} (f : α → Nat) : List α → Nat
  | [] => 0
  | x :: r => max (f x) (mx f r)
theorem mx_le {α : Type} {f : α → Nat} {K : Nat} : ∀ {l : List α}, (∀ x ∈ l, f x ≤ K) → mx f l ≤ K := by
  intro l
  induction l with
  | nil => intro _; exact Nat.zero_le _
  | cons x r ih =>
    intro h
    have h1 := h x (by simp)
    have h2 := ih fun y hy => h y (by simp [hy])
    simp only [mx]; omega
theorem maxR_c {α : Type} {g : α → Rs} {p : α → Bool} {d : α → Nat} {m : α → Bool} : ∀ {l : List α}, (∀ x ∈ l, g x = cR (p x) (d x) (m x)) → maxR (l.map g) = cR (l.all p) (mx d l) (l.any m) := by
  intro l
  induction l with
  | nil => intro _; rfl
  | cons x r ih =>
    intro h
    rw [List.map_cons, maxR_cons, h x (by simp), ih fun y hy => h y (by simp [hy]), bothR_c]
    rfl
mutual
def litDp : Lt → Nat
  | .mk k _ _ _ items => if k = 10 then litDps items + 1 else 0
def litDps : List Lt → Nat
  | [] => 0
  | x :: r => max (litDp x) (litDps r)
end
mutual
def litM : Lt → Bool
  | .mk k _ _ t items => decide (255 < items.length) || (decide (k = 11) && decide (255 < t.size)) || litMs items
def litMs : List Lt → Bool
  | [] => false
  | x :: r => litM x || litMs r
end
theorem litDps_eq : ∀ l : List Lt, litDps l = mx litDp l := by
  intro l
  induction l with
  | nil => rfl
  | cons x r ih => simp only [litDps, mx, ih]
theorem litMs_eq : ∀ l : List Lt, litMs l = l.any litM := by
  intro l
  induction l with
  | nil => rfl
  | cons x r ih => simp only [litMs, List.any_cons, ih]
theorem litD_law : ∀ (N : Nat) (x : Lt), x.size ≤ N → ∀ i, litD x i = cR (litD x i).isSome (litDp x) (litM x) := by
  intro N
  induction N with
  | zero => intro x hx; have := x.size_pos; omega
  | succ N ih =>
    intro x hx i
    cases x with
    | mk k n b t items =>
    simp only [Lt.size] at hx
    have hk : ∀ y ∈ items, litD y true = cR (litD y true).isSome (litDp y) (litM y) := fun y hy => ih y (by have := Lt.sizes_mem hy; omega) true
    have leaf : ∀ (c q : Bool), (c = true → items = [] ∧ k ≠ 10 ∧ q = (decide (k = 11) && decide (255 < t.size))) → mustR c (some (0, q)) = cR (mustR c (some (0, q))).isSome (litDp (.mk k n b t items)) (litM (.mk k n b t items)) := by
      intro c q h
      cases c with
      | false => rfl
      | true =>
        obtain ⟨h1, h2, h3⟩ := h rfl
        subst h1
        simp only [litDp, litM, if_neg h2, litMs, List.length_nil, ← h3]
        simp [mustR, cR]
    simp only [litD]
    split
    · exact leaf _ _ fun h => by simp only [Bool.and_eq_true, decide_eq_true_eq] at h; exact ⟨List.eq_nil_of_length_eq_zero h.2.2.2.2, by omega, by simp; omega⟩
    split
    · exact leaf _ _ fun h => by simp only [decide_eq_true_eq] at h; exact ⟨List.eq_nil_of_length_eq_zero h.2.2.2.2, by omega, by simp; omega⟩
    split
    · exact leaf _ _ fun h => by simp only [Bool.and_eq_true, decide_eq_true_eq] at h; exact ⟨List.eq_nil_of_length_eq_zero h.2.2.2, by omega, by simp; omega⟩
    split
    · exact leaf _ _ fun h => by simp only [decide_eq_true_eq] at h; exact ⟨List.eq_nil_of_length_eq_zero h.2.2.2, by omega, by simp; omega⟩
    split
    · exact leaf _ _ fun h => by simp only [decide_eq_true_eq] at h; exact ⟨List.eq_nil_of_length_eq_zero h.2.2.2.2, by omega, by simp; omega⟩
    split
    · exact leaf _ _ fun h => by simp only [decide_eq_true_eq] at h; exact ⟨List.eq_nil_of_length_eq_zero h.2.2, by omega, by simp; omega⟩
    split
    · rename_i h11
      exact leaf _ _ fun h => by simp only [decide_eq_true_eq] at h; exact ⟨List.eq_nil_of_length_eq_zero h.2.2, by omega, by simp [h11]⟩
    split
    · rename_i h10
      subst h10
      rw [litsD_map, maxR_c hk, manyR_c, deeper_c, mustR_c]
      simp only [litDp, litM, if_pos, litDps_eq, litMs_eq]
      generalize (_ && List.all items _ : Bool) = c
      cases c <;> simp [cR]
    · rfl
theorem litZ_law {l : Lt} (h : litZ l = true) : litDp l = 0 ∧ litM l = false := by
  cases l with
  | mk k n b t items =>
  have h := of_decide_eq_true h
  simp only [Lt.kind, Lt.n, Lt.bits, Lt.text, Lt.items] at h
  obtain ⟨rfl, _, _, _, h5⟩ := h
  obtain rfl := List.eq_nil_of_length_eq_zero h5
  simp [litDp, litM, litMs]
def oneB (k : Nat) (s : ByteArray) (lit : Lt) (args temps : List ByteArray) (m : Nat) : Bool :=
  if k = 1 then (litD lit false).isSome && decide (s.size = 0 ∧ args.length = 0 ∧ temps.length = 0)
  else if k = 2 then nameS s && litZ lit && decide (args.length = 0 ∧ temps.length = 0)
  else if k = 3 then freeS s && litZ lit && decide (args.length = 0 ∧ temps.length = 0)
  else if k = 4 then decide (0 ≤ arityS s) && litZ lit && decide (args.length = 0 ∧ temps.length = 0)
  else if k = 5 then decide (2 < m) && litZ lit && decide (s.size = 0 ∧ args.length = 0 ∧ temps.length = 0)
  else if k = 6 then decide (0 ≤ arityS s) && litZ lit && decide (args.length = 0 ∧ temps.length = 0)
  else if k = 7 then args.all freeS && temps.all freeS && litZ lit && decide (s.size = 0)
  else if k = 8 ∨ k = 9 then litZ lit && decide (s.size = 0 ∧ args.length = 0 ∧ temps.length = 0)
  else false
def cntB (k : Nat) (s : ByteArray) : Int :=
  if k = 3 ∨ k = 9 then 1 else if k = 4 then arityS s + 1 else if k = 6 then arityS s else if k = 5 ∨ k = 7 ∨ k = 8 then -1 else 0
def kidB (k m i : Nat) (x : Nd) : Bool :=
  !(superN x && !(decide (i = 0) && (decide (k = 4) || decide (k = 5)))) && !(decide (x.kind = 9) && !(decide (i + 1 = m) && decide (k = 7))) && (decide (x.kind = 6) == (decide (k = 5) && decide (0 < i)))
mutual
def formN : Nd → Bool
  | .mk k s lit args temps kids _ => oneB k s lit args temps kids.length && !(decide (0 ≤ cntB k s) && decide (cntB k s ≠ kids.length)) && formsN k kids.length 0 kids
def formsN (k m : Nat) : Nat → List Nd → Bool
  | _, [] => true
  | i, x :: r => formN x && kidB k m i x && formsN k m (i + 1) r
end
mutual
def manyN : Nd → Bool
  | .mk k _ lit args temps kids _ => litM lit || decide (15 < args.length) || decide (63 < temps.length) || (decide (k = 4) && decide (16 < kids.length)) || (decide (k = 6) && decide (15 < kids.length)) || (decide (k = 5) && decide (256 < kids.length)) || (decide (k = 8) && decide (255 < kids.length)) || manysN kids
def manysN : List Nd → Bool
  | [] => false
  | x :: r => manyN x || manysN r
end
def asksN (k : Nat) (s : ByteArray) (i : Nat) : Nat :=
  if i = 0 ∧ (k = 4 ∨ k = 5) then (if bindS s = 5 then 5 else 4) else if (k = 4 ∧ 0 < i) ∨ k = 6 then (if bindS s = 4 then 5 else 4) else 1
def brkB (k : Nat) (s : ByteArray) (i : Nat) (x : Nd) : Bool := decide (x.kind ≠ 6) && decide (x.kind ≠ 9) && decide (levelN x < asksN k s i)
def askS (k : Nat) (s : ByteArray) (kids : List Nd) : ByteArray := if k = 5 then (kids.drop 1).head?.elim ⟨#[]⟩ Nd.name else s
mutual
def deepN : Nd → Nat
  | .mk k s lit _ _ kids _ => max (litDp lit) (deepsN k (askS k s kids) 0 kids) + if k = 7 ∨ k = 8 then 1 else 0
def deepsN (k : Nat) (s : ByteArray) : Nat → List Nd → Nat
  | _, [] => 0
  | i, x :: r => max (deepN x + if brkB k s i x then 1 else 0) (deepsN k s (i + 1) r)
end
theorem manysN_eq : ∀ l : List Nd, manysN l = l.any manyN := by
  intro l
  induction l with
  | nil => rfl
  | cons x r ih => simp only [manysN, List.any_cons, ih]
def kidP (x : Nd) : Bool := !superN x && decide (x.kind ≠ 9 ∧ x.kind ≠ 6)
theorem super_kind {x : Nd} (h : superN x = true) : x.kind = 2 := by
  simp only [superN, Bool.and_eq_true, decide_eq_true_eq] at h
  exact h.1
theorem kidB_any {k m i : Nat} {x : Nd} (h4 : ¬(i = 0 ∧ (k = 4 ∨ k = 5))) (h5 : ¬(k = 5 ∧ 0 < i)) (h7 : ¬(k = 7 ∧ i + 1 = m)) : kidB k m i x = kidP x := by
  have e1 : (decide (i = 0) && (decide (k = 4) || decide (k = 5))) = false := by
    rw [Bool.eq_false_iff]; intro h; simp at h; exact h4 h
  have e2 : (decide (k = 5) && decide (0 < i)) = false := by
    rw [Bool.eq_false_iff]; intro h; simp only [Bool.and_eq_true, decide_eq_true_eq] at h; exact h5 h
  have e3 : (decide (i + 1 = m) && decide (k = 7)) = false := by
    rw [Bool.eq_false_iff]; intro h; simp only [Bool.and_eq_true, decide_eq_true_eq] at h; exact h7 ⟨h.2, h.1⟩
  simp only [kidB, kidP, e1, e2, e3]
  by_cases a : x.kind = 9 <;> by_cases b : x.kind = 6 <;> cases superN x <;> simp [a, b]
theorem levelN_pos (x : Nd) : 1 ≤ levelN x := by
  unfold levelN bindS
  repeat' split
  all_goals omega
theorem valueR_c {x : Nd} {p : Nat} {f m : Bool} {d : Nat} : valueR x p (cR f d m) = cR (f && kidP x) (d + if levelN x < p then 1 else 0) m := by
  unfold valueR partR kidP
  by_cases hl : levelN x < p
  · rw [if_pos hl, if_pos hl, deeper_c, mustR_c, mustR_c]
    congr 1
    cases f <;> cases superN x <;> simp
  · rw [if_neg hl, if_neg hl, mustR_c, mustR_c]
    congr 1
    cases f <;> cases superN x <;> simp
theorem formsN_any {k m : Nat} : ∀ {l : List Nd} {i : Nat}, (∀ j x, l[j]? = some x → kidB k m (i + j) x = kidP x) → formsN k m i l = l.all fun x => formN x && kidP x := by
  intro l
  induction l with
  | nil => intro i _; rfl
  | cons x r ih =>
    intro i h
    have h0 := h 0 x rfl
    rw [Nat.add_zero] at h0
    simp only [formsN, List.all_cons, h0]
    rw [ih (i := i + 1) fun j y hy => by rw [Nat.add_assoc, Nat.add_comm 1 j]; exact h (j + 1) y hy]
theorem deepsN_any {k : Nat} {s : ByteArray} {p : Nat} : ∀ {l : List Nd} {i : Nat}, (∀ j x, l[j]? = some x → kidP x = true ∧ asksN k s (i + j) = p) → deepsN k s i l = mx (fun x => deepN x + if levelN x < p then 1 else 0) l := by
  intro l
  induction l with
  | nil => intro i _; rfl
  | cons x r ih =>
    intro i h
    obtain ⟨h0, h1⟩ := h 0 x rfl
    rw [Nat.add_zero] at h1
    simp only [kidP, Bool.and_eq_true, decide_eq_true_eq] at h0
    simp only [deepsN, mx, brkB, h1]
    rw [ih (i := i + 1) fun j y hy => by rw [Nat.add_assoc, Nat.add_comm 1 j]; exact h (j + 1) y hy]
    simp [h0.2.1, h0.2.2]
theorem formsN_append {k m : Nat} : ∀ {l r : List Nd} {i : Nat}, formsN k m i (l ++ r) = (formsN k m i l && formsN k m (i + l.length) r) := by
  intro l
  induction l with
  | nil => intro r i; simp [formsN]
  | cons x l ih =>
    intro r i
    simp only [List.cons_append, formsN, ih, List.length_cons]
    rw [show i + 1 + l.length = i + (l.length + 1) by omega]
    simp only [Bool.and_assoc]
theorem deepsN_append {k : Nat} {s : ByteArray} : ∀ {l r : List Nd} {i : Nat}, deepsN k s i (l ++ r) = max (deepsN k s i l) (deepsN k s (i + l.length) r) := by
  intro l
  induction l with
  | nil => intro r i; simp [deepsN]
  | cons x l ih =>
    intro r i
    simp only [List.cons_append, deepsN, ih, List.length_cons]
    rw [show i + 1 + l.length = i + (l.length + 1) by omega, Nat.max_assoc]
theorem lastB {l : List Nd} (h : l ≠ []) : ∃ r x, l = r ++ [x] := ⟨l.dropLast, l.getLast h, (List.dropLast_concat_getLast h).symm⟩
theorem recv_asks (s : ByteArray) : recvS s = if bindS s = 5 then 5 else 4 := by
  unfold recvS bindS
  repeat' split
  all_goals omega
theorem super_level {x : Nd} (h : superN x = true) : levelN x = 6 := by
  have := super_kind h
  simp [levelN, this]
theorem firstR_c {x : Nd} {s : ByteArray} {f m : Bool} {d : Nat} : firstR x s (cR f d m) = cR (f && decide (x.kind ≠ 9 ∧ x.kind ≠ 6)) (d + if levelN x < recvS s then 1 else 0) m := by
  unfold firstR
  by_cases h : superN x = true
  · rw [if_pos h]
    have hk := super_kind h
    have hl := super_level h
    have : ¬ levelN x < recvS s := by
      rw [hl, recv_asks]; split <;> omega
    rw [if_neg this]
    simp [hk]
  · rw [if_neg h, valueR_c]
    simp only [Bool.not_eq_true] at h
    simp [kidP, h]
theorem kidB_first {k m : Nat} (hk : k = 4 ∨ k = 5) (x : Nd) : kidB k m 0 x = decide (x.kind ≠ 9 ∧ x.kind ≠ 6) := by
  unfold kidB
  have h7 : decide (k = 7) = false := decide_eq_false (by omega)
  rw [h7]
  have h45 : (decide (k = 4) || decide (k = 5)) = true := by simp; exact hk
  rw [h45]
  by_cases a : x.kind = 9 <;> by_cases b : x.kind = 6 <;> simp [a, b]
theorem nodeD_law : ∀ (N : Nat) (x : Nd), x.w ≤ N → nodeD x = cR (formN x) (deepN x) (manyN x) := by
  intro N
  induction N with
  | zero => intro x hx; have := x.w_pos; omega
  | succ N ih =>
    intro x hx
    cases x with
    | mk k s lit args temps kids p =>
    simp only [Nd.w] at hx
    have hk : ∀ y ∈ kids, nodeD y = cR (formN y) (deepN y) (manyN y) := fun y hy => ih y (by have := Nd.ws_mem hy; omega)
    have hv : ∀ (l : List Nd) (pl : Nat), (∀ y ∈ l, y ∈ kids) → maxR (valuesR pl l (l.map nodeD)) = cR (l.all fun x => formN x && kidP x) (mx (fun x => deepN x + if levelN x < pl then 1 else 0) l) (l.any manyN) := fun l pl hl => by
      rw [valuesR_map]
      exact maxR_c fun x hx => by rw [hk x (hl x hx), valueR_c]
    have kp : ∀ {l : List Nd}, (l.all fun x => formN x && kidP x) = true → ∀ x ∈ l, kidP x = true := fun {l} h x hx => by
      have := List.all_eq_true.1 h x hx
      simp only [Bool.and_eq_true] at this
      exact this.2
    have l1 : ∀ x : Nd, (if levelN x < 1 then 1 else 0) = 0 := fun x => if_neg (by have := levelN_pos x; omega)
    have one : ∀ (h3 : k = 3 ∨ k = 9) (y : Nd), kids = [y] → formsN k 1 0 kids = (formN y && kidP y) ∧ (kidP y = true → deepsN k (askS k s kids) 0 kids = deepN y) := by
      rintro h3 y rfl
      constructor
      · simp only [formsN, Bool.and_true]
        rw [kidB_any (by omega) (by omega) (by omega)]
      · intro hy
        rw [deepsN_any (p := 1) (fun j x hx => ?_)]
        · simp only [mx, l1]; omega
        · cases j with
          | zero => cases hx; exact ⟨hy, by unfold asksN; rw [if_neg (by omega), if_neg (by omega)]⟩
          | succ j => simp at hx
    have cb : ∀ (b c m : Bool) (d : Nat), 0 ≤ cntB k s → cntB k s ≠ kids.length → cR (b && !(decide (0 ≤ cntB k s) && decide (cntB k s ≠ kids.length)) && c) d m = none := fun b c m d h1 h2 => by
      rw [decide_eq_true h1, decide_eq_true h2]; cases b <;> rfl
    have cg : ¬(0 ≤ cntB k s ∧ cntB k s ≠ kids.length) → (!(decide (0 ≤ cntB k s) && decide (cntB k s ≠ kids.length))) = true := fun h => by
      rw [Bool.not_eq_true', Bool.and_eq_false_iff]
      simp only [decide_eq_false_iff_not]
      omega
    have mn : ∀ (c : Bool) (r : Rs), c = false → mustR c r = none := fun c r h => by subst h; rfl
    simp only [nodeD, nodesD_map, nodeR]
    simp only [formN, manyN, deepN, manysN_eq]
    by_cases h1 : k = 1
    · subst h1
      rw [if_pos rfl, litD_law _ lit (Nat.le_refl _) false, mustR_c]
      cases kids with
      | nil =>
        rw [cg (by simp [cntB])]
        refine cR_eq (by simp [oneB, formsN]; cases (litD lit false).isSome <;> simp) (fun h => ?_)
        simp only [oneB, if_true, Bool.and_eq_true, decide_eq_true_eq] at h
        simp [deepsN, h.1.1.2.2.1, h.1.1.2.2.2]
      | cons y r =>
        rw [cb _ _ _ _ (by simp [cntB]) (by simp [cntB]; omega)]
        simp [cR]
    rw [if_neg h1]
    by_cases h2 : k = 2
    · subst h2
      rw [if_pos rfl, zero_c, mustR_c]
      cases kids with
      | nil =>
        rw [cg (by simp [cntB])]
        refine cR_eq (by simp [oneB, formsN]; cases nameS s <;> cases litZ lit <;> simp) (fun h => ?_)
        simp only [oneB, show ¬ (2 : Nat) = 1 by omega, if_false, if_true, Bool.and_eq_true, decide_eq_true_eq] at h
        obtain ⟨g1, g2⟩ := litZ_law h.1.1.1.2
        simp [deepsN, h.1.1.2.1, h.1.1.2.2, g1, g2]
      | cons y r =>
        rw [cb _ _ _ _ (by simp [cntB]) (by simp [cntB]; omega)]
        simp [cR]
    rw [if_neg h2]
    by_cases h3 : k = 3
    · subst h3
      rw [if_pos rfl]
      rcases kids with _ | ⟨y, _ | ⟨z, r⟩⟩
      · rw [cb _ _ _ _ (by simp [cntB]) (by simp [cntB])]
        simp [mustR]
      · obtain ⟨o1, o2⟩ := one (.inl rfl) y rfl
        rw [cg (by simp [cntB])]
        show mustR _ (valueR y 1 (nodeD y)) = _
        rw [hk y (by simp), valueR_c, l1, mustR_c, show formsN 3 [y].length 0 [y] = (formN y && kidP y) from o1]
        refine cR_eq ?_ (fun h => ?_)
        · simp [oneB]
          cases formN y && kidP y <;> cases litZ lit <;> cases freeS s <;> simp
        · simp only [oneB, show ¬ (3 : Nat) = 1 by omega, show ¬ (3 : Nat) = 2 by omega, if_false, if_true, Bool.and_eq_true, decide_eq_true_eq] at h
          obtain ⟨g1, g2⟩ := litZ_law h.1.1.1.2
          rw [o2 h.2.2]
          simp [h.1.1.2.1, h.1.1.2.2, g1, g2]
      · rw [cb _ _ _ _ (by simp [cntB]) (by simp [cntB]; omega)]
        simp [mustR]
    rw [if_neg h3]
    by_cases h4 : k = 4
    · subst h4
      rw [if_pos rfl]
      rcases kids with _ | ⟨y, l⟩
      · by_cases ha : 0 ≤ arityS s
        · rw [cb _ _ _ _ (by simp [cntB]; omega) (by simp [cntB]; omega)]
          simp [mustR]
        · rw [mn _ _ (by simp [ha])]
          simp [oneB, ha, cR]
      · have hrest : formsN 4 (y :: l).length 1 l = l.all fun x => formN x && kidP x := formsN_any fun j x _ => kidB_any (by omega) (by omega) (by omega)
        show mustR _ (bothR (firstR y s (nodeD y)) (argsR s l (l.map nodeD))) = _
        rw [hk y (by simp), firstR_c, argsR, hv l (argS s) fun z hz => by simp [hz], manyR_c, mustR_c, bothR_c, mustR_c]
        have ce : cntB 4 s = arityS s + 1 := by simp [cntB]
        rw [ce]
        have hrest' : formsN 4 (l.length + 1) (0 + 1) l = l.all fun x => formN x && kidP x := hrest
        refine cR_eq ?_ (fun h => ?_)
        · simp only [formsN, hrest, kidB_first (.inl rfl), oneB, List.length_cons, hrest', Int.natCast_add, Int.natCast_one]
          simp only [show ¬ (4 : Nat) = 1 by omega, show ¬ (4 : Nat) = 2 by omega, show ¬ (4 : Nat) = 3 by omega, show ¬ ((4 : Nat) = 3 ∨ (4 : Nat) = 9) by omega, if_false, if_true, List.length_cons]
          rw [Bool.eq_iff_iff]
          simp only [Bool.and_eq_true, Bool.not_eq_true', Bool.and_eq_false_iff, decide_eq_true_eq, decide_eq_false_iff_not]
          constructor
          · rintro ⟨⟨⟨⟨a1, a2⟩, a3⟩, a4⟩, ⟨a5, a6⟩, a7, a8⟩
            exact ⟨⟨⟨⟨a4, a3⟩, a1, a2⟩, .inr (by omega)⟩, ⟨a5, a6⟩, a8⟩
          · rintro ⟨⟨⟨⟨a4, a3⟩, a1, a2⟩, a7⟩, ⟨a5, a6⟩, a8⟩
            exact ⟨⟨⟨⟨a1, a2⟩, a3⟩, a4⟩, ⟨a5, a6⟩, by omega, a8⟩
        · simp only [formsN, hrest, List.length_cons, hrest', oneB, show ¬ (4 : Nat) = 1 by omega, show ¬ (4 : Nat) = 2 by omega, show ¬ (4 : Nat) = 3 by omega, show ¬ ((4 : Nat) = 3 ∨ (4 : Nat) = 9) by omega, if_false, if_true, List.length_cons, Bool.and_eq_true, decide_eq_true_eq, Bool.not_eq_true', Bool.and_eq_false_iff, decide_eq_false_iff_not] at h
          obtain ⟨g1, g2⟩ := litZ_law h.1.1.1.2
          obtain ⟨⟨⟨⟨c1, c2⟩, c3, c4⟩, c5⟩, ⟨c6, c7⟩, c8⟩ := h
          have hkp := kp c8
          have hal : (l.length : Int) = arityS s := by omega
          rw [kidB_first (.inl rfl)] at c7
          simp only [decide_eq_true_eq] at c7
          have hd : deepsN 4 s 1 l = mx (fun x => deepN x + if levelN x < argS s then 1 else 0) l := deepsN_any fun j x hx => ⟨hkp x (List.mem_of_getElem? hx), by unfold asksN argS; rw [if_neg (by omega), if_pos (by omega)]⟩
          simp only [deepsN, askS, show ¬ (4 : Nat) = 5 by omega, if_false, hd, g1, g2, c3, c4, List.any_cons]
          constructor
          · have : brkB 4 s 0 y = decide (levelN y < recvS s) := by
              simp [brkB, c7.1, c7.2, asksN, recv_asks]
            rw [this]
            simp
          · have e1 : decide (15 < arityS s) = decide (16 < (y :: l).length) := by
              rw [Bool.eq_iff_iff, decide_eq_true_eq, decide_eq_true_eq, List.length_cons]; omega
            rw [e1]
            cases manyN y <;> simp
    rw [if_neg h4]
    by_cases h6 : k = 6
    · subst h6
      have hrest : formsN 6 kids.length 0 kids = kids.all fun x => formN x && kidP x := formsN_any fun j x _ => kidB_any (by omega) (by omega) (by omega)
      rw [if_pos rfl, argsR, hv kids (argS s) fun z hz => hz, manyR_c, mustR_c, mustR_c]
      have ce : cntB 6 s = arityS s := by simp [cntB]
      rw [ce]
      refine cR_eq ?_ (fun h => ?_)
      · simp only [hrest, oneB, show ¬ (6 : Nat) = 1 by omega, show ¬ (6 : Nat) = 2 by omega, show ¬ (6 : Nat) = 3 by omega, show ¬ (6 : Nat) = 4 by omega, show ¬ (6 : Nat) = 5 by omega, show ¬ ((6 : Nat) = 3 ∨ (6 : Nat) = 9) by omega, if_false, if_true]
        rw [Bool.eq_iff_iff]
        simp only [Bool.and_eq_true, Bool.not_eq_true', Bool.and_eq_false_iff, decide_eq_true_eq, decide_eq_false_iff_not]
        constructor
        · rintro ⟨⟨⟨a1, a2⟩, a3⟩, a4, a5⟩
          exact ⟨⟨⟨⟨by omega, a3⟩, a1, a2⟩, .inr (by omega)⟩, a5⟩
        · rintro ⟨⟨⟨⟨a4, a3⟩, a1, a2⟩, a6⟩, a5⟩
          exact ⟨⟨⟨a1, a2⟩, a3⟩, by omega, a5⟩
      · simp only [hrest, oneB, show ¬ (6 : Nat) = 1 by omega, show ¬ (6 : Nat) = 2 by omega, show ¬ (6 : Nat) = 3 by omega, show ¬ (6 : Nat) = 4 by omega, show ¬ (6 : Nat) = 5 by omega, show ¬ ((6 : Nat) = 3 ∨ (6 : Nat) = 9) by omega, if_false, if_true, Bool.and_eq_true, decide_eq_true_eq, Bool.not_eq_true', Bool.and_eq_false_iff, decide_eq_false_iff_not] at h
        obtain ⟨⟨⟨⟨c1, c2⟩, c3, c4⟩, c5⟩, c8⟩ := h
        obtain ⟨g1, g2⟩ := litZ_law c2
        have hkp := kp c8
        have hd : deepsN 6 s 0 kids = mx (fun x => deepN x + if levelN x < argS s then 1 else 0) kids := deepsN_any fun j x hx => ⟨hkp x (List.mem_of_getElem? hx), by unfold asksN argS; rw [if_neg (by omega), if_pos (by omega)]⟩
        have e1 : decide (15 < arityS s) = decide (15 < kids.length) := by
          rw [Bool.eq_iff_iff, decide_eq_true_eq, decide_eq_true_eq]; omega
        simp only [askS, show ¬ (6 : Nat) = 5 by omega, if_false, hd, g1, g2, c3, c4, e1]
        simp
    rw [if_neg h6]
    by_cases h5 : k = 5
    · subst h5
      rw [if_pos rfl]
      rcases kids with _ | ⟨y, _ | ⟨z, l⟩⟩
      · rw [mn _ _ (by simp)]
        simp [oneB, cR]
      · rw [mn _ _ (by simp)]
        simp [oneB, cR]
      · have hfk : ∀ {r : List Nd} {i : Nat}, 0 < i → formsN 5 (y :: z :: l).length i r = r.all fun x => formN x && decide (x.kind = 6) := by
          intro r
          induction r with
          | nil => intro i _; rfl
          | cons u r ihr =>
            intro i hi
            simp only [formsN, List.all_cons, ihr (i := i + 1) (by omega)]
            congr 2
            have hs : superN u = true → u.kind = 2 := super_kind
            unfold kidB
            rw [decide_eq_false (show ¬ i = 0 by omega), decide_eq_true hi]
            by_cases h6 : u.kind = 6
            · have : superN u = false := by rw [Bool.eq_false_iff]; intro h; have := hs h; omega
              simp [h6, this]
            · simp [h6]
        have hmsg : maxR (msgsR (z :: l) ((z :: l).map nodeD)) = cR ((z :: l).all fun x => formN x && decide (x.kind = 6)) (mx deepN (z :: l)) ((z :: l).any manyN) := by
          rw [msgsR_map]
          exact maxR_c fun x hx => by rw [hk x (by simp only [List.mem_cons] at hx ⊢; exact .inr hx), mustR_c, Bool.and_comm]
        show mustR _ (manyR _ (bothR (maxR (msgsR (z :: l) ((z :: l).map nodeD))) (firstR y z.name (nodeD y)))) = _
        rw [hmsg, hk y (by simp), firstR_c, bothR_c, manyR_c, mustR_c]
        have hf1 := hfk (r := z :: l) (i := 1) (by omega)
        rw [cg (by simp [cntB])]
        refine cR_eq ?_ (fun h => ?_)
        · rw [formsN, hf1]
          simp only [kidB_first (.inr rfl), oneB]
          simp only [show ¬ (5 : Nat) = 1 by omega, show ¬ (5 : Nat) = 2 by omega, show ¬ (5 : Nat) = 3 by omega, show ¬ (5 : Nat) = 4 by omega, show ¬ (5 : Nat) = 6 by omega, show ¬ ((5 : Nat) = 3 ∨ (5 : Nat) = 9) by omega, if_false, if_true]
          rw [Bool.eq_iff_iff]
          simp only [Bool.and_eq_true, Bool.not_eq_true', Bool.and_eq_false_iff, decide_eq_true_eq, decide_eq_false_iff_not]
          constructor
          · rintro ⟨⟨⟨a1, a2, a3, a4⟩, a5⟩, a6, a7, a8⟩
            exact ⟨⟨⟨⟨a4, a5⟩, a1, a2, a3⟩, trivial⟩, ⟨a7, a8⟩, a6⟩
          · rintro ⟨⟨⟨⟨a4, a5⟩, a1, a2, a3⟩, _⟩, ⟨a7, a8⟩, a6⟩
            exact ⟨⟨⟨a1, a2, a3, a4⟩, a5⟩, a6, a7, a8⟩
        · rw [formsN, hf1] at h
          simp only [oneB, kidB_first (.inr rfl), show ¬ (5 : Nat) = 1 by omega, show ¬ (5 : Nat) = 2 by omega, show ¬ (5 : Nat) = 3 by omega, show ¬ (5 : Nat) = 4 by omega, if_false, if_true, Bool.and_eq_true, decide_eq_true_eq] at h
          obtain ⟨⟨⟨⟨c1, c2⟩, c0, c3, c4⟩, c5⟩, ⟨c6, c7⟩, c8⟩ := h
          obtain ⟨g1, g2⟩ := litZ_law c2
          have h6 : ∀ x ∈ z :: l, x.kind = 6 := fun x hx => by
            have := List.all_eq_true.1 c8 x hx
            simp only [Bool.and_eq_true, decide_eq_true_eq] at this
            exact this.2
          have hd : ∀ {r : List Nd} {i : Nat} {q : ByteArray}, (∀ x ∈ r, x.kind = 6) → deepsN 5 q i r = mx deepN r := by
            intro r
            induction r with
            | nil => intro i q _; rfl
            | cons u r ihr =>
              intro i q hr
              simp only [deepsN, mx, ihr fun x hx => hr x (by simp [hx])]
              simp [brkB, hr u (by simp)]
          have hbr : brkB 5 z.name 0 y = decide (levelN y < recvS z.name) := by
            simp [brkB, c7.1, c7.2, asksN, recv_asks]
          have hask : askS 5 s (y :: z :: l) = z.name := rfl
          rw [hask]
          rw [deepsN, hd h6, hbr]
          simp only [g1, g2, c3, c4, List.any_cons]
          constructor
          · simp [Nat.max_comm]
          · cases manyN y <;> simp
    rw [if_neg h5]
    by_cases h7 : k = 7
    · subst h7
      rw [if_pos rfl]
      have hst : maxR (stmtsR kids (kids.map nodeD)) = cR (formsN 7 kids.length 0 kids) (deepsN 7 s 0 kids) (kids.any manyN) := by
        rcases (Classical.em (kids = [])).imp_right lastB with rfl | ⟨l, x, rfl⟩
        · rfl
        · have hl := hv l 1 (fun z hz => by simp [hz])
          rw [valuesR_map] at hl
          have hfl : formsN 7 (l ++ [x]).length 0 l = l.all fun x => formN x && kidP x := formsN_any fun j y hy => kidB_any (by omega) (by omega) (by
            have := (List.getElem?_eq_some_iff.1 hy).1
            rw [List.length_append, List.length_singleton]; omega)
          have hx1 : (if x.kind = 9 then nodeD x else valueR x 1 (nodeD x)) = cR (formN x && kidB 7 (l ++ [x]).length (0 + l.length) x) (deepN x) (manyN x) := by
            rw [hk x (by simp)]
            have hkb : kidB 7 (l ++ [x]).length (0 + l.length) x = (!superN x && decide (x.kind ≠ 6)) := by
              unfold kidB
              rw [decide_eq_true (show 0 + l.length + 1 = (l ++ [x]).length by simp)]
              by_cases h6 : x.kind = 6 <;> simp [h6]
            rw [hkb]
            by_cases h9 : x.kind = 9
            · rw [if_pos h9]
              have : superN x = false := by rw [Bool.eq_false_iff]; intro h; have := super_kind h; omega
              simp [this, h9]
            · rw [if_neg h9, valueR_c, l1]
              congr 1
              simp [kidP, h9]
          rw [stmtsR_snoc, maxR_append, hl, maxR_cons, hx1, show maxR [] = some (0, false) from rfl, bothR_zero, bothR_c]
          rw [formsN_append, deepsN_append, hfl]
          refine cR_eq ?_ (fun h => ?_)
          · simp [formsN]
          · have hal : (l.all fun x => formN x && kidP x) = true := by
              rw [Bool.and_eq_true] at h; exact h.1
            have hkp := kp hal
            have hfin : formN x && kidB 7 (l ++ [x]).length (0 + l.length) x = true := by
              simp only [formsN, Bool.and_true, Bool.and_eq_true] at h ⊢
              exact ⟨h.2.1, by simpa using h.2.2⟩
            have hd : deepsN 7 s 0 l = mx (fun x => deepN x + if levelN x < 1 then 1 else 0) l := deepsN_any fun j y hy => ⟨hkp y (List.mem_of_getElem? hy), by unfold asksN; rw [if_neg (by omega), if_neg (by omega)]⟩
            have hb : brkB 7 s (0 + l.length) x = false := by
              unfold brkB asksN
              rw [if_neg (by omega), if_neg (by omega), decide_eq_false (show ¬ levelN x < 1 by have := levelN_pos x; omega)]
              simp
            simp only [hd, deepsN, hb]
            simp
      unfold namesR
      rw [hst, deeper_c, manyR_c, mustR_c, manyR_c, mustR_c, mustR_c]
      refine cR_eq ?_ (fun h => ?_)
      · rw [cg (by simp [cntB])]
        simp only [oneB, show ¬ (7 : Nat) = 1 by omega, show ¬ (7 : Nat) = 2 by omega, show ¬ (7 : Nat) = 3 by omega, show ¬ (7 : Nat) = 4 by omega, show ¬ (7 : Nat) = 5 by omega, show ¬ (7 : Nat) = 6 by omega, if_false, if_true]
        cases args.all freeS <;> cases temps.all freeS <;> cases litZ lit <;> cases decide (s.size = 0) <;> simp
      · simp only [oneB, show ¬ (7 : Nat) = 1 by omega, show ¬ (7 : Nat) = 2 by omega, show ¬ (7 : Nat) = 3 by omega, show ¬ (7 : Nat) = 4 by omega, show ¬ (7 : Nat) = 5 by omega, show ¬ (7 : Nat) = 6 by omega, if_false, if_true, Bool.and_eq_true, decide_eq_true_eq] at h
        obtain ⟨⟨⟨⟨c1, c2⟩, c3⟩, c4⟩, c5⟩ := h
        obtain ⟨g1, g2⟩ := litZ_law c2
        simp only [askS, show ¬ (7 : Nat) = 5 by omega, if_false, g1, g2]
        refine ⟨by simp, ?_⟩
        cases kids.any manyN <;> cases decide (15 < args.length) <;> cases decide (63 < temps.length) <;> rfl
    rw [if_neg h7]
    by_cases h8 : k = 8
    · subst h8
      have hrest : formsN 8 kids.length 0 kids = kids.all fun x => formN x && kidP x := formsN_any fun j x _ => kidB_any (by omega) (by omega) (by omega)
      rw [if_pos rfl, hv kids 1 fun z hz => hz, manyR_c, deeper_c, mustR_c, cg (by simp [cntB])]
      refine cR_eq ?_ (fun h => ?_)
      · simp only [hrest, oneB, show ¬ (8 : Nat) = 1 by omega, show ¬ (8 : Nat) = 2 by omega, show ¬ (8 : Nat) = 3 by omega, show ¬ (8 : Nat) = 4 by omega, show ¬ (8 : Nat) = 5 by omega, show ¬ (8 : Nat) = 6 by omega, show ¬ (8 : Nat) = 7 by omega, if_false, true_or, if_true]
        cases litZ lit <;> simp
      · simp only [hrest, oneB, show ¬ (8 : Nat) = 1 by omega, show ¬ (8 : Nat) = 2 by omega, show ¬ (8 : Nat) = 3 by omega, show ¬ (8 : Nat) = 4 by omega, show ¬ (8 : Nat) = 5 by omega, show ¬ (8 : Nat) = 6 by omega, show ¬ (8 : Nat) = 7 by omega, if_false, true_or, if_true, Bool.and_eq_true, decide_eq_true_eq] at h
        obtain ⟨⟨⟨c1, c2, c3, c4⟩, c5⟩, c8⟩ := h
        obtain ⟨g1, g2⟩ := litZ_law c1
        have hkp := kp (l := kids) (List.all_eq_true.2 fun x hx => by simpa using List.all_eq_true.1 c8 x hx)
        have hd : deepsN 8 s 0 kids = mx (fun x => deepN x + if levelN x < 1 then 1 else 0) kids := deepsN_any fun j x hx => ⟨hkp x (List.mem_of_getElem? hx), by unfold asksN; rw [if_neg (by omega), if_neg (by omega)]⟩
        simp only [askS, show ¬ (8 : Nat) = 5 by omega, if_false, hd, g1, g2, c3, c4]
        simp
    rw [if_neg h8]
    by_cases h9 : k = 9
    · subst h9
      rw [if_pos rfl]
      rcases kids with _ | ⟨y, _ | ⟨z, r⟩⟩
      · rw [cb _ _ _ _ (by simp [cntB]) (by simp [cntB])]
        simp [mustR]
      · obtain ⟨o1, o2⟩ := one (.inr rfl) y rfl
        rw [cg (by simp [cntB])]
        show mustR _ (valueR y 1 (nodeD y)) = _
        rw [hk y (by simp), valueR_c, l1, mustR_c, show formsN 9 [y].length 0 [y] = (formN y && kidP y) from o1]
        refine cR_eq ?_ (fun h => ?_)
        · simp [oneB]
          cases formN y && kidP y <;> cases litZ lit <;> simp
        · simp only [oneB, show ¬ (9 : Nat) = 1 by omega, show ¬ (9 : Nat) = 2 by omega, show ¬ (9 : Nat) = 3 by omega, show ¬ (9 : Nat) = 4 by omega, show ¬ (9 : Nat) = 5 by omega, show ¬ (9 : Nat) = 6 by omega, show ¬ (9 : Nat) = 7 by omega, if_false, or_true, if_true, Bool.and_eq_true, decide_eq_true_eq] at h
          obtain ⟨⟨⟨c1, c2, c3, c4⟩, c5⟩, c6, c7⟩ := h
          obtain ⟨g1, g2⟩ := litZ_law c1
          rw [o2 c7]
          simp [g1, g2, c3, c4]
      · rw [cb _ _ _ _ (by simp [cntB]) (by simp [cntB]; omega)]
        simp [mustR]
    rw [if_neg h9]
    simp [oneB, cR, h1, h2, h3, h4, h5, h6, h7, h8, h9]
theorem wpR_append {P : Program} {Z : Exit → Act → World → Prop} {Q : Act → World → Prop} {l m : List (RO × Oper)} : ∀ {a w}, wpR P Z (fun a w => wpR P Z Q m a w) l a w → wpR P Z Q (l ++ m) a w := by
  induction l with
  | nil => intro a w h; exact h
  | cons x l ih =>
    intro a w h
    have key : wpR P Z (fun a w => wpR P Z Q m a w) (x :: l) = wpR1 P Z x (wpR P Z (fun a w => wpR P Z Q m a w) l) := by funext a w; rfl
    show wpR1 P Z x (wpR P Z Q (l ++ m)) a w
    have h2 : wpR1 P Z x (wpR P Z (fun a w => wpR P Z Q m a w) l) a w := h
    have h3 : wpR P Z (wpR P Z Q (l ++ m)) [x] a w := wpR_mono (l := [x]) (Q := wpR P Z (fun a w => wpR P Z Q m a w) l) (fun a w g => ih g) h2
    exact h3
section
variable {P : Program} {n : Nat} {rs l1 l2 : List RO} {Γ : Env} {H : SH} {Z : List PanicEntry → Env → SH → Prop} {K : Env → SH → Prop}
theorem VO.app (h : VO P n l1 Γ H Z (fun Γ' H' => VO P n l2 Γ' H' Z K)) : VO P n (l1 ++ l2) Γ H Z K := by
  intro l hl a w F ZZ Q ha hs hq hz
  obtain ⟨hl1, hl2⟩ := hl
  obtain ⟨p, q, rfl, hp, hq2⟩ := List.map_eq_append_iff.1 hl1
  refine wpR_append (h p ⟨hp, fun x hx => hl2 x (List.mem_append_left _ hx)⟩ a w F ZZ _ ha hs (fun a' w' Γ' H' k g1 g2 g3 g4 => ?_) hz)
  refine k q ⟨hq2, fun x hx => hl2 x (List.mem_append_right _ hx)⟩ a' w' F ZZ Q g1 g3 (fun a2 w2 Γ2 H2 k2 e1 e2 e3 e4 => hq a2 w2 Γ2 H2 k2 e1 (e2.trans g2) e3 (g4.trans e4)) (fun ch a2 w2 Γ2 H2 k2 e1 e2 e3 e4 => hz ch a2 w2 Γ2 H2 k2 e1 (e2.trans g2) e3 (g4.trans e4))
def cutAt (t : Nat) : List RO → List RO × List RO
  | [] => ([], [])
  | r :: l => if r.dst = some t then ([r], l) else ((r :: (cutAt t l).1), (cutAt t l).2)
theorem cutAt_eq (t : Nat) : ∀ l : List RO, l = (cutAt t l).1 ++ (cutAt t l).2 := by
  intro l
  induction l with
  | nil => rfl
  | cons r l ih =>
    simp only [cutAt]
    split
    · rfl
    · simp only [List.cons_append]; rw [← ih]
theorem VO.bool (t : Nat) (b : Bool) (hc : cutAt t rs = (l1, l2)) (h1 : VO P n l1 Γ H Z (fun Γ' H' => look Γ' t = some (.bool b) ∧ Sub Γ' Γ ∧ Imp H' H)) (h2 : VO P n l2 ((t, .bool b) :: Γ) H Z K) : VO P n rs Γ H Z K := by
  have he := cutAt_eq t rs
  rw [hc] at he
  rw [he]
  refine VO.app (h1.mono fun Γ' H' ⟨g1, g2, g3⟩ => VO.sub ?_ (VO.imp g3 h2))
  intro s v hs
  simp only [look] at hs
  split at hs
  · rename_i e; cases hs
    first
      | (subst e; exact g1)
      | (rw [← e]; exact g1)
      | (rw [e]; exact g1)
  · exact g2 s v hs
end
end Go.V

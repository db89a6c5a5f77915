/-
  The document's scanning: letters, names, binary selectors.
-/
import Derived.Test.YtmnmandpdadedaaGreatDoorT3
import Derived.Test.YtmnmandpdadedaaGreatDoorT1
import Derived.Test.YtmnmandpdadedaaGreatDoorT5
import Derived.Test.YtmnmandpdadedaaGreatDoorV13
set_option linter.unusedSimpArgs false
set_option linter.unusedVariables false
namespace Go.Proofs.YtmnmandpdadedaaGreatDoor
open Go Go.V
set_option maxHeartbeats 3200000
set_option maxRecDepth 100000
theorem dropN_cons {s : ByteArray} {j c : Nat} (h : (bytesN s)[j]? = some c) : (bytesN s).drop j = c :: (bytesN s).drop (j + 1) := by
  obtain ⟨h1, h2⟩ := List.getElem?_eq_some_iff.1 h
  rw [List.drop_eq_getElem_cons h1, h2]
theorem dropN_nil {s : ByteArray} {j : Nat} (h : s.size ≤ j) : (bytesN s).drop j = [] := List.drop_eq_nil_of_le (by rw [bytesN_len]; exact h)
theorem letterR_spec (c : Nat) (hc : c < 256) : Fun Tryz.prog 135 [cv c] [] (fun v Post => v = .bool (letB c) ∧ Post = []) := by
  refine Fun.intro low135 (by simp [n135]) ?_
  (repeat' (first | refine GOPH ?_ | refine st_gcase (by rfl) (fun _ => ?_) (fun _ => ?_) | refine st_pcase (by rfl) (fun _ => ?_) (fun _ => ?_) | refine VC.seq_cond (by rfl) (fun _ => ?_) (fun _ => ?_) | refine VC.cond (by rfl) (fun _ => ?_) (fun _ => ?_)))
  all_goals refine ⟨.inr rfl, _, _, .tmp (by rfl) .nil, by exact IMx, ?_, rfl⟩
  all_goals (simp only [tup, letB, Value.bool.injEq, decide_eq_true_eq, decide_eq_false_iff_not] at *)
  all_goals (rw [Bool.eq_iff_iff]; simp only [Bool.or_eq_true, Bool.and_eq_true, Bool.not_eq_true', decide_eq_true_eq, decide_eq_false_iff_not, true_iff, iff_true, reduceCtorEq, false_iff, iff_false]; omega)
theorem digitR_spec (c : Nat) (hc : c < 256) : Fun Tryz.prog 137 [cv c] [] (fun v Post => v = .bool (digB c) ∧ Post = []) := by
  refine Fun.intro low137 (by simp [n137]) ?_
  (repeat' (first | refine GOPH ?_ | refine st_gcase (by rfl) (fun _ => ?_) (fun _ => ?_) | refine st_pcase (by rfl) (fun _ => ?_) (fun _ => ?_) | refine VC.seq_cond (by rfl) (fun _ => ?_) (fun _ => ?_) | refine VC.cond (by rfl) (fun _ => ?_) (fun _ => ?_)))
  all_goals refine ⟨.inr rfl, _, _, .tmp (by rfl) .nil, by exact IMx, ?_, rfl⟩
  all_goals (simp only [tup, digB, Value.bool.injEq, decide_eq_true_eq, decide_eq_false_iff_not] at *)
  all_goals (rw [Bool.eq_iff_iff]; simp only [Bool.or_eq_true, Bool.and_eq_true, Bool.not_eq_true', decide_eq_true_eq, decide_eq_false_iff_not, true_iff, iff_true, reduceCtorEq, false_iff, iff_false]; omega)
theorem innerR_spec (c : Nat) (hc : c < 256) : Fun Tryz.prog 151 [cv c] [] (fun v Post => v = .bool (innB c) ∧ Post = []) := by
  refine Fun.intro low151 (by simp [n151]) ?_
  refine GOH ?_
  refine st_callP (letterR_spec c hc) (by rfl) ?_
  cases hl : letB c with
  | true =>
    refine GOH ?_
    refine ⟨.inr rfl, _, _, .tmp (by rfl) .nil, by exact IMx, ?_, rfl⟩
    simp [tup, innB, hl]
  | false =>
    refine GOH ?_
    refine st_callP (digitR_spec c hc) (by rfl) ?_
    refine GOH ?_
    refine ⟨.inr rfl, _, _, .tmp (by rfl) .nil, by exact IMx, ?_, rfl⟩
    simp [tup, innB, hl]
theorem atR_spec (s : ByteArray) (hs : s.size ≤ 140737488355328) (k : Nat) : Fun Tryz.prog 138 [.string s, vi k] [] (fun v Post => v = cv ((bytesN s).getD k 0) ∧ Post = []) := by
  refine Fun.intro low138 (by simp [n138]) ?_
  refine GOH ?_
  by_cases h : k < s.size
  · rw [decide_eq_true (by omega)]
    obtain ⟨c, hc, hc2⟩ := bytesN_ex h
    refine GOH ?_
    refine st_idxS (by rfl) (by rfl) (j := k) rfl hc ?_
    refine GOH ?_
    refine ⟨.inr rfl, _, _, .tmp (by rfl) .nil, by exact IMx, ?_, rfl⟩
    simp [tup, List.getD_eq_getElem?_getD, hc2]
  · rw [decide_eq_false (by omega)]
    refine GOH ?_
    refine ⟨.inr rfl, _, _, .tmp (by rfl) .nil, by exact IMx, ?_, rfl⟩
    have : (bytesN s)[k]? = none := List.getElem?_eq_none (by rw [bytesN_len]; omega)
    simp [tup, List.getD_eq_getElem?_getD, this]
def binBs : ByteArray := ⟨#[43, 45, 42, 47, 92, 126, 60, 62, 61, 64, 37, 38, 63, 44, 33]⟩
theorem binB_at (c : Nat) : binB c = (bytesN binBs).contains c := rfl
theorem binaryR_spec (c : Nat) (hc : c < 256) : Fun Tryz.prog 104 [cv c] [] (fun v Post => v = .bool (binB c) ∧ Post = []) := by
  refine Fun.intro low104 (by simp [n104]) ?_
  have hlen := bytesN_len binBs
  have hsz : binBs.size = 15 := rfl
  refine GOH ?_
  refine VC.loop (α := Nat) (Γf := fun k => [(0, cv c), (3, .string binBs), (4, vi k)]) (Hf := fun _ => []) (I := fun k => k ≤ 15 ∧ ∀ i, i < k → (bytesN binBs)[i]? ≠ some c) (μ := fun k => 15 - k) 0 ⟨Nat.zero_le _, fun i h => by omega⟩ (by exact SUx) Imp.nil ?_
  rintro k ⟨i1, i2⟩
  generalize hB : binBs = B at *
  refine GOH ?_
  by_cases hk : k < 15
  rotate_left
  · rw [decide_eq_false (by omega)]
    refine GOH ?_
    refine ⟨.inr rfl, _, _, .tmp (by rfl) .nil, by exact IMx, ?_, rfl⟩
    have : binB c = false := by
      rw [binB_at, hB, Bool.eq_false_iff]
      intro h
      obtain ⟨i, hi⟩ := List.getElem?_of_mem (List.contains_iff_mem.1 h)
      have hl := (List.getElem?_eq_some_iff.1 hi).1
      exact i2 i (by omega) hi
    simp [tup, this]
  rw [decide_eq_true (by omega)]
  obtain ⟨d, hd, hd2⟩ := bytesN_ex (s := B) (i := k) (by omega)
  refine GOH ?_
  refine st_idxS (by rfl) (by rfl) (j := k) rfl hd ?_
  refine GOH ?_
  by_cases he : d.toNat = c
  · rw [show decide ((d.toNat : Int) = (c : Int)) = true from decide_eq_true (by omega)]
    refine GOH ?_
    refine ⟨.inr rfl, _, _, .tmp (by rfl) .nil, by exact IMx, ?_, rfl⟩
    have : binB c = true := by
      rw [binB_at, hB]
      exact List.contains_iff_mem.2 (List.mem_of_getElem? (i := k) (by rw [hd2, he]))
    simp [tup, this]
  · rw [show decide ((d.toNat : Int) = (c : Int)) = false from decide_eq_false (by omega)]
    refine GOH ?_
    refine ⟨k + 1, ⟨by omega, fun i hi => ?_⟩, by omega, by exact SUx, Imp.nil⟩
    by_cases e : i = k
    · subst e; rw [hd2]; simpa using he
    · exact i2 i (by omega)
def wordL (l : List Nat) : Nat := (l.takeWhile innB).length
theorem wordL_le (l : List Nat) : wordL l ≤ l.length := (List.takeWhile_sublist _).length_le
theorem word_spec (s : ByteArray) (hs : s.size ≤ 140737488355328) (i : Nat) (hi : i ≤ s.size) : Fun Tryz.prog 136 [.string s, vi i] [] (fun v Post => v = vi (i + wordL ((bytesN s).drop i) : Nat) ∧ Post = []) := by
  refine Fun.intro low136 (by simp [n136]) ?_
  refine GOH ?_
  refine VC.loop (α := Nat) (Γf := fun k => [(0, .string s), (1, vi k)]) (Hf := fun _ => []) (I := fun k => k ≤ s.size ∧ k + wordL ((bytesN s).drop k) = i + wordL ((bytesN s).drop i)) (μ := fun k => s.size - k) i ⟨hi, rfl⟩ (by exact SUx) Imp.nil ?_
  rintro k ⟨i1, i2⟩
  refine GOH ?_
  by_cases hk : k < s.size
  rotate_left
  · rw [decide_eq_false (by omega)]
    rw [dropN_nil (by omega)] at i2
    refine GOH ?_
    refine ⟨.inr rfl, _, _, .tmp (by rfl) .nil, by exact IMx, ?_, rfl⟩
    rw [← i2]; rfl
  rw [decide_eq_true (by omega)]
  obtain ⟨c, hc, hc2⟩ := bytesN_ex hk
  refine GOH ?_
  refine st_idxS (by rfl) (by rfl) (j := k) rfl hc ?_
  refine GOH ?_
  refine st_callP (innerR_spec _ (bytesN_lt s _ (List.mem_of_getElem? hc2))) (by rfl) ?_
  rw [dropN_cons hc2] at i2
  cases hb : innB c.toNat with
  | false =>
    refine GOH ?_
    refine ⟨.inr rfl, _, _, .tmp (by rfl) .nil, by exact IMx, ?_, rfl⟩
    rw [← i2]; simp [tup, wordL, hb]
  | true =>
    refine GOH ?_
    refine ⟨k + 1, ⟨by omega, ?_⟩, by omega, by exact SUx, Imp.nil⟩
    rw [← i2]; simp [wordL, hb]; omega
theorem runL_sign {l : List Nat} {k c : Nat} (h : l[k]? = some c) : runL signOn (l.drop k) = if (binB c && (decide (c ≠ 45) || !digB (l.getD (k + 1) 0))) = true then 1 + runL signOn (l.drop (k + 1)) else 0 := by
  rw [← signOn_drop h]
  obtain ⟨h1, h2⟩ := List.getElem?_eq_some_iff.1 h
  rw [List.drop_eq_getElem_cons h1]
  rfl
theorem signR_spec (s : ByteArray) (hs : s.size ≤ 140737488355328) (i : Nat) (hi : i < s.size) : Fun Tryz.prog 105 [.string s, vi i] [] (fun v Post => v = vi (i + signL ((bytesN s).drop i) : Nat) ∧ Post = []) := by
  refine Fun.intro low105 (by simp [n105]) ?_
  have hlen := bytesN_len s
  obtain ⟨c0, hc0, hc02⟩ := bytesN_ex hi
  have hd0 := dropN_cons hc02
  refine GOH ?_
  refine st_idxS (by rfl) (by rfl) (j := i) rfl hc0 ?_
  refine GOH ?_
  by_cases h0 : c0.toNat = 124
  · rw [show decide ((c0.toNat : Int) = 124) = true from decide_eq_true (by omega)]
    refine GOH ?_
    refine ⟨.inr rfl, _, _, .tmp (by rfl) .nil, by exact IMx, ?_, rfl⟩
    rw [hd0]; simp [tup, signL, h0]
  rw [show decide ((c0.toNat : Int) = 124) = false from decide_eq_false (by omega)]
  have hsl : signL ((bytesN s).drop i) = if binB c0.toNat = true then 1 + runL signOn ((bytesN s).drop (i + 1)) else 0 := by
    rw [hd0]; simp only [signL, if_neg h0]
  refine GOH ?_
  refine VC.loop (α := Nat) (Γf := fun k => [(0, .string s), (1, vi i), (5, vi k)]) (Hf := fun _ => []) (I := fun k => k ≤ s.size ∧ (k = i ∨ (i < k ∧ k + runL signOn ((bytesN s).drop k) = i + signL ((bytesN s).drop i)))) (μ := fun k => s.size - k) i ⟨by omega, .inl rfl⟩ (by exact SUx) Imp.nil ?_
  rintro k ⟨i1, i2⟩
  refine GOH ?_
  by_cases hk : k < s.size
  rotate_left
  · rw [decide_eq_false (by omega)]
    rcases i2 with rfl | ⟨i2, i3⟩
    · omega
    rw [dropN_nil (by omega)] at i3
    refine GOH ?_
    refine ⟨.inr rfl, _, _, .tmp (by rfl) .nil, by exact IMx, ?_, rfl⟩
    rw [← i3]; rfl
  rw [decide_eq_true (by omega)]
  obtain ⟨c, hc, hc2⟩ := bytesN_ex hk
  refine GOH ?_
  refine st_idxS (by rfl) (by rfl) (j := k) rfl hc ?_
  refine GOH ?_
  refine st_callP (binaryR_spec _ (bytesN_lt s _ (List.mem_of_getElem? hc2))) (by rfl) ?_
  have hrun := runL_sign hc2
  have hi0 : k = i → c = c0 := fun e => by subst e; rw [hc0] at hc; cases hc; rfl
  cases hb : binB c.toNat with
  | false =>
    refine GOH ?_
    refine ⟨.inr rfl, _, _, .tmp (by rfl) .nil, by exact IMx, ?_, rfl⟩
    rcases i2 with rfl | ⟨i2, i3⟩
    · rw [hsl, ← hi0 rfl, hb]; rfl
    · rw [← i3, hrun, hb]; rfl
  | true =>
    rw [hb, Bool.true_and] at hrun
    refine GOH ?_
    rcases i2 with rfl | ⟨i2, i3⟩
    · rw [show decide ((k : Int) > (k : Int)) = false from decide_eq_false (by omega)]
      refine GOH ?_
      refine ⟨k + 1, ⟨by omega, .inr ⟨by omega, ?_⟩⟩, by omega, by exact SUx, Imp.nil⟩
      rw [hsl, ← hi0 rfl, hb]; simp only [if_true]; omega
    rw [show decide ((k : Int) > (i : Int)) = true from decide_eq_true (by omega)]
    refine GOH ?_
    refine st_idxS (by rfl) (by rfl) (j := k) rfl hc ?_
    refine GOH ?_
    by_cases h45 : c.toNat = 45
    rotate_left
    · rw [show decide ((c.toNat : Int) = 45) = false from decide_eq_false (by omega)]
      refine GOH ?_
      refine ⟨k + 1, ⟨by omega, .inr ⟨by omega, ?_⟩⟩, by omega, by exact SUx, Imp.nil⟩
      rw [← i3, hrun]; simp [h45]; omega
    rw [show decide ((c.toNat : Int) = 45) = true from decide_eq_true (by omega)]
    refine GOH ?_
    refine st_callP (atR_spec s hs (k + 1)) (by rfl) ?_
    refine GOH ?_
    refine st_callP (digitR_spec ((bytesN s).getD (k + 1) 0) (by
      rw [List.getD_eq_getElem?_getD]
      cases h : (bytesN s)[k + 1]? with
      | none => decide
      | some x => exact bytesN_lt s _ (List.mem_of_getElem? h))) (by rfl) ?_
    generalize (bytesN s).getD (k + 1) 0 = d at hrun ⊢
    cases hdd : digB d with
    | true =>
      refine GOH ?_
      refine ⟨.inr rfl, _, _, .tmp (by rfl) .nil, by exact IMx, ?_, rfl⟩
      rw [← i3, hrun]; simp [tup, h45, hdd]
    | false =>
      refine GOH ?_
      refine ⟨k + 1, ⟨by omega, .inr ⟨by omega, ?_⟩⟩, by omega, by exact SUx, Imp.nil⟩
      rw [← i3, hrun]; simp [hdd]; omega
theorem wordL_all (l : List Nat) : l.all innB = decide (wordL l = l.length) := by
  induction l with
  | nil => rfl
  | cons c r ih =>
    simp only [List.all_cons, wordL, List.takeWhile_cons]
    cases hc : innB c with
    | false => simp
    | true => 
      simp only [Bool.true_and, if_true, List.length_cons, ih, wordL, Nat.add_right_cancel_iff]
      exact decide_eq_decide.2 Iff.rfl
theorem nameR_spec (s : ByteArray) (hs : s.size ≤ 140737488355328) : Fun Tryz.prog 103 [.string s] [] (fun v Post => v = .bool (nameS s) ∧ Post = []) := by
  refine Fun.intro low103 (by simp [n103]) ?_
  have hlen := bytesN_len s
  unfold nameS nameL
  refine GOH ?_
  by_cases h0 : s = ⟨#[]⟩
  · subst h0
    refine GOH ?_
    refine ⟨.inr rfl, _, _, .tmp (by rfl) .nil, by exact IMx, ?_, rfl⟩
    rfl
  obtain ⟨c, r, hc, hr, hc256, hpos⟩ := bytesN_cons h0
  rw [decide_eq_true (show (s.size : Int) > 0 by omega)]
  refine GOH ?_
  by_cases h40 : s.size ≤ 40
  rotate_left
  · rw [decide_eq_false (by omega)]
    refine GOH ?_
    refine ⟨.inr rfl, _, _, .tmp (by rfl) .nil, by exact IMx, ?_, rfl⟩
    have h2 : ¬ (c.toNat :: r).length ≤ 40 := by rw [← hr]; omega
    simp only [tup, hr, decide_eq_false h2, Bool.false_and]
  rw [decide_eq_true (by omega)]
  refine GOH ?_
  refine st_idxS (by rfl) (by rfl) (j := 0) rfl hc ?_
  refine GOH ?_
  refine st_callP (letterR_spec _ hc256) (by rfl) ?_
  cases hl : letB c.toNat with
  | false =>
    refine GOH ?_
    refine ⟨.inr rfl, _, _, .tmp (by rfl) .nil, by exact IMx, ?_, rfl⟩
    simp [tup, hr, hl]
  | true =>
    have hw := word_spec s hs 0 (by omega)
    rw [List.drop_zero, Nat.zero_add] at hw
    refine GOH ?_
    refine st_callP hw (by rfl) ?_
    refine GOH ?_
    refine ⟨.inr rfl, _, _, .tmp (by rfl) .nil, by exact IMx, ?_, rfl⟩
    have h2 : (c.toNat :: r).length ≤ 40 := by rw [← hr]; omega
    have hall := wordL_all (bytesN s)
    rw [hr] at hall
    simp only [tup, hr, decide_eq_true h2, hl, hall, Bool.true_and, Value.bool.injEq]
    rw [← hr, hlen]
    (rw [Bool.eq_iff_iff]; simp only [Bool.or_eq_true, Bool.and_eq_true, Bool.not_eq_true', decide_eq_true_eq, decide_eq_false_iff_not, true_iff, iff_true, reduceCtorEq, false_iff, iff_false]; omega)
set_option maxHeartbeats 800000
def lessL : List Nat → List Nat → Bool
  | _, [] => false
  | [], _ :: _ => true
  | a :: x, b :: y => decide (a < b) || (decide (a = b) && lessL x y)
theorem less_bytes : ∀ (a b : List UInt8), Op.bytesLess a b = lessL (a.map UInt8.toNat) (b.map UInt8.toNat) := by
  intro a
  induction a with
  | nil => intro b; cases b <;> rfl
  | cons x a ih =>
    intro b
    cases b with
    | nil => rfl
    | cons y b =>
      have e1 : decide (x < y) = decide (x.toNat < y.toNat) := decide_eq_decide.2 UInt8.lt_iff_toNat_lt
      have e2 : (x == y) = decide (x.toNat = y.toNat) := by
        rw [Bool.eq_iff_iff, beq_iff_eq, decide_eq_true_eq]; exact UInt8.toNat_inj.symm
      simp only [Op.bytesLess, List.map_cons, lessL, ih, e1, e2]
def numF (m : Nat) (l : List Nat) : Nat := l.foldl (fun n c => n * 10 + (c - 48)) m
theorem numF_cons (m c : Nat) (l : List Nat) : numF m (c :: l) = numF (m * 10 + (c - 48)) l := by simp only [numF, List.foldl_cons]
theorem numL_F (l : List Nat) : numL l = numF 0 l := by simp only [numL, numF]
theorem fold_lt : ∀ (a b : List Nat) (m n : Nat), a.length = b.length → a.all digB = true → m < n → numF m a < numF n b := by
  intro a
  induction a with
  | nil => intro b m n h _ hm; cases b with
    | nil => exact hm
    | cons => cases h
  | cons c a ih =>
    intro b m n h hd hm
    cases b with
    | nil => cases h
    | cons d b =>
      simp only [List.all_cons, Bool.and_eq_true] at hd
      have hc := hd.1
      simp only [digB, Bool.and_eq_true, decide_eq_true_eq] at hc
      rw [numF_cons, numF_cons]
      exact ih b _ _ (by simpa using h) hd.2 (by omega)
theorem less_num : ∀ (a b : List Nat) (m : Nat), a.length = b.length → a.all digB = true → b.all digB = true → lessL a b = decide (numF m a < numF m b) ∧ (numF m a = numF m b → a = b) := by
  intro a
  induction a with
  | nil => intro b m h _ _; cases b with
    | nil => simp [lessL]
    | cons => cases h
  | cons c a ih =>
    intro b m h hd hd2
    cases b with
    | nil => cases h
    | cons d b =>
      simp only [List.all_cons, Bool.and_eq_true] at hd hd2
      have hc := hd.1
      have hdd := hd2.1
      simp only [digB, Bool.and_eq_true, decide_eq_true_eq] at hc hdd
      have hl : a.length = b.length := by simpa using h
      rw [numF_cons, numF_cons]
      simp only [lessL]
      rcases Nat.lt_trichotomy c d with h1 | h1 | h1
      · have := fold_lt a b (m * 10 + (c - 48)) (m * 10 + (d - 48)) hl hd.2 (by omega)
        rw [decide_eq_true h1, decide_eq_true this]; exact ⟨rfl, fun e => by omega⟩
      · subst h1
        obtain ⟨i1, i2⟩ := ih b (m * 10 + (c - 48)) hl hd.2 hd2.2
        rw [i1]; exact ⟨by simp, fun e => by rw [i2 e]⟩
      · have := fold_lt b a (m * 10 + (d - 48)) (m * 10 + (c - 48)) hl.symm hd2.2 (by omega)
        rw [decide_eq_false (show ¬ c < d by omega), decide_eq_false (show ¬ c = d by omega), decide_eq_false (show ¬ numF (m * 10 + (c - 48)) a < numF (m * 10 + (d - 48)) b by omega)]; exact ⟨rfl, fun e => by omega⟩
theorem gtr_num (s t : ByteArray) (hl : s.size = t.size) (hs : (bytesN s).all digB = true) (ht : (bytesN t).all digB = true) : (!(Op.bytesLess s.toList t.toList || decide (s = t))) = decide (numL (bytesN t) < numL (bytesN s)) := by
  obtain ⟨h1, h2⟩ := less_num (bytesN s) (bytesN t) 0 (by rw [bytesN_len, bytesN_len, hl]) hs ht
  rw [less_bytes, Lib.toList_data, Lib.toList_data, show s.data.toList.map UInt8.toNat = bytesN s from rfl, show t.data.toList.map UInt8.toNat = bytesN t from rfl, h1, numL_F, numL_F]
  by_cases e : s = t
  · subst e; simp
  · have hne : numF 0 (bytesN s) ≠ numF 0 (bytesN t) := fun h => e (bytesN_inj (h2 h))
    simp only [e, decide_false, Bool.or_false]
    (rw [Bool.eq_iff_iff]; simp only [Bool.or_eq_true, Bool.and_eq_true, Bool.not_eq_true', decide_eq_true_eq, decide_eq_false_iff_not, true_iff, iff_true, reduceCtorEq, false_iff, iff_false]; omega)
def mostS (m : Bool) : ByteArray := if m then ⟨#[49, 49, 53, 50, 57, 50, 49, 53, 48, 52, 54, 48, 54, 56, 52, 54, 57, 55, 54]⟩ else ⟨#[49, 49, 53, 50, 57, 50, 49, 53, 48, 52, 54, 48, 54, 56, 52, 54, 57, 55, 53]⟩
theorem mostS_num (m : Bool) : (mostS m).size = 19 ∧ (bytesN (mostS m)).all digB = true ∧ numL (bytesN (mostS m)) = if m = true then 1152921504606846976 else 1152921504606846975 := by cases m <;> decide
theorem longer_spec (s t : ByteArray) (hs : s.size ≤ 140737488355328) (ht : t.size ≤ 140737488355328) (hds : (bytesN s).all digB = true) (hdt : (bytesN t).all digB = true) :
    Fun Tryz.prog 167 [.string s, .string t] [] (fun v Post => v = .bool (decide (t.size < s.size ∨ (s.size = t.size ∧ numL (bytesN t) < numL (bytesN s)))) ∧ Post = []) := by
  refine Fun.intro low167 (by simp [n167]) ?_
  refine GOH ?_
  by_cases h1 : t.size < s.size
  · rw [show decide ((s.size : Int) > (t.size : Int)) = true from decide_eq_true (by omega)]
    refine GOH ?_
    refine ⟨.inr rfl, _, _, .tmp (by rfl) .nil, by exact IMx, ?_, rfl⟩
    simp [tup, h1]
  rw [show decide ((s.size : Int) > (t.size : Int)) = false from decide_eq_false (by omega)]
  refine GOH ?_
  by_cases h2 : s.size = t.size
  rotate_left
  · rw [show decide ((s.size : Int) = (t.size : Int)) = false from decide_eq_false (by omega)]
    refine GOH ?_
    refine ⟨.inr rfl, _, _, .tmp (by rfl) .nil, by exact IMx, ?_, rfl⟩
    simp [tup, h1, h2]
  rw [show decide ((s.size : Int) = (t.size : Int)) = true from decide_eq_true (by omega)]
  refine GOH ?_
  have hg := gtr_num s t h2 hds hdt
  refine ⟨.inr rfl, _, _, .tmp (by rfl) .nil, by exact IMx, ?_, rfl⟩
  simp only [tup, hg]
  simp [h1, h2]
theorem plainR_spec (s : ByteArray) (hs : s.size ≤ 140737488355328) : Fun Tryz.prog 159 [.string s] [] (fun v Post => ∃ t, v = .string t ∧ bytesN t = plainL (bytesN s) ∧ t.size ≤ s.size ∧ Post = []) := by
  refine Fun.intro low159 (by simp [n159]) ?_
  refine GOH ?_
  refine VC.loop (α := ByteArray) (Γf := fun t => [(0, .string t)]) (Hf := fun _ => []) (I := fun t => t.size ≤ s.size ∧ plainL (bytesN t) = plainL (bytesN s)) (μ := fun t => t.size) s ⟨Nat.le_refl _, rfl⟩ (by exact SUx) Imp.nil ?_
  rintro t ⟨i1, i2⟩
  have hlen := bytesN_len t
  refine GOH ?_
  have stop : plainL (bytesN t) = bytesN t → ∃ u, Value.string t = .string u ∧ bytesN u = plainL (bytesN s) ∧ u.size ≤ s.size ∧ ([] : SH) = [] := fun h => ⟨t, rfl, by rw [← i2, h], i1, rfl⟩
  by_cases h1 : 1 < t.size
  rotate_left
  · rw [show decide ((t.size : Int) > 1) = false from decide_eq_false (by omega)]
    have hst := stop (by
      match h : bytesN t with
      | [] => rfl
      | [c] => rw [plainL.eq_2]; intro c' r h'; simp at h'
      | c :: d :: r => rw [h] at hlen; simp at hlen; omega)
    refine GOH ?_
    exact endQ_mk (Post := []) (.inr rfl) (.tmp (by rfl) .nil) hst Imp.nil
  rw [show decide ((t.size : Int) > 1) = true from decide_eq_true (by omega)]
  obtain ⟨c, hc, hc2⟩ := bytesN_ex (s := t) (i := 0) (by omega)
  obtain ⟨d, hd, hd2⟩ := bytesN_ex (s := t) (i := 1) (by omega)
  have hcd : bytesN t = c.toNat :: d.toNat :: (bytesN t).drop 2 := by
    rw [← dropN_cons hd2, ← dropN_cons hc2]; rfl
  refine GOH ?_
  refine st_idxS (by rfl) (by rfl) (j := 0) rfl hc ?_
  refine GOH ?_
  by_cases h48 : c.toNat = 48
  rotate_left
  · rw [show decide ((c.toNat : Int) = 48) = false from decide_eq_false (by omega)]
    have hst := stop (by
      rw [hcd, plainL.eq_2]
      intro c' r h'; simp at h'; exact h48 h'.1)
    refine GOH ?_
    exact endQ_mk (Post := []) (.inr rfl) (.tmp (by rfl) .nil) hst Imp.nil
  rw [show decide ((c.toNat : Int) = 48) = true from decide_eq_true (by omega)]
  refine GOH ?_
  refine st_slcS (l := 1) (h := t.size) (by rfl) (.num (by rfl)) .dft ⟨by omega, by omega⟩ ?_
  refine GOH ?_
  refine ⟨t.extract 1 t.size, ⟨by rw [ByteArray.size_extract]; omega, ?_⟩, by rw [ByteArray.size_extract]; omega, by exact SUx, Imp.nil⟩
  rw [← i2, bytesN_extract, hcd, h48]
  rw [show (48 :: d.toNat :: (bytesN t).drop 2).take t.size = 48 :: d.toNat :: (bytesN t).drop 2 from List.take_of_length_le (by
    have := congrArg List.length hcd; rw [hlen] at this; simp at this ⊢; omega)]
  rfl
theorem smallD_longer {t : ByteArray} (m : Bool) (hd : (bytesN t).all digB = true) : ((mostS m).size < t.size ∨ (t.size = (mostS m).size ∧ numL (bytesN (mostS m)) < numL (bytesN t))) ↔ ¬ smallD m (bytesN t) := by
  obtain ⟨h1, _, h3⟩ := mostS_num m
  have hlen := bytesN_len t
  have hlt := numL_lt (bytesN t) 0 0 (fun c hc => List.all_eq_true.1 hd c hc) (by decide)
  rw [show (bytesN t).foldl (fun n c => n * 10 + (c - 48)) 0 = numL (bytesN t) by simp only [numL]] at hlt
  rw [h1, h3]
  unfold smallD
  rw [hlen, Nat.zero_add] at *
  by_cases hs : t.size < 19
  · have h4 : (10 : Nat) ^ t.size ≤ 10 ^ 18 := Nat.pow_le_pow_right (by omega) (by omega)
    have h5 : (10 : Nat) ^ 18 = 1000000000000000000 := by decide
    cases m <;> simp <;> omega
  · cases m <;> simp <;> omega
theorem literal_spec (A : List Atom) (hE : ErA A) (t : ByteArray) (h0 : bytesN t ≠ []) (hd : (bytesN t).all digB = true) (hl : t.size ≤ 255) (m : Bool) : Fun Tryz.prog 160 [.string t, .bool m] [A] (fun v Post => WholeQ m t v ∧ Post = [A]) := by
  refine Fun.intro low160 (by simp [n160]) ?_
  have hlen := bytesN_len t
  have hcat : binV .add (.string ⟨#[45]⟩) (.string t) = some (.string (⟨#[45]⟩ ++ t)) := if_pos (by show 1 + t.size ≤ 9223372036854775807; omega)
  have hsm := smallD_longer m hd
  obtain ⟨g1, g2, g3⟩ := mostS_num m
  refine GOH ?_
  refine st_alloc (fun b => ?_)
  refine GOH ?_
  by_cases hz : t = ⟨#[48]⟩
  · rw [decide_eq_true hz]
    refine GOH ?_
    refine ⟨.inr rfl, _, _, .cellN (us := [cv 4, vi 0, uv 0, .string ⟨#[]⟩, .slice none 0 0]) (by rfl) (by rfl) (fun x hx => by simp only [List.flatten_cons, List.mem_append]; first | exact .inl hx | exact .inr (.inl hx)) .nil, by exact IMx, .inl ⟨?_, ?_⟩, rfl⟩
    · rw [hz]; cases m <;> exact ⟨by decide, by decide⟩
    · rw [hz]; cases m <;> rfl
  rw [decide_eq_false hz]
  refine GOH ?_
  have hlo := longer_spec t (mostS m) (by omega) (by omega) hd g2
  have hlo1 : smallD m (bytesN t) → Fun Tryz.prog 167 [.string t, .string (mostS m)] [] (fun v Post => v = .bool false ∧ Post = []) := fun h => by
    rw [decide_eq_false (fun h2 => hsm.1 h2 h)] at hlo; exact hlo
  have hlo2 : ¬ smallD m (bytesN t) → Fun Tryz.prog 167 [.string t, .string (mostS m)] [] (fun v Post => v = .bool true ∧ Post = []) := fun h => by
    rw [decide_eq_true (hsm.2 h)] at hlo; exact hlo
  have hbig : ∀ u : ByteArray, ¬ smallD m (bytesN t) → bytesN u = (if m = true then 45 :: bytesN t else bytesN t) → WholeQ m t (.agg #[cv 5, vi 0, uv 0, .string u, .slice none 0 0]) := fun u h1 h2 => .inr ⟨h1, u, rfl, h2⟩
  cases m with
  | true =>
    refine GOH ?_
    by_cases hsd : smallD true (bytesN t)
    rotate_left
    · refine st_callP (hlo2 hsd) (by rfl) ?_
      refine GOH ?_
      refine st_bin (by rfl) (by rfl) hcat ?_
      refine GOH ?_
      refine ⟨.inr rfl, _, _, .cellN (us := [cv 5, vi 0, uv 0, .string (⟨#[45]⟩ ++ t), .slice none 0 0]) (by rfl) (by rfl) (fun x hx => by simp only [List.flatten_cons, List.mem_append]; first | exact .inl hx | exact .inr (.inl hx)) .nil, by exact IMx, hbig _ hsd (by rw [bytesN_append]; rfl), rfl⟩
    refine st_callP (hlo1 hsd) (by rfl) ?_
    refine GOH ?_
    refine st_call (parseInt_spec A hE t h0 hd (by have := hsd.1; omega)) (by rfl) (by exact SPx) (fun v Post hv => ?_)
    rcases hv with ⟨⟨hn, rfl⟩ | ⟨hn, _⟩, rfl⟩
    rotate_left
    · have := hsd.2; simp only [if_true] at this; omega
    simp only [CNx]
    have hn2 := hsd.2
    simp only [if_true] at hn2
    have hfin : WholeQ true t (.agg #[cv 4, vi (-(numL (bytesN t) : Int)), uv 0, .string ⟨#[]⟩, .slice none 0 0]) := .inl ⟨hsd, rfl⟩
    generalize numL (bytesN t) = N at *
    refine GOH ?_
    rw [show IntKind.i64.wrap (0 - (N : Int)) = -(N : Int) by rw [Int.zero_sub]; exact wrap64 ⟨by omega, by omega⟩]
    refine GOH ?_
    exact ⟨.inr rfl, _, _, .cellN (us := [cv 4, vi (-(N : Int)), uv 0, .string ⟨#[]⟩, .slice none 0 0]) (by rfl) (by rfl) (fun x hx => by simp only [List.flatten_cons, List.mem_append]; first | exact .inl hx | exact .inr (.inl hx)) .nil, by exact IMx, hfin, rfl⟩
  | false =>
    refine GOH ?_
    by_cases hsd : smallD false (bytesN t)
    rotate_left
    · refine st_callP (hlo2 hsd) (by rfl) ?_
      refine GOH ?_
      refine ⟨.inr rfl, _, _, .cellN (us := [cv 5, vi 0, uv 0, .string t, .slice none 0 0]) (by rfl) (by rfl) (fun x hx => by simp only [List.flatten_cons, List.mem_append]; first | exact .inl hx | exact .inr (.inl hx)) .nil, by exact IMx, hbig _ hsd rfl, rfl⟩
    refine st_callP (hlo1 hsd) (by rfl) ?_
    refine GOH ?_
    refine st_call (parseInt_spec A hE t h0 hd (by have := hsd.1; omega)) (by rfl) (by exact SPx) (fun v Post hv => ?_)
    rcases hv with ⟨⟨hn, rfl⟩ | ⟨hn, _⟩, rfl⟩
    rotate_left
    · have := hsd.2; simp only [Bool.false_eq_true, if_false] at this; omega
    simp only [CNx]
    have hfin : WholeQ false t (.agg #[cv 4, vi (numL (bytesN t) : Int), uv 0, .string ⟨#[]⟩, .slice none 0 0]) := .inl ⟨hsd, rfl⟩
    generalize numL (bytesN t) = N at *
    refine GOH ?_
    exact ⟨.inr rfl, _, _, .cellN (us := [cv 4, vi (N : Int), uv 0, .string ⟨#[]⟩, .slice none 0 0]) (by rfl) (by rfl) (fun x hx => by simp only [List.flatten_cons, List.mem_append]; first | exact .inl hx | exact .inr (.inl hx)) .nil, by exact IMx, hfin, rfl⟩
theorem integerR_spec (A : List Atom) (hE : ErA A) (s : ByteArray) (hs : s.size ≤ 140737488355328) : Fun Tryz.prog 152 [.string s] [A] (fun v Post => IntQ s v ∧ Post = [A]) := by
  refine Fun.intro low152 (by simp [n152]) ?_
  have hls := bytesN_len s
  have hIntB : goodL (bytesN s) = false → IntQ s (.tuple #[.agg #[cv 0, vi 0, uv 0, .string ⟨#[]⟩, .slice none 0 0], vi 144]) := fun h => .inl ⟨h, rfl⟩
  have hm : decide ((bytesN s).getD 0 0 = 45) = minusL (bytesN s) := by
    unfold minusL
    cases bytesN s <;> simp
  have hat := atR_spec s hs 0
  refine GOHS ?_
  refine st_alloc (fun b => ?_)
  refine GOHS ?_
  refine st_callP hat (by rfl) ?_
  generalize hg0 : (bytesN s).getD 0 0 = z0 at hm ⊢
  refine GOHS ?_
  refine VC.join (α := ByteArray) (fun d => [(0, .string d), (2, ptr0 b), (4, .bool (minusL (bytesN s)))]) (fun _ => [cellsAt b 0 [.int .u8 0, .int .i64 0, .int .u64 0, .string ⟨#[]⟩, .slice none 0 0], A]) (fun d => bytesN d = digsL (bytesN s) ∧ d.size ≤ s.size) ?_ ?_
  · by_cases h45 : z0 = 45
    · rw [show decide ((z0 : Int) = 45) = true from decide_eq_true (by omega)]
      rw [decide_eq_true h45] at hm
      have hpos : 0 < s.size := by
        rcases Nat.eq_zero_or_pos s.size with h | h
        · rw [List.getD_eq_getElem?_getD, List.getElem?_eq_none (by omega)] at hg0; simp at hg0; omega
        · exact h
      refine GOH ?_
      refine st_slcS (l := 1) (h := s.size) (by rfl) (.num (by rfl)) .dft ⟨by omega, by omega⟩ ?_
      refine GOH ?_
      refine ⟨s.extract 1 s.size, ⟨?_, by rw [ByteArray.size_extract]; omega⟩, by rw [← hm]; exact SUx, by exact IMx⟩
      rw [bytesN_extract, List.take_of_length_le (by omega)]
      unfold digsL
      have h1 : (bytesN s).head? = some 45 := by
        have := hm.symm; unfold minusL at this; exact of_decide_eq_true this
      rw [if_pos h1, List.drop_one]
    · rw [show decide ((z0 : Int) = 45) = false from decide_eq_false (by omega)]
      rw [decide_eq_false h45] at hm
      refine GOH ?_
      refine ⟨s, ⟨?_, Nat.le_refl _⟩, by rw [← hm]; exact SUx, by exact IMx⟩
      unfold digsL
      have h1 : ¬ (bytesN s).head? = some 45 := by
        have := hm.symm; unfold minusL at this; exact of_decide_eq_false this
      rw [if_neg h1]
  rintro d ⟨hd, hds⟩
  have hld := bytesN_len d
  generalize hmm : minusL (bytesN s) = m
  refine GOH ?_
  refine VC.loop (α := Nat) (Γf := fun k => [(0, .string d), (2, ptr0 b), (4, .bool m), (5, vi k)]) (Hf := fun _ => [cellsAt b 0 [.int .u8 0, .int .i64 0, .int .u64 0, .string ⟨#[]⟩, .slice none 0 0], A]) (I := fun k => k ≤ d.size ∧ ∀ i c, i < k → (bytesN d)[i]? = some c → digB c = true) (μ := fun k => d.size - k) 0 ⟨Nat.zero_le _, fun i c h => by omega⟩ (by exact SUx) (by exact IMx) ?_
  rintro k ⟨i1, i2⟩
  refine GOH ?_
  by_cases hk : k < d.size
  · rw [decide_eq_true (by omega)]
    obtain ⟨c, hc, hc2⟩ := bytesN_ex hk
    refine GOH ?_
    refine st_idxS (by rfl) (by rfl) (j := k) rfl hc ?_
    refine GOH ?_
    refine st_callP (digitR_spec _ (bytesN_lt d _ (List.mem_of_getElem? hc2))) (by rfl) ?_
    cases hb : digB c.toNat with
    | true =>
      refine GOH ?_
      refine ⟨k + 1, ⟨by omega, fun i x hi hx => ?_⟩, by omega, by exact SUx, by exact IMx⟩
      by_cases e : i = k
      · subst e; rw [hc2] at hx; cases hx; exact hb
      · exact i2 i x (by omega) hx
    | false =>
      have hbad : goodL (bytesN s) = false := by
        unfold goodL
        rw [← hd]
        have : (bytesN d).all digB = false := by
          rw [Bool.eq_false_iff]; intro h
          have := List.all_eq_true.1 h _ (List.mem_of_getElem? hc2)
          rw [hb] at this; cases this
        rw [this]; simp
      refine GOH ?_
      exact ⟨.inr rfl, _, _, .cellN (us := [cv 0, vi 0, uv 0, .string ⟨#[]⟩, .slice none 0 0]) (by rfl) (by rfl) (fun x hx => by simp only [List.flatten_cons, List.mem_append]; first | exact .inl hx | exact .inr (.inl hx)) (.tmp (by rfl) .nil), by exact IMx, hIntB hbad, rfl⟩
  rw [decide_eq_false (by omega)]
  have hall : (bytesN d).all digB = true := by
    rw [List.all_eq_true]; intro c hc
    obtain ⟨i, hi⟩ := List.getElem?_of_mem hc
    exact i2 i c (by have := (List.getElem?_eq_some_iff.1 hi).1; omega) hi
  refine GOH ?_
  refine st_call (plainR_spec d (by omega)) (by rfl) (by exact SPx) (fun v Post hv => ?_)
  obtain ⟨t, rfl, ht, hts, rfl⟩ := hv
  have hlt := bytesN_len t
  have hg : goodL (bytesN s) = (decide (bytesN d ≠ []) && decide (t.size ≤ 255)) := by
    unfold goodL; rw [← hd, ← ht, hlt, hall, Bool.and_true]
  simp only [List.nil_append]
  refine GOH ?_
  by_cases h0 : bytesN d = []
  · have hb : goodL (bytesN s) = false := by rw [hg, decide_eq_false (fun h => h h0)]; rfl
    have : t.size = 0 := by rw [← hlt, ht, h0]; rfl
    rw [show decide ((t.size : Int) < 1) = true from decide_eq_true (by omega)]
    refine GOH ?_
    exact ⟨.inr rfl, _, _, .cellN (us := [cv 0, vi 0, uv 0, .string ⟨#[]⟩, .slice none 0 0]) (by rfl) (by rfl) (fun x hx => by simp only [List.flatten_cons, List.mem_append]; first | exact .inl hx | exact .inr (.inl hx)) (.tmp (by rfl) .nil), by exact IMx, hIntB hb, rfl⟩
  have ht0 : bytesN t ≠ [] := by rw [ht]; exact plainL_ne h0
  have : 0 < t.size := by rw [← hlt]; exact List.length_pos_iff.2 ht0
  rw [show decide ((t.size : Int) < 1) = false from decide_eq_false (by omega)]
  refine GOH ?_
  by_cases h255 : t.size ≤ 255
  rotate_left
  · rw [decide_eq_true (show (t.size : Int) > 255 by omega)]
    have hb : goodL (bytesN s) = false := by rw [hg, decide_eq_false h255]; simp
    refine GOH ?_
    exact ⟨.inr rfl, _, _, .cellN (us := [cv 0, vi 0, uv 0, .string ⟨#[]⟩, .slice none 0 0]) (by rfl) (by rfl) (fun x hx => by simp only [List.flatten_cons, List.mem_append]; first | exact .inl hx | exact .inr (.inl hx)) (.tmp (by rfl) .nil), by exact IMx, hIntB hb, rfl⟩
  rw [decide_eq_false (show ¬ (t.size : Int) > 255 by omega)]
  have hgt : goodL (bytesN s) = true := by rw [hg, decide_eq_true h255, decide_eq_true h0]; rfl
  refine GOH ?_
  refine st_call (literal_spec A hE t ht0 (by rw [ht]; exact plainL_dig hall) h255 m) (by rfl) (by exact SPx) (fun v Post hv => ?_)
  obtain ⟨hw, rfl⟩ := hv
  have fin : ∀ u, WholeQ m t u → IntQ s (.tuple #[u, vi 0]) := fun u hu => .inr ⟨hgt, t, u, by rw [ht, hd], by rw [hmm]; exact hu, rfl⟩
  have hfin := fin _ hw
  simp only [CNx]
  rcases hw with ⟨_, rfl⟩ | ⟨_, u, rfl, _⟩
  · generalize (if m = true then -(numL (bytesN t) : Int) else (numL (bytesN t) : Int)) = z at hfin ⊢
    refine GOH ?_
    exact ⟨.inr rfl, _, _, .cellN (us := [cv 4, vi z, uv 0, .string ⟨#[]⟩, .slice none 0 0]) (by rfl) (by rfl) (fun x hx => by simp only [List.flatten_cons, List.mem_append]; first | exact .inl hx | exact .inr (.inl hx)) (.tmp (by rfl) .nil), by exact IMx, hfin, rfl⟩
  · refine GOH ?_
    exact ⟨.inr rfl, _, _, .cellN (us := [cv 5, vi 0, uv 0, .string u, .slice none 0 0]) (by rfl) (by rfl) (fun x hx => by simp only [List.flatten_cons, List.mem_append]; first | exact .inl hx | exact .inr (.inl hx)) (.tmp (by rfl) .nil), by exact IMx, hfin, rfl⟩
set_option maxHeartbeats 3200000
theorem wordL_split (l : List Nat) : ∃ w r, l = w ++ r ∧ w.length = wordL l ∧ w.all innB = true ∧ ∀ c q, r = c :: q → innB c = false := by
  unfold wordL
  induction l with
  | nil => exact ⟨[], [], rfl, rfl, rfl, fun c q h => by cases h⟩
  | cons c r ih =>
    cases hc : innB c with
    | false => exact ⟨[], c :: r, rfl, by simp [hc], rfl, fun d q h => by cases h; exact hc⟩
    | true =>
      obtain ⟨w, q, rfl, h2, h3, h4⟩ := ih
      exact ⟨c :: w, q, rfl, by simp [hc, h2], by simp [hc, h3], h4⟩
theorem split_first {c : Nat} {l : List Nat} (h : c ∈ l) : ∃ p q, l = p ++ c :: q ∧ c ∉ p := by
  induction l with
  | nil => cases h
  | cons d r ih =>
    by_cases hd : c = d
    · subst hd; exact ⟨[], r, rfl, by simp⟩
    · obtain ⟨p, q, rfl, hp⟩ := ih (by simpa [hd] using h)
      exact ⟨d :: p, q, rfl, by simp [hd, hp]⟩
theorem inn58 : innB 58 = false := rfl
theorem no58 {w : List Nat} (h : w.all innB = true) : 58 ∉ w := fun hm => by
  have := List.all_eq_true.1 h 58 hm
  rw [inn58] at this; cases this
theorem name_inn {w : List Nat} (h : nameL w = true) : w.all innB = true := by
  cases w with
  | nil => rfl
  | cons c r =>
    simp only [nameL, Bool.and_eq_true] at h
    exact h.2
theorem keys_step {l : List Nat} (hl : l ≠ []) (n : Nat) :
    keysL (piecesL l) n = if (nameL (l.take (wordL l)) = true ∧ l.getD (wordL l) 0 = 58) then keysL (piecesL (l.drop (wordL l + 1))) (n + 1) else -1 := by
  obtain ⟨w, r, h1, h2, h3, h4⟩ := wordL_split l
  rw [← h2]
  have ht : l.take w.length = w := by rw [h1]; simp
  rw [ht]
  by_cases hc : nameL w = true ∧ l.getD w.length 0 = 58
  · rw [if_pos hc]
    obtain ⟨hn, h58⟩ := hc
    have hr : ∃ q, r = 58 :: q := by
      rw [h1, List.getD_eq_getElem?_getD, List.getElem?_append_right (Nat.le_refl _), Nat.sub_self] at h58
      cases r with
      | nil => simp at h58
      | cons c q => simp at h58; exact ⟨q, by rw [h58]⟩
    obtain ⟨q, rfl⟩ := hr
    rw [h1, pieces_cons (no58 h3)]
    rw [show (w ++ 58 :: q).drop (w.length + 1) = q by simp]
    simp only [keysL]
    rw [if_neg (by simp), if_pos (by simp [hn])]
  · rw [if_neg hc]
    have bad : ∀ p ps, piecesL l = p :: ps → p ≠ [] → keyL p = false → keysL (piecesL l) n = -1 := fun p ps e h0 h => by rw [e]; exact keysL_bad h0 h
    by_cases h58 : 58 ∈ l
    · obtain ⟨p, q, hpq, hp⟩ := split_first h58
      refine bad (p ++ [58]) (piecesL q) (by rw [hpq, pieces_cons hp]) (by simp) ?_
      unfold keyL
      rw [Bool.eq_false_iff]
      intro h
      simp at h
      refine hc ?_
      have hpw : p = w := by
        have hpi := name_inn h
        have e : p ++ 58 :: q = w ++ r := by rw [← hpq, h1]
        rcases List.append_eq_append_iff.1 e with ⟨a, rfl, ha⟩ | ⟨a, rfl, ha⟩
        · cases a with
          | nil => simp
          | cons c a =>
            simp only [List.cons_append, List.cons.injEq] at ha
            rw [← ha.1] at h3
            exact absurd (by simp) (no58 h3)
        · cases a with
          | nil => simp
          | cons c a =>
            have := h4 c (a ++ 58 :: q) (by rw [ha]; rfl)
            have h5 := List.all_eq_true.1 hpi c (by simp)
            rw [this] at h5; cases h5
      subst hpw
      refine ⟨h, ?_⟩
      rw [hpq]; simp
    · refine bad l [] (pieces_none h58) hl ?_
      unfold keyL
      rw [Bool.eq_false_iff]
      intro h
      simp only [Bool.and_eq_true, decide_eq_true_eq] at h
      exact h58 (List.mem_of_getLast? h.1)
theorem keywords_spec (s : ByteArray) (hs : s.size ≤ 140737488355328) : Fun Tryz.prog 106 [.string s] [] (fun v Post => v = vi (keysL (piecesL (bytesN s)) 0) ∧ Post = []) := by
  refine Fun.intro low106 (by simp [n106]) ?_
  have hlen := bytesN_len s
  refine GOH ?_
  refine VC.loop (α := Nat × Nat) (Γf := fun z => [(0, .string s), (3, vi z.1), (4, vi z.2)]) (Hf := fun _ => []) (I := fun z => z.2 ≤ s.size ∧ z.1 ≤ z.2 ∧ keysL (piecesL ((bytesN s).drop z.2)) z.1 = keysL (piecesL (bytesN s)) 0) (μ := fun z => s.size - z.2) (0, 0) ⟨Nat.zero_le _, Nat.le_refl _, rfl⟩ (by exact SUx) Imp.nil ?_
  rintro ⟨n, i⟩ ⟨i1, i2, i3⟩
  simp only at i1 i2 i3
  dsimp only
  refine GOH ?_
  by_cases hk : i < s.size
  rotate_left
  · rw [decide_eq_false (by omega)]
    rw [dropN_nil (by omega)] at i3
    refine GOH ?_
    refine ⟨.inr rfl, _, _, .tmp (by rfl) .nil, by exact IMx, ?_, rfl⟩
    rw [← i3]; rfl
  rw [decide_eq_true (by omega)]
  have hw := word_spec s hs i (by omega)
  have hwl := wordL_le ((bytesN s).drop i)
  rw [List.length_drop, hlen] at hwl
  obtain ⟨c, hc, hc2⟩ := bytesN_ex hk
  have hne : (bytesN s).drop i ≠ [] := by rw [dropN_cons hc2]; simp
  have hst := keys_step hne n
  rw [i3, List.drop_drop] at hst
  have hga : ((bytesN s).drop i).getD (wordL ((bytesN s).drop i)) 0 = (bytesN s).getD (i + wordL ((bytesN s).drop i)) 0 := by
    rw [List.getD_eq_getElem?_getD, List.getD_eq_getElem?_getD, List.getElem?_drop]
  rw [hga] at hst
  have hex : bytesN (s.extract i (i + wordL ((bytesN s).drop i))) = ((bytesN s).drop i).take (wordL ((bytesN s).drop i)) := by
    rw [bytesN_extract, List.drop_take, Nat.add_sub_cancel_left]
  rw [← hex] at hst
  have hst1 := fun h => hst.trans (if_pos h)
  have hst2 := fun h => hst.trans (if_neg h)
  clear hst
  generalize hwe : wordL ((bytesN s).drop i) = w at *
  refine GOH ?_
  refine st_callP hw (by rfl) ?_
  refine GOH ?_
  refine st_slcS (l := i) (h := i + w) (by rfl) (.num (by rfl)) (.num (by rfl)) ⟨by omega, by omega⟩ ?_
  refine GOH ?_
  refine st_callP (nameR_spec (s.extract i (i + w)) (by rw [ByteArray.size_extract]; omega)) (by rfl) ?_
  cases hn : nameS (s.extract i (i + w)) with
  | false =>
    have hst := hst2 (fun h => by have h1 : nameS (s.extract i (i + w)) = true := h.1; rw [hn] at h1; cases h1)
    refine GOH ?_
    refine ⟨.inr rfl, _, _, .tmp (by rfl) .nil, by exact IMx, ?_, rfl⟩
    rw [hst]; rfl
  | true =>
    refine GOH ?_
    refine st_callP (atR_spec s hs (i + w)) (by rfl) ?_
    refine GOH ?_
    by_cases h58 : (bytesN s).getD (i + w) 0 = 58
    rotate_left
    · have hst := hst2 (fun h => h58 h.2)
      rw [show decide (((bytesN s).getD (i + w) 0 : Int) = 58) = false from decide_eq_false (by omega)]
      refine GOH ?_
      refine ⟨.inr rfl, _, _, .tmp (by rfl) .nil, by exact IMx, ?_, rfl⟩
      rw [hst]; rfl
    have hst := hst1 ⟨hn, h58⟩
    have hlt : i + w < s.size := by
      rcases Nat.lt_or_ge (i + w) s.size with h | h
      · exact h
      · rw [List.getD_eq_getElem?_getD, List.getElem?_eq_none (by omega)] at h58; cases h58
    rw [show decide (((bytesN s).getD (i + w) 0 : Int) = 58) = true from decide_eq_true (by omega)]
    refine GOH ?_
    exact ⟨(n + 1, i + w + 1), ⟨by simp only; omega, by simp only; omega, by simp only; rw [hst, Nat.add_assoc]⟩, by simp only; omega, by exact SUx, Imp.nil⟩
theorem arityR_spec (s : ByteArray) (hs : s.size ≤ 140737488355328) : Fun Tryz.prog 65 [.string s] [] (fun v Post => v = vi (arityS s) ∧ Post = []) := by
  refine Fun.intro low65 (by simp [n65]) ?_
  have hlen := bytesN_len s
  refine GOH ?_
  refine st_callP (nameR_spec s hs) (by rfl) ?_
  by_cases h0 : s = ⟨#[]⟩
  · subst h0
    refine GOH ?_
    refine ⟨.inr rfl, _, _, .tmp (by rfl) .nil, by exact IMx, ?_, rfl⟩
    rfl
  obtain ⟨c, r, hc, hr, hc256, hpos⟩ := bytesN_cons h0
  refine GOH ?_
  rw [show decide ((s.size : Int) = 0) = false from decide_eq_false (by omega)]
  cases hn : nameS s with
  | true =>
    refine GOH ?_
    refine ⟨.inr rfl, _, _, .tmp (by rfl) .nil, by exact IMx, ?_, rfl⟩
    unfold arityS arityL; rw [show nameL (bytesN s) = true from hn]; rfl
  | false =>
    have hn2 : nameL (bytesN s) = false := hn
    have har : arityS s = if (binB c.toNat || decide (c.toNat = 124)) = true then (if signL (bytesN s) = (bytesN s).length then 1 else -1) else keysL (piecesL (bytesN s)) 0 := by
      unfold arityS arityL
      rw [if_neg (by rw [hn2]; simp)]
      simp only [hr]
    have hsg := signR_spec s hs 0 hpos
    rw [List.drop_zero, Nat.zero_add] at hsg
    refine GOH ?_
    refine st_idxS (by rfl) (by rfl) (j := 0) rfl hc ?_
    refine GOH ?_
    refine st_callP (binaryR_spec _ hc256) (by rfl) ?_
    have hgo : (binB c.toNat || decide (c.toNat = 124)) = true → arityS s = (if signL (bytesN s) = (bytesN s).length then 1 else -1) := fun h => by rw [har, if_pos h]
    cases hb : binB c.toNat with
    | true =>
      have hgo := hgo (by simp [hb])
      generalize signL (bytesN s) = z at hsg hgo
      refine GOH ?_
      refine st_callP hsg (by rfl) ?_
      refine GOH ?_
      by_cases he : z = (bytesN s).length
      · rw [decide_eq_true (show ((z : Nat) : Int) = (s.size : Int) by omega)]
        rw [if_pos he] at hgo
        refine GOH ?_
        refine ⟨.inr rfl, _, _, .tmp (by rfl) .nil, by exact IMx, ?_, rfl⟩
        rw [hgo]; rfl
      · rw [decide_eq_false (show ¬ ((z : Nat) : Int) = (s.size : Int) by omega)]
        rw [if_neg he] at hgo
        refine GOH ?_
        refine ⟨.inr rfl, _, _, .tmp (by rfl) .nil, by exact IMx, ?_, rfl⟩
        rw [hgo]; rfl
    | false =>
      refine GOH ?_
      refine st_idxS (by rfl) (by rfl) (j := 0) rfl hc ?_
      refine GOH ?_
      by_cases h124 : c.toNat = 124
      · have hgo := hgo (by simp [h124])
        generalize signL (bytesN s) = z at hsg hgo
        rw [show decide ((c.toNat : Int) = 124) = true from decide_eq_true (by omega)]
        refine GOH ?_
        refine st_callP hsg (by rfl) ?_
        refine GOH ?_
        by_cases he : z = (bytesN s).length
        · rw [decide_eq_true (show ((z : Nat) : Int) = (s.size : Int) by omega)]
          rw [if_pos he] at hgo
          refine GOH ?_
          refine ⟨.inr rfl, _, _, .tmp (by rfl) .nil, by exact IMx, ?_, rfl⟩
          rw [hgo]; rfl
        · rw [decide_eq_false (show ¬ ((z : Nat) : Int) = (s.size : Int) by omega)]
          rw [if_neg he] at hgo
          refine GOH ?_
          refine ⟨.inr rfl, _, _, .tmp (by rfl) .nil, by exact IMx, ?_, rfl⟩
          rw [hgo]; rfl
      rw [show decide ((c.toNat : Int) = 124) = false from decide_eq_false (by omega)]
      rw [if_neg (by simp [hb, h124])] at har
      refine GOH ?_
      refine st_callP (keywords_spec s hs) (by rfl) ?_
      refine GOH ?_
      refine ⟨.inr rfl, _, _, .tmp (by rfl) .nil, by exact IMx, ?_, rfl⟩
      rw [har]; rfl
end Go.Proofs.YtmnmandpdadedaaGreatDoor

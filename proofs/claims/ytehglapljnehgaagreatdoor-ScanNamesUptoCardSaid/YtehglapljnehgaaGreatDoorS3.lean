/-
  The document's scanning: letters, names, binary selectors.
-/
import Derived.Test.YtehglapljnehgaaGreatDoorS2
import Derived.Test.YtehglapljnehgaaGreatDoorV11
import Derived.Test.YtehglapljnehgaaGreatDoorCards
import Derived.Test.YtehglapljnehgaaGreatDoorTie
import Derived.OpenShut
import Derived.Deep.DeepHandedRow
import Derived.Deep.DeepWitnessRowRef
import Derived.Lib.LaidTab
import Derived.JoinedCond
import Derived.Lay
import Derived.Stop.LaidErr
import Derived.KernelRfl
set_option linter.unusedSimpArgs false
set_option linter.unusedVariables false
namespace Go.Proofs.YtehglapljnehgaaGreatDoor
open Go Go.V
set_option maxHeartbeats 3200000
set_option maxRecDepth 100000
theorem dropN_cons {s : ByteArray} {j c : Nat} (h : (bytesN s)[j]? = some c) : (bytesN s).drop j = c :: (bytesN s).drop (j + 1) := by
  obtain ⟨h1, h2⟩ := List.getElem?_eq_some_iff.1 h
  rw [List.drop_eq_getElem_cons h1, h2]
theorem dropN_nil {s : ByteArray} {j : Nat} (h : s.size ≤ j) : (bytesN s).drop j = [] := List.drop_eq_nil_of_le (by rw [bytesN_len]; exact h)
theorem letterR_spec (c : Nat) (hc : c < 256) : Fun Tryz.prog 44 [cv c] [] (fun v Post => v = .bool (letB c) ∧ Post = []) := by
  refine Fun.intro low44 (by simp [n44]) ?_
  (repeat' (first | refine GOPH ?_ | refine st_gcase (by rfl) (fun _ => ?_) (fun _ => ?_) | refine st_pcase (by rfl) (fun _ => ?_) (fun _ => ?_) | refine VC.seq_cond (by rfl) (fun _ => ?_) (fun _ => ?_) | refine VC.cond (by rfl) (fun _ => ?_) (fun _ => ?_)))
  all_goals refine ⟨.inr rfl, _, _, .tmp (by rfl) .nil, by exact IMx, ?_, rfl⟩
  all_goals (simp only [tup, letB, Value.bool.injEq, decide_eq_true_eq, decide_eq_false_iff_not] at *)
  all_goals (rw [Bool.eq_iff_iff]; simp only [Bool.or_eq_true, Bool.and_eq_true, Bool.not_eq_true', decide_eq_true_eq, decide_eq_false_iff_not, true_iff, iff_true, reduceCtorEq, false_iff, iff_false]; omega)
theorem digitR_spec (c : Nat) (hc : c < 256) : Fun Tryz.prog 68 [cv c] [] (fun v Post => v = .bool (digB c) ∧ Post = []) := by
  refine Fun.intro low68 (by simp [n68]) ?_
  (repeat' (first | refine GOPH ?_ | refine st_gcase (by rfl) (fun _ => ?_) (fun _ => ?_) | refine st_pcase (by rfl) (fun _ => ?_) (fun _ => ?_) | refine VC.seq_cond (by rfl) (fun _ => ?_) (fun _ => ?_) | refine VC.cond (by rfl) (fun _ => ?_) (fun _ => ?_)))
  all_goals refine ⟨.inr rfl, _, _, .tmp (by rfl) .nil, by exact IMx, ?_, rfl⟩
  all_goals (simp only [tup, digB, Value.bool.injEq, decide_eq_true_eq, decide_eq_false_iff_not] at *)
  all_goals (rw [Bool.eq_iff_iff]; simp only [Bool.or_eq_true, Bool.and_eq_true, Bool.not_eq_true', decide_eq_true_eq, decide_eq_false_iff_not, true_iff, iff_true, reduceCtorEq, false_iff, iff_false]; omega)
theorem innerR_spec (c : Nat) (hc : c < 256) : Fun Tryz.prog 67 [cv c] [] (fun v Post => v = .bool (innB c) ∧ Post = []) := by
  refine Fun.intro low67 (by simp [n67]) ?_
  refine GOH ?_
  refine st_callP (letterR_spec c hc) (by rfl) ?_
  cases hl : letB c with
  | true =>
    refine GOH ?_
    refine ⟨.inr rfl, _, _, .tmp (by rfl) .nil, by exact IMx, ?_, rfl⟩
    simp [tup, innB, hl]
  | false =>
    refine GOH ?_
    refine st_callP (digitR_spec c hc) (by rfl) ?_
    refine GOH ?_
    refine ⟨.inr rfl, _, _, .tmp (by rfl) .nil, by exact IMx, ?_, rfl⟩
    simp [tup, innB, hl]
theorem atR_spec (s : ByteArray) (hs : s.size ≤ 140737488355328) (k : Nat) : Fun Tryz.prog 69 [.string s, vi k] [] (fun v Post => v = cv ((bytesN s).getD k 0) ∧ Post = []) := by
  refine Fun.intro low69 (by simp [n69]) ?_
  refine GOH ?_
  by_cases h : k < s.size
  · rw [decide_eq_true (by omega)]
    obtain ⟨c, hc, hc2⟩ := bytesN_ex h
    refine GOH ?_
    refine st_idxS (by rfl) (by rfl) (j := k) rfl hc ?_
    refine GOH ?_
    refine ⟨.inr rfl, _, _, .tmp (by rfl) .nil, by exact IMx, ?_, rfl⟩
    simp [tup, List.getD_eq_getElem?_getD, hc2]
  · rw [decide_eq_false (by omega)]
    refine GOH ?_
    refine ⟨.inr rfl, _, _, .tmp (by rfl) .nil, by exact IMx, ?_, rfl⟩
    have : (bytesN s)[k]? = none := List.getElem?_eq_none (by rw [bytesN_len]; omega)
    simp [tup, List.getD_eq_getElem?_getD, this]
def binBs : ByteArray := ⟨#[43, 45, 42, 47, 92, 126, 60, 62, 61, 64, 37, 38, 63, 44, 33]⟩
theorem binB_at (c : Nat) : binB c = (bytesN binBs).contains c := rfl
theorem binaryR_spec (c : Nat) (hc : c < 256) : Fun Tryz.prog 46 [cv c] [] (fun v Post => v = .bool (binB c) ∧ Post = []) := by
  refine Fun.intro low46 (by simp [n46]) ?_
  have hlen := bytesN_len binBs
  have hsz : binBs.size = 15 := rfl
  refine GOH ?_
  refine VC.loop (α := Nat) (Γf := fun k => [(0, cv c), (3, .string binBs), (4, vi k)]) (Hf := fun _ => []) (I := fun k => k ≤ 15 ∧ ∀ i, i < k → (bytesN binBs)[i]? ≠ some c) (μ := fun k => 15 - k) 0 ⟨Nat.zero_le _, fun i h => by omega⟩ (by exact SUx) Imp.nil ?_
  rintro k ⟨i1, i2⟩
  generalize hB : binBs = B at *
  refine GOH ?_
  by_cases hk : k < 15
  rotate_left
  · rw [decide_eq_false (by omega)]
    refine GOH ?_
    refine ⟨.inr rfl, _, _, .tmp (by rfl) .nil, by exact IMx, ?_, rfl⟩
    have : binB c = false := by
      rw [binB_at, hB, Bool.eq_false_iff]
      intro h
      obtain ⟨i, hi⟩ := List.getElem?_of_mem (List.contains_iff_mem.1 h)
      have hl := (List.getElem?_eq_some_iff.1 hi).1
      exact i2 i (by omega) hi
    simp [tup, this]
  rw [decide_eq_true (by omega)]
  obtain ⟨d, hd, hd2⟩ := bytesN_ex (s := B) (i := k) (by omega)
  refine GOH ?_
  refine st_idxS (by rfl) (by rfl) (j := k) rfl hd ?_
  refine GOH ?_
  by_cases he : d.toNat = c
  · rw [show decide ((d.toNat : Int) = (c : Int)) = true from decide_eq_true (by omega)]
    refine GOH ?_
    refine ⟨.inr rfl, _, _, .tmp (by rfl) .nil, by exact IMx, ?_, rfl⟩
    have : binB c = true := by
      rw [binB_at, hB]
      exact List.contains_iff_mem.2 (List.mem_of_getElem? (i := k) (by rw [hd2, he]))
    simp [tup, this]
  · rw [show decide ((d.toNat : Int) = (c : Int)) = false from decide_eq_false (by omega)]
    refine GOH ?_
    refine ⟨k + 1, ⟨by omega, fun i hi => ?_⟩, by omega, by exact SUx, Imp.nil⟩
    by_cases e : i = k
    · subst e; rw [hd2]; simpa using he
    · exact i2 i (by omega)
def wordL (l : List Nat) : Nat := (l.takeWhile innB).length
theorem wordL_le (l : List Nat) : wordL l ≤ l.length := (List.takeWhile_sublist _).length_le
theorem word_spec (s : ByteArray) (hs : s.size ≤ 140737488355328) (i : Nat) (hi : i ≤ s.size) : Fun Tryz.prog 45 [.string s, vi i] [] (fun v Post => v = vi (i + wordL ((bytesN s).drop i) : Nat) ∧ Post = []) := by
  refine Fun.intro low45 (by simp [n45]) ?_
  refine GOH ?_
  refine VC.loop (α := Nat) (Γf := fun k => [(0, .string s), (1, vi k)]) (Hf := fun _ => []) (I := fun k => k ≤ s.size ∧ k + wordL ((bytesN s).drop k) = i + wordL ((bytesN s).drop i)) (μ := fun k => s.size - k) i ⟨hi, rfl⟩ (by exact SUx) Imp.nil ?_
  rintro k ⟨i1, i2⟩
  refine GOH ?_
  by_cases hk : k < s.size
  rotate_left
  · rw [decide_eq_false (by omega)]
    rw [dropN_nil (by omega)] at i2
    refine GOH ?_
    refine ⟨.inr rfl, _, _, .tmp (by rfl) .nil, by exact IMx, ?_, rfl⟩
    rw [← i2]; rfl
  rw [decide_eq_true (by omega)]
  obtain ⟨c, hc, hc2⟩ := bytesN_ex hk
  refine GOH ?_
  refine st_idxS (by rfl) (by rfl) (j := k) rfl hc ?_
  refine GOH ?_
  refine st_callP (innerR_spec _ (bytesN_lt s _ (List.mem_of_getElem? hc2))) (by rfl) ?_
  rw [dropN_cons hc2] at i2
  cases hb : innB c.toNat with
  | false =>
    refine GOH ?_
    refine ⟨.inr rfl, _, _, .tmp (by rfl) .nil, by exact IMx, ?_, rfl⟩
    rw [← i2]; simp [tup, wordL, hb]
  | true =>
    refine GOH ?_
    refine ⟨k + 1, ⟨by omega, ?_⟩, by omega, by exact SUx, Imp.nil⟩
    rw [← i2]; simp [wordL, hb]; omega
theorem runL_sign {l : List Nat} {k c : Nat} (h : l[k]? = some c) : runL signOn (l.drop k) = if (binB c && (decide (c ≠ 45) || !digB (l.getD (k + 1) 0))) = true then 1 + runL signOn (l.drop (k + 1)) else 0 := by
  rw [← signOn_drop h]
  obtain ⟨h1, h2⟩ := List.getElem?_eq_some_iff.1 h
  rw [List.drop_eq_getElem_cons h1]
  rfl
theorem signR_spec (s : ByteArray) (hs : s.size ≤ 140737488355328) (i : Nat) (hi : i < s.size) : Fun Tryz.prog 47 [.string s, vi i] [] (fun v Post => v = vi (i + signL ((bytesN s).drop i) : Nat) ∧ Post = []) := by
  refine Fun.intro low47 (by simp [n47]) ?_
  have hlen := bytesN_len s
  obtain ⟨c0, hc0, hc02⟩ := bytesN_ex hi
  have hd0 := dropN_cons hc02
  refine GOH ?_
  refine st_idxS (by rfl) (by rfl) (j := i) rfl hc0 ?_
  refine GOH ?_
  by_cases h0 : c0.toNat = 124
  · rw [show decide ((c0.toNat : Int) = 124) = true from decide_eq_true (by omega)]
    refine GOH ?_
    refine ⟨.inr rfl, _, _, .tmp (by rfl) .nil, by exact IMx, ?_, rfl⟩
    rw [hd0]; simp [tup, signL, h0]
  rw [show decide ((c0.toNat : Int) = 124) = false from decide_eq_false (by omega)]
  have hsl : signL ((bytesN s).drop i) = if binB c0.toNat = true then 1 + runL signOn ((bytesN s).drop (i + 1)) else 0 := by
    rw [hd0]; simp only [signL, if_neg h0]
  refine GOH ?_
  refine VC.loop (α := Nat) (Γf := fun k => [(0, .string s), (1, vi i), (5, vi k)]) (Hf := fun _ => []) (I := fun k => k ≤ s.size ∧ (k = i ∨ (i < k ∧ k + runL signOn ((bytesN s).drop k) = i + signL ((bytesN s).drop i)))) (μ := fun k => s.size - k) i ⟨by omega, .inl rfl⟩ (by exact SUx) Imp.nil ?_
  rintro k ⟨i1, i2⟩
  refine GOH ?_
  by_cases hk : k < s.size
  rotate_left
  · rw [decide_eq_false (by omega)]
    rcases i2 with rfl | ⟨i2, i3⟩
    · omega
    rw [dropN_nil (by omega)] at i3
    refine GOH ?_
    refine ⟨.inr rfl, _, _, .tmp (by rfl) .nil, by exact IMx, ?_, rfl⟩
    rw [← i3]; rfl
  rw [decide_eq_true (by omega)]
  obtain ⟨c, hc, hc2⟩ := bytesN_ex hk
  refine GOH ?_
  refine st_idxS (by rfl) (by rfl) (j := k) rfl hc ?_
  refine GOH ?_
  refine st_callP (binaryR_spec _ (bytesN_lt s _ (List.mem_of_getElem? hc2))) (by rfl) ?_
  have hrun := runL_sign hc2
  have hi0 : k = i → c = c0 := fun e => by subst e; rw [hc0] at hc; cases hc; rfl
  cases hb : binB c.toNat with
  | false =>
    refine GOH ?_
    refine ⟨.inr rfl, _, _, .tmp (by rfl) .nil, by exact IMx, ?_, rfl⟩
    rcases i2 with rfl | ⟨i2, i3⟩
    · rw [hsl, ← hi0 rfl, hb]; rfl
    · rw [← i3, hrun, hb]; rfl
  | true =>
    rw [hb, Bool.true_and] at hrun
    refine GOH ?_
    rcases i2 with rfl | ⟨i2, i3⟩
    · rw [show decide ((k : Int) > (k : Int)) = false from decide_eq_false (by omega)]
      refine GOH ?_
      refine ⟨k + 1, ⟨by omega, .inr ⟨by omega, ?_⟩⟩, by omega, by exact SUx, Imp.nil⟩
      rw [hsl, ← hi0 rfl, hb]; simp only [if_true]; omega
    rw [show decide ((k : Int) > (i : Int)) = true from decide_eq_true (by omega)]
    refine GOH ?_
    refine st_idxS (by rfl) (by rfl) (j := k) rfl hc ?_
    refine GOH ?_
    by_cases h45 : c.toNat = 45
    rotate_left
    · rw [show decide ((c.toNat : Int) = 45) = false from decide_eq_false (by omega)]
      refine GOH ?_
      refine ⟨k + 1, ⟨by omega, .inr ⟨by omega, ?_⟩⟩, by omega, by exact SUx, Imp.nil⟩
      rw [← i3, hrun]; simp [h45]; omega
    rw [show decide ((c.toNat : Int) = 45) = true from decide_eq_true (by omega)]
    refine GOH ?_
    refine st_callP (atR_spec s hs (k + 1)) (by rfl) ?_
    refine GOH ?_
    refine st_callP (digitR_spec ((bytesN s).getD (k + 1) 0) (by
      rw [List.getD_eq_getElem?_getD]
      cases h : (bytesN s)[k + 1]? with
      | none => decide
      | some x => exact bytesN_lt s _ (List.mem_of_getElem? h))) (by rfl) ?_
    generalize (bytesN s).getD (k + 1) 0 = d at hrun ⊢
    cases hdd : digB d with
    | true =>
      refine GOH ?_
      refine ⟨.inr rfl, _, _, .tmp (by rfl) .nil, by exact IMx, ?_, rfl⟩
      rw [← i3, hrun]; simp [tup, h45, hdd]
    | false =>
      refine GOH ?_
      refine ⟨k + 1, ⟨by omega, .inr ⟨by omega, ?_⟩⟩, by omega, by exact SUx, Imp.nil⟩
      rw [← i3, hrun]; simp [hdd]; omega
theorem wordL_all (l : List Nat) : l.all innB = decide (wordL l = l.length) := by
  induction l with
  | nil => rfl
  | cons c r ih =>
    simp only [List.all_cons, wordL, List.takeWhile_cons]
    cases hc : innB c with
    | false => simp
    | true => 
      simp only [Bool.true_and, if_true, List.length_cons, ih, wordL, Nat.add_right_cancel_iff]
      exact decide_eq_decide.2 Iff.rfl
theorem nameR_spec (s : ByteArray) (hs : s.size ≤ 140737488355328) : Fun Tryz.prog 22 [.string s] [] (fun v Post => v = .bool (nameS s) ∧ Post = []) := by
  refine Fun.intro low22 (by simp [n22]) ?_
  have hlen := bytesN_len s
  unfold nameS nameL
  refine GOH ?_
  by_cases h0 : s = ⟨#[]⟩
  · subst h0
    refine GOH ?_
    refine ⟨.inr rfl, _, _, .tmp (by rfl) .nil, by exact IMx, ?_, rfl⟩
    rfl
  obtain ⟨c, r, hc, hr, hc256, hpos⟩ := bytesN_cons h0
  rw [decide_eq_true (show (s.size : Int) > 0 by omega)]
  refine GOH ?_
  by_cases h40 : s.size ≤ 40
  rotate_left
  · rw [decide_eq_false (by omega)]
    refine GOH ?_
    refine ⟨.inr rfl, _, _, .tmp (by rfl) .nil, by exact IMx, ?_, rfl⟩
    have h2 : ¬ (c.toNat :: r).length ≤ 40 := by rw [← hr]; omega
    simp only [tup, hr, decide_eq_false h2, Bool.false_and]
  rw [decide_eq_true (by omega)]
  refine GOH ?_
  refine st_idxS (by rfl) (by rfl) (j := 0) rfl hc ?_
  refine GOH ?_
  refine st_callP (letterR_spec _ hc256) (by rfl) ?_
  cases hl : letB c.toNat with
  | false =>
    refine GOH ?_
    refine ⟨.inr rfl, _, _, .tmp (by rfl) .nil, by exact IMx, ?_, rfl⟩
    simp [tup, hr, hl]
  | true =>
    have hw := word_spec s hs 0 (by omega)
    rw [List.drop_zero, Nat.zero_add] at hw
    refine GOH ?_
    refine st_callP hw (by rfl) ?_
    refine GOH ?_
    refine ⟨.inr rfl, _, _, .tmp (by rfl) .nil, by exact IMx, ?_, rfl⟩
    have h2 : (c.toNat :: r).length ≤ 40 := by rw [← hr]; omega
    have hall := wordL_all (bytesN s)
    rw [hr] at hall
    simp only [tup, hr, decide_eq_true h2, hl, hall, Bool.true_and, Value.bool.injEq]
    rw [← hr, hlen]
    (rw [Bool.eq_iff_iff]; simp only [Bool.or_eq_true, Bool.and_eq_true, Bool.not_eq_true', decide_eq_true_eq, decide_eq_false_iff_not, true_iff, iff_true, reduceCtorEq, false_iff, iff_false]; omega)
theorem wordL_split (l : List Nat) : ∃ w r, l = w ++ r ∧ w.length = wordL l ∧ w.all innB = true ∧ ∀ c q, r = c :: q → innB c = false := by
  unfold wordL
  induction l with
  | nil => exact ⟨[], [], rfl, rfl, rfl, fun c q h => by cases h⟩
  | cons c r ih =>
    cases hc : innB c with
    | false => exact ⟨[], c :: r, rfl, by simp [hc], rfl, fun d q h => by cases h; exact hc⟩
    | true =>
      obtain ⟨w, q, rfl, h2, h3, h4⟩ := ih
      exact ⟨c :: w, q, rfl, by simp [hc, h2], by simp [hc, h3], h4⟩
theorem split_first {c : Nat} {l : List Nat} (h : c ∈ l) : ∃ p q, l = p ++ c :: q ∧ c ∉ p := by
  induction l with
  | nil => cases h
  | cons d r ih =>
    by_cases hd : c = d
    · subst hd; exact ⟨[], r, rfl, by simp⟩
    · obtain ⟨p, q, rfl, hp⟩ := ih (by simpa [hd] using h)
      exact ⟨d :: p, q, rfl, by simp [hd, hp]⟩
theorem inn58 : innB 58 = false := rfl
theorem no58 {w : List Nat} (h : w.all innB = true) : 58 ∉ w := fun hm => by
  have := List.all_eq_true.1 h 58 hm
  rw [inn58] at this; cases this
theorem name_inn {w : List Nat} (h : nameL w = true) : w.all innB = true := by
  cases w with
  | nil => rfl
  | cons c r =>
    simp only [nameL, Bool.and_eq_true] at h
    exact h.2
theorem keys_step {l : List Nat} (hl : l ≠ []) (n : Nat) :
    keysL (piecesL l) n = if (nameL (l.take (wordL l)) = true ∧ l.getD (wordL l) 0 = 58) then keysL (piecesL (l.drop (wordL l + 1))) (n + 1) else -1 := by
  obtain ⟨w, r, h1, h2, h3, h4⟩ := wordL_split l
  rw [← h2]
  have ht : l.take w.length = w := by rw [h1]; simp
  rw [ht]
  by_cases hc : nameL w = true ∧ l.getD w.length 0 = 58
  · rw [if_pos hc]
    obtain ⟨hn, h58⟩ := hc
    have hr : ∃ q, r = 58 :: q := by
      rw [h1, List.getD_eq_getElem?_getD, List.getElem?_append_right (Nat.le_refl _), Nat.sub_self] at h58
      cases r with
      | nil => simp at h58
      | cons c q => simp at h58; exact ⟨q, by rw [h58]⟩
    obtain ⟨q, rfl⟩ := hr
    rw [h1, pieces_cons (no58 h3)]
    rw [show (w ++ 58 :: q).drop (w.length + 1) = q by simp]
    simp only [keysL]
    rw [if_neg (by simp), if_pos (by simp [hn])]
  · rw [if_neg hc]
    have bad : ∀ p ps, piecesL l = p :: ps → p ≠ [] → keyL p = false → keysL (piecesL l) n = -1 := fun p ps e h0 h => by rw [e]; exact keysL_bad h0 h
    by_cases h58 : 58 ∈ l
    · obtain ⟨p, q, hpq, hp⟩ := split_first h58
      refine bad (p ++ [58]) (piecesL q) (by rw [hpq, pieces_cons hp]) (by simp) ?_
      unfold keyL
      rw [Bool.eq_false_iff]
      intro h
      simp at h
      refine hc ?_
      have hpw : p = w := by
        have hpi := name_inn h
        have e : p ++ 58 :: q = w ++ r := by rw [← hpq, h1]
        rcases List.append_eq_append_iff.1 e with ⟨a, rfl, ha⟩ | ⟨a, rfl, ha⟩
        · cases a with
          | nil => simp
          | cons c a =>
            simp only [List.cons_append, List.cons.injEq] at ha
            rw [← ha.1] at h3
            exact absurd (by simp) (no58 h3)
        · cases a with
          | nil => simp
          | cons c a =>
            have := h4 c (a ++ 58 :: q) (by rw [ha]; rfl)
            have h5 := List.all_eq_true.1 hpi c (by simp)
            rw [this] at h5; cases h5
      subst hpw
      refine ⟨h, ?_⟩
      rw [hpq]; simp
    · refine bad l [] (pieces_none h58) hl ?_
      unfold keyL
      rw [Bool.eq_false_iff]
      intro h
      simp only [Bool.and_eq_true, decide_eq_true_eq] at h
      exact h58 (List.mem_of_getLast? h.1)
theorem keywords_spec (s : ByteArray) (hs : s.size ≤ 140737488355328) : Fun Tryz.prog 48 [.string s] [] (fun v Post => v = vi (keysL (piecesL (bytesN s)) 0) ∧ Post = []) := by
  refine Fun.intro low48 (by simp [n48]) ?_
  have hlen := bytesN_len s
  refine GOH ?_
  refine VC.loop (α := Nat × Nat) (Γf := fun z => [(0, .string s), (3, vi z.1), (4, vi z.2)]) (Hf := fun _ => []) (I := fun z => z.2 ≤ s.size ∧ z.1 ≤ z.2 ∧ keysL (piecesL ((bytesN s).drop z.2)) z.1 = keysL (piecesL (bytesN s)) 0) (μ := fun z => s.size - z.2) (0, 0) ⟨Nat.zero_le _, Nat.le_refl _, rfl⟩ (by exact SUx) Imp.nil ?_
  rintro ⟨n, i⟩ ⟨i1, i2, i3⟩
  simp only at i1 i2 i3
  dsimp only
  refine GOH ?_
  by_cases hk : i < s.size
  rotate_left
  · rw [decide_eq_false (by omega)]
    rw [dropN_nil (by omega)] at i3
    refine GOH ?_
    refine ⟨.inr rfl, _, _, .tmp (by rfl) .nil, by exact IMx, ?_, rfl⟩
    rw [← i3]; rfl
  rw [decide_eq_true (by omega)]
  have hw := word_spec s hs i (by omega)
  have hwl := wordL_le ((bytesN s).drop i)
  rw [List.length_drop, hlen] at hwl
  obtain ⟨c, hc, hc2⟩ := bytesN_ex hk
  have hne : (bytesN s).drop i ≠ [] := by rw [dropN_cons hc2]; simp
  have hst := keys_step hne n
  rw [i3, List.drop_drop] at hst
  have hga : ((bytesN s).drop i).getD (wordL ((bytesN s).drop i)) 0 = (bytesN s).getD (i + wordL ((bytesN s).drop i)) 0 := by
    rw [List.getD_eq_getElem?_getD, List.getD_eq_getElem?_getD, List.getElem?_drop]
  rw [hga] at hst
  have hex : bytesN (s.extract i (i + wordL ((bytesN s).drop i))) = ((bytesN s).drop i).take (wordL ((bytesN s).drop i)) := by
    rw [bytesN_extract, List.drop_take, Nat.add_sub_cancel_left]
  rw [← hex] at hst
  have hst1 := fun h => hst.trans (if_pos h)
  have hst2 := fun h => hst.trans (if_neg h)
  clear hst
  generalize hwe : wordL ((bytesN s).drop i) = w at *
  refine GOH ?_
  refine st_callP hw (by rfl) ?_
  refine GOH ?_
  refine st_slcS (l := i) (h := i + w) (by rfl) (.num (by rfl)) (.num (by rfl)) ⟨by omega, by omega⟩ ?_
  refine GOH ?_
  refine st_callP (nameR_spec (s.extract i (i + w)) (by rw [ByteArray.size_extract]; omega)) (by rfl) ?_
  cases hn : nameS (s.extract i (i + w)) with
  | false =>
    have hst := hst2 (fun h => by have h1 : nameS (s.extract i (i + w)) = true := h.1; rw [hn] at h1; cases h1)
    refine GOH ?_
    refine ⟨.inr rfl, _, _, .tmp (by rfl) .nil, by exact IMx, ?_, rfl⟩
    rw [hst]; rfl
  | true =>
    refine GOH ?_
    refine st_callP (atR_spec s hs (i + w)) (by rfl) ?_
    refine GOH ?_
    by_cases h58 : (bytesN s).getD (i + w) 0 = 58
    rotate_left
    · have hst := hst2 (fun h => h58 h.2)
      rw [show decide (((bytesN s).getD (i + w) 0 : Int) = 58) = false from decide_eq_false (by omega)]
      refine GOH ?_
      refine ⟨.inr rfl, _, _, .tmp (by rfl) .nil, by exact IMx, ?_, rfl⟩
      rw [hst]; rfl
    have hst := hst1 ⟨hn, h58⟩
    have hlt : i + w < s.size := by
      rcases Nat.lt_or_ge (i + w) s.size with h | h
      · exact h
      · rw [List.getD_eq_getElem?_getD, List.getElem?_eq_none (by omega)] at h58; cases h58
    rw [show decide (((bytesN s).getD (i + w) 0 : Int) = 58) = true from decide_eq_true (by omega)]
    refine GOH ?_
    exact ⟨(n + 1, i + w + 1), ⟨by simp only; omega, by simp only; omega, by simp only; rw [hst, Nat.add_assoc]⟩, by simp only; omega, by exact SUx, Imp.nil⟩
theorem arityR_spec (s : ByteArray) (hs : s.size ≤ 140737488355328) : Fun Tryz.prog 23 [.string s] [] (fun v Post => v = vi (arityS s) ∧ Post = []) := by
  refine Fun.intro low23 (by simp [n23]) ?_
  have hlen := bytesN_len s
  refine GOH ?_
  refine st_callP (nameR_spec s hs) (by rfl) ?_
  by_cases h0 : s = ⟨#[]⟩
  · subst h0
    refine GOH ?_
    refine ⟨.inr rfl, _, _, .tmp (by rfl) .nil, by exact IMx, ?_, rfl⟩
    rfl
  obtain ⟨c, r, hc, hr, hc256, hpos⟩ := bytesN_cons h0
  refine GOH ?_
  rw [show decide ((s.size : Int) = 0) = false from decide_eq_false (by omega)]
  cases hn : nameS s with
  | true =>
    refine GOH ?_
    refine ⟨.inr rfl, _, _, .tmp (by rfl) .nil, by exact IMx, ?_, rfl⟩
    unfold arityS arityL; rw [show nameL (bytesN s) = true from hn]; rfl
  | false =>
    have hn2 : nameL (bytesN s) = false := hn
    have har : arityS s = if (binB c.toNat || decide (c.toNat = 124)) = true then (if signL (bytesN s) = (bytesN s).length then 1 else -1) else keysL (piecesL (bytesN s)) 0 := by
      unfold arityS arityL
      rw [if_neg (by rw [hn2]; simp)]
      simp only [hr]
    have hsg := signR_spec s hs 0 hpos
    rw [List.drop_zero, Nat.zero_add] at hsg
    refine GOH ?_
    refine st_idxS (by rfl) (by rfl) (j := 0) rfl hc ?_
    refine GOH ?_
    refine st_callP (binaryR_spec _ hc256) (by rfl) ?_
    have hgo : (binB c.toNat || decide (c.toNat = 124)) = true → arityS s = (if signL (bytesN s) = (bytesN s).length then 1 else -1) := fun h => by rw [har, if_pos h]
    cases hb : binB c.toNat with
    | true =>
      have hgo := hgo (by simp [hb])
      generalize signL (bytesN s) = z at hsg hgo
      refine GOH ?_
      refine st_callP hsg (by rfl) ?_
      refine GOH ?_
      by_cases he : z = (bytesN s).length
      · rw [decide_eq_true (show ((z : Nat) : Int) = (s.size : Int) by omega)]
        rw [if_pos he] at hgo
        refine GOH ?_
        refine ⟨.inr rfl, _, _, .tmp (by rfl) .nil, by exact IMx, ?_, rfl⟩
        rw [hgo]; rfl
      · rw [decide_eq_false (show ¬ ((z : Nat) : Int) = (s.size : Int) by omega)]
        rw [if_neg he] at hgo
        refine GOH ?_
        refine ⟨.inr rfl, _, _, .tmp (by rfl) .nil, by exact IMx, ?_, rfl⟩
        rw [hgo]; rfl
    | false =>
      refine GOH ?_
      refine st_idxS (by rfl) (by rfl) (j := 0) rfl hc ?_
      refine GOH ?_
      by_cases h124 : c.toNat = 124
      · have hgo := hgo (by simp [h124])
        generalize signL (bytesN s) = z at hsg hgo
        rw [show decide ((c.toNat : Int) = 124) = true from decide_eq_true (by omega)]
        refine GOH ?_
        refine st_callP hsg (by rfl) ?_
        refine GOH ?_
        by_cases he : z = (bytesN s).length
        · rw [decide_eq_true (show ((z : Nat) : Int) = (s.size : Int) by omega)]
          rw [if_pos he] at hgo
          refine GOH ?_
          refine ⟨.inr rfl, _, _, .tmp (by rfl) .nil, by exact IMx, ?_, rfl⟩
          rw [hgo]; rfl
        · rw [decide_eq_false (show ¬ ((z : Nat) : Int) = (s.size : Int) by omega)]
          rw [if_neg he] at hgo
          refine GOH ?_
          refine ⟨.inr rfl, _, _, .tmp (by rfl) .nil, by exact IMx, ?_, rfl⟩
          rw [hgo]; rfl
      rw [show decide ((c.toNat : Int) = 124) = false from decide_eq_false (by omega)]
      rw [if_neg (by simp [hb, h124])] at har
      refine GOH ?_
      refine st_callP (keywords_spec s hs) (by rfl) ?_
      refine GOH ?_
      refine ⟨.inr rfl, _, _, .tmp (by rfl) .nil, by exact IMx, ?_, rfl⟩
      rw [har]; rfl
theorem scanNames_spec (A : List Atom) (hE : ErA A) (s : ByteArray) (hs : s.size ≤ 1048576) : Fun Tryz.prog 5 [.string s] [A] (fun v Post => v = .bool true ∧ Post = [A]) := by
  refine Fun.intro low5 (by simp [n5]) ?_
  refine GOH ?_
  refine st_call (awake_spec A hE) (by rfl) (by exact SPx) (fun v Post hv => ?_)
  obtain ⟨rfl, rfl⟩ := hv
  simp only [CNx]
  refine GOH ?_
  rw [decide_eq_false (show ¬ (s.size : Int) > 4194304 by omega)]
  refine GOH ?_
  refine st_callP (name_spec s (by omega)) (by rfl) ?_
  refine GOH ?_
  refine st_callP (arity_spec s (by omega)) (by rfl) ?_
  refine GOH ?_
  refine st_callP (nameR_spec s (by omega)) (by rfl) ?_
  cases hn : nameS s with
  | true =>
    refine GOH ?_
    refine st_callP (arityR_spec s (by omega)) (by rfl) ?_
    generalize arityS s = z
    refine GOH ?_
    exact endQ_mk (Post := [A]) (.inr rfl) (.tmp (by rfl) .nil) ⟨rfl, rfl⟩ (by exact IMx)
  | false =>
    refine GOH ?_
    refine st_callP (arityR_spec s (by omega)) (by rfl) ?_
    generalize arityS s = z
    refine GOH ?_
    exact endQ_mk (Post := [A]) (.inr rfl) (.tmp (by rfl) .nil) ⟨rfl, rfl⟩ (by exact IMx)
open Go Go.V Go.ChangeShapes Go.WideShapes Go.Deep
section
variable {H : Type} {enc : TypeId × Value → H}
theorem u4 : Tryz.prog.underlying 4 = some .bool := by kernel_rfl
theorem u9 : Tryz.prog.underlying 9 = some .string := by kernel_rfl
noncomputable def msE : Array (String × TypeId) := match Tryz.prog.underlying 96 with | some (.interface ms) => ms | _ => #[]
theorem uE : Tryz.prog.underlying 96 = some (.interface msE) := by kernel_rfl
theorem closedS : closedB Tryz.prog [4, 9, 40] = true := by kernel_rfl
theorem closedP : Closed Tryz.prog (· ∈ [4, 9, 40]) := closed_of closedS
theorem own : ownKnob Tryz.prog.godebug = none := by kernel_rfl
theorem str_form {W : World} {base : Nat} {v : Value} {d : DataW H} {p : List MemPlace} (hv : Value.okWide Tryz.prog W .any base 9 v) (h : DataW.Trod enc Tryz.prog W 0 (fun _ => true) true 9 v d p) (hb : Rows.uptoBulk d ≤ 1048576) : ∃ s : ByteArray, v = .string s ∧ s.size ≤ 1048576 := by
  obtain ⟨n, hn⟩ := h
  have hs : ∃ s, v = .string s := by
    cases v <;> simp only [Value.okWide, u9, Cell.okWide, Cell.ok] at hv
    exact ⟨_, rfl⟩
  obtain ⟨s, rfl⟩ := hs
  obtain ⟨t, hz, hx, hwf⟩ := DataW.trod_string u9 hn
  simp only [Value.cells, List.cons.injEq, Value.string.injEq, and_true] at hz
  subst hz
  refine ⟨s, rfl, ?_⟩
  have hd : d = .lit (.string s.data.toList) := congrArg Prod.fst hx
  rw [hd] at hb
  simp only [Rows.uptoBulk, Array.length_toList] at hb
  have : s.size = s.data.size := rfl
  omega
theorem witZ {C : Checked} {os : Os} {f : FuncId} {fn : Func} {s : OpenSpec} {conds : List PathCond} {apart : Bool} {laid : List (String × DataW Unit)} (w0 : World) (args : Array Value) (hos : w0.os = os)
    (hs : (w0.forCall (fun _ _ => 0) ⟨#[], args, []⟩).Shaped C.prog) (hok : Input.okWideB C.prog (w0.forCall (fun _ _ => 0) ⟨#[], args, []⟩) f ⟨#[], args, []⟩ = true)
    (hrow : s.preRow enc C.prog fn conds apart laid (w0.forCall (fun _ _ => 0) ⟨#[], args, []⟩).memory args) :
    ∃ (w : World) (tape : Tape) (i : Input), w.os = os ∧ (w.forCall tape i).Shaped C.prog ∧ i.vars = [] ∧ Input.okWide C.prog (w.forCall tape i) .any w.heap.size f i ∧
      s.preRow enc C.prog fn conds apart laid (w.forCall tape i).memory i.args ∧ ({ modest := false } : Assume).holds C.prog (lone (Frame.enter C.prog f i.args .normal) [] (w.forCall tape i)) :=
  ⟨w0, fun _ _ => 0, ⟨#[], args, []⟩, hos, hs, (Input.okWide_of_okWideB (base := 0) hok).1, (Input.okWide_of_okWideB hok).2, hrow, by
    simp only [Assume.holds]
    exact ⟨by simp, by simp, fun _ => Modest.zero, by simp, by simp⟩⟩
theorem gErr : Tryz.prog.globalNamed "strconv.ErrRange" = some 5 := by kernel_rfl
theorem gErrT : (Tryz.prog.globals[5]?).map (·.type) = some 96 := by kernel_rfl
theorem gRen : Tryz.sl174_ren.g 16 = 5 := by kernel_rfl
theorem err_in {W : World} {d : DataW Unit} {r : List (String × DataW Unit)} (h : laidMet Tryz.prog (("strconv.ErrRange", d) :: r) W) (hd : ∃ nm e, d = .iface nm e) {A : List Atom} (hA : ∀ a : Atom, a.holds W → a ∈ A) : ErA A := by
  obtain ⟨nm, e, rfl⟩ := hd
  obtain ⟨ps, ⟨g0, t0, cs0, f0, p0, q0, hg0, ht0, hv0, hd0, _, e0⟩, _, hrows⟩ := h
  obtain rfl := Option.some.inj (gErr.symm.trans hg0)
  obtain rfl := Option.some.inj (gErrT.symm.trans ht0)
  subst e0
  have hcs : ∃ te pe, cs0 = #[.iface te pe] := by
    obtain ⟨_, te, pe, he, _, _⟩ := iface_of_trod uE hd0
    exact ⟨te, pe, by rw [← he]⟩
  obtain ⟨te, pe, rfl⟩ := hcs
  obtain ⟨⟨c, t, hc⟩, _⟩ := hrows 5 0 (by simp [MemPlace.row])
  refine ⟨.iface te pe, ?_, .inr ⟨te, pe, rfl⟩⟩
  rw [gRen]
  have hcell : W.cell? ⟨5, 0, none⟩ = some (.iface te pe) := by simpa using World.var?_cell gErr hv0 0
  refine hA _ (holds_cell hcell ?_)
  unfold World.frozen?
  rw [hc]
  simp
end
end Go.Proofs.YtehglapljnehgaaGreatDoor

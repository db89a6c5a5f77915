/-
  Oops and headers as words: the calls of package words.
-/
import Derived.Test.YtmlnoodopoaafaaDoorH1
import Derived.Test.YtmlnoodopoaafaaDoorC1
set_option linter.unusedSimpArgs false
set_option linter.unusedVariables false
namespace Go.Proofs.YtmlnoodopoaafaaDoor
open Go Go.V
set_option maxHeartbeats 3200000
set_option maxRecDepth 100000
theorem tag_spec (o : Nat) (ho : o < 18446744073709551616) : Fun Tryd.prog 71 [uv o] [] (fun v Post => v = cv (tagO o) ∧ Post = []) := by
  refine Fun.intro low71 (by simp [n71]) ?_
  (repeat' (first | refine GOPH ?_ | refine st_gcase (by rfl) (fun _ => ?_) (fun _ => ?_) | refine st_pcase (by rfl) (fun _ => ?_) (fun _ => ?_) | refine VC.seq_cond (by rfl) (fun _ => ?_) (fun _ => ?_) | refine VC.cond (by rfl) (fun _ => ?_) (fun _ => ?_)))
  all_goals
    refine endQ_mk (Post := []) (.inr rfl) (.tmp (by rfl) .nil) ⟨?_, rfl⟩ Imp.nil
    simp only [decide_eq_true_eq, decide_eq_false_iff_not] at *
    unfold tagO
    repeat' split
    all_goals (first | rfl | (exfalso; omega))
theorem of_spec (o t : Nat) (ho : o < 18446744073709551616) : Fun Tryd.prog 104 [uv o, cv t] [] (fun v Post => v = .tuple #[vi ((if tagO o = t then o / 8 else 0 : Nat) : Int), .bool (decide (tagO o = t))] ∧ Post = []) := by
  refine Fun.intro low104 (by simp [n104]) ?_
  refine GOH ?_
  refine st_callP (tag_spec o ho) (by rfl) ?_
  (repeat' (first | refine GOPH ?_ | refine st_gcase (by rfl) (fun _ => ?_) (fun _ => ?_) | refine st_pcase (by rfl) (fun _ => ?_) (fun _ => ?_) | refine VC.seq_cond (by rfl) (fun _ => ?_) (fun _ => ?_) | refine VC.cond (by rfl) (fun _ => ?_) (fun _ => ?_)))
  all_goals
    refine endQ_mk (Post := []) (.inr rfl) (.tmp (by rfl) (.tmp (by rfl) .nil)) ⟨?_, rfl⟩ Imp.nil
    rename_i h
    have e : decide (tagO o = t) = decide ((tagO o : Int) = (t : Int)) := by simp only [decide_eq_decide]; omega
    simp only [Bool.not_eq_eq_eq_not, Bool.not_true, Bool.not_false] at h
    rw [e, h]
    simp only [decide_eq_true_eq, decide_eq_false_iff_not] at h
    first
      | rw [if_pos (by omega)]; rfl
      | rw [if_neg (by omega)]; rfl
theorem wordOf_spec (o : Nat) (ho : o < 18446744073709551616) : Fun Tryd.prog 68 [uv o] [] (fun v Post => v = .tuple #[vi (wordO o : Nat), .bool (decide (tagO o = 3))] ∧ Post = []) := by
  refine Fun.intro low68 (by simp [n68]) ?_
  refine GOH ?_
  refine st_callP (of_spec o 3 ho) (by rfl) ?_
  refine GOH ?_
  refine endQ_mk (Post := []) (.inr rfl) (.tmp (by rfl) (.tmp (by rfl) .nil)) ⟨?_, rfl⟩ Imp.nil
  rfl
theorem object_spec (w : Nat) (h1 : 1 ≤ w) (h2 : w ≤ 268435455) : Fun Tryd.prog 66 [vi w] [] (fun v Post => v = .tuple #[uv (8 * w), .bool true] ∧ Post = []) := by
  have hw : Fun Tryd.prog 102 [vi w, vi 1, vi 268435455, uv 0] [] (fun v Post => v = .tuple #[uv (8 * w), .bool true] ∧ Post = []) := by
    refine Fun.intro low102 (by simp [n102]) ?_
    (repeat' (first | refine GOPH ?_ | refine st_gcase (by rfl) (fun _ => ?_) (fun _ => ?_) | refine st_pcase (by rfl) (fun _ => ?_) (fun _ => ?_) | refine VC.seq_cond (by rfl) (fun _ => ?_) (fun _ => ?_) | refine VC.cond (by rfl) (fun _ => ?_) (fun _ => ?_)))
    all_goals first
      | (exfalso; simp only [decide_eq_true_eq, decide_eq_false_iff_not] at *; omega)
      | skip
    refine endQ_mk (Post := []) (.inr rfl) (.tmp (by rfl) (.tmp (by rfl) .nil)) ⟨?_, rfl⟩ Imp.nil
    rw [Nat.or_zero, Nat.mod_eq_of_lt (by omega), Nat.mul_comm]; rfl
  refine Fun.intro low66 (by simp [n66]) ?_
  refine GOH ?_
  refine st_callP hw (by rfl) ?_
  refine GOH ?_
  refine endQ_mk (Post := []) (.inr rfl) (.tmp (by rfl) (.tmp (by rfl) .nil)) ⟨?_, rfl⟩ Imp.nil
  rfl
theorem oop_spec (w : Nat) (h1 : 1 ≤ w) (h2 : w ≤ 268435455) : Fun Tryd.prog 32 [vi w] [] (fun v Post => v = uv (8 * w) ∧ Post = []) := by
  refine Fun.intro low32 (by simp [n32]) ?_
  refine GOH ?_
  refine st_callP (object_spec w h1 h2) (by rfl) ?_
  refine GOH ?_
  refine endQ_mk (Post := []) (.inr rfl) (.tmp (by rfl) .nil) ⟨?_, rfl⟩ Imp.nil
  rfl
theorem hwithin_spec (n l m : Int) : Fun Tryd.prog 26 [vi n, vi l, vi m] [] (fun v Post => v = .bool (decide (l ≤ n ∧ n ≤ m)) ∧ Post = []) := by
  refine Fun.intro low26 (by simp [n26]) ?_
  (repeat' (first | refine GOPH ?_ | refine st_gcase (by rfl) (fun _ => ?_) (fun _ => ?_) | refine st_pcase (by rfl) (fun _ => ?_) (fun _ => ?_) | refine VC.seq_cond (by rfl) (fun _ => ?_) (fun _ => ?_) | refine VC.cond (by rfl) (fun _ => ?_) (fun _ => ?_)))
  all_goals
    refine endQ_mk (Post := []) (.inr rfl) (.tmp (by rfl) .nil) ⟨?_, rfl⟩ Imp.nil
    rename_i h
    simp only [decide_eq_true_eq, decide_eq_false_iff_not] at h
    simp [tup]; omega
theorem in_spec (n m : Int) : Fun Tryd.prog 107 [vi n, vi m] [] (fun v Post => v = .bool (decide (0 ≤ n ∧ n ≤ m)) ∧ Post = []) := by
  refine Fun.intro low107 (by simp [n107]) ?_
  (repeat' (first | refine GOPH ?_ | refine st_gcase (by rfl) (fun _ => ?_) (fun _ => ?_) | refine st_pcase (by rfl) (fun _ => ?_) (fun _ => ?_) | refine VC.seq_cond (by rfl) (fun _ => ?_) (fun _ => ?_) | refine VC.cond (by rfl) (fun _ => ?_) (fun _ => ?_)))
  all_goals
    refine endQ_mk (Post := []) (.inr rfl) (.tmp (by rfl) .nil) ⟨?_, rfl⟩ Imp.nil
    rename_i h
    simp only [decide_eq_true_eq, decide_eq_false_iff_not] at h
    simp [tup]; omega
theorem bit_spec (b : Bool) (c : Int) (m : Nat) (hc : 0 ≤ c ∧ c < 64) (em : 2 ^ c.toNat = m) : Fun Tryd.prog 79 [.bool b, vi c] [] (fun v Post => v = uv (b2n b * m) ∧ Post = []) := by
  subst em
  refine Fun.intro low79 (by simp [n79]) ?_
  have hp := pow_lt64 (i := c.toNat) (by omega)
  cases b
  · refine GOH ?_
    refine endQ_mk (Post := []) (.inr rfl) (.tmp (by rfl) .nil) ⟨?_, rfl⟩ Imp.nil
    simp [b2n, tup]
  · refine GOH ?_
    refine endQ_mk (Post := []) (.inr rfl) (.tmp (by rfl) .nil) ⟨?_, rfl⟩ Imp.nil
    rw [Nat.mod_eq_of_lt (by omega)]; rfl
theorem may_spec (h : Hd) (m : h.May) : Fun Tryd.prog 78 [.agg (hdEnc h).toArray] [] (fun v Post => v = .bool true ∧ Post = []) := by
  refine Fun.intro low78 (by simp [n78]) ?_
  have h1 : ∀ (n k : Nat), n ≤ k → Fun Tryd.prog 107 [vi n, vi k] [] (fun v Post => v = .bool true ∧ Post = []) := fun n k h => (in_spec n k).mono (fun v Post hv => by
    obtain ⟨rfl, rfl⟩ := hv; exact ⟨by rw [decide_eq_true]; omega, rfl⟩)
  obtain ⟨m1, m2, m3, m4, m5, ⟨m6, m7⟩, m8, m9, m10, m11⟩ := m
  obtain ⟨cls, fmt, spare, hash, age, slots, mk, nt⟩ := h
  simp only at m1 m2 m3 m4 m5 m6 m7 m8 m9 m10 m11
  refine VC.seq_reg ?_
  refine st_box (by rfl) (fun p => ?_)
  simp only [Value.cells, hdEnc]
  refine GOH ?_
  refine st_callP (h1 cls 4095 m1) (by rfl) ?_
  refine GOH ?_
  refine st_callP (h1 hash 4194303 m2) (by rfl) ?_
  refine GOH ?_
  refine st_callP (h1 age 15 m3) (by rfl) ?_
  refine GOH ?_
  refine st_callP (h1 slots 65536 m4) (by rfl) ?_
  refine GOH ?_
  refine st_callP (h1 spare 7 m5) (by rfl) ?_
  refine GOH ?_
  have hf : fmt = 1 ∨ fmt = 2 ∨ fmt = 3 ∨ fmt = 4 ∨ fmt = 5 ∨ fmt = 6 := by omega
  have e1 : ∀ n : Nat, decide ((n : Int) = 0) = decide (n = 0) := fun n => by simp only [decide_eq_decide]; omega
  rcases hf with rfl | rfl | rfl | rfl | rfl | rfl
  · obtain rfl : spare = 0 := m8 (by omega)
    refine GOH ?_
    exact endQ_mk (Post := []) (.inr rfl) (.tmp (by rfl) .nil) ⟨rfl, rfl⟩ Imp.nil
  · obtain rfl : spare = 0 := m8 (by omega)
    refine GOH ?_
    exact endQ_mk (Post := []) (.inr rfl) (.tmp (by rfl) .nil) ⟨rfl, rfl⟩ Imp.nil
  · obtain rfl : spare = 0 := m8 (by omega)
    refine GOH ?_
    have := m9 rfl
    refine endQ_mk (Post := []) (.inr rfl) (.tmp (by rfl) .nil) ⟨?_, rfl⟩ Imp.nil
    simp only [tup, Value.bool.injEq, decide_eq_true_eq]; omega
  · obtain rfl : spare = 0 := m8 (by omega)
    refine GOH ?_
    exact endQ_mk (Post := []) (.inr rfl) (.tmp (by rfl) .nil) ⟨rfl, rfl⟩ Imp.nil
  · (repeat' (first | refine GOPH ?_ | refine st_gcase (by rfl) (fun _ => ?_) (fun _ => ?_) | refine st_pcase (by rfl) (fun _ => ?_) (fun _ => ?_) | refine VC.seq_cond (by rfl) (fun _ => ?_) (fun _ => ?_) | refine VC.cond (by rfl) (fun _ => ?_) (fun _ => ?_)))
    all_goals
      refine endQ_mk (Post := []) (.inr rfl) (.tmp (by rfl) .nil) ⟨?_, rfl⟩ Imp.nil
      rename_i h
      simp only [decide_eq_true_eq, decide_eq_false_iff_not] at h
      simp only [tup, Value.bool.injEq, decide_eq_true_eq]
      try (have := m11 (by omega); simp at this; omega)
  · have k10 : 0 < slots := m10 rfl
    have k11 : spare ≠ 0 → 1 < slots := by simpa using m11
    clear m8 m9 m10 m11 e1
    (repeat' (first | refine GOPH ?_ | refine st_gcase (by rfl) (fun _ => ?_) (fun _ => ?_) | refine st_pcase (by rfl) (fun _ => ?_) (fun _ => ?_) | refine VC.seq_cond (by rfl) (fun _ => ?_) (fun _ => ?_) | refine VC.cond (by rfl) (fun _ => ?_) (fun _ => ?_)))
    all_goals
      refine endQ_mk (Post := []) (.inr rfl) (.tmp (by rfl) .nil) ⟨?_, rfl⟩ Imp.nil
      rename_i h
      simp only [decide_eq_true_eq, decide_eq_false_iff_not] at h
      simp only [tup, Value.bool.injEq, decide_eq_true_eq]
      try omega
theorem bits_ex (b : Bool) (c : Int) (m : Nat) (hc : 0 ≤ c ∧ c < 64) (em : 2 ^ c.toNat = m) : ∃ y, y = b2n b * m ∧ y ≤ m ∧ Fun Tryd.prog 79 [.bool b, vi c] [] (fun v Post => v = uv y ∧ Post = []) :=
  ⟨_, rfl, by cases b <;> simp [b2n], bit_spec b c m hc em⟩
theorem pack_spec (h : Hd) (m : h.May) : Fun Tryd.prog 45 [.agg (hdEnc h).toArray] [] (fun v Post => v = .tuple #[uv (pk h), uv h.slots, vi 0] ∧ Post = []) := by
  obtain ⟨y1, hy1, hx1, c1⟩ := bits_ex h.marked 44 17592186044416 (by omega) (by simp)
  obtain ⟨y2, hy2, hx2, c2⟩ := bits_ex h.noted 45 35184372088832 (by omega) (by simp)
  have hpk : pk0 h ||| y1 ||| y2 = pk h := by rw [hy1, hy2]; exact pk_or m
  clear hy1 hy2
  have hm := may_spec h m
  have hlt := pk0_lt m
  have hor := pk0_or m
  obtain ⟨m1, m2, m3, m4, m5, ⟨m6, m7⟩, m8, m9, m10, m11⟩ := m
  clear m8 m9 m10 m11
  refine Fun.intro low45 (by simp [n45]) ?_
  refine VC.seq_reg ?_
  refine st_box (by rfl) (fun p => ?_)
  simp only [Value.cells, hdEnc] at hm ⊢
  refine GOH ?_
  refine st_callP hm (by rfl) ?_
  refine GOH ?_
  rw [hor]
  generalize pk0 h = z at hpk hlt ⊢
  clear hor hm
  refine VC.seq_draws (α := Unit) (fun _ => [(2, uv (z ||| y1 ||| y2)), (3, uv h.slots), (4, vi 0)]) (fun _ => []) (fun _ => True) ⟨?_, ?_, ?_, ?_, ?_, ?_, ?_, ?_, trivial⟩ (fun _ _ => ?_)
  rotate_right
  · rw [hpk]
    refine GOH ?_
    exact endQ_mk (Post := []) (.inr rfl) (.tmp (by rfl) (.tmp (by rfl) (.tmp (by rfl) .nil))) ⟨rfl, rfl⟩ Imp.nil
  all_goals
    repeat' first
      | refine GOPH ?_
      | refine st_callP c1 (by rfl) ?_
      | refine st_callP c2 (by rfl) ?_
    exact ⟨(), trivial, by exact SUx, Imp.nil⟩
theorem field_spec (a : Nat) (c1 c2 : Int) (m1 m2 : Nat) (ha : a < 18446744073709551616) (h1 : 0 ≤ c1 ∧ c1 ≤ 63) (h2 : 0 ≤ c2 ∧ c2 ≤ 62) (e1 : 2 ^ c1.toNat = m1) (e2 : 2 ^ c2.toNat = m2) :
    Fun Tryd.prog 105 [uv a, vi c1, vi c2] [] (fun v Post => v = vi ((a / m1 % m2 : Nat) : Int) ∧ Post = []) := by
  refine Fun.intro low105 (by simp [n105]) ?_
  have hm : m2 ≤ 4611686018427387904 := by rw [← e2]; exact Nat.le_trans (Nat.pow_le_pow_right (by omega) (show c2.toNat ≤ 62 by omega)) (by decide)
  have hm0 : 0 < m2 := by rw [← e2]; exact Nat.two_pow_pos _
  have hd : a / m1 < 18446744073709551616 := Nat.lt_of_le_of_lt (Nat.div_le_self _ _) ha
  have hmask : ∀ x, x &&& (m2 - 1) = x % m2 := fun x => by rw [← e2]; exact Nat.and_two_pow_sub_one_eq_mod x _
  refine GOH ?_
  rw [show (1 * m2 % 18446744073709551616 - 1) = m2 - 1 by omega, hmask]
  have hr : a / m1 % m2 < 4611686018427387904 := Nat.lt_of_lt_of_le (Nat.mod_lt _ hm0) hm
  rw [wrapI (by omega)]
  exact endQ_mk (Post := []) (.inr rfl) (.tmp (by rfl) .nil) ⟨rfl, rfl⟩ Imp.nil
theorem unpack_spec (h : Hd) (m : h.May) : Fun Tryd.prog 70 [uv (pk h), uv h.slots] [] (fun v Post => v = .tuple #[.agg (hdEnc h).toArray, vi 0] ∧ Post = []) := by
  have hm := may_spec h m
  have hlt := m.lt
  obtain ⟨f1, f2, f3, f4, f5, f6, f7⟩ := pk_fields m
  have c1 := field_spec (pk h) 0 12 1 4096 (by omega) (by omega) (by omega) (by simp) (by simp)
  have c2 := field_spec (pk h) 12 3 4096 8 (by omega) (by omega) (by omega) (by simp) (by simp)
  have c3 := field_spec (pk h) 15 3 32768 8 (by omega) (by omega) (by omega) (by simp) (by simp)
  have c4 := field_spec (pk h) 18 22 262144 4194304 (by omega) (by omega) (by omega) (by simp) (by simp)
  have c5 := field_spec (pk h) 40 4 1099511627776 16 (by omega) (by omega) (by omega) (by simp) (by simp)
  have c6 := field_spec (pk h) 44 1 17592186044416 2 (by omega) (by omega) (by omega) (by simp) (by simp)
  have c7 := field_spec (pk h) 45 1 35184372088832 2 (by omega) (by omega) (by omega) (by simp) (by simp)
  rw [Nat.div_one, f1] at c1
  rw [f2] at c2
  rw [f3] at c3
  rw [f4] at c4
  rw [f5] at c5
  rw [f6] at c6
  rw [f7] at c7
  have hq : pk h / 70368744177664 = 0 := Nat.div_eq_of_lt hlt
  obtain ⟨m1, m2, m3, m4, m5, ⟨m6, m7⟩, m8, m9, m10, m11⟩ := m
  clear m8 m9 m10 m11 f1 f2 f3 f4 f5 f6 f7
  have hpb : pk h < 18446744073709551616 := by omega
  generalize pk h = z at *
  refine Fun.intro low70 (by simp [n70]) ?_
  refine VC.seq_reg ?_
  refine st_alloc (fun p => ?_)
  refine GOH ?_
  rw [hq]
  refine GOH ?_
  rw [show (decide ((65536 : Int) < (h.slots : Int))) = false from decide_eq_false (by omega)]
  refine GOH ?_
  refine st_callP c1 (by rfl) ?_
  refine GOH ?_
  refine st_callP c2 (by rfl) ?_
  refine GOH ?_
  refine st_callP c3 (by rfl) ?_
  refine GOH ?_
  refine st_callP c4 (by rfl) ?_
  refine GOH ?_
  refine st_callP c5 (by rfl) ?_
  refine GOH ?_
  refine st_callP c6 (by rfl) ?_
  refine GOH ?_
  refine st_callP c7 (by rfl) ?_
  refine GOH ?_
  refine st_alloc (fun q => ?_)
  refine GOH ?_
  have hb : ∀ b : Bool, decide (((b2n b : Nat) : Int) = 1) = b := fun b => by cases b <;> rfl
  simp only [hb]
  simp only [hdEnc] at hm ⊢
  refine GOH ?_
  refine st_callP hm (by rfl) ?_
  refine GOH ?_
  refine ⟨.inr rfl, _, _, .cellN (us := hdEnc h) (by rfl) (by rfl) (fun x hx => by simp only [List.flatten_cons, List.mem_append]; first | exact .inl hx | exact .inr (.inl hx)) (.tmp (by rfl) .nil), Imp.nil, ?_⟩
  exact ⟨rfl, rfl⟩
theorem smallOf_spec (n : Nat) (hn : n < 1152921504606846976) : Fun Tryd.prog 103 [uv (8 * n + 1)] [] (fun v Post => v = .tuple #[vi n, .bool true] ∧ Post = []) := by
  refine Fun.intro low103 (by simp [n103]) ?_
  have h1 : 8 * n + 1 < 18446744073709551616 := by omega
  have h2 : (8 * n + 1) % 8 = 1 := by omega
  have h3 : (8 * n + 1) / 8 = n := by omega
  refine GOH ?_
  rw [h2]
  refine GOH ?_
  have h4 : ((8 * n + 1 : Nat) : Int).fdiv (2 ^ min (Int.toNat 3) IntKind.i64.bits) = (n : Int) := by
    show ((8 * n + 1 : Nat) : Int).fdiv 8 = (n : Int)
    rw [Int.fdiv_eq_ediv_of_nonneg _ (by omega)]; omega
  rw [h4]
  exact endQ_mk (Post := []) (.inr rfl) (.tmp (by rfl) (.tmp (by rfl) .nil)) ⟨rfl, rfl⟩ Imp.nil
theorem makes_spec (s : Nat) (hs : s < 256) : Fun Tryd.prog 28 [cv s] [] (fun v Post => v = .bool (decide (s = 1 ∨ (3 ≤ s ∧ s ≤ 5))) ∧ Post = []) := by
  refine Fun.intro low28 (by simp [n28]) ?_
  (repeat' (first | refine GOPH ?_ | refine st_gcase (by rfl) (fun _ => ?_) (fun _ => ?_) | refine st_pcase (by rfl) (fun _ => ?_) (fun _ => ?_) | refine VC.seq_cond (by rfl) (fun _ => ?_) (fun _ => ?_) | refine VC.cond (by rfl) (fun _ => ?_) (fun _ => ?_)))
  all_goals
    refine endQ_mk (Post := []) (.inr rfl) (.tmp (by rfl) .nil) ⟨?_, rfl⟩ Imp.nil
    simp only [tup, Value.bool.injEq]
    simp only [decide_eq_true_eq, decide_eq_false_iff_not] at *
    first
      | (rw [eq_comm, decide_eq_true_eq]; omega)
      | (rw [eq_comm, decide_eq_false_iff_not]; omega)
      | (rw [decide_eq_decide]; omega)
      | skip
def okS (c slots bytes : Int) : Prop := 0 ≤ slots ∧ slots ≤ 65536 ∧ 0 ≤ bytes ∧ bytes ≤ 524288 ∧ slots + (bytes + 7) / 8 ≤ 65536 ∧ 0 ≤ c ∧ c ≤ 4095
instance (c slots bytes : Int) : Decidable (okS c slots bytes) := by unfold okS; infer_instance
theorem sized_spec (c : Int) (f : Nat) (slots bytes : Int) : Fun Tryd.prog 27 [.agg #[vi c, cv f, vi 0, vi 0, vi 0, vi 0, .bool false, .bool false], vi slots, vi bytes] []
    (fun v Post => (∃ us : List Value, v = .tuple #[.agg us.toArray, .bool (decide (okS c slots bytes))] ∧ (∃ a b d, us = [vi c, cv f, vi a, vi 0, vi 0, vi b, .bool d, .bool d]) ∧ (okS c slots bytes → us = [vi c, cv f, vi ((bytes + 7) / 8 * 8 - bytes), vi 0, vi 0, vi (slots + (bytes + 7) / 8), .bool false, .bool false])) ∧ Post = []) := by
  refine Fun.intro low27 (by simp [n27]) ?_
  refine VC.seq_reg ?_
  refine st_box (by rfl) (fun p => ?_)
  simp only [Value.cells]
  refine st_alloc (fun q => ?_)
  by_cases hin : (0 ≤ slots ∧ slots ≤ 65536) ∧ 0 ≤ bytes ∧ bytes ≤ 524288
  rotate_left
  · have hno : ¬ okS c slots bytes := fun h => hin ⟨⟨h.1, h.2.1⟩, h.2.2.1, h.2.2.2.1⟩
    (repeat' (first | refine GOPH ?_ | refine st_gcase (by rfl) (fun _ => ?_) (fun _ => ?_) | refine st_pcase (by rfl) (fun _ => ?_) (fun _ => ?_) | refine VC.seq_cond (by rfl) (fun _ => ?_) (fun _ => ?_) | refine VC.cond (by rfl) (fun _ => ?_) (fun _ => ?_)))
    all_goals first
      | (exfalso; clear hno; simp only [decide_eq_true_eq, decide_eq_false_iff_not] at *; omega)
      | skip
    all_goals
      refine ⟨.inr rfl, _, _, .cellN (us := [vi c, cv f, vi 0, vi 0, vi 0, vi 0, .bool false, .bool false]) (by rfl) (by rfl) (fun x hx => by simp only [List.flatten_cons, List.mem_append]; first | exact .inl hx | exact .inr (.inl hx)) (.tmp (by rfl) .nil), Imp.nil, ?_⟩
      exact ⟨⟨_, by rw [decide_eq_false hno]; rfl, ⟨_, _, _, rfl⟩, fun h => absurd h hno⟩, rfl⟩
  obtain ⟨⟨i1, i2⟩, i3, i4⟩ := hin
  refine GOH ?_
  rw [show decide (slots < 0) = false from decide_eq_false (by omega)]
  refine GOH ?_
  rw [show decide (65536 < slots) = false from decide_eq_false (by omega)]
  refine GOH ?_
  rw [show decide (bytes < 0) = false from decide_eq_false (by omega)]
  refine GOH ?_
  rw [show decide (524288 < bytes) = false from decide_eq_false (by omega)]
  refine GOH ?_
  rw [show (((bytes + 8 - 1).toNat / 8 : Nat) : Int) = (bytes + 7) / 8 by omega]
  have hf0 : (0 : Int) ≤ (bytes + 7) / 8 ∧ (bytes + 7) / 8 ≤ 65536 := by omega
  have hok : okS c slots bytes ↔ (slots + (bytes + 7) / 8 ≤ 65536 ∧ 0 ≤ c ∧ c ≤ 4095) := ⟨fun h => h.2.2.2.2, fun h => ⟨i1, i2, i3, i4, h⟩⟩
  generalize (bytes + 7) / 8 = g at hf0 hok ⊢
  refine VC.seq_draws (α := Unit) (fun _ => [(6, ptr0 q), (7, .bool (decide (okS c slots bytes)))]) (fun _ => [cellsAt q 0 [vi c, cv f, vi (g * 8 - bytes), vi 0, vi 0, vi (slots + g), .bool false, .bool false]]) (fun _ => True) ⟨?_, ?_, trivial⟩ (fun _ _ => ?_)
  rotate_right
  · refine GOH ?_
    refine ⟨.inr rfl, _, _, .cellN (us := [vi c, cv f, vi (g * 8 - bytes), vi 0, vi 0, vi (slots + g), .bool false, .bool false]) (by rfl) (by rfl) (fun x hx => by simp only [List.flatten_cons, List.mem_append]; exact .inl hx) (.tmp (by rfl) .nil), Imp.nil, ?_⟩
    exact ⟨⟨_, rfl, ⟨_, _, _, rfl⟩, fun _ => rfl⟩, rfl⟩
  all_goals
    refine GOH ?_
    by_cases hN : slots + g ≤ 65536
    · rw [show decide (slots + g ≤ 65536) = true from decide_eq_true hN]
      refine GOH ?_
      refine st_callP (hwithin_spec c 0 4095) (by rfl) ?_
      rw [show decide (0 ≤ c ∧ c ≤ 4095) = decide (okS c slots bytes) by rw [decide_eq_decide, hok]; simp [hN]]
      refine GOH ?_
      exact ⟨(), trivial, by exact SUx, by exact IMx⟩
    · rw [show decide (slots + g ≤ 65536) = false from decide_eq_false hN, show decide (okS c slots bytes) = false from decide_eq_false (fun h => hN (hok.1 h).1)]
      refine GOH ?_
      exact ⟨(), trivial, by exact SUx, by exact IMx⟩
end Go.Proofs.YtmlnoodopoaafaaDoor

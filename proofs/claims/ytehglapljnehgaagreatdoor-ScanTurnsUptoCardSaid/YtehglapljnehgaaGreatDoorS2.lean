/-
  Scanning: names.
-/
import Derived.Test.YtehglapljnehgaaGreatDoorS1
import Derived.Test.YtehglapljnehgaaGreatDoorV8
import Derived.Shelf.Strings.Search2
import Derived.Shelf.Lay
import Derived.Shelf.Strconv.ParseIntPublic10
set_option linter.unusedSimpArgs false
set_option linter.unusedVariables false
namespace Go.Proofs.YtehglapljnehgaaGreatDoor
open Go Go.V Go.Shelf
set_option maxHeartbeats 3200000
set_option maxRecDepth 100000
shelf_lay Lays.n217 Nm 217 at Tryz as Tryz.sl217
shelf_lay Lays.n219 Nm 219 at Tryz as Tryz.sl219
theorem ixb_spec (s : ByteArray) (c : Nat) (hc : c < 256) : Fun Tryz.prog 83 [.string s, cv c] [] (fun v Post => v = vi (ixN (bytesN s) c) ∧ Post = []) := by
  refine Fun.of_calls (by kernel_rfl) (fun w => (Any.stringslite_IndexByte Tryz.sl217 s c w).mono ?_)
  rintro e w' ⟨rfl, rfl⟩
  refine ⟨_, rfl, ?_, rfl⟩
  have hx : ((c : Int).toNat.toUInt8).toNat = c := by
    rw [Int.toNat_natCast]
    exact Nat.mod_eq_of_lt hc
  rw [ix_eq, hx]; rfl
theorem ixs_spec (s : ByteArray) : Fun Tryz.prog 111 [.string s, .string ⟨#[58]⟩] [] (fun v Post => v = vi (ixN (bytesN s) 58) ∧ Post = []) := by
  refine Fun.of_calls (by kernel_rfl) (fun w => (Any.stringslite_Index_one Tryz.sl219 s 58 w).mono ?_)
  rintro e w' ⟨rfl, rfl⟩
  exact ⟨_, rfl, by rw [ix_eq]; rfl, rfl⟩
theorem letter_spec (c : Nat) (hc : c < 256) : Fun Tryz.prog 37 [cv c] [] (fun v Post => v = .bool (letB c) ∧ Post = []) := by
  refine Fun.intro low37 (by simp [n37]) ?_
  (repeat' (first | refine GOPH ?_ | refine st_gcase (by rfl) (fun _ => ?_) (fun _ => ?_) | refine st_pcase (by rfl) (fun _ => ?_) (fun _ => ?_) | refine VC.seq_cond (by rfl) (fun _ => ?_) (fun _ => ?_) | refine VC.cond (by rfl) (fun _ => ?_) (fun _ => ?_)))
  all_goals refine ⟨.inr rfl, _, _, .tmp (by rfl) .nil, by exact IMx, ?_, rfl⟩
  all_goals (simp only [tup, letB, Value.bool.injEq, decide_eq_true_eq, decide_eq_false_iff_not] at *)
  all_goals (rw [Bool.eq_iff_iff]; simp only [Bool.or_eq_true, Bool.and_eq_true, Bool.not_eq_true', decide_eq_true_eq, decide_eq_false_iff_not, true_iff, iff_true, reduceCtorEq, false_iff, iff_false]; omega)
theorem digit_spec (c : Nat) (hc : c < 256) : Fun Tryz.prog 53 [cv c] [] (fun v Post => v = .bool (digB c) ∧ Post = []) := by
  refine Fun.intro low53 (by simp [n53]) ?_
  (repeat' (first | refine GOPH ?_ | refine st_gcase (by rfl) (fun _ => ?_) (fun _ => ?_) | refine st_pcase (by rfl) (fun _ => ?_) (fun _ => ?_) | refine VC.seq_cond (by rfl) (fun _ => ?_) (fun _ => ?_) | refine VC.cond (by rfl) (fun _ => ?_) (fun _ => ?_)))
  all_goals refine ⟨.inr rfl, _, _, .tmp (by rfl) .nil, by exact IMx, ?_, rfl⟩
  all_goals (simp only [tup, digB, Value.bool.injEq, decide_eq_true_eq, decide_eq_false_iff_not] at *)
  all_goals (rw [Bool.eq_iff_iff]; simp only [Bool.or_eq_true, Bool.and_eq_true, Bool.not_eq_true', decide_eq_true_eq, decide_eq_false_iff_not, true_iff, iff_true, reduceCtorEq, false_iff, iff_false]; omega)
theorem inner_spec (c : Nat) (hc : c < 256) : Fun Tryz.prog 39 [cv c] [] (fun v Post => v = .bool (innB c) ∧ Post = []) := by
  refine Fun.intro low39 (by simp [n39]) ?_
  refine GOH ?_
  refine st_callP (letter_spec c hc) (by rfl) ?_
  cases hl : letB c with
  | true =>
    refine GOH ?_
    refine ⟨.inr rfl, _, _, .tmp (by rfl) .nil, by exact IMx, ?_, rfl⟩
    simp [tup, innB, hl]
  | false =>
    refine GOH ?_
    refine st_callP (digit_spec c hc) (by rfl) ?_
    refine GOH ?_
    refine ⟨.inr rfl, _, _, .tmp (by rfl) .nil, by exact IMx, ?_, rfl⟩
    simp [tup, innB, hl]
theorem binary_spec (c : Nat) (hc : c < 256) : Fun Tryz.prog 40 [cv c] [] (fun v Post => v = .bool (binB c) ∧ Post = []) := by
  refine Fun.intro low40 (by simp [n40]) ?_
  have hb := ixN_bin hc
  have h : Fun Tryz.prog 62 [.string ⟨#[43, 45, 42, 47, 92, 126, 60, 62, 61, 64, 37, 38, 63, 44, 33]⟩, cv c] [] (fun v Post => v = vi (ixN [43, 45, 42, 47, 92, 126, 60, 62, 61, 64, 37, 38, 63, 44, 33] c) ∧ Post = []) := by
    refine Fun.intro low62 (by simp [n62]) ?_
    refine GOH ?_
    refine st_callP (ixb_spec _ c hc) (by rfl) ?_
    refine GOH ?_
    refine ⟨.inr rfl, _, _, .tmp (by rfl) .nil, by exact IMx, ?_, rfl⟩
    rfl
  generalize ixN [43, 45, 42, 47, 92, 126, 60, 62, 61, 64, 37, 38, 63, 44, 33] c = z at h hb
  refine GOH ?_
  refine st_callP h (by rfl) ?_
  refine GOH ?_
  refine ⟨.inr rfl, _, _, .tmp (by rfl) .nil, by exact IMx, ?_, rfl⟩
  simp only [tup, ← hb]
theorem peek_spec (s : ByteArray) (hs : s.size ≤ 140737488355328) (k : Nat) : Fun Tryz.prog 64 [.string s, vi k] [] (fun v Post => v = cv ((bytesN s).getD k 0) ∧ Post = []) := by
  refine Fun.intro low64 (by simp [n64]) ?_
  refine GOH ?_
  by_cases h : k < s.size
  · rw [decide_eq_true (by omega)]
    obtain ⟨c, hc, hc2⟩ := bytesN_ex h
    refine GOH ?_
    refine st_idxS (by rfl) (by rfl) (j := k) rfl hc ?_
    refine GOH ?_
    refine ⟨.inr rfl, _, _, .tmp (by rfl) .nil, by exact IMx, ?_, rfl⟩
    simp [tup, List.getD_eq_getElem?_getD, hc2]
  · rw [decide_eq_false (by omega)]
    refine GOH ?_
    refine ⟨.inr rfl, _, _, .tmp (by rfl) .nil, by exact IMx, ?_, rfl⟩
    have : (bytesN s)[k]? = none := List.getElem?_eq_none (by rw [bytesN_len]; omega)
    simp [tup, List.getD_eq_getElem?_getD, this]
theorem run_spec (s : ByteArray) (hs : s.size ≤ 140737488355328) (a : Nat) (ha : a ≤ s.size) (fv : Value) (I : Nat → SH) (on : Nat → Bool)
    (h : ∀ k c, a ≤ k → (bytesN s)[k]? = some c → FunV Tryz.prog fv [cv c] (I k) (fun v Post => v = .bool (on k) ∧ Post = I (k + 1))) :
    Fun Tryz.prog 38 [.string s, vi a, fv] (I a) (fun v Post => ∃ e j : Nat, v = vi e ∧ a ≤ e ∧ e ≤ s.size ∧ (∀ k, a ≤ k → k < e → on k = true) ∧ (e < s.size → on e = false) ∧ Post = I j) := by
  refine Fun.intro low38 (by simp [n38]) ?_
  refine GOH ?_
  refine VC.loop (α := Nat) (Γf := fun k => [(0, .string s), (1, vi k), (2, fv)]) (Hf := fun k => I k) (I := fun k => a ≤ k ∧ k ≤ s.size ∧ ∀ i, a ≤ i → i < k → on i = true) (μ := fun k => s.size - k) a ⟨Nat.le_refl _, ha, fun i _ _ => by omega⟩ (by exact SUx) (Imp.refl _) ?_
  rintro k ⟨i1, i2, i3⟩
  refine GOH ?_
  by_cases hk : k < s.size
  · rw [decide_eq_true (by omega)]
    obtain ⟨c, hc, hc2⟩ := bytesN_ex hk
    refine GOH ?_
    refine st_idxS (by rfl) (by rfl) (j := k) rfl hc ?_
    refine GOH ?_
    refine st_callV (by rfl) (h k _ i1 hc2) (by rfl) (R := []) (by simp [V.Spl]) ?_
    rintro v Post ⟨rfl, rfl⟩
    rw [List.append_nil]
    cases ho : on k with
    | true =>
      refine GOH ?_
      refine ⟨k + 1, ⟨by omega, by omega, fun i g1 g2 => ?_⟩, by omega, by exact SUx, Imp.refl _⟩
      by_cases e : i = k
      · subst e; exact ho
      · exact i3 i g1 (by omega)
    | false =>
      refine GOH ?_
      exact endQ_mk (Post := I (k + 1)) (.inr rfl) (.tmp (by rfl) .nil) ⟨k, k + 1, rfl, i1, i2, i3, fun _ => ho, rfl⟩ (Imp.refl _)
  · rw [decide_eq_false (by omega)]
    refine GOH ?_
    exact endQ_mk (Post := I k) (.inr rfl) (.tmp (by rfl) .nil) ⟨k, k, rfl, i1, i2, i3, fun hh => absurd hh hk, rfl⟩ (Imp.refl _)
theorem name_spec (s : ByteArray) (hs : s.size ≤ 140737488355328) : Fun Tryz.prog 20 [.string s] [] (fun v Post => v = .bool (nameS s) ∧ Post = []) := by
  refine Fun.intro low20 (by simp [n20]) ?_
  have hlen := bytesN_len s
  unfold nameS nameL
  refine GOH ?_
  by_cases h0 : s = ⟨#[]⟩
  · subst h0
    refine GOH ?_
    refine ⟨.inr rfl, _, _, .tmp (by rfl) .nil, by exact IMx, ?_, rfl⟩
    rfl
  obtain ⟨c, r, hc, hr, hc256, hpos⟩ := bytesN_cons h0
  rw [decide_eq_false h0, Bool.not_false]
  refine GOH ?_
  by_cases h40 : s.size ≤ 40
  rotate_left
  · rw [decide_eq_false (by omega)]
    refine GOH ?_
    refine ⟨.inr rfl, _, _, .tmp (by rfl) .nil, by exact IMx, ?_, rfl⟩
    have h2 : ¬ (c.toNat :: r).length ≤ 40 := by rw [← hr]; omega
    simp only [tup, hr, decide_eq_false h2, Bool.false_and]
  rw [decide_eq_true (by omega)]
  refine GOH ?_
  refine st_idxS (by rfl) (by rfl) (j := 0) rfl hc ?_
  refine GOH ?_
  refine st_callP (letter_spec _ hc256) (by rfl) ?_
  cases hl : letB c.toNat with
  | false =>
    refine GOH ?_
    refine ⟨.inr rfl, _, _, .tmp (by rfl) .nil, by exact IMx, ?_, rfl⟩
    simp [tup, hr, hl]
  | true =>
    refine GOH ?_
    refine st_call (run_spec s hs 0 (by omega) (.func (.func 39) #[] #[]) (fun _ => []) (fun k => innB ((bytesN s).getD k 0)) (fun k x _ hx => FunV.of_fun ?_)) (by rfl) (by exact SPx) (fun v Post hv => ?_)
    · rw [List.getD_eq_getElem?_getD, hx]
      exact inner_spec _ (bytesN_lt s _ (List.mem_of_getElem? hx))
    obtain ⟨e, j, rfl, e1, e2, e3, e4, rfl⟩ := hv
    have hall := all_run (l := bytesN s) (p := innB) (e := e) (by omega) (fun k hk => e3 k (by omega) hk) (fun hk => e4 (by omega))
    have h2 : (c.toNat :: r).length ≤ 40 := by rw [← hr]; omega
    simp only [List.nil_append]
    refine GOH ?_
    refine ⟨.inr rfl, _, _, .tmp (by rfl) .nil, by exact IMx, ?_, rfl⟩
    rw [hr] at hall
    simp only [tup, hr, decide_eq_true h2, hl, hall, Bool.true_and, Value.bool.injEq]
    rw [← hr, hlen]
    (rw [Bool.eq_iff_iff]; simp only [Bool.or_eq_true, Bool.and_eq_true, Bool.not_eq_true', decide_eq_true_eq, decide_eq_false_iff_not, true_iff, iff_true, reduceCtorEq, false_iff, iff_false]; omega)
open Go Go.V
theorem sign1_spec (pa pf ps : Nat) (s : ByteArray) (hs : s.size ≤ 140737488355328) (k c : Nat) (hk : k < s.size) (hc : c < 256) :
    Fun Tryz.prog 63 [cv c, ptr0 pa, ptr0 pf, ptr0 ps] [cellsAt pa 0 [vi k], cellsAt pf 0 [vi 0], cellsAt ps 0 [.string s]] (fun v Post => v = .bool (binB c && (decide (k = 0) || decide (c ≠ 45) || !digB ((bytesN s).getD (k + 1) 0))) ∧ Post = [cellsAt pa 0 [vi ((k : Int) + 1)], cellsAt pf 0 [vi 0], cellsAt ps 0 [.string s]]) := by
  refine Fun.intro low63 (by simp [n63]) ?_
  have hd : (bytesN s).getD (k + 1) 0 < 256 := by
    rw [List.getD_eq_getElem?_getD]
    cases h : (bytesN s)[k + 1]? with
    | none => decide
    | some x => exact bytesN_lt s _ (List.mem_of_getElem? h)
  have hp := peek_spec s hs (k + 1)
  generalize (bytesN s).getD (k + 1) 0 = d at hd hp ⊢
  refine GOH ?_
  refine st_callP (binary_spec c hc) (by rfl) ?_
  cases hb : binB c with
  | false =>
    refine GOH ?_
    refine endQ_mk (.inr rfl) (.tmp (by rfl) .nil) ⟨by simp [tup], rfl⟩ (by exact IMx)
  | true =>
    refine GOH ?_
    by_cases h0 : k = 0
    · rw [decide_eq_true (show (k : Int) = 0 by omega)]
      refine GOH ?_
      refine endQ_mk (.inr rfl) (.tmp (by rfl) .nil) ⟨by simp [tup, h0], rfl⟩ (by exact IMx)
    rw [decide_eq_false (show ¬ (k : Int) = 0 by omega)]
    refine GOH ?_
    by_cases h45 : c = 45
    rotate_left
    · rw [show decide ((c : Int) = 45) = false from decide_eq_false (by omega)]
      refine GOH ?_
      refine endQ_mk (.inr rfl) (.tmp (by rfl) .nil) ⟨by simp [tup, h0, h45], rfl⟩ (by exact IMx)
    rw [show decide ((c : Int) = 45) = true from decide_eq_true (by omega)]
    refine GOH ?_
    refine st_callP hp (by rfl) ?_
    refine GOH ?_
    refine st_callP (digit_spec d hd) (by rfl) ?_
    cases hdd : digB d
    · refine GOH ?_
      refine endQ_mk (.inr rfl) (.tmp (by rfl) .nil) ⟨by simp [tup, h0, h45], rfl⟩ (by exact IMx)
    · refine GOH ?_
      refine endQ_mk (.inr rfl) (.tmp (by rfl) .nil) ⟨by simp [tup, h0, h45], rfl⟩ (by exact IMx)
theorem sign_spec (s : ByteArray) (hs : s.size ≤ 140737488355328) (c : UInt8) (r : List Nat) (hc : s[0]? = some c) (hr : bytesN s = c.toNat :: r) (hb : c.toNat = 124 ∨ binB c.toNat = true) :
    Fun Tryz.prog 41 [.string s, vi 0] [] (fun v Post => v = vi (signL (bytesN s)) ∧ Post = []) := by
  refine Fun.intro low41 (by simp [n41]) ?_
  have hlen := bytesN_len s
  have hpos : 0 < s.size := by rw [← hlen, hr]; simp
  refine GOH ?_
  refine st_box (by rfl) (fun ps => ?_)
  simp only [Value.cells]
  refine GOH ?_
  refine st_box (by rfl) (fun pa => ?_)
  simp only [Value.cells]
  refine GOH ?_
  refine st_idxS (by rfl) (by rfl) (j := 0) rfl hc ?_
  refine GOH ?_
  by_cases h0 : c.toNat = 124
  · rw [show decide ((c.toNat : Int) = 124) = true from decide_eq_true (by omega)]
    refine GOH ?_
    refine endQ_mk (Post := []) (.inr rfl) (.tmp (by rfl) .nil) ⟨by simp [tup, hr, signL, h0], rfl⟩ (by exact IMx)
  rw [show decide ((c.toNat : Int) = 124) = false from decide_eq_false (by omega)]
  have hbin : binB c.toNat = true := by
    rcases hb with h | h
    · exact absurd h h0
    · exact h
  refine GOH ?_
  refine st_alloc (fun pf => ?_)
  refine GOH ?_
  have hrun := run_spec s hs 0 (by omega) (.func (.func 63) #[] #[ptr0 pa, ptr0 pf, ptr0 ps]) (fun k => [cellsAt pa 0 [vi k], cellsAt pf 0 [vi 0], cellsAt ps 0 [.string s]])
    (fun k => binB ((bytesN s).getD k 0) && (decide (k = 0) || decide ((bytesN s).getD k 0 ≠ 45) || !digB ((bytesN s).getD (k + 1) 0))) (fun k x _ hx => FunV.of_fun (by
      have hk : k < s.size := by rw [← hlen]; exact (List.getElem?_eq_some_iff.1 hx).1
      have := sign1_spec pa pf ps s hs k x hk (bytesN_lt s _ (List.mem_of_getElem? hx))
      rw [List.getD_eq_getElem?_getD (i := k), hx]
      exact this))
  simp only [show ((0 : Nat) : Int) = 0 from rfl] at hrun
  refine st_call hrun (by rfl) (by exact SPx) (fun v Post hv => ?_)
  obtain ⟨e, j, rfl, e1, e2, e3, e4, rfl⟩ := hv
  simp only [CNx]
  refine GOH ?_
  refine endQ_mk (Post := []) (.inr rfl) (.tmp (by rfl) .nil) ⟨?_, rfl⟩ (by exact IMx)
  have hget : ∀ k, k < s.size → ∃ x, (bytesN s)[k]? = some x ∧ (bytesN s).getD k 0 = x := fun k hk => by
    obtain ⟨x, _, hx⟩ := bytesN_ex hk
    exact ⟨_, hx, by rw [List.getD_eq_getElem?_getD, hx]; rfl⟩
  have he0 : e ≠ 0 := fun e0 => by
    subst e0
    have := e4 hpos
    rw [hr] at this
    simp [hbin] at this
  have hon : ∀ k, 1 ≤ k → k < s.size → signOn ((bytesN s).drop k) = (binB ((bytesN s).getD k 0) && (decide (k = 0) || decide ((bytesN s).getD k 0 ≠ 45) || !digB ((bytesN s).getD (k + 1) 0))) := fun k h1 hk => by
    obtain ⟨x, hx, hx2⟩ := hget k hk
    rw [signOn_drop hx, hx2, decide_eq_false (show ¬ k = 0 by omega), Bool.false_or]
  have := sign_run (c := c.toNat) (r := r) (e := e) h0 hbin (by rw [← hr]; omega) (fun k h1 h2 => by rw [← hr, hon k h2 (by omega)]; exact e3 k (by omega) h1) (fun hk => by
    rw [← hr] at hk ⊢
    exact ⟨by omega, by rw [hon e (by omega) (by omega)]; exact e4 (by omega)⟩)
  rcases this with h | h
  · rw [hr, h]; rfl
  · exact absurd h he0
theorem keys_iter (qs qt qn : Nat) (s : ByteArray) (hs : s.size ≤ 140737488355328) :
    Iter Tryz.prog (.func (.func 84) #[] #[ptr0 qs, ptr0 qt, ptr0 qn]) (fun x => [.string x]) [cellsAt qs 0 [.string ⟨#[58]⟩], cellsAt qt 0 [.string s], cellsAt qn 0 [vi 1]] [] (fun full => full.map bytesN = piecesL (bytesN s)) := by
  intro y J SP hy A hA
  refine FunV.of_fun (first := #[]) (cap := #[ptr0 qs, ptr0 qt, ptr0 qn]) ?_
  show Fun Tryz.prog 84 [y, ptr0 qs, ptr0 qt, ptr0 qn] _ _
  refine Fun.intro low84 (by simp [n84]) ?_
  simp only [CNx]
  refine GOH ?_
  refine VC.loop (α := List ByteArray × ByteArray × List Atom) (Γf := fun _ => [(0, y), (1, ptr0 qs), (2, ptr0 qt), (3, ptr0 qn)]) (Hf := fun st => [cellsAt qs 0 [.string ⟨#[58]⟩], cellsAt qt 0 [.string st.2.1], cellsAt qn 0 [vi 1], st.2.2])
    (I := fun st => st.1.map bytesN ++ piecesL (bytesN st.2.1) = piecesL (bytesN s) ∧ st.2.1.size ≤ s.size ∧ J st.1 st.2.2) (μ := fun st => st.2.1.size) ([], s, A) ⟨rfl, Nat.le_refl _, hA⟩ (by exact SUx) (by exact IMx) ?_
  rintro ⟨c, t, A1⟩ ⟨i1, i2, i3⟩
  simp only at i1 i2 i3
  dsimp only
  have hlen := bytesN_len t
  have hix : Fun Tryz.prog 86 [.string t, .string ⟨#[58]⟩] [] (fun v Post => v = vi (ixN (bytesN t) 58) ∧ Post = []) := by
    refine Fun.intro low86 (by simp [n86]) ?_
    refine GOH ?_
    refine st_callP (ixs_spec t) (by rfl) ?_
    refine GOH ?_
    refine ⟨.inr rfl, _, _, .tmp (by rfl) .nil, by exact IMx, ?_, rfl⟩
    rfl
  refine GOH ?_
  refine st_callP hix (by rfl) ?_
  rcases ixN_cases (bytesN t) 58 with ⟨h1, h2⟩ | ⟨p, r, h1, h2, h3⟩
  · rw [h1]
    refine GOH ?_
    have hfull : (c ++ [t]).map bytesN = piecesL (bytesN s) := by rw [← i1, pieces_none h2]; simp
    refine st_callV (by rfl) (hy c t A1 ⟨[], by simpa using hfull⟩ i3) (by rfl) (by exact SPx) (fun v Post hv => ?_)
    rcases hv with ⟨rfl, A', hA', rfl⟩ | ⟨rfl, B', hB', rfl⟩
    · simp only [CNx]
      refine GOH ?_
      exact endQ_mk (Post := [A']) (.inl rfl) .nil ⟨rfl, .inl ⟨c ++ [t], A', hfull, hA', rfl⟩⟩ (by exact IMx)
    · simp only [CNx]
      refine GOH ?_
      exact endQ_mk (Post := [B']) (.inl rfl) .nil ⟨rfl, .inr ⟨c ++ [t], B', ⟨[], by simpa using hfull⟩, hB', rfl⟩⟩ (by exact IMx)
  · have hsz : t.size = p.length + 1 + r.length := by rw [← hlen, h1]; simp; omega
    have hx : bytesN (t.extract 0 (p.length + 1)) = p ++ [58] := by
      rw [bytesN_extract, h1, show p ++ 58 :: r = (p ++ [58]) ++ r by simp, List.take_left' (by simp)]; rfl
    have hy2 : bytesN (t.extract (p.length + 1) t.size) = r := by
      rw [bytesN_extract, List.take_of_length_le (by omega), h1]
      simp [List.drop_append]
    have hys : (t.extract (p.length + 1) t.size).size = r.length := by rw [← bytesN_len, hy2]
    have hpc := pieces_cons (p := p) (r := r) h2
    rw [← h1] at hpc
    obtain ⟨full, hful⟩ := pieces_ex (t.extract (p.length + 1) t.size)
    rw [hy2] at hful
    have hok : OkC (fun full => full.map bytesN = piecesL (bytesN s)) (c ++ [t.extract 0 (p.length + 1)]) := ⟨full, by rw [← i1, hpc]; simp [hx, hful]⟩
    rw [h3]
    refine GOH ?_
    rw [decide_eq_false (show ¬ ((p.length : Int) < 0) by omega)]
    refine GOH ?_
    refine st_slcS (l := 0) (h := p.length + 1) (by rfl) .dft (.num (by rfl)) (by omega) ?_
    refine GOH ?_
    refine st_callV (by rfl) (hy c _ A1 hok i3) (by rfl) (by exact SPx) (fun v Post hv => ?_)
    rcases hv with ⟨rfl, A', hA', rfl⟩ | ⟨rfl, B', hB', rfl⟩
    · simp only [CNx]
      refine GOH ?_
      rw [show (((⟨#[58]⟩ : ByteArray).size : Nat) : Int) = 1 from rfl, wrap64 (show -9223372036854775808 ≤ (p.length : Int) + 1 ∧ (p.length : Int) + 1 ≤ 9223372036854775807 by omega)]
      refine st_slcS (l := p.length + 1) (h := t.size) (by rfl) (.num (by rfl)) .dft (by omega) ?_
      refine GOH ?_
      exact ⟨(c ++ [t.extract 0 (p.length + 1)], t.extract (p.length + 1) t.size, A'), ⟨by simp only [hy2]; rw [← i1, hpc]; simp [hx], by simp only [hys]; omega, hA'⟩, by simp only [hys]; omega, by exact SUx, by exact IMx⟩
    · simp only [CNx]
      refine GOH ?_
      exact endQ_mk (Post := [B']) (.inr rfl) .nil ⟨rfl, .inr ⟨_, B', hok, hB', rfl⟩⟩ (by exact IMx)
theorem cutSuffix_spec (s : ByteArray) (hs : s.size ≤ 140737488355328) : Fun Tryz.prog 43 [.string s, .string ⟨#[58]⟩] [] (fun v Post => ∃ t, v = .tuple #[.string t, .bool (decide ((bytesN s).getLast? = some 58))] ∧ ((bytesN s).getLast? = some 58 → bytesN t = (bytesN s).dropLast) ∧ t.size ≤ s.size ∧ Post = []) := by
  have hlen := bytesN_len s
  have hlast : ∀ (h : 1 ≤ s.size), s.extract (s.size - 1) s.size = ⟨#[58]⟩ ↔ (bytesN s).getLast? = some 58 := fun h => by
    have hb : bytesN (s.extract (s.size - 1) s.size) = (bytesN s).drop (s.size - 1) := by rw [bytesN_extract, List.take_of_length_le (by omega)]
    rw [List.getLast?_eq_getElem?, hlen]
    constructor
    · intro e
      rw [e] at hb
      have : (bytesN s).drop (s.size - 1) = [58] := hb.symm
      have h2 := congrArg (fun l => l[0]?) this
      simpa using h2
    · intro e
      apply bytesN_inj
      rw [hb]
      obtain ⟨hk, hv⟩ := List.getElem?_eq_some_iff.1 e
      rw [List.drop_eq_getElem_cons hk, hv, List.drop_eq_nil_of_le (by omega)]; rfl
  have hsuf : Fun Tryz.prog 87 [.string s, .string ⟨#[58]⟩] [] (fun v Post => v = .bool (decide ((bytesN s).getLast? = some 58)) ∧ Post = []) := by
    refine Fun.intro low87 (by simp [n87]) ?_
    refine GOH ?_
    rw [show (((⟨#[58]⟩ : ByteArray).size : Nat) : Int) = 1 from rfl]
    by_cases h : 1 ≤ s.size
    · rw [decide_eq_true (show (s.size : Int) ≥ 1 by omega)]
      refine GOH ?_
      rw [show (((⟨#[58]⟩ : ByteArray).size : Nat) : Int) = 1 from rfl, wrap64 (show -9223372036854775808 ≤ (s.size : Int) - 1 ∧ (s.size : Int) - 1 ≤ 9223372036854775807 by omega), show (s.size : Int) - 1 = ((s.size - 1 : Nat) : Int) by omega]
      refine st_slcS (l := s.size - 1) (h := s.size) (by rfl) (.num (by rfl)) .dft (by omega) ?_
      refine GOH ?_
      refine ⟨.inr rfl, _, _, .tmp (by rfl) .nil, by exact IMx, ?_, rfl⟩
      simp only [tup, hlast h]
    · rw [decide_eq_false (show ¬ (s.size : Int) ≥ 1 by omega)]
      refine GOH ?_
      refine ⟨.inr rfl, _, _, .tmp (by rfl) .nil, by exact IMx, ?_, rfl⟩
      have : bytesN s = [] := List.length_eq_zero_iff.1 (by omega)
      simp [tup, this]
  have hcut : Fun Tryz.prog 66 [.string s, .string ⟨#[58]⟩] [] (fun v Post => ∃ t, v = .tuple #[.string t, .bool (decide ((bytesN s).getLast? = some 58))] ∧ ((bytesN s).getLast? = some 58 → bytesN t = (bytesN s).dropLast) ∧ t.size ≤ s.size ∧ Post = []) := by
    refine Fun.intro low66 (by simp [n66]) ?_
    refine GOH ?_
    refine st_callP hsuf (by rfl) ?_
    by_cases h : (bytesN s).getLast? = some 58
    · have hpos : 1 ≤ s.size := by
        cases hb : bytesN s with
        | nil => rw [hb] at h; cases h
        | cons a r => rw [← hlen, hb]; simp
      rw [decide_eq_true h]
      refine GOH ?_
      rw [show (((⟨#[58]⟩ : ByteArray).size : Nat) : Int) = 1 from rfl, wrap64 (show -9223372036854775808 ≤ (s.size : Int) - 1 ∧ (s.size : Int) - 1 ≤ 9223372036854775807 by omega), show (s.size : Int) - 1 = ((s.size - 1 : Nat) : Int) by omega]
      refine st_slcS (l := 0) (h := s.size - 1) (by rfl) .dft (.num (by rfl)) (by omega) ?_
      refine GOH ?_
      have hb : bytesN (s.extract 0 (s.size - 1)) = (bytesN s).dropLast := by rw [bytesN_extract, List.drop_zero, List.dropLast_eq_take, hlen]
      refine endQ_mk (Post := []) (.inr rfl) (.tmp (by rfl) (.tmp (by rfl) .nil)) ⟨_, rfl, fun _ => hb, ?_, rfl⟩ (by exact IMx)
      rw [← bytesN_len, hb, ← hlen]; simp
    · rw [decide_eq_false h]
      refine GOH ?_
      refine endQ_mk (Post := []) (.inr rfl) (.tmp (by rfl) (.tmp (by rfl) .nil)) ⟨_, rfl, fun h2 => absurd h2 h, Nat.le_refl _, rfl⟩ (by exact IMx)
  refine Fun.intro low43 (by simp [n43]) ?_
  refine GOH ?_
  refine st_call hcut (by rfl) (by exact SPx) (fun v Post hv => ?_)
  obtain ⟨t, rfl, h1, h2, rfl⟩ := hv
  simp only [List.nil_append]
  refine GOH ?_
  refine endQ_mk (Post := []) (.inr rfl) (.tmp (by rfl) (.tmp (by rfl) .nil)) ⟨t, rfl, h1, h2, rfl⟩ (by exact IMx)
theorem splitAfter_spec (s : ByteArray) : Fun Tryz.prog 42 [.string s, .string ⟨#[58]⟩] [] (fun v Post => ∃ qs qt qn, v = .func (.func 84) #[] #[ptr0 qs, ptr0 qt, ptr0 qn] ∧ Post = [cellsAt qs 0 [.string ⟨#[58]⟩], cellsAt qt 0 [.string s], cellsAt qn 0 [vi 1]]) := by
  have h : Fun Tryz.prog 65 [.string s, .string ⟨#[58]⟩, vi 1] [] (fun v Post => ∃ qs qt qn, v = .func (.func 84) #[] #[ptr0 qs, ptr0 qt, ptr0 qn] ∧ Post = [cellsAt qs 0 [.string ⟨#[58]⟩], cellsAt qt 0 [.string s], cellsAt qn 0 [vi 1]]) := by
    refine Fun.intro low65 (by simp [n65]) ?_
    refine GOH ?_
    refine st_box (by rfl) (fun qt => ?_)
    simp only [Value.cells]
    refine GOH ?_
    refine st_box (by rfl) (fun qs => ?_)
    simp only [Value.cells]
    refine GOH ?_
    refine st_box (by rfl) (fun qn => ?_)
    simp only [Value.cells]
    refine GOH ?_
    refine endQ_mk (.inr rfl) (.tmp (by rfl) .nil) ⟨qs, qt, qn, rfl, rfl⟩ (by exact IMx)
  refine Fun.intro low42 (by simp [n42]) ?_
  refine GOH ?_
  rw [show (((⟨#[58]⟩ : ByteArray).size : Nat) : Int) = 1 from rfl]
  refine st_call h (by rfl) (by exact SPx) (fun v Post hv => ?_)
  obtain ⟨qs, qt, qn, rfl, rfl⟩ := hv
  simp only [CNx]
  refine GOH ?_
  refine endQ_mk (.inr rfl) (.tmp (by rfl) .nil) ⟨qs, qt, qn, rfl, rfl⟩ (by exact IMx)
shelf_lay LaysC.n174 Nm 174 at Tryz as Tryz.sl174
def ErA (A : List Atom) : Prop := ∃ ev, Atom.cell (Tryz.sl174_ren.g 16) 0 ev ∈ A ∧ (ev = .nilIface ∨ ∃ te pe, ev = .iface te pe)
theorem parseM_ok : ∀ (l : List UInt8) (acc k : Nat), (∀ c ∈ l, digB c.toNat = true) → acc < 10 ^ k → k + l.length ≤ 19 → Lib.parseUintM (2 ^ 64 - 1) acc l = .ok ((l.map UInt8.toNat).foldl (fun n c => n * 10 + (c - 48)) acc) := by
  intro l
  induction l with
  | nil => intro acc k _ _ _; rfl
  | cons c r ih =>
    intro acc k hd ha hk
    have hc := hd c (by simp)
    simp only [digB, Bool.and_eq_true, decide_eq_true_eq] at hc
    simp only [List.length_cons] at hk
    have hp : 10 ^ k ≤ 10 ^ 18 := Nat.pow_le_pow_right (by omega) (by omega)
    have h18 : (10 : Nat) ^ 18 = 1000000000000000000 := by decide
    have h64 : (2 : Nat) ^ 64 - 1 = 18446744073709551615 := by decide
    have hs : (10 : Nat) ^ (k + 1) = 10 ^ k * 10 := Nat.pow_succ ..
    simp only [Lib.parseUintM, if_pos hc, if_neg (show ¬ 1844674407370955162 ≤ acc by omega), if_neg (show ¬ (2 ^ 64 - 1 < acc * 10 + (c.toNat - 48)) by omega), List.map_cons, List.foldl_cons]
    exact ih _ (k + 1) (fun x hx => hd x (by simp [hx])) (by omega) (by omega)
theorem parseInt_spec (A : List Atom) (hE : ErA A) (s : ByteArray) (h0 : bytesN s ≠ []) (hd : (bytesN s).all digB = true) (hl : s.size ≤ 19) :
    Fun Tryz.prog 72 [.string s, vi 10, vi 64] [A] (fun v Post => ((numL (bytesN s) ≤ 9223372036854775807 ∧ v = .tuple #[vi (numL (bytesN s)), .nilIface]) ∨ (9223372036854775807 < numL (bytesN s) ∧ ∃ z t p, v = .tuple #[vi z, .iface t p] ∧ -9223372036854775808 ≤ z ∧ z ≤ 9223372036854775807)) ∧ Post = [A]) := by
  have hall : ∀ c ∈ s.data.toList, digB c.toNat = true := fun c hc => List.all_eq_true.1 hd _ (List.mem_map.2 ⟨c, hc, rfl⟩)
  have hlen : s.data.toList.length = s.size := by simp
  have hu := parseM_ok s.data.toList 0 0 hall (by decide) (by omega)
  have hu2 : Lib.parseUintM (2 ^ 64 - 1) 0 s.data.toList = .ok (numL (bytesN s)) := hu
  have hne : s.data.toList ≠ [] := fun e => h0 (by simp [bytesN, e])
  have hp : Lib.parseIntB 64 s.data.toList = if 9223372036854775808 ≤ numL (bytesN s) then .range else .ok ((numL (bytesN s) : Nat) : Int) := by
    unfold Lib.parseIntB
    cases hs : s.data.toList with
    | nil => exact absurd hs hne
    | cons c r =>
      have hc := hall c (by rw [hs]; simp)
      simp only [digB, Bool.and_eq_true, decide_eq_true_eq] at hc
      rw [hs] at hu2
      simp only [if_neg (show ¬ (c.toNat = 43 ∨ c.toNat = 45) by omega), Lib.parseUintB, if_neg (show ¬ (c :: r = []) by simp), hu2]
      have h45 : ¬ c.toNat = 45 := by omega
      by_cases hbig : 9223372036854775808 ≤ numL (bytesN s)
      · simp [h45, hbig]
      · simp [h45, hbig]
  obtain ⟨ev, hev, hev2⟩ := hE
  by_cases hbig : 9223372036854775808 ≤ numL (bytesN s)
  · rw [if_pos hbig] at hp
    refine Fun.of_calls2 (by kernel_rfl) (fun w F hs => ?_)
    have hcell := (hs.cell (List.mem_append_left _ hev)).1
    refine (Any.strconv_ParseInt_10_at64_range Tryz.sl174 s (by omega) hp ev w hcell hev2).mono ?_
    rintro e w' ⟨N, rfl, _, _, hb⟩
    refine ⟨_, rfl, .inr ⟨by omega, _, _, _, rfl, ?_⟩, hb⟩
    unfold Lib.intSat
    split <;> decide
  · rw [if_neg hbig] at hp
    refine Fun.of_calls2 (by kernel_rfl) (fun w F hs => ?_)
    refine (Any.strconv_ParseInt_10_at64_ok Tryz.sl174 s (by omega) _ hp w).mono ?_
    rintro e w' ⟨rfl, hb⟩
    refine ⟨_, rfl, .inl ⟨by omega, rfl⟩, ?_⟩
    rcases hb with rfl | ⟨t, rfl⟩
    · exact .refl _ _
    · exact Lib.bytesWorld_below _ _ _
theorem cutPrefix_spec (s : ByteArray) (hs : s.size ≤ 140737488355328) : Fun Tryz.prog 49 [.string s, .string ⟨#[45]⟩] [] (fun v Post => ∃ t, v = .tuple #[.string t, .bool (decide ((bytesN s).head? = some 45))] ∧ bytesN t = (if (bytesN s).head? = some 45 then (bytesN s).tail else bytesN s) ∧ t.size ≤ s.size ∧ Post = []) := by
  have hlen := bytesN_len s
  have hhead : ∀ (h : 1 ≤ s.size), s.extract 0 1 = ⟨#[45]⟩ ↔ (bytesN s).head? = some 45 := fun h => by
    have hb : bytesN (s.extract 0 1) = (bytesN s).take 1 := by rw [bytesN_extract, List.drop_zero]
    cases hx : bytesN s with
    | nil => rw [hx] at hlen; simp at hlen; omega
    | cons a r =>
      rw [hx] at hb
      constructor
      · intro e
        rw [e] at hb
        have : [45] = [a] := hb
        simp at this; simp [← this]
      · intro e
        simp at e
        apply bytesN_inj
        rw [hb, e]; rfl
  have hpre : Fun Tryz.prog 88 [.string s, .string ⟨#[45]⟩] [] (fun v Post => v = .bool (decide ((bytesN s).head? = some 45)) ∧ Post = []) := by
    refine Fun.intro low88 (by simp [n88]) ?_
    refine GOH ?_
    rw [show (((⟨#[45]⟩ : ByteArray).size : Nat) : Int) = 1 from rfl]
    by_cases h : 1 ≤ s.size
    · rw [decide_eq_true (show (s.size : Int) ≥ 1 by omega)]
      refine GOH ?_
      rw [show (((⟨#[45]⟩ : ByteArray).size : Nat) : Int) = 1 from rfl]
      refine st_slcS (l := 0) (h := 1) (by rfl) .dft (.num (by rfl)) (by omega) ?_
      refine GOH ?_
      refine ⟨.inr rfl, _, _, .tmp (by rfl) .nil, by exact IMx, ?_, rfl⟩
      simp only [tup, hhead h]
    · rw [decide_eq_false (show ¬ (s.size : Int) ≥ 1 by omega)]
      refine GOH ?_
      refine ⟨.inr rfl, _, _, .tmp (by rfl) .nil, by exact IMx, ?_, rfl⟩
      have : bytesN s = [] := List.length_eq_zero_iff.1 (by omega)
      simp [tup, this]
  have hcut : Fun Tryz.prog 70 [.string s, .string ⟨#[45]⟩] [] (fun v Post => ∃ t, v = .tuple #[.string t, .bool (decide ((bytesN s).head? = some 45))] ∧ bytesN t = (if (bytesN s).head? = some 45 then (bytesN s).tail else bytesN s) ∧ t.size ≤ s.size ∧ Post = []) := by
    refine Fun.intro low70 (by simp [n70]) ?_
    refine GOH ?_
    refine st_callP hpre (by rfl) ?_
    by_cases h : (bytesN s).head? = some 45
    · have hpos : 1 ≤ s.size := by
        cases hb : bytesN s with
        | nil => rw [hb] at h; cases h
        | cons a r => rw [← hlen, hb]; simp
      rw [decide_eq_true h]
      refine GOH ?_
      rw [show (((⟨#[45]⟩ : ByteArray).size : Nat) : Int) = 1 from rfl]
      refine st_slcS (l := 1) (h := s.size) (by rfl) (.num (by rfl)) .dft (by omega) ?_
      refine GOH ?_
      have hb : bytesN (s.extract 1 s.size) = (bytesN s).tail := by rw [bytesN_extract, List.take_of_length_le (by omega), List.drop_one]
      refine endQ_mk (Post := []) (.inr rfl) (.tmp (by rfl) (.tmp (by rfl) .nil)) ⟨_, rfl, by rw [if_pos h, hb], ?_, rfl⟩ (by exact IMx)
      rw [← bytesN_len, hb, ← hlen]; simp
    · rw [decide_eq_false h]
      refine GOH ?_
      refine endQ_mk (Post := []) (.inr rfl) (.tmp (by rfl) (.tmp (by rfl) .nil)) ⟨_, rfl, by rw [if_neg h], Nat.le_refl _, rfl⟩ (by exact IMx)
  refine Fun.intro low49 (by simp [n49]) ?_
  refine GOH ?_
  refine st_call hcut (by rfl) (by exact SPx) (fun v Post hv => ?_)
  obtain ⟨t, rfl, h1, h2, rfl⟩ := hv
  simp only [List.nil_append]
  refine GOH ?_
  refine endQ_mk (Post := []) (.inr rfl) (.tmp (by rfl) (.tmp (by rfl) .nil)) ⟨t, rfl, h1, h2, rfl⟩ (by exact IMx)
theorem trimByte_spec (s : ByteArray) (hs : s.size ≤ 140737488355328) : Fun Tryz.prog 95 [.string s, .int .u8 48] [] (fun v Post => ∃ t, v = .string t ∧ bytesN t = (bytesN s).dropWhile (fun c => decide (c = 48)) ∧ Post = []) := by
  refine Fun.intro low95 (by simp [n95]) ?_
  refine GOH ?_
  refine VC.loop (α := ByteArray) (Γf := fun t => [(0, .string t), (1, .int .u8 48)]) (Hf := fun _ => []) (I := fun t => t.size ≤ s.size ∧ (bytesN t).dropWhile (fun c => decide (c = 48)) = (bytesN s).dropWhile (fun c => decide (c = 48))) (μ := fun t => t.size) s ⟨Nat.le_refl _, rfl⟩ (by exact SUx) (by exact IMx) ?_
  rintro t ⟨i1, i2⟩
  have hlen := bytesN_len t
  refine GOH ?_
  by_cases h0 : t = ⟨#[]⟩
  · subst h0
    refine GOH ?_
    refine endQ_mk (Post := []) (.inr rfl) (.tmp (by rfl) .nil) ⟨_, rfl, by rw [← i2]; rfl, rfl⟩ (by exact IMx)
  obtain ⟨c, r, hc, hr, hc256, hpos⟩ := bytesN_cons h0
  rw [decide_eq_true (show (t.size : Int) > 0 by omega)]
  refine GOH ?_
  refine st_idxS (by rfl) (by rfl) (j := 0) rfl hc ?_
  refine GOH ?_
  by_cases h48 : c.toNat = 48
  · rw [show decide ((c.toNat : Int) = 48) = true from decide_eq_true (by omega)]
    refine GOH ?_
    refine st_slcS (l := 1) (h := t.size) (by rfl) (.num (by rfl)) .dft (by omega) ?_
    refine GOH ?_
    have hb : bytesN (t.extract 1 t.size) = r := by rw [bytesN_extract, List.take_of_length_le (by omega), List.drop_one, hr]; rfl
    have hz : (t.extract 1 t.size).size + 1 = t.size := by rw [← bytesN_len, hb, ← hlen, hr]; rfl
    refine ⟨t.extract 1 t.size, ⟨by omega, ?_⟩, by omega, by exact SUx, by exact IMx⟩
    rw [hb, ← i2, hr, List.dropWhile_cons_of_pos (by simp [h48])]
  · rw [show decide ((c.toNat : Int) = 48) = false from decide_eq_false (by omega)]
    refine GOH ?_
    refine endQ_mk (Post := []) (.inr rfl) (.tmp (by rfl) .nil) ⟨_, rfl, ?_, rfl⟩ (by exact IMx)
    rw [← i2, hr, List.dropWhile_cons_of_neg (by simp [h48])]
theorem plainL_eq (l : List Nat) : plainL l = if l.dropWhile (fun c => decide (c = 48)) = [] ∧ l ≠ [] then [48] else l.dropWhile (fun c => decide (c = 48)) := by
  induction l with
  | nil => rfl
  | cons a l ih =>
    by_cases ha : a = 48
    · subst ha
      cases l with
      | nil => rfl
      | cons b r =>
        rw [plainL, ih, show List.dropWhile (fun c => decide (c = 48)) (48 :: b :: r) = List.dropWhile (fun c => decide (c = 48)) (b :: r) from List.dropWhile_cons_of_pos (by simp)]
        simp
    · rw [List.dropWhile_cons_of_neg (by simp [ha])]
      have : plainL (a :: l) = a :: l := by
        cases l with
        | nil => simp [plainL]
        | cons b r => simp [plainL, ha]
      simp [this]
theorem plain_spec (s : ByteArray) (hs : s.size ≤ 140737488355328) : Fun Tryz.prog 52 [.string s] [] (fun v Post => ∃ t, v = .string t ∧ bytesN t = plainL (bytesN s) ∧ Post = []) := by
  have htrim : Fun Tryz.prog 73 [.string s, .string ⟨#[48]⟩] [] (fun v Post => ∃ t, v = .string t ∧ bytesN t = (bytesN s).dropWhile (fun c => decide (c = 48)) ∧ Post = []) := by
    refine Fun.intro low73 (by simp [n73]) ?_
    refine GOH ?_
    by_cases h0 : s = ⟨#[]⟩
    · subst h0
      refine GOH ?_
      refine endQ_mk (Post := []) (.inr rfl) (.tmp (by rfl) .nil) ⟨_, rfl, rfl, rfl⟩ (by exact IMx)
    rw [decide_eq_false h0]
    refine GOH ?_
    refine st_call (trimByte_spec s hs) (by rfl) (by exact SPx) (fun v Post hv => ?_)
    obtain ⟨t, rfl, h1, rfl⟩ := hv
    simp only [List.nil_append]
    refine GOH ?_
    refine endQ_mk (Post := []) (.inr rfl) (.tmp (by rfl) .nil) ⟨_, rfl, h1, rfl⟩ (by exact IMx)
  refine Fun.intro low52 (by simp [n52]) ?_
  refine GOH ?_
  refine st_call htrim (by rfl) (by exact SPx) (fun v Post hv => ?_)
  obtain ⟨t, rfl, h1, rfl⟩ := hv
  simp only [List.nil_append]
  refine GOH ?_
  have hp := plainL_eq (bytesN s)
  rw [← h1] at hp
  by_cases ht : t = ⟨#[]⟩
  · rw [decide_eq_true ht]
    have hb : bytesN t = [] := by rw [ht]; rfl
    refine GOH ?_
    by_cases h0 : s = ⟨#[]⟩
    · subst h0
      refine GOH ?_
      refine endQ_mk (Post := []) (.inr rfl) (.tmp (by rfl) .nil) ⟨_, rfl, by rw [hb]; rfl, rfl⟩ (by exact IMx)
    · rw [decide_eq_false h0, Bool.not_false]
      have hs0 : bytesN s ≠ [] := fun e => h0 (bytesN_inj (by rw [e]; rfl))
      refine GOH ?_
      refine endQ_mk (Post := []) (.inr rfl) (.tmp (by rfl) .nil) ⟨_, rfl, by rw [hp, if_pos ⟨hb, hs0⟩]; rfl, rfl⟩ (by exact IMx)
  · rw [decide_eq_false ht]
    have hb : bytesN t ≠ [] := fun e => ht (bytesN_inj (by rw [e]; rfl))
    refine GOH ?_
    refine endQ_mk (Post := []) (.inr rfl) (.tmp (by rfl) .nil) ⟨_, rfl, by rw [hp, if_neg (fun h => hb h.1)], rfl⟩ (by exact IMx)
def smallD (m : Bool) (l : List Nat) : Prop := l.length ≤ 19 ∧ numL l ≤ (if m = true then 1152921504606846976 else 1152921504606846975)
def WholeQ (m : Bool) (t : ByteArray) (v : Value) : Prop :=
  (smallD m (bytesN t) ∧ v = .agg #[cv 4, vi (if m = true then -(numL (bytesN t) : Int) else (numL (bytesN t) : Int)), uv 0, .string ⟨#[]⟩, .slice none 0 0]) ∨
  (¬ smallD m (bytesN t) ∧ ∃ u, v = .agg #[cv 5, vi 0, uv 0, .string u, .slice none 0 0] ∧ bytesN u = if m = true then 45 :: bytesN t else bytesN t)
theorem whole_spec (A : List Atom) (hE : ErA A) (t : ByteArray) (h0 : bytesN t ≠ []) (hd : (bytesN t).all digB = true) (hl : t.size ≤ 255) (m : Bool) : Fun Tryz.prog 51 [.string t, .bool m] [A] (fun v Post => WholeQ m t v ∧ Post = [A]) := by
  refine Fun.intro low51 (by simp [n51]) ?_
  have hlen := bytesN_len t
  have hcat : binV .add (.string ⟨#[45]⟩) (.string t) = some (.string (⟨#[45]⟩ ++ t)) := if_pos (by show 1 + t.size ≤ 9223372036854775807; omega)
  refine GOH ?_
  refine st_alloc (fun b => ?_)
  refine GOH ?_
  by_cases h19 : t.size ≤ 19
  rotate_left
  · rw [decide_eq_false (show ¬ (t.size : Int) ≤ 19 by omega)]
    have hns : ¬ smallD m (bytesN t) := fun hs => by have := hs.1; omega
    cases m with
    | true =>
      refine GOH ?_
      refine st_bin (by rfl) (by rfl) hcat ?_
      refine GOH ?_
      refine ⟨.inr rfl, _, _, .cellN (us := [cv 5, vi 0, uv 0, .string (⟨#[45]⟩ ++ t), .slice none 0 0]) (by rfl) (by rfl) (fun x hx => by simp only [List.flatten_cons, List.mem_append]; first | exact .inl hx | exact .inr (.inl hx)) .nil, by exact IMx, .inr ⟨hns, _, rfl, by rw [bytesN_append]; rfl⟩, rfl⟩
    | false =>
      refine GOH ?_
      refine ⟨.inr rfl, _, _, .cellN (us := [cv 5, vi 0, uv 0, .string t, .slice none 0 0]) (by rfl) (by rfl) (fun x hx => by simp only [List.flatten_cons, List.mem_append]; first | exact .inl hx | exact .inr (.inl hx)) .nil, by exact IMx, .inr ⟨hns, _, rfl, rfl⟩, rfl⟩
  rw [decide_eq_true (show (t.size : Int) ≤ 19 by omega)]
  refine GOH ?_
  refine st_call (parseInt_spec A hE t h0 hd h19) (by rfl) (by exact SPx) (fun v Post hv => ?_)
  rcases hv with ⟨⟨hn, rfl⟩ | ⟨hn, z, ty, pp, rfl, hz⟩, rfl⟩
  · simp only [CNx]
    obtain ⟨N, hN⟩ : ∃ N, numL (bytesN t) = N := ⟨_, rfl⟩
    rw [hN] at hn ⊢
    have hsm2 : ∀ m, smallD m (bytesN t) ↔ N ≤ (if m = true then 1152921504606846976 else 1152921504606846975) := fun m => by
      unfold smallD; rw [hN]; exact ⟨fun h => h.2, fun h => ⟨by omega, h⟩⟩
    cases m with
    | true =>
      refine GOH ?_
      rw [show IntKind.i64.wrap (0 - (N : Int)) = -(N : Int) by rw [Int.zero_sub]; exact wrap64 ⟨by omega, by omega⟩]
      by_cases hs : N ≤ 1152921504606846976
      · have hsm : smallD true (bytesN t) := (hsm2 true).2 hs
        rw [decide_eq_true (show (-1152921504606846976 : Int) ≤ -(N : Int) by omega)]
        refine GOH ?_
        rw [decide_eq_true (show -(N : Int) ≤ 1152921504606846975 by omega)]
        refine GOH ?_
        refine ⟨.inr rfl, _, _, .cellN (us := [cv 4, vi (-(N : Int)), uv 0, .string ⟨#[]⟩, .slice none 0 0]) (by rfl) (by rfl) (fun x hx => by simp only [List.flatten_cons, List.mem_append]; first | exact .inl hx | exact .inr (.inl hx)) .nil, by exact IMx, .inl ⟨hsm, by rw [hN]; rfl⟩, rfl⟩
      · have hns : ¬ smallD true (bytesN t) := fun h => hs ((hsm2 true).1 h)
        rw [decide_eq_false (show ¬ (-1152921504606846976 : Int) ≤ -(N : Int) by omega)]
        refine GOH ?_
        refine st_bin (by rfl) (by rfl) hcat ?_
        refine GOH ?_
        refine ⟨.inr rfl, _, _, .cellN (us := [cv 5, vi 0, uv 0, .string (⟨#[45]⟩ ++ t), .slice none 0 0]) (by rfl) (by rfl) (fun x hx => by simp only [List.flatten_cons, List.mem_append]; first | exact .inl hx | exact .inr (.inl hx)) .nil, by exact IMx, .inr ⟨hns, _, rfl, by rw [bytesN_append]; rfl⟩, rfl⟩
    | false =>
      refine GOH ?_
      by_cases hs : N ≤ 1152921504606846975
      · have hsm : smallD false (bytesN t) := (hsm2 false).2 hs
        rw [decide_eq_true (show (N : Int) ≤ 1152921504606846975 by omega)]
        refine GOH ?_
        refine ⟨.inr rfl, _, _, .cellN (us := [cv 4, vi (N : Int), uv 0, .string ⟨#[]⟩, .slice none 0 0]) (by rfl) (by rfl) (fun x hx => by simp only [List.flatten_cons, List.mem_append]; first | exact .inl hx | exact .inr (.inl hx)) .nil, by exact IMx, .inl ⟨hsm, by rw [hN]; rfl⟩, rfl⟩
      · have hns : ¬ smallD false (bytesN t) := fun h => hs ((hsm2 false).1 h)
        rw [decide_eq_false (show ¬ (N : Int) ≤ 1152921504606846975 by omega)]
        refine GOH ?_
        refine ⟨.inr rfl, _, _, .cellN (us := [cv 5, vi 0, uv 0, .string t, .slice none 0 0]) (by rfl) (by rfl) (fun x hx => by simp only [List.flatten_cons, List.mem_append]; first | exact .inl hx | exact .inr (.inl hx)) .nil, by exact IMx, .inr ⟨hns, _, rfl, rfl⟩, rfl⟩
  · simp only [CNx]
    have hns : ¬ smallD m (bytesN t) := fun hs => by have := hs.2; split at this <;> omega
    cases m with
    | true =>
      refine GOH ?_
      refine st_bin (by rfl) (by rfl) hcat ?_
      refine GOH ?_
      refine ⟨.inr rfl, _, _, .cellN (us := [cv 5, vi 0, uv 0, .string (⟨#[45]⟩ ++ t), .slice none 0 0]) (by rfl) (by rfl) (fun x hx => by simp only [List.flatten_cons, List.mem_append]; first | exact .inl hx | exact .inr (.inl hx)) .nil, by exact IMx, .inr ⟨hns, _, rfl, by rw [bytesN_append]; rfl⟩, rfl⟩
    | false =>
      refine GOH ?_
      refine ⟨.inr rfl, _, _, .cellN (us := [cv 5, vi 0, uv 0, .string t, .slice none 0 0]) (by rfl) (by rfl) (fun x hx => by simp only [List.flatten_cons, List.mem_append]; first | exact .inl hx | exact .inr (.inl hx)) .nil, by exact IMx, .inr ⟨hns, _, rfl, rfl⟩, rfl⟩
def digsL (l : List Nat) : List Nat := if l.head? = some 45 then l.tail else l
def minusL (l : List Nat) : Bool := decide (l.head? = some 45)
def goodL (l : List Nat) : Bool := decide (digsL l ≠ []) && decide ((plainL (digsL l)).length ≤ 255) && (digsL l).all digB
def IntQ (s : ByteArray) (v : Value) : Prop :=
  (goodL (bytesN s) = false ∧ v = .tuple #[.agg #[cv 0, vi 0, uv 0, .string ⟨#[]⟩, .slice none 0 0], vi 144]) ∨
  (goodL (bytesN s) = true ∧ ∃ t u, bytesN t = plainL (digsL (bytesN s)) ∧ WholeQ (minusL (bytesN s)) t u ∧ v = .tuple #[u, vi 0])
theorem plainL_dig {l : List Nat} (h : l.all digB = true) : (plainL l).all digB = true := by
  rw [plainL_eq]
  split
  · rfl
  · rw [List.all_eq_true] at h ⊢
    intro x hx
    exact h x ((List.dropWhile_sublist _).subset hx)
theorem plainL_ne {l : List Nat} (h : l ≠ []) : plainL l ≠ [] := by
  rw [plainL_eq]
  split
  · simp
  · rename_i h2; intro e; exact h2 ⟨e, h⟩
theorem WholeQ.cells {m : Bool} {t : ByteArray} {v : Value} (h : WholeQ m t v) : ∃ us, v = .agg us ∧ us.toList.length = 5 := by
  rcases h with ⟨_, rfl⟩ | ⟨_, u, rfl, _⟩ <;> exact ⟨_, rfl, rfl⟩
theorem integer_spec (A : List Atom) (hE : ErA A) (s : ByteArray) (hs : s.size ≤ 140737488355328) : Fun Tryz.prog 26 [.string s] [A] (fun v Post => IntQ s v ∧ Post = [A]) := by
  refine Fun.intro low26 (by simp [n26]) ?_
  refine GOH ?_
  refine st_alloc (fun b => ?_)
  refine GOH ?_
  refine st_call (cutPrefix_spec s hs) (by rfl) (by exact SPx) (fun v Post hv => ?_)
  obtain ⟨d, rfl, hd, hds, rfl⟩ := hv
  simp only [List.nil_append]
  have hdig : bytesN d = digsL (bytesN s) := hd
  have hm : decide ((bytesN s).head? = some 45) = minusL (bytesN s) := rfl
  rw [hm]
  obtain ⟨m, hmm⟩ : ∃ m, minusL (bytesN s) = m := ⟨_, rfl⟩
  rw [hmm]
  refine GOH ?_
  refine st_call (plain_spec d (by omega)) (by rfl) (by exact SPx) (fun v Post hv => ?_)
  obtain ⟨t, rfl, ht, rfl⟩ := hv
  simp only [List.nil_append]
  have hlt := bytesN_len t
  have hld := bytesN_len d
  have hIntB : goodL (bytesN s) = false → IntQ s (.tuple #[.agg #[cv 0, vi 0, uv 0, .string ⟨#[]⟩, .slice none 0 0], vi 144]) := fun h => .inl ⟨h, rfl⟩
  have hg : goodL (bytesN s) = (decide (bytesN d ≠ []) && decide (t.size ≤ 255) && (bytesN d).all digB) := by
    unfold goodL; rw [← hdig, ← ht, hlt]
  refine GOH ?_
  by_cases h0 : d = ⟨#[]⟩
  · rw [decide_eq_true h0]
    have hb : goodL (bytesN s) = false := by rw [hg, h0]; rfl
    refine GOH ?_
    refine ⟨.inr rfl, _, _, .cellN (us := [cv 0, vi 0, uv 0, .string ⟨#[]⟩, .slice none 0 0]) (by rfl) (by rfl) (fun x hx => by simp only [List.flatten_cons, List.mem_append]; first | exact .inl hx | exact .inr (.inl hx)) (.tmp (by rfl) .nil), by exact IMx, hIntB hb, rfl⟩
  rw [decide_eq_false h0]
  have hd0 : bytesN d ≠ [] := fun e => h0 (bytesN_inj (by rw [e]; rfl))
  refine GOH ?_
  by_cases h255 : t.size ≤ 255
  rotate_left
  · rw [decide_eq_true (show (t.size : Int) > 255 by omega)]
    have hb : goodL (bytesN s) = false := by rw [hg, decide_eq_false h255]; simp
    refine GOH ?_
    refine ⟨.inr rfl, _, _, .cellN (us := [cv 0, vi 0, uv 0, .string ⟨#[]⟩, .slice none 0 0]) (by rfl) (by rfl) (fun x hx => by simp only [List.flatten_cons, List.mem_append]; first | exact .inl hx | exact .inr (.inl hx)) (.tmp (by rfl) .nil), by exact IMx, hIntB hb, rfl⟩
  rw [decide_eq_false (show ¬ (t.size : Int) > 255 by omega)]
  refine GOH ?_
  have hrun := run_spec d (by omega) 0 (by omega) (.func (.func 53) #[] #[]) (fun _ => []) (fun k => digB ((bytesN d).getD k 0)) (fun k x _ hx => FunV.of_fun (by
    rw [List.getD_eq_getElem?_getD, hx]
    exact digit_spec _ (bytesN_lt d _ (List.mem_of_getElem? hx))))
  refine st_call hrun (by rfl) (by exact SPx) (fun v Post hv => ?_)
  obtain ⟨e, j, rfl, e1, e2, e3, e4, rfl⟩ := hv
  have hall := all_run (l := bytesN d) (p := digB) (e := e) (by omega) (fun k hk => e3 k (by omega) hk) (fun hk => e4 (by omega))
  simp only [List.nil_append]
  refine GOH ?_
  by_cases he : e = (bytesN d).length
  rotate_left
  · have hb : goodL (bytesN s) = false := by rw [hg, hall, decide_eq_false he]; simp
    rw [decide_eq_false (show ¬ (e : Int) = (d.size : Int) by omega)]
    refine GOH ?_
    refine ⟨.inr rfl, _, _, .cellN (us := [cv 0, vi 0, uv 0, .string ⟨#[]⟩, .slice none 0 0]) (by rfl) (by rfl) (fun x hx => by simp only [List.flatten_cons, List.mem_append]; first | exact .inl hx | exact .inr (.inl hx)) (.tmp (by rfl) .nil), by exact IMx, hIntB hb, rfl⟩
  rw [decide_eq_true (show (e : Int) = (d.size : Int) by omega)]
  rw [decide_eq_true he] at hall
  have hgt : goodL (bytesN s) = true := by rw [hg, hall, decide_eq_true h255, decide_eq_true hd0]; rfl
  refine GOH ?_
  refine st_call (whole_spec A hE t (by rw [ht]; exact plainL_ne hd0) (by rw [ht]; exact plainL_dig hall) h255 m) (by rfl) (by exact SPx) (fun v Post hv => ?_)
  obtain ⟨hw, rfl⟩ := hv
  have fin : ∀ u, WholeQ m t u → IntQ s (.tuple #[u, vi 0]) := fun u hu => .inr ⟨hgt, t, u, by rw [ht, hdig], by rw [hmm]; exact hu, rfl⟩
  have hfin := fin _ hw
  simp only [CNx]
  rcases hw with ⟨_, rfl⟩ | ⟨_, u, rfl, _⟩
  · generalize (if m = true then -(numL (bytesN t) : Int) else (numL (bytesN t) : Int)) = z at hfin ⊢
    refine GOH ?_
    refine ⟨.inr rfl, _, _, .cellN (us := [cv 4, vi z, uv 0, .string ⟨#[]⟩, .slice none 0 0]) (by rfl) (by rfl) (fun x hx => by simp only [List.flatten_cons, List.mem_append]; first | exact .inl hx | exact .inr (.inl hx)) (.tmp (by rfl) .nil), by exact IMx, hfin, rfl⟩
  · refine GOH ?_
    refine ⟨.inr rfl, _, _, .cellN (us := [cv 5, vi 0, uv 0, .string u, .slice none 0 0]) (by rfl) (by rfl) (fun x hx => by simp only [List.flatten_cons, List.mem_append]; first | exact .inl hx | exact .inr (.inl hx)) (.tmp (by rfl) .nil), by exact IMx, hfin, rfl⟩
def keyL (p : List Nat) : Bool := decide (p.getLast? = some 58) && nameL p.dropLast
theorem keysL_good : ∀ {c : List (List Nat)} {rest : List (List Nat)} {n : Nat}, (∀ p ∈ c, keyL p = true) → keysL (c ++ rest) n = keysL rest (n + c.length) := by
  intro c
  induction c with
  | nil => intro rest n _; simp
  | cons p c ih =>
    intro rest n h
    have hp := h p (by simp)
    simp only [keyL, Bool.and_eq_true, decide_eq_true_eq] at hp
    have hne : p ≠ [] := fun e => by rw [e] at hp; simp at hp
    simp only [List.cons_append, keysL, if_neg hne, hp.1, hp.2, decide_true, Bool.and_self, if_true]
    rw [ih (fun q hq => h q (by simp [hq])), List.length_cons, show n + 1 + c.length = n + (c.length + 1) by omega]
theorem keysL_bad {p : List Nat} {rest : List (List Nat)} {n : Nat} (h0 : p ≠ []) (h : keyL p = false) : keysL (p :: rest) n = -1 := by
  simp only [keyL] at h
  simp [keysL, h0, h]
theorem pieces_len (l : List Nat) : (piecesL l).length ≤ l.length + 1 := by
  induction l with
  | nil => simp [piecesL]
  | cons c r ih =>
    simp only [piecesL]
    split
    · simp; omega
    · cases h : piecesL r with
      | nil => simp
      | cons p ps => rw [h] at ih; simp at ih ⊢; omega
theorem arity_spec (s : ByteArray) (hs : s.size ≤ 140737488355328) : Fun Tryz.prog 21 [.string s] [] (fun v Post => v = vi (arityS s) ∧ Post = []) := by
  refine Fun.intro low21 (by simp [n21]) ?_
  have hlen := bytesN_len s
  refine GOH ?_
  refine st_alloc (fun pr => ?_)
  refine GOH ?_
  refine st_callP (name_spec s hs) (by rfl) ?_
  cases hn : nameS s with
  | true =>
    refine GOH ?_
    have : arityS s = 0 := by unfold arityS arityL; rw [show nameL (bytesN s) = true from hn]; rfl
    rw [this]
    exact ⟨.inr rfl, [vi 0], [], .cell1 (v := vi 0) (by rfl) (by simp [cellsAt]) .nil, Imp.nil, ⟨rfl, rfl⟩⟩
  | false =>
    have hn2 : nameL (bytesN s) = false := hn
    refine GOH ?_
    by_cases h0 : s = ⟨#[]⟩
    · subst h0
      refine GOH ?_
      exact ⟨.inr rfl, [vi (-1)], [], .cell1 (v := vi (-1)) (by rfl) (by simp [cellsAt]) .nil, Imp.nil, ⟨rfl, rfl⟩⟩
    obtain ⟨c, r, hc, hr, hc256, hpos⟩ := bytesN_cons h0
    rw [decide_eq_false h0]
    refine GOH ?_
    refine st_idxS (by rfl) (by rfl) (j := 0) rfl hc ?_
    refine GOH ?_
    have har : arityS s = if (binB c.toNat || decide (c.toNat = 124)) = true then (if signL (bytesN s) = (bytesN s).length then 1 else -1) else keysL (piecesL (bytesN s)) 0 := by
      unfold arityS arityL
      rw [if_neg (by rw [hn2]; simp)]
      simp only [hr]
    refine st_callP (binary_spec _ hc256) (by rfl) ?_
    cases hb : binB c.toNat with
    | true =>
      refine GOH ?_
      refine st_callP (sign_spec s hs c r hc hr (.inr hb)) (by rfl) ?_
      rw [show (binB c.toNat || decide (c.toNat = 124)) = true by simp [hb], if_pos rfl] at har
      generalize signL (bytesN s) = z at har ⊢
      refine GOH ?_
      by_cases he : z = (bytesN s).length
      · rw [decide_eq_true (show ((z : Nat) : Int) = (s.size : Int) by omega)]
        rw [if_pos he] at har
        refine GOH ?_
        rw [har]
        exact ⟨.inr rfl, [vi 1], [], .cell1 (v := vi 1) (by rfl) (by simp [cellsAt]) .nil, Imp.nil, ⟨rfl, rfl⟩⟩
      · rw [decide_eq_false (show ¬ ((z : Nat) : Int) = (s.size : Int) by omega)]
        rw [if_neg he] at har
        refine GOH ?_
        rw [har]
        exact ⟨.inr rfl, [vi (-1)], [], .cell1 (v := vi (-1)) (by rfl) (by simp [cellsAt]) .nil, Imp.nil, ⟨rfl, rfl⟩⟩
    | false =>
      refine GOH ?_
      refine st_idxS (by rfl) (by rfl) (j := 0) rfl hc ?_
      refine GOH ?_
      by_cases h124 : c.toNat = 124
      · rw [show decide ((c.toNat : Int) = 124) = true from decide_eq_true (by omega)]
        refine GOH ?_
        refine st_callP (sign_spec s hs c r hc hr (.inl h124)) (by rfl) ?_
        rw [show (binB c.toNat || decide (c.toNat = 124)) = true by simp [h124], if_pos rfl] at har
        generalize signL (bytesN s) = z at har ⊢
        refine GOH ?_
        by_cases he : z = (bytesN s).length
        · rw [decide_eq_true (show ((z : Nat) : Int) = (s.size : Int) by omega)]
          rw [if_pos he] at har
          refine GOH ?_
          rw [har]
          exact ⟨.inr rfl, [vi 1], [], .cell1 (v := vi 1) (by rfl) (by simp [cellsAt]) .nil, Imp.nil, ⟨rfl, rfl⟩⟩
        · rw [decide_eq_false (show ¬ ((z : Nat) : Int) = (s.size : Int) by omega)]
          rw [if_neg he] at har
          refine GOH ?_
          rw [har]
          exact ⟨.inr rfl, [vi (-1)], [], .cell1 (v := vi (-1)) (by rfl) (by simp [cellsAt]) .nil, Imp.nil, ⟨rfl, rfl⟩⟩
      rw [show decide ((c.toNat : Int) = 124) = false from decide_eq_false (by omega)]
      rw [if_neg (by simp [hb, h124])] at har
      refine GOH ?_
      refine st_alloc (fun pn => ?_)
      refine GOH ?_
      refine st_call (splitAfter_spec s) (by rfl) (by exact SPx) (fun v Post hv => ?_)
      obtain ⟨qs, qt, qn, rfl, rfl⟩ := hv
      simp only [CNx]
      refine GOH ?_
      have hcl : ∀ d : List ByteArray, OkC (fun full : List ByteArray => full.map bytesN = piecesL (bytesN s)) d → d.length ≤ s.size + 1 := fun d ⟨t, ht⟩ => by
        have h1 := congrArg List.length ht
        have h2 := pieces_len (bytesN s)
        simp at h1; omega
      refine VC.rangef (α := ByteArray) (enc := fun x => [.string x]) (fun d A => (∀ x ∈ d, keyL (bytesN x) = true) ∧ A = [cellsAt pn 0 [vi d.length], cellsAt pr 0 [vi 0]].flatten) ([cellsAt pn 0 [vi 0], cellsAt pr 0 [vi 0]].flatten) (by rfl) (keys_iter qs qt qn s hs) (R := [cellsAt pn 0 [vi 0], cellsAt pr 0 [vi 0]]) (by exact SPx) (Imp.perm (by simp))
        ⟨fun x hx => (by cases hx), rfl⟩ (fun _ => rfl) ?_ ?_
      · rintro d x A hok ⟨hd, rfl⟩
        have hdl := hcl _ hok
        simp only [List.length_append, List.length_singleton] at hdl
        obtain ⟨rest, hrest⟩ := hok
        have har2 : arityS s = keysL (bytesN x :: rest.map bytesN) d.length := by
          rw [har, ← hrest]
          have := keysL_good (c := d.map bytesN) (rest := bytesN x :: rest.map bytesN) (n := 0) (fun p hp => by obtain ⟨y, hy, rfl⟩ := List.mem_map.1 hp; exact hd y hy)
          simpa using this
        have hxs : x.size ≤ s.size := by
          have h1 : bytesN x ∈ piecesL (bytesN s) := by rw [← hrest]; simp
          have h2 := (List.sublist_flatten_of_mem h1).length_le
          rw [pieces_flat, bytesN_len, bytesN_len] at h2
          omega
        simp only [bindE]
        refine VC.imp (H' := [cellsAt pn 0 [vi d.length], cellsAt pr 0 [vi 0]]) (Imp.perm (by simp)) ?_
        refine VC.reg ?_
        refine GOH ?_
        refine ⟨trivial, ?_⟩
        refine GOH ?_
        by_cases hx0 : x = ⟨#[]⟩
        · rw [decide_eq_true hx0]
          have : arityS s = d.length := by
            rw [har2, hx0]; rfl
          refine GOH ?_
          rw [this]
          exact ⟨.inr rfl, [vi d.length], [], .cell1 (v := vi d.length) (by rfl) (by simp [cellsAt]) .nil, Imp.nil, ⟨rfl, rfl⟩⟩
        rw [decide_eq_false hx0]
        have hx1 : bytesN x ≠ [] := fun e => hx0 (bytesN_inj (by rw [e]; rfl))
        refine GOH ?_
        refine st_call (cutSuffix_spec x (by omega)) (by rfl) (by exact SPx) (fun v Post hv => ?_)
        obtain ⟨y, rfl, hy1, hy2, rfl⟩ := hv
        simp only [List.nil_append]
        by_cases h58 : (bytesN x).getLast? = some 58
        · rw [decide_eq_true h58]
          have hyb := hy1 h58
          refine GOH ?_
          refine st_callP (name_spec y (by omega)) (by rfl) ?_
          cases hny : nameS y with
          | true =>
            have hk : keyL (bytesN x) = true := by
              unfold keyL; rw [decide_eq_true h58, ← hyb]; exact hny
            refine GOH ?_
            refine ⟨[cellsAt pn 0 [vi (d.length + 1 : Nat)], cellsAt pr 0 [vi 0]].flatten, ⟨fun z hz => ?_, by simp⟩, ?_⟩
            · rcases List.mem_append.1 hz with h | h
              · exact hd z h
              · rw [List.mem_singleton.1 h]; exact hk
            · refine Imp.cut (M := [cellsAt pn 0 [vi ((d.length : Int) + 1)], cellsAt pr 0 [vi 0]]) (by exact IMx) (Imp.perm (by simp))
          | false =>
            have hk : keyL (bytesN x) = false := by
              unfold keyL; rw [decide_eq_true h58, ← hyb]; exact hny
            have : arityS s = -1 := by rw [har2, keysL_bad hx1 hk]
            refine GOH ?_
            rw [this]
            exact ⟨.inr rfl, [vi (-1)], [], .cell1 (v := vi (-1)) (by rfl) (by simp [cellsAt]) .nil, Imp.nil, ⟨rfl, rfl⟩⟩
        · rw [decide_eq_false h58]
          have hk : keyL (bytesN x) = false := by
            unfold keyL; rw [decide_eq_false h58]; rfl
          have : arityS s = -1 := by rw [har2, keysL_bad hx1 hk]
          refine GOH ?_
          rw [this]
          exact ⟨.inr rfl, [vi (-1)], [], .cell1 (v := vi (-1)) (by rfl) (by simp [cellsAt]) .nil, Imp.nil, ⟨rfl, rfl⟩⟩
      · rintro full A hfull ⟨hd, rfl⟩
        have : arityS s = full.length := by
          rw [har, ← hfull]
          have := keysL_good (c := full.map bytesN) (rest := []) (n := 0) (fun p hp => by obtain ⟨y, hy, rfl⟩ := List.mem_map.1 hp; exact hd y hy)
          simpa [keysL] using this
        refine VC.imp (H' := [cellsAt pn 0 [vi full.length], cellsAt pr 0 [vi 0]]) (Imp.perm (by simp)) ?_
        refine GOH ?_
        rw [this]
        exact ⟨.inr rfl, [vi full.length], [], .cell1 (v := vi full.length) (by rfl) (by simp [cellsAt]) .nil, Imp.nil, ⟨rfl, rfl⟩⟩
end Go.Proofs.YtehglapljnehgaaGreatDoor

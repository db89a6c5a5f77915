/-
  Scanning: binary selectors, keywords.
-/
import Derived.Test.YtmnmandpdadedaaGreatDoorT4
set_option linter.unusedSimpArgs false
set_option linter.unusedVariables false
namespace Go.Proofs.YtmnmandpdadedaaGreatDoor
open Go Go.V
set_option maxHeartbeats 3200000
set_option maxRecDepth 100000
theorem sign1_spec (pa pf ps : Nat) (s : ByteArray) (hs : s.size ≤ 140737488355328) (k c : Nat) (hk : k < s.size) (hc : c < 256) :
    Fun Tryz.prog 125 [cv c, ptr0 pa, ptr0 pf, ptr0 ps] [cellsAt pa 0 [vi k], cellsAt pf 0 [vi 0], cellsAt ps 0 [.string s]] (fun v Post => v = .bool (binB c && (decide (k = 0) || decide (c ≠ 45) || !digB ((bytesN s).getD (k + 1) 0))) ∧ Post = [cellsAt pa 0 [vi ((k : Int) + 1)], cellsAt pf 0 [vi 0], cellsAt ps 0 [.string s]]) := by
  refine Fun.intro low125 (by simp [n125]) ?_
  have hd : (bytesN s).getD (k + 1) 0 < 256 := by
    rw [List.getD_eq_getElem?_getD]
    cases h : (bytesN s)[k + 1]? with
    | none => decide
    | some x => exact bytesN_lt s _ (List.mem_of_getElem? h)
  have hp := peek_spec s hs (k + 1)
  generalize (bytesN s).getD (k + 1) 0 = d at hd hp ⊢
  refine GOH ?_
  refine st_callP (binary_spec c hc) (by rfl) ?_
  cases hb : binB c with
  | false =>
    refine GOH ?_
    refine endQ_mk (.inr rfl) (.tmp (by rfl) .nil) ⟨by simp [tup], rfl⟩ (by exact IMx)
  | true =>
    refine GOH ?_
    by_cases h0 : k = 0
    · rw [decide_eq_true (show (k : Int) = 0 by omega)]
      refine GOH ?_
      refine endQ_mk (.inr rfl) (.tmp (by rfl) .nil) ⟨by simp [tup, h0], rfl⟩ (by exact IMx)
    rw [decide_eq_false (show ¬ (k : Int) = 0 by omega)]
    refine GOH ?_
    by_cases h45 : c = 45
    rotate_left
    · rw [show decide ((c : Int) = 45) = false from decide_eq_false (by omega)]
      refine GOH ?_
      refine endQ_mk (.inr rfl) (.tmp (by rfl) .nil) ⟨by simp [tup, h0, h45], rfl⟩ (by exact IMx)
    rw [show decide ((c : Int) = 45) = true from decide_eq_true (by omega)]
    refine GOH ?_
    refine st_callP hp (by rfl) ?_
    refine GOH ?_
    refine st_callP (digit_spec d hd) (by rfl) ?_
    cases hdd : digB d
    · refine GOH ?_
      refine endQ_mk (.inr rfl) (.tmp (by rfl) .nil) ⟨by simp [tup, h0, h45], rfl⟩ (by exact IMx)
    · refine GOH ?_
      refine endQ_mk (.inr rfl) (.tmp (by rfl) .nil) ⟨by simp [tup, h0, h45], rfl⟩ (by exact IMx)
theorem sign_spec (s : ByteArray) (hs : s.size ≤ 140737488355328) (c : UInt8) (r : List Nat) (hc : s[0]? = some c) (hr : bytesN s = c.toNat :: r) (hb : c.toNat = 124 ∨ binB c.toNat = true) :
    Fun Tryz.prog 90 [.string s, vi 0] [] (fun v Post => v = vi (signL (bytesN s)) ∧ Post = []) := by
  refine Fun.intro low90 (by simp [n90]) ?_
  have hlen := bytesN_len s
  have hpos : 0 < s.size := by rw [← hlen, hr]; simp
  refine GOH ?_
  refine st_box (by rfl) (fun ps => ?_)
  simp only [Value.cells]
  refine GOH ?_
  refine st_box (by rfl) (fun pa => ?_)
  simp only [Value.cells]
  refine GOH ?_
  refine st_idxS (by rfl) (by rfl) (j := 0) rfl hc ?_
  refine GOH ?_
  by_cases h0 : c.toNat = 124
  · rw [show decide ((c.toNat : Int) = 124) = true from decide_eq_true (by omega)]
    refine GOH ?_
    refine endQ_mk (Post := []) (.inr rfl) (.tmp (by rfl) .nil) ⟨by simp [tup, hr, signL, h0], rfl⟩ (by exact IMx)
  rw [show decide ((c.toNat : Int) = 124) = false from decide_eq_false (by omega)]
  have hbin : binB c.toNat = true := by
    rcases hb with h | h
    · exact absurd h h0
    · exact h
  refine GOH ?_
  refine st_alloc (fun pf => ?_)
  refine GOH ?_
  have hrun := run_spec s hs 0 (by omega) (.func (.func 125) #[] #[ptr0 pa, ptr0 pf, ptr0 ps]) (fun k => [cellsAt pa 0 [vi k], cellsAt pf 0 [vi 0], cellsAt ps 0 [.string s]])
    (fun k => binB ((bytesN s).getD k 0) && (decide (k = 0) || decide ((bytesN s).getD k 0 ≠ 45) || !digB ((bytesN s).getD (k + 1) 0))) (fun k x _ hx => FunV.of_fun (by
      have hk : k < s.size := by rw [← hlen]; exact (List.getElem?_eq_some_iff.1 hx).1
      have := sign1_spec pa pf ps s hs k x hk (bytesN_lt s _ (List.mem_of_getElem? hx))
      rw [List.getD_eq_getElem?_getD (i := k), hx]
      exact this))
  simp only [show ((0 : Nat) : Int) = 0 from rfl] at hrun
  refine st_call hrun (by rfl) (by exact SPx) (fun v Post hv => ?_)
  obtain ⟨e, j, rfl, e1, e2, e3, e4, rfl⟩ := hv
  simp only [CNx]
  refine GOH ?_
  refine endQ_mk (Post := []) (.inr rfl) (.tmp (by rfl) .nil) ⟨?_, rfl⟩ (by exact IMx)
  have hget : ∀ k, k < s.size → ∃ x, (bytesN s)[k]? = some x ∧ (bytesN s).getD k 0 = x := fun k hk => by
    obtain ⟨x, _, hx⟩ := bytesN_ex hk
    exact ⟨_, hx, by rw [List.getD_eq_getElem?_getD, hx]; rfl⟩
  have he0 : e ≠ 0 := fun e0 => by
    subst e0
    have := e4 hpos
    rw [hr] at this
    simp [hbin] at this
  have hon : ∀ k, 1 ≤ k → k < s.size → signOn ((bytesN s).drop k) = (binB ((bytesN s).getD k 0) && (decide (k = 0) || decide ((bytesN s).getD k 0 ≠ 45) || !digB ((bytesN s).getD (k + 1) 0))) := fun k h1 hk => by
    obtain ⟨x, hx, hx2⟩ := hget k hk
    rw [signOn_drop hx, hx2, decide_eq_false (show ¬ k = 0 by omega), Bool.false_or]
  have := sign_run (c := c.toNat) (r := r) (e := e) h0 hbin (by rw [← hr]; omega) (fun k h1 h2 => by rw [← hr, hon k h2 (by omega)]; exact e3 k (by omega) h1) (fun hk => by
    rw [← hr] at hk ⊢
    exact ⟨by omega, by rw [hon e (by omega) (by omega)]; exact e4 (by omega)⟩)
  rcases this with h | h
  · rw [hr, h]; rfl
  · exact absurd h he0
theorem keys_iter (qs qt qn : Nat) (s : ByteArray) (hs : s.size ≤ 140737488355328) :
    Iter Tryz.prog (.func (.func 144) #[] #[ptr0 qs, ptr0 qt, ptr0 qn]) (fun x => [.string x]) [cellsAt qs 0 [.string ⟨#[58]⟩], cellsAt qt 0 [.string s], cellsAt qn 0 [vi 1]] [] (fun full => full.map bytesN = piecesL (bytesN s)) := by
  intro y J SP hy A hA
  refine FunV.of_fun (first := #[]) (cap := #[ptr0 qs, ptr0 qt, ptr0 qn]) ?_
  show Fun Tryz.prog 144 [y, ptr0 qs, ptr0 qt, ptr0 qn] _ _
  refine Fun.intro low144 (by simp [n144]) ?_
  simp only [CNx]
  refine GOH ?_
  refine VC.loop (α := List ByteArray × ByteArray × List Atom) (Γf := fun _ => [(0, y), (1, ptr0 qs), (2, ptr0 qt), (3, ptr0 qn)]) (Hf := fun st => [cellsAt qs 0 [.string ⟨#[58]⟩], cellsAt qt 0 [.string st.2.1], cellsAt qn 0 [vi 1], st.2.2])
    (I := fun st => st.1.map bytesN ++ piecesL (bytesN st.2.1) = piecesL (bytesN s) ∧ st.2.1.size ≤ s.size ∧ J st.1 st.2.2) (μ := fun st => st.2.1.size) ([], s, A) ⟨rfl, Nat.le_refl _, hA⟩ (by exact SUx) (by exact IMx) ?_
  rintro ⟨c, t, A1⟩ ⟨i1, i2, i3⟩
  simp only at i1 i2 i3
  dsimp only
  have hlen := bytesN_len t
  have hix : Fun Tryz.prog 146 [.string t, .string ⟨#[58]⟩] [] (fun v Post => v = vi (ixN (bytesN t) 58) ∧ Post = []) := by
    refine Fun.intro low146 (by simp [n146]) ?_
    refine GOH ?_
    refine st_callP (ixs_spec t) (by rfl) ?_
    refine GOH ?_
    refine ⟨.inr rfl, _, _, .tmp (by rfl) .nil, by exact IMx, ?_, rfl⟩
    rfl
  refine GOH ?_
  refine st_callP hix (by rfl) ?_
  rcases ixN_cases (bytesN t) 58 with ⟨h1, h2⟩ | ⟨p, r, h1, h2, h3⟩
  · rw [h1]
    refine GOH ?_
    have hfull : (c ++ [t]).map bytesN = piecesL (bytesN s) := by rw [← i1, pieces_none h2]; simp
    refine st_callV (by rfl) (hy c t A1 ⟨[], by simpa using hfull⟩ i3) (by rfl) (by exact SPx) (fun v Post hv => ?_)
    rcases hv with ⟨rfl, A', hA', rfl⟩ | ⟨rfl, B', hB', rfl⟩
    · simp only [CNx]
      refine GOH ?_
      exact endQ_mk (Post := [A']) (.inl rfl) .nil ⟨rfl, .inl ⟨c ++ [t], A', hfull, hA', rfl⟩⟩ (by exact IMx)
    · simp only [CNx]
      refine GOH ?_
      exact endQ_mk (Post := [B']) (.inl rfl) .nil ⟨rfl, .inr ⟨c ++ [t], B', ⟨[], by simpa using hfull⟩, hB', rfl⟩⟩ (by exact IMx)
  · have hsz : t.size = p.length + 1 + r.length := by rw [← hlen, h1]; simp; omega
    have hx : bytesN (t.extract 0 (p.length + 1)) = p ++ [58] := by
      rw [bytesN_extract, h1, show p ++ 58 :: r = (p ++ [58]) ++ r by simp, List.take_left' (by simp)]; rfl
    have hy2 : bytesN (t.extract (p.length + 1) t.size) = r := by
      rw [bytesN_extract, List.take_of_length_le (by omega), h1]
      simp [List.drop_append]
    have hys : (t.extract (p.length + 1) t.size).size = r.length := by rw [← bytesN_len, hy2]
    have hpc := pieces_cons (p := p) (r := r) h2
    rw [← h1] at hpc
    obtain ⟨full, hful⟩ := pieces_ex (t.extract (p.length + 1) t.size)
    rw [hy2] at hful
    have hok : OkC (fun full => full.map bytesN = piecesL (bytesN s)) (c ++ [t.extract 0 (p.length + 1)]) := ⟨full, by rw [← i1, hpc]; simp [hx, hful]⟩
    rw [h3]
    refine GOH ?_
    rw [decide_eq_false (show ¬ ((p.length : Int) < 0) by omega)]
    refine GOH ?_
    refine st_slcS (l := 0) (h := p.length + 1) (by rfl) .dft (.num (by rfl)) (by omega) ?_
    refine GOH ?_
    refine st_callV (by rfl) (hy c _ A1 hok i3) (by rfl) (by exact SPx) (fun v Post hv => ?_)
    rcases hv with ⟨rfl, A', hA', rfl⟩ | ⟨rfl, B', hB', rfl⟩
    · simp only [CNx]
      refine GOH ?_
      rw [show (((⟨#[58]⟩ : ByteArray).size : Nat) : Int) = 1 from rfl, wrap64 (show -9223372036854775808 ≤ (p.length : Int) + 1 ∧ (p.length : Int) + 1 ≤ 9223372036854775807 by omega)]
      refine st_slcS (l := p.length + 1) (h := t.size) (by rfl) (.num (by rfl)) .dft (by omega) ?_
      refine GOH ?_
      exact ⟨(c ++ [t.extract 0 (p.length + 1)], t.extract (p.length + 1) t.size, A'), ⟨by simp only [hy2]; rw [← i1, hpc]; simp [hx], by simp only [hys]; omega, hA'⟩, by simp only [hys]; omega, by exact SUx, by exact IMx⟩
    · simp only [CNx]
      refine GOH ?_
      exact endQ_mk (Post := [B']) (.inr rfl) .nil ⟨rfl, .inr ⟨_, B', hok, hB', rfl⟩⟩ (by exact IMx)
theorem cutSuffix_spec (s : ByteArray) (hs : s.size ≤ 140737488355328) : Fun Tryz.prog 92 [.string s, .string ⟨#[58]⟩] [] (fun v Post => ∃ t, v = .tuple #[.string t, .bool (decide ((bytesN s).getLast? = some 58))] ∧ ((bytesN s).getLast? = some 58 → bytesN t = (bytesN s).dropLast) ∧ t.size ≤ s.size ∧ Post = []) := by
  have hlen := bytesN_len s
  have hlast : ∀ (h : 1 ≤ s.size), s.extract (s.size - 1) s.size = ⟨#[58]⟩ ↔ (bytesN s).getLast? = some 58 := fun h => by
    have hb : bytesN (s.extract (s.size - 1) s.size) = (bytesN s).drop (s.size - 1) := by rw [bytesN_extract, List.take_of_length_le (by omega)]
    rw [List.getLast?_eq_getElem?, hlen]
    constructor
    · intro e
      rw [e] at hb
      have : (bytesN s).drop (s.size - 1) = [58] := hb.symm
      have h2 := congrArg (fun l => l[0]?) this
      simpa using h2
    · intro e
      apply bytesN_inj
      rw [hb]
      obtain ⟨hk, hv⟩ := List.getElem?_eq_some_iff.1 e
      rw [List.drop_eq_getElem_cons hk, hv, List.drop_eq_nil_of_le (by omega)]; rfl
  have hsuf : Fun Tryz.prog 147 [.string s, .string ⟨#[58]⟩] [] (fun v Post => v = .bool (decide ((bytesN s).getLast? = some 58)) ∧ Post = []) := by
    refine Fun.intro low147 (by simp [n147]) ?_
    refine GOH ?_
    rw [show (((⟨#[58]⟩ : ByteArray).size : Nat) : Int) = 1 from rfl]
    by_cases h : 1 ≤ s.size
    · rw [decide_eq_true (show (s.size : Int) ≥ 1 by omega)]
      refine GOH ?_
      rw [show (((⟨#[58]⟩ : ByteArray).size : Nat) : Int) = 1 from rfl, wrap64 (show -9223372036854775808 ≤ (s.size : Int) - 1 ∧ (s.size : Int) - 1 ≤ 9223372036854775807 by omega), show (s.size : Int) - 1 = ((s.size - 1 : Nat) : Int) by omega]
      refine st_slcS (l := s.size - 1) (h := s.size) (by rfl) (.num (by rfl)) .dft (by omega) ?_
      refine GOH ?_
      refine ⟨.inr rfl, _, _, .tmp (by rfl) .nil, by exact IMx, ?_, rfl⟩
      simp only [tup, hlast h]
    · rw [decide_eq_false (show ¬ (s.size : Int) ≥ 1 by omega)]
      refine GOH ?_
      refine ⟨.inr rfl, _, _, .tmp (by rfl) .nil, by exact IMx, ?_, rfl⟩
      have : bytesN s = [] := List.length_eq_zero_iff.1 (by omega)
      simp [tup, this]
  have hcut : Fun Tryz.prog 129 [.string s, .string ⟨#[58]⟩] [] (fun v Post => ∃ t, v = .tuple #[.string t, .bool (decide ((bytesN s).getLast? = some 58))] ∧ ((bytesN s).getLast? = some 58 → bytesN t = (bytesN s).dropLast) ∧ t.size ≤ s.size ∧ Post = []) := by
    refine Fun.intro low129 (by simp [n129]) ?_
    refine GOH ?_
    refine st_callP hsuf (by rfl) ?_
    by_cases h : (bytesN s).getLast? = some 58
    · have hpos : 1 ≤ s.size := by
        cases hb : bytesN s with
        | nil => rw [hb] at h; cases h
        | cons a r => rw [← hlen, hb]; simp
      rw [decide_eq_true h]
      refine GOH ?_
      rw [show (((⟨#[58]⟩ : ByteArray).size : Nat) : Int) = 1 from rfl, wrap64 (show -9223372036854775808 ≤ (s.size : Int) - 1 ∧ (s.size : Int) - 1 ≤ 9223372036854775807 by omega), show (s.size : Int) - 1 = ((s.size - 1 : Nat) : Int) by omega]
      refine st_slcS (l := 0) (h := s.size - 1) (by rfl) .dft (.num (by rfl)) (by omega) ?_
      refine GOH ?_
      have hb : bytesN (s.extract 0 (s.size - 1)) = (bytesN s).dropLast := by rw [bytesN_extract, List.drop_zero, List.dropLast_eq_take, hlen]
      refine endQ_mk (Post := []) (.inr rfl) (.tmp (by rfl) (.tmp (by rfl) .nil)) ⟨_, rfl, fun _ => hb, ?_, rfl⟩ (by exact IMx)
      rw [← bytesN_len, hb, ← hlen]; simp
    · rw [decide_eq_false h]
      refine GOH ?_
      refine endQ_mk (Post := []) (.inr rfl) (.tmp (by rfl) (.tmp (by rfl) .nil)) ⟨_, rfl, fun h2 => absurd h2 h, Nat.le_refl _, rfl⟩ (by exact IMx)
  refine Fun.intro low92 (by simp [n92]) ?_
  refine GOH ?_
  refine st_call hcut (by rfl) (by exact SPx) (fun v Post hv => ?_)
  obtain ⟨t, rfl, h1, h2, rfl⟩ := hv
  simp only [List.nil_append]
  refine GOH ?_
  refine endQ_mk (Post := []) (.inr rfl) (.tmp (by rfl) (.tmp (by rfl) .nil)) ⟨t, rfl, h1, h2, rfl⟩ (by exact IMx)
theorem splitAfter_spec (s : ByteArray) : Fun Tryz.prog 91 [.string s, .string ⟨#[58]⟩] [] (fun v Post => ∃ qs qt qn, v = .func (.func 144) #[] #[ptr0 qs, ptr0 qt, ptr0 qn] ∧ Post = [cellsAt qs 0 [.string ⟨#[58]⟩], cellsAt qt 0 [.string s], cellsAt qn 0 [vi 1]]) := by
  have h : Fun Tryz.prog 128 [.string s, .string ⟨#[58]⟩, vi 1] [] (fun v Post => ∃ qs qt qn, v = .func (.func 144) #[] #[ptr0 qs, ptr0 qt, ptr0 qn] ∧ Post = [cellsAt qs 0 [.string ⟨#[58]⟩], cellsAt qt 0 [.string s], cellsAt qn 0 [vi 1]]) := by
    refine Fun.intro low128 (by simp [n128]) ?_
    refine GOH ?_
    refine st_box (by rfl) (fun qt => ?_)
    simp only [Value.cells]
    refine GOH ?_
    refine st_box (by rfl) (fun qs => ?_)
    simp only [Value.cells]
    refine GOH ?_
    refine st_box (by rfl) (fun qn => ?_)
    simp only [Value.cells]
    refine GOH ?_
    refine endQ_mk (.inr rfl) (.tmp (by rfl) .nil) ⟨qs, qt, qn, rfl, rfl⟩ (by exact IMx)
  refine Fun.intro low91 (by simp [n91]) ?_
  refine GOH ?_
  rw [show (((⟨#[58]⟩ : ByteArray).size : Nat) : Int) = 1 from rfl]
  refine st_call h (by rfl) (by exact SPx) (fun v Post hv => ?_)
  obtain ⟨qs, qt, qn, rfl, rfl⟩ := hv
  simp only [CNx]
  refine GOH ?_
  refine endQ_mk (.inr rfl) (.tmp (by rfl) .nil) ⟨qs, qt, qn, rfl, rfl⟩ (by exact IMx)
def keyL (p : List Nat) : Bool := decide (p.getLast? = some 58) && nameL p.dropLast
theorem keysL_good : ∀ {c : List (List Nat)} {rest : List (List Nat)} {n : Nat}, (∀ p ∈ c, keyL p = true) → keysL (c ++ rest) n = keysL rest (n + c.length) := by
  intro c
  induction c with
  | nil => intro rest n _; simp
  | cons p c ih =>
    intro rest n h
    have hp := h p (by simp)
    simp only [keyL, Bool.and_eq_true, decide_eq_true_eq] at hp
    have hne : p ≠ [] := fun e => by rw [e] at hp; simp at hp
    simp only [List.cons_append, keysL, if_neg hne, hp.1, hp.2, decide_true, Bool.and_self, if_true]
    rw [ih (fun q hq => h q (by simp [hq])), List.length_cons, show n + 1 + c.length = n + (c.length + 1) by omega]
theorem keysL_bad {p : List Nat} {rest : List (List Nat)} {n : Nat} (h0 : p ≠ []) (h : keyL p = false) : keysL (p :: rest) n = -1 := by
  simp only [keyL] at h
  simp [keysL, h0, h]
theorem pieces_len (l : List Nat) : (piecesL l).length ≤ l.length + 1 := by
  induction l with
  | nil => simp [piecesL]
  | cons c r ih =>
    simp only [piecesL]
    split
    · simp; omega
    · cases h : piecesL r with
      | nil => simp
      | cons p ps => rw [h] at ih; simp at ih ⊢; omega
theorem arity_spec (s : ByteArray) (hs : s.size ≤ 140737488355328) : Fun Tryz.prog 48 [.string s] [] (fun v Post => v = vi (arityS s) ∧ Post = []) := by
  refine Fun.intro low48 (by simp [n48]) ?_
  have hlen := bytesN_len s
  refine GOH ?_
  refine st_alloc (fun pr => ?_)
  refine GOH ?_
  refine st_callP (name_spec s hs) (by rfl) ?_
  cases hn : nameS s with
  | true =>
    refine GOH ?_
    have : arityS s = 0 := by unfold arityS arityL; rw [show nameL (bytesN s) = true from hn]; rfl
    rw [this]
    exact ⟨.inr rfl, [vi 0], [], .cell1 (v := vi 0) (by rfl) (by simp [cellsAt]) .nil, Imp.nil, ⟨rfl, rfl⟩⟩
  | false =>
    have hn2 : nameL (bytesN s) = false := hn
    refine GOH ?_
    by_cases h0 : s = ⟨#[]⟩
    · subst h0
      refine GOH ?_
      exact ⟨.inr rfl, [vi (-1)], [], .cell1 (v := vi (-1)) (by rfl) (by simp [cellsAt]) .nil, Imp.nil, ⟨rfl, rfl⟩⟩
    obtain ⟨c, r, hc, hr, hc256, hpos⟩ := bytesN_cons h0
    rw [decide_eq_false h0]
    refine GOH ?_
    refine st_idxS (by rfl) (by rfl) (j := 0) rfl hc ?_
    refine GOH ?_
    have har : arityS s = if (binB c.toNat || decide (c.toNat = 124)) = true then (if signL (bytesN s) = (bytesN s).length then 1 else -1) else keysL (piecesL (bytesN s)) 0 := by
      unfold arityS arityL
      rw [if_neg (by rw [hn2]; simp)]
      simp only [hr]
    refine st_callP (binary_spec _ hc256) (by rfl) ?_
    cases hb : binB c.toNat with
    | true =>
      refine GOH ?_
      refine st_callP (sign_spec s hs c r hc hr (.inr hb)) (by rfl) ?_
      rw [show (binB c.toNat || decide (c.toNat = 124)) = true by simp [hb], if_pos rfl] at har
      generalize signL (bytesN s) = z at har ⊢
      refine GOH ?_
      by_cases he : z = (bytesN s).length
      · rw [decide_eq_true (show ((z : Nat) : Int) = (s.size : Int) by omega)]
        rw [if_pos he] at har
        refine GOH ?_
        rw [har]
        exact ⟨.inr rfl, [vi 1], [], .cell1 (v := vi 1) (by rfl) (by simp [cellsAt]) .nil, Imp.nil, ⟨rfl, rfl⟩⟩
      · rw [decide_eq_false (show ¬ ((z : Nat) : Int) = (s.size : Int) by omega)]
        rw [if_neg he] at har
        refine GOH ?_
        rw [har]
        exact ⟨.inr rfl, [vi (-1)], [], .cell1 (v := vi (-1)) (by rfl) (by simp [cellsAt]) .nil, Imp.nil, ⟨rfl, rfl⟩⟩
    | false =>
      refine GOH ?_
      refine st_idxS (by rfl) (by rfl) (j := 0) rfl hc ?_
      refine GOH ?_
      by_cases h124 : c.toNat = 124
      · rw [show decide ((c.toNat : Int) = 124) = true from decide_eq_true (by omega)]
        refine GOH ?_
        refine st_callP (sign_spec s hs c r hc hr (.inl h124)) (by rfl) ?_
        rw [show (binB c.toNat || decide (c.toNat = 124)) = true by simp [h124], if_pos rfl] at har
        generalize signL (bytesN s) = z at har ⊢
        refine GOH ?_
        by_cases he : z = (bytesN s).length
        · rw [decide_eq_true (show ((z : Nat) : Int) = (s.size : Int) by omega)]
          rw [if_pos he] at har
          refine GOH ?_
          rw [har]
          exact ⟨.inr rfl, [vi 1], [], .cell1 (v := vi 1) (by rfl) (by simp [cellsAt]) .nil, Imp.nil, ⟨rfl, rfl⟩⟩
        · rw [decide_eq_false (show ¬ ((z : Nat) : Int) = (s.size : Int) by omega)]
          rw [if_neg he] at har
          refine GOH ?_
          rw [har]
          exact ⟨.inr rfl, [vi (-1)], [], .cell1 (v := vi (-1)) (by rfl) (by simp [cellsAt]) .nil, Imp.nil, ⟨rfl, rfl⟩⟩
      rw [show decide ((c.toNat : Int) = 124) = false from decide_eq_false (by omega)]
      rw [if_neg (by simp [hb, h124])] at har
      refine GOH ?_
      refine st_alloc (fun pn => ?_)
      refine GOH ?_
      refine st_call (splitAfter_spec s) (by rfl) (by exact SPx) (fun v Post hv => ?_)
      obtain ⟨qs, qt, qn, rfl, rfl⟩ := hv
      simp only [CNx]
      refine GOH ?_
      have hcl : ∀ d : List ByteArray, OkC (fun full : List ByteArray => full.map bytesN = piecesL (bytesN s)) d → d.length ≤ s.size + 1 := fun d ⟨t, ht⟩ => by
        have h1 := congrArg List.length ht
        have h2 := pieces_len (bytesN s)
        simp at h1; omega
      refine VC.rangef (α := ByteArray) (enc := fun x => [.string x]) (fun d A => (∀ x ∈ d, keyL (bytesN x) = true) ∧ A = [cellsAt pn 0 [vi d.length], cellsAt pr 0 [vi 0]].flatten) ([cellsAt pn 0 [vi 0], cellsAt pr 0 [vi 0]].flatten) (by rfl) (keys_iter qs qt qn s hs) (R := [cellsAt pn 0 [vi 0], cellsAt pr 0 [vi 0]]) (by exact SPx) (Imp.perm (by simp))
        ⟨fun x hx => (by cases hx), rfl⟩ (fun _ => rfl) ?_ ?_
      · rintro d x A hok ⟨hd, rfl⟩
        have hdl := hcl _ hok
        simp only [List.length_append, List.length_singleton] at hdl
        obtain ⟨rest, hrest⟩ := hok
        have har2 : arityS s = keysL (bytesN x :: rest.map bytesN) d.length := by
          rw [har, ← hrest]
          have := keysL_good (c := d.map bytesN) (rest := bytesN x :: rest.map bytesN) (n := 0) (fun p hp => by obtain ⟨y, hy, rfl⟩ := List.mem_map.1 hp; exact hd y hy)
          simpa using this
        have hxs : x.size ≤ s.size := by
          have h1 : bytesN x ∈ piecesL (bytesN s) := by rw [← hrest]; simp
          have h2 := (List.sublist_flatten_of_mem h1).length_le
          rw [pieces_flat, bytesN_len, bytesN_len] at h2
          omega
        simp only [bindE]
        refine VC.imp (H' := [cellsAt pn 0 [vi d.length], cellsAt pr 0 [vi 0]]) (Imp.perm (by simp)) ?_
        refine VC.reg ?_
        refine GOH ?_
        refine ⟨trivial, ?_⟩
        refine GOH ?_
        by_cases hx0 : x = ⟨#[]⟩
        · rw [decide_eq_true hx0]
          have : arityS s = d.length := by
            rw [har2, hx0]; rfl
          refine GOH ?_
          rw [this]
          exact ⟨.inr rfl, [vi d.length], [], .cell1 (v := vi d.length) (by rfl) (by simp [cellsAt]) .nil, Imp.nil, ⟨rfl, rfl⟩⟩
        rw [decide_eq_false hx0]
        have hx1 : bytesN x ≠ [] := fun e => hx0 (bytesN_inj (by rw [e]; rfl))
        refine GOH ?_
        refine st_call (cutSuffix_spec x (by omega)) (by rfl) (by exact SPx) (fun v Post hv => ?_)
        obtain ⟨y, rfl, hy1, hy2, rfl⟩ := hv
        simp only [List.nil_append]
        by_cases h58 : (bytesN x).getLast? = some 58
        · rw [decide_eq_true h58]
          have hyb := hy1 h58
          refine GOH ?_
          refine st_callP (name_spec y (by omega)) (by rfl) ?_
          cases hny : nameS y with
          | true =>
            have hk : keyL (bytesN x) = true := by
              unfold keyL; rw [decide_eq_true h58, ← hyb]; exact hny
            refine GOH ?_
            refine ⟨[cellsAt pn 0 [vi (d.length + 1 : Nat)], cellsAt pr 0 [vi 0]].flatten, ⟨fun z hz => ?_, by simp⟩, ?_⟩
            · rcases List.mem_append.1 hz with h | h
              · exact hd z h
              · rw [List.mem_singleton.1 h]; exact hk
            · refine Imp.cut (M := [cellsAt pn 0 [vi ((d.length : Int) + 1)], cellsAt pr 0 [vi 0]]) (by exact IMx) (Imp.perm (by simp))
          | false =>
            have hk : keyL (bytesN x) = false := by
              unfold keyL; rw [decide_eq_true h58, ← hyb]; exact hny
            have : arityS s = -1 := by rw [har2, keysL_bad hx1 hk]
            refine GOH ?_
            rw [this]
            exact ⟨.inr rfl, [vi (-1)], [], .cell1 (v := vi (-1)) (by rfl) (by simp [cellsAt]) .nil, Imp.nil, ⟨rfl, rfl⟩⟩
        · rw [decide_eq_false h58]
          have hk : keyL (bytesN x) = false := by
            unfold keyL; rw [decide_eq_false h58]; rfl
          have : arityS s = -1 := by rw [har2, keysL_bad hx1 hk]
          refine GOH ?_
          rw [this]
          exact ⟨.inr rfl, [vi (-1)], [], .cell1 (v := vi (-1)) (by rfl) (by simp [cellsAt]) .nil, Imp.nil, ⟨rfl, rfl⟩⟩
      · rintro full A hfull ⟨hd, rfl⟩
        have : arityS s = full.length := by
          rw [har, ← hfull]
          have := keysL_good (c := full.map bytesN) (rest := []) (n := 0) (fun p hp => by obtain ⟨y, hy, rfl⟩ := List.mem_map.1 hp; exact hd y hy)
          simpa [keysL] using this
        refine VC.imp (H' := [cellsAt pn 0 [vi full.length], cellsAt pr 0 [vi 0]]) (Imp.perm (by simp)) ?_
        refine GOH ?_
        rw [this]
        exact ⟨.inr rfl, [vi full.length], [], .cell1 (v := vi full.length) (by rfl) (by simp [cellsAt]) .nil, Imp.nil, ⟨rfl, rfl⟩⟩
end Go.Proofs.YtmnmandpdadedaaGreatDoor

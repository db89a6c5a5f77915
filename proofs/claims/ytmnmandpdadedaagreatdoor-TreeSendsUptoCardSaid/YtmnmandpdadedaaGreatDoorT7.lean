/-
  Scanning: integers, with their sign.
-/
import Derived.Test.YtmnmandpdadedaaGreatDoorT6
import Derived.Test.YtmnmandpdadedaaGreatDoorT5
import Derived.Test.YtmnmandpdadedaaGreatDoorV13
import Derived.Test.YtmnmandpdadedaaGreatDoorV11
import Derived.Test.YtmnmandpdadedaaGreatDoorV7
set_option linter.unusedSimpArgs false
set_option linter.unusedVariables false
namespace Go.Proofs.YtmnmandpdadedaaGreatDoor
open Go Go.V
set_option maxHeartbeats 3200000
set_option maxRecDepth 100000
theorem cutPrefix_spec (s : ByteArray) (hs : s.size ≤ 140737488355328) : Fun Tryz.prog 156 [.string s, .string ⟨#[45]⟩] [] (fun v Post => ∃ t, v = .tuple #[.string t, .bool (decide ((bytesN s).head? = some 45))] ∧ bytesN t = (if (bytesN s).head? = some 45 then (bytesN s).tail else bytesN s) ∧ t.size ≤ s.size ∧ Post = []) := by
  have hlen := bytesN_len s
  have hhead : ∀ (h : 1 ≤ s.size), s.extract 0 1 = ⟨#[45]⟩ ↔ (bytesN s).head? = some 45 := fun h => by
    have hb : bytesN (s.extract 0 1) = (bytesN s).take 1 := by rw [bytesN_extract, List.drop_zero]
    cases hx : bytesN s with
    | nil => rw [hx] at hlen; simp at hlen; omega
    | cons a r =>
      rw [hx] at hb
      constructor
      · intro e
        rw [e] at hb
        have : [45] = [a] := hb
        simp at this; simp [← this]
      · intro e
        simp at e
        apply bytesN_inj
        rw [hb, e]; rfl
  have hpre : Fun Tryz.prog 169 [.string s, .string ⟨#[45]⟩] [] (fun v Post => v = .bool (decide ((bytesN s).head? = some 45)) ∧ Post = []) := by
    refine Fun.intro low169 (by simp [n169]) ?_
    refine GOH ?_
    rw [show (((⟨#[45]⟩ : ByteArray).size : Nat) : Int) = 1 from rfl]
    by_cases h : 1 ≤ s.size
    · rw [decide_eq_true (show (s.size : Int) ≥ 1 by omega)]
      refine GOH ?_
      rw [show (((⟨#[45]⟩ : ByteArray).size : Nat) : Int) = 1 from rfl]
      refine st_slcS (l := 0) (h := 1) (by rfl) .dft (.num (by rfl)) (by omega) ?_
      refine GOH ?_
      refine ⟨.inr rfl, _, _, .tmp (by rfl) .nil, by exact IMx, ?_, rfl⟩
      simp only [tup, hhead h]
    · rw [decide_eq_false (show ¬ (s.size : Int) ≥ 1 by omega)]
      refine GOH ?_
      refine ⟨.inr rfl, _, _, .tmp (by rfl) .nil, by exact IMx, ?_, rfl⟩
      have : bytesN s = [] := List.length_eq_zero_iff.1 (by omega)
      simp [tup, this]
  have hcut : Fun Tryz.prog 164 [.string s, .string ⟨#[45]⟩] [] (fun v Post => ∃ t, v = .tuple #[.string t, .bool (decide ((bytesN s).head? = some 45))] ∧ bytesN t = (if (bytesN s).head? = some 45 then (bytesN s).tail else bytesN s) ∧ t.size ≤ s.size ∧ Post = []) := by
    refine Fun.intro low164 (by simp [n164]) ?_
    refine GOH ?_
    refine st_callP hpre (by rfl) ?_
    by_cases h : (bytesN s).head? = some 45
    · have hpos : 1 ≤ s.size := by
        cases hb : bytesN s with
        | nil => rw [hb] at h; cases h
        | cons a r => rw [← hlen, hb]; simp
      rw [decide_eq_true h]
      refine GOH ?_
      rw [show (((⟨#[45]⟩ : ByteArray).size : Nat) : Int) = 1 from rfl]
      refine st_slcS (l := 1) (h := s.size) (by rfl) (.num (by rfl)) .dft (by omega) ?_
      refine GOH ?_
      have hb : bytesN (s.extract 1 s.size) = (bytesN s).tail := by rw [bytesN_extract, List.take_of_length_le (by omega), List.drop_one]
      refine endQ_mk (Post := []) (.inr rfl) (.tmp (by rfl) (.tmp (by rfl) .nil)) ⟨_, rfl, by rw [if_pos h, hb], ?_, rfl⟩ (by exact IMx)
      rw [← bytesN_len, hb, ← hlen]; simp
    · rw [decide_eq_false h]
      refine GOH ?_
      refine endQ_mk (Post := []) (.inr rfl) (.tmp (by rfl) (.tmp (by rfl) .nil)) ⟨_, rfl, by rw [if_neg h], Nat.le_refl _, rfl⟩ (by exact IMx)
  refine Fun.intro low156 (by simp [n156]) ?_
  refine GOH ?_
  refine st_call hcut (by rfl) (by exact SPx) (fun v Post hv => ?_)
  obtain ⟨t, rfl, h1, h2, rfl⟩ := hv
  simp only [List.nil_append]
  refine GOH ?_
  refine endQ_mk (Post := []) (.inr rfl) (.tmp (by rfl) (.tmp (by rfl) .nil)) ⟨t, rfl, h1, h2, rfl⟩ (by exact IMx)
theorem trimByte_spec (s : ByteArray) (hs : s.size ≤ 140737488355328) : Fun Tryz.prog 170 [.string s, .int .u8 48] [] (fun v Post => ∃ t, v = .string t ∧ bytesN t = (bytesN s).dropWhile (fun c => decide (c = 48)) ∧ Post = []) := by
  refine Fun.intro low170 (by simp [n170]) ?_
  refine GOH ?_
  refine VC.loop (α := ByteArray) (Γf := fun t => [(0, .string t), (1, .int .u8 48)]) (Hf := fun _ => []) (I := fun t => t.size ≤ s.size ∧ (bytesN t).dropWhile (fun c => decide (c = 48)) = (bytesN s).dropWhile (fun c => decide (c = 48))) (μ := fun t => t.size) s ⟨Nat.le_refl _, rfl⟩ (by exact SUx) (by exact IMx) ?_
  rintro t ⟨i1, i2⟩
  have hlen := bytesN_len t
  refine GOH ?_
  by_cases h0 : t = ⟨#[]⟩
  · subst h0
    refine GOH ?_
    refine endQ_mk (Post := []) (.inr rfl) (.tmp (by rfl) .nil) ⟨_, rfl, by rw [← i2]; rfl, rfl⟩ (by exact IMx)
  obtain ⟨c, r, hc, hr, hc256, hpos⟩ := bytesN_cons h0
  rw [decide_eq_true (show (t.size : Int) > 0 by omega)]
  refine GOH ?_
  refine st_idxS (by rfl) (by rfl) (j := 0) rfl hc ?_
  refine GOH ?_
  by_cases h48 : c.toNat = 48
  · rw [show decide ((c.toNat : Int) = 48) = true from decide_eq_true (by omega)]
    refine GOH ?_
    refine st_slcS (l := 1) (h := t.size) (by rfl) (.num (by rfl)) .dft (by omega) ?_
    refine GOH ?_
    have hb : bytesN (t.extract 1 t.size) = r := by rw [bytesN_extract, List.take_of_length_le (by omega), List.drop_one, hr]; rfl
    have hz : (t.extract 1 t.size).size + 1 = t.size := by rw [← bytesN_len, hb, ← hlen, hr]; rfl
    refine ⟨t.extract 1 t.size, ⟨by omega, ?_⟩, by omega, by exact SUx, by exact IMx⟩
    rw [hb, ← i2, hr, List.dropWhile_cons_of_pos (by simp [h48])]
  · rw [show decide ((c.toNat : Int) = 48) = false from decide_eq_false (by omega)]
    refine GOH ?_
    refine endQ_mk (Post := []) (.inr rfl) (.tmp (by rfl) .nil) ⟨_, rfl, ?_, rfl⟩ (by exact IMx)
    rw [← i2, hr, List.dropWhile_cons_of_neg (by simp [h48])]
theorem plainL_eq (l : List Nat) : plainL l = if l.dropWhile (fun c => decide (c = 48)) = [] ∧ l ≠ [] then [48] else l.dropWhile (fun c => decide (c = 48)) := by
  induction l with
  | nil => rfl
  | cons a l ih =>
    by_cases ha : a = 48
    · subst ha
      cases l with
      | nil => rfl
      | cons b r =>
        rw [plainL, ih, show List.dropWhile (fun c => decide (c = 48)) (48 :: b :: r) = List.dropWhile (fun c => decide (c = 48)) (b :: r) from List.dropWhile_cons_of_pos (by simp)]
        simp
    · rw [List.dropWhile_cons_of_neg (by simp [ha])]
      have : plainL (a :: l) = a :: l := by
        cases l with
        | nil => simp [plainL]
        | cons b r => simp [plainL, ha]
      simp [this]
theorem plain_spec (s : ByteArray) (hs : s.size ≤ 140737488355328) : Fun Tryz.prog 157 [.string s] [] (fun v Post => ∃ t, v = .string t ∧ bytesN t = plainL (bytesN s) ∧ Post = []) := by
  have htrim : Fun Tryz.prog 165 [.string s, .string ⟨#[48]⟩] [] (fun v Post => ∃ t, v = .string t ∧ bytesN t = (bytesN s).dropWhile (fun c => decide (c = 48)) ∧ Post = []) := by
    refine Fun.intro low165 (by simp [n165]) ?_
    refine GOH ?_
    by_cases h0 : s = ⟨#[]⟩
    · subst h0
      refine GOH ?_
      refine endQ_mk (Post := []) (.inr rfl) (.tmp (by rfl) .nil) ⟨_, rfl, rfl, rfl⟩ (by exact IMx)
    rw [decide_eq_false h0]
    refine GOH ?_
    refine st_call (trimByte_spec s hs) (by rfl) (by exact SPx) (fun v Post hv => ?_)
    obtain ⟨t, rfl, h1, rfl⟩ := hv
    simp only [List.nil_append]
    refine GOH ?_
    refine endQ_mk (Post := []) (.inr rfl) (.tmp (by rfl) .nil) ⟨_, rfl, h1, rfl⟩ (by exact IMx)
  refine Fun.intro low157 (by simp [n157]) ?_
  refine GOH ?_
  refine st_call htrim (by rfl) (by exact SPx) (fun v Post hv => ?_)
  obtain ⟨t, rfl, h1, rfl⟩ := hv
  simp only [List.nil_append]
  refine GOH ?_
  have hp := plainL_eq (bytesN s)
  rw [← h1] at hp
  by_cases ht : t = ⟨#[]⟩
  · rw [decide_eq_true ht]
    have hb : bytesN t = [] := by rw [ht]; rfl
    refine GOH ?_
    by_cases h0 : s = ⟨#[]⟩
    · subst h0
      refine GOH ?_
      refine endQ_mk (Post := []) (.inr rfl) (.tmp (by rfl) .nil) ⟨_, rfl, by rw [hb]; rfl, rfl⟩ (by exact IMx)
    · rw [decide_eq_false h0, Bool.not_false]
      have hs0 : bytesN s ≠ [] := fun e => h0 (bytesN_inj (by rw [e]; rfl))
      refine GOH ?_
      refine endQ_mk (Post := []) (.inr rfl) (.tmp (by rfl) .nil) ⟨_, rfl, by rw [hp, if_pos ⟨hb, hs0⟩]; rfl, rfl⟩ (by exact IMx)
  · rw [decide_eq_false ht]
    have hb : bytesN t ≠ [] := fun e => ht (bytesN_inj (by rw [e]; rfl))
    refine GOH ?_
    refine endQ_mk (Post := []) (.inr rfl) (.tmp (by rfl) .nil) ⟨_, rfl, by rw [hp, if_neg (fun h => hb h.1)], rfl⟩ (by exact IMx)
def smallD (m : Bool) (l : List Nat) : Prop := l.length ≤ 19 ∧ numL l ≤ (if m = true then 1152921504606846976 else 1152921504606846975)
def WholeQ (m : Bool) (t : ByteArray) (v : Value) : Prop :=
  (smallD m (bytesN t) ∧ v = .agg #[cv 4, vi (if m = true then -(numL (bytesN t) : Int) else (numL (bytesN t) : Int)), uv 0, .string ⟨#[]⟩, .slice none 0 0]) ∨
  (¬ smallD m (bytesN t) ∧ ∃ u, v = .agg #[cv 5, vi 0, uv 0, .string u, .slice none 0 0] ∧ bytesN u = if m = true then 45 :: bytesN t else bytesN t)
theorem whole_spec (A : List Atom) (hE : ErA A) (t : ByteArray) (h0 : bytesN t ≠ []) (hd : (bytesN t).all digB = true) (hl : t.size ≤ 255) (m : Bool) : Fun Tryz.prog 158 [.string t, .bool m] [A] (fun v Post => WholeQ m t v ∧ Post = [A]) := by
  refine Fun.intro low158 (by simp [n158]) ?_
  have hlen := bytesN_len t
  have hcat : binV .add (.string ⟨#[45]⟩) (.string t) = some (.string (⟨#[45]⟩ ++ t)) := if_pos (by show 1 + t.size ≤ 9223372036854775807; omega)
  refine GOH ?_
  refine st_alloc (fun b => ?_)
  refine GOH ?_
  by_cases h19 : t.size ≤ 19
  rotate_left
  · rw [decide_eq_false (show ¬ (t.size : Int) ≤ 19 by omega)]
    have hns : ¬ smallD m (bytesN t) := fun hs => by have := hs.1; omega
    cases m with
    | true =>
      refine GOH ?_
      refine st_bin (by rfl) (by rfl) hcat ?_
      refine GOH ?_
      refine ⟨.inr rfl, _, _, .cellN (us := [cv 5, vi 0, uv 0, .string (⟨#[45]⟩ ++ t), .slice none 0 0]) (by rfl) (by rfl) (fun x hx => by simp only [List.flatten_cons, List.mem_append]; first | exact .inl hx | exact .inr (.inl hx)) .nil, by exact IMx, .inr ⟨hns, _, rfl, by rw [bytesN_append]; rfl⟩, rfl⟩
    | false =>
      refine GOH ?_
      refine ⟨.inr rfl, _, _, .cellN (us := [cv 5, vi 0, uv 0, .string t, .slice none 0 0]) (by rfl) (by rfl) (fun x hx => by simp only [List.flatten_cons, List.mem_append]; first | exact .inl hx | exact .inr (.inl hx)) .nil, by exact IMx, .inr ⟨hns, _, rfl, rfl⟩, rfl⟩
  rw [decide_eq_true (show (t.size : Int) ≤ 19 by omega)]
  refine GOH ?_
  refine st_call (parseInt_spec A hE t h0 hd h19) (by rfl) (by exact SPx) (fun v Post hv => ?_)
  rcases hv with ⟨⟨hn, rfl⟩ | ⟨hn, z, ty, pp, rfl, hz⟩, rfl⟩
  · simp only [CNx]
    obtain ⟨N, hN⟩ : ∃ N, numL (bytesN t) = N := ⟨_, rfl⟩
    rw [hN] at hn ⊢
    have hsm2 : ∀ m, smallD m (bytesN t) ↔ N ≤ (if m = true then 1152921504606846976 else 1152921504606846975) := fun m => by
      unfold smallD; rw [hN]; exact ⟨fun h => h.2, fun h => ⟨by omega, h⟩⟩
    cases m with
    | true =>
      refine GOH ?_
      rw [show IntKind.i64.wrap (0 - (N : Int)) = -(N : Int) by rw [Int.zero_sub]; exact wrap64 ⟨by omega, by omega⟩]
      by_cases hs : N ≤ 1152921504606846976
      · have hsm : smallD true (bytesN t) := (hsm2 true).2 hs
        rw [decide_eq_true (show (-1152921504606846976 : Int) ≤ -(N : Int) by omega)]
        refine GOH ?_
        rw [decide_eq_true (show -(N : Int) ≤ 1152921504606846975 by omega)]
        refine GOH ?_
        refine ⟨.inr rfl, _, _, .cellN (us := [cv 4, vi (-(N : Int)), uv 0, .string ⟨#[]⟩, .slice none 0 0]) (by rfl) (by rfl) (fun x hx => by simp only [List.flatten_cons, List.mem_append]; first | exact .inl hx | exact .inr (.inl hx)) .nil, by exact IMx, .inl ⟨hsm, by rw [hN]; rfl⟩, rfl⟩
      · have hns : ¬ smallD true (bytesN t) := fun h => hs ((hsm2 true).1 h)
        rw [decide_eq_false (show ¬ (-1152921504606846976 : Int) ≤ -(N : Int) by omega)]
        refine GOH ?_
        refine st_bin (by rfl) (by rfl) hcat ?_
        refine GOH ?_
        refine ⟨.inr rfl, _, _, .cellN (us := [cv 5, vi 0, uv 0, .string (⟨#[45]⟩ ++ t), .slice none 0 0]) (by rfl) (by rfl) (fun x hx => by simp only [List.flatten_cons, List.mem_append]; first | exact .inl hx | exact .inr (.inl hx)) .nil, by exact IMx, .inr ⟨hns, _, rfl, by rw [bytesN_append]; rfl⟩, rfl⟩
    | false =>
      refine GOH ?_
      by_cases hs : N ≤ 1152921504606846975
      · have hsm : smallD false (bytesN t) := (hsm2 false).2 hs
        rw [decide_eq_true (show (N : Int) ≤ 1152921504606846975 by omega)]
        refine GOH ?_
        refine ⟨.inr rfl, _, _, .cellN (us := [cv 4, vi (N : Int), uv 0, .string ⟨#[]⟩, .slice none 0 0]) (by rfl) (by rfl) (fun x hx => by simp only [List.flatten_cons, List.mem_append]; first | exact .inl hx | exact .inr (.inl hx)) .nil, by exact IMx, .inl ⟨hsm, by rw [hN]; rfl⟩, rfl⟩
      · have hns : ¬ smallD false (bytesN t) := fun h => hs ((hsm2 false).1 h)
        rw [decide_eq_false (show ¬ (N : Int) ≤ 1152921504606846975 by omega)]
        refine GOH ?_
        refine ⟨.inr rfl, _, _, .cellN (us := [cv 5, vi 0, uv 0, .string t, .slice none 0 0]) (by rfl) (by rfl) (fun x hx => by simp only [List.flatten_cons, List.mem_append]; first | exact .inl hx | exact .inr (.inl hx)) .nil, by exact IMx, .inr ⟨hns, _, rfl, rfl⟩, rfl⟩
  · simp only [CNx]
    have hns : ¬ smallD m (bytesN t) := fun hs => by have := hs.2; split at this <;> omega
    cases m with
    | true =>
      refine GOH ?_
      refine st_bin (by rfl) (by rfl) hcat ?_
      refine GOH ?_
      refine ⟨.inr rfl, _, _, .cellN (us := [cv 5, vi 0, uv 0, .string (⟨#[45]⟩ ++ t), .slice none 0 0]) (by rfl) (by rfl) (fun x hx => by simp only [List.flatten_cons, List.mem_append]; first | exact .inl hx | exact .inr (.inl hx)) .nil, by exact IMx, .inr ⟨hns, _, rfl, by rw [bytesN_append]; rfl⟩, rfl⟩
    | false =>
      refine GOH ?_
      refine ⟨.inr rfl, _, _, .cellN (us := [cv 5, vi 0, uv 0, .string t, .slice none 0 0]) (by rfl) (by rfl) (fun x hx => by simp only [List.flatten_cons, List.mem_append]; first | exact .inl hx | exact .inr (.inl hx)) .nil, by exact IMx, .inr ⟨hns, _, rfl, rfl⟩, rfl⟩
def digsL (l : List Nat) : List Nat := if l.head? = some 45 then l.tail else l
def minusL (l : List Nat) : Bool := decide (l.head? = some 45)
def goodL (l : List Nat) : Bool := decide (digsL l ≠ []) && decide ((plainL (digsL l)).length ≤ 255) && (digsL l).all digB
def IntQ (s : ByteArray) (v : Value) : Prop :=
  (goodL (bytesN s) = false ∧ v = .tuple #[.agg #[cv 0, vi 0, uv 0, .string ⟨#[]⟩, .slice none 0 0], vi 144]) ∨
  (goodL (bytesN s) = true ∧ ∃ t u, bytesN t = plainL (digsL (bytesN s)) ∧ WholeQ (minusL (bytesN s)) t u ∧ v = .tuple #[u, vi 0])
theorem plainL_dig {l : List Nat} (h : l.all digB = true) : (plainL l).all digB = true := by
  rw [plainL_eq]
  split
  · rfl
  · rw [List.all_eq_true] at h ⊢
    intro x hx
    exact h x ((List.dropWhile_sublist _).subset hx)
theorem plainL_ne {l : List Nat} (h : l ≠ []) : plainL l ≠ [] := by
  rw [plainL_eq]
  split
  · simp
  · rename_i h2; intro e; exact h2 ⟨e, h⟩
theorem WholeQ.cells {m : Bool} {t : ByteArray} {v : Value} (h : WholeQ m t v) : ∃ us, v = .agg us ∧ us.toList.length = 5 := by
  rcases h with ⟨_, rfl⟩ | ⟨_, u, rfl, _⟩ <;> exact ⟨_, rfl, rfl⟩
theorem integer_spec (A : List Atom) (hE : ErA A) (s : ByteArray) (hs : s.size ≤ 140737488355328) : Fun Tryz.prog 148 [.string s] [A] (fun v Post => IntQ s v ∧ Post = [A]) := by
  refine Fun.intro low148 (by simp [n148]) ?_
  refine GOH ?_
  refine st_alloc (fun b => ?_)
  refine GOH ?_
  refine st_call (cutPrefix_spec s hs) (by rfl) (by exact SPx) (fun v Post hv => ?_)
  obtain ⟨d, rfl, hd, hds, rfl⟩ := hv
  simp only [List.nil_append]
  have hdig : bytesN d = digsL (bytesN s) := hd
  have hm : decide ((bytesN s).head? = some 45) = minusL (bytesN s) := rfl
  rw [hm]
  obtain ⟨m, hmm⟩ : ∃ m, minusL (bytesN s) = m := ⟨_, rfl⟩
  rw [hmm]
  refine GOH ?_
  refine st_call (plain_spec d (by omega)) (by rfl) (by exact SPx) (fun v Post hv => ?_)
  obtain ⟨t, rfl, ht, rfl⟩ := hv
  simp only [List.nil_append]
  have hlt := bytesN_len t
  have hld := bytesN_len d
  have hIntB : goodL (bytesN s) = false → IntQ s (.tuple #[.agg #[cv 0, vi 0, uv 0, .string ⟨#[]⟩, .slice none 0 0], vi 144]) := fun h => .inl ⟨h, rfl⟩
  have hg : goodL (bytesN s) = (decide (bytesN d ≠ []) && decide (t.size ≤ 255) && (bytesN d).all digB) := by
    unfold goodL; rw [← hdig, ← ht, hlt]
  refine GOH ?_
  by_cases h0 : d = ⟨#[]⟩
  · rw [decide_eq_true h0]
    have hb : goodL (bytesN s) = false := by rw [hg, h0]; rfl
    refine GOH ?_
    refine ⟨.inr rfl, _, _, .cellN (us := [cv 0, vi 0, uv 0, .string ⟨#[]⟩, .slice none 0 0]) (by rfl) (by rfl) (fun x hx => by simp only [List.flatten_cons, List.mem_append]; first | exact .inl hx | exact .inr (.inl hx)) (.tmp (by rfl) .nil), by exact IMx, hIntB hb, rfl⟩
  rw [decide_eq_false h0]
  have hd0 : bytesN d ≠ [] := fun e => h0 (bytesN_inj (by rw [e]; rfl))
  refine GOH ?_
  by_cases h255 : t.size ≤ 255
  rotate_left
  · rw [decide_eq_true (show (t.size : Int) > 255 by omega)]
    have hb : goodL (bytesN s) = false := by rw [hg, decide_eq_false h255]; simp
    refine GOH ?_
    refine ⟨.inr rfl, _, _, .cellN (us := [cv 0, vi 0, uv 0, .string ⟨#[]⟩, .slice none 0 0]) (by rfl) (by rfl) (fun x hx => by simp only [List.flatten_cons, List.mem_append]; first | exact .inl hx | exact .inr (.inl hx)) (.tmp (by rfl) .nil), by exact IMx, hIntB hb, rfl⟩
  rw [decide_eq_false (show ¬ (t.size : Int) > 255 by omega)]
  refine GOH ?_
  have hrun := run_spec d (by omega) 0 (by omega) (.func (.func 126) #[] #[]) (fun _ => []) (fun k => digB ((bytesN d).getD k 0)) (fun k x _ hx => FunV.of_fun (by
    rw [List.getD_eq_getElem?_getD, hx]
    exact digit_spec _ (bytesN_lt d _ (List.mem_of_getElem? hx))))
  refine st_call hrun (by rfl) (by exact SPx) (fun v Post hv => ?_)
  obtain ⟨e, j, rfl, e1, e2, e3, e4, rfl⟩ := hv
  have hall := all_run (l := bytesN d) (p := digB) (e := e) (by omega) (fun k hk => e3 k (by omega) hk) (fun hk => e4 (by omega))
  simp only [List.nil_append]
  refine GOH ?_
  by_cases he : e = (bytesN d).length
  rotate_left
  · have hb : goodL (bytesN s) = false := by rw [hg, hall, decide_eq_false he]; simp
    rw [decide_eq_false (show ¬ (e : Int) = (d.size : Int) by omega)]
    refine GOH ?_
    refine ⟨.inr rfl, _, _, .cellN (us := [cv 0, vi 0, uv 0, .string ⟨#[]⟩, .slice none 0 0]) (by rfl) (by rfl) (fun x hx => by simp only [List.flatten_cons, List.mem_append]; first | exact .inl hx | exact .inr (.inl hx)) (.tmp (by rfl) .nil), by exact IMx, hIntB hb, rfl⟩
  rw [decide_eq_true (show (e : Int) = (d.size : Int) by omega)]
  rw [decide_eq_true he] at hall
  have hgt : goodL (bytesN s) = true := by rw [hg, hall, decide_eq_true h255, decide_eq_true hd0]; rfl
  refine GOH ?_
  refine st_call (whole_spec A hE t (by rw [ht]; exact plainL_ne hd0) (by rw [ht]; exact plainL_dig hall) h255 m) (by rfl) (by exact SPx) (fun v Post hv => ?_)
  obtain ⟨hw, rfl⟩ := hv
  have fin : ∀ u, WholeQ m t u → IntQ s (.tuple #[u, vi 0]) := fun u hu => .inr ⟨hgt, t, u, by rw [ht, hdig], by rw [hmm]; exact hu, rfl⟩
  have hfin := fin _ hw
  simp only [CNx]
  rcases hw with ⟨_, rfl⟩ | ⟨_, u, rfl, _⟩
  · generalize (if m = true then -(numL (bytesN t) : Int) else (numL (bytesN t) : Int)) = z at hfin ⊢
    refine GOH ?_
    refine ⟨.inr rfl, _, _, .cellN (us := [cv 4, vi z, uv 0, .string ⟨#[]⟩, .slice none 0 0]) (by rfl) (by rfl) (fun x hx => by simp only [List.flatten_cons, List.mem_append]; first | exact .inl hx | exact .inr (.inl hx)) (.tmp (by rfl) .nil), by exact IMx, hfin, rfl⟩
  · refine GOH ?_
    refine ⟨.inr rfl, _, _, .cellN (us := [cv 5, vi 0, uv 0, .string u, .slice none 0 0]) (by rfl) (by rfl) (fun x hx => by simp only [List.flatten_cons, List.mem_append]; first | exact .inl hx | exact .inr (.inl hx)) (.tmp (by rfl) .nil), by exact IMx, hfin, rfl⟩
theorem largeL_eq (l : List Nat) : largeL l = (decide (digsL l ≠ []) && (digsL l).all digB && decide (plainL (digsL l) = digsL l) && decide ((digsL l).length ≤ 255) && decide ((if minusL l = true then 1152921504606846976 else 1152921504606846975) < numL (digsL l))) := by
  unfold largeL
  cases l with
  | nil => rfl
  | cons a r =>
    by_cases ha : a = 45
    · subst ha; rfl
    · have h1 : digsL (a :: r) = a :: r := by simp [digsL, ha]
      have h2 : minusL (a :: r) = false := by simp [minusL, ha]
      rw [h1, h2]
      split
      rename_i d m h
      split at h
      · rename_i heq; cases heq; exact absurd rfl ha
      · cases h; rfl
theorem small_plain {d : List Nat} {m : Bool} (h0 : d ≠ []) (hd : d.all digB = true) (hp : plainL d = d) : smallD m d ↔ ¬ (if m = true then 1152921504606846976 else 1152921504606846975) < numL d := by
  unfold smallD
  constructor
  · intro h; have := h.2; omega
  · intro h
    refine ⟨?_, by omega⟩
    apply Classical.byContradiction
    intro hl
    cases d with
    | nil => exact h0 rfl
    | cons c r =>
      have hc : c ≠ 48 := by
        intro e; subst e
        cases r with
        | nil => simp at hl
        | cons b q =>
          rw [plainL_eq] at hp
          split at hp
          · cases hp
          · rw [List.dropWhile_cons_of_pos (by simp)] at hp
            have h1 := (List.dropWhile_sublist (l := b :: q) (fun c => decide (c = 48))).length_le
            rw [hp] at h1
            simp at h1
            omega
      have hc2 := List.all_eq_true.1 hd c (by simp)
      simp only [digB, Bool.and_eq_true, decide_eq_true_eq] at hc2
      have h1 := numL_ge r (0 * 10 + (c - 48)) 0 (by simp; omega)
      have h2 : numL (c :: r) = r.foldl (fun n c => n * 10 + (c - 48)) (0 * 10 + (c - 48)) := rfl
      have h3 : (10 : Nat) ^ 19 ≤ 10 ^ (0 + r.length) := Nat.pow_le_pow_right (by omega) (by simp at hl; omega)
      have h4 : (10 : Nat) ^ 19 = 10000000000000000000 := by decide
      rw [← h2] at h1
      split at h <;> omega
theorem signed_eq (l : List Nat) : (if minusL l = true then 45 :: digsL l else digsL l) = l := by
  cases l with
  | nil => rfl
  | cons a r =>
    by_cases ha : a = 45
    · subst ha; rfl
    · simp [minusL, digsL, ha]
theorem IntQ.large {s : ByteArray} {v : Value} (h : IntQ s v) : ∃ (k : Nat) (n : Int) (t : ByteArray) (e : Nat), v = .tuple #[.agg #[cv k, vi n, uv 0, .string t, .slice none 0 0], vi e] ∧ (e = 0 ∧ k = 5 ∧ t = s ↔ largeL (bytesN s) = true) := by
  have hq := largeL_eq (bytesN s)
  rcases h with ⟨hg, rfl⟩ | ⟨hg, t, u, ht, hw, rfl⟩
  · refine ⟨0, 0, _, 144, rfl, ⟨fun h => by simp at h, fun h => ?_⟩⟩
    rw [hq] at h
    simp only [Bool.and_eq_true, decide_eq_true_eq] at h
    unfold goodL at hg
    rw [h.1.1.2, decide_eq_true h.1.1.1.1, h.1.1.1.2, decide_eq_true h.1.2] at hg
    cases hg
  · simp only [goodL, Bool.and_eq_true, decide_eq_true_eq] at hg
    obtain ⟨⟨g1, g2⟩, g3⟩ := hg
    have hse := signed_eq (bytesN s)
    rcases hw with ⟨hs, rfl⟩ | ⟨hs, u, rfl, hu⟩
    · refine ⟨4, _, _, 0, rfl, ⟨fun h => by simp at h, fun h => ?_⟩⟩
      rw [hq] at h
      simp only [Bool.and_eq_true, decide_eq_true_eq] at h
      rw [ht, h.1.1.2] at hs
      exact absurd h.2 ((small_plain g1 g3 h.1.1.2).1 hs)
    · refine ⟨5, 0, u, 0, rfl, ⟨fun h => ?_, fun h => ?_⟩⟩
      · have hp : plainL (digsL (bytesN s)) = digsL (bytesN s) := by
          have h2 : (if minusL (bytesN s) = true then 45 :: plainL (digsL (bytesN s)) else plainL (digsL (bytesN s))) = (if minusL (bytesN s) = true then 45 :: digsL (bytesN s) else digsL (bytesN s)) := by
            rw [hse, ← ht, ← hu, h.2.2]
          cases hm : minusL (bytesN s) with
          | true => rw [hm] at h2; simpa using h2
          | false => rw [hm] at h2; simpa using h2
        rw [hq]
        rw [ht, hp, small_plain g1 g3 hp] at hs
        simp only [Bool.and_eq_true, decide_eq_true_eq]
        rw [hp] at g2
        exact ⟨⟨⟨⟨g1, g3⟩, hp⟩, g2⟩, Classical.not_not.1 hs⟩
      · rw [hq] at h
        simp only [Bool.and_eq_true, decide_eq_true_eq] at h
        refine ⟨rfl, rfl, bytesN_inj ?_⟩
        rw [hu, ht, h.1.1.2, hse]
def wrongV : Value := .iface 96 (.agg #[vi 150])
def wrongCh : List PanicEntry := [{ v := wrongV, recovered := false }]
theorem must_spec (b : Bool) : FunP Tryz.prog 47 [.bool b] [] (fun v Post => b = true ∧ v = .tuple #[] ∧ Post = []) (fun ch Post => b = false ∧ ch = wrongCh ∧ Post = []) := by
  refine FunP.intro low47 (by simp [n47]) ?_
  cases b with
  | true =>
    refine GOH ?_
    exact endP_mk (endQ_mk (Post := []) (.inl rfl) .nil ⟨by trivial, rfl, rfl⟩ (by exact IMx))
  | false =>
    refine GOH ?_
    refine st_pnc (by rfl) ?_
    exact ⟨[], Imp.nil, by trivial, rfl, rfl⟩
theorem free_spec (s : ByteArray) (hs : s.size ≤ 140737488355328) : Fun Tryz.prog 95 [.string s] [] (fun v Post => v = .bool (freeS s) ∧ Post = []) := by
  refine Fun.intro low95 (by simp [n95]) ?_
  have hin : ∀ t : ByteArray, bytesN t ∈ takenL → s = t → freeS s = false := fun t ht e => by
    subst e
    have : takenL.contains (bytesN s) = true := List.contains_iff_mem.2 ht
    unfold freeS; rw [this]; rfl
  refine GOH ?_
  by_cases h1 : s = ⟨#[115, 101, 108, 102]⟩
  · have hf := hin _ (by decide) h1
    rw [decide_eq_true h1]
    refine GOH ?_
    refine endQ_mk (Post := []) (.inr rfl) (.tmp (by rfl) .nil) ⟨by rw [hf]; rfl, rfl⟩ (by exact IMx)
  rw [decide_eq_false h1]
  refine GOH ?_
  by_cases h2 : s = ⟨#[115, 117, 112, 101, 114]⟩
  · have hf := hin _ (by decide) h2
    rw [decide_eq_true h2]
    refine GOH ?_
    refine endQ_mk (Post := []) (.inr rfl) (.tmp (by rfl) .nil) ⟨by rw [hf]; rfl, rfl⟩ (by exact IMx)
  rw [decide_eq_false h2]
  refine GOH ?_
  by_cases h3 : s = ⟨#[110, 105, 108]⟩
  · have hf := hin _ (by decide) h3
    rw [decide_eq_true h3]
    refine GOH ?_
    refine endQ_mk (Post := []) (.inr rfl) (.tmp (by rfl) .nil) ⟨by rw [hf]; rfl, rfl⟩ (by exact IMx)
  rw [decide_eq_false h3]
  refine GOH ?_
  by_cases h4 : s = ⟨#[116, 114, 117, 101]⟩
  · have hf := hin _ (by decide) h4
    rw [decide_eq_true h4]
    refine GOH ?_
    refine endQ_mk (Post := []) (.inr rfl) (.tmp (by rfl) .nil) ⟨by rw [hf]; rfl, rfl⟩ (by exact IMx)
  rw [decide_eq_false h4]
  refine GOH ?_
  by_cases h5 : s = ⟨#[102, 97, 108, 115, 101]⟩
  · have hf := hin _ (by decide) h5
    rw [decide_eq_true h5]
    refine GOH ?_
    refine endQ_mk (Post := []) (.inr rfl) (.tmp (by rfl) .nil) ⟨by rw [hf]; rfl, rfl⟩ (by exact IMx)
  rw [decide_eq_false h5]
  have hno : takenL.contains (bytesN s) = false := by
    rw [Bool.eq_false_iff]
    intro h
    rw [List.contains_iff_mem] at h
    simp only [takenL, List.mem_cons, List.not_mem_nil, or_false] at h
    rcases h with h | h | h | h | h
    · exact h1 (bytesN_inj (by rw [h]; rfl))
    · exact h2 (bytesN_inj (by rw [h]; rfl))
    · exact h3 (bytesN_inj (by rw [h]; rfl))
    · exact h4 (bytesN_inj (by rw [h]; rfl))
    · exact h5 (bytesN_inj (by rw [h]; rfl))
  have hf : freeS s = nameS s := by unfold freeS; rw [hno]; rfl
  refine GOH ?_
  refine st_callP (name_spec s hs) (by rfl) ?_
  refine GOH ?_
  refine endQ_mk (Post := []) (.inr rfl) (.tmp (by rfl) .nil) ⟨by rw [hf]; rfl, rfl⟩ (by exact IMx)
theorem names1_spec (s : ByteArray) (hs : s.size ≤ 140737488355328) : Fun Tryz.prog 94 [.string s] [] (fun v Post => v = .bool (!freeS s) ∧ Post = []) := by
  refine Fun.intro low94 (by simp [n94]) ?_
  refine GOH ?_
  refine st_callP (free_spec s hs) (by rfl) ?_
  refine GOH ?_
  refine endQ_mk (Post := []) (.inr rfl) (.tmp (by rfl) .nil) ⟨rfl, rfl⟩ (by exact IMx)
theorem indexFunc_spec (B : List Atom) (v : Value) (l : List ByteArray) (h : RdT B v l) : Fun Tryz.prog 93 [v, .func (.func 94) #[] #[]] [B] (fun u Post => u = .bool (!l.all freeS) ∧ Post = [B]) := by
  obtain ⟨a, c, rfl, hl, hr⟩ := h
  have hi : Fun Tryz.prog 130 [.slice a l.length c, .func (.func 94) #[] #[]] [B] (fun u Post => (∃ i : Int, u = vi i ∧ decide (0 ≤ i) = !l.all freeS) ∧ Post = [B]) := by
    refine Fun.intro low130 (by simp [n130]) ?_
    refine GOH ?_
    refine VC.loop (α := Nat) (Γf := fun k => [(0, .slice a l.length c), (1, .func (.func 94) #[] #[]), (7, vi l.length), (8, vi k)]) (Hf := fun _ => [B]) (I := fun k => k ≤ l.length ∧ (l.take k).all freeS = true) (μ := fun k => l.length - k) 0 ⟨Nat.zero_le _, rfl⟩ (by exact SUx) (Imp.refl _) ?_
    rintro k ⟨i1, i2⟩
    refine GOH ?_
    by_cases hk : k < l.length
    rotate_left
    · rw [decide_eq_false (show ¬ (k : Int) < (l.length : Int) by omega)]
      have : l.take k = l := List.take_of_length_le (by omega)
      rw [this] at i2
      refine GOH ?_
      refine endQ_mk (Post := [B]) (.inr rfl) (.tmp (by rfl) .nil) ⟨⟨-1, rfl, by rw [i2]; rfl⟩, rfl⟩ (by exact IMx)
    rw [decide_eq_true (show (k : Int) < (l.length : Int) by omega)]
    have hk2 : l[k]? = some l[k] := List.getElem?_eq_getElem hk
    obtain ⟨b, o, rfl, hm, hsz⟩ := hr k _ hk2
    have ht : (l.take (k + 1)).all freeS = freeS l[k] := by
      rw [List.take_add_one, hk2, List.all_append, i2]; simp
    have hrest : freeS l[k] = false → l.all freeS = false := fun hf => by
      rw [← List.take_append_drop (k + 1) l, List.all_append, ht, hf, Bool.false_and]
    generalize l[k] = t at *
    have hfv : FunV Tryz.prog (.func (.func 94) #[] #[]) [.string t] [] (fun v Post => v = .bool (!freeS t) ∧ Post = []) := FunV.of_fun (names1_spec t hsz)
    refine GOH ?_
    refine st_callV (by rfl) hfv (by rfl) (by exact SPx) (fun v Post hv => ?_)
    obtain ⟨rfl, rfl⟩ := hv
    simp only [List.nil_append]
    cases hf : freeS t with
    | true =>
      refine GOH ?_
      exact ⟨k + 1, ⟨by omega, by rw [ht, hf]⟩, by omega, by exact SUx, by exact IMx⟩
    | false =>
      refine GOH ?_
      refine endQ_mk (Post := [B]) (.inr rfl) (.tmp (by rfl) .nil) ⟨⟨k, rfl, by rw [hrest hf]; simp⟩, rfl⟩ (by exact IMx)
  refine Fun.intro low93 (by simp [n93]) ?_
  refine GOH ?_
  refine st_call hi (by rfl) (by exact SPx) (fun v Post hv => ?_)
  obtain ⟨⟨i, rfl, h⟩, rfl⟩ := hv
  simp only [CNx]
  refine GOH ?_
  refine endQ_mk (Post := [B]) (.inr rfl) (.tmp (by rfl) .nil) ⟨by rw [← h]; rfl, rfl⟩ (by exact IMx)
abbrev lkA (lb : Nat) (m d : Bool) : List Atom := cellsAt lb 0 [.bool m, .bool d]
def LkQ (A : List Atom) (lb : Nat) (m0 deep : Bool) (r : Rs) : Value → SH → Prop := fun v Post => ∃ (d : Nat) (m : Bool), r = some (d, m) ∧ v = vi d ∧ Post = [A, lkA lb (m0 || m) deep]
def LkZ (A : List Atom) (lb : Nat) (deep : Bool) (r : Rs) : List PanicEntry → SH → Prop := fun ch Post => r = none ∧ ch = wrongCh ∧ ∃ m, Post = [A, lkA lb m deep]
abbrev Look (f : Nat) (args : List Value) (A : List Atom) (lb : Nat) (m0 deep : Bool) (r : Rs) : Prop := FunP Tryz.prog f args [A, lkA lb m0 deep] (LkQ A lb m0 deep r) (LkZ A lb deep r)
theorem names_spec (B : List Atom) (v : Value) (l : List ByteArray) (h : RdT B v l) (lb most : Nat) (m0 deep : Bool) : FunP Tryz.prog 49 [ptr0 lb, vi most, v] [B, lkA lb m0 deep]
    (fun v Post => l.all freeS = true ∧ v = .tuple #[] ∧ Post = [B, lkA lb (m0 || decide (most < l.length)) deep]) (fun ch Post => l.all freeS = false ∧ ch = wrongCh ∧ ∃ m, Post = [B, lkA lb m deep]) := by
  refine FunP.intro low49 (by simp [n49]) ?_
  have hc := indexFunc_spec B v l h
  obtain ⟨a, c, rfl, hl, hr⟩ := h
  cases m0 with
  | true =>
    refine GOH ?_
    refine st_call hc (by rfl) (by exact SPx) (fun v Post hv => ?_)
    obtain ⟨rfl, rfl⟩ := hv
    simp only [CNx]
    refine GOH ?_
    refine st_callZ (must_spec _) (by rfl) (by exact SPx) (fun v Post hv => ?_) (fun ch Post hz => ?_)
    · obtain ⟨h1, rfl, rfl⟩ := hv
      simp only [List.nil_append]
      refine GOH ?_
      exact endP_mk (endQ_mk (Post := [B, lkA lb true deep]) (.inl rfl) .nil ⟨by simpa using h1, rfl, rfl⟩ (by exact IMx))
    · obtain ⟨h1, rfl, rfl⟩ := hz
      exact ⟨[B, lkA lb true deep], by exact IMx, by simpa using h1, rfl, true, rfl⟩
  | false =>
    refine GOH ?_
    by_cases hm : most < l.length
    · rw [show decide ((l.length : Int) > (most : Int)) = true from decide_eq_true (by omega), decide_eq_true hm]
      refine GOH ?_
      refine st_call hc (by rfl) (by exact SPx) (fun v Post hv => ?_)
      obtain ⟨rfl, rfl⟩ := hv
      simp only [CNx]
      refine GOH ?_
      refine st_callZ (must_spec _) (by rfl) (by exact SPx) (fun v Post hv => ?_) (fun ch Post hz => ?_)
      · obtain ⟨h1, rfl, rfl⟩ := hv
        simp only [List.nil_append]
        refine GOH ?_
        exact endP_mk (endQ_mk (Post := [B, lkA lb true deep]) (.inl rfl) .nil ⟨by simpa using h1, rfl, rfl⟩ (by exact IMx))
      · obtain ⟨h1, rfl, rfl⟩ := hz
        exact ⟨[B, lkA lb true deep], by exact IMx, by simpa using h1, rfl, true, rfl⟩
    · rw [show decide ((l.length : Int) > (most : Int)) = false from decide_eq_false (by omega), decide_eq_false hm]
      refine GOH ?_
      refine st_call hc (by rfl) (by exact SPx) (fun v Post hv => ?_)
      obtain ⟨rfl, rfl⟩ := hv
      simp only [CNx]
      refine GOH ?_
      refine st_callZ (must_spec _) (by rfl) (by exact SPx) (fun v Post hv => ?_) (fun ch Post hz => ?_)
      · obtain ⟨h1, rfl, rfl⟩ := hv
        simp only [List.nil_append]
        refine GOH ?_
        exact endP_mk (endQ_mk (Post := [B, lkA lb false deep]) (.inl rfl) .nil ⟨by simpa using h1, rfl, rfl⟩ (by exact IMx))
      · obtain ⟨h1, rfl, rfl⟩ := hz
        exact ⟨[B, lkA lb false deep], by exact IMx, by simpa using h1, rfl, false, rfl⟩
theorem nd_open {A : List Atom} {x : Nd} {vs : List Value} (h : NdRd A x vs) : ∃ c2 c3 c4 c5 c6 c7 c8 c9 c10, vs = [cv x.kind, .string x.name, c2, c3, c4, c5, c6, c7, c8, c9, c10] ∧ x.name.size ≤ 140737488355328 ∧ x.kind < 256 := by
  cases h with
  | mk wf hl hav htv ha hm hr =>
    cases hl with
    | mk wf2 ha2 hm2 hr2 => exact ⟨_, _, _, _, _, _, _, _, _, rfl, wf.name, wf.kind⟩
def NodeOk (A : List Atom) (x : Nd) (vs : List Value) : Prop := (∀ lb m0 deep, Look 96 [ptr0 lb, .agg vs.toArray] A lb m0 deep (nodeD x)) ∧ ∀ d m, nodeD x = some (d, m) → d ≤ 1099511627776
theorem part_spec (A : List Atom) (x : Nd) (vs : List Value) (h : NdRd A x vs) (hn : NodeOk A x vs) (place lb : Nat) (m0 deep : Bool) : Look 113 [ptr0 lb, .agg vs.toArray, vi place] A lb m0 deep (partR x place (nodeD x)) := by
  obtain ⟨hn1, hn2⟩ := hn
  obtain ⟨c2, c3, c4, c5, c6, c7, c8, c9, c10, rfl, hsz, hk⟩ := nd_open h
  have hlev : levelN x = levelKS x.kind x.name := rfl
  have hls := level_spec x.kind x.name hsz c2 c3 c4 c5 c6 c7 c8 c9 c10
  have hcall := hn1 lb m0 deep
  refine FunP.intro low113 (by simp [n113]) ?_
  unfold partR
  rw [hlev]
  generalize x.kind = k at *
  generalize x.name = s at *
  generalize nodeD x = r at *
  generalize levelKS k s = lv at *
  refine GOH ?_
  refine st_box (by rfl) (fun q => ?_)
  simp only [Value.cells]
  refine GOH ?_
  by_cases h9 : k = 9
  · have hnone : mustR (decide (k ≠ 9 ∧ k ≠ 6)) (if lv < place then deeper r else r) = none := by simp [mustR, h9]
    rw [show decide ((k : Int) = 9) = true from decide_eq_true (by omega), Bool.not_true]
    refine GOH ?_
    refine st_callZ (must_spec false) (by rfl) (by exact SPx) (fun v Post hv => absurd hv.1 (by decide)) (fun ch Post hz => ?_)
    obtain ⟨_, rfl, rfl⟩ := hz
    exact ⟨[A, lkA lb m0 deep], by exact IMx, hnone, rfl, m0, rfl⟩
  rw [show decide ((k : Int) = 9) = false from decide_eq_false (by omega), Bool.not_false]
  refine GOH ?_
  by_cases h6 : k = 6
  · have hnone : mustR (decide (k ≠ 9 ∧ k ≠ 6)) (if lv < place then deeper r else r) = none := by simp [mustR, h6]
    rw [show decide ((k : Int) = 6) = true from decide_eq_true (by omega), Bool.not_true]
    refine GOH ?_
    refine st_callZ (must_spec false) (by rfl) (by exact SPx) (fun v Post hv => absurd hv.1 (by decide)) (fun ch Post hz => ?_)
    obtain ⟨_, rfl, rfl⟩ := hz
    exact ⟨[A, lkA lb m0 deep], by exact IMx, hnone, rfl, m0, rfl⟩
  rw [show decide ((k : Int) = 6) = false from decide_eq_false (by omega), Bool.not_false]
  have hmust : mustR (decide (k ≠ 9 ∧ k ≠ 6)) (if lv < place then deeper r else r) = (if lv < place then deeper r else r) := by simp [mustR, h9, h6]
  rw [hmust]
  refine GOH ?_
  refine st_callZ (must_spec true) (by rfl) (by exact SPx) (fun v Post hv => ?_) (fun ch Post hz => absurd hz.1 (by decide))
  obtain ⟨_, rfl, rfl⟩ := hv
  simp only [List.nil_append]
  refine GOH ?_
  refine st_callZ hcall (by rfl) (by exact SPx) (fun v Post hv => ?_) (fun ch Post hz => ?_)
  rotate_left
  · obtain ⟨hb, rfl, m2, rfl⟩ := hz
    exact ⟨[A, lkA lb m2 deep], by exact IMx, by rw [hb]; split <;> rfl, rfl, m2, rfl⟩
  obtain ⟨d, m2, he, rfl, rfl⟩ := hv
  have hd := hn2 d m2 he
  simp only [CNx]
  refine GOH ?_
  refine st_callP hls (by rfl) ?_
  refine GOH ?_
  by_cases hlt : lv < place
  · rw [show decide ((lv : Int) < (place : Int)) = true from decide_eq_true (by omega)]
    refine GOH ?_
    refine endP_mk (endQ_mk (Post := [A, lkA lb (m0 || m2) deep]) (.inr rfl) (.tmp (by rfl) .nil) ⟨d + 1, m2, by rw [if_pos hlt, he]; rfl, rfl, rfl⟩ (by exact IMx))
  · rw [show decide ((lv : Int) < (place : Int)) = false from decide_eq_false (by omega)]
    refine GOH ?_
    refine endP_mk (endQ_mk (Post := [A, lkA lb (m0 || m2) deep]) (.inr rfl) (.tmp (by rfl) .nil) ⟨d, m2, by rw [if_neg hlt, he], rfl, rfl⟩ (by exact IMx))
theorem value_spec (A : List Atom) (x : Nd) (vs : List Value) (h : NdRd A x vs) (hn : NodeOk A x vs) (place lb : Nat) (m0 deep : Bool) : Look 73 [ptr0 lb, .agg vs.toArray, vi place] A lb m0 deep (valueR x place (nodeD x)) := by
  have hp := part_spec A x vs h hn place lb m0 deep
  obtain ⟨c2, c3, c4, c5, c6, c7, c8, c9, c10, rfl, hsz, hk⟩ := nd_open h
  have hsu : superN x = superKS x.kind x.name := rfl
  have hss := super_spec x.kind x.name c2 c3 c4 c5 c6 c7 c8 c9 c10
  refine FunP.intro low73 (by simp [n73]) ?_
  unfold valueR
  rw [hsu]
  generalize partR x place (nodeD x) = r at *
  refine GOH ?_
  refine st_box (by rfl) (fun q => ?_)
  simp only [Value.cells]
  refine GOH ?_
  refine st_callP hss (by rfl) ?_
  cases hs : superKS x.kind x.name with
  | true =>
    have hnone : mustR (!true) r = none := rfl
    refine GOH ?_
    refine st_callZ (must_spec false) (by rfl) (by exact SPx) (fun v Post hv => absurd hv.1 (by decide)) (fun ch Post hz => ?_)
    obtain ⟨_, rfl, rfl⟩ := hz
    exact ⟨[A, lkA lb m0 deep], by exact IMx, hnone, rfl, m0, rfl⟩
  | false =>
    have hm : mustR (!false) r = r := rfl
    rw [hm]
    refine GOH ?_
    refine st_callZ (must_spec true) (by rfl) (by exact SPx) (fun v Post hv => ?_) (fun ch Post hz => absurd hz.1 (by decide))
    obtain ⟨_, rfl, rfl⟩ := hv
    simp only [List.nil_append]
    refine GOH ?_
    refine st_callZ hp (by rfl) (by exact SPx) (fun v Post hv => ?_) (fun ch Post hz => ?_)
    rotate_left
    · obtain ⟨hb, rfl, m2, rfl⟩ := hz
      exact ⟨[A, lkA lb m2 deep], by exact IMx, hb, rfl, m2, rfl⟩
    obtain ⟨d, m2, he, rfl, rfl⟩ := hv
    simp only [CNx]
    refine GOH ?_
    refine endP_mk (endQ_mk (Post := [A, lkA lb (m0 || m2) deep]) (.inr rfl) (.tmp (by rfl) .nil) ⟨d, m2, he, rfl, rfl⟩ (by exact IMx))
theorem first_spec (A : List Atom) (x : Nd) (vs : List Value) (h : NdRd A x vs) (hn : NodeOk A x vs) (sel : ByteArray) (hsel : sel.size ≤ 140737488355328) (lb : Nat) (m0 deep : Bool) : Look 132 [ptr0 lb, .agg vs.toArray, .string sel] A lb m0 deep (firstR x sel (nodeD x)) := by
  have hv := value_spec A x vs h hn (recvS sel) lb m0 deep
  have hcall := hn.1 lb m0 deep
  obtain ⟨c2, c3, c4, c5, c6, c7, c8, c9, c10, rfl, hsz, hk⟩ := nd_open h
  have hsu : superN x = superKS x.kind x.name := rfl
  have hss := super_spec x.kind x.name c2 c3 c4 c5 c6 c7 c8 c9 c10
  refine FunP.intro low132 (by simp [n132]) ?_
  unfold firstR
  rw [hsu]
  refine GOH ?_
  refine st_box (by rfl) (fun q => ?_)
  simp only [Value.cells]
  refine GOH ?_
  refine st_callP hss (by rfl) ?_
  cases hs : superKS x.kind x.name with
  | true =>
    rw [if_pos rfl]
    refine GOH ?_
    refine st_callZ hcall (by rfl) (by exact SPx) (fun v Post hv => ?_) (fun ch Post hz => ?_)
    rotate_left
    · obtain ⟨hb, rfl, m2, rfl⟩ := hz
      exact ⟨[A, lkA lb m2 deep], by exact IMx, hb, rfl, m2, rfl⟩
    obtain ⟨d, m2, he, rfl, rfl⟩ := hv
    simp only [CNx]
    refine GOH ?_
    refine endP_mk (endQ_mk (Post := [A, lkA lb (m0 || m2) deep]) (.inr rfl) (.tmp (by rfl) .nil) ⟨d, m2, he, rfl, rfl⟩ (by exact IMx))
  | false =>
    rw [if_neg (by simp)]
    refine GOH ?_
    generalize valueR x (recvS sel) (nodeD x) = r at hv ⊢
    cases r with
    | some dm =>
      obtain ⟨d, m2⟩ := dm
      have hvf : FunP Tryz.prog 73 [ptr0 lb, .agg #[cv x.kind, .string x.name, c2, c3, c4, c5, c6, c7, c8, c9, c10], vi (recvS sel)] [A, lkA lb m0 deep] (fun v Post => v = vi d ∧ Post = [A, lkA lb (m0 || m2) deep]) (fun _ _ => False) :=
        FunP.mono hv (fun v Post ⟨d', m', e, h1, h2⟩ => by cases e; exact ⟨h1, h2⟩) (fun ch Post hz => by cases hz.1)
      refine VC.seq (VC.draws ⟨?_, ?_, trivial⟩)
      · refine GOH ?_
        refine st_callP (receiver_spec sel hsel) (by rfl) ?_
        refine GOH ?_
        refine st_call hvf.fun (by rfl) (by exact SPx) (fun v Post hv => ?_)
        obtain ⟨rfl, rfl⟩ := hv
        simp only [CNx]
        refine GOH ?_
        refine endP_mk (endQ_mk (Post := [A, lkA lb (m0 || m2) deep]) (.inr rfl) (.tmp (by rfl) .nil) ⟨d, m2, rfl, rfl, rfl⟩ (by exact IMx))
      · refine GOH ?_
        refine st_callP (receiver_spec sel hsel) (by rfl) ?_
        refine GOH ?_
        refine st_call hvf.fun (by rfl) (by exact SPx) (fun v Post hv => ?_)
        obtain ⟨rfl, rfl⟩ := hv
        simp only [CNx]
        refine GOH ?_
        refine endP_mk (endQ_mk (Post := [A, lkA lb (m0 || m2) deep]) (.inr rfl) (.tmp (by rfl) .nil) ⟨d, m2, rfl, rfl, rfl⟩ (by exact IMx))
    | none =>
      have hvz : FunP Tryz.prog 73 [ptr0 lb, .agg #[cv x.kind, .string x.name, c2, c3, c4, c5, c6, c7, c8, c9, c10], vi (recvS sel)] [A, lkA lb m0 deep] (fun v Post => False) (fun ch Post => ch = wrongCh ∧ ∃ m, Post = [A, lkA lb m deep]) :=
        FunP.mono hv (fun v Post ⟨d', m', e, _⟩ => by cases e) (fun ch Post hz => hz.2)
      refine VC.seq (VC.drawZ (fun ch H' => ch = wrongCh ∧ ∃ m, Imp H' [A, lkA lb m deep]) (fun H' => H' = [cellsAt q 0 [cv x.kind, .string x.name, c2, c3, c4, c5, c6, c7, c8, c9, c10], A, lkA lb m0 deep]) rfl ?_ (fun ch H' hp => ?_))
      · intro rs hrs
        rcases List.mem_cons.1 hrs with rfl | hrs
        · skip
          refine ⟨rfl, ptr0 lb, True, fun Γ H hΓ hH => ?_, ?_⟩
          · subst hH
            exact st_mv (hΓ 0 (by decide) _ rfl) (VO.nil ⟨rfl, rfl, trivial⟩)
          refine ⟨rfl, .agg #[cv x.kind, .string x.name, c2, c3, c4, c5, c6, c7, c8, c9, c10], True, fun Γ H hΓ hH => ?_, ?_⟩
          · subst hH
            exact st_loadM (hΓ 4 (by decide) _ rfl) (by (focus ((repeat (first | (apply HasM.cells; omega; (focus (simp only [List.length_cons, List.length_nil, Nat.reduceAdd, Nat.zero_add, Nat.reduceSub, Nat.sub_self, Nat.reduceLeDiff, Nat.le_refl]; done)); (focus (simp only [lnb, Value.cells, Nat.zero_add, Nat.reduceEqDiff, ↓reduceIte, eq_self, Nat.reduceAdd, Nat.reduceSub, Nat.sub_self, Nat.reduceLeDiff, Nat.le_refl, and_self, rep, zeroRow] <;> rfl)); rfl) | apply HasM.there)); done))) (VO.nil ⟨rfl, rfl, trivial⟩)
          refine ⟨rfl, .string sel, True, fun Γ H hΓ hH => ?_, ?_⟩
          · subst hH
            exact st_mv (hΓ 2 (by decide) _ rfl) (VO.nil ⟨rfl, rfl, trivial⟩)
          refine ⟨rfl, vi (recvS sel), True, fun Γ H hΓ hH => ?_, ?_⟩
          · subst hH
            exact st_callP (receiver_spec sel hsel) (by simp only [V.evs, V.ev, hΓ 14 (by decide) _ rfl]) (VO.nil ⟨rfl, rfl, trivial⟩)
          refine ⟨rfl, vi 0, False, fun Γ H hΓ hH => ?_, ?_⟩
          · subst hH
            refine st_callZ hvz (by simp only [V.evs, V.ev, hΓ 12 (by decide) _ rfl, hΓ 13 (by decide) _ rfl, hΓ 15 (by decide) _ rfl]) (by exact SPx) (fun v Post hv => hv.elim) (fun ch Post hz => ?_)
            obtain ⟨rfl, m, rfl⟩ := hz
            exact ⟨rfl, m, by exact IMx⟩
          refine ⟨rfl, vi 0, True, fun Γ H hΓ hH => ?_, ?_⟩
          · subst hH
            exact st_mv (hΓ 16 (by decide) _ rfl) (VO.nil ⟨rfl, rfl, trivial⟩)
          exact fun hh => by simp at hh
        rcases List.mem_cons.1 hrs with rfl | hrs
        · skip
          refine ⟨rfl, ptr0 lb, True, fun Γ H hΓ hH => ?_, ?_⟩
          · subst hH
            exact st_mv (hΓ 0 (by decide) _ rfl) (VO.nil ⟨rfl, rfl, trivial⟩)
          refine ⟨rfl, .string sel, True, fun Γ H hΓ hH => ?_, ?_⟩
          · subst hH
            exact st_mv (hΓ 2 (by decide) _ rfl) (VO.nil ⟨rfl, rfl, trivial⟩)
          refine ⟨rfl, vi (recvS sel), True, fun Γ H hΓ hH => ?_, ?_⟩
          · subst hH
            exact st_callP (receiver_spec sel hsel) (by simp only [V.evs, V.ev, hΓ 14 (by decide) _ rfl]) (VO.nil ⟨rfl, rfl, trivial⟩)
          refine ⟨rfl, .agg #[cv x.kind, .string x.name, c2, c3, c4, c5, c6, c7, c8, c9, c10], True, fun Γ H hΓ hH => ?_, ?_⟩
          · subst hH
            exact st_loadM (hΓ 4 (by decide) _ rfl) (by (focus ((repeat (first | (apply HasM.cells; omega; (focus (simp only [List.length_cons, List.length_nil, Nat.reduceAdd, Nat.zero_add, Nat.reduceSub, Nat.sub_self, Nat.reduceLeDiff, Nat.le_refl]; done)); (focus (simp only [lnb, Value.cells, Nat.zero_add, Nat.reduceEqDiff, ↓reduceIte, eq_self, Nat.reduceAdd, Nat.reduceSub, Nat.sub_self, Nat.reduceLeDiff, Nat.le_refl, and_self, rep, zeroRow] <;> rfl)); rfl) | apply HasM.there)); done))) (VO.nil ⟨rfl, rfl, trivial⟩)
          refine ⟨rfl, vi 0, False, fun Γ H hΓ hH => ?_, ?_⟩
          · subst hH
            refine st_callZ hvz (by simp only [V.evs, V.ev, hΓ 12 (by decide) _ rfl, hΓ 13 (by decide) _ rfl, hΓ 15 (by decide) _ rfl]) (by exact SPx) (fun v Post hv => hv.elim) (fun ch Post hz => ?_)
            obtain ⟨rfl, m, rfl⟩ := hz
            exact ⟨rfl, m, by exact IMx⟩
          refine ⟨rfl, vi 0, True, fun Γ H hΓ hH => ?_, ?_⟩
          · subst hH
            exact st_mv (hΓ 16 (by decide) _ rfl) (VO.nil ⟨rfl, rfl, trivial⟩)
          exact fun hh => by simp at hh
        · cases hrs
      · obtain ⟨rfl, m, hi⟩ := hp
        exact ⟨_, hi, rfl, rfl, m, rfl⟩
end Go.Proofs.YtmnmandpdadedaaGreatDoor

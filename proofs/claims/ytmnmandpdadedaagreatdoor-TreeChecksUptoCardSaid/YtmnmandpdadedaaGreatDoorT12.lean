/-
  The document's names and literals.
-/
import Derived.Test.YtmnmandpdadedaaGreatDoorT11
import Derived.Test.YtmnmandpdadedaaGreatDoorT3
import Derived.Test.YtmnmandpdadedaaGreatDoorT1
import Derived.Test.YtmnmandpdadedaaGreatDoorV5
import Derived.Test.YtmnmandpdadedaaGreatDoorV6
import Derived.Test.YtmnmandpdadedaaGreatDoorT5
set_option linter.unusedSimpArgs false
set_option linter.unusedVariables false
namespace Go.Proofs.YtmnmandpdadedaaGreatDoor
open Go Go.V
set_option maxHeartbeats 1600000
set_option maxRecDepth 100000
theorem taken_spec (s : ByteArray) : Fun Tryz.prog 139 [.string s] [] (fun v Post => v = .bool (takenL.contains (kB s)) /\ Post = []) := by
  refine Fun.intro low139 (by simp [n139]) ?_;have hin : ∀ t : ByteArray, kB t ∈ takenL -> s = t -> takenL.contains (kB s) = true := fun t ht e => by
    subst e;exact List.contains_iff_mem.2 ht
  refine GOH ?_;by_cases h1 : s = ⟨#[115, 101, 108, 102]⟩
  · have hf := hin _ Zd h1;rw [Zt h1];refine GOH ?_;refine kC (Post := []) (.inr rfl) (.tmp Zr .nil) ⟨by rw [hf];rfl, rfl⟩ ZI
  rw [Zf h1];refine GOH ?_;by_cases h2 : s = ⟨#[115, 117, 112, 101, 114]⟩
  · have hf := hin _ Zd h2;rw [Zt h2];refine GOH ?_;refine kC (Post := []) (.inr rfl) (.tmp Zr .nil) ⟨by rw [hf];rfl, rfl⟩ ZI
  rw [Zf h2];refine GOH ?_;by_cases h3 : s = ⟨#[110, 105, 108]⟩
  · have hf := hin _ Zd h3;rw [Zt h3];refine GOH ?_;refine kC (Post := []) (.inr rfl) (.tmp Zr .nil) ⟨by rw [hf];rfl, rfl⟩ ZI
  rw [Zf h3];refine GOH ?_;by_cases h4 : s = ⟨#[116, 114, 117, 101]⟩
  · have hf := hin _ Zd h4;rw [Zt h4];refine GOH ?_;refine kC (Post := []) (.inr rfl) (.tmp Zr .nil) ⟨by rw [hf];rfl, rfl⟩ ZI
  rw [Zf h4];refine GOH ?_;by_cases h5 : s = ⟨#[102, 97, 108, 115, 101]⟩
  · have hf := hin _ Zd h5;refine kC (Post := []) (.inr rfl) (.tmp Zr .nil) ⟨by rw [hf, Zt h5];rfl, rfl⟩ ZI
  have hno : takenL.contains (kB s) = false := by
    rw [Bool.eq_false_iff];intro h;rw [List.contains_iff_mem] at h;simp only [takenL, List.mem_cons, List.not_mem_nil, or_false] at h;rcases h with h | h | h | h | h
    · exact h1 (kq (by rw [h];rfl))
    · exact h2 (kq (by rw [h];rfl))
    · exact h3 (kq (by rw [h];rfl))
    · exact h4 (kq (by rw [h];rfl))
    · exact h5 (kq (by rw [h];rfl))
  refine kC (Post := []) (.inr rfl) (.tmp Zr .nil) ⟨by rw [hno, Zf h5];rfl, rfl⟩ ZI
theorem freeR_spec (s : ByteArray) (hs : s.size <= 140737488355328) : Fun Tryz.prog 107 [.string s] [] (fun v Post => v = .bool (jH s) /\ Post = []) := by
  refine Fun.intro low107 (by simp [n107]) ?_;refine GOH ?_;refine kH (nameR_spec s hs) Zr ?_;refine GOH ?_;refine kH (taken_spec s) Zr ?_;have hf : jH s = (!takenL.contains (kB s) && nameS s) := rfl;rw [hf];generalize takenL.contains (kB s) = b;cases nameS s with
  | true =>
    refine GOH ?_;exact kC (Post := []) (.inr rfl) (.tmp Zr .nil) ⟨by cases b <;> rfl, rfl⟩ ZI
  | false =>
    refine GOH ?_;exact kC (Post := []) (.inr rfl) (.tmp Zr .nil) ⟨by cases b <;> rfl, rfl⟩ ZI
theorem frees_spec (B : List kE) (v : Value) (l : List ByteArray) (h : RdT B v l) : Fun Tryz.prog 66 [v] [B] (fun u Post => u = .bool (l.all jH) /\ Post = [B]) := by
  obtain ⟨a, c, rfl, hl, hr⟩ := h;refine Fun.intro low66 (by simp [n66]) ?_;refine GOH ?_;refine VC.loop (α := Nat) (Γf := fun k => [(0, .slice a l.length c), (3, vi k)]) (Hf := fun _ => [B]) (I := fun k => k <= l.length /\ (l.take k).all jH = true) (μ := fun k => l.length - k) 0 ⟨Nat.zero_le _, rfl⟩ ZU ZI ?_
  rintro k ⟨i1, i2⟩
  refine GOH ?_;by_cases hk : k < l.length;rotate_left
  · rw [Zf Zo];rw [List.take_of_length_le Zo] at i2;refine GOH ?_;exact kC (Post := [B]) (.inr rfl) (.tmp Zr .nil) ⟨by rw [i2];rfl, rfl⟩ ZI
  rw [Zt Zo];obtain ⟨t, ht⟩ : ∃ t, l[k]? = some t := ⟨_, Zg hk⟩;obtain ⟨b, o, rfl, hm, hsz⟩ := hr k t ht;have htk : l.take (k + 1) = l.take k ++ [t] := by rw [List.take_add_one, ht];rfl
  refine GOH ?_;refine kH (freeR_spec t hsz) Zr ?_;cases hf : jH t with
  | true =>
    refine GOH ?_;exact ⟨k + 1, ⟨Zo, by rw [htk];simp [i2, hf]⟩, Zo, ZU, ZI⟩
  | false =>
    have : l.all jH = false := by
      rw [Bool.eq_false_iff];intro h;have := List.all_eq_true.1 h t (Zv ht);rw [hf] at this;cases this
    refine GOH ?_;exact kC (Post := [B]) (.inr rfl) (.tmp Zr .nil) ⟨by rw [this];rfl, rfl⟩ ZI
theorem maxR_some_all (l : List Rs) : (jF l).isSome = l.all Option.isSome := by
  induction l with
  | nil => rfl
  | cons r l ih =>
    rw [maxR_cons, List.all_cons, <- ih];cases r <;> cases jF l <;> rfl
structure LitQ where
  ok : Bool
  n : Int
  b : Nat
  t : ByteArray
  sv : Value
  l : Nat
theorem literalR_spec (A : List kE) (hE : ErA A) : ∀ (N : Nat) (x : Lt), x.size <= N -> x.size <= 1099511627776 -> ∀ vs, zL A x vs -> ∀ inside : Bool, Fun Tryz.prog 141 [.agg vs.toArray, .bool inside] [A] (fun v Post => v = .bool (kn x inside).isSome /\ Post = [A]) := by
  intro N
  induction N with
  | zero => intro x hx;have := x.size_pos;omega
  | succ N ih =>
    intro x hx hbd vs hvs inside;have hvs2 := hvs;cases hvs with
    | @mk k n b t items a c bk o us wf ha hm hr =>
    refine Fun.intro low141 (by simp [n141]) ?_;refine j7 ?_;refine kS Zr (fun q => ?_);simp only [Value.cells];refine j7 ?_;refine VC.join (α := LitQ) (fun s => [(2, kN q), (5, .bool s.ok)]) (fun s => [A, kA q 0 [cv k, vi s.n, uv s.b, .string s.t, s.sv]])
      (fun s => (∃ a c, s.sv = .slice a s.l c) /\ (kn (.mk k n b t items) inside).isSome = (s.ok && decide (s.n = 0 /\ s.b = 0 /\ s.t.size = 0 /\ s.l = 0))) ?_ ?_
    · have hk256 := wf.kind;obtain ⟨hn1, hn2⟩ := wf.n;have hz : (⟨#[]⟩ : ByteArray).size = 0 := rfl;have sm : ∀ (b : Bool) (r : Rs), (kK b r).isSome = (b && r.isSome) := fun b r => by cases b <;> rfl
      have same : ∀ (y : Bool), (kn (.mk k n b t items) inside).isSome = (y && decide (n = 0 /\ b = 0 /\ t.size = 0 /\ items.length = 0)) -> ∃ s' : LitQ, ((∃ a c, s'.sv = .slice a s'.l c) /\ (kn (.mk k n b t items) inside).isSome = (s'.ok && decide (s'.n = 0 /\ s'.b = 0 /\ s'.t.size = 0 /\ s'.l = 0))) /\ s' = ⟨y, n, b, t, .slice a items.length c, items.length⟩ := fun y h => ⟨_, ⟨⟨_, _, rfl⟩, h⟩, rfl⟩
      by_cases k1 : k = 1
      · subst k1;refine GOH ?_;refine ⟨⟨inside, n, b, t, _, _⟩, ⟨⟨_, _, rfl⟩, ?_⟩, ZU, ZI⟩;simp [kn, sm]
      by_cases k2 : k = 2
      · subst k2;refine GOH ?_;refine ⟨⟨inside, n, b, t, _, _⟩, ⟨⟨_, _, rfl⟩, ?_⟩, ZU, ZI⟩;simp [kn, sm]
      by_cases k3 : k = 3
      · subst k3;refine GOH ?_;refine ⟨⟨inside, n, b, t, _, _⟩, ⟨⟨_, _, rfl⟩, ?_⟩, ZU, ZI⟩;simp [kn, sm]
      by_cases k4 : k = 4
      · subst k4;refine GOH ?_;by_cases h1 : -1152921504606846976 <= n;rotate_left
        · rw [show decide (n ≥ -1152921504606846976) = false from Zf h1];refine GOH ?_;refine ⟨⟨false, 0, b, t, _, _⟩, ⟨⟨_, _, rfl⟩, ?_⟩, ZU, ZI⟩;simp [kn, sm, h1]
        rw [show decide (n ≥ -1152921504606846976) = true from Zt h1];refine GOH ?_;refine ⟨⟨decide (n <= 1152921504606846975), 0, b, t, _, _⟩, ⟨⟨_, _, rfl⟩, ?_⟩, ZU, ZI⟩;simp [kn, sm, h1]
      by_cases k5 : k = 5
      · subst k5;refine GOH ?_;refine kD (integerR_spec A hE t wf.text) Zr ZP (fun v Post hv => ?_);obtain ⟨hq, rfl⟩ := hv;obtain ⟨kk, nn, tt, ee, rfl, hlg⟩ := hq.large;simp only [CNx];refine GOH ?_;refine kP (fun q2 => ?_);refine GOH ?_;have fin : ∀ y : Bool, y = largeL (kB t) -> ((kn (.mk 5 n b t items) inside).isSome = (y && decide (n = 0 /\ b = 0 /\ (⟨#[]⟩ : ByteArray).size = 0 /\ items.length = 0))) := fun y h => by
          rw [h, hz];simp [kn, sm]
        by_cases h1 : ee = 0;rotate_left
        · rw [show decide ((ee : Int) = 0) = false from Zf Zo];refine GOH ?_;exact ⟨⟨false, n, b, ⟨#[]⟩, _, _⟩, ⟨⟨_, _, rfl⟩, fin _ (Bool.eq_false_iff.2 fun h => h1 (hlg.2 h).1).symm⟩, ZU, ZI⟩
        rw [show decide ((ee : Int) = 0) = true from Zt Zo];refine GOH ?_;by_cases h2 : kk = 5;rotate_left
        · rw [show decide ((kk : Int) = 5) = false from Zf Zo];refine GOH ?_;exact ⟨⟨false, n, b, ⟨#[]⟩, _, _⟩, ⟨⟨_, _, rfl⟩, fin _ (Bool.eq_false_iff.2 fun h => h2 (hlg.2 h).2.1).symm⟩, ZU, ZI⟩
        rw [show decide ((kk : Int) = 5) = true from Zt Zo];refine GOH ?_;refine ⟨⟨decide (tt = t), n, b, ⟨#[]⟩, _, _⟩, ⟨⟨_, _, rfl⟩, fin _ ?_⟩, ZU, ZI⟩;rw [Bool.eq_iff_iff, decide_eq_true_eq];exact ⟨fun h => hlg.1 ⟨h1, h2, h⟩, fun h => (hlg.2 h).2.2⟩
      by_cases k6 : k = 6
      · subst k6;have hbits := wf.bits;refine GOH ?_;refine ⟨⟨!decide (((b / 4503599627370496 &&& 2047 : Nat) : Int) = 2047), n, 0, t, .slice a items.length c, items.length⟩, ⟨⟨_, _, rfl⟩, ?_⟩, ZU, by show Imp _ [A, kA q 0 [cv 6, vi n, .int .u64 0, .string t, .slice a items.length c]];exact IMx⟩;have e : b * 2 % 18446744073709551616 / 9007199254740992 = (b / 4503599627370496 &&& 2047) := by
          rw [show (2047 : Nat) = 2 ^ 11 - 1 from rfl, Nat.and_two_pow_sub_one_eq_mod];omega
        have e0 : kn (.mk 6 n b t items) inside = kK (decide (b * 2 % 18446744073709551616 / 9007199254740992 ≠ 2047 /\ n = 0 /\ t.size = 0 /\ items.length = 0)) (some (0, false)) := by
          simp only [kn];rfl
        rw [e0, sm, e];generalize (b / 4503599627370496 &&& 2047) = z;by_cases hz : z = 2047
        · subst hz;simp
        · have : ¬ (z : Int) = 2047 := by omega
          simp [hz, this]
      by_cases k7 : k = 7
      · subst k7;refine GOH ?_;by_cases h1 : 0 <= n;rotate_left
        · rw [show decide (n ≥ 0) = false from Zf h1];refine GOH ?_;refine ⟨⟨false, 0, b, t, _, _⟩, ⟨⟨_, _, rfl⟩, ?_⟩, ZU, ZI⟩;simp [kn, sm, h1]
        rw [show decide (n ≥ 0) = true from Zt h1];refine GOH ?_;refine ⟨⟨decide (n <= 255), 0, b, t, _, _⟩, ⟨⟨_, _, rfl⟩, ?_⟩, ZU, ZI⟩;simp [kn, sm, h1]
      by_cases k8 : k = 8
      · subst k8;refine GOH ?_;refine ⟨⟨true, n, b, ⟨#[]⟩, _, _⟩, ⟨⟨_, _, rfl⟩, ?_⟩, ZU, ZI⟩;simp only [hz];simp [kn, sm]
      by_cases k9 : k = 9
      · subst k9;refine GOH ?_;refine ⟨⟨true, n, b, ⟨#[]⟩, _, _⟩, ⟨⟨_, _, rfl⟩, ?_⟩, ZU, ZI⟩;simp only [hz];simp [kn, sm]
      by_cases k11 : k = 11
      · subst k11;refine GOH ?_;refine ⟨⟨true, n, b, ⟨#[]⟩, _, _⟩, ⟨⟨_, _, rfl⟩, ?_⟩, ZU, ZI⟩;simp only [hz];simp [kn, sm]
      by_cases k10 : k = 10
      · subst k10;have hmany := wf.many;have hall : (kn (.mk 10 n b t items) inside).isSome = (items.all (fun y => (kn y true).isSome) && decide (n = 0 /\ b = 0 /\ t.size = 0 /\ (0 : Nat) = 0)) := by
          have h1 : (jF (litsD items)).isSome = items.all fun y => (kn y true).isSome := by
            rw [maxR_some_all, z8, List.all_map];rfl
          rw [<- h1];simp only [kn];simp [sm];cases jF (litsD items) <;> simp [jm, w5]
        refine GOH ?_;refine VC.loop (α := Nat × Bool) (Γf := fun s => [(2, kN q), (5, .bool s.2), (8, vi s.1)]) (Hf := fun s => [A, kA q 0 [cv 10, vi n, uv b, .string t, .slice a items.length c]])
          (I := fun s => s.1 <= items.length /\ s.2 = (items.take s.1).all fun y => (kn y true).isSome) (μ := fun s => items.length - s.1) (0, true) ⟨Nat.zero_le _, rfl⟩ ZU ZI ?_
        rintro ⟨j, ok⟩ ⟨i1, i2⟩
        simp only at i1 i2;dsimp only;refine GOH ?_;by_cases hj : j < items.length;rotate_left
        · rw [show decide ((j : Int) < (items.length : Int)) = false from Zf Zo];rw [List.take_of_length_le Zo] at i2;refine GOH ?_;refine ⟨⟨ok, n, b, t, .slice none 0 0, 0⟩, ⟨⟨_, _, rfl⟩, ?_⟩, ZU, ZI⟩;rw [hall, <- i2]
        rw [show decide ((j : Int) < (items.length : Int)) = true from Zt Zo];cases ok with
        | false =>
          refine GOH ?_;refine ⟨⟨false, n, b, t, .slice none 0 0, 0⟩, ⟨⟨_, _, rfl⟩, ?_⟩, ZU, ZI⟩;have : (items.all fun y => (kn y true).isSome) = false := by
            rw [Bool.eq_false_iff];intro h;have h2 : ((items.take j).all fun y => (kn y true).isSome) = true := List.all_eq_true.2 fun y hy => List.all_eq_true.1 h y (List.mem_of_mem_take hy)
            rw [h2] at i2;cases i2
          rw [hall, this]
        | true =>
          obtain rfl := ha Zo;obtain ⟨y, hy⟩ : ∃ y, items[j]? = some y := ⟨_, Zg hj⟩;have hyr := hr j y hy;have hym := hm j hj;have hy1 := Lt.sizes_mem (Zv hy);simp only [Lt.size] at hx hbd;have hcall := ih y Zo Zo _ hyr true;have hyl := hyr.len;generalize us j = uj at hyr hym hcall hyl;have htk : items.take (j + 1) = items.take j ++ [y] := by rw [List.take_add_one, hy];rfl
          refine GOH ?_;refine kL Zr Zah hyl ?_;refine GOH ?_;refine kD hcall Zr ZP (fun v Post hv => ?_);obtain ⟨rfl, rfl⟩ := hv;simp only [CNx];refine GOH ?_;refine ⟨(j + 1, (kn y true).isSome), ⟨by simp only;omega, ?_⟩, by simp only;omega, ZU, ZI⟩;simp only [htk, List.all_append, <- i2, List.all_cons, List.all_nil, Bool.and_true, Bool.true_and]
      have hno : kn (.mk k n b t items) inside = none := by
        simp only [kn];rw [if_neg Zo, if_neg k4, if_neg k5, if_neg k6, if_neg k7, if_neg Zo, if_neg k11, if_neg k10]
      refine GOH ?_;rw [show decide ((k : Int) = 1) = false from Zf Zo];refine GOH ?_;rw [show decide ((k : Int) = 2) = false from Zf Zo];refine GOH ?_;rw [show decide ((k : Int) = 3) = false from Zf Zo];refine GOH ?_;rw [show decide ((k : Int) = 4) = false from Zf Zo];refine GOH ?_;rw [show decide ((k : Int) = 5) = false from Zf Zo];refine GOH ?_;rw [show decide ((k : Int) = 6) = false from Zf Zo];refine GOH ?_;rw [show decide ((k : Int) = 7) = false from Zf Zo];refine GOH ?_;rw [show decide ((k : Int) = 8) = false from Zf Zo];refine GOH ?_;rw [show decide ((k : Int) = 9) = false from Zf Zo];refine GOH ?_;rw [show decide ((k : Int) = 11) = false from Zf Zo];refine GOH ?_;rw [show decide ((k : Int) = 10) = false from Zf Zo];refine GOH ?_;refine ⟨⟨false, n, b, t, _, _⟩, ⟨⟨_, _, rfl⟩, ?_⟩, ZU, ZI⟩;rw [hno];rfl
    rintro ⟨ok, n', b', t', sv, l⟩ ⟨⟨a', c', hsv⟩, hq⟩
    simp only at hsv hq;subst hsv;dsimp only;rw [hq];have hz : (⟨#[]⟩ : ByteArray).size = 0 := rfl;cases ok with
    | false =>
      refine GOH ?_;exact kC (Post := [A]) (.inr rfl) (.tmp Zr .nil) ⟨by simp [tup], rfl⟩ ZI
    | true =>
      refine GOH ?_;by_cases h1 : n' = 0;rotate_left
      · rw [Zf h1];refine GOH ?_;exact kC (Post := [A]) (.inr rfl) (.tmp Zr .nil) ⟨by simp [tup, h1], rfl⟩ ZI
      rw [Zt h1];refine GOH ?_;by_cases h2 : b' = 0;rotate_left
      · rw [show decide ((b' : Int) = 0) = false from Zf Zo];refine GOH ?_;exact kC (Post := [A]) (.inr rfl) (.tmp Zr .nil) ⟨by simp [tup, h2], rfl⟩ ZI
      rw [show decide ((b' : Int) = 0) = true from Zt Zo];refine GOH ?_;by_cases h3 : t' = ⟨#[]⟩;rotate_left
      · have : ¬ t'.size = 0 := fun e => h3 (kq (by rw [List.length_eq_zero_iff.1 ((kT t').trans e)];rfl))
        rw [Zf h3];refine GOH ?_;exact kC (Post := [A]) (.inr rfl) (.tmp Zr .nil) ⟨by simp [tup, this], rfl⟩ ZI
      rw [Zt h3];refine GOH ?_;refine kC (Post := [A]) (.inr rfl) (.tmp Zr .nil) ⟨?_, rfl⟩ ZI;simp only [tup, h1, h2, h3, hz, true_and, Bool.true_and, Value.bool.injEq];exact decide_eq_decide.2 ⟨fun h => by omega, fun h => by omega⟩
end Go.Proofs.YtmnmandpdadedaaGreatDoor
namespace Go.Proofs.YtmnmandpdadedaaGreatDoor
open Go Go.V
set_option maxHeartbeats 1600000
set_option maxRecDepth 100000
theorem keysL_le : ∀ (l : List (List Nat)) (n : Nat), -1 <= wy l n /\ wy l n <= n + l.length := by
  intro l
  induction l with
  | nil => intro n;simp only [wy, List.length_nil];omega
  | cons p l ih =>
    intro n;simp only [wy, List.length_cons];split
    · omega
    · split
      · have := ih (n + 1);omega
      · omega
theorem arityS_le (s : ByteArray) (hs : s.size <= 140737488355328) : -1 <= kR s /\ kR s <= 140737488355329 := by
  have hlen := kT s;unfold kR;generalize kB s = l at hlen;have h1 := keysL_le (kj l) 0;have h2 := pieces_len l;cases l with
  | nil => decide
  | cons c r =>
    unfold arityL;dsimp only;split
    · omega
    · split
      · split <;> omega
      · omega
theorem superR_spec (k : Nat) (s : ByteArray) (c2 c3 c4 c5 c6 c7 c8 c9 c10 : Value) : Fun Tryz.prog 119 [.agg #[cv k, .string s, c2, c3, c4, c5, c6, c7, c8, c9, c10]] [] (fun v Post => v = .bool (wJ k s) /\ Post = []) := by
  refine Fun.intro low119 (by simp [n119]) ?_;refine GOH ?_;refine kS Zr (fun q => ?_);simp only [Value.cells];refine GOH ?_;by_cases h1 : k = 2
  · rw [show decide ((k : Int) = 2) = true from Zt Zo];refine GOH ?_;refine kC (Post := []) (.inr rfl) (.tmp Zr .nil) ⟨?_, rfl⟩ ZI;have : (s = ⟨#[115, 117, 112, 101, 114]⟩) ↔ kB s = [115, 117, 112, 101, 114] := ⟨fun e => by rw [e];rfl, fun e => kq (by rw [e];rfl)⟩;simp [tup, wJ, h1, this]
  · rw [show decide ((k : Int) = 2) = false from Zf Zo];refine GOH ?_;refine kC (Post := []) (.inr rfl) (.tmp Zr .nil) ⟨by simp [tup, wJ, h1], rfl⟩ ZI
theorem size0 {s : ByteArray} : s.size = 0 ↔ s = ⟨#[]⟩ := ⟨fun e => kq (by rw [List.length_eq_zero_iff.1 ((kT s).trans e)];rfl), fun e => by rw [e];rfl⟩
def litZK (lk : Nat) (ln : Int) (lb : Nat) (lt : ByteArray) (lm : Nat) : Bool := decide (lk = 0 /\ ln = 0 /\ lb = 0 /\ lt.size = 0 /\ lm = 0)
theorem none_spec (k : Nat) (s : ByteArray) (lk : Nat) (ln : Int) (lb : Nat) (lt : ByteArray) (la : Option Addr) (lm lc : Nat) (aa : Option Addr) (am ac : Nat) (ta : Option Addr) (tm tc : Nat) (c9 c10 : Value) :
    Fun Tryz.prog 142 [.agg #[cv k, .string s, cv lk, vi ln, uv lb, .string lt, .slice la lm lc, .slice aa am ac, .slice ta tm tc, c9, c10]] [] (fun v Post => v = .bool (litZK lk ln lb lt lm && decide (s.size = 0 /\ am = 0 /\ tm = 0)) /\ Post = []) := by
  refine Fun.intro low142 (by simp [n142]) ?_;refine GOH ?_;refine kS Zr (fun q => ?_);simp only [Value.cells];refine GOH ?_;by_cases h1 : s.size = 0;rotate_left
  · rw [show decide (s = ⟨#[]⟩) = false from Zf (by first | exact fun e => h1 (size0.2 e) | exact size0.1 h1)];refine GOH ?_;exact kC (Post := []) (.inr rfl) (.tmp Zr .nil) ⟨by simp [tup, litZK, h1], rfl⟩ ZI
  rw [show decide (s = ⟨#[]⟩) = true from Zt (by first | exact fun e => h1 (size0.2 e) | exact size0.1 h1)];refine GOH ?_;by_cases h2 : lk = 0;rotate_left
  · rw [show decide ((lk : Int) = 0) = false from Zf Zo];refine GOH ?_;exact kC (Post := []) (.inr rfl) (.tmp Zr .nil) ⟨by simp [tup, litZK, h2], rfl⟩ ZI
  rw [show decide ((lk : Int) = 0) = true from Zt Zo];refine GOH ?_;by_cases h3 : ln = 0;rotate_left
  · rw [show decide (ln = 0) = false from Zf (by assumption)];refine GOH ?_;exact kC (Post := []) (.inr rfl) (.tmp Zr .nil) ⟨by simp [tup, litZK, h3], rfl⟩ ZI
  rw [show decide (ln = 0) = true from Zt (by assumption)];refine GOH ?_;by_cases h4 : lb = 0;rotate_left
  · rw [show decide ((lb : Int) = 0) = false from Zf Zo];refine GOH ?_;exact kC (Post := []) (.inr rfl) (.tmp Zr .nil) ⟨by simp [tup, litZK, h4], rfl⟩ ZI
  rw [show decide ((lb : Int) = 0) = true from Zt Zo];refine GOH ?_;by_cases h5 : lt.size = 0;rotate_left
  · rw [show decide (lt = ⟨#[]⟩) = false from Zf (by first | exact fun e => h5 (size0.2 e) | exact size0.1 h5)];refine GOH ?_;exact kC (Post := []) (.inr rfl) (.tmp Zr .nil) ⟨by simp [tup, litZK, h5], rfl⟩ ZI
  rw [show decide (lt = ⟨#[]⟩) = true from Zt (by first | exact fun e => h5 (size0.2 e) | exact size0.1 h5)];refine GOH ?_;by_cases h6 : lm = 0;rotate_left
  · rw [show decide ((lm : Int) = 0) = false from Zf Zo];refine GOH ?_;exact kC (Post := []) (.inr rfl) (.tmp Zr .nil) ⟨by simp [tup, litZK, h6], rfl⟩ ZI
  rw [show decide ((lm : Int) = 0) = true from Zt Zo];refine GOH ?_;by_cases h7 : am = 0;rotate_left
  · rw [show decide ((am : Int) = 0) = false from Zf Zo];refine GOH ?_;exact kC (Post := []) (.inr rfl) (.tmp Zr .nil) ⟨by simp [tup, litZK, h7], rfl⟩ ZI
  rw [show decide ((am : Int) = 0) = true from Zt Zo];refine GOH ?_;refine kC (Post := []) (.inr rfl) (.tmp Zr .nil) ⟨?_, rfl⟩ ZI;simp only [tup, litZK, h1, h2, h3, h4, h5, h6, h7, true_and, decide_true, Bool.true_and, Value.bool.injEq];exact decide_eq_decide.2 ⟨fun h => by omega, fun h => by omega⟩
structure OneS where
  ok : Bool
  n : Int
  s : ByteArray
  lk : Nat
  ln : Int
  lb : Nat
  lt : ByteArray
  la : Option Addr
  lm : Nat
  lc : Nat
  aa : Option Addr
  am : Nat
  ac : Nat
  ta : Option Addr
  tm : Nat
  tc : Nat
theorem one_spec (A : List kE) (hE : ErA A) (x : Nd) (hb : x.w <= 274877906944) (vs : List Value) (h : kf A x vs) : Fun Tryz.prog 118 [.agg vs.toArray] [A] (fun v Post => v = .tuple #[.bool (wO x.kind x.name x.lit x.args x.temps x.kids.length), vi (zJ x.kind x.name)] /\ Post = [A]) := by
  have h0 := h;cases h with
  | @mk k s lit args temps kids p lv av tv a c bk o us wf hl hav htv ha hm hr hcp =>
  simp only [Nd.w] at hb;have hlit := literalR_spec A hE _ lit (Nat.le_refl _) Zo lv hl false;have hfa := frees_spec A av args hav;have hft := frees_spec A tv temps htv;simp only [Nd.kind, Nd.name, Nd.lit, Nd.args, Nd.temps, Nd.kids];have hll := hl.len;cases hl with
  | @mk lk ln lb lt items la lc lbk lo lus lwf lha lhm lhr =>
  obtain ⟨aa, ac, rfl, hal, har⟩ := hav;obtain ⟨ta, tc, rfl, htl, htr⟩ := htv;have hk256 := wf.kind;have hsz := wf.name;have hmany := wf.many;have hZ : ji (.mk lk ln lb lt items) = litZK lk ln lb lt items.length := rfl;refine Fun.intro low118 (by simp [n118]) ?_;simp only [CNx];refine j7 ?_;refine kS Zr (fun q => ?_);simp only [Value.cells];refine j7 ?_;refine VC.join (α := OneS) (fun z => [(1, kN q), (4, .bool z.ok), (5, vi z.n)]) (fun z => [A, kA q 0 [cv k, .string z.s, cv z.lk, vi z.ln, uv z.lb, .string z.lt, .slice z.la z.lm z.lc, .slice z.aa z.am z.ac, .slice z.ta z.tm z.tc, .slice a kids.length c, vi p]])
    (fun z => wO k s (.mk lk ln lb lt items) args temps kids.length = (z.ok && (litZK z.lk z.ln z.lb z.lt z.lm && decide (z.s.size = 0 /\ z.am = 0 /\ z.tm = 0))) /\ zJ k s = z.n) ?_ ?_
  · have hz : (⟨#[]⟩ : ByteArray).size = 0 := rfl;by_cases k1 : k = 1
    · subst k1;refine GOH ?_;refine kD hlit Zr ZP (fun v Post hv => ?_);obtain ⟨rfl, rfl⟩ := hv;simp only [CNx];refine GOH ?_;refine ⟨⟨(kn (.mk lk ln lb lt items) false).isSome, 0, s, 0, 0, 0, ⟨#[]⟩, none, 0, 0, aa, args.length, ac, ta, temps.length, tc⟩, ⟨?_, rfl⟩, ZU, by show Imp _ [A, kA q 0 [cv 1, .string s, .int .u8 0, .int .i64 0, .int .u64 0, .string ⟨#[]⟩, .slice none 0 0, .slice aa args.length ac, .slice ta temps.length tc, .slice a kids.length c, vi p]];exact IMx⟩;simp [wO, litZK, hz]
    by_cases k2 : k = 2
    · subst k2;refine GOH ?_;refine kH (nameR_spec s hsz) Zr ?_;refine GOH ?_;refine ⟨⟨nameS s, 0, ⟨#[]⟩, lk, ln, lb, lt, la, items.length, lc, aa, args.length, ac, ta, temps.length, tc⟩, ⟨?_, rfl⟩, ZU, ZI⟩;simp only [hz];simp [wO, hZ, Bool.and_assoc]
    by_cases k3 : k = 3
    · subst k3;refine GOH ?_;refine kH (freeR_spec s hsz) Zr ?_;refine GOH ?_;refine ⟨⟨jH s, 1, ⟨#[]⟩, lk, ln, lb, lt, la, items.length, lc, aa, args.length, ac, ta, temps.length, tc⟩, ⟨?_, rfl⟩, ZU, ZI⟩;simp only [hz];simp [wO, hZ, Bool.and_assoc]
    have hag : -1 <= kR s /\ kR s <= 140737488355329 := arityS_le s hsz;by_cases k4 : k = 4
    · subst k4;refine GOH ?_;refine kH (arityR_spec s hsz) Zr ?_;obtain ⟨z, hzz⟩ : ∃ z, kR s = z := ⟨_, rfl⟩;rw [hzz] at hag |-;refine GOH ?_;refine ⟨⟨decide (z + 1 > 0), z + 1, ⟨#[]⟩, lk, ln, lb, lt, la, items.length, lc, aa, args.length, ac, ta, temps.length, tc⟩, ⟨?_, by simp [zJ, hzz]⟩, ZU, ZI⟩;simp only [hz];rw [show decide (z + 1 > 0) = decide (0 <= z) from decide_eq_decide.2 ⟨fun h => by omega, fun h => by omega⟩];simp [wO, hZ, hzz, Bool.and_assoc]
    by_cases k5 : k = 5
    · subst k5;refine GOH ?_;refine ⟨⟨decide ((kids.length : Int) > 2), -1, s, lk, ln, lb, lt, la, items.length, lc, aa, args.length, ac, ta, temps.length, tc⟩, ⟨?_, rfl⟩, ZU, ZI⟩;rw [show decide ((kids.length : Int) > 2) = decide (2 < kids.length) from decide_eq_decide.2 ⟨fun h => by omega, fun h => by omega⟩];simp [wO, hZ, Bool.and_assoc]
    by_cases k6 : k = 6
    · subst k6;refine GOH ?_;refine kH (arityR_spec s hsz) Zr ?_;obtain ⟨z, hzz⟩ : ∃ z, kR s = z := ⟨_, rfl⟩;rw [hzz] at hag |-;refine GOH ?_;refine ⟨⟨decide (z ≥ 0), z, ⟨#[]⟩, lk, ln, lb, lt, la, items.length, lc, aa, args.length, ac, ta, temps.length, tc⟩, ⟨?_, by simp [zJ, hzz]⟩, ZU, ZI⟩;simp only [hz];rw [show decide (z ≥ 0) = decide (0 <= z) from rfl];simp [wO, hZ, hzz, Bool.and_assoc]
    by_cases k7 : k = 7
    · subst k7;refine GOH ?_;refine kD hfa Zr ZP (fun v Post hv => ?_);obtain ⟨rfl, rfl⟩ := hv;simp only [CNx];cases hfa0 : args.all jH with
      | false =>
        refine GOH ?_;refine ⟨⟨false, -1, s, lk, ln, lb, lt, la, items.length, lc, none, 0, 0, none, 0, 0⟩, ⟨?_, rfl⟩, ZU, ZI⟩;simp [wO, hfa0]
      | true =>
        refine GOH ?_;refine kD hft Zr ZP (fun v Post hv => ?_);obtain ⟨rfl, rfl⟩ := hv;simp only [CNx];refine GOH ?_;refine ⟨⟨temps.all jH, -1, s, lk, ln, lb, lt, la, items.length, lc, none, 0, 0, none, 0, 0⟩, ⟨?_, rfl⟩, ZU, ZI⟩;simp only [wO, hfa0, hZ, show ¬ (7 : Nat) = 1 by omega, show ¬ (7 : Nat) = 2 by omega, show ¬ (7 : Nat) = 3 by omega, show ¬ (7 : Nat) = 4 by omega, show ¬ (7 : Nat) = 5 by omega, show ¬ (7 : Nat) = 6 by omega, if_false, if_true, Bool.true_and, and_self, and_true, Bool.and_assoc]
    by_cases k8 : k = 8
    · subst k8;refine GOH ?_;refine ⟨⟨true, -1, s, lk, ln, lb, lt, la, items.length, lc, aa, args.length, ac, ta, temps.length, tc⟩, ⟨?_, rfl⟩, ZU, ZI⟩;simp [wO, hZ]
    by_cases k9 : k = 9
    · subst k9;refine GOH ?_;refine ⟨⟨true, 1, s, lk, ln, lb, lt, la, items.length, lc, aa, args.length, ac, ta, temps.length, tc⟩, ⟨?_, rfl⟩, ZU, ZI⟩;simp [wO, hZ]
    refine GOH ?_;rw [show decide ((k : Int) = 1) = false from Zf Zo];refine GOH ?_;rw [show decide ((k : Int) = 2) = false from Zf Zo];refine GOH ?_;rw [show decide ((k : Int) = 3) = false from Zf Zo];refine GOH ?_;rw [show decide ((k : Int) = 4) = false from Zf Zo];refine GOH ?_;rw [show decide ((k : Int) = 5) = false from Zf Zo];refine GOH ?_;rw [show decide ((k : Int) = 6) = false from Zf Zo];refine GOH ?_;rw [show decide ((k : Int) = 7) = false from Zf Zo];refine GOH ?_;rw [show decide ((k : Int) = 8) = false from Zf Zo];refine GOH ?_;rw [show decide ((k : Int) = 9) = false from Zf Zo];refine GOH ?_;refine ⟨⟨false, 0, s, lk, ln, lb, lt, la, items.length, lc, aa, args.length, ac, ta, temps.length, tc⟩, ⟨?_, ?_⟩, ZU, ZI⟩
    · simp [wO, k1, k2, k3, k4, k5, k6, k7, k8, k9]
    · simp [zJ, k1, k2, k3, k4, k5, k6, k7, k8, k9]
  · rintro ⟨ok, n, s', lk', ln', lb', lt', la', lm', lc', aa', am', ac', ta', tm', tc'⟩ ⟨hq1, hq2⟩
    simp only at hq1 hq2;dsimp only;rw [hq1, hq2];have hn := none_spec k s' lk' ln' lb' lt' la' lm' lc' aa' am' ac' ta' tm' tc' (.slice a kids.length c) (vi p);cases ok with
    | true =>
      refine GOH ?_;refine kH hn Zr ?_;refine GOH ?_;exact kC (Post := [A]) (.inr rfl) (.tmp Zr (.tmp Zr .nil)) ⟨rfl, rfl⟩ ZI
    | false =>
      refine GOH ?_;exact kC (Post := [A]) (.inr rfl) (.tmp Zr (.tmp Zr .nil)) ⟨rfl, rfl⟩ ZI
end Go.Proofs.YtmnmandpdadedaaGreatDoor
namespace Go.Proofs.YtmnmandpdadedaaGreatDoor
open Go Go.V
set_option maxHeartbeats 1600000
set_option maxRecDepth 100000
theorem keys_last : ∀ (N : Nat) (l : List Nat), l.length <= N -> l ≠ [] -> ∀ n : Nat, 0 <= wy (kj l) n -> l.getLast? = some 58 := by
  intro N
  induction N with
  | zero => intro l hl h0;exact absurd (List.length_eq_zero_iff.1 Zo) h0
  | succ N ih =>
    intro l hl h0 n h;rw [keys_step h0] at h;split at h
    · rename_i hc;have hw : wT l < l.length := by
        rcases Nat.lt_or_ge (wT l) l.length with h1 | h1
        · exact h1
        · have := hc.2;rw [List.getD_eq_getElem?_getD, List.getElem?_eq_none h1] at this;cases this
      have hget : l[wT l]? = some 58 := by
        have := hc.2;rw [List.getD_eq_getElem?_getD, Zg hw] at this;rw [Zg hw];simpa using this
      by_cases hr : l.drop (wT l + 1) = []
      · have : l.length <= wT l + 1 := by simpa using hr
        rw [List.getLast?_eq_getElem?, show l.length - 1 = wT l by omega, hget]
      · have h2 := ih (l.drop (wT l + 1)) (by rw [List.length_drop];omega) hr (n + 1) h;rw [List.getLast?_drop] at h2;split at h2
        · cases h2
        · exact h2
    · omega
theorem arity_last {s : ByteArray} (h : 1 < kR s) : (kB s).getLast? = some 58 := by
  unfold kR at h;generalize kB s = l at h |-;cases l with
  | nil => exact absurd h Zd
  | cons c r =>
    unfold arityL at h;dsimp only at h;split at h
    · omega
    · split at h
      · split at h <;> omega
      · exact keys_last _ _ (Nat.le_refl _) Zs 0 Zo
theorem bindR_spec (s : ByteArray) (hs : s.size <= 140737488355328) (ha : 0 <= kR s) : Fun Tryz.prog 120 [.string s] [] (fun v Post => v = vi (zf s) /\ Post = []) := by
  refine Fun.intro low120 (by simp [n120]) ?_;have hlen := kT s;have hl := @arity_last s;have hb : zf s = if kR s = 0 then 5 else if kR s = 1 /\ (kB s).getLast? ≠ some 58 then 4 else 3 := rfl;have hne : 0 < s.size := by
    rcases Nat.eq_zero_or_pos s.size with h2 | h2
    · have : kB s = [] := List.length_eq_zero_iff.1 Zo;unfold kR at ha;rw [this] at ha;exact absurd ha Zd
    · exact h2
  refine GOH ?_;refine kH (arityR_spec s hs) Zr ?_;obtain ⟨z, hz⟩ : ∃ z, kR s = z := ⟨_, rfl⟩;rw [hz] at hb ha hl |-;refine GOH ?_;by_cases h0 : z = 0
  · rw [Zt h0];rw [if_pos h0] at hb;refine GOH ?_;refine kC (Post := []) (.inr rfl) (.tmp Zr .nil) ⟨by rw [hb];rfl, rfl⟩ ZI
  rw [Zf h0];rw [if_neg h0] at hb;obtain ⟨c, hc, hc2⟩ := jQ (s := s) (i := s.size - 1) Zo;have hlast : (kB s).getLast? = some c.toNat := by rw [List.getLast?_eq_getElem?, hlen];exact hc2
  rw [hlast] at hb hl;refine GOH ?_;refine jY Zr Zr (j := s.size - 1) Zo hc ?_;refine GOH ?_;by_cases h58 : c.toNat = 58
  · rw [show decide ((c.toNat : Int) = 58) = true from Zt Zo];rw [if_neg (by simp [h58])] at hb;refine GOH ?_;refine kC (Post := []) (.inr rfl) (.tmp Zr .nil) ⟨by rw [hb];rfl, rfl⟩ ZI
  rw [show decide ((c.toNat : Int) = 58) = false from Zf Zo];have h1 : z = 1 := by
    rcases Int.lt_or_le 1 z with h | h
    · exact absurd (Option.some.inj (hl h)) h58
    · omega
  rw [if_pos ⟨h1, by simp [h58]⟩] at hb;refine GOH ?_;refine kC (Post := []) (.inr rfl) (.tmp Zr .nil) ⟨by rw [hb];rfl, rfl⟩ ZI
theorem levelR_spec (k : Nat) (s : ByteArray) (hs : s.size <= 140737488355328) (ha : k = 4 -> 0 <= kR s) (c2 c3 c4 c5 c6 c7 c8 c9 c10 : Value) : Fun Tryz.prog 81 [.agg #[cv k, .string s, c2, c3, c4, c5, c6, c7, c8, c9, c10]] [] (fun v Post => v = vi (zl k s) /\ Post = []) := by
  refine Fun.intro low81 (by simp [n81]) ?_;refine GOH ?_;refine kS Zr (fun q => ?_);simp only [Value.cells];refine GOH ?_;by_cases h3 : k = 3
  · subst h3;refine GOH ?_;refine kC (Post := []) (.inr rfl) (.tmp Zr .nil) ⟨rfl, rfl⟩ ZI
  rw [show decide ((k : Int) = 3) = false from Zf Zo];refine GOH ?_;by_cases h5 : k = 5
  · subst h5;refine GOH ?_;refine kC (Post := []) (.inr rfl) (.tmp Zr .nil) ⟨rfl, rfl⟩ ZI
  rw [show decide ((k : Int) = 5) = false from Zf Zo];refine GOH ?_;by_cases h4 : k = 4
  · subst h4;refine GOH ?_;refine kH (bindR_spec s hs (ha rfl)) Zr ?_;refine GOH ?_;refine kC (Post := []) (.inr rfl) (.tmp Zr .nil) ⟨rfl, rfl⟩ ZI
  rw [show decide ((k : Int) = 4) = false from Zf Zo];refine GOH ?_;refine kC (Post := []) (.inr rfl) (.tmp Zr .nil) ⟨by simp [tup, zl, h3, h4, h5], rfl⟩ ZI
theorem litMany_spec (A : List kE) : ∀ (N : Nat) (x : Lt), x.size <= N -> ∀ vs, zL A x vs -> Fun Tryz.prog 108 [.agg vs.toArray] [A] (fun v Post => v = .bool (litM x) /\ Post = [A]) := by
  intro N
  induction N with
  | zero => intro x hx;have := x.size_pos;omega
  | succ N ih =>
    intro x hx vs hvs;cases hvs with
    | @mk k n b t items a c bk o us wf ha hm hr =>
    simp only [Lt.size] at hx;have hmany := wf.many;have htx := wf.text;have hk256 := wf.kind;have hall : litM (.mk k n b t items) = (decide (255 < items.length) || (decide (k = 11) && decide (255 < t.size)) || items.any litM) := by simp only [litM, litMs_eq]
    rw [hall];refine Fun.intro low108 (by simp [n108]) ?_;refine j7 ?_;refine kS Zr (fun q => ?_);simp only [Value.cells];refine j7 ?_;refine VC.join (α := Unit) (fun _ => [(1, kN q)]) (fun _ => [A, kA q 0 [cv k, vi n, uv b, .string t, .slice a items.length c]]) (fun _ => (decide (255 < items.length) || (decide (k = 11) && decide (255 < t.size))) = false) ?_ ?_
    · refine GOH ?_;by_cases h1 : 255 < items.length
      · rw [show decide ((items.length : Int) > 255) = true from Zt Zo];refine GOH ?_;exact kC (Post := [A]) (.inr rfl) (.tmp Zr .nil) ⟨by simp [tup, h1], rfl⟩ ZI
      rw [show decide ((items.length : Int) > 255) = false from Zf Zo];refine GOH ?_;by_cases h2 : k = 11;rotate_left
      · rw [show decide ((k : Int) = 11) = false from Zf Zo];refine GOH ?_;exact ⟨(), by simp [h1, h2], ZU, ZI⟩
      rw [show decide ((k : Int) = 11) = true from Zt Zo];refine GOH ?_;by_cases h3 : 255 < t.size
      · rw [show decide ((t.size : Int) > 255) = true from Zt Zo];refine GOH ?_;exact kC (Post := [A]) (.inr rfl) (.tmp Zr .nil) ⟨by simp [tup, h2, h3], rfl⟩ ZI
      rw [show decide ((t.size : Int) > 255) = false from Zf Zo];refine GOH ?_;exact ⟨(), by simp [h1, h3], ZU, ZI⟩
    rintro ⟨⟩ h1
    rw [h1, Bool.false_or];refine GOH ?_;refine VC.loop (α := Nat) (Γf := fun j => [(1, kN q), (3, vi j)]) (Hf := fun _ => [A, kA q 0 [cv k, vi n, uv b, .string t, .slice a items.length c]])
      (I := fun j => j <= items.length /\ (items.take j).any litM = false) (μ := fun j => items.length - j) 0 ⟨Nat.zero_le _, rfl⟩ ZU ZI ?_
    rintro j ⟨i1, i2⟩
    refine GOH ?_;by_cases hj : j < items.length;rotate_left
    · rw [show decide ((j : Int) < (items.length : Int)) = false from Zf Zo];rw [List.take_of_length_le Zo] at i2;refine GOH ?_;exact kC (Post := [A]) (.inr rfl) (.tmp Zr .nil) ⟨by rw [i2];rfl, rfl⟩ ZI
    rw [show decide ((j : Int) < (items.length : Int)) = true from Zt Zo];obtain rfl := ha Zo;obtain ⟨y, hy⟩ : ∃ y, items[j]? = some y := ⟨_, Zg hj⟩;have hyr := hr j y hy;have hym := hm j hj;have hy1 := Lt.sizes_mem (Zv hy);have hcall := ih y Zo _ hyr;have hyl := hyr.len;generalize us j = uj at hyr hym hcall hyl;have htk : items.take (j + 1) = items.take j ++ [y] := by rw [List.take_add_one, hy];rfl
    refine GOH ?_;refine kL Zr Zah hyl ?_;refine GOH ?_;refine kD hcall Zr ZP (fun v Post hv => ?_);obtain ⟨rfl, rfl⟩ := hv;simp only [CNx];cases hmy : litM y with
    | true =>
      have : items.any litM = true := List.any_eq_true.2 ⟨y, Zv hy, hmy⟩;refine GOH ?_;exact kC (Post := [A]) (.inr rfl) (.tmp Zr .nil) ⟨by rw [this];rfl, rfl⟩ ZI
    | false =>
      refine GOH ?_;exact ⟨j + 1, ⟨Zo, by rw [htk];simp [i2, hmy]⟩, Zo, ZU, ZI⟩
theorem mx_append {α : Type} (f : α -> Nat) (l r : List α) : mx f (l ++ r) = max (mx f l) (mx f r) := by
  induction l with
  | nil => simp [mx]
  | cons x l ih => simp only [List.cons_append, mx, ih];omega
theorem litDp_le : ∀ (N : Nat) (x : Lt), x.size <= N -> wh x <= x.size := by
  intro N
  induction N with
  | zero => intro x hx;have := x.size_pos;omega
  | succ N ih =>
    intro x hx;cases x with
    | mk k n b t items =>
    simp only [Lt.size] at hx |-;simp only [wh, litDps_eq];split
    · have := mx_le (f := wh) (K := Lt.sizes items) (l := items) fun y hy => by
        have h1 := Lt.sizes_mem hy;have h2 := ih y Zo;omega
      omega
    · omega
theorem litDepth_spec (A : List kE) : ∀ (N : Nat) (x : Lt), x.size <= N -> x.size <= 1099511627776 -> ∀ vs, zL A x vs -> Fun Tryz.prog 109 [.agg vs.toArray] [A] (fun v Post => v = vi (wh x) /\ Post = [A]) := by
  intro N
  induction N with
  | zero => intro x hx;have := x.size_pos;omega
  | succ N ih =>
    intro x hx hb vs hvs;cases hvs with
    | @mk k n b t items a c bk o us wf ha hm hr =>
    simp only [Lt.size] at hx hb;have hmany := wf.many;have hk256 := wf.kind;refine Fun.intro low109 (by simp [n109]) ?_;simp only [wh, litDps_eq];refine GOH ?_;refine kS Zr (fun q => ?_);simp only [Value.cells];refine GOH ?_;by_cases h10 : k = 10;rotate_left
    · rw [if_neg h10, show decide ((k : Int) = 10) = false from Zf Zo];refine GOH ?_;exact kC (Post := [A]) (.inr rfl) (.tmp Zr .nil) ⟨rfl, rfl⟩ ZI
    rw [if_pos h10, show decide ((k : Int) = 10) = true from Zt Zo];refine GOH ?_;refine VC.loop (α := Nat) (Γf := fun j => [(1, kN q), (3, vi (mx wh (items.take j))), (4, vi j)]) (Hf := fun _ => [A, kA q 0 [cv k, vi n, uv b, .string t, .slice a items.length c]])
      (I := fun j => j <= items.length) (μ := fun j => items.length - j) 0 (Nat.zero_le _) ZU ZI ?_
    rintro j i1
    have hle := mx_le (f := wh) (K := Lt.sizes items) (l := items.take j) fun y hy => by
      have h1 := Lt.sizes_mem (List.mem_of_mem_take hy);have h2 := litDp_le _ y (Nat.le_refl _);omega
    by_cases hj : j < items.length;rotate_left
    · rw [List.take_of_length_le Zo] at hle |-;generalize mx wh items = M at hle |-;refine GOH ?_;rw [show decide ((j : Int) < (items.length : Int)) = false from Zf Zo];refine GOH ?_;exact kC (Post := [A]) (.inr rfl) (.tmp Zr .nil) ⟨rfl, rfl⟩ ZI
    obtain rfl := ha Zo;obtain ⟨y, hy⟩ : ∃ y, items[j]? = some y := ⟨_, Zg hj⟩;have hyr := hr j y hy;have hym := hm j hj;have hy1 := Lt.sizes_mem (Zv hy);have hcall := ih y Zo Zo _ hyr;have hyl := hyr.len;generalize us j = uj at hyr hym hcall hyl;have htk : mx wh (items.take (j + 1)) = max (mx wh (items.take j)) (wh y) := by rw [List.take_add_one, hy, mx_append];simp [mx]
    generalize mx wh (items.take j) = M at hle htk |-;have hly := litDp_le _ y (Nat.le_refl _);refine GOH ?_;rw [show decide ((j : Int) < (items.length : Int)) = true from Zt Zo];refine GOH ?_;refine kL Zr Zah hyl ?_;refine GOH ?_;refine kD hcall Zr ZP (fun v Post hv => ?_);obtain ⟨rfl, rfl⟩ := hv;simp only [CNx];generalize wh y = d at htk hly |-;refine GOH ?_;by_cases hd : M < d
    · rw [show decide ((d : Int) > (M : Int)) = true from Zt Zo];rw [show max M d = d by omega] at htk;refine GOH ?_;refine ⟨j + 1, Zo, Zo, by rw [htk];exact SUx, ZI⟩
    · rw [show decide ((d : Int) > (M : Int)) = false from Zf Zo];rw [show max M d = M by omega] at htk;refine GOH ?_;refine ⟨j + 1, Zo, Zo, by rw [htk];exact SUx, ZI⟩
end Go.Proofs.YtmnmandpdadedaaGreatDoor
namespace Go.Proofs.YtmnmandpdadedaaGreatDoor
open Go Go.V
set_option maxHeartbeats 1600000
set_option maxRecDepth 100000
theorem cntB_le (k : Nat) (s : ByteArray) (hs : s.size <= 140737488355328) : -1 <= zJ k s /\ zJ k s <= 140737488355330 := by
  have := arityS_le s hs;unfold zJ
  repeat' split
  all_goals omega
theorem Formed_spec (A : List kE) (hE : ErA A) : ∀ (N : Nat) (x : Nd), x.w <= N -> x.w <= 274877906944 -> ∀ vs, kf A x vs -> Fun Tryz.prog 79 [.agg vs.toArray] [A] (fun v Post => v = .bool (jB x) /\ Post = [A]) := by
  intro N
  induction N with
  | zero => intro x hx;have := x.w_pos;omega
  | succ N ih =>
    intro x hx hb vs h;have hone := one_spec A hE x hb vs h;obtain ⟨e1, e2, e3, e4, e5, e6, e7, e8, e9, e10, e11, e12, e13, a, cc, bk, o, us, hvs, hmany, ha, hm, hr⟩ := nd_at h;have hwx : Nd.ws x.kids + 1 <= x.w := by cases x;simp only [Nd.w, Nd.kids];omega
    have hsz : x.name.size <= 140737488355328 := by cases h with | mk wf => exact wf.name
    have hk256 : x.kind < 256 := by cases h with | mk wf => exact wf.kind
    have hform : jB x = (wO x.kind x.name x.lit x.args x.temps x.kids.length && !(decide (0 <= zJ x.kind x.name) && decide (zJ x.kind x.name ≠ x.kids.length)) && kh x.kind x.kids.length 0 x.kids) := by cases x;simp only [jB, Nd.kind, Nd.name, Nd.lit, Nd.args, Nd.temps, Nd.kids];rfl
    rw [hform];have hcl := cntB_le x.kind x.name hsz;generalize hOne : wO x.kind x.name x.lit x.args x.temps x.kids.length = on at hone |-;generalize hCnt : zJ x.kind x.name = cn at hone hcl |-;rw [hvs] at hone |-;generalize x.kind = k at hone hk256 |-;refine Fun.intro low79 (by simp [n79]) ?_;refine j7 ?_;refine kS Zr (fun q => ?_);simp only [Value.cells];refine j7 ?_;refine kD hone Zr ZP (fun v Post hv => ?_);obtain ⟨rfl, rfl⟩ := hv;simp only [CNx];refine j7 ?_;refine VC.join (α := Unit) (fun _ => [(1, kN q)]) (fun _ => [A, kA q 0 [cv k, .string x.name, cv e1, vi e2, uv e3, .string e4, .slice e5 e6 e7, .slice e8 e9 e10, .slice e11 e12 e13, .slice a x.kids.length cc, vi x.at_]]) (fun _ => (on && !(decide (0 <= cn) && decide (cn ≠ x.kids.length))) = true) ?_ ?_
    · refine GOH ?_;cases on with
      | false =>
        refine GOH ?_;exact kC (Post := [A]) (.inr rfl) (.tmp Zr .nil) ⟨by simp [tup], rfl⟩ ZI
      | true =>
        refine GOH ?_;by_cases h1 : 0 <= cn;rotate_left
        · skip
          rw [show decide (cn ≥ 0) = false from Zf Zo];refine GOH ?_;exact ⟨(), by simp [h1], ZU, ZI⟩
        rw [show decide (cn ≥ 0) = true from Zt Zo];refine GOH ?_;by_cases h2 : cn = x.kids.length
        · skip
          rw [show decide (cn = (x.kids.length : Int)) = true from Zt Zo];refine GOH ?_;exact ⟨(), by simp [h2], ZU, ZI⟩
        · skip
          rw [show decide (cn = (x.kids.length : Int)) = false from Zf Zo];refine GOH ?_;exact kC (Post := [A]) (.inr rfl) (.tmp Zr .nil) ⟨by simp [tup, h1, h2], rfl⟩ ZI
    rintro ⟨⟩ hok
    rw [hok, Bool.true_and];refine GOH ?_;refine VC.loop (α := Nat) (Γf := fun j => [(1, kN q), (5, vi j)]) (Hf := fun _ => [A, kA q 0 [cv k, .string x.name, cv e1, vi e2, uv e3, .string e4, .slice e5 e6 e7, .slice e8 e9 e10, .slice e11 e12 e13, .slice a x.kids.length cc, vi x.at_]])
      (I := fun j => j <= x.kids.length /\ kh k x.kids.length 0 x.kids = kh k x.kids.length j (x.kids.drop j)) (μ := fun j => x.kids.length - j) 0 ⟨Nat.zero_le _, rfl⟩ ZU ZI ?_
    rintro j ⟨i1, i2⟩
    refine GOH ?_;by_cases hj : j < x.kids.length;rotate_left
    · rw [show decide ((j : Int) < (x.kids.length : Int)) = false from Zf Zo];rw [List.drop_eq_nil_of_le Zo] at i2;refine GOH ?_;exact kC (Post := [A]) (.inr rfl) (.tmp Zr .nil) ⟨by rw [i2];rfl, rfl⟩ ZI
    rw [show decide ((j : Int) < (x.kids.length : Int)) = true from Zt Zo];obtain rfl := ha Zo;obtain ⟨y, hy⟩ : ∃ y, x.kids[j]? = some y := ⟨_, Zg hj⟩;have hyr := hr j y hy;have hym := hm j hj;have hyl := hyr.len;have hzw : y.w <= Nd.ws x.kids := Nd.ws_mem (Zv hy);have hcall := ih y Zo Zo _ hyr;have hdrop : x.kids.drop j = y :: x.kids.drop (j + 1) := by
      obtain ⟨h1, h2⟩ := List.getElem?_eq_some_iff.1 hy;rw [List.drop_eq_getElem_cons h1, h2]
    rw [hdrop] at i2;simp only [kh] at i2;generalize us j = uj at hyr hym hcall hyl;have hsn : jy y = wJ y.kind y.name := rfl;obtain ⟨f1, f2, f3, f4, f5, f6, f7, f8, f9, f10, f11, f12, f13, f14, f15, f16, f17, rfl, hys, hyk⟩ := km hyr;refine GOH ?_;refine kL Zr Zah rfl ?_;refine GOH ?_;refine kP (fun q6 => ?_);refine GOH ?_;refine kD hcall Zr ZP (fun v Post hv => ?_);obtain ⟨rfl, rfl⟩ := hv;simp only [CNx];generalize jB y = fy at i2 |-;refine GOH ?_;refine VO.bool 53 (decide (j = 0) && (decide (k = 4) || decide (k = 5))) Zr ?_ ?_
    · by_cases j0 : j = 0;rotate_left
      · skip
        rw [show decide ((j : Int) = 0) = false from Zf Zo];refine GOH ?_;exact ⟨by simp [j0], ZU, ZI⟩
      rw [show decide ((j : Int) = 0) = true from Zt Zo];refine GOH ?_;by_cases k4 : k = 4
      · skip
        rw [show decide ((k : Int) = 4) = true from Zt Zo];refine GOH ?_;exact ⟨by simp [j0, k4], ZU, ZI⟩
      rw [show decide ((k : Int) = 4) = false from Zf Zo];refine GOH ?_;by_cases k5 : k = 5
      · skip
        rw [show decide ((k : Int) = 5) = true from Zt Zo];refine GOH ?_;exact ⟨by simp [j0, k4, k5], ZU, ZI⟩
      rw [show decide ((k : Int) = 5) = false from Zf Zo];refine GOH ?_;exact ⟨by simp [j0, k4, k5], ZU, ZI⟩
    generalize hfst : (decide (j = 0) && (decide (k = 4) || decide (k = 5))) = fst;refine GOH ?_;refine VO.bool 64 (decide (j + 1 = x.kids.length) && decide (k = 7)) Zr ?_ ?_
    · by_cases j0 : j + 1 = x.kids.length;rotate_left
      · skip
        rw [show decide ((j : Int) = (x.kids.length : Int) - 1) = false from Zf Zo];refine GOH ?_;exact ⟨by simp [j0], ZU, ZI⟩
      rw [show decide ((j : Int) = (x.kids.length : Int) - 1) = true from Zt Zo];refine GOH ?_;by_cases k7 : k = 7
      · skip
        rw [show decide ((k : Int) = 7) = true from Zt Zo];refine GOH ?_;exact ⟨by simp [j0, k7], ZU, ZI⟩
      rw [show decide ((k : Int) = 7) = false from Zf Zo];refine GOH ?_;exact ⟨by simp [j0, k7], ZU, ZI⟩
    generalize hlst : (decide (j + 1 = x.kids.length) && decide (k = 7)) = lst;refine GOH ?_;refine VO.bool 71 (decide (k = 5) && decide (0 < j)) Zr ?_ ?_
    · by_cases k5 : k = 5;rotate_left
      · skip
        rw [show decide ((k : Int) = 5) = false from Zf Zo];refine GOH ?_;exact ⟨by simp [k5], ZU, ZI⟩
      rw [show decide ((k : Int) = 5) = true from Zt Zo];refine GOH ?_;by_cases j0 : 0 < j
      · skip
        rw [show decide ((j : Int) > 0) = true from Zt Zo];refine GOH ?_;exact ⟨by simp [k5, j0], ZU, ZI⟩
      rw [show decide ((j : Int) > 0) = false from Zf Zo];refine GOH ?_;exact ⟨by simp [k5, j0], ZU, ZI⟩
    generalize hmsg : (decide (k = 5) && decide (0 < j)) = msg;have hkb : kidB k x.kids.length j y = (!(wJ y.kind y.name && !fst) && !(decide (y.kind = 9) && !lst) && (decide (y.kind = 6) == msg)) := by
      unfold kidB;rw [hfst, hlst, hmsg, hsn]
    have hsup := superR_spec y.kind y.name (cv f1) (vi f2) (uv f3) (.string f4) (.slice f5 f6 f7) (.slice f8 f9 f10) (.slice f11 f12 f13) (.slice f14 f15 f16) (vi f17);generalize wJ y.kind y.name = su at hsup hkb;refine GOH ?_;refine VO.bool 97 (!(fy && kidB k x.kids.length j y)) Zr ?_ ?_
    · rw [hkb];cases fy with
      | false =>
        refine GOH ?_;exact ⟨Zs, ZU, ZI⟩
      | true =>
        refine GOH ?_;refine kH hsup Zr ?_;refine VO.bool 81 (su && !fst) Zr ?_ ?_
        · cases su with
          | false =>
            refine GOH ?_;exact ⟨Zs, ZU, ZI⟩
          | true =>
            refine GOH ?_;exact ⟨Zs, ZU, ZI⟩
        generalize (su && !fst) = b1;cases b1 with
        | true =>
          refine GOH ?_;exact ⟨Zs, ZU, ZI⟩
        | false =>
          refine GOH ?_;refine VO.bool 90 (decide (y.kind = 9) && !lst) Zr ?_ ?_
          · by_cases k9 : y.kind = 9
            · skip
              rw [show decide ((y.kind : Int) = 9) = true from Zt Zo];refine GOH ?_;exact ⟨by simp [k9], ZU, ZI⟩
            · skip
              rw [show decide ((y.kind : Int) = 9) = false from Zf Zo];refine GOH ?_;exact ⟨by simp [k9], ZU, ZI⟩
          generalize (decide (y.kind = 9) && !lst) = b2;cases b2 with
          | true =>
            refine GOH ?_;exact ⟨Zs, ZU, ZI⟩
          | false =>
            refine GOH ?_;refine ⟨?_, ZU, ZI⟩;rw [show decide ((y.kind : Int) = 6) = decide (y.kind = 6) from decide_eq_decide.2 ⟨fun h => by omega, fun h => by omega⟩];cases decide (y.kind = 6) <;> cases msg <;> rfl
    generalize (fy && kidB k x.kids.length j y) = good at i2 |-;cases good with
    | true =>
      refine GOH ?_;exact ⟨j + 1, ⟨Zo, by rw [i2];simp⟩, Zo, ZU, ZI⟩
    | false =>
      refine GOH ?_;exact kC (Post := [A]) (.inr rfl) (.tmp Zr .nil) ⟨by rw [i2];simp [tup], rfl⟩ ZI
end Go.Proofs.YtmnmandpdadedaaGreatDoor

/-
  The document's scanning: letters, names, binary selectors.
-/
import Derived.Test.YtmnmandpdadedaaGreatDoorT2
import Derived.Test.YtmnmandpdadedaaGreatDoorT1
import Derived.Test.YtmnmandpdadedaaGreatDoorT3
import Derived.Test.YtmnmandpdadedaaGreatDoorV5
set_option linter.unusedSimpArgs false
set_option linter.unusedVariables false
namespace Go.Proofs.YtmnmandpdadedaaGreatDoor
open Go Go.V
set_option maxHeartbeats 3200000
set_option maxRecDepth 100000
theorem dropN_cons {s : ByteArray} {j c : Nat} (h : (kB s)[j]? = some c) : (kB s).drop j = c :: (kB s).drop (j + 1) := by
  obtain ⟨h1, h2⟩ := List.getElem?_eq_some_iff.1 h;rw [List.drop_eq_getElem_cons h1, h2]
theorem dropN_nil {s : ByteArray} {j : Nat} (h : s.size <= j) : (kB s).drop j = [] := List.drop_eq_nil_of_le (by rw [kT];exact h)
theorem letterR_spec (c : Nat) (hc : c < 256) : Fun Tryz.prog 135 [cv c] [] (fun v Post => v = .bool (letB c) /\ Post = []) := by
  refine Fun.intro low135 (by simp [n135]) ?_
  (repeat' (first | refine GOPH ?_ | refine st_gcase Zr (fun _ => ?_) (fun _ => ?_) | refine st_pcase Zr (fun _ => ?_) (fun _ => ?_) | refine VC.seq_cond Zr (fun _ => ?_) (fun _ => ?_) | refine VC.cond Zr (fun _ => ?_) (fun _ => ?_)))
  all_goals refine ⟨.inr rfl, _, _, .tmp Zr .nil, ZI, ?_, rfl⟩
  all_goals (simp only [tup, letB, Value.bool.injEq, decide_eq_true_eq, decide_eq_false_iff_not] at *)
  all_goals (rw [Bool.eq_iff_iff];simp only [Bool.or_eq_true, Bool.and_eq_true, Bool.not_eq_true', decide_eq_true_eq, decide_eq_false_iff_not, true_iff, iff_true, reduceCtorEq, false_iff, iff_false];omega)
theorem digitR_spec (c : Nat) (hc : c < 256) : Fun Tryz.prog 137 [cv c] [] (fun v Post => v = .bool (jt c) /\ Post = []) := by
  refine Fun.intro low137 (by simp [n137]) ?_
  (repeat' (first | refine GOPH ?_ | refine st_gcase Zr (fun _ => ?_) (fun _ => ?_) | refine st_pcase Zr (fun _ => ?_) (fun _ => ?_) | refine VC.seq_cond Zr (fun _ => ?_) (fun _ => ?_) | refine VC.cond Zr (fun _ => ?_) (fun _ => ?_)))
  all_goals refine ⟨.inr rfl, _, _, .tmp Zr .nil, ZI, ?_, rfl⟩
  all_goals (simp only [tup, jt, Value.bool.injEq, decide_eq_true_eq, decide_eq_false_iff_not] at *)
  all_goals (rw [Bool.eq_iff_iff];simp only [Bool.or_eq_true, Bool.and_eq_true, Bool.not_eq_true', decide_eq_true_eq, decide_eq_false_iff_not, true_iff, iff_true, reduceCtorEq, false_iff, iff_false];omega)
theorem innerR_spec (c : Nat) (hc : c < 256) : Fun Tryz.prog 151 [cv c] [] (fun v Post => v = .bool (innB c) /\ Post = []) := by
  refine Fun.intro low151 (by simp [n151]) ?_;refine GOH ?_;refine kH (letterR_spec c hc) Zr ?_;cases hl : letB c with
  | true =>
    refine GOH ?_;refine ⟨.inr rfl, _, _, .tmp Zr .nil, ZI, ?_, rfl⟩;simp [tup, innB, hl]
  | false =>
    refine GOH ?_;refine kH (digitR_spec c hc) Zr ?_;refine GOH ?_;refine ⟨.inr rfl, _, _, .tmp Zr .nil, ZI, ?_, rfl⟩;simp [tup, innB, hl]
theorem atR_spec (s : ByteArray) (hs : s.size <= 140737488355328) (k : Nat) : Fun Tryz.prog 138 [.string s, vi k] [] (fun v Post => v = cv ((kB s).getD k 0) /\ Post = []) := by
  refine Fun.intro low138 (by simp [n138]) ?_;refine GOH ?_;by_cases h : k < s.size
  · rw [Zt Zo];obtain ⟨c, hc, hc2⟩ := jQ h;refine GOH ?_;refine jY Zr Zr (j := k) rfl hc ?_;refine GOH ?_;refine ⟨.inr rfl, _, _, .tmp Zr .nil, ZI, ?_, rfl⟩;simp [tup, List.getD_eq_getElem?_getD, hc2]
  · rw [Zf Zo];refine GOH ?_;refine ⟨.inr rfl, _, _, .tmp Zr .nil, ZI, ?_, rfl⟩;have : (kB s)[k]? = none := List.getElem?_eq_none (by rw [kT];omega);simp [tup, List.getD_eq_getElem?_getD, this]
def binBs : ByteArray := ⟨#[43, 45, 42, 47, 92, 126, 60, 62, 61, 64, 37, 38, 63, 44, 33]⟩
theorem binB_at (c : Nat) : binB c = (kB binBs).contains c := rfl
theorem binaryR_spec (c : Nat) (hc : c < 256) : Fun Tryz.prog 104 [cv c] [] (fun v Post => v = .bool (binB c) /\ Post = []) := by
  refine Fun.intro low104 (by simp [n104]) ?_;have hlen := kT binBs;have hsz : binBs.size = 15 := rfl;refine GOH ?_;refine VC.loop (α := Nat) (Γf := fun k => [(0, cv c), (3, .string binBs), (4, vi k)]) (Hf := fun _ => []) (I := fun k => k <= 15 /\ ∀ i, i < k -> (kB binBs)[i]? ≠ some c) (μ := fun k => 15 - k) 0 ⟨Nat.zero_le _, fun i h => by omega⟩ ZU Imp.nil ?_
  rintro k ⟨i1, i2⟩
  generalize hB : binBs = B at *;refine GOH ?_;by_cases hk : k < 15;rotate_left
  · rw [Zf Zo];refine GOH ?_;refine ⟨.inr rfl, _, _, .tmp Zr .nil, ZI, ?_, rfl⟩;have : binB c = false := by
      rw [binB_at, hB, Bool.eq_false_iff];intro h;obtain ⟨i, hi⟩ := List.getElem?_of_mem (List.contains_iff_mem.1 h);have hl := (List.getElem?_eq_some_iff.1 hi).1;exact i2 i Zo hi
    simp [tup, this]
  rw [Zt Zo];obtain ⟨d, hd, hd2⟩ := jQ (s := B) (i := k) Zo;refine GOH ?_;refine jY Zr Zr (j := k) rfl hd ?_;refine GOH ?_;by_cases he : d.toNat = c
  · rw [show decide ((d.toNat : Int) = (c : Int)) = true from Zt Zo];refine GOH ?_;refine ⟨.inr rfl, _, _, .tmp Zr .nil, ZI, ?_, rfl⟩;have : binB c = true := by
      rw [binB_at, hB];exact List.contains_iff_mem.2 (Zv (i := k) (by rw [hd2, he]))
    simp [tup, this]
  · rw [show decide ((d.toNat : Int) = (c : Int)) = false from Zf Zo];refine GOH ?_;refine ⟨k + 1, ⟨Zo, fun i hi => ?_⟩, Zo, ZU, Imp.nil⟩;by_cases e : i = k
    · subst e;rw [hd2];simpa using he
    · exact i2 i Zo
def wT (l : List Nat) : Nat := (l.takeWhile innB).length
theorem wordL_le (l : List Nat) : wT l <= l.length := (List.takeWhile_sublist _).length_le
theorem word_spec (s : ByteArray) (hs : s.size <= 140737488355328) (i : Nat) (hi : i <= s.size) : Fun Tryz.prog 136 [.string s, vi i] [] (fun v Post => v = vi (i + wT ((kB s).drop i) : Nat) /\ Post = []) := by
  refine Fun.intro low136 (by simp [n136]) ?_;refine GOH ?_;refine VC.loop (α := Nat) (Γf := fun k => [(0, .string s), (1, vi k)]) (Hf := fun _ => []) (I := fun k => k <= s.size /\ k + wT ((kB s).drop k) = i + wT ((kB s).drop i)) (μ := fun k => s.size - k) i ⟨hi, rfl⟩ ZU Imp.nil ?_
  rintro k ⟨i1, i2⟩
  refine GOH ?_;by_cases hk : k < s.size;rotate_left
  · rw [Zf Zo];rw [dropN_nil Zo] at i2;refine GOH ?_;refine ⟨.inr rfl, _, _, .tmp Zr .nil, ZI, ?_, rfl⟩;rw [<- i2];rfl
  rw [Zt Zo];obtain ⟨c, hc, hc2⟩ := jQ hk;refine GOH ?_;refine jY Zr Zr (j := k) rfl hc ?_;refine GOH ?_;refine kH (innerR_spec _ (zA s _ (Zv hc2))) Zr ?_;rw [dropN_cons hc2] at i2;cases hb : innB c.toNat with
  | false =>
    refine GOH ?_;refine ⟨.inr rfl, _, _, .tmp Zr .nil, ZI, ?_, rfl⟩;rw [<- i2];simp [tup, wT, hb]
  | true =>
    refine GOH ?_;refine ⟨k + 1, ⟨Zo, ?_⟩, Zo, ZU, Imp.nil⟩;rw [<- i2];simp [wT, hb];omega
theorem runL_sign {l : List Nat} {k c : Nat} (h : l[k]? = some c) : runL signOn (l.drop k) = if (binB c && (decide (c ≠ 45) || !jt (l.getD (k + 1) 0))) = true then 1 + runL signOn (l.drop (k + 1)) else 0 := by
  rw [<- signOn_drop h];obtain ⟨h1, h2⟩ := List.getElem?_eq_some_iff.1 h;rw [List.drop_eq_getElem_cons h1];rfl
theorem signR_spec (s : ByteArray) (hs : s.size <= 140737488355328) (i : Nat) (hi : i < s.size) : Fun Tryz.prog 105 [.string s, vi i] [] (fun v Post => v = vi (i + signL ((kB s).drop i) : Nat) /\ Post = []) := by
  refine Fun.intro low105 (by simp [n105]) ?_;have hlen := kT s;obtain ⟨c0, hc0, hc02⟩ := jQ hi;have hd0 := dropN_cons hc02;refine GOH ?_;refine jY Zr Zr (j := i) rfl hc0 ?_;refine GOH ?_;by_cases h0 : c0.toNat = 124
  · rw [show decide ((c0.toNat : Int) = 124) = true from Zt Zo];refine GOH ?_;refine ⟨.inr rfl, _, _, .tmp Zr .nil, ZI, ?_, rfl⟩;rw [hd0];simp [tup, signL, h0]
  rw [show decide ((c0.toNat : Int) = 124) = false from Zf Zo];have hsl : signL ((kB s).drop i) = if binB c0.toNat = true then 1 + runL signOn ((kB s).drop (i + 1)) else 0 := by
    rw [hd0];simp only [signL, if_neg h0]
  refine GOH ?_;refine VC.loop (α := Nat) (Γf := fun k => [(0, .string s), (1, vi i), (5, vi k)]) (Hf := fun _ => []) (I := fun k => k <= s.size /\ (k = i ∨ (i < k /\ k + runL signOn ((kB s).drop k) = i + signL ((kB s).drop i)))) (μ := fun k => s.size - k) i ⟨Zo, .inl rfl⟩ ZU Imp.nil ?_
  rintro k ⟨i1, i2⟩
  refine GOH ?_;by_cases hk : k < s.size;rotate_left
  · rw [Zf Zo];rcases i2 with rfl | ⟨i2, i3⟩
    · omega
    rw [dropN_nil Zo] at i3;refine GOH ?_;refine ⟨.inr rfl, _, _, .tmp Zr .nil, ZI, ?_, rfl⟩;rw [<- i3];rfl
  rw [Zt Zo];obtain ⟨c, hc, hc2⟩ := jQ hk;refine GOH ?_;refine jY Zr Zr (j := k) rfl hc ?_;refine GOH ?_;refine kH (binaryR_spec _ (zA s _ (Zv hc2))) Zr ?_;have hrun := runL_sign hc2;have hi0 : k = i -> c = c0 := fun e => by subst e;rw [hc0] at hc;cases hc;rfl
  cases hb : binB c.toNat with
  | false =>
    refine GOH ?_;refine ⟨.inr rfl, _, _, .tmp Zr .nil, ZI, ?_, rfl⟩;rcases i2 with rfl | ⟨i2, i3⟩
    · rw [hsl, <- hi0 rfl, hb];rfl
    · rw [<- i3, hrun, hb];rfl
  | true =>
    rw [hb, Bool.true_and] at hrun;refine GOH ?_;rcases i2 with rfl | ⟨i2, i3⟩
    · rw [show decide ((k : Int) > (k : Int)) = false from Zf Zo];refine GOH ?_;refine ⟨k + 1, ⟨Zo, .inr ⟨Zo, ?_⟩⟩, Zo, ZU, Imp.nil⟩;rw [hsl, <- hi0 rfl, hb];simp only [if_true];omega
    rw [show decide ((k : Int) > (i : Int)) = true from Zt Zo];refine GOH ?_;refine jY Zr Zr (j := k) rfl hc ?_;refine GOH ?_;by_cases h45 : c.toNat = 45;rotate_left
    · rw [show decide ((c.toNat : Int) = 45) = false from Zf Zo];refine GOH ?_;refine ⟨k + 1, ⟨Zo, .inr ⟨Zo, ?_⟩⟩, Zo, ZU, Imp.nil⟩;rw [<- i3, hrun];simp [h45];omega
    rw [show decide ((c.toNat : Int) = 45) = true from Zt Zo];refine GOH ?_;refine kH (atR_spec s hs (k + 1)) Zr ?_;refine GOH ?_;refine kH (digitR_spec ((kB s).getD (k + 1) 0) (by
      rw [List.getD_eq_getElem?_getD];cases h : (kB s)[k + 1]? with
      | none => decide
      | some x => exact zA s _ (Zv h))) Zr ?_
    generalize (kB s).getD (k + 1) 0 = d at hrun |-;cases hdd : jt d with
    | true =>
      refine GOH ?_;refine ⟨.inr rfl, _, _, .tmp Zr .nil, ZI, ?_, rfl⟩;rw [<- i3, hrun];simp [tup, h45, hdd]
    | false =>
      refine GOH ?_;refine ⟨k + 1, ⟨Zo, .inr ⟨Zo, ?_⟩⟩, Zo, ZU, Imp.nil⟩;rw [<- i3, hrun];simp [hdd];omega
theorem wordL_all (l : List Nat) : l.all innB = decide (wT l = l.length) := by
  induction l with
  | nil => rfl
  | cons c r ih =>
    simp only [List.all_cons, wT, List.takeWhile_cons];cases hc : innB c with
    | false => simp
    | true =>
      simp only [Bool.true_and, if_true, List.length_cons, ih, wT, Nat.add_right_cancel_iff];exact decide_eq_decide.2 Iff.rfl
theorem nameR_spec (s : ByteArray) (hs : s.size <= 140737488355328) : Fun Tryz.prog 103 [.string s] [] (fun v Post => v = .bool (nameS s) /\ Post = []) := by
  refine Fun.intro low103 (by simp [n103]) ?_;have hlen := kT s;unfold nameS nameL;refine GOH ?_;by_cases h0 : s = ⟨#[]⟩
  · subst h0;refine GOH ?_;refine ⟨.inr rfl, _, _, .tmp Zr .nil, ZI, ?_, rfl⟩;rfl
  obtain ⟨c, r, hc, hr, hc256, hpos⟩ := bytesN_cons h0;rw [Zt (show (s.size : Int) > 0 by omega)];refine GOH ?_;by_cases h40 : s.size <= 40;rotate_left
  · rw [Zf Zo];refine GOH ?_;refine ⟨.inr rfl, _, _, .tmp Zr .nil, ZI, ?_, rfl⟩;have h2 : ¬ (c.toNat :: r).length <= 40 := by rw [<- hr];omega
    simp only [tup, hr, Zf h2, Bool.false_and]
  rw [Zt Zo];refine GOH ?_;refine jY Zr Zr (j := 0) rfl hc ?_;refine GOH ?_;refine kH (letterR_spec _ hc256) Zr ?_;cases hl : letB c.toNat with
  | false =>
    refine GOH ?_;refine ⟨.inr rfl, _, _, .tmp Zr .nil, ZI, ?_, rfl⟩;simp [tup, hr, hl]
  | true =>
    have hw := word_spec s hs 0 Zo;rw [List.drop_zero, Nat.zero_add] at hw;refine GOH ?_;refine kH hw Zr ?_;refine GOH ?_;refine ⟨.inr rfl, _, _, .tmp Zr .nil, ZI, ?_, rfl⟩;have h2 : (c.toNat :: r).length <= 40 := by rw [<- hr];omega
    have hall := wordL_all (kB s);rw [hr] at hall;simp only [tup, hr, Zt h2, hl, hall, Bool.true_and, Value.bool.injEq];rw [<- hr, hlen]
    (rw [Bool.eq_iff_iff];simp only [Bool.or_eq_true, Bool.and_eq_true, Bool.not_eq_true', decide_eq_true_eq, decide_eq_false_iff_not, true_iff, iff_true, reduceCtorEq, false_iff, iff_false];omega)
end Go.Proofs.YtmnmandpdadedaaGreatDoor
namespace Go.Proofs.YtmnmandpdadedaaGreatDoor
open Go Go.V
set_option maxHeartbeats 800000
set_option maxRecDepth 100000
def lessL : List Nat -> List Nat -> Bool
  | _, [] => false
  | [], _ :: _ => true
  | a :: x, b :: y => decide (a < b) || (decide (a = b) && lessL x y)
theorem less_bytes : ∀ (a b : List UInt8), Op.bytesLess a b = lessL (a.map UInt8.toNat) (b.map UInt8.toNat) := by
  intro a
  induction a with
  | nil => intro b;cases b <;> rfl
  | cons x a ih =>
    intro b;cases b with
    | nil => rfl
    | cons y b =>
      have e1 : decide (x < y) = decide (x.toNat < y.toNat) := decide_eq_decide.2 UInt8.lt_iff_toNat_lt;have e2 : (x == y) = decide (x.toNat = y.toNat) := by
        rw [Bool.eq_iff_iff, beq_iff_eq, decide_eq_true_eq];exact UInt8.toNat_inj.symm
      simp only [Op.bytesLess, List.map_cons, lessL, ih, e1, e2]
def numF (m : Nat) (l : List Nat) : Nat := l.foldl (fun n c => n * 10 + (c - 48)) m
theorem numF_cons (m c : Nat) (l : List Nat) : numF m (c :: l) = numF (m * 10 + (c - 48)) l := by simp only [numF, List.foldl_cons]
theorem numL_F (l : List Nat) : wq l = numF 0 l := by simp only [wq, numF]
theorem fold_lt : ∀ (a b : List Nat) (m n : Nat), a.length = b.length -> a.all jt = true -> m < n -> numF m a < numF n b := by
  intro a
  induction a with
  | nil => intro b m n h _ hm;cases b with
    | nil => exact hm
    | cons => cases h
  | cons c a ih =>
    intro b m n h hd hm;cases b with
    | nil => cases h
    | cons d b =>
      simp only [List.all_cons, Bool.and_eq_true] at hd;have hc := hd.1;simp only [jt, Bool.and_eq_true, decide_eq_true_eq] at hc;rw [numF_cons, numF_cons];exact ih b _ _ (by simpa using h) hd.2 Zo
theorem less_num : ∀ (a b : List Nat) (m : Nat), a.length = b.length -> a.all jt = true -> b.all jt = true -> lessL a b = decide (numF m a < numF m b) /\ (numF m a = numF m b -> a = b) := by
  intro a
  induction a with
  | nil => intro b m h _ _;cases b with
    | nil => simp [lessL]
    | cons => cases h
  | cons c a ih =>
    intro b m h hd hd2;cases b with
    | nil => cases h
    | cons d b =>
      simp only [List.all_cons, Bool.and_eq_true] at hd hd2;have hc := hd.1;have hdd := hd2.1;simp only [jt, Bool.and_eq_true, decide_eq_true_eq] at hc hdd;have hl : a.length = b.length := by simpa using h
      rw [numF_cons, numF_cons];simp only [lessL];rcases Nat.lt_trichotomy c d with h1 | h1 | h1
      · have := fold_lt a b (m * 10 + (c - 48)) (m * 10 + (d - 48)) hl hd.2 Zo;rw [Zt h1, Zt this];exact ⟨rfl, fun e => by omega⟩
      · subst h1;obtain ⟨i1, i2⟩ := ih b (m * 10 + (c - 48)) hl hd.2 hd2.2;rw [i1];exact ⟨Zs, fun e => by rw [i2 e]⟩
      · have := fold_lt b a (m * 10 + (d - 48)) (m * 10 + (c - 48)) hl.symm hd2.2 Zo;rw [Zf (show ¬ c < d by omega), Zf (show ¬ c = d by omega), Zf (show ¬ numF (m * 10 + (c - 48)) a < numF (m * 10 + (d - 48)) b by omega)];exact ⟨rfl, fun e => by omega⟩
theorem gtr_num (s t : ByteArray) (hl : s.size = t.size) (hs : (kB s).all jt = true) (ht : (kB t).all jt = true) : (!(Op.bytesLess s.toList t.toList || decide (s = t))) = decide (wq (kB t) < wq (kB s)) := by
  obtain ⟨h1, h2⟩ := less_num (kB s) (kB t) 0 (by rw [kT, kT, hl]) hs ht;rw [less_bytes, Lib.toList_data, Lib.toList_data, show s.data.toList.map UInt8.toNat = kB s from rfl, show t.data.toList.map UInt8.toNat = kB t from rfl, h1, numL_F, numL_F];by_cases e : s = t
  · subst e;simp
  · have hne : numF 0 (kB s) ≠ numF 0 (kB t) := fun h => e (kq (h2 h))
    simp only [e, decide_false, Bool.or_false]
    (rw [Bool.eq_iff_iff];simp only [Bool.or_eq_true, Bool.and_eq_true, Bool.not_eq_true', decide_eq_true_eq, decide_eq_false_iff_not, true_iff, iff_true, reduceCtorEq, false_iff, iff_false];omega)
def mostS (m : Bool) : ByteArray := if m then ⟨#[49, 49, 53, 50, 57, 50, 49, 53, 48, 52, 54, 48, 54, 56, 52, 54, 57, 55, 54]⟩ else ⟨#[49, 49, 53, 50, 57, 50, 49, 53, 48, 52, 54, 48, 54, 56, 52, 54, 57, 55, 53]⟩
theorem mostS_num (m : Bool) : (mostS m).size = 19 /\ (kB (mostS m)).all jt = true /\ wq (kB (mostS m)) = if m = true then 1152921504606846976 else 1152921504606846975 := by cases m <;> decide
theorem longer_spec (s t : ByteArray) (hs : s.size <= 140737488355328) (ht : t.size <= 140737488355328) (hds : (kB s).all jt = true) (hdt : (kB t).all jt = true) :
    Fun Tryz.prog 167 [.string s, .string t] [] (fun v Post => v = .bool (decide (t.size < s.size ∨ (s.size = t.size /\ wq (kB t) < wq (kB s)))) /\ Post = []) := by
  refine Fun.intro low167 (by simp [n167]) ?_;refine GOH ?_;by_cases h1 : t.size < s.size
  · rw [show decide ((s.size : Int) > (t.size : Int)) = true from Zt Zo];refine GOH ?_;refine ⟨.inr rfl, _, _, .tmp Zr .nil, ZI, ?_, rfl⟩;simp [tup, h1]
  rw [show decide ((s.size : Int) > (t.size : Int)) = false from Zf Zo];refine GOH ?_;by_cases h2 : s.size = t.size;rotate_left
  · rw [show decide ((s.size : Int) = (t.size : Int)) = false from Zf Zo];refine GOH ?_;refine ⟨.inr rfl, _, _, .tmp Zr .nil, ZI, ?_, rfl⟩;simp [tup, h1, h2]
  rw [show decide ((s.size : Int) = (t.size : Int)) = true from Zt Zo];refine GOH ?_;have hg := gtr_num s t h2 hds hdt;refine ⟨.inr rfl, _, _, .tmp Zr .nil, ZI, ?_, rfl⟩;simp only [tup, hg];simp [h1, h2]
theorem plainR_spec (s : ByteArray) (hs : s.size <= 140737488355328) : Fun Tryz.prog 159 [.string s] [] (fun v Post => ∃ t, v = .string t /\ kB t = jh (kB s) /\ t.size <= s.size /\ Post = []) := by
  refine Fun.intro low159 (by simp [n159]) ?_;refine GOH ?_;refine VC.loop (α := ByteArray) (Γf := fun t => [(0, .string t)]) (Hf := fun _ => []) (I := fun t => t.size <= s.size /\ jh (kB t) = jh (kB s)) (μ := fun t => t.size) s ⟨Nat.le_refl _, rfl⟩ ZU Imp.nil ?_
  rintro t ⟨i1, i2⟩
  have hlen := kT t;refine GOH ?_;have stop : jh (kB t) = kB t -> ∃ u, Value.string t = .string u /\ kB u = jh (kB s) /\ u.size <= s.size /\ ([] : SH) = [] := fun h => ⟨t, rfl, by rw [<- i2, h], i1, rfl⟩
  by_cases h1 : 1 < t.size;rotate_left
  · rw [show decide ((t.size : Int) > 1) = false from Zf Zo];have hst := stop (by
      match h : kB t with
      | [] => rfl
      | [c] => rw [jh.eq_2];intro c' r h';simp at h'
      | c :: d :: r => rw [h] at hlen;simp at hlen;omega)
    refine GOH ?_;exact kC (Post := []) (.inr rfl) (.tmp Zr .nil) hst Imp.nil
  rw [show decide ((t.size : Int) > 1) = true from Zt Zo];obtain ⟨c, hc, hc2⟩ := jQ (s := t) (i := 0) Zo;obtain ⟨d, hd, hd2⟩ := jQ (s := t) (i := 1) Zo;have hcd : kB t = c.toNat :: d.toNat :: (kB t).drop 2 := by
    rw [<- dropN_cons hd2, <- dropN_cons hc2];rfl
  refine GOH ?_;refine jY Zr Zr (j := 0) rfl hc ?_;refine GOH ?_;by_cases h48 : c.toNat = 48;rotate_left
  · rw [show decide ((c.toNat : Int) = 48) = false from Zf Zo];have hst := stop (by
      rw [hcd, jh.eq_2];intro c' r h';simp at h';exact h48 h'.1)
    refine GOH ?_;exact kC (Post := []) (.inr rfl) (.tmp Zr .nil) hst Imp.nil
  rw [show decide ((c.toNat : Int) = 48) = true from Zt Zo];refine GOH ?_;refine st_slcS (l := 1) (h := t.size) Zr (.num Zr) .dft ⟨Zo, Zo⟩ ?_;refine GOH ?_;refine ⟨t.extract 1 t.size, ⟨by rw [ByteArray.size_extract];omega, ?_⟩, by rw [ByteArray.size_extract];omega, ZU, Imp.nil⟩;rw [<- i2, jG, hcd, h48];rw [show (48 :: d.toNat :: (kB t).drop 2).take t.size = 48 :: d.toNat :: (kB t).drop 2 from List.take_of_length_le (by
    have := congrArg List.length hcd;rw [hlen] at this;simp at this |-;omega)]
  rfl
end Go.Proofs.YtmnmandpdadedaaGreatDoor
namespace Go.Proofs.YtmnmandpdadedaaGreatDoor
open Go Go.V
set_option maxHeartbeats 800000
set_option maxRecDepth 100000
theorem smallD_longer {t : ByteArray} (m : Bool) (hd : (kB t).all jt = true) : ((mostS m).size < t.size ∨ (t.size = (mostS m).size /\ wq (kB (mostS m)) < wq (kB t))) ↔ ¬ wV m (kB t) := by
  obtain ⟨h1, _, h3⟩ := mostS_num m;have hlen := kT t;have hlt := numL_lt (kB t) 0 0 (fun c hc => List.all_eq_true.1 hd c hc) Zd;rw [show (kB t).foldl (fun n c => n * 10 + (c - 48)) 0 = wq (kB t) by simp only [wq]] at hlt;rw [h1, h3];unfold wV;rw [hlen, Nat.zero_add] at *;by_cases hs : t.size < 19
  · have h4 : (10 : Nat) ^ t.size <= 10 ^ 18 := Nat.pow_le_pow_right Zo Zo;have h5 : (10 : Nat) ^ 18 = 1000000000000000000 := by decide
    cases m <;> simp <;> omega
  · cases m <;> simp <;> omega
theorem literal_spec (A : List kE) (hE : ErA A) (t : ByteArray) (h0 : kB t ≠ []) (hd : (kB t).all jt = true) (hl : t.size <= 255) (m : Bool) : Fun Tryz.prog 160 [.string t, .bool m] [A] (fun v Post => WholeQ m t v /\ Post = [A]) := by
  refine Fun.intro low160 (by simp [n160]) ?_;have hlen := kT t;have hcat : zg .add (.string ⟨#[45]⟩) (.string t) = some (.string (⟨#[45]⟩ ++ t)) := if_pos (by show 1 + t.size <= 9223372036854775807;omega);have hsm := smallD_longer m hd;obtain ⟨g1, g2, g3⟩ := mostS_num m;refine GOH ?_;refine kP (fun b => ?_);refine GOH ?_;by_cases hz : t = ⟨#[48]⟩
  · rw [Zt hz];refine GOH ?_;refine ⟨.inr rfl, _, _, .cellN (us := [cv 4, vi 0, uv 0, .string ⟨#[]⟩, .slice none 0 0]) Zr Zr Zag .nil, ZI, .inl ⟨?_, ?_⟩, rfl⟩
    · rw [hz];cases m <;> exact ⟨Zd, Zd⟩
    · rw [hz];cases m <;> rfl
  rw [Zf hz];refine GOH ?_;have hlo := longer_spec t (mostS m) Zo Zo hd g2;have hlo1 : wV m (kB t) -> Fun Tryz.prog 167 [.string t, .string (mostS m)] [] (fun v Post => v = .bool false /\ Post = []) := fun h => by
    rw [Zf (fun h2 => hsm.1 h2 h)] at hlo;exact hlo
  have hlo2 : ¬ wV m (kB t) -> Fun Tryz.prog 167 [.string t, .string (mostS m)] [] (fun v Post => v = .bool true /\ Post = []) := fun h => by
    rw [Zt (hsm.2 h)] at hlo;exact hlo
  have hbig : ∀ u : ByteArray, ¬ wV m (kB t) -> kB u = (if m = true then 45 :: kB t else kB t) -> WholeQ m t (.agg #[cv 5, vi 0, uv 0, .string u, .slice none 0 0]) := fun u h1 h2 => .inr ⟨h1, u, rfl, h2⟩
  cases m with
  | true =>
    refine GOH ?_;by_cases hsd : wV true (kB t);rotate_left
    · refine kH (hlo2 hsd) Zr ?_;refine GOH ?_;refine zT Zr Zr hcat ?_;refine GOH ?_;refine ⟨.inr rfl, _, _, .cellN (us := [cv 5, vi 0, uv 0, .string (⟨#[45]⟩ ++ t), .slice none 0 0]) Zr Zr Zag .nil, ZI, hbig _ hsd (by rw [bytesN_append];rfl), rfl⟩
    refine kH (hlo1 hsd) Zr ?_;refine GOH ?_;refine kD (parseInt_spec A hE t h0 hd (by have := hsd.1;omega)) Zr ZP (fun v Post hv => ?_);rcases hv with ⟨⟨hn, rfl⟩ | ⟨hn, _⟩, rfl⟩
    rotate_left
    · have := hsd.2;simp only [if_true] at this;omega
    simp only [CNx];have hn2 := hsd.2;simp only [if_true] at hn2;have hfin : WholeQ true t (.agg #[cv 4, vi (-(wq (kB t) : Int)), uv 0, .string ⟨#[]⟩, .slice none 0 0]) := .inl ⟨hsd, rfl⟩;generalize wq (kB t) = N at *;refine GOH ?_;rw [show IntKind.i64.wrap (0 - (N : Int)) = -(N : Int) by rw [Int.zero_sub];exact wrap64 ⟨Zo, Zo⟩];refine GOH ?_;exact ⟨.inr rfl, _, _, .cellN (us := [cv 4, vi (-(N : Int)), uv 0, .string ⟨#[]⟩, .slice none 0 0]) Zr Zr Zag .nil, ZI, hfin, rfl⟩
  | false =>
    refine GOH ?_;by_cases hsd : wV false (kB t);rotate_left
    · refine kH (hlo2 hsd) Zr ?_;refine GOH ?_;refine ⟨.inr rfl, _, _, .cellN (us := [cv 5, vi 0, uv 0, .string t, .slice none 0 0]) Zr Zr Zag .nil, ZI, hbig _ hsd rfl, rfl⟩
    refine kH (hlo1 hsd) Zr ?_;refine GOH ?_;refine kD (parseInt_spec A hE t h0 hd (by have := hsd.1;omega)) Zr ZP (fun v Post hv => ?_);rcases hv with ⟨⟨hn, rfl⟩ | ⟨hn, _⟩, rfl⟩
    rotate_left
    · have := hsd.2;simp only [Bool.false_eq_true, if_false] at this;omega
    simp only [CNx];have hfin : WholeQ false t (.agg #[cv 4, vi (wq (kB t) : Int), uv 0, .string ⟨#[]⟩, .slice none 0 0]) := .inl ⟨hsd, rfl⟩;generalize wq (kB t) = N at *;refine GOH ?_;exact ⟨.inr rfl, _, _, .cellN (us := [cv 4, vi (N : Int), uv 0, .string ⟨#[]⟩, .slice none 0 0]) Zr Zr Zag .nil, ZI, hfin, rfl⟩
theorem integerR_spec (A : List kE) (hE : ErA A) (s : ByteArray) (hs : s.size <= 140737488355328) : Fun Tryz.prog 152 [.string s] [A] (fun v Post => IntQ s v /\ Post = [A]) := by
  refine Fun.intro low152 (by simp [n152]) ?_;have hls := kT s;have hIntB : zn (kB s) = false -> IntQ s (.tuple #[.agg #[cv 0, vi 0, uv 0, .string ⟨#[]⟩, .slice none 0 0], vi 144]) := fun h => .inl ⟨h, rfl⟩
  have hm : decide ((kB s).getD 0 0 = 45) = wt (kB s) := by
    unfold wt;cases kB s <;> simp
  have hat := atR_spec s hs 0;refine j7 ?_;refine kP (fun b => ?_);refine j7 ?_;refine kH hat Zr ?_;generalize hg0 : (kB s).getD 0 0 = z0 at hm |-;refine j7 ?_;refine VC.join (α := ByteArray) (fun d => [(0, .string d), (2, kN b), (4, .bool (wt (kB s)))]) (fun _ => [kA b 0 [.int .u8 0, .int .i64 0, .int .u64 0, .string ⟨#[]⟩, .slice none 0 0], A]) (fun d => kB d = wd (kB s) /\ d.size <= s.size) ?_ ?_
  · by_cases h45 : z0 = 45
    · rw [show decide ((z0 : Int) = 45) = true from Zt Zo];rw [Zt h45] at hm;have hpos : 0 < s.size := by
        rcases Nat.eq_zero_or_pos s.size with h | h
        · rw [List.getD_eq_getElem?_getD, List.getElem?_eq_none Zo] at hg0;simp at hg0;omega
        · exact h
      refine GOH ?_;refine st_slcS (l := 1) (h := s.size) Zr (.num Zr) .dft ⟨Zo, Zo⟩ ?_;refine GOH ?_;refine ⟨s.extract 1 s.size, ⟨?_, by rw [ByteArray.size_extract];omega⟩, by rw [<- hm];exact SUx, ZI⟩;rw [jG, List.take_of_length_le Zo];unfold wd;have h1 : (kB s).head? = some 45 := by
        have := hm.symm;unfold wt at this;exact of_decide_eq_true this
      rw [if_pos h1, List.drop_one]
    · rw [show decide ((z0 : Int) = 45) = false from Zf Zo];rw [Zf h45] at hm;refine GOH ?_;refine ⟨s, ⟨?_, Nat.le_refl _⟩, by rw [<- hm];exact SUx, ZI⟩;unfold wd;have h1 : ¬ (kB s).head? = some 45 := by
        have := hm.symm;unfold wt at this;exact of_decide_eq_false this
      rw [if_neg h1]
  rintro d ⟨hd, hds⟩
  have hld := kT d;generalize hmm : wt (kB s) = m;refine GOH ?_;refine VC.loop (α := Nat) (Γf := fun k => [(0, .string d), (2, kN b), (4, .bool m), (5, vi k)]) (Hf := fun _ => [kA b 0 [.int .u8 0, .int .i64 0, .int .u64 0, .string ⟨#[]⟩, .slice none 0 0], A]) (I := fun k => k <= d.size /\ ∀ i c, i < k -> (kB d)[i]? = some c -> jt c = true) (μ := fun k => d.size - k) 0 ⟨Nat.zero_le _, fun i c h => by omega⟩ ZU ZI ?_
  rintro k ⟨i1, i2⟩
  refine GOH ?_;by_cases hk : k < d.size
  · rw [Zt Zo];obtain ⟨c, hc, hc2⟩ := jQ hk;refine GOH ?_;refine jY Zr Zr (j := k) rfl hc ?_;refine GOH ?_;refine kH (digitR_spec _ (zA d _ (Zv hc2))) Zr ?_;cases hb : jt c.toNat with
    | true =>
      refine GOH ?_;refine ⟨k + 1, ⟨Zo, fun i x hi hx => ?_⟩, Zo, ZU, ZI⟩;by_cases e : i = k
      · subst e;rw [hc2] at hx;cases hx;exact hb
      · exact i2 i x Zo hx
    | false =>
      have hbad : zn (kB s) = false := by
        unfold zn;rw [<- hd];have : (kB d).all jt = false := by
          rw [Bool.eq_false_iff];intro h;have := List.all_eq_true.1 h _ (Zv hc2);rw [hb] at this;cases this
        rw [this];simp
      refine GOH ?_;exact ⟨.inr rfl, _, _, .cellN (us := [cv 0, vi 0, uv 0, .string ⟨#[]⟩, .slice none 0 0]) Zr Zr Zag (.tmp Zr .nil), ZI, hIntB hbad, rfl⟩
  rw [Zf Zo];have hall : (kB d).all jt = true := by
    rw [List.all_eq_true];intro c hc;obtain ⟨i, hi⟩ := List.getElem?_of_mem hc;exact i2 i c (by have := (List.getElem?_eq_some_iff.1 hi).1;omega) hi
  refine GOH ?_;refine kD (plainR_spec d Zo) Zr ZP (fun v Post hv => ?_);obtain ⟨t, rfl, ht, hts, rfl⟩ := hv;have hlt := kT t;have hg : zn (kB s) = (decide (kB d ≠ []) && decide (t.size <= 255)) := by
    unfold zn;rw [<- hd, <- ht, hlt, hall, Bool.and_true]
  simp only [List.nil_append];refine GOH ?_;by_cases h0 : kB d = []
  · have hb : zn (kB s) = false := by rw [hg, Zf (fun h => h h0)];rfl
    have : t.size = 0 := by rw [<- hlt, ht, h0];rfl
    rw [show decide ((t.size : Int) < 1) = true from Zt Zo];refine GOH ?_;exact ⟨.inr rfl, _, _, .cellN (us := [cv 0, vi 0, uv 0, .string ⟨#[]⟩, .slice none 0 0]) Zr Zr Zag (.tmp Zr .nil), ZI, hIntB hb, rfl⟩
  have ht0 : kB t ≠ [] := by rw [ht];exact plainL_ne h0
  have : 0 < t.size := by rw [<- hlt];exact List.length_pos_iff.2 ht0
  rw [show decide ((t.size : Int) < 1) = false from Zf Zo];refine GOH ?_;by_cases h255 : t.size <= 255;rotate_left
  · rw [Zt (show (t.size : Int) > 255 by omega)];have hb : zn (kB s) = false := by rw [hg, Zf h255];simp
    refine GOH ?_;exact ⟨.inr rfl, _, _, .cellN (us := [cv 0, vi 0, uv 0, .string ⟨#[]⟩, .slice none 0 0]) Zr Zr Zag (.tmp Zr .nil), ZI, hIntB hb, rfl⟩
  rw [Zf (show ¬ (t.size : Int) > 255 by omega)];have hgt : zn (kB s) = true := by rw [hg, Zt h255, Zt h0];rfl
  refine GOH ?_;refine kD (literal_spec A hE t ht0 (by rw [ht];exact plainL_dig hall) h255 m) Zr ZP (fun v Post hv => ?_);obtain ⟨hw, rfl⟩ := hv;have fin : ∀ u, WholeQ m t u -> IntQ s (.tuple #[u, vi 0]) := fun u hu => .inr ⟨hgt, t, u, by rw [ht, hd], by rw [hmm];exact hu, rfl⟩
  have hfin := fin _ hw;simp only [CNx];rcases hw with ⟨_, rfl⟩ | ⟨_, u, rfl, _⟩
  · generalize (if m = true then -(wq (kB t) : Int) else (wq (kB t) : Int)) = z at hfin |-;refine GOH ?_;exact ⟨.inr rfl, _, _, .cellN (us := [cv 4, vi z, uv 0, .string ⟨#[]⟩, .slice none 0 0]) Zr Zr Zag (.tmp Zr .nil), ZI, hfin, rfl⟩
  · refine GOH ?_;exact ⟨.inr rfl, _, _, .cellN (us := [cv 5, vi 0, uv 0, .string u, .slice none 0 0]) Zr Zr Zag (.tmp Zr .nil), ZI, hfin, rfl⟩
end Go.Proofs.YtmnmandpdadedaaGreatDoor
namespace Go.Proofs.YtmnmandpdadedaaGreatDoor
open Go Go.V
set_option maxHeartbeats 3200000
set_option maxRecDepth 100000
theorem wordL_split (l : List Nat) : ∃ w r, l = w ++ r /\ w.length = wT l /\ w.all innB = true /\ ∀ c q, r = c :: q -> innB c = false := by
  unfold wT
  induction l with
  | nil => exact ⟨[], [], rfl, rfl, rfl, fun c q h => by cases h⟩
  | cons c r ih =>
    cases hc : innB c with
    | false => exact ⟨[], c :: r, rfl, by simp [hc], rfl, fun d q h => by cases h;exact hc⟩
    | true =>
      obtain ⟨w, q, rfl, h2, h3, h4⟩ := ih;exact ⟨c :: w, q, rfl, by simp [hc, h2], by simp [hc, h3], h4⟩
theorem split_first {c : Nat} {l : List Nat} (h : c ∈ l) : ∃ p q, l = p ++ c :: q /\ c ∉ p := by
  induction l with
  | nil => cases h
  | cons d r ih =>
    by_cases hd : c = d
    · subst hd;exact ⟨[], r, rfl, Zs⟩
    · obtain ⟨p, q, rfl, hp⟩ := ih (by simpa [hd] using h);exact ⟨d :: p, q, rfl, by simp [hd, hp]⟩
theorem inn58 : innB 58 = false := rfl
theorem no58 {w : List Nat} (h : w.all innB = true) : 58 ∉ w := fun hm => by
  have := List.all_eq_true.1 h 58 hm;rw [inn58] at this;cases this
theorem name_inn {w : List Nat} (h : nameL w = true) : w.all innB = true := by
  cases w with
  | nil => rfl
  | cons c r =>
    simp only [nameL, Bool.and_eq_true] at h;exact h.2
theorem keys_step {l : List Nat} (hl : l ≠ []) (n : Nat) :
    wy (kj l) n = if (nameL (l.take (wT l)) = true /\ l.getD (wT l) 0 = 58) then wy (kj (l.drop (wT l + 1))) (n + 1) else -1 := by
  obtain ⟨w, r, h1, h2, h3, h4⟩ := wordL_split l;rw [<- h2];have ht : l.take w.length = w := by rw [h1];simp
  rw [ht];by_cases hc : nameL w = true /\ l.getD w.length 0 = 58
  · rw [if_pos hc];obtain ⟨hn, h58⟩ := hc;have hr : ∃ q, r = 58 :: q := by
      rw [h1, List.getD_eq_getElem?_getD, List.getElem?_append_right (Nat.le_refl _), Nat.sub_self] at h58;cases r with
      | nil => simp at h58
      | cons c q => simp at h58;exact ⟨q, by rw [h58]⟩
    obtain ⟨q, rfl⟩ := hr;rw [h1, pieces_cons (no58 h3)];rw [show (w ++ 58 :: q).drop (w.length + 1) = q by simp];simp only [wy];rw [if_neg Zs, if_pos (by simp [hn])]
  · rw [if_neg hc];have bad : ∀ p ps, kj l = p :: ps -> p ≠ [] -> keyL p = false -> wy (kj l) n = -1 := fun p ps e h0 h => by rw [e];exact keysL_bad h0 h
    by_cases h58 : 58 ∈ l
    · obtain ⟨p, q, hpq, hp⟩ := split_first h58;refine bad (p ++ [58]) (kj q) (by rw [hpq, pieces_cons hp]) Zs ?_;unfold keyL;rw [Bool.eq_false_iff];intro h;simp at h;refine hc ?_;have hpw : p = w := by
        have hpi := name_inn h;have e : p ++ 58 :: q = w ++ r := by rw [<- hpq, h1]
        rcases List.append_eq_append_iff.1 e with ⟨a, rfl, ha⟩ | ⟨a, rfl, ha⟩
        · cases a with
          | nil => simp
          | cons c a =>
            simp only [List.cons_append, List.cons.injEq] at ha;rw [<- ha.1] at h3;exact absurd Zs (no58 h3)
        · cases a with
          | nil => simp
          | cons c a =>
            have := h4 c (a ++ 58 :: q) (by rw [ha];rfl);have h5 := List.all_eq_true.1 hpi c Zs;rw [this] at h5;cases h5
      subst hpw;refine ⟨h, ?_⟩;rw [hpq];simp
    · refine bad l [] (pieces_none h58) hl ?_;unfold keyL;rw [Bool.eq_false_iff];intro h;simp only [Bool.and_eq_true, decide_eq_true_eq] at h;exact h58 (List.mem_of_getLast? h.1)
theorem keywords_spec (s : ByteArray) (hs : s.size <= 140737488355328) : Fun Tryz.prog 106 [.string s] [] (fun v Post => v = vi (wy (kj (kB s)) 0) /\ Post = []) := by
  refine Fun.intro low106 (by simp [n106]) ?_;have hlen := kT s;refine GOH ?_;refine VC.loop (α := Nat × Nat) (Γf := fun z => [(0, .string s), (3, vi z.1), (4, vi z.2)]) (Hf := fun _ => []) (I := fun z => z.2 <= s.size /\ z.1 <= z.2 /\ wy (kj ((kB s).drop z.2)) z.1 = wy (kj (kB s)) 0) (μ := fun z => s.size - z.2) (0, 0) ⟨Nat.zero_le _, Nat.le_refl _, rfl⟩ ZU Imp.nil ?_
  rintro ⟨n, i⟩ ⟨i1, i2, i3⟩
  simp only at i1 i2 i3;dsimp only;refine GOH ?_;by_cases hk : i < s.size;rotate_left
  · rw [Zf Zo];rw [dropN_nil Zo] at i3;refine GOH ?_;refine ⟨.inr rfl, _, _, .tmp Zr .nil, ZI, ?_, rfl⟩;rw [<- i3];rfl
  rw [Zt Zo];have hw := word_spec s hs i Zo;have hwl := wordL_le ((kB s).drop i);rw [List.length_drop, hlen] at hwl;obtain ⟨c, hc, hc2⟩ := jQ hk;have hne : (kB s).drop i ≠ [] := by rw [dropN_cons hc2];simp
  have hst := keys_step hne n;rw [i3, List.drop_drop] at hst;have hga : ((kB s).drop i).getD (wT ((kB s).drop i)) 0 = (kB s).getD (i + wT ((kB s).drop i)) 0 := by
    rw [List.getD_eq_getElem?_getD, List.getD_eq_getElem?_getD, List.getElem?_drop]
  rw [hga] at hst;have hex : kB (s.extract i (i + wT ((kB s).drop i))) = ((kB s).drop i).take (wT ((kB s).drop i)) := by
    rw [jG, List.drop_take, Nat.add_sub_cancel_left]
  rw [<- hex] at hst;have hst1 := fun h => hst.trans (if_pos h)
  have hst2 := fun h => hst.trans (if_neg h)
  clear hst;generalize hwe : wT ((kB s).drop i) = w at *;refine GOH ?_;refine kH hw Zr ?_;refine GOH ?_;refine st_slcS (l := i) (h := i + w) Zr (.num Zr) (.num Zr) ⟨Zo, Zo⟩ ?_;refine GOH ?_;refine kH (nameR_spec (s.extract i (i + w)) (by rw [ByteArray.size_extract];omega)) Zr ?_;cases hn : nameS (s.extract i (i + w)) with
  | false =>
    have hst := hst2 (fun h => by have h1 : nameS (s.extract i (i + w)) = true := h.1;rw [hn] at h1;cases h1);refine GOH ?_;refine ⟨.inr rfl, _, _, .tmp Zr .nil, ZI, ?_, rfl⟩;rw [hst];rfl
  | true =>
    refine GOH ?_;refine kH (atR_spec s hs (i + w)) Zr ?_;refine GOH ?_;by_cases h58 : (kB s).getD (i + w) 0 = 58;rotate_left
    · have hst := hst2 (fun h => h58 h.2);rw [show decide (((kB s).getD (i + w) 0 : Int) = 58) = false from Zf Zo];refine GOH ?_;refine ⟨.inr rfl, _, _, .tmp Zr .nil, ZI, ?_, rfl⟩;rw [hst];rfl
    have hst := hst1 ⟨hn, h58⟩;have hlt : i + w < s.size := by
      rcases Nat.lt_or_ge (i + w) s.size with h | h
      · exact h
      · rw [List.getD_eq_getElem?_getD, List.getElem?_eq_none Zo] at h58;cases h58
    rw [show decide (((kB s).getD (i + w) 0 : Int) = 58) = true from Zt Zo];refine GOH ?_;exact ⟨(n + 1, i + w + 1), ⟨by simp only;omega, by simp only;omega, by simp only;rw [hst, Nat.add_assoc]⟩, by simp only;omega, ZU, Imp.nil⟩
theorem arityR_spec (s : ByteArray) (hs : s.size <= 140737488355328) : Fun Tryz.prog 65 [.string s] [] (fun v Post => v = vi (kR s) /\ Post = []) := by
  refine Fun.intro low65 (by simp [n65]) ?_;have hlen := kT s;refine GOH ?_;refine kH (nameR_spec s hs) Zr ?_;by_cases h0 : s = ⟨#[]⟩
  · subst h0;refine GOH ?_;refine ⟨.inr rfl, _, _, .tmp Zr .nil, ZI, ?_, rfl⟩;rfl
  obtain ⟨c, r, hc, hr, hc256, hpos⟩ := bytesN_cons h0;refine GOH ?_;rw [show decide ((s.size : Int) = 0) = false from Zf Zo];cases hn : nameS s with
  | true =>
    refine GOH ?_;refine ⟨.inr rfl, _, _, .tmp Zr .nil, ZI, ?_, rfl⟩;unfold kR arityL;rw [show nameL (kB s) = true from hn];rfl
  | false =>
    have hn2 : nameL (kB s) = false := hn;have har : kR s = if (binB c.toNat || decide (c.toNat = 124)) = true then (if signL (kB s) = (kB s).length then 1 else -1) else wy (kj (kB s)) 0 := by
      unfold kR arityL;rw [if_neg (by rw [hn2];simp)];simp only [hr]
    have hsg := signR_spec s hs 0 hpos;rw [List.drop_zero, Nat.zero_add] at hsg;refine GOH ?_;refine jY Zr Zr (j := 0) rfl hc ?_;refine GOH ?_;refine kH (binaryR_spec _ hc256) Zr ?_;have hgo : (binB c.toNat || decide (c.toNat = 124)) = true -> kR s = (if signL (kB s) = (kB s).length then 1 else -1) := fun h => by rw [har, if_pos h]
    cases hb : binB c.toNat with
    | true =>
      have hgo := hgo (by simp [hb]);generalize signL (kB s) = z at hsg hgo;refine GOH ?_;refine kH hsg Zr ?_;refine GOH ?_;by_cases he : z = (kB s).length
      · rw [Zt (show ((z : Nat) : Int) = (s.size : Int) by omega)];rw [if_pos he] at hgo;refine GOH ?_;refine ⟨.inr rfl, _, _, .tmp Zr .nil, ZI, ?_, rfl⟩;rw [hgo];rfl
      · rw [Zf (show ¬ ((z : Nat) : Int) = (s.size : Int) by omega)];rw [if_neg he] at hgo;refine GOH ?_;refine ⟨.inr rfl, _, _, .tmp Zr .nil, ZI, ?_, rfl⟩;rw [hgo];rfl
    | false =>
      refine GOH ?_;refine jY Zr Zr (j := 0) rfl hc ?_;refine GOH ?_;by_cases h124 : c.toNat = 124
      · have hgo := hgo (by simp [h124]);generalize signL (kB s) = z at hsg hgo;rw [show decide ((c.toNat : Int) = 124) = true from Zt Zo];refine GOH ?_;refine kH hsg Zr ?_;refine GOH ?_;by_cases he : z = (kB s).length
        · rw [Zt (show ((z : Nat) : Int) = (s.size : Int) by omega)];rw [if_pos he] at hgo;refine GOH ?_;refine ⟨.inr rfl, _, _, .tmp Zr .nil, ZI, ?_, rfl⟩;rw [hgo];rfl
        · rw [Zf (show ¬ ((z : Nat) : Int) = (s.size : Int) by omega)];rw [if_neg he] at hgo;refine GOH ?_;refine ⟨.inr rfl, _, _, .tmp Zr .nil, ZI, ?_, rfl⟩;rw [hgo];rfl
      rw [show decide ((c.toNat : Int) = 124) = false from Zf Zo];rw [if_neg (by simp [hb, h124])] at har;refine GOH ?_;refine kH (keywords_spec s hs) Zr ?_;refine GOH ?_;refine ⟨.inr rfl, _, _, .tmp Zr .nil, ZI, ?_, rfl⟩;rw [har];rfl
end Go.Proofs.YtmnmandpdadedaaGreatDoor

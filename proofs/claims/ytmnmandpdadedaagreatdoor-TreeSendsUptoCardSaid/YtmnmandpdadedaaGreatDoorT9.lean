/-
  Looks: a literal.
-/
import Derived.Test.YtmnmandpdadedaaGreatDoorT7
import Derived.Test.YtmnmandpdadedaaGreatDoorV14
import Derived.Test.YtmnmandpdadedaaGreatDoorV10
import Derived.Test.YtmnmandpdadedaaGreatDoorT8
set_option linter.unusedSimpArgs false
set_option linter.unusedVariables false
namespace Go.Proofs.YtmnmandpdadedaaGreatDoor
open Go Go.V
set_option maxHeartbeats 3200000
set_option maxRecDepth 100000
structure LitS where
  d : Nat
  mm : Bool
  n : Int
  b : Nat
  t : ByteArray
  sv : Value
  l : Nat
def LitS.ok (s : LitS) : Prop := s.n = 0 ∧ s.b = 0 ∧ s.t.size = 0 ∧ s.l = 0
instance (s : LitS) : Decidable s.ok := by unfold LitS.ok; infer_instance
theorem lit_spec (A : List Atom) (hE : ErA A) : ∀ (N : Nat) (x : Lt), x.size ≤ N → x.size ≤ 1099511627776 → ∀ vs, LtRd A x vs → ∀ (lb : Nat) (m0 deep inside : Bool), Look 131 [ptr0 lb, .agg vs.toArray, .bool inside] A lb m0 deep (litD x inside) := by
  intro N
  induction N with
  | zero => intro x hx; have := x.size_pos; omega
  | succ N ih =>
    intro x hx hbd vs hvs lb m0 deep inside
    have hvs2 := hvs
    cases hvs with
    | @mk k n b t items a c bk o us wf ha hm hr =>
    refine FunP.intro low131 (by simp [n131]) ?_
    refine GOHS ?_
    refine st_box (by rfl) (fun q => ?_)
    simp only [Value.cells]
    refine GOHS ?_
    refine st_alloc (fun r => ?_)
    refine GOHS ?_
    refine VC.join (α := LitS) (fun s => [(7, vi s.d), (8, ptr0 r)]) (fun s => [A, lkA lb (m0 || s.mm) deep, cellsAt r 0 [cv k, vi s.n, uv s.b, .string s.t, s.sv]])
      (fun s => (∃ a c, s.sv = .slice a s.l c) ∧ litD (.mk k n b t items) inside = if s.ok then some (s.d, s.mm) else none) ?_ ?_
    · have hk256 := wf.kind
      obtain ⟨hn1, hn2⟩ := wf.n
      by_cases k1 : k = 1
      · subst k1
        refine GOH ?_
        refine st_callZ (must_spec _) (by rfl) (by exact SPx) (fun v Post hv => ?_) (fun ch Post hz => ?_)
        rotate_left
        · obtain ⟨hb, rfl, rfl⟩ := hz
          exact ⟨[A, lkA lb m0 deep], by exact IMx, by first | (simp [litD, mustR, hb]; done) | (simp at hb; simp [litD, mustR, hb]; done) | (simp at hb; simp [litD, mustR]; omega), rfl, m0, rfl⟩
        obtain ⟨hb, rfl, rfl⟩ := hv
        simp only [List.nil_append]
        refine GOH ?_
        refine ⟨⟨0, false, n, b, t, _, _⟩, ⟨⟨_, _, rfl⟩, ?_⟩, by exact SUx, by rw [Bool.or_false]; exact IMx⟩
        simp [litD, mustR, LitS.ok, hb]
      by_cases k2 : k = 2
      · subst k2
        refine GOH ?_
        refine st_callZ (must_spec _) (by rfl) (by exact SPx) (fun v Post hv => ?_) (fun ch Post hz => ?_)
        rotate_left
        · obtain ⟨hb, rfl, rfl⟩ := hz
          exact ⟨[A, lkA lb m0 deep], by exact IMx, by first | (simp [litD, mustR, hb]; done) | (simp at hb; simp [litD, mustR, hb]; done) | (simp at hb; simp [litD, mustR]; omega), rfl, m0, rfl⟩
        obtain ⟨hb, rfl, rfl⟩ := hv
        simp only [List.nil_append]
        refine GOH ?_
        refine ⟨⟨0, false, n, b, t, _, _⟩, ⟨⟨_, _, rfl⟩, ?_⟩, by exact SUx, by rw [Bool.or_false]; exact IMx⟩
        simp [litD, mustR, LitS.ok, hb]
      by_cases k3 : k = 3
      · subst k3
        refine GOH ?_
        refine st_callZ (must_spec _) (by rfl) (by exact SPx) (fun v Post hv => ?_) (fun ch Post hz => ?_)
        rotate_left
        · obtain ⟨hb, rfl, rfl⟩ := hz
          exact ⟨[A, lkA lb m0 deep], by exact IMx, by first | (simp [litD, mustR, hb]; done) | (simp at hb; simp [litD, mustR, hb]; done) | (simp at hb; simp [litD, mustR]; omega), rfl, m0, rfl⟩
        obtain ⟨hb, rfl, rfl⟩ := hv
        simp only [List.nil_append]
        refine GOH ?_
        refine ⟨⟨0, false, n, b, t, _, _⟩, ⟨⟨_, _, rfl⟩, ?_⟩, by exact SUx, by rw [Bool.or_false]; exact IMx⟩
        simp [litD, mustR, LitS.ok, hb]
      by_cases k4 : k = 4
      · subst k4
        refine GOH ?_
        by_cases h1 : -1152921504606846976 ≤ n
        rotate_left
        · have hnone : litD (.mk 4 n b t items) inside = none := by simp [litD, mustR, h1]
          rw [decide_eq_false h1]
          refine GOH ?_
          refine st_callZ (must_spec false) (by rfl) (by exact SPx) (fun v Post hv => absurd hv.1 (by decide)) (fun ch Post hz => ?_)
          obtain ⟨_, rfl, rfl⟩ := hz
          exact ⟨[A, lkA lb m0 deep], by exact IMx, hnone, rfl, m0, rfl⟩
        rw [decide_eq_true h1]
        refine GOH ?_
        by_cases h2 : n ≤ 1152921504606846975
        rotate_left
        · have hnone : litD (.mk 4 n b t items) inside = none := by simp [litD, mustR, h2]
          rw [decide_eq_false h2]
          refine GOH ?_
          refine st_callZ (must_spec false) (by rfl) (by exact SPx) (fun v Post hv => absurd hv.1 (by decide)) (fun ch Post hz => ?_)
          obtain ⟨_, rfl, rfl⟩ := hz
          exact ⟨[A, lkA lb m0 deep], by exact IMx, hnone, rfl, m0, rfl⟩
        rw [decide_eq_true h2]
        refine GOH ?_
        refine st_callZ (must_spec true) (by rfl) (by exact SPx) (fun v Post hv => ?_) (fun ch Post hz => absurd hz.1 (by decide))
        obtain ⟨_, rfl, rfl⟩ := hv
        simp only [List.nil_append]
        refine GOH ?_
        refine ⟨⟨0, false, 0, b, t, _, _⟩, ⟨⟨_, _, rfl⟩, ?_⟩, by exact SUx, by rw [Bool.or_false]; exact IMx⟩
        simp [litD, mustR, LitS.ok, h1, h2]
      by_cases k5 : k = 5
      · subst k5
        refine GOH ?_
        refine st_call (integer_spec A hE t wf.text) (by rfl) (by exact SPx) (fun v Post hv => ?_)
        obtain ⟨hq, rfl⟩ := hv
        obtain ⟨kk, nn, tt, ee, rfl, hlg⟩ := hq.large
        simp only [CNx]
        refine GOH ?_
        refine st_alloc (fun q2 => ?_)
        refine GOH ?_
        by_cases h1 : ee = 0
        rotate_left
        · have hnone : litD (.mk 5 n b t items) inside = none := by
            have : largeL (bytesN t) = false := Bool.eq_false_iff.2 fun h => h1 (hlg.2 h).1
            simp [litD, mustR, this]
          rw [show decide ((ee : Int) = 0) = false from decide_eq_false (by omega)]
          refine GOH ?_
          refine st_callZ (must_spec false) (by rfl) (by exact SPx) (fun v Post hv => absurd hv.1 (by decide)) (fun ch Post hz => ?_)
          obtain ⟨_, rfl, rfl⟩ := hz
          exact ⟨[A, lkA lb m0 deep], by exact IMx, hnone, rfl, m0, rfl⟩
        rw [show decide ((ee : Int) = 0) = true from decide_eq_true (by omega)]
        refine GOH ?_
        by_cases h2 : kk = 5
        rotate_left
        · have hnone : litD (.mk 5 n b t items) inside = none := by
            have : largeL (bytesN t) = false := Bool.eq_false_iff.2 fun h => h2 (hlg.2 h).2.1
            simp [litD, mustR, this]
          rw [show decide ((kk : Int) = 5) = false from decide_eq_false (by omega)]
          refine GOH ?_
          refine st_callZ (must_spec false) (by rfl) (by exact SPx) (fun v Post hv => absurd hv.1 (by decide)) (fun ch Post hz => ?_)
          obtain ⟨_, rfl, rfl⟩ := hz
          exact ⟨[A, lkA lb m0 deep], by exact IMx, hnone, rfl, m0, rfl⟩
        rw [show decide ((kk : Int) = 5) = true from decide_eq_true (by omega)]
        refine GOH ?_
        by_cases h3 : tt = t
        rotate_left
        · have hnone : litD (.mk 5 n b t items) inside = none := by
            have : largeL (bytesN t) = false := Bool.eq_false_iff.2 fun h => h3 (hlg.2 h).2.2
            simp [litD, mustR, this]
          rw [decide_eq_false h3]
          refine GOH ?_
          refine st_callZ (must_spec false) (by rfl) (by exact SPx) (fun v Post hv => absurd hv.1 (by decide)) (fun ch Post hz => ?_)
          obtain ⟨_, rfl, rfl⟩ := hz
          exact ⟨[A, lkA lb m0 deep], by exact IMx, hnone, rfl, m0, rfl⟩
        rw [decide_eq_true h3]
        refine GOH ?_
        refine st_callZ (must_spec true) (by rfl) (by exact SPx) (fun v Post hv => ?_) (fun ch Post hz => absurd hz.1 (by decide))
        obtain ⟨_, rfl, rfl⟩ := hv
        simp only [List.nil_append]
        refine GOH ?_
        have hl5 := hlg.1 ⟨h1, h2, h3⟩
        refine ⟨⟨0, false, n, b, ⟨#[]⟩, _, _⟩, ⟨⟨_, _, rfl⟩, ?_⟩, by exact SUx, by rw [Bool.or_false]; exact IMx⟩
        simp [litD, mustR, LitS.ok, hl5, show (⟨#[]⟩ : ByteArray).size = 0 from rfl]
      by_cases k6 : k = 6
      · subst k6
        have hbits := wf.bits
        refine GOH ?_
        by_cases h1 : b * 2 % 18446744073709551616 / 9007199254740992 = 2047
        · have hnone : litD (.mk 6 n b t items) inside = none := by simp [litD, mustR, h1]
          rw [show decide (((b * 2 % 18446744073709551616 / 9007199254740992 : Nat) : Int) = 2047) = true from decide_eq_true (by omega), Bool.not_true]
          refine GOH ?_
          refine st_callZ (must_spec false) (by rfl) (by exact SPx) (fun v Post hv => absurd hv.1 (by decide)) (fun ch Post hz => ?_)
          obtain ⟨_, rfl, rfl⟩ := hz
          exact ⟨[A, lkA lb m0 deep], by exact IMx, hnone, rfl, m0, rfl⟩
        rw [show decide (((b * 2 % 18446744073709551616 / 9007199254740992 : Nat) : Int) = 2047) = false from decide_eq_false (by omega), Bool.not_false]
        refine GOH ?_
        refine st_callZ (must_spec true) (by rfl) (by exact SPx) (fun v Post hv => ?_) (fun ch Post hz => absurd hz.1 (by decide))
        obtain ⟨_, rfl, rfl⟩ := hv
        simp only [List.nil_append]
        refine GOH ?_
        refine ⟨⟨0, false, n, 0, t, .slice a items.length c, items.length⟩, ⟨⟨_, _, rfl⟩, ?_⟩, by exact SUx, by rw [Bool.or_false]; show Imp _ [A, lkA lb m0 deep, cellsAt r 0 [cv 6, vi n, .int .u64 0, .string t, .slice a items.length c]]; exact IMx⟩
        simp [litD, mustR, LitS.ok, h1]
      by_cases k7 : k = 7
      · subst k7
        refine GOH ?_
        by_cases h1 : 0 ≤ n
        rotate_left
        · have hnone : litD (.mk 7 n b t items) inside = none := by simp [litD, mustR, h1]
          rw [decide_eq_false h1]
          refine GOH ?_
          refine st_callZ (must_spec false) (by rfl) (by exact SPx) (fun v Post hv => absurd hv.1 (by decide)) (fun ch Post hz => ?_)
          obtain ⟨_, rfl, rfl⟩ := hz
          exact ⟨[A, lkA lb m0 deep], by exact IMx, hnone, rfl, m0, rfl⟩
        rw [decide_eq_true h1]
        refine GOH ?_
        by_cases h2 : n ≤ 255
        rotate_left
        · have hnone : litD (.mk 7 n b t items) inside = none := by simp [litD, mustR, h2]
          rw [decide_eq_false h2]
          refine GOH ?_
          refine st_callZ (must_spec false) (by rfl) (by exact SPx) (fun v Post hv => absurd hv.1 (by decide)) (fun ch Post hz => ?_)
          obtain ⟨_, rfl, rfl⟩ := hz
          exact ⟨[A, lkA lb m0 deep], by exact IMx, hnone, rfl, m0, rfl⟩
        rw [decide_eq_true h2]
        refine GOH ?_
        refine st_callZ (must_spec true) (by rfl) (by exact SPx) (fun v Post hv => ?_) (fun ch Post hz => absurd hz.1 (by decide))
        obtain ⟨_, rfl, rfl⟩ := hv
        simp only [List.nil_append]
        refine GOH ?_
        refine ⟨⟨0, false, 0, b, t, _, _⟩, ⟨⟨_, _, rfl⟩, ?_⟩, by exact SUx, by rw [Bool.or_false]; exact IMx⟩
        simp [litD, mustR, LitS.ok, h1, h2]
      by_cases k8 : k = 8
      · subst k8
        refine GOH ?_
        refine ⟨⟨0, false, n, b, ⟨#[]⟩, _, _⟩, ⟨⟨_, _, rfl⟩, ?_⟩, by exact SUx, by rw [Bool.or_false]; exact IMx⟩
        simp [litD, mustR, LitS.ok, show (⟨#[]⟩ : ByteArray).size = 0 from rfl]
      by_cases k9 : k = 9
      · subst k9
        refine GOH ?_
        refine ⟨⟨0, false, n, b, ⟨#[]⟩, _, _⟩, ⟨⟨_, _, rfl⟩, ?_⟩, by exact SUx, by rw [Bool.or_false]; exact IMx⟩
        simp [litD, mustR, LitS.ok, show (⟨#[]⟩ : ByteArray).size = 0 from rfl]
      by_cases k11 : k = 11
      · subst k11
        have h0 : (⟨#[]⟩ : ByteArray).size = 0 := rfl
        cases m0 with
        | true =>
          refine GOH ?_
          refine ⟨⟨0, decide (255 < t.size), n, b, ⟨#[]⟩, _, _⟩, ⟨⟨_, _, rfl⟩, ?_⟩, by exact SUx, by rw [Bool.true_or]; exact IMx⟩
          simp [litD, mustR, LitS.ok, h0]
        | false =>
          refine GOH ?_
          by_cases h1 : 255 < t.size
          · rw [show decide ((t.size : Int) > 255) = true from decide_eq_true (by omega)]
            refine GOH ?_
            refine ⟨⟨0, true, n, b, ⟨#[]⟩, _, _⟩, ⟨⟨_, _, rfl⟩, ?_⟩, by exact SUx, by rw [Bool.or_true]; exact IMx⟩
            simp [litD, mustR, LitS.ok, h0, h1]
          · rw [show decide ((t.size : Int) > 255) = false from decide_eq_false (by omega)]
            refine GOH ?_
            refine ⟨⟨0, false, n, b, ⟨#[]⟩, _, _⟩, ⟨⟨_, _, rfl⟩, ?_⟩, by exact SUx, by rw [Bool.or_false]; exact IMx⟩
            simp [litD, mustR, LitS.ok, h0, h1]
      by_cases k10 : k = 10
      · subst k10
        cases m0 with
        | true =>
          have hmm1 : ∀ mm, (true || (decide (255 < items.length) || mm)) = (true || mm) := fun _ => by simp
          refine GOH ?_
          refine VC.loop (α := Nat × Nat × Bool) (Γf := fun s => [(0, ptr0 lb), (7, vi s.2.1), (8, ptr0 r), (114, .slice a items.length c), (115, vi items.length), (116, vi s.1)]) (Hf := fun s => [A, lkA lb (true || s.2.2) deep, cellsAt r 0 [cv 10, vi n, uv b, .string t, .slice a items.length c]])
            (I := fun s => s.1 ≤ items.length ∧ maxR ((items.take s.1).map fun x => litD x true) = some (s.2.1, s.2.2)) (μ := fun s => items.length - s.1) (0, 0, false) ⟨Nat.zero_le _, rfl⟩ (by exact SUx) (by rw [Bool.or_false]; exact IMx) ?_
          rintro ⟨j, d, mm⟩ ⟨i1, i2⟩
          simp only at i1 i2
          dsimp only
          have hmany := wf.many
          simp only [Lt.size] at hbd
          have hdb : d ≤ Lt.sizes items := maxR_le (fun r hr d m e => by
            obtain ⟨y, hy, rfl⟩ := List.mem_map.1 hr
            have h1 := Lt.sizes_mem (List.mem_of_mem_take hy)
            have h2 := litD_le _ y (Nat.le_refl _) true d m e
            omega) i2
          refine GOH ?_
          by_cases hj : j < items.length
          rotate_left
          · rw [show decide ((j : Int) < (items.length : Int)) = false from decide_eq_false (by omega)]
            have htk : items.take j = items := List.take_of_length_le (by omega)
            rw [htk, ← litsD_map] at i2
            refine GOH ?_
            refine ⟨⟨d + 1, decide (255 < items.length) || mm, n, b, t, .slice none 0 0, 0⟩, ⟨⟨_, _, rfl⟩, ?_⟩, by exact SUx, ?_⟩
            · simp [litD, i2, manyR, deeper, mustR, LitS.ok]
            · rw [hmm1]; exact IMx
          obtain rfl := ha (by omega)
          rw [show decide ((j : Int) < (items.length : Int)) = true from decide_eq_true (by omega)]
          obtain ⟨y, hy⟩ : ∃ y, items[j]? = some y := ⟨_, List.getElem?_eq_getElem hj⟩
          have hyr := hr j y hy
          have hym := hm j hj
          have hysz : y.size ≤ N := by
            have h1 := Lt.sizes_mem (List.mem_of_getElem? hy)
            simp only [Lt.size] at hx
            omega
          have hy1 := Lt.sizes_mem (List.mem_of_getElem? hy)
          have hcall := ih y hysz (by omega) _ hyr lb (true || mm) deep true
          generalize us j = uj at hyr hym hcall
          have hyr2 := hyr
          cases hyr2 with
          | @mk k2 n2 b2 t2 items2 a2 c2 bk2 o2 us2 wf2 ha2 hm2 hr2 =>
          refine GOH ?_
          refine st_loadA (by rfl) (fun z hz => List.mem_append_left _ (hym z hz)) rfl ?_
          refine GOH ?_
          refine st_alloc (fun q2 => ?_)
          refine GOH ?_
          refine st_callZ hcall (by rfl) (by exact SPx) (fun v Post hv => ?_) (fun ch Post hz => ?_)
          rotate_left
          · obtain ⟨hb, rfl, m2, rfl⟩ := hz
            have hnone : litD (.mk 10 n b t items) inside = none := by
              have h1 : maxR (litsD items) = none := by
                rw [litsD_map]
                exact maxR_none (List.mem_map.2 ⟨_, List.mem_of_getElem? hy, hb⟩)
              simp [litD, h1, manyR, deeper, mustR]
            exact ⟨[A, lkA lb m2 deep], by exact IMx, hnone, rfl, m2, rfl⟩
          obtain ⟨e, m2, he, rfl, rfl⟩ := hv
          simp only [CNx]
          have htk : items.take (j + 1) = items.take j ++ [.mk k2 n2 b2 t2 items2] := by rw [List.take_add_one, hy]; rfl
          refine GOH ?_
          rw [show (if (e : Int) > (d : Int) then (e : Int) else (d : Int)) = ((max d e : Nat) : Int) by split <;> omega]
          refine ⟨(j + 1, max d e, mm || m2), ⟨by simp only; omega, ?_⟩, by simp only; omega, by exact SUx, ?_⟩
          · simp only [htk, List.map_append, List.map_cons, List.map_nil, he]
            exact maxR_snoc i2
          · simp only [Bool.or_assoc]
            exact IMx
        | false =>
          refine GOH ?_
          by_cases h255 : 255 < items.length
          · have hmm1 : ∀ mm, (false || (decide (255 < items.length) || mm)) = (true || mm) := fun _ => by simp [h255]
            rw [show decide ((items.length : Int) > 255) = true from decide_eq_true (by omega)]
            refine GOH ?_
            refine VC.loop (α := Nat × Nat × Bool) (Γf := fun s => [(0, ptr0 lb), (7, vi s.2.1), (8, ptr0 r), (114, .slice a items.length c), (115, vi items.length), (116, vi s.1)]) (Hf := fun s => [A, lkA lb (true || s.2.2) deep, cellsAt r 0 [cv 10, vi n, uv b, .string t, .slice a items.length c]])
              (I := fun s => s.1 ≤ items.length ∧ maxR ((items.take s.1).map fun x => litD x true) = some (s.2.1, s.2.2)) (μ := fun s => items.length - s.1) (0, 0, false) ⟨Nat.zero_le _, rfl⟩ (by exact SUx) (by rw [Bool.or_false]; exact IMx) ?_
            rintro ⟨j, d, mm⟩ ⟨i1, i2⟩
            simp only at i1 i2
            dsimp only
            have hmany := wf.many
            simp only [Lt.size] at hbd
            have hdb : d ≤ Lt.sizes items := maxR_le (fun r hr d m e => by
              obtain ⟨y, hy, rfl⟩ := List.mem_map.1 hr
              have h1 := Lt.sizes_mem (List.mem_of_mem_take hy)
              have h2 := litD_le _ y (Nat.le_refl _) true d m e
              omega) i2
            refine GOH ?_
            by_cases hj : j < items.length
            rotate_left
            · rw [show decide ((j : Int) < (items.length : Int)) = false from decide_eq_false (by omega)]
              have htk : items.take j = items := List.take_of_length_le (by omega)
              rw [htk, ← litsD_map] at i2
              refine GOH ?_
              refine ⟨⟨d + 1, decide (255 < items.length) || mm, n, b, t, .slice none 0 0, 0⟩, ⟨⟨_, _, rfl⟩, ?_⟩, by exact SUx, ?_⟩
              · simp [litD, i2, manyR, deeper, mustR, LitS.ok]
              · rw [hmm1]; exact IMx
            obtain rfl := ha (by omega)
            rw [show decide ((j : Int) < (items.length : Int)) = true from decide_eq_true (by omega)]
            obtain ⟨y, hy⟩ : ∃ y, items[j]? = some y := ⟨_, List.getElem?_eq_getElem hj⟩
            have hyr := hr j y hy
            have hym := hm j hj
            have hysz : y.size ≤ N := by
              have h1 := Lt.sizes_mem (List.mem_of_getElem? hy)
              simp only [Lt.size] at hx
              omega
            have hy1 := Lt.sizes_mem (List.mem_of_getElem? hy)
            have hcall := ih y hysz (by omega) _ hyr lb (true || mm) deep true
            generalize us j = uj at hyr hym hcall
            have hyr2 := hyr
            cases hyr2 with
            | @mk k2 n2 b2 t2 items2 a2 c2 bk2 o2 us2 wf2 ha2 hm2 hr2 =>
            refine GOH ?_
            refine st_loadA (by rfl) (fun z hz => List.mem_append_left _ (hym z hz)) rfl ?_
            refine GOH ?_
            refine st_alloc (fun q2 => ?_)
            refine GOH ?_
            refine st_callZ hcall (by rfl) (by exact SPx) (fun v Post hv => ?_) (fun ch Post hz => ?_)
            rotate_left
            · obtain ⟨hb, rfl, m2, rfl⟩ := hz
              have hnone : litD (.mk 10 n b t items) inside = none := by
                have h1 : maxR (litsD items) = none := by
                  rw [litsD_map]
                  exact maxR_none (List.mem_map.2 ⟨_, List.mem_of_getElem? hy, hb⟩)
                simp [litD, h1, manyR, deeper, mustR]
              exact ⟨[A, lkA lb m2 deep], by exact IMx, hnone, rfl, m2, rfl⟩
            obtain ⟨e, m2, he, rfl, rfl⟩ := hv
            simp only [CNx]
            have htk : items.take (j + 1) = items.take j ++ [.mk k2 n2 b2 t2 items2] := by rw [List.take_add_one, hy]; rfl
            refine GOH ?_
            rw [show (if (e : Int) > (d : Int) then (e : Int) else (d : Int)) = ((max d e : Nat) : Int) by split <;> omega]
            refine ⟨(j + 1, max d e, mm || m2), ⟨by simp only; omega, ?_⟩, by simp only; omega, by exact SUx, ?_⟩
            · simp only [htk, List.map_append, List.map_cons, List.map_nil, he]
              exact maxR_snoc i2
            · simp only [Bool.or_assoc]
              exact IMx
          · have hmm1 : ∀ mm, (false || (decide (255 < items.length) || mm)) = (false || mm) := fun _ => by simp [h255]
            rw [show decide ((items.length : Int) > 255) = false from decide_eq_false (by omega)]
            refine GOH ?_
            refine VC.loop (α := Nat × Nat × Bool) (Γf := fun s => [(0, ptr0 lb), (7, vi s.2.1), (8, ptr0 r), (114, .slice a items.length c), (115, vi items.length), (116, vi s.1)]) (Hf := fun s => [A, lkA lb (false || s.2.2) deep, cellsAt r 0 [cv 10, vi n, uv b, .string t, .slice a items.length c]])
              (I := fun s => s.1 ≤ items.length ∧ maxR ((items.take s.1).map fun x => litD x true) = some (s.2.1, s.2.2)) (μ := fun s => items.length - s.1) (0, 0, false) ⟨Nat.zero_le _, rfl⟩ (by exact SUx) (by rw [Bool.or_false]; exact IMx) ?_
            rintro ⟨j, d, mm⟩ ⟨i1, i2⟩
            simp only at i1 i2
            dsimp only
            have hmany := wf.many
            simp only [Lt.size] at hbd
            have hdb : d ≤ Lt.sizes items := maxR_le (fun r hr d m e => by
              obtain ⟨y, hy, rfl⟩ := List.mem_map.1 hr
              have h1 := Lt.sizes_mem (List.mem_of_mem_take hy)
              have h2 := litD_le _ y (Nat.le_refl _) true d m e
              omega) i2
            refine GOH ?_
            by_cases hj : j < items.length
            rotate_left
            · rw [show decide ((j : Int) < (items.length : Int)) = false from decide_eq_false (by omega)]
              have htk : items.take j = items := List.take_of_length_le (by omega)
              rw [htk, ← litsD_map] at i2
              refine GOH ?_
              refine ⟨⟨d + 1, decide (255 < items.length) || mm, n, b, t, .slice none 0 0, 0⟩, ⟨⟨_, _, rfl⟩, ?_⟩, by exact SUx, ?_⟩
              · simp [litD, i2, manyR, deeper, mustR, LitS.ok]
              · rw [hmm1]; exact IMx
            obtain rfl := ha (by omega)
            rw [show decide ((j : Int) < (items.length : Int)) = true from decide_eq_true (by omega)]
            obtain ⟨y, hy⟩ : ∃ y, items[j]? = some y := ⟨_, List.getElem?_eq_getElem hj⟩
            have hyr := hr j y hy
            have hym := hm j hj
            have hysz : y.size ≤ N := by
              have h1 := Lt.sizes_mem (List.mem_of_getElem? hy)
              simp only [Lt.size] at hx
              omega
            have hy1 := Lt.sizes_mem (List.mem_of_getElem? hy)
            have hcall := ih y hysz (by omega) _ hyr lb (false || mm) deep true
            generalize us j = uj at hyr hym hcall
            have hyr2 := hyr
            cases hyr2 with
            | @mk k2 n2 b2 t2 items2 a2 c2 bk2 o2 us2 wf2 ha2 hm2 hr2 =>
            refine GOH ?_
            refine st_loadA (by rfl) (fun z hz => List.mem_append_left _ (hym z hz)) rfl ?_
            refine GOH ?_
            refine st_alloc (fun q2 => ?_)
            refine GOH ?_
            refine st_callZ hcall (by rfl) (by exact SPx) (fun v Post hv => ?_) (fun ch Post hz => ?_)
            rotate_left
            · obtain ⟨hb, rfl, m2, rfl⟩ := hz
              have hnone : litD (.mk 10 n b t items) inside = none := by
                have h1 : maxR (litsD items) = none := by
                  rw [litsD_map]
                  exact maxR_none (List.mem_map.2 ⟨_, List.mem_of_getElem? hy, hb⟩)
                simp [litD, h1, manyR, deeper, mustR]
              exact ⟨[A, lkA lb m2 deep], by exact IMx, hnone, rfl, m2, rfl⟩
            obtain ⟨e, m2, he, rfl, rfl⟩ := hv
            simp only [CNx]
            have htk : items.take (j + 1) = items.take j ++ [.mk k2 n2 b2 t2 items2] := by rw [List.take_add_one, hy]; rfl
            refine GOH ?_
            rw [show (if (e : Int) > (d : Int) then (e : Int) else (d : Int)) = ((max d e : Nat) : Int) by split <;> omega]
            refine ⟨(j + 1, max d e, mm || m2), ⟨by simp only; omega, ?_⟩, by simp only; omega, by exact SUx, ?_⟩
            · simp only [htk, List.map_append, List.map_cons, List.map_nil, he]
              exact maxR_snoc i2
            · simp only [Bool.or_assoc]
              exact IMx
      refine GOH ?_
      rw [show decide ((k : Int) = 1) = false from decide_eq_false (by omega)]
      refine GOH ?_
      rw [show decide ((k : Int) = 2) = false from decide_eq_false (by omega)]
      refine GOH ?_
      rw [show decide ((k : Int) = 3) = false from decide_eq_false (by omega)]
      refine GOH ?_
      rw [show decide ((k : Int) = 4) = false from decide_eq_false (by omega)]
      refine GOH ?_
      rw [show decide ((k : Int) = 5) = false from decide_eq_false (by omega)]
      refine GOH ?_
      rw [show decide ((k : Int) = 6) = false from decide_eq_false (by omega)]
      refine GOH ?_
      rw [show decide ((k : Int) = 7) = false from decide_eq_false (by omega)]
      refine GOH ?_
      rw [show decide ((k : Int) = 11) = false from decide_eq_false (by omega)]
      refine GOH ?_
      rw [show decide ((k : Int) = 8) = false from decide_eq_false (by omega)]
      refine GOH ?_
      rw [show decide ((k : Int) = 9) = false from decide_eq_false (by omega)]
      refine GOH ?_
      rw [show decide ((k : Int) = 10) = false from decide_eq_false (by omega)]
      refine GOH ?_
      have hnone : litD (.mk k n b t items) inside = none := by simp [litD, k1, k2, k3, k4, k5, k6, k7, k8, k9, k10, k11]
      refine st_callZ (must_spec false) (by rfl) (by exact SPx) (fun v Post hv => absurd hv.1 (by decide)) (fun ch Post hz => ?_)
      obtain ⟨_, rfl, rfl⟩ := hz
      exact ⟨[A, lkA lb m0 deep], by exact IMx, hnone, rfl, m0, rfl⟩
    · rintro ⟨d, mm, n', b', t', sv, l⟩ ⟨⟨a', c', hsv⟩, hl⟩
      simp only at hsv hl
      subst hsv
      rw [hl]
      unfold LitS.ok
      simp only
      refine GOHS ?_
      by_cases h1 : n' = 0
      rotate_left
      · have hno : ¬ (n' = 0 ∧ b' = 0 ∧ t'.size = 0 ∧ l = 0) := fun h => h1 h.1
        rw [decide_eq_false h1]
        refine GOHS ?_
        refine st_callZ (must_spec false) (by rfl) (by exact SPx) (fun v Post hv => absurd hv.1 (by decide)) (fun ch Post hz => ?_)
        obtain ⟨_, rfl, rfl⟩ := hz
        exact ⟨[A, lkA lb (m0 || mm) deep], by exact IMx, if_neg hno, rfl, _, rfl⟩
      rw [decide_eq_true h1]
      refine GOHS ?_
      by_cases h2 : b' = 0
      rotate_left
      · have hno : ¬ (n' = 0 ∧ b' = 0 ∧ t'.size = 0 ∧ l = 0) := fun h => h2 h.2.1
        rw [show decide ((b' : Int) = 0) = false from decide_eq_false (by omega)]
        refine GOHS ?_
        refine st_callZ (must_spec false) (by rfl) (by exact SPx) (fun v Post hv => absurd hv.1 (by decide)) (fun ch Post hz => ?_)
        obtain ⟨_, rfl, rfl⟩ := hz
        exact ⟨[A, lkA lb (m0 || mm) deep], by exact IMx, if_neg hno, rfl, _, rfl⟩
      rw [show decide ((b' : Int) = 0) = true from decide_eq_true (by omega)]
      refine GOHS ?_
      by_cases h3 : t' = ⟨#[]⟩
      rotate_left
      · have hno : ¬ (n' = 0 ∧ b' = 0 ∧ t'.size = 0 ∧ l = 0) := fun h => h3 (ByteArray.ext (Array.eq_empty_of_size_eq_zero h.2.2.1))
        rw [decide_eq_false h3]
        refine GOHS ?_
        refine st_callZ (must_spec false) (by rfl) (by exact SPx) (fun v Post hv => absurd hv.1 (by decide)) (fun ch Post hz => ?_)
        obtain ⟨_, rfl, rfl⟩ := hz
        exact ⟨[A, lkA lb (m0 || mm) deep], by exact IMx, if_neg hno, rfl, _, rfl⟩
      rw [decide_eq_true h3]
      refine GOHS ?_
      by_cases h4 : l = 0
      rotate_left
      · have hno : ¬ (n' = 0 ∧ b' = 0 ∧ t'.size = 0 ∧ l = 0) := fun h => h4 h.2.2.2
        rw [show decide ((l : Int) = 0) = false from decide_eq_false (by omega)]
        refine GOHS ?_
        refine st_callZ (must_spec false) (by rfl) (by exact SPx) (fun v Post hv => absurd hv.1 (by decide)) (fun ch Post hz => ?_)
        obtain ⟨_, rfl, rfl⟩ := hz
        exact ⟨[A, lkA lb (m0 || mm) deep], by exact IMx, if_neg hno, rfl, _, rfl⟩
      rw [show decide ((l : Int) = 0) = true from decide_eq_true (by omega)]
      refine GOHS ?_
      refine st_callZ (must_spec true) (by rfl) (by exact SPx) (fun v Post hv => ?_) (fun ch Post hz => absurd hz.1 (by decide))
      obtain ⟨_, rfl, rfl⟩ := hv
      simp only [List.nil_append]
      refine GOHS ?_
      exact endP_mk (endQ_mk (Post := [A, lkA lb (m0 || mm) deep]) (.inr rfl) (.tmp (by rfl) .nil) ⟨d, mm, if_pos ⟨h1, h2, by rw [h3]; rfl, h4⟩, rfl, rfl⟩ (by exact IMx))
theorem node_k1 (A : List Atom) (hE : ErA A) (x : Nd) (vs : List Value) (h : NdRd A x vs) (hw : x.w ≤ 274877906944) (hok : ∀ y us, y ∈ x.kids → NdRd A y us → NodeOk A y us) (hk : x.kind = 1) : NodeSw A x vs := by
  intro lb q r m0 deep
  cases h with
  | @mk k s lit args temps kids p lv av tv a c bk o us wf hl hav htv ha hm hr hcp =>
  simp only [Nd.kind] at hk
  have hl2 := hl
  cases hl2 with
  | @mk lk ln lbt lt items la lc lbk lo lus lwf lha lhm lhr =>
  have hav2 := hav
  have htv2 := htv
  obtain ⟨aa, ac, rfl, hal, har⟩ := hav2
  obtain ⟨ta, tc, rfl, htl, htr⟩ := htv2
  have hkids : KidsOk A kids a bk o us := ⟨ha, wf.many, hm, hr, fun i y e => hok y (us i) (List.mem_of_getElem? e) (hr i y e)⟩
  have hns := wf.name
  have hmany := wf.many
  simp only [Nd.w] at hw
  obtain ⟨RR, hRR⟩ : ∃ RR, RR = nodeD (.mk k s (.mk lk ln lbt lt items) args temps kids p) := ⟨_, rfl⟩
  rw [← hRR]
  rw [show nodeD (.mk k s (.mk lk ln lbt lt items) args temps kids p) = nodeR k s (.mk lk ln lbt lt items) args temps kids (kids.map nodeD) by simp [nodeD, nodesD_map]] at hRR
  show VC _ _ _ _ [cellsAt r 0 [cv k, .string s, cv lk, vi ln, uv lbt, .string lt, .slice la items.length lc, .slice aa args.length ac, .slice ta temps.length tc, .slice none 0 0, vi p], cellsAt q 0 [cv k, .string s, cv lk, vi ln, uv lbt, .string lt, .slice la items.length lc, .slice aa args.length ac, .slice ta temps.length tc, .slice a kids.length c, vi p], A, lkA lb m0 deep] _
  subst hk
  refine GOH ?_
  by_cases hk0 : kids.length = 0
  rotate_left
  · have hnone : RR = none := by simp [hRR, NodeS.ok, nodeR, mustR, litZ, Lt.kind, Lt.n, Lt.bits, Lt.text, Lt.items, hk0]
    rw [show decide ((kids.length : Int) = 0) = false from decide_eq_false (by omega)]
    refine GOH ?_
    refine st_callZ (must_spec false) (by rfl) (by exact SPx) (fun v Post hv => absurd hv.1 (by decide)) (fun ch Post hz => ?_)
    obtain ⟨_, rfl, rfl⟩ := hz
    exact ⟨[A, lkA lb m0 deep], by exact IMx, hnone, rfl, m0, rfl⟩
  rw [show decide ((kids.length : Int) = 0) = true from decide_eq_true (by omega)]
  refine GOH ?_
  refine st_callZ (must_spec true) (by rfl) (by exact SPx) (fun v Post hv => ?_) (fun ch Post hz => absurd hz.1 (by decide))
  obtain ⟨_, rfl, rfl⟩ := hv
  simp only [List.nil_append]
  refine GOH ?_
  refine st_callZ (lit_spec A hE _ _ (Nat.le_refl _) (by omega) _ hl lb m0 deep false) (by rfl) (by exact SPx) (fun v Post hv => ?_) (fun ch Post hz => ?_)
  rotate_left
  · obtain ⟨hb, rfl, m2, rfl⟩ := hz
    exact ⟨[A, lkA lb m2 deep], by exact IMx, by simp [hRR, NodeS.ok, nodeR, mustR, litZ, Lt.kind, Lt.n, Lt.bits, Lt.text, Lt.items, hb], rfl, m2, rfl⟩
  obtain ⟨d, m2, he, rfl, rfl⟩ := hv
  simp only [CNx]
  refine GOH ?_
  refine ⟨⟨d, m2, s, 0, 0, 0, ⟨#[]⟩, none, 0, 0, aa, args.length, ac, ta, temps.length, tc⟩, ?_, by exact SUx, ?_⟩
  · simp [hRR, NodeS.ok, nodeR, mustR, litZ, Lt.kind, Lt.n, Lt.bits, Lt.text, Lt.items, he, hk0, show (⟨#[]⟩ : ByteArray).size = 0 from rfl]
  · show Imp _ [A, lkA lb (m0 || m2) deep, cellsAt r 0 [cv 1, .string s, .int .u8 0, .int .i64 0, .int .u64 0, .string ⟨#[]⟩, .slice none 0 0, .slice aa args.length ac, .slice ta temps.length tc, .slice none 0 0, vi p]]
    exact IMx
theorem node_k2 (A : List Atom) (hE : ErA A) (x : Nd) (vs : List Value) (h : NdRd A x vs) (hw : x.w ≤ 274877906944) (hok : ∀ y us, y ∈ x.kids → NdRd A y us → NodeOk A y us) (hk : x.kind = 2) : NodeSw A x vs := by
  intro lb q r m0 deep
  cases h with
  | @mk k s lit args temps kids p lv av tv a c bk o us wf hl hav htv ha hm hr hcp =>
  simp only [Nd.kind] at hk
  have hl2 := hl
  cases hl2 with
  | @mk lk ln lbt lt items la lc lbk lo lus lwf lha lhm lhr =>
  have hav2 := hav
  have htv2 := htv
  obtain ⟨aa, ac, rfl, hal, har⟩ := hav2
  obtain ⟨ta, tc, rfl, htl, htr⟩ := htv2
  have hkids : KidsOk A kids a bk o us := ⟨ha, wf.many, hm, hr, fun i y e => hok y (us i) (List.mem_of_getElem? e) (hr i y e)⟩
  have hns := wf.name
  have hmany := wf.many
  simp only [Nd.w] at hw
  obtain ⟨RR, hRR⟩ : ∃ RR, RR = nodeD (.mk k s (.mk lk ln lbt lt items) args temps kids p) := ⟨_, rfl⟩
  rw [← hRR]
  rw [show nodeD (.mk k s (.mk lk ln lbt lt items) args temps kids p) = nodeR k s (.mk lk ln lbt lt items) args temps kids (kids.map nodeD) by simp [nodeD, nodesD_map]] at hRR
  show VC _ _ _ _ [cellsAt r 0 [cv k, .string s, cv lk, vi ln, uv lbt, .string lt, .slice la items.length lc, .slice aa args.length ac, .slice ta temps.length tc, .slice none 0 0, vi p], cellsAt q 0 [cv k, .string s, cv lk, vi ln, uv lbt, .string lt, .slice la items.length lc, .slice aa args.length ac, .slice ta temps.length tc, .slice a kids.length c, vi p], A, lkA lb m0 deep] _
  subst hk
  refine GOH ?_
  by_cases hk0 : kids.length = 0
  rotate_left
  · have hnone : RR = none := by simp [hRR, NodeS.ok, nodeR, mustR, litZ, Lt.kind, Lt.n, Lt.bits, Lt.text, Lt.items, hk0]
    rw [show decide ((kids.length : Int) = 0) = false from decide_eq_false (by omega)]
    refine GOH ?_
    refine st_callZ (must_spec false) (by rfl) (by exact SPx) (fun v Post hv => absurd hv.1 (by decide)) (fun ch Post hz => ?_)
    obtain ⟨_, rfl, rfl⟩ := hz
    exact ⟨[A, lkA lb m0 deep], by exact IMx, hnone, rfl, m0, rfl⟩
  rw [show decide ((kids.length : Int) = 0) = true from decide_eq_true (by omega)]
  refine GOH ?_
  refine st_callP (name_spec s hns) (by rfl) ?_
  cases hn : nameS s with
  | false =>
    have hnone : RR = none := by simp [hRR, NodeS.ok, nodeR, mustR, litZ, Lt.kind, Lt.n, Lt.bits, Lt.text, Lt.items, hn]
    refine GOH ?_
    refine st_callZ (must_spec false) (by rfl) (by exact SPx) (fun v Post hv => absurd hv.1 (by decide)) (fun ch Post hz => ?_)
    obtain ⟨_, rfl, rfl⟩ := hz
    exact ⟨[A, lkA lb m0 deep], by exact IMx, hnone, rfl, m0, rfl⟩
  | true =>
    refine GOH ?_
    refine st_callZ (must_spec true) (by rfl) (by exact SPx) (fun v Post hv => ?_) (fun ch Post hz => absurd hz.1 (by decide))
    obtain ⟨_, rfl, rfl⟩ := hv
    simp only [List.nil_append]
    refine GOH ?_
    refine ⟨⟨0, false, ⟨#[]⟩, lk, ln, lbt, lt, la, items.length, lc, aa, args.length, ac, ta, temps.length, tc⟩, ?_, by exact SUx, ?_⟩
    · simp [hRR, NodeS.ok, nodeR, mustR, litZ, Lt.kind, Lt.n, Lt.bits, Lt.text, Lt.items, hn, hk0, show (⟨#[]⟩ : ByteArray).size = 0 from rfl]
      simp only [and_assoc]
    · rw [Bool.or_false]
      show Imp _ [A, lkA lb m0 deep, cellsAt r 0 [cv 2, .string ⟨#[]⟩, cv lk, vi ln, uv lbt, .string lt, .slice la items.length lc, .slice aa args.length ac, .slice ta temps.length tc, .slice none 0 0, vi p]]
      exact IMx
theorem node_k9 (A : List Atom) (hE : ErA A) (x : Nd) (vs : List Value) (h : NdRd A x vs) (hw : x.w ≤ 274877906944) (hok : ∀ y us, y ∈ x.kids → NdRd A y us → NodeOk A y us) (hk : x.kind = 9) : NodeSw A x vs := by
  intro lb q r m0 deep
  cases h with
  | @mk k s lit args temps kids p lv av tv a c bk o us wf hl hav htv ha hm hr hcp =>
  simp only [Nd.kind] at hk
  have hl2 := hl
  cases hl2 with
  | @mk lk ln lbt lt items la lc lbk lo lus lwf lha lhm lhr =>
  have hav2 := hav
  have htv2 := htv
  obtain ⟨aa, ac, rfl, hal, har⟩ := hav2
  obtain ⟨ta, tc, rfl, htl, htr⟩ := htv2
  have hkids : KidsOk A kids a bk o us := ⟨ha, wf.many, hm, hr, fun i y e => hok y (us i) (List.mem_of_getElem? e) (hr i y e)⟩
  have hns := wf.name
  have hmany := wf.many
  simp only [Nd.w] at hw
  obtain ⟨RR, hRR⟩ : ∃ RR, RR = nodeD (.mk k s (.mk lk ln lbt lt items) args temps kids p) := ⟨_, rfl⟩
  rw [← hRR]
  rw [show nodeD (.mk k s (.mk lk ln lbt lt items) args temps kids p) = nodeR k s (.mk lk ln lbt lt items) args temps kids (kids.map nodeD) by simp [nodeD, nodesD_map]] at hRR
  show VC _ _ _ _ [cellsAt r 0 [cv k, .string s, cv lk, vi ln, uv lbt, .string lt, .slice la items.length lc, .slice aa args.length ac, .slice ta temps.length tc, .slice none 0 0, vi p], cellsAt q 0 [cv k, .string s, cv lk, vi ln, uv lbt, .string lt, .slice la items.length lc, .slice aa args.length ac, .slice ta temps.length tc, .slice a kids.length c, vi p], A, lkA lb m0 deep] _
  subst hk
  refine GOH ?_
  by_cases hk1 : kids.length = 1
  rotate_left
  · have hnone : RR = none := by
      rw [hRR]
      unfold nodeR
      rw [if_neg (by decide), if_neg (by decide), if_neg (by decide), if_neg (by decide), if_neg (by decide), if_neg (by decide), if_neg (by decide), if_neg (by decide), if_pos rfl]
      unfold mustR
      split
      · match kids, hk1 with
        | [], _ => rfl
        | _ :: _ :: _, _ => rfl
      · rfl
    rw [show decide ((kids.length : Int) = 1) = false from decide_eq_false (by omega)]
    refine GOH ?_
    refine st_callZ (must_spec false) (by rfl) (by exact SPx) (fun v Post hv => absurd hv.1 (by decide)) (fun ch Post hz => ?_)
    obtain ⟨_, rfl, rfl⟩ := hz
    exact ⟨[A, lkA lb m0 deep], by exact IMx, hnone, rfl, m0, rfl⟩
  rw [show decide ((kids.length : Int) = 1) = true from decide_eq_true (by omega)]
  obtain ⟨y, hky⟩ : ∃ y, kids = [y] := List.length_eq_one_iff.1 hk1
  have hy0 : kids[0]? = some y := by rw [hky]; rfl
  have hym := hm 0 (by omega)
  rw [Nat.zero_mul, Nat.add_zero] at hym
  have hyl := (hr 0 y hy0).len
  obtain rfl := ha (by omega)
  have hok0 := hkids.ok 0 y hy0
  have hval := fun m => value_spec A y _ (hr 0 y hy0) hok0 1 lb m deep
  refine GOH ?_
  refine st_callZ (must_spec true) (by rfl) (by exact SPx) (fun v Post hv => ?_) (fun ch Post hz => absurd hz.1 (by decide))
  obtain ⟨_, rfl, rfl⟩ := hv
  simp only [List.nil_append]
  refine GOH ?_
  refine st_loadA (by rfl) (fun z hz => List.mem_append_right _ (List.mem_append_right _ (List.mem_append_left _ (hym z hz)))) hyl ?_
  refine GOH ?_
  refine st_callZ (hval m0) (by rfl) (by exact SPx) (fun v Post hv => ?_) (fun ch Post hz => ?_)
  rotate_left
  · obtain ⟨hb, rfl, m2, rfl⟩ := hz
    exact ⟨[A, lkA lb m2 deep], by exact IMx, by simp [hRR, NodeS.ok, nodeR, mustR, litZ, Lt.kind, Lt.n, Lt.bits, Lt.text, Lt.items, hky, hb], rfl, m2, rfl⟩
  obtain ⟨d, m2, he, rfl, rfl⟩ := hv
  simp only [CNx]
  refine GOH ?_
  refine ⟨⟨d, m2, s, lk, ln, lbt, lt, la, items.length, lc, aa, args.length, ac, ta, temps.length, tc⟩, ?_, by exact SUx, ?_⟩
  · simp [hRR, NodeS.ok, nodeR, mustR, litZ, Lt.kind, Lt.n, Lt.bits, Lt.text, Lt.items, he, hky]
    simp only [and_assoc]
  · show Imp _ [A, lkA lb (m0 || m2) deep, cellsAt r 0 [cv 9, .string s, cv lk, vi ln, uv lbt, .string lt, .slice la items.length lc, .slice aa args.length ac, .slice ta temps.length tc, .slice none 0 0, vi p]]
    exact IMx
theorem node_k3 (A : List Atom) (hE : ErA A) (x : Nd) (vs : List Value) (h : NdRd A x vs) (hw : x.w ≤ 274877906944) (hok : ∀ y us, y ∈ x.kids → NdRd A y us → NodeOk A y us) (hk : x.kind = 3) : NodeSw A x vs := by
  intro lb q r m0 deep
  cases h with
  | @mk k s lit args temps kids p lv av tv a c bk o us wf hl hav htv ha hm hr hcp =>
  simp only [Nd.kind] at hk
  have hl2 := hl
  cases hl2 with
  | @mk lk ln lbt lt items la lc lbk lo lus lwf lha lhm lhr =>
  have hav2 := hav
  have htv2 := htv
  obtain ⟨aa, ac, rfl, hal, har⟩ := hav2
  obtain ⟨ta, tc, rfl, htl, htr⟩ := htv2
  have hkids : KidsOk A kids a bk o us := ⟨ha, wf.many, hm, hr, fun i y e => hok y (us i) (List.mem_of_getElem? e) (hr i y e)⟩
  have hns := wf.name
  have hmany := wf.many
  simp only [Nd.w] at hw
  obtain ⟨RR, hRR⟩ : ∃ RR, RR = nodeD (.mk k s (.mk lk ln lbt lt items) args temps kids p) := ⟨_, rfl⟩
  rw [← hRR]
  rw [show nodeD (.mk k s (.mk lk ln lbt lt items) args temps kids p) = nodeR k s (.mk lk ln lbt lt items) args temps kids (kids.map nodeD) by simp [nodeD, nodesD_map]] at hRR
  show VC _ _ _ _ [cellsAt r 0 [cv k, .string s, cv lk, vi ln, uv lbt, .string lt, .slice la items.length lc, .slice aa args.length ac, .slice ta temps.length tc, .slice none 0 0, vi p], cellsAt q 0 [cv k, .string s, cv lk, vi ln, uv lbt, .string lt, .slice la items.length lc, .slice aa args.length ac, .slice ta temps.length tc, .slice a kids.length c, vi p], A, lkA lb m0 deep] _
  subst hk
  refine GOH ?_
  refine st_bslice (out := [.string s]) (by rfl) (by rfl) (fun q3 => ?_)
  refine GOH ?_
  have hrd : RdT (cellsAt q3 0 [.string s]) (.slice (some ⟨q3, 0, none⟩) 1 1) [s] := ⟨_, _, rfl, by simp, fun i t e => by
    cases i with
    | zero => cases e; exact ⟨q3, 0, rfl, by simp [cellsAt], hns⟩
    | succ i => simp at e⟩
  refine st_callZ (names_spec (cellsAt q3 0 [.string s]) _ [s] hrd lb 1 m0 deep) (by rfl) (by exact SPx) (fun v Post hv => ?_) (fun ch Post hz => ?_)
  rotate_left
  · obtain ⟨hb, rfl, m2, rfl⟩ := hz
    have hfr : freeS s = false := by simpa using hb
    exact ⟨[A, lkA lb m2 deep], by exact IMx, by simp [hRR, NodeS.ok, nodeR, mustR, litZ, Lt.kind, Lt.n, Lt.bits, Lt.text, Lt.items, hfr], rfl, m2, rfl⟩
  obtain ⟨hb, rfl, rfl⟩ := hv
  have hfr : freeS s = true := by simpa using hb
  rw [show (m0 || decide (1 < [s].length)) = m0 by simp]
  simp only [CNx]
  refine GOH ?_
  by_cases hk1 : kids.length = 1
  rotate_left
  · have hnone : RR = none := by
      rw [hRR]
      unfold nodeR
      rw [if_neg (by decide), if_neg (by decide), if_pos rfl]
      unfold mustR
      split
      · match kids, hk1 with
        | [], _ => rfl
        | _ :: _ :: _, _ => rfl
      · rfl
    rw [show decide ((kids.length : Int) = 1) = false from decide_eq_false (by omega)]
    refine GOH ?_
    refine st_callZ (must_spec false) (by rfl) (by exact SPx) (fun v Post hv => absurd hv.1 (by decide)) (fun ch Post hz => ?_)
    obtain ⟨_, rfl, rfl⟩ := hz
    exact ⟨[A, lkA lb m0 deep], by exact IMx, hnone, rfl, m0, rfl⟩
  rw [show decide ((kids.length : Int) = 1) = true from decide_eq_true (by omega)]
  obtain ⟨y, hky⟩ : ∃ y, kids = [y] := List.length_eq_one_iff.1 hk1
  have hy0 : kids[0]? = some y := by rw [hky]; rfl
  have hym := hm 0 (by omega)
  rw [Nat.zero_mul, Nat.add_zero] at hym
  have hyl := (hr 0 y hy0).len
  obtain rfl := ha (by omega)
  have hok0 := hkids.ok 0 y hy0
  have hval := fun m => value_spec A y _ (hr 0 y hy0) hok0 1 lb m deep
  refine GOH ?_
  refine st_callZ (must_spec true) (by rfl) (by exact SPx) (fun v Post hv => ?_) (fun ch Post hz => absurd hz.1 (by decide))
  obtain ⟨_, rfl, rfl⟩ := hv
  simp only [List.nil_append]
  refine GOH ?_
  refine st_loadA (by rfl) (fun z hz => by simp only [List.flatten_cons, List.mem_append]; simp [hym z hz]) hyl ?_
  refine GOH ?_
  refine st_callZ (hval m0) (by rfl) (by exact SPx) (fun v Post hv => ?_) (fun ch Post hz => ?_)
  rotate_left
  · obtain ⟨hb, rfl, m2, rfl⟩ := hz
    exact ⟨[A, lkA lb m2 deep], by exact IMx, by simp [hRR, NodeS.ok, nodeR, mustR, litZ, Lt.kind, Lt.n, Lt.bits, Lt.text, Lt.items, hky, hb], rfl, m2, rfl⟩
  obtain ⟨d, m2, he, rfl, rfl⟩ := hv
  simp only [CNx]
  refine GOH ?_
  refine ⟨⟨d, m2, ⟨#[]⟩, lk, ln, lbt, lt, la, items.length, lc, aa, args.length, ac, ta, temps.length, tc⟩, ?_, by exact SUx, ?_⟩
  · simp [hRR, NodeS.ok, nodeR, mustR, litZ, Lt.kind, Lt.n, Lt.bits, Lt.text, Lt.items, he, hky, hfr, show (⟨#[]⟩ : ByteArray).size = 0 from rfl]
    simp only [and_assoc]
  · show Imp _ [A, lkA lb (m0 || m2) deep, cellsAt r 0 [cv 3, .string ⟨#[]⟩, cv lk, vi ln, uv lbt, .string lt, .slice la items.length lc, .slice aa args.length ac, .slice ta temps.length tc, .slice none 0 0, vi p]]
    exact IMx
theorem node_k6 (A : List Atom) (hE : ErA A) (x : Nd) (vs : List Value) (h : NdRd A x vs) (hw : x.w ≤ 274877906944) (hok : ∀ y us, y ∈ x.kids → NdRd A y us → NodeOk A y us) (hk : x.kind = 6) : NodeSw A x vs := by
  intro lb q r m0 deep
  cases h with
  | @mk k s lit args temps kids p lv av tv a c bk o us wf hl hav htv ha hm hr hcp =>
  simp only [Nd.kind] at hk
  have hl2 := hl
  cases hl2 with
  | @mk lk ln lbt lt items la lc lbk lo lus lwf lha lhm lhr =>
  have hav2 := hav
  have htv2 := htv
  obtain ⟨aa, ac, rfl, hal, har⟩ := hav2
  obtain ⟨ta, tc, rfl, htl, htr⟩ := htv2
  have hkids : KidsOk A kids a bk o us := ⟨ha, wf.many, hm, hr, fun i y e => hok y (us i) (List.mem_of_getElem? e) (hr i y e)⟩
  have hns := wf.name
  have hmany := wf.many
  simp only [Nd.w] at hw
  obtain ⟨RR, hRR⟩ : ∃ RR, RR = nodeD (.mk k s (.mk lk ln lbt lt items) args temps kids p) := ⟨_, rfl⟩
  rw [← hRR]
  rw [show nodeD (.mk k s (.mk lk ln lbt lt items) args temps kids p) = nodeR k s (.mk lk ln lbt lt items) args temps kids (kids.map nodeD) by simp [nodeD, nodesD_map]] at hRR
  show VC _ _ _ _ [cellsAt r 0 [cv k, .string s, cv lk, vi ln, uv lbt, .string lt, .slice la items.length lc, .slice aa args.length ac, .slice ta temps.length tc, .slice none 0 0, vi p], cellsAt q 0 [cv k, .string s, cv lk, vi ln, uv lbt, .string lt, .slice la items.length lc, .slice aa args.length ac, .slice ta temps.length tc, .slice a kids.length c, vi p], A, lkA lb m0 deep] _
  subst hk
  refine GOH ?_
  refine st_callZ (arguments_spec A kids a c bk o us hkids s hns lb m0 deep) (by rfl) (by exact SPx) (fun v Post hv => ?_) (fun ch Post hz => ?_)
  rotate_left
  · obtain ⟨hb, rfl, m2, rfl⟩ := hz
    exact ⟨[A, lkA lb m2 deep], by exact IMx, by simp [hRR, NodeS.ok, nodeR, mustR, litZ, Lt.kind, Lt.n, Lt.bits, Lt.text, Lt.items, hb], rfl, m2, rfl⟩
  obtain ⟨d, m2, he, rfl, rfl⟩ := hv
  simp only [CNx]
  refine GOH ?_
  refine ⟨⟨d, m2, ⟨#[]⟩, lk, ln, lbt, lt, la, items.length, lc, aa, args.length, ac, ta, temps.length, tc⟩, ?_, by exact SUx, ?_⟩
  · simp [hRR, NodeS.ok, nodeR, mustR, litZ, Lt.kind, Lt.n, Lt.bits, Lt.text, Lt.items, he, show (⟨#[]⟩ : ByteArray).size = 0 from rfl]
    simp only [and_assoc]
  · show Imp _ [A, lkA lb (m0 || m2) deep, cellsAt r 0 [cv 6, .string ⟨#[]⟩, cv lk, vi ln, uv lbt, .string lt, .slice la items.length lc, .slice aa args.length ac, .slice ta temps.length tc, .slice none 0 0, vi p]]
    exact IMx
theorem node_k0 (A : List Atom) (hE : ErA A) (x : Nd) (vs : List Value) (h : NdRd A x vs) (hw : x.w ≤ 274877906944) (hok : ∀ y us, y ∈ x.kids → NdRd A y us → NodeOk A y us) (hk : x.kind ≠ 1 ∧ x.kind ≠ 2 ∧ x.kind ≠ 3 ∧ x.kind ≠ 4 ∧ x.kind ≠ 5 ∧ x.kind ≠ 6 ∧ x.kind ≠ 7 ∧ x.kind ≠ 8 ∧ x.kind ≠ 9) : NodeSw A x vs := by
  intro lb q r m0 deep
  cases h with
  | @mk k s lit args temps kids p lv av tv a c bk o us wf hl hav htv ha hm hr hcp =>
  simp only [Nd.kind] at hk
  have hl2 := hl
  cases hl2 with
  | @mk lk ln lbt lt items la lc lbk lo lus lwf lha lhm lhr =>
  have hav2 := hav
  have htv2 := htv
  obtain ⟨aa, ac, rfl, hal, har⟩ := hav2
  obtain ⟨ta, tc, rfl, htl, htr⟩ := htv2
  have hkids : KidsOk A kids a bk o us := ⟨ha, wf.many, hm, hr, fun i y e => hok y (us i) (List.mem_of_getElem? e) (hr i y e)⟩
  have hns := wf.name
  have hmany := wf.many
  simp only [Nd.w] at hw
  obtain ⟨RR, hRR⟩ : ∃ RR, RR = nodeD (.mk k s (.mk lk ln lbt lt items) args temps kids p) := ⟨_, rfl⟩
  rw [← hRR]
  rw [show nodeD (.mk k s (.mk lk ln lbt lt items) args temps kids p) = nodeR k s (.mk lk ln lbt lt items) args temps kids (kids.map nodeD) by simp [nodeD, nodesD_map]] at hRR
  show VC _ _ _ _ [cellsAt r 0 [cv k, .string s, cv lk, vi ln, uv lbt, .string lt, .slice la items.length lc, .slice aa args.length ac, .slice ta temps.length tc, .slice none 0 0, vi p], cellsAt q 0 [cv k, .string s, cv lk, vi ln, uv lbt, .string lt, .slice la items.length lc, .slice aa args.length ac, .slice ta temps.length tc, .slice a kids.length c, vi p], A, lkA lb m0 deep] _
  obtain ⟨k1, k2, k3, k4, k5, k6, k7, k8, k9⟩ := hk
  have hnone : RR = none := by simp [hRR, nodeR, k1, k2, k3, k4, k5, k6, k7, k8, k9]
  refine GOH ?_
  rw [show decide ((k : Int) = 1) = false from decide_eq_false (by omega)]
  refine GOH ?_
  rw [show decide ((k : Int) = 2) = false from decide_eq_false (by omega)]
  refine GOH ?_
  rw [show decide ((k : Int) = 3) = false from decide_eq_false (by omega)]
  refine GOH ?_
  rw [show decide ((k : Int) = 4) = false from decide_eq_false (by omega)]
  refine GOH ?_
  rw [show decide ((k : Int) = 6) = false from decide_eq_false (by omega)]
  refine GOH ?_
  rw [show decide ((k : Int) = 5) = false from decide_eq_false (by omega)]
  refine GOH ?_
  rw [show decide ((k : Int) = 7) = false from decide_eq_false (by omega)]
  refine GOH ?_
  rw [show decide ((k : Int) = 8) = false from decide_eq_false (by omega)]
  refine GOH ?_
  rw [show decide ((k : Int) = 9) = false from decide_eq_false (by omega)]
  refine GOH ?_
  refine st_callZ (must_spec false) (by rfl) (by exact SPx) (fun v Post hv => absurd hv.1 (by decide)) (fun ch Post hz => ?_)
  obtain ⟨_, rfl, rfl⟩ := hz
  exact ⟨[A, lkA lb m0 deep], by exact IMx, hnone, rfl, m0, rfl⟩
end Go.Proofs.YtmnmandpdadedaaGreatDoor

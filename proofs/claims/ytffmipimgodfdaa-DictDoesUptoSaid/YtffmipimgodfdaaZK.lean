/-
 The code of functions, as terms: printed by a program, proved to be what the seat has.
-/
import Derived.Test.YtffmipimgodfdaaWM
import Derived.KernelRfl
import Derived.Test.YtffmipimgodfdaaProg
import Derived.Test.YtffmipimgodfdaaRW
import Derived.Test.YtffmipimgodfdaaDV
set_option linter.unusedSimpArgs false
set_option linter.unusedVariables false
namespace Go.Proofs.Ytffmipimgodfdaa
open Go Go.V
set_option maxRecDepth 100000
/- palaver/palaverref00.mark -/
def kp59 : List (Nat × List Nat) := [(0, [0]), (1, [0, 5]), (2, [2]), (3, [0, 3]), (4, [0, 3, 17]), (5, [2]), (6, [2])]
def od59 : List (Nat × List (List Nat)) := []
def F59 : FIR := ⟨24, [.tmp 2],
 (.seq (.reg [⟨(some 2), none, .mv (.const (Value.string ⟨#[]⟩))⟩] [0])
 (.seq (.seq (.reg [⟨(some 4), none, .mv (.tmp 0)⟩,
 ⟨(some 5), none, .bin .lss (.tmp 4) (.const (Value.int IntKind.i64 0))⟩] [0, 5])
 (.cond (.tmp 5)
 (.seq (.reg [⟨(some 6), none, .mv (.tmp 0)⟩,
 ⟨(some 7), none, .un .neg (.tmp 6)⟩,
 ⟨(some 8), none, .call 59 [(.tmp 7)]⟩,
 ⟨(some 9), none, .bin .add (.const (Value.string ⟨#[45]⟩)) (.tmp 8)⟩,
 ⟨(some 2), none, .mv (.tmp 9)⟩] [2])
 .ret)
 .skip))
 (.seq (.reg [⟨(some 10), none, .mv (.tmp 0)⟩,
 ⟨(some 11), none, .bin .rem (.tmp 10) (.const (Value.int IntKind.i64 26))⟩,
 ⟨(some 12), none, .bin .add (.const (Value.int IntKind.i64 97)) (.tmp 11)⟩,
 ⟨(some 13), none, .conv .u8 (.tmp 12)⟩,
 ⟨(some 14), none, .bslice 5 1 [(Value.int IntKind.u8 0)] [(0, 1, (.tmp 13))]⟩,
 ⟨(some 15), none, .b2s (.tmp 14)⟩,
 ⟨(some 3), none, .mv (.tmp 15)⟩] [0, 3])
 (.seq (.seq (.reg [⟨(some 16), none, .mv (.tmp 0)⟩,
 ⟨(some 17), none, .bin .geq (.tmp 16) (.const (Value.int IntKind.i64 26))⟩] [0, 3, 17])
 (.cond (.tmp 17)
 (.seq (.reg [⟨(some 18), none, .mv (.tmp 0)⟩,
 ⟨(some 19), none, .bin .quo (.tmp 18) (.const (Value.int IntKind.i64 26))⟩,
 ⟨(some 20), none, .call 59 [(.tmp 19)]⟩,
 ⟨(some 21), none, .mv (.tmp 3)⟩,
 ⟨(some 22), none, .bin .add (.tmp 20) (.tmp 21)⟩,
 ⟨(some 2), none, .mv (.tmp 22)⟩] [2])
 .ret)
 .skip))
 (.seq (.reg [⟨(some 23), none, .mv (.tmp 3)⟩,
 ⟨(some 2), none, .mv (.tmp 23)⟩] [2])
 .ret)))))⟩
theorem low59 : lowF Try.prog (assoc kp59) (assoc od59) 59 = some F59 := by kernel_rfl

end Go.Proofs.Ytffmipimgodfdaa
namespace Go.V
open Go
def chB (n : Nat) : ByteArray := ⟨#[UInt8.ofNat (97 + n % 26)]⟩
def markN (n : Nat) : ByteArray := if _h : 26 ≤ n then markN (n / 26) ++ chB n else chB n
termination_by n
decreasing_by omega
def minusB : ByteArray := ⟨#[45]⟩
def markZ (z : Int) : ByteArray := if z < 0 then minusB ++ markN (-z).toNat else markN z.toNat
theorem markN_size : ∀ (f n : Nat), n < 26 ^ (f + 1) → (markN n).size ≤ f + 1 := by
  intro f
  induction f with
  | zero =>
    intro n h
    unfold markN
    rw [dif_neg (by simp at h; omega)]
    exact Nat.le_refl _
  | succ f ih =>
    intro n h
    unfold markN
    split
    · have : n / 26 < 26 ^ (f + 1) := by
        rw [Nat.div_lt_iff_lt_mul (by omega)]; rw [Nat.pow_succ] at h; exact h
      have := ih _ this
      rw [ByteArray.size_append]
      have e : (chB n).size = 1 := rfl
      omega
    · have e : (chB n).size = 1 := rfl
      omega
theorem markN_small {n : Nat} (h : n ≤ 4611686018427387904) : (markN n).size ≤ 14 := by
  refine markN_size 13 n ?_
  rw [show (26 : Nat) ^ (13 + 1) = 64509974703297150976 by decide]
  omega
theorem ch_txt (n : Nat) : ftxt [UInt8.ofNat (97 + n % 26)] = chB n := rfl
end Go.V
namespace Go.Proofs.Ytffmipimgodfdaa
open Go Go.V
set_option maxHeartbeats 6400000
set_option maxRecDepth 100000
set_option linter.unusedSimpArgs false
set_option linter.unusedVariables false
theorem markN_spec : ∀ n : Nat, n ≤ 4611686018427387904 → Fun Try.prog 59 [vi n] [] (fun v Post => v = .string (markN n) ∧ Post = []) := by
  intro n
  induction n using Nat.strongRecOn with
  | _ n ih =>
  intro hn
  refine Fun.intro low59 (by simp [F59]) ?_
  refine GO ?_
  have hr : (n : Int).tmod 26 = ((n % 26 : Nat) : Int) := by rw [Int.tmod_eq_emod_of_nonneg (by omega)]; omega
  have he : IntKind.u8.wrap (IntKind.i64.wrap (97 + (n : Int).tmod 26)) = ((UInt8.ofNat (97 + n % 26)).toNat : Int) := by
    rw [hr, wrap64 ⟨by omega, by omega⟩]
    have : (UInt8.ofNat (97 + n % 26)).toNat = 97 + n % 26 := by simp; omega
    rw [this]
    simp [IntKind.wrap, IntKind.bits, IntKind.signed]; omega
  rw [he]
  refine st_bslice (out := [u8v (UInt8.ofNat (97 + n % 26))]) (by rfl) (by rfl) (fun q => ?_)
  refine GO ?_
  refine st_b2s (l := [UInt8.ofNat (97 + n % 26)]) (by rfl) ((IsSl.mk (b := q) (o := 0) (n := 1) (c := 1) (xs := [u8v (UInt8.ofNat (97 + n % 26))]) (sp := []) rfl rfl (Nat.le_refl _)).bytes .here) ?_
  rw [ch_txt]
  refine GO ?_
  by_cases h26 : 26 ≤ n
  · simp only [show (26 : Int) ≤ (n : Int) by omega, decide_true, show ((n : Int) ≥ 26) by omega]
    refine GO ?_
    have hq : IntKind.i64.wrap ((n : Int).tdiv 26) = ((n / 26 : Nat) : Int) := by
      rw [Int.tdiv_eq_ediv_of_nonneg (by omega)]
      rw [wrap64 ⟨by omega, by omega⟩]; omega
    rw [hq]
    refine GO ?_
    refine st_call (ih (n / 26) (by omega) (by omega)) (by rfl) Spl.nil (fun v Post hv => ?_)
    obtain ⟨rfl, rfl⟩ := hv
    simp only [List.nil_append]
    have hs := markN_small (n := n / 26) (by omega)
    refine GO ?_
    refine st_cat (by rfl) (by rfl) (by have e : (chB n).size = 1 := rfl; omega) ?_
    refine GO ?_
    exact endQ_mk (Post := []) (.inr rfl) (.tmp (by rfl) .nil) ⟨by rw [show markN n = markN (n / 26) ++ chB n by rw [markN, dif_pos h26]]; rfl, rfl⟩ (by (first | with_reducible exact Imp.refl | with_reducible exact Imp.left | (focus ((try simp only [List.nil_append]); (repeat (first | exact Imp.nil | (apply Imp.cons; (focus ((repeat (first | with_reducible exact Tk.here | apply Tk.there)); done))))); done))))
  · simp only [show ¬ ((n : Int) ≥ 26) by omega, decide_false]
    refine GO ?_
    exact endQ_mk (Post := []) (.inr rfl) (.tmp (by rfl) .nil) ⟨by rw [show markN n = chB n by rw [markN, dif_neg h26]]; rfl, rfl⟩ (by (first | with_reducible exact Imp.refl | with_reducible exact Imp.left | (focus ((try simp only [List.nil_append]); (repeat (first | exact Imp.nil | (apply Imp.cons; (focus ((repeat (first | with_reducible exact Tk.here | apply Tk.there)); done))))); done))))

theorem mark_spec (z : Int) (h1 : -4611686018427387904 ≤ z) (h2 : z ≤ 4611686018427387904) : Fun Try.prog 59 [vi z] [] (fun v Post => v = .string (markZ z) ∧ Post = []) := by
  by_cases hz : z < 0
  rotate_left
  · obtain ⟨n, rfl⟩ := Int.eq_ofNat_of_zero_le (show 0 ≤ z by omega)
    rw [show markZ n = markN n by unfold markZ; rw [if_neg (by omega)]; rfl]
    exact markN_spec n (by omega)
  refine Fun.intro low59 (by simp [F59]) ?_
  refine GO ?_
  simp only [decide_eq_true hz]
  refine GO ?_
  have hw : IntKind.i64.wrap (0 - z) = (((-z).toNat : Nat) : Int) := by rw [wrap64 ⟨by omega, by omega⟩]; omega
  rw [hw]
  refine st_call (markN_spec (-z).toNat (by omega)) (by rfl) Spl.nil (fun v Post hv => ?_)
  obtain ⟨rfl, rfl⟩ := hv
  simp only [List.nil_append]
  have hs := markN_small (n := (-z).toNat) (by omega)
  refine GO ?_
  refine st_cat (by rfl) (by rfl) (by have e : (ByteArray.mk #[45]).size = 1 := rfl; omega) ?_
  refine GO ?_
  exact endQ_mk (Post := []) (.inr rfl) (.tmp (by rfl) .nil) ⟨by rw [show markZ z = minusB ++ markN (-z).toNat by unfold markZ; rw [if_pos hz]]; rfl, rfl⟩ (by (first | with_reducible exact Imp.refl | with_reducible exact Imp.left | (focus ((try simp only [List.nil_append]); (repeat (first | exact Imp.nil | (apply Imp.cons; (focus ((repeat (first | with_reducible exact Tk.here | apply Tk.there)); done))))); done))))
end Go.Proofs.Ytffmipimgodfdaa

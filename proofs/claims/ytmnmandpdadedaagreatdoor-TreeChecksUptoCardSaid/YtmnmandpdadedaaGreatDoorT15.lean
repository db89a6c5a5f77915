/-
  Check, by the document.
-/
import Derived.Test.YtmnmandpdadedaaGreatDoorT14
import Derived.Test.YtmnmandpdadedaaGreatDoorT7
import Derived.Test.YtmnmandpdadedaaGreatDoorT10
import Derived.Test.YtmnmandpdadedaaGreatDoorT9
import Derived.Test.YtmnmandpdadedaaGreatDoorV5
import Derived.Test.YtmnmandpdadedaaGreatDoorCards
import Derived.Test.YtmnmandpdadedaaGreatDoorTie
import Derived.OpenShut
import Derived.Deep.DeepHandedRow
import Derived.Deep.DeepWitnessRowRef
import Derived.Lib.LaidTab
import Derived.JoinedCond
import Derived.Lay
import Derived.Stop.LaidErr
import Derived.KernelRfl
set_option linter.unusedSimpArgs false
set_option linter.unusedVariables false
namespace Go.Proofs.YtmnmandpdadedaaGreatDoor
open Go Go.V
set_option maxHeartbeats 1600000
set_option maxRecDepth 100000
theorem formsN_each {k m : Nat} : ∀ {l : List Nd} {i : Nat}, kh k m i l = true -> ∀ y ∈ l, jB y = true := fun {l i} h y hy => formN_kids h y hy
theorem CheckR_spec (A : List kE) (hE : ErA A) (x : Md) (hw : Nd.ws x.body <= 274877906944) (vs : List Value) (h : MdW A x vs) : Fun Tryz.prog 21 [.agg vs.toArray] [A] (fun v Post => v = vi (checkM x) /\ Post = [A]) := by
  rw [checkM_law];obtain ⟨⟨aa, ac, ta, tc, a, c, bk, o, us, rfl, hav, htv, hk⟩, hsel, hprim⟩ := h;have har := arityR_spec x.sel hsel;have hal := arityS_le x.sel hsel;have hfa := frees_spec A _ x.args hav;have hft := frees_spec A _ x.temps htv;have hbody := body_spec A hE x.body hw a c bk o us hk;have hforms := @formsN_each 7 x.body.length x.body 0;have hla : x.args.length <= 1099511627776 := by obtain ⟨_, _, _, h, _⟩ := hav;exact h
  have hlt : x.temps.length <= 1099511627776 := by obtain ⟨_, _, _, h, _⟩ := htv;exact h
  obtain ⟨ha, hmany, hm, hr⟩ := hk;obtain ⟨prim, hpr⟩ : ∃ p, x.prim = p := ⟨_, rfl⟩;rw [hpr] at hprim |-;generalize kR x.sel = ar at har hal |-;generalize x.args.all jH = fa at hfa |-;generalize x.temps.all jH = ft at hft |-;generalize kh 7 x.body.length 0 x.body = fb at hbody hforms |-;refine Fun.intro low21 (by simp [n21]) ?_;refine j7 ?_;refine kS Zr (fun q => ?_);simp only [Value.cells];refine j7 ?_;refine kH har Zr ?_;refine j7 ?_;refine kD hfa Zr ZP (fun v Post hv => ?_);obtain ⟨rfl, rfl⟩ := hv;simp only [CNx];refine VO.bool 19 (fa && ft) Zr ?_ ?_
  · cases fa with
    | false =>
      refine GOH ?_;exact ⟨Zs, ZU, ZI⟩
    | true =>
      refine GOH ?_;refine kD hft Zr ZP (fun v Post hv => ?_);obtain ⟨rfl, rfl⟩ := hv;simp only [CNx];refine GOH ?_;exact ⟨Zs, ZU, ZI⟩
  refine j7 ?_;refine kD hbody Zr ZP (fun v Post hv => ?_);obtain ⟨rfl, rfl⟩ := hv;simp only [CNx];refine j7 ?_;generalize hnm : (fa && ft) = nm;have hgood : (decide (ar = x.args.length /\ 0 <= prim /\ prim <= 255) && (fa && (ft && fb))) = (decide (ar = x.args.length /\ 0 <= prim /\ prim <= 255) && (nm && fb)) := by rw [<- hnm, Bool.and_assoc]
  rw [hgood];refine VC.join (α := Unit) (fun _ => [(1, kN q)]) (fun _ => [A, kA q 0 [.string x.sel, .slice aa x.args.length ac, .slice ta x.temps.length tc, vi prim, .slice a x.body.length c]]) (fun _ => (decide (ar = x.args.length /\ 0 <= prim /\ prim <= 255) && (nm && fb)) = true) ?_ ?_
  · refine GOH ?_;have stop : ∀ b : Bool, b = false -> (if b = false then 150 else if (decide (15 < x.args.length) || (decide (63 < x.temps.length) || x.body.any jL)) = true then 151 else if (x.body.any fun y => decide (40 < jO y)) = true then 152 else 0) = 150 := fun b h => if_pos h
    by_cases h1 : ar < 0
    · skip
      rw [show decide (ar < 0) = true from Zt Zo];refine GOH ?_;exact kC (Post := [A]) (.inr rfl) (.tmp Zr .nil) ⟨by rw [stop _ (by rw [Zf Zo];rfl)];rfl, rfl⟩ ZI
    rw [show decide (ar < 0) = false from Zf Zo];refine GOH ?_;by_cases h2 : ar = x.args.length;rotate_left
    · skip
      rw [show decide (ar = (x.args.length : Int)) = false from Zf Zo];refine GOH ?_;exact kC (Post := [A]) (.inr rfl) (.tmp Zr .nil) ⟨by rw [stop _ (by rw [Zf Zo];rfl)];rfl, rfl⟩ ZI
    rw [show decide (ar = (x.args.length : Int)) = true from Zt Zo];refine GOH ?_;cases nm with
    | false =>
      refine GOH ?_;exact kC (Post := [A]) (.inr rfl) (.tmp Zr .nil) ⟨by rw [stop _ Zs];rfl, rfl⟩ ZI
    | true =>
      refine GOH ?_;by_cases h3 : prim < 0
      · skip
        rw [show decide (prim < 0) = true from Zt Zo];refine GOH ?_;exact kC (Post := [A]) (.inr rfl) (.tmp Zr .nil) ⟨by rw [stop _ (by rw [Zf Zo];rfl)];rfl, rfl⟩ ZI
      rw [show decide (prim < 0) = false from Zf Zo];refine GOH ?_;by_cases h4 : prim > 255
      · skip
        rw [show decide (prim > 255) = true from Zt Zo];refine GOH ?_;exact kC (Post := [A]) (.inr rfl) (.tmp Zr .nil) ⟨by rw [stop _ (by rw [Zf Zo];rfl)];rfl, rfl⟩ ZI
      rw [show decide (prim > 255) = false from Zf Zo];refine GOH ?_;cases fb with
      | false =>
        refine GOH ?_;exact kC (Post := [A]) (.inr rfl) (.tmp Zr .nil) ⟨by rw [stop _ Zs];rfl, rfl⟩ ZI
      | true =>
        refine GOH ?_;exact ⟨(), by rw [Zt Zo];rfl, ZU, ZI⟩
  rintro ⟨⟩ hok
  rw [hok];have hfb : fb = true := by
    simp only [Bool.and_eq_true] at hok;exact hok.2.2
  have hforms := hforms hfb;rw [if_neg Zs];refine GOH ?_;refine VO.bool 59 (decide (15 < x.args.length) || decide (63 < x.temps.length)) Zr ?_ ?_
  · by_cases h1 : 15 < x.args.length
    · skip
      rw [show decide ((x.args.length : Int) > 15) = true from Zt Zo];refine GOH ?_;exact ⟨by simp [h1], ZU, ZI⟩
    · skip
      rw [show decide ((x.args.length : Int) > 15) = false from Zf Zo];refine GOH ?_;refine ⟨?_, ZU, ZI⟩;rw [show decide ((x.temps.length : Int) > 63) = decide (63 < x.temps.length) from decide_eq_decide.2 ⟨fun h => by omega, fun h => by omega⟩];simp [h1]
  rw [<- Bool.or_assoc];generalize (decide (15 < x.args.length) || decide (63 < x.temps.length)) = m0;refine j7 ?_;refine VC.join (α := Unit) (fun _ => [(6, .bool (m0 || x.body.any jL)), (7, .bool (x.body.any fun y => decide (40 < jO y)))]) (fun _ => [A]) (fun _ => True) ?_ ?_
  · refine GOH ?_;refine VC.loop (α := Nat) (Γf := fun j => [(1, kN q), (6, .bool (m0 || (x.body.take j).any jL)), (7, .bool ((x.body.take j).any fun y => decide (40 < jO y))), (8, vi j)]) (Hf := fun _ => [A, kA q 0 [.string x.sel, .slice aa x.args.length ac, .slice ta x.temps.length tc, vi prim, .slice a x.body.length c]]) (I := fun j => j <= x.body.length) (μ := fun j => x.body.length - j) 0 (Nat.zero_le _) (by simp only [List.take_zero, List.any_nil, Bool.or_false];exact SUx) ZI ?_
    rintro j i1
    by_cases hj : j < x.body.length;rotate_left
    · rw [List.take_of_length_le Zo];generalize (x.body.any fun y => decide (40 < jO y)) = d1;generalize (m0 || x.body.any jL) = m1;refine GOH ?_;rw [show decide ((j : Int) < (x.body.length : Int)) = false from Zf Zo];refine GOH ?_;exact ⟨(), trivial, ZU, ZI⟩
    obtain rfl := ha Zo;obtain ⟨y, hy⟩ : ∃ y, x.body[j]? = some y := ⟨_, Zg hj⟩;have hyr := hr j y hy;have hym := hm j hj;have hyl := hyr.len;have hzw : y.w <= Nd.ws x.body := Nd.ws_mem (Zv hy);have hcm := Many_spec A _ y (Nat.le_refl _) _ hyr;have hyf := hforms y (Zv hy);have hcd := Deep_spec A _ y (Nat.le_refl _) Zo hyf _ hyr;have hdle := deepN_le hyf;have htm : (x.body.take (j + 1)).any jL = ((x.body.take j).any jL || jL y) := by rw [List.take_add_one, hy];simp
    have htd : ((x.body.take (j + 1)).any fun y => decide (40 < jO y)) = ((x.body.take j).any (fun y => decide (40 < jO y)) || decide (40 < jO y)) := by rw [List.take_add_one, hy];simp
    generalize us j = uj at hyr hym hcm hcd hyl;have hnm : (m0 || (x.body.take (j + 1)).any jL) = ((m0 || (x.body.take j).any jL) || jL y) := by rw [htm, Bool.or_assoc]
    generalize (m0 || (x.body.take j).any jL) = mj at hnm |-;generalize ((x.body.take j).any fun y => decide (40 < jO y)) = dj at htd |-;generalize jL y = my at hcm hnm;generalize jO y = dy at hcd hdle htd;refine GOH ?_;rw [show decide ((j : Int) < (x.body.length : Int)) = true from Zt Zo];refine GOH ?_;refine VO.bool 75 (mj || my) Zr ?_ ?_
    · cases mj with
      | true =>
        refine GOH ?_;exact ⟨Zs, ZU, ZI⟩
      | false =>
        refine GOH ?_;refine kL Zr Zah hyl ?_;refine GOH ?_;refine kD hcm Zr ZP (fun v Post hv => ?_);obtain ⟨rfl, rfl⟩ := hv;simp only [CNx];refine GOH ?_;exact ⟨Zs, ZU, ZI⟩
    refine GOH ?_;refine VO.bool 85 (dj || decide (40 < dy)) Zr ?_ ?_
    · cases dj with
      | true =>
        refine GOH ?_;exact ⟨Zs, ZU, ZI⟩
      | false =>
        refine GOH ?_;refine kL Zr Zah hyl ?_;refine GOH ?_;refine kD hcd Zr ZP (fun v Post hv => ?_);obtain ⟨rfl, rfl⟩ := hv;simp only [CNx];refine GOH ?_;refine ⟨?_, ZU, ZI⟩;rw [show decide ((dy : Int) > 40) = decide (40 < dy) from decide_eq_decide.2 ⟨fun h => by omega, fun h => by omega⟩];simp
    refine GOH ?_;refine ⟨j + 1, Zo, Zo, ?_, ZI⟩;rw [hnm, htd];exact SUx
  rintro ⟨⟩ _
  generalize (x.body.any fun y => decide (40 < jO y)) = d1;generalize (m0 || x.body.any jL) = m1;cases m1 with
  | true =>
    refine GOH ?_;exact kC (Post := [A]) (.inr rfl) (.tmp Zr .nil) ⟨by simp [tup], rfl⟩ ZI
  | false =>
    cases d1 with
    | true =>
      refine GOH ?_;exact kC (Post := [A]) (.inr rfl) (.tmp Zr .nil) ⟨by simp [tup], rfl⟩ ZI
    | false =>
      refine GOH ?_;exact kC (Post := [A]) (.inr rfl) (.tmp Zr .nil) ⟨by simp [tup], rfl⟩ ZI
end Go.Proofs.YtmnmandpdadedaaGreatDoor
namespace Go.Proofs.YtmnmandpdadedaaGreatDoor
open Go Go.V
set_option maxHeartbeats 6400000
set_option maxRecDepth 100000
theorem ndsEq_refl (l : List Nd) : zG l l = true := (z7 _ _).2 ⟨rfl, fun j y z h1 h2 => by rw [h1] at h2;cases h2;exact (ndEq_bare _ y (Nat.le_refl _)).2.2⟩
theorem mdEq_refl (x : Md) : mdEq x x = true := by simp [mdEq, ndsEq_refl]
theorem mdEq_like (x y : Md) : mdEq x y = mdLike false x y := by
  unfold mdEq mdLike zK;simp only [Bool.false_eq_true, if_false];cases decide (x.sel = y.sel) <;> cases decide (x.prim = y.prim) <;> cases decide (x.args = y.args) <;> cases decide (x.temps = y.temps) <;> rfl
theorem mdw_open {A : List kE} {x : Md} {vs : List Value} (h : MdW A x vs) : ∃ a1 a2 a3 a4 a5 a6, vs = [.string x.sel, .slice a1 x.args.length a2, .slice a3 x.temps.length a4, vi x.prim, .slice a5 x.body.length a6] := by
  obtain ⟨⟨aa, ac, ta, tc, a, c, bk, o, us, h1, _⟩, _⟩ := h;exact ⟨_, _, _, _, _, _, h1⟩
theorem mdw_len {A : List kE} {x : Md} {vs : List Value} (h : MdW A x vs) : x.args.length <= 1099511627776 /\ x.temps.length <= 1099511627776 := by
  obtain ⟨⟨aa, ac, ta, tc, a, c, bk, o, us, _, hav, htv, _⟩, _, _⟩ := h;obtain ⟨_, _, _, h1, _⟩ := hav;obtain ⟨_, _, _, h2, _⟩ := htv;exact ⟨h1, h2⟩
theorem TreeChecks_spec (A : List kE) (hE : ErA A) (x : Md) (hw : Nd.ws x.body <= 16777216 /\ x.args.length <= 16777216 /\ x.temps.length <= 16777216) (vs : List Value) (h : MdW A x vs) (y : Md) (hw2 : Nd.ws y.body <= 16777216) (ws : List Value) (h2 : MdW A y ws) : Fun Tryz.prog 3 [.agg vs.toArray, .agg ws.toArray] [A] (fun v Post => v = .bool true /\ Post = [A]) := by
  have hfx := far_spec A x vs h;have hfy := far_spec A y ws h2;have hlx := LendMethod_spec A x Zo (mdw_len h).1 (mdw_len h).2 vs h;have hly := LendMethod_spec A y Zo (mdw_len h2).1 (mdw_len h2).2 ws h2;have hrx := h;have hry := h2;obtain ⟨xa1, xa2, xa3, xa4, xa5, xa6, hvs⟩ := mdw_open h;obtain ⟨ya1, ya2, ya3, ya4, ya5, ya6, hws⟩ := mdw_open h2;rw [hvs] at hfx hlx hrx |-;rw [hws] at hfy hly hry |-;have hchk := CheckR_spec A hE x Zo _ hrx;refine Fun.intro low3 (by simp [n3]) ?_;refine GOH ?_;refine kS Zr (fun q => ?_);simp only [Value.cells];refine GOH ?_;refine kS Zr (fun q2 => ?_);simp only [Value.cells];refine GOH ?_;refine kD (awake_spec A hE) Zr ZP (fun v Post hv => ?_);obtain ⟨rfl, rfl⟩ := hv;simp only [CNx];refine GOH ?_;refine kD hfx Zr ZP (fun v Post hv => ?_);obtain ⟨b1, rfl, rfl⟩ := hv;simp only [CNx];refine GOH ?_;refine kD hfy Zr ZP (fun v Post hv => ?_);obtain ⟨b2, rfl, rfl⟩ := hv;simp only [CNx];refine j7 ?_;cases b1 with
  | true =>
    refine GOH ?_;exact kC (Post := [A]) (.inr rfl) (.tmp Zr .nil) ⟨rfl, rfl⟩ ZI
  | false =>
    cases b2 with
    | true =>
      refine GOH ?_;exact kC (Post := [A]) (.inr rfl) (.tmp Zr .nil) ⟨rfl, rfl⟩ ZI
    | false =>
      refine GOH ?_;refine kD hlx Zr ZP (fun v Post hv => ?_);obtain ⟨xs, B1, rfl, ⟨hx1, hxO⟩, rfl⟩ := hv;simp only [CNx];obtain ⟨xb1, xb2, xb3, xb4, xb5, xb6, hxs⟩ := mdw_open hx1.rd;rw [hxs] at hx1 hxO |-;refine GOH ?_;refine kP (fun q8 => ?_);refine GOH ?_;refine kD hly Zr ZP (fun v Post hv => ?_);obtain ⟨ys, B2, rfl, ⟨hy1, _⟩, rfl⟩ := hv;simp only [CNx];obtain ⟨yb1, yb2, yb3, yb4, yb5, yb6, hys⟩ := mdw_open hy1.rd;rw [hys] at hy1 |-;refine GOH ?_;refine kP (fun q9 => ?_);generalize hC : A ++ (B1 ++ B2) = C;have hAC : ∀ z ∈ A, z ∈ C := fun z hz => by rw [<- hC];exact Zw _ hz
      have hX := hx1.more (B := C) (fun z hz => by rw [<- hC];exact List.mem_append_right _ (Zw _ hz));have hY := hy1.more (B := C) (fun z hz => by rw [<- hC];exact List.mem_append_right _ (List.mem_append_right _ hz));have hx0 := hrx.more hAC;have hy0 := hry.more hAC;have hEC := hE.more hAC;have hXr := hX.rd;have hYr := hY.rd;have hXk := hXr.ok hEC Zo;have hYk := hYr.ok hEC Zo;refine VO.imp (H' := [C, kA q9 0 [.string ⟨#[]⟩, .slice none 0 0, .slice none 0 0, .int .i64 0, .slice none 0 0], kA q8 0 [.string x.sel, .slice xb1 x.args.length xb2, .slice xb3 x.temps.length xb4, vi x.prim, .slice xb5 x.body.length xb6], kA q2 0 [.string y.sel, .slice ya1 y.args.length ya2, .slice ya3 y.temps.length ya4, vi y.prim, .slice ya5 y.body.length ya6], kA q 0 [.string x.sel, .slice xa1 x.args.length xa2, .slice xa3 x.temps.length xa4, vi x.prim, .slice xa5 x.body.length xa6]]) (Imp.cut (M := [A, B1, B2, kA q9 0 [.string ⟨#[]⟩, .slice none 0 0, .slice none 0 0, .int .i64 0, .slice none 0 0], kA q8 0 [.string x.sel, .slice xb1 x.args.length xb2, .slice xb3 x.temps.length xb4, vi x.prim, .slice xb5 x.body.length xb6], kA q2 0 [.string y.sel, .slice ya1 y.args.length ya2, .slice ya3 y.temps.length ya4, vi y.prim, .slice ya5 y.body.length ya6], kA q 0 [.string x.sel, .slice xa1 x.args.length xa2, .slice xa3 x.temps.length xa4, vi x.prim, .slice xa5 x.body.length xa6]]) ZI (Imp.perm (by simp [<- hC]))) ?_;have s1 := Check_spec C x _ hXk;have s2 := Same_spec C x y _ _ hXk hYk;have s3 := Same_spec C x x _ _ hXk hXk;have s4 := Bare_spec C x _ hXr Zo;have s5 := WholeMethod_spec C x _ _ hX hx0;have s6 := WholeMethod_spec C y _ _ hY hy0;have s7 := BareMethod_spec C x Zo _ hx0;have s8 := zO C x y _ _ hx0 hy0 false;rw [mdEq_refl] at s3;rw [mdEq_like] at s2;generalize checkM x = ck at s1 hchk;generalize mdLike false x y = lk at s2 s8;refine GOH ?_;refine kD s1 Zr ZP (fun v Post hv => ?_);obtain ⟨rfl, rfl⟩ := hv;simp only [CNx];refine GOH ?_;refine kD s2 Zr ZP (fun v Post hv => ?_);obtain ⟨rfl, rfl⟩ := hv;simp only [CNx];refine GOH ?_;refine kD s3 Zr ZP (fun v Post hv => ?_);obtain ⟨rfl, rfl⟩ := hv;simp only [CNx];refine GOH ?_;refine kD s4 Zr ZP (fun v Post hv => ?_);obtain ⟨w1, D1, rfl, ⟨hd1, ho1⟩, rfl⟩ := hv;simp only [CNx];obtain ⟨ba1, ba2, ba3, ba4, ba5, ba6, hw1⟩ := mdw_open hd1;rw [hw1] at hd1 ho1 |-;refine GOH ?_;refine kP (fun q13 => ?_);refine GOH ?_;refine kD s4 Zr ZP (fun v Post hv => ?_);obtain ⟨w2, D2, rfl, ⟨hd2, ho2⟩, rfl⟩ := hv;simp only [CNx];obtain ⟨bb1, bb2, bb3, bb4, bb5, bb6, hw2'⟩ := mdw_open hd2;rw [hw2'] at hd2 ho2 |-;refine GOH ?_;refine kP (fun q14 => ?_);refine GOH ?_;refine kD s5 Zr ZP (fun v Post hv => ?_);obtain ⟨rfl, rfl⟩ := hv;simp only [CNx];refine GOH ?_;refine kD s6 Zr ZP (fun v Post hv => ?_);obtain ⟨rfl, rfl⟩ := hv;simp only [CNx];refine GOH ?_;refine kD s7 Zr ZP (fun v Post hv => ?_);obtain ⟨w3, W1, rfl, hd3, rfl⟩ := hv;simp only [CNx];obtain ⟨bc1, bc2, bc3, bc4, bc5, bc6, hw3⟩ := mdw_open hd3;rw [hw3] at hd3 |-;refine GOH ?_;refine kP (fun q17 => ?_);have u1 := zO (D1 ++ W1) x.bare x.bare _ _ (hd1.more fun z hz => Zw _ hz) (hd3.more fun z hz => List.mem_append_right _ hz) true;have u2 := zO (D2 ++ W1) x.bare x.bare _ _ (hd2.more fun z hz => Zw _ hz) (hd3.more fun z hz => List.mem_append_right _ hz) true;rw [mdLike_refl] at u1 u2;refine GOH ?_;refine VO.imp (H' := [D1 ++ W1, D2, C, kA q17 0 [.string x.bare.sel, .slice bc1 x.bare.args.length bc2, .slice bc3 x.bare.temps.length bc4, vi x.bare.prim, .slice bc5 x.bare.body.length bc6], kA q14 0 [.string x.bare.sel, .slice bb1 x.bare.args.length bb2, .slice bb3 x.bare.temps.length bb4, vi x.bare.prim, .slice bb5 x.bare.body.length bb6], kA q13 0 [.string x.bare.sel, .slice ba1 x.bare.args.length ba2, .slice ba3 x.bare.temps.length ba4, vi x.bare.prim, .slice ba5 x.bare.body.length ba6], kA q8 0 [.string x.sel, .slice xb1 x.args.length xb2, .slice xb3 x.temps.length xb4, vi x.prim, .slice xb5 x.body.length xb6], kA q2 0 [.string y.sel, .slice ya1 y.args.length ya2, .slice ya3 y.temps.length ya4, vi y.prim, .slice ya5 y.body.length ya6], kA q 0 [.string x.sel, .slice xa1 x.args.length xa2, .slice xa3 x.temps.length xa4, vi x.prim, .slice xa5 x.body.length xa6]]) (Imp.cut (M := [D1, W1, D2, C, kA q17 0 [.string x.bare.sel, .slice bc1 x.bare.args.length bc2, .slice bc3 x.bare.temps.length bc4, vi x.bare.prim, .slice bc5 x.bare.body.length bc6], kA q14 0 [.string x.bare.sel, .slice bb1 x.bare.args.length bb2, .slice bb3 x.bare.temps.length bb4, vi x.bare.prim, .slice bb5 x.bare.body.length bb6], kA q13 0 [.string x.bare.sel, .slice ba1 x.bare.args.length ba2, .slice ba3 x.bare.temps.length ba4, vi x.bare.prim, .slice ba5 x.bare.body.length ba6], kA q8 0 [.string x.sel, .slice xb1 x.args.length xb2, .slice xb3 x.temps.length xb4, vi x.prim, .slice xb5 x.body.length xb6], kA q2 0 [.string y.sel, .slice ya1 y.args.length ya2, .slice ya3 y.temps.length ya4, vi y.prim, .slice ya5 y.body.length ya6], kA q 0 [.string x.sel, .slice xa1 x.args.length xa2, .slice xa3 x.temps.length xa4, vi x.prim, .slice xa5 x.body.length xa6]]) ZI (Imp.perm Zs)) ?_;refine kD u1 Zr ZP (fun v Post hv => ?_);obtain ⟨rfl, rfl⟩ := hv;simp only [CNx];refine GOH ?_;refine VO.imp (H' := [D2 ++ W1, D1, C, kA q17 0 [.string x.bare.sel, .slice bc1 x.bare.args.length bc2, .slice bc3 x.bare.temps.length bc4, vi x.bare.prim, .slice bc5 x.bare.body.length bc6], kA q14 0 [.string x.bare.sel, .slice bb1 x.bare.args.length bb2, .slice bb3 x.bare.temps.length bb4, vi x.bare.prim, .slice bb5 x.bare.body.length bb6], kA q13 0 [.string x.bare.sel, .slice ba1 x.bare.args.length ba2, .slice ba3 x.bare.temps.length ba4, vi x.bare.prim, .slice ba5 x.bare.body.length ba6], kA q8 0 [.string x.sel, .slice xb1 x.args.length xb2, .slice xb3 x.temps.length xb4, vi x.prim, .slice xb5 x.body.length xb6], kA q2 0 [.string y.sel, .slice ya1 y.args.length ya2, .slice ya3 y.temps.length ya4, vi y.prim, .slice ya5 y.body.length ya6], kA q 0 [.string x.sel, .slice xa1 x.args.length xa2, .slice xa3 x.temps.length xa4, vi x.prim, .slice xa5 x.body.length xa6]]) (Imp.cut (M := [D1, W1, D2, C, kA q17 0 [.string x.bare.sel, .slice bc1 x.bare.args.length bc2, .slice bc3 x.bare.temps.length bc4, vi x.bare.prim, .slice bc5 x.bare.body.length bc6], kA q14 0 [.string x.bare.sel, .slice bb1 x.bare.args.length bb2, .slice bb3 x.bare.temps.length bb4, vi x.bare.prim, .slice bb5 x.bare.body.length bb6], kA q13 0 [.string x.bare.sel, .slice ba1 x.bare.args.length ba2, .slice ba3 x.bare.temps.length ba4, vi x.bare.prim, .slice ba5 x.bare.body.length ba6], kA q8 0 [.string x.sel, .slice xb1 x.args.length xb2, .slice xb3 x.temps.length xb4, vi x.prim, .slice xb5 x.body.length xb6], kA q2 0 [.string y.sel, .slice ya1 y.args.length ya2, .slice ya3 y.temps.length ya4, vi y.prim, .slice ya5 y.body.length ya6], kA q 0 [.string x.sel, .slice xa1 x.args.length xa2, .slice xa3 x.temps.length xa4, vi x.prim, .slice xa5 x.body.length xa6]]) (Imp.cut (M := [D1 ++ W1, D2, C, kA q17 0 [.string x.bare.sel, .slice bc1 x.bare.args.length bc2, .slice bc3 x.bare.temps.length bc4, vi x.bare.prim, .slice bc5 x.bare.body.length bc6], kA q14 0 [.string x.bare.sel, .slice bb1 x.bare.args.length bb2, .slice bb3 x.bare.temps.length bb4, vi x.bare.prim, .slice bb5 x.bare.body.length bb6], kA q13 0 [.string x.bare.sel, .slice ba1 x.bare.args.length ba2, .slice ba3 x.bare.temps.length ba4, vi x.bare.prim, .slice ba5 x.bare.body.length ba6], kA q8 0 [.string x.sel, .slice xb1 x.args.length xb2, .slice xb3 x.temps.length xb4, vi x.prim, .slice xb5 x.body.length xb6], kA q2 0 [.string y.sel, .slice ya1 y.args.length ya2, .slice ya3 y.temps.length ya4, vi y.prim, .slice ya5 y.body.length ya6], kA q 0 [.string x.sel, .slice xa1 x.args.length xa2, .slice xa3 x.temps.length xa4, vi x.prim, .slice xa5 x.body.length xa6]]) ZI (Imp.perm Zs)) (Imp.cut (M := [D2, W1, D1, C, kA q17 0 [.string x.bare.sel, .slice bc1 x.bare.args.length bc2, .slice bc3 x.bare.temps.length bc4, vi x.bare.prim, .slice bc5 x.bare.body.length bc6], kA q14 0 [.string x.bare.sel, .slice bb1 x.bare.args.length bb2, .slice bb3 x.bare.temps.length bb4, vi x.bare.prim, .slice bb5 x.bare.body.length bb6], kA q13 0 [.string x.bare.sel, .slice ba1 x.bare.args.length ba2, .slice ba3 x.bare.temps.length ba4, vi x.bare.prim, .slice ba5 x.bare.body.length ba6], kA q8 0 [.string x.sel, .slice xb1 x.args.length xb2, .slice xb3 x.temps.length xb4, vi x.prim, .slice xb5 x.body.length xb6], kA q2 0 [.string y.sel, .slice ya1 y.args.length ya2, .slice ya3 y.temps.length ya4, vi y.prim, .slice ya5 y.body.length ya6], kA q 0 [.string x.sel, .slice xa1 x.args.length xa2, .slice xa3 x.temps.length xa4, vi x.prim, .slice xa5 x.body.length xa6]]) ZI (Imp.perm Zs))) ?_;refine kD u2 Zr ZP (fun v Post hv => ?_);obtain ⟨rfl, rfl⟩ := hv;simp only [CNx];refine GOH ?_;refine kD s8 Zr ZP (fun v Post hv => ?_);obtain ⟨rfl, rfl⟩ := hv;simp only [CNx];refine GOH ?_;refine kS Zr (fun p => ?_);simp only [Value.cells];obtain ⟨M, hM⟩ : ∃ M, M = (D1 ++ D2) ++ B1 := ⟨_, rfl⟩;refine VO.imp (H' := [M, kA p 0 [.slice none 0 0, .slice none 0 0, .slice none 0 0, .slice none 0 0], [], [], [], A, kA q14 0 [.string x.bare.sel, .slice bb1 x.bare.args.length bb2, .slice bb3 x.bare.temps.length bb4, vi x.bare.prim, .slice bb5 x.bare.body.length bb6], kA q13 0 [.string x.bare.sel, .slice ba1 x.bare.args.length ba2, .slice ba3 x.bare.temps.length ba4, vi x.bare.prim, .slice ba5 x.bare.body.length ba6], kA q8 0 [.string x.sel, .slice xb1 x.args.length xb2, .slice xb3 x.temps.length xb4, vi x.prim, .slice xb5 x.body.length xb6], kA q 0 [.string x.sel, .slice xa1 x.args.length xa2, .slice xa3 x.temps.length xa4, vi x.prim, .slice xa5 x.body.length xa6]]) (Imp.cut (M := [D2 ++ W1, D1, C, kA p 0 [.slice none 0 0, .slice none 0 0, .slice none 0 0, .slice none 0 0], kA q14 0 [.string x.bare.sel, .slice bb1 x.bare.args.length bb2, .slice bb3 x.bare.temps.length bb4, vi x.bare.prim, .slice bb5 x.bare.body.length bb6], kA q13 0 [.string x.bare.sel, .slice ba1 x.bare.args.length ba2, .slice ba3 x.bare.temps.length ba4, vi x.bare.prim, .slice ba5 x.bare.body.length ba6], kA q8 0 [.string x.sel, .slice xb1 x.args.length xb2, .slice xb3 x.temps.length xb4, vi x.prim, .slice xb5 x.body.length xb6], kA q 0 [.string x.sel, .slice xa1 x.args.length xa2, .slice xa3 x.temps.length xa4, vi x.prim, .slice xa5 x.body.length xa6]]) ZI (Imp.cut (M := [D2, W1, D1, A, B1, B2, kA p 0 [.slice none 0 0, .slice none 0 0, .slice none 0 0, .slice none 0 0], kA q14 0 [.string x.bare.sel, .slice bb1 x.bare.args.length bb2, .slice bb3 x.bare.temps.length bb4, vi x.bare.prim, .slice bb5 x.bare.body.length bb6], kA q13 0 [.string x.bare.sel, .slice ba1 x.bare.args.length ba2, .slice ba3 x.bare.temps.length ba4, vi x.bare.prim, .slice ba5 x.bare.body.length ba6], kA q8 0 [.string x.sel, .slice xb1 x.args.length xb2, .slice xb3 x.temps.length xb4, vi x.prim, .slice xb5 x.body.length xb6], kA q 0 [.string x.sel, .slice xa1 x.args.length xa2, .slice xa3 x.temps.length xa4, vi x.prim, .slice xa5 x.body.length xa6]]) (Imp.perm (by rw [<- hC];simp)) (Imp.cut (M := [D1, D2, B1, kA p 0 [.slice none 0 0, .slice none 0 0, .slice none 0 0, .slice none 0 0], A, kA q14 0 [.string x.bare.sel, .slice bb1 x.bare.args.length bb2, .slice bb3 x.bare.temps.length bb4, vi x.bare.prim, .slice bb5 x.bare.body.length bb6], kA q13 0 [.string x.bare.sel, .slice ba1 x.bare.args.length ba2, .slice ba3 x.bare.temps.length ba4, vi x.bare.prim, .slice ba5 x.bare.body.length ba6], kA q8 0 [.string x.sel, .slice xb1 x.args.length xb2, .slice xb3 x.temps.length xb4, vi x.prim, .slice xb5 x.body.length xb6], kA q 0 [.string x.sel, .slice xa1 x.args.length xa2, .slice xa3 x.temps.length xa4, vi x.prim, .slice xa5 x.body.length xa6]]) ZI (Imp.perm (by rw [hM];simp))))) ?_;have hwb : Nd.ws x.bare.body = Nd.ws x.body := ws_bare x.body;obtain ⟨k0, hk0⟩ : ∃ k0 : Bk, k0 = ⟨.slice none 0 0, .slice none 0 0, .slice none 0 0, [], [], [], [], [], []⟩ := ⟨_, rfl⟩;have hk0ok : k0.Ok := by rw [hk0];exact ⟨.nil, .nil, .nil, fun q hq => (by cases hq), fun q hq => (by cases hq), fun q hq => (by cases hq)⟩
      have hk0n : k0.n = 0 := by rw [hk0];rfl
      have m1 := Method_spec p M x.bare Zo (show x.args.length <= _ by omega) (show x.temps.length <= _ by omega) _ D1 ho1 (fun a ha => by rw [hM];simp [ha]) k0 hk0ok Zo;rw [show k0.mem p = [kA p 0 [.slice none 0 0, .slice none 0 0, .slice none 0 0, .slice none 0 0], [], [], []] by rw [hk0];rfl] at m1;refine GOH ?_;refine kD m1 Zr ZP (fun v Post hv => ?_);obtain ⟨rfl, k1, hk1, rfl⟩ := hv;simp only [CNx];have hk1n := hk1.2.2;have m2 := Method_spec p M x.bare Zo (show x.args.length <= _ by omega) (show x.temps.length <= _ by omega) _ D2 ho2 (fun a ha => by rw [hM];simp [ha]) k1 hk1.1 Zo;simp only [Bk.mem] at m2 |-
      (try simp only [CNx])
      refine GOH ?_;refine kD m2 Zr ZP (fun v Post hv => ?_);obtain ⟨rfl, k2, hk2, rfl⟩ := hv;simp only [CNx];have hk2n := hk2.2.2;have m3 := Method_spec p M x Zo Zo Zo _ B1 hxO (fun a ha => by rw [hM];simp [ha]) k2 hk2.1 Zo;simp only [Bk.mem] at m3 |-
      (try simp only [CNx])
      refine GOH ?_;refine kD m3 Zr ZP (fun v Post hv => ?_);obtain ⟨rfl, k3, hk3, rfl⟩ := hv;simp only [CNx];have hk3n := hk3.2.2;have hall := (hk1.trans hk2).trans hk3;have hk3o := hall.1;have hperm := hall.2.1;rw [show k0.own = [] by rw [hk0];rfl, List.nil_append, <- hM] at hperm;have hlen : k3.ls.length <= k3.n /\ k3.ns.length <= k3.n /\ k3.xs.length <= k3.n := by unfold Bk.n;omega
      have hown := Own_spec p k3.lv k3.nv k3.xv k3.ls k3.ns k3.xs k3.lsp k3.nsp k3.xsp hk3o.l hk3o.lo Zo hk3o.n hk3o.no Zo hk3o.x hk3o.xo Zo;simp only [Bk.own] at hperm;generalize k3.ls.flatMap owR = O1 at hown hperm;generalize k3.ns.flatMap owR = O2 at hown hperm;generalize k3.xs.flatMap owR = O3 at hown hperm
      (try simp only [Bk.mem, CNx])
      generalize slA k3.lv (k3.ls.map (·.v)) k3.lsp = P1 at hown |-;generalize slA k3.nv (k3.ns.map (·.v)) k3.nsp = P2 at hown |-;generalize slA k3.xv (k3.xs.map (·.v)) k3.xsp = P3 at hown |-;refine VO.imp (H' := [O1, O2, O3, kA p 0 [.slice none 0 0, k3.lv, k3.nv, k3.xv], P1, P2, P3, A, kA q 0 [.string x.sel, .slice xa1 x.args.length xa2, .slice xa3 x.temps.length xa4, vi x.prim, .slice xa5 x.body.length xa6]]) (Imp.cut (M := [M, kA p 0 [.slice none 0 0, k3.lv, k3.nv, k3.xv], P1, P2, P3, A, kA q 0 [.string x.sel, .slice xa1 x.args.length xa2, .slice xa3 x.temps.length xa4, vi x.prim, .slice xa5 x.body.length xa6]]) ZI (Imp.perm (by
        have := hperm.symm.append_right (kA p 0 [.slice none 0 0, k3.lv, k3.nv, k3.xv] ++ (P1 ++ (P2 ++ (P3 ++ (A ++ kA q 0 [.string x.sel, .slice xa1 x.args.length xa2, .slice xa3 x.temps.length xa4, vi x.prim, .slice xa5 x.body.length xa6])))));simpa [List.append_assoc] using this))) ?_
      refine GOH ?_;refine kD hown Zr ZP (fun v Post hv => ?_);obtain ⟨rfl, rfl⟩ := hv;simp only [CNx];refine GOH ?_;refine kD hchk Zr ZP (fun v Post hv => ?_);obtain ⟨rfl, rfl⟩ := hv;simp only [CNx];refine GOH ?_;rw [Zt (show (ck : Int) = ck from rfl)];cases lk with
      | true =>
        refine GOH ?_;exact kC (Post := [A]) (.inr rfl) (.tmp Zr .nil) ⟨rfl, rfl⟩ ZI
      | false =>
        refine GOH ?_;exact kC (Post := [A]) (.inr rfl) (.tmp Zr .nil) ⟨rfl, rfl⟩ ZI
end Go.Proofs.YtmnmandpdadedaaGreatDoor
namespace Go.Proofs.YtmnmandpdadedaaGreatDoor
open Go Go.V
set_option maxHeartbeats 3200000
set_option maxRecDepth 100000
end Go.Proofs.YtmnmandpdadedaaGreatDoor
namespace Go.Proofs.YtmnmandpdadedaaGreatDoor
open Go Go.V Go.ChangeShapes Go.WideShapes Go.Deep
set_option maxRecDepth 100000
section
variable {H : Type} {enc : TypeId × Value -> H}
theorem u3 : Tryz.prog.underlying 3 = some (.int .i64) := by kernel_rfl
theorem u4 : Tryz.prog.underlying 4 = some .bool := by kernel_rfl
theorem u9 : Tryz.prog.underlying 9 = some .string := by kernel_rfl
theorem u22 : Tryz.prog.underlying 22 = some (.slice 9) := by kernel_rfl
theorem u23 : Tryz.prog.underlying 23 = some (.slice 48) := by kernel_rfl
theorem u44 : Tryz.prog.underlying 44 = some (.slice 46) := by kernel_rfl
noncomputable def fs46 : Array Field := match Tryz.prog.underlying 46 with | some (.struct fs) => fs | _ => #[]
theorem u46 : Tryz.prog.underlying 46 = some (.struct fs46) := by kernel_rfl
noncomputable def fs48 : Array Field := match Tryz.prog.underlying 48 with | some (.struct fs) => fs | _ => #[]
theorem u48 : Tryz.prog.underlying 48 = some (.struct fs48) := by kernel_rfl
theorem litT : LitT Tryz.prog 46 44 := ⟨⟨fs46, u46, by kernel_rfl, 42, 2, 43, 9, by kernel_rfl, by kernel_rfl, by kernel_rfl, by kernel_rfl, by kernel_rfl, by kernel_rfl, by kernel_rfl, by kernel_rfl, by kernel_rfl, by kernel_rfl⟩, by kernel_rfl, u44⟩
theorem nodT : NodT Tryz.prog 48 46 23 22 := ⟨⟨fs48, u48, by kernel_rfl, 41, 9, 3, by kernel_rfl, by kernel_rfl, by kernel_rfl, by kernel_rfl, by kernel_rfl, by kernel_rfl, by kernel_rfl, u22⟩, by kernel_rfl, by kernel_rfl, by kernel_rfl, by kernel_rfl, u23⟩
noncomputable def ms146 : Array (String × TypeId) := match Tryz.prog.underlying 146 with | some (.interface ms) => ms | _ => #[]
theorem u146 : Tryz.prog.underlying 146 = some (.interface ms146) := by kernel_rfl
theorem closedS : closedB Tryz.prog [2, 3, 4, 5, 9, 22, 23, 25, 41, 42, 43, 44, 46, 48, 62] = true := by kernel_rfl
theorem closedP : Closed Tryz.prog (· ∈ [2, 3, 4, 5, 9, 22, 23, 25, 41, 42, 43, 44, 46, 48, 62]) := closed_of closedS
theorem own : ownKnob Tryz.prog.godebug = none := by kernel_rfl
theorem bulk_one (d : DataW H) : 1 <= Rows.uptoBulk d := by
  cases d with
  | lit l => cases l <;> simp [Rows.uptoBulk]
  | _ => simp [Rows.uptoBulk]
theorem bulk_len (l : List (DataW H)) : l.length <= Rows.uptoBulkAll l := by
  induction l with
  | nil => simp
  | cons d r ih =>
    have := bulk_one d;simp only [Rows.uptoBulkAll, List.length_cons];omega
theorem bulk_mem {d : DataW H} {l : List (DataW H)} (h : d ∈ l) : Rows.uptoBulk d <= Rows.uptoBulkAll l := by
  induction l with
  | nil => cases h
  | cons y r ih =>
    simp only [Rows.uptoBulkAll];rcases List.mem_cons.1 h with rfl | h
    · omega
    · have := ih h;omega
theorem bulk_sum (l : List (DataW H)) : (l.map Rows.uptoBulk).sum = Rows.uptoBulkAll l := by
  induction l with
  | nil => rfl
  | cons d r ih => simp only [List.map_cons, List.sum_cons, ih, Rows.uptoBulkAll]
theorem bulkB : Bulk (Rows.uptoBulk (H := H)) where
  agg l d h := by have := bulk_mem h;simp only [Rows.uptoBulk];omega
  sl es sp d h := by have := bulk_mem h;simp only [Rows.uptoBulk];omega
  len es sp := by have := bulk_len es;simp only [Rows.uptoBulk];omega
  str bs := by simp only [Rows.uptoBulk];omega
  sls es sp := by rw [bulk_sum];simp only [Rows.uptoBulk];omega
  aggs l := by rw [bulk_sum];simp only [Rows.uptoBulk];omega
theorem gErr : Tryz.prog.globalNamed "strconv.ErrRange" = some 4 := by kernel_rfl
theorem gErrT : (Tryz.prog.globals[4]?).map (·.type) = some 146 := by kernel_rfl
theorem gRen : Tryz.sl174_ren.g 16 = 4 := by kernel_rfl
theorem err_in {W : World} {d : DataW Unit} {r : List (String × DataW Unit)} (h : laidMet Tryz.prog (("strconv.ErrRange", d) :: r) W) (hd : ∃ nm e, d = .iface nm e) {A : List kE} (hA : ∀ a : kE, a.holds W → a ∈ A) : ErA A := by
  obtain ⟨nm, e, rfl⟩ := hd;obtain ⟨ps, ⟨g0, t0, cs0, f0, p0, q0, hg0, ht0, hv0, hd0, _, e0⟩, _, hrows⟩ := h;obtain rfl := Option.some.inj (gErr.symm.trans hg0);obtain rfl := Option.some.inj (gErrT.symm.trans ht0);subst e0;have hcs : ∃ te pe, cs0 = #[.iface te pe] := by
    obtain ⟨_, te, pe, he, _, _⟩ := iface_of_trod u146 hd0;exact ⟨te, pe, by rw [<- he]⟩
  obtain ⟨te, pe, rfl⟩ := hcs;obtain ⟨⟨c, t, hc⟩, _⟩ := hrows 4 0 (by simp [MemPlace.row]);refine ⟨.iface te pe, ?_, .inr ⟨te, pe, rfl⟩⟩;rw [gRen];have hcell : W.cell? ⟨4, 0, none⟩ = some (.iface te pe) := by simpa using World.var?_cell gErr hv0 0
  refine hA _ (holds_cell hcell ?_);unfold World.frozen?;rw [hc];simp
end
end Go.Proofs.YtmnmandpdadedaaGreatDoor
namespace Go.Proofs.YtmnmandpdadedaaGreatDoor
open Go Go.V Go.ChangeShapes Go.WideShapes Go.Deep
set_option maxRecDepth 100000
section
variable {H : Type} {enc : TypeId × Value -> H}
noncomputable def fs25 : Array Field := match Tryz.prog.underlying 25 with | some (.struct fs) => fs | _ => #[]
theorem u25 : Tryz.prog.underlying 25 = some (.struct fs25) := by kernel_rfl
theorem fs25s : fs25.size = 5 := by kernel_rfl
theorem fs25l : (fs25.toList.map fun f => (f.type, f.offset)) = [(9, 0), (22, 1), (22, 2), (3, 3), (23, 4)] := by kernel_rfl
theorem c9 : Tryz.prog.cellsOf 9 = 1 := by kernel_rfl
theorem c22 : Tryz.prog.cellsOf 22 = 1 := by kernel_rfl
theorem c3 : Tryz.prog.cellsOf 3 = 1 := by kernel_rfl
theorem c23 : Tryz.prog.cellsOf 23 = 1 := by kernel_rfl
theorem c25 : Tryz.prog.cellsOf 25 = 5 := by kernel_rfl
theorem c48 : Tryz.prog.cellsOf 48 = 11 := by kernel_rfl
theorem md_form {W : World} {base : Nat} {v : Value} (hv : Value.okWide Tryz.prog W .any base 25 v) : ∃ cs : List Value, v = .agg cs.toArray := by
  simp only [Value.okWide, u25] at hv;obtain ⟨cs, rfl, _⟩ := hv;exact ⟨cs.toList, Zs⟩
theorem rd_md {W : World} {A : List kE} (hA : ∀ a : kE, a.holds W -> a ∈ A) (n : Nat) (cs : List Value) (x : DataW H × List MemPlace) (hN : Rows.uptoBulk x.1 <= 1048576) (h : DataW.trod enc Tryz.prog W 0 (fun _ => true) true n 25 cs = some x) (hf : W.noneFrozen x.2) : ∃ m : Md, MdW A m cs /\ (Nd.ws m.body <= Rows.uptoBulk x.1 /\ m.args.length <= Rows.uptoBulk x.1 /\ m.temps.length <= Rows.uptoBulk x.1) := by
  obtain ⟨ys, k, _, rfl, hlen, hyl, hfld⟩ := DataW.trod_struct u25 h;rw [c25] at hlen
  replace hN : Rows.uptoBulk (.agg (ys.map (·.1))) <= 1048576 := hN
  have hget : ∀ (i : Nat) (ty off : Nat), (fs25.toList.map fun f => (f.type, f.offset))[i]? = some (ty, off) -> DataW.trod enc Tryz.prog W 0 (fun _ => true) true k ty ((cs.drop off).take (Tryz.prog.cellsOf ty)) = ys[i]? := fun i ty off hi => by
    rw [List.getElem?_map] at hi;obtain ⟨f, hf1, hf2⟩ := Option.map_eq_some_iff.1 hi;cases hf2;exact hfld i f (by rw [<- hf1, Array.getElem?_toList])
  have hyl5 : ys.length = 5 := by rw [hyl];exact fs25s
  have hys : ∀ i, i < 5 -> ys[i]? = some (ys.getD i (.nil, [])) := fun i hi => by
    rw [List.getD_eq_getElem?_getD, Zg Zo];rfl
  have g0 := (hget 0 9 0 (by rw [fs25l];rfl)).trans (hys 0 Zo);have g1 := (hget 1 22 1 (by rw [fs25l];rfl)).trans (hys 1 Zo);have g2 := (hget 2 22 2 (by rw [fs25l];rfl)).trans (hys 2 Zo);have g3 := (hget 3 3 3 (by rw [fs25l];rfl)).trans (hys 3 Zo);have g4 := (hget 4 23 4 (by rw [fs25l];rfl)).trans (hys 4 Zo);rw [c9] at g0;rw [c22] at g1 g2;rw [c3] at g3;rw [c23] at g4;obtain ⟨s, e0, d0, _⟩ := DataW.trod_string u9 g0;obtain ⟨z3, e3, _, w3⟩ := DataW.trod_int u3 g3;have hlt : ∀ i, i < 5 -> Rows.uptoBulk (ys.getD i (.nil, [])).1 < Rows.uptoBulk (.agg (ys.map (·.1))) := fun i hi => bulkB.agg _ _ (List.mem_map.2 ⟨_, Zv (hys i hi), rfl⟩)
  have hfr : ∀ i, i < 5 -> W.noneFrozen (ys.getD i (.nil, [])).2 := fun i hi b o hbo => hf b o (flat_sub (hys i hi) hbo)
  obtain ⟨v1, e1⟩ : ∃ v, (cs.drop 1).take 1 = [v] := List.length_eq_one_iff.1 Zam;obtain ⟨v2, e2⟩ : ∃ v, (cs.drop 2).take 1 = [v] := List.length_eq_one_iff.1 Zam;obtain ⟨v4, e4⟩ : ∃ v, (cs.drop 4).take 1 = [v] := List.length_eq_one_iff.1 Zam;rw [e1] at g1;rw [e2] at g2;rw [e4] at g4;have l1 := hlt 1 Zo;have l2 := hlt 2 Zo;have l4 := hlt 4 Zo;obtain ⟨args, hargs, hargl⟩ := rd_texts bulkB u22 u9 c9 g1 (hfr 1 Zo) hA Zo;obtain ⟨temps, htemps, htempl⟩ := rd_texts bulkB u22 u9 c9 g2 (hfr 2 Zo) hA Zo;obtain ⟨a, kk, c, bk, o, us, D, Pl, m, rfl, ⟨hk, hks, hkc⟩, ha, hi⟩ := rd_rows bulkB u23 c48 Zd g4 (hfr 4 Zo) hA;obtain ⟨l, hl, hq⟩ := choose_rows (α := Nd) (Q := fun i y => kf A y (us i) /\ y.w <= Rows.uptoBulk (D i)) (n := kk) (fun i hik => by
    obtain ⟨q1, _, _, q4, q5⟩ := hi i hik;exact rd_node bulkB nodT litT hA (Rows.uptoBulk (D i)) m (us i) (D i, Pl i) (Nat.le_refl _) Zo q4 q5)
  have b3 := wf_i64 w3;have hs0 : s.size <= 1048576 := by
    have h3 := hlt 0 Zo;have e : (ys.getD 0 (.nil, [])).1 = .lit (.string s.data.toList) := congrArg Prod.fst d0;rw [e] at h3;have h5 := bulkB.str (H := H) s.data.toList;have e2 : s.data.toList.length = s.size := by simp
    omega
  have hsz4 : Nd.ws l <= Rows.uptoBulk (ys.getD 4 (.nil, [])).1 := by
    refine Nat.le_trans (Nd.ws_le (f := fun i => Rows.uptoBulk (D i)) (o := 0) (fun i x hx => ?_)) ?_
    · rw [Nat.zero_add];exact (hq i x hx).2
    · rw [hl];exact hks
  have hcs : cs = [.string s, v1, v2, vi z3, .slice a l.length c] := by
    have p0 := jc e0;have p1 := jc e1;have p2 := jc e2;have p3 := jc e3;have p4 := jc e4;obtain ⟨a0, a1, a2, a3, a4, rfl⟩ : ∃ a0 a1 a2 a3 a4, cs = [a0, a1, a2, a3, a4] := by
      match cs, hlen with
      | [a0, a1, a2, a3, a4], _ => exact ⟨a0, a1, a2, a3, a4, rfl⟩
    simp only [List.getElem?_cons_zero, List.getElem?_cons_succ, Option.some.injEq] at p0 p1 p2 p3 p4;rw [p0, p1, p2, p3, p4, hl]
  have hargs2 := hargs;have htemps2 := htemps;obtain ⟨aa, ac, rfl, _, _⟩ := hargs2;obtain ⟨ta, tc, rfl, _, _⟩ := htemps2;refine ⟨⟨s, args, temps, z3, l⟩, ⟨⟨aa, ac, ta, tc, a, c, bk, o, us, hcs, hargs, htemps, ⟨fun hp => ha (by simp only at hp;omega), by simp only;omega, fun i hi' => (hi i (by simp only at hi';omega)).2.2.1, fun i x hx => (hq i x hx).1⟩⟩, by simp only;omega, b3⟩, ?_⟩;show Nd.ws l <= Rows.uptoBulk (.agg (ys.map (·.1))) /\ args.length <= Rows.uptoBulk (.agg (ys.map (·.1))) /\ temps.length <= Rows.uptoBulk (.agg (ys.map (·.1)));omega
end
end Go.Proofs.YtmnmandpdadedaaGreatDoor

/-
  Methods that are copied; methods without places, by the document.
-/
import Derived.Test.YtmnmandpdadedaaGreatDoorT8
import Derived.Test.YtmnmandpdadedaaGreatDoorT13
import Derived.Test.YtmnmandpdadedaaGreatDoorV5
import Derived.Test.YtmnmandpdadedaaGreatDoorT2
import Derived.Test.YtmnmandpdadedaaGreatDoorV6
import Derived.Test.YtmnmandpdadedaaGreatDoorT9
import Derived.Test.YtmnmandpdadedaaGreatDoorT6
set_option linter.unusedSimpArgs false
set_option linter.unusedVariables false
namespace Go.Proofs.YtmnmandpdadedaaGreatDoor
open Go Go.V
set_option maxHeartbeats 3200000
set_option maxRecDepth 100000
theorem CopyMethod_spec (A : List kE) (x : Md) (hw : Nd.ws x.body <= 274877906944) (vs : List Value) (h : MdW A x vs) : Fun Tryz.prog 58 [.agg vs.toArray] [A] (fun v Post => ∃ ws B, v = .agg ws.toArray /\ MdOwn x ws B /\ Post = [A, B]) := by
  obtain ⟨⟨aa, ac, ta, tc, a, c, bk, o, us, rfl, hav, htv, hk⟩, hsel, hprim⟩ := h;obtain ⟨ha, hmany, hm, hr⟩ := hk;have hge := ws_ge x.body;have hca := wR A _ x.args hav;have hct := wR A _ x.temps htv;refine Fun.intro low58 (by simp [n58]) ?_;refine GOH ?_;refine kS Zr (fun q => ?_);refine kP (fun q2 => ?_);simp only [Value.cells];refine GOH ?_;refine VC.loop (α := Nat × Value × List (List Value) × List Value × List kE) (Γf := fun z => [(1, kN q), (2, kN q2), (3, z.2.1), (4, vi z.1)]) (Hf := fun z => [A, kA q 0 [.string x.sel, .slice aa x.args.length ac, .slice ta x.temps.length tc, vi x.prim, .slice a x.body.length c], kA q2 0 [.string ⟨#[]⟩, .slice none 0 0, .slice none 0 0, .int .i64 0, .slice none 0 0], slA z.2.1 z.2.2.1.flatten z.2.2.2.1, z.2.2.2.2])
    (I := fun z => z.1 <= x.body.length /\ ku 11 z.2.1 z.1 z.2.2.1.flatten z.2.2.2.1 /\ jl (x.body.take z.1) z.2.2.1 z.2.2.2.2) (μ := fun z => x.body.length - z.1) (0, .slice none 0 0, [], [], []) ⟨Nat.zero_le _, .nil, jl.nil⟩ ZU (Imp.cut (M := [A, kA q 0 [.string x.sel, .slice aa x.args.length ac, .slice ta x.temps.length tc, vi x.prim, .slice a x.body.length c], kA q2 0 [.string ⟨#[]⟩, .slice none 0 0, .slice none 0 0, .int .i64 0, .slice none 0 0]]) ZI (Imp.perm (by simp [slA]))) ?_
  rintro ⟨j, sv, rows, sp, K⟩ ⟨i1, i2, i3⟩
  simp only at i1 i2 i3;dsimp only;refine GOH ?_;by_cases hj : j < x.body.length
  · obtain rfl := ha Zo;rw [show decide ((j : Int) < (x.body.length : Int)) = true from Zt Zo];obtain ⟨y, hy⟩ : ∃ y, x.body[j]? = some y := ⟨_, Zg hj⟩;have hym := hm j hj;have hyr := hr j y hy;have h1 := Nd.ws_mem (Zv hy);have hcall := CopyNode_spec A _ y (Nat.le_refl _) Zo _ hyr;have hyl := hyr.len;generalize us j = uj at *;refine GOH ?_;refine kL Zr Zah hyl ?_;refine GOH ?_;refine kD hcall Zr ZP (fun v Post hv => ?_);obtain ⟨ws, B2, rfl, hw, rfl⟩ := hv;simp only [CNx];obtain ⟨f1, f2, f3, f4, f5, f6, f7, f8, f9, f10, f11, f12, f13, f14, f15, f16, f17, rfl, _, _⟩ := km hw.rd;refine ki (out := [cv y.kind, .string y.name, cv f1, vi f2, uv f3, .string f4, .slice f5 f6 f7, .slice f8 f9 f10, .slice f11 f12 f13, .slice f14 f15 f16, vi f17]) Zr Zr (fun r => ?_);refine j8 (k := j) (m := 1) (xs := rows.flatten) (sp := sp) (ys := [cv y.kind, .string y.name, cv f1, vi f2, uv f3, .string f4, .slice f5 f6 f7, .slice f8 f9 f10, .slice f11 f12 f13, .slice f14 f15 f16, vi f17]) Zr Zr i2 ZK Zr ?_ rfl Zr Zr Zd Zo (fun sv' sp' hsl' => ?_)
    · exact Zal
    have hfl : rows.flatten ++ [cv y.kind, .string y.name, cv f1, vi f2, uv f3, .string f4, .slice f5 f6 f7, .slice f8 f9 f10, .slice f11 f12 f13, .slice f14 f15 f16, vi f17] = (rows ++ [[cv y.kind, .string y.name, cv f1, vi f2, uv f3, .string f4, .slice f5 f6 f7, .slice f8 f9 f10, .slice f11 f12 f13, .slice f14 f15 f16, vi f17]]).flatten := by simp
    rw [hfl] at hsl' |-;have hsn := i3.snoc hw;rw [show x.body.take j ++ [y] = x.body.take (j + 1) by rw [List.take_add_one, hy];rfl] at hsn;refine GOH ?_;refine ⟨(j + 1, sv', rows ++ [[cv y.kind, .string y.name, cv f1, vi f2, uv f3, .string f4, .slice f5 f6 f7, .slice f8 f9 f10, .slice f11 f12 f13, .slice f14 f15 f16, vi f17]], sp', K ++ B2), ⟨by simp only;omega, hsl', hsn⟩, by simp only;omega, ZU, ?_⟩;simp only;refine Imp.cut (M := [A, kA q 0 [.string x.sel, .slice aa x.args.length ac, .slice ta x.temps.length tc, vi x.prim, (.slice (some ⟨bk, o, none⟩) x.body.length c)], kA q2 0 [.string ⟨#[]⟩, .slice none 0 0, .slice none 0 0, .int .i64 0, .slice none 0 0], slA sv' (rows ++ [[cv y.kind, .string y.name, cv f1, vi f2, uv f3, .string f4, .slice f5 f6 f7, .slice f8 f9 f10, .slice f11 f12 f13, .slice f14 f15 f16, vi f17]]).flatten sp', K, B2]) ZI (Imp.perm Zs)
  obtain rfl : j = x.body.length := by omega
  rw [List.take_length] at i3;obtain ⟨sa, sc, rfl⟩ := i2.form;obtain ⟨SL, hSL⟩ : ∃ SL, SL = slA (.slice sa x.body.length sc) rows.flatten sp := ⟨_, rfl⟩;rw [<- hSL];rw [show decide ((x.body.length : Int) < (x.body.length : Int)) = false from Zf Zo];refine GOH ?_;refine VC.imp (H' := [kA q 0 [.string x.sel, .slice aa x.args.length ac, .slice ta x.temps.length tc, vi x.prim, .slice a x.body.length c], kA q2 0 [.string ⟨#[]⟩, .slice none 0 0, .slice none 0 0, .int .i64 0, .slice none 0 0], SL, K, A]) ZI ?_;refine VC.seq (VC.free 11 (fun i v B => match i with
    | 0 => v = .pointer (some ⟨q, 0, none⟩) /\ B = []
    | 1 => v = .string x.sel /\ B = []
    | 2 => v = .pointer (some ⟨q, 1, none⟩) /\ B = []
    | 3 => v = .slice aa x.args.length ac /\ B = []
    | 4 => wC v x.args B
    | 5 => v = .pointer (some ⟨q, 2, none⟩) /\ B = []
    | 6 => v = .slice ta x.temps.length tc /\ B = []
    | 7 => wC v x.temps B
    | 8 => v = .pointer (some ⟨q, 3, none⟩) /\ B = []
    | 9 => v = vi x.prim /\ B = []
    | 10 => v = .slice sa x.body.length sc /\ B = []
    | _ => True) Zd Zd Zd ?_ ?_)
  · intro i hi vv hg Γ' hh hkp
    match i, hi with
    | 0, _ =>
      show VO _ _ [⟨some 21, none, .fld 0 (.tmp 1)⟩] _ _ _ _;exact kQ (hkp 1 _ rfl Zd) rfl Zad
    | 1, _ =>
      show VO _ _ [⟨some 22, none, .load1 (.tmp 21)⟩] _ _ _ _;have e := hh 0 Zd 21 rfl;rw [(hg 0 Zd).1] at e;exact kI e Zh Zad
    | 2, _ =>
      show VO _ _ [⟨some 23, none, .fld 1 (.tmp 1)⟩] _ _ _ _;exact kQ (hkp 1 _ rfl Zd) rfl Zad
    | 3, _ =>
      show VO _ _ [⟨some 24, none, .load1 (.tmp 23)⟩] _ _ _ _;have e := hh 2 Zd 23 rfl;rw [(hg 2 Zd).1] at e;exact kI e Zh Zad
    | 4, _ =>
      show VO _ _ [⟨some 25, none, .call 85 [.tmp 24]⟩] _ _ _ _;have e := hh 3 Zd 24 rfl;rw [(hg 3 Zd).1] at e;refine kD hca Zao ZP (fun v Post hv => ?_);obtain ⟨B, hw, rfl⟩ := hv;exact VO.nil ⟨_, B, rfl, hw, by simp only [CNx];exact IMx⟩
    | 5, _ =>
      show VO _ _ [⟨some 26, none, .fld 2 (.tmp 1)⟩] _ _ _ _;exact kQ (hkp 1 _ rfl Zd) rfl Zad
    | 6, _ =>
      show VO _ _ [⟨some 27, none, .load1 (.tmp 26)⟩] _ _ _ _;have e := hh 5 Zd 26 rfl;rw [(hg 5 Zd).1] at e;exact kI e Zh Zad
    | 7, _ =>
      show VO _ _ [⟨some 28, none, .call 85 [.tmp 27]⟩] _ _ _ _;have e := hh 6 Zd 27 rfl;rw [(hg 6 Zd).1] at e;refine kD hct Zao ZP (fun v Post hv => ?_);obtain ⟨B, hw, rfl⟩ := hv;exact VO.nil ⟨_, B, rfl, hw, by simp only [CNx];exact IMx⟩
    | 8, _ =>
      show VO _ _ [⟨some 29, none, .fld 3 (.tmp 1)⟩] _ _ _ _;exact kQ (hkp 1 _ rfl Zd) rfl Zad
    | 9, _ =>
      show VO _ _ [⟨some 30, none, .load1 (.tmp 29)⟩] _ _ _ _;have e := hh 8 Zd 29 rfl;rw [(hg 8 Zd).1] at e;exact kI e Zh Zad
    | 10, _ =>
      show VO _ _ [⟨some 31, none, .mv (.tmp 3)⟩] _ _ _ _;exact ka (hkp 3 _ rfl Zd) Zad
    | n + 11, h => exact absurd h Zo
  · intro vv hg Γ' hh hkp;show VO _ _ _ _ [(vv 0).2, (vv 1).2, (vv 2).2, (vv 3).2, (vv 4).2, (vv 5).2, (vv 6).2, (vv 7).2, (vv 8).2, (vv 9).2, (vv 10).2, kA q 0 [.string x.sel, .slice aa x.args.length ac, .slice ta x.temps.length tc, vi x.prim, .slice a x.body.length c], kA q2 0 [.string ⟨#[]⟩, .slice none 0 0, .slice none 0 0, .int .i64 0, .slice none 0 0], SL, K, A] _ _;refine VO.imp (H' := [kA q2 0 [.string ⟨#[]⟩, .slice none 0 0, .slice none 0 0, .int .i64 0, .slice none 0 0], A, (vv 4).2, (vv 7).2, SL, K]) ZI ?_;have h4 := hg 4 Zo;have h7 := hg 7 Zo;have s22 := hh 1 Zd 22 rfl;have s25 := hh 4 Zd 25 rfl;have s28 := hh 7 Zd 28 rfl;have s30 := hh 9 Zd 30 rfl;have s31 := hh 10 Zd 31 rfl;rw [(hg 1 Zo).1] at s22;rw [(hg 9 Zo).1] at s30;rw [(hg 10 Zo).1] at s31;have s2 := hkp 2 _ rfl Zd;clear hg hh hkp;simp only at h4 h7;generalize vv 4 = p4 at *;generalize vv 7 = p7 at *;obtain ⟨v4, B4⟩ := p4;obtain ⟨v7, B7⟩ := p7;simp only at *;have hO : MdOwn x [.string x.sel, v4, v7, vi x.prim, .slice sa x.body.length sc] (SL ++ (K ++ (B4 ++ B7))) :=
      ⟨v4, v7, _, rows, _, B4, B7, K, rfl, i2, i3, h4, h7, by rw [hSL]⟩
    obtain ⟨a4, c4, rfl, _, _⟩ := h4.rd;obtain ⟨a7, c7, rfl, _, _⟩ := h7.rd;refine VO.sub (Δ := [(2, kN q2), (22, .string x.sel), (25, .slice a4 x.args.length c4), (28, .slice a7 x.temps.length c7), (30, vi x.prim), (31, .slice sa x.body.length sc)]) (Sub.cons s2 (Sub.cons s22 (Sub.cons s25 (Sub.cons s28 (Sub.cons s30 (Sub.cons s31 Sub.nil)))))) ?_;refine GOH ?_;exact ⟨.inr rfl, [.agg #[.string x.sel, .slice a4 x.args.length c4, .slice a7 x.temps.length c7, vi x.prim, .slice sa x.body.length sc]], [A, SL ++ (K ++ (B4 ++ B7))], .cellN (us := [.string x.sel, .slice a4 x.args.length c4, .slice a7 x.temps.length c7, vi x.prim, .slice sa x.body.length sc]) Zr Zr Zak .nil,
      Imp.cut (M := [A, SL, K, B4, B7]) ZI (Imp.perm Zs), ⟨_, _, rfl, hO, rfl⟩⟩
theorem row_mid {sz j : Nat} {rows : List (List Value)} {ws sp : List Value} (h : ∀ r ∈ rows, r.length = sz) (hj : j < rows.length) (hl : ws.length = sz) : (rows.flatten ++ sp).take (j * sz) ++ ws ++ (rows.flatten ++ sp).drop (j * sz + ws.length) = (rows.set j ws).flatten ++ sp := by
  have e : rows = rows.take j ++ (rows[j] :: rows.drop (j + 1)) := by rw [List.getElem_cons_drop, List.take_append_drop]
  have h1 : (rows.take j).flatten.length = j * sz := by
    rw [jJ (sz := sz) fun r hr => h r (List.mem_of_mem_take hr), List.length_take, Nat.min_eq_left Zo]
  have h2 := h rows[j] (List.getElem_mem _);have e2 : rows.set j ws = rows.take j ++ (ws :: rows.drop (j + 1)) := by rw [List.set_eq_take_append_cons_drop, if_pos hj]
  rw [e2];have e3 : rows.flatten ++ sp = (rows.take j).flatten ++ (rows[j] ++ ((rows.drop (j + 1)).flatten ++ sp)) := by
    have e4 : rows.flatten = (rows.take j ++ (rows[j] :: rows.drop (j + 1))).flatten := congrArg List.flatten e;rw [e4, List.flatten_append, List.flatten_cons];simp only [List.append_assoc]
  rw [e3, List.take_append_of_le_length Zo, List.take_of_length_le Zo, List.drop_append, List.drop_of_length_le Zo, List.nil_append, h1, Nat.add_sub_cancel_left, hl, List.drop_append_of_le_length Zo, List.drop_of_length_le Zo];simp
def BareRows (D : List kE) (l : List Nd) (j : Nat) (rows : List (List Value)) : Prop := rows.length = l.length /\ (∀ r ∈ rows, r.length = 11) /\ ∀ (i : Nat) y r, l[i]? = some y -> rows[i]? = some r -> kf D (if i < j then y.bare else y) r
theorem BareMethod_spec (A : List kE) (x : Md) (hw : Nd.ws x.body <= 274877906944) (vs : List Value) (h : MdW A x vs) : Fun Tryz.prog 17 [.agg vs.toArray] [A] (fun v Post => ∃ ws B, v = .agg ws.toArray /\ MdW B x.bare ws /\ Post = [A, B]) := by
  have hcopy := CopyMethod_spec A x hw vs h;obtain ⟨⟨aa, ac, ta, tc, a, c, bk, oo, us, rfl, hav, htv, hk⟩, hsel, hprim⟩ := h;have hmany := hk.many;refine Fun.intro low17 (by simp [n17]) ?_;refine GOH ?_;refine kS Zr (fun q => ?_);refine kP (fun q2 => ?_);simp only [Value.cells];refine GOH ?_;refine kD hcopy Zr ZP (fun v Post hv => ?_);obtain ⟨ws, B, rfl, hown, rfl⟩ := hv;simp only [CNx];obtain ⟨av, tv, sv, rows0, sp, LA, LT, K, rfl, hsl, hrows, h4, h7, hperm⟩ := hown;have r4 := h4.rd;have r7 := h7.rd;obtain ⟨a4, c4, rfl, _, _⟩ := h4.rd;obtain ⟨a7, c7, rfl, _, _⟩ := h7.rd;obtain ⟨sa, sc, rfl⟩ := hsl.form;have hst : BareRows K x.body 0 rows0 := by
    obtain ⟨g1, g2, Ls, rfl, g3⟩ := hrows;refine ⟨g1, g2, fun i y r hy hr => ?_⟩;rw [if_neg (Nat.not_lt_zero _)];have hi := (List.getElem?_eq_some_iff.1 hy).1;exact (g3 i y r hy hr).rd.more fun z hz => List.mem_flatMap.2 ⟨i, List.mem_range.2 hi, hz⟩
  refine GOH ?_;refine kP (fun q3 => ?_);refine VO.imp (H' := [kA q3 0 [.string ⟨#[]⟩, .slice none 0 0, .slice none 0 0, .int .i64 0, .slice none 0 0], kA q2 0 [.string ⟨#[]⟩, .slice none 0 0, .slice none 0 0, .int .i64 0, .slice none 0 0], slA (.slice sa x.body.length sc) rows0.flatten sp, K, LA, LT, A]) (Imp.cut (M := [kA q3 0 [.string ⟨#[]⟩, .slice none 0 0, .slice none 0 0, .int .i64 0, .slice none 0 0], kA q2 0 [.string ⟨#[]⟩, .slice none 0 0, .slice none 0 0, .int .i64 0, .slice none 0 0], B, A]) ZI (Imp.perm (by
    simp only [List.flatten_cons, List.flatten_nil, List.append_nil];refine List.Perm.append_left _ (List.Perm.append_left _ ?_);rw [show slA (.slice sa x.body.length sc) rows0.flatten sp ++ (K ++ (LA ++ (LT ++ A))) = (slA (.slice sa x.body.length sc) rows0.flatten sp ++ (K ++ (LA ++ LT))) ++ A by simp];exact hperm.append_right A))) ?_
  refine GOH ?_;refine VC.loop (α := Nat × List (List Value) × List kE) (Γf := fun z => [(2, kN q2), (3, kN q3), (4, vi z.1)]) (Hf := fun z => [kA q3 0 [.string x.sel, .slice a4 x.args.length c4, .slice a7 x.temps.length c7, vi x.prim, .slice sa x.body.length sc], kA q2 0 [.string ⟨#[]⟩, .slice none 0 0, .slice none 0 0, .int .i64 0, .slice none 0 0], slA (.slice sa x.body.length sc) z.2.1.flatten sp, z.2.2, LA, LT, A])
    (I := fun z => z.1 <= x.body.length /\ BareRows z.2.2 x.body z.1 z.2.1 /\ ku 11 (.slice sa x.body.length sc) x.body.length z.2.1.flatten sp) (μ := fun z => x.body.length - z.1) (0, rows0, K) ⟨Nat.zero_le _, hst, hsl⟩ ZU ZI ?_
  rintro ⟨j, rows, D⟩ ⟨i1, i2, i3⟩
  simp only at i1 i2 i3;dsimp only;refine GOH ?_;by_cases hj : j < x.body.length;rotate_left
  · obtain rfl : j = x.body.length := by omega
    rw [show decide ((x.body.length : Int) < (x.body.length : Int)) = false from Zf Zo];refine GOH ?_;have hW : MdW (slA (.slice sa x.body.length sc) rows.flatten sp ++ (D ++ (LA ++ LT))) x.bare [.string x.sel, .slice a4 x.args.length c4, .slice a7 x.temps.length c7, vi x.prim, .slice sa x.body.length sc] :=
      md_made hsel hprim hmany r4 r7 i3 i2.1 i2.2.1 (fun i y r hy hr => by
        have hi := (List.getElem?_eq_some_iff.1 hy).1;have := i2.2.2 i y r hy hr
        rwa [if_pos hi] at this) rfl rfl rfl
    exact ⟨.inr rfl, [.agg #[.string x.sel, .slice a4 x.args.length c4, .slice a7 x.temps.length c7, vi x.prim, .slice sa x.body.length sc]], [A, slA (.slice sa x.body.length sc) rows.flatten sp ++ (D ++ (LA ++ LT))], .cellN (us := [.string x.sel, .slice a4 x.args.length c4, .slice a7 x.temps.length c7, vi x.prim, .slice sa x.body.length sc]) Zr Zr Zak .nil,
      Imp.cut (M := [A, slA (.slice sa x.body.length sc) rows.flatten sp, D, LA, LT]) ZI (Imp.perm Zs), ⟨_, _, rfl, hW, rfl⟩⟩
  obtain ⟨y, hy⟩ : ∃ y, x.body[j]? = some y := ⟨_, Zg hj⟩;obtain ⟨r, hrj⟩ : ∃ r, rows[j]? = some r := ⟨_, Zg (by rw [i2.1];exact hj)⟩;have hyr := i2.2.2 j y r hy hrj;rw [if_neg (Nat.lt_irrefl _)] at hyr;have h1 := Nd.ws_mem (Zv hy);have hcall := BareNode_spec D _ y (Nat.le_refl _) Zo _ hyr;have hyl := hyr.len;have hfl := jJ i2.2.1;rw [i2.1] at hfl;obtain ⟨b, o, c2, hse, _, _⟩ := i3.some Zo;simp only [Value.slice.injEq, true_and] at hse;obtain ⟨rfl, rfl⟩ := hse;rw [show decide ((j : Int) < (x.body.length : Int)) = true from Zt Zo];have hload : ∀ z ∈ kA b (o + j * 11) r, z ∈ kA b o (rows.flatten ++ sp) := fun z hz => by
    rw [kW];exact Zw _ (ze i2.2.1 hrj z hz)
  have hupd : ∀ ws : List Value, ws.length = 11 -> (rows.flatten ++ sp).take (j * 11) ++ ws ++ (rows.flatten ++ sp).drop (j * 11 + ws.length) = (rows.set j ws).flatten ++ sp := fun ws hl => by
    have e := row_mid (sp := sp) i2.2.1 (by rw [i2.1];exact hj) hl;exact e
  refine GOH ?_;refine VC.draws ⟨?_, ?_, trivial⟩
  all_goals
    refine GOH ?_;refine kL Zr (fun z hz => by have := hload z hz;simp only [List.flatten_cons, List.mem_append];exact .inr (.inr (.inl this))) hyl ?_;refine GOH ?_;refine kD hcall Zr ZP (fun v Post hv => ?_);obtain ⟨ws, B2, rfl, hw2, rfl⟩ := hv;simp only [CNx];have hwl := hw2.len;obtain ⟨f1, f2, f3, f4, f5, f6, f7, f8, f9, f10, f11, f12, f13, f14, f15, f16, f17, hwe, _, _⟩ := km hw2.rd;have hlen : (rows.flatten ++ sp).length = rows.flatten.length + sp.length := List.length_append;refine GOH ?_;refine VO.imp (H' := [kA b o (rows.flatten ++ sp), D, B2, kA q3 0 [.string x.sel, .slice a4 x.args.length c4, .slice a7 x.temps.length c7, vi x.prim, .slice (some ⟨b, o, none⟩) x.body.length sc], kA q2 0 [.string ⟨#[]⟩, .slice none 0 0, .slice none 0 0, .int .i64 0, .slice none 0 0], LA, LT, A]) (Imp.cut (M := [slA (.slice (some ⟨b, o, none⟩) x.body.length sc) rows.flatten sp, D, B2, kA q3 0 [.string x.sel, .slice a4 x.args.length c4, .slice a7 x.temps.length c7, vi x.prim, .slice (some ⟨b, o, none⟩) x.body.length sc], kA q2 0 [.string ⟨#[]⟩, .slice none 0 0, .slice none 0 0, .int .i64 0, .slice none 0 0], LA, LT, A]) ZI (Imp.refl _)) ?_;refine jD (us := ws) Zr Zr Zr hwl (by rw [hwe];rfl) (Upd.cells (k := o + j * 11) (o := o) (vs := rows.flatten ++ sp) (us := ws) (ws := (rows.set j ws).flatten ++ sp) Zo Zo (by rw [Nat.add_sub_cancel_left];exact hupd ws hwl)) ?_;refine GOH ?_;refine ⟨(j + 1, rows.set j ws, D ++ B2), ⟨by simp only;omega, ⟨by rw [List.length_set];exact i2.1, fun q hq => ?_, fun i z q hz hq => ?_⟩, ?_⟩, by simp only;omega, ZU, ?_⟩
    · rcases List.mem_or_eq_of_mem_set hq with hq | rfl
      · exact i2.2.1 q hq
      · exact hwl
    · by_cases e : j = i
      · subst e;rw [hy] at hz;cases hz;rw [List.getElem?_set_self (by rw [i2.1];exact hj)] at hq;cases hq;rw [if_pos Zo];exact hw2.rd.more fun a ha => List.mem_append_right _ ha
      · rw [List.getElem?_set_ne e] at hq;have := (i2.2.2 i z q hz hq).more (B := D ++ B2) fun a ha => Zw _ ha
        by_cases g : i < j
        · rw [if_pos g] at this;rwa [if_pos Zo]
        · rw [if_neg g] at this;rwa [if_neg Zo]
    · have hl2 : (rows.set j ws).flatten.length = x.body.length * 11 := by
        rw [jJ (sz := 11) (fun q hq => by
          rcases List.mem_or_eq_of_mem_set hq with hq | rfl
          · exact i2.2.1 q hq
          · exact hwl), List.length_set, i2.1]
      cases i3 with
      | mk q1 q2 q3 => exact .mk hl2 (by rw [hl2, <- hfl];exact q2) q3
    · simp only;refine Imp.cut (M := [kA b o ((rows.set j ws).flatten ++ sp), D, B2, kA q3 0 [.string x.sel, .slice a4 x.args.length c4, .slice a7 x.temps.length c7, vi x.prim, .slice (some ⟨b, o, none⟩) x.body.length sc], kA q2 0 [.string ⟨#[]⟩, .slice none 0 0, .slice none 0 0, .int .i64 0, .slice none 0 0], LA, LT, A]) ZI (Imp.cut (M := [kA q3 0 [.string x.sel, .slice a4 x.args.length c4, .slice a7 x.temps.length c7, vi x.prim, .slice (some ⟨b, o, none⟩) x.body.length sc], kA q2 0 [.string ⟨#[]⟩, .slice none 0 0, .slice none 0 0, .int .i64 0, .slice none 0 0], slA (.slice (some ⟨b, o, none⟩) x.body.length sc) (rows.set j ws).flatten sp, D, B2, LA, LT, A]) (by simp only [slA];exact IMx) (Imp.perm Zs))
end Go.Proofs.YtmnmandpdadedaaGreatDoor
namespace Go.Proofs.YtmnmandpdadedaaGreatDoor
open Go Go.V
set_option maxHeartbeats 3200000
set_option maxRecDepth 100000
structure Bk where
  lv : Value
  nv : Value
  xv : Value
  ls : List OwnR
  ns : List OwnR
  xs : List OwnR
  lsp : List Value
  nsp : List Value
  xsp : List Value
def Bk.mem (p : Nat) (k : Bk) : SH := [kA p 0 [.slice none 0 0, k.lv, k.nv, k.xv], slA k.lv (k.ls.map (·.v)) k.lsp, slA k.nv (k.ns.map (·.v)) k.nsp, slA k.xv (k.xs.map (·.v)) k.xsp]
structure Bk.Ok (k : Bk) : Prop where
  l : ku 1 k.lv k.ls.length (k.ls.map (·.v)) k.lsp
  n : ku 1 k.nv k.ns.length (k.ns.map (·.v)) k.nsp
  x : ku 1 k.xv k.xs.length (k.xs.map (·.v)) k.xsp
  lo : ∀ q ∈ k.ls, OkR 5 q
  no : ∀ q ∈ k.ns, OkR 11 q
  xo : ∀ q ∈ k.xs, OkR 1 q
def Bk.n (k : Bk) : Nat := k.ls.length + k.ns.length + k.xs.length
def Bk.own (k : Bk) : List kE := k.ls.flatMap owR ++ (k.ns.flatMap owR ++ k.xs.flatMap owR)
def Bk.Add (k k' : Bk) (m : Nat) (L : List kE) : Prop := k'.Ok /\ k'.own.Perm (k.own ++ L) /\ k'.n <= k.n + m
theorem Bk.Add.trans {k k' k'' : Bk} {m m' : Nat} {L L' : List kE} (h : k.Add k' m L) (h2 : k'.Add k'' m' L') : k.Add k'' (m + m') (L ++ L') := by
  obtain ⟨_, g1, g2⟩ := h;obtain ⟨g3, g4, g5⟩ := h2;refine ⟨g3, g4.trans ((g1.append_right L').trans ?_), Zo⟩;rw [List.append_assoc]
theorem Bk.Add.perm {k k' : Bk} {m m' : Nat} {L L' : List kE} (h : k.Add k' m L) (hp : L'.Perm L) (hm : m <= m') : k.Add k' m' L' := by
  obtain ⟨g1, g2, g3⟩ := h;exact ⟨g1, g2.trans (hp.symm.append_left _), Zo⟩
theorem okR_rows {sz : Nat} {v : Value} {n : Nat} {rows : List (List Value)} {sp : List Value} (h : ku sz v n rows.flatten sp) (h2 : rows.length = n) (h3 : ∀ r ∈ rows, r.length = sz) (h4 : n <= 1073741824) : OkR sz ⟨v, rows, sp⟩ := by
  subst h2;exact ⟨h, h3, h4⟩
theorem snoc_perm (A B C D : List kE) : ((A ++ D) ++ (B ++ C)).Perm (A ++ (B ++ C) ++ D) := by
  rw [List.append_assoc, List.append_assoc];exact List.Perm.append_left A List.perm_append_comm
theorem Bk.addL {k : Bk} (h : k.Ok) {q : OwnR} (hq : OkR 5 q) {lv' : Value} {sp' : List Value} (hs : ku 1 lv' (k.ls.length + 1) (k.ls.map (·.v) ++ [q.v]) sp') : k.Add { k with lv := lv', ls := k.ls ++ [q], lsp := sp' } 1 (owR q) := by
  refine ⟨⟨by simpa using hs, h.n, h.x, fun r hr => ?_, h.no, h.xo⟩, ?_, by simp [Bk.n];omega⟩
  · rcases List.mem_append.1 hr with hr | hr
    · exact h.lo r hr
    · rw [List.mem_singleton.1 hr];exact hq
  · simp only [Bk.own, List.flatMap_append, List.flatMap_cons, List.flatMap_nil, List.append_nil];exact snoc_perm _ _ _ _
theorem Bk.addN {k : Bk} (h : k.Ok) {q : OwnR} (hq : OkR 11 q) {nv' : Value} {sp' : List Value} (hs : ku 1 nv' (k.ns.length + 1) (k.ns.map (·.v) ++ [q.v]) sp') : k.Add { k with nv := nv', ns := k.ns ++ [q], nsp := sp' } 1 (owR q) := by
  refine ⟨⟨h.l, by simpa using hs, h.x, h.lo, fun r hr => ?_, h.xo⟩, ?_, by simp [Bk.n];omega⟩
  · rcases List.mem_append.1 hr with hr | hr
    · exact h.no r hr
    · rw [List.mem_singleton.1 hr];exact hq
  · simp only [Bk.own, List.flatMap_append, List.flatMap_cons, List.flatMap_nil, List.append_nil];have := snoc_perm (k.ns.flatMap owR) (k.xs.flatMap owR) [] (owR q);simp only [List.append_nil] at this;rw [List.append_assoc (k.ls.flatMap owR)];exact List.Perm.append_left _ this
theorem Bk.addX {k : Bk} (h : k.Ok) {q : OwnR} (hq : OkR 1 q) {xv' : Value} {sp' : List Value} (hs : ku 1 xv' (k.xs.length + 1) (k.xs.map (·.v) ++ [q.v]) sp') : k.Add { k with xv := xv', xs := k.xs ++ [q], xsp := sp' } 1 (owR q) := by
  refine ⟨⟨h.l, h.n, by simpa using hs, h.lo, h.no, fun r hr => ?_⟩, ?_, by simp [Bk.n];omega⟩
  · rcases List.mem_append.1 hr with hr | hr
    · exact h.xo r hr
    · rw [List.mem_singleton.1 hr];exact hq
  · simp only [Bk.own, List.flatMap_append, List.flatMap_cons, List.flatMap_nil, List.append_nil];rw [List.append_assoc, List.append_assoc]
theorem range_succ_flat (Ls : Nat -> List kE) (j : Nat) : (List.range (j + 1)).flatMap Ls = (List.range j).flatMap Ls ++ Ls j := by simp [List.range_succ]
theorem sizes_snoc (l : List Lt) (y : Lt) : Lt.sizes (l ++ [y]) = Lt.sizes l + y.size := by
  induction l with
  | nil => simp [Lt.sizes]
  | cons x l ih => simp only [List.cons_append, Lt.sizes, ih];omega
theorem ws_snoc (l : List Nd) (y : Nd) : Nd.ws (l ++ [y]) = Nd.ws l + y.w := by
  induction l with
  | nil => simp [Nd.ws]
  | cons x l ih => simp only [List.cons_append, Nd.ws, ih];omega
theorem sizes_take (l : List Lt) (j : Nat) : Lt.sizes (l.take j) <= Lt.sizes l := by
  induction l generalizing j with
  | nil => simp [Lt.sizes]
  | cons x l ih =>
    cases j with
    | zero => simp [Lt.sizes]
    | succ j => simp only [List.take_succ_cons, Lt.sizes];have := ih j;omega
theorem ws_take (l : List Nd) (j : Nat) : Nd.ws (l.take j) <= Nd.ws l := by
  induction l generalizing j with
  | nil => simp [Nd.ws]
  | cons x l ih =>
    cases j with
    | zero => simp [Nd.ws]
    | succ j => simp only [List.take_succ_cons, Nd.ws];have := ih j;omega
theorem Lit_spec (p : Nat) (M : List kE) : ∀ (N : Nat) (x : Lt), x.size <= N -> x.size <= 1073741824 -> ∀ vs L, wS x vs L -> (∀ a ∈ L, a ∈ M) -> ∀ (k : Bk), k.Ok -> k.n + x.size <= 274877906944 ->
    Fun Tryz.prog 99 [kN p, .agg vs.toArray] (M :: k.mem p) (fun v Post => v = .tuple #[] /\ ∃ k', k.Add k' x.size L /\ Post = M :: k'.mem p) := by
  intro N
  induction N with
  | zero => intro x hx;have := x.size_pos;omega
  | succ N ih =>
    intro x hx hb vs L h hLM k hk hkn;obtain ⟨sv, rows, sp, K, rfl, hsl, hrows, wf, hperm⟩ := h.parts;cases x with
    | mk xk xn xb xt items =>
    simp only [Lt.kind, Lt.n, Lt.bits, Lt.text, Lt.items] at hsl hrows wf hperm |-;simp only [Lt.size] at hx hb hkn |-;have hge := sizes_ge items;obtain ⟨g1, g2, Ls, hK, hLs⟩ := hrows;obtain ⟨sa, sc, rfl⟩ := hsl.form;have hq : OkR 5 ⟨.slice sa items.length sc, rows, sp⟩ := okR_rows hsl g1 g2 Zo;obtain ⟨la, lc, hle⟩ := hk.l.form;have hadd := fun lv' sp' hs => Bk.addL (lv' := lv') (sp' := sp') hk hq hs
    have hkl := hk.l;rw [hle] at hkl;have hkn2 : k.ls.length <= k.n := by unfold Bk.n;omega
    have hend : ∀ k', k.Add k' (1 + Lt.sizes (items.take items.length)) (slA (.slice sa items.length sc) rows.flatten sp ++ (List.range items.length).flatMap Ls) -> k.Add k' (1 + Lt.sizes items) L := fun k' h => by
      rw [<- hK] at h;exact h.perm hperm (by rw [List.take_length];exact Nat.le_refl _)
    refine Fun.intro low99 (by simp [n99]) ?_;simp only [Bk.mem, hle];refine GOH ?_;refine kS Zr (fun q => ?_);simp only [Value.cells];refine GOH ?_;refine ki (out := [.slice sa items.length sc]) Zr Zr (fun r => ?_);refine GOH ?_;refine j8 (k := k.ls.length) (m := 1) (xs := k.ls.map (·.v)) (sp := k.lsp) (ys := [.slice sa items.length sc]) Zr Zr hkl ZK Zr ?_ rfl Zr Zr Zd Zo (fun lv' sp' hs => ?_)
    · exact Zal
    have hadd := hadd lv' sp' hs;obtain ⟨la', lc', rfl⟩ := hs.form;refine GOH ?_;refine VC.loop (α := Nat × Bk) (Γf := fun z => [(0, kN p), (3, kN q), (4, vi z.1)]) (Hf := fun z => kA q 0 [cv xk, vi xn, uv xb, .string xt, .slice sa items.length sc] :: M :: z.2.mem p)
      (I := fun z => z.1 <= items.length /\ k.Add z.2 (1 + Lt.sizes (items.take z.1)) (slA (.slice sa items.length sc) rows.flatten sp ++ (List.range z.1).flatMap Ls)) (μ := fun z => items.length - z.1) (0, _) ⟨Nat.zero_le _, hadd.perm (by simp [owR]) (by simp [Lt.sizes])⟩ ZU (by simp only [Bk.mem, List.map_append, List.map_cons, List.map_nil];exact IMx) ?_
    rintro ⟨j, k1⟩ ⟨i1, i2⟩
    simp only at i1 i2;dsimp only;have hk1 := i2.1;have hk1n := i2.2.2;have hst := sizes_take items (j + 1);simp only [Bk.mem];refine GOH ?_;by_cases hj : j < items.length;rotate_left
    · obtain rfl : j = items.length := by omega
      rw [show decide ((items.length : Int) < (items.length : Int)) = false from Zf Zo];refine GOH ?_;exact kC (Post := M :: k1.mem p) (.inl rfl) .nil ⟨rfl, k1, hend k1 i2, rfl⟩ (by simp only [Bk.mem];exact IMx)
    rw [show decide ((j : Int) < (items.length : Int)) = true from Zt Zo];obtain ⟨y, hy⟩ : ∃ y, items[j]? = some y := ⟨_, Zg hj⟩;obtain ⟨r1, hr⟩ : ∃ r, rows[j]? = some r := ⟨_, Zg (by rw [g1];exact hj)⟩;have hyo := hLs j y r1 hy hr;have hyl := hyo.rd.len;have htk : items.take (j + 1) = items.take j ++ [y] := by rw [List.take_add_one, hy];rfl
    rw [htk, sizes_snoc] at hst;have hsubL : ∀ a ∈ Ls j, a ∈ M := fun a ha => hLM a (hperm.symm.subset (List.mem_append_right _ (by rw [hK];exact List.mem_flatMap.2 ⟨j, List.mem_range.2 hj, ha⟩)))
    have hcall := ih y Zo Zo _ _ hyo hsubL k1 hk1 Zo;obtain ⟨b, o, c2, hse, _, _⟩ := hsl.some Zo;simp only [Value.slice.injEq, true_and] at hse;obtain ⟨rfl, rfl⟩ := hse;have hrow : ∀ z ∈ kA b (o + j * 5) r1, z ∈ M := fun z hz => hLM z (hperm.symm.subset (Zw _ (by
      simp only [slA];rw [kW];exact Zw _ (ze g2 hr z hz))))
    simp only [Bk.mem] at hcall;refine GOH ?_;refine kL Zr (fun z hz => by have := hrow z hz;simp only [List.flatten_cons, List.mem_append];exact .inr (.inl this)) hyl ?_;refine GOH ?_;refine kD hcall Zr ZP (fun v Post hv => ?_);obtain ⟨rfl, k2, hk2, rfl⟩ := hv;simp only [CNx];refine GOH ?_;refine ⟨(j + 1, k2), ⟨by simp only;omega, ?_⟩, by simp only;omega, ZU, by simp only [Bk.mem];exact IMx⟩;simp only;refine (i2.trans hk2).perm ?_ (by rw [htk, sizes_snoc];omega);rw [range_succ_flat, List.append_assoc]
end Go.Proofs.YtmnmandpdadedaaGreatDoor
namespace Go.Proofs.YtmnmandpdadedaaGreatDoor
open Go Go.V
set_option maxHeartbeats 3200000
set_option maxRecDepth 100000
theorem texts_flat (l : List ByteArray) : (l.map fun s => [Value.string s]).flatten = l.map .string := by
  induction l with
  | nil => rfl
  | cons s l ih => simpa using ih
theorem okR_texts {v : Value} {l : List ByteArray} {L : List kE} (h : wC v l L) (h4 : l.length <= 1073741824) : ∃ q : OwnR, OkR 1 q /\ q.v = v /\ owR q = L := by
  obtain ⟨sp, hsl, rfl, _, _⟩ := h;refine ⟨⟨v, l.map fun s => [.string s], sp⟩, okR_rows (n := l.length) (by rw [texts_flat];exact hsl) Zs (fun r hr => ?_) h4, rfl, by simp only [owR, texts_flat]⟩;obtain ⟨s, _, rfl⟩ := List.mem_map.1 hr;rfl
theorem book_perm (S A T L K : List kE) : (L ++ (A ++ (T ++ (S ++ K)))).Perm ((((S ++ A) ++ T) ++ L) ++ K) := by
  have e1 : L ++ (A ++ (T ++ (S ++ K))) = (L ++ (A ++ (T ++ S))) ++ K := by simp
  rw [e1];refine List.Perm.append_right K ?_;refine (List.perm_append_comm).trans (List.Perm.append_right L ?_);rw [<- List.append_assoc, List.append_assoc S];exact List.perm_append_comm
theorem Node_spec (p : Nat) (M : List kE) : ∀ (N : Nat) (x : Nd), x.w <= N -> x.w <= 1073741824 -> ∀ vs L, wD x vs L -> (∀ a ∈ L, a ∈ M) -> ∀ (k : Bk), k.Ok -> k.n + 4 * x.w <= 274877906944 ->
    Fun Tryz.prog 60 [kN p, .agg vs.toArray] (M :: k.mem p) (fun v Post => v = .tuple #[] /\ ∃ k', k.Add k' (4 * x.w) L /\ Post = M :: k'.mem p) := by
  intro N
  induction N with
  | zero => intro x hx;have := x.w_pos;omega
  | succ N ih =>
    intro x hx hb vs L h hLM k hk hkn;obtain ⟨lv, av, tv, sv, rows, sp, LL, LA, LT, K, rfl, hsl, hrows, wf, hlt, hav, htv, hperm⟩ := h.parts;cases x with
    | mk xk s lit args temps kids xp =>
    simp only [Nd.kind, Nd.name, Nd.lit, Nd.args, Nd.temps, Nd.kids, Nd.at_] at hsl hrows wf hlt hav htv hperm |-;simp only [Nd.w] at hx hb hkn |-;have hge := ws_ge kids;have hls := lit.size_pos;obtain ⟨g1, g2, Ls, hK, hLs⟩ := hrows;obtain ⟨sa, sc, rfl⟩ := hsl.form;have hq : OkR 11 ⟨.slice sa kids.length sc, rows, sp⟩ := okR_rows hsl g1 g2 Zo;obtain ⟨qa, hqa, hqav, hqao⟩ := okR_texts hav Zo;obtain ⟨qt, hqt, hqtv, hqto⟩ := okR_texts htv Zo;obtain ⟨aa, ac, rfl, _, _⟩ := hav.rd;obtain ⟨ta, tc, rfl, _, _⟩ := htv.rd;have hltr := hlt.rd;obtain ⟨la, lc, hlv⟩ := jx hltr;rw [hlv] at hlt |-;have hsub : ∀ {S : List kE}, (∀ a ∈ S, a ∈ LL ++ (LA ++ (LT ++ (slA (.slice sa kids.length sc) rows.flatten sp ++ K)))) -> ∀ a ∈ S, a ∈ M := fun hS a ha => hLM a (hperm.symm.subset (hS a ha))
    have hlitc := fun k hk hn => Lit_spec p M _ lit (Nat.le_refl _) Zo _ LL hlt (hsub fun a ha => Zw _ ha) k hk hn
    have hkn2 : k.ns.length <= k.n /\ k.xs.length <= k.n := by unfold Bk.n;omega
    obtain ⟨na, nc, hne⟩ := hk.n.form;have hkns := hk.n;rw [hne] at hkns;obtain ⟨xa, xc, hxe⟩ := hk.x.form;have hkxs := hk.x;rw [hxe] at hkxs;have hwt := fun j => ws_take kids (j + 1)
    refine Fun.intro low60 (by simp [n60]) ?_;simp only [Bk.mem, hne, hxe, List.cons_append, List.nil_append];refine GOH ?_;refine kS Zr (fun q => ?_);simp only [Value.cells];refine GOH ?_;refine ki (out := [.slice sa kids.length sc]) Zr Zr (fun r => ?_);refine GOH ?_;refine j8 (k := k.ns.length) (m := 1) (xs := k.ns.map (·.v)) (sp := k.nsp) (ys := [.slice sa kids.length sc]) Zr Zr hkns ZK Zr ?_ rfl Zr Zr Zd Zo (fun nv' nsp' hs1 => ?_)
    · exact Zal
    have hadd1 := Bk.addN hk hq hs1;obtain ⟨na', nc', rfl⟩ := hs1.form;refine GOH ?_;refine ki (out := [.slice aa args.length ac]) Zr Zr (fun r => ?_);refine GOH ?_;refine j8 (k := k.xs.length) (m := 1) (xs := k.xs.map (·.v)) (sp := k.xsp) (ys := [.slice aa args.length ac]) Zr Zr hkxs ZK Zr ?_ rfl Zr Zr Zd Zo (fun xv1 xsp1 hs2 => ?_)
    · exact Zal
    have hs2' := hs2;rw [<- hqav] at hs2';have hadd2 := hadd1.trans (Bk.addX hadd1.1 hqa hs2');obtain ⟨xa1, xc1, rfl⟩ := hs2.form;refine GOH ?_;refine ki (out := [.slice ta temps.length tc]) Zr Zr (fun r => ?_);refine GOH ?_;refine j8 (k := k.xs.length + 1) (m := 1) (xs := k.xs.map (·.v) ++ [.slice aa args.length ac]) (sp := xsp1) (ys := [.slice ta temps.length tc]) Zr Zr hs2 ZK Zr ?_ rfl Zr Zr Zd Zo (fun xv2 xsp2 hs3 => ?_)
    · exact Zal
    have hs3' : ku 1 xv2 ((k.xs ++ [qa]).length + 1) ((k.xs ++ [qa]).map (·.v) ++ [qt.v]) xsp2 := by
      rw [hqtv, List.map_append, List.map_cons, List.map_nil, hqav, List.length_append];exact hs3
    have hadd3 := hadd2.trans (Bk.addX hadd2.1 hqt hs3');obtain ⟨xa2, xc2, rfl⟩ := hs3.form;refine GOH ?_;generalize hk3 : ({ k with nv := .slice na' (k.ns.length + 1) nc', ns := k.ns ++ [⟨.slice sa kids.length sc, rows, sp⟩], nsp := nsp', xv := .slice xa2 (k.xs.length + 1 + 1) xc2, xs := (k.xs ++ [qa]) ++ [qt], xsp := xsp2 } : Bk) = k3 at hadd3;refine VO.imp (H' := kA q 0 [cv xk, .string s, cv lit.kind, vi lit.n, uv lit.bits, .string lit.text, .slice la lit.items.length lc, .slice aa args.length ac, .slice ta temps.length tc, .slice sa kids.length sc, vi xp] :: M :: k3.mem p) (by rw [<- hk3];simp only [Bk.mem, List.map_append, List.map_cons, List.map_nil, hqav, hqtv, List.append_assoc, List.cons_append, List.nil_append];exact IMx) ?_;have hk3n := hadd3.2.2;have hlitc := hlitc k3 hadd3.1 Zo;simp only [Bk.mem] at hlitc |-;refine kD hlitc Zr ZP (fun v Post hv => ?_);obtain ⟨rfl, k4, hk4, rfl⟩ := hv;simp only [CNx];have hadd4 := hadd3.trans hk4;simp only [owR, hqao, hqto] at hadd4;rw [show slA qa.v qa.rows.flatten qa.sp = LA from hqao, show slA qt.v qt.rows.flatten qt.sp = LT from hqto] at hadd4;refine GOH ?_;refine VC.loop (α := Nat × Bk) (Γf := fun z => [(0, kN p), (3, kN q), (4, vi z.1)]) (Hf := fun z => kA q 0 [cv xk, .string s, cv lit.kind, vi lit.n, uv lit.bits, .string lit.text, .slice la lit.items.length lc, .slice aa args.length ac, .slice ta temps.length tc, .slice sa kids.length sc, vi xp] :: M :: z.2.mem p)
      (I := fun z => z.1 <= kids.length /\ k.Add z.2 (1 + 1 + 1 + lit.size + 4 * Nd.ws (kids.take z.1)) ((((slA (.slice sa kids.length sc) rows.flatten sp ++ LA) ++ LT) ++ LL) ++ (List.range z.1).flatMap Ls)) (μ := fun z => kids.length - z.1) (0, k4) ⟨Nat.zero_le _, hadd4.perm Zs (by simp [Nd.ws])⟩ ZU (by simp only [Bk.mem];exact IMx) ?_
    rintro ⟨j, k5⟩ ⟨i1, i2⟩
    simp only at i1 i2;dsimp only;have hk5 := i2.1;have hk5n := i2.2.2;have hst := ws_take kids (j + 1);simp only [Bk.mem];refine GOH ?_;by_cases hj : j < kids.length;rotate_left
    · obtain rfl : j = kids.length := by omega
      rw [show decide ((kids.length : Int) < (kids.length : Int)) = false from Zf Zo];refine GOH ?_;exact kC (Post := M :: k5.mem p) (.inl rfl) .nil ⟨rfl, k5, i2.perm (by rw [<- hK];exact hperm.trans (book_perm _ _ _ _ _)) (by rw [List.take_length];omega), rfl⟩ (by simp only [Bk.mem];exact IMx)
    rw [show decide ((j : Int) < (kids.length : Int)) = true from Zt Zo];obtain ⟨y, hy⟩ : ∃ y, kids[j]? = some y := ⟨_, Zg hj⟩;obtain ⟨r1, hr⟩ : ∃ r, rows[j]? = some r := ⟨_, Zg (by rw [g1];exact hj)⟩;have hyo := hLs j y r1 hy hr;have hyl := hyo.len;have htk : kids.take (j + 1) = kids.take j ++ [y] := by rw [List.take_add_one, hy];rfl
    rw [htk, ws_snoc] at hst;have hsubL := hsub (S := Ls j) fun a ha => List.mem_append_right _ (List.mem_append_right _ (List.mem_append_right _ (List.mem_append_right _ (by rw [hK];exact List.mem_flatMap.2 ⟨j, List.mem_range.2 hj, ha⟩))))
    have hcall := ih y Zo Zo _ _ hyo hsubL k5 hk5 Zo;obtain ⟨b, o, c2, hse, _, _⟩ := hsl.some Zo;simp only [Value.slice.injEq, true_and] at hse;obtain ⟨rfl, rfl⟩ := hse;have hrow := hsub (S := kA b (o + j * 11) r1) fun z hz => List.mem_append_right _ (List.mem_append_right _ (List.mem_append_right _ (Zw _ (by
      simp only [slA];rw [kW];exact Zw _ (ze g2 hr z hz)))))
    simp only [Bk.mem] at hcall;refine GOH ?_;refine kL Zr (fun z hz => by have := hrow z hz;simp only [List.flatten_cons, List.mem_append];exact .inr (.inl this)) hyl ?_;refine GOH ?_;refine kD hcall Zr ZP (fun v Post hv => ?_);obtain ⟨rfl, k6, hk6, rfl⟩ := hv;simp only [CNx];refine GOH ?_;refine ⟨(j + 1, k6), ⟨by simp only;omega, ?_⟩, by simp only;omega, ZU, by simp only [Bk.mem];exact IMx⟩;simp only;refine (i2.trans hk6).perm ?_ (by rw [htk, ws_snoc];omega);rw [range_succ_flat, <- List.append_assoc]
end Go.Proofs.YtmnmandpdadedaaGreatDoor
namespace Go.Proofs.YtmnmandpdadedaaGreatDoor
open Go Go.V
set_option maxHeartbeats 3200000
set_option maxRecDepth 100000
theorem book_perm2 (S A T K : List kE) : (S ++ (K ++ (A ++ T))).Perm (((A ++ T) ++ S) ++ K) := by
  rw [<- List.append_assoc];refine (List.perm_append_comm).trans ?_;rw [List.append_assoc (A ++ T)]
theorem Method_spec (p : Nat) (M : List kE) (x : Md) (hw : Nd.ws x.body <= 1073741824) (hal : x.args.length <= 1073741824) (htl : x.temps.length <= 1073741824) (vs : List Value) (L : List kE) (h : MdOwn x vs L) (hLM : ∀ a ∈ L, a ∈ M) (k : Bk) (hk : k.Ok) (hkn : k.n + (3 + 4 * Nd.ws x.body) <= 274877906944) :
    Fun Tryz.prog 19 [kN p, .agg vs.toArray] (M :: k.mem p) (fun v Post => v = .tuple #[] /\ ∃ k', k.Add k' (3 + 4 * Nd.ws x.body) L /\ Post = M :: k'.mem p) := by
  obtain ⟨av, tv, sv, rows, sp, LA, LT, K, rfl, hsl, hrows, hav, htv, hperm⟩ := h;have hge := ws_ge x.body;obtain ⟨g1, g2, Ls, hK, hLs⟩ := hrows;obtain ⟨sa, sc, rfl⟩ := hsl.form;have hq : OkR 11 ⟨.slice sa x.body.length sc, rows, sp⟩ := okR_rows hsl g1 g2 Zo;obtain ⟨qa, hqa, hqav, hqao⟩ := okR_texts hav hal;obtain ⟨qt, hqt, hqtv, hqto⟩ := okR_texts htv htl;obtain ⟨aa, ac, rfl, _, _⟩ := hav.rd;obtain ⟨ta, tc, rfl, _, _⟩ := htv.rd;have hsub : ∀ {S : List kE}, (∀ a ∈ S, a ∈ slA (.slice sa x.body.length sc) rows.flatten sp ++ (K ++ (LA ++ LT))) -> ∀ a ∈ S, a ∈ M := fun hS a ha => hLM a (hperm.symm.subset (hS a ha))
  have hkn2 : k.ns.length <= k.n /\ k.xs.length <= k.n := by unfold Bk.n;omega
  obtain ⟨na, nc, hne⟩ := hk.n.form;have hkns := hk.n;rw [hne] at hkns;obtain ⟨xa, xc, hxe⟩ := hk.x.form;have hkxs := hk.x;rw [hxe] at hkxs;refine Fun.intro low19 (by simp [n19]) ?_;simp only [Bk.mem, hne, hxe];refine GOH ?_;refine kS Zr (fun q => ?_);simp only [Value.cells];refine GOH ?_;refine ki (out := [.slice aa x.args.length ac]) Zr Zr (fun r => ?_);refine GOH ?_;refine j8 (k := k.xs.length) (m := 1) (xs := k.xs.map (·.v)) (sp := k.xsp) (ys := [.slice aa x.args.length ac]) Zr Zr hkxs ZK Zr ?_ rfl Zr Zr Zd Zo (fun xv1 xsp1 hs2 => ?_)
  · exact Zal
  have hs2' := hs2;rw [<- hqav] at hs2';have hadd2 := Bk.addX hk hqa hs2';obtain ⟨xa1, xc1, rfl⟩ := hs2.form;refine GOH ?_;refine ki (out := [.slice ta x.temps.length tc]) Zr Zr (fun r => ?_);refine GOH ?_;refine j8 (k := k.xs.length + 1) (m := 1) (xs := k.xs.map (·.v) ++ [.slice aa x.args.length ac]) (sp := xsp1) (ys := [.slice ta x.temps.length tc]) Zr Zr hs2 ZK Zr ?_ rfl Zr Zr Zd Zo (fun xv2 xsp2 hs3 => ?_)
  · exact Zal
  have hs3' : ku 1 xv2 ((k.xs ++ [qa]).length + 1) ((k.xs ++ [qa]).map (·.v) ++ [qt.v]) xsp2 := by
    rw [hqtv, List.map_append, List.map_cons, List.map_nil, hqav, List.length_append];exact hs3
  have hadd3 := hadd2.trans (Bk.addX hadd2.1 hqt hs3');obtain ⟨xa2, xc2, rfl⟩ := hs3.form;refine GOH ?_;refine ki (out := [.slice sa x.body.length sc]) Zr Zr (fun r => ?_);refine GOH ?_;refine j8 (k := k.ns.length) (m := 1) (xs := k.ns.map (·.v)) (sp := k.nsp) (ys := [.slice sa x.body.length sc]) Zr Zr hkns ZK Zr ?_ rfl Zr Zr Zd Zo (fun nv' nsp' hs1 => ?_)
  · exact Zal
  have hadd4 := hadd3.trans (Bk.addN hadd3.1 hq hs1);obtain ⟨na', nc', rfl⟩ := hs1.form;refine GOH ?_;generalize hk4 : ({ k with nv := .slice na' (k.ns.length + 1) nc', ns := k.ns ++ [⟨.slice sa x.body.length sc, rows, sp⟩], nsp := nsp', xv := .slice xa2 (k.xs.length + 1 + 1) xc2, xs := (k.xs ++ [qa]) ++ [qt], xsp := xsp2 } : Bk) = k4 at hadd4;simp only [owR, hqao, hqto] at hadd4;rw [show slA qa.v qa.rows.flatten qa.sp = LA from hqao, show slA qt.v qt.rows.flatten qt.sp = LT from hqto] at hadd4;refine VC.imp (H' := kA q 0 [.string x.sel, .slice aa x.args.length ac, .slice ta x.temps.length tc, vi x.prim, .slice sa x.body.length sc] :: M :: k4.mem p) (by rw [<- hk4];simp only [Bk.mem, List.map_append, List.map_cons, List.map_nil, hqav, hqtv, List.append_assoc, List.cons_append, List.nil_append];exact IMx) ?_;refine VC.loop (α := Nat × Bk) (Γf := fun z => [(0, kN p), (3, kN q), (4, vi z.1)]) (Hf := fun z => kA q 0 [.string x.sel, .slice aa x.args.length ac, .slice ta x.temps.length tc, vi x.prim, .slice sa x.body.length sc] :: M :: z.2.mem p)
    (I := fun z => z.1 <= x.body.length /\ k.Add z.2 (1 + 1 + 1 + 4 * Nd.ws (x.body.take z.1)) (((LA ++ LT) ++ slA (.slice sa x.body.length sc) rows.flatten sp) ++ (List.range z.1).flatMap Ls)) (μ := fun z => x.body.length - z.1) (0, k4) ⟨Nat.zero_le _, hadd4.perm Zs (by simp [Nd.ws])⟩ ZU (by simp only [Bk.mem];exact IMx) ?_
  rintro ⟨j, k5⟩ ⟨i1, i2⟩
  simp only at i1 i2;dsimp only;have hk5 := i2.1;have hk5n := i2.2.2;have hst := ws_take x.body (j + 1);simp only [Bk.mem];refine GOH ?_;by_cases hj : j < x.body.length;rotate_left
  · obtain rfl : j = x.body.length := by omega
    rw [show decide ((x.body.length : Int) < (x.body.length : Int)) = false from Zf Zo];refine GOH ?_;exact kC (Post := M :: k5.mem p) (.inl rfl) .nil ⟨rfl, k5, i2.perm (by rw [<- hK];exact hperm.trans (book_perm2 _ _ _ _)) (by rw [List.take_length];omega), rfl⟩ (by simp only [Bk.mem];exact IMx)
  rw [show decide ((j : Int) < (x.body.length : Int)) = true from Zt Zo];obtain ⟨y, hy⟩ : ∃ y, x.body[j]? = some y := ⟨_, Zg hj⟩;obtain ⟨r1, hr⟩ : ∃ r, rows[j]? = some r := ⟨_, Zg (by rw [g1];exact hj)⟩;have hyo := hLs j y r1 hy hr;have hyl := hyo.len;have htk : x.body.take (j + 1) = x.body.take j ++ [y] := by rw [List.take_add_one, hy];rfl
  rw [htk, ws_snoc] at hst;have hsubL := hsub (S := Ls j) fun a ha => List.mem_append_right _ (Zw _ (by rw [hK];exact List.mem_flatMap.2 ⟨j, List.mem_range.2 hj, ha⟩))
  have hcall := Node_spec p M _ y (Nat.le_refl _) Zo _ _ hyo hsubL k5 hk5 Zo;obtain ⟨b, o, c2, hse, _, _⟩ := hsl.some Zo;simp only [Value.slice.injEq, true_and] at hse;obtain ⟨rfl, rfl⟩ := hse;have hrow := hsub (S := kA b (o + j * 11) r1) fun z hz => Zw _ (by
    simp only [slA];rw [kW];exact Zw _ (ze g2 hr z hz))
  simp only [Bk.mem] at hcall;refine GOH ?_;refine kL Zr (fun z hz => by have := hrow z hz;simp only [List.flatten_cons, List.mem_append];exact .inr (.inl this)) hyl ?_;refine GOH ?_;refine kD hcall Zr ZP (fun v Post hv => ?_);obtain ⟨rfl, k6, hk6, rfl⟩ := hv;simp only [CNx];refine GOH ?_;refine ⟨(j + 1, k6), ⟨by simp only;omega, ?_⟩, by simp only;omega, ZU, by simp only [Bk.mem];exact IMx⟩;simp only;refine (i2.trans hk6).perm ?_ (by rw [htk, ws_snoc];omega);rw [range_succ_flat, <- List.append_assoc]
end Go.Proofs.YtmnmandpdadedaaGreatDoor
namespace Go.Proofs.YtmnmandpdadedaaGreatDoor
open Go Go.V
set_option maxHeartbeats 1600000
set_option maxRecDepth 100000
theorem kidB7 (m i : Nat) (y : Nd) : kidB 7 m i y = ((decide (y.kind = 9) && decide (i + 1 = m)) || zI y) := by
  unfold kidB zI;by_cases a : y.kind = 9
  · have : jy y = false := by rw [Bool.eq_false_iff];intro h;have := super_kind h;omega
    by_cases b : i + 1 = m <;> simp [a, b, this]
  · by_cases b : y.kind = 6 <;> cases jy y <;> simp [a, b]
theorem body_spec (A : List kE) (hE : ErA A) (l : List Nd) (hw : Nd.ws l <= 274877906944) (a : Option Addr) (c bk o : Nat) (us : Nat -> List Value) (hk : KidsRd A l a bk o us) : Fun Tryz.prog 67 [.slice a l.length c] [A] (fun v Post => v = .bool (kh 7 l.length 0 l) /\ Post = [A]) := by
  obtain ⟨ha, hmany, hm, hr⟩ := hk;refine Fun.intro low67 (by simp [n67]) ?_;refine GOH ?_;refine VC.loop (α := Nat) (Γf := fun j => [(0, .slice a l.length c), (3, vi j)]) (Hf := fun _ => [A]) (I := fun j => j <= l.length /\ kh 7 l.length 0 l = kh 7 l.length j (l.drop j)) (μ := fun j => l.length - j) 0 ⟨Nat.zero_le _, rfl⟩ ZU ZI ?_
  rintro j ⟨i1, i2⟩
  refine GOH ?_;by_cases hj : j < l.length;rotate_left
  · rw [List.drop_eq_nil_of_le Zo] at i2;rw [show decide ((j : Int) < (l.length : Int)) = false from Zf Zo];refine GOH ?_;exact kC (Post := [A]) (.inr rfl) (.tmp Zr .nil) ⟨by rw [i2];rfl, rfl⟩ ZI
  rw [show decide ((j : Int) < (l.length : Int)) = true from Zt Zo];obtain rfl := ha Zo;obtain ⟨y, hy⟩ : ∃ y, l[j]? = some y := ⟨_, Zg hj⟩;have hyr := hr j y hy;have hym := hm j hj;have hyl := hyr.len;have hzw : y.w <= Nd.ws l := Nd.ws_mem (Zv hy);have hcall := Formed_spec A hE _ y (Nat.le_refl _) Zo _ hyr;have hdrop : l.drop j = y :: l.drop (j + 1) := by
    obtain ⟨h1, h2⟩ := List.getElem?_eq_some_iff.1 hy;rw [List.drop_eq_getElem_cons h1, h2]
  rw [hdrop] at i2;simp only [kh, kidB7] at i2;generalize us j = uj at hyr hym hcall hyl;obtain ⟨c2, c3, c4, c5, c6, c7, c8, c9, c10, rfl, hsz, hk256⟩ := nd_open hyr;have hexp := expression_spec y.kind y.name hk256 c2 c3 c4 c5 c6 c7 c8 c9 c10;have hkp : (!wJ y.kind y.name && decide (y.kind ≠ 9 /\ y.kind ≠ 6)) = zI y := rfl;rw [hkp] at hexp;have hkc : kE.cell bk (o + j * 11) (cv y.kind) ∈ A := hym _ (kb.2 ⟨0, _, rfl, rfl⟩);generalize zI y = kp at hexp i2;generalize jB y = f at hcall i2;have go : (f && ((decide (y.kind = 9) && decide (j + 1 = l.length)) || kp)) = true -> (j + 1 <= l.length /\ kh 7 l.length 0 l = kh 7 l.length (j + 1) (l.drop (j + 1))) := fun h => ⟨Zo, by rw [i2, h, Bool.true_and]⟩
  have bad : (f && ((decide (y.kind = 9) && decide (j + 1 = l.length)) || kp)) = false -> kh 7 l.length 0 l = false := fun h => by rw [i2, h];rfl
  clear i2;refine GOH ?_;refine kL Zr Zah hyl ?_;refine GOH ?_;refine kD hcall Zr ZP (fun v Post hv => ?_);obtain ⟨rfl, rfl⟩ := hv;simp only [CNx];refine GOH ?_;refine VO.bool 29 (decide (y.kind = 9) && decide (j + 1 = l.length)) Zr ?_ ?_
  · by_cases k9 : y.kind = 9
    · skip
      rw [show decide ((y.kind : Int) = 9) = true from Zt Zo];refine GOH ?_;refine ⟨?_, ZU, ZI⟩;rw [show decide ((j : Int) = (l.length : Int) - 1) = decide (j + 1 = l.length) from decide_eq_decide.2 ⟨fun h => by omega, fun h => by omega⟩];simp [k9]
    · skip
      rw [show decide ((y.kind : Int) = 9) = false from Zf Zo];refine GOH ?_;exact ⟨by simp [k9], ZU, ZI⟩
  generalize (decide (y.kind = 9) && decide (j + 1 = l.length)) = ret at go bad |-;cases f with
  | false =>
    refine GOH ?_;exact kC (Post := [A]) (.inr rfl) (.tmp Zr .nil) ⟨by rw [bad rfl];rfl, rfl⟩ ZI
  | true =>
    cases ret with
    | true =>
      refine GOH ?_;exact ⟨j + 1, go Zs, Zo, ZU, ZI⟩
    | false =>
      refine GOH ?_;refine kL Zr Zah hyl ?_;refine GOH ?_;refine kH hexp Zr ?_;cases kp with
      | true =>
        refine GOH ?_;exact ⟨j + 1, go Zs, Zo, ZU, ZI⟩
      | false =>
        refine GOH ?_;exact kC (Post := [A]) (.inr rfl) (.tmp Zr .nil) ⟨by rw [bad Zs];rfl, rfl⟩ ZI
theorem checkM_law (x : Md) : checkM x = if (decide (kR x.sel = x.args.length /\ 0 <= x.prim /\ x.prim <= 255) && (x.args.all jH && (x.temps.all jH && kh 7 x.body.length 0 x.body))) = false then 150 else if (decide (15 < x.args.length) || (decide (63 < x.temps.length) || x.body.any jL)) = true then 151 else if (x.body.any fun y => decide (40 < jO y)) = true then 152 else 0 := by
  unfold checkM methodR wG;rw [stmts_law, manyR_c, jM, manyR_c, jM, jM, <- mx_any];generalize (decide (kR x.sel = x.args.length /\ 0 <= x.prim /\ x.prim <= 255) && (x.args.all jH && (x.temps.all jH && kh 7 x.body.length 0 x.body))) = b1;generalize (decide (15 < x.args.length) || (decide (63 < x.temps.length) || x.body.any jL)) = b2;cases b1 with
  | false => rfl
  | true =>
    simp only [cR, if_true, endE];cases b2 <;> simp
end Go.Proofs.YtmnmandpdadedaaGreatDoor

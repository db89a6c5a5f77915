/-
  Methods that are lent.
-/
import Derived.Test.YtmnmandpdadedaaGreatDoorT16
import Derived.Test.YtmnmandpdadedaaGreatDoorT2
import Derived.Test.YtmnmandpdadedaaGreatDoorT15
import Derived.Test.YtmnmandpdadedaaGreatDoorT17
import Derived.Test.YtmnmandpdadedaaGreatDoorT13
import Derived.Test.YtmnmandpdadedaaGreatDoorV14
import Derived.Test.YtmnmandpdadedaaGreatDoorT14
import Derived.Test.YtmnmandpdadedaaGreatDoorV9
import Derived.Test.YtmnmandpdadedaaGreatDoorT4
import Derived.Test.YtmnmandpdadedaaGreatDoorV13
import Derived.Test.YtmnmandpdadedaaGreatDoorCards
import Derived.Test.YtmnmandpdadedaaGreatDoorTie
import Derived.OpenShut
import Derived.Deep.DeepHandedRow
import Derived.Deep.DeepWitnessRowRef
import Derived.Lib.LaidTab
import Derived.JoinedCond
import Derived.Lay
import Derived.Stop.LaidErr
import Derived.KernelRfl
set_option linter.unusedSimpArgs false
set_option linter.unusedVariables false
namespace Go.Proofs.YtmnmandpdadedaaGreatDoor
open Go Go.V
set_option maxHeartbeats 3200000
set_option maxRecDepth 100000
def MdLen (A : List Atom) (x : Md) (vs : List Value) : Prop := ∃ (av tv : Value) (c bk : Nat) (us : Nat → List Value), vs = [.string x.sel, av, tv, vi x.prim, .slice (some ⟨bk, 0, none⟩) x.body.length c] ∧ TxLen A av x.args ∧ TxLen A tv x.temps ∧ (∀ i, i < x.body.length → ∀ y ∈ cellsAt bk (i * 11) (us i), y ∈ A) ∧ (∀ i y, x.body[i]? = some y → NdLen A y (us i)) ∧ Atom.cell bk (x.body.length * 11 + 10) (vi (-771)) ∈ A ∧ x.body.length + 1 ≤ c ∧ x.body.length ≤ 140737488355328 ∧ x.sel.size ≤ 140737488355328 ∧ (-9223372036854775808 ≤ x.prim ∧ x.prim ≤ 9223372036854775807)
def MdOwn (x : Md) (vs : List Value) (L : List Atom) : Prop := ∃ (av tv sv : Value) (rows : List (List Value)) (sp : List Value) (LA LT K : List Atom), vs = [.string x.sel, av, tv, vi x.prim, sv] ∧ IsSl 11 sv x.body.length rows.flatten sp ∧ NdRows x.body rows K ∧ TxOwn av x.args LA ∧ TxOwn tv x.temps LT ∧ L.Perm (slA sv rows.flatten sp ++ (K ++ (LA ++ LT)))
theorem MdLen.more {A B : List Atom} (hs : ∀ z ∈ A, z ∈ B) {x : Md} {vs : List Value} (h : MdLen A x vs) : MdLen B x vs := by
  obtain ⟨av, tv, c, bk, us, h1, h2, h3, h4, h5, h6, h7⟩ := h
  exact ⟨av, tv, c, bk, us, h1, h2.more hs, h3.more hs, fun i hi y hy => hs _ (h4 i hi y hy), fun i y e => (h5 i y e).more hs, hs _ h6, h7⟩
theorem MdLen.rd {A : List Atom} {x : Md} {vs : List Value} (h : MdLen A x vs) : MdW A x vs := by
  obtain ⟨av, tv, c, bk, us, rfl, h2, h3, h4, h5, h6, h7, h8, h9, h10⟩ := h
  have r2 := h2.rd
  have r3 := h3.rd
  obtain ⟨ab, ac, rfl, _⟩ := h2
  obtain ⟨tb, tc, rfl, _⟩ := h3
  exact ⟨⟨_, _, _, _, _, _, bk, 0, us, rfl, r2, r3, ⟨fun _ => rfl, h8, fun i hi y hy => h4 i hi y (by rwa [Nat.zero_add] at hy), fun i y e => (h5 i y e).rd⟩⟩, h9, h10⟩
theorem LendMethod_spec (A : List Atom) (x : Md) (hw : Nd.ws x.body ≤ 274877906944) (hal : x.args.length ≤ 1099511627776) (htl : x.temps.length ≤ 1099511627776) (vs : List Value) (h : MdW A x vs) : Fun Tryz.prog 12 [.agg vs.toArray] [A] (fun v Post => ∃ ws B, v = .agg ws.toArray ∧ (MdLen B x ws ∧ MdOwn x ws B) ∧ Post = [A, B]) := by
  obtain ⟨⟨aa, ac, ta, tc, a, c, bk, o, us, rfl, hav, htv, hk⟩, hsel, hprim⟩ := h
  obtain ⟨ha, hmany, hm, hr⟩ := hk
  have hge := ws_ge x.body
  have hca := lendNames_spec A _ x.args hav hal
  have hct := lendNames_spec A _ x.temps htv htl
  refine Fun.intro low12 (by simp [n12]) ?_
  refine GOH ?_
  refine st_box (by rfl) (fun q => ?_)
  refine st_alloc (fun q2 => ?_)
  simp only [Value.cells]
  refine GOH ?_
  refine st_mkslice (li := (x.body.length : Int) + 1) (ci := (x.body.length : Int) + 1) (by rfl) (by rfl) (by omega) (by rfl) (fun db => ?_)
  rw [show ((x.body.length : Int) + 1).toNat = x.body.length + 1 by omega]
  have hz := zeroRow_length (x.body.length + 1) [Value.int .u8 0, .string ⟨#[]⟩, .int .u8 0, .int .i64 0, .int .u64 0, .string ⟨#[]⟩, .slice none 0 0, .slice none 0 0, .slice none 0 0, .slice none 0 0, .int .i64 0]
  generalize zeroRow (x.body.length + 1) [Value.int .u8 0, .string ⟨#[]⟩, .int .u8 0, .int .i64 0, .int .u64 0, .string ⟨#[]⟩, .slice none 0 0, .slice none 0 0, .slice none 0 0, .slice none 0 0, .int .i64 0] = tl0 at hz ⊢
  simp only [List.length_cons, List.length_nil, Nat.zero_add, Nat.reduceAdd] at hz
  refine GOH ?_
  refine VC.loop (α := Nat × List (List Value) × List Value × List Atom) (Γf := fun z => [(1, ptr0 q), (2, ptr0 q2), (3, .slice (some ⟨db, 0, none⟩) (x.body.length + 1) (x.body.length + 1)), (4, vi z.1)]) (Hf := fun z => [A, cellsAt q 0 [.string x.sel, .slice aa x.args.length ac, .slice ta x.temps.length tc, vi x.prim, .slice a x.body.length c], cellsAt q2 0 [.string ⟨#[]⟩, .slice none 0 0, .slice none 0 0, .int .i64 0, .slice none 0 0], cellsAt db 0 (z.2.1.flatten ++ z.2.2.1), z.2.2.2])
    (I := fun z => z.1 ≤ x.body.length ∧ NdRowsL (x.body.take z.1) z.2.1 z.2.2.2 ∧ z.2.2.1.length = (x.body.length + 1 - z.1) * 11 ∧ NdRows (x.body.take z.1) z.2.1 z.2.2.2) (μ := fun z => x.body.length - z.1) (0, [], tl0, []) ⟨Nat.zero_le _, NdRowsL.nil, by simpa using hz, NdRows.nil⟩ (by exact SUx) (Imp.cut (M := [A, cellsAt q 0 [.string x.sel, .slice aa x.args.length ac, .slice ta x.temps.length tc, vi x.prim, .slice a x.body.length c], cellsAt q2 0 [.string ⟨#[]⟩, .slice none 0 0, .slice none 0 0, .int .i64 0, .slice none 0 0], cellsAt db 0 tl0]) (by exact IMx) (Imp.perm (by simp))) ?_
  rintro ⟨j, rows, tl, K⟩ ⟨i1, i2, i3, i4⟩
  simp only at i1 i2 i3 i4
  dsimp only
  have hrl : rows.length = j := by rw [i2.1, List.length_take]; omega
  have hfl := rows_len i2.2.1
  rw [hrl] at hfl
  refine GOH ?_
  by_cases hj : j < x.body.length
  · obtain rfl := ha (by omega)
    rw [show decide ((j : Int) < (x.body.length : Int)) = true from decide_eq_true (by omega)]
    obtain ⟨y, hy⟩ : ∃ y, x.body[j]? = some y := ⟨_, List.getElem?_eq_getElem hj⟩
    have hym := hm j hj
    have hyr := hr j y hy
    have h1 := Nd.ws_mem (List.mem_of_getElem? hy)
    have hcall := LendNode_spec A _ y (Nat.le_refl _) (by omega) _ hyr
    have hyl := hyr.len
    generalize us j = uj at *
    refine GOH ?_
    refine st_loadA (by rfl) (fun z hz => List.mem_append_left _ (hym z hz)) hyl ?_
    refine GOH ?_
    refine st_call hcall (by rfl) (by exact SPx) (fun v Post hv => ?_)
    obtain ⟨ws, B2, rfl, hw, rfl⟩ := hv
    simp only [CNx]
    have hwl := hw.1.len
    have hsn := i2.snoc hw.1
    have hsn2 := i4.snoc hw.2
    rw [show x.body.take j ++ [y] = x.body.take (j + 1) by rw [List.take_add_one, hy]; rfl] at hsn hsn2
    obtain ⟨f1, f2, f3, f4, f5, f6, f7, f8, f9, f10, f11, f12, f13, f14, f15, f16, f17, hwe, _, _⟩ := nd_open2 hw.1.rd
    have hupd := row_upd (tl := tl) hfl hwl
    refine GOH ?_
    refine st_store' (us := ws) (by rfl) (by rfl) (by rfl) hwl (by rw [hwe]; rfl) (Upd.there (Upd.there (Upd.there (Upd.there (Upd.cells (k := j * 11) (o := 0) (vs := rows.flatten ++ tl) (us := ws) (Nat.zero_le _) (by rw [List.length_append]; omega) hupd))))) ?_
    refine GOH ?_
    refine ⟨(j + 1, rows ++ [ws], tl.drop 11, K ++ B2), ⟨by simp only; omega, hsn, by simp only [List.length_drop]; omega, hsn2⟩, by simp only; omega, by exact SUx, ?_⟩
    simp only
    refine Imp.cut (M := [A, cellsAt q 0 [.string x.sel, .slice aa x.args.length ac, .slice ta x.temps.length tc, vi x.prim, (.slice (some ⟨bk, o, none⟩) x.body.length c)], cellsAt q2 0 [.string ⟨#[]⟩, .slice none 0 0, .slice none 0 0, .int .i64 0, .slice none 0 0], cellsAt db 0 ((rows ++ [ws]).flatten ++ tl.drop 11), K, B2]) (by exact IMx) (Imp.perm (by simp))
  obtain rfl : j = x.body.length := by omega
  rw [List.take_length] at i2 i4
  have hlen : (rows.flatten ++ tl).length = x.body.length * 11 + 11 := by rw [List.length_append]; omega
  have hset : (rows.flatten ++ tl).set (x.body.length * 11 + 10) (vi (-771)) = rows.flatten ++ tl.set 10 (vi (-771)) := by
    rw [List.set_append_right _ _ (by omega), hfl, Nat.add_sub_cancel_left]
  have hsl : IsSl 11 (.slice (some ⟨db, 0, none⟩) x.body.length (x.body.length + 1)) x.body.length rows.flatten (tl.set 10 (vi (-771))) := .mk hfl (by rw [List.length_set]; omega) (by omega)
  have hrow := fun i hi => set_row (b := db) (f := 10) (tl := tl) (u := vi (-771)) i2.2.1 i2.1 (NdRowsL.row i2 (i := i) hi)
  have hroom : Atom.cell db (x.body.length * 11 + 10) (vi (-771)) ∈ cellsAt db 0 ((rows.flatten ++ tl).set (x.body.length * 11 + 10) (vi (-771))) := set_room (by omega)
  rw [show decide ((x.body.length : Int) < (x.body.length : Int)) = false from decide_eq_false (by omega)]
  refine GOH ?_
  refine st_store' (by rfl) (by rfl) (by rfl) (by rfl) (by rfl) (Upd.there (Upd.there (Upd.there (Upd.set1 (i := x.body.length * 11 + 10) (Nat.zero_add _) (by omega))))) ?_
  change VO _ _ _ _ [A, _, _, cellsAt db 0 ((rows.flatten ++ tl).set (x.body.length * 11 + 10) (vi (-771))), K] _ _
  have hslA : slA (.slice (some ⟨db, 0, none⟩) x.body.length (x.body.length + 1)) rows.flatten (tl.set 10 (vi (-771))) = cellsAt db 0 ((rows.flatten ++ tl).set (x.body.length * 11 + 10) (vi (-771))) := by rw [hset]; rfl
  generalize cellsAt db 0 ((rows.flatten ++ tl).set (x.body.length * 11 + 10) (vi (-771))) = SL at hrow hroom hslA ⊢
  refine GOH ?_
  refine VC.imp (H' := [cellsAt q 0 [.string x.sel, .slice aa x.args.length ac, .slice ta x.temps.length tc, vi x.prim, .slice a x.body.length c], cellsAt q2 0 [.string ⟨#[]⟩, .slice none 0 0, .slice none 0 0, .int .i64 0, .slice none 0 0], SL, K, A]) (by exact IMx) ?_
  refine VC.seq (VC.free 15 (fun i v B => match i with
    | 0 => v = .pointer (some ⟨q, 0, none⟩) ∧ B = []
    | 1 => v = .string x.sel ∧ B = []
    | 2 => v = .pointer (some ⟨q, 1, none⟩) ∧ B = []
    | 3 => v = .slice aa x.args.length ac ∧ B = []
    | 4 => TxLen B v x.args ∧ TxOwn v x.args B
    | 5 => v = .pointer (some ⟨q, 2, none⟩) ∧ B = []
    | 6 => v = .slice ta x.temps.length tc ∧ B = []
    | 7 => TxLen B v x.temps ∧ TxOwn v x.temps B
    | 8 => v = .pointer (some ⟨q, 3, none⟩) ∧ B = []
    | 9 => v = vi x.prim ∧ B = []
    | 10 => v = .slice (some ⟨db, 0, none⟩) (x.body.length + 1) (x.body.length + 1) ∧ B = []
    | 11 => v = .pointer (some ⟨q, 4, none⟩) ∧ B = []
    | 12 => v = .slice a x.body.length c ∧ B = []
    | 13 => v = vi x.body.length ∧ B = []
    | 14 => v = .slice (some ⟨db, 0, none⟩) x.body.length (x.body.length + 1) ∧ B = []
    | _ => True) (by decide) (by decide) (by decide) ?_ ?_)
  · intro i hi vv hg Γ' hh hkp
    match i, hi with
    | 0, _ =>
      show VO _ _ [⟨some 32, none, .fld 0 (.tmp 1)⟩] _ _ _ _
      exact st_fld (hkp 1 _ rfl (by decide)) rfl (VO.nil ⟨_, [], rfl, ⟨rfl, rfl⟩, Imp.perm (by simp)⟩)
    | 1, _ =>
      show VO _ _ [⟨some 33, none, .load1 (.tmp 32)⟩] _ _ _ _
      have e := hh 0 (by decide) 32 rfl
      rw [(hg 0 (by decide)).1] at e
      exact st_load1 e (by (focus ((repeat (first | (apply Has.cells; omega; rfl) | apply Has.there)); done))) (VO.nil ⟨_, [], rfl, ⟨rfl, rfl⟩, Imp.perm (by simp)⟩)
    | 2, _ =>
      show VO _ _ [⟨some 34, none, .fld 1 (.tmp 1)⟩] _ _ _ _
      exact st_fld (hkp 1 _ rfl (by decide)) rfl (VO.nil ⟨_, [], rfl, ⟨rfl, rfl⟩, Imp.perm (by simp)⟩)
    | 3, _ =>
      show VO _ _ [⟨some 35, none, .load1 (.tmp 34)⟩] _ _ _ _
      have e := hh 2 (by decide) 34 rfl
      rw [(hg 2 (by decide)).1] at e
      exact st_load1 e (by (focus ((repeat (first | (apply Has.cells; omega; rfl) | apply Has.there)); done))) (VO.nil ⟨_, [], rfl, ⟨rfl, rfl⟩, Imp.perm (by simp)⟩)
    | 4, _ =>
      show VO _ _ [⟨some 36, none, .call 44 [.tmp 35]⟩] _ _ _ _
      have e := hh 3 (by decide) 35 rfl
      rw [(hg 3 (by decide)).1] at e
      refine st_call hca (by simp only [V.evs, V.ev, e]) (by exact SPx) (fun v Post hv => ?_)
      obtain ⟨B, hw, rfl⟩ := hv
      exact VO.nil ⟨_, B, rfl, hw, by simp only [CNx]; exact IMx⟩
    | 5, _ =>
      show VO _ _ [⟨some 37, none, .fld 2 (.tmp 1)⟩] _ _ _ _
      exact st_fld (hkp 1 _ rfl (by decide)) rfl (VO.nil ⟨_, [], rfl, ⟨rfl, rfl⟩, Imp.perm (by simp)⟩)
    | 6, _ =>
      show VO _ _ [⟨some 38, none, .load1 (.tmp 37)⟩] _ _ _ _
      have e := hh 5 (by decide) 37 rfl
      rw [(hg 5 (by decide)).1] at e
      exact st_load1 e (by (focus ((repeat (first | (apply Has.cells; omega; rfl) | apply Has.there)); done))) (VO.nil ⟨_, [], rfl, ⟨rfl, rfl⟩, Imp.perm (by simp)⟩)
    | 7, _ =>
      show VO _ _ [⟨some 39, none, .call 44 [.tmp 38]⟩] _ _ _ _
      have e := hh 6 (by decide) 38 rfl
      rw [(hg 6 (by decide)).1] at e
      refine st_call hct (by simp only [V.evs, V.ev, e]) (by exact SPx) (fun v Post hv => ?_)
      obtain ⟨B, hw, rfl⟩ := hv
      exact VO.nil ⟨_, B, rfl, hw, by simp only [CNx]; exact IMx⟩
    | 8, _ =>
      show VO _ _ [⟨some 40, none, .fld 3 (.tmp 1)⟩] _ _ _ _
      exact st_fld (hkp 1 _ rfl (by decide)) rfl (VO.nil ⟨_, [], rfl, ⟨rfl, rfl⟩, Imp.perm (by simp)⟩)
    | 9, _ =>
      show VO _ _ [⟨some 41, none, .load1 (.tmp 40)⟩] _ _ _ _
      have e := hh 8 (by decide) 40 rfl
      rw [(hg 8 (by decide)).1] at e
      exact st_load1 e (by (focus ((repeat (first | (apply Has.cells; omega; rfl) | apply Has.there)); done))) (VO.nil ⟨_, [], rfl, ⟨rfl, rfl⟩, Imp.perm (by simp)⟩)
    | 10, _ =>
      show VO _ _ [⟨some 42, none, .mv (.tmp 3)⟩] _ _ _ _
      exact st_mv (hkp 3 _ rfl (by decide)) (VO.nil ⟨_, [], rfl, ⟨rfl, rfl⟩, Imp.perm (by simp)⟩)
    | 11, _ =>
      show VO _ _ [⟨some 43, none, .fld 4 (.tmp 1)⟩] _ _ _ _
      exact st_fld (hkp 1 _ rfl (by decide)) rfl (VO.nil ⟨_, [], rfl, ⟨rfl, rfl⟩, Imp.perm (by simp)⟩)
    | 12, _ =>
      show VO _ _ [⟨some 44, none, .load1 (.tmp 43)⟩] _ _ _ _
      have e := hh 11 (by decide) 43 rfl
      rw [(hg 11 (by decide)).1] at e
      exact st_load1 e (by (focus ((repeat (first | (apply Has.cells; omega; rfl) | apply Has.there)); done))) (VO.nil ⟨_, [], rfl, ⟨rfl, rfl⟩, Imp.perm (by simp)⟩)
    | 13, _ =>
      show VO _ _ [⟨some 45, none, .lenL (.tmp 44)⟩] _ _ _ _
      have e := hh 12 (by decide) 44 rfl
      rw [(hg 12 (by decide)).1] at e
      exact st_lenI e (VO.nil ⟨_, [], rfl, ⟨rfl, rfl⟩, Imp.perm (by simp)⟩)
    | 14, _ =>
      show VO _ _ [⟨some 46, none, .slcL 11 (.tmp 42) none (some (.tmp 45)) none⟩] _ _ _ _
      have e := hh 10 (by decide) 42 rfl
      rw [(hg 10 (by decide)).1] at e
      have e2 := hh 13 (by decide) 45 rfl
      rw [(hg 13 (by decide)).1] at e2
      exact st_slcL (l := 0) (h := x.body.length) (o' := 0) e .dft (.num e2) ⟨by omega, by omega⟩ (by split <;> omega) (VO.nil ⟨_, [], rfl, ⟨rfl, rfl⟩, Imp.perm (by simp)⟩)
    | n + 15, h => exact absurd h (by omega)
  · intro vv hg Γ' hh hkp
    show VO _ _ _ _ [(vv 0).2, (vv 1).2, (vv 2).2, (vv 3).2, (vv 4).2, (vv 5).2, (vv 6).2, (vv 7).2, (vv 8).2, (vv 9).2, (vv 10).2, (vv 11).2, (vv 12).2, (vv 13).2, (vv 14).2, cellsAt q 0 [.string x.sel, .slice aa x.args.length ac, .slice ta x.temps.length tc, vi x.prim, .slice a x.body.length c], cellsAt q2 0 [.string ⟨#[]⟩, .slice none 0 0, .slice none 0 0, .int .i64 0, .slice none 0 0], SL, K, A] _ _
    refine VO.imp (H' := [cellsAt q2 0 [.string ⟨#[]⟩, .slice none 0 0, .slice none 0 0, .int .i64 0, .slice none 0 0], A, (vv 4).2, (vv 7).2, SL, K]) (by exact IMx) ?_
    have h4 := hg 4 (by omega)
    have h7 := hg 7 (by omega)
    have s33 := hh 1 (by decide) 33 rfl
    have s36 := hh 4 (by decide) 36 rfl
    have s39 := hh 7 (by decide) 39 rfl
    have s41 := hh 9 (by decide) 41 rfl
    have s46 := hh 14 (by decide) 46 rfl
    rw [(hg 1 (by omega)).1] at s33
    rw [(hg 9 (by omega)).1] at s41
    rw [(hg 14 (by omega)).1] at s46
    have s2 := hkp 2 _ rfl (by decide)
    clear hg hh hkp
    simp only at h4 h7
    generalize vv 4 = p4 at *
    generalize vv 7 = p7 at *
    obtain ⟨v4, B4⟩ := p4
    obtain ⟨v7, B7⟩ := p7
    simp only at *
    have hL : MdLen (SL ++ (K ++ (B4 ++ B7))) x [.string x.sel, v4, v7, vi x.prim, .slice (some ⟨db, 0, none⟩) x.body.length (x.body.length + 1)] :=
      ⟨v4, v7, _, db, fun i => rows.getD i [], rfl, h4.1.more fun z hz => by simp [hz], h7.1.more fun z hz => by simp [hz], fun i hi y hy => List.mem_append_left _ (hrow i hi y hy), fun i y e => (i2.2.2 i y _ e (i2.row (List.getElem?_eq_some_iff.1 e).1)).more fun z hz => by simp [hz], List.mem_append_left _ hroom, Nat.le_refl _, hmany, hsel, hprim⟩
    have hO : MdOwn x [.string x.sel, v4, v7, vi x.prim, .slice (some ⟨db, 0, none⟩) x.body.length (x.body.length + 1)] (SL ++ (K ++ (B4 ++ B7))) :=
      ⟨v4, v7, _, rows, _, B4, B7, K, rfl, hsl, i4, h4.2, h7.2, by rw [hslA]⟩
    obtain ⟨a4, c4, rfl, _, _⟩ := h4.1.rd
    obtain ⟨a7, c7, rfl, _, _⟩ := h7.1.rd
    refine VO.sub (Δ := [(2, ptr0 q2), (33, .string x.sel), (36, .slice a4 x.args.length c4), (39, .slice a7 x.temps.length c7), (41, vi x.prim), (46, .slice (some ⟨db, 0, none⟩) x.body.length (x.body.length + 1))]) (Sub.cons s2 (Sub.cons s33 (Sub.cons s36 (Sub.cons s39 (Sub.cons s41 (Sub.cons s46 Sub.nil)))))) ?_
    refine GOH ?_
    exact ⟨.inr rfl, [.agg #[.string x.sel, .slice a4 x.args.length c4, .slice a7 x.temps.length c7, vi x.prim, .slice (some ⟨db, 0, none⟩) x.body.length (x.body.length + 1)]], [A, SL ++ (K ++ (B4 ++ B7))], .cellN (us := [.string x.sel, .slice a4 x.args.length c4, .slice a7 x.temps.length c7, vi x.prim, .slice (some ⟨db, 0, none⟩) x.body.length (x.body.length + 1)]) (by rfl) (by rfl) (fun y hy => by simp only [List.flatten_cons, List.mem_append]; first | exact .inl hy | exact .inr (.inl hy) | exact .inr (.inr (.inl hy))) .nil,
      Imp.cut (M := [A, SL, K, B4, B7]) (by exact IMx) (Imp.perm (by simp)), ⟨_, _, rfl, ⟨hL, hO⟩, rfl⟩⟩
theorem mdLike_refl (x : Md) : mdLike true x x = true := by
  unfold mdLike
  have : ndsSm x.body x.body = true := (ndsSm_iff _ _).2 ⟨rfl, fun j y z h1 h2 => by rw [h1] at h2; cases h2; exact ndSm_refl _ y (Nat.le_refl _)⟩
  simp [this, bodyLike]
theorem WholeMethod_spec (A : List Atom) (x : Md) (vs ws : List Value) (h : MdLen A x vs) (h2 : MdW A x ws) : Fun Tryz.prog 16 [.agg vs.toArray, .agg ws.toArray] [A] (fun v Post => v = .bool true ∧ Post = [A]) := by
  have hsame := sameMethod_spec A x x vs ws h.rd h2 true
  rw [mdLike_refl] at hsame
  obtain ⟨av, tv, c, bk, us, rfl, l2, l3, l4, l5, l6, l7, l8, l9, l10⟩ := h
  have hwa := wholeNames_spec A av x.args l2
  have hwt := wholeNames_spec A tv x.temps l3
  obtain ⟨aa, ac, rfl, _⟩ := l2
  obtain ⟨ta, tc, rfl, _⟩ := l3
  obtain ⟨⟨aa2, ac2, ta2, tc2, a2, c2, bk2, o2, us2, rfl, _, _, _⟩, _, _⟩ := h2
  refine Fun.intro low16 (by simp [n16]) ?_
  refine GOH ?_
  refine st_box (by rfl) (fun q => ?_)
  simp only [Value.cells]
  refine GOH ?_
  refine st_box (by rfl) (fun q2 => ?_)
  simp only [Value.cells]
  refine GOH ?_
  refine st_call hsame (by rfl) (by exact SPx) (fun v Post hv => ?_)
  obtain ⟨rfl, rfl⟩ := hv
  simp only [CNx]
  refine GOH ?_
  refine st_slcL (l := 0) (h := x.body.length + 1) (o' := 0) (by rfl) .dft (.num (by rfl)) ⟨by omega, by omega⟩ (by split <;> omega) ?_
  refine GOH ?_
  refine st_call hwa (by rfl) (by exact SPx) (fun v Post hv => ?_)
  obtain ⟨rfl, rfl⟩ := hv
  simp only [CNx]
  refine GOH ?_
  refine st_call hwt (by rfl) (by exact SPx) (fun v Post hv => ?_)
  obtain ⟨rfl, rfl⟩ := hv
  simp only [CNx]
  refine GOH ?_
  refine VC.loop (α := Nat) (Γf := fun j => [(2, ptr0 q), (9, .bool true), (10, vi j)]) (Hf := fun _ => [A, cellsAt q 0 [.string x.sel, .slice (some ⟨aa, 0, none⟩) x.args.length ac, .slice (some ⟨ta, 0, none⟩) x.temps.length tc, vi x.prim, .slice (some ⟨bk, 0, none⟩) x.body.length c]]) (I := fun j => j ≤ x.body.length) (μ := fun j => x.body.length - j) 0 (Nat.zero_le _) (by exact SUx) (by exact IMx) ?_
  rintro j i1
  refine GOH ?_
  by_cases hj : j < x.body.length
  rotate_left
  · skip
    rw [show decide ((j : Int) < (x.body.length : Int)) = false from decide_eq_false (by omega)]
    refine GOH ?_
    exact endQ_mk (Post := [A]) (.inr rfl) (.tmp (by rfl) .nil) ⟨rfl, rfl⟩ (by exact IMx)
  rw [show decide ((j : Int) < (x.body.length : Int)) = true from decide_eq_true (by omega)]
  obtain ⟨y, hy⟩ : ∃ y, x.body[j]? = some y := ⟨_, List.getElem?_eq_getElem hj⟩
  have hym := l4 j hj
  have hyr := l5 j y hy
  have hcall := roomNode_spec A _ y (Nat.le_refl _) _ hyr
  have hyl := hyr.len
  generalize us j = uj at *
  refine GOH ?_
  refine st_loadA (by rfl) (fun z hz => List.mem_append_left _ (hym z hz)) hyl ?_
  refine GOH ?_
  refine st_call hcall (by rfl) (by exact SPx) (fun v Post hv => ?_)
  obtain ⟨rfl, rfl⟩ := hv
  simp only [CNx]
  refine GOH ?_
  exact ⟨j + 1, by omega, by omega, by exact SUx, by exact IMx⟩
theorem rowsN_flat (f : List NV) : rowsN f = (f.map fun p => p.2).flatten := by rw [rowsN, List.flatMap_def]
theorem want_row {A W : List Atom} {f : List NV} {b o n c : Nat} {sp : List Value} (h : ∀ p ∈ f, NdRd A p.1 p.2) (hW : W = slA (.slice (some ⟨b, o, none⟩) n c) (rowsN f) sp) {k : Nat} {y : Nd} {ws : List Value} (hk : f[k]? = some (y, ws)) : ∀ z ∈ cellsAt b (o + k * 11) ws, z ∈ W := by
  intro z hz
  rw [hW]
  simp only [slA, cellsAt_append]
  refine List.mem_append_left _ ?_
  rw [rowsN_flat]
  refine cells_row (fun r hr => ?_) (i := k) (r := ws) (by rw [List.getElem?_map, hk]; rfl) z hz
  obtain ⟨p, hp, rfl⟩ := List.mem_map.1 hr
  exact (h p hp).len
theorem hasS_take {r : List ByteArray} {s : ByteArray} {j : Nat} {t : ByteArray} (h : r[j]? = some t) : hasS (r.take (j + 1)) s = (hasS (r.take j) s || decide (t = s)) := by
  rw [List.take_add_one, h]; simp [hasS]
theorem SendsR_spec (A : List Atom) (x : Md) (vs : List Value) (h : MdW A x vs) (hw : Nd.ws x.body ≤ 274877906944) :
    Fun Tryz.prog 36 [.agg vs.toArray] [A] (fun v Post => ∃ sp, IsSl 1 v (sendsM x).length ((sendsM x).map .string) sp ∧ Post = [A, slA v ((sendsM x).map .string) sp]) := by
  obtain ⟨⟨aa, ac, ta, tc, a, c, bk, o, us, rfl, hav, htv, hk⟩, hsel, hprim⟩ := h
  obtain ⟨ha, hmany, hm, hr⟩ := hk
  have hge := ws_ge x.body
  have hbl := allsN_len x.body
  have hsl0 := sendsOf_le (allsN x.body)
  unfold sendsM
  refine Fun.intro low36 (by simp [n36]) ?_
  refine GOH ?_
  refine st_box (by rfl) (fun q => ?_)
  simp only [Value.cells]
  refine GOH ?_
  refine VC.loop (α := Nat × Value × List Value × List Atom) (Γf := fun z => [(1, ptr0 q), (3, z.2.1), (4, vi z.1)]) (Hf := fun z => [A, cellsAt q 0 [.string x.sel, .slice aa x.args.length ac, .slice ta x.temps.length tc, vi x.prim, .slice a x.body.length c], slA z.2.1 ((firsts (sendsOf (allsN (x.body.take z.1)))).map .string) z.2.2.1, z.2.2.2])
    (I := fun z => z.1 ≤ x.body.length ∧ IsSl 1 z.2.1 (firsts (sendsOf (allsN (x.body.take z.1)))).length ((firsts (sendsOf (allsN (x.body.take z.1)))).map .string) z.2.2.1) (μ := fun z => x.body.length - z.1) (0, .slice none 0 0, [], []) ⟨Nat.zero_le _, .nil⟩ (by exact SUx) (Imp.cut (M := [A, cellsAt q 0 [.string x.sel, .slice aa x.args.length ac, .slice ta x.temps.length tc, vi x.prim, .slice a x.body.length c]]) (by exact IMx) (Imp.perm (by simp [slA, allsN, sendsOf, firsts]))) ?_
  rintro ⟨i, ov, sp, D⟩ ⟨i1, i2⟩
  simp only at i1 i2
  dsimp only
  refine GOH ?_
  by_cases hi : i < x.body.length
  rotate_left
  · rw [List.take_of_length_le (by omega)] at i2 ⊢
    rw [show decide ((i : Int) < (x.body.length : Int)) = false from decide_eq_false (by omega)]
    refine GOH ?_
    exact endQ_mk (Post := [A, slA ov ((firsts (sendsOf (allsN x.body))).map .string) sp]) (.inr rfl) (.tmp (by rfl) .nil) ⟨_, i2, rfl⟩ (by exact IMx)
  rw [show decide ((i : Int) < (x.body.length : Int)) = true from decide_eq_true (by omega)]
  obtain rfl := ha (by omega)
  obtain ⟨y, hy⟩ : ∃ y, x.body[i]? = some y := ⟨_, List.getElem?_eq_getElem hi⟩
  have hym := hm i hi
  have hyr := hr i y hy
  have h1 := Nd.ws_mem (List.mem_of_getElem? hy)
  have hcall := Nodes_spec A y _ hyr (by omega)
  have hyl := hyr.len
  have htk : allsN (x.body.take (i + 1)) = allsN (x.body.take i) ++ allN y := by
    rw [List.take_add_one, hy, Option.toList_some, allsN_append]; simp [allsN]
  have hpre : ∃ r, allsN x.body = allsN (x.body.take (i + 1)) ++ r := ⟨allsN (x.body.drop (i + 1)), by rw [← allsN_append, List.take_append_drop]⟩
  rw [htk] at hpre
  obtain ⟨rest, hrest⟩ := hpre
  generalize allsN (x.body.take i) = done at *
  generalize us i = uj at *
  refine GOH ?_
  refine st_loadA (by rfl) (fun z hz => List.mem_append_left _ (hym z hz)) hyl ?_
  refine GOH ?_
  refine st_call hcall (by rfl) (by exact SPx) (fun v Post hv => ?_)
  obtain ⟨f, fsp, hf, hfsl, rfl⟩ := hv
  simp only [CNx]
  have hfl := specN_len hf
  have hyn := allN_len _ y (Nat.le_refl _)
  obtain ⟨lb, lo, lc, rfl, hflc, _⟩ := hfsl.some (by rw [hfl, allN_eq]; simp)
  generalize hW : slA (.slice (some ⟨lb, lo, none⟩) f.length lc) (rowsN f) fsp = W
  refine GOH ?_
  refine VC.loop (α := Nat × Value × List Value × List Atom) (Γf := fun z => [(1, ptr0 q), (3, z.2.1), (4, vi i), (5, .slice (some ⟨lb, lo, none⟩) f.length lc), (6, vi z.1)]) (Hf := fun z => [A, cellsAt q 0 [.string x.sel, .slice aa x.args.length ac, .slice ta x.temps.length tc, vi x.prim, .slice (some ⟨bk, o, none⟩) x.body.length c], slA z.2.1 ((firsts (sendsOf (done ++ (allN y).take z.1))).map .string) z.2.2.1, z.2.2.2, W])
    (I := fun z => z.1 ≤ f.length ∧ IsSl 1 z.2.1 (firsts (sendsOf (done ++ (allN y).take z.1))).length ((firsts (sendsOf (done ++ (allN y).take z.1))).map .string) z.2.2.1) (μ := fun z => f.length - z.1) (0, ov, sp, D) ⟨Nat.zero_le _, by simpa using i2⟩ (by exact SUx) (by simp only [List.take_zero, List.append_nil]; exact IMx) ?_
  rintro ⟨k, ov, sp, D⟩ ⟨j1, j2⟩
  simp only at j1 j2
  dsimp only
  have hol : (firsts (sendsOf (done ++ (allN y).take k))).length ≤ 274877906944 := by
    have g1 := firsts_le (sendsOf (done ++ (allN y).take k))
    have g2 := sendsOf_le (done ++ (allN y).take k)
    have g3 := congrArg List.length hrest
    simp only [List.length_append, List.length_take] at g2 g3
    omega
  obtain ⟨oa, oc, rfl⟩ := j2.form
  refine GOH ?_
  by_cases hk : k < f.length
  rotate_left
  · rw [List.take_of_length_le (by omega)] at j2 ⊢
    rw [show decide ((k : Int) < (f.length : Int)) = false from decide_eq_false (by omega)]
    refine GOH ?_
    refine ⟨(i + 1, .slice oa (firsts (sendsOf (done ++ allN y))).length oc, sp, D ++ W), ⟨by simp only; omega, by simp only; rw [htk]; exact j2⟩, by simp only; omega, by exact SUx, ?_⟩
    simp only
    rw [htk]
    exact Imp.cut (M := [A, cellsAt q 0 [.string x.sel, .slice aa x.args.length ac, .slice ta x.temps.length tc, vi x.prim, .slice (some ⟨bk, o, none⟩) x.body.length c], slA (.slice oa (firsts (sendsOf (done ++ allN y))).length oc) ((firsts (sendsOf (done ++ allN y))).map .string) sp, D, W]) (by exact IMx) (Imp.perm (by simp))
  rw [show decide ((k : Int) < (f.length : Int)) = true from decide_eq_true (by omega)]
  obtain ⟨⟨z, zs⟩, hz⟩ : ∃ p, f[k]? = some p := ⟨_, List.getElem?_eq_getElem hk⟩
  have hzr : NdRd A z zs := hf.2 _ (List.mem_of_getElem? hz)
  have hzw := want_row hf.2 hW.symm hz
  have hza : (allN y)[k]? = some z := by
    rw [← hf.1, List.getElem?_map, hz]; rfl
  have htk2 : (allN y).take (k + 1) = (allN y).take k ++ [z] := by rw [List.take_add_one, hza]; rfl
  obtain ⟨f1, f2, f3, f4, f5, f6, f7, f8, f9, f10, f11, f12, f13, f14, f15, f16, f17, rfl, hzs, hzk⟩ := nd_open2 hzr
  have hc0 : Atom.cell lb (lo + k * 11) (cv z.kind) ∈ W := hzw _ (mem_cellsAt.2 ⟨0, _, rfl, rfl⟩)
  have hc1 : Atom.cell lb (lo + (k * 11 + 1)) (.string z.name) ∈ W := hzw _ (mem_cellsAt.2 ⟨1, _, rfl, by rw [Nat.add_assoc]⟩)
  have hnext : firsts (sendsOf (done ++ (allN y).take (k + 1))) = if sendsN z = true ∧ hasS (firsts (sendsOf (done ++ (allN y).take k))) z.name = false then firsts (sendsOf (done ++ (allN y).take k)) ++ [z.name] else firsts (sendsOf (done ++ (allN y).take k)) := by
    rw [htk2, ← List.append_assoc, sendsOf_append, sendsOf_one]
    cases hs : sendsN z with
    | false => simp
    | true =>
      rw [if_pos rfl, firsts_snoc]
      cases hasS (firsts (sendsOf (done ++ (allN y).take k))) z.name <;> simp
  generalize hOut : firsts (sendsOf (done ++ (allN y).take k)) = out at *
  have hrdo := j2.rd
  generalize hSO : slA (.slice oa out.length oc) (out.map .string) sp = SO at hrdo
  refine GOH ?_
  refine VO.bool 41 (sendsN z) (by rfl) ?_ ?_
  · unfold sendsN
    by_cases k4 : z.kind = 4
    · skip
      rw [show decide ((z.kind : Int) = 4) = true from decide_eq_true (by omega)]
      refine GOH ?_
      exact ⟨by simp [k4], by exact SUx, by exact IMx⟩
    rw [show decide ((z.kind : Int) = 4) = false from decide_eq_false (by omega)]
    refine GOH ?_
    refine ⟨?_, by exact SUx, by exact IMx⟩
    rw [show decide ((z.kind : Int) = 6) = decide (z.kind = 6) from decide_eq_decide.2 ⟨fun h => by omega, fun h => by omega⟩]
    simp [k4]
  generalize sendsN z = sn at hnext ⊢
  refine GOHS ?_
  refine VC.join (α := Unit) (fun _ => [(1, ptr0 q), (3, .slice oa out.length oc), (4, vi i), (5, .slice (some ⟨lb, lo, none⟩) f.length lc), (6, vi k), (7, .bool (sn && !hasS out z.name))]) (fun _ => [A, cellsAt q 0 [.string x.sel, .slice aa x.args.length ac, .slice ta x.temps.length tc, vi x.prim, .slice (some ⟨bk, o, none⟩) x.body.length c], SO, D, W]) (fun _ => True) ?_ ?_
  · refine GOH ?_
    refine VC.loop (α := Nat) (Γf := fun j => [(1, ptr0 q), (3, .slice oa out.length oc), (4, vi i), (5, .slice (some ⟨lb, lo, none⟩) f.length lc), (6, vi k), (7, .bool (sn && !hasS (out.take j) z.name)), (8, vi j)]) (Hf := fun _ => [A, cellsAt q 0 [.string x.sel, .slice aa x.args.length ac, .slice ta x.temps.length tc, vi x.prim, .slice (some ⟨bk, o, none⟩) x.body.length c], SO, D, W]) (I := fun j => j ≤ out.length) (μ := fun j => out.length - j) 0 (Nat.zero_le _) (by rw [show (sn && !hasS (out.take 0) z.name) = sn by simp [hasS]]; exact SUx) (by exact IMx) ?_
    intro j g1
    by_cases hj : j < out.length
    rotate_left
    · rw [List.take_of_length_le (by omega)]
      refine GOH ?_
      rw [show decide ((j : Int) < (out.length : Int)) = false from decide_eq_false (by omega)]
      refine GOH ?_
      exact ⟨(), trivial, by exact SUx, by exact IMx⟩
    obtain ⟨t, ht⟩ : ∃ t, out[j]? = some t := ⟨_, List.getElem?_eq_getElem hj⟩
    have hst := hasS_take (s := z.name) ht
    obtain ⟨ob, oo, oc2, hoe, hom⟩ := hrdo.cell ht
    simp only [Value.slice.injEq, true_and] at hoe
    obtain ⟨rfl, rfl⟩ := hoe
    generalize hasS (out.take j) z.name = hs at hst ⊢
    refine GOH ?_
    rw [show decide ((j : Int) < (out.length : Int)) = true from decide_eq_true (by omega)]
    cases sn with
    | false =>
      refine GOH ?_
      exact ⟨j + 1, by omega, by omega, by exact SUx, by exact IMx⟩
    | true =>
      cases hs with
      | true =>
        refine GOH ?_
        refine ⟨j + 1, by omega, by omega, ?_, by exact IMx⟩
        rw [hst, Bool.true_or]
        exact SUx
      | false =>
        refine GOH ?_
        refine ⟨j + 1, by omega, by omega, ?_, by exact IMx⟩
        rw [hst, Bool.false_or, Bool.true_and]
        exact SUx
  rintro ⟨⟩ _
  generalize hb : (sn && !hasS out z.name) = b
  cases b with
  | false =>
    rw [if_neg (by rintro ⟨g1, g2⟩; rw [g1, g2] at hb; cases hb)] at hnext
    refine GOH ?_
    refine ⟨(k + 1, .slice oa out.length oc, sp, D), ⟨by simp only; omega, by simp only; rw [hnext]; exact j2⟩, by simp only; omega, by exact SUx, ?_⟩
    simp only
    rw [hnext, hSO]
    exact IMx
  | true =>
    rw [if_pos (by simp only [Bool.and_eq_true, Bool.not_eq_true'] at hb; exact hb)] at hnext
    rw [← hSO]
    refine GOH ?_
    refine st_bslice (out := [.string z.name]) (by rfl) (by rfl) (fun r => ?_)
    refine st_append (k := out.length) (m := 1) (xs := out.map .string) (sp := sp) (ys := [.string z.name]) (by rfl) (by rfl) j2 (by exact TKx) (by rfl) ?_ rfl (by rfl) (by rfl) (by decide) (by omega) (fun sv' sp' hsl' => ?_)
    · exact ⟨rfl, fun a ha => by simp only [List.flatten_cons, List.mem_append]; exact .inl ha⟩
    have hmp : out.map Value.string ++ [.string z.name] = (out ++ [z.name]).map .string := by simp
    rw [hmp] at hsl' ⊢
    refine GOH ?_
    refine ⟨(k + 1, sv', sp', D), ⟨by simp only; omega, by simp only; rw [hnext]; simpa using hsl'⟩, by simp only; omega, by exact SUx, ?_⟩
    simp only
    rw [hnext]
    exact IMx
theorem name_le {A : List Atom} {y : Nd} {us : List Value} (h : NdRd A y us) : y.name.size ≤ 140737488355328 := by
  cases h with | mk wf => exact wf.name
theorem sends_small {A : List Atom} {x : Md} {vs : List Value} (h : MdW A x vs) : ∀ t ∈ sendsM x, t.size ≤ 140737488355328 := by
  intro t ht
  unfold sendsM at ht
  rw [mem_firsts] at ht
  obtain ⟨y, hy, rfl⟩ := List.mem_map.1 ht
  have hy2 := (List.mem_filter.1 hy).1
  obtain ⟨z, hz, hyz⟩ := mem_allsN hy2
  obtain ⟨⟨aa, ac, ta, tc, a, c, bk, o, us, _, _, _, hk⟩, _, _⟩ := h
  obtain ⟨i, hi⟩ := List.getElem?_of_mem hz
  obtain ⟨ws, hw⟩ := rd_all _ z (Nat.le_refl _) _ (hk.rd i z hi) y hyz
  exact name_le hw
def rowS (l : List ByteArray) : List (List Value) := l.map fun s => [.string s]
theorem rowS_flat (l : List ByteArray) : (rowS l).flatten = l.map .string := by
  induction l with
  | nil => rfl
  | cons s l ih => simp only [rowS, List.map_cons, List.flatten_cons] at ih ⊢; rw [ih]; rfl
theorem rowS_len (l : List ByteArray) : (rowS l).length = l.length := by simp [rowS]
theorem rowS_one (l : List ByteArray) : ∀ r ∈ rowS l, r.length = 1 := by
  intro r hr
  obtain ⟨s, _, rfl⟩ := List.mem_map.1 hr
  rfl
theorem TreeSends_spec (A : List Atom) (hE : ErA A) (x : Md) (hw : Nd.ws x.body ≤ 1073741824) (vs : List Value) (h : MdW A x vs) : Fun Tryz.prog 5 [.agg vs.toArray] [A] (fun v Post => v = .bool true ∧ Post = [A]) := by
  have hfar := far_spec A x vs h
  have hsn := allsN_len x.body
  have hal : x.args.length ≤ 1099511627776 ∧ x.temps.length ≤ 1099511627776 := by
    obtain ⟨⟨aa, ac, ta, tc, a, c, bk, o, us, _, hav, htv, _⟩, _, _⟩ := h
    obtain ⟨_, _, _, h1, _⟩ := hav
    obtain ⟨_, _, _, h2, _⟩ := htv
    exact ⟨h1, h2⟩
  have hw0 := hw
  replace hw : Nd.ws x.body ≤ 274877906944 := by omega
  have hlend := LendMethod_spec A x hw hal.1 hal.2 vs h
  have h0 := h
  have hsm := sends_small h
  have hsl := firsts_le (sendsOf (allsN x.body))
  have hsl2 := sendsOf_le (allsN x.body)
  have hnl : (sendsM x).length ≤ 1073741824 := by unfold sendsM; omega
  obtain ⟨⟨aa, ac, ta, tc, a, c, bk, o, us, hvs, _, _, _⟩, _, _⟩ := h
  rw [hvs] at hfar hlend h0 ⊢
  refine Fun.intro low5 (by simp [n5]) ?_
  refine GOH ?_
  refine st_box (by rfl) (fun q => ?_)
  simp only [Value.cells]
  refine GOH ?_
  refine st_call (awake_spec A hE) (by rfl) (by exact SPx) (fun v Post hv => ?_)
  obtain ⟨rfl, rfl⟩ := hv
  simp only [CNx]
  refine GOH ?_
  refine st_call hfar (by rfl) (by exact SPx) (fun v Post hv => ?_)
  obtain ⟨b1, rfl, rfl⟩ := hv
  simp only [CNx]
  cases b1 with
  | true =>
    refine GOH ?_
    exact endQ_mk (Post := [A]) (.inr rfl) (.tmp (by rfl) .nil) ⟨rfl, rfl⟩ (by exact IMx)
  | false =>
    refine GOH ?_
    refine st_call hlend (by rfl) (by exact SPx) (fun v Post hv => ?_)
    obtain ⟨xs, B1, rfl, ⟨hx1, _⟩, rfl⟩ := hv
    simp only [CNx]
    have hx2 := hx1
    obtain ⟨av, tv, c1, bk1, us1, hxs, l2, l3, _⟩ := hx1
    obtain ⟨ab, ac1, rfl, _⟩ := l2
    obtain ⟨tb, tc1, rfl, _⟩ := l3
    rw [hxs] at hx2 ⊢
    refine GOH ?_
    refine st_alloc (fun q8 => ?_)
    generalize hC : A ++ B1 = C
    have hAC : ∀ z ∈ A, z ∈ C := fun z hz => by rw [← hC]; exact List.mem_append_left _ hz
    have hX := hx2.more (B := C) (fun z hz => by rw [← hC]; exact List.mem_append_right _ hz)
    have hXW := hX.rd
    have h0C := h0.more hAC
    have hEC := hE.more hAC
    refine VO.imp (H' := [C, cellsAt q8 0 [.string ⟨#[]⟩, .slice none 0 0, .slice none 0 0, .int .i64 0, .slice none 0 0], cellsAt q 0 [.string x.sel, .slice aa x.args.length ac, .slice ta x.temps.length tc, vi x.prim, .slice a x.body.length c]]) (Imp.cut (M := [A, B1, cellsAt q8 0 [.string ⟨#[]⟩, .slice none 0 0, .slice none 0 0, .int .i64 0, .slice none 0 0], cellsAt q 0 [.string x.sel, .slice aa x.args.length ac, .slice ta x.temps.length tc, vi x.prim, .slice a x.body.length c]]) (by exact IMx) (Imp.perm (by simp [← hC]))) ?_
    have s1 := Sends_spec C x _ (hXW.ok hEC hw) hw
    have s2 := WholeMethod_spec C x _ _ hX h0C
    have s3 := SendsR_spec C x _ h0C hw
    generalize hN : sendsM x = names at *
    refine GOH ?_
    refine st_call s1 (by rfl) (by exact SPx) (fun v Post hv => ?_)
    obtain ⟨sp1, hs1, rfl⟩ := hv
    simp only [CNx]
    obtain ⟨a1, c1', rfl⟩ := hs1.form
    refine GOH ?_
    refine st_call s1 (by rfl) (by exact SPx) (fun v Post hv => ?_)
    obtain ⟨sp2, hs2, rfl⟩ := hv
    simp only [CNx]
    obtain ⟨a2, c2', rfl⟩ := hs2.form
    refine GOH ?_
    refine st_call s2 (by rfl) (by exact SPx) (fun v Post hv => ?_)
    obtain ⟨rfl, rfl⟩ := hv
    simp only [CNx]
    refine GOH ?_
    refine st_call s3 (by rfl) (by exact SPx) (fun v Post hv => ?_)
    obtain ⟨sp3, hs3, rfl⟩ := hv
    simp only [CNx]
    obtain ⟨a3, c3', rfl⟩ := hs3.form
    have t1 := texts_made rfl hs1 (by omega) hsm
    have t2 := texts_made rfl hs2 (by omega) hsm
    have t3 := texts_made rfl hs3 (by omega) hsm
    obtain ⟨S1, hS1⟩ : ∃ S1, S1 = slA (.slice a1 names.length c1') (names.map .string) sp1 := ⟨_, rfl⟩
    obtain ⟨S2, hS2⟩ : ∃ S2, S2 = slA (.slice a2 names.length c2') (names.map .string) sp2 := ⟨_, rfl⟩
    obtain ⟨S3, hS3⟩ : ∃ S3, S3 = slA (.slice a3 names.length c3') (names.map .string) sp3 := ⟨_, rfl⟩
    rw [← hS1] at t1
    rw [← hS2] at t2
    rw [← hS3] at t3
    simp only [← hS1, ← hS2, ← hS3]
    have u1 := sameNames_spec (S1 ++ S3) _ _ names names (t1.more fun z hz => List.mem_append_left _ hz) (t3.more fun z hz => List.mem_append_right _ hz)
    have u2 := sameNames_spec (S2 ++ S3) _ _ names names (t2.more fun z hz => List.mem_append_left _ hz) (t3.more fun z hz => List.mem_append_right _ hz)
    rw [decide_eq_true rfl] at u1 u2
    refine VO.imp (H' := [S1 ++ S3, S2, C]) (Imp.cut (M := [S1, S3, S2, C]) (by exact IMx) (Imp.perm (by simp))) ?_
    refine GOH ?_
    refine st_call u1 (by rfl) (by exact SPx) (fun v Post hv => ?_)
    obtain ⟨rfl, rfl⟩ := hv
    simp only [CNx]
    refine GOH ?_
    refine VO.imp (H' := [S2 ++ S3, S1, C]) (Imp.cut (M := [S1, S3, S2, C]) (Imp.perm (by simp)) (Imp.cut (M := [S2, S3, S1, C]) (by exact IMx) (Imp.perm (by simp)))) ?_
    refine st_call u2 (by rfl) (by exact SPx) (fun v Post hv => ?_)
    obtain ⟨rfl, rfl⟩ := hv
    simp only [CNx]
    refine GOH ?_
    refine st_box (by rfl) (fun p => ?_)
    simp only [Value.cells]
    refine VO.imp (H' := [cellsAt p 0 [.slice none 0 0, .slice none 0 0, .slice none 0 0, .slice none 0 0], slA (.slice none 0 0) [] [], S1, S2, C]) (Imp.cut (M := [S2 ++ S3, S1, C, cellsAt p 0 [.slice none 0 0, .slice none 0 0, .slice none 0 0, .slice none 0 0]]) (by exact IMx) (Imp.cut (M := [S2, S3, S1, C, cellsAt p 0 [.slice none 0 0, .slice none 0 0, .slice none 0 0, .slice none 0 0]]) (Imp.perm (by simp)) (Imp.cut (M := [cellsAt p 0 [.slice none 0 0, .slice none 0 0, .slice none 0 0, .slice none 0 0], S1, S2, C]) (by exact IMx) (Imp.perm (by simp [slA]))))) ?_
    refine GOH ?_
    refine st_call (Texts_spec p (.slice none 0 0) (.slice none 0 0) (.slice none 0 0) (.slice none 0 0) 0 [] [] .nil (by omega) a1 names.length c1') (by rfl) (by exact SPx) (fun v Post hv => ?_)
    obtain ⟨rfl, x1, xp1, hx1s, rfl⟩ := hv
    simp only [CNx] at hx1s ⊢
    refine GOH ?_
    refine st_call (Texts_spec p (.slice none 0 0) (.slice none 0 0) (.slice none 0 0) x1 1 _ _ hx1s (by omega) a2 names.length c2') (by rfl) (by exact SPx) (fun v Post hv => ?_)
    obtain ⟨rfl, x2, xp2, hx2s, rfl⟩ := hv
    simp only [CNx] at hx2s ⊢
    have hown := Own_spec p (.slice none 0 0) (.slice none 0 0) x2 [] [] [⟨.slice a1 names.length c1', rowS names, sp1⟩, ⟨.slice a2 names.length c2', rowS names, sp2⟩] [] [] xp2 .nil (fun q hq => by cases hq) (by simp) .nil (fun q hq => by cases hq) (by simp) hx2s (fun q hq => by
      simp only [List.mem_cons, List.not_mem_nil, or_false] at hq
      rcases hq with rfl | rfl
      · exact ⟨by simp only [rowS_flat, rowS_len]; exact hs1, rowS_one _, by simp only [rowS_len]; omega⟩
      · exact ⟨by simp only [rowS_flat, rowS_len]; exact hs2, rowS_one _, by simp only [rowS_len]; omega⟩) (by simp)
    simp only [List.map_cons, List.map_nil, List.flatMap_cons, List.flatMap_nil, owR, rowS_flat, List.append_nil, ← hS1, ← hS2] at hown
    obtain ⟨xa2, xc2, rfl⟩ := hx2s.form
    refine VO.imp (H' := [cellsAt p 0 [.slice none 0 0, .slice none 0 0, .slice none 0 0, .slice xa2 (1 + 1) xc2], slA (.slice none 0 0) [] [], [], slA (.slice none 0 0) [] [], [], slA (.slice xa2 (1 + 1) xc2) [.slice a1 names.length c1', .slice a2 names.length c2'] xp2, S1 ++ S2, C]) (Imp.cut (M := [cellsAt p 0 [.slice none 0 0, .slice none 0 0, .slice none 0 0, .slice xa2 (1 + 1) xc2], slA (.slice xa2 (1 + 1) xc2) [.slice a1 names.length c1', .slice a2 names.length c2'] xp2, S1, S2, C]) (by exact IMx) (Imp.perm (by simp [slA]))) ?_
    refine GOH ?_
    refine st_call hown (by rfl) (by exact SPx) (fun v Post hv => ?_)
    obtain ⟨rfl, rfl⟩ := hv
    simp only [CNx]
    refine GOH ?_
    exact endQ_mk (Post := [A]) (.inr rfl) (.tmp (by rfl) .nil) ⟨rfl, rfl⟩ (Imp.cut (M := [C]) (by exact IMx) (Imp.cut (M := [A, B1]) (Imp.perm (by simp [← hC])) (by exact IMx)))
open Go Go.V Go.ChangeShapes Go.WideShapes Go.Deep
section
variable {H : Type} {enc : TypeId × Value → H}
theorem u3 : Tryz.prog.underlying 3 = some (.int .i64) := by kernel_rfl
theorem u4 : Tryz.prog.underlying 4 = some .bool := by kernel_rfl
theorem u9 : Tryz.prog.underlying 9 = some .string := by kernel_rfl
theorem u22 : Tryz.prog.underlying 22 = some (.slice 9) := by kernel_rfl
theorem u23 : Tryz.prog.underlying 23 = some (.slice 48) := by kernel_rfl
theorem u44 : Tryz.prog.underlying 44 = some (.slice 46) := by kernel_rfl
noncomputable def fs46 : Array Field := match Tryz.prog.underlying 46 with | some (.struct fs) => fs | _ => #[]
theorem u46 : Tryz.prog.underlying 46 = some (.struct fs46) := by kernel_rfl
noncomputable def fs48 : Array Field := match Tryz.prog.underlying 48 with | some (.struct fs) => fs | _ => #[]
theorem u48 : Tryz.prog.underlying 48 = some (.struct fs48) := by kernel_rfl
theorem litT : LitT Tryz.prog 46 44 := ⟨⟨fs46, u46, by kernel_rfl, 42, 2, 43, 9, by kernel_rfl, by kernel_rfl, by kernel_rfl, by kernel_rfl, by kernel_rfl, by kernel_rfl, by kernel_rfl, by kernel_rfl, by kernel_rfl, by kernel_rfl⟩, by kernel_rfl, u44⟩
theorem nodT : NodT Tryz.prog 48 46 23 22 := ⟨⟨fs48, u48, by kernel_rfl, 41, 9, 3, by kernel_rfl, by kernel_rfl, by kernel_rfl, by kernel_rfl, by kernel_rfl, by kernel_rfl, by kernel_rfl, u22⟩, by kernel_rfl, by kernel_rfl, by kernel_rfl, by kernel_rfl, u23⟩
noncomputable def ms146 : Array (String × TypeId) := match Tryz.prog.underlying 146 with | some (.interface ms) => ms | _ => #[]
theorem u146 : Tryz.prog.underlying 146 = some (.interface ms146) := by kernel_rfl
theorem closedS : closedB Tryz.prog [2, 3, 4, 5, 9, 22, 23, 25, 41, 42, 43, 44, 46, 48, 62] = true := by kernel_rfl
theorem closedP : Closed Tryz.prog (· ∈ [2, 3, 4, 5, 9, 22, 23, 25, 41, 42, 43, 44, 46, 48, 62]) := closed_of closedS
theorem own : ownKnob Tryz.prog.godebug = none := by kernel_rfl
theorem bulk_one (d : DataW H) : 1 ≤ Rows.uptoBulk d := by
  cases d with
  | lit l => cases l <;> simp [Rows.uptoBulk]
  | _ => simp [Rows.uptoBulk]
theorem bulk_len (l : List (DataW H)) : l.length ≤ Rows.uptoBulkAll l := by
  induction l with
  | nil => simp
  | cons d r ih =>
    have := bulk_one d
    simp only [Rows.uptoBulkAll, List.length_cons]
    omega
theorem bulk_mem {d : DataW H} {l : List (DataW H)} (h : d ∈ l) : Rows.uptoBulk d ≤ Rows.uptoBulkAll l := by
  induction l with
  | nil => cases h
  | cons y r ih =>
    simp only [Rows.uptoBulkAll]
    rcases List.mem_cons.1 h with rfl | h
    · omega
    · have := ih h; omega
theorem bulk_sum (l : List (DataW H)) : (l.map Rows.uptoBulk).sum = Rows.uptoBulkAll l := by
  induction l with
  | nil => rfl
  | cons d r ih => simp only [List.map_cons, List.sum_cons, ih, Rows.uptoBulkAll]
theorem bulkB : Bulk (Rows.uptoBulk (H := H)) where
  agg l d h := by have := bulk_mem h; simp only [Rows.uptoBulk]; omega
  sl es sp d h := by have := bulk_mem h; simp only [Rows.uptoBulk]; omega
  len es sp := by have := bulk_len es; simp only [Rows.uptoBulk]; omega
  str bs := by simp only [Rows.uptoBulk]; omega
  sls es sp := by rw [bulk_sum]; simp only [Rows.uptoBulk]; omega
  aggs l := by rw [bulk_sum]; simp only [Rows.uptoBulk]; omega
theorem gErr : Tryz.prog.globalNamed "strconv.ErrRange" = some 4 := by kernel_rfl
theorem gErrT : (Tryz.prog.globals[4]?).map (·.type) = some 146 := by kernel_rfl
theorem gRen : Tryz.sl174_ren.g 16 = 4 := by kernel_rfl
theorem err_in {W : World} {d : DataW Unit} {r : List (String × DataW Unit)} (h : laidMet Tryz.prog (("strconv.ErrRange", d) :: r) W) (hd : ∃ nm e, d = .iface nm e) {A : List Atom} (hA : ∀ a : Atom, a.holds W → a ∈ A) : ErA A := by
  obtain ⟨nm, e, rfl⟩ := hd
  obtain ⟨ps, ⟨g0, t0, cs0, f0, p0, q0, hg0, ht0, hv0, hd0, _, e0⟩, _, hrows⟩ := h
  obtain rfl := Option.some.inj (gErr.symm.trans hg0)
  obtain rfl := Option.some.inj (gErrT.symm.trans ht0)
  subst e0
  have hcs : ∃ te pe, cs0 = #[.iface te pe] := by
    obtain ⟨_, te, pe, he, _, _⟩ := iface_of_trod u146 hd0
    exact ⟨te, pe, by rw [← he]⟩
  obtain ⟨te, pe, rfl⟩ := hcs
  obtain ⟨⟨c, t, hc⟩, _⟩ := hrows 4 0 (by simp [MemPlace.row])
  refine ⟨.iface te pe, ?_, .inr ⟨te, pe, rfl⟩⟩
  rw [gRen]
  have hcell : W.cell? ⟨4, 0, none⟩ = some (.iface te pe) := by simpa using World.var?_cell gErr hv0 0
  refine hA _ (holds_cell hcell ?_)
  unfold World.frozen?
  rw [hc]
  simp
end
end Go.Proofs.YtmnmandpdadedaaGreatDoor

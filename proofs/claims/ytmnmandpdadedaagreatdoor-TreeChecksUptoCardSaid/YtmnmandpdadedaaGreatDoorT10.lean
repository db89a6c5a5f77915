/-
  Nodes that are lent.
-/
import Derived.Test.YtmnmandpdadedaaGreatDoorT9
import Derived.Test.YtmnmandpdadedaaGreatDoorT8
import Derived.Test.YtmnmandpdadedaaGreatDoorV5
import Derived.Test.YtmnmandpdadedaaGreatDoorT7
import Derived.Test.YtmnmandpdadedaaGreatDoorT6
import Derived.Test.YtmnmandpdadedaaGreatDoorT1
set_option linter.unusedSimpArgs false
set_option linter.unusedVariables false
namespace Go.Proofs.YtmnmandpdadedaaGreatDoor
open Go Go.V
set_option maxHeartbeats 3200000
set_option maxRecDepth 100000
theorem ndOwn_lent {k : Nat} {s : ByteArray} {lit : Lt} {args temps : List ByteArray} {kids : List Nd} {p : Int} {lv : List Value} {av tv : Value} {rows : List (List Value)} {tl : List Value} {K L1 L2 L3 : List kE} {db : Nat} (h : jl kids rows K) (wf : NdWf k s kids.length p) (hl : wS lit lv L1) (hav : wC av args L2) (htv : wC tv temps L3) (ht : tl.length = 11) :
    wD (.mk k s lit args temps kids p) ([cv k, .string s] ++ lv ++ [av, tv, .slice (some ⟨db, 0, none⟩) kids.length (kids.length + 1), vi p]) (kA db 0 ((rows.flatten ++ tl).set (kids.length * 11 + 10) (vi (-771))) ++ (K ++ (L1 ++ (L2 ++ L3)))) := by
  have hlen := jJ h.2.1;rw [h.1] at hlen;have hsl : ku 11 (.slice (some ⟨db, 0, none⟩) kids.length (kids.length + 1)) kids.length rows.flatten (tl.set 10 (vi (-771))) := .mk hlen (by rw [List.length_set];omega) Zo;have hmade := wD.of (p := p) (k := k) (s := s) hsl h wf hl hav htv;have e : (rows.flatten ++ tl).set (kids.length * 11 + 10) (vi (-771)) = rows.flatten ++ tl.set 10 (vi (-771)) := by
    rw [List.set_append_right _ _ Zo, hlen, Nat.add_sub_cancel_left]
  rw [e];refine hmade.perm ?_;change ((kA db 0 (rows.flatten ++ tl.set 10 (vi (-771)))) ++ (K ++ (L1 ++ (L2 ++ L3)))).Perm (L1 ++ (L2 ++ (L3 ++ (kA db 0 (rows.flatten ++ tl.set 10 (vi (-771))) ++ K))));generalize kA db 0 (rows.flatten ++ tl.set 10 (vi (-771))) = S;rw [show S ++ (K ++ (L1 ++ (L2 ++ L3))) = (S ++ K) ++ (L1 ++ (L2 ++ L3)) by simp, show L1 ++ (L2 ++ (L3 ++ (S ++ K))) = (L1 ++ (L2 ++ L3)) ++ (S ++ K) by simp];exact List.perm_append_comm
theorem permL (A B C D S K : List kE) : (A ++ (B ++ (C ++ (D ++ (S ++ K))))).Perm (A ++ (S ++ (K ++ (B ++ (C ++ D))))) := by
  refine List.Perm.append_left A ?_;rw [show B ++ (C ++ (D ++ (S ++ K))) = (B ++ (C ++ D)) ++ (S ++ K) by simp, show S ++ (K ++ (B ++ (C ++ D))) = (S ++ K) ++ (B ++ (C ++ D)) by simp];exact List.perm_append_comm
theorem LendNode_spec (A : List kE) : ∀ (N : Nat) (x : Nd), x.w <= N -> x.w <= 274877906944 -> ∀ vs, kf A x vs -> Fun Tryz.prog 23 [.agg vs.toArray] [A] (fun v Post => ∃ ws B, v = .agg ws.toArray /\ (NdLen B x ws /\ wD x ws B) /\ Post = [A, B]) := by
  intro N
  induction N with
  | zero => intro x hx;have := x.w_pos;omega
  | succ N ih =>
    intro x hx hb vs h;cases h with
    | @mk k s lit args temps kids p lv av tv a c bk o us wf hl hav htv ha hm hr hcp =>
    simp only [Nd.w] at hx hb;have hge := ws_ge kids;have hown := LendLit_spec A _ lit (Nat.le_refl _) Zo lv hl;have hca := zm A av args hav Zo;have hct := zm A tv temps htv Zo;have hl2 := hl;cases hl2 with
    | @mk lk ln lbt lt items la lc lbk lo lus lwf lha lhm lhr =>
    obtain ⟨aa, ac, rfl, hal, har⟩ := hav;obtain ⟨ta, tc, rfl, htl, htr⟩ := htv;refine Fun.intro low23 (by simp [n23]) ?_;simp only [CNx];refine GOH ?_;refine kS Zr (fun q => ?_);refine kP (fun q2 => ?_);simp only [Value.cells];refine GOH ?_;refine st_mkslice (li := (kids.length : Int) + 1) (ci := (kids.length : Int) + 1) Zr Zr Zo Zr (fun db => ?_);rw [show ((kids.length : Int) + 1).toNat = kids.length + 1 by omega];have hz := wK (kids.length + 1) [Value.int .u8 0, .string ⟨#[]⟩, .int .u8 0, .int .i64 0, .int .u64 0, .string ⟨#[]⟩, .slice none 0 0, .slice none 0 0, .slice none 0 0, .slice none 0 0, .int .i64 0];generalize kd (kids.length + 1) [Value.int .u8 0, .string ⟨#[]⟩, .int .u8 0, .int .i64 0, .int .u64 0, .string ⟨#[]⟩, .slice none 0 0, .slice none 0 0, .slice none 0 0, .slice none 0 0, .int .i64 0] = tl0 at hz |-;simp only [List.length_cons, List.length_nil, Nat.zero_add, Nat.reduceAdd] at hz;refine GOH ?_;refine VC.loop (α := Nat × List (List Value) × List Value × List kE) (Γf := fun z => [(1, kN q), (2, kN q2), (3, .slice (some ⟨db, 0, none⟩) (kids.length + 1) (kids.length + 1)), (4, vi z.1)]) (Hf := fun z => [A, kA q 0 [cv k, .string s, cv lk, vi ln, uv lbt, .string lt, .slice la items.length lc, .slice aa args.length ac, .slice ta temps.length tc, .slice a kids.length c, vi p], kA q2 0 [.int .u8 0, .string ⟨#[]⟩, .int .u8 0, .int .i64 0, .int .u64 0, .string ⟨#[]⟩, .slice none 0 0, .slice none 0 0, .slice none 0 0, .slice none 0 0, .int .i64 0], kA db 0 (z.2.1.flatten ++ z.2.2.1), z.2.2.2])
      (I := fun z => z.1 <= kids.length /\ zC (kids.take z.1) z.2.1 z.2.2.2 /\ z.2.2.1.length = (kids.length + 1 - z.1) * 11 /\ jl (kids.take z.1) z.2.1 z.2.2.2) (μ := fun z => kids.length - z.1) (0, [], tl0, []) ⟨Nat.zero_le _, zC.nil, by simpa using hz, jl.nil⟩ ZU (Imp.cut (M := [A, kA q 0 [cv k, .string s, cv lk, vi ln, uv lbt, .string lt, .slice la items.length lc, .slice aa args.length ac, .slice ta temps.length tc, .slice a kids.length c, vi p], kA q2 0 [.int .u8 0, .string ⟨#[]⟩, .int .u8 0, .int .i64 0, .int .u64 0, .string ⟨#[]⟩, .slice none 0 0, .slice none 0 0, .slice none 0 0, .slice none 0 0, .int .i64 0], kA db 0 tl0]) ZI (Imp.perm Zs)) ?_
    rintro ⟨j, rows, tl, K⟩ ⟨i1, i2, i3, i4⟩
    simp only at i1 i2 i3 i4;dsimp only;have hrl : rows.length = j := by rw [i2.1, List.length_take];omega
    have hfl := jJ i2.2.1;rw [hrl] at hfl;refine GOH ?_;by_cases hj : j < kids.length
    · obtain rfl := ha Zo;rw [show decide ((j : Int) < (kids.length : Int)) = true from Zt Zo];obtain ⟨y, hy⟩ : ∃ y, kids[j]? = some y := ⟨_, Zg hj⟩;have hym := hm j hj;have hyr := hr j y hy;have h1 := Nd.ws_mem (Zv hy);have hcall := ih y Zo Zo _ hyr;have hyl := hyr.len;generalize us j = uj at *;refine GOH ?_;refine kL Zr Zah hyl ?_;refine GOH ?_;refine kD hcall Zr ZP (fun v Post hv => ?_);obtain ⟨ws, B2, rfl, hw, rfl⟩ := hv;simp only [CNx];have hwl := hw.1.len;have hsn := i2.snoc hw.1;have hsn2 := i4.snoc hw.2;rw [show kids.take j ++ [y] = kids.take (j + 1) by rw [List.take_add_one, hy];rfl] at hsn hsn2;obtain ⟨f1, f2, f3, f4, f5, f6, f7, f8, f9, f10, f11, f12, f13, f14, f15, f16, f17, hwe, _, _⟩ := km hw.1.rd;have hupd := row_upd (tl := tl) hfl hwl;refine GOH ?_;refine jD (us := ws) Zr Zr Zr hwl (by rw [hwe];rfl) (Upd.there (Upd.there (Upd.there (Upd.there (Upd.cells (k := j * 11) (o := 0) (vs := rows.flatten ++ tl) (us := ws) (Nat.zero_le _) (by rw [List.length_append];omega) hupd))))) ?_;refine GOH ?_;refine ⟨(j + 1, rows ++ [ws], tl.drop 11, K ++ B2), ⟨by simp only;omega, hsn, by simp only [List.length_drop];omega, hsn2⟩, by simp only;omega, ZU, ?_⟩;simp only;refine Imp.cut (M := [A, kA q 0 [cv k, .string s, cv lk, vi ln, uv lbt, .string lt, .slice la items.length lc, .slice aa args.length ac, .slice ta temps.length tc, (.slice (some ⟨bk, o, none⟩) kids.length c), vi p], kA q2 0 [.int .u8 0, .string ⟨#[]⟩, .int .u8 0, .int .i64 0, .int .u64 0, .string ⟨#[]⟩, .slice none 0 0, .slice none 0 0, .slice none 0 0, .slice none 0 0, .int .i64 0], kA db 0 ((rows ++ [ws]).flatten ++ tl.drop 11), K, B2]) ZI (Imp.perm Zs)
    obtain rfl : j = kids.length := by omega
    rw [List.take_length] at i2 i4;have hmadeO := fun (L1 L2 L3 : List kE) (lv av tv) h1 h2 h3 => ndOwn_lent (tl := tl) (db := db) (L1 := L1) (L2 := L2) (L3 := L3) (lv := lv) (av := av) (tv := tv) (lit := .mk lk ln lbt lt items) (args := args) (temps := temps) i4 wf h1 h2 h3 Zo
    have hmade := fun (L1 L2 L3 : List kE) (lv av tv) h1 h2 h3 => NdLen.of (tl := tl) (bk := db) (c := kids.length + 1) (L1 := L1) (L2 := L2) (L3 := L3) (lv := lv) (av := av) (tv := tv) (lit := .mk lk ln lbt lt items) (args := args) (temps := temps) i2 wf h1 h2 h3 Zo (Nat.le_refl _)
    have hlen : (rows.flatten ++ tl).length = kids.length * 11 + 11 := by rw [List.length_append];omega
    generalize rows.flatten ++ tl = L at hmade hmadeO hlen |-;rw [show decide ((kids.length : Int) < (kids.length : Int)) = false from Zf Zo];refine GOH ?_;refine jD Zr Zr Zr Zr Zr (Upd.there (Upd.there (Upd.there (Upd.set1 (i := kids.length * 11 + 10) (Nat.zero_add _) Zo)))) ?_;change VO _ _ _ _ [A, _, _, kA db 0 (L.set (kids.length * 11 + 10) (vi (-771))), K] _ _;generalize hSL : kA db 0 (L.set (kids.length * 11 + 10) (vi (-771))) = SL at hmade hmadeO |-;refine GOH ?_;refine VC.imp (H' := [kA q 0 [cv k, .string s, cv lk, vi ln, uv lbt, .string lt, .slice la items.length lc, .slice aa args.length ac, .slice ta temps.length tc, .slice a kids.length c, vi p], kA q2 0 [.int .u8 0, .string ⟨#[]⟩, .int .u8 0, .int .i64 0, .int .u64 0, .string ⟨#[]⟩, .slice none 0 0, .slice none 0 0, .slice none 0 0, .slice none 0 0, .int .i64 0], SL, K, A]) ZI ?_;refine VC.seq (VC.free 20 (fun i v B => match i with
      | 0 => v = .pointer (some ⟨q, 0, none⟩) /\ B = []
      | 1 => v = cv k /\ B = []
      | 2 => v = .pointer (some ⟨q, 1, none⟩) /\ B = []
      | 3 => v = .string s /\ B = []
      | 4 => v = .pointer (some ⟨q, 2, none⟩) /\ B = []
      | 5 => v = .agg [cv lk, vi ln, uv lbt, .string lt, .slice la items.length lc].toArray /\ B = []
      | 6 => ∃ ws, v = .agg ws.toArray /\ (zo B (.mk lk ln lbt lt items) ws /\ wS (.mk lk ln lbt lt items) ws B)
      | 7 => v = .pointer (some ⟨q, 7, none⟩) /\ B = []
      | 8 => v = .slice aa args.length ac /\ B = []
      | 9 => TxLen B v args /\ wC v args B
      | 10 => v = .pointer (some ⟨q, 8, none⟩) /\ B = []
      | 11 => v = .slice ta temps.length tc /\ B = []
      | 12 => TxLen B v temps /\ wC v temps B
      | 13 => v = .slice (some ⟨db, 0, none⟩) (kids.length + 1) (kids.length + 1) /\ B = []
      | 14 => v = .pointer (some ⟨q, 9, none⟩) /\ B = []
      | 15 => v = .slice a kids.length c /\ B = []
      | 16 => v = vi kids.length /\ B = []
      | 17 => v = .slice (some ⟨db, 0, none⟩) kids.length (kids.length + 1) /\ B = []
      | 18 => v = .pointer (some ⟨q, 10, none⟩) /\ B = []
      | 19 => v = vi p /\ B = []
      | _ => True) Zd Zd Zd ?_ ?_)
    · intro i hi vv hg Γ' hh hkp
      match i, hi with
      | 0, _ =>
        show VO _ _ [⟨some 32, none, .fld 0 (.tmp 1)⟩] _ _ _ _;exact kQ (hkp 1 _ rfl Zd) rfl Zad
      | 1, _ =>
        show VO _ _ [⟨some 33, none, .load1 (.tmp 32)⟩] _ _ _ _;have e := hh 0 Zd 32 rfl;rw [(hg 0 Zd).1] at e;exact kI e Zh Zad
      | 2, _ =>
        show VO _ _ [⟨some 34, none, .fld 1 (.tmp 1)⟩] _ _ _ _;exact kQ (hkp 1 _ rfl Zd) rfl Zad
      | 3, _ =>
        show VO _ _ [⟨some 35, none, .load1 (.tmp 34)⟩] _ _ _ _;have e := hh 2 Zd 34 rfl;rw [(hg 2 Zd).1] at e;exact kI e Zh Zad
      | 4, _ =>
        show VO _ _ [⟨some 36, none, .fld 2 (.tmp 1)⟩] _ _ _ _;exact kQ (hkp 1 _ rfl Zd) rfl Zad
      | 5, _ =>
        show VO _ _ [⟨some 37, none, .loadN 5 (.tmp 36)⟩] _ _ _ _;have e := hh 4 Zd 36 rfl;rw [(hg 4 Zd).1] at e;exact jq e Zab Zad
      | 6, _ =>
        show VO _ _ [⟨some 38, none, .call 71 [.tmp 37]⟩] _ _ _ _;have e := hh 5 Zd 37 rfl;rw [(hg 5 Zd).1] at e;refine kD hown Zao ZP (fun v Post hv => ?_);obtain ⟨ws, B, rfl, hw, rfl⟩ := hv;exact VO.nil ⟨_, B, rfl, ⟨ws, rfl, hw⟩, by simp only [CNx];exact IMx⟩
      | 7, _ =>
        show VO _ _ [⟨some 39, none, .fld 7 (.tmp 1)⟩] _ _ _ _;exact kQ (hkp 1 _ rfl Zd) rfl Zad
      | 8, _ =>
        show VO _ _ [⟨some 40, none, .load1 (.tmp 39)⟩] _ _ _ _;have e := hh 7 Zd 39 rfl;rw [(hg 7 Zd).1] at e;exact kI e Zh Zad
      | 9, _ =>
        show VO _ _ [⟨some 41, none, .call 44 [.tmp 40]⟩] _ _ _ _;have e := hh 8 Zd 40 rfl;rw [(hg 8 Zd).1] at e;refine kD hca Zao ZP (fun v Post hv => ?_);obtain ⟨B, hw, rfl⟩ := hv;exact VO.nil ⟨_, B, rfl, hw, by simp only [CNx];exact IMx⟩
      | 10, _ =>
        show VO _ _ [⟨some 42, none, .fld 8 (.tmp 1)⟩] _ _ _ _;exact kQ (hkp 1 _ rfl Zd) rfl Zad
      | 11, _ =>
        show VO _ _ [⟨some 43, none, .load1 (.tmp 42)⟩] _ _ _ _;have e := hh 10 Zd 42 rfl;rw [(hg 10 Zd).1] at e;exact kI e Zh Zad
      | 12, _ =>
        show VO _ _ [⟨some 44, none, .call 44 [.tmp 43]⟩] _ _ _ _;have e := hh 11 Zd 43 rfl;rw [(hg 11 Zd).1] at e;refine kD hct Zao ZP (fun v Post hv => ?_);obtain ⟨B, hw, rfl⟩ := hv;exact VO.nil ⟨_, B, rfl, hw, by simp only [CNx];exact IMx⟩
      | 13, _ =>
        show VO _ _ [⟨some 45, none, .mv (.tmp 3)⟩] _ _ _ _;exact ka (hkp 3 _ rfl Zd) Zad
      | 14, _ =>
        show VO _ _ [⟨some 46, none, .fld 9 (.tmp 1)⟩] _ _ _ _;exact kQ (hkp 1 _ rfl Zd) rfl Zad
      | 15, _ =>
        show VO _ _ [⟨some 47, none, .load1 (.tmp 46)⟩] _ _ _ _;have e := hh 14 Zd 46 rfl;rw [(hg 14 Zd).1] at e;exact kI e Zh Zad
      | 16, _ =>
        show VO _ _ [⟨some 48, none, .lenL (.tmp 47)⟩] _ _ _ _;have e := hh 15 Zd 47 rfl;rw [(hg 15 Zd).1] at e;exact st_lenI e (VO.nil ⟨_, [], rfl, ⟨rfl, rfl⟩, Imp.perm Zs⟩)
      | 17, _ =>
        show VO _ _ [⟨some 49, none, .slcL 11 (.tmp 45) none (some (.tmp 48)) none⟩] _ _ _ _;have e := hh 13 Zd 45 rfl;rw [(hg 13 Zd).1] at e;have e2 := hh 16 Zd 48 rfl;rw [(hg 16 Zd).1] at e2;exact st_slcL (l := 0) (h := kids.length) (o' := 0) e .dft (.num e2) ⟨Zo, Zo⟩ (by split <;> omega) (VO.nil ⟨_, [], rfl, ⟨rfl, rfl⟩, Imp.perm Zs⟩)
      | 18, _ =>
        show VO _ _ [⟨some 50, none, .fld 10 (.tmp 1)⟩] _ _ _ _;exact kQ (hkp 1 _ rfl Zd) rfl Zad
      | 19, _ =>
        show VO _ _ [⟨some 51, none, .load1 (.tmp 50)⟩] _ _ _ _;have e := hh 18 Zd 50 rfl;rw [(hg 18 Zd).1] at e;exact kI e Zh Zad
      | n + 20, h => exact absurd h Zo
    · intro vv hg Γ' hh hkp;show VO _ _ _ _ [(vv 0).2, (vv 1).2, (vv 2).2, (vv 3).2, (vv 4).2, (vv 5).2, (vv 6).2, (vv 7).2, (vv 8).2, (vv 9).2, (vv 10).2, (vv 11).2, (vv 12).2, (vv 13).2, (vv 14).2, (vv 15).2, (vv 16).2, (vv 17).2, (vv 18).2, (vv 19).2, kA q 0 [cv k, .string s, cv lk, vi ln, uv lbt, .string lt, .slice la items.length lc, .slice aa args.length ac, .slice ta temps.length tc, .slice a kids.length c, vi p], kA q2 0 [.int .u8 0, .string ⟨#[]⟩, .int .u8 0, .int .i64 0, .int .u64 0, .string ⟨#[]⟩, .slice none 0 0, .slice none 0 0, .slice none 0 0, .slice none 0 0, .int .i64 0], SL, K, A] _ _;refine VO.imp (H' := [kA q2 0 [.int .u8 0, .string ⟨#[]⟩, .int .u8 0, .int .i64 0, .int .u64 0, .string ⟨#[]⟩, .slice none 0 0, .slice none 0 0, .slice none 0 0, .slice none 0 0, .int .i64 0], A, (vv 6).2, (vv 9).2, (vv 12).2, SL, K]) ZI ?_;obtain ⟨ws, e6, h6⟩ := hg 6 Zo;have h9 := hg 9 Zo;have h12 := hg 12 Zo;have s22 := hh 1 Zd 33 rfl;have s24 := hh 3 Zd 35 rfl;have s27 := hh 6 Zd 38 rfl;have s30 := hh 9 Zd 41 rfl;have s33 := hh 12 Zd 44 rfl;have s34 := hh 17 Zd 49 rfl;have s36 := hh 19 Zd 51 rfl;rw [(hg 1 Zo).1] at s22;rw [(hg 3 Zo).1] at s24;rw [e6] at s27;rw [(hg 17 Zo).1] at s34;rw [(hg 19 Zo).1] at s36;have s2 := hkp 2 _ rfl Zd;clear hg hh hkp;simp only at h9 h12;generalize (vv 6).2 = B6 at *;generalize vv 9 = p9 at *;generalize vv 12 = p12 at *;obtain ⟨v9, B9⟩ := p9;obtain ⟨v12, B12⟩ := p12;simp only at *;have hmade := And.intro (hmade _ _ _ _ _ _ h6.1 h9.1 h12.1) (hmadeO _ _ _ _ _ _ h6.2 h9.2 h12.2);have h6r := h6.1.rd;obtain ⟨a9, c9, rfl, _, _⟩ := h9.1.rd;obtain ⟨a12, c12, rfl, _, _⟩ := h12.1.rd;obtain ⟨e1, c1, rfl⟩ := jx h6r;simp only [Lt.kind, Lt.n, Lt.bits, Lt.text, Lt.items] at *;refine VO.sub (Δ := [(2, kN q2), (33, cv k), (35, .string s), (38, .agg #[cv lk, vi ln, uv lbt, .string lt, .slice e1 items.length c1]), (41, .slice a9 args.length c9), (44, .slice a12 temps.length c12), (49, .slice (some ⟨db, 0, none⟩) kids.length (kids.length + 1)), (51, vi p)]) (Sub.cons s2 (Sub.cons s22 (Sub.cons s24 (Sub.cons s27 (Sub.cons s30 (Sub.cons s33 (Sub.cons s34 (Sub.cons s36 Sub.nil)))))))) ?_;refine GOH ?_;exact ⟨.inr rfl, [.agg #[cv k, .string s, cv lk, vi ln, uv lbt, .string lt, .slice e1 items.length c1, .slice a9 args.length c9, .slice a12 temps.length c12, .slice (some ⟨db, 0, none⟩) kids.length (kids.length + 1), vi p]], [A, SL ++ (K ++ (B6 ++ (B9 ++ B12)))], .cellN (us := [cv k, .string s, cv lk, vi ln, uv lbt, .string lt, .slice e1 items.length c1, .slice a9 args.length c9, .slice a12 temps.length c12, .slice (some ⟨db, 0, none⟩) kids.length (kids.length + 1), vi p]) Zr Zr Zak .nil,
        Imp.cut (M := [A, B6, B9, B12, SL, K]) ZI (Imp.perm (by simp only [List.flatten_cons, List.flatten_nil, List.append_nil];exact (permL A B6 B9 B12 SL K))), ⟨_, _, rfl, hmade, rfl⟩⟩
end Go.Proofs.YtmnmandpdadedaaGreatDoor
namespace Go.Proofs.YtmnmandpdadedaaGreatDoor
open Go Go.V
set_option maxHeartbeats 3200000
set_option maxRecDepth 100000
theorem zi (A : List kE) (av bv : Value) (l m : List ByteArray) (hl : RdT A av l) (hm : RdT A bv m) : Fun Tryz.prog 37 [av, bv] [A] (fun v Post => v = .bool (decide (l = m)) /\ Post = [A]) := by
  obtain ⟨a, c, rfl, hll, hlr⟩ := hl;obtain ⟨b, cb, rfl, hml, hmr⟩ := hm;refine Fun.intro low37 (by simp [n37]) ?_;obtain ⟨t, ht⟩ : ∃ t, t = decide (l = m) := ⟨_, rfl⟩;rw [<- ht];refine GOH ?_;by_cases hlen : l.length = m.length;rotate_left
  · have hno : t = false := by rw [ht];exact Zf fun h => hlen (by rw [h])
    rw [show decide ((l.length : Int) = (m.length : Int)) = false from Zf Zo];refine GOH ?_;exact kC (Post := [A]) (.inr rfl) (.tmp Zr .nil) ⟨by rw [hno];rfl, rfl⟩ ZI
  rw [show decide ((l.length : Int) = (m.length : Int)) = true from Zt Zo];refine GOH ?_;refine VC.loop (α := Nat) (Γf := fun j => [(0, .slice a l.length c), (1, .slice b m.length cb), (5, vi j)]) (Hf := fun _ => [A])
    (I := fun j => j <= l.length /\ ∀ i x y, i < j -> l[i]? = some x -> m[i]? = some y -> x = y) (μ := fun j => l.length - j) 0 ⟨Nat.zero_le _, fun i x y h => absurd h Zo⟩ ZU ZI ?_
  rintro j ⟨i1, i2⟩
  refine GOH ?_;by_cases hj : j < l.length;rotate_left
  · rw [show decide ((j : Int) < (l.length : Int)) = false from Zf Zo];have htt : t = true := by
      rw [ht];refine Zt (texts_eq hlen fun i x y e1 e2 => i2 i x y ?_ e1 e2);have := (List.getElem?_eq_some_iff.1 e1).1;omega
    refine GOH ?_;exact kC (Post := [A]) (.inr rfl) (.tmp Zr .nil) ⟨by rw [htt];rfl, rfl⟩ ZI
  rw [show decide ((j : Int) < (l.length : Int)) = true from Zt Zo];obtain ⟨x, hx⟩ : ∃ x, l[j]? = some x := ⟨_, Zg hj⟩;obtain ⟨y, hy⟩ : ∃ y, m[j]? = some y := ⟨_, Zg (hlen ▸ hj)⟩;obtain ⟨b1, o1, rfl, hc1, hs1⟩ := hlr j x hx;obtain ⟨b2, o2, rfl, hc2, hs2⟩ := hmr j y hy;refine GOH ?_;by_cases hxy : x = y
  · rw [Zt hxy];refine GOH ?_;refine ⟨j + 1, ⟨Zo, fun i u v hi e1 e2 => ?_⟩, Zo, ZU, ZI⟩;by_cases hij : i = j
    · subst hij;rw [hx] at e1;rw [hy] at e2;cases e1;cases e2;exact hxy
    · exact i2 i u v Zo e1 e2
  · have hno : t = false := by
      rw [ht];refine Zf fun h => hxy ?_
      subst h;rw [hx] at hy;cases hy;rfl
    rw [Zf hxy];refine GOH ?_;exact kC (Post := [A]) (.inr rfl) (.tmp Zr .nil) ⟨by rw [hno];rfl, rfl⟩ ZI
theorem sameLit_spec (A : List kE) : ∀ (N : Nat) (x y : Lt), x.size <= N -> ∀ vs ws, zL A x vs -> zL A y ws -> Fun Tryz.prog 117 [.agg vs.toArray, .agg ws.toArray] [A] (fun v Post => v = .bool (wx x y) /\ Post = [A]) := by
  intro N
  induction N with
  | zero => intro x y hx;have := x.size_pos;omega
  | succ N ih =>
    intro x y hx vs ws h h2;cases h with
    | @mk k n b t items a c bk o us wf ha hm hr =>
    cases h2 with
    | @mk k' n' b' t' items' a' c' bk' o' us' wf' ha' hm' hr' =>
    have hmany := wf.many;refine Fun.intro low117 (by simp [n117]) ?_;obtain ⟨E, hE⟩ : ∃ E, E = wx (.mk k n b t items) (.mk k' n' b' t' items') := ⟨_, rfl⟩;rw [<- hE];simp only [wx] at hE;refine GOH ?_;refine kS Zr (fun q => ?_);refine kS Zr (fun q2 => ?_);simp only [Value.cells];refine GOH ?_;by_cases h1 : k = k';rotate_left
    · have hno : E = false := by simp [hE, h1]
      rw [show decide ((k : Int) = (k' : Int)) = false from Zf Zo];refine GOH ?_;exact kC (Post := [A]) (.inr rfl) (.tmp Zr .nil) ⟨by rw [hno];rfl, rfl⟩ ZI
    rw [show decide ((k : Int) = (k' : Int)) = true from Zt Zo];refine GOH ?_;by_cases h2 : n = n';rotate_left
    · have hno : E = false := by simp [hE, h2]
      rw [Zf h2];refine GOH ?_;exact kC (Post := [A]) (.inr rfl) (.tmp Zr .nil) ⟨by rw [hno];rfl, rfl⟩ ZI
    rw [Zt h2];refine GOH ?_;by_cases h3 : b = b';rotate_left
    · have hno : E = false := by simp [hE, h3]
      rw [show decide ((b : Int) = (b' : Int)) = false from Zf Zo];refine GOH ?_;exact kC (Post := [A]) (.inr rfl) (.tmp Zr .nil) ⟨by rw [hno];rfl, rfl⟩ ZI
    rw [show decide ((b : Int) = (b' : Int)) = true from Zt Zo];refine GOH ?_;by_cases h4 : t = t';rotate_left
    · have hno : E = false := by simp [hE, h4]
      rw [Zf h4];refine GOH ?_;exact kC (Post := [A]) (.inr rfl) (.tmp Zr .nil) ⟨by rw [hno];rfl, rfl⟩ ZI
    rw [Zt h4];refine GOH ?_;by_cases h5 : items.length = items'.length;rotate_left
    · have hno : E = false := by simp [hE, litsEq_len h5]
      rw [show decide ((items.length : Int) = (items'.length : Int)) = false from Zf Zo];refine GOH ?_;exact kC (Post := [A]) (.inr rfl) (.tmp Zr .nil) ⟨by rw [hno];rfl, rfl⟩ ZI
    rw [show decide ((items.length : Int) = (items'.length : Int)) = true from Zt Zo];have hyes : E = zk items items' := by simp [hE, h1, h2, h3, h4]
    clear hE;refine GOH ?_;refine VC.loop (α := Nat) (Γf := fun j => [(2, kN q), (3, kN q2), (5, vi j)]) (Hf := fun _ => [A, kA q 0 [cv k, vi n, uv b, .string t, .slice a items.length c], kA q2 0 [cv k', vi n', uv b', .string t', .slice a' items'.length c']])
      (I := fun j => j <= items.length /\ ∀ i x y, i < j -> items[i]? = some x -> items'[i]? = some y -> wx x y = true) (μ := fun j => items.length - j) 0 ⟨Nat.zero_le _, fun i x y h => absurd h Zo⟩ ZU ZI ?_
    rintro j ⟨i1, i2⟩
    refine GOH ?_;by_cases hj : j < items.length;rotate_left
    · rw [show decide ((j : Int) < (items.length : Int)) = false from Zf Zo];have htt : E = true := by
        rw [hyes];exact (litsEq_iff _ _).2 ⟨h5, fun i x y e1 e2 => i2 i x y Zax e1 e2⟩
      refine GOH ?_;exact kC (Post := [A]) (.inr rfl) (.tmp Zr .nil) ⟨by rw [htt];rfl, rfl⟩ ZI
    rw [show decide ((j : Int) < (items.length : Int)) = true from Zt Zo];obtain rfl := ha Zo;obtain rfl := ha' Zo;obtain ⟨x, hx1⟩ : ∃ x, items[j]? = some x := ⟨_, Zg hj⟩;obtain ⟨y, hy1⟩ : ∃ y, items'[j]? = some y := ⟨_, Zg (h5 ▸ hj)⟩;have hu := hm j hj;have hw := hm' j Zo;have hul := (hr j x hx1).len;have hwl := (hr' j y hy1).len;have hcall := ih x y (by have := Lt.sizes_mem (Zv hx1);simp only [Lt.size] at hx;omega) _ _ (hr j x hx1) (hr' j y hy1);refine GOH ?_;refine kL Zr (fun z hz => Zw _ (hu z hz)) hul ?_;refine GOH ?_;refine kL Zr (fun z hz => Zw _ (hw z hz)) hwl ?_;refine GOH ?_;refine kD hcall Zr ZP (fun v Post hv => ?_);obtain ⟨rfl, rfl⟩ := hv;simp only [CNx];cases hxy : wx x y with
    | true =>
      refine GOH ?_;refine ⟨j + 1, ⟨Zo, fun i u v hi e1 e2 => ?_⟩, Zo, ZU, ZI⟩;by_cases hij : i = j
      · subst hij;rw [hx1] at e1;rw [hy1] at e2;cases e1;cases e2;exact hxy
      · exact i2 i u v Zo e1 e2
    | false =>
      have hno : E = false := by rw [hyes];exact litsEq_false hx1 hy1 hxy
      refine GOH ?_;exact kC (Post := [A]) (.inr rfl) (.tmp Zr .nil) ⟨by rw [hno];rfl, rfl⟩ ZI
def alikeN (x y : Nd) : Bool := decide (x.kind = y.kind) && decide (x.name = y.name) && decide (x.args = y.args) && decide (x.temps = y.temps) && wx x.lit y.lit && decide (x.kids.length = y.kids.length)
theorem alike_spec (A : List kE) (x y : Nd) (vs ws : List Value) (h : kf A x vs) (h2 : kf A y ws) : Fun Tryz.prog 77 [.agg vs.toArray, .agg ws.toArray] [A] (fun v Post => v = .bool (alikeN x y) /\ Post = [A]) := by
  cases h with
  | @mk k s lit args temps kids p lv av tv a c bk o us wf hl hav htv ha hm hr hcp =>
  cases h2 with
  | @mk k' s' lit' args' temps' kids' p' lv' av' tv' a' c' bk' o' us' wf' hl' hav' htv' ha' hm' hr' hcp' =>
  have hlits := sameLit_spec A _ lit lit' (Nat.le_refl _) _ _ hl hl';have hargs := zi A _ _ args args' hav hav';have htemps := zi A _ _ temps temps' htv htv';obtain ⟨aa, ac, rfl, _, _⟩ := hav;obtain ⟨ta, tc, rfl, _, _⟩ := htv;obtain ⟨aa', ac', rfl, _, _⟩ := hav';obtain ⟨ta', tc', rfl, _, _⟩ := htv';obtain ⟨la, lc, rfl⟩ := jx hl;obtain ⟨la', lc', rfl⟩ := jx hl';refine Fun.intro low77 (by simp [n77]) ?_;obtain ⟨E, hE⟩ : ∃ E, E = alikeN (.mk k s lit args temps kids p) (.mk k' s' lit' args' temps' kids' p') := ⟨_, rfl⟩;rw [<- hE];simp only [alikeN, Nd.kind, Nd.name, Nd.args, Nd.temps, Nd.lit, Nd.kids] at hE;simp only [CNx] at *;refine GOH ?_;refine kS Zr (fun q => ?_);refine kS Zr (fun q2 => ?_);simp only [Value.cells];refine GOH ?_;refine kD hlits Zr ZP (fun v Post hv => ?_);obtain ⟨rfl, rfl⟩ := hv;simp only [CNx];refine GOH ?_;refine kD hargs Zr ZP (fun v Post hv => ?_);obtain ⟨rfl, rfl⟩ := hv;simp only [CNx];refine GOH ?_;refine kD htemps Zr ZP (fun v Post hv => ?_);obtain ⟨rfl, rfl⟩ := hv;simp only [CNx];refine GOH ?_;cases h5 : wx lit lit' with
  | false =>
    have hno : E = false := by simp [hE, h5]
    refine GOH ?_;exact kC (Post := [A]) (.inr rfl) (.tmp Zr .nil) ⟨by rw [hno];rfl, rfl⟩ ZI
  | true =>
    refine GOH ?_;by_cases h3 : args = args';rotate_left
    · have hno : E = false := by simp [hE, h3]
      rw [Zf h3];refine GOH ?_;exact kC (Post := [A]) (.inr rfl) (.tmp Zr .nil) ⟨by rw [hno];rfl, rfl⟩ ZI
    rw [Zt h3];refine GOH ?_;by_cases h4 : temps = temps';rotate_left
    · have hno : E = false := by simp [hE, h4]
      rw [Zf h4];refine GOH ?_;exact kC (Post := [A]) (.inr rfl) (.tmp Zr .nil) ⟨by rw [hno];rfl, rfl⟩ ZI
    rw [Zt h4];refine GOH ?_;by_cases h1 : k = k';rotate_left
    · have hno : E = false := by simp [hE, h1]
      rw [show decide ((k : Int) = (k' : Int)) = false from Zf Zo];refine GOH ?_;exact kC (Post := [A]) (.inr rfl) (.tmp Zr .nil) ⟨by rw [hno];rfl, rfl⟩ ZI
    rw [show decide ((k : Int) = (k' : Int)) = true from Zt Zo];refine GOH ?_;by_cases h2 : s = s';rotate_left
    · have hno : E = false := by simp [hE, h2]
      rw [Zf h2];refine GOH ?_;exact kC (Post := [A]) (.inr rfl) (.tmp Zr .nil) ⟨by rw [hno];rfl, rfl⟩ ZI
    rw [Zt h2];refine GOH ?_;have hyes : E = decide ((kids.length : Int) = (kids'.length : Int)) := by
      simp only [hE, h1, h2, h3, h4, h5, decide_true, Bool.true_and];exact decide_eq_decide.2 Zo
    exact kC (Post := [A]) (.inr rfl) (.tmp Zr .nil) ⟨by rw [hyes];rfl, rfl⟩ ZI
theorem ndEq_alike (x y : Nd) : zH x y = (alikeN x y && zG x.kids y.kids) := by
  cases x with
  | mk k s lit args temps kids p =>
  cases y with
  | mk k' s' lit' args' temps' kids' p' =>
  show zH _ _ = (decide (k = k') && decide (s = s') && decide (args = args') && decide (temps = temps') && wx lit lit' && decide (kids.length = kids'.length) && zG kids kids');simp only [zH];by_cases h : kids.length = kids'.length
  · simp [h]
  · rw [ndsEq_len h];simp
theorem ndSm_alike (x y : Nd) : ndSm x y = (alikeN x y && decide (x.at_ = y.at_) && ndsSm x.kids y.kids) := by
  cases x with
  | mk k s lit args temps kids p =>
  cases y with
  | mk k' s' lit' args' temps' kids' p' =>
  show ndSm _ _ = (decide (k = k') && decide (s = s') && decide (args = args') && decide (temps = temps') && wx lit lit' && decide (kids.length = kids'.length) && decide (p = p') && ndsSm kids kids');simp only [ndSm];by_cases h : kids.length = kids'.length
  · simp [h]
  · rw [ndsSm_len h];simp [h]
end Go.Proofs.YtmnmandpdadedaaGreatDoor
namespace Go.Proofs.YtmnmandpdadedaaGreatDoor
open Go Go.V
set_option maxHeartbeats 3200000
set_option maxRecDepth 100000
theorem alikeN_len {x y : Nd} (h : alikeN x y = true) : x.kids.length = y.kids.length := by
  simp only [alikeN, Bool.and_eq_true, decide_eq_true_eq] at h;exact h.2
theorem likeNode_spec (A : List kE) : ∀ (N : Nat) (x y : Nd), x.w <= N -> ∀ vs ws, kf A x vs -> kf A y ws -> Fun Tryz.prog 30 [.agg vs.toArray, .agg ws.toArray] [A] (fun v Post => v = .bool (zH x y) /\ Post = [A]) := by
  intro N
  induction N with
  | zero => intro x y hx;have := x.w_pos;omega
  | succ N ih =>
    intro x y hx vs ws h h2;have hal := alike_spec A x y vs ws h h2;have hxk : ∀ u ∈ x.kids, u.w <= N := fun u hu => by
      cases x;have := Nd.ws_mem hu;simp only [Nd.kids] at this;simp only [Nd.w] at hx;omega
    obtain ⟨e1, e2, e3, e4, e5, e6, e7, e8, e9, e10, e11, e12, e13, a, c, bk, o, us, rfl, hmany, ha, hm, hr⟩ := nd_at h;obtain ⟨f1, f2, f3, f4, f5, f6, f7, f8, f9, f10, f11, f12, f13, a', c', bk', o', us', rfl, hmany', ha', hm', hr'⟩ := nd_at h2;refine Fun.intro low30 (by simp [n30]) ?_;have hE := ndEq_alike x y;refine GOH ?_;refine kS Zr (fun q => ?_);refine kS Zr (fun q2 => ?_);simp only [Value.cells];refine GOH ?_;refine kD hal Zr ZP (fun v Post hv => ?_);obtain ⟨rfl, rfl⟩ := hv;simp only [CNx];refine GOH ?_;refine VC.loop (α := Nat × Bool) (Γf := fun s => [(2, kN q), (3, kN q2), (5, .bool s.2), (6, vi s.1)]) (Hf := fun _ => [A, kA q 0 [cv x.kind, .string x.name, cv e1, vi e2, uv e3, .string e4, .slice e5 e6 e7, .slice e8 e9 e10, .slice e11 e12 e13, .slice a x.kids.length c, vi x.at_], kA q2 0 [cv y.kind, .string y.name, cv f1, vi f2, uv f3, .string f4, .slice f5 f6 f7, .slice f8 f9 f10, .slice f11 f12 f13, .slice a' y.kids.length c', vi y.at_]])
      (I := fun s => s.1 <= x.kids.length /\ (s.2 = true -> alikeN x y = true /\ ∀ i u v, i < s.1 -> x.kids[i]? = some u -> y.kids[i]? = some v -> zH u v = true) /\ (s.2 = false -> zH x y = false)) (μ := fun s => (x.kids.length - s.1) * 2 + (if s.2 then 1 else 0)) (0, alikeN x y) ⟨Nat.zero_le _, fun h => ⟨h, fun i u v h => absurd h Zo⟩, fun h => by simp only at h;rw [hE, h];rfl⟩ ZU ZI ?_
    rintro ⟨j, b⟩ ⟨i1, i2, i3⟩
    simp only at i1 i2 i3;dsimp only;refine GOH ?_;by_cases hj : j < x.kids.length;rotate_left
    · rw [show decide ((j : Int) < (x.kids.length : Int)) = false from Zf Zo];have hb : b = zH x y := by
        cases b with
        | false => exact (i3 rfl).symm
        | true =>
          obtain ⟨g1, g2⟩ := i2 rfl;rw [hE, g1, (z7 _ _).2 ⟨alikeN_len g1, fun i u v e1 e2 => g2 i u v Zax e1 e2⟩];rfl
      refine GOH ?_;exact kC (Post := [A]) (.inr rfl) (.tmp Zr .nil) ⟨by rw [hb];rfl, rfl⟩ ZI
    rw [show decide ((j : Int) < (x.kids.length : Int)) = true from Zt Zo];cases b with
    | false =>
      have hno := i3 rfl;refine GOH ?_;exact kC (Post := [A]) (.inr rfl) (.tmp Zr .nil) ⟨by rw [hno];rfl, rfl⟩ ZI
    | true =>
      obtain ⟨g1, g2⟩ := i2 rfl;have hlen := alikeN_len g1;obtain rfl := ha Zo;obtain rfl := ha' Zo;obtain ⟨u, hu⟩ : ∃ u, x.kids[j]? = some u := ⟨_, Zg hj⟩;obtain ⟨z, hz⟩ : ∃ z, y.kids[j]? = some z := ⟨_, Zg (hlen ▸ hj)⟩;have hum := hm j hj;have hzm := hm' j Zo;have hul := (hr j u hu).len;have hzl := (hr' j z hz).len;have hcall := ih u z (hxk u (Zv hu)) _ _ (hr j u hu) (hr' j z hz);refine GOH ?_;refine kL Zr (fun z hz => Zw _ (hum z hz)) hul ?_;refine GOH ?_;refine kL Zr (fun z hz => Zw _ (hzm z hz)) hzl ?_;refine GOH ?_;refine kD hcall Zr ZP (fun v Post hv => ?_);obtain ⟨rfl, rfl⟩ := hv;simp only [CNx];refine GOH ?_;refine ⟨(j + 1, zH u z), ⟨by simp only;omega, fun hb => ⟨g1, fun i p r hi e1 e2 => ?_⟩, fun hb => ?_⟩, by simp only;split <;> simp <;> omega, ZU, ZI⟩
      · by_cases hij : i = j
        · subst hij;rw [hu] at e1;rw [hz] at e2;cases e1;cases e2;exact hb
        · exact g2 i p r (by simp only at hi;omega) e1 e2
      · simp only at hb;rw [hE, ndsEq_false hu hz hb, Bool.and_false]
theorem sameNodeP_spec (A : List kE) : ∀ (N : Nat) (x y : Nd), x.w <= N -> ∀ vs ws, kf A x vs -> kf A y ws -> Fun Tryz.prog 40 [.agg vs.toArray, .agg ws.toArray] [A] (fun v Post => v = .bool (ndSm x y) /\ Post = [A]) := by
  intro N
  induction N with
  | zero => intro x y hx;have := x.w_pos;omega
  | succ N ih =>
    intro x y hx vs ws h h2;have hal := alike_spec A x y vs ws h h2;have hxk : ∀ u ∈ x.kids, u.w <= N := fun u hu => by
      cases x;have := Nd.ws_mem hu;simp only [Nd.kids] at this;simp only [Nd.w] at hx;omega
    obtain ⟨e1, e2, e3, e4, e5, e6, e7, e8, e9, e10, e11, e12, e13, a, c, bk, o, us, rfl, hmany, ha, hm, hr⟩ := nd_at h;obtain ⟨f1, f2, f3, f4, f5, f6, f7, f8, f9, f10, f11, f12, f13, a', c', bk', o', us', rfl, hmany', ha', hm', hr'⟩ := nd_at h2;refine Fun.intro low40 (by simp [n40]) ?_;obtain ⟨E, hE⟩ : ∃ E, E = ndSm x y := ⟨_, rfl⟩;rw [<- hE];rw [ndSm_alike] at hE;refine GOH ?_;refine kS Zr (fun q => ?_);refine kS Zr (fun q2 => ?_);simp only [Value.cells];refine GOH ?_;refine kD hal Zr ZP (fun v Post hv => ?_);obtain ⟨rfl, rfl⟩ := hv;simp only [CNx];cases g1 : alikeN x y with
    | false =>
      have hno : E = false := by rw [hE, g1];rfl
      refine GOH ?_;exact kC (Post := [A]) (.inr rfl) (.tmp Zr .nil) ⟨by rw [hno];rfl, rfl⟩ ZI
    | true =>
      have hlen := alikeN_len g1;refine GOH ?_;by_cases hat : x.at_ = y.at_;rotate_left
      · have hno : E = false := by rw [hE, Zf hat, Bool.and_false, Bool.false_and]
        rw [Zf hat];refine GOH ?_;exact kC (Post := [A]) (.inr rfl) (.tmp Zr .nil) ⟨by rw [hno];rfl, rfl⟩ ZI
      rw [Zt hat];have hyes : E = ndsSm x.kids y.kids := by rw [hE, g1, Zt hat];rfl
      clear hE;refine GOH ?_;refine VC.loop (α := Nat) (Γf := fun j => [(2, kN q), (3, kN q2), (6, vi j)]) (Hf := fun _ => [A, kA q 0 [cv x.kind, .string x.name, cv e1, vi e2, uv e3, .string e4, .slice e5 e6 e7, .slice e8 e9 e10, .slice e11 e12 e13, .slice a x.kids.length c, vi x.at_], kA q2 0 [cv y.kind, .string y.name, cv f1, vi f2, uv f3, .string f4, .slice f5 f6 f7, .slice f8 f9 f10, .slice f11 f12 f13, .slice a' y.kids.length c', vi y.at_]])
        (I := fun j => j <= x.kids.length /\ ∀ i u v, i < j -> x.kids[i]? = some u -> y.kids[i]? = some v -> ndSm u v = true) (μ := fun j => x.kids.length - j) 0 ⟨Nat.zero_le _, fun i u v h => absurd h Zo⟩ ZU ZI ?_
      rintro j ⟨i1, i2⟩
      refine GOH ?_;by_cases hj : j < x.kids.length;rotate_left
      · rw [show decide ((j : Int) < (x.kids.length : Int)) = false from Zf Zo];have htt : E = true := by
          rw [hyes];exact (ndsSm_iff _ _).2 ⟨hlen, fun i u v e1 e2 => i2 i u v Zax e1 e2⟩
        refine GOH ?_;exact kC (Post := [A]) (.inr rfl) (.tmp Zr .nil) ⟨by rw [htt];rfl, rfl⟩ ZI
      rw [show decide ((j : Int) < (x.kids.length : Int)) = true from Zt Zo];obtain rfl := ha Zo;obtain rfl := ha' Zo;obtain ⟨u, hu⟩ : ∃ u, x.kids[j]? = some u := ⟨_, Zg hj⟩;obtain ⟨z, hz⟩ : ∃ z, y.kids[j]? = some z := ⟨_, Zg (hlen ▸ hj)⟩;have hum := hm j hj;have hzm := hm' j Zo;have hul := (hr j u hu).len;have hzl := (hr' j z hz).len;have hcall := ih u z (hxk u (Zv hu)) _ _ (hr j u hu) (hr' j z hz);refine GOH ?_;refine kL Zr (fun z hz => Zw _ (hum z hz)) hul ?_;refine GOH ?_;refine kL Zr (fun z hz => Zw _ (hzm z hz)) hzl ?_;refine GOH ?_;refine kD hcall Zr ZP (fun v Post hv => ?_);obtain ⟨rfl, rfl⟩ := hv;simp only [CNx];cases hxy : ndSm u z with
      | true =>
        refine GOH ?_;refine ⟨j + 1, ⟨Zo, fun i p r hi e1 e2 => ?_⟩, Zo, ZU, ZI⟩;by_cases hij : i = j
        · subst hij;rw [hu] at e1;rw [hz] at e2;cases e1;cases e2;exact hxy
        · exact i2 i p r Zo e1 e2
      | false =>
        have hno : E = false := by rw [hyes];exact ndsSm_false hu hz hxy
        refine GOH ?_;exact kC (Post := [A]) (.inr rfl) (.tmp Zr .nil) ⟨by rw [hno];rfl, rfl⟩ ZI
end Go.Proofs.YtmnmandpdadedaaGreatDoor
namespace Go.Proofs.YtmnmandpdadedaaGreatDoor
open Go Go.V
set_option maxHeartbeats 3200000
set_option maxRecDepth 100000
def zK (pl : Bool) (l m : List Nd) : Bool := if pl then ndsSm l m else zG l m
def mdLike (pl : Bool) (x y : Md) : Bool := decide (x.args = y.args) && decide (x.temps = y.temps) && decide (x.sel = y.sel) && decide (x.prim = y.prim) && zK pl x.body y.body
theorem bodyLike_len {pl : Bool} {l m : List Nd} (h : l.length ≠ m.length) : zK pl l m = false := by
  unfold zK;split
  · exact ndsSm_len h
  · exact ndsEq_len h
theorem bodyLike_false {pl : Bool} {l m : List Nd} {j : Nat} {u v : Nd} (h1 : l[j]? = some u) (h2 : m[j]? = some v) (h : (if pl then ndSm u v else zH u v) = false) : zK pl l m = false := by
  unfold zK;cases pl with
  | true => exact ndsSm_false h1 h2 h
  | false => exact ndsEq_false h1 h2 h
theorem bodyLike_true {pl : Bool} {l m : List Nd} (h1 : l.length = m.length) (h2 : ∀ (i : Nat) u v, l[i]? = some u -> m[i]? = some v -> (if pl then ndSm u v else zH u v) = true) : zK pl l m = true := by
  unfold zK;cases pl with
  | true => exact (ndsSm_iff _ _).2 ⟨h1, h2⟩
  | false => exact (z7 _ _).2 ⟨h1, h2⟩
theorem zO (A : List kE) (x y : Md) (vs ws : List Value) (h : MdW A x vs) (h2 : MdW A y ws) (pl : Bool) : Fun Tryz.prog 18 [.agg vs.toArray, .agg ws.toArray, .bool pl] [A] (fun v Post => v = .bool (mdLike pl x y) /\ Post = [A]) := by
  obtain ⟨⟨aa, ac, ta, tc, a, c, bk, o, us, rfl, hav, htv, hk⟩, hsel, hprim⟩ := h;obtain ⟨⟨aa', ac', ta', tc', a', c', bk', o', us', rfl, hav', htv', hk'⟩, hsel', hprim'⟩ := h2;have hargs := zi A _ _ x.args y.args hav hav';have htemps := zi A _ _ x.temps y.temps htv htv';obtain ⟨s, args, temps, p, body⟩ := x;obtain ⟨s', args', temps', p', body'⟩ := y;simp only at *;have hmany := hk.many;refine Fun.intro low18 (by simp [n18]) ?_;obtain ⟨E, hE⟩ : ∃ E, E = mdLike pl ⟨s, args, temps, p, body⟩ ⟨s', args', temps', p', body'⟩ := ⟨_, rfl⟩;rw [<- hE];simp only [mdLike] at hE;refine GOH ?_;refine kS Zr (fun q => ?_);refine kS Zr (fun q2 => ?_);simp only [Value.cells];refine GOH ?_;refine kD hargs Zr ZP (fun v Post hv => ?_);obtain ⟨rfl, rfl⟩ := hv;simp only [CNx];refine GOH ?_;refine kD htemps Zr ZP (fun v Post hv => ?_);obtain ⟨rfl, rfl⟩ := hv;simp only [CNx];by_cases h1 : args = args';rotate_left
  · have hno : E = false := by simp [hE, h1]
    rw [Zf h1];refine GOH ?_;exact kC (Post := [A]) (.inr rfl) (.tmp Zr .nil) ⟨by rw [hno];rfl, rfl⟩ ZI
  rw [Zt h1];refine GOH ?_;by_cases h2 : temps = temps';rotate_left
  · have hno : E = false := by simp [hE, h2]
    rw [Zf h2];refine GOH ?_;exact kC (Post := [A]) (.inr rfl) (.tmp Zr .nil) ⟨by rw [hno];rfl, rfl⟩ ZI
  rw [Zt h2];refine GOH ?_;by_cases h3 : s = s';rotate_left
  · have hno : E = false := by simp [hE, h3]
    rw [Zf h3];refine GOH ?_;exact kC (Post := [A]) (.inr rfl) (.tmp Zr .nil) ⟨by rw [hno];rfl, rfl⟩ ZI
  rw [Zt h3];refine GOH ?_;by_cases h4 : p = p';rotate_left
  · have hno : E = false := by simp [hE, h4]
    rw [Zf h4];refine GOH ?_;exact kC (Post := [A]) (.inr rfl) (.tmp Zr .nil) ⟨by rw [hno];rfl, rfl⟩ ZI
  rw [Zt h4];refine GOH ?_;by_cases h5 : body.length = body'.length;rotate_left
  · have hno : E = false := by simp [hE, bodyLike_len h5]
    rw [show decide ((body.length : Int) = (body'.length : Int)) = false from Zf Zo];refine GOH ?_;exact kC (Post := [A]) (.inr rfl) (.tmp Zr .nil) ⟨by rw [hno];rfl, rfl⟩ ZI
  rw [show decide ((body.length : Int) = (body'.length : Int)) = true from Zt Zo];have hyes : E = zK pl body body' := by simp [hE, h1, h2, h3, h4]
  clear hE;refine GOH ?_;refine VC.loop (α := Nat) (Γf := fun j => [(2, .bool pl), (3, kN q), (4, kN q2), (9, vi j)]) (Hf := fun _ => [A, kA q 0 [.string s, .slice aa args.length ac, .slice ta temps.length tc, vi p, .slice a body.length c], kA q2 0 [.string s', .slice aa' args'.length ac', .slice ta' temps'.length tc', vi p', .slice a' body'.length c']])
    (I := fun j => j <= body.length /\ ∀ i u v, i < j -> body[i]? = some u -> body'[i]? = some v -> (if pl then ndSm u v else zH u v) = true) (μ := fun j => body.length - j) 0 ⟨Nat.zero_le _, fun i u v h => absurd h Zo⟩ ZU ZI ?_
  rintro j ⟨i1, i2⟩
  refine GOH ?_;by_cases hj : j < body.length;rotate_left
  · rw [show decide ((j : Int) < (body.length : Int)) = false from Zf Zo];have htt : E = true := by
      rw [hyes];exact bodyLike_true h5 fun i u v e1 e2 => i2 i u v Zax e1 e2
    refine GOH ?_;exact kC (Post := [A]) (.inr rfl) (.tmp Zr .nil) ⟨by rw [htt];rfl, rfl⟩ ZI
  rw [show decide ((j : Int) < (body.length : Int)) = true from Zt Zo];obtain rfl := hk.at_ Zo;obtain rfl := hk'.at_ Zo;obtain ⟨u, hu⟩ : ∃ u, body[j]? = some u := ⟨_, Zg hj⟩;obtain ⟨z, hz⟩ : ∃ z, body'[j]? = some z := ⟨_, Zg (h5 ▸ hj)⟩;have hum := hk.mem j hj;have hzm := hk'.mem j Zo;have hul := (hk.rd j u hu).len;have hzl := (hk'.rd j z hz).len;have hcall := likeNode_spec A _ u z (Nat.le_refl _) _ _ (hk.rd j u hu) (hk'.rd j z hz);have hcall2 := sameNodeP_spec A _ u z (Nat.le_refl _) _ _ (hk.rd j u hu) (hk'.rd j z hz);refine GOH ?_;refine kL Zr (fun z hz => Zw _ (hum z hz)) hul ?_;refine GOH ?_;refine kL Zr (fun z hz => Zw _ (hzm z hz)) hzl ?_;refine GOH ?_;refine kD hcall Zr ZP (fun v Post hv => ?_);obtain ⟨rfl, rfl⟩ := hv;simp only [CNx];cases pl with
  | true =>
    simp only [if_true] at i2;refine GOH ?_;refine kL Zr (fun z hz => Zw _ (hum z hz)) hul ?_;refine GOH ?_;refine kL Zr (fun z hz => Zw _ (hzm z hz)) hzl ?_;refine GOH ?_;refine kD hcall2 Zr ZP (fun v Post hv => ?_);obtain ⟨rfl, rfl⟩ := hv;simp only [CNx];cases hxy : ndSm u z with
    | true =>
      refine GOH ?_;refine ⟨j + 1, ⟨Zo, fun i p r hi e1 e2 => ?_⟩, Zo, ZU, ZI⟩;show (if true then ndSm p r else zH p r) = true;simp only [if_true];by_cases hij : i = j
      · subst hij;rw [hu] at e1;rw [hz] at e2;cases e1;cases e2;exact hxy
      · exact i2 i p r Zo e1 e2
    | false =>
      have hno : E = false := by rw [hyes];exact bodyLike_false hu hz hxy
      refine GOH ?_;exact kC (Post := [A]) (.inr rfl) (.tmp Zr .nil) ⟨by rw [hno];rfl, rfl⟩ ZI
  | false =>
    simp only [Bool.false_eq_true, if_false] at i2;refine GOH ?_;cases hxy : zH u z with
    | true =>
      refine GOH ?_;refine ⟨j + 1, ⟨Zo, fun i p r hi e1 e2 => ?_⟩, Zo, ZU, ZI⟩;simp only [Bool.false_eq_true, if_false];by_cases hij : i = j
      · subst hij;rw [hu] at e1;rw [hz] at e2;cases e1;cases e2;exact hxy
      · exact i2 i p r Zo e1 e2
    | false =>
      have hno : E = false := by rw [hyes];exact bodyLike_false hu hz hxy
      refine GOH ?_;exact kC (Post := [A]) (.inr rfl) (.tmp Zr .nil) ⟨by rw [hno];rfl, rfl⟩ ZI
theorem weighMethod_spec (A : List kE) (x : Md) (vs : List Value) (h : MdW A x vs) : Fun Tryz.prog 43 [.agg vs.toArray] [A] (fun v Post => ∃ r, v = vi r /\ Post = [A]) := by
  obtain ⟨⟨aa, ac, ta, tc, a, c, bk, o, us, rfl, hav, htv, hk⟩, hsel, hprim⟩ := h;have hat := fun s hs => zN A _ x.args hav s hs
  have htt := fun s hs => zN A _ x.temps htv s hs
  obtain ⟨s, args, temps, p, body⟩ := x;simp only at *;have hmany := hk.many;refine Fun.intro low43 (by simp [n43]) ?_;refine GOH ?_;refine kS Zr (fun q => ?_);simp only [Value.cells];refine GOH ?_;refine kD (hat s.size Zo) Zr ZP (fun v Post hv => ?_);obtain ⟨r1, rfl, h1, h2, rfl⟩ := hv;unfold wB at h2;simp only [CNx];refine GOH ?_;refine kD (htt r1 Zo) Zr ZP (fun v Post hv => ?_);obtain ⟨r2, rfl, h3, h4, rfl⟩ := hv;unfold wB at h4;simp only [CNx];have h5 : r2 <= wN 0 + 1000000000000000 := by unfold wN;omega
  clear h2 h4;refine GOH ?_;refine VC.loop (α := Nat × Int) (Γf := fun z => [(1, kN q), (3, vi z.2), (4, vi z.1)]) (Hf := fun _ => [A, kA q 0 [.string s, .slice aa args.length ac, .slice ta temps.length tc, vi p, .slice a body.length c]])
    (I := fun z => z.1 <= body.length /\ 0 <= z.2 /\ z.2 <= wN 0 + 1000000000000000) (μ := fun z => body.length - z.1) (0, r2) ⟨Nat.zero_le _, h3, h5⟩ ZU ZI ?_
  rintro ⟨j, r⟩ ⟨i1, i2, i3⟩
  simp only at i1 i2 i3;dsimp only;unfold wN at i3;refine GOH ?_;by_cases hj : j < body.length;rotate_left
  · rw [show decide ((j : Int) < (body.length : Int)) = false from Zf Zo];refine GOH ?_;exact kC (Post := [A]) (.inr rfl) (.tmp Zr .nil) ⟨r, rfl, rfl⟩ ZI
  rw [show decide ((j : Int) < (body.length : Int)) = true from Zt Zo];refine GOH ?_;by_cases hr2 : r <= 262144;rotate_left
  · rw [Zf hr2];refine GOH ?_;exact kC (Post := [A]) (.inr rfl) (.tmp Zr .nil) ⟨r, rfl, rfl⟩ ZI
  rw [Zt hr2];obtain rfl := hk.at_ Zo;obtain ⟨y, hy⟩ : ∃ y, body[j]? = some y := ⟨_, Zg hj⟩;have hym := hk.mem j hj;have hyl := (hk.rd j y hy).len;have hcall := weighNode_spec A _ y (Nat.le_refl _) _ (hk.rd j y hy) r 0 i2 Zo Zo Zo;refine GOH ?_;refine kL Zr Zah hyl ?_;refine GOH ?_;refine kD hcall Zr ZP (fun v Post hv => ?_);obtain ⟨r', rfl, h2, h4, rfl⟩ := hv;unfold wN at h4;simp only [CNx];refine GOH ?_;refine ⟨(j + 1, r'), ⟨by simp only;omega, by simp only;omega, by simp only;unfold wN;omega⟩, by simp only;omega, ZU, ZI⟩
theorem far_spec (A : List kE) (x : Md) (vs : List Value) (h : MdW A x vs) : Fun Tryz.prog 11 [.agg vs.toArray] [A] (fun v Post => ∃ b, v = .bool b /\ Post = [A]) := by
  have hw := weighMethod_spec A x vs h;obtain ⟨⟨aa, ac, ta, tc, a, c, bk, o, us, rfl, hav, htv, hk⟩, hsel, hprim⟩ := h;refine Fun.intro low11 (by simp [n11]) ?_;refine GOH ?_;refine kS Zr (fun q => ?_);simp only [Value.cells];refine GOH ?_;refine kD hw Zr ZP (fun v Post hv => ?_);obtain ⟨r, rfl, rfl⟩ := hv;simp only [CNx];refine GOH ?_;exact kC (Post := [A]) (.inr rfl) (.tmp Zr .nil) ⟨_, rfl, rfl⟩ ZI
end Go.Proofs.YtmnmandpdadedaaGreatDoor

/-
  The outside world: names, handles, choices.
-/
import Derived.Test.YtgindbomnbojeaaGreatCA
set_option linter.unusedSimpArgs false
set_option linter.unusedVariables false
namespace Go.Proofs.YtgindbomnbojeaaGreat
open Go Go.V
set_option maxHeartbeats 1600000
set_option maxRecDepth 100000
theorem inName_spec (c : Nat) : Fun Tryz.prog 92 [.int .u8 c] [] (fun v Post => v = .bool (inNameB c) ∧ Post = []) := by
  refine Fun.intro low92 (by simp [n92]) ?_
  (repeat' (first | refine GOP ?_ | refine st_gcase (by rfl) (fun _ => ?_) (fun _ => ?_) | refine st_pcase (by rfl) (fun _ => ?_) (fun _ => ?_) | refine VC.seq_cond (by rfl) (fun _ => ?_) (fun _ => ?_) | refine VC.cond (by rfl) (fun _ => ?_) (fun _ => ?_)))
  all_goals refine ⟨.inr rfl, _, _, .tmp (by rfl) .nil, by exact IMx, ?_, rfl⟩
  all_goals (simp only [decide_eq_true_eq, decide_eq_false_iff_not, Int.not_le] at *)
  all_goals (simp only [tup, Value.bool.injEq]; rw [Bool.eq_iff_iff]; simp [inNameB]; omega)
theorem isName_spec (s : ByteArray) (hs : s.size ≤ 4611686018427387904) : Fun Tryz.prog 26 [.string s] [] (fun v Post => v = .bool (nameB s) ∧ Post = []) := by
  refine Fun.intro low26 (by simp [n26]) ?_
  refine GO ?_
  refine VC.loop (α := Nat) (Γf := fun k => [(0, .string s), (5, vi s.size), (6, vi k)]) (Hf := fun _ => []) (I := fun k => k ≤ s.size ∧ (s.data.toList.take k).all (fun c => inNameB c.toNat) = true) (μ := fun k => s.size - k) 0 ⟨by omega, by simp⟩ (by exact SUx) (by exact IMx) ?_
  rintro k ⟨hk, hall⟩
  refine GO ?_
  (first | (apply VC.seq_cond; rfl) | (apply VC.cond; rfl))
  · intro hlt
    have hlt : k < s.size := by simpa using hlt
    have hc : s[k]? = some s[k] := by simp [hlt]
    refine GO ?_
    refine st_idxS (by rfl) (by rfl) (j := k) rfl hc ?_
    refine st_call (inName_spec (s[k]).toNat) (by rfl) (R := []) (by simp [V.Spl]) (fun v Post hv => ?_)
    obtain ⟨rfl, rfl⟩ := hv
    have ht := all_take hlt
    rw [hall, Bool.true_and] at ht
    refine GO ?_
    cases hb : inNameB (s[k]).toNat with
    | true =>
      refine GO ?_
      exact ⟨k + 1, ⟨by omega, by rw [ht, hb]⟩, by omega, by exact SUx, by exact IMx⟩
    | false =>
      refine GO ?_
      refine ⟨.inr rfl, _, _, .tmp (by rfl) .nil, by exact IMx, ?_, rfl⟩
      have : nameB s = false := by
        have h2 : s.data.toList.all (fun c => inNameB c.toNat) = false := by
          rw [hb] at ht
          rw [← List.take_append_drop (k + 1) s.data.toList, List.all_append, ht, Bool.false_and]
        simp only [nameB, h2, Bool.false_and]
      rw [this]; rfl
  · intro hge
    have hge : ¬ k < s.size := by simpa using hge
    have h2 : s.data.toList.all (fun c => inNameB c.toNat) = true := by
      rw [List.take_of_length_le (by simp; omega)] at hall; exact hall
    (repeat' (first | refine GOP ?_ | refine st_gcase (by rfl) (fun _ => ?_) (fun _ => ?_) | refine st_pcase (by rfl) (fun _ => ?_) (fun _ => ?_) | refine VC.seq_cond (by rfl) (fun _ => ?_) (fun _ => ?_) | refine VC.cond (by rfl) (fun _ => ?_) (fun _ => ?_)))
    all_goals refine ⟨.inr rfl, _, _, .tmp (by rfl) .nil, by exact IMx, ?_, rfl⟩
    all_goals (simp only [decide_eq_true_eq, decide_eq_false_iff_not] at *)
    all_goals (simp only [tup, nameB, h2, Bool.true_and, Value.bool.injEq]; rw [Bool.eq_iff_iff]; simp; omega)
theorem chosen_spec (n : Int) : Fun Tryz.prog 108 [vi n] [] (fun v Post => v = vi (chosenE n) ∧ Post = []) := by
  refine Fun.intro low108 (by simp [n108]) ?_
  (repeat' (first | refine GOP ?_ | refine st_gcase (by rfl) (fun _ => ?_) (fun _ => ?_) | refine st_pcase (by rfl) (fun _ => ?_) (fun _ => ?_) | refine VC.seq_cond (by rfl) (fun _ => ?_) (fun _ => ?_) | refine VC.cond (by rfl) (fun _ => ?_) (fun _ => ?_)))
  all_goals refine ⟨.inr rfl, _, _, .tmp (by rfl) .nil, by exact IMx, ?_, rfl⟩
  all_goals (simp only [decide_eq_true_eq, decide_eq_false_iff_not] at *)
  all_goals (simp only [tup, chosenE, Value.int.injEq, true_and]; split <;> omega)
theorem over_spec (a b : Bool) : Fun Tryz.prog 120 [.agg #[.bool a, .bool b]] [] (fun v Post => v = .bool (a || b) ∧ Post = []) := by
  refine Fun.intro low120 (by simp [n120]) ?_
  refine GO ?_
  refine st_box (by rfl) (fun q => ?_)
  simp only [Value.cells]
  cases a <;> refine GO ?_
  all_goals refine ⟨.inr rfl, _, _, .tmp (by rfl) .nil, by exact IMx, ?_, rfl⟩
  all_goals simp [tup]
theorem next_spec' (t : Nat) (w : WR) (hs : 0 ≤ w.seq ∧ w.seq ≤ 1073741823) (R : SH) :
    Fun Tryz.prog 85 [ptr0 t] (cellsAt t 0 (hdr w) :: R) (fun v Post => v = vi (w.seq + 1) ∧ Post = cellsAt t 0 (hdr { w with seq := w.seq + 1 }) :: R) := by
  refine Fun.intro low85 (by simp [n85]) ?_
  simp only [hdr]
  refine GO ?_
  exact endQ_mk (.inr rfl) (.tmp (by rfl) .nil) ⟨rfl, rfl⟩ (Imp.refl _)
abbrev hpv (w : WR) : List Value := w.hs.map fun h => ptr0 h.blk
theorem give_spec (t : Nat) (w : WR) (hb : Nat) (h : IsSl 1 w.hv w.hs.length (hpv w) w.hsp) (hn : w.hs.length ≤ 1073741823) :
    Fun Tryz.prog 86 [ptr0 t, ptr0 hb] [cellsAt t 0 (hdr w), slA w.hv (hpv w) w.hsp] (fun v Post => ∃ hv' sp', IsSl 1 hv' (w.hs.length + 1) (hpv w ++ [ptr0 hb]) sp' ∧ v = vi (w.hs.length + 1) ∧ Post = [cellsAt t 0 (hdr { w with hv := hv' }), slA hv' (hpv w ++ [ptr0 hb]) sp']) := by
  refine Fun.intro low86 (by simp [n86]) ?_
  simp only [hdr]
  refine GO ?_
  refine st_bslice (out := [ptr0 hb]) (by rfl) (by rfl) (fun q3 => ?_)
  refine st_append (k := w.hs.length) (m := 1) (xs := hpv w) (sp := w.hsp) (ys := [ptr0 hb]) (by rfl) (by rfl) h (by exact TKx) (by rfl) ?_ rfl (by rfl) (by rfl) (by decide) (by omega) (fun sv' sp' hsl' => ?_)
  · exact ⟨rfl, fun a ha => by simp only [List.flatten_cons, List.mem_append]; exact .inl ha⟩
  obtain ⟨a', c', hf'⟩ := hsl'.form
  subst hf'
  refine GO ?_
  refine endQ_mk (Post := [cellsAt t 0 [w.cv, .map (some w.fm), .slice a' (w.hs.length + 1) c', w.tv, vi w.clock, vi w.seq, .bool w.dead], slA (.slice a' (w.hs.length + 1) c') (hpv w ++ [ptr0 hb]) sp']) (.inr rfl) (.tmp (by rfl) .nil) ⟨_, sp', hsl', by simp [tup], rfl⟩ (by exact IMx)
theorem used_spec (t : Nat) (w : WR) (h : IsSl 1 w.hv w.hs.length (hpv w) w.hsp) (hn : w.hs.length ≤ 1073741823) :
    Fun Tryz.prog 83 [ptr0 t] [cellsAt t 0 (hdr w), slA w.hv (hpv w) w.hsp, w.hs.flatMap hoA] (fun v Post => v = vi (usedN w.hs) ∧ Post = [cellsAt t 0 (hdr w), slA w.hv (hpv w) w.hsp, w.hs.flatMap hoA]) := by
  obtain ⟨sa, sc, hsv⟩ := h.form
  refine Fun.intro low83 (by simp [n83]) ?_
  simp only [hdr]
  rw [hsv]
  refine GO ?_
  refine VC.loop (α := Nat) (Γf := fun k => [(2, vi (usedN (w.hs.take k))), (8, .slice sa w.hs.length sc), (9, vi w.hs.length), (10, vi k)]) (Hf := fun _ => [cellsAt t 0 [w.cv, .map (some w.fm), .slice sa w.hs.length sc, w.tv, vi w.clock, vi w.seq, .bool w.dead], slA (.slice sa w.hs.length sc) (hpv w) w.hsp, w.hs.flatMap hoA])
    (I := fun k => k ≤ w.hs.length) (μ := fun k => w.hs.length - k) 0 (by omega) (by exact SUx) (by exact IMx) ?_
  intro k hk
  refine GO ?_
  (first | (apply VC.seq_cond; rfl) | (apply VC.cond; rfl))
  · intro hlt
    have hlt : k < w.hs.length := by simpa using hlt
    have hx : w.hs[k]? = some w.hs[k] := by simp [hlt]
    have hu := usedN_take hlt
    have hle := usedN_le (w.hs.take k)
    simp only [List.length_take] at hle
    generalize w.hs[k] = x at hx hu
    rw [hsv] at h
    obtain ⟨b, o, c, he, _, _⟩ := h.some (by omega)
    simp only [Value.slice.injEq, true_and] at he
    obtain ⟨rfl, rfl⟩ := he
    refine GO ?_
    refine st_load1 (v := ptr0 x.blk) (by rfl) (.there (Has.row (by simp [hpv, hx]))) ?_
    refine GO ?_
    refine st_loadA (us := [.bool x.closed, .bool x.stale]) (by rfl) ?_ (by rfl) ?_
    · intro a ha
      simp only [List.flatten_cons, List.flatten_nil, List.append_nil, List.mem_append]
      refine .inr (.inr ?_)
      obtain ⟨j, v, hj, rfl⟩ := mem_cellsAt.1 ha
      rw [Nat.zero_add]
      refine hoA_cell hx ?_
      match j, hj with
      | 0, hj => exact hj
      | 1, hj => exact hj
    refine st_call (over_spec x.closed x.stale) (by rfl) (R := [cellsAt t 0 [w.cv, .map (some w.fm), .slice (some ⟨b, o, none⟩) w.hs.length sc, w.tv, vi w.clock, vi w.seq, .bool w.dead], slA (.slice (some ⟨b, o, none⟩) w.hs.length sc) (hpv w) w.hsp, w.hs.flatMap hoA]) (by simp [V.Spl]) (fun v Post hv => ?_)
    obtain ⟨rfl, rfl⟩ := hv
    simp only [List.nil_append]
    cases hb : (x.closed || x.stale) with
    | true =>
      rw [hb] at hu
      refine GO ?_
      refine ⟨k + 1, by omega, by omega, ?_, by exact IMx⟩
      rw [hu]
      exact SUx
    | false =>
      rw [hb] at hu
      refine GO ?_
      refine ⟨k + 1, by omega, by omega, ?_, by exact IMx⟩
      rw [hu]
      exact Sub.cons (by simp [V.look]) (by exact SUx)
  · intro hge
    have hge : ¬ k < w.hs.length := by simpa using hge
    rw [List.take_of_length_le (by omega)]
    refine GO ?_
    exact endQ_mk (.inr rfl) (.tmp (by rfl) .nil) ⟨rfl, rfl⟩ (Imp.refl _)
theorem any_spec (t : Nat) (w : WR) (n : Int) (h : IsSl 1 w.hv w.hs.length (hpv w) w.hsp) (hn : w.hs.length ≤ 1073741823) :
    Fun Tryz.prog 103 [ptr0 t, vi n] [cellsAt t 0 (hdr w), slA w.hv (hpv w) w.hsp, w.hs.flatMap hoA] (fun v Post => (∃ p, v = .tuple #[p, vi (anyE w.hs n)] ∧ (∀ x, anyE w.hs n = 0 → w.hs[(n - 1).toNat]? = some x → p = ptr0 x.blk) ∧ (anyE w.hs n ≠ 0 → p = .pointer none)) ∧ Post = [cellsAt t 0 (hdr w), slA w.hv (hpv w) w.hsp, w.hs.flatMap hoA]) := by
  obtain ⟨sa, sc, hsv⟩ := h.form
  refine Fun.intro low103 (by simp [n103]) ?_
  simp only [hdr]
  rw [hsv]
  by_cases h1 : 1 ≤ n
  rotate_left
  · refine GO ?_
    simp only [show n < 1 by omega, decide_true]
    refine GO ?_
    have he : anyE w.hs n = 30 := by simp only [anyE, if_neg h1]
    rw [he]
    exact endQ_mk (.inr rfl) (.tmp (by rfl) (.tmp (by rfl) .nil)) ⟨⟨_, rfl, fun _ e => (by cases e), fun _ => rfl⟩, rfl⟩ (Imp.refl _)
  by_cases h2 : n ≤ w.hs.length
  rotate_left
  · refine GO ?_
    simp only [show ¬ n < 1 by omega, decide_false]
    refine GO ?_
    simp only [show (w.hs.length : Int) < n by omega, decide_true]
    refine GO ?_
    have he : anyE w.hs n = 30 := by simp only [anyE, if_pos h1, List.getElem?_eq_none (show w.hs.length ≤ (n - 1).toNat by omega)]
    rw [he]
    exact endQ_mk (.inr rfl) (.tmp (by rfl) (.tmp (by rfl) .nil)) ⟨⟨_, rfl, fun _ e => (by cases e), fun _ => rfl⟩, rfl⟩ (Imp.refl _)
  have hx : w.hs[(n - 1).toNat]? = some (w.hs[(n - 1).toNat]'(by omega)) := by rw [List.getElem?_eq_getElem]
  generalize w.hs[(n - 1).toNat]'(by omega) = x at hx
  rw [hsv] at h
  obtain ⟨b, o, c, he, _, _⟩ := h.some (by omega)
  simp only [Value.slice.injEq, true_and] at he
  obtain ⟨rfl, rfl⟩ := he
  have hp : Has [cellsAt t 0 [w.cv, .map (some w.fm), .slice (some ⟨b, o, none⟩) w.hs.length sc, w.tv, vi w.clock, vi w.seq, .bool w.dead], slA (.slice (some ⟨b, o, none⟩) w.hs.length sc) (hpv w) w.hsp, w.hs.flatMap hoA] b (o + (n - 1).toNat) (ptr0 x.blk) := .there (Has.row (by rw [List.getElem?_map, hx]; rfl))
  have hcl : Atom.cell x.blk 0 (.bool x.closed) ∈ w.hs.flatMap hoA := hoA_cell hx rfl
  refine GO ?_
  simp only [show ¬ n < 1 by omega, decide_false]
  refine GO ?_
  simp only [show ¬ (w.hs.length : Int) < n by omega, decide_false]
  refine GO ?_
  refine st_load1 (v := ptr0 x.blk) (by rfl) hp ?_
  refine GO ?_
  cases hc : x.closed with
  | true =>
    refine GO ?_
    have he : anyE w.hs n = 30 := by simp only [anyE, if_pos h1, hx, hc, if_true]
    rw [he]
    exact endQ_mk (.inr rfl) (.tmp (by rfl) (.tmp (by rfl) .nil)) ⟨⟨_, rfl, fun _ e => (by cases e), fun _ => rfl⟩, rfl⟩ (Imp.refl _)
  | false =>
    refine GO ?_
    refine st_load1 (v := ptr0 x.blk) (by rfl) hp ?_
    refine GO ?_
    have he : anyE w.hs n = 0 := by simp only [anyE, if_pos h1, hx, hc, Bool.false_eq_true, if_false]
    rw [he]
    exact endQ_mk (.inr rfl) (.tmp (by rfl) (.tmp (by rfl) .nil)) ⟨⟨_, rfl, fun y _ hy => (by rw [hx] at hy; cases hy; rfl), fun e => absurd rfl e⟩, rfl⟩ (Imp.refl _)
theorem held_spec (t : Nat) (w : WR) (n : Int) (host : Bool) (h : IsSl 1 w.hv w.hs.length (hpv w) w.hsp) (hn : w.hs.length ≤ 1073741823) :
    Fun Tryz.prog 88 [ptr0 t, vi n, .bool host] [cellsAt t 0 (hdr w), slA w.hv (hpv w) w.hsp, w.hs.flatMap hoA] (fun v Post => (∃ p, v = .tuple #[p, vi (heldE w.hs n host)] ∧ (∀ x, heldE w.hs n host = 0 → w.hs[(n - 1).toNat]? = some x → p = ptr0 x.blk) ∧ (heldE w.hs n host ≠ 0 → p = .pointer none)) ∧ Post = [cellsAt t 0 (hdr w), slA w.hv (hpv w) w.hsp, w.hs.flatMap hoA]) := by
  refine Fun.intro low88 (by simp [n88]) ?_
  refine GO ?_
  refine st_call (any_spec t w n h hn) (by rfl) (R := []) (by simp [V.Spl]) (fun v Post hv => ?_)
  obtain ⟨⟨p, rfl, hp1, hp2⟩, rfl⟩ := hv
  rw [List.append_nil]
  by_cases ha : anyE w.hs n = 0
  rotate_left
  · have ha30 : anyE w.hs n = 30 := by
      unfold anyE at ha ⊢
      split at ha
      · split at ha
        · simp_all
        · exact absurd rfl ha
      · rfl
    have he : heldE w.hs n host = 30 := by
      unfold anyE at ha30
      unfold heldE
      split at ha30
      · rename_i x hx
        split at ha30
        · rename_i hc; simp only [hc, if_true]
        · cases ha30
      · rfl
    rw [ha30, he, hp2 ha]
    refine GO ?_
    exact endQ_mk (.inr rfl) (.tmp (by rfl) (.tmp (by rfl) .nil)) ⟨⟨_, rfl, fun _ e => (by cases e), fun _ => rfl⟩, rfl⟩ (Imp.refl _)
  obtain ⟨h1, x, hx, hc⟩ := anyE_ok ha
  rw [ha, hp1 x ha hx]
  have hfile : Atom.cell x.blk 2 (pf x.file) ∈ w.hs.flatMap hoA := hoA_cell hx rfl
  have hstale : Atom.cell x.blk 1 (.bool x.stale) ∈ w.hs.flatMap hoA := hoA_cell hx rfl
  have hH : heldE w.hs n host = if x.file.isNone != host then 30 else if x.stale then 31 else 0 := by
    simp only [heldE, if_pos h1, hx, hc, Bool.false_eq_true, if_false]
  refine GO ?_
  have hmn : (x.file.map fun b => (⟨b, 0, none⟩ : Addr)).isNone = x.file.isNone := by cases x.file <;> rfl
  simp only [hmn, Bool.false_eq_true, if_false]
  cases hb : (x.file.isNone != host) with
  | true =>
    have hb2 : (!(x.file.isNone == host)) = true := hb
    rw [hb2, show heldE w.hs n host = 30 by rw [hH, hb]; rfl]
    refine GO ?_
    exact endQ_mk (.inr rfl) (.tmp (by rfl) (.tmp (by rfl) .nil)) ⟨⟨_, rfl, fun _ e => (by cases e), fun _ => rfl⟩, rfl⟩ (Imp.refl _)
  | false =>
    have hb2 : (!(x.file.isNone == host)) = false := hb
    rw [hb2]
    refine GO ?_
    cases hs : x.stale with
    | true =>
      rw [hs] at hstale
      rw [show heldE w.hs n host = 31 by rw [hH, hb, hs]; rfl]
      refine GO ?_
      exact endQ_mk (.inr rfl) (.tmp (by rfl) (.tmp (by rfl) .nil)) ⟨⟨_, rfl, fun _ e => (by cases e), fun _ => rfl⟩, rfl⟩ (Imp.refl _)
    | false =>
      rw [hs] at hstale
      rw [show heldE w.hs n host = 0 by rw [hH, hb, hs]; rfl]
      refine GO ?_
      exact endQ_mk (.inr rfl) (.tmp (by rfl) (.tmp (by rfl) .nil)) ⟨⟨_, rfl, fun y _ hy => (by rw [hx] at hy; cases hy; rfl), fun e => absurd rfl e⟩, rfl⟩ (Imp.refl _)
def TakeP (t : Nat) (w : WR) (v : Value) (Post : SH) : Prop :=
  v = .tuple #[.agg (chEnc (takeC w)).toArray, .bool (takeL w)] ∧ ∃ cv' csp' cs, cs.length ≤ w.choices.length ∧ cs = (if w.dead then w.choices else w.choices.tail) ∧ IsSl 3 cv' cs.length (cs.flatMap chEnc) csp' ∧
    Post = [cellsAt t 0 (hdr { w with cv := cv', choices := cs, csp := csp', dead := !takeL w }), slA cv' (cs.flatMap chEnc) csp']
theorem take_spec (t : Nat) (w : WR) (h : IsSl 3 w.cv w.choices.length (w.choices.flatMap chEnc) w.csp) :
    Fun Tryz.prog 121 [ptr0 t] [cellsAt t 0 (hdr w), slA w.cv (w.choices.flatMap chEnc) w.csp] (TakeP t w) := by
  obtain ⟨sa, sc, hsv⟩ := h.form
  refine Fun.intro low121 (by simp [n121]) ?_
  refine GO ?_
  refine st_alloc (fun p => ?_)
  simp only [hdr]
  refine GO ?_
  cases hd : w.dead with
  | true =>
    refine GO ?_
    have hc : takeC w = noCh := by simp [takeC, hd]
    have hl : takeL w = false := by simp [takeL, hd]
    refine ⟨.inr rfl, _, [cellsAt t 0 (hdr w), slA w.cv (w.choices.flatMap chEnc) w.csp], .cellN (us := chEnc noCh) (by rfl) (by rfl) (fun x hx => List.mem_append_left _ hx) (.tmp (by rfl) .nil), ?_, ?_⟩
    · simp only [hdr, hd]; exact Imp.tail1
    · refine ⟨by rw [hc, hl]; rfl, w.cv, w.csp, w.choices, Nat.le_refl _, by simp [hd], h, ?_⟩
      simp only [hdr, hd, hl, Bool.not_false]
  | false =>
    rw [hsv]
    refine GO ?_
    refine VC.meet (α := Ch × List Ch × Value × List Value) (fun s => [(0, ptr0 t), (2, ptr0 p)]) (fun s => [cellsAt p 0 (chEnc s.1), cellsAt t 0 [s.2.2.1, .map (some w.fm), w.hv, w.tv, vi w.clock, vi w.seq, .bool false], slA s.2.2.1 (s.2.1.flatMap chEnc) s.2.2.2])
      (fun s => s.1 = w.choices.headD noCh ∧ s.2.1 = w.choices.tail ∧ IsSl 3 s.2.2.1 s.2.1.length (s.2.1.flatMap chEnc) s.2.2.2) ?_ ?_
    · cases hch : w.choices with
      | nil =>
        rw [hch] at h hsv
        simp only [List.length_nil, Int.natCast_zero, Int.lt_irrefl, decide_false]
        refine GO ?_
        refine ⟨(noCh, [], .slice sa 0 sc, w.csp), ⟨rfl, rfl, by rw [hsv] at h; exact h⟩, by exact SUx, Imp.refl _⟩
      | cons c cs =>
        rw [hch] at h hsv
        simp only [show (0 : Int) < ((c :: cs).length : Nat) by simp, decide_true]
        obtain ⟨b, o, cp, he, hcp, hlen⟩ := h.some (by simp)
        rw [hsv] at he
        simp only [Value.slice.injEq, true_and] at he
        obtain ⟨rfl, rfl⟩ := he
        have hl1 : (c :: cs).length = cs.length + 1 := rfl
        rw [hl1] at hcp ⊢
        have hX : cellsAt b o ((c :: cs).flatMap chEnc ++ w.csp) = cellsAt b o (chEnc c ++ (cs.flatMap chEnc ++ w.csp)) := by simp [List.flatMap_cons, List.append_assoc]
        have hlen2 : (cs.flatMap chEnc).length = cs.length * 3 := by
          have := h.len
          simp only [List.flatMap_cons, List.length_append, hl1, chEnc, List.length_cons, List.length_nil] at this
          omega
        have hnew : IsSl 3 (.slice (some ⟨b, (if sc = 1 then o else o + 1 * 3), none⟩) cs.length (sc - 1)) cs.length (cs.flatMap chEnc) w.csp := by
          refine .mk hlen2 ?_ (by omega)
          simp only [List.flatMap_cons, List.length_append, chEnc, List.length_cons, List.length_nil] at hlen
          omega
        have himp : Imp [cellsAt p 0 (chEnc c), cellsAt t 0 [.slice (some ⟨b, (if sc = 1 then o else o + 1 * 3), none⟩) cs.length (sc - 1), .map (some w.fm), w.hv, w.tv, vi w.clock, vi w.seq, .bool false], cellsAt b o (chEnc c ++ (cs.flatMap chEnc ++ w.csp))]
            [cellsAt p 0 (chEnc c), cellsAt t 0 [.slice (some ⟨b, (if sc = 1 then o else o + 1 * 3), none⟩) cs.length (sc - 1), .map (some w.fm), w.hv, w.tv, vi w.clock, vi w.seq, .bool false], slA (.slice (some ⟨b, (if sc = 1 then o else o + 1 * 3), none⟩) cs.length (sc - 1)) (cs.flatMap chEnc) w.csp] := by
          by_cases e : sc = 1
          · have e0 : cs = [] := List.eq_nil_of_length_eq_zero (by omega)
            have e1 : w.csp = [] := List.eq_nil_of_length_eq_zero (by
              simp only [List.flatMap_cons, List.length_append, chEnc, List.length_cons, List.length_nil] at hlen
              omega)
            refine ⟨[cellsAt b o (chEnc c ++ (cs.flatMap chEnc ++ w.csp))], ?_⟩
            simp only [e0, e1, slA, List.flatMap_nil, List.append_nil, cellsAt, V.Spl, List.flatten_cons, List.flatten_nil, List.nil_append, List.append_assoc]
            exact .refl _
          · rw [if_neg e]
            refine ⟨[cellsAt b o (chEnc c)], ?_⟩
            simp only [slA, cellsAt_append, V.Spl, List.flatten_cons, List.flatten_nil, List.append_nil, List.append_assoc]
            refine List.Perm.append_left _ (List.Perm.append_left _ ?_)
            simp only [chEnc, List.length_cons, List.length_nil, Nat.zero_add, Nat.reduceAdd, Nat.one_mul]
            exact List.perm_append_comm.trans (by rw [List.append_assoc])
        simp only [slA, hX]
        simp only [chEnc, List.cons_append, List.nil_append] at himp ⊢
        refine GO ?_
        refine VC.draws ⟨?_, ?_, trivial⟩
        all_goals refine GO ?_
        all_goals refine st_loadN (us := [.int .u8 c.kind, vi c.n, .string c.text]) (b := b) (o := o) (by rfl) (.there (.there (.cells (Nat.le_refl _) (by simp) rfl))) rfl ?_
        all_goals refine GO ?_
        all_goals refine st_slcL (l := 1) (h := cs.length + 1) (by rfl) (.num (by rfl)) .dft ⟨by omega, by omega⟩ rfl ?_
        all_goals refine GO ?_
        all_goals rw [Nat.add_sub_cancel]
        all_goals exact ⟨(c, cs, _, w.csp), ⟨rfl, rfl, hnew⟩, by exact SUx, himp⟩
    · rintro ⟨C, cs, cv, csp⟩ ⟨rfl, rfl, hs⟩
      dsimp only at hs ⊢
      simp only [chEnc]
      refine GO ?_
      have hc : takeC w = w.choices.headD noCh := by simp [takeC, hd]
      generalize w.choices.headD noCh = C at hc
      have hl : (!takeL w) = decide (C.kind = 5) := by simp [takeL, hd, hc]
      refine VC.seq (VC.draws ⟨?_, ?_, trivial⟩)
      all_goals refine GO ?_
      all_goals refine ⟨.inr rfl, _, [cellsAt t 0 [cv, .map (some w.fm), w.hv, w.tv, vi w.clock, vi w.seq, .bool (decide (C.kind = 5))], slA cv (w.choices.tail.flatMap chEnc) csp], .cellN (us := chEnc C) (by rfl) (by rfl) (fun x hx => List.mem_append_left _ hx) (.tmp (by rfl) .nil), Imp.tail1, ?_⟩
      all_goals refine ⟨by rw [hc, ← hl, Bool.not_not]; rfl, cv, csp, w.choices.tail, by simp, by simp [hd], hs, ?_⟩
      all_goals simp only [hdr, hl]
end Go.Proofs.YtgindbomnbojeaaGreat

/-
  CompactWeak: a weak slot is cleared just where nothing strong led to what it named: the statement in its second form, and its card, for whatever is handed in of the bulk that the form allows.
-/
import Derived.Test.YtmlnoodopoaafaaDoorH11
set_option linter.unusedSimpArgs false
set_option linter.unusedVariables false
namespace Go.V
open Go
theorem sub_perm {L A : List Atom} (hn : L.Nodup) (h : ∀ a ∈ L, a ∈ A) : ∃ R, A.Perm (L ++ R) := by
  induction L generalizing A with
  | nil => exact ⟨A, .refl _⟩
  | cons x r ih =>
    obtain ⟨h1, h2⟩ := List.nodup_cons.1 hn
    obtain ⟨s, t, rfl⟩ := List.append_of_mem (h x (by simp))
    obtain ⟨R, hR⟩ := ih (A := s ++ t) h2 (fun y hy => by
      have := h y (by simp [hy])
      have hne : y ≠ x := fun e => h1 (e ▸ hy)
      simp only [List.mem_append, List.mem_cons] at this ⊢
      rcases this with h | h | h
      · exact .inl h
      · exact absurd h hne
      · exact .inr h)
    exact ⟨R, List.perm_middle.trans (hR.cons x)⟩
theorem tz_nodup : TZ.Nodup := by
  have h : (TZ.map Atom.loc).Nodup := by decide
  exact (List.pairwise_map.1 h).imp (fun hne e => hne (congrArg _ e))
end Go.V
namespace Go.Proofs.YtmlnoodopoaafaaDoor
open Go Go.V Go.ChangeShapes Go.WideShapes Go.Deep
set_option maxRecDepth 100000
section
variable {H : Type} {enc : TypeId × Value → H}
theorem spot_none {W : World} {a : Addr} {v : Value} (h : W.cell? a = some v) : a = ⟨a.block, a.off, none⟩ := by
  obtain ⟨b, o, s⟩ := a
  cases s with
  | none => rfl
  | some s =>
    unfold World.cell? at h
    split at h
    · simp at h
    · cases h
theorem rd_list {t e : TypeId} (ht : Tryd.prog.underlying t = some (.slice e)) (hc : Tryd.prog.cellsOf e = 1) {W : World} {u : Value} {n : Nat} {x : DataW H × List MemPlace} {A : List Atom} (h : DataW.trod enc Tryd.prog W 0 (fun _ => true) true n t [u] = some x) (hf : W.noneFrozen x.2) (hA : ∀ a : Atom, a.holds W → a ∈ A) :
    ∃ (a : Option Addr) (k c : Nat) (Vs : Nat → Value) (D : Nat → DataW H) (Pl : Nat → List MemPlace) (m : Nat), u = .slice a k c ∧ k ≤ Rows.uptoBulk x.1 ∧ (∀ i, i < k → Rows.uptoBulk (D i) ≤ Rows.uptoBulk x.1) ∧ ∀ i, i < k → ∃ b o, a = some ⟨b, o, none⟩ ∧ Atom.cell b (o + i) (Vs i) ∈ A ∧ DataW.trod enc Tryd.prog W 0 (fun _ => true) true m e [Vs i] = some (D i, Pl i) ∧ W.noneFrozen (Pl i) := by
  rcases open_slice1 ht hc h with ⟨h1, _⟩ | ⟨a, len, cap, m, n', Vs, D, Pl, hcs, _, hl, _, hm, hx, hi⟩
  · simp only [List.cons.injEq, and_true] at h1
    exact ⟨none, 0, 0, fun _ => .nilIface, fun _ => .nil, fun _ => [], 0, h1, Nat.zero_le _, fun i hi => absurd hi (Nat.not_lt_zero _), fun i hi => absurd hi (Nat.not_lt_zero _)⟩
  · simp only [List.cons.injEq, and_true] at hcs
    simp only [if_true] at hm
    subst hm
    subst hx
    have hb : ∀ l : List (DataW H), l.length ≤ Rows.uptoBulkAll l := bulk_len
    have hmem : ∀ {d : DataW H} {l : List (DataW H)}, d ∈ l → Rows.uptoBulk d ≤ Rows.uptoBulkAll l := fun {d l} h => by
      induction l with
      | nil => cases h
      | cons y r ih =>
        simp only [Rows.uptoBulkAll]
        rcases List.mem_cons.1 h with rfl | h
        · omega
        · have := ih h; omega
    refine ⟨some a, len, m, Vs, D, Pl, n', hcs, ?_, fun i hi' => ?_, fun i hi' => ?_⟩
    · have := hb ((List.range len).map D)
      simp only [List.length_map, List.length_range] at this
      simp only [Rows.uptoBulk]; omega
    · have := hmem (List.mem_map.2 ⟨i, List.mem_range.2 hi', rfl⟩ : D i ∈ (List.range len).map D)
      simp only [Rows.uptoBulk]; omega
    · have h0 := (hi 0 (by omega)).1
      have ha : a = ⟨a.block, a.off, none⟩ := by
        have : a.add 0 = a := rfl
        rw [this] at h0
        exact spot_none h0
      obtain ⟨g1, g2⟩ := hi i (by omega)
      refine ⟨a.block, a.off, by rw [← ha], ?_, g2, fun b o hbo => hf b o ?_⟩
      · rw [ha, add_addr] at g1
        refine hA _ (holds_cell g1 (hf _ _ ?_))
        exact List.mem_append_left _ (MemPlace.mem_row.2 ⟨i, by omega, rfl⟩)
      · exact List.mem_append_right _ (List.mem_flatMap.2 ⟨i, List.mem_range.2 (by omega), hbo⟩)
theorem choose_fn {α : Type} {Q : Nat → α → Prop} {n : Nat} (h : ∀ i, i < n → ∃ x, Q i x) : ∃ l : List α, l.length = n ∧ ∀ i x, l[i]? = some x → Q i x := choose_rows h
theorem rd_intsJ {t e : TypeId} (ht : Tryd.prog.underlying t = some (.slice e)) (he : Tryd.prog.underlying e = some (.int .i64)) (hc : Tryd.prog.cellsOf e = 1) {W : World} {u : Value} {n : Nat} {x : DataW H × List MemPlace} {A : List Atom} (h : DataW.trod enc Tryd.prog W 0 (fun _ => true) true n t [u] = some x) (hf : W.noneFrozen x.2) (hA : ∀ a : Atom, a.holds W → a ∈ A) :
    ∃ xs : List Int, RdJ A u xs ∧ xs.length ≤ Rows.uptoBulk x.1 := by
  obtain ⟨a, k, c, Vs, D, Pl, m, rfl, hk, _, hi⟩ := rd_list ht hc h hf hA
  obtain ⟨xs, hl, hx⟩ := choose_fn (α := Int) (Q := fun i z => ∃ b o, a = some ⟨b, o, none⟩ ∧ Atom.cell b (o + i) (.int .i64 z) ∈ A) (n := k) (fun i hik => by
    obtain ⟨b, o, h1, h2, h3, _⟩ := hi i hik
    obtain ⟨z, hz, _, _⟩ := DataW.trod_int he h3
    simp only [List.cons.injEq, and_true] at hz
    exact ⟨z, b, o, h1, by rw [← hz]; exact h2⟩)
  exact ⟨xs, ⟨a, c, by rw [hl], hx⟩, by rw [hl]; exact hk⟩
theorem rd_truths {t e : TypeId} (ht : Tryd.prog.underlying t = some (.slice e)) (he : Tryd.prog.underlying e = some .bool) (hc : Tryd.prog.cellsOf e = 1) {W : World} {u : Value} {n : Nat} {x : DataW H × List MemPlace} {A : List Atom} (h : DataW.trod enc Tryd.prog W 0 (fun _ => true) true n t [u] = some x) (hf : W.noneFrozen x.2) (hA : ∀ a : Atom, a.holds W → a ∈ A) :
    ∃ xs : List Bool, RdT A u xs ∧ xs.length ≤ Rows.uptoBulk x.1 := by
  obtain ⟨a, k, c, Vs, D, Pl, m, rfl, hk, _, hi⟩ := rd_list ht hc h hf hA
  obtain ⟨xs, hl, hx⟩ := choose_fn (α := Bool) (Q := fun i z => ∃ b o, a = some ⟨b, o, none⟩ ∧ Atom.cell b (o + i) (.bool z) ∈ A) (n := k) (fun i hik => by
    obtain ⟨b, o, h1, h2, h3, _⟩ := hi i hik
    obtain ⟨z, hz, _⟩ := DataW.trod_bool he h3
    simp only [List.cons.injEq, and_true] at hz
    exact ⟨z, b, o, h1, by rw [← hz]; exact h2⟩)
  exact ⟨xs, ⟨a, c, by rw [hl], hx⟩, by rw [hl]; exact hk⟩
theorem gTab : Tryd.prog.globalNamed "math/bits.deBruijn64tab" = some 0 := by kernel_rfl
theorem gTabType : (Tryd.prog.globals[0]?).map (·.type) = some 165 := by kernel_rfl
theorem u165 : Tryd.prog.underlying 165 = some (.array 64 5) := by kernel_rfl
theorem u5 : Tryd.prog.underlying 5 = some (.int .u8) := by kernel_rfl
theorem cells165 : Tryd.prog.cellsOf 165 = 64 := by kernel_rfl
theorem cells5 : Tryd.prog.cellsOf 5 = 1 := by kernel_rfl
theorem table {W : World} (h : laidMetH Tryd.prog Rows.compactWeakUptoRow.laid W) : Lib.TabIs Tryd.prog W "math/bits.deBruijn64tab" .u8 [0, 1, 56, 2, 57, 49, 28, 3, 61, 58, 42, 50, 38, 29, 17, 4, 62, 47, 59, 36, 45, 43, 51, 22, 53, 39, 33, 30, 24, 18, 12, 5, 63, 55, 48, 27, 60, 41, 37, 16, 46, 35, 44, 21, 52, 32, 23, 11, 54, 26, 40, 15, 34, 20, 31, 10, 25, 14, 19, 9, 13, 8, 7, 6] :=
  Lib.tabIs_of_head (rest := []) gTab gTabType u165 u5 cells5 cells165 h
theorem tab_same : ∀ i, i < 64 → ([0, 1, 56, 2, 57, 49, 28, 3, 61, 58, 42, 50, 38, 29, 17, 4, 62, 47, 59, 36, 45, 43, 51, 22, 53, 39, 33, 30, 24, 18, 12, 5, 63, 55, 48, 27, 60, 41, 37, 16, 46, 35, 44, 21, 52, 32, 23, 11, 54, 26, 40, 15, 34, 20, 31, 10, 25, 14, 19, 9, 13, 8, 7, 6] : List Int).getD i 0 = (tzTab.getD i 0 : Nat) := by decide
theorem gRow : (((begin Tryd.prog (fun _ _ => 0) default).world.heap[0]?).bind Obj.row?).isSome = true := by kernel_rfl
theorem gSize : decide (0 < Tryd.prog.globals.size) = true := by kernel_rfl
theorem tz_in {W : World} (hL : laidMetH Tryd.prog Rows.compactWeakUptoRow.laid W) (hS : W.ShapedOpen Tryd.prog) {A : List Atom} (hA : ∀ a : Atom, a.holds W → a ∈ A) : ∃ S', A.Perm (TZ ++ S') := by
  refine sub_perm tz_nodup (fun a ha => hA a ?_)
  obtain ⟨i, v, hv, rfl⟩ := mem_cellsAt.1 ha
  have hi : i < 64 := by
    have := (List.getElem?_eq_some_iff.1 hv).1
    have e : (tzTab.map cv).length = 64 := by decide
    omega
  have hc := (table hL).cell gTab i (by simpa using hi)
  obtain ⟨⟨zero, zt⟩, hz⟩ := Option.isSome_iff_exists.1 gRow
  obtain ⟨cs, hcs, _, _⟩ := hS.1 0 zero zt (of_decide_eq_true gSize) hz
  have hv' : v = cv (tzTab.getD i 0) := by
    rw [List.getElem?_map] at hv
    obtain ⟨z, hz, rfl⟩ := Option.map_eq_some_iff.1 hv
    rw [List.getD_eq_getElem?_getD, hz]; rfl
  rw [tab_same i hi] at hc
  rw [hv', Nat.zero_add]
  refine holds_cell hc ?_
  unfold World.frozen?
  rw [hcs]
  simp
noncomputable def fn5 : Func := (Tryd.prog.funcs[5]?).getD default
theorem func5 : Tryd.prog.funcs[5]? = some fn5 := by kernel_rfl
theorem params5 : fn5.params = #[23, 23, 56] := by kernel_rfl
theorem result5 : fn5.resultTypes = #[4] := by kernel_rfl
theorem weak_contract (H : Type) (enc : TypeId × Value → H) (W : World) (base : Nat) (args : Array Value) (ds gs : List (DataW H)) (before : List MemPlace)
    (hval : ∀ (j : Nat) t v, fn5.params[j]? = some t → args[j]? = some v → Value.okWide Tryd.prog W .any base t v)
    (hW : DataW.Whole enc Tryd.prog fn5.params.toList Rows.compactWeakSpec.vars false W args.toList ds gs before) (hk : Rows.uptoSmall H (ds ++ gs) = true) (hL : laidMetH Tryd.prog Rows.compactWeakUptoRow.laid W) (hS : W.ShapedOpen Tryd.prog) :
    Calls Tryd.prog 5 args W fun e W' => ∃ v, e = .returned v ∧ Rows.compactWeakSpec.post enc Tryd.prog fn5 false true false false W args v W' := by
  have hW' := hW
  obtain ⟨p, q, hA, hV, rfl, hfz, _⟩ := hW
  rw [params5] at hA hval
  obtain ⟨v0, vs0, d0, ds0, p0, q0, hargs, rfl, rfl, h0, r0⟩ := trodAll_cons hA
  obtain ⟨v1, vs1, d1, ds1, p1, q1, rfl, rfl, rfl, h1, r1⟩ := trodAll_cons r0
  obtain ⟨v2, vs2, d2, ds2, p2, q2, rfl, rfl, rfl, h2, r2⟩ := trodAll_cons r1
  obtain ⟨rfl, rfl, rfl⟩ := trodAll_nil r2
  obtain rfl : args = #[v0, v1, v2] := by cases args; simp_all
  obtain ⟨rfl, rfl⟩ := trodVars_none hV
  have hb := of_decide_eq_true hk
  simp only [List.append_nil, Rows.uptoBulkAll, Nat.add_zero] at hb
  refine glue (args := [v0, v1, v2]) rfl result5 u4 rfl closedP (by rw [params5]; simp) hW' (fun A hA' => ?_)
  obtain ⟨n0, h0⟩ := h0
  obtain ⟨n1, h1⟩ := h1
  obtain ⟨n2, h2⟩ := h2
  have e0 : v0.cells.toList = [v0] := by rcases slice_form u23 (hval 0 23 v0 rfl rfl) with rfl | ⟨_, _, _, _, rfl, _⟩ <;> rfl
  have e1 : v1.cells.toList = [v1] := by rcases slice_form u23 (hval 1 23 v1 rfl rfl) with rfl | ⟨_, _, _, _, rfl, _⟩ <;> rfl
  have e2 : v2.cells.toList = [v2] := by rcases slice_form u56 (hval 2 56 v2 rfl rfl) with rfl | ⟨_, _, _, _, rfl, _⟩ <;> rfl
  rw [e0] at h0
  rw [e1] at h1
  rw [e2] at h2
  obtain ⟨ss, hss, g1⟩ := rd_intsJ u23 u3 cells3 h0 (fun b o h => hfz b o (by simp [h])) hA'
  obtain ⟨ns, hns, g2⟩ := rd_intsJ u23 u3 cells3 h1 (fun b o h => hfz b o (by simp [h])) hA'
  obtain ⟨hs, hhs, g3⟩ := rd_truths u56 u4 cells4 h2 (fun b o h => hfz b o (by simp [h])) hA'
  simp only at g1 g2 g3
  exact compactWeak_spec A v0 v1 v2 ss ns hs hss hns hhs (tz_in hL hS hA') (by omega) (by omega) (by omega)
theorem weak_met (os : Os) : laidMet Tryd.prog Rows.compactWeakUptoRow.laid ((laidWorld os).forCall (fun _ _ => 0) ⟨#[], #[.slice none 0 0, .slice none 0 0, .slice none 0 0], []⟩).memory :=
  laidMet_of_run' 8 (by kernel_rfl) (by kernel_rfl)
theorem weak_reads (os : Os) {H : Type} (enc : TypeId × Value → H) : ∃ places, DataW.whole enc Tryd.prog ((laidWorld os).forCall (fun _ _ => 0) ⟨#[], #[.slice none 0 0, .slice none 0 0, .slice none 0 0], []⟩).memory fn5.params.toList Rows.compactWeakSpec.vars false #[Value.slice none 0 0, .slice none 0 0, .slice none 0 0].toList 8 = some ([.nil, .nil, .nil], [], places) :=
  ⟨[], by kernel_rfl⟩
theorem weak_lifted (os : Os) (started : os.Started) (H : Type) (enc : TypeId × Value → H) (F : Stop.Interp) :
    ReturnsInHanded {} Tryd.checked os 5 .any ((Rows.OpenSpec.upto Rows.compactWeakSpec).preRow enc Tryd.prog fn5 Rows.compactWeakUptoRow.domain false Rows.compactWeakUptoRow.laid) (((Rows.OpenSpec.upto Rows.compactWeakSpec).at F).post enc Tryd.prog fn5 false true false false) := by
  obtain ⟨places, hx⟩ := weak_reads os enc
  refine returnsInHanded_of_row (C := Tryd.checked) (s := Rows.OpenSpec.upto Rows.compactWeakSpec) own started (by kernel_rfl) func5
    (witness_row_at (enc := enc) (C := Tryd.checked) false (laidWorld os) #[.slice none 0 0, .slice none 0 0, .slice none 0 0] rfl (by kernel_rfl) (by kernel_rfl) (by kernel_rfl)
      (OpenSpec.preRow_of_cond 8 hx (by kernel_rfl) (fun k hk => by cases hk; kernel_rfl) (by kernel_rfl) (weak_met os))) ?_
  intro W base args ds gs before hval hW _ hcond _ hL hS _
  exact weak_contract H enc W base args ds gs before hval hW (hcond _ rfl) hL hS
theorem compactWeak_over : Rows.CompactWeakUptoSaid :=
  OpenClaim.holds_of_cond 5 fn5 rfl rfl rfl rfl rfl rfl rfl ⟨rfl, rfl, rfl, rfl, rfl⟩ rfl rfl rfl rfl rfl (by kernel_rfl) func5 (by kernel_rfl)
    (of_decide_eq_true (by kernel_rfl)) (by unfold Func.isWrapper; first | (rw [if_pos (by decide +kernel)]; kernel_rfl) | (rw [if_neg (by decide +kernel)]; exact ⟨rfl, rfl⟩))
    (fun os started H enc _ F => by rw [OpenClaim.pre_eq_preRow]; exact weak_lifted os started H enc F)
theorem weak_plain (f : FuncId) (fn : Func) (hf : Tryd.pinned.checked.prog.funcNamed "palaver/palaverlaw06.CompactWeak" = some f) (hfn : Tryd.pinned.checked.prog.funcs[f]? = some fn) :
    false = Tryd.pinned.checked.prog.looks [] ∧ ∀ (j : Nat) t, fn.params[j]? = some t → Tryd.pinned.checked.prog.wantsStandIn t = false := by
  obtain rfl : f = 5 := Option.some.inj ((show Tryd.prog.funcNamed "palaver/palaverlaw06.CompactWeak" = some 5 by kernel_rfl).symm.trans hf) |>.symm
  obtain rfl : fn = fn5 := (Option.some.inj (func5.symm.trans hfn)).symm
  refine ⟨by kernel_rfl, fun j t ht => ?_⟩
  rw [params5] at ht
  have hm : t ∈ [23, 23, 56] := by simpa using Array.mem_of_getElem? ht
  have hall : [23, 23, 56].all (fun t => Tryd.prog.wantsStandIn t == false) = true := by kernel_rfl
  exact (show Tryd.prog.wantsStandIn t = false from by simpa using List.all_eq_true.1 hall t hm)
theorem compactWeak_card : Rows.CompactWeakUptoCardSaid :=
  Claim7.holds_tied_plain_at .later [] _ _ _ _ compactWeak_over (fun _ h => by cases h) (by kernel_rfl) (fun _ h => by cases h) compactWeakUpto_row_tie rfl ⟨rfl, rfl⟩ (by kernel_rfl) rfl weak_plain (by kernel_rfl)
end
end Go.Proofs.YtmlnoodopoaafaaDoor

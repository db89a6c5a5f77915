/-
  A node's size is how many nodes are met in going through it, and one more than its kids' together.
-/
import Derived.Test.YtmnmandpdadedaaGreatDoorT13
import Derived.Test.YtmnmandpdadedaaGreatDoorV14
import Derived.Test.YtmnmandpdadedaaGreatDoorV13
import Derived.Test.YtmnmandpdadedaaGreatDoorCards
import Derived.Test.YtmnmandpdadedaaGreatDoorTie
import Derived.OpenShut
import Derived.Deep.DeepHandedRow
import Derived.Deep.DeepWitnessRowRef
import Derived.Lib.LaidTab
import Derived.JoinedCond
import Derived.Lay
import Derived.Stop.LaidErr
import Derived.KernelRfl
import Derived.Test.YtmnmandpdadedaaGreatDoorV16
set_option linter.unusedSimpArgs false
set_option linter.unusedVariables false
namespace Go.Proofs.YtmnmandpdadedaaGreatDoor
open Go Go.V
set_option maxHeartbeats 3200000
set_option maxRecDepth 100000
theorem TreeSizes_spec (A : List Atom) (hE : ErA A) (x : Nd) (hw : x.w ≤ 274877906944) (vs : List Value) (h : NdRd A x vs) : Fun Tryz.prog 8 [.agg vs.toArray] [A] (fun v Post => v = .bool true ∧ Post = [A]) := by
  have hfar := farNode_spec A x vs h
  have hall := All_spec vs
  have hit := all_iter A x vs h
  have hsize := Size_spec A x vs h hw
  have hlen := allN_len _ x (Nat.le_refl _)
  have hsum : (allN x).length = 1 + (allsN x.kids).length := by rw [allN_eq, List.length_cons]; omega
  obtain ⟨e1, e2, e3, e4, e5, e6, e7, e8, e9, e10, e11, e12, e13, a, cc, bk, o, us, hvs, hmany, ha, hm, hr⟩ := nd_at h
  rw [hvs] at hfar hall hit hsize ⊢
  refine Fun.intro low8 (by simp [n8]) ?_
  refine GOH ?_
  refine st_box (by rfl) (fun q => ?_)
  simp only [Value.cells]
  refine GOH ?_
  refine st_call (awake_spec A hE) (by rfl) (by exact SPx) (fun v Post hv => ?_)
  obtain ⟨rfl, rfl⟩ := hv
  simp only [CNx]
  refine GOH ?_
  refine st_call hfar (by rfl) (by exact SPx) (fun v Post hv => ?_)
  obtain ⟨b, rfl, rfl⟩ := hv
  simp only [CNx]
  refine GOH ?_
  refine st_call hall (by rfl) (by exact SPx) (fun v Post hv => ?_)
  obtain ⟨q2, rfl, rfl⟩ := hv
  simp only [CNx]
  cases b with
  | true =>
    refine GOH ?_
    exact endQ_mk (Post := [A]) (.inr rfl) (.tmp (by rfl) .nil) ⟨rfl, rfl⟩ (by exact IMx)
  | false =>
    refine GOH ?_
    refine st_alloc (fun p => ?_)
    refine GOH ?_
    refine VC.rangefA (fun l B => B = [cellsAt p 0 [vi l.length], cellsAt q 0 [cv x.kind, .string x.name, cv e1, vi e2, uv e3, .string e4, .slice e5 e6 e7, .slice e8 e9 e10, .slice e11 e12 e13, .slice a x.kids.length cc, vi x.at_], A].flatten) ([cellsAt p 0 [vi 0], cellsAt q 0 [cv x.kind, .string x.name, cv e1, vi e2, uv e3, .string e4, .slice e5 e6 e7, .slice e8 e9 e10, .slice e11 e12 e13, .slice a x.kids.length cc, vi x.at_], A].flatten) (by rfl) (hit q2) (fun A B h => h.more) ?_ (R := [cellsAt p 0 [vi 0], A, cellsAt q 0 [cv x.kind, .string x.name, cv e1, vi e2, uv e3, .string e4, .slice e5 e6 e7, .slice e8 e9 e10, .slice e11 e12 e13, .slice a x.kids.length cc, vi x.at_]]) (by exact SPx) (Imp.cut (M := [cellsAt p 0 [vi 0], cellsAt q 0 [cv x.kind, .string x.name, cv e1, vi e2, uv e3, .string e4, .slice e5 e6 e7, .slice e8 e9 e10, .slice e11 e12 e13, .slice a x.kids.length cc, vi x.at_], A]) (by exact IMx) (Imp.perm (by simp))) rfl (fun _ => rfl) ?_ ?_
    · rintro l B rfl
      exact ⟨cellsAt p 0 [vi l.length] ++ cellsAt q 0 [cv x.kind, .string x.name, cv e1, vi e2, uv e3, .string e4, .slice e5 e6 e7, .slice e8 e9 e10, .slice e11 e12 e13, .slice a x.kids.length cc, vi x.at_], by simp only [List.flatten_cons, List.flatten_nil, List.append_nil]; rw [← List.append_assoc]; exact List.perm_append_comm⟩
    · rintro l u B hok rfl
      have hc : l.length < (allN x).length := by
        obtain ⟨t, ht⟩ := hok
        have := congrArg List.length ht.1
        simp at this; omega
      simp only [bindE]
      refine VC.imp (H' := [cellsAt p 0 [vi l.length], cellsAt q 0 [cv x.kind, .string x.name, cv e1, vi e2, uv e3, .string e4, .slice e5 e6 e7, .slice e8 e9 e10, .slice e11 e12 e13, .slice a x.kids.length cc, vi x.at_], A]) (Imp.perm (by simp)) ?_
      refine GOH ?_
      refine ⟨trivial, ?_⟩
      refine GOH ?_
      refine ⟨_, rfl, Imp.perm ?_⟩
      simp
    · rintro full B hfull rfl
      refine VC.imp (H' := [cellsAt p 0 [vi full.length], cellsAt q 0 [cv x.kind, .string x.name, cv e1, vi e2, uv e3, .string e4, .slice e5 e6 e7, .slice e8 e9 e10, .slice e11 e12 e13, .slice a x.kids.length cc, vi x.at_], A]) (Imp.perm (by simp)) ?_
      have hfl : full.length = (allN x).length := by rw [← hfull.1, List.length_map]
      rw [hfl]
      refine GOH ?_
      refine VC.loop (α := Nat × Nat) (Γf := fun s => [(1, ptr0 q), (6, ptr0 p), (7, vi s.2), (8, vi s.1)]) (Hf := fun _ => [cellsAt p 0 [vi (allN x).length], cellsAt q 0 [cv x.kind, .string x.name, cv e1, vi e2, uv e3, .string e4, .slice e5 e6 e7, .slice e8 e9 e10, .slice e11 e12 e13, .slice a x.kids.length cc, vi x.at_], A])
        (I := fun s => s.1 ≤ x.kids.length ∧ s.2 = 1 + (allsN (x.kids.take s.1)).length) (μ := fun s => x.kids.length - s.1) (0, 1) ⟨Nat.zero_le _, rfl⟩ (by exact SUx) (by exact IMx) ?_
      rintro ⟨j, n⟩ ⟨i1, i2⟩
      simp only at i1 i2
      subst i2
      dsimp only
      have hpart : (allsN (x.kids.take j)).length ≤ (allsN x.kids).length := by
        have e : allsN x.kids = allsN (x.kids.take j) ++ allsN (x.kids.drop j) := by rw [← allsN_append, List.take_append_drop]
        rw [e, List.length_append]; omega
      refine GOH ?_
      by_cases hj : j < x.kids.length
      rotate_left
      · rw [show decide ((j : Int) < (x.kids.length : Int)) = false from decide_eq_false (by omega)]
        have htk : x.kids.take j = x.kids := List.take_of_length_le (by omega)
        rw [htk]
        refine GOH ?_
        refine st_call hsize (by rfl) (by exact SPx) (fun v Post hv => ?_)
        obtain ⟨rfl, rfl⟩ := hv
        simp only [CNx]
        refine GOH ?_
        rw [show decide (((allN x).length : Int) = ((allN x).length : Int)) = true from decide_eq_true rfl]
        refine GOH ?_
        rw [show decide (((allN x).length : Int) = ((1 + (allsN x.kids).length : Nat) : Int)) = true from decide_eq_true (by omega)]
        refine GOH ?_
        exact endQ_mk (Post := [A]) (.inr rfl) (.tmp (by rfl) .nil) ⟨rfl, rfl⟩ (by exact IMx)
      rw [show decide ((j : Int) < (x.kids.length : Int)) = true from decide_eq_true (by omega)]
      obtain rfl := ha (by omega)
      obtain ⟨y, hy⟩ : ∃ y, x.kids[j]? = some y := ⟨_, List.getElem?_eq_getElem hj⟩
      have hym := hm j hj
      have hyr := hr j y hy
      have hyl := hyr.len
      have hyw : y.w ≤ 274877906944 := by
        have h1 := Nd.ws_mem (List.mem_of_getElem? hy)
        cases x
        simp only [Nd.w, Nd.kids] at hw h1
        omega
      have hys := Size_spec A y _ hyr hyw
      have hsum2 : allsN (x.kids.take (j + 1)) = allsN (x.kids.take j) ++ allN y := by
        rw [show x.kids.take (j + 1) = x.kids.take j ++ [y] by rw [List.take_add_one, hy]; rfl, allsN_append]; simp [allsN]
      have hpart2 : (allsN (x.kids.take (j + 1))).length ≤ (allsN x.kids).length := by
        have e : allsN x.kids = allsN (x.kids.take (j + 1)) ++ allsN (x.kids.drop (j + 1)) := by rw [← allsN_append, List.take_append_drop]
        rw [e, List.length_append]; omega
      rw [hsum2, List.length_append] at hpart2
      refine GOH ?_
      refine st_loadA (by rfl) (fun z hz => List.mem_append_right _ (List.mem_append_right _ (List.mem_append_left _ (hym z hz)))) hyl ?_
      refine GOH ?_
      refine st_call hys (by rfl) (by exact SPx) (fun v Post hv => ?_)
      obtain ⟨rfl, rfl⟩ := hv
      simp only [CNx]
      refine GOH ?_
      refine ⟨(j + 1, 1 + (allsN (x.kids.take (j + 1))).length), ⟨by simp only; omega, rfl⟩, by simp only; omega, ?_, by exact IMx⟩
      rw [hsum2, List.length_append]
      rw [show (((1 + ((allsN (x.kids.take j)).length + (allN y).length) : Nat) : Int)) = ((1 + (allsN (x.kids.take j)).length : Nat) : Int) + ((allN y).length : Int) by omega]
      exact SUx
open Go Go.V Go.ChangeShapes Go.WideShapes Go.Deep
section
variable {H : Type} {enc : TypeId × Value → H}
theorem u3 : Tryz.prog.underlying 3 = some (.int .i64) := by kernel_rfl
theorem u4 : Tryz.prog.underlying 4 = some .bool := by kernel_rfl
theorem u9 : Tryz.prog.underlying 9 = some .string := by kernel_rfl
theorem u22 : Tryz.prog.underlying 22 = some (.slice 9) := by kernel_rfl
theorem u23 : Tryz.prog.underlying 23 = some (.slice 48) := by kernel_rfl
theorem u44 : Tryz.prog.underlying 44 = some (.slice 46) := by kernel_rfl
noncomputable def fs46 : Array Field := match Tryz.prog.underlying 46 with | some (.struct fs) => fs | _ => #[]
theorem u46 : Tryz.prog.underlying 46 = some (.struct fs46) := by kernel_rfl
noncomputable def fs48 : Array Field := match Tryz.prog.underlying 48 with | some (.struct fs) => fs | _ => #[]
theorem u48 : Tryz.prog.underlying 48 = some (.struct fs48) := by kernel_rfl
theorem litT : LitT Tryz.prog 46 44 := ⟨⟨fs46, u46, by kernel_rfl, 42, 2, 43, 9, by kernel_rfl, by kernel_rfl, by kernel_rfl, by kernel_rfl, by kernel_rfl, by kernel_rfl, by kernel_rfl, by kernel_rfl, by kernel_rfl, by kernel_rfl⟩, by kernel_rfl, u44⟩
theorem nodT : NodT Tryz.prog 48 46 23 22 := ⟨⟨fs48, u48, by kernel_rfl, 41, 9, 3, by kernel_rfl, by kernel_rfl, by kernel_rfl, by kernel_rfl, by kernel_rfl, by kernel_rfl, by kernel_rfl, u22⟩, by kernel_rfl, by kernel_rfl, by kernel_rfl, by kernel_rfl, u23⟩
noncomputable def ms146 : Array (String × TypeId) := match Tryz.prog.underlying 146 with | some (.interface ms) => ms | _ => #[]
theorem u146 : Tryz.prog.underlying 146 = some (.interface ms146) := by kernel_rfl
theorem closedS : closedB Tryz.prog [2, 3, 4, 5, 9, 22, 23, 25, 41, 42, 43, 44, 46, 48, 62] = true := by kernel_rfl
theorem closedP : Closed Tryz.prog (· ∈ [2, 3, 4, 5, 9, 22, 23, 25, 41, 42, 43, 44, 46, 48, 62]) := closed_of closedS
theorem own : ownKnob Tryz.prog.godebug = none := by kernel_rfl
theorem bulk_one (d : DataW H) : 1 ≤ Rows.uptoBulk d := by
  cases d with
  | lit l => cases l <;> simp [Rows.uptoBulk]
  | _ => simp [Rows.uptoBulk]
theorem bulk_len (l : List (DataW H)) : l.length ≤ Rows.uptoBulkAll l := by
  induction l with
  | nil => simp
  | cons d r ih =>
    have := bulk_one d
    simp only [Rows.uptoBulkAll, List.length_cons]
    omega
theorem bulk_mem {d : DataW H} {l : List (DataW H)} (h : d ∈ l) : Rows.uptoBulk d ≤ Rows.uptoBulkAll l := by
  induction l with
  | nil => cases h
  | cons y r ih =>
    simp only [Rows.uptoBulkAll]
    rcases List.mem_cons.1 h with rfl | h
    · omega
    · have := ih h; omega
theorem bulk_sum (l : List (DataW H)) : (l.map Rows.uptoBulk).sum = Rows.uptoBulkAll l := by
  induction l with
  | nil => rfl
  | cons d r ih => simp only [List.map_cons, List.sum_cons, ih, Rows.uptoBulkAll]
theorem bulkB : Bulk (Rows.uptoBulk (H := H)) where
  agg l d h := by have := bulk_mem h; simp only [Rows.uptoBulk]; omega
  sl es sp d h := by have := bulk_mem h; simp only [Rows.uptoBulk]; omega
  len es sp := by have := bulk_len es; simp only [Rows.uptoBulk]; omega
  str bs := by simp only [Rows.uptoBulk]; omega
  sls es sp := by rw [bulk_sum]; simp only [Rows.uptoBulk]; omega
  aggs l := by rw [bulk_sum]; simp only [Rows.uptoBulk]; omega
theorem node_form {W : World} {base : Nat} {v : Value} (hv : Value.okWide Tryz.prog W .any base 48 v) : ∃ cs : List Value, v = .agg cs.toArray := by
  simp only [Value.okWide, u48] at hv
  obtain ⟨cs, rfl, _⟩ := hv
  exact ⟨cs.toList, by simp⟩
theorem gErr : Tryz.prog.globalNamed "strconv.ErrRange" = some 4 := by kernel_rfl
theorem gErrT : (Tryz.prog.globals[4]?).map (·.type) = some 146 := by kernel_rfl
theorem gRen : Tryz.sl174_ren.g 16 = 4 := by kernel_rfl
theorem err_in {W : World} {d : DataW Unit} {r : List (String × DataW Unit)} (h : laidMet Tryz.prog (("strconv.ErrRange", d) :: r) W) (hd : ∃ nm e, d = .iface nm e) {A : List Atom} (hA : ∀ a : Atom, a.holds W → a ∈ A) : ErA A := by
  obtain ⟨nm, e, rfl⟩ := hd
  obtain ⟨ps, ⟨g0, t0, cs0, f0, p0, q0, hg0, ht0, hv0, hd0, _, e0⟩, _, hrows⟩ := h
  obtain rfl := Option.some.inj (gErr.symm.trans hg0)
  obtain rfl := Option.some.inj (gErrT.symm.trans ht0)
  subst e0
  have hcs : ∃ te pe, cs0 = #[.iface te pe] := by
    obtain ⟨_, te, pe, he, _, _⟩ := iface_of_trod u146 hd0
    exact ⟨te, pe, by rw [← he]⟩
  obtain ⟨te, pe, rfl⟩ := hcs
  obtain ⟨⟨c, t, hc⟩, _⟩ := hrows 4 0 (by simp [MemPlace.row])
  refine ⟨.iface te pe, ?_, .inr ⟨te, pe, rfl⟩⟩
  rw [gRen]
  have hcell : W.cell? ⟨4, 0, none⟩ = some (.iface te pe) := by simpa using World.var?_cell gErr hv0 0
  refine hA _ (holds_cell hcell ?_)
  unfold World.frozen?
  rw [hc]
  simp
end
section
variable {H : Type} {enc : TypeId × Value → H}
theorem u62 : Tryz.prog.underlying 62 = some (.slice 5) := by kernel_rfl
theorem u5 : Tryz.prog.underlying 5 = some (.int .u8) := by kernel_rfl
theorem bytes_form {W : World} {base : Nat} {v : Value} {d : DataW H} {p : List MemPlace} (hv : Value.okWide Tryz.prog W .any base 62 v) (h : DataW.Trod enc Tryz.prog W 0 (fun _ => true) true 62 v d p) (hb : Rows.uptoBulk d ≤ 1048576) (hf : W.noneFrozen p) {A : List Atom} (hA : ∀ a : Atom, a.holds W → a ∈ A) : ∃ l : List Nat, RdB A v l := by
  obtain ⟨n, hn⟩ := h
  have hs : ∃ u, v.cells.toList = [u] ∧ v = u := by
    cases v <;> simp only [Value.okWide, u62, Cell.okWide, Cell.ok] at hv
    all_goals exact ⟨_, rfl, rfl⟩
  obtain ⟨u, hu, rfl⟩ := hs
  rw [hu] at hn
  exact rd_bytes (bulkB) u62 u5 (by kernel_rfl) hn hf hA hb
end
section
variable {H : Type} {enc : TypeId × Value → H}
theorem int_form {W : World} {base : Nat} {v : Value} {d : DataW H} {p : List MemPlace} (hv : Value.okWide Tryz.prog W .any base 3 v) (h : DataW.Trod enc Tryz.prog W 0 (fun _ => true) true 3 v d p) : ∃ n : Int, v = .int .i64 n ∧ -9223372036854775808 ≤ n ∧ n ≤ 9223372036854775807 := by
  obtain ⟨n, hn⟩ := h
  have hs : ∃ k z, v = .int k z := by
    cases v <;> simp only [Value.okWide, u3, Cell.okWide, Cell.ok] at hv
    exact ⟨_, _, rfl⟩
  obtain ⟨k, z, rfl⟩ := hs
  obtain ⟨m, hz, hx, hwf⟩ := DataW.trod_int u3 hn
  simp only [Value.cells, List.cons.injEq, Value.int.injEq, and_true] at hz
  obtain ⟨rfl, rfl⟩ := hz
  refine ⟨z, rfl, ?_⟩
  simp [Lit.wf] at hwf
  have e1 : IntKind.i64.min = -9223372036854775808 := by decide
  have e2 : IntKind.i64.max = 9223372036854775807 := by decide
  omega
end
end Go.Proofs.YtmnmandpdadedaaGreatDoor

/-
  What is handed in as a method.
-/
import Derived.Test.YtmnmandpdadedaaGreatDoorT18
import Derived.Test.YtmnmandpdadedaaGreatDoorT15
set_option linter.unusedSimpArgs false
set_option linter.unusedVariables false
namespace Go.Proofs.YtmnmandpdadedaaGreatDoor
open Go Go.V Go.ChangeShapes Go.WideShapes Go.Deep
set_option maxRecDepth 100000
section
variable {H : Type} {enc : TypeId × Value → H}
noncomputable def fs25 : Array Field := match Tryz.prog.underlying 25 with | some (.struct fs) => fs | _ => #[]
theorem u25 : Tryz.prog.underlying 25 = some (.struct fs25) := by kernel_rfl
theorem fs25s : fs25.size = 5 := by kernel_rfl
theorem fs25l : (fs25.toList.map fun f => (f.type, f.offset)) = [(9, 0), (22, 1), (22, 2), (3, 3), (23, 4)] := by kernel_rfl
theorem c9 : Tryz.prog.cellsOf 9 = 1 := by kernel_rfl
theorem c22 : Tryz.prog.cellsOf 22 = 1 := by kernel_rfl
theorem c3 : Tryz.prog.cellsOf 3 = 1 := by kernel_rfl
theorem c23 : Tryz.prog.cellsOf 23 = 1 := by kernel_rfl
theorem c25 : Tryz.prog.cellsOf 25 = 5 := by kernel_rfl
theorem c48 : Tryz.prog.cellsOf 48 = 11 := by kernel_rfl
theorem md_form {W : World} {base : Nat} {v : Value} (hv : Value.okWide Tryz.prog W .any base 25 v) : ∃ cs : List Value, v = .agg cs.toArray := by
  simp only [Value.okWide, u25] at hv
  obtain ⟨cs, rfl, _⟩ := hv
  exact ⟨cs.toList, by simp⟩
theorem rd_md {W : World} {A : List Atom} (hA : ∀ a : Atom, a.holds W → a ∈ A) (n : Nat) (cs : List Value) (x : DataW H × List MemPlace) (hN : Rows.uptoBulk x.1 ≤ 1048576) (h : DataW.trod enc Tryz.prog W 0 (fun _ => true) true n 25 cs = some x) (hf : W.noneFrozen x.2) : ∃ m : Md, MdW A m cs ∧ Nd.ws m.body ≤ Rows.uptoBulk x.1 := by
  obtain ⟨ys, k, _, rfl, hlen, hyl, hfld⟩ := DataW.trod_struct u25 h
  rw [c25] at hlen
  replace hN : Rows.uptoBulk (.agg (ys.map (·.1))) ≤ 1048576 := hN
  have hget : ∀ (i : Nat) (ty off : Nat), (fs25.toList.map fun f => (f.type, f.offset))[i]? = some (ty, off) → DataW.trod enc Tryz.prog W 0 (fun _ => true) true k ty ((cs.drop off).take (Tryz.prog.cellsOf ty)) = ys[i]? := fun i ty off hi => by
    rw [List.getElem?_map] at hi
    obtain ⟨f, hf1, hf2⟩ := Option.map_eq_some_iff.1 hi
    cases hf2
    exact hfld i f (by rw [← hf1, Array.getElem?_toList])
  have hyl5 : ys.length = 5 := by rw [hyl]; exact fs25s
  have hys : ∀ i, i < 5 → ys[i]? = some (ys.getD i (.nil, [])) := fun i hi => by
    rw [List.getD_eq_getElem?_getD, List.getElem?_eq_getElem (by omega)]; rfl
  have g0 := (hget 0 9 0 (by rw [fs25l]; rfl)).trans (hys 0 (by omega))
  have g1 := (hget 1 22 1 (by rw [fs25l]; rfl)).trans (hys 1 (by omega))
  have g2 := (hget 2 22 2 (by rw [fs25l]; rfl)).trans (hys 2 (by omega))
  have g3 := (hget 3 3 3 (by rw [fs25l]; rfl)).trans (hys 3 (by omega))
  have g4 := (hget 4 23 4 (by rw [fs25l]; rfl)).trans (hys 4 (by omega))
  rw [c9] at g0; rw [c22] at g1 g2; rw [c3] at g3; rw [c23] at g4
  obtain ⟨s, e0, d0, _⟩ := DataW.trod_string u9 g0
  obtain ⟨z3, e3, _, w3⟩ := DataW.trod_int u3 g3
  have hlt : ∀ i, i < 5 → Rows.uptoBulk (ys.getD i (.nil, [])).1 < Rows.uptoBulk (.agg (ys.map (·.1))) := fun i hi => bulkB.agg _ _ (List.mem_map.2 ⟨_, List.mem_of_getElem? (hys i hi), rfl⟩)
  have hfr : ∀ i, i < 5 → W.noneFrozen (ys.getD i (.nil, [])).2 := fun i hi b o hbo => hf b o (flat_sub (hys i hi) hbo)
  obtain ⟨v1, e1⟩ : ∃ v, (cs.drop 1).take 1 = [v] := List.length_eq_one_iff.1 (by simp; omega)
  obtain ⟨v2, e2⟩ : ∃ v, (cs.drop 2).take 1 = [v] := List.length_eq_one_iff.1 (by simp; omega)
  obtain ⟨v4, e4⟩ : ∃ v, (cs.drop 4).take 1 = [v] := List.length_eq_one_iff.1 (by simp; omega)
  rw [e1] at g1; rw [e2] at g2; rw [e4] at g4
  have l1 := hlt 1 (by omega)
  have l2 := hlt 2 (by omega)
  have l4 := hlt 4 (by omega)
  obtain ⟨args, hargs, hargl⟩ := rd_texts bulkB u22 u9 c9 g1 (hfr 1 (by omega)) hA (by omega)
  obtain ⟨temps, htemps, htempl⟩ := rd_texts bulkB u22 u9 c9 g2 (hfr 2 (by omega)) hA (by omega)
  obtain ⟨a, kk, c, bk, o, us, D, Pl, m, rfl, ⟨hk, hks, hkc⟩, ha, hi⟩ := rd_rows bulkB u23 c48 (by decide) g4 (hfr 4 (by omega)) hA
  obtain ⟨l, hl, hq⟩ := choose_rows (α := Nd) (Q := fun i y => NdRd A y (us i) ∧ y.w ≤ Rows.uptoBulk (D i)) (n := kk) (fun i hik => by
    obtain ⟨q1, _, _, q4, q5⟩ := hi i hik
    exact rd_node bulkB nodT litT hA (Rows.uptoBulk (D i)) m (us i) (D i, Pl i) (Nat.le_refl _) (by omega) q4 q5)
  have b3 := wf_i64 w3
  have hs0 : s.size ≤ 1048576 := by
    have h3 := hlt 0 (by omega)
    have e : (ys.getD 0 (.nil, [])).1 = .lit (.string s.data.toList) := congrArg Prod.fst d0
    rw [e] at h3
    have h5 := bulkB.str (H := H) s.data.toList
    have e2 : s.data.toList.length = s.size := by simp
    omega
  have hsz4 : Nd.ws l ≤ Rows.uptoBulk (ys.getD 4 (.nil, [])).1 := by
    refine Nat.le_trans (Nd.ws_le (f := fun i => Rows.uptoBulk (D i)) (o := 0) (fun i x hx => ?_)) ?_
    · rw [Nat.zero_add]; exact (hq i x hx).2
    · rw [hl]; exact hks
  have hcs : cs = [.string s, v1, v2, vi z3, .slice a l.length c] := by
    have p0 := take_one e0
    have p1 := take_one e1
    have p2 := take_one e2
    have p3 := take_one e3
    have p4 := take_one e4
    obtain ⟨a0, a1, a2, a3, a4, rfl⟩ : ∃ a0 a1 a2 a3 a4, cs = [a0, a1, a2, a3, a4] := by
      match cs, hlen with
      | [a0, a1, a2, a3, a4], _ => exact ⟨a0, a1, a2, a3, a4, rfl⟩
    simp only [List.getElem?_cons_zero, List.getElem?_cons_succ, Option.some.injEq] at p0 p1 p2 p3 p4
    rw [p0, p1, p2, p3, p4, hl]
  have hargs2 := hargs
  have htemps2 := htemps
  obtain ⟨aa, ac, rfl, _, _⟩ := hargs2
  obtain ⟨ta, tc, rfl, _, _⟩ := htemps2
  refine ⟨⟨s, args, temps, z3, l⟩, ⟨⟨aa, ac, ta, tc, a, c, bk, o, us, hcs, hargs, htemps, ⟨fun hp => ha (by simp only at hp; omega), by simp only; omega, fun i hi' => (hi i (by simp only at hi'; omega)).2.2.1, fun i x hx => (hq i x hx).1⟩⟩, by simp only; omega, b3⟩, ?_⟩
  show Nd.ws l ≤ Rows.uptoBulk (.agg (ys.map (·.1)))
  omega
end
end Go.Proofs.YtmnmandpdadedaaGreatDoor

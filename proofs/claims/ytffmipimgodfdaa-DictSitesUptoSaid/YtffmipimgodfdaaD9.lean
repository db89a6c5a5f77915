/-
  What the examples fix.
-/
import Derived.Test.YtffmipimgodfdaaD8
namespace Go.Proofs.Ytffmipimgodfdaa
open Go Go.V
set_option maxHeartbeats 1600000
set_option maxRecDepth 100000
set_option linter.unusedSimpArgs false
set_option linter.unusedVariables false
def foo : ByteArray := ⟨#[102, 111, 111]⟩

theorem works_spec : Fun Try.prog 7 [] [] (fun v Post => v = .bool true ∧ Post = []) := by
  refine Fun.intro low7 (by simp [F7]) ?_
  refine GO ?_
  refine st_bslice (out := [vi (-1), vi 0, vi 1]) (by rfl) (by rfl) (fun q => ?_)
  have hA : RdInts (cellsAt q 0 [vi (-1), vi 0, vi 1]) (.slice (some ⟨q, 0, none⟩) 3 3) [-1, 0, 1] := .inr ⟨q, 0, 3, rfl, fun i x hx => mem_cellsAt.2 ⟨i, vi x, by
    rw [show [vi (-1), vi 0, vi 1] = [-1, 0, 1].map vi from rfl, List.getElem?_map, hx]; rfl, rfl⟩⟩
  refine st_call (new_spec _ _ _ hA (by decide)) (by rfl) (by (focus ((repeat (first | exact Spl.nil | (apply Spl.cons; (focus ((repeat (first | with_reducible exact Tk.here | apply Tk.there)); done))))); done))) (fun v Post hv => ?_)
  have hok : NewOk [-1, 0, 1] := by
    refine ⟨by decide, fun i s hs => ?_⟩
    match i, hs with
    | 0, hs => cases hs; decide
    | 1, hs => cases hs; decide
    | 2, hs => cases hs; decide
  rcases hv with hv | ⟨hn, _⟩
  rotate_left
  · exact absurd hok hn
  obtain ⟨_, t, R0, hf, rfl, rfl⟩ := hv
  obtain ⟨f0, a0⟩ := hf.fine
  have q0 : Quiet R0 := fun k hk => by rw [hf.glob] at hk; exact (List.mem_replicate.1 hk).2
  have z0 : R0.tel = {} := hf.tel
  rw [List.append_nil]
  refine VO.imp Imp.tail1 ?_
  refine GO ?_
  refine st_call (install_spec t R0 0 foo 7 hf.wf (by decide)) (by rfl) (R := []) (by simp [V.Spl]) (fun v Post hv => ?_)
  obtain ⟨rfl, R1, f1, a1, rfl, l1, q1⟩ := inst_abs f0 hv
  have e1 : instE R0.abs 0 foo = 0 := by rw [a0]; decide +kernel
  have b1 : R1.abs = ⟨[-1, 0, 1], [[(foo, 7)], [], []], 0⟩ := by rw [a1, a0]; decide +kernel
  rw [List.append_nil, e1]
  refine GO ?_
  have p1 : plain R1 2 foo = (some 7, 3) := by rw [plain_abs, b1]; decide +kernel
  have s1 : R1.sup = [-1, 0, 1] := congrArg Abs.sup b1
  obtain ⟨v1, v2, v3⟩ := look_twice f1.wf (q1 q0) (c := 2) (s := foo) (by rw [s1]; decide) (by decide +kernel) p1
  obtain ⟨_, f2, a2⟩ := look_abs R1 0 f1 2 foo
  obtain ⟨_, f3, a3⟩ := look_abs _ _ f2 2 foo
  refine st_call (lookup_full t R1 0 2 foo f1 (by decide) (by decide)) (by rfl) (R := []) (by simp [V.Spl]) (fun v Post hv => ?_)
  obtain ⟨rfl, rfl⟩ := hv
  rw [List.append_nil, v1]
  simp only [okM, Option.getD_some, Option.isSome_some]
  refine GO ?_
  refine st_call (lookup_full t _ 1 2 foo f2 (by decide) (by decide)) (by rfl) (R := []) (by simp [V.Spl]) (fun v Post hv => ?_)
  obtain ⟨rfl, rfl⟩ := hv
  rw [List.append_nil, v2]
  generalize (lookR (lookR R1 2 foo).2 2 foo).2 = R3 at v3 f3 a3 ⊢
  have b3 : R3.abs = ⟨[-1, 0, 1], [[(foo, 7)], [], []], 2⟩ := by rw [a3, a2, b1]; decide +kernel
  have w3 : R3.tel = ⟨2, 0, 1, 1, 3⟩ := by rw [v3, l1, z0]
  simp only [okM, Option.getD_some, Option.isSome_some]
  refine GO ?_
  refine st_call (counts_full t R3) (by rfl) (R := []) (by simp [V.Spl]) (fun v Post hv => ?_)
  obtain ⟨rfl, rfl⟩ := hv
  rw [List.append_nil, w3]
  simp only [telEnc]
  refine GO ?_
  refine st_alloc (fun q6 => ?_)
  refine GO ?_
  refine st_call (install_spec t R3 1 foo 8 f3.wf (by decide)) (by rfl) Spl.tail1 (fun v Post hv => ?_)
  obtain ⟨rfl, R4, f4, a4, rfl, _, _⟩ := inst_abs f3 hv
  have e4 : instE R3.abs 1 foo = 0 := by rw [b3]; decide +kernel
  have b4 : R4.abs = ⟨[-1, 0, 1], [[(foo, 7)], [(foo, 8)], []], 2⟩ := by rw [a4, b3]; decide +kernel
  rw [e4]
  refine GO ?_
  obtain ⟨g5, f5, a5⟩ := look_abs R4 2 f4 2 foo
  have v5 : (lookR R4 2 foo).1 = some 8 := by rw [g5, b4]; decide +kernel
  refine st_call (lookup_full t R4 2 2 foo f4 (by decide) (by decide)) (by rfl) (Spl.right (I := Full t R4)) (fun v Post hv => ?_)
  obtain ⟨rfl, rfl⟩ := hv
  rw [v5]
  generalize (lookR R4 2 foo).2 = R5 at f5 a5 ⊢
  have b5 : R5.abs = ⟨[-1, 0, 1], [[(foo, 7)], [(foo, 8)], []], 3⟩ := by rw [a5, b4]; decide +kernel
  simp only [okM, Option.getD_some, Option.isSome_some]
  refine GO ?_
  refine st_bslice (out := [vi 0]) (by rfl) (by rfl) (fun q2 => ?_)
  have hB : RdInts (cellsAt q2 0 [vi 0]) (.slice (some ⟨q2, 0, none⟩) 1 1) [0] := .inr ⟨q2, 0, 1, rfl, fun i x hx => mem_cellsAt.2 ⟨i, vi x, by
    rw [show [vi 0] = [0].map vi from rfl, List.getElem?_map, hx]; rfl, rfl⟩⟩
  refine st_call (new_spec _ _ _ hB (by decide)) (by rfl) (R := Full t R5 ++ [cellsAt q6 0 [vi 2, vi 0, vi 1, vi 1, vi 3]]) (by simp [V.Spl]) (fun v Post hv => ?_)
  rcases hv with hv | hv
  · exact absurd (hv.1.2 0 0 rfl).2 (by decide)
  obtain ⟨_, rfl, rfl⟩ := hv
  refine VO.imp Imp.tail1 ?_
  refine GO ?_
  refine st_call (send_spec t R5 (-1) 0 foo f5.wf 3 (by decide) f5.tel (by decide)) (by rfl) (R := [cellsAt q6 0 [vi 2, vi 0, vi 1, vi 1, vi 3]]) (by simp [V.Spl]) (fun v Post hv => ?_)
  obtain ⟨rfl, R6, f6, a6, rfl⟩ := send_abs f5 hv
  have e6 : sendE R5.abs (-1) 0 = 224 := by rw [b5]; decide +kernel
  have b6 : R6.abs = ⟨[-1, 0, 1], [[(foo, 7)], [(foo, 8)], []], 3⟩ := by rw [a6, b5]; decide +kernel
  rw [e6]
  simp only [okE]
  refine GO ?_
  refine st_call (remove_spec t R6 2 foo f6.wf (by decide)) (by rfl) (R := [cellsAt q6 0 [vi 2, vi 0, vi 1, vi 1, vi 3]]) (by simp [V.Spl]) (fun v Post hv => ?_)
  obtain ⟨rfl, R7, f7, a7, rfl⟩ := rem_abs f6 hv
  have e7 : remE R6.abs 2 foo = 223 := by rw [b6]; decide +kernel
  have b7 : R7.abs = ⟨[-1, 0, 1], [[(foo, 7)], [(foo, 8)], []], 3⟩ := by rw [a7, b6]; decide +kernel
  rw [e7]
  refine GO ?_
  refine st_call (install_spec t R7 0 ⟨#[]⟩ 1 f7.wf (by decide)) (by rfl) (R := [cellsAt q6 0 [vi 2, vi 0, vi 1, vi 1, vi 3]]) (by simp [V.Spl]) (fun v Post hv => ?_)
  obtain ⟨rfl, R8, f8, a8, rfl, _, _⟩ := inst_abs f7 hv
  have e8 : instE R7.abs 0 ⟨#[]⟩ = 221 := by rw [b7]; decide +kernel
  rw [e8]
  refine GO ?_
  exact endQ_mk (.inr rfl) (.tmp (by rfl) .nil) ⟨rfl, rfl⟩ Imp.nil
end Go.Proofs.Ytffmipimgodfdaa

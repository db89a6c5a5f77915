/-
  The outside world: the calls.
-/
import Derived.Test.YtklkngccaemjdaaXA
import Derived.Test.YtklkngccaemjdaaXF
import Derived.Test.YtklkngccaemjdaaXH
set_option linter.unusedSimpArgs false
set_option linter.unusedVariables false
namespace Go.Proofs.Ytklkngccaemjdaa
open Go Go.V
set_option maxHeartbeats 6400000
set_option maxRecDepth 100000
set_option linter.unusedSimpArgs false
set_option linter.unusedVariables false

theorem open_spec (t : Nat) (w : WR) (a : AW) (M : Nat) (hM : M + 1 ≤ 1073741823) (hR : Rep w a M) (s : ByteArray) (hs : s.size ≤ 4611686018427387904) (mode : Int) :
    Fun Try.prog 11 [ptr0 t, .string s, vi mode] (WMem t w) (fun v Post => ∃ w', Rep w' (openM s mode a).2.2 (M + 1) ∧ v = .tuple #[vi (openM s mode a).1.handle, vi (openM s mode a).2.1] ∧ Post = WMem t w') := by
  refine Fun.intro low11 (by simp [F11]) ?_
  simp only [WMem]
  refine GO ?_
  refine st_box (by rfl) (fun b3 => ?_)
  refine st_box (by rfl) (fun b4 => ?_)
  refine st_box (by rfl) (fun b5 => ?_)
  try simp only [Value.cells]
  refine GO ?_
  have hf := filedR t w a M (deOpen s mode) (.func (.func 32) #[] #[ptr0 b3, ptr0 b4, ptr0 b5]) (List.flatten [cellsAt b3 0 [ptr0 t], cellsAt b4 0 [.string s], cellsAt b5 0 [vi mode]]) (fun a => openF s mode (deOpen s mode) a) hR hM openF_trace rfl rfl (fun w1 q h1 => ?_)
  rotate_left
  · refine (FunV.of_fun (first := #[]) (cap := #[ptr0 b3, ptr0 b4, ptr0 b5]) (args := [ptr0 q]) (open1_spec t w1 (takeA a) M (by omega) h1 s mode hs q b3 b4 b5 (deOpen s mode))).conv (R := []) (spl_lastL _ [cellsAt b3 0 [ptr0 t], cellsAt b4 0 [.string s], cellsAt b5 0 [vi mode]] _) ?_
    rintro v Post ⟨w2, rfl, h2, rfl⟩
    exact ⟨_, ⟨w2, rfl, h2, rfl⟩, imp_lastQ _ [cellsAt b3 0 [ptr0 t], cellsAt b4 0 [.string s], cellsAt b5 0 [vi mode]] _⟩
  refine VO.imp (H' := WMem t w ++ [List.flatten [cellsAt b3 0 [ptr0 t], cellsAt b4 0 [.string s], cellsAt b5 0 [vi mode]]]) ?_ ?_
  · exact Imp.cut (M := WMem t w ++ [cellsAt b3 0 [ptr0 t], cellsAt b4 0 [.string s], cellsAt b5 0 [vi mode]]) (by simp only [WMem, List.cons_append, List.nil_append]; (first | with_reducible exact Imp.refl | with_reducible exact Imp.left | (focus ((try simp only [List.nil_append]); (repeat (first | exact Imp.nil | (apply Imp.cons; (focus ((repeat (first | with_reducible exact Tk.here | apply Tk.there)); done))))); done)))) (imp_lastL _ _)
  refine st_call hf (by rfl) (spl_self _) (fun v Post hv => ?_)
  obtain ⟨w', hR', rfl, rfl⟩ := hv
  have hEq : (openM s mode a) = deedA a (deOpen s mode) (faultA (deOpen s mode) (fun a => openF s mode (deOpen s mode) a)) := rfl
  rw [← hEq] at hR' ⊢
  generalize (openM s mode a) = r at hR' ⊢
  simp only [WMem, List.append_nil, List.cons_append, List.nil_append]
  refine GO ?_
  refine st_alloc (fun p7 => ?_)
  simp only [deEnc]
  refine GO ?_
  exact endQ_mk (Post := WMem t w') (.inr rfl) (.tmp (by rfl) (.tmp (by rfl) .nil)) ⟨w', hR', rfl, rfl⟩ (by simp only [WMem]; (first | with_reducible exact Imp.refl | with_reducible exact Imp.left | (focus ((try simp only [List.nil_append]); (repeat (first | exact Imp.nil | (apply Imp.cons; (focus ((repeat (first | with_reducible exact Tk.here | apply Tk.there)); done))))); done))))

theorem write_spec (t : Nat) (w : WR) (a : AW) (M : Nat) (hM : M + 1 ≤ 1073741823) (hR : Rep w a M) (n : Int) (s : ByteArray) (hs : s.size ≤ 4611686018427387904) :
    Fun Try.prog 13 [ptr0 t, vi n, .string s] (WMem t w) (fun v Post => ∃ w', Rep w' (writeM n s a).2.2 (M + 1) ∧ v = vi (writeM n s a).2.1 ∧ Post = WMem t w') := by
  refine Fun.intro low13 (by simp [F13]) ?_
  simp only [WMem]
  refine GO ?_
  refine st_box (by rfl) (fun b3 => ?_)
  refine st_box (by rfl) (fun b4 => ?_)
  refine st_box (by rfl) (fun b5 => ?_)
  try simp only [Value.cells]
  refine GO ?_
  have hf := filedR t w a M (deWrite n s) (.func (.func 39) #[] #[ptr0 b3, ptr0 b4, ptr0 b5]) (List.flatten [cellsAt b3 0 [ptr0 t], cellsAt b4 0 [vi n], cellsAt b5 0 [.string s]]) (fun a => writeF n s (deWrite n s) a) hR hM writeF_trace rfl rfl (fun w1 q h1 => ?_)
  rotate_left
  · refine (FunV.of_fun (first := #[]) (cap := #[ptr0 b3, ptr0 b4, ptr0 b5]) (args := [ptr0 q]) (write1_spec t w1 (takeA a) M (by omega) h1 n s hs q b3 b4 b5 (deWrite n s))).conv (R := []) (spl_lastL _ [cellsAt b3 0 [ptr0 t], cellsAt b4 0 [vi n], cellsAt b5 0 [.string s]] _) ?_
    rintro v Post ⟨w2, rfl, h2, rfl⟩
    exact ⟨_, ⟨w2, rfl, h2, rfl⟩, imp_lastQ _ [cellsAt b3 0 [ptr0 t], cellsAt b4 0 [vi n], cellsAt b5 0 [.string s]] _⟩
  refine VO.imp (H' := WMem t w ++ [List.flatten [cellsAt b3 0 [ptr0 t], cellsAt b4 0 [vi n], cellsAt b5 0 [.string s]]]) ?_ ?_
  · exact Imp.cut (M := WMem t w ++ [cellsAt b3 0 [ptr0 t], cellsAt b4 0 [vi n], cellsAt b5 0 [.string s]]) (by simp only [WMem, List.cons_append, List.nil_append]; (first | with_reducible exact Imp.refl | with_reducible exact Imp.left | (focus ((try simp only [List.nil_append]); (repeat (first | exact Imp.nil | (apply Imp.cons; (focus ((repeat (first | with_reducible exact Tk.here | apply Tk.there)); done))))); done)))) (imp_lastL _ _)
  refine st_call hf (by rfl) (spl_self _) (fun v Post hv => ?_)
  obtain ⟨w', hR', rfl, rfl⟩ := hv
  have hEq : (writeM n s a) = deedA a (deWrite n s) (faultA (deWrite n s) (fun a => writeF n s (deWrite n s) a)) := rfl
  rw [← hEq] at hR' ⊢
  generalize (writeM n s a) = r at hR' ⊢
  simp only [WMem, List.append_nil, List.cons_append, List.nil_append]
  refine GO ?_
  refine st_alloc (fun p7 => ?_)
  simp only [deEnc]
  refine GO ?_
  exact endQ_mk (Post := WMem t w') (.inr rfl) (.tmp (by rfl) .nil) ⟨w', hR', rfl, rfl⟩ (by simp only [WMem]; (first | with_reducible exact Imp.refl | with_reducible exact Imp.left | (focus ((try simp only [List.nil_append]); (repeat (first | exact Imp.nil | (apply Imp.cons; (focus ((repeat (first | with_reducible exact Tk.here | apply Tk.there)); done))))); done))))

theorem sync_spec (t : Nat) (w : WR) (a : AW) (M : Nat) (hM : M + 1 ≤ 1073741823) (hR : Rep w a M) (n : Int) :
    Fun Try.prog 16 [ptr0 t, vi n] (WMem t w) (fun v Post => ∃ w', Rep w' (syncM n a).2.2 (M + 1) ∧ v = vi (syncM n a).2.1 ∧ Post = WMem t w') := by
  refine Fun.intro low16 (by simp [F16]) ?_
  simp only [WMem]
  refine GO ?_
  refine st_box (by rfl) (fun b3 => ?_)
  refine st_box (by rfl) (fun b4 => ?_)
  try simp only [Value.cells]
  refine GO ?_
  have hf := filedR t w a M (deSync n) (.func (.func 41) #[] #[ptr0 b3, ptr0 b4]) (List.flatten [cellsAt b3 0 [ptr0 t], cellsAt b4 0 [vi n]]) (fun a => syncF n (deSync n) a) hR hM syncF_trace rfl rfl (fun w1 q h1 => ?_)
  rotate_left
  · refine (FunV.of_fun (first := #[]) (cap := #[ptr0 b3, ptr0 b4]) (args := [ptr0 q]) (sync1_spec t w1 (takeA a) M (by omega) h1 n q b3 b4 (deSync n))).conv (R := []) (spl_lastL _ [cellsAt b3 0 [ptr0 t], cellsAt b4 0 [vi n]] _) ?_
    rintro v Post ⟨w2, rfl, h2, rfl⟩
    exact ⟨_, ⟨w2, rfl, h2, rfl⟩, imp_lastQ _ [cellsAt b3 0 [ptr0 t], cellsAt b4 0 [vi n]] _⟩
  refine VO.imp (H' := WMem t w ++ [List.flatten [cellsAt b3 0 [ptr0 t], cellsAt b4 0 [vi n]]]) ?_ ?_
  · exact Imp.cut (M := WMem t w ++ [cellsAt b3 0 [ptr0 t], cellsAt b4 0 [vi n]]) (by simp only [WMem, List.cons_append, List.nil_append]; (first | with_reducible exact Imp.refl | with_reducible exact Imp.left | (focus ((try simp only [List.nil_append]); (repeat (first | exact Imp.nil | (apply Imp.cons; (focus ((repeat (first | with_reducible exact Tk.here | apply Tk.there)); done))))); done)))) (imp_lastL _ _)
  refine st_call hf (by rfl) (spl_self _) (fun v Post hv => ?_)
  obtain ⟨w', hR', rfl, rfl⟩ := hv
  have hEq : (syncM n a) = deedA a (deSync n) (faultA (deSync n) (fun a => syncF n (deSync n) a)) := rfl
  rw [← hEq] at hR' ⊢
  generalize (syncM n a) = r at hR' ⊢
  simp only [WMem, List.append_nil, List.cons_append, List.nil_append]
  refine GO ?_
  refine st_alloc (fun p7 => ?_)
  simp only [deEnc]
  refine GO ?_
  exact endQ_mk (Post := WMem t w') (.inr rfl) (.tmp (by rfl) .nil) ⟨w', hR', rfl, rfl⟩ (by simp only [WMem]; (first | with_reducible exact Imp.refl | with_reducible exact Imp.left | (focus ((try simp only [List.nil_append]); (repeat (first | exact Imp.nil | (apply Imp.cons; (focus ((repeat (first | with_reducible exact Tk.here | apply Tk.there)); done))))); done))))

theorem close_spec (t : Nat) (w : WR) (a : AW) (M : Nat) (hM : M + 1 ≤ 1073741823) (hR : Rep w a M) (n : Int) :
    Fun Try.prog 17 [ptr0 t, vi n] (WMem t w) (fun v Post => ∃ w', Rep w' (closeM n a).2.2 (M + 1) ∧ v = vi (closeM n a).2.1 ∧ Post = WMem t w') := by
  refine Fun.intro low17 (by simp [F17]) ?_
  simp only [WMem]
  refine GO ?_
  refine st_box (by rfl) (fun b3 => ?_)
  refine st_box (by rfl) (fun b4 => ?_)
  try simp only [Value.cells]
  refine GO ?_
  have hf := filedR t w a M (deClose n) (.func (.func 43) #[] #[ptr0 b3, ptr0 b4]) (List.flatten [cellsAt b3 0 [ptr0 t], cellsAt b4 0 [vi n]]) (fun a => closeF n (deClose n) a) hR hM closeF_trace rfl rfl (fun w1 q h1 => ?_)
  rotate_left
  · refine (FunV.of_fun (first := #[]) (cap := #[ptr0 b3, ptr0 b4]) (args := [ptr0 q]) (close1_spec t w1 (takeA a) M (by omega) h1 n q b3 b4 (deClose n))).conv (R := []) (spl_lastL _ [cellsAt b3 0 [ptr0 t], cellsAt b4 0 [vi n]] _) ?_
    rintro v Post ⟨w2, rfl, h2, rfl⟩
    exact ⟨_, ⟨w2, rfl, h2, rfl⟩, imp_lastQ _ [cellsAt b3 0 [ptr0 t], cellsAt b4 0 [vi n]] _⟩
  refine VO.imp (H' := WMem t w ++ [List.flatten [cellsAt b3 0 [ptr0 t], cellsAt b4 0 [vi n]]]) ?_ ?_
  · exact Imp.cut (M := WMem t w ++ [cellsAt b3 0 [ptr0 t], cellsAt b4 0 [vi n]]) (by simp only [WMem, List.cons_append, List.nil_append]; (first | with_reducible exact Imp.refl | with_reducible exact Imp.left | (focus ((try simp only [List.nil_append]); (repeat (first | exact Imp.nil | (apply Imp.cons; (focus ((repeat (first | with_reducible exact Tk.here | apply Tk.there)); done))))); done)))) (imp_lastL _ _)
  refine st_call hf (by rfl) (spl_self _) (fun v Post hv => ?_)
  obtain ⟨w', hR', rfl, rfl⟩ := hv
  have hEq : (closeM n a) = deedA a (deClose n) (faultA (deClose n) (fun a => closeF n (deClose n) a)) := rfl
  rw [← hEq] at hR' ⊢
  generalize (closeM n a) = r at hR' ⊢
  simp only [WMem, List.append_nil, List.cons_append, List.nil_append]
  refine GO ?_
  refine st_alloc (fun p7 => ?_)
  simp only [deEnc]
  refine GO ?_
  exact endQ_mk (Post := WMem t w') (.inr rfl) (.tmp (by rfl) .nil) ⟨w', hR', rfl, rfl⟩ (by simp only [WMem]; (first | with_reducible exact Imp.refl | with_reducible exact Imp.left | (focus ((try simp only [List.nil_append]); (repeat (first | exact Imp.nil | (apply Imp.cons; (focus ((repeat (first | with_reducible exact Tk.here | apply Tk.there)); done))))); done))))

theorem rename_spec (t : Nat) (w : WR) (a : AW) (M : Nat) (hM : M + 1 ≤ 1073741823) (hR : Rep w a M) (s s2 : ByteArray) (hs : s.size ≤ 4611686018427387904) (hs2 : s2.size ≤ 4611686018427387904) :
    Fun Try.prog 18 [ptr0 t, .string s, .string s2] (WMem t w) (fun v Post => ∃ w', Rep w' (renameM s s2 a).2.2 (M + 1) ∧ v = vi (renameM s s2 a).2.1 ∧ Post = WMem t w') := by
  refine Fun.intro low18 (by simp [F18]) ?_
  simp only [WMem]
  refine GO ?_
  refine st_box (by rfl) (fun b3 => ?_)
  refine st_box (by rfl) (fun b4 => ?_)
  refine st_box (by rfl) (fun b5 => ?_)
  try simp only [Value.cells]
  refine GO ?_
  have hf := filedR t w a M (deRename s s2) (.func (.func 45) #[] #[ptr0 b3, ptr0 b4, ptr0 b5]) (List.flatten [cellsAt b3 0 [ptr0 t], cellsAt b4 0 [.string s], cellsAt b5 0 [.string s2]]) (fun a => renameF s s2 (deRename s s2) a) hR hM renameF_trace rfl rfl (fun w1 q h1 => ?_)
  rotate_left
  · refine (FunV.of_fun (first := #[]) (cap := #[ptr0 b3, ptr0 b4, ptr0 b5]) (args := [ptr0 q]) (rename1_spec t w1 (takeA a) M (by omega) h1 s s2 hs hs2 q b3 b4 b5 (deRename s s2))).conv (R := []) (spl_lastL _ [cellsAt b3 0 [ptr0 t], cellsAt b4 0 [.string s], cellsAt b5 0 [.string s2]] _) ?_
    rintro v Post ⟨w2, rfl, h2, rfl⟩
    exact ⟨_, ⟨w2, rfl, h2, rfl⟩, imp_lastQ _ [cellsAt b3 0 [ptr0 t], cellsAt b4 0 [.string s], cellsAt b5 0 [.string s2]] _⟩
  refine VO.imp (H' := WMem t w ++ [List.flatten [cellsAt b3 0 [ptr0 t], cellsAt b4 0 [.string s], cellsAt b5 0 [.string s2]]]) ?_ ?_
  · exact Imp.cut (M := WMem t w ++ [cellsAt b3 0 [ptr0 t], cellsAt b4 0 [.string s], cellsAt b5 0 [.string s2]]) (by simp only [WMem, List.cons_append, List.nil_append]; (first | with_reducible exact Imp.refl | with_reducible exact Imp.left | (focus ((try simp only [List.nil_append]); (repeat (first | exact Imp.nil | (apply Imp.cons; (focus ((repeat (first | with_reducible exact Tk.here | apply Tk.there)); done))))); done)))) (imp_lastL _ _)
  refine st_call hf (by rfl) (spl_self _) (fun v Post hv => ?_)
  obtain ⟨w', hR', rfl, rfl⟩ := hv
  have hEq : (renameM s s2 a) = deedA a (deRename s s2) (faultA (deRename s s2) (fun a => renameF s s2 (deRename s s2) a)) := rfl
  rw [← hEq] at hR' ⊢
  generalize (renameM s s2 a) = r at hR' ⊢
  simp only [WMem, List.append_nil, List.cons_append, List.nil_append]
  refine GO ?_
  refine st_alloc (fun p7 => ?_)
  simp only [deEnc]
  refine GO ?_
  exact endQ_mk (Post := WMem t w') (.inr rfl) (.tmp (by rfl) .nil) ⟨w', hR', rfl, rfl⟩ (by simp only [WMem]; (first | with_reducible exact Imp.refl | with_reducible exact Imp.left | (focus ((try simp only [List.nil_append]); (repeat (first | exact Imp.nil | (apply Imp.cons; (focus ((repeat (first | with_reducible exact Tk.here | apply Tk.there)); done))))); done))))
end Go.Proofs.Ytklkngccaemjdaa

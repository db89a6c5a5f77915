/-
  The outside world: the calls.
-/
import Derived.Test.YtgindbomnbojeaaGreatP3
import Derived.Test.YtgindbomnbojeaaGreatP5
set_option linter.unusedSimpArgs false
set_option linter.unusedVariables false
namespace Go.Proofs.YtgindbomnbojeaaGreat
open Go Go.V
set_option maxHeartbeats 6400000
set_option maxRecDepth 100000
theorem open_spec (t : Nat) (w : WR) (a : AW) (M : Nat) (hM : M + 1 ≤ 1073741823) (hR : Rep w a M) (s : ByteArray) (hs : s.size ≤ 4611686018427387904) (mode : Int) :
    Fun Tryz.prog 20 [ptr0 t, .string s, vi mode] (WMem t w) (fun v Post => ∃ w', Rep w' (openM s mode a).2.2 (M + 1) ∧ v = .tuple #[vi (openM s mode a).1.handle, vi (openM s mode a).2.1] ∧ Post = WMem t w') := by
  refine Fun.intro low20 (by simp [n20]) ?_
  simp only [WMem]
  refine GO ?_
  refine st_box (by rfl) (fun b3 => ?_)
  refine st_box (by rfl) (fun b4 => ?_)
  refine st_box (by rfl) (fun b5 => ?_)
  try simp only [Value.cells]
  refine GO ?_
  have hf := filedR t w a M (deOpen s mode) (.func (.func 82) #[] #[ptr0 b3, ptr0 b4, ptr0 b5]) (List.flatten [cellsAt b3 0 [ptr0 t], cellsAt b4 0 [.string s], cellsAt b5 0 [vi mode]]) (fun a => openF s mode (deOpen s mode) a) hR hM openF_trace rfl rfl (fun w1 q h1 => ?_)
  rotate_left
  · refine (FunV.of_fun (first := #[]) (cap := #[ptr0 b3, ptr0 b4, ptr0 b5]) (args := [ptr0 q]) (open1_spec t w1 (takeA a) M (by omega) h1 s mode hs q b3 b4 b5 (deOpen s mode))).conv (R := []) (spl_lastL _ [cellsAt b3 0 [ptr0 t], cellsAt b4 0 [.string s], cellsAt b5 0 [vi mode]] _) ?_
    rintro v Post ⟨w2, rfl, h2, rfl⟩
    exact ⟨_, ⟨w2, rfl, h2, rfl⟩, imp_lastQ _ [cellsAt b3 0 [ptr0 t], cellsAt b4 0 [.string s], cellsAt b5 0 [vi mode]] _⟩
  refine VO.imp (H' := WMem t w ++ [List.flatten [cellsAt b3 0 [ptr0 t], cellsAt b4 0 [.string s], cellsAt b5 0 [vi mode]]]) ?_ ?_
  · exact Imp.cut (M := WMem t w ++ [cellsAt b3 0 [ptr0 t], cellsAt b4 0 [.string s], cellsAt b5 0 [vi mode]]) (by simp only [WMem, List.cons_append, List.nil_append]; exact IMx) (imp_lastL _ _)
  refine st_call hf (by rfl) (spl_self _) (fun v Post hv => ?_)
  obtain ⟨w', hR', rfl, rfl⟩ := hv
  have hEq : (openM s mode a) = deedA a (deOpen s mode) (faultA (deOpen s mode) (fun a => openF s mode (deOpen s mode) a)) := rfl
  rw [← hEq] at hR' ⊢
  generalize (openM s mode a) = r at hR' ⊢
  simp only [WMem, List.append_nil, List.cons_append, List.nil_append]
  refine GO ?_
  refine st_alloc (fun p7 => ?_)
  simp only [deEnc]
  refine GO ?_
  exact endQ_mk (Post := WMem t w') (.inr rfl) (.tmp (by rfl) (.tmp (by rfl) .nil)) ⟨w', hR', rfl, rfl⟩ (by simp only [WMem]; exact IMx)
theorem read_spec (t : Nat) (w : WR) (a : AW) (M : Nat) (hM : M + 1 ≤ 1073741823) (hR : Rep w a M) (n many : Int) :
    Fun Tryz.prog 21 [ptr0 t, vi n, vi many] (WMem t w) (fun v Post => ∃ w', Rep w' (readM n many a).2.2 (M + 1) ∧ v = .tuple #[.string (readM n many a).1.text, vi (readM n many a).2.1] ∧ Post = WMem t w') := by
  refine Fun.intro low21 (by simp [n21]) ?_
  simp only [WMem]
  refine GO ?_
  refine st_box (by rfl) (fun b3 => ?_)
  refine st_box (by rfl) (fun b4 => ?_)
  refine st_box (by rfl) (fun b5 => ?_)
  try simp only [Value.cells]
  refine GO ?_
  have hf := filedR t w a M (deRead n many) (.func (.func 87) #[] #[ptr0 b3, ptr0 b4, ptr0 b5]) (List.flatten [cellsAt b3 0 [ptr0 t], cellsAt b4 0 [vi n], cellsAt b5 0 [vi many]]) (fun a => readF n many (deRead n many) a) hR hM readF_trace rfl rfl (fun w1 q h1 => ?_)
  rotate_left
  · refine (FunV.of_fun (first := #[]) (cap := #[ptr0 b3, ptr0 b4, ptr0 b5]) (args := [ptr0 q]) (read1_spec t w1 (takeA a) M (by omega) h1 n many q b3 b4 b5 (deRead n many))).conv (R := []) (spl_lastL _ [cellsAt b3 0 [ptr0 t], cellsAt b4 0 [vi n], cellsAt b5 0 [vi many]] _) ?_
    rintro v Post ⟨w2, rfl, h2, rfl⟩
    exact ⟨_, ⟨w2, rfl, h2, rfl⟩, imp_lastQ _ [cellsAt b3 0 [ptr0 t], cellsAt b4 0 [vi n], cellsAt b5 0 [vi many]] _⟩
  refine VO.imp (H' := WMem t w ++ [List.flatten [cellsAt b3 0 [ptr0 t], cellsAt b4 0 [vi n], cellsAt b5 0 [vi many]]]) ?_ ?_
  · exact Imp.cut (M := WMem t w ++ [cellsAt b3 0 [ptr0 t], cellsAt b4 0 [vi n], cellsAt b5 0 [vi many]]) (by simp only [WMem, List.cons_append, List.nil_append]; exact IMx) (imp_lastL _ _)
  refine st_call hf (by rfl) (spl_self _) (fun v Post hv => ?_)
  obtain ⟨w', hR', rfl, rfl⟩ := hv
  have hEq : (readM n many a) = deedA a (deRead n many) (faultA (deRead n many) (fun a => readF n many (deRead n many) a)) := rfl
  rw [← hEq] at hR' ⊢
  generalize (readM n many a) = r at hR' ⊢
  simp only [WMem, List.append_nil, List.cons_append, List.nil_append]
  refine GO ?_
  refine st_alloc (fun p7 => ?_)
  simp only [deEnc]
  refine GO ?_
  exact endQ_mk (Post := WMem t w') (.inr rfl) (.tmp (by rfl) (.tmp (by rfl) .nil)) ⟨w', hR', rfl, rfl⟩ (by simp only [WMem]; exact IMx)
theorem write_spec (t : Nat) (w : WR) (a : AW) (M : Nat) (hM : M + 1 ≤ 1073741823) (hR : Rep w a M) (n : Int) (s : ByteArray) (hs : s.size ≤ 4611686018427387904) :
    Fun Tryz.prog 22 [ptr0 t, vi n, .string s] (WMem t w) (fun v Post => ∃ w', Rep w' (writeM n s a).2.2 (M + 1) ∧ v = vi (writeM n s a).2.1 ∧ Post = WMem t w') := by
  refine Fun.intro low22 (by simp [n22]) ?_
  simp only [WMem]
  refine GO ?_
  refine st_box (by rfl) (fun b3 => ?_)
  refine st_box (by rfl) (fun b4 => ?_)
  refine st_box (by rfl) (fun b5 => ?_)
  try simp only [Value.cells]
  refine GO ?_
  have hf := filedR t w a M (deWrite n s) (.func (.func 89) #[] #[ptr0 b3, ptr0 b4, ptr0 b5]) (List.flatten [cellsAt b3 0 [ptr0 t], cellsAt b4 0 [vi n], cellsAt b5 0 [.string s]]) (fun a => writeF n s (deWrite n s) a) hR hM writeF_trace rfl rfl (fun w1 q h1 => ?_)
  rotate_left
  · refine (FunV.of_fun (first := #[]) (cap := #[ptr0 b3, ptr0 b4, ptr0 b5]) (args := [ptr0 q]) (write1_spec t w1 (takeA a) M (by omega) h1 n s hs q b3 b4 b5 (deWrite n s))).conv (R := []) (spl_lastL _ [cellsAt b3 0 [ptr0 t], cellsAt b4 0 [vi n], cellsAt b5 0 [.string s]] _) ?_
    rintro v Post ⟨w2, rfl, h2, rfl⟩
    exact ⟨_, ⟨w2, rfl, h2, rfl⟩, imp_lastQ _ [cellsAt b3 0 [ptr0 t], cellsAt b4 0 [vi n], cellsAt b5 0 [.string s]] _⟩
  refine VO.imp (H' := WMem t w ++ [List.flatten [cellsAt b3 0 [ptr0 t], cellsAt b4 0 [vi n], cellsAt b5 0 [.string s]]]) ?_ ?_
  · exact Imp.cut (M := WMem t w ++ [cellsAt b3 0 [ptr0 t], cellsAt b4 0 [vi n], cellsAt b5 0 [.string s]]) (by simp only [WMem, List.cons_append, List.nil_append]; exact IMx) (imp_lastL _ _)
  refine st_call hf (by rfl) (spl_self _) (fun v Post hv => ?_)
  obtain ⟨w', hR', rfl, rfl⟩ := hv
  have hEq : (writeM n s a) = deedA a (deWrite n s) (faultA (deWrite n s) (fun a => writeF n s (deWrite n s) a)) := rfl
  rw [← hEq] at hR' ⊢
  generalize (writeM n s a) = r at hR' ⊢
  simp only [WMem, List.append_nil, List.cons_append, List.nil_append]
  refine GO ?_
  refine st_alloc (fun p7 => ?_)
  simp only [deEnc]
  refine GO ?_
  exact endQ_mk (Post := WMem t w') (.inr rfl) (.tmp (by rfl) .nil) ⟨w', hR', rfl, rfl⟩ (by simp only [WMem]; exact IMx)
theorem seek_spec (t : Nat) (w : WR) (a : AW) (M : Nat) (hM : M + 1 ≤ 1073741823) (hR : Rep w a M) (n at_ : Int) :
    Fun Tryz.prog 35 [ptr0 t, vi n, vi at_] (WMem t w) (fun v Post => ∃ w', Rep w' (seekM n at_ a).2.2 (M + 1) ∧ v = vi (seekM n at_ a).2.1 ∧ Post = WMem t w') := by
  refine Fun.intro low35 (by simp [n35]) ?_
  simp only [WMem]
  refine GO ?_
  refine st_box (by rfl) (fun b3 => ?_)
  refine st_box (by rfl) (fun b4 => ?_)
  refine st_box (by rfl) (fun b5 => ?_)
  try simp only [Value.cells]
  refine GO ?_
  have hf := filedR t w a M (deSeek n at_) (.func (.func 98) #[] #[ptr0 b3, ptr0 b4, ptr0 b5]) (List.flatten [cellsAt b3 0 [ptr0 t], cellsAt b4 0 [vi n], cellsAt b5 0 [vi at_]]) (fun a => seekF n at_ (deSeek n at_) a) hR hM seekF_trace rfl rfl (fun w1 q h1 => ?_)
  rotate_left
  · refine (FunV.of_fun (first := #[]) (cap := #[ptr0 b3, ptr0 b4, ptr0 b5]) (args := [ptr0 q]) (seek1_spec t w1 (takeA a) M (by omega) h1 n at_ q b3 b4 b5 (deSeek n at_))).conv (R := []) (spl_lastL _ [cellsAt b3 0 [ptr0 t], cellsAt b4 0 [vi n], cellsAt b5 0 [vi at_]] _) ?_
    rintro v Post ⟨w2, rfl, h2, rfl⟩
    exact ⟨_, ⟨w2, rfl, h2, rfl⟩, imp_lastQ _ [cellsAt b3 0 [ptr0 t], cellsAt b4 0 [vi n], cellsAt b5 0 [vi at_]] _⟩
  refine VO.imp (H' := WMem t w ++ [List.flatten [cellsAt b3 0 [ptr0 t], cellsAt b4 0 [vi n], cellsAt b5 0 [vi at_]]]) ?_ ?_
  · exact Imp.cut (M := WMem t w ++ [cellsAt b3 0 [ptr0 t], cellsAt b4 0 [vi n], cellsAt b5 0 [vi at_]]) (by simp only [WMem, List.cons_append, List.nil_append]; exact IMx) (imp_lastL _ _)
  refine st_call hf (by rfl) (spl_self _) (fun v Post hv => ?_)
  obtain ⟨w', hR', rfl, rfl⟩ := hv
  have hEq : (seekM n at_ a) = deedA a (deSeek n at_) (faultA (deSeek n at_) (fun a => seekF n at_ (deSeek n at_) a)) := rfl
  rw [← hEq] at hR' ⊢
  generalize (seekM n at_ a) = r at hR' ⊢
  simp only [WMem, List.append_nil, List.cons_append, List.nil_append]
  refine GO ?_
  refine st_alloc (fun p7 => ?_)
  simp only [deEnc]
  refine GO ?_
  exact endQ_mk (Post := WMem t w') (.inr rfl) (.tmp (by rfl) .nil) ⟨w', hR', rfl, rfl⟩ (by simp only [WMem]; exact IMx)
theorem sync_spec (t : Nat) (w : WR) (a : AW) (M : Nat) (hM : M + 1 ≤ 1073741823) (hR : Rep w a M) (n : Int) :
    Fun Tryz.prog 37 [ptr0 t, vi n] (WMem t w) (fun v Post => ∃ w', Rep w' (syncM n a).2.2 (M + 1) ∧ v = vi (syncM n a).2.1 ∧ Post = WMem t w') := by
  refine Fun.intro low37 (by simp [n37]) ?_
  simp only [WMem]
  refine GO ?_
  refine st_box (by rfl) (fun b3 => ?_)
  refine st_box (by rfl) (fun b4 => ?_)
  try simp only [Value.cells]
  refine GO ?_
  have hf := filedR t w a M (deSync n) (.func (.func 101) #[] #[ptr0 b3, ptr0 b4]) (List.flatten [cellsAt b3 0 [ptr0 t], cellsAt b4 0 [vi n]]) (fun a => syncF n (deSync n) a) hR hM syncF_trace rfl rfl (fun w1 q h1 => ?_)
  rotate_left
  · refine (FunV.of_fun (first := #[]) (cap := #[ptr0 b3, ptr0 b4]) (args := [ptr0 q]) (sync1_spec t w1 (takeA a) M (by omega) h1 n q b3 b4 (deSync n))).conv (R := []) (spl_lastL _ [cellsAt b3 0 [ptr0 t], cellsAt b4 0 [vi n]] _) ?_
    rintro v Post ⟨w2, rfl, h2, rfl⟩
    exact ⟨_, ⟨w2, rfl, h2, rfl⟩, imp_lastQ _ [cellsAt b3 0 [ptr0 t], cellsAt b4 0 [vi n]] _⟩
  refine VO.imp (H' := WMem t w ++ [List.flatten [cellsAt b3 0 [ptr0 t], cellsAt b4 0 [vi n]]]) ?_ ?_
  · exact Imp.cut (M := WMem t w ++ [cellsAt b3 0 [ptr0 t], cellsAt b4 0 [vi n]]) (by simp only [WMem, List.cons_append, List.nil_append]; exact IMx) (imp_lastL _ _)
  refine st_call hf (by rfl) (spl_self _) (fun v Post hv => ?_)
  obtain ⟨w', hR', rfl, rfl⟩ := hv
  have hEq : (syncM n a) = deedA a (deSync n) (faultA (deSync n) (fun a => syncF n (deSync n) a)) := rfl
  rw [← hEq] at hR' ⊢
  generalize (syncM n a) = r at hR' ⊢
  simp only [WMem, List.append_nil, List.cons_append, List.nil_append]
  refine GO ?_
  refine st_alloc (fun p7 => ?_)
  simp only [deEnc]
  refine GO ?_
  exact endQ_mk (Post := WMem t w') (.inr rfl) (.tmp (by rfl) .nil) ⟨w', hR', rfl, rfl⟩ (by simp only [WMem]; exact IMx)
theorem close_spec (t : Nat) (w : WR) (a : AW) (M : Nat) (hM : M + 1 ≤ 1073741823) (hR : Rep w a M) (n : Int) :
    Fun Tryz.prog 39 [ptr0 t, vi n] (WMem t w) (fun v Post => ∃ w', Rep w' (closeM n a).2.2 (M + 1) ∧ v = vi (closeM n a).2.1 ∧ Post = WMem t w') := by
  refine Fun.intro low39 (by simp [n39]) ?_
  simp only [WMem]
  refine GO ?_
  refine st_box (by rfl) (fun b3 => ?_)
  refine st_box (by rfl) (fun b4 => ?_)
  try simp only [Value.cells]
  refine GO ?_
  have hf := filedR t w a M (deClose n) (.func (.func 102) #[] #[ptr0 b3, ptr0 b4]) (List.flatten [cellsAt b3 0 [ptr0 t], cellsAt b4 0 [vi n]]) (fun a => closeF n (deClose n) a) hR hM closeF_trace rfl rfl (fun w1 q h1 => ?_)
  rotate_left
  · refine (FunV.of_fun (first := #[]) (cap := #[ptr0 b3, ptr0 b4]) (args := [ptr0 q]) (close1_spec t w1 (takeA a) M (by omega) h1 n q b3 b4 (deClose n))).conv (R := []) (spl_lastL _ [cellsAt b3 0 [ptr0 t], cellsAt b4 0 [vi n]] _) ?_
    rintro v Post ⟨w2, rfl, h2, rfl⟩
    exact ⟨_, ⟨w2, rfl, h2, rfl⟩, imp_lastQ _ [cellsAt b3 0 [ptr0 t], cellsAt b4 0 [vi n]] _⟩
  refine VO.imp (H' := WMem t w ++ [List.flatten [cellsAt b3 0 [ptr0 t], cellsAt b4 0 [vi n]]]) ?_ ?_
  · exact Imp.cut (M := WMem t w ++ [cellsAt b3 0 [ptr0 t], cellsAt b4 0 [vi n]]) (by simp only [WMem, List.cons_append, List.nil_append]; exact IMx) (imp_lastL _ _)
  refine st_call hf (by rfl) (spl_self _) (fun v Post hv => ?_)
  obtain ⟨w', hR', rfl, rfl⟩ := hv
  have hEq : (closeM n a) = deedA a (deClose n) (faultA (deClose n) (fun a => closeF n (deClose n) a)) := rfl
  rw [← hEq] at hR' ⊢
  generalize (closeM n a) = r at hR' ⊢
  simp only [WMem, List.append_nil, List.cons_append, List.nil_append]
  refine GO ?_
  refine st_alloc (fun p7 => ?_)
  simp only [deEnc]
  refine GO ?_
  exact endQ_mk (Post := WMem t w') (.inr rfl) (.tmp (by rfl) .nil) ⟨w', hR', rfl, rfl⟩ (by simp only [WMem]; exact IMx)
theorem rename_spec (t : Nat) (w : WR) (a : AW) (M : Nat) (hM : M + 1 ≤ 1073741823) (hR : Rep w a M) (s s2 : ByteArray) (hs : s.size ≤ 4611686018427387904) (hs2 : s2.size ≤ 4611686018427387904) :
    Fun Tryz.prog 41 [ptr0 t, .string s, .string s2] (WMem t w) (fun v Post => ∃ w', Rep w' (renameM s s2 a).2.2 (M + 1) ∧ v = vi (renameM s s2 a).2.1 ∧ Post = WMem t w') := by
  refine Fun.intro low41 (by simp [n41]) ?_
  simp only [WMem]
  refine GO ?_
  refine st_box (by rfl) (fun b3 => ?_)
  refine st_box (by rfl) (fun b4 => ?_)
  refine st_box (by rfl) (fun b5 => ?_)
  try simp only [Value.cells]
  refine GO ?_
  have hf := filedR t w a M (deRename s s2) (.func (.func 104) #[] #[ptr0 b3, ptr0 b4, ptr0 b5]) (List.flatten [cellsAt b3 0 [ptr0 t], cellsAt b4 0 [.string s], cellsAt b5 0 [.string s2]]) (fun a => renameF s s2 (deRename s s2) a) hR hM renameF_trace rfl rfl (fun w1 q h1 => ?_)
  rotate_left
  · refine (FunV.of_fun (first := #[]) (cap := #[ptr0 b3, ptr0 b4, ptr0 b5]) (args := [ptr0 q]) (rename1_spec t w1 (takeA a) M (by omega) h1 s s2 hs hs2 q b3 b4 b5 (deRename s s2))).conv (R := []) (spl_lastL _ [cellsAt b3 0 [ptr0 t], cellsAt b4 0 [.string s], cellsAt b5 0 [.string s2]] _) ?_
    rintro v Post ⟨w2, rfl, h2, rfl⟩
    exact ⟨_, ⟨w2, rfl, h2, rfl⟩, imp_lastQ _ [cellsAt b3 0 [ptr0 t], cellsAt b4 0 [.string s], cellsAt b5 0 [.string s2]] _⟩
  refine VO.imp (H' := WMem t w ++ [List.flatten [cellsAt b3 0 [ptr0 t], cellsAt b4 0 [.string s], cellsAt b5 0 [.string s2]]]) ?_ ?_
  · exact Imp.cut (M := WMem t w ++ [cellsAt b3 0 [ptr0 t], cellsAt b4 0 [.string s], cellsAt b5 0 [.string s2]]) (by simp only [WMem, List.cons_append, List.nil_append]; exact IMx) (imp_lastL _ _)
  refine st_call hf (by rfl) (spl_self _) (fun v Post hv => ?_)
  obtain ⟨w', hR', rfl, rfl⟩ := hv
  have hEq : (renameM s s2 a) = deedA a (deRename s s2) (faultA (deRename s s2) (fun a => renameF s s2 (deRename s s2) a)) := rfl
  rw [← hEq] at hR' ⊢
  generalize (renameM s s2 a) = r at hR' ⊢
  simp only [WMem, List.append_nil, List.cons_append, List.nil_append]
  refine GO ?_
  refine st_alloc (fun p7 => ?_)
  simp only [deEnc]
  refine GO ?_
  exact endQ_mk (Post := WMem t w') (.inr rfl) (.tmp (by rfl) .nil) ⟨w', hR', rfl, rfl⟩ (by simp only [WMem]; exact IMx)
theorem delete_spec (t : Nat) (w : WR) (a : AW) (M : Nat) (hM : M + 1 ≤ 1073741823) (hR : Rep w a M) (s : ByteArray) (hs : s.size ≤ 4611686018427387904) :
    Fun Tryz.prog 43 [ptr0 t, .string s] (WMem t w) (fun v Post => ∃ w', Rep w' (deleteM s a).2.2 (M + 1) ∧ v = vi (deleteM s a).2.1 ∧ Post = WMem t w') := by
  refine Fun.intro low43 (by simp [n43]) ?_
  simp only [WMem]
  refine GO ?_
  refine st_box (by rfl) (fun b3 => ?_)
  refine st_box (by rfl) (fun b4 => ?_)
  try simp only [Value.cells]
  refine GO ?_
  have hf := filedR t w a M (deDelete s) (.func (.func 105) #[] #[ptr0 b3, ptr0 b4]) (List.flatten [cellsAt b3 0 [ptr0 t], cellsAt b4 0 [.string s]]) (fun a => deleteF s (deDelete s) a) hR hM deleteF_trace rfl rfl (fun w1 q h1 => ?_)
  rotate_left
  · refine (FunV.of_fun (first := #[]) (cap := #[ptr0 b3, ptr0 b4]) (args := [ptr0 q]) (delete1_spec t w1 (takeA a) M (by omega) h1 s hs q b3 b4 (deDelete s))).conv (R := []) (spl_lastL _ [cellsAt b3 0 [ptr0 t], cellsAt b4 0 [.string s]] _) ?_
    rintro v Post ⟨w2, rfl, h2, rfl⟩
    exact ⟨_, ⟨w2, rfl, h2, rfl⟩, imp_lastQ _ [cellsAt b3 0 [ptr0 t], cellsAt b4 0 [.string s]] _⟩
  refine VO.imp (H' := WMem t w ++ [List.flatten [cellsAt b3 0 [ptr0 t], cellsAt b4 0 [.string s]]]) ?_ ?_
  · exact Imp.cut (M := WMem t w ++ [cellsAt b3 0 [ptr0 t], cellsAt b4 0 [.string s]]) (by simp only [WMem, List.cons_append, List.nil_append]; exact IMx) (imp_lastL _ _)
  refine st_call hf (by rfl) (spl_self _) (fun v Post hv => ?_)
  obtain ⟨w', hR', rfl, rfl⟩ := hv
  have hEq : (deleteM s a) = deedA a (deDelete s) (faultA (deDelete s) (fun a => deleteF s (deDelete s) a)) := rfl
  rw [← hEq] at hR' ⊢
  generalize (deleteM s a) = r at hR' ⊢
  simp only [WMem, List.append_nil, List.cons_append, List.nil_append]
  refine GO ?_
  refine st_alloc (fun p7 => ?_)
  simp only [deEnc]
  refine GO ?_
  exact endQ_mk (Post := WMem t w') (.inr rfl) (.tmp (by rfl) .nil) ⟨w', hR', rfl, rfl⟩ (by simp only [WMem]; exact IMx)
theorem clock_spec (t : Nat) (w : WR) (a : AW) (M : Nat) (hM : M + 1 ≤ 1073741823) (hR : Rep w a M)  :
    Fun Tryz.prog 45 [ptr0 t] (WMem t w) (fun v Post => ∃ w', Rep w' (clockM a).2.2 (M + 1) ∧ v = .tuple #[vi (clockM a).1.n, vi (clockM a).2.1] ∧ Post = WMem t w') := by
  refine Fun.intro low45 (by simp [n45]) ?_
  simp only [WMem]
  refine GO ?_
  refine st_box (by rfl) (fun b3 => ?_)
  try simp only [Value.cells]
  refine GO ?_
  have hf := deedR t w a M (deClock) (.func (.func 106) #[] #[ptr0 b3]) (List.flatten [cellsAt b3 0 [ptr0 t]]) (clockF (deClock)) hR hM clockF_trace (fun w1 q h1 => ?_)
  rotate_left
  · refine (FunV.of_fun (first := #[]) (cap := #[ptr0 b3]) (args := [.agg (chEnc (chA a)).toArray, ptr0 q]) (clock1_spec t w1 (takeA a) M (by omega) h1 (chA a) q b3 (deClock))).conv (R := []) (spl_lastL _ [cellsAt b3 0 [ptr0 t]] _) ?_
    rintro v Post ⟨w2, rfl, h2, rfl⟩
    exact ⟨_, ⟨w2, rfl, h2, rfl⟩, imp_lastQ _ [cellsAt b3 0 [ptr0 t]] _⟩
  refine VO.imp (H' := WMem t w ++ [List.flatten [cellsAt b3 0 [ptr0 t]]]) ?_ ?_
  · exact Imp.cut (M := WMem t w ++ [cellsAt b3 0 [ptr0 t]]) (by simp only [WMem, List.cons_append, List.nil_append]; exact IMx) (imp_lastL _ _)
  refine st_call hf (by rfl) (spl_self _) (fun v Post hv => ?_)
  obtain ⟨w', hR', rfl, rfl⟩ := hv
  have hEq : (clockM a) = deedA a (deClock) (clockF (deClock)) := rfl
  rw [← hEq] at hR' ⊢
  generalize (clockM a) = r at hR' ⊢
  simp only [WMem, List.append_nil, List.cons_append, List.nil_append]
  refine GO ?_
  refine st_alloc (fun p7 => ?_)
  simp only [deEnc]
  refine GO ?_
  exact endQ_mk (Post := WMem t w') (.inr rfl) (.tmp (by rfl) (.tmp (by rfl) .nil)) ⟨w', hR', rfl, rfl⟩ (by simp only [WMem]; exact IMx)
theorem connect_spec (t : Nat) (w : WR) (a : AW) (M : Nat) (hM : M + 1 ≤ 1073741823) (hR : Rep w a M) (s : ByteArray) (hs : s.size ≤ 4611686018427387904) :
    Fun Tryz.prog 47 [ptr0 t, .string s] (WMem t w) (fun v Post => ∃ w', Rep w' (connectM s a).2.2 (M + 1) ∧ v = .tuple #[vi (connectM s a).1.handle, vi (connectM s a).2.1] ∧ Post = WMem t w') := by
  refine Fun.intro low47 (by simp [n47]) ?_
  simp only [WMem]
  refine GO ?_
  refine st_box (by rfl) (fun b3 => ?_)
  refine st_box (by rfl) (fun b4 => ?_)
  try simp only [Value.cells]
  refine GO ?_
  have hf := deedR t w a M (deConnect s) (.func (.func 107) #[] #[ptr0 b4, ptr0 b3]) (List.flatten [cellsAt b4 0 [.string s], cellsAt b3 0 [ptr0 t]]) (connectF s (deConnect s)) hR hM connectF_trace (fun w1 q h1 => ?_)
  rotate_left
  · refine (FunV.of_fun (first := #[]) (cap := #[ptr0 b4, ptr0 b3]) (args := [.agg (chEnc (chA a)).toArray, ptr0 q]) (connect1_spec t w1 (takeA a) M (by omega) h1 s hs (chA a) q b4 b3 (deConnect s))).conv (R := []) (spl_lastL _ [cellsAt b4 0 [.string s], cellsAt b3 0 [ptr0 t]] _) ?_
    rintro v Post ⟨w2, rfl, h2, rfl⟩
    exact ⟨_, ⟨w2, rfl, h2, rfl⟩, imp_lastQ _ [cellsAt b4 0 [.string s], cellsAt b3 0 [ptr0 t]] _⟩
  refine VO.imp (H' := WMem t w ++ [List.flatten [cellsAt b4 0 [.string s], cellsAt b3 0 [ptr0 t]]]) ?_ ?_
  · exact Imp.cut (M := WMem t w ++ [cellsAt b4 0 [.string s], cellsAt b3 0 [ptr0 t]]) (by simp only [WMem, List.cons_append, List.nil_append]; exact IMx) (imp_lastL _ _)
  refine st_call hf (by rfl) (spl_self _) (fun v Post hv => ?_)
  obtain ⟨w', hR', rfl, rfl⟩ := hv
  have hEq : (connectM s a) = deedA a (deConnect s) (connectF s (deConnect s)) := rfl
  rw [← hEq] at hR' ⊢
  generalize (connectM s a) = r at hR' ⊢
  simp only [WMem, List.append_nil, List.cons_append, List.nil_append]
  refine GO ?_
  refine st_alloc (fun p7 => ?_)
  simp only [deEnc]
  refine GO ?_
  exact endQ_mk (Post := WMem t w') (.inr rfl) (.tmp (by rfl) (.tmp (by rfl) .nil)) ⟨w', hR', rfl, rfl⟩ (by simp only [WMem]; exact IMx)
theorem send_spec (t : Nat) (w : WR) (a : AW) (M : Nat) (hM : M + 1 ≤ 1073741823) (hR : Rep w a M) (n : Int) (s : ByteArray) :
    Fun Tryz.prog 49 [ptr0 t, vi n, .string s] (WMem t w) (fun v Post => ∃ w', Rep w' (sendM n s a).2.2 (M + 1) ∧ v = vi (sendM n s a).2.1 ∧ Post = WMem t w') := by
  refine Fun.intro low49 (by simp [n49]) ?_
  simp only [WMem]
  refine GO ?_
  refine st_box (by rfl) (fun b3 => ?_)
  refine st_box (by rfl) (fun b4 => ?_)
  try simp only [Value.cells]
  refine GO ?_
  have hf := deedR t w a M (deSend n s) (.func (.func 110) #[] #[ptr0 b3, ptr0 b4]) (List.flatten [cellsAt b3 0 [ptr0 t], cellsAt b4 0 [vi n]]) (sendF n (deSend n s)) hR hM sendF_trace (fun w1 q h1 => ?_)
  rotate_left
  · refine (FunV.of_fun (first := #[]) (cap := #[ptr0 b3, ptr0 b4]) (args := [.agg (chEnc (chA a)).toArray, ptr0 q]) (send1_spec t w1 (takeA a) M (by omega) h1 n (chA a) q b3 b4 (deSend n s))).conv (R := []) (spl_lastL _ [cellsAt b3 0 [ptr0 t], cellsAt b4 0 [vi n]] _) ?_
    rintro v Post ⟨w2, rfl, h2, rfl⟩
    exact ⟨_, ⟨w2, rfl, h2, rfl⟩, imp_lastQ _ [cellsAt b3 0 [ptr0 t], cellsAt b4 0 [vi n]] _⟩
  refine VO.imp (H' := WMem t w ++ [List.flatten [cellsAt b3 0 [ptr0 t], cellsAt b4 0 [vi n]]]) ?_ ?_
  · exact Imp.cut (M := WMem t w ++ [cellsAt b3 0 [ptr0 t], cellsAt b4 0 [vi n]]) (by simp only [WMem, List.cons_append, List.nil_append]; exact IMx) (imp_lastL _ _)
  refine st_call hf (by rfl) (spl_self _) (fun v Post hv => ?_)
  obtain ⟨w', hR', rfl, rfl⟩ := hv
  have hEq : (sendM n s a) = deedA a (deSend n s) (sendF n (deSend n s)) := rfl
  rw [← hEq] at hR' ⊢
  generalize (sendM n s a) = r at hR' ⊢
  simp only [WMem, List.append_nil, List.cons_append, List.nil_append]
  refine GO ?_
  refine st_alloc (fun p7 => ?_)
  simp only [deEnc]
  refine GO ?_
  exact endQ_mk (Post := WMem t w') (.inr rfl) (.tmp (by rfl) .nil) ⟨w', hR', rfl, rfl⟩ (by simp only [WMem]; exact IMx)
theorem receive_spec (t : Nat) (w : WR) (a : AW) (M : Nat) (hM : M + 1 ≤ 1073741823) (hR : Rep w a M) (n many : Int) :
    Fun Tryz.prog 51 [ptr0 t, vi n, vi many] (WMem t w) (fun v Post => ∃ w', Rep w' (receiveM n many a).2.2 (M + 1) ∧ v = .tuple #[.string (receiveM n many a).1.text, vi (receiveM n many a).2.1] ∧ Post = WMem t w') := by
  refine Fun.intro low51 (by simp [n51]) ?_
  simp only [WMem]
  refine GO ?_
  refine st_box (by rfl) (fun b3 => ?_)
  refine st_box (by rfl) (fun b4 => ?_)
  refine st_box (by rfl) (fun b5 => ?_)
  try simp only [Value.cells]
  refine GO ?_
  have hf := deedR t w a M (deReceive n many) (.func (.func 111) #[] #[ptr0 b3, ptr0 b4, ptr0 b5]) (List.flatten [cellsAt b3 0 [ptr0 t], cellsAt b4 0 [vi n], cellsAt b5 0 [vi many]]) (receiveF n many (deReceive n many)) hR hM receiveF_trace (fun w1 q h1 => ?_)
  rotate_left
  · refine (FunV.of_fun (first := #[]) (cap := #[ptr0 b3, ptr0 b4, ptr0 b5]) (args := [.agg (chEnc (chA a)).toArray, ptr0 q]) (receive1_spec t w1 (takeA a) M (by omega) h1 n many (chA a) q b3 b4 b5 (deReceive n many))).conv (R := []) (spl_lastL _ [cellsAt b3 0 [ptr0 t], cellsAt b4 0 [vi n], cellsAt b5 0 [vi many]] _) ?_
    rintro v Post ⟨w2, rfl, h2, rfl⟩
    exact ⟨_, ⟨w2, rfl, h2, rfl⟩, imp_lastQ _ [cellsAt b3 0 [ptr0 t], cellsAt b4 0 [vi n], cellsAt b5 0 [vi many]] _⟩
  refine VO.imp (H' := WMem t w ++ [List.flatten [cellsAt b3 0 [ptr0 t], cellsAt b4 0 [vi n], cellsAt b5 0 [vi many]]]) ?_ ?_
  · exact Imp.cut (M := WMem t w ++ [cellsAt b3 0 [ptr0 t], cellsAt b4 0 [vi n], cellsAt b5 0 [vi many]]) (by simp only [WMem, List.cons_append, List.nil_append]; exact IMx) (imp_lastL _ _)
  refine st_call hf (by rfl) (spl_self _) (fun v Post hv => ?_)
  obtain ⟨w', hR', rfl, rfl⟩ := hv
  have hEq : (receiveM n many a) = deedA a (deReceive n many) (receiveF n many (deReceive n many)) := rfl
  rw [← hEq] at hR' ⊢
  generalize (receiveM n many a) = r at hR' ⊢
  simp only [WMem, List.append_nil, List.cons_append, List.nil_append]
  refine GO ?_
  refine st_alloc (fun p7 => ?_)
  simp only [deEnc]
  refine GO ?_
  exact endQ_mk (Post := WMem t w') (.inr rfl) (.tmp (by rfl) (.tmp (by rfl) .nil)) ⟨w', hR', rfl, rfl⟩ (by simp only [WMem]; exact IMx)
theorem show_spec (t : Nat) (w : WR) (a : AW) (M : Nat) (hM : M + 1 ≤ 1073741823) (hR : Rep w a M) (s : ByteArray) :
    Fun Tryz.prog 23 [ptr0 t, .string s] (WMem t w) (fun v Post => ∃ w', Rep w' (showM s a).2.2 (M + 1) ∧ v = vi (showM s a).2.1 ∧ Post = WMem t w') := by
  refine Fun.intro low23 (by simp [n23]) ?_
  simp only [WMem]
  refine GO ?_
  try simp only [Value.cells]
  refine GO ?_
  have hf := deedR t w a M (deShow s) (.func (.func 91) #[] #[]) (List.flatten []) (showF (deShow s)) hR hM showF_trace (fun w1 q h1 => ?_)
  rotate_left
  · refine (FunV.of_fun (first := #[]) (cap := #[]) (args := [.agg (chEnc (chA a)).toArray, ptr0 q]) (show1_spec t w1 (takeA a) M (by omega) h1 (chA a) q (deShow s))).conv (R := []) (spl_lastL _ [] _) ?_
    rintro v Post ⟨w2, rfl, h2, rfl⟩
    exact ⟨_, ⟨w2, rfl, h2, rfl⟩, imp_lastQ _ [] _⟩
  refine VO.imp (H' := WMem t w ++ [List.flatten []]) ?_ ?_
  · exact Imp.cut (M := WMem t w ++ []) (by simp only [WMem, List.cons_append, List.nil_append]; exact IMx) (imp_lastL _ _)
  refine st_call hf (by rfl) (spl_self _) (fun v Post hv => ?_)
  obtain ⟨w', hR', rfl, rfl⟩ := hv
  have hEq : (showM s a) = deedA a (deShow s) (showF (deShow s)) := rfl
  rw [← hEq] at hR' ⊢
  generalize (showM s a) = r at hR' ⊢
  simp only [WMem, List.append_nil, List.cons_append, List.nil_append]
  refine GO ?_
  refine st_alloc (fun p7 => ?_)
  simp only [deEnc]
  refine GO ?_
  exact endQ_mk (Post := WMem t w') (.inr rfl) (.tmp (by rfl) .nil) ⟨w', hR', rfl, rfl⟩ (by simp only [WMem]; exact IMx)
theorem quit_spec (t : Nat) (w : WR) (a : AW) (M : Nat) (hM : M + 1 ≤ 1073741823) (hR : Rep w a M) (k : Int) :
    Fun Tryz.prog 54 [ptr0 t, vi k] (WMem t w) (fun v Post => ∃ w', Rep w' (quitM k a).2.2 (M + 1) ∧ v = vi (quitM k a).2.1 ∧ Post = WMem t w') := by
  refine Fun.intro low54 (by simp [n54]) ?_
  simp only [WMem]
  refine GO ?_
  try simp only [Value.cells]
  refine GO ?_
  have hf := deedR t w a M (deQuit k) (.func (.func 112) #[] #[]) (List.flatten []) (showF (deQuit k)) hR hM showF_trace (fun w1 q h1 => ?_)
  rotate_left
  · refine (FunV.of_fun (first := #[]) (cap := #[]) (args := [.agg (chEnc (chA a)).toArray, ptr0 q]) (quit1_spec t w1 (takeA a) M (by omega) h1 (chA a) q (deQuit k))).conv (R := []) (spl_lastL _ [] _) ?_
    rintro v Post ⟨w2, rfl, h2, rfl⟩
    exact ⟨_, ⟨w2, rfl, h2, rfl⟩, imp_lastQ _ [] _⟩
  refine VO.imp (H' := WMem t w ++ [List.flatten []]) ?_ ?_
  · exact Imp.cut (M := WMem t w ++ []) (by simp only [WMem, List.cons_append, List.nil_append]; exact IMx) (imp_lastL _ _)
  refine st_call hf (by rfl) (spl_self _) (fun v Post hv => ?_)
  obtain ⟨w', hR', rfl, rfl⟩ := hv
  have hEq : (quitM k a) = deedA a (deQuit k) (showF (deQuit k)) := rfl
  rw [← hEq] at hR' ⊢
  generalize (quitM k a) = r at hR' ⊢
  simp only [WMem, List.append_nil, List.cons_append, List.nil_append]
  refine GO ?_
  refine st_alloc (fun p7 => ?_)
  simp only [deEnc]
  refine GO ?_
  exact endQ_mk (Post := WMem t w') (.inr rfl) (.tmp (by rfl) .nil) ⟨w', hR', rfl, rfl⟩ (by simp only [WMem]; exact IMx)
end Go.Proofs.YtgindbomnbojeaaGreat

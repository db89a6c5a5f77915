/-
  What is left behind a crash: nothing lost, all lost, and again.
-/
import Derived.Test.YtklkngccaemjdaaWE
set_option linter.unusedSimpArgs false
set_option linter.unusedVariables false
namespace Go.V
open Go

structure ActW where
  kind : Int
  name : ByteArray
  text : ByteArray
  h : Int
  n : Int
def actEnc (x : ActW) : List Value := [vi x.kind, .string x.name, .string x.text, vi x.h, vi x.n]

/-- A call; its error, the world behind it. -/
def callM (x : ActW) (a : AW) : Int × AW :=
  if x.kind = 1 then (openM x.name x.h a).2
  else if x.kind = 2 then (readM x.h x.n a).2
  else if x.kind = 3 then (writeM x.h x.text a).2
  else if x.kind = 4 then (seekM x.h x.n a).2
  else if x.kind = 5 then (syncM x.h a).2
  else if x.kind = 6 then (closeM x.h a).2
  else if x.kind = 7 then (renameM x.name x.text a).2
  else if x.kind = 8 then (deleteM x.name a).2
  else if x.kind = 9 then (clockM a).2
  else if x.kind = 10 then (connectM x.name a).2
  else if x.kind = 11 then (sendM x.h x.text a).2
  else if x.kind = 12 then (receiveM x.h x.n a).2
  else if x.kind = 13 then (showM x.text a).2
  else if x.kind = 14 then (quitM x.n a).2
  else (0, a)

theorem callM_inv {x : ActW} {a : AW} (h : AInv a) (hin : ∀ h ∈ a.hs, ∀ i, h.file = some i → i < a.files.length) (hs : 0 ≤ a.seq) : AInv (callM x a).2 := by
  have ht := takeA_inv h
  unfold callM
  by_cases h1 : x.kind = 1
  · rw [if_pos h1]; exact filedM_inv h (openF_inv ht hs)
  rw [if_neg h1]
  by_cases h2 : x.kind = 2
  · rw [if_pos h2]; exact filedM_inv h (readF_inv ht)
  rw [if_neg h2]
  by_cases h3 : x.kind = 3
  · rw [if_pos h3]; exact filedM_inv h (writeF_inv ht hin hs)
  rw [if_neg h3]
  by_cases h4 : x.kind = 4
  · rw [if_pos h4]; exact filedM_inv h (seekF_inv ht)
  rw [if_neg h4]
  by_cases h5 : x.kind = 5
  · rw [if_pos h5]; exact filedM_inv h (syncF_inv ht hin)
  rw [if_neg h5]
  by_cases h6 : x.kind = 6
  · rw [if_pos h6]; exact filedM_inv h (closeF_inv ht)
  rw [if_neg h6]
  by_cases h7 : x.kind = 7
  · rw [if_pos h7]; exact filedM_inv h (renameF_inv ht)
  rw [if_neg h7]
  by_cases h8 : x.kind = 8
  · rw [if_pos h8]; exact filedM_inv h (deleteF_inv ht)
  rw [if_neg h8]
  by_cases h9 : x.kind = 9
  · rw [if_pos h9]; exact deedA_inv h (clockF_inv ht)
  rw [if_neg h9]
  by_cases h10 : x.kind = 10
  · rw [if_pos h10]; exact deedA_inv h (connectF_inv ht)
  rw [if_neg h10]
  by_cases h11 : x.kind = 11
  · rw [if_pos h11]; exact deedA_inv h (sendF_inv (n := x.h) (d := deSend x.h x.text) (c := chA a) ht)
  rw [if_neg h11]
  by_cases h12 : x.kind = 12
  · rw [if_pos h12]; exact deedA_inv h (receiveF_inv ht)
  rw [if_neg h12]
  by_cases h13 : x.kind = 13
  · rw [if_pos h13]; exact deedA_inv h (showF_inv (d := deShow x.text) (c := chA a) ht)
  rw [if_neg h13]
  by_cases h14 : x.kind = 14
  · rw [if_pos h14]; exact deedA_inv h (showF_inv (d := deQuit x.n) (c := chA a) ht)
  rw [if_neg h14]
  exact h

theorem sorted_perm {α : Type} {lt : α → α → Bool} (ok : LtOk lt) {xs xs' ys zs : List α} (h : SortedOf lt xs ys) (k : SortedOf lt xs' zs) (p : xs.Perm xs') : ys = zs :=
  sorted_unique ok h ⟨k.1.trans p.symm, k.2⟩

theorem kept_true {which : Int} {ys : List Int} (hk : ∀ i, i < ys.length → keepB which i = true) : ∀ k, k ≤ ys.length → ∀ i y, i < k → ys[i]? = some y → mget y (keptT which ys k) = some true := by
  intro k
  induction k with
  | zero => intro _ i y h; omega
  | succ k ih =>
    intro hkl i y hi hy
    obtain ⟨z, hz⟩ : ∃ z, ys[k]? = some z := ⟨ys[k]'(by omega), by rw [List.getElem?_eq_getElem]⟩
    rw [keptT_succ hz, hk k (by omega)]
    by_cases e : y = z
    · subst e; exact mget_mset_eq
    · rw [mget_mset_ne e]
      by_cases hik : i = k
      · subst hik; rw [hz] at hy; cases hy; exact absurd rfl e
      · exact ih (by omega) i y (by omega) hy

theorem all_kept {k : Nat} (h : k < 64) : keepB 18446744073709551615 k = true := by
  have : ∀ k, k < 64 → keepB 18446744073709551615 k = true := by decide +kernel
  exact this k h

theorem foldl_kept_all {m : List (Int × Bool)} {l : List Wr} {b : List UInt8} (h : ∀ x ∈ l, mget x.seq m = some true) : l.foldl (onKept m) b = l.foldl (fun b x => onL x b) b := by
  induction l generalizing b with
  | nil => rfl
  | cons x l ih =>
    simp only [List.foldl_cons]
    have : onKept m b x = onL x b := by simp [onKept, h x (by simp)]
    rw [this]
    exact ih (fun y hy => h y (by simp [hy]))

theorem nowOf_at {a : AW} {n : ByteArray} {j : Nat} (hj : mget n a.names = some j) : nowOf a n = (fileAt a j).now := by
  simp [nowOf, hj, fileAt]

/-- Nothing lost: the files are as they were. -/
theorem left_all {a a' : AW} {cs : List Ch} (h : LeftR a 18446744073709551615 cs a') (hi : AInv a) (hc : (seqsOf a a.names).length ≤ 64) : ∀ n ∈ a.names.map (·.1), fileOf a' n = fileOf a n := by
  intro n hn
  obtain ⟨j, hj⟩ := mget_some_of hn
  obtain ⟨ys, h1, h2⟩ := h.now hi.keys
  have hjl := hi.nin _ (mget_mem hj)
  simp only at hjl
  have hfa : fileAt a j = a.files[j] := by simp [fileAt, hjl]
  have hyl : ys.length ≤ 64 := by rw [h1.1.length_eq]; exact hc
  simp only [fileOf, h2 n j hj, nowOf_at hj]
  congr 2
  rw [hi.play (fileAt a j) (by rw [hfa]; exact List.getElem_mem hjl)]
  refine foldl_kept_all (fun x hx => ?_)
  have hmem : x.seq ∈ seqsOf a a.names := List.mem_flatMap.2 ⟨_, mget_mem hj, List.mem_map.2 ⟨x, hx, rfl⟩⟩
  have hy : x.seq ∈ ys := h1.1.mem_iff.2 hmem
  obtain ⟨i, hi2⟩ := List.getElem?_of_mem hy
  have hil := (List.getElem?_eq_some_iff.1 hi2).1
  exact kept_true (fun i hi3 => all_kept (by omega)) ys.length (Nat.le_refl _) i x.seq hil hi2

/-- All synced: nothing can be lost. -/
theorem left_again {a a' : AW} {which : Int} {cs : List Ch} (h : LeftR a which cs a') (hi : AInv a) (hs : ∀ f ∈ a.files, f.writes = [] ∧ f.base = f.now) : ∀ n ∈ a.names.map (·.1), fileOf a' n = fileOf a n := by
  intro n hn
  obtain ⟨j, hj⟩ := mget_some_of hn
  obtain ⟨ys, h1, h2⟩ := h.now hi.keys
  have hjl := hi.nin _ (mget_mem hj)
  simp only at hjl
  have hfa : fileAt a j = a.files[j] := by simp [fileAt, hjl]
  have hm : fileAt a j ∈ a.files := by rw [hfa]; exact List.getElem_mem hjl
  simp only [fileOf, h2 n j hj, nowOf_at hj, recF_synced (hs _ hm).1, (hs _ hm).2]

theorem map_fileOf {a b : AW} {ys : List ByteArray} (h : ∀ n ∈ ys, fileOf a n = fileOf b n) : ys.map (fileOf a) = ys.map (fileOf b) := List.map_congr_left h
end Go.V

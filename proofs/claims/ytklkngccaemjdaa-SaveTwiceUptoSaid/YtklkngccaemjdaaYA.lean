/-
  Saving: the temporary file's name, a text's pieces.
-/
import Derived.Test.YtklkngccaemjdaaXP
import Derived.Test.YtklkngccaemjdaaWOf
import Derived.Test.YtklkngccaemjdaaWO
import Derived.Test.YtklkngccaemjdaaWE
import Derived.Test.YtklkngccaemjdaaWK
set_option linter.unusedSimpArgs false
set_option linter.unusedVariables false
namespace Go.V
open Go
def tmpB : ByteArray := ⟨#[46, 116, 109, 112]⟩
end Go.V
namespace Go.Proofs.Ytklkngccaemjdaa
open Go Go.V
set_option maxHeartbeats 6400000
set_option maxRecDepth 100000
set_option linter.unusedSimpArgs false
set_option linter.unusedVariables false

theorem temporary_spec (s : ByteArray) (hs : s.size ≤ 1073741824) : Fun Try.prog 51 [.string s] [] (fun v Post => v = .string (s ++ tmpB) ∧ Post = []) := by
  refine Fun.intro low51 (by simp [F51]) ?_
  refine GO ?_
  refine st_cat (by rfl) (by rfl) (by have : (ByteArray.mk #[46, 116, 109, 112]).size = 4 := rfl; omega) ?_
  refine GO ?_
  exact endQ_mk (Post := []) (.inr rfl) (.tmp (by rfl) .nil) ⟨rfl, rfl⟩ (by (first | with_reducible exact Imp.refl | with_reducible exact Imp.left | (focus ((try simp only [List.nil_append]); (repeat (first | exact Imp.nil | (apply Imp.cons; (focus ((repeat (first | with_reducible exact Tk.here | apply Tk.there)); done))))); done))))

theorem pieces_iter (q : Nat) (s : ByteArray) (hs : s.size ≤ 1073741824) :
    Iter Try.prog (.func (.func 92) #[] #[ptr0 q]) (fun x => [.string x]) [cellsAt q 0 [.string s]] [] (fun full => full = pcs s) := by
  intro y J SP hy A hA
  refine FunV.of_fun (first := #[]) (cap := #[ptr0 q]) ?_
  show Fun Try.prog 92 [y, ptr0 q] _ _
  refine Fun.intro low92 (by simp [F92]) ?_
  simp only [List.cons_append, List.nil_append]
  refine GO ?_
  refine VC.loop (α := Nat × List Atom) (Γf := fun _ => [(0, y), (1, ptr0 q)]) (Hf := fun st => [cellsAt q 0 [.string (rest4 s st.1)], st.2]) (I := fun st => st.1 ≤ pcN s ∧ J ((pcs s).take st.1) st.2) (μ := fun st => pcN s - st.1) (0, A) ⟨Nat.zero_le _, by simpa using hA⟩ (by (repeat (first | exact Sub.nil | (apply Sub.cons; rfl)))) (by rw [rest4_zero]; (first | with_reducible exact Imp.refl | with_reducible exact Imp.left | (focus ((try simp only [List.nil_append]); (repeat (first | exact Imp.nil | (apply Imp.cons; (focus ((repeat (first | with_reducible exact Tk.here | apply Tk.there)); done))))); done)))) ?_
  rintro ⟨k, A1⟩ ⟨hk, hJ⟩
  simp only at hk hJ
  dsimp only
  have hsz := rest4_size s k
  generalize hr : rest4 s k = r at hsz ⊢
  refine GO ?_
  by_cases hm : k < pcN s
  rotate_left
  · have h0 : ¬ (r.size : Int) > 0 := by have := (pc_more hk).1; omega
    simp only [h0, decide_false]
    refine GO ?_
    have hfull : (pcs s).take k = pcs s := List.take_of_length_le (by rw [pcs_len]; omega)
    rw [hfull] at hJ
    exact endQ_mk (Post := [A1]) (.inl rfl) .nil ⟨rfl, .inl ⟨pcs s, A1, rfl, hJ, rfl⟩⟩ (by (first | with_reducible exact Imp.refl | with_reducible exact Imp.left | (focus ((try simp only [List.nil_append]); (repeat (first | exact Imp.nil | (apply Imp.cons; (focus ((repeat (first | with_reducible exact Tk.here | apply Tk.there)); done))))); done))))
  have h0 : (r.size : Int) > 0 := by have := (pc_more hk).2 hm; omega
  simp only [h0, decide_true]
  refine GO ?_
  have hmin : (if (r.size : Int) < 4096 then (r.size : Int) else 4096) = ((min 4096 r.size : Nat) : Int) := by split <;> omega
  rw [hmin]
  refine st_slcS (l := 0) (h := min 4096 r.size) (by rfl) .dft (.num (by rfl)) (by omega) ?_
  have hhead : r.extract 0 (min 4096 r.size) = pcAt s k := by rw [← hr]; exact pc_head
  rw [hhead]
  refine st_callV (by rfl) (hy ((pcs s).take k) (pcAt s k) A1 (pcs_ok hm) hJ) (by rfl) (by (focus ((repeat (first | exact Spl.nil | (apply Spl.cons; (focus ((repeat (first | with_reducible exact Tk.here | apply Tk.there)); done))))); done))) (fun v Post hv => ?_)
  rcases hv with ⟨rfl, A', hA', rfl⟩ | ⟨rfl, B', hB', rfl⟩
  · simp only [List.cons_append, List.nil_append]
    refine GO ?_
    refine st_slcS (l := min 4096 r.size) (h := r.size) (by rfl) (.num (by rfl)) .dft (by omega) ?_
    have htail : r.extract (min 4096 r.size) r.size = rest4 s (k + 1) := by rw [← hr]; exact pc_tail hm
    rw [htail]
    refine GO ?_
    exact ⟨(k + 1, A'), ⟨by show k + 1 ≤ pcN s; omega, by simpa only [pcs_take hm] using hA'⟩, by simp only; omega, by (repeat (first | exact Sub.nil | (apply Sub.cons; rfl))), by (first | with_reducible exact Imp.refl | with_reducible exact Imp.left | (focus ((try simp only [List.nil_append]); (repeat (first | exact Imp.nil | (apply Imp.cons; (focus ((repeat (first | with_reducible exact Tk.here | apply Tk.there)); done))))); done)))⟩
  · simp only [List.cons_append, List.nil_append]
    refine GO ?_
    exact endQ_mk (Post := [B']) (.inr rfl) .nil ⟨rfl, .inr ⟨_, B', pcs_ok hm, hB', rfl⟩⟩ (by (first | with_reducible exact Imp.refl | with_reducible exact Imp.left | (focus ((try simp only [List.nil_append]); (repeat (first | exact Imp.nil | (apply Imp.cons; (focus ((repeat (first | with_reducible exact Tk.here | apply Tk.there)); done))))); done))))

theorem pieces_spec (s : ByteArray) : Fun Try.prog 71 [.string s] [] (fun v Post => ∃ q, v = .func (.func 92) #[] #[ptr0 q] ∧ Post = [cellsAt q 0 [.string s]]) := by
  refine Fun.intro low71 (by simp [F71]) ?_
  refine GO ?_
  refine st_box (by rfl) (fun q => ?_)
  simp only [Value.cells]
  refine GO ?_
  refine ⟨.inr rfl, _, _, .tmp (by rfl) .nil, by (first | with_reducible exact Imp.refl | with_reducible exact Imp.left | (focus ((try simp only [List.nil_append]); (repeat (first | exact Imp.nil | (apply Imp.cons; (focus ((repeat (first | with_reducible exact Tk.here | apply Tk.there)); done))))); done))), ⟨q, rfl, rfl⟩⟩
end Go.Proofs.Ytklkngccaemjdaa
namespace Go.Proofs.Ytklkngccaemjdaa
open Go Go.V
set_option maxHeartbeats 6400000
set_option maxRecDepth 100000
set_option linter.unusedSimpArgs false
set_option linter.unusedVariables false

theorem layEnd_spec (t : Nat) (w : WR) (a : AW) (M : Nat) (hM : M + 1 ≤ 1073741823) (hR : Rep w a M) (p3 p7 p6 : Nat) (n e : Int) :
    FunD Try.prog 70 [ptr0 p3, ptr0 p7, ptr0 p6] ([cellsAt p3 0 [ptr0 t], cellsAt p7 0 [vi n], cellsAt p6 0 [vi e]] ++ WMem t w)
      (fun v Post => ∃ w', Rep w' (closeM n a).2.2 (M + 1) ∧ Post = [cellsAt p6 0 [vi (if e = 0 then (closeM n a).2.1 else e)]] ++ WMem t w') := by
  refine FunD.intro low70 (by simp [F70]) ?_
  simp only [WMem, List.cons_append, List.nil_append]
  refine VCz.seq (VCz.reg ?_)
  refine GO ?_
  refine st_call (close_spec t w a M hM hR n) (by rfl) (by simp only [WMem]; (focus ((repeat (first | exact Spl.nil | (apply Spl.cons; (focus ((repeat (first | with_reducible exact Tk.here | apply Tk.there)); done))))); done))) (fun v Post hv => ?_)
  obtain ⟨w', hR', rfl, rfl⟩ := hv
  generalize closeM n a = r at hR' ⊢
  simp only [WMem, List.cons_append, List.nil_append]
  refine GO ?_
  refine VCz.seq (VCz.reg ?_)
  refine GO ?_
  by_cases h0 : e = 0
  · refine VCz.cond (t := true) (by simp only [h0]; rfl) (fun _ => VCz.reg ?_) (fun h => by cases h)
    refine GO ?_
    simp only [h0, if_true]
    exact endQ_mk (Post := [cellsAt p6 0 [vi r.2.1]] ++ WMem t w') (.inl rfl) .nil ⟨w', hR', by simp only [WMem, List.cons_append, List.nil_append]⟩ (by simp only [WMem, List.cons_append, List.nil_append]; (first | with_reducible exact Imp.refl | with_reducible exact Imp.left | (focus ((try simp only [List.nil_append]); (repeat (first | exact Imp.nil | (apply Imp.cons; (focus ((repeat (first | with_reducible exact Tk.here | apply Tk.there)); done))))); done))))
  · refine VCz.cond (t := false) (by simp only [V.ev, V.look, Nat.reduceEqDiff, ↓reduceIte, decide_eq_false h0]) (fun h => by cases h) (fun _ => VCz.skip ?_)
    simp only [h0, if_false]
    exact endQ_mk (Post := [cellsAt p6 0 [vi e]] ++ WMem t w') (.inl rfl) .nil ⟨w', hR', by simp only [WMem, List.cons_append, List.nil_append]⟩ (by simp only [WMem, List.cons_append, List.nil_append]; (first | with_reducible exact Imp.refl | with_reducible exact Imp.left | (focus ((try simp only [List.nil_append]); (repeat (first | exact Imp.nil | (apply Imp.cons; (focus ((repeat (first | with_reducible exact Tk.here | apply Tk.there)); done))))); done))))
end Go.Proofs.Ytklkngccaemjdaa
namespace Go.V
open Go
/-- Pieces are written one behind the other, till one is refused. -/
def wrAll (n : Int) : List ByteArray → AW → Int × AW
  | [], a => (0, a)
  | p :: r, a => if (writeM n p a).2.1 = 0 then wrAll n r (writeM n p a).2.2 else ((writeM n p a).2.1, (writeM n p a).2.2)
theorem wrAll_snoc {n : Int} {c : List ByteArray} {x : ByteArray} : ∀ {a : AW}, wrAll n (c ++ [x]) a = if (wrAll n c a).1 = 0 then ((writeM n x (wrAll n c a).2).2.1, (writeM n x (wrAll n c a).2).2.2) else wrAll n c a := by
  induction c with
  | nil => intro a; simp only [List.nil_append, wrAll, if_true]; split <;> simp [*]
  | cons p r ih =>
    intro a
    simp only [List.cons_append, wrAll]
    split
    · exact ih
    · rfl
theorem wrAll_stop {n : Int} {c t : List ByteArray} : ∀ {a : AW}, (wrAll n c a).1 ≠ 0 → wrAll n (c ++ t) a = wrAll n c a := by
  induction c with
  | nil => intro a h; simp [wrAll] at h
  | cons p r ih =>
    intro a h
    simp only [List.cons_append, wrAll] at h ⊢
    split at h
    · rename_i h1; rw [if_pos h1, if_pos h1]; exact ih h
    · rename_i h1; rw [if_neg h1, if_neg h1]
def synM (n : Int) (r : Int × AW) : Int × AW := if r.1 = 0 then (syncM n r.2).2 else r
def cloM (n : Int) (r : Int × AW) : Int × AW := (if r.1 = 0 then (closeM n r.2).2.1 else r.1, (closeM n r.2).2.2)
def layM (s : ByteArray) (ps : List ByteArray) (a : AW) : Int × AW :=
  if (openM s 2 a).2.1 = 0 then cloM (openM s 2 a).1.handle (synM (openM s 2 a).1.handle (wrAll (openM s 2 a).1.handle ps (openM s 2 a).2.2)) else (openM s 2 a).2
end Go.V
namespace Go.Proofs.Ytklkngccaemjdaa
open Go Go.V
set_option maxHeartbeats 6400000
set_option maxRecDepth 100000
set_option linter.unusedSimpArgs false
set_option linter.unusedVariables false

theorem imp_drop (C : List Atom) (L R : SH) : Imp (([C] ++ L) ++ R) L := ⟨C :: R, by
  simp only [V.Spl, List.flatten_append, List.flatten_cons, List.flatten_nil, List.append_nil, List.append_assoc]
  exact perm_lead _ _ _⟩

theorem lay_end (t : Nat) (w : WR) (a : AW) (M : Nat) (hM : M + 1 ≤ 1073741823) (hR : Rep w a M) (p3 p7 p6 : Nat) (n e : Int) {Γ : Env} {H : SH} (h6 : V.look Γ 6 = some (ptr0 p6)) (hH : Imp H ([cellsAt p3 0 [ptr0 t], cellsAt p7 0 [vi n], cellsAt p6 0 [vi e]] ++ WMem t w))
    {Q : Value → SH → Prop} (hq : ∀ w', Rep w' (cloM n (e, a)).2 (M + 1) → Q (vi (cloM n (e, a)).1) (WMem t w')) {x : Exit} (hx : x = .normal ∨ x = .ret) : endD Try.prog 70 [ptr0 p3, ptr0 p7, ptr0 p6] [.cell1 6] Q x Γ H := by
  obtain ⟨R, hR2⟩ := hH
  refine ⟨hx, _, R, _, layEnd_spec t w a M hM hR p3 p7 p6 n e, hR2, ?_⟩
  rintro v Post ⟨w', h, rfl⟩
  refine ⟨.inr rfl, [vi (cloM n (e, a)).1], WMem t w', .cell1 h6 ?_ .nil, ?_, hq w' h⟩
  · simp [cellsAt, cloM]
  · exact imp_drop _ _ _

theorem pcs_mem {b x : ByteArray} {c : List ByteArray} (h : OkC (fun full => full = pcs b) (c ++ [x])) : x.size ≤ b.size ∧ c.length + 1 ≤ pcN b := by
  obtain ⟨t, ht⟩ := h
  have h1 : x ∈ pcs b := by rw [← ht]; simp
  obtain ⟨i, _, rfl⟩ := List.mem_map.1 h1
  have h2 := congrArg List.length ht
  simp only [List.length_append, List.length_singleton, pcs_len] at h2
  refine ⟨?_, by omega⟩
  simp only [pcAt, ByteArray.size_extract]; omega

theorem lay_spec (t : Nat) (w : WR) (a : AW) (M : Nat) (s b : ByteArray) (hM : M + pcN b + 3 ≤ 1073741823) (hR : Rep w a M) (hs : s.size ≤ 4611686018427387904) (hb : b.size ≤ 1073741824) (hi : AInv a) :
    Fun Try.prog 50 [ptr0 t, .string s, .string b] (WMem t w) (fun v Post => ∃ w' M', M' ≤ M + pcN b + 3 ∧ Rep w' (layM s (pcs b) a).2 M' ∧ AInv (layM s (pcs b) a).2 ∧ v = vi (layM s (pcs b) a).1 ∧ Post = WMem t w') := by
  refine Fun.introD low50 (by simp [F50]) ?_
  simp only [F50, VD, WMem]
  refine GO ?_
  refine st_box (by rfl) (fun p3 => ?_)
  simp only [Value.cells]
  refine GO ?_
  refine st_alloc (fun p6 => ?_)
  refine GO ?_
  refine st_call (open_spec t w a M (by omega) hR s hs 2) (by rfl) (by simp only [WMem]; (focus ((repeat (first | exact Spl.nil | (apply Spl.cons; (focus ((repeat (first | with_reducible exact Tk.here | apply Tk.there)); done))))); done))) (fun v Post hv => ?_)
  obtain ⟨w1, hR1, rfl, rfl⟩ := hv
  have hi1 : AInv (openM s 2 a).2.2 := filedM_inv hi (openF_inv (takeA_inv hi) (by show 0 ≤ a.seq; have := hR.ok.seq; rw [hR.seq] at this; exact this.1))
  simp only [WMem, List.cons_append, List.nil_append]
  refine GO ?_
  refine st_alloc (fun p7 => ?_)
  refine GO ?_
  by_cases o1 : (openM s 2 a).2.1 = 0
  rotate_left
  · simp only [o1, decide_false, Bool.not_false]
    refine GO ?_
    have hl : layM s (pcs b) a = (openM s 2 a).2 := by unfold layM; rw [if_neg o1]
    rw [hl]
    exact ⟨.inr rfl, [vi (openM s 2 a).2.1], WMem t w1, .cell1 (by rfl) (by simp [cellsAt]) .nil, by simp only [WMem]; (first | with_reducible exact Imp.refl | with_reducible exact Imp.left | (focus ((try simp only [List.nil_append]); (repeat (first | exact Imp.nil | (apply Imp.cons; (focus ((repeat (first | with_reducible exact Tk.here | apply Tk.there)); done))))); done))), ⟨w1, M + 1, by omega, hR1, hi1, rfl, rfl⟩⟩
  have hl : layM s (pcs b) a = cloM (openM s 2 a).1.handle (synM (openM s 2 a).1.handle (wrAll (openM s 2 a).1.handle (pcs b) (openM s 2 a).2.2)) := by unfold layM; rw [if_pos o1]
  rw [hl]
  simp only [o1, decide_true, Bool.not_true]
  generalize (openM s 2 a).1.handle = n at hl ⊢
  generalize (openM s 2 a).2.2 = a1 at hl hR1 hi1 ⊢
  refine GO ?_
  refine ⟨[ptr0 p3, ptr0 p7, ptr0 p6], by rfl, ?_⟩
  refine GO ?_
  refine st_call (pieces_spec b) (by rfl) Spl.nil (fun v Post hv => ?_)
  obtain ⟨q, rfl, rfl⟩ := hv
  simp only [List.cons_append, List.nil_append]
  refine GO ?_
  refine VC.imp (H' := [cellsAt q 0 [.string b], ([cellsAt p3 0 [ptr0 t], cellsAt p7 0 [vi n], cellsAt p6 0 [vi 0]] ++ WMem t w1).flatten]) (Imp.cut (M := cellsAt q 0 [.string b] :: ([cellsAt p3 0 [ptr0 t], cellsAt p7 0 [vi n], cellsAt p6 0 [vi 0]] ++ WMem t w1)) (by simp only [WMem, List.cons_append, List.nil_append]; (first | with_reducible exact Imp.refl | with_reducible exact Imp.left | (focus ((try simp only [List.nil_append]); (repeat (first | exact Imp.nil | (apply Imp.cons; (focus ((repeat (first | with_reducible exact Tk.here | apply Tk.there)); done))))); done)))) (Imp.perm (by simp))) ?_
  refine VC.rangef (α := ByteArray) (enc := fun x => [.string x]) (fun c A => ∃ w' M', M' ≤ M + 1 + c.length ∧ (wrAll n c a1).1 = 0 ∧ Rep w' (wrAll n c a1).2 M' ∧ AInv (wrAll n c a1).2 ∧ A = ([cellsAt p3 0 [ptr0 t], cellsAt p7 0 [vi n], cellsAt p6 0 [vi 0]] ++ WMem t w').flatten) (([cellsAt p3 0 [ptr0 t], cellsAt p7 0 [vi n], cellsAt p6 0 [vi 0]] ++ WMem t w1).flatten) (by rfl) (pieces_iter q b hb) (R := [([cellsAt p3 0 [ptr0 t], cellsAt p7 0 [vi n], cellsAt p6 0 [vi 0]] ++ WMem t w1).flatten]) (by simp [V.Spl]) (Imp.refl _)
    ⟨w1, M + 1, Nat.le_refl _, rfl, hR1, hi1, rfl⟩ (fun _ => rfl) ?_ ?_
  · rintro c x A hok ⟨w', M', hM', hc0, hR', hi', rfl⟩
    obtain ⟨hx1, hx2⟩ := pcs_mem hok
    simp only [bindE]
    refine VC.imp (H' := [cellsAt p3 0 [ptr0 t], cellsAt p7 0 [vi n], cellsAt p6 0 [vi 0]] ++ WMem t w') (Imp.perm (by simp)) ?_
    simp only [WMem, List.cons_append, List.nil_append]
    refine VC.reg ?_
    refine GO ?_
    refine ⟨trivial, ?_⟩
    refine GO ?_
    refine st_call (write_spec t w' _ M' (by omega) hR' n x (by omega)) (by rfl) (by simp only [WMem]; (focus ((repeat (first | exact Spl.nil | (apply Spl.cons; (focus ((repeat (first | with_reducible exact Tk.here | apply Tk.there)); done))))); done))) (fun v Post hv => ?_)
    obtain ⟨w2, hR2, rfl, rfl⟩ := hv
    have hi2 : AInv (writeM n x (wrAll n c a1).2).2.2 := filedM_inv hi' (writeF_inv (takeA_inv hi') hR'.hin (by show 0 ≤ (wrAll n c a1).2.seq; have := hR'.ok.seq; rw [hR'.seq] at this; exact this.1))
    have hsn := wrAll_snoc (n := n) (c := c) (x := x) (a := a1)
    rw [if_pos hc0] at hsn
    simp only [WMem, List.cons_append, List.nil_append]
    refine GO ?_
    by_cases e1 : (writeM n x (wrAll n c a1).2).2.1 = 0
    · simp only [e1, decide_true, Bool.not_true]
      refine GO ?_
      refine ⟨([cellsAt p3 0 [ptr0 t], cellsAt p7 0 [vi n], cellsAt p6 0 [vi 0]] ++ WMem t w2).flatten, ⟨w2, M' + 1, by simp only [List.length_append, List.length_singleton]; omega, by rw [hsn]; exact e1, by rw [hsn]; exact hR2, by rw [hsn]; exact hi2, rfl⟩, ?_⟩
      exact Imp.cut (M := [cellsAt p3 0 [ptr0 t], cellsAt p7 0 [vi n], cellsAt p6 0 [vi 0]] ++ WMem t w2) (by simp only [WMem, List.cons_append, List.nil_append]; (first | with_reducible exact Imp.refl | with_reducible exact Imp.left | (focus ((try simp only [List.nil_append]); (repeat (first | exact Imp.nil | (apply Imp.cons; (focus ((repeat (first | with_reducible exact Tk.here | apply Tk.there)); done))))); done)))) (Imp.perm (by simp))
    · simp only [e1, decide_false, Bool.not_false]
      refine GO ?_
      obtain ⟨tt, htt⟩ := hok
      have hw : wrAll n (pcs b) a1 = ((writeM n x (wrAll n c a1).2).2.1, (writeM n x (wrAll n c a1).2).2.2) := by
        rw [← htt, wrAll_stop (by rw [hsn]; exact e1), hsn]
      have hsy : synM n (wrAll n (pcs b) a1) = ((writeM n x (wrAll n c a1).2).2.1, (writeM n x (wrAll n c a1).2).2.2) := by rw [hw]; unfold synM; rw [if_neg e1]
      rw [hsy]
      refine lay_end t w2 _ (M' + 1) (by omega) hR2 p3 p7 p6 n _ (by rfl) (by simp only [WMem, List.cons_append, List.nil_append]; (first | with_reducible exact Imp.refl | with_reducible exact Imp.left | (focus ((try simp only [List.nil_append]); (repeat (first | exact Imp.nil | (apply Imp.cons; (focus ((repeat (first | with_reducible exact Tk.here | apply Tk.there)); done))))); done)))) (fun w3 h3 => ⟨w3, M' + 1 + 1, by omega, h3, filedM_inv hi2 (closeF_inv (takeA_inv hi2)), rfl, rfl⟩) (.inr rfl)
  · rintro full A rfl ⟨w', M', hM', hc0, hR', hi', rfl⟩
    rw [pcs_len] at hM'
    simp only [V.blockQ, V.thenQ]
    refine VC.imp (H' := [cellsAt p3 0 [ptr0 t], cellsAt p7 0 [vi n], cellsAt p6 0 [vi 0]] ++ WMem t w') (Imp.perm (by simp)) ?_
    simp only [WMem, List.cons_append, List.nil_append]
    refine GO ?_
    refine st_call (sync_spec t w' _ M' (by omega) hR' n) (by rfl) (by simp only [WMem]; (focus ((repeat (first | exact Spl.nil | (apply Spl.cons; (focus ((repeat (first | with_reducible exact Tk.here | apply Tk.there)); done))))); done))) (fun v Post hv => ?_)
    obtain ⟨w2, hR2, rfl, rfl⟩ := hv
    have hi2 : AInv (syncM n (wrAll n (pcs b) a1).2).2.2 := filedM_inv hi' (syncF_inv (takeA_inv hi') hR'.hin)
    have hsy : synM n (wrAll n (pcs b) a1) = ((syncM n (wrAll n (pcs b) a1).2).2.1, (syncM n (wrAll n (pcs b) a1).2).2.2) := by unfold synM; rw [if_pos hc0]
    rw [hsy]
    simp only [WMem, List.cons_append, List.nil_append]
    refine GO ?_
    refine lay_end t w2 _ (M' + 1) (by omega) hR2 p3 p7 p6 n _ (by rfl) (by simp only [WMem, List.cons_append, List.nil_append]; (first | with_reducible exact Imp.refl | with_reducible exact Imp.left | (focus ((try simp only [List.nil_append]); (repeat (first | exact Imp.nil | (apply Imp.cons; (focus ((repeat (first | with_reducible exact Tk.here | apply Tk.there)); done))))); done)))) (fun w3 h3 => ⟨w3, M' + 1 + 1, by omega, h3, filedM_inv hi2 (closeF_inv (takeA_inv hi2)), rfl, rfl⟩) (.inr rfl)
end Go.Proofs.Ytklkngccaemjdaa
namespace Go.V
open Go
def saveM (name : ByteArray) (ps : List ByteArray) (a : AW) : Int × AW :=
  if (layM (name ++ tmpB) ps a).1 = 0 then (renameM (name ++ tmpB) name (layM (name ++ tmpB) ps a).2).2 else layM (name ++ tmpB) ps a
/-- What a file has; whether it is there. -/
def heldA (a : AW) (name : ByteArray) : ByteArray × Bool := match mget name a.names with
  | some j => (ftxt (fileAt a j).now, true)
  | none => (⟨#[]⟩, false)
end Go.V
namespace Go.Proofs.Ytklkngccaemjdaa
open Go Go.V
set_option maxHeartbeats 6400000
set_option maxRecDepth 100000
set_option linter.unusedSimpArgs false
set_option linter.unusedVariables false

theorem save_spec (t : Nat) (w : WR) (a : AW) (M : Nat) (s b : ByteArray) (hM : M + pcN b + 4 ≤ 1073741823) (hR : Rep w a M) (hs : s.size ≤ 1073741824) (hb : b.size ≤ 1073741824) (hi : AInv a) :
    Fun Try.prog 23 [ptr0 t, .string s, .string b] (WMem t w) (fun v Post => ∃ w' M', M' ≤ M + pcN b + 4 ∧ Rep w' (saveM s (pcs b) a).2 M' ∧ AInv (saveM s (pcs b) a).2 ∧ v = vi (saveM s (pcs b) a).1 ∧ Post = WMem t w') := by
  have htmp : (s ++ tmpB).size = s.size + 4 := by rw [ByteArray.size_append]; rfl
  refine Fun.intro low23 (by simp [F23]) ?_
  simp only [WMem]
  refine GO ?_
  refine st_call (temporary_spec s hs) (by rfl) Spl.nil (fun v Post hv => ?_)
  obtain ⟨rfl, rfl⟩ := hv
  simp only [List.nil_append]
  refine GO ?_
  refine st_call (lay_spec t w a M (s ++ tmpB) b (by omega) hR (by omega) hb hi) (by rfl) (by simp only [WMem]; (focus ((repeat (first | exact Spl.nil | (apply Spl.cons; (focus ((repeat (first | with_reducible exact Tk.here | apply Tk.there)); done))))); done))) (fun v Post hv => ?_)
  obtain ⟨w1, M1, hM1, hR1, hi1, rfl, rfl⟩ := hv
  simp only [WMem, List.cons_append, List.nil_append]
  refine GO ?_
  by_cases h1 : (layM (s ++ tmpB) (pcs b) a).1 = 0
  rotate_left
  · have hl : saveM s (pcs b) a = layM (s ++ tmpB) (pcs b) a := by unfold saveM; rw [if_neg h1]
    rw [hl]
    simp only [h1, decide_false, Bool.not_false]
    refine GO ?_
    exact endQ_mk (Post := WMem t w1) (.inr rfl) (.tmp (by rfl) .nil) ⟨w1, M1, by omega, hR1, hi1, rfl, rfl⟩ (by simp only [WMem]; (first | with_reducible exact Imp.refl | with_reducible exact Imp.left | (focus ((try simp only [List.nil_append]); (repeat (first | exact Imp.nil | (apply Imp.cons; (focus ((repeat (first | with_reducible exact Tk.here | apply Tk.there)); done))))); done))))
  have hl : saveM s (pcs b) a = (renameM (s ++ tmpB) s (layM (s ++ tmpB) (pcs b) a).2).2 := by unfold saveM; rw [if_pos h1]
  rw [hl]
  simp only [h1, decide_true, Bool.not_true]
  refine GO ?_
  refine st_call (temporary_spec s hs) (by rfl) Spl.nil (fun v Post hv => ?_)
  obtain ⟨rfl, rfl⟩ := hv
  simp only [List.nil_append]
  refine GO ?_
  refine st_call (rename_spec t w1 _ M1 (by omega) hR1 (s ++ tmpB) s (by omega) (by omega)) (by rfl) (by simp only [WMem]; (focus ((repeat (first | exact Spl.nil | (apply Spl.cons; (focus ((repeat (first | with_reducible exact Tk.here | apply Tk.there)); done))))); done))) (fun v Post hv => ?_)
  obtain ⟨w2, hR2, rfl, rfl⟩ := hv
  have hi2 : AInv (renameM (s ++ tmpB) s (layM (s ++ tmpB) (pcs b) a).2).2.2 := filedM_inv hi1 (renameF_inv (takeA_inv hi1))
  generalize renameM (s ++ tmpB) s (layM (s ++ tmpB) (pcs b) a).2 = r at hR2 hi2 ⊢
  simp only [WMem, List.cons_append, List.nil_append]
  refine GO ?_
  exact endQ_mk (Post := WMem t w2) (.inr rfl) (.tmp (by rfl) .nil) ⟨w2, M1 + 1, by omega, hR2, hi2, rfl, rfl⟩ (by simp only [WMem]; (first | with_reducible exact Imp.refl | with_reducible exact Imp.left | (focus ((try simp only [List.nil_append]); (repeat (first | exact Imp.nil | (apply Imp.cons; (focus ((repeat (first | with_reducible exact Tk.here | apply Tk.there)); done))))); done))))

theorem held_spec2 (t : Nat) (w : WR) (a : AW) (M : Nat) (hM : M ≤ 1073741823) (hR : Rep w a M) (name : ByteArray) :
    Fun Try.prog 22 [ptr0 t, .string name] (WMem t w) (fun v Post => v = .tuple #[.string (heldA a name).1, .bool (heldA a name).2] ∧ Post = WMem t w) := by
  refine Fun.intro low22 (by simp [F22]) ?_
  simp only [WMem]
  refine GO ?_
  refine st_call (files_spec t w a M hM hR) (by rfl) (by simp only [WMem]; (focus ((repeat (first | exact Spl.nil | (apply Spl.cons; (focus ((repeat (first | with_reducible exact Tk.here | apply Tk.there)); done))))); done))) (fun v Post hv => ?_)
  obtain ⟨ys, sp, hys, hv, rfl⟩ := hv
  have hylen : ys.length ≤ 1073741823 := by
    have := hys.1.length_eq
    have h4 := hR.ok.files
    rw [hR.nlen] at h4
    rw [List.length_map] at this; omega
  obtain ⟨va, vc, rfl⟩ := hv.form
  have hrd := hv.rd
  simp only [WMem, List.cons_append, List.nil_append]
  generalize slA (.slice va ys.length vc) ((ys.map (fileOf a)).flatMap fiEnc) sp = B at hrd ⊢
  rw [show ys.length = (ys.map (fileOf a)).length by simp] at hrd
  refine GO ?_
  refine VC.loop (α := Nat) (Γf := fun k => [(1, .string name), (6, .slice va ys.length vc), (7, vi k)]) (Hf := fun _ => B :: WMem t w) (I := fun k => k ≤ ys.length ∧ name ∉ ys.take k) (μ := fun k => ys.length - k) 0 ⟨Nat.zero_le _, by simp⟩ (by (repeat (first | exact Sub.nil | (apply Sub.cons; rfl)))) (by simp only [WMem]; (first | with_reducible exact Imp.refl | with_reducible exact Imp.left | (focus ((try simp only [List.nil_append]); (repeat (first | exact Imp.nil | (apply Imp.cons; (focus ((repeat (first | with_reducible exact Tk.here | apply Tk.there)); done))))); done)))) ?_
  rintro k ⟨hk, hno⟩
  simp only [WMem]
  refine GO ?_
  (first | (apply VC.seq_cond; rfl) | (apply VC.cond; rfl))
  rotate_left
  · intro hge
    have hge : ¬ k < ys.length := by simpa using hge
    rw [List.take_of_length_le (by omega)] at hno
    have hnone : mget name a.names = none := by
      cases hm : mget name a.names with
      | none => rfl
      | some j => exact absurd (hys.1.mem_iff.2 (List.mem_map_of_mem (f := fun p : ByteArray × Nat => p.1) (mget_mem hm))) hno
    refine GO ?_
    exact endQ_mk (Post := WMem t w) (.inr rfl) (.tmp (by rfl) (.tmp (by rfl) .nil)) ⟨by simp only [heldA, hnone]; rfl, rfl⟩ (by simp only [WMem]; (first | with_reducible exact Imp.refl | with_reducible exact Imp.left | (focus ((try simp only [List.nil_append]); (repeat (first | exact Imp.nil | (apply Imp.cons; (focus ((repeat (first | with_reducible exact Tk.here | apply Tk.there)); done))))); done))))
  intro hlt
  have hlt : k < ys.length := by simpa using hlt
  obtain ⟨n, hn⟩ : ∃ n, ys[k]? = some n := ⟨ys[k], by simp [hlt]⟩
  obtain ⟨b, o, c, hve, hcell⟩ := hrd.at_ (enc := fiEnc) (fun p => rfl) (i := k) (x := fileOf a n) (by simp [hn])
  simp only [Value.slice.injEq, true_and, List.length_map] at hve
  obtain ⟨rfl, rfl⟩ := hve
  have m0 : Atom.cell b (o + k * 2) (.string n) ∈ B := hcell _ (mem_cellsAt.2 ⟨0, _, rfl, rfl⟩)
  have m1 : Atom.cell b (o + k * 2 + 1) (.string (ftxt (nowOf a n))) ∈ B := hcell _ (mem_cellsAt.2 ⟨1, _, rfl, rfl⟩)
  refine GO ?_
  by_cases c1 : n = name
  · simp only [decide_eq_true c1]
    refine GO ?_
    obtain ⟨j, hj⟩ := mget_some_of (hys.1.mem_iff.1 (List.mem_of_getElem? hn))
    have hheld : heldA a name = (ftxt (nowOf a n), true) := by rw [c1] at hj ⊢; simp only [heldA, hj, nowOf_at hj]
    exact endQ_mk (Post := WMem t w) (.inr rfl) (.tmp (by rfl) (.tmp (by rfl) .nil)) ⟨by rw [hheld]; rfl, rfl⟩ (by simp only [WMem]; (first | with_reducible exact Imp.refl | with_reducible exact Imp.left | (focus ((try simp only [List.nil_append]); (repeat (first | exact Imp.nil | (apply Imp.cons; (focus ((repeat (first | with_reducible exact Tk.here | apply Tk.there)); done))))); done))))
  · simp only [decide_eq_false c1]
    refine GO ?_
    refine ⟨k + 1, ⟨by omega, ?_⟩, by omega, by (repeat (first | exact Sub.nil | (apply Sub.cons; rfl))), by (try simp only [WMem]); (first | with_reducible exact Imp.refl | with_reducible exact Imp.left | (focus ((try simp only [List.nil_append]); (repeat (first | exact Imp.nil | (apply Imp.cons; (focus ((repeat (first | with_reducible exact Tk.here | apply Tk.there)); done))))); done)))⟩
    rw [List.take_add_one, hn]
    simp only [Option.toList_some, List.mem_append, List.mem_singleton, not_or]
    exact ⟨hno, fun e => c1 e.symm⟩
end Go.Proofs.Ytklkngccaemjdaa

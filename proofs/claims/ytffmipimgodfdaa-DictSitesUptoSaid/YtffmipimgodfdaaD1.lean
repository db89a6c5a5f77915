/-
  Contracts: is, Counts, place, walk.
-/
import Derived.Test.YtffmipimgodfdaaD0
import Derived.Test.YtffmipimgodfdaaDM
namespace Go.Proofs.Ytffmipimgodfdaa
open Go Go.V
set_option maxHeartbeats 800000
set_option linter.unusedSimpArgs false
set_option linter.unusedVariables false
theorem is_spec (t : Nat) (cl : Int) (sa : Option Addr) (n c : Nat) (dv : Value) :
    Fun Try.prog 25 [ptr0 t, vi cl] [cellsAt t 0 [.slice sa n c, dv]]
      (fun v Post => v = .bool (decide (0 ≤ cl) && decide (cl < n)) ∧ Post = [cellsAt t 0 [.slice sa n c, dv]]) := by
  refine Fun.intro low25 (by simp [F25]) ?_
  refine GO ?_
  refine st_case (s := 7) (by rfl) (fun h => ?_) (fun h => ?_)
  all_goals refine GO ?_
  all_goals refine ⟨.inr rfl, _, _, .tmp (by rfl) .nil, by (first | with_reducible exact Imp.refl | with_reducible exact Imp.left | (focus ((try simp only [List.nil_append]); (repeat (first | exact Imp.nil | (apply Imp.cons; (focus ((repeat (first | with_reducible exact Tk.here | apply Tk.there)); done))))); done))), ?_, rfl⟩
  all_goals simp [tup, h]

theorem counts_spec (t : Nat) (T : Tel) :
    Fun Try.prog 11 [ptr0 t] [cellsAt t 195 (telEnc T)]
      (fun v Post => v = .agg (telEnc T).toArray ∧ Post = [cellsAt t 195 (telEnc T)]) := by
  refine Fun.intro low11 (by simp [F11]) ?_
  refine GO ?_
  refine st_alloc (fun q => ?_)
  refine GO ?_
  refine st_loadN (us := telEnc T) (by rfl) ?_ (by rfl) ?_
  · exact .there (.cells (by omega) (by rfl) (by rfl))
  unfold telEnc
  refine GO ?_
  refine ⟨.inr rfl, _, _, .cellN (us := telEnc T) (by rfl) (by rfl) (fun x hx => List.mem_append_left _ hx) .nil, by (first | with_reducible exact Imp.refl | with_reducible exact Imp.left | (focus ((try simp only [List.nil_append]); (repeat (first | exact Imp.nil | (apply Imp.cons; (focus ((repeat (first | with_reducible exact Tk.here | apply Tk.there)); done))))); done))), by rfl, rfl⟩

theorem place_spec (c : Int) (s : ByteArray) (hc : 0 ≤ c ∧ c < 4096) (hs : s.size ≤ 1048576) :
    Fun Try.prog 51 [.agg #[vi c, .string s]] [] (fun v Post => v = vi (placeN c s) ∧ Post = []) := by
  refine Fun.intro low51 (by simp [F51]) ?_
  refine GO ?_
  refine st_box (by rfl) (fun q => ?_)
  simp only [Value.cells]
  refine GO ?_
  refine VC.loop (α := Nat) (Γf := fun k => [(1, ptr0 q), (3, vi (31 * c + s.size + psum s k)), (14, vi s.size), (15, vi k)]) (Hf := fun _ => [cellsAt q 0 [vi c, .string s]])
    (I := fun k => k ≤ s.size) (μ := fun k => s.size - k) 0 (by omega) ?_ (by (first | with_reducible exact Imp.refl | with_reducible exact Imp.left | (focus ((try simp only [List.nil_append]); (repeat (first | exact Imp.nil | (apply Imp.cons; (focus ((repeat (first | with_reducible exact Tk.here | apply Tk.there)); done))))); done)))) (fun k hk => ?_)
  · refine Sub.cons (by rfl) (Sub.cons ?_ (Sub.cons (by rfl) (Sub.cons (by rfl) Sub.nil)))
    simp [V.look, psum]
  have hp := psum_le s k (by omega)
  refine GO ?_
  refine VC.seq_cond (by rfl) (fun h => ?_) (fun h => ?_)
  · have hlt : k < s.size := by simpa using h
    have hp1 := psum_le s (k + 1) (by omega)
    have hb := (s[k]).toNat_lt
    have hst : psum s (k + 1) = psum s k + (s[k]).toNat * (k + 1) := by simp [psum, hlt]
    have hm : ((s[k]).toNat : Int) * ((k : Int) + 1) = ((s[k]).toNat * (k + 1) : Nat) := by simp
    have hm2 : (s[k]).toNat * (k + 1) ≤ 255 * 1048576 := Nat.mul_le_mul (by omega) (by omega)
    refine GO ?_
    refine st_idxS (by rfl) (by rfl) (j := k) (by rfl) (c := s[k]) (by simp [hlt]) ?_
    refine st_conv (b := ((s[k]).toNat : Int)) (by rfl) (by simp [IntKind.wrap, IntKind.bits, IntKind.signed]; omega) ?_
    refine GO ?_
    refine ⟨k + 1, by omega, by omega, ?_, by (first | with_reducible exact Imp.refl | with_reducible exact Imp.left | (focus ((try simp only [List.nil_append]); (repeat (first | exact Imp.nil | (apply Imp.cons; (focus ((repeat (first | with_reducible exact Tk.here | apply Tk.there)); done))))); done)))⟩
    rw [hst]
    refine Sub.cons (by rfl) (Sub.cons ?_ (Sub.cons (by rfl) (Sub.cons (by rfl) Sub.nil)))
    simp [V.look]; omega
  · have hge : ¬ k < s.size := by simpa using h
    obtain rfl : k = s.size := by omega
    refine GO ?_
    refine ⟨.inr rfl, _, _, .tmp (by rfl) .nil, by (first | with_reducible exact Imp.refl | with_reducible exact Imp.left | (focus ((try simp only [List.nil_append]); (repeat (first | exact Imp.nil | (apply Imp.cons; (focus ((repeat (first | with_reducible exact Tk.here | apply Tk.there)); done))))); done))), ?_, rfl⟩
    simp only [tup, placeN]
    rw [Int.tmod_eq_emod_of_nonneg (by omega)]
    congr 1
    omega

theorem plain_le (R : Rep) (s : ByteArray) (c : Int) : (plain R c s).2 ≤ (c + 1).toNat := plainF_steps R s _ c

theorem walk_spec (t : Nat) (R : Rep) (c : Int) (s : ByteArray) (h : WF R) (N : Nat) (hN : N ≤ 140737488355328) (hT : TelOk R.tel N) (hc : 0 ≤ c ∧ c < R.sup.length) :
    Fun Try.prog 52 [ptr0 t, vi c, .string s] (Core t R) (fun v Post => v = okM (plain R c s).1 ∧ Post = Core t { R with tel := R.tel.walk (plain R c s).2 }) := by
  obtain ⟨t1, t2, t3, t4, t5⟩ := hT
  have hsm := h.small
  obtain ⟨sb, so, sc, hsv, _, _⟩ := h.sup.some (by omega)
  obtain ⟨db, dof, dc, hdv, _, _⟩ := h.dv.some (by omega)
  refine Fun.intro low52 (by simp [F52]) ?_
  simp only [Core, hsv, hdv, slA, telEnc, Tel.walk]
  refine GO ?_
  refine VC.loop (α := Int × Nat) (Γf := fun x => [(0, ptr0 t), (1, vi x.1), (2, .string s)]) (Hf := fun x => [cellsAt t 195 [vi R.tel.asked, vi R.tel.inl, vi R.tel.glob, vi (R.tel.walked + 1), vi (R.tel.steps + x.2)], cellsAt t 0 [.slice (some ⟨sb, so, none⟩) R.sup.length sc, .slice (some ⟨db, dof, none⟩) R.sup.length dc], cellsAt sb so (R.sup.map vi ++ R.ssp), cellsAt db dof ((R.dics.map fun d => .map (some d.b)) ++ []), R.dics.flatMap dAtoms, cellsAt t 2 (R.glob.flatMap kEnc)])
    (I := fun x => -1 ≤ x.1 ∧ x.1 < R.sup.length ∧ x.2 + (x.1 + 1).toNat ≤ (c + 1).toNat ∧ (plain R c s).1 = (plain R x.1 s).1 ∧ (plain R c s).2 = x.2 + (plain R x.1 s).2) (μ := fun x => (x.1 + 1).toNat) (c, 0) (by simp; omega) (by (repeat (first | exact Sub.nil | (apply Sub.cons; rfl)))) (by simp; (first | with_reducible exact Imp.refl | with_reducible exact Imp.left | (focus ((try simp only [List.nil_append]); (repeat (first | exact Imp.nil | (apply Imp.cons; (focus ((repeat (first | with_reducible exact Tk.here | apply Tk.there)); done))))); done)))) (fun x hx => ?_)
  obtain ⟨x1, x2, x3, x4, x5⟩ := hx
  obtain ⟨x, k⟩ := x
  simp only at x1 x2 x3 x4 x5
  refine GO ?_
  refine VC.cond (by rfl) (fun hge => ?_) (fun hge => ?_)
  · have hge : 0 ≤ x := by simpa using hge
    obtain ⟨d, hd, hdm, hmi⟩ := dic_at h hge x2
    have hst := plain_step h s hge x2
    obtain ⟨u1, u2⟩ := up_lt h hge x2
    have hup : R.sup[x.toNat]? = some (R.up x) := by
      have : x.toNat < R.sup.length := by omega
      simp [Rep.up, this]
    refine GO ?_
    refine st_load1 (by rfl) (.there (.there (.there (Has.row (v := .map (some d.b)) (by simp [hd]))))) ?_
    refine GO ?_
    refine st_lookup (E := kStr) (V := vi) (k := s) (by rfl) (by rfl) (by rfl) (.there (.there (.there (.there (.among (mem_dAtoms hd)))))) hmi ?_
    rw [hdm] at hst
    cases hg : mget s d.m with
    | none =>
      rw [hg] at hst
      simp only at hst
      simp only [lookV, Option.map_none]
      refine GO ?_
      refine st_load1 (by rfl) (.there (.there (Has.row (v := vi (R.up x)) (by simp [hup])))) ?_
      refine GO ?_
      refine ⟨(R.up x, k + 1), ⟨u1, by omega, by simp; omega, by simp [x4, hst], by simp [x5, hst]; omega⟩, by simp; omega, by (repeat (first | exact Sub.nil | (apply Sub.cons; rfl))), by simp [Int.add_assoc]; (first | with_reducible exact Imp.refl | with_reducible exact Imp.left | (focus ((try simp only [List.nil_append]); (repeat (first | exact Imp.nil | (apply Imp.cons; (focus ((repeat (first | with_reducible exact Tk.here | apply Tk.there)); done))))); done)))⟩
    | some m =>
      rw [hg] at hst
      simp only at hst
      simp only [lookV, Option.map_some]
      refine GO ?_
      refine ⟨.inr rfl, _, _, .tmp (by rfl) (.tmp (by rfl) .nil), (by simp [x5, hst, Int.add_assoc]; (first | with_reducible exact Imp.refl | with_reducible exact Imp.left | (focus ((try simp only [List.nil_append]); (repeat (first | exact Imp.nil | (apply Imp.cons; (focus ((repeat (first | with_reducible exact Tk.here | apply Tk.there)); done))))); done)))), ?_, rfl⟩
      simp [x4, hst, okM, tup]
  · have hge : x = -1 := by simp at hge; omega
    subst hge
    have hp := plain_neg (R := R) (c := -1) s (by omega)
    refine GO ?_
    refine ⟨.inr rfl, _, _, .tmp (by rfl) (.tmp (by rfl) .nil), (by simp [x5, hp, Int.add_assoc]; (first | with_reducible exact Imp.refl | with_reducible exact Imp.left | (focus ((try simp only [List.nil_append]); (repeat (first | exact Imp.nil | (apply Imp.cons; (focus ((repeat (first | with_reducible exact Tk.here | apply Tk.there)); done))))); done)))), ?_, rfl⟩
    simp [x4, hp, okM, tup]
end Go.Proofs.Ytffmipimgodfdaa

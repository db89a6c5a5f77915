/-
  Contracts, upon dictionaries as lists; a call; plain.
-/
import Derived.Test.YtffmipimgodfdaaD7
import Derived.Test.YtffmipimgodfdaaDA
namespace Go.Proofs.Ytffmipimgodfdaa
open Go Go.V
set_option maxHeartbeats 1600000
set_option maxRecDepth 100000
set_option linter.unusedSimpArgs false
set_option linter.unusedVariables false
theorem inst_abs {t : Nat} {R : Rep} {N : Nat} {c : Int} {s : ByteArray} {m : Int} {v : Value} {Post : SH} (h : Fine R N) (hp : InstP t R c s m v Post) :
    v = vi (instE R.abs c s) ∧ ∃ R', Fine R' N ∧ R'.abs = instA R.abs c s m ∧ Post = Full t R' ∧ R'.tel = R.tel ∧ (Quiet R → Quiet R') := by
  unfold InstP at hp
  have hd := abs_dic R c
  by_cases hc : 0 ≤ c ∧ c < R.sup.length
  · have hok : R.abs.ok c := hc
    rw [if_pos hc] at hp
    unfold instA instE
    rw [if_pos hok, ← hd]
    by_cases h1 : s.size < 1 ∨ 640 < s.size
    · rw [if_pos h1] at hp ⊢
      exact ⟨hp.1, R, h, by simp, hp.2, rfl, fun q => q⟩
    · rw [if_neg h1] at hp ⊢
      by_cases h2 : mget s (R.dic c) = none ∧ 4096 ≤ (R.dic c).length
      · rw [if_pos h2] at hp ⊢
        exact ⟨hp.1, R, h, by simp, hp.2, rfl, fun q => q⟩
      · rw [if_neg h2] at hp ⊢
        obtain ⟨d, es, e1, _, e3, e4, e5⟩ := hp
        obtain ⟨g1, g2⟩ := h.laid hc (d := d) (fun u hu => by rw [e1, mget_mset, if_neg (fun e => hu e.symm)]) e3
        exact ⟨e4, _, g1, by rw [g2, e1, if_pos rfl], e5, rfl, fun q => Quiet.forget (R := layR R c d) q _ _⟩
  · have hok : ¬ R.abs.ok c := hc
    rw [if_neg hc] at hp
    unfold instA instE
    rw [if_neg hok]
    exact ⟨hp.1, R, h, by simp, hp.2, rfl, fun q => q⟩

theorem rem_abs {t : Nat} {R : Rep} {N : Nat} {c : Int} {s : ByteArray} {v : Value} {Post : SH} (h : Fine R N) (hp : RemP t R c s v Post) :
    v = vi (remE R.abs c s) ∧ ∃ R', Fine R' N ∧ R'.abs = remA R.abs c s ∧ Post = Full t R' := by
  unfold RemP at hp
  have hd := abs_dic R c
  by_cases hc : 0 ≤ c ∧ c < R.sup.length
  · have hok : R.abs.ok c := hc
    rw [if_pos hc] at hp
    unfold remA remE
    rw [if_pos hok, ← hd]
    by_cases h2 : mget s (R.dic c) = none
    · rw [if_pos h2] at hp ⊢
      exact ⟨hp.1, R, h, by simp, hp.2⟩
    · rw [if_neg h2] at hp ⊢
      obtain ⟨d, es, e1, _, e3, e4, e5⟩ := hp
      have hlen := h.wf.len
      have hn : ((R.dic c).map (·.1)).Nodup := by
        obtain ⟨d0, q1, q2, _⟩ := dic_at h.wf hc.1 hc.2
        rw [q2]; exact h.wf.keys d0 (List.mem_of_getElem? q1)
      obtain ⟨g1, g2⟩ := h.laid hc (d := d) (fun u hu => by rw [e1, mget_mdel hn, if_neg (fun e => hu e.symm)]) e3
      exact ⟨e4, _, g1, by rw [g2, e1, if_pos rfl], e5⟩
  · have hok : ¬ R.abs.ok c := hc
    rw [if_neg hc] at hp
    unfold remA remE
    rw [if_neg hok]
    exact ⟨hp.1, R, h, by simp, hp.2⟩

theorem send_abs {t : Nat} {R : Rep} {N : Nat} {at_ c : Int} {s : ByteArray} {v : Value} {Post : SH} (h : Fine R N) (hp : SendP t R at_ c s v Post) :
    v = okE (if sendE R.abs at_ c = 0 then lookA R.abs c s else none) (sendE R.abs at_ c) ∧ ∃ R', Fine R' (N + 1) ∧ R'.abs = sendA R.abs at_ c ∧ Post = Full t R' := by
  unfold SendP at hp
  unfold sendA sendE
  by_cases ha : 0 ≤ at_ ∧ at_ < 65536
  · rw [if_pos ha] at hp ⊢
    by_cases hc : 0 ≤ c ∧ c < R.sup.length
    · have hok : R.abs.ok c := hc
      rw [if_pos hc] at hp
      rw [if_pos hok, if_pos rfl]
      obtain ⟨b, es, k, x, R1, e1, e2, e3, e4, e5⟩ := hp
      obtain ⟨g1, g2, g3⟩ := h.send hc e1 e2 e3
      refine ⟨?_, _, g2, g3.trans (by rw [if_pos rfl]; rfl), e5⟩
      rw [e4, g1, ← pl_abs, pl, if_pos hc]
    · have hok : ¬ R.abs.ok c := hc
      rw [if_neg hc] at hp
      rw [if_neg hok]
      exact ⟨by rw [hp.1]; rfl, R, h.more (by omega), by simp, hp.2⟩
  · rw [if_neg ha] at hp ⊢
    exact ⟨by rw [hp.1]; rfl, R, h.more (by omega), by simp, hp.2⟩

theorem lookR_sites (t : Nat) (R : Rep) (c : Int) (s : ByteArray) : SitesI t R = SitesI t (lookR R c s).2 := by
  unfold lookR
  split
  · obtain ⟨h1, h2, h3, h4⟩ := askR_sites R.ask1 c s
    simp only [SitesI, h1, h2, h3, h4]; rfl
  · rfl

theorem call_spec (t : Nat) (R : Rep) (N : Nat) (k c : Int) (s : ByteArray) (m at_ : Int) (h : Fine R N) (hN : N < 140737488355328) (hs : s.size ≤ 1048576) :
    Fun Try.prog 9 [ptr0 t, .agg #[vi k, vi c, .string s, vi m, vi at_]] (Full t R) (fun v Post => v = .tuple #[] ∧ ∃ R', Fine R' (N + 1) ∧ R'.abs = callA R.abs k c s m at_ ∧ Post = Full t R') := by
  refine Fun.intro low9 (by simp [F9]) ?_
  refine VC.seq_reg ?_
  refine st_box (by rfl) (fun q => ?_)
  simp only [Value.cells]
  refine GO ?_
  by_cases h1 : k = 1
  · simp only [h1, decide_true]
    refine GO ?_
    refine st_call (install_spec t R c s m h.wf hs) (by rfl) Spl.tail1 (fun v Post hv => ?_)
    obtain ⟨rfl, R', g1, g2, rfl, _, _⟩ := inst_abs h hv
    refine GO ?_
    exact endQ_mk (.inl rfl) .nil ⟨rfl, R', g1.more (by omega), by rw [g2]; simp [callA, h1], rfl⟩ Imp.left
  simp only [h1, decide_false]
  refine GO ?_
  by_cases h2 : k = 2
  · simp only [h2, decide_true]
    refine GO ?_
    refine st_call (remove_spec t R c s h.wf hs) (by rfl) Spl.tail1 (fun v Post hv => ?_)
    obtain ⟨rfl, R', g1, g2, rfl⟩ := rem_abs h hv
    refine GO ?_
    exact endQ_mk (.inl rfl) .nil ⟨rfl, R', g1.more (by omega), by rw [g2]; simp [callA, h2], rfl⟩ Imp.left
  simp only [h2, decide_false]
  refine GO ?_
  by_cases h5 : k = 5
  · simp only [h5, decide_true]
    refine GO ?_
    refine st_call (lookup_spec t R c s h.wf N hN h.tel hs) (by rfl) (Spl.mid (C := Core t R) (S := SitesI t R)) (fun v Post hv => ?_)
    obtain ⟨g0, g1, g2⟩ := look_abs R N h c s
    obtain ⟨rfl, rfl⟩ := hv
    refine GO ?_
    refine endQ_mk (Post := Full t (lookR R c s).2) (.inl rfl) .nil ⟨rfl, (lookR R c s).2, g1, by rw [g2]; simp [callA, h5], rfl⟩ ?_
    rw [Full, ← lookR_sites t R c s]
    exact Imp.cut Imp.mid Imp.tail1
  simp only [h5, decide_false]
  refine GO ?_
  by_cases h6 : k = 6
  · simp only [h6, decide_true]
    refine GO ?_
    refine st_call (send_spec t R at_ c s h.wf N hN h.tel hs) (by rfl) Spl.tail1 (fun v Post hv => ?_)
    obtain ⟨rfl, R', g1, g2, rfl⟩ := send_abs h hv
    refine GO ?_
    exact endQ_mk (.inl rfl) .nil ⟨rfl, R', g1, by rw [g2]; simp [callA, h6], rfl⟩ Imp.left
  simp only [h6, decide_false]
  refine GO ?_
  by_cases h7 : k = 7
  · simp only [h7, decide_true]
    refine GO ?_
    refine st_call (flush_spec t R h.wf) (by rfl) Spl.tail1 (fun v Post hv => ?_)
    obtain ⟨es, hw, rfl, rfl⟩ := hv
    obtain ⟨g1, g2⟩ := h.flushed hw
    refine GO ?_
    exact endQ_mk (.inl rfl) .nil ⟨rfl, _, g1.more (by omega), by rw [g2]; simp [callA, h7], rfl⟩ Imp.left
  simp only [h7, decide_false]
  refine GO ?_
  exact endQ_mk (.inl rfl) .nil ⟨rfl, R, h.more (by omega), by simp [callA, h1, h2, h5, h6], rfl⟩ Imp.tail1

theorem plain_spec (A : List Atom) (t : Nat) (R : Rep) (v : Value) (c : Int) (s : ByteArray) (h : WF R) (hv : RdInts A v R.sup) :
    Fun Try.prog 12 [ptr0 t, v, vi c, .string s] (A :: Full t R) (fun v' Post => v' = okM (pl R c s) ∧ Post = A :: Full t R) := by
  obtain ⟨a, cp, hvf⟩ := hv.form
  refine Fun.intro low12 (by simp [F12]) ?_
  refine GO ?_
  refine VC.loop (α := Int) (Γf := fun x => [(0, ptr0 t), (1, v), (2, vi x), (3, .string s)]) (Hf := fun _ => A :: Full t R)
    (I := fun x => pl R c s = pl R x s) (μ := fun x => (x + 1).toNat) c rfl (by (repeat (first | exact Sub.nil | (apply Sub.cons; rfl)))) (Imp.refl _) (fun x hpx => ?_)
  refine GO ?_
  by_cases hx : 0 ≤ x ∧ x < R.sup.length
  · have hst := pl_step h s hx
    obtain ⟨u1, u2⟩ := up_lt h hx.1 hx.2
    obtain ⟨b, o, cp', hvv, hA⟩ := hv.pos (by omega)
    simp only [hx.1, decide_true]
    rw [hvv]
    refine GO ?_
    simp only [hx.2, decide_true]
    refine GO ?_
    refine st_call (own_spec t R x s h) (by rfl) (Spl.mid (C := Core t R) (S := SitesI t R)) (fun v' Post hv' => ?_)
    obtain ⟨rfl, rfl⟩ := hv'
    refine VO.imp Imp.mid ?_
    simp only [ownR, if_pos hx]
    cases hg : mget s (R.dic x) with
    | some m =>
      rw [hg] at hst
      simp only [okM, Option.getD_some, Option.isSome_some]
      refine GO ?_
      refine endQ_mk (Post := A :: Full t R) (.inr rfl) (.tmp (by rfl) (.tmp (by rfl) .nil)) ⟨?_, rfl⟩ (Imp.refl _)
      rw [hpx, hst]; rfl
    | none =>
      rw [hg] at hst
      simp only [okM, Option.getD_none, Option.isSome_none]
      refine GO ?_
      refine st_load1 (v := vi (R.up x)) (by rfl) (.among (hA x.toNat _ ?_)) ?_
      · have : x.toNat < R.sup.length := by omega
        simp [Rep.up, this]
      refine GO ?_
      refine ⟨R.up x, hpx.trans hst, by omega, by (repeat (first | exact Sub.nil | (apply Sub.cons; rfl))), Imp.refl _⟩
  · have hn : pl R x s = none := by simp only [pl, if_neg hx]
    rw [hn] at hpx
    rw [hpx]
    rw [hvf]
    by_cases h0 : 0 ≤ x
    · simp only [h0, decide_true]
      refine GO ?_
      simp only [show ¬ x < R.sup.length from fun hh => hx ⟨h0, hh⟩, decide_false]
      refine GO ?_
      refine endQ_mk (Post := A :: Full t R) (.inr rfl) (.tmp (by rfl) (.tmp (by rfl) .nil)) ⟨by rfl, rfl⟩ (Imp.refl _)
    · simp only [h0, decide_false]
      refine GO ?_
      refine endQ_mk (Post := A :: Full t R) (.inr rfl) (.tmp (by rfl) (.tmp (by rfl) .nil)) ⟨by rfl, rfl⟩ (Imp.refl _)

theorem counts_full (t : Nat) (R : Rep) : Fun Try.prog 11 [ptr0 t] (Full t R) (fun v Post => v = .agg (telEnc R.tel).toArray ∧ Post = Full t R) := by
  refine (counts_spec t R.tel).conv (R := [cellsAt t 0 [R.sv, R.dv], cellsAt t 2 (R.glob.flatMap kEnc)] ++ ([slA R.sv (R.sup.map vi) R.ssp, slA R.dv (R.dics.map fun d => .map (some d.b)) [], R.dics.flatMap dAtoms] ++ SitesI t R)) ?_ ?_
  · simp only [Full, Core_tel, V.Spl, List.flatten_append, List.flatten_cons, List.flatten_nil, List.append_nil, List.append_assoc]
    rw [← List.append_assoc (cellsAt t 0 _)]
    rw [← List.append_assoc (cellsAt t 0 _) (cellsAt t 2 _)]
    exact perm_lead _ _ _
  · rintro v Post ⟨rfl, rfl⟩
    refine ⟨_, ⟨rfl, rfl⟩, Imp.perm ?_⟩
    simp only [Full, Core_tel, List.flatten_append, List.flatten_cons, List.flatten_nil, List.append_nil, List.append_assoc]
    rw [← List.append_assoc (cellsAt t 0 _)]
    rw [← List.append_assoc (cellsAt t 0 _) (cellsAt t 2 _)]
    exact perm_lead _ _ _

theorem lookup_full (t : Nat) (R : Rep) (N : Nat) (c : Int) (s : ByteArray) (h : Fine R N) (hN : N < 140737488355328) (hs : s.size ≤ 1048576) :
    Fun Try.prog 13 [ptr0 t, vi c, .string s] (Full t R) (fun v Post => v = okM (lookR R c s).1 ∧ Post = Full t (lookR R c s).2) := by
  refine (lookup_spec t R c s h.wf N hN h.tel hs).conv (R := SitesI t R) ?_ ?_
  · simp [V.Spl, Full]
  · rintro v Post ⟨rfl, rfl⟩
    exact ⟨_, ⟨rfl, rfl⟩, by rw [Full, ← lookR_sites t R c s]; exact Imp.refl _⟩
end Go.Proofs.Ytffmipimgodfdaa

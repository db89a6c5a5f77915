/-
  What the evaluator finds is so: operations, code, functions.
-/
import Derived.Test.YtmpdaalhafkgjaaGreatDoorV9
set_option linter.unusedSimpArgs false
set_option linter.unusedVariables false
namespace Go.V
open Go
set_option maxHeartbeats 1600000
variable {A : List Atom}
def rnCh (σ : Sg) (ch : List PanicEntry) : List PanicEntry := ch.map fun e => { e with v := rn σ e.v }
def SoundF (A : List Atom) (P : Program) (N0 : Nat) (F : CF) : Prop := ∀ f args h nx res, F f args h nx = some res → ∀ σ, GoodS N0 σ args h nx →
  FunP P f (args.map (rn σ)) [instH A σ h] (fun v Post => ∃ v0 h' nx' σ', res = .val v0 h' nx' ∧ Ag nx σ σ' ∧ nx ≤ nx' ∧ GoodS N0 σ' [v0] h' nx' ∧ v = rn σ' v0 ∧ Post = [instH A σ' h'])
    (fun ch Post => ∃ ch0 h' nx' σ', res = .pan ch0 h' nx' ∧ Ag nx σ σ' ∧ nx ≤ nx' ∧ GoodS N0 σ' (ch0.map (·.v)) h' nx' ∧ ch = rnCh σ' ch0 ∧ Post = [instH A σ' h'])
section
variable {P : Program} {N0 nx n : Nat} {σ : Sg} {Γ : Env} {h : Mp} {rs : List RO} {d : Option Nat} {Z : List PanicEntry → Env → SH → Prop} {K : Env → SH → Prop}
theorem op_pure {r : R} {v : Value} (g : GoodS N0 σ (Γ.map (·.2)) h nx) (hp : isPure r = true) (hc : okC r = true) (hk : (rOps r).all (knownS N0 Γ) = true) (ho : okS (evSD N0 Γ) r = true) (hv : pureV (evSD N0 Γ) r = some v)
    (hok : ScV nx v → VO P n rs (putE d (rn σ v) (rnE σ Γ)) [instH A σ h] Z K) : VO P n (⟨d, none, r⟩ :: rs) (rnE σ Γ) [instH A σ h] Z K := by
  have hkk := List.all_eq_true.1 hk
  refine st_pure hp ?_ (v := rn σ v) ?_ (hok fun τ υ a => ?_)
  · rw [List.all_eq_true]; exact fun x hx => (known_rn g (hkk x hx)).1
  · rw [← pureV_rn (σ := σ) hc ho hv]
    exact pureV_congr hp fun x hx => (known_rn g (hkk x hx)).2.1
  · have e1 := pureV_rn (σ := τ) hc ho hv
    have e2 := pureV_rn (σ := υ) hc ho hv
    have e3 : pureV (fun x => rn τ (evSD N0 Γ x)) r = pureV (fun x => rn υ (evSD N0 Γ x)) r := pureV_congr hp fun x hx => (known_rn g (hkk x hx)).2.2 τ υ a
    rw [e1, e2] at e3
    exact Option.some.inj e3
theorem op_load1 {x : Operand} {b o : Nat} {v : Value} (g : GoodS N0 σ (Γ.map (·.2)) h nx) (hx : evS N0 Γ x = some (.pointer (some ⟨b, o, none⟩))) (hr : readN h b o 1 = some [v])
    (hok : ScV nx v → VO P n rs (putE d (rn σ v) (rnE σ Γ)) [instH A σ h] Z K) : VO P n (⟨d, none, .load1 x⟩ :: rs) (rnE σ Γ) [instH A σ h] Z K := by
  have hx' := (ev_rn g hx).1
  simp only [rn_ptr, rnA] at hx'
  refine st_load1 hx' (.among ?_) (hok (readN_sc g hr v (by simp)))
  exact readN_mem hr _ (by simp [cellsAt])
theorem op_loadN {x : Operand} {b o m : Nat} {us : List Value} (g : GoodS N0 σ (Γ.map (·.2)) h nx) (hx : evS N0 Γ x = some (.pointer (some ⟨b, o, none⟩))) (hr : readN h b o m = some us)
    (hok : ScV nx (.agg us.toArray) → VO P n rs (putE d (rn σ (.agg us.toArray)) (rnE σ Γ)) [instH A σ h] Z K) : VO P n (⟨d, none, .loadN m x⟩ :: rs) (rnE σ Γ) [instH A σ h] Z K := by
  have hx' := (ev_rn g hx).1
  simp only [rn_ptr, rnA] at hx'
  have hk := hok (ScV.agg (readN_sc g hr))
  have he : rn σ (.agg us.toArray) = .agg (us.map (rn σ)).toArray := by simp
  rw [he] at hk
  refine st_loadA hx' (fun a ha => ?_) (by rw [List.length_map]; exact readN_len hr) hk
  simp only [List.flatten_cons, List.flatten_nil, List.append_nil]
  exact readN_mem hr a ha
theorem new_imp {C : List Atom} {B : List Atom} (e : B = C ++ instH A σ h) : Imp (C :: [instH A σ h]) [B] := by subst e; exact Imp.perm (by simp)
theorem op_alloc {t : TypeId} {z : List Value} (g : GoodS N0 σ (Γ.map (·.2)) h nx) (hz : z.all plain1 = true)
    (hok : ∀ σ', Ag nx σ σ' → GoodS N0 σ' (.pointer (some ⟨nx, 0, none⟩) :: Γ.map (·.2)) ((nx, .cells z) :: h) (nx + 1) → VO P n rs (putE d (rn σ' (.pointer (some ⟨nx, 0, none⟩))) (rnE σ' Γ)) [instH A σ' ((nx, .cells z) :: h)] Z K) :
    VO P n (⟨d, none, .alloc t z⟩ :: rs) (rnE σ Γ) [instH A σ h] Z K := by
  refine st_alloc fun b => ?_
  have a := updG_ag σ nx b 0 0 []
  obtain ⟨u1, u2, _⟩ := updG_at σ nx b 0 0 []
  have hk := hok (updG σ nx b 0 0 []) a (g.new (fun p hp => hp) (fun v hv => ScV.plain1 (List.all_eq_true.1 hz v hv)) trivial (fun v hv => by
    rcases List.mem_cons.1 hv with rfl | hv
    · exact ScV.ptr (Nat.lt_succ_self _)
    · exact (g.vals v hv).mono (Nat.le_succ _)))
  simp only [rn_ptr, rnA, u1, u2] at hk
  rw [rnE_ag a g.vals]
  refine VO.imp (new_imp (B := instH A (updG σ nx b 0 0 []) ((nx, .cells z) :: h)) ?_) hk
  rw [instH_new g (fun p hp => hp)]
  simp only [instB, u1, u2, rn_plains hz]
theorem op_box {t : TypeId} {x : Operand} {v : Value} (g : GoodS N0 σ (Γ.map (·.2)) h nx) (hx : evS N0 Γ x = some v)
    (hok : ∀ σ', Ag nx σ σ' → GoodS N0 σ' (.pointer (some ⟨nx, 0, none⟩) :: Γ.map (·.2)) ((nx, .cells v.cells.toList) :: h) (nx + 1) → VO P n rs (putE d (rn σ' (.pointer (some ⟨nx, 0, none⟩))) (rnE σ' Γ)) [instH A σ' ((nx, .cells v.cells.toList) :: h)] Z K) :
    VO P n (⟨d, none, .box t x⟩ :: rs) (rnE σ Γ) [instH A σ h] Z K := by
  obtain ⟨hx', hs⟩ := ev_rn g hx
  refine st_box hx' fun b => ?_
  have a := updG_ag σ nx b 0 0 []
  obtain ⟨u1, u2, _⟩ := updG_at σ nx b 0 0 []
  have hk := hok (updG σ nx b 0 0 []) a (g.new (fun p hp => hp) (fun w hw => (hs.cells w hw).mono (Nat.le_succ _)) trivial (fun v hv => by
    rcases List.mem_cons.1 hv with rfl | hv
    · exact ScV.ptr (Nat.lt_succ_self _)
    · exact (g.vals v hv).mono (Nat.le_succ _)))
  simp only [rn_ptr, rnA, u1, u2] at hk
  rw [rnE_ag a g.vals]
  refine VO.imp (new_imp (B := instH A (updG σ nx b 0 0 []) ((nx, .cells v.cells.toList) :: h)) ?_) hk
  rw [instH_new g (fun p hp => hp)]
  simp only [instB, u1, u2]
  rw [rn_cells, Array.toList_map]
  congr 2
  exact List.map_congr_left fun w hw => (hs.cells w hw _ _ a.symm)
theorem evParts_rn (g : GoodS N0 σ (Γ.map (·.2)) h nx) {ps : List (Nat × Nat × Operand)} (hk : (ps.map (·.2.2)).all (knownS N0 Γ) = true) :
    evParts (evD (rnE σ Γ)) ps = (evParts (evSD N0 Γ) ps).map fun (a, b, v) => (a, b, rn σ v) := by
  simp only [evParts, List.map_map]
  refine List.map_congr_left fun p hp => ?_
  obtain ⟨a, b, c⟩ := p
  have := (known_rn g (List.all_eq_true.1 hk c (List.mem_map.2 ⟨_, hp, rfl⟩))).2.1
  simp [this]
theorem putParts_sc {k : Nat} : ∀ {ps : List (Nat × Nat × Value)} {cs out : List Value}, (∀ v ∈ cs, ScV k v) → (∀ p ∈ ps, ScV k p.2.2) → putParts cs ps = some out → ∀ v ∈ out, ScV k v := by
  intro ps
  induction ps with
  | nil => intro cs out hc _ e; simp only [putParts, Option.some.injEq] at e; subst e; exact hc
  | cons p ps ih =>
    intro cs out hc hp e
    obtain ⟨o, s, v⟩ := p
    simp only [putParts] at e
    split at e
    · refine ih (fun u hu => ?_) (fun q hq => hp q (by simp [hq])) e
      rcases List.mem_append.1 hu with hu | hu
      · rcases List.mem_append.1 hu with hu | hu
        · exact hc u (List.mem_of_mem_take hu)
        · exact (hp (o, s, v) (by simp)).cells u hu
      · exact hc u (List.mem_of_mem_drop hu)
    · cases e
theorem zeroRow_plain {k : Nat} {z : List Value} (h : z.all plain1 = true) : (zeroRow k z).all plain1 = true := by
  rw [List.all_eq_true] at h ⊢
  intro x hx
  simp only [zeroRow, List.mem_map, List.mem_range] at hx
  obtain ⟨i, hi, rfl⟩ := hx
  have hz : 0 < z.length := Nat.pos_of_ne_zero fun e => by rw [e] at hi; simp at hi
  have hlt : i % z.length < z.length := Nat.mod_lt _ hz
  rw [getElem!_pos z _ hlt]
  exact h _ (List.getElem_mem hlt)
theorem op_bslice {t : TypeId} {len : Nat} {z out : List Value} {ps : List (Nat × Nat × Operand)} (g : GoodS N0 σ (Γ.map (·.2)) h nx) (hz : z.all plain1 = true) (hk : (ps.map (·.2.2)).all (knownS N0 Γ) = true)
    (ho : putParts (zeroRow len z) (evParts (evSD N0 Γ) ps) = some out) (hlen : len < BIG)
    (hok : ∀ σ', Ag nx σ σ' → GoodS N0 σ' (.slice (some ⟨nx, 0, none⟩) len len :: Γ.map (·.2)) ((nx, .cells out) :: h) (nx + 1) → VO P n rs (putE d (rn σ' (.slice (some ⟨nx, 0, none⟩) len len)) (rnE σ' Γ)) [instH A σ' ((nx, .cells out) :: h)] Z K) :
    VO P n (⟨d, none, .bslice t len z ps⟩ :: rs) (rnE σ Γ) [instH A σ h] Z K := by
  have hzr := zeroRow_plain (k := len) hz
  have hout : ∀ v ∈ out, ScV nx v := putParts_sc (fun v hv => ScV.plain1 (List.all_eq_true.1 hzr v hv)) (fun p hp => by
    simp only [evParts, List.mem_map] at hp
    obtain ⟨q, hq, rfl⟩ := hp
    exact (known_rn g (List.all_eq_true.1 hk _ (List.mem_map.2 ⟨q, hq, rfl⟩))).2.2) ho
  refine st_bslice (out := out.map (rn σ)) ?_ ?_ fun b => ?_
  · rw [List.all_eq_true] at hk ⊢; exact fun x hx => (known_rn g (hk x hx)).1
  · rw [evParts_rn g hk]
    have := putParts_rn (σ := σ) ho
    rw [rn_plains hzr] at this
    exact this
  have a := updG_ag σ nx b 0 0 []
  obtain ⟨u1, u2, _⟩ := updG_at σ nx b 0 0 []
  have hk2 := hok (updG σ nx b 0 0 []) a (g.new (fun p hp => hp) (fun w hw => (hout w hw).mono (Nat.le_succ _)) trivial (fun v hv => by
    rcases List.mem_cons.1 hv with rfl | hv
    · exact ScV.slc (Nat.lt_succ_self _)
    · exact (g.vals v hv).mono (Nat.le_succ _)))
  simp only [rn_slice, rnA, rnC, u1, u2, if_pos hlen] at hk2
  rw [rnE_ag a g.vals]
  refine VO.imp (new_imp (B := instH A (updG σ nx b 0 0 []) ((nx, .cells out) :: h)) ?_) hk2
  rw [instH_new g (fun p hp => hp)]
  simp only [instB, u1, u2]
  congr 2
  exact List.map_congr_left fun w hw => (hout w hw _ _ a.symm)
theorem op_mkslice {t : TypeId} {size bytes li ci : Nat} {z : List Value} {l c : Operand} {kl kc : IntKind} (g : GoodS N0 σ (Γ.map (·.2)) h nx) (hl : evS N0 Γ l = some (.int kl li)) (hc : evS N0 Γ c = some (.int kc ci)) (hz : z.all plain1 = true) (h1 : li ≤ ci) (h2 : ci ≤ 1048576)
    (h3 : bytes ≤ 268435456) (h4 : z.length = size)
    (hok : ∀ σ', Ag nx σ σ' → GoodS N0 σ' (.slice (some ⟨nx, 0, none⟩) li ci :: Γ.map (·.2)) ((nx, .cells (zeroRow ci z)) :: h) (nx + 1) → VO P n rs (putE d (rn σ' (.slice (some ⟨nx, 0, none⟩) li ci)) (rnE σ' Γ)) [instH A σ' ((nx, .cells (zeroRow ci z)) :: h)] Z K) :
    VO P n (⟨d, none, .mkslice t size bytes z l c⟩ :: rs) (rnE σ Γ) [instH A σ h] Z K := by
  have hl' := (ev_rn g hl).1
  have hc' := (ev_rn g hc).1
  simp only [rn_int] at hl' hc'
  have hb : bytes * ci ≤ 268435456 * 1048576 := Nat.mul_le_mul h3 h2
  refine st_mkslice hl' hc' ⟨by omega, by omega, by omega, ?_⟩ h4 fun b => ?_
  · have : ((bytes * ci : Nat) : Int) ≤ ((268435456 * 1048576 : Nat) : Int) := by exact_mod_cast hb
    rw [Int.natCast_mul] at this; omega
  have a := updG_ag σ nx b 0 0 []
  obtain ⟨u1, u2, _⟩ := updG_at σ nx b 0 0 []
  have hzr := zeroRow_plain (k := ci) hz
  have hk2 := hok (updG σ nx b 0 0 []) a (g.new (fun p hp => hp) (fun v hv => ScV.plain1 (List.all_eq_true.1 hzr v hv)) trivial (fun v hv => by
    rcases List.mem_cons.1 hv with rfl | hv
    · exact ScV.slc (Nat.lt_succ_self _)
    · exact (g.vals v hv).mono (Nat.le_succ _)))
  simp only [rn_slice, rnA, rnC, u1, u2, if_pos (show ci < BIG by unfold BIG; omega)] at hk2
  rw [rnE_ag a g.vals]
  refine VO.imp (new_imp (B := instH A (updG σ nx b 0 0 []) ((nx, .cells (zeroRow ci z)) :: h)) ?_) (by simpa using hk2)
  rw [instH_new g (fun p hp => hp)]
  simp only [instB, u1, u2, rn_plains hzr, Int.toNat_natCast]
theorem op_store {x y : Operand} {m b o : Nat} {u : Value} {h' : Mp} (g : GoodS N0 σ (Γ.map (·.2)) h nx) (hx : evS N0 Γ x = some (.pointer (some ⟨b, o, none⟩))) (hy : evS N0 Γ y = some u) (hm : u.cells.toList.length = m) (hw : writeN h b o u.cells.toList = some h')
    (hok : GoodS N0 σ (undef :: Γ.map (·.2)) h' nx → VO P n rs (putE d (rn σ undef) (rnE σ Γ)) [instH A σ h'] Z K) : VO P n (⟨d, none, .store m x y⟩ :: rs) (rnE σ Γ) [instH A σ h] Z K := by
  have hx' := (ev_rn g hx).1
  obtain ⟨hy', hs⟩ := ev_rn g hy
  simp only [rn_ptr, rnA] at hx'
  have hcl : (rn σ u).cells.toList = u.cells.toList.map (rn σ) := by rw [rn_cells, Array.toList_map]
  have hsc := hs.cells
  generalize u.cells.toList = us at hm hw hcl hsc
  unfold writeN at hw
  split at hw
  case h_2 => cases hw
  rename_i k hk
  split at hw
  case h_2 => cases hw
  rename_i vs hvs
  split at hw
  case h_2 => cases hw
  rename_i hlen
  split at hw
  case h_2 => cases hw
  rename_i hone
  cases hw
  have hle := bleT hlen
  obtain ⟨tl, t1, t2⟩ := rowB_inst (σ := σ) (b := b) hvs
  have hsv : ∀ v ∈ vs, ScV nx v := by
    have := g.cells _ (getB_mem hk)
    cases k with
    | cells ws => cases hvs; exact this
    | grow s ws => cases hvs; exact this
    | obj q => cases hvs
  have hnew : ∀ v ∈ vs.take o ++ us ++ vs.drop (o + us.length), ScV nx v := fun v hv => by
    rcases List.mem_append.1 hv with hv | hv
    · rcases List.mem_append.1 hv with hv | hv
      · exact hsv v (List.mem_of_mem_take hv)
      · exact hsc v hv
    · exact hsv v (List.mem_of_mem_drop hv)
  have hlen2 : (vs.take o ++ us ++ vs.drop (o + us.length)).length = vs.length := by simp; omega
  have hk2 := hok ⟨g.fix, g.le, fun p hp => ?_, fun p hp => ?_, fun p hp => ?_, fun v hv => ?_⟩
  · refine VO.imp (Imp.perm (B := [cellsAt (σ.blk b) (σ.off b) (vs.map (rn σ) ++ tl), instH A σ (delB h b)]) ?_) ?_
    · have := instH_get (A := A) (σ := σ) hk; rw [t2] at this; simpa using this
    refine st_store (H' := [cellsAt (σ.blk b) (σ.off b) ((vs.take o ++ us ++ vs.drop (o + us.length)).map (rn σ) ++ tl), instH A σ (delB h b)]) hx' hy' ?_ ?_ ?_ ?_
    · rw [← hm, ← Array.length_toList, hcl, List.length_map]
    · rw [hcl]; exact oneCells_rn σ _ hone
    · rw [hcl]
      refine .cells (by omega) (by simp; omega) ?_
      have e0 : σ.off b + o - σ.off b = o := by omega
      rw [e0, List.take_append_of_le_length (by simp; omega), List.length_map, List.drop_append_of_le_length (by simp; omega)]
      simp [List.map_take, List.map_drop]
    · have hu : rn σ undef = undef := rn_plain rfl
      rw [hu] at hk2
      refine VO.imp (Imp.perm ?_) hk2
      have := instH_set (A := A) (σ := σ) (c := putB k (vs.take o ++ us ++ vs.drop (o + us.length))) hk
      rw [t1] at this
      simpa using this.symm
  · rcases setB_sub hp with hp | rfl
    · exact g.ids p hp
    · exact g.ids (b, k) (getB_mem hk)
  · rcases setB_sub hp with hp | rfl
    · exact g.grow p hp
    · have := g.grow (b, k) (getB_mem hk)
      cases k with
      | cells ws => trivial
      | grow s ws => cases hvs; simp only [GrB, putB] at this ⊢; rw [hlen2]; exact this
      | obj q => cases hvs
  · rcases setB_sub hp with hp | rfl
    · exact g.cells p hp
    · cases k with
      | cells ws => exact hnew
      | grow s ws => exact hnew
      | obj q => cases hvs
  · rcases List.mem_cons.1 hv with rfl | hv
    · exact ScV.plain rfl
    · exact g.vals v hv
end
variable {A : List Atom}
section
variable {P : Program} {N0 nx n : Nat} {σ : Sg} {Γ : Env} {h : Mp} {rs : List RO} {d : Option Nat} {Z : List PanicEntry → Env → SH → Prop} {K : Env → SH → Prop}
theorem takeE_spec {size : Nat} {sv : Value} {xs : List Value} {h' : Mp} (g : GoodS N0 σ (Γ.map (·.2)) h nx) (hsize : 0 < size) (e : takeE h size sv = some (xs, h')) :
    ∃ k sp, IsSl size (rn σ sv) k (xs.map (rn σ)) sp ∧ (instH A σ h).Perm (slA (rn σ sv) (xs.map (rn σ)) sp ++ instH A σ h') ∧ (∀ p ∈ h', p ∈ h) ∧ (∀ v ∈ xs, ScV nx v) := by
  unfold takeE at e
  split at e
  · cases e
    exact ⟨0, [], by simpa using IsSl.nil, by simp [slA], fun p hp => hp, fun v hv => by cases hv⟩
  · rename_i b o m c
    split at e
    case h_2 => cases e
    split at e
    · rename_i vs hk
      split at e
      case h_2 => cases e
      rename_i hb
      cases e
      simp only [Bool.and_eq_true] at hb
      obtain ⟨hb1, hb2, hb3⟩ := hb
      have e1 := beqT hb1
      have e2 := bleT hb2
      have e3 := bltT hb3
      have hms : m * size ≤ c * size := Nat.mul_le_mul_right _ e2
      refine ⟨m, (vs.drop (m * size)).map (rn σ), ?_, ?_, fun p hp => delB_sub hp, fun v hv => g.cells _ (getB_mem hk) v (List.mem_of_mem_take hv)⟩
      · simp only [rn_slice, rnA, rnC, if_pos e3]
        refine .mk ?_ ?_ e2
        · rw [List.length_map, List.length_take]; omega
        · rw [List.length_map, List.length_map, List.length_take, List.length_drop]; omega
      · refine (instH_get hk).trans (List.Perm.append_right _ ?_)
        simp only [rn_slice, rnA, slA, instB, Nat.add_zero, ← List.map_append, List.take_append_drop]
        exact .refl _
    · rename_i s vs hk
      split at e
      case h_2 => cases e
      rename_i hb
      cases e
      simp only [Bool.and_eq_true] at hb
      obtain ⟨hb1, hb2, hb3⟩ := hb
      have e1 := beqT hb1
      have e2 := beqT hb2
      have e3 := bleT hb3
      subst e1
      have hg := g.grow _ (getB_mem hk)
      simp only [GrB] at hg
      have hC : rnC σ b c = σ.cap b := by rw [e2, rnC, if_neg (Nat.lt_irrefl _), Nat.sub_self, Nat.sub_zero]
      refine ⟨m, (vs.drop (m * s)).map (rn σ) ++ σ.tl b, ?_, ?_, fun p hp => delB_sub hp, fun v hv => g.cells _ (getB_mem hk) v (List.mem_of_mem_take hv)⟩
      · simp only [rn_slice, rnA, hC]
        refine .mk ?_ ?_ ?_
        · rw [List.length_map, List.length_take]; omega
        · rw [List.length_append, List.length_map, List.length_map, List.length_take, List.length_drop]; omega
        · have : m * s ≤ σ.cap b * s := by omega
          exact Nat.le_of_mul_le_mul_right this hsize
      · refine (instH_get hk).trans (List.Perm.append_right _ ?_)
        simp only [rn_slice, rnA, slA, instB, Nat.add_zero, ← List.append_assoc, ← List.map_append, List.take_append_drop]
        exact .refl _
    · cases e
  · cases e
theorem srcE_spec {size m : Nat} {xv : Value} {ys : List Value} {h' : Mp} {vals : List Value} (g : GoodS N0 σ vals h' nx) (e : srcE h' size xv = some (m, ys)) :
    seqLen (rn σ xv) = some m ∧ Src (instH A σ h') size m (ys.map (rn σ)) (rn σ xv) ∧ ys.length = m * size ∧ ∀ v ∈ ys, ScV nx v := by
  unfold srcE at e
  split at e
  · split at e
    case h_2 => cases e
    rename_i l hl
    cases e
    have hlen := readN_len hl
    refine ⟨by simp [seqLen], ?_, hlen, readN_sc g hl⟩
    simp only [rn_slice, rnA, Src]
    exact ⟨by rw [List.length_map, hlen], readN_mem hl⟩
  · split at e
    case h_2 => cases e
    cases e
    exact ⟨by simp [seqLen], by simp [Src], by simp, fun v hv => by cases hv⟩
  · rename_i s
    split at e
    case h_2 => cases e
    cases e
    have hpl : (sBytes s).all plain1 = true := by
      rw [List.all_eq_true]; intro x hx
      simp only [sBytes, List.mem_map] at hx
      obtain ⟨c, _, rfl⟩ := hx; rfl
    refine ⟨by simp [seqLen], ?_, by simp [sBytes], fun v hv => ScV.plain1 (List.all_eq_true.1 hpl v hv)⟩
    rw [rn_plains hpl]
    simp only [rn_string, Src, sBytes]
    rw [List.take_of_length_le (by simp)]
  · cases e
theorem op_append {t : TypeId} {size bytes m : Nat} {zero xs ys : List Value} {s x : Operand} {sv xv : Value} {h' : Mp} (g : GoodS N0 σ (Γ.map (·.2)) h nx) (hs : evS N0 Γ s = some sv) (hx : evS N0 Γ x = some xv) (ht : takeE h size sv = some (xs, h')) (hy : srcE h' size xv = some (m, ys))
    (hone : ys.all oneCell = true) (hz : zero.length = size) (hb : bytes ≠ 0) (h1 : xs.length + m ≤ 1048576) (h2 : bytes ≤ 65536) (hsize : 0 < size) (h0 : xs.length + m ≠ 0)
    (hok : ∀ σ', Ag nx σ σ' → GoodS N0 σ' (.slice (some ⟨nx, 0, none⟩) (xs.length / size + m) BIG :: Γ.map (·.2)) ((nx, .grow size (xs ++ ys)) :: h') (nx + 1) →
      VO P n rs (putE d (rn σ' (.slice (some ⟨nx, 0, none⟩) (xs.length / size + m) BIG)) (rnE σ' Γ)) [instH A σ' ((nx, .grow size (xs ++ ys)) :: h')] Z K) :
    VO P n (⟨d, none, .append t size bytes zero s x⟩ :: rs) (rnE σ Γ) [instH A σ h] Z K := by
  obtain ⟨k, sp, k1, k2, k3, k4⟩ := takeE_spec g hsize ht
  have g' : GoodS N0 σ (Γ.map (·.2)) h' nx := ⟨g.fix, g.le, fun p hp => g.ids p (k3 p hp), fun p hp => g.grow p (k3 p hp), fun p hp => g.cells p (k3 p hp), g.vals⟩
  obtain ⟨s1, s2, s3, s4⟩ := srcE_spec g' hy
  have hkl := k1.len
  rw [List.length_map] at hkl
  have hk0 : k ≤ xs.length := by rw [hkl]; exact Nat.le_mul_of_pos_right _ hsize
  have hdiv : xs.length / size = k := by rw [hkl]; exact Nat.mul_div_cancel _ hsize
  refine VO.imp (Imp.perm (B := [slA (rn σ sv) (xs.map (rn σ)) sp, instH A σ h']) (by simpa using k2)) ?_
  refine st_append (ev_rn g hs).1 (ev_rn g hx).1 k1 .here s1 (R := [instH A σ h']) (by simpa using s2) (by rw [List.length_map]; exact s3) (oneCells_rn σ _ hone) hz hb ?_ fun sv' sp' hsl => ?_
  · have : (2 * (k + m) + 192) * bytes ≤ 2097344 * 65536 := Nat.mul_le_mul (by omega) h2
    omega
  obtain ⟨b, o, c, rfl, hc1, hc2⟩ := hsl.some (by
    rcases Nat.eq_zero_or_pos (k + m) with e | e
    · exfalso; have ek : k = 0 := by omega
      rw [ek, Nat.zero_mul] at hkl; omega
    · exact e)
  have a := updG_ag σ nx b o c sp'
  obtain ⟨u1, u2, u3, u4⟩ := updG_at σ nx b o c sp'
  have hk := hok (updG σ nx b o c sp') a (g.new k3 (fun v hv => by
      rcases List.mem_append.1 hv with hv | hv
      · exact (k4 v hv).mono (Nat.le_succ _)
      · exact (s4 v hv).mono (Nat.le_succ _)) (by
      simp only [GrB, u3, u4]
      have : ((xs.map (rn σ)) ++ (ys.map (rn σ))).length + sp'.length = c * size := hc2
      simpa using this) (fun v hv => by
      rcases List.mem_cons.1 hv with rfl | hv
      · exact ScV.slc (Nat.lt_succ_self _)
      · exact (g.vals v hv).mono (Nat.le_succ _)))
  have hC : rnC (updG σ nx b o c sp') nx BIG = c := by simp [rnC, u3]
  simp only [rn_slice, rnA, u1, u2, hC, Nat.add_zero, hdiv] at hk
  rw [rnE_ag a g.vals]
  refine VO.imp (new_imp (B := instH A (updG σ nx b o c sp') ((nx, .grow size (xs ++ ys)) :: h')) ?_) hk
  rw [instH_new g k3]
  simp only [instB, u1, u2, u4, slA]
  congr 2
  rw [List.map_append]
  congr 1
  congr 1
  · exact List.map_congr_left fun w hw => (k4 w hw _ _ a.symm)
  · exact List.map_congr_left fun w hw => (s4 w hw _ _ a.symm)
theorem op_s2b {t : TypeId} {x : Operand} {s : ByteArray} (g : GoodS N0 σ (Γ.map (·.2)) h nx) (hx : evS N0 Γ x = some (.string s)) (h0 : s.size ≠ 0)
    (hok : ∀ σ', Ag nx σ σ' → GoodS N0 σ' (.slice (some ⟨nx, 0, none⟩) s.size BIG :: Γ.map (·.2)) ((nx, .grow 1 (sBytes s)) :: h) (nx + 1) →
      VO P n rs (putE d (rn σ' (.slice (some ⟨nx, 0, none⟩) s.size BIG)) (rnE σ' Γ)) [instH A σ' ((nx, .grow 1 (sBytes s)) :: h)] Z K) :
    VO P n (⟨d, none, .s2b t x⟩ :: rs) (rnE σ Γ) [instH A σ h] Z K := by
  have hx' := (ev_rn g hx).1
  rw [rn_string] at hx'
  refine st_s2b hx' fun sv sp hsl => ?_
  obtain ⟨b, o, c, rfl, hc1, hc2⟩ := hsl.some (by omega)
  have a := updG_ag σ nx b o c sp
  obtain ⟨u1, u2, u3, u4⟩ := updG_at σ nx b o c sp
  have hpl : (sBytes s).all plain1 = true := by
    rw [List.all_eq_true]; intro x hx
    simp only [sBytes, List.mem_map] at hx
    obtain ⟨c, _, rfl⟩ := hx; rfl
  have hk := hok (updG σ nx b o c sp) a (g.new (fun p hp => hp) (fun v hv => ScV.plain1 (List.all_eq_true.1 hpl v hv)) (by simp only [GrB, u3, u4]; exact hc2) (fun v hv => by
      rcases List.mem_cons.1 hv with rfl | hv
      · exact ScV.slc (Nat.lt_succ_self _)
      · exact (g.vals v hv).mono (Nat.le_succ _)))
  have hC : rnC (updG σ nx b o c sp) nx BIG = c := by simp [rnC, u3]
  simp only [rn_slice, rnA, u1, u2, hC, Nat.add_zero] at hk
  rw [rnE_ag a g.vals]
  refine VO.imp (new_imp (B := instH A (updG σ nx b o c sp) ((nx, .grow 1 (sBytes s)) :: h)) ?_) hk
  rw [instH_new g (fun p hp => hp)]
  simp only [instB, u1, u2, u4, slA, rn_plains hpl]
theorem u8s_spec : ∀ {vs : List Value} {l : List UInt8}, u8s vs = some l → vs = l.map u8v := by
  intro vs
  induction vs with
  | nil => intro l e; simp only [u8s, Option.some.injEq] at e; subst e; rfl
  | cons v vs ih =>
    intro l e
    unfold u8s at e
    split at e
    · rename_i he; cases he
    · rename_i z r he
      cases he
      split at e
      · rename_i k l' hl
        split at e
        · rename_i hk
          cases e
          have hk2 := bltT hk
          rw [List.map_cons, ← ih hl]
          congr 1
          show Value.int .u8 (Int.ofNat k) = u8v k.toUInt8
          simp only [u8v]
          congr 1
          have : (k.toUInt8).toNat = k := Nat.mod_eq_of_lt hk2
          rw [this]; rfl
        · cases e
      · cases e
    · cases e
theorem op_b2s {x : Operand} {b o k c : Nat} {vs : List Value} {l : List UInt8} (g : GoodS N0 σ (Γ.map (·.2)) h nx) (hx : evS N0 Γ x = some (.slice (some ⟨b, o, none⟩) k c)) (hr : readN h b o k = some vs) (hu : u8s vs = some l)
    (hok : ScV nx (.string (ftxt l)) → VO P n rs (putE d (rn σ (.string (ftxt l))) (rnE σ Γ)) [instH A σ h] Z K) : VO P n (⟨d, none, .b2s x⟩ :: rs) (rnE σ Γ) [instH A σ h] Z K := by
  have hx' := (ev_rn g hx).1
  simp only [rn_slice, rnA] at hx'
  have hvs := u8s_spec hu
  have hk := hok (ScV.plain rfl)
  rw [rn_string] at hk
  refine st_b2s hx' (l := l) ?_ hk
  simp only [BytesAt]
  refine ⟨?_, fun a ha => ?_⟩
  · have := readN_len hr; rw [hvs, List.length_map] at this; exact this.symm
  · have hpl : (l.map u8v).map (rn σ) = l.map u8v := by rw [List.map_map]; exact List.map_congr_left fun x _ => by simp [u8v]
    simp only [List.flatten_cons, List.flatten_nil, List.append_nil]
    have := readN_mem (A := A) (σ := σ) hr a
    rw [hvs, hpl] at this
    exact this ha
theorem op_call {F : CF} (hF : SoundF A P N0 F) {f : Nat} {xs : List Operand} {args : List Value} {res : PR} (g : GoodS N0 σ (Γ.map (·.2)) h nx) (he : evSs N0 Γ xs = some args) (hf : F f args h nx = some res)
    (hok : ∀ v h' nx' σ', res = .val v h' nx' → Ag nx σ σ' → nx ≤ nx' → GoodS N0 σ' (v :: Γ.map (·.2)) h' nx' → VO P n rs (putE d (rn σ' v) (rnE σ' Γ)) [instH A σ' h'] Z K)
    (hpan : ∀ ch h' nx' σ', res = .pan ch h' nx' → Ag nx σ σ' → nx ≤ nx' → GoodS N0 σ' (ch.map (·.v)) h' nx' → Z (rnCh σ' ch) (rnE σ Γ) [instH A σ' h']) :
    VO P n (⟨d, none, .call f xs⟩ :: rs) (rnE σ Γ) [instH A σ h] Z K := by
  obtain ⟨h1, h2⟩ := evs_rn g he
  refine st_callZ (hF f args h nx res hf σ (g.with h2)) h1 (R := []) (by simp [Spl]) ?_ ?_
  · rintro v Post ⟨v0, h', nx', σ', r1, r2, r3, r4, rfl, rfl⟩
    rw [List.append_nil, rnE_ag r2 g.vals]
    exact hok v0 h' nx' σ' r1 r2 r3 (r4.with fun u hu => by
      rcases List.mem_cons.1 hu with rfl | hu
      · exact r4.vals _ (by simp)
      · exact (g.vals u hu).mono r3)
  · rintro ch Post ⟨v0, h', nx', σ', r1, r2, r3, r4, rfl, rfl⟩
    rw [List.append_nil]
    exact hpan v0 h' nx' σ' r1 r2 r3 r4
theorem op_callv {F : CF} (hF : SoundF A P N0 F) {f : Nat} {x : Operand} {first cap : Array Value} {xs : List Operand} {args : List Value} {res : PR} (g : GoodS N0 σ (Γ.map (·.2)) h nx) (hx : evS N0 Γ x = some (.func (.func f) first cap)) (he : evSs N0 Γ xs = some args) (hf : F f (first.toList ++ args ++ cap.toList) h nx = some res)
    (hok : ∀ v h' nx' σ', res = .val v h' nx' → Ag nx σ σ' → nx ≤ nx' → GoodS N0 σ' (v :: Γ.map (·.2)) h' nx' → VO P n rs (putE d (rn σ' v) (rnE σ' Γ)) [instH A σ' h'] Z K)
    (hpan : ∀ ch h' nx' σ', res = .pan ch h' nx' → Ag nx σ σ' → nx ≤ nx' → GoodS N0 σ' (ch.map (·.v)) h' nx' → Z (rnCh σ' ch) (rnE σ Γ) [instH A σ' h']) :
    VO P n (⟨d, none, .callv x xs⟩ :: rs) (rnE σ Γ) [instH A σ h] Z K := by
  obtain ⟨h1, h2⟩ := evs_rn g he
  obtain ⟨hx', hxs⟩ := ev_rn g hx
  simp only [rn_func, rnF] at hx'
  have hsc : ∀ v ∈ first.toList ++ args ++ cap.toList, ScV nx v := fun v hv σ1 σ2 a => by
    have he := hxs σ1 σ2 a
    simp only [rn_func, rnF, Value.func.injEq, true_and] at he
    rcases List.mem_append.1 hv with hv | hv
    · rcases List.mem_append.1 hv with hv | hv
      · have := congrArg Array.toList he.1; simp only [Array.toList_map] at this; exact map_inj this v hv
      · exact h2 v hv σ1 σ2 a
    · have := congrArg Array.toList he.2; simp only [Array.toList_map] at this; exact map_inj this v hv
  have hfun := hF f _ h nx res hf σ (g.with hsc)
  have e : (first.toList ++ args ++ cap.toList).map (rn σ) = (first.map (rn σ)).toList ++ args.map (rn σ) ++ (cap.map (rn σ)).toList := by simp
  rw [e] at hfun
  refine st_callVZ hx' (FunVP.of_fun hfun) h1 (R := []) (by simp [Spl]) ?_ ?_
  · rintro v Post ⟨v0, h', nx', σ', r1, r2, r3, r4, rfl, rfl⟩
    rw [List.append_nil, rnE_ag r2 g.vals]
    exact hok v0 h' nx' σ' r1 r2 r3 (r4.with fun u hu => by
      rcases List.mem_cons.1 hu with rfl | hu
      · exact r4.vals _ (by simp)
      · exact (g.vals u hu).mono r3)
  · rintro ch Post ⟨v0, h', nx', σ', r1, r2, r3, r4, rfl, rfl⟩
    rw [List.append_nil]
    exact hpan v0 h' nx' σ' r1 r2 r3 r4
theorem op_pnc {x : Operand} {t : TypeId} {v : Value} (g : GoodS N0 σ (Γ.map (·.2)) h nx) (hx : evS N0 Γ x = some (.iface t v))
    (hpan : GoodS N0 σ [.iface t v] h nx → Z (rnCh σ [{ v := .iface t v, recovered := false }]) (rnE σ Γ) [instH A σ h]) : VO P n (⟨d, none, .pnc x⟩ :: rs) (rnE σ Γ) [instH A σ h] Z K := by
  obtain ⟨h1, h2⟩ := ev_rn g hx
  rw [rn_iface] at h1
  have := hpan (g.with fun u hu => by rw [List.mem_singleton.1 hu]; exact h2)
  simp only [rnCh, List.map_cons, List.map_nil, rn_iface] at this
  exact st_pnc h1 this
end
end Go.V

/-
  What the evaluator finds is so: code, functions.
-/
import Derived.Test.YtmpdaalhafkgjaaGreatDoorV10
import Derived.Test.YtmpdaalhafkgjaaGreatDoorV7
import Derived.Test.YtmpdaalhafkgjaaGreatDoorV8
import Derived.Test.YtmpdaalhafkgjaaGreatDoorV5
import Derived.ChangeOld
import Derived.RowKit3
set_option linter.unusedSimpArgs false
set_option linter.unusedVariables false
namespace Go.V
open Go
set_option maxHeartbeats 1600000
variable {A : List Atom}
section
variable {P : Program} {N0 nx n : Nat} {σ : Sg} {Γ : Env} {h : Mp} {rs : List RO} {d : Option Nat} {Z : List PanicEntry → Env → SH → Prop} {K : Env → SH → Prop}
theorem same_vals (g : GoodS N0 σ (Γ.map (·.2)) h nx) {v : Value} (hv : ScV nx v) : GoodS N0 σ (v :: Γ.map (·.2)) h nx := g.with fun u hu => by
  rcases List.mem_cons.1 hu with rfl | hu
  · exact hv
  · exact g.vals u hu
theorem bnd_sound (g : GoodS N0 σ (Γ.map (·.2)) h nx) {d y : Nat} {x : Option Operand} {l : Nat} {dd : Option Nat} (hd : dd = some d) (e : bndE N0 Γ d x = some l) (hl : l ≤ y) : boundO y dd (x.map (evD (rnE σ Γ))) = some l ∧ ∀ o ∈ optl x, known (rnE σ Γ) o = true := by
  cases x with
  | none => simp only [bndE, Option.some.injEq] at e; subst e; exact ⟨hd, fun o ho => by cases ho⟩
  | some x =>
    simp only [bndE] at e
    split at e
    case h_2 => cases e
    rename_i k z hz
    cases e
    have h1 := (ev_rn g hz).1
    rw [rn_int] at h1
    refine ⟨?_, fun o ho => ?_⟩
    · have h2 : evD (rnE σ Γ) x = .int k (Int.ofNat l) := by simp [evD, h1]
      have h3 : (0 : Int) ≤ Int.ofNat l ∧ Int.ofNat l ≤ (y : Int) := ⟨Int.natCast_nonneg _, Int.ofNat_le.2 hl⟩
      simp only [Option.map_some, boundO, h2, bound, if_pos h3]
      rfl
    · simp only [optl, Option.toList_some, List.mem_singleton] at ho
      subst ho; simp [known, h1]
theorem op_slcU {size b o k c : Nat} {x : Operand} {lo hi : Option Operand} {v : Value} (g : GoodS N0 σ (Γ.map (·.2)) h nx) (hx : evS N0 Γ x = some (.slice (some ⟨b, o, none⟩) k c)) (hc : Nat.blt c BIG = false) (hs : slcU N0 Γ h size lo hi b o k c = some v)
    (hok : ScV nx v → VO P n rs (putE d (rn σ v) (rnE σ Γ)) [instH A σ h] Z K) : VO P n (⟨d, none, .slcL size x lo hi none⟩ :: rs) (rnE σ Γ) [instH A σ h] Z K := by
  unfold slcU at hs
  split at hs
  case h_2 => cases hs
  rename_i s vs hb
  split at hs
  case h_2 => cases hs
  rename_i l m hl hm
  split at hs
  case h_2 => cases hs
  rename_i hcond
  simp only [Bool.and_eq_true] at hcond
  obtain ⟨c1, c2, c3, c4, c5, c6, c7⟩ := hcond
  cases hs
  have e1 := beqT c1
  have e2 := bltT c2
  have e3 := beqT c3
  have e4 := bleT c4
  have e5 := bleT c5
  have e6 := bleT c6
  have hcB : ¬ c < BIG := fun hh => by have : Nat.blt c BIG = true := Nat.ble_eq_true_of_le hh; rw [hc] at this; cases this
  have hg := g.grow _ (getB_mem hb)
  simp only [GrB] at hg
  have hcap : (c - BIG + k) * size ≤ σ.cap b * size := by rw [e1] at hg; omega
  have hcap2 : c - BIG + k ≤ σ.cap b := Nat.le_of_mul_le_mul_right hcap e2
  have hid := g.ids _ (getB_mem hb)
  have hx' := (ev_rn g hx).1
  have hxe : evD (rnE σ Γ) x = .slice (some ⟨σ.blk b, σ.off b + o, none⟩) k (σ.cap b - (c - BIG)) := by
    simp only [evD, hx', Option.getD_some, rn_slice, rnA, rnC, if_neg hcB]
  have hlo := bnd_sound (y := m) (dd := some 0) g rfl hl e5
  have hhi := bnd_sound (y := σ.cap b - (c - BIG)) (dd := some k) g rfl hm (by omega)
  refine st_pure rfl ?_ (v := rn σ (.slice (some ⟨b, o + l * size, none⟩) (m - l) (c + l))) ?_ (hok (ScV.slc hid))
  · rw [List.all_eq_true]
    intro y hy
    simp only [rOps, List.mem_cons, List.mem_append] at hy
    rcases hy with rfl | (hy | hy) | hy
    · simp [known, hx']
    · exact hlo.2 y hy
    · exact hhi.2 y hy
    · cases hy
  · have hbd : bounds k (σ.cap b - (c - BIG)) (lo.map (evD (rnE σ Γ))) (hi.map (evD (rnE σ Γ))) none = some (l, m, σ.cap b - (c - BIG)) := by
      have b0 : boundO (σ.cap b - (c - BIG)) (some (σ.cap b - (c - BIG))) none = some (σ.cap b - (c - BIG)) := rfl
      unfold bounds
      rw [b0, Option.bind_some]
      simp only [Option.isSome_none, Bool.false_eq_true, if_false]
      rw [hhi.1, Option.bind_some, hlo.1]; rfl
    simp only [pureV, hxe, Option.map_none, hbd, Option.map_some, rn_slice, rnA, rnC, if_neg (show ¬ c + l < BIG by omega)]
    have hcl : c + l - BIG = c - BIG + l := by omega
    have haddr : (if σ.cap b - (c - BIG) = l then σ.off b + o else σ.off b + o + l * size) = σ.off b + (o + l * size) := by
      split
      · rename_i hh
        rcases Bool.or_eq_true_iff.1 c7 with q | q
        · have := bltT q; omega
        · have := beqT q; subst this; simp
      · omega
    rw [haddr, hcl, Nat.sub_sub]
theorem op_sound {F : CF} (hF : SoundF A P N0 F) {r : R} {res : PR} (he : evalOp N0 F r Γ h nx = some res) (g : GoodS N0 σ (Γ.map (·.2)) h nx)
    (hok : ∀ v h' nx' σ', res = .val v h' nx' → Ag nx σ σ' → nx ≤ nx' → GoodS N0 σ' (v :: Γ.map (·.2)) h' nx' → VO P n rs (putE d (rn σ' v) (rnE σ' Γ)) [instH A σ' h'] Z K)
    (hpan : ∀ ch h' nx' σ', res = .pan ch h' nx' → Ag nx σ σ' → nx ≤ nx' → GoodS N0 σ' (ch.map (·.v)) h' nx' → Z (rnCh σ' ch) (rnE σ Γ) [instH A σ' h']) :
    VO P n (⟨d, none, r⟩ :: rs) (rnE σ Γ) [instH A σ h] Z K := by
  have same : ∀ v, res = .val v h nx → ScV nx v → VO P n rs (putE d (rn σ v) (rnE σ Γ)) [instH A σ h] Z K := fun v e hs => hok v h nx σ e (.refl _ _) (Nat.le_refl _) (same_vals g hs)
  have pur : isPure r = true → pureE N0 r Γ h nx = some res → VO P n (⟨d, none, r⟩ :: rs) (rnE σ Γ) [instH A σ h] Z K := fun hp he => by
    unfold pureE at he
    split at he
    case h_2 => cases he
    rename_i hb
    simp only [Bool.and_eq_true] at hb
    split at he
    case h_2 => cases he
    rename_i v hv
    cases he
    exact op_pure g hp hb.2.1 hb.2.2.1 hb.2.2.2 hv (same v rfl)
  cases r
  case load1 x =>
    simp only [evalOp] at he
    split at he
    case h_2 => cases he
    rename_i b o hx
    split at he
    case h_2 => cases he
    rename_i v hr
    cases he
    exact op_load1 g hx hr (same v rfl)
  case loadN m x =>
    simp only [evalOp] at he
    split at he
    case h_2 => cases he
    rename_i b o hx
    split at he
    case h_2 => cases he
    rename_i us hr
    cases he
    exact op_loadN g hx hr (same _ rfl)
  case alloc t z =>
    simp only [evalOp] at he
    split at he
    case h_2 => cases he
    rename_i hz
    cases he
    exact op_alloc g hz fun σ' a g' => hok _ _ _ σ' rfl a (Nat.le_succ _) g'
  case box t x =>
    simp only [evalOp] at he
    split at he
    case h_2 => cases he
    rename_i v hx
    cases he
    exact op_box g hx fun σ' a g' => hok _ _ _ σ' rfl a (Nat.le_succ _) g'
  case bslice t len z ps =>
    simp only [evalOp] at he
    split at he
    case h_2 => cases he
    rename_i hb
    simp only [Bool.and_eq_true] at hb
    split at he
    case h_2 => cases he
    rename_i out ho
    cases he
    exact op_bslice g hb.1 hb.2.1 ho (bltT hb.2.2) fun σ' a g' => hok _ _ _ σ' rfl a (Nat.le_succ _) g'
  case mkslice t size bytes z l c =>
    simp only [evalOp] at he
    split at he
    case h_2 => cases he
    rename_i kl li kc ci hl hc
    split at he
    case h_2 => cases he
    rename_i hb
    simp only [Bool.and_eq_true] at hb
    cases he
    exact op_mkslice g hl hc hb.1 (bleT hb.2.1) (bleT hb.2.2.1) (bleT hb.2.2.2.1) (beqT hb.2.2.2.2) fun σ' a g' => hok _ _ _ σ' rfl a (Nat.le_succ _) g'
  case store m x y =>
    simp only [evalOp] at he
    split at he
    case h_2 => cases he
    rename_i b o u hx hy
    split at he
    case h_2 => cases he
    rename_i hm
    split at he
    case h_2 => cases he
    rename_i h' hw
    cases he
    exact op_store g hx hy (beqT hm) hw fun g' => hok _ _ _ σ rfl (.refl _ _) (Nat.le_refl _) g'
  case append t size bytes zero s x =>
    simp only [evalOp] at he
    split at he
    case h_2 => cases he
    rename_i sv xv hs hx
    split at he
    case h_2 => cases he
    rename_i xs h' ht
    split at he
    case h_2 => cases he
    rename_i m ys hy
    split at he
    case h_2 => cases he
    rename_i hb
    simp only [Bool.and_eq_true, Bool.not_eq_true'] at hb
    cases he
    exact op_append g hs hx ht hy hb.1 (beqT hb.2.1) (beqF hb.2.2.1) (bleT hb.2.2.2.1) (bleT hb.2.2.2.2.1) (bltT hb.2.2.2.2.2.1) (beqF hb.2.2.2.2.2.2) fun σ' a g' => hok _ _ _ σ' rfl a (Nat.le_succ _) g'
  case s2b t x =>
    simp only [evalOp] at he
    split at he
    case h_2 => cases he
    rename_i s hx
    split at he
    case h_2 => cases he
    rename_i hb
    cases he
    exact op_s2b g hx (beqF hb) fun σ' a g' => hok _ _ _ σ' rfl a (Nat.le_succ _) g'
  case b2s x =>
    simp only [evalOp] at he
    split at he
    · rename_i b o k c hx
      split at he
      case h_2 => cases he
      rename_i vs hr
      split at he
      case h_2 => cases he
      rename_i l hl
      cases he
      exact op_b2s g hx hr hl (same _ rfl)
    · rename_i k c hx
      cases he
      have hx' := (ev_rn g hx).1
      rw [rn_slice0] at hx'
      have hk := same _ rfl (ScV.plain rfl)
      rw [rn_string] at hk
      exact st_b2s hx' (l := []) rfl hk
    · cases he
  case call f xs =>
    simp only [evalOp] at he
    split at he
    case h_2 => cases he
    rename_i args ha
    exact op_call hF g ha he hok hpan
  case callv x xs =>
    simp only [evalOp] at he
    split at he
    case h_2 => cases he
    rename_i f first cap args hx ha
    exact op_callv hF g hx ha he hok hpan
  case pnc x =>
    simp only [evalOp] at he
    split at he
    case h_2 => cases he
    rename_i t v hx
    cases he
    exact op_pnc g hx fun g' => hpan _ _ _ σ rfl (.refl _ _) (Nat.le_refl _) g'
  case slcL size x lo hi mx =>
    simp only [evalOp] at he
    split at he
    · rename_i b o k c hx
      split at he
      · exact pur rfl he
      · rename_i hc
        split at he
        case h_2 => cases he
        rename_i v hs
        cases he
        exact op_slcU g hx hc hs (same v rfl)
    · exact pur rfl he
  all_goals first
    | exact pur rfl he
    | (simp only [evalOp, pureE, isPure, Bool.false_and] at he; cases he; done)
theorem ops_sound {F : CF} (hF : SoundF A P N0 F) : ∀ {rs : List RO} {Γ : Env} {h : Mp} {nx : Nat} {σ : Sg} {res : OR}, evalOps N0 F rs Γ h nx = some res → GoodS N0 σ (Γ.map (·.2)) h nx →
    (∀ Γ' h' nx' σ', res = .ok Γ' h' nx' → Ag nx σ σ' → nx ≤ nx' → GoodS N0 σ' (Γ'.map (·.2)) h' nx' → K (rnE σ' Γ') [instH A σ' h']) →
    (∀ Γ' ch h' nx' σ', res = .pan ch Γ' h' nx' → Ag nx σ σ' → nx ≤ nx' → GoodS N0 σ' (ch.map (·.v) ++ Γ'.map (·.2)) h' nx' → Z (rnCh σ' ch) (rnE σ' Γ') [instH A σ' h']) → VO P n rs (rnE σ Γ) [instH A σ h] Z K := by
  intro rs
  induction rs with
  | nil =>
    intro Γ h nx σ res he g hok hpan
    simp only [evalOps, Option.some.injEq] at he
    exact VO.nil (hok Γ h nx σ he.symm (.refl _ _) (Nat.le_refl _) g)
  | cons x rs ih =>
    intro Γ h nx σ res he g hok hpan
    obtain ⟨d, gd, r⟩ := x
    have go : ∀ {res : OR}, (match evalOp N0 F r Γ h nx with
        | none => none
        | some (.pan ch h' nx') => some (.pan ch Γ h' nx')
        | some (.val v h' nx') => evalOps N0 F rs (putE d v Γ) h' nx') = some res →
        (∀ Γ' h' nx' σ', res = .ok Γ' h' nx' → Ag nx σ σ' → nx ≤ nx' → GoodS N0 σ' (Γ'.map (·.2)) h' nx' → K (rnE σ' Γ') [instH A σ' h']) →
        (∀ Γ' ch h' nx' σ', res = .pan ch Γ' h' nx' → Ag nx σ σ' → nx ≤ nx' → GoodS N0 σ' (ch.map (·.v) ++ Γ'.map (·.2)) h' nx' → Z (rnCh σ' ch) (rnE σ' Γ') [instH A σ' h']) → VO P n (⟨d, none, r⟩ :: rs) (rnE σ Γ) [instH A σ h] Z K := by
      intro res he hok hpan
      cases hr : evalOp N0 F r Γ h nx with
      | none => rw [hr] at he; cases he
      | some pr =>
        rw [hr] at he
        refine op_sound hF hr g ?_ ?_
        · rintro v h' nx' σ' rfl a le g'
          simp only at he
          rw [← rnE_put]
          refine ih he ⟨g'.fix, g'.le, g'.ids, g'.grow, g'.cells, put_vals g'.vals⟩ ?_ ?_
          · intro Γ2 h2 nx2 σ2 e a2 le2 g2
            exact hok Γ2 h2 nx2 σ2 e (a.trans a2 le) (Nat.le_trans le le2) g2
          · intro Γ2 ch h2 nx2 σ2 e a2 le2 g2
            exact hpan Γ2 ch h2 nx2 σ2 e (a.trans a2 le) (Nat.le_trans le le2) g2
        · rintro ch h' nx' σ' rfl a le g'
          simp only [Option.some.injEq] at he
          rw [rnE_ag a g.vals]
          exact hpan Γ ch h' nx' σ' he.symm a le (g'.with fun u hu => by
            rcases List.mem_append.1 hu with hu | hu
            · exact g'.vals u hu
            · exact (g.vals u hu).mono le)
    have skip : ∀ {res : OR}, evalOps N0 F rs (putE d undef Γ) h nx = some res →
        (∀ Γ' h' nx' σ', res = .ok Γ' h' nx' → Ag nx σ σ' → nx ≤ nx' → GoodS N0 σ' (Γ'.map (·.2)) h' nx' → K (rnE σ' Γ') [instH A σ' h']) →
        (∀ Γ' ch h' nx' σ', res = .pan ch Γ' h' nx' → Ag nx σ σ' → nx ≤ nx' → GoodS N0 σ' (ch.map (·.v) ++ Γ'.map (·.2)) h' nx' → Z (rnCh σ' ch) (rnE σ' Γ') [instH A σ' h']) → VO P n rs (putE d undef (rnE σ Γ)) [instH A σ h] Z K := by
      intro res he hok hpan
      have hu : rn σ undef = undef := rn_plain rfl
      have := ih (σ := σ) he (g.with (put_vals (same_vals g (ScV.plain rfl)).vals)) hok hpan
      rw [rnE_put, hu] at this
      exact this
    cases gd with
    | none =>
      simp only [evalOps, guardE] at he
      exact go he hok hpan
    | some sb =>
      obtain ⟨s, b⟩ := sb
      simp only [evalOps, guardE] at he
      cases hl : look Γ s with
      | none => rw [hl] at he; cases he
      | some u =>
        rw [hl] at he
        cases u <;> try (cases he; done)
        case tuple vs =>
          simp only at he
          cases hv : vs.toList with
          | cons x l => rw [hv] at he; cases he
          | nil =>
            rw [hv] at he
            have e : vs = #[] := Array.toList_inj.1 (by rw [hv])
            subst e
            exact st_gu (by rw [look_rn, hl]; simp [undef]) (skip he hok hpan)
        rename_i c
        have hl2 : look (rnE σ Γ) s = some (.bool c) := by rw [look_rn, hl]; simp
        simp only at he
        cases hcb : (c == b) with
        | true =>
          rw [hcb] at he
          have e : c = b := by simpa using hcb
          subst e
          exact st_gt hl2 (go he hok hpan)
        | false =>
          rw [hcb] at he
          exact st_gf hl2 hcb (skip he hok hpan)
end
def rnX (σ : Sg) : Ex → Exit
  | .normal => .normal
  | .exit i => .exit i
  | .ret => .ret
  | .pan ch => .panic (rnCh σ ch)
def exVals : Ex → List Value
  | .pan ch => ch.map (·.v)
  | _ => []
section
variable {P : Program} {N0 n L : Nat}
def SoundC (A : List Atom) (P : Program) (N0 n : Nat) (c : IC) (f : Env → Mp → Nat → IR) : Prop := ∀ Γ h nx e Γ' h' nx', f Γ h nx = some (e, Γ', h', nx') → ∀ σ, GoodS N0 σ (Γ.map (·.2)) h nx → ∀ Q : Exit → Env → SH → Prop,
  (∀ σ', Ag nx σ σ' → nx ≤ nx' → GoodS N0 σ' (exVals e ++ Γ'.map (·.2)) h' nx' → Q (rnX σ' e) (rnE σ' Γ') [instH A σ' h']) → VC P n c (rnE σ Γ) [instH A σ h] Q
theorem loop_sound {c : IC} {f : Env → Mp → Nat → IR} (hc : SoundC A P N0 n c f) : ∀ k, SoundC A P N0 n (.loop c) (loopE f k) := by
  intro k Γ h nx e Γ' h' nx' he σ g Q hq
  refine VC.loop (α := Nat × Env × Mp × Nat × Sg) (Γf := fun s => rnE s.2.2.2.2 s.2.1) (Hf := fun s => [instH A s.2.2.2.2 s.2.2.1])
    (I := fun s => loopE f s.1 s.2.1 s.2.2.1 s.2.2.2.1 = some (e, Γ', h', nx') ∧ Ag nx σ s.2.2.2.2 ∧ nx ≤ s.2.2.2.1 ∧ GoodS N0 s.2.2.2.2 (s.2.1.map (·.2)) s.2.2.1 s.2.2.2.1) (μ := fun s => s.1) (k, Γ, h, nx, σ)
    ⟨he, .refl _ _, Nat.le_refl _, g⟩ Sub.refl (Imp.refl _) ?_
  rintro ⟨j, Γ1, h1, nx1, σ1⟩ ⟨e1, a1, le1, g1⟩
  simp only at e1 a1 le1 g1 ⊢
  cases j with
  | zero => cases e1
  | succ j =>
    simp only [loopE] at e1
    cases hb : f Γ1 h1 nx1 with
    | none => rw [hb] at e1; cases e1
    | some r =>
      obtain ⟨x, Γ2, h2, nx2⟩ := r
      rw [hb] at e1
      refine hc _ _ _ _ _ _ _ hb σ1 g1 _ fun σ' a le g' => ?_
      cases x with
      | normal =>
        simp only at e1
        exact ⟨(j, Γ2, h2, nx2, σ'), ⟨e1, a1.trans a le1, Nat.le_trans le1 le, by simpa [exVals] using g'⟩, Nat.lt_succ_self _, Sub.refl, Imp.refl _⟩
      | exit i => cases e1; exact hq σ' (a1.trans a le1) (Nat.le_trans le1 le) g'
      | ret => cases e1; exact hq σ' (a1.trans a le1) (Nat.le_trans le1 le) g'
      | pan ch => cases e1; exact hq σ' (a1.trans a le1) (Nat.le_trans le1 le) g'
theorem eqL_sound {e : Value → Value → Bool} (he : ∀ a b, e a b = true → a = b) : ∀ {l m : List Value}, eqL e l m = true → l = m := by
  intro l
  induction l with
  | nil => intro m h; cases m with
    | nil => rfl
    | cons => simp [eqL] at h
  | cons a l ih => intro m h; cases m with
    | nil => simp [eqL] at h
    | cons b m =>
      simp only [eqL, Bool.and_eq_true] at h
      rw [he _ _ h.1, ih h.2]
theorem eqV_sound : ∀ (k : Nat) {a b : Value}, eqV k a b = true → a = b := by
  intro k
  induction k with
  | zero => intro a b h; simp [eqV] at h
  | succ k ih =>
    intro a b h
    unfold eqV at h
    split at h <;> (try simp only [Bool.and_eq_true, beq_iff_eq, decide_eq_true_eq] at h)
    all_goals first
      | rfl
      | (cases h; done)
      | (obtain ⟨h1, h2⟩ := h; subst h1; subst h2; rfl)
      | (subst h; rfl)
      | (obtain ⟨h1, h2⟩ := h; rw [beqT h1, beqT h2])
      | (obtain ⟨h1, h2, h3⟩ := h; rw [h1, beqT h2, beqT h3])
      | (rw [beqT h])
      | (obtain ⟨h1, h2⟩ := h; rw [h1, ih h2])
      | (rw [Array.toList_inj.1 (eqL_sound (fun _ _ => ih) h)])
      | (obtain ⟨h1, h2, h3⟩ := h; rw [h1, Array.toList_inj.1 (eqL_sound (fun _ _ => ih) h2), Array.toList_inj.1 (eqL_sound (fun _ _ => ih) h3)])
theorem eqE_sound : ∀ {Γ Δ : Env}, eqE Γ Δ = true → Γ = Δ := by
  intro Γ
  induction Γ with
  | nil => intro Δ h; cases Δ with
    | nil => rfl
    | cons => simp [eqE] at h
  | cons p Γ ih =>
    intro Δ h
    obtain ⟨s, x⟩ := p
    cases Δ with
    | nil => simp [eqE] at h
    | cons q Δ =>
      obtain ⟨t, y⟩ := q
      simp only [eqE, Bool.and_eq_true] at h
      rw [beqT h.1, eqV_sound 20 h.2.1, ih h.2.2]
theorem eqM_sound : ∀ {l m : List MapEntry}, eqM l m = true → l = m := by
  intro l
  induction l with
  | nil => intro m h; cases m with
    | nil => rfl
    | cons => simp [eqM] at h
  | cons a l ih => intro m h; cases m with
    | nil => simp [eqM] at h
    | cons b m =>
      simp only [eqM, Bool.and_eq_true] at h
      obtain ⟨⟨h1, h2⟩, h3, h4⟩ := h
      cases a; cases b
      simp only at h1 h2 h3
      rw [eqV_sound 20 h1, eqV_sound 20 h2, beqT h3, ih h4]
theorem eqB_sound {a b : Blk} (h : eqB a b = true) : a = b := by
  unfold eqB at h
  split at h <;> (try simp only [Bool.and_eq_true, decide_eq_true_eq] at h)
  · rw [eqL_sound (fun _ _ => eqV_sound 20) h]
  · rw [beqT h.1, eqL_sound (fun _ _ => eqV_sound 20) h.2]
  · rw [beqT h.2, Array.toList_inj.1 (eqM_sound h.1)]
  · rw [h.1, beqT h.2]
  · cases h
theorem eqH_sound : ∀ {Γ Δ : Mp}, eqH Γ Δ = true → Γ = Δ := by
  intro Γ
  induction Γ with
  | nil => intro Δ h; cases Δ with
    | nil => rfl
    | cons => simp [eqH] at h
  | cons p Γ ih =>
    intro Δ h
    obtain ⟨s, x⟩ := p
    cases Δ with
    | nil => simp [eqH] at h
    | cons q Δ =>
      obtain ⟨t, y⟩ := q
      simp only [eqH, Bool.and_eq_true] at h
      rw [beqT h.1, eqB_sound h.2.1, ih h.2.2]
theorem drawE_mem {F : CF} {keep : List Nat} {Γ Δ : Env} {h h1 : Mp} {nx n1 : Nat} : ∀ {r : List (List RO)}, drawE N0 F keep Γ h nx Δ h1 n1 r = true → ∀ rs ∈ r, ∃ Γ2, evalOps N0 F rs Γ h nx = some (.ok Γ2 h1 n1) ∧ restr keep Γ2 = Δ := by
  intro r
  induction r with
  | nil => intro _ rs h; cases h
  | cons x r ih =>
    intro he rs hrs
    simp only [drawE] at he
    split at he
    case h_2 => cases he
    rename_i Γ' h' nx' ho
    split at he
    case h_2 => cases he
    rename_i hE
    simp only [Bool.and_eq_true] at hE
    rcases List.mem_cons.1 hrs with rfl | hrs
    · exact ⟨Γ', by rw [ho, beqT hE.2.1, eqH_sound hE.2.2], eqE_sound hE.1⟩
    · exact ih he rs hrs
theorem splitsC_spec : ∀ {l acc : List RO} {p : List RO × (Option Nat × Nat × List Operand) × List RO}, p ∈ splitsC acc l → acc.reverse ++ l = p.1 ++ ⟨p.2.1.1, none, .call p.2.1.2.1 p.2.1.2.2⟩ :: p.2.2 := by
  intro l
  induction l with
  | nil => intro acc p h; cases h
  | cons x l ih =>
    intro acc p h
    simp only [splitsC] at h
    split at h
    · rcases List.mem_cons.1 h with rfl | h
      · rfl
      · have := ih h; simpa using this
    · have := ih h; simpa using this
theorem eqCh_sound : ∀ {a b : List PanicEntry}, eqCh a b = true → a = b := by
  intro a
  induction a with
  | nil => intro b h; cases b with
    | nil => rfl
    | cons => simp [eqCh] at h
  | cons x a ih =>
    intro b h
    cases b with
    | nil => simp [eqCh] at h
    | cons y b =>
      simp only [eqCh, Bool.and_eq_true, beq_iff_eq] at h
      obtain ⟨h1, ⟨h2, h3⟩, h4⟩ := h
      cases x; cases y
      simp only at h1 h2 h3
      rw [eqV_sound 20 h1, h2, h3, ih h4]
theorem ic_sound {F : CF} (hF : SoundF A P N0 F) (L : Nat) : ∀ c : IC, SoundC A P N0 n c (evalIC N0 F L c) := by
  intro c
  induction c with
  | skip =>
    intro Γ h nx e Γ' h' nx' he σ g Q hq
    simp only [evalIC, Option.some.injEq, Prod.mk.injEq] at he
    obtain ⟨rfl, rfl, rfl, rfl⟩ := he
    exact VC.skip (hq σ (.refl _ _) (Nat.le_refl _) (by simpa [exVals] using g))
  | reg rs keep =>
    intro Γ h nx e Γ' h' nx' he σ g Q hq
    simp only [evalIC] at he
    cases ho : evalOps N0 F rs Γ h nx with
    | none => rw [ho] at he; cases he
    | some r =>
      rw [ho] at he
      refine VC.reg (ops_sound hF ho g ?_ ?_)
      · rintro Γ2 h2 nx2 σ2 rfl a le g2
        simp only [Option.some.injEq, Prod.mk.injEq] at he
        obtain ⟨rfl, rfl, rfl, rfl⟩ := he
        have := hq σ2 a le (by simpa [exVals] using g2.with (restr_vals g2.vals)); rw [rnE_restr] at this; exact this
      · rintro Γ2 ch h2 nx2 σ2 rfl a le g2
        simp only [Option.some.injEq, Prod.mk.injEq] at he
        obtain ⟨rfl, rfl, rfl, rfl⟩ := he
        exact hq σ2 a le (by simpa [exVals] using g2)
  | draw rss keep =>
    intro Γ h nx e Γ' h' nx' he σ g Q hq
    simp only [evalIC] at he
    split at he
    case h_1 => cases he
    rename_i rs r
    cases ho : evalOps N0 F rs Γ h nx with
    | none => rw [ho] at he; cases he
    | some res =>
      rw [ho] at he
      cases res with
      | pan ch Γ1 h1 n1 =>
        simp only at he
        split at he
        case h_2 => cases he
        rename_i hb
        simp only [Option.some.injEq, Prod.mk.injEq] at he
        obtain ⟨rfl, rfl, rfl, rfl⟩ := he
        refine VC.draw_pan fun rs2 hrs2 => ?_
        have hb2 := List.all_eq_true.1 hb rs2 hrs2
        obtain ⟨p, hp, hs⟩ := List.any_eq_true.1 hb2
        refine ⟨p.1, p.2.1.1, p.2.1.2.1, p.2.1.2.2, p.2.2, by simpa using splitsC_spec hp, fun S hS => ?_⟩
        have hk := List.all_eq_true.1 hs S hS
        unfold selPan at hk
        split at hk
        case h_2 => cases hk
        rename_i Γ2 h2 n2 ho2
        split at hk
        case h_2 => cases hk
        rename_i ch3 Γ3 h3 n3 ho3
        simp only [Bool.and_eq_true] at hk
        obtain ⟨k1, k2, k3⟩ := hk
        obtain rfl := eqCh_sound k1
        obtain rfl := beqT k2
        obtain rfl := eqH_sound k3
        refine ops_sound hF ho2 g ?_ ?_
        · rintro Γ4 h4 nx4 σ4 e4 a4 le4 g4
          cases e4
          refine ops_sound hF ho3 g4 ?_ ?_
          · rintro Γ5 h5 nx5 σ5 e5
            cases e5
          · rintro Γ5 ch5 h5 nx5 σ5 e5 a5 le5 g5
            cases e5
            exact hq σ5 (a4.trans a5 le4) (Nat.le_trans le4 le5) (by simpa [exVals] using g5.with (fun u hu => g5.vals u (List.mem_append_left _ hu)))
        · rintro Γ4 ch4 h4 nx4 σ4 e4
          cases e4
      | ok Γ1 h1 n1 =>
        simp only at he
        have first : ∀ Q2 : Env → SH → Prop, (∀ σ', Ag nx σ σ' → nx ≤ n1 → GoodS N0 σ' (Γ1.map (·.2)) h1 n1 → Q2 (restr keep (rnE σ' Γ1)) [instH A σ' h1]) → VO P n rs (rnE σ Γ) [instH A σ h] (fun _ _ _ => False) fun Γ' H' => Q2 (restr keep Γ') H' := fun Q2 hq2 => by
          refine ops_sound hF ho g ?_ ?_
          · rintro Γ2 h2 nx2 σ2 e2 a le g2
            cases e2
            exact hq2 σ2 a le g2
          · rintro Γ2 ch h2 nx2 σ2 e2
            cases e2
        cases r with
        | nil =>
          simp only [Option.some.injEq, Prod.mk.injEq] at he
          obtain ⟨rfl, rfl, rfl, rfl⟩ := he
          exact VC.draw1 (first (fun Γ H => Q .normal Γ H) fun σ' a le g2 => by have := hq σ' a le (by simpa [exVals] using g2.with (restr_vals g2.vals)); rw [rnE_restr] at this; exact this)
        | cons r0 r1 =>
          simp only at he
          split at he
          case h_2 => cases he
          rename_i hb
          simp only [Option.some.injEq, Prod.mk.injEq] at he
          obtain ⟨rfl, rfl, rfl, rfl⟩ := he
          refine VC.draw fun rs2 hrs2 => ?_
          have go : ∀ Γ2, evalOps N0 F rs2 Γ h nx = some (.ok Γ2 h1 n1) → restr keep Γ2 = restr keep Γ1 → VO P n rs2 (rnE σ Γ) [instH A σ h] (fun _ _ _ => False) fun Γ' H' => Q .normal (restr keep Γ') H' := fun Γ2 ho2 e2 => by
            refine ops_sound hF ho2 g ?_ ?_
            · rintro Γ3 h3 nx3 σ3 e3 a le g3
              cases e3
              have := hq σ3 a le (by rw [← e2]; simpa [exVals] using g3.with (restr_vals g3.vals))
              rw [← e2, rnE_restr] at this
              exact this
            · rintro Γ3 ch h3 nx3 σ3 e3
              cases e3
          rcases List.mem_cons.1 hrs2 with rfl | hrs2
          · exact go Γ1 ho rfl
          · obtain ⟨Γ2, o1, o2⟩ := drawE_mem hb _ hrs2
            exact go Γ2 o1 o2
  | seq x y ihx ihy =>
    intro Γ h nx e Γ' h' nx' he σ g Q hq
    simp only [evalIC] at he
    cases hb : evalIC N0 F L x Γ h nx with
    | none => rw [hb] at he; cases he
    | some r =>
      obtain ⟨e2, Γ2, h2, nx2⟩ := r
      rw [hb] at he
      refine VC.seq (ihx _ _ _ _ _ _ _ hb σ g _ fun σ' a le g' => ?_)
      cases e2 with
      | normal =>
        exact ihy _ _ _ _ _ _ _ he σ' (by simpa [exVals] using g') Q fun σ2 a2 le2 g2 => hq σ2 (a.trans a2 le) (Nat.le_trans le le2) g2
      | exit i => cases he; exact hq σ' a le g'
      | ret => cases he; exact hq σ' a le g'
      | pan ch => cases he; exact hq σ' a le g'
  | cond c x y ihx ihy =>
    intro Γ h nx e Γ' h' nx' he σ g Q hq
    simp only [evalIC] at he
    split at he
    · rename_i hc
      have hc' := (ev_rn g hc).1
      rw [rn_bool] at hc'
      exact VC.cond_t hc' (ihx _ _ _ _ _ _ _ he σ g Q hq)
    · rename_i hc
      have hc' := (ev_rn g hc).1
      rw [rn_bool] at hc'
      exact VC.cond_f hc' (ihy _ _ _ _ _ _ _ he σ g Q hq)
    · cases he
  | block id x ih =>
    intro Γ h nx e Γ' h' nx' he σ g Q hq
    simp only [evalIC] at he
    cases hb : evalIC N0 F L x Γ h nx with
    | none => rw [hb] at he; cases he
    | some r =>
      obtain ⟨e2, Γ2, h2, nx2⟩ := r
      rw [hb] at he
      refine VC.block (ih _ _ _ _ _ _ _ hb σ g _ fun σ' a le g' => ?_)
      cases e2 with
      | normal => cases he; exact hq σ' a le g'
      | exit i =>
        simp only at he
        cases hi : Nat.beq i id with
        | true =>
          rw [hi] at he
          cases he
          show blockQ id Q (.exit i) _ _
          simp only [blockQ, beqT hi, if_true]
          exact hq σ' a le (by simpa [exVals] using g')
        | false =>
          rw [hi] at he
          cases he
          show blockQ id Q (.exit i) _ _
          simp only [blockQ, if_neg (beqF hi)]
          exact hq σ' a le g'
      | ret => cases he; exact hq σ' a le g'
      | pan ch => cases he; exact hq σ' a le g'
  | loop x ih => exact loop_sound ih L
  | exit id =>
    intro Γ h nx e Γ' h' nx' he σ g Q hq
    simp only [evalIC, Option.some.injEq, Prod.mk.injEq] at he
    obtain ⟨rfl, rfl, rfl, rfl⟩ := he
    exact VC.exit (hq σ (.refl _ _) (Nat.le_refl _) (by simpa [exVals] using g))
  | ret =>
    intro Γ h nx e Γ' h' nx' he σ g Q hq
    simp only [evalIC, Option.some.injEq, Prod.mk.injEq] at he
    obtain ⟨rfl, rfl, rfl, rfl⟩ := he
    exact VC.ret (hq σ (.refl _ _) (Nat.le_refl _) (by simpa [exVals] using g))
  | scope x ih =>
    intro Γ h nx e Γ' h' nx' he σ g Q hq
    simp only [evalIC] at he
    refine VC.scope (ih _ _ _ _ _ _ _ he σ g _ fun σ' a le g' => ⟨fun l => ?_, hq σ' a le g'⟩)
    cases e <;> simp [rnX]
  | label l =>
    intro Γ h nx e Γ' h' nx' he σ g Q hq
    simp only [evalIC, Option.some.injEq, Prod.mk.injEq] at he
    obtain ⟨rfl, rfl, rfl, rfl⟩ := he
    exact VC.label (hq σ (.refl _ _) (Nat.le_refl _) (by simpa [exVals] using g))
  | rangef g ps x y ihx ihy => intro Γ h nx e Γ' h' nx' he; simp only [evalIC] at he; cases he
  | free rs an keep => intro Γ h nx e Γ' h' nx' he; simp only [evalIC] at he; cases he
theorem res_sound {nx : Nat} {σ : Sg} {Γ : Env} {h : Mp} {vals : List Value} (g : GoodS N0 σ vals h nx) (hv : ∀ v ∈ Γ.map (·.2), ScV nx v) : ∀ {r : List RV} {vs : List Value}, resE Γ h r = some vs → Res (rnE σ Γ) [instH A σ h] r (vs.map (rn σ)) ∧ ∀ v ∈ vs, ScV nx v := by
  intro r
  induction r with
  | nil => intro vs e; simp only [resE, Option.some.injEq] at e; subst e; exact ⟨.nil, fun v hv => by cases hv⟩
  | cons x r ih =>
    intro vs e
    cases x with
    | tmp t =>
      simp only [resE] at e
      split at e
      case h_2 => cases e
      rename_i v l hl hr
      cases e
      obtain ⟨i1, i2⟩ := ih hr
      refine ⟨.tmp (by rw [look_rn, hl]; rfl) i1, fun u hu => ?_⟩
      rcases List.mem_cons.1 hu with rfl | hu
      · exact hv _ (look_mem hl)
      · exact i2 u hu
    | cell1 t =>
      simp only [resE] at e
      split at e
      case h_2 => cases e
      rename_i b o hl
      split at e
      case h_2 => cases e
      rename_i v l hr hr2
      cases e
      obtain ⟨i1, i2⟩ := ih hr2
      refine ⟨.cell1 (b := σ.blk b) (o := σ.off b + o) (by rw [look_rn, hl]; simp [rnA]) ?_ i1, fun u hu => ?_⟩
      · simp only [List.flatten_cons, List.flatten_nil, List.append_nil]
        exact readN_mem hr _ (by simp [cellsAt])
      · rcases List.mem_cons.1 hu with rfl | hu
        · exact readN_sc g hr _ (by simp)
        · exact i2 u hu
    | cellN t m =>
      simp only [resE] at e
      split at e
      case h_2 => cases e
      rename_i b o hl
      split at e
      case h_2 => cases e
      rename_i us l hr hr2
      cases e
      obtain ⟨i1, i2⟩ := ih hr2
      refine ⟨?_, fun u hu => ?_⟩
      · have he : rn σ (.agg us.toArray) = .agg (us.map (rn σ)).toArray := by simp
        rw [List.map_cons, he]
        refine .cellN (b := σ.blk b) (o := σ.off b + o) (by rw [look_rn, hl]; simp [rnA]) (by rw [List.length_map]; exact readN_len hr) ?_ i1
        simp only [List.flatten_cons, List.flatten_nil, List.append_nil]
        exact readN_mem hr
      · rcases List.mem_cons.1 hu with rfl | hu
        · exact ScV.agg (readN_sc g hr)
        · exact i2 u hu
def FeOk (P : Program) (f : Nat) : FE → Prop
  | .fir F => ∃ kp od, lowF P kp od f = some F
  | .dir D G => (∃ kp od, lowFD P kp od f = some D) ∧ ∃ kp od, lowFR P kp od D.dr.g = some G
def TabOk (P : Program) (tab : List (Nat × FE)) : Prop := ∀ p ∈ tab, FeOk P p.1 p.2
def OrcOk (A : List Atom) (P : Program) (orc : Nat → List Value → Option Value) : Prop := ∀ f args v, orc f args = some v → plainV v = true ∧ ∀ σ : Sg, Fun P f (args.map (rn σ)) [A] (fun u Post => u = v ∧ Post = [A])
theorem TabOk.nil : TabOk P [] := fun p hp => by cases hp
theorem TabOk.cons {f : Nat} {R : FIR} {kp : Nat → List Nat} {od : Nat → List (List Nat)} {tab : List (Nat × FE)} (h : lowF P kp od f = some R) (t : TabOk P tab) : TabOk P ((f, .fir R) :: tab) := fun p hp => by
  rcases List.mem_cons.1 hp with rfl | hp
  · exact ⟨kp, od, h⟩
  · exact t p hp
theorem TabOk.consD {f : Nat} {D : DIR} {G : RIR} {kp kp' : Nat → List Nat} {od od' : Nat → List (List Nat)} {tab : List (Nat × FE)} (h : lowFD P kp od f = some D) (h' : lowFR P kp' od' D.dr.g = some G) (t : TabOk P tab) : TabOk P ((f, .dir D G) :: tab) := fun p hp => by
  rcases List.mem_cons.1 hp with rfl | hp
  · exact ⟨⟨kp, od, h⟩, kp', od', h'⟩
  · exact t p hp
theorem tab_mem {tab : List (Nat × FE)} {f : Nat} {R : FE} (e : tabF tab f = some R) : (f, R) ∈ tab := by
  induction tab with
  | nil => cases e
  | cons p tab ih =>
    obtain ⟨i, b⟩ := p
    simp only [tabF] at e
    split at e
    · rename_i hb; cases e; rw [beqT hb]; simp
    · simp [ih e]
theorem args_vals : ∀ {vs : List Value} {k : Nat}, (argsEnv k vs).map (·.2) = vs := by
  intro vs
  induction vs with
  | nil => intro k; rfl
  | cons v vs ih => intro k; simp only [argsEnv, List.map_cons, ih]
theorem args_rn (σ : Sg) : ∀ {vs : List Value} {k : Nat}, rnE σ (argsEnv k vs) = argsEnv k (vs.map (rn σ)) := by
  intro vs
  induction vs with
  | nil => intro k; rfl
  | cons v vs ih => intro k; simp only [argsEnv, List.map_cons, ← ih]; rfl
theorem z_sound {F : CF} (hF : SoundF A P N0 F) : ∀ (c : IC) (Γ : Env) (h : Mp) (nx : Nat) (e : Ex) (Γ' : Env) (h' : Mp) (nx' : Nat), evalZ N0 F c Γ h nx = some (e, Γ', h', nx') → ∀ σ, GoodS N0 σ (Γ.map (·.2)) h nx → ∀ Q : Exit → Env → SH → Prop,
    (∀ σ', Ag nx σ σ' → nx ≤ nx' → GoodS N0 σ' (Γ'.map (·.2)) h' nx' → Q (rnX σ' e) (rnE σ' Γ') [instH A σ' h']) → VCz P n c (rnE σ Γ) [instH A σ h] Q := by
  intro c
  induction c with
  | skip =>
    intro Γ h nx e Γ' h' nx' he σ g Q hq
    simp only [evalZ, Option.some.injEq, Prod.mk.injEq] at he
    obtain ⟨rfl, rfl, rfl, rfl⟩ := he
    exact VCz.skip (hq σ (.refl _ _) (Nat.le_refl _) g)
  | ret =>
    intro Γ h nx e Γ' h' nx' he σ g Q hq
    simp only [evalZ, Option.some.injEq, Prod.mk.injEq] at he
    obtain ⟨rfl, rfl, rfl, rfl⟩ := he
    exact VCz.ret (hq σ (.refl _ _) (Nat.le_refl _) g)
  | reg rs keep =>
    intro Γ h nx e Γ' h' nx' he σ g Q hq
    simp only [evalZ] at he
    cases ho : evalOps N0 F rs Γ h nx with
    | none => rw [ho] at he; cases he
    | some r =>
      rw [ho] at he
      refine VCz.reg (ops_sound hF ho g ?_ ?_)
      · rintro Γ2 h2 nx2 σ2 rfl a le g2
        simp only [Option.some.injEq, Prod.mk.injEq] at he
        obtain ⟨rfl, rfl, rfl, rfl⟩ := he
        have := hq σ2 a le (g2.with (restr_vals g2.vals)); rw [rnE_restr] at this; exact this
      · rintro Γ2 ch h2 nx2 σ2 rfl
        cases he
  | seq x y ihx ihy =>
    intro Γ h nx e Γ' h' nx' he σ g Q hq
    simp only [evalZ] at he
    split at he
    · rename_i Γ2 h2 nx2 hb
      refine VCz.seq (ihx _ _ _ _ _ _ _ hb σ g _ fun σ' a le g' => ?_)
      exact ihy _ _ _ _ _ _ _ he σ' g' Q fun σ2 a2 le2 g2 => hq σ2 (a.trans a2 le) (Nat.le_trans le le2) g2
    · rename_i Γ2 h2 nx2 hb
      cases he
      exact VCz.seq (ihx _ _ _ _ _ _ _ hb σ g _ fun σ' a le g' => hq σ' a le g')
    · cases he
  | cond c x y ihx ihy =>
    intro Γ h nx e Γ' h' nx' he σ g Q hq
    simp only [evalZ] at he
    split at he
    · rename_i hc
      have hc' := (ev_rn g hc).1
      rw [rn_bool] at hc'
      exact VCz.cond hc' (fun _ => ihx _ _ _ _ _ _ _ he σ g Q hq) (fun e => by cases e)
    · rename_i hc
      have hc' := (ev_rn g hc).1
      rw [rn_bool] at hc'
      exact VCz.cond hc' (fun e => by cases e) (fun _ => ihy _ _ _ _ _ _ _ he σ g Q hq)
    · cases he
  | _ => intro Γ h nx e Γ' h' nx' he; simp only [evalZ] at he; cases he
theorem def_sound {F : CF} (hF : SoundF A P N0 F) {G : RIR} {rv : Value} {caps : List Value} {h h2 : Mp} {nx nx2 : Nat} (he : evalDef N0 F G rv caps h nx = some (h2, nx2)) {g : Nat} {kp : Nat → List Nat} {od : Nat → List (List Nat)} (hl : lowFR P kp od g = some G) {σ : Sg}
    (gd : GoodS N0 σ (rv :: caps) h nx) {u u' : FrameMode} (hu : Rcv u (rn σ rv) u') : FunDR P g (caps.map (rn σ)) u u' [instH A σ h] (fun Post => ∃ σ', Ag nx σ σ' ∧ nx ≤ nx2 ∧ GoodS N0 σ' [] h2 nx2 ∧ Post = [instH A σ' h2]) := by
  unfold evalDef at he
  split at he
  case h_2 => cases he
  rename_i hn
  split at he
  case h_2 => cases he
  rename_i Γ1 h1 nx1 ho
  refine FunDR.intro hl (by rw [List.length_map]; exact bleT hn) hu ?_
  have henv : ((G.d, rn σ rv) :: argsEnv 0 (caps.map (rn σ))) = rnE σ ((G.d, rv) :: argsEnv 0 caps) := by rw [← args_rn]; rfl
  rw [henv]
  refine ops_sound hF ho (gd.with (by simp only [List.map_cons, args_vals]; exact gd.vals)) ?_ ?_
  rotate_left
  · rintro Γ2 ch h2 nx2 σ2 e2; cases e2
  rintro Γ2 h3 nx3 σ2 e2 a le g2
  cases e2
  have fin : ∀ (e : Ex) (Γ' : Env) (h' : Mp) (nx' : Nat), (e = .normal ∨ e = .ret) → evalZ N0 F G.post Γ1 h1 nx1 = some (e, Γ', h', nx') → (match resE Γ' h' G.res with | some _ => some (h', nx') | none => none) = some (h2, nx2) →
      VCz P G.n G.post (rnE σ2 Γ1) [instH A σ2 h1] (endQ G.res fun _ Post => ∃ σ', Ag nx σ σ' ∧ nx ≤ nx2 ∧ GoodS N0 σ' [] h2 nx2 ∧ Post = [instH A σ' h2]) := by
    intro e Γ' h' nx' hx hz hr
    split at hr
    case h_2 => cases hr
    rename_i vs hvs
    cases hr
    refine z_sound hF _ _ _ _ _ _ _ _ hz σ2 g2 _ fun σ' a2 le2 g3 => ?_
    obtain ⟨r1, r2⟩ := res_sound g3 g3.vals hvs
    refine ⟨by rcases hx with rfl | rfl <;> simp [rnX], _, _, r1, Imp.refl _, σ', a.trans a2 le, Nat.le_trans le le2, g3.with (fun v hv => by cases hv), rfl⟩
  split at he
  · rename_i Γ' h' nx' hz; exact fin _ _ _ _ (.inl rfl) hz he
  · rename_i Γ' h' nx' hz; exact fin _ _ _ _ (.inr rfl) hz he
  · cases he
theorem dir_sound {F : CF} (hF : SoundF A P N0 F) {L f : Nat} {D : DIR} {G : RIR} (hd : FeOk P f (.dir D G)) {args : List Value} {h : Mp} {nx : Nat} {res : PR} (hn : args.length ≤ D.n) (he : evalDir N0 F L D G args h nx = some res) {σ : Sg} (g : GoodS N0 σ args h nx) :
    Fun P f (args.map (rn σ)) [instH A σ h] (fun v Post => ∃ v0 h' nx' σ', res = .val v0 h' nx' ∧ Ag nx σ σ' ∧ nx ≤ nx' ∧ GoodS N0 σ' [v0] h' nx' ∧ v = rn σ' v0 ∧ Post = [instH A σ' h']) := by
  obtain ⟨⟨kp, od, hl⟩, kp', od', hl'⟩ := hd
  refine Fun.introDP hl (by rw [List.length_map]; exact hn) ?_
  rw [← args_rn]
  generalize hQ : (fun v Post => ∃ v0 h' nx' σ', res = PR.val v0 h' nx' ∧ Ag nx σ σ' ∧ nx ≤ nx' ∧ GoodS N0 σ' [v0] h' nx' ∧ v = rn σ' v0 ∧ Post = [instH A σ' h']) = Q
  have hQ' : ∀ v0 h' nx' σ', res = PR.val v0 h' nx' → Ag nx σ σ' → nx ≤ nx' → GoodS N0 σ' [v0] h' nx' → Q (rn σ' v0) [instH A σ' h'] := by
    intro v0 h' nx' σ' a b c d; rw [← hQ]; exact ⟨v0, h', nx', σ', a, b, c, d, rfl, rfl⟩
  clear hQ
  have key : ∀ (l : List IC) (Γ : Env) (h1 : Mp) (n1 : Nat) (σ1 : Sg), (match evalPre N0 F L l Γ h1 n1 with
      | some (Γ, h, nx) => match evSs N0 Γ D.dr.caps with
        | some caps => match evalIC N0 F L D.post ((D.dr.d, .func (.func D.dr.g) #[] caps.toArray) :: Γ) h nx with
          | some (e, Γ', h', nx') => match rcvE e with
            | some rv => match evalDef N0 F G rv caps h' nx' with
              | some (h2, nx2) => match resE Γ' h2 D.res with
                | some vs => some (PR.val (tup vs) h2 nx2)
                | none => none
              | none => none
            | none => none
          | none => none
        | none => none
      | none => none) = some res → Ag nx σ σ1 → nx ≤ n1 → GoodS N0 σ1 (Γ.map (·.2)) h1 n1 → VDP P D.n D.res D.dr D.post Q l (rnE σ1 Γ) [instH A σ1 h1] := by
    intro l
    induction l with
    | nil =>
      intro Γ h1 n1 σ1 he a1 le1 g1
      simp only [evalPre] at he
      split at he
      case h_2 => cases he
      rename_i caps hcaps
      split at he
      case h_2 => cases he
      rename_i e Γ' h' nx' hb
      split at he
      case h_2 => cases he
      rename_i rv hrv
      split at he
      case h_2 => cases he
      rename_i h2 nx2 hdef
      split at he
      case h_2 => cases he
      rename_i vs hvs
      cases he
      obtain ⟨c1, c2⟩ := evs_rn g1 hcaps
      refine ⟨_, c1, ?_⟩
      have hfv : ScV n1 (.func (.func D.dr.g) #[] caps.toArray) := fun σ2 τ2 a => by
        have hm : caps.toArray.map (rn σ2) = caps.toArray.map (rn τ2) := by
          apply Array.toList_inj.1
          simp only [Array.toList_map]
          exact List.map_congr_left fun x hx => c2 x hx σ2 τ2 a
        simp only [rn_func, rnF, hm]; simp
      have henv : ((D.dr.d, Value.func (.func D.dr.g) #[] (caps.map (rn σ1)).toArray) :: rnE σ1 Γ) = rnE σ1 ((D.dr.d, .func (.func D.dr.g) #[] caps.toArray) :: Γ) := by
        simp [rnE, rnF]
      rw [henv]
      refine ic_sound hF L D.post _ _ _ _ _ _ _ hb σ1 (g1.with fun u hu => by
        simp only [List.map_cons] at hu
        rcases List.mem_cons.1 hu with rfl | hu
        · exact hfv
        · exact g1.vals u hu) _ fun σ' a le g' => ?_
      have gd : ScV nx' rv → GoodS N0 σ' (rv :: caps) h' nx' := fun hr => g'.with fun u hu => by
        rcases List.mem_cons.1 hu with rfl | hu
        · exact hr
        · exact (c2 u hu).mono le
      have hcapeq : caps.map (rn σ1) = caps.map (rn σ') := List.map_congr_left fun x hx => c2 x hx _ _ a
      rw [hcapeq]
      have hres : ∀ Post, (∃ σ2, Ag nx' σ' σ2 ∧ nx' ≤ nx2 ∧ GoodS N0 σ2 [] h2 nx2 ∧ Post = [instH A σ2 h2]) → endQ D.res Q .ret (rnE σ' Γ') (Post ++ []) := by
        rintro Post ⟨σ2, b1, b2, b3, rfl⟩
        have hΓ : ∀ u ∈ Γ'.map (·.2), ScV nx' u := fun u hu => g'.vals u (List.mem_append_right _ hu)
        rw [rnE_ag b1 hΓ]
        obtain ⟨r1, r2⟩ := res_sound b3 (fun u hu => (hΓ u hu).mono b2) hvs
        refine ⟨.inr rfl, _, [instH A σ2 h2], r1, Imp.refl _, ?_⟩
        rw [← rn_tup]
        exact hQ' _ _ _ σ2 rfl ((a1.trans a le1).trans b1 (Nat.le_trans le1 le)) (Nat.le_trans (Nat.le_trans le1 le) b2) (b3.with fun u hu => by rw [List.mem_singleton.1 hu]; exact ScV.tup r2)
      cases e with
      | exit i => cases hrv
      | normal =>
        cases hrv
        have := def_sound hF hdef hl' (gd (ScV.plain rfl)) (u := .returning) (u' := .returning) (by rw [rn_nilI]; exact .none)
        exact ⟨.inl rfl, _, [], _, this, by simp [Spl], hres⟩
      | ret =>
        cases hrv
        have := def_sound hF hdef hl' (gd (ScV.plain rfl)) (u := .returning) (u' := .returning) (by rw [rn_nilI]; exact .none)
        exact ⟨.inr rfl, _, [], _, this, by simp [Spl], hres⟩
      | pan ch =>
        have hch : ch = [⟨rv, false, false⟩] := by
          unfold rcvE at hrv
          split at hrv
          · rename_i e; cases e
          · rename_i e; cases e
          · rename_i v e; cases e; cases hrv; rfl
          · cases hrv
        subst hch
        have hsc : ScV nx' rv := g'.vals rv (by simp [exVals])
        have := def_sound hF hdef hl' (gd hsc) (u := .panicking [{ v := rn σ' rv, recovered := false }]) (u' := .panicking [{ v := rn σ' rv, recovered := true }]) .some
        exact ⟨_, [], _, _, this, rfl, by simp [Spl], hres⟩
    | cons c l ih =>
      intro Γ h1 n1 σ1 he a1 le1 g1
      simp only [evalPre] at he
      cases hb : evalIC N0 F L c Γ h1 n1 with
      | none => rw [hb] at he; cases he
      | some r =>
        obtain ⟨e, Γ2, h2, n2⟩ := r
        rw [hb] at he
        cases e with
        | normal =>
          refine ic_sound hF L c _ _ _ _ _ _ _ hb σ1 g1 _ fun σ' a le g' => ?_
          exact ih Γ2 h2 n2 σ' he (a1.trans a le1) (Nat.le_trans le1 le) (by simpa [exVals] using g')
        | exit i => cases he
        | ret => cases he
        | pan ch => cases he
  exact key D.pre _ _ _ σ he (.refl _ _) (Nat.le_refl _) (g.with (by rw [args_vals]; exact g.vals))
theorem orcOf_sound {o : Nat → List Value → Option Value} (ho : OrcOk A P o) : SoundF A P N0 (orcOf o) := by
  intro f args h nx res he σ g
  unfold orcOf at he
  split at he
  case h_2 => cases he
  rename_i v hor
  cases he
  obtain ⟨o1, o2⟩ := ho f args v hor
  refine (FunP.of_fun (Z := fun _ _ => False) (o2 σ)).conv (R := [instH [] σ h]) (by simpa [Spl] using instH_split) ?_ (fun _ _ q => q.elim)
  rintro u Post ⟨rfl, rfl⟩
  exact ⟨_, ⟨u, h, nx, σ, rfl, .refl _ _, Nat.le_refl _, g.with (fun w hw => by rw [List.mem_singleton.1 hw]; exact ScV.plain o1), (rn_plain o1).symm, rfl⟩, Imp.perm (by simpa using instH_split.symm)⟩
theorem orcTo_sound {a b : CF} (ha : SoundF A P N0 a) (hb : SoundF A P N0 b) : SoundF A P N0 (orcTo a b) := by
  intro f args h nx res he σ g
  unfold orcTo at he
  split at he
  · rename_i r hr; cases he; exact ha f args h nx _ hr σ g
  · exact hb f args h nx res he σ g
theorem f_sound {tab : List (Nat × FE)} {orc : CF} (ht : TabOk P tab) (ho : SoundF A P N0 orc) (L : Nat) : ∀ k, SoundF A P N0 (evalF N0 tab orc L k) := by
  intro k
  induction k with
  | zero => intro f args h nx res he; simp only [evalF] at he; cases he
  | succ k ih =>
    intro f args h nx res he σ g
    simp only [evalF] at he
    cases hor : orc f args h nx with
    | some v =>
      rw [hor] at he
      cases he
      exact ho f args h nx _ hor σ g
    | none =>
      rw [hor] at he
      simp only at he
      cases hta : tabF tab f with
      | none => rw [hta] at he; cases he
      | some E =>
        have hfe := ht _ (tab_mem hta)
        rw [hta] at he
        cases E with
        | dir D G =>
          simp only at he
          split at he
          case h_2 => cases he
          rename_i hn
          exact FunP.of_fun (dir_sound ih hfe (bleT hn) he g)
        | fir R =>
          simp only at he
          split at he
          case h_1 => cases he
          rename_i hn
          obtain ⟨kp, od, hl⟩ := hfe
          refine FunP.intro hl (by rw [List.length_map]; exact bleT hn) ?_
          rw [← args_rn]
          cases hb : evalIC N0 (evalF N0 tab orc L k) L R.body (argsEnv 0 args) h nx with
          | none => rw [hb] at he; cases he
          | some r =>
            obtain ⟨e, Γ', h', nx'⟩ := r
            rw [hb] at he
            refine ic_sound ih L R.body _ _ _ _ _ _ _ hb σ (g.with (by rw [args_vals]; exact g.vals)) _ fun σ' a le g' => ?_
            have fin : ∀ x : Exit, (x = .normal ∨ x = .ret) → (match resE Γ' h' R.res with | some vs => some (PR.val (tup vs) h' nx') | none => none) = some res → GoodS N0 σ' (Γ'.map (·.2)) h' nx' →
                endP R.res (fun v Post => ∃ v0 h' nx' σ', res = .val v0 h' nx' ∧ Ag nx σ σ' ∧ nx ≤ nx' ∧ GoodS N0 σ' [v0] h' nx' ∧ v = rn σ' v0 ∧ Post = [instH A σ' h'])
                  (fun ch Post => ∃ ch0 h' nx' σ', res = .pan ch0 h' nx' ∧ Ag nx σ σ' ∧ nx ≤ nx' ∧ GoodS N0 σ' (ch0.map (·.v)) h' nx' ∧ ch = rnCh σ' ch0 ∧ Post = [instH A σ' h']) x (rnE σ' Γ') [instH A σ' h'] := by
              intro x hx he g2
              split at he
              case h_2 => cases he
              rename_i vs hvs
              cases he
              obtain ⟨r1, r2⟩ := res_sound g2 g2.vals hvs
              refine endP_mk ⟨hx, _, _, r1, Imp.refl _, V.tup vs, h', nx', σ', rfl, a, le, g2.with (fun w hw => by rw [List.mem_singleton.1 hw]; exact ScV.tup r2), (rn_tup σ' vs).symm, rfl⟩
            cases e with
            | normal => exact fin .normal (.inl rfl) he (by simpa [exVals] using g')
            | ret => exact fin .ret (.inr rfl) he (by simpa [exVals] using g')
            | exit i => cases he
            | pan ch =>
              cases he
              exact ⟨_, Imp.refl _, ch, h', nx', σ', rfl, a, le, g'.with (fun u hu => g'.vals u (List.mem_append_left _ hu)), rfl, rfl⟩
theorem run_at {tab : List (Nat × FE)} {orc : CF} (ht : TabOk P tab) (ho : SoundF A P N0 orc) {L k f : Nat} {args : List Value} {v : Value} (ha : args.all plainV = true) (hv : plainV v = true)
    (he : (match evalF N0 tab orc L k f args [] N0 with | some (.val u _ _) => some u | _ => none) = some v) : Fun P f args [A] (fun u Post => u = v ∧ Post = [A]) := by
  cases hb : evalF N0 tab orc L k f args [] N0 with
  | none => rw [hb] at he; cases he
  | some res =>
    rw [hb] at he
    have g : GoodS N0 ⟨fun i => i, fun _ => 0, fun _ => 0, fun _ => []⟩ args [] N0 := ⟨fun _ _ => ⟨rfl, rfl⟩, Nat.le_refl _, (fun p hp => by cases hp), (fun p hp => by cases hp), (fun p hp => by cases hp), fun u hu => ScV.plain (List.all_eq_true.1 ha u hu)⟩
    have hs := f_sound ht ho L k f args [] N0 res hb _ g
    have hargs : args.map (rn ⟨fun i => i, fun _ => 0, fun _ => 0, fun _ => []⟩) = args := by
      conv => rhs; rw [← List.map_id args]
      exact List.map_congr_left fun u hu => rn_plain (List.all_eq_true.1 ha u hu)
    rw [hargs] at hs
    have hs2 := hs.conv (H := [A]) (R := []) (Q' := fun u Post => u = v ∧ Post = [A]) (Z' := fun _ _ => False) (by simp [Spl, instH]) ?_ ?_
    · exact hs2.fun
    · rintro u Post ⟨v0, h1, nx1, σ1, rfl, _, _, _, rfl, rfl⟩
      simp only [Option.some.injEq] at he
      subst he
      exact ⟨[A], ⟨rn_plain hv, rfl⟩, ⟨[instH [] σ1 h1], by simpa [Spl] using instH_split⟩⟩
    · rintro ch Post ⟨v0, h1, nx1, σ1, rfl, _⟩
      cases he
end
structure Hd where
  cls : Nat
  fmt : Nat
  spare : Nat
  hash : Nat
  age : Nat
  slots : Nat
  marked : Bool
  noted : Bool
def b2n (b : Bool) : Nat := if b then 1 else 0
theorem b2n_le (b : Bool) : b2n b ≤ 1 := by cases b <;> decide
structure Hd.May (h : Hd) : Prop where
  cls : h.cls ≤ 4095
  hash : h.hash ≤ 4194303
  age : h.age ≤ 15
  slots : h.slots ≤ 65536
  spare : h.spare ≤ 7
  fmt : 1 ≤ h.fmt ∧ h.fmt ≤ 6
  plain : h.fmt ≤ 4 → h.spare = 0
  eph : h.fmt = 3 → 0 < h.slots
  meth : h.fmt = 6 → 0 < h.slots
  some : h.spare ≠ 0 → (if h.fmt = 6 then 1 else 0) < h.slots
def pk (h : Hd) : Nat := h.cls + h.fmt * 4096 + h.spare * 32768 + h.hash * 262144 + h.age * 1099511627776 + b2n h.marked * 17592186044416 + b2n h.noted * 35184372088832
theorem Hd.May.lt {h : Hd} (m : h.May) : pk h < 70368744177664 := by
  obtain ⟨h1, h2, h3, h4, h5, h6, _⟩ := m
  have := b2n_le h.marked
  have := b2n_le h.noted
  unfold pk
  omega
structure Ob where
  at_ : Nat
  hd : Hd
  body : List Nat
def Ob.many (b : Ob) : Nat := if b.hd.fmt = 6 then b.body.headD 0 / 8 + 1 else if b.hd.fmt = 4 ∨ b.hd.fmt = 5 then 0 else b.hd.slots
def Ob.stop (b : Ob) : Nat := b.at_ + 2 + b.hd.slots
structure Ob.Ok (b : Ob) : Prop where
  may : b.hd.May
  len : b.body.length = b.hd.slots
  small : ∀ x ∈ b.body, x < 18446744073709551616
  meth : b.hd.fmt = 6 → ∃ n r, b.body = (8 * n + 1) :: r ∧ n ≤ r.length
theorem Ob.Ok.many {b : Ob} (h : b.Ok) : b.many ≤ b.hd.slots := by
  unfold Ob.many
  split
  · rename_i e
    obtain ⟨n, r, e1, e2⟩ := h.meth e
    have := h.len
    rw [e1] at this ⊢
    simp only [List.headD_cons, List.length_cons] at *
    omega
  · split <;> omega
structure Lay (ws st : List Nat) (obs : List Ob) : Prop where
  small : ∀ x ∈ ws, x < 18446744073709551616
  sts : ∀ x ∈ st, x < 18446744073709551616
  stl : st.length = ws.length / 64 + 1
  len : ws.length < 4194304
  ok : ∀ b ∈ obs, b.Ok
  low : ∀ b ∈ obs, 2 ≤ b.at_
  high : ∀ b ∈ obs, b.stop ≤ ws.length
  head : ∀ b ∈ obs, ws[b.at_]? = some (pk b.hd) ∧ ws[b.at_ + 1]? = some b.hd.slots
  body : ∀ b ∈ obs, ∀ i < b.hd.slots, ws[b.at_ + 2 + i]? = b.body[i]?
  sort : obs.Pairwise fun a b => a.stop ≤ b.at_
  bits : ∀ w, w < ws.length → (bitAt st w = true ↔ ∃ b ∈ obs, b.at_ = w)
theorem holds_loc {w : World} {a b : Atom} (ha : a.holds w) (hb : b.holds w) (h : a.loc = b.loc) : a = b := by
  cases a with
  | cell i k v =>
    cases b with
    | cell j l u =>
      simp only [Atom.loc, Prod.mk.injEq, Option.some.injEq] at h
      obtain ⟨rfl, rfl⟩ := h
      obtain ⟨c, t, lo, hi, h1, h2, _⟩ := ha
      obtain ⟨c', t', lo', hi', h3, h4, _⟩ := hb
      rw [h1] at h3
      cases h3
      rw [h2] at h4
      cases h4
      rfl
    | obj j o => simp [Atom.loc] at h
    | row j n => simp [Atom.loc] at h
  | row i n =>
    obtain ⟨c, t, lo, hi, h1, h2⟩ := ha
    cases b with
    | cell j l u => simp [Atom.loc] at h
    | obj j p =>
      simp only [Atom.loc, Prod.mk.injEq, and_true] at h
      subst h
      have h3 := hb.1
      rw [h1] at h3
      cases h3
      exact absurd hb.2 (by simp [isCells])
    | row j m =>
      simp only [Atom.loc, Prod.mk.injEq, and_true] at h
      subst h
      obtain ⟨c', t', lo', hi', h3, h4⟩ := hb
      rw [h1] at h3
      cases h3
      rw [h2] at h4
      rw [h4]
  | obj i o =>
    cases b with
    | cell j l u => simp [Atom.loc] at h
    | obj j p =>
      simp only [Atom.loc, Prod.mk.injEq, and_true] at h
      subst h
      have h1 := ha.1
      rw [hb.1] at h1
      cases h1
      rfl
    | row j n =>
      simp only [Atom.loc, Prod.mk.injEq, and_true] at h
      subst h
      obtain ⟨c, t, lo, hi, h1, h2⟩ := hb
      have h3 := ha.1
      rw [h1] at h3
      cases h3
      exact absurd ha.2 (by simp [isCells])
theorem sat_of_list {w : World} : ∀ L : List Atom, (∀ a ∈ L, a.holds w) → ∃ L', Sat w L' ∧ ∀ a ∈ L, a ∈ L' := by
  intro L
  induction L with
  | nil => intro _; exact ⟨[], ⟨by simp, by simp⟩, by simp⟩
  | cons x L ih =>
    intro h
    obtain ⟨L', h1, h2⟩ := ih (fun a ha => h a (by simp [ha]))
    by_cases hx : x.loc ∈ L'.map Atom.loc
    · obtain ⟨y, hy, e⟩ := List.mem_map.1 hx
      have : y = x := holds_loc (h1.holds y hy) (h x (by simp)) e
      subst this
      refine ⟨L', h1, fun a ha => ?_⟩
      rcases List.mem_cons.1 ha with rfl | ha
      · exact hy
      · exact h2 a ha
    · refine ⟨x :: L', ⟨fun a ha => ?_, by simp only [List.map_cons, List.nodup_cons]; exact ⟨hx, h1.nodup⟩⟩, fun a ha => ?_⟩
      · rcases List.mem_cons.1 ha with rfl | ha
        · exact h a (by simp)
        · exact h1.holds a ha
      · rcases List.mem_cons.1 ha with rfl | ha
        · simp
        · simp [h2 a ha]
def blockAtoms (w : World) (i : Nat) : List Atom := match w.heap[i]? with
  | some (.cells c _ (lo, hi)) => .row i c.size :: (List.range c.size).filterMap fun j => if lo ≤ j ∧ j < hi then none else (c[j]?).map fun v => .cell i j v
  | some o => [.obj i o]
  | none => []
theorem sat_all (w : World) : ∃ L, Sat w L ∧ ∀ a : Atom, a.holds w → a ∈ L := by
  obtain ⟨L, h1, h2⟩ := sat_of_list (w := w) ((List.range w.heap.size).flatMap (blockAtoms w)) (by
    intro a ha
    obtain ⟨i, _, ha⟩ := List.mem_flatMap.1 ha
    unfold blockAtoms at ha
    split at ha
    · rename_i c t lo hi hb
      rcases List.mem_cons.1 ha with rfl | ha
      · exact ⟨c, t, lo, hi, hb, rfl⟩
      obtain ⟨j, _, hj⟩ := List.mem_filterMap.1 ha
      split at hj
      · cases hj
      · rename_i hf
        simp only [Option.map_eq_some_iff] at hj
        obtain ⟨v, hv, rfl⟩ := hj
        exact ⟨c, t, lo, hi, hb, hv, hf⟩
    · rename_i o hne hb
      simp only [List.mem_singleton] at ha
      subst ha
      refine ⟨hb, ?_⟩
      cases o <;> first | rfl | (rename_i c t fr; exact absurd rfl (hne c t fr.1 fr.2))
    · cases ha)
  refine ⟨L, h1, fun a ha => h2 a ?_⟩
  cases a with
  | cell i k v =>
    obtain ⟨c, t, lo, hi, hb, hv, hf⟩ := ha
    have hi' : i < w.heap.size := by
      rcases Nat.lt_or_ge i w.heap.size with h | h
      · exact h
      · rw [Array.getElem?_eq_none h] at hb; cases hb
    refine List.mem_flatMap.2 ⟨i, List.mem_range.2 hi', ?_⟩
    unfold blockAtoms
    rw [hb]
    refine List.mem_cons_of_mem _ (List.mem_filterMap.2 ⟨k, List.mem_range.2 (Array.getElem?_eq_some_iff.1 hv).1, ?_⟩)
    rw [if_neg hf, hv]; rfl
  | row i n =>
    obtain ⟨c, t, lo, hi, hb, rfl⟩ := ha
    have hi' : i < w.heap.size := by
      rcases Nat.lt_or_ge i w.heap.size with h | h
      · exact h
      · rw [Array.getElem?_eq_none h] at hb; cases hb
    refine List.mem_flatMap.2 ⟨i, List.mem_range.2 hi', ?_⟩
    unfold blockAtoms
    rw [hb]
    exact List.mem_cons_self ..
  | obj i o =>
    obtain ⟨hb, hc⟩ := ha
    have hi' : i < w.heap.size := by
      rcases Nat.lt_or_ge i w.heap.size with h | h
      · exact h
      · rw [Array.getElem?_eq_none h] at hb; cases hb
    refine List.mem_flatMap.2 ⟨i, List.mem_range.2 hi', ?_⟩
    unfold blockAtoms
    rw [hb]
    cases o <;> first | (simp; done) | (simp [isCells] at hc)
theorem old_same {w w' : World} {L : List Atom} (hL : ∀ a : Atom, a.holds w → a ∈ L) (hs : Sat w' L) (hk : Keeps w w') : ∀ i, i < w.heap.size → w'.heap[i]? = w.heap[i]? := by
  intro i hi
  have hb : w.heap[i]? = some w.heap[i] := Array.getElem?_eq_getElem hi
  generalize w.heap[i] = o at hb
  rw [hb]
  by_cases hc : isCells o = false
  · exact (hs.holds _ (hL (.obj i o) ⟨hb, hc⟩)).1
  · cases o <;> first | (exact absurd rfl hc) | skip
    rename_i c t fr
    obtain ⟨lo, hi2⟩ := fr
    obtain ⟨c', h1, h2, h3⟩ := hk.cells i c t lo hi2 hb
    rw [h1]
    congr 2
    apply Array.ext h2
    intro j hj1 hj2
    by_cases hf : lo ≤ j ∧ j < hi2
    · have := h3 j hf
      rw [Array.getElem?_eq_getElem hj1, Array.getElem?_eq_getElem hj2] at this
      exact Option.some.inj this
    · obtain ⟨c2, t2, lo2, hi3, g1, g2, _⟩ := hs.holds _ (hL (.cell i j c[j]) ⟨c, t, lo, hi2, hb, Array.getElem?_eq_getElem hj2, hf⟩)
      rw [h1] at g1
      cases g1
      rw [Array.getElem?_eq_getElem hj1] at g2
      exact Option.some.inj g2
end Go.V

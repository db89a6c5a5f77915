/-
  What the evaluator finds is so: code, functions.
-/
import Derived.Test.YtehglapljnehgaaGreatDoorV10
import Derived.Test.YtehglapljnehgaaGreatDoorV8
import Derived.Test.YtehglapljnehgaaGreatDoorV7
import Derived.Test.YtehglapljnehgaaGreatDoorV5
import Derived.ChangeOld
import Derived.RowKit3
import Derived.ChangeSame
import Derived.ChangeSlices
import Derived.RowKit
import Derived.Deep.Slices
import Derived.Deep.Fields
set_option linter.unusedSimpArgs false
set_option linter.unusedVariables false
namespace Go.V
open Go
set_option maxHeartbeats 1600000
variable {A : List Atom}
section
variable {P : Program} {N0 nx n : Nat} {σ : Sg} {Γ : Env} {h : Mp} {rs : List RO} {d : Option Nat} {Z : List PanicEntry → Env → SH → Prop} {K : Env → SH → Prop}
theorem same_vals (g : GoodS N0 σ (Γ.map (·.2)) h nx) {v : Value} (hv : ScV nx v) : GoodS N0 σ (v :: Γ.map (·.2)) h nx := g.with fun u hu => by
  rcases List.mem_cons.1 hu with rfl | hu
  · exact hv
  · exact g.vals u hu
theorem op_sound {F : CF} (hF : SoundF A P N0 F) {r : R} {res : PR} (he : evalOp N0 F r Γ h nx = some res) (g : GoodS N0 σ (Γ.map (·.2)) h nx)
    (hok : ∀ v h' nx' σ', res = .val v h' nx' → Ag nx σ σ' → nx ≤ nx' → GoodS N0 σ' (v :: Γ.map (·.2)) h' nx' → VO P n rs (putE d (rn σ' v) (rnE σ' Γ)) [instH A σ' h'] Z K)
    (hpan : ∀ ch h' nx' σ', res = .pan ch h' nx' → Ag nx σ σ' → nx ≤ nx' → GoodS N0 σ' (ch.map (·.v)) h' nx' → Z (rnCh σ' ch) (rnE σ Γ) [instH A σ' h']) :
    VO P n (⟨d, none, r⟩ :: rs) (rnE σ Γ) [instH A σ h] Z K := by
  have same : ∀ v, res = .val v h nx → ScV nx v → VO P n rs (putE d (rn σ v) (rnE σ Γ)) [instH A σ h] Z K := fun v e hs => hok v h nx σ e (.refl _ _) (Nat.le_refl _) (same_vals g hs)
  have pur : isPure r = true → (match isPure r && (okC r && ((rOps r).all (knownS N0 Γ) && okS (evSD N0 Γ) r)) with
    | true => match pureV (evSD N0 Γ) r with
      | some v => some (PR.val v h nx)
      | none => none
    | false => none) = some res → VO P n (⟨d, none, r⟩ :: rs) (rnE σ Γ) [instH A σ h] Z K := fun hp he => by
    split at he
    case h_2 => cases he
    rename_i hb
    simp only [Bool.and_eq_true] at hb
    split at he
    case h_2 => cases he
    rename_i v hv
    cases he
    exact op_pure g hp hb.2.1 hb.2.2.1 hb.2.2.2 hv (same v rfl)
  cases r
  case load1 x =>
    simp only [evalOp] at he
    split at he
    case h_2 => cases he
    rename_i b o hx
    split at he
    case h_2 => cases he
    rename_i v hr
    cases he
    exact op_load1 g hx hr (same v rfl)
  case loadN m x =>
    simp only [evalOp] at he
    split at he
    case h_2 => cases he
    rename_i b o hx
    split at he
    case h_2 => cases he
    rename_i us hr
    cases he
    exact op_loadN g hx hr (same _ rfl)
  case alloc t z =>
    simp only [evalOp] at he
    split at he
    case h_2 => cases he
    rename_i hz
    cases he
    exact op_alloc g hz fun σ' a g' => hok _ _ _ σ' rfl a (Nat.le_succ _) g'
  case box t x =>
    simp only [evalOp] at he
    split at he
    case h_2 => cases he
    rename_i v hx
    cases he
    exact op_box g hx fun σ' a g' => hok _ _ _ σ' rfl a (Nat.le_succ _) g'
  case bslice t len z ps =>
    simp only [evalOp] at he
    split at he
    case h_2 => cases he
    rename_i hb
    simp only [Bool.and_eq_true] at hb
    split at he
    case h_2 => cases he
    rename_i out ho
    cases he
    exact op_bslice g hb.1 hb.2.1 ho (bltT hb.2.2) fun σ' a g' => hok _ _ _ σ' rfl a (Nat.le_succ _) g'
  case mkslice t size bytes z l c =>
    simp only [evalOp] at he
    split at he
    case h_2 => cases he
    rename_i kl li kc ci hl hc
    split at he
    case h_2 => cases he
    rename_i hb
    simp only [Bool.and_eq_true] at hb
    cases he
    exact op_mkslice g hl hc hb.1 (bleT hb.2.1) (bleT hb.2.2.1) (bleT hb.2.2.2.1) (beqT hb.2.2.2.2) fun σ' a g' => hok _ _ _ σ' rfl a (Nat.le_succ _) g'
  case store m x y =>
    simp only [evalOp] at he
    split at he
    case h_2 => cases he
    rename_i b o u hx hy
    split at he
    case h_2 => cases he
    rename_i hm
    split at he
    case h_2 => cases he
    rename_i h' hw
    cases he
    exact op_store g hx hy (beqT hm) hw fun g' => hok _ _ _ σ rfl (.refl _ _) (Nat.le_refl _) g'
  case append t size bytes zero s x =>
    simp only [evalOp] at he
    split at he
    case h_2 => cases he
    rename_i sv xv hs hx
    split at he
    case h_2 => cases he
    rename_i xs h' ht
    split at he
    case h_2 => cases he
    rename_i m ys hy
    split at he
    case h_2 => cases he
    rename_i hb
    simp only [Bool.and_eq_true, Bool.not_eq_true'] at hb
    cases he
    exact op_append g hs hx ht hy hb.1 (beqT hb.2.1) (beqF hb.2.2.1) (bleT hb.2.2.2.1) (bleT hb.2.2.2.2.1) (bltT hb.2.2.2.2.2.1) (beqF hb.2.2.2.2.2.2) fun σ' a g' => hok _ _ _ σ' rfl a (Nat.le_succ _) g'
  case s2b t x =>
    simp only [evalOp] at he
    split at he
    case h_2 => cases he
    rename_i s hx
    split at he
    case h_2 => cases he
    rename_i hb
    cases he
    exact op_s2b g hx (beqF hb) fun σ' a g' => hok _ _ _ σ' rfl a (Nat.le_succ _) g'
  case b2s x =>
    simp only [evalOp] at he
    split at he
    · rename_i b o k c hx
      split at he
      case h_2 => cases he
      rename_i vs hr
      split at he
      case h_2 => cases he
      rename_i l hl
      cases he
      exact op_b2s g hx hr hl (same _ rfl)
    · rename_i k c hx
      cases he
      have hx' := (ev_rn g hx).1
      rw [rn_slice0] at hx'
      have hk := same _ rfl (ScV.plain rfl)
      rw [rn_string] at hk
      exact st_b2s hx' (l := []) rfl hk
    · cases he
  case call f xs =>
    simp only [evalOp] at he
    split at he
    case h_2 => cases he
    rename_i args ha
    exact op_call hF g ha he hok hpan
  case callv x xs =>
    simp only [evalOp] at he
    split at he
    case h_2 => cases he
    rename_i f first cap args hx ha
    exact op_callv hF g hx ha he hok hpan
  case pnc x =>
    simp only [evalOp] at he
    split at he
    case h_2 => cases he
    rename_i t v hx
    cases he
    exact op_pnc g hx fun g' => hpan _ _ _ σ rfl (.refl _ _) (Nat.le_refl _) g'
  all_goals first
    | exact pur rfl he
    | (simp only [evalOp, isPure, Bool.false_and] at he; cases he; done)
theorem ops_sound {F : CF} (hF : SoundF A P N0 F) : ∀ {rs : List RO} {Γ : Env} {h : Mp} {nx : Nat} {σ : Sg} {res : OR}, evalOps N0 F rs Γ h nx = some res → GoodS N0 σ (Γ.map (·.2)) h nx →
    (∀ Γ' h' nx' σ', res = .ok Γ' h' nx' → Ag nx σ σ' → nx ≤ nx' → GoodS N0 σ' (Γ'.map (·.2)) h' nx' → K (rnE σ' Γ') [instH A σ' h']) →
    (∀ Γ' ch h' nx' σ', res = .pan ch h' nx' → Ag nx σ σ' → nx ≤ nx' → GoodS N0 σ' (ch.map (·.v)) h' nx' → Z (rnCh σ' ch) Γ' [instH A σ' h']) → VO P n rs (rnE σ Γ) [instH A σ h] Z K := by
  intro rs
  induction rs with
  | nil =>
    intro Γ h nx σ res he g hok hpan
    simp only [evalOps, Option.some.injEq] at he
    exact VO.nil (hok Γ h nx σ he.symm (.refl _ _) (Nat.le_refl _) g)
  | cons x rs ih =>
    intro Γ h nx σ res he g hok hpan
    obtain ⟨d, gd, r⟩ := x
    have go : ∀ {res : OR}, (match evalOp N0 F r Γ h nx with
        | none => none
        | some (.pan ch h' nx') => some (.pan ch h' nx')
        | some (.val v h' nx') => evalOps N0 F rs (putE d v Γ) h' nx') = some res →
        (∀ Γ' h' nx' σ', res = .ok Γ' h' nx' → Ag nx σ σ' → nx ≤ nx' → GoodS N0 σ' (Γ'.map (·.2)) h' nx' → K (rnE σ' Γ') [instH A σ' h']) →
        (∀ Γ' ch h' nx' σ', res = .pan ch h' nx' → Ag nx σ σ' → nx ≤ nx' → GoodS N0 σ' (ch.map (·.v)) h' nx' → Z (rnCh σ' ch) Γ' [instH A σ' h']) → VO P n (⟨d, none, r⟩ :: rs) (rnE σ Γ) [instH A σ h] Z K := by
      intro res he hok hpan
      cases hr : evalOp N0 F r Γ h nx with
      | none => rw [hr] at he; cases he
      | some pr =>
        rw [hr] at he
        refine op_sound hF hr g ?_ ?_
        · rintro v h' nx' σ' rfl a le g'
          simp only at he
          rw [← rnE_put]
          refine ih he ⟨g'.fix, g'.le, g'.ids, g'.grow, g'.cells, put_vals g'.vals⟩ ?_ ?_
          · intro Γ2 h2 nx2 σ2 e a2 le2 g2
            exact hok Γ2 h2 nx2 σ2 e (a.trans a2 le) (Nat.le_trans le le2) g2
          · intro Γ2 ch h2 nx2 σ2 e a2 le2 g2
            exact hpan Γ2 ch h2 nx2 σ2 e (a.trans a2 le) (Nat.le_trans le le2) g2
        · rintro ch h' nx' σ' rfl a le g'
          simp only [Option.some.injEq] at he
          exact hpan _ ch h' nx' σ' he.symm a le g'
    have skip : ∀ {res : OR}, evalOps N0 F rs (putE d undef Γ) h nx = some res →
        (∀ Γ' h' nx' σ', res = .ok Γ' h' nx' → Ag nx σ σ' → nx ≤ nx' → GoodS N0 σ' (Γ'.map (·.2)) h' nx' → K (rnE σ' Γ') [instH A σ' h']) →
        (∀ Γ' ch h' nx' σ', res = .pan ch h' nx' → Ag nx σ σ' → nx ≤ nx' → GoodS N0 σ' (ch.map (·.v)) h' nx' → Z (rnCh σ' ch) Γ' [instH A σ' h']) → VO P n rs (putE d undef (rnE σ Γ)) [instH A σ h] Z K := by
      intro res he hok hpan
      have hu : rn σ undef = undef := rn_plain rfl
      have := ih (σ := σ) he (g.with (put_vals (same_vals g (ScV.plain rfl)).vals)) hok hpan
      rw [rnE_put, hu] at this
      exact this
    cases gd with
    | none =>
      simp only [evalOps, guardE] at he
      exact go he hok hpan
    | some sb =>
      obtain ⟨s, b⟩ := sb
      simp only [evalOps, guardE] at he
      cases hl : look Γ s with
      | none => rw [hl] at he; cases he
      | some u =>
        rw [hl] at he
        cases u <;> try (cases he; done)
        case tuple vs =>
          simp only at he
          cases hv : vs.toList with
          | cons x l => rw [hv] at he; cases he
          | nil =>
            rw [hv] at he
            have e : vs = #[] := Array.toList_inj.1 (by rw [hv])
            subst e
            exact st_gu (by rw [look_rn, hl]; simp [undef]) (skip he hok hpan)
        rename_i c
        have hl2 : look (rnE σ Γ) s = some (.bool c) := by rw [look_rn, hl]; simp
        simp only at he
        cases hcb : (c == b) with
        | true =>
          rw [hcb] at he
          have e : c = b := by simpa using hcb
          subst e
          exact st_gt hl2 (go he hok hpan)
        | false =>
          rw [hcb] at he
          exact st_gf hl2 hcb (skip he hok hpan)
end
def rnX (σ : Sg) : Ex → Exit
  | .normal => .normal
  | .exit i => .exit i
  | .ret => .ret
  | .pan ch => .panic (rnCh σ ch)
def exVals : Ex → List Value
  | .pan ch => ch.map (·.v)
  | _ => []
section
variable {P : Program} {N0 n L : Nat}
def SoundC (A : List Atom) (P : Program) (N0 n : Nat) (c : IC) (f : Env → Mp → Nat → IR) : Prop := ∀ Γ h nx e Γ' h' nx', f Γ h nx = some (e, Γ', h', nx') → ∀ σ, GoodS N0 σ (Γ.map (·.2)) h nx → ∀ Q : Exit → Env → SH → Prop,
  (∀ σ' Δ, Ag nx σ σ' → nx ≤ nx' → GoodS N0 σ' (exVals e ++ Γ'.map (·.2)) h' nx' → ((∀ ch, e ≠ .pan ch) → Δ = rnE σ' Γ') → Q (rnX σ' e) Δ [instH A σ' h']) → VC P n c (rnE σ Γ) [instH A σ h] Q
theorem loop_sound {c : IC} {f : Env → Mp → Nat → IR} (hc : SoundC A P N0 n c f) : ∀ k, SoundC A P N0 n (.loop c) (loopE f k) := by
  intro k Γ h nx e Γ' h' nx' he σ g Q hq
  refine VC.loop (α := Nat × Env × Mp × Nat × Sg) (Γf := fun s => rnE s.2.2.2.2 s.2.1) (Hf := fun s => [instH A s.2.2.2.2 s.2.2.1])
    (I := fun s => loopE f s.1 s.2.1 s.2.2.1 s.2.2.2.1 = some (e, Γ', h', nx') ∧ Ag nx σ s.2.2.2.2 ∧ nx ≤ s.2.2.2.1 ∧ GoodS N0 s.2.2.2.2 (s.2.1.map (·.2)) s.2.2.1 s.2.2.2.1) (μ := fun s => s.1) (k, Γ, h, nx, σ)
    ⟨he, .refl _ _, Nat.le_refl _, g⟩ Sub.refl (Imp.refl _) ?_
  rintro ⟨j, Γ1, h1, nx1, σ1⟩ ⟨e1, a1, le1, g1⟩
  simp only at e1 a1 le1 g1 ⊢
  cases j with
  | zero => cases e1
  | succ j =>
    simp only [loopE] at e1
    cases hb : f Γ1 h1 nx1 with
    | none => rw [hb] at e1; cases e1
    | some r =>
      obtain ⟨x, Γ2, h2, nx2⟩ := r
      rw [hb] at e1
      refine hc _ _ _ _ _ _ _ hb σ1 g1 _ fun σ' Δ a le g' hd => ?_
      cases x with
      | normal =>
        simp only at e1
        have := hd (fun ch e => by cases e)
        subst this
        exact ⟨(j, Γ2, h2, nx2, σ'), ⟨e1, a1.trans a le1, Nat.le_trans le1 le, by simpa [exVals] using g'⟩, Nat.lt_succ_self _, Sub.refl, Imp.refl _⟩
      | exit i => cases e1; exact hq σ' Δ (a1.trans a le1) (Nat.le_trans le1 le) g' hd
      | ret => cases e1; exact hq σ' Δ (a1.trans a le1) (Nat.le_trans le1 le) g' hd
      | pan ch => cases e1; exact hq σ' Δ (a1.trans a le1) (Nat.le_trans le1 le) g' hd
theorem eqL_sound {e : Value → Value → Bool} (he : ∀ a b, e a b = true → a = b) : ∀ {l m : List Value}, eqL e l m = true → l = m := by
  intro l
  induction l with
  | nil => intro m h; cases m with
    | nil => rfl
    | cons => simp [eqL] at h
  | cons a l ih => intro m h; cases m with
    | nil => simp [eqL] at h
    | cons b m =>
      simp only [eqL, Bool.and_eq_true] at h
      rw [he _ _ h.1, ih h.2]
theorem eqV_sound : ∀ (k : Nat) {a b : Value}, eqV k a b = true → a = b := by
  intro k
  induction k with
  | zero => intro a b h; simp [eqV] at h
  | succ k ih =>
    intro a b h
    unfold eqV at h
    split at h <;> (try simp only [Bool.and_eq_true, beq_iff_eq, decide_eq_true_eq] at h)
    all_goals first
      | rfl
      | (cases h; done)
      | (obtain ⟨h1, h2⟩ := h; subst h1; subst h2; rfl)
      | (subst h; rfl)
      | (obtain ⟨h1, h2⟩ := h; rw [beqT h1, beqT h2])
      | (obtain ⟨h1, h2, h3⟩ := h; rw [h1, beqT h2, beqT h3])
      | (rw [beqT h])
      | (obtain ⟨h1, h2⟩ := h; rw [h1, ih h2])
      | (rw [Array.toList_inj.1 (eqL_sound (fun _ _ => ih) h)])
      | (obtain ⟨h1, h2, h3⟩ := h; rw [h1, Array.toList_inj.1 (eqL_sound (fun _ _ => ih) h2), Array.toList_inj.1 (eqL_sound (fun _ _ => ih) h3)])
theorem eqE_sound : ∀ {Γ Δ : Env}, eqE Γ Δ = true → Γ = Δ := by
  intro Γ
  induction Γ with
  | nil => intro Δ h; cases Δ with
    | nil => rfl
    | cons => simp [eqE] at h
  | cons p Γ ih =>
    intro Δ h
    obtain ⟨s, x⟩ := p
    cases Δ with
    | nil => simp [eqE] at h
    | cons q Δ =>
      obtain ⟨t, y⟩ := q
      simp only [eqE, Bool.and_eq_true] at h
      rw [beqT h.1, eqV_sound 20 h.2.1, ih h.2.2]
theorem eqM_sound : ∀ {l m : List MapEntry}, eqM l m = true → l = m := by
  intro l
  induction l with
  | nil => intro m h; cases m with
    | nil => rfl
    | cons => simp [eqM] at h
  | cons a l ih => intro m h; cases m with
    | nil => simp [eqM] at h
    | cons b m =>
      simp only [eqM, Bool.and_eq_true] at h
      obtain ⟨⟨h1, h2⟩, h3, h4⟩ := h
      cases a; cases b
      simp only at h1 h2 h3
      rw [eqV_sound 20 h1, eqV_sound 20 h2, beqT h3, ih h4]
theorem eqB_sound {a b : Blk} (h : eqB a b = true) : a = b := by
  unfold eqB at h
  split at h <;> (try simp only [Bool.and_eq_true, decide_eq_true_eq] at h)
  · rw [eqL_sound (fun _ _ => eqV_sound 20) h]
  · rw [beqT h.1, eqL_sound (fun _ _ => eqV_sound 20) h.2]
  · rw [beqT h.2, Array.toList_inj.1 (eqM_sound h.1)]
  · rw [h.1, beqT h.2]
  · cases h
theorem eqH_sound : ∀ {Γ Δ : Mp}, eqH Γ Δ = true → Γ = Δ := by
  intro Γ
  induction Γ with
  | nil => intro Δ h; cases Δ with
    | nil => rfl
    | cons => simp [eqH] at h
  | cons p Γ ih =>
    intro Δ h
    obtain ⟨s, x⟩ := p
    cases Δ with
    | nil => simp [eqH] at h
    | cons q Δ =>
      obtain ⟨t, y⟩ := q
      simp only [eqH, Bool.and_eq_true] at h
      rw [beqT h.1, eqB_sound h.2.1, ih h.2.2]
theorem drawE_mem {F : CF} {keep : List Nat} {Γ Δ : Env} {h h1 : Mp} {nx n1 : Nat} : ∀ {r : List (List RO)}, drawE N0 F keep Γ h nx Δ h1 n1 r = true → ∀ rs ∈ r, ∃ Γ2, evalOps N0 F rs Γ h nx = some (.ok Γ2 h1 n1) ∧ restr keep Γ2 = Δ := by
  intro r
  induction r with
  | nil => intro _ rs h; cases h
  | cons x r ih =>
    intro he rs hrs
    simp only [drawE] at he
    split at he
    case h_2 => cases he
    rename_i Γ' h' nx' ho
    split at he
    case h_2 => cases he
    rename_i hE
    simp only [Bool.and_eq_true] at hE
    rcases List.mem_cons.1 hrs with rfl | hrs
    · exact ⟨Γ', by rw [ho, beqT hE.2.1, eqH_sound hE.2.2], eqE_sound hE.1⟩
    · exact ih he rs hrs
theorem ic_sound {F : CF} (hF : SoundF A P N0 F) (L : Nat) : ∀ c : IC, SoundC A P N0 n c (evalIC N0 F L c) := by
  intro c
  induction c with
  | skip =>
    intro Γ h nx e Γ' h' nx' he σ g Q hq
    simp only [evalIC, Option.some.injEq, Prod.mk.injEq] at he
    obtain ⟨rfl, rfl, rfl, rfl⟩ := he
    exact VC.skip (hq σ _ (.refl _ _) (Nat.le_refl _) (by simpa [exVals] using g) (fun _ => rfl))
  | reg rs keep =>
    intro Γ h nx e Γ' h' nx' he σ g Q hq
    simp only [evalIC] at he
    cases ho : evalOps N0 F rs Γ h nx with
    | none => rw [ho] at he; cases he
    | some r =>
      rw [ho] at he
      refine VC.reg (ops_sound hF ho g ?_ ?_)
      · rintro Γ2 h2 nx2 σ2 rfl a le g2
        simp only [Option.some.injEq, Prod.mk.injEq] at he
        obtain ⟨rfl, rfl, rfl, rfl⟩ := he
        exact hq σ2 _ a le (by simpa [exVals] using g2.with (restr_vals g2.vals)) (fun _ => (rnE_restr _ _ _).symm)
      · rintro Γ2 ch h2 nx2 σ2 rfl a le g2
        simp only [Option.some.injEq, Prod.mk.injEq] at he
        obtain ⟨rfl, rfl, rfl, rfl⟩ := he
        exact hq σ2 _ a le (by simpa [exVals] using g2) (fun hx => absurd rfl (hx ch))
  | draw rss keep =>
    intro Γ h nx e Γ' h' nx' he σ g Q hq
    simp only [evalIC] at he
    split at he
    case h_1 => cases he
    rename_i rs r
    cases ho : evalOps N0 F rs Γ h nx with
    | none => rw [ho] at he; cases he
    | some res =>
      rw [ho] at he
      cases res with
      | pan ch h1 n1 => cases he
      | ok Γ1 h1 n1 =>
        simp only at he
        have first : ∀ Q2 : Env → SH → Prop, (∀ σ', Ag nx σ σ' → nx ≤ n1 → GoodS N0 σ' (Γ1.map (·.2)) h1 n1 → Q2 (restr keep (rnE σ' Γ1)) [instH A σ' h1]) → VO P n rs (rnE σ Γ) [instH A σ h] (fun _ _ _ => False) fun Γ' H' => Q2 (restr keep Γ') H' := fun Q2 hq2 => by
          refine ops_sound hF ho g ?_ ?_
          · rintro Γ2 h2 nx2 σ2 e2 a le g2
            cases e2
            exact hq2 σ2 a le g2
          · rintro Γ2 ch h2 nx2 σ2 e2
            cases e2
        cases r with
        | nil =>
          simp only [Option.some.injEq, Prod.mk.injEq] at he
          obtain ⟨rfl, rfl, rfl, rfl⟩ := he
          exact VC.draw1 (first (fun Γ H => Q .normal Γ H) fun σ' a le g2 => hq σ' _ a le (by simpa [exVals] using g2.with (restr_vals g2.vals)) (fun _ => (rnE_restr _ _ _).symm))
        | cons r0 r1 =>
          simp only at he
          split at he
          case h_2 => cases he
          rename_i hb
          simp only [Option.some.injEq, Prod.mk.injEq] at he
          obtain ⟨rfl, rfl, rfl, rfl⟩ := he
          refine VC.draw fun rs2 hrs2 => ?_
          have go : ∀ Γ2, evalOps N0 F rs2 Γ h nx = some (.ok Γ2 h1 n1) → restr keep Γ2 = restr keep Γ1 → VO P n rs2 (rnE σ Γ) [instH A σ h] (fun _ _ _ => False) fun Γ' H' => Q .normal (restr keep Γ') H' := fun Γ2 ho2 e2 => by
            refine ops_sound hF ho2 g ?_ ?_
            · rintro Γ3 h3 nx3 σ3 e3 a le g3
              cases e3
              have := hq σ3 (restr keep (rnE σ3 Γ2)) a le (by rw [← e2]; simpa [exVals] using g3.with (restr_vals g3.vals)) (fun _ => by rw [← rnE_restr, e2])
              exact this
            · rintro Γ3 ch h3 nx3 σ3 e3
              cases e3
          rcases List.mem_cons.1 hrs2 with rfl | hrs2
          · exact go Γ1 ho rfl
          · obtain ⟨Γ2, o1, o2⟩ := drawE_mem hb _ hrs2
            exact go Γ2 o1 o2
  | seq x y ihx ihy =>
    intro Γ h nx e Γ' h' nx' he σ g Q hq
    simp only [evalIC] at he
    cases hb : evalIC N0 F L x Γ h nx with
    | none => rw [hb] at he; cases he
    | some r =>
      obtain ⟨e2, Γ2, h2, nx2⟩ := r
      rw [hb] at he
      refine VC.seq (ihx _ _ _ _ _ _ _ hb σ g _ fun σ' Δ a le g' hd => ?_)
      cases e2 with
      | normal =>
        have := hd (fun ch e => by cases e)
        subst this
        exact ihy _ _ _ _ _ _ _ he σ' (by simpa [exVals] using g') Q fun σ2 Δ2 a2 le2 g2 hd2 => hq σ2 Δ2 (a.trans a2 le) (Nat.le_trans le le2) g2 hd2
      | exit i => cases he; exact hq σ' Δ a le g' hd
      | ret => cases he; exact hq σ' Δ a le g' hd
      | pan ch => cases he; exact hq σ' Δ a le g' hd
  | cond c x y ihx ihy =>
    intro Γ h nx e Γ' h' nx' he σ g Q hq
    simp only [evalIC] at he
    split at he
    · rename_i hc
      have hc' := (ev_rn g hc).1
      rw [rn_bool] at hc'
      exact VC.cond_t hc' (ihx _ _ _ _ _ _ _ he σ g Q hq)
    · rename_i hc
      have hc' := (ev_rn g hc).1
      rw [rn_bool] at hc'
      exact VC.cond_f hc' (ihy _ _ _ _ _ _ _ he σ g Q hq)
    · cases he
  | block id x ih =>
    intro Γ h nx e Γ' h' nx' he σ g Q hq
    simp only [evalIC] at he
    cases hb : evalIC N0 F L x Γ h nx with
    | none => rw [hb] at he; cases he
    | some r =>
      obtain ⟨e2, Γ2, h2, nx2⟩ := r
      rw [hb] at he
      refine VC.block (ih _ _ _ _ _ _ _ hb σ g _ fun σ' Δ a le g' hd => ?_)
      cases e2 with
      | normal => cases he; exact hq σ' Δ a le g' hd
      | exit i =>
        simp only at he
        cases hi : Nat.beq i id with
        | true =>
          rw [hi] at he
          cases he
          show blockQ id Q (.exit i) Δ _
          simp only [blockQ, beqT hi, if_true]
          exact hq σ' Δ a le (by simpa [exVals] using g') (fun _ => hd (fun ch e => by cases e))
        | false =>
          rw [hi] at he
          cases he
          show blockQ id Q (.exit i) Δ _
          simp only [blockQ, if_neg (beqF hi)]
          exact hq σ' Δ a le g' hd
      | ret => cases he; exact hq σ' Δ a le g' hd
      | pan ch => cases he; exact hq σ' Δ a le g' hd
  | loop x ih => exact loop_sound ih L
  | exit id =>
    intro Γ h nx e Γ' h' nx' he σ g Q hq
    simp only [evalIC, Option.some.injEq, Prod.mk.injEq] at he
    obtain ⟨rfl, rfl, rfl, rfl⟩ := he
    exact VC.exit (hq σ _ (.refl _ _) (Nat.le_refl _) (by simpa [exVals] using g) (fun _ => rfl))
  | ret =>
    intro Γ h nx e Γ' h' nx' he σ g Q hq
    simp only [evalIC, Option.some.injEq, Prod.mk.injEq] at he
    obtain ⟨rfl, rfl, rfl, rfl⟩ := he
    exact VC.ret (hq σ _ (.refl _ _) (Nat.le_refl _) (by simpa [exVals] using g) (fun _ => rfl))
  | scope x ih =>
    intro Γ h nx e Γ' h' nx' he σ g Q hq
    simp only [evalIC] at he
    refine VC.scope (ih _ _ _ _ _ _ _ he σ g _ fun σ' Δ a le g' hd => ⟨fun l => ?_, hq σ' Δ a le g' hd⟩)
    cases e <;> simp [rnX]
  | label l =>
    intro Γ h nx e Γ' h' nx' he σ g Q hq
    simp only [evalIC, Option.some.injEq, Prod.mk.injEq] at he
    obtain ⟨rfl, rfl, rfl, rfl⟩ := he
    exact VC.label (hq σ _ (.refl _ _) (Nat.le_refl _) (by simpa [exVals] using g) (fun _ => rfl))
  | rangef g ps x y ihx ihy => intro Γ h nx e Γ' h' nx' he; simp only [evalIC] at he; cases he
  | free rs an keep => intro Γ h nx e Γ' h' nx' he; simp only [evalIC] at he; cases he
theorem res_sound {nx : Nat} {σ : Sg} {Γ : Env} {h : Mp} {vals : List Value} (g : GoodS N0 σ vals h nx) (hv : ∀ v ∈ Γ.map (·.2), ScV nx v) : ∀ {r : List RV} {vs : List Value}, resE Γ h r = some vs → Res (rnE σ Γ) [instH A σ h] r (vs.map (rn σ)) ∧ ∀ v ∈ vs, ScV nx v := by
  intro r
  induction r with
  | nil => intro vs e; simp only [resE, Option.some.injEq] at e; subst e; exact ⟨.nil, fun v hv => by cases hv⟩
  | cons x r ih =>
    intro vs e
    cases x with
    | tmp t =>
      simp only [resE] at e
      split at e
      case h_2 => cases e
      rename_i v l hl hr
      cases e
      obtain ⟨i1, i2⟩ := ih hr
      refine ⟨.tmp (by rw [look_rn, hl]; rfl) i1, fun u hu => ?_⟩
      rcases List.mem_cons.1 hu with rfl | hu
      · exact hv _ (look_mem hl)
      · exact i2 u hu
    | cell1 t =>
      simp only [resE] at e
      split at e
      case h_2 => cases e
      rename_i b o hl
      split at e
      case h_2 => cases e
      rename_i v l hr hr2
      cases e
      obtain ⟨i1, i2⟩ := ih hr2
      refine ⟨.cell1 (b := σ.blk b) (o := σ.off b + o) (by rw [look_rn, hl]; simp [rnA]) ?_ i1, fun u hu => ?_⟩
      · simp only [List.flatten_cons, List.flatten_nil, List.append_nil]
        exact readN_mem hr _ (by simp [cellsAt])
      · rcases List.mem_cons.1 hu with rfl | hu
        · exact readN_sc g hr _ (by simp)
        · exact i2 u hu
    | cellN t m =>
      simp only [resE] at e
      split at e
      case h_2 => cases e
      rename_i b o hl
      split at e
      case h_2 => cases e
      rename_i us l hr hr2
      cases e
      obtain ⟨i1, i2⟩ := ih hr2
      refine ⟨?_, fun u hu => ?_⟩
      · have he : rn σ (.agg us.toArray) = .agg (us.map (rn σ)).toArray := by simp
        rw [List.map_cons, he]
        refine .cellN (b := σ.blk b) (o := σ.off b + o) (by rw [look_rn, hl]; simp [rnA]) (by rw [List.length_map]; exact readN_len hr) ?_ i1
        simp only [List.flatten_cons, List.flatten_nil, List.append_nil]
        exact readN_mem hr
      · rcases List.mem_cons.1 hu with rfl | hu
        · exact ScV.agg (readN_sc g hr)
        · exact i2 u hu
def TabOk (P : Program) (tab : List (Nat × FIR)) : Prop := ∀ p ∈ tab, ∃ kp od, lowF P kp od p.1 = some p.2
def OrcOk (A : List Atom) (P : Program) (orc : Nat → List Value → Option Value) : Prop := ∀ f args v, orc f args = some v → plainV v = true ∧ ∀ σ : Sg, Fun P f (args.map (rn σ)) [A] (fun u Post => u = v ∧ Post = [A])
theorem TabOk.nil : TabOk P [] := fun p hp => by cases hp
theorem TabOk.cons {f : Nat} {R : FIR} {kp : Nat → List Nat} {od : Nat → List (List Nat)} {tab : List (Nat × FIR)} (h : lowF P kp od f = some R) (t : TabOk P tab) : TabOk P ((f, R) :: tab) := fun p hp => by
  rcases List.mem_cons.1 hp with rfl | hp
  · exact ⟨kp, od, h⟩
  · exact t p hp
theorem tab_mem {tab : List (Nat × FIR)} {f : Nat} {R : FIR} (e : tabF tab f = some R) : (f, R) ∈ tab := by
  induction tab with
  | nil => cases e
  | cons p tab ih =>
    obtain ⟨i, b⟩ := p
    simp only [tabF] at e
    split at e
    · rename_i hb; cases e; rw [beqT hb]; simp
    · simp [ih e]
theorem args_vals : ∀ {vs : List Value} {k : Nat}, (argsEnv k vs).map (·.2) = vs := by
  intro vs
  induction vs with
  | nil => intro k; rfl
  | cons v vs ih => intro k; simp only [argsEnv, List.map_cons, ih]
theorem args_rn (σ : Sg) : ∀ {vs : List Value} {k : Nat}, rnE σ (argsEnv k vs) = argsEnv k (vs.map (rn σ)) := by
  intro vs
  induction vs with
  | nil => intro k; rfl
  | cons v vs ih => intro k; simp only [argsEnv, List.map_cons, ← ih]; rfl
theorem OrcOk.mono {orc : Nat → List Value → Option Value} (h : ∀ f args v, orc f args = some v → plainV v = true ∧ ∀ σ : Sg, Fun P f (args.map (rn σ)) [A] (fun u Post => u = v ∧ Post = [A])) : OrcOk A P orc := h
theorem f_sound {tab : List (Nat × FIR)} {orc : Nat → List Value → Option Value} (ht : TabOk P tab) (ho : OrcOk A P orc) (L : Nat) : ∀ k, SoundF A P N0 (evalF N0 tab orc L k) := by
  intro k
  induction k with
  | zero => intro f args h nx res he; simp only [evalF] at he; cases he
  | succ k ih =>
    intro f args h nx res he σ g
    simp only [evalF] at he
    cases hor : orc f args with
    | some v =>
      rw [hor] at he
      cases he
      obtain ⟨o1, o2⟩ := ho f args v hor
      refine (FunP.of_fun (Z := fun _ _ => False) (o2 σ)).conv (R := [instH [] σ h]) (by simpa [Spl] using instH_split) ?_ (fun _ _ q => q.elim)
      rintro u Post ⟨rfl, rfl⟩
      exact ⟨_, ⟨u, h, nx, σ, rfl, .refl _ _, Nat.le_refl _, g.with (fun w hw => by rw [List.mem_singleton.1 hw]; exact ScV.plain o1), (rn_plain o1).symm, rfl⟩, Imp.perm (by simpa using instH_split.symm)⟩
    | none =>
      rw [hor] at he
      simp only at he
      cases hta : tabF tab f with
      | none => rw [hta] at he; cases he
      | some R =>
        rw [hta] at he
        simp only at he
        split at he
        case h_1 => cases he
        rename_i hn
        obtain ⟨kp, od, hl⟩ := ht _ (tab_mem hta)
        refine FunP.intro hl (by rw [List.length_map]; exact bleT hn) ?_
        rw [← args_rn]
        cases hb : evalIC N0 (evalF N0 tab orc L k) L R.body (argsEnv 0 args) h nx with
        | none => rw [hb] at he; cases he
        | some r =>
          obtain ⟨e, Γ', h', nx'⟩ := r
          rw [hb] at he
          refine ic_sound ih L R.body _ _ _ _ _ _ _ hb σ (g.with (by rw [args_vals]; exact g.vals)) _ fun σ' Δ a le g' hd => ?_
          have fin : ∀ x : Exit, (x = .normal ∨ x = .ret) → (match resE Γ' h' R.res with | some vs => some (PR.val (tup vs) h' nx') | none => none) = some res → Δ = rnE σ' Γ' → GoodS N0 σ' (Γ'.map (·.2)) h' nx' →
              endP R.res (fun v Post => ∃ v0 h' nx' σ', res = .val v0 h' nx' ∧ Ag nx σ σ' ∧ nx ≤ nx' ∧ GoodS N0 σ' [v0] h' nx' ∧ v = rn σ' v0 ∧ Post = [instH A σ' h'])
                (fun ch Post => ∃ ch0 h' nx' σ', res = .pan ch0 h' nx' ∧ Ag nx σ σ' ∧ nx ≤ nx' ∧ GoodS N0 σ' (ch0.map (·.v)) h' nx' ∧ ch = rnCh σ' ch0 ∧ Post = [instH A σ' h']) x Δ [instH A σ' h'] := by
            intro x hx he hΔ g2
            subst hΔ
            split at he
            case h_2 => cases he
            rename_i vs hvs
            cases he
            obtain ⟨r1, r2⟩ := res_sound g2 g2.vals hvs
            refine endP_mk ⟨hx, _, _, r1, Imp.refl _, V.tup vs, h', nx', σ', rfl, a, le, g2.with (fun w hw => by rw [List.mem_singleton.1 hw]; exact ScV.tup r2), (rn_tup σ' vs).symm, rfl⟩
          cases e with
          | normal => exact fin .normal (.inl rfl) he (hd (fun ch e => by cases e)) (by simpa [exVals] using g')
          | ret => exact fin .ret (.inr rfl) he (hd (fun ch e => by cases e)) (by simpa [exVals] using g')
          | exit i => cases he
          | pan ch =>
            cases he
            exact ⟨_, Imp.refl _, ch, h', nx', σ', rfl, a, le, g'.with (fun u hu => g'.vals u (List.mem_append_left _ hu)), rfl, rfl⟩
theorem run_at {tab : List (Nat × FIR)} {orc : Nat → List Value → Option Value} (ht : TabOk P tab) (ho : OrcOk A P orc) {L k f : Nat} {args : List Value} {v : Value} (ha : args.all plainV = true) (hv : plainV v = true)
    (he : (match evalF N0 tab orc L k f args [] N0 with | some (.val u _ _) => some u | _ => none) = some v) : Fun P f args [A] (fun u Post => u = v ∧ Post = [A]) := by
  cases hb : evalF N0 tab orc L k f args [] N0 with
  | none => rw [hb] at he; cases he
  | some res =>
    rw [hb] at he
    have g : GoodS N0 ⟨fun i => i, fun _ => 0, fun _ => 0, fun _ => []⟩ args [] N0 := ⟨fun _ _ => ⟨rfl, rfl⟩, Nat.le_refl _, (fun p hp => by cases hp), (fun p hp => by cases hp), (fun p hp => by cases hp), fun u hu => ScV.plain (List.all_eq_true.1 ha u hu)⟩
    have hs := f_sound ht ho L k f args [] N0 res hb _ g
    have hargs : args.map (rn ⟨fun i => i, fun _ => 0, fun _ => 0, fun _ => []⟩) = args := by
      conv => rhs; rw [← List.map_id args]
      exact List.map_congr_left fun u hu => rn_plain (List.all_eq_true.1 ha u hu)
    rw [hargs] at hs
    have hs2 := hs.conv (H := [A]) (R := []) (Q' := fun u Post => u = v ∧ Post = [A]) (Z' := fun _ _ => False) (by simp [Spl, instH]) ?_ ?_
    · exact hs2.fun
    · rintro u Post ⟨v0, h1, nx1, σ1, rfl, _, _, _, rfl, rfl⟩
      simp only [Option.some.injEq] at he
      subst he
      exact ⟨[A], ⟨rn_plain hv, rfl⟩, ⟨[instH [] σ1 h1], by simpa [Spl] using instH_split⟩⟩
    · rintro ch Post ⟨v0, h1, nx1, σ1, rfl, _⟩
      cases he
end
section
variable {ops : Array Oper}
def writes (X : Nat → RO × Oper) (t j : Nat) : Bool := (X j).1.dst == some t
end
section
variable {P : Program} {n : Nat} {rs : List RO} {Γ : Env} {H : SH} {Z : List PanicEntry → Env → SH → Prop} {K : Env → SH → Prop} {d : Option Nat}
end
theorem holds_loc {w : World} {a b : Atom} (ha : a.holds w) (hb : b.holds w) (h : a.loc = b.loc) : a = b := by
  cases a with
  | cell i k v =>
    cases b with
    | cell j l u =>
      simp only [Atom.loc, Prod.mk.injEq, Option.some.injEq] at h
      obtain ⟨rfl, rfl⟩ := h
      obtain ⟨c, t, lo, hi, h1, h2, _⟩ := ha
      obtain ⟨c', t', lo', hi', h3, h4, _⟩ := hb
      rw [h1] at h3
      cases h3
      rw [h2] at h4
      cases h4
      rfl
    | obj j o => simp [Atom.loc] at h
    | row j n => simp [Atom.loc] at h
  | row i n =>
    obtain ⟨c, t, lo, hi, h1, h2⟩ := ha
    cases b with
    | cell j l u => simp [Atom.loc] at h
    | obj j p =>
      simp only [Atom.loc, Prod.mk.injEq, and_true] at h
      subst h
      have h3 := hb.1
      rw [h1] at h3
      cases h3
      exact absurd hb.2 (by simp [isCells])
    | row j m =>
      simp only [Atom.loc, Prod.mk.injEq, and_true] at h
      subst h
      obtain ⟨c', t', lo', hi', h3, h4⟩ := hb
      rw [h1] at h3
      cases h3
      rw [h2] at h4
      rw [h4]
  | obj i o =>
    cases b with
    | cell j l u => simp [Atom.loc] at h
    | obj j p =>
      simp only [Atom.loc, Prod.mk.injEq, and_true] at h
      subst h
      have h1 := ha.1
      rw [hb.1] at h1
      cases h1
      rfl
    | row j n =>
      simp only [Atom.loc, Prod.mk.injEq, and_true] at h
      subst h
      obtain ⟨c, t, lo, hi, h1, h2⟩ := hb
      have h3 := ha.1
      rw [h1] at h3
      cases h3
      exact absurd ha.2 (by simp [isCells])
theorem sat_of_list {w : World} : ∀ L : List Atom, (∀ a ∈ L, a.holds w) → ∃ L', Sat w L' ∧ ∀ a ∈ L, a ∈ L' := by
  intro L
  induction L with
  | nil => intro _; exact ⟨[], ⟨by simp, by simp⟩, by simp⟩
  | cons x L ih =>
    intro h
    obtain ⟨L', h1, h2⟩ := ih (fun a ha => h a (by simp [ha]))
    by_cases hx : x.loc ∈ L'.map Atom.loc
    · obtain ⟨y, hy, e⟩ := List.mem_map.1 hx
      have : y = x := holds_loc (h1.holds y hy) (h x (by simp)) e
      subst this
      refine ⟨L', h1, fun a ha => ?_⟩
      rcases List.mem_cons.1 ha with rfl | ha
      · exact hy
      · exact h2 a ha
    · refine ⟨x :: L', ⟨fun a ha => ?_, by simp only [List.map_cons, List.nodup_cons]; exact ⟨hx, h1.nodup⟩⟩, fun a ha => ?_⟩
      · rcases List.mem_cons.1 ha with rfl | ha
        · exact h a (by simp)
        · exact h1.holds a ha
      · rcases List.mem_cons.1 ha with rfl | ha
        · simp
        · simp [h2 a ha]
def blockAtoms (w : World) (i : Nat) : List Atom := match w.heap[i]? with
  | some (.cells c _ (lo, hi)) => .row i c.size :: (List.range c.size).filterMap fun j => if lo ≤ j ∧ j < hi then none else (c[j]?).map fun v => .cell i j v
  | some o => [.obj i o]
  | none => []
theorem sat_all (w : World) : ∃ L, Sat w L ∧ ∀ a : Atom, a.holds w → a ∈ L := by
  obtain ⟨L, h1, h2⟩ := sat_of_list (w := w) ((List.range w.heap.size).flatMap (blockAtoms w)) (by
    intro a ha
    obtain ⟨i, _, ha⟩ := List.mem_flatMap.1 ha
    unfold blockAtoms at ha
    split at ha
    · rename_i c t lo hi hb
      rcases List.mem_cons.1 ha with rfl | ha
      · exact ⟨c, t, lo, hi, hb, rfl⟩
      obtain ⟨j, _, hj⟩ := List.mem_filterMap.1 ha
      split at hj
      · cases hj
      · rename_i hf
        simp only [Option.map_eq_some_iff] at hj
        obtain ⟨v, hv, rfl⟩ := hj
        exact ⟨c, t, lo, hi, hb, hv, hf⟩
    · rename_i o hne hb
      simp only [List.mem_singleton] at ha
      subst ha
      refine ⟨hb, ?_⟩
      cases o <;> first | rfl | (rename_i c t fr; exact absurd rfl (hne c t fr.1 fr.2))
    · cases ha)
  refine ⟨L, h1, fun a ha => h2 a ?_⟩
  cases a with
  | cell i k v =>
    obtain ⟨c, t, lo, hi, hb, hv, hf⟩ := ha
    have hi' : i < w.heap.size := by
      rcases Nat.lt_or_ge i w.heap.size with h | h
      · exact h
      · rw [Array.getElem?_eq_none h] at hb; cases hb
    refine List.mem_flatMap.2 ⟨i, List.mem_range.2 hi', ?_⟩
    unfold blockAtoms
    rw [hb]
    refine List.mem_cons_of_mem _ (List.mem_filterMap.2 ⟨k, List.mem_range.2 (Array.getElem?_eq_some_iff.1 hv).1, ?_⟩)
    rw [if_neg hf, hv]; rfl
  | row i n =>
    obtain ⟨c, t, lo, hi, hb, rfl⟩ := ha
    have hi' : i < w.heap.size := by
      rcases Nat.lt_or_ge i w.heap.size with h | h
      · exact h
      · rw [Array.getElem?_eq_none h] at hb; cases hb
    refine List.mem_flatMap.2 ⟨i, List.mem_range.2 hi', ?_⟩
    unfold blockAtoms
    rw [hb]
    exact List.mem_cons_self ..
  | obj i o =>
    obtain ⟨hb, hc⟩ := ha
    have hi' : i < w.heap.size := by
      rcases Nat.lt_or_ge i w.heap.size with h | h
      · exact h
      · rw [Array.getElem?_eq_none h] at hb; cases hb
    refine List.mem_flatMap.2 ⟨i, List.mem_range.2 hi', ?_⟩
    unfold blockAtoms
    rw [hb]
    cases o <;> first | (simp; done) | (simp [isCells] at hc)
theorem old_same {w w' : World} {L : List Atom} (hL : ∀ a : Atom, a.holds w → a ∈ L) (hs : Sat w' L) (hk : Keeps w w') : ∀ i, i < w.heap.size → w'.heap[i]? = w.heap[i]? := by
  intro i hi
  have hb : w.heap[i]? = some w.heap[i] := Array.getElem?_eq_getElem hi
  generalize w.heap[i] = o at hb
  rw [hb]
  by_cases hc : isCells o = false
  · exact (hs.holds _ (hL (.obj i o) ⟨hb, hc⟩)).1
  · cases o <;> first | (exact absurd rfl hc) | skip
    rename_i c t fr
    obtain ⟨lo, hi2⟩ := fr
    obtain ⟨c', h1, h2, h3⟩ := hk.cells i c t lo hi2 hb
    rw [h1]
    congr 2
    apply Array.ext h2
    intro j hj1 hj2
    by_cases hf : lo ≤ j ∧ j < hi2
    · have := h3 j hf
      rw [Array.getElem?_eq_getElem hj1, Array.getElem?_eq_getElem hj2] at this
      exact Option.some.inj this
    · obtain ⟨c2, t2, lo2, hi3, g1, g2, _⟩ := hs.holds _ (hL (.cell i j c[j]) ⟨c, t, lo, hi2, hb, Array.getElem?_eq_getElem hj2, hf⟩)
      rw [h1] at g1
      cases g1
      rw [Array.getElem?_eq_getElem hj1] at g2
      exact Option.some.inj g2
theorem mapM_mono {α β : Type} {f g : α → Option β} : ∀ {l : List α} {r : List β}, (∀ x ∈ l, ∀ y, f x = some y → g x = some y) → l.mapM f = some r → l.mapM g = some r := by
  intro l
  induction l with
  | nil => intro r _ h; simpa using h
  | cons a l ih =>
    intro r hfg h
    simp only [List.mapM_cons, Option.bind_eq_bind, Option.pure_def, Option.bind_eq_some_iff] at h ⊢
    obtain ⟨y, h1, ys, h2, h3⟩ := h
    exact ⟨y, hfg a (by simp) y h1, ys, ih (fun x hx => hfg x (by simp [hx])) h2, h3⟩
theorem cells?_same {w w' : World} (hold : ∀ i, i < w.heap.size → w'.heap[i]? = w.heap[i]?) {base n : Nat} {a : Addr} {cs : List Value} (h : w.cells? base a n = some cs) : w'.cells? base a n = some cs := by
  unfold World.cells? at h ⊢
  split at h
  · rename_i hb
    rw [if_pos hb]
    refine mapM_mono (fun i _ v hv => ?_) h
    have hlt := World.block_lt_of_cell? w _ hv
    unfold World.cell? at hv ⊢
    rw [hold _ hlt]; exact hv
  · cases h
section
variable {H : Type} {enc : TypeId × Value → H} {P : Program} {w w' : World} {base : Nat} {sp : Nat → Bool} {held : Bool}
structure Closed (P : Program) (ok : TypeId → Prop) : Prop where
  ptr : ∀ t e, ok t → P.underlying t = some (.pointer e) → ok e
  slice : ∀ t e, ok t → P.underlying t = some (.slice e) → ok e ∧ 0 < P.cellsOf e
  struct : ∀ t fs, ok t → P.underlying t = some (.struct fs) → ∀ f ∈ fs.toList, ok f.type
  array : ∀ t n e, ok t → P.underlying t = some (.array n e) → ok e
  map : ∀ t k e, ok t → P.underlying t = some (.map k e) → ok e
def closedB (P : Program) (S : List TypeId) : Bool := S.all fun t => match P.underlying t with
  | some (.pointer e) => S.contains e
  | some (.slice e) => S.contains e && decide (0 < P.cellsOf e)
  | some (.struct fs) => fs.toList.all fun f => S.contains f.type
  | some (.array _ e) => S.contains e
  | some (.map _ e) => S.contains e
  | _ => true
theorem closed_of {S : List TypeId} (h : closedB P S = true) : Closed P (· ∈ S) := by
  have h' := List.all_eq_true.1 h
  refine ⟨fun t e ht hu => ?_, fun t e ht hu => ?_, fun t fs ht hu f hf => ?_, fun t n e ht hu => ?_, fun t k e ht hu => ?_⟩
  all_goals have := h' t ht
  all_goals rw [hu] at this
  all_goals simp only [List.contains_iff_mem, Bool.and_eq_true, decide_eq_true_eq, List.all_eq_true] at this
  · exact this
  · exact this
  · exact this f hf
  · exact this
  · exact this
theorem trodStep_same {ok : TypeId → Prop} (hcl : Closed P ok) (hold : ∀ i, i < w.heap.size → w'.heap[i]? = w.heap[i]?) (hsp : ∀ b, b < w.heap.size → sp b = true)
    {r r' : TypeId → List Value → Option (DataW H × List MemPlace)} (hr : ∀ t cs x, ok t → r t cs = some x → r' t cs = some x) {t : TypeId} {cs : List Value} {x : DataW H × List MemPlace} (ht : ok t)
    (h : DataW.trodStep enc P w base (fun _ => true) true r t cs = some x) : DataW.trodStep enc P w' base sp true r' t cs = some x := by
  unfold DataW.trodStep at h
  split at h
  case h_1 hu => unfold DataW.trodStep; simp only [hu]; exact h
  case h_2 hu => unfold DataW.trodStep; simp only [hu]; exact h
  case h_3 hu => unfold DataW.trodStep; simp only [hu]; exact h
  case h_4 hu => unfold DataW.trodStep; simp only [hu]; exact h
  case h_5 hu => unfold DataW.trodStep; simp only [hu]; exact h
  case h_6 e a hu =>
    unfold DataW.trodStep; simp only [hu]
    simp only [Option.map_eq_some_iff, Option.bind_eq_some_iff] at h ⊢
    obtain ⟨y, ⟨cs', hc, hy⟩, hx⟩ := h
    exact ⟨y, ⟨cs', cells?_same hold hc, hr _ _ _ (hcl.ptr t e ht hu) hy⟩, hx⟩
  case h_7 hu => unfold DataW.trodStep; simp only [hu]; exact h
  case h_8 e a len cap hu =>
    unfold DataW.trodStep; simp only [hu]
    obtain ⟨hoe, hpos⟩ := hcl.slice t e ht hu
    simp only at h
    split at h
    · rename_i hb
      rw [if_pos hb]
      simp only [Option.map_eq_some_iff, Option.bind_eq_some_iff, if_true] at h ⊢
      obtain ⟨elems, he, rest, hrest, hx⟩ := h
      have one : ∀ i y, (w.cells? base (a.add (i * P.cellsOf e)) (P.cellsOf e)).bind (r e) = some y → (w'.cells? base (a.add (i * P.cellsOf e)) (P.cellsOf e)).bind (r' e) = some y := by
        intro i y hy
        simp only [Option.bind_eq_some_iff] at hy ⊢
        obtain ⟨cs', hc, hy⟩ := hy
        exact ⟨cs', cells?_same hold hc, hr _ _ _ hoe hy⟩
      have hb' : (cap - len = 0) ∨ a.block < w.heap.size := by
        rcases Nat.eq_zero_or_pos (cap - len) with h0 | h0
        · exact .inl h0
        · right
          have hne : rest ≠ [] := by
            intro hn
            subst hn
            have := congrArg List.length (show [] = _ from rfl : ([] : List Nat) = [])
            have hlen : ∀ {l : List Nat} {g : Nat → Option (DataW H × List MemPlace)} {q : List (DataW H × List MemPlace)}, l.mapM g = some q → q.length = l.length := by
              intro l g
              induction l with
              | nil => intro q hq; simp at hq; subst hq; rfl
              | cons a l ih =>
                intro q hq
                simp only [List.mapM_cons, Option.bind_eq_bind, Option.pure_def, Option.bind_eq_some_iff] at hq
                obtain ⟨y, _, ys, h2, h3⟩ := hq
                cases h3
                simp [ih h2]
            have := hlen hrest
            simp at this; omega
          obtain ⟨y, hy⟩ := List.exists_mem_of_ne_nil _ hne
          obtain ⟨j, _, hj⟩ := mapM_mem_of hrest y hy
          simp only [Option.bind_eq_some_iff] at hj
          obtain ⟨cs', hc, _⟩ := hj
          have := World.cells?_block hc hpos
          have e1 : (a.add ((len + j) * P.cellsOf e)).block = a.block := by unfold Addr.add; split <;> rfl
          rw [e1] at this
          exact this
      refine ⟨elems, mapM_mono (fun i _ y hy => one i y hy) he, rest, ?_, hx⟩
      rcases hb' with h0 | h0
      · rw [h0] at hrest ⊢
        simp at hrest ⊢
        subst hrest
        rfl
      · rw [hsp _ h0]
        exact mapM_mono (fun i _ y hy => one _ y hy) hrest
    · cases h
  case h_9 fs hu =>
    unfold DataW.trodStep; simp only [hu]
    split at h
    · rename_i hl
      rw [if_pos hl]
      simp only [Option.map_eq_some_iff] at h ⊢
      obtain ⟨xs, hx, e⟩ := h
      exact ⟨xs, mapM_mono (fun f hf y hy => hr _ _ _ (hcl.struct t fs ht hu f hf) hy) hx, e⟩
    · cases h
  case h_10 n e hu =>
    unfold DataW.trodStep; simp only [hu]
    split at h
    · rename_i hl
      rw [if_pos hl]
      simp only [Option.map_eq_some_iff] at h ⊢
      obtain ⟨xs, hx, e1⟩ := h
      exact ⟨xs, mapM_mono (fun f _ y hy => hr _ _ _ (hcl.array t n e ht hu) hy) hx, e1⟩
    · cases h
  case h_11 hu => unfold DataW.trodStep; simp only [hu]; exact h
  case h_12 u v hu =>
    unfold DataW.trodStep; simp only [hu]
    exact h
  case h_13 hu => unfold DataW.trodStep; simp only [hu]; exact h
  case h_14 k e b hu =>
    unfold DataW.trodStep; simp only [hu]
    split at h
    · rename_i es clock hb
      have hlt : b < w.heap.size := by
        rcases Nat.lt_or_ge b w.heap.size with h' | h'
        · exact h'
        · simp [Array.getElem?_eq_none h'] at hb
      rw [hold b hlt, hb]
      dsimp only
      split at h
      · rename_i hc
        rw [if_pos hc]
        simp only [Option.bind_eq_some_iff] at h ⊢
        obtain ⟨entries, he, hd⟩ := h
        refine ⟨entries, mapM_mono (fun x _ y hy => ?_) he, hd⟩
        obtain ⟨key, hk, hz'⟩ := Option.bind_eq_some_iff.1 hy
        refine Option.bind_eq_some_iff.2 ⟨key, hk, ?_⟩
        split at hz'
        · rename_i hf
          rw [if_pos hf]
          simp only [Option.map_eq_some_iff] at hz' ⊢
          obtain ⟨q, hq, e⟩ := hz'
          exact ⟨q, hr _ _ _ (hcl.map t k _ ht hu) hq, e⟩
        · cases hz'
      · cases h
    · cases h
  case h_15 hu => unfold DataW.trodStep; simp only [hu]; exact h
  case h_16 hu => unfold DataW.trodStep; simp only [hu]; exact h
  case h_17 hu => unfold DataW.trodStep; simp only [hu]; exact h
  case h_18 hu => unfold DataW.trodStep; simp only [hu]; exact h
  case h_19 hu => unfold DataW.trodStep; simp only [hu]; exact h
  case h_20 hu => unfold DataW.trodStep; simp only [hu]; exact h
  case h_21 => cases h
theorem trod_same {ok : TypeId → Prop} (hcl : Closed P ok) (hold : ∀ i, i < w.heap.size → w'.heap[i]? = w.heap[i]?) (hsp : ∀ b, b < w.heap.size → sp b = true) :
    ∀ (n : Nat) (t : TypeId) (cs : List Value) (x : DataW H × List MemPlace), ok t → DataW.trod enc P w base (fun _ => true) true n t cs = some x → DataW.trod enc P w' base sp true n t cs = some x := by
  intro n
  induction n with
  | zero => intro t cs x _ h; simp [DataW.trod] at h
  | succ n ih =>
    intro t cs x ht h
    rw [DataW.trod_step] at h ⊢
    exact trodStep_same hcl hold hsp ih ht h
theorem trodAll_same {ok : TypeId → Prop} (hcl : Closed P ok) (hold : ∀ i, i < w.heap.size → w'.heap[i]? = w.heap[i]?) (hsp : ∀ b, b < w.heap.size → sp b = true) :
    ∀ {ts : List TypeId} {vs : List Value} {ds : List (DataW H)} {ps : List MemPlace}, (∀ t ∈ ts, ok t) → DataW.TrodAll enc P w base (fun _ => true) true ts vs ds ps → DataW.TrodAll enc P w' base sp true ts vs ds ps
  | [], [], [], _, _, h => h
  | _ :: _, _ :: _, _ :: _, _, ho, ⟨p, q, ⟨n, h1⟩, h2, e⟩ => ⟨p, q, ⟨n, trod_same hcl hold hsp n _ _ _ (ho _ (by simp)) h1⟩, trodAll_same hcl hold hsp (fun t ht => ho t (by simp [ht])) h2, e⟩
end
open Go Go.ChangeShapes Go.WideShapes
section
variable {H : Type} {enc : TypeId × Value → H} {P : Program}
theorem glue {f : FuncId} {fn : Func} {s : ChangeSpec} {rt : TypeId} {apart fresh handsOn : Bool} {W : World} {args : List Value} {ds gs : List (DataW H)} {before : List MemPlace}
    (hvars : s.vars = []) (hrt : fn.resultTypes = #[rt]) (hb : P.underlying rt = some .bool) (hfn : s.fn H (ds ++ gs) = { results := [.lit (.bool true)], args := ds })
    {ok : TypeId → Prop} (hcl : Closed P ok) (hok : ∀ t ∈ fn.params.toList, ok t) (hW : DataW.Whole enc P fn.params.toList s.vars apart W args ds gs before)
    (hF : ∀ A, (∀ a : Atom, a.holds W → a ∈ A) → Fun P f args [A] fun v Post => v = .bool true ∧ Post = [A]) :
    Calls P f args.toArray W fun e W' => ∃ v, e = .returned v ∧ s.post enc P fn apart fresh handsOn false W args.toArray v W' := by
  obtain ⟨A, hA, hall⟩ := sat_all W
  have h := (hF A hall).2 [] W (by simpa using hA)
  refine h.mono ?_
  rintro e W' ⟨v, Post, rfl, ⟨rfl, rfl⟩, hs, hk⟩
  have hs' : Sat W' A := by simpa using hs
  have hold := old_same hall hs' hk
  refine ⟨_, rfl, ds, gs, before, [], before, [], by simpa using hW, ?_, ?_, ?_, ?_, fun h => by cases h⟩
  · rw [hrt, hfn]
    exact trodAll_mk1 ⟨1, by simp [DataW.trod, hb, Value.cells]⟩
  · obtain ⟨p, q, h1, h2, h3, _, _⟩ := hW
    rw [hvars] at h2
    obtain ⟨rfl, rfl⟩ := trodVars_none h2
    rw [hfn]
    simp only [List.append_nil] at h3
    subst h3
    simpa using trodAll_same hcl hold (fun b hb => by simpa using hb) hok h1
  · rw [hfn, hvars]; rfl
  · refine ⟨hk.os, hk.output, fun i hi => ?_⟩
    rw [hold i hi]
    have : W.heap[i]? = some W.heap[i] := Array.getElem?_eq_getElem hi
    generalize W.heap[i] = o at this
    rw [this]
    cases o <;> first | exact ⟨rfl, rfl, rfl, fun _ _ => rfl⟩ | exact .inr ⟨rfl, rfl⟩ | rfl
theorem holds_cell {W : World} {b o : Nat} {v : Value} (h : W.cell? ⟨b, o, none⟩ = some v) (hf : W.frozen? ⟨b, o, none⟩ = false) : (Atom.cell b o v).holds W := by
  unfold World.cell? at h
  unfold World.frozen? at hf
  split at h
  · rename_i c t fr hb
    obtain ⟨lo, hi⟩ := fr
    simp only at hb hf h
    rw [hb] at hf
    simp only [Bool.and_eq_false_iff, decide_eq_false_iff_not] at hf
    refine ⟨c, t, lo, hi, hb, by simpa using h, fun hh => ?_⟩
    rcases hf with hf | hf
    · exact hf hh.1
    · exact hf hh.2
  · cases h
end
open Go Go.ChangeShapes Go.WideShapes Go.Deep
inductive SC where
  | int (k : IntKind)
  | str
def SC.ok : SC → Value → Prop
  | .int k, v => ∃ n, v = .int k n ∧ (Lit.int k n).wf = true
  | .str, v => ∃ s : ByteArray, v = .string s ∧ s.size ≤ maxLen
section
variable {H : Type} {enc : TypeId × Value → H} {P : Program} {W : World} {base : Nat}
end
structure Bulk {H : Type} (bulk : DataW H → Nat) : Prop where
  agg : ∀ l d, d ∈ l → bulk d < bulk (.agg l)
  sl : ∀ es sp d, d ∈ es → bulk d < bulk (.slice es sp)
  len : ∀ es sp, es.length ≤ bulk (.slice es sp)
  sls : ∀ es sp, (es.map bulk).sum ≤ bulk (.slice es sp)
  aggs : ∀ l, (l.map bulk).sum < bulk (.agg l)
  str : ∀ bs, bs.length ≤ bulk (.lit (.string bs))
section
variable {H : Type} {enc : TypeId × Value → H} {P : Program} {bulk : DataW H → Nat}
structure LitT (P : Program) (t : TypeId) (sl : TypeId) : Prop where
  str : ∃ fs : Array Field, P.underlying t = some (.struct fs) ∧ fs.size = 5 ∧ ∃ t0 t1 t2 t3, (fs.toList.map fun f => (f.type, f.offset)) = [(t0, 0), (t1, 1), (t2, 2), (t3, 3), (sl, 4)] ∧ P.underlying t0 = some (.int .u8) ∧ P.underlying t1 = some (.int .i64) ∧ P.underlying t2 = some (.int .u64) ∧ P.underlying t3 = some .string ∧
    P.cellsOf t0 = 1 ∧ P.cellsOf t1 = 1 ∧ P.cellsOf t2 = 1 ∧ P.cellsOf t3 = 1 ∧ P.cellsOf sl = 1
  cells : P.cellsOf t = 5
  items : P.underlying sl = some (.slice t)
structure NodT (P : Program) (t tl sl st : TypeId) : Prop where
  str : ∃ fs : Array Field, P.underlying t = some (.struct fs) ∧ fs.size = 7 ∧ ∃ t0 t1 t6, (fs.toList.map fun f => (f.type, f.offset)) = [(t0, 0), (t1, 1), (tl, 2), (st, 7), (st, 8), (sl, 9), (t6, 10)] ∧ P.underlying t0 = some (.int .u8) ∧ P.underlying t1 = some .string ∧ P.underlying t6 = some (.int .i64) ∧
    P.cellsOf t0 = 1 ∧ P.cellsOf t1 = 1 ∧ P.cellsOf t6 = 1 ∧ P.underlying st = some (.slice t1)
  cells : P.cellsOf t = 11
  cs : P.cellsOf sl = 1
  ct : P.cellsOf st = 1
  cl : P.cellsOf tl = 5
  kids : P.underlying sl = some (.slice t)
end
end Go.V

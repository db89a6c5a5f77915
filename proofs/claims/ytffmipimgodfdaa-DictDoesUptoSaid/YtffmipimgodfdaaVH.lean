/-
  A region that draws its order: it is enough to walk it in one order for each way in which what does not commute may come up.
-/
import Derived.Test.YtffmipimgodfdaaVG
set_option linter.unusedSimpArgs false
set_option linter.unusedVariables false
namespace Go.V
open Go
section
variable {P : Program}

/-- The next state of one operation that acts: its own slot and, it may be, the deferred calls. -/
theorem upon_put {o : Oper} {a : Act} {d : Nat} {u : Value} (hd : o.dst ≠ some d) {K : Act → World → Prop} {r : Result Next}
    (h : uponV P o a (fun a' w' => K (a'.put (some d) u) w') noWay r) : uponV P o (a.put (some d) u) K noWay r := by
  have hc : ∀ v, (a.put o.dst v).put (some d) u = (a.put (some d) u).put o.dst v := fun v => Act.put_comm a v u (fun e h1 h2 => hd (by rw [h1, ← h2]))
  cases r with
  | ok n w' =>
    cases n <;> simp only [uponV] at h ⊢
    case value v => rw [← hc]; exact h
    case skip => rw [← hc]; exact h
    case enter f args => exact Calls.mono h (fun e w'' he => by cases e <;> first | (simp only at he ⊢; rw [← hc]; exact he) | exact he)
    case round l f tmps assign body => exact RoundIn.mono h (fun e w'' he => by cases e <;> first | (simp only at he ⊢; rw [← hc]; exact he) | exact he)
  | halt x w' => cases x <;> simp only [uponV] at h ⊢ <;> exact h

theorem upon_put' {o : Oper} {a : Act} {d : Nat} {u : Value} (hd : o.dst ≠ some d) {K : Act → World → Prop} {r : Result Next}
    (h : uponV P o (a.put (some d) u) K noWay r) : uponV P o a (fun a' w' => K (a'.put (some d) u) w') noWay r := by
  have hc : ∀ v, (a.put o.dst v).put (some d) u = (a.put (some d) u).put o.dst v := fun v => Act.put_comm a v u (fun e h1 h2 => hd (by rw [h1, ← h2]))
  cases r with
  | ok n w' =>
    cases n <;> simp only [uponV] at h ⊢
    case value v => rw [hc]; exact h
    case skip => rw [hc]; exact h
    case enter f args => exact Calls.mono h (fun e w'' he => by cases e <;> first | (simp only at he ⊢; rw [hc]; exact he) | exact he)
    case round l f tmps assign body => exact RoundIn.mono h (fun e w'' he => by cases e <;> first | (simp only at he ⊢; rw [hc]; exact he) | exact he)
  | halt x w' => cases x <;> simp only [uponV] at h ⊢ <;> exact h

/-- What a wp of an operation says of at least one next state. -/
theorem upon_exists {o : Oper} {a : Act} {K : Act → World → Prop} {r : Result Next} (h : uponV P o a K noWay r) : ∃ ds v w', K ({ a with defers := ds }.put o.dst v) w' := by
  cases r with
  | ok n w' =>
    cases n <;> simp only [uponV] at h
    case value v => exact ⟨a.defers, v, w', h⟩
    case skip => exact ⟨a.defers, undef, w', h⟩
    case enter f args =>
      obtain ⟨e, w1, fr, hR, _⟩ := h []
      cases e with
      | returned v => exact ⟨a.defers, v, w1, hR⟩
      | panicked c => exact hR.elim
      | outgrown => exact hR.elim
    case round l f tmps assign body =>
      obtain ⟨e, w1, hR, _⟩ := h.2 default [] (room_wide _)
      cases e with
      | returned v => exact ⟨a.defers, v, w1, hR⟩
      | panicked c => exact hR.elim
      | outgrown => exact hR.elim
  | halt x w' => cases x <;> simp only [uponV] at h <;> exact h.elim

theorem eval_defers (a : Act) (ds : List Deferred) : ({ a with defers := ds } : Act).eval = a.eval := by funext x; cases x <;> rfl

theorem Yv_defers {x : RO × Oper} {a : Act} {ds : List Deferred} {w : World} {v : Value} : Yv P x { a with defers := ds } w v ↔ Yv P x a w v := by
  unfold Yv
  rw [eval_defers]
  have : wantedR x.1.guard { a with defers := ds } = wantedR x.1.guard a := by cases x.1.guard <;> rfl
  rw [this]

structure Good (P : Program) (n : Nat) (ops : Array Oper) (x : RO × Oper) : Prop where
  low : lowRO P n ops x.2 = some x.1
  sel : ∀ cs b, x.2.op ≠ .select cs b

theorem low_noSelect {op : Op} {r : R} (h : lowOp P op = some r) (cs : Array SelectCase) (b : Bool) : op ≠ .select cs b := by
  rintro rfl; simp [lowOp] at h

theorem Good.of_low {n : Nat} {ops : Array Oper} {x : RO × Oper} (h : lowRO P n ops x.2 = some x.1) : Good P n ops x := ⟨h, low_noSelect (lowRO_spec h).1⟩

theorem apart1_spec {x y : RO × Oper} (h : apart1 x y = true) : ∀ d, x.1.dst = some d → d ∉ looks y ∧ y.1.dst ≠ some d := by
  intro d e
  simp only [apart1, e, Bool.and_eq_true, Bool.not_eq_true', bne_iff_ne] at h
  exact ⟨by simpa using h.1, h.2⟩

variable {n : Nat} {ops : Array Oper}

theorem swap {x y : RO × Oper} (gx : Good P n ops x) (gy : Good P n ops y) (h : indep x y = true) {K : Act → World → Prop} {a : Act} {w : World}
    (hh : wpR1 P noWay y (fun a w => wpR1 P noWay x K a w) a w) : wpR1 P noWay x (fun a w => wpR1 P noWay y K a w) a w := by
  simp only [indep, Bool.and_eq_true] at h
  obtain ⟨⟨hxy, hyx⟩, hc⟩ := h
  have axy := apart1_spec hxy
  have ayx := apart1_spec hyx
  have comm : ∀ (b : Act) (u v : Value), (b.put x.1.dst u).put y.1.dst v = (b.put y.1.dst v).put x.1.dst u := fun b u v => Act.put_comm b u v (fun d e => (axy d e).2)
  by_cases qx : (isPure x.1.op || isRead x.1.op) = true
  · by_cases qy : (isPure y.1.op || isRead y.1.op) = true
    · obtain ⟨v, hv, h1⟩ := (wpR1_quiet qy).1 hh
      obtain ⟨u, hu, h2⟩ := (wpR1_quiet qx).1 h1
      refine (wpR1_quiet qx).2 ⟨u, (Yv_put qx (fun t e => (ayx t e).1)).1 hu, (wpR1_quiet qy).2 ⟨v, (Yv_put qy (fun t e => (axy t e).1)).2 hv, ?_⟩⟩
      rw [comm]; exact h2
    · -- x is pure, y acts
      have qy' : (isPure y.1.op || isRead y.1.op) = false := by simpa using qy
      have px : isPure x.1.op = true := by
        try simp only [Bool.or_eq_true, Bool.and_eq_true] at hc
        simp only [Bool.or_eq_false_iff] at qy'
        rcases hc with ((h | h) | h) | h
        · exact h
        · rw [qy'.1] at h; cases h
        · rw [qy'.2] at h; cases h.2
        · rw [qy'.2] at h; cases h.2
      simp only [Bool.or_eq_false_iff] at qy'
      by_cases hw : wantedR y.1.guard a = true
      · unfold wpR1 at hh
        rw [if_pos hw, if_neg (by simp [qy'.1]), if_neg (by simp [qy'.2])] at hh
        obtain ⟨hnew, hh⟩ := hh
        replace hh := wpV_mono (K' := fun a w => ∃ v, Yv P x a w v ∧ K (a.put x.1.dst v) w) (fun a w h => (wpR1_quiet qx).1 h) hh
        obtain ⟨gl1, gl2, gl3, _⟩ := lowRO_spec gy.low
        obtain ⟨ds, v0, w0, u, hu, _⟩ := upon_exists hh
        have hu' : ∀ w, Yv P x a w u := fun w => by
          rw [← gl2] at hu
          have := (Yv_put qx (fun t e => (ayx t e).1)).1 hu
          exact (Yv_pure px).1 (Yv_defers.1 this)
        refine (wpR1_quiet qx).2 ⟨u, hu' w, ?_⟩
        have hw' : wantedR y.1.guard (a.put x.1.dst u) = true := by rw [wanted_put_of (fun t e => (looks_parts (axy t e).1).1)]; exact hw
        show wpR1 P noWay y K (a.put x.1.dst u) w
        unfold wpR1
        rw [if_pos hw', if_neg (by simp [qy'.1]), if_neg (by simp [qy'.2])]
        have he : execOp (a.put x.1.dst u).eval y.2 = execOp a.eval y.2 :=
          execOp_congr y.2 gy.sel (fun z hz => eval_put_of (fun t e => (looks_parts (axy t e).1).2.2 (by simp [qy'.1, qy'.2])) (by simpa using hz))
        refine ⟨fun e => by rw [he]; exact hnew e, ?_⟩
        unfold wpV at hh ⊢
        rw [he]
        have step : uponV P y.2 a (fun a' w' => K (a'.put x.1.dst u) w') noWay ((execOp a.eval y.2).run P w) := by
          generalize (execOp a.eval y.2).run P w = r at hh
          have fin : ∀ {b : Act} {w' : World}, (∃ ds v, b = { a with defers := ds }.put y.2.dst v) → (∃ u', Yv P x b w' u' ∧ K (b.put x.1.dst u') w') → K (b.put x.1.dst u) w' := by
            rintro b w' ⟨ds, v, rfl⟩ ⟨u', h1, h2⟩
            rw [← gl2] at h1
            have h3 := (Yv_put qx (fun t e => (ayx t e).1)).1 h1
            have h4 := Yv_defers.1 h3
            rw [Yv_fun (hu' w') h4]; exact h2
          cases r with
          | ok nx w' =>
            cases nx <;> simp only [uponV] at hh ⊢
            case value v => exact fin ⟨a.defers, v, rfl⟩ hh
            case skip => exact fin ⟨a.defers, undef, rfl⟩ hh
            case enter f args => exact Calls.mono hh (fun e w'' he => by cases e <;> first | exact fin ⟨a.defers, _, rfl⟩ he | exact he)
            case round l f tmps assign body => exact RoundIn.mono hh (fun e w'' he => by cases e <;> first | exact fin ⟨a.defers, _, rfl⟩ he | exact he)
          | halt z w' => cases z <;> simp only [uponV] at hh ⊢ <;> exact hh
        cases hxd : x.1.dst with
        | none => rw [hxd] at step; exact step
        | some d =>
          rw [hxd] at step
          exact upon_put (by rw [← gl2]; exact (axy d hxd).2) step
      · unfold wpR1 at hh
        rw [if_neg hw] at hh
        obtain ⟨u, hu, h2⟩ := (wpR1_quiet qx).1 hh
        refine (wpR1_quiet qx).2 ⟨u, (Yv_put qx (fun t e => (ayx t e).1)).1 hu, ?_⟩
        show wpR1 P noWay y K (a.put x.1.dst u) w
        unfold wpR1
        rw [if_neg (by rw [wanted_put_of (fun t e => (looks_parts (axy t e).1).1)]; exact hw), comm]
        exact h2
  · -- x acts, y is pure
    have qx' : (isPure x.1.op || isRead x.1.op) = false := by simpa using qx
    have pq : isPure y.1.op = true ∨ (isNew x.1.op = true ∧ isRead y.1.op = true) := by
      try simp only [Bool.or_eq_true, Bool.and_eq_true] at hc
      simp only [Bool.or_eq_false_iff] at qx'
      rcases hc with ((h | h) | h) | h
      · rw [qx'.1] at h; cases h
      · exact .inl h
      · rw [qx'.2] at h; cases h.1
      · exact .inr h
    have qy : (isPure y.1.op || isRead y.1.op) = true := by rcases pq with h | h <;> simp [h]
    simp only [Bool.or_eq_false_iff] at qx'
    obtain ⟨v, hv, h1⟩ := (wpR1_quiet qy).1 hh
    have hwe : wantedR x.1.guard (a.put y.1.dst v) = wantedR x.1.guard a := wanted_put_of (fun t e => (looks_parts (ayx t e).1).1)
    unfold wpR1 at h1 ⊢
    rw [hwe] at h1
    by_cases hw : wantedR x.1.guard a = true
    · rw [if_pos hw, if_neg (by simp [qx'.1]), if_neg (by simp [qx'.2])] at h1 ⊢
      obtain ⟨gl1, gl2, gl3, _⟩ := lowRO_spec gx.low
      obtain ⟨hnew, h1⟩ := h1
      unfold wpV at h1
      have he : execOp (a.put y.1.dst v).eval x.2 = execOp a.eval x.2 :=
        execOp_congr x.2 gx.sel (fun z hz => eval_put_of (fun t e => (looks_parts (ayx t e).1).2.2 (by simp [qx'.1, qx'.2])) (by simpa using hz))
      rw [he] at h1 hnew
      refine ⟨hnew, ?_⟩
      unfold wpV
      have step : uponV P x.2 a (fun a' w' => K (a'.put y.1.dst v) w') noWay ((execOp a.eval x.2).run P w) := by
        cases hyd : y.1.dst with
        | none => rw [hyd] at h1; exact h1
        | some d =>
          rw [hyd] at h1
          exact upon_put' (by rw [← gl2]; exact (ayx d hyd).2) h1
      have fin0 : ∀ {b : Act} {w' : World}, (∃ ds u, b = { a with defers := ds }.put x.2.dst u) → Yv P y a w' v → K (b.put y.1.dst v) w' → wpR1 P noWay y K b w' := by
        rintro b w' ⟨ds, u, rfl⟩ hv h2
        refine (wpR1_quiet qy).2 ⟨v, ?_, h2⟩
        rw [← gl2]
        exact (Yv_put qy (fun t e => (axy t e).1)).2 (Yv_defers.2 hv)
      rcases pq with py | ⟨nx, _⟩
      rotate_left
      · obtain ⟨u, w', hrun, hext⟩ := hnew nx
        rw [hrun] at step ⊢
        exact fin0 ⟨a.defers, u, rfl⟩ (Yv_ext hv hext) step
      have fin : ∀ {b : Act} {w' : World}, (∃ ds u, b = { a with defers := ds }.put x.2.dst u) → K (b.put y.1.dst v) w' → wpR1 P noWay y K b w' := fun hb h2 => fin0 hb ((Yv_pure py).1 hv) h2
      generalize (execOp a.eval x.2).run P w = r at step
      cases r with
      | ok nx w' =>
        cases nx <;> simp only [uponV] at step ⊢
        case value u => exact fin ⟨a.defers, u, rfl⟩ step
        case skip => exact fin ⟨a.defers, undef, rfl⟩ step
        case enter f args => exact Calls.mono step (fun e w'' he => by cases e <;> first | exact fin ⟨a.defers, _, rfl⟩ he | exact he)
        case round l f tmps assign body => exact RoundIn.mono step (fun e w'' he => by cases e <;> first | exact fin ⟨a.defers, _, rfl⟩ he | exact he)
      | halt z w' => cases z <;> simp only [uponV] at step ⊢ <;> exact step
    · rw [if_neg hw] at h1 ⊢
      refine (wpR1_quiet qy).2 ⟨v, (Yv_put qy (fun t e => (axy t e).1)).2 hv, ?_⟩
      rw [comm]; exact h1

theorem toFront {X : Nat → RO × Oper} {Q : Act → World → Prop} (i : Nat) (l2 : List Nat) (gi : Good P n ops (X i)) : ∀ (l1 : List Nat), (∀ j ∈ l1, Good P n ops (X j) ∧ indep (X i) (X j) = true) →
    ∀ {a w}, wpR P noWay Q ((l1 ++ i :: l2).map X) a w → wpR P noWay Q ((i :: (l1 ++ l2)).map X) a w := by
  intro l1
  induction l1 with
  | nil => intro _ a w h; exact h
  | cons j l1 ih =>
    intro hj a w h
    have h1 : wpR1 P noWay (X j) (wpR P noWay Q ((i :: (l1 ++ l2)).map X)) a w := wpR1_mono (fun a w h => ih (fun k hk => hj k (by simp [hk])) h) h
    obtain ⟨gj, hij⟩ := hj j (by simp)
    exact swap gi gj hij h1

/-- One order serves for another one in which whatever does not commute comes up alike. -/
theorem reorder {X : Nat → RO × Oper} {Q : Act → World → Prop} : ∀ (l o : List Nat), o.Perm l → l.Nodup → (∀ i ∈ l, Good P n ops (X i)) →
    o.Pairwise (fun x y => indep (X y) (X x) = true ∨ [x, y].Sublist l) → ∀ {a w}, wpR P noWay Q (o.map X) a w → wpR P noWay Q (l.map X) a w := by
  intro l
  induction l with
  | nil => intro o hp _ _ _ a w h; rw [List.perm_nil.1 hp] at h; exact h
  | cons i l ih =>
    intro o hp hn hg hpw a w h
    have hi : i ∈ o := hp.mem_iff.2 (by simp)
    obtain ⟨o1, o2, rfl⟩ := List.append_of_mem hi
    have hn' := List.nodup_cons.1 hn
    have hind : ∀ x ∈ o1, indep (X i) (X x) = true := by
      intro x hx
      have hx2 := (List.pairwise_append.1 hpw).2.2 x hx i (by simp)
      rcases hx2 with h | h
      · exact h
      · exfalso
        cases h with
        | cons _ h => exact hn'.1 (h.subset (by simp))
        | cons_cons _ h => exact hn'.1 (h.subset (by simp))
    have h1 := toFront i o2 (hg i (by simp)) o1 (fun x hx => ⟨hg x (hp.mem_iff.1 (by simp [hx])), hind x hx⟩) h
    have hp' : (o1 ++ o2).Perm l := by
      have := (List.perm_middle (a := i) (l₁ := o1) (l₂ := o2)).symm.trans hp
      exact List.Perm.cons_inv this
    refine wpR1_mono (fun a w h => ih (o1 ++ o2) hp' hn'.2 (fun j hj => hg j (by simp [hj])) ?_ h) h1
    have hsub : (o1 ++ o2).Sublist (o1 ++ i :: o2) := List.Sublist.append_left (List.sublist_cons_self i o2) o1
    have hpw' := hpw.sublist hsub
    refine hpw'.imp_of_mem (fun {x y} hx hy h => ?_)
    rcases h with h | h
    · exact .inl h
    · right
      have hxi : x ≠ i := by rintro rfl; exact hn'.1 (hp'.mem_iff.1 hx)
      cases h with
      | cons _ h => exact h
      | cons_cons _ h => exact absurd rfl hxi
end
end Go.V

/-
  The rules as they are used: one for each kind of operation; side conditions are met by themselves where they can be.
-/
import Derived.Test.YtmlnoodopoaafaaDoorV4
set_option linter.unusedSimpArgs false
set_option linter.unusedVariables false
namespace Go.V
open Go
inductive Tk : SH → List Atom → SH → Prop where
  | here {A : List Atom} {L : SH} : Tk (A :: L) A L
  | there {A B : List Atom} {L R : SH} : Tk L A R → Tk (B :: L) A (B :: R)
theorem perm_lead (A B X : List Atom) : (A ++ (B ++ X)).Perm (B ++ (A ++ X)) := by
  rw [← List.append_assoc, ← List.append_assoc]
  exact List.Perm.append_right _ List.perm_append_comm
theorem Tk.perm {L R : SH} {A : List Atom} (h : Tk L A R) : L.flatten.Perm (A ++ R.flatten) := by
  induction h with
  | here => simp
  | there _ ih =>
    simp only [List.flatten_cons]
    refine (List.Perm.append_left _ ih).trans ?_
    rw [← List.append_assoc, ← List.append_assoc]
    exact List.Perm.append_right _ List.perm_append_comm
theorem Spl.nil {H : SH} : Spl H [] H := by simp [Spl]
theorem Spl.cons {H R R' Pre : SH} {A : List Atom} (h : Tk H A R) (k : Spl R Pre R') : Spl H (A :: Pre) R' := by
  simp only [Spl, List.flatten_cons, List.append_assoc]
  exact h.perm.trans (List.Perm.append_left _ k)
theorem Imp.nil {H : SH} : Imp H [] := ⟨H, by simp [Spl]⟩
theorem Imp.cons {H R Δ : SH} {A : List Atom} (h : Tk H A R) (k : Imp R Δ) : Imp H (A :: Δ) := by
  obtain ⟨X, hX⟩ := k
  refine ⟨X, ?_⟩
  simp only [Spl, List.flatten_cons, List.append_assoc]
  exact h.perm.trans (List.Perm.append_left _ hX)
theorem Sub.nil {Γ : Env} : Sub Γ [] := fun t v h => by simp [look] at h
theorem Sub.cons {Γ Δ : Env} {t : Nat} {v : Value} (h : look Γ t = some v) (k : Sub Γ Δ) : Sub Γ ((t, v) :: Δ) := fun s u e => by
  simp only [look] at e
  split at e
  · rename_i es; subst es; cases e; exact h
  · exact k s u e
theorem Sub.refl {Γ : Env} : Sub Γ Γ := fun _ _ h => h
inductive Has : SH → Nat → Nat → Value → Prop where
  | cells {b o k : Nat} {vs : List Value} {v : Value} {L : SH} : o ≤ k → vs[k - o]? = some v → Has (cellsAt b o vs :: L) b k v
  | there {A : List Atom} {L : SH} {b k : Nat} {v : Value} : Has L b k v → Has (A :: L) b k v
  | among {A : List Atom} {L : SH} {b k : Nat} {v : Value} : Atom.cell b k v ∈ A → Has (A :: L) b k v
theorem Has.row {b o i : Nat} {xs sp : List Value} {v : Value} {L : SH} (h : xs[i]? = some v) : Has (cellsAt b o (xs ++ sp) :: L) b (o + i) v := by
  refine .cells (by omega) ?_
  rw [Nat.add_sub_cancel_left]
  have hi := (List.getElem?_eq_some_iff.1 h).1
  rw [List.getElem?_append_left hi, h]
theorem Has.mem {H : SH} {b k : Nat} {v : Value} (h : Has H b k v) : Atom.cell b k v ∈ H.flatten := by
  induction h with
  | cells h1 h2 =>
    simp only [List.flatten_cons, List.mem_append]
    left
    exact mem_cellsAt.2 ⟨_, _, h2, by congr 1; omega⟩
  | there _ ih => simp only [List.flatten_cons, List.mem_append]; exact .inr ih
  | among h => simp only [List.flatten_cons, List.mem_append]; exact .inl h
inductive HasN : SH → Nat → Nat → List Value → Prop where
  | cells {b o k n : Nat} {vs us : List Value} {L : SH} : o ≤ k → (vs.drop (k - o)).take us.length = us → us.length = n → HasN (cellsAt b o vs :: L) b k us
  | there {A : List Atom} {L : SH} {b k : Nat} {us : List Value} : HasN L b k us → HasN (A :: L) b k us
theorem HasN.mem {H : SH} {b k : Nat} {us : List Value} (h : HasN H b k us) : ∀ x ∈ cellsAt b k us, x ∈ H.flatten := by
  induction h with
  | cells h1 h2 _ =>
    intro x hx
    obtain ⟨i, v, hi, rfl⟩ := mem_cellsAt.1 hx
    simp only [List.flatten_cons, List.mem_append]
    left
    rw [← h2] at hi
    simp only [List.getElem?_take, List.getElem?_drop] at hi
    split at hi
    · exact mem_cellsAt.2 ⟨_, v, hi, by congr 1; omega⟩
    · cases hi
  | there _ ih => intro x hx; simp only [List.flatten_cons, List.mem_append]; exact .inr (ih x hx)
def evD (Γ : Env) (x : Operand) : Value := (ev Γ x).getD undef
def known (Γ : Env) (x : Operand) : Bool := (ev Γ x).isSome
theorem evD_of {Γ : Env} {x : Operand} {ρ : Operand → Value} (h : known Γ x = true) (hρ : ∀ x u, ev Γ x = some u → ρ x = u) : ρ x = evD Γ x := by
  obtain ⟨u, hu⟩ := Option.isSome_iff_exists.1 h
  simp [evD, hu, hρ _ _ hu]
def ptr (b o : Nat) : Value := .pointer (some ⟨b, o, none⟩)
section
variable {P : Program} {n : Nat} {rs : List RO} {Γ Δ : Env} {H : SH} {Z : List PanicEntry → Env → SH → Prop} {K : Env → SH → Prop} {d : Option Nat} {g : Option (Nat × Bool)}
theorem st_pure {r : R} {v : Value} (hp : isPure r = true) (hk : (rOps r).all (known Γ) = true) (hv : pureV (evD Γ) r = some v) (h : VO P n rs (putE d v Γ) H Z K) : VO P n (⟨d, none, r⟩ :: rs) Γ H Z K :=
  VO.pure hp (fun ρ hρ => by
    rw [← hv]
    exact pureV_congr hp (fun x hx => evD_of (List.all_eq_true.1 hk x hx) hρ)) h
theorem st_mv {x : Operand} {v : Value} (hx : ev Γ x = some v) (h : VO P n rs (putE d v Γ) H Z K) : VO P n (⟨d, none, .mv x⟩ :: rs) Γ H Z K :=
  VO.pure rfl (fun ρ hρ => by simp [pureV, hρ _ _ hx]) h
theorem st_fld {off : Nat} {x : Operand} {b o o' : Nat} (hx : ev Γ x = some (.pointer (some ⟨b, o, none⟩))) (ho : o + off = o') (h : VO P n rs (putE d (.pointer (some ⟨b, o', none⟩)) Γ) H Z K) : VO P n (⟨d, none, .fld off x⟩ :: rs) Γ H Z K :=
  VO.pure rfl (fun ρ hρ => by simp [pureV, hρ _ _ hx, ho]) h
theorem st_nil {x : Operand} {a : Addr} (hx : ev Γ x = some (.pointer (some a))) (h : VO P n rs (putE d (.pointer (some a)) Γ) H Z K) : VO P n (⟨d, none, .nilck x⟩ :: rs) Γ H Z K :=
  VO.pure rfl (fun ρ hρ => by simp [pureV, hρ _ _ hx]) h
theorem wrap64 {z : Int} (h : -9223372036854775808 ≤ z ∧ z ≤ 9223372036854775807) : IntKind.i64.wrap z = z := by
  simp only [IntKind.wrap, IntKind.bits, IntKind.signed]; simp; omega
theorem st_add {x y : Operand} {a b : Int} (hx : ev Γ x = some (.int .i64 a)) (hy : ev Γ y = some (.int .i64 b)) (hr : -9223372036854775808 ≤ a + b ∧ a + b ≤ 9223372036854775807) (h : VO P n rs (putE d (.int .i64 (a + b)) Γ) H Z K) :
    VO P n (⟨d, none, .bin .add x y⟩ :: rs) Γ H Z K :=
  VO.pure rfl (fun ρ hρ => by simp [pureV, hρ _ _ hx, hρ _ _ hy, binV, intV, wrap64 hr]) h
theorem st_sub {x y : Operand} {a b : Int} (hx : ev Γ x = some (.int .i64 a)) (hy : ev Γ y = some (.int .i64 b)) (hr : -9223372036854775808 ≤ a - b ∧ a - b ≤ 9223372036854775807) (h : VO P n rs (putE d (.int .i64 (a - b)) Γ) H Z K) :
    VO P n (⟨d, none, .bin .sub x y⟩ :: rs) Γ H Z K :=
  VO.pure rfl (fun ρ hρ => by simp [pureV, hρ _ _ hx, hρ _ _ hy, binV, intV, wrap64 hr]) h
theorem st_mul {x y : Operand} {a b : Int} (hx : ev Γ x = some (.int .i64 a)) (hy : ev Γ y = some (.int .i64 b)) (hr : -9223372036854775808 ≤ a * b ∧ a * b ≤ 9223372036854775807) (h : VO P n rs (putE d (.int .i64 (a * b)) Γ) H Z K) :
    VO P n (⟨d, none, .bin .mul x y⟩ :: rs) Γ H Z K :=
  VO.pure rfl (fun ρ hρ => by simp [pureV, hρ _ _ hx, hρ _ _ hy, binV, intV, wrap64 hr]) h
theorem st_rem {x y : Operand} {k : IntKind} {a b : Int} (hx : ev Γ x = some (.int k a)) (hy : ev Γ y = some (.int k b)) (hr : b ≠ 0) (h : VO P n rs (putE d (.int k (a.tmod b)) Γ) H Z K) :
    VO P n (⟨d, none, .bin .rem x y⟩ :: rs) Γ H Z K :=
  VO.pure rfl (fun ρ hρ => by simp [pureV, hρ _ _ hx, hρ _ _ hy, binV, intV, hr]) h
theorem st_conv {k k' : IntKind} {x : Operand} {a b : Int} (hx : ev Γ x = some (.int k' a)) (hr : k.wrap a = b) (h : VO P n rs (putE d (.int k b) Γ) H Z K) : VO P n (⟨d, none, .conv k x⟩ :: rs) Γ H Z K :=
  VO.pure rfl (fun ρ hρ => by simp [pureV, hρ _ _ hx, hr]) h
theorem st_idxL {size : Nat} {x i : Operand} {b o o' len cap : Nat} {k : IntKind} {m : Int} (hx : ev Γ x = some (.slice (some ⟨b, o, none⟩) len cap)) (hi : ev Γ i = some (.int k m)) (hb : 0 ≤ m ∧ m < len)
    (ho : o + m.toNat * size = o') (h : VO P n rs (putE d (.pointer (some ⟨b, o', none⟩)) Γ) H Z K) : VO P n (⟨d, none, .idxL size x i⟩ :: rs) Γ H Z K :=
  VO.pure rfl (fun ρ hρ => by simp [pureV, hρ _ _ hx, hρ _ _ hi, hb, ho]) h
theorem st_idxA {len size : Nat} {x i : Operand} {b o o' : Nat} {k : IntKind} {m : Int} (hx : ev Γ x = some (.pointer (some ⟨b, o, none⟩))) (hi : ev Γ i = some (.int k m)) (hb : 0 ≤ m ∧ m < len)
    (ho : o + m.toNat * size = o') (h : VO P n rs (putE d (.pointer (some ⟨b, o', none⟩)) Γ) H Z K) : VO P n (⟨d, none, .idxA len size x i⟩ :: rs) Γ H Z K :=
  VO.pure rfl (fun ρ hρ => by simp [pureV, hρ _ _ hx, hρ _ _ hi, hb, ho]) h
theorem st_pick_t {c a b : Operand} {v : Value} (hc : ev Γ c = some (.bool true)) (ha : ev Γ a = some v) (h : VO P n rs (putE d v Γ) H Z K) : VO P n (⟨d, none, .pick c a b⟩ :: rs) Γ H Z K :=
  VO.pure rfl (fun ρ hρ => by simp [pureV, hρ _ _ hc, hρ _ _ ha]) h
theorem st_pick_f {c a b : Operand} {v : Value} (hc : ev Γ c = some (.bool false)) (hb : ev Γ b = some v) (h : VO P n rs (putE d v Γ) H Z K) : VO P n (⟨d, none, .pick c a b⟩ :: rs) Γ H Z K :=
  VO.pure rfl (fun ρ hρ => by simp [pureV, hρ _ _ hc, hρ _ _ hb]) h
theorem st_case {s : Nat} {c : Bool} (hs : look Γ s = some (.bool c)) (ht : c = true → VO P n rs ((s, .bool true) :: Γ) H Z K) (hf : c = false → VO P n rs ((s, .bool false) :: Γ) H Z K) : VO P n rs Γ H Z K := by
  cases c with
  | true => exact VO.sub (Sub.cons hs Sub.refl) (ht rfl)
  | false => exact VO.sub (Sub.cons hs Sub.refl) (hf rfl)
theorem st_gt {r : R} {s : Nat} {b : Bool} (hs : look Γ s = some (.bool b)) (h : VO P n (⟨d, none, r⟩ :: rs) Γ H Z K) : VO P n (⟨d, some (s, b), r⟩ :: rs) Γ H Z K := by
  intro l hl a w F ZZ Q ha hsat hq hz
  obtain ⟨o, l', rfl, hl', ops, ho⟩ := low_cons hl
  obtain ⟨g1, g2, g3, g4⟩ := lowRO_spec ho
  have hw : wantedR (some (s, b)) a = true := by simp [wantedR, ha.slots _ _ hs]
  have := h ((⟨d, none, r⟩, { o with guard := none }) :: l') ⟨by simp [hl'.1], fun x hx => by
    rcases List.mem_cons.1 hx with rfl | hx
    · refine ⟨ops, ?_⟩
      have hd : o.dst.all (fun x => decide (x < n)) = true := by
        rw [← g2]
        cases hdd : d with
        | none => rfl
        | some t => have := g3 t hdd; simpa using this
      simp only at g2 g1
      simp [lowRO, g1, hd, g2]
    · exact hl'.2 x hx⟩ a w F ZZ Q ha hsat hq hz
  have hself : wpR1 P ZZ (⟨d, none, r⟩, { o with guard := none }) (wpR P ZZ Q l') a w := this
  show wpR1 P ZZ (⟨d, some (s, b), r⟩, o) (wpR P ZZ Q l') a w
  unfold wpR1 at hself ⊢
  rw [if_pos (show wantedR _ a = true from hw)]
  rw [if_pos (show wantedR none a = true from rfl)] at hself
  exact hself
theorem st_gf {r : R} {s : Nat} {b c : Bool} (hs : look Γ s = some (.bool c)) (hc : (c == b) = false) (h : VO P n rs (putE d undef Γ) H Z K) : VO P n (⟨d, some (s, b), r⟩ :: rs) Γ H Z K := by
  intro l hl a w F ZZ Q ha hsat hq hz
  obtain ⟨o, l', rfl, hl', ops, ho⟩ := low_cons hl
  obtain ⟨g1, g2, g3, g4⟩ := lowRO_spec ho
  have hw : wantedR (some (s, b)) a = false := by simpa [wantedR, ha.slots _ _ hs] using hc
  show wpR1 P ZZ (⟨d, some (s, b), r⟩, o) (wpR P ZZ Q l') a w
  unfold wpR1
  rw [if_neg (by simp [hw])]
  exact h l' hl' _ w F ZZ Q (ha.putE g3 undef) hsat (fun a2 w2 Γ2 H2 k1 k2 k3 k4 k5 => hq a2 w2 Γ2 H2 k1 k2 (k3.trans (put_defers ..)) k4 k5) (fun ch a2 w2 Γ2 H2 k1 k2 k3 k4 k5 => hz ch a2 w2 Γ2 H2 k1 k2 (k3.trans (put_defers ..)) k4 k5)
theorem st_load1 {x : Operand} {b o : Nat} {v : Value} (hx : ev Γ x = some (.pointer (some ⟨b, o, none⟩))) (hm : Has H b o v) (h : VO P n rs (putE d v Γ) H Z K) : VO P n (⟨d, none, .load1 x⟩ :: rs) Γ H Z K :=
  VO.read rfl rfl (fun ρ hρ => ⟨_, rfl, fun F w hs => by
    have := (hs.cell (List.mem_append_left F hm.mem)).1
    simp [hρ _ _ hx, Instr.sureAddr, this]⟩) h
theorem st_loadN {m : Nat} {x : Operand} {b o : Nat} {us : List Value} (hx : ev Γ x = some (.pointer (some ⟨b, o, none⟩))) (hm : HasN H b o us) (hn : us.length = m) (h : VO P n rs (putE d (.agg us.toArray) Γ) H Z K) : VO P n (⟨d, none, .loadN m x⟩ :: rs) Γ H Z K :=
  VO.read rfl rfl (fun ρ hρ => ⟨_, rfl, fun F w hs => by
    simp [hρ _ _ hx, Instr.sureAddr, run_loadCells hn hm.mem hs]⟩) h
inductive Upd : SH → Nat → Nat → List Value → SH → Prop where
  | cells {b o k : Nat} {vs us ws : List Value} {L : SH} : o ≤ k → k - o + us.length ≤ vs.length → vs.take (k - o) ++ us ++ vs.drop (k - o + us.length) = ws → Upd (cellsAt b o vs :: L) b k us (cellsAt b o ws :: L)
  | there {A : List Atom} {L L' : SH} {b k : Nat} {us : List Value} : Upd L b k us L' → Upd (A :: L) b k us (A :: L')
theorem Upd.split {H H' : SH} {b k : Nat} {us : List Value} (h : Upd H b k us H') : ∃ (old : List Value) (R : List Atom), old.length = us.length ∧ H.flatten.Perm (cellsAt b k old ++ R) ∧ H'.flatten.Perm (cellsAt b k us ++ R) := by
  induction h with
  | @cells b o k vs us ws L h1 h2 h3 =>
    subst h3
    have hvs : vs = vs.take (k - o) ++ ((vs.drop (k - o)).take us.length ++ vs.drop (k - o + us.length)) := by
      rw [← List.drop_drop, List.take_append_drop, List.take_append_drop]
    have hl : (vs.take (k - o)).length = k - o := by simp; omega
    have hl2 : ((vs.drop (k - o)).take us.length).length = us.length := by simp; omega
    have hk : o + (k - o) = k := by omega
    refine ⟨(vs.drop (k - o)).take us.length, cellsAt b o (vs.take (k - o)) ++ (cellsAt b (k + us.length) (vs.drop (k - o + us.length)) ++ L.flatten), hl2, ?_, ?_⟩
    · have e : cellsAt b o vs = cellsAt b o (vs.take (k - o)) ++ (cellsAt b k ((vs.drop (k - o)).take us.length) ++ cellsAt b (k + us.length) (vs.drop (k - o + us.length))) := by
        conv => lhs; rw [hvs]
        rw [cellsAt_append, hl, hk, cellsAt_append, hl2]
      simp only [List.flatten_cons, e, List.append_assoc]
      exact perm_lead _ _ _
    · simp only [List.flatten_cons, cellsAt_append, hl, hk, List.append_assoc]
      exact perm_lead _ _ _
  | @there A L L' b k us _ ih =>
    obtain ⟨old, R, h1, h2, h3⟩ := ih
    refine ⟨old, A ++ R, h1, ?_, ?_⟩
    · simp only [List.flatten_cons]
      refine (List.Perm.append_left A h2).trans ?_
      rw [← List.append_assoc, ← List.append_assoc]
      exact List.Perm.append_right _ List.perm_append_comm
    · simp only [List.flatten_cons]
      refine (List.Perm.append_left A h3).trans ?_
      rw [← List.append_assoc, ← List.append_assoc]
      exact List.Perm.append_right _ List.perm_append_comm
theorem st_store {m : Nat} {x y : Operand} {b o : Nat} {v : Value} {H' : SH} (hx : ev Γ x = some (.pointer (some ⟨b, o, none⟩))) (hy : ev Γ y = some v) (hn : v.cells.size = m) (hone : v.cells.toList.all oneCell = true)
    (hu : Upd H b o v.cells.toList H') (h : VO P n rs (putE d undef Γ) H' Z K) : VO P n (⟨d, none, .store m x y⟩ :: rs) Γ H Z K := by
  refine VO.act rfl rfl (fun ρ hρ => ⟨_, rfl, ?_⟩)
  obtain ⟨old, R, h1, h2, h3⟩ := hu.split
  refine SWP.perm h2 ?_
  have hρy : ρ y = v := hρ _ _ hy
  have := mem_store (P := P) (ρ := ρ) (n := m) (x := x) (v := y) (us := old) (R := R) (b := b) (o := o) (K := fun nx L => ∃ v H', (nx = .value v ∨ (nx = .skip ∧ v = undef)) ∧ L.Perm H'.flatten ∧ VO P n rs (putE d v Γ) H' Z K)
    (hρ _ _ hx) (by rw [hρy]; exact hn) (by rw [h1]; simpa using hn) (by rw [hρy]; exact List.all_eq_true.1 hone) ⟨undef, H', .inr ⟨rfl, rfl⟩, by rw [hρy]; exact h3.symm, h⟩
  exact this
theorem st_store' {m : Nat} {x y : Operand} {b o : Nat} {v : Value} {us : List Value} {H' : SH} (hx : ev Γ x = some (.pointer (some ⟨b, o, none⟩))) (hy : ev Γ y = some v) (hv : v.cells.toList = us) (hn : us.length = m) (hone : us.all oneCell = true)
    (hu : Upd H b o us H') (h : VO P n rs (putE d undef Γ) H' Z K) : VO P n (⟨d, none, .store m x y⟩ :: rs) Γ H Z K := by
  subst hv
  exact st_store hx hy (by simpa using hn) hone hu h
theorem st_build {z : List Value} {ps : List (Nat × Nat × Operand)} {out : List Value} (hk : (ps.map (·.2.2)).all (known Γ) = true) (ho : putParts z (evParts (evD Γ) ps) = some out)
    (h : VO P n rs (putE d (.agg out.toArray) Γ) H Z K) : VO P n (⟨d, none, .build z ps⟩ :: rs) Γ H Z K := by
  refine VO.pure rfl (fun ρ hρ => ?_) h
  have : evParts ρ ps = evParts (evD Γ) ps := by
    simp only [evParts]
    refine List.map_congr_left (fun p hp => ?_)
    obtain ⟨a, b, c⟩ := p
    have hc := List.all_eq_true.1 hk c (List.mem_map.2 ⟨_, hp, rfl⟩)
    simp [evD_of hc hρ]
  simp [pureV, this, ho]
theorem st_box {t : TypeId} {x : Operand} {v : Value} (hx : ev Γ x = some v) (h : ∀ b, VO P n rs (putE d (.pointer (some ⟨b, 0, none⟩)) Γ) (cellsAt b 0 v.cells.toList :: H) Z K) : VO P n (⟨d, none, .box t x⟩ :: rs) Γ H Z K := by
  refine VO.act rfl rfl (fun ρ hρ => ⟨_, rfl, ?_⟩)
  refine mem_new (fun b => ⟨_, _, .inl rfl, ?_, h b⟩)
  rw [hρ _ _ hx]; simp
theorem st_alloc {t : TypeId} {z : List Value} (h : ∀ b, VO P n rs (putE d (.pointer (some ⟨b, 0, none⟩)) Γ) (cellsAt b 0 z :: H) Z K) : VO P n (⟨d, none, .alloc t z⟩ :: rs) Γ H Z K := by
  refine VO.act rfl rfl (fun ρ hρ => ⟨_, rfl, ?_⟩)
  refine mem_new (fun b => ⟨_, _, .inl rfl, ?_, h b⟩)
  simp
theorem st_mkmap (h : ∀ b, VO P n rs (putE d (.map (some b)) Γ) ([.obj b (.map #[] 0)] :: H) Z K) : VO P n (⟨d, none, .mkmap⟩ :: rs) Γ H Z K := by
  refine VO.act rfl rfl (fun ρ hρ => ⟨_, rfl, ?_⟩)
  refine mem_newObj rfl (fun b => ⟨_, _, .inl rfl, ?_, h b⟩)
  simp
theorem st_mkslice {t : TypeId} {size bytes : Nat} {z : List Value} {l c : Operand} {kl kc : IntKind} {li ci : Int} (hl : ev Γ l = some (.int kl li)) (hc : ev Γ c = some (.int kc ci)) (hb : 0 ≤ li ∧ li ≤ ci ∧ ci ≤ 9223372036854775807 ∧ bytes * ci ≤ 2 ^ 48)
    (hz : z.length = size) (h : ∀ b, VO P n rs (putE d (.slice (some ⟨b, 0, none⟩) li.toNat ci.toNat) Γ) (cellsAt b 0 (zeroRow ci.toNat z) :: H) Z K) : VO P n (⟨d, none, .mkslice t size bytes z l c⟩ :: rs) Γ H Z K := by
  refine VO.act rfl rfl (fun ρ hρ => ⟨_, rfl, ?_⟩)
  rw [hρ _ _ hl, hρ _ _ hc]
  simp only [hb, hz, and_self, if_true]
  refine mem_new (fun b => ⟨_, _, .inl rfl, ?_, h b⟩)
  simp
theorem st_bslice {t : TypeId} {len : Nat} {z : List Value} {ps : List (Nat × Nat × Operand)} {out : List Value} (hk : (ps.map (·.2.2)).all (known Γ) = true) (ho : putParts (zeroRow len z) (evParts (evD Γ) ps) = some out)
    (h : ∀ b, VO P n rs (putE d (.slice (some ⟨b, 0, none⟩) len len) Γ) (cellsAt b 0 out :: H) Z K) : VO P n (⟨d, none, .bslice t len z ps⟩ :: rs) Γ H Z K := by
  refine VO.act rfl rfl (fun ρ hρ => ⟨_, rfl, ?_⟩)
  have : evParts ρ ps = evParts (evD Γ) ps := by
    simp only [evParts]
    refine List.map_congr_left (fun p hp => ?_)
    obtain ⟨a, b, c⟩ := p
    have hc := List.all_eq_true.1 hk c (List.mem_map.2 ⟨_, hp, rfl⟩)
    simp [evD_of hc hρ]
  rw [this, ho]
  refine mem_new (fun b => ⟨_, _, .inl rfl, ?_, h b⟩)
  simp
theorem st_call {f : Nat} {xs : List Operand} {args : List Value} {Pre R : SH} {Q : Value → SH → Prop} (hf : Fun P f args Pre Q) (he : evs Γ xs = some args) (hs : Spl H Pre R)
    (h : ∀ v Post, Q v Post → VO P n rs (putE d v Γ) (Post ++ R) Z K) : VO P n (⟨d, none, .call f xs⟩ :: rs) Γ H Z K := VO.call hf he hs h
variable {Q : Exit → Env → SH → Prop} {keep : List Nat}
theorem VC.draw1 (h : VO P n rs Γ H (fun _ _ _ => False) fun Γ' H' => Q .normal (restr keep Γ') H') : VC P n (.draw [rs] keep) Γ H Q := VC.draw (by simpa using h)
theorem VC.draw2 {rs2 : List RO} (h : VO P n rs Γ H (fun _ _ _ => False) fun Γ' H' => Q .normal (restr keep Γ') H') (h2 : VO P n rs2 Γ H (fun _ _ _ => False) fun Γ' H' => Q .normal (restr keep Γ') H') : VC P n (.draw [rs, rs2] keep) Γ H Q := VC.draw (by simpa using ⟨h, h2⟩)
theorem VC.seq_reg {y : IC} (h : VO P n rs Γ H (fun ch Γ' H' => Q (.panic ch) Γ' H') fun Γ' H' => VC P n y (restr keep Γ') H' Q) : VC P n (.seq (.reg rs keep) y) Γ H Q := VC.seq (VC.reg h)
theorem VC.seq_draw1 {y : IC} (h : VO P n rs Γ H (fun _ _ _ => False) fun Γ' H' => VC P n y (restr keep Γ') H' Q) : VC P n (.seq (.draw [rs] keep) y) Γ H Q := VC.seq (VC.draw1 h)
theorem VC.seq_seq {x y z : IC} (h : VC P n (.seq x y) Γ H (thenQ (fun Γ' H' => VC P n z Γ' H' Q) Q)) : VC P n (.seq (.seq x y) z) Γ H Q := VC.seq h
theorem VC.seq_block {id : Nat} {x z : IC} (h : VC P n x Γ H (blockQ id (thenQ (fun Γ' H' => VC P n z Γ' H' Q) Q))) : VC P n (.seq (.block id x) z) Γ H Q := VC.seq (VC.block h)
theorem VC.seq_skip {y : IC} (h : VC P n y Γ H Q) : VC P n (.seq .skip y) Γ H Q := VC.seq (VC.skip h)
theorem VC.cond_t {c : Operand} {x y : IC} (hc : ev Γ c = some (.bool true)) (h : VC P n x Γ H Q) : VC P n (.cond c x y) Γ H Q := VC.cond hc (fun _ => h) (fun e => by cases e)
theorem VC.cond_f {c : Operand} {x y : IC} (hc : ev Γ c = some (.bool false)) (h : VC P n y Γ H Q) : VC P n (.cond c x y) Γ H Q := VC.cond hc (fun e => by cases e) (fun _ => h)
theorem VC.seq_cond {c : Operand} {x y z : IC} {t : Bool} (hc : ev Γ c = some (.bool t)) (ht : t = true → VC P n x Γ H (thenQ (fun Γ' H' => VC P n z Γ' H' Q) Q)) (hf : t = false → VC P n y Γ H (thenQ (fun Γ' H' => VC P n z Γ' H' Q) Q)) :
    VC P n (.seq (.cond c x y) z) Γ H Q := VC.seq (VC.cond hc ht hf)
end
theorem lnb : (∀ cs : List Value, putParts cs [] = some cs) ∧
    (∀ (cs : List Value) (o s : Nat) (v : Value) (r : List (Nat × Nat × Value)), putParts cs ((o, s, v) :: r) = if v.cells.size = s ∧ o + s ≤ cs.length then putParts (cs.take o ++ v.cells.toList ++ cs.drop (o + s)) r else none) ∧
    (∀ ρ : Operand → Value, evParts ρ [] = []) ∧ (∀ (ρ : Operand → Value) (o s : Nat) (x : Operand) (r : List (Nat × Nat × Operand)), evParts ρ ((o, s, x) :: r) = (o, s, ρ x) :: evParts ρ r) ∧
    (∀ (Γ : Env) (x : Operand), evD Γ x = (ev Γ x).getD undef) ∧ (∀ (Γ : Env) (t : Nat), ev Γ (.tmp t) = look Γ t) ∧ (∀ (Γ : Env) (v : Value), ev Γ (.const v) = some v) ∧
    (∀ (Γ : Env) (g : Nat), ev Γ (.global g) = some (.pointer (some ⟨g, 0, none⟩))) ∧ (∀ (Γ : Env) (f : Nat), ev Γ (.func f) = some (.func (.func f) #[] #[])) ∧
    (∀ (s t : Nat) (v : Value) (r : Env), look ((s, v) :: r) t = if s = t then some v else look r t) ∧ (∀ (d : Nat) (v : Value) (Γ : Env), putE (some d) v Γ = (d, v) :: Γ) ∧ (∀ (v : Value) (Γ : Env), putE none v Γ = Γ) ∧
    (∀ v d : Value, (some v).getD d = v) ∧ (∀ l : List Value, l.toArray.size = l.length) ∧ (∀ l : List Value, l.toArray.toList = l) ∧ (∀ (a : Value) (l : List Value), (a :: l).length = l.length + 1) ∧ (([] : List Value).length = 0) ∧
    (∀ (a : Value) (l : List Value) (n : Nat), (a :: l).take (n + 1) = a :: l.take n) ∧ (∀ l : List Value, l.take 0 = []) ∧ (∀ (a : Value) (l : List Value) (n : Nat), (a :: l).drop (n + 1) = l.drop n) ∧ (∀ l : List Value, l.drop 0 = l) ∧
    (∀ (a : Value) (l m : List Value), a :: l ++ m = a :: (l ++ m)) ∧ (∀ l : List Value, [] ++ l = l) ∧ (∀ l : List Value, l ++ [] = l) :=
  ⟨fun _ => rfl, fun _ _ _ _ _ => rfl, fun _ => rfl, fun _ _ _ _ _ => rfl, fun _ _ => rfl, fun _ _ => rfl, fun _ _ => rfl, fun _ _ => rfl, fun _ _ => rfl, fun _ _ _ _ => rfl, fun _ _ _ => rfl, fun _ _ => rfl, fun _ _ => rfl, fun _ => List.size_toArray, fun _ => rfl,
    fun _ _ => rfl, rfl, fun _ _ _ => rfl, fun _ => rfl, fun _ _ _ => rfl, fun _ => rfl, fun _ _ _ => rfl, fun _ => rfl, fun _ => List.append_nil _⟩
def mget {κ β : Type} [DecidableEq κ] (k : κ) : List (κ × β) → Option β
  | [] => none
  | (a, v) :: r => if a = k then some v else mget k r
def mset {κ β : Type} [DecidableEq κ] (k : κ) (v : β) : List (κ × β) → List (κ × β)
  | [] => [(k, v)]
  | (a, u) :: r => if a = k then (a, v) :: r else (a, u) :: mset k v r
def mdel {κ β : Type} [DecidableEq κ] (k : κ) : List (κ × β) → List (κ × β)
  | [] => []
  | (a, u) :: r => if a = k then r else (a, u) :: mdel k r
structure KEnc (κ : Type) [DecidableEq κ] where
  sk : SK
  enc : κ → Value
  same : ∀ a b, sameK sk (enc a) (enc b) = some (decide (a = b))
def kStr : KEnc ByteArray := ⟨.str, .string, fun _ _ => rfl⟩
def lookV (ok : Bool) (zero : Value) : Option Value → Value
  | some v => if ok then .tuple #[v, .bool true] else v
  | none => if ok then .tuple #[zero, .bool false] else zero
section
variable {κ β : Type} [DecidableEq κ] {E : KEnc κ} {V : β → Value}
def MapOf (E : KEnc κ) (V : β → Value) (es : List MapEntry) (m : List (κ × β)) : Prop := es.map (fun e => (e.key, e.val)) = m.map fun p => (E.enc p.1, V p.2)
structure MapIs (E : KEnc κ) (V : β → Value) (es : Array MapEntry) (c : Nat) (m : List (κ × β)) : Prop where
  of : MapOf E V es.toList m
  born : es.toList.Pairwise fun a b => a.born < b.born
  clock : ∀ e ∈ es.toList, e.born < c
theorem MapIs.nil : MapIs E V #[] 0 [] := ⟨rfl, .nil, by simp⟩
theorem find_of {k : κ} : ∀ {es : List MapEntry} {m : List (κ × β)} {i : Nat}, MapOf E V es m →
    ∃ r, findK E.sk (E.enc k) es i = some r ∧ r.map (·.2) = (mget k m).map V ∧ ∀ j v, r = some (j, v) → i ≤ j ∧ j - i < es.length ∧ ∃ e, es[j - i]? = some e ∧ e.key = E.enc k ∧
      (∀ e' u, e'.val = V u → (MapOf E V (es.set (j - i) e') (mset k u m) ↔ e'.key = E.enc k)) ∧ MapOf E V (es.eraseIdx (j - i)) (mdel k m) := by
  intro es
  induction es with
  | nil =>
    intro m i h
    cases m with
    | nil => exact ⟨none, rfl, rfl, fun _ _ h => by cases h⟩
    | cons p m => simp [MapOf] at h
  | cons e es ih =>
    intro m i h
    cases m with
    | nil => simp [MapOf] at h
    | cons p m =>
      obtain ⟨a, u⟩ := p
      simp only [MapOf, List.map_cons, List.cons.injEq, Prod.mk.injEq] at h
      obtain ⟨⟨h1, h2⟩, h3⟩ := h
      simp only [findK, h1, E.same, h2]
      by_cases ek : k = a
      · subst ek
        refine ⟨some (i, V u), by simp, by simp [mget], fun j v hj => ?_⟩
        cases hj
        refine ⟨Nat.le_refl _, by simp, e, by simp, h1, fun e' u' he' => ?_, ?_⟩
        · simp only [Nat.sub_self, List.set_cons_zero, mset, if_true, MapOf, List.map_cons, List.cons.injEq, Prod.mk.injEq, he', and_true]
          exact ⟨fun h => h.1, fun h => ⟨h, h3⟩⟩
        · simpa [mdel, MapOf] using h3
      · obtain ⟨r, f1, f2, f3⟩ := ih (m := m) (i := i + 1) h3
        have ea : ¬ a = k := fun e => ek e.symm
        refine ⟨r, by simp [ek, f1], by simp [mget, ea, f2], fun j v hj => ?_⟩
        obtain ⟨g1, g2, x, g3, g4, g5, g6⟩ := f3 j v hj
        have hji : j - i = (j - (i + 1)) + 1 := by omega
        refine ⟨by omega, by simp; omega, x, by rw [hji]; simpa using g3, g4, fun e' u' he' => ?_, ?_⟩
        · rw [hji]
          simp only [List.set_cons_succ, mset, ea, if_false, MapOf, List.map_cons, List.cons.injEq, h1, h2, true_and]
          exact g5 e' u' he'
        · rw [hji]
          simp only [List.eraseIdx_cons_succ, mdel, ea, if_false, MapOf, List.map_cons, List.cons.injEq, h1, h2, true_and]
          exact g6
theorem mget_none_mset {k : κ} {v : β} : ∀ {m : List (κ × β)}, mget k m = none → mset k v m = m ++ [(k, v)] := by
  intro m
  induction m with
  | nil => intro _; rfl
  | cons p m ih =>
    obtain ⟨a, u⟩ := p
    intro h
    simp only [mget] at h
    split at h
    · cases h
    · rename_i hn; simp [mset, hn, ih h]
theorem MapIs.modify {es : Array MapEntry} {c : Nat} {m : List (κ × β)} (h : MapIs E V es c m) {k : κ} {j : Nat} {u key : Value} {v : β} (hf : findK E.sk (E.enc k) es.toList 0 = some (some (j, u))) (hk : key = E.enc k) :
    MapIs E V (es.modify j fun e => { e with key, val := V v }) c (mset k v m) := by
  subst hk
  obtain ⟨r, f1, f2, f3⟩ := find_of (k := k) (i := 0) h.of
  rw [hf] at f1; cases f1
  obtain ⟨_, g2, e, g3, g4, g5, _⟩ := f3 j u rfl
  simp only [Nat.sub_zero] at g2 g3 g5
  have hl : (es.modify j fun e => { e with key := E.enc k, val := V v }).toList = es.toList.set j { e with key := E.enc k, val := V v } := by
    apply List.ext_getElem?
    intro i
    rw [Array.getElem?_toList, Array.getElem?_modify, List.getElem?_set]
    by_cases hi : j = i
    · subst hi
      have : es[j]? = some e := by simpa using g3
      have g2' : j < es.size := by simpa using g2
      have ge : es[j] = e := by rw [Array.getElem?_eq_getElem g2'] at this; exact Option.some.inj this
      simp [g2', ge]
    · simp [hi]
  have hborn : (es.toList.set j { e with key := E.enc k, val := V v }).map (·.born) = es.toList.map (·.born) := by
    apply List.ext_getElem?
    intro i
    simp only [List.getElem?_map, List.getElem?_set]
    by_cases hi : j = i
    · subst hi
      have g2' : j < es.size := by simpa using g2
      have : es[j]? = some e := by simpa using g3
      have ge : es[j] = e := by rw [Array.getElem?_eq_getElem g2'] at this; exact Option.some.inj this
      simp [g2', ge]
    · simp [hi]
  refine ⟨?_, ?_, ?_⟩
  · rw [hl]; exact (g5 { e with key := E.enc k, val := V v } v rfl).2 rfl
  · rw [hl]
    have hp := h.born
    have e1 : ∀ l : List MapEntry, l.Pairwise (fun a b => a.born < b.born) ↔ (l.map MapEntry.born).Pairwise (· < ·) := fun l => List.pairwise_map.symm
    rw [e1] at hp ⊢
    have hb2 : (es.toList.set j { e with key := E.enc k, val := V v }).map MapEntry.born = es.toList.map MapEntry.born := hborn
    rw [hb2]; exact hp
  · rw [hl]
    intro x hx
    have : x.born ∈ (es.toList.set j { e with key := E.enc k, val := V v }).map (·.born) := List.mem_map.2 ⟨x, hx, rfl⟩
    rw [hborn] at this
    obtain ⟨y, hy, hyb⟩ := List.mem_map.1 this
    rw [← hyb]; exact h.clock y hy
theorem MapIs.push {es : Array MapEntry} {c : Nat} {m : List (κ × β)} (h : MapIs E V es c m) {k : κ} {v : β} (hn : mget k m = none) :
    MapIs E V (es.push { key := E.enc k, val := V v, born := c }) (c + 1) (mset k v m) := by
  refine ⟨?_, ?_, ?_⟩
  · rw [mget_none_mset hn]
    have := h.of
    simp only [MapOf] at this ⊢
    simp [this]
  · rw [Array.toList_push, List.pairwise_append]
    refine ⟨h.born, by simp, fun a ha b hb => ?_⟩
    rw [List.mem_singleton.1 hb]; exact h.clock a ha
  · intro e he
    rw [Array.toList_push, List.mem_append] at he
    rcases he with he | he
    · exact Nat.lt_succ_of_lt (h.clock e he)
    · rw [List.mem_singleton.1 he]; exact Nat.lt_succ_self c
theorem MapIs.erase {es : Array MapEntry} {c : Nat} {m : List (κ × β)} (h : MapIs E V es c m) {k : κ} {j : Nat} {u : Value} (hf : findK E.sk (E.enc k) es.toList 0 = some (some (j, u))) :
    MapIs E V (es.eraseIdxIfInBounds j) c (mdel k m) := by
  obtain ⟨r, f1, f2, f3⟩ := find_of (k := k) (i := 0) h.of
  rw [hf] at f1; cases f1
  obtain ⟨_, g2, e, g3, g4, _, g6⟩ := f3 j u rfl
  simp only [Nat.sub_zero] at g2 g6
  have hl : (es.eraseIdxIfInBounds j).toList = es.toList.eraseIdx j := by
    have : j < es.size := by simpa using g2
    simp [Array.eraseIdxIfInBounds, this]
  refine ⟨?_, ?_, ?_⟩
  · rw [hl]; exact g6
  · rw [hl]; exact h.born.sublist (List.eraseIdx_sublist _ _)
  · rw [hl]; intro x hx; exact h.clock x ((List.eraseIdx_sublist _ _).subset hx)
variable {P : Program} {n : Nat} {rs : List RO} {Γ : Env} {H : SH} {Z : List PanicEntry → Env → SH → Prop} {K : Env → SH → Prop} {d : Option Nat}
inductive HasO : SH → Nat → Obj → Prop where
  | here {b : Nat} {o : Obj} {L : SH} : HasO ([.obj b o] :: L) b o
  | there {A : List Atom} {L : SH} {b : Nat} {o : Obj} : HasO L b o → HasO (A :: L) b o
  | among {A : List Atom} {L : SH} {b : Nat} {o : Obj} : Atom.obj b o ∈ A → HasO (A :: L) b o
theorem HasO.mem {b : Nat} {o : Obj} (h : HasO H b o) : Atom.obj b o ∈ H.flatten := by
  induction h with
  | here => simp
  | there _ ih => simp only [List.flatten_cons, List.mem_append]; exact .inr ih
  | among h => simp only [List.flatten_cons, List.mem_append]; exact .inl h
theorem run_getObj_of {b : Nat} {o : Obj} {L F : List Atom} {w : World} (hm : Atom.obj b o ∈ L) (hs : Sat w (L ++ F)) : (getObj b).run P w = .ok o w := by
  obtain ⟨h1, h2⟩ := hs.obj (List.mem_append_left F hm)
  cases o <;> simp_all [Go.getObj, Sem.run, isCells]
theorem st_lookup {sk : SK} {zero : Value} {ok : Bool} {m x : Operand} {b c : Nat} {es : Array MapEntry} {k : κ} {l : List (κ × β)} (hm : ev Γ m = some (.map (some b))) (hx : ev Γ x = some (E.enc k)) (he : sk = E.sk)
    (ho : HasO H b (.map es c)) (hl : MapIs E V es c l) (h : VO P n rs (putE d (lookV ok zero ((mget k l).map V)) Γ) H Z K) : VO P n (⟨d, none, .lookup sk zero ok m x⟩ :: rs) Γ H Z K := by
  subst he
  refine VO.read rfl rfl (fun ρ hρ => ⟨_, rfl, fun F w hs => ?_⟩) h
  obtain ⟨r, f1, f2, _⟩ := find_of (k := k) (i := 0) hl.of
  have hg := run_getObj_of (P := P) ho.mem hs
  rw [hρ _ _ hm, hρ _ _ hx]
  simp only [entriesOf, Sem.run_bind, hg, Result.andThen_ok, Sem.run_pure, f1]
  rw [← f2]
  cases r with
  | none => rfl
  | some p => rfl
theorem st_mlen {m : Operand} {b c : Nat} {es : Array MapEntry} {l : List (κ × β)} (hm : ev Γ m = some (.map (some b))) (ho : HasO H b (.map es c)) (hl : MapIs E V es c l)
    (h : VO P n rs (putE d (.int .i64 l.length) Γ) H Z K) : VO P n (⟨d, none, .mlen m⟩ :: rs) Γ H Z K := by
  refine VO.read rfl rfl (fun ρ hρ => ⟨_, rfl, fun F w hs => ?_⟩) h
  have hg := run_getObj_of (P := P) ho.mem hs
  rw [hρ _ _ hm]
  have : es.size = l.length := by
    have := congrArg List.length hl.of
    simpa using this
  simp [entriesOf, hg, this]
theorem st_mapupd {sk : SK} {m x y : Operand} {b c : Nat} {es : Array MapEntry} {k : κ} {v : β} {l : List (κ × β)} {R : SH} (hm : ev Γ m = some (.map (some b))) (hx : ev Γ x = some (E.enc k)) (hy : ev Γ y = some (V v)) (he : sk = E.sk)
    (ht : Tk H [.obj b (.map es c)] R) (hl : MapIs E V es c l) (h : ∀ es' c', MapIs E V es' c' (mset k v l) → VO P n rs (putE d undef Γ) ([.obj b (.map es' c')] :: R) Z K) : VO P n (⟨d, none, .mapupd sk m x y⟩ :: rs) Γ H Z K := by
  subst he
  refine VO.act rfl rfl (fun ρ hρ => ⟨_, rfl, ?_⟩)
  rw [hρ _ _ hm, hρ _ _ hx, hρ _ _ hy]
  refine SWP.perm ht.perm ?_
  refine swp_entries (m := b) (c := c) (es := es) (by simp) ?_
  obtain ⟨r, f1, f2, f3⟩ := find_of (k := k) (i := 0) hl.of
  simp only [f1]
  cases r with
  | none =>
    refine SWP.bind (SWP.setObj rfl (SWP.pure ⟨undef, _, .inr ⟨rfl, rfl⟩, ?_, h _ _ (hl.push (by simpa using f2.symm))⟩))
    simp
  | some p =>
    obtain ⟨j, u⟩ := p
    obtain ⟨_, g2, e, g3, g4, _⟩ := f3 j u rfl
    simp only [Nat.sub_zero] at g3
    have hkey : ((es[j]?).map (·.key)).getD (E.enc k) = E.enc k := by
      have : es[j]? = some e := by simpa using g3
      simp [this, g4]
    refine SWP.bind (swp_key _ _ (fun kk hkk => ?_))
    have hkk' : kk = E.enc k := by rcases hkk with h | h; rw [h, hkey]; exact h
    refine SWP.bind (SWP.setObj rfl (SWP.pure ⟨undef, _, .inr ⟨rfl, rfl⟩, ?_, h _ _ (hl.modify f1 hkk')⟩))
    simp
end
inductive IsSl (size : Nat) : Value → Nat → List Value → List Value → Prop where
  | mk {b o n c : Nat} {xs sp : List Value} : xs.length = n * size → xs.length + sp.length = c * size → n ≤ c → IsSl size (.slice (some ⟨b, o, none⟩) n c) n xs sp
  | nil : IsSl size (.slice none 0 0) 0 [] []
def slA : Value → List Value → List Value → List Atom
  | .slice (some ⟨b, o, none⟩) _ _, xs, sp => cellsAt b o (xs ++ sp)
  | _, _, _ => []
theorem IsSl.len {size n : Nat} {v : Value} {xs sp : List Value} (h : IsSl size v n xs sp) : xs.length = n * size := by
  cases h with
  | mk h1 _ _ => exact h1
  | nil => simp
theorem IsSl.some {size n : Nat} {v : Value} {xs sp : List Value} (h : IsSl size v n xs sp) (hn : 0 < n) : ∃ b o c, v = .slice (some ⟨b, o, none⟩) n c ∧ n ≤ c ∧ xs.length + sp.length = c * size := by
  cases h with
  | mk h1 h2 h3 => exact ⟨_, _, _, rfl, h3, h2⟩
  | nil => omega
theorem IsSl.form {size n : Nat} {v : Value} {xs sp : List Value} (h : IsSl size v n xs sp) : ∃ a c, v = .slice a n c := by
  cases h with
  | mk h1 h2 h3 => exact ⟨_, _, rfl⟩
  | nil => exact ⟨_, _, rfl⟩
theorem growBy_le (need : Nat) : ∀ (r c : Nat), c ≤ 2 * need + 192 → Builtin.growBy need r c ≤ 2 * need + 192 := by
  intro r
  induction r with
  | zero => intro c h; exact h
  | succ r ih =>
    intro c h
    simp only [Builtin.growBy]
    split
    · exact h
    · exact ih _ (by omega)
theorem nextcap_le {need c : Nat} (h : c < need) : Builtin.nextslicecap need c ≤ 2 * need + 192 := by
  unfold Builtin.nextslicecap
  split
  · omega
  · split
    · omega
    · exact growBy_le need 4 c (by omega)
theorem Src.mono {H H' : List Atom} {size n : Nat} {vs : List Value} {v : Value} (hs : ∀ x ∈ H, x ∈ H') (h : Src H size n vs v) : Src H' size n vs v := by
  unfold Src at *
  split at h
  · exact ⟨h.1, fun x hx => hs x (h.2 x hx)⟩
  · exact h
  · exact h
  · exact h.elim
theorem zeroRow_length (n : Nat) (z : List Value) : (zeroRow n z).length = n * z.length := by simp [zeroRow]
section
variable {P : Program} {n : Nat} {rs : List RO} {Γ : Env} {H : SH} {Z : List PanicEntry → Env → SH → Prop} {K : Env → SH → Prop} {d : Option Nat}
theorem st_append {t : TypeId} {size bytes : Nat} {zero : List Value} {s x : Operand} {sv xv : Value} {k m : Nat} {xs sp ys : List Value} {R : SH} (hs : ev Γ s = some sv) (hx : ev Γ x = some xv) (hsl : IsSl size sv k xs sp)
    (ht : Tk H (slA sv xs sp) R) (hm : seqLen xv = some m) (hsrc : Src R.flatten size m ys xv) (hlen : ys.length = m * size) (hone : ys.all oneCell = true) (hz : zero.length = size) (hb : bytes ≠ 0) (hroom : (2 * (k + m) + 192) * bytes ≤ 2 ^ 48)
    (h : ∀ sv' sp', IsSl size sv' (k + m) (xs ++ ys) sp' → VO P n rs (putE d sv' Γ) (slA sv' (xs ++ ys) sp' :: R) Z K) : VO P n (⟨d, none, .append t size bytes zero s x⟩ :: rs) Γ H Z K := by
  refine VO.act' rfl rfl (fun ρ hρ => ⟨_, rfl, ?_⟩)
  rw [hρ _ _ hs, hρ _ _ hx]
  refine SWP.perm ht.perm ?_
  have hsrc' : Src (slA sv xs sp ++ R.flatten) size m ys xv := hsrc.mono (fun x hx => List.mem_append_right _ hx)
  have grow : ∀ (a : Option Addr) (c : Nat), sv = .slice a k c → ¬ (k + m ≤ c) → Src (slA sv xs sp ++ R.flatten) size k xs sv →
      SWP P (if Builtin.nextslicecap (k + m) c * bytes > 2 ^ 48 ∨ bytes = 0 then stuck "size" else do
        let cap ← choose (.appendCap (k + m) c t)
        let old ← Builtin.firstCells size k sv
        let new ← Builtin.firstCells size m xv
        let b ← newObj (.cells (old ++ new ++ (zeroRow (cap - (k + m)) zero).toArray) t)
        pure (Next.value (.slice (Option.some ⟨b, 0, none⟩) (k + m) cap)) : Sem Next) (slA sv xs sp ++ R.flatten) fun nx L => ∃ v H' X, (nx = .value v ∨ (nx = .skip ∧ v = undef)) ∧ L.Perm (List.flatten H' ++ X) ∧ VO P n rs (putE d v Γ) H' Z K := by
    intro a c hsv hle hso
    have hnc : Builtin.nextslicecap (k + m) c * bytes ≤ 2 ^ 48 := Nat.le_trans (Nat.mul_le_mul_right _ (nextcap_le (by omega))) hroom
    rw [if_neg (by omega)]
    have fin : ∀ cap, k + m ≤ cap → SWP P (do
        let old ← Builtin.firstCells size k sv
        let new ← Builtin.firstCells size m xv
        let b ← newObj (.cells (old ++ new ++ (zeroRow (cap - (k + m)) zero).toArray) t)
        pure (Next.value (.slice (Option.some ⟨b, 0, none⟩) (k + m) cap)) : Sem Next) (slA sv xs sp ++ R.flatten) fun nx L => ∃ v H' X, (nx = .value v ∨ (nx = .skip ∧ v = undef)) ∧ L.Perm (List.flatten H' ++ X) ∧ VO P n rs (putE d v Γ) H' Z K := by
      intro cap hcap
      refine SWP.bind (SWP.firstCells hso (SWP.bind (SWP.firstCells hsrc' (mem_new (fun b => ?_)))))
      have hI : IsSl size (.slice (Option.some ⟨b, 0, none⟩) (k + m) cap) (k + m) (xs ++ ys) (zeroRow (cap - (k + m)) zero) := by
        refine .mk ?_ ?_ hcap
        · rw [List.length_append, hsl.len, hlen, Nat.add_mul]
        · rw [List.length_append, hsl.len, hlen, zeroRow_length, hz, ← Nat.add_mul, ← Nat.add_mul]
          congr 1; omega
      refine ⟨_, _, slA sv xs sp, .inl rfl, ?_, h _ _ hI⟩
      have : (xs.toArray ++ ys.toArray ++ (zeroRow (cap - (k + m)) zero).toArray).toList = xs ++ ys ++ zeroRow (cap - (k + m)) zero := by simp
      rw [this]
      simp only [List.flatten_cons, List.append_assoc]
      refine List.Perm.trans ?_ (List.Perm.append_left _ List.perm_append_comm)
      simp only [slA, List.append_assoc]
      exact List.Perm.refl _
    refine SWP.bind (SWP.choose (fun hf => by simp [Question.forced] at hf) (fun t' => fin _ ?_))
    simp only [Question.cut]; omega
  cases hsl with
  | @mk b o _ c _ _ h1 h2 h3 =>
    simp only [hm]
    by_cases hle : k + m ≤ c
    · rw [if_pos hle]
      refine SWP.bind (SWP.firstCells hsrc' ?_)
      have hl2 : ys.length ≤ sp.length := by
        have e1 : (k + m) * size ≤ c * size := Nat.mul_le_mul_right _ hle
        rw [Nat.add_mul] at e1; omega
      have hsplit : cellsAt b o (xs ++ sp) = cellsAt b o xs ++ (cellsAt b (o + k * size) (sp.take ys.length) ++ cellsAt b (o + k * size + ys.length) (sp.drop ys.length)) := by
        rw [cellsAt_append, h1]
        congr 1
        conv => lhs; rw [← List.take_append_drop ys.length sp]
        rw [cellsAt_append]
        congr 2
        simp; omega
      have hI : IsSl size (.slice (Option.some ⟨b, o, none⟩) (k + m) c) (k + m) (xs ++ ys) (sp.drop ys.length) := by
        refine .mk ?_ ?_ hle
        · rw [List.length_append, h1, hlen, Nat.add_mul]
        · rw [List.length_append, List.length_drop]; omega
      have hadd : ((⟨b, o, none⟩ : Addr).add (k * size)) = ⟨b, o + k * size, none⟩ := add_off b o _
      simp only [hadd]
      have hperm : (slA (.slice (Option.some ⟨b, o, none⟩) k c) xs sp ++ R.flatten).Perm (cellsAt b (o + k * size) (sp.take ys.length) ++ (cellsAt b o xs ++ (cellsAt b (o + k * size + ys.length) (sp.drop ys.length) ++ R.flatten))) := by
        simp only [slA, hsplit, List.append_assoc]
        exact perm_lead _ _ _
      refine SWP.perm hperm (SWP.bind (SWP.storeCells (by simp; omega) (List.all_eq_true.1 hone) (SWP.pure ?_)))
      refine ⟨_, _, [], .inl rfl, ?_, h _ _ hI⟩
      simp only [slA, List.flatten_cons, List.append_nil, cellsAt_append, h1, List.append_assoc]
      exact perm_lead _ _ _
    · rw [if_neg hle]
      refine grow _ c rfl hle ⟨h1, fun x hx => ?_⟩
      simp only [slA, cellsAt_append, List.mem_append]
      exact .inl (.inl hx)
  | nil =>
    simp only [hm]
    by_cases hle : 0 + m ≤ 0
    · rw [if_pos hle]
      have hm0 : m = 0 := by omega
      subst hm0
      obtain rfl : ys = [] := by simpa using hlen
      refine SWP.bind (SWP.firstCells hsrc' (SWP.pure ?_))
      exact ⟨_, _, [], .inl rfl, by simp [slA], h _ _ .nil⟩
    · rw [if_neg hle]
      exact grow _ 0 rfl hle rfl
theorem st_rangeM {x : Operand} {b c : Nat} {es : Array MapEntry} (hm : ev Γ x = some (.map (some b))) (ho : HasO H b (.map es c))
    (h : ∀ q, VO P n rs (putE d (.pointer (some ⟨q, 0, none⟩)) Γ) ([.obj q (.mapIter (some b) c #[] c)] :: H) Z K) : VO P n (⟨d, none, .rangeM x⟩ :: rs) Γ H Z K := by
  refine VO.act rfl rfl (fun ρ hρ => ⟨_, rfl, ?_⟩)
  rw [hρ _ _ hm]
  exact swp_entries (m := b) (c := c) (es := es) ho.mem (mem_newObj rfl (fun q => ⟨_, _, .inl rfl, by simp, h q⟩))
theorem st_next {it : Operand} {q b c : Nat} {seen : Array Nat} {es : Array MapEntry} {R : SH} (hi : ev Γ it = some (.pointer (some ⟨q, 0, none⟩))) (ht : Tk H [.obj q (.mapIter (some b) c seen c)] R) (ho : HasO R b (.map es c))
    (hc : ∀ e ∈ es.toList, e.born < c) (hover : (∀ e ∈ es.toList, e.born ∈ seen.toList) → VO P n rs (putE d (.tuple #[.bool false]) Γ) ([.obj q (.mapIter (some b) c seen c)] :: R) Z K)
    (hnext : ∀ e ∈ es.toList, e.born ∉ seen.toList → VO P n rs (putE d (.tuple #[.bool true, e.key, e.val]) Γ) ([.obj q (.mapIter (some b) c (seen.push e.born) c)] :: R) Z K) : VO P n (⟨d, none, .next it false⟩ :: rs) Γ H Z K := by
  refine VO.act rfl rfl (fun ρ hρ => ⟨_, rfl, ?_⟩)
  rw [hρ _ _ hi]
  refine SWP.perm ht.perm ?_
  have hcond : (!seen.isEmpty && !es.isEmpty && es.all (fun e => decide (e.born ≥ c))) = false := by
    cases hes : es.isEmpty with
    | true => simp
    | false =>
      have : es.all (fun e => decide (e.born ≥ c)) = false := by
        rw [Array.all_eq_false]
        have hne : es.toList ≠ [] := by intro h; simp at h; simp [h] at hes
        obtain ⟨e, he⟩ := List.exists_mem_of_ne_nil _ hne
        obtain ⟨i, hi', hei⟩ := List.getElem_of_mem he
        refine ⟨i, by simpa using hi', ?_⟩
        have := hc e he
        simp at hei
        simp [hei]; omega
      simp [this]
  have hnew : (es.filter fun e => !seen.contains e.born).filter (fun e => decide (e.born ≥ c)) = #[] := by
    rw [Array.filter_eq_empty_iff]
    intro e he
    have := hc e (by simpa using (Array.mem_filter.1 he).1)
    simp; omega
  have hold : (es.filter fun e => !seen.contains e.born).filter (fun e => decide (e.born < c)) = es.filter fun e => !seen.contains e.born := by
    rw [Array.filter_eq_self]
    intro e he
    have := hc e (by simpa using (Array.mem_filter.1 he).1)
    simpa using this
  have step : SWP P (Instr.next (.pointer (some ⟨q, 0, none⟩)) false 0) ([Atom.obj q (.mapIter (some b) c seen c)] ++ R.flatten) fun v L => ∃ H', L.Perm (List.flatten H') ∧ VO P n rs (putE d v Γ) H' Z K := by
    unfold Instr.next
    refine SWP.bind (SWP.getObj (o := .mapIter (some b) c seen c) (by simp) ?_)
    refine SWP.bind (SWP.getObj (o := .map es c) (by simp only [List.mem_append]; exact .inr ho.mem) ?_)
    simp only [hcond, Bool.false_eq_true, if_false, hold, hnew, Array.append_empty]
    by_cases hemp : (es.filter fun e => !seen.contains e.born) = #[]
    · have hall : ∀ e ∈ es.toList, e.born ∈ seen.toList := by
        intro e he
        rw [Array.filter_eq_empty_iff] at hemp
        have := hemp e (by simpa using he)
        simpa using this
      simp only [hemp, Array.isEmpty_empty, if_true, Array.map_empty, Array.append_empty]
      refine SWP.bind (SWP.choose (fun _ => SWP.pure ⟨_, by simp, hover hall⟩) (fun t => ?_))
      simp only [Question.cut]
      have : t % (#[(none : Option MapEntry)].size) = 0 := by simp; omega
      rw [this]
      exact SWP.pure ⟨_, by simp, hover hall⟩
    · generalize hl : (es.filter fun e => !seen.contains e.born) = l at hemp
      have hle : l.isEmpty = false := by simpa using hemp
      have hpos : 0 < l.size := Array.size_pos_iff.2 hemp
      simp only [hle, Bool.false_eq_true, if_false, Array.empty_append]
      have fin : ∀ i, i < l.size → SWP P (match (l.map Option.some)[i]? with
          | some (some e) => do
            setObj q (.mapIter (some b) c (seen.push e.born) c)
            pure (.tuple #[.bool true, e.key, e.val])
          | some none => pure (.tuple #[.bool false])
          | none => stuck "Next: no such candidate" : Sem Value) ([Atom.obj q (.mapIter (some b) c seen c)] ++ R.flatten) fun v L => ∃ H', L.Perm (List.flatten H') ∧ VO P n rs (putE d v Γ) H' Z K := by
        intro i hi'
        have hg : (l.map Option.some)[i]? = some (some l[i]) := by simp [hi']
        rw [hg]
        have hmem : l[i] ∈ es.filter fun e => !seen.contains e.born := by rw [hl]; exact Array.getElem_mem hi'
        have h2 := Array.mem_filter.1 hmem
        refine SWP.bind (SWP.setObj rfl (SWP.pure ⟨_, ?_, hnext l[i] (by simpa using h2.1) (by simpa using h2.2)⟩))
        simp
      refine SWP.bind (SWP.choose (fun hf => ?_) (fun t => ?_))
      · exact fin 0 hpos
      · simp only [Question.cut]
        exact fin _ (by have := Nat.mod_lt t (y := (l.map Option.some).size) (by simpa using hpos); simpa using this)
  refine SWP.bind (step.mono ?_)
  rintro v L ⟨H', h1, h2⟩
  exact SWP.pure ⟨v, H', .inl rfl, h1, h2⟩
end
theorem Imp.left {A B : SH} : Imp (A ++ B) A := ⟨B, by simp [Spl]⟩
theorem Imp.perm {A B : SH} (h : A.flatten.Perm B.flatten) : Imp A B := ⟨[], by simpa [Spl] using h⟩
theorem VO.imp {P : Program} {n : Nat} {rs : List RO} {Γ : Env} {H H' : SH} {Z : List PanicEntry → Env → SH → Prop} {K : Env → SH → Prop} (i : Imp H H') (h : VO P n rs Γ H' Z K) : VO P n rs Γ H Z K :=
  fun l hl a w F ZZ Q ha hs hq hz => h l hl a w F ZZ Q ha (hs.imp i) hq hz
theorem endQ_mk {res : List RV} {Q : Value → SH → Prop} {e : Exit} {Γ : Env} {H Post : SH} {vs : List Value} (he : e = .normal ∨ e = .ret) (hr : Res Γ H res vs) (hq : Q (tup vs) Post) (hi : Imp H Post) : endQ res Q e Γ H := ⟨he, vs, Post, hr, hi, hq⟩
inductive HasM : SH → Nat → Nat → Nat → List Value → Prop where
  | cells {b o k n : Nat} {vs us : List Value} {L : SH} : o ≤ k → k - o + n ≤ vs.length → (vs.drop (k - o)).take n = us → us.length = n → HasM (cellsAt b o vs :: L) b k n us
  | there {A : List Atom} {L : SH} {b k n : Nat} {us : List Value} : HasM L b k n us → HasM (A :: L) b k n us
theorem HasM.row {H : SH} {b k n : Nat} {us : List Value} (h : HasM H b k n us) : HasN H b k us ∧ us.length = n := by
  induction h with
  | cells h1 _ h2 h3 => exact ⟨.cells h1 (by rw [h3, h2]) h3, h3⟩
  | there _ ih => exact ⟨.there ih.1, ih.2⟩
theorem st_loadM {P : Program} {n : Nat} {rs : List RO} {Γ : Env} {H : SH} {Z : List PanicEntry → Env → SH → Prop} {K : Env → SH → Prop} {d : Option Nat} {m : Nat} {x : Operand} {b o : Nat} {us : List Value} (hx : ev Γ x = some (.pointer (some ⟨b, o, none⟩))) (hm : HasM H b o m us) (h : VO P n rs (putE d (.agg us.toArray) Γ) H Z K) : VO P n (⟨d, none, .loadN m x⟩ :: rs) Γ H Z K :=
  st_loadN hx hm.row.1 hm.row.2 h
inductive Bnd (Γ : Env) (d : Nat) : Option Operand → Nat → Prop where
  | dft : Bnd Γ d none d
  | num {x : Operand} {k : IntKind} {m : Nat} : ev Γ x = some (.int k m) → Bnd Γ d (some x) m
theorem Bnd.val {Γ : Env} {d y m : Nat} {o : Option Operand} {ρ : Operand → Value} (h : Bnd Γ d o m) (hm : m ≤ y) (hρ : ∀ x u, ev Γ x = some u → ρ x = u) : boundO y (some d) (o.map ρ) = some m := by
  cases h with
  | dft => rfl
  | num hx => simp [boundO, hρ _ _ hx, bound, hm]
section
variable {P : Program} {n : Nat} {rs : List RO} {Γ : Env} {H : SH} {Z : List PanicEntry → Env → SH → Prop} {K : Env → SH → Prop} {d : Option Nat}
theorem st_slcL {size len cap l h b o o' : Nat} {x : Operand} {lo hi : Option Operand} (hx : ev Γ x = some (.slice (some ⟨b, o, none⟩) len cap)) (hlo : Bnd Γ 0 lo l) (hhi : Bnd Γ len hi h) (hr : l ≤ h ∧ h ≤ cap) (ho : (if cap = l then o else o + l * size) = o')
    (hh : VO P n rs (putE d (.slice (some ⟨b, o', none⟩) (h - l) (cap - l)) Γ) H Z K) : VO P n (⟨d, none, .slcL size x lo hi none⟩ :: rs) Γ H Z K :=
  VO.pure rfl (fun ρ hρ => by
    have h1 := hlo.val (y := h) hr.1 hρ
    have h2 := hhi.val (y := cap) hr.2 hρ
    have h3 : boundO cap (some cap) none = some cap := rfl
    simp [pureV, hρ _ _ hx, bounds, h1, h2, h3, ho]) hh
end
theorem st_ext {P : Program} {n : Nat} {rs : List RO} {Γ : Env} {H : SH} {Z : List PanicEntry → Env → SH → Prop} {K : Env → SH → Prop} {d : Option Nat} {i : Nat} {x : Operand} {vs : Array Value} {v : Value} (hx : ev Γ x = some (.tuple vs)) (hv : vs[i]? = some v) (h : VO P n rs (putE d v Γ) H Z K) : VO P n (⟨d, none, .ext x i⟩ :: rs) Γ H Z K :=
  VO.pure rfl (fun ρ hρ => by simp [pureV, hρ _ _ hx, hv]) h
section
variable {P : Program} {n : Nat} {rs : List RO} {Γ : Env} {H R : SH} {Z : List PanicEntry → Env → SH → Prop} {K : Env → SH → Prop} {A B C : List Atom} {c : IC} {Q : Exit → Env → SH → Prop}
theorem VO.split (ht : Tk H A R) (hp : A.Perm (B ++ C)) (h : VO P n rs Γ (B :: C :: R) Z K) : VO P n rs Γ H Z K := by
  refine VO.perm ?_ h
  simp only [List.flatten_cons]
  rw [← List.append_assoc]
  exact ht.perm.trans (List.Perm.append_right _ hp)
theorem VC.split (ht : Tk H A R) (hp : A.Perm (B ++ C)) (h : VC P n c Γ (B :: C :: R) Q) : VC P n c Γ H Q := by
  refine VC.imp ⟨[], ?_⟩ h
  simp only [Spl, List.flatten_cons, List.flatten_nil, List.append_nil]
  rw [← List.append_assoc]
  exact ht.perm.trans (List.Perm.append_right _ hp)
theorem Imp.glue {R' Δ : SH} (h1 : Tk H B R) (h2 : Tk R C R') (hp : (B ++ C).Perm A) (k : Imp R' Δ) : Imp H (A :: Δ) := by
  obtain ⟨X, hX⟩ := k
  refine ⟨X, ?_⟩
  simp only [Spl, List.flatten_cons, List.append_assoc]
  refine h1.perm.trans ?_
  refine (List.Perm.append_left _ h2.perm).trans ?_
  rw [← List.append_assoc]
  exact List.Perm.append hp hX
theorem Spl.glue {R' R'' Pre : SH} (h1 : Tk H B R) (h2 : Tk R C R') (hp : (B ++ C).Perm A) (k : Spl R' Pre R'') : Spl H (A :: Pre) R'' := by
  simp only [Spl, List.flatten_cons, List.append_assoc]
  refine h1.perm.trans ?_
  refine (List.Perm.append_left _ h2.perm).trans ?_
  rw [← List.append_assoc]
  exact List.Perm.append hp k
end
section
variable {κ β : Type} [DecidableEq κ]
theorem mget_mem {k : κ} {v : β} : ∀ {m : List (κ × β)}, mget k m = some v → (k, v) ∈ m := by
  intro m
  induction m with
  | nil => intro h; simp [mget] at h
  | cons p m ih =>
    obtain ⟨a, u⟩ := p
    intro h
    simp only [mget] at h
    split at h
    · rename_i e; cases h; subst e; simp
    · simp [ih h]
theorem MapIs.same {E : KEnc κ} {V : β → Value} {es : Array MapEntry} {c : Nat} {m : List (κ × β)} {k : κ} {x y : β} (h : MapIs E V es c m) (hx : mget k m = some x) (hv : V y = V x) : MapIs E V es c (mset k y m) := by
  refine ⟨?_, h.born, h.clock⟩
  have h1 := h.of
  unfold MapOf at h1 ⊢
  rw [h1]
  clear h1 h
  induction m with
  | nil => simp [mget] at hx
  | cons p m ih =>
    obtain ⟨a, u⟩ := p
    simp only [mget] at hx
    simp only [mset]
    split at hx
    · rename_i e; cases hx; subst e; simp [hv]
    · rename_i e; simp only [if_neg e, List.map_cons, ih hx]
end
theorem Upd.set1 {b o i k : Nat} {vs : List Value} {u : Value} {L : SH} (hk : o + i = k) (h : i < vs.length) : Upd (cellsAt b o vs :: L) b k [u] (cellsAt b o (vs.set i u) :: L) := by
  subst hk
  refine .cells (by omega) (by simp; omega) ?_
  rw [Nat.add_sub_cancel_left, List.set_eq_take_append_cons_drop, if_pos h]
  simp
section
variable {κ β : Type} [DecidableEq κ] {E : KEnc κ} {V : β → Value}
theorem MapIs.entry {es : Array MapEntry} {c : Nat} {m : List (κ × β)} (h : MapIs E V es c m) {e : MapEntry} (he : e ∈ es.toList) : ∃ p ∈ m, e.key = E.enc p.1 ∧ e.val = V p.2 := by
  have h1 : (e.key, e.val) ∈ es.toList.map (fun e => (e.key, e.val)) := List.mem_map.2 ⟨e, he, rfl⟩
  rw [show es.toList.map (fun e => (e.key, e.val)) = _ from h.of] at h1
  obtain ⟨p, hp, e1⟩ := List.mem_map.1 h1
  simp only [Prod.mk.injEq] at e1
  exact ⟨p, hp, e1.1.symm, e1.2.symm⟩
theorem KEnc.inj {a b : κ} (h : E.enc a = E.enc b) : a = b := by
  have h1 := E.same a b
  have h2 := E.same b b
  rw [h] at h1
  rw [h1] at h2
  simpa using h2
theorem born_one {l : List MapEntry} (h : l.Pairwise fun a b => a.born < b.born) {e e' : MapEntry} (he : e ∈ l) (he' : e' ∈ l) (hb : e.born = e'.born) : e = e' := by
  induction l with
  | nil => cases he
  | cons a r ih =>
    have hp := List.pairwise_cons.1 h
    rcases List.mem_cons.1 he with h1 | h1
    · rcases List.mem_cons.1 he' with h2 | h2
      · rw [h1, h2]
      · have := hp.1 e' h2; rw [h1] at hb; omega
    · rcases List.mem_cons.1 he' with h2 | h2
      · have := hp.1 e h1; rw [h2] at hb; omega
      · exact ih hp.2 h1 h2
theorem filter_less {α : Type} {l : List α} {p q : α → Bool} (h : ∀ x ∈ l, q x = true → p x = true) {e : α} (he : e ∈ l) (h1 : p e = true) (h2 : q e = false) : (l.filter q).length < (l.filter p).length := by
  have : l.filter q = (l.filter p).filter q := by
    rw [List.filter_filter]
    refine List.filter_congr (fun x hx => ?_)
    cases hq : q x
    · simp
    · simp [h x hx hq]
  rw [this, List.length_filter_lt_length_iff_exists]
  exact ⟨e, List.mem_filter.2 ⟨he, h1⟩, by simp [h2]⟩
end
theorem VC.seq_cond_t {P : Program} {n : Nat} {Γ : Env} {H : SH} {Q : Exit → Env → SH → Prop} {c : Operand} {x y z : IC} (hc : ev Γ c = some (.bool true)) (h : VC P n x Γ H (thenQ (fun Γ' H' => VC P n z Γ' H' Q) Q)) : VC P n (.seq (.cond c x y) z) Γ H Q := VC.seq (VC.cond_t hc h)
theorem VC.seq_cond_f {P : Program} {n : Nat} {Γ : Env} {H : SH} {Q : Exit → Env → SH → Prop} {c : Operand} {x y z : IC} (hc : ev Γ c = some (.bool false)) (h : VC P n y Γ H (thenQ (fun Γ' H' => VC P n z Γ' H' Q) Q)) : VC P n (.seq (.cond c x y) z) Γ H Q := VC.seq (VC.cond_f hc h)
theorem Imp.part {H R : SH} {A B C : List Atom} (ht : Tk H A R) (hp : A.Perm (B ++ C)) : Imp H [B] := by
  refine ⟨C :: R, ?_⟩
  simp only [Spl, List.flatten_cons, List.flatten_nil, List.append_nil]
  refine ht.perm.trans ?_
  rw [← List.append_assoc]
  exact hp.append_right _
end Go.V

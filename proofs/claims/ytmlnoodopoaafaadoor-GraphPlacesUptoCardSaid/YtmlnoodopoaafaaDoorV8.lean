/-
  The rules as they are used: one for each kind of operation; side conditions are met by themselves where they can be.
-/
import Derived.Test.YtmlnoodopoaafaaDoorV7
set_option linter.unusedSimpArgs false
set_option linter.unusedVariables false
namespace Go.V
open Go
inductive Tk : SH → List Atom → SH → Prop where
  | here {A : List Atom} {L : SH} : Tk (A :: L) A L
  | there {A B : List Atom} {L R : SH} : Tk L A R → Tk (B :: L) A (B :: R)
theorem perm_lead (A B X : List Atom) : (A ++ (B ++ X)).Perm (B ++ (A ++ X)) := by
  rw [← List.append_assoc, ← List.append_assoc]
  exact List.Perm.append_right _ List.perm_append_comm
theorem Tk.perm {L R : SH} {A : List Atom} (h : Tk L A R) : L.flatten.Perm (A ++ R.flatten) := by
  induction h with
  | here => simp
  | there _ ih =>
    simp only [List.flatten_cons]
    refine (List.Perm.append_left _ ih).trans ?_
    rw [← List.append_assoc, ← List.append_assoc]
    exact List.Perm.append_right _ List.perm_append_comm
theorem Spl.nil {H : SH} : Spl H [] H := by simp [Spl]
theorem Spl.cons {H R R' Pre : SH} {A : List Atom} (h : Tk H A R) (k : Spl R Pre R') : Spl H (A :: Pre) R' := by
  simp only [Spl, List.flatten_cons, List.append_assoc]
  exact h.perm.trans (List.Perm.append_left _ k)
theorem Imp.nil {H : SH} : Imp H [] := ⟨H, by simp [Spl]⟩
theorem Imp.cons {H R Δ : SH} {A : List Atom} (h : Tk H A R) (k : Imp R Δ) : Imp H (A :: Δ) := by
  obtain ⟨X, hX⟩ := k
  refine ⟨X, ?_⟩
  simp only [Spl, List.flatten_cons, List.append_assoc]
  exact h.perm.trans (List.Perm.append_left _ hX)
theorem Sub.nil {Γ : Env} : Sub Γ [] := fun t v h => by simp [look] at h
theorem Sub.cons {Γ Δ : Env} {t : Nat} {v : Value} (h : look Γ t = some v) (k : Sub Γ Δ) : Sub Γ ((t, v) :: Δ) := fun s u e => by
  simp only [look] at e
  split at e
  · rename_i es; subst es; cases e; exact h
  · exact k s u e
theorem Sub.refl {Γ : Env} : Sub Γ Γ := fun _ _ h => h
inductive Has : SH → Nat → Nat → Value → Prop where
  | cells {b o k : Nat} {vs : List Value} {v : Value} {L : SH} : o ≤ k → vs[k - o]? = some v → Has (cellsAt b o vs :: L) b k v
  | there {A : List Atom} {L : SH} {b k : Nat} {v : Value} : Has L b k v → Has (A :: L) b k v
  | among {A : List Atom} {L : SH} {b k : Nat} {v : Value} : Atom.cell b k v ∈ A → Has (A :: L) b k v
theorem Has.row {b o i : Nat} {xs sp : List Value} {v : Value} {L : SH} (h : xs[i]? = some v) : Has (cellsAt b o (xs ++ sp) :: L) b (o + i) v := by
  refine .cells (by omega) ?_
  rw [Nat.add_sub_cancel_left]
  have hi := (List.getElem?_eq_some_iff.1 h).1
  rw [List.getElem?_append_left hi, h]
theorem Has.mem {H : SH} {b k : Nat} {v : Value} (h : Has H b k v) : Atom.cell b k v ∈ H.flatten := by
  induction h with
  | cells h1 h2 =>
    simp only [List.flatten_cons, List.mem_append]
    left
    exact mem_cellsAt.2 ⟨_, _, h2, by congr 1; omega⟩
  | there _ ih => simp only [List.flatten_cons, List.mem_append]; exact .inr ih
  | among h => simp only [List.flatten_cons, List.mem_append]; exact .inl h
inductive HasN : SH → Nat → Nat → List Value → Prop where
  | cells {b o k n : Nat} {vs us : List Value} {L : SH} : o ≤ k → (vs.drop (k - o)).take us.length = us → us.length = n → HasN (cellsAt b o vs :: L) b k us
  | there {A : List Atom} {L : SH} {b k : Nat} {us : List Value} : HasN L b k us → HasN (A :: L) b k us
theorem HasN.mem {H : SH} {b k : Nat} {us : List Value} (h : HasN H b k us) : ∀ x ∈ cellsAt b k us, x ∈ H.flatten := by
  induction h with
  | cells h1 h2 _ =>
    intro x hx
    obtain ⟨i, v, hi, rfl⟩ := mem_cellsAt.1 hx
    simp only [List.flatten_cons, List.mem_append]
    left
    rw [← h2] at hi
    simp only [List.getElem?_take, List.getElem?_drop] at hi
    split at hi
    · exact mem_cellsAt.2 ⟨_, v, hi, by congr 1; omega⟩
    · cases hi
  | there _ ih => intro x hx; simp only [List.flatten_cons, List.mem_append]; exact .inr (ih x hx)
def evD (Γ : Env) (x : Operand) : Value := (ev Γ x).getD undef
def known (Γ : Env) (x : Operand) : Bool := (ev Γ x).isSome
theorem evD_of {Γ : Env} {x : Operand} {ρ : Operand → Value} (h : known Γ x = true) (hρ : ∀ x u, ev Γ x = some u → ρ x = u) : ρ x = evD Γ x := by
  obtain ⟨u, hu⟩ := Option.isSome_iff_exists.1 h
  simp [evD, hu, hρ _ _ hu]
def ptr (b o : Nat) : Value := .pointer (some ⟨b, o, none⟩)
section
variable {P : Program} {n : Nat} {rs : List RO} {Γ Δ : Env} {H : SH} {Z : List PanicEntry → Env → SH → Prop} {K : Env → SH → Prop} {d : Option Nat} {g : Option (Nat × Bool)}
theorem st_pure {r : R} {v : Value} (hp : isPure r = true) (hk : (rOps r).all (known Γ) = true) (hv : pureV (evD Γ) r = some v) (h : VO P n rs (putE d v Γ) H Z K) : VO P n (⟨d, none, r⟩ :: rs) Γ H Z K :=
  VO.pure hp (fun ρ hρ => by
    rw [← hv]
    exact pureV_congr hp (fun x hx => evD_of (List.all_eq_true.1 hk x hx) hρ)) h
theorem st_mv {x : Operand} {v : Value} (hx : ev Γ x = some v) (h : VO P n rs (putE d v Γ) H Z K) : VO P n (⟨d, none, .mv x⟩ :: rs) Γ H Z K :=
  VO.pure rfl (fun ρ hρ => by simp [pureV, hρ _ _ hx]) h
theorem st_fld {off : Nat} {x : Operand} {b o o' : Nat} (hx : ev Γ x = some (.pointer (some ⟨b, o, none⟩))) (ho : o + off = o') (h : VO P n rs (putE d (.pointer (some ⟨b, o', none⟩)) Γ) H Z K) : VO P n (⟨d, none, .fld off x⟩ :: rs) Γ H Z K :=
  VO.pure rfl (fun ρ hρ => by simp [pureV, hρ _ _ hx, ho]) h
theorem st_nil {x : Operand} {a : Addr} (hx : ev Γ x = some (.pointer (some a))) (h : VO P n rs (putE d (.pointer (some a)) Γ) H Z K) : VO P n (⟨d, none, .nilck x⟩ :: rs) Γ H Z K :=
  VO.pure rfl (fun ρ hρ => by simp [pureV, hρ _ _ hx]) h
theorem wrap64 {z : Int} (h : -9223372036854775808 ≤ z ∧ z ≤ 9223372036854775807) : IntKind.i64.wrap z = z := by
  simp only [IntKind.wrap, IntKind.bits, IntKind.signed]; simp; omega
theorem st_add {x y : Operand} {a b : Int} (hx : ev Γ x = some (.int .i64 a)) (hy : ev Γ y = some (.int .i64 b)) (hr : -9223372036854775808 ≤ a + b ∧ a + b ≤ 9223372036854775807) (h : VO P n rs (putE d (.int .i64 (a + b)) Γ) H Z K) :
    VO P n (⟨d, none, .bin .add x y⟩ :: rs) Γ H Z K :=
  VO.pure rfl (fun ρ hρ => by simp [pureV, hρ _ _ hx, hρ _ _ hy, binV, intV, wrap64 hr]) h
theorem st_sub {x y : Operand} {a b : Int} (hx : ev Γ x = some (.int .i64 a)) (hy : ev Γ y = some (.int .i64 b)) (hr : -9223372036854775808 ≤ a - b ∧ a - b ≤ 9223372036854775807) (h : VO P n rs (putE d (.int .i64 (a - b)) Γ) H Z K) :
    VO P n (⟨d, none, .bin .sub x y⟩ :: rs) Γ H Z K :=
  VO.pure rfl (fun ρ hρ => by simp [pureV, hρ _ _ hx, hρ _ _ hy, binV, intV, wrap64 hr]) h
theorem st_mul {x y : Operand} {a b : Int} (hx : ev Γ x = some (.int .i64 a)) (hy : ev Γ y = some (.int .i64 b)) (hr : -9223372036854775808 ≤ a * b ∧ a * b ≤ 9223372036854775807) (h : VO P n rs (putE d (.int .i64 (a * b)) Γ) H Z K) :
    VO P n (⟨d, none, .bin .mul x y⟩ :: rs) Γ H Z K :=
  VO.pure rfl (fun ρ hρ => by simp [pureV, hρ _ _ hx, hρ _ _ hy, binV, intV, wrap64 hr]) h
theorem st_rem {x y : Operand} {k : IntKind} {a b : Int} (hx : ev Γ x = some (.int k a)) (hy : ev Γ y = some (.int k b)) (hr : b ≠ 0) (h : VO P n rs (putE d (.int k (a.tmod b)) Γ) H Z K) :
    VO P n (⟨d, none, .bin .rem x y⟩ :: rs) Γ H Z K :=
  VO.pure rfl (fun ρ hρ => by simp [pureV, hρ _ _ hx, hρ _ _ hy, binV, intV, hr]) h
theorem st_conv {k k' : IntKind} {x : Operand} {a b : Int} (hx : ev Γ x = some (.int k' a)) (hr : k.wrap a = b) (h : VO P n rs (putE d (.int k b) Γ) H Z K) : VO P n (⟨d, none, .conv k x⟩ :: rs) Γ H Z K :=
  VO.pure rfl (fun ρ hρ => by simp [pureV, hρ _ _ hx, hr]) h
theorem st_quo {x y : Operand} {k : IntKind} {a b : Int} (hx : ev Γ x = some (.int k a)) (hy : ev Γ y = some (.int k b)) (hr : b ≠ 0) (h : VO P n rs (putE d (.int k (k.wrap (a.tdiv b))) Γ) H Z K) :
    VO P n (⟨d, none, .bin .quo x y⟩ :: rs) Γ H Z K :=
  VO.pure rfl (fun ρ hρ => by simp [pureV, hρ _ _ hx, hρ _ _ hy, binV, intV, hr]) h
theorem st_idxL {size : Nat} {x i : Operand} {b o o' len cap : Nat} {k : IntKind} {m : Int} (hx : ev Γ x = some (.slice (some ⟨b, o, none⟩) len cap)) (hi : ev Γ i = some (.int k m)) (hb : 0 ≤ m ∧ m < len)
    (ho : o + m.toNat * size = o') (h : VO P n rs (putE d (.pointer (some ⟨b, o', none⟩)) Γ) H Z K) : VO P n (⟨d, none, .idxL size x i⟩ :: rs) Γ H Z K :=
  VO.pure rfl (fun ρ hρ => by simp [pureV, hρ _ _ hx, hρ _ _ hi, hb, ho]) h
theorem st_idxA {len size : Nat} {x i : Operand} {b o o' : Nat} {k : IntKind} {m : Int} (hx : ev Γ x = some (.pointer (some ⟨b, o, none⟩))) (hi : ev Γ i = some (.int k m)) (hb : 0 ≤ m ∧ m < len)
    (ho : o + m.toNat * size = o') (h : VO P n rs (putE d (.pointer (some ⟨b, o', none⟩)) Γ) H Z K) : VO P n (⟨d, none, .idxA len size x i⟩ :: rs) Γ H Z K :=
  VO.pure rfl (fun ρ hρ => by simp [pureV, hρ _ _ hx, hρ _ _ hi, hb, ho]) h
theorem st_idxS {x i : Operand} {s : ByteArray} {k : IntKind} {m : Int} {j : Nat} {c : UInt8} (hx : ev Γ x = some (.string s)) (hi : ev Γ i = some (.int k m)) (hm : m = (j : Int)) (hc : s[j]? = some c)
    (h : VO P n rs (putE d (.int .u8 c.toNat) Γ) H Z K) : VO P n (⟨d, none, .idxS x i⟩ :: rs) Γ H Z K :=
  VO.pure rfl (fun ρ hρ => by subst hm; simp [pureV, hρ _ _ hx, hρ _ _ hi, hc]) h
theorem st_pick_t {c a b : Operand} {v : Value} (hc : ev Γ c = some (.bool true)) (ha : ev Γ a = some v) (h : VO P n rs (putE d v Γ) H Z K) : VO P n (⟨d, none, .pick c a b⟩ :: rs) Γ H Z K :=
  VO.pure rfl (fun ρ hρ => by simp [pureV, hρ _ _ hc, hρ _ _ ha]) h
theorem st_pick_f {c a b : Operand} {v : Value} (hc : ev Γ c = some (.bool false)) (hb : ev Γ b = some v) (h : VO P n rs (putE d v Γ) H Z K) : VO P n (⟨d, none, .pick c a b⟩ :: rs) Γ H Z K :=
  VO.pure rfl (fun ρ hρ => by simp [pureV, hρ _ _ hc, hρ _ _ hb]) h
theorem st_case {s : Nat} {c : Bool} (hs : look Γ s = some (.bool c)) (ht : c = true → VO P n rs ((s, .bool true) :: Γ) H Z K) (hf : c = false → VO P n rs ((s, .bool false) :: Γ) H Z K) : VO P n rs Γ H Z K := by
  cases c with
  | true => exact VO.sub (Sub.cons hs Sub.refl) (ht rfl)
  | false => exact VO.sub (Sub.cons hs Sub.refl) (hf rfl)
theorem st_gt {r : R} {s : Nat} {b : Bool} (hs : look Γ s = some (.bool b)) (h : VO P n (⟨d, none, r⟩ :: rs) Γ H Z K) : VO P n (⟨d, some (s, b), r⟩ :: rs) Γ H Z K := by
  intro l hl a w F ZZ Q ha hsat hq hz
  obtain ⟨o, l', rfl, hl', ops, ho⟩ := low_cons hl
  obtain ⟨g1, g2, g3, g4⟩ := lowRO_spec ho
  have hw : wantedR (some (s, b)) a = true := by simp [wantedR, ha.slots _ _ hs]
  have := h ((⟨d, none, r⟩, { o with guard := none }) :: l') ⟨by simp [hl'.1], fun x hx => by
    rcases List.mem_cons.1 hx with rfl | hx
    · refine ⟨ops, ?_⟩
      have hd : o.dst.all (fun x => decide (x < n)) = true := by
        rw [← g2]
        cases hdd : d with
        | none => rfl
        | some t => have := g3 t hdd; simpa using this
      simp only at g2 g1
      simp [lowRO, g1, hd, g2]
    · exact hl'.2 x hx⟩ a w F ZZ Q ha hsat hq hz
  have hself : wpR1 P ZZ (⟨d, none, r⟩, { o with guard := none }) (wpR P ZZ Q l') a w := this
  show wpR1 P ZZ (⟨d, some (s, b), r⟩, o) (wpR P ZZ Q l') a w
  unfold wpR1 at hself ⊢
  rw [if_pos (show wantedR _ a = true from hw)]
  rw [if_pos (show wantedR none a = true from rfl)] at hself
  exact hself
theorem st_gf {r : R} {s : Nat} {b c : Bool} (hs : look Γ s = some (.bool c)) (hc : (c == b) = false) (h : VO P n rs (putE d undef Γ) H Z K) : VO P n (⟨d, some (s, b), r⟩ :: rs) Γ H Z K := by
  intro l hl a w F ZZ Q ha hsat hq hz
  obtain ⟨o, l', rfl, hl', ops, ho⟩ := low_cons hl
  obtain ⟨g1, g2, g3, g4⟩ := lowRO_spec ho
  have hw : wantedR (some (s, b)) a = false := by simpa [wantedR, ha.slots _ _ hs] using hc
  show wpR1 P ZZ (⟨d, some (s, b), r⟩, o) (wpR P ZZ Q l') a w
  unfold wpR1
  rw [if_neg (by simp [hw])]
  exact h l' hl' _ w F ZZ Q (ha.putE g3 undef) hsat (fun a2 w2 Γ2 H2 k1 k2 k3 k4 k5 => hq a2 w2 Γ2 H2 k1 k2 (k3.trans (put_defers ..)) k4 k5) (fun ch a2 w2 Γ2 H2 k1 k2 k3 k4 k5 => hz ch a2 w2 Γ2 H2 k1 k2 (k3.trans (put_defers ..)) k4 k5)
theorem st_load1 {x : Operand} {b o : Nat} {v : Value} (hx : ev Γ x = some (.pointer (some ⟨b, o, none⟩))) (hm : Has H b o v) (h : VO P n rs (putE d v Γ) H Z K) : VO P n (⟨d, none, .load1 x⟩ :: rs) Γ H Z K :=
  VO.read rfl rfl (fun ρ hρ => ⟨_, rfl, fun F w hs => by
    have := (hs.cell (List.mem_append_left F hm.mem)).1
    simp [hρ _ _ hx, Instr.sureAddr, this]⟩) h
theorem st_loadN {m : Nat} {x : Operand} {b o : Nat} {us : List Value} (hx : ev Γ x = some (.pointer (some ⟨b, o, none⟩))) (hm : HasN H b o us) (hn : us.length = m) (h : VO P n rs (putE d (.agg us.toArray) Γ) H Z K) : VO P n (⟨d, none, .loadN m x⟩ :: rs) Γ H Z K :=
  VO.read rfl rfl (fun ρ hρ => ⟨_, rfl, fun F w hs => by
    simp [hρ _ _ hx, Instr.sureAddr, run_loadCells hn hm.mem hs]⟩) h
inductive Upd : SH → Nat → Nat → List Value → SH → Prop where
  | cells {b o k : Nat} {vs us ws : List Value} {L : SH} : o ≤ k → k - o + us.length ≤ vs.length → vs.take (k - o) ++ us ++ vs.drop (k - o + us.length) = ws → Upd (cellsAt b o vs :: L) b k us (cellsAt b o ws :: L)
  | there {A : List Atom} {L L' : SH} {b k : Nat} {us : List Value} : Upd L b k us L' → Upd (A :: L) b k us (A :: L')
theorem Upd.split {H H' : SH} {b k : Nat} {us : List Value} (h : Upd H b k us H') : ∃ (old : List Value) (R : List Atom), old.length = us.length ∧ H.flatten.Perm (cellsAt b k old ++ R) ∧ H'.flatten.Perm (cellsAt b k us ++ R) := by
  induction h with
  | @cells b o k vs us ws L h1 h2 h3 =>
    subst h3
    have hvs : vs = vs.take (k - o) ++ ((vs.drop (k - o)).take us.length ++ vs.drop (k - o + us.length)) := by
      rw [← List.drop_drop, List.take_append_drop, List.take_append_drop]
    have hl : (vs.take (k - o)).length = k - o := by simp; omega
    have hl2 : ((vs.drop (k - o)).take us.length).length = us.length := by simp; omega
    have hk : o + (k - o) = k := by omega
    refine ⟨(vs.drop (k - o)).take us.length, cellsAt b o (vs.take (k - o)) ++ (cellsAt b (k + us.length) (vs.drop (k - o + us.length)) ++ L.flatten), hl2, ?_, ?_⟩
    · have e : cellsAt b o vs = cellsAt b o (vs.take (k - o)) ++ (cellsAt b k ((vs.drop (k - o)).take us.length) ++ cellsAt b (k + us.length) (vs.drop (k - o + us.length))) := by
        conv => lhs; rw [hvs]
        rw [cellsAt_append, hl, hk, cellsAt_append, hl2]
      simp only [List.flatten_cons, e, List.append_assoc]
      exact perm_lead _ _ _
    · simp only [List.flatten_cons, cellsAt_append, hl, hk, List.append_assoc]
      exact perm_lead _ _ _
  | @there A L L' b k us _ ih =>
    obtain ⟨old, R, h1, h2, h3⟩ := ih
    refine ⟨old, A ++ R, h1, ?_, ?_⟩
    · simp only [List.flatten_cons]
      refine (List.Perm.append_left A h2).trans ?_
      rw [← List.append_assoc, ← List.append_assoc]
      exact List.Perm.append_right _ List.perm_append_comm
    · simp only [List.flatten_cons]
      refine (List.Perm.append_left A h3).trans ?_
      rw [← List.append_assoc, ← List.append_assoc]
      exact List.Perm.append_right _ List.perm_append_comm
theorem st_store {m : Nat} {x y : Operand} {b o : Nat} {v : Value} {H' : SH} (hx : ev Γ x = some (.pointer (some ⟨b, o, none⟩))) (hy : ev Γ y = some v) (hn : v.cells.size = m) (hone : v.cells.toList.all oneCell = true)
    (hu : Upd H b o v.cells.toList H') (h : VO P n rs (putE d undef Γ) H' Z K) : VO P n (⟨d, none, .store m x y⟩ :: rs) Γ H Z K := by
  refine VO.act rfl rfl (fun ρ hρ => ⟨_, rfl, ?_⟩)
  obtain ⟨old, R, h1, h2, h3⟩ := hu.split
  refine SWP.perm h2 ?_
  have hρy : ρ y = v := hρ _ _ hy
  have := mem_store (P := P) (ρ := ρ) (n := m) (x := x) (v := y) (us := old) (R := R) (b := b) (o := o) (K := fun nx L => ∃ v H', (nx = .value v ∨ (nx = .skip ∧ v = undef)) ∧ L.Perm H'.flatten ∧ VO P n rs (putE d v Γ) H' Z K)
    (hρ _ _ hx) (by rw [hρy]; exact hn) (by rw [h1]; simpa using hn) (by rw [hρy]; exact List.all_eq_true.1 hone) ⟨undef, H', .inr ⟨rfl, rfl⟩, by rw [hρy]; exact h3.symm, h⟩
  exact this
theorem st_store' {m : Nat} {x y : Operand} {b o : Nat} {v : Value} {us : List Value} {H' : SH} (hx : ev Γ x = some (.pointer (some ⟨b, o, none⟩))) (hy : ev Γ y = some v) (hv : v.cells.toList = us) (hn : us.length = m) (hone : us.all oneCell = true)
    (hu : Upd H b o us H') (h : VO P n rs (putE d undef Γ) H' Z K) : VO P n (⟨d, none, .store m x y⟩ :: rs) Γ H Z K := by
  subst hv
  exact st_store hx hy (by simpa using hn) hone hu h
theorem st_build {z : List Value} {ps : List (Nat × Nat × Operand)} {out : List Value} (hk : (ps.map (·.2.2)).all (known Γ) = true) (ho : putParts z (evParts (evD Γ) ps) = some out)
    (h : VO P n rs (putE d (.agg out.toArray) Γ) H Z K) : VO P n (⟨d, none, .build z ps⟩ :: rs) Γ H Z K := by
  refine VO.pure rfl (fun ρ hρ => ?_) h
  have : evParts ρ ps = evParts (evD Γ) ps := by
    simp only [evParts]
    refine List.map_congr_left (fun p hp => ?_)
    obtain ⟨a, b, c⟩ := p
    have hc := List.all_eq_true.1 hk c (List.mem_map.2 ⟨_, hp, rfl⟩)
    simp [evD_of hc hρ]
  simp [pureV, this, ho]
theorem st_box {t : TypeId} {x : Operand} {v : Value} (hx : ev Γ x = some v) (h : ∀ b, VO P n rs (putE d (.pointer (some ⟨b, 0, none⟩)) Γ) (cellsAt b 0 v.cells.toList :: H) Z K) : VO P n (⟨d, none, .box t x⟩ :: rs) Γ H Z K := by
  refine VO.act rfl rfl (fun ρ hρ => ⟨_, rfl, ?_⟩)
  refine mem_new (fun b => ⟨_, _, .inl rfl, ?_, h b⟩)
  rw [hρ _ _ hx]; simp
theorem st_alloc {t : TypeId} {z : List Value} (h : ∀ b, VO P n rs (putE d (.pointer (some ⟨b, 0, none⟩)) Γ) (cellsAt b 0 z :: H) Z K) : VO P n (⟨d, none, .alloc t z⟩ :: rs) Γ H Z K := by
  refine VO.act rfl rfl (fun ρ hρ => ⟨_, rfl, ?_⟩)
  refine mem_new (fun b => ⟨_, _, .inl rfl, ?_, h b⟩)
  simp
theorem st_mkmap (h : ∀ b, VO P n rs (putE d (.map (some b)) Γ) ([.obj b (.map #[] 0)] :: H) Z K) : VO P n (⟨d, none, .mkmap⟩ :: rs) Γ H Z K := by
  refine VO.act rfl rfl (fun ρ hρ => ⟨_, rfl, ?_⟩)
  refine mem_newObj rfl (fun b => ⟨_, _, .inl rfl, ?_, h b⟩)
  simp
theorem st_mkslice {t : TypeId} {size bytes : Nat} {z : List Value} {l c : Operand} {kl kc : IntKind} {li ci : Int} (hl : ev Γ l = some (.int kl li)) (hc : ev Γ c = some (.int kc ci)) (hb : 0 ≤ li ∧ li ≤ ci ∧ ci ≤ 9223372036854775807 ∧ bytes * ci ≤ 2 ^ 48)
    (hz : z.length = size) (h : ∀ b, VO P n rs (putE d (.slice (some ⟨b, 0, none⟩) li.toNat ci.toNat) Γ) (cellsAt b 0 (zeroRow ci.toNat z) :: H) Z K) : VO P n (⟨d, none, .mkslice t size bytes z l c⟩ :: rs) Γ H Z K := by
  refine VO.act rfl rfl (fun ρ hρ => ⟨_, rfl, ?_⟩)
  rw [hρ _ _ hl, hρ _ _ hc]
  simp only [hb, hz, and_self, if_true]
  refine mem_new (fun b => ⟨_, _, .inl rfl, ?_, h b⟩)
  simp
theorem st_bslice {t : TypeId} {len : Nat} {z : List Value} {ps : List (Nat × Nat × Operand)} {out : List Value} (hk : (ps.map (·.2.2)).all (known Γ) = true) (ho : putParts (zeroRow len z) (evParts (evD Γ) ps) = some out)
    (h : ∀ b, VO P n rs (putE d (.slice (some ⟨b, 0, none⟩) len len) Γ) (cellsAt b 0 out :: H) Z K) : VO P n (⟨d, none, .bslice t len z ps⟩ :: rs) Γ H Z K := by
  refine VO.act rfl rfl (fun ρ hρ => ⟨_, rfl, ?_⟩)
  have : evParts ρ ps = evParts (evD Γ) ps := by
    simp only [evParts]
    refine List.map_congr_left (fun p hp => ?_)
    obtain ⟨a, b, c⟩ := p
    have hc := List.all_eq_true.1 hk c (List.mem_map.2 ⟨_, hp, rfl⟩)
    simp [evD_of hc hρ]
  rw [this, ho]
  refine mem_new (fun b => ⟨_, _, .inl rfl, ?_, h b⟩)
  simp
theorem st_call {f : Nat} {xs : List Operand} {args : List Value} {Pre R : SH} {Q : Value → SH → Prop} (hf : Fun P f args Pre Q) (he : evs Γ xs = some args) (hs : Spl H Pre R)
    (h : ∀ v Post, Q v Post → VO P n rs (putE d v Γ) (Post ++ R) Z K) : VO P n (⟨d, none, .call f xs⟩ :: rs) Γ H Z K := VO.call hf he hs h
variable {Q : Exit → Env → SH → Prop} {keep : List Nat}
theorem VC.draw1 (h : VO P n rs Γ H (fun _ _ _ => False) fun Γ' H' => Q .normal (restr keep Γ') H') : VC P n (.draw [rs] keep) Γ H Q := VC.draw (by simpa using h)
theorem VC.draw2 {rs2 : List RO} (h : VO P n rs Γ H (fun _ _ _ => False) fun Γ' H' => Q .normal (restr keep Γ') H') (h2 : VO P n rs2 Γ H (fun _ _ _ => False) fun Γ' H' => Q .normal (restr keep Γ') H') : VC P n (.draw [rs, rs2] keep) Γ H Q := VC.draw (by simpa using ⟨h, h2⟩)
theorem VC.seq_reg {y : IC} (h : VO P n rs Γ H (fun ch Γ' H' => Q (.panic ch) Γ' H') fun Γ' H' => VC P n y (restr keep Γ') H' Q) : VC P n (.seq (.reg rs keep) y) Γ H Q := VC.seq (VC.reg h)
theorem VC.seq_draw1 {y : IC} (h : VO P n rs Γ H (fun _ _ _ => False) fun Γ' H' => VC P n y (restr keep Γ') H' Q) : VC P n (.seq (.draw [rs] keep) y) Γ H Q := VC.seq (VC.draw1 h)
theorem VC.seq_seq {x y z : IC} (h : VC P n (.seq x y) Γ H (thenQ (fun Γ' H' => VC P n z Γ' H' Q) Q)) : VC P n (.seq (.seq x y) z) Γ H Q := VC.seq h
theorem VC.seq_block {id : Nat} {x z : IC} (h : VC P n x Γ H (blockQ id (thenQ (fun Γ' H' => VC P n z Γ' H' Q) Q))) : VC P n (.seq (.block id x) z) Γ H Q := VC.seq (VC.block h)
theorem VC.seq_skip {y : IC} (h : VC P n y Γ H Q) : VC P n (.seq .skip y) Γ H Q := VC.seq (VC.skip h)
theorem VC.cond_t {c : Operand} {x y : IC} (hc : ev Γ c = some (.bool true)) (h : VC P n x Γ H Q) : VC P n (.cond c x y) Γ H Q := VC.cond hc (fun _ => h) (fun e => by cases e)
theorem VC.cond_f {c : Operand} {x y : IC} (hc : ev Γ c = some (.bool false)) (h : VC P n y Γ H Q) : VC P n (.cond c x y) Γ H Q := VC.cond hc (fun e => by cases e) (fun _ => h)
theorem VC.seq_cond {c : Operand} {x y z : IC} {t : Bool} (hc : ev Γ c = some (.bool t)) (ht : t = true → VC P n x Γ H (thenQ (fun Γ' H' => VC P n z Γ' H' Q) Q)) (hf : t = false → VC P n y Γ H (thenQ (fun Γ' H' => VC P n z Γ' H' Q) Q)) :
    VC P n (.seq (.cond c x y) z) Γ H Q := VC.seq (VC.cond hc ht hf)
end
theorem lnb : (∀ cs : List Value, putParts cs [] = some cs) ∧
    (∀ (cs : List Value) (o s : Nat) (v : Value) (r : List (Nat × Nat × Value)), putParts cs ((o, s, v) :: r) = if v.cells.size = s ∧ o + s ≤ cs.length then putParts (cs.take o ++ v.cells.toList ++ cs.drop (o + s)) r else none) ∧
    (∀ ρ : Operand → Value, evParts ρ [] = []) ∧ (∀ (ρ : Operand → Value) (o s : Nat) (x : Operand) (r : List (Nat × Nat × Operand)), evParts ρ ((o, s, x) :: r) = (o, s, ρ x) :: evParts ρ r) ∧
    (∀ (Γ : Env) (x : Operand), evD Γ x = (ev Γ x).getD undef) ∧ (∀ (Γ : Env) (t : Nat), ev Γ (.tmp t) = look Γ t) ∧ (∀ (Γ : Env) (v : Value), ev Γ (.const v) = some v) ∧
    (∀ (Γ : Env) (g : Nat), ev Γ (.global g) = some (.pointer (some ⟨g, 0, none⟩))) ∧ (∀ (Γ : Env) (f : Nat), ev Γ (.func f) = some (.func (.func f) #[] #[])) ∧
    (∀ (s t : Nat) (v : Value) (r : Env), look ((s, v) :: r) t = if s = t then some v else look r t) ∧ (∀ (d : Nat) (v : Value) (Γ : Env), putE (some d) v Γ = (d, v) :: Γ) ∧ (∀ (v : Value) (Γ : Env), putE none v Γ = Γ) ∧
    (∀ v d : Value, (some v).getD d = v) ∧ (∀ l : List Value, l.toArray.size = l.length) ∧ (∀ l : List Value, l.toArray.toList = l) ∧ (∀ (a : Value) (l : List Value), (a :: l).length = l.length + 1) ∧ (([] : List Value).length = 0) ∧
    (∀ (a : Value) (l : List Value) (n : Nat), (a :: l).take (n + 1) = a :: l.take n) ∧ (∀ l : List Value, l.take 0 = []) ∧ (∀ (a : Value) (l : List Value) (n : Nat), (a :: l).drop (n + 1) = l.drop n) ∧ (∀ l : List Value, l.drop 0 = l) ∧
    (∀ (a : Value) (l m : List Value), a :: l ++ m = a :: (l ++ m)) ∧ (∀ l : List Value, [] ++ l = l) ∧ (∀ l : List Value, l ++ [] = l) :=
  ⟨fun _ => rfl, fun _ _ _ _ _ => rfl, fun _ => rfl, fun _ _ _ _ _ => rfl, fun _ _ => rfl, fun _ _ => rfl, fun _ _ => rfl, fun _ _ => rfl, fun _ _ => rfl, fun _ _ _ _ => rfl, fun _ _ _ => rfl, fun _ _ => rfl, fun _ _ => rfl, fun _ => List.size_toArray, fun _ => rfl,
    fun _ _ => rfl, rfl, fun _ _ _ => rfl, fun _ => rfl, fun _ _ _ => rfl, fun _ => rfl, fun _ _ _ => rfl, fun _ => rfl, fun _ => List.append_nil _⟩
end Go.V

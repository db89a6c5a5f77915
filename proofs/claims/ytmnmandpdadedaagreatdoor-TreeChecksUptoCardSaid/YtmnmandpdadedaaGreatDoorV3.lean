/-
  The rules as they are used: one for each kind of operation; side conditions are met by themselves where they can be.
-/
import Derived.Test.YtmnmandpdadedaaGreatDoorV2
import Derived.DefersIn
import Derived.RecoverIn
set_option linter.unusedSimpArgs false
set_option linter.unusedVariables false
namespace Go.V
open Go
inductive Tk : SH -> List kE -> SH -> Prop where
  | here {A : List kE} {L : SH} : Tk (A :: L) A L
  | there {A B : List kE} {L R : SH} : Tk L A R -> Tk (B :: L) A (B :: R)
theorem jP (A B X : List kE) : (A ++ (B ++ X)).Perm (B ++ (A ++ X)) := by
  rw [<- List.append_assoc, <- List.append_assoc];exact List.Perm.append_right _ List.perm_append_comm
theorem Tk.perm {L R : SH} {A : List kE} (h : Tk L A R) : L.flatten.Perm (A ++ R.flatten) := by
  induction h with
  | here => simp
  | there _ ih =>
    simp only [List.flatten_cons];refine (List.Perm.append_left _ ih).trans ?_;rw [<- List.append_assoc, <- List.append_assoc];exact List.Perm.append_right _ List.perm_append_comm
theorem Spl.nil {H : SH} : Spl H [] H := by simp [Spl]
theorem Spl.cons {H R R' Pre : SH} {A : List kE} (h : Tk H A R) (k : Spl R Pre R') : Spl H (A :: Pre) R' := by
  simp only [Spl, List.flatten_cons, List.append_assoc];exact h.perm.trans (List.Perm.append_left _ k)
theorem Imp.nil {H : SH} : Imp H [] := ⟨H, by simp [Spl]⟩
theorem Imp.cons {H R Δ : SH} {A : List kE} (h : Tk H A R) (k : Imp R Δ) : Imp H (A :: Δ) := by
  obtain ⟨X, hX⟩ := k;refine ⟨X, ?_⟩;simp only [Spl, List.flatten_cons, List.append_assoc];exact h.perm.trans (List.Perm.append_left _ hX)
theorem Sub.nil {Γ : Env} : Sub Γ [] := fun t v h => by simp [look] at h
theorem Sub.cons {Γ Δ : Env} {t : Nat} {v : Value} (h : look Γ t = some v) (k : Sub Γ Δ) : Sub Γ ((t, v) :: Δ) := fun s u e => by
  simp only [look] at e;split at e
  · rename_i es;subst es;cases e;exact h
  · exact k s u e
theorem Sub.refl {Γ : Env} : Sub Γ Γ := fun _ _ h => h
inductive Has : SH -> Nat -> Nat -> Value -> Prop where
  | cells {b o k : Nat} {vs : List Value} {v : Value} {L : SH} : o <= k -> vs[k - o]? = some v -> Has (kA b o vs :: L) b k v
  | there {A : List kE} {L : SH} {b k : Nat} {v : Value} : Has L b k v -> Has (A :: L) b k v
  | among {A : List kE} {L : SH} {b k : Nat} {v : Value} : kE.cell b k v ∈ A -> Has (A :: L) b k v
theorem Has.mem {H : SH} {b k : Nat} {v : Value} (h : Has H b k v) : kE.cell b k v ∈ H.flatten := by
  induction h with
  | cells h1 h2 =>
    simp only [List.flatten_cons, List.mem_append];left;exact kb.2 ⟨_, _, h2, by congr 1;omega⟩
  | there _ ih => simp only [List.flatten_cons, List.mem_append];exact .inr ih
  | among h => simp only [List.flatten_cons, List.mem_append];exact .inl h
inductive HasN : SH -> Nat -> Nat -> List Value -> Prop where
  | cells {b o k n : Nat} {vs us : List Value} {L : SH} : o <= k -> (vs.drop (k - o)).take us.length = us -> us.length = n -> HasN (kA b o vs :: L) b k us
  | there {A : List kE} {L : SH} {b k : Nat} {us : List Value} : HasN L b k us -> HasN (A :: L) b k us
theorem HasN.mem {H : SH} {b k : Nat} {us : List Value} (h : HasN H b k us) : ∀ x ∈ kA b k us, x ∈ H.flatten := by
  induction h with
  | cells h1 h2 _ =>
    intro x hx;obtain ⟨i, v, hi, rfl⟩ := kb.1 hx;simp only [List.flatten_cons, List.mem_append];left;rw [<- h2] at hi;simp only [List.getElem?_take, List.getElem?_drop] at hi;split at hi
    · exact kb.2 ⟨_, v, hi, by congr 1;omega⟩
    · cases hi
  | there _ ih => intro x hx;simp only [List.flatten_cons, List.mem_append];exact .inr (ih x hx)
def evD (Γ : Env) (x : Operand) : Value := (ev Γ x).getD undef
def known (Γ : Env) (x : Operand) : Bool := (ev Γ x).isSome
theorem evD_of {Γ : Env} {x : Operand} {ρ : Operand -> Value} (h : known Γ x = true) (hρ : ∀ x u, ev Γ x = some u -> ρ x = u) : ρ x = evD Γ x := by
  obtain ⟨u, hu⟩ := Option.isSome_iff_exists.1 h;simp [evD, hu, hρ _ _ hu]
def ptr (b o : Nat) : Value := .pointer (some ⟨b, o, none⟩)
section
variable {P : Program} {n : Nat} {rs : List RO} {Γ Δ : Env} {H : SH} {Z : List PanicEntry -> Env -> SH -> Prop} {K : Env -> SH -> Prop} {d : Option Nat} {g : Option (Nat × Bool)}
theorem st_pure {r : R} {v : Value} (hp : jC r = true) (hk : (rOps r).all (known Γ) = true) (hv : kZ (evD Γ) r = some v) (h : VO P n rs (putE d v Γ) H Z K) : VO P n (⟨d, none, r⟩ :: rs) Γ H Z K :=
  VO.pure hp (fun ρ hρ => by
    rw [<- hv];exact pureV_congr hp (fun x hx => evD_of (List.all_eq_true.1 hk x hx) hρ)) h
theorem ka {x : Operand} {v : Value} (hx : ev Γ x = some v) (h : VO P n rs (putE d v Γ) H Z K) : VO P n (⟨d, none, .mv x⟩ :: rs) Γ H Z K :=
  VO.pure rfl (fun ρ hρ => by simp [kZ, hρ _ _ hx]) h
theorem kQ {off : Nat} {x : Operand} {b o o' : Nat} (hx : ev Γ x = some (.pointer (some ⟨b, o, none⟩))) (ho : o + off = o') (h : VO P n rs (putE d (.pointer (some ⟨b, o', none⟩)) Γ) H Z K) : VO P n (⟨d, none, .fld off x⟩ :: rs) Γ H Z K :=
  VO.pure rfl (fun ρ hρ => by simp [kZ, hρ _ _ hx, ho]) h
theorem st_nil {x : Operand} {a : Addr} (hx : ev Γ x = some (.pointer (some a))) (h : VO P n rs (putE d (.pointer (some a)) Γ) H Z K) : VO P n (⟨d, none, .nilck x⟩ :: rs) Γ H Z K :=
  VO.pure rfl (fun ρ hρ => by simp [kZ, hρ _ _ hx]) h
theorem wrap64 {z : Int} (h : -9223372036854775808 <= z /\ z <= 9223372036854775807) : IntKind.i64.wrap z = z := by
  simp only [IntKind.wrap, IntKind.bits, IntKind.signed];simp;omega
theorem st_add {x y : Operand} {a b : Int} (hx : ev Γ x = some (.int .i64 a)) (hy : ev Γ y = some (.int .i64 b)) (hr : -9223372036854775808 <= a + b /\ a + b <= 9223372036854775807) (h : VO P n rs (putE d (.int .i64 (a + b)) Γ) H Z K) :
    VO P n (⟨d, none, .bin .add x y⟩ :: rs) Γ H Z K :=
  VO.pure rfl (fun ρ hρ => by simp [kZ, hρ _ _ hx, hρ _ _ hy, zg, intV, wrap64 hr]) h
theorem st_sub {x y : Operand} {a b : Int} (hx : ev Γ x = some (.int .i64 a)) (hy : ev Γ y = some (.int .i64 b)) (hr : -9223372036854775808 <= a - b /\ a - b <= 9223372036854775807) (h : VO P n rs (putE d (.int .i64 (a - b)) Γ) H Z K) :
    VO P n (⟨d, none, .bin .sub x y⟩ :: rs) Γ H Z K :=
  VO.pure rfl (fun ρ hρ => by simp [kZ, hρ _ _ hx, hρ _ _ hy, zg, intV, wrap64 hr]) h
theorem st_mul {x y : Operand} {a b : Int} (hx : ev Γ x = some (.int .i64 a)) (hy : ev Γ y = some (.int .i64 b)) (hr : -9223372036854775808 <= a * b /\ a * b <= 9223372036854775807) (h : VO P n rs (putE d (.int .i64 (a * b)) Γ) H Z K) :
    VO P n (⟨d, none, .bin .mul x y⟩ :: rs) Γ H Z K :=
  VO.pure rfl (fun ρ hρ => by simp [kZ, hρ _ _ hx, hρ _ _ hy, zg, intV, wrap64 hr]) h
theorem st_rem {x y : Operand} {k : IntKind} {a b : Int} (hx : ev Γ x = some (.int k a)) (hy : ev Γ y = some (.int k b)) (hr : b ≠ 0) (h : VO P n rs (putE d (.int k (a.tmod b)) Γ) H Z K) :
    VO P n (⟨d, none, .bin .rem x y⟩ :: rs) Γ H Z K :=
  VO.pure rfl (fun ρ hρ => by simp [kZ, hρ _ _ hx, hρ _ _ hy, zg, intV, hr]) h
theorem st_conv {k k' : IntKind} {x : Operand} {a b : Int} (hx : ev Γ x = some (.int k' a)) (hr : k.wrap a = b) (h : VO P n rs (putE d (.int k b) Γ) H Z K) : VO P n (⟨d, none, .conv k x⟩ :: rs) Γ H Z K :=
  VO.pure rfl (fun ρ hρ => by simp [kZ, hρ _ _ hx, hr]) h
theorem jf {size : Nat} {x i : Operand} {b o o' len cap : Nat} {k : IntKind} {m : Int} (hx : ev Γ x = some (.slice (some ⟨b, o, none⟩) len cap)) (hi : ev Γ i = some (.int k m)) (hb : 0 <= m /\ m < len)
    (ho : o + m.toNat * size = o') (h : VO P n rs (putE d (.pointer (some ⟨b, o', none⟩)) Γ) H Z K) : VO P n (⟨d, none, .idxL size x i⟩ :: rs) Γ H Z K :=
  VO.pure rfl (fun ρ hρ => by simp [kZ, hρ _ _ hx, hρ _ _ hi, hb, ho]) h
theorem st_idxA {len size : Nat} {x i : Operand} {b o o' : Nat} {k : IntKind} {m : Int} (hx : ev Γ x = some (.pointer (some ⟨b, o, none⟩))) (hi : ev Γ i = some (.int k m)) (hb : 0 <= m /\ m < len)
    (ho : o + m.toNat * size = o') (h : VO P n rs (putE d (.pointer (some ⟨b, o', none⟩)) Γ) H Z K) : VO P n (⟨d, none, .idxA len size x i⟩ :: rs) Γ H Z K :=
  VO.pure rfl (fun ρ hρ => by simp [kZ, hρ _ _ hx, hρ _ _ hi, hb, ho]) h
theorem jY {x i : Operand} {s : ByteArray} {k : IntKind} {m : Int} {j : Nat} {c : UInt8} (hx : ev Γ x = some (.string s)) (hi : ev Γ i = some (.int k m)) (hm : m = (j : Int)) (hc : s[j]? = some c)
    (h : VO P n rs (putE d (.int .u8 c.toNat) Γ) H Z K) : VO P n (⟨d, none, .idxS x i⟩ :: rs) Γ H Z K :=
  VO.pure rfl (fun ρ hρ => by subst hm;simp [kZ, hρ _ _ hx, hρ _ _ hi, hc]) h
theorem wM {c a b : Operand} {v : Value} (hc : ev Γ c = some (.bool true)) (ha : ev Γ a = some v) (h : VO P n rs (putE d v Γ) H Z K) : VO P n (⟨d, none, .pick c a b⟩ :: rs) Γ H Z K :=
  VO.pure rfl (fun ρ hρ => by simp [kZ, hρ _ _ hc, hρ _ _ ha]) h
theorem w7 {c a b : Operand} {v : Value} (hc : ev Γ c = some (.bool false)) (hb : ev Γ b = some v) (h : VO P n rs (putE d v Γ) H Z K) : VO P n (⟨d, none, .pick c a b⟩ :: rs) Γ H Z K :=
  VO.pure rfl (fun ρ hρ => by simp [kZ, hρ _ _ hc, hρ _ _ hb]) h
theorem st_case {s : Nat} {c : Bool} (hs : look Γ s = some (.bool c)) (ht : c = true -> VO P n rs ((s, .bool true) :: Γ) H Z K) (hf : c = false -> VO P n rs ((s, .bool false) :: Γ) H Z K) : VO P n rs Γ H Z K := by
  cases c with
  | true => exact VO.sub (Sub.cons hs Sub.refl) (ht rfl)
  | false => exact VO.sub (Sub.cons hs Sub.refl) (hf rfl)
theorem jS {r : R} {s : Nat} {b : Bool} (hs : look Γ s = some (.bool b)) (h : VO P n (⟨d, none, r⟩ :: rs) Γ H Z K) : VO P n (⟨d, some (s, b), r⟩ :: rs) Γ H Z K := by
  intro l hl a w F ZZ Q ha hsat hq hz;obtain ⟨o, l', rfl, hl', ops, ho⟩ := wu hl;obtain ⟨g1, g2, g3, g4⟩ := j6 ho;have hw : kw (some (s, b)) a = true := by simp [kw, ha.slots _ _ hs]
  have := h ((⟨d, none, r⟩, { o with guard := none }) :: l') ⟨by simp [hl'.1], fun x hx => by
    rcases List.mem_cons.1 hx with rfl | hx
    · refine ⟨ops, ?_⟩;have hd : o.dst.all (fun x => decide (x < n)) = true := by
        rw [<- g2];cases hdd : d with
        | none => rfl
        | some t => have := g3 t hdd;simpa using this
      simp only at g2 g1;simp [lowRO, g1, hd, g2]
    · exact hl'.2 x hx⟩ a w F ZZ Q ha hsat hq hz
  have hself : jX P ZZ (⟨d, none, r⟩, { o with guard := none }) (wpR P ZZ Q l') a w := this;show jX P ZZ (⟨d, some (s, b), r⟩, o) (wpR P ZZ Q l') a w;unfold jX at hself |-;rw [if_pos (show kw _ a = true from hw)];rw [if_pos (show kw none a = true from rfl)] at hself;exact hself
theorem wk {r : R} {s : Nat} {b c : Bool} (hs : look Γ s = some (.bool c)) (hc : (c == b) = false) (h : VO P n rs (putE d undef Γ) H Z K) : VO P n (⟨d, some (s, b), r⟩ :: rs) Γ H Z K := by
  intro l hl a w F ZZ Q ha hsat hq hz;obtain ⟨o, l', rfl, hl', ops, ho⟩ := wu hl;obtain ⟨g1, g2, g3, g4⟩ := j6 ho;have hw : kw (some (s, b)) a = false := by simpa [kw, ha.slots _ _ hs] using hc
  show jX P ZZ (⟨d, some (s, b), r⟩, o) (wpR P ZZ Q l') a w;unfold jX;rw [if_neg (by simp [hw])];exact h l' hl' _ w F ZZ Q (ha.putE g3 undef) hsat (fun a2 w2 Γ2 H2 k1 k2 k3 k4 k5 => hq a2 w2 Γ2 H2 k1 k2 (k3.trans (ky ..)) k4 k5) (fun ch a2 w2 Γ2 H2 k1 k2 k3 k4 k5 => hz ch a2 w2 Γ2 H2 k1 k2 (k3.trans (ky ..)) k4 k5)
theorem kI {x : Operand} {b o : Nat} {v : Value} (hx : ev Γ x = some (.pointer (some ⟨b, o, none⟩))) (hm : Has H b o v) (h : VO P n rs (putE d v Γ) H Z K) : VO P n (⟨d, none, .load1 x⟩ :: rs) Γ H Z K :=
  VO.read rfl rfl (fun ρ hρ => ⟨_, rfl, fun F w hs => by
    have := (hs.cell (Zw F hm.mem)).1;simp [hρ _ _ hx, Instr.sureAddr, this]⟩) h
theorem st_loadN {m : Nat} {x : Operand} {b o : Nat} {us : List Value} (hx : ev Γ x = some (.pointer (some ⟨b, o, none⟩))) (hm : HasN H b o us) (hn : us.length = m) (h : VO P n rs (putE d (.agg us.toArray) Γ) H Z K) : VO P n (⟨d, none, .loadN m x⟩ :: rs) Γ H Z K :=
  VO.read rfl rfl (fun ρ hρ => ⟨_, rfl, fun F w hs => by
    simp [hρ _ _ hx, Instr.sureAddr, zF hn hm.mem hs]⟩) h
inductive Upd : SH -> Nat -> Nat -> List Value -> SH -> Prop where
  | cells {b o k : Nat} {vs us ws : List Value} {L : SH} : o <= k -> k - o + us.length <= vs.length -> vs.take (k - o) ++ us ++ vs.drop (k - o + us.length) = ws -> Upd (kA b o vs :: L) b k us (kA b o ws :: L)
  | there {A : List kE} {L L' : SH} {b k : Nat} {us : List Value} : Upd L b k us L' -> Upd (A :: L) b k us (A :: L')
theorem Upd.split {H H' : SH} {b k : Nat} {us : List Value} (h : Upd H b k us H') : ∃ (old : List Value) (R : List kE), old.length = us.length /\ H.flatten.Perm (kA b k old ++ R) /\ H'.flatten.Perm (kA b k us ++ R) := by
  induction h with
  | @cells b o k vs us ws L h1 h2 h3 =>
    subst h3;have hvs : vs = vs.take (k - o) ++ ((vs.drop (k - o)).take us.length ++ vs.drop (k - o + us.length)) := by
      rw [<- List.drop_drop, List.take_append_drop, List.take_append_drop]
    have hl : (vs.take (k - o)).length = k - o := by simp;omega
    have hl2 : ((vs.drop (k - o)).take us.length).length = us.length := by simp;omega
    have hk : o + (k - o) = k := by omega
    refine ⟨(vs.drop (k - o)).take us.length, kA b o (vs.take (k - o)) ++ (kA b (k + us.length) (vs.drop (k - o + us.length)) ++ L.flatten), hl2, ?_, ?_⟩
    · have e : kA b o vs = kA b o (vs.take (k - o)) ++ (kA b k ((vs.drop (k - o)).take us.length) ++ kA b (k + us.length) (vs.drop (k - o + us.length))) := by
        conv => lhs;rw [hvs]
        rw [kW, hl, hk, kW, hl2]
      simp only [List.flatten_cons, e, List.append_assoc];exact jP _ _ _
    · simp only [List.flatten_cons, kW, hl, hk, List.append_assoc];exact jP _ _ _
  | @there A L L' b k us _ ih =>
    obtain ⟨old, R, h1, h2, h3⟩ := ih;refine ⟨old, A ++ R, h1, ?_, ?_⟩
    · simp only [List.flatten_cons];refine (List.Perm.append_left A h2).trans ?_;rw [<- List.append_assoc, <- List.append_assoc];exact List.Perm.append_right _ List.perm_append_comm
    · simp only [List.flatten_cons];refine (List.Perm.append_left A h3).trans ?_;rw [<- List.append_assoc, <- List.append_assoc];exact List.Perm.append_right _ List.perm_append_comm
theorem st_store {m : Nat} {x y : Operand} {b o : Nat} {v : Value} {H' : SH} (hx : ev Γ x = some (.pointer (some ⟨b, o, none⟩))) (hy : ev Γ y = some v) (hn : v.cells.size = m) (hone : v.cells.toList.all zj = true)
    (hu : Upd H b o v.cells.toList H') (h : VO P n rs (putE d undef Γ) H' Z K) : VO P n (⟨d, none, .store m x y⟩ :: rs) Γ H Z K := by
  refine VO.act rfl rfl (fun ρ hρ => ⟨_, rfl, ?_⟩);obtain ⟨old, R, h1, h2, h3⟩ := hu.split;refine SWP.perm h2 ?_;have hρy : ρ y = v := hρ _ _ hy;have := mem_store (P := P) (ρ := ρ) (n := m) (x := x) (v := y) (us := old) (R := R) (b := b) (o := o) (K := fun nx L => ∃ v H', (nx = .value v ∨ (nx = .skip /\ v = undef)) /\ L.Perm H'.flatten /\ VO P n rs (putE d v Γ) H' Z K)
    (hρ _ _ hx) (by rw [hρy];exact hn) (by rw [h1];simpa using hn) (by rw [hρy];exact List.all_eq_true.1 hone) ⟨undef, H', .inr ⟨rfl, rfl⟩, by rw [hρy];exact h3.symm, h⟩
  exact this
theorem jD {m : Nat} {x y : Operand} {b o : Nat} {v : Value} {us : List Value} {H' : SH} (hx : ev Γ x = some (.pointer (some ⟨b, o, none⟩))) (hy : ev Γ y = some v) (hv : v.cells.toList = us) (hn : us.length = m) (hone : us.all zj = true)
    (hu : Upd H b o us H') (h : VO P n rs (putE d undef Γ) H' Z K) : VO P n (⟨d, none, .store m x y⟩ :: rs) Γ H Z K := by
  subst hv;exact st_store hx hy (by simpa using hn) hone hu h
theorem st_build {z : List Value} {ps : List (Nat × Nat × Operand)} {out : List Value} (hk : (ps.map (·.2.2)).all (known Γ) = true) (ho : wo z (jj (evD Γ) ps) = some out)
    (h : VO P n rs (putE d (.agg out.toArray) Γ) H Z K) : VO P n (⟨d, none, .build z ps⟩ :: rs) Γ H Z K := by
  refine VO.pure rfl (fun ρ hρ => ?_) h;have : jj ρ ps = jj (evD Γ) ps := by
    simp only [jj];refine List.map_congr_left (fun p hp => ?_);obtain ⟨a, b, c⟩ := p;have hc := List.all_eq_true.1 hk c (List.mem_map.2 ⟨_, hp, rfl⟩);simp [evD_of hc hρ]
  simp [kZ, this, ho]
theorem kS {t : TypeId} {x : Operand} {v : Value} (hx : ev Γ x = some v) (h : ∀ b, VO P n rs (putE d (.pointer (some ⟨b, 0, none⟩)) Γ) (kA b 0 v.cells.toList :: H) Z K) : VO P n (⟨d, none, .box t x⟩ :: rs) Γ H Z K := by
  refine VO.act rfl rfl (fun ρ hρ => ⟨_, rfl, ?_⟩);refine mem_new (fun b => ⟨_, _, .inl rfl, ?_, h b⟩);rw [hρ _ _ hx];simp
theorem kP {t : TypeId} {z : List Value} (h : ∀ b, VO P n rs (putE d (.pointer (some ⟨b, 0, none⟩)) Γ) (kA b 0 z :: H) Z K) : VO P n (⟨d, none, .alloc t z⟩ :: rs) Γ H Z K := by
  refine VO.act rfl rfl (fun ρ hρ => ⟨_, rfl, ?_⟩);refine mem_new (fun b => ⟨_, _, .inl rfl, ?_, h b⟩);simp
theorem st_mkmap (h : ∀ b, VO P n rs (putE d (.map (some b)) Γ) ([.obj b (.map #[] 0)] :: H) Z K) : VO P n (⟨d, none, .mkmap⟩ :: rs) Γ H Z K := by
  refine VO.act rfl rfl (fun ρ hρ => ⟨_, rfl, ?_⟩);refine mem_newObj rfl (fun b => ⟨_, _, .inl rfl, ?_, h b⟩);simp
theorem st_mkslice {t : TypeId} {size bytes : Nat} {z : List Value} {l c : Operand} {kl kc : IntKind} {li ci : Int} (hl : ev Γ l = some (.int kl li)) (hc : ev Γ c = some (.int kc ci)) (hb : 0 <= li /\ li <= ci /\ ci <= 9223372036854775807 /\ bytes * ci <= 2 ^ 48)
    (hz : z.length = size) (h : ∀ b, VO P n rs (putE d (.slice (some ⟨b, 0, none⟩) li.toNat ci.toNat) Γ) (kA b 0 (kd ci.toNat z) :: H) Z K) : VO P n (⟨d, none, .mkslice t size bytes z l c⟩ :: rs) Γ H Z K := by
  refine VO.act rfl rfl (fun ρ hρ => ⟨_, rfl, ?_⟩);rw [hρ _ _ hl, hρ _ _ hc];simp only [hb, hz, and_self, if_true];refine mem_new (fun b => ⟨_, _, .inl rfl, ?_, h b⟩);simp
theorem ki {t : TypeId} {len : Nat} {z : List Value} {ps : List (Nat × Nat × Operand)} {out : List Value} (hk : (ps.map (·.2.2)).all (known Γ) = true) (ho : wo (kd len z) (jj (evD Γ) ps) = some out)
    (h : ∀ b, VO P n rs (putE d (.slice (some ⟨b, 0, none⟩) len len) Γ) (kA b 0 out :: H) Z K) : VO P n (⟨d, none, .bslice t len z ps⟩ :: rs) Γ H Z K := by
  refine VO.act rfl rfl (fun ρ hρ => ⟨_, rfl, ?_⟩);have : jj ρ ps = jj (evD Γ) ps := by
    simp only [jj];refine List.map_congr_left (fun p hp => ?_);obtain ⟨a, b, c⟩ := p;have hc := List.all_eq_true.1 hk c (List.mem_map.2 ⟨_, hp, rfl⟩);simp [evD_of hc hρ]
  rw [this, ho];refine mem_new (fun b => ⟨_, _, .inl rfl, ?_, h b⟩);simp
theorem kD {f : Nat} {xs : List Operand} {args : List Value} {Pre R : SH} {Q : Value -> SH -> Prop} (hf : Fun P f args Pre Q) (he : evs Γ xs = some args) (hs : Spl H Pre R)
    (h : ∀ v Post, Q v Post -> VO P n rs (putE d v Γ) (Post ++ R) Z K) : VO P n (⟨d, none, .call f xs⟩ :: rs) Γ H Z K := VO.call hf he hs h
variable {Q : Exit -> Env -> SH -> Prop} {keep : List Nat}
theorem VC.draw1 (h : VO P n rs Γ H (fun _ _ _ => False) fun Γ' H' => Q .normal (restr keep Γ') H') : VC P n (.draw [rs] keep) Γ H Q := VC.draw (by simpa using h)
theorem VC.seq_reg {y : IC} (h : VO P n rs Γ H (fun ch Γ' H' => Q (.panic ch) Γ' H') fun Γ' H' => VC P n y (restr keep Γ') H' Q) : VC P n (.seq (.reg rs keep) y) Γ H Q := VC.seq (VC.reg h)
theorem VC.seq_draw1 {y : IC} (h : VO P n rs Γ H (fun _ _ _ => False) fun Γ' H' => VC P n y (restr keep Γ') H' Q) : VC P n (.seq (.draw [rs] keep) y) Γ H Q := VC.seq (VC.draw1 h)
theorem VC.seq_seq {x y z : IC} (h : VC P n (.seq x y) Γ H (thenQ (fun Γ' H' => VC P n z Γ' H' Q) Q)) : VC P n (.seq (.seq x y) z) Γ H Q := VC.seq h
theorem VC.seq_block {id : Nat} {x z : IC} (h : VC P n x Γ H (blockQ id (thenQ (fun Γ' H' => VC P n z Γ' H' Q) Q))) : VC P n (.seq (.block id x) z) Γ H Q := VC.seq (VC.block h)
theorem VC.seq_skip {y : IC} (h : VC P n y Γ H Q) : VC P n (.seq .skip y) Γ H Q := VC.seq (VC.skip h)
theorem VC.cond_t {c : Operand} {x y : IC} (hc : ev Γ c = some (.bool true)) (h : VC P n x Γ H Q) : VC P n (.cond c x y) Γ H Q := VC.cond hc (fun _ => h) (fun e => by cases e)
theorem VC.cond_f {c : Operand} {x y : IC} (hc : ev Γ c = some (.bool false)) (h : VC P n y Γ H Q) : VC P n (.cond c x y) Γ H Q := VC.cond hc (fun e => by cases e) (fun _ => h)
theorem VC.seq_cond {c : Operand} {x y z : IC} {t : Bool} (hc : ev Γ c = some (.bool t)) (ht : t = true -> VC P n x Γ H (thenQ (fun Γ' H' => VC P n z Γ' H' Q) Q)) (hf : t = false -> VC P n y Γ H (thenQ (fun Γ' H' => VC P n z Γ' H' Q) Q)) :
    VC P n (.seq (.cond c x y) z) Γ H Q := VC.seq (VC.cond hc ht hf)
end
theorem lnb : (∀ cs : List Value, wo cs [] = some cs) /\
    (∀ (cs : List Value) (o s : Nat) (v : Value) (r : List (Nat × Nat × Value)), wo cs ((o, s, v) :: r) = if v.cells.size = s /\ o + s <= cs.length then wo (cs.take o ++ v.cells.toList ++ cs.drop (o + s)) r else none) /\
    (∀ ρ : Operand -> Value, jj ρ [] = []) /\ (∀ (ρ : Operand -> Value) (o s : Nat) (x : Operand) (r : List (Nat × Nat × Operand)), jj ρ ((o, s, x) :: r) = (o, s, ρ x) :: jj ρ r) /\
    (∀ (Γ : Env) (x : Operand), evD Γ x = (ev Γ x).getD undef) /\ (∀ (Γ : Env) (t : Nat), ev Γ (.tmp t) = look Γ t) /\ (∀ (Γ : Env) (v : Value), ev Γ (.const v) = some v) /\
    (∀ (Γ : Env) (g : Nat), ev Γ (.global g) = some (.pointer (some ⟨g, 0, none⟩))) /\ (∀ (Γ : Env) (f : Nat), ev Γ (.func f) = some (.func (.func f) #[] #[])) /\
    (∀ (s t : Nat) (v : Value) (r : Env), look ((s, v) :: r) t = if s = t then some v else look r t) /\ (∀ (d : Nat) (v : Value) (Γ : Env), putE (some d) v Γ = (d, v) :: Γ) /\ (∀ (v : Value) (Γ : Env), putE none v Γ = Γ) /\
    (∀ v d : Value, (some v).getD d = v) /\ (∀ l : List Value, l.toArray.size = l.length) /\ (∀ l : List Value, l.toArray.toList = l) /\ (∀ (a : Value) (l : List Value), (a :: l).length = l.length + 1) /\ (([] : List Value).length = 0) /\
    (∀ (a : Value) (l : List Value) (n : Nat), (a :: l).take (n + 1) = a :: l.take n) /\ (∀ l : List Value, l.take 0 = []) /\ (∀ (a : Value) (l : List Value) (n : Nat), (a :: l).drop (n + 1) = l.drop n) /\ (∀ l : List Value, l.drop 0 = l) /\
    (∀ (a : Value) (l m : List Value), a :: l ++ m = a :: (l ++ m)) /\ (∀ l : List Value, [] ++ l = l) /\ (∀ l : List Value, l ++ [] = l) :=
  ⟨fun _ => rfl, fun _ _ _ _ _ => rfl, fun _ => rfl, fun _ _ _ _ _ => rfl, fun _ _ => rfl, fun _ _ => rfl, fun _ _ => rfl, fun _ _ => rfl, fun _ _ => rfl, fun _ _ _ _ => rfl, fun _ _ _ => rfl, fun _ _ => rfl, fun _ _ => rfl, fun _ => List.size_toArray, fun _ => rfl,
    fun _ _ => rfl, rfl, fun _ _ _ => rfl, fun _ => rfl, fun _ _ _ => rfl, fun _ => rfl, fun _ _ _ => rfl, fun _ => rfl, fun _ => List.append_nil _⟩
end Go.V
namespace Go.V
open Go
def mget {κ β : Type} [DecidableEq κ] (k : κ) : List (κ × β) -> Option β
  | [] => none
  | (a, v) :: r => if a = k then some v else mget k r
def mset {κ β : Type} [DecidableEq κ] (k : κ) (v : β) : List (κ × β) -> List (κ × β)
  | [] => [(k, v)]
  | (a, u) :: r => if a = k then (a, v) :: r else (a, u) :: mset k v r
def mdel {κ β : Type} [DecidableEq κ] (k : κ) : List (κ × β) -> List (κ × β)
  | [] => []
  | (a, u) :: r => if a = k then r else (a, u) :: mdel k r
structure KEnc (κ : Type) [DecidableEq κ] where
  sk : SK
  enc : κ -> Value
  same : ∀ a b, sameK sk (enc a) (enc b) = some (decide (a = b))
def kStr : KEnc ByteArray := ⟨.str, .string, fun _ _ => rfl⟩
def lookV (ok : Bool) (zero : Value) : Option Value -> Value
  | some v => if ok then .tuple #[v, .bool true] else v
  | none => if ok then .tuple #[zero, .bool false] else zero
section
variable {κ β : Type} [DecidableEq κ] {E : KEnc κ} {V : β -> Value}
def MapOf (E : KEnc κ) (V : β -> Value) (es : List MapEntry) (m : List (κ × β)) : Prop := es.map (fun e => (e.key, e.val)) = m.map fun p => (E.enc p.1, V p.2)
structure MapIs (E : KEnc κ) (V : β -> Value) (es : Array MapEntry) (c : Nat) (m : List (κ × β)) : Prop where
  of : MapOf E V es.toList m
  born : es.toList.Pairwise fun a b => a.born < b.born
  clock : ∀ e ∈ es.toList, e.born < c
theorem MapIs.nil : MapIs E V #[] 0 [] := ⟨rfl, .nil, Zs⟩
theorem find_of {k : κ} : ∀ {es : List MapEntry} {m : List (κ × β)} {i : Nat}, MapOf E V es m ->
    ∃ r, findK E.sk (E.enc k) es i = some r /\ r.map (·.2) = (mget k m).map V /\ ∀ j v, r = some (j, v) -> i <= j /\ j - i < es.length /\ ∃ e, es[j - i]? = some e /\ e.key = E.enc k /\
      (∀ e' u, e'.val = V u -> (MapOf E V (es.set (j - i) e') (mset k u m) ↔ e'.key = E.enc k)) /\ MapOf E V (es.eraseIdx (j - i)) (mdel k m) := by
  intro es
  induction es with
  | nil =>
    intro m i h;cases m with
    | nil => exact ⟨none, rfl, rfl, fun _ _ h => by cases h⟩
    | cons p m => simp [MapOf] at h
  | cons e es ih =>
    intro m i h;cases m with
    | nil => simp [MapOf] at h
    | cons p m =>
      obtain ⟨a, u⟩ := p;simp only [MapOf, List.map_cons, List.cons.injEq, Prod.mk.injEq] at h;obtain ⟨⟨h1, h2⟩, h3⟩ := h;simp only [findK, h1, E.same, h2];by_cases ek : k = a
      · subst ek;refine ⟨some (i, V u), Zs, by simp [mget], fun j v hj => ?_⟩;cases hj;refine ⟨Nat.le_refl _, Zs, e, Zs, h1, fun e' u' he' => ?_, ?_⟩
        · simp only [Nat.sub_self, List.set_cons_zero, mset, if_true, MapOf, List.map_cons, List.cons.injEq, Prod.mk.injEq, he', and_true];exact ⟨fun h => h.1, fun h => ⟨h, h3⟩⟩
        · simpa [mdel, MapOf] using h3
      · obtain ⟨r, f1, f2, f3⟩ := ih (m := m) (i := i + 1) h3;have ea : ¬ a = k := fun e => ek e.symm
        refine ⟨r, by simp [ek, f1], by simp [mget, ea, f2], fun j v hj => ?_⟩;obtain ⟨g1, g2, x, g3, g4, g5, g6⟩ := f3 j v hj;have hji : j - i = (j - (i + 1)) + 1 := by omega
        refine ⟨Zo, by simp;omega, x, by rw [hji];simpa using g3, g4, fun e' u' he' => ?_, ?_⟩
        · rw [hji];simp only [List.set_cons_succ, mset, ea, if_false, MapOf, List.map_cons, List.cons.injEq, h1, h2, true_and];exact g5 e' u' he'
        · rw [hji];simp only [List.eraseIdx_cons_succ, mdel, ea, if_false, MapOf, List.map_cons, List.cons.injEq, h1, h2, true_and];exact g6
theorem mget_none_mset {k : κ} {v : β} : ∀ {m : List (κ × β)}, mget k m = none -> mset k v m = m ++ [(k, v)] := by
  intro m
  induction m with
  | nil => intro _;rfl
  | cons p m ih =>
    obtain ⟨a, u⟩ := p;intro h;simp only [mget] at h;split at h
    · cases h
    · rename_i hn;simp [mset, hn, ih h]
theorem MapIs.modify {es : Array MapEntry} {c : Nat} {m : List (κ × β)} (h : MapIs E V es c m) {k : κ} {j : Nat} {u key : Value} {v : β} (hf : findK E.sk (E.enc k) es.toList 0 = some (some (j, u))) (hk : key = E.enc k) :
    MapIs E V (es.modify j fun e => { e with key, val := V v }) c (mset k v m) := by
  subst hk;obtain ⟨r, f1, f2, f3⟩ := find_of (k := k) (i := 0) h.of;rw [hf] at f1;cases f1;obtain ⟨_, g2, e, g3, g4, g5, _⟩ := f3 j u rfl;simp only [Nat.sub_zero] at g2 g3 g5;have hl : (es.modify j fun e => { e with key := E.enc k, val := V v }).toList = es.toList.set j { e with key := E.enc k, val := V v } := by
    apply List.ext_getElem?;intro i;rw [Array.getElem?_toList, Array.getElem?_modify, List.getElem?_set];by_cases hi : j = i
    · subst hi;have : es[j]? = some e := by simpa using g3
      have g2' : j < es.size := by simpa using g2
      have ge : es[j] = e := by rw [Array.getElem?_eq_getElem g2'] at this;exact Option.some.inj this
      simp [g2', ge]
    · simp [hi]
  have hborn : (es.toList.set j { e with key := E.enc k, val := V v }).map (·.born) = es.toList.map (·.born) := by
    apply List.ext_getElem?;intro i;simp only [List.getElem?_map, List.getElem?_set];by_cases hi : j = i
    · subst hi;have g2' : j < es.size := by simpa using g2
      have : es[j]? = some e := by simpa using g3
      have ge : es[j] = e := by rw [Array.getElem?_eq_getElem g2'] at this;exact Option.some.inj this
      simp [g2', ge]
    · simp [hi]
  refine ⟨?_, ?_, ?_⟩
  · rw [hl];exact (g5 { e with key := E.enc k, val := V v } v rfl).2 rfl
  · rw [hl];have hp := h.born;have e1 : ∀ l : List MapEntry, l.Pairwise (fun a b => a.born < b.born) ↔ (l.map MapEntry.born).Pairwise (· < ·) := fun l => List.pairwise_map.symm
    rw [e1] at hp |-;have hb2 : (es.toList.set j { e with key := E.enc k, val := V v }).map MapEntry.born = es.toList.map MapEntry.born := hborn;rw [hb2];exact hp
  · rw [hl];intro x hx;have : x.born ∈ (es.toList.set j { e with key := E.enc k, val := V v }).map (·.born) := List.mem_map.2 ⟨x, hx, rfl⟩;rw [hborn] at this;obtain ⟨y, hy, hyb⟩ := List.mem_map.1 this;rw [<- hyb];exact h.clock y hy
theorem MapIs.push {es : Array MapEntry} {c : Nat} {m : List (κ × β)} (h : MapIs E V es c m) {k : κ} {v : β} (hn : mget k m = none) :
    MapIs E V (es.push { key := E.enc k, val := V v, born := c }) (c + 1) (mset k v m) := by
  refine ⟨?_, ?_, ?_⟩
  · rw [mget_none_mset hn];have := h.of;simp only [MapOf] at this |-;simp [this]
  · rw [Array.toList_push, List.pairwise_append];refine ⟨h.born, Zs, fun a ha b hb => ?_⟩;rw [List.mem_singleton.1 hb];exact h.clock a ha
  · intro e he;rw [Array.toList_push, List.mem_append] at he;rcases he with he | he
    · exact Nat.lt_succ_of_lt (h.clock e he)
    · rw [List.mem_singleton.1 he];exact Nat.lt_succ_self c
variable {P : Program} {n : Nat} {rs : List RO} {Γ : Env} {H : SH} {Z : List PanicEntry -> Env -> SH -> Prop} {K : Env -> SH -> Prop} {d : Option Nat}
inductive HasO : SH -> Nat -> Obj -> Prop where
  | here {b : Nat} {o : Obj} {L : SH} : HasO ([.obj b o] :: L) b o
  | there {A : List kE} {L : SH} {b : Nat} {o : Obj} : HasO L b o -> HasO (A :: L) b o
  | among {A : List kE} {L : SH} {b : Nat} {o : Obj} : kE.obj b o ∈ A -> HasO (A :: L) b o
theorem HasO.mem {b : Nat} {o : Obj} (h : HasO H b o) : kE.obj b o ∈ H.flatten := by
  induction h with
  | here => simp
  | there _ ih => simp only [List.flatten_cons, List.mem_append];exact .inr ih
  | among h => simp only [List.flatten_cons, List.mem_append];exact .inl h
theorem run_getObj_of {b : Nat} {o : Obj} {L F : List kE} {w : World} (hm : kE.obj b o ∈ L) (hs : Sat w (L ++ F)) : (getObj b).run P w = .ok o w := by
  obtain ⟨h1, h2⟩ := hs.obj (Zw F hm);cases o <;> simp_all [Go.getObj, Sem.run, z9]
theorem st_lookup {sk : SK} {zero : Value} {ok : Bool} {m x : Operand} {b c : Nat} {es : Array MapEntry} {k : κ} {l : List (κ × β)} (hm : ev Γ m = some (.map (some b))) (hx : ev Γ x = some (E.enc k)) (he : sk = E.sk)
    (ho : HasO H b (.map es c)) (hl : MapIs E V es c l) (h : VO P n rs (putE d (lookV ok zero ((mget k l).map V)) Γ) H Z K) : VO P n (⟨d, none, .lookup sk zero ok m x⟩ :: rs) Γ H Z K := by
  subst he;refine VO.read rfl rfl (fun ρ hρ => ⟨_, rfl, fun F w hs => ?_⟩) h;obtain ⟨r, f1, f2, _⟩ := find_of (k := k) (i := 0) hl.of;have hg := run_getObj_of (P := P) ho.mem hs;rw [hρ _ _ hm, hρ _ _ hx];simp only [wQ, Sem.run_bind, hg, Result.andThen_ok, Sem.run_pure, f1];rw [<- f2];cases r with
  | none => rfl
  | some p => rfl
theorem st_mapupd {sk : SK} {m x y : Operand} {b c : Nat} {es : Array MapEntry} {k : κ} {v : β} {l : List (κ × β)} {R : SH} (hm : ev Γ m = some (.map (some b))) (hx : ev Γ x = some (E.enc k)) (hy : ev Γ y = some (V v)) (he : sk = E.sk)
    (ht : Tk H [.obj b (.map es c)] R) (hl : MapIs E V es c l) (h : ∀ es' c', MapIs E V es' c' (mset k v l) -> VO P n rs (putE d undef Γ) ([.obj b (.map es' c')] :: R) Z K) : VO P n (⟨d, none, .mapupd sk m x y⟩ :: rs) Γ H Z K := by
  subst he;refine VO.act rfl rfl (fun ρ hρ => ⟨_, rfl, ?_⟩);rw [hρ _ _ hm, hρ _ _ hx, hρ _ _ hy];refine SWP.perm ht.perm ?_;refine swp_entries (m := b) (c := c) (es := es) Zs ?_;obtain ⟨r, f1, f2, f3⟩ := find_of (k := k) (i := 0) hl.of;simp only [f1];cases r with
  | none =>
    refine SWP.bind (SWP.setObj rfl (SWP.pure ⟨undef, _, .inr ⟨rfl, rfl⟩, ?_, h _ _ (hl.push (by simpa using f2.symm))⟩));simp
  | some p =>
    obtain ⟨j, u⟩ := p;obtain ⟨_, g2, e, g3, g4, _⟩ := f3 j u rfl;simp only [Nat.sub_zero] at g3;have hkey : ((es[j]?).map (·.key)).getD (E.enc k) = E.enc k := by
      have : es[j]? = some e := by simpa using g3
      simp [this, g4]
    refine SWP.bind (swp_key _ _ (fun kk hkk => ?_));have hkk' : kk = E.enc k := by rcases hkk with h | h;rw [h, hkey];exact h
    refine SWP.bind (SWP.setObj rfl (SWP.pure ⟨undef, _, .inr ⟨rfl, rfl⟩, ?_, h _ _ (hl.modify f1 hkk')⟩));simp
end
end Go.V
namespace Go.V
open Go
inductive ku (size : Nat) : Value -> Nat -> List Value -> List Value -> Prop where
  | mk {b o n c : Nat} {xs sp : List Value} : xs.length = n * size -> xs.length + sp.length = c * size -> n <= c -> ku size (.slice (some ⟨b, o, none⟩) n c) n xs sp
  | nil : ku size (.slice none 0 0) 0 [] []
def slA : Value -> List Value -> List Value -> List kE
  | .slice (some ⟨b, o, none⟩) _ _, xs, sp => kA b o (xs ++ sp)
  | _, _, _ => []
theorem ku.len {size n : Nat} {v : Value} {xs sp : List Value} (h : ku size v n xs sp) : xs.length = n * size := by
  cases h with
  | mk h1 _ _ => exact h1
  | nil => simp
theorem ku.some {size n : Nat} {v : Value} {xs sp : List Value} (h : ku size v n xs sp) (hn : 0 < n) : ∃ b o c, v = .slice (some ⟨b, o, none⟩) n c /\ n <= c /\ xs.length + sp.length = c * size := by
  cases h with
  | mk h1 h2 h3 => exact ⟨_, _, _, rfl, h3, h2⟩
  | nil => omega
theorem ku.form {size n : Nat} {v : Value} {xs sp : List Value} (h : ku size v n xs sp) : ∃ a c, v = .slice a n c := by
  cases h with
  | mk h1 h2 h3 => exact ⟨_, _, rfl⟩
  | nil => exact ⟨_, _, rfl⟩
theorem growBy_le (need : Nat) : ∀ (r c : Nat), c <= 2 * need + 192 -> Builtin.growBy need r c <= 2 * need + 192 := by
  intro r
  induction r with
  | zero => intro c h;exact h
  | succ r ih =>
    intro c h;simp only [Builtin.growBy];split
    · exact h
    · exact ih _ Zo
theorem nextcap_le {need c : Nat} (h : c < need) : Builtin.nextslicecap need c <= 2 * need + 192 := by
  unfold Builtin.nextslicecap;split
  · omega
  · split
    · omega
    · exact growBy_le need 4 c Zo
theorem Src.mono {H H' : List kE} {size n : Nat} {vs : List Value} {v : Value} (hs : ∀ x ∈ H, x ∈ H') (h : Src H size n vs v) : Src H' size n vs v := by
  unfold Src at *;split at h
  · exact ⟨h.1, fun x hx => hs x (h.2 x hx)⟩
  · exact h
  · exact h
  · exact h.elim
theorem wK (n : Nat) (z : List Value) : (kd n z).length = n * z.length := by simp [kd]
section
variable {P : Program} {n : Nat} {rs : List RO} {Γ : Env} {H : SH} {Z : List PanicEntry -> Env -> SH -> Prop} {K : Env -> SH -> Prop} {d : Option Nat}
theorem j8 {t : TypeId} {size bytes : Nat} {zero : List Value} {s x : Operand} {sv xv : Value} {k m : Nat} {xs sp ys : List Value} {R : SH} (hs : ev Γ s = some sv) (hx : ev Γ x = some xv) (hsl : ku size sv k xs sp)
    (ht : Tk H (slA sv xs sp) R) (hm : seqLen xv = some m) (hsrc : Src R.flatten size m ys xv) (hlen : ys.length = m * size) (hone : ys.all zj = true) (hz : zero.length = size) (hb : bytes ≠ 0) (hroom : (2 * (k + m) + 192) * bytes <= 2 ^ 48)
    (h : ∀ sv' sp', ku size sv' (k + m) (xs ++ ys) sp' -> VO P n rs (putE d sv' Γ) (slA sv' (xs ++ ys) sp' :: R) Z K) : VO P n (⟨d, none, .append t size bytes zero s x⟩ :: rs) Γ H Z K := by
  refine VO.act' rfl rfl (fun ρ hρ => ⟨_, rfl, ?_⟩);rw [hρ _ _ hs, hρ _ _ hx];refine SWP.perm ht.perm ?_;have hsrc' : Src (slA sv xs sp ++ R.flatten) size m ys xv := hsrc.mono (fun x hx => List.mem_append_right _ hx);have grow : ∀ (a : Option Addr) (c : Nat), sv = .slice a k c -> ¬ (k + m <= c) -> Src (slA sv xs sp ++ R.flatten) size k xs sv ->
      SWP P (if Builtin.nextslicecap (k + m) c * bytes > 2 ^ 48 ∨ bytes = 0 then stuck "size" else do
        let cap <- choose (.appendCap (k + m) c t)
        let old <- Builtin.firstCells size k sv
        let new <- Builtin.firstCells size m xv
        let b <- newObj (.cells (old ++ new ++ (kd (cap - (k + m)) zero).toArray) t)
        pure (Next.value (.slice (Option.some ⟨b, 0, none⟩) (k + m) cap)) : Sem Next) (slA sv xs sp ++ R.flatten) fun nx L => ∃ v H' X, (nx = .value v ∨ (nx = .skip /\ v = undef)) /\ L.Perm (List.flatten H' ++ X) /\ VO P n rs (putE d v Γ) H' Z K := by
    intro a c hsv hle hso;have hnc : Builtin.nextslicecap (k + m) c * bytes <= 2 ^ 48 := Nat.le_trans (Nat.mul_le_mul_right _ (nextcap_le Zo)) hroom;rw [if_neg Zo];have fin : ∀ cap, k + m <= cap -> SWP P (do
        let old <- Builtin.firstCells size k sv
        let new <- Builtin.firstCells size m xv
        let b <- newObj (.cells (old ++ new ++ (kd (cap - (k + m)) zero).toArray) t)
        pure (Next.value (.slice (Option.some ⟨b, 0, none⟩) (k + m) cap)) : Sem Next) (slA sv xs sp ++ R.flatten) fun nx L => ∃ v H' X, (nx = .value v ∨ (nx = .skip /\ v = undef)) /\ L.Perm (List.flatten H' ++ X) /\ VO P n rs (putE d v Γ) H' Z K := by
      intro cap hcap;refine SWP.bind (SWP.firstCells hso (SWP.bind (SWP.firstCells hsrc' (mem_new (fun b => ?_)))));have hI : ku size (.slice (Option.some ⟨b, 0, none⟩) (k + m) cap) (k + m) (xs ++ ys) (kd (cap - (k + m)) zero) := by
        refine .mk ?_ ?_ hcap
        · rw [List.length_append, hsl.len, hlen, Nat.add_mul]
        · rw [List.length_append, hsl.len, hlen, wK, hz, <- Nat.add_mul, <- Nat.add_mul]
          congr 1;omega
      refine ⟨_, _, slA sv xs sp, .inl rfl, ?_, h _ _ hI⟩;have : (xs.toArray ++ ys.toArray ++ (kd (cap - (k + m)) zero).toArray).toList = xs ++ ys ++ kd (cap - (k + m)) zero := by simp
      rw [this];simp only [List.flatten_cons, List.append_assoc];refine List.Perm.trans ?_ (List.Perm.append_left _ List.perm_append_comm);simp only [slA, List.append_assoc];exact List.Perm.refl _
    refine SWP.bind (SWP.choose (fun hf => by simp [Question.forced] at hf) (fun t' => fin _ ?_));simp only [Question.cut];omega
  cases hsl with
  | @mk b o _ c _ _ h1 h2 h3 =>
    simp only [hm];by_cases hle : k + m <= c
    · rw [if_pos hle];refine SWP.bind (SWP.firstCells hsrc' ?_);have hl2 : ys.length <= sp.length := by
        have e1 : (k + m) * size <= c * size := Nat.mul_le_mul_right _ hle;rw [Nat.add_mul] at e1;omega
      have hsplit : kA b o (xs ++ sp) = kA b o xs ++ (kA b (o + k * size) (sp.take ys.length) ++ kA b (o + k * size + ys.length) (sp.drop ys.length)) := by
        rw [kW, h1]
        congr 1
        conv => lhs;rw [<- List.take_append_drop ys.length sp]
        rw [kW]
        congr 2
        simp;omega
      have hI : ku size (.slice (Option.some ⟨b, o, none⟩) (k + m) c) (k + m) (xs ++ ys) (sp.drop ys.length) := by
        refine .mk ?_ ?_ hle
        · rw [List.length_append, h1, hlen, Nat.add_mul]
        · rw [List.length_append, List.length_drop];omega
      have hadd : ((⟨b, o, none⟩ : Addr).add (k * size)) = ⟨b, o + k * size, none⟩ := add_off b o _;simp only [hadd];have hperm : (slA (.slice (Option.some ⟨b, o, none⟩) k c) xs sp ++ R.flatten).Perm (kA b (o + k * size) (sp.take ys.length) ++ (kA b o xs ++ (kA b (o + k * size + ys.length) (sp.drop ys.length) ++ R.flatten))) := by
        simp only [slA, hsplit, List.append_assoc];exact jP _ _ _
      refine SWP.perm hperm (SWP.bind (SWP.storeCells Zam (List.all_eq_true.1 hone) (SWP.pure ?_)));refine ⟨_, _, [], .inl rfl, ?_, h _ _ hI⟩;simp only [slA, List.flatten_cons, List.append_nil, kW, h1, List.append_assoc];exact jP _ _ _
    · rw [if_neg hle];refine grow _ c rfl hle ⟨h1, fun x hx => ?_⟩;simp only [slA, kW, List.mem_append];exact .inl (.inl hx)
  | nil =>
    simp only [hm];by_cases hle : 0 + m <= 0
    · rw [if_pos hle];have hm0 : m = 0 := by omega
      subst hm0;obtain rfl : ys = [] := by simpa using hlen
      refine SWP.bind (SWP.firstCells hsrc' (SWP.pure ?_));exact ⟨_, _, [], .inl rfl, by simp [slA], h _ _ .nil⟩
    · rw [if_neg hle];exact grow _ 0 rfl hle rfl
end
end Go.V
namespace Go.V
open Go
theorem Imp.left {A B : SH} : Imp (A ++ B) A := ⟨B, by simp [Spl]⟩
theorem Imp.perm {A B : SH} (h : A.flatten.Perm B.flatten) : Imp A B := ⟨[], by simpa [Spl] using h⟩
theorem VO.imp {P : Program} {n : Nat} {rs : List RO} {Γ : Env} {H H' : SH} {Z : List PanicEntry -> Env -> SH -> Prop} {K : Env -> SH -> Prop} (i : Imp H H') (h : VO P n rs Γ H' Z K) : VO P n rs Γ H Z K :=
  fun l hl a w F ZZ Q ha hs hq hz => h l hl a w F ZZ Q ha (hs.imp i) hq hz
theorem kC {res : List RV} {Q : Value -> SH -> Prop} {e : Exit} {Γ : Env} {H Post : SH} {vs : List Value} (he : e = .normal ∨ e = .ret) (hr : Res Γ H res vs) (hq : Q (tup vs) Post) (hi : Imp H Post) : endQ res Q e Γ H := ⟨he, vs, Post, hr, hi, hq⟩
inductive HasM : SH -> Nat -> Nat -> Nat -> List Value -> Prop where
  | cells {b o k n : Nat} {vs us : List Value} {L : SH} : o <= k -> k - o + n <= vs.length -> (vs.drop (k - o)).take n = us -> us.length = n -> HasM (kA b o vs :: L) b k n us
  | there {A : List kE} {L : SH} {b k n : Nat} {us : List Value} : HasM L b k n us -> HasM (A :: L) b k n us
theorem HasM.row {H : SH} {b k n : Nat} {us : List Value} (h : HasM H b k n us) : HasN H b k us /\ us.length = n := by
  induction h with
  | cells h1 _ h2 h3 => exact ⟨.cells h1 (by rw [h3, h2]) h3, h3⟩
  | there _ ih => exact ⟨.there ih.1, ih.2⟩
theorem jq {P : Program} {n : Nat} {rs : List RO} {Γ : Env} {H : SH} {Z : List PanicEntry -> Env -> SH -> Prop} {K : Env -> SH -> Prop} {d : Option Nat} {m : Nat} {x : Operand} {b o : Nat} {us : List Value} (hx : ev Γ x = some (.pointer (some ⟨b, o, none⟩))) (hm : HasM H b o m us) (h : VO P n rs (putE d (.agg us.toArray) Γ) H Z K) : VO P n (⟨d, none, .loadN m x⟩ :: rs) Γ H Z K :=
  st_loadN hx hm.row.1 hm.row.2 h
inductive Bnd (Γ : Env) (d : Nat) : Option Operand -> Nat -> Prop where
  | dft : Bnd Γ d none d
  | num {x : Operand} {k : IntKind} {m : Nat} : ev Γ x = some (.int k m) -> Bnd Γ d (some x) m
theorem Bnd.val {Γ : Env} {d y m : Nat} {o : Option Operand} {ρ : Operand -> Value} (h : Bnd Γ d o m) (hm : m <= y) (hρ : ∀ x u, ev Γ x = some u -> ρ x = u) : zW y (some d) (o.map ρ) = some m := by
  cases h with
  | dft => rfl
  | num hx => simp [zW, hρ _ _ hx, bound, hm]
section
variable {P : Program} {n : Nat} {rs : List RO} {Γ : Env} {H : SH} {Z : List PanicEntry -> Env -> SH -> Prop} {K : Env -> SH -> Prop} {d : Option Nat}
theorem st_slcL {size len cap l h b o o' : Nat} {x : Operand} {lo hi : Option Operand} (hx : ev Γ x = some (.slice (some ⟨b, o, none⟩) len cap)) (hlo : Bnd Γ 0 lo l) (hhi : Bnd Γ len hi h) (hr : l <= h /\ h <= cap) (ho : (if cap = l then o else o + l * size) = o')
    (hh : VO P n rs (putE d (.slice (some ⟨b, o', none⟩) (h - l) (cap - l)) Γ) H Z K) : VO P n (⟨d, none, .slcL size x lo hi none⟩ :: rs) Γ H Z K :=
  VO.pure rfl (fun ρ hρ => by
    have h1 := hlo.val (y := h) hr.1 hρ;have h2 := hhi.val (y := cap) hr.2 hρ;have h3 : zW cap (some cap) none = some cap := rfl;simp [kZ, hρ _ _ hx, bounds, h1, h2, h3, ho]) hh
theorem st_slcS {l h : Nat} {x : Operand} {lo hi : Option Operand} {s : ByteArray} (hx : ev Γ x = some (.string s)) (hlo : Bnd Γ 0 lo l) (hhi : Bnd Γ s.size hi h) (hr : l <= h /\ h <= s.size)
    (hh : VO P n rs (putE d (.string (s.extract l h)) Γ) H Z K) : VO P n (⟨d, none, .slcS x lo hi⟩ :: rs) Γ H Z K :=
  VO.pure rfl (fun ρ hρ => by
    have h1 := hlo.val (y := h) hr.1 hρ;have h2 := hhi.val (y := s.size) hr.2 hρ;have h3 : zW s.size (some s.size) none = some s.size := rfl;simp [kZ, hρ _ _ hx, bounds, h1, h2, h3]) hh
end
theorem st_ext {P : Program} {n : Nat} {rs : List RO} {Γ : Env} {H : SH} {Z : List PanicEntry -> Env -> SH -> Prop} {K : Env -> SH -> Prop} {d : Option Nat} {i : Nat} {x : Operand} {vs : Array Value} {v : Value} (hx : ev Γ x = some (.tuple vs)) (hv : vs[i]? = some v) (h : VO P n rs (putE d v Γ) H Z K) : VO P n (⟨d, none, .ext x i⟩ :: rs) Γ H Z K :=
  VO.pure rfl (fun ρ hρ => by simp [kZ, hρ _ _ hx, hv]) h
section
variable {P : Program} {n : Nat} {rs : List RO} {Γ : Env} {H R : SH} {Z : List PanicEntry -> Env -> SH -> Prop} {K : Env -> SH -> Prop} {A B C : List kE} {c : IC} {Q : Exit -> Env -> SH -> Prop}
end
end Go.V
namespace Go.V
open Go
section
variable {κ β : Type} [DecidableEq κ]
theorem mget_mset {k j : κ} {v : β} : ∀ {m : List (κ × β)}, mget j (mset k v m) = if k = j then some v else mget j m := by
  intro m
  induction m with
  | nil => simp [mset, mget]
  | cons p m ih =>
    obtain ⟨a, u⟩ := p;simp only [mset];split
    · rename_i e;subst e;simp only [mget];split <;> rfl
    · rename_i e;simp only [mget, ih];by_cases h1 : a = j
      · subst h1;simp [show ¬ k = a from fun x => e x.symm]
      · simp [h1]
end
theorem Upd.set1 {b o i k : Nat} {vs : List Value} {u : Value} {L : SH} (hk : o + i = k) (h : i < vs.length) : Upd (kA b o vs :: L) b k [u] (kA b o (vs.set i u) :: L) := by
  subst hk;refine .cells Zo Zam ?_;rw [Nat.add_sub_cancel_left, List.set_eq_take_append_cons_drop, if_pos h];simp
section
variable {κ β : Type} [DecidableEq κ] {E : KEnc κ} {V : β -> Value}
end
theorem VC.seq_cond_t {P : Program} {n : Nat} {Γ : Env} {H : SH} {Q : Exit -> Env -> SH -> Prop} {c : Operand} {x y z : IC} (hc : ev Γ c = some (.bool true)) (h : VC P n x Γ H (thenQ (fun Γ' H' => VC P n z Γ' H' Q) Q)) : VC P n (.seq (.cond c x y) z) Γ H Q := VC.seq (VC.cond_t hc h)
theorem VC.seq_cond_f {P : Program} {n : Nat} {Γ : Env} {H : SH} {Q : Exit -> Env -> SH -> Prop} {c : Operand} {x y z : IC} (hc : ev Γ c = some (.bool false)) (h : VC P n y Γ H (thenQ (fun Γ' H' => VC P n z Γ' H' Q) Q)) : VC P n (.seq (.cond c x y) z) Γ H Q := VC.seq (VC.cond_f hc h)
end Go.V
namespace Go.V
open Go
abbrev vi (n : Int) : Value := .int .i64 n
abbrev kN (b : Nat) : Value := .pointer (some ⟨b, 0, none⟩)
theorem Imp.cut {H M Δ : SH} (h : Imp H M) (k : Imp M Δ) : Imp H Δ := by
  obtain ⟨X, hX⟩ := h;obtain ⟨Y, hY⟩ := k;refine ⟨Y ++ X, ?_⟩;simp only [Spl, List.flatten_append] at *;refine hX.trans ?_;rw [<- List.append_assoc];exact hY.append_right _
theorem kL {P : Program} {n : Nat} {rs : List RO} {Γ : Env} {H : SH} {Z : List PanicEntry -> Env -> SH -> Prop} {K : Env -> SH -> Prop} {d : Option Nat} {m : Nat} {x : Operand} {b o : Nat} {us : List Value} (hx : ev Γ x = some (.pointer (some ⟨b, o, none⟩))) (hm : ∀ a ∈ kA b o us, a ∈ H.flatten) (hn : us.length = m) (h : VO P n rs (putE d (.agg us.toArray) Γ) H Z K) : VO P n (⟨d, none, .loadN m x⟩ :: rs) Γ H Z K :=
  VO.read rfl rfl (fun ρ hρ => ⟨_, rfl, fun F w hs => by
    simp [hρ _ _ hx, Instr.sureAddr, zF hn hm hs]⟩) h
theorem st_extL {P : Program} {n : Nat} {rs : List RO} {Γ : Env} {H : SH} {Z : List PanicEntry -> Env -> SH -> Prop} {K : Env -> SH -> Prop} {d : Option Nat} {i : Nat} {x : Operand} {l : List Value} {v : Value} (hx : ev Γ x = some (.tuple l.toArray)) (hi : l[i]? = some v) (h : VO P n rs (putE d v Γ) H Z K) : VO P n (⟨d, none, .ext x i⟩ :: rs) Γ H Z K :=
  VO.pure rfl (fun ρ hρ => by simp [kZ, hρ _ _ hx, hi]) h
theorem st_gu {P : Program} {n : Nat} {rs : List RO} {Γ : Env} {H : SH} {Z : List PanicEntry -> Env -> SH -> Prop} {K : Env -> SH -> Prop} {d : Option Nat} {r : R} {s : Nat} {b : Bool} (hs : look Γ s = some undef) (h : VO P n rs (putE d undef Γ) H Z K) : VO P n (⟨d, some (s, b), r⟩ :: rs) Γ H Z K := by
  intro l hl a w F ZZ Q ha hsat hq hz;obtain ⟨o, l', rfl, hl', ops, ho⟩ := wu hl;obtain ⟨g1, g2, g3, g4⟩ := j6 ho;have hw : kw (some (s, b)) a = false := by simp [kw, ha.slots _ _ hs, undef]
  show jX P ZZ (⟨d, some (s, b), r⟩, o) (wpR P ZZ Q l') a w;unfold jX;rw [if_neg (by simp [hw])];exact h l' hl' _ w F ZZ Q (ha.putE g3 undef) hsat (fun a2 w2 Γ2 H2 k1 k2 k3 k4 k5 => hq a2 w2 Γ2 H2 k1 k2 (k3.trans (ky ..)) k4 k5) (fun ch a2 w2 Γ2 H2 k1 k2 k3 k4 k5 => hz ch a2 w2 Γ2 H2 k1 k2 (k3.trans (ky ..)) k4 k5)
structure Later (R : Prop) : Prop where
  out : R
theorem GO {R G : Prop} (r : R) (h : Later R -> G := by
  intro later
  (repeat (first
      | (first
    | (apply jS;rfl)
    | (apply wk;rfl;rfl)
    | (apply st_gu;rfl)
    | (apply ka;rfl)
    | (apply st_nil;rfl)
    | (apply wM;rfl;rfl)
    | (apply w7;rfl;rfl)
    | (apply kQ;rfl;exact Zz)
    | (apply kI;rfl;exact Zh)
    | (apply kI;rfl;exact Zm)
    | (apply jq;rfl;exact Zab)
    | (apply st_extL;rfl;rfl)
    | (apply st_ext;rfl;rfl)
    | (apply st_add;rfl;rfl;omega)
    | (apply st_sub;rfl;rfl;omega)
    | (apply st_mul;rfl;rfl;omega)
    | (apply st_rem;rfl;rfl;decide)
    | (apply jf;rfl;rfl;omega;exact Zz)
    | (apply st_idxA;rfl;rfl;omega;exact Zz)
    | (apply st_build;rfl;(focus (simp only [lnb, Value.cells, Nat.zero_add, Nat.reduceEqDiff, ↓reduceIte, eq_self, Nat.reduceAdd, Nat.reduceSub, Nat.sub_self, Nat.reduceLeDiff, Nat.le_refl, and_self, rep, kd] <;> rfl)))
    | (apply jD;rfl;rfl;(focus (simp only [lnb, Value.cells, Nat.zero_add, Nat.reduceEqDiff, ↓reduceIte, eq_self, Nat.reduceAdd, Nat.reduceSub, Nat.sub_self, Nat.reduceLeDiff, Nat.le_refl, and_self, rep, kd] <;> rfl));rfl;rfl;exact Zac)
    | (apply st_pure;rfl;rfl;rfl))
      | (refine VO.nil ?_;simp only [V.argsEnv, V.restr, V.look, V.putE, V.thenQ, V.blockQ, Nat.zero_add, Nat.reduceAdd, Nat.reduceEqDiff, ↓reduceIte, eq_self])
      | refine VC.seq_reg ?_
      | refine VC.seq_draw1 ?_
      | refine VC.seq_seq ?_
      | refine VC.seq_block ?_
      | refine VC.seq_skip ?_
      | refine VC.reg ?_
      | refine VC.draw1 ?_
      | refine VC.block ?_
      | (refine VC.skip ?_;simp only [V.argsEnv, V.restr, V.look, V.putE, V.thenQ, V.blockQ, Nat.zero_add, Nat.reduceAdd, Nat.reduceEqDiff, ↓reduceIte, eq_self])
      | (refine VC.exit ?_;simp only [V.argsEnv, V.restr, V.look, V.putE, V.thenQ, V.blockQ, Nat.zero_add, Nat.reduceAdd, Nat.reduceEqDiff, ↓reduceIte, eq_self])
      | (refine VC.ret ?_;try simp only [V.thenQ, V.blockQ])
      | (apply VC.seq_cond_t;rfl)
      | (apply VC.seq_cond_f;rfl)
      | (apply VC.cond_t;rfl)
      | (apply VC.cond_f;rfl)))
  exact later.out) : G := h ⟨r⟩
end Go.V
namespace Go.V
open Go
def Invk (P : Program) (fv : Value) (args : List Value) (w : World) (R : Ending -> World -> Prop) : Prop :=
  match fv with
  | .func (.func f) first cap => ju P f = true /\ Calls P f (first ++ args.toArray ++ cap) w R
  | .func (.yield l) first _ => ∃ f tmps asg body, (Instr.yield l (first ++ args.toArray)).run P w = .ok (.round l f tmps asg body) w /\ RoundIn Fence.wide 0 P l f tmps asg body w R
  | _ => False
def zD (P : Program) (fv : Value) (args : List Value) (Pre : SH) (Q : Value -> SH -> Prop) : Prop :=
  ∀ F w, Sat w (Pre.flatten ++ F) -> Invk P fv args w fun e w' => ∃ v Post, e = .returned v /\ Q v Post /\ Sat w' (Post.flatten ++ F) /\ ko w w'
theorem Invk.mono {P : Program} {fv : Value} {args : List Value} {w : World} {R R' : Ending -> World -> Prop} (h : Invk P fv args w R) (hr : ∀ e w', R e w' -> R' e w') : Invk P fv args w R' := by
  unfold Invk at *;split at h
  · exact ⟨h.1, Calls.mono h.2 hr⟩
  · obtain ⟨f, tmps, asg, body, h1, h2⟩ := h;exact ⟨f, tmps, asg, body, h1, RoundIn.mono h2 hr⟩
  · exact h.elim
theorem zD.conv {P : Program} {fv : Value} {args : List Value} {H Pre R : SH} {Q Q' : Value -> SH -> Prop} (h : zD P fv args Pre Q) (hs : Spl H Pre R) (hq : ∀ v Post, Q v Post -> ∃ Post', Q' v Post' /\ Imp (Post ++ R) Post') : zD P fv args H Q' := by
  intro F w hw;have hw' : Sat w (Pre.flatten ++ (R.flatten ++ F)) := by
    rw [<- List.append_assoc];exact hw.perm (List.Perm.append_right F hs)
  refine (h (R.flatten ++ F) w hw').mono ?_
  rintro e w' ⟨v, Post, h1, h2, h3, h4⟩
  obtain ⟨Post', h5, h6⟩ := hq v Post h2;refine ⟨v, Post', h1, h5, Sat.imp h6 ?_, h4⟩;rw [List.flatten_append, List.append_assoc];exact h3
theorem zD.of_fun {P : Program} {f : Nat} {first cap : Array Value} {args : List Value} {Pre : SH} {Q : Value -> SH -> Prop} (h : Fun P f (first.toList ++ args ++ cap.toList) Pre Q) : zD P (.func (.func f) first cap) args Pre Q := by
  intro F w hs;refine ⟨h.1, ?_⟩;have hall : first ++ args.toArray ++ cap = (first.toList ++ args ++ cap.toList).toArray := by
    apply Array.toList_inj.1;simp
  rw [hall];exact h.2 F w hs
theorem wm {P : Program} {n : Nat} {rs : List RO} {Γ : Env} {H : SH} {Z : List PanicEntry -> Env -> SH -> Prop} {K : Env -> SH -> Prop} {d : Option Nat} {x : Operand} {fv : Value} {xs : List Operand} {args : List Value} {Pre R : SH} {Q : Value -> SH -> Prop}
    (hx : ev Γ x = some fv) (hf : zD P fv args Pre Q) (he : evs Γ xs = some args) (hs : Spl H Pre R)
    (h : ∀ v Post, Q v Post -> VO P n rs (putE d v Γ) (Post ++ R) Z K) : VO P n (⟨d, none, .callv x xs⟩ :: rs) Γ H Z K := by
  intro l hl a w F ZZ Q' ha hsat hq hz;obtain ⟨o, l', rfl, hl', ops, ho⟩ := wu hl;obtain ⟨g1, g2, g3, g4⟩ := j6 ho;show jX P ZZ (_, o) (wpR P ZZ Q' l') a w;unfold jX;have hp : jC (V.R.callv x xs) = false := rfl;have hr : jI (V.R.callv x xs) = false := rfl;simp only [kw, hp, hr, if_true, Bool.false_eq_true, if_false];refine ⟨fun e => (by cases e), ?_⟩;obtain ⟨c, h1, h2, h3⟩ := low_callv g1;have hm : xs.map a.eval = args := ha.evs he;have hargs : (c.args.map a.eval) = args.toArray := by
    apply Array.toList_inj.1;rw [Array.toList_map, h3, hm]
  have hsat' : Sat w (Pre.flatten ++ (R.flatten ++ F)) := by
    rw [<- List.append_assoc];exact hsat.perm (hs.append_right F)
  have hi := hf (R.flatten ++ F) w hsat';have fin : ∀ (e : Ending) (w' : World), (∃ v Post, e = .returned v /\ Q v Post /\ Sat w' (Post.flatten ++ (R.flatten ++ F)) /\ ko w w') -> ∃ v, e = .returned v /\ wpR P ZZ Q' l' (a.put o.dst v) w' := by
    rintro e w' ⟨v, Post, rfl, hQ, hs', hk⟩
    refine ⟨v, rfl, ?_⟩;rw [<- g2];refine h v Post hQ l' hl' _ w' F ZZ Q' (ha.putE g3 v) ?_ (fun a2 w2 Γ2 H2 k1 k2 k3 k4 k5 => hq a2 w2 Γ2 H2 k1 k2 (k3.trans (ky ..)) k4 (hk.trans k5)) (fun ch a2 w2 Γ2 H2 k1 k2 k3 k4 k5 => hz ch a2 w2 Γ2 H2 k1 k2 (k3.trans (ky ..)) k4 (hk.trans k5));rw [List.flatten_append, List.append_assoc];exact hs'
  have hev : a.eval x = fv := ha.ev hx;unfold Invk at hi;split at hi
  · rename_i f first cap
    have hrun : (execOp a.eval o).run P w = .ok (.enter f (first ++ args.toArray ++ cap)) w := by
      simp [execOp, h1, resolve, h2, hev, Deferred.ofValue, invoke, hargs];rw [wX hi.1]
    simp only [wpV, hrun, jN];refine hi.2.mono (fun e w' he => ?_);obtain ⟨v, rfl, hv⟩ := fin e w' he;exact hv
  · rename_i l0 first cap
    obtain ⟨f, tmps, asg, body, hy, hrd⟩ := hi;have hrun : (execOp a.eval o).run P w = .ok (.round l0 f tmps asg body) w := by
      simp [execOp, h1, resolve, h2, hev, Deferred.ofValue, invoke, hargs];exact hy
    simp only [wpV, hrun, jN];refine hrd.mono (fun e w' he => ?_);obtain ⟨v, rfl, hv⟩ := fin e w' he;exact hv
  · exact hi.elim
def bindE : List Nat -> List Value -> Env -> Env
  | p :: ps, v :: vs, Γ => bindE ps vs ((p, v) :: Γ)
  | _, _, Γ => Γ
def OkC {α : Type} (Spec : List α -> Prop) (c : List α) : Prop := ∃ t, Spec (c ++ t)
def Iter (P : Program) (g : Value) {α : Type} (enc : α -> List Value) (Pre Post : SH) (Spec : List α -> Prop) : Prop :=
  ∀ (y : Value) (J SP : List α -> List kE -> Prop),
    (∀ c x A, OkC Spec (c ++ [x]) -> J c A -> zD P y (enc x) [A] (fun v B => (v = .bool true /\ ∃ A', J (c ++ [x]) A' /\ B = [A']) ∨ (v = .bool false /\ ∃ B', SP (c ++ [x]) B' /\ B = [B']))) ->
    ∀ A, J [] A -> zD P g [y] (Pre ++ [A]) (fun v B => v = .tuple #[] /\ ((∃ full A', Spec full /\ J full A' /\ B = Post ++ [A']) ∨ (∃ c B', OkC Spec c /\ SP c B' /\ B = Post ++ [B'])))
section
variable {P : Program} {n : Nat} {Γ : Env} {H : SH} {Q : Exit -> Env -> SH -> Prop}
theorem bind_agree {ps : List Nat} : ∀ {vs : List Value} {Γ : Env} {tmps : Array Value}, (∀ t ∈ ps, t < n) -> ps.length = vs.length -> jW n Γ { tmps := tmps, defers := [] } ->
    jW n (bindE ps vs Γ) { tmps := (ps.zip vs).foldl (fun tmps (t, a) => tmps.setIfInBounds t a) tmps, defers := [] } := by
  induction ps with
  | nil => intro vs Γ tmps _ _ h;cases vs <;> exact h
  | cons p ps ih =>
    intro vs Γ tmps hp hl h;cases vs with
    | nil => simp at hl
    | cons v vs =>
      simp only [bindE, List.zip_cons_cons, List.foldl_cons];refine ih (fun t ht => hp t (by simp [ht])) (by simpa using hl) ?_;exact h.put (d := p) (hp p Zs) v
def wH (fn : FuncId) (tmps : Array Value) (qs : Array Tmp) (A B : Code) (db : Nat) (st : LoopState) (pe : Option Code) : Loop := { state := st, pending := pe, fn, tmps, params := qs, assign := A, body := B, defers := db }
theorem run_getLoop {w : World} {l : Nat} {r : Loop} (h : w.heap[l]? = some (.loop r)) : (Instr.getLoop l).run P w = .ok r w := by
  simp [Instr.getLoop, Go.getObj, Sem.run, h]
theorem round_spec {kp : Nat -> List Nat} {od : Nat -> List (List Nat)} {fn : FuncId} {tmps : Array Value} {qs : Array Tmp} {A B : Code} {db l : Nat} {asg body : IC} {vs : List Value} {I : List kE} {Qb : Exit -> SH -> Prop}
    (hqs : ∀ t ∈ qs.toList, t < n) (hlen : qs.toList.length = vs.length) (ha : jW n Γ { tmps := tmps, defers := [] }) (h1 : wi P n kp od A = some asg) (h2 : wi P n kp od B = some body)
    (h : VC P n asg (bindE qs.toList vs Γ) [I] (fun e Γ' H' => e = .normal /\ VC P n body Γ' H' (fun e _ H'' => match e with | .normal => Qb .normal H'' | .ret => Qb .ret H'' | .exit id => Qb (.exit id) H'' | _ => False))) :
    zD P (.func (.yield l) #[] #[]) vs [I ++ [.obj l (.loop (wH fn tmps qs A B db .ready none))]] (fun v Bk => (v = .bool true /\ ∃ H'', Qb .normal H'' /\ Bk = [H''.flatten ++ [.obj l (.loop (wH fn tmps qs A B db .ready none))]]) ∨
      (v = .bool false /\ ∃ H'', ((Qb .ret H'' /\ Bk = [H''.flatten ++ [.obj l (.loop (wH fn tmps qs A B db .done (some .ret)))]]) ∨ (∃ id, Qb (.exit id) H'' /\ Bk = [H''.flatten ++ [.obj l (.loop (wH fn tmps qs A B db .done (some (.exit id))))]])))) := by
  intro F w hs;have hs1 : Sat w ([I].flatten ++ (.obj l (.loop (wH fn tmps qs A B db .ready none)) :: F)) := by simpa using hs
  have hobj := (hs1.obj (b := l) (List.mem_append_right _ (List.mem_cons_self ..))).1;refine ⟨fn, (qs.zip vs.toArray).foldl (fun tmps (t, a) => tmps.setIfInBounds t a) tmps, A, B, ?_, ?_⟩
  · simp only [Instr.yield, Sem.run_bind, run_getLoop hobj, Result.andThen_ok];have : (#[] ++ vs.toArray : Array Value).size = qs.size := by simpa using hlen.symm
    simp [wH, hlen.symm]
  · have hz : (qs.zip vs.toArray).foldl (fun tmps (t, a) => tmps.setIfInBounds t a) tmps = (qs.toList.zip vs).foldl (fun tmps (t, a) => tmps.setIfInBounds t a) tmps := by
      rw [<- Array.foldl_toList];simp
    rw [hz];refine roundIn_of_wpIn trivial ?_;refine h (some l) kp od A h1 _ w _ _ (fun l' e => by cases e;exact ⟨_, List.mem_cons_self ..⟩) (bind_agree hqs hlen ha) hs1 ?_
    rintro e a1 w1 Γ1 H1 X ⟨rfl, hb⟩ g1 _ g3 g4
    have g3' : Sat w1 (.obj l (.loop (wH fn tmps qs A B db .ready none)) :: (H1.flatten ++ (F ++ marks X))) := by
      refine g3.perm ?_;simp only [List.cons_append];exact List.perm_middle
    have hobj1 := (g3'.obj (List.mem_cons_self ..)).1;obtain ⟨s1, s2⟩ := Sat.setObj (u := .loop (wH fn tmps qs A B db .busy none)) g3' rfl;refine ⟨{ w1 with heap := w1.heap.setIfInBounds l (.loop (wH fn tmps qs A B db .busy none)) }, ?_, ?_⟩
    · have hg := run_getLoop (P := P) hobj1;simp only [Instr.beginRound, Sem.run_bind, hg, Result.andThen_ok];simp [wH, Go.setObj, Sem.run, hobj1]
    have s3 : Sat { w1 with heap := w1.heap.setIfInBounds l (.loop (wH fn tmps qs A B db .busy none)) } (H1.flatten ++ (.obj l (.loop (wH fn tmps qs A B db .busy none)) :: (F ++ marks X))) := s1.perm List.perm_middle.symm;refine hb (some l) kp od B h2 a1 _ _ _ (fun l' e => by cases e;exact ⟨_, List.mem_cons_self ..⟩) g1 s3 ?_;intro e a2 w2 Γ2 H2 Y q k1 _ k3 k4;have k3' : Sat w2 (.obj l (.loop (wH fn tmps qs A B db .busy none)) :: (H2.flatten ++ F)) := by
      have p : (H2.flatten ++ (.obj l (.loop (wH fn tmps qs A B db .busy none)) :: (F ++ marks X) ++ marks Y)).Perm ((.obj l (.loop (wH fn tmps qs A B db .busy none)) :: (H2.flatten ++ F)) ++ (marks X ++ marks Y)) := by
        simp only [List.cons_append, List.append_assoc];exact List.perm_middle
      exact (k3.perm p).left
    have hobj2 := (k3'.obj (List.mem_cons_self ..)).1;have keep := g4.trans (s2.trans k4);have fin : ∀ (j : Option Code) (st : LoopState), ∀ (hst : st = if j.isNone then .ready else .done), (Instr.endRound l j).run P w2 = .ok (.bool j.isNone) { w2 with heap := w2.heap.setIfInBounds l (.loop (wH fn tmps qs A B db st j)) } /\
        Sat { w2 with heap := w2.heap.setIfInBounds l (.loop (wH fn tmps qs A B db st j)) } ([H2.flatten ++ [kE.obj l (.loop (wH fn tmps qs A B db st j))]].flatten ++ F) /\ ko w { w2 with heap := w2.heap.setIfInBounds l (.loop (wH fn tmps qs A B db st j)) } := by
      intro j st hst;obtain ⟨t1, t2⟩ := Sat.setObj (u := .loop (wH fn tmps qs A B db st j)) k3' rfl;refine ⟨?_, ?_, keep.trans t2⟩
      · subst hst;simp only [Instr.endRound, Sem.run_bind, run_getLoop hobj2, Result.andThen_ok, wH, Go.setObj, Sem.run, hobj2, Sem.run_pure]
      · refine t1.perm ?_;simp only [List.flatten_cons, List.flatten_nil, List.append_nil, List.append_assoc, List.singleton_append];exact List.perm_middle.symm
    cases e with
    | normal =>
      obtain ⟨f1, f2, f3⟩ := fin none .ready rfl;exact ⟨_, _, f1, _, _, rfl, .inl ⟨rfl, _, q, rfl⟩, f2, f3⟩
    | ret =>
      obtain ⟨f1, f2, f3⟩ := fin (some .ret) .done rfl;exact ⟨_, _, f1, _, _, rfl, .inr ⟨rfl, _, .inl ⟨q, rfl⟩⟩, f2, f3⟩
    | exit id =>
      obtain ⟨f1, f2, f3⟩ := fin (some (.exit id)) .done rfl;exact ⟨_, _, f1, _, _, rfl, .inr ⟨rfl, _, .inr ⟨id, q, rfl⟩⟩, f2, f3⟩
    | goto _ => exact q.elim
    | panic _ => exact q.elim
    | outgrown => exact q.elim
theorem enter_spec {fnid : FuncId} {tmps : Array Value} {qs : Array Tmp} {A B : Code} {ρ : Option Nat} {w : World} {L F : List kE} (hr : Rnd ρ F) (hsat : Sat w (L ++ F)) :
    ∃ (l db : Nat) (X : List Nat) (w1 : World), (Instr.enterLoop fnid tmps qs A B ρ).run P w = .ok (l, X.map coll) w1 /\
      Sat w1 (.obj l (.loop (wH fnid tmps qs A B db .ready none)) :: (L ++ (F ++ marks X))) /\ ko w w1 := by
  cases ρ with
  | none =>
    obtain ⟨s1, s2⟩ := hsat.newObj (.deferred (some [])) rfl;obtain ⟨s3, s4⟩ := s1.newObj (.loop (wH fnid tmps qs A B w.heap.size .ready none)) rfl;refine ⟨(w.heap.push (.deferred (some []))).size, w.heap.size, [w.heap.size], _, ?_, s3.perm ?_, s2.trans s4⟩
    · simp [Instr.enterLoop, Go.newObj, Sem.run, wH, coll];rfl
    · refine List.Perm.cons _ ?_;simp only [marks, List.map_cons, List.map_nil];rw [<- List.append_assoc];exact (List.perm_append_singleton _ _).symm
  | some l0 =>
    obtain ⟨r, hr0⟩ := hr l0 rfl;have ho := (hsat.obj (List.mem_append_right _ hr0)).1;obtain ⟨s3, s4⟩ := hsat.newObj (.loop (wH fnid tmps qs A B r.defers .ready none)) rfl;refine ⟨w.heap.size, r.defers, [], _, ?_, ?_, s4⟩
    · simp [Instr.enterLoop, run_getLoop ho, Go.newObj, Sem.run, wH]
    · simpa [marks] using s3
theorem end_spec {fnid : FuncId} {tmps : Array Value} {qs : Array Tmp} {A B : Code} {db l : Nat} {st : LoopState} {pe : Option Code} {w : World} {L F : List kE} (hst : st ≠ .busy)
    (hs : Sat w (L ++ [.obj l (.loop (wH fnid tmps qs A B db st pe))] ++ F)) : ∃ w4, (Instr.endLoop l).run P w = .ok pe w4 /\ Sat w4 (L ++ F) /\ ko w w4 := by
  have hs5 : Sat w (.obj l (.loop (wH fnid tmps qs A B db st pe)) :: (L ++ F)) := by
    refine hs.perm ?_;rw [List.append_assoc];exact List.perm_middle
  have ho := (hs5.obj (List.mem_cons_self ..)).1;obtain ⟨t1, t2⟩ := Sat.setObj (u := .loop (wH fnid tmps qs A B db .exhausted pe)) hs5 rfl;refine ⟨_, ?_, t1.sub (List.sublist_cons_self ..), t2⟩;have hgl := run_getLoop (P := P) ho;have hb : ((wH fnid tmps qs A B db st pe).state == LoopState.busy) = false := by cases st <;> first | rfl | exact absurd rfl hst
  simp only [Instr.endLoop, Sem.run_bind, hgl, Result.andThen_ok, hb];simp [wH, Go.setObj, Sem.run, ho]
theorem VC.rangef {α : Type} {enc : α -> List Value} {g : Operand} {f : Nat} {first cap : Array Value} {ps : List Nat} {asg body : IC} {Pre Post R : SH} {Spec : List α -> Prop} (I : List α -> List kE -> Prop) (A0 : List kE) (hg : ev Γ g = some (.func (.func f) first cap))
    (hit : Iter P (.func (.func f) first cap) enc Pre Post Spec) (hs : Spl H Pre R) (h0 : Imp R [A0]) (h1 : I [] A0) (hlen : ∀ x, (enc x).length = ps.length)
    (round : ∀ c x A, OkC Spec (c ++ [x]) -> I c A -> VC P n asg (bindE ps (enc x) Γ) [A] (fun e Γ' H' => e = .normal /\ VC P n body Γ' H' (fun e _ H'' => match e with | .normal => ∃ A', I (c ++ [x]) A' /\ Imp H'' [A'] | .ret => Q .ret Γ (Post ++ H'') | .exit id => Q (.exit id) Γ (Post ++ H'') | _ => False)))
    (done : ∀ full A, Spec full -> I full A -> Q .normal Γ (Post ++ [A])) : VC P n (.rangef g ps asg body) Γ H Q := by
  intro ρ kp od code hl a w F QQ hr ha hsat hh;obtain ⟨qs, A, B, rfl, rfl, hlt, h1', h2⟩ := jT hl;refine wpIn_rangeFunc (fun fnid _ => ?_);obtain ⟨l, db, X, w1, he, hs1, hk1⟩ := enter_spec (P := P) (fnid := fnid) (tmps := a.tmps) (qs := qs) (A := A) (B := B) hr hsat;have hyield := hit (.func (.yield l) #[] #[]) (fun c A' => ∃ A1, I c A1 /\ A' = A1 ++ [.obj l (.loop (wH fnid a.tmps qs A B db .ready none))])
    (fun c B' => ∃ H'', (Q .ret Γ (Post ++ H'') /\ B' = H''.flatten ++ [.obj l (.loop (wH fnid a.tmps qs A B db .done (some .ret)))]) ∨ (∃ id, Q (.exit id) Γ (Post ++ H'') /\ B' = H''.flatten ++ [.obj l (.loop (wH fnid a.tmps qs A B db .done (some (.exit id))))]))
    (fun c x A' hc hA => by
      obtain ⟨A1, hI, rfl⟩ := hA;have hx := round_spec (P := P) (n := n) (Γ := Γ) (fn := fnid) (tmps := a.tmps) (db := db) (l := l) (vs := enc x) (I := A1) (Qb := fun e H'' => match e with | .normal => ∃ A', I (c ++ [x]) A' /\ Imp H'' [A'] | .ret => Q .ret Γ (Post ++ H'') | .exit id => Q (.exit id) Γ (Post ++ H'') | _ => False)
        hlt (hlen x).symm ⟨ha.size, ha.slots⟩ h1' h2 ((round c x A1 hc hI).mono (fun e Γ' H' ⟨q1, q2⟩ => ⟨q1, q2.mono (fun e _ H'' q => by cases e <;> exact q)⟩))
      refine hx.conv (R := []) (by simp [Spl]) ?_
      rintro v Bk (⟨rfl, H'', ⟨A2, hI2, q⟩, rfl⟩ | ⟨rfl, H'', q⟩)
      · refine ⟨_, .inl ⟨rfl, _, ⟨A2, hI2, rfl⟩, rfl⟩, ?_⟩;obtain ⟨R', hR'⟩ := q;refine ⟨R', ?_⟩;simp only [Spl, List.flatten_cons, List.flatten_nil, List.append_nil] at hR' |-;rw [List.append_assoc];refine (List.Perm.append_right _ hR').trans ?_;rw [List.append_assoc];exact List.Perm.append_left _ List.perm_append_comm
      · rcases q with ⟨q, rfl⟩ | ⟨id, q, rfl⟩
        · exact ⟨_, .inr ⟨rfl, _, ⟨H'', .inl ⟨q, rfl⟩⟩, rfl⟩, by rw [List.append_nil];exact Imp.refl _⟩
        · exact ⟨_, .inr ⟨rfl, _, ⟨H'', .inr ⟨id, q, rfl⟩⟩, rfl⟩, by rw [List.append_nil];exact Imp.refl _⟩)
    _ ⟨A0, h1, rfl⟩
  have hs2 : Sat w1 ((Pre ++ [A0 ++ [kE.obj l (.loop (wH fnid a.tmps qs A B db .ready none))]]).flatten ++ (F ++ marks X)) := by
    have p1 : (kE.obj l (.loop (wH fnid a.tmps qs A B db .ready none)) :: (H.flatten ++ (F ++ marks X))).Perm (R.flatten ++ (Pre.flatten ++ (kE.obj l (.loop (wH fnid a.tmps qs A B db .ready none)) :: (F ++ marks X)))) := by
      refine List.perm_middle.symm.trans ?_;refine (List.Perm.append_right _ hs).trans ?_;rw [List.append_assoc];exact jP _ _ _
    have h3 := (hs1.perm p1).imp h0;refine h3.perm ?_;simp only [List.flatten_append, List.flatten_cons, List.flatten_nil, List.append_nil, List.append_assoc, List.singleton_append];exact jP _ _ _
  have hcall := hyield (F ++ marks X) w1 hs2;obtain ⟨hcallable, hcalls⟩ := hcall;refine ⟨l, X.map coll, w1, { target := .fn (.func f) cap, args := first ++ [Value.func (.yield l) #[] #[]].toArray }, w1, f, first ++ [Value.func (.yield l) #[] #[]].toArray ++ cap, w1, he, ?_, fun _ _ => trivial, ?_, ?_, ?_⟩
  · have hev : a.eval g = .func (.func f) first cap := ha.ev hg
    simp only [resolve, hev, Deferred.ofValue];simp [Act.eval]
  · simp only [invoke];rw [wX hcallable]
  · intro h;simp at h
  refine callsIn_v (hcalls.mono ?_)
  · rintro e w3 ⟨v, Pst, rfl, ⟨rfl, hp⟩, hs3, hk3⟩
    have ha' : jW n Γ { a with defers := X.map coll ++ a.defers } := ⟨ha.size, ha.slots⟩;rcases hp with ⟨full, _, hf, ⟨A1, hI, rfl⟩, rfl⟩ | ⟨c, B', _, ⟨H'', hj⟩, rfl⟩
    · obtain ⟨w4, e1, e2, e3'⟩ := end_spec (P := P) (L := Post.flatten ++ A1) (st := .ready) (pe := none) Zs (by simpa [List.append_assoc] using hs3);have e3 := hk1.trans (hk3.trans e3');exact ⟨none, w4, e1, hh _ _ _ _ _ X (done full A1 hf hI) ha' rfl (by simpa using e2) e3⟩
    · rcases hj with ⟨q, rfl⟩ | ⟨id, q, rfl⟩
      · obtain ⟨w4, e1, e2, e3'⟩ := end_spec (P := P) (L := Post.flatten ++ H''.flatten) (st := .done) (pe := some .ret) Zs (by simpa [List.append_assoc] using hs3);have e3 := hk1.trans (hk3.trans e3');exact ⟨_, w4, e1, wpIn_ret (hh _ _ _ _ _ X q ha' rfl (by simpa using e2) e3)⟩
      · obtain ⟨w4, e1, e2, e3'⟩ := end_spec (P := P) (L := Post.flatten ++ H''.flatten) (st := .done) (pe := some (.exit id)) Zs (by simpa [List.append_assoc] using hs3);have e3 := hk1.trans (hk3.trans e3');exact ⟨_, w4, e1, wpIn_exit (hh _ _ _ _ _ X q ha' rfl (by simpa using e2) e3)⟩
end
end Go.V
namespace Go.V
open Go
def upd {α : Type} (f : Int -> α) (i : Int) (v : α) : Int -> α := fun k => if k = i then v else f k
abbrev swp {α : Type} (f : Int -> α) (i j : Int) : Int -> α := upd (upd f i (f j)) j (f i)
inductive Sw {α : Type} (a b : Int) (f : Int -> α) : (Int -> α) -> Prop where
  | refl : Sw a b f f
  | step {g : Int -> α} {i j : Int} : Sw a b f g -> a <= i /\ i < b -> a <= j /\ j < b -> Sw a b f (swp g i j)
structure LtOk {α : Type} (lt : α -> α -> Bool) : Prop where
  asymm : ∀ x y, lt x y = true -> lt y x = false
  le_trans : ∀ x y z, lt y x = false -> lt z y = false -> lt z x = false
  eq : ∀ x y, lt x y = false -> lt y x = false -> x = y
section
variable {P : Program} {n : Nat} {rs : List RO} {Γ : Env} {H R : SH} {Z : List PanicEntry -> Env -> SH -> Prop} {K : Env -> SH -> Prop} {d : Option Nat} {α : Type} {e : α -> Value} {N b o : Nat} {f : Int -> α}
end
section
variable {α : Type} {lt : α -> α -> Bool}
end
section
variable {α : Type} {lt : α -> α -> Bool}
end
section
variable {α : Type} {lt : α -> α -> Bool}
structure PI (lt : α -> α -> Bool) (a z i j : Int) (p : α) (g : Int -> α) : Prop where
  piv : g a = p
  less : ∀ k, a < k -> k < i -> lt (g k) p = true
  more : ∀ k, j < k -> k < z -> lt (g k) p = false
  lo : a + 1 <= i
  mid : i <= j + 1
  hi : j < z
end
section
variable {α : Type} {lt : α -> α -> Bool}
end
section
variable {α : Type}
end
end Go.V
namespace Go.V
open Go
structure Ch where
  kind : Int
  n : Int
  text : ByteArray
structure De where
  kind : Int
  handle : Int
  text : ByteArray
  to : ByteArray
  n : Int
  err : Int
structure Wr where
  seq : Int
  at_ : Int
  text : ByteArray
  empty : Bool
structure FO where
  now : List UInt8
  base : List UInt8
  writes : List Wr
  nv : Value
  bv : Value
  wv : Value
  ns : List Value
  bs : List Value
  ws : List Value
structure HO where
  blk : Nat
  closed : Bool
  stale : Bool
  file : Option Nat
  mode : Int
  at_ : Int
def chEnc (c : Ch) : List Value := [.int .u8 c.kind, vi c.n, .string c.text]
def deEnc (d : De) : List Value := [.int .u8 d.kind, vi d.handle, .string d.text, .string d.to, vi d.n, vi d.err]
def wrEnc (x : Wr) : List Value := [vi x.seq, vi x.at_, .string x.text, .bool x.empty]
def u8v (c : UInt8) : Value := .int .u8 c.toNat
def pf (f : Option Nat) : Value := .pointer (f.map fun b => ⟨b, 0, none⟩)
def hoEnc (h : HO) : List Value := [.bool h.closed, .bool h.stale, pf h.file, vi h.mode, vi h.at_]
def hoA (h : HO) : List kE := kA h.blk 0 (hoEnc h)
def foA (p : Nat × FO) : List kE := kA p.1 0 [p.2.nv, p.2.bv, p.2.wv] ++ (slA p.2.nv (p.2.now.map u8v) p.2.ns ++ (slA p.2.bv (p.2.base.map u8v) p.2.bs ++ slA p.2.wv (p.2.writes.flatMap wrEnc) p.2.ws))
structure WR where
  cv : Value
  choices : List Ch
  csp : List Value
  fm : Nat
  fes : Array MapEntry
  fc : Nat
  names : List (ByteArray × Nat)
  objs : List (Nat × FO)
  hv : Value
  hs : List HO
  hsp : List Value
  tv : Value
  trace : List De
  tsp : List Value
  clock : Int
  seq : Int
  dead : Bool
abbrev hdr (w : WR) : List Value := [w.cv, .map (some w.fm), w.hv, w.tv, vi w.clock, vi w.seq, .bool w.dead]
abbrev WMem (t : Nat) (w : WR) : SH :=
  [kA t 0 [w.cv, .map (some w.fm), w.hv, w.tv, vi w.clock, vi w.seq, .bool w.dead], slA w.cv (w.choices.flatMap chEnc) w.csp, [.obj w.fm (.map w.fes w.fc)], w.objs.flatMap foA, slA w.hv (w.hs.map fun h => kN h.blk) w.hsp, w.hs.flatMap hoA, slA w.tv (w.trace.flatMap deEnc) w.tsp]
structure FOk (f : FO) (M : Nat) : Prop where
  now : ku 1 f.nv f.now.length (f.now.map u8v) f.ns
  base : ku 1 f.bv f.base.length (f.base.map u8v) f.bs
  wr : ku 4 f.wv f.writes.length (f.writes.flatMap wrEnc) f.ws
  len : f.now.length <= 4194304
  len2 : f.base.length <= 4194304
  many : f.writes.length <= M
  at_ : ∀ x ∈ f.writes, 0 <= x.at_ /\ x.at_ + x.text.size <= 4194304
structure WOk (w : WR) (M : Nat) : Prop where
  ch : ku 3 w.cv w.choices.length (w.choices.flatMap chEnc) w.csp
  fm : MapIs kStr (fun b : Nat => kN b) w.fes w.fc w.names
  keys : (w.names.map (·.1)).Nodup
  blks : (w.objs.map (·.1)).Nodup
  named : ∀ p ∈ w.names, p.2 ∈ w.objs.map (·.1)
  fo : ∀ p ∈ w.objs, FOk p.2 M
  hv : ku 1 w.hv w.hs.length (w.hs.map fun h => kN h.blk) w.hsp
  hfile : ∀ h ∈ w.hs, ∀ b, h.file = some b -> b ∈ w.objs.map (·.1)
  hat : ∀ h ∈ w.hs, 0 <= h.at_ /\ h.at_ <= 4194304
  hmany : w.hs.length <= M
  tr : ku 6 w.tv w.trace.length (w.trace.flatMap deEnc) w.tsp
  trmany : w.trace.length <= M
  seq : 0 <= w.seq /\ w.seq <= M
  clock : 0 <= w.clock /\ w.clock <= 1000000000000000000
  files : w.names.length <= 1073741823
  chmany : w.choices.length <= 65536
def AllVO (K : List RO -> Prop) : List (List RO) -> Prop
  | [] => True
  | rs :: r => K rs /\ AllVO K r
theorem AllVO.mem {K : List RO -> Prop} : ∀ {rss : List (List RO)}, AllVO K rss -> ∀ rs ∈ rss, K rs := by
  intro rss
  induction rss with
  | nil => intro _ rs h;cases h
  | cons a r ih =>
    intro h rs hm;rcases List.mem_cons.1 hm with rfl | hm
    · exact h.1
    · exact ih h.2 rs hm
theorem VC.draws {P : Program} {n : Nat} {Γ : Env} {H : SH} {Q : Exit -> Env -> SH -> Prop} {rss : List (List RO)} {keep : List Nat} (h : AllVO (fun rs => VO P n rs Γ H (fun _ _ _ => False) fun Γ' H' => Q .normal (restr keep Γ') H') rss) : VC P n (.draw rss keep) Γ H Q := VC.draw h.mem
theorem VC.seq_draws {P : Program} {n : Nat} {Γ : Env} {H : SH} {Q : Exit -> Env -> SH -> Prop} {rss : List (List RO)} {keep : List Nat} {y : IC} {α : Type} (Γf : α -> Env) (Hf : α -> SH) (I : α -> Prop)
    (h : AllVO (fun rs => VO P n rs Γ H (fun _ _ _ => False) fun Γ' H' => ∃ s, I s /\ Sub (restr keep Γ') (Γf s) /\ Imp H' (Hf s)) rss) (h2 : ∀ s, I s -> VC P n y (Γf s) (Hf s) Q) : VC P n (.seq (.draw rss keep) y) Γ H Q := by
  refine VC.seq (VC.draws ?_);have key : ∀ {l : List (List RO)}, AllVO (fun rs => VO P n rs Γ H (fun _ _ _ => False) fun Γ' H' => ∃ s, I s /\ Sub (restr keep Γ') (Γf s) /\ Imp H' (Hf s)) l ->
      AllVO (fun rs => VO P n rs Γ H (fun _ _ _ => False) fun Γ' H' => VC P n y (restr keep Γ') H' Q) l := by
    intro l
    induction l with
    | nil => intro _;trivial
    | cons a r ih =>
      intro hh;exact ⟨hh.1.mono (fun Γ' H' ⟨s, i1, i2, i3⟩ => VC.sub i2 (VC.imp i3 (h2 s i1))), ih hh.2⟩
  exact key h
section
variable {P : Program} {n : Nat} {rs : List RO} {Γ : Env} {H : SH} {Z : List PanicEntry -> Env -> SH -> Prop} {K : Env -> SH -> Prop} {d : Option Nat}
theorem st_gcase {r : R} {s : Nat} {b c : Bool} (hs : look Γ s = some (.bool c)) (ht : c = true -> VO P n (⟨d, some (s, b), r⟩ :: rs) ((s, .bool true) :: Γ) H Z K) (hf : c = false -> VO P n (⟨d, some (s, b), r⟩ :: rs) ((s, .bool false) :: Γ) H Z K) :
    VO P n (⟨d, some (s, b), r⟩ :: rs) Γ H Z K := st_case hs ht hf
theorem st_pcase {s : Nat} {x y : Operand} {c : Bool} (hs : look Γ s = some (.bool c)) (ht : c = true -> VO P n (⟨d, none, .pick (.tmp s) x y⟩ :: rs) ((s, .bool true) :: Γ) H Z K) (hf : c = false -> VO P n (⟨d, none, .pick (.tmp s) x y⟩ :: rs) ((s, .bool false) :: Γ) H Z K) :
    VO P n (⟨d, none, .pick (.tmp s) x y⟩ :: rs) Γ H Z K := st_case hs ht hf
end
end Go.V
namespace Go.V
open Go
def qm (d a : Nat) : RO := ⟨some d, none, .mv (.tmp a)⟩
def qk (d : Nat) (v : Int) : RO := ⟨some d, none, .mv (.const (.int .i64 v))⟩
def qz (d : Nat) (b : Bool) : RO := ⟨some d, none, .mv (.const (.bool b))⟩
def qo (d : Nat) (r : R) : RO := ⟨some d, none, r⟩
def ql (d a : Nat) : RO := ⟨some d, none, .load1 (.tmp a)⟩
def qf (d o a : Nat) : RO := ⟨some d, none, .fld o (.tmp a)⟩
def qi (d s a b : Nat) : RO := ⟨some d, none, .idxL s (.tmp a) (.tmp b)⟩
def qb (d : Nat) (o : BinOp) (a b : Nat) : RO := ⟨some d, none, .bin o (.tmp a) (.tmp b)⟩
def qc (d : Nat) (o : BinOp) (a : Nat) (v : Int) : RO := ⟨some d, none, .bin o (.tmp a) (.const (.int .i64 v))⟩
def qn (d a : Nat) : RO := ⟨some d, none, .nilck (.tmp a)⟩
def qs (n a b : Nat) : RO := ⟨none, none, .store n (.tmp a) (.tmp b)⟩
def qp (d c a b : Nat) : RO := ⟨some d, none, .pick (.tmp c) (.tmp a) (.tmp b)⟩
def qa (d c a : Nat) : RO := ⟨some d, none, .pick (.tmp c) (.tmp a) (.const (.bool false))⟩
def qr (d c b : Nat) : RO := ⟨some d, none, .pick (.tmp c) (.const (.bool true)) (.tmp b)⟩
def qe (d a i : Nat) : RO := ⟨some d, none, .ext (.tmp a) i⟩
def tmps : List Nat -> List Operand
  | [] => []
  | a :: r => .tmp a :: tmps r
def qx (d f : Nat) (l : List Nat) : RO := ⟨some d, none, .call f (tmps l)⟩
def qL (d a : Nat) : RO := ⟨some d, none, .lenL (.tmp a)⟩
def qN (d n a : Nat) : RO := ⟨some d, none, .loadN n (.tmp a)⟩
def qB (d t a : Nat) : RO := ⟨some d, none, .box t (.tmp a)⟩
def qt (g : Nat) (x : RO) : RO := ⟨x.dst, some (g, true), x.op⟩
def qu (g : Nat) (x : RO) : RO := ⟨x.dst, some (g, false), x.op⟩
def qS (rs : List RO) (k : List Nat) (r : IC) : IC := .seq (.reg rs k) r
def qC (c : Nat) (a b : IC) : IC := .cond (.tmp c) a b
def nthO : List RO -> Nat -> RO
  | [], _ => default
  | x :: _, 0 => x
  | _ :: r, n + 1 => nthO r n
def ordO (l : List RO) : List Nat -> List RO
  | [] => []
  | i :: r => nthO l i :: ordO l r
def ordsO (l : List RO) : List (List Nat) -> List (List RO)
  | [] => []
  | p :: r => ordO l p :: ordsO l r
def qD (l : List RO) (ps : List (List Nat)) (k : List Nat) : IC := .draw (ordsO l ps) k
def keepsO : IC -> List (List Nat)
  | .skip | .exit _ | .ret => []
  | .reg _ k | .draw _ k | .free _ _ k => [k]
  | .seq a b | .cond _ a b | .rangef _ _ a b => keepsO a ++ keepsO b
  | .loop (.seq a (.seq b c)) => keepsO a ++ (keepsO c ++ keepsO b)
  | .block _ b | .loop b => keepsO b
def kpO (F : FIR) (i : Nat) : List Nat := (keepsO F.body).getD i []
def laid {X F : FIR} (_h : F = X := by (dsimp only [qm, qk, qz, qo, ql, qf, qi, qb, qc, qn, qs, qp, qa, qr, qe, tmps, qx, qL, qN, qB, qt, qu, qS, qC, nthO, ordO, ordsO, qD] <;> exact rfl)) : FIR := F
theorem TKx {H R : SH} {A : List kE} (h : Tk H A R := by (focus ((repeat (first | with_reducible exact Tk.here | apply Tk.there));done))) : Tk H A R := h
theorem IMx {H D : SH} (h : Imp H D := by (first | with_reducible exact Imp.refl | with_reducible exact Imp.left | (focus ((try simp only [List.nil_append]);(repeat (first | exact Imp.nil | (apply Imp.cons;(focus ((repeat (first | with_reducible exact Tk.here | apply Tk.there));done)))));done)))) : Imp H D := h
theorem SPx {H D R : SH} (h : Spl H D R := by (focus ((repeat (first | exact Spl.nil | (apply Spl.cons;(focus ((repeat (first | with_reducible exact Tk.here | apply Tk.there));done)))));done))) : Spl H D R := h
theorem SUx {G D : Env} (h : Sub G D := by (repeat (first | exact Sub.nil | (apply Sub.cons;rfl)))) : Sub G D := h
theorem CNx {α : Type} : (∀ (a : α) (l r : List α), (a :: l) ++ r = a :: (l ++ r)) /\ (∀ r : List α, ([] : List α) ++ r = r) := ⟨fun _ _ _ => rfl, fun _ => rfl⟩
end Go.V
namespace Go.V
open Go
def VCz (P : Program) (n : Nat) (c : IC) (Γ : Env) (H : SH) (Q : Exit -> Env -> SH -> Prop) : Prop :=
  ∀ ρ kp od code, wi P n kp od code = some c -> ∀ a w F (QQ : Exit -> Act -> World -> Prop), jW n Γ a -> Sat w (H.flatten ++ F) ->
    (∀ e a' w' Γ' H', Q e Γ' H' -> jW n Γ' a' -> a'.defers = a.defers -> Sat w' (H'.flatten ++ F) -> ko w w' -> QQ e a' w') -> code.wpIn (VFc ρ) 0 P QQ a w
section
variable {P : Program} {n : Nat} {Γ : Env} {H : SH} {Q Q' : Exit -> Env -> SH -> Prop}
theorem VCz.skip (h : Q .normal Γ H) : VCz P n .skip Γ H Q := by
  intro ρ kp od code hl a w F QQ ha hs hh;obtain rfl := jT hl;exact wpIn_skip (hh _ _ _ _ _ h ha rfl hs (.refl w))
theorem VCz.cond {c : Operand} {x y : IC} {t : Bool} (hc : ev Γ c = some (.bool t)) (ht : t = true -> VCz P n x Γ H Q) (hf : t = false -> VCz P n y Γ H Q) : VCz P n (.cond c x y) Γ H Q := by
  intro ρ kp od code hl a w F QQ ha hs hh;obtain ⟨p, q, rfl, h1, h2⟩ := jT hl;exact wpIn_cond_split (ha.ev hc) (fun e => ht e ρ kp od _ h1 a w F QQ ha hs hh) (fun e => hf e ρ kp od _ h2 a w F QQ ha hs hh)
theorem VCz.seq {x y : IC} (h : VCz P n x Γ H (thenQ (fun Γ' H' => VCz P n y Γ' H' Q) Q)) : VCz P n (.seq x y) Γ H Q := by
  intro ρ kp od code hl a w F QQ ha hs hh;obtain ⟨p, q, rfl, h1, h2⟩ := jT hl;refine wpIn_seq (h ρ kp od _ h1 a w F _ ha hs (fun e a' w' Γ' H' q g1 g2 g3 g4 => ?_));cases e <;> first
    | exact q ρ kp od _ h2 a' w' F QQ g1 g3 (fun e a2 w2 Γ2 H2 q2 k1 k2 k3 k4 => hh e a2 w2 Γ2 H2 q2 k1 (by rw [k2, g2]) k3 (g4.trans k4))
    | exact hh _ _ _ _ _ q g1 g2 g3 g4
theorem VCz.reg {rs : List RO} {keep : List Nat} (h : VO P n rs Γ H (fun ch Γ' H' => Q (.panic ch) Γ' H') fun Γ' H' => Q .normal (restr keep Γ') H') : VCz P n (.reg rs keep) Γ H Q := by
  intro ρ kp od code hl a w F QQ ha hs hh;obtain ⟨id, ops, rfl, h1, rfl⟩ := jT hl;refine wpIn_region ?_;refine wpR_sound (P := P) (ρ := ρ) (n := n) (ops := ops) (X := fun i => (rs.zip ops.toList).getD i default) (QQ := QQ) (fun i hi => ?_) (List.range ops.size) a w (fun i hi => by simpa using hi) ?_
  · obtain ⟨g1, g2, g3⟩ := zE h1 hi;exact ⟨g1, g3⟩
  · have hlen := (js h1).1;have hmap : (List.range ops.size).map (fun i => (rs.zip ops.toList).getD i default) = rs.zip ops.toList := by
      have hzl : (rs.zip ops.toList).length = ops.size := by simp [hlen]
      apply List.ext_getElem?;intro i;simp only [List.getElem?_map];by_cases hi : i < ops.size
      · rw [List.getElem?_range hi, Option.map_some];rw [List.getD_eq_getElem?_getD];have : i < (rs.zip ops.toList).length := by omega
        rw [Zg this];rfl
      · rw [List.getElem?_eq_none (l := List.range ops.size) (by simpa using hi), List.getElem?_eq_none Zo];rfl
    rw [hmap];refine h (rs.zip ops.toList) ⟨?_, ?_⟩ a w F _ _ ha hs (fun a' w' Γ' H' q g1 g2 g3 g4 => hh .normal a' w' _ H' q (g1.sub (sub_restr _ _)) g2 g3 g4) (fun ch a' w' Γ' H' q g1 g2 g3 g4 => hh (.panic ch) a' w' _ H' q g1 g2 g3 g4)
    · rw [List.map_fst_zip];simp [hlen]
    · intro x hx;obtain ⟨i, hi⟩ := List.getElem?_of_mem hx;have hi2 : i < (rs.zip ops.toList).length := (List.getElem?_eq_some_iff.1 hi).1;have hi3 : i < ops.size := by simp [hlen] at hi2;omega
      obtain ⟨g1, g2, g3⟩ := zE h1 hi3;have : (rs.zip ops.toList).getD i default = x := by rw [List.getD_eq_getElem?_getD, hi];rfl
      rw [this] at g3;exact ⟨ops, g3⟩
end
def FunD (P : Program) (f : Nat) (args : List Value) (Pre : SH) (Q : Value -> SH -> Prop) : Prop :=
  ju P f = true /\ ∀ F w u, Sat w (Pre.flatten ++ F) -> CallsDIn (VFc none) 0 P f args.toArray u w fun e u' w' => u' = u /\ ∃ v Post, e = .returned v /\ Q v Post /\ Sat w' (Post.flatten ++ F) /\ ko w w'
structure DR where
  d : Nat
  g : Nat
  caps : List Operand
def lowDef (P : Program) (n : Nat) : Code -> Option DR
  | .region _ ops false => match ops.toList with
    | [o1, o2] => match lowRO P n ops o1, o2.op with
      | some ⟨some d, none, .clos (.func g) [] caps⟩, .defer c => match c.callee with
        | .value (.tmp d') => if d' = d /\ c.args.size = 0 /\ o2.guard.isNone = true /\ o2.dst.isNone = true then some ⟨d, g, caps⟩ else none
        | _ => none
      | _, _ => none
    | _ => none
  | _ => none
structure DIR where
  n : Nat
  res : List RV
  pre : List IC
  dr : DR
  post : IC
def lowD (P : Program) (n : Nat) (kp : Nat -> List Nat) (od : Nat -> List (List Nat)) : Code -> Option (List IC × DR × IC)
  | .seq a b => match lowDef P n a with
    | some x => (wi P n kp od b).map fun y => ([], x, y)
    | none => match wi P n kp od a, lowD P n kp od b with
      | some x, some (l, d, y) => some (x :: l, d, y)
      | _, _ => none
  | _ => none
def lowFD (P : Program) (kp : Nat -> List Nat) (od : Nat -> List (List Nat)) (f : Nat) : Option DIR :=
  match P.funcs[f]? with
  | none => none
  | some fn => match fn.body with
    | none => none
    | some c => if fn.name != "runtime.NumGoroutine" then
        match lowD P fn.ntmps kp od c, wg P fn.results.toList with
        | some (l, d, y), some r => some ⟨fn.ntmps, r, l, d, y⟩
        | _, _ => none
      else none
def endD (P : Program) (g : Nat) (caps : List Value) (res : List RV) (Q : Value -> SH -> Prop) : Exit -> Env -> SH -> Prop := fun e Γ H => (e = .normal ∨ e = .ret) /\ ∃ Pre R Q2, FunD P g caps Pre Q2 /\ Spl H Pre R /\
  ∀ v Post, Q2 v Post -> endQ res Q .ret Γ (Post ++ R)
def VD (P : Program) (n : Nat) (res : List RV) (dr : DR) (post : IC) (Q : Value -> SH -> Prop) : List IC -> Env -> SH -> Prop
  | [], Γ, H => ∃ vs, evs Γ dr.caps = some vs /\ VC P n post ((dr.d, .func (.func dr.g) #[] vs.toArray) :: Γ) H (endD P dr.g vs res Q)
  | x :: l, Γ, H => VC P n x Γ H (thenQ (fun Γ' H' => VD P n res dr post Q l Γ' H') (endQ res Q))
theorem lowDef_inv {P : Program} {n : Nat} {c : Code} {x : DR} (h : lowDef P n c = some x) : ∃ id ops o1 o2 cl, c = .region id ops false /\ ops.toList = [o1, o2] /\ lowRO P n ops o1 = some ⟨some x.d, none, .clos (.func x.g) [] x.caps⟩ /\
    o2.op = .defer cl /\ cl.callee = .value (.tmp x.d) /\ cl.args = #[] /\ o2.guard = none /\ o2.dst = none := by
  unfold lowDef at h;split at h
  case h_2 => cases h
  rename_i id ops;split at h
  case h_2 => cases h
  rename_i o1 o2 hops;split at h
  case h_2 => cases h
  rename_i d g caps c h1 h2;split at h
  case h_2 => cases h
  rename_i d' hc;split at h
  case isFalse => cases h
  rename_i hcond;obtain ⟨rfl, h3, h4, h5⟩ := hcond;cases h;exact ⟨id, ops, o1, o2, c, rfl, hops, h1, h2, hc, by simpa using h3, by simpa using h4, by simpa using h5⟩
section
variable {P : Program} {n : Nat} {fn : Func} {tmps : Array Value} {FF : List kE} {w0 : World}
theorem leaves_marks {R : Ending -> World -> Prop} {ds : List Deferred} {L : List kE} : ∀ (X : List Nat) (w' : World), Sat w' (L ++ (FF ++ marks X)) -> ko w0 w' ->
    (∀ w'', Sat w'' (L ++ FF) -> ko w0 w'' -> LeavesInM (VFc none) 0 P fn tmps R ds .returning w'') -> LeavesInM (VFc none) 0 P fn tmps R (X.map coll ++ ds) .returning w' := by
  intro X
  induction X with
  | nil => intro w' hs hk h;exact h w' (by simpa [V.marks] using hs) hk
  | cons r X ih =>
    intro w' hs hk h;have hp : (L ++ (FF ++ V.marks (r :: X))).Perm (.obj r (.deferred (some [])) :: (L ++ (FF ++ V.marks X))) := by
      simp only [V.marks, List.map_cons];rw [<- List.append_assoc, <- List.append_assoc];exact List.perm_middle
    have g5 := hs.perm hp;obtain ⟨k1, k2⟩ := g5.obj (List.mem_cons_self ..);obtain ⟨s1, s2⟩ := Sat.setObj (u := .deferred none) g5 rfl;refine ⟨Zs, .inl ⟨r, _, rfl, ?_, ih _ (s1.sub (List.sublist_cons_self ..)) (hk.trans s2) h⟩⟩;simp [Instr.takeDeferred, Go.getObj, Go.setObj, Sem.run, k1]
theorem leaves_end {r : List RV} {Q : Value -> SH -> Prop} {a' : Act} {w' : World} {Γ' : Env} {H' : SH} {X : List Nat} {e : Exit} (hr : wg P fn.results.toList = some r) (q : endQ r Q e Γ' H') (g1 : jW n Γ' a') (g3 : Sat w' (H'.flatten ++ (FF ++ marks X))) (g4 : ko w0 w') :
    LeavesInM (VFc none) 0 P fn a'.tmps (fun e w' => ∃ v Post, e = .returned v /\ Q v Post /\ Sat w' (Post.flatten ++ FF) /\ ko w0 w') (X.map coll) .returning w' := by
  obtain ⟨he, vs, Post, h1, h2, h3⟩ := q;have := leaves_marks (P := P) (fn := fn) (tmps := a'.tmps) (R := fun e w' => ∃ v Post, e = .returned v /\ Q v Post /\ Sat w' (Post.flatten ++ FF) /\ ko w0 w') (ds := []) X w' g3 g4 (fun w'' s k => ⟨_, run_results s hr g1 h1, _, Post, rfl, h3, s.imp h2, k⟩);simpa using this
end
end Go.V
namespace Go.V
open Go
def wE (P : Program) (f : Nat) (args : List Value) (Pre : SH) (Q : Value -> SH -> Prop) (Z : List PanicEntry -> SH -> Prop) : Prop :=
  ju P f = true /\ ∀ F w, Sat w (Pre.flatten ++ F) ->
    Calls P f args.toArray w fun e w' => ∃ Post, ((∃ v, e = .returned v /\ Q v Post) ∨ (∃ ch, e = .panicked ch /\ Z ch Post)) /\ Sat w' (Post.flatten ++ F) /\ ko w w'
section
variable {P : Program} {f : Nat} {args : List Value} {Pre : SH} {Q Q' : Value -> SH -> Prop} {Z Z' : List PanicEntry -> SH -> Prop}
theorem wE.mono (h : wE P f args Pre Q Z) (hq : ∀ v Post, Q v Post -> Q' v Post) (hz : ∀ ch Post, Z ch Post -> Z' ch Post) : wE P f args Pre Q' Z' :=
  ⟨h.1, fun F w hs => (h.2 F w hs).mono fun _ _ ⟨Post, a, b, c⟩ => ⟨Post, a.imp (fun ⟨v, e, q⟩ => ⟨v, e, hq _ _ q⟩) (fun ⟨ch, e, q⟩ => ⟨ch, e, hz _ _ q⟩), b, c⟩⟩
theorem wE.fun (h : wE P f args Pre Q (fun _ _ => False)) : Fun P f args Pre Q :=
  ⟨h.1, fun F w hs => (h.2 F w hs).mono fun _ _ ⟨Post, a, b, c⟩ => by
    rcases a with ⟨v, e, q⟩ | ⟨ch, e, q⟩
    · exact ⟨v, Post, e, q, b, c⟩
    · exact q.elim⟩
end
section
variable {P : Program} {n : Nat} {rs : List RO} {Γ : Env} {H : SH} {Z : List PanicEntry -> Env -> SH -> Prop} {K : Env -> SH -> Prop} {d : Option Nat}
theorem kG {f : Nat} {xs : List Operand} {args : List Value} {Pre R : SH} {Q : Value -> SH -> Prop} {Z' : List PanicEntry -> SH -> Prop} (hf : wE P f args Pre Q Z') (he : evs Γ xs = some args) (hs : Spl H Pre R)
    (h : ∀ v Post, Q v Post -> VO P n rs (putE d v Γ) (Post ++ R) Z K) (hz' : ∀ ch Post, Z' ch Post -> Z ch Γ (Post ++ R)) : VO P n (⟨d, none, .call f xs⟩ :: rs) Γ H Z K := by
  intro l hl a w F ZZ Q' ha hsat hq hz;obtain ⟨o, l', rfl, hl', ops, ho⟩ := wu hl;obtain ⟨g1, g2, g3, g4⟩ := j6 ho;show jX P ZZ (_, o) (wpR P ZZ Q' l') a w;unfold jX;simp only [kw, show jC (V.R.call f xs) = false from rfl, show jI (V.R.call f xs) = false from rfl, if_true, Bool.false_eq_true, if_false];refine ⟨fun e => (by cases e), ?_⟩;obtain ⟨c, h1, h2, h3, h4⟩ := low_call g1;have hargs : (c.args.map a.eval) = args.toArray := by
    apply Array.toList_inj.1;rw [Array.toList_map, h3, ha.evs he]
  have hrun : (execOp a.eval o).run P w = .ok (.enter f args.toArray) w := by
    simp [execOp, h1, resolve, h2, Act.eval, Deferred.ofValue, invoke, hargs, wX h4]
  refine wp_call hrun ?_;have hsat' : Sat w (Pre.flatten ++ (R.flatten ++ F)) := by
    rw [<- List.append_assoc];exact hsat.perm (hs.append_right F)
  refine (hf.2 (R.flatten ++ F) w hsat').mono ?_
  rintro e w' ⟨Post, h5, hs', hk⟩
  have hs2 : Sat w' ((Post ++ R).flatten ++ F) := by rw [List.flatten_append, List.append_assoc];exact hs'
  rcases h5 with ⟨v, rfl, hQ⟩ | ⟨ch, rfl, hQ⟩
  · refine .inl ⟨v, rfl, ?_⟩;rw [<- g2];exact h v Post hQ l' hl' _ w' F ZZ Q' (ha.putE g3 v) hs2 (fun a2 w2 Γ2 H2 k1 k2 k3 k4 k5 => hq a2 w2 Γ2 H2 k1 k2 (k3.trans (ky ..)) k4 (hk.trans k5)) (fun ch a2 w2 Γ2 H2 k1 k2 k3 k4 k5 => hz ch a2 w2 Γ2 H2 k1 k2 (k3.trans (ky ..)) k4 (hk.trans k5))
  · exact .inr ⟨ch, rfl, hz ch a w' Γ _ (hz' ch Post hQ) ha rfl hs2 hk⟩
theorem st_pnc {x : Operand} {t : TypeId} {v : Value} (hx : ev Γ x = some (.iface t v)) (h : Z [{ v := .iface t v, recovered := false }] Γ H) : VO P n (⟨d, none, .pnc x⟩ :: rs) Γ H Z K := by
  intro l hl a w F ZZ Q' ha hsat hq hz;obtain ⟨o, l', rfl, hl', ops, ho⟩ := wu hl;obtain ⟨g1, g2, g3, g4⟩ := j6 ho;show jX P ZZ (_, o) (wpR P ZZ Q' l') a w;unfold jX;simp only [kw, show jC (V.R.pnc x) = false from rfl, show jI (V.R.pnc x) = false from rfl, if_true, Bool.false_eq_true, if_false];refine ⟨fun e => (by cases e), ?_⟩;have hop : o.op = .panic x := by
    obtain ⟨dst, op, ty, pos, after, guard⟩ := o;simp only at g1 |-;cases op
    case panic y => simp only [kz, Option.some.injEq, V.R.pnc.injEq] at g1;rw [g1]
    all_goals (exfalso;try simp only [kz] at g1)
    all_goals (repeat' split at g1)
    all_goals first
      | (cases g1;done)
      | (simp only [Option.map_eq_some_iff] at g1;obtain ⟨_, _, g1⟩ := g1;cases g1;done)
  have hrun : (execOp a.eval o).run P w = .halt (.panic (.iface t v)) w := by
    simp [execOp, hop, ha.ev hx, Instr.panic, goPanic, Sem.run]
  simp only [wpV, hrun, jN];exact hz _ a w Γ H h ha rfl hsat (.refl w)
end
def endP (res : List RV) (Q : Value -> SH -> Prop) (Z : List PanicEntry -> SH -> Prop) : Exit -> Env -> SH -> Prop
  | .panic ch, _, H => ∃ Post, Imp H Post /\ Z ch Post
  | e, Γ, H => endQ res Q e Γ H
theorem jk {res : List RV} {Q : Value -> SH -> Prop} {Z : List PanicEntry -> SH -> Prop} {e : Exit} {Γ : Env} {H : SH} (h : endQ res Q e Γ H) : endP res Q Z e Γ H := by
  have he := h.1;rcases he with rfl | rfl <;> exact h
section
variable {P : Program} {fn : Func} {tmps : Array Value} {FF : List kE} {w0 : World}
theorem leaves_marksU {R : Ending -> World -> Prop} {ds : List Deferred} {L : List kE} {u : FrameMode} (hu : u ≠ .run) : ∀ (X : List Nat) (w' : World), Sat w' (L ++ (FF ++ marks X)) -> ko w0 w' ->
    (∀ w'', Sat w'' (L ++ FF) -> ko w0 w'' -> LeavesInM (VFc none) 0 P fn tmps R ds u w'') -> LeavesInM (VFc none) 0 P fn tmps R (X.map coll ++ ds) u w' := by
  intro X
  induction X with
  | nil => intro w' hs hk h;exact h w' (by simpa [V.marks] using hs) hk
  | cons r X ih =>
    intro w' hs hk h;have hp : (L ++ (FF ++ V.marks (r :: X))).Perm (.obj r (.deferred (some [])) :: (L ++ (FF ++ V.marks X))) := by
      simp only [V.marks, List.map_cons];rw [<- List.append_assoc, <- List.append_assoc];exact List.perm_middle
    have g5 := hs.perm hp;obtain ⟨k1, k2⟩ := g5.obj (List.mem_cons_self ..);obtain ⟨s1, s2⟩ := Sat.setObj (u := .deferred none) g5 rfl;refine ⟨hu, .inl ⟨r, _, rfl, ?_, ih _ (s1.sub (List.sublist_cons_self ..)) (hk.trans s2) h⟩⟩;simp [Instr.takeDeferred, Go.getObj, Go.setObj, Sem.run, k1]
end
theorem wE.intro {P : Program} {kp : Nat -> List Nat} {od : Nat -> List (List Nat)} {f : Nat} {F : FIR} {args : List Value} {Pre : SH} {Q : Value -> SH -> Prop} {Z : List PanicEntry -> SH -> Prop} (hl : kV P kp od f = some F) (hn : args.length <= F.n)
    (h : VC P F.n F.body (argsEnv 0 args) Pre (endP F.res Q Z)) : wE P f args Pre Q Z := by
  unfold kV at hl;split at hl
  · cases hl
  rename_i fn hfn;split at hl
  · cases hl
  rename_i c hc;split at hl
  case isFalse => cases hl
  rename_i hname;split at hl
  case h_2 => cases hl
  rename_i b r hb hr;cases hl;refine ⟨by simp only [ju, hfn, hname, hc];rfl, fun FF w hs => ?_⟩;refine (callsIn_wide (n := 0)).1 (callsIn_of_wp_marks hfn hc trivial (h none kp od c hb _ w FF _ (fun l e => by cases e) ⟨?_, fun t v e => ?_⟩ hs (fun e a' w' Γ' H' X q g1 g2 g3 g4 => ?_)))
  · simp at hn |-;omega
  · obtain ⟨_, h2⟩ := look_argsEnv e;simp only [Nat.sub_zero] at h2;have hlt : t < args.length := (List.getElem?_eq_some_iff.1 h2).1;simp only [Array.getElem?_append, List.size_toArray, hlt, if_true];simpa using h2
  · have hret : ∀ e0, endQ r Q e0 Γ' H' -> LeavesInM (VFc none) 0 P fn a'.tmps (fun e w' => ∃ Post, ((∃ v, e = .returned v /\ Q v Post) ∨ (∃ ch, e = .panicked ch /\ Z ch Post)) /\ Sat w' (Post.flatten ++ FF) /\ ko w w') a'.defers .returning w' := by
      rintro e0 ⟨_, vs, Post, h1, h2, h3⟩
      have := leaves_marksU (P := P) (fn := fn) (tmps := a'.tmps) (w0 := w) (FF := FF) (L := H'.flatten) (u := .returning) (R := fun e w' => ∃ Post, ((∃ v, e = .returned v /\ Q v Post) ∨ (∃ ch, e = .panicked ch /\ Z ch Post)) /\ Sat w' (Post.flatten ++ FF) /\ ko w w') (ds := []) Zs X w' g3 g4
        (fun w'' s k => ⟨_, run_results s hr g1 h1, Post, .inl ⟨_, rfl, h3⟩, s.imp h2, k⟩)
      rw [g2];exact this
    cases e with
    | normal => exact hret _ q
    | ret => exact hret _ q
    | panic ch =>
      obtain ⟨Post, h2, h3⟩ := q;have := leaves_marksU (P := P) (fn := fn) (tmps := a'.tmps) (w0 := w) (FF := FF) (L := H'.flatten) (u := .panicking ch) (R := fun e w' => ∃ Post, ((∃ v, e = .returned v /\ Q v Post) ∨ (∃ ch, e = .panicked ch /\ Z ch Post)) /\ Sat w' (Post.flatten ++ FF) /\ ko w w') (ds := []) Zs X w' g3 g4
        (fun w'' s k => (⟨Post, .inr ⟨ch, rfl, h3⟩, s.imp h2, k⟩ : ∃ Post, _))
      show LeavesInM _ _ _ _ _ _ a'.defers _ _;rw [g2];exact this
    | exit id => exact absurd q.1 Zs
    | goto l => exact absurd q.1 Zs
    | outgrown => exact absurd q.1 Zs
def FunVP (P : Program) (fv : Value) (args : List Value) (Pre : SH) (Q : Value -> SH -> Prop) (Z : List PanicEntry -> SH -> Prop) : Prop :=
  ∀ F w, Sat w (Pre.flatten ++ F) -> Invk P fv args w fun e w' => ∃ Post, ((∃ v, e = .returned v /\ Q v Post) ∨ (∃ ch, e = .panicked ch /\ Z ch Post)) /\ Sat w' (Post.flatten ++ F) /\ ko w w'
theorem FunVP.of_fun {P : Program} {f : Nat} {first cap : Array Value} {args : List Value} {Pre : SH} {Q : Value -> SH -> Prop} {Z : List PanicEntry -> SH -> Prop} (h : wE P f (first.toList ++ args ++ cap.toList) Pre Q Z) : FunVP P (.func (.func f) first cap) args Pre Q Z := by
  intro F w hs;refine ⟨h.1, ?_⟩;have hall : first ++ args.toArray ++ cap = (first.toList ++ args ++ cap.toList).toArray := by
    apply Array.toList_inj.1;simp
  rw [hall];exact h.2 F w hs
theorem st_callVZ {P : Program} {n : Nat} {rs : List RO} {Γ : Env} {H : SH} {Z : List PanicEntry -> Env -> SH -> Prop} {K : Env -> SH -> Prop} {d : Option Nat} {x : Operand} {fv : Value} {xs : List Operand} {args : List Value} {Pre R : SH} {Q : Value -> SH -> Prop} {Z' : List PanicEntry -> SH -> Prop}
    (hx : ev Γ x = some fv) (hf : FunVP P fv args Pre Q Z') (he : evs Γ xs = some args) (hs : Spl H Pre R)
    (h : ∀ v Post, Q v Post -> VO P n rs (putE d v Γ) (Post ++ R) Z K) (hz' : ∀ ch Post, Z' ch Post -> Z ch Γ (Post ++ R)) : VO P n (⟨d, none, .callv x xs⟩ :: rs) Γ H Z K := by
  intro l hl a w F ZZ Q' ha hsat hq hz;obtain ⟨o, l', rfl, hl', ops, ho⟩ := wu hl;obtain ⟨g1, g2, g3, g4⟩ := j6 ho;show jX P ZZ (_, o) (wpR P ZZ Q' l') a w;unfold jX;have hp : jC (V.R.callv x xs) = false := rfl;have hr : jI (V.R.callv x xs) = false := rfl;simp only [kw, hp, hr, if_true, Bool.false_eq_true, if_false];refine ⟨fun e => (by cases e), ?_⟩;obtain ⟨c, h1, h2, h3⟩ := low_callv g1;have hm : xs.map a.eval = args := ha.evs he;have hargs : (c.args.map a.eval) = args.toArray := by
    apply Array.toList_inj.1;rw [Array.toList_map, h3, hm]
  have hsat' : Sat w (Pre.flatten ++ (R.flatten ++ F)) := by
    rw [<- List.append_assoc];exact hsat.perm (hs.append_right F)
  have hi := hf (R.flatten ++ F) w hsat';have fin : ∀ (e : Ending) (w' : World), (∃ Post, ((∃ v, e = .returned v /\ Q v Post) ∨ (∃ ch, e = .panicked ch /\ Z' ch Post)) /\ Sat w' (Post.flatten ++ (R.flatten ++ F)) /\ ko w w') ->
      (∃ v, e = .returned v /\ wpR P ZZ Q' l' (a.put o.dst v) w') ∨ (∃ ch, e = .panicked ch /\ ZZ (.panic ch) a w') := by
    rintro e w' ⟨Post, h5, hs', hk⟩
    have hs2 : Sat w' ((Post ++ R).flatten ++ F) := by rw [List.flatten_append, List.append_assoc];exact hs'
    rcases h5 with ⟨v, rfl, hQ⟩ | ⟨ch, rfl, hQ⟩
    · refine .inl ⟨v, rfl, ?_⟩;rw [<- g2];exact h v Post hQ l' hl' _ w' F ZZ Q' (ha.putE g3 v) hs2 (fun a2 w2 Γ2 H2 k1 k2 k3 k4 k5 => hq a2 w2 Γ2 H2 k1 k2 (k3.trans (ky ..)) k4 (hk.trans k5)) (fun ch a2 w2 Γ2 H2 k1 k2 k3 k4 k5 => hz ch a2 w2 Γ2 H2 k1 k2 (k3.trans (ky ..)) k4 (hk.trans k5))
    · exact .inr ⟨ch, rfl, hz ch a w' Γ _ (hz' ch Post hQ) ha rfl hs2 hk⟩
  have hev : a.eval x = fv := ha.ev hx;unfold Invk at hi;split at hi
  · rename_i f first cap
    have hrun : (execOp a.eval o).run P w = .ok (.enter f (first ++ args.toArray ++ cap)) w := by
      simp [execOp, h1, resolve, h2, hev, Deferred.ofValue, invoke, hargs];rw [wX hi.1]
    simp only [wpV, hrun, jN];refine hi.2.mono (fun e w' he => ?_);rcases fin e w' he with ⟨v, rfl, hv⟩ | ⟨ch, rfl, hv⟩ <;> exact hv
  · rename_i l0 first cap
    obtain ⟨f, tmps, asg, body, hy, hrd⟩ := hi;have hrun : (execOp a.eval o).run P w = .ok (.round l0 f tmps asg body) w := by
      simp [execOp, h1, resolve, h2, hev, Deferred.ofValue, invoke, hargs];exact hy
    simp only [wpV, hrun, jN];refine hrd.mono (fun e w' he => ?_);rcases fin e w' he with ⟨v, rfl, hv⟩ | ⟨ch, rfl, hv⟩ <;> exact hv
  · exact hi.elim
end Go.V

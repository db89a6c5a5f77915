/-
  Stepping, as the default proof of one lemma's premise.
-/
import Derived.Test.YtklkngccaemjdaaGreatVQ
set_option linter.unusedSimpArgs false
set_option linter.unusedVariables false
namespace Go.V
open Go

abbrev vi (n : Int) : Value := .int .i64 n
abbrev ptr0 (b : Nat) : Value := .pointer (some ⟨b, 0, none⟩)

theorem Imp.cut {H M Δ : SH} (h : Imp H M) (k : Imp M Δ) : Imp H Δ := by
  obtain ⟨X, hX⟩ := h
  obtain ⟨Y, hY⟩ := k
  refine ⟨Y ++ X, ?_⟩
  simp only [Spl, List.flatten_append] at *
  refine hX.trans ?_
  rw [← List.append_assoc]
  exact hY.append_right _

theorem Imp.fresh {H : SH} {A : List Atom} (h : A = [] := by rfl) : Imp H (A :: H) := by subst h; exact Imp.perm (by simp)

theorem Imp.app4 {A B C D : List Atom} {R : SH} : Imp ((A ++ (B ++ (C ++ D))) :: R) (A :: B :: C :: D :: R) := Imp.perm (by simp)

theorem Spl.tail1 {A : List Atom} {I : SH} : Spl (A :: I) I [A] := by
  simp only [Spl, List.flatten_cons, List.flatten_nil, List.append_nil]
  exact List.perm_append_comm

theorem Spl.right {A I : SH} : Spl (I ++ A) I A := by simp [Spl]

theorem Spl.mid {A : List Atom} {C S : SH} : Spl (A :: (C ++ S)) C (A :: S) := by
  simp only [Spl, List.flatten_cons, List.flatten_append]
  exact perm_lead _ _ _

theorem Imp.mid {A : List Atom} {C S : SH} : Imp (C ++ (A :: S)) (A :: (C ++ S)) := by
  refine Imp.perm ?_
  simp only [List.flatten_cons, List.flatten_append]
  exact perm_lead _ _ _

theorem Fun.conv {P : Program} {f : Nat} {args : List Value} {H Pre R : SH} {Q Q' : Value → SH → Prop} (h : Fun P f args Pre Q) (hs : Spl H Pre R) (hq : ∀ v Post, Q v Post → ∃ Post', Q' v Post' ∧ Imp (Post ++ R) Post') : Fun P f args H Q' := by
  refine ⟨h.1, fun F w hw => ?_⟩
  have hw' : Sat w (Pre.flatten ++ (R.flatten ++ F)) := by
    rw [← List.append_assoc]; exact hw.perm (List.Perm.append_right F hs)
  refine (h.2 (R.flatten ++ F) w hw').mono ?_
  rintro e w' ⟨v, Post, h1, h2, h3, h4⟩
  obtain ⟨Post', h5, h6⟩ := hq v Post h2
  refine ⟨v, Post', h1, h5, Sat.imp h6 ?_, h4⟩
  rw [List.flatten_append, List.append_assoc]; exact h3

theorem Imp.back {A I : SH} : Imp (I ++ A) (A ++ I) := Imp.perm (by simp only [List.flatten_append]; exact List.perm_append_comm)

theorem Imp.back1 {A : List Atom} {I : SH} : Imp (I ++ [A]) (A :: I) := Imp.back (A := [A])

theorem Imp.head {A : List Atom} {I : SH} : Imp (A :: I) [A] := ⟨I, by simp [Spl]⟩

theorem st_loadA {P : Program} {n : Nat} {rs : List RO} {Γ : Env} {H : SH} {Z : List PanicEntry → Env → SH → Prop} {K : Env → SH → Prop} {d : Option Nat} {m : Nat} {x : Operand} {b o : Nat} {us : List Value} (hx : ev Γ x = some (.pointer (some ⟨b, o, none⟩))) (hm : ∀ a ∈ cellsAt b o us, a ∈ H.flatten) (hn : us.length = m) (h : VO P n rs (putE d (.agg us.toArray) Γ) H Z K) : VO P n (⟨d, none, .loadN m x⟩ :: rs) Γ H Z K :=
  VO.read rfl rfl (fun ρ hρ => ⟨_, rfl, fun F w hs => by
    simp [hρ _ _ hx, Instr.sureAddr, run_loadCells hn hm hs]⟩) h

theorem Fun.flat {P : Program} {f : Nat} {args : List Value} {Pre : SH} {Q : Value → SH → Prop} (h : Fun P f args Pre Q) : Fun P f args [Pre.flatten] (fun v Post => ∃ Post', Q v Post' ∧ Post = [Post'.flatten]) := by
  refine h.conv (R := []) (by simp [V.Spl]) (fun v Post hq => ⟨_, ⟨Post, hq, rfl⟩, Imp.perm (by simp)⟩)

theorem st_extL {P : Program} {n : Nat} {rs : List RO} {Γ : Env} {H : SH} {Z : List PanicEntry → Env → SH → Prop} {K : Env → SH → Prop} {d : Option Nat} {i : Nat} {x : Operand} {l : List Value} {v : Value} (hx : ev Γ x = some (.tuple l.toArray)) (hi : l[i]? = some v) (h : VO P n rs (putE d v Γ) H Z K) : VO P n (⟨d, none, .ext x i⟩ :: rs) Γ H Z K :=
  VO.pure rfl (fun ρ hρ => by simp [pureV, hρ _ _ hx, hi]) h

/-- What is wanted just where a test is true that was itself not wanted: it is not. -/
theorem st_gu {P : Program} {n : Nat} {rs : List RO} {Γ : Env} {H : SH} {Z : List PanicEntry → Env → SH → Prop} {K : Env → SH → Prop} {d : Option Nat} {r : R} {s : Nat} {b : Bool} (hs : look Γ s = some undef) (h : VO P n rs (putE d undef Γ) H Z K) : VO P n (⟨d, some (s, b), r⟩ :: rs) Γ H Z K := by
  intro l hl a w F ZZ Q ha hsat hq hz
  obtain ⟨o, l', rfl, hl', ops, ho⟩ := low_cons hl
  obtain ⟨g1, g2, g3, g4⟩ := lowRO_spec ho
  have hw : wantedR (some (s, b)) a = false := by simp [wantedR, ha.slots _ _ hs, undef]
  show wpR1 P ZZ (⟨d, some (s, b), r⟩, o) (wpR P ZZ Q l') a w
  unfold wpR1
  rw [if_neg (by simp [hw])]
  exact h l' hl' _ w F ZZ Q (ha.putE g3 undef) hsat (fun a2 w2 Γ2 H2 k1 k2 k3 k4 k5 => hq a2 w2 Γ2 H2 k1 k2 (k3.trans (put_defers ..)) k4 k5) (fun ch a2 w2 Γ2 H2 k1 k2 k3 k4 k5 => hz ch a2 w2 Γ2 H2 k1 k2 (k3.trans (put_defers ..)) k4 k5)

/-- A proof that is still to come. -/
structure Later (R : Prop) : Prop where
  out : R

theorem GO {R G : Prop} (r : R) (h : Later R → G := by
  intro later
  (repeat (first
      | (first
    | (apply st_gt; rfl)
    | (apply st_gf; rfl; rfl)
    | (apply st_gu; rfl)
    | (apply st_mv; rfl)
    | (apply st_nil; rfl)
    | (apply st_pick_t; rfl; rfl)
    | (apply st_pick_f; rfl; rfl)
    | (apply st_fld; rfl; ((try simp only [Nat.zero_add, Nat.add_zero, Nat.reduceAdd, Nat.reduceMul, Nat.add_assoc, Int.toNat_natCast, Nat.mul_one]); rfl))
    | (apply st_load1; rfl; (focus ((repeat (first | (apply Has.cells; omega; rfl) | apply Has.there)); done)))
    | (apply st_load1; rfl; (focus ((repeat (first | (apply Has.among; assumption) | apply Has.there)); done)))
    | (apply st_loadM; rfl; (focus ((repeat (first | (apply HasM.cells; omega; (focus (simp only [List.length_cons, List.length_nil, Nat.reduceAdd, Nat.zero_add, Nat.reduceSub, Nat.sub_self, Nat.reduceLeDiff, Nat.le_refl]; done)); (focus (simp only [lnb, Value.cells, Nat.zero_add, Nat.reduceEqDiff, ↓reduceIte, eq_self, Nat.reduceAdd, Nat.reduceSub, Nat.sub_self, Nat.reduceLeDiff, Nat.le_refl, and_self, rep, zeroRow] <;> rfl)); rfl) | apply HasM.there)); done)))
    | (apply st_extL; rfl; rfl)
    | (apply st_ext; rfl; rfl)
    | (apply st_add; rfl; rfl; omega)
    | (apply st_sub; rfl; rfl; omega)
    | (apply st_mul; rfl; rfl; omega)
    | (apply st_rem; rfl; rfl; decide)
    | (apply st_idxL; rfl; rfl; omega; ((try simp only [Nat.zero_add, Nat.add_zero, Nat.reduceAdd, Nat.reduceMul, Nat.add_assoc, Int.toNat_natCast, Nat.mul_one]); rfl))
    | (apply st_idxA; rfl; rfl; omega; ((try simp only [Nat.zero_add, Nat.add_zero, Nat.reduceAdd, Nat.reduceMul, Nat.add_assoc, Int.toNat_natCast, Nat.mul_one]); rfl))
    | (apply st_build; rfl; (focus (simp only [lnb, Value.cells, Nat.zero_add, Nat.reduceEqDiff, ↓reduceIte, eq_self, Nat.reduceAdd, Nat.reduceSub, Nat.sub_self, Nat.reduceLeDiff, Nat.le_refl, and_self, rep, zeroRow] <;> rfl)))
    | (apply st_store'; rfl; rfl; (focus (simp only [lnb, Value.cells, Nat.zero_add, Nat.reduceEqDiff, ↓reduceIte, eq_self, Nat.reduceAdd, Nat.reduceSub, Nat.sub_self, Nat.reduceLeDiff, Nat.le_refl, and_self, rep, zeroRow] <;> rfl)); rfl; rfl; (focus ((repeat (first | (apply Upd.cells; omega; (focus (simp only [List.length_cons, List.length_nil, Nat.reduceAdd, Nat.zero_add, Nat.reduceSub, Nat.sub_self, Nat.reduceLeDiff, Nat.le_refl]; done)); (focus (simp only [lnb, Value.cells, Nat.zero_add, Nat.reduceEqDiff, ↓reduceIte, eq_self, Nat.reduceAdd, Nat.reduceSub, Nat.sub_self, Nat.reduceLeDiff, Nat.le_refl, and_self, rep, zeroRow] <;> rfl))) | apply Upd.there)); done)))
    | (apply st_pure; rfl; rfl; rfl))
      | (refine VO.nil ?_; simp only [V.argsEnv, V.restr, V.look, V.putE, V.thenQ, V.blockQ, Nat.zero_add, Nat.reduceAdd, Nat.reduceEqDiff, ↓reduceIte, eq_self])
      | refine VC.seq_reg ?_
      | refine VC.seq_draw1 ?_
      | refine VC.seq_seq ?_
      | refine VC.seq_block ?_
      | refine VC.seq_skip ?_
      | refine VC.reg ?_
      | refine VC.draw1 ?_
      | refine VC.block ?_
      | (refine VC.skip ?_; simp only [V.argsEnv, V.restr, V.look, V.putE, V.thenQ, V.blockQ, Nat.zero_add, Nat.reduceAdd, Nat.reduceEqDiff, ↓reduceIte, eq_self])
      | (refine VC.exit ?_; simp only [V.argsEnv, V.restr, V.look, V.putE, V.thenQ, V.blockQ, Nat.zero_add, Nat.reduceAdd, Nat.reduceEqDiff, ↓reduceIte, eq_self])
      | (refine VC.ret ?_; try simp only [V.thenQ, V.blockQ])
      | (apply VC.seq_cond_t; rfl)
      | (apply VC.seq_cond_f; rfl)
      | (apply VC.cond_t; rfl)
      | (apply VC.cond_f; rfl)))
  exact later.out) : G := h ⟨r⟩
end Go.V

/-
  A function that defers one closure which recovers.
-/
import Derived.Test.YtmnmandpdadedaaGreatDoorV9
import Derived.Test.YtmnmandpdadedaaGreatDoorV8
set_option linter.unusedSimpArgs false
set_option linter.unusedVariables false
namespace Go.V
open Go
def endDP (P : Program) (g : Nat) (caps : List Value) (res : List RV) (Q : Value → SH → Prop) : Exit → Env → SH → Prop
  | .panic ch, Γ, H => ∃ Pre R Q2 u', FunDR P g caps (.panicking ch) u' Pre Q2 ∧ settle u' = .returning ∧ Spl H Pre R ∧ ∀ Post, Q2 Post → endQ res Q .ret Γ (Post ++ R)
  | e, Γ, H => (e = .normal ∨ e = .ret) ∧ ∃ Pre R Q2, FunDR P g caps .returning .returning Pre Q2 ∧ Spl H Pre R ∧ ∀ Post, Q2 Post → endQ res Q .ret Γ (Post ++ R)
def VDP (P : Program) (n : Nat) (res : List RV) (dr : DR) (post : IC) (Q : Value → SH → Prop) : List IC → Env → SH → Prop
  | [], Γ, H => ∃ vs, evs Γ dr.caps = some vs ∧ VC P n post ((dr.d, .func (.func dr.g) #[] vs.toArray) :: Γ) H (endDP P dr.g vs res Q)
  | x :: l, Γ, H => VC P n x Γ H (thenQ (fun Γ' H' => VDP P n res dr post Q l Γ' H') (endQ res Q))
section
variable {P : Program} {n : Nat} {fn : Func} {tmps : Array Value} {FF : List Atom} {w0 : World}
theorem vdp_sound {kp : Nat → List Nat} {od : Nat → List (List Nat)} {r : List RV} {Q : Value → SH → Prop} (hr : resTmps P fn.results.toList = some r) : ∀ (l : List IC) (c : Code) (dr : DR) (y : IC), lowD P n kp od c = some (l, dr, y) →
    ∀ Γ H a w X, VDP P n r dr y Q l Γ H → Agree n Γ a → Sat w (H.flatten ++ (FF ++ marks X)) → a.defers = X.map coll → Keeps w0 w →
    c.wpIn (VFc none) 0 P (bodyPostM (VFc none) 0 P fn (fun e w' => ∃ v Post, e = .returned v ∧ Q v Post ∧ Sat w' (Post.flatten ++ FF) ∧ Keeps w0 w')) a w := by
  intro l
  induction l with
  | nil =>
    intro c dr y hl Γ H a w X hv ha hs hd hk
    unfold lowD at hl
    split at hl
    case h_2 => cases hl
    rename_i p q
    split at hl
    case h_2 =>
      split at hl <;> cases hl
    rename_i x hx
    simp only [Option.map_eq_some_iff] at hl
    obtain ⟨y', hy, he⟩ := hl
    cases he
    obtain ⟨id, ops, o1, o2, cl, rfl, hops, h1, h2, hcal, hargs, hg, hdst⟩ := lowDef_inv hx
    obtain ⟨vs, hvs, hpost⟩ := hv
    refine wpIn_seq (wpIn_region_list ?_)
    rw [hops]
    obtain ⟨g1, g2, g3, g4⟩ := lowRO_spec h1
    have hv1 : pureV a.eval (.clos (.func dr.g) [] dr.caps) = some (.func (.func dr.g) #[] vs.toArray) := by
      simp [pureV, ha.evs hvs]
    have hrun : (execOp a.eval o1).run P w = .ok (.value (.func (.func dr.g) #[] vs.toArray)) w := pure_sound (w := w) (eval_const a) g1 hv1
    have ha1 := ha.putE g3 (.func (.func dr.g) #[] vs.toArray)
    simp only at ha1 g2
    simp only [wpListIn, g4 a, wantedR, if_true]
    refine ⟨fun _ _ => trivial, ?_⟩
    rw [Oper.semAt_none, hrun]
    show (if Region.wanted o2 (yielded ops (a.put o1.dst _).tmps) then _ else _)
    rw [← g2]
    have hw : Region.wanted o2 (yielded ops (a.put (some dr.d) (.func (.func dr.g) #[] vs.toArray)).tmps) = true := by simp [Region.wanted, hg]
    rw [if_pos hw]
    have hev : (a.put (some dr.d) (.func (.func dr.g) #[] vs.toArray)).eval (.tmp dr.d) = .func (.func dr.g) #[] vs.toArray := ha1.ev (by simp [V.ev, V.putE, V.look])
    have hdef : (execOp (a.put (some dr.d) (.func (.func dr.g) #[] vs.toArray)).eval o2).run P w = .ok (.defer { target := .fn (.func dr.g) vs.toArray, args := #[] }) w := by
      simp [execOp, h2, resolve, hcal, hargs, hev, Deferred.ofValue]
    refine ⟨fun _ _ => trivial, ?_⟩
    rw [Oper.semAt_none, hdef, Oper.uponIn_defer, hdst]
    show q.wpIn _ _ _ _ _ w
    have hputd : (a.put (some dr.d) (.func (.func dr.g) #[] vs.toArray)).defers = a.defers := put_defers ..
    refine hpost none kp od _ hy _ w (FF ++ marks X) _ (fun l e => by cases e) ⟨ha1.size, ha1.slots⟩ hs (fun e a' w' Γ' H' Y q k1 k2 k3 k4 => ?_)
    have hdefs : a'.defers = Y.map coll ++ ({ target := .fn (.func dr.g) vs.toArray, args := #[] } :: X.map coll) := by
      rw [k2]
      show _ ++ ({ target := .fn (.func dr.g) vs.toArray, args := #[] } :: (a.put (some dr.d) (.func (.func dr.g) #[] vs.toArray)).defers) = _
      rw [hputd, hd]
    have go : ∀ (u u' : FrameMode) (Pre Rr : SH) (Q2 : SH → Prop), u ≠ .run → settle u' = .returning → FunDR P dr.g vs u u' Pre Q2 → Spl H' Pre Rr → (∀ Post, Q2 Post → endQ r Q .ret Γ' (Post ++ Rr)) →
        LeavesInM (VFc none) 0 P fn a'.tmps (fun e w' => ∃ v Post, e = .returned v ∧ Q v Post ∧ Sat w' (Post.flatten ++ FF) ∧ Keeps w0 w') a'.defers u w' := by
      intro u u' Pre Rr Q2 hu hset hfd hspl hfin
      rw [hdefs]
      refine leaves_marksU (w0 := w0) (FF := FF ++ marks X) hu Y w' k3 (hk.trans k4) (fun w2 s2 c2 => ?_)
      refine ⟨hu, .inr ⟨by simp, .func dr.g, vs.toArray, dr.g, vs.toArray, rfl, ?_, fun _ _ => trivial, ?_⟩⟩
      · simp [invoke, run_callFunc hfd.1]
      · have hs2 : Sat w2 (Pre.flatten ++ (Rr.flatten ++ (FF ++ marks X))) := by
          rw [← List.append_assoc]; exact s2.perm (hspl.append_right _)
        refine (hfd.2 (Rr.flatten ++ (FF ++ marks X)) w2 hs2).mono ?_
        rintro e2 u2 w3 ⟨rfl, v, Post, rfl, hq2, hs3, hk3⟩
        show LeavesInM _ _ _ _ _ _ (X.map coll) (settle u2) w3
        rw [hset]
        refine leaves_end hr (hfin Post hq2) k1 ?_ (c2.trans hk3)
        rw [List.flatten_append, List.append_assoc]; exact hs3
    cases e with
    | normal =>
      obtain ⟨_, Pre, Rr, Q2, hfd, hspl, hfin⟩ := q
      exact go .returning .returning Pre Rr Q2 (by simp) rfl hfd hspl hfin
    | ret =>
      obtain ⟨_, Pre, Rr, Q2, hfd, hspl, hfin⟩ := q
      exact go .returning .returning Pre Rr Q2 (by simp) rfl hfd hspl hfin
    | panic ch =>
      obtain ⟨Pre, Rr, Q2, u', hfd, hset, hspl, hfin⟩ := q
      exact go (.panicking ch) u' Pre Rr Q2 (by simp) hset hfd hspl hfin
    | exit id => exact absurd q.1 (by simp)
    | goto l => exact absurd q.1 (by simp)
    | outgrown => exact absurd q.1 (by simp)
  | cons x l ih =>
    intro c dr y hl Γ H a w X hv ha hs hd hk
    unfold lowD at hl
    split at hl
    case h_2 => cases hl
    rename_i p q
    split at hl
    · simp only [Option.map_eq_some_iff] at hl
      obtain ⟨y', hy, he⟩ := hl
      cases he
    split at hl
    case h_2 => cases hl
    rename_i x' l' d' y' hx hq
    cases hl
    refine wpIn_seq (hv none kp od _ hx a w (FF ++ marks X) _ (fun l e => by cases e) ha hs (fun e a' w' Γ' H' Y q k1 k2 k3 k4 => ?_))
    have hdefs : a'.defers = (Y ++ X).map coll := by rw [k2, hd]; simp
    cases e <;> first
      | exact ih _ _ _ hq Γ' H' a' w' (Y ++ X) q k1 k3.marks hdefs (hk.trans k4)
      | (obtain ⟨he, _⟩ := q; simp at he; done)
      | (show LeavesInM _ _ _ _ _ _ a'.defers _ w'; rw [hdefs]; exact leaves_end hr q k1 k3.marks (hk.trans k4))
end
theorem Fun.introDP {P : Program} {kp : Nat → List Nat} {od : Nat → List (List Nat)} {f : Nat} {F : DIR} {args : List Value} {Pre : SH} {Q : Value → SH → Prop} (hl : lowFD P kp od f = some F) (hn : args.length ≤ F.n)
    (h : VDP P F.n F.res F.dr F.post Q F.pre (argsEnv 0 args) Pre) : Fun P f args Pre Q := by
  unfold lowFD at hl
  split at hl
  · cases hl
  rename_i fn hfn
  split at hl
  · cases hl
  rename_i c hc
  split at hl
  case isFalse => cases hl
  rename_i hname
  split at hl
  case h_2 => cases hl
  rename_i l d y r hb hr
  cases hl
  refine ⟨by simp only [callable, hfn, hname, hc]; rfl, fun FF w hs => ?_⟩
  refine (callsIn_wide (n := 0)).1 (callsIn_of_wp_marks hfn hc trivial (vdp_sound hr l c d y hb _ _ _ w [] h ⟨?_, fun t v e => ?_⟩ (by simpa [V.marks] using hs) rfl (.refl w)))
  · simp at hn ⊢; omega
  · obtain ⟨_, h2⟩ := look_argsEnv e
    simp only [Nat.sub_zero] at h2
    have hlt : t < args.length := (List.getElem?_eq_some_iff.1 h2).1
    simp only [Array.getElem?_append, List.size_toArray, hlt, if_true]
    simpa using h2
def laidA {α : Type} {X F : α} (_h : F = X := by (dsimp only [qm, qk, qz, qo, ql, qf, qi, qb, qc, qn, qs, qp, qa, qr, qe, tmps, qx, qL, qN, qB, qt, qu, qS, qC, nthO, ordO, ordsO, qD] <;> exact rfl)) : α := F
def sBytes (s : ByteArray) : List Value := s.data.toList.map fun c => .int .u8 c.toNat
def SubAt : Value → Nat → Value → Prop
  | .slice (some ⟨b, o, none⟩) k c, l, dv => dv = .slice (some ⟨b, (if c = l then o else o + l), none⟩) (k - l) (c - l)
  | .slice none k c, l, dv => dv = .slice none (k - l) (c - l)
  | _, _, _ => False
theorem imp_nil (H : SH) : Imp H [[]] := ⟨H, by simp only [V.Spl, List.flatten_cons, List.flatten_nil, List.append_nil, List.nil_append]; exact .refl _⟩
section
variable {P : Program} {n : Nat} {rs : List RO} {Γ : Env} {H : SH} {Z : List PanicEntry → Env → SH → Prop} {K : Env → SH → Prop} {d : Option Nat}
theorem st_slcAt {x lo : Operand} {sv : Value} {k l : Nat} {xs sp : List Value} (hx : ev Γ x = some sv) (hsl : IsSl 1 sv k xs sp) (hlo : Bnd Γ 0 (some lo) l) (hl : l ≤ k)
    (h : ∀ dv, SubAt sv l dv → VO P n rs (putE d dv Γ) H Z K) : VO P n (⟨d, none, .slcL 1 x (some lo) none none⟩ :: rs) Γ H Z K := by
  cases hsl with
  | @mk b o _ c _ _ h1 h2 h3 => exact st_slcL hx hlo .dft ⟨hl, h3⟩ (by rw [Nat.mul_one]) (h _ rfl)
  | nil => exact st_slcN hx hlo .dft ⟨hl, Nat.le_refl _⟩ (h _ rfl)
theorem st_copyS {x y : Operand} {sv dv : Value} {k l : Nat} {xs sp : List Value} {s : ByteArray} {R : SH} (hx : ev Γ x = some dv) (hy : ev Γ y = some (.string s)) (hsl : IsSl 1 sv k xs sp) (hd : SubAt sv l dv) (hl : l + s.size ≤ k)
    (ht : Tk H (slA sv xs sp) R) (h : VO P n rs (putE d (vi s.size) Γ) (slA sv (xs.take l ++ sBytes s ++ xs.drop (l + s.size)) sp :: R) Z K) : VO P n (⟨d, none, .copy 1 x y⟩ :: rs) Γ H Z K := by
  refine VO.act' rfl rfl (fun ρ hρ => ⟨_, rfl, ?_⟩)
  rw [hρ _ _ hx, hρ _ _ hy]
  refine SWP.perm ht.perm ?_
  have hys : (sBytes s).length = s.size := by simp [sBytes]
  have hmin : Nat.min s.size (k - l) = s.size := Nat.min_eq_left (by omega)
  cases hsl with
  | @mk b o _ c _ _ h1 h2 h3 =>
    simp only [SubAt] at hd
    subst hd
    simp only [seqLen, hmin]
    have hsrc : Src (slA (.slice (some ⟨b, o, none⟩) k c) xs sp ++ R.flatten) 1 s.size (sBytes s) (.string s) := by
      simp only [Src, sBytes]
      rw [List.take_of_length_le (by simp)]
    refine SWP.bind (SWP.firstCells hsrc ?_)
    rw [Nat.mul_one] at h1 h2
    by_cases hz : s.size = 0
    · have he : sBytes s = [] := List.eq_nil_of_length_eq_zero (by omega)
      rw [he]
      have hsz := SWP.storeCells (P := P) (b := b) (o := if c = l then o else o + l) (vs := []) (us := []) (R := slA (.slice (some ⟨b, o, none⟩) k c) xs sp ++ R.flatten) (K := fun _ L => L = slA (.slice (some ⟨b, o, none⟩) k c) xs sp ++ R.flatten) rfl (by simp) (by simp [cellsAt])
      have hnil : cellsAt b (if c = l then o else o + l) [] = [] := by simp [cellsAt]
      rw [hnil, List.nil_append] at hsz
      refine SWP.bind (SWP.mono hsz ?_)
      rintro _ L rfl
      refine SWP.pure ?_
      refine ⟨_, _, [], .inl rfl, ?_, h⟩
      simp [he, hz, cellsAt]
    · have hcl : c ≠ l := by omega
      rw [if_neg hcl]
      have hsplit : cellsAt b o (xs ++ sp) = cellsAt b o (xs.take l) ++ (cellsAt b (o + l) ((xs.drop l).take s.size) ++ cellsAt b (o + l + s.size) (xs.drop (l + s.size) ++ sp)) := by
        conv => lhs; rw [← List.take_append_drop l xs, List.append_assoc, cellsAt_append]
        congr 1
        rw [List.length_take, Nat.min_eq_left (by omega)]
        conv => lhs; rw [← List.take_append_drop s.size (xs.drop l), List.append_assoc, cellsAt_append]
        rw [List.length_take, List.length_drop, Nat.min_eq_left (by omega), List.drop_drop]
      have hperm : (slA (.slice (some ⟨b, o, none⟩) k c) xs sp ++ R.flatten).Perm (cellsAt b (o + l) ((xs.drop l).take s.size) ++ (cellsAt b o (xs.take l) ++ (cellsAt b (o + l + s.size) (xs.drop (l + s.size) ++ sp) ++ R.flatten))) := by
        simp only [slA, hsplit, List.append_assoc]
        exact perm_lead _ _ _
      refine SWP.perm hperm (SWP.bind (SWP.storeCells (by simp; omega) (by intro v hv; obtain ⟨c, _, rfl⟩ := List.mem_map.1 hv; rfl) (SWP.pure ?_)))
      refine ⟨_, _, [], .inl rfl, ?_, h⟩
      have hlt : (xs.take l).length = l := by rw [List.length_take]; omega
      simp only [slA, List.flatten_cons, List.append_nil, cellsAt_append, hlt, hys, List.append_assoc, List.length_append, Nat.add_assoc]
      exact perm_lead _ _ _
  | nil =>
    have hs0 : s.size = 0 := by omega
    simp only [SubAt] at hd
    subst hd
    simp only [seqLen, hmin]
    have he : sBytes s = [] := List.eq_nil_of_length_eq_zero (by omega)
    refine SWP.bind (SWP.firstCells (vs := []) (by simp only [Src, hs0]; simp) (SWP.pure ?_))
    refine ⟨_, _, [], .inl rfl, ?_, h⟩
    simp [slA]
end
def setObj (objs : List (Nat × FO)) (b : Nat) (fo : FO) : List (Nat × FO) := objs.map fun p => if p.1 = b then (b, fo) else p
theorem setObj_of {A C : List (Nat × FO)} {b : Nat} {fo fo' : FO} (h : ((A ++ (b, fo) :: C).map (·.1)).Nodup) : setObj (A ++ (b, fo) :: C) b fo' = A ++ (b, fo') :: C := by
  rw [List.map_append, List.map_cons] at h
  have h1 := List.nodup_append.1 h
  have hA : ∀ p ∈ A, p.1 ≠ b := fun p hp he => h1.2.2 p.1 (List.mem_map_of_mem hp) b (List.mem_cons_self) he
  have hC : ∀ p ∈ C, p.1 ≠ b := fun p hp he => (List.nodup_cons.1 h1.2.1).1 (List.mem_map.2 ⟨p, hp, he⟩)
  simp only [setObj, List.map_append, List.map_cons, ↓reduceIte]
  rw [List.map_congr_left (g := id) (fun p hp => by simp [hA p hp]), List.map_congr_left (l := C) (g := id) (fun p hp => by simp [hC p hp])]
  simp
theorem objs_take {objs : List (Nat × FO)} {b : Nat} {fo : FO} (hn : (objs.map (·.1)).Nodup) (hm : (b, fo) ∈ objs) :
    ∃ rest : List Atom, (objs.flatMap foA).Perm (foA (b, fo) ++ rest) ∧ ∀ fo', ((setObj objs b fo').flatMap foA).Perm (foA (b, fo') ++ rest) := by
  obtain ⟨A, C, rfl⟩ := List.append_of_mem hm
  refine ⟨A.flatMap foA ++ C.flatMap foA, ?_, fun fo' => ?_⟩
  · rw [List.flatMap_append, List.flatMap_cons]; exact perm_lead _ _ _
  · rw [setObj_of hn, List.flatMap_append, List.flatMap_cons]; exact perm_lead _ _ _
theorem setObj_keys {objs : List (Nat × FO)} {b : Nat} {fo : FO} : (setObj objs b fo).map (·.1) = objs.map (·.1) := by
  simp only [setObj, List.map_map]
  refine List.map_congr_left (fun p _ => ?_)
  simp only [Function.comp]
  split <;> simp_all
theorem mem_setObj {objs : List (Nat × FO)} {b : Nat} {fo : FO} {p : Nat × FO} (h : p ∈ setObj objs b fo) : p = (b, fo) ∨ (p ∈ objs ∧ p.1 ≠ b) := by
  obtain ⟨q, hq, rfl⟩ := List.mem_map.1 h
  by_cases hb : q.1 = b
  · exact .inl (by simp [hb])
  · exact .inr (by simp [hb, hq])
theorem hs_take {hs : List HO} {i : Nat} {h : HO} (hi : hs[i]? = some h) :
    ∃ rest : List Atom, (hs.flatMap hoA).Perm (hoA h ++ rest) ∧ ∀ h', ((hs.set i h').flatMap hoA).Perm (hoA h' ++ rest) := by
  obtain ⟨hlt, rfl⟩ := List.getElem?_eq_some_iff.1 hi
  refine ⟨(hs.take i).flatMap hoA ++ (hs.drop (i + 1)).flatMap hoA, ?_, fun h' => ?_⟩
  · conv => lhs; rw [← List.take_append_drop i hs, List.drop_eq_getElem_cons hlt]
    rw [List.flatMap_append, List.flatMap_cons]; exact perm_lead _ _ _
  · rw [List.set_eq_take_append_cons_drop, if_pos hlt, List.flatMap_append, List.flatMap_cons]; exact perm_lead _ _ _
theorem imp_tk {H R : SH} {x : List Atom} (ys : SH) (ht : Tk H x R) (h : x.Perm ys.flatten) : Imp H (ys ++ R) := by
  refine Imp.perm (ht.perm.trans ?_)
  rw [List.flatten_append]
  exact List.Perm.append_right _ h
theorem imp_jn {H R R' : SH} {a b x : List Atom} (ha : Tk H a R) (hb : Tk R b R') (h : x.Perm (a ++ b)) : Imp H (x :: R') := by
  refine Imp.perm (ha.perm.trans ?_)
  rw [List.flatten_cons]
  refine (List.Perm.append_left _ hb.perm).trans ?_
  rw [← List.append_assoc]
  exact List.Perm.append_right _ h.symm
theorem imp_close {t : Nat} {w : WR} {X : SH} {F1 F2 frest H1 hrest : List Atom} (hf : (w.objs.flatMap foA).Perm (F1 ++ (F2 ++ frest))) (hh : (w.hs.flatMap hoA).Perm (H1 ++ hrest)) :
    Imp ([cellsAt t 0 (hdr w), slA w.cv (w.choices.flatMap chEnc) w.csp, [.obj w.fm (.map w.fes w.fc)], slA w.hv (w.hs.map fun h => ptr0 h.blk) w.hsp, slA w.tv (w.trace.flatMap deEnc) w.tsp, F1, F2, frest, H1, hrest] ++ X) (WMem t w ++ X) := by
  refine Imp.perm ?_
  rw [List.flatten_append, List.flatten_append]
  refine List.Perm.append_right _ ?_
  simp only [List.flatten_cons, List.flatten_nil, List.append_nil]
  refine List.Perm.append_left _ (List.Perm.append_left _ (List.Perm.append_left _ ?_))
  generalize slA w.hv (w.hs.map fun h => ptr0 h.blk) w.hsp = a
  generalize slA w.tv (w.trace.flatMap deEnc) w.tsp = b
  have h1 : (F1 ++ (F2 ++ (frest ++ (H1 ++ hrest)))).Perm (w.objs.flatMap foA ++ w.hs.flatMap hoA) := by
    have := List.Perm.append hf.symm hh.symm
    simpa only [List.append_assoc] using this
  refine (List.Perm.append_left a (List.Perm.append_left b h1)).trans ?_
  generalize w.objs.flatMap foA = o
  generalize w.hs.flatMap hoA = h
  refine (perm_lead a b (o ++ h)).trans ?_
  refine (List.perm_append_comm).trans ?_
  rw [List.append_assoc, List.append_assoc]
  refine (perm_lead a o (h ++ b)).trans ?_
  exact .refl _
theorem set_blk {hs : List HO} {i : Nat} {x y : HO} (hx : hs[i]? = some x) (hb : y.blk = x.blk) : (hs.set i y).map (fun h => ptr0 h.blk) = hs.map fun h => ptr0 h.blk := by
  obtain ⟨hlt, rfl⟩ := List.getElem?_eq_some_iff.1 hx
  rw [List.map_set, hb]
  conv => rhs; rw [← List.set_getElem_self (as := hs.map fun h => ptr0 h.blk) (i := i) (by simpa using hlt)]
  simp
def onL (x : Wr) (l : List UInt8) : List UInt8 :=
  if x.empty then [] else
    let m := l ++ List.replicate (x.at_.toNat + x.text.size - l.length) 0
    m.take x.at_.toNat ++ x.text.data.toList ++ m.drop (x.at_.toNat + x.text.size)
theorem onL_length {x : Wr} {l : List UInt8} (h : x.empty = false) : (onL x l).length = Nat.max l.length (x.at_.toNat + x.text.size) := by
  have hb : x.text.data.toList.length = x.text.size := by simp
  simp only [onL, h, Bool.false_eq_true, ↓reduceIte, List.length_append, List.length_take, List.length_drop, List.length_replicate, hb]
  have : ∀ a b c : Nat, min a (b + (a + c - b)) + c + (b + (a + c - b) - (a + c)) = Nat.max b (a + c) := by
    intro a b c
    show _ = max b (a + c)
    omega
  exact this _ _ _
structure AF where
  now : List UInt8
  base : List UInt8
  writes : List Wr
structure AW where
  choices : List Ch
  names : List (ByteArray × Nat)
  files : List AF
  hs : List HO
  trace : List De
  clock : Int
  seq : Int
  dead : Bool
def foF (f : FO) : AF := ⟨f.now, f.base, f.writes⟩
def ho0 (h : HO) : HO := { h with blk := 0 }
def hoB (B : List Nat) (h : HO) : HO := { h with blk := 0, file := h.file.map fun i => B.getD i 0 }
structure Rep (w : WR) (a : AW) (M : Nat) : Prop where
  ch : w.choices = a.choices
  tr : w.trace = a.trace
  clock : w.clock = a.clock
  seq : w.seq = a.seq
  dead : w.dead = a.dead
  names : w.names = a.names.map fun p => (p.1, (w.objs.map (·.1)).getD p.2 0)
  nin : ∀ p ∈ a.names, p.2 < a.files.length
  files : w.objs.map (fun p => foF p.2) = a.files
  hs : w.hs.map ho0 = a.hs.map (hoB (w.objs.map (·.1)))
  hin : ∀ h ∈ a.hs, ∀ i, h.file = some i → i < a.files.length
  ok : WOk w M
theorem heldE_congr {hs hs' : List HO} (h : hs.map (fun h => (h.closed, h.stale, h.file.isNone)) = hs'.map fun h => (h.closed, h.stale, h.file.isNone)) (n : Int) (host : Bool) : heldE hs n host = heldE hs' n host := by
  unfold heldE
  by_cases h1 : 1 ≤ n
  · simp only [if_pos h1]
    have hg : ((hs.map (fun h => (h.closed, h.stale, h.file.isNone)))[(n - 1).toNat]?) = ((hs'.map (fun h => (h.closed, h.stale, h.file.isNone)))[(n - 1).toNat]?) := by rw [h]
    simp only [List.getElem?_map] at hg
    cases hx : hs[(n - 1).toNat]? with
    | none =>
      cases hy : hs'[(n - 1).toNat]? with
      | none => rfl
      | some y => rw [hx, hy] at hg; cases hg
    | some x =>
      cases hy : hs'[(n - 1).toNat]? with
      | none => rw [hx, hy] at hg; cases hg
      | some y =>
        rw [hx, hy] at hg
        simp only [Option.map_some, Option.some.injEq, Prod.mk.injEq] at hg
        obtain ⟨g1, g2, g3⟩ := hg
        simp only [g1, g2, g3]
  · simp only [if_neg h1]
theorem anyE_congr {hs hs' : List HO} (h : hs.map (fun h => (h.closed, h.stale, h.file.isNone)) = hs'.map fun h => (h.closed, h.stale, h.file.isNone)) (n : Int) : anyE hs n = anyE hs' n := by
  unfold anyE
  by_cases h1 : 1 ≤ n
  · simp only [if_pos h1]
    have hg : ((hs.map (fun h => (h.closed, h.stale, h.file.isNone)))[(n - 1).toNat]?) = ((hs'.map (fun h => (h.closed, h.stale, h.file.isNone)))[(n - 1).toNat]?) := by rw [h]
    simp only [List.getElem?_map] at hg
    cases hx : hs[(n - 1).toNat]? with
    | none =>
      cases hy : hs'[(n - 1).toNat]? with
      | none => rfl
      | some y => rw [hx, hy] at hg; cases hg
    | some x =>
      cases hy : hs'[(n - 1).toNat]? with
      | none => rw [hx, hy] at hg; cases hg
      | some y =>
        rw [hx, hy] at hg
        simp only [Option.map_some, Option.some.injEq, Prod.mk.injEq] at hg
        simp only [hg.1]
  · simp only [if_neg h1]
theorem usedN_congr {hs hs' : List HO} (h : hs.map (fun h => (h.closed, h.stale, h.file.isNone)) = hs'.map fun h => (h.closed, h.stale, h.file.isNone)) : usedN hs = usedN hs' := by
  induction hs generalizing hs' with
  | nil => cases hs' with
    | nil => rfl
    | cons y r => cases h
  | cons x r ih => cases hs' with
    | nil => cases h
    | cons y r' =>
      simp only [List.map_cons, List.cons.injEq, Prod.mk.injEq] at h
      have := ih h.2
      unfold usedN at this ⊢
      simp only [List.filter_cons, h.1.1, h.1.2.1]
      split <;> simp_all
section
variable {w : WR} {a : AW} {M : Nat}
theorem Rep.flags (h : Rep w a M) : w.hs.map (fun h => (h.closed, h.stale, h.file.isNone)) = a.hs.map fun h => (h.closed, h.stale, h.file.isNone) := by
  have := congrArg (List.map fun h : HO => (h.closed, h.stale, h.file.isNone)) h.hs
  simp only [List.map_map] at this
  have e1 : ((fun h : HO => (h.closed, h.stale, h.file.isNone)) ∘ ho0) = fun h => (h.closed, h.stale, h.file.isNone) := rfl
  have e2 : ((fun h : HO => (h.closed, h.stale, h.file.isNone)) ∘ hoB (w.objs.map (·.1))) = fun h => (h.closed, h.stale, h.file.isNone) := by
    funext h; simp [hoB]
  rw [e1, e2] at this
  exact this
theorem Rep.held (h : Rep w a M) (n : Int) (host : Bool) : heldE w.hs n host = heldE a.hs n host := heldE_congr h.flags n host
theorem Rep.any (h : Rep w a M) (n : Int) : anyE w.hs n = anyE a.hs n := anyE_congr h.flags n
theorem Rep.used (h : Rep w a M) : usedN w.hs = usedN a.hs := usedN_congr h.flags
theorem Rep.hlen (h : Rep w a M) : w.hs.length = a.hs.length := by have := congrArg List.length h.hs; simpa using this
theorem Rep.flen (h : Rep w a M) : w.objs.length = a.files.length := by have := congrArg List.length h.files; simpa using this
theorem Rep.nlen (h : Rep w a M) : w.names.length = a.names.length := by have := congrArg List.length h.names; simpa using this
theorem WOk.mono {M' : Nat} (h : WOk w M) (hm : M ≤ M') : WOk w M' :=
  { h with fo := fun p hp => let x := h.fo p hp; { x with many := Nat.le_trans x.many hm }, hmany := Nat.le_trans h.hmany hm, trmany := Nat.le_trans h.trmany hm, seq := ⟨h.seq.1, by have := h.seq.2; omega⟩ }
theorem Rep.mono {M' : Nat} (h : Rep w a M) (hm : M ≤ M') : Rep w a M' := { h with ok := h.ok.mono hm }
theorem Rep.handle (h : Rep w a M) {i : Nat} {x : HO} (hx : w.hs[i]? = some x) : ∃ y, a.hs[i]? = some y ∧ ho0 x = hoB (w.objs.map (·.1)) y := by
  have := congrArg (·[i]?) h.hs
  simp only [List.getElem?_map, hx, Option.map_some] at this
  cases hy : a.hs[i]? with
  | none => rw [hy] at this; cases this
  | some y => rw [hy] at this; exact ⟨y, rfl, by simpa using this⟩
theorem Rep.file (h : Rep w a M) {j : Nat} (hj : j < a.files.length) : ∃ b fo, w.objs[j]? = some (b, fo) ∧ (w.objs.map (·.1)).getD j 0 = b ∧ a.files[j]? = some (foF fo) ∧ FOk fo M := by
  have hl : j < w.objs.length := by rw [h.flen]; exact hj
  refine ⟨w.objs[j].1, w.objs[j].2, by simp [hl], ?_, ?_, h.ok.fo _ (List.getElem_mem hl)⟩
  · simp [List.getD_eq_getElem?_getD, hl]
  · rw [← h.files]; simp [hl]
theorem Rep.opened (h : Rep w a M) {n : Int} (he : heldE a.hs n false = 0) :
    ∃ x y b j fo, 1 ≤ n ∧ w.hs[(n - 1).toNat]? = some x ∧ a.hs[(n - 1).toNat]? = some y ∧ x.closed = false ∧ x.stale = false ∧ y.closed = false ∧ y.stale = false ∧ x.mode = y.mode ∧ x.at_ = y.at_ ∧ x.file = some b ∧ y.file = some j ∧
      w.objs[j]? = some (b, fo) ∧ a.files[j]? = some (foF fo) ∧ FOk fo M ∧ (0 ≤ x.at_ ∧ x.at_ ≤ 4194304) := by
  rw [← h.held] at he
  obtain ⟨h1, x, hx, hc, hf, hs⟩ := heldE_ok he
  obtain ⟨y, hy, hxy⟩ := h.handle hx
  have hm := List.mem_of_getElem? hx
  obtain ⟨b0, c0, s0, f0, m0, a0⟩ := x
  obtain ⟨b1, c1, s1, f1, m1, a1⟩ := y
  simp only [ho0, hoB, HO.mk.injEq, true_and] at hxy
  obtain ⟨rfl, rfl, rfl, rfl, rfl⟩ := hxy
  simp only at hc hs hf
  cases f1 with
  | none => simp at hf
  | some j =>
    obtain ⟨b, fo, g1, g2, g3, g4⟩ := h.file (h.hin _ (List.mem_of_getElem? hy) j rfl)
    exact ⟨_, _, b, j, fo, h1, hx, hy, hc, hs, hc, hs, rfl, rfl, by simp only [Option.map_some, g2], rfl, g1, g3, g4, h.ok.hat _ hm⟩
theorem Rep.setH (h : Rep w a M) {i : Nat} {x y x' y' : HO} (hx : w.hs[i]? = some x) (hy : a.hs[i]? = some y) (hb : x'.blk = x.blk) (hf : x'.file = x.file) (hf' : y'.file = y.file)
    (he : x'.closed = y'.closed ∧ x'.stale = y'.stale ∧ x'.mode = y'.mode ∧ x'.at_ = y'.at_) (ha : 0 ≤ x'.at_ ∧ x'.at_ ≤ 4194304) : Rep { w with hs := w.hs.set i x' } { a with hs := a.hs.set i y' } M := by
  obtain ⟨z, hz, hxz⟩ := h.handle hx
  rw [hy] at hz; cases hz
  have hfb : x.file = y.file.map fun i => (w.objs.map (·.1)).getD i 0 := by
    have := congrArg HO.file hxz; simpa [ho0, hoB] using this
  have hmx : ∀ z ∈ w.hs.set i x', z = x' ∨ z ∈ w.hs := fun z hz => (List.mem_or_eq_of_mem_set hz).symm
  refine { h with hs := ?_, hin := ?_, ok := { h.ok with hv := ?_, hfile := ?_, hat := ?_, hmany := ?_ } }
  · simp only [List.map_set]
    rw [h.hs]
    congr 1
    obtain ⟨b0, c0, s0, f0, m0, a0⟩ := x'
    obtain ⟨b1, c1, s1, f1, m1, a1⟩ := y'
    simp only at he hf hf'
    obtain ⟨rfl, rfl, rfl, rfl⟩ := he
    simp only [ho0, hoB, HO.mk.injEq, true_and, and_true]
    rw [hf, hfb, hf']
  · intro z hz k hk
    rcases List.mem_or_eq_of_mem_set hz with hz | rfl
    · exact h.hin z hz k hk
    · exact h.hin y (List.mem_of_getElem? hy) k (by rw [← hf']; exact hk)
  · rw [set_blk hx hb, List.length_set]; exact h.ok.hv
  · intro z hz b hzb
    rcases hmx z hz with rfl | hz
    · exact h.ok.hfile x (List.mem_of_getElem? hx) b (by rw [← hf]; exact hzb)
    · exact h.ok.hfile z hz b hzb
  · intro z hz
    rcases hmx z hz with rfl | hz
    · exact ha
    · exact h.ok.hat z hz
  · simpa using h.ok.hmany
theorem fst_set {objs : List (Nat × FO)} {j : Nat} {b : Nat} {fo fo' : FO} (hj : objs[j]? = some (b, fo)) : (objs.set j (b, fo')).map (·.1) = objs.map (·.1) := by
  obtain ⟨hlt, he⟩ := List.getElem?_eq_some_iff.1 hj
  rw [List.map_set]
  conv => rhs; rw [← List.set_getElem_self (as := objs.map (·.1)) (i := j) (by simpa using hlt)]
  simp [he]
theorem Rep.setF {M' : Nat} (h : Rep w a M) (hM : M ≤ M') {j b : Nat} {fo fo' : FO} (hj : w.objs[j]? = some (b, fo)) (hf : FOk fo' M') : Rep { w with objs := w.objs.set j (b, fo') } { a with files := a.files.set j (foF fo') } M' := by
  have hk := fst_set (fo' := fo') hj
  have h' := h.mono hM
  refine { h' with names := ?_, nin := ?_, files := ?_, hs := ?_, hin := ?_, ok := { h'.ok with blks := ?_, named := ?_, fo := ?_, hfile := ?_ } }
  · simp only [hk]; exact h.names
  · simpa using h.nin
  · simp only [List.map_set]; rw [h.files]
  · simp only [hk]; exact h.hs
  · simpa using h.hin
  · simp only [hk]; exact h.ok.blks
  · simp only [hk]; exact h.ok.named
  · intro p hp
    rcases List.mem_or_eq_of_mem_set hp with hp | rfl
    · exact h'.ok.fo p hp
    · exact hf
  · simp only [hk]; exact h.ok.hfile
end
theorem flat_take {α : Type} {f : α → List Atom} {l : List α} {i : Nat} {x : α} (hi : l[i]? = some x) :
    ∃ rest : List Atom, (l.flatMap f).Perm (f x ++ rest) ∧ ∀ x', ((l.set i x').flatMap f).Perm (f x' ++ rest) := by
  obtain ⟨hlt, rfl⟩ := List.getElem?_eq_some_iff.1 hi
  refine ⟨(l.take i).flatMap f ++ (l.drop (i + 1)).flatMap f, ?_, fun h' => ?_⟩
  · conv => lhs; rw [← List.take_append_drop i l, List.drop_eq_getElem_cons hlt]
    rw [List.flatMap_append, List.flatMap_cons]; exact perm_lead _ _ _
  · rw [List.set_eq_take_append_cons_drop, if_pos hlt, List.flatMap_append, List.flatMap_cons]; exact perm_lead _ _ _
def getH (a : AW) (n : Int) : HO := (a.hs[(n - 1).toNat]?).getD ⟨0, false, false, none, 0, 0⟩
def getF (a : AW) (n : Int) : AF := (a.files[(getH a n).file.getD 0]?).getD ⟨[], [], []⟩
def putH (a : AW) (n : Int) (h : HO) : AW := { a with hs := a.hs.set (n - 1).toNat h }
def putF (a : AW) (n : Int) (f : AF) : AW := { a with files := a.files.set ((getH a n).file.getD 0) f }
def ftxt (l : List UInt8) : ByteArray := ⟨l.toArray⟩
def chA (a : AW) : Ch := if a.dead then noCh else a.choices.headD noCh
def liveA (a : AW) : Bool := !(a.dead || decide ((chA a).kind = 5))
def takeA (a : AW) : AW := { a with choices := if a.dead then a.choices else a.choices.tail, dead := !liveA a }
def deedA (a : AW) (d : De) (f : AW → Ch → Int × De × AW) : De × Int × AW :=
  if liveA a then
    let r := f (takeA a) (chA a)
    let out := if r.1 = 0 then r.2.1 else { d with err := r.1 }
    (out, out.err, { r.2.2 with trace := r.2.2.trace ++ [out] })
  else (noDe, 36, takeA a)
def faultA (d : De) (f : AW → Int × De × AW) (a : AW) (c : Ch) : Int × De × AW := if c.kind = 4 ∧ chosenE c.n ≠ 0 then (chosenE c.n, d, a) else f a
theorem Rep.take {w : WR} {a : AW} {M : Nat} (h : Rep w a M) {w1 : WR} (hT : Taken w w1) : Rep w1 (takeA a) M ∧ takeC w = chA a ∧ takeL w = liveA a := by
  obtain ⟨cv', csp', cs, h1, h2, h3, rfl⟩ := hT
  have hc : takeC w = chA a := by simp only [takeC, chA, h.dead, h.ch]
  have hl : takeL w = liveA a := by simp only [takeL, liveA, hc, h.dead]
  refine ⟨{ h with ch := ?_, dead := ?_, ok := { h.ok with ch := h3, chmany := Nat.le_trans h1 h.ok.chmany } }, hc, hl⟩
  · simp only [takeA, h2, h.dead, h.ch]
  · simp only [takeA, hl]
section
variable {P : Program} {n : Nat} {Γ : Env} {H : SH} {Q : Exit → Env → SH → Prop}
theorem VC.know {c : IC} {φ : Prop} (h : ∀ w F, Sat w (H.flatten ++ F) → φ) (k : φ → VC P n c Γ H Q) : VC P n c Γ H Q := by
  intro ρ kp od code hl a w F QQ hr ha hs hh
  exact k (h w F hs) ρ kp od code hl a w F QQ hr ha hs hh
theorem VO.know {rs : List RO} {Z : List PanicEntry → Env → SH → Prop} {K : Env → SH → Prop} {φ : Prop} (h : ∀ w F, Sat w (H.flatten ++ F) → φ) (k : φ → VO P n rs Γ H Z K) : VO P n rs Γ H Z K := by
  intro l hl a w F ZZ Q ha hs hq hz
  exact k (h w F hs) l hl a w F ZZ Q ha hs hq hz
end
theorem Sat.apart {w : World} {H R : SH} {F A : List Atom} {x y : Atom} (h : Sat w (H.flatten ++ F)) (ht : Tk H A R) (hx : x ∈ A) (hy : y ∈ R.flatten) : x.loc ≠ y.loc := by
  intro he
  have h1 := (h.perm (ht.perm.append_right F)).nodup
  rw [List.append_assoc, List.map_append, List.nodup_append] at h1
  exact h1.2.2 x.loc (List.mem_map_of_mem hx) y.loc (List.mem_map_of_mem (List.mem_append_left _ hy)) he
theorem modify_push {α : Type} (l : Array α) (x : α) (f : α → α) : (l.push x).modify l.size f = l.push (f x) := by
  apply Array.ext
  · simp
  · intro i h1 h2
    simp only [Array.getElem_modify, Array.getElem_push]
    by_cases hi : i < l.size
    · simp [hi, Nat.ne_of_gt hi]
    · have : l.size = i := by simp at h1; omega
      simp [hi, this]
section
variable {P : Program}
theorem swp_newS {H : List Atom} {c : Array Value} {t : TypeId} {K : Addr → List Atom → Prop} (h : ∀ b, K ⟨b, 0, none⟩ (cellsAt b 0 c.toList ++ H)) : SWP P (do let a ← newRow t c; markStringish a; pure a) H K := by
  intro F w hs
  obtain ⟨s1, s2⟩ := hs.push (.cells c t (c.size, c.size + 1)) (cellsAt w.heap.size 0 c.toList) (fun x hx => by
    obtain ⟨i, v, hi, rfl⟩ := mem_cellsAt.1 hx
    refine ⟨rfl, c, t, c.size, c.size + 1, by simp, by simpa using hi, ?_⟩
    have := (List.getElem?_eq_some_iff.1 hi).1
    simp at this ⊢; omega) (nodup_cellsAt _ _ _)
  refine ⟨⟨w.heap.size, 0, none⟩, _, _, ?_, h _, by rw [List.append_assoc]; exact s1, s2⟩
  have hsh : ({ w with heap := w.heap.push (.cells c t) } : World).shape? w.heap.size = some (t, c.size) := by simp [World.shape?]
  have hfr : ({ w with heap := w.heap.push (.cells c t) } : World).freeze ⟨w.heap.size, c.size, none⟩ 1 = { w with heap := w.heap.push (.cells c t (c.size, c.size + 1)) } := by
    simp [World.freeze, modify_push]
  have h1 : (Go.newRow t c).run P w = .ok ⟨w.heap.size, 0, none⟩ { w with heap := w.heap.push (.cells c t) } := by
    simp [Go.newRow, Go.newObj, Sem.run]
  have h2 : (markStringish ⟨w.heap.size, 0, none⟩).run P { w with heap := w.heap.push (.cells c t) } = .ok () { w with heap := w.heap.push (.cells c t (c.size, c.size + 1)) } := by
    rw [← hfr]
    unfold markStringish
    simp only [Go.shape, Sem.run_bind, Sem.run, hsh, Result.andThen_ok, Go.freeze]
  simp only [Sem.run_bind, h1, h2, Result.andThen_ok, Sem.run_pure]
theorem swp_s2b {H : List Atom} {t : TypeId} {s : ByteArray} {K : Value → List Atom → Prop} (h : ∀ b cap, s.size ≤ cap → K (.slice (some ⟨b, 0, none⟩) s.size cap) (cellsAt b 0 (sBytes s ++ List.replicate (cap - s.size) (.int .u8 0)) ++ H)) : SWP P (Conv.stringToBytes t s) H K := by
  have fin : ∀ cap, s.size ≤ cap → SWP P (do
      let a ← newRow t (s.data.map (fun b => Value.int .u8 b.toNat) ++ Array.replicate (cap - s.size) (.int .u8 0))
      markStringish a
      pure (Value.slice (some a) s.size cap)) H K := by
    intro cap hcap
    have := swp_newS (P := P) (H := H) (c := s.data.map (fun b => Value.int .u8 b.toNat) ++ Array.replicate (cap - s.size) (.int .u8 0)) (t := t) (K := fun a L => K (.slice (some a) s.size cap) L) (fun b => by
      have := h b cap hcap
      simpa [sBytes] using this)
    have h2 := SWP.bind (f := fun a => (pure (Value.slice (some a) s.size cap) : Sem Value)) (this.mono (fun a L ha => SWP.pure ha))
    simpa using h2
  unfold Conv.stringToBytes
  refine SWP.bind (SWP.choose (fun hf => by simp [Question.forced] at hf) (fun t' => ?_))
  simp only [Question.cut]
  exact fin _ (by omega)
end
def BytesAt (H : SH) : Value → List UInt8 → Prop
  | .slice (some ⟨b, o, none⟩) k _, l => k = l.length ∧ ∀ a ∈ cellsAt b o (l.map u8v), a ∈ H.flatten
  | .slice none _ _, l => l = []
  | _, _ => False
theorem IsSl.bytes {H R : SH} {sv : Value} {l : List UInt8} {sp : List Value} (h : IsSl 1 sv l.length (l.map u8v) sp) (ht : Tk H (slA sv (l.map u8v) sp) R) : BytesAt H sv l := by
  obtain ⟨a, c, rfl⟩ := h.form
  generalize hk : l.length = k at h
  generalize hm : l.map u8v = us at h
  cases h with
  | mk h1 h2 h3 =>
    refine ⟨hk.symm, fun x hx => ?_⟩
    refine (ht.perm.mem_iff).2 (List.mem_append_left _ ?_)
    rw [hk, hm]
    rw [hm] at hx
    simp only [slA, cellsAt_append, List.mem_append]
    exact .inl hx
  | nil => exact List.map_eq_nil_iff.1 hm
theorem ofNat_u8 (c : UInt8) : UInt8.ofNat (((c.toNat : Nat) : Int).toNat) = c := by simp
theorem run_push {P : Program} {w : World} {f : Value → ByteArray → Sem (ForInStep ByteArray)} (hf : ∀ (c : UInt8) r, f (u8v c) r = pure (ForInStep.yield (r.push (UInt8.ofNat ((c.toNat : Int)).toNat)))) : ∀ (l : List UInt8) (acc : ByteArray), (forIn (l.map u8v) acc f).run P w = .ok ⟨acc.data ++ l.toArray⟩ w := by
  intro l
  induction l with
  | nil => intro acc; simp
  | cons c l ih =>
    intro acc
    have := ih (acc.push c)
    rw [List.map_cons, List.forIn_cons, hf, Sem.run_bind, Sem.run_pure, Result.andThen_ok]
    simp only [ofNat_u8]
    rw [this]
    simp [ByteArray.push]
theorem run_b2s {P : Program} {H : SH} {dv : Value} {l : List UInt8} {F : List Atom} {w : World} (h : BytesAt H dv l) (hs : Sat w (H.flatten ++ F)) : (Conv.bytesToString dv).run P w = .ok (.string (ftxt l)) w := by
  unfold BytesAt at h
  split at h
  · obtain ⟨rfl, hm⟩ := h
    have hl := run_loadCells (P := P) (m := l.length) (us := l.map u8v) (by simp) hm hs
    unfold Conv.bytesToString
    simp only [Sem.run_bind, hl, Result.andThen_ok]
    rw [List.forIn_toArray]
    rw [run_push (fun c r => rfl)]
    simp [ftxt]
  · subst h
    unfold Conv.bytesToString
    rfl
  · exact h.elim
section
variable {P : Program} {n : Nat} {rs : List RO} {Γ : Env} {H : SH} {Z : List PanicEntry → Env → SH → Prop} {K : Env → SH → Prop} {d : Option Nat}
theorem st_b2s {x : Operand} {dv : Value} {l : List UInt8} (hx : ev Γ x = some dv) (hb : BytesAt H dv l) (h : VO P n rs (putE d (.string (ftxt l)) Γ) H Z K) : VO P n (⟨d, none, .b2s x⟩ :: rs) Γ H Z K :=
  VO.read rfl rfl (fun ρ hρ => ⟨_, rfl, fun F w hs => by
    rw [hρ _ _ hx]
    simp [run_b2s hb hs]⟩) h
theorem st_s2b {t : TypeId} {x : Operand} {s : ByteArray} (hx : ev Γ x = some (.string s)) (h : ∀ sv sp, IsSl 1 sv s.size (sBytes s) sp → VO P n rs (putE d sv Γ) (slA sv (sBytes s) sp :: H) Z K) : VO P n (⟨d, none, .s2b t x⟩ :: rs) Γ H Z K := by
  refine VO.act rfl rfl (fun ρ hρ => ⟨_, rfl, ?_⟩)
  rw [hρ _ _ hx]
  refine SWP.bind (swp_s2b (fun b cap hcap => SWP.pure ?_))
  refine ⟨_, slA (.slice (some ⟨b, 0, none⟩) s.size cap) (sBytes s) (List.replicate (cap - s.size) (.int .u8 0)) :: H, .inl rfl, by simp [slA], h _ _ (.mk (by simp [sBytes]) (by simp [sBytes]; omega) hcap)⟩
end
def Win : Value → Nat → Nat → Value → Prop
  | .slice (some ⟨b, o, none⟩) _ _, l, h, dv => ∃ o' c', dv = .slice (some ⟨b, o', none⟩) h c' ∧ (0 < h → o' = o + l)
  | .slice none _ _, _, h, dv => ∃ c', dv = .slice none h c'
  | _, _, _, _ => False
theorem Win.form {sv dv : Value} {l h : Nat} (hw : Win sv l h dv) : ∃ a c, dv = .slice a h c := by
  unfold Win at hw
  split at hw
  · obtain ⟨_, _, rfl, _⟩ := hw; exact ⟨_, _, rfl⟩
  · obtain ⟨_, rfl⟩ := hw; exact ⟨_, _, rfl⟩
  · exact hw.elim
theorem SubAt.form {sv dv : Value} {k l : Nat} {xs sp : List Value} (h : IsSl 1 sv k xs sp) (hd : SubAt sv l dv) : ∃ a c, dv = .slice a (k - l) c := by
  cases h with
  | mk h1 h2 h3 => simp only [SubAt] at hd; exact ⟨_, _, hd⟩
  | nil => simp only [SubAt] at hd; exact ⟨_, _, hd⟩
theorem Win.bytes {H R : SH} {sv dv : Value} {k l h : Nat} {bs : List UInt8} {sp : List Value} (hsl : IsSl 1 sv k (bs.map u8v) sp) (hw : Win sv l h dv) (hh : l + h ≤ k) (ht : Tk H (slA sv (bs.map u8v) sp) R) : BytesAt H dv ((bs.drop l).take h) := by
  have hlen := hsl.len
  simp only [List.length_map, Nat.mul_one] at hlen
  generalize hus : bs.map u8v = us at hsl ht
  cases hsl with
  | @mk b o _ c _ _ h1 h2 h3 =>
    obtain ⟨o', c', rfl, ho⟩ := hw
    refine ⟨by simp; omega, fun x hx => ?_⟩
    refine (ht.perm.mem_iff).2 (List.mem_append_left _ ?_)
    obtain ⟨i, v, hi, rfl⟩ := mem_cellsAt.1 hx
    have hlt := (List.getElem?_eq_some_iff.1 hi).1
    simp only [List.length_map, List.length_take, List.length_drop] at hlt
    obtain rfl := ho (by omega)
    refine mem_cellsAt.2 ⟨l + i, v, ?_, by congr 1; omega⟩
    rw [List.getElem?_append_left (by rw [← hus]; simp; omega), ← hus]
    rw [List.getElem?_map, List.getElem?_take, if_pos (by omega), List.getElem?_drop] at hi
    rw [List.getElem?_map]; exact hi
  | nil =>
    obtain ⟨c', rfl⟩ := hw
    simp only [List.map_eq_nil_iff] at hus
    simp [BytesAt, hus]
section
variable {P : Program} {n : Nat} {rs : List RO} {Γ : Env} {H : SH} {Z : List PanicEntry → Env → SH → Prop} {K : Env → SH → Prop} {d : Option Nat}
theorem st_slcTo {x hi : Operand} {sv dv : Value} {k l h : Nat} {xs sp : List Value} (hx : ev Γ x = some dv) (hsl : IsSl 1 sv k xs sp) (hd : SubAt sv l dv) (hl : l ≤ k) (hhi : Bnd Γ (k - l) (some hi) h) (hh : h ≤ k - l)
    (hK : ∀ dv', Win sv l h dv' → VO P n rs (putE d dv' Γ) H Z K) : VO P n (⟨d, none, .slcL 1 x none (some hi) none⟩ :: rs) Γ H Z K := by
  cases hsl with
  | @mk b o _ c _ _ h1 h2 h3 =>
    simp only [SubAt] at hd
    subst hd
    refine st_slcL hx .dft hhi ⟨Nat.zero_le _, by omega⟩ rfl (hK _ ⟨_, _, by rw [Nat.sub_zero], fun hp => ?_⟩)
    rw [if_neg (by omega), if_neg (by omega)]; omega
  | nil =>
    simp only [SubAt] at hd
    subst hd
    exact st_slcN hx .dft hhi ⟨Nat.zero_le _, by omega⟩ (hK _ ⟨_, by rw [Nat.sub_zero]⟩)
end
end Go.V

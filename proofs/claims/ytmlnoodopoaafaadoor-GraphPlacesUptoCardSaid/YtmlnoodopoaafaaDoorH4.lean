/-
  Ranges over a function that looks into what the body holds.
-/
import Derived.Test.YtmlnoodopoaafaaDoorH2
import Derived.Test.YtmlnoodopoaafaaDoorV12
import Derived.Test.YtmlnoodopoaafaaDoorH3
import Derived.Test.YtmlnoodopoaafaaDoorH1
set_option linter.unusedSimpArgs false
set_option linter.unusedVariables false
namespace Go.V
open Go
def IterA (P : Program) (g : Value) {α : Type} (enc : α → List Value) (Acc : List Atom → Prop) (Pre Post : SH) (Spec : List α → Prop) : Prop :=
  ∀ (y : Value) (J SP : List α → List Atom → Prop), y.cells = #[y] → (∀ c A, J c A → Acc A) →
    (∀ c x A, OkC Spec (c ++ [x]) → J c A → FunV P y (enc x) [A] (fun v B => (v = .bool true ∧ ∃ A', J (c ++ [x]) A' ∧ B = [A']) ∨ (v = .bool false ∧ ∃ B', SP (c ++ [x]) B' ∧ B = [B']))) →
    ∀ A, J [] A → FunV P g [y] (Pre ++ [A]) (fun v B => v = .tuple #[] ∧ ((∃ full A', Spec full ∧ J full A' ∧ B = Post ++ [A']) ∨ (∃ c B', OkC Spec c ∧ SP c B' ∧ B = Post ++ [B'])))
section
variable {P : Program} {n : Nat} {Γ : Env} {H : SH} {Q : Exit → Env → SH → Prop}
theorem VC.rangefA {α : Type} {enc : α → List Value} {g : Operand} {f : Nat} {first cap : Array Value} {ps : List Nat} {asg body : IC} {Pre Post R : SH} {Spec : List α → Prop} {Acc : List Atom → Prop} (I : List α → List Atom → Prop) (A0 : List Atom) (hg : ev Γ g = some (.func (.func f) first cap))
    (hit : IterA P (.func (.func f) first cap) enc Acc Pre Post Spec) (hmo : ∀ A B, Acc A → Acc (A ++ B)) (hacc : ∀ c A, I c A → Acc A) (hs : Spl H Pre R) (h0 : Imp R [A0]) (h1 : I [] A0) (hlen : ∀ x, (enc x).length = ps.length)
    (round : ∀ c x A, OkC Spec (c ++ [x]) → I c A → VC P n asg (bindE ps (enc x) Γ) [A] (fun e Γ' H' => e = .normal ∧ VC P n body Γ' H' (fun e _ H'' => match e with | .normal => ∃ A', I (c ++ [x]) A' ∧ Imp H'' [A'] | .ret => Q .ret Γ (Post ++ H'') | .exit id => Q (.exit id) Γ (Post ++ H'') | _ => False)))
    (done : ∀ full A, Spec full → I full A → Q .normal Γ (Post ++ [A])) : VC P n (.rangef g ps asg body) Γ H Q := by
  intro ρ kp od code hl a w F QQ hr ha hsat hh
  obtain ⟨qs, A, B, rfl, rfl, hlt, h1', h2⟩ := lowC_inv hl
  refine wpIn_rangeFunc (fun fnid _ => ?_)
  obtain ⟨l, db, X, w1, he, hs1, hk1⟩ := enter_spec (P := P) (fnid := fnid) (tmps := a.tmps) (qs := qs) (A := A) (B := B) hr hsat
  have hyield := hit (.func (.yield l) #[] #[]) (fun c A' => ∃ A1, I c A1 ∧ A' = A1 ++ [.obj l (.loop (lrec fnid a.tmps qs A B db .ready none))])
    (fun c B' => ∃ H'', (Q .ret Γ (Post ++ H'') ∧ B' = H''.flatten ++ [.obj l (.loop (lrec fnid a.tmps qs A B db .done (some .ret)))]) ∨ (∃ id, Q (.exit id) Γ (Post ++ H'') ∧ B' = H''.flatten ++ [.obj l (.loop (lrec fnid a.tmps qs A B db .done (some (.exit id))))]))
    rfl
    (fun c A' hA => by obtain ⟨A1, hI, rfl⟩ := hA; exact hmo _ _ (hacc c A1 hI))
    (fun c x A' hc hA => by
      obtain ⟨A1, hI, rfl⟩ := hA
      have hx := round_spec (P := P) (n := n) (Γ := Γ) (fn := fnid) (tmps := a.tmps) (db := db) (l := l) (vs := enc x) (I := A1) (Qb := fun e H'' => match e with | .normal => ∃ A', I (c ++ [x]) A' ∧ Imp H'' [A'] | .ret => Q .ret Γ (Post ++ H'') | .exit id => Q (.exit id) Γ (Post ++ H'') | _ => False)
        hlt (hlen x).symm ⟨ha.size, ha.slots⟩ h1' h2 ((round c x A1 hc hI).mono (fun e Γ' H' ⟨q1, q2⟩ => ⟨q1, q2.mono (fun e _ H'' q => by cases e <;> exact q)⟩))
      refine hx.conv (R := []) (by simp [Spl]) ?_
      rintro v Bk (⟨rfl, H'', ⟨A2, hI2, q⟩, rfl⟩ | ⟨rfl, H'', q⟩)
      · refine ⟨_, .inl ⟨rfl, _, ⟨A2, hI2, rfl⟩, rfl⟩, ?_⟩
        obtain ⟨R', hR'⟩ := q
        refine ⟨R', ?_⟩
        simp only [Spl, List.flatten_cons, List.flatten_nil, List.append_nil] at hR' ⊢
        rw [List.append_assoc]
        refine (List.Perm.append_right _ hR').trans ?_
        rw [List.append_assoc]
        exact List.Perm.append_left _ List.perm_append_comm
      · rcases q with ⟨q, rfl⟩ | ⟨id, q, rfl⟩
        · exact ⟨_, .inr ⟨rfl, _, ⟨H'', .inl ⟨q, rfl⟩⟩, rfl⟩, by rw [List.append_nil]; exact Imp.refl _⟩
        · exact ⟨_, .inr ⟨rfl, _, ⟨H'', .inr ⟨id, q, rfl⟩⟩, rfl⟩, by rw [List.append_nil]; exact Imp.refl _⟩)
    _ ⟨A0, h1, rfl⟩
  have hs2 : Sat w1 ((Pre ++ [A0 ++ [Atom.obj l (.loop (lrec fnid a.tmps qs A B db .ready none))]]).flatten ++ (F ++ marks X)) := by
    have p1 : (Atom.obj l (.loop (lrec fnid a.tmps qs A B db .ready none)) :: (H.flatten ++ (F ++ marks X))).Perm (R.flatten ++ (Pre.flatten ++ (Atom.obj l (.loop (lrec fnid a.tmps qs A B db .ready none)) :: (F ++ marks X)))) := by
      refine List.perm_middle.symm.trans ?_
      refine (List.Perm.append_right _ hs).trans ?_
      rw [List.append_assoc]
      exact perm_lead _ _ _
    have h3 := (hs1.perm p1).imp h0
    refine h3.perm ?_
    simp only [List.flatten_append, List.flatten_cons, List.flatten_nil, List.append_nil, List.append_assoc, List.singleton_append]
    exact perm_lead _ _ _
  have hcall := hyield (F ++ marks X) w1 hs2
  obtain ⟨hcallable, hcalls⟩ := hcall
  refine ⟨l, X.map coll, w1, { target := .fn (.func f) cap, args := first ++ [Value.func (.yield l) #[] #[]].toArray }, w1, f, first ++ [Value.func (.yield l) #[] #[]].toArray ++ cap, w1, he, ?_, fun _ _ => trivial, ?_, ?_, ?_⟩
  · have hev : a.eval g = .func (.func f) first cap := ha.ev hg
    simp only [resolve, hev, Deferred.ofValue]
    simp [Act.eval]
  · simp only [invoke]
    rw [run_callFunc hcallable]
  · intro h; simp at h
  refine callsIn_v (hcalls.mono ?_)
  · rintro e w3 ⟨v, Pst, rfl, ⟨rfl, hp⟩, hs3, hk3⟩
    have ha' : Agree n Γ { a with defers := X.map coll ++ a.defers } := ⟨ha.size, ha.slots⟩
    rcases hp with ⟨full, _, hf, ⟨A1, hI, rfl⟩, rfl⟩ | ⟨c, B', _, ⟨H'', hj⟩, rfl⟩
    · obtain ⟨w4, e1, e2, e3'⟩ := end_spec (P := P) (L := Post.flatten ++ A1) (st := .ready) (pe := none) (by simp) (by simpa [List.append_assoc] using hs3)
      have e3 := hk1.trans (hk3.trans e3')
      exact ⟨none, w4, e1, hh _ _ _ _ _ X (done full A1 hf hI) ha' rfl (by simpa using e2) e3⟩
    · rcases hj with ⟨q, rfl⟩ | ⟨id, q, rfl⟩
      · obtain ⟨w4, e1, e2, e3'⟩ := end_spec (P := P) (L := Post.flatten ++ H''.flatten) (st := .done) (pe := some .ret) (by simp) (by simpa [List.append_assoc] using hs3)
        have e3 := hk1.trans (hk3.trans e3')
        exact ⟨_, w4, e1, wpIn_ret (hh _ _ _ _ _ X q ha' rfl (by simpa using e2) e3)⟩
      · obtain ⟨w4, e1, e2, e3'⟩ := end_spec (P := P) (L := Post.flatten ++ H''.flatten) (st := .done) (pe := some (.exit id)) (by simp) (by simpa [List.append_assoc] using hs3)
        have e3 := hk1.trans (hk3.trans e3')
        exact ⟨_, w4, e1, wpIn_exit (hh _ _ _ _ _ X q ha' rfl (by simpa using e2) e3)⟩
end
def atsA (a : AH) : List Nat := a.obs.map (·.at_)
def roomR (a : AH) (sp : Nat) : Nat × Nat × Nat := (a.rm[sp]?).getD (0, 0, 0)
def roomL (a : AH) (sp : Nat) : List Nat := (atsA a).filter fun v => decide ((roomR a sp).1 ≤ v ∧ v < (roomR a sp).2.1)
def nextN (l : List Nat) (w e : Nat) : Int := match l.find? (fun v => decide (w ≤ v ∧ v < e)) with | some v => (v : Int) | none => -1
theorem nextV_N (obs : List Ob) (w e : Nat) : nextV (nextO obs w e) = nextN (obs.map (·.at_)) w e := by
  unfold nextV nextO nextN
  rw [List.find?_map]
  show _ = match (obs.find? fun b => decide (w ≤ b.at_ ∧ b.at_ < e)).map (·.at_) with | some v => (v : Int) | none => -1
  cases obs.find? fun b => decide (w ≤ b.at_ ∧ b.at_ < e) <;> rfl
def headI : List Nat → Int
  | [] => -1
  | v :: _ => v
theorem nextN_head (l : List Nat) (w e : Nat) : nextN l w e = headI (l.filter fun v => decide (w ≤ v ∧ v < e)) := by
  unfold nextN
  rw [← List.head?_filter]
  cases l.filter (fun v => decide (w ≤ v ∧ v < e)) <;> rfl
theorem sorted_drop {W : List Nat} (h : W.Pairwise (· < ·)) {i u : Nat} (hu : W[i]? = some u) : (W.filter fun v => decide (u < v)) = W.drop (i + 1) := by
  induction W generalizing i with
  | nil => simp at hu
  | cons v r ih =>
    obtain ⟨h1, h2⟩ := List.pairwise_cons.1 h
    cases i with
    | zero =>
      obtain rfl : v = u := by simpa using hu
      rw [List.filter_cons_of_neg (by simp), List.drop_one, List.tail_cons]
      exact List.filter_eq_self.2 (fun y hy => by simpa using h1 y hy)
    | succ i =>
      simp only [List.getElem?_cons_succ] at hu
      have : v < u := h1 u (List.mem_of_getElem? hu)
      rw [List.filter_cons_of_neg (by simp; omega), List.drop_succ_cons]
      exact ih h2 hu
theorem atsA_sort {x : HW} (hx : HOk x) : (atsA x.a).Pairwise (· < ·) := by
  unfold atsA
  rw [List.pairwise_map]
  exact hx.lay.sort.imp (fun {a b} h => by unfold Ob.stop at h; omega)
theorem roomL_sort {x : HW} (hx : HOk x) (sp : Nat) : (roomL x.a sp).Pairwise (· < ·) := (atsA_sort hx).sublist List.filter_sublist
theorem next_first (a : AH) (sp : Nat) : nextN (atsA a) (roomR a sp).1 (roomR a sp).2.1 = headI (roomL a sp) := nextN_head _ _ _
theorem next_next {x : HW} (hx : HOk x) {sp i u : Nat} (hu : (roomL x.a sp)[i]? = some u) : nextN (atsA x.a) (u + 1) (roomR x.a sp).2.1 = headI ((roomL x.a sp).drop (i + 1)) := by
  rw [nextN_head, ← sorted_drop (roomL_sort hx sp) hu]
  unfold roomL
  rw [List.filter_filter]
  have hm := List.mem_of_getElem? hu
  have hr : (roomR x.a sp).1 ≤ u ∧ u < (roomR x.a sp).2.1 := by
    have := (List.mem_filter.1 hm).2
    simpa using this
  congr 1
  apply List.filter_congr
  intro v _
  rw [← Bool.decide_and, decide_eq_decide]
  omega
theorem headI_drop {l : List Nat} {i u : Nat} (hu : l[i]? = some u) : headI (l.drop i) = u := by
  rw [List.drop_eq_getElem_cons (List.getElem?_eq_some_iff.1 hu).1]
  have := (List.getElem?_eq_some_iff.1 hu).2
  rw [this]; rfl
theorem headI_end {l : List Nat} {i : Nat} (h : l.length ≤ i) : headI (l.drop i) = -1 := by rw [List.drop_of_length_le h]; rfl
theorem mem_roomL {x : HW} (hx : HOk x) {sp u : Nat} (hu : u ∈ roomL x.a sp) : 1 ≤ u ∧ u ≤ 268435455 ∧ ∃ b ∈ x.a.obs, b.at_ = u := by
  have h1 := (List.mem_filter.1 hu).1
  obtain ⟨b, hb, rfl⟩ := List.mem_map.1 h1
  have := hx.range hb
  exact ⟨this.1, this.2, b, hb, rfl⟩
def AccW (p : Nat) (x : HW) (sp : Nat) (A : List Atom) : Prop := ∃ y R, A.Perm (HA p y ++ (TZ ++ R)) ∧ HOk y ∧ atsA y.a = atsA x.a ∧ (roomR y.a sp).1 = (roomR x.a sp).1 ∧ (roomR y.a sp).2.1 = (roomR x.a sp).2.1
theorem AccW.more {p sp : Nat} {x : HW} {A : List Atom} (B : List Atom) (h : AccW p x sp A) : AccW p x sp (A ++ B) := by
  obtain ⟨y, R, h1, h2⟩ := h
  exact ⟨y, R ++ B, (h1.append_right B).trans (by simp [List.append_assoc]), h2⟩
theorem AccW.perm {p sp : Nat} {x : HW} {A B : List Atom} (e : B.Perm A) (h : AccW p x sp A) : AccW p x sp B := by
  obtain ⟨y, R, h1, h2⟩ := h
  exact ⟨y, R, e.trans h1, h2⟩
theorem AccW.refl {p sp : Nat} {x : HW} (hx : HOk x) {R : List Atom} : AccW p x sp (HA p x ++ (TZ ++ R)) := ⟨x, R, .refl _, hx, rfl, rfl, rfl⟩
theorem roomL_eq {a b : AH} {sp : Nat} (h : atsA b = atsA a) (h1 : (roomR b sp).1 = (roomR a sp).1) (h2 : (roomR b sp).2.1 = (roomR a sp).2.1) : roomL b sp = roomL a sp := by
  unfold roomL; rw [h, h1, h2]
theorem ha_room (p : Nat) (x : HW) {sp : Nat} {r : Nat × Nat × Nat} (hr : x.a.rm[sp]? = some r) : ∃ R, (HA p x).Perm (cellsAt p (2 + sp * 3) (rmEnc r) ++ R) := by
  have hl := (List.getElem?_eq_some_iff.1 hr).1
  have e : x.a.rm = x.a.rm.take sp ++ r :: x.a.rm.drop (sp + 1) := by
    have := (List.getElem?_eq_some_iff.1 hr).2
    rw [← this, ← List.drop_eq_getElem_cons hl, List.take_append_drop]
  have hlen : ∀ l : List (Nat × Nat × Nat), (l.flatMap rmEnc).length = l.length * 3 := by
    intro l
    induction l with
    | nil => rfl
    | cons y l ih => rw [List.flatMap_cons, List.length_append, ih, List.length_cons]; show 3 + _ = _; omega
  have h2 : cellsAt p 2 (x.a.rm.flatMap rmEnc) = cellsAt p 2 ((x.a.rm.take sp).flatMap rmEnc) ++ (cellsAt p (2 + sp * 3) (rmEnc r) ++ cellsAt p (2 + sp * 3 + 3) ((x.a.rm.drop (sp + 1)).flatMap rmEnc)) := by
    rw [e, List.flatMap_append, List.flatMap_cons, cellsAt_append, cellsAt_append, hlen, List.length_take, Nat.min_eq_left (by omega)]
    rw [← e]; rfl
  have h3 : ∃ R, (cellsAt p 2 (x.a.rm.flatMap rmEnc)).Perm (cellsAt p (2 + sp * 3) (rmEnc r) ++ R) := ⟨_, by rw [h2]; exact perm_lead _ _ _⟩
  obtain ⟨R, hR⟩ := h3
  refine ⟨R ++ (cellsAt p 0 [arrV x.wb x.ws, arrV x.sb x.st] ++ (cellsAt p 4180 [x.kv, x.qv, x.nv, .map (some x.mb), vi x.a.given] ++ (cellsAt p 20 (x.a.sp.map uv) ++ (cellsAt p 84 (x.a.cl.map uv) ++
   (cellsAt x.wb 0 (x.ws.map uv) ++ (cellsAt x.sb 0 (x.st.map uv) ++ (slA x.kv (x.a.stack.map uv) x.ks ++ (slA x.qv (x.a.queue.map uv) x.qs ++ (slA x.nv (x.a.noted.map uv) x.ns ++ [.obj x.mb (.map x.es x.mc)]))))))))), ?_⟩
  unfold HA HMem
  simp only [List.flatten_cons, List.flatten_nil, List.append_nil]
  generalize cellsAt p 2 _ = A at hR ⊢
  generalize cellsAt p (2 + sp * 3) _ = B at hR ⊢
  generalize cellsAt p 0 _ = C
  generalize cellsAt p 4180 _ = D
  rw [← List.append_assoc C D]
  refine (perm_lead (C ++ D) A _).trans ?_
  refine (hR.append_right _).trans ?_
  simp [List.append_assoc]
theorem getO_updO {w : Nat} {f : Ob → Ob} (hf : Keep f) (obs : List Ob) (o : Nat) : getO (updO w f obs) o = (getO obs o).map fun b => if b.at_ = w then f b else b := by
  unfold getO updO
  rw [List.find?_map]
  congr 1
  congr 1
  funext b
  show decide ((if b.at_ = w then f b else b).oop = o) = _
  have : (if b.at_ = w then f b else b).oop = b.oop := by split <;> simp [Ob.oop, hf.at_]
  rw [this]
theorem spaceO_upd {w : Nat} {f : Ob → Ob} (hf : Keep f) (a : AH) (o : Nat) : spaceO { a with obs := updO w f a.obs } o = spaceO a o := by
  unfold spaceO
  rw [show getO ({ a with obs := updO w f a.obs } : AH).obs o = _ from getO_updO hf a.obs o]
  cases getO a.obs o with
  | none => rfl
  | some b =>
    show spaceW a.rm (if b.at_ = w then f b else b).at_ = spaceW a.rm b.at_
    have : (if b.at_ = w then f b else b).at_ = b.at_ := by split <;> simp [hf.at_]
    rw [this]
theorem youngO_upd {w : Nat} {f : Ob → Ob} (hf : Keep f) (a : AH) (o : Nat) : youngO { a with obs := updO w f a.obs } o = youngO a o := by
  unfold youngO; rw [spaceO_upd hf]
theorem inRm_eq {a b : AH} (h : ∀ i, (roomR b i).1 = (roomR a i).1 ∧ (roomR b i).2.1 = (roomR a i).2.1) (i w : Nat) : inRm b.rm i w = inRm a.rm i w := by
  have := h i
  unfold roomR at this
  unfold inRm; rw [this.1, this.2]
theorem spaceW_eq {a b : AH} (h : ∀ i, (roomR b i).1 = (roomR a i).1 ∧ (roomR b i).2.1 = (roomR a i).2.1) (w : Nat) : spaceW b.rm w = spaceW a.rm w := by
  unfold spaceW; simp only [inRm_eq h]
theorem youngO_ins {x y : HW} (hx : HOk x) (hy : HOk y) {b : Ob} (ho : y.a.obs = insO b x.a.obs) (hr : ∀ i, (roomR y.a i).1 = (roomR x.a i).1 ∧ (roomR y.a i).2.1 = (roomR x.a i).2.1) (hb : 4 ≤ spaceW x.a.rm b.at_) {v : Nat} (h : youngO x.a v = false) : youngO y.a v = false := by
  unfold youngO spaceO at h ⊢
  cases e : getO y.a.obs v with
  | none => simp
  | some c =>
    obtain ⟨h1, rfl⟩ := getO_some e
    rw [ho] at h1
    simp only [spaceW_eq hr]
    rcases mem_insO.1 h1 with rfl | h1
    · rw [decide_eq_false_iff_not]; omega
    · rw [getO_mem hx.lay.sort h1] at h
      exact h
theorem atsA_upd {w : Nat} {f : Ob → Ob} (hf : Keep f) (a : AH) : atsA { a with obs := updO w f a.obs } = atsA a := by
  unfold atsA updO
  rw [List.map_map]
  apply List.map_congr_left
  intro b _
  show (if b.at_ = w then f b else b).at_ = b.at_
  split <;> simp [hf.at_]
def gapS (g : List (Nat × Nat) × Nat) (b : Ob) : List (Nat × Nat) × Nat := (if g.2 < b.at_ then g.1 ++ [(g.2, b.at_ - g.2)] else g.1, b.stop)
def pinsO (a : AH) : List Ob := a.obs.filter fun b => decide ((roomR a 5).1 ≤ b.at_ ∧ b.at_ < (roomR a 5).2.1)
def endG (to : Nat) (g : List (Nat × Nat) × Nat) : List (Nat × Nat) := if g.2 < to then g.1 ++ [(g.2, to - g.2)] else g.1
def gapsA (a : AH) : List (Nat × Nat) := endG (roomR a 5).2.1 ((pinsO a).foldl gapS ([], (roomR a 5).1))
theorem pins_room (a : AH) : (pinsO a).map (·.at_) = roomL a 5 := by
  unfold pinsO roomL atsA
  rw [List.filter_map]; rfl
theorem gapS_pre (g : List (Nat × Nat) × Nat) (b : Ob) : ∃ t, (gapS g b).1 = g.1 ++ t := by
  unfold gapS; simp only; split
  · exact ⟨_, rfl⟩
  · exact ⟨[], by simp⟩
theorem foldG_pre : ∀ (r : List Ob) (g : List (Nat × Nat) × Nat), ∃ t, (r.foldl gapS g).1 = g.1 ++ t := by
  intro r
  induction r with
  | nil => intro g; exact ⟨[], by simp⟩
  | cons b r ih =>
    intro g
    obtain ⟨t, ht⟩ := ih (gapS g b)
    obtain ⟨u, hu⟩ := gapS_pre g b
    exact ⟨u ++ t, by rw [List.foldl_cons, ht, hu, List.append_assoc]⟩
theorem endG_pre (to : Nat) (g : List (Nat × Nat) × Nat) : ∃ t, endG to g = g.1 ++ t := by
  unfold endG; split
  · exact ⟨_, rfl⟩
  · exact ⟨[], by simp⟩
theorem gaps_ok {a : AH} {k : Nat} {b : Ob} {r : List Ob} (hp : pinsO a = (pinsO a).take k ++ b :: r) {g : List (Nat × Nat) × Nat} (hg : ((pinsO a).take k).foldl gapS ([], (roomR a 5).1) = g) (hlt : g.2 < b.at_) : OkC (fun full => full = gapsA a) (g.1 ++ [(g.2, b.at_ - g.2)]) := by
  unfold gapsA
  rw [hp, List.foldl_append, hg, List.foldl_cons]
  obtain ⟨t, ht⟩ := foldG_pre r (gapS g b)
  obtain ⟨u, hu⟩ := endG_pre (roomR a 5).2.1 (r.foldl gapS (gapS g b))
  refine ⟨t ++ u, ?_⟩
  rw [hu, ht, ← List.append_assoc]
  congr 2
  unfold gapS; rw [if_pos hlt]
theorem foldG_gap : ∀ (r : List Ob) (g : List (Nat × Nat) × Nat), r.Pairwise (fun a b => a.stop ≤ b.at_) → (∀ c ∈ r, g.2 ≤ c.at_) → ∀ y ∈ (r.foldl gapS g).1, y ∈ g.1 ∨ (g.2 ≤ y.1 ∧ (∀ c ∈ r, c.stop ≤ y.1 ∨ y.1 + y.2 ≤ c.at_) ∧ ∃ c ∈ r, y.1 + y.2 = c.at_) := by
  intro r
  induction r with
  | nil => intro g _ _ y hy; exact .inl hy
  | cons b r ih =>
    intro g hs hlo y hy
    obtain ⟨h1, h2⟩ := List.pairwise_cons.1 hs
    have hb := hlo b (by simp)
    rw [List.foldl_cons] at hy
    rcases ih (gapS g b) h2 (fun c hc => h1 c hc) y hy with h | ⟨k1, k2, c, hc, k3⟩
    · unfold gapS at h
      simp only at h
      split at h
      · rename_i hlt
        rcases List.mem_append.1 h with h | h
        · exact .inl h
        · obtain rfl := List.mem_singleton.1 h
          refine .inr ⟨Nat.le_refl _, fun c hc => ?_, b, by simp, by simp only; omega⟩
          rcases List.mem_cons.1 hc with rfl | hc
          · right; simp only; omega
          · have := h1 c hc; unfold Ob.stop at this; right; simp only; omega
      · exact .inl h
    · have hst : (gapS g b).2 = b.stop := rfl
      rw [hst] at k1
      refine .inr ⟨by unfold Ob.stop at k1; omega, fun d hd => ?_, c, by simp [hc], k3⟩
      rcases List.mem_cons.1 hd with rfl | hd
      · exact .inl k1
      · exact k2 d hd
theorem foldG_end : ∀ (r : List Ob) (g : List (Nat × Nat) × Nat), r.Pairwise (fun a b => a.stop ≤ b.at_) → (∀ c ∈ r, g.2 ≤ c.at_) → g.2 ≤ (r.foldl gapS g).2 ∧ ∀ c ∈ r, c.stop ≤ (r.foldl gapS g).2 := by
  intro r
  induction r with
  | nil => intro g _ _; exact ⟨Nat.le_refl _, by simp⟩
  | cons b r ih =>
    intro g hs hlo
    obtain ⟨h1, h2⟩ := List.pairwise_cons.1 hs
    have hb := hlo b (by simp)
    obtain ⟨k1, k2⟩ := ih (gapS g b) h2 (fun c hc => h1 c hc)
    have hst : (gapS g b).2 = b.stop := rfl
    rw [hst] at k1
    rw [List.foldl_cons]
    refine ⟨by unfold Ob.stop at k1; omega, fun c hc => ?_⟩
    rcases List.mem_cons.1 hc with rfl | hc
    · exact k1
    · exact k2 c hc
theorem foldG_last : ∀ (r : List Ob) (g : List (Nat × Nat) × Nat), (r.foldl gapS g).2 = g.2 ∨ ∃ c ∈ r, (r.foldl gapS g).2 = c.stop := by
  intro r
  induction r with
  | nil => intro g; exact .inl rfl
  | cons b r ih =>
    intro g
    rcases ih (gapS g b) with h | ⟨c, hc, h⟩
    · exact .inr ⟨b, by simp, by rw [List.foldl_cons, h]; rfl⟩
    · exact .inr ⟨c, by simp [hc], by rw [List.foldl_cons, h]⟩
theorem gap_free {x : HW} (hx : HOk x) {y : Nat × Nat} (hy : y ∈ gapsA x.a) : (roomR x.a 5).1 ≤ y.1 ∧ y.1 + y.2 ≤ (roomR x.a 5).2.1 ∧ ∀ c ∈ x.a.obs, c.stop ≤ y.1 ∨ y.1 + y.2 ≤ c.at_ := by
  have hl6 := hx.rm.len
  obtain ⟨r, hr⟩ : ∃ r, x.a.rm[5]? = some r := ⟨_, List.getElem?_eq_getElem (by omega)⟩
  have hroom : roomR x.a 5 = r := by unfold roomR; rw [hr]; rfl
  have hrg := hx.rm.rng 5 r hr
  have hsort : (pinsO x.a).Pairwise (fun a b => a.stop ≤ b.at_) := hx.lay.sort.sublist List.filter_sublist
  have hin : ∀ c ∈ pinsO x.a, r.1 ≤ c.at_ ∧ c.at_ < r.2.1 := fun c hc => by
    have := (List.mem_filter.1 hc).2
    rw [hroom] at this; simpa using this
  have hout : ∀ c ∈ x.a.obs, c ∈ pinsO x.a ∨ (c.stop ≤ r.1 ∨ r.2.1 ≤ c.at_) := fun c hc => by
    obtain ⟨i, s, hi, hs, c1, c2⟩ := hx.rm.inn c hc
    by_cases h5 : i = 5
    · subst h5
      rw [hr] at hs; cases hs
      rw [if_pos rfl] at c2
      left
      refine List.mem_filter.2 ⟨hc, ?_⟩
      rw [hroom]; unfold Ob.stop at c2; simp; omega
    · right
      have hi5 : i < 5 := by have := (List.getElem?_eq_some_iff.1 hs).1; omega
      have hap := hx.rm.apart i 5 s r hi5 hs hr hi
      have hsr := hx.rm.rng i s hs
      rw [if_neg h5] at c2
      rcases hap with h | h
      · left; omega
      · right; omega
  have hlo : ∀ c ∈ pinsO x.a, (([], (roomR x.a 5).1) : List (Nat × Nat) × Nat).2 ≤ c.at_ := fun c hc => by rw [hroom]; exact (hin c hc).1
  rw [hroom]
  unfold gapsA endG at hy
  have key : y.1 ≥ r.1 ∧ y.1 + y.2 ≤ r.2.1 ∧ (∀ c ∈ pinsO x.a, c.stop ≤ y.1 ∨ y.1 + y.2 ≤ c.at_) := by
    have hcase : y ∈ ((pinsO x.a).foldl gapS ([], (roomR x.a 5).1)).1 ∨ (((pinsO x.a).foldl gapS ([], (roomR x.a 5).1)).2 < (roomR x.a 5).2.1 ∧ y = (((pinsO x.a).foldl gapS ([], (roomR x.a 5).1)).2, (roomR x.a 5).2.1 - ((pinsO x.a).foldl gapS ([], (roomR x.a 5).1)).2)) := by
      split at hy
      · rename_i hlt
        rcases List.mem_append.1 hy with h | h
        · exact .inl h
        · exact .inr ⟨hlt, List.mem_singleton.1 h⟩
      · exact .inl hy
    rcases hcase with h | ⟨hlt, rfl⟩
    · rcases foldG_gap _ _ hsort hlo y h with h | ⟨k1, k2, c, hc, k3⟩
      · cases h
      · rw [hroom] at k1
        have := hin c hc
        exact ⟨k1, by omega, k2⟩
    · obtain ⟨k1, k2⟩ := foldG_end _ _ hsort hlo
      rw [hroom] at k1 hlt k2 ⊢
      simp only at k1 ⊢
      exact ⟨k1, by omega, fun c hc => .inl (k2 c hc)⟩
  refine ⟨key.1, key.2.1, fun c hc => ?_⟩
  rcases hout c hc with h | h | h
  · exact key.2.2 c h
  · left; omega
  · right; omega
def metM (l : List Nat) : List (Nat × Nat) := l.zipIdx.map fun q => (q.1, q.2 + 1)
theorem metM_keys (l : List Nat) : (metM l).map (·.1) = l := by
  unfold metM
  rw [List.map_map]
  have : ((fun x : Nat × Nat => x.1) ∘ fun q : Nat × Nat => (q.1, q.2 + 1)) = Prod.fst := rfl
  rw [this, List.zipIdx_map_fst]
theorem metM_snoc (l : List Nat) (o : Nat) : metM (l ++ [o]) = metM l ++ [(o, l.length + 1)] := by
  unfold metM; rw [List.zipIdx_append, List.map_append]; simp
theorem met_none {l : List Nat} {o : Nat} (h : o ∉ l) : mget o (metM l) = none := mget_none.2 (by rw [metM_keys]; exact h)
theorem met_some {l : List Nat} {o : Nat} (hn : l.Nodup) (h : o ∈ l) : mget o (metM l) = some (l.idxOf o + 1) := by
  refine mem_mget (by rw [metM_keys]; exact hn) ?_
  unfold metM
  refine List.mem_map.2 ⟨(o, l.idxOf o), ?_, rfl⟩
  rw [List.mem_zipIdx_iff_getElem?]
  rw [List.getElem?_eq_getElem (List.idxOf_lt_length_iff.2 h)]
  simp
def meetA (a : AH) (l : List Nat) (o : Nat) : List Nat := if o ∈ l then l else if (getO a.obs o).isSome then l ++ [o] else l
def kidsA (a : AH) (o : Nat) : List Nat := match getO a.obs o with | some b => b.body.take b.many | none => []
def rootsA (a : AH) : List Nat := a.sp ++ (a.cl ++ (a.stack ++ a.queue))
def goA (a : AH) : Nat → Nat → List Nat → List Nat
  | 0, _, l => l
  | n + 1, i, l => match l[i]? with
    | some o => goA a n (i + 1) ((kidsA a o).foldl (meetA a) l)
    | none => l
def rootedA (a : AH) : List Nat := (rootsA a).foldl (meetA a) []
def reachedA (a : AH) : List Nat := goA a (a.obs.length + 1) 0 (rootedA a)
theorem meetA_nodup {a : AH} {l : List Nat} {o : Nat} (h : l.Nodup) : (meetA a l o).Nodup := by
  unfold meetA
  split
  · exact h
  · rename_i hn
    split
    · rw [List.nodup_append]; exact ⟨h, by simp, fun x hx y hy e => by rw [List.mem_singleton.1 hy] at e; exact hn (e ▸ hx)⟩
    · exact h
theorem meetA_obs {a : AH} {l : List Nat} {o : Nat} (h : ∀ x ∈ l, (getO a.obs x).isSome = true) : ∀ x ∈ meetA a l o, (getO a.obs x).isSome = true := by
  unfold meetA
  split
  · exact h
  · split
    · rename_i hs
      intro x hx
      rcases List.mem_append.1 hx with hx | hx
      · exact h x hx
      · rw [List.mem_singleton.1 hx]; exact hs
    · exact h
theorem meets_nodup {a : AH} : ∀ {ks l : List Nat}, l.Nodup → (ks.foldl (meetA a) l).Nodup := by
  intro ks
  induction ks with
  | nil => intro l h; exact h
  | cons k ks ih => intro l h; exact ih (meetA_nodup h)
theorem meets_obs {a : AH} : ∀ {ks l : List Nat}, (∀ x ∈ l, (getO a.obs x).isSome = true) → ∀ x ∈ ks.foldl (meetA a) l, (getO a.obs x).isSome = true := by
  intro ks
  induction ks with
  | nil => intro l h; exact h
  | cons k ks ih => intro l h; exact ih (meetA_obs h)
theorem nodup_le : ∀ {l m : List Nat}, l.Nodup → (∀ x ∈ l, x ∈ m) → l.length ≤ m.length := by
  intro l
  induction l with
  | nil => intro m _ _; exact Nat.zero_le _
  | cons x r ih =>
    intro m hn h
    obtain ⟨h1, h2⟩ := List.nodup_cons.1 hn
    have hx := h x (by simp)
    have := ih (m := m.erase x) h2 (fun y hy => by
      have hne : y ≠ x := fun e => h1 (e ▸ hy)
      exact (List.mem_erase_of_ne hne).2 (h y (by simp [hy])))
    rw [List.length_erase_of_mem hx] at this
    have hp : 0 < m.length := List.length_pos_of_mem hx
    simp only [List.length_cons]; omega
theorem line_len {a : AH} {l : List Nat} (hn : l.Nodup) (h : ∀ x ∈ l, (getO a.obs x).isSome = true) : l.length ≤ a.obs.length := by
  have := nodup_le (m := a.obs.map Ob.oop) hn (fun x hx => by
    obtain ⟨b, hb⟩ := Option.isSome_iff_exists.1 (h x hx)
    obtain ⟨h1, h2⟩ := getO_some hb
    exact List.mem_map.2 ⟨b, h1, h2⟩)
  simpa using this
structure LN where
  l : List Nat
  lv : Value
  ls : List Value
  mb : Nat
  es : Array MapEntry
  mc : Nat
def LMem (q p : Nat) (n : LN) : SH := [cellsAt q 0 [ptr0 p, n.lv, .map (some n.mb)], slA n.lv (n.l.map uv) n.ls, [.obj n.mb (.map n.es n.mc)]]
def LA (q p : Nat) (n : LN) : List Atom := (LMem q p n).flatten
structure LOk (a : AH) (n : LN) : Prop where
  sl : IsSl 1 n.lv n.l.length (n.l.map uv) n.ls
  map : MapIs kU (fun i : Nat => vi i) n.es n.mc (metM n.l)
  nodup : n.l.Nodup
  obs : ∀ x ∈ n.l, (getO a.obs x).isSome = true
theorem la_out (q p : Nat) (n : LN) : Imp [LA q p n] (LMem q p n) := Imp.perm (by simp [LA])
theorem la_in (q p : Nat) (n : LN) : Imp (LMem q p n) [LA q p n] := Imp.perm (by simp [LA])
theorem IsSl.setU {sv : Value} {n i m : Nat} {xs : List Nat} {sp : List Value} (h : IsSl 1 sv n (xs.map uv) sp) : IsSl 1 sv n ((xs.set i m).map uv) sp := by
  generalize hy : xs.map uv = ys at h
  cases h with
  | mk h1 h2 h3 =>
    have hl : ((xs.set i m).map uv).length = ys.length := by rw [← hy]; simp
    exact .mk (by rw [hl]; exact h1) (by rw [hl]; exact h2) h3
  | nil =>
    have : xs = [] := by simpa using hy
    subst this
    exact .nil
theorem slA_mem {b o n c i u : Nat} {xs : List Nat} {sp : List Value} (h : xs[i]? = some u) : Atom.cell b (o + i) (uv u) ∈ slA (.slice (some ⟨b, o, none⟩) n c) (xs.map uv) sp := by
  have hi := (List.getElem?_eq_some_iff.1 h).1
  refine mem_cellsAt.2 ⟨i, uv u, ?_, rfl⟩
  rw [List.getElem?_append_left (by simpa using hi)]; simp [h]
section
variable {P : Program} {n : Nat} {rs : List RO} {Γ : Env} {H : SH} {Z : List PanicEntry → Env → SH → Prop} {K : Env → SH → Prop} {d : Option Nat}
theorem st_storeS {x y : Operand} {b o i k m nn c : Nat} {xs : List Nat} {sp : List Value} {R : SH} (hx : ev Γ x = some (.pointer (some ⟨b, k, none⟩))) (hy : ev Γ y = some (uv m)) (ht : Tk H (slA (.slice (some ⟨b, o, none⟩) nn c) (xs.map uv) sp) R) (hk : o + i = k) (hi : i < xs.length)
    (h : VO P n rs (putE d undef Γ) (slA (.slice (some ⟨b, o, none⟩) nn c) ((xs.set i m).map uv) sp :: R) Z K) : VO P n (⟨d, none, .store 1 x y⟩ :: rs) Γ H Z K := by
  refine VO.perm (H' := cellsAt b o (xs.map uv ++ sp) :: R) (by have := ht.perm; simp only [slA] at this; simpa using this) ?_
  refine st_store' (us := [uv m]) hx hy rfl rfl rfl (Upd.set1 (i := i) hk (by simp; omega)) ?_
  rw [List.set_append_left _ _ (by simpa using hi), ← List.map_set]; exact h
end
def SrcU (L : List Atom) (v : Value) (ys : List Nat) : Prop := ∃ a c, v = .slice a ys.length c ∧ ((ys = [] ∧ a = none) ∨ ∃ b o, a = some ⟨b, o, none⟩ ∧ ∀ x ∈ cellsAt b o (ys.map uv), x ∈ L)
theorem IsSl.srcU {v : Value} {ys : List Nat} {sp : List Value} {L : List Atom} (h : IsSl 1 v ys.length (ys.map uv) sp) (hm : ∀ x ∈ slA v (ys.map uv) sp, x ∈ L) : SrcU L v ys := by
  generalize hl : ys.length = n at h
  generalize hy : ys.map uv = us at h hm
  cases h with
  | @mk b o _ c _ _ h1 h2 h3 =>
    refine ⟨_, c, by rw [hl], .inr ⟨b, o, rfl, fun x hx => hm x ?_⟩⟩
    simp only [slA, cellsAt_append, List.mem_append]
    rw [hy] at hx
    exact .inl hx
  | nil => exact ⟨none, 0, by rw [hl], .inl ⟨by simpa using hy, rfl⟩⟩
theorem SrcU.src {L : List Atom} {v : Value} {ys : List Nat} (h : SrcU L v ys) : seqLen v = some ys.length ∧ Src L 1 ys.length (ys.map uv) v := by
  obtain ⟨a, c, rfl, h⟩ := h
  refine ⟨rfl, ?_⟩
  rcases h with ⟨rfl, rfl⟩ | ⟨b, o, rfl, hm⟩
  · rfl
  · exact ⟨by simp, hm⟩
section
variable {P : Program} {n : Nat} {rs : List RO} {Γ : Env} {H : SH} {Z : List PanicEntry → Env → SH → Prop} {K : Env → SH → Prop} {d : Option Nat}
theorem st_appU {t : TypeId} {s x : Operand} {sv xv : Value} {xs ys : List Nat} {sp : List Value} {R : SH} (hs : ev Γ s = some sv) (hx : ev Γ x = some xv) (hsl : IsSl 1 sv xs.length (xs.map uv) sp) (ht : Tk H (slA sv (xs.map uv) sp) R) (hy : SrcU R.flatten xv ys) (hroom : xs.length + ys.length ≤ 4398046511104)
    (h : ∀ sv' sp', IsSl 1 sv' (xs ++ ys).length ((xs ++ ys).map uv) sp' → VO P n rs (putE d sv' Γ) (slA sv' ((xs ++ ys).map uv) sp' :: R) Z K) : VO P n (⟨d, none, .append t 1 8 [.int .u64 0] s x⟩ :: rs) Γ H Z K := by
  obtain ⟨h1, h2⟩ := hy.src
  refine st_append (k := xs.length) (m := ys.length) (xs := xs.map uv) (sp := sp) (ys := ys.map uv) hs hx hsl ht h1 h2 (by simp) ?_ rfl (by omega) (by omega) (fun sv' sp' hsl' => ?_)
  · rw [List.all_map]; simp [oneCell]
  · rw [← List.map_append] at hsl' ⊢
    exact h sv' sp' (by rw [List.length_append]; exact hsl')
end
theorem srcU_lit {L : List Atom} {b : Nat} {ys : List Nat} (h : ∀ x ∈ cellsAt b 0 (ys.map uv), x ∈ L) : SrcU L (.slice (some ⟨b, 0, none⟩) ys.length ys.length) ys := ⟨_, _, rfl, .inr ⟨b, 0, rfl, h⟩⟩
def plainH (h : Hd) : Hd := { h with age := 0, marked := false, noted := false }
theorem plainH_may {h : Hd} (m : h.May) : (plainH h).May := ⟨m.cls, m.hash, Nat.zero_le _, m.slots, m.spare, m.fmt, m.plain, m.eph, m.meth, m.some⟩
theorem GOHS {R G : Prop} (r : R) (h : Later R → G := by
  intro later
  (repeat (first
      | (first
    | (apply st_gt; rfl)
    | (apply st_shr; rfl; rfl; omega; omega; (first | with_reducible exact Int.toNat_natCast _ | ((try simp only [Int.reduceToNat]); rfl)); (first | with_reducible exact Int.toNat_natCast _ | ((try simp only [Int.reduceToNat]); rfl)); (first | assumption | ((try simp only [Nat.reducePow]); rfl)); rfl)
    | (apply st_shl; rfl; rfl; omega; omega; (first | with_reducible exact Int.toNat_natCast _ | ((try simp only [Int.reduceToNat]); rfl)); (first | with_reducible exact Int.toNat_natCast _ | ((try simp only [Int.reduceToNat]); rfl)); (first | assumption | ((try simp only [Nat.reducePow]); rfl)); rfl)
    | (apply st_and; rfl; rfl; (first | exact ltM | (focus (apply ltB; (repeat' (first | exact modM | apply orC | apply andN_lt | apply divC | omega)); done)) | omega); (first | exact ltM | (focus (apply ltB; (repeat' (first | exact modM | apply orC | apply andN_lt | apply divC | omega)); done)) | omega); (first | with_reducible exact Int.toNat_natCast _ | ((try simp only [Int.reduceToNat]); rfl)); (first | with_reducible exact Int.toNat_natCast _ | ((try simp only [Int.reduceToNat]); rfl)); (first | exact and1 _ | exact and7 _ | exact and15 _ | rfl))
    | (apply st_or; rfl; rfl; (first | exact ltM | (focus (apply ltB; (repeat' (first | exact modM | apply orC | apply andN_lt | apply divC | omega)); done)) | omega); (first | exact ltM | (focus (apply ltB; (repeat' (first | exact modM | apply orC | apply andN_lt | apply divC | omega)); done)) | omega); (first | with_reducible exact Int.toNat_natCast _ | ((try simp only [Int.reduceToNat]); rfl)); (first | with_reducible exact Int.toNat_natCast _ | ((try simp only [Int.reduceToNat]); rfl)); rfl)
    | (apply st_andN; rfl; rfl; (first | exact ltM | (focus (apply ltB; (repeat' (first | exact modM | apply orC | apply andN_lt | apply divC | omega)); done)) | omega); (first | exact ltM | (focus (apply ltB; (repeat' (first | exact modM | apply orC | apply andN_lt | apply divC | omega)); done)) | omega); (first | with_reducible exact Int.toNat_natCast _ | ((try simp only [Int.reduceToNat]); rfl)); (first | with_reducible exact Int.toNat_natCast _ | ((try simp only [Int.reduceToNat]); rfl)))
    | (apply st_subU; rfl; rfl; omega; omega; (first | with_reducible exact Int.toNat_natCast _ | ((try simp only [Int.reduceToNat]); rfl)); (first | with_reducible exact Int.toNat_natCast _ | ((try simp only [Int.reduceToNat]); rfl)))
    | (apply st_addB; rfl; rfl; omega; omega; omega; (first | with_reducible exact Int.toNat_natCast _ | ((try simp only [Int.reduceToNat]); rfl)); (first | with_reducible exact Int.toNat_natCast _ | ((try simp only [Int.reduceToNat]); rfl)))
    | (apply st_convN; rfl; (first | exact wrapI (by omega) | exact wrapU_lt (by omega) | exact wrapB_lt (by omega)))
    | (apply st_quoN; rfl; rfl; omega; omega; (first | with_reducible exact Int.toNat_natCast _ | ((try simp only [Int.reduceToNat]); rfl)); (first | with_reducible exact Int.toNat_natCast _ | ((try simp only [Int.reduceToNat]); rfl)))
    | (apply st_remN; rfl; rfl; omega; omega; (first | with_reducible exact Int.toNat_natCast _ | ((try simp only [Int.reduceToNat]); rfl)); (first | with_reducible exact Int.toNat_natCast _ | ((try simp only [Int.reduceToNat]); rfl)))
    | (apply st_gf; rfl; rfl)
    | (apply st_gu; rfl)
    | (apply st_mv; rfl)
    | (apply st_nil; rfl)
    | (apply st_pick_t; rfl; rfl)
    | (apply st_pick_f; rfl; rfl)
    | (apply st_fld; rfl; ((try simp only [Nat.zero_add, Nat.add_zero, Nat.reduceAdd, Nat.reduceMul, Nat.add_assoc, Int.toNat_natCast, Nat.mul_one]); rfl))
    | (apply st_load1; rfl; (focus ((repeat (first | (apply Has.cells; omega; rfl) | apply Has.there)); done)))
    | (apply st_load1; rfl; (focus ((repeat (first | (apply Has.among; assumption) | apply Has.there)); done)))
    | (apply st_loadM; rfl; (focus ((repeat (first | (apply HasM.cells; omega; (focus (simp only [List.length_cons, List.length_nil, Nat.reduceAdd, Nat.zero_add, Nat.reduceSub, Nat.sub_self, Nat.reduceLeDiff, Nat.le_refl]; done)); (focus (simp only [lnb, Value.cells, Nat.zero_add, Nat.reduceEqDiff, ↓reduceIte, eq_self, Nat.reduceAdd, Nat.reduceSub, Nat.sub_self, Nat.reduceLeDiff, Nat.le_refl, and_self, rep, zeroRow] <;> rfl)); rfl) | apply HasM.there)); done)))
    | (apply st_extL; rfl; rfl)
    | (apply st_ext; rfl; rfl)
    | (apply st_add; rfl; rfl; omega)
    | (apply st_sub; rfl; rfl; omega)
    | (apply st_mul; rfl; rfl; omega)
    | (apply st_rem; rfl; rfl; decide)
    | (apply st_idxL; rfl; rfl; omega; ((try simp only [Nat.zero_add, Nat.add_zero, Nat.reduceAdd, Nat.reduceMul, Nat.add_assoc, Int.toNat_natCast, Nat.mul_one]); rfl))
    | (apply st_idxA; rfl; rfl; omega; ((try simp only [Nat.zero_add, Nat.add_zero, Nat.reduceAdd, Nat.reduceMul, Nat.add_assoc, Int.toNat_natCast, Nat.mul_one]); rfl))
    | (apply st_build; rfl; (focus (simp only [lnb, Value.cells, Nat.zero_add, Nat.reduceEqDiff, ↓reduceIte, eq_self, Nat.reduceAdd, Nat.reduceSub, Nat.sub_self, Nat.reduceLeDiff, Nat.le_refl, and_self, rep, zeroRow] <;> rfl)))
    | (apply st_store'; rfl; rfl; (focus (simp only [lnb, Value.cells, Nat.zero_add, Nat.reduceEqDiff, ↓reduceIte, eq_self, Nat.reduceAdd, Nat.reduceSub, Nat.sub_self, Nat.reduceLeDiff, Nat.le_refl, and_self, rep, zeroRow] <;> rfl)); rfl; rfl; (focus ((repeat (first | (apply Upd.cells; omega; (focus (simp only [List.length_cons, List.length_nil, Nat.reduceAdd, Nat.zero_add, Nat.reduceSub, Nat.sub_self, Nat.reduceLeDiff, Nat.le_refl]; done)); (focus (simp only [lnb, Value.cells, Nat.zero_add, Nat.reduceEqDiff, ↓reduceIte, eq_self, Nat.reduceAdd, Nat.reduceSub, Nat.sub_self, Nat.reduceLeDiff, Nat.le_refl, and_self, rep, zeroRow] <;> rfl))) | apply Upd.there)); done)))
    | (apply st_pure; rfl; rfl; rfl))
      | (refine VO.nil ?_; simp only [V.argsEnv, V.restr, V.look, V.putE, V.thenQ, V.blockQ, Nat.zero_add, Nat.reduceAdd, Nat.reduceEqDiff, ↓reduceIte, eq_self])
      | refine VC.seq_reg ?_
      | refine VC.seq_draw1 ?_
      | refine VC.seq_block ?_
      | refine VC.seq_skip ?_
      | refine VC.reg ?_
      | refine VC.draw1 ?_
      | refine VC.block ?_
      | (refine VC.skip ?_; try simp only [V.argsEnv, V.restr, V.look, V.putE, V.thenQ, V.blockQ, Nat.zero_add, Nat.reduceAdd, Nat.reduceEqDiff, ↓reduceIte, eq_self])
      | (refine VC.exit ?_; try simp only [V.argsEnv, V.restr, V.look, V.putE, V.thenQ, V.blockQ, Nat.zero_add, Nat.reduceAdd, Nat.reduceEqDiff, ↓reduceIte, eq_self])
      | (refine VC.ret ?_; try simp only [V.thenQ, V.blockQ])
      | (apply VC.seq_cond_t; rfl)
      | (apply VC.seq_cond_f; rfl)
      | (apply VC.cond_t; rfl)
      | (apply VC.cond_f; rfl)))
  exact later.out) : G := h ⟨r⟩
end Go.V

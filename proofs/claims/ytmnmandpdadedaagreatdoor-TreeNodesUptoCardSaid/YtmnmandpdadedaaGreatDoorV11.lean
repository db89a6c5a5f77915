/-
  Ranges over a function that looks into what the body holds.
-/
import Derived.Test.YtmnmandpdadedaaGreatDoorV10
import Derived.Test.YtmnmandpdadedaaGreatDoorV7
import Derived.Test.YtmnmandpdadedaaGreatDoorV6
import Derived.ChangeOld
import Derived.RowKit3
import Derived.ChangeSame
import Derived.ChangeSlices
import Derived.RowKit
import Derived.Test.YtmnmandpdadedaaGreatDoorV9
import Derived.Deep.Slices
import Derived.Deep.Fields
set_option linter.unusedSimpArgs false
set_option linter.unusedVariables false
namespace Go.V
open Go
def IterA (P : Program) (g : Value) {α : Type} (enc : α → List Value) (Acc : List Atom → Prop) (Pre Post : SH) (Spec : List α → Prop) : Prop :=
  ∀ (y : Value) (J SP : List α → List Atom → Prop), y.cells = #[y] → (∀ c A, J c A → Acc A) →
    (∀ c x A, OkC Spec (c ++ [x]) → J c A → FunV P y (enc x) [A] (fun v B => (v = .bool true ∧ ∃ A', J (c ++ [x]) A' ∧ B = [A']) ∨ (v = .bool false ∧ ∃ B', SP (c ++ [x]) B' ∧ B = [B']))) →
    ∀ A, J [] A → FunV P g [y] (Pre ++ [A]) (fun v B => v = .tuple #[] ∧ ((∃ full A', Spec full ∧ J full A' ∧ B = Post ++ [A']) ∨ (∃ c B', OkC Spec c ∧ SP c B' ∧ B = Post ++ [B'])))
section
variable {P : Program} {n : Nat} {Γ : Env} {H : SH} {Q : Exit → Env → SH → Prop}
theorem VC.rangefA {α : Type} {enc : α → List Value} {g : Operand} {f : Nat} {first cap : Array Value} {ps : List Nat} {asg body : IC} {Pre Post R : SH} {Spec : List α → Prop} {Acc : List Atom → Prop} (I : List α → List Atom → Prop) (A0 : List Atom) (hg : ev Γ g = some (.func (.func f) first cap))
    (hit : IterA P (.func (.func f) first cap) enc Acc Pre Post Spec) (hmo : ∀ A B, Acc A → Acc (A ++ B)) (hacc : ∀ c A, I c A → Acc A) (hs : Spl H Pre R) (h0 : Imp R [A0]) (h1 : I [] A0) (hlen : ∀ x, (enc x).length = ps.length)
    (round : ∀ c x A, OkC Spec (c ++ [x]) → I c A → VC P n asg (bindE ps (enc x) Γ) [A] (fun e Γ' H' => e = .normal ∧ VC P n body Γ' H' (fun e _ H'' => match e with | .normal => ∃ A', I (c ++ [x]) A' ∧ Imp H'' [A'] | .ret => Q .ret Γ (Post ++ H'') | .exit id => Q (.exit id) Γ (Post ++ H'') | _ => False)))
    (done : ∀ full A, Spec full → I full A → Q .normal Γ (Post ++ [A])) : VC P n (.rangef g ps asg body) Γ H Q := by
  intro ρ kp od code hl a w F QQ hr ha hsat hh
  obtain ⟨qs, A, B, rfl, rfl, hlt, h1', h2⟩ := lowC_inv hl
  refine wpIn_rangeFunc (fun fnid _ => ?_)
  obtain ⟨l, db, X, w1, he, hs1, hk1⟩ := enter_spec (P := P) (fnid := fnid) (tmps := a.tmps) (qs := qs) (A := A) (B := B) hr hsat
  have hyield := hit (.func (.yield l) #[] #[]) (fun c A' => ∃ A1, I c A1 ∧ A' = A1 ++ [.obj l (.loop (lrec fnid a.tmps qs A B db .ready none))])
    (fun c B' => ∃ H'', (Q .ret Γ (Post ++ H'') ∧ B' = H''.flatten ++ [.obj l (.loop (lrec fnid a.tmps qs A B db .done (some .ret)))]) ∨ (∃ id, Q (.exit id) Γ (Post ++ H'') ∧ B' = H''.flatten ++ [.obj l (.loop (lrec fnid a.tmps qs A B db .done (some (.exit id))))]))
    rfl
    (fun c A' hA => by obtain ⟨A1, hI, rfl⟩ := hA; exact hmo _ _ (hacc c A1 hI))
    (fun c x A' hc hA => by
      obtain ⟨A1, hI, rfl⟩ := hA
      have hx := round_spec (P := P) (n := n) (Γ := Γ) (fn := fnid) (tmps := a.tmps) (db := db) (l := l) (vs := enc x) (I := A1) (Qb := fun e H'' => match e with | .normal => ∃ A', I (c ++ [x]) A' ∧ Imp H'' [A'] | .ret => Q .ret Γ (Post ++ H'') | .exit id => Q (.exit id) Γ (Post ++ H'') | _ => False)
        hlt (hlen x).symm ⟨ha.size, ha.slots⟩ h1' h2 ((round c x A1 hc hI).mono (fun e Γ' H' ⟨q1, q2⟩ => ⟨q1, q2.mono (fun e _ H'' q => by cases e <;> exact q)⟩))
      refine hx.conv (R := []) (by simp [Spl]) ?_
      rintro v Bk (⟨rfl, H'', ⟨A2, hI2, q⟩, rfl⟩ | ⟨rfl, H'', q⟩)
      · refine ⟨_, .inl ⟨rfl, _, ⟨A2, hI2, rfl⟩, rfl⟩, ?_⟩
        obtain ⟨R', hR'⟩ := q
        refine ⟨R', ?_⟩
        simp only [Spl, List.flatten_cons, List.flatten_nil, List.append_nil] at hR' ⊢
        rw [List.append_assoc]
        refine (List.Perm.append_right _ hR').trans ?_
        rw [List.append_assoc]
        exact List.Perm.append_left _ List.perm_append_comm
      · rcases q with ⟨q, rfl⟩ | ⟨id, q, rfl⟩
        · exact ⟨_, .inr ⟨rfl, _, ⟨H'', .inl ⟨q, rfl⟩⟩, rfl⟩, by rw [List.append_nil]; exact Imp.refl _⟩
        · exact ⟨_, .inr ⟨rfl, _, ⟨H'', .inr ⟨id, q, rfl⟩⟩, rfl⟩, by rw [List.append_nil]; exact Imp.refl _⟩)
    _ ⟨A0, h1, rfl⟩
  have hs2 : Sat w1 ((Pre ++ [A0 ++ [Atom.obj l (.loop (lrec fnid a.tmps qs A B db .ready none))]]).flatten ++ (F ++ marks X)) := by
    have p1 : (Atom.obj l (.loop (lrec fnid a.tmps qs A B db .ready none)) :: (H.flatten ++ (F ++ marks X))).Perm (R.flatten ++ (Pre.flatten ++ (Atom.obj l (.loop (lrec fnid a.tmps qs A B db .ready none)) :: (F ++ marks X)))) := by
      refine List.perm_middle.symm.trans ?_
      refine (List.Perm.append_right _ hs).trans ?_
      rw [List.append_assoc]
      exact perm_lead _ _ _
    have h3 := (hs1.perm p1).imp h0
    refine h3.perm ?_
    simp only [List.flatten_append, List.flatten_cons, List.flatten_nil, List.append_nil, List.append_assoc, List.singleton_append]
    exact perm_lead _ _ _
  have hcall := hyield (F ++ marks X) w1 hs2
  obtain ⟨hcallable, hcalls⟩ := hcall
  refine ⟨l, X.map coll, w1, { target := .fn (.func f) cap, args := first ++ [Value.func (.yield l) #[] #[]].toArray }, w1, f, first ++ [Value.func (.yield l) #[] #[]].toArray ++ cap, w1, he, ?_, fun _ _ => trivial, ?_, ?_, ?_⟩
  · have hev : a.eval g = .func (.func f) first cap := ha.ev hg
    simp only [resolve, hev, Deferred.ofValue]
    simp [Act.eval]
  · simp only [invoke]
    rw [run_callFunc hcallable]
  · intro h; simp at h
  refine callsIn_v (hcalls.mono ?_)
  · rintro e w3 ⟨v, Pst, rfl, ⟨rfl, hp⟩, hs3, hk3⟩
    have ha' : Agree n Γ { a with defers := X.map coll ++ a.defers } := ⟨ha.size, ha.slots⟩
    rcases hp with ⟨full, _, hf, ⟨A1, hI, rfl⟩, rfl⟩ | ⟨c, B', _, ⟨H'', hj⟩, rfl⟩
    · obtain ⟨w4, e1, e2, e3'⟩ := end_spec (P := P) (L := Post.flatten ++ A1) (st := .ready) (pe := none) (by simp) (by simpa [List.append_assoc] using hs3)
      have e3 := hk1.trans (hk3.trans e3')
      exact ⟨none, w4, e1, hh _ _ _ _ _ X (done full A1 hf hI) ha' rfl (by simpa using e2) e3⟩
    · rcases hj with ⟨q, rfl⟩ | ⟨id, q, rfl⟩
      · obtain ⟨w4, e1, e2, e3'⟩ := end_spec (P := P) (L := Post.flatten ++ H''.flatten) (st := .done) (pe := some .ret) (by simp) (by simpa [List.append_assoc] using hs3)
        have e3 := hk1.trans (hk3.trans e3')
        exact ⟨_, w4, e1, wpIn_ret (hh _ _ _ _ _ X q ha' rfl (by simpa using e2) e3)⟩
      · obtain ⟨w4, e1, e2, e3'⟩ := end_spec (P := P) (L := Post.flatten ++ H''.flatten) (st := .done) (pe := some (.exit id)) (by simp) (by simpa [List.append_assoc] using hs3)
        have e3 := hk1.trans (hk3.trans e3')
        exact ⟨_, w4, e1, wpIn_exit (hh _ _ _ _ _ X q ha' rfl (by simpa using e2) e3)⟩
end
abbrev NV := Nd × List Value
def SpecN (A : List Atom) (x : Nd) (f : List NV) : Prop := f.map Prod.fst = allN x ∧ ∀ p ∈ f, NdRd A p.1 p.2
def SpecNs (A : List Atom) (l : List Nd) (f : List NV) : Prop := f.map Prod.fst = allsN l ∧ ∀ p ∈ f, NdRd A p.1 p.2
theorem allsN_append : ∀ l r : List Nd, allsN (l ++ r) = allsN l ++ allsN r := by
  intro l
  induction l with
  | nil => intro r; rfl
  | cons x l ih => intro r; simp only [List.cons_append, allsN, ih, List.append_assoc]
theorem allN_eq (x : Nd) : allN x = x :: allsN x.kids := by cases x; rfl
theorem allsN_mem {x y : Nd} : ∀ {l : List Nd}, y ∈ l → x ∈ allN y → x ∈ allsN l := by
  intro l
  induction l with
  | nil => intro h; cases h
  | cons z r ih =>
    intro h hx
    simp only [allsN, List.mem_append]
    rcases List.mem_cons.1 h with rfl | h
    · exact .inl hx
    · exact .inr (ih h hx)
theorem mem_allsN {x : Nd} : ∀ {l : List Nd}, x ∈ allsN l → ∃ y ∈ l, x ∈ allN y := by
  intro l
  induction l with
  | nil => intro h; cases h
  | cons z r ih =>
    intro h
    simp only [allsN, List.mem_append] at h
    rcases h with h | h
    · exact ⟨z, by simp, h⟩
    · obtain ⟨y, hy, h⟩ := ih h; exact ⟨y, by simp [hy], h⟩
theorem nd_kid {A : List Atom} {x y : Nd} {vs : List Value} (h : NdRd A x vs) (hy : y ∈ x.kids) : ∃ us, NdRd A y us := by
  cases h with
  | mk wf hl hav htv ha hm hr hcp =>
    simp only [Nd.kids] at hy
    obtain ⟨i, hi⟩ := List.getElem?_of_mem hy
    exact ⟨_, hr i y hi⟩
theorem rd_all {A : List Atom} : ∀ (N : Nat) (x : Nd), x.w ≤ N → ∀ vs, NdRd A x vs → ∀ y ∈ allN x, ∃ us, NdRd A y us := by
  intro N
  induction N with
  | zero => intro x hx; have := x.w_pos; omega
  | succ N ih =>
    intro x hx vs h y hy
    rw [allN_eq] at hy
    rcases List.mem_cons.1 hy with rfl | hy
    · exact ⟨vs, h⟩
    · obtain ⟨z, hz, hy⟩ := mem_allsN hy
      obtain ⟨us, hu⟩ := nd_kid h hz
      have : z.w < x.w := by
        cases x
        have := Nd.ws_mem hz
        simp only [Nd.kids] at this
        simp only [Nd.w]; omega
      exact ih z (by omega) us hu y hy
theorem spec_ex {A : List Atom} : ∀ (l : List Nd), (∀ y ∈ l, ∃ us, NdRd A y us) → ∃ f : List NV, f.map Prod.fst = l ∧ ∀ p ∈ f, NdRd A p.1 p.2 := by
  intro l
  induction l with
  | nil => intro _; exact ⟨[], rfl, fun p hp => by cases hp⟩
  | cons y l ih =>
    intro h
    obtain ⟨us, hu⟩ := h y (by simp)
    obtain ⟨f, h1, h2⟩ := ih fun z hz => h z (by simp [hz])
    refine ⟨(y, us) :: f, by simp [h1], fun p hp => ?_⟩
    rcases List.mem_cons.1 hp with rfl | hp
    · exact hu
    · exact h2 p hp
theorem SpecN.cons {A : List Atom} {x : Nd} {vs : List Value} (h : NdRd A x vs) {f : List NV} (hf : SpecNs A x.kids f) : SpecN A x ((x, vs) :: f) := by
  refine ⟨by rw [allN_eq, List.map_cons, hf.1], fun p hp => ?_⟩
  rcases List.mem_cons.1 hp with rfl | hp
  · exact h
  · exact hf.2 p hp
theorem SpecNs.append {A : List Atom} {l r : List Nd} {f g : List NV} (hf : SpecNs A l f) (hg : SpecNs A r g) : SpecNs A (l ++ r) (f ++ g) := by
  refine ⟨by rw [List.map_append, allsN_append, hf.1, hg.1], fun p hp => ?_⟩
  rcases List.mem_append.1 hp with hp | hp
  · exact hf.2 p hp
  · exact hg.2 p hp
theorem SpecNs.one {A : List Atom} {x : Nd} {f : List NV} (hf : SpecN A x f) : SpecNs A [x] f := ⟨by simp [allsN, hf.1], hf.2⟩
theorem SpecNs.nil {A : List Atom} : SpecNs A [] [] := ⟨rfl, fun p hp => by cases hp⟩
theorem specNs_ex {A : List Atom} {x : Nd} {vs : List Value} (h : NdRd A x vs) {l : List Nd} (hl : ∀ y ∈ l, y ∈ x.kids) : ∃ g, SpecNs A l g := by
  obtain ⟨f, h1, h2⟩ := spec_ex (A := A) (allsN l) (fun y hy => by
    obtain ⟨z, hz, hy⟩ := mem_allsN hy
    obtain ⟨us, hu⟩ := nd_kid h (hl z hz)
    exact rd_all _ z (Nat.le_refl _) us hu y hy)
  exact ⟨f, h1, h2⟩
theorem allN_len : ∀ (N : Nat) (x : Nd), x.w ≤ N → (allN x).length ≤ x.w := by
  intro N
  induction N with
  | zero => intro x hx; have := x.w_pos; omega
  | succ N ih =>
    intro x hx
    cases x with
    | mk k s lit args temps kids p =>
    have hk : ∀ l : List Nd, Nd.ws l ≤ N → (allsN l).length ≤ Nd.ws l := by
      intro l
      induction l with
      | nil => intro _; exact Nat.zero_le _
      | cons y r ih2 =>
        intro h
        simp only [Nd.ws] at h ⊢
        have := ih y (by omega)
        have := ih2 (by omega)
        simp only [allsN, List.length_append]; omega
    simp only [Nd.w] at hx ⊢
    have := hk kids (by omega)
    simp only [allN, List.length_cons]; omega
def AccT (A : List Atom) (B : List Atom) : Prop := ∃ X, B.Perm (A ++ X)
theorem AccT.mem {A B : List Atom} (h : AccT A B) : ∀ a ∈ A, a ∈ B := fun _ ha => let ⟨_, hp⟩ := h; hp.symm.subset (List.mem_append_left _ ha)
theorem AccT.more {A B C : List Atom} (h : AccT A B) : AccT A (B ++ C) := by
  obtain ⟨X, hX⟩ := h
  exact ⟨X ++ C, by rw [← List.append_assoc]; exact hX.append_right C⟩
theorem nd_at {A : List Atom} {x : Nd} {vs : List Value} (h : NdRd A x vs) : ∃ (e1 : Nat) (e2 : Int) (e3 : Nat) (e4 : ByteArray) (e5 : Option Addr) (e6 e7 : Nat) (e8 : Option Addr) (e9 e10 : Nat) (e11 : Option Addr) (e12 e13 : Nat) (a : Option Addr) (c bk o : Nat) (us : Nat → List Value),
    vs = [cv x.kind, .string x.name, cv e1, vi e2, uv e3, .string e4, .slice e5 e6 e7, .slice e8 e9 e10, .slice e11 e12 e13, .slice a x.kids.length c, vi x.at_] ∧ x.kids.length ≤ 140737488355328 ∧ (0 < x.kids.length → a = some ⟨bk, o, none⟩) ∧
    (∀ i, i < x.kids.length → ∀ y ∈ cellsAt bk (o + i * 11) (us i), y ∈ A) ∧ ∀ i y, x.kids[i]? = some y → NdRd A y (us i) := by
  cases h with
  | mk wf hl hav htv ha hm hr hcp =>
    obtain ⟨_, _, rfl, _⟩ := hav
    obtain ⟨_, _, rfl, _⟩ := htv
    cases hl with
    | mk wf2 ha2 hm2 hr2 => exact ⟨_, _, _, _, _, _, _, _, _, _, _, _, _, _, _, _, _, _, rfl, wf.many, ha, hm, hr⟩
def hasS (r : List ByteArray) (s : ByteArray) : Bool := r.any fun t => decide (t = s)
def cntS (r : List ByteArray) (s : ByteArray) : Nat := (r.filter fun t => decide (t = s)).length
theorem hasS_iff {r : List ByteArray} {s : ByteArray} : hasS r s = true ↔ s ∈ r := by simp [hasS]
theorem cntS_zero {r : List ByteArray} {s : ByteArray} : cntS r s = 0 ↔ s ∉ r := by
  simp only [cntS, List.length_eq_zero_iff, List.filter_eq_nil_iff, decide_eq_true_eq]
  exact ⟨fun h hm => h s hm rfl, fun h t ht e => h (e ▸ ht)⟩
theorem cntS_snoc {r : List ByteArray} {s t : ByteArray} : cntS (r ++ [t]) s = cntS r s + if t = s then 1 else 0 := by
  simp only [cntS, List.filter_append, List.length_append, List.filter_cons, List.filter_nil]
  by_cases h : t = s <;> simp [h]
theorem cntS_le (r : List ByteArray) (s : ByteArray) : cntS r s ≤ r.length := List.length_filter_le ..
def firsts (l : List ByteArray) : List ByteArray := l.foldl (fun r s => if hasS r s then r else r ++ [s]) []
def sendsN (x : Nd) : Bool := decide (x.kind = 4) || decide (x.kind = 6)
def sendsOf (l : List Nd) : List ByteArray := (l.filter sendsN).map Nd.name
theorem firsts_snoc (l : List ByteArray) (s : ByteArray) : firsts (l ++ [s]) = if hasS (firsts l) s then firsts l else firsts l ++ [s] := by
  unfold firsts
  rw [List.foldl_append]
  rfl
theorem snoc_ind {α : Type} {p : List α → Prop} (h0 : p []) (h1 : ∀ l x, p l → p (l ++ [x])) : ∀ l, p l := by
  intro l
  have : ∀ n (l : List α), l.length = n → p l := by
    intro n
    induction n with
    | zero => intro l h; rw [List.length_eq_zero_iff.1 h]; exact h0
    | succ n ih =>
      intro l h
      have hne : l ≠ [] := fun e => by rw [e] at h; cases h
      rw [← List.dropLast_concat_getLast hne]
      exact h1 _ _ (ih _ (by rw [List.length_dropLast]; omega))
  exact this _ l rfl
theorem mem_firsts {s : ByteArray} : ∀ l, s ∈ firsts l ↔ s ∈ l := by
  refine snoc_ind (by simp [firsts]) (fun l x ih => ?_)
  rw [firsts_snoc]
  split
  · rename_i h
    have h := hasS_iff.1 h
    rw [ih, List.mem_append, List.mem_singleton]
    refine ⟨.inl, fun h2 => h2.elim id fun e => ?_⟩
    subst e; exact ih.1 h
  · simp [ih]
theorem firsts_le : ∀ l, (firsts l).length ≤ l.length := by
  refine snoc_ind (by simp [firsts]) (fun l x ih => ?_)
  rw [firsts_snoc]
  split
  · simp; omega
  · simp; omega
theorem firsts_cnt (l : List ByteArray) (s : ByteArray) : hasS (firsts l) s = decide (cntS l s ≠ 0) := by
  rw [Bool.eq_iff_iff, hasS_iff, mem_firsts, decide_eq_true_eq]
  have := @cntS_zero l s
  exact ⟨fun h e => this.1 e h, fun h => Classical.byContradiction fun hn => h (this.2 hn)⟩
theorem sendsOf_append (l r : List Nd) : sendsOf (l ++ r) = sendsOf l ++ sendsOf r := by simp [sendsOf]
theorem sendsOf_le (l : List Nd) : (sendsOf l).length ≤ l.length := by simp only [sendsOf, List.length_map]; exact List.length_filter_le ..
theorem sendsOf_one (x : Nd) : sendsOf [x] = if sendsN x then [x.name] else [] := by
  simp only [sendsOf, List.filter_cons, List.filter_nil]; split <;> rfl
theorem look_get {m : List (ByteArray × Int)} {s : ByteArray} : lookV false (.int .i64 0) ((mget s m).map vi) = vi ((mget s m).getD 0) := by
  cases mget s m <;> rfl
theorem bare_kind (x : Nd) : x.bare.kind = x.kind := by cases x; rfl
theorem bare_name (x : Nd) : x.bare.name = x.name := by cases x; rfl
theorem bares_eq : ∀ l : List Nd, Nd.bares l = l.map Nd.bare := by
  intro l
  induction l with
  | nil => rfl
  | cons x r ih => simp only [Nd.bares, ih, List.map_cons]
theorem valueR_bare (x : Nd) (p : Nat) (r : Rs) : valueR x.bare p r = valueR x p r := by
  cases x; rfl
theorem firstR_bare (x : Nd) (s : ByteArray) (r : Rs) : firstR x.bare s r = firstR x s r := by
  cases x; rfl
theorem valuesR_bare (p : Nat) : ∀ (l : List Nd) (rs : List Rs), valuesR p (l.map Nd.bare) rs = valuesR p l rs := by
  intro l
  induction l with
  | nil => intro rs; rfl
  | cons x r ih =>
    intro rs
    cases rs with
    | nil => rfl
    | cons q rs => simp only [List.map_cons, valuesR, ih, valueR_bare]
theorem msgsR_bare : ∀ (l : List Nd) (rs : List Rs), msgsR (l.map Nd.bare) rs = msgsR l rs := by
  intro l
  induction l with
  | nil => intro rs; rfl
  | cons x r ih =>
    intro rs
    cases rs with
    | nil => rfl
    | cons q rs => simp only [List.map_cons, msgsR, ih, bare_kind]
theorem stmtsR_bare : ∀ (l : List Nd) (rs : List Rs), stmtsR (l.map Nd.bare) rs = stmtsR l rs := by
  intro l
  induction l with
  | nil => intro rs; rfl
  | cons x r ih =>
    intro rs
    cases r with
    | nil =>
      cases rs with
      | nil => rfl
      | cons q rs => simp only [List.map_cons, List.map_nil, stmtsR, bare_kind, valueR_bare]
    | cons y r =>
      cases rs with
      | nil => rfl
      | cons q rs =>
        have := ih rs
        simp only [List.map_cons] at this ⊢
        simp only [stmtsR, valueR_bare, this]
theorem argsR_bare (s : ByteArray) (l : List Nd) (rs : List Rs) : argsR s (l.map Nd.bare) rs = argsR s l rs := by
  simp only [argsR, List.length_map, valuesR_bare]
theorem nodeR_bare (k : Nat) (s : ByteArray) (lit : Lt) (args temps : List ByteArray) (kids : List Nd) (rs : List Rs) : nodeR k s lit args temps (kids.map Nd.bare) rs = nodeR k s lit args temps kids rs := by
  match kids, rs with
  | [], rs => rfl
  | [x], [] => simp only [nodeR, List.map_cons, List.map_nil, ← valuesR_bare 1 [x], ← stmtsR_bare [x], ← argsR_bare s [x], List.length_cons, List.length_nil]
  | [x], [r] => simp only [nodeR, List.map_cons, List.map_nil, ← valuesR_bare 1 [x], ← stmtsR_bare [x], ← argsR_bare s [x], ← argsR_bare s [], ← valueR_bare x, ← firstR_bare x, List.length_cons, List.length_nil]
  | [x], r :: q :: rs => simp only [nodeR, List.map_cons, List.map_nil, ← valuesR_bare 1 [x], ← stmtsR_bare [x], ← argsR_bare s [x], ← argsR_bare s [], ← firstR_bare x, List.length_cons, List.length_nil]
  | x :: y :: l, [] =>
    have h1 := valuesR_bare 1 (x :: y :: l) []
    have h2 := stmtsR_bare (x :: y :: l) []
    have h3 := argsR_bare s (x :: y :: l) []
    simp only [List.map_cons] at h1 h2 h3 ⊢
    simp only [nodeR, h1, h2, h3, List.length_cons, List.length_map]
  | x :: y :: l, r :: rs =>
    have h1 := valuesR_bare 1 (x :: y :: l) (r :: rs)
    have h2 := stmtsR_bare (x :: y :: l) (r :: rs)
    have h3 := argsR_bare s (x :: y :: l) (r :: rs)
    have h4 := argsR_bare s (y :: l) rs
    have h5 := msgsR_bare (y :: l) rs
    simp only [List.map_cons] at h1 h2 h3 h4 h5 ⊢
    simp only [nodeR, h1, h2, h3, h4, h5, firstR_bare, bare_name, List.length_cons, List.length_map]
theorem nodeD_bare : ∀ (N : Nat) (x : Nd), x.w ≤ N → nodeD x.bare = nodeD x := by
  intro N
  induction N with
  | zero => intro x hx; have := x.w_pos; omega
  | succ N ih =>
    intro x hx
    cases x with
    | mk k s lit args temps kids p =>
    simp only [Nd.w] at hx
    have hk : nodesD (Nd.bares kids) = nodesD kids := by
      rw [nodesD_map, nodesD_map, bares_eq, List.map_map]
      exact List.map_congr_left fun y hy => ih y (by have := Nd.ws_mem hy; omega)
    rw [bares_eq] at hk
    simp only [Nd.bare, nodeD, bares_eq, nodeR_bare, hk]
theorem litEq_refl : ∀ (N : Nat) (x : Lt), x.size ≤ N → litEq x x = true := by
  intro N
  induction N with
  | zero => intro x hx; have := x.size_pos; omega
  | succ N ih =>
    intro x hx
    cases x with
    | mk k n b t items =>
    simp only [Lt.size] at hx
    have : litsEq items items = true := (litsEq_iff items items).2 ⟨rfl, fun j x y e1 e2 => by
      rw [e1] at e2; cases e2
      exact ih x (by have := Lt.sizes_mem (List.mem_of_getElem? e1); omega)⟩
    simp [litEq, this]
mutual
def ndSm : Nd → Nd → Bool
  | .mk k s l a t ks p, .mk k' s' l' a' t' ks' p' => decide (k = k') && decide (s = s') && decide (a = a') && decide (t = t') && litEq l l' && decide (p = p') && ndsSm ks ks'
def ndsSm : List Nd → List Nd → Bool
  | [], [] => true
  | x :: r, y :: q => ndSm x y && ndsSm r q
  | _, _ => false
end
theorem ndsSm_iff : ∀ l l' : List Nd, ndsSm l l' = true ↔ l.length = l'.length ∧ ∀ (j : Nat) x y, l[j]? = some x → l'[j]? = some y → ndSm x y = true := by
  intro l
  induction l with
  | nil =>
    intro l'
    cases l' with
    | nil => simp [ndsSm]
    | cons y r => simp [ndsSm]
  | cons x r ih =>
    intro l'
    cases l' with
    | nil => simp [ndsSm]
    | cons y q =>
      simp only [ndsSm, Bool.and_eq_true, ih q, List.length_cons]
      constructor
      · rintro ⟨h1, h2, h3⟩
        refine ⟨by omega, fun j => ?_⟩
        cases j with
        | zero => intro x' y' e1 e2; cases e1; cases e2; exact h1
        | succ j => intro x' y' e1 e2; exact h3 j x' y' (by simpa using e1) (by simpa using e2)
      · rintro ⟨h1, h2⟩
        exact ⟨h2 0 x y rfl rfl, by omega, fun j x' y' e1 e2 => h2 (j + 1) x' y' (by simpa using e1) (by simpa using e2)⟩
theorem ndsSm_false {l l' : List Nd} {j : Nat} {x y : Nd} (h1 : l[j]? = some x) (h2 : l'[j]? = some y) (h : ndSm x y = false) : ndsSm l l' = false :=
  Bool.eq_false_iff.2 fun e => by have := ((ndsSm_iff l l').1 e).2 j x y h1 h2; rw [h] at this; cases this
theorem ndsSm_len {l l' : List Nd} (h : l.length ≠ l'.length) : ndsSm l l' = false := Bool.eq_false_iff.2 fun e => h ((ndsSm_iff l l').1 e).1
theorem ndSm_refl : ∀ (N : Nat) (x : Nd), x.w ≤ N → ndSm x x = true := by
  intro N
  induction N with
  | zero => intro x hx; have := x.w_pos; omega
  | succ N ih =>
    intro x hx
    cases x with
    | mk k s lit args temps kids p =>
    simp only [Nd.w] at hx
    have hl := litEq_refl _ lit (Nat.le_refl _)
    have h3 : ndsSm kids kids = true := (ndsSm_iff _ _).2 ⟨rfl, fun j x y e1 e2 => by
      rw [e1] at e2; cases e2
      exact ih x (by have := Nd.ws_mem (List.mem_of_getElem? e1); omega)⟩
    simp [ndSm, h3, hl]
inductive LtOwn : Lt → List Value → List Atom → Prop
  | mk {k : Nat} {n : Int} {b : Nat} {t : ByteArray} {items : List Lt} {sv : Value} {rows : List (List Value)} {sp : List Value} {Ls : Nat → List Atom} {L : List Atom} (hsl : IsSl 5 sv items.length rows.flatten sp) (hl : rows.length = items.length) (h5 : ∀ r ∈ rows, r.length = 5)
      (hr : ∀ (i : Nat) x r, items[i]? = some x → rows[i]? = some r → LtOwn x r (Ls i)) (wf : LtWf k n b t items.length) (hL : L.Perm (slA sv rows.flatten sp ++ (List.range items.length).flatMap Ls)) : LtOwn (.mk k n b t items) [cv k, vi n, uv b, .string t, sv] L
def TxOwn (v : Value) (l : List ByteArray) (L : List Atom) : Prop := ∃ sp, IsSl 1 v l.length (l.map Value.string) sp ∧ L = slA v (l.map Value.string) sp ∧ l.length ≤ 1099511627776 ∧ ∀ t ∈ l, t.size ≤ 140737488355328
inductive NdOwn : Nd → List Value → List Atom → Prop
  | mk {k : Nat} {s : ByteArray} {lit : Lt} {args temps : List ByteArray} {kids : List Nd} {p : Int} {lv : List Value} {av tv sv : Value} {rows : List (List Value)} {sp : List Value} {Ls : Nat → List Atom} {LL LA LT L : List Atom} (hsl : IsSl 11 sv kids.length rows.flatten sp) (hl : rows.length = kids.length) (h11 : ∀ r ∈ rows, r.length = 11)
      (hr : ∀ (i : Nat) x r, kids[i]? = some x → rows[i]? = some r → NdOwn x r (Ls i)) (wf : NdWf k s kids.length p) (hlt : LtOwn lit lv LL) (hav : TxOwn av args LA) (htv : TxOwn tv temps LT)
      (hL : L.Perm (LL ++ (LA ++ (LT ++ (slA sv rows.flatten sp ++ (List.range kids.length).flatMap Ls))))) : NdOwn (.mk k s lit args temps kids p) ([cv k, .string s] ++ lv ++ [av, tv, sv, vi p]) L
theorem LtOwn.rd {x : Lt} {vs : List Value} {L : List Atom} (h : LtOwn x vs L) : LtRd L x vs := by
  induction h with
  | @mk k n b t items sv rows sp Ls L hsl hl h5 hr wf hL ih =>
    have := lt_made (B := (List.range items.length).flatMap Ls) (k := k) (n := n) (b := b) (t := t) hsl hl h5 (fun i x r e1 e2 => (ih i x r e1 e2).more fun z hz => List.mem_flatMap.2 ⟨i, List.mem_range.2 (List.getElem?_eq_some_iff.1 e1).1, hz⟩) wf
    exact this.more fun z hz => hL.symm.subset hz
theorem TxOwn.rd {v : Value} {l : List ByteArray} {L : List Atom} (h : TxOwn v l L) : RdT L v l := by
  obtain ⟨sp, h1, rfl, h3, h4⟩ := h
  exact texts_made rfl h1 h3 h4
theorem NdOwn.rd {x : Nd} {vs : List Value} {L : List Atom} (h : NdOwn x vs L) : NdRd L x vs := by
  induction h with
  | @mk k s lit args temps kids p lv av tv sv rows sp Ls LL LA LT L hsl hl h11 hr wf hlt hav htv hL ih =>
    have := nd_made (B := LL ++ (LA ++ (LT ++ (List.range kids.length).flatMap Ls))) hsl hl h11 (fun i x r e1 e2 => (ih i x r e1 e2).more fun z hz => by
      simp only [List.mem_append]
      exact .inr (.inr (.inr (List.mem_flatMap.2 ⟨i, List.mem_range.2 (List.getElem?_eq_some_iff.1 e1).1, hz⟩)))) wf (hlt.rd.more fun z hz => by simp [hz]) (hav.rd.more fun z hz => by simp [hz]) (htv.rd.more fun z hz => by simp [hz])
    refine this.more fun z hz => hL.symm.subset ?_
    simp only [List.mem_append] at hz ⊢
    rcases hz with h | h | h | h | h
    · exact .inr (.inr (.inr (.inl h)))
    · exact .inl h
    · exact .inr (.inl h)
    · exact .inr (.inr (.inl h))
    · exact .inr (.inr (.inr (.inr h)))
theorem NdOwn.len {x : Nd} {vs : List Value} {L : List Atom} (h : NdOwn x vs L) : vs.length = 11 := h.rd.len
theorem NdOwn.perm {x : Nd} {vs : List Value} {L M : List Atom} (h : NdOwn x vs L) (hp : M.Perm L) : NdOwn x vs M := by
  cases h with
  | mk hsl hl h11 hr wf hlt hav htv hL => exact .mk hsl hl h11 hr wf hlt hav htv (hp.trans hL)
theorem holds_loc {w : World} {a b : Atom} (ha : a.holds w) (hb : b.holds w) (h : a.loc = b.loc) : a = b := by
  cases a with
  | cell i k v =>
    cases b with
    | cell j l u =>
      simp only [Atom.loc, Prod.mk.injEq, Option.some.injEq] at h
      obtain ⟨rfl, rfl⟩ := h
      obtain ⟨c, t, lo, hi, h1, h2, _⟩ := ha
      obtain ⟨c', t', lo', hi', h3, h4, _⟩ := hb
      rw [h1] at h3
      cases h3
      rw [h2] at h4
      cases h4
      rfl
    | obj j o => simp [Atom.loc] at h
  | obj i o =>
    cases b with
    | cell j l u => simp [Atom.loc] at h
    | obj j p =>
      simp only [Atom.loc, Prod.mk.injEq, and_true] at h
      subst h
      have h1 := ha.1
      rw [hb.1] at h1
      cases h1
      rfl
theorem sat_of_list {w : World} : ∀ L : List Atom, (∀ a ∈ L, a.holds w) → ∃ L', Sat w L' ∧ ∀ a ∈ L, a ∈ L' := by
  intro L
  induction L with
  | nil => intro _; exact ⟨[], ⟨by simp, by simp⟩, by simp⟩
  | cons x L ih =>
    intro h
    obtain ⟨L', h1, h2⟩ := ih (fun a ha => h a (by simp [ha]))
    by_cases hx : x.loc ∈ L'.map Atom.loc
    · obtain ⟨y, hy, e⟩ := List.mem_map.1 hx
      have : y = x := holds_loc (h1.holds y hy) (h x (by simp)) e
      subst this
      refine ⟨L', h1, fun a ha => ?_⟩
      rcases List.mem_cons.1 ha with rfl | ha
      · exact hy
      · exact h2 a ha
    · refine ⟨x :: L', ⟨fun a ha => ?_, by simp only [List.map_cons, List.nodup_cons]; exact ⟨hx, h1.nodup⟩⟩, fun a ha => ?_⟩
      · rcases List.mem_cons.1 ha with rfl | ha
        · exact h a (by simp)
        · exact h1.holds a ha
      · rcases List.mem_cons.1 ha with rfl | ha
        · simp
        · simp [h2 a ha]
def blockAtoms (w : World) (i : Nat) : List Atom := match w.heap[i]? with
  | some (.cells c _ (lo, hi)) => (List.range c.size).filterMap fun j => if lo ≤ j ∧ j < hi then none else (c[j]?).map fun v => .cell i j v
  | some o => [.obj i o]
  | none => []
theorem sat_all (w : World) : ∃ L, Sat w L ∧ ∀ a : Atom, a.holds w → a ∈ L := by
  obtain ⟨L, h1, h2⟩ := sat_of_list (w := w) ((List.range w.heap.size).flatMap (blockAtoms w)) (by
    intro a ha
    obtain ⟨i, _, ha⟩ := List.mem_flatMap.1 ha
    unfold blockAtoms at ha
    split at ha
    · rename_i c t lo hi hb
      obtain ⟨j, _, hj⟩ := List.mem_filterMap.1 ha
      split at hj
      · cases hj
      · rename_i hf
        simp only [Option.map_eq_some_iff] at hj
        obtain ⟨v, hv, rfl⟩ := hj
        exact ⟨c, t, lo, hi, hb, hv, hf⟩
    · rename_i o hne hb
      simp only [List.mem_singleton] at ha
      subst ha
      refine ⟨hb, ?_⟩
      cases o <;> first | rfl | (rename_i c t fr; exact absurd rfl (hne c t fr.1 fr.2))
    · cases ha)
  refine ⟨L, h1, fun a ha => h2 a ?_⟩
  cases a with
  | cell i k v =>
    obtain ⟨c, t, lo, hi, hb, hv, hf⟩ := ha
    have hi' : i < w.heap.size := by
      rcases Nat.lt_or_ge i w.heap.size with h | h
      · exact h
      · rw [Array.getElem?_eq_none h] at hb; cases hb
    refine List.mem_flatMap.2 ⟨i, List.mem_range.2 hi', ?_⟩
    unfold blockAtoms
    rw [hb]
    refine List.mem_filterMap.2 ⟨k, List.mem_range.2 (Array.getElem?_eq_some_iff.1 hv).1, ?_⟩
    rw [if_neg hf, hv]; rfl
  | obj i o =>
    obtain ⟨hb, hc⟩ := ha
    have hi' : i < w.heap.size := by
      rcases Nat.lt_or_ge i w.heap.size with h | h
      · exact h
      · rw [Array.getElem?_eq_none h] at hb; cases hb
    refine List.mem_flatMap.2 ⟨i, List.mem_range.2 hi', ?_⟩
    unfold blockAtoms
    rw [hb]
    cases o <;> first | (simp; done) | (simp [isCells] at hc)
theorem old_same {w w' : World} {L : List Atom} (hL : ∀ a : Atom, a.holds w → a ∈ L) (hs : Sat w' L) (hk : Keeps w w') : ∀ i, i < w.heap.size → w'.heap[i]? = w.heap[i]? := by
  intro i hi
  have hb : w.heap[i]? = some w.heap[i] := Array.getElem?_eq_getElem hi
  generalize w.heap[i] = o at hb
  rw [hb]
  by_cases hc : isCells o = false
  · exact (hs.holds _ (hL (.obj i o) ⟨hb, hc⟩)).1
  · cases o <;> first | (exact absurd rfl hc) | skip
    rename_i c t fr
    obtain ⟨lo, hi2⟩ := fr
    obtain ⟨c', h1, h2, h3⟩ := hk.cells i c t lo hi2 hb
    rw [h1]
    congr 2
    apply Array.ext h2
    intro j hj1 hj2
    by_cases hf : lo ≤ j ∧ j < hi2
    · have := h3 j hf
      rw [Array.getElem?_eq_getElem hj1, Array.getElem?_eq_getElem hj2] at this
      exact Option.some.inj this
    · obtain ⟨c2, t2, lo2, hi3, g1, g2, _⟩ := hs.holds _ (hL (.cell i j c[j]) ⟨c, t, lo, hi2, hb, Array.getElem?_eq_getElem hj2, hf⟩)
      rw [h1] at g1
      cases g1
      rw [Array.getElem?_eq_getElem hj1] at g2
      exact Option.some.inj g2
theorem mapM_mono {α β : Type} {f g : α → Option β} : ∀ {l : List α} {r : List β}, (∀ x ∈ l, ∀ y, f x = some y → g x = some y) → l.mapM f = some r → l.mapM g = some r := by
  intro l
  induction l with
  | nil => intro r _ h; simpa using h
  | cons a l ih =>
    intro r hfg h
    simp only [List.mapM_cons, Option.bind_eq_bind, Option.pure_def, Option.bind_eq_some_iff] at h ⊢
    obtain ⟨y, h1, ys, h2, h3⟩ := h
    exact ⟨y, hfg a (by simp) y h1, ys, ih (fun x hx => hfg x (by simp [hx])) h2, h3⟩
theorem cells?_same {w w' : World} (hold : ∀ i, i < w.heap.size → w'.heap[i]? = w.heap[i]?) {base n : Nat} {a : Addr} {cs : List Value} (h : w.cells? base a n = some cs) : w'.cells? base a n = some cs := by
  unfold World.cells? at h ⊢
  split at h
  · rename_i hb
    rw [if_pos hb]
    refine mapM_mono (fun i _ v hv => ?_) h
    have hlt := World.block_lt_of_cell? w _ hv
    unfold World.cell? at hv ⊢
    rw [hold _ hlt]; exact hv
  · cases h
section
variable {H : Type} {enc : TypeId × Value → H} {P : Program} {w w' : World} {base : Nat} {sp : Nat → Bool} {held : Bool}
structure Closed (P : Program) (ok : TypeId → Prop) : Prop where
  ptr : ∀ t e, ok t → P.underlying t = some (.pointer e) → ok e
  slice : ∀ t e, ok t → P.underlying t = some (.slice e) → ok e ∧ 0 < P.cellsOf e
  struct : ∀ t fs, ok t → P.underlying t = some (.struct fs) → ∀ f ∈ fs.toList, ok f.type
  array : ∀ t n e, ok t → P.underlying t = some (.array n e) → ok e
  map : ∀ t k e, ok t → P.underlying t = some (.map k e) → ok e
def closedB (P : Program) (S : List TypeId) : Bool := S.all fun t => match P.underlying t with
  | some (.pointer e) => S.contains e
  | some (.slice e) => S.contains e && decide (0 < P.cellsOf e)
  | some (.struct fs) => fs.toList.all fun f => S.contains f.type
  | some (.array _ e) => S.contains e
  | some (.map _ e) => S.contains e
  | _ => true
theorem closed_of {S : List TypeId} (h : closedB P S = true) : Closed P (· ∈ S) := by
  have h' := List.all_eq_true.1 h
  refine ⟨fun t e ht hu => ?_, fun t e ht hu => ?_, fun t fs ht hu f hf => ?_, fun t n e ht hu => ?_, fun t k e ht hu => ?_⟩
  all_goals have := h' t ht
  all_goals rw [hu] at this
  all_goals simp only [List.contains_iff_mem, Bool.and_eq_true, decide_eq_true_eq, List.all_eq_true] at this
  · exact this
  · exact this
  · exact this f hf
  · exact this
  · exact this
theorem trodStep_same {ok : TypeId → Prop} (hcl : Closed P ok) (hold : ∀ i, i < w.heap.size → w'.heap[i]? = w.heap[i]?) (hsp : ∀ b, b < w.heap.size → sp b = true)
    {r r' : TypeId → List Value → Option (DataW H × List MemPlace)} (hr : ∀ t cs x, ok t → r t cs = some x → r' t cs = some x) {t : TypeId} {cs : List Value} {x : DataW H × List MemPlace} (ht : ok t)
    (h : DataW.trodStep enc P w base (fun _ => true) true r t cs = some x) : DataW.trodStep enc P w' base sp true r' t cs = some x := by
  unfold DataW.trodStep at h
  split at h
  case h_1 hu => unfold DataW.trodStep; simp only [hu]; exact h
  case h_2 hu => unfold DataW.trodStep; simp only [hu]; exact h
  case h_3 hu => unfold DataW.trodStep; simp only [hu]; exact h
  case h_4 hu => unfold DataW.trodStep; simp only [hu]; exact h
  case h_5 hu => unfold DataW.trodStep; simp only [hu]; exact h
  case h_6 e a hu =>
    unfold DataW.trodStep; simp only [hu]
    simp only [Option.map_eq_some_iff, Option.bind_eq_some_iff] at h ⊢
    obtain ⟨y, ⟨cs', hc, hy⟩, hx⟩ := h
    exact ⟨y, ⟨cs', cells?_same hold hc, hr _ _ _ (hcl.ptr t e ht hu) hy⟩, hx⟩
  case h_7 hu => unfold DataW.trodStep; simp only [hu]; exact h
  case h_8 e a len cap hu =>
    unfold DataW.trodStep; simp only [hu]
    obtain ⟨hoe, hpos⟩ := hcl.slice t e ht hu
    simp only at h
    split at h
    · rename_i hb
      rw [if_pos hb]
      simp only [Option.map_eq_some_iff, Option.bind_eq_some_iff, if_true] at h ⊢
      obtain ⟨elems, he, rest, hrest, hx⟩ := h
      have one : ∀ i y, (w.cells? base (a.add (i * P.cellsOf e)) (P.cellsOf e)).bind (r e) = some y → (w'.cells? base (a.add (i * P.cellsOf e)) (P.cellsOf e)).bind (r' e) = some y := by
        intro i y hy
        simp only [Option.bind_eq_some_iff] at hy ⊢
        obtain ⟨cs', hc, hy⟩ := hy
        exact ⟨cs', cells?_same hold hc, hr _ _ _ hoe hy⟩
      have hb' : (cap - len = 0) ∨ a.block < w.heap.size := by
        rcases Nat.eq_zero_or_pos (cap - len) with h0 | h0
        · exact .inl h0
        · right
          have hne : rest ≠ [] := by
            intro hn
            subst hn
            have := congrArg List.length (show [] = _ from rfl : ([] : List Nat) = [])
            have hlen : ∀ {l : List Nat} {g : Nat → Option (DataW H × List MemPlace)} {q : List (DataW H × List MemPlace)}, l.mapM g = some q → q.length = l.length := by
              intro l g
              induction l with
              | nil => intro q hq; simp at hq; subst hq; rfl
              | cons a l ih =>
                intro q hq
                simp only [List.mapM_cons, Option.bind_eq_bind, Option.pure_def, Option.bind_eq_some_iff] at hq
                obtain ⟨y, _, ys, h2, h3⟩ := hq
                cases h3
                simp [ih h2]
            have := hlen hrest
            simp at this; omega
          obtain ⟨y, hy⟩ := List.exists_mem_of_ne_nil _ hne
          obtain ⟨j, _, hj⟩ := mapM_mem_of hrest y hy
          simp only [Option.bind_eq_some_iff] at hj
          obtain ⟨cs', hc, _⟩ := hj
          have := World.cells?_block hc hpos
          have e1 : (a.add ((len + j) * P.cellsOf e)).block = a.block := by unfold Addr.add; split <;> rfl
          rw [e1] at this
          exact this
      refine ⟨elems, mapM_mono (fun i _ y hy => one i y hy) he, rest, ?_, hx⟩
      rcases hb' with h0 | h0
      · rw [h0] at hrest ⊢
        simp at hrest ⊢
        subst hrest
        rfl
      · rw [hsp _ h0]
        exact mapM_mono (fun i _ y hy => one _ y hy) hrest
    · cases h
  case h_9 fs hu =>
    unfold DataW.trodStep; simp only [hu]
    split at h
    · rename_i hl
      rw [if_pos hl]
      simp only [Option.map_eq_some_iff] at h ⊢
      obtain ⟨xs, hx, e⟩ := h
      exact ⟨xs, mapM_mono (fun f hf y hy => hr _ _ _ (hcl.struct t fs ht hu f hf) hy) hx, e⟩
    · cases h
  case h_10 n e hu =>
    unfold DataW.trodStep; simp only [hu]
    split at h
    · rename_i hl
      rw [if_pos hl]
      simp only [Option.map_eq_some_iff] at h ⊢
      obtain ⟨xs, hx, e1⟩ := h
      exact ⟨xs, mapM_mono (fun f _ y hy => hr _ _ _ (hcl.array t n e ht hu) hy) hx, e1⟩
    · cases h
  case h_11 hu => unfold DataW.trodStep; simp only [hu]; exact h
  case h_12 u v hu =>
    unfold DataW.trodStep; simp only [hu]
    exact h
  case h_13 hu => unfold DataW.trodStep; simp only [hu]; exact h
  case h_14 k e b hu =>
    unfold DataW.trodStep; simp only [hu]
    split at h
    · rename_i es clock hb
      have hlt : b < w.heap.size := by
        rcases Nat.lt_or_ge b w.heap.size with h' | h'
        · exact h'
        · simp [Array.getElem?_eq_none h'] at hb
      rw [hold b hlt, hb]
      dsimp only
      split at h
      · rename_i hc
        rw [if_pos hc]
        simp only [Option.bind_eq_some_iff] at h ⊢
        obtain ⟨entries, he, hd⟩ := h
        refine ⟨entries, mapM_mono (fun x _ y hy => ?_) he, hd⟩
        obtain ⟨key, hk, hz'⟩ := Option.bind_eq_some_iff.1 hy
        refine Option.bind_eq_some_iff.2 ⟨key, hk, ?_⟩
        split at hz'
        · rename_i hf
          rw [if_pos hf]
          simp only [Option.map_eq_some_iff] at hz' ⊢
          obtain ⟨q, hq, e⟩ := hz'
          exact ⟨q, hr _ _ _ (hcl.map t k _ ht hu) hq, e⟩
        · cases hz'
      · cases h
    · cases h
  case h_15 hu => unfold DataW.trodStep; simp only [hu]; exact h
  case h_16 hu => unfold DataW.trodStep; simp only [hu]; exact h
  case h_17 hu => unfold DataW.trodStep; simp only [hu]; exact h
  case h_18 hu => unfold DataW.trodStep; simp only [hu]; exact h
  case h_19 hu => unfold DataW.trodStep; simp only [hu]; exact h
  case h_20 hu => unfold DataW.trodStep; simp only [hu]; exact h
  case h_21 => cases h
theorem trod_same {ok : TypeId → Prop} (hcl : Closed P ok) (hold : ∀ i, i < w.heap.size → w'.heap[i]? = w.heap[i]?) (hsp : ∀ b, b < w.heap.size → sp b = true) :
    ∀ (n : Nat) (t : TypeId) (cs : List Value) (x : DataW H × List MemPlace), ok t → DataW.trod enc P w base (fun _ => true) true n t cs = some x → DataW.trod enc P w' base sp true n t cs = some x := by
  intro n
  induction n with
  | zero => intro t cs x _ h; simp [DataW.trod] at h
  | succ n ih =>
    intro t cs x ht h
    rw [DataW.trod_step] at h ⊢
    exact trodStep_same hcl hold hsp ih ht h
theorem trodAll_same {ok : TypeId → Prop} (hcl : Closed P ok) (hold : ∀ i, i < w.heap.size → w'.heap[i]? = w.heap[i]?) (hsp : ∀ b, b < w.heap.size → sp b = true) :
    ∀ {ts : List TypeId} {vs : List Value} {ds : List (DataW H)} {ps : List MemPlace}, (∀ t ∈ ts, ok t) → DataW.TrodAll enc P w base (fun _ => true) true ts vs ds ps → DataW.TrodAll enc P w' base sp true ts vs ds ps
  | [], [], [], _, _, h => h
  | _ :: _, _ :: _, _ :: _, _, ho, ⟨p, q, ⟨n, h1⟩, h2, e⟩ => ⟨p, q, ⟨n, trod_same hcl hold hsp n _ _ _ (ho _ (by simp)) h1⟩, trodAll_same hcl hold hsp (fun t ht => ho t (by simp [ht])) h2, e⟩
end
open Go Go.ChangeShapes Go.WideShapes
section
variable {H : Type} {enc : TypeId × Value → H} {P : Program}
theorem glue {f : FuncId} {fn : Func} {s : ChangeSpec} {rt : TypeId} {apart fresh handsOn : Bool} {W : World} {args : List Value} {ds gs : List (DataW H)} {before : List MemPlace}
    (hvars : s.vars = []) (hrt : fn.resultTypes = #[rt]) (hb : P.underlying rt = some .bool) (hfn : s.fn H (ds ++ gs) = { results := [.lit (.bool true)], args := ds })
    {ok : TypeId → Prop} (hcl : Closed P ok) (hok : ∀ t ∈ fn.params.toList, ok t) (hW : DataW.Whole enc P fn.params.toList s.vars apart W args ds gs before)
    (hF : ∀ A, (∀ a : Atom, a.holds W → a ∈ A) → Fun P f args [A] fun v Post => v = .bool true ∧ Post = [A]) :
    Calls P f args.toArray W fun e W' => ∃ v, e = .returned v ∧ s.post enc P fn apart fresh handsOn false W args.toArray v W' := by
  obtain ⟨A, hA, hall⟩ := sat_all W
  have h := (hF A hall).2 [] W (by simpa using hA)
  refine h.mono ?_
  rintro e W' ⟨v, Post, rfl, ⟨rfl, rfl⟩, hs, hk⟩
  have hs' : Sat W' A := by simpa using hs
  have hold := old_same hall hs' hk
  refine ⟨_, rfl, ds, gs, before, [], before, [], by simpa using hW, ?_, ?_, ?_, ?_, fun h => by cases h⟩
  · rw [hrt, hfn]
    exact trodAll_mk1 ⟨1, by simp [DataW.trod, hb, Value.cells]⟩
  · obtain ⟨p, q, h1, h2, h3, _, _⟩ := hW
    rw [hvars] at h2
    obtain ⟨rfl, rfl⟩ := trodVars_none h2
    rw [hfn]
    simp only [List.append_nil] at h3
    subst h3
    simpa using trodAll_same hcl hold (fun b hb => by simpa using hb) hok h1
  · rw [hfn, hvars]; rfl
  · refine ⟨hk.os, hk.output, fun i hi => ?_⟩
    rw [hold i hi]
    have : W.heap[i]? = some W.heap[i] := Array.getElem?_eq_getElem hi
    generalize W.heap[i] = o at this
    rw [this]
    cases o <;> first | exact ⟨rfl, rfl, rfl, fun _ _ => rfl⟩ | exact .inr ⟨rfl, rfl⟩ | rfl
theorem holds_cell {W : World} {b o : Nat} {v : Value} (h : W.cell? ⟨b, o, none⟩ = some v) (hf : W.frozen? ⟨b, o, none⟩ = false) : (Atom.cell b o v).holds W := by
  unfold World.cell? at h
  unfold World.frozen? at hf
  split at h
  · rename_i c t fr hb
    obtain ⟨lo, hi⟩ := fr
    simp only at hb hf h
    rw [hb] at hf
    simp only [Bool.and_eq_false_iff, decide_eq_false_iff_not] at hf
    refine ⟨c, t, lo, hi, hb, by simpa using h, fun hh => ?_⟩
    rcases hf with hf | hf
    · exact hf hh.1
    · exact hf hh.2
  · cases h
end
open Go Go.ChangeShapes Go.WideShapes Go.Deep
inductive SC where
  | int (k : IntKind)
  | str
def SC.ok : SC → Value → Prop
  | .int k, v => ∃ n, v = .int k n ∧ (Lit.int k n).wf = true
  | .str, v => ∃ s : ByteArray, v = .string s ∧ s.size ≤ maxLen
section
variable {H : Type} {enc : TypeId × Value → H} {P : Program} {W : World} {base : Nat}
theorem add_addr (b o i : Nat) : (⟨b, o, none⟩ : Addr).add i = ⟨b, o + i, none⟩ := by
  unfold Addr.add
  split
  · rename_i h0
    have : i = 0 := by simpa using h0
    subst this; rfl
  · rfl
theorem choose_rows {α : Type} {Q : Nat → α → Prop} {n : Nat} (h : ∀ i, i < n → ∃ x, Q i x) : ∃ l : List α, l.length = n ∧ ∀ i x, l[i]? = some x → Q i x := by
  induction n with
  | zero => exact ⟨[], rfl, by simp⟩
  | succ n ih =>
    obtain ⟨l, h1, h2⟩ := ih (fun i hi => h i (by omega))
    obtain ⟨x, hx⟩ := h n (by omega)
    refine ⟨l ++ [x], by simp [h1], fun i y hy => ?_⟩
    by_cases hi : i < l.length
    · rw [List.getElem?_append_left hi] at hy; exact h2 i y hy
    · rw [List.getElem?_append_right (by omega)] at hy
      have : i = n := by
        have := (List.getElem?_eq_some_iff.1 hy).1
        simp at this; omega
      subst this
      simp [h1] at hy
      subst hy; exact hx
end
end Go.V

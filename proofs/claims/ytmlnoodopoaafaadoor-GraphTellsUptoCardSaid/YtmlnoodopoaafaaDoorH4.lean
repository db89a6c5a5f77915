/-
  What is met of a heap, in order: a line; what is reached; its form.
-/
import Derived.Test.YtmlnoodopoaafaaDoorH3
import Derived.Test.YtmlnoodopoaafaaDoorH2
import Derived.Test.YtmlnoodopoaafaaDoorV12
set_option linter.unusedSimpArgs false
set_option linter.unusedVariables false
namespace Go.V
open Go
def metM (l : List Nat) : List (Nat × Nat) := l.zipIdx.map fun q => (q.1, q.2 + 1)
theorem metM_keys (l : List Nat) : (metM l).map (·.1) = l := by
  unfold metM
  rw [List.map_map]
  have : ((fun x : Nat × Nat => x.1) ∘ fun q : Nat × Nat => (q.1, q.2 + 1)) = Prod.fst := rfl
  rw [this, List.zipIdx_map_fst]
theorem metM_snoc (l : List Nat) (o : Nat) : metM (l ++ [o]) = metM l ++ [(o, l.length + 1)] := by
  unfold metM; rw [List.zipIdx_append, List.map_append]; simp
theorem met_none {l : List Nat} {o : Nat} (h : o ∉ l) : mget o (metM l) = none := mget_none.2 (by rw [metM_keys]; exact h)
theorem met_some {l : List Nat} {o : Nat} (hn : l.Nodup) (h : o ∈ l) : mget o (metM l) = some (l.idxOf o + 1) := by
  refine mem_mget (by rw [metM_keys]; exact hn) ?_
  unfold metM
  refine List.mem_map.2 ⟨(o, l.idxOf o), ?_, rfl⟩
  rw [List.mem_zipIdx_iff_getElem?]
  rw [List.getElem?_eq_getElem (List.idxOf_lt_length_iff.2 h)]
  simp
def meetA (a : AH) (l : List Nat) (o : Nat) : List Nat := if o ∈ l then l else if (getO a.obs o).isSome then l ++ [o] else l
def kidsA (a : AH) (o : Nat) : List Nat := match getO a.obs o with | some b => b.body.take b.many | none => []
def rootsA (a : AH) : List Nat := a.sp ++ (a.cl ++ (a.stack ++ a.queue))
def goA (a : AH) : Nat → Nat → List Nat → List Nat
  | 0, _, l => l
  | n + 1, i, l => match l[i]? with
    | some o => goA a n (i + 1) ((kidsA a o).foldl (meetA a) l)
    | none => l
def rootedA (a : AH) : List Nat := (rootsA a).foldl (meetA a) []
def reachedA (a : AH) : List Nat := goA a (a.obs.length + 1) 0 (rootedA a)
theorem meetA_nodup {a : AH} {l : List Nat} {o : Nat} (h : l.Nodup) : (meetA a l o).Nodup := by
  unfold meetA
  split
  · exact h
  · rename_i hn
    split
    · rw [List.nodup_append]; exact ⟨h, by simp, fun x hx y hy e => by rw [List.mem_singleton.1 hy] at e; exact hn (e ▸ hx)⟩
    · exact h
theorem meetA_obs {a : AH} {l : List Nat} {o : Nat} (h : ∀ x ∈ l, (getO a.obs x).isSome = true) : ∀ x ∈ meetA a l o, (getO a.obs x).isSome = true := by
  unfold meetA
  split
  · exact h
  · split
    · rename_i hs
      intro x hx
      rcases List.mem_append.1 hx with hx | hx
      · exact h x hx
      · rw [List.mem_singleton.1 hx]; exact hs
    · exact h
theorem meets_nodup {a : AH} : ∀ {ks l : List Nat}, l.Nodup → (ks.foldl (meetA a) l).Nodup := by
  intro ks
  induction ks with
  | nil => intro l h; exact h
  | cons k ks ih => intro l h; exact ih (meetA_nodup h)
theorem meets_obs {a : AH} : ∀ {ks l : List Nat}, (∀ x ∈ l, (getO a.obs x).isSome = true) → ∀ x ∈ ks.foldl (meetA a) l, (getO a.obs x).isSome = true := by
  intro ks
  induction ks with
  | nil => intro l h; exact h
  | cons k ks ih => intro l h; exact ih (meetA_obs h)
theorem nodup_le : ∀ {l m : List Nat}, l.Nodup → (∀ x ∈ l, x ∈ m) → l.length ≤ m.length := by
  intro l
  induction l with
  | nil => intro m _ _; exact Nat.zero_le _
  | cons x r ih =>
    intro m hn h
    obtain ⟨h1, h2⟩ := List.nodup_cons.1 hn
    have hx := h x (by simp)
    have := ih (m := m.erase x) h2 (fun y hy => by
      have hne : y ≠ x := fun e => h1 (e ▸ hy)
      exact (List.mem_erase_of_ne hne).2 (h y (by simp [hy])))
    rw [List.length_erase_of_mem hx] at this
    have hp : 0 < m.length := List.length_pos_of_mem hx
    simp only [List.length_cons]; omega
theorem line_len {a : AH} {l : List Nat} (hn : l.Nodup) (h : ∀ x ∈ l, (getO a.obs x).isSome = true) : l.length ≤ a.obs.length := by
  have := nodup_le (m := a.obs.map Ob.oop) hn (fun x hx => by
    obtain ⟨b, hb⟩ := Option.isSome_iff_exists.1 (h x hx)
    obtain ⟨h1, h2⟩ := getO_some hb
    exact List.mem_map.2 ⟨b, h1, h2⟩)
  simpa using this
structure LN where
  l : List Nat
  lv : Value
  ls : List Value
  mb : Nat
  es : Array MapEntry
  mc : Nat
def LMem (q p : Nat) (n : LN) : SH := [cellsAt q 0 [ptr0 p, n.lv, .map (some n.mb)], slA n.lv (n.l.map uv) n.ls, [.obj n.mb (.map n.es n.mc)]]
def LA (q p : Nat) (n : LN) : List Atom := (LMem q p n).flatten
structure LOk (a : AH) (n : LN) : Prop where
  sl : IsSl 1 n.lv n.l.length (n.l.map uv) n.ls
  map : MapIs kU (fun i : Nat => vi i) n.es n.mc (metM n.l)
  nodup : n.l.Nodup
  obs : ∀ x ∈ n.l, (getO a.obs x).isSome = true
theorem la_out (q p : Nat) (n : LN) : Imp [LA q p n] (LMem q p n) := Imp.perm (by simp [LA])
theorem la_in (q p : Nat) (n : LN) : Imp (LMem q p n) [LA q p n] := Imp.perm (by simp [LA])
theorem IsSl.setU {sv : Value} {n i m : Nat} {xs : List Nat} {sp : List Value} (h : IsSl 1 sv n (xs.map uv) sp) : IsSl 1 sv n ((xs.set i m).map uv) sp := by
  generalize hy : xs.map uv = ys at h
  cases h with
  | mk h1 h2 h3 =>
    have hl : ((xs.set i m).map uv).length = ys.length := by rw [← hy]; simp
    exact .mk (by rw [hl]; exact h1) (by rw [hl]; exact h2) h3
  | nil =>
    have : xs = [] := by simpa using hy
    subst this
    exact .nil
theorem slA_mem {b o n c i u : Nat} {xs : List Nat} {sp : List Value} (h : xs[i]? = some u) : Atom.cell b (o + i) (uv u) ∈ slA (.slice (some ⟨b, o, none⟩) n c) (xs.map uv) sp := by
  have hi := (List.getElem?_eq_some_iff.1 h).1
  refine mem_cellsAt.2 ⟨i, uv u, ?_, rfl⟩
  rw [List.getElem?_append_left (by simpa using hi)]; simp [h]
section
variable {P : Program} {n : Nat} {rs : List RO} {Γ : Env} {H : SH} {Z : List PanicEntry → Env → SH → Prop} {K : Env → SH → Prop} {d : Option Nat}
theorem st_storeS {x y : Operand} {b o i k m nn c : Nat} {xs : List Nat} {sp : List Value} {R : SH} (hx : ev Γ x = some (.pointer (some ⟨b, k, none⟩))) (hy : ev Γ y = some (uv m)) (ht : Tk H (slA (.slice (some ⟨b, o, none⟩) nn c) (xs.map uv) sp) R) (hk : o + i = k) (hi : i < xs.length)
    (h : VO P n rs (putE d undef Γ) (slA (.slice (some ⟨b, o, none⟩) nn c) ((xs.set i m).map uv) sp :: R) Z K) : VO P n (⟨d, none, .store 1 x y⟩ :: rs) Γ H Z K := by
  refine VO.perm (H' := cellsAt b o (xs.map uv ++ sp) :: R) (by have := ht.perm; simp only [slA] at this; simpa using this) ?_
  refine st_store' (us := [uv m]) hx hy rfl rfl rfl (Upd.set1 (i := i) hk (by simp; omega)) ?_
  rw [List.set_append_left _ _ (by simpa using hi), ← List.map_set]; exact h
end
def IterA (P : Program) (g : Value) {α : Type} (enc : α → List Value) (Acc : List Atom → Prop) (Pre Post : SH) (Spec : List α → Prop) : Prop :=
  ∀ (y : Value) (J SP : List α → List Atom → Prop), (∀ c A, J c A → Acc A) →
    (∀ c x A, OkC Spec (c ++ [x]) → J c A → FunV P y (enc x) [A] (fun v B => (v = .bool true ∧ ∃ A', J (c ++ [x]) A' ∧ B = [A']) ∨ (v = .bool false ∧ ∃ B', SP (c ++ [x]) B' ∧ B = [B']))) →
    ∀ A, J [] A → FunV P g [y] (Pre ++ [A]) (fun v B => v = .tuple #[] ∧ ((∃ full A', Spec full ∧ J full A' ∧ B = Post ++ [A']) ∨ (∃ c B', OkC Spec c ∧ SP c B' ∧ B = Post ++ [B'])))
section
variable {P : Program} {n : Nat} {Γ : Env} {H : SH} {Q : Exit → Env → SH → Prop}
theorem VC.rangefA {α : Type} {enc : α → List Value} {g : Operand} {f : Nat} {first cap : Array Value} {ps : List Nat} {asg body : IC} {Pre Post R : SH} {Spec : List α → Prop} {Acc : List Atom → Prop} (I : List α → List Atom → Prop) (A0 : List Atom) (hg : ev Γ g = some (.func (.func f) first cap))
    (hit : IterA P (.func (.func f) first cap) enc Acc Pre Post Spec) (hmo : ∀ A B, Acc A → Acc (A ++ B)) (hacc : ∀ c A, I c A → Acc A) (hs : Spl H Pre R) (h0 : Imp R [A0]) (h1 : I [] A0) (hlen : ∀ x, (enc x).length = ps.length)
    (round : ∀ c x A, OkC Spec (c ++ [x]) → I c A → VC P n asg (bindE ps (enc x) Γ) [A] (fun e Γ' H' => e = .normal ∧ VC P n body Γ' H' (fun e _ H'' => match e with | .normal => ∃ A', I (c ++ [x]) A' ∧ Imp H'' [A'] | .ret => Q .ret Γ (Post ++ H'') | .exit id => Q (.exit id) Γ (Post ++ H'') | _ => False)))
    (done : ∀ full A, Spec full → I full A → Q .normal Γ (Post ++ [A])) : VC P n (.rangef g ps asg body) Γ H Q := by
  intro ρ kp od code hl a w F QQ hr ha hsat hh
  obtain ⟨qs, A, B, rfl, rfl, hlt, h1', h2⟩ := lowC_inv hl
  refine wpIn_rangeFunc (fun fnid _ => ?_)
  obtain ⟨l, db, X, w1, he, hs1, hk1⟩ := enter_spec (P := P) (fnid := fnid) (tmps := a.tmps) (qs := qs) (A := A) (B := B) hr hsat
  have hyield := hit (.func (.yield l) #[] #[]) (fun c A' => ∃ A1, I c A1 ∧ A' = A1 ++ [.obj l (.loop (lrec fnid a.tmps qs A B db .ready none))])
    (fun c B' => ∃ H'', (Q .ret Γ (Post ++ H'') ∧ B' = H''.flatten ++ [.obj l (.loop (lrec fnid a.tmps qs A B db .done (some .ret)))]) ∨ (∃ id, Q (.exit id) Γ (Post ++ H'') ∧ B' = H''.flatten ++ [.obj l (.loop (lrec fnid a.tmps qs A B db .done (some (.exit id))))]))
    (fun c A' hA => by obtain ⟨A1, hI, rfl⟩ := hA; exact hmo _ _ (hacc c A1 hI))
    (fun c x A' hc hA => by
      obtain ⟨A1, hI, rfl⟩ := hA
      have hx := round_spec (P := P) (n := n) (Γ := Γ) (fn := fnid) (tmps := a.tmps) (db := db) (l := l) (vs := enc x) (I := A1) (Qb := fun e H'' => match e with | .normal => ∃ A', I (c ++ [x]) A' ∧ Imp H'' [A'] | .ret => Q .ret Γ (Post ++ H'') | .exit id => Q (.exit id) Γ (Post ++ H'') | _ => False)
        hlt (hlen x).symm ⟨ha.size, ha.slots⟩ h1' h2 ((round c x A1 hc hI).mono (fun e Γ' H' ⟨q1, q2⟩ => ⟨q1, q2.mono (fun e _ H'' q => by cases e <;> exact q)⟩))
      refine hx.conv (R := []) (by simp [Spl]) ?_
      rintro v Bk (⟨rfl, H'', ⟨A2, hI2, q⟩, rfl⟩ | ⟨rfl, H'', q⟩)
      · refine ⟨_, .inl ⟨rfl, _, ⟨A2, hI2, rfl⟩, rfl⟩, ?_⟩
        obtain ⟨R', hR'⟩ := q
        refine ⟨R', ?_⟩
        simp only [Spl, List.flatten_cons, List.flatten_nil, List.append_nil] at hR' ⊢
        rw [List.append_assoc]
        refine (List.Perm.append_right _ hR').trans ?_
        rw [List.append_assoc]
        exact List.Perm.append_left _ List.perm_append_comm
      · rcases q with ⟨q, rfl⟩ | ⟨id, q, rfl⟩
        · exact ⟨_, .inr ⟨rfl, _, ⟨H'', .inl ⟨q, rfl⟩⟩, rfl⟩, by rw [List.append_nil]; exact Imp.refl _⟩
        · exact ⟨_, .inr ⟨rfl, _, ⟨H'', .inr ⟨id, q, rfl⟩⟩, rfl⟩, by rw [List.append_nil]; exact Imp.refl _⟩)
    _ ⟨A0, h1, rfl⟩
  have hs2 : Sat w1 ((Pre ++ [A0 ++ [Atom.obj l (.loop (lrec fnid a.tmps qs A B db .ready none))]]).flatten ++ (F ++ marks X)) := by
    have p1 : (Atom.obj l (.loop (lrec fnid a.tmps qs A B db .ready none)) :: (H.flatten ++ (F ++ marks X))).Perm (R.flatten ++ (Pre.flatten ++ (Atom.obj l (.loop (lrec fnid a.tmps qs A B db .ready none)) :: (F ++ marks X)))) := by
      refine List.perm_middle.symm.trans ?_
      refine (List.Perm.append_right _ hs).trans ?_
      rw [List.append_assoc]
      exact perm_lead _ _ _
    have h3 := (hs1.perm p1).imp h0
    refine h3.perm ?_
    simp only [List.flatten_append, List.flatten_cons, List.flatten_nil, List.append_nil, List.append_assoc, List.singleton_append]
    exact perm_lead _ _ _
  have hcall := hyield (F ++ marks X) w1 hs2
  obtain ⟨hcallable, hcalls⟩ := hcall
  refine ⟨l, X.map coll, w1, { target := .fn (.func f) cap, args := first ++ [Value.func (.yield l) #[] #[]].toArray }, w1, f, first ++ [Value.func (.yield l) #[] #[]].toArray ++ cap, w1, he, ?_, fun _ _ => trivial, ?_, ?_, ?_⟩
  · have hev : a.eval g = .func (.func f) first cap := ha.ev hg
    simp only [resolve, hev, Deferred.ofValue]
    simp [Act.eval]
  · simp only [invoke]
    rw [run_callFunc hcallable]
  · intro h; simp at h
  refine callsIn_v (hcalls.mono ?_)
  · rintro e w3 ⟨v, Pst, rfl, ⟨rfl, hp⟩, hs3, hk3⟩
    have ha' : Agree n Γ { a with defers := X.map coll ++ a.defers } := ⟨ha.size, ha.slots⟩
    rcases hp with ⟨full, _, hf, ⟨A1, hI, rfl⟩, rfl⟩ | ⟨c, B', _, ⟨H'', hj⟩, rfl⟩
    · obtain ⟨w4, e1, e2, e3'⟩ := end_spec (P := P) (L := Post.flatten ++ A1) (st := .ready) (pe := none) (by simp) (by simpa [List.append_assoc] using hs3)
      have e3 := hk1.trans (hk3.trans e3')
      exact ⟨none, w4, e1, hh _ _ _ _ _ X (done full A1 hf hI) ha' rfl (by simpa using e2) e3⟩
    · rcases hj with ⟨q, rfl⟩ | ⟨id, q, rfl⟩
      · obtain ⟨w4, e1, e2, e3'⟩ := end_spec (P := P) (L := Post.flatten ++ H''.flatten) (st := .done) (pe := some .ret) (by simp) (by simpa [List.append_assoc] using hs3)
        have e3 := hk1.trans (hk3.trans e3')
        exact ⟨_, w4, e1, wpIn_ret (hh _ _ _ _ _ X q ha' rfl (by simpa using e2) e3)⟩
      · obtain ⟨w4, e1, e2, e3'⟩ := end_spec (P := P) (L := Post.flatten ++ H''.flatten) (st := .done) (pe := some (.exit id)) (by simp) (by simpa [List.append_assoc] using hs3)
        have e3 := hk1.trans (hk3.trans e3')
        exact ⟨_, w4, e1, wpIn_exit (hh _ _ _ _ _ X q ha' rfl (by simpa using e2) e3)⟩
end
def SrcU (L : List Atom) (v : Value) (ys : List Nat) : Prop := ∃ a c, v = .slice a ys.length c ∧ ((ys = [] ∧ a = none) ∨ ∃ b o, a = some ⟨b, o, none⟩ ∧ ∀ x ∈ cellsAt b o (ys.map uv), x ∈ L)
theorem IsSl.srcU {v : Value} {ys : List Nat} {sp : List Value} {L : List Atom} (h : IsSl 1 v ys.length (ys.map uv) sp) (hm : ∀ x ∈ slA v (ys.map uv) sp, x ∈ L) : SrcU L v ys := by
  generalize hl : ys.length = n at h
  generalize hy : ys.map uv = us at h hm
  cases h with
  | @mk b o _ c _ _ h1 h2 h3 =>
    refine ⟨_, c, by rw [hl], .inr ⟨b, o, rfl, fun x hx => hm x ?_⟩⟩
    simp only [slA, cellsAt_append, List.mem_append]
    rw [hy] at hx
    exact .inl hx
  | nil => exact ⟨none, 0, by rw [hl], .inl ⟨by simpa using hy, rfl⟩⟩
theorem SrcU.src {L : List Atom} {v : Value} {ys : List Nat} (h : SrcU L v ys) : seqLen v = some ys.length ∧ Src L 1 ys.length (ys.map uv) v := by
  obtain ⟨a, c, rfl, h⟩ := h
  refine ⟨rfl, ?_⟩
  rcases h with ⟨rfl, rfl⟩ | ⟨b, o, rfl, hm⟩
  · rfl
  · exact ⟨by simp, hm⟩
section
variable {P : Program} {n : Nat} {rs : List RO} {Γ : Env} {H : SH} {Z : List PanicEntry → Env → SH → Prop} {K : Env → SH → Prop} {d : Option Nat}
theorem st_appU {t : TypeId} {s x : Operand} {sv xv : Value} {xs ys : List Nat} {sp : List Value} {R : SH} (hs : ev Γ s = some sv) (hx : ev Γ x = some xv) (hsl : IsSl 1 sv xs.length (xs.map uv) sp) (ht : Tk H (slA sv (xs.map uv) sp) R) (hy : SrcU R.flatten xv ys) (hroom : xs.length + ys.length ≤ 4398046511104)
    (h : ∀ sv' sp', IsSl 1 sv' (xs ++ ys).length ((xs ++ ys).map uv) sp' → VO P n rs (putE d sv' Γ) (slA sv' ((xs ++ ys).map uv) sp' :: R) Z K) : VO P n (⟨d, none, .append t 1 8 [.int .u64 0] s x⟩ :: rs) Γ H Z K := by
  obtain ⟨h1, h2⟩ := hy.src
  refine st_append (k := xs.length) (m := ys.length) (xs := xs.map uv) (sp := sp) (ys := ys.map uv) hs hx hsl ht h1 h2 (by simp) ?_ rfl (by omega) (by omega) (fun sv' sp' hsl' => ?_)
  · rw [List.all_map]; simp [oneCell]
  · rw [← List.map_append] at hsl' ⊢
    exact h sv' sp' (by rw [List.length_append]; exact hsl')
end
theorem srcU_lit {L : List Atom} {b : Nat} {ys : List Nat} (h : ∀ x ∈ cellsAt b 0 (ys.map uv), x ∈ L) : SrcU L (.slice (some ⟨b, 0, none⟩) ys.length ys.length) ys := ⟨_, _, rfl, .inr ⟨b, 0, rfl, h⟩⟩
def plainH (h : Hd) : Hd := { h with age := 0, marked := false, noted := false }
theorem plainH_may {h : Hd} (m : h.May) : (plainH h).May := ⟨m.cls, m.hash, Nat.zero_le _, m.slots, m.spare, m.fmt, m.plain, m.eph, m.meth, m.some⟩
end Go.V

/-
  The orders that a region's edges allow; a region that draws its order, walked in the orders that matter.
-/
import Derived.Test.YtmnmandpdadedaaGreatDoorV3
set_option linter.unusedSimpArgs false
set_option linter.unusedVariables false
namespace Go.V
open Go
def Bef (l : List Nat) (x y : Nat) : Prop := x ∈ l ∧ y ∈ l ∧ l.idxOf x < l.idxOf y
theorem idxOf_ne {a x : Nat} {l : List Nat} (h : a ≠ x) : List.idxOf x (a :: l) = List.idxOf x l + 1 := by
  rw [List.idxOf_cons, show (a == x) = false from beq_eq_false_iff_ne.2 h]; rfl
theorem Bef.trans {l : List Nat} {x y z : Nat} (h : Bef l x y) (k : Bef l y z) : Bef l x z := ⟨h.1, k.2.1, Nat.lt_trans h.2.2 k.2.2⟩
theorem Bef.sub {x y : Nat} : ∀ {l : List Nat}, Bef l x y → [x, y].Sublist l := by
  intro l
  induction l with
  | nil => rintro ⟨h, _⟩; simp at h
  | cons a l ih =>
    rintro ⟨h1, h2, h3⟩
    by_cases ex : a = x
    · subst ex
      refine List.Sublist.cons_cons _ (List.singleton_sublist.2 ?_)
      rcases List.mem_cons.1 h2 with rfl | h
      · simp at h3
      · exact h
    · refine List.Sublist.cons _ (ih ?_)
      have hx : x ∈ l := by rcases List.mem_cons.1 h1 with rfl | h; exact absurd rfl ex; exact h
      have ey : a ≠ y := by
        rintro rfl
        simp [List.idxOf_cons] at h3
      have hy : y ∈ l := by rcases List.mem_cons.1 h2 with rfl | h; exact absurd rfl ey; exact h
      refine ⟨hx, hy, ?_⟩
      rw [idxOf_ne ex, idxOf_ne ey] at h3
      omega
theorem sub_bef {x y : Nat} : ∀ {l : List Nat}, l.Nodup → [x, y].Sublist l → Bef l x y := by
  intro l
  induction l with
  | nil => intro _ h; cases h
  | cons a l ih =>
    intro hn h
    have hn' := List.nodup_cons.1 hn
    cases h with
    | cons _ h =>
      obtain ⟨h1, h2, h3⟩ := ih hn'.2 h
      have ex : a ≠ x := by rintro rfl; exact hn'.1 h1
      have ey : a ≠ y := by rintro rfl; exact hn'.1 h2
      exact ⟨by simp [h1], by simp [h2], by rw [idxOf_ne ex, idxOf_ne ey]; omega⟩
    | cons_cons _ h =>
      have hy : y ∈ l := List.singleton_sublist.1 h
      have ey : x ≠ y := by rintro rfl; exact hn'.1 hy
      exact ⟨by simp, by simp [hy], by rw [idxOf_ne ey]; simp⟩
section
variable {ops : Array Oper}
def sched (ops : Array Oper) (fuel t : Nat) (listed : Array Bool) : List Nat := Region.linearise.go .any ops fuel t listed []
theorem sched_succ (fuel t : Nat) (listed : Array Bool) : sched ops (fuel + 1) t listed =
    match (Region.ready .any ops listed)[t % (Region.ready .any ops listed).length]? with
    | some i => i :: sched ops fuel (t / (Region.ready .any ops listed).length) (listed.setIfInBounds i true)
    | none => [] := by
  unfold sched
  simp only [Region.linearise.go]
  change (match (Region.ready .any ops listed)[t % (Region.ready .any ops listed).length]? with
      | some i => Region.linearise.go .any ops fuel (t / (Region.ready .any ops listed).length) (listed.setIfInBounds i true) [i]
      | none => [].reverse) = _
  split
  · rw [linearise_go_acc]; simp
  · simp
def backEdges (ops : Array Oper) : Bool := ops.toList.zipIdx.all fun (o, i) => o.after.all fun e => !Region.binds .any e || e.on < i
theorem backEdges_spec (h : backEdges ops = true) {i : Nat} {o : Oper} (ho : ops[i]? = some o) {e : Edge} (he : e ∈ o.after) (hb : Region.binds .any e = true) : e.on < i := by
  simp only [backEdges, List.all_eq_true] at h
  have hm : (o, i) ∈ ops.toList.zipIdx := by
    rw [List.mem_zipIdx_iff_getElem?]; simpa using ho
  have h2 := Array.all_eq_true_iff_forall_mem.1 (h _ hm) e he
  simpa [hb] using h2
def unl (ops : Array Oper) (listed : Array Bool) : List Nat := (List.range ops.size).filter fun i => !listed.getD i true
theorem ready_ne (h : backEdges ops = true) {listed : Array Bool} (hs : listed.size = ops.size) (hu : unl ops listed ≠ []) : Region.ready .any ops listed ≠ [] := by
  obtain ⟨i, hi, hmin⟩ : ∃ i, i ∈ unl ops listed ∧ ∀ j, j < i → j ∉ unl ops listed := by
    obtain ⟨k, hk⟩ := List.exists_mem_of_ne_nil _ hu
    have : ∀ n, ∀ k, k ≤ n → k ∈ unl ops listed → ∃ i, i ∈ unl ops listed ∧ ∀ j, j < i → j ∉ unl ops listed := by
      intro n
      induction n with
      | zero => intro k hkn hk; exact ⟨k, hk, fun j hj => by omega⟩
      | succ n ih =>
        intro k hkn hk
        by_cases hex : ∃ j, j < k ∧ j ∈ unl ops listed
        · obtain ⟨j, hj, hj'⟩ := hex; exact ih j (by omega) hj'
        · exact ⟨k, hk, fun j hj hj' => hex ⟨j, hj, hj'⟩⟩
    exact this k k (Nat.le_refl _) hk
  intro he
  have : i ∈ Region.ready .any ops listed := by
    simp only [unl, List.mem_filter, List.mem_range, Bool.not_eq_true'] at hi
    rw [mem_ready]
    obtain ⟨o, ho⟩ : ∃ o, ops[i]? = some o := ⟨ops[i], by simp [hi.1]⟩
    refine ⟨hi.2, o, ho, fun e hee hb => ?_⟩
    have hlt := backEdges_spec h ho hee hb
    have := hmin e.on hlt
    simp only [unl, List.mem_filter, List.mem_range, Bool.not_eq_true', not_and, Bool.not_eq_false] at this
    have h2 := this (by omega)
    have hlt2 : e.on < listed.size := by omega
    simpa [hlt2] using h2
  rw [he] at this; cases this
theorem sched_spec (hb : backEdges ops = true) : ∀ (fuel t : Nat) (listed : Array Bool), listed.size = ops.size → (unl ops listed).length ≤ fuel →
    (sched ops fuel t listed).Nodup ∧ (∀ i, i ∈ sched ops fuel t listed ↔ i ∈ unl ops listed) ∧
    ∀ i ∈ sched ops fuel t listed, ∀ o, ops[i]? = some o → ∀ e ∈ o.after, Region.binds .any e = true → listed.getD e.on false = true ∨ Bef (sched ops fuel t listed) e.on i := by
  intro fuel
  induction fuel with
  | zero =>
    intro t listed hs hl
    have hnil : unl ops listed = [] := List.length_eq_zero_iff.1 (by omega)
    have : sched ops 0 t listed = [] := by simp [sched, Region.linearise.go]
    rw [this, hnil]; simp
  | succ fuel ih =>
    intro t listed hs hl
    rw [sched_succ]
    cases hr : (Region.ready .any ops listed)[t % (Region.ready .any ops listed).length]? with
    | none =>
      have hnil : unl ops listed = [] := by
        by_cases hu : unl ops listed = []
        · exact hu
        · have hne := ready_ne hb hs hu
          have hlt : t % (Region.ready .any ops listed).length < (Region.ready .any ops listed).length := Nat.mod_lt _ (List.length_pos_iff.2 hne)
          rw [List.getElem?_eq_getElem hlt] at hr; cases hr
      simp [hnil]
    | some i =>
      have hi := List.mem_of_getElem? hr
      obtain ⟨hi0, o, ho, hedge⟩ := mem_ready.1 hi
      have hin : i < ops.size := (Array.getElem?_eq_some_iff.1 ho).1
      have hiu : i ∈ unl ops listed := by simp only [unl, List.mem_filter, List.mem_range, Bool.not_eq_true']; exact ⟨hin, hi0⟩
      have hset : ∀ j, (listed.setIfInBounds i true).getD j true = if j = i then true else listed.getD j true := by
        intro j
        by_cases e : j = i
        · subst e; simp [hs, hin]
        · rw [getD_set_ne true (Ne.symm e)]; simp [e]
      have hmem : ∀ j, j ∈ unl ops (listed.setIfInBounds i true) ↔ j ∈ unl ops listed ∧ j ≠ i := by
        intro j
        simp only [unl, List.mem_filter, List.mem_range, Bool.not_eq_true', hset]
        by_cases e : j = i <;> simp [e]
      have hlen : (unl ops (listed.setIfInBounds i true)).length ≤ fuel := by
        have hp : (unl ops (listed.setIfInBounds i true)).Perm ((unl ops listed).erase i) := by
          have nd : (unl ops listed).Nodup := List.nodup_range.filter _
          refine (List.perm_ext_iff_of_nodup (List.nodup_range.filter _) (nd.erase i)).2 (fun j => ?_)
          rw [nd.mem_erase_iff]
          rw [show (j ∈ List.filter (fun k => !(listed.setIfInBounds i true).getD k true) (List.range ops.size)) ↔ _ from hmem j]
          exact And.comm
        have := hp.length_eq
        rw [List.length_erase_of_mem hiu] at this
        have hpos : 0 < (unl ops listed).length := List.length_pos_of_mem hiu
        omega
      obtain ⟨n1, n2, n3⟩ := ih (t / (Region.ready .any ops listed).length) (listed.setIfInBounds i true) (by simp [hs]) hlen
      have hnot : i ∉ sched ops fuel (t / (Region.ready .any ops listed).length) (listed.setIfInBounds i true) := fun h => ((hmem i).1 ((n2 i).1 h)).2 rfl
      refine ⟨List.nodup_cons.2 ⟨hnot, n1⟩, fun j => ?_, fun j hj o' ho' e he hbe => ?_⟩
      · rw [List.mem_cons, n2, hmem]
        constructor
        · rintro (rfl | h); exact hiu; exact h.1
        · intro h; by_cases e : j = i; exact .inl e; exact .inr ⟨h, e⟩
      · rcases List.mem_cons.1 hj with rfl | hj'
        · rw [ho] at ho'; cases ho'
          exact .inl (hedge e he hbe)
        · have hji : i ≠ j := fun e => hnot (e ▸ hj')
          rcases n3 j hj' o' ho' e he hbe with h | h
          · by_cases ei : e.on = i
            · right
              exact ⟨by simp [ei], by simp [hj'], by rw [ei, idxOf_ne hji]; simp⟩
            · left
              rw [getD_set_ne false (Ne.symm ei)] at h; exact h
          · right
            have ei : i ≠ e.on := fun e' => hnot (e' ▸ h.1)
            exact ⟨by simp [h.1], by simp [hj'], by rw [idxOf_ne ei, idxOf_ne hji]; have := h.2.2; omega⟩
inductive Anc (ops : Array Oper) : Nat → Nat → Prop where
  | edge {i : Nat} {o : Oper} {e : Edge} : ops[i]? = some o → e ∈ o.after → Region.binds .any e = true → Anc ops e.on i
  | step {i j : Nat} {o : Oper} {e : Edge} : ops[i]? = some o → e ∈ o.after → Region.binds .any e = true → Anc ops j e.on → Anc ops j i
def addNew (s : List Nat) (l : List Nat) : List Nat := l.foldl (fun s x => if s.contains x then s else x :: s) s
theorem mem_addNew {x : Nat} : ∀ {l s : List Nat}, x ∈ addNew s l → x ∈ s ∨ x ∈ l := by
  intro l
  induction l with
  | nil => intro s h; exact .inl h
  | cons a l ih =>
    intro s h
    simp only [addNew, List.foldl_cons] at h
    rcases ih (s := if s.contains a then s else a :: s) h with h | h
    · split at h
      · exact .inl h
      · rcases List.mem_cons.1 h with rfl | h
        · exact .inr (by simp)
        · exact .inl h
    · exact .inr (by simp [h])
def ancStep (acc : List (List Nat)) (o : Oper) : List Nat :=
  o.after.toList.foldl (fun s e => if Region.binds .any e then addNew (addNew s [e.on]) (acc.getD e.on []) else s) []
def ancGo : List Oper → List (List Nat) → List (List Nat)
  | [], acc => acc
  | o :: r, acc => ancGo r (acc ++ [ancStep acc o])
def ancs (ops : Array Oper) : List (List Nat) := ancGo ops.toList []
theorem ancStep_sound {acc : List (List Nat)} {k : Nat} {o : Oper} (ho : ops[k]? = some o) (hacc : ∀ j x, x ∈ acc.getD j [] → Anc ops x j) {x : Nat} (hx : x ∈ ancStep acc o) : Anc ops x k := by
  unfold ancStep at hx
  have : ∀ (l : List Edge) (s : List Nat), (∀ e ∈ l, e ∈ o.after) → (∀ x ∈ s, Anc ops x k) → ∀ x ∈ l.foldl (fun s e => if Region.binds .any e then addNew (addNew s [e.on]) (acc.getD e.on []) else s) s, Anc ops x k := by
    intro l
    induction l with
    | nil => intro s _ hs x hx; exact hs x hx
    | cons e l ih =>
      intro s hl hs x hx
      simp only [List.foldl_cons] at hx
      refine ih _ (fun e he => hl e (by simp [he])) (fun y hy => ?_) x hx
      split at hy
      · rename_i hb
        rcases mem_addNew hy with hy | hy
        · rcases mem_addNew hy with hy | hy
          · exact hs y hy
          · rw [List.mem_singleton.1 hy]; exact .edge ho (hl e (by simp)) hb
        · exact .step ho (hl e (by simp)) hb (hacc _ _ hy)
      · exact hs y hy
  exact this o.after.toList [] (fun e he => by simpa using he) (fun _ h => by cases h) x hx
theorem ancGo_sound : ∀ (l : List Oper) (acc : List (List Nat)), (∀ j, l[j]? = ops[acc.length + j]?) → (∀ j x, x ∈ acc.getD j [] → Anc ops x j) → ∀ j x, x ∈ (ancGo l acc).getD j [] → Anc ops x j := by
  intro l
  induction l with
  | nil => intro acc _ h; exact h
  | cons o l ih =>
    intro acc hl hacc
    refine ih (acc ++ [ancStep acc o]) (fun j => ?_) (fun j x hx => ?_)
    · have := hl (j + 1); simp only [List.getElem?_cons_succ] at this; rw [this]; simp; congr 1; omega
    · by_cases e : j < acc.length
      · rw [List.getD_eq_getElem?_getD, List.getElem?_append_left e, ← List.getD_eq_getElem?_getD] at hx; exact hacc j x hx
      · rw [List.getD_eq_getElem?_getD, List.getElem?_append_right (by omega)] at hx
        by_cases e2 : j - acc.length = 0
        · rw [e2] at hx
          have hj : j = acc.length := by omega
          subst hj
          have h0 := hl 0
          simp at h0 hx
          exact ancStep_sound h0.symm hacc hx
        · have : ([ancStep acc o] : List (List Nat))[j - acc.length]? = none := by
            rw [List.getElem?_eq_none]; simp; omega
          rw [this] at hx; simp at hx
theorem ancs_sound {x j : Nat} (h : x ∈ (ancs ops).getD j []) : Anc ops x j := ancGo_sound ops.toList [] (by simp) (by simp) j x h
theorem anc_bef (hb : backEdges ops = true) {fuel t : Nat} (hf : ops.size ≤ fuel) {x y : Nat} (h : Anc ops x y) : y < ops.size → Bef (sched ops fuel t (Array.replicate ops.size false)) x y := by
  have hu : unl ops (Array.replicate ops.size false) = List.range ops.size := by
    simp only [unl]
    refine List.filter_eq_self.2 (fun i hi => ?_)
    have := List.mem_range.1 hi
    simp [this]
  obtain ⟨s1, s2, s3⟩ := sched_spec hb fuel t (Array.replicate ops.size false) (by simp) (by rw [hu]; simpa using hf)
  have edge : ∀ {i : Nat} {o : Oper} {e : Edge}, ops[i]? = some o → e ∈ o.after → Region.binds .any e = true → Bef (sched ops fuel t (Array.replicate ops.size false)) e.on i := by
    intro i o e ho he hbe
    have hi : i < ops.size := (Array.getElem?_eq_some_iff.1 ho).1
    rcases s3 i ((s2 i).2 (by rw [hu]; simpa using hi)) o ho e he hbe with h | h
    · have : e.on < ops.size := Nat.lt_trans (backEdges_spec hb ho he hbe) hi
      simp [this] at h
    · exact h
  induction h with
  | edge ho he hbe => intro _; exact edge ho he hbe
  | step ho he hbe _ ih =>
    intro hi
    exact (ih (Nat.lt_trans (backEdges_spec hb ho he hbe) hi)).trans (edge ho he hbe)
def insAll (x : Nat) : List Nat → List (List Nat)
  | [] => [[x]]
  | y :: r => (x :: y :: r) :: (insAll x r).map (y :: ·)
def perms : List Nat → List (List Nat)
  | [] => [[]]
  | x :: r => (perms r).flatMap (insAll x)
theorem mem_insAll {x : Nat} (l1 l2 : List Nat) : l1 ++ x :: l2 ∈ insAll x (l1 ++ l2) := by
  induction l1 with
  | nil => cases l2 <;> simp [insAll]
  | cons a l1 ih => simp only [List.cons_append, insAll, List.mem_cons, List.mem_map]; right; exact ⟨_, ih, rfl⟩
theorem mem_perms : ∀ {d s : List Nat}, s.Perm d → s ∈ perms d := by
  intro d
  induction d with
  | nil => intro s h; rw [List.perm_nil.1 h]; simp [perms]
  | cons x d ih =>
    intro s h
    have hx : x ∈ s := h.mem_iff.2 (by simp)
    obtain ⟨l1, l2, rfl⟩ := List.append_of_mem hx
    have := ih (List.Perm.cons_inv ((List.perm_middle (a := x) (l₁ := l1) (l₂ := l2)).symm.trans h))
    simp only [perms, List.mem_flatMap]
    exact ⟨_, this, mem_insAll l1 l2⟩
def befB (x y : Nat) : List Nat → Bool
  | [] => false
  | z :: r => if z = x then r.contains y else befB x y r
theorem befB_sub {x y : Nat} : ∀ {l : List Nat}, befB x y l = true → [x, y].Sublist l := by
  intro l
  induction l with
  | nil => intro h; cases h
  | cons z r ih =>
    intro h
    simp only [befB] at h
    split at h
    · rename_i e; subst e; exact List.Sublist.cons_cons _ (List.singleton_sublist.2 (by simpa using h))
    · exact List.Sublist.cons _ (ih h)
def pairsAll (p : Nat → Nat → Bool) : List Nat → Bool
  | [] => true
  | x :: r => r.all (p x) && pairsAll p r
theorem pairsAll_spec {p : Nat → Nat → Bool} : ∀ {l : List Nat}, pairsAll p l = true → l.Pairwise fun x y => p x y = true := by
  intro l
  induction l with
  | nil => intro _; exact .nil
  | cons x r ih =>
    intro h
    simp only [pairsAll, Bool.and_eq_true, List.all_eq_true] at h
    exact .cons h.1 (ih h.2)
theorem mem_of_full {n : Nat} : ∀ {o : List Nat}, o.Nodup → (∀ x ∈ o, x < n) → o.length = n → ∀ {x}, x < n → x ∈ o := by
  induction n with
  | zero => intro o _ _ _ x hx; omega
  | succ n ih =>
    intro o hn hlt hlen x hx
    have hmem : n ∈ o := by
      refine Classical.byContradiction fun hno => ?_
      have h2 : ∀ x ∈ o, x < n := fun y hy => by
        have := hlt y hy
        have : y ≠ n := fun e => hno (e ▸ hy)
        omega
      have key : ∀ (m : Nat) (l : List Nat), l.Nodup → (∀ y ∈ l, y < m) → l.length ≤ m := by
        intro m
        induction m with
        | zero => intro l _ h; cases l with | nil => simp | cons a l => exact absurd (h a (by simp)) (by omega)
        | succ m ihm =>
          intro l hl hb
          have := ihm (l.erase m) (hl.erase m) (fun y hy => by
            have h1 := hb y (List.mem_of_mem_erase hy)
            have h2 : y ≠ m := fun e => by rw [e] at hy; exact (hl.mem_erase_iff.1 hy).1 rfl
            omega)
          by_cases hm : m ∈ l
          · rw [List.length_erase_of_mem hm] at this; omega
          · rw [List.erase_of_not_mem hm] at this; omega
      have := key n o hn h2
      omega
    by_cases e : x = n
    · exact e ▸ hmem
    · have := ih (o := o.erase n) (hn.erase n) (fun y hy => by
        have h1 := hlt y (List.mem_of_mem_erase hy)
        have h2 : y ≠ n := fun e => by rw [e] at hy; exact (hn.mem_erase_iff.1 hy).1 rfl
        omega) (by rw [List.length_erase_of_mem hmem]; omega) (x := x) (by omega)
      exact List.mem_of_mem_erase this
instance : Inhabited RO := ⟨⟨none, none, .mkmap⟩⟩
def indepAt (rs : List (RO × Oper)) (x y : Nat) : Bool := match rs[x]?, rs[y]? with | some a, some b => indep b a | _, _ => false
def nodupB : List Nat → Bool
  | [] => true
  | x :: r => !r.contains x && nodupB r
theorem nodupB_spec : ∀ {l : List Nat}, nodupB l = true → l.Nodup := by
  intro l
  induction l with
  | nil => intro _; exact .nil
  | cons x r ih =>
    intro h
    simp only [nodupB, Bool.and_eq_true, Bool.not_eq_true'] at h
    exact List.nodup_cons.2 ⟨by simpa using h.1, ih h.2⟩
def clash (both : Bool) (rs : List (RO × Oper)) (an : List (List Nat)) (n : Nat) : List Nat :=
  (List.range n).filter fun x => (List.range n).any fun y => x != y && !(an.getD x []).contains y && !(an.getD y []).contains x && !(if both then indepAt rs x y && indepAt rs y x else indepAt rs x y || indepAt rs y x)
def coverG (both : Bool) (rs : List (RO × Oper)) (ops : Array Oper) (orders : List (List Nat)) : Bool :=
  let an := ancs ops
  let n := ops.size
  let d := clash both rs an n
  backEdges ops && nodupB d && orders.all (fun o => o.length == n && nodupB o && o.all (· < n)) &&
  (perms d).all fun s => !(pairsAll (fun x y => !(an.getD x []).contains y) s) || orders.any fun o => pairsAll (fun x y => indepAt rs x y || (an.getD y []).contains x || befB x y s) o
def coverB (rs : List (RO × Oper)) (ops : Array Oper) (orders : List (List Nat)) : Bool := coverG false rs ops orders || coverG true rs ops orders
theorem coverOf {both : Bool} {P : Program} {n : Nat} {rs : List (RO × Oper)} {orders : List (List Nat)} {Q : Act → World → Prop} {a : Act} {w : World} (hlen : rs.length = ops.size) (hX : ∀ (i : Nat) x, rs[i]? = some x → Good P n ops x)
    (hc : coverG both rs ops orders = true) (h : ∀ o ∈ orders, wpR P noWay Q (o.map fun i => rs.getD i default) a w) (t : Nat) :
    wpR P noWay Q ((sched ops ops.size t (Array.replicate ops.size false)).map fun i => rs.getD i default) a w := by
  simp only [coverG, Bool.and_eq_true] at hc
  obtain ⟨⟨⟨hb, hd⟩, ho⟩, hp⟩ := hc
  have hu : unl ops (Array.replicate ops.size false) = List.range ops.size := by
    simp only [unl]
    refine List.filter_eq_self.2 (fun i hi => ?_)
    have := List.mem_range.1 hi
    simp [this]
  obtain ⟨s1, s2, _⟩ := sched_spec hb ops.size t (Array.replicate ops.size false) (by simp) (by rw [hu]; simp)
  generalize hl : sched ops ops.size t (Array.replicate ops.size false) = l at s1 s2 ⊢
  have hanc : ∀ {x y : Nat}, y < ops.size → x ∈ (ancs ops).getD y [] → Bef l x y := fun hy hx => hl ▸ anc_bef hb (Nat.le_refl _) (ancs_sound hx) hy
  have hmem : ∀ i, i ∈ l ↔ i < ops.size := fun i => by rw [s2, hu]; simp
  generalize hdd : clash both rs (ancs ops) ops.size = d at hd hp
  have hdlt : ∀ x ∈ d, x < ops.size := by
    intro x hx; rw [← hdd] at hx; simp only [clash, List.mem_filter, List.mem_range] at hx; exact hx.1
  have hsp : (l.filter (d.contains ·)).Perm d := by
    refine (List.perm_ext_iff_of_nodup (s1.filter _) (nodupB_spec hd)).2 (fun x => ?_)
    simp only [List.mem_filter, hmem, List.contains_iff_mem]
    exact ⟨fun h => h.2, fun h => ⟨hdlt x h, h⟩⟩
  have hall := List.all_eq_true.1 hp _ (mem_perms hsp)
  simp only [Bool.or_eq_true, Bool.not_eq_true', List.any_eq_true] at hall
  have hresp : pairsAll (fun x y => !((ancs ops).getD x []).contains y) (l.filter (d.contains ·)) = true := by
    have key : ∀ (s : List Nat), s.Sublist l → pairsAll (fun x y => !((ancs ops).getD x []).contains y) s = true := by
      intro s
      induction s with
      | nil => intro _; rfl
      | cons x s ih =>
        intro hs
        simp only [pairsAll, Bool.and_eq_true, List.all_eq_true, Bool.not_eq_true']
        refine ⟨fun y hy => ?_, ih ((List.sublist_cons_self x s).trans hs)⟩
        have h2 : [x, y].Sublist l := (List.Sublist.cons_cons x (List.singleton_sublist.2 hy)).trans hs
        have b1 := sub_bef s1 h2
        cases hcc : ((ancs ops).getD x []).contains y with
        | false => rfl
        | true =>
          have b2 := hanc ((hmem x).1 b1.1) (List.contains_iff_mem.1 hcc)
          have := b1.2.2; have := b2.2.2; omega
    exact key _ List.filter_sublist
  rcases hall with hall | ⟨o, hom, hpo⟩
  · rw [hresp] at hall; cases hall
  have ho' := List.all_eq_true.1 ho o hom
  simp only [Bool.and_eq_true, beq_iff_eq, List.all_eq_true, decide_eq_true_eq] at ho'
  obtain ⟨⟨o1, o2⟩, o3⟩ := ho'
  have hperm : o.Perm l := by
    have hol : o.Subset l := fun x hx => (hmem x).2 (o3 x hx)
    have hno := nodupB_spec o2
    have hl' : l.length = ops.size := by
      have : l.Perm (List.range ops.size) := (List.perm_ext_iff_of_nodup s1 List.nodup_range).2 (fun x => by simp [hmem])
      simpa using this.length_eq
    have hor : o.Perm (List.range ops.size) := by
      refine (List.perm_ext_iff_of_nodup hno List.nodup_range).2 (fun x => ?_)
      refine ⟨fun hx => by simpa using o3 x hx, fun hx => ?_⟩
      exact mem_of_full hno o3 o1 (by simpa using hx)
    exact hor.trans ((List.perm_ext_iff_of_nodup s1 List.nodup_range).2 (fun x => by simp [hmem])).symm
  refine reorder (P := P) (n := n) (ops := ops) l o hperm s1 (fun i hi => ?_) ?_ (h o hom)
  · have hi' := (hmem i).1 hi
    have : rs[i]? = some (rs.getD i default) := by
      rw [List.getD_eq_getElem?_getD]
      have hlt : i < rs.length := by omega
      simp [hlt]
    exact hX i _ this
  · refine (pairsAll_spec hpo).imp_of_mem (fun {x y} hx hy h => ?_)
    simp only [Bool.or_eq_true] at h
    rcases h with (h | h) | h
    · left
      simp only [indepAt] at h
      split at h
      · rename_i p q hp hq
        simp only [List.getD_eq_getElem?_getD, hp, hq, Option.getD_some]
        exact h
      · cases h
    · right; exact (hanc (o3 y hy) (List.contains_iff_mem.1 h)).sub
    · right; exact (befB_sub h).trans List.filter_sublist
theorem cover {P : Program} {n : Nat} {rs : List (RO × Oper)} {orders : List (List Nat)} {Q : Act → World → Prop} {a : Act} {w : World} (hlen : rs.length = ops.size) (hX : ∀ (i : Nat) x, rs[i]? = some x → Good P n ops x)
    (hc : coverB rs ops orders = true) (h : ∀ o ∈ orders, wpR P noWay Q (o.map fun i => rs.getD i default) a w) (t : Nat) :
    wpR P noWay Q ((sched ops ops.size t (Array.replicate ops.size false)).map fun i => rs.getD i default) a w := by
  unfold coverB at hc
  rcases Bool.or_eq_true_iff.1 hc with hc | hc
  · exact coverOf hlen hX hc h t
  · exact coverOf hlen hX hc h t
end
abbrev Env := List (Nat × Value)
abbrev SH := List (List Atom)
def look : Env → Nat → Option Value
  | [], _ => none
  | (s, v) :: r, t => if s = t then some v else look r t
def ev (Γ : Env) : Operand → Option Value
  | .tmp t => look Γ t
  | .const v => some v
  | .global g => some (.pointer (some ⟨g, 0, none⟩))
  | .func f => some (.func (.func f) #[] #[])
def evs (Γ : Env) : List Operand → Option (List Value)
  | [] => some []
  | x :: r => match ev Γ x, evs Γ r with
    | some v, some l => some (v :: l)
    | _, _ => none
structure Agree (n : Nat) (Γ : Env) (a : Act) : Prop where
  size : a.tmps.size = n
  slots : ∀ t v, look Γ t = some v → a.tmps[t]? = some v
def Sub (Γ Δ : Env) : Prop := ∀ t v, look Δ t = some v → look Γ t = some v
theorem Agree.sub {n : Nat} {Γ Δ : Env} {a : Act} (h : Agree n Γ a) (s : Sub Γ Δ) : Agree n Δ a := ⟨h.size, fun t v e => h.slots t v (s t v e)⟩
theorem Agree.put {n : Nat} {Γ : Env} {a : Act} (h : Agree n Γ a) {d : Nat} (hd : d < n) (v : Value) : Agree n ((d, v) :: Γ) (a.put (some d) v) := by
  refine ⟨by simp [Act.put, h.size], fun t u e => ?_⟩
  simp only [look] at e
  split at e
  · rename_i hd'
    subst hd'
    cases e
    simp [Act.put, h.size, hd]
  · rename_i hne
    simp only [Act.put, Array.getElem?_setIfInBounds_ne hne]
    exact h.slots t u e
theorem Agree.ev {n : Nat} {Γ : Env} {a : Act} (h : Agree n Γ a) {x : Operand} {v : Value} (e : ev Γ x = some v) : a.eval x = v := by
  cases x with
  | tmp t => simp only [V.ev] at e; simp [Act.eval, Array.getD_eq_getD_getElem?, h.slots t v e]
  | const u => simpa [V.ev, Act.eval] using e
  | global g => simpa [V.ev, Act.eval] using e
  | func f => simpa [V.ev, Act.eval] using e
theorem Agree.evs {n : Nat} {Γ : Env} {a : Act} (h : Agree n Γ a) : ∀ {l : List Operand} {vs : List Value}, evs Γ l = some vs → l.map a.eval = vs := by
  intro l
  induction l with
  | nil => intro vs e; simp [V.evs] at e; subst e; rfl
  | cons x r ih =>
    intro vs e
    simp only [V.evs] at e
    split at e
    · rename_i v l hv hl; cases e; simp [h.ev hv, ih hl]
    · cases e
def putE (d : Option Nat) (v : Value) (Γ : Env) : Env := match d with | some d => (d, v) :: Γ | none => Γ
theorem Agree.putE {n : Nat} {Γ : Env} {a : Act} (h : Agree n Γ a) {d : Option Nat} (hd : ∀ t, d = some t → t < n) (v : Value) : Agree n (V.putE d v Γ) (a.put d v) := by
  cases d with
  | none => exact h
  | some d => exact h.put (hd d rfl) v
def LowAll (P : Program) (n : Nat) (rs : List RO) (l : List (RO × Oper)) : Prop := l.map (·.1) = rs ∧ ∀ x ∈ l, ∃ ops, lowRO P n ops x.2 = some x.1
theorem put_defers (a : Act) (d : Option Nat) (v : Value) : (a.put d v).defers = a.defers := by cases d <;> rfl
def VO (P : Program) (n : Nat) (rs : List RO) (Γ : Env) (H : SH) (Z : List PanicEntry → Env → SH → Prop) (K : Env → SH → Prop) : Prop :=
  ∀ l, LowAll P n rs l → ∀ a w F (ZZ : Exit → Act → World → Prop) (Q : Act → World → Prop), Agree n Γ a → Sat w (H.flatten ++ F) →
    (∀ a' w' Γ' H', K Γ' H' → Agree n Γ' a' → a'.defers = a.defers → Sat w' (H'.flatten ++ F) → Keeps w w' → Q a' w') →
    (∀ ch a' w' Γ' H', Z ch Γ' H' → Agree n Γ' a' → a'.defers = a.defers → Sat w' (H'.flatten ++ F) → Keeps w w' → ZZ (.panic ch) a' w') → wpR P ZZ Q l a w
def Fun (P : Program) (f : Nat) (args : List Value) (Pre : SH) (Q : Value → SH → Prop) : Prop :=
  callable P f = true ∧ ∀ F w, Sat w (Pre.flatten ++ F) →
    Calls P f args.toArray w fun e w' => ∃ v Post, e = .returned v ∧ Q v Post ∧ Sat w' (Post.flatten ++ F) ∧ Keeps w w'
def Spl (H Pre R : SH) : Prop := H.flatten.Perm (Pre.flatten ++ R.flatten)
section
variable {P : Program} {n : Nat} {rs : List RO} {Γ Δ : Env} {H : SH} {Z : List PanicEntry → Env → SH → Prop} {K : Env → SH → Prop}
theorem VO.nil (h : K Γ H) : VO P n [] Γ H Z K := by
  intro l hl a w F ZZ Q ha hs hq hz
  obtain rfl : l = [] := by simpa using hl.1
  exact hq a w Γ H h ha rfl hs (.refl w)
theorem VO.sub (s : Sub Γ Δ) (h : VO P n rs Δ H Z K) : VO P n rs Γ H Z K := fun l hl a w F ZZ Q ha hs hq hz => h l hl a w F ZZ Q (ha.sub s) hs hq hz
theorem VO.perm {H' : SH} (p : H.flatten.Perm H'.flatten) (h : VO P n rs Γ H' Z K) : VO P n rs Γ H Z K := fun l hl a w F ZZ Q ha hs hq hz => h l hl a w F ZZ Q ha (hs.perm (p.append_right F)) hq hz
theorem VO.mono {K' : Env → SH → Prop} (h : VO P n rs Γ H Z K) (hk : ∀ Γ H, K Γ H → K' Γ H) : VO P n rs Γ H Z K' := fun l hl a w F ZZ Q ha hs hq hz => h l hl a w F ZZ Q ha hs (fun a' w' Γ' H' k => hq a' w' Γ' H' (hk _ _ k)) hz
theorem low_cons {r : RO} {l : List (RO × Oper)} (h : LowAll P n (r :: rs) l) : ∃ o l', l = (r, o) :: l' ∧ LowAll P n rs l' ∧ ∃ ops, lowRO P n ops o = some r := by
  obtain ⟨h1, h2⟩ := h
  cases l with
  | nil => simp at h1
  | cons x l =>
    simp at h1
    obtain ⟨rfl, h1⟩ := h1
    exact ⟨x.2, l, rfl, ⟨h1, fun y hy => h2 y (by simp [hy])⟩, h2 x (by simp)⟩
theorem VO.pure {d : Option Nat} {r : R} {v : Value} (hp : isPure r = true) (hv : ∀ ρ : Operand → Value, (∀ x u, ev Γ x = some u → ρ x = u) → pureV ρ r = some v) (h : VO P n rs (putE d v Γ) H Z K) : VO P n (⟨d, none, r⟩ :: rs) Γ H Z K := by
  intro l hl a w F ZZ Q ha hs hq hz
  obtain ⟨o, l', rfl, hl', ops, ho⟩ := low_cons hl
  obtain ⟨g1, g2, g3, g4⟩ := lowRO_spec ho
  show wpR1 P ZZ (_, o) (wpR P ZZ Q l') a w
  unfold wpR1
  simp only [wantedR, hp, if_true]
  exact ⟨v, hv a.eval (fun x u e => ha.ev e), h l' hl' _ w F ZZ Q (ha.putE g3 v) hs (fun a2 w2 Γ2 H2 k1 k2 k3 k4 k5 => hq a2 w2 Γ2 H2 k1 k2 (k3.trans (put_defers ..)) k4 k5) (fun ch a2 w2 Γ2 H2 k1 k2 k3 k4 k5 => hz ch a2 w2 Γ2 H2 k1 k2 (k3.trans (put_defers ..)) k4 k5)⟩
theorem VO.read {d : Option Nat} {r : R} {v : Value} (hp : isPure r = false) (hr : isRead r = true) (hv : ∀ ρ : Operand → Value, (∀ x u, ev Γ x = some u → ρ x = u) → ∃ s, memS ρ r = some s ∧ ∀ F w, Sat w (H.flatten ++ F) → s.run P w = .ok (.value v) w)
    (h : VO P n rs (putE d v Γ) H Z K) : VO P n (⟨d, none, r⟩ :: rs) Γ H Z K := by
  intro l hl a w F ZZ Q ha hs hq hz
  obtain ⟨o, l', rfl, hl', ops, ho⟩ := low_cons hl
  obtain ⟨g1, g2, g3, g4⟩ := lowRO_spec ho
  show wpR1 P ZZ (_, o) (wpR P ZZ Q l') a w
  unfold wpR1
  obtain ⟨s, h1, h2⟩ := hv a.eval (fun x u e => ha.ev e)
  simp only [wantedR, hp, hr, if_true, Bool.false_eq_true, if_false]
  exact ⟨s, v, h1, fun w2 e2 => h2 F w2 (hs.ext e2), h l' hl' _ w F ZZ Q (ha.putE g3 v) hs (fun a2 w2 Γ2 H2 k1 k2 k3 k4 k5 => hq a2 w2 Γ2 H2 k1 k2 (k3.trans (put_defers ..)) k4 k5) (fun ch a2 w2 Γ2 H2 k1 k2 k3 k4 k5 => hz ch a2 w2 Γ2 H2 k1 k2 (k3.trans (put_defers ..)) k4 k5)⟩
theorem ext_push {w : World} (o : Obj) : Ext w { w with heap := w.heap.push o } := fun i x h => by
  have hl := (Array.getElem?_eq_some_iff.1 h).1
  show (w.heap.push o)[i]? = _
  rw [Array.getElem?_push, if_neg (Nat.ne_of_lt hl)]; exact h
theorem ext_freeze {w : World} {a : Addr} {n : Nat} (h : w.heap.size ≤ a.block) : ∀ {w' : World}, Ext w w' → Ext w (w'.freeze a n) := by
  intro w' e i o hi
  have hl := (Array.getElem?_eq_some_iff.1 hi).1
  unfold World.freeze
  split
  · exact e _ _ hi
  · have := e _ _ hi
    simp only [Array.getElem?_modify, this, if_neg (show ¬ a.block = i by omega)]
theorem run_new_ext {w w' : World} {c : Array Value} {t : TypeId} {f : Nat → Next} {nx : Next} (h : (do let b ← Go.newObj (.cells c t); pure (f b) : Sem Next).run P w = .ok nx w') : nx = f w.heap.size ∧ Ext w w' := by
  simp only [Go.newObj, Sem.run_bind, Sem.run, Sem.run_pure, Result.andThen_ok] at h
  cases h
  exact ⟨rfl, ext_push _⟩
theorem run_s2b_ext {w w' : World} {t : TypeId} {s : ByteArray} {v : Value} (h : (Conv.stringToBytes t s).run P w = .ok v w') : Ext w w' := by
  unfold Conv.stringToBytes at h
  rw [Sem.run_bind] at h
  obtain ⟨cap, w1, h1, h2⟩ := andThen_ok_of h
  have e1 : w1.heap = w.heap := by
    simp only [Go.choose, Sem.run] at h1
    split at h1 <;> (cases h1; rfl)
  have x1 : Ext w w1 := fun i o e => by rw [e1]; exact e
  refine x1.trans ?_
  rw [Sem.run_bind] at h2
  obtain ⟨a, w2, h3, h4⟩ := andThen_ok_of h2
  have h3' : a = ⟨w1.heap.size, 0, none⟩ ∧ w2 = { w1 with heap := w1.heap.push (.cells (s.data.map (fun b => Value.int .u8 b.toNat) ++ Array.replicate (cap - s.size) (.int .u8 0)) t) } := by
    simp only [newRow, Go.newObj, Sem.run_bind, Sem.run, Sem.run_pure, Result.andThen_ok] at h3
    cases h3; exact ⟨rfl, rfl⟩
  obtain ⟨rfl, rfl⟩ := h3'
  rw [Sem.run_bind] at h4
  obtain ⟨_, w3, h5, h6⟩ := andThen_ok_of h4
  rw [Sem.run_pure] at h6
  cases h6
  unfold markStringish at h5
  rw [Sem.run_bind] at h5
  simp only [Go.shape, Sem.run, Result.andThen_ok] at h5
  split at h5
  · simp only [Go.freeze, Sem.run] at h5
    cases h5
    exact ext_freeze (Nat.le_refl _) (ext_push _)
  · rw [Sem.run_pure] at h5
    cases h5
    exact ext_push _
theorem memS_new {ρ : Operand → Value} {r : R} {s : Sem Next} {w w' : World} {nx : Next} (hn : isNew r = true) (hs : memS ρ r = some s) (h : s.run P w = .ok nx w') : ∃ u, nx = .value u ∧ Ext w w' := by
  cases r <;> simp only [isNew] at hn <;> first | (cases hn; done) | skip
  all_goals (simp only [memS, Option.some.injEq] at hs; subst hs)
  case alloc => obtain ⟨rfl, e⟩ := run_new_ext h; exact ⟨_, rfl, e⟩
  case box => obtain ⟨rfl, e⟩ := run_new_ext h; exact ⟨_, rfl, e⟩
  case bslice =>
    split at h
    · obtain ⟨rfl, e⟩ := run_new_ext h; exact ⟨_, rfl, e⟩
    · simp [stuck, Sem.run] at h
  case mkmap =>
    simp only [Go.newObj, Sem.run_bind, Sem.run, Sem.run_pure, Result.andThen_ok] at h
    cases h
    exact ⟨_, rfl, ext_push _⟩
  case s2b =>
    split at h
    · rw [Sem.run_bind] at h
      obtain ⟨v, w1, h1, h2⟩ := andThen_ok_of h
      rw [Sem.run_pure] at h2
      cases h2
      exact ⟨_, rfl, run_s2b_ext h1⟩
    · simp [stuck, Sem.run] at h
theorem VO.act {d : Option Nat} {r : R} (hp : isPure r = false) (hr : isRead r = false)
    (hv : ∀ ρ : Operand → Value, (∀ x u, ev Γ x = some u → ρ x = u) → ∃ s, memS ρ r = some s ∧ SWP P s H.flatten fun nx L => ∃ v H', (nx = .value v ∨ (nx = .skip ∧ v = undef)) ∧ L.Perm H'.flatten ∧ VO P n rs (putE d v Γ) H' Z K) :
    VO P n (⟨d, none, r⟩ :: rs) Γ H Z K := by
  intro l hl a w F ZZ Q ha hs hq hz
  obtain ⟨o, l', rfl, hl', ops, ho⟩ := low_cons hl
  obtain ⟨g1, g2, g3, g4⟩ := lowRO_spec ho
  show wpR1 P ZZ (_, o) (wpR P ZZ Q l') a w
  unfold wpR1
  obtain ⟨s, h1, h2⟩ := hv a.eval (fun x u e => ha.ev e)
  simp only [wantedR, hp, hr, if_true, Bool.false_eq_true, if_false]
  obtain ⟨nx, w', L, hrun, ⟨v, H', hnx, hL, hvo⟩, hs', hk⟩ := h2 F w hs
  have hrun' := mem_sound (eval_const a) g1 h1 hrun
  refine ⟨fun hn => ?_, ?_⟩
  · obtain ⟨u, hu, hext⟩ := memS_new hn h1 hrun
    exact ⟨u, w', by rw [hrun', hu], hext⟩
  have fin : wpR P ZZ Q l' (a.put o.dst v) w' := by
    rw [← g2]
    exact hvo l' hl' _ w' F ZZ Q (ha.putE g3 v) (hs'.perm (hL.append_right F)) (fun a2 w2 Γ2 H2 k1 k2 k3 k4 k5 => hq a2 w2 Γ2 H2 k1 k2 (k3.trans (put_defers ..)) k4 (hk.trans k5)) (fun ch a2 w2 Γ2 H2 k1 k2 k3 k4 k5 => hz ch a2 w2 Γ2 H2 k1 k2 (k3.trans (put_defers ..)) k4 (hk.trans k5))
  rcases hnx with rfl | ⟨rfl, rfl⟩
  · simpa only [wpV, hrun', uponV] using fin
  · simpa only [wpV, hrun', uponV] using fin
theorem VO.act' {d : Option Nat} {r : R} (hp : isPure r = false) (hr : isRead r = false)
    (hv : ∀ ρ : Operand → Value, (∀ x u, ev Γ x = some u → ρ x = u) → ∃ s, memS ρ r = some s ∧ SWP P s H.flatten fun nx L => ∃ v H' X, (nx = .value v ∨ (nx = .skip ∧ v = undef)) ∧ L.Perm (List.flatten H' ++ X) ∧ VO P n rs (putE d v Γ) H' Z K) :
    VO P n (⟨d, none, r⟩ :: rs) Γ H Z K := by
  refine VO.act hp hr (fun ρ hρ => ?_)
  obtain ⟨s, h1, h2⟩ := hv ρ hρ
  refine ⟨s, h1, fun F w hs => ?_⟩
  obtain ⟨nx, w', L, k1, ⟨v, H', X, k2, k3, k4⟩, k5, k6⟩ := h2 F w hs
  refine ⟨nx, w', H'.flatten, k1, ⟨v, H', k2, .refl _, k4⟩, ?_, k6⟩
  have := k5.perm (k3.append_right F)
  rw [List.append_assoc] at this
  exact this.sub ((List.Sublist.refl _).append (List.sublist_append_right _ _))
theorem run_callFunc {f : Nat} {args : Array Value} {w : World} (h : callable P f = true) : (callFunc f args).run P w = .ok (.enter f args) w := by
  unfold callable at h
  split at h
  · rename_i fn hf
    simp only [Bool.and_eq_true, bne_iff_ne] at h
    obtain ⟨c, hc⟩ := Option.isSome_iff_exists.1 h.2
    simp [callFunc, hf, h.1, hc]
  · cases h
theorem wp_call {o : Oper} {a : Act} {w : World} {f : Nat} {args : List Value} {next : Act → World → Prop} {ZZ : Exit → Act → World → Prop} (he : (execOp a.eval o).run P w = .ok (.enter f args.toArray) w)
    (h : Calls P f args.toArray w fun e w' => (∃ v, e = .returned v ∧ next (a.put o.dst v) w') ∨ (∃ ch, e = .panicked ch ∧ ZZ (.panic ch) a w')) : wpV P o a w next ZZ := by
  simp only [wpV, he, uponV]
  refine h.mono ?_
  rintro e w' (⟨v, rfl, hn⟩ | ⟨ch, rfl, hn⟩)
  · exact hn
  · exact hn
theorem VO.call_aux {d : Option Nat} {r : R} {f : Nat} {args : List Value} {Pre R : SH} {Q : Value → SH → Prop} (hp : isPure r = false) (hr : isRead r = false) (hnw : isNew r = false)
    (hx : ∀ (a : Act) (w : World) (o : Oper), (∀ x u, ev Γ x = some u → a.eval x = u) → lowOp P o.op = some r → (execOp a.eval o).run P w = .ok (.enter f args.toArray) w)
    (hf : Fun P f args Pre Q) (hs : Spl H Pre R) (h : ∀ v Post, Q v Post → VO P n rs (putE d v Γ) (Post ++ R) Z K) : VO P n (⟨d, none, r⟩ :: rs) Γ H Z K := by
  intro l hl a w F ZZ Q' ha hsat hq hz
  obtain ⟨o, l', rfl, hl', ops, ho⟩ := low_cons hl
  obtain ⟨g1, g2, g3, g4⟩ := lowRO_spec ho
  show wpR1 P ZZ (_, o) (wpR P ZZ Q' l') a w
  unfold wpR1
  simp only [wantedR, hp, hr, if_true, Bool.false_eq_true, if_false]
  refine ⟨fun e => (by rw [hnw] at e; cases e), ?_⟩
  refine wp_call (hx a w o (fun x u e => ha.ev e) g1) ?_
  have hsat' : Sat w (Pre.flatten ++ (R.flatten ++ F)) := by
    rw [← List.append_assoc]; exact hsat.perm (hs.append_right F)
  refine (hf.2 (R.flatten ++ F) w hsat').mono ?_
  rintro e w' ⟨v, Post, rfl, hQ, hs', hk⟩
  refine .inl ⟨v, rfl, ?_⟩
  rw [← g2]
  refine h v Post hQ l' hl' _ w' F ZZ Q' (ha.putE g3 v) ?_ (fun a2 w2 Γ2 H2 k1 k2 k3 k4 k5 => hq a2 w2 Γ2 H2 k1 k2 (k3.trans (put_defers ..)) k4 (hk.trans k5)) (fun ch a2 w2 Γ2 H2 k1 k2 k3 k4 k5 => hz ch a2 w2 Γ2 H2 k1 k2 (k3.trans (put_defers ..)) k4 (hk.trans k5))
  rw [List.flatten_append, List.append_assoc]; exact hs'
theorem low_call {op : Op} {f : Nat} {xs : List Operand} (h : lowOp P op = some (.call f xs)) : ∃ c, op = .call c ∧ c.callee = .value (.func f) ∧ c.args.toList = xs ∧ callable P f = true := by
  cases op
  case call c =>
    refine ⟨c, rfl, ?_⟩
    obtain ⟨callee, args, ats⟩ := c
    simp only [lowOp] at h
    split at h
    · split at h
      · rename_i hc; cases h; exact ⟨rfl, rfl, hc⟩
      · cases h
    · cases h
    all_goals (repeat' split at h)
    all_goals first
      | (cases h; done)
      | (simp only [Option.map_eq_some_iff] at h; obtain ⟨_, _, h⟩ := h; cases h; done)
  all_goals (exfalso; try simp only [lowOp] at h)
  all_goals (repeat' split at h)
  all_goals first
    | (cases h; done)
    | (simp only [Option.map_eq_some_iff] at h; obtain ⟨_, _, h⟩ := h; cases h; done)
theorem low_callv {op : Op} {x : Operand} {xs : List Operand} (h : lowOp P op = some (.callv x xs)) : ∃ c, op = .call c ∧ c.callee = .value x ∧ c.args.toList = xs := by
  cases op
  case call c =>
    refine ⟨c, rfl, ?_⟩
    obtain ⟨callee, args, ats⟩ := c
    simp only [lowOp] at h
    split at h
    · split at h
      · cases h
      · cases h
    · cases h; exact ⟨rfl, rfl⟩
    all_goals (repeat' split at h)
    all_goals first
      | (cases h; done)
      | (simp only [Option.map_eq_some_iff] at h; obtain ⟨_, _, h⟩ := h; cases h; done)
  all_goals (exfalso; try simp only [lowOp] at h)
  all_goals (repeat' split at h)
  all_goals first
    | (cases h; done)
    | (simp only [Option.map_eq_some_iff] at h; obtain ⟨_, _, h⟩ := h; cases h; done)
theorem VO.call {d : Option Nat} {f : Nat} {xs : List Operand} {args : List Value} {Pre R : SH} {Q : Value → SH → Prop} (hf : Fun P f args Pre Q) (he : evs Γ xs = some args) (hs : Spl H Pre R)
    (h : ∀ v Post, Q v Post → VO P n rs (putE d v Γ) (Post ++ R) Z K) : VO P n (⟨d, none, .call f xs⟩ :: rs) Γ H Z K := by
  refine VO.call_aux rfl rfl rfl (fun a w o ha hl => ?_) hf hs h
  obtain ⟨c, h1, h2, h3, h4⟩ := low_call hl
  have hm : xs.map a.eval = args := by
    have : ∀ {l : List Operand} {vs : List Value}, evs Γ l = some vs → l.map a.eval = vs := by
      intro l
      induction l with
      | nil => intro vs e; simp [evs] at e; subst e; rfl
      | cons x r ih =>
        intro vs e
        simp only [evs] at e
        split at e
        · rename_i v l hv hl; cases e; simp [ha _ _ hv, ih hl]
        · cases e
    exact this he
  have hargs : (c.args.map a.eval) = args.toArray := by
    apply Array.toList_inj.1; rw [Array.toList_map, h3, hm]
  simp [execOp, h1, resolve, h2, Act.eval, Deferred.ofValue, invoke, hargs, run_callFunc h4]
theorem VO.callv {d : Option Nat} {x : Operand} {f : Nat} {first cap : Array Value} {xs : List Operand} {args : List Value} {Pre R : SH} {Q : Value → SH → Prop} (hx : ev Γ x = some (.func (.func f) first cap))
    (hf : Fun P f (first.toList ++ args ++ cap.toList) Pre Q) (he : evs Γ xs = some args) (hs : Spl H Pre R)
    (h : ∀ v Post, Q v Post → VO P n rs (putE d v Γ) (Post ++ R) Z K) : VO P n (⟨d, none, .callv x xs⟩ :: rs) Γ H Z K := by
  refine VO.call_aux rfl rfl rfl (fun a w o ha hl => ?_) hf hs h
  obtain ⟨c, h1, h2, h3⟩ := low_callv hl
  have hm : xs.map a.eval = args := by
    have : ∀ {l : List Operand} {vs : List Value}, evs Γ l = some vs → l.map a.eval = vs := by
      intro l
      induction l with
      | nil => intro vs e; simp [evs] at e; subst e; rfl
      | cons x r ih =>
        intro vs e
        simp only [evs] at e
        split at e
        · rename_i v l hv hl; cases e; simp [ha _ _ hv, ih hl]
        · cases e
    exact this he
  have hargs : (c.args.map a.eval) = args.toArray := by
    apply Array.toList_inj.1; rw [Array.toList_map, h3, hm]
  have hall : first ++ args.toArray ++ cap = (first.toList ++ args ++ cap.toList).toArray := by
    apply Array.toList_inj.1; simp
  rw [← hall]
  simp [execOp, h1, resolve, h2, ha _ _ hx, Deferred.ofValue, invoke, hargs]
  rw [run_callFunc hf.1]
end
end Go.V

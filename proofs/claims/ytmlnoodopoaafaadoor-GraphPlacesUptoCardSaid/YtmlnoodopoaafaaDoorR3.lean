/-
  Where objects are does not matter: a heap's form, told by numbers of its objects alone.
-/
import Derived.Test.YtmlnoodopoaafaaDoorP8
import Derived.Test.YtmlnoodopoaafaaDoorR2
set_option linter.unusedSimpArgs false
set_option linter.unusedVariables false
namespace Go.V
open Go Go.Proofs.YtmlnoodopoaafaaDoor
theorem insO_new {b : Ob} : ∀ {obs : List Ob}, ((insO b obs).Pairwise fun a b => a.stop ≤ b.at_) → ∀ c ∈ obs, c.at_ ≠ b.at_ := by
  intro obs
  induction obs with
  | nil => intro _ c hc; cases hc
  | cons d r ih =>
    intro h c hc
    simp only [insO] at h
    split at h
    · rename_i hlt
      obtain ⟨_, h2⟩ := List.pairwise_cons.1 h
      rcases List.mem_cons.1 hc with rfl | hc
      · omega
      · exact ih h2 c hc
    · obtain ⟨h1, _⟩ := List.pairwise_cons.1 h
      have := h1 c hc
      unfold Ob.stop at this; omega
theorem insO_sub {b : Ob} : ∀ {obs : List Ob}, List.Sublist obs (insO b obs) := by
  intro obs
  induction obs with
  | nil => exact List.nil_sublist _
  | cons d r ih =>
    simp only [insO]
    split
    · exact ih.cons_cons d
    · exact List.sublist_cons_self ..
theorem insO_length {b : Ob} : ∀ {obs : List Ob}, (insO b obs).length = obs.length + 1 := by
  intro obs
  induction obs with
  | nil => rfl
  | cons d r ih =>
    simp only [insO]
    split
    · simp [ih]
    · simp
theorem getO_insO {b : Ob} {obs : List Ob} (h : (insO b obs).Pairwise fun a b => a.stop ≤ b.at_) (o : Nat) : getO (insO b obs) o = if o = b.oop then some b else getO obs o := by
  have hs := h.sublist (insO_sub (b := b) (obs := obs))
  by_cases ho : o = b.oop
  · rw [if_pos ho, ho]; exact getO_mem h (mem_insO.2 (.inl rfl))
  · rw [if_neg ho]
    cases e : getO obs o with
    | some c =>
      obtain ⟨h1, rfl⟩ := getO_some e
      exact getO_mem h (mem_insO.2 (.inr h1))
    | none =>
      cases e2 : getO (insO b obs) o with
      | none => rfl
      | some c =>
        obtain ⟨h1, rfl⟩ := getO_some e2
        rcases mem_insO.1 h1 with rfl | h1
        · exact absurd rfl ho
        · exact absurd rfl (getO_none e c h1)
def valI (xs : List Nat) : Option Nat → Nat
  | some j => xs.getD j 0
  | none => 0
structure Mod (a : AH) (S : List Nat) (xs : List Nat) (len : Nat → Nat) (bod : Nat → Nat → Option Nat) : Prop where
  cnt : a.obs.length = S.length
  nod : S.Nodup
  inj : ∀ i ∈ S, ∀ j ∈ S, xs.getD i 0 = xs.getD j 0 → i = j
  tag : ∀ i ∈ S, tagO (xs.getD i 0) = 3
  get : ∀ i ∈ S, ∃ b, getO a.obs (xs.getD i 0) = some b ∧ b.hd.fmt = 1 ∧ plainH b.hd = plainH (hdOf i 1 (len i)) ∧ b.body = (List.range (len i)).map fun k => valI xs (bod i k)
  bod : ∀ i ∈ S, ∀ k j, k < len i → bod i k = some j → j ∈ S
  zero : getO a.obs 0 = none
  sp : a.sp = List.replicate 64 0
  cl : a.cl = List.replicate 4096 0
  que : a.queue = []
def meetI (l : List Nat) : Option Nat → List Nat
  | some j => if j ∈ l then l else l ++ [j]
  | none => l
def kidsI (len : Nat → Nat) (bod : Nat → Nat → Option Nat) (i : Nat) : List (Option Nat) := (List.range (len i)).map (bod i)
def goI (len : Nat → Nat) (bod : Nat → Nat → Option Nat) : Nat → Nat → List Nat → List Nat
  | 0, _, l => l
  | n + 1, i, l => match l[i]? with
    | some o => goI len bod n (i + 1) ((kidsI len bod o).foldl meetI l)
    | none => l
def nameI (l : List Nat) : Option Nat → Nat
  | some j => if j ∈ l then 8 * (l.idxOf j + 1) else 4
  | none => 0
def oneI (len : Nat → Nat) (bod : Nat → Nat → Option Nat) (l : List Nat) (i : Nat) : List Nat := [pk (plainH (hdOf i 1 (len i))), len i] ++ (kidsI len bod i).map (nameI l)
def reachedI (n : Nat) (len : Nat → Nat) (bod : Nat → Nat → Option Nat) (st : List Nat) : List Nat := goI len bod (n + 1) 0 ((st.map some).foldl meetI [])
def formI (n : Nat) (len : Nat → Nat) (bod : Nat → Nat → Option Nat) (st : List Nat) : List Nat :=
  ([(reachedI n len bod st).length, st.length, 0] ++ (List.replicate 4160 0 ++ st.map fun j => nameI (reachedI n len bod st) (some j))) ++ (reachedI n len bod st).flatMap (oneI len bod (reachedI n len bod st))
section
variable {a : AH} {S xs : List Nat} {len : Nat → Nat} {bod : Nat → Nat → Option Nat}
theorem Mod.memx (h : Mod a S xs len bod) {l : List Nat} (hl : ∀ i ∈ l, i ∈ S) {j : Nat} (hj : j ∈ S) : xs.getD j 0 ∈ l.map (fun i => xs.getD i 0) ↔ j ∈ l := by
  constructor
  · intro hm
    obtain ⟨i, hi, e⟩ := List.mem_map.1 hm
    rw [← h.inj i (hl i hi) j hj e]; exact hi
  · intro hm; exact List.mem_map.2 ⟨j, hm, rfl⟩
theorem Mod.zerox (h : Mod a S xs len bod) {l : List Nat} (hl : ∀ i ∈ l, i ∈ S) : 0 ∉ l.map (fun i => xs.getD i 0) := by
  intro hm
  obtain ⟨i, hi, e⟩ := List.mem_map.1 hm
  have := h.tag i (hl i hi)
  have e' : xs.getD i 0 = 0 := e
  rw [e'] at this; cases this
theorem Mod.meet (h : Mod a S xs len bod) {l : List Nat} (hl : ∀ i ∈ l, i ∈ S) {o : Option Nat} (ho : ∀ j, o = some j → j ∈ S) : meetA a (l.map fun i => xs.getD i 0) (valI xs o) = (meetI l o).map fun i => xs.getD i 0 := by
  cases o with
  | none =>
    have key : ∀ v, v = 0 → meetA a (l.map fun i => xs.getD i 0) v = l.map fun i => xs.getD i 0 := fun v hv => by
      unfold meetA
      rw [if_neg (by rw [hv]; exact h.zerox hl), if_neg (by rw [hv, h.zero]; simp)]
    exact key _ rfl
  | some j =>
    have hj := ho j rfl
    obtain ⟨b, hb, _⟩ := h.get j hj
    have key : ∀ v, v = xs.getD j 0 → meetA a (l.map fun i => xs.getD i 0) v = (meetI l (some j)).map fun i => xs.getD i 0 := fun v hv => by
      unfold meetA
      by_cases hm : j ∈ l
      · rw [if_pos (by rw [hv]; exact (h.memx hl hj).2 hm)]; simp only [meetI, if_pos hm]
      · rw [if_neg (by rw [hv]; exact fun e => hm ((h.memx hl hj).1 e)), if_pos (by rw [hv, hb]; rfl)]
        simp only [meetI, if_neg hm, List.map_append, List.map_cons, List.map_nil, hv]
    exact key _ rfl
theorem meetI_mem {l : List Nat} (hl : ∀ i ∈ l, i ∈ S) {o : Option Nat} (ho : ∀ j, o = some j → j ∈ S) : ∀ i ∈ meetI l o, i ∈ S := by
  cases o with
  | none => exact hl
  | some j =>
    intro i hi
    simp only [meetI] at hi
    split at hi
    · exact hl i hi
    · rcases List.mem_append.1 hi with h | h
      · exact hl i h
      · rw [List.mem_singleton.1 h]; exact ho j rfl
theorem Mod.meets (h : Mod a S xs len bod) : ∀ (ks : List (Option Nat)) (l : List Nat), (∀ i ∈ l, i ∈ S) → (∀ o ∈ ks, ∀ j, o = some j → j ∈ S) → (ks.map (valI xs)).foldl (meetA a) (l.map fun i => xs.getD i 0) = (ks.foldl meetI l).map (fun i => xs.getD i 0) ∧ ∀ i ∈ ks.foldl meetI l, i ∈ S := by
  intro ks
  induction ks with
  | nil => intro l hl _; exact ⟨rfl, hl⟩
  | cons o ks ih =>
    intro l hl ho
    have ho1 := ho o (by simp)
    rw [List.map_cons, List.foldl_cons, List.foldl_cons, h.meet hl ho1]
    exact ih _ (meetI_mem hl ho1) (fun o' h' => ho o' (by simp [h']))
theorem Mod.kids (h : Mod a S xs len bod) {i : Nat} (hi : i ∈ S) : kidsA a (xs.getD i 0) = (kidsI len bod i).map (valI xs) ∧ ∀ o ∈ kidsI len bod i, ∀ j, o = some j → j ∈ S := by
  obtain ⟨b, hb, h1, h2, h3⟩ := h.get i hi
  have hs : b.hd.slots = len i := by
    have := congrArg Hd.slots h2
    exact this
  refine ⟨?_, ?_⟩
  · unfold kidsA
    rw [hb]
    simp only
    have hm : b.many = len i := by unfold Ob.many; rw [h1, if_neg (by decide), if_neg (by decide), hs]
    rw [hm, h3, List.take_of_length_le (by simp)]
    unfold kidsI; rw [List.map_map]; rfl
  · intro o ho j hj
    unfold kidsI at ho
    obtain ⟨k, hk, rfl⟩ := List.mem_map.1 ho
    exact h.bod i hi k j (List.mem_range.1 hk) hj
theorem Mod.go (h : Mod a S xs len bod) : ∀ (n i : Nat) (l : List Nat), (∀ i ∈ l, i ∈ S) → goA a n i (l.map fun i => xs.getD i 0) = (goI len bod n i l).map (fun i => xs.getD i 0) ∧ ∀ j ∈ goI len bod n i l, j ∈ S := by
  intro n
  induction n with
  | zero => intro i l hl; exact ⟨rfl, hl⟩
  | succ n ih =>
    intro i l hl
    simp only [goA, goI, List.getElem?_map]
    cases e : l[i]? with
    | none => exact ⟨rfl, hl⟩
    | some o =>
      simp only [Option.map_some]
      have ho := hl o (List.mem_of_getElem? e)
      obtain ⟨k1, k2⟩ := h.kids ho
      obtain ⟨m1, m2⟩ := h.meets (kidsI len bod o) l hl k2
      rw [k1, m1]
      exact ih _ _ m2
theorem Mod.roots (h : Mod a S xs len bod) {st : List Nat} (hst : a.stack = st.map fun i => xs.getD i 0) : rootsA a = List.replicate 4160 0 ++ st.map fun i => xs.getD i 0 := by
  unfold rootsA
  rw [h.sp, h.cl, h.que, hst, List.append_nil, ← List.append_assoc, List.replicate_append_replicate]
theorem Mod.reached (h : Mod a S xs len bod) {st : List Nat} (hst : a.stack = st.map fun i => xs.getD i 0) (hs : ∀ i ∈ st, i ∈ S) : reachedA a = (reachedI S.length len bod st).map (fun i => xs.getD i 0) ∧ ∀ i ∈ reachedI S.length len bod st, i ∈ S := by
  have e0 : (List.replicate 4160 0).foldl (meetA a) [] = [] := by
    have : ∀ n, (List.replicate n 0).foldl (meetA a) [] = [] := by
      intro n
      induction n with
      | zero => rfl
      | succ n ih =>
        rw [List.replicate_succ, List.foldl_cons]
        have : meetA a [] 0 = [] := by unfold meetA; rw [if_neg List.not_mem_nil, h.zero]; rfl
        rw [this]; exact ih
    exact this 4160
  have e1 : rootedA a = ((st.map some).foldl meetI []).map (fun i => xs.getD i 0) ∧ ∀ i ∈ (st.map some).foldl meetI [], i ∈ S := by
    unfold rootedA
    rw [h.roots hst, List.foldl_append, e0]
    have := h.meets (st.map some) [] (by simp) (fun o ho j hj => by
      obtain ⟨i, hi, rfl⟩ := List.mem_map.1 ho
      cases hj; exact hs _ hi)
    rw [List.map_map] at this
    exact this
  unfold reachedA reachedI
  rw [e1.1, h.cnt]
  exact h.go _ _ _ e1.2
theorem Mod.idx (h : Mod a S xs len bod) : ∀ {l : List Nat}, (∀ i ∈ l, i ∈ S) → ∀ {j : Nat}, j ∈ S → (l.map fun i => xs.getD i 0).idxOf (xs.getD j 0) = l.idxOf j := by
  intro l
  induction l with
  | nil => intro _ j _; rfl
  | cons i l ih =>
    intro hl j hj
    rw [List.map_cons, List.idxOf_cons, List.idxOf_cons, ih (fun k hk => hl k (by simp [hk])) hj]
    by_cases e : i = j
    · subst e; simp
    · have : xs.getD i 0 ≠ xs.getD j 0 := fun e' => e (h.inj i (hl i (by simp)) j hj e')
      rw [beq_eq_false_iff_ne.2 this, beq_eq_false_iff_ne.2 e]
theorem Mod.name (h : Mod a S xs len bod) {l : List Nat} (hl : ∀ i ∈ l, i ∈ S) {o : Option Nat} (ho : ∀ j, o = some j → j ∈ S) : nameA (l.map fun i => xs.getD i 0) (valI xs o) = nameI l o := by
  cases o with
  | none =>
    have key : ∀ v, v = 0 → nameA (l.map fun i => xs.getD i 0) v = 0 := fun v hv => by
      unfold nameA
      rw [if_pos (by rw [hv]; decide), hv]
    exact key _ rfl
  | some j =>
    have hj := ho j rfl
    have ht := h.tag j hj
    have key : ∀ v, v = xs.getD j 0 → nameA (l.map fun i => xs.getD i 0) v = nameI l (some j) := fun v hv => by
      unfold nameA
      rw [if_neg (by rw [hv, ht]; decide)]
      by_cases hm : j ∈ l
      · rw [if_pos (by rw [hv]; exact (h.memx hl hj).2 hm), hv, h.idx hl hj]; simp only [nameI, if_pos hm]
      · rw [if_neg (by rw [hv]; exact fun e => hm ((h.memx hl hj).1 e))]; simp only [nameI, if_neg hm]
    exact key _ rfl
theorem Mod.form (h : Mod a S xs len bod) {st : List Nat} (hst : a.stack = st.map fun i => xs.getD i 0) (hs : ∀ i ∈ st, i ∈ S) : formA a = formI S.length len bod st := by
  obtain ⟨r1, r2⟩ := h.reached hst hs
  unfold formA formI
  rw [r1, h.roots hst, hst, h.que, List.length_map, List.length_map, List.map_append, List.map_replicate]
  have e1 : nameA ((reachedI S.length len bod st).map fun i => xs.getD i 0) 0 = 0 := h.name r2 (o := none) (fun j hj => by cases hj)
  rw [e1, List.map_map]
  generalize List.replicate 4160 0 = Z
  congr 1
  · congr 2
    apply List.map_congr_left
    intro j hj
    exact h.name r2 (o := some j) (fun k hk => by cases hk; exact hs _ hj)
  · rw [List.flatMap_map]
    rw [List.flatMap_def, List.flatMap_def]
    congr 1
    apply List.map_congr_left
    intro i hi
    have hiS := r2 i hi
    obtain ⟨b, hb, h1, h2, h3⟩ := h.get i hiS
    obtain ⟨k1, k2⟩ := h.kids hiS
    have hs : b.hd.slots = len i := congrArg Hd.slots h2
    unfold oneA oneI
    rw [hb]
    simp only
    rw [h2, hs, k1, List.map_map]
    have hr : restA b = [] := by
      unfold restA
      rw [h1, if_neg (by decide)]
      unfold Ob.bytesI
      rw [h1, if_pos (by decide)]
      rfl
    rw [hr, List.append_nil]
    congr 1
    apply List.map_congr_left
    intro o ho
    exact h.name r2 (k2 o ho)
theorem Mod.nil (E S B P : Nat) (xs : List Nat) (len : Nat → Nat) : Mod (newH E S B P) [] xs len (fun _ _ => none) :=
  ⟨rfl, .nil, by simp, by simp, by simp, by simp, rfl, rfl, rfl, rfl⟩
theorem Mod.add {x y : HW} (hx : HOk x) (hy : HOk y) (h : Mod x.a S xs len bod) {i w : Nat} (hi : i ∉ S) (hil : i < xs.length) (hn : ∀ k, bod i k = none)
    (ho : y.a.obs = updO w (fillB (len i) 0) (insO (newO w (hdOf i 1 (len i))) x.a.obs)) (hsp : y.a.sp = x.a.sp) (hcl : y.a.cl = x.a.cl) (hq : y.a.queue = x.a.queue) : Mod y.a (S ++ [i]) (xs.set i (8 * w)) len bod := by
  have hsort : (insO (newO w (hdOf i 1 (len i))) x.a.obs).Pairwise fun a b => a.stop ≤ b.at_ := by
    have h1 := hy.lay.sort
    rw [ho] at h1
    unfold updO at h1
    rw [List.pairwise_map] at h1
    refine h1.imp (fun {c d} hcd => ?_)
    have e1 : ∀ c : Ob, (if c.at_ = w then fillB (len i) 0 c else c).at_ = c.at_ := fun c => by split <;> rfl
    have e2 : ∀ c : Ob, (if c.at_ = w then fillB (len i) 0 c else c).stop = c.stop := fun c => by split <;> rfl
    rw [e1, e2] at hcd; exact hcd
  have hgo : ∀ o, getO y.a.obs o = (if o = 8 * w then some (newO w (hdOf i 1 (len i))) else getO x.a.obs o).map fun b => if b.at_ = w then fillB (len i) 0 b else b := fun o => by
    rw [ho, getO_updO (keep_fillB _ _), getO_insO hsort]; rfl
  have hnew := insO_new hsort
  have hold : ∀ o b, getO x.a.obs o = some b → o ≠ 8 * w ∧ getO y.a.obs o = some b := fun o b hb => by
    obtain ⟨h1, rfl⟩ := getO_some hb
    have hne : b.at_ ≠ w := hnew b h1
    have h2 : b.oop ≠ 8 * w := fun e => hne (by unfold Ob.oop at e; omega)
    exact ⟨h2, by rw [hgo, if_neg h2, hb]; simp only [Option.map_some, if_neg hne]⟩
  have hnw : getO y.a.obs (8 * w) = some ⟨w, hdOf i 1 (len i), List.replicate (len i) 0⟩ := by
    rw [hgo, if_pos rfl]
    simp only [Option.map_some, newO, ↓reduceIte, fillB, hdOf]
    simp
  have hr := hy.range (getO_some hnw).1
  simp only at hr
  have hset : ∀ j ∈ S, (xs.set i (8 * w)).getD j 0 = xs.getD j 0 := fun j hj => by
    have : j ≠ i := fun e => hi (e ▸ hj)
    rw [List.getD_eq_getElem?_getD, List.getElem?_set_ne (fun e => this e.symm), ← List.getD_eq_getElem?_getD]
  have hself : (xs.set i (8 * w)).getD i 0 = 8 * w := by rw [List.getD_eq_getElem?_getD, List.getElem?_set_self hil]; rfl
  have hoS : ∀ j ∈ S, xs.getD j 0 ≠ 8 * w := fun j hj => by
    obtain ⟨b, hb, _⟩ := h.get j hj
    exact (hold _ b hb).1
  refine ⟨?_, ?_, ?_, ?_, ?_, ?_, ?_, hsp.trans h.sp, hcl.trans h.cl, hq.trans h.que⟩
  · rw [ho]; unfold updO; rw [List.length_map, insO_length, h.cnt]; simp
  · rw [List.nodup_append]
    exact ⟨h.nod, by simp, fun a ha b hb e => by rw [List.mem_singleton.1 hb] at e; exact hi (e ▸ ha)⟩
  · intro j hj k hk e
    rcases List.mem_append.1 hj with hj' | hj' <;> rcases List.mem_append.1 hk with hk' | hk'
    · rw [hset j hj', hset k hk'] at e; exact h.inj j hj' k hk' e
    · have e2 := List.mem_singleton.1 hk'
      rw [hset j hj', e2, hself] at e; exact absurd e (hoS j hj')
    · have e2 := List.mem_singleton.1 hj'
      rw [e2, hself, hset k hk'] at e; exact absurd e.symm (hoS k hk')
    · rw [List.mem_singleton.1 hj', List.mem_singleton.1 hk']
  · intro j hj
    rcases List.mem_append.1 hj with hj | hj
    · rw [hset j hj]; exact h.tag j hj
    · obtain rfl := List.mem_singleton.1 hj
      rw [hself]; exact tagO_obj hr.1 hr.2
  · intro j hj
    rcases List.mem_append.1 hj with hj | hj
    · obtain ⟨b, hb, h1, h2, h3⟩ := h.get j hj
      refine ⟨b, by rw [hset j hj]; exact (hold _ b hb).2, h1, h2, ?_⟩
      rw [h3]
      apply List.map_congr_left
      intro k hk
      cases e : bod j k with
      | none => rfl
      | some m => exact (hset m (h.bod j hj k m (List.mem_range.1 hk) e)).symm
    · obtain rfl := List.mem_singleton.1 hj
      refine ⟨_, by rw [hself]; exact hnw, rfl, rfl, ?_⟩
      rw [show (fun k => valI (xs.set j (8 * w)) (bod j k)) = fun _ => 0 from by funext k; rw [hn k]; rfl, List.map_const', List.length_range]
  · intro j hj k m hk e
    rcases List.mem_append.1 hj with hj | hj
    · exact List.mem_append_left _ (h.bod j hj k m hk e)
    · obtain rfl := List.mem_singleton.1 hj
      rw [hn k] at e; cases e
  · rw [hgo, h.zero, if_neg (by omega)]; rfl
theorem Mod.congr (h : Mod a S xs len bod) {bod' : Nat → Nat → Option Nat} (e : ∀ i ∈ S, ∀ k, k < len i → bod' i k = bod i k) : Mod a S xs len bod' := by
  refine ⟨h.cnt, h.nod, h.inj, h.tag, fun i hi => ?_, fun i hi k j hk hj => h.bod i hi k j hk (by rw [← e i hi k hk]; exact hj), h.zero, h.sp, h.cl, h.que⟩
  obtain ⟨b, hb, h1, h2, h3⟩ := h.get i hi
  refine ⟨b, hb, h1, h2, h3.trans ?_⟩
  apply List.map_congr_left
  intro k hk
  rw [e i hi k (List.mem_range.1 hk)]
theorem setA_obs (a : AH) (b : Ob) (k v : Nat) : ∃ f : Ob → Ob, Keep f ∧ (setA a b k v).obs = updO b.at_ f a.obs ∧ (∀ c, plainH (f c).hd = plainH c.hd ∧ (f c).hd.fmt = c.hd.fmt ∧ (f c).body = c.body.set k v) ∧ (setA a b k v).noted.length ≤ a.noted.length + 1 ∧
    (setA a b k v).sp = a.sp ∧ (setA a b k v).cl = a.cl ∧ (setA a b k v).queue = a.queue ∧ (setA a b k v).stack = a.stack := by
  have h0 : ∃ f : Ob → Ob, Keep f ∧ (slotA a b k v).obs = updO b.at_ f a.obs ∧ (∀ c, plainH (f c).hd = plainH c.hd ∧ (f c).hd.fmt = c.hd.fmt ∧ (f c).body = c.body.set k v) ∧ (slotA a b k v).noted.length ≤ a.noted.length + 1 ∧
    (slotA a b k v).sp = a.sp ∧ (slotA a b k v).cl = a.cl ∧ (slotA a b k v).queue = a.queue ∧ (slotA a b k v).stack = a.stack :=
    ⟨V.setB k v, keep_setB k v, rfl, fun c => ⟨rfl, rfl, rfl⟩, Nat.le_succ _, rfl, rfl, rfl, rfl⟩
  unfold setA
  split
  · unfold noteA
    split
    · exact h0
    · refine ⟨fun c => setH setNoted (V.setB k v c), ⟨fun _ => rfl, fun _ => rfl⟩, ?_, fun c => ⟨rfl, rfl, rfl⟩, ?_, rfl, rfl, rfl, rfl⟩
      · exact updO_updO (keep_setB k v)
      · simp [slotA]
  · exact h0
theorem Mod.slot {x : HW} (hx : HOk x) (h : Mod x.a S xs len bod) {i k j : Nat} (hi : i ∈ S) (hk : k < len i) (hj : j ∈ S) {b : Ob} (hb : getO x.a.obs (xs.getD i 0) = some b) :
    Mod (setA x.a b k (xs.getD j 0)) S xs len (fun i' k' => if i' = i ∧ k' = k then some j else bod i' k') := by
  obtain ⟨f, hf, ho, hc, _, hsp, hcl, hq, _⟩ := setA_obs x.a b k (xs.getD j 0)
  obtain ⟨hbm, hbo⟩ := getO_some hb
  have hgo : ∀ o, getO (setA x.a b k (xs.getD j 0)).obs o = (getO x.a.obs o).map fun c => if c.at_ = b.at_ then f c else c := fun o => by rw [ho, getO_updO hf]
  refine ⟨by rw [ho]; unfold updO; rw [List.length_map, h.cnt], h.nod, h.inj, h.tag, ?_, ?_, by rw [hgo, h.zero]; rfl, hsp.trans h.sp, hcl.trans h.cl, hq.trans h.que⟩
  · intro i' hi'
    obtain ⟨b', hb', h1, h2, h3⟩ := h.get i' hi'
    by_cases e : i' = i
    · subst e
      rw [hb] at hb'; cases hb'
      refine ⟨f b, by rw [hgo, hb]; simp, by rw [(hc b).2.1]; exact h1, by rw [(hc b).1]; exact h2, ?_⟩
      rw [(hc b).2.2, h3]
      apply List.ext_getElem?
      intro m
      by_cases hm : k = m
      · subst hm
        rw [List.getElem?_set_self (by simpa using hk), List.getElem?_map, List.getElem?_range hk]
        simp [valI]
      · rw [List.getElem?_set_ne hm, List.getElem?_map, List.getElem?_map]
        by_cases hl : m < len i'
        · rw [List.getElem?_range hl]
          simp [Ne.symm hm]
        · rw [List.getElem?_eq_none (by simpa using hl)]; rfl
    · have hne : b'.at_ ≠ b.at_ := fun e2 => by
        obtain ⟨_, hbo'⟩ := getO_some hb'
        exact e (h.inj i' hi' i hi (by rw [← hbo, ← hbo']; unfold Ob.oop; omega))
      refine ⟨b', by rw [hgo, hb']; simp [hne], h1, h2, ?_⟩
      rw [h3]
      apply List.map_congr_left
      intro m _
      simp [e]
  · intro i' hi' k' m hk' e
    split at e
    · cases e; exact hj
    · exact h.bod i' hi' k' m hk' e
end
end Go.V

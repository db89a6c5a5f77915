/-
  A whole world as memory; what is read of old blocks reads the same behind a call that leaves them.
-/
import Derived.Test.YtmlnoodopoaafaaDoorV5
import Derived.ChangeOld
import Derived.RowKit3
import Derived.ChangeSame
import Derived.ChangeSlices
import Derived.RowKit
import Derived.Test.YtmlnoodopoaafaaDoorV8
import Derived.Deep.Slices
import Derived.Deep.Fields
set_option linter.unusedSimpArgs false
set_option linter.unusedVariables false
namespace Go.V
open Go
theorem holds_loc {w : World} {a b : Atom} (ha : a.holds w) (hb : b.holds w) (h : a.loc = b.loc) : a = b := by
  cases a with
  | cell i k v =>
    cases b with
    | cell j l u =>
      simp only [Atom.loc, Prod.mk.injEq, Option.some.injEq] at h
      obtain ⟨rfl, rfl⟩ := h
      obtain ⟨c, t, lo, hi, h1, h2, _⟩ := ha
      obtain ⟨c', t', lo', hi', h3, h4, _⟩ := hb
      rw [h1] at h3
      cases h3
      rw [h2] at h4
      cases h4
      rfl
    | obj j o => simp [Atom.loc] at h
    | row j n => simp [Atom.loc] at h
  | row i n =>
    obtain ⟨c, t, lo, hi, h1, h2⟩ := ha
    cases b with
    | cell j l u => simp [Atom.loc] at h
    | obj j p =>
      simp only [Atom.loc, Prod.mk.injEq, and_true] at h
      subst h
      have h3 := hb.1
      rw [h1] at h3
      cases h3
      exact absurd hb.2 (by simp [isCells])
    | row j m =>
      simp only [Atom.loc, Prod.mk.injEq, and_true] at h
      subst h
      obtain ⟨c', t', lo', hi', h3, h4⟩ := hb
      rw [h1] at h3
      cases h3
      rw [h2] at h4
      rw [h4]
  | obj i o =>
    cases b with
    | cell j l u => simp [Atom.loc] at h
    | obj j p =>
      simp only [Atom.loc, Prod.mk.injEq, and_true] at h
      subst h
      have h1 := ha.1
      rw [hb.1] at h1
      cases h1
      rfl
    | row j n =>
      simp only [Atom.loc, Prod.mk.injEq, and_true] at h
      subst h
      obtain ⟨c, t, lo, hi, h1, h2⟩ := hb
      have h3 := ha.1
      rw [h1] at h3
      cases h3
      exact absurd ha.2 (by simp [isCells])
theorem sat_of_list {w : World} : ∀ L : List Atom, (∀ a ∈ L, a.holds w) → ∃ L', Sat w L' ∧ ∀ a ∈ L, a ∈ L' := by
  intro L
  induction L with
  | nil => intro _; exact ⟨[], ⟨by simp, by simp⟩, by simp⟩
  | cons x L ih =>
    intro h
    obtain ⟨L', h1, h2⟩ := ih (fun a ha => h a (by simp [ha]))
    by_cases hx : x.loc ∈ L'.map Atom.loc
    · obtain ⟨y, hy, e⟩ := List.mem_map.1 hx
      have : y = x := holds_loc (h1.holds y hy) (h x (by simp)) e
      subst this
      refine ⟨L', h1, fun a ha => ?_⟩
      rcases List.mem_cons.1 ha with rfl | ha
      · exact hy
      · exact h2 a ha
    · refine ⟨x :: L', ⟨fun a ha => ?_, by simp only [List.map_cons, List.nodup_cons]; exact ⟨hx, h1.nodup⟩⟩, fun a ha => ?_⟩
      · rcases List.mem_cons.1 ha with rfl | ha
        · exact h a (by simp)
        · exact h1.holds a ha
      · rcases List.mem_cons.1 ha with rfl | ha
        · simp
        · simp [h2 a ha]
def blockAtoms (w : World) (i : Nat) : List Atom := match w.heap[i]? with
  | some (.cells c _ (lo, hi)) => .row i c.size :: (List.range c.size).filterMap fun j => if lo ≤ j ∧ j < hi then none else (c[j]?).map fun v => .cell i j v
  | some o => [.obj i o]
  | none => []
theorem sat_all (w : World) : ∃ L, Sat w L ∧ ∀ a : Atom, a.holds w → a ∈ L := by
  obtain ⟨L, h1, h2⟩ := sat_of_list (w := w) ((List.range w.heap.size).flatMap (blockAtoms w)) (by
    intro a ha
    obtain ⟨i, _, ha⟩ := List.mem_flatMap.1 ha
    unfold blockAtoms at ha
    split at ha
    · rename_i c t lo hi hb
      rcases List.mem_cons.1 ha with rfl | ha
      · exact ⟨c, t, lo, hi, hb, rfl⟩
      obtain ⟨j, _, hj⟩ := List.mem_filterMap.1 ha
      split at hj
      · cases hj
      · rename_i hf
        simp only [Option.map_eq_some_iff] at hj
        obtain ⟨v, hv, rfl⟩ := hj
        exact ⟨c, t, lo, hi, hb, hv, hf⟩
    · rename_i o hne hb
      simp only [List.mem_singleton] at ha
      subst ha
      refine ⟨hb, ?_⟩
      cases o <;> first | rfl | (rename_i c t fr; exact absurd rfl (hne c t fr.1 fr.2))
    · cases ha)
  refine ⟨L, h1, fun a ha => h2 a ?_⟩
  cases a with
  | cell i k v =>
    obtain ⟨c, t, lo, hi, hb, hv, hf⟩ := ha
    have hi' : i < w.heap.size := by
      rcases Nat.lt_or_ge i w.heap.size with h | h
      · exact h
      · rw [Array.getElem?_eq_none h] at hb; cases hb
    refine List.mem_flatMap.2 ⟨i, List.mem_range.2 hi', ?_⟩
    unfold blockAtoms
    rw [hb]
    refine List.mem_cons_of_mem _ (List.mem_filterMap.2 ⟨k, List.mem_range.2 (Array.getElem?_eq_some_iff.1 hv).1, ?_⟩)
    rw [if_neg hf, hv]; rfl
  | row i n =>
    obtain ⟨c, t, lo, hi, hb, rfl⟩ := ha
    have hi' : i < w.heap.size := by
      rcases Nat.lt_or_ge i w.heap.size with h | h
      · exact h
      · rw [Array.getElem?_eq_none h] at hb; cases hb
    refine List.mem_flatMap.2 ⟨i, List.mem_range.2 hi', ?_⟩
    unfold blockAtoms
    rw [hb]
    exact List.mem_cons_self ..
  | obj i o =>
    obtain ⟨hb, hc⟩ := ha
    have hi' : i < w.heap.size := by
      rcases Nat.lt_or_ge i w.heap.size with h | h
      · exact h
      · rw [Array.getElem?_eq_none h] at hb; cases hb
    refine List.mem_flatMap.2 ⟨i, List.mem_range.2 hi', ?_⟩
    unfold blockAtoms
    rw [hb]
    cases o <;> first | (simp; done) | (simp [isCells] at hc)
theorem old_same {w w' : World} {L : List Atom} (hL : ∀ a : Atom, a.holds w → a ∈ L) (hs : Sat w' L) (hk : Keeps w w') : ∀ i, i < w.heap.size → w'.heap[i]? = w.heap[i]? := by
  intro i hi
  have hb : w.heap[i]? = some w.heap[i] := Array.getElem?_eq_getElem hi
  generalize w.heap[i] = o at hb
  rw [hb]
  by_cases hc : isCells o = false
  · exact (hs.holds _ (hL (.obj i o) ⟨hb, hc⟩)).1
  · cases o <;> first | (exact absurd rfl hc) | skip
    rename_i c t fr
    obtain ⟨lo, hi2⟩ := fr
    obtain ⟨c', h1, h2, h3⟩ := hk.cells i c t lo hi2 hb
    rw [h1]
    congr 2
    apply Array.ext h2
    intro j hj1 hj2
    by_cases hf : lo ≤ j ∧ j < hi2
    · have := h3 j hf
      rw [Array.getElem?_eq_getElem hj1, Array.getElem?_eq_getElem hj2] at this
      exact Option.some.inj this
    · obtain ⟨c2, t2, lo2, hi3, g1, g2, _⟩ := hs.holds _ (hL (.cell i j c[j]) ⟨c, t, lo, hi2, hb, Array.getElem?_eq_getElem hj2, hf⟩)
      rw [h1] at g1
      cases g1
      rw [Array.getElem?_eq_getElem hj1] at g2
      exact Option.some.inj g2
theorem mapM_mono {α β : Type} {f g : α → Option β} : ∀ {l : List α} {r : List β}, (∀ x ∈ l, ∀ y, f x = some y → g x = some y) → l.mapM f = some r → l.mapM g = some r := by
  intro l
  induction l with
  | nil => intro r _ h; simpa using h
  | cons a l ih =>
    intro r hfg h
    simp only [List.mapM_cons, Option.bind_eq_bind, Option.pure_def, Option.bind_eq_some_iff] at h ⊢
    obtain ⟨y, h1, ys, h2, h3⟩ := h
    exact ⟨y, hfg a (by simp) y h1, ys, ih (fun x hx => hfg x (by simp [hx])) h2, h3⟩
theorem cells?_same {w w' : World} (hold : ∀ i, i < w.heap.size → w'.heap[i]? = w.heap[i]?) {base n : Nat} {a : Addr} {cs : List Value} (h : w.cells? base a n = some cs) : w'.cells? base a n = some cs := by
  unfold World.cells? at h ⊢
  split at h
  · rename_i hb
    rw [if_pos hb]
    refine mapM_mono (fun i _ v hv => ?_) h
    have hlt := World.block_lt_of_cell? w _ hv
    unfold World.cell? at hv ⊢
    rw [hold _ hlt]; exact hv
  · cases h
section
variable {H : Type} {enc : TypeId × Value → H} {P : Program} {w w' : World} {base : Nat} {sp : Nat → Bool} {held : Bool}
structure Closed (P : Program) (ok : TypeId → Prop) : Prop where
  ptr : ∀ t e, ok t → P.underlying t = some (.pointer e) → ok e
  slice : ∀ t e, ok t → P.underlying t = some (.slice e) → ok e ∧ 0 < P.cellsOf e
  struct : ∀ t fs, ok t → P.underlying t = some (.struct fs) → ∀ f ∈ fs.toList, ok f.type
  array : ∀ t n e, ok t → P.underlying t = some (.array n e) → ok e
  map : ∀ t k e, ok t → P.underlying t = some (.map k e) → ok e
def closedB (P : Program) (S : List TypeId) : Bool := S.all fun t => match P.underlying t with
  | some (.pointer e) => S.contains e
  | some (.slice e) => S.contains e && decide (0 < P.cellsOf e)
  | some (.struct fs) => fs.toList.all fun f => S.contains f.type
  | some (.array _ e) => S.contains e
  | some (.map _ e) => S.contains e
  | _ => true
theorem closed_of {S : List TypeId} (h : closedB P S = true) : Closed P (· ∈ S) := by
  have h' := List.all_eq_true.1 h
  refine ⟨fun t e ht hu => ?_, fun t e ht hu => ?_, fun t fs ht hu f hf => ?_, fun t n e ht hu => ?_, fun t k e ht hu => ?_⟩
  all_goals have := h' t ht
  all_goals rw [hu] at this
  all_goals simp only [List.contains_iff_mem, Bool.and_eq_true, decide_eq_true_eq, List.all_eq_true] at this
  · exact this
  · exact this
  · exact this f hf
  · exact this
  · exact this
theorem trodStep_same {ok : TypeId → Prop} (hcl : Closed P ok) (hold : ∀ i, i < w.heap.size → w'.heap[i]? = w.heap[i]?) (hsp : ∀ b, b < w.heap.size → sp b = true)
    {r r' : TypeId → List Value → Option (DataW H × List MemPlace)} (hr : ∀ t cs x, ok t → r t cs = some x → r' t cs = some x) {t : TypeId} {cs : List Value} {x : DataW H × List MemPlace} (ht : ok t)
    (h : DataW.trodStep enc P w base (fun _ => true) true r t cs = some x) : DataW.trodStep enc P w' base sp true r' t cs = some x := by
  unfold DataW.trodStep at h
  split at h
  case h_1 hu => unfold DataW.trodStep; simp only [hu]; exact h
  case h_2 hu => unfold DataW.trodStep; simp only [hu]; exact h
  case h_3 hu => unfold DataW.trodStep; simp only [hu]; exact h
  case h_4 hu => unfold DataW.trodStep; simp only [hu]; exact h
  case h_5 hu => unfold DataW.trodStep; simp only [hu]; exact h
  case h_6 e a hu =>
    unfold DataW.trodStep; simp only [hu]
    simp only [Option.map_eq_some_iff, Option.bind_eq_some_iff] at h ⊢
    obtain ⟨y, ⟨cs', hc, hy⟩, hx⟩ := h
    exact ⟨y, ⟨cs', cells?_same hold hc, hr _ _ _ (hcl.ptr t e ht hu) hy⟩, hx⟩
  case h_7 hu => unfold DataW.trodStep; simp only [hu]; exact h
  case h_8 e a len cap hu =>
    unfold DataW.trodStep; simp only [hu]
    obtain ⟨hoe, hpos⟩ := hcl.slice t e ht hu
    simp only at h
    split at h
    · rename_i hb
      rw [if_pos hb]
      simp only [Option.map_eq_some_iff, Option.bind_eq_some_iff, if_true] at h ⊢
      obtain ⟨elems, he, rest, hrest, hx⟩ := h
      have one : ∀ i y, (w.cells? base (a.add (i * P.cellsOf e)) (P.cellsOf e)).bind (r e) = some y → (w'.cells? base (a.add (i * P.cellsOf e)) (P.cellsOf e)).bind (r' e) = some y := by
        intro i y hy
        simp only [Option.bind_eq_some_iff] at hy ⊢
        obtain ⟨cs', hc, hy⟩ := hy
        exact ⟨cs', cells?_same hold hc, hr _ _ _ hoe hy⟩
      have hb' : (cap - len = 0) ∨ a.block < w.heap.size := by
        rcases Nat.eq_zero_or_pos (cap - len) with h0 | h0
        · exact .inl h0
        · right
          have hne : rest ≠ [] := by
            intro hn
            subst hn
            have := congrArg List.length (show [] = _ from rfl : ([] : List Nat) = [])
            have hlen : ∀ {l : List Nat} {g : Nat → Option (DataW H × List MemPlace)} {q : List (DataW H × List MemPlace)}, l.mapM g = some q → q.length = l.length := by
              intro l g
              induction l with
              | nil => intro q hq; simp at hq; subst hq; rfl
              | cons a l ih =>
                intro q hq
                simp only [List.mapM_cons, Option.bind_eq_bind, Option.pure_def, Option.bind_eq_some_iff] at hq
                obtain ⟨y, _, ys, h2, h3⟩ := hq
                cases h3
                simp [ih h2]
            have := hlen hrest
            simp at this; omega
          obtain ⟨y, hy⟩ := List.exists_mem_of_ne_nil _ hne
          obtain ⟨j, _, hj⟩ := mapM_mem_of hrest y hy
          simp only [Option.bind_eq_some_iff] at hj
          obtain ⟨cs', hc, _⟩ := hj
          have := World.cells?_block hc hpos
          have e1 : (a.add ((len + j) * P.cellsOf e)).block = a.block := by unfold Addr.add; split <;> rfl
          rw [e1] at this
          exact this
      refine ⟨elems, mapM_mono (fun i _ y hy => one i y hy) he, rest, ?_, hx⟩
      rcases hb' with h0 | h0
      · rw [h0] at hrest ⊢
        simp at hrest ⊢
        subst hrest
        rfl
      · rw [hsp _ h0]
        exact mapM_mono (fun i _ y hy => one _ y hy) hrest
    · cases h
  case h_9 fs hu =>
    unfold DataW.trodStep; simp only [hu]
    split at h
    · rename_i hl
      rw [if_pos hl]
      simp only [Option.map_eq_some_iff] at h ⊢
      obtain ⟨xs, hx, e⟩ := h
      exact ⟨xs, mapM_mono (fun f hf y hy => hr _ _ _ (hcl.struct t fs ht hu f hf) hy) hx, e⟩
    · cases h
  case h_10 n e hu =>
    unfold DataW.trodStep; simp only [hu]
    split at h
    · rename_i hl
      rw [if_pos hl]
      simp only [Option.map_eq_some_iff] at h ⊢
      obtain ⟨xs, hx, e1⟩ := h
      exact ⟨xs, mapM_mono (fun f _ y hy => hr _ _ _ (hcl.array t n e ht hu) hy) hx, e1⟩
    · cases h
  case h_11 hu => unfold DataW.trodStep; simp only [hu]; exact h
  case h_12 u v hu =>
    unfold DataW.trodStep; simp only [hu]
    exact h
  case h_13 hu => unfold DataW.trodStep; simp only [hu]; exact h
  case h_14 k e b hu =>
    unfold DataW.trodStep; simp only [hu]
    split at h
    · rename_i es clock hb
      have hlt : b < w.heap.size := by
        rcases Nat.lt_or_ge b w.heap.size with h' | h'
        · exact h'
        · simp [Array.getElem?_eq_none h'] at hb
      rw [hold b hlt, hb]
      dsimp only
      split at h
      · rename_i hc
        rw [if_pos hc]
        simp only [Option.bind_eq_some_iff] at h ⊢
        obtain ⟨entries, he, hd⟩ := h
        refine ⟨entries, mapM_mono (fun x _ y hy => ?_) he, hd⟩
        obtain ⟨key, hk, hz'⟩ := Option.bind_eq_some_iff.1 hy
        refine Option.bind_eq_some_iff.2 ⟨key, hk, ?_⟩
        split at hz'
        · rename_i hf
          rw [if_pos hf]
          simp only [Option.map_eq_some_iff] at hz' ⊢
          obtain ⟨q, hq, e⟩ := hz'
          exact ⟨q, hr _ _ _ (hcl.map t k _ ht hu) hq, e⟩
        · cases hz'
      · cases h
    · cases h
  case h_15 hu => unfold DataW.trodStep; simp only [hu]; exact h
  case h_16 hu => unfold DataW.trodStep; simp only [hu]; exact h
  case h_17 hu => unfold DataW.trodStep; simp only [hu]; exact h
  case h_18 hu => unfold DataW.trodStep; simp only [hu]; exact h
  case h_19 hu => unfold DataW.trodStep; simp only [hu]; exact h
  case h_20 hu => unfold DataW.trodStep; simp only [hu]; exact h
  case h_21 => cases h
theorem trod_same {ok : TypeId → Prop} (hcl : Closed P ok) (hold : ∀ i, i < w.heap.size → w'.heap[i]? = w.heap[i]?) (hsp : ∀ b, b < w.heap.size → sp b = true) :
    ∀ (n : Nat) (t : TypeId) (cs : List Value) (x : DataW H × List MemPlace), ok t → DataW.trod enc P w base (fun _ => true) true n t cs = some x → DataW.trod enc P w' base sp true n t cs = some x := by
  intro n
  induction n with
  | zero => intro t cs x _ h; simp [DataW.trod] at h
  | succ n ih =>
    intro t cs x ht h
    rw [DataW.trod_step] at h ⊢
    exact trodStep_same hcl hold hsp ih ht h
theorem trodAll_same {ok : TypeId → Prop} (hcl : Closed P ok) (hold : ∀ i, i < w.heap.size → w'.heap[i]? = w.heap[i]?) (hsp : ∀ b, b < w.heap.size → sp b = true) :
    ∀ {ts : List TypeId} {vs : List Value} {ds : List (DataW H)} {ps : List MemPlace}, (∀ t ∈ ts, ok t) → DataW.TrodAll enc P w base (fun _ => true) true ts vs ds ps → DataW.TrodAll enc P w' base sp true ts vs ds ps
  | [], [], [], _, _, h => h
  | _ :: _, _ :: _, _ :: _, _, ho, ⟨p, q, ⟨n, h1⟩, h2, e⟩ => ⟨p, q, ⟨n, trod_same hcl hold hsp n _ _ _ (ho _ (by simp)) h1⟩, trodAll_same hcl hold hsp (fun t ht => ho t (by simp [ht])) h2, e⟩
end
open Go Go.ChangeShapes Go.WideShapes
section
variable {H : Type} {enc : TypeId × Value → H} {P : Program}
theorem glue {f : FuncId} {fn : Func} {s : ChangeSpec} {rt : TypeId} {apart fresh handsOn : Bool} {W : World} {args : List Value} {ds gs : List (DataW H)} {before : List MemPlace}
    (hvars : s.vars = []) (hrt : fn.resultTypes = #[rt]) (hb : P.underlying rt = some .bool) (hfn : s.fn H (ds ++ gs) = { results := [.lit (.bool true)], args := ds })
    {ok : TypeId → Prop} (hcl : Closed P ok) (hok : ∀ t ∈ fn.params.toList, ok t) (hW : DataW.Whole enc P fn.params.toList s.vars apart W args ds gs before)
    (hF : ∀ A, (∀ a : Atom, a.holds W → a ∈ A) → Fun P f args [A] fun v Post => v = .bool true ∧ Post = [A]) :
    Calls P f args.toArray W fun e W' => ∃ v, e = .returned v ∧ s.post enc P fn apart fresh handsOn false W args.toArray v W' := by
  obtain ⟨A, hA, hall⟩ := sat_all W
  have h := (hF A hall).2 [] W (by simpa using hA)
  refine h.mono ?_
  rintro e W' ⟨v, Post, rfl, ⟨rfl, rfl⟩, hs, hk⟩
  have hs' : Sat W' A := by simpa using hs
  have hold := old_same hall hs' hk
  refine ⟨_, rfl, ds, gs, before, [], before, [], by simpa using hW, ?_, ?_, ?_, ?_, fun h => by cases h⟩
  · rw [hrt, hfn]
    exact trodAll_mk1 ⟨1, by simp [DataW.trod, hb, Value.cells]⟩
  · obtain ⟨p, q, h1, h2, h3, _, _⟩ := hW
    rw [hvars] at h2
    obtain ⟨rfl, rfl⟩ := trodVars_none h2
    rw [hfn]
    simp only [List.append_nil] at h3
    subst h3
    simpa using trodAll_same hcl hold (fun b hb => by simpa using hb) hok h1
  · rw [hfn, hvars]; rfl
  · refine ⟨hk.os, hk.output, fun i hi => ?_⟩
    rw [hold i hi]
    have : W.heap[i]? = some W.heap[i] := Array.getElem?_eq_getElem hi
    generalize W.heap[i] = o at this
    rw [this]
    cases o <;> first | exact ⟨rfl, rfl, rfl, fun _ _ => rfl⟩ | exact .inr ⟨rfl, rfl⟩ | rfl
theorem holds_cell {W : World} {b o : Nat} {v : Value} (h : W.cell? ⟨b, o, none⟩ = some v) (hf : W.frozen? ⟨b, o, none⟩ = false) : (Atom.cell b o v).holds W := by
  unfold World.cell? at h
  unfold World.frozen? at hf
  split at h
  · rename_i c t fr hb
    obtain ⟨lo, hi⟩ := fr
    simp only at hb hf h
    rw [hb] at hf
    simp only [Bool.and_eq_false_iff, decide_eq_false_iff_not] at hf
    refine ⟨c, t, lo, hi, hb, by simpa using h, fun hh => ?_⟩
    rcases hf with hf | hf
    · exact hf hh.1
    · exact hf hh.2
  · cases h
theorem slice_form {W : World} {base : Nat} {t e : TypeId} {v : Value} (ht : P.underlying t = some (.slice e)) (hv : Value.okWide P W .any base t v) :
    v = .slice none 0 0 ∨ ∃ b o len cap, v = .slice (some ⟨b, o, none⟩) len cap ∧ len ≤ cap := by
  cases v <;> simp only [Value.okWide, ht, Cell.okWide, Cell.ok] at hv
  rename_i a len cap
  cases a with
  | none =>
    left
    split at hv <;> simp_all
  | some a =>
    right
    obtain ⟨b, o, sp⟩ := a
    obtain ⟨h1, _, _, h2, _⟩ := hv
    simp only at h2
    subst h2
    exact ⟨b, o, len, cap, rfl, h1⟩
end
open Go Go.ChangeShapes Go.WideShapes Go.Deep
inductive SC where
  | int (k : IntKind)
  | str
def SC.ok : SC → Value → Prop
  | .int k, v => ∃ n, v = .int k n ∧ (Lit.int k n).wf = true
  | .str, v => ∃ s : ByteArray, v = .string s ∧ s.size ≤ maxLen
section
variable {H : Type} {enc : TypeId × Value → H} {P : Program} {W : World} {base : Nat}
theorem add_addr (b o i : Nat) : (⟨b, o, none⟩ : Addr).add i = ⟨b, o + i, none⟩ := by
  unfold Addr.add
  split
  · rename_i h0
    have : i = 0 := by simpa using h0
    subst this; rfl
  · rfl
theorem choose_rows {α : Type} {Q : Nat → α → Prop} {n : Nat} (h : ∀ i, i < n → ∃ x, Q i x) : ∃ l : List α, l.length = n ∧ ∀ i x, l[i]? = some x → Q i x := by
  induction n with
  | zero => exact ⟨[], rfl, by simp⟩
  | succ n ih =>
    obtain ⟨l, h1, h2⟩ := ih (fun i hi => h i (by omega))
    obtain ⟨x, hx⟩ := h n (by omega)
    refine ⟨l ++ [x], by simp [h1], fun i y hy => ?_⟩
    by_cases hi : i < l.length
    · rw [List.getElem?_append_left hi] at hy; exact h2 i y hy
    · rw [List.getElem?_append_right (by omega)] at hy
      have : i = n := by
        have := (List.getElem?_eq_some_iff.1 hy).1
        simp at this; omega
      subst this
      simp [h1] at hy
      subst hy; exact hx
end
end Go.V

/-
  A datum that was read from old blocks is read again behind a call that leaves them.
-/
import Derived.Test.YtmpdaalhafkgjaaGreatDoorV11
import Derived.ChangeSame
import Derived.ChangeSlices
import Derived.RowKit
import Derived.Test.YtmpdaalhafkgjaaGreatDoorV7
import Derived.Deep.Slices
import Derived.Deep.Fields
import Derived.Test.YtmpdaalhafkgjaaGreatDoorV8
set_option linter.unusedSimpArgs false
set_option linter.unusedVariables false
namespace Go.V
open Go
theorem mapM_mono {α β : Type} {f g : α → Option β} : ∀ {l : List α} {r : List β}, (∀ x ∈ l, ∀ y, f x = some y → g x = some y) → l.mapM f = some r → l.mapM g = some r := by
  intro l
  induction l with
  | nil => intro r _ h; simpa using h
  | cons a l ih =>
    intro r hfg h
    simp only [List.mapM_cons, Option.bind_eq_bind, Option.pure_def, Option.bind_eq_some_iff] at h ⊢
    obtain ⟨y, h1, ys, h2, h3⟩ := h
    exact ⟨y, hfg a (by simp) y h1, ys, ih (fun x hx => hfg x (by simp [hx])) h2, h3⟩
theorem cells?_same {w w' : World} (hold : ∀ i, i < w.heap.size → w'.heap[i]? = w.heap[i]?) {base n : Nat} {a : Addr} {cs : List Value} (h : w.cells? base a n = some cs) : w'.cells? base a n = some cs := by
  unfold World.cells? at h ⊢
  split at h
  · rename_i hb
    rw [if_pos hb]
    refine mapM_mono (fun i _ v hv => ?_) h
    have hlt := World.block_lt_of_cell? w _ hv
    unfold World.cell? at hv ⊢
    rw [hold _ hlt]; exact hv
  · cases h
section
variable {H : Type} {enc : TypeId × Value → H} {P : Program} {w w' : World} {base : Nat} {sp : Nat → Bool} {held : Bool}
structure Closed (P : Program) (ok : TypeId → Prop) : Prop where
  ptr : ∀ t e, ok t → P.underlying t = some (.pointer e) → ok e
  slice : ∀ t e, ok t → P.underlying t = some (.slice e) → ok e ∧ 0 < P.cellsOf e
  struct : ∀ t fs, ok t → P.underlying t = some (.struct fs) → ∀ f ∈ fs.toList, ok f.type
  array : ∀ t n e, ok t → P.underlying t = some (.array n e) → ok e
  map : ∀ t k e, ok t → P.underlying t = some (.map k e) → ok e
def closedB (P : Program) (S : List TypeId) : Bool := S.all fun t => match P.underlying t with
  | some (.pointer e) => S.contains e
  | some (.slice e) => S.contains e && decide (0 < P.cellsOf e)
  | some (.struct fs) => fs.toList.all fun f => S.contains f.type
  | some (.array _ e) => S.contains e
  | some (.map _ e) => S.contains e
  | _ => true
theorem closed_of {S : List TypeId} (h : closedB P S = true) : Closed P (· ∈ S) := by
  have h' := List.all_eq_true.1 h
  refine ⟨fun t e ht hu => ?_, fun t e ht hu => ?_, fun t fs ht hu f hf => ?_, fun t n e ht hu => ?_, fun t k e ht hu => ?_⟩
  all_goals have := h' t ht
  all_goals rw [hu] at this
  all_goals simp only [List.contains_iff_mem, Bool.and_eq_true, decide_eq_true_eq, List.all_eq_true] at this
  · exact this
  · exact this
  · exact this f hf
  · exact this
  · exact this
theorem trodStep_same {ok : TypeId → Prop} (hcl : Closed P ok) (hold : ∀ i, i < w.heap.size → w'.heap[i]? = w.heap[i]?) (hsp : ∀ b, b < w.heap.size → sp b = true)
    {r r' : TypeId → List Value → Option (DataW H × List MemPlace)} (hr : ∀ t cs x, ok t → r t cs = some x → r' t cs = some x) {t : TypeId} {cs : List Value} {x : DataW H × List MemPlace} (ht : ok t)
    (h : DataW.trodStep enc P w base (fun _ => true) true r t cs = some x) : DataW.trodStep enc P w' base sp true r' t cs = some x := by
  unfold DataW.trodStep at h
  split at h
  case h_1 hu => unfold DataW.trodStep; simp only [hu]; exact h
  case h_2 hu => unfold DataW.trodStep; simp only [hu]; exact h
  case h_3 hu => unfold DataW.trodStep; simp only [hu]; exact h
  case h_4 hu => unfold DataW.trodStep; simp only [hu]; exact h
  case h_5 hu => unfold DataW.trodStep; simp only [hu]; exact h
  case h_6 e a hu =>
    unfold DataW.trodStep; simp only [hu]
    simp only [Option.map_eq_some_iff, Option.bind_eq_some_iff] at h ⊢
    obtain ⟨y, ⟨cs', hc, hy⟩, hx⟩ := h
    exact ⟨y, ⟨cs', cells?_same hold hc, hr _ _ _ (hcl.ptr t e ht hu) hy⟩, hx⟩
  case h_7 hu => unfold DataW.trodStep; simp only [hu]; exact h
  case h_8 e a len cap hu =>
    unfold DataW.trodStep; simp only [hu]
    obtain ⟨hoe, hpos⟩ := hcl.slice t e ht hu
    simp only at h
    split at h
    · rename_i hb
      rw [if_pos hb]
      simp only [Option.map_eq_some_iff, Option.bind_eq_some_iff, if_true] at h ⊢
      obtain ⟨elems, he, rest, hrest, hx⟩ := h
      have one : ∀ i y, (w.cells? base (a.add (i * P.cellsOf e)) (P.cellsOf e)).bind (r e) = some y → (w'.cells? base (a.add (i * P.cellsOf e)) (P.cellsOf e)).bind (r' e) = some y := by
        intro i y hy
        simp only [Option.bind_eq_some_iff] at hy ⊢
        obtain ⟨cs', hc, hy⟩ := hy
        exact ⟨cs', cells?_same hold hc, hr _ _ _ hoe hy⟩
      have hb' : (cap - len = 0) ∨ a.block < w.heap.size := by
        rcases Nat.eq_zero_or_pos (cap - len) with h0 | h0
        · exact .inl h0
        · right
          have hne : rest ≠ [] := by
            intro hn
            subst hn
            have := congrArg List.length (show [] = _ from rfl : ([] : List Nat) = [])
            have hlen : ∀ {l : List Nat} {g : Nat → Option (DataW H × List MemPlace)} {q : List (DataW H × List MemPlace)}, l.mapM g = some q → q.length = l.length := by
              intro l g
              induction l with
              | nil => intro q hq; simp at hq; subst hq; rfl
              | cons a l ih =>
                intro q hq
                simp only [List.mapM_cons, Option.bind_eq_bind, Option.pure_def, Option.bind_eq_some_iff] at hq
                obtain ⟨y, _, ys, h2, h3⟩ := hq
                cases h3
                simp [ih h2]
            have := hlen hrest
            simp at this; omega
          obtain ⟨y, hy⟩ := List.exists_mem_of_ne_nil _ hne
          obtain ⟨j, _, hj⟩ := mapM_mem_of hrest y hy
          simp only [Option.bind_eq_some_iff] at hj
          obtain ⟨cs', hc, _⟩ := hj
          have := World.cells?_block hc hpos
          have e1 : (a.add ((len + j) * P.cellsOf e)).block = a.block := by unfold Addr.add; split <;> rfl
          rw [e1] at this
          exact this
      refine ⟨elems, mapM_mono (fun i _ y hy => one i y hy) he, rest, ?_, hx⟩
      rcases hb' with h0 | h0
      · rw [h0] at hrest ⊢
        simp at hrest ⊢
        subst hrest
        rfl
      · rw [hsp _ h0]
        exact mapM_mono (fun i _ y hy => one _ y hy) hrest
    · cases h
  case h_9 fs hu =>
    unfold DataW.trodStep; simp only [hu]
    split at h
    · rename_i hl
      rw [if_pos hl]
      simp only [Option.map_eq_some_iff] at h ⊢
      obtain ⟨xs, hx, e⟩ := h
      exact ⟨xs, mapM_mono (fun f hf y hy => hr _ _ _ (hcl.struct t fs ht hu f hf) hy) hx, e⟩
    · cases h
  case h_10 n e hu =>
    unfold DataW.trodStep; simp only [hu]
    split at h
    · rename_i hl
      rw [if_pos hl]
      simp only [Option.map_eq_some_iff] at h ⊢
      obtain ⟨xs, hx, e1⟩ := h
      exact ⟨xs, mapM_mono (fun f _ y hy => hr _ _ _ (hcl.array t n e ht hu) hy) hx, e1⟩
    · cases h
  case h_11 hu => unfold DataW.trodStep; simp only [hu]; exact h
  case h_12 u v hu =>
    unfold DataW.trodStep; simp only [hu]
    exact h
  case h_13 hu => unfold DataW.trodStep; simp only [hu]; exact h
  case h_14 k e b hu =>
    unfold DataW.trodStep; simp only [hu]
    split at h
    · rename_i es clock hb
      have hlt : b < w.heap.size := by
        rcases Nat.lt_or_ge b w.heap.size with h' | h'
        · exact h'
        · simp [Array.getElem?_eq_none h'] at hb
      rw [hold b hlt, hb]
      dsimp only
      split at h
      · rename_i hc
        rw [if_pos hc]
        simp only [Option.bind_eq_some_iff] at h ⊢
        obtain ⟨entries, he, hd⟩ := h
        refine ⟨entries, mapM_mono (fun x _ y hy => ?_) he, hd⟩
        obtain ⟨key, hk, hz'⟩ := Option.bind_eq_some_iff.1 hy
        refine Option.bind_eq_some_iff.2 ⟨key, hk, ?_⟩
        split at hz'
        · rename_i hf
          rw [if_pos hf]
          simp only [Option.map_eq_some_iff] at hz' ⊢
          obtain ⟨q, hq, e⟩ := hz'
          exact ⟨q, hr _ _ _ (hcl.map t k _ ht hu) hq, e⟩
        · cases hz'
      · cases h
    · cases h
  case h_15 hu => unfold DataW.trodStep; simp only [hu]; exact h
  case h_16 hu => unfold DataW.trodStep; simp only [hu]; exact h
  case h_17 hu => unfold DataW.trodStep; simp only [hu]; exact h
  case h_18 hu => unfold DataW.trodStep; simp only [hu]; exact h
  case h_19 hu => unfold DataW.trodStep; simp only [hu]; exact h
  case h_20 hu => unfold DataW.trodStep; simp only [hu]; exact h
  case h_21 => cases h
theorem trod_same {ok : TypeId → Prop} (hcl : Closed P ok) (hold : ∀ i, i < w.heap.size → w'.heap[i]? = w.heap[i]?) (hsp : ∀ b, b < w.heap.size → sp b = true) :
    ∀ (n : Nat) (t : TypeId) (cs : List Value) (x : DataW H × List MemPlace), ok t → DataW.trod enc P w base (fun _ => true) true n t cs = some x → DataW.trod enc P w' base sp true n t cs = some x := by
  intro n
  induction n with
  | zero => intro t cs x _ h; simp [DataW.trod] at h
  | succ n ih =>
    intro t cs x ht h
    rw [DataW.trod_step] at h ⊢
    exact trodStep_same hcl hold hsp ih ht h
theorem trodAll_same {ok : TypeId → Prop} (hcl : Closed P ok) (hold : ∀ i, i < w.heap.size → w'.heap[i]? = w.heap[i]?) (hsp : ∀ b, b < w.heap.size → sp b = true) :
    ∀ {ts : List TypeId} {vs : List Value} {ds : List (DataW H)} {ps : List MemPlace}, (∀ t ∈ ts, ok t) → DataW.TrodAll enc P w base (fun _ => true) true ts vs ds ps → DataW.TrodAll enc P w' base sp true ts vs ds ps
  | [], [], [], _, _, h => h
  | _ :: _, _ :: _, _ :: _, _, ho, ⟨p, q, ⟨n, h1⟩, h2, e⟩ => ⟨p, q, ⟨n, trod_same hcl hold hsp n _ _ _ (ho _ (by simp)) h1⟩, trodAll_same hcl hold hsp (fun t ht => ho t (by simp [ht])) h2, e⟩
end
open Go Go.ChangeShapes Go.WideShapes
section
variable {H : Type} {enc : TypeId × Value → H} {P : Program}
theorem glue {f : FuncId} {fn : Func} {s : ChangeSpec} {rt : TypeId} {apart fresh handsOn : Bool} {W : World} {args : List Value} {ds gs : List (DataW H)} {before : List MemPlace}
    (hvars : s.vars = []) (hrt : fn.resultTypes = #[rt]) (hb : P.underlying rt = some .bool) (hfn : s.fn H (ds ++ gs) = { results := [.lit (.bool true)], args := ds })
    {ok : TypeId → Prop} (hcl : Closed P ok) (hok : ∀ t ∈ fn.params.toList, ok t) (hW : DataW.Whole enc P fn.params.toList s.vars apart W args ds gs before)
    (hF : ∀ A, (∀ a : Atom, a.holds W → a ∈ A) → Fun P f args [A] fun v Post => v = .bool true ∧ Post = [A]) :
    Calls P f args.toArray W fun e W' => ∃ v, e = .returned v ∧ s.post enc P fn apart fresh handsOn false W args.toArray v W' := by
  obtain ⟨A, hA, hall⟩ := sat_all W
  have h := (hF A hall).2 [] W (by simpa using hA)
  refine h.mono ?_
  rintro e W' ⟨v, Post, rfl, ⟨rfl, rfl⟩, hs, hk⟩
  have hs' : Sat W' A := by simpa using hs
  have hold := old_same hall hs' hk
  refine ⟨_, rfl, ds, gs, before, [], before, [], by simpa using hW, ?_, ?_, ?_, ?_, fun h => by cases h⟩
  · rw [hrt, hfn]
    exact trodAll_mk1 ⟨1, by simp [DataW.trod, hb, Value.cells]⟩
  · obtain ⟨p, q, h1, h2, h3, _, _⟩ := hW
    rw [hvars] at h2
    obtain ⟨rfl, rfl⟩ := trodVars_none h2
    rw [hfn]
    simp only [List.append_nil] at h3
    subst h3
    simpa using trodAll_same hcl hold (fun b hb => by simpa using hb) hok h1
  · rw [hfn, hvars]; rfl
  · refine ⟨hk.os, hk.output, fun i hi => ?_⟩
    rw [hold i hi]
    have : W.heap[i]? = some W.heap[i] := Array.getElem?_eq_getElem hi
    generalize W.heap[i] = o at this
    rw [this]
    cases o <;> first | exact ⟨rfl, rfl, rfl, fun _ _ => rfl⟩ | exact .inr ⟨rfl, rfl⟩ | rfl
theorem holds_cell {W : World} {b o : Nat} {v : Value} (h : W.cell? ⟨b, o, none⟩ = some v) (hf : W.frozen? ⟨b, o, none⟩ = false) : (Atom.cell b o v).holds W := by
  unfold World.cell? at h
  unfold World.frozen? at hf
  split at h
  · rename_i c t fr hb
    obtain ⟨lo, hi⟩ := fr
    simp only at hb hf h
    rw [hb] at hf
    simp only [Bool.and_eq_false_iff, decide_eq_false_iff_not] at hf
    refine ⟨c, t, lo, hi, hb, by simpa using h, fun hh => ?_⟩
    rcases hf with hf | hf
    · exact hf hh.1
    · exact hf hh.2
  · cases h
end
open Go Go.ChangeShapes Go.WideShapes Go.Deep
inductive SC where
  | int (k : IntKind)
  | str
def SC.ok : SC → Value → Prop
  | .int k, v => ∃ n, v = .int k n ∧ (Lit.int k n).wf = true
  | .str, v => ∃ s : ByteArray, v = .string s ∧ s.size ≤ maxLen
section
variable {H : Type} {enc : TypeId × Value → H} {P : Program} {W : World} {base : Nat}
end
structure Bulk {H : Type} (bulk : DataW H → Nat) : Prop where
  agg : ∀ l d, d ∈ l → bulk d < bulk (.agg l)
  sl : ∀ es sp d, d ∈ es → bulk d < bulk (.slice es sp)
  len : ∀ es sp, es.length ≤ bulk (.slice es sp)
  sls : ∀ es sp, (es.map bulk).sum ≤ bulk (.slice es sp)
  aggs : ∀ l, (l.map bulk).sum < bulk (.agg l)
  str : ∀ bs, bs.length ≤ bulk (.lit (.string bs))
section
variable {H : Type} {enc : TypeId × Value → H} {P : Program} {bulk : DataW H → Nat}
structure LitT (P : Program) (t : TypeId) (sl : TypeId) : Prop where
  str : ∃ fs : Array Field, P.underlying t = some (.struct fs) ∧ fs.size = 5 ∧ ∃ t0 t1 t2 t3, (fs.toList.map fun f => (f.type, f.offset)) = [(t0, 0), (t1, 1), (t2, 2), (t3, 3), (sl, 4)] ∧ P.underlying t0 = some (.int .u8) ∧ P.underlying t1 = some (.int .i64) ∧ P.underlying t2 = some (.int .u64) ∧ P.underlying t3 = some .string ∧
    P.cellsOf t0 = 1 ∧ P.cellsOf t1 = 1 ∧ P.cellsOf t2 = 1 ∧ P.cellsOf t3 = 1 ∧ P.cellsOf sl = 1
  cells : P.cellsOf t = 5
  items : P.underlying sl = some (.slice t)
structure NodT (P : Program) (t tl sl st : TypeId) : Prop where
  str : ∃ fs : Array Field, P.underlying t = some (.struct fs) ∧ fs.size = 7 ∧ ∃ t0 t1 t6, (fs.toList.map fun f => (f.type, f.offset)) = [(t0, 0), (t1, 1), (tl, 2), (st, 7), (st, 8), (sl, 9), (t6, 10)] ∧ P.underlying t0 = some (.int .u8) ∧ P.underlying t1 = some .string ∧ P.underlying t6 = some (.int .i64) ∧
    P.cellsOf t0 = 1 ∧ P.cellsOf t1 = 1 ∧ P.cellsOf t6 = 1 ∧ P.underlying st = some (.slice t1)
  cells : P.cellsOf t = 11
  cs : P.cellsOf sl = 1
  ct : P.cellsOf st = 1
  cl : P.cellsOf tl = 5
  kids : P.underlying sl = some (.slice t)
end
end Go.V

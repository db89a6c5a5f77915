/-
  Maps, slices that grow, copies: rules in terms of lists.
-/
import Derived.Test.YtffmipimgodfdaaVL
set_option linter.unusedSimpArgs false
set_option linter.unusedVariables false
namespace Go.V
open Go

/-! Lists of keys with values -/

def mget {κ β : Type} [DecidableEq κ] (k : κ) : List (κ × β) → Option β
  | [] => none
  | (a, v) :: r => if a = k then some v else mget k r

def mset {κ β : Type} [DecidableEq κ] (k : κ) (v : β) : List (κ × β) → List (κ × β)
  | [] => [(k, v)]
  | (a, u) :: r => if a = k then (a, v) :: r else (a, u) :: mset k v r

def mdel {κ β : Type} [DecidableEq κ] (k : κ) : List (κ × β) → List (κ × β)
  | [] => []
  | (a, u) :: r => if a = k then r else (a, u) :: mdel k r

/-- How a key is written as a value. -/
structure KEnc (κ : Type) [DecidableEq κ] where
  sk : SK
  enc : κ → Value
  same : ∀ a b, sameK sk (enc a) (enc b) = some (decide (a = b))

def kStr : KEnc ByteArray := ⟨.str, .string, fun _ _ => rfl⟩
def kInt : KEnc Int := ⟨.int, .int .i64, fun _ _ => by simp [sameK]; rfl⟩

def lookV (ok : Bool) (zero : Value) : Option Value → Value
  | some v => if ok then .tuple #[v, .bool true] else v
  | none => if ok then .tuple #[zero, .bool false] else zero

section
variable {κ β : Type} [DecidableEq κ] {E : KEnc κ} {V : β → Value}

def MapOf (E : KEnc κ) (V : β → Value) (es : List MapEntry) (m : List (κ × β)) : Prop := es.map (fun e => (e.key, e.val)) = m.map fun p => (E.enc p.1, V p.2)

/-- A map's entries, in order, none newer than the clock. -/
structure MapIs (E : KEnc κ) (V : β → Value) (es : Array MapEntry) (c : Nat) (m : List (κ × β)) : Prop where
  of : MapOf E V es.toList m
  born : es.toList.Pairwise fun a b => a.born < b.born
  clock : ∀ e ∈ es.toList, e.born < c

theorem MapIs.nil : MapIs E V #[] 0 [] := ⟨rfl, .nil, by simp⟩

theorem find_of {k : κ} : ∀ {es : List MapEntry} {m : List (κ × β)} {i : Nat}, MapOf E V es m →
    ∃ r, findK E.sk (E.enc k) es i = some r ∧ r.map (·.2) = (mget k m).map V ∧ ∀ j v, r = some (j, v) → i ≤ j ∧ j - i < es.length ∧ ∃ e, es[j - i]? = some e ∧ e.key = E.enc k ∧
      (∀ e' u, e'.val = V u → (MapOf E V (es.set (j - i) e') (mset k u m) ↔ e'.key = E.enc k)) ∧ MapOf E V (es.eraseIdx (j - i)) (mdel k m) := by
  intro es
  induction es with
  | nil =>
    intro m i h
    cases m with
    | nil => exact ⟨none, rfl, rfl, fun _ _ h => by cases h⟩
    | cons p m => simp [MapOf] at h
  | cons e es ih =>
    intro m i h
    cases m with
    | nil => simp [MapOf] at h
    | cons p m =>
      obtain ⟨a, u⟩ := p
      simp only [MapOf, List.map_cons, List.cons.injEq, Prod.mk.injEq] at h
      obtain ⟨⟨h1, h2⟩, h3⟩ := h
      simp only [findK, h1, E.same, h2]
      by_cases ek : k = a
      · subst ek
        refine ⟨some (i, V u), by simp, by simp [mget], fun j v hj => ?_⟩
        cases hj
        refine ⟨Nat.le_refl _, by simp, e, by simp, h1, fun e' u' he' => ?_, ?_⟩
        · simp only [Nat.sub_self, List.set_cons_zero, mset, if_true, MapOf, List.map_cons, List.cons.injEq, Prod.mk.injEq, he', and_true]
          exact ⟨fun h => h.1, fun h => ⟨h, h3⟩⟩
        · simpa [mdel, MapOf] using h3
      · obtain ⟨r, f1, f2, f3⟩ := ih (m := m) (i := i + 1) h3
        have ea : ¬ a = k := fun e => ek e.symm
        refine ⟨r, by simp [ek, f1], by simp [mget, ea, f2], fun j v hj => ?_⟩
        obtain ⟨g1, g2, x, g3, g4, g5, g6⟩ := f3 j v hj
        have hji : j - i = (j - (i + 1)) + 1 := by omega
        refine ⟨by omega, by simp; omega, x, by rw [hji]; simpa using g3, g4, fun e' u' he' => ?_, ?_⟩
        · rw [hji]
          simp only [List.set_cons_succ, mset, ea, if_false, MapOf, List.map_cons, List.cons.injEq, h1, h2, true_and]
          exact g5 e' u' he'
        · rw [hji]
          simp only [List.eraseIdx_cons_succ, mdel, ea, if_false, MapOf, List.map_cons, List.cons.injEq, h1, h2, true_and]
          exact g6

theorem mget_none_mset {k : κ} {v : β} : ∀ {m : List (κ × β)}, mget k m = none → mset k v m = m ++ [(k, v)] := by
  intro m
  induction m with
  | nil => intro _; rfl
  | cons p m ih =>
    obtain ⟨a, u⟩ := p
    intro h
    simp only [mget] at h
    split at h
    · cases h
    · rename_i hn; simp [mset, hn, ih h]

theorem mget_none_mdel {k : κ} : ∀ {m : List (κ × β)}, mget k m = none → mdel k m = m := by
  intro m
  induction m with
  | nil => intro _; rfl
  | cons p m ih =>
    obtain ⟨a, u⟩ := p
    intro h
    simp only [mget] at h
    split at h
    · cases h
    · rename_i hn; simp [mdel, hn, ih h]

theorem MapIs.modify {es : Array MapEntry} {c : Nat} {m : List (κ × β)} (h : MapIs E V es c m) {k : κ} {j : Nat} {u key : Value} {v : β} (hf : findK E.sk (E.enc k) es.toList 0 = some (some (j, u))) (hk : key = E.enc k) :
    MapIs E V (es.modify j fun e => { e with key, val := V v }) c (mset k v m) := by
  subst hk
  obtain ⟨r, f1, f2, f3⟩ := find_of (k := k) (i := 0) h.of
  rw [hf] at f1; cases f1
  obtain ⟨_, g2, e, g3, g4, g5, _⟩ := f3 j u rfl
  simp only [Nat.sub_zero] at g2 g3 g5
  have hl : (es.modify j fun e => { e with key := E.enc k, val := V v }).toList = es.toList.set j { e with key := E.enc k, val := V v } := by
    apply List.ext_getElem?
    intro i
    rw [Array.getElem?_toList, Array.getElem?_modify, List.getElem?_set]
    by_cases hi : j = i
    · subst hi
      have : es[j]? = some e := by simpa using g3
      have g2' : j < es.size := by simpa using g2
      have ge : es[j] = e := by rw [Array.getElem?_eq_getElem g2'] at this; exact Option.some.inj this
      simp [g2', ge]
    · simp [hi]
  have hborn : (es.toList.set j { e with key := E.enc k, val := V v }).map (·.born) = es.toList.map (·.born) := by
    apply List.ext_getElem?
    intro i
    simp only [List.getElem?_map, List.getElem?_set]
    by_cases hi : j = i
    · subst hi
      have g2' : j < es.size := by simpa using g2
      have : es[j]? = some e := by simpa using g3
      have ge : es[j] = e := by rw [Array.getElem?_eq_getElem g2'] at this; exact Option.some.inj this
      simp [g2', ge]
    · simp [hi]
  refine ⟨?_, ?_, ?_⟩
  · rw [hl]; exact (g5 { e with key := E.enc k, val := V v } v rfl).2 rfl
  · rw [hl]
    have hp := h.born
    have e1 : ∀ l : List MapEntry, l.Pairwise (fun a b => a.born < b.born) ↔ (l.map MapEntry.born).Pairwise (· < ·) := fun l => List.pairwise_map.symm
    rw [e1] at hp ⊢
    have hb2 : (es.toList.set j { e with key := E.enc k, val := V v }).map MapEntry.born = es.toList.map MapEntry.born := hborn
    rw [hb2]; exact hp
  · rw [hl]
    intro x hx
    have : x.born ∈ (es.toList.set j { e with key := E.enc k, val := V v }).map (·.born) := List.mem_map.2 ⟨x, hx, rfl⟩
    rw [hborn] at this
    obtain ⟨y, hy, hyb⟩ := List.mem_map.1 this
    rw [← hyb]; exact h.clock y hy

theorem MapIs.push {es : Array MapEntry} {c : Nat} {m : List (κ × β)} (h : MapIs E V es c m) {k : κ} {v : β} (hn : mget k m = none) :
    MapIs E V (es.push { key := E.enc k, val := V v, born := c }) (c + 1) (mset k v m) := by
  refine ⟨?_, ?_, ?_⟩
  · rw [mget_none_mset hn]
    have := h.of
    simp only [MapOf] at this ⊢
    simp [this]
  · rw [Array.toList_push, List.pairwise_append]
    refine ⟨h.born, by simp, fun a ha b hb => ?_⟩
    rw [List.mem_singleton.1 hb]; exact h.clock a ha
  · intro e he
    rw [Array.toList_push, List.mem_append] at he
    rcases he with he | he
    · exact Nat.lt_succ_of_lt (h.clock e he)
    · rw [List.mem_singleton.1 he]; exact Nat.lt_succ_self c

theorem MapIs.erase {es : Array MapEntry} {c : Nat} {m : List (κ × β)} (h : MapIs E V es c m) {k : κ} {j : Nat} {u : Value} (hf : findK E.sk (E.enc k) es.toList 0 = some (some (j, u))) :
    MapIs E V (es.eraseIdxIfInBounds j) c (mdel k m) := by
  obtain ⟨r, f1, f2, f3⟩ := find_of (k := k) (i := 0) h.of
  rw [hf] at f1; cases f1
  obtain ⟨_, g2, e, g3, g4, _, g6⟩ := f3 j u rfl
  simp only [Nat.sub_zero] at g2 g6
  have hl : (es.eraseIdxIfInBounds j).toList = es.toList.eraseIdx j := by
    have : j < es.size := by simpa using g2
    simp [Array.eraseIdxIfInBounds, this]
  refine ⟨?_, ?_, ?_⟩
  · rw [hl]; exact g6
  · rw [hl]; exact h.born.sublist (List.eraseIdx_sublist _ _)
  · rw [hl]; intro x hx; exact h.clock x ((List.eraseIdx_sublist _ _).subset hx)

variable {P : Program} {n : Nat} {rs : List RO} {Γ : Env} {H : SH} {Z : List PanicEntry → Env → SH → Prop} {K : Env → SH → Prop} {d : Option Nat}

/-- An object among the items. -/
inductive HasO : SH → Nat → Obj → Prop where
  | here {b : Nat} {o : Obj} {L : SH} : HasO ([.obj b o] :: L) b o
  | there {A : List Atom} {L : SH} {b : Nat} {o : Obj} : HasO L b o → HasO (A :: L) b o
  | among {A : List Atom} {L : SH} {b : Nat} {o : Obj} : Atom.obj b o ∈ A → HasO (A :: L) b o

theorem HasO.mem {b : Nat} {o : Obj} (h : HasO H b o) : Atom.obj b o ∈ H.flatten := by
  induction h with
  | here => simp
  | there _ ih => simp only [List.flatten_cons, List.mem_append]; exact .inr ih
  | among h => simp only [List.flatten_cons, List.mem_append]; exact .inl h

theorem run_getObj_of {b : Nat} {o : Obj} {L F : List Atom} {w : World} (hm : Atom.obj b o ∈ L) (hs : Sat w (L ++ F)) : (getObj b).run P w = .ok o w := by
  obtain ⟨h1, h2⟩ := hs.obj (List.mem_append_left F hm)
  cases o <;> simp_all [Go.getObj, Sem.run, isCells]

theorem st_lookup {sk : SK} {zero : Value} {ok : Bool} {m x : Operand} {b c : Nat} {es : Array MapEntry} {k : κ} {l : List (κ × β)} (hm : ev Γ m = some (.map (some b))) (hx : ev Γ x = some (E.enc k)) (he : sk = E.sk)
    (ho : HasO H b (.map es c)) (hl : MapIs E V es c l) (h : VO P n rs (putE d (lookV ok zero ((mget k l).map V)) Γ) H Z K) : VO P n (⟨d, none, .lookup sk zero ok m x⟩ :: rs) Γ H Z K := by
  subst he
  refine VO.read rfl rfl (fun ρ hρ => ⟨_, rfl, fun F w hs => ?_⟩) h
  obtain ⟨r, f1, f2, _⟩ := find_of (k := k) (i := 0) hl.of
  have hg := run_getObj_of (P := P) ho.mem hs
  rw [hρ _ _ hm, hρ _ _ hx]
  simp only [entriesOf, Sem.run_bind, hg, Result.andThen_ok, Sem.run_pure, f1]
  rw [← f2]
  cases r with
  | none => rfl
  | some p => rfl

theorem st_lookup_nil {sk : SK} {zero : Value} {ok : Bool} {m x : Operand} (hm : ev Γ m = some (.map none)) (h : VO P n rs (putE d (lookV ok zero none) Γ) H Z K) : VO P n (⟨d, none, .lookup sk zero ok m x⟩ :: rs) Γ H Z K := by
  refine VO.read rfl rfl (fun ρ hρ => ⟨_, rfl, fun F w hs => ?_⟩) h
  rw [hρ _ _ hm]
  simp [entriesOf, findK, lookRes, lookV]

theorem st_mlen {m : Operand} {b c : Nat} {es : Array MapEntry} {l : List (κ × β)} (hm : ev Γ m = some (.map (some b))) (ho : HasO H b (.map es c)) (hl : MapIs E V es c l)
    (h : VO P n rs (putE d (.int .i64 l.length) Γ) H Z K) : VO P n (⟨d, none, .mlen m⟩ :: rs) Γ H Z K := by
  refine VO.read rfl rfl (fun ρ hρ => ⟨_, rfl, fun F w hs => ?_⟩) h
  have hg := run_getObj_of (P := P) ho.mem hs
  rw [hρ _ _ hm]
  have : es.size = l.length := by
    have := congrArg List.length hl.of
    simpa using this
  simp [entriesOf, hg, this]

theorem st_mapupd {sk : SK} {m x y : Operand} {b c : Nat} {es : Array MapEntry} {k : κ} {v : β} {l : List (κ × β)} {R : SH} (hm : ev Γ m = some (.map (some b))) (hx : ev Γ x = some (E.enc k)) (hy : ev Γ y = some (V v)) (he : sk = E.sk)
    (ht : Tk H [.obj b (.map es c)] R) (hl : MapIs E V es c l) (h : ∀ es' c', MapIs E V es' c' (mset k v l) → VO P n rs (putE d undef Γ) ([.obj b (.map es' c')] :: R) Z K) : VO P n (⟨d, none, .mapupd sk m x y⟩ :: rs) Γ H Z K := by
  subst he
  refine VO.act rfl rfl (fun ρ hρ => ⟨_, rfl, ?_⟩)
  rw [hρ _ _ hm, hρ _ _ hx, hρ _ _ hy]
  refine SWP.perm ht.perm ?_
  refine swp_entries (m := b) (c := c) (es := es) (by simp) ?_
  obtain ⟨r, f1, f2, f3⟩ := find_of (k := k) (i := 0) hl.of
  simp only [f1]
  cases r with
  | none =>
    refine SWP.bind (SWP.setObj rfl (SWP.pure ⟨undef, _, .inr ⟨rfl, rfl⟩, ?_, h _ _ (hl.push (by simpa using f2.symm))⟩))
    simp
  | some p =>
    obtain ⟨j, u⟩ := p
    obtain ⟨_, g2, e, g3, g4, _⟩ := f3 j u rfl
    simp only [Nat.sub_zero] at g3
    have hkey : ((es[j]?).map (·.key)).getD (E.enc k) = E.enc k := by
      have : es[j]? = some e := by simpa using g3
      simp [this, g4]
    refine SWP.bind (swp_key _ _ (fun kk hkk => ?_))
    have hkk' : kk = E.enc k := by rcases hkk with h | h; rw [h, hkey]; exact h
    refine SWP.bind (SWP.setObj rfl (SWP.pure ⟨undef, _, .inr ⟨rfl, rfl⟩, ?_, h _ _ (hl.modify f1 hkk')⟩))
    simp

theorem st_delete {sk : SK} {m x : Operand} {b c : Nat} {es : Array MapEntry} {k : κ} {l : List (κ × β)} {R : SH} (hm : ev Γ m = some (.map (some b))) (hx : ev Γ x = some (E.enc k)) (he : sk = E.sk)
    (ht : Tk H [.obj b (.map es c)] R) (hl : MapIs E V es c l) (h : ∀ es', MapIs E V es' c (mdel k l) → (∀ e ∈ es'.toList, e ∈ es.toList) → VO P n rs (putE d (.tuple #[]) Γ) ([.obj b (.map es' c)] :: R) Z K) : VO P n (⟨d, none, .delete sk m x⟩ :: rs) Γ H Z K := by
  subst he
  refine VO.act rfl rfl (fun ρ hρ => ⟨_, rfl, ?_⟩)
  rw [hρ _ _ hm, hρ _ _ hx]
  refine SWP.perm ht.perm ?_
  refine swp_entries (m := b) (c := c) (es := es) (by simp) ?_
  obtain ⟨r, f1, f2, f3⟩ := find_of (k := k) (i := 0) hl.of
  simp only [f1]
  cases r with
  | none =>
    have hn : mget k l = none := by have := f2.symm; simpa using this
    refine SWP.bind (SWP.setObj rfl (SWP.pure ⟨.tuple #[], _, .inl rfl, ?_, h es (by rw [mget_none_mdel hn]; exact hl) (fun _ h => h)⟩))
    simp
  | some p =>
    obtain ⟨j, u⟩ := p
    have hsub : ∀ e ∈ (es.eraseIdxIfInBounds j).toList, e ∈ es.toList := by
      intro e he
      unfold Array.eraseIdxIfInBounds at he
      split at he
      · rw [Array.toList_eraseIdx] at he; exact (List.eraseIdx_sublist _ _).subset he
      · exact he
    refine SWP.bind (SWP.setObj rfl (SWP.pure ⟨.tuple #[], _, .inl rfl, ?_, h _ (hl.erase f1) hsub⟩))
    simp
end
end Go.V

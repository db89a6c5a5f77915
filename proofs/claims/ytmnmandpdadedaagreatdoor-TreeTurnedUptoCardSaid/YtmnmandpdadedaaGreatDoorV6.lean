/-
  Maps, slices that grow, copies: rules in terms of lists.
-/
import Derived.Test.YtmnmandpdadedaaGreatDoorV5
set_option linter.unusedSimpArgs false
set_option linter.unusedVariables false
namespace Go.V
open Go
def mget {κ β : Type} [DecidableEq κ] (k : κ) : List (κ × β) → Option β
  | [] => none
  | (a, v) :: r => if a = k then some v else mget k r
def mset {κ β : Type} [DecidableEq κ] (k : κ) (v : β) : List (κ × β) → List (κ × β)
  | [] => [(k, v)]
  | (a, u) :: r => if a = k then (a, v) :: r else (a, u) :: mset k v r
def mdel {κ β : Type} [DecidableEq κ] (k : κ) : List (κ × β) → List (κ × β)
  | [] => []
  | (a, u) :: r => if a = k then r else (a, u) :: mdel k r
structure KEnc (κ : Type) [DecidableEq κ] where
  sk : SK
  enc : κ → Value
  same : ∀ a b, sameK sk (enc a) (enc b) = some (decide (a = b))
def kStr : KEnc ByteArray := ⟨.str, .string, fun _ _ => rfl⟩
def kInt : KEnc Int := ⟨.int, .int .i64, fun _ _ => by simp [sameK]; rfl⟩
def lookV (ok : Bool) (zero : Value) : Option Value → Value
  | some v => if ok then .tuple #[v, .bool true] else v
  | none => if ok then .tuple #[zero, .bool false] else zero
section
variable {κ β : Type} [DecidableEq κ] {E : KEnc κ} {V : β → Value}
def MapOf (E : KEnc κ) (V : β → Value) (es : List MapEntry) (m : List (κ × β)) : Prop := es.map (fun e => (e.key, e.val)) = m.map fun p => (E.enc p.1, V p.2)
structure MapIs (E : KEnc κ) (V : β → Value) (es : Array MapEntry) (c : Nat) (m : List (κ × β)) : Prop where
  of : MapOf E V es.toList m
  born : es.toList.Pairwise fun a b => a.born < b.born
  clock : ∀ e ∈ es.toList, e.born < c
theorem MapIs.nil : MapIs E V #[] 0 [] := ⟨rfl, .nil, by simp⟩
theorem find_of {k : κ} : ∀ {es : List MapEntry} {m : List (κ × β)} {i : Nat}, MapOf E V es m →
    ∃ r, findK E.sk (E.enc k) es i = some r ∧ r.map (·.2) = (mget k m).map V ∧ ∀ j v, r = some (j, v) → i ≤ j ∧ j - i < es.length ∧ ∃ e, es[j - i]? = some e ∧ e.key = E.enc k ∧
      (∀ e' u, e'.val = V u → (MapOf E V (es.set (j - i) e') (mset k u m) ↔ e'.key = E.enc k)) ∧ MapOf E V (es.eraseIdx (j - i)) (mdel k m) := by
  intro es
  induction es with
  | nil =>
    intro m i h
    cases m with
    | nil => exact ⟨none, rfl, rfl, fun _ _ h => by cases h⟩
    | cons p m => simp [MapOf] at h
  | cons e es ih =>
    intro m i h
    cases m with
    | nil => simp [MapOf] at h
    | cons p m =>
      obtain ⟨a, u⟩ := p
      simp only [MapOf, List.map_cons, List.cons.injEq, Prod.mk.injEq] at h
      obtain ⟨⟨h1, h2⟩, h3⟩ := h
      simp only [findK, h1, E.same, h2]
      by_cases ek : k = a
      · subst ek
        refine ⟨some (i, V u), by simp, by simp [mget], fun j v hj => ?_⟩
        cases hj
        refine ⟨Nat.le_refl _, by simp, e, by simp, h1, fun e' u' he' => ?_, ?_⟩
        · simp only [Nat.sub_self, List.set_cons_zero, mset, if_true, MapOf, List.map_cons, List.cons.injEq, Prod.mk.injEq, he', and_true]
          exact ⟨fun h => h.1, fun h => ⟨h, h3⟩⟩
        · simpa [mdel, MapOf] using h3
      · obtain ⟨r, f1, f2, f3⟩ := ih (m := m) (i := i + 1) h3
        have ea : ¬ a = k := fun e => ek e.symm
        refine ⟨r, by simp [ek, f1], by simp [mget, ea, f2], fun j v hj => ?_⟩
        obtain ⟨g1, g2, x, g3, g4, g5, g6⟩ := f3 j v hj
        have hji : j - i = (j - (i + 1)) + 1 := by omega
        refine ⟨by omega, by simp; omega, x, by rw [hji]; simpa using g3, g4, fun e' u' he' => ?_, ?_⟩
        · rw [hji]
          simp only [List.set_cons_succ, mset, ea, if_false, MapOf, List.map_cons, List.cons.injEq, h1, h2, true_and]
          exact g5 e' u' he'
        · rw [hji]
          simp only [List.eraseIdx_cons_succ, mdel, ea, if_false, MapOf, List.map_cons, List.cons.injEq, h1, h2, true_and]
          exact g6
theorem mget_none_mset {k : κ} {v : β} : ∀ {m : List (κ × β)}, mget k m = none → mset k v m = m ++ [(k, v)] := by
  intro m
  induction m with
  | nil => intro _; rfl
  | cons p m ih =>
    obtain ⟨a, u⟩ := p
    intro h
    simp only [mget] at h
    split at h
    · cases h
    · rename_i hn; simp [mset, hn, ih h]
theorem mget_none_mdel {k : κ} : ∀ {m : List (κ × β)}, mget k m = none → mdel k m = m := by
  intro m
  induction m with
  | nil => intro _; rfl
  | cons p m ih =>
    obtain ⟨a, u⟩ := p
    intro h
    simp only [mget] at h
    split at h
    · cases h
    · rename_i hn; simp [mdel, hn, ih h]
theorem MapIs.modify {es : Array MapEntry} {c : Nat} {m : List (κ × β)} (h : MapIs E V es c m) {k : κ} {j : Nat} {u key : Value} {v : β} (hf : findK E.sk (E.enc k) es.toList 0 = some (some (j, u))) (hk : key = E.enc k) :
    MapIs E V (es.modify j fun e => { e with key, val := V v }) c (mset k v m) := by
  subst hk
  obtain ⟨r, f1, f2, f3⟩ := find_of (k := k) (i := 0) h.of
  rw [hf] at f1; cases f1
  obtain ⟨_, g2, e, g3, g4, g5, _⟩ := f3 j u rfl
  simp only [Nat.sub_zero] at g2 g3 g5
  have hl : (es.modify j fun e => { e with key := E.enc k, val := V v }).toList = es.toList.set j { e with key := E.enc k, val := V v } := by
    apply List.ext_getElem?
    intro i
    rw [Array.getElem?_toList, Array.getElem?_modify, List.getElem?_set]
    by_cases hi : j = i
    · subst hi
      have : es[j]? = some e := by simpa using g3
      have g2' : j < es.size := by simpa using g2
      have ge : es[j] = e := by rw [Array.getElem?_eq_getElem g2'] at this; exact Option.some.inj this
      simp [g2', ge]
    · simp [hi]
  have hborn : (es.toList.set j { e with key := E.enc k, val := V v }).map (·.born) = es.toList.map (·.born) := by
    apply List.ext_getElem?
    intro i
    simp only [List.getElem?_map, List.getElem?_set]
    by_cases hi : j = i
    · subst hi
      have g2' : j < es.size := by simpa using g2
      have : es[j]? = some e := by simpa using g3
      have ge : es[j] = e := by rw [Array.getElem?_eq_getElem g2'] at this; exact Option.some.inj this
      simp [g2', ge]
    · simp [hi]
  refine ⟨?_, ?_, ?_⟩
  · rw [hl]; exact (g5 { e with key := E.enc k, val := V v } v rfl).2 rfl
  · rw [hl]
    have hp := h.born
    have e1 : ∀ l : List MapEntry, l.Pairwise (fun a b => a.born < b.born) ↔ (l.map MapEntry.born).Pairwise (· < ·) := fun l => List.pairwise_map.symm
    rw [e1] at hp ⊢
    have hb2 : (es.toList.set j { e with key := E.enc k, val := V v }).map MapEntry.born = es.toList.map MapEntry.born := hborn
    rw [hb2]; exact hp
  · rw [hl]
    intro x hx
    have : x.born ∈ (es.toList.set j { e with key := E.enc k, val := V v }).map (·.born) := List.mem_map.2 ⟨x, hx, rfl⟩
    rw [hborn] at this
    obtain ⟨y, hy, hyb⟩ := List.mem_map.1 this
    rw [← hyb]; exact h.clock y hy
theorem MapIs.push {es : Array MapEntry} {c : Nat} {m : List (κ × β)} (h : MapIs E V es c m) {k : κ} {v : β} (hn : mget k m = none) :
    MapIs E V (es.push { key := E.enc k, val := V v, born := c }) (c + 1) (mset k v m) := by
  refine ⟨?_, ?_, ?_⟩
  · rw [mget_none_mset hn]
    have := h.of
    simp only [MapOf] at this ⊢
    simp [this]
  · rw [Array.toList_push, List.pairwise_append]
    refine ⟨h.born, by simp, fun a ha b hb => ?_⟩
    rw [List.mem_singleton.1 hb]; exact h.clock a ha
  · intro e he
    rw [Array.toList_push, List.mem_append] at he
    rcases he with he | he
    · exact Nat.lt_succ_of_lt (h.clock e he)
    · rw [List.mem_singleton.1 he]; exact Nat.lt_succ_self c
theorem MapIs.erase {es : Array MapEntry} {c : Nat} {m : List (κ × β)} (h : MapIs E V es c m) {k : κ} {j : Nat} {u : Value} (hf : findK E.sk (E.enc k) es.toList 0 = some (some (j, u))) :
    MapIs E V (es.eraseIdxIfInBounds j) c (mdel k m) := by
  obtain ⟨r, f1, f2, f3⟩ := find_of (k := k) (i := 0) h.of
  rw [hf] at f1; cases f1
  obtain ⟨_, g2, e, g3, g4, _, g6⟩ := f3 j u rfl
  simp only [Nat.sub_zero] at g2 g6
  have hl : (es.eraseIdxIfInBounds j).toList = es.toList.eraseIdx j := by
    have : j < es.size := by simpa using g2
    simp [Array.eraseIdxIfInBounds, this]
  refine ⟨?_, ?_, ?_⟩
  · rw [hl]; exact g6
  · rw [hl]; exact h.born.sublist (List.eraseIdx_sublist _ _)
  · rw [hl]; intro x hx; exact h.clock x ((List.eraseIdx_sublist _ _).subset hx)
variable {P : Program} {n : Nat} {rs : List RO} {Γ : Env} {H : SH} {Z : List PanicEntry → Env → SH → Prop} {K : Env → SH → Prop} {d : Option Nat}
inductive HasO : SH → Nat → Obj → Prop where
  | here {b : Nat} {o : Obj} {L : SH} : HasO ([.obj b o] :: L) b o
  | there {A : List Atom} {L : SH} {b : Nat} {o : Obj} : HasO L b o → HasO (A :: L) b o
  | among {A : List Atom} {L : SH} {b : Nat} {o : Obj} : Atom.obj b o ∈ A → HasO (A :: L) b o
theorem HasO.mem {b : Nat} {o : Obj} (h : HasO H b o) : Atom.obj b o ∈ H.flatten := by
  induction h with
  | here => simp
  | there _ ih => simp only [List.flatten_cons, List.mem_append]; exact .inr ih
  | among h => simp only [List.flatten_cons, List.mem_append]; exact .inl h
theorem run_getObj_of {b : Nat} {o : Obj} {L F : List Atom} {w : World} (hm : Atom.obj b o ∈ L) (hs : Sat w (L ++ F)) : (getObj b).run P w = .ok o w := by
  obtain ⟨h1, h2⟩ := hs.obj (List.mem_append_left F hm)
  cases o <;> simp_all [Go.getObj, Sem.run, isCells]
theorem st_lookup {sk : SK} {zero : Value} {ok : Bool} {m x : Operand} {b c : Nat} {es : Array MapEntry} {k : κ} {l : List (κ × β)} (hm : ev Γ m = some (.map (some b))) (hx : ev Γ x = some (E.enc k)) (he : sk = E.sk)
    (ho : HasO H b (.map es c)) (hl : MapIs E V es c l) (h : VO P n rs (putE d (lookV ok zero ((mget k l).map V)) Γ) H Z K) : VO P n (⟨d, none, .lookup sk zero ok m x⟩ :: rs) Γ H Z K := by
  subst he
  refine VO.read rfl rfl (fun ρ hρ => ⟨_, rfl, fun F w hs => ?_⟩) h
  obtain ⟨r, f1, f2, _⟩ := find_of (k := k) (i := 0) hl.of
  have hg := run_getObj_of (P := P) ho.mem hs
  rw [hρ _ _ hm, hρ _ _ hx]
  simp only [entriesOf, Sem.run_bind, hg, Result.andThen_ok, Sem.run_pure, f1]
  rw [← f2]
  cases r with
  | none => rfl
  | some p => rfl
theorem st_lookup_nil {sk : SK} {zero : Value} {ok : Bool} {m x : Operand} (hm : ev Γ m = some (.map none)) (h : VO P n rs (putE d (lookV ok zero none) Γ) H Z K) : VO P n (⟨d, none, .lookup sk zero ok m x⟩ :: rs) Γ H Z K := by
  refine VO.read rfl rfl (fun ρ hρ => ⟨_, rfl, fun F w hs => ?_⟩) h
  rw [hρ _ _ hm]
  simp [entriesOf, findK, lookRes, lookV]
theorem st_mlen {m : Operand} {b c : Nat} {es : Array MapEntry} {l : List (κ × β)} (hm : ev Γ m = some (.map (some b))) (ho : HasO H b (.map es c)) (hl : MapIs E V es c l)
    (h : VO P n rs (putE d (.int .i64 l.length) Γ) H Z K) : VO P n (⟨d, none, .mlen m⟩ :: rs) Γ H Z K := by
  refine VO.read rfl rfl (fun ρ hρ => ⟨_, rfl, fun F w hs => ?_⟩) h
  have hg := run_getObj_of (P := P) ho.mem hs
  rw [hρ _ _ hm]
  have : es.size = l.length := by
    have := congrArg List.length hl.of
    simpa using this
  simp [entriesOf, hg, this]
theorem st_mapupd {sk : SK} {m x y : Operand} {b c : Nat} {es : Array MapEntry} {k : κ} {v : β} {l : List (κ × β)} {R : SH} (hm : ev Γ m = some (.map (some b))) (hx : ev Γ x = some (E.enc k)) (hy : ev Γ y = some (V v)) (he : sk = E.sk)
    (ht : Tk H [.obj b (.map es c)] R) (hl : MapIs E V es c l) (h : ∀ es' c', MapIs E V es' c' (mset k v l) → VO P n rs (putE d undef Γ) ([.obj b (.map es' c')] :: R) Z K) : VO P n (⟨d, none, .mapupd sk m x y⟩ :: rs) Γ H Z K := by
  subst he
  refine VO.act rfl rfl (fun ρ hρ => ⟨_, rfl, ?_⟩)
  rw [hρ _ _ hm, hρ _ _ hx, hρ _ _ hy]
  refine SWP.perm ht.perm ?_
  refine swp_entries (m := b) (c := c) (es := es) (by simp) ?_
  obtain ⟨r, f1, f2, f3⟩ := find_of (k := k) (i := 0) hl.of
  simp only [f1]
  cases r with
  | none =>
    refine SWP.bind (SWP.setObj rfl (SWP.pure ⟨undef, _, .inr ⟨rfl, rfl⟩, ?_, h _ _ (hl.push (by simpa using f2.symm))⟩))
    simp
  | some p =>
    obtain ⟨j, u⟩ := p
    obtain ⟨_, g2, e, g3, g4, _⟩ := f3 j u rfl
    simp only [Nat.sub_zero] at g3
    have hkey : ((es[j]?).map (·.key)).getD (E.enc k) = E.enc k := by
      have : es[j]? = some e := by simpa using g3
      simp [this, g4]
    refine SWP.bind (swp_key _ _ (fun kk hkk => ?_))
    have hkk' : kk = E.enc k := by rcases hkk with h | h; rw [h, hkey]; exact h
    refine SWP.bind (SWP.setObj rfl (SWP.pure ⟨undef, _, .inr ⟨rfl, rfl⟩, ?_, h _ _ (hl.modify f1 hkk')⟩))
    simp
theorem st_delete {sk : SK} {m x : Operand} {b c : Nat} {es : Array MapEntry} {k : κ} {l : List (κ × β)} {R : SH} (hm : ev Γ m = some (.map (some b))) (hx : ev Γ x = some (E.enc k)) (he : sk = E.sk)
    (ht : Tk H [.obj b (.map es c)] R) (hl : MapIs E V es c l) (h : ∀ es', MapIs E V es' c (mdel k l) → (∀ e ∈ es'.toList, e ∈ es.toList) → VO P n rs (putE d (.tuple #[]) Γ) ([.obj b (.map es' c)] :: R) Z K) : VO P n (⟨d, none, .delete sk m x⟩ :: rs) Γ H Z K := by
  subst he
  refine VO.act rfl rfl (fun ρ hρ => ⟨_, rfl, ?_⟩)
  rw [hρ _ _ hm, hρ _ _ hx]
  refine SWP.perm ht.perm ?_
  refine swp_entries (m := b) (c := c) (es := es) (by simp) ?_
  obtain ⟨r, f1, f2, f3⟩ := find_of (k := k) (i := 0) hl.of
  simp only [f1]
  cases r with
  | none =>
    have hn : mget k l = none := by have := f2.symm; simpa using this
    refine SWP.bind (SWP.setObj rfl (SWP.pure ⟨.tuple #[], _, .inl rfl, ?_, h es (by rw [mget_none_mdel hn]; exact hl) (fun _ h => h)⟩))
    simp
  | some p =>
    obtain ⟨j, u⟩ := p
    have hsub : ∀ e ∈ (es.eraseIdxIfInBounds j).toList, e ∈ es.toList := by
      intro e he
      unfold Array.eraseIdxIfInBounds at he
      split at he
      · rw [Array.toList_eraseIdx] at he; exact (List.eraseIdx_sublist _ _).subset he
      · exact he
    refine SWP.bind (SWP.setObj rfl (SWP.pure ⟨.tuple #[], _, .inl rfl, ?_, h _ (hl.erase f1) hsub⟩))
    simp
end
inductive IsSl (size : Nat) : Value → Nat → List Value → List Value → Prop where
  | mk {b o n c : Nat} {xs sp : List Value} : xs.length = n * size → xs.length + sp.length = c * size → n ≤ c → IsSl size (.slice (some ⟨b, o, none⟩) n c) n xs sp
  | nil : IsSl size (.slice none 0 0) 0 [] []
def slA : Value → List Value → List Value → List Atom
  | .slice (some ⟨b, o, none⟩) _ _, xs, sp => cellsAt b o (xs ++ sp)
  | _, _, _ => []
theorem IsSl.len {size n : Nat} {v : Value} {xs sp : List Value} (h : IsSl size v n xs sp) : xs.length = n * size := by
  cases h with
  | mk h1 _ _ => exact h1
  | nil => simp
theorem IsSl.some {size n : Nat} {v : Value} {xs sp : List Value} (h : IsSl size v n xs sp) (hn : 0 < n) : ∃ b o c, v = .slice (some ⟨b, o, none⟩) n c ∧ n ≤ c ∧ xs.length + sp.length = c * size := by
  cases h with
  | mk h1 h2 h3 => exact ⟨_, _, _, rfl, h3, h2⟩
  | nil => omega
theorem IsSl.form {size n : Nat} {v : Value} {xs sp : List Value} (h : IsSl size v n xs sp) : ∃ a c, v = .slice a n c := by
  cases h with
  | mk h1 h2 h3 => exact ⟨_, _, rfl⟩
  | nil => exact ⟨_, _, rfl⟩
theorem growBy_le (need : Nat) : ∀ (r c : Nat), c ≤ 2 * need + 192 → Builtin.growBy need r c ≤ 2 * need + 192 := by
  intro r
  induction r with
  | zero => intro c h; exact h
  | succ r ih =>
    intro c h
    simp only [Builtin.growBy]
    split
    · exact h
    · exact ih _ (by omega)
theorem nextcap_le {need c : Nat} (h : c < need) : Builtin.nextslicecap need c ≤ 2 * need + 192 := by
  unfold Builtin.nextslicecap
  split
  · omega
  · split
    · omega
    · exact growBy_le need 4 c (by omega)
theorem Src.mono {H H' : List Atom} {size n : Nat} {vs : List Value} {v : Value} (hs : ∀ x ∈ H, x ∈ H') (h : Src H size n vs v) : Src H' size n vs v := by
  unfold Src at *
  split at h
  · exact ⟨h.1, fun x hx => hs x (h.2 x hx)⟩
  · exact h
  · exact h
  · exact h.elim
theorem zeroRow_length (n : Nat) (z : List Value) : (zeroRow n z).length = n * z.length := by simp [zeroRow]
section
variable {P : Program} {n : Nat} {rs : List RO} {Γ : Env} {H : SH} {Z : List PanicEntry → Env → SH → Prop} {K : Env → SH → Prop} {d : Option Nat}
theorem st_append {t : TypeId} {size bytes : Nat} {zero : List Value} {s x : Operand} {sv xv : Value} {k m : Nat} {xs sp ys : List Value} {R : SH} (hs : ev Γ s = some sv) (hx : ev Γ x = some xv) (hsl : IsSl size sv k xs sp)
    (ht : Tk H (slA sv xs sp) R) (hm : seqLen xv = some m) (hsrc : Src R.flatten size m ys xv) (hlen : ys.length = m * size) (hone : ys.all oneCell = true) (hz : zero.length = size) (hb : bytes ≠ 0) (hroom : (2 * (k + m) + 192) * bytes ≤ 2 ^ 48)
    (h : ∀ sv' sp', IsSl size sv' (k + m) (xs ++ ys) sp' → VO P n rs (putE d sv' Γ) (slA sv' (xs ++ ys) sp' :: R) Z K) : VO P n (⟨d, none, .append t size bytes zero s x⟩ :: rs) Γ H Z K := by
  refine VO.act' rfl rfl (fun ρ hρ => ⟨_, rfl, ?_⟩)
  rw [hρ _ _ hs, hρ _ _ hx]
  refine SWP.perm ht.perm ?_
  have hsrc' : Src (slA sv xs sp ++ R.flatten) size m ys xv := hsrc.mono (fun x hx => List.mem_append_right _ hx)
  have grow : ∀ (a : Option Addr) (c : Nat), sv = .slice a k c → ¬ (k + m ≤ c) → Src (slA sv xs sp ++ R.flatten) size k xs sv →
      SWP P (if Builtin.nextslicecap (k + m) c * bytes > 2 ^ 48 ∨ bytes = 0 then stuck "size" else do
        let cap ← choose (.appendCap (k + m) c t)
        let old ← Builtin.firstCells size k sv
        let new ← Builtin.firstCells size m xv
        let b ← newObj (.cells (old ++ new ++ (zeroRow (cap - (k + m)) zero).toArray) t)
        pure (Next.value (.slice (Option.some ⟨b, 0, none⟩) (k + m) cap)) : Sem Next) (slA sv xs sp ++ R.flatten) fun nx L => ∃ v H' X, (nx = .value v ∨ (nx = .skip ∧ v = undef)) ∧ L.Perm (List.flatten H' ++ X) ∧ VO P n rs (putE d v Γ) H' Z K := by
    intro a c hsv hle hso
    have hnc : Builtin.nextslicecap (k + m) c * bytes ≤ 2 ^ 48 := Nat.le_trans (Nat.mul_le_mul_right _ (nextcap_le (by omega))) hroom
    rw [if_neg (by omega)]
    have fin : ∀ cap, k + m ≤ cap → SWP P (do
        let old ← Builtin.firstCells size k sv
        let new ← Builtin.firstCells size m xv
        let b ← newObj (.cells (old ++ new ++ (zeroRow (cap - (k + m)) zero).toArray) t)
        pure (Next.value (.slice (Option.some ⟨b, 0, none⟩) (k + m) cap)) : Sem Next) (slA sv xs sp ++ R.flatten) fun nx L => ∃ v H' X, (nx = .value v ∨ (nx = .skip ∧ v = undef)) ∧ L.Perm (List.flatten H' ++ X) ∧ VO P n rs (putE d v Γ) H' Z K := by
      intro cap hcap
      refine SWP.bind (SWP.firstCells hso (SWP.bind (SWP.firstCells hsrc' (mem_new (fun b => ?_)))))
      have hI : IsSl size (.slice (Option.some ⟨b, 0, none⟩) (k + m) cap) (k + m) (xs ++ ys) (zeroRow (cap - (k + m)) zero) := by
        refine .mk ?_ ?_ hcap
        · rw [List.length_append, hsl.len, hlen, Nat.add_mul]
        · rw [List.length_append, hsl.len, hlen, zeroRow_length, hz, ← Nat.add_mul, ← Nat.add_mul]
          congr 1; omega
      refine ⟨_, _, slA sv xs sp, .inl rfl, ?_, h _ _ hI⟩
      have : (xs.toArray ++ ys.toArray ++ (zeroRow (cap - (k + m)) zero).toArray).toList = xs ++ ys ++ zeroRow (cap - (k + m)) zero := by simp
      rw [this]
      simp only [List.flatten_cons, List.append_assoc]
      refine List.Perm.trans ?_ (List.Perm.append_left _ List.perm_append_comm)
      simp only [slA, List.append_assoc]
      exact List.Perm.refl _
    refine SWP.bind (SWP.choose (fun hf => by simp [Question.forced] at hf) (fun t' => fin _ ?_))
    simp only [Question.cut]; omega
  cases hsl with
  | @mk b o _ c _ _ h1 h2 h3 =>
    simp only [hm]
    by_cases hle : k + m ≤ c
    · rw [if_pos hle]
      refine SWP.bind (SWP.firstCells hsrc' ?_)
      have hl2 : ys.length ≤ sp.length := by
        have e1 : (k + m) * size ≤ c * size := Nat.mul_le_mul_right _ hle
        rw [Nat.add_mul] at e1; omega
      have hsplit : cellsAt b o (xs ++ sp) = cellsAt b o xs ++ (cellsAt b (o + k * size) (sp.take ys.length) ++ cellsAt b (o + k * size + ys.length) (sp.drop ys.length)) := by
        rw [cellsAt_append, h1]
        congr 1
        conv => lhs; rw [← List.take_append_drop ys.length sp]
        rw [cellsAt_append]
        congr 2
        simp; omega
      have hI : IsSl size (.slice (Option.some ⟨b, o, none⟩) (k + m) c) (k + m) (xs ++ ys) (sp.drop ys.length) := by
        refine .mk ?_ ?_ hle
        · rw [List.length_append, h1, hlen, Nat.add_mul]
        · rw [List.length_append, List.length_drop]; omega
      have hadd : ((⟨b, o, none⟩ : Addr).add (k * size)) = ⟨b, o + k * size, none⟩ := add_off b o _
      simp only [hadd]
      have hperm : (slA (.slice (Option.some ⟨b, o, none⟩) k c) xs sp ++ R.flatten).Perm (cellsAt b (o + k * size) (sp.take ys.length) ++ (cellsAt b o xs ++ (cellsAt b (o + k * size + ys.length) (sp.drop ys.length) ++ R.flatten))) := by
        simp only [slA, hsplit, List.append_assoc]
        exact perm_lead _ _ _
      refine SWP.perm hperm (SWP.bind (SWP.storeCells (by simp; omega) (List.all_eq_true.1 hone) (SWP.pure ?_)))
      refine ⟨_, _, [], .inl rfl, ?_, h _ _ hI⟩
      simp only [slA, List.flatten_cons, List.append_nil, cellsAt_append, h1, List.append_assoc]
      exact perm_lead _ _ _
    · rw [if_neg hle]
      refine grow _ c rfl hle ⟨h1, fun x hx => ?_⟩
      simp only [slA, cellsAt_append, List.mem_append]
      exact .inl (.inl hx)
  | nil =>
    simp only [hm]
    by_cases hle : 0 + m ≤ 0
    · rw [if_pos hle]
      have hm0 : m = 0 := by omega
      subst hm0
      obtain rfl : ys = [] := by simpa using hlen
      refine SWP.bind (SWP.firstCells hsrc' (SWP.pure ?_))
      exact ⟨_, _, [], .inl rfl, by simp [slA], h _ _ .nil⟩
    · rw [if_neg hle]
      exact grow _ 0 rfl hle rfl
theorem st_grow {t : TypeId} {size bytes : Nat} {zero : List Value} {s x : Operand} {sv : Value} {kk : IntKind} {k m : Nat} {xs sp : List Value} {R : SH} (hs : ev Γ s = some sv) (hx : ev Γ x = some (.int kk (m : Int))) (hsl : IsSl size sv k xs sp)
    (ht : Tk H (slA sv xs sp) R) (hone : (zeroRow m zero).all oneCell = true) (hz : zero.length = size) (hb : bytes ≠ 0) (hsz : size ≠ 0) (hroom : (2 * (k + m) + 192) * bytes ≤ 2 ^ 48)
    (h : ∀ sv' sp', IsSl size sv' (k + m) (xs ++ zeroRow m zero) sp' → VO P n rs (putE d sv' Γ) (slA sv' (xs ++ zeroRow m zero) sp' :: R) Z K) : VO P n (⟨d, none, .grow t size bytes zero s x⟩ :: rs) Γ H Z K := by
  have hmb : m * bytes ≤ 2 ^ 48 := Nat.le_trans (Nat.mul_le_mul_right _ (by omega)) hroom
  have hm48 : m ≤ 2 ^ 48 := Nat.le_trans (Nat.le_mul_of_pos_right _ (Nat.pos_of_ne_zero hb)) hmb
  have hbad : ¬ ((m : Int) < 0 ∨ (m : Int) * bytes > 2 ^ 48 ∨ IntKind.i64.wrap (m : Int) ≠ m ∨ size = 0) := by
    rintro (h1 | h1 | h1 | h1)
    · omega
    · exact absurd h1 (by have : (m : Int) * bytes = ((m * bytes : Nat) : Int) := by simp
                          rw [this]; omega)
    · exact h1 (wrap64 (by omega))
    · exact hsz h1
  have hlen : (zeroRow m zero).length = m * size := by rw [zeroRow_length, hz]
  have htn : (m : Int).toNat = m := Int.toNat_natCast m
  generalize hys : zeroRow m zero = ys at *
  refine VO.act' rfl rfl (fun ρ hρ => ⟨_, rfl, ?_⟩)
  rw [hρ _ _ hs, hρ _ _ hx]
  refine SWP.perm ht.perm ?_
  have grow : ∀ (a : Option Addr) (c : Nat), sv = .slice a k c → ¬ (k + m ≤ c) → Src (slA sv xs sp ++ R.flatten) size k xs sv →
      SWP P (if Builtin.nextslicecap (k + m) c * bytes > 2 ^ 48 ∨ bytes = 0 ∨ ((k + m : Nat) : Int) > IntKind.i64.max then stuck "size" else do
        let cap ← choose (.appendCap (k + m) c t)
        let old ← Builtin.firstCells size k sv
        let b ← newObj (.cells (old ++ ys.toArray ++ (zeroRow (cap - (k + m)) zero).toArray) t)
        pure (Next.value (.slice (Option.some ⟨b, 0, none⟩) (k + m) cap)) : Sem Next) (slA sv xs sp ++ R.flatten) fun nx L => ∃ v H' X, (nx = .value v ∨ (nx = .skip ∧ v = undef)) ∧ L.Perm (List.flatten H' ++ X) ∧ VO P n rs (putE d v Γ) H' Z K := by
    intro a c hsv hle hso
    have hnc : Builtin.nextslicecap (k + m) c * bytes ≤ 2 ^ 48 := Nat.le_trans (Nat.mul_le_mul_right _ (nextcap_le (by omega))) hroom
    have hkm : (k + m) ≤ 2 ^ 48 := Nat.le_trans (Nat.le_trans (by omega) (Nat.le_mul_of_pos_right _ (Nat.pos_of_ne_zero hb))) hroom
    have hmax : IntKind.i64.max = 9223372036854775807 := by decide
    rw [if_neg (by rw [hmax]; omega)]
    have fin : ∀ cap, k + m ≤ cap → SWP P (do
        let old ← Builtin.firstCells size k sv
        let b ← newObj (.cells (old ++ ys.toArray ++ (zeroRow (cap - (k + m)) zero).toArray) t)
        pure (Next.value (.slice (Option.some ⟨b, 0, none⟩) (k + m) cap)) : Sem Next) (slA sv xs sp ++ R.flatten) fun nx L => ∃ v H' X, (nx = .value v ∨ (nx = .skip ∧ v = undef)) ∧ L.Perm (List.flatten H' ++ X) ∧ VO P n rs (putE d v Γ) H' Z K := by
      intro cap hcap
      refine SWP.bind (SWP.firstCells hso (mem_new (fun b => ?_)))
      have hI : IsSl size (.slice (Option.some ⟨b, 0, none⟩) (k + m) cap) (k + m) (xs ++ ys) (zeroRow (cap - (k + m)) zero) := by
        refine .mk ?_ ?_ hcap
        · rw [List.length_append, hsl.len, hlen, Nat.add_mul]
        · rw [List.length_append, hsl.len, hlen, zeroRow_length, hz, ← Nat.add_mul, ← Nat.add_mul]
          congr 1; omega
      refine ⟨_, _, slA sv xs sp, .inl rfl, ?_, h _ _ hI⟩
      have : (xs.toArray ++ ys.toArray ++ (zeroRow (cap - (k + m)) zero).toArray).toList = xs ++ ys ++ zeroRow (cap - (k + m)) zero := by simp
      rw [this]
      simp only [List.flatten_cons, List.append_assoc]
      refine List.Perm.trans ?_ (List.Perm.append_left _ List.perm_append_comm)
      simp only [slA, List.append_assoc]
      exact List.Perm.refl _
    refine SWP.bind (SWP.choose (fun hf => by simp [Question.forced] at hf) (fun t' => fin _ ?_))
    simp only [Question.cut]; omega
  cases hsl with
  | @mk b o _ c _ _ h1 h2 h3 =>
    simp only [if_neg hbad, htn, hys]
    by_cases hle : k + m ≤ c
    · rw [if_pos hle]
      have hl2 : ys.length ≤ sp.length := by
        have e1 : (k + m) * size ≤ c * size := Nat.mul_le_mul_right _ hle
        rw [Nat.add_mul] at e1; omega
      have hsplit : cellsAt b o (xs ++ sp) = cellsAt b o xs ++ (cellsAt b (o + k * size) (sp.take ys.length) ++ cellsAt b (o + k * size + ys.length) (sp.drop ys.length)) := by
        rw [cellsAt_append, h1]
        congr 1
        conv => lhs; rw [← List.take_append_drop ys.length sp]
        rw [cellsAt_append]
        congr 2
        simp; omega
      have hI : IsSl size (.slice (Option.some ⟨b, o, none⟩) (k + m) c) (k + m) (xs ++ ys) (sp.drop ys.length) := by
        refine .mk ?_ ?_ hle
        · rw [List.length_append, h1, hlen, Nat.add_mul]
        · rw [List.length_append, List.length_drop]; omega
      have hadd : ((⟨b, o, none⟩ : Addr).add (k * size)) = ⟨b, o + k * size, none⟩ := add_off b o _
      simp only [hadd]
      have hperm : (slA (.slice (Option.some ⟨b, o, none⟩) k c) xs sp ++ R.flatten).Perm (cellsAt b (o + k * size) (sp.take ys.length) ++ (cellsAt b o xs ++ (cellsAt b (o + k * size + ys.length) (sp.drop ys.length) ++ R.flatten))) := by
        simp only [slA, hsplit, List.append_assoc]
        exact perm_lead _ _ _
      refine SWP.perm hperm (SWP.bind (SWP.storeCells (by simp; omega) (List.all_eq_true.1 hone) (SWP.pure ?_)))
      refine ⟨_, _, [], .inl rfl, ?_, h _ _ hI⟩
      simp only [slA, List.flatten_cons, List.append_nil, cellsAt_append, h1, List.append_assoc]
      exact perm_lead _ _ _
    · rw [if_neg hle]
      refine grow _ c rfl hle ⟨h1, fun x hx => ?_⟩
      simp only [slA, cellsAt_append, List.mem_append]
      exact .inl (.inl hx)
  | nil =>
    simp only [if_neg hbad, htn, hys]
    by_cases hle : 0 + m ≤ 0
    · rw [if_pos hle]
      have hm0 : m = 0 := by omega
      subst hm0
      obtain rfl : ys = [] := by simpa using hlen
      refine SWP.bind (SWP.pure (SWP.pure ?_))
      exact ⟨_, _, [], .inl rfl, by simp [slA], h _ _ .nil⟩
    · rw [if_neg hle]
      exact grow _ 0 rfl hle rfl
theorem st_rangeM {x : Operand} {b c : Nat} {es : Array MapEntry} (hm : ev Γ x = some (.map (some b))) (ho : HasO H b (.map es c))
    (h : ∀ q, VO P n rs (putE d (.pointer (some ⟨q, 0, none⟩)) Γ) ([.obj q (.mapIter (some b) c #[] c)] :: H) Z K) : VO P n (⟨d, none, .rangeM x⟩ :: rs) Γ H Z K := by
  refine VO.act rfl rfl (fun ρ hρ => ⟨_, rfl, ?_⟩)
  rw [hρ _ _ hm]
  exact swp_entries (m := b) (c := c) (es := es) ho.mem (mem_newObj rfl (fun q => ⟨_, _, .inl rfl, by simp, h q⟩))
theorem st_next {it : Operand} {q b c : Nat} {seen : Array Nat} {es : Array MapEntry} {R : SH} (hi : ev Γ it = some (.pointer (some ⟨q, 0, none⟩))) (ht : Tk H [.obj q (.mapIter (some b) c seen c)] R) (ho : HasO R b (.map es c))
    (hc : ∀ e ∈ es.toList, e.born < c) (hover : (∀ e ∈ es.toList, e.born ∈ seen.toList) → VO P n rs (putE d (.tuple #[.bool false]) Γ) ([.obj q (.mapIter (some b) c seen c)] :: R) Z K)
    (hnext : ∀ e ∈ es.toList, e.born ∉ seen.toList → VO P n rs (putE d (.tuple #[.bool true, e.key, e.val]) Γ) ([.obj q (.mapIter (some b) c (seen.push e.born) c)] :: R) Z K) : VO P n (⟨d, none, .next it false⟩ :: rs) Γ H Z K := by
  refine VO.act rfl rfl (fun ρ hρ => ⟨_, rfl, ?_⟩)
  rw [hρ _ _ hi]
  refine SWP.perm ht.perm ?_
  have hcond : (!seen.isEmpty && !es.isEmpty && es.all (fun e => decide (e.born ≥ c))) = false := by
    cases hes : es.isEmpty with
    | true => simp
    | false =>
      have : es.all (fun e => decide (e.born ≥ c)) = false := by
        rw [Array.all_eq_false]
        have hne : es.toList ≠ [] := by intro h; simp at h; simp [h] at hes
        obtain ⟨e, he⟩ := List.exists_mem_of_ne_nil _ hne
        obtain ⟨i, hi', hei⟩ := List.getElem_of_mem he
        refine ⟨i, by simpa using hi', ?_⟩
        have := hc e he
        simp at hei
        simp [hei]; omega
      simp [this]
  have hnew : (es.filter fun e => !seen.contains e.born).filter (fun e => decide (e.born ≥ c)) = #[] := by
    rw [Array.filter_eq_empty_iff]
    intro e he
    have := hc e (by simpa using (Array.mem_filter.1 he).1)
    simp; omega
  have hold : (es.filter fun e => !seen.contains e.born).filter (fun e => decide (e.born < c)) = es.filter fun e => !seen.contains e.born := by
    rw [Array.filter_eq_self]
    intro e he
    have := hc e (by simpa using (Array.mem_filter.1 he).1)
    simpa using this
  have step : SWP P (Instr.next (.pointer (some ⟨q, 0, none⟩)) false 0) ([Atom.obj q (.mapIter (some b) c seen c)] ++ R.flatten) fun v L => ∃ H', L.Perm (List.flatten H') ∧ VO P n rs (putE d v Γ) H' Z K := by
    unfold Instr.next
    refine SWP.bind (SWP.getObj (o := .mapIter (some b) c seen c) (by simp) ?_)
    refine SWP.bind (SWP.getObj (o := .map es c) (by simp only [List.mem_append]; exact .inr ho.mem) ?_)
    simp only [hcond, Bool.false_eq_true, if_false, hold, hnew, Array.append_empty]
    by_cases hemp : (es.filter fun e => !seen.contains e.born) = #[]
    · have hall : ∀ e ∈ es.toList, e.born ∈ seen.toList := by
        intro e he
        rw [Array.filter_eq_empty_iff] at hemp
        have := hemp e (by simpa using he)
        simpa using this
      simp only [hemp, Array.isEmpty_empty, if_true, Array.map_empty, Array.append_empty]
      refine SWP.bind (SWP.choose (fun _ => SWP.pure ⟨_, by simp, hover hall⟩) (fun t => ?_))
      simp only [Question.cut]
      have : t % (#[(none : Option MapEntry)].size) = 0 := by simp; omega
      rw [this]
      exact SWP.pure ⟨_, by simp, hover hall⟩
    · generalize hl : (es.filter fun e => !seen.contains e.born) = l at hemp
      have hle : l.isEmpty = false := by simpa using hemp
      have hpos : 0 < l.size := Array.size_pos_iff.2 hemp
      simp only [hle, Bool.false_eq_true, if_false, Array.empty_append]
      have fin : ∀ i, i < l.size → SWP P (match (l.map Option.some)[i]? with
          | some (some e) => do
            setObj q (.mapIter (some b) c (seen.push e.born) c)
            pure (.tuple #[.bool true, e.key, e.val])
          | some none => pure (.tuple #[.bool false])
          | none => stuck "Next: no such candidate" : Sem Value) ([Atom.obj q (.mapIter (some b) c seen c)] ++ R.flatten) fun v L => ∃ H', L.Perm (List.flatten H') ∧ VO P n rs (putE d v Γ) H' Z K := by
        intro i hi'
        have hg : (l.map Option.some)[i]? = some (some l[i]) := by simp [hi']
        rw [hg]
        have hmem : l[i] ∈ es.filter fun e => !seen.contains e.born := by rw [hl]; exact Array.getElem_mem hi'
        have h2 := Array.mem_filter.1 hmem
        refine SWP.bind (SWP.setObj rfl (SWP.pure ⟨_, ?_, hnext l[i] (by simpa using h2.1) (by simpa using h2.2)⟩))
        simp
      refine SWP.bind (SWP.choose (fun hf => ?_) (fun t => ?_))
      · exact fin 0 hpos
      · simp only [Question.cut]
        exact fin _ (by have := Nat.mod_lt t (y := (l.map Option.some).size) (by simpa using hpos); simpa using this)
  refine SWP.bind (step.mono ?_)
  rintro v L ⟨H', h1, h2⟩
  exact SWP.pure ⟨v, H', .inl rfl, h1, h2⟩
theorem find_born {es : List MapEntry} (hb : es.Pairwise fun a b => a.born < b.born) {e : MapEntry} (he : e ∈ es) : es.find? (fun x => x.born == e.born) = some e := by
  induction es with
  | nil => cases he
  | cons a r ih =>
    have hp := List.pairwise_cons.1 hb
    rcases List.mem_cons.1 he with rfl | he
    · simp
    · have : ¬ (a.born == e.born) = true := by
        have := hp.1 e he
        simp; omega
      simp only [List.find?_cons, this]
      exact ih hp.2 he
theorem st_entry {it : Operand} {q b c : Nat} {seen : Array Nat} {es : Array MapEntry} {e : MapEntry} (hi : ev Γ it = some (.pointer (some ⟨q, 0, none⟩))) (hq : HasO H q (.mapIter (some b) c (seen.push e.born) c)) (ho : HasO H b (.map es c))
    (hb : es.toList.Pairwise fun a b => a.born < b.born) (he : e ∈ es.toList) (h : VO P n rs (putE d (.tuple #[e.key, e.val]) Γ) H Z K) : VO P n (⟨d, none, .entry it⟩ :: rs) Γ H Z K := by
  refine VO.read rfl rfl (fun ρ hρ => ⟨_, rfl, fun F w hs => ?_⟩) h
  rw [hρ _ _ hi]
  have g1 := run_getObj_of (P := P) hq.mem hs
  have g2 := run_getObj_of (P := P) ho.mem hs
  have hf : es.find? (fun x => x.born == e.born) = some e := by
    rw [← Array.find?_toList]; exact find_born hb he
  simp [Instr.entry, g1, g2, hf]
end
theorem flatMap_len {α β : Type} {f : α → List β} {n : Nat} : ∀ {l : List α}, (∀ x ∈ l, (f x).length = n) → (l.flatMap f).length = l.length * n := by
  intro l
  induction l with
  | nil => intro _; simp
  | cons a l ih =>
    intro h
    simp only [List.flatMap_cons, List.length_append, List.length_cons, h a (by simp), ih (fun x hx => h x (by simp [hx]))]
    rw [Nat.add_mul]; omega
theorem flatMap_get {α β : Type} {f : α → List β} {n : Nat} : ∀ {l : List α}, (∀ x ∈ l, (f x).length = n) → ∀ {i j : Nat} {x : α}, l[i]? = some x → j < n → (l.flatMap f)[i * n + j]? = (f x)[j]? := by
  intro l
  induction l with
  | nil => intro _ i j x hx; simp at hx
  | cons a l ih =>
    intro h i j x hx hj
    have ha := h a (by simp)
    cases i with
    | zero =>
      simp at hx; subst hx
      simp only [List.flatMap_cons, Nat.zero_mul, Nat.zero_add]
      rw [List.getElem?_append_left (by omega)]
    | succ i =>
      simp at hx
      simp only [List.flatMap_cons]
      rw [List.getElem?_append_right (by rw [ha, Nat.add_mul]; omega)]
      have : (i + 1) * n + j - (f a).length = i * n + j := by rw [ha, Nat.add_mul]; omega
      rw [this]
      exact ih (fun y hy => h y (by simp [hy])) hx hj
theorem flatMap_slice {α β : Type} {f : α → List β} {n : Nat} {l : List α} (h : ∀ x ∈ l, (f x).length = n) {i : Nat} {x : α} (hi : l[i]? = some x) : ((l.flatMap f).drop (i * n)).take n = f x := by
  have hx := h x (List.mem_of_getElem? hi)
  apply List.ext_getElem?
  intro j
  by_cases hj : j < n
  · rw [List.getElem?_take_of_lt hj, List.getElem?_drop]
    exact flatMap_get h hi hj
  · rw [List.getElem?_eq_none (by simp; omega), List.getElem?_eq_none (by omega)]
theorem flatMap_put {α β : Type} {f : α → List β} {n : Nat} : ∀ {l : List α}, (∀ x ∈ l, (f x).length = n) → ∀ {i : Nat} {y : α}, i < l.length → (l.flatMap f).take (i * n) ++ f y ++ (l.flatMap f).drop (i * n + n) = (l.set i y).flatMap f := by
  intro l
  induction l with
  | nil => intro _ i y hi; simp at hi
  | cons a l ih =>
    intro h i y hi
    have ha := h a (by simp)
    cases i with
    | zero =>
      simp only [Nat.zero_mul, List.take_zero, List.nil_append, Nat.zero_add, List.set_cons_zero, List.flatMap_cons]
      rw [List.drop_append_of_le_length (by omega), List.drop_eq_nil_of_le (by omega)]; simp
    | succ i =>
      simp at hi
      simp only [List.set_cons_succ, List.flatMap_cons]
      rw [← ih (fun x hx => h x (by simp [hx])) hi]
      have e1 : (i + 1) * n = (f a).length + i * n := by rw [ha, Nat.add_mul]; omega
      have e2 : (i + 1) * n + n = (f a).length + (i * n + n) := by omega
      rw [e2, e1, List.take_length_add_append, List.drop_length_add_append]
      simp [List.append_assoc]
theorem perm_erase {α : Type} : ∀ {l : List α} {i : Nat} {x : α}, l[i]? = some x → l.Perm (x :: l.eraseIdx i) := by
  intro l
  induction l with
  | nil => intro i x h; simp at h
  | cons a l ih =>
    intro i x h
    cases i with
    | zero => simp at h; subst h; simp
    | succ i =>
      simp at h
      exact ((ih h).cons a).trans (List.Perm.swap x a _)
theorem perm_flatMap {α β : Type} (f : α → List β) {l : List α} {i : Nat} {x : α} (h : l[i]? = some x) : (l.flatMap f).Perm (f x ++ (l.eraseIdx i).flatMap f) := by
  have hp := perm_erase h
  have := hp.flatMap_right f
  simpa using this
theorem perm_flatMap_set {α β : Type} (f : α → List β) {l : List α} {i : Nat} {y : α} (h : i < l.length) : (f y ++ (l.eraseIdx i).flatMap f).Perm ((l.set i y).flatMap f) := by
  have h1 : (l.set i y)[i]? = some y := by simp [h]
  have := perm_flatMap f h1
  rw [List.eraseIdx_set_eq] at this
  exact this.symm
theorem Imp.left {A B : SH} : Imp (A ++ B) A := ⟨B, by simp [Spl]⟩
theorem Imp.perm {A B : SH} (h : A.flatten.Perm B.flatten) : Imp A B := ⟨[], by simpa [Spl] using h⟩
theorem VO.imp {P : Program} {n : Nat} {rs : List RO} {Γ : Env} {H H' : SH} {Z : List PanicEntry → Env → SH → Prop} {K : Env → SH → Prop} (i : Imp H H') (h : VO P n rs Γ H' Z K) : VO P n rs Γ H Z K :=
  fun l hl a w F ZZ Q ha hs hq hz => h l hl a w F ZZ Q ha (hs.imp i) hq hz
theorem VO.pull {P : Program} {n : Nat} {rs : List RO} {Γ : Env} {H R : SH} {Z : List PanicEntry → Env → SH → Prop} {K : Env → SH → Prop} {A : List Atom} (ht : Tk H A R) (h : VO P n rs Γ (A :: R) Z K) : VO P n rs Γ H Z K :=
  VO.imp (Imp.perm (by simpa using ht.perm)) h
theorem VC.pull {P : Program} {n : Nat} {c : IC} {Γ : Env} {H R : SH} {Q : Exit → Env → SH → Prop} {A : List Atom} (ht : Tk H A R) (h : VC P n c Γ (A :: R) Q) : VC P n c Γ H Q :=
  VC.imp (Imp.perm (by simpa using ht.perm)) h
theorem endQ_mk {res : List RV} {Q : Value → SH → Prop} {e : Exit} {Γ : Env} {H Post : SH} {vs : List Value} (he : e = .normal ∨ e = .ret) (hr : Res Γ H res vs) (hq : Q (tup vs) Post) (hi : Imp H Post) : endQ res Q e Γ H := ⟨he, vs, Post, hr, hi, hq⟩
inductive HasM : SH → Nat → Nat → Nat → List Value → Prop where
  | cells {b o k n : Nat} {vs us : List Value} {L : SH} : o ≤ k → k - o + n ≤ vs.length → (vs.drop (k - o)).take n = us → us.length = n → HasM (cellsAt b o vs :: L) b k n us
  | there {A : List Atom} {L : SH} {b k n : Nat} {us : List Value} : HasM L b k n us → HasM (A :: L) b k n us
theorem HasM.row {H : SH} {b k n : Nat} {us : List Value} (h : HasM H b k n us) : HasN H b k us ∧ us.length = n := by
  induction h with
  | cells h1 _ h2 h3 => exact ⟨.cells h1 (by rw [h3, h2]) h3, h3⟩
  | there _ ih => exact ⟨.there ih.1, ih.2⟩
theorem st_loadM {P : Program} {n : Nat} {rs : List RO} {Γ : Env} {H : SH} {Z : List PanicEntry → Env → SH → Prop} {K : Env → SH → Prop} {d : Option Nat} {m : Nat} {x : Operand} {b o : Nat} {us : List Value} (hx : ev Γ x = some (.pointer (some ⟨b, o, none⟩))) (hm : HasM H b o m us) (h : VO P n rs (putE d (.agg us.toArray) Γ) H Z K) : VO P n (⟨d, none, .loadN m x⟩ :: rs) Γ H Z K :=
  st_loadN hx hm.row.1 hm.row.2 h
inductive Bnd (Γ : Env) (d : Nat) : Option Operand → Nat → Prop where
  | dft : Bnd Γ d none d
  | num {x : Operand} {k : IntKind} {m : Nat} : ev Γ x = some (.int k m) → Bnd Γ d (some x) m
theorem Bnd.val {Γ : Env} {d y m : Nat} {o : Option Operand} {ρ : Operand → Value} (h : Bnd Γ d o m) (hm : m ≤ y) (hρ : ∀ x u, ev Γ x = some u → ρ x = u) : boundO y (some d) (o.map ρ) = some m := by
  cases h with
  | dft => rfl
  | num hx => simp [boundO, hρ _ _ hx, bound, hm]
section
variable {P : Program} {n : Nat} {rs : List RO} {Γ : Env} {H : SH} {Z : List PanicEntry → Env → SH → Prop} {K : Env → SH → Prop} {d : Option Nat}
theorem st_slcA {len size l h b o o' : Nat} {x : Operand} {lo hi : Option Operand} (hx : ev Γ x = some (.pointer (some ⟨b, o, none⟩))) (hlo : Bnd Γ 0 lo l) (hhi : Bnd Γ len hi h) (hr : l ≤ h ∧ h ≤ len) (ho : (if len = l then o else o + l * size) = o')
    (hh : VO P n rs (putE d (.slice (some ⟨b, o', none⟩) (h - l) (len - l)) Γ) H Z K) : VO P n (⟨d, none, .slcA len size x lo hi⟩ :: rs) Γ H Z K :=
  VO.pure rfl (fun ρ hρ => by
    have h1 := hlo.val (y := h) hr.1 hρ
    have h2 := hhi.val (y := len) hr.2 hρ
    have h3 : boundO len (some len) none = some len := rfl
    simp [pureV, hρ _ _ hx, bounds, h1, h2, h3, ho]) hh
theorem st_slcL {size len cap l h b o o' : Nat} {x : Operand} {lo hi : Option Operand} (hx : ev Γ x = some (.slice (some ⟨b, o, none⟩) len cap)) (hlo : Bnd Γ 0 lo l) (hhi : Bnd Γ len hi h) (hr : l ≤ h ∧ h ≤ cap) (ho : (if cap = l then o else o + l * size) = o')
    (hh : VO P n rs (putE d (.slice (some ⟨b, o', none⟩) (h - l) (cap - l)) Γ) H Z K) : VO P n (⟨d, none, .slcL size x lo hi none⟩ :: rs) Γ H Z K :=
  VO.pure rfl (fun ρ hρ => by
    have h1 := hlo.val (y := h) hr.1 hρ
    have h2 := hhi.val (y := cap) hr.2 hρ
    have h3 : boundO cap (some cap) none = some cap := rfl
    simp [pureV, hρ _ _ hx, bounds, h1, h2, h3, ho]) hh
theorem st_slcN {size len cap l h : Nat} {x : Operand} {lo hi : Option Operand} (hx : ev Γ x = some (.slice none len cap)) (hlo : Bnd Γ 0 lo l) (hhi : Bnd Γ len hi h) (hr : l ≤ h ∧ h ≤ cap)
    (hh : VO P n rs (putE d (.slice none (h - l) (cap - l)) Γ) H Z K) : VO P n (⟨d, none, .slcL size x lo hi none⟩ :: rs) Γ H Z K :=
  VO.pure rfl (fun ρ hρ => by
    have h1 := hlo.val (y := h) hr.1 hρ
    have h2 := hhi.val (y := cap) hr.2 hρ
    have h3 : boundO cap (some cap) none = some cap := rfl
    simp [pureV, hρ _ _ hx, bounds, h1, h2, h3]) hh
theorem st_slcS {l h : Nat} {x : Operand} {lo hi : Option Operand} {s : ByteArray} (hx : ev Γ x = some (.string s)) (hlo : Bnd Γ 0 lo l) (hhi : Bnd Γ s.size hi h) (hr : l ≤ h ∧ h ≤ s.size)
    (hh : VO P n rs (putE d (.string (s.extract l h)) Γ) H Z K) : VO P n (⟨d, none, .slcS x lo hi⟩ :: rs) Γ H Z K :=
  VO.pure rfl (fun ρ hρ => by
    have h1 := hlo.val (y := h) hr.1 hρ
    have h2 := hhi.val (y := s.size) hr.2 hρ
    have h3 : boundO s.size (some s.size) none = some s.size := rfl
    simp [pureV, hρ _ _ hx, bounds, h1, h2, h3]) hh
end
theorem st_ext {P : Program} {n : Nat} {rs : List RO} {Γ : Env} {H : SH} {Z : List PanicEntry → Env → SH → Prop} {K : Env → SH → Prop} {d : Option Nat} {i : Nat} {x : Operand} {vs : Array Value} {v : Value} (hx : ev Γ x = some (.tuple vs)) (hv : vs[i]? = some v) (h : VO P n rs (putE d v Γ) H Z K) : VO P n (⟨d, none, .ext x i⟩ :: rs) Γ H Z K :=
  VO.pure rfl (fun ρ hρ => by simp [pureV, hρ _ _ hx, hv]) h
theorem HasN.flat {α : Type} {f : α → List Value} {n m b o i : Nat} {l : List α} {x : α} {L : SH} (h : ∀ x ∈ l, (f x).length = n) (hi : l[i]? = some x) (hm : m ≤ n) : HasN (cellsAt b o (l.flatMap f) :: L) b (o + i * n) ((f x).take m) := by
  refine .cells (n := m) (by omega) ?_ ?_
  · have hl := h x (List.mem_of_getElem? hi)
    rw [Nat.add_sub_cancel_left, List.length_take, hl, Nat.min_eq_left hm]
    rw [← flatMap_slice h hi, List.take_take, Nat.min_eq_left hm]
  · have hl := h x (List.mem_of_getElem? hi)
    rw [List.length_take, hl, Nat.min_eq_left hm]
theorem Has.flat {α : Type} {f : α → List Value} {n b o i j : Nat} {l : List α} {x : α} {v : Value} {L : SH} (h : ∀ x ∈ l, (f x).length = n) (hi : l[i]? = some x) (hj : j < n) (hv : (f x)[j]? = some v) : Has (cellsAt b o (l.flatMap f) :: L) b (o + i * n + j) v := by
  refine .cells (by omega) ?_
  rw [Nat.add_assoc, Nat.add_sub_cancel_left, flatMap_get h hi hj, hv]
theorem Upd.flat {α : Type} {f : α → List Value} {n b o i : Nat} {l : List α} {y : α} {L : SH} (h : ∀ x ∈ l, (f x).length = n) (hy : (f y).length = n) (hi : i < l.length) : Upd (cellsAt b o (l.flatMap f) :: L) b (o + i * n) (f y) (cellsAt b o ((l.set i y).flatMap f) :: L) := by
  refine .cells (by omega) ?_ ?_
  · have : i * n + n ≤ l.length * n := by rw [← Nat.succ_mul]; exact Nat.mul_le_mul_right n hi
    rw [Nat.add_sub_cancel_left, hy, flatMap_len h]; exact this
  · rw [Nat.add_sub_cancel_left, hy, flatMap_put h hi]
section
variable {P : Program} {n : Nat} {rs : List RO} {Γ : Env} {H R : SH} {Z : List PanicEntry → Env → SH → Prop} {K : Env → SH → Prop} {A B C : List Atom} {c : IC} {Q : Exit → Env → SH → Prop}
theorem VO.split (ht : Tk H A R) (hp : A.Perm (B ++ C)) (h : VO P n rs Γ (B :: C :: R) Z K) : VO P n rs Γ H Z K := by
  refine VO.perm ?_ h
  simp only [List.flatten_cons]
  rw [← List.append_assoc]
  exact ht.perm.trans (List.Perm.append_right _ hp)
theorem VC.split (ht : Tk H A R) (hp : A.Perm (B ++ C)) (h : VC P n c Γ (B :: C :: R) Q) : VC P n c Γ H Q := by
  refine VC.imp ⟨[], ?_⟩ h
  simp only [Spl, List.flatten_cons, List.flatten_nil, List.append_nil]
  rw [← List.append_assoc]
  exact ht.perm.trans (List.Perm.append_right _ hp)
theorem Imp.glue {R' Δ : SH} (h1 : Tk H B R) (h2 : Tk R C R') (hp : (B ++ C).Perm A) (k : Imp R' Δ) : Imp H (A :: Δ) := by
  obtain ⟨X, hX⟩ := k
  refine ⟨X, ?_⟩
  simp only [Spl, List.flatten_cons, List.append_assoc]
  refine h1.perm.trans ?_
  refine (List.Perm.append_left _ h2.perm).trans ?_
  rw [← List.append_assoc]
  exact List.Perm.append hp hX
theorem Spl.glue {R' R'' Pre : SH} (h1 : Tk H B R) (h2 : Tk R C R') (hp : (B ++ C).Perm A) (k : Spl R' Pre R'') : Spl H (A :: Pre) R'' := by
  simp only [Spl, List.flatten_cons, List.append_assoc]
  refine h1.perm.trans ?_
  refine (List.Perm.append_left _ h2.perm).trans ?_
  rw [← List.append_assoc]
  exact List.Perm.append hp k
theorem Imp.app {L M : SH} (h : Imp H (L ++ M)) : Imp H (L ++ M) := h
theorem HasO.of_mem {b : Nat} {o : Obj} (h : Atom.obj b o ∈ A) : ∀ {L : SH}, Atom.obj b o ∈ (A :: L).flatten := by
  intro L; simp only [List.flatten_cons, List.mem_append]; exact .inl h
end
theorem look_cons_self {Γ : Env} {t : Nat} {v : Value} : look ((t, v) :: Γ) t = some v := by simp [look]
end Go.V

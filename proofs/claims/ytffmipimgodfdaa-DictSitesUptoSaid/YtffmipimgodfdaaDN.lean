/-
  What is forgotten, laid and taken out; what is kept of caches.
-/
import Derived.Test.YtffmipimgodfdaaDM
namespace Go.V
open Go

/-- What is known of some selectors is forgotten. -/
def fgt (g : ByteArray → Bool) (k : Known) : Known := if g k.s then noKnown else k
def forgetR (R : Rep) (g : ByteArray → Bool) (es : Array MapEntry) : Rep := { R with glob := R.glob.map (fgt g), sites := R.sites.filter (fun p => !g p.2.sel), ses := es }

/-- The first places alone. -/
def fgtTo (g : ByteArray → Bool) (l : List Known) (k : Nat) : List Known := (l.take k).map (fgt g) ++ l.drop k

theorem fgtTo_len (g : ByteArray → Bool) (l : List Known) (k : Nat) : (fgtTo g l k).length = l.length := by simp [fgtTo]; omega

theorem fgtTo_at {g : ByteArray → Bool} {l : List Known} {k : Nat} (h : k < l.length) : (fgtTo g l k)[k]? = some l[k] := by
  unfold fgtTo
  rw [List.getElem?_append_right (by simp; omega)]
  simp [Nat.min_eq_left (Nat.le_of_lt h), h]

theorem fgtTo_step {g : ByteArray → Bool} {l : List Known} {k : Nat} (h : k < l.length) : fgtTo g l (k + 1) = (fgtTo g l k).set k (fgt g l[k]) := by
  apply List.ext_getElem?
  intro i
  unfold fgtTo
  rw [List.getElem?_set]
  split
  · rename_i e; subst e
    rw [List.getElem?_append_left (by simp; omega)]
    have : k < min k l.length + (l.length - k) := by omega
    simp [h, this]
  · rename_i e
    by_cases hi : i < k
    · rw [List.getElem?_append_left (by simp; omega), List.getElem?_append_left (by simp; omega)]
      simp [hi, show i < k + 1 by omega]
    · rw [List.getElem?_append_right (by simp; omega), List.getElem?_append_right (by simp; omega)]
      simp only [List.length_map, List.length_take, List.getElem?_drop]
      congr 1; omega

theorem fgtTo_keep {g : ByteArray → Bool} {l : List Known} {k : Nat} (h : k < l.length) (hg : g l[k].s = false) : fgtTo g l (k + 1) = fgtTo g l k := by
  rw [fgtTo_step h]
  apply List.ext_getElem?
  intro i
  rw [List.getElem?_set]
  split
  · rename_i e; subst e
    rw [fgtTo_at h]
    simp [fgtTo_len, h, fgt, hg]
  · rfl

theorem fgtTo_zero (g : ByteArray → Bool) (l : List Known) : fgtTo g l 0 = l := by simp [fgtTo]
theorem fgtTo_all {g : ByteArray → Bool} {l : List Known} {k : Nat} (h : k = l.length) : fgtTo g l k = l.map (fgt g) := by subst h; simp [fgtTo]

theorem WF.forget {R : Rep} (h : WF R) {g : ByteArray → Bool} {es : Array MapEntry} (hm : MapIs kInt (fun s : SiteR => ptr0 s.b) es R.sc (R.sites.filter fun p => !g p.2.sel)) : WF (forgetR R g es) := by
  obtain ⟨h1, h2, h3, h4, h5, h6, h7, h8, h9, h10, h11⟩ := h
  exact ⟨h1, h2, h3, h4, h5, h6, by simpa [forgetR] using h7, h8, (List.filter_sublist.map _).nodup h9, hm, fun p hp => h11 p (List.mem_filter.1 hp).1⟩

theorem slA_some (b o n c : Nat) (xs sp : List Value) : slA (.slice (some ⟨b, o, none⟩) n c) xs sp = cellsAt b o (xs ++ sp) := rfl

/-- Another dictionary for a class. -/
def layR (R : Rep) (c : Int) (d : DicR) : Rep := { R with dics := R.dics.set c.toNat d }

theorem layR_ptrs {R : Rep} {c : Int} {d d' : DicR} (hd : R.dics[c.toNat]? = some d) (hb : d'.b = d.b) : ((R.dics.set c.toNat d').map fun d => Value.map (some d.b)) = R.dics.map fun d => .map (some d.b) := by
  apply List.ext_getElem?
  intro i
  simp only [List.getElem?_map, List.getElem?_set]
  split
  · rename_i e; subst e
    obtain ⟨h1, h2⟩ := List.getElem?_eq_some_iff.1 hd
    simp [h1, h2, hb]
  · rfl

theorem WF.lay {R : Rep} (h : WF R) {c : Int} {d d' : DicR} (hd : R.dics[c.toNat]? = some d) (hb : d'.b = d.b) (hm : MapIs kStr vi d'.es d'.c d'.m) (hk : (d'.m.map (·.1)).Nodup) : WF (layR R c d') := by
  obtain ⟨h1, h2, h3, h4, h5, h6, h7, h8, h9, h10, h11⟩ := h
  refine ⟨h1, ?_, by simpa [layR] using h3, h4, h5, fun x hx => ?_, h7, fun x hx => ?_, h9, h10, h11⟩
  · simp only [layR]; rw [layR_ptrs hd hb]; exact h2
  · rcases List.mem_or_eq_of_mem_set hx with hx | rfl
    · exact h6 x hx
    · exact hm
  · rcases List.mem_or_eq_of_mem_set hx with hx | rfl
    · exact h8 x hx
    · exact hk

theorem layR_dic {R : Rep} {c : Int} {d' : DicR} (h0 : 0 ≤ c) (h1 : c.toNat < R.dics.length) (k : Int) : (layR R c d').dic k = if k = c then d'.m else R.dic k := by
  simp only [Rep.dic, layR, List.getElem?_set]
  by_cases e : k = c
  · subst e; simp [h0, h1]
  · by_cases hk : 0 ≤ k
    · have : ¬ c.toNat = k.toNat := by omega
      simp [e, this]
    · simp [e, hk]

/-- A slice of numbers that is read alone: where its cells are among some memory. -/
def RdInts (A : List Atom) (v : Value) (xs : List Int) : Prop := (v = .slice none 0 0 ∧ xs = []) ∨ ∃ b o c, v = .slice (some ⟨b, o, none⟩) xs.length c ∧ ∀ i x, xs[i]? = some x → Atom.cell b (o + i) (vi x) ∈ A

theorem RdInts.form {A : List Atom} {v : Value} {xs : List Int} (h : RdInts A v xs) : ∃ a c, v = .slice a xs.length c := by
  rcases h with ⟨rfl, rfl⟩ | ⟨b, o, c, rfl, _⟩
  · exact ⟨_, _, rfl⟩
  · exact ⟨_, _, rfl⟩

theorem RdInts.pos {A : List Atom} {v : Value} {xs : List Int} (h : RdInts A v xs) (hn : 0 < xs.length) : ∃ b o c, v = .slice (some ⟨b, o, none⟩) xs.length c ∧ ∀ i x, xs[i]? = some x → Atom.cell b (o + i) (vi x) ∈ A := by
  rcases h with ⟨rfl, rfl⟩ | h
  · simp at hn
  · exact h

theorem RdInts.src {b o : Nat} {A : List Atom} {xs : List Int} (h : ∀ i x, xs[i]? = some x → Atom.cell b (o + i) (vi x) ∈ A) : ∀ x ∈ cellsAt b o (xs.map vi), x ∈ A := by
  intro x hx
  obtain ⟨i, v, hi, rfl⟩ := mem_cellsAt.1 hx
  simp only [List.getElem?_map, Option.map_eq_some_iff] at hi
  obtain ⟨y, hy, rfl⟩ := hi
  exact h i y hy

/-- Which classes there may be. -/
def NewOk (xs : List Int) : Prop := xs.length ≤ 4096 ∧ ∀ (i : Nat) s, xs[i]? = some s → -1 ≤ s ∧ s < i

/-- A new table's memory. -/
structure Fresh (R : Rep) (xs : List Int) : Prop where
  wf : WF R
  sup : R.sup = xs
  dics : ∀ d ∈ R.dics, d.m = []
  glob : R.glob = List.replicate 64 noKnown
  sites : R.sites = []
  tel : R.tel = {}

def newCells (sv dv : Value) (sm : Nat) : List Value := [sv, dv] ++ ((List.replicate 64 noKnown).flatMap kEnc ++ ([.map (some sm)] ++ telEnc {}))

theorem newCells_at (t : Nat) (sv dv : Value) (sm : Nat) : cellsAt t 0 (newCells sv dv sm) = cellsAt t 0 [sv, dv] ++ (cellsAt t 2 ((List.replicate 64 noKnown).flatMap kEnc) ++ (cellsAt t 194 [.map (some sm)] ++ cellsAt t 195 (telEnc {}))) := by
  unfold newCells
  rw [cellsAt_append, cellsAt_append, cellsAt_append]
  rw [flatMap_len (n := 3) kEnc_len]
  rfl

theorem Imp.cut {H M Δ : SH} (h : Imp H M) (k : Imp M Δ) : Imp H Δ := by
  obtain ⟨X, hX⟩ := h
  obtain ⟨Y, hY⟩ := k
  refine ⟨Y ++ X, ?_⟩
  simp only [Spl, List.flatten_append] at *
  refine hX.trans ?_
  rw [← List.append_assoc]
  exact hY.append_right _
theorem Imp.fresh {H : SH} {A : List Atom} (h : A = [] := by rfl) : Imp H (A :: H) := by subst h; exact Imp.perm (by simp)
theorem Imp.app4 {A B C D : List Atom} {R : SH} : Imp ((A ++ (B ++ (C ++ D))) :: R) (A :: B :: C :: D :: R) := Imp.perm (by simp)

theorem zeroRow_one (n : Nat) (v : Value) : zeroRow n [v] = List.replicate n v := by
  unfold zeroRow
  rw [List.eq_replicate_iff]
  refine ⟨by simp, fun x hx => ?_⟩
  obtain ⟨i, _, rfl⟩ := List.mem_map.1 hx
  simp [Nat.mod_one]

theorem set_mid {α : Type} (l : List α) (m : Nat) (x y : α) : (l ++ List.replicate (m + 1) x).set l.length y = (l ++ [y]) ++ List.replicate m x := by
  rw [List.set_append_right _ _ (Nat.le_refl _)]
  simp [List.replicate_succ]

def newRep (xs : List Int) (sv : Value) (sp : List Value) (db sm : Nat) (ds : List DicR) : Rep :=
  { sup := xs, sv := sv, ssp := sp, dv := .slice (some ⟨db, 0, none⟩) xs.length xs.length, dics := ds, glob := List.replicate 64 noKnown, sm := sm, ses := #[], sc := 0, sites := [], tel := {} }

theorem newRep_fresh {xs : List Int} {sv : Value} {sp : List Value} {db sm : Nat} {ds : List DicR} (hok : NewOk xs) (hsl : IsSl 1 sv xs.length (xs.map vi) sp) (hl : ds.length = xs.length) (hd : ∀ d ∈ ds, d.es = #[] ∧ d.c = 0 ∧ d.m = []) : Fresh (newRep xs sv sp db sm ds) xs := by
  refine ⟨⟨hsl, .mk (by simp [hl, newRep]) (by simp [hl, newRep]) (Nat.le_refl _), hl, hok.1, hok.2, fun d hd' => ?_, by simp [newRep], fun d hd' => ?_, by simp [newRep], .nil, by simp [newRep]⟩, rfl, fun d h => (hd d h).2.2, rfl, rfl, rfl⟩
  · obtain ⟨h1, h2, h3⟩ := hd d hd'
    rw [h1, h2, h3]; exact .nil
  · rw [(hd d hd').2.2]; simp
end Go.V

/-
  The document's table: what its calls compute; that a table with caches of maps does the same.
-/
import Derived.Test.YtffmipimgodfdaaDI
set_option linter.unusedSimpArgs false
set_option linter.unusedVariables false
namespace Go.V
open Go
set_option linter.unusedSimpArgs false
set_option linter.unusedVariables false

structure RSite where
  sel : ByteArray
  cls : List Int
  ms : List Int
structure DT where
  sup : List Int
  dics : List (List (ByteArray × Int))
  glob : List Known
  sites : List (Int × RSite)
  tel : Tel

def noPl : Known := ⟨-1, ⟨#[]⟩, 0⟩
def DT.dic (D : DT) (c : Int) : List (ByteArray × Int) := if 0 ≤ c then (D.dics[c.toNat]?).getD [] else []
def DT.up (D : DT) (c : Int) : Int := (D.sup[c.toNat]?).getD (-1)
def plainG (D : DT) (s : ByteArray) : Nat → Int → Option Int × Nat
  | 0, _ => (none, 0)
  | f + 1, c => if c < 0 then (none, 0) else match mget s (D.dic c) with
    | some m => (some m, 1)
    | none => let r := plainG D s f (D.up c); (r.1, r.2 + 1)
def plainD (D : DT) (c : Int) (s : ByteArray) : Option Int × Nat := plainG D s (c + 1).toNat c
def DT.ask1 (D : DT) : DT := { D with tel := { D.tel with asked := D.tel.asked + 1 } }
def DT.known (D : DT) (i : Nat) : Known := (D.glob[i]?).getD noPl
def glbD (D : DT) (c : Int) (s : ByteArray) : Option Int × DT :=
  if (D.known (placeN c s)).c = c ∧ (D.known (placeN c s)).s = s then (some (D.known (placeN c s)).m, { D with tel := { D.tel with glob := D.tel.glob + 1 } })
  else match (plainD D c s).1 with
    | none => (none, { D with tel := D.tel.walk (plainD D c s).2 })
    | some m => (some m, { D with tel := D.tel.walk (plainD D c s).2, glob := D.glob.set (placeN c s) ⟨c, s, m⟩ })
def lookD (D : DT) (c : Int) (s : ByteArray) : Option Int × DT := if 0 ≤ c ∧ c < D.sup.length then glbD D.ask1 c s else (none, D)
def ownD (D : DT) (c : Int) (s : ByteArray) : Option Int := if 0 ≤ c ∧ c < D.sup.length then mget s (D.dic c) else none
def newSite (s : ByteArray) : RSite := ⟨s, [], []⟩
def siteD (D : DT) (at_ : Int) (s : ByteArray) : RSite × DT :=
  match mget at_ D.sites with
  | none => (newSite s, { D with sites := mset at_ (newSite s) D.sites })
  | some x => if x.sel = s then (x, D) else (newSite s, { D with sites := mset at_ (newSite s) D.sites })
def sendS (D : DT) (at_ c : Int) (s : ByteArray) (x : RSite) : Option Int × DT :=
  match fnd x.cls x.cls.length c with
  | some i => (some ((x.ms[i]?).getD 0), { D with tel := { D.tel with inl := D.tel.inl + 1 } })
  | none => match (glbD D c s).1 with
    | none => glbD D c s
    | some m => if x.cls.length < 4 then (some m, { (glbD D c s).2 with sites := mset at_ ⟨x.sel, x.cls ++ [c], x.ms ++ [m]⟩ (glbD D c s).2.sites }) else glbD D c s
def forgetD (D : DT) (g : ByteArray → Bool) : DT := { D with glob := D.glob.map (fun k => if g k.s then noPl else k), sites := D.sites.filter (fun p => !g p.2.sel) }
def layD (D : DT) (c : Int) (m : List (ByteArray × Int)) : DT := { D with dics := D.dics.set c.toNat m }

def GK (k p : Known) : Prop := (k.s = ⟨#[]⟩ ∧ p.c = -1 ∧ p.s = ⟨#[]⟩) ∨ (k.s ≠ ⟨#[]⟩ ∧ p = k)
def siteOf (x : SiteR) : RSite := ⟨x.sel, x.cls.take x.n, x.ms.take x.n⟩
/-- A table with caches of maps, and the document's. -/
structure Sim (R : TRep) (D : DT) : Prop where
  sup : D.sup = R.sup
  dics : D.dics = R.dics.map (·.m)
  glen : D.glob.length = R.glob.length
  glob : ∀ (i : Nat) k p, R.glob[i]? = some k → D.glob[i]? = some p → GK k p
  sites : D.sites = R.sites.map fun p => (p.1, siteOf p.2)
  tel : D.tel = R.tel
  noe : ∀ c, mget ⟨#[]⟩ (R.dic c) = none

section
variable {R : TRep} {D : DT}
theorem Sim.dic (h : Sim R D) (c : Int) : D.dic c = R.dic c := by
  simp only [DT.dic, TRep.dic, h.dics, List.getElem?_map]
theorem Sim.up (h : Sim R D) (c : Int) : D.up c = R.up c := by simp only [DT.up, TRep.up, h.sup]
theorem Sim.plainF (h : Sim R D) (s : ByteArray) : ∀ f c, plainG D s f c = V.plainF R s f c := by
  intro f
  induction f with
  | zero => intro c; rfl
  | succ f ih => intro c; simp only [plainG, V.plainF, h.dic, h.up, ih]; rfl
theorem Sim.plain (h : Sim R D) (c : Int) (s : ByteArray) : plainD D c s = V.plain R c s := h.plainF s _ c
theorem Sim.ask1 (h : Sim R D) : Sim R.ask1 D.ask1 := ⟨h.sup, h.dics, h.glen, h.glob, h.sites, by simp only [DT.ask1, TRep.ask1, h.tel], h.noe⟩
theorem plain_noe (hn : ∀ c, mget ⟨#[]⟩ (R.dic c) = none) (c : Int) : (V.plain R c ⟨#[]⟩).1 = none := by
  have : ∀ f c, (V.plainF R ⟨#[]⟩ f c).1 = none := by
    intro f
    induction f with
    | zero => intro c; rfl
    | succ f ih =>
      intro c
      simp only [V.plainF]
      split
      · rfl
      · simp only [hn]; exact ih _
  exact this _ c

/-- Through the global cache. -/
theorem sim_ask (h : Sim R D) (hw : WF R) {c : Int} (s : ByteArray) (hc : 0 ≤ c) : (glbD D c s).1 = (askR R c s).1 ∧ Sim (askR R c s).2 (glbD D c s).2 := by
  have hl := placeN_lt c s
  have hg := hw.glob
  obtain ⟨k, hk⟩ : ∃ k, R.glob[placeN c s]? = some k := ⟨R.glob[placeN c s]'(by omega), List.getElem?_eq_getElem (by omega)⟩
  obtain ⟨p, hp⟩ : ∃ p, D.glob[placeN c s]? = some p := ⟨D.glob[placeN c s]'(by rw [h.glen]; omega), by simp⟩
  have ek : R.known (placeN c s) = k := by simp [TRep.known, hk]
  have ep : D.known (placeN c s) = p := by simp [DT.known, hp]
  have hgk := h.glob _ _ _ hk hp
  by_cases hit : k.c = c ∧ k.s = s ∧ s ≠ ⟨#[]⟩
  · obtain rfl : p = k := by
      rcases hgk with ⟨h1, _⟩ | ⟨_, h2⟩
      · exact absurd (hit.2.1 ▸ h1) hit.2.2
      · exact h2
    rw [askR_hit (by rw [ek]; exact ⟨hit.1, hit.2.1⟩) hit.2.2]
    unfold glbD
    rw [ep, ek, if_pos ⟨hit.1, hit.2.1⟩]
    exact ⟨rfl, h.sup, h.dics, h.glen, h.glob, h.sites, by simp only [h.tel], h.noe⟩
  have miss : ¬ (p.c = c ∧ p.s = s) := by
    rintro ⟨h1, h2⟩
    rcases hgk with ⟨g1, g2, g3⟩ | ⟨g1, rfl⟩
    · omega
    · exact hit ⟨h1, h2, h2 ▸ g1⟩
  have miss' : ¬ ((R.known (placeN c s)).c = c ∧ (R.known (placeN c s)).s = s ∧ s ≠ ⟨#[]⟩) := by rw [ek]; exact hit
  unfold glbD
  rw [ep, if_neg miss, h.plain]
  cases hpl : (V.plain R c s).1 with
  | none =>
    rw [askR_none miss' hpl]
    exact ⟨rfl, h.sup, h.dics, h.glen, h.glob, h.sites, by simp only [h.tel], h.noe⟩
  | some m =>
    rw [askR_some miss' hpl]
    have hse : s ≠ ⟨#[]⟩ := by rintro rfl; rw [plain_noe h.noe c] at hpl; cases hpl
    refine ⟨rfl, h.sup, h.dics, by simp [h.glen], fun i k' p' hk' hp' => ?_, h.sites, by simp only [h.tel], h.noe⟩
    simp only [List.getElem?_set] at hk' hp'
    by_cases e : placeN c s = i
    · have l1 : placeN c s < R.glob.length := by omega
      have l2 : placeN c s < D.glob.length := by rw [h.glen]; omega
      rw [if_pos e, if_pos (by omega)] at hk' hp'
      cases hk'; cases hp'
      exact .inr ⟨hse, rfl⟩
    · rw [if_neg e] at hk' hp'
      exact h.glob _ _ _ hk' hp'

theorem mget_mset_same {κ α : Type} [DecidableEq κ] {k : κ} {v : α} : ∀ {l : List (κ × α)}, mget k (mset k v l) = some v
  | [] => by simp [mset, mget]
  | q :: l => by
    simp only [mset]
    split
    · rename_i he; simp only [mget]; rw [if_pos (by first | rfl | exact he)]
    · rename_i hne; simp only [mget, if_neg hne]; exact mget_mset_same
theorem fnd_take {xs : List Int} {n : Nat} {c : Int} (h : n ≤ xs.length) : fnd (xs.take n) (xs.take n).length c = fnd xs n c := by
  simp [fnd, List.take_take, Nat.min_eq_left h]

theorem mget_sites (h : Sim R D) (at_ : Int) : mget at_ D.sites = (mget at_ R.sites).map siteOf := by
  have key : ∀ l : List (Int × SiteR), mget at_ (l.map fun p => (p.1, siteOf p.2)) = (mget at_ l).map siteOf := by
    intro l
    induction l with
    | nil => rfl
    | cons p l ih => simp only [List.map_cons, mget]; split <;> simp_all
  rw [h.sites]; exact key _
theorem mset_sites (at_ : Int) (x : SiteR) (l : List (Int × SiteR)) : mset at_ (siteOf x) (l.map fun p => (p.1, siteOf p.2)) = (mset at_ x l).map fun p => (p.1, siteOf p.2) := by
  induction l with
  | nil => rfl
  | cons p l ih => simp only [List.map_cons, mset]; split <;> simp_all

/-- The site of a send. -/
theorem sim_site (h : Sim R D) (at_ : Int) (s : ByteArray) (b : Nat) (es : Array MapEntry) (k : Nat) :
    (siteD D at_ s).1 = siteOf (siteR R at_ s b es k).1 ∧ Sim (siteR R at_ s b es k).2 (siteD D at_ s).2 ∧ (siteR R at_ s b es k).1.sel = s ∧ (mget at_ (siteR R at_ s b es k).2.sites) = some (siteR R at_ s b es k).1 := by
  have new : Sim { R with sites := mset at_ ⟨b, s, 0, [0, 0, 0, 0], [0, 0, 0, 0]⟩ R.sites, ses := es, sc := k } { D with sites := mset at_ (newSite s) D.sites } :=
    ⟨h.sup, h.dics, h.glen, h.glob, by simp only [h.sites]; exact mset_sites at_ ⟨b, s, 0, [0, 0, 0, 0], [0, 0, 0, 0]⟩ _, h.tel, h.noe⟩
  have hm := mget_sites h at_
  unfold siteD siteR
  cases hg : mget at_ R.sites with
  | none =>
    rw [hg] at hm
    simp only [Option.map_none] at hm
    simp only [hm]
    exact ⟨rfl, new, trivial, mget_mset_same⟩
  | some x =>
    rw [hg] at hm
    simp only [Option.map_some] at hm
    simp only [hm]
    by_cases e : x.sel = s
    · have e' : (siteOf x).sel = s := e
      simp only [if_pos e, if_pos e']
      exact ⟨trivial, h, e, hg⟩
    · have e' : ¬ (siteOf x).sel = s := e
      simp only [if_neg e, if_neg e']
      exact ⟨rfl, new, trivial, mget_mset_same⟩

theorem sim_sendT (h : Sim R D) (hw : WF R) {at_ c : Int} {s : ByteArray} {x : SiteR} (hc : 0 ≤ c) (hx : x.cls.length = 4 ∧ x.ms.length = 4 ∧ x.n ≤ 4) (hsel : x.sel = s) :
    (sendS D at_ c s (siteOf x)).1 = (sendT R at_ c s x).1 ∧ Sim (sendT R at_ c s x).2 (sendS D at_ c s (siteOf x)).2 := by
  obtain ⟨a1, a2⟩ := sim_ask h hw s hc
  have hlen : (siteOf x).cls.length = x.n := by simp [siteOf, hx.1]; omega
  unfold sendS sendT
  have hf : fnd (siteOf x).cls (siteOf x).cls.length c = fnd x.cls x.n c := fnd_take (by omega)
  rw [hf]
  cases hfd : fnd x.cls x.n c with
  | some i =>
    obtain ⟨f1, f2⟩ := fnd_is hfd
    simp only
    refine ⟨?_, h.sup, h.dics, h.glen, h.glob, h.sites, by simp only [h.tel], h.noe⟩
    simp only [siteOf, List.getElem?_take, if_pos f1]
  | none =>
    simp only
    rw [a1]
    cases hr : (askR R c s).1 with
    | none => simp only; exact ⟨a1, a2⟩
    | some m =>
      simp only
      rw [hlen]
      by_cases h4 : x.n < 4
      · rw [if_pos h4, if_pos h4]
        refine ⟨rfl, a2.sup, a2.dics, a2.glen, a2.glob, ?_, a2.tel, a2.noe⟩
        simp only [a2.sites]
        have : (⟨(siteOf x).sel, (siteOf x).cls ++ [c], (siteOf x).ms ++ [m]⟩ : RSite) = siteOf (x.more c m) := by
          simp only [siteOf, SiteR.more, RSite.mk.injEq, true_and]
          constructor <;> rw [List.take_add_one, List.take_set_of_le (Nat.le_refl _)] <;> simp [hx.1, hx.2.1, h4]
        rw [this]
        exact mset_sites at_ _ _
      · rw [if_neg h4, if_neg h4]
        exact ⟨a1, a2⟩

theorem sim_forget (h : Sim R D) (g : ByteArray → Bool) (hg : ∀ k ∈ D.glob, k.c = -1 → True) (es : Array MapEntry) : Sim (forgetR R g es) (forgetD D g) := by
  refine ⟨h.sup, h.dics, by simp [forgetR, forgetD, h.glen], fun i k p hk hp => ?_, ?_, h.tel, h.noe⟩
  · simp only [forgetR, forgetD, List.getElem?_map] at hk hp
    cases hk' : R.glob[i]? with
    | none => rw [hk'] at hk; cases hk
    | some k0 =>
      cases hp' : D.glob[i]? with
      | none => rw [hp'] at hp; cases hp
      | some p0 =>
        rw [hk'] at hk; rw [hp'] at hp
        simp only [Option.map_some, Option.some.injEq] at hk hp
        subst hk; subst hp
        have h0 := h.glob _ _ _ hk' hp'
        unfold fgt
        rcases h0 with ⟨h1, h2, h3⟩ | ⟨h1, rfl⟩
        · rw [h1, h3]
          split
          · exact .inl ⟨rfl, rfl, rfl⟩
          · exact .inl ⟨h1, h2, h3⟩
        · split
          · exact .inl ⟨rfl, rfl, rfl⟩
          · exact .inr ⟨h1, rfl⟩
  · simp only [forgetR, forgetD, h.sites, List.filter_map]
    rfl

theorem sim_lay (h : Sim R D) {c : Int} {d : DicR} (h0 : 0 ≤ c) (h1 : c.toNat < R.dics.length) (hn : mget ⟨#[]⟩ d.m = none) : Sim (layR R c d) (layD D c d.m) := by
  refine ⟨h.sup, ?_, h.glen, h.glob, h.sites, h.tel, fun k => ?_⟩
  · simp only [layR, layD, h.dics, List.map_set]
  · rw [layR_dic h0 h1]
    split
    · exact hn
    · exact h.noe k
def newD (xs : List Int) : DT := ⟨xs, List.replicate xs.length [], List.replicate 64 noPl, [], {}⟩
theorem sim_new {xs : List Int} (h : Fresh R xs) : Sim R (newD xs) := by
  have hl := h.wf.len
  have hd := h.dics
  refine ⟨h.sup.symm, ?_, by simp [newD, h.glob], fun i k p hk hp => ?_, by simp [newD, h.sites], h.tel.symm, fun c => ?_⟩
  · simp only [newD]
    rw [h.sup] at hl
    rw [← hl]
    apply List.ext_getElem?
    intro i
    simp only [List.getElem?_replicate, List.getElem?_map]
    by_cases hi : i < R.dics.length
    · rw [if_pos hi, List.getElem?_eq_getElem hi]
      simp [hd _ (List.getElem_mem hi)]
    · rw [if_neg hi, List.getElem?_eq_none (by omega)]; rfl
  · rw [h.glob] at hk
    simp only [newD] at hp
    rw [List.getElem?_replicate] at hk hp
    split at hk
    · rw [if_pos (by assumption)] at hp
      cases hk; cases hp
      exact .inl ⟨rfl, rfl, rfl⟩
    · cases hk
  · simp only [TRep.dic]
    split
    · cases hc : R.dics[c.toNat]? with
      | none => rfl
      | some d => simp [hd d (List.mem_of_getElem? hc), mget]
    · rfl
end
end Go.V
namespace Go.V
open Go
/-- A list that can be read. -/
def RdRow (size : Nat) (A : List Atom) (v : Value) (k : Nat) (xs : List Value) : Prop :=
  (v = .slice none 0 0 ∧ k = 0 ∧ xs = []) ∨ ∃ b o c, v = .slice (some ⟨b, o, none⟩) k c ∧ k ≤ c ∧ xs.length = k * size ∧ ∀ x ∈ cellsAt b o xs, x ∈ A

theorem RdRow.form {size : Nat} {A : List Atom} {v : Value} {k : Nat} {xs : List Value} (h : RdRow size A v k xs) : ∃ a c, v = .slice a k c := by
  rcases h with ⟨rfl, rfl, _⟩ | ⟨b, o, c, rfl, _⟩
  · exact ⟨_, _, rfl⟩
  · exact ⟨_, _, rfl⟩

theorem RdRow.mono {size : Nat} {A B : List Atom} {v : Value} {k : Nat} {xs : List Value} (h : RdRow size A v k xs) (hs : ∀ a ∈ A, a ∈ B) : RdRow size B v k xs := by
  rcases h with h | ⟨b, o, c, h1, h2, h3, h4⟩
  · exact .inl h
  · exact .inr ⟨b, o, c, h1, h2, h3, fun x hx => hs x (h4 x hx)⟩

theorem IsSl.rd {size k : Nat} {v : Value} {xs sp : List Value} (h : IsSl size v k xs sp) : RdRow size (slA v xs sp) v k xs := by
  cases h with
  | @mk b o _ c _ _ h1 h2 h3 =>
    refine .inr ⟨b, o, c, rfl, h3, h1, fun x hx => ?_⟩
    simp only [slA, cellsAt_append, List.mem_append]
    exact .inl hx
  | nil => exact .inl ⟨rfl, rfl, rfl⟩

/-- A thing of such a list. -/
theorem RdRow.at_ {size : Nat} {A : List Atom} {v : Value} {α : Type} {enc : α → List Value} {l : List α} (h : RdRow size A v l.length (l.flatMap enc)) (he : ∀ x, (enc x).length = size) {i : Nat} {x : α} (hx : l[i]? = some x) :
    ∃ b o c, v = .slice (some ⟨b, o, none⟩) l.length c ∧ ∀ a ∈ cellsAt b (o + i * size) (enc x), a ∈ A := by
  have hi := (List.getElem?_eq_some_iff.1 hx).1
  rcases h with ⟨_, h2, _⟩ | ⟨b, o, c, h1, h2, h3, h4⟩
  · omega
  · refine ⟨b, o, c, h1, fun a ha => h4 a ?_⟩
    obtain ⟨j, v, hj, rfl⟩ := mem_cellsAt.1 ha
    have hjl := (List.getElem?_eq_some_iff.1 hj).1
    rw [he] at hjl
    refine mem_cellsAt.2 ⟨i * size + j, v, ?_, by congr 1; omega⟩
    have key : ∀ (l : List α) (i : Nat), l[i]? = some x → (l.flatMap enc)[i * size + j]? = some v := by
      intro l
      induction l with
      | nil => intro i h; simp at h
      | cons y l ih =>
        intro i h
        cases i with
        | zero =>
          simp only [List.getElem?_cons_zero, Option.some.injEq] at h
          subst h
          rw [List.flatMap_cons, Nat.zero_mul, Nat.zero_add, List.getElem?_append_left (by rw [he]; exact hjl)]
          exact hj
        | succ i =>
          rw [List.flatMap_cons, List.getElem?_append_right (by rw [he, Nat.succ_mul]; omega), he]
          have := ih i (by simpa using h)
          rw [← this]
          congr 1
          rw [Nat.succ_mul]; omega
    exact key l i hx

/-- A thing of a list that is read, of one cell. -/
theorem RdRow.cell {A : List Atom} {v : Value} {α : Type} {f : α → Value} {l : List α} (h : RdRow 1 A v l.length (l.map f)) {i : Nat} {x : α} (hx : l[i]? = some x) :
    ∃ b o c, v = .slice (some ⟨b, o, none⟩) l.length c ∧ Atom.cell b (o + i) (f x) ∈ A := by
  have hi := (List.getElem?_eq_some_iff.1 hx).1
  rcases h with ⟨_, h2, _⟩ | ⟨b, o, c, h1, h2, h3, h4⟩
  · omega
  · exact ⟨b, o, c, h1, h4 _ (mem_cellsAt.2 ⟨i, f x, by simp [hx], rfl⟩)⟩

section
variable {P : Program} {n : Nat} {rs : List RO} {Γ : Env} {H : SH} {Z : List PanicEntry → Env → SH → Prop} {K : Env → SH → Prop} {d : Option Nat}
theorem st_setSl {x y : Operand} {v : Value} {b o c k m : Nat} {xs sp : List Value} {R : SH} (hx : ev Γ x = some (.pointer (some ⟨b, o + m, none⟩))) (hy : ev Γ y = some v) (hv : v.cells.toList = [v]) (hone : oneCell v = true)
    (ht : Tk H (slA (.slice (some ⟨b, o, none⟩) k c) xs sp) R) (hm : m < xs.length) (h : VO P n rs (putE d undef Γ) (slA (.slice (some ⟨b, o, none⟩) k c) (xs.set m v) sp :: R) Z K) : VO P n (⟨d, none, .store 1 x y⟩ :: rs) Γ H Z K := by
  refine VO.perm (H' := slA (.slice (some ⟨b, o, none⟩) k c) xs sp :: R) (by rw [List.flatten_cons]; exact ht.perm) ?_
  refine st_store' (us := [v]) hx hy hv rfl (by simp [hone]) (Upd.cells (ws := xs.set m v ++ sp) (by omega) (by simp; omega) ?_) h
  have h1 : o + m - o = m := by omega
  rw [h1, List.set_eq_take_append_cons_drop, if_pos hm]
  simp only [List.length_cons, List.length_nil, Nat.zero_add]
  rw [List.take_append_of_le_length (by omega), List.drop_append_of_le_length (by omega)]
  simp
end

end Go.V
namespace Go.V
open Go
set_option linter.unusedSimpArgs false
set_option linter.unusedVariables false

structure DicV where
  v : Value
  m : List (ByteArray × Int)
  sp : List Value
structure SitV where
  site : Int
  sel : ByteArray
  cv : Value
  cls : List Int
  csp : List Value
  mv : Value
  ms : List Int
  msp : List Value
structure RTab where
  sup : List Int
  sv : Value
  ssp : List Value
  dv : Value
  dds : List DicV
  dsp : List Value
  glob : List Known
  xv : Value
  sites : List SitV
  xsp : List Value
  tel : Tel
def entEnc (p : ByteArray × Int) : List Value := [.string p.1, vi p.2]
def dicA (d : DicV) : List Atom := slA d.v (d.m.flatMap entEnc) d.sp
def sitEnc (s : SitV) : List Value := [vi s.site, .string s.sel, s.cv, s.mv]
def sitA (s : SitV) : List Atom := slA s.cv (s.cls.map vi) s.csp ++ slA s.mv (s.ms.map vi) s.msp
def RTab.dt (r : RTab) : DT := ⟨r.sup, r.dds.map (·.m), r.glob, r.sites.map (fun s => (s.site, ⟨s.sel, s.cls, s.ms⟩)), r.tel⟩
def RMem (t : Nat) (r : RTab) : SH :=
  [cellsAt t 0 [r.sv, r.dv], cellsAt t 2 (r.glob.flatMap kEnc), cellsAt t 194 [r.xv], cellsAt t 195 (telEnc r.tel), slA r.sv (r.sup.map vi) r.ssp, slA r.dv (r.dds.map (·.v)) r.dsp, r.dds.flatMap dicA, slA r.xv (r.sites.flatMap sitEnc) r.xsp, r.sites.flatMap sitA]

structure ROk (r : RTab) : Prop where
  sup : IsSl 1 r.sv r.sup.length (r.sup.map vi) r.ssp
  dv : IsSl 1 r.dv r.dds.length (r.dds.map (·.v)) r.dsp
  len : r.dds.length = r.sup.length
  small : r.sup.length ≤ 4096
  low : ∀ (i : Nat) s, r.sup[i]? = some s → -1 ≤ s ∧ s < i
  dd : ∀ d ∈ r.dds, IsSl 2 d.v d.m.length (d.m.flatMap entEnc) d.sp
  dn : ∀ d ∈ r.dds, d.m.length ≤ 4096
  glob : r.glob.length = 64
  xs : IsSl 4 r.xv r.sites.length (r.sites.flatMap sitEnc) r.xsp
  st : ∀ s ∈ r.sites, IsSl 1 s.cv s.cls.length (s.cls.map vi) s.csp ∧ IsSl 1 s.mv s.ms.length (s.ms.map vi) s.msp ∧ s.ms.length = s.cls.length ∧ s.cls.length ≤ 4
  sk : (r.sites.map (·.site)).Nodup ∧ ∀ z ∈ r.sites.map (·.site), 0 ≤ z ∧ z < 65536
theorem ROk.sn {r : RTab} (h : ROk r) : r.sites.length ≤ 65536 := by
  have := h.sk.1.length_le_of_subset (l₂ := (List.range 65536).map Int.ofNat) (fun z hz => by
    obtain ⟨h1, h2⟩ := h.sk.2 z hz
    exact List.mem_map.2 ⟨z.toNat, List.mem_range.2 (by omega), by show ((z.toNat : Nat) : Int) = z; omega⟩)
  simpa using this

/-- Where a list has a selector. -/
def findZ (m : List (ByteArray × Int)) (s : ByteArray) : Int := match m.findIdx? (fun p => decide (p.1 = s)) with | some i => i | none => -1
theorem findZ_none {m : List (ByteArray × Int)} {s : ByteArray} (h : ∀ (i : Nat) p, m[i]? = some p → p.1 ≠ s) : findZ m s = -1 := by
  unfold findZ
  rw [List.findIdx?_eq_none_iff.2]
  intro p hp
  obtain ⟨i, hi⟩ := List.mem_iff_getElem?.1 hp
  simpa using h i p hi
theorem findZ_some {m : List (ByteArray × Int)} {s : ByteArray} {k : Nat} {p : ByteArray × Int} (hk : m[k]? = some p) (hp : p.1 = s) (h : ∀ (i : Nat) q, i < k → m[i]? = some q → q.1 ≠ s) : findZ m s = k := by
  unfold findZ
  have hl := (List.getElem?_eq_some_iff.1 hk).1
  have he := (List.getElem?_eq_some_iff.1 hk).2
  rw [List.findIdx?_eq_some_iff_getElem.2 ⟨hl, by simp [he, hp], fun j hj => by
    have := h j (m[j]'(by omega)) hj (List.getElem?_eq_getElem (by omega))
    simpa using this⟩]
theorem findZ_mget {m : List (ByteArray × Int)} {s : ByteArray} : (findZ m s = -1 ∧ mget s m = none) ∨ ∃ i p, findZ m s = (i : Nat) ∧ m[i]? = some p ∧ p.1 = s ∧ mget s m = some p.2 := by
  induction m with
  | nil => left; exact ⟨rfl, rfl⟩
  | cons q l ih =>
    by_cases e : q.1 = s
    · right
      refine ⟨0, q, findZ_some (k := 0) rfl e (fun i q h => by omega), rfl, e, ?_⟩
      simp only [mget]; rw [if_pos (by first | exact e | exact e.symm)]
    · have hg : mget s (q :: l) = mget s l := by simp only [mget]; rw [if_neg (by first | exact e | exact fun h => e h.symm)]
      have hf : findZ (q :: l) s = if findZ l s = -1 then -1 else findZ l s + 1 := by
        unfold findZ
        rw [List.findIdx?_cons]
        have : decide (q.1 = s) = false := by simpa using e
        simp only [this]
        cases hx : l.findIdx? (fun p => decide (p.1 = s)) with
        | none => simp
        | some i => simp
      rw [hg]
      rcases ih with ⟨h1, h2⟩ | ⟨i, p, h1, h2, h3, h4⟩
      · left; exact ⟨by rw [hf, if_pos h1], h2⟩
      · right
        exact ⟨i + 1, p, by rw [hf, h1, if_neg (by omega)]; simp, by simpa using h2, h3, h4⟩
/-- A dictionary of a class. -/
theorem ROk.dic {r : RTab} (h : ROk r) {c : Int} (hc : 0 ≤ c ∧ c < r.sup.length) : ∃ d, r.dds[c.toNat]? = some d ∧ r.dt.dic c = d.m ∧ d ∈ r.dds := by
  have hl := h.len
  have hlt : c.toNat < r.dds.length := by omega
  refine ⟨r.dds[c.toNat], List.getElem?_eq_getElem hlt, ?_, List.getElem_mem hlt⟩
  simp [DT.dic, RTab.dt, hc.1, hlt]
end Go.V

/-
  What a table of classes, dictionaries and caches is, as lists; what its calls compute.
-/
import Derived.Test.YtffmipimgodfdaaVT
import Derived.Test.YtffmipimgodfdaaD0
set_option linter.unusedSimpArgs false
set_option linter.unusedVariables false
namespace Go.V
open Go

structure Known where
  c : Int
  s : ByteArray
  m : Int

structure SiteR where
  b : Nat
  sel : ByteArray
  n : Nat
  cls : List Int
  ms : List Int

structure DicR where
  b : Nat
  es : Array MapEntry
  c : Nat
  m : List (ByteArray × Int)

structure Tel where
  asked : Nat := 0
  inl : Nat := 0
  glob : Nat := 0
  walked : Nat := 0
  steps : Nat := 0

structure TRep where
  sup : List Int
  sv : Value
  ssp : List Value
  dv : Value
  dics : List DicR
  glob : List Known
  sm : Nat
  ses : Array MapEntry
  sc : Nat
  sites : List (Int × SiteR)
  tel : Tel


def kEnc (k : Known) : List Value := [vi k.c, .string k.s, vi k.m]
def telEnc (t : Tel) : List Value := [vi t.asked, vi t.inl, vi t.glob, vi t.walked, vi t.steps]
def sCells (s : SiteR) : List Value := .string s.sel :: vi s.n :: (s.cls.map vi ++ s.ms.map vi)
def sAtoms (p : Int × SiteR) : List Atom := cellsAt p.2.b 0 (sCells p.2)
def dAtoms (d : DicR) : List Atom := [.obj d.b (.map d.es d.c)]

/-- The parts of a table that lookup reads and writes. -/
def Core (t : Nat) (R : TRep) : SH :=
  [cellsAt t 0 [R.sv, R.dv], cellsAt t 2 (R.glob.flatMap kEnc), cellsAt t 195 (telEnc R.tel), slA R.sv (R.sup.map vi) R.ssp, slA R.dv (R.dics.map fun d => .map (some d.b)) [], R.dics.flatMap dAtoms]

/-- Where a number stands among the first of a list. -/
def fnd (xs : List Int) (n : Nat) (c : Int) : Option Nat := (xs.take n).findIdx? (fun x => x == c)

theorem fnd_some {xs : List Int} {n k : Nat} {c : Int} (hk : k < n) (hn : n ≤ xs.length) (hc : xs[k]? = some c) (hb : ∀ i, i < k → xs[i]? ≠ some c) : fnd xs n c = some k := by
  unfold fnd
  rw [List.findIdx?_eq_some_iff_getElem]
  have hl : k < (xs.take n).length := by simp; omega
  refine ⟨hl, ?_, fun j hj => ?_⟩
  · have := (List.getElem?_eq_some_iff.1 hc).2
    simp [this]
  · have := hb j hj
    rw [List.getElem?_eq_getElem (by omega)] at this
    simpa using this

theorem fnd_none {xs : List Int} {n : Nat} {c : Int} (hb : ∀ i, i < n → xs[i]? ≠ some c) : fnd xs n c = none := by
  unfold fnd
  rw [List.findIdx?_eq_none_iff]
  intro x hx
  obtain ⟨i, hi⟩ := List.mem_iff_getElem?.1 hx
  rw [List.getElem?_take] at hi
  split at hi
  · rename_i h
    have := hb i h
    simp only [beq_eq_false_iff_ne, ne_eq]
    rintro rfl
    exact this hi
  · cases hi

theorem fnd_is {xs : List Int} {n k : Nat} {c : Int} (h : fnd xs n c = some k) : k < n ∧ xs[k]? = some c := by
  unfold fnd at h
  rw [List.findIdx?_eq_some_iff_getElem] at h
  obtain ⟨hl, h1, _⟩ := h
  simp only [List.getElem_take, beq_iff_eq] at h1
  simp only [List.length_take] at hl
  exact ⟨by omega, by rw [← h1]; exact List.getElem?_eq_getElem (by omega)⟩

theorem Core_eq (t : Nat) (R : TRep) : Core t R = [cellsAt t 0 [R.sv, R.dv], cellsAt t 2 (R.glob.flatMap kEnc), cellsAt t 195 [vi R.tel.asked, vi R.tel.inl, vi R.tel.glob, vi R.tel.walked, vi R.tel.steps], slA R.sv (R.sup.map vi) R.ssp, slA R.dv (R.dics.map fun d => .map (some d.b)) [], R.dics.flatMap dAtoms] := rfl

/-- What a site of a send answers, and what it knows behind it; another site lies in block b. -/
def siteR (R : TRep) (at_ : Int) (s : ByteArray) (b : Nat) (es : Array MapEntry) (k : Nat) : SiteR × TRep :=
  let fresh : SiteR := ⟨b, s, 0, [0, 0, 0, 0], [0, 0, 0, 0]⟩
  let new := (fresh, { R with sites := mset at_ fresh R.sites, ses := es, sc := k })
  match mget at_ R.sites with
  | none => new
  | some x => if x.sel = s then (x, R) else new

/-- And its sites. -/
def SitesI (t : Nat) (R : TRep) : SH := [cellsAt t 194 [.map (some R.sm)], [.obj R.sm (.map R.ses R.sc)], R.sites.flatMap sAtoms]

structure WF (R : TRep) : Prop where
  sup : IsSl 1 R.sv R.sup.length (R.sup.map vi) R.ssp
  dv : IsSl 1 R.dv R.sup.length (R.dics.map fun d => .map (some d.b)) []
  len : R.dics.length = R.sup.length
  small : R.sup.length ≤ 4096
  low : ∀ (i : Nat) s, R.sup[i]? = some s → -1 ≤ s ∧ s < i
  dics : ∀ d ∈ R.dics, MapIs kStr vi d.es d.c d.m
  glob : R.glob.length = 64
  keys : ∀ d ∈ R.dics, (d.m.map (·.1)).Nodup
  skeys : (R.sites.map (·.1)).Nodup
  sites : MapIs kInt (fun s : SiteR => ptr0 s.b) R.ses R.sc R.sites
  site : ∀ p ∈ R.sites, p.2.cls.length = 4 ∧ p.2.ms.length = 4 ∧ p.2.n ≤ 4

/-- The counters are no more than so many calls can bring about. -/
def TelOk (t : Tel) (N : Nat) : Prop := t.asked ≤ N ∧ t.inl ≤ N ∧ t.glob ≤ N ∧ t.walked ≤ N ∧ t.steps ≤ 4096 * t.walked

/-- The counters behind a walk. -/
def Tel.walk (T : Tel) (k : Nat) : Tel := { T with walked := T.walked + 1, steps := T.steps + k }

def okM (r : Option Int) : Value := .tuple #[vi (r.getD 0), .bool r.isSome]

def TRep.dic (R : TRep) (c : Int) : List (ByteArray × Int) := if 0 ≤ c then ((R.dics[c.toNat]?).map (·.m)).getD [] else []
def TRep.up (R : TRep) (c : Int) : Int := (R.sup[c.toNat]?).getD (-1)

/-- By each class's own dictionary, upwards; and how many were asked. -/
def plainF (R : TRep) (s : ByteArray) : Nat → Int → Option Int × Nat
  | 0, _ => (none, 0)
  | f + 1, c => if c < 0 then (none, 0) else match mget s (R.dic c) with
    | some m => (some m, 1)
    | none => let r := plainF R s f (R.up c); (r.1, r.2 + 1)

def plain (R : TRep) (c : Int) (s : ByteArray) : Option Int × Nat := plainF R s (c + 1).toNat c

theorem plainF_steps (R : TRep) (s : ByteArray) : ∀ f c, (plainF R s f c).2 ≤ f := by
  intro f
  induction f with
  | zero => intro c; simp [plainF]
  | succ f ih =>
    intro c
    simp only [plainF]
    split
    · simp
    · split
      · simp
      · have := ih (R.up c); simp only; omega

theorem up_lt {R : TRep} (h : WF R) {c : Int} (h0 : 0 ≤ c) (h1 : c < R.sup.length) : -1 ≤ R.up c ∧ R.up c < c := by
  obtain ⟨n, rfl⟩ := Int.eq_ofNat_of_zero_le h0
  have hn : n < R.sup.length := by omega
  have := h.low n R.sup[n] (by simp [hn])
  simp [TRep.up, hn]; exact this

theorem plain_step {R : TRep} (h : WF R) {c : Int} (s : ByteArray) (h0 : 0 ≤ c) (h1 : c < R.sup.length) :
    plain R c s = match mget s (R.dic c) with | some m => (some m, 1) | none => let r := plain R (R.up c) s; (r.1, r.2 + 1) := by
  obtain ⟨u1, u2⟩ := up_lt h h0 h1
  have key : ∀ f g (c : Int), c < R.sup.length → (c + 1).toNat ≤ f → (c + 1).toNat ≤ g → plainF R s f c = plainF R s g c := by
    intro f
    induction f with
    | zero =>
      intro g c _ hf hg
      have hc : c < 0 := by omega
      cases g with
      | zero => rfl
      | succ g => simp [plainF, hc]
    | succ f ih =>
      intro g c hc hf hg
      cases g with
      | zero =>
        have hc : c < 0 := by omega
        simp [plainF, hc]
      | succ g =>
        simp only [plainF]
        split
        · rfl
        · rename_i hn
          obtain ⟨u1, u2⟩ := up_lt h (by omega) hc
          rw [ih g (R.up c) (by omega) (by omega) (by omega)]
  have e : (c + 1).toNat = c.toNat + 1 := by omega
  unfold plain
  rw [e]
  simp only [plainF]
  rw [if_neg (by omega), key c.toNat (R.up c + 1).toNat (R.up c) (by omega) (by omega) (by omega)]

theorem plain_neg {R : TRep} {c : Int} (s : ByteArray) (h : c < 0) : plain R c s = (none, 0) := by
  unfold plain
  have : (c + 1).toNat = 0 := by omega
  rw [this]; rfl

/-- The sum over a selector's bytes. -/
def psum (s : ByteArray) : Nat → Nat
  | 0 => 0
  | k + 1 => psum s k + ((s[k]?).map (·.toNat)).getD 0 * (k + 1)

theorem psum_le (s : ByteArray) : ∀ k, k ≤ 1048576 → psum s k ≤ k * 267386880 := by
  intro k
  induction k with
  | zero => intro _; simp [psum]
  | succ k ih =>
    intro h
    have := ih (by omega)
    simp only [psum]
    have hb : ((s[k]?).map (·.toNat)).getD 0 ≤ 255 := by
      cases s[k]? with
      | none => simp
      | some b => simp; have := b.toNat_lt; omega
    have : ((s[k]?).map (·.toNat)).getD 0 * (k + 1) ≤ 255 * 1048576 := Nat.mul_le_mul hb h
    omega

def placeN (c : Int) (s : ByteArray) : Nat := (31 * c.toNat + s.size + psum s s.size) % 64

theorem placeN_lt (c : Int) (s : ByteArray) : placeN c s < 64 := Nat.mod_lt _ (by omega)

/-- A class's dictionary, as memory has it. -/
theorem dic_at {R : TRep} (h : WF R) {c : Int} (h0 : 0 ≤ c) (h1 : c < R.sup.length) : ∃ d, R.dics[c.toNat]? = some d ∧ R.dic c = d.m ∧ MapIs kStr vi d.es d.c d.m := by
  have hl := h.len
  have hlt : c.toNat < R.dics.length := by omega
  refine ⟨R.dics[c.toNat], by simp [hlt], ?_, h.dics _ (List.getElem_mem hlt)⟩
  simp [TRep.dic, h0, hlt]

theorem mem_dAtoms {R : TRep} {i : Nat} {d : DicR} (h : R.dics[i]? = some d) : Atom.obj d.b (.map d.es d.c) ∈ R.dics.flatMap dAtoms := by
  rw [List.mem_flatMap]
  exact ⟨d, List.mem_of_getElem? h, by simp [dAtoms]⟩

theorem kEnc_len {l : List Known} : ∀ x ∈ l, (kEnc x).length = 3 := fun _ _ => rfl

def noKnown : Known := ⟨0, ⟨#[]⟩, 0⟩
def TRep.known (R : TRep) (i : Nat) : Known := (R.glob[i]?).getD noKnown

/-- By the cache of classes and selectors, or else by dictionaries. -/
def askR (R : TRep) (c : Int) (s : ByteArray) : Option Int × TRep :=
  let k := R.known (placeN c s)
  if k.c = c ∧ k.s = s ∧ s ≠ ⟨#[]⟩ then (some k.m, { R with tel := { R.tel with glob := R.tel.glob + 1 } })
  else
    let p := plain R c s
    let R1 := { R with tel := R.tel.walk p.2 }
    match p.1 with
    | none => (none, R1)
    | some m => (some m, { R1 with glob := R.glob.set (placeN c s) ⟨c, s, m⟩ })

theorem WF.withTel {R : TRep} (h : WF R) (T : Tel) : WF { R with tel := T } := by
  obtain ⟨h1, h2, h3, h4, h5, h6, h7, h8, h9, h10, h11⟩ := h
  exact ⟨h1, h2, h3, h4, h5, h6, h7, h8, h9, h10, h11⟩

/-- One more was asked. -/
def TRep.ask1 (R : TRep) : TRep := { R with tel := { R.tel with asked := R.tel.asked + 1 } }
def lookR (R : TRep) (c : Int) (s : ByteArray) : Option Int × TRep := if 0 ≤ c ∧ c < R.sup.length then askR R.ask1 c s else (none, R)
def ownR (R : TRep) (c : Int) (s : ByteArray) : Option Int := if 0 ≤ c ∧ c < R.sup.length then mget s (R.dic c) else none

theorem askR_hit {R : TRep} {c : Int} {s : ByteArray} (h : (R.known (placeN c s)).c = c ∧ (R.known (placeN c s)).s = s) (he : s ≠ ⟨#[]⟩) :
    askR R c s = (some (R.known (placeN c s)).m, { R with tel := { R.tel with glob := R.tel.glob + 1 } }) := by
  unfold askR
  rw [if_pos ⟨h.1, h.2, he⟩]

theorem askR_none {R : TRep} {c : Int} {s : ByteArray} (h : ¬ ((R.known (placeN c s)).c = c ∧ (R.known (placeN c s)).s = s ∧ s ≠ ⟨#[]⟩)) (hp : (plain R c s).1 = none) :
    askR R c s = (none, { R with tel := R.tel.walk (plain R c s).2 }) := by
  unfold askR
  rw [if_neg h]
  simp only [hp]

theorem askR_some {R : TRep} {c m : Int} {s : ByteArray} (h : ¬ ((R.known (placeN c s)).c = c ∧ (R.known (placeN c s)).s = s ∧ s ≠ ⟨#[]⟩)) (hp : (plain R c s).1 = some m) :
    askR R c s = (some m, { R with tel := R.tel.walk (plain R c s).2, glob := R.glob.set (placeN c s) ⟨c, s, m⟩ }) := by
  unfold askR
  rw [if_neg h]
  simp only [hp]

theorem WF.ask {R : TRep} (h : WF R) (c : Int) (s : ByteArray) : WF (askR R c s).2 := by
  obtain ⟨h1, h2, h3, h4, h5, h6, h7, h8, h9, h10, h11⟩ := h
  simp only [askR]
  split
  · exact ⟨h1, h2, h3, h4, h5, h6, h7, h8, h9, h10, h11⟩
  · split
    · exact ⟨h1, h2, h3, h4, h5, h6, h7, h8, h9, h10, h11⟩
    · exact ⟨h1, h2, h3, h4, h5, h6, by simpa using h7, h8, h9, h10, h11⟩

/-- A site that knows one more. -/
def SiteR.more (x : SiteR) (c m : Int) : SiteR := { x with n := x.n + 1, cls := x.cls.set x.n c, ms := x.ms.set x.n m }

/-- Behind the site: what it knows, or what is asked. -/
def sendT (R : TRep) (at_ c : Int) (s : ByteArray) (x : SiteR) : Option Int × TRep :=
  match fnd x.cls x.n c with
  | some i => (some ((x.ms[i]?).getD 0), { R with tel := { R.tel with inl := R.tel.inl + 1 } })
  | none =>
    let r := askR R c s
    match r.1 with
    | none => r
    | some m => if x.n < 4 then (some m, { r.2 with sites := mset at_ (x.more c m) r.2.sites }) else r

def Full (t : Nat) (R : TRep) : SH := Core t R ++ SitesI t R

theorem askR_sites (R : TRep) (c : Int) (s : ByteArray) : (askR R c s).2.sites = R.sites ∧ (askR R c s).2.ses = R.ses ∧ (askR R c s).2.sc = R.sc ∧ (askR R c s).2.sm = R.sm := by
  simp only [askR]
  split
  · exact ⟨rfl, rfl, rfl, rfl⟩
  · split <;> exact ⟨rfl, rfl, rfl, rfl⟩

/-- A site's cells, and the others. -/
theorem sites_split {l : List (Int × SiteR)} {k : Int} {x : SiteR} (h : mget k l = some x) : (l.flatMap sAtoms).Perm (cellsAt x.b 0 (sCells x) ++ (mdel k l).flatMap sAtoms) := perm_flat (mget_perm h)
theorem sites_join {l : List (Int × SiteR)} {k : Int} {x : SiteR} : (cellsAt x.b 0 (sCells x) ++ (mdel k l).flatMap sAtoms).Perm ((mset k x l).flatMap sAtoms) := (perm_flat (f := sAtoms) (mset_perm (k := k) (x := x) (m := l))).symm

theorem WF.laid {R : TRep} (h : WF R) {at_ : Int} {x : SiteR} {es : Array MapEntry} {k : Nat} (hm : MapIs kInt (fun s : SiteR => ptr0 s.b) es k (mset at_ x R.sites)) (hx : x.cls.length = 4 ∧ x.ms.length = 4 ∧ x.n ≤ 4) : WF { R with sites := mset at_ x R.sites, ses := es, sc := k } := by
  obtain ⟨h1, h2, h3, h4, h5, h6, h7, h8, h9, h10, h11⟩ := h
  refine ⟨h1, h2, h3, h4, h5, h6, h7, h8, mset_nodup h9, hm, fun p hp => ?_⟩
  rcases mset_mem hp with rfl | hp
  · exact hx
  · exact h11 p hp

theorem WF.more {R : TRep} (h : WF R) {at_ c m : Int} {x : SiteR} (hx : mget at_ R.sites = some x) (hn : x.n < 4) : WF { R with sites := mset at_ (x.more c m) R.sites } := by
  have hs := h.site (at_, x) (mget_mem hx)
  exact h.laid (h.sites.same hx rfl) ⟨by simpa [SiteR.more] using hs.1, by simpa [SiteR.more] using hs.2.1, by simp [SiteR.more]; omega⟩

theorem sCells_m {x : SiteR} (h : x.cls.length = 4) (i : Nat) : (sCells x)[6 + i]? = (x.ms[i]?).map vi := by
  have e : 6 + i = (i + 4) + 1 + 1 := by omega
  rw [e]
  simp only [sCells, List.getElem?_cons_succ]
  rw [List.getElem?_append_right (by simp [h])]
  simp [h]

theorem sCells_len {x : SiteR} (h : x.cls.length = 4 ∧ x.ms.length = 4) : (sCells x).length = 10 := by simp [sCells, h]

theorem sCells_more {x : SiteR} (h : x.cls.length = 4 ∧ x.ms.length = 4) (hn : x.n < 4) (c m : Int) :
    (((sCells x).set (2 + x.n) (vi c)).set (6 + x.n) (vi m)).set 1 (vi (x.n + 1)) = sCells (x.more c m) := by
  have e1 : 2 + x.n = x.n + 1 + 1 := by omega
  have e2 : 6 + x.n = (x.n + 4) + 1 + 1 := by omega
  rw [e1, e2]
  simp only [sCells, List.set_cons_succ, List.set_cons_zero, SiteR.more]
  rw [List.set_append_left _ _ (by simp; omega), List.set_append_right _ _ (by simp; omega)]
  simp [List.map_set, h]

theorem sendT_hit {R : TRep} {at_ c : Int} {s : ByteArray} {x : SiteR} {i : Nat} (hf : fnd x.cls x.n c = some i) : sendT R at_ c s x = (some ((x.ms[i]?).getD 0), { R with tel := { R.tel with inl := R.tel.inl + 1 } }) := by
  simp only [sendT, hf]

theorem sendT_ask {R : TRep} {at_ c : Int} {s : ByteArray} {x : SiteR} (hf : fnd x.cls x.n c = none) (h : (askR R c s).1 = none ∨ ¬ x.n < 4) : sendT R at_ c s x = askR R c s := by
  simp only [sendT, hf]
  rcases h with h | h
  · rw [h]
  · split
    · rfl
    · rw [if_neg h]

theorem sendT_more {R : TRep} {at_ c m : Int} {s : ByteArray} {x : SiteR} (hf : fnd x.cls x.n c = none) (hm : (askR R c s).1 = some m) (hn : x.n < 4) :
    sendT R at_ c s x = (some m, { (askR R c s).2 with sites := mset at_ (x.more c m) (askR R c s).2.sites }) := by
  simp only [sendT, hf, hm, hn, if_true]

end Go.V
namespace Go.Proofs.Ytffmipimgodfdaa
open Go Go.V
set_option maxHeartbeats 800000
set_option linter.unusedSimpArgs false
set_option linter.unusedVariables false
theorem is_spec (t : Nat) (cl : Int) (sa : Option Addr) (n c : Nat) (dv : Value) :
    Fun Try.prog 25 [ptr0 t, vi cl] [cellsAt t 0 [.slice sa n c, dv]]
      (fun v Post => v = .bool (decide (0 ≤ cl) && decide (cl < n)) ∧ Post = [cellsAt t 0 [.slice sa n c, dv]]) := by
  refine Fun.intro low25 (by simp [F25]) ?_
  refine GO ?_
  refine st_case (s := 7) (by rfl) (fun h => ?_) (fun h => ?_)
  all_goals refine GO ?_
  all_goals refine ⟨.inr rfl, _, _, .tmp (by rfl) .nil, by (first | with_reducible exact Imp.refl | with_reducible exact Imp.left | (focus ((try simp only [List.nil_append]); (repeat (first | exact Imp.nil | (apply Imp.cons; (focus ((repeat (first | with_reducible exact Tk.here | apply Tk.there)); done))))); done))), ?_, rfl⟩
  all_goals simp [tup, h]

theorem counts_spec (t : Nat) (T : Tel) :
    Fun Try.prog 11 [ptr0 t] [cellsAt t 195 (telEnc T)]
      (fun v Post => v = .agg (telEnc T).toArray ∧ Post = [cellsAt t 195 (telEnc T)]) := by
  refine Fun.intro low11 (by simp [F11]) ?_
  refine GO ?_
  refine st_alloc (fun q => ?_)
  refine GO ?_
  refine st_loadN (us := telEnc T) (by rfl) ?_ (by rfl) ?_
  · exact .there (.cells (by omega) (by rfl) (by rfl))
  unfold telEnc
  refine GO ?_
  refine ⟨.inr rfl, _, _, .cellN (us := telEnc T) (by rfl) (by rfl) (fun x hx => List.mem_append_left _ hx) .nil, by (first | with_reducible exact Imp.refl | with_reducible exact Imp.left | (focus ((try simp only [List.nil_append]); (repeat (first | exact Imp.nil | (apply Imp.cons; (focus ((repeat (first | with_reducible exact Tk.here | apply Tk.there)); done))))); done))), by rfl, rfl⟩

theorem place_spec (c : Int) (s : ByteArray) (hc : 0 ≤ c ∧ c < 4096) (hs : s.size ≤ 1048576) :
    Fun Try.prog 51 [.agg #[vi c, .string s]] [] (fun v Post => v = vi (placeN c s) ∧ Post = []) := by
  refine Fun.intro low51 (by simp [F51]) ?_
  refine GO ?_
  refine st_box (by rfl) (fun q => ?_)
  simp only [Value.cells]
  refine GO ?_
  refine VC.loop (α := Nat) (Γf := fun k => [(1, ptr0 q), (3, vi (31 * c + s.size + psum s k)), (14, vi s.size), (15, vi k)]) (Hf := fun _ => [cellsAt q 0 [vi c, .string s]])
    (I := fun k => k ≤ s.size) (μ := fun k => s.size - k) 0 (by omega) ?_ (by (first | with_reducible exact Imp.refl | with_reducible exact Imp.left | (focus ((try simp only [List.nil_append]); (repeat (first | exact Imp.nil | (apply Imp.cons; (focus ((repeat (first | with_reducible exact Tk.here | apply Tk.there)); done))))); done)))) (fun k hk => ?_)
  · refine Sub.cons (by rfl) (Sub.cons ?_ (Sub.cons (by rfl) (Sub.cons (by rfl) Sub.nil)))
    simp [V.look, psum]
  have hp := psum_le s k (by omega)
  refine GO ?_
  refine VC.seq_cond (by rfl) (fun h => ?_) (fun h => ?_)
  · have hlt : k < s.size := by simpa using h
    have hp1 := psum_le s (k + 1) (by omega)
    have hb := (s[k]).toNat_lt
    have hst : psum s (k + 1) = psum s k + (s[k]).toNat * (k + 1) := by simp [psum, hlt]
    have hm : ((s[k]).toNat : Int) * ((k : Int) + 1) = ((s[k]).toNat * (k + 1) : Nat) := by simp
    have hm2 : (s[k]).toNat * (k + 1) ≤ 255 * 1048576 := Nat.mul_le_mul (by omega) (by omega)
    refine GO ?_
    refine st_idxS (by rfl) (by rfl) (j := k) (by rfl) (c := s[k]) (by simp [hlt]) ?_
    refine st_conv (b := ((s[k]).toNat : Int)) (by rfl) (by simp [IntKind.wrap, IntKind.bits, IntKind.signed]; omega) ?_
    refine GO ?_
    refine ⟨k + 1, by omega, by omega, ?_, by (first | with_reducible exact Imp.refl | with_reducible exact Imp.left | (focus ((try simp only [List.nil_append]); (repeat (first | exact Imp.nil | (apply Imp.cons; (focus ((repeat (first | with_reducible exact Tk.here | apply Tk.there)); done))))); done)))⟩
    rw [hst]
    refine Sub.cons (by rfl) (Sub.cons ?_ (Sub.cons (by rfl) (Sub.cons (by rfl) Sub.nil)))
    simp [V.look]; omega
  · have hge : ¬ k < s.size := by simpa using h
    obtain rfl : k = s.size := by omega
    refine GO ?_
    refine ⟨.inr rfl, _, _, .tmp (by rfl) .nil, by (first | with_reducible exact Imp.refl | with_reducible exact Imp.left | (focus ((try simp only [List.nil_append]); (repeat (first | exact Imp.nil | (apply Imp.cons; (focus ((repeat (first | with_reducible exact Tk.here | apply Tk.there)); done))))); done))), ?_, rfl⟩
    simp only [tup, placeN]
    rw [Int.tmod_eq_emod_of_nonneg (by omega)]
    congr 1
    omega

theorem plain_le (R : TRep) (s : ByteArray) (c : Int) : (plain R c s).2 ≤ (c + 1).toNat := plainF_steps R s _ c

theorem walk_spec (t : Nat) (R : TRep) (c : Int) (s : ByteArray) (h : WF R) (N : Nat) (hN : N ≤ 140737488355328) (hT : TelOk R.tel N) (hc : 0 ≤ c ∧ c < R.sup.length) :
    Fun Try.prog 52 [ptr0 t, vi c, .string s] (Core t R) (fun v Post => v = okM (plain R c s).1 ∧ Post = Core t { R with tel := R.tel.walk (plain R c s).2 }) := by
  obtain ⟨t1, t2, t3, t4, t5⟩ := hT
  have hsm := h.small
  obtain ⟨sb, so, sc, hsv, _, _⟩ := h.sup.some (by omega)
  obtain ⟨db, dof, dc, hdv, _, _⟩ := h.dv.some (by omega)
  refine Fun.intro low52 (by simp [F52]) ?_
  simp only [Core, hsv, hdv, slA, telEnc, Tel.walk]
  refine GO ?_
  refine VC.loop (α := Int × Nat) (Γf := fun x => [(0, ptr0 t), (1, vi x.1), (2, .string s)]) (Hf := fun x => [cellsAt t 195 [vi R.tel.asked, vi R.tel.inl, vi R.tel.glob, vi (R.tel.walked + 1), vi (R.tel.steps + x.2)], cellsAt t 0 [.slice (some ⟨sb, so, none⟩) R.sup.length sc, .slice (some ⟨db, dof, none⟩) R.sup.length dc], cellsAt sb so (R.sup.map vi ++ R.ssp), cellsAt db dof ((R.dics.map fun d => .map (some d.b)) ++ []), R.dics.flatMap dAtoms, cellsAt t 2 (R.glob.flatMap kEnc)])
    (I := fun x => -1 ≤ x.1 ∧ x.1 < R.sup.length ∧ x.2 + (x.1 + 1).toNat ≤ (c + 1).toNat ∧ (plain R c s).1 = (plain R x.1 s).1 ∧ (plain R c s).2 = x.2 + (plain R x.1 s).2) (μ := fun x => (x.1 + 1).toNat) (c, 0) (by simp; omega) (by (repeat (first | exact Sub.nil | (apply Sub.cons; rfl)))) (by simp; (first | with_reducible exact Imp.refl | with_reducible exact Imp.left | (focus ((try simp only [List.nil_append]); (repeat (first | exact Imp.nil | (apply Imp.cons; (focus ((repeat (first | with_reducible exact Tk.here | apply Tk.there)); done))))); done)))) (fun x hx => ?_)
  obtain ⟨x1, x2, x3, x4, x5⟩ := hx
  obtain ⟨x, k⟩ := x
  simp only at x1 x2 x3 x4 x5
  refine GO ?_
  refine VC.cond (by rfl) (fun hge => ?_) (fun hge => ?_)
  · have hge : 0 ≤ x := by simpa using hge
    obtain ⟨d, hd, hdm, hmi⟩ := dic_at h hge x2
    have hst := plain_step h s hge x2
    obtain ⟨u1, u2⟩ := up_lt h hge x2
    have hup : R.sup[x.toNat]? = some (R.up x) := by
      have : x.toNat < R.sup.length := by omega
      simp [TRep.up, this]
    refine GO ?_
    refine st_load1 (by rfl) (.there (.there (.there (Has.row (v := .map (some d.b)) (by simp [hd]))))) ?_
    refine GO ?_
    refine st_lookup (E := kStr) (V := vi) (k := s) (by rfl) (by rfl) (by rfl) (.there (.there (.there (.there (.among (mem_dAtoms hd)))))) hmi ?_
    rw [hdm] at hst
    cases hg : mget s d.m with
    | none =>
      rw [hg] at hst
      simp only at hst
      simp only [lookV, Option.map_none]
      refine GO ?_
      refine st_load1 (by rfl) (.there (.there (Has.row (v := vi (R.up x)) (by simp [hup])))) ?_
      refine GO ?_
      refine ⟨(R.up x, k + 1), ⟨u1, by omega, by simp; omega, by simp [x4, hst], by simp [x5, hst]; omega⟩, by simp; omega, by (repeat (first | exact Sub.nil | (apply Sub.cons; rfl))), by simp [Int.add_assoc]; (first | with_reducible exact Imp.refl | with_reducible exact Imp.left | (focus ((try simp only [List.nil_append]); (repeat (first | exact Imp.nil | (apply Imp.cons; (focus ((repeat (first | with_reducible exact Tk.here | apply Tk.there)); done))))); done)))⟩
    | some m =>
      rw [hg] at hst
      simp only at hst
      simp only [lookV, Option.map_some]
      refine GO ?_
      refine ⟨.inr rfl, _, _, .tmp (by rfl) (.tmp (by rfl) .nil), (by simp [x5, hst, Int.add_assoc]; (first | with_reducible exact Imp.refl | with_reducible exact Imp.left | (focus ((try simp only [List.nil_append]); (repeat (first | exact Imp.nil | (apply Imp.cons; (focus ((repeat (first | with_reducible exact Tk.here | apply Tk.there)); done))))); done)))), ?_, rfl⟩
      simp [x4, hst, okM, tup]
  · have hge : x = -1 := by simp at hge; omega
    subst hge
    have hp := plain_neg (R := R) (c := -1) s (by omega)
    refine GO ?_
    refine ⟨.inr rfl, _, _, .tmp (by rfl) (.tmp (by rfl) .nil), (by simp [x5, hp, Int.add_assoc]; (first | with_reducible exact Imp.refl | with_reducible exact Imp.left | (focus ((try simp only [List.nil_append]); (repeat (first | exact Imp.nil | (apply Imp.cons; (focus ((repeat (first | with_reducible exact Tk.here | apply Tk.there)); done))))); done)))), ?_, rfl⟩
    simp [x4, hp, okM, tup]
end Go.Proofs.Ytffmipimgodfdaa

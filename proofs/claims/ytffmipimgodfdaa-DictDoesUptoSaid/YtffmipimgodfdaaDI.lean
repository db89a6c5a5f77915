/-
 The code of functions, as terms: printed by a program, proved to be what the seat has.
-/
import Derived.Test.YtffmipimgodfdaaWM
import Derived.KernelRfl
import Derived.Test.YtffmipimgodfdaaProg
import Derived.Test.YtffmipimgodfdaaD6
import Derived.Test.YtffmipimgodfdaaDN
set_option linter.unusedSimpArgs false
set_option linter.unusedVariables false
namespace Go.Proofs.Ytffmipimgodfdaa
open Go Go.V
set_option maxRecDepth 100000
/- (*palaver/dict.Table).Selectors -/
def kp33 : List (Nat × List Nat) := [(0, [0, 1]), (1, [0, 1, 9]), (2, [4, 5]), (3, [4, 5])]
def od33 : List (Nat × List (List Nat)) := []
def F33 : FIR := ⟨19, [.tmp 4, .tmp 5],
 (.seq (.reg [⟨(some 4), none, .mv (.const (Value.slice none 0 0))⟩,
 ⟨(some 5), none, .mv (.const (Value.int IntKind.i64 0))⟩] [0, 1])
 (.seq (.seq (.reg [⟨(some 6), none, .mv (.tmp 0)⟩,
 ⟨(some 7), none, .mv (.tmp 1)⟩,
 ⟨(some 8), none, .call 25 [(.tmp 6), (.tmp 7)]⟩,
 ⟨(some 9), none, .un .not (.tmp 8)⟩] [0, 1, 9])
 (.cond (.tmp 9)
 (.seq (.reg [⟨(some 4), none, .mv (.const (Value.slice none 0 0))⟩,
 ⟨(some 5), none, .mv (.const (Value.int IntKind.i64 220))⟩] [4, 5])
 .ret)
 .skip))
 (.seq (.reg [⟨(some 10), none, .mv (.tmp 0)⟩,
 ⟨(some 11), none, .nilck (.tmp 10)⟩,
 ⟨(some 12), none, .fld 1 (.tmp 11)⟩,
 ⟨(some 13), none, .load1 (.tmp 12)⟩,
 ⟨(some 14), none, .mv (.tmp 1)⟩,
 ⟨(some 15), none, .idxL 1 (.tmp 13) (.tmp 14)⟩,
 ⟨(some 16), none, .load1 (.tmp 15)⟩,
 ⟨(some 17), none, .call 57 [(.tmp 16)]⟩,
 ⟨(some 18), none, .call 56 [(.tmp 17)]⟩,
 ⟨(some 4), none, .mv (.tmp 18)⟩,
 ⟨(some 5), none, .mv (.const (Value.int IntKind.i64 0))⟩] [4, 5])
 .ret)))⟩
theorem low33 : lowF Try.prog (assoc kp33) (assoc od33) 33 = some F33 := by kernel_rfl

end Go.Proofs.Ytffmipimgodfdaa
namespace Go.V
open Go
/-- One thing of a row, taken out of its memory. -/
theorem flat_take {α : Type} {f : α → List Atom} {l : List α} {i : Nat} {x : α} (hi : l[i]? = some x) :
    ∃ rest : List Atom, (l.flatMap f).Perm (f x ++ rest) ∧ ∀ x', ((l.set i x').flatMap f).Perm (f x' ++ rest) := by
  obtain ⟨hlt, rfl⟩ := List.getElem?_eq_some_iff.1 hi
  refine ⟨(l.take i).flatMap f ++ (l.drop (i + 1)).flatMap f, ?_, fun h' => ?_⟩
  · conv => lhs; rw [← List.take_append_drop i l, List.drop_eq_getElem_cons hlt]
    rw [List.flatMap_append, List.flatMap_cons]; exact perm_lead _ _ _
  · rw [List.set_eq_take_append_cons_drop, if_pos hlt, List.flatMap_append, List.flatMap_cons]; exact perm_lead _ _ _

def ftxt (l : List UInt8) : ByteArray := ⟨l.toArray⟩
theorem spl_self (S : SH) : V.Spl S S [] := by simp only [V.Spl, List.flatten_nil, List.append_nil]; exact .refl _
/-- Where bytes lie. -/
def BytesAt (H : SH) : Value → List UInt8 → Prop
  | .slice (some ⟨b, o, none⟩) k _, l => k = l.length ∧ ∀ a ∈ cellsAt b o (l.map u8v), a ∈ H.flatten
  | .slice none _ _, l => l = []
  | _, _ => False

theorem IsSl.bytes {H R : SH} {sv : Value} {l : List UInt8} {sp : List Value} (h : IsSl 1 sv l.length (l.map u8v) sp) (ht : Tk H (slA sv (l.map u8v) sp) R) : BytesAt H sv l := by
  obtain ⟨a, c, rfl⟩ := h.form
  generalize hk : l.length = k at h
  generalize hm : l.map u8v = us at h
  cases h with
  | mk h1 h2 h3 =>
    refine ⟨hk.symm, fun x hx => ?_⟩
    refine (ht.perm.mem_iff).2 (List.mem_append_left _ ?_)
    rw [hk, hm]
    rw [hm] at hx
    simp only [slA, cellsAt_append, List.mem_append]
    exact .inl hx
  | nil => exact List.map_eq_nil_iff.1 hm

theorem ofNat_u8 (c : UInt8) : UInt8.ofNat (((c.toNat : Nat) : Int).toNat) = c := by simp

theorem run_push {P : Program} {w : World} {f : Value → ByteArray → Sem (ForInStep ByteArray)} (hf : ∀ (c : UInt8) r, f (u8v c) r = pure (ForInStep.yield (r.push (UInt8.ofNat ((c.toNat : Int)).toNat)))) : ∀ (l : List UInt8) (acc : ByteArray), (forIn (l.map u8v) acc f).run P w = .ok ⟨acc.data ++ l.toArray⟩ w := by
  intro l
  induction l with
  | nil => intro acc; simp
  | cons c l ih =>
    intro acc
    have := ih (acc.push c)
    rw [List.map_cons, List.forIn_cons, hf, Sem.run_bind, Sem.run_pure, Result.andThen_ok]
    simp only [ofNat_u8]
    rw [this]
    simp [ByteArray.push]

theorem run_b2s {P : Program} {H : SH} {dv : Value} {l : List UInt8} {F : List Atom} {w : World} (h : BytesAt H dv l) (hs : Sat w (H.flatten ++ F)) : (Conv.bytesToString dv).run P w = .ok (.string (ftxt l)) w := by
  unfold BytesAt at h
  split at h
  · obtain ⟨rfl, hm⟩ := h
    have hl := run_loadCells (P := P) (m := l.length) (us := l.map u8v) (by simp) hm hs
    unfold Conv.bytesToString
    simp only [Sem.run_bind, hl, Result.andThen_ok]
    rw [List.forIn_toArray]
    rw [run_push (fun c r => rfl)]
    simp [ftxt]
  · subst h
    unfold Conv.bytesToString
    rfl
  · exact h.elim

section
variable {P : Program} {n : Nat} {rs : List RO} {Γ : Env} {H : SH} {Z : List PanicEntry → Env → SH → Prop} {K : Env → SH → Prop} {d : Option Nat}

theorem st_b2s {x : Operand} {dv : Value} {l : List UInt8} (hx : ev Γ x = some dv) (hb : BytesAt H dv l) (h : VO P n rs (putE d (.string (ftxt l)) Γ) H Z K) : VO P n (⟨d, none, .b2s x⟩ :: rs) Γ H Z K :=
  VO.read rfl rfl (fun ρ hρ => ⟨_, rfl, fun F w hs => by
    rw [hρ _ _ hx]
    simp [run_b2s hb hs]⟩) h

end
section
variable {P : Program} {n : Nat} {rs : List RO} {Γ : Env} {H : SH} {Z : List PanicEntry → Env → SH → Prop} {K : Env → SH → Prop} {d : Option Nat}
theorem st_cat {x y : Operand} {a b : ByteArray} (hx : ev Γ x = some (.string a)) (hy : ev Γ y = some (.string b)) (hb : a.size + b.size ≤ 9223372036854775807) (h : VO P n rs (putE d (.string (a ++ b)) Γ) H Z K) : VO P n (⟨d, none, .bin .add x y⟩ :: rs) Γ H Z K :=
  VO.pure rfl (fun ρ hρ => by simp only [pureV, hρ _ _ hx, hρ _ _ hy, binV, strV, hb, if_true]) h
end
end Go.V
namespace Go.Proofs.Ytffmipimgodfdaa
open Go Go.V
set_option maxHeartbeats 6400000
set_option maxRecDepth 100000
set_option linter.unusedSimpArgs false
set_option linter.unusedVariables false
def SelP (t : Nat) (R : TRep) (c : Int) (v : Value) (Post : SH) : Prop :=
  if 0 ≤ c ∧ c < R.sup.length then ∃ ys sv sp, SortedOf ltS ((R.dic c).map (·.1)) ys ∧ IsSl 1 sv ys.length (ys.map Value.string) sp ∧ v = .tuple #[sv, vi 0] ∧ Post = slA sv (ys.map Value.string) sp :: Full t R
  else v = .tuple #[.slice none 0 0, vi 220] ∧ Post = Full t R
theorem selectors_spec (t : Nat) (R : TRep) (c : Int) (h : WF R) (hlen : (R.dic c).length ≤ 1073741823) :
    Fun Try.prog 33 [ptr0 t, vi c] (Full t R) (SelP t R c) := by
  obtain ⟨sa, sc, hsv⟩ := h.sup.form
  refine Fun.intro low33 (by simp [F33]) ?_
  rw [show Full t R = Core t R ++ SitesI t R from rfl, Core_eq t R]
  simp only [SitesI, List.cons_append, List.nil_append]
  refine GO ?_
  refine st_call (is_spec t c sa R.sup.length sc R.dv) (by rfl) (by rw [← hsv]; (focus ((repeat (first | exact Spl.nil | (apply Spl.cons; (focus ((repeat (first | with_reducible exact Tk.here | apply Tk.there)); done))))); done))) (fun v Post hv => ?_)
  obtain ⟨rfl, rfl⟩ := hv
  rw [isc]
  simp only [List.cons_append, List.nil_append, ← hsv]
  by_cases hc : 0 ≤ c ∧ c < R.sup.length
  rotate_left
  · simp only [decide_eq_false hc]
    refine GO ?_
    exact endQ_mk (.inr rfl) (.tmp (by rfl) (.tmp (by rfl) .nil)) (show SelP t R c _ (Full t R) by unfold SelP; rw [if_neg hc]; exact ⟨rfl, rfl⟩) (by simp only [Full, Core_eq, SitesI, List.cons_append, List.nil_append]; (first | with_reducible exact Imp.refl | with_reducible exact Imp.left | (focus ((try simp only [List.nil_append]); (repeat (first | exact Imp.nil | (apply Imp.cons; (focus ((repeat (first | with_reducible exact Tk.here | apply Tk.there)); done))))); done))))
  simp only [decide_eq_true hc]
  obtain ⟨db, dof, dc, hdv, _, _⟩ := h.dv.some (by omega)
  obtain ⟨d, hd, hdm, hmi⟩ := dic_at h hc.1 hc.2
  have hdl : (d.m.map (·.1)).length ≤ 1073741823 := by rw [List.length_map, ← hdm]; exact hlen
  have hdk := h.keys d (List.mem_of_getElem? hd)
  simp only [hdv, slA_some]
  refine GO ?_
  refine st_load1 (by rfl) (.there (.there (.there (.there (Has.row (v := .map (some d.b)) (by simp [hd])))))) ?_
  refine GO ?_
  refine st_call (keys_spec d.b) (by rfl) Spl.nil (fun v Post hv => ?_)
  obtain ⟨q, rfl, rfl⟩ := hv
  obtain ⟨xr, hx1, hx2⟩ := flat_take (f := dAtoms) hd
  refine VO.split (A := R.dics.flatMap dAtoms) (B := dAtoms d) (C := xr) (by (focus ((repeat (first | with_reducible exact Tk.here | apply Tk.there)); done))) hx1 ?_
  simp only [dAtoms]
  refine GO ?_
  refine st_call (sorted_spec 65 #[] #[ptr0 q] _ _ _ (keys_iter q d.b d.c d.es d.m hmi hdk) (fun l hl => ?_)) (by rfl) (by (focus ((repeat (first | exact Spl.nil | (apply Spl.cons; (focus ((repeat (first | with_reducible exact Tk.here | apply Tk.there)); done))))); done))) (fun v Post hv => ?_)
  · obtain ⟨u, hu⟩ := hl
    have h1 := hu.length_eq
    have h2 : (l ++ u).Nodup := hu.nodup_iff.2 hdk
    rw [List.length_append] at h1
    exact ⟨by omega, (List.nodup_append.1 h2).1⟩
  obtain ⟨xs, ys, sv, sp, h1, h2, h3, rfl, rfl⟩ := hv
  simp only [List.cons_append, List.nil_append]
  obtain ⟨a1, c1, rfl⟩ := h3.form
  refine GO ?_
  refine endQ_mk (Post := slA (.slice a1 ys.length c1) (ys.map Value.string) sp :: Full t R) (.inr rfl) (.tmp (by rfl) (.tmp (by rfl) .nil)) ?_ ?_
  · unfold SelP; rw [if_pos hc]
    exact ⟨ys, _, sp, ⟨by rw [hdm]; exact h2.1.trans h1, h2.2⟩, h3, rfl, rfl⟩
  · refine Imp.cut (M := [slA (.slice a1 ys.length c1) (ys.map Value.string) sp, cellsAt t 0 [R.sv, .slice (some ⟨db, dof, none⟩) R.sup.length dc], cellsAt t 2 (R.glob.flatMap kEnc), cellsAt t 195 [vi R.tel.asked, vi R.tel.inl, vi R.tel.glob, vi R.tel.walked, vi R.tel.steps], slA R.sv (R.sup.map vi) R.ssp, cellsAt db dof ((R.dics.map fun d => .map (some d.b)) ++ []), [.obj d.b (.map d.es d.c)], xr, cellsAt t 194 [.map (some R.sm)], [.obj R.sm (.map R.ses R.sc)], R.sites.flatMap sAtoms]) (by (first | with_reducible exact Imp.refl | with_reducible exact Imp.left | (focus ((try simp only [List.nil_append]); (repeat (first | exact Imp.nil | (apply Imp.cons; (focus ((repeat (first | with_reducible exact Tk.here | apply Tk.there)); done))))); done)))) (Imp.perm ?_)
    simp only [Full, Core_eq, SitesI, hdv, slA_some, List.cons_append, List.nil_append, List.flatten_cons, List.flatten_nil, List.append_nil]
    repeat' refine List.Perm.append_left _ ?_
    have := (List.Perm.append_right (cellsAt t 194 [Value.map (some R.sm)] ++ Atom.obj R.sm (Obj.map R.ses R.sc) :: List.flatMap sAtoms R.sites) hx1).symm
    rw [List.append_assoc] at this
    exact this
end Go.Proofs.Ytffmipimgodfdaa
namespace Go.V
open Go

/-- Dictionaries as lists, with the classes; what was asked. -/
structure Abs where
  sup : List Int
  ms : List (List (ByteArray × Int))
  asked : Nat
  deriving DecidableEq

def TRep.abs (R : TRep) : Abs := ⟨R.sup, R.dics.map (·.m), R.tel.asked⟩

theorem plainF_congr {R R' : TRep} (hs : R'.sup = R.sup) (s : ByteArray) (hd : ∀ c, mget s (R'.dic c) = mget s (R.dic c)) : ∀ f c, plainF R' s f c = plainF R s f c := by
  intro f
  induction f with
  | zero => intro c; rfl
  | succ f ih =>
    intro c
    have hu : R'.up c = R.up c := by simp [TRep.up, hs]
    simp only [plainF, hd, hu, ih]

theorem plain_congr {R R' : TRep} (hs : R'.sup = R.sup) (s : ByteArray) (hd : ∀ c, mget s (R'.dic c) = mget s (R.dic c)) (c : Int) : plain R' c s = plain R c s := plainF_congr hs s hd _ c

theorem dic_congr {R R' : TRep} (h : R'.dics.map (·.m) = R.dics.map (·.m)) (c : Int) : R'.dic c = R.dic c := by
  have h1 := congrArg (fun l => l[c.toNat]?) h
  simp only [List.getElem?_map] at h1
  simp only [TRep.dic, h1]

structure Inv (R : TRep) : Prop where
  glob : ∀ k ∈ R.glob, k.s ≠ ⟨#[]⟩ → (0 ≤ k.c ∧ k.c < R.sup.length) ∧ (plain R k.c k.s).1 = some k.m
  site : ∀ p ∈ R.sites, ∀ (j : Nat) c m, j < p.2.n → p.2.cls[j]? = some c → p.2.ms[j]? = some m → (0 ≤ c ∧ c < R.sup.length) ∧ (plain R c p.2.sel).1 = some m

theorem Inv.of {R R' : TRep} (h : Inv R) (hs : R'.sup = R.sup) (hd : ∀ c, R'.dic c = R.dic c) (hg : ∀ k ∈ R'.glob, k.s ≠ ⟨#[]⟩ → k ∈ R.glob ∨ ((0 ≤ k.c ∧ k.c < R.sup.length) ∧ (plain R k.c k.s).1 = some k.m))
    (hx : ∀ p ∈ R'.sites, p ∈ R.sites ∨ ∀ (j : Nat) c m, j < p.2.n → p.2.cls[j]? = some c → p.2.ms[j]? = some m → (0 ≤ c ∧ c < R.sup.length) ∧ (plain R c p.2.sel).1 = some m) : Inv R' := by
  have hp : ∀ c s, plain R' c s = plain R c s := fun c s => plain_congr hs s (fun c => by rw [hd c]) c
  refine ⟨fun k hk hn => ?_, fun p hpp j c m hj h1 h2 => ?_⟩
  · rw [hs, hp]
    rcases hg k hk hn with h1 | h1
    · exact h.glob k h1 hn
    · exact h1
  · rw [hs, hp]
    rcases hx p hpp with h3 | h3
    · exact h.site p h3 j c m hj h1 h2
    · exact h3 j c m hj h1 h2

theorem Inv.tel {R : TRep} (h : Inv R) (T : Tel) : Inv { R with tel := T } := h.of rfl (fun _ => rfl) (fun _ hk _ => .inl hk) (fun _ hp => .inl hp)

theorem plain_tel (R : TRep) (T : Tel) (c : Int) (s : ByteArray) : plain { R with tel := T } c s = plain R c s := plain_congr (R := R) (R' := { R with tel := T }) rfl s (fun _ => rfl) c

theorem plain_pos {R : TRep} (h : WF R) {c : Int} (s : ByteArray) (hc : 0 ≤ c ∧ c < R.sup.length) : 1 ≤ (plain R c s).2 := by
  rw [plain_step h s hc.1 hc.2]
  split
  · exact Nat.le_refl _
  · simp only; omega

structure AskIs (R : TRep) (c : Int) (s : ByteArray) (r : Option Int × TRep) : Prop where
  val : r.1 = (plain R c s).1
  inv : Inv r.2
  wf : WF r.2
  sup : r.2.sup = R.sup
  dics : r.2.dics = R.dics
  sites : r.2.sites = R.sites
  asked : r.2.tel.asked = R.tel.asked
  inl : r.2.tel.inl = R.tel.inl
  sum : r.2.tel.glob + r.2.tel.walked = R.tel.glob + R.tel.walked + 1
  globs : R.tel.glob ≤ r.2.tel.glob
  walks : R.tel.walked ≤ r.2.tel.walked
  lo : R.tel.walked ≤ R.tel.steps → r.2.tel.walked ≤ r.2.tel.steps
  hi : R.tel.steps ≤ 4096 * R.tel.walked → r.2.tel.steps ≤ 4096 * r.2.tel.walked

theorem known_mem {R : TRep} (h : WF R) (c : Int) (s : ByteArray) : R.known (placeN c s) ∈ R.glob := by
  have h1 := placeN_lt c s
  have h2 := h.glob
  have : R.glob[placeN c s]? = some (R.known (placeN c s)) := by simp [TRep.known, show placeN c s < R.glob.length by omega]
  exact List.mem_of_getElem? this

theorem ask_is {R : TRep} (h : WF R) (hi : Inv R) {c : Int} (s : ByteArray) (hc : 0 ≤ c ∧ c < R.sup.length) : AskIs R c s (askR R c s) := by
  have hw := h.ask c s
  have hp := plain_pos h s hc
  have hq : (plain R c s).2 ≤ 4096 := by
    have := plainF_steps R s (c + 1).toNat c
    have := h.small
    simp only [plain]; omega
  by_cases hh : (R.known (placeN c s)).c = c ∧ (R.known (placeN c s)).s = s ∧ s ≠ ⟨#[]⟩
  · have e := askR_hit ⟨hh.1, hh.2.1⟩ hh.2.2
    have hk := hi.glob _ (known_mem h c s) (by rw [hh.2.1]; exact hh.2.2)
    rw [hh.1, hh.2.1] at hk
    rw [e] at hw ⊢
    exact ⟨hk.2.symm, hi.tel _, hw, rfl, rfl, rfl, rfl, rfl, by simp; omega, by simp, by simp, fun h => h, fun h => h⟩
  · cases hm : (plain R c s).1 with
    | none =>
      have e := askR_none hh hm
      rw [e] at hw ⊢
      exact ⟨hm.symm, hi.tel _, hw, rfl, rfl, rfl, rfl, rfl, by simp [Tel.walk]; omega, by simp [Tel.walk], by simp [Tel.walk], fun h => by simp only [Tel.walk]; omega, fun h => by simp only [Tel.walk]; omega⟩
    | some m =>
      have e := askR_some hh hm
      rw [e] at hw ⊢
      refine ⟨hm.symm, hi.of rfl (fun _ => rfl) (fun k hk hs => ?_) (fun _ hp => .inl hp), hw, rfl, rfl, rfl, rfl, rfl, by simp [Tel.walk]; omega, by simp [Tel.walk], by simp [Tel.walk], fun h => by simp only [Tel.walk]; omega, fun h => by simp only [Tel.walk]; omega⟩
      rcases List.mem_or_eq_of_mem_set hk with hk | rfl
      · exact .inl hk
      · exact .inr ⟨hc, hm⟩

/-- What is kept by every call. -/
structure Fine (R : TRep) (N : Nat) : Prop where
  wf : WF R
  inv : Inv R
  tel : TelOk R.tel N
  sum : R.tel.asked = R.tel.inl + R.tel.glob + R.tel.walked
  lo : R.tel.walked ≤ R.tel.steps

theorem Fine.more {R : TRep} {N M : Nat} (h : Fine R N) (hm : N ≤ M) : Fine R M := by
  obtain ⟨h1, h2, ⟨t1, t2, t3, t4, t5⟩, h4, h5⟩ := h
  exact ⟨h1, h2, ⟨by omega, by omega, by omega, by omega, t5⟩, h4, h5⟩

def TRep.ok (R : TRep) (c : Int) : Prop := 0 ≤ c ∧ c < R.sup.length
instance (R : TRep) (c : Int) : Decidable (R.ok c) := inferInstanceAs (Decidable (_ ∧ _))

/-- What a lookup answers. -/
def pl (R : TRep) (c : Int) (s : ByteArray) : Option Int := if 0 ≤ c ∧ c < R.sup.length then (plain R c s).1 else none

theorem Fine.asked1 {R : TRep} {N : Nat} {c : Int} {s : ByteArray} {r : Option Int × TRep} (h : Fine R N) (a : AskIs R.ask1 c s r) : Fine r.2 (N + 1) ∧ r.2.abs = { R.abs with asked := R.tel.asked + 1 } := by
  obtain ⟨t1, t2, t3, t4, t5⟩ := h.tel
  have b1 : R.ask1.tel.asked = R.tel.asked + 1 := rfl
  have b2 : R.ask1.tel.inl = R.tel.inl := rfl
  have b3 : R.ask1.tel.glob = R.tel.glob := rfl
  have b4 : R.ask1.tel.walked = R.tel.walked := rfl
  have b5 : R.ask1.tel.steps = R.tel.steps := rfl
  have e1 := a.asked
  have e2 := a.inl
  have e3 := a.sum
  have e4 := a.lo (by rw [b4, b5]; exact h.lo)
  have e5 := a.hi (by rw [b4, b5]; exact t5)
  have e6 := a.globs
  have e7 := a.walks
  have hs := h.sum
  refine ⟨⟨a.wf, a.inv, ⟨by omega, by omega, by omega, by omega, e5⟩, by omega, e4⟩, ?_⟩
  simp only [TRep.abs, a.sup, a.dics, e1, b1]
  rfl

theorem Fine.look {R : TRep} {N : Nat} (h : Fine R N) (c : Int) (s : ByteArray) :
    (lookR R c s).1 = pl R c s ∧ Fine (lookR R c s).2 (N + 1) ∧ (lookR R c s).2.abs = { R.abs with asked := R.tel.asked + if 0 ≤ c ∧ c < R.sup.length then 1 else 0 } := by
  unfold lookR pl
  by_cases hc : 0 ≤ c ∧ c < R.sup.length
  · simp only [hc, and_self, if_true]
    have a := ask_is (R := R.ask1) (h.wf.withTel _) (h.inv.tel _) s hc
    obtain ⟨t1, t2, t3, t4, t5⟩ := h.tel
    have hv := a.val
    rw [TRep.ask1, plain_tel, ← TRep.ask1] at hv
    generalize askR R.ask1 c s = r at a hv ⊢
    exact ⟨hv, h.asked1 a⟩
  · simp only [hc, if_false]
    exact ⟨trivial, h.more (by omega), rfl⟩

theorem siteR_is {R : TRep} {at_ : Int} {s : ByteArray} {b : Nat} {es : Array MapEntry} {k : Nat} {x : SiteR} {R1 : TRep} (hR : Inv R) (h : siteR R at_ s b es k = (x, R1)) :
    Inv R1 ∧ x.sel = s ∧ R1.sup = R.sup ∧ R1.dics = R.dics ∧ R1.tel = R.tel ∧ mget at_ R1.sites = some x := by
  have fresh : ∀ x0 : SiteR, x0.n = 0 → Inv { R with sites := mset at_ x0 R.sites, ses := es, sc := k } := by
    intro x0 h0
    refine hR.of rfl (fun _ => rfl) (fun _ hk _ => .inl hk) (fun p hp => ?_)
    rcases mset_mem hp with rfl | hp
    · exact .inr (fun j c m hj => by simp only at hj; omega)
    · exact .inl hp
  unfold siteR at h
  simp only at h
  split at h
  · cases h
    exact ⟨fresh _ rfl, rfl, rfl, rfl, rfl, by simp [mget_mset]⟩
  · rename_i x0 hx0
    split at h
    · cases h
      rename_i hs
      exact ⟨hR, hs, rfl, rfl, rfl, hx0⟩
    · cases h
      exact ⟨fresh _ rfl, rfl, rfl, rfl, rfl, by simp [mget_mset]⟩

/-- A send answers what the nearest dictionary has. -/
theorem Fine.send {R : TRep} {N : Nat} (h : Fine R N) {at_ c : Int} {s : ByteArray} {b : Nat} {es : Array MapEntry} {k : Nat} {x : SiteR} {R1 : TRep} (hc : 0 ≤ c ∧ c < R.sup.length)
    (h1 : siteR R.ask1 at_ s b es k = (x, R1)) (hw : WF R1) (hw2 : WF (sendT R1 at_ c s x).2) :
    (sendT R1 at_ c s x).1 = (plain R c s).1 ∧ Fine (sendT R1 at_ c s x).2 (N + 1) ∧ (sendT R1 at_ c s x).2.abs = { R.abs with asked := R.tel.asked + 1 } := by
  obtain ⟨i1, i2, i3, i4, i5, i6⟩ := siteR_is (h.inv.tel _ : Inv R.ask1) h1
  have hpl : ∀ c s, plain R1 c s = plain R c s := fun c s => plain_congr (R := R) (R' := R1) i3 s (fun c => by simp [TRep.dic, i4]) c
  have hc1 : 0 ≤ c ∧ c < R1.sup.length := by rw [i3]; exact hc
  obtain ⟨t1, t2, t3, t4, t5⟩ := h.tel
  have b1 : R1.tel.asked = R.tel.asked + 1 := by rw [i5]
  have b2 : R1.tel.inl = R.tel.inl := by rw [i5]
  have b3 : R1.tel.glob = R.tel.glob := by rw [i5]
  have b4 : R1.tel.walked = R.tel.walked := by rw [i5]
  have b5 : R1.tel.steps = R.tel.steps := by rw [i5]
  have hs := h.sum
  have hlo := h.lo
  cases hf : fnd x.cls x.n c with
  | some i =>
    rw [sendT_hit hf] at hw2 ⊢
    obtain ⟨f1, f2⟩ := fnd_is hf
    have hl := hw.site (at_, x) (mget_mem i6)
    obtain ⟨l1, l2, l3⟩ := hl
    simp only at l1 l2 l3
    have hm : x.ms[i]? = some (x.ms[i]'(by omega)) := List.getElem?_eq_getElem (by omega)
    have hq := i1.site (at_, x) (mget_mem i6) i c _ f1 f2 hm
    refine ⟨?_, ⟨hw2, i1.tel _, ⟨by simp only; omega, by simp only; omega, by simp only; omega, by simp only; omega, by simp only; omega⟩, by simp only; omega, by simp only; omega⟩, ?_⟩
    · rw [hm, Option.getD_some, ← hq.2, ← hpl]; simp only [i2]
    · simp only [TRep.abs, i3, i4, b1]
  | none =>
    have a := ask_is hw i1 s hc1
    have e1 := a.asked
    have e2 := a.inl
    have e3 := a.sum
    have e4 := a.lo (by omega)
    have e5 := a.hi (by omega)
    have e6 := a.globs
    have e7 := a.walks
    have hv := a.val
    rw [hpl] at hv
    by_cases hn : (askR R1 c s).1 = none ∨ ¬ x.n < 4
    · rw [sendT_ask hf hn]
      refine ⟨hv, ⟨a.wf, a.inv, ⟨by omega, by omega, by omega, by omega, e5⟩, by omega, e4⟩, ?_⟩
      simp only [TRep.abs, a.sup, a.dics, e1, i3, i4, b1]
    · simp only [not_or, Classical.not_not] at hn
      obtain ⟨hn1, hn2⟩ := hn
      obtain ⟨m, hm⟩ := Option.ne_none_iff_exists'.1 hn1
      rw [sendT_more hf hm hn2] at hw2 ⊢
      refine ⟨by rw [← hv, hm], ⟨hw2, ?_, ⟨by simp only; omega, by simp only; omega, by simp only; omega, by simp only; omega, e5⟩, by simp only; omega, e4⟩, ?_⟩
      · have hin : mget at_ (askR R1 c s).2.sites = some x := by rw [a.sites]; exact i6
        refine a.inv.of rfl (fun _ => rfl) (fun _ hk _ => .inl hk) (fun p hp => ?_)
        rcases mset_mem hp with rfl | hp
        · right
          intro j c' m' hj g1 g2
          simp only [SiteR.more] at hj g1 g2 ⊢
          have hl := hw.site (at_, x) (mget_mem i6)
          simp only at hl
          rw [a.sup]
          have hp3 : plain (askR R1 c s).2 c' x.sel = plain R1 c' x.sel := plain_congr a.sup _ (fun c => by simp [TRep.dic, a.dics]) c'
          rw [hp3]
          rw [List.getElem?_set] at g1 g2
          by_cases e : x.n = j
          · rw [if_pos e, if_pos (by omega)] at g1 g2
            cases g1; cases g2
            exact ⟨hc1, by rw [i2, hpl, ← hv, hm]⟩
          · rw [if_neg e] at g1 g2
            exact i1.site (at_, x) (mget_mem i6) j c' m' (by simp only; omega) g1 g2
        · exact .inl hp
      · simp only [TRep.abs, a.sup, a.dics, e1, i3, i4, b1]

/-- What is laid into a dictionary, or taken out, does not touch other selectors; what was known of this one is forgotten. -/
theorem Fine.laid {R : TRep} {N : Nat} (h : Fine R N) {c : Int} {s : ByteArray} {d : DicR} {es : Array MapEntry} (hc : 0 ≤ c ∧ c < R.sup.length) (hd : ∀ u, u ≠ s → mget u d.m = mget u (R.dic c))
    (hw : WF (forgetR (layR R c d) (fun u => decide (u = s)) es)) : Fine (forgetR (layR R c d) (fun u => decide (u = s)) es) N ∧ (forgetR (layR R c d) (fun u => decide (u = s)) es).abs = { R.abs with ms := R.abs.ms.set c.toNat d.m } := by
  have hlen := h.wf.len
  have hp : ∀ c' u, u ≠ s → plain (forgetR (layR R c d) (fun u => decide (u = s)) es) c' u = plain R c' u := fun c' u hu =>
    plain_congr (R := R) (R' := forgetR (layR R c d) (fun u => decide (u = s)) es) rfl u (fun k => by
      have : (forgetR (layR R c d) (fun u => decide (u = s)) es).dic k = (layR R c d).dic k := rfl
      rw [this, layR_dic hc.1 (by omega)]
      split
      · rename_i e; rw [hd u hu, e]
      · rfl) c'
  refine ⟨⟨hw, ⟨fun k hk hn => ?_, fun p hpp j c' m hj g1 g2 => ?_⟩, h.tel, h.sum, h.lo⟩, ?_⟩
  · simp only [forgetR, layR, List.mem_map] at hk
    obtain ⟨k0, hk0, rfl⟩ := hk
    by_cases e : k0.s = s
    · simp [fgt, e, noKnown] at hn
    · have e1 : fgt (fun u => decide (u = s)) k0 = k0 := by simp [fgt, e]
      rw [e1] at hn ⊢
      rw [hp _ _ e]
      exact h.inv.glob k0 hk0 hn
  · simp only [forgetR, layR] at hpp
    obtain ⟨h1, h2⟩ := List.mem_filter.1 hpp
    have h3 : p.2.sel ≠ s := by simpa using h2
    rw [hp _ _ h3]
    exact h.inv.site p h1 j c' m hj g1 g2
  · simp only [TRep.abs, forgetR, layR, List.map_set]

theorem Fine.flushed {R : TRep} {N : Nat} (h : Fine R N) {es : Array MapEntry} (hw : WF (forgetR R (fun _ => true) es)) : Fine (forgetR R (fun _ => true) es) N ∧ (forgetR R (fun _ => true) es).abs = R.abs := by
  refine ⟨⟨hw, ⟨fun k hk hn => ?_, fun p hpp => ?_⟩, h.tel, h.sum, h.lo⟩, rfl⟩
  · simp only [forgetR, List.mem_map] at hk
    obtain ⟨k0, hk0, rfl⟩ := hk
    simp [fgt, noKnown] at hn
  · simp [forgetR] at hpp
end Go.V

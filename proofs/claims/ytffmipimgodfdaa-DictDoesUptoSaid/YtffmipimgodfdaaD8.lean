/-
  Contracts: Clone, New.
-/
import Derived.Test.YtffmipimgodfdaaD6
import Derived.Test.YtffmipimgodfdaaDI
set_option linter.unusedSimpArgs false
set_option linter.unusedVariables false
namespace Go.Proofs.Ytffmipimgodfdaa
open Go Go.V
set_option maxHeartbeats 1600000
set_option maxRecDepth 100000
set_option linter.unusedSimpArgs false
set_option linter.unusedVariables false
theorem clone_spec (A : List Atom) (v : Value) (xs : List Int) (h : RdInts A v xs) (hn : xs.length ≤ 1048576) :
    Fun Try.prog 23 [v] [A] (fun v' Post => ∃ sp, IsSl 1 v' xs.length (xs.map vi) sp ∧ Post = [A, slA v' (xs.map vi) sp]) := by
  refine Fun.intro low23 (by simp [F23]) ?_
  rcases h with ⟨rfl, rfl⟩ | ⟨b, o, c, rfl, hA⟩
  · refine GO ?_
    refine endQ_mk (Post := [A, slA (.slice none 0 0) [] []]) (.inr rfl) (.tmp (by rfl) .nil) ⟨[], .nil, rfl⟩ ?_
    exact ⟨[], by simp [V.Spl, slA]⟩
  · refine GO ?_
    refine st_bslice (out := []) (by rfl) (by rfl) (fun q => ?_)
    refine GO ?_
    refine st_append (k := 0) (m := xs.length) (xs := []) (sp := []) (ys := xs.map vi) (by rfl) (by rfl) (.mk rfl rfl (Nat.le_refl _)) (by exact Tk.here) (by rfl) ?_ (by simp) (by simp [oneCell]) (by rfl) (by decide) (by omega) (fun sv' sp' hsl => ?_)
    · refine ⟨by simp, fun x hx => ?_⟩
      simp only [List.flatten_cons, List.flatten_nil, List.append_nil]
      exact RdInts.src hA x hx
    simp only [Nat.zero_add, List.nil_append] at hsl ⊢
    refine GO ?_
    refine endQ_mk (Post := [A, slA sv' (xs.map vi) sp']) (.inr rfl) (.tmp (by rfl) .nil) ⟨sp', hsl, rfl⟩ (by (first | with_reducible exact Imp.refl | with_reducible exact Imp.left | (focus ((try simp only [Core_eq]); (repeat (first | exact Imp.nil | (apply Imp.cons; (focus ((repeat (first | with_reducible exact Tk.here | apply Tk.there)); done))))); done))))

def NewP (A : List Atom) (xs : List Int) (v : Value) (Post : SH) : Prop :=
  (NewOk xs ∧ ∃ t R, Fresh R xs ∧ v = .tuple #[ptr0 t, vi 0] ∧ Post = A :: Full t R) ∨ (¬ NewOk xs ∧ v = .tuple #[.pointer none, vi 220] ∧ Post = [A])

theorem new_spec (A : List Atom) (v : Value) (xs : List Int) (h : RdInts A v xs) (hn : xs.length ≤ 1048576) :
    Fun Try.prog 8 [v] [A] (NewP A xs) := by
  obtain ⟨a, c, hv⟩ := h.form
  refine Fun.intro low8 (by simp [F8]) ?_
  rw [hv]
  refine GO ?_
  by_cases hbig : 4096 < xs.length
  · simp only [show ((4096 : Int) < xs.length) from by omega, decide_true]
    refine GO ?_
    refine endQ_mk (.inr rfl) (.tmp (by rfl) (.tmp (by rfl) .nil)) (.inr ⟨fun hh => by have := hh.1; omega, rfl, rfl⟩) (by (first | with_reducible exact Imp.refl | with_reducible exact Imp.left | (focus ((try simp only [Core_eq]); (repeat (first | exact Imp.nil | (apply Imp.cons; (focus ((repeat (first | with_reducible exact Tk.here | apply Tk.there)); done))))); done))))
  simp only [show ¬ ((4096 : Int) < xs.length) from by omega, decide_false]
  refine GO ?_
  refine VC.loop (α := Nat) (Γf := fun k => [(0, .slice a xs.length c), (11, .slice a xs.length c), (12, vi xs.length), (13, vi k)]) (Hf := fun _ => [A])
    (I := fun k => k ≤ xs.length ∧ ∀ (i : Nat) s, i < k → xs[i]? = some s → -1 ≤ s ∧ s < i) (μ := fun k => xs.length - k) 0 (by simp) (by (repeat (first | exact Sub.nil | (apply Sub.cons; rfl)))) (by (first | with_reducible exact Imp.refl | with_reducible exact Imp.left | (focus ((try simp only [Core_eq]); (repeat (first | exact Imp.nil | (apply Imp.cons; (focus ((repeat (first | with_reducible exact Tk.here | apply Tk.there)); done))))); done)))) (fun k ⟨hk, hx⟩ => ?_)
  refine GO ?_
  (first | (apply VC.seq_cond; rfl) | (apply VC.cond; rfl))
  · intro hlt
    have hlt : k < xs.length := by simpa using hlt
    obtain ⟨b, o, c', hvv, hA⟩ := h.pos (by omega)
    rw [hv] at hvv
    simp only [Value.slice.injEq, true_and] at hvv
    obtain ⟨rfl, rfl⟩ := hvv
    refine GO ?_
    refine st_load1 (v := vi xs[k]) (by rfl) (.among (hA k _ (by simp))) ?_
    refine GO ?_
    by_cases h1 : xs[k] < -1
    · simp only [h1, decide_true]
      refine GO ?_
      refine endQ_mk (.inr rfl) (.tmp (by rfl) (.tmp (by rfl) .nil)) (.inr ⟨fun hh => by have := hh.2 k _ (by simp [hlt]; rfl); omega, rfl, rfl⟩) (by (first | with_reducible exact Imp.refl | with_reducible exact Imp.left | (focus ((try simp only [Core_eq]); (repeat (first | exact Imp.nil | (apply Imp.cons; (focus ((repeat (first | with_reducible exact Tk.here | apply Tk.there)); done))))); done))))
    · simp only [h1, decide_false]
      refine GO ?_
      by_cases h2 : (k : Int) ≤ xs[k]
      · simp only [h2, decide_true]
        refine GO ?_
        refine endQ_mk (.inr rfl) (.tmp (by rfl) (.tmp (by rfl) .nil)) (.inr ⟨fun hh => by have := hh.2 k _ (by simp [hlt]; rfl); omega, rfl, rfl⟩) (by (first | with_reducible exact Imp.refl | with_reducible exact Imp.left | (focus ((try simp only [Core_eq]); (repeat (first | exact Imp.nil | (apply Imp.cons; (focus ((repeat (first | with_reducible exact Tk.here | apply Tk.there)); done))))); done))))
      · simp only [h2, decide_false]
        refine GO ?_
        refine ⟨k + 1, ⟨by omega, fun i s hi hs => ?_⟩, by omega, by (repeat (first | exact Sub.nil | (apply Sub.cons; rfl))), by (first | with_reducible exact Imp.refl | with_reducible exact Imp.left | (focus ((try simp only [Core_eq]); (repeat (first | exact Imp.nil | (apply Imp.cons; (focus ((repeat (first | with_reducible exact Tk.here | apply Tk.there)); done))))); done)))⟩
        by_cases e : i = k
        · subst e
          simp [hlt] at hs
          subst hs
          omega
        · exact hx i s (by omega) hs
  · intro hge
    obtain rfl : k = xs.length := by simp at hge; omega
    have hok : NewOk xs := ⟨by omega, fun i s hs => hx i s (List.getElem?_eq_some_iff.1 hs).1 hs⟩
    refine GO ?_
    refine VC.join (α := Value × List Value × Nat × Nat × Nat) (fun y => [(6, ptr0 y.2.2.2.2)])
      (fun y => [cellsAt y.2.2.2.2 0 [y.1, .slice (some ⟨y.2.2.1, 0, none⟩) xs.length xs.length], cellsAt y.2.2.2.2 2 ((List.replicate 64 noKnown).flatMap kEnc), cellsAt y.2.2.2.2 194 [.map (some y.2.2.2.1)], cellsAt y.2.2.2.2 195 (telEnc {}),
        slA y.1 (xs.map vi) y.2.1, cellsAt y.2.2.1 0 (zeroRow xs.length [.map none]), [.obj y.2.2.2.1 (.map #[] 0)], A])
      (fun y => IsSl 1 y.1 xs.length (xs.map vi) y.2.1) ?_ ?_
    · refine VC.draw (fun rs hrs => ?_)
      simp only [List.mem_cons, List.not_mem_nil, or_false] at hrs
      rcases hrs with rfl | rfl | rfl | rfl | rfl | rfl
      all_goals (repeat (first
    | (apply st_mv; rfl)
    | (apply st_pure (r := V.R.lenL _); rfl; rfl; rfl)
    | (refine st_call (clone_spec A (.slice a xs.length c) xs (hv ▸ h) hn) (by rfl) (by (focus ((repeat (first | exact Spl.nil | (apply Spl.cons; (focus ((repeat (first | with_reducible exact Tk.here | apply Tk.there)); done))))); done))) (fun sv' Post hpo => ?_); obtain ⟨sp', hsl, rfl⟩ := hpo; obtain ⟨a1, c1, rfl⟩ := hsl.form; simp only [List.cons_append, List.nil_append])
    | (refine st_mkslice (li := xs.length) (ci := xs.length) (by rfl) (by rfl) (by omega) (by rfl) (fun db => ?_); simp only [Int.toNat_natCast])
    | (refine st_mkmap (fun sm => ?_))))
      all_goals refine st_build (out := newCells (.slice a1 xs.length c1) (.slice (some ⟨db, 0, none⟩) xs.length xs.length) sm) (by rfl) (by rfl) ?_
      all_goals refine st_box (by rfl) (fun t => ?_)
      all_goals simp only [Value.cells, newCells_at]
      all_goals refine st_mv (by rfl) ?_
      all_goals refine VO.nil ?_
      all_goals refine ⟨(.slice a1 xs.length c1, sp', db, sm, t), hsl, by (repeat (first | exact Sub.nil | (apply Sub.cons; rfl))), ?_⟩
      all_goals refine Imp.cut Imp.app4 ?_
      all_goals simp only
      all_goals (first | with_reducible exact Imp.refl | with_reducible exact Imp.left | (focus ((try simp only [Core_eq]); (repeat (first | exact Imp.nil | (apply Imp.cons; (focus ((repeat (first | with_reducible exact Tk.here | apply Tk.there)); done))))); done)))
    · rintro ⟨sv', sp', db, sm, t⟩ hsl
      simp only at hsl
      refine GO ?_
      refine VC.loop (α := List DicR) (Γf := fun ds => [(6, ptr0 t), (38, vi xs.length), (39, vi ds.length)])
        (Hf := fun ds => [cellsAt t 0 [sv', .slice (some ⟨db, 0, none⟩) xs.length xs.length], cellsAt t 2 ((List.replicate 64 noKnown).flatMap kEnc), cellsAt t 194 [.map (some sm)], cellsAt t 195 (telEnc {}),
          slA sv' (xs.map vi) sp', cellsAt db 0 ((ds.map fun d => .map (some d.b)) ++ zeroRow (xs.length - ds.length) [.map none]), [.obj sm (.map #[] 0)], A, ds.flatMap dAtoms])
        (I := fun ds => ds.length ≤ xs.length ∧ ∀ d ∈ ds, d.es = #[] ∧ d.c = 0 ∧ d.m = []) (μ := fun ds => xs.length - ds.length) [] (by simp) (by (repeat (first | exact Sub.nil | (apply Sub.cons; rfl)))) ?_ (fun ds hds => ?_)
      · simp
        exact Imp.cut (Imp.fresh (A := [])) (by (first | with_reducible exact Imp.refl | with_reducible exact Imp.left | (focus ((try simp only [Core_eq]); (repeat (first | exact Imp.nil | (apply Imp.cons; (focus ((repeat (first | with_reducible exact Tk.here | apply Tk.there)); done))))); done))))
      · obtain ⟨d1, d2⟩ := hds
        refine GO ?_
        (first | (apply VC.seq_cond; rfl) | (apply VC.cond; rfl))
        · intro hlt
          have hlt : ds.length < xs.length := by simpa using hlt
          obtain ⟨r, hr⟩ : ∃ r, xs.length - ds.length = r + 1 := ⟨xs.length - ds.length - 1, by omega⟩
          rw [hr, zeroRow_one]
          refine GO ?_
          refine st_mkmap (fun b => ?_)
          refine GO ?_
          refine VO.pull (A := cellsAt db 0 ((ds.map fun d => .map (some d.b)) ++ List.replicate (r + 1) (.map none))) (by (focus ((repeat (first | with_reducible exact Tk.here | apply Tk.there)); done))) ?_
          refine st_store' (us := [.map (some b)]) (by rfl) (by rfl) (by rfl) (by rfl) (by rfl) (Upd.set1 (i := ds.length) (by omega) (by simp)) ?_
          have hs := set_mid (ds.map fun d => Value.map (some d.b)) r (.map none) (.map (some b))
          rw [List.length_map] at hs
          rw [hs]
          refine GO ?_
          refine ⟨ds ++ [⟨b, #[], 0, []⟩], ⟨by simp; omega, fun d hd => ?_⟩, by simp; omega, ?_, ?_⟩
          · rcases List.mem_append.1 hd with hd | hd
            · exact d2 d hd
            · simp at hd; subst hd; exact ⟨rfl, rfl, rfl⟩
          · simp only [List.length_append, List.length_cons, List.length_nil, Nat.zero_add, Int.natCast_add]
            (repeat (first | exact Sub.nil | (apply Sub.cons; rfl)))
          · have e : xs.length - (ds ++ [(⟨b, #[], 0, []⟩ : DicR)]).length = r := by simp; omega
            rw [e, zeroRow_one]
            simp only [List.map_append, List.map_cons, List.map_nil]
            (repeat (apply Imp.cons; (focus ((repeat (first | with_reducible exact Tk.here | apply Tk.there)); done))))
            refine Imp.glue (B := ds.flatMap dAtoms) (C := [.obj b (.map #[] 0)]) (by (focus ((repeat (first | with_reducible exact Tk.here | apply Tk.there)); done))) (by (focus ((repeat (first | with_reducible exact Tk.here | apply Tk.there)); done))) (List.Perm.of_eq (by simp [dAtoms])) .nil
        · intro hge
          have hl : ds.length = xs.length := by simp at hge; omega
          refine GO ?_
          refine endQ_mk (.inr rfl) (.tmp (by rfl) (.tmp (by rfl) .nil)) (.inl ⟨hok, t, newRep xs sv' sp' db sm ds, newRep_fresh hok hsl hl d2, rfl, rfl⟩) ?_
          simp only [Full, SitesI, Core_eq, newRep, List.cons_append, List.nil_append, slA_some]
          rw [hl, Nat.sub_self]
          simp [zeroRow, telEnc]
          refine Imp.cut (Imp.fresh (A := [])) ?_
          (first | with_reducible exact Imp.refl | with_reducible exact Imp.left | (focus ((try simp only [Core_eq]); (repeat (first | exact Imp.nil | (apply Imp.cons; (focus ((repeat (first | with_reducible exact Tk.here | apply Tk.there)); done))))); done)))
end Go.Proofs.Ytffmipimgodfdaa
namespace Go.V
open Go

def Abs.ok (a : Abs) (c : Int) : Prop := 0 ≤ c ∧ c < a.sup.length
instance (a : Abs) (c : Int) : Decidable (a.ok c) := inferInstanceAs (Decidable (_ ∧ _))
def Abs.dic (a : Abs) (c : Int) : List (ByteArray × Int) := if 0 ≤ c then (a.ms[c.toNat]?).getD [] else []
def Abs.up (a : Abs) (c : Int) : Int := (a.sup[c.toNat]?).getD (-1)

def plainA (a : Abs) (s : ByteArray) : Nat → Int → Option Int × Nat
  | 0, _ => (none, 0)
  | f + 1, c => if c < 0 then (none, 0) else match mget s (a.dic c) with
    | some m => (some m, 1)
    | none => let r := plainA a s f (a.up c); (r.1, r.2 + 1)

theorem abs_dic (R : TRep) (c : Int) : R.dic c = R.abs.dic c := by simp [TRep.dic, Abs.dic, TRep.abs]

theorem plain_abs (R : TRep) (c : Int) (s : ByteArray) : plain R c s = plainA R.abs s (c + 1).toNat c := by
  unfold plain
  generalize (c + 1).toNat = f
  induction f generalizing c with
  | zero => rfl
  | succ f ih =>
    have hu : R.up c = R.abs.up c := rfl
    simp only [plainF, plainA, abs_dic, hu, ih]
    split
    · rfl
    · cases mget s (R.abs.dic c) <;> rfl

/-- What an installing answers, and leaves. -/
def instE (a : Abs) (c : Int) (s : ByteArray) : Int :=
  if a.ok c then (if s.size < 1 ∨ 640 < s.size then 221 else if mget s (a.dic c) = none ∧ 4096 ≤ (a.dic c).length then 222 else 0) else 220
def instA (a : Abs) (c : Int) (s : ByteArray) (m : Int) : Abs := if instE a c s = 0 then { a with ms := a.ms.set c.toNat (mset s m (a.dic c)) } else a

def remE (a : Abs) (c : Int) (s : ByteArray) : Int := if a.ok c then (if mget s (a.dic c) = none then 223 else 0) else 220
def remA (a : Abs) (c : Int) (s : ByteArray) : Abs := if remE a c s = 0 then { a with ms := a.ms.set c.toNat (mdel s (a.dic c)) } else a

def askA (a : Abs) (c : Int) : Abs := if a.ok c then { a with asked := a.asked + 1 } else a
def sendE (a : Abs) (at_ c : Int) : Int := if 0 ≤ at_ ∧ at_ < 65536 then (if a.ok c then 0 else 220) else 224
def sendA (a : Abs) (at_ c : Int) : Abs := if sendE a at_ c = 0 then { a with asked := a.asked + 1 } else a
def lookA (a : Abs) (c : Int) (s : ByteArray) : Option Int := if a.ok c then (plainA a s (c + 1).toNat c).1 else none

theorem pl_abs (R : TRep) (c : Int) (s : ByteArray) : pl R c s = lookA R.abs c s := by
  simp only [pl, lookA, plain_abs]; rfl

theorem look_abs (R : TRep) (N : Nat) (h : Fine R N) (c : Int) (s : ByteArray) : (lookR R c s).1 = lookA R.abs c s ∧ Fine (lookR R c s).2 (N + 1) ∧ (lookR R c s).2.abs = askA R.abs c := by
  obtain ⟨h1, h2, h3⟩ := h.look c s
  refine ⟨h1.trans (pl_abs R c s), h2, h3.trans ?_⟩
  unfold askA
  by_cases hc : R.abs.ok c
  · have hc' : 0 ≤ c ∧ c < R.sup.length := hc
    rw [if_pos hc, if_pos hc']; rfl
  · have hc' : ¬ (0 ≤ c ∧ c < R.sup.length) := hc
    rw [if_neg hc, if_neg hc']; rfl


/-- A call of one table alone. -/
def callA (a : Abs) (k c : Int) (s : ByteArray) (m at_ : Int) : Abs :=
  if k = 1 then instA a c s m else if k = 2 then remA a c s else if k = 5 then askA a c else if k = 6 then sendA a at_ c else a


theorem pl_step {R : TRep} (h : WF R) {c : Int} (s : ByteArray) (hc : 0 ≤ c ∧ c < R.sup.length) : pl R c s = match mget s (R.dic c) with | some m => some m | none => pl R (R.up c) s := by
  obtain ⟨u1, u2⟩ := up_lt h hc.1 hc.2
  unfold pl
  rw [if_pos hc, plain_step h s hc.1 hc.2]
  cases mget s (R.dic c) with
  | some m => rfl
  | none =>
    simp only
    by_cases h0 : 0 ≤ R.up c
    · rw [if_pos ⟨h0, by omega⟩]
    · rw [if_neg (fun hh => h0 hh.1), plain_neg s (by omega)]


theorem Core_tel (t : Nat) (R : TRep) : Core t R = [cellsAt t 0 [R.sv, R.dv], cellsAt t 2 (R.glob.flatMap kEnc)] ++ (cellsAt t 195 (telEnc R.tel) :: [slA R.sv (R.sup.map vi) R.ssp, slA R.dv (R.dics.map fun d => .map (some d.b)) [], R.dics.flatMap dAtoms]) := rfl

theorem Fresh.fine {R : TRep} {xs : List Int} (h : Fresh R xs) : Fine R 0 ∧ R.abs = ⟨xs, List.replicate xs.length [], 0⟩ := by
  have ht := h.tel
  refine ⟨⟨h.wf, ⟨fun k hk hn => ?_, fun p hp => ?_⟩, by rw [ht]; exact ⟨Nat.le_refl _, Nat.le_refl _, Nat.le_refl _, Nat.le_refl _, Nat.le_refl _⟩, by rw [ht]; rfl, by rw [ht]; exact Nat.le_refl _⟩, ?_⟩
  · rw [h.glob] at hk
    rw [(List.mem_replicate.1 hk).2] at hn
    exact absurd rfl hn
  · rw [h.sites] at hp; cases hp
  · simp only [TRep.abs, h.sup, ht]
    congr 1
    rw [List.eq_replicate_iff]
    refine ⟨by rw [List.length_map, h.wf.len, h.sup], fun x hx => ?_⟩
    obtain ⟨d, hd, rfl⟩ := List.mem_map.1 hx
    exact h.dics d hd

/-- Nothing is known. -/
def Quiet (R : TRep) : Prop := ∀ k ∈ R.glob, k = noKnown

theorem Quiet.known {R : TRep} (h : Quiet R) (i : Nat) : R.known i = noKnown := by
  unfold TRep.known
  cases hk : R.glob[i]? with
  | none => rfl
  | some k => exact h k (List.mem_of_getElem? hk)

theorem Quiet.forget {R : TRep} (h : Quiet R) (g : ByteArray → Bool) (es : Array MapEntry) : Quiet (forgetR R g es) := by
  intro k hk
  obtain ⟨k0, h0, rfl⟩ := List.mem_map.1 hk
  rw [h k0 h0]
  unfold fgt
  split <;> rfl

theorem look_hit {R : TRep} {c m : Int} {s : ByteArray} (hc : 0 ≤ c ∧ c < R.sup.length) (hs : s ≠ ⟨#[]⟩) (hk : R.ask1.known (placeN c s) = ⟨c, s, m⟩) :
    lookR R c s = (some m, { R.ask1 with tel := { R.ask1.tel with glob := R.ask1.tel.glob + 1 } }) := by
  unfold lookR
  rw [if_pos hc, askR_hit (by rw [hk]; exact ⟨rfl, rfl⟩) hs, hk]

/-- Where nothing is known, a lookup walks and is known behind it; the next one is answered by the cache. -/
theorem look_twice {R : TRep} {c m : Int} {s : ByteArray} {n : Nat} (hw : WF R) (hq : Quiet R) (hc : 0 ≤ c ∧ c < R.sup.length) (hs : s ≠ ⟨#[]⟩) (hp : plain R c s = (some m, n)) :
    (lookR R c s).1 = some m ∧ (lookR (lookR R c s).2 c s).1 = some m ∧ (lookR (lookR R c s).2 c s).2.tel = ⟨R.tel.asked + 2, R.tel.inl, R.tel.glob + 1, R.tel.walked + 1, R.tel.steps + n⟩ := by
  have hp1 : plain R.ask1 c s = (some m, n) := by rw [TRep.ask1, plain_tel, hp]
  have hk : R.ask1.known (placeN c s) = noKnown := Quiet.known (R := R.ask1) hq _
  have e1 : lookR R c s = (some m, { R.ask1 with tel := R.ask1.tel.walk n, glob := R.glob.set (placeN c s) ⟨c, s, m⟩ }) := by
    unfold lookR
    rw [if_pos hc, askR_some (R := R.ask1) (m := m) (by rw [hk]; exact fun h => hs h.2.1.symm) (by rw [hp1]), hp1]
    rfl
  rw [e1]
  refine ⟨rfl, ?_⟩
  simp only
  have hl : placeN c s < R.glob.length := by rw [hw.glob]; exact placeN_lt c s
  have hk2 : (TRep.ask1 { R.ask1 with tel := R.ask1.tel.walk n, glob := R.glob.set (placeN c s) ⟨c, s, m⟩ }).known (placeN c s) = ⟨c, s, m⟩ := by
    simp [TRep.known, TRep.ask1, hl]
  rw [look_hit (by exact hc) hs hk2]
  exact ⟨rfl, rfl⟩
end Go.V
namespace Go.Proofs.Ytffmipimgodfdaa
open Go Go.V
set_option maxHeartbeats 1600000
set_option maxRecDepth 100000
set_option linter.unusedSimpArgs false
set_option linter.unusedVariables false
theorem inst_abs {t : Nat} {R : TRep} {N : Nat} {c : Int} {s : ByteArray} {m : Int} {v : Value} {Post : SH} (h : Fine R N) (hp : InstP t R c s m v Post) :
    v = vi (instE R.abs c s) ∧ ∃ R', Fine R' N ∧ R'.abs = instA R.abs c s m ∧ Post = Full t R' ∧ R'.tel = R.tel ∧ (Quiet R → Quiet R') := by
  unfold InstP at hp
  have hd := abs_dic R c
  by_cases hc : 0 ≤ c ∧ c < R.sup.length
  · have hok : R.abs.ok c := hc
    rw [if_pos hc] at hp
    unfold instA instE
    rw [if_pos hok, ← hd]
    by_cases h1 : s.size < 1 ∨ 640 < s.size
    · rw [if_pos h1] at hp ⊢
      exact ⟨hp.1, R, h, by simp, hp.2, rfl, fun q => q⟩
    · rw [if_neg h1] at hp ⊢
      by_cases h2 : mget s (R.dic c) = none ∧ 4096 ≤ (R.dic c).length
      · rw [if_pos h2] at hp ⊢
        exact ⟨hp.1, R, h, by simp, hp.2, rfl, fun q => q⟩
      · rw [if_neg h2] at hp ⊢
        obtain ⟨d, es, e1, _, e3, e4, e5⟩ := hp
        obtain ⟨g1, g2⟩ := h.laid hc (d := d) (fun u hu => by rw [e1, mget_mset, if_neg (fun e => hu e.symm)]) e3
        exact ⟨e4, _, g1, by rw [g2, e1, if_pos rfl], e5, rfl, fun q => Quiet.forget (R := layR R c d) q _ _⟩
  · have hok : ¬ R.abs.ok c := hc
    rw [if_neg hc] at hp
    unfold instA instE
    rw [if_neg hok]
    exact ⟨hp.1, R, h, by simp, hp.2, rfl, fun q => q⟩

theorem rem_abs {t : Nat} {R : TRep} {N : Nat} {c : Int} {s : ByteArray} {v : Value} {Post : SH} (h : Fine R N) (hp : RemP t R c s v Post) :
    v = vi (remE R.abs c s) ∧ ∃ R', Fine R' N ∧ R'.abs = remA R.abs c s ∧ Post = Full t R' := by
  unfold RemP at hp
  have hd := abs_dic R c
  by_cases hc : 0 ≤ c ∧ c < R.sup.length
  · have hok : R.abs.ok c := hc
    rw [if_pos hc] at hp
    unfold remA remE
    rw [if_pos hok, ← hd]
    by_cases h2 : mget s (R.dic c) = none
    · rw [if_pos h2] at hp ⊢
      exact ⟨hp.1, R, h, by simp, hp.2⟩
    · rw [if_neg h2] at hp ⊢
      obtain ⟨d, es, e1, _, e3, e4, e5⟩ := hp
      have hlen := h.wf.len
      have hn : ((R.dic c).map (·.1)).Nodup := by
        obtain ⟨d0, q1, q2, _⟩ := dic_at h.wf hc.1 hc.2
        rw [q2]; exact h.wf.keys d0 (List.mem_of_getElem? q1)
      obtain ⟨g1, g2⟩ := h.laid hc (d := d) (fun u hu => by rw [e1, mget_mdel hn, if_neg (fun e => hu e.symm)]) e3
      exact ⟨e4, _, g1, by rw [g2, e1, if_pos rfl], e5⟩
  · have hok : ¬ R.abs.ok c := hc
    rw [if_neg hc] at hp
    unfold remA remE
    rw [if_neg hok]
    exact ⟨hp.1, R, h, by simp, hp.2⟩

theorem send_abs {t : Nat} {R : TRep} {N : Nat} {at_ c : Int} {s : ByteArray} {v : Value} {Post : SH} (h : Fine R N) (hp : SendP t R at_ c s v Post) :
    v = okE (if sendE R.abs at_ c = 0 then lookA R.abs c s else none) (sendE R.abs at_ c) ∧ ∃ R', Fine R' (N + 1) ∧ R'.abs = sendA R.abs at_ c ∧ Post = Full t R' := by
  unfold SendP at hp
  unfold sendA sendE
  by_cases ha : 0 ≤ at_ ∧ at_ < 65536
  · rw [if_pos ha] at hp ⊢
    by_cases hc : 0 ≤ c ∧ c < R.sup.length
    · have hok : R.abs.ok c := hc
      rw [if_pos hc] at hp
      rw [if_pos hok, if_pos rfl]
      obtain ⟨b, es, k, x, R1, e1, e2, e3, e4, e5⟩ := hp
      obtain ⟨g1, g2, g3⟩ := h.send hc e1 e2 e3
      refine ⟨?_, _, g2, g3.trans (by rw [if_pos rfl]; rfl), e5⟩
      rw [e4, g1, ← pl_abs, pl, if_pos hc]
    · have hok : ¬ R.abs.ok c := hc
      rw [if_neg hc] at hp
      rw [if_neg hok]
      exact ⟨by rw [hp.1]; rfl, R, h.more (by omega), by simp, hp.2⟩
  · rw [if_neg ha] at hp ⊢
    exact ⟨by rw [hp.1]; rfl, R, h.more (by omega), by simp, hp.2⟩

theorem lookR_sites (t : Nat) (R : TRep) (c : Int) (s : ByteArray) : SitesI t R = SitesI t (lookR R c s).2 := by
  unfold lookR
  split
  · obtain ⟨h1, h2, h3, h4⟩ := askR_sites R.ask1 c s
    simp only [SitesI, h1, h2, h3, h4]; rfl
  · rfl

theorem call_spec (t : Nat) (R : TRep) (N : Nat) (k c : Int) (s : ByteArray) (m at_ : Int) (h : Fine R N) (hN : N < 140737488355328) (hs : s.size ≤ 1048576) :
    Fun Try.prog 9 [ptr0 t, .agg #[vi k, vi c, .string s, vi m, vi at_]] (Full t R) (fun v Post => v = .tuple #[] ∧ ∃ R', Fine R' (N + 1) ∧ R'.abs = callA R.abs k c s m at_ ∧ Post = Full t R') := by
  refine Fun.intro low9 (by simp [F9]) ?_
  refine VC.seq_reg ?_
  refine st_box (by rfl) (fun q => ?_)
  simp only [Value.cells]
  refine GO ?_
  by_cases h1 : k = 1
  · simp only [h1, decide_true]
    refine GO ?_
    refine st_call (install_spec t R c s m h.wf hs) (by rfl) Spl.tail1 (fun v Post hv => ?_)
    obtain ⟨rfl, R', g1, g2, rfl, _, _⟩ := inst_abs h hv
    refine GO ?_
    exact endQ_mk (.inl rfl) .nil ⟨rfl, R', g1.more (by omega), by rw [g2]; simp [callA, h1], rfl⟩ Imp.left
  simp only [h1, decide_false]
  refine GO ?_
  by_cases h2 : k = 2
  · simp only [h2, decide_true]
    refine GO ?_
    refine st_call (remove_spec t R c s h.wf hs) (by rfl) Spl.tail1 (fun v Post hv => ?_)
    obtain ⟨rfl, R', g1, g2, rfl⟩ := rem_abs h hv
    refine GO ?_
    exact endQ_mk (.inl rfl) .nil ⟨rfl, R', g1.more (by omega), by rw [g2]; simp [callA, h2], rfl⟩ Imp.left
  simp only [h2, decide_false]
  refine GO ?_
  by_cases h5 : k = 5
  · simp only [h5, decide_true]
    refine GO ?_
    refine st_call (lookup_spec t R c s h.wf N hN h.tel hs) (by rfl) (Spl.mid (C := Core t R) (S := SitesI t R)) (fun v Post hv => ?_)
    obtain ⟨g0, g1, g2⟩ := look_abs R N h c s
    obtain ⟨rfl, rfl⟩ := hv
    refine GO ?_
    refine endQ_mk (Post := Full t (lookR R c s).2) (.inl rfl) .nil ⟨rfl, (lookR R c s).2, g1, by rw [g2]; simp [callA, h5], rfl⟩ ?_
    rw [Full, ← lookR_sites t R c s]
    exact Imp.cut Imp.mid Imp.tail1
  simp only [h5, decide_false]
  refine GO ?_
  by_cases h6 : k = 6
  · simp only [h6, decide_true]
    refine GO ?_
    refine st_call (send_spec t R at_ c s h.wf N hN h.tel hs) (by rfl) Spl.tail1 (fun v Post hv => ?_)
    obtain ⟨rfl, R', g1, g2, rfl⟩ := send_abs h hv
    refine GO ?_
    exact endQ_mk (.inl rfl) .nil ⟨rfl, R', g1, by rw [g2]; simp [callA, h6], rfl⟩ Imp.left
  simp only [h6, decide_false]
  refine GO ?_
  by_cases h7 : k = 7
  · simp only [h7, decide_true]
    refine GO ?_
    refine st_call (flush_spec t R h.wf) (by rfl) Spl.tail1 (fun v Post hv => ?_)
    obtain ⟨es, hw, rfl, rfl⟩ := hv
    obtain ⟨g1, g2⟩ := h.flushed hw
    refine GO ?_
    exact endQ_mk (.inl rfl) .nil ⟨rfl, _, g1.more (by omega), by rw [g2]; simp [callA, h7], rfl⟩ Imp.left
  simp only [h7, decide_false]
  refine GO ?_
  exact endQ_mk (.inl rfl) .nil ⟨rfl, R, h.more (by omega), by simp [callA, h1, h2, h5, h6], rfl⟩ Imp.tail1

theorem plain_spec (A : List Atom) (t : Nat) (R : TRep) (v : Value) (c : Int) (s : ByteArray) (h : WF R) (hv : RdInts A v R.sup) :
    Fun Try.prog 12 [ptr0 t, v, vi c, .string s] (A :: Full t R) (fun v' Post => v' = okM (pl R c s) ∧ Post = A :: Full t R) := by
  obtain ⟨a, cp, hvf⟩ := hv.form
  refine Fun.intro low12 (by simp [F12]) ?_
  refine GO ?_
  refine VC.loop (α := Int) (Γf := fun x => [(0, ptr0 t), (1, v), (2, vi x), (3, .string s)]) (Hf := fun _ => A :: Full t R)
    (I := fun x => pl R c s = pl R x s) (μ := fun x => (x + 1).toNat) c rfl (by (repeat (first | exact Sub.nil | (apply Sub.cons; rfl)))) (Imp.refl _) (fun x hpx => ?_)
  refine GO ?_
  by_cases hx : 0 ≤ x ∧ x < R.sup.length
  · have hst := pl_step h s hx
    obtain ⟨u1, u2⟩ := up_lt h hx.1 hx.2
    obtain ⟨b, o, cp', hvv, hA⟩ := hv.pos (by omega)
    simp only [hx.1, decide_true]
    rw [hvv]
    refine GO ?_
    simp only [hx.2, decide_true]
    refine GO ?_
    refine st_call (own_spec t R x s h) (by rfl) (Spl.mid (C := Core t R) (S := SitesI t R)) (fun v' Post hv' => ?_)
    obtain ⟨rfl, rfl⟩ := hv'
    refine VO.imp Imp.mid ?_
    simp only [ownR, if_pos hx]
    cases hg : mget s (R.dic x) with
    | some m =>
      rw [hg] at hst
      simp only [okM, Option.getD_some, Option.isSome_some]
      refine GO ?_
      refine endQ_mk (Post := A :: Full t R) (.inr rfl) (.tmp (by rfl) (.tmp (by rfl) .nil)) ⟨?_, rfl⟩ (Imp.refl _)
      rw [hpx, hst]; rfl
    | none =>
      rw [hg] at hst
      simp only [okM, Option.getD_none, Option.isSome_none]
      refine GO ?_
      refine st_load1 (v := vi (R.up x)) (by rfl) (.among (hA x.toNat _ ?_)) ?_
      · have : x.toNat < R.sup.length := by omega
        simp [TRep.up, this]
      refine GO ?_
      refine ⟨R.up x, hpx.trans hst, by omega, by (repeat (first | exact Sub.nil | (apply Sub.cons; rfl))), Imp.refl _⟩
  · have hn : pl R x s = none := by simp only [pl, if_neg hx]
    rw [hn] at hpx
    rw [hpx]
    rw [hvf]
    by_cases h0 : 0 ≤ x
    · simp only [h0, decide_true]
      refine GO ?_
      simp only [show ¬ x < R.sup.length from fun hh => hx ⟨h0, hh⟩, decide_false]
      refine GO ?_
      refine endQ_mk (Post := A :: Full t R) (.inr rfl) (.tmp (by rfl) (.tmp (by rfl) .nil)) ⟨by rfl, rfl⟩ (Imp.refl _)
    · simp only [h0, decide_false]
      refine GO ?_
      refine endQ_mk (Post := A :: Full t R) (.inr rfl) (.tmp (by rfl) (.tmp (by rfl) .nil)) ⟨by rfl, rfl⟩ (Imp.refl _)

theorem counts_full (t : Nat) (R : TRep) : Fun Try.prog 11 [ptr0 t] (Full t R) (fun v Post => v = .agg (telEnc R.tel).toArray ∧ Post = Full t R) := by
  refine (counts_spec t R.tel).conv (R := [cellsAt t 0 [R.sv, R.dv], cellsAt t 2 (R.glob.flatMap kEnc)] ++ ([slA R.sv (R.sup.map vi) R.ssp, slA R.dv (R.dics.map fun d => .map (some d.b)) [], R.dics.flatMap dAtoms] ++ SitesI t R)) ?_ ?_
  · simp only [Full, Core_tel, V.Spl, List.flatten_append, List.flatten_cons, List.flatten_nil, List.append_nil, List.append_assoc]
    rw [← List.append_assoc (cellsAt t 0 _)]
    rw [← List.append_assoc (cellsAt t 0 _) (cellsAt t 2 _)]
    exact perm_lead _ _ _
  · rintro v Post ⟨rfl, rfl⟩
    refine ⟨_, ⟨rfl, rfl⟩, Imp.perm ?_⟩
    simp only [Full, Core_tel, List.flatten_append, List.flatten_cons, List.flatten_nil, List.append_nil, List.append_assoc]
    rw [← List.append_assoc (cellsAt t 0 _)]
    rw [← List.append_assoc (cellsAt t 0 _) (cellsAt t 2 _)]
    exact perm_lead _ _ _

theorem lookup_full (t : Nat) (R : TRep) (N : Nat) (c : Int) (s : ByteArray) (h : Fine R N) (hN : N < 140737488355328) (hs : s.size ≤ 1048576) :
    Fun Try.prog 13 [ptr0 t, vi c, .string s] (Full t R) (fun v Post => v = okM (lookR R c s).1 ∧ Post = Full t (lookR R c s).2) := by
  refine (lookup_spec t R c s h.wf N hN h.tel hs).conv (R := SitesI t R) ?_ ?_
  · simp [V.Spl, Full]
  · rintro v Post ⟨rfl, rfl⟩
    exact ⟨_, ⟨rfl, rfl⟩, by rw [Full, ← lookR_sites t R c s]; exact Imp.refl _⟩
end Go.Proofs.Ytffmipimgodfdaa

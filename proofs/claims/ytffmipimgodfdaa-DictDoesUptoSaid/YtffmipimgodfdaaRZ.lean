/-
  The document's table: nothing is known.
-/
import Derived.Test.YtffmipimgodfdaaRF
set_option linter.unusedSimpArgs false
set_option linter.unusedVariables false
namespace Go.Proofs.Ytffmipimgodfdaa
open Go Go.V
set_option maxHeartbeats 6400000
set_option maxRecDepth 100000
set_option linter.unusedSimpArgs false
set_option linter.unusedVariables false
def noAll (r : RTab) : RTab := { r with glob := r.glob.map (fun _ => noPl), xv := .slice none 0 0, sites := [], xsp := [] }
theorem noAll_ok {r : RTab} (h : ROk r) : ROk (noAll r) := { h with glob := by simpa [noAll] using h.glob, xs := .nil, st := by simp [noAll], sk := by simp [noAll] }
theorem noAll_dt (r : RTab) : (noAll r).dt = forgetD r.dt (fun _ => true) := by
  simp [noAll, RTab.dt, forgetD]
theorem rflush_spec (t : Nat) (r : RTab) (hgl : r.glob.length = 64) :
    Fun Try.prog 28 [ptr0 t] (RMem t r) (fun v Post => v = .tuple #[] ∧ Post = RMem t (noAll r)) := by
  refine Fun.intro low28 (by simp [F28]) ?_
  simp only [RMem]
  refine GO ?_
  refine VC.loop (α := Nat) (Γf := fun k => [(0, ptr0 t), (2, vi k)]) (Hf := fun k => [cellsAt t 0 [r.sv, r.dv], cellsAt t 2 ((mapTo (fun _ => noPl) k r.glob).flatMap kEnc), cellsAt t 194 [r.xv], cellsAt t 195 (telEnc r.tel), slA r.sv (r.sup.map vi) r.ssp, slA r.dv (r.dds.map (·.v)) r.dsp, r.dds.flatMap dicA]) (I := fun k => k ≤ 64) (μ := fun k => 64 - k) 0 (Nat.zero_le _) (by (repeat (first | exact Sub.nil | (apply Sub.cons; rfl)))) (by simp only [mapTo_zero]; (first | with_reducible exact Imp.refl | with_reducible exact Imp.left | (focus ((try simp only [List.nil_append]); (repeat (first | exact Imp.nil | (apply Imp.cons; (focus ((repeat (first | with_reducible exact Tk.here | apply Tk.there)); done))))); done)))) ?_
  intro k hk
  by_cases hk64 : k < 64
  · refine GO ?_
    simp only [show (k : Int) < 64 by omega, decide_true]
    obtain ⟨x, hx⟩ : ∃ x, r.glob[k]? = some x := ⟨r.glob[k]'(by omega), List.getElem?_eq_getElem (by omega)⟩
    refine GO ?_
    refine st_store' (us := kEnc noPl) (by rfl) (by rfl) (by rfl) (by rfl) (by rfl) (.there (Upd.flat (f := kEnc) (l := mapTo (fun _ => noPl) k r.glob) (i := k) (y := noPl) (n := 3) kEnc_len rfl (by rw [mapTo_len]; omega))) ?_
    refine GO ?_
    have hs : mapTo (fun _ => noPl) (k + 1) r.glob = (mapTo (fun _ => noPl) k r.glob).set k noPl := mapTo_succ hx
    exact ⟨k + 1, by omega, by omega, by (repeat (first | exact Sub.nil | (apply Sub.cons; rfl))), by simp only [hs]; (first | with_reducible exact Imp.refl | with_reducible exact Imp.left | (focus ((try simp only [List.nil_append]); (repeat (first | exact Imp.nil | (apply Imp.cons; (focus ((repeat (first | with_reducible exact Tk.here | apply Tk.there)); done))))); done)))⟩
  obtain rfl : k = 64 := by omega
  have hall : mapTo (fun _ => noPl) 64 r.glob = r.glob.map (fun _ => noPl) := mapTo_all (by omega)
  simp only [hall]
  refine GO ?_
  refine endQ_mk (.inl rfl) .nil ⟨rfl, rfl⟩ ?_
  simp only [RMem, noAll]
  refine Imp.cut (M := [cellsAt t 0 [r.sv, r.dv], cellsAt t 2 ((r.glob.map (fun _ => noPl)).flatMap kEnc), cellsAt t 194 [.slice none 0 0], cellsAt t 195 (telEnc r.tel), slA r.sv (r.sup.map vi) r.ssp, slA r.dv (r.dds.map (·.v)) r.dsp, r.dds.flatMap dicA]) (by (first | with_reducible exact Imp.refl | with_reducible exact Imp.left | (focus ((try simp only [List.nil_append]); (repeat (first | exact Imp.nil | (apply Imp.cons; (focus ((repeat (first | with_reducible exact Tk.here | apply Tk.there)); done))))); done)))) (Imp.perm (by simp [slA]))
end Go.Proofs.Ytffmipimgodfdaa
namespace Go.V
open Go
def newCellsR (dv : Value) : List Value := [.slice none 0 0, dv] ++ ((List.replicate 64 noKnown).flatMap kEnc ++ ([.slice none 0 0] ++ telEnc {}))
theorem newCellsR_at (t : Nat) (dv : Value) : cellsAt t 0 (newCellsR dv) = cellsAt t 0 [.slice none 0 0, dv] ++ (cellsAt t 2 ((List.replicate 64 noKnown).flatMap kEnc) ++ (cellsAt t 194 [.slice none 0 0] ++ cellsAt t 195 (telEnc {}))) := by
  unfold newCellsR
  rw [cellsAt_append, cellsAt_append, cellsAt_append]
  rw [flatMap_len (n := 3) kEnc_len]
  rfl
def newTab (xs : List Int) (sv : Value) (sp : List Value) (db : Nat) : RTab :=
  { sup := xs, sv := sv, ssp := sp, dv := .slice (some ⟨db, 0, none⟩) xs.length xs.length, dds := List.replicate xs.length ⟨.slice none 0 0, [], []⟩, dsp := [], glob := List.replicate 64 noKnown, xv := .slice none 0 0, sites := [], xsp := [], tel := {} }
theorem newTab_ok {xs : List Int} {sv : Value} {sp : List Value} {db : Nat} (hok : NewOk xs) (h : IsSl 1 sv xs.length (xs.map vi) sp) : ROk (newTab xs sv sp db) := by
  refine ⟨h, ?_, by simp [newTab], hok.1, hok.2, fun d hd => ?_, fun d hd => ?_, by simp [newTab], .nil, by simp [newTab], by simp [newTab]⟩
  · simp only [newTab, List.length_replicate, List.map_replicate]
    exact .mk (by simp) (by simp) (Nat.le_refl _)
  · obtain rfl := (List.mem_replicate.1 hd).2; exact .nil
  · obtain rfl := (List.mem_replicate.1 hd).2; simp
end Go.V
namespace Go.Proofs.Ytffmipimgodfdaa
open Go Go.V
set_option maxHeartbeats 6400000
set_option maxRecDepth 100000
set_option linter.unusedSimpArgs false
set_option linter.unusedVariables false
theorem newTab_dt (xs : List Int) (sv : Value) (sp : List Value) (db : Nat) : (noAll (newTab xs sv sp db)).dt = newD xs := by
  simp [noAll, newTab, RTab.dt, newD]
def RNewP (A : List Atom) (xs : List Int) (v : Value) (Post : SH) : Prop :=
  (NewOk xs ∧ ∃ t r, ROk r ∧ r.dt = newD xs ∧ v = .tuple #[ptr0 t, vi 0] ∧ Post = A :: RMem t r) ∨ (¬ NewOk xs ∧ v = .tuple #[.pointer none, vi 220] ∧ Post = [A])
theorem rnew_spec (A : List Atom) (v : Value) (xs : List Int) (h : RdInts A v xs) (hn : xs.length ≤ 1048576) : Fun Try.prog 16 [v] [A] (RNewP A xs) := by
  obtain ⟨a, c, hv⟩ := h.form
  refine Fun.intro low16 (by simp [F16]) ?_
  rw [hv]
  refine GO ?_
  by_cases hbig : 4096 < xs.length
  · simp only [show ((xs.length : Int) > 4096) from by omega, decide_true]
    refine GO ?_
    refine endQ_mk (.inr rfl) (.tmp (by rfl) (.tmp (by rfl) .nil)) (.inr ⟨fun hh => by have := hh.1; omega, rfl, rfl⟩) (by (first | with_reducible exact Imp.refl | with_reducible exact Imp.left | (focus ((try simp only [List.nil_append]); (repeat (first | exact Imp.nil | (apply Imp.cons; (focus ((repeat (first | with_reducible exact Tk.here | apply Tk.there)); done))))); done))))
  simp only [show ¬ ((xs.length : Int) > 4096) from by omega, decide_false]
  refine GO ?_
  refine VC.loop (α := Nat) (Γf := fun k => [(0, .slice a xs.length c), (4, vi k)]) (Hf := fun _ => [A])
    (I := fun k => k ≤ xs.length ∧ ∀ (i : Nat) s, i < k → xs[i]? = some s → -1 ≤ s ∧ s < i) (μ := fun k => xs.length - k) 0 (by simp) (by (repeat (first | exact Sub.nil | (apply Sub.cons; rfl)))) (by (first | with_reducible exact Imp.refl | with_reducible exact Imp.left | (focus ((try simp only [List.nil_append]); (repeat (first | exact Imp.nil | (apply Imp.cons; (focus ((repeat (first | with_reducible exact Tk.here | apply Tk.there)); done))))); done)))) (fun k ⟨hk, hx⟩ => ?_)
  refine GO ?_
  (first | (apply VC.seq_cond; rfl) | (apply VC.cond; rfl))
  · intro hlt
    have hlt : k < xs.length := by simpa using hlt
    obtain ⟨b, o, c', hvv, hA⟩ := h.pos (by omega)
    rw [hv] at hvv
    simp only [Value.slice.injEq, true_and] at hvv
    obtain ⟨rfl, rfl⟩ := hvv
    have m1 := hA k xs[k] (List.getElem?_eq_getElem hlt)
    refine GO ?_
    by_cases h1 : xs[k] < -1
    · simp only [h1, decide_true]
      refine GO ?_
      refine endQ_mk (.inr rfl) (.tmp (by rfl) (.tmp (by rfl) .nil)) (.inr ⟨fun hh => by have := hh.2 k _ (List.getElem?_eq_getElem hlt); omega, rfl, rfl⟩) (by (first | with_reducible exact Imp.refl | with_reducible exact Imp.left | (focus ((try simp only [List.nil_append]); (repeat (first | exact Imp.nil | (apply Imp.cons; (focus ((repeat (first | with_reducible exact Tk.here | apply Tk.there)); done))))); done))))
    · simp only [h1, decide_false]
      refine GO ?_
      by_cases h2 : (k : Int) ≤ xs[k]
      · simp only [show xs[k] ≥ (k : Int) from h2, decide_true]
        refine GO ?_
        refine endQ_mk (.inr rfl) (.tmp (by rfl) (.tmp (by rfl) .nil)) (.inr ⟨fun hh => by have := hh.2 k _ (List.getElem?_eq_getElem hlt); omega, rfl, rfl⟩) (by (first | with_reducible exact Imp.refl | with_reducible exact Imp.left | (focus ((try simp only [List.nil_append]); (repeat (first | exact Imp.nil | (apply Imp.cons; (focus ((repeat (first | with_reducible exact Tk.here | apply Tk.there)); done))))); done))))
      · simp only [show ¬ xs[k] ≥ (k : Int) from h2, decide_false]
        refine GO ?_
        refine ⟨k + 1, ⟨by omega, fun i s hi hs => ?_⟩, by omega, by (repeat (first | exact Sub.nil | (apply Sub.cons; rfl))), by (first | with_reducible exact Imp.refl | with_reducible exact Imp.left | (focus ((try simp only [List.nil_append]); (repeat (first | exact Imp.nil | (apply Imp.cons; (focus ((repeat (first | with_reducible exact Tk.here | apply Tk.there)); done))))); done)))⟩
        by_cases e : i = k
        · subst e
          rw [List.getElem?_eq_getElem hlt] at hs
          cases hs
          omega
        · exact hx i s (by omega) hs
  intro hge
  obtain rfl : k = xs.length := by simp at hge; omega
  have hok : NewOk xs := ⟨by omega, fun i s hs => hx i s (List.getElem?_eq_some_iff.1 hs).1 hs⟩
  refine GO ?_
  refine st_mkslice (li := xs.length) (ci := xs.length) (by rfl) (by rfl) (by omega) (by rfl) (fun db => ?_)
  simp only [Int.toNat_natCast]
  refine st_build (out := newCellsR (.slice (some ⟨db, 0, none⟩) xs.length xs.length)) (by rfl) (by rfl) ?_
  refine st_box (by rfl) (fun t => ?_)
  simp only [Value.cells, newCellsR_at]
  refine VO.imp Imp.app4 ?_
  refine GO ?_
  refine VO.imp (Imp.fresh (A := slA (.slice none 0 0) [] []) rfl) ?_
  refine st_append (k := 0) (m := xs.length) (xs := []) (sp := []) (ys := xs.map vi) (by rfl) (by rfl) .nil (by (focus ((repeat (first | with_reducible exact Tk.here | apply Tk.there)); done))) (by rfl) ?_ (by simp) (by simp [oneCell]) (by rfl) (by decide) (by omega) (fun sv' sp' hsl => ?_)
  · rcases h with ⟨h1, h2⟩ | ⟨b, o, c', h1, hA⟩
    · rw [hv] at h1
      simp only [Value.slice.injEq] at h1
      obtain ⟨rfl, -, -⟩ := h1
      subst h2
      simp [Src]
    · rw [hv] at h1
      simp only [Value.slice.injEq, true_and] at h1
      obtain ⟨rfl, rfl⟩ := h1
      exact ⟨by simp, fun x hx => by have := RdInts.src hA x hx; simp only [List.flatten_cons, List.mem_append]; simp only [this, true_or, or_true]⟩
  rw [Nat.zero_add, List.nil_append] at hsl
  rw [List.nil_append]
  obtain ⟨a1, c1, rfl⟩ := hsl.form
  refine GO ?_
  have hr := newTab_ok (db := db) hok hsl
  refine VO.imp (H' := RMem t (newTab xs (.slice a1 xs.length c1) sp' db) ++ [A]) (Imp.cut (M := [cellsAt t 0 [.slice a1 xs.length c1, .slice (some ⟨db, 0, none⟩) xs.length xs.length], cellsAt t 2 ((List.replicate 64 noKnown).flatMap kEnc), cellsAt t 194 [.slice none 0 0], cellsAt t 195 (telEnc {}), slA (.slice a1 xs.length c1) (xs.map vi) sp', cellsAt db 0 (zeroRow xs.length [.slice none 0 0]), A]) (by (first | with_reducible exact Imp.refl | with_reducible exact Imp.left | (focus ((try simp only [List.nil_append]); (repeat (first | exact Imp.nil | (apply Imp.cons; (focus ((repeat (first | with_reducible exact Tk.here | apply Tk.there)); done))))); done)))) (Imp.perm ?_)) ?_
  · have e1 : (List.replicate xs.length (⟨.slice none 0 0, [], []⟩ : DicV)).flatMap dicA = [] := by
      rw [List.flatMap_eq_nil_iff]
      intro d hd
      obtain rfl := (List.mem_replicate.1 hd).2
      rfl
    simp only [RMem, newTab, e1, zeroRow_one, slA_some, List.map_replicate, List.append_nil, List.map_nil, List.flatMap_nil, List.flatten_cons, List.flatten_nil, List.flatten_append, List.nil_append, List.append_assoc]
    simp [slA]
  refine st_call (rflush_spec t _ hr.glob) (by rfl) (R := [A]) (by simp [V.Spl]) (fun v Post hv => ?_)
  obtain ⟨rfl, rfl⟩ := hv
  refine GO ?_
  exact endQ_mk (.inr rfl) (.tmp (by rfl) (.tmp (by rfl) .nil)) (.inl ⟨hok, t, noAll (newTab xs (.slice a1 xs.length c1) sp' db), noAll_ok hr, newTab_dt _ _ _ _, rfl, rfl⟩) Imp.back1
end Go.Proofs.Ytffmipimgodfdaa
namespace Go.V
open Go
theorem sit_set2 {u w : Value} {sp : List Value} : ∀ {l : List SitV} {k : Nat} {x : SitV}, l[k]? = some x → (((l.flatMap sitEnc) ++ sp).set (k * 4 + 2) u).set (k * 4 + 3) w = ((l.set k { x with cv := u, mv := w }).flatMap sitEnc) ++ sp := by
  intro l
  induction l with
  | nil => intro k x h; cases h
  | cons q l ih =>
    intro k x h
    cases k with
    | zero => cases h; rfl
    | succ j =>
      have := ih (k := j) (x := x) (by simpa using h)
      have e2 : (j + 1) * 4 + 2 = (j * 4 + 2) + 4 := by omega
      have e3 : (j + 1) * 4 + 3 = (j * 4 + 3) + 4 := by omega
      rw [e2, e3]
      show ((_ :: _ :: _ :: _ :: ((l.flatMap sitEnc) ++ sp)).set ((j * 4 + 2) + 4) _).set ((j * 4 + 3) + 4) _ = _ :: _ :: _ :: _ :: (((l.set j _).flatMap sitEnc) ++ sp)
      rw [← this]
      rfl
theorem sitEnc_set {x y : SitV} (h : sitEnc x = sitEnc y) : ∀ {l : List SitV} {k : Nat}, (l.set k x).flatMap sitEnc = (l.set k y).flatMap sitEnc := by
  intro l
  induction l with
  | nil => intro k; rfl
  | cons q l ih =>
    intro k
    cases k with
    | zero => simp only [List.set_cons_zero, List.flatMap_cons, h]
    | succ j => simp only [List.set_cons_succ, List.flatMap_cons]; rw [ih]
theorem mset_uniq {α : Type} {l : List SitV} {f : SitV → α} {v : α} : ∀ {k : Nat} {x : SitV}, l[k]? = some x → (l.map (·.site)).Nodup → mset x.site v (l.map fun s => (s.site, f s)) = (l.map fun s => (s.site, f s)).set k (x.site, v) := by
  induction l with
  | nil => intro k x h; cases h
  | cons q l ih =>
    intro k x h hn
    simp only [List.map_cons, List.nodup_cons] at hn
    cases k with
    | zero => cases h; simp [mset]
    | succ j =>
      have hx : l[j]? = some x := by simpa using h
      have hne : q.site ≠ x.site := fun e => hn.1 (e ▸ List.mem_map_of_mem (List.mem_of_getElem? hx))
      simp only [List.map_cons, mset]
      rw [if_neg hne, ih hx hn.2]
      rfl
theorem ROk.setS {r : RTab} (h : ROk r) {k : Nat} {x y : SitV} (hx : r.sites[k]? = some x) (hs : y.site = x.site) (T : Tel) (G : List Known) (hG : G.length = 64)
    (hy : IsSl 1 y.cv y.cls.length (y.cls.map vi) y.csp ∧ IsSl 1 y.mv y.ms.length (y.ms.map vi) y.msp ∧ y.ms.length = y.cls.length ∧ y.cls.length ≤ 4) : ROk { r with tel := T, glob := G, sites := r.sites.set k y } := by
  have hl : (r.sites.set k y).length = r.sites.length := by simp
  refine { h with glob := hG, xs := ?_, st := fun z hz => ?_, sk := ?_ }
  · have hxs := h.xs
    have h1 : ((r.sites.set k y).flatMap sitEnc).length = (r.sites.flatMap sitEnc).length := by
      rw [flatMap_len (n := 4) (fun x _ => rfl), flatMap_len (n := 4) (fun x _ => rfl), hl]
    have h0 := (List.getElem?_eq_some_iff.1 hx).1
    show IsSl 4 r.xv (r.sites.set k y).length ((r.sites.set k y).flatMap sitEnc) r.xsp
    rw [hl]
    generalize (r.sites.set k y).flatMap sitEnc = ys at h1 ⊢
    generalize r.sites.flatMap sitEnc = xs at hxs h1
    generalize r.sites.length = n at hxs h0 ⊢
    generalize r.xv = xv at hxs ⊢
    generalize r.xsp = xsp at hxs ⊢
    cases hxs with
    | mk q1 q2 q3 => exact .mk (by omega) (by omega) q3
    | nil => omega
  · rcases List.mem_or_eq_of_mem_set hz with hz | rfl
    · exact h.st z hz
    · exact hy
  · have : (r.sites.set k y).map (·.site) = r.sites.map (·.site) := by
      apply List.ext_getElem?
      intro j
      simp only [List.getElem?_map, List.getElem?_set]
      split
      · rename_i e; subst e
        split
        · simp [hx, hs]
        · simp_all
      · rfl
    show ((r.sites.set k y).map (·.site)).Nodup ∧ ∀ z ∈ (r.sites.set k y).map (·.site), 0 ≤ z ∧ z < 65536
    rw [this]; exact h.sk
def siteV (x : SitV) : RSite := ⟨x.sel, x.cls, x.ms⟩
end Go.V
namespace Go.Proofs.Ytffmipimgodfdaa
open Go Go.V
set_option maxHeartbeats 6400000
set_option maxRecDepth 100000
set_option linter.unusedSimpArgs false
set_option linter.unusedVariables false
def rsRest2 : IC := match F38.body with | .seq _ (.seq _ (.seq _ (.seq _ (.seq _ (.seq _ (.seq _ (.seq _ (.seq _ r)))))))) => r | _ => .skip
def rsHead (r : IC) : IC := match F38.body with | .seq a (.seq b (.seq c (.seq d (.seq e (.seq f (.seq g (.seq i (.seq j _)))))))) => .seq a (.seq b (.seq c (.seq d (.seq e (.seq f (.seq g (.seq i (.seq j r)))))))) | _ => .skip
theorem rs_body : F38.body = rsHead rsRest2 := rfl
def SndP (t : Nat) (x : Option Int × DT) (v : Value) (Post : SH) : Prop := ∃ r', ROk r' ∧ r'.dt = x.2 ∧ v = .tuple #[vi (x.1.getD 0), .bool x.1.isSome, vi 0] ∧ Post = RMem t r'

theorem rsRest2_spec (t : Nat) (r : RTab) (h : ROk r) (c : Int) (hc : 0 ≤ c ∧ c < r.sup.length) (s : ByteArray) (hs : s.size ≤ 1048576) (N : Nat) (hN : N < 70368744177664) (hT : TelOk r.tel N) (k b o cx : Nat) (x : SitV) (hx : r.sites[k]? = some x) (hsel : x.sel = s) (hxv : r.xv = .slice (some ⟨b, o, none⟩) r.sites.length cx) :
    VC Try.prog F38.n rsRest2 [(0, ptr0 t), (2, vi c), (3, .string s), (13, .pointer (some ⟨b, o + k * 4, none⟩))] (RMem t r) (endQ F38.res (SndP t (sendS r.dt x.site c s (siteV x)))) := by
  have hxm := List.mem_of_getElem? hx
  obtain ⟨st1, st2, st3, st4⟩ := h.st x hxm
  obtain ⟨ca, cc, hcv⟩ := st1.form
  obtain ⟨ma, mc, hmv⟩ := st2.form
  obtain ⟨t1, t2, t3, t4, t5⟩ := hT
  have rx : RdRow 4 (slA r.xv (r.sites.flatMap sitEnc) r.xsp) r.xv r.sites.length (r.sites.flatMap sitEnc) := h.xs.rd
  obtain ⟨b', o', c', hve, hcell⟩ := rx.at_ (enc := sitEnc) (fun p => rfl) hx
  rw [hxv] at hve
  simp only [Value.slice.injEq, Option.some.injEq, Addr.mk.injEq, and_true, true_and] at hve
  obtain ⟨⟨rfl, rfl⟩, rfl⟩ := hve
  have m2 := hcell _ (mem_cellsAt.2 ⟨2, x.cv, rfl, rfl⟩)
  have m3 := hcell _ (mem_cellsAt.2 ⟨3, x.mv, rfl, rfl⟩)
  rw [hcv] at m2
  rw [hmv] at m3
  have hcr : RdRow 1 (r.sites.flatMap sitA) x.cv x.cls.length (x.cls.map vi) := st1.rd.mono (fun a ha => List.mem_flatMap.2 ⟨x, hxm, by simp only [sitA, List.mem_append]; exact .inl ha⟩)
  have hmr : RdRow 1 (r.sites.flatMap sitA) x.mv x.ms.length (x.ms.map vi) := st2.rd.mono (fun a ha => List.mem_flatMap.2 ⟨x, hxm, by simp only [sitA, List.mem_append]; exact .inr ha⟩)
  rw [hcv] at hcr
  rw [hmv] at hmr
  simp only [RMem, telEnc]
  refine GO ?_
  refine VC.loop (α := Nat) (Γf := fun i => [(0, ptr0 t), (2, vi c), (3, .string s), (13, .pointer (some ⟨b, o + k * 4, none⟩)), (14, vi i)]) (Hf := fun _ => RMem t r) (I := fun i => i ≤ x.cls.length ∧ ∀ j, j < i → x.cls[j]? ≠ some c) (μ := fun i => x.cls.length - i) 0 ⟨Nat.zero_le _, fun j h => by omega⟩ (by (repeat (first | exact Sub.nil | (apply Sub.cons; rfl)))) (by simp only [RMem, telEnc]; (first | with_reducible exact Imp.refl | with_reducible exact Imp.left | (focus ((try simp only [List.nil_append]); (repeat (first | exact Imp.nil | (apply Imp.cons; (focus ((repeat (first | with_reducible exact Tk.here | apply Tk.there)); done))))); done)))) ?_
  intro i ⟨hi, hno⟩
  simp only [RMem, telEnc]
  refine GO ?_
  (first | (apply VC.seq_cond; rfl) | (apply VC.cond; rfl))
  · intro hlt
    have hlt : i < x.cls.length := by simpa using hlt
    obtain ⟨b1, o1, c1, hv1, n1⟩ := hcr.cell (List.getElem?_eq_getElem hlt)
    simp only [Value.slice.injEq, true_and] at hv1
    obtain ⟨rfl, rfl⟩ := hv1
    refine GO ?_
    by_cases e : x.cls[i] = c
    · simp only [decide_eq_true e]
      have him : i < x.ms.length := by omega
      obtain ⟨b2, o2, c2, hv2, n2⟩ := hmr.cell (List.getElem?_eq_getElem him)
      simp only [Value.slice.injEq, true_and] at hv2
      obtain ⟨rfl, rfl⟩ := hv2
      refine GO ?_
      have hf : fnd x.cls x.cls.length c = some i := fnd_some hlt (Nat.le_refl _) (by rw [List.getElem?_eq_getElem hlt, e]) (fun j hj => hno j hj)
      have hsd : sendS r.dt x.site c s (siteV x) = (some ((x.ms[i]?).getD 0), { r.dt with tel := { r.dt.tel with inl := r.dt.tel.inl + 1 } }) := by
        unfold sendS
        simp only [siteV, hf]
      refine endQ_mk (.inr rfl) (.tmp (by rfl) (.tmp (by rfl) (.tmp (by rfl) .nil))) ⟨{ r with tel := { r.tel with inl := r.tel.inl + 1 } }, h.tg _ r.glob h.glob, by rw [hsd]; rfl, by rw [hsd, List.getElem?_eq_getElem him]; rfl, rfl⟩ (by simp only [RMem, telEnc, Int.natCast_add, Int.cast_ofNat_Int]; (first | with_reducible exact Imp.refl | with_reducible exact Imp.left | (focus ((try simp only [List.nil_append]); (repeat (first | exact Imp.nil | (apply Imp.cons; (focus ((repeat (first | with_reducible exact Tk.here | apply Tk.there)); done))))); done))))
    · simp only [decide_eq_false e]
      refine GO ?_
      refine ⟨i + 1, ⟨by omega, fun j hj => ?_⟩, by omega, by (repeat (first | exact Sub.nil | (apply Sub.cons; rfl))), by (try simp only [RMem, telEnc]); (first | with_reducible exact Imp.refl | with_reducible exact Imp.left | (focus ((try simp only [List.nil_append]); (repeat (first | exact Imp.nil | (apply Imp.cons; (focus ((repeat (first | with_reducible exact Tk.here | apply Tk.there)); done))))); done)))⟩
      by_cases hji : j < i
      · exact hno j hji
      · obtain rfl : j = i := by omega
        rw [List.getElem?_eq_getElem hlt]
        simpa using e
  · intro hge
    have hge : ¬ i < x.cls.length := by simpa using hge
    have hf : fnd x.cls x.cls.length c = none := fnd_none (fun j hj => hno j (by omega))
    refine GO ?_
    refine st_call (rglobal_spec t r h c hc s hs N (by omega) ⟨t1, t2, t3, t4, t5⟩) (by rfl) (by simp only [RMem, telEnc]; (focus ((repeat (first | exact Spl.nil | (apply Spl.cons; (focus ((repeat (first | with_reducible exact Tk.here | apply Tk.there)); done))))); done))) (fun v Post hv => ?_)
    obtain ⟨T, G, g1, g2, rfl, rfl⟩ := hv
    have hr1 := h.tg T G g1
    simp only [RMem, telEnc, okM, List.cons_append, List.nil_append]
    refine GO ?_
    cases hg : (glbD r.dt c s).1 with
    | none =>
      simp only [Option.getD_none, Option.isSome_none]
      refine GO ?_
      have hsd : sendS r.dt x.site c s (siteV x) = glbD r.dt c s := by unfold sendS; simp only [siteV, hf, hg]
      exact endQ_mk (.inr rfl) (.tmp (by rfl) (.tmp (by rfl) (.tmp (by rfl) .nil))) ⟨{ r with tel := T, glob := G }, hr1, by rw [hsd, g2]; rfl, by rw [hsd, hg]; rfl, rfl⟩ (by simp only [RMem, telEnc]; (first | with_reducible exact Imp.refl | with_reducible exact Imp.left | (focus ((try simp only [List.nil_append]); (repeat (first | exact Imp.nil | (apply Imp.cons; (focus ((repeat (first | with_reducible exact Tk.here | apply Tk.there)); done))))); done))))
    | some m =>
      simp only [Option.getD_some, Option.isSome_some]
      refine GO ?_
      by_cases h4 : x.cls.length < 4
      rotate_left
      · simp only [show ¬ (x.cls.length : Int) < 4 by omega, decide_false]
        refine GO ?_
        have hsd : sendS r.dt x.site c s (siteV x) = glbD r.dt c s := by unfold sendS; simp only [siteV, hf, hg]; exact if_neg h4
        exact endQ_mk (.inr rfl) (.tmp (by rfl) (.tmp (by rfl) (.tmp (by rfl) .nil))) ⟨{ r with tel := T, glob := G }, hr1, by rw [hsd, g2]; rfl, by rw [hsd, hg]; rfl, rfl⟩ (by simp only [RMem, telEnc]; (first | with_reducible exact Imp.refl | with_reducible exact Imp.left | (focus ((try simp only [List.nil_append]); (repeat (first | exact Imp.nil | (apply Imp.cons; (focus ((repeat (first | with_reducible exact Tk.here | apply Tk.there)); done))))); done))))
      simp only [show (x.cls.length : Int) < 4 by omega, decide_true]
      obtain ⟨xr, hx1, hx2⟩ := flat_take (f := sitA) hx
      have hkl := (List.getElem?_eq_some_iff.1 hx).1
      have hlen : k * 4 + 3 < (r.sites.flatMap sitEnc ++ r.xsp).length := by rw [List.length_append, flatMap_len (n := 4) (fun x _ => rfl)]; omega
      rw [hxv, slA_some] at m2 m3
      refine VC.imp (H' := [cellsAt t 0 [r.sv, r.dv], cellsAt t 2 (G.flatMap kEnc), cellsAt t 194 [r.xv], cellsAt t 195 [vi T.asked, vi T.inl, vi T.glob, vi T.walked, vi T.steps], slA r.sv (r.sup.map vi) r.ssp, slA r.dv (r.dds.map (·.v)) r.dsp, r.dds.flatMap dicA, cellsAt b o (r.sites.flatMap sitEnc ++ r.xsp), slA x.cv (x.cls.map vi) x.csp, slA x.mv (x.ms.map vi) x.msp, xr]) (Imp.perm ?_) ?_
      · simp only [hxv, slA_some, List.flatten_cons, List.flatten_nil, List.append_nil]
        repeat' refine List.Perm.append_left _ ?_
        exact hx1.trans (by simp only [sitA, List.append_assoc]; exact .refl _)
      rw [hcv] at st1 ⊢
      rw [hmv] at st2 ⊢
      refine GO ?_
      refine st_bslice (out := [vi c]) (by rfl) (by rfl) (fun q3 => ?_)
      refine GO ?_
      refine st_append (k := x.cls.length) (m := 1) (xs := x.cls.map vi) (sp := x.csp) (ys := [vi c]) (by rfl) (by rfl) st1 (by (focus ((repeat (first | with_reducible exact Tk.here | apply Tk.there)); done))) (by rfl) ?_ rfl (by rfl) (by rfl) (by decide) (by omega) (fun sv1 sp1 hs1 => ?_)
      · exact ⟨rfl, fun a ha => by simp only [List.flatten_cons, List.mem_append]; exact .inl ha⟩
      obtain ⟨a1, c1, rfl⟩ := hs1.form
      refine GO ?_
      refine VO.pull (A := cellsAt b o (r.sites.flatMap sitEnc ++ r.xsp)) (by (focus ((repeat (first | with_reducible exact Tk.here | apply Tk.there)); done))) ?_
      refine st_store' (us := [.slice a1 (x.cls.length + 1) c1]) (by rfl) (by rfl) (by rfl) (by rfl) (by rfl) (Upd.set1 (i := k * 4 + 2) (by omega) (by omega)) ?_
      have m3' : Atom.cell b (o + (k * 4 + 3)) (.slice ma x.ms.length mc) ∈ cellsAt b o ((r.sites.flatMap sitEnc ++ r.xsp).set (k * 4 + 2) (.slice a1 (x.cls.length + 1) c1)) := by
        obtain ⟨j, v, hj, he⟩ := mem_cellsAt.1 m3
        simp only [Atom.cell.injEq, true_and] at he
        obtain ⟨he1, rfl⟩ := he
        have hj3 : j = k * 4 + 3 := by omega
        subst hj3
        exact mem_cellsAt.2 ⟨k * 4 + 3, _, by rw [List.getElem?_set_ne (by omega)]; exact hj, rfl⟩
      refine GO ?_
      refine st_bslice (out := [vi m]) (by rfl) (by rfl) (fun q4 => ?_)
      refine GO ?_
      refine st_append (k := x.ms.length) (m := 1) (xs := x.ms.map vi) (sp := x.msp) (ys := [vi m]) (by rfl) (by rfl) st2 (by (focus ((repeat (first | with_reducible exact Tk.here | apply Tk.there)); done))) (by rfl) ?_ rfl (by rfl) (by rfl) (by decide) (by omega) (fun sv2 sp2 hs2 => ?_)
      · exact ⟨rfl, fun a ha => by simp only [List.flatten_cons, List.mem_append]; exact .inl ha⟩
      obtain ⟨a2, c2, rfl⟩ := hs2.form
      refine GO ?_
      refine VO.pull (A := cellsAt b o ((r.sites.flatMap sitEnc ++ r.xsp).set (k * 4 + 2) (.slice a1 (x.cls.length + 1) c1))) (by (focus ((repeat (first | with_reducible exact Tk.here | apply Tk.there)); done))) ?_
      refine st_store' (us := [.slice a2 (x.ms.length + 1) c2]) (by rfl) (by rfl) (by rfl) (by rfl) (by rfl) (Upd.set1 (i := k * 4 + 3) (by omega) (by rw [List.length_set]; omega)) ?_
      rw [sit_set2 hx]
      refine GO ?_
      have hok := ROk.setS h hx (y := { x with cv := .slice a1 (x.cls.length + 1) c1, cls := x.cls ++ [c], csp := sp1, mv := .slice a2 (x.ms.length + 1) c2, ms := x.ms ++ [m], msp := sp2 }) rfl T G g1 ⟨by simpa using hs1, by simpa using hs2, by simp [st3], by simp; omega⟩
      have hsd : sendS r.dt x.site c s (siteV x) = (some m, { (glbD r.dt c s).2 with sites := mset x.site ⟨x.sel, x.cls ++ [c], x.ms ++ [m]⟩ (glbD r.dt c s).2.sites }) := by
        unfold sendS
        simp only [siteV, hf, hg]
        exact if_pos h4
      have hms : mset x.site (⟨x.sel, x.cls ++ [c], x.ms ++ [m]⟩ : RSite) r.dt.sites = r.dt.sites.set k (x.site, ⟨x.sel, x.cls ++ [c], x.ms ++ [m]⟩) := mset_uniq (f := fun s => (⟨s.sel, s.cls, s.ms⟩ : RSite)) hx h.sk.1
      refine endQ_mk (.inr rfl) (.tmp (by rfl) (.tmp (by rfl) (.tmp (by rfl) .nil))) ⟨_, hok, ?_, by rw [hsd]; rfl, rfl⟩ ?_
      · rw [hsd, g2]
        simp only [hms]
        simp only [RTab.dt, List.map_set]
      · rw [sitEnc_set (x := { x with cv := .slice a1 (x.cls.length + 1) c1, mv := .slice a2 (x.ms.length + 1) c2 }) (y := { x with cv := .slice a1 (x.cls.length + 1) c1, cls := x.cls ++ [c], csp := sp1, mv := .slice a2 (x.ms.length + 1) c2, ms := x.ms ++ [m], msp := sp2 }) rfl]
        refine Imp.cut (M := [cellsAt t 0 [r.sv, r.dv], cellsAt t 2 (G.flatMap kEnc), cellsAt t 194 [r.xv], cellsAt t 195 [vi T.asked, vi T.inl, vi T.glob, vi T.walked, vi T.steps], slA r.sv (r.sup.map vi) r.ssp, slA r.dv (r.dds.map (·.v)) r.dsp, r.dds.flatMap dicA, cellsAt b o ((r.sites.set k { x with cv := .slice a1 (x.cls.length + 1) c1, cls := x.cls ++ [c], csp := sp1, mv := .slice a2 (x.ms.length + 1) c2, ms := x.ms ++ [m], msp := sp2 }).flatMap sitEnc ++ r.xsp), slA (.slice a1 (x.cls.length + 1) c1) (x.cls.map vi ++ [vi c]) sp1, slA (.slice a2 (x.ms.length + 1) c2) (x.ms.map vi ++ [vi m]) sp2, xr]) (by (first | with_reducible exact Imp.refl | with_reducible exact Imp.left | (focus ((try simp only [List.nil_append]); (repeat (first | exact Imp.nil | (apply Imp.cons; (focus ((repeat (first | with_reducible exact Tk.here | apply Tk.there)); done))))); done)))) (Imp.perm ?_)
        simp only [RMem, telEnc, hxv, slA_some, List.flatten_cons, List.flatten_nil, List.append_nil]
        repeat' refine List.Perm.append_left _ ?_
        refine List.Perm.trans ?_ (hx2 _).symm
        simp only [sitA, List.map_append, List.map_cons, List.map_nil, List.append_assoc]
        exact .refl _
end Go.Proofs.Ytffmipimgodfdaa

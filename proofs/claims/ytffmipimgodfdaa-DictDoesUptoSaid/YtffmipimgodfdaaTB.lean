/-
  The document's table: a send, from its head.
-/
import Derived.Test.YtffmipimgodfdaaRZ
set_option linter.unusedSimpArgs false
set_option linter.unusedVariables false
namespace Go.V
open Go
theorem mset_app {κ α : Type} [DecidableEq κ] {k : κ} {v : α} : ∀ {l : List (κ × α)}, mget k l = none → mset k v l = l ++ [(k, v)]
  | [], _ => rfl
  | q :: l, h => by
    simp only [mget] at h
    split at h
    · cases h
    · rename_i hne
      simp only [mset, if_neg hne, List.cons_append, mset_app h]
theorem sites_mget {l : List SitV} {k : Nat} {x : SitV} (hx : l[k]? = some x) (hn : (l.map (·.site)).Nodup) : mget x.site (l.map fun s => (s.site, (⟨s.sel, s.cls, s.ms⟩ : RSite))) = some ⟨x.sel, x.cls, x.ms⟩ := by
  induction l generalizing k with
  | nil => cases hx
  | cons q l ih =>
    simp only [List.map_cons, List.nodup_cons] at hn
    cases k with
    | zero => cases hx; simp [mget]
    | succ j =>
      have hx' : l[j]? = some x := by simpa using hx
      have hne : q.site ≠ x.site := fun e => hn.1 (e ▸ List.mem_map_of_mem (List.mem_of_getElem? hx'))
      simp only [List.map_cons, mget]
      rw [if_neg hne, ih hx' hn.2]
theorem sites_none {l : List SitV} {a : Int} (h : ∀ x ∈ l, x.site ≠ a) : mget a (l.map fun s => (s.site, (⟨s.sel, s.cls, s.ms⟩ : RSite))) = none := by
  induction l with
  | nil => rfl
  | cons q l ih =>
    simp only [List.map_cons, mget]
    rw [if_neg (h q (by simp)), ih (fun x hx => h x (by simp [hx]))]
/-- A fresh site. -/
def freshS (a : Int) (s : ByteArray) : SitV := ⟨a, s, .slice none 0 0, [], [], .slice none 0 0, [], []⟩
theorem ROk.app {r : RTab} (h : ROk r) {a : Int} {s : ByteArray} (ha : 0 ≤ a ∧ a < 65536) (hno : ∀ x ∈ r.sites, x.site ≠ a) {xv : Value} {xsp : List Value}
    (hx : IsSl 4 xv (r.sites.length + 1) (r.sites.flatMap sitEnc ++ sitEnc (freshS a s)) xsp) : ROk { r with xv := xv, sites := r.sites ++ [freshS a s], xsp := xsp } := by
  refine { h with xs := ?_, st := fun z hz => ?_, sk := ⟨?_, ?_⟩ }
  · simpa using hx
  · rcases List.mem_append.1 hz with hz | hz
    · exact h.st z hz
    · obtain rfl := List.mem_singleton.1 hz
      exact ⟨.nil, .nil, rfl, Nat.zero_le _⟩
  · simp only [List.map_append, List.map_cons, List.map_nil]
    rw [List.nodup_append]
    refine ⟨h.sk.1, by simp, fun b hb c hc => ?_⟩
    obtain rfl := List.mem_singleton.1 hc
    obtain ⟨x, hx, rfl⟩ := List.mem_map.1 hb
    exact hno x hx
  · intro z hz
    simp only [List.map_append, List.map_cons, List.map_nil, List.mem_append, List.mem_singleton] at hz
    rcases hz with hz | rfl
    · exact h.sk.2 z hz
    · exact ha
/-- The site is there: which, and what has been done. -/
structure SitJ (r : RTab) (a : Int) (s : ByteArray) (r1 : RTab) (k : Nat) (x : SitV) : Prop where
  ok : ROk r1
  sup : r1.sup = r.sup
  tel : r1.tel = r.tel
  at_ : r1.sites[k]? = some x
  site : x.site = a
  is : siteD r1.dt a s = siteD r.dt a s
theorem SitJ.found {r : RTab} {a : Int} {s : ByteArray} {k : Nat} {x : SitV} (h : ROk r) (hx : r.sites[k]? = some x) (ha : x.site = a) : SitJ r a s r k x := ⟨h, rfl, rfl, hx, ha, rfl⟩
theorem SitJ.same {r : RTab} {a : Int} {s : ByteArray} {r1 : RTab} {k : Nat} {x : SitV} (h : SitJ r a s r1 k x) (e : x.sel = s) : siteD r.dt a s = (siteV x, r1.dt) := by
  rw [← h.is]
  have := sites_mget h.at_ h.ok.sk.1
  rw [h.site] at this
  unfold siteD
  simp only [RTab.dt] at this ⊢
  rw [this]
  exact if_pos e
theorem SitJ.app {r : RTab} (h : ROk r) {a : Int} {s : ByteArray} (ha : 0 ≤ a ∧ a < 65536) (hno : ∀ x ∈ r.sites, x.site ≠ a) {xv : Value} {xsp : List Value}
    (hx : IsSl 4 xv (r.sites.length + 1) (r.sites.flatMap sitEnc ++ sitEnc (freshS a s)) xsp) : SitJ r a s { r with xv := xv, sites := r.sites ++ [freshS a s], xsp := xsp } r.sites.length (freshS a s) := by
  have hok := h.app ha hno hx
  refine ⟨hok, rfl, rfl, by simp, rfl, ?_⟩
  have h1 := sites_mget (l := r.sites ++ [freshS a s]) (k := r.sites.length) (x := freshS a s) (by simp) hok.sk.1
  have h2 := sites_none hno
  unfold siteD
  simp only [RTab.dt] at h1 h2 ⊢
  rw [h2]
  rw [show (freshS a s).site = a from rfl] at h1
  rw [h1]
  simp only [freshS, if_true, newSite, mset_app h2, List.map_append, List.map_cons, List.map_nil]
theorem SitJ.fresh {r : RTab} {a : Int} {s : ByteArray} {r1 : RTab} {k : Nat} {x : SitV} (h : SitJ r a s r1 k x) (e : x.sel ≠ s) :
    siteD r.dt a s = (siteV (freshS a s), ({ r1 with sites := r1.sites.set k (freshS a s) } : RTab).dt) ∧ ROk { r1 with sites := r1.sites.set k (freshS a s) } ∧ (r1.sites.set k (freshS a s))[k]? = some (freshS a s) := by
  have hl := (List.getElem?_eq_some_iff.1 h.at_).1
  refine ⟨?_, ROk.setS h.ok h.at_ (y := freshS a s) h.site.symm r1.tel r1.glob h.ok.glob ⟨.nil, .nil, rfl, Nat.zero_le _⟩, by simp [hl]⟩
  rw [← h.is]
  have h1 := sites_mget h.at_ h.ok.sk.1
  have h2 := mset_uniq (f := fun s => (⟨s.sel, s.cls, s.ms⟩ : RSite)) (v := newSite s) h.at_ h.ok.sk.1
  rw [h.site] at h1 h2
  unfold siteD
  simp only [RTab.dt] at h1 h2 ⊢
  rw [h1]
  simp only
  rw [if_neg e, h2]
  simp only [List.map_set, siteV, freshS, newSite]
theorem VC.joinT {P : Program} {n : Nat} {x y : IC} {Γ : Env} {H : SH} {Q : Exit → Env → SH → Prop} {α : Type} (Γf : α → Env) (Hf : α → SH) (I : α → Prop) (h1 : VC P n x Γ H (thenQ (fun Γ' H' => ∃ s, I s ∧ Sub Γ' (Γf s) ∧ Imp H' (Hf s)) Q))
    (h2 : ∀ s, I s → VC P n y (Γf s) (Hf s) Q) : VC P n x Γ H (thenQ (fun Γ' H' => VC P n y Γ' H' Q) Q) := by
  refine h1.mono ?_
  intro e Γ' H' q
  cases e <;> first
    | exact q
    | (obtain ⟨s, g1, g2, g3⟩ := q; exact (VC.imp g3 (VC.sub g2 (h2 s g1))))
end Go.V
namespace Go.Proofs.Ytffmipimgodfdaa
open Go Go.V
set_option maxHeartbeats 6400000
set_option maxRecDepth 100000
set_option linter.unusedSimpArgs false
set_option linter.unusedVariables false
def SndAll (t : Nat) (r : RTab) (a c : Int) (s : ByteArray) (v : Value) (Post : SH) : Prop :=
  if 0 ≤ a ∧ a < 65536 then
    if 0 ≤ c ∧ c < r.sup.length then SndP t (sendS (siteD r.dt.ask1 a s).2 a c s (siteD r.dt.ask1 a s).1) v Post
    else v = .tuple #[vi 0, .bool false, vi 220] ∧ Post = RMem t r
  else v = .tuple #[vi 0, .bool false, vi 224] ∧ Post = RMem t r
theorem rsend_spec (t : Nat) (r : RTab) (h : ROk r) (a c : Int) (s : ByteArray) (hs : s.size ≤ 1048576) (N : Nat) (hN : N + 1 < 70368744177664) (hT : TelOk r.tel N) :
    Fun Try.prog 38 [ptr0 t, vi a, vi c, .string s] (RMem t r) (SndAll t r a c s) := by
  refine Fun.intro low38 (by simp [F38]) ?_
  rw [rs_body]
  have rest0 := fun r h => rsRest2_spec t r h c
  generalize rsRest2 = q at rest0 ⊢
  obtain ⟨t1, t2, t3, t4, t5⟩ := hT
  simp only [RMem, telEnc]
  refine GO ?_
  by_cases hat : 0 ≤ a ∧ a < 65536
  rotate_left
  · by_cases e1 : a < 0
    · simp only [decide_eq_true e1]
      refine GO ?_
      exact endQ_mk (.inr rfl) (.tmp (by rfl) (.tmp (by rfl) (.tmp (by rfl) .nil))) (show SndAll t r a c s _ (RMem t r) by unfold SndAll; rw [if_neg hat]; exact ⟨rfl, rfl⟩) (by simp only [RMem, telEnc]; (first | with_reducible exact Imp.refl | with_reducible exact Imp.left | (focus ((try simp only [List.nil_append]); (repeat (first | exact Imp.nil | (apply Imp.cons; (focus ((repeat (first | with_reducible exact Tk.here | apply Tk.there)); done))))); done))))
    · have e2 : a ≥ 65536 := by omega
      simp only [decide_eq_false e1]
      refine GO ?_
      simp only [decide_eq_true e2]
      refine GO ?_
      exact endQ_mk (.inr rfl) (.tmp (by rfl) (.tmp (by rfl) (.tmp (by rfl) .nil))) (show SndAll t r a c s _ (RMem t r) by unfold SndAll; rw [if_neg hat]; exact ⟨rfl, rfl⟩) (by simp only [RMem, telEnc]; (first | with_reducible exact Imp.refl | with_reducible exact Imp.left | (focus ((try simp only [List.nil_append]); (repeat (first | exact Imp.nil | (apply Imp.cons; (focus ((repeat (first | with_reducible exact Tk.here | apply Tk.there)); done))))); done))))
  simp only [show ¬ a < 0 by omega, decide_false]
  refine GO ?_
  simp only [show ¬ a ≥ 65536 by omega, decide_false]
  refine GO ?_
  refine st_call (ris_spec t r h c) (by rfl) (by simp only [RMem, telEnc]; (focus ((repeat (first | exact Spl.nil | (apply Spl.cons; (focus ((repeat (first | with_reducible exact Tk.here | apply Tk.there)); done))))); done))) (fun v Post hv => ?_)
  obtain ⟨rfl, rfl⟩ := hv
  simp only [RMem, telEnc, List.cons_append, List.nil_append]
  by_cases hc : 0 ≤ c ∧ c < r.sup.length
  rotate_left
  · simp only [decide_eq_false hc]
    refine GO ?_
    exact endQ_mk (.inr rfl) (.tmp (by rfl) (.tmp (by rfl) (.tmp (by rfl) .nil))) (show SndAll t r a c s _ (RMem t r) by unfold SndAll; rw [if_pos hat, if_neg hc]; exact ⟨rfl, rfl⟩) (by simp only [RMem, telEnc]; (first | with_reducible exact Imp.refl | with_reducible exact Imp.left | (focus ((try simp only [List.nil_append]); (repeat (first | exact Imp.nil | (apply Imp.cons; (focus ((repeat (first | with_reducible exact Tk.here | apply Tk.there)); done))))); done))))
  simp only [decide_eq_true hc]
  refine GO ?_
  have h1 : ROk { r with tel := { r.tel with asked := r.tel.asked + 1 } } := h.tg _ r.glob h.glob
  have hT1 : TelOk ({ r with tel := { r.tel with asked := r.tel.asked + 1 } } : RTab).tel (N + 1) := ⟨by simp only; omega, by simp only; omega, by simp only; omega, by simp only; omega, by simp only; omega⟩
  have hD1 : r.dt.ask1 = ({ r with tel := { r.tel with asked := r.tel.asked + 1 } } : RTab).dt := rfl
  have hgoal : SndAll t r a c s = SndP t (sendS (siteD r.dt.ask1 a s).2 a c s (siteD r.dt.ask1 a s).1) := by funext v Post; unfold SndAll; rw [if_pos hat, if_pos hc]
  rw [hgoal, hD1]
  have hc1 : 0 ≤ c ∧ c < ({ r with tel := { r.tel with asked := r.tel.asked + 1 } } : RTab).sup.length := hc
  have hmem : Imp [cellsAt t 0 [r.sv, r.dv], cellsAt t 2 (r.glob.flatMap kEnc), cellsAt t 194 [r.xv], cellsAt t 195 [vi (r.tel.asked + 1), vi r.tel.inl, vi r.tel.glob, vi r.tel.walked, vi r.tel.steps], slA r.sv (r.sup.map vi) r.ssp, slA r.dv (r.dds.map (·.v)) r.dsp, r.dds.flatMap dicA, slA r.xv (r.sites.flatMap sitEnc) r.xsp, r.sites.flatMap sitA] (RMem t { r with tel := { r.tel with asked := r.tel.asked + 1 } }) := by simp only [RMem, telEnc, Int.natCast_add, Int.cast_ofNat_Int]; (first | with_reducible exact Imp.refl | with_reducible exact Imp.left | (focus ((try simp only [List.nil_append]); (repeat (first | exact Imp.nil | (apply Imp.cons; (focus ((repeat (first | with_reducible exact Tk.here | apply Tk.there)); done))))); done)))
  refine VC.imp (Imp.cut (by (first | with_reducible exact Imp.refl | with_reducible exact Imp.left | (focus ((try simp only [List.nil_append]); (repeat (first | exact Imp.nil | (apply Imp.cons; (focus ((repeat (first | with_reducible exact Tk.here | apply Tk.there)); done))))); done)))) hmem) ?_
  clear hmem hgoal hD1
  generalize ({ r with tel := { r.tel with asked := r.tel.asked + 1 } } : RTab) = r0 at *
  obtain ⟨xa, xc, hxv⟩ := h1.xs.form
  have hrd := h1.xs.rd
  have hsn := h1.sn
  rw [hxv] at hrd
  refine VC.loop (α := Nat × Int) (Γf := fun y => [(0, ptr0 t), (1, vi a), (2, vi c), (3, .string s), (11, vi y.2), (12, vi y.1)]) (Hf := fun _ => RMem t r0)
    (I := fun y => y.1 ≤ r0.sites.length ∧ ((y.2 = -1 ∧ ∀ j x, j < y.1 → r0.sites[j]? = some x → x.site ≠ a) ∨ ∃ (k : Nat) (x : SitV), y.2 = k ∧ k < y.1 ∧ r0.sites[k]? = some x ∧ x.site = a)) (μ := fun y => r0.sites.length - y.1) (0, -1) ⟨Nat.zero_le _, .inl ⟨rfl, fun j x hj => by omega⟩⟩ (by (repeat (first | exact Sub.nil | (apply Sub.cons; rfl)))) (Imp.refl _) ?_
  rintro ⟨i, kk⟩ ⟨hi, hk⟩
  simp only at hi hk
  simp only [RMem, hxv]
  generalize hL : slA (.slice xa r0.sites.length xc) (r0.sites.flatMap sitEnc) r0.xsp = L at hrd ⊢
  refine GO ?_
  (first | (apply VC.seq_cond; rfl) | (apply VC.cond; rfl))
  · intro hlt
    have hlt : i < r0.sites.length := by simpa using hlt
    obtain ⟨x, hx⟩ : ∃ x, r0.sites[i]? = some x := ⟨r0.sites[i], List.getElem?_eq_getElem hlt⟩
    obtain ⟨b, o, c3, hve, hcell⟩ := hrd.at_ (enc := sitEnc) (fun p => rfl) hx
    simp only [Value.slice.injEq, true_and] at hve
    obtain ⟨rfl, rfl⟩ := hve
    have m1 : Atom.cell b (o + i * 4) (vi x.site) ∈ L := hcell _ (mem_cellsAt.2 ⟨0, _, rfl, rfl⟩)
    refine GO ?_
    by_cases e : x.site = a
    · simp only [decide_eq_true e]
      refine GO ?_
      exact ⟨(i + 1, i), ⟨by show i + 1 ≤ r0.sites.length; omega, .inr ⟨i, x, rfl, by show i < i + 1; omega, hx, e⟩⟩, by show r0.sites.length - (i + 1) < r0.sites.length - i; omega, by (repeat (first | exact Sub.nil | (apply Sub.cons; rfl))), by subst hL; (try simp only [RMem, hxv]); (first | with_reducible exact Imp.refl | with_reducible exact Imp.left | (focus ((try simp only [List.nil_append]); (repeat (first | exact Imp.nil | (apply Imp.cons; (focus ((repeat (first | with_reducible exact Tk.here | apply Tk.there)); done))))); done)))⟩
    · simp only [decide_eq_false e]
      refine GO ?_
      refine ⟨(i + 1, kk), ⟨by show i + 1 ≤ r0.sites.length; omega, ?_⟩, by show r0.sites.length - (i + 1) < r0.sites.length - i; omega, by (repeat (first | exact Sub.nil | (apply Sub.cons; rfl))), by subst hL; (try simp only [RMem, hxv]); (first | with_reducible exact Imp.refl | with_reducible exact Imp.left | (focus ((try simp only [List.nil_append]); (repeat (first | exact Imp.nil | (apply Imp.cons; (focus ((repeat (first | with_reducible exact Tk.here | apply Tk.there)); done))))); done)))⟩
      rcases hk with ⟨h1, h2⟩ | ⟨k, y, h1, h2, h3, h4⟩
      · left
        refine ⟨h1, fun j y hj hy => ?_⟩
        by_cases hji : j = i
        · subst hji; rw [hx] at hy; cases hy; exact e
        · exact h2 j y (by have : j < i + 1 := hj; omega) hy
      · right; exact ⟨k, y, h1, by show k < i + 1; omega, h3, h4⟩
  intro hge
  have hge : ¬ i < r0.sites.length := by simpa using hge
  refine GO ?_
  refine VC.joinT (α := RTab × Nat × SitV) (fun y => [(0, ptr0 t), (1, vi a), (2, vi c), (3, .string s), (11, vi y.2.1)]) (fun y => RMem t y.1) (fun y => SitJ r0 a s y.1 y.2.1 y.2.2) ?_ ?_
  · rcases hk with ⟨rfl, hno⟩ | ⟨k, x, rfl, hk1, hk2, hk3⟩
    · subst hL
      have hsl := h1.xs
      rw [hxv] at hsl
      refine GO ?_
      refine st_bslice (out := sitEnc (freshS a s)) (by rfl) (by rfl) (fun q3 => ?_)
      refine GO ?_
      refine st_append (k := r0.sites.length) (m := 1) (xs := r0.sites.flatMap sitEnc) (sp := r0.xsp) (ys := sitEnc (freshS a s)) (by rfl) (by rfl) hsl (by (focus ((repeat (first | with_reducible exact Tk.here | apply Tk.there)); done))) (by rfl) ?_ rfl (by rfl) (by rfl) (by decide) (by omega) (fun sv' sp' hsl' => ?_)
      · exact ⟨rfl, fun a ha => by simp only [List.flatten_cons, List.mem_append]; exact .inl ha⟩
      obtain ⟨a1, c1, rfl⟩ := hsl'.form
      refine GO ?_
      have hno' : ∀ x ∈ r0.sites, x.site ≠ a := fun x hx => by
        obtain ⟨j, hj⟩ := List.mem_iff_getElem?.1 hx
        exact hno j x (by have := (List.getElem?_eq_some_iff.1 hj).1; omega) hj
      refine ⟨({ r0 with xv := .slice a1 (r0.sites.length + 1) c1, sites := r0.sites ++ [freshS a s], xsp := sp' }, r0.sites.length, freshS a s), .app h1 hat hno' hsl', by (repeat (first | exact Sub.nil | (apply Sub.cons; rfl))), ?_⟩
      have e1 : (r0.sites ++ [freshS a s]).flatMap sitEnc = r0.sites.flatMap sitEnc ++ sitEnc (freshS a s) := by simp
      have e2 : (r0.sites ++ [freshS a s]).flatMap sitA = r0.sites.flatMap sitA := by simp [sitA, freshS, slA]
      simp only [RMem, e1, e2]
      (first | with_reducible exact Imp.refl | with_reducible exact Imp.left | (focus ((try simp only [List.nil_append]); (repeat (first | exact Imp.nil | (apply Imp.cons; (focus ((repeat (first | with_reducible exact Tk.here | apply Tk.there)); done))))); done)))
    · refine GO ?_
      simp only [show ¬ ((k : Nat) : Int) < 0 by omega, decide_false]
      refine GO ?_
      exact ⟨(r0, k, x), .found h1 hk2 hk3, by (repeat (first | exact Sub.nil | (apply Sub.cons; rfl))), by subst hL; simp only [RMem, hxv]; (first | with_reducible exact Imp.refl | with_reducible exact Imp.left | (focus ((try simp only [List.nil_append]); (repeat (first | exact Imp.nil | (apply Imp.cons; (focus ((repeat (first | with_reducible exact Tk.here | apply Tk.there)); done))))); done)))⟩
  rintro ⟨r1, k, x⟩ hJ
  simp only at hJ
  have hkl := (List.getElem?_eq_some_iff.1 hJ.at_).1
  have hsn1 := hJ.ok.sn
  obtain ⟨b, o, c3, hve, hcell⟩ := hJ.ok.xs.rd.at_ (enc := sitEnc) (fun p => rfl) hJ.at_
  have m1 : Atom.cell b (o + k * 4 + 1) (.string x.sel) ∈ cellsAt b o (r1.sites.flatMap sitEnc ++ r1.xsp) := by
    have := hcell _ (mem_cellsAt.2 ⟨1, _, rfl, rfl⟩)
    rw [hve] at this; exact this
  have hlen4 : (r1.sites.flatMap sitEnc).length = r1.sites.length * 4 := flatMap_len (n := 4) (fun x _ => rfl)
  simp only [RMem, hve, slA_some]
  refine GO ?_
  refine VC.joinT (α := RTab × SitV) (fun y => [(0, ptr0 t), (2, vi c), (3, .string s), (13, .pointer (some ⟨b, o + k * 4, none⟩))]) (fun y => RMem t y.1)
    (fun y => ROk y.1 ∧ y.1.sup = r0.sup ∧ y.1.tel = r0.tel ∧ y.1.sites[k]? = some y.2 ∧ y.2.sel = s ∧ y.2.site = a ∧ siteD r0.dt a s = (siteV y.2, y.1.dt) ∧ y.1.xv = .slice (some ⟨b, o, none⟩) y.1.sites.length c3) ?_ ?_
  · by_cases e : x.sel = s
    · simp only [decide_eq_true e, Bool.not_true]
      refine GO ?_
      exact ⟨(r1, x), ⟨hJ.ok, hJ.sup, hJ.tel, hJ.at_, e, hJ.site, hJ.same e, hve⟩, by (repeat (first | exact Sub.nil | (apply Sub.cons; rfl))), by simp only [RMem, hve, slA_some]; (first | with_reducible exact Imp.refl | with_reducible exact Imp.left | (focus ((try simp only [List.nil_append]); (repeat (first | exact Imp.nil | (apply Imp.cons; (focus ((repeat (first | with_reducible exact Tk.here | apply Tk.there)); done))))); done)))⟩
    · simp only [decide_eq_false e, Bool.not_false]
      obtain ⟨g1, g2, g3⟩ := hJ.fresh e
      refine VC.split (A := cellsAt b o (r1.sites.flatMap sitEnc ++ r1.xsp)) (B := cellsAt b o (r1.sites.flatMap sitEnc)) (by (focus ((repeat (first | with_reducible exact Tk.here | apply Tk.there)); done))) (by rw [cellsAt_append]) ?_
      refine GO ?_
      refine st_store' (us := sitEnc (freshS a s)) (by rfl) (by rfl) (by rfl) (by rfl) (by rfl) (Upd.flat (f := sitEnc) (l := r1.sites) (i := k) (y := freshS a s) (n := 4) (fun x _ => rfl) rfl hkl) ?_
      refine GO ?_
      refine ⟨({ r1 with sites := r1.sites.set k (freshS a s) }, freshS a s), ⟨g2, hJ.sup, hJ.tel, g3, rfl, rfl, g1, by rw [hve]; simp⟩, by (repeat (first | exact Sub.nil | (apply Sub.cons; rfl))), ?_⟩
      obtain ⟨xr, hx1, hx2⟩ := flat_take (f := sitA) hJ.at_
      have hl' : ((r1.sites.set k (freshS a s)).flatMap sitEnc).length = (r1.sites.flatMap sitEnc).length := by
        rw [flatMap_len (n := 4) (fun x _ => rfl), flatMap_len (n := 4) (fun x _ => rfl), List.length_set]
      have h2 := hx2 (freshS a s)
      refine Imp.cut (M := [cellsAt t 0 [r1.sv, r1.dv], cellsAt t 2 (r1.glob.flatMap kEnc), cellsAt t 194 [.slice (some ⟨b, o, none⟩) r1.sites.length c3], cellsAt t 195 (telEnc r1.tel), slA r1.sv (r1.sup.map vi) r1.ssp, slA r1.dv (r1.dds.map (·.v)) r1.dsp, r1.dds.flatMap dicA, cellsAt b o ((r1.sites.set k (freshS a s)).flatMap sitEnc), cellsAt b (o + (r1.sites.flatMap sitEnc).length) r1.xsp, r1.sites.flatMap sitA]) (by (first | with_reducible exact Imp.refl | with_reducible exact Imp.left | (focus ((try simp only [List.nil_append]); (repeat (first | exact Imp.nil | (apply Imp.cons; (focus ((repeat (first | with_reducible exact Tk.here | apply Tk.there)); done))))); done)))) ?_
      refine ⟨[sitA x], ?_⟩
      simp only [V.Spl, RMem, hve, slA_some, cellsAt_append, hl', List.flatten_cons, List.flatten_nil, List.append_nil, List.append_assoc]
      repeat' refine List.Perm.append_left _ ?_
      refine hx1.trans (List.perm_append_comm.trans (List.Perm.append_right _ ?_))
      exact (h2.trans (by rw [show sitA (freshS a s) = [] from rfl]; exact .refl _)).symm
  rintro ⟨r2, y⟩ ⟨g1, g2, g3, g4, g5, g6, g7, g8⟩
  simp only at g1 g2 g3 g4 g5 g6 g7 g8
  have := rest0 r2 g1 (by rw [g2]; exact hc1) s hs (N + 1) (by omega) (by rw [g3]; exact hT1) k b o c3 y g4 g5 g8
  rw [g6] at this
  rw [g7]
  exact this
end Go.Proofs.Ytffmipimgodfdaa

/-
  The document's table: lookup; what is forgotten.
-/
import Derived.Test.YtffmipimgodfdaaRC
set_option linter.unusedSimpArgs false
set_option linter.unusedVariables false
namespace Go.V
open Go
theorem ROk.tg {r : RTab} (h : ROk r) (T : Tel) (G : List Known) (hG : G.length = 64) : ROk { r with tel := T, glob := G } := { h with glob := hG }
def mapTo {α : Type} (f : α → α) (k : Nat) (l : List α) : List α := l.mapIdx fun i x => if i < k then f x else x
theorem mapTo_zero {α : Type} {f : α → α} {l : List α} : mapTo f 0 l = l := by
  apply List.ext_getElem?
  intro j
  simp only [mapTo, List.getElem?_mapIdx]
  cases l[j]? <;> simp
theorem mapTo_get {α : Type} {f : α → α} {l : List α} {k : Nat} {x : α} (h : l[k]? = some x) : (mapTo f k l)[k]? = some x := by simp [mapTo, List.getElem?_mapIdx, h]
theorem mapTo_len {α : Type} {f : α → α} {l : List α} {k : Nat} : (mapTo f k l).length = l.length := by simp [mapTo]
theorem mapTo_succ {α : Type} {f : α → α} {l : List α} {k : Nat} {x : α} (h : l[k]? = some x) : mapTo f (k + 1) l = (mapTo f k l).set k (f x) := by
  apply List.ext_getElem?
  intro j
  rw [List.getElem?_set]
  by_cases e : k = j
  · subst e
    have hl := (List.getElem?_eq_some_iff.1 h).1
    rw [if_pos rfl, if_pos (by rw [mapTo_len]; exact hl)]
    simp [mapTo, List.getElem?_mapIdx, h]
  · rw [if_neg e]
    simp only [mapTo, List.getElem?_mapIdx]
    cases l[j]? with
    | none => rfl
    | some q => simp only [Option.map_some]; simp only [show (j < k + 1) = (j < k) from by apply propext; omega]
theorem mapTo_keep {α : Type} {f : α → α} {l : List α} {k : Nat} {x : α} (h : l[k]? = some x) (hx : f x = x) : mapTo f (k + 1) l = mapTo f k l := by
  rw [mapTo_succ h, hx]
  apply List.ext_getElem?
  intro j
  rw [List.getElem?_set]
  by_cases e : k = j
  · subst e
    have hl := (List.getElem?_eq_some_iff.1 h).1
    rw [if_pos rfl, if_pos (by rw [mapTo_len]; exact hl), mapTo_get h]
  · rw [if_neg e]
theorem mapTo_all {α : Type} {f : α → α} {l : List α} {k : Nat} (h : l.length ≤ k) : mapTo f k l = l.map f := by
  apply List.ext_getElem?
  intro j
  simp only [mapTo, List.getElem?_mapIdx, List.getElem?_map]
  cases hj : l[j]? with
  | none => rfl
  | some q => have := (List.getElem?_eq_some_iff.1 hj).1; simp only [Option.map_some]; rw [if_pos (by omega)]
theorem filter_rest {α : Type} (f : α → List Atom) (g : α → Bool) (l : List α) : ∃ rest, (l.flatMap f).Perm ((l.filter g).flatMap f ++ rest) := by
  induction l with
  | nil => exact ⟨[], .refl _⟩
  | cons x l ih =>
    obtain ⟨rest, h⟩ := ih
    simp only [List.flatMap_cons, List.filter_cons]
    by_cases e : g x = true
    · rw [if_pos e]
      exact ⟨rest, by simp only [List.flatMap_cons, List.append_assoc]; exact List.Perm.append_left _ h⟩
    · rw [if_neg e]
      exact ⟨f x ++ rest, (List.Perm.append_left _ h).trans (perm_lead _ _ _)⟩
def keepS (s : ByteArray) (l : List SitV) : List SitV := l.filter fun x => !decide (x.sel = s)
theorem keepS_succ {s : ByteArray} {l : List SitV} {k : Nat} {x : SitV} (h : l[k]? = some x) : keepS s (l.take (k + 1)) = keepS s (l.take k) ++ (if x.sel = s then [] else [x]) := by
  simp only [keepS, List.take_add_one, h, Option.toList_some, List.filter_append, List.filter_cons, List.filter_nil]
  by_cases e : x.sel = s <;> simp [e]
theorem keepS_le (s : ByteArray) (l : List SitV) : (keepS s l).length ≤ l.length := List.length_filter_le _ _
def noPlF (s : ByteArray) (k : Known) : Known := if k.s = s then noPl else k
end Go.V
namespace Go.Proofs.Ytffmipimgodfdaa
open Go Go.V
set_option maxHeartbeats 6400000
set_option maxRecDepth 100000
set_option linter.unusedSimpArgs false
set_option linter.unusedVariables false
theorem rlookup_spec (t : Nat) (r : RTab) (h : ROk r) (c : Int) (s : ByteArray) (hs : s.size ≤ 1048576) (N : Nat) (hN : N < 70368744177664) (hT : TelOk r.tel N) :
    Fun Try.prog 37 [ptr0 t, vi c, .string s] (RMem t r) (GlbP t r (lookD r.dt c s)) := by
  refine Fun.intro low37 (by simp [F37]) ?_
  obtain ⟨t1, t2, t3, t4, t5⟩ := hT
  simp only [RMem, telEnc]
  refine GO ?_
  refine st_call (ris_spec t r h c) (by rfl) (by simp only [RMem, telEnc]; (focus ((repeat (first | exact Spl.nil | (apply Spl.cons; (focus ((repeat (first | with_reducible exact Tk.here | apply Tk.there)); done))))); done))) (fun v Post hv => ?_)
  obtain ⟨rfl, rfl⟩ := hv
  simp only [RMem, telEnc, List.cons_append, List.nil_append]
  by_cases hc : 0 ≤ c ∧ c < r.sup.length
  rotate_left
  · simp only [decide_eq_false hc]
    refine GO ?_
    have hl : lookD r.dt c s = (none, r.dt) := by unfold lookD; exact if_neg hc
    exact endQ_mk (.inr rfl) (.tmp (by rfl) (.tmp (by rfl) .nil)) ⟨r.tel, r.glob, h.glob, by rw [hl]; rfl, by rw [hl]; rfl, rfl⟩ (by simp only [RMem, telEnc]; (first | with_reducible exact Imp.refl | with_reducible exact Imp.left | (focus ((try simp only [List.nil_append]); (repeat (first | exact Imp.nil | (apply Imp.cons; (focus ((repeat (first | with_reducible exact Tk.here | apply Tk.there)); done))))); done))))
  simp only [decide_eq_true hc]
  refine GO ?_
  refine st_call (rglobal_spec t { r with tel := { r.tel with asked := r.tel.asked + 1 } } (h.tg _ r.glob h.glob) c hc s hs (N + 1) (by omega) ⟨by simp only; omega, by simp only; omega, by simp only; omega, by simp only; omega, by simp only; omega⟩) (by rfl) (by simp only [RMem, telEnc, Int.natCast_add, Int.cast_ofNat_Int]; (focus ((repeat (first | exact Spl.nil | (apply Spl.cons; (focus ((repeat (first | with_reducible exact Tk.here | apply Tk.there)); done))))); done))) (fun v Post hv => ?_)
  have hl : lookD r.dt c s = glbD r.dt.ask1 c s := by unfold lookD; exact if_pos hc
  obtain ⟨T, G, g1, g2, rfl, rfl⟩ := hv
  simp only [RMem, telEnc, okM, List.cons_append, List.nil_append]
  refine GO ?_
  refine endQ_mk (.inr rfl) (.tmp (by rfl) (.tmp (by rfl) .nil)) ⟨T, G, g1, by rw [hl]; exact g2, by rw [hl]; rfl, rfl⟩ (by simp only [RMem, telEnc]; (first | with_reducible exact Imp.refl | with_reducible exact Imp.left | (focus ((try simp only [List.nil_append]); (repeat (first | exact Imp.nil | (apply Imp.cons; (focus ((repeat (first | with_reducible exact Tk.here | apply Tk.there)); done))))); done))))

theorem sitEnc_one1 {s : SitV} (h : IsSl 1 s.cv s.cls.length (s.cls.map vi) s.csp ∧ IsSl 1 s.mv s.ms.length (s.ms.map vi) s.msp ∧ s.ms.length = s.cls.length ∧ s.cls.length ≤ 4) : (sitEnc s).all oneCell = true := by
  obtain ⟨a, b, h1⟩ := h.1.form
  obtain ⟨c, d, h2⟩ := h.2.1.form
  simp only [sitEnc, h1, h2]; rfl

theorem ROk.forget {r : RTab} (h : ROk r) (s : ByteArray) {xv : Value} {xsp : List Value} (hx : IsSl 4 xv (keepS s r.sites).length ((keepS s r.sites).flatMap sitEnc) xsp) : ROk { r with glob := r.glob.map (noPlF s), xv := xv, sites := keepS s r.sites, xsp := xsp } :=
  { h with glob := by simpa using h.glob, xs := hx, st := fun x hm => h.st x (List.mem_filter.1 hm).1, sk := ⟨(List.filter_sublist.map _).nodup h.sk.1, fun z hz => h.sk.2 z ((List.filter_sublist.map _).subset hz)⟩ }
theorem forget_dt (r : RTab) (s : ByteArray) (xv : Value) (xsp : List Value) : ({ r with glob := r.glob.map (noPlF s), xv := xv, sites := keepS s r.sites, xsp := xsp } : RTab).dt = forgetD r.dt (fun u => decide (u = s)) := by
  simp only [RTab.dt, forgetD, keepS, DT.mk.injEq, true_and, and_true]
  constructor
  · refine List.map_congr_left (fun k _ => ?_)
    unfold noPlF
    by_cases e : k.s = s <;> simp [e]
  · rw [List.filter_map]; rfl

theorem rforget_spec (t : Nat) (r : RTab) (h : ROk r) (s : ByteArray) :
    Fun Try.prog 55 [ptr0 t, .string s] (RMem t r) (fun v Post => ∃ r', ROk r' ∧ r'.dt = forgetD r.dt (fun u => decide (u = s)) ∧ v = .tuple #[] ∧ Post = RMem t r') := by
  refine Fun.intro low55 (by simp [F55]) ?_
  have hgl := h.glob
  simp only [RMem]
  refine GO ?_
  refine VC.loop (α := Nat) (Γf := fun k => [(0, ptr0 t), (1, .string s), (4, vi k)]) (Hf := fun k => [cellsAt t 0 [r.sv, r.dv], cellsAt t 2 ((mapTo (noPlF s) k r.glob).flatMap kEnc), cellsAt t 194 [r.xv], cellsAt t 195 (telEnc r.tel), slA r.sv (r.sup.map vi) r.ssp, slA r.dv (r.dds.map (·.v)) r.dsp, r.dds.flatMap dicA, slA r.xv (r.sites.flatMap sitEnc) r.xsp, r.sites.flatMap sitA]) (I := fun k => k ≤ 64) (μ := fun k => 64 - k) 0 (Nat.zero_le _) (by (repeat (first | exact Sub.nil | (apply Sub.cons; rfl)))) (by simp only [mapTo_zero]; (first | with_reducible exact Imp.refl | with_reducible exact Imp.left | (focus ((try simp only [List.nil_append]); (repeat (first | exact Imp.nil | (apply Imp.cons; (focus ((repeat (first | with_reducible exact Tk.here | apply Tk.there)); done))))); done)))) ?_
  intro k hk
  by_cases hk64 : k < 64
  · refine GO ?_
    simp only [show (k : Int) < 64 by omega, decide_true]
    obtain ⟨x, hx⟩ : ∃ x, r.glob[k]? = some x := ⟨r.glob[k]'(by omega), List.getElem?_eq_getElem (by omega)⟩
    have hxm := mapTo_get (f := noPlF s) hx
    refine GO ?_
    refine st_load1 (v := .string x.s) (by rfl) (.there (Has.flat (f := kEnc) (n := 3) (j := 1) kEnc_len hxm (by omega) (by rfl))) ?_
    refine GO ?_
    by_cases e : x.s = s
    · simp only [decide_eq_true e]
      refine GO ?_
      refine st_store' (us := kEnc noPl) (by rfl) (by rfl) (by rfl) (by rfl) (by rfl) (.there (Upd.flat (f := kEnc) (l := mapTo (noPlF s) k r.glob) (i := k) (y := noPl) (n := 3) kEnc_len rfl (by rw [mapTo_len]; omega))) ?_
      refine GO ?_
      have hs : mapTo (noPlF s) (k + 1) r.glob = (mapTo (noPlF s) k r.glob).set k noPl := by rw [mapTo_succ hx]; simp [noPlF, e]
      exact ⟨k + 1, by omega, by omega, by (repeat (first | exact Sub.nil | (apply Sub.cons; rfl))), by simp only [hs]; (first | with_reducible exact Imp.refl | with_reducible exact Imp.left | (focus ((try simp only [List.nil_append]); (repeat (first | exact Imp.nil | (apply Imp.cons; (focus ((repeat (first | with_reducible exact Tk.here | apply Tk.there)); done))))); done)))⟩
    · simp only [decide_eq_false e]
      refine GO ?_
      have hs : mapTo (noPlF s) (k + 1) r.glob = mapTo (noPlF s) k r.glob := mapTo_keep hx (by simp [noPlF, e])
      exact ⟨k + 1, by omega, by omega, by (repeat (first | exact Sub.nil | (apply Sub.cons; rfl))), by simp only [hs]; (first | with_reducible exact Imp.refl | with_reducible exact Imp.left | (focus ((try simp only [List.nil_append]); (repeat (first | exact Imp.nil | (apply Imp.cons; (focus ((repeat (first | with_reducible exact Tk.here | apply Tk.there)); done))))); done)))⟩
  obtain rfl : k = 64 := by omega
  have hall : mapTo (noPlF s) 64 r.glob = r.glob.map (noPlF s) := mapTo_all (by omega)
  simp only [hall]
  obtain ⟨xa, xc, hxv⟩ := h.xs.form
  have hrd := h.xs.rd
  have hsn := h.sn
  rw [hxv] at hrd ⊢
  generalize slA (.slice xa r.sites.length xc) (r.sites.flatMap sitEnc) r.xsp = L at hrd ⊢
  refine GO ?_
  refine VC.loop (α := Nat × Value × List Value) (Γf := fun x => [(0, ptr0 t), (1, .string s), (5, x.2.1), (6, vi x.1)]) (Hf := fun x => slA x.2.1 ((keepS s (r.sites.take x.1)).flatMap sitEnc) x.2.2 :: [cellsAt t 0 [r.sv, r.dv], cellsAt t 2 ((r.glob.map (noPlF s)).flatMap kEnc), cellsAt t 194 [.slice xa r.sites.length xc], cellsAt t 195 (telEnc r.tel), slA r.sv (r.sup.map vi) r.ssp, slA r.dv (r.dds.map (·.v)) r.dsp, r.dds.flatMap dicA, L, r.sites.flatMap sitA])
    (I := fun x => x.1 ≤ r.sites.length ∧ IsSl 4 x.2.1 (keepS s (r.sites.take x.1)).length ((keepS s (r.sites.take x.1)).flatMap sitEnc) x.2.2) (μ := fun x => r.sites.length - x.1) (0, .slice none 0 0, []) ⟨Nat.zero_le _, .nil⟩ (by (repeat (first | exact Sub.nil | (apply Sub.cons; rfl)))) (Imp.fresh rfl) ?_
  rintro ⟨i, kv, ksp⟩ ⟨hi, hkv⟩
  simp only at hi hkv
  obtain ⟨ka, kc, rfl⟩ := hkv.form
  have hkl := keepS_le s (r.sites.take i)
  rw [List.length_take] at hkl
  refine GO ?_
  (first | (apply VC.seq_cond; rfl) | (apply VC.cond; rfl))
  rotate_left
  · intro hge
    have hge : ¬ i < r.sites.length := by simpa using hge
    rw [List.take_of_length_le (by omega)] at hkv ⊢
    refine GO ?_
    obtain ⟨rest, hrest⟩ := filter_rest sitA (fun x => !decide (x.sel = s)) r.sites
    refine endQ_mk (.inl rfl) .nil ⟨_, ROk.forget h s hkv, forget_dt r s _ _, rfl, rfl⟩ ?_
    refine Imp.cut (M := [cellsAt t 0 [r.sv, r.dv], cellsAt t 2 ((r.glob.map (noPlF s)).flatMap kEnc), cellsAt t 194 [.slice ka (keepS s r.sites).length kc], cellsAt t 195 (telEnc r.tel), slA r.sv (r.sup.map vi) r.ssp, slA r.dv (r.dds.map (·.v)) r.dsp, r.dds.flatMap dicA, slA (.slice ka (keepS s r.sites).length kc) ((keepS s r.sites).flatMap sitEnc) ksp, r.sites.flatMap sitA]) (by (first | with_reducible exact Imp.refl | with_reducible exact Imp.left | (focus ((try simp only [List.nil_append]); (repeat (first | exact Imp.nil | (apply Imp.cons; (focus ((repeat (first | with_reducible exact Tk.here | apply Tk.there)); done))))); done)))) ?_
    refine ⟨[rest], ?_⟩
    simp only [V.Spl, RMem, List.flatten_cons, List.flatten_nil, List.append_nil, List.append_assoc]
    repeat' refine List.Perm.append_left _ ?_
    exact hrest
  intro hlt
  have hlt : i < r.sites.length := by simpa using hlt
  obtain ⟨x, hx⟩ : ∃ x, r.sites[i]? = some x := ⟨r.sites[i], List.getElem?_eq_getElem hlt⟩
  obtain ⟨b, o, c, hve, hcell⟩ := hrd.at_ (enc := sitEnc) (fun p => rfl) hx
  simp only [Value.slice.injEq, true_and] at hve
  obtain ⟨rfl, rfl⟩ := hve
  have m1 : Atom.cell b (o + i * 4 + 1) (.string x.sel) ∈ L := hcell _ (mem_cellsAt.2 ⟨1, _, rfl, rfl⟩)
  have hsucc := keepS_succ (s := s) hx
  refine GO ?_
  by_cases e : x.sel = s
  · simp only [decide_eq_true e, Bool.not_true]
    refine GO ?_
    rw [if_pos e, List.append_nil] at hsucc
    exact ⟨(i + 1, .slice ka (keepS s (r.sites.take i)).length kc, ksp), ⟨by show i + 1 ≤ r.sites.length; omega, by simp only [hsucc]; exact hkv⟩, by simp only; omega, by (repeat (first | exact Sub.nil | (apply Sub.cons; rfl))), by simp only [hsucc]; (first | with_reducible exact Imp.refl | with_reducible exact Imp.left | (focus ((try simp only [List.nil_append]); (repeat (first | exact Imp.nil | (apply Imp.cons; (focus ((repeat (first | with_reducible exact Tk.here | apply Tk.there)); done))))); done)))⟩
  simp only [decide_eq_false e, Bool.not_false]
  rw [if_neg e] at hsucc
  refine GO ?_
  refine st_loadA (us := sitEnc x) (by rfl) (fun y hy => by simp only [List.flatten_cons, List.mem_append]; simp only [hcell y hy, true_or, or_true]) (by rfl) ?_
  refine GO ?_
  refine st_bslice (out := sitEnc x) (by rfl) (by rfl) (fun q3 => ?_)
  refine GO ?_
  refine st_append (k := (keepS s (r.sites.take i)).length) (m := 1) (xs := (keepS s (r.sites.take i)).flatMap sitEnc) (sp := ksp) (ys := sitEnc x) (by rfl) (by rfl) hkv (by (focus ((repeat (first | with_reducible exact Tk.here | apply Tk.there)); done))) (by rfl) ?_ rfl (sitEnc_one1 (h.st x (List.mem_of_getElem? hx))) (by rfl) (by decide) (by omega) (fun sv' sp' hsl' => ?_)
  · exact ⟨rfl, fun a ha => by simp only [List.flatten_cons, List.mem_append]; exact .inl ha⟩
  have htake : (keepS s (r.sites.take i) ++ [x]).flatMap sitEnc = (keepS s (r.sites.take i)).flatMap sitEnc ++ sitEnc x := by simp
  have hlen : (keepS s (r.sites.take i) ++ [x]).length = (keepS s (r.sites.take i)).length + 1 := by simp
  rw [← htake, ← hlen] at hsl'
  rw [← htake]
  obtain ⟨a', c', hf'⟩ := hsl'.form
  subst hf'
  refine GO ?_
  exact ⟨(i + 1, .slice a' (keepS s (r.sites.take i) ++ [x]).length c', sp'), ⟨by show i + 1 ≤ r.sites.length; omega, by simp only [hsucc]; exact hsl'⟩, by simp only; omega, by (repeat (first | exact Sub.nil | (apply Sub.cons; rfl))), by simp only [hsucc]; (first | with_reducible exact Imp.refl | with_reducible exact Imp.left | (focus ((try simp only [List.nil_append]); (repeat (first | exact Imp.nil | (apply Imp.cons; (focus ((repeat (first | with_reducible exact Tk.here | apply Tk.there)); done))))); done)))⟩
end Go.Proofs.Ytffmipimgodfdaa

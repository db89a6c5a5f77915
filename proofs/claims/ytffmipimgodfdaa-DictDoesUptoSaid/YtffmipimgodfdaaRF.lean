/-
  The document's table: a method laid.
-/
import Derived.Test.YtffmipimgodfdaaRD
import Derived.Test.YtffmipimgodfdaaDI
set_option linter.unusedSimpArgs false
set_option linter.unusedVariables false
namespace Go.V
open Go
theorem ROk.setD {r : RTab} (h : ROk r) {k : Nat} {d : DicV} (hk : k < r.dds.length) (hd : IsSl 2 d.v d.m.length (d.m.flatMap entEnc) d.sp) (hn : d.m.length ≤ 4096) : ROk { r with dds := r.dds.set k d } := by
  refine { h with dv := ?_, len := by simpa using h.len, dd := fun x hx => ?_, dn := fun x hx => ?_ }
  · have hdv := h.dv
    have hl : (r.dds.set k d).length = r.dds.length := by simp
    show IsSl 1 r.dv (r.dds.set k d).length ((r.dds.set k d).map (·.v)) r.dsp
    rw [hl, List.map_set]
    have hvl : (r.dds.map (·.v)).length = r.dds.length := by simp
    generalize r.dds.map (·.v) = vs at hdv hvl ⊢
    generalize r.dds.length = N at hdv hvl hk ⊢
    generalize r.dv = dv at hdv ⊢
    generalize r.dsp = dsp at hdv ⊢
    cases hdv with
    | mk h1 h2 h3 => exact .mk (by simpa using h1) (by simpa using h2) h3
    | nil => omega
  · rcases List.mem_or_eq_of_mem_set hx with hx | rfl
    · exact h.dd x hx
    · exact hd
  · rcases List.mem_or_eq_of_mem_set hx with hx | rfl
    · exact h.dn x hx
    · exact hn
theorem setD_dt {r : RTab} {k : Nat} {d : DicV} : ({ r with dds := r.dds.set k d } : RTab).dt = layD r.dt (k : Int) d.m := by
  simp only [RTab.dt, layD, List.map_set, Int.toNat_natCast]
theorem mset_at {m : List (ByteArray × Int)} {s : ByteArray} {v : Int} : ∀ {i : Nat} {p : ByteArray × Int}, findZ m s = (i : Nat) → m[i]? = some p → mset s v m = m.set i (s, v) := by
  induction m with
  | nil => intro i p _ h; cases h
  | cons q l ih =>
    intro i p hf hi
    by_cases e : q.1 = s
    · have : findZ (q :: l) s = ((0 : Nat) : Int) := findZ_some (k := 0) rfl e (fun i q h => by omega)
      rw [this] at hf
      obtain rfl : i = 0 := by omega
      simp only [mset]
      rw [if_pos (by first | exact e | exact e.symm)]
      simp [e]
    · have hf2 : findZ (q :: l) s = if findZ l s = -1 then -1 else findZ l s + 1 := by
        unfold findZ
        rw [List.findIdx?_cons]
        have : decide (q.1 = s) = false := by simpa using e
        simp only [this]
        cases hx : l.findIdx? (fun p => decide (p.1 = s)) with
        | none => simp
        | some i => simp
      rw [hf2] at hf
      split at hf
      · omega
      · obtain ⟨j, rfl⟩ : ∃ j, i = j + 1 := ⟨i - 1, by
          have : 0 ≤ findZ l s := by
            unfold findZ at *
            split at hf <;> simp_all
          omega⟩
        simp only [mset]
        rw [if_neg (by first | exact e | exact fun h => e h.symm)]
        rw [ih (i := j) (p := p) (by omega) (by simpa using hi)]
        rfl
theorem ent_set {v : Int} {sp : List Value} : ∀ {m : List (ByteArray × Int)} {i : Nat} {p : ByteArray × Int}, m[i]? = some p → ((m.flatMap entEnc) ++ sp).set (i * 2 + 1) (vi v) = ((m.set i (p.1, v)).flatMap entEnc) ++ sp := by
  intro m
  induction m with
  | nil => intro i p h; cases h
  | cons q l ih =>
    intro i p h
    cases i with
    | zero => cases h; rfl
    | succ j =>
      have := ih (i := j) (p := p) (by simpa using h)
      have e : (j + 1) * 2 + 1 = (j * 2 + 1) + 2 := by omega
      rw [e]
      show (_ :: _ :: ((l.flatMap entEnc) ++ sp)).set ((j * 2 + 1) + 2) _ = _ :: _ :: (((l.set j (p.1, v)).flatMap entEnc) ++ sp)
      rw [← this]
      rfl
end Go.V
namespace Go.Proofs.Ytffmipimgodfdaa
open Go Go.V
set_option maxHeartbeats 6400000
set_option maxRecDepth 100000
set_option linter.unusedSimpArgs false
set_option linter.unusedVariables false
/-- What an installing answers. -/
def instD (D : DT) (c : Int) (s : ByteArray) (m : Int) : Int × DT :=
  if 0 ≤ c ∧ c < D.sup.length then
    if s.size < 1 ∨ 640 < s.size then (221, D)
    else if mget s (D.dic c) = none ∧ 4096 ≤ (D.dic c).length then (222, D)
    else (0, forgetD (layD D c (mset s m (D.dic c))) (fun u => decide (u = s)))
  else (220, D)
def riRest : IC := match F30.body with | .seq _ (.seq _ (.seq _ (.seq _ (.seq _ (.seq _ r))))) => r | _ => .skip
def riHead (r : IC) : IC := match F30.body with | .seq a (.seq b (.seq c (.seq d (.seq e (.seq f _))))) => .seq a (.seq b (.seq c (.seq d (.seq e (.seq f r))))) | _ => .skip
theorem ri_body : F30.body = riHead riRest := rfl
theorem riRest_spec (t : Nat) (r : RTab) (h : ROk r) (D : DT) (s : ByteArray) (hD : r.dt = D) :
    VC Try.prog F30.n riRest [(0, ptr0 t), (2, .string s)] (RMem t r) (endQ F30.res (fun v Post => ∃ r', ROk r' ∧ r'.dt = forgetD D (fun u => decide (u = s)) ∧ v = vi 0 ∧ Post = RMem t r')) := by
  refine GO ?_
  refine st_call (rforget_spec t r h s) (by rfl) (spl_self _) (fun v Post hv => ?_)
  obtain ⟨r', h1, h2, rfl, rfl⟩ := hv
  rw [List.append_nil]
  refine GO ?_
  exact endQ_mk (.inr rfl) (.tmp (by rfl) .nil) ⟨r', h1, by rw [h2, hD], rfl, rfl⟩ (Imp.refl _)

theorem dict_close {t k b o n c2 : Nat} {r : RTab} {d' : DicV} {xr : List Atom} (hve : r.dv = .slice (some ⟨b, o, none⟩) n c2) (hk : k < r.dds.length) (hx2 : ((r.dds.set k d').flatMap dicA).Perm (dicA d' ++ xr)) :
    Imp [cellsAt t 0 [r.sv, .slice (some ⟨b, o, none⟩) n c2], cellsAt t 2 (r.glob.flatMap kEnc), cellsAt t 194 [r.xv], cellsAt t 195 (telEnc r.tel), slA r.sv (r.sup.map vi) r.ssp, cellsAt b o ((r.dds.map (·.v) ++ r.dsp).set k d'.v), dicA d', xr, slA r.xv (r.sites.flatMap sitEnc) r.xsp, r.sites.flatMap sitA] (RMem t { r with dds := r.dds.set k d' }) := by
  refine Imp.perm ?_
  have e : (r.dds.map (·.v) ++ r.dsp).set k d'.v = (r.dds.set k d').map (·.v) ++ r.dsp := by
    rw [List.set_append_left _ _ (by simpa using hk), List.map_set]
  simp only [RMem, hve, slA_some, e, List.flatten_cons, List.flatten_nil, List.append_nil]
  repeat' refine List.Perm.append_left _ ?_
  rw [← List.append_assoc]
  exact List.Perm.append_right _ hx2.symm
def InstR (t : Nat) (x : Int × DT) (v : Value) (Post : SH) : Prop := ∃ r', ROk r' ∧ r'.dt = x.2 ∧ v = vi x.1 ∧ Post = RMem t r'
theorem rinstall_spec (t : Nat) (r : RTab) (h : ROk r) (c : Int) (s : ByteArray) (hs : s.size ≤ 1048576) (m : Int) :
    Fun Try.prog 30 [ptr0 t, vi c, .string s, vi m] (RMem t r) (InstR t (instD r.dt c s m)) := by
  refine Fun.intro low30 (by simp [F30]) ?_
  rw [ri_body]
  have rest0 := riRest_spec t
  generalize riRest = q at rest0 ⊢
  simp only [RMem]
  refine GO ?_
  refine st_call (ris_spec t r h c) (by rfl) (by simp only [RMem]; (focus ((repeat (first | exact Spl.nil | (apply Spl.cons; (focus ((repeat (first | with_reducible exact Tk.here | apply Tk.there)); done))))); done))) (fun v Post hv => ?_)
  obtain ⟨rfl, rfl⟩ := hv
  simp only [RMem, List.cons_append, List.nil_append]
  by_cases hc : 0 ≤ c ∧ c < r.sup.length
  rotate_left
  · simp only [decide_eq_false hc]
    refine GO ?_
    exact endQ_mk (.inr rfl) (.tmp (by rfl) .nil) ⟨r, h, by unfold instD; rw [show (if 0 ≤ c ∧ c < (r.dt.sup.length : Int) then _ else _) = _ from if_neg hc], by unfold instD; rw [show (if 0 ≤ c ∧ c < (r.dt.sup.length : Int) then _ else _) = _ from if_neg hc]; rfl, rfl⟩ (by simp only [RMem]; (first | with_reducible exact Imp.refl | with_reducible exact Imp.left | (focus ((try simp only [List.nil_append]); (repeat (first | exact Imp.nil | (apply Imp.cons; (focus ((repeat (first | with_reducible exact Tk.here | apply Tk.there)); done))))); done))))
  simp only [decide_eq_true hc]
  have hi0 : instD r.dt c s m = if s.size < 1 ∨ 640 < s.size then (221, r.dt) else if mget s (r.dt.dic c) = none ∧ 4096 ≤ (r.dt.dic c).length then (222, r.dt) else (0, forgetD (layD r.dt c (mset s m (r.dt.dic c))) (fun u => decide (u = s))) := if_pos hc
  rw [hi0]
  refine GO ?_
  by_cases s1 : s.size < 1
  · simp only [show (s.size : Int) < 1 by omega, decide_true]
    refine GO ?_
    exact endQ_mk (.inr rfl) (.tmp (by rfl) .nil) ⟨r, h, by rw [if_pos (.inl s1)], by rw [if_pos (.inl s1)]; rfl, rfl⟩ (by simp only [RMem]; (first | with_reducible exact Imp.refl | with_reducible exact Imp.left | (focus ((try simp only [List.nil_append]); (repeat (first | exact Imp.nil | (apply Imp.cons; (focus ((repeat (first | with_reducible exact Tk.here | apply Tk.there)); done))))); done))))
  simp only [show ¬ (s.size : Int) < 1 by omega, decide_false]
  refine GO ?_
  by_cases s2 : 640 < s.size
  · simp only [show (s.size : Int) > 640 by omega, decide_true]
    refine GO ?_
    exact endQ_mk (.inr rfl) (.tmp (by rfl) .nil) ⟨r, h, by rw [if_pos (.inr s2)], by rw [if_pos (.inr s2)]; rfl, rfl⟩ (by simp only [RMem]; (first | with_reducible exact Imp.refl | with_reducible exact Imp.left | (focus ((try simp only [List.nil_append]); (repeat (first | exact Imp.nil | (apply Imp.cons; (focus ((repeat (first | with_reducible exact Tk.here | apply Tk.there)); done))))); done))))
  simp only [show ¬ (s.size : Int) > 640 by omega, decide_false]
  rw [if_neg (by omega)]
  refine GO ?_
  refine st_call (rfind_spec t r h c hc s) (by rfl) (by simp only [RMem]; (focus ((repeat (first | exact Spl.nil | (apply Spl.cons; (focus ((repeat (first | with_reducible exact Tk.here | apply Tk.there)); done))))); done))) (fun v Post hv => ?_)
  obtain ⟨rfl, rfl⟩ := hv
  obtain ⟨k, rfl⟩ := Int.eq_ofNat_of_zero_le hc.1
  obtain ⟨d, hd, hdm, hdi⟩ := h.dic hc
  have hk : (k : Int).toNat = k := by simp
  rw [hk] at hd
  rw [hdm]
  have hdd := h.dd d hdi
  have hdn := h.dn d hdi
  have hkl : k < r.dds.length := by have := h.len; omega
  have hsm := h.small
  simp only [RMem, List.cons_append, List.nil_append]
  obtain ⟨b, o, c2, hve, m1⟩ := (show RdRow 1 _ r.dv r.dds.length (r.dds.map fun q => q.v) from h.dv.rd).cell hd
  obtain ⟨da, dc, hdv⟩ := hdd.form
  obtain ⟨xr, hx1, hx2⟩ := flat_take (f := dicA) hd
  have hvl : k < (r.dds.map (·.v) ++ r.dsp).length := by simp; omega
  have hopen : Imp (RMem t r) [cellsAt t 0 [r.sv, .slice (some ⟨b, o, none⟩) r.dds.length c2], cellsAt t 2 (r.glob.flatMap kEnc), cellsAt t 194 [r.xv], cellsAt t 195 (telEnc r.tel), slA r.sv (r.sup.map vi) r.ssp, cellsAt b o (r.dds.map (·.v) ++ r.dsp), dicA d, xr, slA r.xv (r.sites.flatMap sitEnc) r.xsp, r.sites.flatMap sitA] := by
    refine Imp.perm ?_
    simp only [RMem, hve, slA_some, List.flatten_cons, List.flatten_nil, List.append_nil]
    repeat' refine List.Perm.append_left _ ?_
    exact (List.Perm.append_right _ hx1).trans (by rw [List.append_assoc])
  refine VO.imp hopen ?_
  simp only [hve, slA_some] at m1
  simp only [dicA]
  rcases findZ_mget (m := d.m) (s := s) with ⟨f1, f2⟩ | ⟨i, p, f1, f2, f3, f4⟩
  · rw [f1, f2]
    rw [hdv] at m1 hdd ⊢
    refine GO ?_
    by_cases hfull : 4096 ≤ d.m.length
    · simp only [show (d.m.length : Int) ≥ 4096 by omega, decide_true]
      refine GO ?_
      have hback : Imp [cellsAt t 0 [r.sv, .slice (some ⟨b, o, none⟩) r.dds.length c2], cellsAt t 2 (r.glob.flatMap kEnc), cellsAt t 194 [r.xv], cellsAt t 195 (telEnc r.tel), slA r.sv (r.sup.map vi) r.ssp, cellsAt b o (r.dds.map (·.v) ++ r.dsp), dicA d, xr, slA r.xv (r.sites.flatMap sitEnc) r.xsp, r.sites.flatMap sitA] (RMem t r) := by
        refine Imp.perm ?_
        simp only [RMem, hve, slA_some, List.flatten_cons, List.flatten_nil, List.append_nil]
        repeat' refine List.Perm.append_left _ ?_
        exact (by rw [List.append_assoc] : (dicA d ++ (xr ++ (slA r.xv (r.sites.flatMap sitEnc) r.xsp ++ r.sites.flatMap sitA))).Perm ((dicA d ++ xr) ++ (slA r.xv (r.sites.flatMap sitEnc) r.xsp ++ r.sites.flatMap sitA))).trans (List.Perm.append_right _ hx1.symm)
      rw [if_pos ⟨trivial, hfull⟩]
      exact endQ_mk (Post := RMem t r) (.inr rfl) (.tmp (by rfl) .nil) ⟨r, h, rfl, rfl, rfl⟩ (Imp.cut (by simp only [dicA, hdv]; (first | with_reducible exact Imp.refl | with_reducible exact Imp.left | (focus ((try simp only [List.nil_append]); (repeat (first | exact Imp.nil | (apply Imp.cons; (focus ((repeat (first | with_reducible exact Tk.here | apply Tk.there)); done))))); done)))) hback)
    simp only [show ¬ (d.m.length : Int) ≥ 4096 by omega, decide_false]
    rw [if_neg (fun x => hfull x.2)]
    refine GO ?_
    have hm : mset s m d.m = d.m ++ [(s, m)] := mget_none_mset f2
    have hent : (d.m ++ [(s, m)]).flatMap entEnc = d.m.flatMap entEnc ++ entEnc (s, m) := by simp
    have hlen2 : (d.m ++ [(s, m)]).length = d.m.length + 1 := by simp
    rw [hm]
    refine VC.draws ⟨?_, ?_, ?_, ?_, ?_, ?_, ?_, ?_, ?_, ?_, ?_, ?_, ?_, ?_, ?_, trivial⟩
    all_goals
      refine GO ?_
      refine st_bslice (out := entEnc (s, m)) (by rfl) (by rfl) (fun q3 => ?_)
      refine GO ?_
      refine st_append (k := d.m.length) (m := 1) (xs := d.m.flatMap entEnc) (sp := d.sp) (ys := entEnc (s, m)) (by rfl) (by rfl) hdd (by (focus ((repeat (first | with_reducible exact Tk.here | apply Tk.there)); done))) (by rfl) ?_ rfl (by rfl) (by rfl) (by decide) (by omega) (fun sv' sp' hsl' => ?_)
      · exact ⟨rfl, fun a ha => by simp only [List.flatten_cons, List.mem_append]; simp only [ha, true_or, or_true]⟩
      obtain ⟨a', c', rfl⟩ := hsl'.form
      refine GO ?_
      refine VO.pull (A := cellsAt b o (r.dds.map (·.v) ++ r.dsp)) (by (focus ((repeat (first | with_reducible exact Tk.here | apply Tk.there)); done))) ?_
      refine st_store' (us := [.slice a' (d.m.length + 1) c']) (by rfl) (by rfl) (by rfl) (by rfl) (by rfl) (Upd.set1 (i := k) (by omega) hvl) ?_
      refine GO ?_
      refine VC.imp (Imp.cut ?_ (dict_close (t := t) (r := r) (d' := ⟨.slice a' (d.m.length + 1) c', d.m ++ [(s, m)], sp'⟩) (xr := xr) hve hkl (hx2 _))) (VC.sub (by (repeat (first | exact Sub.nil | (apply Sub.cons; rfl)))) (rest0 _ (h.setD hkl (by simp only [hlen2, hent]; exact hsl') (by simp only [hlen2]; omega)) _ s setD_dt))
      simp only [dicA, hent]
      (first | with_reducible exact Imp.refl | with_reducible exact Imp.left | (focus ((try simp only [List.nil_append]); (repeat (first | exact Imp.nil | (apply Imp.cons; (focus ((repeat (first | with_reducible exact Tk.here | apply Tk.there)); done))))); done)))
  · rw [f1, f4]
    have hil := (List.getElem?_eq_some_iff.1 f2).1
    obtain ⟨b3, o3, c3, hve3⟩ : ∃ b3 o3 c3, d.v = .slice (some ⟨b3, o3, none⟩) d.m.length c3 := by
      obtain ⟨b3, o3, c3, h1, _, _⟩ := hdd.some (by omega)
      exact ⟨b3, o3, c3, h1⟩
    simp only [hve3, slA_some] at m1 ⊢
    have hm : mset s m d.m = d.m.set i (s, m) := mset_at f1 f2
    have hset : (d.m.flatMap entEnc ++ d.sp).set (i * 2 + 1) (vi m) = (d.m.set i (s, m)).flatMap entEnc ++ d.sp := by rw [ent_set f2, f3]
    have hfl : ((d.m.set i (s, m)).flatMap entEnc).length = (d.m.flatMap entEnc).length := by
      rw [flatMap_len (n := 2) (fun x _ => rfl), flatMap_len (n := 2) (fun x _ => rfl), List.length_set]
    have hll : i * 2 + 1 < (d.m.flatMap entEnc ++ d.sp).length := by
      rw [List.length_append, flatMap_len (n := 2) (fun x _ => rfl)]; omega
    rw [hm]
    refine GO ?_
    refine VO.pull (A := cellsAt b3 o3 (d.m.flatMap entEnc ++ d.sp)) (by (focus ((repeat (first | with_reducible exact Tk.here | apply Tk.there)); done))) ?_
    refine st_store' (us := [vi m]) (by rfl) (by rfl) (by rfl) (by rfl) (by rfl) (Upd.set1 (i := i * 2 + 1) (by omega) hll) ?_
    rw [hset]
    refine GO ?_
    have hd2 : IsSl 2 (.slice (some ⟨b3, o3, none⟩) d.m.length c3) (d.m.set i (s, m)).length ((d.m.set i (s, m)).flatMap entEnc) d.sp := by
      rw [List.length_set]
      rw [hve3] at hdd
      generalize d.m.flatMap entEnc = xs at hdd hfl
      generalize d.sp = sp at hdd ⊢
      generalize d.m.length = n at hdd ⊢
      cases hdd with
      | mk q1 q2 q3 => exact .mk (by rw [hfl]; exact q1) (by rw [hfl]; exact q2) q3
    refine VC.imp (Imp.cut ?_ (dict_close (t := t) (r := r) (d' := ⟨.slice (some ⟨b3, o3, none⟩) d.m.length c3, d.m.set i (s, m), d.sp⟩) (xr := xr) hve hkl (hx2 _))) (VC.sub (by (repeat (first | exact Sub.nil | (apply Sub.cons; rfl)))) (rest0 _ (h.setD hkl hd2 (by simp only [List.length_set]; omega)) _ s setD_dt))
    have hvs : (r.dds.map (·.v) ++ r.dsp).set k (.slice (some ⟨b3, o3, none⟩) d.m.length c3) = r.dds.map (·.v) ++ r.dsp := by
      rw [← hve3]
      apply List.ext_getElem?
      intro j
      rw [List.getElem?_set]
      split
      · rename_i e; subst e
        rw [List.getElem?_append_left (by simpa using hkl)]
        simp [hd]
      · rfl
    simp only [dicA, hvs, slA_some]
    (first | with_reducible exact Imp.refl | with_reducible exact Imp.left | (focus ((try simp only [List.nil_append]); (repeat (first | exact Imp.nil | (apply Imp.cons; (focus ((repeat (first | with_reducible exact Tk.here | apply Tk.there)); done))))); done)))
end Go.Proofs.Ytffmipimgodfdaa
namespace Go.V
open Go
theorem mdel_at {m : List (ByteArray × Int)} {s : ByteArray} : ∀ {i : Nat}, findZ m s = (i : Nat) → mdel s m = m.take i ++ m.drop (i + 1) := by
  induction m with
  | nil => intro i hf; exact absurd hf (by show (-1 : Int) ≠ i; omega)
  | cons q l ih =>
    intro i hf
    by_cases e : q.1 = s
    · have : findZ (q :: l) s = ((0 : Nat) : Int) := findZ_some (k := 0) rfl e (fun i q h => by omega)
      rw [this] at hf
      obtain rfl : i = 0 := by omega
      simp only [mdel]
      rw [if_pos (by first | exact e | exact e.symm)]
      simp
    · have hf2 : findZ (q :: l) s = if findZ l s = -1 then -1 else findZ l s + 1 := by
        unfold findZ
        rw [List.findIdx?_cons]
        have : decide (q.1 = s) = false := by simpa using e
        simp only [this]
        cases hx : l.findIdx? (fun p => decide (p.1 = s)) with
        | none => simp
        | some i => simp
      rw [hf2] at hf
      split at hf
      · omega
      · obtain ⟨j, rfl⟩ : ∃ j, i = j + 1 := ⟨i - 1, by
          have : 0 ≤ findZ l s := by
            unfold findZ at *
            split at hf <;> simp_all
          omega⟩
        simp only [mdel]
        rw [if_neg (by first | exact e | exact fun h => e h.symm)]
        rw [ih (i := j) (by omega)]
        simp
theorem cells_part {b o : Nat} {l : List (ByteArray × Int)} {sp : List Value} (i n : Nat) (hi : i + n ≤ l.length) : ∀ a ∈ cellsAt b (o + i * 2) (((l.drop i).take n).flatMap entEnc), a ∈ cellsAt b o (l.flatMap entEnc ++ sp) := by
  intro a ha
  have h1 : l.flatMap entEnc = (l.take i).flatMap entEnc ++ (((l.drop i).take n).flatMap entEnc ++ ((l.drop i).drop n).flatMap entEnc) := by
    rw [← List.flatMap_append, ← List.flatMap_append, List.take_append_drop, List.take_append_drop]
  have h2 : ((l.take i).flatMap entEnc).length = i * 2 := by rw [flatMap_len (n := 2) (fun x _ => rfl), List.length_take]; omega
  rw [h1]
  simp only [cellsAt_append, List.mem_append, h2]
  exact .inl (.inr (.inl ha))
end Go.V
namespace Go.Proofs.Ytffmipimgodfdaa
open Go Go.V
set_option maxHeartbeats 6400000
set_option maxRecDepth 100000
set_option linter.unusedSimpArgs false
set_option linter.unusedVariables false
def remD (D : DT) (c : Int) (s : ByteArray) : Int × DT :=
  if 0 ≤ c ∧ c < D.sup.length then
    if mget s (D.dic c) = none then (223, D) else (0, forgetD (layD D c (mdel s (D.dic c))) (fun u => decide (u = s)))
  else (220, D)
theorem entEnc_one (l : List (ByteArray × Int)) : (l.flatMap entEnc).all oneCell = true := by
  rw [List.all_eq_true]; intro x hx
  obtain ⟨d, _, hd⟩ := List.mem_flatMap.1 hx
  simp only [entEnc, List.mem_cons, List.not_mem_nil, or_false] at hd
  rcases hd with rfl | rfl <;> rfl
theorem rremove_spec (t : Nat) (r : RTab) (h : ROk r) (c : Int) (s : ByteArray) :
    Fun Try.prog 31 [ptr0 t, vi c, .string s] (RMem t r) (InstR t (remD r.dt c s)) := by
  refine Fun.intro low31 (by simp [F31]) ?_
  simp only [RMem]
  refine GO ?_
  refine st_call (ris_spec t r h c) (by rfl) (by simp only [RMem]; (focus ((repeat (first | exact Spl.nil | (apply Spl.cons; (focus ((repeat (first | with_reducible exact Tk.here | apply Tk.there)); done))))); done))) (fun v Post hv => ?_)
  obtain ⟨rfl, rfl⟩ := hv
  simp only [RMem, List.cons_append, List.nil_append]
  by_cases hc : 0 ≤ c ∧ c < r.sup.length
  rotate_left
  · simp only [decide_eq_false hc]
    refine GO ?_
    exact endQ_mk (.inr rfl) (.tmp (by rfl) .nil) ⟨r, h, by unfold remD; rw [show (if 0 ≤ c ∧ c < (r.dt.sup.length : Int) then _ else _) = _ from if_neg hc], by unfold remD; rw [show (if 0 ≤ c ∧ c < (r.dt.sup.length : Int) then _ else _) = _ from if_neg hc]; rfl, rfl⟩ (by simp only [RMem]; (first | with_reducible exact Imp.refl | with_reducible exact Imp.left | (focus ((try simp only [List.nil_append]); (repeat (first | exact Imp.nil | (apply Imp.cons; (focus ((repeat (first | with_reducible exact Tk.here | apply Tk.there)); done))))); done))))
  simp only [decide_eq_true hc]
  have hi0 : remD r.dt c s = if mget s (r.dt.dic c) = none then (223, r.dt) else (0, forgetD (layD r.dt c (mdel s (r.dt.dic c))) (fun u => decide (u = s))) := if_pos hc
  rw [hi0]
  refine GO ?_
  refine st_call (rfind_spec t r h c hc s) (by rfl) (by simp only [RMem]; (focus ((repeat (first | exact Spl.nil | (apply Spl.cons; (focus ((repeat (first | with_reducible exact Tk.here | apply Tk.there)); done))))); done))) (fun v Post hv => ?_)
  obtain ⟨rfl, rfl⟩ := hv
  obtain ⟨k, rfl⟩ := Int.eq_ofNat_of_zero_le hc.1
  obtain ⟨d, hd, hdm, hdi⟩ := h.dic hc
  have hk : (k : Int).toNat = k := by simp
  rw [hk] at hd
  rw [hdm]
  have hdd := h.dd d hdi
  have hdn := h.dn d hdi
  have hkl : k < r.dds.length := by have := h.len; omega
  have hsm := h.small
  simp only [RMem, List.cons_append, List.nil_append]
  rcases findZ_mget (m := d.m) (s := s) with ⟨f1, f2⟩ | ⟨i, p, f1, f2, f3, f4⟩
  · rw [f1, f2]
    refine GO ?_
    exact endQ_mk (.inr rfl) (.tmp (by rfl) .nil) ⟨r, h, rfl, rfl, rfl⟩ (by simp only [RMem]; (first | with_reducible exact Imp.refl | with_reducible exact Imp.left | (focus ((try simp only [List.nil_append]); (repeat (first | exact Imp.nil | (apply Imp.cons; (focus ((repeat (first | with_reducible exact Tk.here | apply Tk.there)); done))))); done))))
  rw [f1, f4, mdel_at f1, if_neg (show ¬ (some p.2 = none) by simp)]
  have hil := (List.getElem?_eq_some_iff.1 f2).1
  obtain ⟨b, o, c2, hve, m1⟩ := (show RdRow 1 _ r.dv r.dds.length (r.dds.map fun q => q.v) from h.dv.rd).cell hd
  obtain ⟨b3, o3, c3, hve3, hc3, hcl⟩ := hdd.some (by omega)
  obtain ⟨xr, hx1, hx2⟩ := flat_take (f := dicA) hd
  have hvl : k < (r.dds.map (·.v) ++ r.dsp).length := by simp; omega
  have hopen : Imp (RMem t r) [cellsAt t 0 [r.sv, .slice (some ⟨b, o, none⟩) r.dds.length c2], cellsAt t 2 (r.glob.flatMap kEnc), cellsAt t 194 [r.xv], cellsAt t 195 (telEnc r.tel), slA r.sv (r.sup.map vi) r.ssp, cellsAt b o (r.dds.map (·.v) ++ r.dsp), dicA d, xr, slA r.xv (r.sites.flatMap sitEnc) r.xsp, r.sites.flatMap sitA] := by
    refine Imp.perm ?_
    simp only [RMem, hve, slA_some, List.flatten_cons, List.flatten_nil, List.append_nil]
    repeat' refine List.Perm.append_left _ ?_
    exact (List.Perm.append_right _ hx1).trans (by rw [List.append_assoc])
  refine VO.imp hopen ?_
  simp only [hve, hve3, slA_some] at m1
  simp only [dicA, hve3, slA_some]
  refine GO ?_
  refine VO.imp (Imp.fresh (A := slA (.slice none 0 0) [] []) rfl) ?_
  refine st_slcL (l := 0) (h := i) (o' := o3) (by rfl) .dft (.num (by rfl)) ⟨by omega, by omega⟩ (by split <;> omega) ?_
  refine GO ?_
  have hp1 := cells_part (b := b3) (o := o3) (l := d.m) (sp := d.sp) 0 i (by omega)
  refine st_append (k := 0) (m := i) (xs := []) (sp := []) (ys := (d.m.take i).flatMap entEnc) (by rfl) (by rfl) .nil (by (focus ((repeat (first | with_reducible exact Tk.here | apply Tk.there)); done))) (by rfl) ?_ (by rw [flatMap_len (n := 2) (fun x _ => rfl), List.length_take]; omega) (entEnc_one _) (by rfl) (by decide) (by omega) (fun sv1 sp1 hs1 => ?_)
  · exact ⟨by rw [flatMap_len (n := 2) (fun x _ => rfl), List.length_take]; omega, fun a ha => by
      have := hp1 a (by simpa using ha)
      simp only [List.flatten_cons, List.mem_append]; simp only [this, true_or, or_true]⟩
  rw [Nat.zero_add, List.nil_append] at hs1
  rw [List.nil_append]
  obtain ⟨a1, c1, rfl⟩ := hs1.form
  refine GO ?_
  have hp2 := cells_part (b := b3) (o := o3) (l := d.m) (sp := d.sp) (i + 1) (d.m.length - (i + 1)) (by omega)
  have hdr : (d.m.drop (i + 1)).take (d.m.length - (i + 1)) = d.m.drop (i + 1) := List.take_of_length_le (by rw [List.length_drop]; exact Nat.le_refl _)
  rw [hdr] at hp2
  have hl1 : ((d.m.drop (i + 1)).flatMap entEnc).length = (d.m.length - (i + 1)) * 2 := by rw [flatMap_len (n := 2) (fun x _ => rfl), List.length_drop]
  have hnl : (d.m.take i ++ d.m.drop (i + 1)).length = i + (d.m.length - (i + 1)) := by rw [List.length_append, List.length_take, List.length_drop]; omega
  have hne : (d.m.take i ++ d.m.drop (i + 1)).flatMap entEnc = (d.m.take i).flatMap entEnc ++ (d.m.drop (i + 1)).flatMap entEnc := by simp
  refine VC.seq (VC.draws ⟨?_, ?_, trivial⟩)
  all_goals
    refine GO ?_
    refine st_slcL (l := i + 1) (h := d.m.length) (o' := if c3 = i + 1 then o3 else o3 + (i + 1) * 2) (by rfl) (.num (by rfl)) .dft ⟨by omega, by omega⟩ rfl ?_
    refine GO ?_
    refine st_append (k := i) (m := d.m.length - (i + 1)) (xs := (d.m.take i).flatMap entEnc) (sp := sp1) (ys := (d.m.drop (i + 1)).flatMap entEnc) (by rfl) (by rfl) hs1 (by (focus ((repeat (first | with_reducible exact Tk.here | apply Tk.there)); done))) (by rfl) ?_ hl1 (entEnc_one _) (by rfl) (by decide) (by omega) (fun sv2 sp2 hs2 => ?_)
    · refine ⟨hl1, fun a ha => ?_⟩
      have : a ∈ cellsAt b3 o3 (d.m.flatMap entEnc ++ d.sp) := by
        by_cases e : c3 = i + 1
        · have h0 : d.m.drop (i + 1) = [] := List.drop_of_length_le (by omega)
          rw [h0] at ha
          simp [cellsAt] at ha
        · rw [if_neg e] at ha
          exact hp2 a ha
      simp only [List.flatten_cons, List.mem_append]; simp only [this, true_or, or_true]
    obtain ⟨a2, c4, rfl⟩ := hs2.form
    refine GO ?_
    refine VO.pull (A := cellsAt b o (r.dds.map (·.v) ++ r.dsp)) (by (focus ((repeat (first | with_reducible exact Tk.here | apply Tk.there)); done))) ?_
    refine st_store' (us := [.slice a2 (i + (d.m.length - (i + 1))) c4]) (by rfl) (by rfl) (by rfl) (by rfl) (by rfl) (Upd.set1 (i := k) (by omega) hvl) ?_
    refine GO ?_
    have hok := h.setD (d := ⟨.slice a2 (i + (d.m.length - (i + 1))) c4, d.m.take i ++ d.m.drop (i + 1), sp2⟩) hkl (by simp only [hnl, hne]; exact hs2) (by simp only [hnl]; omega)
    refine VO.imp (Imp.cut ?_ (dict_close (t := t) (r := r) (d' := ⟨.slice a2 (i + (d.m.length - (i + 1))) c4, d.m.take i ++ d.m.drop (i + 1), sp2⟩) (xr := xr) hve hkl (hx2 _))) ?_
    · simp only [dicA, hne]
      (first | with_reducible exact Imp.refl | with_reducible exact Imp.left | (focus ((try simp only [List.nil_append]); (repeat (first | exact Imp.nil | (apply Imp.cons; (focus ((repeat (first | with_reducible exact Tk.here | apply Tk.there)); done))))); done)))
    refine st_call (rforget_spec t _ hok s) (by rfl) (spl_self _) (fun v Post hv => ?_)
    obtain ⟨r', h1, h2, rfl, rfl⟩ := hv
    rw [List.append_nil]
    refine GO ?_
    exact endQ_mk (.inr rfl) (.tmp (by rfl) .nil) ⟨r', h1, by rw [h2, setD_dt], rfl, rfl⟩ (Imp.refl _)
end Go.Proofs.Ytffmipimgodfdaa

/-
  The document's world: files by their names.
-/
import Derived.Test.YtgindbomnbojeaaGreatD6
import Derived.Test.YtgindbomnbojeaaGreatV22
set_option linter.unusedSimpArgs false
set_option linter.unusedVariables false
namespace Go.Proofs.YtgindbomnbojeaaGreat
open Go Go.V
set_option maxHeartbeats 12800000
set_option maxRecDepth 100000
theorem qsorted_spec (lv : Value) (l : List (ByteArray × ByteArray)) (lsp : List Value) (hl : IsSl 2 lv l.length (l.flatMap fiEnc) lsp) (hn : l.length ≤ 1073741824) (ys : List ByteArray) (f : ByteArray → ByteArray × ByteArray)
    (hy : SortedOf ltS (l.map (·.1)) ys) (hd : (l.map (·.1)).Nodup) (hne : ∀ s ∈ l.map (·.1), s ≠ noSel) (hf : ∀ p ∈ l, f p.1 = p) :
    Fun Tryz.prog 115 [lv] [slA lv (l.flatMap fiEnc) lsp] (fun v Post => ∃ sp, IsSl 2 v ys.length ((ys.map f).flatMap fiEnc) sp ∧ Post = [slA v ((ys.map f).flatMap fiEnc) sp]) := by
  refine Fun.intro low115 (by simp [n115]) ?_
  obtain ⟨la, lc, rfl⟩ := hl.form
  have hrd := hl.rd
  have hyl : ys.length = l.length := by rw [hy.1.length_eq, List.length_map]
  generalize slA (.slice la l.length lc) (l.flatMap fiEnc) lsp = L at hrd ⊢
  refine GO ?_
  refine VC.loop (α := Nat × Value × List Value) (Γf := fun y => [(0, .slice la l.length lc), (3, y.2.1)]) (Hf := fun y => slA y.2.1 (((ys.take y.1).map f).flatMap fiEnc) y.2.2 :: [L])
    (I := fun y => y.1 ≤ ys.length ∧ IsSl 2 y.2.1 y.1 (((ys.take y.1).map f).flatMap fiEnc) y.2.2) (μ := fun y => ys.length - y.1) (0, .slice none 0 0, []) ⟨Nat.zero_le _, .nil⟩ (by exact SUx) (Imp.fresh rfl) ?_
  rintro ⟨n, kv, ksp⟩ ⟨hnl, hkv⟩
  simp only at hnl hkv
  obtain ⟨ka, kc, rfl⟩ := hkv.form
  refine GO ?_
  (first | (apply VC.seq_cond; rfl) | (apply VC.cond; rfl))
  rotate_left
  · intro hge
    have hge : ¬ n < l.length := by simpa using hge
    obtain rfl : n = ys.length := by omega
    rw [List.take_length] at hkv ⊢
    refine GO ?_
    exact endQ_mk (Post := [slA (.slice ka ys.length kc) ((ys.map f).flatMap fiEnc) ksp]) (.inr rfl) (.tmp (by rfl) .nil) ⟨ksp, hkv, rfl⟩ (by exact IMx)
  intro hlt
  have hlt : n < l.length := by simpa using hlt
  have hny : n < ys.length := by omega
  refine GO ?_
  refine VC.loop (α := Nat × Int × ByteArray) (Γf := fun y => [(0, .slice la l.length lc), (3, .slice ka n kc), (4, vi y.2.1), (5, vi y.1)]) (Hf := fun _ => slA (.slice ka n kc) (((ys.take n).map f).flatMap fiEnc) ksp :: [L])
    (I := fun y => y.1 ≤ l.length ∧ y.2.2 = bestOf (if n = 0 then none else ys[n - 1]?) ((l.map (·.1)).take y.1) ∧ ((y.2.1 = -1 ∧ y.2.2 = noSel) ∨ ∃ (j : Nat) (p : ByteArray × ByteArray), y.2.1 = j ∧ l[j]? = some p ∧ p.1 = y.2.2)) (μ := fun y => l.length - y.1) (0, -1, noSel) ⟨Nat.zero_le _, rfl, .inl ⟨rfl, rfl⟩⟩ (by exact SUx) (by exact IMx) ?_
  rintro ⟨i, bi, bst⟩ ⟨hi, hb, hbi⟩
  simp only at hi hb hbi
  refine GO ?_
  (first | (apply VC.seq_cond; rfl) | (apply VC.cond; rfl))
  rotate_left
  · intro hge
    have hge : ¬ i < l.length := by simpa using hge
    obtain rfl : i = l.length := by omega
    rw [List.take_of_length_le (by simp), best_next hy hd hne hny] at hb
    subst hb
    have hym : ys[n] ∈ l.map (·.1) := hy.1.mem_iff.1 (List.getElem_mem hny)
    rcases hbi with ⟨_, hh⟩ | ⟨j, p, rfl, hj, hp⟩
    · exact absurd hh (hne _ hym)
    have hpm := List.mem_of_getElem? hj
    have hfp : f ys[n] = p := by rw [← hp]; exact hf p hpm
    obtain ⟨b3, o3, c3, hve3, hcell3⟩ := hrd.at_ (enc := fiEnc) (fun p => rfl) hj
    simp only [Value.slice.injEq, true_and] at hve3
    obtain ⟨rfl, rfl⟩ := hve3
    have hjl := (List.getElem?_eq_some_iff.1 hj).1
    have hys : ys[n]? = some ys[n] := List.getElem?_eq_getElem hny
    refine GO ?_
    refine st_loadA (us := fiEnc p) (by rfl) (fun y hy => by simp only [List.flatten_cons, List.mem_append]; simp only [hcell3 y hy, true_or, or_true]) (by rfl) ?_
    refine GO ?_
    refine st_bslice (out := fiEnc p) (by rfl) (by rfl) (fun q3 => ?_)
    refine GO ?_
    refine st_append (k := n) (m := 1) (xs := ((ys.take n).map f).flatMap fiEnc) (sp := ksp) (ys := fiEnc p) (by rfl) (by rfl) hkv (by exact TKx) (by rfl) ?_ rfl (by rfl) (by rfl) (by decide) (by omega) (fun sv' sp' hsl' => ?_)
    · exact ⟨rfl, fun a ha => by simp only [List.flatten_cons, List.mem_append]; exact .inl ha⟩
    have hstep : ((ys.take n).map f).flatMap fiEnc ++ fiEnc p = ((ys.take (n + 1)).map f).flatMap fiEnc := by rw [List.take_add_one, hys, Option.toList_some, List.map_append, List.flatMap_append, List.map_cons, hfp]; simp
    rw [hstep] at hsl' ⊢
    obtain ⟨a', c', rfl⟩ := hsl'.form
    refine GO ?_
    exact ⟨(n + 1, .slice a' (n + 1) c', sp'), ⟨by show n + 1 ≤ ys.length; omega, hsl'⟩, by show ys.length - (n + 1) < ys.length - n; omega, by exact SUx, by exact IMx⟩
  intro hlt2
  have hlt2 : i < l.length := by simpa using hlt2
  obtain ⟨p, hp⟩ : ∃ p, l[i]? = some p := ⟨l[i], List.getElem?_eq_getElem hlt2⟩
  obtain ⟨b3, o3, c3, hve3, m3⟩ := hrd.at_ (enc := fiEnc) (fun p => rfl) hp
  simp only [Value.slice.injEq, true_and] at hve3
  obtain ⟨rfl, rfl⟩ := hve3
  have m4 : Atom.cell b3 (o3 + i * 2) (.string p.1) ∈ L := m3 _ (mem_cellsAt.2 ⟨0, _, rfl, rfl⟩)
  have hstep := bestOf_step (if n = 0 then none else ys[n - 1]?) (ks := l.map (·.1)) (i := i) (s := p.1) (by simp [hp])
  rw [← hb] at hstep
  have keep : gtO (if n = 0 then none else ys[n - 1]?) p.1 = false → bst = bestOf (if n = 0 then none else ys[n - 1]?) ((l.map (·.1)).take (i + 1)) := fun h1 => by
    rw [hstep]; unfold bestStep; rw [h1]; rfl
  have keep2 : bst ≠ noSel → ltS p.1 bst = false → bst = bestOf (if n = 0 then none else ys[n - 1]?) ((l.map (·.1)).take (i + 1)) := fun h1 h2 => by
    rw [hstep]; unfold bestStep; rw [h2]; simp [h1]
  have new1 : gtO (if n = 0 then none else ys[n - 1]?) p.1 = true → bst = noSel → p.1 = bestOf (if n = 0 then none else ys[n - 1]?) ((l.map (·.1)).take (i + 1)) := fun h1 h2 => by
    rw [hstep]; unfold bestStep; rw [h1]; simp [h2]
  have new2 : gtO (if n = 0 then none else ys[n - 1]?) p.1 = true → ltS p.1 bst = true → p.1 = bestOf (if n = 0 then none else ys[n - 1]?) ((l.map (·.1)).take (i + 1)) := fun h1 h2 => by
    rw [hstep]; unfold bestStep; rw [h1, h2]; simp
  clear hstep
  have stay : bst = bestOf (if n = 0 then none else ys[n - 1]?) ((l.map (·.1)).take (i + 1)) → ∃ s' : Nat × Int × ByteArray, (s'.1 ≤ l.length ∧ s'.2.2 = bestOf (if n = 0 then none else ys[n - 1]?) ((l.map (·.1)).take s'.1) ∧ ((s'.2.1 = -1 ∧ s'.2.2 = noSel) ∨ ∃ (j : Nat) (p : ByteArray × ByteArray), s'.2.1 = j ∧ l[j]? = some p ∧ p.1 = s'.2.2)) ∧ l.length - s'.1 < l.length - i ∧ s'.1 = i + 1 ∧ s'.2.1 = bi :=
    fun h => ⟨(i + 1, bi, bst), ⟨by show i + 1 ≤ l.length; omega, h, hbi⟩, by show l.length - (i + 1) < l.length - i; omega, rfl, rfl⟩
  have move : p.1 = bestOf (if n = 0 then none else ys[n - 1]?) ((l.map (·.1)).take (i + 1)) → ∃ s' : Nat × Int × ByteArray, (s'.1 ≤ l.length ∧ s'.2.2 = bestOf (if n = 0 then none else ys[n - 1]?) ((l.map (·.1)).take s'.1) ∧ ((s'.2.1 = -1 ∧ s'.2.2 = noSel) ∨ ∃ (j : Nat) (p : ByteArray × ByteArray), s'.2.1 = j ∧ l[j]? = some p ∧ p.1 = s'.2.2)) ∧ l.length - s'.1 < l.length - i ∧ s'.1 = i + 1 ∧ s'.2.1 = i :=
    fun h => ⟨(i + 1, i, p.1), ⟨by show i + 1 ≤ l.length; omega, h, .inr ⟨i, p, rfl, hp, rfl⟩⟩, by show l.length - (i + 1) < l.length - i; omega, rfl, rfl⟩
  by_cases h0 : n = 0
  · have hg : gtO (if n = 0 then none else ys[n - 1]?) p.1 = true := by rw [if_pos h0]; rfl
    refine GO ?_
    simp only [show ¬ ((n : Nat) : Int) > 0 by omega, decide_false]
    refine GO ?_
    rcases hbi with ⟨rfl, hbn⟩ | ⟨j, pj, rfl, hj, hpj⟩
    · refine GO ?_
      obtain ⟨s', hs1, hs2, hs3, hs4⟩ := move (new1 hg hbn)
      exact ⟨s', hs1, hs2, by rw [hs3, hs4]; exact SUx, by exact IMx⟩
    · have hjl := (List.getElem?_eq_some_iff.1 hj).1
      obtain ⟨b5, o5, c5, hve5, m5⟩ := hrd.at_ (enc := fiEnc) (fun p => rfl) hj
      simp only [Value.slice.injEq, Option.some.injEq, Addr.mk.injEq, and_true, true_and] at hve5
      obtain ⟨⟨rfl, rfl⟩, rfl⟩ := hve5
      have m7 := m5 _ (mem_cellsAt.2 ⟨0, (.string pj.1), rfl, rfl⟩)
      rw [hpj] at m7
      have hbne : bst ≠ noSel := by rw [← hpj]; exact hne _ (List.mem_map_of_mem (List.mem_of_getElem? hj))
      simp only [show ¬ ((j : Nat) : Int) < 0 by omega, decide_false]
      refine GO ?_
      generalize hc2 : Op.bytesLess p.1.toList bst.toList = cb2
      cases cb2 with
      | true =>
        refine GO ?_
        obtain ⟨s', hs1, hs2, hs3, hs4⟩ := move (new2 hg hc2)
        exact ⟨s', hs1, hs2, by rw [hs3, hs4]; exact SUx, by exact IMx⟩
      | false =>
        refine GO ?_
        obtain ⟨s', hs1, hs2, hs3, hs4⟩ := stay (keep2 hbne hc2)
        exact ⟨s', hs1, hs2, by rw [hs3, hs4]; exact SUx, by exact IMx⟩
  have hlast : ys[n - 1]? = some ys[n - 1] := List.getElem?_eq_getElem (by omega)
  have hfl : ((ys.take n).map f)[n - 1]? = some (f ys[n - 1]) := by rw [List.getElem?_map, List.getElem?_take, if_pos (by omega), hlast]; rfl
  have hf1 : (f ys[n - 1]).1 = ys[n - 1] := by
    obtain ⟨q, hq, hqe⟩ := List.mem_map.1 (hy.1.mem_iff.1 (List.getElem_mem (show n - 1 < ys.length by omega)))
    rw [← hqe, hf q hq]
  have hln : ((ys.take n).map f).length = n := by simp; omega
  obtain ⟨b4, o4, c4, hve4, hcell4⟩ := (show RdRow 2 (slA (.slice ka n kc) (((ys.take n).map f).flatMap fiEnc) ksp) (.slice ka n kc) ((ys.take n).map f).length (((ys.take n).map f).flatMap fiEnc) by rw [hln]; exact hkv.rd).at_ (enc := fiEnc) (fun p => rfl) hfl
  rw [hln] at hve4
  simp only [Value.slice.injEq, true_and] at hve4
  obtain ⟨rfl, rfl⟩ := hve4
  have hn1 : ((n : Int) - 1).toNat = n - 1 := by omega
  have m6 : Atom.cell b4 (o4 + ((n : Int) - 1).toNat * 2) (.string ys[n - 1]) ∈ slA (.slice (some ⟨b4, o4, none⟩) n kc) (((ys.take n).map f).flatMap fiEnc) ksp := by
    rw [hn1]; exact hcell4 _ (mem_cellsAt.2 ⟨0, _, by simp only [fiEnc, hf1]; rfl, rfl⟩)
  refine GO ?_
  simp only [show ((n : Nat) : Int) > 0 by omega, decide_true]
  refine GO ?_
  have hgs := gt_some ys[n - 1] p.1
  have hgo : (if n = 0 then none else ys[n - 1]?) = some ys[n - 1] := by rw [if_neg h0, hlast]
  generalize hc : (Op.bytesLess p.1.toList ys[n - 1].toList || decide (p.1 = ys[n - 1])) = cb at hgs ⊢
  cases cb with
  | true =>
    refine GO ?_
    obtain ⟨s', hs1, hs2, hs3, hs4⟩ := stay (keep (by rw [hgo, hgs]; rfl))
    exact ⟨s', hs1, hs2, by rw [hs3, hs4]; exact SUx, by exact IMx⟩
  | false =>
    have hg : gtO (if n = 0 then none else ys[n - 1]?) p.1 = true := by rw [hgo, hgs]; rfl
    refine GO ?_
    rcases hbi with ⟨rfl, hbn⟩ | ⟨j, pj, rfl, hj, hpj⟩
    · refine GO ?_
      obtain ⟨s', hs1, hs2, hs3, hs4⟩ := move (new1 hg hbn)
      exact ⟨s', hs1, hs2, by rw [hs3, hs4]; exact SUx, by exact IMx⟩
    · have hjl := (List.getElem?_eq_some_iff.1 hj).1
      obtain ⟨b5, o5, c5, hve5, m5⟩ := hrd.at_ (enc := fiEnc) (fun p => rfl) hj
      simp only [Value.slice.injEq, Option.some.injEq, Addr.mk.injEq, and_true, true_and] at hve5
      obtain ⟨⟨rfl, rfl⟩, rfl⟩ := hve5
      have m7 := m5 _ (mem_cellsAt.2 ⟨0, (.string pj.1), rfl, rfl⟩)
      rw [hpj] at m7
      have hbne : bst ≠ noSel := by rw [← hpj]; exact hne _ (List.mem_map_of_mem (List.mem_of_getElem? hj))
      simp only [show ¬ ((j : Nat) : Int) < 0 by omega, decide_false]
      refine GO ?_
      generalize hc2 : Op.bytesLess p.1.toList bst.toList = cb2
      cases cb2 with
      | true =>
        refine GO ?_
        obtain ⟨s', hs1, hs2, hs3, hs4⟩ := move (new2 hg hc2)
        exact ⟨s', hs1, hs2, by rw [hs3, hs4]; exact SUx, by exact IMx⟩
      | false =>
        refine GO ?_
        obtain ⟨s', hs1, hs2, hs3, hs4⟩ := stay (keep2 hbne hc2)
        exact ⟨s', hs1, hs2, by rw [hs3, hs4]; exact SUx, by exact IMx⟩
end Go.Proofs.YtgindbomnbojeaaGreat
namespace Go.V
open Go
def named (l : List (ByteArray × ByteArray × ByteArray)) : List (ByteArray × ByteArray) := (l.filter (fun p => decide (p.1 ≠ nilTx))).map (fun p => (p.1, p.2.1))
theorem named_fst (l : List (ByteArray × ByteArray × ByteArray)) : (named l).map (·.1) = (l.filter (fun p => decide (p.1 ≠ nilTx))).map (·.1) := by simp [named, List.map_map, Function.comp_def]
theorem named_succ {l : List (ByteArray × ByteArray × ByteArray)} {k : Nat} {p : ByteArray × ByteArray × ByteArray} (h : l[k]? = some p) : named (l.take (k + 1)) = named (l.take k) ++ (if p.1 = nilTx then [] else [(p.1, p.2.1)]) := by
  unfold named
  rw [List.take_add_one, h, Option.toList_some, List.filter_append, List.map_append]
  by_cases e : p.1 = nilTx <;> simp [e]
theorem named_le (l : List (ByteArray × ByteArray × ByteArray)) : (named l).length ≤ l.length := by unfold named; rw [List.length_map]; exact List.length_filter_le _ _
theorem QRep.fileOf {r : QR} {a : AW} {M : Nat} (h : QRep r a M) : ∀ p ∈ V.named r.all, V.fileOf a p.1 = p := by
  intro p hp
  obtain ⟨q, hq, rfl⟩ := List.mem_map.1 hp
  obtain ⟨hq, hne⟩ := List.mem_filter.1 hq
  obtain ⟨i, hi⟩ := List.mem_iff_getElem?.1 hq
  have hm := (h.names i q hi q.1 (by simpa using hne)).2 rfl
  have hl := h.alen
  have hil := (List.getElem?_eq_some_iff.1 hi).1
  obtain ⟨p', hp', e1, _⟩ := h.file (show i < a.files.length by omega)
  rw [hi] at hp'; cases hp'
  unfold V.fileOf nowOf
  rw [hm]
  simp only [Option.getD_some]
  rw [show ((a.files[i]?).getD ⟨[], [], []⟩) = fileAt a i from rfl, ← e1]
end Go.V
namespace Go.Proofs.YtgindbomnbojeaaGreat
open Go Go.V
set_option maxHeartbeats 12800000
set_option maxRecDepth 100000
theorem qfiles_spec (t : Nat) (r : QR) (a : AW) (M : Nat) (hM : M ≤ 1073741000) (h : QRep r a M) (hk : (a.names.map (·.1)).Nodup) (hin : ∀ p ∈ a.names, p.2 < a.files.length) (ys : List ByteArray) (hys : SortedOf ltS (a.names.map (·.1)) ys) :
    Fun Tryz.prog 66 [ptr0 t] (QMem t r) (fun v Post => ∃ sp, IsSl 2 v ys.length ((ys.map (fileOf a)).flatMap fiEnc) sp ∧ Post = QMem t r ++ [slA v ((ys.map (fileOf a)).flatMap fiEnc) sp]) := by
  refine Fun.intro low66 (by simp [n66]) ?_
  obtain ⟨sa, sc, hsv⟩ := h.as.form
  have hrd := h.as.rd
  have hm := h.am
  rw [hsv] at hrd
  simp only [QMem, hsv]
  generalize slA (.slice sa r.all.length sc) (r.all.flatMap alEnc) r.asp = L at hrd ⊢
  refine GO ?_
  refine VC.loop (α := Nat × Value × List Value) (Γf := fun y => [(0, ptr0 t), (3, y.2.1), (4, vi y.1)]) (Hf := fun y => slA y.2.1 ((named (r.all.take y.1)).flatMap fiEnc) y.2.2 :: [cellsAt t 0 [r.cv, .slice sa r.all.length sc, r.wv, r.hv, r.tv, vi r.now, .bool r.dead], slA r.cv (r.choices.flatMap chEnc) r.csp, L, slA r.wv (r.ws.flatMap rwEnc) r.wsp, slA r.hv (r.hs.flatMap rhEnc) r.hsp, slA r.tv (r.told.flatMap deEnc) r.tsp])
    (I := fun y => y.1 ≤ r.all.length ∧ IsSl 2 y.2.1 (named (r.all.take y.1)).length ((named (r.all.take y.1)).flatMap fiEnc) y.2.2) (μ := fun y => r.all.length - y.1) (0, .slice none 0 0, []) ⟨Nat.zero_le _, .nil⟩ (by exact SUx) (Imp.fresh rfl) ?_
  rintro ⟨k, kv, ksp⟩ ⟨hkl, hkv⟩
  simp only at hkl hkv
  obtain ⟨ka, kc, rfl⟩ := hkv.form
  have hle := named_le (r.all.take k)
  rw [List.length_take] at hle
  refine GO ?_
  (first | (apply VC.seq_cond; rfl) | (apply VC.cond; rfl))
  rotate_left
  · intro hge
    have hge : ¬ k < r.all.length := by simpa using hge
    rw [List.take_of_length_le (by omega)] at hkv ⊢
    have hperm := h.named hk hin
    rw [← named_fst] at hperm
    refine GO ?_
    refine st_call (qsorted_spec _ (named r.all) ksp hkv (Nat.le_trans (named_le r.all) (by omega)) ys (fileOf a) ⟨hys.1.trans hperm.symm, hys.2⟩ (hperm.nodup_iff.2 hk) (fun s hs => ?_) h.fileOf) (by rfl) (by exact SPx) (fun v Post hv => ?_)
    · rw [named_fst] at hs
      obtain ⟨q, hq, rfl⟩ := List.mem_map.1 hs
      have := (List.mem_filter.1 hq).2
      exact of_decide_eq_true this
    obtain ⟨sp, hsl, rfl⟩ := hv
    obtain ⟨a1, c1, rfl⟩ := hsl.form
    refine GO ?_
    exact endQ_mk (.inr rfl) (.tmp (by rfl) .nil) ⟨sp, hsl, rfl⟩ (by simp only [List.cons_append, List.nil_append, show tup [Value.slice a1 ys.length c1] = Value.slice a1 ys.length c1 from rfl]; exact IMx)
  intro hlt
  have hlt : k < r.all.length := by simpa using hlt
  obtain ⟨x, hx⟩ : ∃ x, r.all[k]? = some x := ⟨r.all[k], List.getElem?_eq_getElem hlt⟩
  obtain ⟨b, o, c, hve, hcell⟩ := hrd.at_ (enc := alEnc) alEnc_len hx
  simp only [Value.slice.injEq, true_and] at hve
  obtain ⟨rfl, rfl⟩ := hve
  have m0 : Atom.cell b (o + k * 3) (.string x.1) ∈ L := hcell _ (mem_cellsAt.2 ⟨0, _, rfl, rfl⟩)
  have m1 : Atom.cell b (o + k * 3 + 1) (.string x.2.1) ∈ L := hcell _ (mem_cellsAt.2 ⟨1, _, rfl, rfl⟩)
  have hs := named_succ hx
  refine GO ?_
  by_cases e : x.1 = nilTx
  · have e' : x.1 = ⟨#[]⟩ := e
    rw [if_pos e, List.append_nil] at hs
    simp only [decide_eq_true e', Bool.not_true]
    refine GO ?_
    exact ⟨(k + 1, .slice ka (named (r.all.take k)).length kc, ksp), ⟨by show k + 1 ≤ r.all.length; omega, by simp only [hs]; exact hkv⟩, by show r.all.length - (k + 1) < r.all.length - k; omega, by exact SUx, by simp only [hs]; exact IMx⟩
  have e' : ¬ x.1 = ⟨#[]⟩ := e
  rw [if_neg e] at hs
  simp only [decide_eq_false e', Bool.not_false]
  refine GO ?_
  refine st_bslice (out := fiEnc (x.1, x.2.1)) (by rfl) (by rfl) (fun q3 => ?_)
  refine GO ?_
  refine st_append (k := (named (r.all.take k)).length) (m := 1) (xs := (named (r.all.take k)).flatMap fiEnc) (sp := ksp) (ys := fiEnc (x.1, x.2.1)) (by rfl) (by rfl) hkv (by exact TKx) (by rfl) ?_ rfl (by rfl) (by rfl) (by decide) (by omega) (fun sv' sp' hsl' => ?_)
  · exact ⟨rfl, fun a ha => by simp only [List.flatten_cons, List.mem_append]; exact .inl ha⟩
  have hfl : (named (r.all.take k) ++ [(x.1, x.2.1)]).flatMap fiEnc = (named (r.all.take k)).flatMap fiEnc ++ fiEnc (x.1, x.2.1) := by simp
  have hln : (named (r.all.take k) ++ [(x.1, x.2.1)]).length = (named (r.all.take k)).length + 1 := by simp
  rw [← hfl, ← hln, ← hs] at hsl'
  rw [← hfl, ← hs]
  obtain ⟨a', c', rfl⟩ := hsl'.form
  refine GO ?_
  exact ⟨(k + 1, _, sp'), ⟨by show k + 1 ≤ r.all.length; omega, hsl'⟩, by show r.all.length - (k + 1) < r.all.length - k; omega, by exact SUx, by exact IMx⟩
end Go.Proofs.YtgindbomnbojeaaGreat

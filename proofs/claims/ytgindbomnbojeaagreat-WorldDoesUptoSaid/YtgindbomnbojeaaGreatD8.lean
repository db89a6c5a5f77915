/-
  The document's world: what is left behind a crash.
-/
import Derived.Test.YtgindbomnbojeaaGreatD7
import Derived.Test.YtgindbomnbojeaaGreatV22
set_option linter.unusedSimpArgs false
set_option linter.unusedVariables false
namespace Go.Proofs.YtgindbomnbojeaaGreat
open Go Go.V
set_option maxHeartbeats 12800000
set_option maxRecDepth 100000
theorem zeroRow_s (n : Nat) : zeroRow n [.string nilTx] = (List.replicate n nilTx).map Value.string := by
  apply List.ext_getElem
  · simp [zeroRow]
  · intro i h1 h2; simp [zeroRow, Nat.mod_one]
theorem qleft_spec (A : List Atom) (t : Nat) (r : QR) (a : AW) (M : Nat) (hM : M ≤ 1073741000) (h : QRep r a M) (hA : AOk a) (hk : (a.names.map (·.1)).Nodup) (hin : ∀ p ∈ a.names, p.2 < a.files.length)
    (hbd : ∀ f, f < a.files.length → (fileAt a f).base.length ≤ 4194304 ∧ ∀ x ∈ (fileAt a f).writes, 0 ≤ x.at_ ∧ x.at_ + x.text.size ≤ 4194304)
    (wn : Nat) (hwn : wn < 18446744073709551616) (cv : Value) (cs : List Ch) (hc : RdRow 3 A cv cs.length (cs.flatMap chEnc)) (hcl : cs.length ≤ 1073741824) :
    Fun Tryz.prog 15 [ptr0 t, .int .u64 wn, cv] (QMem t r ++ [A]) (fun v Post => ∃ t' r' ys, v = ptr0 t' ∧ SortedOf ltI (seqsOf a a.names) ys ∧ QRep r' (leftC a (keptT wn ys ys.length) (cs.take 65536) (orderOf r.all r.all.length)) M ∧ (orderOf r.all r.all.length).Perm a.names ∧ Post = QMem t' r' ++ (QMem t r ++ [A])) := by
  refine Fun.intro low15 (by simp [n15]) ?_
  obtain ⟨ca, cc, hcv⟩ := hc.form
  rw [hcv] at hc ⊢
  obtain ⟨sa, sc, hsv⟩ := h.as.form
  obtain ⟨wa, wc, hwv⟩ := h.wsl.form
  have hard := h.as.rd
  have hwrd := h.wsl.rd
  have ham := h.am
  have hwm := h.wm
  have hal := h.alen
  rw [hsv] at hard
  rw [hwv] at hwrd
  have hseqs := h.seqs hA hk hin
  have hord := h.order hk hin
  generalize hys : (liveW r.all r.ws).map (·.2.seq) = ys at hseqs
  have hynd : ys.Nodup := (hseqs.1.nodup_iff).2 (seqs_nodup hA hin)
  generalize hmm : keptT wn ys ys.length = m
  have hkept : ∀ i y, ys[i]? = some y → mget y m = some (keepB wn i) := fun i y hy => by rw [← hmm]; exact kept_at hynd _ (Nat.le_refl _) i y (List.getElem?_eq_some_iff.1 hy).1 hy
  simp only [QMem, hsv, hwv, List.cons_append, List.nil_append]
  generalize hLL : slA (.slice sa r.all.length sc) (r.all.flatMap alEnc) r.asp = AL at hard ⊢
  generalize hWW : slA (.slice wa r.ws.length wc) (r.ws.flatMap rwEnc) r.wsp = WL at hwrd ⊢
  refine GO ?_
  refine st_box (by rfl) (fun tx => ?_)
  simp only [Value.cells]
  refine GO ?_
  obtain ⟨hh, hhe⟩ : ∃ hh : Nat, hh = min cs.length 65536 := ⟨_, rfl⟩
  have hmin : (if (65536 : Int) < (cs.length : Nat) then (65536 : Int) else (cs.length : Nat)) = ((hh : Nat) : Int) := by split <;> omega
  rw [hmin]
  refine st_slcRow (by rfl) hc (.num (by rfl)) (by omega) (fun dv hdv => ?_)
  rw [← flatMap_take_len (enc := chEnc) (size := 3) (fun c => rfl)] at hdv
  have htk : cs.take hh = cs.take 65536 := by rw [List.take_eq_take_iff]; omega
  rw [htk] at hdv
  have hlen65 : (cs.take 65536).length = hh := by rw [List.length_take]; omega
  rw [← hlen65] at hdv
  have hl65 : (cs.take 65536).length ≤ 65536 := by omega
  clear hhe hmin htk hlen65
  obtain ⟨da, dc, rfl⟩ := hdv.form
  generalize cs.take 65536 = cs1 at hdv hl65 ⊢
  refine VO.imp (Imp.fresh (A := slA (.slice none 0 0) [] []) rfl) ?_
  refine st_append (k := 0) (m := cs1.length) (xs := []) (sp := []) (ys := cs1.flatMap chEnc) (by rfl) (by rfl) .nil .here (by rfl) ?_ ?_ (chEnc_one _) (by rfl) (by decide) (by omega) (fun sv' sp' hsl' => ?_)
  · rcases hdv with ⟨e1, e2, e3⟩ | ⟨b, o, c, e1, e2, e3, e4⟩
    · simp only [Value.slice.injEq] at e1
      obtain ⟨rfl, -, -⟩ := e1
      simpa [Src] using e3
    · simp only [Value.slice.injEq, true_and] at e1
      obtain ⟨rfl, rfl⟩ := e1
      exact ⟨e3, fun x hx => by simp only [List.flatten_cons, List.mem_append]; simp only [e4 x hx, true_or, or_true]⟩
  · exact flat_lenS chEnc_len cs1
  rw [Nat.zero_add, List.nil_append] at hsl'
  rw [List.nil_append]
  obtain ⟨a1, c1, rfl⟩ := hsl'.form
  refine GO ?_
  refine st_mkslice (li := r.all.length) (ci := r.all.length) (by rfl) (by rfl) (by omega) (by rfl) (fun db => ?_)
  simp only [Int.toNat_natCast]
  rw [show zeroRow r.all.length [Value.string ⟨#[]⟩] = (List.replicate r.all.length nilTx).map Value.string from zeroRow_s _]
  refine GO ?_
  refine VC.loop (α := Nat × List ByteArray) (Γf := fun y => [(0, ptr0 t), (1, .int .u64 wn), (7, ptr0 tx), (8, .slice (some ⟨db, 0, none⟩) r.all.length r.all.length), (9, vi y.1)])
    (Hf := fun y => [cellsAt db 0 (y.2.map Value.string), cellsAt tx 0 [.slice a1 cs1.length c1, .slice none 0 0, .slice none 0 0, .slice none 0 0, .slice none 0 0, vi r.now, .bool false], slA (.slice a1 cs1.length c1) (cs1.flatMap chEnc) sp', cellsAt t 0 [r.cv, .slice sa r.all.length sc, .slice wa r.ws.length wc, r.hv, r.tv, vi r.now, .bool r.dead], slA r.cv (r.choices.flatMap chEnc) r.csp, AL, WL, slA r.hv (r.hs.flatMap rhEnc) r.hsp, slA r.tv (r.told.flatMap deEnc) r.tsp, A])
    (I := fun y => y.1 ≤ r.all.length ∧ y.2.length = r.all.length ∧ ∀ f p, f < y.1 → r.all[f]? = some p → y.2[f]? = some p.2.2) (μ := fun y => r.all.length - y.1) (0, List.replicate r.all.length nilTx) ⟨Nat.zero_le _, by simp, by intro f p hf; omega⟩ (by exact SUx) (by exact IMx) ?_
  rintro ⟨k, L⟩ ⟨hkl, hLl, hL⟩
  simp only at hkl hLl hL
  refine GO ?_
  (first | (apply VC.seq_cond; rfl) | (apply VC.cond; rfl))
  · intro hlt
    have hlt : k < r.all.length := by simpa using hlt
    obtain ⟨x, hx⟩ : ∃ x, r.all[k]? = some x := ⟨r.all[k], List.getElem?_eq_getElem hlt⟩
    obtain ⟨b, o, c, hve, hcell⟩ := hard.at_ (enc := alEnc) alEnc_len hx
    simp only [Value.slice.injEq, true_and] at hve
    obtain ⟨rfl, rfl⟩ := hve
    have m2 : Atom.cell b (o + k * 3 + 2) (.string x.2.2) ∈ AL := hcell _ (mem_cellsAt.2 ⟨2, _, rfl, rfl⟩)
    refine GO ?_
    refine st_store' (us := [.string x.2.2]) (by rfl) (by rfl) (by rfl) (by rfl) (by rfl) (Upd.set1 (i := k) (by omega) (by rw [List.length_map]; omega)) ?_
    rw [show (L.map Value.string).set k (.string x.2.2) = (L.set k x.2.2).map Value.string by rw [List.map_set]]
    refine GO ?_
    refine ⟨(k + 1, L.set k x.2.2), ⟨by show k + 1 ≤ r.all.length; omega, by rw [List.length_set]; exact hLl, fun f p hf hp => ?_⟩, by show r.all.length - (k + 1) < r.all.length - k; omega, by exact SUx, by exact IMx⟩
    by_cases e : k = f
    · subst e; rw [hx] at hp; cases hp
      exact List.getElem?_set_self (by omega)
    · rw [List.getElem?_set_ne e]; exact hL f p (by simp only at hf; omega) hp
  intro hge
  have hge : ¬ k < r.all.length := by simpa using hge
  obtain rfl : k = r.all.length := by omega
  have hI : LeftI r a m 0 L := by
    refine ⟨hLl, fun f hf => ?_⟩
    obtain ⟨n, hn⟩ := (h.named_iff hk hin f).1 hf
    have hfl : f < a.files.length := hin _ hn
    obtain ⟨p, hp, _, e⟩ := h.file hfl
    rw [hL f p (by omega) hp, e]
    simp [partF]
  clear hL
  refine GO ?_
  refine VC.loop (α := Nat × List ByteArray) (Γf := fun y => [(0, ptr0 t), (1, .int .u64 ((wn / 2 ^ (liveW r.all (r.ws.take y.1)).length : Nat) : Int)), (7, ptr0 tx), (8, .slice (some ⟨db, 0, none⟩) r.all.length r.all.length), (10, vi ((liveW r.all (r.ws.take y.1)).length : Nat)), (11, vi y.1)])
    (Hf := fun y => [cellsAt db 0 (y.2.map Value.string), cellsAt tx 0 [.slice a1 cs1.length c1, .slice none 0 0, .slice none 0 0, .slice none 0 0, .slice none 0 0, vi r.now, .bool false], slA (.slice a1 cs1.length c1) (cs1.flatMap chEnc) sp', cellsAt t 0 [r.cv, .slice sa r.all.length sc, .slice wa r.ws.length wc, r.hv, r.tv, vi r.now, .bool r.dead], slA r.cv (r.choices.flatMap chEnc) r.csp, AL, WL, slA r.hv (r.hs.flatMap rhEnc) r.hsp, slA r.tv (r.told.flatMap deEnc) r.tsp, A])
    (I := fun y => y.1 ≤ r.ws.length ∧ LeftI r a m y.1 y.2) (μ := fun y => r.ws.length - y.1) (0, L) ⟨Nat.zero_le _, hI⟩ (by simp only [List.take_zero, liveW, List.filter_nil, List.length_nil, Nat.pow_zero, Nat.div_one]; exact SUx) (by exact IMx) ?_
  clear hI hLl
  rintro ⟨k, L⟩ ⟨hkl, hI⟩
  simp only at hkl hI
  obtain ⟨c, hcd⟩ : ∃ c, c = (liveW r.all (r.ws.take k)).length := ⟨_, rfl⟩
  have hcl2 : c ≤ r.ws.length := by rw [hcd]; exact Nat.le_trans (List.length_filter_le _ _) (by rw [List.length_take]; omega)
  simp only [← hcd]
  refine GO ?_
  (first | (apply VC.seq_cond; rfl) | (apply VC.cond; rfl))
  · intro hlt
    have hlt : k < r.ws.length := by simpa using hlt
    obtain ⟨x, hx⟩ : ∃ x, r.ws[k]? = some x := ⟨r.ws[k], List.getElem?_eq_getElem hlt⟩
    have hxf := h.win x (List.mem_of_getElem? hx)
    have hlive := live_succ (all := r.all) hx
    rw [← hcd] at hlive
    obtain ⟨y, hy⟩ : ∃ y, r.all[x.1]? = some y := ⟨r.all[x.1]'(by omega), List.getElem?_eq_getElem (by omega)⟩
    obtain ⟨b, o, cw, hve, hcell⟩ := hwrd.at_ (enc := rwEnc) (fun p => rfl) hx
    simp only [Value.slice.injEq, true_and] at hve
    obtain ⟨rfl, rfl⟩ := hve
    obtain ⟨b2, o2, c2, hve2, hcell2⟩ := hard.at_ (enc := alEnc) alEnc_len hy
    simp only [Value.slice.injEq, true_and] at hve2
    obtain ⟨rfl, rfl⟩ := hve2
    have m0 : Atom.cell b (o + k * 4) (vi x.1) ∈ WL := hcell _ (mem_cellsAt.2 ⟨0, _, rfl, rfl⟩)
    have n0 : Atom.cell b2 (o2 + x.1 * 3) (.string y.1) ∈ AL := hcell2 _ (mem_cellsAt.2 ⟨0, _, rfl, rfl⟩)
    have hxl : x.1 < r.all.length := by omega
    refine GO ?_
    by_cases e : y.1 = nilTx
    · have hna : namedAt r.all x.1 = false := by rw [namedAt_at hy]; simp [e]
      rw [hna] at hlive
      have e' : y.1 = ⟨#[]⟩ := e
      simp only [decide_eq_true e']
      refine GO ?_
      exact ⟨(k + 1, L), ⟨by show k + 1 ≤ r.ws.length; omega, hI.skip hx hna⟩, by show r.ws.length - (k + 1) < r.ws.length - k; omega, by simp only [hlive, Bool.false_eq_true, if_false, Nat.add_zero]; exact SUx, by exact IMx⟩
    have hna : namedAt r.all x.1 = true := by rw [namedAt_at hy]; simp [e]
    rw [hna] at hlive
    have e' : ¬ y.1 = ⟨#[]⟩ := e
    simp only [decide_eq_false e']
    refine GO ?_
    have hat := live_at hx hna
    rw [hys, ← hcd] at hat
    have hkp := hkept _ _ hat
    have hdiv : IntKind.u64.wrap (((wn / 2 ^ c : Nat) : Int).tdiv 2) = ((wn / 2 ^ (c + 1) : Nat) : Int) := by
      have h1 : wn / 2 ^ (c + 1) = wn / 2 ^ c / 2 := by rw [Nat.pow_succ, Nat.div_div_eq_div_mul]
      have h2 : wn / 2 ^ c < 18446744073709551616 := Nat.lt_of_le_of_lt (Nat.div_le_self _ _) hwn
      rw [h1]
      generalize wn / 2 ^ c = z at h2
      rw [Int.tdiv_eq_ediv_of_nonneg (Int.natCast_nonneg _)]
      simp only [IntKind.wrap, IntKind.bits, IntKind.signed]; simp; omega
    have hrem : ((wn / 2 ^ c : Nat) : Int).tmod 2 = ((wn / 2 ^ c % 2 : Nat) : Int) := by
      rw [Int.tmod_eq_emod_of_nonneg (Int.natCast_nonneg _)]; omega
    by_cases h64 : c < 64
    · rw [keepB_nat h64] at hkp
      simp only [show (c : Int) < 64 by omega, decide_true]
      refine GO ?_
      rw [hrem]
      have hbnd := hbd x.1 hxf
      have hpl := partF_le (m := m) (i := k) h hxf hbnd.1 hbnd.2
      have hxb : 0 ≤ x.2.at_ ∧ x.2.at_ + x.2.text.size ≤ 4194304 := hbnd.2 x.2 (by rw [← h.ws x.1 hxf]; exact List.mem_map.2 ⟨x, List.mem_filter.2 ⟨List.mem_of_getElem? hx, by simp⟩, rfl⟩)
      have hLx := hI.2 x.1 hna
      have hLl := hI.1
      by_cases hb : wn / 2 ^ c % 2 = 1
      · rw [hb] at hkp ⊢
        simp only [show ((1 : Nat) : Int) = 1 from rfl, decide_true] at hkp ⊢
        refine GO ?_
        refine st_load1 (v := .string (ftxt (partF r a m k x.1))) (by rfl) (.cells (Nat.zero_le _) (by simp [hLx])) ?_
        refine GO ?_
        refine st_loadA (us := rwEnc x) (by rfl) (fun y hy => by simp only [List.flatten_cons, List.mem_append]; simp only [hcell y hy, true_or, or_true]) (by rfl) ?_
        refine GO ?_
        refine st_call (qdone_spec (partF r a m k x.1) x.1 x.2 hpl hxb) (by rfl) Spl.nil (fun v Post hv => ?_)
        obtain ⟨rfl, rfl⟩ := hv
        rw [List.nil_append]
        refine GO ?_
        refine st_store' (us := [.string (ftxt (onL x.2 (partF r a m k x.1)))]) (by rfl) (by rfl) (by rfl) (by rfl) (by rfl) (Upd.set1 (i := x.1) (by omega) (by rw [List.length_map]; omega)) ?_
        rw [show (L.map Value.string).set x.1 (.string (ftxt (onL x.2 (partF r a m k x.1)))) = (L.set x.1 (ftxt (onL x.2 (partF r a m k x.1)))).map Value.string by rw [List.map_set]]
        refine GO ?_
        rw [hdiv]
        exact ⟨(k + 1, _), ⟨by show k + 1 ≤ r.ws.length; omega, hI.keep hx hxl hkp⟩, by show r.ws.length - (k + 1) < r.ws.length - k; omega, by simp only [hlive, if_true]; exact SUx, by exact IMx⟩
      · have hb0 : wn / 2 ^ c % 2 = 0 := by omega
        rw [hb0] at hkp ⊢
        simp only [show ¬ (((0 : Nat) : Int) = 1) by omega, show ¬ ((0 : Nat) = 1) by omega, decide_false] at hkp ⊢
        refine GO ?_
        rw [hdiv]
        exact ⟨(k + 1, L), ⟨by show k + 1 ≤ r.ws.length; omega, hI.drop hx hkp⟩, by show r.ws.length - (k + 1) < r.ws.length - k; omega, by simp only [hlive, if_true]; exact SUx, by exact IMx⟩
    · have hkf : keepB (wn : Int) c = false := by simp [keepB, h64]
      rw [hkf] at hkp
      simp only [show ¬ (c : Int) < 64 by omega, decide_false]
      refine GO ?_
      rw [hdiv]
      exact ⟨(k + 1, L), ⟨by show k + 1 ≤ r.ws.length; omega, hI.drop hx hkp⟩, by show r.ws.length - (k + 1) < r.ws.length - k; omega, by simp only [hlive, if_true]; exact SUx, by exact IMx⟩
  intro hge
  have hge : ¬ k < r.ws.length := by simpa using hge
  obtain rfl : k = r.ws.length := by omega
  have hLl := hI.1
  have hL : ∀ f, namedAt r.all f = true → L[f]? = some (ftxt (recF m (fileAt a f))) := by
    intro f hf
    obtain ⟨n, hn⟩ := (h.named_iff hk hin f).1 hf
    rw [hI.2 f hf, partF_all h (hin _ hn)]
  clear hI
  refine GO ?_
  refine VC.loop (α := Nat × Value × List Value) (Γf := fun y => [(0, ptr0 t), (7, ptr0 tx), (8, .slice (some ⟨db, 0, none⟩) r.all.length r.all.length), (13, vi y.1)])
    (Hf := fun y => slA y.2.1 ((leftAll r a m y.1).flatMap alEnc) y.2.2 :: [cellsAt tx 0 [.slice a1 cs1.length c1, y.2.1, .slice none 0 0, .slice none 0 0, .slice none 0 0, vi r.now, .bool false], cellsAt db 0 (L.map Value.string), slA (.slice a1 cs1.length c1) (cs1.flatMap chEnc) sp', cellsAt t 0 [r.cv, .slice sa r.all.length sc, .slice wa r.ws.length wc, r.hv, r.tv, vi r.now, .bool r.dead], slA r.cv (r.choices.flatMap chEnc) r.csp, AL, WL, slA r.hv (r.hs.flatMap rhEnc) r.hsp, slA r.tv (r.told.flatMap deEnc) r.tsp, A])
    (I := fun y => y.1 ≤ r.all.length ∧ IsSl 3 y.2.1 (leftAll r a m y.1).length ((leftAll r a m y.1).flatMap alEnc) y.2.2) (μ := fun y => r.all.length - y.1) (0, .slice none 0 0, []) ⟨Nat.zero_le _, .nil⟩ (by exact SUx) (Imp.cut (by exact IMx) (Imp.fresh rfl)) ?_
  rintro ⟨i, kv, ksp⟩ ⟨hil, hkv⟩
  simp only at hil hkv
  obtain ⟨ka, kc, rfl⟩ := hkv.form
  have hlal := leftAll_le (r := r) (a := a) (m := m) (i := i)
  refine GO ?_
  (first | (apply VC.seq_cond; rfl) | (apply VC.cond; rfl))
  rotate_left
  · intro hge
    have hge : ¬ i < r.all.length := by simpa using hge
    obtain rfl : i = r.all.length := by omega
    have hR := h.left hk hin (m := m) (fun f hf => foldl_kept_le (hbd f hf).1 (hbd f hf).2) hsl' hl65 hkv
    refine GO ?_
    refine endQ_mk (Post := QMem tx _ ++ _) (.inr rfl) (.tmp (by rfl) .nil) ⟨tx, _, ys, rfl, hseqs, by rw [hmm]; exact hR, hord, rfl⟩ ?_
    simp only [QMem, List.cons_append, List.nil_append]
    generalize hX1 : slA (.slice a1 cs1.length c1) (cs1.flatMap chEnc) sp' = X1
    generalize hX2 : slA (.slice ka (leftAll r a m r.all.length).length kc) ((leftAll r a m r.all.length).flatMap alEnc) ksp = X2
    refine Imp.cut (M := [cellsAt tx 0 [.slice a1 cs1.length c1, .slice ka (leftAll r a m r.all.length).length kc, .slice none 0 0, .slice none 0 0, .slice none 0 0, vi r.now, .bool false], X1, X2, cellsAt t 0 [r.cv, .slice sa r.all.length sc, .slice wa r.ws.length wc, r.hv, r.tv, vi r.now, .bool r.dead], slA r.cv (r.choices.flatMap chEnc) r.csp, AL, WL, slA r.hv (r.hs.flatMap rhEnc) r.hsp, slA r.tv (r.told.flatMap deEnc) r.tsp, A]) (by exact IMx) (Imp.perm ?_)
    have hn0 : slA (.slice none 0 0) [] [] = [] := rfl
    simp only [List.flatMap_nil, hn0, List.flatten_cons, List.flatten_nil, List.append_nil, List.nil_append]
    exact .refl _
  intro hlt
  have hlt : i < r.all.length := by simpa using hlt
  obtain ⟨y, hy⟩ : ∃ y, r.all[i]? = some y := ⟨r.all[i], List.getElem?_eq_getElem hlt⟩
  have hsu := leftAll_succ (a := a) (m := m) hy
  obtain ⟨b2, o2, c2, hve2, hcell2⟩ := hard.at_ (enc := alEnc) alEnc_len hy
  simp only [Value.slice.injEq, true_and] at hve2
  obtain ⟨rfl, rfl⟩ := hve2
  have n0 : Atom.cell b2 (o2 + i * 3) (.string y.1) ∈ AL := hcell2 _ (mem_cellsAt.2 ⟨0, _, rfl, rfl⟩)
  refine GO ?_
  by_cases e : y.1 = nilTx
  · have e' : y.1 = ⟨#[]⟩ := e
    rw [if_pos e, List.append_nil] at hsu
    simp only [decide_eq_true e', Bool.not_true]
    refine GO ?_
    exact ⟨(i + 1, .slice ka (leftAll r a m i).length kc, ksp), ⟨by show i + 1 ≤ r.all.length; omega, by simp only [hsu]; exact hkv⟩, by show r.all.length - (i + 1) < r.all.length - i; omega, by exact SUx, by simp only [hsu]; exact IMx⟩
  have e' : ¬ y.1 = ⟨#[]⟩ := e
  rw [if_neg e] at hsu
  have hLi := hL i (by rw [namedAt_at hy]; simp [e])
  simp only [decide_eq_false e', Bool.not_false]
  refine GO ?_
  refine st_load1 (v := .string (ftxt (recF m (fileAt a i)))) (by rfl) (by refine .there (.there (.cells (Nat.zero_le _) (by simp [hLi])))) ?_
  refine GO ?_
  refine st_load1 (v := .string (ftxt (recF m (fileAt a i)))) (by rfl) (by refine .there (.there (.cells (Nat.zero_le _) (by simp [hLi])))) ?_
  refine GO ?_
  refine st_bslice (out := alEnc (y.1, ftxt (recF m (fileAt a i)), ftxt (recF m (fileAt a i)))) (by rfl) (by rfl) (fun q3 => ?_)
  refine GO ?_
  refine st_append (k := (leftAll r a m i).length) (m := 1) (xs := (leftAll r a m i).flatMap alEnc) (sp := ksp) (ys := alEnc (y.1, ftxt (recF m (fileAt a i)), ftxt (recF m (fileAt a i)))) (by rfl) (by rfl) hkv (by exact TKx) (by rfl) ?_ rfl (by rfl) (by rfl) (by decide) (by omega) (fun sv' sp' hsl' => ?_)
  · exact ⟨rfl, fun a ha => by simp only [List.flatten_cons, List.mem_append]; exact .inl ha⟩
  have hfl : (leftAll r a m i ++ [(y.1, ftxt (recF m (fileAt a i)), ftxt (recF m (fileAt a i)))]).flatMap alEnc = (leftAll r a m i).flatMap alEnc ++ alEnc (y.1, ftxt (recF m (fileAt a i)), ftxt (recF m (fileAt a i))) := by simp
  have hln : (leftAll r a m i ++ [(y.1, ftxt (recF m (fileAt a i)), ftxt (recF m (fileAt a i)))]).length = (leftAll r a m i).length + 1 := by simp
  rw [← hfl, ← hln, ← hsu] at hsl'
  rw [← hfl, ← hsu]
  obtain ⟨a', c', rfl⟩ := hsl'.form
  refine GO ?_
  exact ⟨(i + 1, _, sp'), ⟨by show i + 1 ≤ r.all.length; omega, hsl'⟩, by show r.all.length - (i + 1) < r.all.length - i; omega, by exact SUx, by exact IMx⟩
end Go.Proofs.YtgindbomnbojeaaGreat

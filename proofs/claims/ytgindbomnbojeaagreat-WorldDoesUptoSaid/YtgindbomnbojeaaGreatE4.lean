/-
  The statement of both worlds: what it does.
-/
import Derived.Test.YtgindbomnbojeaaGreatE3
import Derived.Test.YtgindbomnbojeaaGreatD9
import Derived.Test.YtgindbomnbojeaaGreatD6
import Derived.Test.YtgindbomnbojeaaGreatP8
import Derived.Test.YtgindbomnbojeaaGreatCE
set_option linter.unusedSimpArgs false
set_option linter.unusedVariables false
namespace Go.V
open Go
theorem Rep.bounds {w : WR} {a : AW} {M : Nat} (h : Rep w a M) : ∀ f, f < a.files.length → (fileAt a f).base.length ≤ 4194304 ∧ ∀ x ∈ (fileAt a f).writes, 0 ≤ x.at_ ∧ x.at_ + x.text.size ≤ 4194304 := by
  intro f hf
  obtain ⟨b, fo, h1, h2, h3, h4⟩ := h.file hf
  have e : fileAt a f = foF fo := by simp [fileAt, h3]
  rw [e]
  exact ⟨h4.len2, h4.at_⟩
end Go.V
namespace Go.Proofs.YtgindbomnbojeaaGreat
open Go Go.V
set_option maxHeartbeats 12800000
set_option maxRecDepth 100000
theorem left_fl (A : List Atom) (t : Nat) (w : WR) (a : AW) (M : Nat) (hM : M ≤ 1073741823) (hR : Rep w a M) (hA : AOk a) (which : Int) (hwh : 0 ≤ which) (cv : Value) (cs : List Ch) (hc : RdRow 3 A cv cs.length (cs.flatMap chEnc)) (hcl : cs.length ≤ 1073741824) :
    Fun Tryz.prog 14 [ptr0 t, .int .u64 which, cv] [PW t w, A] (fun v Post => ∃ t' w' a', v = ptr0 t' ∧ LeftR a which cs a' ∧ Rep w' a' 0 ∧ Post = [PW t' w', PW t w, A]) := by
  refine (left_spec A t w a M hM hR hA which hwh cv cs hc hcl).conv (R := []) (by simp [V.Spl, PW]) ?_
  rintro v Post ⟨t', w', a', rfl, h1, h2, rfl⟩
  exact ⟨_, ⟨t', w', a', rfl, h1, h2, rfl⟩, Imp.perm (by simp [PW])⟩
theorem qleft_fl (A : List Atom) (t : Nat) (r : QR) (a : AW) (M : Nat) (hM : M ≤ 1073741000) (h : QRep r a M) (hA : AOk a) (hk : (a.names.map (·.1)).Nodup) (hin : ∀ p ∈ a.names, p.2 < a.files.length)
    (hbd : ∀ f, f < a.files.length → (fileAt a f).base.length ≤ 4194304 ∧ ∀ x ∈ (fileAt a f).writes, 0 ≤ x.at_ ∧ x.at_ + x.text.size ≤ 4194304)
    (wn : Nat) (hwn : wn < 18446744073709551616) (cv : Value) (cs : List Ch) (hc : RdRow 3 A cv cs.length (cs.flatMap chEnc)) (hcl : cs.length ≤ 1073741824) :
    Fun Tryz.prog 15 [ptr0 t, .int .u64 wn, cv] [DW t r, A] (fun v Post => ∃ t' r' ys, v = ptr0 t' ∧ SortedOf ltI (seqsOf a a.names) ys ∧ QRep r' (leftC a (keptT wn ys ys.length) (cs.take 65536) (orderOf r.all r.all.length)) M ∧ (orderOf r.all r.all.length).Perm a.names ∧ Post = [DW t' r', DW t r, A]) := by
  refine (qleft_spec A t r a M hM h hA hk hin hbd wn hwn cv cs hc hcl).conv (R := []) (by simp [V.Spl, DW]) ?_
  rintro v Post ⟨t', r', ys, rfl, h1, h2, h3, rfl⟩
  exact ⟨_, ⟨t', r', ys, rfl, h1, h2, h3, rfl⟩, Imp.perm (by simp [DW])⟩
theorem lentC_rd (b o c : Nat) (cs : List Ch) (sp : List Value) (h : cs.length * 3 + 6 + sp.length = c * 3) : RdRow 3 (cellsAt b o (lentC cs ++ sp)) (.slice (some ⟨b, o, none⟩) cs.length c) cs.length (cs.flatMap chEnc) :=
  .inr ⟨b, o, c, rfl, by omega, flat_lenS chEnc_len cs, fun x hx => by simp only [lentC, cellsAt_append, List.mem_append]; exact .inl (.inl hx)⟩
theorem lentF_rd (b o c : Nat) (cs : List (ByteArray × ByteArray)) (sp : List Value) (h : cs.length * 2 + 4 + sp.length = c * 2) : RdRow 2 (cellsAt b o (lentF cs ++ sp)) (.slice (some ⟨b, o, none⟩) cs.length c) cs.length (cs.flatMap fiEnc) :=
  .inr ⟨b, o, c, rfl, by omega, flat_lenS fiEnc_len cs, fun x hx => by simp only [lentF, cellsAt_append, List.mem_append]; exact .inl (.inl hx)⟩
theorem lentC_len (c : Nat) (cs : List Ch) (sp : List Value) (h : cs.length * 3 + 6 + sp.length = c * 3) : (lentC cs ++ sp).length = c * 3 := by
  have := flat_lenS chEnc_len cs
  simp only [lentC, markC, List.length_append, this, List.length_cons, List.length_nil]; omega
theorem lentF_len (c : Nat) (cs : List (ByteArray × ByteArray)) (sp : List Value) (h : cs.length * 2 + 4 + sp.length = c * 2) : (lentF cs ++ sp).length = c * 2 := by
  have := flat_lenS fiEnc_len cs
  simp only [lentF, markF, List.length_append, this, List.length_cons, List.length_nil]; omega
theorem newA_none : newA [] [] = some { emptyA with choices := [] } := rfl
def wzRest : IC := match F3.body with | .seq _ (.seq _ (.seq _ (.seq _ (.seq _ (.seq _ (.seq _ (.seq _ (.seq _ (.seq _ (.seq _ (.seq _ (.seq _ (.seq _ (.seq _ (.seq _ (.seq _ r)))))))))))))))) => r | _ => .skip
def wzHead (r : IC) : IC := match F3.body with | .seq a (.seq b (.seq c (.seq d (.seq e (.seq f (.seq g (.seq h (.seq i (.seq j (.seq k (.seq l (.seq m (.seq n (.seq o (.seq p (.seq q _)))))))))))))))) => .seq a (.seq b (.seq c (.seq d (.seq e (.seq f (.seq g (.seq h (.seq i (.seq j (.seq k (.seq l (.seq m (.seq n (.seq o (.seq p (.seq q r)))))))))))))))) | _ => .skip
theorem wz_body : F3.body = wzHead wzRest := rfl
def noFo : Nat × FO := (0, ⟨[], [], [], .bool true, .bool true, .bool true, [], [], []⟩)
theorem wzRest_spec (A : List Atom) (lv mv : Value) (l : List ActW) (ms : List Ch) (wn : Nat) (hwn : wn < 18446744073709551616) (t tr q t2 : Nat) (w w2 : WR) (r : QR) (a : AW) (k : Bk)
    (hl : RdRow 5 A lv l.length (l.flatMap actEnc)) (hm : RdRow 3 A mv ms.length (ms.flatMap chEnc)) (hll : l.length ≤ 1048576) (hls : ∀ x ∈ l, x.name.size ≤ 1048576 ∧ x.text.size ≤ 1048576) (hml : ms.length ≤ 1048576)
    (h : Twin w r a l.length) (hk : BkOk k l.length) (h2 : Rep w2 { emptyA with choices := [] } 0) :
    VC Tryz.prog F3.n wzRest [(2, lv), (3, .int .u64 wn), (4, mv), (11, .bool true), (14, ptr0 t), (18, ptr0 tr), (20, ptr0 t2), (22, ptr0 q)] [A, PW t w, DW tr r, BA q k, PW t2 w2] (endQ F3.res (fun v Post => v = .bool true ∧ Post = [A])) := by
  obtain ⟨la, lc, hle⟩ := hl.form
  obtain ⟨ma, mc, hme⟩ := hm.form
  rw [hle] at hl ⊢
  rw [hme] at hm ⊢
  refine GO ?_
  refine st_call (lentChoices_spec A _ ms hm hml) (by rfl) (by exact SPx) (fun v Post hv => ?_)
  obtain ⟨b, o, c, sp, rfl, hc, hcc, rfl⟩ := hv
  simp only [CNx]
  refine GO ?_
  refine st_call (left_fl (cellsAt b o (lentC ms ++ sp)) t w a l.length (by omega) h.rep h.inv.ok wn (by omega) _ ms (lentC_rd b o c ms sp hc) (by omega)) (by rfl) (by exact SPx) (fun v Post hv => ?_)
  obtain ⟨t3, w3, a3, rfl, hL, hR3, rfl⟩ := hv
  simp only [CNx]
  refine GO ?_
  refine st_call (qleft_fl A tr r a l.length (by omega) h.doc h.inv.ok h.inv.keys h.inv.nin h.rep.bounds wn hwn _ ms hm (by omega)) (by rfl) (by exact SPx) (fun v Post hv => ?_)
  obtain ⟨t4, r4, ys, rfl, hys, hQ4, hperm, rfl⟩ := hv
  simp only [CNx]
  have hI3 := hL.inv h.inv.keys
  obtain ⟨ord, zs, hord, hzs, rfl⟩ := hL
  obtain rfl : ys = zs := sorted_unique ltI_ok hys hzs
  obtain ⟨s, b4, hs, hR4, hQ5, hI4⟩ := left_both hR3 hQ4 hI3 (hperm.trans hord.symm) noFo
  have hturn : Imp [PW t3 w3] [PW t3 (turnW noFo s w3)] := Imp.cut (M := WMem t3 w3) (Imp.perm (by simp only [PW, List.flatten_cons, List.flatten_nil, List.append_nil]; exact .refl _)) (Imp.cut (WMem_turn (t := t3) (d := noFo) hs) (Imp.perm (by simp only [PW, List.flatten_cons, List.flatten_nil, List.append_nil]; exact .refl _)))
  generalize turnW noFo s w3 = w4 at hR4 hturn
  have hT : Twin w4 r4 b4 l.length := ⟨hR4.mono (by omega), hQ5, hI4⟩
  refine GO ?_
  refine st_call (wholeChoices_spec A b o c sp _ ms hc hm (by omega)) (by rfl) (by exact SPx) (fun v Post hv => ?_)
  obtain ⟨rfl, rfl⟩ := hv
  simp only [CNx]
  refine GO ?_
  refine st_call (spoilChoices_spec b o ms.length c (lentC ms ++ sp) (lentC_len c ms sp hc) (by omega) (by omega)) (by rfl) (by exact SPx) (fun v Post hv => ?_)
  obtain ⟨rfl, rfl⟩ := hv
  simp only [CNx]
  refine GO ?_
  refine VC.loop (α := Nat × WR × QR × AW × Bk) (Γf := fun y => [(2, .slice la l.length lc), (11, .bool true), (14, ptr0 t), (18, ptr0 tr), (20, ptr0 t2), (22, ptr0 q), (26, ptr0 t3), (27, ptr0 t4), (28, .bool true), (29, vi y.1)]) (Hf := fun y => [A, PW t3 y.2.1, DW t4 y.2.2.1, BA q y.2.2.2.2, PW t w, DW tr r, PW t2 w2])
    (I := fun y => y.1 ≤ l.length ∧ Twin y.2.1 y.2.2.1 y.2.2.2.1 (l.length + y.1) ∧ BkOk y.2.2.2.2 (l.length + y.1)) (μ := fun y => l.length - y.1) (0, w4, r4, b4, k) ⟨Nat.zero_le _, hT, hk⟩ (by exact SUx) (Imp.cut (M := [PW t3 w3, A, DW t4 r4, BA q k, PW t w, DW tr r, PW t2 w2]) (by exact IMx) ?_) ?_
  · obtain ⟨R, hR⟩ := hturn
    refine ⟨R, ?_⟩
    simp only [V.Spl, List.flatten_cons, List.flatten_nil, List.append_nil] at hR ⊢
    refine (List.Perm.append_right _ hR).trans ?_
    simp only [List.append_assoc]
    refine List.Perm.trans (List.Perm.append_left _ (List.perm_append_comm)) ?_
    simp only [List.append_assoc]
    exact perm_lead _ _ _
  rintro ⟨i, wi, ri, ai, ki⟩ ⟨hi, hTi, hki⟩
  simp only at hi hTi hki
  refine GO ?_
  (first | (apply VC.seq_cond; rfl) | (apply VC.cond; rfl))
  · intro hlt
    have hlt : i < l.length := by simpa using hlt
    obtain ⟨x, hx⟩ : ∃ x, l[i]? = some x := ⟨l[i], by simp [hlt]⟩
    obtain ⟨bb, oo, cc, hve, hcell⟩ := hl.at_ (enc := actEnc) (fun p => rfl) hx
    simp only [Value.slice.injEq, true_and] at hve
    obtain ⟨rfl, rfl⟩ := hve
    have hxs := hls x (List.mem_of_getElem? hx)
    refine GO ?_
    refine st_loadA (us := actEnc x) (by rfl) (fun y hy => by simp only [List.flatten_cons, List.mem_append]; simp only [hcell y hy, true_or, or_true]) (by rfl) ?_
    refine GO ?_
    refine st_call (both_does t3 t4 q wi ri ai (l.length + i) (l.length + i) ki hTi hki (by omega) (by omega) x (by omega) (by omega)) (by rfl) (by exact SPx) (fun v Post hv => ?_)
    obtain ⟨rfl, wj, rj, aj, kj, hTj, hkj, rfl⟩ := hv
    simp only [CNx]
    refine GO ?_
    exact ⟨(i + 1, wj, rj, aj, kj), ⟨by show i + 1 ≤ l.length; omega, hTj, hkj⟩, by show l.length - (i + 1) < l.length - i; omega, by exact SUx, by exact IMx⟩
  intro hge
  refine GO ?_
  refine st_call (looks_spec t tr q w r a (l.length + i) (l.length + i) ki ⟨h.rep.mono (by omega), h.doc.mono (by omega), h.inv⟩ hki (by omega) (by omega)) (by rfl) (by exact SPx) (fun v Post hv => ?_)
  obtain ⟨rfl, k5, hk5, rfl⟩ := hv
  simp only [CNx]
  refine GO ?_
  refine st_call (looks_spec t3 t4 q wi ri ai (l.length + i) (l.length + i + 1) k5 hTi hk5 (by omega) (by omega)) (by rfl) (by exact SPx) (fun v Post hv => ?_)
  obtain ⟨rfl, k6, hk6, rfl⟩ := hv
  simp only [CNx]
  refine GO ?_
  refine st_call (files_fl t2 w2 _ 0 (by omega) h2) (by rfl) (by exact SPx) (fun v Post hv => ?_)
  obtain ⟨ns, nsp, hns, hnv, rfl⟩ := hv
  obtain rfl : ns = [] := by have := hns.1.length_eq; simp [emptyA] at this; exact this
  obtain ⟨na, nc, rfl⟩ := hnv.form
  simp only [CNx]
  refine GO ?_
  refine st_call (trace_fl t2 w2 _ 0 (by omega) h2) (by rfl) (by exact SPx) (fun v Post hv => ?_)
  obtain ⟨tsp, htv, rfl⟩ := hv
  obtain ⟨ta, tc, rfl⟩ := htv.form
  simp only [CNx]
  refine GO ?_
  refine st_call (bookOwn_spec q k6 _ hk6 (by omega)) (by rfl) (by exact SPx) (fun v Post hv => ?_)
  obtain ⟨rfl, rfl⟩ := hv
  simp only [CNx]
  refine GO ?_
  exact endQ_mk (Post := [A]) (.inr rfl) (.tmp (by rfl) .nil) ⟨by first | rfl | simp [tup], rfl⟩ (by exact IMx)
theorem worldDoes_spec (A : List Atom) (cv fv lv mv : Value) (cs : List Ch) (fs : List (ByteArray × ByteArray)) (l : List ActW) (ms : List Ch) (wn : Nat) (hwn : wn < 18446744073709551616)
    (hc : RdRow 3 A cv cs.length (cs.flatMap chEnc)) (hf : RdRow 2 A fv fs.length (fs.flatMap fiEnc)) (hl : RdRow 5 A lv l.length (l.flatMap actEnc)) (hm : RdRow 3 A mv ms.length (ms.flatMap chEnc))
    (hcl : cs.length ≤ 1048576) (hfl : fs.length ≤ 1048576) (hfs : ∀ p ∈ fs, p.1.size ≤ 1048576 ∧ p.2.size ≤ 1048576) (hll : l.length ≤ 1048576) (hls : ∀ x ∈ l, x.name.size ≤ 1048576 ∧ x.text.size ≤ 1048576) (hml : ms.length ≤ 1048576) :
    Fun Tryz.prog 3 [cv, fv, lv, .int .u64 wn, mv] [A] (fun v Post => v = .bool true ∧ Post = [A]) := by
  refine Fun.intro low3 (by simp [n3]) ?_
  have rest := fun (t tr q t2 : Nat) (w w2 : WR) (r : QR) (a : AW) (k : Bk) => wzRest_spec A lv mv l ms wn hwn t tr q t2 w w2 r a k hl hm hll hls hml
  rw [wz_body]
  generalize wzRest = body at rest ⊢
  obtain ⟨ca, cc, hce⟩ := hc.form
  obtain ⟨fa, fc, hfe⟩ := hf.form
  obtain ⟨la, lc, hle⟩ := hl.form
  obtain ⟨ma, mc, hme⟩ := hm.form
  rw [hce] at hc ⊢
  rw [hfe] at hf ⊢
  rw [hle] at hl rest ⊢
  rw [hme] at hm rest ⊢
  have hfs2 : ∀ p ∈ fs, p.1.size ≤ 4611686018427387904 ∧ p.2.size ≤ 4611686018427387904 := fun p hp => ⟨by have := (hfs p hp).1; omega, by have := (hfs p hp).2; omega⟩
  refine GO ?_
  refine st_call works_spec (by rfl) Spl.nil (fun v Post hv => ?_)
  obtain ⟨rfl, rfl⟩ := hv
  simp only [List.nil_append]
  refine GO ?_
  simp only [show ¬ ((cs.length : Int) > 33554431) from by omega, decide_false]
  refine GO ?_
  simp only [show ¬ ((fs.length : Int) > 33554431) from by omega, decide_false]
  refine GO ?_
  simp only [show ¬ ((ms.length : Int) > 33554431) from by omega, decide_false]
  refine GO ?_
  refine st_call (lentChoices_spec A _ cs hc hcl) (by rfl) (by exact SPx) (fun v Post hv => ?_)
  obtain ⟨b, o, c, sp, rfl, hcs, hcc, rfl⟩ := hv
  simp only [CNx]
  refine GO ?_
  refine st_call (lentFiles_spec A _ fs hf hfl) (by rfl) (by exact SPx) (fun v Post hv => ?_)
  obtain ⟨b2, o2, c2, sp2, rfl, hcs2, hcc2, rfl⟩ := hv
  simp only [CNx]
  have hrc := lentC_rd b o c cs sp hcs
  have hrf := lentF_rd b2 o2 c2 fs sp2 hcs2
  have hlc := lentC_len c cs sp hcs
  have hlf := lentF_len c2 fs sp2 hcs2
  refine GO ?_
  refine VO.imp (H' := [cellsAt b o (lentC cs ++ sp) ++ cellsAt b2 o2 (lentF fs ++ sp2), A]) (Imp.cut (M := [cellsAt b o (lentC cs ++ sp), cellsAt b2 o2 (lentF fs ++ sp2), A]) (by exact IMx) (Imp.perm (by simp))) ?_
  have hnew := new_spec (cellsAt b o (lentC cs ++ sp) ++ cellsAt b2 o2 (lentF fs ++ sp2)) _ _ cs fs (hrc.mono (fun x hx => List.mem_append_left _ hx)) (hrf.mono (fun x hx => List.mem_append_right _ hx)) (by omega) (by omega) hfs2
  have hq := qnew_spec A _ _ cs fs hc hf (by omega) (by omega) hfs2
  cases hn : newA cs fs with
  | none =>
    rw [hn] at hnew hq
    refine st_call hnew (by rfl) (by exact SPx) (fun v Post hv => ?_)
    obtain ⟨rfl, rfl⟩ := hv
    simp only [CNx]
    refine VO.imp (H' := [cellsAt b o (lentC cs ++ sp), cellsAt b2 o2 (lentF fs ++ sp2), A]) (Imp.perm (by simp)) ?_
    refine GO ?_
    refine st_call (wholeChoices_spec A b o c sp _ cs hcs hc (by omega)) (by rfl) (by exact SPx) (fun v Post hv => ?_)
    obtain ⟨rfl, rfl⟩ := hv
    simp only [CNx]
    refine GO ?_
    refine st_call (wholeFiles_spec A b2 o2 c2 sp2 _ fs hcs2 hf (by omega)) (by rfl) (by exact SPx) (fun v Post hv => ?_)
    obtain ⟨rfl, rfl⟩ := hv
    simp only [CNx]
    refine GO ?_
    refine st_call hq (by rfl) (by exact SPx) (fun v Post hv => ?_)
    obtain ⟨rfl, rfl⟩ := hv
    simp only [CNx]
    refine GO ?_
    exact endQ_mk (Post := [A]) (.inr rfl) (.tmp (by rfl) .nil) ⟨rfl, rfl⟩ (by exact IMx)
  | some a =>
    rw [hn] at hnew hq
    have hnew2 := hnew.conv (H := [cellsAt b o (lentC cs ++ sp) ++ cellsAt b2 o2 (lentF fs ++ sp2)]) (R := []) (Q' := fun v Post => ∃ t w, v = .tuple #[ptr0 t, vi 0] ∧ Rep w a 0 ∧ Post = [PW t w, cellsAt b o (lentC cs ++ sp) ++ cellsAt b2 o2 (lentF fs ++ sp2)]) (by simp [V.Spl]) (by rintro v Post ⟨t, w, h1, h2, rfl⟩; exact ⟨_, ⟨t, w, h1, h2, rfl⟩, Imp.perm (by simp [PW])⟩)
    refine st_call hnew2 (by rfl) (by exact SPx) (fun v Post hv => ?_)
    obtain ⟨t, w, rfl, hR, rfl⟩ := hv
    simp only [CNx]
    refine VO.imp (H' := [PW t w, cellsAt b o (lentC cs ++ sp), cellsAt b2 o2 (lentF fs ++ sp2), A]) (Imp.perm (by simp)) ?_
    refine GO ?_
    refine st_call (wholeChoices_spec A b o c sp _ cs hcs hc (by omega)) (by rfl) (by exact SPx) (fun v Post hv => ?_)
    obtain ⟨rfl, rfl⟩ := hv
    simp only [CNx]
    refine GO ?_
    refine st_call (wholeFiles_spec A b2 o2 c2 sp2 _ fs hcs2 hf (by omega)) (by rfl) (by exact SPx) (fun v Post hv => ?_)
    obtain ⟨rfl, rfl⟩ := hv
    simp only [CNx]
    refine GO ?_
    have hq2 := hq.conv (H := [A]) (R := []) (Q' := fun v Post => ∃ t r, v = .tuple #[ptr0 t, vi 0] ∧ QRep r a 0 ∧ Post = [DW t r, A]) (by simp [V.Spl]) (by rintro v Post ⟨t, r, h1, h2, rfl⟩; exact ⟨_, ⟨t, r, h1, h2, rfl⟩, Imp.perm (by simp [DW])⟩)
    refine st_call hq2 (by rfl) (by exact SPx) (fun v Post hv => ?_)
    obtain ⟨tr, r, rfl, hQ, rfl⟩ := hv
    simp only [CNx]
    have hT : Twin w r a 0 := ⟨hR, hQ, newA_inv hn⟩
    refine GO ?_
    refine st_call (spoilChoices_spec b o cs.length c (lentC cs ++ sp) hlc (by omega) (by omega)) (by rfl) (by exact SPx) (fun v Post hv => ?_)
    obtain ⟨rfl, rfl⟩ := hv
    simp only [CNx]
    refine GO ?_
    refine st_call (spoilFiles_spec b2 o2 fs.length c2 (lentF fs ++ sp2) hlf (by omega) (by omega)) (by rfl) (by exact SPx) (fun v Post hv => ?_)
    obtain ⟨rfl, rfl⟩ := hv
    simp only [CNx]
    refine GO ?_
    have hnil := new_spec [] (.slice none 0 0) (.slice none 0 0) [] [] (.inl ⟨rfl, rfl, rfl⟩) (.inl ⟨rfl, rfl, rfl⟩) (by simp) (by simp) (by simp)
    rw [newA_none] at hnil
    have hnil2 := hnil.conv (H := []) (R := []) (Q' := fun v Post => ∃ t w, v = .tuple #[ptr0 t, vi 0] ∧ Rep w { emptyA with choices := [] } 0 ∧ Post = [PW t w]) (by simp [V.Spl]) (by rintro v Post ⟨t, r, h1, h2, rfl⟩; exact ⟨_, ⟨t, r, h1, h2, rfl⟩, Imp.perm (by simp [PW])⟩)
    refine st_call hnil2 (by rfl) Spl.nil (fun v Post hv => ?_)
    obtain ⟨t2, w2, rfl, hR2, rfl⟩ := hv
    simp only [CNx]
    refine GO ?_
    refine st_box (by rfl) (fun q => ?_)
    simp only [Value.cells]
    have hk0 : BkOk ⟨.slice none 0 0, [], [], .slice none 0 0, [], []⟩ 0 := ⟨.nil, .nil, by simp, by simp, by simp, by simp, Nat.le_refl _, Nat.le_refl _⟩
    refine VO.imp (H' := [A, PW t w, DW tr r, BA q ⟨.slice none 0 0, [], [], .slice none 0 0, [], []⟩, PW t2 w2]) (Imp.cut (M := [A, PW t w, DW tr r, cellsAt q 0 (bkDF (.slice none 0 0) (.slice none 0 0)), PW t2 w2]) (by simp only [bkDF]; exact IMx) (Imp.perm (by simp [BA, BkM, slA]))) ?_
    refine GO ?_
    refine VC.loop (α := Nat × WR × QR × AW × Bk) (Γf := fun y => [(2, .slice la l.length lc), (3, .int .u64 wn), (4, .slice ma ms.length mc), (11, .bool true), (14, ptr0 t), (18, ptr0 tr), (20, ptr0 t2), (22, ptr0 q), (23, vi y.1)]) (Hf := fun y => [A, PW t y.2.1, DW tr y.2.2.1, BA q y.2.2.2.2, PW t2 w2])
      (I := fun y => y.1 ≤ l.length ∧ Twin y.2.1 y.2.2.1 y.2.2.2.1 y.1 ∧ BkOk y.2.2.2.2 y.1) (μ := fun y => l.length - y.1) (0, w, r, a, _) ⟨Nat.zero_le _, hT, hk0⟩ (by exact SUx) (by exact IMx) ?_
    rintro ⟨i, wi, ri, ai, ki⟩ ⟨hi, hTi, hki⟩
    simp only at hi hTi hki
    refine GO ?_
    (first | (apply VC.seq_cond; rfl) | (apply VC.cond; rfl))
    · intro hlt
      have hlt : i < l.length := by simpa using hlt
      obtain ⟨x, hx⟩ : ∃ x, l[i]? = some x := ⟨l[i], by simp [hlt]⟩
      obtain ⟨bb, oo, cc', hve, hcell⟩ := hl.at_ (enc := actEnc) (fun p => rfl) hx
      simp only [Value.slice.injEq, true_and] at hve
      obtain ⟨rfl, rfl⟩ := hve
      have hxs := hls x (List.mem_of_getElem? hx)
      refine GO ?_
      refine st_loadA (us := actEnc x) (by rfl) (fun y hy => by simp only [List.flatten_cons, List.mem_append]; simp only [hcell y hy, true_or, or_true]) (by rfl) ?_
      refine GO ?_
      refine st_call (both_does t tr q wi ri ai i i ki hTi hki (by omega) (by omega) x (by omega) (by omega)) (by rfl) (by exact SPx) (fun v Post hv => ?_)
      obtain ⟨rfl, wj, rj, aj, kj, hTj, hkj, rfl⟩ := hv
      simp only [CNx]
      refine GO ?_
      exact ⟨(i + 1, wj, rj, aj, kj), ⟨by show i + 1 ≤ l.length; omega, hTj, hkj⟩, by show l.length - (i + 1) < l.length - i; omega, by exact SUx, by exact IMx⟩
    intro hge
    have hge : ¬ i < l.length := by simpa using hge
    obtain rfl : i = l.length := by omega
    refine GO ?_
    exact VC.imp (by exact IMx) (VC.sub (by exact SUx) (rest t tr q t2 wi w2 ri ai ki hTi hki hR2))
end Go.Proofs.YtgindbomnbojeaaGreat

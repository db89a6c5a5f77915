/-
  The document's world: Size, Stale, Seek, Close.
-/
import Derived.Test.YtgindbomnbojeaaGreatD1
import Derived.Test.YtgindbomnbojeaaGreatCD
set_option linter.unusedSimpArgs false
set_option linter.unusedVariables false
namespace Go.Proofs.YtgindbomnbojeaaGreat
open Go Go.V
set_option maxHeartbeats 6400000
set_option maxRecDepth 100000
theorem qsize_spec (t : Nat) (r : QR) (a : AW) (M : Nat) (hM : M ≤ 1073741823) (h : QRep r a M) (n : Int) :
    Fun Tryz.prog 61 [ptr0 t, vi n] (QMem t r) (fun v Post => v = .tuple #[vi (sizeM n a).1, vi (sizeM n a).2] ∧ Post = QMem t r) := by
  refine Fun.intro low61 (by simp [n61]) ?_
  have hd := h.dead
  simp only [QMem]
  refine GO ?_
  cases hdd : r.dead with
  | true =>
    rw [hdd] at hd
    have hs : sizeM n a = (0, 36) := by simp [sizeM, ← hd]
    rw [hs]
    refine GO ?_
    exact endQ_mk (.inr rfl) (.tmp (by rfl) (.tmp (by rfl) .nil)) ⟨rfl, rfl⟩ (by exact IMx)
  | false =>
    rw [hdd] at hd
    refine GO ?_
    refine st_call (qheld_spec t r a M hM h n false) (by rfl) (by simp only [QMem, hdd]; exact SPx) (fun v Post hv => ?_)
    obtain ⟨rfl, rfl⟩ := hv
    simp only [QMem, hdd, List.cons_append, List.nil_append]
    refine GO ?_
    by_cases he : heldE a.hs n false = 0
    rotate_left
    · have hs : sizeM n a = (0, heldE a.hs n false) := by simp [sizeM, ← hd, he]
      rw [hs]
      simp only [he, decide_false, Bool.not_false]
      refine GO ?_
      exact endQ_mk (.inr rfl) (.tmp (by rfl) (.tmp (by rfl) .nil)) ⟨rfl, rfl⟩ (by exact IMx)
    have hs : sizeM n a = ((((getF a n).now.length : Nat) : Int), 0) := by simp [sizeM, ← hd, he]
    rw [hs]
    simp only [he, decide_true, Bool.not_true]
    obtain ⟨x, j, q, g1, g2, g3, g4, g5, g6, g7, g8, g9, g10, g11, g12⟩ := h.openedF he
    have hsl := h.hsl.rd
    have hal := h.as.rd
    obtain ⟨b, o, c, hve, hcell⟩ := hsl.at_ (enc := rhEnc) rhEnc_len g3
    obtain ⟨b2, o2, c2, hve2, hcell2⟩ := hal.at_ (enc := alEnc) alEnc_len g9
    have hmm := h.hm
    have hlt := (List.getElem?_eq_some_iff.1 g3).1
    have hlt2 := (List.getElem?_eq_some_iff.1 g9).1
    rw [hve] at hcell
    rw [hve2] at hcell2
    have m0 : Atom.cell b (o + (n - 1).toNat * 6) (vi j) ∈ slA (.slice (some ⟨b, o, none⟩) r.hs.length c) (r.hs.flatMap rhEnc) r.hsp := hcell _ (mem_cellsAt.2 ⟨0, _, by simp only [rhEnc, g4, Option.getD_some]; rfl, rfl⟩)
    have m1 : Atom.cell b2 (o2 + j * 3 + 1) (.string q.2.1) ∈ slA (.slice (some ⟨b2, o2, none⟩) r.all.length c2) (r.all.flatMap alEnc) r.asp := hcell2 _ (mem_cellsAt.2 ⟨1, _, rfl, rfl⟩)
    simp only [hve, hve2]
    generalize slA (.slice (some ⟨b, o, none⟩) r.hs.length c) (r.hs.flatMap rhEnc) r.hsp = L at m0 ⊢
    generalize slA (.slice (some ⟨b2, o2, none⟩) r.all.length c2) (r.all.flatMap alEnc) r.asp = L2 at m1 ⊢
    refine GO ?_
    rw [g10, ftxt_size]
    exact endQ_mk (.inr rfl) (.tmp (by rfl) (.tmp (by rfl) .nil)) ⟨by rw [g7]; rfl, rfl⟩ (by exact IMx)
theorem qstale_spec (t : Nat) (r : QR) (a : AW) (M : Nat) (hM : M ≤ 1073741823) (h : QRep r a M) :
    Fun Tryz.prog 59 [ptr0 t] (QMem t r) (fun v Post => v = .tuple #[] ∧ ∃ r', QRep r' (staleM a) M ∧ Post = QMem t r') := by
  refine Fun.intro low59 (by simp [n59]) ?_
  obtain ⟨sa, sc, hsv⟩ := h.hsl.form
  have hsl := h.hsl
  have hmm := h.hm
  have hR := h.stale
  simp only [QMem, hsv]
  rw [hsv] at hsl
  refine GO ?_
  refine VC.loop (α := Nat) (Γf := fun k => [(0, ptr0 t), (2, vi k)]) (Hf := fun k => [slA (.slice sa r.hs.length sc) ((mapTo staleQ k r.hs).flatMap rhEnc) r.hsp, cellsAt t 0 [r.cv, r.av, r.wv, .slice sa r.hs.length sc, r.tv, vi r.now, .bool r.dead], slA r.cv (r.choices.flatMap chEnc) r.csp, slA r.av (r.all.flatMap alEnc) r.asp, slA r.wv (r.ws.flatMap rwEnc) r.wsp, slA r.tv (r.told.flatMap deEnc) r.tsp])
    (I := fun k => k ≤ r.hs.length) (μ := fun k => r.hs.length - k) 0 (Nat.zero_le _) (by exact SUx) (by rw [mapTo_zero]; exact IMx) ?_
  intro k hk
  refine GO ?_
  (first | (apply VC.seq_cond; rfl) | (apply VC.cond; rfl))
  rotate_left
  · intro hge
    have hge : ¬ k < r.hs.length := by simpa using hge
    rw [mapTo_all (by omega)]
    refine GO ?_
    refine endQ_mk (.inl rfl) .nil ⟨rfl, _, hR, rfl⟩ ?_
    simp only [hsv]
    exact IMx
  intro hlt
  have hlt : k < r.hs.length := by simpa using hlt
  obtain ⟨b, o, c, hve, _, _⟩ := hsl.some (by omega)
  simp only [Value.slice.injEq, true_and] at hve
  obtain ⟨rfl, rfl⟩ := hve
  obtain ⟨x, hx⟩ : ∃ x, r.hs[k]? = some x := ⟨r.hs[k], List.getElem?_eq_getElem hlt⟩
  have hx2 := mapTo_get (f := staleQ) hx
  have hmem : ∀ (j : Nat) v, (rhEnc x)[j]? = some v → Atom.cell b (o + k * 6 + j) v ∈ cellsAt b o ((mapTo staleQ k r.hs).flatMap rhEnc ++ r.hsp) := by
    intro j v hj
    have hjl : j < 6 := by have := (List.getElem?_eq_some_iff.1 hj).1; simpa [rhEnc] using this
    refine mem_cellsAt.2 ⟨k * 6 + j, v, ?_, by rw [Nat.add_assoc]⟩
    have hl : k * 6 + j < ((mapTo staleQ k r.hs).flatMap rhEnc).length := by rw [flat_lenS rhEnc_len, mapTo_len]; omega
    rw [List.getElem?_append_left hl, flat_get rhEnc_len hjl hx2]; exact hj
  have m4 : Atom.cell b (o + k * 6 + 4) (.bool x.closed) ∈ cellsAt b o ((mapTo staleQ k r.hs).flatMap rhEnc ++ r.hsp) := hmem 4 _ rfl
  simp only [slA_at]
  refine GO ?_
  cases hc : x.closed with
  | true =>
    refine GO ?_
    have hs : mapTo staleQ (k + 1) r.hs = mapTo staleQ k r.hs := mapTo_keep hx (by simp [staleQ, hc])
    exact ⟨k + 1, by show k + 1 ≤ r.hs.length; omega, by omega, by exact SUx, by rw [hs]; exact IMx⟩
  | false =>
    refine GO ?_
    have hy : rhEnc (staleQ x) = (rhEnc x).set 5 (.bool true) := by simp [staleQ, hc, rhEnc]
    have hset := flat_set1 (enc := rhEnc) (sp := r.hsp) rhEnc_len (j := 5) (by omega) hy hx2
    refine st_store' (us := [.bool true]) (by rfl) (by rfl) (by rfl) (by rfl) (by rfl) (Upd.set1 (i := k * 6 + 5) (by omega) (by rw [List.length_append, flat_lenS rhEnc_len, mapTo_len]; omega)) ?_
    rw [hset, ← mapTo_succ hx]
    refine GO ?_
    exact ⟨k + 1, by show k + 1 ≤ r.hs.length; omega, by omega, by exact SUx, by exact IMx⟩
end Go.Proofs.YtgindbomnbojeaaGreat
namespace Go.V
open Go
theorem faultA_eq {d : De} {f : AW → Int × De × AW} {a : AW} {c : Ch} : faultA d f a c = if faultE c = 0 then f a else (faultE c, d, a) := by
  unfold faultA faultE
  by_cases h4 : c.kind = 4
  · by_cases hc : chosenE c.n = 0
    · simp [h4, hc]
    · simp [h4, hc]
  · simp [h4]
theorem filedM_live {a : AW} {d : De} {f : De → AW → Int × De × AW} (hl : liveA a = true) {e : Int} {d' : De} {a2 : AW} (hf : (if faultE (chA a) = 0 then f d (takeA a) else (faultE (chA a), d, takeA a)) = (e, d', a2)) :
    filedM d f a = ((if e = 0 then d' else { d with err := e }), (if e = 0 then d' else { d with err := e }).err, { a2 with trace := a2.trace ++ [if e = 0 then d' else { d with err := e }] }) := by
  unfold filedM
  rw [deedA_live hl]
  simp only [faultA_eq, hf]
end Go.V
namespace Go.Proofs.YtgindbomnbojeaaGreat
open Go Go.V
set_option maxHeartbeats 6400000
set_option maxRecDepth 100000
def skRest : IC := match F36.body with | .seq _ (.seq _ (.seq _ (.seq _ (.seq _ (.seq _ (.seq _ r)))))) => r | _ => .skip
def skHead (r : IC) : IC := match F36.body with | .seq a (.seq b (.seq c (.seq d (.seq e (.seq f (.seq g _)))))) => .seq a (.seq b (.seq c (.seq d (.seq e (.seq f (.seq g r)))))) | _ => .skip
theorem sk_body : F36.body = skHead skRest := rfl
theorem qseek_spec (t : Nat) (r : QR) (a : AW) (M : Nat) (hM : M + 1 ≤ 1073741823) (h : QRep r a M) (n at_ : Int) :
    Fun Tryz.prog 36 [ptr0 t, vi n, vi at_] (QMem t r) (fun v Post => ∃ r', QRep r' (seekM n at_ a).2.2 (M + 1) ∧ v = vi (seekM n at_ a).2.1 ∧ Post = QMem t r') := by
  refine Fun.intro low36 (by simp [n36]) ?_
  rw [sk_body]
  have fin : ∀ (e : Int) (r2 : QR) (a2 : AW), QRep r2 a2 M → seekM n at_ a = ({ deSeek n at_ with err := e }, e, { a2 with trace := a2.trace ++ [{ deSeek n at_ with err := e }] }) →
      VC Tryz.prog F36.n skRest [(0, ptr0 t), (1, vi n), (2, vi at_), (9, vi e)] (QMem t r2) (endQ F36.res (fun v Post => ∃ r', QRep r' (seekM n at_ a).2.2 (M + 1) ∧ v = vi (seekM n at_ a).2.1 ∧ Post = QMem t r')) := by
    intro e r2 a2 h2 hd
    rw [hd]
    refine GO ?_
    refine st_call (qtell_spec t r2 a2 M (by omega) h2 { deSeek n at_ with err := e }) (by rfl) (R := []) (by simp [V.Spl]) (fun v Post hv => ?_)
    obtain ⟨rfl, r3, h3, rfl⟩ := hv
    rw [List.append_nil]
    refine GO ?_
    exact endQ_mk (.inr rfl) (.tmp (by rfl) .nil) ⟨r3, h3, rfl, rfl⟩ (Imp.refl _)
  generalize skRest = q at fin ⊢
  refine GO ?_
  refine st_call (qtake_spec t r a M h) (by rfl) (by simp only [QMem]; exact SPx) (fun v Post hv => ?_)
  obtain ⟨r1, h1, rfl, rfl⟩ := hv
  simp only [chEnc, List.append_nil]
  refine GO ?_
  refine st_alloc (fun p => ?_)
  refine GO ?_
  cases hl : liveA a with
  | false =>
    have hd : seekM n at_ a = (noDe, 36, takeA a) := deedA_dead hl
    rw [hd]
    refine GO ?_
    exact endQ_mk (.inr rfl) (.tmp (by rfl) .nil) ⟨r1, h1.mono (Nat.le_succ M), rfl, rfl⟩ Imp.tail1
  | true =>
    have hd := @filedM_live a (deSeek n at_) (seekF n at_) hl
    simp only [if_true]
    refine GO ?_
    refine st_call (qfault_spec (chA a)) (by rfl) Spl.nil (fun v Post hv => ?_)
    obtain ⟨rfl, rfl⟩ := hv
    rw [List.nil_append]
    refine GO ?_
    by_cases hf : faultE (chA a) = 0
    rotate_left
    · simp only [hf, decide_false]
      refine GO ?_
      simp only [hf, decide_false]
      refine GO ?_
      simp only [hf, decide_false]
      refine GO ?_
      have := hd (e := faultE (chA a)) (d' := deSeek n at_) (a2 := takeA a) (by rw [if_neg hf])
      rw [if_neg hf] at this
      exact VC.imp Imp.tail1 (VC.sub (by exact SUx) (fin _ r1 _ h1 this))
    simp only [hf, decide_true]
    refine GO ?_
    refine st_call (qheld_spec t r1 (takeA a) M (by omega) h1 n false) (by rfl) Spl.tail1 (fun v Post hv => ?_)
    obtain ⟨rfl, rfl⟩ := hv
    by_cases he : heldE (takeA a).hs n false = 0
    rotate_left
    · refine GO ?_
      simp only [he, decide_false]
      refine GO ?_
      simp only [he, decide_false]
      refine GO ?_
      have := hd (e := heldE (takeA a).hs n false) (d' := deSeek n at_) (a2 := takeA a) (by rw [if_pos hf]; unfold seekF; rw [if_pos he])
      rw [if_neg he] at this
      exact VC.imp Imp.left (VC.sub (by exact SUx) (fin _ r1 _ h1 this))
    rw [he]
    refine GO ?_
    obtain ⟨x, j, y, g1, g2, g3, g4, g5, g6, g7, g8, g9, g10, g11, g12⟩ := h1.openedF he
    have hsl := h1.hsl.rd
    have hal := h1.as.rd
    obtain ⟨b, o, c, hve, hcell⟩ := hsl.at_ (enc := rhEnc) rhEnc_len g3
    obtain ⟨b2, o2, c2, hve2, hcell2⟩ := hal.at_ (enc := alEnc) alEnc_len g9
    have hmm := h1.hm
    have hlt := (List.getElem?_eq_some_iff.1 g3).1
    have hlt2 := (List.getElem?_eq_some_iff.1 g9).1
    rw [hve] at hcell
    rw [hve2] at hcell2
    have m0 : Atom.cell b (o + (n - 1).toNat * 6) (vi j) ∈ slA (.slice (some ⟨b, o, none⟩) r1.hs.length c) (r1.hs.flatMap rhEnc) r1.hsp := hcell _ (mem_cellsAt.2 ⟨0, _, by simp only [rhEnc, g4, Option.getD_some]; rfl, rfl⟩)
    have m1 : Atom.cell b2 (o2 + j * 3 + 1) (.string (ftxt (fileAt (takeA a) j).now)) ∈ slA (.slice (some ⟨b2, o2, none⟩) r1.all.length c2) (r1.all.flatMap alEnc) r1.asp := hcell2 _ (mem_cellsAt.2 ⟨1, _, by simp only [alEnc, g10]; rfl, rfl⟩)
    simp only [QMem, hve, hve2, List.cons_append, List.nil_append]
    refine GO ?_
    by_cases hneg : at_ < 0
    · simp only [hneg, decide_true]
      refine GO ?_
      have := hd (e := 1) (d' := deSeek n at_) (a2 := takeA a) (by rw [if_pos hf]; unfold seekF; rw [if_neg (by simpa using he), if_neg (by omega)])
      refine VC.imp ?_ (VC.sub (by exact SUx) (fin 1 r1 _ h1 this))
      simp only [QMem, hve, hve2]; exact IMx
    simp only [hneg, decide_false]
    refine GO ?_
    rw [ftxt_size]
    by_cases hbig : at_ > (fileAt (takeA a) j).now.length
    · simp only [hbig, decide_true]
      refine GO ?_
      have := hd (e := 1) (d' := deSeek n at_) (a2 := takeA a) (by rw [if_pos hf]; unfold seekF; rw [if_neg (by simpa using he), g7, if_neg (by omega)])
      refine VC.imp ?_ (VC.sub (by exact SUx) (fin 1 r1 _ h1 this))
      simp only [QMem, hve, hve2]; exact IMx
    simp only [hbig, decide_false]
    refine GO ?_
    have hne : ¬ heldE (takeA a).hs n false ≠ 0 := by simpa using he
    have hr : seekF n at_ (deSeek n at_) (takeA a) = (0, deSeek n at_, putH (takeA a) n { x with at_ := at_ }) := by
      unfold seekF; rw [if_neg hne, g7, if_pos ⟨by omega, by omega⟩, g6]
    have := hd (e := 0) (d' := deSeek n at_) (a2 := putH (takeA a) n { x with at_ := at_ }) (by rw [if_pos hf]; exact hr)
    have hR := h1.setH (n := n) (y := { x with at_ := at_ }) g2 rfl ⟨by show (0 : Int) ≤ at_; omega, by show at_ ≤ 4194304; omega⟩
    have hset := flat_set1 (enc := rhEnc) (sp := r1.hsp) rhEnc_len (y := { x with at_ := at_ }) (j := 3) (v := vi at_) (by omega) (by rfl) g3
    refine VO.pull (A := slA (.slice (some ⟨b, o, none⟩) r1.hs.length c) (r1.hs.flatMap rhEnc) r1.hsp) (by exact TKx) ?_
    simp only [slA_at]
    refine st_store' (us := [vi at_]) (by rfl) (by rfl) (by rfl) (by rfl) (by rfl) (Upd.set1 (i := (n - 1).toNat * 6 + 3) (by omega) (by rw [List.length_append, flat_lenS rhEnc_len]; omega)) ?_
    rw [hset]
    refine GO ?_
    refine VC.imp ?_ (VC.sub (by exact SUx) (fin 0 _ _ hR this))
    simp only [QMem, hve, hve2, slA_at, List.length_set]; exact IMx
set_option maxHeartbeats 12800000
def closeRest : IC := match F40.body with | .seq _ (.seq _ (.seq _ (.seq _ (.seq _ (.seq _ (.seq _ r)))))) => r | _ => .skip
def closeHead (r : IC) : IC := match F40.body with | .seq x0 (.seq x1 (.seq x2 (.seq x3 (.seq x4 (.seq x5 (.seq x6 _)))))) => .seq x0 (.seq x1 (.seq x2 (.seq x3 (.seq x4 (.seq x5 (.seq x6 r)))))) | _ => .skip
theorem close_body : F40.body = closeHead closeRest := rfl
theorem qclose_spec (t : Nat) (r : QR) (a : AW) (M : Nat) (hM : M + 1 ≤ 1073741823) (h : QRep r a M) (n : Int) :
    Fun Tryz.prog 40 [ptr0 t, vi n] (QMem t r) (fun v Post => ∃ r', QRep r' (closeM n a).2.2 (M + 1) ∧ v = vi (closeM n a).2.1 ∧ Post = QMem t r') := by
  refine Fun.intro low40 (by simp [n40]) ?_
  rw [close_body]
  have fin : ∀ (e : Int) (K : Nat) (hK : K + 1 ≤ 1073741823) (hKM : K ≤ M) (r2 : QR) (a2 : AW), QRep r2 a2 K → closeM n a = ({ deClose n with err := e }, e, { a2 with trace := a2.trace ++ [{ deClose n with err := e }] }) →
      VC Tryz.prog F40.n closeRest [(0, ptr0 t), (1, vi n), (7, vi e)] (QMem t r2) (endQ F40.res (fun v Post => ∃ r', QRep r' (closeM n a).2.2 (M + 1) ∧ v = vi (closeM n a).2.1 ∧ Post = QMem t r')) := by
    intro e K hK hKM r2 a2 h2 hd
    rw [hd]
    refine GO ?_
    refine st_call (qtell_spec t r2 a2 K (by omega) h2 { deClose n with err := e }) (by rfl) (R := []) (by simp [V.Spl]) (fun v Post hv => ?_)
    obtain ⟨rfl, r3, h3, rfl⟩ := hv
    rw [List.append_nil]
    refine GO ?_
    exact endQ_mk (.inr rfl) (.tmp (by rfl) .nil) ⟨r3, h3.mono (by omega), rfl, rfl⟩ (Imp.refl _)
  generalize closeRest = q at fin ⊢
  refine GO ?_
  refine st_call (qtake_spec t r a M h) (by rfl) (by simp only [QMem]; exact SPx) (fun v Post hv => ?_)
  obtain ⟨r1, h1, rfl, rfl⟩ := hv
  simp only [chEnc, List.append_nil]
  refine GO ?_
  refine st_alloc (fun p => ?_)
  refine GO ?_
  cases hl : liveA a with
  | false =>
    have hd : closeM n a = (noDe, 36, takeA a) := deedA_dead hl
    rw [hd]
    refine GO ?_
    exact endQ_mk (.inr rfl) (.tmp (by rfl) .nil) ⟨r1, h1.mono (Nat.le_succ M), rfl, rfl⟩ Imp.tail1
  | true =>
    simp only [if_true]
    have hd := @filedM_live a (deClose n) (closeF n) hl
    refine GO ?_
    refine st_call (qfault_spec (chA a)) (by rfl) Spl.nil (fun v Post hv => ?_)
    obtain ⟨rfl, rfl⟩ := hv
    rw [List.nil_append]
    refine GO ?_
    by_cases hf : faultE (chA a) = 0
    rotate_left
    · simp only [hf, decide_false]
      refine GO ?_
      simp only [hf, decide_false]
      refine GO ?_
      simp only [hf, decide_false]
      refine GO ?_
      have := hd (e := faultE (chA a)) (d' := deClose n) (a2 := takeA a) (by rw [if_neg hf])
      rw [if_neg hf] at this
      exact VC.imp Imp.tail1 (VC.sub (by exact SUx) (fin _ M hM (Nat.le_refl _) r1 _ h1 this))
    simp only [hf, decide_true]
    simp only [QMem]
    obtain ⟨sa, sc, hsv⟩ := h1.hsl.form
    have hmm := h1.hm
    simp only [hsv]
    refine GO ?_
    have any : anyE (takeA a).hs n = anyE r1.hs n := (h1.anyR n).symm
    have bad : anyE (takeA a).hs n = 30 → closeM n a = ({ deClose n with err := 30 }, 30, { takeA a with trace := (takeA a).trace ++ [{ deClose n with err := 30 }] }) := by
      intro ha
      have := hd (e := 30) (d' := deClose n) (a2 := takeA a) (by rw [if_pos hf]; unfold closeF; rw [if_pos (by rw [ha]; decide), ha])
      exact this
    by_cases hn1 : n < 1
    · simp only [hn1, decide_true]
      refine GO ?_
      refine VC.imp ?_ (VC.sub (by exact SUx) (fin 30 M hM (Nat.le_refl _) r1 _ h1 (bad (by rw [any]; unfold anyE; rw [if_neg (by omega)]))))
      simp only [QMem, hsv]; exact IMx
    simp only [hn1, decide_false]
    refine GO ?_
    by_cases hn2 : n > r1.hs.length
    · simp only [hn2, decide_true]
      refine GO ?_
      refine VC.imp ?_ (VC.sub (by exact SUx) (fin 30 M hM (Nat.le_refl _) r1 _ h1 (bad (by rw [any]; unfold anyE; rw [if_pos (by omega), List.getElem?_eq_none (by omega)]))))
      simp only [QMem, hsv]; exact IMx
    simp only [hn2, decide_false]
    refine GO ?_
    have hx : r1.hs[(n - 1).toNat]? = some (r1.hs[(n - 1).toNat]'(by omega)) := List.getElem?_eq_getElem (by omega)
    generalize r1.hs[(n - 1).toNat]'(by omega) = x at hx
    obtain ⟨b, o, c, hve, hcell⟩ := h1.hsl.rd.at_ (enc := rhEnc) rhEnc_len hx
    rw [hsv] at hve hcell
    simp only [Value.slice.injEq, true_and] at hve
    obtain ⟨rfl, rfl⟩ := hve
    have hlt : (n - 1).toNat < r1.hs.length := (List.getElem?_eq_some_iff.1 hx).1
    have m4 : Atom.cell b (o + (n - 1).toNat * 6 + 4) (.bool x.closed) ∈ slA (.slice (some ⟨b, o, none⟩) r1.hs.length sc) (r1.hs.flatMap rhEnc) r1.hsp := hcell _ (mem_cellsAt.2 ⟨4, _, rfl, rfl⟩)
    have m5 : Atom.cell b (o + (n - 1).toNat * 6 + 5) (.bool x.stale) ∈ slA (.slice (some ⟨b, o, none⟩) r1.hs.length sc) (r1.hs.flatMap rhEnc) r1.hsp := hcell _ (mem_cellsAt.2 ⟨5, _, rfl, rfl⟩)
    have hany : anyE r1.hs n = if x.closed then 30 else 0 := by unfold anyE; rw [if_pos (by omega), hx]
    refine GO ?_
    cases hc : x.closed with
    | true =>
      refine GO ?_
      refine VC.imp ?_ (VC.sub (by exact SUx) (fin 30 M hM (Nat.le_refl _) r1 _ h1 (bad (by rw [any, hany, hc]; rfl))))
      simp only [QMem, hsv]; exact IMx
    | false =>
      have ha : anyE (takeA a).hs n = 0 := by rw [any, hany, hc]; rfl
      have hna : ¬ anyE (takeA a).hs n ≠ 0 := by rw [ha]; decide
      obtain ⟨x', g1, g2, g3, g4, g5, g6⟩ := h1.opened0 ha
      rw [hx] at g3; cases g3
      refine GO ?_
      cases hs : x.stale with
      | true =>
        refine GO ?_
        have := hd (e := 31) (d' := deClose n) (a2 := takeA a) (by rw [if_pos hf]; unfold closeF; rw [if_neg hna, g5, hs]; rfl)
        refine VC.imp ?_ (VC.sub (by exact SUx) (fin 31 M hM (Nat.le_refl _) r1 _ h1 this))
        simp only [QMem, hsv]; exact IMx
      | false =>
        refine GO ?_
        have := hd (e := 0) (d' := deClose n) (a2 := putH (takeA a) n { x with closed := true }) (by rw [if_pos hf]; unfold closeF; rw [if_neg hna, g5, if_neg (by rw [hs]; decide)])
        have hR := h1.setH (n := n) (y := { x with closed := true }) g2 rfl g6
        have hset := flat_set1 (enc := rhEnc) (sp := r1.hsp) rhEnc_len (y := { x with closed := true }) (j := 4) (v := .bool true) (by omega) (by rfl) hx
        refine VO.pull (A := slA (.slice (some ⟨b, o, none⟩) r1.hs.length sc) (r1.hs.flatMap rhEnc) r1.hsp) (by exact TKx) ?_
        simp only [slA_at]
        refine st_store' (us := [.bool true]) (by rfl) (by rfl) (by rfl) (by rfl) (by rfl) (Upd.set1 (i := (n - 1).toNat * 6 + 4) (by omega) (by rw [List.length_append, flat_lenS rhEnc_len]; omega)) ?_
        rw [hset]
        refine GO ?_
        refine VC.imp ?_ (VC.sub (by exact SUx) (fin 0 M hM (Nat.le_refl _) _ _ hR this))
        simp only [QMem, hsv, slA_at, List.length_set]; exact IMx
end Go.Proofs.YtgindbomnbojeaaGreat

/-
  The document's world: bytes written.
-/
import Derived.Test.YtgindbomnbojeaaGreatD4
import Derived.Test.YtgindbomnbojeaaGreatCD
set_option linter.unusedSimpArgs false
set_option linter.unusedVariables false
namespace Go.Proofs.YtgindbomnbojeaaGreat
open Go Go.V
set_option maxHeartbeats 12800000
set_option maxRecDepth 100000
def WritesP (t : Nat) (r1 : QR) (a : AW) (M : Nat) (n : Int) (s : ByteArray) (c : Ch) (v : Value) (Post : SH) : Prop :=
  ∃ (r2 : QR) (e : Int) (a2 : AW), QRep r2 a2 (M + 1) ∧ r2.told = r1.told ∧ (∀ d, (if faultE c = 0 then writeF n s d a else (faultE c, d, a)) = (e, d, a2)) ∧ v = vi e ∧ Post = QMem t r2
theorem qwrites_spec (t : Nat) (r1 : QR) (a : AW) (M : Nat) (hM : M ≤ 1073741822) (h1 : QRep r1 a M) (n : Int) (s : ByteArray) (hs : s.size ≤ 4611686018427387904) (c : Ch) :
    Fun Tryz.prog 97 [ptr0 t, vi n, .string s, .agg (chEnc c).toArray] (QMem t r1) (WritesP t r1 a M n s c) := by
  refine Fun.intro low97 (by simp [n97]) ?_
  refine VC.seq_reg ?_
  refine st_box (by rfl) (fun p => ?_)
  simp only [Value.cells, chEnc]
  refine GO ?_
  have bad : ∀ e : Int, (∀ d, (if faultE c = 0 then writeF n s d a else (faultE c, d, a)) = (e, d, a)) → WritesP t r1 a M n s c (vi e) (QMem t r1) := by
    intro e hf
    exact ⟨r1, e, a, h1.mono (Nat.le_succ M), rfl, hf, rfl, rfl⟩
  refine st_call (qfault_spec c) (by rfl) Spl.nil (fun v Post hv => ?_)
  obtain ⟨rfl, rfl⟩ := hv
  rw [List.nil_append]
  refine GO ?_
  by_cases hf : faultE c = 0
  rotate_left
  · simp only [hf, decide_false]
    refine GO ?_
    simp only [hf, decide_false, Bool.not_false]
    refine GO ?_
    exact endQ_mk (.inr rfl) (.tmp (by rfl) .nil) (bad _ (fun d => if_neg hf)) Imp.tail1
  simp only [hf, decide_true]
  refine GO ?_
  refine st_call (qheld_spec t r1 a M (by omega) h1 n false) (by rfl) Spl.tail1 (fun v Post hv => ?_)
  obtain ⟨rfl, rfl⟩ := hv
  by_cases he : heldE a.hs n false = 0
  rotate_left
  · refine GO ?_
    simp only [he, decide_false, Bool.not_false]
    refine GO ?_
    exact endQ_mk (.inr rfl) (.tmp (by rfl) .nil) (bad _ (fun d => by rw [if_pos hf]; unfold writeF; rw [if_pos he])) Imp.left
  rw [he]
  obtain ⟨x, j, y, g1, g2, g3, g4, g5, g6, g7, g8, g9, g10, g11, g12⟩ := h1.openedF he
  have hne : ¬ heldE a.hs n false ≠ 0 := by simpa using he
  obtain ⟨b, o, cc, hve, hcell⟩ := h1.hsl.rd.at_ (enc := rhEnc) rhEnc_len g3
  obtain ⟨b2, o2, c2, hve2, hcell2⟩ := h1.as.rd.at_ (enc := alEnc) alEnc_len g9
  obtain ⟨wa, wc, hwv⟩ := h1.wsl.form
  have hmm := h1.hm
  have hwm := h1.wm
  have hwsl := h1.wsl
  rw [hwv] at hwsl
  have hlt := (List.getElem?_eq_some_iff.1 g3).1
  have hlt2 := (List.getElem?_eq_some_iff.1 g9).1
  rw [hve] at hcell
  rw [hve2] at hcell2
  have hbase : QMem t r1 = [cellsAt t 0 [r1.cv, .slice (some ⟨b2, o2, none⟩) r1.all.length c2, .slice wa r1.ws.length wc, .slice (some ⟨b, o, none⟩) r1.hs.length cc, r1.tv, vi r1.now, .bool r1.dead], slA r1.cv (r1.choices.flatMap chEnc) r1.csp, slA (.slice (some ⟨b2, o2, none⟩) r1.all.length c2) (r1.all.flatMap alEnc) r1.asp, slA (.slice wa r1.ws.length wc) (r1.ws.flatMap rwEnc) r1.wsp, slA (.slice (some ⟨b, o, none⟩) r1.hs.length cc) (r1.hs.flatMap rhEnc) r1.hsp, slA r1.tv (r1.told.flatMap deEnc) r1.tsp] := by simp only [QMem, hve, hve2, hwv]
  have m2 : Atom.cell b (o + (n - 1).toNat * 6 + 2) (vi x.mode) ∈ slA (.slice (some ⟨b, o, none⟩) r1.hs.length cc) (r1.hs.flatMap rhEnc) r1.hsp := hcell _ (mem_cellsAt.2 ⟨2, _, rfl, rfl⟩)
  have m1 : Atom.cell b2 (o2 + j * 3 + 1) (.string (ftxt (fileAt a j).now)) ∈ slA (.slice (some ⟨b2, o2, none⟩) r1.all.length c2) (r1.all.flatMap alEnc) r1.asp := hcell2 _ (mem_cellsAt.2 ⟨1, _, by simp only [alEnc, g10]; rfl, rfl⟩)
  rw [hbase]
  simp only [CNx]
  refine GO ?_
  by_cases hm : x.mode = 1
  · simp only [hm, decide_true]
    refine GO ?_
    refine endQ_mk (.inr rfl) (.tmp (by rfl) .nil) (bad 33 (fun d => by rw [if_pos hf]; unfold writeF; rw [if_neg hne, g6, if_pos hm])) ?_
    rw [hbase]; exact IMx
  simp only [hm, decide_false]
  generalize hL : slA (.slice (some ⟨b, o, none⟩) r1.hs.length cc) (r1.hs.flatMap rhEnc) r1.hsp = L at m2 hcell ⊢
  refine GO ?_
  refine st_loadA (us := rhEnc x) (by rfl) (fun y hy => by simp only [List.flatten_cons, List.mem_append]; simp only [hcell y hy, true_or, or_true]) (by rfl) ?_
  refine GO ?_
  refine st_alloc (fun p2 => ?_)
  simp only [rhEnc, g4, Option.getD_some, Option.isNone_some]
  refine GO ?_
  have hwa : writeAt a n = if x.mode = 3 then ((fileAt a j).now.length : Int) else x.at_ := by unfold writeAt; rw [g6, g7]
  obtain ⟨at_, hat_⟩ : ∃ k : Nat, writeAt a n = k := Int.eq_ofNat_of_zero_le (by rw [hwa]; split <;> omega)
  have hat2 : at_ ≤ 4194304 := by
    have : (at_ : Int) ≤ 4194304 := by rw [← hat_, hwa]; split <;> omega
    omega
  refine VC.joinT (α := Unit) (fun _ => [(0, ptr0 t), (1, vi n), (2, .string s), (10, .pointer (some ⟨p2, 0, none⟩)), (11, .string (ftxt (fileAt a j).now)), (12, vi at_)]) (fun _ => [cellsAt p2 0 [vi j, .bool false, vi x.mode, vi x.at_, .bool x.closed, .bool x.stale], cellsAt t 0 [r1.cv, .slice (some ⟨b2, o2, none⟩) r1.all.length c2, .slice wa r1.ws.length wc, .slice (some ⟨b, o, none⟩) r1.hs.length cc, r1.tv, vi r1.now, .bool r1.dead], slA r1.cv (r1.choices.flatMap chEnc) r1.csp, slA (.slice (some ⟨b2, o2, none⟩) r1.all.length c2) (r1.all.flatMap alEnc) r1.asp, slA (.slice wa r1.ws.length wc) (r1.ws.flatMap rwEnc) r1.wsp, L, slA r1.tv (r1.told.flatMap deEnc) r1.tsp]) (fun _ => True) ?_ ?_
  · by_cases hm3 : x.mode = 3
    · rw [hwa, if_pos hm3] at hat_
      simp only [hm3, decide_true]
      refine GO ?_
      rw [ftxt_size]
      exact ⟨(), trivial, by rw [← hat_]; exact SUx, by exact IMx⟩
    · rw [hwa, if_neg hm3] at hat_
      simp only [hm3, decide_false]
      refine GO ?_
      exact ⟨(), trivial, by rw [← hat_]; exact SUx, by exact IMx⟩
  intro _ _
  refine GO ?_
  by_cases hbig : (s.size : Int) > 4194304 - (at_ : Int)
  · simp only [hbig, decide_true]
    refine GO ?_
    subst hL
    refine endQ_mk (.inr rfl) (.tmp (by rfl) .nil) (bad 34 (fun d => by rw [if_pos hf]; unfold writeF; rw [if_neg hne, g6, if_neg hm, hat_, if_pos (by omega)])) ?_
    rw [hbase]; exact IMx
  simp only [hbig, decide_false]
  refine GO ?_
  refine st_alloc (fun p3 => ?_)
  refine GO ?_
  obtain ⟨xx, hxx⟩ : ∃ xx : Wr, xx = ⟨a.seq + 1, at_, s, false⟩ := ⟨_, rfl⟩
  have hdone := qdone_spec (fileAt a j).now j xx g12 (by rw [hxx]; exact ⟨by show (0 : Int) ≤ at_; omega, by show (at_ : Int) + s.size ≤ 4194304; omega⟩)
  have hset := flat_set1 (enc := alEnc) (sp := r1.asp) alEnc_len (y := (y.1, ftxt (onL xx (fileAt a j).now), y.2.2)) (j := 1) (v := .string (ftxt (onL xx (fileAt a j).now))) (by omega) (by rfl) g9
  refine VC.seq_draws (α := Unit) (fun _ => [(0, ptr0 t), (1, vi n), (2, .string s), (12, vi at_), (13, .pointer (some ⟨p3, 0, none⟩))]) (fun _ => [cellsAt p3 0 [vi j, vi at_, .string s, .bool false], cellsAt t 0 [r1.cv, .slice (some ⟨b2, o2, none⟩) r1.all.length c2, .slice wa r1.ws.length wc, .slice (some ⟨b, o, none⟩) r1.hs.length cc, r1.tv, vi r1.now, .bool r1.dead], slA r1.cv (r1.choices.flatMap chEnc) r1.csp, cellsAt b2 o2 ((r1.all.set j (y.1, ftxt (onL xx (fileAt a j).now), y.2.2)).flatMap alEnc ++ r1.asp), slA (.slice wa r1.ws.length wc) (r1.ws.flatMap rwEnc) r1.wsp, L, slA r1.tv (r1.told.flatMap deEnc) r1.tsp]) (fun _ => True) ⟨?_, ?_, ?_, ?_, ?_, ?_, trivial⟩ ?_
  iterate 6
    · refine GO ?_
      refine st_call hdone (by rw [hxx]; rfl) Spl.nil (fun v Post hv => ?_)
      obtain ⟨rfl, rfl⟩ := hv
      rw [List.nil_append]
      refine GO ?_
      refine VO.pull (A := slA (.slice (some ⟨b2, o2, none⟩) r1.all.length c2) (r1.all.flatMap alEnc) r1.asp) (by exact TKx) ?_
      simp only [slA_at]
      refine st_store' (us := [.string (ftxt (onL xx (fileAt a j).now))]) (by rfl) (by rfl) (by rfl) (by rfl) (by rfl) (Upd.set1 (i := j * 3 + 1) (by omega) (by rw [List.length_append, flat_lenS alEnc_len]; omega)) ?_
      rw [hset]
      refine GO ?_
      exact ⟨(), trivial, by exact SUx, by exact IMx⟩
  intro _ _
  refine GO ?_
  refine st_bslice (out := rwEnc (j, xx)) (by rfl) (by rw [hxx]; rfl) (fun q3 => ?_)
  refine GO ?_
  refine st_append (k := r1.ws.length) (m := 1) (xs := r1.ws.flatMap rwEnc) (sp := r1.wsp) (ys := rwEnc (j, xx)) (by rfl) (by rfl) hwsl (by exact TKx) (by rfl) ?_ rfl (by rfl) (by rfl) (by decide) (by omega) (fun sv' sp' hsl' => ?_)
  · exact ⟨rfl, fun a ha => by simp only [List.flatten_cons, List.mem_append]; exact .inl ha⟩
  have hlow : (onL xx (fileAt a j).now).length ≤ 4194304 := by
    rw [onL_length (by rw [hxx]), hxx]
    show max _ _ ≤ _
    simp only [Int.toNat_natCast]
    omega
  have hR := h1.write g5 (x := xx) (by rw [hxx]) g9 hlow hsl'
  have hR2 := hR.setH (n := n) (y := { x with at_ := (at_ : Int) + s.size }) g2 rfl ⟨by show (0 : Int) ≤ at_ + s.size; omega, by show (at_ : Int) + s.size ≤ 4194304; omega⟩
  obtain ⟨a', c', rfl⟩ := hsl'.form
  have hset2 := flat_set1 (enc := rhEnc) (sp := r1.hsp) rhEnc_len (y := { x with at_ := (at_ : Int) + s.size }) (j := 3) (v := vi ((at_ : Int) + s.size)) (by omega) (by rfl) g3
  subst hL
  refine GO ?_
  refine VO.pull (A := slA (.slice (some ⟨b, o, none⟩) r1.hs.length cc) (r1.hs.flatMap rhEnc) r1.hsp) (by exact TKx) ?_
  simp only [slA_at]
  refine st_store' (us := [vi ((at_ : Int) + s.size)]) (by rfl) (by rfl) (by rfl) (by rfl) (by rfl) (Upd.set1 (i := (n - 1).toNat * 6 + 3) (by omega) (by rw [List.length_append, flat_lenS rhEnc_len]; omega)) ?_
  rw [hset2]
  refine GO ?_
  have e1 : (r1.ws ++ [(j, xx)]).flatMap rwEnc = r1.ws.flatMap rwEnc ++ rwEnc (j, xx) := by simp
  refine endQ_mk (.inr rfl) (.tmp (by rfl) .nil) ⟨_, 0, _, hR2, rfl, fun d => ?_, rfl, rfl⟩ ?_
  · rw [if_pos hf]
    unfold writeF
    rw [if_neg hne, g6, if_neg hm, hat_, if_neg (by omega), g7, ← hxx]
    simp only [putF, g6, g4, Option.getD_some]
  · simp only [QMem, hve, hve2, slA_at, List.length_set, List.length_append, List.length_singleton, e1]; exact IMx
def writeRest : IC := match F34.body with | .seq _ (.seq _ (.seq _ (.seq _ r))) => r | _ => .skip
def writeHead (r : IC) : IC := match F34.body with | .seq x0 (.seq x1 (.seq x2 (.seq x3 _))) => .seq x0 (.seq x1 (.seq x2 (.seq x3 r))) | _ => .skip
theorem write_body : F34.body = writeHead writeRest := rfl
theorem qwrite_spec (t : Nat) (r : QR) (a : AW) (M : Nat) (hM : M + 1 ≤ 1073741823) (h : QRep r a M) (n : Int) (s : ByteArray) (hs : s.size ≤ 4611686018427387904) :
    Fun Tryz.prog 34 [ptr0 t, vi n, .string s] (QMem t r) (fun v Post => ∃ r', QRep r' (writeM n s a).2.2 (M + 1) ∧ v = vi (writeM n s a).2.1 ∧ Post = QMem t r') := by
  refine Fun.intro low34 (by simp [n34]) ?_
  rw [write_body]
  have fin : ∀ (e : Int) (r2 : QR) (a2 : AW), QRep r2 a2 (M + 1) → r2.told.length ≤ M → writeM n s a = ({ deWrite n s with err := e }, e, { a2 with trace := a2.trace ++ [{ deWrite n s with err := e }] }) →
      VC Tryz.prog F34.n writeRest [(0, ptr0 t), (1, vi n), (2, .string s), (9, vi e)] (QMem t r2) (endQ F34.res (fun v Post => ∃ r', QRep r' (writeM n s a).2.2 (M + 1) ∧ v = vi (writeM n s a).2.1 ∧ Post = QMem t r')) := by
    intro e r2 a2 h2 htl hd
    rw [hd]
    refine GO ?_
    refine st_call (qtellK_spec t r2 a2 (M + 1) (by omega) h2 (by omega) { deWrite n s with err := e }) (by rfl) (R := []) (by simp [V.Spl]) (fun v Post hv => ?_)
    obtain ⟨rfl, r3, h3, rfl⟩ := hv
    rw [List.append_nil]
    refine GO ?_
    exact endQ_mk (.inr rfl) (.tmp (by rfl) .nil) ⟨r3, h3, rfl, rfl⟩ (Imp.refl _)
  generalize writeRest = q at fin ⊢
  refine GO ?_
  refine st_call (qtake_spec t r a M h) (by rfl) (by simp only [QMem]; exact SPx) (fun v Post hv => ?_)
  obtain ⟨r1, h1, rfl, rfl⟩ := hv
  simp only [chEnc, List.append_nil]
  refine GO ?_
  refine st_alloc (fun p => ?_)
  refine GO ?_
  cases hl : liveA a with
  | false =>
    have hd : writeM n s a = (noDe, 36, takeA a) := deedA_dead hl
    rw [hd]
    refine GO ?_
    exact endQ_mk (.inr rfl) (.tmp (by rfl) .nil) ⟨r1, h1.mono (Nat.le_succ M), rfl, rfl⟩ Imp.tail1
  | true =>
    simp only [if_true]
    have hd := @filedM_live a (deWrite n s) (writeF n s) hl
    refine GO ?_
    refine st_call (qwrites_spec t r1 (takeA a) M (by omega) h1 n s hs (chA a)) (by rfl) Spl.tail1 (fun v Post hv => ?_)
    obtain ⟨r2, e, a2, h2, ht, hf, rfl, rfl⟩ := hv
    refine GO ?_
    have := hd (hf (deWrite n s))
    refine VC.imp Imp.left (VC.sub (by exact SUx) (fin e r2 a2 h2 (by rw [ht]; exact h1.tm) ?_))
    show filedM (deWrite n s) (writeF n s) a = _
    rw [this]
    by_cases e0 : e = 0
    · subst e0; rfl
    · rw [if_neg e0]
def deleteRest : IC := match F44.body with | .seq _ (.seq _ (.seq _ (.seq _ (.seq _ (.seq _ (.seq _ (.seq _ (.seq _ r)))))))) => r | _ => .skip
def deleteHead (r : IC) : IC := match F44.body with | .seq x0 (.seq x1 (.seq x2 (.seq x3 (.seq x4 (.seq x5 (.seq x6 (.seq x7 (.seq x8 _)))))))) => .seq x0 (.seq x1 (.seq x2 (.seq x3 (.seq x4 (.seq x5 (.seq x6 (.seq x7 (.seq x8 r)))))))) | _ => .skip
theorem delete_body : F44.body = deleteHead deleteRest := rfl
theorem qdelete_spec (t : Nat) (r : QR) (a : AW) (M : Nat) (hM : M + 1 ≤ 1073741823) (h : QRep r a M) (hk : (a.names.map (·.1)).Nodup) (hin : ∀ p ∈ a.names, p.2 < a.files.length) (s : ByteArray) (hs : s.size ≤ 4611686018427387904) :
    Fun Tryz.prog 44 [ptr0 t, .string s] (QMem t r) (fun v Post => ∃ r', QRep r' (deleteM s a).2.2 (M + 1) ∧ v = vi (deleteM s a).2.1 ∧ Post = QMem t r') := by
  refine Fun.intro low44 (by simp [n44]) ?_
  rw [delete_body]
  have fin : ∀ (e : Int) (K : Nat) (hK : K + 1 ≤ 1073741823) (hKM : K ≤ M) (r2 : QR) (a2 : AW), QRep r2 a2 K → deleteM s a = ({ deDelete s with err := e }, e, { a2 with trace := a2.trace ++ [{ deDelete s with err := e }] }) →
      VC Tryz.prog F44.n deleteRest [(0, ptr0 t), (1, .string s), (7, vi e)] (QMem t r2) (endQ F44.res (fun v Post => ∃ r', QRep r' (deleteM s a).2.2 (M + 1) ∧ v = vi (deleteM s a).2.1 ∧ Post = QMem t r')) := by
    intro e K hK hKM r2 a2 h2 hd
    rw [hd]
    refine GO ?_
    refine st_call (qtell_spec t r2 a2 K (by omega) h2 { deDelete s with err := e }) (by rfl) (R := []) (by simp [V.Spl]) (fun v Post hv => ?_)
    obtain ⟨rfl, r3, h3, rfl⟩ := hv
    rw [List.append_nil]
    refine GO ?_
    exact endQ_mk (.inr rfl) (.tmp (by rfl) .nil) ⟨r3, h3.mono (by omega), rfl, rfl⟩ (Imp.refl _)
  generalize deleteRest = q at fin ⊢
  refine GO ?_
  refine st_call (qtake_spec t r a M h) (by rfl) (by simp only [QMem]; exact SPx) (fun v Post hv => ?_)
  obtain ⟨r1, h1, rfl, rfl⟩ := hv
  simp only [chEnc, List.append_nil]
  refine GO ?_
  refine st_alloc (fun p => ?_)
  refine GO ?_
  cases hl : liveA a with
  | false =>
    have hd : deleteM s a = (noDe, 36, takeA a) := deedA_dead hl
    rw [hd]
    refine GO ?_
    exact endQ_mk (.inr rfl) (.tmp (by rfl) .nil) ⟨r1, h1.mono (Nat.le_succ M), rfl, rfl⟩ Imp.tail1
  | true =>
    simp only [if_true]
    have hd := @filedM_live a (deDelete s) (deleteF s) hl
    refine GO ?_
    refine st_call (qfault_spec (chA a)) (by rfl) Spl.nil (fun v Post hv => ?_)
    obtain ⟨rfl, rfl⟩ := hv
    rw [List.nil_append]
    refine GO ?_
    refine st_call (refName_spec s hs) (by rfl) Spl.nil (fun v Post hv => ?_)
    obtain ⟨rfl, rfl⟩ := hv
    rw [List.nil_append]
    refine GO ?_
    refine st_call (qfind_spec t r1 (takeA a) M (by omega) h1 hin s) (by rfl) Spl.tail1 (fun v Post hv => ?_)
    obtain ⟨rfl, rfl⟩ := hv
    refine GO ?_
    have bad : ∀ e : Int, e ≠ 0 → (if faultE (chA a) = 0 then deleteF s (deDelete s) (takeA a) else (faultE (chA a), deDelete s, takeA a)) = (e, deDelete s, takeA a) → VC Tryz.prog F44.n q [(0, ptr0 t), (1, .string s), (7, vi e)] (QMem t r1) (endQ F44.res (fun v Post => ∃ r', QRep r' (deleteM s a).2.2 (M + 1) ∧ v = vi (deleteM s a).2.1 ∧ Post = QMem t r')) := by
      intro e he hc
      have := hd hc
      rw [if_neg he] at this
      exact fin e M hM (Nat.le_refl _) r1 _ h1 this
    by_cases hf : faultE (chA a) = 0
    rotate_left
    · simp only [hf, decide_false]
      refine GO ?_
      simp only [hf, decide_false]
      refine GO ?_
      simp only [hf, decide_false]
      refine GO ?_
      exact VC.imp Imp.left (VC.sub (by exact SUx) (bad _ hf (if_neg hf)))
    rw [if_pos hf] at bad
    simp only [hf, decide_true]
    refine GO ?_
    cases hn : nameB s with
    | false =>
      refine GO ?_
      exact VC.imp Imp.left (VC.sub (by exact SUx) (bad 35 (by decide) (by simp [deleteF, hn])))
    | true =>
      refine GO ?_
      cases hg : mget s (takeA a).names with
      | none =>
        have hfe : findE (takeA a).names s = -1 := by unfold findE; rw [hg]
        rw [hfe]
        refine GO ?_
        exact VC.imp Imp.left (VC.sub (by exact SUx) (bad 32 (by decide) (by simp [deleteF, hn, hg])))
      | some j =>
        have hfe : findE (takeA a).names s = j := by unfold findE; rw [hg]
        rw [hfe]
        have hj := hin _ (mget_mem hg)
        obtain ⟨y, hy, hys⟩ := h1.at_name hg hj
        have hR := h1.delete hk hg hy
        obtain ⟨b2, o2, c2, hve2, hcell2⟩ := h1.as.rd.at_ (enc := alEnc) alEnc_len hy
        have hlt2 := (List.getElem?_eq_some_iff.1 hy).1
        have hset := flat_set1 (enc := alEnc) (sp := r1.asp) alEnc_len (y := (nilTx, y.2)) (j := 0) (v := .string ⟨#[]⟩) (by omega) (by rfl) hy
        have := hd (e := 0) (d' := deDelete s) (a2 := { takeA a with names := mdel s (takeA a).names }) (by rw [if_pos hf]; simp [deleteF, hn, hg])
        simp only [show ¬ ((j : Nat) : Int) < 0 by omega, decide_false]
        simp only [QMem, hve2, List.cons_append, List.nil_append]
        refine GO ?_
        refine VO.pull (A := slA (.slice (some ⟨b2, o2, none⟩) r1.all.length c2) (r1.all.flatMap alEnc) r1.asp) (by exact TKx) ?_
        simp only [slA_at]
        refine st_store' (us := [.string ⟨#[]⟩]) (by rfl) (by rfl) (by rfl) (by rfl) (by rfl) (Upd.set1 (i := j * 3 + 0) (by omega) (by rw [List.length_append, flat_lenS alEnc_len]; omega)) ?_
        rw [hset]
        refine GO ?_
        refine VC.imp ?_ (VC.sub (by exact SUx) (fin 0 M hM (Nat.le_refl _) _ _ hR this))
        simp only [QMem, hve2, slA_at, List.length_set]; exact IMx
def renameRest : IC := match F42.body with | .seq _ (.seq _ (.seq _ (.seq _ (.seq _ (.seq _ (.seq _ (.seq _ (.seq _ (.seq _ r))))))))) => r | _ => .skip
def renameHead (r : IC) : IC := match F42.body with | .seq x0 (.seq x1 (.seq x2 (.seq x3 (.seq x4 (.seq x5 (.seq x6 (.seq x7 (.seq x8 (.seq x9 _))))))))) => .seq x0 (.seq x1 (.seq x2 (.seq x3 (.seq x4 (.seq x5 (.seq x6 (.seq x7 (.seq x8 (.seq x9 r))))))))) | _ => .skip
theorem rename_body : F42.body = renameHead renameRest := rfl
theorem qrename_spec (t : Nat) (r : QR) (a : AW) (M : Nat) (hM : M + 1 ≤ 1073741823) (h : QRep r a M) (hk : (a.names.map (·.1)).Nodup) (hin : ∀ p ∈ a.names, p.2 < a.files.length) (s u : ByteArray) (hs : s.size ≤ 4611686018427387904) (hu : u.size ≤ 4611686018427387904) :
    Fun Tryz.prog 42 [ptr0 t, .string s, .string u] (QMem t r) (fun v Post => ∃ r', QRep r' (renameM s u a).2.2 (M + 1) ∧ v = vi (renameM s u a).2.1 ∧ Post = QMem t r') := by
  refine Fun.intro low42 (by simp [n42]) ?_
  rw [rename_body]
  have fin : ∀ (e : Int) (K : Nat) (hK : K + 1 ≤ 1073741823) (hKM : K ≤ M) (r2 : QR) (a2 : AW), QRep r2 a2 K → renameM s u a = ({ deRename s u with err := e }, e, { a2 with trace := a2.trace ++ [{ deRename s u with err := e }] }) →
      VC Tryz.prog F42.n renameRest [(0, ptr0 t), (1, .string s), (2, .string u), (9, vi e)] (QMem t r2) (endQ F42.res (fun v Post => ∃ r', QRep r' (renameM s u a).2.2 (M + 1) ∧ v = vi (renameM s u a).2.1 ∧ Post = QMem t r')) := by
    intro e K hK hKM r2 a2 h2 hd
    rw [hd]
    refine GO ?_
    refine st_call (qtell_spec t r2 a2 K (by omega) h2 { deRename s u with err := e }) (by rfl) (R := []) (by simp [V.Spl]) (fun v Post hv => ?_)
    obtain ⟨rfl, r3, h3, rfl⟩ := hv
    rw [List.append_nil]
    refine GO ?_
    exact endQ_mk (.inr rfl) (.tmp (by rfl) .nil) ⟨r3, h3.mono (by omega), rfl, rfl⟩ (Imp.refl _)
  generalize renameRest = q at fin ⊢
  refine GO ?_
  refine st_call (qtake_spec t r a M h) (by rfl) (by simp only [QMem]; exact SPx) (fun v Post hv => ?_)
  obtain ⟨r1, h1, rfl, rfl⟩ := hv
  simp only [chEnc, List.append_nil]
  refine GO ?_
  refine st_alloc (fun p => ?_)
  refine GO ?_
  cases hl : liveA a with
  | false =>
    have hd : renameM s u a = (noDe, 36, takeA a) := deedA_dead hl
    rw [hd]
    refine GO ?_
    exact endQ_mk (.inr rfl) (.tmp (by rfl) .nil) ⟨r1, h1.mono (Nat.le_succ M), rfl, rfl⟩ Imp.tail1
  | true =>
    simp only [if_true]
    have hd := @filedM_live a (deRename s u) (renameF s u) hl
    refine GO ?_
    refine st_call (qfault_spec (chA a)) (by rfl) Spl.nil (fun v Post hv => ?_)
    obtain ⟨rfl, rfl⟩ := hv
    rw [List.nil_append]
    refine GO ?_
    refine st_call (refName_spec s hs) (by rfl) Spl.nil (fun v Post hv => ?_)
    obtain ⟨rfl, rfl⟩ := hv
    rw [List.nil_append]
    refine GO ?_
    refine st_call (refName_spec u hu) (by rfl) Spl.nil (fun v Post hv => ?_)
    obtain ⟨rfl, rfl⟩ := hv
    rw [List.nil_append]
    refine GO ?_
    refine st_call (qfind_spec t r1 (takeA a) M (by omega) h1 hin s) (by rfl) Spl.tail1 (fun v Post hv => ?_)
    obtain ⟨rfl, rfl⟩ := hv
    refine GO ?_
    have bad : ∀ e : Int, e ≠ 0 → (if faultE (chA a) = 0 then renameF s u (deRename s u) (takeA a) else (faultE (chA a), deRename s u, takeA a)) = (e, deRename s u, takeA a) → VC Tryz.prog F42.n q [(0, ptr0 t), (1, .string s), (2, .string u), (9, vi e)] (QMem t r1) (endQ F42.res (fun v Post => ∃ r', QRep r' (renameM s u a).2.2 (M + 1) ∧ v = vi (renameM s u a).2.1 ∧ Post = QMem t r')) := by
      intro e he hc
      have := hd hc
      rw [if_neg he] at this
      exact fin e M hM (Nat.le_refl _) r1 _ h1 this
    by_cases hf : faultE (chA a) = 0
    rotate_left
    · simp only [hf, decide_false]
      refine GO ?_
      simp only [hf, decide_false]
      refine GO ?_
      simp only [hf, decide_false]
      refine GO ?_
      exact VC.imp Imp.left (VC.sub (by exact SUx) (bad _ hf (if_neg hf)))
    rw [if_pos hf] at bad
    simp only [hf, decide_true]
    refine GO ?_
    cases hn : nameB s with
    | false =>
      refine GO ?_
      exact VC.imp Imp.left (VC.sub (by exact SUx) (bad 35 (by decide) (by simp [renameF, hn])))
    | true =>
    refine GO ?_
    cases hn2 : nameB u with
    | false =>
      refine GO ?_
      exact VC.imp Imp.left (VC.sub (by exact SUx) (bad 35 (by decide) (by simp [renameF, hn, hn2])))
    | true =>
    have huq : u ≠ nilTx := by
      rintro rfl
      exact absurd hn2 (by decide)
    refine GO ?_
    cases hg : mget s (takeA a).names with
    | none =>
      have hfe : findE (takeA a).names s = -1 := by unfold findE; rw [hg]
      rw [hfe]
      refine GO ?_
      exact VC.imp Imp.left (VC.sub (by exact SUx) (bad 32 (by decide) (by simp [renameF, hn, hn2, hg])))
    | some j =>
    have hfe : findE (takeA a).names s = j := by unfold findE; rw [hg]
    rw [hfe]
    have hj := hin _ (mget_mem hg)
    obtain ⟨y, hy, hys⟩ := h1.at_name hg hj
    have hfin := hd (e := 0) (d' := deRename s u) (a2 := { takeA a with names := mset u j (mdel s (takeA a).names) }) (by rw [if_pos hf]; simp [renameF, hn, hn2, hg])
    simp only [show ¬ ((j : Nat) : Int) < 0 by omega, decide_false]
    refine GO ?_
    by_cases hsu : s = u
    · subst hsu
      simp only [decide_true]
      have hR := h1.rename0 hg
      refine GO ?_
      exact VC.imp Imp.left (VC.sub (by exact SUx) (fin 0 M hM (Nat.le_refl _) _ _ hR hfin))
    simp only [hsu, decide_false]
    refine GO ?_
    refine st_call (qfind_spec t r1 (takeA a) M (by omega) h1 hin u) (by rfl) Spl.leftQ (fun v Post hv => ?_)
    obtain ⟨rfl, rfl⟩ := hv
    obtain ⟨b2, o2, c2, hve2, hcell2⟩ := h1.as.rd.at_ (enc := alEnc) alEnc_len hy
    have hlt2 := (List.getElem?_eq_some_iff.1 hy).1
    cases hgu : mget u (takeA a).names with
    | none =>
      have hfe2 : findE (takeA a).names u = -1 := by unfold findE; rw [hgu]
      rw [hfe2]
      simp only [QMem, hve2, List.cons_append, List.nil_append]
      have hR := h1.rename1 hk huq hg hy hgu
      have hset := flat_set1 (enc := alEnc) (sp := r1.asp) alEnc_len (y := (u, y.2)) (j := 0) (v := .string u) (by omega) (by rfl) hy
      refine GO ?_
      refine VO.pull (A := slA (.slice (some ⟨b2, o2, none⟩) r1.all.length c2) (r1.all.flatMap alEnc) r1.asp) (by exact TKx) ?_
      simp only [slA_at]
      refine st_store' (us := [.string u]) (by rfl) (by rfl) (by rfl) (by rfl) (by rfl) (Upd.set1 (i := j * 3 + 0) (by omega) (by rw [List.length_append, flat_lenS alEnc_len]; omega)) ?_
      rw [hset]
      refine GO ?_
      refine VC.imp ?_ (VC.sub (by exact SUx) (fin 0 M hM (Nat.le_refl _) _ _ hR hfin))
      simp only [QMem, hve2, slA_at, List.length_set]; exact IMx
    | some k =>
      have hfe2 : findE (takeA a).names u = k := by unfold findE; rw [hgu]
      rw [hfe2]
      have hkl := hin _ (mget_mem hgu)
      obtain ⟨yk, hyk, hyks⟩ := h1.at_name hgu hkl
      have hlt3 := (List.getElem?_eq_some_iff.1 hyk).1
      obtain ⟨hkj, hR⟩ := h1.rename2 hk hsu hg hy hgu hyk
      have hy2 : (r1.all.set k (nilTx, yk.2))[j]? = some y := by rw [List.getElem?_set_ne hkj]; exact hy
      have hset1 := flat_set1 (enc := alEnc) (sp := r1.asp) alEnc_len (y := (nilTx, yk.2)) (j := 0) (v := .string ⟨#[]⟩) (by omega) (by rfl) hyk
      have hset2 := flat_set1 (enc := alEnc) (sp := r1.asp) alEnc_len (y := (u, y.2)) (j := 0) (v := .string u) (by omega) (by rfl) hy2
      simp only [QMem, hve2, List.cons_append, List.nil_append]
      refine GO ?_
      simp only [show ((k : Nat) : Int) ≥ 0 by omega, decide_true]
      refine GO ?_
      refine VO.pull (A := slA (.slice (some ⟨b2, o2, none⟩) r1.all.length c2) (r1.all.flatMap alEnc) r1.asp) (by exact TKx) ?_
      simp only [slA_at]
      refine st_store' (us := [.string ⟨#[]⟩]) (by rfl) (by rfl) (by rfl) (by rfl) (by rfl) (Upd.set1 (i := k * 3 + 0) (by omega) (by rw [List.length_append, flat_lenS alEnc_len]; omega)) ?_
      rw [hset1]
      refine GO ?_
      refine st_store' (us := [.string u]) (by rfl) (by rfl) (by rfl) (by rfl) (by rfl) (Upd.set1 (i := j * 3 + 0) (by omega) (by rw [List.length_append, flat_lenS alEnc_len, List.length_set]; omega)) ?_
      rw [hset2]
      refine GO ?_
      refine VC.imp ?_ (VC.sub (by exact SUx) (fin 0 M hM (Nat.le_refl _) _ _ hR hfin))
      simp only [QMem, hve2, slA_at, List.length_set]; exact IMx
end Go.Proofs.YtgindbomnbojeaaGreat

/-
  The document's world: Sync.
-/
import Derived.Test.YtgindbomnbojeaaGreatD5
import Derived.Test.YtgindbomnbojeaaGreatCD
set_option linter.unusedSimpArgs false
set_option linter.unusedVariables false
namespace Go.Proofs.YtgindbomnbojeaaGreat
open Go Go.V
set_option maxHeartbeats 12800000
set_option maxRecDepth 100000
def syncRest : IC := match F38.body with | .seq _ (.seq _ (.seq _ (.seq _ (.seq _ (.seq _ r))))) => r | _ => .skip
def syncHead (r : IC) : IC := match F38.body with | .seq x0 (.seq x1 (.seq x2 (.seq x3 (.seq x4 (.seq x5 _))))) => .seq x0 (.seq x1 (.seq x2 (.seq x3 (.seq x4 (.seq x5 r))))) | _ => .skip
theorem sync_body : F38.body = syncHead syncRest := rfl
theorem qsync_spec (t : Nat) (r : QR) (a : AW) (M : Nat) (hM : M + 1 ≤ 1073741823) (h : QRep r a M) (n : Int) :
    Fun Tryz.prog 38 [ptr0 t, vi n] (QMem t r) (fun v Post => ∃ r', QRep r' (syncM n a).2.2 (M + 1) ∧ v = vi (syncM n a).2.1 ∧ Post = QMem t r') := by
  refine Fun.intro low38 (by simp [n38]) ?_
  rw [sync_body]
  have fin : ∀ (e : Int) (K : Nat) (hK : K + 1 ≤ 1073741823) (hKM : K ≤ M) (r2 : QR) (a2 : AW), QRep r2 a2 K → syncM n a = ({ deSync n with err := e }, e, { a2 with trace := a2.trace ++ [{ deSync n with err := e }] }) →
      VC Tryz.prog F38.n syncRest [(0, ptr0 t), (1, vi n), (7, vi e)] (QMem t r2) (endQ F38.res (fun v Post => ∃ r', QRep r' (syncM n a).2.2 (M + 1) ∧ v = vi (syncM n a).2.1 ∧ Post = QMem t r')) := by
    intro e K hK hKM r2 a2 h2 hd
    rw [hd]
    refine GO ?_
    refine st_call (qtell_spec t r2 a2 K (by omega) h2 { deSync n with err := e }) (by rfl) (R := []) (by simp [V.Spl]) (fun v Post hv => ?_)
    obtain ⟨rfl, r3, h3, rfl⟩ := hv
    rw [List.append_nil]
    refine GO ?_
    exact endQ_mk (.inr rfl) (.tmp (by rfl) .nil) ⟨r3, h3.mono (by omega), rfl, rfl⟩ (Imp.refl _)
  generalize syncRest = q at fin ⊢
  refine GO ?_
  refine st_call (qtake_spec t r a M h) (by rfl) (by simp only [QMem]; exact SPx) (fun v Post hv => ?_)
  obtain ⟨r1, h1, rfl, rfl⟩ := hv
  simp only [chEnc, List.append_nil]
  refine GO ?_
  refine st_alloc (fun p => ?_)
  refine GO ?_
  cases hl : liveA a with
  | false =>
    have hd : syncM n a = (noDe, 36, takeA a) := deedA_dead hl
    rw [hd]
    refine GO ?_
    exact endQ_mk (.inr rfl) (.tmp (by rfl) .nil) ⟨r1, h1.mono (Nat.le_succ M), rfl, rfl⟩ Imp.tail1
  | true =>
    simp only [if_true]
    have hd := @filedM_live a (deSync n) (syncF n) hl
    refine GO ?_
    refine st_call (qfault_spec (chA a)) (by rfl) Spl.nil (fun v Post hv => ?_)
    obtain ⟨rfl, rfl⟩ := hv
    rw [List.nil_append]
    refine GO ?_
    by_cases hf : faultE (chA a) = 0
    rotate_left
    · simp only [hf, decide_false]
      refine GO ?_
      simp only [hf, decide_false]
      refine GO ?_
      have := hd (e := faultE (chA a)) (d' := deSync n) (a2 := takeA a) (by rw [if_neg hf])
      rw [if_neg hf] at this
      exact VC.imp Imp.tail1 (VC.sub (by exact SUx) (fin _ M hM (Nat.le_refl _) r1 _ h1 this))
    simp only [hf, decide_true]
    refine GO ?_
    refine st_call (qheld_spec t r1 (takeA a) M (by omega) h1 n false) (by rfl) Spl.tail1 (fun v Post hv => ?_)
    obtain ⟨rfl, rfl⟩ := hv
    by_cases he : heldE (takeA a).hs n false = 0
    rotate_left
    · refine GO ?_
      simp only [he, decide_false]
      refine GO ?_
      have := hd (e := heldE (takeA a).hs n false) (d' := deSync n) (a2 := takeA a) (by rw [if_pos hf]; unfold syncF; rw [if_pos he])
      rw [if_neg he] at this
      exact VC.imp Imp.left (VC.sub (by exact SUx) (fin _ M hM (Nat.le_refl _) r1 _ h1 this))
    rw [he]
    obtain ⟨x, j, y, g1, g2, g3, g4, g5, g6, g7, g8, g9, g10, g11, g12⟩ := h1.openedF he
    have hsl := h1.hsl.rd
    have hal := h1.as.rd
    obtain ⟨b, o, c, hve, hcell⟩ := hsl.at_ (enc := rhEnc) rhEnc_len g3
    obtain ⟨b2, o2, c2, hve2, hcell2⟩ := hal.at_ (enc := alEnc) alEnc_len g9
    have hmm := h1.hm
    have hlt := (List.getElem?_eq_some_iff.1 g3).1
    have hlt2 := (List.getElem?_eq_some_iff.1 g9).1
    rw [hve] at hcell
    rw [hve2] at hcell2
    have hne : ¬ heldE (takeA a).hs n false ≠ 0 := by simpa using he
    obtain ⟨wa, wc, hwv⟩ := h1.wsl.form
    have hwrd := h1.wsl.rd
    have hwm := h1.wm
    rw [hwv] at hwrd
    have m0 : Atom.cell b (o + (n - 1).toNat * 6) (vi j) ∈ slA (.slice (some ⟨b, o, none⟩) r1.hs.length c) (r1.hs.flatMap rhEnc) r1.hsp := hcell _ (mem_cellsAt.2 ⟨0, _, by simp only [rhEnc, g4, Option.getD_some]; rfl, rfl⟩)
    have m1 : Atom.cell b2 (o2 + j * 3 + 1) (.string y.2.1) ∈ slA (.slice (some ⟨b2, o2, none⟩) r1.all.length c2) (r1.all.flatMap alEnc) r1.asp := hcell2 _ (mem_cellsAt.2 ⟨1, _, rfl, rfl⟩)
    have hset := flat_set1 (enc := alEnc) (sp := r1.asp) alEnc_len (y := (y.1, y.2.1, y.2.1)) (j := 2) (v := .string y.2.1) (by omega) (by rfl) g9
    have hfin := hd (e := 0) (d' := deSync n) (a2 := { takeA a with files := (takeA a).files.set j ⟨(fileAt (takeA a) j).now, (fileAt (takeA a) j).now, []⟩ }) (by rw [if_pos hf]; unfold syncF; rw [if_neg hne, g7]; simp only [putF, g6, g4, Option.getD_some])
    simp only [QMem, hve, hve2, hwv, List.cons_append, List.nil_append]
    generalize hL : slA (.slice (some ⟨b, o, none⟩) r1.hs.length c) (r1.hs.flatMap rhEnc) r1.hsp = L at m0 ⊢
    generalize hW : slA (.slice wa r1.ws.length wc) (r1.ws.flatMap rwEnc) r1.wsp = W at hwrd ⊢
    simp only [slA_at] at m1
    refine VO.imp (H' := [cellsAt t 0 [r1.cv, .slice (some ⟨b2, o2, none⟩) r1.all.length c2, .slice wa r1.ws.length wc, .slice (some ⟨b, o, none⟩) r1.hs.length c, r1.tv, vi r1.now, .bool r1.dead], slA r1.cv (r1.choices.flatMap chEnc) r1.csp, cellsAt b2 o2 (r1.all.flatMap alEnc ++ r1.asp), W, L, slA r1.tv (r1.told.flatMap deEnc) r1.tsp]) (by simp only [slA_at]; exact IMx) ?_
    refine GO ?_
    refine VO.pull (A := cellsAt b2 o2 (r1.all.flatMap alEnc ++ r1.asp)) (by exact TKx) ?_
    refine st_store' (us := [.string y.2.1]) (by rfl) (by rfl) (by rfl) (by rfl) (by rfl) (Upd.set1 (i := j * 3 + 2) (by omega) (by rw [List.length_append, flat_lenS alEnc_len]; omega)) ?_
    rw [hset]
    refine GO ?_
    refine VC.loop (α := Nat × Value × List Value) (Γf := fun x => [(0, ptr0 t), (1, vi n), (7, vi 0), (8, vi j), (9, x.2.1), (10, vi x.1)]) (Hf := fun x => slA x.2.1 (((r1.ws.take x.1).filter (fun q => decide (q.1 ≠ j))).flatMap rwEnc) x.2.2 :: [cellsAt b2 o2 ((r1.all.set j (y.1, y.2.1, y.2.1)).flatMap alEnc ++ r1.asp), cellsAt t 0 [r1.cv, .slice (some ⟨b2, o2, none⟩) r1.all.length c2, .slice wa r1.ws.length wc, .slice (some ⟨b, o, none⟩) r1.hs.length c, r1.tv, vi r1.now, .bool r1.dead], slA r1.cv (r1.choices.flatMap chEnc) r1.csp, W, L, slA r1.tv (r1.told.flatMap deEnc) r1.tsp])
      (I := fun x => x.1 ≤ r1.ws.length ∧ IsSl 4 x.2.1 ((r1.ws.take x.1).filter (fun q => decide (q.1 ≠ j))).length (((r1.ws.take x.1).filter (fun q => decide (q.1 ≠ j))).flatMap rwEnc) x.2.2) (μ := fun x => r1.ws.length - x.1) (0, .slice none 0 0, []) ⟨Nat.zero_le _, .nil⟩ (by exact SUx) (Imp.fresh rfl) ?_
    rintro ⟨i, kv, ksp⟩ ⟨hi, hkv⟩
    simp only at hi hkv
    obtain ⟨ka, kc, rfl⟩ := hkv.form
    have hkl := List.length_filter_le (fun q : Nat × Wr => decide (q.1 ≠ j)) (r1.ws.take i)
    rw [List.length_take] at hkl
    refine GO ?_
    (first | (apply VC.seq_cond; rfl) | (apply VC.cond; rfl))
    rotate_left
    · intro hge
      have hge : ¬ i < r1.ws.length := by simpa using hge
      rw [List.take_of_length_le (by omega)] at hkv ⊢
      have hR := h1.sync g5 g9 hkv
      refine GO ?_
      subst hL; subst hW
      refine VC.imp ?_ (VC.sub (by exact SUx) (fin 0 M hM (Nat.le_refl _) _ _ hR hfin))
      simp only [QMem, hve, hve2, slA_at, List.length_set]; exact IMx
    intro hlt3
    have hlt3 : i < r1.ws.length := by simpa using hlt3
    obtain ⟨z, hz⟩ : ∃ z, r1.ws[i]? = some z := ⟨r1.ws[i], List.getElem?_eq_getElem hlt3⟩
    obtain ⟨b3, o3, c3, hve3, hcell3⟩ := hwrd.at_ (enc := rwEnc) rwEnc_len hz
    simp only [Value.slice.injEq, true_and] at hve3
    obtain ⟨rfl, rfl⟩ := hve3
    have m3 : Atom.cell b3 (o3 + i * 4) (vi z.1) ∈ W := hcell3 _ (mem_cellsAt.2 ⟨0, _, rfl, rfl⟩)
    refine GO ?_
    by_cases e : z.1 = j
    · have hs : (r1.ws.take (i + 1)).filter (fun q => decide (q.1 ≠ j)) = (r1.ws.take i).filter (fun q => decide (q.1 ≠ j)) := by
        rw [List.take_add_one, hz, Option.toList_some, List.filter_append]; simp [e]
      simp only [show ((z.1 : Nat) : Int) = j by omega, decide_true, Bool.not_true]
      refine GO ?_
      exact ⟨(i + 1, .slice ka ((r1.ws.take i).filter (fun q => decide (q.1 ≠ j))).length kc, ksp), ⟨by show i + 1 ≤ r1.ws.length; omega, by simp only [hs]; exact hkv⟩, by show r1.ws.length - (i + 1) < r1.ws.length - i; omega, by exact SUx, by simp only [hs]; exact IMx⟩
    have hs : (r1.ws.take (i + 1)).filter (fun q => decide (q.1 ≠ j)) = (r1.ws.take i).filter (fun q => decide (q.1 ≠ j)) ++ [z] := by
      rw [List.take_add_one, hz, Option.toList_some, List.filter_append]; simp [e]
    simp only [show ¬ ((z.1 : Nat) : Int) = j by omega, decide_false, Bool.not_false]
    refine GO ?_
    refine st_loadA (us := rwEnc z) (by rfl) (fun y hy => by simp only [List.flatten_cons, List.mem_append]; simp only [hcell3 y hy, true_or, or_true]) (by rfl) ?_
    refine GO ?_
    refine st_bslice (out := rwEnc z) (by rfl) (by rfl) (fun q3 => ?_)
    refine GO ?_
    refine st_append (k := ((r1.ws.take i).filter (fun q => decide (q.1 ≠ j))).length) (m := 1) (xs := ((r1.ws.take i).filter (fun q => decide (q.1 ≠ j))).flatMap rwEnc) (sp := ksp) (ys := rwEnc z) (by rfl) (by rfl) hkv (by exact TKx) (by rfl) ?_ rfl (by rfl) (by rfl) (by decide) (by omega) (fun sv' sp' hsl' => ?_)
    · exact ⟨rfl, fun a ha => by simp only [List.flatten_cons, List.mem_append]; exact .inl ha⟩
    have hfl : ((r1.ws.take i).filter (fun q => decide (q.1 ≠ j)) ++ [z]).flatMap rwEnc = ((r1.ws.take i).filter (fun q => decide (q.1 ≠ j))).flatMap rwEnc ++ rwEnc z := by simp
    have hln : ((r1.ws.take i).filter (fun q => decide (q.1 ≠ j)) ++ [z]).length = ((r1.ws.take i).filter (fun q => decide (q.1 ≠ j))).length + 1 := by simp
    rw [← hfl, ← hln] at hsl'
    rw [← hfl]
    obtain ⟨a', c', rfl⟩ := hsl'.form
    refine GO ?_
    exact ⟨(i + 1, _, sp'), ⟨by show i + 1 ≤ r1.ws.length; omega, by simp only [hs]; exact hsl'⟩, by show r1.ws.length - (i + 1) < r1.ws.length - i; omega, by exact SUx, by simp only [hs]; exact IMx⟩
end Go.Proofs.YtgindbomnbojeaaGreat
namespace Go.V
open Go
section
variable {r : QR} {a : AW} {M : Nat}
theorem QRep.addHK (h : QRep r a M) (hm : r.hs.length < M) {y : HO} {hv : Value} {hsp : List Value} (hs : IsSl 6 hv (r.hs.length + 1) (r.hs.flatMap rhEnc ++ rhEnc y) hsp) (hin : ∀ i, y.file = some i → i < a.files.length) (ha : 0 ≤ y.at_ ∧ y.at_ ≤ 4194304) :
    QRep { r with hv := hv, hs := r.hs ++ [y], hsp := hsp } { a with hs := a.hs ++ [y] } M :=
  { h.addH hs hin ha with am := h.am, wm := h.wm, hm := by show (r.hs ++ [y]).length ≤ M; simp; omega, tm := h.tm }
theorem QRep.writeK (h : QRep r a M) (hm : r.ws.length < M) {j : Nat} {x : Wr} (hj : j < a.files.length) (hx : x.seq = a.seq + 1) {p : ByteArray × ByteArray × ByteArray} (hp : r.all[j]? = some p) (hlow : (onL x (fileAt a j).now).length ≤ 4194304) {wv : Value} {wsp : List Value} (hw : IsSl 4 wv (r.ws.length + 1) (r.ws.flatMap rwEnc ++ rwEnc (j, x)) wsp) :
    QRep { r with all := r.all.set j (p.1, ftxt (onL x (fileAt a j).now), p.2.2), wv := wv, ws := r.ws ++ [(j, x)], wsp := wsp } { a with files := a.files.set j (doesA (fileAt a j) x), seq := a.seq + 1 } M :=
  { h.write hj hx hp hlow hw with am := by show (r.all.set j _).length ≤ M + 64; rw [List.length_set]; exact h.am, wm := by show (r.ws ++ [(j, x)]).length ≤ M; simp; omega, hm := h.hm, tm := h.tm }
theorem QRep.newFileK (h : QRep r a M) (hm : r.all.length < M + 64) (hnin : ∀ p ∈ a.names, p.2 < a.files.length) {s : ByteArray} (hs : s ≠ nilTx) (hno : mget s a.names = none) {t : List UInt8} (ht : t.length ≤ 4194304) {av : Value} {asp : List Value} (ha : IsSl 3 av (r.all.length + 1) (r.all.flatMap alEnc ++ alEnc (s, ftxt t, ftxt t)) asp) :
    QRep { r with av := av, all := r.all ++ [(s, ftxt t, ftxt t)], asp := asp } { a with names := mset s a.files.length a.names, files := a.files ++ [⟨t, t, []⟩] } M :=
  { h.newFile hnin hs hno ht ha with am := by show (r.all ++ [(s, ftxt t, ftxt t)]).length ≤ M + 64; simp; omega, wm := h.wm, hm := h.hm, tm := h.tm }
end
def emptied (j : Nat) (mode : Int) (a : AW) : AW := if mode = 2 then { a with seq := a.seq + 1, files := a.files.set j (doesA (fileAt a j) ⟨a.seq + 1, 0, nilTx, true⟩) } else a
theorem openB_eq (j : Nat) (mode : Int) (d : De) (a : AW) : openB j mode d a = (0, { d with handle := a.hs.length + 1 }, { emptied j mode a with hs := a.hs ++ [⟨0, false, false, some j, mode, if mode = 3 then (fileAt a j).now.length else 0⟩] }) := rfl
theorem emptied_hs (j : Nat) (mode : Int) (a : AW) : (emptied j mode a).hs = a.hs := by unfold emptied; split <;> rfl
theorem emptied_len (j : Nat) (mode : Int) (a : AW) : (emptied j mode a).files.length = a.files.length := by unfold emptied; split <;> simp
end Go.V
namespace Go.Proofs.YtgindbomnbojeaaGreat
open Go Go.V
set_option maxHeartbeats 12800000
set_option maxRecDepth 100000
def OpensP (t : Nat) (r1 : QR) (a : AW) (M : Nat) (s : ByteArray) (mode : Int) (c : Ch) (v : Value) (Post : SH) : Prop :=
  ∃ (r2 : QR) (hn e : Int) (a2 : AW), QRep r2 a2 (M + 1) ∧ r2.told = r1.told ∧ (∀ d, d.handle = 0 → (if faultE c = 0 then openF s mode d a else (faultE c, d, a)) = (e, (if e = 0 then { d with handle := hn } else d), a2)) ∧ (e ≠ 0 → hn = 0) ∧ v = .tuple #[vi hn, vi e] ∧ Post = QMem t r2
def opRest : IC := match F94.body with | .seq _ (.seq _ (.seq _ (.seq _ (.seq _ (.seq _ (.seq _ (.seq _ r))))))) => r | _ => .skip
def opHead (r : IC) : IC := match F94.body with | .seq a (.seq b (.seq c (.seq d (.seq e (.seq f (.seq g (.seq h _))))))) => .seq a (.seq b (.seq c (.seq d (.seq e (.seq f (.seq g (.seq h r))))))) | _ => .skip
theorem op_body : F94.body = opHead opRest := rfl
theorem opRest_spec (t : Nat) (r1 : QR) (a : AW) (M : Nat) (hM : M ≤ 1073741822) (s : ByteArray) (mode : Int) (c : Ch) (hf : faultE c = 0) (rA : QR) (aA : AW) (j : Nat) (h : QRep rA aA (M + 1)) (ht : rA.told = r1.told) (hwm : rA.ws.length ≤ M) (hhm : rA.hs.length ≤ M) (hj : j < aA.files.length) (ho : ∀ d, openF s mode d a = openB j mode d aA) :
    VC Tryz.prog F94.n opRest [(0, ptr0 t), (2, vi mode), (12, vi j)] (QMem t rA) (endQ F94.res (OpensP t r1 a M s mode c)) := by
  obtain ⟨y, hy, e1, e2⟩ := h.file hj
  have hlow : (fileAt aA j).now.length ≤ 4194304 := by
    have : fileAt aA j = aA.files[j] := by simp [fileAt, hj]
    rw [this]; exact h.low _ (List.getElem_mem hj)
  have hlt2 := (List.getElem?_eq_some_iff.1 hy).1
  obtain ⟨b2, o2, c2, hve2, _⟩ := h.as.rd.at_ (enc := alEnc) alEnc_len hy
  obtain ⟨wa, wc, hwv⟩ := h.wsl.form
  have hwsl := h.wsl
  rw [hwv] at hwsl
  obtain ⟨ha, hc, hhv⟩ := h.hsl.form
  have hhsl := h.hsl
  rw [hhv] at hhsl
  have ham := h.am
  have ow := h.wm
  have oh := h.hm
  refine GO ?_
  refine st_alloc (fun p2 => ?_)
  refine GO ?_
  refine VC.joinT (α := QR) (fun _ => [(0, ptr0 t), (2, vi mode), (12, vi j), (13, .pointer (some ⟨p2, 0, none⟩))]) (fun rB => cellsAt p2 0 [vi j, .bool false, vi mode, vi 0, .bool false, .bool false] :: QMem t rB) (fun rB => QRep rB (emptied j mode aA) (M + 1) ∧ rB.told = r1.told ∧ rB.hs = rA.hs ∧ (mode ≠ 2 → rB = rA)) ?_ ?_
  · by_cases hm2 : mode = 2
    rotate_left
    · simp only [hm2, decide_false]
      refine GO ?_
      exact ⟨rA, ⟨by unfold emptied; rw [if_neg hm2]; exact h, ht, rfl, fun _ => rfl⟩, by exact SUx, Imp.refl _⟩
    have hem : emptied j mode aA = { aA with seq := aA.seq + 1, files := aA.files.set j (doesA (fileAt aA j) ⟨aA.seq + 1, 0, nilTx, true⟩) } := by unfold emptied; rw [if_pos hm2]
    have hon : onL ⟨aA.seq + 1, 0, nilTx, true⟩ (fileAt aA j).now = [] := by simp [onL]
    have hset := flat_set1 (enc := alEnc) (sp := rA.asp) alEnc_len (y := (y.1, nilTx, y.2.2)) (j := 1) (v := .string ⟨#[]⟩) (by omega) (by rfl) hy
    simp only [hm2, decide_true]
    simp only [QMem, hve2, hwv]
    refine GO ?_
    refine VO.pull (A := slA (.slice (some ⟨b2, o2, none⟩) rA.all.length c2) (rA.all.flatMap alEnc) rA.asp) (by exact TKx) ?_
    simp only [slA_at]
    refine st_store' (us := [.string ⟨#[]⟩]) (by rfl) (by rfl) (by rfl) (by rfl) (by rfl) (Upd.set1 (i := j * 3 + 1) (by omega) (by rw [List.length_append, flat_lenS alEnc_len]; omega)) ?_
    rw [hset]
    refine GO ?_
    refine st_bslice (out := rwEnc (j, ⟨aA.seq + 1, 0, nilTx, true⟩)) (by rfl) (by rfl) (fun q3 => ?_)
    refine GO ?_
    refine st_append (k := rA.ws.length) (m := 1) (xs := rA.ws.flatMap rwEnc) (sp := rA.wsp) (ys := rwEnc (j, ⟨aA.seq + 1, 0, nilTx, true⟩)) (by rfl) (by rfl) hwsl (by exact TKx) (by rfl) ?_ rfl (by rfl) (by rfl) (by decide) (by omega) (fun sv' sp' hsl' => ?_)
    · exact ⟨rfl, fun a ha => by simp only [List.flatten_cons, List.mem_append]; exact .inl ha⟩
    have hR := h.writeK (by omega) hj (x := ⟨aA.seq + 1, 0, nilTx, true⟩) rfl hy (by rw [hon]; exact Nat.zero_le _) hsl'
    rw [hon] at hR
    obtain ⟨a', c', rfl⟩ := hsl'.form
    refine GO ?_
    have e1 : (rA.ws ++ [(j, (⟨aA.seq + 1, 0, nilTx, true⟩ : Wr))]).flatMap rwEnc = rA.ws.flatMap rwEnc ++ rwEnc (j, ⟨aA.seq + 1, 0, nilTx, true⟩) := by simp
    rw [hm2] at hem
    rw [← hem] at hR
    refine ⟨_, ⟨hR, ht, rfl, fun hh => absurd rfl hh⟩, by exact SUx, ?_⟩
    simp only [hve2, slA_at, e1, List.length_set]
    rw [show ftxt [] = nilTx from rfl]
    exact IMx
  rintro rB ⟨hB, htB, hhB, hsame⟩
  obtain ⟨at2, hat2⟩ : ∃ at2 : Nat, at2 = (if mode = 3 then (fileAt aA j).now.length else 0) := ⟨_, rfl⟩
  have hat3 : at2 ≤ 4194304 := by rw [hat2]; split <;> omega
  refine GO ?_
  refine VC.joinT (α := Unit) (fun _ => [(0, ptr0 t), (13, .pointer (some ⟨p2, 0, none⟩))]) (fun _ => cellsAt p2 0 [vi j, .bool false, vi mode, vi at2, .bool false, .bool false] :: QMem t rB) (fun _ => True) ?_ ?_
  · by_cases hm3 : mode = 3
    rotate_left
    · rw [if_neg hm3] at hat2
      subst hat2
      simp only [hm3, decide_false]
      refine GO ?_
      exact ⟨(), trivial, by exact SUx, Imp.refl _⟩
    rw [if_pos hm3] at hat2
    obtain rfl := hsame (by omega)
    have m1 : Atom.cell b2 (o2 + j * 3 + 1) (.string (ftxt (fileAt aA j).now)) ∈ slA (.slice (some ⟨b2, o2, none⟩) rB.all.length c2) (rB.all.flatMap alEnc) rB.asp := by
      obtain ⟨b3, o3, c3, hve3, hcell3⟩ := h.as.rd.at_ (enc := alEnc) alEnc_len hy
      rw [hve2] at hve3 hcell3
      simp only [Value.slice.injEq, Option.some.injEq, Addr.mk.injEq, and_true, true_and] at hve3
      obtain ⟨⟨rfl, rfl⟩, rfl⟩ := hve3
      exact hcell3 _ (mem_cellsAt.2 ⟨1, _, by simp only [alEnc, e1]; rfl, rfl⟩)
    simp only [hm3, decide_true]
    simp only [QMem, hve2]
    refine GO ?_
    rw [ftxt_size, ← hat2]
    exact ⟨(), trivial, by exact SUx, by exact IMx⟩
  intro _ _
  obtain ⟨ha2, hc2, hhv2⟩ := hB.hsl.form
  have hhsl2 := hB.hsl
  rw [hhv2] at hhsl2
  have hhl : rB.hs.length ≤ M := by rw [hhB]; exact hhm
  simp only [QMem, hhv2]
  refine GO ?_
  refine st_bslice (out := rhEnc ⟨0, false, false, some j, mode, at2⟩) (by rfl) (by rfl) (fun q3 => ?_)
  refine GO ?_
  refine st_append (k := rB.hs.length) (m := 1) (xs := rB.hs.flatMap rhEnc) (sp := rB.hsp) (ys := rhEnc ⟨0, false, false, some j, mode, at2⟩) (by rfl) (by rfl) hhsl2 (by exact TKx) (by rfl) ?_ rfl (by rfl) (by rfl) (by decide) (by omega) (fun sv' sp' hsl' => ?_)
  · exact ⟨rfl, fun a ha => by simp only [List.flatten_cons, List.mem_append]; exact .inl ha⟩
  have hR := hB.addHK (by omega) hsl' (fun i hi => by cases hi; rw [emptied_len]; exact hj) ⟨by show (0 : Int) ≤ at2; omega, by show (at2 : Int) ≤ 4194304; omega⟩
  obtain ⟨a', c', rfl⟩ := hsl'.form
  have hlen := hB.hlen
  rw [emptied_hs] at hlen
  refine GO ?_
  have e3 : (rB.hs ++ [(⟨0, false, false, some j, mode, at2⟩ : HO)]).flatMap rhEnc = rB.hs.flatMap rhEnc ++ rhEnc ⟨0, false, false, some j, mode, at2⟩ := by simp
  refine endQ_mk (.inr rfl) (.tmp (by rfl) (.tmp (by rfl) .nil)) ⟨_, (rB.hs.length + 1 : Nat), 0, _, hR, htB, fun d _ => ?_, fun hh => absurd rfl hh, rfl, rfl⟩ ?_
  · have e5 : ((if mode = 3 then (fileAt aA j).now.length else 0 : Nat) : Int) = if mode = 3 then ((fileAt aA j).now.length : Int) else 0 := by split <;> rfl
    have e4 : ((aA.hs.length + 1 : Nat) : Int) = (aA.hs.length : Int) + 1 := by simp
    rw [if_pos hf, ho d, openB_eq, if_pos rfl, emptied_hs, hlen, hat2, e4, e5]
  · simp only [QMem, e3, List.length_append, List.length_singleton]; exact IMx
theorem qopens_spec (t : Nat) (r1 : QR) (a : AW) (M : Nat) (hM : M ≤ 1073741822) (h1 : QRep r1 a M) (hk : (a.names.map (·.1)).Nodup) (hin : ∀ p ∈ a.names, p.2 < a.files.length) (s : ByteArray) (hs : s.size ≤ 4611686018427387904) (mode : Int) (c : Ch) :
    Fun Tryz.prog 94 [ptr0 t, .string s, vi mode, .agg (chEnc c).toArray] (QMem t r1) (OpensP t r1 a M s mode c) := by
  refine Fun.intro low94 (by simp [n94]) ?_
  rw [op_body]
  have fin0 := fun hf rA aA j => opRest_spec t r1 a M hM s mode c hf rA aA j
  generalize opRest = q at fin0 ⊢
  refine VC.seq_reg ?_
  refine st_box (by rfl) (fun p => ?_)
  simp only [Value.cells, chEnc]
  refine GO ?_
  have bad : ∀ e : Int, e ≠ 0 → (∀ d, (if faultE c = 0 then openF s mode d a else (faultE c, d, a)) = (e, d, a)) → OpensP t r1 a M s mode c (.tuple #[vi 0, vi e]) (QMem t r1) := by
    intro e he hf
    exact ⟨r1, 0, e, a, h1.mono (Nat.le_succ M), rfl, fun d _ => by rw [hf d, if_neg he], fun _ => rfl, rfl, rfl⟩
  refine st_call (qfault_spec c) (by rfl) Spl.nil (fun v Post hv => ?_)
  obtain ⟨rfl, rfl⟩ := hv
  rw [List.nil_append]
  refine GO ?_
  by_cases hf : faultE c = 0
  rotate_left
  · simp only [hf, decide_false, Bool.not_false]
    refine GO ?_
    exact endQ_mk (.inr rfl) (.tmp (by rfl) (.tmp (by rfl) .nil)) (bad _ hf (fun d => if_neg hf)) Imp.tail1
  have bad : ∀ e : Int, e ≠ 0 → (∀ d, openF s mode d a = (e, d, a)) → OpensP t r1 a M s mode c (.tuple #[vi 0, vi e]) (QMem t r1) := fun e he hh => bad e he (fun d => by rw [if_pos hf]; exact hh d)
  simp only [hf, decide_true, Bool.not_true]
  refine GO ?_
  refine st_call (refName_spec s hs) (by rfl) Spl.nil (fun v Post hv => ?_)
  obtain ⟨rfl, rfl⟩ := hv
  rw [List.nil_append]
  refine GO ?_
  refine st_call (qfind_spec t r1 a M (by omega) h1 hin s) (by rfl) Spl.tail1 (fun v Post hv => ?_)
  obtain ⟨rfl, rfl⟩ := hv
  refine GO ?_
  cases hn : nameB s with
  | false =>
    refine GO ?_
    exact endQ_mk (.inr rfl) (.tmp (by rfl) (.tmp (by rfl) .nil)) (bad 35 (by decide) (fun d => by simp [openF, hn])) Imp.left
  | true =>
  have hsn : s ≠ nilTx := by
    rintro rfl
    exact absurd hn (by decide)
  refine GO ?_
  by_cases hm1 : mode < 1
  · simp only [hm1, decide_true]
    refine GO ?_
    exact endQ_mk (.inr rfl) (.tmp (by rfl) (.tmp (by rfl) .nil)) (bad 33 (by decide) (fun d => by simp [openF, hn, hm1])) Imp.left
  simp only [hm1, decide_false]
  refine GO ?_
  by_cases hm3 : mode > 3
  · simp only [hm3, decide_true]
    refine GO ?_
    exact endQ_mk (.inr rfl) (.tmp (by rfl) (.tmp (by rfl) .nil)) (bad 33 (by decide) (fun d => by simp [openF, hn, hm3])) Imp.left
  simp only [hm3, decide_false]
  refine GO ?_
  have hmode : ¬ (mode < 1 ∨ 3 < mode) := by omega
  have hR0 := h1.mono (Nat.le_succ M)
  have hwm := h1.wm
  have hhm := h1.hm
  have ham := h1.am
  have hlen := h1.alen
  have fin := fin0 hf
  have full : (32 ≤ usedN a.hs ∨ (mget s a.names = none ∧ 64 ≤ a.names.length)) → (mode = 1 → mget s a.names ≠ none) → ∀ d, openF s mode d a = (34, d, a) := by
    intro hfu h1m d
    unfold openF
    rw [hn, if_neg (by decide), if_neg hmode]
    cases hg : mget s a.names with
    | none =>
      simp only
      rw [if_neg (fun hh => h1m hh hg), if_pos (by rcases hfu with hh | hh; exact .inl hh; exact .inr hh.2)]
    | some j =>
      simp only
      rw [if_pos (by rcases hfu with hh | hh; exact hh; rw [hg] at hh; cases hh.1)]
  cases hg : mget s a.names with
  | none =>
    have hfe : findE a.names s = -1 := by unfold findE; rw [hg]
    rw [hfe]
    by_cases hmd : mode = 1
    · simp only [decide_eq_true hmd]
      refine GO ?_
      exact endQ_mk (.inr rfl) (.tmp (by rfl) (.tmp (by rfl) .nil)) (bad 32 (by decide) (fun d => by unfold openF; rw [hn, if_neg (by decide), if_neg hmode, hg]; exact if_pos hmd)) Imp.left
    simp only [decide_eq_false hmd]
    refine GO ?_
    refine st_call (qopen0_spec t r1 a M (by omega) h1) (by rfl) Spl.leftQ (fun v Post hv => ?_)
    obtain ⟨rfl, rfl⟩ := hv
    refine GO ?_
    by_cases hu : 32 ≤ usedN a.hs
    · simp only [show ((usedN a.hs : Nat) : Int) ≥ 32 by omega, decide_true]
      refine GO ?_
      exact endQ_mk (.inr rfl) (.tmp (by rfl) (.tmp (by rfl) .nil)) (bad 34 (by decide) (full (.inl hu) (fun hh => absurd hh hmd))) Imp.left
    simp only [show ¬ ((usedN a.hs : Nat) : Int) ≥ 32 by omega, decide_false]
    refine GO ?_
    refine st_call (qthere_spec t r1 a M (by omega) h1 hk hin) (by rfl) Spl.leftQ (fun v Post hv => ?_)
    obtain ⟨rfl, rfl⟩ := hv
    refine GO ?_
    by_cases hnl : 64 ≤ a.names.length
    · simp only [show ((a.names.length : Nat) : Int) ≥ 64 by omega, decide_true]
      refine GO ?_
      exact endQ_mk (.inr rfl) (.tmp (by rfl) (.tmp (by rfl) .nil)) (bad 34 (by decide) (full (.inr ⟨hg, hnl⟩) (fun hh => absurd hh hmd))) Imp.left
    simp only [show ¬ ((a.names.length : Nat) : Int) ≥ 64 by omega, decide_false]
    obtain ⟨aa, ac, hav⟩ := h1.as.form
    have hasl := h1.as
    rw [hav] at hasl
    simp only [QMem, hav, List.cons_append, List.nil_append]
    refine GO ?_
    refine st_bslice (out := alEnc (s, ftxt [], ftxt [])) (by rfl) (by rfl) (fun q3 => ?_)
    refine GO ?_
    refine st_append (k := r1.all.length) (m := 1) (xs := r1.all.flatMap alEnc) (sp := r1.asp) (ys := alEnc (s, ftxt [], ftxt [])) (by rfl) (by rfl) hasl (by exact TKx) (by rfl) ?_ rfl (by rfl) (by rfl) (by decide) (by omega) (fun sv' sp' hsl' => ?_)
    · exact ⟨rfl, fun a ha => by simp only [List.flatten_cons, List.mem_append]; exact .inl ha⟩
    have hR := hR0.newFileK (by omega) hin hsn hg (t := []) (by simp) hsl'
    obtain ⟨a', c', rfl⟩ := hsl'.form
    refine GO ?_
    have e1 : (r1.all ++ [(s, ftxt [], ftxt [])]).flatMap alEnc = r1.all.flatMap alEnc ++ alEnc (s, ftxt [], ftxt []) := by simp
    refine VC.imp ?_ (VC.sub (by exact SUx) (fin _ _ r1.all.length hR rfl hwm hhm (by rw [hlen]; simp) (fun d => ?_)))
    · simp only [QMem, e1, List.length_append, List.length_singleton]; exact IMx
    · unfold openF
      rw [hlen, hn, if_neg (by decide), if_neg hmode, hg]
      simp only
      rw [if_neg hmd, if_neg (by omega)]
      rfl
  | some j =>
    have hfe : findE a.names s = j := by unfold findE; rw [hg]
    rw [hfe]
    have hj := hin _ (mget_mem hg)
    have hok : usedN a.hs < 32 → ∀ d, openF s mode d a = openB j mode d a := by
      intro hu d
      unfold openF
      rw [hn, if_neg (by decide), if_neg hmode, hg]
      simp only
      rw [if_neg (by omega)]
    have hneg : ¬ ((j : Nat) : Int) < 0 := by omega
    have go : ∀ b0 : Bool, decide (mode = 1) = b0 → True := fun _ _ => trivial
    by_cases hmd : mode = 1
    · simp only [decide_eq_true hmd]
      refine GO ?_
      simp only [hneg, decide_false]
      refine GO ?_
      refine st_call (qopen0_spec t r1 a M (by omega) h1) (by rfl) Spl.leftQ (fun v Post hv => ?_)
      obtain ⟨rfl, rfl⟩ := hv
      refine GO ?_
      by_cases hu : 32 ≤ usedN a.hs
      · simp only [show ((usedN a.hs : Nat) : Int) ≥ 32 by omega, decide_true]
        refine GO ?_
        exact endQ_mk (.inr rfl) (.tmp (by rfl) (.tmp (by rfl) .nil)) (bad 34 (by decide) (full (.inl hu) (fun _ => by rw [hg]; simp))) Imp.left
      simp only [show ¬ ((usedN a.hs : Nat) : Int) ≥ 32 by omega, decide_false]
      refine GO ?_
      simp only [hneg, decide_false]
      refine GO ?_
      exact VC.imp Imp.left (VC.sub (by exact SUx) (fin _ _ j hR0 rfl hwm hhm hj (hok (by omega))))
    simp only [decide_eq_false hmd]
    refine GO ?_
    refine st_call (qopen0_spec t r1 a M (by omega) h1) (by rfl) Spl.leftQ (fun v Post hv => ?_)
    obtain ⟨rfl, rfl⟩ := hv
    refine GO ?_
    by_cases hu : 32 ≤ usedN a.hs
    · simp only [show ((usedN a.hs : Nat) : Int) ≥ 32 by omega, decide_true]
      refine GO ?_
      exact endQ_mk (.inr rfl) (.tmp (by rfl) (.tmp (by rfl) .nil)) (bad 34 (by decide) (full (.inl hu) (fun _ => by rw [hg]; simp))) Imp.left
    simp only [show ¬ ((usedN a.hs : Nat) : Int) ≥ 32 by omega, decide_false]
    refine GO ?_
    simp only [hneg, decide_false]
    refine GO ?_
    exact VC.imp Imp.left (VC.sub (by exact SUx) (fin _ _ j hR0 rfl hwm hhm hj (hok (by omega))))
def opnRest : IC := match F32.body with | .seq _ (.seq _ (.seq _ (.seq _ r))) => r | _ => .skip
def opnHead (r : IC) : IC := match F32.body with | .seq x0 (.seq x1 (.seq x2 (.seq x3 _))) => .seq x0 (.seq x1 (.seq x2 (.seq x3 r))) | _ => .skip
theorem opn_body : F32.body = opnHead opnRest := rfl
theorem qopn_spec (t : Nat) (r : QR) (a : AW) (M : Nat) (hM : M + 1 ≤ 1073741823) (h : QRep r a M) (hk : (a.names.map (·.1)).Nodup) (hin : ∀ p ∈ a.names, p.2 < a.files.length) (s : ByteArray) (hs : s.size ≤ 4611686018427387904) (mode : Int) :
    Fun Tryz.prog 32 [ptr0 t, .string s, vi mode] (QMem t r) (fun v Post => ∃ r', QRep r' (openM s mode a).2.2 (M + 1) ∧ v = .tuple #[vi (openM s mode a).1.handle, vi (openM s mode a).2.1] ∧ Post = QMem t r') := by
  refine Fun.intro low32 (by simp [n32]) ?_
  rw [opn_body]
  have fin : ∀ (hn e : Int) (r2 : QR) (a2 : AW), QRep r2 a2 (M + 1) → r2.told.length ≤ M → openM s mode a = ({ deOpen s mode with handle := hn, err := e }, e, { a2 with trace := a2.trace ++ [{ deOpen s mode with handle := hn, err := e }] }) →
      VC Tryz.prog F32.n opnRest [(0, ptr0 t), (1, .string s), (2, vi mode), (10, vi hn), (11, vi e)] (QMem t r2) (endQ F32.res (fun v Post => ∃ r', QRep r' (openM s mode a).2.2 (M + 1) ∧ v = .tuple #[vi (openM s mode a).1.handle, vi (openM s mode a).2.1] ∧ Post = QMem t r')) := by
    intro hn e r2 a2 h2 htl hd
    rw [hd]
    refine GO ?_
    refine st_call (qtellK_spec t r2 a2 (M + 1) (by omega) h2 (by omega) { deOpen s mode with handle := hn, err := e }) (by rfl) (R := []) (by simp [V.Spl]) (fun v Post hv => ?_)
    obtain ⟨rfl, r3, h3, rfl⟩ := hv
    rw [List.append_nil]
    refine GO ?_
    exact endQ_mk (.inr rfl) (.tmp (by rfl) (.tmp (by rfl) .nil)) ⟨r3, h3, rfl, rfl⟩ (Imp.refl _)
  generalize opnRest = q at fin ⊢
  refine GO ?_
  refine st_call (qtake_spec t r a M h) (by rfl) (by simp only [QMem]; exact SPx) (fun v Post hv => ?_)
  obtain ⟨r1, h1, rfl, rfl⟩ := hv
  simp only [chEnc, List.append_nil]
  refine GO ?_
  refine st_alloc (fun p => ?_)
  refine GO ?_
  cases hl : liveA a with
  | false =>
    have hd : openM s mode a = (noDe, 36, takeA a) := deedA_dead hl
    rw [hd]
    refine GO ?_
    exact endQ_mk (.inr rfl) (.tmp (by rfl) (.tmp (by rfl) .nil)) ⟨r1, h1.mono (Nat.le_succ M), rfl, rfl⟩ Imp.tail1
  | true =>
    simp only [if_true]
    have hd := @filedM_live a (deOpen s mode) (openF s mode) hl
    refine GO ?_
    refine st_call (qopens_spec t r1 (takeA a) M (by omega) h1 hk hin s hs mode (chA a)) (by rfl) Spl.tail1 (fun v Post hv => ?_)
    obtain ⟨r2, hn, e, a2, h2, ht, hf, hs, rfl, rfl⟩ := hv
    refine GO ?_
    have := hd (hf (deOpen s mode) rfl)
    refine VC.imp Imp.left (VC.sub (by exact SUx) (fin hn e r2 a2 h2 (by rw [ht]; exact h1.tm) ?_))
    show filedM (deOpen s mode) (openF s mode) a = _
    rw [this]
    by_cases e0 : e = 0
    · subst e0; rfl
    · rw [if_neg e0, hs e0]; rfl
end Go.Proofs.YtgindbomnbojeaaGreat
namespace Go.V
open Go
theorem tx_txL (s : ByteArray) : ftxt (txL s) = s := tx_ftxt s
def qEmpty (cv : Value) (cs : List Ch) (csp : List Value) : QR := ⟨cv, cs, csp, .slice none 0 0, [], [], .slice none 0 0, [], [], .slice none 0 0, [], [], .slice none 0 0, [], [], 0, false⟩
theorem qEmpty_rep {cv : Value} {cs : List Ch} {csp : List Value} (h : IsSl 3 cv cs.length (cs.flatMap chEnc) csp) (hl : cs.length ≤ 65536) : QRep (qEmpty cv cs csp) { emptyA with choices := cs } 0 := by
  refine ⟨rfl, rfl, rfl, rfl, rfl, rfl, by simp [qEmpty], by simp [emptyA], by simp [qEmpty], by simp [qEmpty], by simp [qEmpty], h, .nil, .nil, .nil, .nil, hl, by simp [qEmpty], by simp [qEmpty], by simp [qEmpty], by simp [qEmpty], by simp [qEmpty], by simp [qEmpty], by simp [emptyA], by simp [emptyA], by simp [emptyA]⟩
end Go.V
namespace Go.Proofs.YtgindbomnbojeaaGreat
open Go Go.V
set_option maxHeartbeats 12800000
set_option maxRecDepth 100000
theorem qnew_spec (A : List Atom) (cv fv : Value) (cs : List Ch) (fs : List (ByteArray × ByteArray)) (hc : RdRow 3 A cv cs.length (cs.flatMap chEnc)) (hf : RdRow 2 A fv fs.length (fs.flatMap fiEnc))
    (hcl : cs.length ≤ 1073741824) (hfl : fs.length ≤ 1073741823) (hsz : ∀ p ∈ fs, p.1.size ≤ 4611686018427387904 ∧ p.2.size ≤ 4611686018427387904) :
    Fun Tryz.prog 10 [cv, fv] [A] (fun v Post => match newA cs fs with | none => v = .tuple #[.pointer none, vi 1] ∧ Post = [A] | some a => ∃ t r, v = .tuple #[ptr0 t, vi 0] ∧ QRep r a 0 ∧ Post = QMem t r ++ [A]) := by
  refine Fun.intro low10 (by simp [n10]) ?_
  obtain ⟨ca, cc, hcv⟩ := hc.form
  obtain ⟨fa, fc, hfv⟩ := hf.form
  rw [hcv, hfv]
  have hnew0 : newA cs fs = none ∨ ∃ a, addFs emptyA fs = some a ∧ newA cs fs = if 65536 < cs.length ∨ 64 < fs.length then none else some { a with choices := cs } := by
    unfold newA
    cases addFs emptyA fs with
    | none => exact .inl rfl
    | some a => exact .inr ⟨a, rfl, rfl⟩
  have big : 65536 < cs.length ∨ 64 < fs.length → newA cs fs = none := by
    intro hb
    rcases hnew0 with hh | ⟨a, _, hh⟩
    · exact hh
    · rw [hh, if_pos hb]
  refine GO ?_
  by_cases h1 : (cs.length : Int) > 65536
  · simp only [h1, decide_true]
    refine GO ?_
    rw [big (.inl (by omega))]
    exact endQ_mk (Post := [A]) (.inr rfl) (.tmp (by rfl) (.tmp (by rfl) .nil)) ⟨rfl, rfl⟩ (by exact IMx)
  simp only [h1, decide_false]
  refine GO ?_
  by_cases h2 : (fs.length : Int) > 64
  · simp only [h2, decide_true]
    refine GO ?_
    rw [big (.inr (by omega))]
    exact endQ_mk (Post := [A]) (.inr rfl) (.tmp (by rfl) (.tmp (by rfl) .nil)) ⟨rfl, rfl⟩ (by exact IMx)
  simp only [h2, decide_false]
  refine GO ?_
  refine st_box (by rfl) (fun t => ?_)
  simp only [Value.cells]
  refine GO ?_
  rw [hcv] at hc
  refine VO.imp (Imp.fresh (A := slA (.slice none 0 0) [] []) rfl) ?_
  refine st_append (k := 0) (m := cs.length) (xs := []) (sp := []) (ys := cs.flatMap chEnc) (by rfl) (by rfl) .nil .here (by rfl) ?_ ?_ (chEnc_one _) (by rfl) (by decide) (by omega) (fun sv' sp' hsl' => ?_)
  · rcases hc with ⟨e1, e2, e3⟩ | ⟨b, o, c, e1, e2, e3, e4⟩
    · simp only [Value.slice.injEq] at e1
      obtain ⟨rfl, -, -⟩ := e1
      simpa [Src] using e3
    · simp only [Value.slice.injEq, true_and] at e1
      obtain ⟨rfl, rfl⟩ := e1
      exact ⟨e3, fun x hx => by simp only [List.flatten_cons, List.mem_append]; simp only [e4 x hx, true_or, or_true]⟩
  · exact flat_lenS chEnc_len cs
  rw [Nat.zero_add, List.nil_append] at hsl'
  rw [List.nil_append]
  have h0 := qEmpty_rep hsl' (by omega)
  obtain ⟨a1, c1, rfl⟩ := hsl'.form
  refine GO ?_
  refine VC.loop (α := QR × AW × Nat) (Γf := fun y => [(1, .slice fa fs.length fc), (6, ptr0 t), (7, vi y.2.2)]) (Hf := fun y => QMem t y.1 ++ [A])
    (I := fun y => y.2.2 ≤ fs.length ∧ QRep y.1 { y.2.1 with choices := cs } 0 ∧ y.1.all.length = y.2.2 ∧ addFs emptyA (fs.take y.2.2) = some y.2.1 ∧ (∀ p ∈ y.2.1.names, p.2 < y.2.1.files.length)) (μ := fun y => fs.length - y.2.2) (_, emptyA, 0) ⟨Nat.zero_le _, h0, rfl, by simp [addFs], by simp [emptyA]⟩ (by exact SUx) (by simp only [QMem, qEmpty, List.cons_append, List.nil_append]; generalize slA (.slice a1 cs.length c1) (cs.flatMap chEnc) sp' = X; exact Imp.perm (by simp only [slA, List.flatten_cons, List.flatten_nil, List.append_nil, List.nil_append]; exact perm_lead _ _ _)) ?_
  rintro ⟨r, a, k⟩ ⟨hk, hR, hal, had, hin⟩
  simp only at hk hR hal had hin
  refine GO ?_
  (first | (apply VC.seq_cond; rfl) | (apply VC.cond; rfl))
  rotate_left
  · intro hge
    have hge : ¬ k < fs.length := by simpa using hge
    obtain rfl : k = fs.length := by omega
    rw [List.take_length] at had
    have hnew : newA cs fs = some { a with choices := cs } := by simp only [newA, had]; rw [if_neg (by omega)]
    refine GO ?_
    rw [hnew]
    exact endQ_mk (Post := QMem t r ++ [A]) (.inr rfl) (.tmp (by rfl) (.tmp (by rfl) .nil)) ⟨t, r, rfl, hR, rfl⟩ (Imp.refl _)
  intro hlt
  have hlt : k < fs.length := by simpa using hlt
  obtain ⟨x, hx⟩ : ∃ x, fs[k]? = some x := ⟨fs[k], by simp [hlt]⟩
  obtain ⟨b, o, c, hvf, hcell⟩ := hf.at_ (fun p => rfl) hx
  rw [hfv] at hvf
  simp only [Value.slice.injEq, true_and] at hvf
  obtain ⟨rfl, rfl⟩ := hvf
  have hxs := hsz x (List.mem_of_getElem? hx)
  have bad : addF a x = none → newA cs fs = none := fun h => by simp only [newA, addFs_bad had hx h]
  have n0 : Atom.cell b (o + k * 2) (.string x.1) ∈ A := hcell _ (mem_cellsAt.2 ⟨0, _, rfl, rfl⟩)
  have n1 : Atom.cell b (o + k * 2 + 1) (.string x.2) ∈ A := hcell _ (mem_cellsAt.2 ⟨1, _, rfl, rfl⟩)
  obtain ⟨aa, ac, hav⟩ := hR.as.form
  have hasl := hR.as
  rw [hav] at hasl
  simp only [QMem, hav, List.cons_append, List.nil_append]
  refine GO ?_
  refine st_call (refName_spec x.1 hxs.1) (by rfl) Spl.nil (fun v Post hv => ?_)
  obtain ⟨rfl, rfl⟩ := hv
  rw [List.nil_append]
  refine GO ?_
  refine st_call (qfind_spec t r { a with choices := cs } 0 (by decide) hR hin x.1) (by rfl) (by simp only [QMem, hav]; exact SPx) (fun v Post hv => ?_)
  obtain ⟨rfl, rfl⟩ := hv
  simp only [QMem, hav, List.cons_append, List.nil_append]
  refine GO ?_
  cases hn : nameB x.1 with
  | false =>
    refine GO ?_
    rw [bad (by simp [addF, hn])]
    exact endQ_mk (Post := [A]) (.inr rfl) (.tmp (by rfl) (.tmp (by rfl) .nil)) ⟨rfl, rfl⟩ (by exact IMx)
  | true =>
  have hsn : x.1 ≠ nilTx := by
    intro e
    rw [e] at hn
    exact absurd hn (by decide)
  refine GO ?_
  cases hg : mget x.1 a.names with
  | some j =>
    have hfe : findE a.names x.1 = j := by unfold findE; rw [hg]
    rw [hfe]
    simp only [show ((j : Nat) : Int) ≥ 0 by omega, decide_true]
    refine GO ?_
    rw [bad (by simp [addF, hg])]
    exact endQ_mk (Post := [A]) (.inr rfl) (.tmp (by rfl) (.tmp (by rfl) .nil)) ⟨rfl, rfl⟩ (by exact IMx)
  | none =>
  have hfe : findE a.names x.1 = -1 := by unfold findE; rw [hg]
  rw [hfe]
  refine GO ?_
  by_cases hsm : x.2.size ≤ 4194304
  rotate_left
  · simp only [show (x.2.size : Int) > 4194304 by omega, decide_true]
    refine GO ?_
    rw [bad (by simp only [addF, show (4194304 < x.2.size) by omega, decide_true, Bool.or_true, if_true])]
    exact endQ_mk (Post := [A]) (.inr rfl) (.tmp (by rfl) (.tmp (by rfl) .nil)) ⟨rfl, rfl⟩ (by exact IMx)
  simp only [show ¬ (x.2.size : Int) > 4194304 by omega, decide_false]
  refine GO ?_
  refine st_bslice (out := alEnc (x.1, ftxt (txL x.2), ftxt (txL x.2))) (by rfl) (by rw [tx_txL]; rfl) (fun q3 => ?_)
  refine GO ?_
  refine st_append (k := r.all.length) (m := 1) (xs := r.all.flatMap alEnc) (sp := r.asp) (ys := alEnc (x.1, ftxt (txL x.2), ftxt (txL x.2))) (by rfl) (by rfl) hasl (by exact TKx) (by rfl) ?_ rfl (by rfl) (by rfl) (by decide) (by omega) (fun sv' sp' hsl' => ?_)
  · exact ⟨rfl, fun a ha => by simp only [List.flatten_cons, List.mem_append]; exact .inl ha⟩
  have htl : (txL x.2).length = x.2.size := by simp [txL]
  have hR2 := hR.newFileK (by omega) hin hsn hg (t := txL x.2) (by omega) hsl'
  obtain ⟨a', c', rfl⟩ := hsl'.form
  refine GO ?_
  have e1 : (r.all ++ [(x.1, ftxt (txL x.2), ftxt (txL x.2))]).flatMap alEnc = r.all.flatMap alEnc ++ alEnc (x.1, ftxt (txL x.2), ftxt (txL x.2)) := by simp
  have haF : addF a x = some { a with names := mset x.1 a.files.length a.names, files := a.files ++ [⟨txL x.2, txL x.2, []⟩] } := by
    unfold addF; rw [hg, hn]; simp; omega
  have had2 : addFs emptyA (fs.take (k + 1)) = some { a with names := mset x.1 a.files.length a.names, files := a.files ++ [⟨txL x.2, txL x.2, []⟩] } := by
    rw [List.take_add_one, hx, Option.toList_some, addFs_snoc, had, Option.bind_some, haF]
  refine ⟨(_, _, k + 1), ⟨by show k + 1 ≤ fs.length; omega, hR2, by simp [hal], had2, ?_⟩, by show fs.length - (k + 1) < fs.length - k; omega, by exact SUx, ?_⟩
  · intro p hp
    simp only [List.length_append, List.length_singleton]
    rcases mem_mset hp with rfl | hp
    · show a.files.length < _; omega
    · have := hin p hp; omega
  · simp only [e1, List.length_append, List.length_singleton, List.cons_append, List.nil_append]; exact IMx
end Go.Proofs.YtgindbomnbojeaaGreat

/-
  An outer event: of the document's world, of the program's.
-/
import Derived.Test.YtgindbomnbojeaaGreatD3
import Derived.Test.YtgindbomnbojeaaGreatCB
import Derived.Test.YtgindbomnbojeaaGreatCD
set_option linter.unusedSimpArgs false
set_option linter.unusedVariables false
namespace Go.V
open Go
theorem drop1 {b o sc : Nat} {c : Ch} {cs : List Ch} {csp : List Value} (hcp : cs.length + 1 ≤ sc) (hlen : ((c :: cs).flatMap chEnc).length + csp.length = sc * 3) :
    IsSl 3 (.slice (some ⟨b, (if sc = 1 then o else o + 1 * 3), none⟩) cs.length (sc - 1)) cs.length (cs.flatMap chEnc) csp ∧
    ∀ L : SH, Imp (cellsAt b o ((c :: cs).flatMap chEnc ++ csp) :: L) (slA (.slice (some ⟨b, (if sc = 1 then o else o + 1 * 3), none⟩) cs.length (sc - 1)) (cs.flatMap chEnc) csp :: L) := by
  have hlen2 : (cs.flatMap chEnc).length = cs.length * 3 := flat_lenS chEnc_len cs
  refine ⟨.mk hlen2 ?_ (by omega), fun L => ?_⟩
  · simp only [List.flatMap_cons, List.length_append, chEnc, List.length_cons, List.length_nil] at hlen
    omega
  have hX : cellsAt b o ((c :: cs).flatMap chEnc ++ csp) = cellsAt b o (chEnc c ++ (cs.flatMap chEnc ++ csp)) := by simp [List.flatMap_cons, List.append_assoc]
  rw [hX]
  by_cases e : sc = 1
  · have e0 : cs = [] := List.eq_nil_of_length_eq_zero (by omega)
    have e1 : csp = [] := List.eq_nil_of_length_eq_zero (by
      simp only [List.flatMap_cons, List.length_append, chEnc, List.length_cons, List.length_nil] at hlen
      omega)
    refine ⟨[cellsAt b o (chEnc c ++ (cs.flatMap chEnc ++ csp))], ?_⟩
    simp only [e0, e1, slA, List.flatMap_nil, List.append_nil, cellsAt, V.Spl, List.flatten_cons, List.flatten_nil, List.nil_append]
    exact List.perm_append_comm
  · rw [if_neg e]
    refine ⟨[cellsAt b o (chEnc c)], ?_⟩
    simp only [slA_at, cellsAt_append, V.Spl, List.flatten_cons, List.flatten_nil, List.append_nil, List.append_assoc]
    simp only [chEnc, List.length_cons, List.length_nil, Nat.zero_add, Nat.reduceAdd, Nat.one_mul]
    exact List.perm_append_comm.trans (by simp only [List.append_assoc]; exact .refl _)
theorem QRep.drop {r : QR} {a : AW} {M : Nat} (h : QRep r a M) {c : Ch} {cs : List Ch} (hc : a.choices = c :: cs) {cv : Value} {csp : List Value} (hs : IsSl 3 cv cs.length (cs.flatMap chEnc) csp) : QRep { r with cv := cv, choices := cs, csp := csp } { a with choices := cs } M := by
  refine { h with ch := rfl, cs := hs, cm := ?_ }
  have := h.cm
  rw [h.ch, hc, List.length_cons] at this
  show cs.length ≤ 65536
  omega
theorem Rep.drop {w : WR} {a : AW} {M : Nat} (h : Rep w a M) {c : Ch} {cs : List Ch} (hc : a.choices = c :: cs) {cv : Value} {csp : List Value} (hs : IsSl 3 cv cs.length (cs.flatMap chEnc) csp) : Rep { w with cv := cv, choices := cs, csp := csp } { a with choices := cs } M := by
  refine { h with ch := rfl, ok := { h.ok with ch := hs, chmany := ?_ } }
  have := h.ok.chmany
  rw [h.ch, hc, List.length_cons] at this
  show cs.length ≤ 65536
  omega
end Go.V
namespace Go.Proofs.YtgindbomnbojeaaGreat
open Go Go.V
set_option maxHeartbeats 12800000
set_option maxRecDepth 100000
theorem qsignal_spec (t : Nat) (w : QR) (a : AW) (M : Nat) (h : QRep w a M) :
    Fun Tryz.prog 57 [ptr0 t] (QMem t w) (fun v Post => ∃ r', QRep r' (signalM a).2.2 M ∧ v = .tuple #[vi (signalM a).1, .bool (signalM a).2.1] ∧ Post = QMem t r') := by
  obtain ⟨sa, sc, hsv⟩ := h.cs.form
  have hcs := h.cs
  have hcm := h.cm
  have hd := h.dead
  refine Fun.intro low57 (by simp [n57]) ?_
  simp only [QMem, hsv]
  refine GO ?_
  cases hdd : w.dead with
  | true =>
    rw [hdd] at hd
    have hs : signalM a = (0, false, a) := by simp [signalM, ← hd]
    rw [hs]
    refine GO ?_
    exact endQ_mk (.inr rfl) (.tmp (by rfl) (.tmp (by rfl) .nil)) ⟨w, h, rfl, rfl⟩ (by simp only [QMem, hdd, hsv]; exact IMx)
  | false =>
    rw [hdd] at hd
    refine GO ?_
    cases hch : w.choices with
    | nil =>
      have hch2 : ([] : List Ch) = a.choices := by rw [← hch]; exact h.ch
      have hs : signalM a = (0, false, a) := by simp [signalM, ← hd, ← hch2]
      rw [hs]
      simp only [List.length_nil, Int.natCast_zero, decide_true]
      refine GO ?_
      exact endQ_mk (.inr rfl) (.tmp (by rfl) (.tmp (by rfl) .nil)) ⟨w, h, rfl, rfl⟩ (by simp only [QMem, hdd, hsv, hch, List.length_nil]; exact IMx)
    | cons c cs =>
      have hch2 : c :: cs = a.choices := by rw [← hch]; exact h.ch
      rw [hch] at hcs hsv hcm
      simp only [show ¬ (((c :: cs).length : Nat) : Int) = 0 by simp; omega, decide_false]
      obtain ⟨b, o, cp, he, hcp, hlen⟩ := hcs.some (by simp)
      rw [hsv] at he
      simp only [Value.slice.injEq, true_and] at he
      obtain ⟨rfl, rfl⟩ := he
      have hl1 : (c :: cs).length = cs.length + 1 := rfl
      rw [hl1] at hcp ⊢
      obtain ⟨hnew, himp⟩ := drop1 (b := b) (o := o) hcp hlen
      have m0 : Atom.cell b o (.int .u8 c.kind) ∈ cellsAt b o ((c :: cs).flatMap chEnc ++ w.csp) := mem_cellsAt.2 ⟨0, _, rfl, rfl⟩
      have m1 : Atom.cell b (o + 1) (vi c.n) ∈ cellsAt b o ((c :: cs).flatMap chEnc ++ w.csp) := mem_cellsAt.2 ⟨1, _, rfl, rfl⟩
      simp only [slA_at]
      generalize hL : cellsAt b o ((c :: cs).flatMap chEnc ++ w.csp) = L at m0 m1 himp ⊢
      refine GO ?_
      by_cases k6 : c.kind = 6
      rotate_left
      · have hs : signalM a = (0, false, a) := by simp [signalM, ← hd, ← hch2, k6]
        rw [hs]
        simp only [k6, decide_false]
        refine GO ?_
        exact endQ_mk (.inr rfl) (.tmp (by rfl) (.tmp (by rfl) .nil)) ⟨w, h, rfl, rfl⟩ (by simp only [QMem, hdd, hsv, hch, hl1, slA_at, hL]; exact IMx)
      have hs : signalM a = (c.n, true, { a with choices := cs }) := by simp [signalM, ← hd, ← hch2, k6]
      rw [hs]
      simp only [k6, decide_true]
      refine GO ?_
      refine st_slcL (l := 1) (h := cs.length + 1) (by rfl) (.num (by rfl)) .dft ⟨by omega, by omega⟩ rfl ?_
      refine GO ?_
      rw [Nat.add_sub_cancel]
      have hR := h.drop hch2.symm hnew
      refine endQ_mk (.inr rfl) (.tmp (by rfl) (.tmp (by rfl) .nil)) ⟨_, hR, rfl, rfl⟩ ?_
      refine Imp.cut (M := L :: [cellsAt t 0 [.slice (some ⟨b, (if sc = 1 then o else o + 1 * 3), none⟩) cs.length (sc - 1), w.av, w.wv, w.hv, w.tv, vi w.now, .bool false], slA w.av (w.all.flatMap alEnc) w.asp, slA w.wv (w.ws.flatMap rwEnc) w.wsp, slA w.hv (w.hs.flatMap rhEnc) w.hsp, slA w.tv (w.told.flatMap deEnc) w.tsp]) (by exact IMx) (Imp.cut (himp _) ?_)
      simp only [QMem, hdd]
      exact IMx
end Go.Proofs.YtgindbomnbojeaaGreat
namespace Go.V
open Go
def stl (h : HO) : HO := { h with stale := true }
theorem Rep.stale {w : WR} {a : AW} {M : Nat} (h : Rep w a M) : Rep { w with hs := w.hs.map stl } (staleM a) M := by
  have e1 : ((w.hs.map stl).map fun h => ptr0 h.blk) = w.hs.map fun h => ptr0 h.blk := by rw [List.map_map]; rfl
  refine { h with hs := ?_, hin := ?_, ok := { h.ok with hv := ?_, hfile := ?_, hat := ?_, hmany := ?_ } }
  · simp only [staleM, List.map_map]
    have e2 : ho0 ∘ stl = stl ∘ ho0 := rfl
    have e3 : hoB (w.objs.map (·.1)) ∘ (fun h : HO => { h with stale := true }) = stl ∘ hoB (w.objs.map (·.1)) := rfl
    rw [e2, e3, ← List.map_map, ← List.map_map, h.hs]
  · intro z hz i hi
    obtain ⟨y, hy, rfl⟩ := List.mem_map.1 hz
    exact h.hin y hy i hi
  · show IsSl 1 w.hv (w.hs.map stl).length ((w.hs.map stl).map fun h => ptr0 h.blk) w.hsp
    rw [e1, List.length_map]; exact h.ok.hv
  · intro z hz b hb
    obtain ⟨y, hy, rfl⟩ := List.mem_map.1 hz
    exact h.ok.hfile y hy b hb
  · intro z hz
    obtain ⟨y, hy, rfl⟩ := List.mem_map.1 hz
    exact h.ok.hat y hy
  · simpa using h.ok.hmany
end Go.V
namespace Go.Proofs.YtgindbomnbojeaaGreat
open Go Go.V
set_option maxHeartbeats 12800000
set_option maxRecDepth 100000
theorem signal_spec (t : Nat) (w : WR) (a : AW) (M : Nat) (h : Rep w a M) :
    Fun Tryz.prog 56 [ptr0 t] (WMem t w) (fun v Post => ∃ w', Rep w' (signalM a).2.2 M ∧ v = .tuple #[vi (signalM a).1, .bool (signalM a).2.1] ∧ Post = WMem t w') := by
  obtain ⟨sa, sc, hsv⟩ := h.ok.ch.form
  have hcs := h.ok.ch
  have hcm := h.ok.chmany
  have hd := h.dead
  refine Fun.intro low56 (by simp [n56]) ?_
  simp only [WMem, hsv]
  refine GO ?_
  cases hdd : w.dead with
  | true =>
    rw [hdd] at hd
    have hs : signalM a = (0, false, a) := by simp [signalM, ← hd]
    rw [hs]
    refine GO ?_
    exact endQ_mk (.inr rfl) (.tmp (by rfl) (.tmp (by rfl) .nil)) ⟨w, h, rfl, rfl⟩ (by simp only [WMem, hdd, hsv]; exact IMx)
  | false =>
    rw [hdd] at hd
    refine GO ?_
    cases hch : w.choices with
    | nil =>
      have hch2 : ([] : List Ch) = a.choices := by rw [← hch]; exact h.ch
      have hs : signalM a = (0, false, a) := by simp [signalM, ← hd, ← hch2]
      rw [hs]
      simp only [List.length_nil, Int.natCast_zero, decide_true]
      refine GO ?_
      exact endQ_mk (.inr rfl) (.tmp (by rfl) (.tmp (by rfl) .nil)) ⟨w, h, rfl, rfl⟩ (by simp only [WMem, hdd, hsv, hch, List.length_nil]; exact IMx)
    | cons c cs =>
      have hch2 : c :: cs = a.choices := by rw [← hch]; exact h.ch
      rw [hch] at hcs hsv hcm
      simp only [show ¬ (((c :: cs).length : Nat) : Int) = 0 by simp; omega, decide_false]
      obtain ⟨b, o, cp, he, hcp, hlen⟩ := hcs.some (by simp)
      rw [hsv] at he
      simp only [Value.slice.injEq, true_and] at he
      obtain ⟨rfl, rfl⟩ := he
      have hl1 : (c :: cs).length = cs.length + 1 := rfl
      rw [hl1] at hcp ⊢
      obtain ⟨hnew, himp⟩ := drop1 (b := b) (o := o) hcp hlen
      have m0 : Atom.cell b o (.int .u8 c.kind) ∈ cellsAt b o ((c :: cs).flatMap chEnc ++ w.csp) := mem_cellsAt.2 ⟨0, _, rfl, rfl⟩
      have m1 : Atom.cell b (o + 1) (vi c.n) ∈ cellsAt b o ((c :: cs).flatMap chEnc ++ w.csp) := mem_cellsAt.2 ⟨1, _, rfl, rfl⟩
      simp only [slA_at]
      generalize hL : cellsAt b o ((c :: cs).flatMap chEnc ++ w.csp) = L at m0 m1 himp ⊢
      refine GO ?_
      by_cases k6 : c.kind = 6
      rotate_left
      · have hs : signalM a = (0, false, a) := by simp [signalM, ← hd, ← hch2, k6]
        rw [hs]
        simp only [k6, decide_false]
        refine GO ?_
        exact endQ_mk (.inr rfl) (.tmp (by rfl) (.tmp (by rfl) .nil)) ⟨w, h, rfl, rfl⟩ (by simp only [WMem, hdd, hsv, hch, hl1, slA_at, hL]; exact IMx)
      have hs : signalM a = (c.n, true, { a with choices := cs }) := by simp [signalM, ← hd, ← hch2, k6]
      rw [hs]
      simp only [k6, decide_true]
      refine GO ?_
      refine st_slcL (l := 1) (h := cs.length + 1) (by rfl) (.num (by rfl)) .dft ⟨by omega, by omega⟩ rfl ?_
      refine GO ?_
      rw [Nat.add_sub_cancel]
      have hR := h.drop hch2.symm hnew
      refine endQ_mk (.inr rfl) (.tmp (by rfl) (.tmp (by rfl) .nil)) ⟨_, hR, rfl, rfl⟩ ?_
      refine Imp.cut (M := L :: [cellsAt t 0 [.slice (some ⟨b, (if sc = 1 then o else o + 1 * 3), none⟩) cs.length (sc - 1), .map (some w.fm), w.hv, w.tv, vi w.clock, vi w.seq, .bool false], [.obj w.fm (.map w.fes w.fc)], w.objs.flatMap foA, slA w.hv (w.hs.map fun h => ptr0 h.blk) w.hsp, w.hs.flatMap hoA, slA w.tv (w.trace.flatMap deEnc) w.tsp]) (by exact IMx) (Imp.cut (himp _) ?_)
      simp only [WMem, hdd]
      exact IMx
theorem stale_spec (t : Nat) (w : WR) (a : AW) (M : Nat) (hM : M ≤ 1073741823) (h : Rep w a M) :
    Fun Tryz.prog 58 [ptr0 t] (WMem t w) (fun v Post => v = .tuple #[] ∧ ∃ w', Rep w' (staleM a) M ∧ Post = WMem t w') := by
  obtain ⟨sa, sc, hsv⟩ := h.ok.hv.form
  have hhv := h.ok.hv
  have hmm := h.ok.hmany
  have hR := h.stale
  have hrd := h.ok.hv.rd
  refine Fun.intro low58 (by simp [n58]) ?_
  rw [hsv] at hrd
  simp only [WMem, hsv]
  generalize hL : slA (.slice sa w.hs.length sc) (w.hs.map fun h => ptr0 h.blk) w.hsp = L at hrd ⊢
  refine GO ?_
  refine VC.loop (α := Nat) (Γf := fun k => [(7, .slice sa w.hs.length sc), (8, vi w.hs.length), (9, vi k)]) (Hf := fun k => [cellsAt t 0 [w.cv, .map (some w.fm), .slice sa w.hs.length sc, w.tv, vi w.clock, vi w.seq, .bool w.dead], slA w.cv (w.choices.flatMap chEnc) w.csp, [.obj w.fm (.map w.fes w.fc)], w.objs.flatMap foA, L, (mapTo stl k w.hs).flatMap hoA, slA w.tv (w.trace.flatMap deEnc) w.tsp])
    (I := fun k => k ≤ w.hs.length) (μ := fun k => w.hs.length - k) 0 (Nat.zero_le _) (by exact SUx) (by rw [mapTo_zero]; exact IMx) ?_
  intro k hk
  refine GO ?_
  (first | (apply VC.seq_cond; rfl) | (apply VC.cond; rfl))
  rotate_left
  · intro hge
    have hge : ¬ k < w.hs.length := by simpa using hge
    rw [mapTo_all (by omega)]
    refine GO ?_
    refine endQ_mk (.inl rfl) .nil ⟨rfl, _, hR, rfl⟩ ?_
    have e1 : ((w.hs.map stl).map fun h => ptr0 h.blk) = w.hs.map fun h => ptr0 h.blk := by rw [List.map_map]; rfl
    simp only [e1, hsv, hL]
    exact IMx
  intro hlt
  have hlt : k < w.hs.length := by simpa using hlt
  obtain ⟨x, hx⟩ : ∃ x, w.hs[k]? = some x := ⟨w.hs[k], List.getElem?_eq_getElem hlt⟩
  obtain ⟨b, o, c, hve, m0⟩ := hrd.cell (f := fun h : HO => ptr0 h.blk) hx
  simp only [Value.slice.injEq, true_and] at hve
  obtain ⟨rfl, rfl⟩ := hve
  obtain ⟨xr, hx1, hx2⟩ := flat_take (f := hoA) (mapTo_get (f := stl) hx)
  have hx3 := hx2 (stl x)
  rw [← mapTo_succ hx] at hx3
  refine GO ?_
  refine VO.split (A := (mapTo stl k w.hs).flatMap hoA) (B := hoA x) (C := xr) (by exact TKx) hx1 ?_
  simp only [hoA, hoEnc]
  refine GO ?_
  refine ⟨k + 1, by show k + 1 ≤ w.hs.length; omega, by omega, by exact SUx, ?_⟩
  refine Imp.cut (M := [cellsAt t 0 [w.cv, .map (some w.fm), .slice (some ⟨b, o, none⟩) w.hs.length sc, w.tv, vi w.clock, vi w.seq, .bool w.dead], slA w.cv (w.choices.flatMap chEnc) w.csp, [.obj w.fm (.map w.fes w.fc)], w.objs.flatMap foA, L, hoA (stl x), xr, slA w.tv (w.trace.flatMap deEnc) w.tsp]) (by simp only [hoA, hoEnc, stl]; exact IMx) (Imp.perm ?_)
  simp only [List.flatten_cons, List.flatten_nil, List.append_nil]
  repeat' refine List.Perm.append_left _ ?_
  rw [← List.append_assoc]
  exact List.Perm.append_right _ hx3.symm
end Go.Proofs.YtgindbomnbojeaaGreat
namespace Go.V
open Go
theorem readF_in {n many : Int} {d : De} {a : AW} {x : HO} {l : List UInt8} (he : heldE a.hs n false = 0) (hx : getH a n = x) (hl : (getF a n).now = l) (hm : x.mode = 1) (hn : 0 ≤ many) :
    readF n many d a = (0, { d with text := ftxt ((l.drop (min x.at_.toNat l.length)).take many.toNat) }, putH a n { x with at_ := x.at_ + ((l.drop (min x.at_.toNat l.length)).take many.toNat).length }) := by
  unfold readF
  rw [if_neg (by simpa using he), hx, hl, if_neg (by simpa using hm), if_neg (by omega)]
end Go.V
namespace Go.Proofs.YtgindbomnbojeaaGreat
open Go Go.V
set_option maxHeartbeats 12800000
set_option maxRecDepth 100000
def ReadsP (t : Nat) (r1 : QR) (a : AW) (M : Nat) (n many : Int) (c : Ch) (v : Value) (Post : SH) : Prop :=
  ∃ (r2 : QR) (s : ByteArray) (e : Int) (a2 : AW), QRep r2 a2 M ∧ r2.told = r1.told ∧ (∀ d, d.text = nilTx → (if faultE c = 0 then readF n many d a else (faultE c, d, a)) = (e, (if e = 0 then { d with text := s } else d), a2)) ∧ (e ≠ 0 → s = nilTx) ∧ v = .tuple #[.string s, vi e] ∧ Post = QMem t r2
theorem qreads_spec (t : Nat) (r1 : QR) (a : AW) (M : Nat) (hM : M ≤ 1073741823) (h1 : QRep r1 a M) (n many : Int) (c : Ch) :
    Fun Tryz.prog 96 [ptr0 t, vi n, vi many, .agg (chEnc c).toArray] (QMem t r1) (ReadsP t r1 a M n many c) := by
  refine Fun.intro low96 (by simp [n96]) ?_
  refine VC.seq_reg ?_
  refine st_box (by rfl) (fun p => ?_)
  simp only [Value.cells, chEnc]
  refine GO ?_
  have bad : ∀ e : Int, e ≠ 0 → (∀ d, (if faultE c = 0 then readF n many d a else (faultE c, d, a)) = (e, d, a)) → ReadsP t r1 a M n many c (.tuple #[.string ⟨#[]⟩, vi e]) (QMem t r1) := by
    intro e he hf
    exact ⟨r1, nilTx, e, a, h1, rfl, fun d _ => by rw [hf d, if_neg he], fun _ => rfl, rfl, rfl⟩
  refine st_call (qfault_spec c) (by rfl) Spl.nil (fun v Post hv => ?_)
  obtain ⟨rfl, rfl⟩ := hv
  rw [List.nil_append]
  refine GO ?_
  by_cases hf : faultE c = 0
  rotate_left
  · simp only [hf, decide_false]
    refine GO ?_
    simp only [hf, decide_false, Bool.not_false]
    refine GO ?_
    exact endQ_mk (.inr rfl) (.tmp (by rfl) (.tmp (by rfl) .nil)) (bad _ hf (fun d => if_neg hf)) Imp.tail1
  simp only [hf, decide_true]
  refine GO ?_
  refine st_call (qheld_spec t r1 a M (by omega) h1 n false) (by rfl) Spl.tail1 (fun v Post hv => ?_)
  obtain ⟨rfl, rfl⟩ := hv
  by_cases he : heldE a.hs n false = 0
  rotate_left
  · refine GO ?_
    simp only [he, decide_false, Bool.not_false]
    refine GO ?_
    exact endQ_mk (.inr rfl) (.tmp (by rfl) (.tmp (by rfl) .nil)) (bad _ he (fun d => by rw [if_pos hf]; unfold readF; rw [if_pos he])) Imp.left
  rw [he]
  obtain ⟨x, j, y, g1, g2, g3, g4, g5, g6, g7, g8, g9, g10, g11, g12⟩ := h1.openedF he
  have hne : ¬ heldE a.hs n false ≠ 0 := by simpa using he
  obtain ⟨b, o, cc, hve, hcell⟩ := h1.hsl.rd.at_ (enc := rhEnc) rhEnc_len g3
  obtain ⟨b2, o2, c2, hve2, hcell2⟩ := h1.as.rd.at_ (enc := alEnc) alEnc_len g9
  have hmm := h1.hm
  have hlt := (List.getElem?_eq_some_iff.1 g3).1
  have hlt2 := (List.getElem?_eq_some_iff.1 g9).1
  rw [hve] at hcell
  rw [hve2] at hcell2
  have hbase : QMem t r1 = [cellsAt t 0 [r1.cv, .slice (some ⟨b2, o2, none⟩) r1.all.length c2, r1.wv, .slice (some ⟨b, o, none⟩) r1.hs.length cc, r1.tv, vi r1.now, .bool r1.dead], slA r1.cv (r1.choices.flatMap chEnc) r1.csp, slA (.slice (some ⟨b2, o2, none⟩) r1.all.length c2) (r1.all.flatMap alEnc) r1.asp, slA r1.wv (r1.ws.flatMap rwEnc) r1.wsp, slA (.slice (some ⟨b, o, none⟩) r1.hs.length cc) (r1.hs.flatMap rhEnc) r1.hsp, slA r1.tv (r1.told.flatMap deEnc) r1.tsp] := by simp only [QMem, hve, hve2]
  have m2 : Atom.cell b (o + (n - 1).toNat * 6 + 2) (vi x.mode) ∈ slA (.slice (some ⟨b, o, none⟩) r1.hs.length cc) (r1.hs.flatMap rhEnc) r1.hsp := hcell _ (mem_cellsAt.2 ⟨2, _, rfl, rfl⟩)
  have m1 : Atom.cell b2 (o2 + j * 3 + 1) (.string (ftxt (fileAt a j).now)) ∈ slA (.slice (some ⟨b2, o2, none⟩) r1.all.length c2) (r1.all.flatMap alEnc) r1.asp := hcell2 _ (mem_cellsAt.2 ⟨1, _, by simp only [alEnc, g10]; rfl, rfl⟩)
  rw [hbase]
  simp only [CNx]
  refine GO ?_
  by_cases hm : x.mode = 1
  rotate_left
  · simp only [hm, decide_false, Bool.not_false]
    refine GO ?_
    refine endQ_mk (.inr rfl) (.tmp (by rfl) (.tmp (by rfl) .nil)) (bad 33 (by decide) (fun d => by rw [if_pos hf]; unfold readF; rw [if_neg hne, g6, if_pos hm])) ?_
    rw [hbase]; exact IMx
  simp only [hm, decide_true, Bool.not_true]
  refine GO ?_
  by_cases hneg : many < 0
  · simp only [hneg, decide_true]
    refine GO ?_
    refine endQ_mk (.inr rfl) (.tmp (by rfl) (.tmp (by rfl) .nil)) (bad 1 (by decide) (fun d => by rw [if_pos hf]; unfold readF; rw [if_neg hne, g6, if_neg (by simpa using hm), if_pos hneg])) ?_
    rw [hbase]; exact IMx
  simp only [hneg, decide_false]
  generalize hL : slA (.slice (some ⟨b, o, none⟩) r1.hs.length cc) (r1.hs.flatMap rhEnc) r1.hsp = L at m2 hcell ⊢
  refine GO ?_
  refine st_loadA (us := rhEnc x) (by rfl) (fun y hy => by simp only [List.flatten_cons, List.mem_append]; simp only [hcell y hy, true_or, or_true]) (by rfl) ?_
  refine GO ?_
  refine st_alloc (fun p2 => ?_)
  simp only [rhEnc, g4, Option.getD_some, Option.isNone_some]
  refine GO ?_
  have hat := g8
  obtain ⟨at_, hat_⟩ : ∃ k : Nat, x.at_ = k := Int.eq_ofNat_of_zero_le g8.1
  have hr := fun d => readF_in (n := n) (many := many) (d := d) he g6 (show (getF a n).now = (fileAt a j).now by rw [g7]) hm (by omega)
  rw [hat_] at hr g8 ⊢
  obtain ⟨mn, rfl⟩ := Int.eq_ofNat_of_zero_le (show 0 ≤ many by omega)
  generalize hl0 : (fileAt a j).now = l at m1 g12 hr ⊢
  simp only [Int.toNat_natCast] at hr
  rw [ftxt_size]
  obtain ⟨fr, hfr⟩ : ∃ fr : Nat, fr = min at_ l.length := ⟨_, rfl⟩
  have hfi : (if (l.length : Int) < (at_ : Int) then (l.length : Int) else (at_ : Int)) = (fr : Int) := by rw [hfr]; split <;> omega
  have hfl : fr ≤ l.length := by omega
  rw [hfi, wrap64 ⟨by omega, by omega⟩]
  rw [← hfr] at hr
  obtain ⟨sl, hsl⟩ : ∃ sl : Nat, sl = ((l.drop fr).take mn).length := ⟨_, rfl⟩
  have hsl2 : sl = min mn (l.length - fr) := by rw [hsl]; simp
  refine VC.joinT (α := Unit) (fun _ => [(0, ptr0 t), (1, vi n), (11, .pointer (some ⟨p2, 0, none⟩)), (12, .string (ftxt l)), (13, vi fr), (14, vi (fr + sl : Nat))]) (fun _ => [cellsAt p2 0 [vi j, .bool false, vi x.mode, vi at_, .bool x.closed, .bool x.stale], cellsAt t 0 [r1.cv, .slice (some ⟨b2, o2, none⟩) r1.all.length c2, r1.wv, .slice (some ⟨b, o, none⟩) r1.hs.length cc, r1.tv, vi r1.now, .bool r1.dead], slA r1.cv (r1.choices.flatMap chEnc) r1.csp, slA (.slice (some ⟨b2, o2, none⟩) r1.all.length c2) (r1.all.flatMap alEnc) r1.asp, slA r1.wv (r1.ws.flatMap rwEnc) r1.wsp, L, slA r1.tv (r1.told.flatMap deEnc) r1.tsp]) (fun _ => True) ?_ ?_
  · by_cases hmn : (mn : Int) < (l.length : Int) - (fr : Int)
    · have e : sl = mn := by omega
      simp only [hmn, decide_true]
      refine GO ?_
      exact ⟨(), trivial, by rw [e, Int.natCast_add]; exact SUx, by exact IMx⟩
    · have e : fr + sl = l.length := by omega
      simp only [hmn, decide_false]
      refine GO ?_
      exact ⟨(), trivial, by rw [e]; exact SUx, by exact IMx⟩
  intro _ _
  subst hL
  have hR := h1.setH (n := n) (y := { x with at_ := (at_ : Int) + sl }) g2 rfl ⟨by show (0 : Int) ≤ at_ + sl; omega, by show (at_ : Int) + sl ≤ 4194304; omega⟩
  have hset := flat_set1 (enc := rhEnc) (sp := r1.hsp) rhEnc_len (y := { x with at_ := (at_ : Int) + sl }) (j := 3) (v := vi ((at_ : Int) + sl)) (by omega) (by rfl) g3
  refine GO ?_
  have hmx : (if (at_ : Int) < ((fr + sl : Nat) : Int) then ((fr + sl : Nat) : Int) else (at_ : Int)) = (at_ : Int) + sl := by split <;> omega
  rw [hmx]
  refine VO.pull (A := slA (.slice (some ⟨b, o, none⟩) r1.hs.length cc) (r1.hs.flatMap rhEnc) r1.hsp) (by exact TKx) ?_
  simp only [slA_at]
  refine st_store' (us := [vi ((at_ : Int) + sl)]) (by rfl) (by rfl) (by rfl) (by rfl) (by rfl) (Upd.set1 (i := (n - 1).toNat * 6 + 3) (by omega) (by rw [List.length_append, flat_lenS rhEnc_len]; omega)) ?_
  rw [hset]
  refine GO ?_
  refine st_slcS (l := fr) (h := fr + sl) (by rfl) (.num (by rfl)) (.num (by rfl)) ⟨by omega, by rw [ftxt_size]; omega⟩ ?_
  rw [ftxt_extract, Nat.add_sub_cancel_left]
  have hs : (l.drop fr).take sl = (l.drop fr).take mn := by rw [hsl2]; rw [List.take_eq_take_iff]; simp
  rw [hs]
  refine GO ?_
  refine endQ_mk (.inr rfl) (.tmp (by rfl) (.tmp (by rfl) .nil)) ⟨_, ftxt ((l.drop fr).take mn), 0, _, hR, rfl, fun d _ => ?_, fun hh => absurd rfl hh, rfl, rfl⟩ ?_
  · rw [if_pos hf, hr d, if_pos rfl, hsl]
  · simp only [QMem, hve, hve2, slA_at, List.length_set]; exact IMx
def readRest : IC := match F33.body with | .seq _ (.seq _ (.seq _ (.seq _ r))) => r | _ => .skip
def readHead (r : IC) : IC := match F33.body with | .seq x0 (.seq x1 (.seq x2 (.seq x3 _))) => .seq x0 (.seq x1 (.seq x2 (.seq x3 r))) | _ => .skip
theorem read_body : F33.body = readHead readRest := rfl
theorem qread_spec (t : Nat) (r : QR) (a : AW) (M : Nat) (hM : M + 1 ≤ 1073741823) (h : QRep r a M) (n many : Int) :
    Fun Tryz.prog 33 [ptr0 t, vi n, vi many] (QMem t r) (fun v Post => ∃ r', QRep r' (readM n many a).2.2 (M + 1) ∧ v = .tuple #[.string (readM n many a).1.text, vi (readM n many a).2.1] ∧ Post = QMem t r') := by
  refine Fun.intro low33 (by simp [n33]) ?_
  rw [read_body]
  have fin : ∀ (s : ByteArray) (e : Int) (r2 : QR) (a2 : AW), QRep r2 a2 (M + 1) → r2.told.length ≤ M → readM n many a = ({ deRead n many with text := s, err := e }, e, { a2 with trace := a2.trace ++ [{ deRead n many with text := s, err := e }] }) →
      VC Tryz.prog F33.n readRest [(0, ptr0 t), (1, vi n), (2, vi many), (10, .string s), (11, vi e)] (QMem t r2) (endQ F33.res (fun v Post => ∃ r', QRep r' (readM n many a).2.2 (M + 1) ∧ v = .tuple #[.string (readM n many a).1.text, vi (readM n many a).2.1] ∧ Post = QMem t r')) := by
    intro s e r2 a2 h2 htl hd
    rw [hd]
    refine GO ?_
    refine st_call (qtellK_spec t r2 a2 (M + 1) (by omega) h2 (by omega) { deRead n many with text := s, err := e }) (by rfl) (R := []) (by simp [V.Spl]) (fun v Post hv => ?_)
    obtain ⟨rfl, r3, h3, rfl⟩ := hv
    rw [List.append_nil]
    refine GO ?_
    exact endQ_mk (.inr rfl) (.tmp (by rfl) (.tmp (by rfl) .nil)) ⟨r3, h3, rfl, rfl⟩ (Imp.refl _)
  generalize readRest = q at fin ⊢
  refine GO ?_
  refine st_call (qtake_spec t r a M h) (by rfl) (by simp only [QMem]; exact SPx) (fun v Post hv => ?_)
  obtain ⟨r1, h1, rfl, rfl⟩ := hv
  simp only [chEnc, List.append_nil]
  refine GO ?_
  refine st_alloc (fun p => ?_)
  refine GO ?_
  cases hl : liveA a with
  | false =>
    have hd : readM n many a = (noDe, 36, takeA a) := deedA_dead hl
    rw [hd]
    refine GO ?_
    exact endQ_mk (.inr rfl) (.tmp (by rfl) (.tmp (by rfl) .nil)) ⟨r1, h1.mono (Nat.le_succ M), rfl, rfl⟩ Imp.tail1
  | true =>
    simp only [if_true]
    have hd := @filedM_live a (deRead n many) (readF n many) hl
    refine GO ?_
    refine st_call (qreads_spec t r1 (takeA a) M (by omega) h1 n many (chA a)) (by rfl) Spl.tail1 (fun v Post hv => ?_)
    obtain ⟨r2, s, e, a2, h2, ht, hf, hs, rfl, rfl⟩ := hv
    refine GO ?_
    have := hd (hf (deRead n many) rfl)
    refine VC.imp Imp.left (VC.sub (by exact SUx) (fin s e r2 a2 (h2.mono (Nat.le_succ M)) (by rw [ht]; exact h1.tm) ?_))
    show filedM (deRead n many) (readF n many) a = _
    rw [this]
    by_cases e0 : e = 0
    · subst e0; rfl
    · rw [if_neg e0, hs e0]; rfl
end Go.Proofs.YtgindbomnbojeaaGreat

/-
  Saving: what the chapter's example fixes.
-/
import Derived.Test.YtklkngccaemjdaaYA
set_option linter.unusedSimpArgs false
set_option linter.unusedVariables false
namespace Go.V
open Go
def tImg : ByteArray := ⟨#[105, 109, 103]⟩
def tImgT : ByteArray := ⟨#[105, 109, 103, 46, 116, 109, 112]⟩
def tOld : ByteArray := ⟨#[111, 108, 100]⟩
def tNew : ByteArray := ⟨#[110, 101, 119]⟩
def cs4 : List Ch := [⟨0, 0, nilTx⟩, ⟨0, 0, nilTx⟩, ⟨0, 0, nilTx⟩, ⟨5, 0, nilTx⟩]
def eS0 : AW := (newA cs4 [(tImg, tOld)]).getD emptyA
def eS1 : AW := (saveM tImg (pcs tNew) eS0).2
def eV0 : AW := (newA [] [(tImg, tOld)]).getD emptyA
def eV1 : AW := (saveM tImg (pcs tNew) eV0).2
theorem eS_new : newA cs4 [(tImg, tOld)] = some eS0 := by
  have : (newA cs4 [(tImg, tOld)]).isSome = true := by decide +kernel
  unfold eS0
  cases h : newA cs4 [(tImg, tOld)] with
  | none => rw [h] at this; cases this
  | some a => rfl
theorem eV_new : newA [] [(tImg, tOld)] = some eV0 := by
  have : (newA [] [(tImg, tOld)]).isSome = true := by decide +kernel
  unfold eV0
  cases h : newA [] [(tImg, tOld)] with
  | none => rw [h] at this; cases this
  | some a => rfl
theorem eS_err : (saveM tImg (pcs tNew) eS0).1 = 36 := by decide +kernel
theorem eV_err : (saveM tImg (pcs tNew) eV0).1 = 0 := by decide +kernel
theorem eS_inv : AInv eS1 := ⟨⟨by decide +kernel, by decide +kernel, by decide +kernel⟩, by decide +kernel, by decide +kernel, by decide +kernel⟩
theorem eV_inv : AInv eV1 := ⟨⟨by decide +kernel, by decide +kernel, by decide +kernel⟩, by decide +kernel, by decide +kernel, by decide +kernel⟩
theorem eS_syn : ∀ f ∈ eS1.files, f.writes = [] ∧ f.base = f.now := by decide +kernel
theorem eV_syn : ∀ f ∈ eV1.files, f.writes = [] ∧ f.base = f.now := by decide +kernel
theorem eS_names : eS1.names.map (·.1) = [tImg, tImgT] := by decide +kernel
theorem eV_names : eV1.names.map (·.1) = [tImg] := by decide +kernel
theorem eS_files : [tImg, tImgT].map (fileOf eS1) = [(tImg, tOld), (tImgT, tNew)] := by decide +kernel
theorem eV_files : [tImg].map (fileOf eV1) = [(tImg, tNew)] := by decide +kernel
theorem eS_left {a' : AW} {ys : List ByteArray} (h : LeftR eS1 0 [] a') (hs : SortedOf ltS (a'.names.map (·.1)) ys) : ys = [tImg, tImgT] ∧ ys.map (fileOf a') = [(tImg, tOld), (tImgT, tNew)] := by
  obtain rfl : ys = [tImg, tImgT] := sorted_perm ltS_ok hs (xs' := [tImg, tImgT]) ⟨.refl _, by decide +kernel⟩ (by rw [← eS_names]; exact h.keys)
  refine ⟨rfl, ?_⟩
  rw [map_fileOf (b := eS1) (fun n hn => left_again h eS_inv eS_syn n (by rw [eS_names]; exact hn)), eS_files]
theorem eV_left {a' : AW} {ys : List ByteArray} (h : LeftR eV1 0 [] a') (hs : SortedOf ltS (a'.names.map (·.1)) ys) : ys = [tImg] ∧ ys.map (fileOf a') = [(tImg, tNew)] := by
  obtain rfl : ys = [tImg] := sorted_perm ltS_ok hs (xs' := [tImg]) ⟨.refl _, by decide +kernel⟩ (by rw [← eV_names]; exact h.keys)
  refine ⟨rfl, ?_⟩
  rw [map_fileOf (b := eV1) (fun n hn => left_again h eV_inv eV_syn n (by rw [eV_names]; exact hn)), eV_files]
theorem eV_trace : eV1.trace.length = 5 ∧ eV1.trace[4]?.map (fun d => (d.kind, d.handle, d.text, d.to, d.n, d.err)) = some (7, 0, tImgT, tImg, 0, 0) := by decide +kernel
end Go.V
namespace Go.Proofs.Ytklkngccaemjdaa
open Go Go.V
set_option maxHeartbeats 12800000
set_option maxRecDepth 100000
set_option linter.unusedSimpArgs false
set_option linter.unusedVariables false
theorem works13_spec : Fun Try.prog 21 [] [] (fun v Post => v = .bool true ∧ Post = []) := by
  refine Fun.intro low21 (by simp [F21]) ?_
  refine GO ?_
  refine st_bslice (out := cs4.flatMap chEnc) (by rfl) (by rfl) (fun p1 => ?_)
  refine GO ?_
  refine st_bslice (out := fiEnc (tImg, tOld)) (by rfl) (by rfl) (fun p2 => ?_)
  refine GO ?_
  have hrc : RdRow 3 (cellsAt p1 0 (cs4.flatMap chEnc) ++ cellsAt p2 0 (fiEnc (tImg, tOld))) (.slice (some ⟨p1, 0, none⟩) 4 4) cs4.length (cs4.flatMap chEnc) := .inr ⟨p1, 0, 4, rfl, Nat.le_refl _, rfl, fun x hx => List.mem_append_left _ hx⟩
  have hrf : RdRow 2 (cellsAt p1 0 (cs4.flatMap chEnc) ++ cellsAt p2 0 (fiEnc (tImg, tOld))) (.slice (some ⟨p2, 0, none⟩) 1 1) [(tImg, tOld)].length ([(tImg, tOld)].flatMap fiEnc) := .inr ⟨p2, 0, 1, rfl, Nat.le_refl _, rfl, fun x hx => List.mem_append_right _ hx⟩
  have hn := new_spec (cellsAt p1 0 (cs4.flatMap chEnc) ++ cellsAt p2 0 (fiEnc (tImg, tOld))) (.slice (some ⟨p1, 0, none⟩) 4 4) (.slice (some ⟨p2, 0, none⟩) 1 1) cs4 [(tImg, tOld)] hrc hrf (by decide) (by simp) (by intro p hp; rw [List.mem_singleton.1 hp]; decide)
  rw [eS_new] at hn
  refine VO.imp (H' := [cellsAt p1 0 (cs4.flatMap chEnc) ++ cellsAt p2 0 (fiEnc (tImg, tOld))]) (Imp.perm ?_) ?_
  · simp only [List.flatten_cons, List.flatten_nil, List.append_nil]; first | exact List.Perm.refl _ | exact List.perm_append_comm
  refine st_call hn (by rfl) (by (focus ((repeat (first | exact Spl.nil | (apply Spl.cons; (focus ((repeat (first | with_reducible exact Tk.here | apply Tk.there)); done))))); done))) (fun v Post hv => ?_)
  obtain ⟨t, w0, rfl, hR0, rfl⟩ := hv
  generalize cellsAt p1 0 (cs4.flatMap chEnc) ++ cellsAt p2 0 (fiEnc (tImg, tOld)) = A1
  simp only [WMem, List.cons_append, List.nil_append]
  refine GO ?_
  refine st_call (save_spec t w0 eS0 0 tImg tNew (by decide +kernel) hR0 (by decide) (by decide) (newA_inv eS_new)) (by rfl) (by simp only [WMem]; (focus ((repeat (first | exact Spl.nil | (apply Spl.cons; (focus ((repeat (first | with_reducible exact Tk.here | apply Tk.there)); done))))); done))) (fun v Post hv => ?_)
  obtain ⟨w1, M1, hM1, hR1, _, rfl, rfl⟩ := hv
  have hM1 : M1 ≤ 100 := Nat.le_trans hM1 (by decide +kernel)
  rw [eS_err]
  change Rep w1 eS1 M1 at hR1
  simp only [WMem, List.cons_append, List.nil_append]
  refine GO ?_
  refine st_call (left_spec A1 t w1 eS1 M1 (by omega) hR1 eS_inv.ok 0 (by decide) (.slice none 0 0) [] (.inl ⟨rfl, rfl, rfl⟩) (by simp)) (by rfl) (by simp only [WMem, List.cons_append, List.nil_append]; (focus ((repeat (first | exact Spl.nil | (apply Spl.cons; (focus ((repeat (first | with_reducible exact Tk.here | apply Tk.there)); done))))); done))) (fun v Post hv => ?_)
  obtain ⟨t2, x2, b2, rfl, hL2, hx2, rfl⟩ := hv
  simp only [WMem, List.cons_append, List.nil_append]
  refine GO ?_
  refine st_bslice (out := fiEnc (tImg, tOld)) (by rfl) (by rfl) (fun p3 => ?_)
  refine GO ?_
  have hrg : RdRow 2 (cellsAt p3 0 (fiEnc (tImg, tOld))) (.slice (some ⟨p3, 0, none⟩) 1 1) [(tImg, tOld)].length ([(tImg, tOld)].flatMap fiEnc) := .inr ⟨p3, 0, 1, rfl, Nat.le_refl _, rfl, fun x hx => hx⟩
  have hnv := new_spec (cellsAt p3 0 (fiEnc (tImg, tOld))) (.slice none 0 0) (.slice (some ⟨p3, 0, none⟩) 1 1) [] [(tImg, tOld)] (.inl ⟨rfl, rfl, rfl⟩) hrg (by simp) (by simp) (by intro p hp; rw [List.mem_singleton.1 hp]; decide)
  rw [eV_new] at hnv
  refine st_call hnv (by rfl) (by (focus ((repeat (first | exact Spl.nil | (apply Spl.cons; (focus ((repeat (first | with_reducible exact Tk.here | apply Tk.there)); done))))); done))) (fun v Post hv => ?_)
  obtain ⟨tv, v0, rfl, hV0, rfl⟩ := hv
  simp only [WMem, List.cons_append, List.nil_append]
  refine GO ?_
  refine st_call (save_spec tv v0 eV0 0 tImg tNew (by decide +kernel) hV0 (by decide) (by decide) (newA_inv eV_new)) (by rfl) (by simp only [WMem]; (focus ((repeat (first | exact Spl.nil | (apply Spl.cons; (focus ((repeat (first | with_reducible exact Tk.here | apply Tk.there)); done))))); done))) (fun v Post hv => ?_)
  obtain ⟨v1, N1, hN1, hV1, _, rfl, rfl⟩ := hv
  have hN1 : N1 ≤ 100 := Nat.le_trans hN1 (by decide +kernel)
  rw [eV_err]
  change Rep v1 eV1 N1 at hV1
  simp only [WMem, List.cons_append, List.nil_append]
  refine GO ?_
  refine st_call (trace_spec tv v1 eV1 N1 (by omega) hV1) (by rfl) (by simp only [WMem]; (focus ((repeat (first | exact Spl.nil | (apply Spl.cons; (focus ((repeat (first | with_reducible exact Tk.here | apply Tk.there)); done))))); done))) (fun v Post hv => ?_)
  obtain ⟨spt, hvt, rfl⟩ := hv
  obtain ⟨d1, hd1, hd2⟩ : ∃ d : De, eV1.trace[4]? = some d ∧ deEnc d = [.int .u8 7, vi 0, .string tImgT, .string tImg, vi 0, vi 0] := by
    have := eV_trace.2
    cases h : eV1.trace[4]? with
    | none => rw [h] at this; cases this
    | some d =>
      rw [h] at this
      simp only [Option.map_some, Option.some.injEq, Prod.mk.injEq] at this
      obtain ⟨h1, h2, h3, h4, h5, h6⟩ := this
      exact ⟨d, rfl, by simp only [deEnc, h1, h2, h3, h4, h5, h6]⟩
  have hrt := hvt.rd
  obtain ⟨tb, to, tc, rfl, htc⟩ := hrt.at_ (fun d => rfl) hd1
  rw [eV_trace.1] at htc ⊢
  simp only [WMem, List.cons_append, List.nil_append]
  generalize slA (.slice (some ⟨tb, to, none⟩) 5 tc) (eV1.trace.flatMap deEnc) spt = TB at htc ⊢
  refine GO ?_
  refine st_call (files_spec t2 x2 b2 0 (by omega) hx2) (by rfl) (by simp only [WMem]; (focus ((repeat (first | exact Spl.nil | (apply Spl.cons; (focus ((repeat (first | with_reducible exact Tk.here | apply Tk.there)); done))))); done))) (fun v Post hv => ?_)
  obtain ⟨ys2, sp2, hs2, hv2, rfl⟩ := hv
  obtain ⟨rfl, hf2⟩ := eS_left hL2 hs2
  rw [hf2] at hv2 ⊢
  have hr2 := hv2.rd
  obtain ⟨xa, xc, rfl⟩ := hv2.form
  generalize slA (.slice xa [tImg, tImgT].length xc) ([(tImg, tOld), (tImgT, tNew)].flatMap fiEnc) sp2 = XB at hr2 ⊢
  obtain ⟨xb, xo, xc', hxe, hxc0⟩ := hr2.at_ (enc := fiEnc) (l := [(tImg, tOld), (tImgT, tNew)]) (fun p => rfl) (i := 0) (x := (tImg, tOld)) rfl
  obtain ⟨xb', xo', xc'', hxe', hxc1⟩ := hr2.at_ (enc := fiEnc) (l := [(tImg, tOld), (tImgT, tNew)]) (fun p => rfl) (i := 1) (x := (tImgT, tNew)) rfl
  simp only [Value.slice.injEq, true_and, List.length_cons, List.length_nil] at hxe hxe'
  obtain ⟨rfl, rfl⟩ := hxe
  simp only [Option.some.injEq, Addr.mk.injEq, and_true, true_and] at hxe'
  obtain ⟨⟨rfl, rfl⟩, _⟩ := hxe'
  simp only [WMem, List.cons_append, List.nil_append, List.length_cons, List.length_nil]
  refine GO ?_
  refine st_call (left_spec A1 tv v1 eV1 N1 (by omega) hV1 eV_inv.ok 0 (by decide) (.slice none 0 0) [] (.inl ⟨rfl, rfl, rfl⟩) (by simp)) (by rfl) (by simp only [WMem, List.cons_append, List.nil_append]; (focus ((repeat (first | exact Spl.nil | (apply Spl.cons; (focus ((repeat (first | with_reducible exact Tk.here | apply Tk.there)); done))))); done))) (fun v Post hv => ?_)
  obtain ⟨t3, x3, b3, rfl, hL3, hx3, rfl⟩ := hv
  simp only [WMem, List.cons_append, List.nil_append]
  refine GO ?_
  refine st_call (files_spec t3 x3 b3 0 (by omega) hx3) (by rfl) (by simp only [WMem]; (focus ((repeat (first | exact Spl.nil | (apply Spl.cons; (focus ((repeat (first | with_reducible exact Tk.here | apply Tk.there)); done))))); done))) (fun v Post hv => ?_)
  obtain ⟨ys3, sp3, hs3, hv3, rfl⟩ := hv
  obtain ⟨rfl, hf3⟩ := eV_left hL3 hs3
  rw [hf3] at hv3 ⊢
  have hr3 := hv3.rd
  obtain ⟨za, zc, rfl⟩ := hv3.form
  generalize slA (.slice za [tImg].length zc) ([(tImg, tNew)].flatMap fiEnc) sp3 = ZB at hr3 ⊢
  obtain ⟨zb, zo, zc', hze, hzc⟩ := hr3.at_ (enc := fiEnc) (l := [(tImg, tNew)]) (fun p => rfl) (i := 0) (x := (tImg, tNew)) rfl
  simp only [Value.slice.injEq, true_and, List.length_cons, List.length_nil] at hze
  obtain ⟨rfl, rfl⟩ := hze
  have m3 : Atom.cell zb (zo + 1) (.string tNew) ∈ ZB := by simpa using hzc _ (mem_cellsAt.2 ⟨1, _, rfl, rfl⟩)
  simp only [WMem, List.cons_append, List.nil_append, List.length_cons, List.length_nil]
  refine GO ?_
  refine st_loadA (us := fiEnc (tImg, tOld)) (by rfl) (fun y hy => by simp only [List.flatten_cons, List.mem_append]; simp only [hxc0 y hy, true_or, or_true]) (by rfl) ?_
  refine GO ?_
  refine st_loadA (us := fiEnc (tImgT, tNew)) (by rfl) (fun y hy => by simp only [List.flatten_cons, List.mem_append]; simp only [hxc1 y hy, true_or, or_true]) (by rfl) ?_
  refine GO ?_
  refine st_loadA (us := deEnc d1) (by rfl) (fun y hy => by simp only [List.flatten_cons, List.mem_append]; simp only [htc y hy, true_or, or_true]) (by rfl) ?_
  rw [hd2]
  refine GO ?_
  exact endQ_mk (Post := []) (.inr rfl) (.tmp (by rfl) .nil) ⟨rfl, rfl⟩ (by (first | with_reducible exact Imp.refl | with_reducible exact Imp.left | (focus ((try simp only [List.nil_append]); (repeat (first | exact Imp.nil | (apply Imp.cons; (focus ((repeat (first | with_reducible exact Tk.here | apply Tk.there)); done))))); done))))
end Go.Proofs.Ytklkngccaemjdaa
namespace Go.V
open Go
set_option linter.unusedSimpArgs false
set_option linter.unusedVariables false

/-- The same but for choices, trace, clock. -/
def Same (a b : AW) : Prop := b.files = a.files ∧ b.names = a.names ∧ b.hs = a.hs ∧ b.seq = a.seq
theorem Same.trans {a b c : AW} (h : Same a b) (k : Same b c) : Same a c := ⟨k.1.trans h.1, k.2.1.trans h.2.1, k.2.2.1.trans h.2.2.1, k.2.2.2.trans h.2.2.2⟩
theorem same_take (a : AW) : Same a (takeA a) := ⟨rfl, rfl, rfl, rfl⟩

theorem filed_or {d : De} {f : De → AW → Int × De × AW} {a : AW} (he : ∀ b, (f d b).1 = 0 → (f d b).2.1.err = 0) (hs : ∀ b, (f d b).1 ≠ 0 → (f d b).2.2 = b) :
    ((filedM d f a).2.1 = 0 ∧ ∃ b, Same a b ∧ (f d b).1 = 0 ∧ (filedM d f a).1 = (f d b).2.1 ∧ Same (f d b).2.2 (filedM d f a).2.2) ∨ ((filedM d f a).2.1 ≠ 0 ∧ Same a (filedM d f a).2.2) := by
  unfold filedM deedA
  by_cases hl : liveA a = true
  · simp only [hl, if_true]
    unfold faultA
    by_cases hk : (chA a).kind = 4 ∧ chosenE (chA a).n ≠ 0
    · simp only [if_pos hk, hk.2, if_false]
      exact .inr ⟨hk.2, same_take a⟩
    · simp only [if_neg hk]
      by_cases hr : (f d (takeA a)).1 = 0
      · simp only [hr, if_true]
        exact .inl ⟨he _ hr, takeA a, same_take a, hr, rfl, ⟨rfl, rfl, rfl, rfl⟩⟩
      · simp only [hr, if_false]
        refine .inr ⟨hr, ?_⟩
        rw [hs _ hr]
        exact ⟨rfl, rfl, rfl, rfl⟩
  · simp only [hl, Bool.false_eq_true, if_false]
    exact .inr ⟨by decide, same_take a⟩

theorem openF_err {p : ByteArray} {m : Int} {d : De} (b : AW) (h : (openF p m d b).1 ≠ 0) : (openF p m d b).2.2 = b := by
  unfold openF at h ⊢
  (repeat' split) <;> first | rfl | (exfalso; simp_all [openB]; done)
theorem openF_fine {p : ByteArray} {m : Int} {d : De} (hd : d.err = 0) (b : AW) (h : (openF p m d b).1 = 0) : (openF p m d b).2.1.err = 0 := by
  unfold openF
  (repeat' split) <;> first | exact hd | (simp only [openB]; exact hd)
theorem writeF_err {n : Int} {s : ByteArray} {d : De} (b : AW) (h : (writeF n s d b).1 ≠ 0) : (writeF n s d b).2.2 = b := by
  unfold writeF at h ⊢
  (repeat' split) <;> first | rfl | (exfalso; simp_all; done)
theorem syncF_err {n : Int} {d : De} (b : AW) (h : (syncF n d b).1 ≠ 0) : (syncF n d b).2.2 = b := by
  unfold syncF at h ⊢
  (repeat' split) <;> first | rfl | (exfalso; simp_all; done)
theorem closeF_err {n : Int} {d : De} (b : AW) (h : (closeF n d b).1 ≠ 0) : (closeF n d b).2.2 = b := by
  unfold closeF at h ⊢
  (repeat' split) <;> first | rfl | (exfalso; simp_all; done)
theorem renameF_err {p q : ByteArray} {d : De} (b : AW) (h : (renameF p q d b).1 ≠ 0) : (renameF p q d b).2.2 = b := by
  unfold renameF at h ⊢
  (repeat' split) <;> first | rfl | (exfalso; simp_all; done)

theorem onL_end {q : Int} {s : ByteArray} {l : List UInt8} : onL ⟨q, l.length, s, false⟩ l = l ++ txL s := by
  have : l.length + s.size - l.length = s.size := by omega
  simp only [onL, Bool.false_eq_true, if_false, Int.toNat_natCast, this, txL]
  have hl : s.data.toList.length = s.size := by simp
  rw [List.take_append_of_le_length (Nat.le_refl _), List.take_length, List.drop_eq_nil_of_le (by simp), List.append_nil]

section
variable {a : AW} {H : List HO} {j : Nat} {f : AF} {d : De} {s : ByteArray} {at_ : Int}
theorem last_held {h : HO} (hc : h.closed = false) (hf : h.file.isNone = false) (hs : h.stale = false) : heldE (H ++ [h]) (H.length + 1) false = 0 := by
  have e : ((H.length : Int) + 1 - 1).toNat = H.length := by omega
  simp [heldE, e, hc, hf, hs, show (1 : Int) ≤ H.length + 1 by omega]
theorem last_getH {h : HO} (hh : a.hs = H ++ [h]) : getH a (H.length + 1) = h := by
  have e : ((H.length : Int) + 1 - 1).toNat = H.length := by omega
  simp [getH, hh, e]
theorem last_putH {h h2 : HO} (hh : a.hs = H ++ [h]) : putH a (H.length + 1) h2 = { a with hs := H ++ [h2] } := by
  have e : ((H.length : Int) + 1 - 1).toNat = H.length := by omega
  simp [putH, hh, e]
theorem wrN (hh : a.hs = H ++ [⟨0, false, false, some j, 2, at_⟩]) (hf : a.files[j]? = some f) :
    writeF (H.length + 1) s d a = if 4194304 - at_ < s.size then (34, d, a) else (0, d, { a with seq := a.seq + 1, files := a.files.set j (doesA f ⟨a.seq + 1, at_, s, false⟩), hs := H ++ [⟨0, false, false, some j, 2, at_ + s.size⟩] }) := by
  have h1 : heldE a.hs (H.length + 1) false = 0 := by rw [hh]; exact last_held rfl rfl rfl
  have h2 := last_getH hh
  have h3 : getF a (H.length + 1) = f := by simp [getF, h2, hf]
  have h4 : writeAt a (H.length + 1) = at_ := by simp [writeAt, h2]
  unfold writeF
  rw [if_neg (by simp [h1]), if_neg (by simp [h2]), h4, h3, h2]
  split
  · rfl
  · congr 2
    have e : ((H.length : Int) + 1 - 1).toNat = H.length := by omega
    simp [putH, putF, h2, hh, e]
theorem syN (hh : a.hs = H ++ [⟨0, false, false, some j, 2, at_⟩]) (hf : a.files[j]? = some f) : syncF (H.length + 1) d a = (0, d, { a with files := a.files.set j ⟨f.now, f.now, []⟩ }) := by
  have h1 : heldE a.hs (H.length + 1) false = 0 := by rw [hh]; exact last_held rfl rfl rfl
  have h2 := last_getH hh
  have h3 : getF a (H.length + 1) = f := by simp [getF, h2, hf]
  unfold syncF
  rw [if_neg (by simp [h1]), h3]
  simp [putF, h2]
theorem clN (hh : a.hs = H ++ [⟨0, false, false, some j, 2, at_⟩]) : (closeF (H.length + 1) d a).2.2.files = a.files ∧ (closeF (H.length + 1) d a).2.2.names = a.names := by
  unfold closeF
  (repeat' split) <;> exact ⟨rfl, rfl⟩
end

/-- Other files stay. -/
def Oth (j : Nat) (a b : AW) : Prop := b.names = a.names ∧ ∀ i, i ≠ j → b.files[i]? = a.files[i]?
theorem Oth.trans {j : Nat} {a b c : AW} (h : Oth j a b) (k : Oth j b c) : Oth j a c := ⟨k.1.trans h.1, fun i hi => (k.2 i hi).trans (h.2 i hi)⟩
theorem Same.oth {j : Nat} {a b : AW} (h : Same a b) : Oth j a b := ⟨h.2.1, fun i _ => by rw [h.1]⟩

/-- A file that is being written at its end. -/
structure St (a : AW) (H : List HO) (j : Nat) (l : List UInt8) : Prop where
  hs : a.hs = H ++ [⟨0, false, false, some j, 2, l.length⟩]
  fl : ∃ f, a.files[j]? = some f ∧ f.now = l
theorem St.same {a b : AW} {H : List HO} {j : Nat} {l : List UInt8} (h : St a H j l) (k : Same a b) : St b H j l := ⟨by rw [k.2.2.1]; exact h.hs, by rw [k.1]; exact h.fl⟩

theorem write_st {a : AW} {H : List HO} {j : Nat} {l : List UInt8} (h : St a H j l) (s : ByteArray) :
    ((writeM (H.length + 1) s a).2.1 = 0 ∧ St (writeM (H.length + 1) s a).2.2 H j (l ++ txL s) ∧ Oth j a (writeM (H.length + 1) s a).2.2) ∨ ((writeM (H.length + 1) s a).2.1 ≠ 0 ∧ St (writeM (H.length + 1) s a).2.2 H j l ∧ Oth j a (writeM (H.length + 1) s a).2.2) := by
  rcases filed_or (d := deWrite (H.length + 1) s) (f := writeF (H.length + 1) s) (a := a) (fun b hb => by
      unfold writeF
      (repeat' split) <;> rfl) (fun b hb => writeF_err b hb) with ⟨h1, b, hb, h2, _, h3⟩ | ⟨h1, h2⟩
  · left
    have hb' := h.same hb
    obtain ⟨f, hf, hl⟩ := hb'.fl
    have hw := wrN (s := s) (d := deWrite (H.length + 1) s) hb'.hs hf
    rw [hw] at h2 h3
    split at h2
    · cases h2
    rename_i hlim
    rw [if_neg hlim] at h3
    have hst : St { b with seq := b.seq + 1, files := b.files.set j (doesA f ⟨b.seq + 1, l.length, s, false⟩), hs := H ++ [⟨0, false, false, some j, 2, (l.length : Int) + s.size⟩] } H j (l ++ txL s) := by
      refine ⟨by simp [txL], ⟨doesA f ⟨b.seq + 1, l.length, s, false⟩, ?_, ?_⟩⟩
      · have := (List.getElem?_eq_some_iff.1 hf).1
        simp [this]
      · simp only [doesA, hl]; exact onL_end
    refine ⟨h1, hst.same h3, hb.oth.trans (Oth.trans ?_ h3.oth)⟩
    exact ⟨rfl, fun i hi => by simp [List.getElem?_set, Ne.symm hi]⟩
  · exact .inr ⟨h1, h.same h2, h2.oth⟩

theorem wrAll_st {H : List HO} {j : Nat} : ∀ (ps : List ByteArray) {a : AW} {l : List UInt8}, St a H j l →
    Oth j a (wrAll (H.length + 1) ps a).2 ∧ (∃ l', St (wrAll (H.length + 1) ps a).2 H j l') ∧ ((wrAll (H.length + 1) ps a).1 = 0 → St (wrAll (H.length + 1) ps a).2 H j (l ++ ps.flatMap txL)) := by
  intro ps
  induction ps with
  | nil => intro a l h; exact ⟨⟨rfl, fun _ _ => rfl⟩, ⟨l, h⟩, fun _ => by simpa [wrAll] using h⟩
  | cons p r ih =>
    intro a l h
    simp only [wrAll]
    rcases write_st h p with ⟨h1, h2, h3⟩ | ⟨h1, h2, h3⟩
    · simp only [h1, if_true]
      obtain ⟨k1, k2, k3⟩ := ih h2
      exact ⟨h3.trans k1, k2, fun e => by simpa [List.append_assoc] using k3 e⟩
    · simp only [h1, if_false]
      exact ⟨h3, ⟨l, h2⟩, fun e => e.elim⟩

theorem idx_ne {a : AW} (hi : AInv a) {k s : ByteArray} {i j : Nat} (hk : mget k a.names = some i) (hs : mget s a.names = some j) (hne : k ≠ s) : i ≠ j := by
  intro e
  subst e
  have h1 := mget_mem hk
  have h2 := mget_mem hs
  have hn : ((a.names.map fun p => (p.2, p.1)).map (·.1)).Nodup := by
    have := hi.ok.one
    rw [List.map_map]
    exact this
  have := one_key hn (p := (i, k)) (q := (i, s)) (List.mem_map.2 ⟨_, h1, rfl⟩) (List.mem_map.2 ⟨_, h2, rfl⟩) rfl
  exact hne (by simpa using this)

theorem close_oth (n : Int) (a : AW) : (closeM n a).2.2.files = a.files ∧ (closeM n a).2.2.names = a.names := by
  rcases filed_or (d := deClose n) (f := closeF n) (a := a) (fun b hb => by
      unfold closeF
      (repeat' split) <;> rfl) (fun b hb => closeF_err b hb) with ⟨h1, b, hb, h2, _, h3⟩ | ⟨h1, h2⟩
  · have hc : (closeF n (deClose n) b).2.2.files = b.files ∧ (closeF n (deClose n) b).2.2.names = b.names := by
      unfold closeF
      (repeat' split) <;> exact ⟨rfl, rfl⟩
    exact ⟨h3.1.trans (hc.1.trans hb.1), h3.2.1.trans (hc.2.trans hb.2.1)⟩
  · exact ⟨h2.1, h2.2.1⟩

theorem sync_st {a : AW} {H : List HO} {j : Nat} {l : List UInt8} (h : St a H j l) :
    Oth j a (syncM (H.length + 1) a).2.2 ∧ ((syncM (H.length + 1) a).2.1 = 0 → (syncM (H.length + 1) a).2.2.files[j]? = some ⟨l, l, []⟩) := by
  rcases filed_or (d := deSync (H.length + 1)) (f := syncF (H.length + 1)) (a := a) (fun b hb => by
      unfold syncF
      (repeat' split) <;> rfl) (fun b hb => syncF_err b hb) with ⟨h1, b, hb, h2, _, h3⟩ | ⟨h1, h2⟩
  · have hb' := h.same hb
    obtain ⟨f, hf, hl⟩ := hb'.fl
    have hw := syN (d := deSync (H.length + 1)) hb'.hs hf
    rw [hw] at h3
    have ho : Oth j b { b with files := b.files.set j ⟨f.now, f.now, []⟩ } := ⟨rfl, fun i hi => by simp [List.getElem?_set, Ne.symm hi]⟩
    refine ⟨hb.oth.trans (ho.trans h3.oth), fun _ => ?_⟩
    show (filedM (deSync (H.length + 1)) (syncF (H.length + 1)) a).2.2.files[j]? = _
    rw [h3.1]
    have := (List.getElem?_eq_some_iff.1 hf).1
    simp [this, hl]
  · exact ⟨h2.oth, fun e => absurd e h1⟩

/-- A file opened to be written. -/
theorem open_st {a : AW} (hi : AInv a) (s : ByteArray) : ((openM s 2 a).2.1 ≠ 0 ∧ Same a (openM s 2 a).2.2) ∨
    ((openM s 2 a).2.1 = 0 ∧ ∃ H j, (openM s 2 a).1.handle = (H.length : Int) + 1 ∧ St (openM s 2 a).2.2 H j [] ∧ mget s (openM s 2 a).2.2.names = some j ∧
      ∀ k, k ≠ s → mget k (openM s 2 a).2.2.names = mget k a.names ∧ ∀ i, mget k a.names = some i → i ≠ j ∧ (openM s 2 a).2.2.files[i]? = a.files[i]?) := by
  rw [show openM s 2 a = filedM (deOpen s 2) (openF s 2) a from rfl]
  rcases filed_or (d := deOpen s 2) (f := openF s 2) (a := a) (fun b hb => openF_fine rfl b hb) (fun b hb => openF_err b hb) with ⟨h1, b, hb, h2, h4, h3⟩ | ⟨h1, h2⟩
  rotate_left
  · exact .inl ⟨h1, h2⟩
  right
  refine ⟨h1, ?_⟩
  have hib : AInv b := hi.congr hb.1 hb.2.1 hb.2.2.2
  obtain ⟨_, b2, j, hb2, hj, ho⟩ := openF_ok h2
  have hlen : j < b2.files.length := by
    rcases hb2 with rfl | ⟨hn, rfl⟩
    · exact hib.nin _ (mget_mem hj)
    · simp only [newF, mget_mset_eq, Option.some.injEq] at hj
      subst hj; simp [newF]
  have hoth : ∀ k, k ≠ s → mget k b2.names = mget k a.names ∧ ∀ i, mget k a.names = some i → i ≠ j ∧ b2.files[i]? = a.files[i]? := by
    intro k hk
    rcases hb2 with rfl | ⟨hn, rfl⟩
    · rw [hb.2.1, hb.1]
      refine ⟨rfl, fun i hki => ⟨idx_ne hib (by rw [hb.2.1]; exact hki) hj hk, rfl⟩⟩
    · simp only [newF, mget_mset_eq, Option.some.injEq] at hj
      subst hj
      refine ⟨by simp only [newF, mget_mset_ne hk, hb.2.1], fun i hki => ?_⟩
      have hil : i < b.files.length := hib.nin (k, i) (mget_mem (by rw [hb.2.1]; exact hki))
      refine ⟨by omega, ?_⟩
      simp only [newF]
      rw [List.getElem?_append_left hil, hb.1]
  rw [ho] at h3 h4
  simp only [openB, if_true] at h3 h4
  refine ⟨b2.hs, j, by rw [h4], ?_, ?_, ?_⟩
  · refine St.same (a := _) ⟨by simp, ⟨doesA ((b2.files[j]?).getD ⟨[], [], []⟩) ⟨b2.seq + 1, 0, nilTx, true⟩, ?_, ?_⟩⟩ h3
    · simp [hlen]
    · simp [doesA, onL]
  · rw [h3.2.1]; exact hj
  · intro k hk
    obtain ⟨k1, k2⟩ := hoth k hk
    refine ⟨by rw [h3.2.1]; exact k1, fun i hki => ?_⟩
    obtain ⟨k3, k4⟩ := k2 i hki
    refine ⟨k3, ?_⟩
    rw [h3.1, ← k4]
    simp [List.getElem?_set, Ne.symm k3]

theorem layM_law {a : AW} (hi : AInv a) (s : ByteArray) (ps : List ByteArray) :
    (∀ k, k ≠ s → mget k (layM s ps a).2.names = mget k a.names ∧ ∀ i, mget k a.names = some i → (layM s ps a).2.files[i]? = a.files[i]?) ∧
    ((layM s ps a).1 = 0 → ∃ j, mget s (layM s ps a).2.names = some j ∧ (layM s ps a).2.files[j]? = some ⟨ps.flatMap txL, ps.flatMap txL, []⟩) := by
  rcases open_st hi s with ⟨h1, h2⟩ | ⟨h1, H, j, hh, hst, hj, hoth⟩
  · have hl : layM s ps a = (openM s 2 a).2 := by unfold layM; rw [if_neg h1]
    rw [hl]
    exact ⟨fun k _ => ⟨by rw [h2.2.1], fun i _ => by rw [h2.1]⟩, fun e => absurd e h1⟩
  have hl : layM s ps a = cloM (H.length + 1) (synM (H.length + 1) (wrAll (H.length + 1) ps (openM s 2 a).2.2)) := by unfold layM; rw [if_pos h1, hh]
  rw [hl]
  generalize (openM s 2 a).2.2 = a1 at hst hj hoth ⊢
  obtain ⟨w1, ⟨l', w2⟩, w3⟩ := wrAll_st ps hst
  generalize hw : wrAll (H.length + 1) ps a1 = r at w1 w2 w3 ⊢
  have hsyn : Oth j r.2 (synM (H.length + 1) r).2 ∧ ((synM (H.length + 1) r).1 = 0 → (synM (H.length + 1) r).2.files[j]? = some ⟨ps.flatMap txL, ps.flatMap txL, []⟩) := by
    unfold synM
    by_cases hr : r.1 = 0
    · rw [if_pos hr]
      have := sync_st (w3 hr)
      simpa using this
    · rw [if_neg hr]
      exact ⟨⟨rfl, fun _ _ => rfl⟩, fun e => absurd e hr⟩
  generalize synM (H.length + 1) r = q at hsyn ⊢
  obtain ⟨c1, c2⟩ := close_oth (H.length + 1) q.2
  have ho := w1.trans hsyn.1
  refine ⟨fun k hk => ?_, fun e => ⟨j, ?_, ?_⟩⟩
  · obtain ⟨k1, k2⟩ := hoth k hk
    refine ⟨by simp only [cloM, c2, ho.1, k1], fun i hki => ?_⟩
    obtain ⟨k3, k4⟩ := k2 i hki
    simp only [cloM, c1, ho.2 i k3, k4]
  · simp only [cloM, c2, ho.1, hj]
  · have hq : q.1 = 0 := by
      simp only [cloM] at e
      split at e
      · assumption
      · exact e
    simp only [cloM, c1]
    exact hsyn.2 hq
end Go.V
namespace Go.V
open Go
set_option linter.unusedSimpArgs false
set_option linter.unusedVariables false

theorem txL_ext (s : ByteArray) (a b : Nat) : txL (s.extract a b) = ((txL s).drop a).take (b - a) := by
  simp only [txL, ByteArray.data_extract, Array.toList_extract, List.extract_eq_take_drop]
theorem pcs_flat (b : ByteArray) : (pcs b).flatMap txL = txL b := by
  have key : ∀ k, k ≤ pcN b → ((pcs b).take k).flatMap txL = (txL b).take (4096 * k) := by
    intro k
    induction k with
    | zero => intro _; simp
    | succ k ih =>
      intro hk
      rw [pcs_take (by omega), List.flatMap_append, ih (by omega), List.flatMap_cons, List.flatMap_nil, List.append_nil]
      simp only [pcAt, txL_ext]
      have hl : (txL b).length = b.size := by simp [txL]
      have hm := (pc_more (s := b) (i := k) (by omega)).2 (by omega)
      have : ((txL b).drop (4096 * k)).take (min (4096 * k + 4096) b.size - 4096 * k) = ((txL b).drop (4096 * k)).take 4096 := by
        rw [List.take_eq_take_iff]
        simp only [List.length_drop, hl]
        omega
      rw [this, ← List.take_add]
      congr 1
  have := key (pcN b) (Nat.le_refl _)
  rw [List.take_of_length_le (by rw [pcs_len]; exact Nat.le_refl _)] at this
  rw [this, List.take_of_length_le]
  have hl : (txL b).length = b.size := by simp [txL]
  rw [hl]; unfold pcN; omega

theorem rename_or {a : AW} (p q : ByteArray) : ((renameM p q a).2.1 ≠ 0 ∧ Same a (renameM p q a).2.2) ∨
    ((renameM p q a).2.1 = 0 ∧ ∃ j, mget p a.names = some j ∧ (renameM p q a).2.2.names = mset q j (mdel p a.names) ∧ (renameM p q a).2.2.files = a.files) := by
  rw [show renameM p q a = filedM (deRename p q) (renameF p q) a from rfl]
  rcases filed_or (d := deRename p q) (f := renameF p q) (a := a) (fun b hb => by
      unfold renameF
      (repeat' split) <;> rfl) (fun b hb => renameF_err b hb) with ⟨h1, b, hb, h2, h4, h3⟩ | ⟨h1, h2⟩
  · right
    refine ⟨h1, ?_⟩
    clear h4
    generalize filedM (deRename p q) (renameF p q) a = R at h1 h3 ⊢
    unfold renameF at h2 h3
    split at h2
    · cases h2
    rename_i hn
    rw [if_neg hn] at h3
    cases hg : mget p b.names with
    | none => simp only [hg] at h2; cases h2
    | some j =>
      simp only [hg] at h3
      exact ⟨j, by rw [← hb.2.1]; exact hg, by rw [h3.2.1, hb.2.1], by rw [h3.1, hb.1]⟩
  · exact .inl ⟨h1, h2⟩

theorem tmp_ne (s : ByteArray) : s ≠ s ++ tmpB := by
  intro h
  have := congrArg ByteArray.size h
  rw [ByteArray.size_append] at this
  have h4 : tmpB.size = 4 := rfl
  omega

theorem saveM_law {a : AW} (hi : AInv a) (name : ByteArray) (ps : List ByteArray) :
    (∀ k, k ≠ name ++ tmpB → (k ≠ name ∨ (saveM name ps a).1 ≠ 0) → mget k (saveM name ps a).2.names = mget k a.names ∧ ∀ i, mget k a.names = some i → (saveM name ps a).2.files[i]? = a.files[i]?) ∧
    ((saveM name ps a).1 = 0 → ∃ j, mget name (saveM name ps a).2.names = some j ∧ (saveM name ps a).2.files[j]? = some ⟨ps.flatMap txL, ps.flatMap txL, []⟩) := by
  obtain ⟨l1, l2⟩ := layM_law hi (name ++ tmpB) ps
  unfold saveM
  generalize layM (name ++ tmpB) ps a = r at l1 l2 ⊢
  by_cases h1 : r.1 = 0
  rotate_left
  · rw [if_neg h1]
    exact ⟨fun k hk _ => l1 k hk, fun e => absurd e h1⟩
  rw [if_pos h1]
  rcases rename_or (a := r.2) (name ++ tmpB) name with ⟨e1, e2⟩ | ⟨e1, j, e2, e3, e4⟩
  · refine ⟨fun k hk _ => ?_, fun e => absurd e e1⟩
    obtain ⟨k1, k2⟩ := l1 k hk
    exact ⟨by rw [e2.2.1, k1], fun i hi => by rw [e2.1, k2 i hi]⟩
  · refine ⟨fun k hk hor => ?_, fun _ => ?_⟩
    · obtain ⟨k1, k2⟩ := l1 k hk
      have hkn : k ≠ name := by
        rcases hor with h | h
        · exact h
        · exact absurd e1 h
      exact ⟨by rw [e3, mget_mset_ne hkn, mget_mdel_ne hk, k1], fun i hi => by rw [e4, k2 i hi]⟩
    · obtain ⟨j', hj', hf⟩ := l2 h1
      rw [e2] at hj'
      cases hj'
      exact ⟨j, by rw [e3, mget_mset_eq], by rw [e4]; exact hf⟩

theorem left_none {a a' : AW} {which : Int} {cs : List Ch} (h : LeftR a which cs a') {k : ByteArray} (hk : mget k a.names = none) : heldA a' k = (⟨#[]⟩, false) := by
  have : mget k a'.names = none := by
    cases hm : mget k a'.names with
    | none => rfl
    | some j =>
      have h1 : k ∈ a.names.map (·.1) := h.keys.mem_iff.1 (List.mem_map_of_mem (f := fun p : ByteArray × Nat => p.1) (mget_mem hm))
      obtain ⟨j2, hj2⟩ := mget_some_of h1
      rw [hk] at hj2; cases hj2
  simp only [heldA, this]
theorem left_some {a a' : AW} {which : Int} {cs : List Ch} (h : LeftR a which cs a') (hk : (a.names.map (·.1)).Nodup) {k : ByteArray} {j : Nat} {f : AF} (hj : mget k a.names = some j) (hf : a.files[j]? = some f) (hw : f.writes = []) : heldA a' k = (ftxt f.base, true) := by
  obtain ⟨ys, _, h2⟩ := h.now hk
  have h1 : k ∈ a'.names.map (·.1) := h.keys.mem_iff.2 (List.mem_map_of_mem (f := fun p : ByteArray × Nat => p.1) (mget_mem hj))
  obtain ⟨j2, hj2⟩ := mget_some_of h1
  have hfa : fileAt a j = f := by simp [fileAt, hf]
  have := h2 k j hj
  rw [nowOf_at hj2, hfa, recF_synced hw] at this
  simp only [heldA, hj2, this]

theorem addFs_syn {fs : List (ByteArray × ByteArray)} : ∀ {a b : AW}, (∀ f ∈ a.files, f.writes = [] ∧ f.base = f.now) → addFs a fs = some b → ∀ f ∈ b.files, f.writes = [] ∧ f.base = f.now := by
  induction fs with
  | nil => intro a b h e; simp only [addFs, Option.some.injEq] at e; subst e; exact h
  | cons p r ih =>
    intro a b h e
    simp only [addFs] at e
    cases hp : addF a p with
    | none => rw [hp] at e; cases e
    | some c =>
      rw [hp] at e
      refine ih ?_ e
      unfold addF at hp
      split at hp
      · cases hp
      simp only [Option.some.injEq] at hp
      subst hp
      intro f hf
      simp only [List.mem_append, List.mem_singleton] at hf
      rcases hf with hf | rfl
      · exact h f hf
      · exact ⟨rfl, rfl⟩
theorem newA_syn {cs : List Ch} {fs : List (ByteArray × ByteArray)} {a : AW} (h : newA cs fs = some a) : ∀ f ∈ a.files, f.writes = [] ∧ f.base = f.now := by
  unfold newA at h
  cases hb : addFs emptyA fs with
  | none => rw [hb] at h; cases h
  | some b =>
    rw [hb] at h
    simp only at h
    split at h
    · cases h
    · cases h
      exact addFs_syn (a := emptyA) (b := b) (by simp [emptyA]) hb

theorem whole_law {a0 a' : AW} {which : Int} {cs : List Ch} (hi : AInv a0) (hs : ∀ f ∈ a0.files, f.writes = [] ∧ f.base = f.now) (name b : ByteArray) (hi1 : AInv (saveM name (pcs b) a0).2) (h : LeftR (saveM name (pcs b) a0).2 which cs a') :
    ((saveM name (pcs b) a0).1 = 0 → heldA a' name = (b, true)) ∧ ((saveM name (pcs b) a0).1 ≠ 0 → heldA a' name = heldA a0 name) := by
  obtain ⟨l1, l2⟩ := saveM_law hi name (pcs b)
  refine ⟨fun e => ?_, fun e => ?_⟩
  · obtain ⟨j, hj, hf⟩ := l2 e
    rw [left_some h hi1.keys hj hf rfl, pcs_flat, ftxt_txL]
  · obtain ⟨k1, k2⟩ := l1 name (tmp_ne name) (.inr e)
    cases hm : mget name a0.names with
    | none => rw [left_none h (by rw [k1, hm])]; simp only [heldA, hm]
    | some j =>
      have hjl := hi.nin _ (mget_mem hm)
      simp only at hjl
      have hf : a0.files[j]? = some a0.files[j] := by simp [hjl]
      obtain ⟨s1, s2⟩ := hs _ (List.getElem_mem hjl)
      rw [left_some h hi1.keys (by rw [k1, hm]) (by rw [k2 j hm, hf]) s1]
      simp only [heldA, hm, fileAt, hf, Option.getD_some, s2]
end Go.V
namespace Go.V
open Go
set_option linter.unusedSimpArgs false
set_option linter.unusedVariables false

/-- Behind some saves: what was saved last of each; what was not saved. -/
structure Tw (a0 a : AW) (done : List ByteArray) (l : List (ByteArray × ByteArray)) : Prop where
  inv : AInv a
  kept : ∀ p ∈ l, ∃ j, mget p.1 a.names = some j ∧ a.files[j]? = some ⟨txL p.2, txL p.2, []⟩
  rest : ∀ k, (∀ n ∈ done, k ≠ n ∧ k ≠ n ++ tmpB) → mget k a.names = mget k a0.names ∧ ∀ i, mget k a0.names = some i → a.files[i]? = a0.files[i]?

def keepT2 (l : List (ByteArray × ByteArray)) (n : ByteArray) : List (ByteArray × ByteArray) := l.filter fun p => decide (p.1 ≠ n) && decide (p.1 ≠ n ++ tmpB)
def nextL (l : List (ByteArray × ByteArray)) (n t : ByteArray) (e : Int) : List (ByteArray × ByteArray) := if e = 0 then keepT2 l n ++ [(n, t)] else keepT2 l n

theorem Tw.start {a0 : AW} (h : AInv a0) : Tw a0 a0 [] [] := ⟨h, by simp, fun _ _ => ⟨rfl, fun _ _ => rfl⟩⟩

theorem Tw.step {a0 a : AW} {done : List ByteArray} {l : List (ByteArray × ByteArray)} (h : Tw a0 a done l) (n t : ByteArray) (hi : AInv (saveM n (pcs t) a).2) : Tw a0 (saveM n (pcs t) a).2 (done ++ [n]) (nextL l n t (saveM n (pcs t) a).1) := by
  obtain ⟨l1, l2⟩ := saveM_law h.inv n (pcs t)
  have old : ∀ p ∈ keepT2 l n, ∃ j, mget p.1 (saveM n (pcs t) a).2.names = some j ∧ (saveM n (pcs t) a).2.files[j]? = some ⟨txL p.2, txL p.2, []⟩ := by
    intro p hp
    simp only [keepT2, List.mem_filter, Bool.and_eq_true, decide_eq_true_eq] at hp
    obtain ⟨hp, h1, h2⟩ := hp
    obtain ⟨j, hj, hf⟩ := h.kept p hp
    obtain ⟨k1, k2⟩ := l1 p.1 h2 (.inl h1)
    exact ⟨j, by rw [k1, hj], by rw [k2 j hj, hf]⟩
  refine ⟨hi, fun p hp => ?_, fun k hk => ?_⟩
  · unfold nextL at hp
    split at hp
    · rename_i e
      rcases List.mem_append.1 hp with hp | hp
      · exact old p hp
      · rw [List.mem_singleton.1 hp]
        obtain ⟨j, hj, hf⟩ := l2 e
        rw [pcs_flat] at hf
        exact ⟨j, hj, hf⟩
    · exact old p hp
  · obtain ⟨m1, m2⟩ := hk n (by simp)
    obtain ⟨r1, r2⟩ := h.rest k (fun m hm => hk m (by simp [hm]))
    obtain ⟨k1, k2⟩ := l1 k m2 (.inl m1)
    exact ⟨k1.trans r1, fun i hki => by rw [k2 i (by rw [r1, hki]), r2 i hki]⟩

theorem Tw.last {a0 a a' : AW} {done : List ByteArray} {l : List (ByteArray × ByteArray)} {which : Int} {cs : List Ch} (h : Tw a0 a done l) (hi0 : AInv a0) (hs : ∀ f ∈ a0.files, f.writes = [] ∧ f.base = f.now) (hL : LeftR a which cs a') :
    (∀ p ∈ l, heldA a' p.1 = (p.2, true)) ∧ (∀ k, (∀ n ∈ done, k ≠ n ∧ k ≠ n ++ tmpB) → heldA a' k = heldA a0 k) := by
  refine ⟨fun p hp => ?_, fun k hk => ?_⟩
  · obtain ⟨j, hj, hf⟩ := h.kept p hp
    rw [left_some hL h.inv.keys hj hf rfl, ftxt_txL]
  · obtain ⟨k1, k2⟩ := h.rest k hk
    cases hm : mget k a0.names with
    | none => rw [left_none hL (by rw [k1, hm])]; simp only [heldA, hm]
    | some j =>
      have hjl := hi0.nin _ (mget_mem hm)
      simp only at hjl
      have hf : a0.files[j]? = some a0.files[j] := by simp [hjl]
      obtain ⟨s1, s2⟩ := hs _ (List.getElem_mem hjl)
      rw [left_some hL h.inv.keys (by rw [k1, hm]) (by rw [k2 j hm, hf]) s1]
      simp only [heldA, hm, fileAt, hf, Option.getD_some, s2]

theorem addFs_held {fs : List (ByteArray × ByteArray)} : ∀ {a b : AW}, AInv a → addFs a fs = some b → (∀ k, (mget k a.names).isSome → heldA b k = heldA a k) ∧ ∀ p ∈ fs, heldA b p.1 = (p.2, true) := by
  induction fs with
  | nil => intro a b hi e; simp only [addFs, Option.some.injEq] at e; subst e; exact ⟨fun _ _ => rfl, by simp⟩
  | cons p r ih =>
    intro a b hi e
    simp only [addFs] at e
    cases hp : addF a p with
    | none => rw [hp] at e; cases e
    | some c =>
      rw [hp] at e
      have hc : addFs a [p] = some c := by simp only [addFs, hp]
      have hic := addFs_inv hi hc
      obtain ⟨i1, i2⟩ := ih hic e
      unfold addF at hp
      split at hp
      · cases hp
      rename_i hcond
      simp only [Bool.or_eq_true, not_or, Bool.not_eq_true] at hcond
      have hnone : mget p.1 a.names = none := by
        cases hm : mget p.1 a.names with
        | none => rfl
        | some j => rw [hm] at hcond; simp at hcond
      simp only [Option.some.injEq] at hp
      have old : ∀ k, (mget k a.names).isSome → (mget k c.names).isSome ∧ heldA c k = heldA a k := by
        intro k hk
        have hkp : k ≠ p.1 := fun e => by rw [e, hnone] at hk; cases hk
        subst hp
        cases hm : mget k a.names with
        | none => rw [hm] at hk; cases hk
        | some j =>
          have hjl := hi.nin _ (mget_mem hm)
          simp only at hjl
          have e1 : mget k (mset p.1 a.files.length a.names) = some j := by rw [mget_mset_ne hkp, hm]
          refine ⟨by simp [e1], ?_⟩
          simp only [heldA, e1, hm, fileAt]
          rw [List.getElem?_append_left hjl]
      have new : (mget p.1 c.names).isSome ∧ heldA c p.1 = (p.2, true) := by
        subst hp
        have e1 : mget p.1 (mset p.1 a.files.length a.names) = some a.files.length := mget_mset_eq
        refine ⟨by simp [e1], ?_⟩
        simp only [heldA, e1, fileAt]
        rw [List.getElem?_append_right (Nat.le_refl _)]
        simp [ftxt_txL]
      refine ⟨fun k hk => ?_, fun q hq => ?_⟩
      · obtain ⟨o1, o2⟩ := old k hk
        rw [i1 k o1, o2]
      · rcases List.mem_cons.1 hq with rfl | hq
        · rw [i1 _ new.1, new.2]
        · exact i2 q hq

theorem newA_held {cs : List Ch} {fs : List (ByteArray × ByteArray)} {a : AW} (h : newA cs fs = some a) : ∀ p ∈ fs, heldA a p.1 = (p.2, true) := by
  unfold newA at h
  cases hb : addFs emptyA fs with
  | none => rw [hb] at h; cases h
  | some b =>
    rw [hb] at h
    simp only at h
    split at h
    · cases h
    · cases h
      exact (addFs_held AInv.empty hb).2
end Go.V

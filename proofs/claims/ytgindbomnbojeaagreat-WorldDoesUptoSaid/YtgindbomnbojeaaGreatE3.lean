/-
  One call of both worlds.
-/
import Derived.Test.YtgindbomnbojeaaGreatE2
import Derived.Test.YtgindbomnbojeaaGreatP6
import Derived.Test.YtgindbomnbojeaaGreatD6
import Derived.Test.YtgindbomnbojeaaGreatD5
import Derived.Test.YtgindbomnbojeaaGreatD4
import Derived.Test.YtgindbomnbojeaaGreatD3
import Derived.Test.YtgindbomnbojeaaGreatD2
import Derived.Test.YtgindbomnbojeaaGreatD1
set_option linter.unusedSimpArgs false
set_option linter.unusedVariables false
namespace Go.V
open Go
theorem signalM_inv {a : AW} (h : AInv a) : AInv (signalM a).2.2 := by
  unfold signalM
  (repeat' split) <;> first | exact h | exact h.congr rfl rfl rfl
theorem staleM_inv {a : AW} (h : AInv a) : AInv (staleM a) := h.congr rfl rfl rfl
theorem inv_openM {x : ActW} {a : AW} (h : AInv a) (hin : ∀ h ∈ a.hs, ∀ i, h.file = some i → i < a.files.length) (hs : 0 ≤ a.seq) : AInv (openM x.name x.h a).2.2 := callM_inv (x := ⟨1, x.name, x.text, x.h, x.n⟩) h hin hs
theorem inv_readM {x : ActW} {a : AW} (h : AInv a) (hin : ∀ h ∈ a.hs, ∀ i, h.file = some i → i < a.files.length) (hs : 0 ≤ a.seq) : AInv (readM x.h x.n a).2.2 := callM_inv (x := ⟨2, x.name, x.text, x.h, x.n⟩) h hin hs
theorem inv_writeM {x : ActW} {a : AW} (h : AInv a) (hin : ∀ h ∈ a.hs, ∀ i, h.file = some i → i < a.files.length) (hs : 0 ≤ a.seq) : AInv (writeM x.h x.text a).2.2 := callM_inv (x := ⟨3, x.name, x.text, x.h, x.n⟩) h hin hs
theorem inv_seekM {x : ActW} {a : AW} (h : AInv a) (hin : ∀ h ∈ a.hs, ∀ i, h.file = some i → i < a.files.length) (hs : 0 ≤ a.seq) : AInv (seekM x.h x.n a).2.2 := callM_inv (x := ⟨4, x.name, x.text, x.h, x.n⟩) h hin hs
theorem inv_syncM {x : ActW} {a : AW} (h : AInv a) (hin : ∀ h ∈ a.hs, ∀ i, h.file = some i → i < a.files.length) (hs : 0 ≤ a.seq) : AInv (syncM x.h a).2.2 := callM_inv (x := ⟨5, x.name, x.text, x.h, x.n⟩) h hin hs
theorem inv_closeM {x : ActW} {a : AW} (h : AInv a) (hin : ∀ h ∈ a.hs, ∀ i, h.file = some i → i < a.files.length) (hs : 0 ≤ a.seq) : AInv (closeM x.h a).2.2 := callM_inv (x := ⟨6, x.name, x.text, x.h, x.n⟩) h hin hs
theorem inv_renameM {x : ActW} {a : AW} (h : AInv a) (hin : ∀ h ∈ a.hs, ∀ i, h.file = some i → i < a.files.length) (hs : 0 ≤ a.seq) : AInv (renameM x.name x.text a).2.2 := callM_inv (x := ⟨7, x.name, x.text, x.h, x.n⟩) h hin hs
theorem inv_deleteM {x : ActW} {a : AW} (h : AInv a) (hin : ∀ h ∈ a.hs, ∀ i, h.file = some i → i < a.files.length) (hs : 0 ≤ a.seq) : AInv (deleteM x.name a).2.2 := callM_inv (x := ⟨8, x.name, x.text, x.h, x.n⟩) h hin hs
theorem inv_clockM {x : ActW} {a : AW} (h : AInv a) (hin : ∀ h ∈ a.hs, ∀ i, h.file = some i → i < a.files.length) (hs : 0 ≤ a.seq) : AInv (clockM a).2.2 := callM_inv (x := ⟨9, x.name, x.text, x.h, x.n⟩) h hin hs
theorem inv_connectM {x : ActW} {a : AW} (h : AInv a) (hin : ∀ h ∈ a.hs, ∀ i, h.file = some i → i < a.files.length) (hs : 0 ≤ a.seq) : AInv (connectM x.name a).2.2 := callM_inv (x := ⟨10, x.name, x.text, x.h, x.n⟩) h hin hs
theorem inv_sendM {x : ActW} {a : AW} (h : AInv a) (hin : ∀ h ∈ a.hs, ∀ i, h.file = some i → i < a.files.length) (hs : 0 ≤ a.seq) : AInv (sendM x.h x.text a).2.2 := callM_inv (x := ⟨11, x.name, x.text, x.h, x.n⟩) h hin hs
theorem inv_receiveM {x : ActW} {a : AW} (h : AInv a) (hin : ∀ h ∈ a.hs, ∀ i, h.file = some i → i < a.files.length) (hs : 0 ≤ a.seq) : AInv (receiveM x.h x.n a).2.2 := callM_inv (x := ⟨12, x.name, x.text, x.h, x.n⟩) h hin hs
theorem inv_showM {x : ActW} {a : AW} (h : AInv a) (hin : ∀ h ∈ a.hs, ∀ i, h.file = some i → i < a.files.length) (hs : 0 ≤ a.seq) : AInv (showM x.text a).2.2 := callM_inv (x := ⟨13, x.name, x.text, x.h, x.n⟩) h hin hs
theorem inv_quitM {x : ActW} {a : AW} (h : AInv a) (hin : ∀ h ∈ a.hs, ∀ i, h.file = some i → i < a.files.length) (hs : 0 ≤ a.seq) : AInv (quitM x.n a).2.2 := callM_inv (x := ⟨14, x.name, x.text, x.h, x.n⟩) h hin hs
end Go.V
namespace Go.Proofs.YtgindbomnbojeaaGreat
open Go Go.V
set_option maxHeartbeats 12800000
set_option maxRecDepth 100000
def BothP (t tr q : Nat) (M n : Nat) (v : Value) (Post : SH) : Prop :=
  v = .bool true ∧ ∃ w' r' a' k', Twin w' r' a' (M + 1) ∧ BkOk k' (n + 1) ∧ Post = [PW t w', DW tr r', BA q k']
theorem both_does (t tr q : Nat) (w : WR) (r : QR) (a : AW) (M n : Nat) (k : Bk) (h : Twin w r a M) (hk0 : BkOk k n) (hM0 : M + 1 ≤ 1073741000) (hn : n ≤ 1073741823) (x : ActW) (hx : x.name.size ≤ 4611686018427387904) (ht : x.text.size ≤ 4611686018427387904) :
    Fun Tryz.prog 13 [ptr0 t, ptr0 tr, .agg (actEnc x).toArray, ptr0 q] [PW t w, DW tr r, BA q k] (BothP t tr q M n) := by
  refine Fun.intro low13 (by simp [n13]) ?_
  have hM : M + 1 ≤ 1073741823 := by omega
  have hk := h.inv.keys
  have hin := h.inv.nin
  have hhs : 0 ≤ a.seq := by rw [← h.rep.seq]; exact h.rep.ok.seq.1
  have hfin := h.doc.hin
  refine VC.seq_reg ?_
  refine st_box (by rfl) (fun p => ?_)
  simp only [Value.cells, actEnc]
  refine GO ?_
  by_cases h1 : x.kind = 1
  · simp only [decide_eq_true h1]
    refine GO ?_
    refine st_call (fun_pw (open_spec t w a M hM h.rep x.name hx x.h)) (by rfl) (by exact SPx) (fun v Post hv => ?_)
    obtain ⟨P1, ⟨w', hR', rfl, rfl⟩, rfl⟩ := hv
    simp only [List.cons_append, List.nil_append, pw_eq]
    refine GO ?_
    refine st_call (fun_dw (qopn_spec tr r a M hM h.doc hk hin x.name hx x.h)) (by rfl) (by exact SPx) (fun v Post hv => ?_)
    obtain ⟨P2, ⟨r', hQ', rfl, rfl⟩, rfl⟩ := hv
    have hi' := inv_openM (x := x) h.inv hfin hhs
    generalize (openM x.name x.h a) = o at hR' hQ' hi' ⊢
    simp only [List.cons_append, List.nil_append, pw_eq, dw_eq]
    refine GO ?_
    (try simp only [eq_self, decide_true])
    (try refine GO ?_)
    exact endQ_mk (Post := [PW t w', DW tr r', BA q k]) (.inr rfl) (.tmp (by rfl) .nil) ⟨by first | rfl | simp [tup], w', r', _, k, ⟨hR', hQ', hi'⟩, hk0.more (by omega), rfl⟩ (by exact IMx)
  simp only [decide_eq_false h1]
  refine GO ?_
  by_cases h2 : x.kind = 2
  · simp only [decide_eq_true h2]
    refine GO ?_
    refine st_call (fun_pw (read_spec t w a M hM h.rep x.h x.n)) (by rfl) (by exact SPx) (fun v Post hv => ?_)
    obtain ⟨P1, ⟨w', hR', rfl, rfl⟩, rfl⟩ := hv
    simp only [List.cons_append, List.nil_append, pw_eq]
    refine GO ?_
    refine st_call (fun_dw (qread_spec tr r a M hM h.doc x.h x.n)) (by rfl) (by exact SPx) (fun v Post hv => ?_)
    obtain ⟨P2, ⟨r', hQ', rfl, rfl⟩, rfl⟩ := hv
    have hi' := inv_readM (x := x) h.inv hfin hhs
    generalize (readM x.h x.n a) = o at hR' hQ' hi' ⊢
    simp only [List.cons_append, List.nil_append, pw_eq, dw_eq]
    refine GO ?_
    (try simp only [eq_self, decide_true])
    (try refine GO ?_)
    exact endQ_mk (Post := [PW t w', DW tr r', BA q k]) (.inr rfl) (.tmp (by rfl) .nil) ⟨by first | rfl | simp [tup], w', r', _, k, ⟨hR', hQ', hi'⟩, hk0.more (by omega), rfl⟩ (by exact IMx)
  simp only [decide_eq_false h2]
  refine GO ?_
  by_cases h3 : x.kind = 3
  · simp only [decide_eq_true h3]
    refine GO ?_
    refine st_call (fun_pw (write_spec t w a M hM h.rep x.h x.text ht)) (by rfl) (by exact SPx) (fun v Post hv => ?_)
    obtain ⟨P1, ⟨w', hR', rfl, rfl⟩, rfl⟩ := hv
    simp only [List.cons_append, List.nil_append, pw_eq]
    refine GO ?_
    refine st_call (fun_dw (qwrite_spec tr r a M hM h.doc x.h x.text ht)) (by rfl) (by exact SPx) (fun v Post hv => ?_)
    obtain ⟨P2, ⟨r', hQ', rfl, rfl⟩, rfl⟩ := hv
    have hi' := inv_writeM (x := x) h.inv hfin hhs
    generalize (writeM x.h x.text a) = o at hR' hQ' hi' ⊢
    simp only [List.cons_append, List.nil_append, pw_eq, dw_eq]
    refine GO ?_
    (try simp only [eq_self, decide_true])
    (try refine GO ?_)
    exact endQ_mk (Post := [PW t w', DW tr r', BA q k]) (.inr rfl) (.tmp (by rfl) .nil) ⟨by first | rfl | simp [tup], w', r', _, k, ⟨hR', hQ', hi'⟩, hk0.more (by omega), rfl⟩ (by exact IMx)
  simp only [decide_eq_false h3]
  refine GO ?_
  by_cases h4 : x.kind = 4
  · simp only [decide_eq_true h4]
    refine GO ?_
    refine st_call (fun_pw (seek_spec t w a M hM h.rep x.h x.n)) (by rfl) (by exact SPx) (fun v Post hv => ?_)
    obtain ⟨P1, ⟨w', hR', rfl, rfl⟩, rfl⟩ := hv
    simp only [List.cons_append, List.nil_append, pw_eq]
    refine GO ?_
    refine st_call (fun_dw (qseek_spec tr r a M hM h.doc x.h x.n)) (by rfl) (by exact SPx) (fun v Post hv => ?_)
    obtain ⟨P2, ⟨r', hQ', rfl, rfl⟩, rfl⟩ := hv
    have hi' := inv_seekM (x := x) h.inv hfin hhs
    generalize (seekM x.h x.n a) = o at hR' hQ' hi' ⊢
    simp only [List.cons_append, List.nil_append, pw_eq, dw_eq]
    refine GO ?_
    (try simp only [eq_self, decide_true])
    (try refine GO ?_)
    exact endQ_mk (Post := [PW t w', DW tr r', BA q k]) (.inr rfl) (.tmp (by rfl) .nil) ⟨by first | rfl | simp [tup], w', r', _, k, ⟨hR', hQ', hi'⟩, hk0.more (by omega), rfl⟩ (by exact IMx)
  simp only [decide_eq_false h4]
  refine GO ?_
  by_cases h5 : x.kind = 5
  · simp only [decide_eq_true h5]
    refine GO ?_
    refine st_call (fun_pw (sync_spec t w a M hM h.rep x.h)) (by rfl) (by exact SPx) (fun v Post hv => ?_)
    obtain ⟨P1, ⟨w', hR', rfl, rfl⟩, rfl⟩ := hv
    simp only [List.cons_append, List.nil_append, pw_eq]
    refine GO ?_
    refine st_call (fun_dw (qsync_spec tr r a M hM h.doc x.h)) (by rfl) (by exact SPx) (fun v Post hv => ?_)
    obtain ⟨P2, ⟨r', hQ', rfl, rfl⟩, rfl⟩ := hv
    have hi' := inv_syncM (x := x) h.inv hfin hhs
    generalize (syncM x.h a) = o at hR' hQ' hi' ⊢
    simp only [List.cons_append, List.nil_append, pw_eq, dw_eq]
    refine GO ?_
    (try simp only [eq_self, decide_true])
    (try refine GO ?_)
    exact endQ_mk (Post := [PW t w', DW tr r', BA q k]) (.inr rfl) (.tmp (by rfl) .nil) ⟨by first | rfl | simp [tup], w', r', _, k, ⟨hR', hQ', hi'⟩, hk0.more (by omega), rfl⟩ (by exact IMx)
  simp only [decide_eq_false h5]
  refine GO ?_
  by_cases h6 : x.kind = 6
  · simp only [decide_eq_true h6]
    refine GO ?_
    refine st_call (fun_pw (close_spec t w a M hM h.rep x.h)) (by rfl) (by exact SPx) (fun v Post hv => ?_)
    obtain ⟨P1, ⟨w', hR', rfl, rfl⟩, rfl⟩ := hv
    simp only [List.cons_append, List.nil_append, pw_eq]
    refine GO ?_
    refine st_call (fun_dw (qclose_spec tr r a M hM h.doc x.h)) (by rfl) (by exact SPx) (fun v Post hv => ?_)
    obtain ⟨P2, ⟨r', hQ', rfl, rfl⟩, rfl⟩ := hv
    have hi' := inv_closeM (x := x) h.inv hfin hhs
    generalize (closeM x.h a) = o at hR' hQ' hi' ⊢
    simp only [List.cons_append, List.nil_append, pw_eq, dw_eq]
    refine GO ?_
    (try simp only [eq_self, decide_true])
    (try refine GO ?_)
    exact endQ_mk (Post := [PW t w', DW tr r', BA q k]) (.inr rfl) (.tmp (by rfl) .nil) ⟨by first | rfl | simp [tup], w', r', _, k, ⟨hR', hQ', hi'⟩, hk0.more (by omega), rfl⟩ (by exact IMx)
  simp only [decide_eq_false h6]
  refine GO ?_
  by_cases h7 : x.kind = 7
  · simp only [decide_eq_true h7]
    refine GO ?_
    refine st_call (fun_pw (rename_spec t w a M hM h.rep x.name x.text hx ht)) (by rfl) (by exact SPx) (fun v Post hv => ?_)
    obtain ⟨P1, ⟨w', hR', rfl, rfl⟩, rfl⟩ := hv
    simp only [List.cons_append, List.nil_append, pw_eq]
    refine GO ?_
    refine st_call (fun_dw (qrename_spec tr r a M hM h.doc hk hin x.name x.text hx ht)) (by rfl) (by exact SPx) (fun v Post hv => ?_)
    obtain ⟨P2, ⟨r', hQ', rfl, rfl⟩, rfl⟩ := hv
    have hi' := inv_renameM (x := x) h.inv hfin hhs
    generalize (renameM x.name x.text a) = o at hR' hQ' hi' ⊢
    simp only [List.cons_append, List.nil_append, pw_eq, dw_eq]
    refine GO ?_
    (try simp only [eq_self, decide_true])
    (try refine GO ?_)
    exact endQ_mk (Post := [PW t w', DW tr r', BA q k]) (.inr rfl) (.tmp (by rfl) .nil) ⟨by first | rfl | simp [tup], w', r', _, k, ⟨hR', hQ', hi'⟩, hk0.more (by omega), rfl⟩ (by exact IMx)
  simp only [decide_eq_false h7]
  refine GO ?_
  by_cases h8 : x.kind = 8
  · simp only [decide_eq_true h8]
    refine GO ?_
    refine st_call (fun_pw (delete_spec t w a M hM h.rep x.name hx)) (by rfl) (by exact SPx) (fun v Post hv => ?_)
    obtain ⟨P1, ⟨w', hR', rfl, rfl⟩, rfl⟩ := hv
    simp only [List.cons_append, List.nil_append, pw_eq]
    refine GO ?_
    refine st_call (fun_dw (qdelete_spec tr r a M hM h.doc hk hin x.name hx)) (by rfl) (by exact SPx) (fun v Post hv => ?_)
    obtain ⟨P2, ⟨r', hQ', rfl, rfl⟩, rfl⟩ := hv
    have hi' := inv_deleteM (x := x) h.inv hfin hhs
    generalize (deleteM x.name a) = o at hR' hQ' hi' ⊢
    simp only [List.cons_append, List.nil_append, pw_eq, dw_eq]
    refine GO ?_
    (try simp only [eq_self, decide_true])
    (try refine GO ?_)
    exact endQ_mk (Post := [PW t w', DW tr r', BA q k]) (.inr rfl) (.tmp (by rfl) .nil) ⟨by first | rfl | simp [tup], w', r', _, k, ⟨hR', hQ', hi'⟩, hk0.more (by omega), rfl⟩ (by exact IMx)
  simp only [decide_eq_false h8]
  refine GO ?_
  by_cases h9 : x.kind = 9
  · simp only [decide_eq_true h9]
    refine GO ?_
    refine st_call (fun_pw (clock_spec t w a M hM h.rep)) (by rfl) (by exact SPx) (fun v Post hv => ?_)
    obtain ⟨P1, ⟨w', hR', rfl, rfl⟩, rfl⟩ := hv
    simp only [List.cons_append, List.nil_append, pw_eq]
    refine GO ?_
    refine st_call (fun_dw (qclock_spec tr r a M hM h.doc)) (by rfl) (by exact SPx) (fun v Post hv => ?_)
    obtain ⟨P2, ⟨r', hQ', rfl, rfl⟩, rfl⟩ := hv
    have hi' := inv_clockM (x := x) h.inv hfin hhs
    generalize (clockM a) = o at hR' hQ' hi' ⊢
    simp only [List.cons_append, List.nil_append, pw_eq, dw_eq]
    refine GO ?_
    (try simp only [eq_self, decide_true])
    (try refine GO ?_)
    exact endQ_mk (Post := [PW t w', DW tr r', BA q k]) (.inr rfl) (.tmp (by rfl) .nil) ⟨by first | rfl | simp [tup], w', r', _, k, ⟨hR', hQ', hi'⟩, hk0.more (by omega), rfl⟩ (by exact IMx)
  simp only [decide_eq_false h9]
  refine GO ?_
  by_cases h10 : x.kind = 10
  · simp only [decide_eq_true h10]
    refine GO ?_
    refine st_call (fun_pw (connect_spec t w a M hM h.rep x.name hx)) (by rfl) (by exact SPx) (fun v Post hv => ?_)
    obtain ⟨P1, ⟨w', hR', rfl, rfl⟩, rfl⟩ := hv
    simp only [List.cons_append, List.nil_append, pw_eq]
    refine GO ?_
    refine st_call (fun_dw (qconnect_spec tr r a M hM h.doc x.name hx)) (by rfl) (by exact SPx) (fun v Post hv => ?_)
    obtain ⟨P2, ⟨r', hQ', rfl, rfl⟩, rfl⟩ := hv
    have hi' := inv_connectM (x := x) h.inv hfin hhs
    generalize (connectM x.name a) = o at hR' hQ' hi' ⊢
    simp only [List.cons_append, List.nil_append, pw_eq, dw_eq]
    refine GO ?_
    (try simp only [eq_self, decide_true])
    (try refine GO ?_)
    exact endQ_mk (Post := [PW t w', DW tr r', BA q k]) (.inr rfl) (.tmp (by rfl) .nil) ⟨by first | rfl | simp [tup], w', r', _, k, ⟨hR', hQ', hi'⟩, hk0.more (by omega), rfl⟩ (by exact IMx)
  simp only [decide_eq_false h10]
  refine GO ?_
  by_cases h11 : x.kind = 11
  · simp only [decide_eq_true h11]
    refine GO ?_
    refine st_call (fun_pw (send_spec t w a M hM h.rep x.h x.text)) (by rfl) (by exact SPx) (fun v Post hv => ?_)
    obtain ⟨P1, ⟨w', hR', rfl, rfl⟩, rfl⟩ := hv
    simp only [List.cons_append, List.nil_append, pw_eq]
    refine GO ?_
    refine st_call (fun_dw (qsend_spec tr r a M hM h.doc x.h x.text)) (by rfl) (by exact SPx) (fun v Post hv => ?_)
    obtain ⟨P2, ⟨r', hQ', rfl, rfl⟩, rfl⟩ := hv
    have hi' := inv_sendM (x := x) h.inv hfin hhs
    generalize (sendM x.h x.text a) = o at hR' hQ' hi' ⊢
    simp only [List.cons_append, List.nil_append, pw_eq, dw_eq]
    refine GO ?_
    (try simp only [eq_self, decide_true])
    (try refine GO ?_)
    exact endQ_mk (Post := [PW t w', DW tr r', BA q k]) (.inr rfl) (.tmp (by rfl) .nil) ⟨by first | rfl | simp [tup], w', r', _, k, ⟨hR', hQ', hi'⟩, hk0.more (by omega), rfl⟩ (by exact IMx)
  simp only [decide_eq_false h11]
  refine GO ?_
  by_cases h12 : x.kind = 12
  · simp only [decide_eq_true h12]
    refine GO ?_
    refine st_call (fun_pw (receive_spec t w a M hM h.rep x.h x.n)) (by rfl) (by exact SPx) (fun v Post hv => ?_)
    obtain ⟨P1, ⟨w', hR', rfl, rfl⟩, rfl⟩ := hv
    simp only [List.cons_append, List.nil_append, pw_eq]
    refine GO ?_
    refine st_call (fun_dw (qreceive_spec tr r a M hM h.doc x.h x.n)) (by rfl) (by exact SPx) (fun v Post hv => ?_)
    obtain ⟨P2, ⟨r', hQ', rfl, rfl⟩, rfl⟩ := hv
    have hi' := inv_receiveM (x := x) h.inv hfin hhs
    generalize (receiveM x.h x.n a) = o at hR' hQ' hi' ⊢
    simp only [List.cons_append, List.nil_append, pw_eq, dw_eq]
    refine GO ?_
    (try simp only [eq_self, decide_true])
    (try refine GO ?_)
    exact endQ_mk (Post := [PW t w', DW tr r', BA q k]) (.inr rfl) (.tmp (by rfl) .nil) ⟨by first | rfl | simp [tup], w', r', _, k, ⟨hR', hQ', hi'⟩, hk0.more (by omega), rfl⟩ (by exact IMx)
  simp only [decide_eq_false h12]
  refine GO ?_
  by_cases h13 : x.kind = 13
  · simp only [decide_eq_true h13]
    refine GO ?_
    refine st_call (fun_pw (show_spec t w a M hM h.rep x.text)) (by rfl) (by exact SPx) (fun v Post hv => ?_)
    obtain ⟨P1, ⟨w', hR', rfl, rfl⟩, rfl⟩ := hv
    simp only [List.cons_append, List.nil_append, pw_eq]
    refine GO ?_
    refine st_call (fun_dw (qshow_spec tr r a M hM h.doc x.text)) (by rfl) (by exact SPx) (fun v Post hv => ?_)
    obtain ⟨P2, ⟨r', hQ', rfl, rfl⟩, rfl⟩ := hv
    have hi' := inv_showM (x := x) h.inv hfin hhs
    generalize (showM x.text a) = o at hR' hQ' hi' ⊢
    simp only [List.cons_append, List.nil_append, pw_eq, dw_eq]
    refine GO ?_
    (try simp only [eq_self, decide_true])
    (try refine GO ?_)
    exact endQ_mk (Post := [PW t w', DW tr r', BA q k]) (.inr rfl) (.tmp (by rfl) .nil) ⟨by first | rfl | simp [tup], w', r', _, k, ⟨hR', hQ', hi'⟩, hk0.more (by omega), rfl⟩ (by exact IMx)
  simp only [decide_eq_false h13]
  refine GO ?_
  by_cases h14 : x.kind = 14
  · simp only [decide_eq_true h14]
    refine GO ?_
    refine st_call (fun_pw (quit_spec t w a M hM h.rep x.n)) (by rfl) (by exact SPx) (fun v Post hv => ?_)
    obtain ⟨P1, ⟨w', hR', rfl, rfl⟩, rfl⟩ := hv
    simp only [List.cons_append, List.nil_append, pw_eq]
    refine GO ?_
    refine st_call (fun_dw (qquit_spec tr r a M hM h.doc x.n)) (by rfl) (by exact SPx) (fun v Post hv => ?_)
    obtain ⟨P2, ⟨r', hQ', rfl, rfl⟩, rfl⟩ := hv
    have hi' := inv_quitM (x := x) h.inv hfin hhs
    generalize (quitM x.n a) = o at hR' hQ' hi' ⊢
    simp only [List.cons_append, List.nil_append, pw_eq, dw_eq]
    refine GO ?_
    (try simp only [eq_self, decide_true])
    (try refine GO ?_)
    exact endQ_mk (Post := [PW t w', DW tr r', BA q k]) (.inr rfl) (.tmp (by rfl) .nil) ⟨by first | rfl | simp [tup], w', r', _, k, ⟨hR', hQ', hi'⟩, hk0.more (by omega), rfl⟩ (by exact IMx)
  simp only [decide_eq_false h14]
  refine GO ?_
  by_cases h15 : x.kind = 15
  · simp only [decide_eq_true h15]
    refine GO ?_
    refine st_call (fun_pw (signal_spec t w a M h.rep)) (by rfl) (by exact SPx) (fun v Post hv => ?_)
    obtain ⟨P1, ⟨w', hR', rfl, rfl⟩, rfl⟩ := hv
    simp only [List.cons_append, List.nil_append, pw_eq]
    refine GO ?_
    refine st_call (fun_dw (qsignal_spec tr r a M h.doc)) (by rfl) (by exact SPx) (fun v Post hv => ?_)
    obtain ⟨P2, ⟨r', hQ', rfl, rfl⟩, rfl⟩ := hv
    have hi' := signalM_inv h.inv
    generalize signalM a = o at hR' hQ' hi' ⊢
    simp only [List.cons_append, List.nil_append, pw_eq, dw_eq]
    refine GO ?_
    (try simp only [eq_self, decide_true, beq_self_eq_true])
    (try refine GO ?_)
    exact endQ_mk (Post := [PW t w', DW tr r', BA q k]) (.inr rfl) (.tmp (by rfl) .nil) ⟨by first | rfl | simp [tup], w', r', _, k, ⟨hR'.mono (by omega), hQ'.mono (by omega), hi'⟩, hk0.more (by omega), rfl⟩ (by exact IMx)
  simp only [decide_eq_false h15]
  refine GO ?_
  by_cases h16 : x.kind = 16
  · simp only [decide_eq_true h16]
    refine GO ?_
    refine st_call (fun_pw (stale_spec t w a M (by omega) h.rep)) (by rfl) (by exact SPx) (fun v Post hv => ?_)
    obtain ⟨P1, ⟨rfl, w', hR', rfl⟩, rfl⟩ := hv
    simp only [List.cons_append, List.nil_append, pw_eq]
    refine GO ?_
    refine st_call (fun_dw (qstale_spec tr r a M (by omega) h.doc)) (by rfl) (by exact SPx) (fun v Post hv => ?_)
    obtain ⟨P2, ⟨rfl, r', hQ', rfl⟩, rfl⟩ := hv
    have hi' := staleM_inv h.inv
    simp only [List.cons_append, List.nil_append, pw_eq, dw_eq]
    refine GO ?_
    exact endQ_mk (Post := [PW t w', DW tr r', BA q k]) (.inr rfl) (.tmp (by rfl) .nil) ⟨by first | rfl | simp [tup], w', r', _, k, ⟨hR'.mono (by omega), hQ'.mono (by omega), hi'⟩, hk0.more (by omega), rfl⟩ (by exact IMx)
  simp only [decide_eq_false h16]
  refine GO ?_
  by_cases h17 : x.kind = 17
  · simp only [decide_eq_true h17]
    refine GO ?_
    refine st_call (fun_pw (size_spec t w a M (by omega) h.rep x.h)) (by rfl) (by exact SPx) (fun v Post hv => ?_)
    obtain ⟨P1, ⟨rfl, rfl⟩, rfl⟩ := hv
    simp only [List.cons_append, List.nil_append, pw_eq]
    refine GO ?_
    refine st_call (fun_dw (qsize_spec tr r a M (by omega) h.doc x.h)) (by rfl) (by exact SPx) (fun v Post hv => ?_)
    obtain ⟨P2, ⟨rfl, rfl⟩, rfl⟩ := hv
    generalize sizeM x.h a = o
    simp only [List.cons_append, List.nil_append, pw_eq, dw_eq]
    refine GO ?_
    (try simp only [eq_self, decide_true])
    (try refine GO ?_)
    exact endQ_mk (Post := [PW t w, DW tr r, BA q k]) (.inr rfl) (.tmp (by rfl) .nil) ⟨by first | rfl | simp [tup], w, r, a, k, ⟨h.rep.mono (by omega), h.doc.mono (by omega), h.inv⟩, hk0.more (by omega), rfl⟩ (by exact IMx)
  simp only [decide_eq_false h17]
  refine GO ?_
  refine st_call (looks_spec t tr q w r a M n k h hk0 (by omega) hn) (by rfl) (by exact SPx) (fun v Post hv => ?_)
  obtain ⟨rfl, k', hk', rfl⟩ := hv
  simp only [CNx]
  refine GO ?_
  exact endQ_mk (Post := [PW t w, DW tr r, BA q k']) (.inr rfl) (.tmp (by rfl) .nil) ⟨by first | rfl | simp [tup], w, r, a, k', ⟨h.rep.mono (by omega), h.doc.mono (by omega), h.inv⟩, hk', rfl⟩ (by exact IMx)
end Go.Proofs.YtgindbomnbojeaaGreat

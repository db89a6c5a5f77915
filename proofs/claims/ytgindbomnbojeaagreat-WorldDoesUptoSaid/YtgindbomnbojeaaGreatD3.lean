/-
  The document's world: Clock, Receive.
-/
import Derived.Test.YtgindbomnbojeaaGreatD2
import Derived.Test.YtgindbomnbojeaaGreatCD
import Derived.Test.YtgindbomnbojeaaGreatP7
set_option linter.unusedSimpArgs false
set_option linter.unusedVariables false
namespace Go.Proofs.YtgindbomnbojeaaGreat
open Go Go.V
set_option maxHeartbeats 12800000
set_option maxRecDepth 100000
def clockRest : IC := match F46.body with | .seq _ (.seq _ (.seq _ (.seq _ r))) => r | _ => .skip
def clockHead (r : IC) : IC := match F46.body with | .seq a (.seq b (.seq c (.seq d _))) => .seq a (.seq b (.seq c (.seq d r))) | _ => .skip
theorem clock_body : F46.body = clockHead clockRest := rfl
theorem qclock_spec (t : Nat) (r : QR) (a : AW) (M : Nat) (hM : M + 1 ≤ 1073741823) (h : QRep r a M) :
    Fun Tryz.prog 46 [ptr0 t] (QMem t r) (fun v Post => ∃ r', QRep r' (clockM a).2.2 (M + 1) ∧ v = .tuple #[vi (clockM a).1.n, vi (clockM a).2.1] ∧ Post = QMem t r') := by
  refine Fun.intro low46 (by simp [n46]) ?_
  rw [clock_body]
  have fin : ∀ (tm : Int) (r2 : QR) (a2 : AW), QRep r2 a2 M → a2.clock = tm → clockM a = ({ deClock with n := tm }, 0, { a2 with trace := a2.trace ++ [{ deClock with n := tm }] }) →
      VC Tryz.prog F46.n clockRest [(0, ptr0 t)] (QMem t r2) (endQ F46.res (fun v Post => ∃ r', QRep r' (clockM a).2.2 (M + 1) ∧ v = .tuple #[vi (clockM a).1.n, vi (clockM a).2.1] ∧ Post = QMem t r')) := by
    intro tm r2 a2 h2 hc hd
    rw [hd]
    have hn2 := h2.now
    simp only [QMem]
    refine GO ?_
    refine st_call (qtell_spec t r2 a2 M (by omega) h2 { deClock with n := tm }) (by rw [hn2, hc]; rfl) (by simp only [QMem]; exact SPx) (fun v Post hv => ?_)
    obtain ⟨rfl, r3, h3, rfl⟩ := hv
    have hn3 := h3.now
    simp only [QMem, List.append_nil]
    refine GO ?_
    exact endQ_mk (.inr rfl) (.tmp (by rfl) (.tmp (by rfl) .nil)) ⟨r3, h3, by rw [hn3, ← hc]; rfl, rfl⟩ (by exact IMx)
  generalize clockRest = q at fin ⊢
  refine GO ?_
  refine st_call (qtake_spec t r a M h) (by rfl) (by simp only [QMem]; exact SPx) (fun v Post hv => ?_)
  obtain ⟨r1, h1, rfl, rfl⟩ := hv
  simp only [chEnc, List.append_nil]
  refine GO ?_
  refine st_alloc (fun p => ?_)
  refine GO ?_
  cases hl : liveA a with
  | false =>
    have hd : clockM a = (noDe, 36, takeA a) := deedA_dead hl
    rw [hd]
    refine GO ?_
    exact endQ_mk (.inr rfl) (.tmp (by rfl) (.tmp (by rfl) .nil)) ⟨r1, h1.mono (Nat.le_succ M), rfl, rfl⟩ Imp.tail1
  | true =>
    simp only [if_true]
    have hclk := h1.clk
    have hnow := h1.now
    obtain ⟨tm, htm⟩ : ∃ tm, tm = (if (chA a).kind = 1 ∧ 0 ≤ (chA a).n ∧ (chA a).n ≤ 1000000000000 then min ((takeA a).clock + (chA a).n) 1000000000000000000 else (takeA a).clock) := ⟨_, rfl⟩
    have hd : clockM a = ({ deClock with n := tm }, 0, { takeA a with clock := tm, trace := (takeA a).trace ++ [{ deClock with n := tm }] }) := by
      unfold clockM; rw [deedA_live hl, htm]; rfl
    have ht : 0 ≤ tm ∧ tm ≤ 1000000000000000000 := by
      rw [← hnow] at htm
      rw [htm]; split
      · omega
      · exact hclk
    have hR := h1.clock ht
    simp only [QMem]
    refine GO ?_
    have out := VC.imp (P := Tryz.prog) (n := F46.n) (c := q) (Imp.refl _) (fin tm _ _ hR rfl (by rw [hd]))
    simp only [QMem] at out
    by_cases k1 : (chA a).kind = 1
    rotate_left
    · have e : tm = r1.now := by rw [htm, if_neg (fun hh => k1 hh.1), hnow]
      simp only [k1, decide_false]
      refine GO ?_
      rw [e] at out
      exact VC.imp (by exact IMx) (VC.sub (by exact SUx) out)
    simp only [k1, decide_true]
    refine GO ?_
    generalize hc1 : decide ((chA a).n ≥ 0) = c1
    cases c1 with
    | false =>
      have hc1 := of_decide_eq_false hc1
      have e : tm = r1.now := by rw [htm, if_neg (fun hh => hc1 hh.2.1), hnow]
      refine GO ?_
      rw [e] at out
      exact VC.imp (by exact IMx) (VC.sub (by exact SUx) out)
    | true =>
      have hc1 := of_decide_eq_true hc1
      refine GO ?_
      generalize hc2 : decide ((chA a).n ≤ 1000000000000) = c2
      cases c2 with
      | false =>
        have hc2 := of_decide_eq_false hc2
        have e : tm = r1.now := by rw [htm, if_neg (fun hh => hc2 hh.2.2), hnow]
        refine GO ?_
        rw [e] at out
        exact VC.imp (by exact IMx) (VC.sub (by exact SUx) out)
      | true =>
        have hc2 := of_decide_eq_true hc2
        have e : tm = min (r1.now + (chA a).n) 1000000000000000000 := by rw [htm, if_pos ⟨k1, hc1, hc2⟩, hnow]
        refine GO ?_
        have e2 : (if (1000000000000000000 : Int) < r1.now + (chA a).n then (1000000000000000000 : Int) else r1.now + (chA a).n) = tm := by rw [e]; split <;> omega
        rw [e2]
        exact VC.imp (by exact IMx) (VC.sub (by exact SUx) out)
def receiveRest : IC := match F52.body with | .seq _ (.seq _ (.seq _ (.seq _ (.seq _ (.seq _ (.seq _ r)))))) => r | _ => .skip
def receiveHead (r : IC) : IC := match F52.body with | .seq x0 (.seq x1 (.seq x2 (.seq x3 (.seq x4 (.seq x5 (.seq x6 _)))))) => .seq x0 (.seq x1 (.seq x2 (.seq x3 (.seq x4 (.seq x5 (.seq x6 r)))))) | _ => .skip
theorem receive_body : F52.body = receiveHead receiveRest := rfl
theorem qreceive_spec (t : Nat) (r : QR) (a : AW) (M : Nat) (hM : M + 1 ≤ 1073741823) (h : QRep r a M) (n many : Int) :
    Fun Tryz.prog 52 [ptr0 t, vi n, vi many] (QMem t r) (fun v Post => ∃ r', QRep r' (receiveM n many a).2.2 (M + 1) ∧ v = .tuple #[.string (receiveM n many a).1.text, vi (receiveM n many a).2.1] ∧ Post = QMem t r') := by
  refine Fun.intro low52 (by simp [n52]) ?_
  rw [receive_body]
  have fin : ∀ (s : ByteArray) (e : Int) (K : Nat) (hK : K + 1 ≤ 1073741823) (hKM : K ≤ M) (r2 : QR) (a2 : AW), QRep r2 a2 K → receiveM n many a = ({ deReceive n many with text := s, err := e }, e, { a2 with trace := a2.trace ++ [{ deReceive n many with text := s, err := e }] }) →
      VC Tryz.prog F52.n receiveRest [(0, ptr0 t), (1, vi n), (2, vi many), (10, vi e), (11, .string s)] (QMem t r2) (endQ F52.res (fun v Post => ∃ r', QRep r' (receiveM n many a).2.2 (M + 1) ∧ v = .tuple #[.string (receiveM n many a).1.text, vi (receiveM n many a).2.1] ∧ Post = QMem t r')) := by
    intro s e K hK hKM r2 a2 h2 hd
    rw [hd]
    refine GO ?_
    refine st_call (qtell_spec t r2 a2 K (by omega) h2 { deReceive n many with text := s, err := e }) (by rfl) (R := []) (by simp [V.Spl]) (fun v Post hv => ?_)
    obtain ⟨rfl, r3, h3, rfl⟩ := hv
    rw [List.append_nil]
    refine GO ?_
    exact endQ_mk (.inr rfl) (.tmp (by rfl) (.tmp (by rfl) .nil)) ⟨r3, h3.mono (by omega), rfl, rfl⟩ (Imp.refl _)
  generalize receiveRest = q at fin ⊢
  refine GO ?_
  refine st_call (qtake_spec t r a M h) (by rfl) (by simp only [QMem]; exact SPx) (fun v Post hv => ?_)
  obtain ⟨r1, h1, rfl, rfl⟩ := hv
  simp only [chEnc, List.append_nil]
  refine GO ?_
  refine st_alloc (fun p => ?_)
  refine GO ?_
  cases hl : liveA a with
  | false =>
    have hd : receiveM n many a = (noDe, 36, takeA a) := deedA_dead hl
    rw [hd]
    refine GO ?_
    exact endQ_mk (.inr rfl) (.tmp (by rfl) (.tmp (by rfl) .nil)) ⟨r1, h1.mono (Nat.le_succ M), rfl, rfl⟩ Imp.tail1
  | true =>
    simp only [if_true]
    have hd : ∀ {e : Int} {d' : De} {a2 : AW}, receiveF n many (deReceive n many) (takeA a) (chA a) = (e, d', a2) → receiveM n many a = ((if e = 0 then d' else { deReceive n many with err := e }), (if e = 0 then d' else { deReceive n many with err := e }).err, { a2 with trace := a2.trace ++ [if e = 0 then d' else { deReceive n many with err := e }] }) := by
      intro e d' a2 he
      unfold receiveM
      rw [deedA_live hl, he]
    refine GO ?_
    refine st_call (qheld_spec t r1 (takeA a) M (by omega) h1 n true) (by rfl) Spl.tail1 (fun v Post hv => ?_)
    obtain ⟨rfl, rfl⟩ := hv
    by_cases he : heldE (takeA a).hs n true = 0
    rotate_left
    · refine GO ?_
      simp only [he, decide_false]
      refine GO ?_
      simp only [he, decide_false]
      refine GO ?_
      have := hd (e := heldE (takeA a).hs n true) (d' := deReceive n many) (a2 := takeA a) (by unfold receiveF; rw [if_pos he])
      rw [if_neg he] at this
      exact VC.imp Imp.left (VC.sub (by exact SUx) (fin nilTx _ M hM (Nat.le_refl _) r1 _ h1 this))
    have hne : ¬ heldE (takeA a).hs n true ≠ 0 := by simpa using he
    rw [he]
    refine GO ?_
    by_cases hm : many < 0
    · simp only [hm, decide_true]
      refine GO ?_
      have := hd (e := 1) (d' := deReceive n many) (a2 := takeA a) (by unfold receiveF; rw [if_neg hne, if_pos hm])
      exact VC.imp Imp.left (VC.sub (by exact SUx) (fin nilTx 1 M hM (Nat.le_refl _) r1 _ h1 this))
    simp only [hm, decide_false]
    refine GO ?_
    refine VC.imp (H' := cellsAt p 0 [Value.int IntKind.u8 (chA a).kind, vi (chA a).n, Value.string (chA a).text] :: QMem t r1) (Imp.perm (by simp only [List.flatten_append, List.flatten_cons, List.flatten_nil, List.append_nil]; exact List.perm_append_comm)) ?_
    refine GO ?_
    by_cases hk : (chA a).kind = 3
    rotate_left
    · simp only [hk, decide_false]
      refine GO ?_
      have := hd (e := 0) (d' := deReceive n many) (a2 := takeA a) (by unfold receiveF; rw [if_neg hne, if_neg hm, if_pos hk])
      exact VC.imp Imp.tail1 (VC.sub (by exact SUx) (fin nilTx 0 M hM (Nat.le_refl _) r1 _ h1 this))
    simp only [hk, decide_true]
    have hk2 : ¬ (chA a).kind ≠ 3 := fun hh => hh hk
    refine GO ?_
    have rest : chosenE (chA a).n = 0 → receiveM n many a = ({ deReceive n many with text := (chA a).text.extract 0 (min many.toNat (chA a).text.size), err := 0 }, 0, { takeA a with trace := (takeA a).trace ++ [{ deReceive n many with text := (chA a).text.extract 0 (min many.toNat (chA a).text.size), err := 0 }] }) := by
      intro hc
      exact hd (e := 0) (d' := { deReceive n many with text := (chA a).text.extract 0 (min many.toNat (chA a).text.size) }) (a2 := takeA a) (by unfold receiveF; rw [if_neg hne, if_neg hm, if_neg hk2, if_neg (fun hh => hh hc)])
    have out : chosenE (chA a).n = 0 → VC Tryz.prog F52.n q [(0, ptr0 t), (1, vi n), (2, vi many), (10, vi 0), (11, .string ((chA a).text.extract 0 (min many.toNat (chA a).text.size)))] (QMem t r1) (endQ F52.res (fun v Post => ∃ r', QRep r' (receiveM n many a).2.2 (M + 1) ∧ v = .tuple #[.string (receiveM n many a).1.text, vi (receiveM n many a).2.1] ∧ Post = QMem t r')) := fun hc => fin _ 0 M hM (Nat.le_refl _) r1 _ h1 (rest hc)
    obtain ⟨mn, hmn⟩ : ∃ mn : Int, mn = (if many < (chA a).text.size then many else (chA a).text.size) := ⟨_, rfl⟩
    have hmn2 : mn.toNat = min many.toNat (chA a).text.size := by rw [hmn]; split <;> omega
    have hmn3 : 0 ≤ mn ∧ mn ≤ (chA a).text.size := by rw [hmn]; split <;> omega
    by_cases hc1 : (chA a).n ≥ 30
    rotate_left
    · have hc : chosenE (chA a).n = 0 := if_neg (fun hh => hc1 hh.1)
      simp only [hc1, decide_false]
      refine GO ?_
      rw [← hmn]
      refine st_slcS (l := 0) (h := mn.toNat) (by rfl) .dft (.num (k := .i64) (by rw [Int.toNat_of_nonneg hmn3.1]; rfl)) ⟨by omega, by omega⟩ ?_
      rw [hmn2]
      refine GO ?_
      exact VC.imp Imp.tail1 (VC.sub (by exact SUx) (out hc))
    simp only [hc1, decide_true]
    refine GO ?_
    by_cases hc2 : (chA a).n ≤ 35
    rotate_left
    · have hc : chosenE (chA a).n = 0 := if_neg (fun hh => hc2 hh.2)
      simp only [hc2, decide_false]
      refine GO ?_
      rw [← hmn]
      refine st_slcS (l := 0) (h := mn.toNat) (by rfl) .dft (.num (k := .i64) (by rw [Int.toNat_of_nonneg hmn3.1]; rfl)) ⟨by omega, by omega⟩ ?_
      rw [hmn2]
      refine GO ?_
      exact VC.imp Imp.tail1 (VC.sub (by exact SUx) (out hc))
    simp only [hc2, decide_true]
    refine GO ?_
    have hc : chosenE (chA a).n = (chA a).n := if_pos ⟨hc1, hc2⟩
    have hcn : (chA a).n ≠ 0 := by omega
    have := hd (e := (chA a).n) (d' := deReceive n many) (a2 := takeA a) (by unfold receiveF; rw [if_neg hne, if_neg hm, if_neg hk2, if_pos (by rw [hc]; exact hcn), hc])
    rw [if_neg hcn] at this
    exact VC.imp Imp.tail1 (VC.sub (by exact SUx) (fin nilTx _ M hM (Nat.le_refl _) r1 _ h1 this))
theorem qtellK_spec (t : Nat) (r : QR) (a : AW) (M : Nat) (hM : M ≤ 1073741823) (h : QRep r a M) (hm : r.told.length < M) (d : De) :
    Fun Tryz.prog 95 [ptr0 t, .agg (deEnc d).toArray] (QMem t r) (fun v Post => v = .tuple #[] ∧ ∃ r', QRep r' { a with trace := a.trace ++ [d] } M ∧ Post = QMem t r') := by
  refine Fun.intro low95 (by simp [n95]) ?_
  refine VC.seq_reg ?_
  refine st_box (by rfl) (fun p => ?_)
  obtain ⟨ta, tc, htv⟩ := h.tsl.form
  have hts := h.tsl
  rw [htv] at hts
  simp only [Value.cells, deEnc, QMem, htv]
  refine GO ?_
  refine st_bslice (out := deEnc d) (by rfl) (by rfl) (fun q3 => ?_)
  refine GO ?_
  refine st_append (k := r.told.length) (m := 1) (xs := r.told.flatMap deEnc) (sp := r.tsp) (ys := deEnc d) (by rfl) (by rfl) hts (by exact TKx) (by rfl) ?_ rfl (by rfl) (by rfl) (by decide) (by omega) (fun sv' sp' hsl' => ?_)
  · exact ⟨rfl, fun a ha => by simp only [List.flatten_cons, List.mem_append]; exact .inl ha⟩
  have hR := h.tellK hsl' hm
  obtain ⟨a', c', rfl⟩ := hsl'.form
  refine GO ?_
  have e : (r.told ++ [d]).flatMap deEnc = r.told.flatMap deEnc ++ deEnc d := by simp
  refine endQ_mk (.inl rfl) .nil ⟨rfl, _, hR, rfl⟩ ?_
  simp only [e]
  exact IMx
def connectRest : IC := match F48.body with | .seq _ (.seq _ (.seq _ (.seq _ (.seq _ (.seq _ (.seq _ r)))))) => r | _ => .skip
def connectHead (r : IC) : IC := match F48.body with | .seq x0 (.seq x1 (.seq x2 (.seq x3 (.seq x4 (.seq x5 (.seq x6 _)))))) => .seq x0 (.seq x1 (.seq x2 (.seq x3 (.seq x4 (.seq x5 (.seq x6 r)))))) | _ => .skip
theorem connect_body : F48.body = connectHead connectRest := rfl
theorem qconnect_spec (t : Nat) (r : QR) (a : AW) (M : Nat) (hM : M + 1 ≤ 1073741823) (h : QRep r a M) (s : ByteArray) (hs : s.size ≤ 4611686018427387904) :
    Fun Tryz.prog 48 [ptr0 t, .string s] (QMem t r) (fun v Post => ∃ r', QRep r' (connectM s a).2.2 (M + 1) ∧ v = .tuple #[vi (connectM s a).1.handle, vi (connectM s a).2.1] ∧ Post = QMem t r') := by
  refine Fun.intro low48 (by simp [n48]) ?_
  rw [connect_body]
  have fin : ∀ (n e : Int) (r2 : QR) (a2 : AW), QRep r2 a2 (M + 1) → r2.told.length ≤ M → connectM s a = ({ deConnect s with handle := n, err := e }, e, { a2 with trace := a2.trace ++ [{ deConnect s with handle := n, err := e }] }) →
      VC Tryz.prog F48.n connectRest [(0, ptr0 t), (1, .string s), (8, vi n), (9, vi e)] (QMem t r2) (endQ F48.res (fun v Post => ∃ r', QRep r' (connectM s a).2.2 (M + 1) ∧ v = .tuple #[vi (connectM s a).1.handle, vi (connectM s a).2.1] ∧ Post = QMem t r')) := by
    intro n e r2 a2 h2 htl hd
    rw [hd]
    refine GO ?_
    refine st_call (qtellK_spec t r2 a2 (M + 1) (by omega) h2 (by omega) { deConnect s with handle := n, err := e }) (by rfl) (R := []) (by simp [V.Spl]) (fun v Post hv => ?_)
    obtain ⟨rfl, r3, h3, rfl⟩ := hv
    rw [List.append_nil]
    refine GO ?_
    exact endQ_mk (.inr rfl) (.tmp (by rfl) (.tmp (by rfl) .nil)) ⟨r3, h3, rfl, rfl⟩ (Imp.refl _)
  generalize connectRest = q at fin ⊢
  refine GO ?_
  refine st_call (qtake_spec t r a M h) (by rfl) (by simp only [QMem]; exact SPx) (fun v Post hv => ?_)
  obtain ⟨r1, h1, rfl, rfl⟩ := hv
  simp only [chEnc, List.append_nil]
  refine GO ?_
  refine st_alloc (fun p => ?_)
  refine GO ?_
  cases hl : liveA a with
  | false =>
    have hd : connectM s a = (noDe, 36, takeA a) := deedA_dead hl
    rw [hd]
    refine GO ?_
    exact endQ_mk (.inr rfl) (.tmp (by rfl) (.tmp (by rfl) .nil)) ⟨r1, h1.mono (Nat.le_succ M), rfl, rfl⟩ Imp.tail1
  | true =>
    simp only [if_true]
    have hd : ∀ {e : Int} {d' : De} {a2 : AW}, connectF s (deConnect s) (takeA a) (chA a) = (e, d', a2) → connectM s a = ((if e = 0 then d' else { deConnect s with err := e }), (if e = 0 then d' else { deConnect s with err := e }).err, { a2 with trace := a2.trace ++ [if e = 0 then d' else { deConnect s with err := e }] }) := by
      intro e d' a2 he
      unfold connectM
      rw [deedA_live hl, he]
    refine GO ?_
    refine st_call (refName_spec s hs) (by rfl) Spl.nil (fun v Post hv => ?_)
    obtain ⟨rfl, rfl⟩ := hv
    rw [List.nil_append]
    refine GO ?_
    have bad : ∀ e : Int, e ≠ 0 → connectF s (deConnect s) (takeA a) (chA a) = (e, deConnect s, takeA a) → VC Tryz.prog F48.n q [(0, ptr0 t), (1, .string s), (8, vi 0), (9, vi e)] (QMem t r1) (endQ F48.res (fun v Post => ∃ r', QRep r' (connectM s a).2.2 (M + 1) ∧ v = .tuple #[vi (connectM s a).1.handle, vi (connectM s a).2.1] ∧ Post = QMem t r')) := by
      intro e he hc
      have := hd hc
      rw [if_neg he] at this
      exact fin 0 e r1 _ (h1.mono (Nat.le_succ M)) h1.tm this
    cases hn : nameB s with
    | false =>
      refine GO ?_
      exact VC.imp Imp.tail1 (VC.sub (by exact SUx) (bad 35 (by decide) (by simp [connectF, hn])))
    | true =>
      refine GO ?_
      by_cases k2 : (chA a).kind = 2
      rotate_left
      · simp only [k2, decide_false]
        refine GO ?_
        exact VC.imp Imp.tail1 (VC.sub (by exact SUx) (bad 32 (by decide) (by simp [connectF, hn, k2])))
      simp only [k2, decide_true]
      refine GO ?_
      by_cases k3 : (chA a).text = s
      rotate_left
      · simp only [k3, decide_false]
        refine GO ?_
        exact VC.imp Imp.tail1 (VC.sub (by exact SUx) (bad 32 (by decide) (by simp [connectF, hn, k3])))
      simp only [k3, decide_true]
      refine GO ?_
      have last : chosenE (chA a).n = 0 → connectF s (deConnect s) (takeA a) (chA a) = (if 32 ≤ usedN (takeA a).hs then (34, deConnect s, takeA a) else (0, { deConnect s with handle := (takeA a).hs.length + 1 }, { takeA a with hs := (takeA a).hs ++ [⟨0, false, false, none, 0, 0⟩] })) := by
        intro hc; simp [connectF, hn, k2, k3, hc]
      have hlen := h1.hlen
      have hmm := h1.hm
      obtain ⟨sa, sc, hsv⟩ := h1.hsl.form
      have hhs := h1.hsl
      rw [hsv] at hhs
      by_cases hc1 : 30 ≤ (chA a).n
      rotate_left
      · have hc : chosenE (chA a).n = 0 := if_neg (fun hh => hc1 hh.1)
        simp only [hc1, decide_false]
        refine GO ?_
        refine st_call (qopen0_spec t r1 (takeA a) M (by omega) h1) (by rfl) Spl.tail1 (fun v Post hv => ?_)
        obtain ⟨rfl, rfl⟩ := hv
        refine GO ?_
        by_cases hu : 32 ≤ usedN (takeA a).hs
        · simp only [show ((usedN (takeA a).hs : Nat) : Int) ≥ 32 by omega, decide_true]
          refine GO ?_
          exact VC.imp Imp.left (VC.sub (by exact SUx) (bad 34 (by decide) (by rw [last hc, if_pos hu])))
        simp only [show ¬ ((usedN (takeA a).hs : Nat) : Int) ≥ 32 by omega, decide_false]
        simp only [QMem, hsv, List.cons_append, List.nil_append]
        refine GO ?_
        refine st_bslice (out := rhEnc ⟨0, false, false, none, 0, 0⟩) (by rfl) (by rfl) (fun q3 => ?_)
        refine GO ?_
        refine st_append (k := r1.hs.length) (m := 1) (xs := r1.hs.flatMap rhEnc) (sp := r1.hsp) (ys := rhEnc ⟨0, false, false, none, 0, 0⟩) (by rfl) (by rfl) hhs (by exact TKx) (by rfl) ?_ rfl (by rfl) (by rfl) (by decide) (by omega) (fun sv' sp' hsl' => ?_)
        · exact ⟨rfl, fun a ha => by simp only [List.flatten_cons, List.mem_append]; exact .inl ha⟩
        have hR := h1.addH hsl' (fun i hi => by cases hi) ⟨Int.le_refl 0, by decide⟩
        obtain ⟨a', c', rfl⟩ := hsl'.form
        have hf := last hc
        rw [if_neg hu] at hf
        have hfin := hd hf
        rw [if_pos rfl, ← hlen] at hfin
        refine GO ?_
        refine VC.imp ?_ (VC.sub (by exact SUx) (fin _ 0 _ _ hR h1.tm hfin))
        have e1 : (r1.hs ++ [(⟨0, false, false, none, 0, 0⟩ : HO)]).flatMap rhEnc = r1.hs.flatMap rhEnc ++ rhEnc ⟨0, false, false, none, 0, 0⟩ := by simp
        simp only [QMem, e1, List.length_append, List.length_singleton]
        exact IMx
      simp only [hc1, decide_true]
      refine GO ?_
      by_cases hc2 : (chA a).n ≤ 35
      rotate_left
      · have hc : chosenE (chA a).n = 0 := if_neg (fun hh => hc2 hh.2)
        simp only [hc2, decide_false]
        refine GO ?_
        refine st_call (qopen0_spec t r1 (takeA a) M (by omega) h1) (by rfl) Spl.tail1 (fun v Post hv => ?_)
        obtain ⟨rfl, rfl⟩ := hv
        refine GO ?_
        by_cases hu : 32 ≤ usedN (takeA a).hs
        · simp only [show ((usedN (takeA a).hs : Nat) : Int) ≥ 32 by omega, decide_true]
          refine GO ?_
          exact VC.imp Imp.left (VC.sub (by exact SUx) (bad 34 (by decide) (by rw [last hc, if_pos hu])))
        simp only [show ¬ ((usedN (takeA a).hs : Nat) : Int) ≥ 32 by omega, decide_false]
        simp only [QMem, hsv, List.cons_append, List.nil_append]
        refine GO ?_
        refine st_bslice (out := rhEnc ⟨0, false, false, none, 0, 0⟩) (by rfl) (by rfl) (fun q3 => ?_)
        refine GO ?_
        refine st_append (k := r1.hs.length) (m := 1) (xs := r1.hs.flatMap rhEnc) (sp := r1.hsp) (ys := rhEnc ⟨0, false, false, none, 0, 0⟩) (by rfl) (by rfl) hhs (by exact TKx) (by rfl) ?_ rfl (by rfl) (by rfl) (by decide) (by omega) (fun sv' sp' hsl' => ?_)
        · exact ⟨rfl, fun a ha => by simp only [List.flatten_cons, List.mem_append]; exact .inl ha⟩
        have hR := h1.addH hsl' (fun i hi => by cases hi) ⟨Int.le_refl 0, by decide⟩
        obtain ⟨a', c', rfl⟩ := hsl'.form
        have hf := last hc
        rw [if_neg hu] at hf
        have hfin := hd hf
        rw [if_pos rfl, ← hlen] at hfin
        refine GO ?_
        refine VC.imp ?_ (VC.sub (by exact SUx) (fin _ 0 _ _ hR h1.tm hfin))
        have e1 : (r1.hs ++ [(⟨0, false, false, none, 0, 0⟩ : HO)]).flatMap rhEnc = r1.hs.flatMap rhEnc ++ rhEnc ⟨0, false, false, none, 0, 0⟩ := by simp
        simp only [QMem, e1, List.length_append, List.length_singleton]
        exact IMx
      simp only [hc2, decide_true]
      refine GO ?_
      have hc : chosenE (chA a).n = (chA a).n := if_pos ⟨hc1, hc2⟩
      have hcn : (chA a).n ≠ 0 := by omega
      exact VC.imp Imp.tail1 (VC.sub (by exact SUx) (bad _ hcn (by simp [connectF, hn, k2, k3, hc, hcn])))
end Go.Proofs.YtgindbomnbojeaaGreat

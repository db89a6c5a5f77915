/-
  The document's world: choices, what is told, what is open, what is there.
-/
import Derived.Test.YtgindbomnbojeaaGreatV21
import Derived.Test.YtgindbomnbojeaaGreatCD
set_option linter.unusedSimpArgs false
set_option linter.unusedVariables false
namespace Go.V
open Go
def faultE (c : Ch) : Int := if c.kind = 4 then chosenE c.n else 0
end Go.V
namespace Go.Proofs.YtgindbomnbojeaaGreat
open Go Go.V
set_option maxHeartbeats 6400000
set_option maxRecDepth 100000
theorem qfault_spec (c : Ch) : Fun Tryz.prog 99 [.agg (chEnc c).toArray] [] (fun v Post => v = vi (faultE c) ∧ Post = []) := by
  refine Fun.intro low99 (by simp [n99]) ?_
  refine VC.seq_reg ?_
  refine st_box (by rfl) (fun p => ?_)
  simp only [Value.cells, chEnc]
  refine GO ?_
  by_cases h4 : c.kind = 4
  · have hf : faultE c = chosenE c.n := if_pos h4
    simp only [h4, decide_true, hf]
    refine GO ?_
    by_cases h1 : 30 ≤ c.n
    · simp only [show c.n ≥ 30 from h1, decide_true]
      refine GO ?_
      by_cases h2 : c.n ≤ 35
      · have hc : chosenE c.n = c.n := if_pos ⟨h1, h2⟩
        simp only [h2, decide_true, hc]
        refine GO ?_
        exact endQ_mk (Post := []) (.inr rfl) (.tmp (by rfl) .nil) ⟨rfl, rfl⟩ Imp.nil
      · have hc : chosenE c.n = 0 := if_neg (fun h => h2 h.2)
        simp only [h2, decide_false, hc]
        refine GO ?_
        exact endQ_mk (Post := []) (.inr rfl) (.tmp (by rfl) .nil) ⟨rfl, rfl⟩ Imp.nil
    · have hc : chosenE c.n = 0 := if_neg (fun h => h1 h.1)
      simp only [show ¬ c.n ≥ 30 from h1, decide_false, hc]
      refine GO ?_
      exact endQ_mk (Post := []) (.inr rfl) (.tmp (by rfl) .nil) ⟨rfl, rfl⟩ Imp.nil
  · have hf : faultE c = 0 := if_neg h4
    simp only [h4, decide_false, hf]
    refine GO ?_
    exact endQ_mk (Post := []) (.inr rfl) (.tmp (by rfl) .nil) ⟨rfl, rfl⟩ Imp.nil
theorem qtell_spec (t : Nat) (r : QR) (a : AW) (M : Nat) (hM : M ≤ 1073741823) (h : QRep r a M) (d : De) :
    Fun Tryz.prog 95 [ptr0 t, .agg (deEnc d).toArray] (QMem t r) (fun v Post => v = .tuple #[] ∧ ∃ r', QRep r' { a with trace := a.trace ++ [d] } (M + 1) ∧ Post = QMem t r') := by
  refine Fun.intro low95 (by simp [n95]) ?_
  refine VC.seq_reg ?_
  refine st_box (by rfl) (fun p => ?_)
  obtain ⟨ta, tc, htv⟩ := h.tsl.form
  have hts := h.tsl
  have htm := h.tm
  rw [htv] at hts
  simp only [Value.cells, deEnc, QMem, htv]
  refine GO ?_
  refine st_bslice (out := deEnc d) (by rfl) (by rfl) (fun q3 => ?_)
  refine GO ?_
  refine st_append (k := r.told.length) (m := 1) (xs := r.told.flatMap deEnc) (sp := r.tsp) (ys := deEnc d) (by rfl) (by rfl) hts (by exact TKx) (by rfl) ?_ rfl (by rfl) (by rfl) (by decide) (by omega) (fun sv' sp' hsl' => ?_)
  · exact ⟨rfl, fun a ha => by simp only [List.flatten_cons, List.mem_append]; exact .inl ha⟩
  have hR := h.tell hsl'
  obtain ⟨a', c', rfl⟩ := hsl'.form
  refine GO ?_
  have e : (r.told ++ [d]).flatMap deEnc = r.told.flatMap deEnc ++ deEnc d := by simp
  refine endQ_mk (.inl rfl) .nil ⟨rfl, _, hR, rfl⟩ ?_
  simp only [e]
  exact IMx
theorem qtake_spec (t : Nat) (r : QR) (a : AW) (M : Nat) (h : QRep r a M) :
    Fun Tryz.prog 93 [ptr0 t] (QMem t r) (fun v Post => ∃ r', QRep r' (takeA a) M ∧ v = .tuple #[.agg (chEnc (if liveA a then chA a else noCh)).toArray, .bool (liveA a)] ∧ Post = QMem t r') := by
  obtain ⟨sa, sc, hsv⟩ := h.cs.form
  have hcs := h.cs
  have hcm := h.cm
  refine Fun.intro low93 (by simp [n93]) ?_
  refine GO ?_
  refine st_alloc (fun p => ?_)
  simp only [QMem]
  refine GO ?_
  have hd0 := h.dead
  cases hd : r.dead with
  | true =>
    rw [hd] at hd0
    refine GO ?_
    have hl : liveA a = false := by simp [liveA, ← hd0]
    have ht : takeA a = a := by
      unfold takeA; rw [hl, ← hd0]
      cases a; simp_all
    refine ⟨.inr rfl, _, _, .cellN (us := chEnc noCh) (by rfl) (by rfl) (fun x hx => List.mem_append_left _ hx) (.tmp (by rfl) .nil), ?_, ⟨r, by rw [ht]; exact h, by rw [hl]; rfl, rfl⟩⟩
    simp only [hd]; exact Imp.tail1
  | false =>
    rw [hd] at hd0
    rw [hsv]
    refine GO ?_
    cases hch : r.choices with
    | nil =>
      have hch2 := h.ch
      rw [hch] at hch2
      simp only [List.length_nil, Int.natCast_zero, decide_true]
      have hc0 : chA a = noCh := by simp [chA, ← hd0, ← hch2]
      have hl : liveA a = true := by simp [liveA, ← hd0, hc0, noCh]
      have ht : takeA a = a := by
        unfold takeA; rw [hl, ← hd0, ← hch2]
        cases a; simp_all
      refine GO ?_
      refine ⟨.inr rfl, _, _, .cellN (us := chEnc noCh) (by rfl) (by rfl) (fun x hx => List.mem_append_left _ hx) (.tmp (by rfl) .nil), ?_, ⟨r, by rw [ht]; exact h, by rw [hl, hc0]; rfl, rfl⟩⟩
      simp only [hd, hch, hsv]; exact Imp.tail1
    | cons c cs =>
      have hch2 := h.ch
      rw [hch] at hch2 hcs hsv hcm
      have hcA : chA a = c := by simp [chA, ← hd0, ← hch2]
      have hl : liveA a = !decide (c.kind = 5) := by simp [liveA, ← hd0, hcA]
      have htc : (takeA a).choices = cs := by simp [takeA, ← hd0, ← hch2]
      simp only [show ¬ (((c :: cs).length : Nat) : Int) = 0 by simp; omega, decide_false]
      obtain ⟨b, o, cp, he, hcp, hlen⟩ := hcs.some (by simp)
      rw [hsv] at he
      simp only [Value.slice.injEq, true_and] at he
      obtain ⟨rfl, rfl⟩ := he
      have hl1 : (c :: cs).length = cs.length + 1 := rfl
      rw [hl1] at hcp ⊢
      have hX : cellsAt b o ((c :: cs).flatMap chEnc ++ r.csp) = cellsAt b o (chEnc c ++ (cs.flatMap chEnc ++ r.csp)) := by simp [List.flatMap_cons, List.append_assoc]
      have hlen2 : (cs.flatMap chEnc).length = cs.length * 3 := flat_lenS chEnc_len cs
      have hnew : IsSl 3 (.slice (some ⟨b, (if sc = 1 then o else o + 1 * 3), none⟩) cs.length (sc - 1)) cs.length (cs.flatMap chEnc) r.csp := by
        refine .mk hlen2 ?_ (by omega)
        simp only [List.flatMap_cons, List.length_append, chEnc, List.length_cons, List.length_nil] at hlen
        omega
      rw [← htc] at hnew
      have hR := h.take hnew
      rw [htc] at hR
      have himp : ∀ (D : Bool) (L1 L2 L3 L4 : List Atom), Imp [cellsAt t 0 [.slice (some ⟨b, (if sc = 1 then o else o + 1 * 3), none⟩) cs.length (sc - 1), r.av, r.wv, r.hv, r.tv, vi r.now, .bool D], cellsAt b o (chEnc c ++ (cs.flatMap chEnc ++ r.csp)), L1, L2, L3, L4]
          [cellsAt t 0 [.slice (some ⟨b, (if sc = 1 then o else o + 1 * 3), none⟩) cs.length (sc - 1), r.av, r.wv, r.hv, r.tv, vi r.now, .bool D], slA (.slice (some ⟨b, (if sc = 1 then o else o + 1 * 3), none⟩) cs.length (sc - 1)) (cs.flatMap chEnc) r.csp, L1, L2, L3, L4] := by
        intro D L1 L2 L3 L4
        by_cases e : sc = 1
        · have e0 : cs = [] := List.eq_nil_of_length_eq_zero (by omega)
          have e1 : r.csp = [] := List.eq_nil_of_length_eq_zero (by
            simp only [List.flatMap_cons, List.length_append, chEnc, List.length_cons, List.length_nil] at hlen
            omega)
          refine ⟨[cellsAt b o (chEnc c ++ (cs.flatMap chEnc ++ r.csp))], ?_⟩
          simp only [e0, e1, slA, List.flatMap_nil, List.append_nil, cellsAt, V.Spl, List.flatten_cons, List.flatten_nil, List.nil_append, List.append_assoc]
          refine List.Perm.append_left _ ?_
          exact List.perm_append_comm.trans (by simp only [List.append_assoc]; exact .refl _)
        · rw [if_neg e]
          refine ⟨[cellsAt b o (chEnc c)], ?_⟩
          simp only [slA_at, cellsAt_append, V.Spl, List.flatten_cons, List.flatten_nil, List.append_nil, List.append_assoc]
          refine List.Perm.append_left _ ?_
          simp only [chEnc, List.length_cons, List.length_nil, Nat.zero_add, Nat.reduceAdd, Nat.one_mul]
          exact List.perm_append_comm.trans (by simp only [List.append_assoc]; exact .refl _)
      simp only [slA_at, hX]
      simp only [chEnc, List.cons_append, List.nil_append] at himp ⊢
      refine GO ?_
      refine st_loadN (us := [.int .u8 c.kind, vi c.n, .string c.text]) (b := b) (o := o) (by rfl) (.there (.there (.cells (Nat.le_refl _) (by simp) rfl))) rfl ?_
      refine GO ?_
      refine st_alloc (fun p2 => ?_)
      refine GO ?_
      refine st_slcL (l := 1) (h := cs.length + 1) (by rfl) (.num (by rfl)) .dft ⟨by omega, by omega⟩ rfl ?_
      refine GO ?_
      rw [Nat.add_sub_cancel]
      by_cases h5 : c.kind = 5
      · have hl' : liveA a = false := by rw [hl, h5]; rfl
        have hdd : (takeA a).dead = true := by simp [takeA, hl']
        rw [hdd] at hR
        simp only [h5, decide_true]
        refine GO ?_
        refine ⟨.inr rfl, _, _, .cellN (us := chEnc noCh) (by rfl) (by rfl) (fun x hx => by simp only [List.flatten_cons, List.mem_append]; first | exact .inl hx | exact .inr (.inl hx)) (.tmp (by rfl) .nil), ?_, ⟨_, hR, by rw [hl']; rfl, rfl⟩⟩
        rw [h5] at himp
        exact Imp.cut (by exact IMx) (himp true _ _ _ _)
      · have hl' : liveA a = true := by rw [hl, decide_eq_false h5]; rfl
        have hdd : (takeA a).dead = false := by simp [takeA, hl']
        rw [hdd] at hR
        simp only [h5, decide_false]
        refine GO ?_
        refine ⟨.inr rfl, _, _, .cellN (us := chEnc c) (by rfl) (by rfl) (fun x hx => by simp only [List.flatten_cons, List.mem_append]; first | exact .inl hx | exact .inr (.inl hx)) (.tmp (by rfl) .nil), ?_, ⟨_, hR, by rw [hl', hcA]; rfl, rfl⟩⟩
        exact Imp.cut (by exact IMx) (himp false _ _ _ _)
end Go.Proofs.YtgindbomnbojeaaGreat
namespace Go.V
open Go
def findE (names : List (ByteArray × Nat)) (s : ByteArray) : Int := match mget s names with | some i => i | none => -1
end Go.V
namespace Go.Proofs.YtgindbomnbojeaaGreat
open Go Go.V
set_option maxHeartbeats 6400000
set_option maxRecDepth 100000
theorem qopen0_spec (t : Nat) (r : QR) (a : AW) (M : Nat) (hM : M ≤ 1073741823) (h : QRep r a M) :
    Fun Tryz.prog 109 [ptr0 t] (QMem t r) (fun v Post => v = vi (usedN a.hs) ∧ Post = QMem t r) := by
  refine Fun.intro low109 (by simp [n109]) ?_
  obtain ⟨sa, sc, hsv⟩ := h.hsl.form
  have hrd := h.hsl.rd
  have hm := h.hm
  rw [← h.usedR]
  rw [hsv] at hrd
  simp only [QMem, hsv]
  generalize slA (.slice sa r.hs.length sc) (r.hs.flatMap rhEnc) r.hsp = L at hrd ⊢
  refine GO ?_
  refine VC.loop (α := Nat) (Γf := fun k => [(0, ptr0 t), (3, vi (usedN (r.hs.take k))), (4, vi k)]) (Hf := fun _ => [cellsAt t 0 [r.cv, r.av, r.wv, .slice sa r.hs.length sc, r.tv, vi r.now, .bool r.dead], slA r.cv (r.choices.flatMap chEnc) r.csp, slA r.av (r.all.flatMap alEnc) r.asp, slA r.wv (r.ws.flatMap rwEnc) r.wsp, L, slA r.tv (r.told.flatMap deEnc) r.tsp])
    (I := fun k => k ≤ r.hs.length) (μ := fun k => r.hs.length - k) 0 (Nat.zero_le _) (by exact SUx) (by exact IMx) ?_
  intro k hk
  refine GO ?_
  (first | (apply VC.seq_cond; rfl) | (apply VC.cond; rfl))
  rotate_left
  · intro hge
    have hge : ¬ k < r.hs.length := by simpa using hge
    rw [List.take_of_length_le (by omega)]
    refine GO ?_
    exact endQ_mk (.inr rfl) (.tmp (by rfl) .nil) ⟨rfl, rfl⟩ (by exact IMx)
  intro hlt
  have hlt : k < r.hs.length := by simpa using hlt
  have hx : r.hs[k]? = some r.hs[k] := List.getElem?_eq_getElem hlt
  have hu := usedN_take hlt
  have hle := usedN_le (r.hs.take k)
  simp only [List.length_take] at hle
  generalize r.hs[k] = x at hx hu
  obtain ⟨b, o, c, hve, hcell⟩ := hrd.at_ (enc := rhEnc) rhEnc_len hx
  simp only [Value.slice.injEq, true_and] at hve
  obtain ⟨rfl, rfl⟩ := hve
  have m4 : Atom.cell b (o + k * 6 + 4) (.bool x.closed) ∈ L := hcell _ (mem_cellsAt.2 ⟨4, _, rfl, rfl⟩)
  have m5 : Atom.cell b (o + k * 6 + 5) (.bool x.stale) ∈ L := hcell _ (mem_cellsAt.2 ⟨5, _, rfl, rfl⟩)
  have hif : ∀ c : Bool, (x.closed || x.stale) = c → vi (usedN (r.hs.take (k + 1)) : Nat) = vi (((usedN (r.hs.take k) : Nat) : Int) + if c then 0 else 1) := by
    rintro c rfl
    rw [hu]; split <;> simp
  refine GO ?_
  cases hc : x.closed with
  | true =>
    have e := hif true (by rw [hc]; rfl)
    simp only [if_true, Int.add_zero] at e
    simp only [Bool.not_true]
    refine GO ?_
    exact ⟨k + 1, by show k + 1 ≤ r.hs.length; omega, by omega, by rw [e]; exact SUx, by exact IMx⟩
  | false =>
    simp only [Bool.not_false]
    refine GO ?_
    cases hs : x.stale with
    | true =>
      have e := hif true (by rw [hc, hs]; rfl)
      simp only [if_true, Int.add_zero] at e
      simp only [Bool.not_true]
      refine GO ?_
      exact ⟨k + 1, by show k + 1 ≤ r.hs.length; omega, by omega, by rw [e]; exact SUx, by exact IMx⟩
    | false =>
      have e := hif false (by rw [hc, hs]; rfl)
      simp only [Bool.false_eq_true, if_false] at e
      simp only [Bool.not_false]
      refine GO ?_
      exact ⟨k + 1, by show k + 1 ≤ r.hs.length; omega, by omega, by rw [e]; exact SUx, by exact IMx⟩
theorem qthere_spec (t : Nat) (r : QR) (a : AW) (M : Nat) (hM : M ≤ 1073741823) (h : QRep r a M) (hk : (a.names.map (·.1)).Nodup) (hin : ∀ p ∈ a.names, p.2 < a.files.length) :
    Fun Tryz.prog 122 [ptr0 t] (QMem t r) (fun v Post => v = vi a.names.length ∧ Post = QMem t r) := by
  refine Fun.intro low122 (by simp [n122]) ?_
  obtain ⟨sa, sc, hsv⟩ := h.as.form
  have hrd := h.as.rd
  have hm := h.am
  rw [← h.there hk hin]
  rw [hsv] at hrd
  simp only [QMem, hsv]
  generalize slA (.slice sa r.all.length sc) (r.all.flatMap alEnc) r.asp = L at hrd ⊢
  refine GO ?_
  refine VC.loop (α := Nat) (Γf := fun k => [(0, ptr0 t), (3, vi ((r.all.take k).filter (fun p => decide (p.1 ≠ nilTx))).length), (4, vi k)]) (Hf := fun _ => [cellsAt t 0 [r.cv, .slice sa r.all.length sc, r.wv, r.hv, r.tv, vi r.now, .bool r.dead], slA r.cv (r.choices.flatMap chEnc) r.csp, L, slA r.wv (r.ws.flatMap rwEnc) r.wsp, slA r.hv (r.hs.flatMap rhEnc) r.hsp, slA r.tv (r.told.flatMap deEnc) r.tsp])
    (I := fun k => k ≤ r.all.length) (μ := fun k => r.all.length - k) 0 (Nat.zero_le _) (by exact SUx) (by exact IMx) ?_
  intro k hk
  refine GO ?_
  (first | (apply VC.seq_cond; rfl) | (apply VC.cond; rfl))
  rotate_left
  · intro hge
    have hge : ¬ k < r.all.length := by simpa using hge
    rw [List.take_of_length_le (by omega)]
    refine GO ?_
    exact endQ_mk (.inr rfl) (.tmp (by rfl) .nil) ⟨rfl, rfl⟩ (by exact IMx)
  intro hlt
  have hlt : k < r.all.length := by simpa using hlt
  obtain ⟨x, hx⟩ : ∃ x, r.all[k]? = some x := ⟨r.all[k], List.getElem?_eq_getElem hlt⟩
  have hle := List.length_filter_le (fun p : ByteArray × ByteArray × ByteArray => decide (p.1 ≠ nilTx)) (r.all.take k)
  rw [List.length_take] at hle
  obtain ⟨b, o, c, hve, hcell⟩ := hrd.at_ (enc := alEnc) alEnc_len hx
  simp only [Value.slice.injEq, true_and] at hve
  obtain ⟨rfl, rfl⟩ := hve
  have m0 : Atom.cell b (o + k * 3) (.string x.1) ∈ L := hcell _ (mem_cellsAt.2 ⟨0, _, rfl, rfl⟩)
  refine GO ?_
  by_cases e : x.1 = nilTx
  · have e' : x.1 = ⟨#[]⟩ := e
    simp only [e', decide_true, Bool.not_true]
    have hs : (r.all.take (k + 1)).filter (fun p => decide (p.1 ≠ nilTx)) = (r.all.take k).filter (fun p => decide (p.1 ≠ nilTx)) := by
      rw [List.take_add_one, hx, Option.toList_some, List.filter_append]; simp [e]
    refine GO ?_
    exact ⟨k + 1, by show k + 1 ≤ r.all.length; omega, by omega, by rw [hs]; exact SUx, by exact IMx⟩
  · have e' : ¬ x.1 = ⟨#[]⟩ := e
    simp only [e', decide_false, Bool.not_false]
    have hs : vi (((r.all.take (k + 1)).filter (fun p => decide (p.1 ≠ nilTx))).length : Nat) = vi ((((r.all.take k).filter (fun p => decide (p.1 ≠ nilTx))).length : Nat) + 1) := by
      rw [List.take_add_one, hx, Option.toList_some, List.filter_append]; simp [e]
    refine GO ?_
    exact ⟨k + 1, by show k + 1 ≤ r.all.length; omega, by omega, by rw [hs]; exact SUx, by exact IMx⟩
theorem qfind_spec (t : Nat) (r : QR) (a : AW) (M : Nat) (hM : M ≤ 1073741823) (h : QRep r a M) (hin : ∀ p ∈ a.names, p.2 < a.files.length) (s : ByteArray) :
    Fun Tryz.prog 31 [ptr0 t, .string s] (QMem t r) (fun v Post => v = vi (findE a.names s) ∧ Post = QMem t r) := by
  refine Fun.intro low31 (by simp [n31]) ?_
  obtain ⟨sa, sc, hsv⟩ := h.as.form
  have hrd := h.as.rd
  have hm := h.am
  rw [hsv] at hrd
  simp only [QMem, hsv]
  generalize slA (.slice sa r.all.length sc) (r.all.flatMap alEnc) r.asp = L at hrd ⊢
  refine GO ?_
  refine VC.loop (α := Nat) (Γf := fun k => [(0, ptr0 t), (1, .string s), (5, vi k)]) (Hf := fun _ => [cellsAt t 0 [r.cv, .slice sa r.all.length sc, r.wv, r.hv, r.tv, vi r.now, .bool r.dead], slA r.cv (r.choices.flatMap chEnc) r.csp, L, slA r.wv (r.ws.flatMap rwEnc) r.wsp, slA r.hv (r.hs.flatMap rhEnc) r.hsp, slA r.tv (r.told.flatMap deEnc) r.tsp])
    (I := fun k => k ≤ r.all.length ∧ ∀ j p, j < k → r.all[j]? = some p → ¬ (p.1 = s ∧ s ≠ nilTx)) (μ := fun k => r.all.length - k) 0 ⟨Nat.zero_le _, fun j p h => by omega⟩ (by exact SUx) (by exact IMx) ?_
  intro k ⟨hk, hno⟩
  refine GO ?_
  (first | (apply VC.seq_cond; rfl) | (apply VC.cond; rfl))
  rotate_left
  · intro hge
    have hge : ¬ k < r.all.length := by simpa using hge
    have hf : findE a.names s = -1 := by
      unfold findE
      cases hg : mget s a.names with
      | none => rfl
      | some i =>
        obtain ⟨p, hp, hpn⟩ := h.at_name hg (hin _ (mget_mem hg))
        exact absurd ⟨hpn, by rintro rfl; rw [h.nil_name] at hg; cases hg⟩ (hno i p (by have := (List.getElem?_eq_some_iff.1 hp).1; omega) hp)
    refine GO ?_
    exact endQ_mk (.inr rfl) (.tmp (by rfl) .nil) ⟨by rw [hf]; rfl, rfl⟩ (by exact IMx)
  intro hlt
  have hlt : k < r.all.length := by simpa using hlt
  obtain ⟨x, hx⟩ : ∃ x, r.all[k]? = some x := ⟨r.all[k], List.getElem?_eq_getElem hlt⟩
  obtain ⟨b, o, c, hve, hcell⟩ := hrd.at_ (enc := alEnc) alEnc_len hx
  simp only [Value.slice.injEq, true_and] at hve
  obtain ⟨rfl, rfl⟩ := hve
  have m0 : Atom.cell b (o + k * 3) (.string x.1) ∈ L := hcell _ (mem_cellsAt.2 ⟨0, _, rfl, rfl⟩)
  have next : ¬ (x.1 = s ∧ s ≠ nilTx) → ∀ j p, j < k + 1 → r.all[j]? = some p → ¬ (p.1 = s ∧ s ≠ nilTx) := by
    intro hn j p hj hp
    by_cases e : j = k
    · subst e; rw [hx] at hp; cases hp; exact hn
    · exact hno j p (by omega) hp
  refine GO ?_
  by_cases e : x.1 = s
  · simp only [e, decide_true]
    refine GO ?_
    by_cases e2 : s = nilTx
    · have e3 : s = ⟨#[]⟩ := e2
      have hn := next (fun hh => hh.2 e2)
      rw [e3] at hn
      simp only [e3, decide_true, Bool.not_true]
      refine GO ?_
      exact ⟨k + 1, ⟨by show k + 1 ≤ r.all.length; omega, hn⟩, by omega, by rw [← e3]; exact SUx, by exact IMx⟩
    · have e3 : ¬ s = ⟨#[]⟩ := e2
      simp only [e3, decide_false, Bool.not_false]
      refine GO ?_
      have hf : findE a.names s = k := by
        unfold findE
        rw [(h.names k x hx s e2).2 e]
      exact endQ_mk (.inr rfl) (.tmp (by rfl) .nil) ⟨by rw [hf]; rfl, rfl⟩ (by exact IMx)
  · simp only [e, decide_false]
    refine GO ?_
    exact ⟨k + 1, ⟨by show k + 1 ≤ r.all.length; omega, next (fun hh => e hh.1)⟩, by omega, by exact SUx, by exact IMx⟩
theorem qheld_spec (t : Nat) (r : QR) (a : AW) (M : Nat) (hM : M ≤ 1073741823) (h : QRep r a M) (n : Int) (host : Bool) :
    Fun Tryz.prog 100 [ptr0 t, vi n, .bool host] (QMem t r) (fun v Post => v = vi (heldE a.hs n host) ∧ Post = QMem t r) := by
  refine Fun.intro low100 (by simp [n100]) ?_
  obtain ⟨sa, sc, hsv⟩ := h.hsl.form
  have hrd := h.hsl.rd
  have hm := h.hm
  rw [← h.heldR]
  rw [hsv] at hrd
  simp only [QMem, hsv]
  generalize slA (.slice sa r.hs.length sc) (r.hs.flatMap rhEnc) r.hsp = L at hrd ⊢
  refine GO ?_
  by_cases h1 : n < 1
  · have he : heldE r.hs n host = 30 := by unfold heldE; rw [if_neg (by omega)]
    simp only [h1, decide_true, he]
    refine GO ?_
    exact endQ_mk (.inr rfl) (.tmp (by rfl) .nil) ⟨rfl, rfl⟩ (by exact IMx)
  simp only [h1, decide_false]
  refine GO ?_
  by_cases h2 : n > r.hs.length
  · have he : heldE r.hs n host = 30 := by unfold heldE; rw [if_pos (by omega), List.getElem?_eq_none (by omega)]
    simp only [h2, decide_true, he]
    refine GO ?_
    exact endQ_mk (.inr rfl) (.tmp (by rfl) .nil) ⟨rfl, rfl⟩ (by exact IMx)
  simp only [h2, decide_false]
  refine GO ?_
  have hx : r.hs[(n - 1).toNat]? = some (r.hs[(n - 1).toNat]'(by omega)) := List.getElem?_eq_getElem (by omega)
  generalize r.hs[(n - 1).toNat]'(by omega) = x at hx
  obtain ⟨b, o, c, hve, hcell⟩ := hrd.at_ (enc := rhEnc) rhEnc_len hx
  simp only [Value.slice.injEq, true_and] at hve
  obtain ⟨rfl, rfl⟩ := hve
  have m1 : Atom.cell b (o + (n - 1).toNat * 6 + 1) (.bool x.file.isNone) ∈ L := hcell _ (mem_cellsAt.2 ⟨1, _, rfl, rfl⟩)
  have m4 : Atom.cell b (o + (n - 1).toNat * 6 + 4) (.bool x.closed) ∈ L := hcell _ (mem_cellsAt.2 ⟨4, _, rfl, rfl⟩)
  have m5 : Atom.cell b (o + (n - 1).toNat * 6 + 5) (.bool x.stale) ∈ L := hcell _ (mem_cellsAt.2 ⟨5, _, rfl, rfl⟩)
  have hH : heldE r.hs n host = if x.closed then 30 else if x.file.isNone != host then 30 else if x.stale then 31 else 0 := by
    unfold heldE; rw [if_pos (by omega), hx]
  rw [hH]
  refine GO ?_
  cases hc : x.closed with
  | true =>
    refine GO ?_
    exact endQ_mk (.inr rfl) (.tmp (by rfl) .nil) ⟨rfl, rfl⟩ (by exact IMx)
  | false =>
    refine GO ?_
    simp only [Bool.false_eq_true, if_false]
    cases hb : (x.file.isNone == host) with
    | false =>
      simp only [bne, hb, Bool.not_false, if_true]
      refine GO ?_
      exact endQ_mk (.inr rfl) (.tmp (by rfl) .nil) ⟨rfl, rfl⟩ (by exact IMx)
    | true =>
      simp only [bne, hb, Bool.not_true, Bool.false_eq_true, if_false]
      refine GO ?_
      cases hs : x.stale with
      | true =>
        refine GO ?_
        exact endQ_mk (.inr rfl) (.tmp (by rfl) .nil) ⟨rfl, rfl⟩ (by exact IMx)
      | false =>
        refine GO ?_
        exact endQ_mk (.inr rfl) (.tmp (by rfl) .nil) ⟨rfl, rfl⟩ (by exact IMx)
end Go.Proofs.YtgindbomnbojeaaGreat
namespace Go.V
open Go
theorem ftxt_extract (l : List UInt8) (i j : Nat) : (ftxt l).extract i j = ftxt ((l.drop i).take (j - i)) := by
  unfold ftxt
  apply ByteArray.ext
  rw [ByteArray.data_extract, List.extract_toArray, List.extract_eq_take_drop]
theorem tx_ftxt (s : ByteArray) : ftxt s.data.toList = s := by unfold ftxt; simp
end Go.V
namespace Go.Proofs.YtgindbomnbojeaaGreat
open Go Go.V
set_option maxHeartbeats 6400000
set_option maxRecDepth 100000
theorem qdone_spec (l : List UInt8) (j : Nat) (x : Wr) (hl : l.length ≤ 4194304) (hx : 0 ≤ x.at_ ∧ x.at_ + x.text.size ≤ 4194304) :
    Fun Tryz.prog 65 [.string (ftxt l), .agg (rwEnc (j, x)).toArray] [] (fun v Post => v = .string (ftxt (onL x l)) ∧ Post = []) := by
  refine Fun.intro low65 (by simp [n65]) ?_
  refine VC.seq_reg ?_
  refine st_box (by rfl) (fun p => ?_)
  simp only [Value.cells, rwEnc]
  refine GO ?_
  cases he : x.empty with
  | true =>
    have ho : onL x l = [] := by simp [onL, he]
    rw [ho]
    refine GO ?_
    exact endQ_mk (Post := []) (.inr rfl) (.tmp (by rfl) .nil) ⟨rfl, rfl⟩ Imp.nil
  | false =>
    have ho := onL_pad (l := l) he
    obtain ⟨k, hk⟩ := Int.eq_ofNat_of_zero_le hx.1
    rw [hk, Int.toNat_natCast] at ho
    rw [hk] at hx ⊢
    rw [ho]
    refine GO ?_
    refine VC.loop (α := Nat) (Γf := fun m => [(0, .string (ftxt (l ++ List.replicate m 0))), (3, ptr0 p)]) (Hf := fun _ => [cellsAt p 0 [vi j, vi k, .string x.text, .bool false]]) (I := fun m => m ≤ k - l.length) (μ := fun m => k - l.length - m) 0 (Nat.zero_le _) (by simp only [List.replicate_zero, List.append_nil]; exact SUx) (by exact IMx) ?_
    intro m hm
    refine GO ?_
    simp only [ftxt_size, List.length_append, List.length_replicate]
    (first | (apply VC.seq_cond; rfl) | (apply VC.cond; rfl))
    · intro hlt
      have hlt : l.length + m < k := by have := of_decide_eq_true hlt; omega
      refine GO ?_
      refine st_cat (by rfl) (by rfl) (by rw [ftxt_size]; have e : (ByteArray.mk #[0]).size = 1 := rfl; simp; omega) ?_
      refine GO ?_
      have e1 : ftxt (l ++ List.replicate m 0) ++ ⟨#[0]⟩ = ftxt (l ++ List.replicate (m + 1) 0) := by
        rw [show (⟨#[0]⟩ : ByteArray) = ftxt [0] from rfl, ftxt_append, List.append_assoc, List.replicate_succ']
      exact ⟨m + 1, by show m + 1 ≤ k - l.length; omega, by show k - l.length - (m + 1) < k - l.length - m; omega, by rw [← e1]; exact SUx, by exact IMx⟩
    intro hge
    have hge : ¬ l.length + m < k := by have := of_decide_eq_false hge; omega
    obtain rfl : m = k - l.length := by omega
    generalize hq : l ++ List.replicate (k - l.length) 0 = q
    have hql : q.length = max l.length k := by rw [← hq]; simp; omega
    refine GO ?_
    simp only [ftxt_size]
    refine VC.joinT (α := Unit) (fun _ => [(0, .string (ftxt q)), (3, ptr0 p), (5, .string (ftxt (q.drop (k + x.text.size))))]) (fun _ => [cellsAt p 0 [vi j, vi k, .string x.text, .bool false]]) (fun _ => True) ?_ ?_
    · by_cases hgt : k + x.text.size < q.length
      · simp only [show ((q.length : Nat) : Int) > (k : Int) + (x.text.size : Int) by omega, decide_true]
        refine GO ?_
        refine st_slcS (l := k + x.text.size) (h := (ftxt q).size) (by rfl) (.num (by simp only [Int.natCast_add]; rfl)) .dft ⟨by rw [ftxt_size]; omega, Nat.le_refl _⟩ ?_
        rw [ftxt_extract, ftxt_size, List.take_of_length_le (by simp)]
        refine GO ?_
        exact ⟨(), trivial, by exact SUx, by exact IMx⟩
      · simp only [show ¬ ((q.length : Nat) : Int) > (k : Int) + (x.text.size : Int) by omega, decide_false]
        refine GO ?_
        exact ⟨(), trivial, by rw [List.drop_of_length_le (by omega)]; exact SUx, by exact IMx⟩
    intro _ _
    refine GO ?_
    refine st_slcS (l := 0) (h := k) (by rfl) .dft (.num (by rfl)) ⟨by omega, by rw [ftxt_size]; omega⟩ ?_
    rw [ftxt_extract, List.drop_zero, Nat.sub_zero]
    refine GO ?_
    refine st_cat (by rfl) (by rfl) (by rw [ftxt_size]; simp; omega) ?_
    refine GO ?_
    have e1 : ftxt (q.take k) ++ x.text = ftxt (q.take k ++ x.text.data.toList) := by rw [← ftxt_append, tx_ftxt]
    rw [e1]
    refine st_cat (by rfl) (by rfl) (by rw [ftxt_size, ftxt_size]; simp; omega) ?_
    rw [ftxt_append]
    refine GO ?_
    exact endQ_mk (Post := []) (.inr rfl) (.tmp (by rfl) .nil) ⟨rfl, rfl⟩ Imp.nil
end Go.Proofs.YtgindbomnbojeaaGreat
namespace Go.V
open Go
theorem Spl.leftQ {A : List Atom} {I : SH} : Spl (I ++ [A]) I [A] := by simp only [Spl, List.flatten_append]; exact .refl _
theorem deedA_dead {a : AW} {d : De} {f : AW → Ch → Int × De × AW} (hl : liveA a = false) : deedA a d f = (noDe, 36, takeA a) := by simp [deedA, hl]
theorem deedA_live {a : AW} {d : De} {f : AW → Ch → Int × De × AW} (hl : liveA a = true) : deedA a d f = ((if (f (takeA a) (chA a)).1 = 0 then (f (takeA a) (chA a)).2.1 else { d with err := (f (takeA a) (chA a)).1 }), (if (f (takeA a) (chA a)).1 = 0 then (f (takeA a) (chA a)).2.1 else { d with err := (f (takeA a) (chA a)).1 }).err, { (f (takeA a) (chA a)).2.2 with trace := (f (takeA a) (chA a)).2.2.trace ++ [if (f (takeA a) (chA a)).1 = 0 then (f (takeA a) (chA a)).2.1 else { d with err := (f (takeA a) (chA a)).1 }] }) := by simp [deedA, hl]
end Go.V
namespace Go.Proofs.YtgindbomnbojeaaGreat
open Go Go.V
set_option maxHeartbeats 6400000
set_option maxRecDepth 100000
theorem qshow_spec (t : Nat) (r : QR) (a : AW) (M : Nat) (hM : M + 1 ≤ 1073741823) (h : QRep r a M) (s : ByteArray) :
    Fun Tryz.prog 53 [ptr0 t, .string s] (QMem t r) (fun v Post => ∃ r', QRep r' (showM s a).2.2 (M + 1) ∧ v = vi (showM s a).2.1 ∧ Post = QMem t r') := by
  refine Fun.intro low53 (by simp [n53]) ?_
  refine GO ?_
  refine st_call (qtake_spec t r a M h) (by rfl) (by simp only [QMem]; exact SPx) (fun v Post hv => ?_)
  obtain ⟨r1, h1, rfl, rfl⟩ := hv
  simp only [chEnc, List.append_nil]
  refine GO ?_
  refine st_alloc (fun p => ?_)
  refine GO ?_
  cases hl : liveA a with
  | false =>
    have hd : showM s a = (noDe, 36, takeA a) := deedA_dead hl
    rw [hd]
    refine GO ?_
    exact endQ_mk (.inr rfl) (.tmp (by rfl) .nil) ⟨r1, h1.mono (Nat.le_succ M), rfl, rfl⟩ Imp.tail1
  | true =>
    have hd : showM s a = (deShow s, 0, { takeA a with trace := (takeA a).trace ++ [deShow s] }) := deedA_live hl
    rw [hd]
    refine GO ?_
    refine st_call (qtell_spec t r1 (takeA a) M (by omega) h1 (deShow s)) (by rfl) Spl.tail1 (fun v Post hv => ?_)
    obtain ⟨rfl, r2, h2, rfl⟩ := hv
    refine GO ?_
    exact endQ_mk (.inr rfl) (.tmp (by rfl) .nil) ⟨r2, h2, rfl, rfl⟩ Imp.left
theorem qquit_spec (t : Nat) (r : QR) (a : AW) (M : Nat) (hM : M + 1 ≤ 1073741823) (h : QRep r a M) (k : Int) :
    Fun Tryz.prog 55 [ptr0 t, vi k] (QMem t r) (fun v Post => ∃ r', QRep r' (quitM k a).2.2 (M + 1) ∧ v = vi (quitM k a).2.1 ∧ Post = QMem t r') := by
  refine Fun.intro low55 (by simp [n55]) ?_
  refine GO ?_
  refine st_call (qtake_spec t r a M h) (by rfl) (by simp only [QMem]; exact SPx) (fun v Post hv => ?_)
  obtain ⟨r1, h1, rfl, rfl⟩ := hv
  simp only [chEnc, List.append_nil]
  refine GO ?_
  refine st_alloc (fun p => ?_)
  refine GO ?_
  cases hl : liveA a with
  | false =>
    have hd : quitM k a = (noDe, 36, takeA a) := deedA_dead hl
    rw [hd]
    refine GO ?_
    exact endQ_mk (.inr rfl) (.tmp (by rfl) .nil) ⟨r1, h1.mono (Nat.le_succ M), rfl, rfl⟩ Imp.tail1
  | true =>
    have hd : quitM k a = (deQuit k, 0, { takeA a with trace := (takeA a).trace ++ [deQuit k] }) := deedA_live hl
    rw [hd]
    refine GO ?_
    refine st_call (qtell_spec t r1 (takeA a) M (by omega) h1 (deQuit k)) (by rfl) Spl.tail1 (fun v Post hv => ?_)
    obtain ⟨rfl, r2, h2, rfl⟩ := hv
    refine GO ?_
    exact endQ_mk (.inr rfl) (.tmp (by rfl) .nil) ⟨r2, h2, rfl, rfl⟩ Imp.left
theorem qsend_spec (t : Nat) (r : QR) (a : AW) (M : Nat) (hM : M + 1 ≤ 1073741823) (h : QRep r a M) (n : Int) (s : ByteArray) :
    Fun Tryz.prog 50 [ptr0 t, vi n, .string s] (QMem t r) (fun v Post => ∃ r', QRep r' (sendM n s a).2.2 (M + 1) ∧ v = vi (sendM n s a).2.1 ∧ Post = QMem t r') := by
  refine Fun.intro low50 (by simp [n50]) ?_
  refine GO ?_
  refine st_call (qtake_spec t r a M h) (by rfl) (by simp only [QMem]; exact SPx) (fun v Post hv => ?_)
  obtain ⟨r1, h1, rfl, rfl⟩ := hv
  simp only [chEnc, List.append_nil]
  refine GO ?_
  refine st_alloc (fun p => ?_)
  refine GO ?_
  cases hl : liveA a with
  | false =>
    have hd : sendM n s a = (noDe, 36, takeA a) := deedA_dead hl
    rw [hd]
    refine GO ?_
    exact endQ_mk (.inr rfl) (.tmp (by rfl) .nil) ⟨r1, h1.mono (Nat.le_succ M), rfl, rfl⟩ Imp.tail1
  | true =>
    have hd : sendM n s a = ({ deSend n s with err := heldE (takeA a).hs n true }, heldE (takeA a).hs n true, { takeA a with trace := (takeA a).trace ++ [{ deSend n s with err := heldE (takeA a).hs n true }] }) := by
      unfold sendM
      rw [deedA_live hl]
      simp only [sendF]
      by_cases e : heldE (takeA a).hs n true = 0
      · simp only [e, if_true]; rfl
      · simp only [e, if_false]
    rw [hd]
    refine GO ?_
    refine st_call (qheld_spec t r1 (takeA a) M (by omega) h1 n true) (by rfl) Spl.tail1 (fun v Post hv => ?_)
    obtain ⟨rfl, rfl⟩ := hv
    refine GO ?_
    refine st_call (qtell_spec t r1 (takeA a) M (by omega) h1 { deSend n s with err := heldE (takeA a).hs n true }) (by rfl) Spl.leftQ (fun v Post hv => ?_)
    obtain ⟨rfl, r2, h2, rfl⟩ := hv
    refine GO ?_
    exact endQ_mk (.inr rfl) (.tmp (by rfl) .nil) ⟨r2, h2, rfl, rfl⟩ Imp.left
end Go.Proofs.YtgindbomnbojeaaGreat

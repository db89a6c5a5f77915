/-
  The document's table: contracts of what only reads.
-/
import Derived.Test.YtffmipimgodfdaaDV
import Derived.Test.YtffmipimgodfdaaF0
import Derived.Test.YtffmipimgodfdaaD1
set_option linter.unusedSimpArgs false
set_option linter.unusedVariables false
namespace Go.Proofs.Ytffmipimgodfdaa
open Go Go.V
set_option maxHeartbeats 6400000
set_option maxRecDepth 100000
set_option linter.unusedSimpArgs false
set_option linter.unusedVariables false
theorem ris_spec (t : Nat) (r : RTab) (h : ROk r) (c : Int) : Fun Try.prog 53 [ptr0 t, vi c] (RMem t r) (fun v Post => v = .bool (decide (0 ≤ c ∧ c < r.sup.length)) ∧ Post = RMem t r) := by
  refine Fun.intro low53 (by simp [F53]) ?_
  obtain ⟨sa, sc, hsv⟩ := h.sup.form
  simp only [RMem, hsv]
  refine GO ?_
  by_cases h0 : 0 ≤ c
  · simp only [show c ≥ 0 from h0, decide_true]
    refine GO ?_
    refine endQ_mk (.inr rfl) (.tmp (by rfl) .nil) ⟨?_, rfl⟩ (Imp.refl _)
    simp [h0]; rfl
  · simp only [show ¬ c ≥ 0 from h0, decide_false]
    refine GO ?_
    refine endQ_mk (.inr rfl) (.tmp (by rfl) .nil) ⟨?_, rfl⟩ (Imp.refl _)
    simp [h0]; rfl

theorem rfind_spec (t : Nat) (r : RTab) (h : ROk r) (c : Int) (hc : 0 ≤ c ∧ c < r.sup.length) (s : ByteArray) : Fun Try.prog 54 [ptr0 t, vi c, .string s] (RMem t r) (fun v Post => v = vi (findZ (r.dt.dic c) s) ∧ Post = RMem t r) := by
  refine Fun.intro low54 (by simp [F54]) ?_
  obtain ⟨d, hd, hdm, hdi⟩ := h.dic hc
  obtain ⟨k, rfl⟩ := Int.eq_ofNat_of_zero_le hc.1
  rw [hdm]
  have hdd := h.dd d hdi
  have hdn := h.dn d hdi
  obtain ⟨da, dc, hdv⟩ := hdd.form
  have rd := h.dv.rd
  obtain ⟨va, vc, hvv⟩ := h.dv.form
  simp only [RMem, hvv]
  rw [hvv] at rd
  obtain ⟨b, o, c2, hve, m1⟩ := (show RdRow 1 _ (.slice va r.dds.length vc) r.dds.length (r.dds.map fun q => q.v) from rd).cell hd
  simp only [Value.slice.injEq, true_and] at hve
  obtain ⟨rfl, rfl⟩ := hve
  rw [hdv] at m1
  have rdd : RdRow 2 (r.dds.flatMap dicA) d.v d.m.length (d.m.flatMap entEnc) := hdd.rd.mono (fun a ha => List.mem_flatMap.2 ⟨d, hdi, ha⟩)
  rw [hdv] at rdd
  generalize slA (.slice (some ⟨b, o, none⟩) r.dds.length vc) (r.dds.map (·.v)) r.dsp = L at m1 ⊢
  generalize r.dds.flatMap dicA = X at rdd ⊢
  have hk : (k : Int).toNat = k := by simp
  rw [hk] at m1
  have hkl : k < r.dds.length := by have := h.len; omega
  refine GO ?_
  refine VC.loop (α := Nat) (Γf := fun i => [(0, ptr0 t), (1, vi k), (2, .string s), (7, vi i)]) (Hf := fun _ => [cellsAt t 0 [r.sv, .slice (some ⟨b, o, none⟩) r.dds.length vc], cellsAt t 2 (r.glob.flatMap kEnc), cellsAt t 194 [r.xv], cellsAt t 195 (telEnc r.tel), slA r.sv (r.sup.map vi) r.ssp, L, X, slA r.xv (r.sites.flatMap sitEnc) r.xsp, r.sites.flatMap sitA]) (I := fun i => i ≤ d.m.length ∧ ∀ (j : Nat) p, j < i → d.m[j]? = some p → p.1 ≠ s) (μ := fun i => d.m.length - i) 0 ⟨Nat.zero_le _, fun j p h => by omega⟩ (by (repeat (first | exact Sub.nil | (apply Sub.cons; rfl)))) (by (first | with_reducible exact Imp.refl | with_reducible exact Imp.left | (focus ((try simp only [List.nil_append]); (repeat (first | exact Imp.nil | (apply Imp.cons; (focus ((repeat (first | with_reducible exact Tk.here | apply Tk.there)); done))))); done)))) ?_
  intro i ⟨hi, hno⟩
  refine GO ?_
  (first | (apply VC.seq_cond; rfl) | (apply VC.cond; rfl))
  rotate_left
  · intro hge
    have hge : ¬ i < d.m.length := by simpa using hge
    refine GO ?_
    exact endQ_mk (.inr rfl) (.tmp (by rfl) .nil) ⟨by rw [findZ_none (fun j p hj => hno j p (by have := (List.getElem?_eq_some_iff.1 hj).1; omega) hj)]; rfl, rfl⟩ (by (first | with_reducible exact Imp.refl | with_reducible exact Imp.left | (focus ((try simp only [List.nil_append]); (repeat (first | exact Imp.nil | (apply Imp.cons; (focus ((repeat (first | with_reducible exact Tk.here | apply Tk.there)); done))))); done))))
  intro hlt
  have hlt : i < d.m.length := by simpa using hlt
  obtain ⟨p, hp⟩ : ∃ p, d.m[i]? = some p := ⟨d.m[i], List.getElem?_eq_getElem hlt⟩
  obtain ⟨b3, o3, c3, hve3, m3⟩ := rdd.at_ (enc := entEnc) (fun p => rfl) hp
  simp only [Value.slice.injEq, true_and] at hve3
  obtain ⟨rfl, rfl⟩ := hve3
  have m4 : Atom.cell b3 (o3 + i * 2) (.string p.1) ∈ X := m3 _ (mem_cellsAt.2 ⟨0, _, rfl, rfl⟩)
  refine GO ?_
  by_cases e : p.1 = s
  · simp only [decide_eq_true e]
    refine GO ?_
    exact endQ_mk (.inr rfl) (.tmp (by rfl) .nil) ⟨by rw [findZ_some hp e hno]; rfl, rfl⟩ (by (first | with_reducible exact Imp.refl | with_reducible exact Imp.left | (focus ((try simp only [List.nil_append]); (repeat (first | exact Imp.nil | (apply Imp.cons; (focus ((repeat (first | with_reducible exact Tk.here | apply Tk.there)); done))))); done))))
  · simp only [decide_eq_false e]
    refine GO ?_
    refine ⟨i + 1, ⟨by omega, fun j q hj hq => ?_⟩, by omega, by (repeat (first | exact Sub.nil | (apply Sub.cons; rfl))), by (first | with_reducible exact Imp.refl | with_reducible exact Imp.left | (focus ((try simp only [List.nil_append]); (repeat (first | exact Imp.nil | (apply Imp.cons; (focus ((repeat (first | with_reducible exact Tk.here | apply Tk.there)); done))))); done)))⟩
    by_cases hji : j < i
    · exact hno j q hji hq
    · obtain rfl : j = i := by omega
      rw [hp] at hq; cases hq; exact e
end Go.Proofs.Ytffmipimgodfdaa
namespace Go.V
open Go
theorem up_low {D : DT} (low : ∀ (i : Nat) s, D.sup[i]? = some s → -1 ≤ s ∧ s < i) {c : Int} (hc : 0 ≤ c ∧ c < D.sup.length) : -1 ≤ D.up c ∧ D.up c < c := by
  obtain ⟨k, rfl⟩ := Int.eq_ofNat_of_zero_le hc.1
  have hk : k < D.sup.length := by omega
  have := low k D.sup[k] (List.getElem?_eq_getElem hk)
  have e : D.up (k : Int) = D.sup[k] := by simp [DT.up, hk]
  rw [e]; exact this
theorem plainG_fuel {D : DT} (low : ∀ (i : Nat) s, D.sup[i]? = some s → -1 ≤ s ∧ s < i) (s : ByteArray) : ∀ f g (c : Int), c < D.sup.length → (c + 1).toNat ≤ f → (c + 1).toNat ≤ g → plainG D s f c = plainG D s g c := by
  intro f
  induction f with
  | zero =>
    intro g c h1 h2 h3
    have : c < 0 := by omega
    cases g with
    | zero => rfl
    | succ g => simp [plainG, this]
  | succ f ih =>
    intro g c h1 h2 h3
    by_cases hn : c < 0
    · cases g with
      | zero => simp [plainG, hn]
      | succ g => simp [plainG, hn]
    · obtain ⟨g, rfl⟩ : ∃ g', g = g' + 1 := ⟨g - 1, by omega⟩
      have hu := up_low low (c := c) ⟨by omega, h1⟩
      simp only [plainG, if_neg hn]
      rw [ih g (D.up c) (by omega) (by omega) (by omega)]
theorem plainD_step {D : DT} (low : ∀ (i : Nat) s, D.sup[i]? = some s → -1 ≤ s ∧ s < i) (s : ByteArray) {c : Int} (hc : 0 ≤ c ∧ c < D.sup.length) :
    plainD D c s = match mget s (D.dic c) with | some m => (some m, 1) | none => ((plainD D (D.up c) s).1, (plainD D (D.up c) s).2 + 1) := by
  have hu := up_low low hc
  unfold plainD
  obtain ⟨f, hf⟩ : ∃ f, (c + 1).toNat = f + 1 := ⟨c.toNat, by omega⟩
  rw [hf]
  simp only [plainG]
  rw [if_neg (by omega), plainG_fuel low s f (D.up c + 1).toNat (D.up c) (by omega) (by omega) (Nat.le_refl _)]
  rfl
theorem plainD_neg {D : DT} {c : Int} (s : ByteArray) (hc : c < 0) : plainD D c s = (none, 0) := by
  unfold plainD
  cases (c + 1).toNat <;> simp [plainG, hc]
theorem plainG_steps (D : DT) (s : ByteArray) : ∀ f c, (plainG D s f c).2 ≤ f := by
  intro f
  induction f with
  | zero => intro c; simp [plainG]
  | succ f ih =>
    intro c
    simp only [plainG]
    split
    · simp
    · split
      · simp
      · have := ih (D.up c); simp only; omega
end Go.V
namespace Go.Proofs.Ytffmipimgodfdaa
open Go Go.V
set_option maxHeartbeats 6400000
set_option maxRecDepth 100000
set_option linter.unusedSimpArgs false
set_option linter.unusedVariables false
theorem rplace_spec (c : Int) (s : ByteArray) (hc : 0 ≤ c ∧ c < 4096) (hs : s.size ≤ 1048576) : Fun Try.prog 66 [vi c, .string s] [] (fun v Post => v = vi (placeN c s) ∧ Post = []) := by
  refine Fun.intro low66 (by simp [F66]) ?_
  refine GO ?_
  refine VC.loop (α := Nat) (Γf := fun k => [(1, .string s), (5, vi (31 * c + s.size + psum s k)), (6, vi k)]) (Hf := fun _ => [])
    (I := fun k => k ≤ s.size) (μ := fun k => s.size - k) 0 (by omega) ?_ (by (first | with_reducible exact Imp.refl | with_reducible exact Imp.left | (focus ((try simp only [List.nil_append]); (repeat (first | exact Imp.nil | (apply Imp.cons; (focus ((repeat (first | with_reducible exact Tk.here | apply Tk.there)); done))))); done)))) (fun k hk => ?_)
  · refine Sub.cons (by rfl) (Sub.cons ?_ (Sub.cons (by rfl) Sub.nil))
    simp [V.look, psum]
  have hp := psum_le s k (by omega)
  refine GO ?_
  refine VC.cond (by rfl) (fun h => ?_) (fun h => ?_)
  · have hlt : k < s.size := by simpa using h
    have hp1 := psum_le s (k + 1) (by omega)
    have hb := (s[k]).toNat_lt
    have hst : psum s (k + 1) = psum s k + (s[k]).toNat * (k + 1) := by simp [psum, hlt]
    have hm : ((s[k]).toNat : Int) * ((k : Int) + 1) = ((s[k]).toNat * (k + 1) : Nat) := by simp
    have hm2 : (s[k]).toNat * (k + 1) ≤ 255 * 1048576 := Nat.mul_le_mul (by omega) (by omega)
    refine GO ?_
    refine st_idxS (by rfl) (by rfl) (j := k) (by rfl) (c := s[k]) (by simp [hlt]) ?_
    refine st_conv (b := ((s[k]).toNat : Int)) (by rfl) (by simp [IntKind.wrap, IntKind.bits, IntKind.signed]; omega) ?_
    refine GO ?_
    refine ⟨k + 1, by omega, by omega, ?_, by (first | with_reducible exact Imp.refl | with_reducible exact Imp.left | (focus ((try simp only [List.nil_append]); (repeat (first | exact Imp.nil | (apply Imp.cons; (focus ((repeat (first | with_reducible exact Tk.here | apply Tk.there)); done))))); done)))⟩
    rw [hst]
    refine Sub.cons (by rfl) (Sub.cons ?_ (Sub.cons (by rfl) Sub.nil))
    simp [V.look]; omega
  · have hge : ¬ k < s.size := by simpa using h
    obtain rfl : k = s.size := by omega
    refine GO ?_
    refine ⟨.inr rfl, _, _, .tmp (by rfl) .nil, by (first | with_reducible exact Imp.refl | with_reducible exact Imp.left | (focus ((try simp only [List.nil_append]); (repeat (first | exact Imp.nil | (apply Imp.cons; (focus ((repeat (first | with_reducible exact Tk.here | apply Tk.there)); done))))); done))), ?_, rfl⟩
    simp only [tup, placeN]
    rw [Int.tmod_eq_emod_of_nonneg (by omega)]
    congr 1
    omega

theorem rplain_spec (t : Nat) (r : RTab) (h : ROk r) (c : Int) (hc : 0 ≤ c ∧ c < r.sup.length) (s : ByteArray) :
    Fun Try.prog 67 [ptr0 t, vi c, .string s] (RMem t r) (fun v Post => v = .tuple #[vi ((plainD r.dt c s).1.getD 0), .bool (plainD r.dt c s).1.isSome, vi (plainD r.dt c s).2] ∧ Post = RMem t r) := by
  refine Fun.intro low67 (by simp [F67]) ?_
  have low := h.low
  simp only [RMem]
  refine GO ?_
  refine VC.loop (α := Int × Nat) (Γf := fun x => [(0, ptr0 t), (1, vi x.1), (2, .string s), (9, vi x.2)]) (Hf := fun _ => RMem t r) (I := fun x => -1 ≤ x.1 ∧ x.1 < r.sup.length ∧ (x.2 : Int) + x.1 ≤ c ∧ plainD r.dt c s = ((plainD r.dt x.1 s).1, (plainD r.dt x.1 s).2 + x.2)) (μ := fun x => (x.1 + 1).toNat) (c, 0) ⟨by omega, hc.2, by simp, rfl⟩ (by (repeat (first | exact Sub.nil | (apply Sub.cons; rfl)))) (Imp.refl _) ?_
  rintro ⟨c', n⟩ ⟨h1, h2, h3, h4⟩
  simp only at h1 h2 h3 h4
  have hsm := h.small
  simp only [RMem]
  refine GO ?_
  by_cases hneg : c' < 0
  · simp only [show ¬ c' ≥ 0 by omega, decide_false]
    refine GO ?_
    rw [plainD_neg s hneg] at h4
    exact endQ_mk (.inr rfl) (.tmp (by rfl) (.tmp (by rfl) (.tmp (by rfl) .nil))) ⟨by rw [h4]; simp; rfl, rfl⟩ (Imp.refl _)
  simp only [show c' ≥ 0 by omega, decide_true]
  obtain ⟨k, rfl⟩ := Int.eq_ofNat_of_zero_le (show 0 ≤ c' by omega)
  refine GO ?_
  refine st_call (rfind_spec t r h (k : Int) ⟨by omega, h2⟩ s) (by rfl) (by simp only [RMem]; (focus ((repeat (first | exact Spl.nil | (apply Spl.cons; (focus ((repeat (first | with_reducible exact Tk.here | apply Tk.there)); done))))); done))) (fun v Post hv => ?_)
  obtain ⟨rfl, rfl⟩ := hv
  have hst := plainD_step (D := r.dt) low s (c := (k : Int)) ⟨by omega, h2⟩
  obtain ⟨d, hd, hdm, hdi⟩ := h.dic (c := (k : Int)) ⟨by omega, h2⟩
  have hk : (k : Int).toNat = k := by simp
  rw [hk] at hd
  rw [hdm] at hst ⊢
  have hdd := h.dd d hdi
  have hdn := h.dn d hdi
  obtain ⟨da, dc, hdv⟩ := hdd.form
  have hkl : k < r.dds.length := by have := h.len; omega
  simp only [RMem, List.cons_append, List.nil_append]
  rcases findZ_mget (m := d.m) (s := s) with ⟨f1, f2⟩ | ⟨i, p, f1, f2, f3, f4⟩
  · rw [f1]
    rw [f2] at hst
    simp only at hst
    obtain ⟨x, hx⟩ : ∃ x, r.sup[k]? = some x := ⟨r.sup[k]'(by omega), List.getElem?_eq_getElem (by omega)⟩
    have hup : r.dt.up (k : Int) = x := by simp [DT.up, RTab.dt, hx]
    have hlw := low k x hx
    obtain ⟨b, o, c2, hve, m1⟩ := (show RdRow 1 _ r.sv r.sup.length (r.sup.map vi) from h.sup.rd).cell hx
    simp only [hve] at m1 ⊢
    have hkl2 : k < r.sup.length := by omega
    refine GO ?_
    refine ⟨(x, n + 1), ⟨by show -1 ≤ x; omega, by show x < r.sup.length; omega, by show ((n + 1 : Nat) : Int) + x ≤ c; omega, ?_⟩, by simp only; omega, by (repeat (first | exact Sub.nil | (apply Sub.cons; rfl))), ?_⟩
    · simp only
      rw [h4, hst, hup]
      simp only [Prod.mk.injEq, true_and]; omega
    · (first | with_reducible exact Imp.refl | with_reducible exact Imp.left | (focus ((try simp only [List.nil_append]); (repeat (first | exact Imp.nil | (apply Imp.cons; (focus ((repeat (first | with_reducible exact Tk.here | apply Tk.there)); done))))); done)))
  · rw [f1]
    rw [f4] at hst
    simp only at hst
    obtain ⟨b, o, c2, hve, m1⟩ := (show RdRow 1 _ r.dv r.dds.length (r.dds.map fun q => q.v) from h.dv.rd).cell hd
    have rdd : RdRow 2 (r.dds.flatMap dicA) d.v d.m.length (d.m.flatMap entEnc) := hdd.rd.mono (fun a ha => List.mem_flatMap.2 ⟨d, hdi, ha⟩)
    obtain ⟨b3, o3, c3, hve3, m3⟩ := rdd.at_ (enc := entEnc) (fun p => rfl) f2
    have m4 : Atom.cell b3 (o3 + i * 2 + 1) (vi p.2) ∈ r.dds.flatMap dicA := m3 _ (mem_cellsAt.2 ⟨1, _, rfl, rfl⟩)
    simp only [hve, hve3] at m1 ⊢
    have hil := (List.getElem?_eq_some_iff.1 f2).1
    refine GO ?_
    exact endQ_mk (.inr rfl) (.tmp (by rfl) (.tmp (by rfl) (.tmp (by rfl) .nil))) ⟨by rw [h4, hst]; simp only [Option.getD_some, Option.isSome_some, show (((1 : Nat) + n : Nat) : Int) = (n : Int) + 1 by omega]; rfl, rfl⟩ (by (first | with_reducible exact Imp.refl | with_reducible exact Imp.left | (focus ((try simp only [List.nil_append]); (repeat (first | exact Imp.nil | (apply Imp.cons; (focus ((repeat (first | with_reducible exact Tk.here | apply Tk.there)); done))))); done))))
end Go.Proofs.Ytffmipimgodfdaa
namespace Go.Proofs.Ytffmipimgodfdaa
open Go Go.V
set_option maxHeartbeats 6400000
set_option maxRecDepth 100000
set_option linter.unusedSimpArgs false
set_option linter.unusedVariables false
theorem rown_spec (t : Nat) (r : RTab) (h : ROk r) (c : Int) (s : ByteArray) : Fun Try.prog 32 [ptr0 t, vi c, .string s] (RMem t r) (fun v Post => v = okM (ownD r.dt c s) ∧ Post = RMem t r) := by
  refine Fun.intro low32 (by simp [F32]) ?_
  simp only [RMem]
  refine GO ?_
  refine st_call (ris_spec t r h c) (by rfl) (by simp only [RMem]; (focus ((repeat (first | exact Spl.nil | (apply Spl.cons; (focus ((repeat (first | with_reducible exact Tk.here | apply Tk.there)); done))))); done))) (fun v Post hv => ?_)
  obtain ⟨rfl, rfl⟩ := hv
  simp only [RMem, List.cons_append, List.nil_append]
  by_cases hc : 0 ≤ c ∧ c < r.sup.length
  rotate_left
  · simp only [decide_eq_false hc]
    refine GO ?_
    exact endQ_mk (.inr rfl) (.tmp (by rfl) (.tmp (by rfl) .nil)) ⟨by rw [show ownD r.dt c s = none by unfold ownD; exact if_neg hc]; rfl, rfl⟩ (by (first | with_reducible exact Imp.refl | with_reducible exact Imp.left | (focus ((try simp only [List.nil_append]); (repeat (first | exact Imp.nil | (apply Imp.cons; (focus ((repeat (first | with_reducible exact Tk.here | apply Tk.there)); done))))); done))))
  simp only [decide_eq_true hc]
  refine GO ?_
  refine st_call (rfind_spec t r h c hc s) (by rfl) (by simp only [RMem]; (focus ((repeat (first | exact Spl.nil | (apply Spl.cons; (focus ((repeat (first | with_reducible exact Tk.here | apply Tk.there)); done))))); done))) (fun v Post hv => ?_)
  obtain ⟨rfl, rfl⟩ := hv
  obtain ⟨k, rfl⟩ := Int.eq_ofNat_of_zero_le hc.1
  obtain ⟨d, hd, hdm, hdi⟩ := h.dic hc
  have hk : (k : Int).toNat = k := by simp
  rw [hk] at hd
  have how : ownD r.dt (k : Int) s = mget s d.m := by unfold ownD; rw [← hdm]; exact if_pos hc
  rw [hdm, how]
  have hdd := h.dd d hdi
  have hdn := h.dn d hdi
  have hkl : k < r.dds.length := by have := h.len; omega
  have hsm := h.small
  simp only [RMem, List.cons_append, List.nil_append]
  rcases findZ_mget (m := d.m) (s := s) with ⟨f1, f2⟩ | ⟨i, p, f1, f2, f3, f4⟩
  · rw [f1, f2]
    refine GO ?_
    exact endQ_mk (.inr rfl) (.tmp (by rfl) (.tmp (by rfl) .nil)) ⟨rfl, rfl⟩ (by (first | with_reducible exact Imp.refl | with_reducible exact Imp.left | (focus ((try simp only [List.nil_append]); (repeat (first | exact Imp.nil | (apply Imp.cons; (focus ((repeat (first | with_reducible exact Tk.here | apply Tk.there)); done))))); done))))
  · rw [f1, f4]
    obtain ⟨b, o, c2, hve, m1⟩ := (show RdRow 1 _ r.dv r.dds.length (r.dds.map fun q => q.v) from h.dv.rd).cell hd
    have rdd : RdRow 2 (r.dds.flatMap dicA) d.v d.m.length (d.m.flatMap entEnc) := hdd.rd.mono (fun a ha => List.mem_flatMap.2 ⟨d, hdi, ha⟩)
    obtain ⟨b3, o3, c3, hve3, m3⟩ := rdd.at_ (enc := entEnc) (fun p => rfl) f2
    have m4 : Atom.cell b3 (o3 + i * 2 + 1) (vi p.2) ∈ r.dds.flatMap dicA := m3 _ (mem_cellsAt.2 ⟨1, _, rfl, rfl⟩)
    simp only [hve, hve3] at m1 ⊢
    have hil := (List.getElem?_eq_some_iff.1 f2).1
    refine GO ?_
    exact endQ_mk (.inr rfl) (.tmp (by rfl) (.tmp (by rfl) .nil)) ⟨rfl, rfl⟩ (by (first | with_reducible exact Imp.refl | with_reducible exact Imp.left | (focus ((try simp only [List.nil_append]); (repeat (first | exact Imp.nil | (apply Imp.cons; (focus ((repeat (first | with_reducible exact Tk.here | apply Tk.there)); done))))); done))))

def GlbP (t : Nat) (r : RTab) (x : Option Int × DT) (v : Value) (Post : SH) : Prop :=
  ∃ T G, G.length = 64 ∧ x.2 = { r.dt with tel := T, glob := G } ∧ v = okM x.1 ∧ Post = RMem t { r with tel := T, glob := G }
theorem rglobal_spec (t : Nat) (r : RTab) (h : ROk r) (c : Int) (hc : 0 ≤ c ∧ c < r.sup.length) (s : ByteArray) (hs : s.size ≤ 1048576) (N : Nat) (hN : N ≤ 70368744177664) (hT : TelOk r.tel N) :
    Fun Try.prog 58 [ptr0 t, vi c, .string s] (RMem t r) (GlbP t r (glbD r.dt c s)) := by
  have hsm := h.small
  have hpl := placeN_lt c s
  have hgl := h.glob
  obtain ⟨t1, t2, t3, t4, t5⟩ := hT
  have hgk : r.glob[placeN c s]? = some (r.dt.known (placeN c s)) := by simp [DT.known, RTab.dt, show placeN c s < r.glob.length by omega]
  refine Fun.intro low58 (by simp [F58]) ?_
  simp only [RMem, telEnc]
  refine GO ?_
  refine st_call (rplace_spec c s (by omega) hs) (by rfl) Spl.nil (fun v Post hv => ?_)
  obtain ⟨rfl, rfl⟩ := hv
  simp only [List.nil_append]
  refine GO ?_
  refine st_load1 (v := vi (r.dt.known (placeN c s)).c) (by rfl) (.there (Has.flat (f := kEnc) (n := 3) (j := 0) kEnc_len hgk (by omega) (by rfl))) ?_
  refine GO ?_
  by_cases e1 : (r.dt.known (placeN c s)).c = c
  rotate_left
  · have hmiss : ¬ ((r.dt.known (placeN c s)).c = c ∧ (r.dt.known (placeN c s)).s = s) := fun x => e1 x.1
    simp only [decide_eq_false e1]
    refine GO ?_
    refine st_call (rplain_spec t r h c hc s) (by rfl) (by simp only [RMem, telEnc]; (focus ((repeat (first | exact Spl.nil | (apply Spl.cons; (focus ((repeat (first | with_reducible exact Tk.here | apply Tk.there)); done))))); done))) (fun v Post hv => ?_)
    obtain ⟨rfl, rfl⟩ := hv
    simp only [RMem, telEnc, List.cons_append, List.nil_append]
    have hsteps : (plainD r.dt c s).2 ≤ 4097 := by have := plainG_steps r.dt s (c + 1).toNat c; unfold plainD; omega
    refine GO ?_
    cases hm : (plainD r.dt c s).1 with
    | none =>
      simp only [Option.getD_none, Option.isSome_none]
      refine GO ?_
      have hg : glbD r.dt c s = (none, { r.dt with tel := r.dt.tel.walk (plainD r.dt c s).2 }) := by unfold glbD; rw [if_neg hmiss, hm]
      refine endQ_mk (.inr rfl) (.tmp (by rfl) (.tmp (by rfl) .nil)) ⟨r.tel.walk (plainD r.dt c s).2, r.glob, hgl, by rw [hg]; rfl, by rw [hg]; rfl, rfl⟩ (by simp only [RMem, telEnc, Tel.walk, Int.natCast_add, Int.cast_ofNat_Int]; (first | with_reducible exact Imp.refl | with_reducible exact Imp.left | (focus ((try simp only [List.nil_append]); (repeat (first | exact Imp.nil | (apply Imp.cons; (focus ((repeat (first | with_reducible exact Tk.here | apply Tk.there)); done))))); done))))
    | some m =>
      simp only [Option.getD_some, Option.isSome_some]
      refine GO ?_
      refine st_store' (us := kEnc ⟨c, s, m⟩) (by rfl) (by rfl) (by rfl) (by rfl) (by rfl) (.there (Upd.flat (f := kEnc) (l := r.glob) (i := placeN c s) (y := ⟨c, s, m⟩) (n := 3) kEnc_len rfl (by omega))) ?_
      refine GO ?_
      have hg : glbD r.dt c s = (some m, { r.dt with tel := r.dt.tel.walk (plainD r.dt c s).2, glob := r.dt.glob.set (placeN c s) ⟨c, s, m⟩ }) := by unfold glbD; rw [if_neg hmiss, hm]
      refine endQ_mk (.inr rfl) (.tmp (by rfl) (.tmp (by rfl) .nil)) ⟨r.tel.walk (plainD r.dt c s).2, r.glob.set (placeN c s) ⟨c, s, m⟩, by simpa using hgl, by rw [hg]; rfl, by rw [hg]; rfl, rfl⟩ (by simp only [RMem, telEnc, Tel.walk, Int.natCast_add, Int.cast_ofNat_Int]; (first | with_reducible exact Imp.refl | with_reducible exact Imp.left | (focus ((try simp only [List.nil_append]); (repeat (first | exact Imp.nil | (apply Imp.cons; (focus ((repeat (first | with_reducible exact Tk.here | apply Tk.there)); done))))); done))))
  simp only [decide_eq_true e1]
  refine GO ?_
  refine st_load1 (v := .string (r.dt.known (placeN c s)).s) (by rfl) (.there (Has.flat (f := kEnc) (n := 3) (j := 1) kEnc_len hgk (by omega) (by rfl))) ?_
  refine GO ?_
  by_cases e2 : (r.dt.known (placeN c s)).s = s
  rotate_left
  · have hmiss : ¬ ((r.dt.known (placeN c s)).c = c ∧ (r.dt.known (placeN c s)).s = s) := fun x => e2 x.2
    simp only [decide_eq_false e2]
    refine GO ?_
    refine st_call (rplain_spec t r h c hc s) (by rfl) (by simp only [RMem, telEnc]; (focus ((repeat (first | exact Spl.nil | (apply Spl.cons; (focus ((repeat (first | with_reducible exact Tk.here | apply Tk.there)); done))))); done))) (fun v Post hv => ?_)
    obtain ⟨rfl, rfl⟩ := hv
    simp only [RMem, telEnc, List.cons_append, List.nil_append]
    have hsteps : (plainD r.dt c s).2 ≤ 4097 := by have := plainG_steps r.dt s (c + 1).toNat c; unfold plainD; omega
    refine GO ?_
    cases hm : (plainD r.dt c s).1 with
    | none =>
      simp only [Option.getD_none, Option.isSome_none]
      refine GO ?_
      have hg : glbD r.dt c s = (none, { r.dt with tel := r.dt.tel.walk (plainD r.dt c s).2 }) := by unfold glbD; rw [if_neg hmiss, hm]
      refine endQ_mk (.inr rfl) (.tmp (by rfl) (.tmp (by rfl) .nil)) ⟨r.tel.walk (plainD r.dt c s).2, r.glob, hgl, by rw [hg]; rfl, by rw [hg]; rfl, rfl⟩ (by simp only [RMem, telEnc, Tel.walk, Int.natCast_add, Int.cast_ofNat_Int]; (first | with_reducible exact Imp.refl | with_reducible exact Imp.left | (focus ((try simp only [List.nil_append]); (repeat (first | exact Imp.nil | (apply Imp.cons; (focus ((repeat (first | with_reducible exact Tk.here | apply Tk.there)); done))))); done))))
    | some m =>
      simp only [Option.getD_some, Option.isSome_some]
      refine GO ?_
      refine st_store' (us := kEnc ⟨c, s, m⟩) (by rfl) (by rfl) (by rfl) (by rfl) (by rfl) (.there (Upd.flat (f := kEnc) (l := r.glob) (i := placeN c s) (y := ⟨c, s, m⟩) (n := 3) kEnc_len rfl (by omega))) ?_
      refine GO ?_
      have hg : glbD r.dt c s = (some m, { r.dt with tel := r.dt.tel.walk (plainD r.dt c s).2, glob := r.dt.glob.set (placeN c s) ⟨c, s, m⟩ }) := by unfold glbD; rw [if_neg hmiss, hm]
      refine endQ_mk (.inr rfl) (.tmp (by rfl) (.tmp (by rfl) .nil)) ⟨r.tel.walk (plainD r.dt c s).2, r.glob.set (placeN c s) ⟨c, s, m⟩, by simpa using hgl, by rw [hg]; rfl, by rw [hg]; rfl, rfl⟩ (by simp only [RMem, telEnc, Tel.walk, Int.natCast_add, Int.cast_ofNat_Int]; (first | with_reducible exact Imp.refl | with_reducible exact Imp.left | (focus ((try simp only [List.nil_append]); (repeat (first | exact Imp.nil | (apply Imp.cons; (focus ((repeat (first | with_reducible exact Tk.here | apply Tk.there)); done))))); done))))
  simp only [decide_eq_true e2]
  refine GO ?_
  refine st_load1 (v := vi (r.dt.known (placeN c s)).m) (by rfl) (.there (Has.flat (f := kEnc) (n := 3) (j := 2) kEnc_len hgk (by omega) (by rfl))) ?_
  refine GO ?_
  have hg : glbD r.dt c s = (some (r.dt.known (placeN c s)).m, { r.dt with tel := { r.dt.tel with glob := r.dt.tel.glob + 1 } }) := by unfold glbD; rw [if_pos ⟨e1, e2⟩]
  refine endQ_mk (.inr rfl) (.tmp (by rfl) (.tmp (by rfl) .nil)) ⟨{ r.tel with glob := r.tel.glob + 1 }, r.glob, hgl, by rw [hg]; rfl, by rw [hg]; rfl, rfl⟩ (by simp only [RMem, telEnc, Int.natCast_add, Int.cast_ofNat_Int]; (first | with_reducible exact Imp.refl | with_reducible exact Imp.left | (focus ((try simp only [List.nil_append]); (repeat (first | exact Imp.nil | (apply Imp.cons; (focus ((repeat (first | with_reducible exact Tk.here | apply Tk.there)); done))))); done))))
end Go.Proofs.Ytffmipimgodfdaa

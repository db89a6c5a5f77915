/-
  The document's selectors: the least that is greater than the last, one behind the other, are the sorted ones.
-/
import Derived.Test.YtffmipimgodfdaaTB
import Derived.Test.YtffmipimgodfdaaVS
set_option linter.unusedSimpArgs false
set_option linter.unusedVariables false
namespace Go.V
open Go
def noSel : ByteArray := ⟨#[]⟩
def gtO (last : Option ByteArray) (s : ByteArray) : Bool := match last with | none => true | some u => ltS u s
theorem gt_some (u s : ByteArray) : gtO (some u) s = !(Op.bytesLess s.toList u.toList || decide (s = u)) := by
  show ltS u s = !(ltS s u || decide (s = u))
  by_cases e : s = u
  · subst e
    cases h : ltS s s with
    | false => simp
    | true => have := ltS_ok.asymm s s h; rw [h] at this; cases this
  · simp only [e, decide_false, Bool.or_false]
    cases h : ltS u s with
    | true => rw [ltS_ok.asymm u s h]; rfl
    | false =>
      cases h2 : ltS s u with
      | true => rfl
      | false => exact absurd (ltS_ok.eq _ _ h2 h) e
def bestStep (last : Option ByteArray) (b s : ByteArray) : ByteArray := if gtO last s && (decide (b = noSel) || ltS s b) then s else b
def bestOf (last : Option ByteArray) (l : List ByteArray) : ByteArray := l.foldl (bestStep last) noSel
def BestI (last : Option ByteArray) (p : List ByteArray) (b : ByteArray) : Prop :=
  (b = noSel ∧ ∀ s ∈ p, gtO last s = false) ∨ (b ∈ p ∧ gtO last b = true ∧ ∀ s ∈ p, gtO last s = true → ltS s b = false)
theorem ltS_irr (s : ByteArray) : ltS s s = false := by
  cases h : ltS s s with
  | false => rfl
  | true => have := ltS_ok.asymm s s h; rw [h] at this; exact this
theorem ltS_notTrans {x y z : ByteArray} (h1 : ltS x y = true) (h2 : ltS z y = false) : ltS z x = false := ltS_ok.le_trans x y z (ltS_ok.asymm x y h1) h2
theorem best_inv {last : Option ByteArray} : ∀ {l p : List ByteArray} {b : ByteArray}, (∀ s ∈ p ++ l, s ≠ noSel) → BestI last p b → BestI last (p ++ l) (l.foldl (bestStep last) b) := by
  intro l
  induction l with
  | nil => intro p b hn h; simpa using h
  | cons q l ih =>
    intro p b hn h
    have hq : BestI last (p ++ [q]) (bestStep last b q) := by
      unfold bestStep
      by_cases hg : gtO last q = true
      · rw [hg]
        rcases h with ⟨rfl, h2⟩ | ⟨h1, h2, h3⟩
        · right
          simp only [decide_true, Bool.true_or, Bool.and_self, if_true]
          refine ⟨by simp, hg, fun s hs hgs => ?_⟩
          rcases List.mem_append.1 hs with hs | hs
          · rw [h2 s hs] at hgs; cases hgs
          · obtain rfl := List.mem_singleton.1 hs; exact ltS_irr _
        · right
          have hb : b ≠ noSel := hn b (List.mem_append_left _ h1)
          simp only [hb, decide_false, Bool.false_or, Bool.true_and]
          by_cases hlt : ltS q b = true
          · rw [if_pos hlt]
            refine ⟨by simp, hg, fun s hs hgs => ?_⟩
            rcases List.mem_append.1 hs with hs | hs
            · exact ltS_notTrans hlt (h3 s hs hgs)
            · obtain rfl := List.mem_singleton.1 hs; exact ltS_irr _
          · rw [if_neg hlt]
            refine ⟨List.mem_append_left _ h1, h2, fun s hs hgs => ?_⟩
            rcases List.mem_append.1 hs with hs | hs
            · exact h3 s hs hgs
            · obtain rfl := List.mem_singleton.1 hs; simpa using hlt
      · have hg : gtO last q = false := by simpa using hg
        rw [hg]
        simp only [Bool.false_and, Bool.false_eq_true, if_false]
        rcases h with ⟨rfl, h2⟩ | ⟨h1, h2, h3⟩
        · left
          refine ⟨rfl, fun s hs => ?_⟩
          rcases List.mem_append.1 hs with hs | hs
          · exact h2 s hs
          · obtain rfl := List.mem_singleton.1 hs; exact hg
        · right
          refine ⟨List.mem_append_left _ h1, h2, fun s hs hgs => ?_⟩
          rcases List.mem_append.1 hs with hs | hs
          · exact h3 s hs hgs
          · obtain rfl := List.mem_singleton.1 hs; rw [hg] at hgs; cases hgs
    have := ih (p := p ++ [q]) (by simpa using hn) hq
    simpa using this
theorem best_next {ks ys : List ByteArray} (hy : SortedOf ltS ks ys) (hd : ks.Nodup) (hn : ∀ s ∈ ks, s ≠ noSel) {k : Nat} (hk : k < ys.length) : bestOf (if k = 0 then none else ys[k - 1]?) ks = ys[k] := by
  have hyd : ys.Nodup := hy.1.nodup_iff.2 hd
  have hpw := List.pairwise_iff_getElem.1 hy.2
  have hne : ∀ (i j : Nat) (hi : i < ys.length) (hj : j < ys.length), i < j → ltS ys[i] ys[j] = true := by
    intro i j hi hj hij
    cases h : ltS ys[i] ys[j] with
    | true => rfl
    | false =>
      have h2 := hpw i j hi hj hij
      have := ltS_ok.eq _ _ h h2
      exact absurd this (List.pairwise_iff_getElem.1 hyd i j hi hj hij)
  have hg : ∀ (j : Nat) (hj : j < ys.length), gtO (if k = 0 then none else ys[k - 1]?) ys[j] = decide (k ≤ j) := by
    intro j hj
    by_cases h0 : k = 0
    · subst h0; simp [gtO]
    · rw [if_neg h0, List.getElem?_eq_getElem (by omega)]
      simp only [gtO]
      by_cases hkj : k ≤ j
      · rw [decide_eq_true hkj]; exact hne _ _ _ _ (by omega)
      · rw [decide_eq_false hkj]
        rcases Nat.lt_or_eq_of_le (show j ≤ k - 1 by omega) with h | h
        · exact hpw _ _ _ _ h
        · subst h; exact ltS_irr _
  have hinv := best_inv (last := if k = 0 then none else ys[k - 1]?) (l := ks) (p := []) (b := noSel) (by simpa using hn) (.inl ⟨rfl, by simp⟩)
  rw [List.nil_append] at hinv
  have hmem : ys[k] ∈ ks := hy.1.mem_iff.1 (List.getElem_mem hk)
  rcases hinv with ⟨_, h2⟩ | ⟨h1, h2, h3⟩
  · have := h2 _ hmem; rw [hg k hk] at this; simp at this
  · obtain ⟨j, hj, he⟩ := List.mem_iff_getElem.1 (hy.1.mem_iff.2 h1)
    show List.foldl (bestStep (if k = 0 then none else ys[k - 1]?)) noSel ks = ys[k]
    have h4 := h3 _ hmem (by rw [hg k hk]; simp)
    rw [← he] at h2 h4 ⊢
    rw [hg j hj] at h2
    have hkj : k ≤ j := by simpa using h2
    rcases Nat.lt_or_eq_of_le hkj with h | h
    · rw [hne k j hk hj h] at h4; cases h4
    · subst h; rfl
theorem bestOf_step (last : Option ByteArray) {ks : List ByteArray} {i : Nat} {s : ByteArray} (h : ks[i]? = some s) : bestOf last (ks.take (i + 1)) = bestStep last (bestOf last (ks.take i)) s := by
  unfold bestOf
  rw [List.take_add_one, h]
  simp
end Go.V
namespace Go.Proofs.Ytffmipimgodfdaa
open Go Go.V
set_option maxHeartbeats 6400000
set_option maxRecDepth 100000
set_option linter.unusedSimpArgs false
set_option linter.unusedVariables false
def RSelP (t : Nat) (r : RTab) (c : Int) (ys : List ByteArray) (v : Value) (Post : SH) : Prop :=
  if 0 ≤ c ∧ c < r.sup.length then ∃ sv sp, IsSl 1 sv ys.length (ys.map Value.string) sp ∧ v = .tuple #[sv, vi 0] ∧ Post = slA sv (ys.map Value.string) sp :: RMem t r
  else v = .tuple #[.slice none 0 0, vi 220] ∧ Post = RMem t r
theorem rselectors_spec (t : Nat) (r : RTab) (h : ROk r) (c : Int) (ys : List ByteArray) (hy : 0 ≤ c ∧ c < r.sup.length → SortedOf ltS ((r.dt.dic c).map (·.1)) ys ∧ ((r.dt.dic c).map (·.1)).Nodup ∧ ∀ s ∈ (r.dt.dic c).map (·.1), s ≠ noSel) :
    Fun Try.prog 34 [ptr0 t, vi c] (RMem t r) (RSelP t r c ys) := by
  refine Fun.intro low34 (by simp [F34]) ?_
  simp only [RMem]
  refine GO ?_
  refine st_call (ris_spec t r h c) (by rfl) (by simp only [RMem]; (focus ((repeat (first | exact Spl.nil | (apply Spl.cons; (focus ((repeat (first | with_reducible exact Tk.here | apply Tk.there)); done))))); done))) (fun v Post hv => ?_)
  obtain ⟨rfl, rfl⟩ := hv
  simp only [RMem, List.cons_append, List.nil_append]
  by_cases hc : 0 ≤ c ∧ c < r.sup.length
  rotate_left
  · simp only [decide_eq_false hc]
    refine GO ?_
    exact endQ_mk (.inr rfl) (.tmp (by rfl) (.tmp (by rfl) .nil)) (show RSelP t r c ys _ (RMem t r) by unfold RSelP; rw [if_neg hc]; exact ⟨rfl, rfl⟩) (by simp only [RMem]; (first | with_reducible exact Imp.refl | with_reducible exact Imp.left | (focus ((try simp only [List.nil_append]); (repeat (first | exact Imp.nil | (apply Imp.cons; (focus ((repeat (first | with_reducible exact Tk.here | apply Tk.there)); done))))); done))))
  simp only [decide_eq_true hc]
  have hP : RSelP t r c ys = fun v Post => ∃ sv sp, IsSl 1 sv ys.length (ys.map Value.string) sp ∧ v = .tuple #[sv, vi 0] ∧ Post = slA sv (ys.map Value.string) sp :: RMem t r := by funext v Post; unfold RSelP; rw [if_pos hc]
  rw [hP]
  obtain ⟨y1, y2, y3⟩ := hy hc
  obtain ⟨d, hd, hdm, hdi⟩ := h.dic hc
  rw [hdm] at y1 y2 y3
  obtain ⟨k, rfl⟩ := Int.eq_ofNat_of_zero_le hc.1
  have hdd := h.dd d hdi
  have hdn := h.dn d hdi
  have hyl : ys.length = d.m.length := by rw [y1.1.length_eq, List.length_map]
  obtain ⟨da, dc, hdv⟩ := hdd.form
  have rd := h.dv.rd
  obtain ⟨va, vc, hvv⟩ := h.dv.form
  simp only [RMem, hvv]
  rw [hvv] at rd
  obtain ⟨b, o, c2, hve, m1⟩ := (show RdRow 1 _ (.slice va r.dds.length vc) r.dds.length (r.dds.map fun q => q.v) from rd).cell hd
  simp only [Value.slice.injEq, true_and] at hve
  obtain ⟨rfl, rfl⟩ := hve
  rw [hdv] at m1
  have rdd : RdRow 2 (r.dds.flatMap dicA) d.v d.m.length (d.m.flatMap entEnc) := hdd.rd.mono (fun a ha => List.mem_flatMap.2 ⟨d, hdi, ha⟩)
  rw [hdv] at rdd
  generalize slA (.slice (some ⟨b, o, none⟩) r.dds.length vc) (r.dds.map (·.v)) r.dsp = L at m1 ⊢
  generalize r.dds.flatMap dicA = X at rdd ⊢
  have hk : (k : Int).toNat = k := by simp
  rw [hk] at m1
  have hkl : k < r.dds.length := by have := h.len; omega
  refine GO ?_
  refine VC.loop (α := Nat × Value × List Value) (Γf := fun y => [(0, ptr0 t), (1, vi k), (6, y.2.1)]) (Hf := fun y => slA y.2.1 ((ys.take y.1).map Value.string) y.2.2 :: [cellsAt t 0 [r.sv, .slice (some ⟨b, o, none⟩) r.dds.length vc], cellsAt t 2 (r.glob.flatMap kEnc), cellsAt t 194 [r.xv], cellsAt t 195 (telEnc r.tel), slA r.sv (r.sup.map vi) r.ssp, L, X, slA r.xv (r.sites.flatMap sitEnc) r.xsp, r.sites.flatMap sitA])
    (I := fun y => y.1 ≤ ys.length ∧ IsSl 1 y.2.1 y.1 ((ys.take y.1).map Value.string) y.2.2) (μ := fun y => ys.length - y.1) (0, .slice none 0 0, []) ⟨Nat.zero_le _, .nil⟩ (by (repeat (first | exact Sub.nil | (apply Sub.cons; rfl)))) (Imp.fresh rfl) ?_
  rintro ⟨n, kv, ksp⟩ ⟨hn, hkv⟩
  simp only at hn hkv
  obtain ⟨ka, kc, rfl⟩ := hkv.form
  refine GO ?_
  (first | (apply VC.seq_cond; rfl) | (apply VC.cond; rfl))
  rotate_left
  · intro hge
    have hge : ¬ n < d.m.length := by simpa using hge
    obtain rfl : n = ys.length := by omega
    rw [List.take_length] at hkv ⊢
    refine GO ?_
    exact endQ_mk (.inr rfl) (.tmp (by rfl) (.tmp (by rfl) .nil)) ⟨_, _, hkv, rfl, rfl⟩ (by (first | with_reducible exact Imp.refl | with_reducible exact Imp.left | (focus ((try simp only [List.nil_append]); (repeat (first | exact Imp.nil | (apply Imp.cons; (focus ((repeat (first | with_reducible exact Tk.here | apply Tk.there)); done))))); done))))
  intro hlt
  have hlt : n < d.m.length := by simpa using hlt
  refine GO ?_
  refine VC.loop (α := Nat × ByteArray) (Γf := fun y => [(0, ptr0 t), (1, vi k), (6, .slice ka n kc), (7, .string y.2), (8, vi y.1)]) (Hf := fun _ => slA (.slice ka n kc) ((ys.take n).map Value.string) ksp :: [cellsAt t 0 [r.sv, .slice (some ⟨b, o, none⟩) r.dds.length vc], cellsAt t 2 (r.glob.flatMap kEnc), cellsAt t 194 [r.xv], cellsAt t 195 (telEnc r.tel), slA r.sv (r.sup.map vi) r.ssp, L, X, slA r.xv (r.sites.flatMap sitEnc) r.xsp, r.sites.flatMap sitA])
    (I := fun y => y.1 ≤ d.m.length ∧ y.2 = bestOf (if n = 0 then none else ys[n - 1]?) ((d.m.map (·.1)).take y.1)) (μ := fun y => d.m.length - y.1) (0, noSel) ⟨Nat.zero_le _, rfl⟩ (by (repeat (first | exact Sub.nil | (apply Sub.cons; rfl)))) (by (first | with_reducible exact Imp.refl | with_reducible exact Imp.left | (focus ((try simp only [List.nil_append]); (repeat (first | exact Imp.nil | (apply Imp.cons; (focus ((repeat (first | with_reducible exact Tk.here | apply Tk.there)); done))))); done)))) ?_
  rintro ⟨i, bst⟩ ⟨hi, hb⟩
  simp only at hi hb
  refine GO ?_
  (first | (apply VC.seq_cond; rfl) | (apply VC.cond; rfl))
  rotate_left
  · intro hge
    have hge : ¬ i < d.m.length := by simpa using hge
    obtain rfl : i = d.m.length := by omega
    rw [List.take_of_length_le (by simp), best_next y1 y2 y3 (by omega : n < ys.length)] at hb
    subst hb
    have hys : ys[n]? = some ys[n] := List.getElem?_eq_getElem (by omega)
    refine GO ?_
    refine st_bslice (out := [.string ys[n]]) (by rfl) (by rfl) (fun q3 => ?_)
    refine GO ?_
    refine st_append (k := n) (m := 1) (xs := (ys.take n).map Value.string) (sp := ksp) (ys := [.string ys[n]]) (by rfl) (by rfl) hkv (by (focus ((repeat (first | with_reducible exact Tk.here | apply Tk.there)); done))) (by rfl) ?_ rfl (by rfl) (by rfl) (by decide) (by omega) (fun sv' sp' hsl' => ?_)
    · exact ⟨rfl, fun a ha => by simp only [List.flatten_cons, List.mem_append]; exact .inl ha⟩
    have hstep : (ys.take n).map Value.string ++ [.string ys[n]] = (ys.take (n + 1)).map Value.string := by rw [List.take_add_one, hys, Option.toList_some, List.map_append]; rfl
    rw [hstep] at hsl' ⊢
    obtain ⟨a', c', rfl⟩ := hsl'.form
    refine GO ?_
    exact ⟨(n + 1, .slice a' (n + 1) c', sp'), ⟨by show n + 1 ≤ ys.length; omega, hsl'⟩, by show ys.length - (n + 1) < ys.length - n; omega, by (repeat (first | exact Sub.nil | (apply Sub.cons; rfl))), by (first | with_reducible exact Imp.refl | with_reducible exact Imp.left | (focus ((try simp only [List.nil_append]); (repeat (first | exact Imp.nil | (apply Imp.cons; (focus ((repeat (first | with_reducible exact Tk.here | apply Tk.there)); done))))); done)))⟩
  intro hlt2
  have hlt2 : i < d.m.length := by simpa using hlt2
  obtain ⟨p, hp⟩ : ∃ p, d.m[i]? = some p := ⟨d.m[i], List.getElem?_eq_getElem hlt2⟩
  obtain ⟨b3, o3, c3, hve3, m3⟩ := rdd.at_ (enc := entEnc) (fun p => rfl) hp
  simp only [Value.slice.injEq, true_and] at hve3
  obtain ⟨rfl, rfl⟩ := hve3
  have m4 : Atom.cell b3 (o3 + i * 2) (.string p.1) ∈ X := m3 _ (mem_cellsAt.2 ⟨0, _, rfl, rfl⟩)
  have hstep := bestOf_step (if n = 0 then none else ys[n - 1]?) (ks := d.m.map (·.1)) (i := i) (s := p.1) (by simp [hp])
  rw [← hb] at hstep
  refine GO ?_
  have fin : ∀ (c : Bool), c = (gtO (if n = 0 then none else ys[n - 1]?) p.1 && (decide (bst = noSel) || ltS p.1 bst)) → bestOf (if n = 0 then none else ys[n - 1]?) ((d.m.map (·.1)).take (i + 1)) = if c then p.1 else bst := by
    rintro c rfl; exact hstep
  have fT : gtO (if n = 0 then none else ys[n - 1]?) p.1 = true → decide (bst = ⟨#[]⟩) = true → p.1 = bestOf (if n = 0 then none else ys[n - 1]?) ((d.m.map (·.1)).take (i + 1)) := fun h1 h2 => by
    rw [fin true (by rw [h1]; show _ = (true && (decide (bst = ⟨#[]⟩) || _)); rw [h2]; rfl)]; rfl
  have fU : gtO (if n = 0 then none else ys[n - 1]?) p.1 = true → decide (bst = ⟨#[]⟩) = false → ltS p.1 bst = true → p.1 = bestOf (if n = 0 then none else ys[n - 1]?) ((d.m.map (·.1)).take (i + 1)) := fun h1 h2 h3 => by
    rw [fin true (by rw [h1]; show _ = (true && (decide (bst = ⟨#[]⟩) || _)); rw [h2, h3]; rfl)]; rfl
  have fV : gtO (if n = 0 then none else ys[n - 1]?) p.1 = true → decide (bst = ⟨#[]⟩) = false → ltS p.1 bst = false → bst = bestOf (if n = 0 then none else ys[n - 1]?) ((d.m.map (·.1)).take (i + 1)) := fun h1 h2 h3 => by
    rw [fin false (by rw [h1]; show _ = (true && (decide (bst = ⟨#[]⟩) || _)); rw [h2, h3]; rfl)]; rfl
  have fW : gtO (if n = 0 then none else ys[n - 1]?) p.1 = false → bst = bestOf (if n = 0 then none else ys[n - 1]?) ((d.m.map (·.1)).take (i + 1)) := fun h1 => by
    rw [fin false (by rw [h1]; rfl)]; rfl
  clear fin hstep
  by_cases h0 : n = 0
  · subst h0
    simp only [Int.natCast_zero, decide_true] at ⊢
    (repeat' (first | refine GOP ?_ | refine st_gcase (by rfl) (fun _ => ?_) (fun _ => ?_) | refine st_pcase (by rfl) (fun _ => ?_) (fun _ => ?_) | refine VC.seq_cond (by rfl) (fun _ => ?_) (fun _ => ?_) | refine VC.cond (by rfl) (fun _ => ?_) (fun _ => ?_)))
    all_goals first
      | exact ⟨(i + 1, p.1), ⟨by show i + 1 ≤ d.m.length; omega, fT rfl (by assumption)⟩, by show d.m.length - (i + 1) < d.m.length - i; omega, by (repeat (first | exact Sub.nil | (apply Sub.cons; rfl))), by (first | with_reducible exact Imp.refl | with_reducible exact Imp.left | (focus ((try simp only [List.nil_append]); (repeat (first | exact Imp.nil | (apply Imp.cons; (focus ((repeat (first | with_reducible exact Tk.here | apply Tk.there)); done))))); done)))⟩
      | exact ⟨(i + 1, p.1), ⟨by show i + 1 ≤ d.m.length; omega, fU rfl (by assumption) (by assumption)⟩, by show d.m.length - (i + 1) < d.m.length - i; omega, by (repeat (first | exact Sub.nil | (apply Sub.cons; rfl))), by (first | with_reducible exact Imp.refl | with_reducible exact Imp.left | (focus ((try simp only [List.nil_append]); (repeat (first | exact Imp.nil | (apply Imp.cons; (focus ((repeat (first | with_reducible exact Tk.here | apply Tk.there)); done))))); done)))⟩
      | exact ⟨(i + 1, bst), ⟨by show i + 1 ≤ d.m.length; omega, fV rfl (by assumption) (by assumption)⟩, by show d.m.length - (i + 1) < d.m.length - i; omega, by (repeat (first | exact Sub.nil | (apply Sub.cons; rfl))), by (first | with_reducible exact Imp.refl | with_reducible exact Imp.left | (focus ((try simp only [List.nil_append]); (repeat (first | exact Imp.nil | (apply Imp.cons; (focus ((repeat (first | with_reducible exact Tk.here | apply Tk.there)); done))))); done)))⟩
  have hlast : ys[n - 1]? = some ys[n - 1] := List.getElem?_eq_getElem (by omega)
  rw [if_neg h0, hlast, gt_some] at fT fU fV fW
  have hr0 := hkv.rd
  have hlen0 : n = (ys.take n).length := by simp; omega
  obtain ⟨b4, o4, c4, hve4, m5⟩ := (show RdRow 1 (slA (.slice ka n kc) ((ys.take n).map Value.string) ksp) (.slice ka n kc) (ys.take n).length ((ys.take n).map Value.string) by rw [← hlen0]; exact hr0).cell (i := n - 1) (x := ys[n - 1]) (by rw [List.getElem?_take, if_pos (by omega)]; exact hlast)
  simp only [Value.slice.injEq] at hve4
  obtain ⟨rfl, _, rfl⟩ := hve4
  have hn1 : ((n : Int) - 1).toNat = n - 1 := by omega
  have m6 : Atom.cell b4 (o4 + ((n : Int) - 1).toNat) (.string ys[n - 1]) ∈ slA (.slice (some ⟨b4, o4, none⟩) n kc) ((ys.take n).map Value.string) ksp := by rw [hn1]; exact m5
  simp only [show ¬ (n : Int) = 0 by omega, decide_false]
  rw [if_neg h0, hlast]
  (repeat' (first | refine GOP ?_ | refine st_gcase (by rfl) (fun _ => ?_) (fun _ => ?_) | refine st_pcase (by rfl) (fun _ => ?_) (fun _ => ?_) | refine VC.seq_cond (by rfl) (fun _ => ?_) (fun _ => ?_) | refine VC.cond (by rfl) (fun _ => ?_) (fun _ => ?_)))
  all_goals first
    | exact ⟨(i + 1, p.1), ⟨by show i + 1 ≤ d.m.length; omega, fT (by assumption) (by assumption)⟩, by show d.m.length - (i + 1) < d.m.length - i; omega, by (repeat (first | exact Sub.nil | (apply Sub.cons; rfl))), by (first | with_reducible exact Imp.refl | with_reducible exact Imp.left | (focus ((try simp only [List.nil_append]); (repeat (first | exact Imp.nil | (apply Imp.cons; (focus ((repeat (first | with_reducible exact Tk.here | apply Tk.there)); done))))); done)))⟩
    | exact ⟨(i + 1, p.1), ⟨by show i + 1 ≤ d.m.length; omega, fU (by assumption) (by assumption) (by assumption)⟩, by show d.m.length - (i + 1) < d.m.length - i; omega, by (repeat (first | exact Sub.nil | (apply Sub.cons; rfl))), by (first | with_reducible exact Imp.refl | with_reducible exact Imp.left | (focus ((try simp only [List.nil_append]); (repeat (first | exact Imp.nil | (apply Imp.cons; (focus ((repeat (first | with_reducible exact Tk.here | apply Tk.there)); done))))); done)))⟩
    | exact ⟨(i + 1, bst), ⟨by show i + 1 ≤ d.m.length; omega, fV (by assumption) (by assumption) (by assumption)⟩, by show d.m.length - (i + 1) < d.m.length - i; omega, by (repeat (first | exact Sub.nil | (apply Sub.cons; rfl))), by (first | with_reducible exact Imp.refl | with_reducible exact Imp.left | (focus ((try simp only [List.nil_append]); (repeat (first | exact Imp.nil | (apply Imp.cons; (focus ((repeat (first | with_reducible exact Tk.here | apply Tk.there)); done))))); done)))⟩
    | exact ⟨(i + 1, bst), ⟨by show i + 1 ≤ d.m.length; omega, fW (by assumption)⟩, by show d.m.length - (i + 1) < d.m.length - i; omega, by (repeat (first | exact Sub.nil | (apply Sub.cons; rfl))), by (first | with_reducible exact Imp.refl | with_reducible exact Imp.left | (focus ((try simp only [List.nil_append]); (repeat (first | exact Imp.nil | (apply Imp.cons; (focus ((repeat (first | with_reducible exact Tk.here | apply Tk.there)); done))))); done)))⟩
end Go.Proofs.Ytffmipimgodfdaa

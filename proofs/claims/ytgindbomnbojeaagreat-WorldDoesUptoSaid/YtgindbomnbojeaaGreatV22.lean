/-
  The least that is greater than the last, one behind the other, are the sorted ones.
-/
import Derived.Test.YtgindbomnbojeaaGreatV13
import Derived.Test.YtgindbomnbojeaaGreatV21
set_option linter.unusedSimpArgs false
set_option linter.unusedVariables false
namespace Go.V
open Go
def noSel : ByteArray := ⟨#[]⟩
def gtO (last : Option ByteArray) (s : ByteArray) : Bool := match last with | none => true | some u => ltS u s
theorem gt_some (u s : ByteArray) : gtO (some u) s = !(Op.bytesLess s.toList u.toList || decide (s = u)) := by
  show ltS u s = !(ltS s u || decide (s = u))
  by_cases e : s = u
  · subst e
    cases h : ltS s s with
    | false => simp
    | true => have := ltS_ok.asymm s s h; rw [h] at this; cases this
  · simp only [e, decide_false, Bool.or_false]
    cases h : ltS u s with
    | true => rw [ltS_ok.asymm u s h]; rfl
    | false =>
      cases h2 : ltS s u with
      | true => rfl
      | false => exact absurd (ltS_ok.eq _ _ h2 h) e
def bestStep (last : Option ByteArray) (b s : ByteArray) : ByteArray := if gtO last s && (decide (b = noSel) || ltS s b) then s else b
def bestOf (last : Option ByteArray) (l : List ByteArray) : ByteArray := l.foldl (bestStep last) noSel
def BestI (last : Option ByteArray) (p : List ByteArray) (b : ByteArray) : Prop :=
  (b = noSel ∧ ∀ s ∈ p, gtO last s = false) ∨ (b ∈ p ∧ gtO last b = true ∧ ∀ s ∈ p, gtO last s = true → ltS s b = false)
theorem ltS_irr (s : ByteArray) : ltS s s = false := by
  cases h : ltS s s with
  | false => rfl
  | true => have := ltS_ok.asymm s s h; rw [h] at this; exact this
theorem ltS_notTrans {x y z : ByteArray} (h1 : ltS x y = true) (h2 : ltS z y = false) : ltS z x = false := ltS_ok.le_trans x y z (ltS_ok.asymm x y h1) h2
theorem best_inv {last : Option ByteArray} : ∀ {l p : List ByteArray} {b : ByteArray}, (∀ s ∈ p ++ l, s ≠ noSel) → BestI last p b → BestI last (p ++ l) (l.foldl (bestStep last) b) := by
  intro l
  induction l with
  | nil => intro p b hn h; simpa using h
  | cons q l ih =>
    intro p b hn h
    have hq : BestI last (p ++ [q]) (bestStep last b q) := by
      unfold bestStep
      by_cases hg : gtO last q = true
      · rw [hg]
        rcases h with ⟨rfl, h2⟩ | ⟨h1, h2, h3⟩
        · right
          simp only [decide_true, Bool.true_or, Bool.and_self, if_true]
          refine ⟨by simp, hg, fun s hs hgs => ?_⟩
          rcases List.mem_append.1 hs with hs | hs
          · rw [h2 s hs] at hgs; cases hgs
          · obtain rfl := List.mem_singleton.1 hs; exact ltS_irr _
        · right
          have hb : b ≠ noSel := hn b (List.mem_append_left _ h1)
          simp only [hb, decide_false, Bool.false_or, Bool.true_and]
          by_cases hlt : ltS q b = true
          · rw [if_pos hlt]
            refine ⟨by simp, hg, fun s hs hgs => ?_⟩
            rcases List.mem_append.1 hs with hs | hs
            · exact ltS_notTrans hlt (h3 s hs hgs)
            · obtain rfl := List.mem_singleton.1 hs; exact ltS_irr _
          · rw [if_neg hlt]
            refine ⟨List.mem_append_left _ h1, h2, fun s hs hgs => ?_⟩
            rcases List.mem_append.1 hs with hs | hs
            · exact h3 s hs hgs
            · obtain rfl := List.mem_singleton.1 hs; simpa using hlt
      · have hg : gtO last q = false := by simpa using hg
        rw [hg]
        simp only [Bool.false_and, Bool.false_eq_true, if_false]
        rcases h with ⟨rfl, h2⟩ | ⟨h1, h2, h3⟩
        · left
          refine ⟨rfl, fun s hs => ?_⟩
          rcases List.mem_append.1 hs with hs | hs
          · exact h2 s hs
          · obtain rfl := List.mem_singleton.1 hs; exact hg
        · right
          refine ⟨List.mem_append_left _ h1, h2, fun s hs hgs => ?_⟩
          rcases List.mem_append.1 hs with hs | hs
          · exact h3 s hs hgs
          · obtain rfl := List.mem_singleton.1 hs; rw [hg] at hgs; cases hgs
    have := ih (p := p ++ [q]) (by simpa using hn) hq
    simpa using this
theorem best_next {ks ys : List ByteArray} (hy : SortedOf ltS ks ys) (hd : ks.Nodup) (hn : ∀ s ∈ ks, s ≠ noSel) {k : Nat} (hk : k < ys.length) : bestOf (if k = 0 then none else ys[k - 1]?) ks = ys[k] := by
  have hyd : ys.Nodup := hy.1.nodup_iff.2 hd
  have hpw := List.pairwise_iff_getElem.1 hy.2
  have hne : ∀ (i j : Nat) (hi : i < ys.length) (hj : j < ys.length), i < j → ltS ys[i] ys[j] = true := by
    intro i j hi hj hij
    cases h : ltS ys[i] ys[j] with
    | true => rfl
    | false =>
      have h2 := hpw i j hi hj hij
      have := ltS_ok.eq _ _ h h2
      exact absurd this (List.pairwise_iff_getElem.1 hyd i j hi hj hij)
  have hg : ∀ (j : Nat) (hj : j < ys.length), gtO (if k = 0 then none else ys[k - 1]?) ys[j] = decide (k ≤ j) := by
    intro j hj
    by_cases h0 : k = 0
    · subst h0; simp [gtO]
    · rw [if_neg h0, List.getElem?_eq_getElem (by omega)]
      simp only [gtO]
      by_cases hkj : k ≤ j
      · rw [decide_eq_true hkj]; exact hne _ _ _ _ (by omega)
      · rw [decide_eq_false hkj]
        rcases Nat.lt_or_eq_of_le (show j ≤ k - 1 by omega) with h | h
        · exact hpw _ _ _ _ h
        · subst h; exact ltS_irr _
  have hinv := best_inv (last := if k = 0 then none else ys[k - 1]?) (l := ks) (p := []) (b := noSel) (by simpa using hn) (.inl ⟨rfl, by simp⟩)
  rw [List.nil_append] at hinv
  have hmem : ys[k] ∈ ks := hy.1.mem_iff.1 (List.getElem_mem hk)
  rcases hinv with ⟨_, h2⟩ | ⟨h1, h2, h3⟩
  · have := h2 _ hmem; rw [hg k hk] at this; simp at this
  · obtain ⟨j, hj, he⟩ := List.mem_iff_getElem.1 (hy.1.mem_iff.2 h1)
    show List.foldl (bestStep (if k = 0 then none else ys[k - 1]?)) noSel ks = ys[k]
    have h4 := h3 _ hmem (by rw [hg k hk]; simp)
    rw [← he] at h2 h4 ⊢
    rw [hg j hj] at h2
    have hkj : k ≤ j := by simpa using h2
    rcases Nat.lt_or_eq_of_le hkj with h | h
    · rw [hne k j hk hj h] at h4; cases h4
    · subst h; rfl
theorem bestOf_step (last : Option ByteArray) {ks : List ByteArray} {i : Nat} {s : ByteArray} (h : ks[i]? = some s) : bestOf last (ks.take (i + 1)) = bestStep last (bestOf last (ks.take i)) s := by
  unfold bestOf
  rw [List.take_add_one, h]
  simp
abbrev AllT := List (ByteArray × ByteArray × ByteArray)
def namedAt (all : AllT) (i : Nat) : Bool := match all[i]? with | some p => decide (p.1 ≠ nilTx) | none => false
def liveW (all : AllT) (ws : List (Nat × Wr)) : List (Nat × Wr) := ws.filter (fun p => namedAt all p.1)
def orderOf (all : AllT) (i : Nat) : List (ByteArray × Nat) := ((List.range i).filter (namedAt all)).map (fun j => (((all[j]?).getD (nilTx, nilTx, nilTx)).1, j))
theorem namedAt_at {all : AllT} {i : Nat} {p : ByteArray × ByteArray × ByteArray} (h : all[i]? = some p) : namedAt all i = decide (p.1 ≠ nilTx) := by simp only [namedAt, h]
theorem orderOf_succ {all : AllT} {i : Nat} {p : ByteArray × ByteArray × ByteArray} (h : all[i]? = some p) : orderOf all (i + 1) = orderOf all i ++ (if p.1 = nilTx then [] else [(p.1, i)]) := by
  unfold orderOf
  rw [List.range_succ, List.filter_append, List.map_append]
  congr 1
  by_cases e : p.1 = nilTx
  · simp [namedAt_at h, e]
  · simp [namedAt_at h, e, h]
theorem mem_orderOf {all : AllT} {k : Nat} {q : ByteArray × Nat} : q ∈ orderOf all k ↔ q.2 < k ∧ ∃ p, all[q.2]? = some p ∧ p.1 ≠ nilTx ∧ p.1 = q.1 := by
  unfold orderOf
  simp only [List.mem_map, List.mem_filter, List.mem_range]
  constructor
  · rintro ⟨j, ⟨hj, hn⟩, rfl⟩
    refine ⟨hj, ?_⟩
    cases h : all[j]? with
    | none => simp [namedAt, h] at hn
    | some p => rw [namedAt_at h] at hn; exact ⟨p, rfl, of_decide_eq_true hn, rfl⟩
  · rintro ⟨hk, p, hp, hne, e⟩
    refine ⟨q.2, ⟨hk, by rw [namedAt_at hp]; exact decide_eq_true hne⟩, ?_⟩
    rw [hp]; simp only [Option.getD_some, e]
theorem orderOf_snd {all : AllT} {k : Nat} : ((orderOf all k).map (·.2)).Nodup := by
  unfold orderOf
  rw [List.map_map]
  have : ((fun x : ByteArray × Nat => x.2) ∘ fun j => (((all[j]?).getD (nilTx, nilTx, nilTx)).1, j)) = id := by funext j; rfl
  rw [this, List.map_id]
  exact List.Nodup.sublist List.filter_sublist List.nodup_range
section
variable {r : QR} {a : AW} {M : Nat}
theorem QRep.order_mem (h : QRep r a M) (hk : (a.names.map (·.1)).Nodup) (hin : ∀ p ∈ a.names, p.2 < a.files.length) (q : ByteArray × Nat) : q ∈ orderOf r.all r.all.length ↔ q ∈ a.names := by
  have hl := h.alen
  rw [mem_orderOf]
  constructor
  · rintro ⟨hq, p, hp, hne, e⟩
    have := mget_mem ((h.names q.2 p hp p.1 hne).2 rfl)
    rw [e] at this; exact this
  · intro hq
    have hm := mem_mget hk (show (q.1, q.2) ∈ a.names from hq)
    have hi := hin q hq
    obtain ⟨p, hp, e⟩ := h.at_name hm hi
    exact ⟨by omega, p, hp, by rw [e]; exact h.nn q hq, e⟩
theorem nodup_of_map {α β : Type} {f : α → β} {l : List α} (h : (l.map f).Nodup) : l.Nodup := by
  rw [List.Nodup, List.pairwise_map] at h
  exact h.imp (fun hne e => hne (congrArg f e))
theorem QRep.order (h : QRep r a M) (hk : (a.names.map (·.1)).Nodup) (hin : ∀ p ∈ a.names, p.2 < a.files.length) : (orderOf r.all r.all.length).Perm a.names :=
  (List.perm_ext_iff_of_nodup (nodup_of_map orderOf_snd) (nodup_of_map hk)).2 (h.order_mem hk hin)
theorem QRep.named_iff (h : QRep r a M) (hk : (a.names.map (·.1)).Nodup) (hin : ∀ p ∈ a.names, p.2 < a.files.length) (i : Nat) : namedAt r.all i = true ↔ ∃ n, (n, i) ∈ a.names := by
  have hl := h.alen
  constructor
  · intro hn
    cases hp : r.all[i]? with
    | none => simp [namedAt, hp] at hn
    | some p =>
      rw [namedAt_at hp] at hn
      have := (List.getElem?_eq_some_iff.1 hp).1
      exact ⟨p.1, (h.order_mem hk hin (p.1, i)).1 (mem_orderOf.2 ⟨this, p, hp, of_decide_eq_true hn, rfl⟩)⟩
  · rintro ⟨n, hn⟩
    obtain ⟨_, p, hp, hne, _⟩ := mem_orderOf.1 ((h.order_mem hk hin (n, i)).2 hn)
    rw [namedAt_at hp]; exact decide_eq_true hne
theorem QRep.seqs (h : QRep r a M) (hA : AOk a) (hk : (a.names.map (·.1)).Nodup) (hin : ∀ p ∈ a.names, p.2 < a.files.length) : SortedOf ltI (seqsOf a a.names) ((liveW r.all r.ws).map (·.2.seq)) := by
  have hs : ((liveW r.all r.ws).map (·.2.seq)).Pairwise (· < ·) := by
    have := h.wsr
    rw [List.pairwise_map] at this ⊢
    exact this.sublist List.filter_sublist
  refine ⟨(List.perm_ext_iff_of_nodup (hs.imp (fun h e => by omega)) (seqs_nodup hA hin)).2 (fun s => ?_), ?_⟩
  · simp only [List.mem_map, liveW, List.mem_filter, seqsOf, List.mem_flatMap, seqsAt]
    constructor
    · rintro ⟨q, ⟨hq, hn⟩, rfl⟩
      obtain ⟨n, hn⟩ := (h.named_iff hk hin q.1).1 hn
      refine ⟨(n, q.1), hn, q.2, ?_, rfl⟩
      rw [← h.ws q.1 (h.win q hq)]
      exact List.mem_map.2 ⟨q, List.mem_filter.2 ⟨hq, by simp⟩, rfl⟩
    · rintro ⟨p, hp, x, hx, rfl⟩
      rw [← h.ws p.2 (hin p hp)] at hx
      obtain ⟨q, hq, rfl⟩ := List.mem_map.1 hx
      obtain ⟨hq, e⟩ := List.mem_filter.1 hq
      have e : q.1 = p.2 := of_decide_eq_true e
      exact ⟨q, ⟨hq, (h.named_iff hk hin q.1).2 ⟨p.1, by rw [e]; exact hp⟩⟩, rfl⟩
  · refine hs.imp (fun h => ?_)
    simp only [ltI, Bool.not_eq_true', decide_eq_false_iff_not]; omega
end
theorem kept_at {which : Int} {ys : List Int} (hy : ys.Nodup) : ∀ k, k ≤ ys.length → ∀ i y, i < k → ys[i]? = some y → mget y (keptT which ys k) = some (keepB which i) := by
  intro k
  induction k with
  | zero => intro _ i y h; omega
  | succ k ih =>
    intro hkl i y hi hyi
    obtain ⟨z, hz⟩ : ∃ z, ys[k]? = some z := ⟨ys[k]'(by omega), by rw [List.getElem?_eq_getElem]⟩
    rw [keptT_succ hz]
    by_cases e : y = z
    · subst e
      have hik : i = k := (List.getElem?_inj (show i < ys.length by omega) hy).1 (hyi.trans hz.symm)
      subst hik; exact mget_mset_eq
    · rw [mget_mset_ne e]
      by_cases hik : i = k
      · subst hik; rw [hz] at hyi; cases hyi; exact absurd rfl e
      · exact ih (by omega) i y (by omega) hyi
theorem keepB_nat {w k : Nat} (hk : k < 64) : keepB (w : Int) k = decide (w / 2 ^ k % 2 = 1) := by
  have h1 : (w : Int).fdiv (2 ^ (min k 64)) = ((w / 2 ^ k : Nat) : Int) := by
    rw [show min k 64 = k by omega, Int.fdiv_eq_ediv_of_nonneg _ (by exact_mod_cast Nat.zero_le (2 ^ k))]
    push_cast; rfl
  have h2 : (BitVec.ofInt 64 ((w / 2 ^ k : Nat) : Int) &&& BitVec.ofInt 64 1).toNat = w / 2 ^ k % 2 := by
    rw [BitVec.toNat_and, BitVec.toNat_ofInt, BitVec.toNat_ofInt]
    rw [show ((1 : Int) % ((2 ^ 64 : Nat) : Int)).toNat = 1 by decide, Nat.and_one_is_mod]
    have : (((w / 2 ^ k : Nat) : Int) % ((2 ^ 64 : Nat) : Int)).toNat = (w / 2 ^ k) % 2 ^ 64 := by omega
    rw [this]; omega
  unfold keepB bitV
  rw [h1, h2, decide_eq_true hk, Bool.true_and]
  have h3 : IntKind.u64.wrap ((w / 2 ^ k % 2 : Nat) : Int) = ((w / 2 ^ k % 2 : Nat) : Int) := by
    simp only [IntKind.wrap, IntKind.bits, IntKind.signed]
    have : w / 2 ^ k % 2 < 2 := Nat.mod_lt _ (by omega)
    generalize w / 2 ^ k % 2 = z at this
    simp; omega
  rw [h3]
  generalize w / 2 ^ k % 2 = z
  simp only [decide_eq_decide]
  omega
def partF (r : QR) (a : AW) (m : List (Int × Bool)) (i f : Nat) : List UInt8 := (((r.ws.take i).filter (fun p => decide (p.1 = f))).map (·.2)).foldl (onKept m) (fileAt a f).base
def LeftI (r : QR) (a : AW) (m : List (Int × Bool)) (i : Nat) (L : List ByteArray) : Prop := L.length = r.all.length ∧ ∀ f, namedAt r.all f = true → L[f]? = some (ftxt (partF r a m i f))
theorem partF_other {r : QR} {a : AW} {m : List (Int × Bool)} {i f : Nat} {p : Nat × Wr} (hp : r.ws[i]? = some p) (hf : p.1 ≠ f) : partF r a m (i + 1) f = partF r a m i f := by
  simp [partF, List.take_add_one, hp, hf]
theorem partF_same {r : QR} {a : AW} {m : List (Int × Bool)} {i : Nat} {p : Nat × Wr} (hp : r.ws[i]? = some p) : partF r a m (i + 1) p.1 = onKept m (partF r a m i p.1) p.2 := by
  simp [partF, List.take_add_one, hp, List.foldl_append]
theorem partF_all {r : QR} {a : AW} {M : Nat} {m : List (Int × Bool)} {f : Nat} (h : QRep r a M) (hf : f < a.files.length) : partF r a m r.ws.length f = recF m (fileAt a f) := by
  simp only [partF, List.take_length, h.ws f hf, recF]
theorem partF_le {r : QR} {a : AW} {M : Nat} {m : List (Int × Bool)} {i f : Nat} (h : QRep r a M) (hf : f < a.files.length) (hb : (fileAt a f).base.length ≤ 4194304) (hx : ∀ x ∈ (fileAt a f).writes, 0 ≤ x.at_ ∧ x.at_ + x.text.size ≤ 4194304) : (partF r a m i f).length ≤ 4194304 := by
  refine foldl_kept_le hb (fun x hx2 => hx x ?_)
  rw [← h.ws f hf]
  obtain ⟨q, hq, rfl⟩ := List.mem_map.1 hx2
  obtain ⟨hq, e⟩ := List.mem_filter.1 hq
  exact List.mem_map.2 ⟨q, List.mem_filter.2 ⟨List.mem_of_mem_take hq, e⟩, rfl⟩
theorem LeftI.skip {r : QR} {a : AW} {m : List (Int × Bool)} {i : Nat} {L : List ByteArray} {p : Nat × Wr} (h : LeftI r a m i L) (hp : r.ws[i]? = some p) (hn : namedAt r.all p.1 = false) : LeftI r a m (i + 1) L :=
  ⟨h.1, fun f hf => by rw [partF_other hp (fun e => by rw [e, hf] at hn; cases hn)]; exact h.2 f hf⟩
theorem LeftI.drop {r : QR} {a : AW} {m : List (Int × Bool)} {i : Nat} {L : List ByteArray} {p : Nat × Wr} (h : LeftI r a m i L) (hp : r.ws[i]? = some p) (hk : mget p.2.seq m = some false) : LeftI r a m (i + 1) L := by
  refine ⟨h.1, fun f hf => ?_⟩
  by_cases e : p.1 = f
  · subst e; rw [partF_same hp, onKept, hk]; exact h.2 _ hf
  · rw [partF_other hp e]; exact h.2 f hf
theorem LeftI.keep {r : QR} {a : AW} {m : List (Int × Bool)} {i : Nat} {L : List ByteArray} {p : Nat × Wr} (h : LeftI r a m i L) (hp : r.ws[i]? = some p) (hl : p.1 < r.all.length) (hk : mget p.2.seq m = some true) : LeftI r a m (i + 1) (L.set p.1 (ftxt (onL p.2 (partF r a m i p.1)))) := by
  refine ⟨by rw [List.length_set]; exact h.1, fun f hf => ?_⟩
  by_cases e : p.1 = f
  · subst e; rw [partF_same hp, onKept, hk, List.getElem?_set_self (by rw [h.1]; exact hl)]; rfl
  · rw [partF_other hp e, List.getElem?_set_ne e]; exact h.2 f hf
theorem live_succ {all : AllT} {ws : List (Nat × Wr)} {i : Nat} {p : Nat × Wr} (hp : ws[i]? = some p) : (liveW all (ws.take (i + 1))).length = (liveW all (ws.take i)).length + (if namedAt all p.1 then 1 else 0) := by
  simp only [liveW, List.take_add_one, hp, Option.toList_some, List.filter_append, List.length_append]
  cases h : namedAt all p.1 <;> simp [h]
theorem live_at {all : AllT} {ws : List (Nat × Wr)} {i : Nat} {p : Nat × Wr} (hp : ws[i]? = some p) (hn : namedAt all p.1 = true) : ((liveW all ws).map (·.2.seq))[(liveW all (ws.take i)).length]? = some p.2.seq := by
  obtain ⟨hi, e⟩ := List.getElem?_eq_some_iff.1 hp
  have : ws = ws.take i ++ p :: ws.drop (i + 1) := by rw [← e, ← List.drop_eq_getElem_cons hi, List.take_append_drop]
  have h2 : liveW all ws = liveW all (ws.take i) ++ p :: liveW all (ws.drop (i + 1)) := by
    conv => lhs; rw [this]
    simp only [liveW, List.filter_append, List.filter_cons, hn, if_true]
  rw [h2]; simp
def leftAll (r : QR) (a : AW) (m : List (Int × Bool)) (i : Nat) : AllT := (orderOf r.all i).map (fun q => (q.1, ftxt (recF m (fileAt a q.2)), ftxt (recF m (fileAt a q.2))))
theorem leftAll_succ {r : QR} {a : AW} {m : List (Int × Bool)} {i : Nat} {p : ByteArray × ByteArray × ByteArray} (h : r.all[i]? = some p) : leftAll r a m (i + 1) = leftAll r a m i ++ (if p.1 = nilTx then [] else [(p.1, ftxt (recF m (fileAt a i)), ftxt (recF m (fileAt a i)))]) := by
  unfold leftAll
  rw [orderOf_succ h, List.map_append]
  by_cases e : p.1 = nilTx <;> simp [e]
theorem orderOf_le {all : AllT} {i : Nat} : (orderOf all i).length ≤ i := by
  unfold orderOf
  rw [List.length_map]
  exact Nat.le_trans (List.length_filter_le _ _) (by simp)
theorem leftAll_le {r : QR} {a : AW} {m : List (Int × Bool)} {i : Nat} : (leftAll r a m i).length ≤ i := by
  unfold leftAll
  rw [List.length_map]; exact orderOf_le
theorem leftC_get {a : AW} {m : List (Int × Bool)} {cs : List Ch} {C : List (ByteArray × Nat)} {n : ByteArray} {i : Nat} (hk : (C.map (·.1)).Nodup) : mget n (leftC a m cs C).names = some i ↔ (C[i]?).map (·.1) = some n := by
  constructor
  · intro h
    have := mget_mem h
    simp only [leftC, List.mem_map] at this
    obtain ⟨⟨q, j⟩, hq, e⟩ := this
    rw [List.mem_zipIdx_iff_getElem?] at hq
    simp only [Prod.mk.injEq] at e hq
    obtain ⟨e1, rfl⟩ := e
    rw [hq, Option.map_some, e1]
  · intro h
    cases hq : C[i]? with
    | none => rw [hq] at h; cases h
    | some q =>
      rw [hq, Option.map_some, Option.some.injEq] at h
      refine mem_mget (by rw [leftC_names]; exact hk) ?_
      simp only [leftC, List.mem_map]
      exact ⟨(q, i), by rw [List.mem_zipIdx_iff_getElem?]; exact hq, by rw [h]⟩
theorem QRep.left {r : QR} {a : AW} {M : Nat} (h : QRep r a M) (hk : (a.names.map (·.1)).Nodup) (hin : ∀ p ∈ a.names, p.2 < a.files.length) {m : List (Int × Bool)} (hle : ∀ f, f < a.files.length → (recF m (fileAt a f)).length ≤ 4194304)
    {cs : List Ch} {cv av : Value} {csp asp : List Value} (hc : IsSl 3 cv cs.length (cs.flatMap chEnc) csp) (hcm : cs.length ≤ 65536) (hal : IsSl 3 av (leftAll r a m r.all.length).length ((leftAll r a m r.all.length).flatMap alEnc) asp) :
    QRep ⟨cv, cs, csp, av, leftAll r a m r.all.length, asp, .slice none 0 0, [], [], .slice none 0 0, [], [], .slice none 0 0, [], [], r.now, false⟩ (leftC a m cs (orderOf r.all r.all.length)) M := by
  have hord := h.order hk hin
  have hkeys : ((orderOf r.all r.all.length).map (·.1)).Nodup := ((hord.map (·.1)).nodup_iff).2 hk
  refine ⟨rfl, rfl, rfl, h.now, rfl, ?_, ?_, ?_, by simp, .nil, by simp, hc, hal, .nil, .nil, .nil, hcm, ?_, by simp, by simp, by simp, h.clk, by simp, by simp [leftC], ?_, ?_⟩
  · simp only [leftAll, leftC, List.map_map]
    rfl
  · intro i p hp n hn
    rw [leftC_get hkeys]
    simp only [leftAll, List.getElem?_map] at hp
    cases hq : (orderOf r.all r.all.length)[i]? with
    | none => rw [hq] at hp; cases hp
    | some q =>
      rw [hq, Option.map_some, Option.some.injEq] at hp
      subst hp
      simp only [Option.map_some, Option.some.injEq]
  · intro i hi
    simp only [leftC, List.length_map] at hi
    simp [fileAt, leftC, hi]
  · exact Nat.le_trans leftAll_le h.am
  · intro f hf
    simp only [leftC, List.mem_map] at hf
    obtain ⟨q, hq, rfl⟩ := hf
    exact hle _ (hin _ ((h.order_mem hk hin q).1 hq))
  · intro p hp
    have hm : p.1 ∈ (leftC a m cs (orderOf r.all r.all.length)).names.map (·.1) := List.mem_map_of_mem hp
    rw [leftC_names] at hm
    obtain ⟨q, hq, e⟩ := List.mem_map.1 hm
    rw [← e]
    exact h.nn _ ((h.order_mem hk hin q).1 hq)
instance : LawfulBEq ByteArray where
  rfl {a} := by show (a.data == a.data) = true; simp
  eq_of_beq {a b} h := by
    have h2 : (a.data == b.data) = true := h
    exact ByteArray.ext (by simpa using h2)
def turnL {α : Type} (d : α) (s : List Nat) (l : List α) : List α := s.map (fun i => (l[i]?).getD d)
theorem turnL_map {α β : Type} (f : α → β) (d : α) (s : List Nat) (l : List α) : (turnL d s l).map f = turnL (f d) s (l.map f) := by
  unfold turnL
  rw [List.map_map]
  refine List.map_congr_left (fun i _ => ?_)
  simp only [Function.comp, List.getElem?_map]
  cases l[i]? <;> rfl
theorem turnL_range {α : Type} (d : α) (l : List α) : turnL d (List.range l.length) l = l := by
  unfold turnL
  apply List.ext_getElem
  · simp
  · intro i h1 h2; simp [h2]
theorem turnL_perm {α : Type} {d : α} {s : List Nat} {l : List α} (h : s.Perm (List.range l.length)) : (turnL d s l).Perm l := by
  have := h.map (fun i => (l[i]?).getD d)
  exact this.trans (by rw [show (List.range l.length).map (fun i => (l[i]?).getD d) = l from turnL_range d l])
theorem turnL_at {α : Type} {d : α} {s : List Nat} {l : List α} {k : Nat} (hk : k ∈ s) : (turnL d s l)[s.idxOf k]? = some ((l[k]?).getD d) := by
  unfold turnL
  rw [List.getElem?_map, List.getElem?_eq_getElem (List.idxOf_lt_length_of_mem hk), Option.map_some, List.getElem_idxOf]
def turnA (s : List Nat) (a : AW) : AW := { a with files := turnL ⟨[], [], []⟩ s a.files, names := a.names.map (fun p => (p.1, s.idxOf p.2)) }
def turnW (d : Nat × FO) (s : List Nat) (w : WR) : WR := { w with objs := turnL d s w.objs }
theorem Rep.turn {w : WR} {a : AW} {M : Nat} (h : Rep w a M) (hs0 : a.hs = []) {s : List Nat} (hs : s.Perm (List.range a.files.length)) (d : Nat × FO) : Rep (turnW d s w) (turnA s a) M := by
  have hol : w.objs.length = a.files.length := by simpa using congrArg List.length h.files
  have hso : s.Perm (List.range w.objs.length) := by rw [hol]; exact hs
  have hp := turnL_perm (d := d) hso
  have hp1 := hp.map (·.1)
  have hmem : ∀ k, k < a.files.length → k ∈ s := fun k hk => hs.mem_iff.2 (List.mem_range.2 hk)
  have hsl : s.length = a.files.length := by simpa using hs.length_eq
  have hhs : w.hs = [] := by
    have := h.hs
    rw [hs0] at this
    simpa using this
  refine ⟨h.ch, h.tr, h.clock, h.seq, h.dead, ?_, ?_, ?_, ?_, ?_, { h.ok with blks := ?_, named := ?_, fo := ?_, hfile := ?_ }⟩
  · show w.names = _
    rw [h.names]
    simp only [turnA, turnW, List.map_map]
    refine List.map_congr_left (fun p hp => ?_)
    simp only [Function.comp, Prod.mk.injEq, true_and]
    have hk := h.nin p hp
    rw [turnL_map, List.getD_eq_getElem?_getD, List.getD_eq_getElem?_getD, turnL_at (hmem _ hk), Option.getD_some]
    rw [List.getElem?_map, List.getElem?_eq_getElem (by omega)]; rfl
  · intro p hp
    simp only [turnA, List.mem_map] at hp
    obtain ⟨q, hq, rfl⟩ := hp
    simp only [turnA, turnL, List.length_map]
    exact List.idxOf_lt_length_of_mem (hmem _ (h.nin q hq))
  · simp only [turnW, turnA]
    rw [turnL_map, h.files]
    unfold turnL
    refine List.map_congr_left (fun i hi => ?_)
    have : i < a.files.length := List.mem_range.1 (hs.mem_iff.1 hi)
    simp [this]
  · simp only [turnW, turnA, hhs, hs0, List.map_nil]
  · intro x hx; simp only [turnA, hs0] at hx; cases hx
  · exact hp1.nodup_iff.2 h.ok.blks
  · intro p hp; exact hp1.mem_iff.2 (h.ok.named p hp)
  · intro p hp2; exact h.ok.fo p (hp.mem_iff.1 hp2)
  · intro x hx; simp only [turnW, hhs] at hx; cases hx
theorem turnW_objs {d : Nat × FO} {s : List Nat} {w : WR} (h : s.Perm (List.range w.objs.length)) : ((turnW d s w).objs.flatMap foA).Perm (w.objs.flatMap foA) := (turnL_perm (d := d) h).flatMap_right _
def ordS (ord C : List (ByteArray × Nat)) : List Nat := C.map (fun q => ord.idxOf q)
theorem ordS_perm {ord C : List (ByteArray × Nat)} (h : C.Perm ord) (hn : ord.Nodup) : (ordS ord C).Perm (List.range ord.length) := by
  refine (h.map (fun q => ord.idxOf q)).trans ?_
  have : ord.map (fun q => ord.idxOf q) = List.range ord.length := by
    apply List.ext_getElem
    · simp
    · intro i h1 h2
      simp only [List.getElem_map, List.getElem_range]
      exact List.Nodup.idxOf_getElem hn i (by simpa using h2)
  rw [this]
theorem leftC_turn {a : AW} {m : List (Int × Bool)} {cs : List Ch} {ord C : List (ByteArray × Nat)} (h : C.Perm ord) : (turnA (ordS ord C) (leftC a m cs ord)).files = (leftC a m cs C).files := by
  simp only [turnA, turnL, ordS, leftC, List.map_map]
  refine List.map_congr_left (fun q hq => ?_)
  have hm : q ∈ ord := h.mem_iff.1 hq
  simp only [Function.comp, List.getElem?_map, List.getElem?_eq_getElem (List.idxOf_lt_length_of_mem hm), List.getElem_idxOf, Option.map_some, Option.getD_some]
theorem leftC_turn_names {a : AW} {m : List (Int × Bool)} {cs : List Ch} {ord C : List (ByteArray × Nat)} (h : C.Perm ord) (hk : (ord.map (·.1)).Nodup) (n : ByteArray) (i : Nat) : (n, i) ∈ (turnA (ordS ord C) (leftC a m cs ord)).names ↔ (n, i) ∈ (leftC a m cs C).names := by
  have hnd : ord.Nodup := nodup_of_map hk
  have hCd : C.Nodup := h.nodup_iff.2 hnd
  simp only [turnA, leftC, List.map_map, List.mem_map, Function.comp]
  constructor
  · rintro ⟨⟨q, k⟩, hq, e⟩
    rw [List.mem_zipIdx_iff_getElem?] at hq
    simp only [Prod.mk.injEq] at e hq
    obtain ⟨rfl, rfl⟩ := e
    have hqm : q ∈ C := h.mem_iff.2 (List.mem_of_getElem? hq)
    refine ⟨(q, C.idxOf q), ?_, ?_⟩
    · rw [List.mem_zipIdx_iff_getElem?]
      simp only
      rw [List.getElem?_eq_getElem (List.idxOf_lt_length_of_mem hqm), List.getElem_idxOf]
    · simp only [Prod.mk.injEq, true_and]
      have hk2 : ord.idxOf q = k := by
        obtain ⟨hkl, e⟩ := List.getElem?_eq_some_iff.1 hq
        subst e
        exact List.Nodup.idxOf_getElem hnd k hkl
      have hidx : (ordS ord C)[C.idxOf q]? = some k := by
        unfold ordS
        rw [List.getElem?_map, List.getElem?_eq_getElem (List.idxOf_lt_length_of_mem hqm), List.getElem_idxOf, Option.map_some, hk2]
      obtain ⟨hl, e2⟩ := List.getElem?_eq_some_iff.1 hidx
      have hsd : (ordS ord C).Nodup := (ordS_perm h hnd).nodup_iff.2 List.nodup_range
      rw [← e2]
      exact (List.Nodup.idxOf_getElem hsd _ hl).symm
  · rintro ⟨⟨q, j⟩, hq, e⟩
    rw [List.mem_zipIdx_iff_getElem?] at hq
    simp only [Prod.mk.injEq] at e hq
    obtain ⟨rfl, rfl⟩ := e
    have hqm : q ∈ ord := h.mem_iff.1 (List.mem_of_getElem? hq)
    refine ⟨(q, ord.idxOf q), ?_, ?_⟩
    · rw [List.mem_zipIdx_iff_getElem?]
      simp only
      rw [List.getElem?_eq_getElem (List.idxOf_lt_length_of_mem hqm), List.getElem_idxOf]
    · simp only [Prod.mk.injEq, true_and]
      have hidx : (ordS ord C)[j]? = some (ord.idxOf q) := by
        unfold ordS
        rw [List.getElem?_map, hq, Option.map_some]
      obtain ⟨hl, e2⟩ := List.getElem?_eq_some_iff.1 hidx
      have hsd : (ordS ord C).Nodup := (ordS_perm h hnd).nodup_iff.2 List.nodup_range
      rw [← e2]
      exact List.Nodup.idxOf_getElem hsd _ hl
theorem left_both {w : WR} {r : QR} {a : AW} {m : List (Int × Bool)} {cs : List Ch} {ord C : List (ByteArray × Nat)} {N M : Nat} (hR : Rep w (leftC a m cs ord) N) (hQ : QRep r (leftC a m cs C) M) (hi : AInv (leftC a m cs ord)) (h : C.Perm ord) (d : Nat × FO) :
    ∃ s b, s.Perm (List.range w.objs.length) ∧ Rep (turnW d s w) b N ∧ QRep r b M ∧ AInv b := by
  have hk : (ord.map (·.1)).Nodup := by have := hi.keys; rw [leftC_names] at this; exact this
  have hkC : (C.map (·.1)).Nodup := ((h.map (·.1)).nodup_iff).2 hk
  have hnd : ord.Nodup := nodup_of_map hk
  have hol : w.objs.length = ord.length := by
    have := congrArg List.length hR.files
    simpa [leftC] using this
  have hfl : (leftC a m cs ord).files.length = ord.length := by simp [leftC]
  have hs := ordS_perm h hnd
  have hfiles := leftC_turn (a := a) (m := m) (cs := cs) h
  have hmem := leftC_turn_names (a := a) (m := m) (cs := cs) h hk
  have hk1 : ((turnA (ordS ord C) (leftC a m cs ord)).names.map (·.1)).Nodup := by
    have : (turnA (ordS ord C) (leftC a m cs ord)).names.map (·.1) = (leftC a m cs ord).names.map (·.1) := by simp [turnA, List.map_map, Function.comp_def]
    rw [this, leftC_names]; exact hk
  have hk2 : ((leftC a m cs C).names.map (·.1)).Nodup := by rw [leftC_names]; exact hkC
  have hget : ∀ n i, mget n (turnA (ordS ord C) (leftC a m cs ord)).names = some i ↔ mget n (leftC a m cs C).names = some i := fun n i =>
    ⟨fun e => mem_mget hk2 ((hmem n i).1 (mget_mem e)), fun e => mem_mget hk1 ((hmem n i).2 (mget_mem e))⟩
  have hRt := hR.turn (s := ordS ord C) rfl (by rw [hfl]; exact hs) d
  have hfw : ∀ f ∈ (turnA (ordS ord C) (leftC a m cs ord)).files, f.writes = [] ∧ f.base = f.now := by
    intro f hf
    rw [hfiles] at hf
    simp only [leftC, List.mem_map] at hf
    obtain ⟨q, _, rfl⟩ := hf
    exact ⟨rfl, rfl⟩
  refine ⟨ordS ord C, turnA (ordS ord C) (leftC a m cs ord), by rw [hol]; exact hs, hRt, ?_, ⟨⟨?_, ?_, ?_⟩, hRt.nin, hk1, ?_⟩⟩
  · refine { hQ with ch := hQ.ch, told := hQ.told, hs := hQ.hs, now := hQ.now, dead := hQ.dead, files := (by rw [hfiles]; exact hQ.files), names := ?_, ws := ?_, win := ?_, wsq := hQ.wsq, hin := (by intro x hx; cases hx), low := (by rw [hfiles]; exact hQ.low), nn := ?_ }
    · intro i p hp n hn
      rw [hget]; exact hQ.names i p hp n hn
    · intro i hi2
      have e : fileAt (turnA (ordS ord C) (leftC a m cs ord)) i = fileAt (leftC a m cs C) i := by simp only [fileAt, hfiles]
      rw [e]; exact hQ.ws i (by rw [← hfiles]; exact hi2)
    · rw [hfiles]; exact hQ.win
    · intro p hp
      exact hQ.nn p ((hmem p.1 p.2).1 hp)
  · have : ((turnA (ordS ord C) (leftC a m cs ord)).files.flatMap fun f => f.writes.map (·.seq)) = [] := by
      rw [List.flatMap_eq_nil_iff]; intro f hf; rw [(hfw f hf).1]; rfl
    rw [this]; exact .nil
  · intro f hf x hx; rw [(hfw f hf).1] at hx; cases hx
  · have h1 := hi.ok.one
    simp only [turnA, List.map_map]
    have hsm : ∀ p ∈ (leftC a m cs ord).names, p.2 ∈ ordS ord C := fun p hp => hs.mem_iff.2 (List.mem_range.2 (by rw [← hfl]; exact hi.nin p hp))
    rw [List.Nodup, List.pairwise_map] at h1 ⊢
    refine h1.imp_of_mem (fun {x y} hx hy hne e => hne ?_)
    simp only [Function.comp] at e
    have e1 := List.getElem_idxOf (List.idxOf_lt_length_of_mem (hsm x hx))
    have e2 := List.getElem_idxOf (List.idxOf_lt_length_of_mem (hsm y hy))
    rw [← e1, ← e2]
    simp only [e]
  · intro f hf; rw [(hfw f hf).1, (hfw f hf).2]; rfl
theorem WMem_turn {t : Nat} {w : WR} {d : Nat × FO} {s : List Nat} (h : s.Perm (List.range w.objs.length)) : Imp (WMem t w) (WMem t (turnW d s w)) := by
  have := (turnW_objs (d := d) h).symm
  refine Imp.perm ?_
  simp only [WMem, List.flatten_cons, List.flatten_nil]
  simp only [turnW] at this ⊢
  simp only [List.perm_append_left_iff, List.perm_append_right_iff, this]
end Go.V

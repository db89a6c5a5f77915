/-
  The document's world in memory: what a world in terms of lists looks like there.
-/
import Derived.Test.YtgindbomnbojeaaGreatV17
set_option linter.unusedSimpArgs false
set_option linter.unusedVariables false
namespace Go.V
open Go
structure QR where
  cv : Value
  choices : List Ch
  csp : List Value
  av : Value
  all : List (ByteArray × ByteArray × ByteArray)
  asp : List Value
  wv : Value
  ws : List (Nat × Wr)
  wsp : List Value
  hv : Value
  hs : List HO
  hsp : List Value
  tv : Value
  told : List De
  tsp : List Value
  now : Int
  dead : Bool
def alEnc (p : ByteArray × ByteArray × ByteArray) : List Value := [.string p.1, .string p.2.1, .string p.2.2]
def rwEnc (p : Nat × Wr) : List Value := [vi p.1, vi p.2.at_, .string p.2.text, .bool p.2.empty]
def rhEnc (h : HO) : List Value := [vi (h.file.getD 0 : Nat), .bool h.file.isNone, vi h.mode, vi h.at_, .bool h.closed, .bool h.stale]
def QMem (t : Nat) (r : QR) : SH :=
  [cellsAt t 0 [r.cv, r.av, r.wv, r.hv, r.tv, vi r.now, .bool r.dead], slA r.cv (r.choices.flatMap chEnc) r.csp, slA r.av (r.all.flatMap alEnc) r.asp, slA r.wv (r.ws.flatMap rwEnc) r.wsp, slA r.hv (r.hs.flatMap rhEnc) r.hsp, slA r.tv (r.told.flatMap deEnc) r.tsp]
def hoN (h : HO) : HO := { h with stale := h.stale || h.closed }
def alOf (f : AF) : ByteArray × ByteArray := (ftxt f.now, ftxt f.base)
structure QRep (r : QR) (a : AW) (M : Nat) : Prop where
  ch : r.choices = a.choices
  told : r.told = a.trace
  hs : r.hs.map hoN = a.hs.map hoN
  now : r.now = a.clock
  dead : r.dead = a.dead
  files : r.all.map (·.2) = a.files.map alOf
  names : ∀ (i : Nat) p, r.all[i]? = some p → ∀ n, n ≠ nilTx → (mget n a.names = some i ↔ p.1 = n)
  ws : ∀ i, i < a.files.length → (r.ws.filter (fun p => decide (p.1 = i))).map (·.2) = (fileAt a i).writes
  win : ∀ p ∈ r.ws, p.1 < a.files.length
  wsr : (r.ws.map (·.2.seq)).Pairwise (· < ·)
  wsq : ∀ p ∈ r.ws, p.2.seq ≤ a.seq
  cs : IsSl 3 r.cv r.choices.length (r.choices.flatMap chEnc) r.csp
  as : IsSl 3 r.av r.all.length (r.all.flatMap alEnc) r.asp
  wsl : IsSl 4 r.wv r.ws.length (r.ws.flatMap rwEnc) r.wsp
  hsl : IsSl 6 r.hv r.hs.length (r.hs.flatMap rhEnc) r.hsp
  tsl : IsSl 6 r.tv r.told.length (r.told.flatMap deEnc) r.tsp
  cm : r.choices.length ≤ 65536
  am : r.all.length ≤ M + 64
  wm : r.ws.length ≤ M
  hm : r.hs.length ≤ M
  tm : r.told.length ≤ M
  clk : 0 ≤ r.now ∧ r.now ≤ 1000000000000000000
  hat : ∀ h ∈ r.hs, 0 ≤ h.at_ ∧ h.at_ ≤ 4194304
  hin : ∀ h ∈ a.hs, ∀ i, h.file = some i → i < a.files.length
  low : ∀ f ∈ a.files, f.now.length ≤ 4194304
  nn : ∀ p ∈ a.names, p.1 ≠ nilTx
section
variable {r : QR} {a : AW} {M : Nat}
theorem QRep.mono (h : QRep r a M) {N : Nat} (hN : M ≤ N) : QRep r a N :=
  { h with am := by have := h.am; omega, wm := Nat.le_trans h.wm hN, hm := Nat.le_trans h.hm hN, tm := Nat.le_trans h.tm hN }
theorem QRep.alen (h : QRep r a M) : r.all.length = a.files.length := by simpa using congrArg List.length h.files
theorem QRep.file (h : QRep r a M) {i : Nat} (hi : i < a.files.length) : ∃ p, r.all[i]? = some p ∧ p.2.1 = ftxt (fileAt a i).now ∧ p.2.2 = ftxt (fileAt a i).base := by
  have hl := h.alen
  refine ⟨r.all[i]'(by omega), List.getElem?_eq_getElem (by omega), ?_⟩
  have := congrArg (fun l => l[i]?) h.files
  simp only [List.getElem?_map, List.getElem?_eq_getElem hi, List.getElem?_eq_getElem (show i < r.all.length by omega), Option.map_some, Option.some.injEq, alOf] at this
  have hf : fileAt a i = a.files[i] := by simp [fileAt, hi]
  rw [hf]
  exact ⟨congrArg Prod.fst this, congrArg Prod.snd this⟩
theorem QRep.take (h : QRep r a M) {cv : Value} {csp : List Value} (hc : IsSl 3 cv (takeA a).choices.length ((takeA a).choices.flatMap chEnc) csp) : QRep { r with cv := cv, choices := (takeA a).choices, csp := csp, dead := (takeA a).dead } (takeA a) M := by
  refine { h with ch := rfl, dead := rfl, cs := hc, cm := ?_ }
  have := h.cm
  rw [h.ch] at this
  simp only [takeA]
  split
  · exact this
  · rw [List.length_tail]; omega
theorem QRep.tell (h : QRep r a M) {d : De} {tv : Value} {tsp : List Value} (ht : IsSl 6 tv (r.told.length + 1) (r.told.flatMap deEnc ++ deEnc d) tsp) : QRep { r with tv := tv, told := r.told ++ [d], tsp := tsp } { a with trace := a.trace ++ [d] } (M + 1) := by
  have h' := h.mono (Nat.le_succ M)
  refine { h' with told := by simp only [h.told], tsl := by simpa using ht, tm := ?_ }
  have := h.tm
  simp only [List.length_append, List.length_singleton]; omega
theorem mget_key {κ α : Type} [DecidableEq κ] {k : κ} {v : α} {l : List (κ × α)} (h : mget k l = some v) : k ∈ l.map (·.1) := List.mem_map_of_mem (f := Prod.fst) (mget_mem h)
theorem QRep.at_name (h : QRep r a M) {n : ByteArray} {i : Nat} (hm : mget n a.names = some i) (hi : i < a.files.length) : ∃ p, r.all[i]? = some p ∧ p.1 = n := by
  have hl := h.alen
  have hn : n ≠ nilTx := by
    obtain ⟨q, hq, e⟩ := List.mem_map.1 (mget_key hm)
    rw [← e]; exact h.nn q hq
  exact ⟨r.all[i]'(by omega), List.getElem?_eq_getElem (by omega), (h.names i _ (List.getElem?_eq_getElem (by omega)) n hn).1 hm⟩
theorem QRep.nil_name (h : QRep r a M) : mget nilTx a.names = none := by
  cases hm : mget nilTx a.names with
  | none => rfl
  | some i =>
    obtain ⟨q, hq, e⟩ := List.mem_map.1 (mget_key hm)
    exact absurd e (h.nn q hq)
theorem QRep.named (h : QRep r a M) (hk : (a.names.map (·.1)).Nodup) (hin : ∀ p ∈ a.names, p.2 < a.files.length) : ((r.all.filter (fun p => decide (p.1 ≠ nilTx))).map (·.1)).Perm (a.names.map (·.1)) := by
  refine (List.perm_ext_iff_of_nodup ?_ hk).2 (fun n => ?_)
  · rw [List.Nodup, List.pairwise_map, List.pairwise_filter, List.pairwise_iff_getElem]
    intro i j hi hj hij h1 h2 e
    have n1 : (r.all[i]).1 ≠ nilTx := by simpa using h1
    have a1 := (h.names i _ (List.getElem?_eq_getElem hi) _ n1).2 rfl
    have a2 := (h.names j _ (List.getElem?_eq_getElem hj) _ n1).2 e.symm
    rw [a1, Option.some.injEq] at a2
    omega
  · constructor
    · intro hn
      obtain ⟨p, hp, rfl⟩ := List.mem_map.1 hn
      obtain ⟨hp, hne⟩ := List.mem_filter.1 hp
      obtain ⟨i, hi⟩ := List.mem_iff_getElem?.1 hp
      exact mget_key ((h.names i p hi p.1 (by simpa using hne)).2 rfl)
    · intro hn
      obtain ⟨i, hm⟩ := mget_some_of hn
      have hmem := mget_mem hm
      obtain ⟨p, hp, e⟩ := h.at_name hm (hin _ hmem)
      refine List.mem_map.2 ⟨p, List.mem_filter.2 ⟨List.mem_of_getElem? hp, ?_⟩, e⟩
      rw [e]; simpa using h.nn _ hmem
theorem QRep.there (h : QRep r a M) (hk : (a.names.map (·.1)).Nodup) (hin : ∀ p ∈ a.names, p.2 < a.files.length) : (r.all.filter (fun p => decide (p.1 ≠ nilTx))).length = a.names.length := by
  have := (h.named hk hin).length_eq
  simpa using this
theorem onL_pad {x : Wr} {l : List UInt8} (he : x.empty = false) : onL x l = (l ++ List.replicate (x.at_.toNat - l.length) 0).take x.at_.toNat ++ x.text.data.toList ++ (l ++ List.replicate (x.at_.toNat - l.length) 0).drop (x.at_.toNat + x.text.size) := by
  simp only [onL, he, Bool.false_eq_true, if_false]
  generalize x.at_.toNat = k
  generalize x.text.size = m
  have h1 : (l ++ List.replicate (k + m - l.length) 0).take k = (l ++ List.replicate (k - l.length) 0).take k := by
    rw [List.take_append, List.take_append, List.take_replicate, List.take_replicate]
    congr 2; omega
  have h2 : (l ++ List.replicate (k + m - l.length) (0 : UInt8)).drop (k + m) = (l ++ List.replicate (k - l.length) 0).drop (k + m) := by
    rw [List.drop_append, List.drop_append, List.drop_replicate, List.drop_replicate]
    congr 2; omega
  rw [h1, h2]
end
theorem flat_set1 {α : Type} {enc : α → List Value} {n : Nat} (he : ∀ x, (enc x).length = n) {x y : α} {j : Nat} {v : Value} {sp : List Value} (hj : j < n) (hy : enc y = (enc x).set j v) : ∀ {l : List α} {k : Nat}, l[k]? = some x → (l.flatMap enc ++ sp).set (k * n + j) v = (l.set k y).flatMap enc ++ sp := by
  intro l
  induction l with
  | nil => intro k h; cases h
  | cons q l ih =>
    intro k h
    cases k with
    | zero =>
      cases h
      rw [Nat.zero_mul, Nat.zero_add, List.flatMap_cons, List.append_assoc, List.set_append_left _ _ (by rw [he]; exact hj), List.set_cons_zero, List.flatMap_cons, List.append_assoc, hy]
    | succ i =>
      rw [List.flatMap_cons, List.append_assoc, List.set_append_right _ _ (by rw [he, Nat.succ_mul]; omega), he]
      rw [show (i + 1) * n + j - n = i * n + j by rw [Nat.succ_mul]; omega, ih (by simpa using h), List.set_cons_succ, List.flatMap_cons, List.append_assoc]
theorem flat_get {α : Type} {enc : α → List Value} {n : Nat} (he : ∀ x, (enc x).length = n) {x : α} {j : Nat} (hj : j < n) : ∀ {l : List α} {k : Nat}, l[k]? = some x → (l.flatMap enc)[k * n + j]? = (enc x)[j]? := by
  intro l
  induction l with
  | nil => intro k h; cases h
  | cons q l ih =>
    intro k h
    cases k with
    | zero =>
      cases h
      rw [Nat.zero_mul, Nat.zero_add, List.flatMap_cons, List.getElem?_append_left (by rw [he]; exact hj)]
    | succ i =>
      rw [List.flatMap_cons, List.getElem?_append_right (by rw [he, Nat.succ_mul]; omega), he]
      rw [show (i + 1) * n + j - n = i * n + j by rw [Nat.succ_mul]; omega, ih (by simpa using h)]
theorem flat_lenS {α : Type} {enc : α → List Value} {n : Nat} (he : ∀ x, (enc x).length = n) (l : List α) : (l.flatMap enc).length = l.length * n := flatMap_len (fun x _ => he x)
theorem IsSl.setF {α : Type} {enc : α → List Value} {n : Nat} (he : ∀ x, (enc x).length = n) {v : Value} {l : List α} {sp : List Value} (h : IsSl n v l.length (l.flatMap enc) sp) (k : Nat) (y : α) : IsSl n v (l.set k y).length ((l.set k y).flatMap enc) sp := by
  have h1 : ((l.set k y).flatMap enc).length = (l.flatMap enc).length := by rw [flat_lenS he, flat_lenS he, List.length_set]
  rw [List.length_set]
  generalize (l.set k y).flatMap enc = ys at h1 ⊢
  generalize hxs : l.flatMap enc = xs at h h1
  generalize l.length = m at h
  cases h with
  | mk q1 q2 q3 => exact .mk (by omega) (by omega) q3
  | nil =>
    obtain rfl : ys = [] := List.eq_nil_of_length_eq_zero (by simpa using h1)
    exact .nil
theorem slA_at (b o n c : Nat) (xs sp : List Value) : slA (.slice (some ⟨b, o, none⟩) n c) xs sp = cellsAt b o (xs ++ sp) := rfl
theorem VC.joinT {P : Program} {n : Nat} {x y : IC} {Γ : Env} {H : SH} {Q : Exit → Env → SH → Prop} {α : Type} (Γf : α → Env) (Hf : α → SH) (I : α → Prop) (h1 : VC P n x Γ H (thenQ (fun Γ' H' => ∃ s, I s ∧ Sub Γ' (Γf s) ∧ Imp H' (Hf s)) Q))
    (h2 : ∀ s, I s → VC P n y (Γf s) (Hf s) Q) : VC P n x Γ H (thenQ (fun Γ' H' => VC P n y Γ' H' Q) Q) := by
  refine h1.mono ?_
  intro e Γ' H' q
  cases e <;> first
    | exact q
    | (obtain ⟨s, g1, g2, g3⟩ := q; exact (VC.imp g3 (VC.sub g2 (h2 s g1))))
theorem rhEnc_len (h : HO) : (rhEnc h).length = 6 := rfl
theorem alEnc_len (p : ByteArray × ByteArray × ByteArray) : (alEnc p).length = 3 := rfl
theorem rwEnc_len (p : Nat × Wr) : (rwEnc p).length = 4 := rfl
theorem chEnc_len (c : Ch) : (chEnc c).length = 3 := rfl
section
variable {r : QR} {a : AW} {M : Nat}
theorem QRep.hget (h : QRep r a M) (k : Nat) : (r.hs[k]?).map hoN = (a.hs[k]?).map hoN := by
  have := congrArg (fun l => l[k]?) h.hs
  simpa only [List.getElem?_map] using this
theorem QRep.hlen (h : QRep r a M) : r.hs.length = a.hs.length := by simpa using congrArg List.length h.hs
theorem hoN_open {x y : HO} (h : hoN x = hoN y) (hc : x.closed = false) : x = y := by
  have h1 : x.closed = y.closed := show (hoN x).closed = (hoN y).closed from congrArg HO.closed h
  have h2 : (x.stale || x.closed) = (y.stale || y.closed) := show (hoN x).stale = (hoN y).stale from congrArg HO.stale h
  have h3 : x.blk = y.blk := show (hoN x).blk = (hoN y).blk from congrArg HO.blk h
  have h4 : x.file = y.file := show (hoN x).file = (hoN y).file from congrArg HO.file h
  have h5 : x.mode = y.mode := show (hoN x).mode = (hoN y).mode from congrArg HO.mode h
  have h6 : x.at_ = y.at_ := show (hoN x).at_ = (hoN y).at_ from congrArg HO.at_ h
  rw [← h1, hc, Bool.or_false, Bool.or_false] at h2
  cases x; cases y; simp_all
theorem QRep.heldR (h : QRep r a M) (n : Int) (host : Bool) : heldE r.hs n host = heldE a.hs n host := by
  unfold heldE
  by_cases h1 : 1 ≤ n
  · rw [if_pos h1, if_pos h1]
    have hk := h.hget (n - 1).toNat
    cases hx : r.hs[(n - 1).toNat]? with
    | none =>
      cases hy : a.hs[(n - 1).toNat]? with
      | none => rfl
      | some y => rw [hx, hy] at hk; cases hk
    | some x =>
      cases hy : a.hs[(n - 1).toNat]? with
      | none => rw [hx, hy] at hk; cases hk
      | some y =>
        rw [hx, hy, Option.map_some, Option.map_some, Option.some.injEq] at hk
        have e1 : x.closed = y.closed := show (hoN x).closed = (hoN y).closed from congrArg HO.closed hk
        cases hc : x.closed with
        | true => simp only [← e1, hc, if_true]
        | false => rw [hoN_open hk hc]
  · rw [if_neg h1, if_neg h1]
theorem QRep.anyR (h : QRep r a M) (n : Int) : anyE r.hs n = anyE a.hs n := by
  unfold anyE
  by_cases h1 : 1 ≤ n
  · rw [if_pos h1, if_pos h1]
    have hk := h.hget (n - 1).toNat
    cases hx : r.hs[(n - 1).toNat]? with
    | none =>
      cases hy : a.hs[(n - 1).toNat]? with
      | none => rfl
      | some y => rw [hx, hy] at hk; cases hk
    | some x =>
      cases hy : a.hs[(n - 1).toNat]? with
      | none => rw [hx, hy] at hk; cases hk
      | some y =>
        rw [hx, hy, Option.map_some, Option.map_some, Option.some.injEq] at hk
        have e1 : x.closed = y.closed := show (hoN x).closed = (hoN y).closed from congrArg HO.closed hk
        simp only [e1]
  · rw [if_neg h1, if_neg h1]
theorem usedN_map (l : List HO) : usedN (l.map hoN) = usedN l := by
  unfold usedN
  rw [List.filter_map, List.length_map]
  congr 1
  refine List.filter_congr (fun x _ => ?_)
  simp only [hoN, Function.comp]
  cases x.closed <;> cases x.stale <;> rfl
theorem QRep.usedR (h : QRep r a M) : usedN r.hs = usedN a.hs := by rw [← usedN_map, h.hs, usedN_map]
theorem QRep.setH (h : QRep r a M) {n : Int} {x y : HO} (hx : a.hs[(n - 1).toNat]? = some x) (hf : y.file = x.file) (hat : 0 ≤ y.at_ ∧ y.at_ ≤ 4194304) : QRep { r with hs := r.hs.set (n - 1).toNat y } (putH a n y) M := by
  refine { h with hs := ?_, hsl := ?_, hm := ?_, hat := ?_, hin := ?_ }
  · simp only [putH, List.map_set, h.hs]
  · exact h.hsl.setF rhEnc_len _ _
  · simpa using h.hm
  · intro z hz
    rcases List.mem_or_eq_of_mem_set hz with hz | rfl
    · exact h.hat z hz
    · exact hat
  · intro z hz i hi
    rcases List.mem_or_eq_of_mem_set hz with hz | rfl
    · exact h.hin z hz i hi
    · exact h.hin x (List.mem_of_getElem? hx) i (hf ▸ hi)
theorem QRep.addH (h : QRep r a M) {y : HO} {hv : Value} {hsp : List Value} (hs : IsSl 6 hv (r.hs.length + 1) (r.hs.flatMap rhEnc ++ rhEnc y) hsp) (hin : ∀ i, y.file = some i → i < a.files.length) (ha : 0 ≤ y.at_ ∧ y.at_ ≤ 4194304) :
    QRep { r with hv := hv, hs := r.hs ++ [y], hsp := hsp } { a with hs := a.hs ++ [y] } (M + 1) := by
  have h' := h.mono (Nat.le_succ M)
  refine { h' with hs := by simp only [List.map_append, h.hs], hsl := by simpa using hs, hm := ?_, hat := ?_, hin := ?_ }
  · have := h.hm; simp only [List.length_append, List.length_singleton]; omega
  · intro z hz
    rcases List.mem_append.1 hz with hz | hz
    · exact h.hat z hz
    · rw [List.mem_singleton.1 hz]; exact ha
  · intro z hz i hi
    rcases List.mem_append.1 hz with hz | hz
    · exact h.hin z hz i hi
    · rw [List.mem_singleton.1 hz] at hi; exact hin i hi
theorem QRep.opened0 (h : QRep r a M) {n : Int} (he : anyE a.hs n = 0) : ∃ x, 1 ≤ n ∧ a.hs[(n - 1).toNat]? = some x ∧ r.hs[(n - 1).toNat]? = some x ∧ x.closed = false ∧ getH a n = x ∧ (0 ≤ x.at_ ∧ x.at_ ≤ 4194304) := by
  obtain ⟨h1, x, hx, hc⟩ := anyE_ok he
  have hk := h.hget (n - 1).toNat
  rw [hx] at hk
  cases hy : r.hs[(n - 1).toNat]? with
  | none => rw [hy] at hk; cases hk
  | some y =>
    rw [hy, Option.map_some, Option.map_some, Option.some.injEq] at hk
    obtain rfl : x = y := hoN_open hk.symm hc
    exact ⟨x, h1, hx, rfl, hc, by unfold getH; rw [hx]; rfl, h.hat x (List.mem_of_getElem? hy)⟩
theorem heldE_any {hs : List HO} {n : Int} {host : Bool} (h : heldE hs n host = 0) : anyE hs n = 0 := by
  obtain ⟨h1, x, hx, hc, _, _⟩ := heldE_ok h
  unfold anyE
  rw [if_pos h1, hx]
  simp [hc]
theorem QRep.opened (h : QRep r a M) {n : Int} {host : Bool} (he : heldE a.hs n host = 0) : ∃ x, 1 ≤ n ∧ a.hs[(n - 1).toNat]? = some x ∧ r.hs[(n - 1).toNat]? = some x ∧ x.closed = false ∧ x.file.isNone = host ∧ x.stale = false ∧ getH a n = x ∧ (0 ≤ x.at_ ∧ x.at_ ≤ 4194304) := by
  obtain ⟨x, h1, hx, hx2, hc, hg, hat⟩ := h.opened0 (heldE_any he)
  obtain ⟨_, y, hy, _, hh, hs⟩ := heldE_ok he
  rw [hx] at hy; cases hy
  exact ⟨x, h1, hx, hx2, hc, hh, hs, hg, hat⟩
theorem QRep.openedF (h : QRep r a M) {n : Int} (he : heldE a.hs n false = 0) : ∃ x j p, 1 ≤ n ∧ a.hs[(n - 1).toNat]? = some x ∧ r.hs[(n - 1).toNat]? = some x ∧ x.file = some j ∧ j < a.files.length ∧ getH a n = x ∧ getF a n = fileAt a j ∧ (0 ≤ x.at_ ∧ x.at_ ≤ 4194304) ∧ r.all[j]? = some p ∧ p.2.1 = ftxt (fileAt a j).now ∧ p.2.2 = ftxt (fileAt a j).base ∧ (fileAt a j).now.length ≤ 4194304 := by
  obtain ⟨x, h1, hx, hx2, _, hh, _, hg, hat⟩ := h.opened he
  cases hf : x.file with
  | none => rw [hf] at hh; cases hh
  | some j =>
    have hj := h.hin x (List.mem_of_getElem? hx) j hf
    obtain ⟨p, hp, e1, e2⟩ := h.file hj
    refine ⟨x, j, p, h1, hx, hx2, hf, hj, hg, by simp only [getF, hg, hf, Option.getD_some, fileAt], hat, hp, e1, e2, ?_⟩
    have : fileAt a j = a.files[j] := by simp [fileAt, hj]
    rw [this]; exact h.low _ (List.getElem_mem hj)
theorem QRep.clock (h : QRep r a M) {tm : Int} (ht : 0 ≤ tm ∧ tm ≤ 1000000000000000000) : QRep { r with now := tm } { a with clock := tm } M := { h with now := rfl, clk := ht }
theorem QRep.tellK (h : QRep r a M) {d : De} {tv : Value} {tsp : List Value} (ht : IsSl 6 tv (r.told.length + 1) (r.told.flatMap deEnc ++ deEnc d) tsp) (hm : r.told.length < M) : QRep { r with tv := tv, told := r.told ++ [d], tsp := tsp } { a with trace := a.trace ++ [d] } M := by
  refine { h with told := by simp only [h.told], tsl := by simpa using ht, tm := ?_ }
  simp only [List.length_append, List.length_singleton]; omega
end
theorem IsSl.reF {α : Type} {enc : α → List Value} {n : Nat} (he : ∀ x, (enc x).length = n) {v : Value} {l l' : List α} {sp : List Value} (h : IsSl n v l.length (l.flatMap enc) sp) (hl : l'.length = l.length) : IsSl n v l'.length (l'.flatMap enc) sp := by
  have h1 : (l'.flatMap enc).length = (l.flatMap enc).length := by rw [flat_lenS he, flat_lenS he, hl]
  rw [hl]
  generalize l'.flatMap enc = ys at h1 ⊢
  generalize hxs : l.flatMap enc = xs at h h1
  generalize l.length = m at h
  cases h with
  | mk q1 q2 q3 => exact .mk (by omega) (by omega) q3
  | nil =>
    obtain rfl : ys = [] := List.eq_nil_of_length_eq_zero (by simpa using h1)
    exact .nil
theorem fileAt_set {a : AW} {j i : Nat} {f : AF} (hj : j < a.files.length) : fileAt { a with files := a.files.set j f } i = if i = j then f else fileAt a i := by
  simp only [fileAt, List.getElem?_set]
  by_cases e : j = i
  · subst e; simp [hj]
  · rw [if_neg e, if_neg (fun h => e h.symm)]
theorem map_set_snd {α β : Type} {l : List (α × β)} {j : Nat} {p : α × β} (h : (l[j]?).map (·.2) = some p.2) : (l.set j p).map (·.2) = l.map (·.2) := by
  apply List.ext_getElem?
  intro i
  rw [List.map_set, List.getElem?_set]
  by_cases e : j = i
  · subst e
    rw [if_pos rfl, List.getElem?_map, h]
    cases hl : l[j]? with
    | none => rw [hl] at h; cases h
    | some q =>
      have := (List.getElem?_eq_some_iff.1 hl).1
      rw [if_pos (by simpa using this)]
  · rw [if_neg e]
section
variable {r : QR} {a : AW} {M : Nat}
theorem QRep.reN (h : QRep r a M) {all' : List (ByteArray × ByteArray × ByteArray)} {names' : List (ByteArray × Nat)} (hl : all'.map (·.2) = r.all.map (·.2)) (hn : ∀ (i : Nat) p, all'[i]? = some p → ∀ n, n ≠ nilTx → (mget n names' = some i ↔ p.1 = n)) (hnn : ∀ p ∈ names', p.1 ≠ nilTx) : QRep { r with all := all' } { a with names := names' } M := by
  have hlen : all'.length = r.all.length := by simpa using congrArg List.length hl
  exact { h with files := by rw [← h.files]; exact hl, names := hn, as := h.as.reF alEnc_len hlen, am := by show all'.length ≤ M + 64; rw [hlen]; exact h.am, nn := hnn }
theorem setName {all : List (ByteArray × ByteArray × ByteArray)} {j : Nat} {p : ByteArray × ByteArray × ByteArray} (hp : all[j]? = some p) (n : ByteArray) : (all.set j (n, p.2)).map (·.2) = all.map (·.2) := map_set_snd (by rw [hp]; rfl)
theorem QRep.delete (h : QRep r a M) (hk : (a.names.map (·.1)).Nodup) {s : ByteArray} {j : Nat} {p : ByteArray × ByteArray × ByteArray} (hm : mget s a.names = some j) (hp : r.all[j]? = some p) : QRep { r with all := r.all.set j (nilTx, p.2) } { a with names := mdel s a.names } M := by
  have hs : p.1 = s := (h.names j p hp s (by
    obtain ⟨q, hq, e⟩ := List.mem_map.1 (mget_key hm)
    rw [← e]; exact h.nn q hq)).1 hm
  refine h.reN (setName hp _) (fun i q hq n hn => ?_) (fun q hq => h.nn q (mem_mdel hq))
  rw [List.getElem?_set] at hq
  by_cases e : j = i
  · subst e
    rw [if_pos rfl] at hq
    split at hq
    · cases hq
      simp only
      constructor
      · intro hg
        by_cases en : n = s
        · rw [en, mget_mdel_eq hk] at hg; cases hg
        · rw [mget_mdel_ne en] at hg
          exact absurd ((h.names j p hp n hn).1 hg) (by rw [hs]; exact fun e => en e.symm)
      · intro e; exact absurd e.symm hn
    · cases hq
  · rw [if_neg e] at hq
    by_cases en : n = s
    · subst en
      rw [mget_mdel_eq hk]
      constructor
      · intro h; cases h
      · intro hqn
        have := (h.names i q hq n hn).2 hqn
        rw [hm, Option.some.injEq] at this
        exact absurd this e
    · rw [mget_mdel_ne en]; exact h.names i q hq n hn
theorem QRep.put (h : QRep r a M) {s : ByteArray} (hs : s ≠ nilTx) {j : Nat} {p : ByteArray × ByteArray × ByteArray} (hp : r.all[j]? = some p) (hno : mget s a.names = none) (hj : ∀ n, n ≠ nilTx → mget n a.names ≠ some j) : QRep { r with all := r.all.set j (s, p.2) } { a with names := mset s j a.names } M := by
  refine h.reN (setName hp _) (fun i q hq n hn => ?_) (fun q hq => ?_)
  · rw [List.getElem?_set] at hq
    by_cases e : j = i
    · subst e
      rw [if_pos rfl] at hq
      split at hq
      · cases hq
        simp only
        by_cases en : n = s
        · subst en; rw [mget_mset_eq]; simp
        · rw [mget_mset_ne en]
          constructor
          · intro hg; exact absurd hg (hj n hn)
          · intro e; exact absurd e.symm en
      · cases hq
    · rw [if_neg e] at hq
      by_cases en : n = s
      · subst en
        rw [mget_mset_eq]
        constructor
        · intro h; simp only [Option.some.injEq] at h; exact absurd h e
        · intro hqn
          have := (h.names i q hq n hn).2 hqn
          rw [hno] at this; cases this
      · rw [mget_mset_ne en]; exact h.names i q hq n hn
  · rcases mem_mset hq with rfl | hq
    · exact hs
    · exact h.nn q hq
theorem QRep.write (h : QRep r a M) {j : Nat} {x : Wr} (hj : j < a.files.length) (hx : x.seq = a.seq + 1) {p : ByteArray × ByteArray × ByteArray} (hp : r.all[j]? = some p) (hlow : (onL x (fileAt a j).now).length ≤ 4194304) {wv : Value} {wsp : List Value} (hw : IsSl 4 wv (r.ws.length + 1) (r.ws.flatMap rwEnc ++ rwEnc (j, x)) wsp) :
    QRep { r with all := r.all.set j (p.1, ftxt (onL x (fileAt a j).now), p.2.2), wv := wv, ws := r.ws ++ [(j, x)], wsp := wsp } { a with files := a.files.set j (doesA (fileAt a j) x), seq := a.seq + 1 } (M + 1) := by
  have h' := h.mono (Nat.le_succ M)
  have hfa : fileAt a j = a.files[j] := by simp [fileAt, hj]
  obtain ⟨p', hp', e1, e2⟩ := h.file hj
  rw [hp] at hp'; cases hp'
  refine { h' with files := ?_, names := ?_, ws := ?_, win := ?_, wsr := ?_, wsq := ?_, as := h.as.setF alEnc_len _ _, wsl := by simpa using hw, am := ?_, wm := ?_, hin := ?_, low := ?_ }
  · rw [List.map_set, List.map_set, h.files]
    simp only [alOf, doesA, e2]
  · intro i q hq n hn
    rw [List.getElem?_set] at hq
    by_cases e : j = i
    · subst e
      rw [if_pos rfl] at hq
      split at hq
      · cases hq; exact h.names j p hp n hn
      · cases hq
    · rw [if_neg e] at hq; exact h.names i q hq n hn
  · intro i hi
    have hi : i < a.files.length := by simpa using hi
    show ((r.ws ++ [(j, x)]).filter _).map _ = _
    have hff : fileAt { a with files := a.files.set j (doesA (fileAt a j) x), seq := a.seq + 1 } i = if i = j then doesA (fileAt a j) x else fileAt a i := fileAt_set (a := { a with seq := a.seq + 1 }) hj
    rw [hff, List.filter_append, List.map_append, h.ws i hi]
    by_cases e : i = j
    · subst e; simp [doesA]
    · have e' : ¬ j = i := fun h => e h.symm
      simp [e, e']
  · intro q hq
    simp only [List.length_set]
    rcases List.mem_append.1 hq with hq | hq
    · exact h.win q hq
    · rw [List.mem_singleton.1 hq]; exact hj
  · show ((r.ws ++ [(j, x)]).map _).Pairwise _
    rw [List.map_append, List.pairwise_append]
    refine ⟨h.wsr, by simp, fun s hs t ht => ?_⟩
    obtain ⟨q, hq, rfl⟩ := List.mem_map.1 hs
    simp only [List.map_cons, List.map_nil, List.mem_singleton] at ht
    subst ht
    have := h.wsq q hq
    simp only [hx]; omega
  · intro q hq
    rcases List.mem_append.1 hq with hq | hq
    · have := h.wsq q hq; show q.2.seq ≤ a.seq + 1; omega
    · rw [List.mem_singleton.1 hq]; show x.seq ≤ a.seq + 1; omega
  · have := h.am; show (r.all.set j _).length ≤ M + 1 + 64; rw [List.length_set]; omega
  · have := h.wm; show (r.ws ++ [_]).length ≤ M + 1; simp; omega
  · intro z hz i hi
    have := h.hin z hz i hi
    show i < (a.files.set j _).length
    rw [List.length_set]; exact this
  · intro f hf
    rcases List.mem_or_eq_of_mem_set hf with hf | rfl
    · exact h.low f hf
    · exact hlow
theorem QRep.sync (h : QRep r a M) {j : Nat} (hj : j < a.files.length) {p : ByteArray × ByteArray × ByteArray} (hp : r.all[j]? = some p) {wv : Value} {wsp : List Value} (hw : IsSl 4 wv (r.ws.filter (fun q => decide (q.1 ≠ j))).length ((r.ws.filter (fun q => decide (q.1 ≠ j))).flatMap rwEnc) wsp) :
    QRep { r with all := r.all.set j (p.1, p.2.1, p.2.1), wv := wv, ws := r.ws.filter (fun q => decide (q.1 ≠ j)), wsp := wsp } { a with files := a.files.set j ⟨(fileAt a j).now, (fileAt a j).now, []⟩ } M := by
  have hfa : fileAt a j = a.files[j] := by simp [fileAt, hj]
  obtain ⟨p', hp', e1, e2⟩ := h.file hj
  rw [hp] at hp'; cases hp'
  refine { h with files := ?_, names := ?_, ws := ?_, win := ?_, wsr := ?_, wsq := ?_, as := h.as.setF alEnc_len _ _, wsl := hw, am := ?_, wm := ?_, hin := ?_, low := ?_ }
  · rw [List.map_set, List.map_set, h.files]
    simp only [alOf, e1]
  · intro i q hq n hn
    rw [List.getElem?_set] at hq
    by_cases e : j = i
    · subst e
      rw [if_pos rfl] at hq
      split at hq
      · cases hq; exact h.names j p hp n hn
      · cases hq
    · rw [if_neg e] at hq; exact h.names i q hq n hn
  · intro i hi
    have hi : i < a.files.length := by simpa using hi
    show ((r.ws.filter _).filter _).map _ = _
    rw [fileAt_set hj, List.filter_filter]
    by_cases e : i = j
    · subst e
      rw [if_pos rfl]
      have : r.ws.filter (fun q => decide (q.1 = i) && decide (q.1 ≠ i)) = [] := by
        rw [List.filter_eq_nil_iff]; intro q _; simp
      rw [this]; rfl
    · rw [if_neg e, ← h.ws i hi]
      congr 1
      refine List.filter_congr (fun q _ => ?_)
      by_cases hq : q.1 = i
      · simp [hq, e]
      · simp [hq]
  · intro q hq
    simp only [List.length_set]
    exact h.win q (List.mem_filter.1 hq).1
  · exact h.wsr.sublist (List.filter_sublist.map _)
  · intro q hq; exact h.wsq q (List.mem_filter.1 hq).1
  · show (r.all.set j _).length ≤ M + 64; rw [List.length_set]; exact h.am
  · exact Nat.le_trans (List.length_filter_le _ _) h.wm
  · intro z hz i hi
    have := h.hin z hz i hi
    show i < (a.files.set j _).length
    rw [List.length_set]; exact this
  · intro f hf
    rcases List.mem_or_eq_of_mem_set hf with hf | rfl
    · exact h.low f hf
    · show (fileAt a j).now.length ≤ 4194304; rw [hfa]; exact h.low _ (List.getElem_mem hj)
theorem QRep.newFile (h : QRep r a M) (hnin : ∀ p ∈ a.names, p.2 < a.files.length) {s : ByteArray} (hs : s ≠ nilTx) (hno : mget s a.names = none) {t : List UInt8} (ht : t.length ≤ 4194304) {av : Value} {asp : List Value} (ha : IsSl 3 av (r.all.length + 1) (r.all.flatMap alEnc ++ alEnc (s, ftxt t, ftxt t)) asp) :
    QRep { r with av := av, all := r.all ++ [(s, ftxt t, ftxt t)], asp := asp } { a with names := mset s a.files.length a.names, files := a.files ++ [⟨t, t, []⟩] } (M + 1) := by
  have h' := h.mono (Nat.le_succ M)
  have hl := h.alen
  refine { h' with files := ?_, names := ?_, ws := ?_, win := ?_, as := by simpa using ha, am := ?_, hin := ?_, low := ?_, nn := ?_ }
  · simp [h.files, alOf]
  · intro i q hq n hn
    by_cases hi : i < r.all.length
    · rw [List.getElem?_append_left hi] at hq
      by_cases en : n = s
      · subst en
        rw [mget_mset_eq]
        constructor
        · intro e; simp only [Option.some.injEq] at e; omega
        · intro hqn
          have := (h.names i q hq n hn).2 hqn
          rw [hno] at this; cases this
      · rw [mget_mset_ne en]; exact h.names i q hq n hn
    · have hi2 : i = r.all.length := by
        have := (List.getElem?_eq_some_iff.1 hq).1
        simp only [List.length_append, List.length_singleton] at this; omega
      subst hi2
      rw [List.getElem?_append_right (Nat.le_refl _), Nat.sub_self] at hq
      cases hq
      by_cases en : n = s
      · subst en; rw [mget_mset_eq, hl]; simp
      · rw [mget_mset_ne en]
        constructor
        · intro hg
          have := hnin _ (mget_mem hg)
          simp only at this; omega
        · intro e; exact absurd e.symm en
  · intro i hi
    have hi : i < a.files.length + 1 := by simpa using hi
    by_cases e : i = a.files.length
    · subst e
      have : r.ws.filter (fun p => decide (p.1 = a.files.length)) = [] := by
        rw [List.filter_eq_nil_iff]; intro q hq; have := h.win q hq; simp; omega
      show (r.ws.filter _).map _ = _
      rw [this]; simp [fileAt]
    · have hi : i < a.files.length := by omega
      have := h.ws i hi
      show (r.ws.filter _).map _ = _
      rw [this]
      simp only [fileAt, List.getElem?_append_left hi]
  · intro q hq; have := h.win q hq; simp; omega
  · have := h.am; simp; omega
  · intro z hz i hi; have := h.hin z hz i hi; simp; omega
  · intro f hf
    rcases List.mem_append.1 hf with hf | hf
    · exact h.low f hf
    · rw [List.mem_singleton.1 hf]; exact ht
  · intro q hq
    rcases mem_mset hq with rfl | hq
    · exact hs
    · exact h.nn q hq
end
def mapTo {α : Type} (f : α → α) (k : Nat) (l : List α) : List α := l.mapIdx fun i x => if i < k then f x else x
theorem mapTo_zero {α : Type} {f : α → α} {l : List α} : mapTo f 0 l = l := by
  apply List.ext_getElem?
  intro j
  simp only [mapTo, List.getElem?_mapIdx]
  cases l[j]? <;> simp
theorem mapTo_get {α : Type} {f : α → α} {l : List α} {k : Nat} {x : α} (h : l[k]? = some x) : (mapTo f k l)[k]? = some x := by simp [mapTo, List.getElem?_mapIdx, h]
theorem mapTo_len {α : Type} {f : α → α} {l : List α} {k : Nat} : (mapTo f k l).length = l.length := by simp [mapTo]
theorem mapTo_succ {α : Type} {f : α → α} {l : List α} {k : Nat} {x : α} (h : l[k]? = some x) : mapTo f (k + 1) l = (mapTo f k l).set k (f x) := by
  apply List.ext_getElem?
  intro j
  rw [List.getElem?_set]
  by_cases e : k = j
  · subst e
    have hl := (List.getElem?_eq_some_iff.1 h).1
    rw [if_pos rfl, if_pos (by rw [mapTo_len]; exact hl)]
    simp [mapTo, List.getElem?_mapIdx, h]
  · rw [if_neg e]
    simp only [mapTo, List.getElem?_mapIdx]
    cases l[j]? with
    | none => rfl
    | some q => simp only [Option.map_some]; simp only [show (j < k + 1) = (j < k) from by apply propext; omega]
theorem mapTo_keep {α : Type} {f : α → α} {l : List α} {k : Nat} {x : α} (h : l[k]? = some x) (hx : f x = x) : mapTo f (k + 1) l = mapTo f k l := by
  rw [mapTo_succ h, hx]
  apply List.ext_getElem?
  intro j
  rw [List.getElem?_set]
  by_cases e : k = j
  · subst e
    have hl := (List.getElem?_eq_some_iff.1 h).1
    rw [if_pos rfl, if_pos (by rw [mapTo_len]; exact hl), mapTo_get h]
  · rw [if_neg e]
theorem mapTo_all {α : Type} {f : α → α} {l : List α} {k : Nat} (h : l.length ≤ k) : mapTo f k l = l.map f := by
  apply List.ext_getElem?
  intro j
  simp only [mapTo, List.getElem?_mapIdx, List.getElem?_map]
  cases hj : l[j]? with
  | none => rfl
  | some q => have := (List.getElem?_eq_some_iff.1 hj).1; simp only [Option.map_some]; rw [if_pos (by omega)]
def staleM (a : AW) : AW := { a with hs := a.hs.map fun h => { h with stale := true } }
def signalM (a : AW) : Int × Bool × AW :=
  if a.dead then (0, false, a) else match a.choices with
    | [] => (0, false, a)
    | c :: cs => if c.kind = 6 then (c.n, true, { a with choices := cs }) else (0, false, a)
def staleQ (h : HO) : HO := if h.closed then h else { h with stale := true }
theorem staleQ_hoN (h : HO) : hoN (staleQ h) = hoN { h with stale := true } := by
  unfold staleQ hoN
  cases hc : h.closed <;> simp [hc]
theorem QRep.stale {r : QR} {a : AW} {M : Nat} (h : QRep r a M) : QRep { r with hs := r.hs.map staleQ } (staleM a) M := by
  refine { h with hs := ?_, hsl := h.hsl.reF rhEnc_len (by simp), hm := by simpa using h.hm, hat := ?_, hin := ?_ }
  · simp only [staleM, List.map_map]
    have e1 : hoN ∘ staleQ = (fun h => { h with stale := true }) ∘ hoN := by
      funext x
      show hoN (staleQ x) = { hoN x with stale := true }
      rw [staleQ_hoN]
      simp [hoN]
    have e2 : hoN ∘ (fun h : HO => { h with stale := true }) = (fun h => { h with stale := true }) ∘ hoN := by
      funext x
      simp only [Function.comp, hoN]
      cases x.stale <;> cases x.closed <;> rfl
    rw [e1, e2, ← List.map_map, ← List.map_map, h.hs]
  · intro z hz
    obtain ⟨y, hy, rfl⟩ := List.mem_map.1 hz
    have := h.hat y hy
    unfold staleQ; split <;> exact this
  · intro z hz i hi
    obtain ⟨y, hy, rfl⟩ := List.mem_map.1 hz
    exact h.hin y hy i hi
section
variable {r : QR} {a : AW} {M : Nat}
theorem QRep.nameAt (h : QRep r a M) {s : ByteArray} {j : Nat} {p : ByteArray × ByteArray × ByteArray} (hm : mget s a.names = some j) (hp : r.all[j]? = some p) : p.1 = s ∧ s ≠ nilTx := by
  have hs : s ≠ nilTx := by
    obtain ⟨q, hq, e⟩ := List.mem_map.1 (mget_key hm)
    rw [← e]; exact h.nn q hq
  exact ⟨(h.names j p hp s hs).1 hm, hs⟩
theorem QRep.rename0 (h : QRep r a M) {s : ByteArray} {j : Nat} (hm : mget s a.names = some j) : QRep r { a with names := mset s j (mdel s a.names) } M := by
  refine h.reN (all' := r.all) rfl (fun i p hp n hn => ?_) (fun p hp => ?_)
  · rw [← h.names i p hp n hn]
    by_cases e : n = s
    · subst e; rw [mget_mset_eq, hm]
    · rw [mget_mset_ne e, mget_mdel_ne e]
  · rcases mem_mset hp with rfl | hp
    · obtain ⟨q, hq, e⟩ := List.mem_map.1 (mget_key hm)
      show s ≠ nilTx
      rw [← e]; exact h.nn q hq
    · exact h.nn p (mem_mdel hp)
theorem rename_nn (h : QRep r a M) {s q : ByteArray} (hq : q ≠ nilTx) {j : Nat} : ∀ p ∈ mset q j (mdel s a.names), p.1 ≠ nilTx := by
  intro p hp
  rcases mem_mset hp with rfl | hp
  · exact hq
  · exact h.nn p (mem_mdel hp)
theorem QRep.rename1 (h : QRep r a M) (hk : (a.names.map (·.1)).Nodup) {s q : ByteArray} (hq : q ≠ nilTx) {j : Nat} {p : ByteArray × ByteArray × ByteArray} (hm : mget s a.names = some j) (hp : r.all[j]? = some p) (hno : mget q a.names = none) :
    QRep { r with all := r.all.set j (q, p.2) } { a with names := mset q j (mdel s a.names) } M := by
  obtain ⟨hps, hs⟩ := h.nameAt hm hp
  refine h.reN (setName hp _) (fun i p' hp' n hn => ?_) (rename_nn h hq)
  rw [List.getElem?_set] at hp'
  by_cases e : j = i
  · subst e
    rw [if_pos rfl] at hp'
    split at hp'
    · cases hp'
      simp only
      by_cases en : n = q
      · subst en; rw [mget_mset_eq]; simp
      · rw [mget_mset_ne en]
        by_cases es : n = s
        · subst es; rw [mget_mdel_eq hk]; constructor
          · intro hh; cases hh
          · intro e; exact absurd e.symm en
        · rw [mget_mdel_ne es]; constructor
          · intro hh; exact absurd ((h.names j p hp n hn).1 hh) (by rw [hps]; exact fun e => es e.symm)
          · intro e; exact absurd e.symm en
    · cases hp'
  · rw [if_neg e] at hp'
    rw [← h.names i p' hp' n hn]
    by_cases en : n = q
    · subst en; rw [mget_mset_eq, hno]; constructor
      · intro hh; simp only [Option.some.injEq] at hh; exact absurd hh e
      · intro hh; cases hh
    · rw [mget_mset_ne en]
      by_cases es : n = s
      · subst es; rw [mget_mdel_eq hk, hm]; constructor
        · intro hh; cases hh
        · intro hh; simp only [Option.some.injEq] at hh; exact absurd hh e
      · rw [mget_mdel_ne es]
theorem QRep.rename2 (h : QRep r a M) (hk : (a.names.map (·.1)).Nodup) {s q : ByteArray} (hsq : s ≠ q) {j k : Nat} {p pk : ByteArray × ByteArray × ByteArray} (hm : mget s a.names = some j) (hp : r.all[j]? = some p) (hmk : mget q a.names = some k) (hpk : r.all[k]? = some pk) :
    k ≠ j ∧ QRep { r with all := (r.all.set k (nilTx, pk.2)).set j (q, p.2) } { a with names := mset q j (mdel s a.names) } M := by
  obtain ⟨hps, hs⟩ := h.nameAt hm hp
  obtain ⟨hpq, hq⟩ := h.nameAt hmk hpk
  have hkj : k ≠ j := by
    rintro rfl
    rw [hp] at hpk; cases hpk
    exact hsq (hps.symm.trans hpq)
  refine ⟨hkj, ?_⟩
  have hp2 : (r.all.set k (nilTx, pk.2))[j]? = some p := by rw [List.getElem?_set_ne hkj]; exact hp
  refine h.reN ((setName hp2 _).trans (setName hpk _)) (fun i p' hp' n hn => ?_) (rename_nn h hq)
  rw [List.getElem?_set] at hp'
  by_cases e : j = i
  · subst e
    rw [if_pos rfl] at hp'
    split at hp'
    · cases hp'
      simp only
      by_cases en : n = q
      · subst en; rw [mget_mset_eq]; simp
      · rw [mget_mset_ne en]
        by_cases es : n = s
        · subst es; rw [mget_mdel_eq hk]; constructor
          · intro hh; cases hh
          · intro e; exact absurd e.symm en
        · rw [mget_mdel_ne es]; constructor
          · intro hh; exact absurd ((h.names j p hp n hn).1 hh) (by rw [hps]; exact fun e => es e.symm)
          · intro e; exact absurd e.symm en
    · cases hp'
  · rw [if_neg e, List.getElem?_set] at hp'
    by_cases ek : k = i
    · subst ek
      rw [if_pos rfl] at hp'
      split at hp'
      · cases hp'
        simp only
        constructor
        · intro hh
          by_cases en : n = q
          · subst en; rw [mget_mset_eq, Option.some.injEq] at hh; exact absurd hh.symm hkj
          · rw [mget_mset_ne en] at hh
            by_cases es : n = s
            · subst es; rw [mget_mdel_eq hk] at hh; cases hh
            · rw [mget_mdel_ne es] at hh
              exact absurd ((h.names k pk hpk n hn).1 hh) (by rw [hpq]; exact fun e => en e.symm)
        · intro e; exact absurd e.symm hn
      · cases hp'
    · rw [if_neg ek] at hp'
      rw [← h.names i p' hp' n hn]
      by_cases en : n = q
      · subst en; rw [mget_mset_eq, hmk]; constructor
        · intro hh; simp only [Option.some.injEq] at hh; exact absurd hh e
        · intro hh; simp only [Option.some.injEq] at hh; exact absurd hh ek
      · rw [mget_mset_ne en]
        by_cases es : n = s
        · subst es; rw [mget_mdel_eq hk, hm]; constructor
          · intro hh; cases hh
          · intro hh; simp only [Option.some.injEq] at hh; exact absurd hh e
        · rw [mget_mdel_ne es]
end
end Go.V

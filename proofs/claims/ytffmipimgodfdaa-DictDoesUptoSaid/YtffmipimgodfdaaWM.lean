/-
  A map's keys, sorted.
-/
import Derived.Test.YtffmipimgodfdaaWK0
import Derived.Test.YtffmipimgodfdaaVS
set_option linter.unusedSimpArgs false
set_option linter.unusedVariables false
namespace Go.Proofs.Ytffmipimgodfdaa
open Go Go.V
set_option maxHeartbeats 1600000
set_option maxRecDepth 100000
set_option linter.unusedSimpArgs false
set_option linter.unusedVariables false
theorem keys_iter {β : Type} {Vf : β → Value} (q b c : Nat) (es : Array MapEntry) (l : List (ByteArray × β)) (hl : MapIs kStr Vf es c l) (hk : (l.map (·.1)).Nodup) :
    Iter Try.prog (.func (.func 65) #[] #[ptr0 q]) (fun s => [.string s]) [cellsAt q 0 [.map (some b)], [.obj b (.map es c)]] [cellsAt q 0 [.map (some b)], [.obj b (.map es c)]] (fun full => full.Perm (l.map (·.1))) := by
  intro y J SP hy A hA
  refine FunV.of_fun (first := #[]) (cap := #[ptr0 q]) ?_
  show Fun Try.prog 65 [y, ptr0 q] _ _
  refine Fun.intro low65 (by simp [F65]) ?_
  simp only [List.cons_append, List.nil_append]
  refine GO ?_
  refine st_rangeM (by rfl) (.there .here) (fun q2 => ?_)
  refine GO ?_
  refine VC.loop (α := Array Nat × List ByteArray × List Atom) (Γf := fun _ => [(0, y), (5, ptr0 q2)])
    (Hf := fun s => [[.obj q2 (.mapIter (some b) c s.1 c)], cellsAt q 0 [.map (some b)], [.obj b (.map es c)], s.2.2])
    (I := fun s => s.2.1.Nodup ∧ (∀ k ∈ s.2.1, k ∈ l.map (·.1)) ∧ J s.2.1 s.2.2 ∧ ∀ e ∈ es.toList, (e.born ∈ s.1.toList ↔ ∃ k ∈ s.2.1, e.key = .string k))
    (μ := fun s => (es.toList.filter fun e => decide (e.born ∉ s.1.toList)).length) (#[], [], A) ⟨.nil, by simp, hA, by simp⟩ (by (repeat (first | exact Sub.nil | (apply Sub.cons; rfl)))) (by (first | with_reducible exact Imp.refl | with_reducible exact Imp.left | (focus ((try simp only [List.nil_append]); (repeat (first | exact Imp.nil | (apply Imp.cons; (focus ((repeat (first | with_reducible exact Tk.here | apply Tk.there)); done))))); done)))) ?_
  rintro ⟨seen, C, A⟩ ⟨i1, i2, i3, i4⟩
  simp only at i1 i2 i3 i4
  dsimp only
  refine GO ?_
  refine st_next (b := b) (es := es) (by rfl) .here (.there .here) hl.clock (fun hover => ?_) (fun e he hne => ?_)
  · refine GO ?_
    refine endQ_mk (Post := [cellsAt q 0 [.map (some b)], [.obj b (.map es c)], A]) (.inl rfl) .nil ⟨rfl, .inl ⟨C, A, ?_, i3, rfl⟩⟩ (by (first | with_reducible exact Imp.refl | with_reducible exact Imp.left | (focus ((try simp only [List.nil_append]); (repeat (first | exact Imp.nil | (apply Imp.cons; (focus ((repeat (first | with_reducible exact Tk.here | apply Tk.there)); done))))); done))))
    refine (List.perm_ext_iff_of_nodup i1 hk).2 (fun k => ⟨i2 k, fun hk2 => ?_⟩)
    obtain ⟨p, hp, rfl⟩ := List.mem_map.1 hk2
    obtain ⟨e, he, e1, _⟩ := hl.has hp
    obtain ⟨k, hk3, e3⟩ := (i4 e he).1 (hover e he)
    rw [e1] at e3
    cases e3
    exact hk3
  · obtain ⟨p, hp, e1, e2⟩ := hl.entry he
    have hnk : p.1 ∉ C := fun hc => hne ((i4 e he).2 ⟨p.1, hc, e1⟩)
    have hC1 : (C ++ [p.1]).Nodup := by
      rw [List.nodup_append]
      exact ⟨i1, by simp, fun x hx y hy => by rw [List.mem_singleton.1 hy]; intro e; subst e; exact hnk hx⟩
    have hC2 : ∀ k ∈ C ++ [p.1], k ∈ l.map (·.1) := by
      intro k hk'
      rcases List.mem_append.1 hk' with hk' | hk'
      · exact i2 k hk'
      · rw [List.mem_singleton.1 hk']; exact List.mem_map.2 ⟨p, hp, rfl⟩
    have hok : OkC (fun full => full.Perm (l.map (·.1))) (C ++ [p.1]) := nodup_extend hC1 hk hC2
    refine GO ?_
    refine st_entry (b := b) (es := es) (e := e) (by rfl) .here (.there (.there .here)) hl.born he ?_
    rw [e1, e2]
    refine GO ?_
    refine st_callV (by rfl) (hy C p.1 A hok i3) (by rfl) (by (focus ((repeat (first | exact Spl.nil | (apply Spl.cons; (focus ((repeat (first | with_reducible exact Tk.here | apply Tk.there)); done))))); done))) (fun v Post hv => ?_)
    rcases hv with ⟨rfl, A', hA', rfl⟩ | ⟨rfl, B', hB', rfl⟩
    · simp only [List.cons_append, List.nil_append]
      refine GO ?_
      have hless : (es.toList.filter fun e' => decide (e'.born ∉ (seen.push e.born).toList)).length < (es.toList.filter fun e' => decide (e'.born ∉ seen.toList)).length := by
        refine filter_less (fun x _ h => ?_) he (by simpa using hne) (by simp)
        simp at h ⊢
        exact h.1
      refine ⟨(seen.push e.born, C ++ [p.1], A'), ⟨hC1, hC2, hA', fun e' he' => ?_⟩, hless, by (repeat (first | exact Sub.nil | (apply Sub.cons; rfl))), by (first | with_reducible exact Imp.refl | with_reducible exact Imp.left | (focus ((try simp only [List.nil_append]); (repeat (first | exact Imp.nil | (apply Imp.cons; (focus ((repeat (first | with_reducible exact Tk.here | apply Tk.there)); done))))); done)))⟩
      simp only [Array.toList_push, List.mem_append, List.mem_singleton]
      constructor
      · rintro (h | h)
        · obtain ⟨k, hk1, hk2⟩ := (i4 e' he').1 h
          exact ⟨k, .inl hk1, hk2⟩
        · have := born_one hl.born he' he h
          subst this
          exact ⟨p.1, .inr rfl, e1⟩
      · rintro ⟨k, hk1 | hk1, hk2⟩
        · exact .inl ((i4 e' he').2 ⟨k, hk1, hk2⟩)
        · subst hk1
          exact .inr (by rw [key_one hl hk he' he (hk2.trans e1.symm)])
    · simp only [List.cons_append, List.nil_append]
      refine GO ?_
      exact endQ_mk (Post := [cellsAt q 0 [.map (some b)], [.obj b (.map es c)], B']) (.inr rfl) .nil ⟨rfl, .inr ⟨C ++ [p.1], B', hok, hB', rfl⟩⟩ (by (first | with_reducible exact Imp.refl | with_reducible exact Imp.left | (focus ((try simp only [List.nil_append]); (repeat (first | exact Imp.nil | (apply Imp.cons; (focus ((repeat (first | with_reducible exact Tk.here | apply Tk.there)); done))))); done))))

theorem keys_spec (b : Nat) : Fun Try.prog 57 [.map (some b)] [] (fun v Post => ∃ q, v = .func (.func 65) #[] #[ptr0 q] ∧ Post = [cellsAt q 0 [.map (some b)]]) := by
  refine Fun.intro low57 (by simp [F57]) ?_
  refine GO ?_
  refine st_box (by rfl) (fun q => ?_)
  simp only [Value.cells]
  refine GO ?_
  refine ⟨.inr rfl, _, _, .tmp (by rfl) .nil, by (first | with_reducible exact Imp.refl | with_reducible exact Imp.left | (focus ((try simp only [List.nil_append]); (repeat (first | exact Imp.nil | (apply Imp.cons; (focus ((repeat (first | with_reducible exact Tk.here | apply Tk.there)); done))))); done))), ⟨q, rfl, rfl⟩⟩

theorem appendseq_spec (f : Nat) (first cap : Array Value) (Pre Post : SH) (Spec : List ByteArray → Prop) (hit : Iter Try.prog (.func (.func f) first cap) (fun s => [.string s]) Pre Post Spec) (hlen : ∀ c, OkC Spec c → c.length ≤ 1073741823) :
    Fun Try.prog 68 [.slice none 0 0, .func (.func f) first cap] Pre (fun v B => ∃ xs sv sp, Spec xs ∧ IsSl 1 sv xs.length (xs.map Value.string) sp ∧ v = sv ∧ B = slA sv (xs.map Value.string) sp :: Post) := by
  refine Fun.intro low68 (by simp [F68]) ?_
  refine GO ?_
  refine st_box (by rfl) (fun q => ?_)
  simp only [Value.cells]
  refine GO ?_
  refine VC.rangef (α := ByteArray) (enc := fun s => [.string s]) (fun c A => ∃ sv sp, IsSl 1 sv c.length (c.map Value.string) sp ∧ A = cellsAt q 0 [sv] ++ slA sv (c.map Value.string) sp) (cellsAt q 0 [.slice none 0 0]) (by rfl) hit Spl.tail1 (Imp.refl _)
    ⟨.slice none 0 0, [], .nil, by simp [slA]⟩ (fun _ => rfl) ?_ ?_
  · rintro c x A hok ⟨sv, sp, hsl, rfl⟩
    have hl := hlen _ hok
    simp only [List.length_append, List.length_singleton] at hl
    simp only [bindE]
    refine VC.imp (H' := [cellsAt q 0 [sv], slA sv (c.map Value.string) sp]) (Imp.perm (by simp)) ?_
    refine VC.reg ?_
    refine GO ?_
    refine ⟨trivial, ?_⟩
    refine GO ?_
    refine st_bslice (out := [.string x]) (by rfl) (by rfl) (fun q3 => ?_)
    refine st_append (k := c.length) (m := 1) (xs := c.map Value.string) (sp := sp) (ys := [.string x]) (by rfl) (by rfl) hsl (by (focus ((repeat (first | with_reducible exact Tk.here | apply Tk.there)); done))) (by rfl) ?_ rfl (by rfl) (by rfl) (by decide) (by omega) (fun sv' sp' hsl' => ?_)
    · exact ⟨rfl, fun a ha => by simp only [List.flatten_cons, List.mem_append]; exact .inl ha⟩
    obtain ⟨a', c', hf'⟩ := hsl'.form
    subst hf'
    refine GO ?_
    refine ⟨cellsAt q 0 [.slice a' (c.length + 1) c'] ++ slA (.slice a' (c.length + 1) c') ((c ++ [x]).map Value.string) sp', ⟨_, sp', ?_, rfl⟩, ?_⟩
    · have : (c ++ [x]).length = c.length + 1 := by simp
      rw [this, List.map_append]; exact hsl'
    · rw [List.map_append]
      refine Imp.cut (M := [cellsAt q 0 [.slice a' (c.length + 1) c'], slA (.slice a' (c.length + 1) c') (c.map Value.string ++ [.string x]) sp']) (by (first | with_reducible exact Imp.refl | with_reducible exact Imp.left | (focus ((try simp only [List.nil_append]); (repeat (first | exact Imp.nil | (apply Imp.cons; (focus ((repeat (first | with_reducible exact Tk.here | apply Tk.there)); done))))); done)))) (Imp.perm (by simp))
  · rintro full A hf ⟨sv, sp, hsl, rfl⟩
    simp only [V.blockQ, V.thenQ]
    refine VC.imp (H' := cellsAt q 0 [sv] :: slA sv (full.map Value.string) sp :: Post) (Imp.perm ?_) ?_
    · simp only [List.flatten_append, List.flatten_cons, List.flatten_nil, List.append_nil, List.append_assoc]
      exact (perm_lead _ _ _).trans (List.Perm.append_left _ List.perm_append_comm)
    refine GO ?_
    exact endQ_mk (Post := slA sv (full.map Value.string) sp :: Post) (.inr rfl) (.tmp (by rfl) .nil) ⟨full, sv, sp, hf, hsl, rfl, rfl⟩ Imp.tail1

theorem sorted_spec (f : Nat) (first cap : Array Value) (Pre Post : SH) (Spec : List ByteArray → Prop) (hit : Iter Try.prog (.func (.func f) first cap) (fun s => [.string s]) Pre Post Spec) (hlen : ∀ c, OkC Spec c → c.length ≤ 1073741823 ∧ c.Nodup) :
    Fun Try.prog 56 [.func (.func f) first cap] Pre (fun v B => ∃ xs ys sv sp, Spec xs ∧ SortedOf ltS xs ys ∧ IsSl 1 sv ys.length (ys.map Value.string) sp ∧ v = sv ∧ B = slA sv (ys.map Value.string) sp :: Post) := by
  refine Fun.intro low56 (by simp [F56]) ?_
  have hcollect : Fun Try.prog 63 [.func (.func f) first cap] Pre (fun v B => ∃ xs sv sp, Spec xs ∧ IsSl 1 sv xs.length (xs.map Value.string) sp ∧ v = sv ∧ B = slA sv (xs.map Value.string) sp :: Post) := by
    refine Fun.intro low63 (by simp [F63]) ?_
    refine GO ?_
    refine st_call (appendseq_spec f first cap Pre Post Spec hit (fun c hc => (hlen c hc).1)) (by rfl) (R := []) (by simp [V.Spl]) (fun v B hv => ?_)
    obtain ⟨xs, sv, sp, h1, h2, rfl, rfl⟩ := hv
    rw [List.append_nil]
    refine GO ?_
    exact endQ_mk (Post := slA v (xs.map Value.string) sp :: Post) (.inr rfl) (.tmp (by rfl) .nil) ⟨xs, v, sp, h1, h2, rfl, rfl⟩ (Imp.refl _)
  refine GO ?_
  refine st_call hcollect (by rfl) (R := []) (by simp [V.Spl]) (fun v B hv => ?_)
  obtain ⟨xs, sv, sp, h1, h2, rfl, rfl⟩ := hv
  rw [List.append_nil]
  refine GO ?_
  have hx := hlen xs ⟨[], by simp [h1]⟩
  refine st_call (sort_string v xs sp h2 hx.1 hx.2) (by rfl) (Spl.cons .here Spl.nil) (fun v2 B hv => ?_)
  obtain ⟨rfl, ys, h3, rfl⟩ := hv
  have hl : ys.length = xs.length := h3.1.length_eq
  simp only [List.cons_append, List.nil_append]
  refine GO ?_
  refine endQ_mk (Post := slA v (ys.map Value.string) sp :: Post) (.inr rfl) (.tmp (by rfl) .nil) ⟨xs, ys, v, sp, h1, h3, ?_, rfl, rfl⟩ (Imp.refl _)
  rw [hl]
  exact h2.other (by simp [hl])
end Go.Proofs.Ytffmipimgodfdaa
namespace Go.V
open Go

/-- A choice; a deed; a write; a file; a handle. -/
structure Ch where
  kind : Int
  n : Int
  text : ByteArray
structure De where
  kind : Int
  handle : Int
  text : ByteArray
  to : ByteArray
  n : Int
  err : Int
structure Wr where
  seq : Int
  at_ : Int
  text : ByteArray
  empty : Bool
structure FO where
  now : List UInt8
  base : List UInt8
  writes : List Wr
  nv : Value
  bv : Value
  wv : Value
  ns : List Value
  bs : List Value
  ws : List Value
structure HO where
  blk : Nat
  closed : Bool
  stale : Bool
  file : Option Nat
  mode : Int
  at_ : Int

def chEnc (c : Ch) : List Value := [.int .u8 c.kind, vi c.n, .string c.text]
def deEnc (d : De) : List Value := [.int .u8 d.kind, vi d.handle, .string d.text, .string d.to, vi d.n, vi d.err]
def wrEnc (x : Wr) : List Value := [vi x.seq, vi x.at_, .string x.text, .bool x.empty]
def u8v (c : UInt8) : Value := .int .u8 c.toNat
def pf (f : Option Nat) : Value := .pointer (f.map fun b => ⟨b, 0, none⟩)
def hoEnc (h : HO) : List Value := [.bool h.closed, .bool h.stale, pf h.file, vi h.mode, vi h.at_]
def hoA (h : HO) : List Atom := cellsAt h.blk 0 (hoEnc h)
def foA (p : Nat × FO) : List Atom := cellsAt p.1 0 [p.2.nv, p.2.bv, p.2.wv] ++ (slA p.2.nv (p.2.now.map u8v) p.2.ns ++ (slA p.2.bv (p.2.base.map u8v) p.2.bs ++ slA p.2.wv (p.2.writes.flatMap wrEnc) p.2.ws))

structure WR where
  cv : Value
  choices : List Ch
  csp : List Value
  fm : Nat
  fes : Array MapEntry
  fc : Nat
  names : List (ByteArray × Nat)
  objs : List (Nat × FO)
  hv : Value
  hs : List HO
  hsp : List Value
  tv : Value
  trace : List De
  tsp : List Value
  clock : Int
  seq : Int
  dead : Bool

abbrev hdr (w : WR) : List Value := [w.cv, .map (some w.fm), w.hv, w.tv, vi w.clock, vi w.seq, .bool w.dead]

/-- Where a world lies. -/
abbrev WMem (t : Nat) (w : WR) : SH :=
  [cellsAt t 0 [w.cv, .map (some w.fm), w.hv, w.tv, vi w.clock, vi w.seq, .bool w.dead], slA w.cv (w.choices.flatMap chEnc) w.csp, [.obj w.fm (.map w.fes w.fc)], w.objs.flatMap foA, slA w.hv (w.hs.map fun h => ptr0 h.blk) w.hsp, w.hs.flatMap hoA, slA w.tv (w.trace.flatMap deEnc) w.tsp]

structure FOk (f : FO) (M : Nat) : Prop where
  now : IsSl 1 f.nv f.now.length (f.now.map u8v) f.ns
  base : IsSl 1 f.bv f.base.length (f.base.map u8v) f.bs
  wr : IsSl 4 f.wv f.writes.length (f.writes.flatMap wrEnc) f.ws
  len : f.now.length ≤ 4194304
  len2 : f.base.length ≤ 4194304
  many : f.writes.length ≤ M
  at_ : ∀ x ∈ f.writes, 0 ≤ x.at_ ∧ x.at_ + x.text.size ≤ 4194304

structure WOk (w : WR) (M : Nat) : Prop where
  ch : IsSl 3 w.cv w.choices.length (w.choices.flatMap chEnc) w.csp
  fm : MapIs kStr (fun b : Nat => ptr0 b) w.fes w.fc w.names
  keys : (w.names.map (·.1)).Nodup
  blks : (w.objs.map (·.1)).Nodup
  named : ∀ p ∈ w.names, p.2 ∈ w.objs.map (·.1)
  fo : ∀ p ∈ w.objs, FOk p.2 M
  hv : IsSl 1 w.hv w.hs.length (w.hs.map fun h => ptr0 h.blk) w.hsp
  hfile : ∀ h ∈ w.hs, ∀ b, h.file = some b → b ∈ w.objs.map (·.1)
  hat : ∀ h ∈ w.hs, 0 ≤ h.at_ ∧ h.at_ ≤ 4194304
  hmany : w.hs.length ≤ M
  tr : IsSl 6 w.tv w.trace.length (w.trace.flatMap deEnc) w.tsp
  trmany : w.trace.length ≤ M
  seq : 0 ≤ w.seq ∧ w.seq ≤ M
  clock : 0 ≤ w.clock ∧ w.clock ≤ 1000000000000000000
  files : w.names.length ≤ 1073741823
  chmany : w.choices.length ≤ 65536

/-- What can stand in a name; a name. -/
def inNameB (c : Nat) : Bool := (decide (97 ≤ c) && decide (c ≤ 122)) || (decide (65 ≤ c) && decide (c ≤ 90)) || (decide (48 ≤ c) && decide (c ≤ 57)) || (decide (c = 46) || decide (c = 45) || decide (c = 95) || decide (c = 47))
def nameB (s : ByteArray) : Bool := s.data.toList.all (fun c => inNameB c.toNat) && (decide (1 ≤ s.size) && decide (s.size ≤ 64))

theorem all_take {s : ByteArray} {k : Nat} (h : k < s.size) : (s.data.toList.take (k + 1)).all (fun c => inNameB c.toNat) = ((s.data.toList.take k).all (fun c => inNameB c.toNat) && inNameB (s[k]).toNat) := by
  have hl : k < s.data.toList.length := by simpa using h
  rw [List.take_add_one, List.getElem?_eq_getElem hl, List.all_append]
  simp
  rfl

def chosenE (n : Int) : Int := if 30 ≤ n ∧ n ≤ 35 then n else 0


/-! Handles -/
def usedN (hs : List HO) : Nat := (hs.filter fun h => !(h.closed || h.stale)).length
def anyE (hs : List HO) (n : Int) : Int := match (if 1 ≤ n then hs[(n - 1).toNat]? else none) with | some h => if h.closed then 30 else 0 | none => 30
def heldE (hs : List HO) (n : Int) (host : Bool) : Int := match (if 1 ≤ n then hs[(n - 1).toNat]? else none) with
  | some h => if h.closed then 30 else if h.file.isNone != host then 30 else if h.stale then 31 else 0
  | none => 30

theorem anyE_ok {hs : List HO} {n : Int} (h : anyE hs n = 0) : 1 ≤ n ∧ ∃ x, hs[(n - 1).toNat]? = some x ∧ x.closed = false := by
  unfold anyE at h
  split at h
  · rename_i x hx
    split at hx
    · rename_i h1
      split at h
      · cases h
      · rename_i h2; exact ⟨h1, x, hx, by simpa using h2⟩
    · cases hx
  · cases h

theorem heldE_ok {hs : List HO} {n : Int} {host : Bool} (h : heldE hs n host = 0) : 1 ≤ n ∧ ∃ x, hs[(n - 1).toNat]? = some x ∧ x.closed = false ∧ x.file.isNone = host ∧ x.stale = false := by
  unfold heldE at h
  split at h
  · rename_i x hx
    split at hx
    · rename_i h1
      split at h
      · cases h
      · rename_i h2
        split at h
        · cases h
        · rename_i h3
          split at h
          · cases h
          · rename_i h4
            exact ⟨h1, x, hx, by simpa using h2, by simpa using h3, by simpa using h4⟩
    · cases hx
  · cases h

theorem usedN_take {hs : List HO} {k : Nat} (h : k < hs.length) : usedN (hs.take (k + 1)) = usedN (hs.take k) + (if hs[k].closed || hs[k].stale then 0 else 1) := by
  unfold usedN
  rw [List.take_add_one, List.getElem?_eq_getElem h, List.filter_append, List.length_append]
  congr 1
  simp only [Option.toList_some, List.filter_cons, List.filter_nil]
  cases hs[k].closed <;> cases hs[k].stale <;> rfl

theorem usedN_le (hs : List HO) : usedN hs ≤ hs.length := List.length_filter_le _ _

theorem hoA_mem {hs : List HO} {i : Nat} {h : HO} (hi : hs[i]? = some h) : ∀ a ∈ hoA h, a ∈ hs.flatMap hoA := fun a ha => List.mem_flatMap.2 ⟨h, List.mem_of_getElem? hi, ha⟩
theorem hoA_cell {hs : List HO} {i j : Nat} {h : HO} {v : Value} (hi : hs[i]? = some h) (hj : (hoEnc h)[j]? = some v) : Atom.cell h.blk j v ∈ hs.flatMap hoA :=
  hoA_mem hi _ (mem_cellsAt.2 ⟨j, v, hj, by simp⟩)


/-! The next choice -/
def noCh : Ch := ⟨0, 0, ⟨#[]⟩⟩
def takeC (w : WR) : Ch := if w.dead then noCh else w.choices.headD noCh
def takeL (w : WR) : Bool := !(w.dead || decide ((takeC w).kind = 5))

/-- A choice was taken. -/
def Taken (w w1 : WR) : Prop := ∃ cv' csp' cs, cs.length ≤ w.choices.length ∧ cs = (if w.dead then w.choices else w.choices.tail) ∧ IsSl 3 cv' cs.length (cs.flatMap chEnc) csp' ∧ w1 = { w with cv := cv', choices := cs, csp := csp', dead := !takeL w }
def noDe : De := ⟨0, 0, ⟨#[]⟩, ⟨#[]⟩, 0, 0⟩

/-- What a deed leaves: nothing but a choice taken; or what the work did, told. -/
def DeedP (t : Nat) (w : WR) (d : De) (B : List Atom) (Qd : WR → Ch → Int → De → WR → Prop) (v : Value) (Post : SH) : Prop :=
  ∃ w1, Taken w w1 ∧ ((takeL w = false ∧ v = .tuple #[.agg (deEnc noDe).toArray, vi 36] ∧ Post = WMem t w1 ++ [B]) ∨
    (takeL w = true ∧ ∃ e d' w2 out tv' tsp', Qd w1 (takeC w) e d' w2 ∧ out = (if e = 0 then d' else { d with err := e }) ∧ v = .tuple #[.agg (deEnc out).toArray, vi out.err] ∧
      IsSl 6 tv' (w2.trace.length + 1) (w2.trace.flatMap deEnc ++ deEnc out) tsp' ∧ Post = WMem t { w2 with tv := tv', trace := w2.trace ++ [out], tsp := tsp' } ++ [B]))

/-- More rules for regions whose order is drawn. -/
def AllVO (K : List RO → Prop) : List (List RO) → Prop
  | [] => True
  | rs :: r => K rs ∧ AllVO K r

theorem AllVO.mem {K : List RO → Prop} : ∀ {rss : List (List RO)}, AllVO K rss → ∀ rs ∈ rss, K rs := by
  intro rss
  induction rss with
  | nil => intro _ rs h; cases h
  | cons a r ih =>
    intro h rs hm
    rcases List.mem_cons.1 hm with rfl | hm
    · exact h.1
    · exact ih h.2 rs hm

theorem VC.draws {P : Program} {n : Nat} {Γ : Env} {H : SH} {Q : Exit → Env → SH → Prop} {rss : List (List RO)} {keep : List Nat} (h : AllVO (fun rs => VO P n rs Γ H (fun _ _ _ => False) fun Γ' H' => Q .normal (restr keep Γ') H') rss) : VC P n (.draw rss keep) Γ H Q := VC.draw h.mem

theorem VC.seq_draws {P : Program} {n : Nat} {Γ : Env} {H : SH} {Q : Exit → Env → SH → Prop} {rss : List (List RO)} {keep : List Nat} {y : IC} {α : Type} (Γf : α → Env) (Hf : α → SH) (I : α → Prop)
    (h : AllVO (fun rs => VO P n rs Γ H (fun _ _ _ => False) fun Γ' H' => ∃ s, I s ∧ Sub (restr keep Γ') (Γf s) ∧ Imp H' (Hf s)) rss) (h2 : ∀ s, I s → VC P n y (Γf s) (Hf s) Q) : VC P n (.seq (.draw rss keep) y) Γ H Q := by
  refine VC.seq (VC.draws ?_)
  have key : ∀ {l : List (List RO)}, AllVO (fun rs => VO P n rs Γ H (fun _ _ _ => False) fun Γ' H' => ∃ s, I s ∧ Sub (restr keep Γ') (Γf s) ∧ Imp H' (Hf s)) l →
      AllVO (fun rs => VO P n rs Γ H (fun _ _ _ => False) fun Γ' H' => VC P n y (restr keep Γ') H' Q) l := by
    intro l
    induction l with
    | nil => intro _; trivial
    | cons a r ih =>
      intro hh
      exact ⟨hh.1.mono (fun Γ' H' ⟨s, i1, i2, i3⟩ => VC.sub i2 (VC.imp i3 (h2 s i1))), ih hh.2⟩
  exact key h

section
variable {P : Program} {n : Nat} {rs : List RO} {Γ : Env} {H : SH} {Z : List PanicEntry → Env → SH → Prop} {K : Env → SH → Prop} {d : Option Nat}
/-- A test is parted where something waits for it. -/
theorem st_gcase {r : R} {s : Nat} {b c : Bool} (hs : look Γ s = some (.bool c)) (ht : c = true → VO P n (⟨d, some (s, b), r⟩ :: rs) ((s, .bool true) :: Γ) H Z K) (hf : c = false → VO P n (⟨d, some (s, b), r⟩ :: rs) ((s, .bool false) :: Γ) H Z K) :
    VO P n (⟨d, some (s, b), r⟩ :: rs) Γ H Z K := st_case hs ht hf
theorem st_pcase {s : Nat} {x y : Operand} {c : Bool} (hs : look Γ s = some (.bool c)) (ht : c = true → VO P n (⟨d, none, .pick (.tmp s) x y⟩ :: rs) ((s, .bool true) :: Γ) H Z K) (hf : c = false → VO P n (⟨d, none, .pick (.tmp s) x y⟩ :: rs) ((s, .bool false) :: Γ) H Z K) :
    VO P n (⟨d, none, .pick (.tmp s) x y⟩ :: rs) Γ H Z K := st_case hs ht hf
end

/-- Stepping; one step at the least. -/
theorem GOP {R G : Prop} (r : R) (h : Later R → G := by
  intro later
  (first
      | (first
    | (apply st_gt; rfl)
    | (apply st_gf; rfl; rfl)
    | (apply st_gu; rfl)
    | (apply st_mv; rfl)
    | (apply st_nil; rfl)
    | (apply st_pick_t; rfl; rfl)
    | (apply st_pick_f; rfl; rfl)
    | (apply st_fld; rfl; ((try simp only [Nat.zero_add, Nat.add_zero, Nat.reduceAdd, Nat.reduceMul, Nat.add_assoc, Int.toNat_natCast, Nat.mul_one]); rfl))
    | (apply st_load1; rfl; (focus ((repeat (first | (apply Has.cells; omega; rfl) | apply Has.there)); done)))
    | (apply st_load1; rfl; (focus ((repeat (first | (apply Has.among; assumption) | apply Has.there)); done)))
    | (apply st_loadM; rfl; (focus ((repeat (first | (apply HasM.cells; omega; (focus (simp only [List.length_cons, List.length_nil, Nat.reduceAdd, Nat.zero_add, Nat.reduceSub, Nat.sub_self, Nat.reduceLeDiff, Nat.le_refl]; done)); (focus (simp only [lnb, Value.cells, Nat.zero_add, Nat.reduceEqDiff, ↓reduceIte, eq_self, Nat.reduceAdd, Nat.reduceSub, Nat.sub_self, Nat.reduceLeDiff, Nat.le_refl, and_self, rep, zeroRow] <;> rfl)); rfl) | apply HasM.there)); done)))
    | (apply st_extL; rfl; rfl)
    | (apply st_ext; rfl; rfl)
    | (apply st_add; rfl; rfl; omega)
    | (apply st_sub; rfl; rfl; omega)
    | (apply st_mul; rfl; rfl; omega)
    | (apply st_rem; rfl; rfl; decide)
    | (apply st_idxL; rfl; rfl; omega; ((try simp only [Nat.zero_add, Nat.add_zero, Nat.reduceAdd, Nat.reduceMul, Nat.add_assoc, Int.toNat_natCast, Nat.mul_one]); rfl))
    | (apply st_idxA; rfl; rfl; omega; ((try simp only [Nat.zero_add, Nat.add_zero, Nat.reduceAdd, Nat.reduceMul, Nat.add_assoc, Int.toNat_natCast, Nat.mul_one]); rfl))
    | (apply st_build; rfl; (focus (simp only [lnb, Value.cells, Nat.zero_add, Nat.reduceEqDiff, ↓reduceIte, eq_self, Nat.reduceAdd, Nat.reduceSub, Nat.sub_self, Nat.reduceLeDiff, Nat.le_refl, and_self, rep, zeroRow] <;> rfl)))
    | (apply st_store'; rfl; rfl; (focus (simp only [lnb, Value.cells, Nat.zero_add, Nat.reduceEqDiff, ↓reduceIte, eq_self, Nat.reduceAdd, Nat.reduceSub, Nat.sub_self, Nat.reduceLeDiff, Nat.le_refl, and_self, rep, zeroRow] <;> rfl)); rfl; rfl; (focus ((repeat (first | (apply Upd.cells; omega; (focus (simp only [List.length_cons, List.length_nil, Nat.reduceAdd, Nat.zero_add, Nat.reduceSub, Nat.sub_self, Nat.reduceLeDiff, Nat.le_refl]; done)); (focus (simp only [lnb, Value.cells, Nat.zero_add, Nat.reduceEqDiff, ↓reduceIte, eq_self, Nat.reduceAdd, Nat.reduceSub, Nat.sub_self, Nat.reduceLeDiff, Nat.le_refl, and_self, rep, zeroRow] <;> rfl))) | apply Upd.there)); done)))
    | (apply st_pure; rfl; rfl; rfl))
      | (refine VO.nil ?_; simp only [V.argsEnv, V.restr, V.look, V.putE, V.thenQ, V.blockQ, Nat.zero_add, Nat.reduceAdd, Nat.reduceEqDiff, ↓reduceIte, eq_self])
      | refine VC.seq_reg ?_
      | refine VC.seq_draw1 ?_
      | refine VC.seq_seq ?_
      | refine VC.seq_block ?_
      | refine VC.seq_skip ?_
      | refine VC.reg ?_
      | refine VC.draw1 ?_
      | refine VC.block ?_
      | (refine VC.skip ?_; simp only [V.argsEnv, V.restr, V.look, V.putE, V.thenQ, V.blockQ, Nat.zero_add, Nat.reduceAdd, Nat.reduceEqDiff, ↓reduceIte, eq_self])
      | (refine VC.exit ?_; simp only [V.argsEnv, V.restr, V.look, V.putE, V.thenQ, V.blockQ, Nat.zero_add, Nat.reduceAdd, Nat.reduceEqDiff, ↓reduceIte, eq_self])
      | (refine VC.ret ?_; try simp only [V.thenQ, V.blockQ])
      | (apply VC.seq_cond_t; rfl)
      | (apply VC.seq_cond_f; rfl)
      | (apply VC.cond_t; rfl)
      | (apply VC.cond_f; rfl))
  (repeat (first
      | (first
    | (apply st_gt; rfl)
    | (apply st_gf; rfl; rfl)
    | (apply st_gu; rfl)
    | (apply st_mv; rfl)
    | (apply st_nil; rfl)
    | (apply st_pick_t; rfl; rfl)
    | (apply st_pick_f; rfl; rfl)
    | (apply st_fld; rfl; ((try simp only [Nat.zero_add, Nat.add_zero, Nat.reduceAdd, Nat.reduceMul, Nat.add_assoc, Int.toNat_natCast, Nat.mul_one]); rfl))
    | (apply st_load1; rfl; (focus ((repeat (first | (apply Has.cells; omega; rfl) | apply Has.there)); done)))
    | (apply st_load1; rfl; (focus ((repeat (first | (apply Has.among; assumption) | apply Has.there)); done)))
    | (apply st_loadM; rfl; (focus ((repeat (first | (apply HasM.cells; omega; (focus (simp only [List.length_cons, List.length_nil, Nat.reduceAdd, Nat.zero_add, Nat.reduceSub, Nat.sub_self, Nat.reduceLeDiff, Nat.le_refl]; done)); (focus (simp only [lnb, Value.cells, Nat.zero_add, Nat.reduceEqDiff, ↓reduceIte, eq_self, Nat.reduceAdd, Nat.reduceSub, Nat.sub_self, Nat.reduceLeDiff, Nat.le_refl, and_self, rep, zeroRow] <;> rfl)); rfl) | apply HasM.there)); done)))
    | (apply st_extL; rfl; rfl)
    | (apply st_ext; rfl; rfl)
    | (apply st_add; rfl; rfl; omega)
    | (apply st_sub; rfl; rfl; omega)
    | (apply st_mul; rfl; rfl; omega)
    | (apply st_rem; rfl; rfl; decide)
    | (apply st_idxL; rfl; rfl; omega; ((try simp only [Nat.zero_add, Nat.add_zero, Nat.reduceAdd, Nat.reduceMul, Nat.add_assoc, Int.toNat_natCast, Nat.mul_one]); rfl))
    | (apply st_idxA; rfl; rfl; omega; ((try simp only [Nat.zero_add, Nat.add_zero, Nat.reduceAdd, Nat.reduceMul, Nat.add_assoc, Int.toNat_natCast, Nat.mul_one]); rfl))
    | (apply st_build; rfl; (focus (simp only [lnb, Value.cells, Nat.zero_add, Nat.reduceEqDiff, ↓reduceIte, eq_self, Nat.reduceAdd, Nat.reduceSub, Nat.sub_self, Nat.reduceLeDiff, Nat.le_refl, and_self, rep, zeroRow] <;> rfl)))
    | (apply st_store'; rfl; rfl; (focus (simp only [lnb, Value.cells, Nat.zero_add, Nat.reduceEqDiff, ↓reduceIte, eq_self, Nat.reduceAdd, Nat.reduceSub, Nat.sub_self, Nat.reduceLeDiff, Nat.le_refl, and_self, rep, zeroRow] <;> rfl)); rfl; rfl; (focus ((repeat (first | (apply Upd.cells; omega; (focus (simp only [List.length_cons, List.length_nil, Nat.reduceAdd, Nat.zero_add, Nat.reduceSub, Nat.sub_self, Nat.reduceLeDiff, Nat.le_refl]; done)); (focus (simp only [lnb, Value.cells, Nat.zero_add, Nat.reduceEqDiff, ↓reduceIte, eq_self, Nat.reduceAdd, Nat.reduceSub, Nat.sub_self, Nat.reduceLeDiff, Nat.le_refl, and_self, rep, zeroRow] <;> rfl))) | apply Upd.there)); done)))
    | (apply st_pure; rfl; rfl; rfl))
      | (refine VO.nil ?_; simp only [V.argsEnv, V.restr, V.look, V.putE, V.thenQ, V.blockQ, Nat.zero_add, Nat.reduceAdd, Nat.reduceEqDiff, ↓reduceIte, eq_self])
      | refine VC.seq_reg ?_
      | refine VC.seq_draw1 ?_
      | refine VC.seq_seq ?_
      | refine VC.seq_block ?_
      | refine VC.seq_skip ?_
      | refine VC.reg ?_
      | refine VC.draw1 ?_
      | refine VC.block ?_
      | (refine VC.skip ?_; simp only [V.argsEnv, V.restr, V.look, V.putE, V.thenQ, V.blockQ, Nat.zero_add, Nat.reduceAdd, Nat.reduceEqDiff, ↓reduceIte, eq_self])
      | (refine VC.exit ?_; simp only [V.argsEnv, V.restr, V.look, V.putE, V.thenQ, V.blockQ, Nat.zero_add, Nat.reduceAdd, Nat.reduceEqDiff, ↓reduceIte, eq_self])
      | (refine VC.ret ?_; try simp only [V.thenQ, V.blockQ])
      | (apply VC.seq_cond_t; rfl)
      | (apply VC.seq_cond_f; rfl)
      | (apply VC.cond_t; rfl)
      | (apply VC.cond_f; rfl)))
  exact later.out) : G := h ⟨r⟩
end Go.V

/-
  Taking a file, or a handle, out of the memory of all.
-/
import Derived.Test.YtmlnoodopoaafaaDoorV14
set_option linter.unusedSimpArgs false
set_option linter.unusedVariables false
namespace Go.V
open Go
def setObj (objs : List (Nat × FO)) (b : Nat) (fo : FO) : List (Nat × FO) := objs.map fun p => if p.1 = b then (b, fo) else p
theorem setObj_of {A C : List (Nat × FO)} {b : Nat} {fo fo' : FO} (h : ((A ++ (b, fo) :: C).map (·.1)).Nodup) : setObj (A ++ (b, fo) :: C) b fo' = A ++ (b, fo') :: C := by
  rw [List.map_append, List.map_cons] at h
  have h1 := List.nodup_append.1 h
  have hA : ∀ p ∈ A, p.1 ≠ b := fun p hp he => h1.2.2 p.1 (List.mem_map_of_mem hp) b (List.mem_cons_self) he
  have hC : ∀ p ∈ C, p.1 ≠ b := fun p hp he => (List.nodup_cons.1 h1.2.1).1 (List.mem_map.2 ⟨p, hp, he⟩)
  simp only [setObj, List.map_append, List.map_cons, ↓reduceIte]
  rw [List.map_congr_left (g := id) (fun p hp => by simp [hA p hp]), List.map_congr_left (l := C) (g := id) (fun p hp => by simp [hC p hp])]
  simp
theorem objs_take {objs : List (Nat × FO)} {b : Nat} {fo : FO} (hn : (objs.map (·.1)).Nodup) (hm : (b, fo) ∈ objs) :
    ∃ rest : List Atom, (objs.flatMap foA).Perm (foA (b, fo) ++ rest) ∧ ∀ fo', ((setObj objs b fo').flatMap foA).Perm (foA (b, fo') ++ rest) := by
  obtain ⟨A, C, rfl⟩ := List.append_of_mem hm
  refine ⟨A.flatMap foA ++ C.flatMap foA, ?_, fun fo' => ?_⟩
  · rw [List.flatMap_append, List.flatMap_cons]; exact perm_lead _ _ _
  · rw [setObj_of hn, List.flatMap_append, List.flatMap_cons]; exact perm_lead _ _ _
theorem setObj_keys {objs : List (Nat × FO)} {b : Nat} {fo : FO} : (setObj objs b fo).map (·.1) = objs.map (·.1) := by
  simp only [setObj, List.map_map]
  refine List.map_congr_left (fun p _ => ?_)
  simp only [Function.comp]
  split <;> simp_all
theorem mem_setObj {objs : List (Nat × FO)} {b : Nat} {fo : FO} {p : Nat × FO} (h : p ∈ setObj objs b fo) : p = (b, fo) ∨ (p ∈ objs ∧ p.1 ≠ b) := by
  obtain ⟨q, hq, rfl⟩ := List.mem_map.1 h
  by_cases hb : q.1 = b
  · exact .inl (by simp [hb])
  · exact .inr (by simp [hb, hq])
theorem hs_take {hs : List HO} {i : Nat} {h : HO} (hi : hs[i]? = some h) :
    ∃ rest : List Atom, (hs.flatMap hoA).Perm (hoA h ++ rest) ∧ ∀ h', ((hs.set i h').flatMap hoA).Perm (hoA h' ++ rest) := by
  obtain ⟨hlt, rfl⟩ := List.getElem?_eq_some_iff.1 hi
  refine ⟨(hs.take i).flatMap hoA ++ (hs.drop (i + 1)).flatMap hoA, ?_, fun h' => ?_⟩
  · conv => lhs; rw [← List.take_append_drop i hs, List.drop_eq_getElem_cons hlt]
    rw [List.flatMap_append, List.flatMap_cons]; exact perm_lead _ _ _
  · rw [List.set_eq_take_append_cons_drop, if_pos hlt, List.flatMap_append, List.flatMap_cons]; exact perm_lead _ _ _
theorem imp_tk {H R : SH} {x : List Atom} (ys : SH) (ht : Tk H x R) (h : x.Perm ys.flatten) : Imp H (ys ++ R) := by
  refine Imp.perm (ht.perm.trans ?_)
  rw [List.flatten_append]
  exact List.Perm.append_right _ h
theorem imp_jn {H R R' : SH} {a b x : List Atom} (ha : Tk H a R) (hb : Tk R b R') (h : x.Perm (a ++ b)) : Imp H (x :: R') := by
  refine Imp.perm (ha.perm.trans ?_)
  rw [List.flatten_cons]
  refine (List.Perm.append_left _ hb.perm).trans ?_
  rw [← List.append_assoc]
  exact List.Perm.append_right _ h.symm
theorem imp_close {t : Nat} {w : WR} {X : SH} {F1 F2 frest H1 hrest : List Atom} (hf : (w.objs.flatMap foA).Perm (F1 ++ (F2 ++ frest))) (hh : (w.hs.flatMap hoA).Perm (H1 ++ hrest)) :
    Imp ([cellsAt t 0 (hdr w), slA w.cv (w.choices.flatMap chEnc) w.csp, [.obj w.fm (.map w.fes w.fc)], slA w.hv (w.hs.map fun h => ptr0 h.blk) w.hsp, slA w.tv (w.trace.flatMap deEnc) w.tsp, F1, F2, frest, H1, hrest] ++ X) (WMem t w ++ X) := by
  refine Imp.perm ?_
  rw [List.flatten_append, List.flatten_append]
  refine List.Perm.append_right _ ?_
  simp only [List.flatten_cons, List.flatten_nil, List.append_nil]
  refine List.Perm.append_left _ (List.Perm.append_left _ (List.Perm.append_left _ ?_))
  generalize slA w.hv (w.hs.map fun h => ptr0 h.blk) w.hsp = a
  generalize slA w.tv (w.trace.flatMap deEnc) w.tsp = b
  have h1 : (F1 ++ (F2 ++ (frest ++ (H1 ++ hrest)))).Perm (w.objs.flatMap foA ++ w.hs.flatMap hoA) := by
    have := List.Perm.append hf.symm hh.symm
    simpa only [List.append_assoc] using this
  refine (List.Perm.append_left a (List.Perm.append_left b h1)).trans ?_
  generalize w.objs.flatMap foA = o
  generalize w.hs.flatMap hoA = h
  refine (perm_lead a b (o ++ h)).trans ?_
  refine (List.perm_append_comm).trans ?_
  rw [List.append_assoc, List.append_assoc]
  refine (perm_lead a o (h ++ b)).trans ?_
  exact .refl _
theorem set_blk {hs : List HO} {i : Nat} {x y : HO} (hx : hs[i]? = some x) (hb : y.blk = x.blk) : (hs.set i y).map (fun h => ptr0 h.blk) = hs.map fun h => ptr0 h.blk := by
  obtain ⟨hlt, rfl⟩ := List.getElem?_eq_some_iff.1 hx
  rw [List.map_set, hb]
  conv => rhs; rw [← List.set_getElem_self (as := hs.map fun h => ptr0 h.blk) (i := i) (by simpa using hlt)]
  simp
def onL (x : Wr) (l : List UInt8) : List UInt8 :=
  if x.empty then [] else
    let m := l ++ List.replicate (x.at_.toNat + x.text.size - l.length) 0
    m.take x.at_.toNat ++ x.text.data.toList ++ m.drop (x.at_.toNat + x.text.size)
theorem onL_length {x : Wr} {l : List UInt8} (h : x.empty = false) : (onL x l).length = Nat.max l.length (x.at_.toNat + x.text.size) := by
  have hb : x.text.data.toList.length = x.text.size := by simp
  simp only [onL, h, Bool.false_eq_true, ↓reduceIte, List.length_append, List.length_take, List.length_drop, List.length_replicate, hb]
  have : ∀ a b c : Nat, min a (b + (a + c - b)) + c + (b + (a + c - b) - (a + c)) = Nat.max b (a + c) := by
    intro a b c
    show _ = max b (a + c)
    omega
  exact this _ _ _
structure AF where
  now : List UInt8
  base : List UInt8
  writes : List Wr
structure AW where
  choices : List Ch
  names : List (ByteArray × Nat)
  files : List AF
  hs : List HO
  trace : List De
  clock : Int
  seq : Int
  dead : Bool
def foF (f : FO) : AF := ⟨f.now, f.base, f.writes⟩
def ho0 (h : HO) : HO := { h with blk := 0 }
def hoB (B : List Nat) (h : HO) : HO := { h with blk := 0, file := h.file.map fun i => B.getD i 0 }
structure Rep (w : WR) (a : AW) (M : Nat) : Prop where
  ch : w.choices = a.choices
  tr : w.trace = a.trace
  clock : w.clock = a.clock
  seq : w.seq = a.seq
  dead : w.dead = a.dead
  names : w.names = a.names.map fun p => (p.1, (w.objs.map (·.1)).getD p.2 0)
  nin : ∀ p ∈ a.names, p.2 < a.files.length
  files : w.objs.map (fun p => foF p.2) = a.files
  hs : w.hs.map ho0 = a.hs.map (hoB (w.objs.map (·.1)))
  hin : ∀ h ∈ a.hs, ∀ i, h.file = some i → i < a.files.length
  ok : WOk w M
theorem heldE_congr {hs hs' : List HO} (h : hs.map (fun h => (h.closed, h.stale, h.file.isNone)) = hs'.map fun h => (h.closed, h.stale, h.file.isNone)) (n : Int) (host : Bool) : heldE hs n host = heldE hs' n host := by
  unfold heldE
  by_cases h1 : 1 ≤ n
  · simp only [if_pos h1]
    have hg : ((hs.map (fun h => (h.closed, h.stale, h.file.isNone)))[(n - 1).toNat]?) = ((hs'.map (fun h => (h.closed, h.stale, h.file.isNone)))[(n - 1).toNat]?) := by rw [h]
    simp only [List.getElem?_map] at hg
    cases hx : hs[(n - 1).toNat]? with
    | none =>
      cases hy : hs'[(n - 1).toNat]? with
      | none => rfl
      | some y => rw [hx, hy] at hg; cases hg
    | some x =>
      cases hy : hs'[(n - 1).toNat]? with
      | none => rw [hx, hy] at hg; cases hg
      | some y =>
        rw [hx, hy] at hg
        simp only [Option.map_some, Option.some.injEq, Prod.mk.injEq] at hg
        obtain ⟨g1, g2, g3⟩ := hg
        simp only [g1, g2, g3]
  · simp only [if_neg h1]
theorem anyE_congr {hs hs' : List HO} (h : hs.map (fun h => (h.closed, h.stale, h.file.isNone)) = hs'.map fun h => (h.closed, h.stale, h.file.isNone)) (n : Int) : anyE hs n = anyE hs' n := by
  unfold anyE
  by_cases h1 : 1 ≤ n
  · simp only [if_pos h1]
    have hg : ((hs.map (fun h => (h.closed, h.stale, h.file.isNone)))[(n - 1).toNat]?) = ((hs'.map (fun h => (h.closed, h.stale, h.file.isNone)))[(n - 1).toNat]?) := by rw [h]
    simp only [List.getElem?_map] at hg
    cases hx : hs[(n - 1).toNat]? with
    | none =>
      cases hy : hs'[(n - 1).toNat]? with
      | none => rfl
      | some y => rw [hx, hy] at hg; cases hg
    | some x =>
      cases hy : hs'[(n - 1).toNat]? with
      | none => rw [hx, hy] at hg; cases hg
      | some y =>
        rw [hx, hy] at hg
        simp only [Option.map_some, Option.some.injEq, Prod.mk.injEq] at hg
        simp only [hg.1]
  · simp only [if_neg h1]
theorem usedN_congr {hs hs' : List HO} (h : hs.map (fun h => (h.closed, h.stale, h.file.isNone)) = hs'.map fun h => (h.closed, h.stale, h.file.isNone)) : usedN hs = usedN hs' := by
  induction hs generalizing hs' with
  | nil => cases hs' with
    | nil => rfl
    | cons y r => cases h
  | cons x r ih => cases hs' with
    | nil => cases h
    | cons y r' =>
      simp only [List.map_cons, List.cons.injEq, Prod.mk.injEq] at h
      have := ih h.2
      unfold usedN at this ⊢
      simp only [List.filter_cons, h.1.1, h.1.2.1]
      split <;> simp_all
section
variable {w : WR} {a : AW} {M : Nat}
theorem Rep.flags (h : Rep w a M) : w.hs.map (fun h => (h.closed, h.stale, h.file.isNone)) = a.hs.map fun h => (h.closed, h.stale, h.file.isNone) := by
  have := congrArg (List.map fun h : HO => (h.closed, h.stale, h.file.isNone)) h.hs
  simp only [List.map_map] at this
  have e1 : ((fun h : HO => (h.closed, h.stale, h.file.isNone)) ∘ ho0) = fun h => (h.closed, h.stale, h.file.isNone) := rfl
  have e2 : ((fun h : HO => (h.closed, h.stale, h.file.isNone)) ∘ hoB (w.objs.map (·.1))) = fun h => (h.closed, h.stale, h.file.isNone) := by
    funext h; simp [hoB]
  rw [e1, e2] at this
  exact this
theorem Rep.held (h : Rep w a M) (n : Int) (host : Bool) : heldE w.hs n host = heldE a.hs n host := heldE_congr h.flags n host
theorem Rep.any (h : Rep w a M) (n : Int) : anyE w.hs n = anyE a.hs n := anyE_congr h.flags n
theorem Rep.used (h : Rep w a M) : usedN w.hs = usedN a.hs := usedN_congr h.flags
theorem Rep.hlen (h : Rep w a M) : w.hs.length = a.hs.length := by have := congrArg List.length h.hs; simpa using this
theorem Rep.flen (h : Rep w a M) : w.objs.length = a.files.length := by have := congrArg List.length h.files; simpa using this
theorem Rep.nlen (h : Rep w a M) : w.names.length = a.names.length := by have := congrArg List.length h.names; simpa using this
theorem WOk.mono {M' : Nat} (h : WOk w M) (hm : M ≤ M') : WOk w M' :=
  { h with fo := fun p hp => let x := h.fo p hp; { x with many := Nat.le_trans x.many hm }, hmany := Nat.le_trans h.hmany hm, trmany := Nat.le_trans h.trmany hm, seq := ⟨h.seq.1, by have := h.seq.2; omega⟩ }
theorem Rep.mono {M' : Nat} (h : Rep w a M) (hm : M ≤ M') : Rep w a M' := { h with ok := h.ok.mono hm }
theorem Rep.handle (h : Rep w a M) {i : Nat} {x : HO} (hx : w.hs[i]? = some x) : ∃ y, a.hs[i]? = some y ∧ ho0 x = hoB (w.objs.map (·.1)) y := by
  have := congrArg (·[i]?) h.hs
  simp only [List.getElem?_map, hx, Option.map_some] at this
  cases hy : a.hs[i]? with
  | none => rw [hy] at this; cases this
  | some y => rw [hy] at this; exact ⟨y, rfl, by simpa using this⟩
theorem Rep.file (h : Rep w a M) {j : Nat} (hj : j < a.files.length) : ∃ b fo, w.objs[j]? = some (b, fo) ∧ (w.objs.map (·.1)).getD j 0 = b ∧ a.files[j]? = some (foF fo) ∧ FOk fo M := by
  have hl : j < w.objs.length := by rw [h.flen]; exact hj
  refine ⟨w.objs[j].1, w.objs[j].2, by simp [hl], ?_, ?_, h.ok.fo _ (List.getElem_mem hl)⟩
  · simp [List.getD_eq_getElem?_getD, hl]
  · rw [← h.files]; simp [hl]
theorem Rep.opened (h : Rep w a M) {n : Int} (he : heldE a.hs n false = 0) :
    ∃ x y b j fo, 1 ≤ n ∧ w.hs[(n - 1).toNat]? = some x ∧ a.hs[(n - 1).toNat]? = some y ∧ x.closed = false ∧ x.stale = false ∧ y.closed = false ∧ y.stale = false ∧ x.mode = y.mode ∧ x.at_ = y.at_ ∧ x.file = some b ∧ y.file = some j ∧
      w.objs[j]? = some (b, fo) ∧ a.files[j]? = some (foF fo) ∧ FOk fo M ∧ (0 ≤ x.at_ ∧ x.at_ ≤ 4194304) := by
  rw [← h.held] at he
  obtain ⟨h1, x, hx, hc, hf, hs⟩ := heldE_ok he
  obtain ⟨y, hy, hxy⟩ := h.handle hx
  have hm := List.mem_of_getElem? hx
  obtain ⟨b0, c0, s0, f0, m0, a0⟩ := x
  obtain ⟨b1, c1, s1, f1, m1, a1⟩ := y
  simp only [ho0, hoB, HO.mk.injEq, true_and] at hxy
  obtain ⟨rfl, rfl, rfl, rfl, rfl⟩ := hxy
  simp only at hc hs hf
  cases f1 with
  | none => simp at hf
  | some j =>
    obtain ⟨b, fo, g1, g2, g3, g4⟩ := h.file (h.hin _ (List.mem_of_getElem? hy) j rfl)
    exact ⟨_, _, b, j, fo, h1, hx, hy, hc, hs, hc, hs, rfl, rfl, by simp only [Option.map_some, g2], rfl, g1, g3, g4, h.ok.hat _ hm⟩
theorem Rep.setH (h : Rep w a M) {i : Nat} {x y x' y' : HO} (hx : w.hs[i]? = some x) (hy : a.hs[i]? = some y) (hb : x'.blk = x.blk) (hf : x'.file = x.file) (hf' : y'.file = y.file)
    (he : x'.closed = y'.closed ∧ x'.stale = y'.stale ∧ x'.mode = y'.mode ∧ x'.at_ = y'.at_) (ha : 0 ≤ x'.at_ ∧ x'.at_ ≤ 4194304) : Rep { w with hs := w.hs.set i x' } { a with hs := a.hs.set i y' } M := by
  obtain ⟨z, hz, hxz⟩ := h.handle hx
  rw [hy] at hz; cases hz
  have hfb : x.file = y.file.map fun i => (w.objs.map (·.1)).getD i 0 := by
    have := congrArg HO.file hxz; simpa [ho0, hoB] using this
  have hmx : ∀ z ∈ w.hs.set i x', z = x' ∨ z ∈ w.hs := fun z hz => (List.mem_or_eq_of_mem_set hz).symm
  refine { h with hs := ?_, hin := ?_, ok := { h.ok with hv := ?_, hfile := ?_, hat := ?_, hmany := ?_ } }
  · simp only [List.map_set]
    rw [h.hs]
    congr 1
    obtain ⟨b0, c0, s0, f0, m0, a0⟩ := x'
    obtain ⟨b1, c1, s1, f1, m1, a1⟩ := y'
    simp only at he hf hf'
    obtain ⟨rfl, rfl, rfl, rfl⟩ := he
    simp only [ho0, hoB, HO.mk.injEq, true_and, and_true]
    rw [hf, hfb, hf']
  · intro z hz k hk
    rcases List.mem_or_eq_of_mem_set hz with hz | rfl
    · exact h.hin z hz k hk
    · exact h.hin y (List.mem_of_getElem? hy) k (by rw [← hf']; exact hk)
  · rw [set_blk hx hb, List.length_set]; exact h.ok.hv
  · intro z hz b hzb
    rcases hmx z hz with rfl | hz
    · exact h.ok.hfile x (List.mem_of_getElem? hx) b (by rw [← hf]; exact hzb)
    · exact h.ok.hfile z hz b hzb
  · intro z hz
    rcases hmx z hz with rfl | hz
    · exact ha
    · exact h.ok.hat z hz
  · simpa using h.ok.hmany
theorem fst_set {objs : List (Nat × FO)} {j : Nat} {b : Nat} {fo fo' : FO} (hj : objs[j]? = some (b, fo)) : (objs.set j (b, fo')).map (·.1) = objs.map (·.1) := by
  obtain ⟨hlt, he⟩ := List.getElem?_eq_some_iff.1 hj
  rw [List.map_set]
  conv => rhs; rw [← List.set_getElem_self (as := objs.map (·.1)) (i := j) (by simpa using hlt)]
  simp [he]
theorem Rep.setF {M' : Nat} (h : Rep w a M) (hM : M ≤ M') {j b : Nat} {fo fo' : FO} (hj : w.objs[j]? = some (b, fo)) (hf : FOk fo' M') : Rep { w with objs := w.objs.set j (b, fo') } { a with files := a.files.set j (foF fo') } M' := by
  have hk := fst_set (fo' := fo') hj
  have h' := h.mono hM
  refine { h' with names := ?_, nin := ?_, files := ?_, hs := ?_, hin := ?_, ok := { h'.ok with blks := ?_, named := ?_, fo := ?_, hfile := ?_ } }
  · simp only [hk]; exact h.names
  · simpa using h.nin
  · simp only [List.map_set]; rw [h.files]
  · simp only [hk]; exact h.hs
  · simpa using h.hin
  · simp only [hk]; exact h.ok.blks
  · simp only [hk]; exact h.ok.named
  · intro p hp
    rcases List.mem_or_eq_of_mem_set hp with hp | rfl
    · exact h'.ok.fo p hp
    · exact hf
  · simp only [hk]; exact h.ok.hfile
end
theorem flat_take {α : Type} {f : α → List Atom} {l : List α} {i : Nat} {x : α} (hi : l[i]? = some x) :
    ∃ rest : List Atom, (l.flatMap f).Perm (f x ++ rest) ∧ ∀ x', ((l.set i x').flatMap f).Perm (f x' ++ rest) := by
  obtain ⟨hlt, rfl⟩ := List.getElem?_eq_some_iff.1 hi
  refine ⟨(l.take i).flatMap f ++ (l.drop (i + 1)).flatMap f, ?_, fun h' => ?_⟩
  · conv => lhs; rw [← List.take_append_drop i l, List.drop_eq_getElem_cons hlt]
    rw [List.flatMap_append, List.flatMap_cons]; exact perm_lead _ _ _
  · rw [List.set_eq_take_append_cons_drop, if_pos hlt, List.flatMap_append, List.flatMap_cons]; exact perm_lead _ _ _
def getH (a : AW) (n : Int) : HO := (a.hs[(n - 1).toNat]?).getD ⟨0, false, false, none, 0, 0⟩
def getF (a : AW) (n : Int) : AF := (a.files[(getH a n).file.getD 0]?).getD ⟨[], [], []⟩
def putH (a : AW) (n : Int) (h : HO) : AW := { a with hs := a.hs.set (n - 1).toNat h }
def putF (a : AW) (n : Int) (f : AF) : AW := { a with files := a.files.set ((getH a n).file.getD 0) f }
def ftxt (l : List UInt8) : ByteArray := ⟨l.toArray⟩
def chA (a : AW) : Ch := if a.dead then noCh else a.choices.headD noCh
def liveA (a : AW) : Bool := !(a.dead || decide ((chA a).kind = 5))
def takeA (a : AW) : AW := { a with choices := if a.dead then a.choices else a.choices.tail, dead := !liveA a }
def deedA (a : AW) (d : De) (f : AW → Ch → Int × De × AW) : De × Int × AW :=
  if liveA a then
    let r := f (takeA a) (chA a)
    let out := if r.1 = 0 then r.2.1 else { d with err := r.1 }
    (out, out.err, { r.2.2 with trace := r.2.2.trace ++ [out] })
  else (noDe, 36, takeA a)
def faultA (d : De) (f : AW → Int × De × AW) (a : AW) (c : Ch) : Int × De × AW := if c.kind = 4 ∧ chosenE c.n ≠ 0 then (chosenE c.n, d, a) else f a
theorem Rep.take {w : WR} {a : AW} {M : Nat} (h : Rep w a M) {w1 : WR} (hT : Taken w w1) : Rep w1 (takeA a) M ∧ takeC w = chA a ∧ takeL w = liveA a := by
  obtain ⟨cv', csp', cs, h1, h2, h3, rfl⟩ := hT
  have hc : takeC w = chA a := by simp only [takeC, chA, h.dead, h.ch]
  have hl : takeL w = liveA a := by simp only [takeL, liveA, hc, h.dead]
  refine ⟨{ h with ch := ?_, dead := ?_, ok := { h.ok with ch := h3, chmany := Nat.le_trans h1 h.ok.chmany } }, hc, hl⟩
  · simp only [takeA, h2, h.dead, h.ch]
  · simp only [takeA, hl]
section
variable {P : Program} {n : Nat} {Γ : Env} {H : SH} {Q : Exit → Env → SH → Prop}
theorem VC.know {c : IC} {φ : Prop} (h : ∀ w F, Sat w (H.flatten ++ F) → φ) (k : φ → VC P n c Γ H Q) : VC P n c Γ H Q := by
  intro ρ kp od code hl a w F QQ hr ha hs hh
  exact k (h w F hs) ρ kp od code hl a w F QQ hr ha hs hh
theorem VO.know {rs : List RO} {Z : List PanicEntry → Env → SH → Prop} {K : Env → SH → Prop} {φ : Prop} (h : ∀ w F, Sat w (H.flatten ++ F) → φ) (k : φ → VO P n rs Γ H Z K) : VO P n rs Γ H Z K := by
  intro l hl a w F ZZ Q ha hs hq hz
  exact k (h w F hs) l hl a w F ZZ Q ha hs hq hz
end
theorem Sat.apart {w : World} {H R : SH} {F A : List Atom} {x y : Atom} (h : Sat w (H.flatten ++ F)) (ht : Tk H A R) (hx : x ∈ A) (hy : y ∈ R.flatten) : x.loc ≠ y.loc := by
  intro he
  have h1 := (h.perm (ht.perm.append_right F)).nodup
  rw [List.append_assoc, List.map_append, List.nodup_append] at h1
  exact h1.2.2 x.loc (List.mem_map_of_mem hx) y.loc (List.mem_map_of_mem (List.mem_append_left _ hy)) he
theorem modify_push {α : Type} (l : Array α) (x : α) (f : α → α) : (l.push x).modify l.size f = l.push (f x) := by
  apply Array.ext
  · simp
  · intro i h1 h2
    simp only [Array.getElem_modify, Array.getElem_push]
    by_cases hi : i < l.size
    · simp [hi, Nat.ne_of_gt hi]
    · have : l.size = i := by simp at h1; omega
      simp [hi, this]
section
variable {P : Program}
theorem swp_newS {H : List Atom} {c : Array Value} {t : TypeId} {K : Addr → List Atom → Prop} (h : ∀ b, K ⟨b, 0, none⟩ (cellsAt b 0 c.toList ++ H)) : SWP P (do let a ← newRow t c; markStringish a; pure a) H K := by
  intro F w hs
  obtain ⟨s1, s2⟩ := hs.push (.cells c t (c.size, c.size + 1)) (cellsAt w.heap.size 0 c.toList) (fun x hx => by
    obtain ⟨i, v, hi, rfl⟩ := mem_cellsAt.1 hx
    refine ⟨rfl, c, t, c.size, c.size + 1, by simp, by simpa using hi, ?_⟩
    have := (List.getElem?_eq_some_iff.1 hi).1
    simp at this ⊢; omega) (nodup_cellsAt _ _ _)
  refine ⟨⟨w.heap.size, 0, none⟩, _, _, ?_, h _, by rw [List.append_assoc]; exact s1, s2⟩
  have hsh : ({ w with heap := w.heap.push (.cells c t) } : World).shape? w.heap.size = some (t, c.size) := by simp [World.shape?]
  have hfr : ({ w with heap := w.heap.push (.cells c t) } : World).freeze ⟨w.heap.size, c.size, none⟩ 1 = { w with heap := w.heap.push (.cells c t (c.size, c.size + 1)) } := by
    simp [World.freeze, modify_push]
  have h1 : (Go.newRow t c).run P w = .ok ⟨w.heap.size, 0, none⟩ { w with heap := w.heap.push (.cells c t) } := by
    simp [Go.newRow, Go.newObj, Sem.run]
  have h2 : (markStringish ⟨w.heap.size, 0, none⟩).run P { w with heap := w.heap.push (.cells c t) } = .ok () { w with heap := w.heap.push (.cells c t (c.size, c.size + 1)) } := by
    rw [← hfr]
    unfold markStringish
    simp only [Go.shape, Sem.run_bind, Sem.run, hsh, Result.andThen_ok, Go.freeze]
  simp only [Sem.run_bind, h1, h2, Result.andThen_ok, Sem.run_pure]
theorem swp_s2b {H : List Atom} {t : TypeId} {s : ByteArray} {K : Value → List Atom → Prop} (h : ∀ b cap, s.size ≤ cap → K (.slice (some ⟨b, 0, none⟩) s.size cap) (cellsAt b 0 (sBytes s ++ List.replicate (cap - s.size) (.int .u8 0)) ++ H)) : SWP P (Conv.stringToBytes t s) H K := by
  have fin : ∀ cap, s.size ≤ cap → SWP P (do
      let a ← newRow t (s.data.map (fun b => Value.int .u8 b.toNat) ++ Array.replicate (cap - s.size) (.int .u8 0))
      markStringish a
      pure (Value.slice (some a) s.size cap)) H K := by
    intro cap hcap
    have := swp_newS (P := P) (H := H) (c := s.data.map (fun b => Value.int .u8 b.toNat) ++ Array.replicate (cap - s.size) (.int .u8 0)) (t := t) (K := fun a L => K (.slice (some a) s.size cap) L) (fun b => by
      have := h b cap hcap
      simpa [sBytes] using this)
    have h2 := SWP.bind (f := fun a => (pure (Value.slice (some a) s.size cap) : Sem Value)) (this.mono (fun a L ha => SWP.pure ha))
    simpa using h2
  unfold Conv.stringToBytes
  refine SWP.bind (SWP.choose (fun hf => by simp [Question.forced] at hf) (fun t' => ?_))
  simp only [Question.cut]
  exact fin _ (by omega)
end
def BytesAt (H : SH) : Value → List UInt8 → Prop
  | .slice (some ⟨b, o, none⟩) k _, l => k = l.length ∧ ∀ a ∈ cellsAt b o (l.map u8v), a ∈ H.flatten
  | .slice none _ _, l => l = []
  | _, _ => False
theorem IsSl.bytes {H R : SH} {sv : Value} {l : List UInt8} {sp : List Value} (h : IsSl 1 sv l.length (l.map u8v) sp) (ht : Tk H (slA sv (l.map u8v) sp) R) : BytesAt H sv l := by
  obtain ⟨a, c, rfl⟩ := h.form
  generalize hk : l.length = k at h
  generalize hm : l.map u8v = us at h
  cases h with
  | mk h1 h2 h3 =>
    refine ⟨hk.symm, fun x hx => ?_⟩
    refine (ht.perm.mem_iff).2 (List.mem_append_left _ ?_)
    rw [hk, hm]
    rw [hm] at hx
    simp only [slA, cellsAt_append, List.mem_append]
    exact .inl hx
  | nil => exact List.map_eq_nil_iff.1 hm
theorem ofNat_u8 (c : UInt8) : UInt8.ofNat (((c.toNat : Nat) : Int).toNat) = c := by simp
theorem run_push {P : Program} {w : World} {f : Value → ByteArray → Sem (ForInStep ByteArray)} (hf : ∀ (c : UInt8) r, f (u8v c) r = pure (ForInStep.yield (r.push (UInt8.ofNat ((c.toNat : Int)).toNat)))) : ∀ (l : List UInt8) (acc : ByteArray), (forIn (l.map u8v) acc f).run P w = .ok ⟨acc.data ++ l.toArray⟩ w := by
  intro l
  induction l with
  | nil => intro acc; simp
  | cons c l ih =>
    intro acc
    have := ih (acc.push c)
    rw [List.map_cons, List.forIn_cons, hf, Sem.run_bind, Sem.run_pure, Result.andThen_ok]
    simp only [ofNat_u8]
    rw [this]
    simp [ByteArray.push]
theorem run_b2s {P : Program} {H : SH} {dv : Value} {l : List UInt8} {F : List Atom} {w : World} (h : BytesAt H dv l) (hs : Sat w (H.flatten ++ F)) : (Conv.bytesToString dv).run P w = .ok (.string (ftxt l)) w := by
  unfold BytesAt at h
  split at h
  · obtain ⟨rfl, hm⟩ := h
    have hl := run_loadCells (P := P) (m := l.length) (us := l.map u8v) (by simp) hm hs
    unfold Conv.bytesToString
    simp only [Sem.run_bind, hl, Result.andThen_ok]
    rw [List.forIn_toArray]
    rw [run_push (fun c r => rfl)]
    simp [ftxt]
  · subst h
    unfold Conv.bytesToString
    rfl
  · exact h.elim
section
variable {P : Program} {n : Nat} {rs : List RO} {Γ : Env} {H : SH} {Z : List PanicEntry → Env → SH → Prop} {K : Env → SH → Prop} {d : Option Nat}
theorem st_b2s {x : Operand} {dv : Value} {l : List UInt8} (hx : ev Γ x = some dv) (hb : BytesAt H dv l) (h : VO P n rs (putE d (.string (ftxt l)) Γ) H Z K) : VO P n (⟨d, none, .b2s x⟩ :: rs) Γ H Z K :=
  VO.read rfl rfl (fun ρ hρ => ⟨_, rfl, fun F w hs => by
    rw [hρ _ _ hx]
    simp [run_b2s hb hs]⟩) h
theorem st_s2b {t : TypeId} {x : Operand} {s : ByteArray} (hx : ev Γ x = some (.string s)) (h : ∀ sv sp, IsSl 1 sv s.size (sBytes s) sp → VO P n rs (putE d sv Γ) (slA sv (sBytes s) sp :: H) Z K) : VO P n (⟨d, none, .s2b t x⟩ :: rs) Γ H Z K := by
  refine VO.act rfl rfl (fun ρ hρ => ⟨_, rfl, ?_⟩)
  rw [hρ _ _ hx]
  refine SWP.bind (swp_s2b (fun b cap hcap => SWP.pure ?_))
  refine ⟨_, slA (.slice (some ⟨b, 0, none⟩) s.size cap) (sBytes s) (List.replicate (cap - s.size) (.int .u8 0)) :: H, .inl rfl, by simp [slA], h _ _ (.mk (by simp [sBytes]) (by simp [sBytes]; omega) hcap)⟩
end
def Win : Value → Nat → Nat → Value → Prop
  | .slice (some ⟨b, o, none⟩) _ _, l, h, dv => ∃ o' c', dv = .slice (some ⟨b, o', none⟩) h c' ∧ (0 < h → o' = o + l)
  | .slice none _ _, _, h, dv => ∃ c', dv = .slice none h c'
  | _, _, _, _ => False
theorem Win.form {sv dv : Value} {l h : Nat} (hw : Win sv l h dv) : ∃ a c, dv = .slice a h c := by
  unfold Win at hw
  split at hw
  · obtain ⟨_, _, rfl, _⟩ := hw; exact ⟨_, _, rfl⟩
  · obtain ⟨_, rfl⟩ := hw; exact ⟨_, _, rfl⟩
  · exact hw.elim
theorem SubAt.form {sv dv : Value} {k l : Nat} {xs sp : List Value} (h : IsSl 1 sv k xs sp) (hd : SubAt sv l dv) : ∃ a c, dv = .slice a (k - l) c := by
  cases h with
  | mk h1 h2 h3 => simp only [SubAt] at hd; exact ⟨_, _, hd⟩
  | nil => simp only [SubAt] at hd; exact ⟨_, _, hd⟩
theorem Win.bytes {H R : SH} {sv dv : Value} {k l h : Nat} {bs : List UInt8} {sp : List Value} (hsl : IsSl 1 sv k (bs.map u8v) sp) (hw : Win sv l h dv) (hh : l + h ≤ k) (ht : Tk H (slA sv (bs.map u8v) sp) R) : BytesAt H dv ((bs.drop l).take h) := by
  have hlen := hsl.len
  simp only [List.length_map, Nat.mul_one] at hlen
  generalize hus : bs.map u8v = us at hsl ht
  cases hsl with
  | @mk b o _ c _ _ h1 h2 h3 =>
    obtain ⟨o', c', rfl, ho⟩ := hw
    refine ⟨by simp; omega, fun x hx => ?_⟩
    refine (ht.perm.mem_iff).2 (List.mem_append_left _ ?_)
    obtain ⟨i, v, hi, rfl⟩ := mem_cellsAt.1 hx
    have hlt := (List.getElem?_eq_some_iff.1 hi).1
    simp only [List.length_map, List.length_take, List.length_drop] at hlt
    obtain rfl := ho (by omega)
    refine mem_cellsAt.2 ⟨l + i, v, ?_, by congr 1; omega⟩
    rw [List.getElem?_append_left (by rw [← hus]; simp; omega), ← hus]
    rw [List.getElem?_map, List.getElem?_take, if_pos (by omega), List.getElem?_drop] at hi
    rw [List.getElem?_map]; exact hi
  | nil =>
    obtain ⟨c', rfl⟩ := hw
    simp only [List.map_eq_nil_iff] at hus
    simp [BytesAt, hus]
section
variable {P : Program} {n : Nat} {rs : List RO} {Γ : Env} {H : SH} {Z : List PanicEntry → Env → SH → Prop} {K : Env → SH → Prop} {d : Option Nat}
theorem st_slcTo {x hi : Operand} {sv dv : Value} {k l h : Nat} {xs sp : List Value} (hx : ev Γ x = some dv) (hsl : IsSl 1 sv k xs sp) (hd : SubAt sv l dv) (hl : l ≤ k) (hhi : Bnd Γ (k - l) (some hi) h) (hh : h ≤ k - l)
    (hK : ∀ dv', Win sv l h dv' → VO P n rs (putE d dv' Γ) H Z K) : VO P n (⟨d, none, .slcL 1 x none (some hi) none⟩ :: rs) Γ H Z K := by
  cases hsl with
  | @mk b o _ c _ _ h1 h2 h3 =>
    simp only [SubAt] at hd
    subst hd
    refine st_slcL hx .dft hhi ⟨Nat.zero_le _, by omega⟩ rfl (hK _ ⟨_, _, by rw [Nat.sub_zero], fun hp => ?_⟩)
    rw [if_neg (by omega), if_neg (by omega)]; omega
  | nil =>
    simp only [SubAt] at hd
    subst hd
    exact st_slcN hx .dft hhi ⟨Nat.zero_le _, by omega⟩ (hK _ ⟨_, by rw [Nat.sub_zero]⟩)
end
def doesA (f : AF) (x : Wr) : AF := ⟨onL x f.now, f.base, f.writes ++ [x]⟩
def nilTx : ByteArray := ⟨#[]⟩
def seekF (n at_ : Int) (d : De) (a : AW) : Int × De × AW :=
  if heldE a.hs n false ≠ 0 then (heldE a.hs n false, d, a)
  else if 0 ≤ at_ ∧ at_ ≤ (getF a n).now.length then (0, d, putH a n { getH a n with at_ := at_ }) else (1, d, a)
def readF (n many : Int) (d : De) (a : AW) : Int × De × AW :=
  if heldE a.hs n false ≠ 0 then (heldE a.hs n false, d, a)
  else if (getH a n).mode ≠ 1 then (33, d, a)
  else if many < 0 then (1, d, a)
  else
    let s := ((getF a n).now.drop (min (getH a n).at_.toNat (getF a n).now.length)).take many.toNat
    (0, { d with text := ftxt s }, putH a n { getH a n with at_ := (getH a n).at_ + s.length })
def writeAt (a : AW) (n : Int) : Int := if (getH a n).mode = 3 then (getF a n).now.length else (getH a n).at_
def writeF (n : Int) (s : ByteArray) (d : De) (a : AW) : Int × De × AW :=
  if heldE a.hs n false ≠ 0 then (heldE a.hs n false, d, a)
  else if (getH a n).mode = 1 then (33, d, a)
  else if 4194304 - writeAt a n < s.size then (34, d, a)
  else (0, d, putH { putF a n (doesA (getF a n) ⟨a.seq + 1, writeAt a n, s, false⟩) with seq := a.seq + 1 } n { getH a n with at_ := writeAt a n + s.size })
def syncF (n : Int) (d : De) (a : AW) : Int × De × AW :=
  if heldE a.hs n false ≠ 0 then (heldE a.hs n false, d, a) else (0, d, putF a n ⟨(getF a n).now, (getF a n).now, []⟩)
def closeF (n : Int) (d : De) (a : AW) : Int × De × AW :=
  if anyE a.hs n ≠ 0 then (anyE a.hs n, d, a)
  else if (getH a n).stale then (31, d, a) else (0, d, putH a n { getH a n with closed := true })
def renameF (p q : ByteArray) (d : De) (a : AW) : Int × De × AW :=
  if !(nameB p) || !(nameB q) then (35, d, a)
  else match mget p a.names with
    | none => (32, d, a)
    | some j => (0, d, { a with names := mset q j (mdel p a.names) })
def deleteF (p : ByteArray) (d : De) (a : AW) : Int × De × AW :=
  if !(nameB p) then (35, d, a)
  else match mget p a.names with
    | none => (32, d, a)
    | some _ => (0, d, { a with names := mdel p a.names })
def newF (p : ByteArray) (a : AW) : AW := { a with names := mset p a.files.length a.names, files := a.files ++ [⟨[], [], []⟩] }
def openB (j : Nat) (mode : Int) (d : De) (a : AW) : Int × De × AW :=
  let a2 : AW := if mode = 2 then { a with seq := a.seq + 1, files := a.files.set j (doesA ((a.files[j]?).getD ⟨[], [], []⟩) ⟨a.seq + 1, 0, nilTx, true⟩) } else a
  (0, { d with handle := a.hs.length + 1 }, { a2 with hs := a.hs ++ [⟨0, false, false, some j, mode, if mode = 3 then ((a.files[j]?).getD ⟨[], [], []⟩).now.length else 0⟩] })
def openF (p : ByteArray) (mode : Int) (d : De) (a : AW) : Int × De × AW :=
  if !(nameB p) then (35, d, a)
  else if mode < 1 ∨ 3 < mode then (33, d, a)
  else match mget p a.names with
    | none => if mode = 1 then (32, d, a) else if 32 ≤ usedN a.hs ∨ 64 ≤ a.names.length then (34, d, a) else openB a.files.length mode d (newF p a)
    | some j => if 32 ≤ usedN a.hs then (34, d, a) else openB j mode d a
def clockF (d : De) (a : AW) (c : Ch) : Int × De × AW :=
  let t := if c.kind = 1 ∧ 0 ≤ c.n ∧ c.n ≤ 1000000000000 then min (a.clock + c.n) 1000000000000000000 else a.clock
  (0, { d with n := t }, { a with clock := t })
def connectF (p : ByteArray) (d : De) (a : AW) (c : Ch) : Int × De × AW :=
  if !(nameB p) then (35, d, a)
  else if c.kind ≠ 2 ∨ c.text ≠ p then (32, d, a)
  else if chosenE c.n ≠ 0 then (chosenE c.n, d, a)
  else if 32 ≤ usedN a.hs then (34, d, a)
  else (0, { d with handle := a.hs.length + 1 }, { a with hs := a.hs ++ [⟨0, false, false, none, 0, 0⟩] })
def sendF (n : Int) (d : De) (a : AW) (_ : Ch) : Int × De × AW := (heldE a.hs n true, d, a)
def receiveF (n many : Int) (d : De) (a : AW) (c : Ch) : Int × De × AW :=
  if heldE a.hs n true ≠ 0 then (heldE a.hs n true, d, a)
  else if many < 0 then (1, d, a)
  else if c.kind ≠ 3 then (0, d, a)
  else if chosenE c.n ≠ 0 then (chosenE c.n, d, a)
  else (0, { d with text := c.text.extract 0 (min many.toNat c.text.size) }, a)
def showF (d : De) (a : AW) (_ : Ch) : Int × De × AW := (0, d, a)
def deOpen (p : ByteArray) (mode : Int) : De := ⟨1, 0, p, nilTx, mode, 0⟩
def deRead (n many : Int) : De := ⟨2, n, nilTx, nilTx, many, 0⟩
def deWrite (n : Int) (s : ByteArray) : De := ⟨3, n, s, nilTx, 0, 0⟩
def deSeek (n at_ : Int) : De := ⟨4, n, nilTx, nilTx, at_, 0⟩
def deSync (n : Int) : De := ⟨5, n, nilTx, nilTx, 0, 0⟩
def deClose (n : Int) : De := ⟨6, n, nilTx, nilTx, 0, 0⟩
def deRename (p q : ByteArray) : De := ⟨7, 0, p, q, 0, 0⟩
def deDelete (p : ByteArray) : De := ⟨8, 0, p, nilTx, 0, 0⟩
def deClock : De := ⟨9, 0, nilTx, nilTx, 0, 0⟩
def deConnect (p : ByteArray) : De := ⟨10, 0, p, nilTx, 0, 0⟩
def deSend (n : Int) (s : ByteArray) : De := ⟨11, n, s, nilTx, 0, 0⟩
def deReceive (n many : Int) : De := ⟨12, n, nilTx, nilTx, many, 0⟩
def deShow (s : ByteArray) : De := ⟨13, 0, s, nilTx, 0, 0⟩
def deQuit (k : Int) : De := ⟨14, 0, nilTx, nilTx, k, 0⟩
def filedM (d : De) (f : De → AW → Int × De × AW) (a : AW) : De × Int × AW := deedA a d (faultA d (f d))
def openM (p : ByteArray) (mode : Int) (a : AW) := filedM (deOpen p mode) (openF p mode) a
def readM (n many : Int) (a : AW) := filedM (deRead n many) (readF n many) a
def writeM (n : Int) (s : ByteArray) (a : AW) := filedM (deWrite n s) (writeF n s) a
def seekM (n at_ : Int) (a : AW) := filedM (deSeek n at_) (seekF n at_) a
def syncM (n : Int) (a : AW) := filedM (deSync n) (syncF n) a
def closeM (n : Int) (a : AW) := filedM (deClose n) (closeF n) a
def renameM (p q : ByteArray) (a : AW) := filedM (deRename p q) (renameF p q) a
def deleteM (p : ByteArray) (a : AW) := filedM (deDelete p) (deleteF p) a
def clockM (a : AW) := deedA a deClock (clockF deClock)
def connectM (p : ByteArray) (a : AW) := deedA a (deConnect p) (connectF p (deConnect p))
def sendM (n : Int) (s : ByteArray) (a : AW) := deedA a (deSend n s) (sendF n (deSend n s))
def receiveM (n many : Int) (a : AW) := deedA a (deReceive n many) (receiveF n many (deReceive n many))
def showM (s : ByteArray) (a : AW) := deedA a (deShow s) (showF (deShow s))
def quitM (k : Int) (a : AW) := deedA a (deQuit k) (showF (deQuit k))
def sizeM (n : Int) (a : AW) : Int × Int := if a.dead then (0, 36) else if heldE a.hs n false ≠ 0 then (0, heldE a.hs n false) else ((getF a n).now.length, 0)
section
variable {κ α β : Type} [DecidableEq κ] {g : α → β} {k : κ}
theorem mget_map {l : List (κ × α)} : mget k (l.map fun p => (p.1, g p.2)) = (mget k l).map g := by
  induction l with
  | nil => rfl
  | cons p l ih => simp only [List.map_cons, mget]; split <;> simp_all
theorem mset_map {v : α} {l : List (κ × α)} : mset k (g v) (l.map fun p => (p.1, g p.2)) = (mset k v l).map fun p => (p.1, g p.2) := by
  induction l with
  | nil => rfl
  | cons p l ih => simp only [List.map_cons, mset]; split <;> simp_all
theorem mdel_map {l : List (κ × α)} : mdel k (l.map fun p => (p.1, g p.2)) = (mdel k l).map fun p => (p.1, g p.2) := by
  induction l with
  | nil => rfl
  | cons p l ih => simp only [List.map_cons, mdel]; split <;> simp_all
theorem mem_mset {v : α} {l : List (κ × α)} {p : κ × α} (h : p ∈ mset k v l) : p = (k, v) ∨ p ∈ l := by
  induction l with
  | nil => simp [mset] at h; exact .inl h
  | cons q l ih =>
    simp only [mset] at h
    split at h
    · rename_i e; subst e; rcases List.mem_cons.1 h with h | h
      · exact .inl h
      · exact .inr (List.mem_cons_of_mem _ h)
    · rcases List.mem_cons.1 h with h | h
      · exact .inr (h ▸ List.mem_cons_self)
      · exact (ih h).imp id (List.mem_cons_of_mem _)
theorem mem_mdel {l : List (κ × α)} {p : κ × α} (h : p ∈ mdel k l) : p ∈ l := by
  induction l with
  | nil => cases h
  | cons q l ih =>
    simp only [mdel] at h
    split at h
    · exact List.mem_cons_of_mem _ h
    · rcases List.mem_cons.1 h with h | h
      · exact h ▸ List.mem_cons_self
      · exact List.mem_cons_of_mem _ (ih h)
theorem mset_length_le {v : α} {l : List (κ × α)} : (mset k v l).length ≤ l.length + 1 := by
  induction l with
  | nil => simp [mset]
  | cons q l ih => simp only [mset]; split <;> simp_all
theorem mset_keys_nodup {v : α} {l : List (κ × α)} (h : (l.map (·.1)).Nodup) : ((mset k v l).map (·.1)).Nodup := by
  induction l with
  | nil => simp [mset]
  | cons q l ih =>
    simp only [List.map_cons, List.nodup_cons] at h
    simp only [mset]
    split
    · simp only [List.map_cons, List.nodup_cons]; exact h
    · rename_i hne
      simp only [List.map_cons, List.nodup_cons]
      refine ⟨fun hm => ?_, ih h.2⟩
      obtain ⟨p, hp, he⟩ := List.mem_map.1 hm
      rcases mem_mset hp with rfl | hp
      · exact hne he.symm
      · exact h.1 (he ▸ List.mem_map_of_mem hp)
theorem mdel_keys_nodup {l : List (κ × α)} (h : (l.map (·.1)).Nodup) : ((mdel k l).map (·.1)).Nodup := by
  induction l with
  | nil => simp [mdel]
  | cons q l ih =>
    simp only [List.map_cons, List.nodup_cons] at h
    simp only [mdel]
    split
    · exact h.2
    · simp only [List.map_cons, List.nodup_cons]
      refine ⟨fun hm => ?_, ih h.2⟩
      obtain ⟨p, hp, he⟩ := List.mem_map.1 hm
      exact h.1 (he ▸ List.mem_map_of_mem (mem_mdel hp))
theorem mdel_length_le {l : List (κ × α)} : (mdel k l).length ≤ l.length := by
  induction l with
  | nil => simp [mdel]
  | cons q l ih => simp only [mdel]; split <;> simp_all <;> omega
theorem mdel_length {v : α} {l : List (κ × α)} (h : mget k l = some v) : (mdel k l).length + 1 = l.length := by
  induction l with
  | nil => cases h
  | cons q l ih =>
    simp only [mget] at h
    simp only [mdel]
    split at h
    · rename_i e; simp [e]
    · rename_i e; simp [e, ih h]
end
section
variable {w : WR} {a : AW} {M : Nat}
theorem Rep.mget (h : Rep w a M) (p : ByteArray) : V.mget p w.names = (V.mget p a.names).map fun j => (w.objs.map (·.1)).getD j 0 := by
  rw [h.names]; exact mget_map (κ := ByteArray) (α := Nat) (β := Nat) (g := fun j => (w.objs.map (·.1)).getD j 0)
theorem Rep.keys (h : Rep w a M) : (a.names.map (·.1)).Nodup := by
  have := h.ok.keys
  rw [h.names] at this
  simpa [List.map_map, Function.comp_def] using this
theorem Rep.files64 (h : Rep w a M) : a.names.length ≤ 1073741823 := by have := h.ok.files; rw [h.nlen] at this; exact this
theorem Rep.setN (h : Rep w a M) {fes : Array MapEntry} {fc : Nat} {l : List (ByteArray × Nat)} (hm : MapIs kStr (fun b : Nat => ptr0 b) fes fc (l.map fun p => (p.1, (w.objs.map (·.1)).getD p.2 0)))
    (hk : (l.map (·.1)).Nodup) (hin : ∀ p ∈ l, p.2 < a.files.length) (hl : l.length ≤ 1073741823) : Rep { w with fes := fes, fc := fc, names := l.map fun p => (p.1, (w.objs.map (·.1)).getD p.2 0) } { a with names := l } M := by
  refine { h with names := rfl, nin := hin, ok := { h.ok with fm := hm, keys := ?_, named := ?_, files := ?_ } }
  · simpa [List.map_map, Function.comp_def] using hk
  · intro p hp
    obtain ⟨q, hq, rfl⟩ := List.mem_map.1 hp
    have := hin q hq
    rw [← h.flen] at this
    simp only [List.getD_eq_getElem?_getD, List.getElem?_map, List.getElem?_eq_getElem this, Option.map_some, Option.getD_some]
    exact List.mem_map_of_mem (List.getElem_mem this)
  · simpa using hl
theorem Rep.opened2 (h : Rep w a M) {n : Int} (he : anyE a.hs n = 0) :
    ∃ x y, 1 ≤ n ∧ w.hs[(n - 1).toNat]? = some x ∧ a.hs[(n - 1).toNat]? = some y ∧ ho0 x = hoB (w.objs.map (·.1)) y ∧ x.closed = false ∧ (0 ≤ x.at_ ∧ x.at_ ≤ 4194304) := by
  rw [← h.any] at he
  obtain ⟨h1, x, hx, hc⟩ := anyE_ok he
  obtain ⟨y, hy, hxy⟩ := h.handle hx
  exact ⟨x, y, h1, hx, hy, hxy, hc, h.ok.hat _ (List.mem_of_getElem? hx)⟩
theorem Rep.addH (h : Rep w a M) (hm : w.hs.length + 1 ≤ M) {x y : HO} {hv : Value} {hsp : List Value} (hs : IsSl 1 hv (w.hs.length + 1) ((w.hs.map fun h => ptr0 h.blk) ++ [ptr0 x.blk]) hsp) (hxy : ho0 x = hoB (w.objs.map (·.1)) y)
    (hin : ∀ i, y.file = some i → i < a.files.length) (ha : 0 ≤ x.at_ ∧ x.at_ ≤ 4194304) : Rep { w with hv := hv, hs := w.hs ++ [x], hsp := hsp } { a with hs := a.hs ++ [y] } M := by
  refine { h with hs := ?_, hin := ?_, ok := { h.ok with hv := ?_, hfile := ?_, hat := ?_, hmany := ?_ } }
  · simp only [List.map_append, List.map_cons, List.map_nil, h.hs, hxy]
  · intro z hz i hi
    rcases List.mem_append.1 hz with hz | hz
    · exact h.hin z hz i hi
    · rw [List.mem_singleton.1 hz] at hi; exact hin i hi
  · simpa using hs
  · intro z hz b hb
    rcases List.mem_append.1 hz with hz | hz
    · exact h.ok.hfile z hz b hb
    · rw [List.mem_singleton.1 hz] at hb
      have := congrArg HO.file hxy
      simp only [ho0, hoB, hb] at this
      cases hf : y.file with
      | none => rw [hf] at this; cases this
      | some i =>
        rw [hf] at this
        simp only [Option.map_some, Option.some.injEq] at this
        have hi := hin i hf
        rw [← h.flen] at hi
        rw [this]
        simp only [List.getD_eq_getElem?_getD, List.getElem?_map, List.getElem?_eq_getElem hi, Option.map_some, Option.getD_some]
        exact List.mem_map_of_mem (List.getElem_mem hi)
  · intro z hz
    rcases List.mem_append.1 hz with hz | hz
    · exact h.ok.hat z hz
    · rw [List.mem_singleton.1 hz]; exact ha
  · simpa using hm
theorem Rep.addF (h : Rep w a M) {b : Nat} {fo : FO} (hb : b ∉ w.objs.map (·.1)) (hf : FOk fo M) : Rep { w with objs := w.objs ++ [(b, fo)] } { a with files := a.files ++ [foF fo] } M := by
  have hB : ∀ i, i < a.files.length → ((w.objs ++ [(b, fo)]).map (·.1)).getD i 0 = (w.objs.map (·.1)).getD i 0 := by
    intro i hi
    rw [← h.flen] at hi
    simp [List.getD_eq_getElem?_getD, hi, List.getElem?_append_left]
  refine { h with names := ?_, nin := ?_, files := ?_, hs := ?_, hin := ?_, ok := { h.ok with blks := ?_, named := ?_, fo := ?_, hfile := ?_ } }
  · rw [h.names]
    refine List.map_congr_left (fun p hp => ?_)
    rw [hB _ (h.nin p hp)]
  · intro p hp; have := h.nin p hp; simp; omega
  · simp [h.files]
  · rw [h.hs]
    refine List.map_congr_left (fun y hy => ?_)
    simp only [hoB, HO.mk.injEq, true_and, and_true]
    cases hf : y.file with
    | none => rfl
    | some i => simp only [Option.map_some]; rw [hB i (h.hin y hy i hf)]
  · intro y hy i hi; have := h.hin y hy i hi; simp; omega
  · rw [List.map_append, List.nodup_append]
    refine ⟨h.ok.blks, by simp, fun x hx y hy e => ?_⟩
    simp at hy
    subst hy; subst e
    exact hb hx
  · intro p hp; have := h.ok.named p hp; simp only [List.map_append, List.mem_append]; exact .inl this
  · intro p hp
    rcases List.mem_append.1 hp with hp | hp
    · exact h.ok.fo p hp
    · rw [List.mem_singleton.1 hp]; exact hf
  · intro z hz b' hb'; have := h.ok.hfile z hz b' hb'; simp only [List.map_append, List.mem_append]; exact .inl this
theorem imp_closeH {t : Nat} {w : WR} {X : SH} {H1 hrest : List Atom} (hh : (w.hs.flatMap hoA).Perm (H1 ++ hrest)) :
    Imp ([cellsAt t 0 (hdr w), slA w.cv (w.choices.flatMap chEnc) w.csp, [.obj w.fm (.map w.fes w.fc)], w.objs.flatMap foA, slA w.hv (w.hs.map fun h => ptr0 h.blk) w.hsp, slA w.tv (w.trace.flatMap deEnc) w.tsp, H1, hrest] ++ X) (WMem t w ++ X) := by
  have := imp_close (t := t) (w := w) (X := X) (F1 := w.objs.flatMap foA) (F2 := []) (frest := []) (H1 := H1) (hrest := hrest) (by simp) hh
  refine Imp.cut (Imp.perm ?_) this
  simp only [List.flatten_append, List.flatten_cons, List.flatten_nil, List.append_nil, List.nil_append]
  refine List.Perm.append_right _ ?_
  refine List.Perm.append_left _ (List.Perm.append_left _ (List.Perm.append_left _ ?_))
  generalize slA w.hv (w.hs.map fun h => ptr0 h.blk) w.hsp = p
  generalize slA w.tv (w.trace.flatMap deEnc) w.tsp = r
  generalize w.objs.flatMap foA = o
  refine (perm_lead o p _).trans (List.Perm.append_left _ (perm_lead o r _))
theorem imp_closeL {t : Nat} {w : WR} {X : SH} (Fs Hs : SH) (hf : (w.objs.flatMap foA).Perm Fs.flatten) (hh : (w.hs.flatMap hoA).Perm Hs.flatten) :
    Imp ([cellsAt t 0 (hdr w), slA w.cv (w.choices.flatMap chEnc) w.csp, [.obj w.fm (.map w.fes w.fc)], slA w.hv (w.hs.map fun h => ptr0 h.blk) w.hsp, slA w.tv (w.trace.flatMap deEnc) w.tsp] ++ (Fs ++ (Hs ++ X))) (WMem t w ++ X) := by
  have := imp_close (t := t) (w := w) (X := X) (F1 := Fs.flatten) (F2 := []) (frest := []) (H1 := Hs.flatten) (hrest := []) (by simpa using hf) (by simpa using hh)
  refine Imp.cut (Imp.perm ?_) this
  simp only [List.flatten_append, List.flatten_cons, List.flatten_nil, List.append_nil, List.nil_append, List.append_assoc]
  exact .refl _
theorem Rep.next (h : Rep w a M) : Rep { w with seq := w.seq + 1 } { a with seq := a.seq + 1 } (M + 1) := by
  have h' := h.mono (Nat.le_succ M)
  refine { h' with seq := by simp only [h.seq], ok := { h'.ok with seq := ?_ } }
  have := h.ok.seq
  constructor
  · show 0 ≤ w.seq + 1; omega
  · show w.seq + 1 ≤ ((M + 1 : Nat) : Int); omega
end
theorem imp_lastL (S L : SH) : Imp (S ++ L) (S ++ [L.flatten]) := Imp.perm (by simp only [List.flatten_append, List.flatten_cons, List.flatten_nil, List.append_nil]; exact .refl _)
theorem spl_lastL (S L : SH) (Q : List Atom) : V.Spl (S ++ [Q, L.flatten]) (S ++ (Q :: L)) [] := by
  simp only [V.Spl, List.flatten_append, List.flatten_cons, List.flatten_nil, List.append_nil]; exact .refl _
theorem imp_lastQ (S L : SH) (Q : List Atom) : Imp (S ++ (Q :: L) ++ []) (S ++ [Q, L.flatten]) := Imp.perm (by simp only [List.flatten_append, List.flatten_cons, List.flatten_nil, List.append_nil]; exact .refl _)
theorem spl_self (S : SH) : V.Spl S S [] := by simp only [V.Spl, List.flatten_nil, List.append_nil]; exact .refl _
theorem seekF_trace {n at_ : Int} {d : De} {a : AW} : (seekF n at_ d a).2.2.trace = a.trace := by unfold seekF; (repeat' split) <;> rfl
theorem readF_trace {n m : Int} {d : De} {a : AW} : (readF n m d a).2.2.trace = a.trace := by unfold readF; (repeat' split) <;> rfl
theorem writeF_trace {n : Int} {s : ByteArray} {d : De} {a : AW} : (writeF n s d a).2.2.trace = a.trace := by unfold writeF; (repeat' split) <;> rfl
theorem syncF_trace {n : Int} {d : De} {a : AW} : (syncF n d a).2.2.trace = a.trace := by unfold syncF; (repeat' split) <;> rfl
theorem closeF_trace {n : Int} {d : De} {a : AW} : (closeF n d a).2.2.trace = a.trace := by unfold closeF; (repeat' split) <;> rfl
theorem renameF_trace {s s2 : ByteArray} {d : De} {a : AW} : (renameF s s2 d a).2.2.trace = a.trace := by unfold renameF; (repeat' split) <;> rfl
theorem deleteF_trace {s : ByteArray} {d : De} {a : AW} : (deleteF s d a).2.2.trace = a.trace := by unfold deleteF; (repeat' split) <;> rfl
theorem openB_trace {j : Nat} {m : Int} {d : De} {a : AW} : (openB j m d a).2.2.trace = a.trace := by unfold openB; dsimp only; split <;> rfl
theorem openF_trace {s : ByteArray} {m : Int} {d : De} {a : AW} : (openF s m d a).2.2.trace = a.trace := by unfold openF; (repeat' split) <;> first | rfl | exact openB_trace
theorem clockF_trace {d : De} {a : AW} {c : Ch} : (clockF d a c).2.2.trace = a.trace := rfl
theorem connectF_trace {s : ByteArray} {d : De} {a : AW} {c : Ch} : (connectF s d a c).2.2.trace = a.trace := by unfold connectF; (repeat' split) <;> rfl
theorem sendF_trace {n : Int} {d : De} {a : AW} {c : Ch} : (sendF n d a c).2.2.trace = a.trace := rfl
theorem receiveF_trace {n m : Int} {d : De} {a : AW} {c : Ch} : (receiveF n m d a c).2.2.trace = a.trace := by unfold receiveF; (repeat' split) <;> rfl
theorem showF_trace {d : De} {a : AW} {c : Ch} : (showF d a c).2.2.trace = a.trace := rfl
end Go.V

/-
  What each call of the outside world does, in terms of lists.
-/
import Derived.Test.YtmnmandpdadedaaGreatDoorV10
set_option linter.unusedSimpArgs false
set_option linter.unusedVariables false
namespace Go.V
open Go
def doesA (f : AF) (x : Wr) : AF := ⟨onL x f.now, f.base, f.writes ++ [x]⟩
def nilTx : ByteArray := ⟨#[]⟩
def seekF (n at_ : Int) (d : De) (a : AW) : Int × De × AW :=
  if heldE a.hs n false ≠ 0 then (heldE a.hs n false, d, a)
  else if 0 ≤ at_ ∧ at_ ≤ (getF a n).now.length then (0, d, putH a n { getH a n with at_ := at_ }) else (1, d, a)
def readF (n many : Int) (d : De) (a : AW) : Int × De × AW :=
  if heldE a.hs n false ≠ 0 then (heldE a.hs n false, d, a)
  else if (getH a n).mode ≠ 1 then (33, d, a)
  else if many < 0 then (1, d, a)
  else
    let s := ((getF a n).now.drop (min (getH a n).at_.toNat (getF a n).now.length)).take many.toNat
    (0, { d with text := ftxt s }, putH a n { getH a n with at_ := (getH a n).at_ + s.length })
def writeAt (a : AW) (n : Int) : Int := if (getH a n).mode = 3 then (getF a n).now.length else (getH a n).at_
def writeF (n : Int) (s : ByteArray) (d : De) (a : AW) : Int × De × AW :=
  if heldE a.hs n false ≠ 0 then (heldE a.hs n false, d, a)
  else if (getH a n).mode = 1 then (33, d, a)
  else if 4194304 - writeAt a n < s.size then (34, d, a)
  else (0, d, putH { putF a n (doesA (getF a n) ⟨a.seq + 1, writeAt a n, s, false⟩) with seq := a.seq + 1 } n { getH a n with at_ := writeAt a n + s.size })
def syncF (n : Int) (d : De) (a : AW) : Int × De × AW :=
  if heldE a.hs n false ≠ 0 then (heldE a.hs n false, d, a) else (0, d, putF a n ⟨(getF a n).now, (getF a n).now, []⟩)
def closeF (n : Int) (d : De) (a : AW) : Int × De × AW :=
  if anyE a.hs n ≠ 0 then (anyE a.hs n, d, a)
  else if (getH a n).stale then (31, d, a) else (0, d, putH a n { getH a n with closed := true })
def renameF (p q : ByteArray) (d : De) (a : AW) : Int × De × AW :=
  if !(nameB p) || !(nameB q) then (35, d, a)
  else match mget p a.names with
    | none => (32, d, a)
    | some j => (0, d, { a with names := mset q j (mdel p a.names) })
def deleteF (p : ByteArray) (d : De) (a : AW) : Int × De × AW :=
  if !(nameB p) then (35, d, a)
  else match mget p a.names with
    | none => (32, d, a)
    | some _ => (0, d, { a with names := mdel p a.names })
def newF (p : ByteArray) (a : AW) : AW := { a with names := mset p a.files.length a.names, files := a.files ++ [⟨[], [], []⟩] }
def openB (j : Nat) (mode : Int) (d : De) (a : AW) : Int × De × AW :=
  let a2 : AW := if mode = 2 then { a with seq := a.seq + 1, files := a.files.set j (doesA ((a.files[j]?).getD ⟨[], [], []⟩) ⟨a.seq + 1, 0, nilTx, true⟩) } else a
  (0, { d with handle := a.hs.length + 1 }, { a2 with hs := a.hs ++ [⟨0, false, false, some j, mode, if mode = 3 then ((a.files[j]?).getD ⟨[], [], []⟩).now.length else 0⟩] })
def openF (p : ByteArray) (mode : Int) (d : De) (a : AW) : Int × De × AW :=
  if !(nameB p) then (35, d, a)
  else if mode < 1 ∨ 3 < mode then (33, d, a)
  else match mget p a.names with
    | none => if mode = 1 then (32, d, a) else if 32 ≤ usedN a.hs ∨ 64 ≤ a.names.length then (34, d, a) else openB a.files.length mode d (newF p a)
    | some j => if 32 ≤ usedN a.hs then (34, d, a) else openB j mode d a
def clockF (d : De) (a : AW) (c : Ch) : Int × De × AW :=
  let t := if c.kind = 1 ∧ 0 ≤ c.n ∧ c.n ≤ 1000000000000 then min (a.clock + c.n) 1000000000000000000 else a.clock
  (0, { d with n := t }, { a with clock := t })
def connectF (p : ByteArray) (d : De) (a : AW) (c : Ch) : Int × De × AW :=
  if !(nameB p) then (35, d, a)
  else if c.kind ≠ 2 ∨ c.text ≠ p then (32, d, a)
  else if chosenE c.n ≠ 0 then (chosenE c.n, d, a)
  else if 32 ≤ usedN a.hs then (34, d, a)
  else (0, { d with handle := a.hs.length + 1 }, { a with hs := a.hs ++ [⟨0, false, false, none, 0, 0⟩] })
def sendF (n : Int) (d : De) (a : AW) (_ : Ch) : Int × De × AW := (heldE a.hs n true, d, a)
def receiveF (n many : Int) (d : De) (a : AW) (c : Ch) : Int × De × AW :=
  if heldE a.hs n true ≠ 0 then (heldE a.hs n true, d, a)
  else if many < 0 then (1, d, a)
  else if c.kind ≠ 3 then (0, d, a)
  else if chosenE c.n ≠ 0 then (chosenE c.n, d, a)
  else (0, { d with text := c.text.extract 0 (min many.toNat c.text.size) }, a)
def showF (d : De) (a : AW) (_ : Ch) : Int × De × AW := (0, d, a)
def deOpen (p : ByteArray) (mode : Int) : De := ⟨1, 0, p, nilTx, mode, 0⟩
def deRead (n many : Int) : De := ⟨2, n, nilTx, nilTx, many, 0⟩
def deWrite (n : Int) (s : ByteArray) : De := ⟨3, n, s, nilTx, 0, 0⟩
def deSeek (n at_ : Int) : De := ⟨4, n, nilTx, nilTx, at_, 0⟩
def deSync (n : Int) : De := ⟨5, n, nilTx, nilTx, 0, 0⟩
def deClose (n : Int) : De := ⟨6, n, nilTx, nilTx, 0, 0⟩
def deRename (p q : ByteArray) : De := ⟨7, 0, p, q, 0, 0⟩
def deDelete (p : ByteArray) : De := ⟨8, 0, p, nilTx, 0, 0⟩
def deClock : De := ⟨9, 0, nilTx, nilTx, 0, 0⟩
def deConnect (p : ByteArray) : De := ⟨10, 0, p, nilTx, 0, 0⟩
def deSend (n : Int) (s : ByteArray) : De := ⟨11, n, s, nilTx, 0, 0⟩
def deReceive (n many : Int) : De := ⟨12, n, nilTx, nilTx, many, 0⟩
def deShow (s : ByteArray) : De := ⟨13, 0, s, nilTx, 0, 0⟩
def deQuit (k : Int) : De := ⟨14, 0, nilTx, nilTx, k, 0⟩
def filedM (d : De) (f : De → AW → Int × De × AW) (a : AW) : De × Int × AW := deedA a d (faultA d (f d))
def openM (p : ByteArray) (mode : Int) (a : AW) := filedM (deOpen p mode) (openF p mode) a
def readM (n many : Int) (a : AW) := filedM (deRead n many) (readF n many) a
def writeM (n : Int) (s : ByteArray) (a : AW) := filedM (deWrite n s) (writeF n s) a
def seekM (n at_ : Int) (a : AW) := filedM (deSeek n at_) (seekF n at_) a
def syncM (n : Int) (a : AW) := filedM (deSync n) (syncF n) a
def closeM (n : Int) (a : AW) := filedM (deClose n) (closeF n) a
def renameM (p q : ByteArray) (a : AW) := filedM (deRename p q) (renameF p q) a
def deleteM (p : ByteArray) (a : AW) := filedM (deDelete p) (deleteF p) a
def clockM (a : AW) := deedA a deClock (clockF deClock)
def connectM (p : ByteArray) (a : AW) := deedA a (deConnect p) (connectF p (deConnect p))
def sendM (n : Int) (s : ByteArray) (a : AW) := deedA a (deSend n s) (sendF n (deSend n s))
def receiveM (n many : Int) (a : AW) := deedA a (deReceive n many) (receiveF n many (deReceive n many))
def showM (s : ByteArray) (a : AW) := deedA a (deShow s) (showF (deShow s))
def quitM (k : Int) (a : AW) := deedA a (deQuit k) (showF (deQuit k))
def sizeM (n : Int) (a : AW) : Int × Int := if a.dead then (0, 36) else if heldE a.hs n false ≠ 0 then (0, heldE a.hs n false) else ((getF a n).now.length, 0)
section
variable {κ α β : Type} [DecidableEq κ] {g : α → β} {k : κ}
theorem mget_map {l : List (κ × α)} : mget k (l.map fun p => (p.1, g p.2)) = (mget k l).map g := by
  induction l with
  | nil => rfl
  | cons p l ih => simp only [List.map_cons, mget]; split <;> simp_all
theorem mset_map {v : α} {l : List (κ × α)} : mset k (g v) (l.map fun p => (p.1, g p.2)) = (mset k v l).map fun p => (p.1, g p.2) := by
  induction l with
  | nil => rfl
  | cons p l ih => simp only [List.map_cons, mset]; split <;> simp_all
theorem mdel_map {l : List (κ × α)} : mdel k (l.map fun p => (p.1, g p.2)) = (mdel k l).map fun p => (p.1, g p.2) := by
  induction l with
  | nil => rfl
  | cons p l ih => simp only [List.map_cons, mdel]; split <;> simp_all
theorem mem_mset {v : α} {l : List (κ × α)} {p : κ × α} (h : p ∈ mset k v l) : p = (k, v) ∨ p ∈ l := by
  induction l with
  | nil => simp [mset] at h; exact .inl h
  | cons q l ih =>
    simp only [mset] at h
    split at h
    · rename_i e; subst e; rcases List.mem_cons.1 h with h | h
      · exact .inl h
      · exact .inr (List.mem_cons_of_mem _ h)
    · rcases List.mem_cons.1 h with h | h
      · exact .inr (h ▸ List.mem_cons_self)
      · exact (ih h).imp id (List.mem_cons_of_mem _)
theorem mem_mdel {l : List (κ × α)} {p : κ × α} (h : p ∈ mdel k l) : p ∈ l := by
  induction l with
  | nil => cases h
  | cons q l ih =>
    simp only [mdel] at h
    split at h
    · exact List.mem_cons_of_mem _ h
    · rcases List.mem_cons.1 h with h | h
      · exact h ▸ List.mem_cons_self
      · exact List.mem_cons_of_mem _ (ih h)
theorem mset_length_le {v : α} {l : List (κ × α)} : (mset k v l).length ≤ l.length + 1 := by
  induction l with
  | nil => simp [mset]
  | cons q l ih => simp only [mset]; split <;> simp_all
theorem mset_keys_nodup {v : α} {l : List (κ × α)} (h : (l.map (·.1)).Nodup) : ((mset k v l).map (·.1)).Nodup := by
  induction l with
  | nil => simp [mset]
  | cons q l ih =>
    simp only [List.map_cons, List.nodup_cons] at h
    simp only [mset]
    split
    · simp only [List.map_cons, List.nodup_cons]; exact h
    · rename_i hne
      simp only [List.map_cons, List.nodup_cons]
      refine ⟨fun hm => ?_, ih h.2⟩
      obtain ⟨p, hp, he⟩ := List.mem_map.1 hm
      rcases mem_mset hp with rfl | hp
      · exact hne he.symm
      · exact h.1 (he ▸ List.mem_map_of_mem hp)
theorem mdel_keys_nodup {l : List (κ × α)} (h : (l.map (·.1)).Nodup) : ((mdel k l).map (·.1)).Nodup := by
  induction l with
  | nil => simp [mdel]
  | cons q l ih =>
    simp only [List.map_cons, List.nodup_cons] at h
    simp only [mdel]
    split
    · exact h.2
    · simp only [List.map_cons, List.nodup_cons]
      refine ⟨fun hm => ?_, ih h.2⟩
      obtain ⟨p, hp, he⟩ := List.mem_map.1 hm
      exact h.1 (he ▸ List.mem_map_of_mem (mem_mdel hp))
theorem mdel_length_le {l : List (κ × α)} : (mdel k l).length ≤ l.length := by
  induction l with
  | nil => simp [mdel]
  | cons q l ih => simp only [mdel]; split <;> simp_all <;> omega
theorem mdel_length {v : α} {l : List (κ × α)} (h : mget k l = some v) : (mdel k l).length + 1 = l.length := by
  induction l with
  | nil => cases h
  | cons q l ih =>
    simp only [mget] at h
    simp only [mdel]
    split at h
    · rename_i e; simp [e]
    · rename_i e; simp [e, ih h]
end
section
variable {w : WR} {a : AW} {M : Nat}
theorem Rep.mget (h : Rep w a M) (p : ByteArray) : V.mget p w.names = (V.mget p a.names).map fun j => (w.objs.map (·.1)).getD j 0 := by
  rw [h.names]; exact mget_map (κ := ByteArray) (α := Nat) (β := Nat) (g := fun j => (w.objs.map (·.1)).getD j 0)
theorem Rep.keys (h : Rep w a M) : (a.names.map (·.1)).Nodup := by
  have := h.ok.keys
  rw [h.names] at this
  simpa [List.map_map, Function.comp_def] using this
theorem Rep.files64 (h : Rep w a M) : a.names.length ≤ 1073741823 := by have := h.ok.files; rw [h.nlen] at this; exact this
theorem Rep.setN (h : Rep w a M) {fes : Array MapEntry} {fc : Nat} {l : List (ByteArray × Nat)} (hm : MapIs kStr (fun b : Nat => ptr0 b) fes fc (l.map fun p => (p.1, (w.objs.map (·.1)).getD p.2 0)))
    (hk : (l.map (·.1)).Nodup) (hin : ∀ p ∈ l, p.2 < a.files.length) (hl : l.length ≤ 1073741823) : Rep { w with fes := fes, fc := fc, names := l.map fun p => (p.1, (w.objs.map (·.1)).getD p.2 0) } { a with names := l } M := by
  refine { h with names := rfl, nin := hin, ok := { h.ok with fm := hm, keys := ?_, named := ?_, files := ?_ } }
  · simpa [List.map_map, Function.comp_def] using hk
  · intro p hp
    obtain ⟨q, hq, rfl⟩ := List.mem_map.1 hp
    have := hin q hq
    rw [← h.flen] at this
    simp only [List.getD_eq_getElem?_getD, List.getElem?_map, List.getElem?_eq_getElem this, Option.map_some, Option.getD_some]
    exact List.mem_map_of_mem (List.getElem_mem this)
  · simpa using hl
theorem Rep.opened2 (h : Rep w a M) {n : Int} (he : anyE a.hs n = 0) :
    ∃ x y, 1 ≤ n ∧ w.hs[(n - 1).toNat]? = some x ∧ a.hs[(n - 1).toNat]? = some y ∧ ho0 x = hoB (w.objs.map (·.1)) y ∧ x.closed = false ∧ (0 ≤ x.at_ ∧ x.at_ ≤ 4194304) := by
  rw [← h.any] at he
  obtain ⟨h1, x, hx, hc⟩ := anyE_ok he
  obtain ⟨y, hy, hxy⟩ := h.handle hx
  exact ⟨x, y, h1, hx, hy, hxy, hc, h.ok.hat _ (List.mem_of_getElem? hx)⟩
theorem Rep.addH (h : Rep w a M) (hm : w.hs.length + 1 ≤ M) {x y : HO} {hv : Value} {hsp : List Value} (hs : IsSl 1 hv (w.hs.length + 1) ((w.hs.map fun h => ptr0 h.blk) ++ [ptr0 x.blk]) hsp) (hxy : ho0 x = hoB (w.objs.map (·.1)) y)
    (hin : ∀ i, y.file = some i → i < a.files.length) (ha : 0 ≤ x.at_ ∧ x.at_ ≤ 4194304) : Rep { w with hv := hv, hs := w.hs ++ [x], hsp := hsp } { a with hs := a.hs ++ [y] } M := by
  refine { h with hs := ?_, hin := ?_, ok := { h.ok with hv := ?_, hfile := ?_, hat := ?_, hmany := ?_ } }
  · simp only [List.map_append, List.map_cons, List.map_nil, h.hs, hxy]
  · intro z hz i hi
    rcases List.mem_append.1 hz with hz | hz
    · exact h.hin z hz i hi
    · rw [List.mem_singleton.1 hz] at hi; exact hin i hi
  · simpa using hs
  · intro z hz b hb
    rcases List.mem_append.1 hz with hz | hz
    · exact h.ok.hfile z hz b hb
    · rw [List.mem_singleton.1 hz] at hb
      have := congrArg HO.file hxy
      simp only [ho0, hoB, hb] at this
      cases hf : y.file with
      | none => rw [hf] at this; cases this
      | some i =>
        rw [hf] at this
        simp only [Option.map_some, Option.some.injEq] at this
        have hi := hin i hf
        rw [← h.flen] at hi
        rw [this]
        simp only [List.getD_eq_getElem?_getD, List.getElem?_map, List.getElem?_eq_getElem hi, Option.map_some, Option.getD_some]
        exact List.mem_map_of_mem (List.getElem_mem hi)
  · intro z hz
    rcases List.mem_append.1 hz with hz | hz
    · exact h.ok.hat z hz
    · rw [List.mem_singleton.1 hz]; exact ha
  · simpa using hm
theorem Rep.addF (h : Rep w a M) {b : Nat} {fo : FO} (hb : b ∉ w.objs.map (·.1)) (hf : FOk fo M) : Rep { w with objs := w.objs ++ [(b, fo)] } { a with files := a.files ++ [foF fo] } M := by
  have hB : ∀ i, i < a.files.length → ((w.objs ++ [(b, fo)]).map (·.1)).getD i 0 = (w.objs.map (·.1)).getD i 0 := by
    intro i hi
    rw [← h.flen] at hi
    simp [List.getD_eq_getElem?_getD, hi, List.getElem?_append_left]
  refine { h with names := ?_, nin := ?_, files := ?_, hs := ?_, hin := ?_, ok := { h.ok with blks := ?_, named := ?_, fo := ?_, hfile := ?_ } }
  · rw [h.names]
    refine List.map_congr_left (fun p hp => ?_)
    rw [hB _ (h.nin p hp)]
  · intro p hp; have := h.nin p hp; simp; omega
  · simp [h.files]
  · rw [h.hs]
    refine List.map_congr_left (fun y hy => ?_)
    simp only [hoB, HO.mk.injEq, true_and, and_true]
    cases hf : y.file with
    | none => rfl
    | some i => simp only [Option.map_some]; rw [hB i (h.hin y hy i hf)]
  · intro y hy i hi; have := h.hin y hy i hi; simp; omega
  · rw [List.map_append, List.nodup_append]
    refine ⟨h.ok.blks, by simp, fun x hx y hy e => ?_⟩
    simp at hy
    subst hy; subst e
    exact hb hx
  · intro p hp; have := h.ok.named p hp; simp only [List.map_append, List.mem_append]; exact .inl this
  · intro p hp
    rcases List.mem_append.1 hp with hp | hp
    · exact h.ok.fo p hp
    · rw [List.mem_singleton.1 hp]; exact hf
  · intro z hz b' hb'; have := h.ok.hfile z hz b' hb'; simp only [List.map_append, List.mem_append]; exact .inl this
theorem imp_closeH {t : Nat} {w : WR} {X : SH} {H1 hrest : List Atom} (hh : (w.hs.flatMap hoA).Perm (H1 ++ hrest)) :
    Imp ([cellsAt t 0 (hdr w), slA w.cv (w.choices.flatMap chEnc) w.csp, [.obj w.fm (.map w.fes w.fc)], w.objs.flatMap foA, slA w.hv (w.hs.map fun h => ptr0 h.blk) w.hsp, slA w.tv (w.trace.flatMap deEnc) w.tsp, H1, hrest] ++ X) (WMem t w ++ X) := by
  have := imp_close (t := t) (w := w) (X := X) (F1 := w.objs.flatMap foA) (F2 := []) (frest := []) (H1 := H1) (hrest := hrest) (by simp) hh
  refine Imp.cut (Imp.perm ?_) this
  simp only [List.flatten_append, List.flatten_cons, List.flatten_nil, List.append_nil, List.nil_append]
  refine List.Perm.append_right _ ?_
  refine List.Perm.append_left _ (List.Perm.append_left _ (List.Perm.append_left _ ?_))
  generalize slA w.hv (w.hs.map fun h => ptr0 h.blk) w.hsp = p
  generalize slA w.tv (w.trace.flatMap deEnc) w.tsp = r
  generalize w.objs.flatMap foA = o
  refine (perm_lead o p _).trans (List.Perm.append_left _ (perm_lead o r _))
theorem imp_closeL {t : Nat} {w : WR} {X : SH} (Fs Hs : SH) (hf : (w.objs.flatMap foA).Perm Fs.flatten) (hh : (w.hs.flatMap hoA).Perm Hs.flatten) :
    Imp ([cellsAt t 0 (hdr w), slA w.cv (w.choices.flatMap chEnc) w.csp, [.obj w.fm (.map w.fes w.fc)], slA w.hv (w.hs.map fun h => ptr0 h.blk) w.hsp, slA w.tv (w.trace.flatMap deEnc) w.tsp] ++ (Fs ++ (Hs ++ X))) (WMem t w ++ X) := by
  have := imp_close (t := t) (w := w) (X := X) (F1 := Fs.flatten) (F2 := []) (frest := []) (H1 := Hs.flatten) (hrest := []) (by simpa using hf) (by simpa using hh)
  refine Imp.cut (Imp.perm ?_) this
  simp only [List.flatten_append, List.flatten_cons, List.flatten_nil, List.append_nil, List.nil_append, List.append_assoc]
  exact .refl _
theorem Rep.next (h : Rep w a M) : Rep { w with seq := w.seq + 1 } { a with seq := a.seq + 1 } (M + 1) := by
  have h' := h.mono (Nat.le_succ M)
  refine { h' with seq := by simp only [h.seq], ok := { h'.ok with seq := ?_ } }
  have := h.ok.seq
  constructor
  · show 0 ≤ w.seq + 1; omega
  · show w.seq + 1 ≤ ((M + 1 : Nat) : Int); omega
end
theorem imp_lastL (S L : SH) : Imp (S ++ L) (S ++ [L.flatten]) := Imp.perm (by simp only [List.flatten_append, List.flatten_cons, List.flatten_nil, List.append_nil]; exact .refl _)
theorem spl_lastL (S L : SH) (Q : List Atom) : V.Spl (S ++ [Q, L.flatten]) (S ++ (Q :: L)) [] := by
  simp only [V.Spl, List.flatten_append, List.flatten_cons, List.flatten_nil, List.append_nil]; exact .refl _
theorem imp_lastQ (S L : SH) (Q : List Atom) : Imp (S ++ (Q :: L) ++ []) (S ++ [Q, L.flatten]) := Imp.perm (by simp only [List.flatten_append, List.flatten_cons, List.flatten_nil, List.append_nil]; exact .refl _)
theorem spl_self (S : SH) : V.Spl S S [] := by simp only [V.Spl, List.flatten_nil, List.append_nil]; exact .refl _
theorem seekF_trace {n at_ : Int} {d : De} {a : AW} : (seekF n at_ d a).2.2.trace = a.trace := by unfold seekF; (repeat' split) <;> rfl
theorem readF_trace {n m : Int} {d : De} {a : AW} : (readF n m d a).2.2.trace = a.trace := by unfold readF; (repeat' split) <;> rfl
theorem writeF_trace {n : Int} {s : ByteArray} {d : De} {a : AW} : (writeF n s d a).2.2.trace = a.trace := by unfold writeF; (repeat' split) <;> rfl
theorem syncF_trace {n : Int} {d : De} {a : AW} : (syncF n d a).2.2.trace = a.trace := by unfold syncF; (repeat' split) <;> rfl
theorem closeF_trace {n : Int} {d : De} {a : AW} : (closeF n d a).2.2.trace = a.trace := by unfold closeF; (repeat' split) <;> rfl
theorem renameF_trace {s s2 : ByteArray} {d : De} {a : AW} : (renameF s s2 d a).2.2.trace = a.trace := by unfold renameF; (repeat' split) <;> rfl
theorem deleteF_trace {s : ByteArray} {d : De} {a : AW} : (deleteF s d a).2.2.trace = a.trace := by unfold deleteF; (repeat' split) <;> rfl
theorem openB_trace {j : Nat} {m : Int} {d : De} {a : AW} : (openB j m d a).2.2.trace = a.trace := by unfold openB; dsimp only; split <;> rfl
theorem openF_trace {s : ByteArray} {m : Int} {d : De} {a : AW} : (openF s m d a).2.2.trace = a.trace := by unfold openF; (repeat' split) <;> first | rfl | exact openB_trace
theorem clockF_trace {d : De} {a : AW} {c : Ch} : (clockF d a c).2.2.trace = a.trace := rfl
theorem connectF_trace {s : ByteArray} {d : De} {a : AW} {c : Ch} : (connectF s d a c).2.2.trace = a.trace := by unfold connectF; (repeat' split) <;> rfl
theorem sendF_trace {n : Int} {d : De} {a : AW} {c : Ch} : (sendF n d a c).2.2.trace = a.trace := rfl
theorem receiveF_trace {n m : Int} {d : De} {a : AW} {c : Ch} : (receiveF n m d a c).2.2.trace = a.trace := by unfold receiveF; (repeat' split) <;> rfl
theorem showF_trace {d : De} {a : AW} {c : Ch} : (showF d a c).2.2.trace = a.trace := rfl
def RdRow (size : Nat) (A : List Atom) (v : Value) (k : Nat) (xs : List Value) : Prop :=
  (v = .slice none 0 0 ∧ k = 0 ∧ xs = []) ∨ ∃ b o c, v = .slice (some ⟨b, o, none⟩) k c ∧ k ≤ c ∧ xs.length = k * size ∧ ∀ x ∈ cellsAt b o xs, x ∈ A
theorem RdRow.form {size : Nat} {A : List Atom} {v : Value} {k : Nat} {xs : List Value} (h : RdRow size A v k xs) : ∃ a c, v = .slice a k c := by
  rcases h with ⟨rfl, rfl, _⟩ | ⟨b, o, c, rfl, _⟩
  · exact ⟨_, _, rfl⟩
  · exact ⟨_, _, rfl⟩
theorem RdRow.mono {size : Nat} {A B : List Atom} {v : Value} {k : Nat} {xs : List Value} (h : RdRow size A v k xs) (hs : ∀ a ∈ A, a ∈ B) : RdRow size B v k xs := by
  rcases h with h | ⟨b, o, c, h1, h2, h3, h4⟩
  · exact .inl h
  · exact .inr ⟨b, o, c, h1, h2, h3, fun x hx => hs x (h4 x hx)⟩
theorem IsSl.rd {size k : Nat} {v : Value} {xs sp : List Value} (h : IsSl size v k xs sp) : RdRow size (slA v xs sp) v k xs := by
  cases h with
  | @mk b o _ c _ _ h1 h2 h3 =>
    refine .inr ⟨b, o, c, rfl, h3, h1, fun x hx => ?_⟩
    simp only [slA, cellsAt_append, List.mem_append]
    exact .inl hx
  | nil => exact .inl ⟨rfl, rfl, rfl⟩
theorem RdRow.at_ {size : Nat} {A : List Atom} {v : Value} {α : Type} {enc : α → List Value} {l : List α} (h : RdRow size A v l.length (l.flatMap enc)) (he : ∀ x, (enc x).length = size) {i : Nat} {x : α} (hx : l[i]? = some x) :
    ∃ b o c, v = .slice (some ⟨b, o, none⟩) l.length c ∧ ∀ a ∈ cellsAt b (o + i * size) (enc x), a ∈ A := by
  have hi := (List.getElem?_eq_some_iff.1 hx).1
  rcases h with ⟨_, h2, _⟩ | ⟨b, o, c, h1, h2, h3, h4⟩
  · omega
  · refine ⟨b, o, c, h1, fun a ha => h4 a ?_⟩
    obtain ⟨j, v, hj, rfl⟩ := mem_cellsAt.1 ha
    have hjl := (List.getElem?_eq_some_iff.1 hj).1
    rw [he] at hjl
    refine mem_cellsAt.2 ⟨i * size + j, v, ?_, by congr 1; omega⟩
    have key : ∀ (l : List α) (i : Nat), l[i]? = some x → (l.flatMap enc)[i * size + j]? = some v := by
      intro l
      induction l with
      | nil => intro i h; simp at h
      | cons y l ih =>
        intro i h
        cases i with
        | zero =>
          simp only [List.getElem?_cons_zero, Option.some.injEq] at h
          subst h
          rw [List.flatMap_cons, Nat.zero_mul, Nat.zero_add, List.getElem?_append_left (by rw [he]; exact hjl)]
          exact hj
        | succ i =>
          rw [List.flatMap_cons, List.getElem?_append_right (by rw [he, Nat.succ_mul]; omega), he]
          have := ih i (by simpa using h)
          rw [← this]
          congr 1
          rw [Nat.succ_mul]; omega
    exact key l i hx
structure Seen {β : Type} (es : Array MapEntry) (l : List (ByteArray × β)) (seen : Array Nat) (C : List (ByteArray × β)) : Prop where
  nodup : (C.map (·.1)).Nodup
  mem : ∀ p ∈ C, p ∈ l
  seen : ∀ e ∈ es.toList, (e.born ∈ seen.toList ↔ ∃ p ∈ C, e.key = .string p.1)
section
variable {β : Type} {Vf : β → Value} {es : Array MapEntry} {c : Nat} {l : List (ByteArray × β)}
theorem Seen.init : Seen es l #[] [] := ⟨.nil, by simp, by simp⟩
theorem Seen.over {seen : Array Nat} {C : List (ByteArray × β)} (h : Seen es l seen C) (hl : MapIs kStr Vf es c l) (hk : (l.map (·.1)).Nodup) (hover : ∀ e ∈ es.toList, e.born ∈ seen.toList) : C.Perm l := by
  have hC : C.Nodup := List.Pairwise.of_map (f := fun p : ByteArray × β => p.1) (fun a b hab e => hab (by rw [e])) h.nodup
  have hL : l.Nodup := List.Pairwise.of_map (f := fun p : ByteArray × β => p.1) (fun a b hab e => hab (by rw [e])) hk
  classical
  have one : ∀ {p q : ByteArray × β}, p ∈ l → q ∈ l → p.1 = q.1 → p = q := by
    intro p q hp hq e
    clear hover h hl hC
    induction l with
    | nil => cases hp
    | cons x r ih =>
      simp only [List.map_cons, List.nodup_cons] at hk
      rcases List.mem_cons.1 hp with rfl | hp'
      · rcases List.mem_cons.1 hq with rfl | hq'
        · rfl
        · exact absurd (List.mem_map.2 ⟨q, hq', e.symm⟩) hk.1
      · rcases List.mem_cons.1 hq with rfl | hq'
        · exact absurd (List.mem_map.2 ⟨p, hp', e⟩) hk.1
        · exact ih hk.2 (List.nodup_cons.1 hL).2 hp' hq'
  refine (List.perm_ext_iff_of_nodup hC hL).2 (fun p => ⟨h.mem p, fun hp => ?_⟩)
  obtain ⟨e, he, e1, _⟩ := hl.has hp
  obtain ⟨q, hq, e2⟩ := (h.seen e he).1 (hover e he)
  rw [e1] at e2
  have : p.1 = q.1 := by simpa [kStr] using e2
  rw [one hp (h.mem q hq) this]; exact hq
theorem Seen.step {seen : Array Nat} {C : List (ByteArray × β)} (h : Seen es l seen C) (hl : MapIs kStr Vf es c l) (hk : (l.map (·.1)).Nodup) {e : MapEntry} (he : e ∈ es.toList) (hne : e.born ∉ seen.toList) :
    ∃ p ∈ l, e.key = .string p.1 ∧ e.val = Vf p.2 ∧ p.1 ∉ C.map (·.1) ∧ Seen es l (seen.push e.born) (C ++ [p]) ∧
      (es.toList.filter fun e' => decide (e'.born ∉ (seen.push e.born).toList)).length < (es.toList.filter fun e' => decide (e'.born ∉ seen.toList)).length := by
  obtain ⟨p, hp, e1, e2⟩ := hl.entry he
  have hnk : p.1 ∉ C.map (·.1) := fun hc => by
    obtain ⟨q, hq, hqp⟩ := List.mem_map.1 hc
    exact hne ((h.seen e he).2 ⟨q, hq, by rw [hqp]; exact e1⟩)
  refine ⟨p, hp, e1, e2, hnk, ⟨?_, ?_, ?_⟩, ?_⟩
  · rw [List.map_append, List.nodup_append]
    exact ⟨h.nodup, by simp, fun x hx y hy => by simp at hy; rw [hy]; intro e; subst e; exact hnk hx⟩
  · intro q hq
    rcases List.mem_append.1 hq with hq | hq
    · exact h.mem q hq
    · rw [List.mem_singleton.1 hq]; exact hp
  · intro e' he'
    simp only [Array.toList_push, List.mem_append, List.mem_singleton]
    constructor
    · rintro (h1 | h1)
      · obtain ⟨k, hk1, hk2⟩ := (h.seen e' he').1 h1
        exact ⟨k, .inl hk1, hk2⟩
      · have := born_one hl.born he' he h1
        subst this
        exact ⟨p, .inr rfl, e1⟩
    · rintro ⟨k, hk1 | hk1, hk2⟩
      · exact .inl ((h.seen e' he').2 ⟨k, hk1, hk2⟩)
      · subst hk1
        exact .inr (by rw [key_one hl hk he' he (hk2.trans e1.symm)])
  · refine filter_less (fun x _ hx => ?_) he (by simpa using hne) (by simp)
    simp at hx ⊢
    exact hx.1
end
def fiEnc (p : ByteArray × ByteArray) : List Value := [.string p.1, .string p.2]
def emptyA : AW := ⟨[], [], [], [], [], 0, 0, false⟩
def txL (s : ByteArray) : List UInt8 := s.data.toList
def addF (a : AW) (p : ByteArray × ByteArray) : Option AW :=
  if (mget p.1 a.names).isSome || !(nameB p.1) || decide (4194304 < p.2.size) then none
  else some { a with names := mset p.1 a.files.length a.names, files := a.files ++ [⟨txL p.2, txL p.2, []⟩] }
def addFs : AW → List (ByteArray × ByteArray) → Option AW
  | a, [] => some a
  | a, p :: r => match addF a p with | some b => addFs b r | none => none
def newA (cs : List Ch) (fs : List (ByteArray × ByteArray)) : Option AW :=
  match addFs emptyA fs with
  | none => none
  | some a => if 65536 < cs.length ∨ 64 < fs.length then none else some { a with choices := cs }
theorem addFs_snoc {a : AW} {fs : List (ByteArray × ByteArray)} {p : ByteArray × ByteArray} : addFs a (fs ++ [p]) = (addFs a fs).bind fun b => addF b p := by
  induction fs generalizing a with
  | nil => simp only [List.nil_append, addFs, Option.bind_some]; cases addF a p <;> rfl
  | cons q r ih => simp only [List.cons_append, addFs]; cases addF a q with
    | none => rfl
    | some b => exact ih
theorem addFs_none {a : AW} {fs gs : List (ByteArray × ByteArray)} (h : addFs a fs = none) : addFs a (fs ++ gs) = none := by
  induction fs generalizing a with
  | nil => cases h
  | cons q r ih =>
    simp only [List.cons_append, addFs] at h ⊢
    cases hq : addF a q with
    | none => rfl
    | some b => rw [hq] at h; exact ih h
def nowOf (a : AW) (n : ByteArray) : List UInt8 := ((a.files[(mget n a.names).getD 0]?).getD ⟨[], [], []⟩).now
def fileOf (a : AW) (n : ByteArray) : ByteArray × ByteArray := (n, ftxt (nowOf a n))
theorem imp_jn3 {H R1 R2 R3 R4 : SH} {a b c d x : List Atom} (ha : Tk H a R1) (hb : Tk R1 b R2) (hc : Tk R2 c R3) (hd : Tk R3 d R4) (h : x.Perm (d ++ (a ++ (b ++ c)))) : Imp H (x :: R4) := by
  refine Imp.perm (ha.perm.trans ?_)
  rw [List.flatten_cons]
  refine (List.Perm.append_left _ (hb.perm.trans (List.Perm.append_left _ (hc.perm.trans (List.Perm.append_left _ hd.perm))))).trans ?_
  refine List.Perm.trans ?_ (List.Perm.append_right _ h.symm)
  rw [← List.append_assoc, ← List.append_assoc, ← List.append_assoc]
  refine List.Perm.append_right _ ?_
  rw [List.append_assoc (a ++ b), List.append_assoc a]
  have : (a ++ (b ++ (c ++ d))) = ((a ++ (b ++ c)) ++ d) := by simp [List.append_assoc]
  rw [this]
  exact List.perm_append_comm
theorem Rep.newFile {w : WR} {a : AW} {M : Nat} (h : Rep w a M) {b : Nat} {fo : FO} {s : ByteArray} {fes : Array MapEntry} {fc : Nat} (hb : b ∉ w.objs.map (·.1)) (hf : FOk fo M) (hm : MapIs kStr (fun b : Nat => ptr0 b) fes fc (mset s b w.names)) (hl : a.names.length + 1 ≤ 1073741823) :
    Rep { w with fes := fes, fc := fc, names := (mset s a.files.length a.names).map (fun p => (p.1, ((w.objs ++ [(b, fo)]).map (·.1)).getD p.2 0)), objs := w.objs ++ [(b, fo)] } { a with names := mset s a.files.length a.names, files := a.files ++ [foF fo] } M ∧ (((w.objs ++ [(b, fo)]).map (·.1)).getD a.files.length 0) = b := by
  have hRf := h.addF hb hf
  have hB : (((w.objs ++ [(b, fo)]).map (·.1)).getD a.files.length 0) = b := by
    rw [← h.flen]; simp [List.getD_eq_getElem?_getD]
  have hnm := hRf.names
  dsimp only at hnm
  rw [hnm] at hm
  have hms := mset_map (κ := ByteArray) (k := s) (g := fun j => ((w.objs ++ [(b, fo)]).map (·.1)).getD j 0) (v := a.files.length) (l := a.names)
  rw [hB] at hms
  rw [hms] at hm
  exact ⟨hRf.setN hm (mset_keys_nodup h.keys) (fun p hp => by
    rcases mem_mset hp with rfl | hp
    · simp
    · have := h.nin p hp; simp; omega) (Nat.le_trans mset_length_le hl), hB⟩
theorem addFs_len {a b : AW} {fs : List (ByteArray × ByteArray)} (h : addFs a fs = some b) : b.names.length ≤ a.names.length + fs.length := by
  induction fs generalizing a with
  | nil => simp only [addFs, Option.some.injEq] at h; subst h; simp
  | cons p r ih =>
    simp only [addFs] at h
    cases hp : addF a p with
    | none => rw [hp] at h; cases h
    | some c =>
      rw [hp] at h
      have h1 := ih h
      have h2 : c.names.length ≤ a.names.length + 1 := by
        unfold addF at hp
        split at hp
        · cases hp
        · cases hp; exact mset_length_le
      simp only [List.length_cons]; omega
theorem addFs_bad {a : AW} {fs : List (ByteArray × ByteArray)} {k : Nat} {p : ByteArray × ByteArray} (h : addFs emptyA (fs.take k) = some a) (hp : fs[k]? = some p) (hb : addF a p = none) : addFs emptyA fs = none := by
  have hk := (List.getElem?_eq_some_iff.1 hp).1
  have : fs = (fs.take k ++ [p]) ++ fs.drop (k + 1) := by
    rw [List.append_assoc, List.singleton_append]
    conv => lhs; rw [← List.take_append_drop k fs, List.drop_eq_getElem_cons hk]
    rw [(List.getElem?_eq_some_iff.1 hp).2]
  rw [this]
  exact addFs_none (by rw [addFs_snoc, h]; exact hb)
theorem addFs_next {a : AW} {fs : List (ByteArray × ByteArray)} {k : Nat} {p : ByteArray × ByteArray} (h : addFs emptyA (fs.take k) = some a) (hp : fs[k]? = some p) : addFs emptyA (fs.take (k + 1)) = addF a p := by
  have hk := (List.getElem?_eq_some_iff.1 hp).1
  rw [List.take_add_one, hp, Option.toList_some, addFs_snoc, h]; rfl
theorem IsSl.bytesM {H : SH} {sv : Value} {l : List UInt8} {sp : List Value} (h : IsSl 1 sv l.length (l.map u8v) sp) (hm : ∀ a ∈ slA sv (l.map u8v) sp, a ∈ H.flatten) : BytesAt H sv l := by
  obtain ⟨a, c, rfl⟩ := h.form
  generalize hk : l.length = k at h
  generalize hu : l.map u8v = us at h hm
  cases h with
  | mk h1 h2 h3 =>
    refine ⟨hk.symm, fun x hx => hm x ?_⟩
    rw [hu] at hx
    simp only [slA, cellsAt_append, List.mem_append]
    exact .inl hx
  | nil => exact List.map_eq_nil_iff.1 hu
theorem mget_some_of {κ β : Type} [DecidableEq κ] {k : κ} {l : List (κ × β)} (h : k ∈ l.map (·.1)) : ∃ v, mget k l = some v := by
  induction l with
  | nil => cases h
  | cons p l ih =>
    simp only [mget]
    split
    · exact ⟨_, rfl⟩
    · rename_i hne
      rcases List.mem_cons.1 h with h | h
      · exact absurd h.symm hne
      · exact ih h
theorem Rep.keysEq {w : WR} {a : AW} {M : Nat} (h : Rep w a M) : w.names.map (·.1) = a.names.map (·.1) := by
  rw [h.names]; simp [List.map_map, Function.comp_def]
theorem Rep.named {w : WR} {a : AW} {M : Nat} (h : Rep w a M) {n : ByteArray} (hn : n ∈ a.names.map (·.1)) :
    ∃ j b fo, V.mget n a.names = some j ∧ V.mget n w.names = some b ∧ w.objs[j]? = some (b, fo) ∧ a.files[j]? = some (foF fo) ∧ FOk fo M ∧ nowOf a n = fo.now := by
  obtain ⟨j, hj⟩ := mget_some_of hn
  have hin := h.nin _ (mget_mem hj)
  obtain ⟨b, fo, h1, h2, h3, h4⟩ := h.file hin
  refine ⟨j, b, fo, hj, ?_, h1, h3, h4, ?_⟩
  · rw [h.mget, hj, Option.map_some, h2]
  · simp [nowOf, hj, h3, foF]
end Go.V

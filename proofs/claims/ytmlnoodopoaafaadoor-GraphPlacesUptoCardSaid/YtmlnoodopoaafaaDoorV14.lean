/-
  What the outside world is, as lists; where it lies in memory.
-/
import Derived.Test.YtmlnoodopoaafaaDoorV13
set_option linter.unusedSimpArgs false
set_option linter.unusedVariables false
namespace Go.V
open Go
structure Ch where
  kind : Int
  n : Int
  text : ByteArray
structure De where
  kind : Int
  handle : Int
  text : ByteArray
  to : ByteArray
  n : Int
  err : Int
structure Wr where
  seq : Int
  at_ : Int
  text : ByteArray
  empty : Bool
structure FO where
  now : List UInt8
  base : List UInt8
  writes : List Wr
  nv : Value
  bv : Value
  wv : Value
  ns : List Value
  bs : List Value
  ws : List Value
structure HO where
  blk : Nat
  closed : Bool
  stale : Bool
  file : Option Nat
  mode : Int
  at_ : Int
def chEnc (c : Ch) : List Value := [.int .u8 c.kind, vi c.n, .string c.text]
def deEnc (d : De) : List Value := [.int .u8 d.kind, vi d.handle, .string d.text, .string d.to, vi d.n, vi d.err]
def wrEnc (x : Wr) : List Value := [vi x.seq, vi x.at_, .string x.text, .bool x.empty]
def u8v (c : UInt8) : Value := .int .u8 c.toNat
def pf (f : Option Nat) : Value := .pointer (f.map fun b => ⟨b, 0, none⟩)
def hoEnc (h : HO) : List Value := [.bool h.closed, .bool h.stale, pf h.file, vi h.mode, vi h.at_]
def hoA (h : HO) : List Atom := cellsAt h.blk 0 (hoEnc h)
def foA (p : Nat × FO) : List Atom := cellsAt p.1 0 [p.2.nv, p.2.bv, p.2.wv] ++ (slA p.2.nv (p.2.now.map u8v) p.2.ns ++ (slA p.2.bv (p.2.base.map u8v) p.2.bs ++ slA p.2.wv (p.2.writes.flatMap wrEnc) p.2.ws))
structure WR where
  cv : Value
  choices : List Ch
  csp : List Value
  fm : Nat
  fes : Array MapEntry
  fc : Nat
  names : List (ByteArray × Nat)
  objs : List (Nat × FO)
  hv : Value
  hs : List HO
  hsp : List Value
  tv : Value
  trace : List De
  tsp : List Value
  clock : Int
  seq : Int
  dead : Bool
abbrev hdr (w : WR) : List Value := [w.cv, .map (some w.fm), w.hv, w.tv, vi w.clock, vi w.seq, .bool w.dead]
abbrev WMem (t : Nat) (w : WR) : SH :=
  [cellsAt t 0 [w.cv, .map (some w.fm), w.hv, w.tv, vi w.clock, vi w.seq, .bool w.dead], slA w.cv (w.choices.flatMap chEnc) w.csp, [.obj w.fm (.map w.fes w.fc)], w.objs.flatMap foA, slA w.hv (w.hs.map fun h => ptr0 h.blk) w.hsp, w.hs.flatMap hoA, slA w.tv (w.trace.flatMap deEnc) w.tsp]
structure FOk (f : FO) (M : Nat) : Prop where
  now : IsSl 1 f.nv f.now.length (f.now.map u8v) f.ns
  base : IsSl 1 f.bv f.base.length (f.base.map u8v) f.bs
  wr : IsSl 4 f.wv f.writes.length (f.writes.flatMap wrEnc) f.ws
  len : f.now.length ≤ 4194304
  len2 : f.base.length ≤ 4194304
  many : f.writes.length ≤ M
  at_ : ∀ x ∈ f.writes, 0 ≤ x.at_ ∧ x.at_ + x.text.size ≤ 4194304
structure WOk (w : WR) (M : Nat) : Prop where
  ch : IsSl 3 w.cv w.choices.length (w.choices.flatMap chEnc) w.csp
  fm : MapIs kStr (fun b : Nat => ptr0 b) w.fes w.fc w.names
  keys : (w.names.map (·.1)).Nodup
  blks : (w.objs.map (·.1)).Nodup
  named : ∀ p ∈ w.names, p.2 ∈ w.objs.map (·.1)
  fo : ∀ p ∈ w.objs, FOk p.2 M
  hv : IsSl 1 w.hv w.hs.length (w.hs.map fun h => ptr0 h.blk) w.hsp
  hfile : ∀ h ∈ w.hs, ∀ b, h.file = some b → b ∈ w.objs.map (·.1)
  hat : ∀ h ∈ w.hs, 0 ≤ h.at_ ∧ h.at_ ≤ 4194304
  hmany : w.hs.length ≤ M
  tr : IsSl 6 w.tv w.trace.length (w.trace.flatMap deEnc) w.tsp
  trmany : w.trace.length ≤ M
  seq : 0 ≤ w.seq ∧ w.seq ≤ M
  clock : 0 ≤ w.clock ∧ w.clock ≤ 1000000000000000000
  files : w.names.length ≤ 1073741823
  chmany : w.choices.length ≤ 65536
def inNameB (c : Nat) : Bool := (decide (97 ≤ c) && decide (c ≤ 122)) || (decide (65 ≤ c) && decide (c ≤ 90)) || (decide (48 ≤ c) && decide (c ≤ 57)) || (decide (c = 46) || decide (c = 45) || decide (c = 95) || decide (c = 47))
def nameB (s : ByteArray) : Bool := s.data.toList.all (fun c => inNameB c.toNat) && (decide (1 ≤ s.size) && decide (s.size ≤ 64))
theorem all_take {s : ByteArray} {k : Nat} (h : k < s.size) : (s.data.toList.take (k + 1)).all (fun c => inNameB c.toNat) = ((s.data.toList.take k).all (fun c => inNameB c.toNat) && inNameB (s[k]).toNat) := by
  have hl : k < s.data.toList.length := by simpa using h
  rw [List.take_add_one, List.getElem?_eq_getElem hl, List.all_append]
  simp
  rfl
def chosenE (n : Int) : Int := if 30 ≤ n ∧ n ≤ 35 then n else 0
def usedN (hs : List HO) : Nat := (hs.filter fun h => !(h.closed || h.stale)).length
def anyE (hs : List HO) (n : Int) : Int := match (if 1 ≤ n then hs[(n - 1).toNat]? else none) with | some h => if h.closed then 30 else 0 | none => 30
def heldE (hs : List HO) (n : Int) (host : Bool) : Int := match (if 1 ≤ n then hs[(n - 1).toNat]? else none) with
  | some h => if h.closed then 30 else if h.file.isNone != host then 30 else if h.stale then 31 else 0
  | none => 30
theorem anyE_ok {hs : List HO} {n : Int} (h : anyE hs n = 0) : 1 ≤ n ∧ ∃ x, hs[(n - 1).toNat]? = some x ∧ x.closed = false := by
  unfold anyE at h
  split at h
  · rename_i x hx
    split at hx
    · rename_i h1
      split at h
      · cases h
      · rename_i h2; exact ⟨h1, x, hx, by simpa using h2⟩
    · cases hx
  · cases h
theorem heldE_ok {hs : List HO} {n : Int} {host : Bool} (h : heldE hs n host = 0) : 1 ≤ n ∧ ∃ x, hs[(n - 1).toNat]? = some x ∧ x.closed = false ∧ x.file.isNone = host ∧ x.stale = false := by
  unfold heldE at h
  split at h
  · rename_i x hx
    split at hx
    · rename_i h1
      split at h
      · cases h
      · rename_i h2
        split at h
        · cases h
        · rename_i h3
          split at h
          · cases h
          · rename_i h4
            exact ⟨h1, x, hx, by simpa using h2, by simpa using h3, by simpa using h4⟩
    · cases hx
  · cases h
theorem usedN_take {hs : List HO} {k : Nat} (h : k < hs.length) : usedN (hs.take (k + 1)) = usedN (hs.take k) + (if hs[k].closed || hs[k].stale then 0 else 1) := by
  unfold usedN
  rw [List.take_add_one, List.getElem?_eq_getElem h, List.filter_append, List.length_append]
  congr 1
  simp only [Option.toList_some, List.filter_cons, List.filter_nil]
  cases hs[k].closed <;> cases hs[k].stale <;> rfl
theorem usedN_le (hs : List HO) : usedN hs ≤ hs.length := List.length_filter_le _ _
theorem hoA_mem {hs : List HO} {i : Nat} {h : HO} (hi : hs[i]? = some h) : ∀ a ∈ hoA h, a ∈ hs.flatMap hoA := fun a ha => List.mem_flatMap.2 ⟨h, List.mem_of_getElem? hi, ha⟩
theorem hoA_cell {hs : List HO} {i j : Nat} {h : HO} {v : Value} (hi : hs[i]? = some h) (hj : (hoEnc h)[j]? = some v) : Atom.cell h.blk j v ∈ hs.flatMap hoA :=
  hoA_mem hi _ (mem_cellsAt.2 ⟨j, v, hj, by simp⟩)
def noCh : Ch := ⟨0, 0, ⟨#[]⟩⟩
def takeC (w : WR) : Ch := if w.dead then noCh else w.choices.headD noCh
def takeL (w : WR) : Bool := !(w.dead || decide ((takeC w).kind = 5))
def Taken (w w1 : WR) : Prop := ∃ cv' csp' cs, cs.length ≤ w.choices.length ∧ cs = (if w.dead then w.choices else w.choices.tail) ∧ IsSl 3 cv' cs.length (cs.flatMap chEnc) csp' ∧ w1 = { w with cv := cv', choices := cs, csp := csp', dead := !takeL w }
def noDe : De := ⟨0, 0, ⟨#[]⟩, ⟨#[]⟩, 0, 0⟩
def DeedP (t : Nat) (w : WR) (d : De) (B : List Atom) (Qd : WR → Ch → Int → De → WR → Prop) (v : Value) (Post : SH) : Prop :=
  ∃ w1, Taken w w1 ∧ ((takeL w = false ∧ v = .tuple #[.agg (deEnc noDe).toArray, vi 36] ∧ Post = WMem t w1 ++ [B]) ∨
    (takeL w = true ∧ ∃ e d' w2 out tv' tsp', Qd w1 (takeC w) e d' w2 ∧ out = (if e = 0 then d' else { d with err := e }) ∧ v = .tuple #[.agg (deEnc out).toArray, vi out.err] ∧
      IsSl 6 tv' (w2.trace.length + 1) (w2.trace.flatMap deEnc ++ deEnc out) tsp' ∧ Post = WMem t { w2 with tv := tv', trace := w2.trace ++ [out], tsp := tsp' } ++ [B]))
def AllVO (K : List RO → Prop) : List (List RO) → Prop
  | [] => True
  | rs :: r => K rs ∧ AllVO K r
theorem AllVO.mem {K : List RO → Prop} : ∀ {rss : List (List RO)}, AllVO K rss → ∀ rs ∈ rss, K rs := by
  intro rss
  induction rss with
  | nil => intro _ rs h; cases h
  | cons a r ih =>
    intro h rs hm
    rcases List.mem_cons.1 hm with rfl | hm
    · exact h.1
    · exact ih h.2 rs hm
theorem VC.draws {P : Program} {n : Nat} {Γ : Env} {H : SH} {Q : Exit → Env → SH → Prop} {rss : List (List RO)} {keep : List Nat} (h : AllVO (fun rs => VO P n rs Γ H (fun _ _ _ => False) fun Γ' H' => Q .normal (restr keep Γ') H') rss) : VC P n (.draw rss keep) Γ H Q := VC.draw h.mem
theorem VC.seq_draws {P : Program} {n : Nat} {Γ : Env} {H : SH} {Q : Exit → Env → SH → Prop} {rss : List (List RO)} {keep : List Nat} {y : IC} {α : Type} (Γf : α → Env) (Hf : α → SH) (I : α → Prop)
    (h : AllVO (fun rs => VO P n rs Γ H (fun _ _ _ => False) fun Γ' H' => ∃ s, I s ∧ Sub (restr keep Γ') (Γf s) ∧ Imp H' (Hf s)) rss) (h2 : ∀ s, I s → VC P n y (Γf s) (Hf s) Q) : VC P n (.seq (.draw rss keep) y) Γ H Q := by
  refine VC.seq (VC.draws ?_)
  have key : ∀ {l : List (List RO)}, AllVO (fun rs => VO P n rs Γ H (fun _ _ _ => False) fun Γ' H' => ∃ s, I s ∧ Sub (restr keep Γ') (Γf s) ∧ Imp H' (Hf s)) l →
      AllVO (fun rs => VO P n rs Γ H (fun _ _ _ => False) fun Γ' H' => VC P n y (restr keep Γ') H' Q) l := by
    intro l
    induction l with
    | nil => intro _; trivial
    | cons a r ih =>
      intro hh
      exact ⟨hh.1.mono (fun Γ' H' ⟨s, i1, i2, i3⟩ => VC.sub i2 (VC.imp i3 (h2 s i1))), ih hh.2⟩
  exact key h
section
variable {P : Program} {n : Nat} {rs : List RO} {Γ : Env} {H : SH} {Z : List PanicEntry → Env → SH → Prop} {K : Env → SH → Prop} {d : Option Nat}
theorem st_gcase {r : R} {s : Nat} {b c : Bool} (hs : look Γ s = some (.bool c)) (ht : c = true → VO P n (⟨d, some (s, b), r⟩ :: rs) ((s, .bool true) :: Γ) H Z K) (hf : c = false → VO P n (⟨d, some (s, b), r⟩ :: rs) ((s, .bool false) :: Γ) H Z K) :
    VO P n (⟨d, some (s, b), r⟩ :: rs) Γ H Z K := st_case hs ht hf
theorem st_pcase {s : Nat} {x y : Operand} {c : Bool} (hs : look Γ s = some (.bool c)) (ht : c = true → VO P n (⟨d, none, .pick (.tmp s) x y⟩ :: rs) ((s, .bool true) :: Γ) H Z K) (hf : c = false → VO P n (⟨d, none, .pick (.tmp s) x y⟩ :: rs) ((s, .bool false) :: Γ) H Z K) :
    VO P n (⟨d, none, .pick (.tmp s) x y⟩ :: rs) Γ H Z K := st_case hs ht hf
end
theorem GOP {R G : Prop} (r : R) (h : Later R → G := by
  intro later
  (first
      | (first
    | (apply st_gt; rfl)
    | (apply st_gf; rfl; rfl)
    | (apply st_gu; rfl)
    | (apply st_mv; rfl)
    | (apply st_nil; rfl)
    | (apply st_pick_t; rfl; rfl)
    | (apply st_pick_f; rfl; rfl)
    | (apply st_fld; rfl; ((try simp only [Nat.zero_add, Nat.add_zero, Nat.reduceAdd, Nat.reduceMul, Nat.add_assoc, Int.toNat_natCast, Nat.mul_one]); rfl))
    | (apply st_load1; rfl; (focus ((repeat (first | (apply Has.cells; omega; rfl) | apply Has.there)); done)))
    | (apply st_load1; rfl; (focus ((repeat (first | (apply Has.among; assumption) | apply Has.there)); done)))
    | (apply st_loadM; rfl; (focus ((repeat (first | (apply HasM.cells; omega; (focus (simp only [List.length_cons, List.length_nil, Nat.reduceAdd, Nat.zero_add, Nat.reduceSub, Nat.sub_self, Nat.reduceLeDiff, Nat.le_refl]; done)); (focus (simp only [lnb, Value.cells, Nat.zero_add, Nat.reduceEqDiff, ↓reduceIte, eq_self, Nat.reduceAdd, Nat.reduceSub, Nat.sub_self, Nat.reduceLeDiff, Nat.le_refl, and_self, rep, zeroRow] <;> rfl)); rfl) | apply HasM.there)); done)))
    | (apply st_extL; rfl; rfl)
    | (apply st_ext; rfl; rfl)
    | (apply st_add; rfl; rfl; omega)
    | (apply st_sub; rfl; rfl; omega)
    | (apply st_mul; rfl; rfl; omega)
    | (apply st_rem; rfl; rfl; decide)
    | (apply st_idxL; rfl; rfl; omega; ((try simp only [Nat.zero_add, Nat.add_zero, Nat.reduceAdd, Nat.reduceMul, Nat.add_assoc, Int.toNat_natCast, Nat.mul_one]); rfl))
    | (apply st_idxA; rfl; rfl; omega; ((try simp only [Nat.zero_add, Nat.add_zero, Nat.reduceAdd, Nat.reduceMul, Nat.add_assoc, Int.toNat_natCast, Nat.mul_one]); rfl))
    | (apply st_build; rfl; (focus (simp only [lnb, Value.cells, Nat.zero_add, Nat.reduceEqDiff, ↓reduceIte, eq_self, Nat.reduceAdd, Nat.reduceSub, Nat.sub_self, Nat.reduceLeDiff, Nat.le_refl, and_self, rep, zeroRow] <;> rfl)))
    | (apply st_store'; rfl; rfl; (focus (simp only [lnb, Value.cells, Nat.zero_add, Nat.reduceEqDiff, ↓reduceIte, eq_self, Nat.reduceAdd, Nat.reduceSub, Nat.sub_self, Nat.reduceLeDiff, Nat.le_refl, and_self, rep, zeroRow] <;> rfl)); rfl; rfl; (focus ((repeat (first | (apply Upd.cells; omega; (focus (simp only [List.length_cons, List.length_nil, Nat.reduceAdd, Nat.zero_add, Nat.reduceSub, Nat.sub_self, Nat.reduceLeDiff, Nat.le_refl]; done)); (focus (simp only [lnb, Value.cells, Nat.zero_add, Nat.reduceEqDiff, ↓reduceIte, eq_self, Nat.reduceAdd, Nat.reduceSub, Nat.sub_self, Nat.reduceLeDiff, Nat.le_refl, and_self, rep, zeroRow] <;> rfl))) | apply Upd.there)); done)))
    | (apply st_pure; rfl; rfl; rfl))
      | (refine VO.nil ?_; simp only [V.argsEnv, V.restr, V.look, V.putE, V.thenQ, V.blockQ, Nat.zero_add, Nat.reduceAdd, Nat.reduceEqDiff, ↓reduceIte, eq_self])
      | refine VC.seq_reg ?_
      | refine VC.seq_draw1 ?_
      | refine VC.seq_seq ?_
      | refine VC.seq_block ?_
      | refine VC.seq_skip ?_
      | refine VC.reg ?_
      | refine VC.draw1 ?_
      | refine VC.block ?_
      | (refine VC.skip ?_; simp only [V.argsEnv, V.restr, V.look, V.putE, V.thenQ, V.blockQ, Nat.zero_add, Nat.reduceAdd, Nat.reduceEqDiff, ↓reduceIte, eq_self])
      | (refine VC.exit ?_; simp only [V.argsEnv, V.restr, V.look, V.putE, V.thenQ, V.blockQ, Nat.zero_add, Nat.reduceAdd, Nat.reduceEqDiff, ↓reduceIte, eq_self])
      | (refine VC.ret ?_; try simp only [V.thenQ, V.blockQ])
      | (apply VC.seq_cond_t; rfl)
      | (apply VC.seq_cond_f; rfl)
      | (apply VC.cond_t; rfl)
      | (apply VC.cond_f; rfl))
  (repeat (first
      | (first
    | (apply st_gt; rfl)
    | (apply st_gf; rfl; rfl)
    | (apply st_gu; rfl)
    | (apply st_mv; rfl)
    | (apply st_nil; rfl)
    | (apply st_pick_t; rfl; rfl)
    | (apply st_pick_f; rfl; rfl)
    | (apply st_fld; rfl; ((try simp only [Nat.zero_add, Nat.add_zero, Nat.reduceAdd, Nat.reduceMul, Nat.add_assoc, Int.toNat_natCast, Nat.mul_one]); rfl))
    | (apply st_load1; rfl; (focus ((repeat (first | (apply Has.cells; omega; rfl) | apply Has.there)); done)))
    | (apply st_load1; rfl; (focus ((repeat (first | (apply Has.among; assumption) | apply Has.there)); done)))
    | (apply st_loadM; rfl; (focus ((repeat (first | (apply HasM.cells; omega; (focus (simp only [List.length_cons, List.length_nil, Nat.reduceAdd, Nat.zero_add, Nat.reduceSub, Nat.sub_self, Nat.reduceLeDiff, Nat.le_refl]; done)); (focus (simp only [lnb, Value.cells, Nat.zero_add, Nat.reduceEqDiff, ↓reduceIte, eq_self, Nat.reduceAdd, Nat.reduceSub, Nat.sub_self, Nat.reduceLeDiff, Nat.le_refl, and_self, rep, zeroRow] <;> rfl)); rfl) | apply HasM.there)); done)))
    | (apply st_extL; rfl; rfl)
    | (apply st_ext; rfl; rfl)
    | (apply st_add; rfl; rfl; omega)
    | (apply st_sub; rfl; rfl; omega)
    | (apply st_mul; rfl; rfl; omega)
    | (apply st_rem; rfl; rfl; decide)
    | (apply st_idxL; rfl; rfl; omega; ((try simp only [Nat.zero_add, Nat.add_zero, Nat.reduceAdd, Nat.reduceMul, Nat.add_assoc, Int.toNat_natCast, Nat.mul_one]); rfl))
    | (apply st_idxA; rfl; rfl; omega; ((try simp only [Nat.zero_add, Nat.add_zero, Nat.reduceAdd, Nat.reduceMul, Nat.add_assoc, Int.toNat_natCast, Nat.mul_one]); rfl))
    | (apply st_build; rfl; (focus (simp only [lnb, Value.cells, Nat.zero_add, Nat.reduceEqDiff, ↓reduceIte, eq_self, Nat.reduceAdd, Nat.reduceSub, Nat.sub_self, Nat.reduceLeDiff, Nat.le_refl, and_self, rep, zeroRow] <;> rfl)))
    | (apply st_store'; rfl; rfl; (focus (simp only [lnb, Value.cells, Nat.zero_add, Nat.reduceEqDiff, ↓reduceIte, eq_self, Nat.reduceAdd, Nat.reduceSub, Nat.sub_self, Nat.reduceLeDiff, Nat.le_refl, and_self, rep, zeroRow] <;> rfl)); rfl; rfl; (focus ((repeat (first | (apply Upd.cells; omega; (focus (simp only [List.length_cons, List.length_nil, Nat.reduceAdd, Nat.zero_add, Nat.reduceSub, Nat.sub_self, Nat.reduceLeDiff, Nat.le_refl]; done)); (focus (simp only [lnb, Value.cells, Nat.zero_add, Nat.reduceEqDiff, ↓reduceIte, eq_self, Nat.reduceAdd, Nat.reduceSub, Nat.sub_self, Nat.reduceLeDiff, Nat.le_refl, and_self, rep, zeroRow] <;> rfl))) | apply Upd.there)); done)))
    | (apply st_pure; rfl; rfl; rfl))
      | (refine VO.nil ?_; simp only [V.argsEnv, V.restr, V.look, V.putE, V.thenQ, V.blockQ, Nat.zero_add, Nat.reduceAdd, Nat.reduceEqDiff, ↓reduceIte, eq_self])
      | refine VC.seq_reg ?_
      | refine VC.seq_draw1 ?_
      | refine VC.seq_seq ?_
      | refine VC.seq_block ?_
      | refine VC.seq_skip ?_
      | refine VC.reg ?_
      | refine VC.draw1 ?_
      | refine VC.block ?_
      | (refine VC.skip ?_; simp only [V.argsEnv, V.restr, V.look, V.putE, V.thenQ, V.blockQ, Nat.zero_add, Nat.reduceAdd, Nat.reduceEqDiff, ↓reduceIte, eq_self])
      | (refine VC.exit ?_; simp only [V.argsEnv, V.restr, V.look, V.putE, V.thenQ, V.blockQ, Nat.zero_add, Nat.reduceAdd, Nat.reduceEqDiff, ↓reduceIte, eq_self])
      | (refine VC.ret ?_; try simp only [V.thenQ, V.blockQ])
      | (apply VC.seq_cond_t; rfl)
      | (apply VC.seq_cond_f; rfl)
      | (apply VC.cond_t; rfl)
      | (apply VC.cond_f; rfl)))
  exact later.out) : G := h ⟨r⟩
def qm (d a : Nat) : RO := ⟨some d, none, .mv (.tmp a)⟩
def qk (d : Nat) (v : Int) : RO := ⟨some d, none, .mv (.const (.int .i64 v))⟩
def qz (d : Nat) (b : Bool) : RO := ⟨some d, none, .mv (.const (.bool b))⟩
def qo (d : Nat) (r : R) : RO := ⟨some d, none, r⟩
def ql (d a : Nat) : RO := ⟨some d, none, .load1 (.tmp a)⟩
def qf (d o a : Nat) : RO := ⟨some d, none, .fld o (.tmp a)⟩
def qi (d s a b : Nat) : RO := ⟨some d, none, .idxL s (.tmp a) (.tmp b)⟩
def qb (d : Nat) (o : BinOp) (a b : Nat) : RO := ⟨some d, none, .bin o (.tmp a) (.tmp b)⟩
def qc (d : Nat) (o : BinOp) (a : Nat) (v : Int) : RO := ⟨some d, none, .bin o (.tmp a) (.const (.int .i64 v))⟩
def qn (d a : Nat) : RO := ⟨some d, none, .nilck (.tmp a)⟩
def qs (n a b : Nat) : RO := ⟨none, none, .store n (.tmp a) (.tmp b)⟩
def qp (d c a b : Nat) : RO := ⟨some d, none, .pick (.tmp c) (.tmp a) (.tmp b)⟩
def qa (d c a : Nat) : RO := ⟨some d, none, .pick (.tmp c) (.tmp a) (.const (.bool false))⟩
def qr (d c b : Nat) : RO := ⟨some d, none, .pick (.tmp c) (.const (.bool true)) (.tmp b)⟩
def qe (d a i : Nat) : RO := ⟨some d, none, .ext (.tmp a) i⟩
def tmps : List Nat → List Operand
  | [] => []
  | a :: r => .tmp a :: tmps r
def qx (d f : Nat) (l : List Nat) : RO := ⟨some d, none, .call f (tmps l)⟩
def qL (d a : Nat) : RO := ⟨some d, none, .lenL (.tmp a)⟩
def qN (d n a : Nat) : RO := ⟨some d, none, .loadN n (.tmp a)⟩
def qB (d t a : Nat) : RO := ⟨some d, none, .box t (.tmp a)⟩
def qt (g : Nat) (x : RO) : RO := ⟨x.dst, some (g, true), x.op⟩
def qu (g : Nat) (x : RO) : RO := ⟨x.dst, some (g, false), x.op⟩
def qS (rs : List RO) (k : List Nat) (r : IC) : IC := .seq (.reg rs k) r
def qC (c : Nat) (a b : IC) : IC := .cond (.tmp c) a b
def nthO : List RO → Nat → RO
  | [], _ => default
  | x :: _, 0 => x
  | _ :: r, n + 1 => nthO r n
def ordO (l : List RO) : List Nat → List RO
  | [] => []
  | i :: r => nthO l i :: ordO l r
def ordsO (l : List RO) : List (List Nat) → List (List RO)
  | [] => []
  | p :: r => ordO l p :: ordsO l r
def qD (l : List RO) (ps : List (List Nat)) (k : List Nat) : IC := .draw (ordsO l ps) k
def keepsO : IC → List (List Nat)
  | .skip | .exit _ | .ret => []
  | .reg _ k | .draw _ k => [k]
  | .seq a b | .cond _ a b | .rangef _ _ a b => keepsO a ++ keepsO b
  | .loop (.seq a (.seq b c)) => keepsO a ++ (keepsO c ++ keepsO b)
  | .block _ b | .loop b => keepsO b
def kpO (F : FIR) (i : Nat) : List Nat := (keepsO F.body).getD i []
def laid {X F : FIR} (_h : F = X := by (dsimp only [qm, qk, qz, qo, ql, qf, qi, qb, qc, qn, qs, qp, qa, qr, qe, tmps, qx, qL, qN, qB, qt, qu, qS, qC, nthO, ordO, ordsO, qD] <;> exact rfl)) : FIR := F
theorem TKx {H R : SH} {A : List Atom} (h : Tk H A R := by (focus ((repeat (first | with_reducible exact Tk.here | apply Tk.there)); done))) : Tk H A R := h
theorem IMx {H D : SH} (h : Imp H D := by (first | with_reducible exact Imp.refl | with_reducible exact Imp.left | (focus ((try simp only [List.nil_append]); (repeat (first | exact Imp.nil | (apply Imp.cons; (focus ((repeat (first | with_reducible exact Tk.here | apply Tk.there)); done))))); done)))) : Imp H D := h
theorem SPx {H D R : SH} (h : Spl H D R := by (focus ((repeat (first | exact Spl.nil | (apply Spl.cons; (focus ((repeat (first | with_reducible exact Tk.here | apply Tk.there)); done))))); done))) : Spl H D R := h
theorem SUx {G D : Env} (h : Sub G D := by (repeat (first | exact Sub.nil | (apply Sub.cons; rfl)))) : Sub G D := h
theorem CNx {α : Type} : (∀ (a : α) (l r : List α), (a :: l) ++ r = a :: (l ++ r)) ∧ (∀ r : List α, ([] : List α) ++ r = r) := ⟨fun _ _ _ => rfl, fun _ => rfl⟩
def sBytes (s : ByteArray) : List Value := s.data.toList.map fun c => .int .u8 c.toNat
def SubAt : Value → Nat → Value → Prop
  | .slice (some ⟨b, o, none⟩) k c, l, dv => dv = .slice (some ⟨b, (if c = l then o else o + l), none⟩) (k - l) (c - l)
  | .slice none k c, l, dv => dv = .slice none (k - l) (c - l)
  | _, _, _ => False
theorem imp_nil (H : SH) : Imp H [[]] := ⟨H, by simp only [V.Spl, List.flatten_cons, List.flatten_nil, List.append_nil, List.nil_append]; exact .refl _⟩
section
variable {P : Program} {n : Nat} {rs : List RO} {Γ : Env} {H : SH} {Z : List PanicEntry → Env → SH → Prop} {K : Env → SH → Prop} {d : Option Nat}
theorem st_slcAt {x lo : Operand} {sv : Value} {k l : Nat} {xs sp : List Value} (hx : ev Γ x = some sv) (hsl : IsSl 1 sv k xs sp) (hlo : Bnd Γ 0 (some lo) l) (hl : l ≤ k)
    (h : ∀ dv, SubAt sv l dv → VO P n rs (putE d dv Γ) H Z K) : VO P n (⟨d, none, .slcL 1 x (some lo) none none⟩ :: rs) Γ H Z K := by
  cases hsl with
  | @mk b o _ c _ _ h1 h2 h3 => exact st_slcL hx hlo .dft ⟨hl, h3⟩ (by rw [Nat.mul_one]) (h _ rfl)
  | nil => exact st_slcN hx hlo .dft ⟨hl, Nat.le_refl _⟩ (h _ rfl)
theorem st_copyS {x y : Operand} {sv dv : Value} {k l : Nat} {xs sp : List Value} {s : ByteArray} {R : SH} (hx : ev Γ x = some dv) (hy : ev Γ y = some (.string s)) (hsl : IsSl 1 sv k xs sp) (hd : SubAt sv l dv) (hl : l + s.size ≤ k)
    (ht : Tk H (slA sv xs sp) R) (h : VO P n rs (putE d (vi s.size) Γ) (slA sv (xs.take l ++ sBytes s ++ xs.drop (l + s.size)) sp :: R) Z K) : VO P n (⟨d, none, .copy 1 x y⟩ :: rs) Γ H Z K := by
  refine VO.act' rfl rfl (fun ρ hρ => ⟨_, rfl, ?_⟩)
  rw [hρ _ _ hx, hρ _ _ hy]
  refine SWP.perm ht.perm ?_
  have hys : (sBytes s).length = s.size := by simp [sBytes]
  have hmin : Nat.min s.size (k - l) = s.size := Nat.min_eq_left (by omega)
  cases hsl with
  | @mk b o _ c _ _ h1 h2 h3 =>
    simp only [SubAt] at hd
    subst hd
    simp only [seqLen, hmin]
    have hsrc : Src (slA (.slice (some ⟨b, o, none⟩) k c) xs sp ++ R.flatten) 1 s.size (sBytes s) (.string s) := by
      simp only [Src, sBytes]
      rw [List.take_of_length_le (by simp)]
    refine SWP.bind (SWP.firstCells hsrc ?_)
    rw [Nat.mul_one] at h1 h2
    by_cases hz : s.size = 0
    · have he : sBytes s = [] := List.eq_nil_of_length_eq_zero (by omega)
      rw [he]
      have hsz := SWP.storeCells (P := P) (b := b) (o := if c = l then o else o + l) (vs := []) (us := []) (R := slA (.slice (some ⟨b, o, none⟩) k c) xs sp ++ R.flatten) (K := fun _ L => L = slA (.slice (some ⟨b, o, none⟩) k c) xs sp ++ R.flatten) rfl (by simp) (by simp [cellsAt])
      have hnil : cellsAt b (if c = l then o else o + l) [] = [] := by simp [cellsAt]
      rw [hnil, List.nil_append] at hsz
      refine SWP.bind (SWP.mono hsz ?_)
      rintro _ L rfl
      refine SWP.pure ?_
      refine ⟨_, _, [], .inl rfl, ?_, h⟩
      simp [he, hz, cellsAt]
    · have hcl : c ≠ l := by omega
      rw [if_neg hcl]
      have hsplit : cellsAt b o (xs ++ sp) = cellsAt b o (xs.take l) ++ (cellsAt b (o + l) ((xs.drop l).take s.size) ++ cellsAt b (o + l + s.size) (xs.drop (l + s.size) ++ sp)) := by
        conv => lhs; rw [← List.take_append_drop l xs, List.append_assoc, cellsAt_append]
        congr 1
        rw [List.length_take, Nat.min_eq_left (by omega)]
        conv => lhs; rw [← List.take_append_drop s.size (xs.drop l), List.append_assoc, cellsAt_append]
        rw [List.length_take, List.length_drop, Nat.min_eq_left (by omega), List.drop_drop]
      have hperm : (slA (.slice (some ⟨b, o, none⟩) k c) xs sp ++ R.flatten).Perm (cellsAt b (o + l) ((xs.drop l).take s.size) ++ (cellsAt b o (xs.take l) ++ (cellsAt b (o + l + s.size) (xs.drop (l + s.size) ++ sp) ++ R.flatten))) := by
        simp only [slA, hsplit, List.append_assoc]
        exact perm_lead _ _ _
      refine SWP.perm hperm (SWP.bind (SWP.storeCells (by simp; omega) (by intro v hv; obtain ⟨c, _, rfl⟩ := List.mem_map.1 hv; rfl) (SWP.pure ?_)))
      refine ⟨_, _, [], .inl rfl, ?_, h⟩
      have hlt : (xs.take l).length = l := by rw [List.length_take]; omega
      simp only [slA, List.flatten_cons, List.append_nil, cellsAt_append, hlt, hys, List.append_assoc, List.length_append, Nat.add_assoc]
      exact perm_lead _ _ _
  | nil =>
    have hs0 : s.size = 0 := by omega
    simp only [SubAt] at hd
    subst hd
    simp only [seqLen, hmin]
    have he : sBytes s = [] := List.eq_nil_of_length_eq_zero (by omega)
    refine SWP.bind (SWP.firstCells (vs := []) (by simp only [Src, hs0]; simp) (SWP.pure ?_))
    refine ⟨_, _, [], .inl rfl, ?_, h⟩
    simp [slA]
end
end Go.V

/-
  What is no more than reckoned: the model's operation gives just that value, in whatever world.
-/
import Derived.Test.YtffmipimgodfdaaVB
import Derived.Laws.Strings
import Derived.Laws.StructEq
set_option linter.unusedSimpArgs false
set_option linter.unusedVariables false
namespace Go.V
open Go
section
variable {P : Program} {ρ : Operand → Value} {w : World} {v : Value} {xo : Operand}

theorem run_underlying_of {t : TypeId} {d : TypeDesc} (h : P.underlying t = some d) : (underlying t).run P w = .ok d w := by simp [underlying, h]
theorem run_typeInfo_of {t : TypeId} {i : TypeInfo} (h : P.info? t = some i) : (typeInfo t).run P w = .ok i w := by simp [typeInfo, h]
theorem run_sizeOf_of {t : TypeId} {i : TypeInfo} (h : P.info? t = some i) : (sizeOf t).run P w = .ok i.size w := by simp [sizeOf, run_typeInfo_of h]

theorem str_eq (a b : ByteArray) : (a.toList == b.toList) = decide (a = b) := by
  rw [ByteArray.toList_eq, ByteArray.toList_eq, Bool.eq_iff_iff]
  simp only [beq_iff_eq, decide_eq_true_eq]
  constructor
  · intro h
    cases a; cases b
    simp only [ByteArray.mk.injEq]
    exact Array.toList_inj.1 h
  · rintro rfl; rfl

theorem run_intV {op : BinOp} {t : TypeId} {k k' : IntKind} {a b : Int} (h : intV op k a k' b = some v) : (Go.binOp op t (.int k a) (.int k' b)).run P w = .ok v w := by
  cases op <;> simp only [intV] at h <;> split at h <;> first | (cases h; done) | skip
  all_goals (cases h; rename_i hc)
  case quo | rem => obtain ⟨rfl, h0⟩ := hc; simp [Go.binOp, Op.intDiv, h0]
  case shl | shr => simp [Go.binOp, Op.shift, hc]
  all_goals (subst hc; simp [Go.binOp, Op.intArith, Op.intBits, Op.intCmp])
  all_goals (rw [Bool.eq_iff_iff]; simp)

theorem run_strV {op : BinOp} {t : TypeId} {a b : ByteArray} (h : strV op a b = some v) : (Go.binOp op t (.string a) (.string b)).run P w = .ok v w := by
  cases op <;> simp only [strV] at h <;> first | (cases h; done) | skip
  case add =>
    split at h <;> cases h
    rename_i hc
    have : ¬ (((a.size + b.size : Nat) : Int) > IntKind.i64.max) := by
      have : IntKind.i64.max = 9223372036854775807 := by decide
      rw [this]; omega
    simp only [Go.binOp, Op.stringOp, this, if_false, Sem.run_pure]
  all_goals (cases h; simp [Go.binOp, Op.stringOp, str_eq])

theorem run_binV {op : BinOp} {t : TypeId} {x y : Value} (h : binV op x y = some v) : (Go.binOp op t x y).run P w = .ok v w := by
  cases x <;> cases y <;> first | (simp [binV] at h; done) | exact run_intV h | exact run_strV h

theorem run_eqGuard_int {op : BinOp} {t : TypeId} {x y : Operand} {k k' : IntKind} {a b : Int} : (eqGuard op t x y (.int k a) (.int k' b)).run P w = .ok () w := by
  unfold eqGuard; split <;> simp

theorem run_eqGuard_of {op : BinOp} {t : TypeId} {x y : Operand} {a b : Value} (h1 : ¬ (a = .nilIface ∧ b = .nilIface)) (h2 : ∀ c d, ¬ (a = .agg c ∧ b = .agg d)) :
    (eqGuard op t x y a b).run P w = .ok () w := by
  cases op <;> simp only [eqGuard] <;> first | (simp; done) | skip
  all_goals (cases a <;> cases b <;> first | (exact absurd ⟨rfl, rfl⟩ h1) | (exact absurd ⟨rfl, rfl⟩ (h2 _ _)) | simp)

theorem run_part_scalar {t : TypeId} {cs : Array Value} {off : Nat} {d : TypeDesc} {k : SK} (h : P.underlying t = some d) (hk : skOf d = some k) (hv : cs[off]? = some v) : (part t cs off).run P w = .ok v w := by
  cases d <;> simp [skOf] at hk <;> simp [part, isAgg, run_underlying_of h, hv]

theorem run_equalIn_scal {t : TypeId} {n : Nat} {x y : Value} {r : Bool} {d : TypeDesc} {k : SK} (h : P.underlying t = some d) (hk : skOf d = some k) (hs : scalEq k x y = some r) :
    (Op.equalIn (n + 1) t x y).run P w = .ok r w := by
  cases d <;> simp [skOf] at hk <;> subst hk <;> cases x <;> simp [scalEq] at hs <;> cases y <;> simp at hs
  · subst hs; simp [Op.equalIn, run_underlying_of h]
  · obtain ⟨rfl, rfl⟩ := hs; simp [Op.equalIn, run_underlying_of h]
    rw [Bool.eq_iff_iff]; simp
  · subst hs; simp [Op.equalIn, run_underlying_of h, beq_toListBytes, str_eq]

/-- Two structs of scalars. -/
theorem run_eqFields {n : Nat} {xs ys : Array Value} : ∀ (fs : List Field) (ks : List SK) (off : Nat) (r : Bool), scalars P fs off = some ks →
    aggEq ks (xs.toList.drop off) (ys.toList.drop off) = some r → (Op.eqFields (n + 1) xs ys fs).run P w = .ok r w := by
  intro fs
  induction fs with
  | nil => intro ks off r h1 h2; simp [scalars] at h1; subst h1; simp [aggEq] at h2; subst h2; simp [Op.eqFields]
  | cons f fs ih =>
    intro ks off r h1 h2
    simp only [scalars] at h1
    split at h1
    case isFalse => simp at h1
    rename_i hf
    obtain ⟨rfl, hne⟩ := hf
    split at h1
    case h_2 => simp at h1
    rename_i k l hk hl
    simp at h1; subst h1
    obtain ⟨d, hd, hdk⟩ := Option.bind_eq_some_iff.1 hk
    cases hx : xs.toList.drop f.offset with
    | nil => rw [hx] at h2; simp [aggEq] at h2
    | cons x xr =>
    cases hy : ys.toList.drop f.offset with
    | nil => rw [hx, hy] at h2; simp [aggEq] at h2
    | cons y yr =>
    rw [hx, hy] at h2
    simp only [aggEq] at h2
    have ex : xs[f.offset]? = some x := by have := congrArg (·[0]?) hx; simpa using this
    have ey : ys[f.offset]? = some y := by have := congrArg (·[0]?) hy; simpa using this
    have dx : xs.toList.drop (f.offset + 1) = xr := by have := congrArg (List.drop 1) hx; simpa using this
    have dy : ys.toList.drop (f.offset + 1) = yr := by have := congrArg (List.drop 1) hy; simpa using this
    split at h2
    case h_2 => simp at h2
    rename_i a b ha hb
    simp at h2; subst h2
    simp only [Op.eqFields, ne_eq, hne, not_false_eq_true, if_true, Sem.run_bind, run_part_scalar hd hdk ex, run_part_scalar hd hdk ey, run_equalIn_scal hd hdk ha, Result.andThen_ok]
    cases a
    · simp
    · have := ih l (f.offset + 1) b hl (by rw [dx, dy]; exact hb)
      simpa using this

theorem run_fill (place : Nat → Option (Nat × Nat)) : ∀ (parts : List (Nat × Operand)) (l : List (Nat × Nat × Operand)) (cs : List Value) (out : List Value), lowParts place parts = some l →
    putParts cs (evParts ρ l) = some out → Instr.fill place cs.toArray (parts.map fun (i, x) => (i, ρ x)) = some out.toArray := by
  intro parts
  induction parts with
  | nil => intro l cs out h1 h2; simp [lowParts] at h1; subst h1; simp [evParts, putParts] at h2; subst h2; simp [Instr.fill]
  | cons p parts ih =>
    obtain ⟨i, x⟩ := p
    intro l cs out h1 h2
    simp only [lowParts] at h1
    split at h1
    case h_2 => simp at h1
    rename_i off size r hp hr
    simp at h1; subst h1
    simp only [evParts, List.map_cons, putParts] at h2
    split at h2
    case isFalse => simp at h2
    rename_i hc
    obtain ⟨h3, h4⟩ := hc
    have := ih r _ out hr h2
    simp only [List.map_cons, Instr.fill, hp]
    have hcond : ¬ ((ρ x).cells.size ≠ size ∨ off + (ρ x).cells.size > cs.toArray.size) := by
      simp; omega
    have hcond' : (decide ((ρ x).cells.size ≠ size) || decide (off + (ρ x).cells.size > cs.toArray.size)) = false := by
      simp; omega
    have hfold : ∀ (vs : List Value) (k : Nat) (c : List Value), off + k + vs.length ≤ c.length →
        (vs.zipIdx k).foldl (fun (cs : Array Value) (p : Value × Nat) => cs.setIfInBounds (off + p.2) p.1) c.toArray = (c.take (off + k) ++ vs ++ c.drop (off + k + vs.length)).toArray := by
      intro vs
      induction vs with
      | nil => intro k c hk; simp
      | cons v vs ihv =>
        intro k c hk
        simp only [List.zipIdx_cons, List.foldl_cons, List.setIfInBounds_toArray]
        rw [ihv (k + 1) (c.set (off + k) v) (by simp at hk ⊢; omega)]
        congr 1
        simp at hk
        apply List.ext_getElem?
        intro j
        simp only [List.getElem?_append, List.getElem?_take, List.getElem?_drop, List.length_append, List.length_take, List.length_set, List.getElem?_set, List.length_cons, List.getElem?_cons]
        grind
    have hf2 : ((ρ x).cells.zipIdx.foldl (fun (cs : Array Value) (p : Value × Nat) => cs.setIfInBounds (off + p.2) p.1) cs.toArray) = (cs.take off ++ (ρ x).cells.toList ++ cs.drop (off + size)).toArray := by
      have := hfold (ρ x).cells.toList 0 cs (by simp; omega)
      simp only [Nat.add_zero, Array.length_toList, h3] at this
      rw [← this, ← Array.foldl_toList, Array.toList_zipIdx]
    simp only [hcond', Bool.false_eq_true, if_false]
    rw [hf2]
    exact this

theorem run_sliceBound {x : Value} {y n : Nat} {c : BoundsCode} (h : bound x y = some n) : (Instr.sliceBound x y c).run P w = .ok n w := by
  cases x <;> simp [bound] at h
  obtain ⟨⟨h1, h2⟩, rfl⟩ := h
  simp [Instr.sliceBound, asIntOf, h1, h2]

theorem run_sliceBounds {b : Bool} {len cap : Nat} {lo hi mx : Option Value} {r : Nat × Nat × Nat} (h : bounds len cap lo hi mx = some r) : (Instr.sliceBounds b len cap lo hi mx).run P w = .ok r w := by
  simp only [bounds, Option.bind_eq_some_iff] at h
  obtain ⟨m, hm, hh, hhh, l, hl, h⟩ := h
  cases h
  have hb : ∀ {y n : Nat} {d : Option Nat} {v : Value} {c : BoundsCode}, boundO y d (some v) = some n → (Instr.sliceBound v y c).run P w = .ok n w := fun h => run_sliceBound h
  simp only [Instr.sliceBounds]
  cases mx <;> cases hi <;> cases lo
  all_goals first
    | (simp [boundO] at hhh; done)
    | skip
  · simp [boundO] at hm hhh hl; subst hm hhh hl; simp
  · simp [boundO] at hm hhh; subst hm hhh; simp [hb hl]
  · simp [boundO] at hm hl; subst hm hl; simp [hb hhh]
  · simp [boundO] at hm; subst hm; simp [hb hl, hb hhh]
  · simp [boundO] at hl; subst hl; simp [hb hm, hb hhh]
  · simp [hb hl, hb hm, hb hhh]

theorem add_off (b o n : Nat) : (⟨b, o, none⟩ : Addr).add n = ⟨b, o + n, none⟩ := by
  by_cases h : n = 0 <;> simp [Addr.add, h]

theorem run_pick {c : Operand} {t : Bool} {x y : Value} (h : ρ c = .bool t) : (do pure (Next.value (if ← asBool (ρ c) then x else y)) : Sem Next).run P w = .ok (.value (if t then x else y)) w := by
  simp [h, asBool]

theorem run_isNil {op : BinOp} {t : TypeId} {x : Value} {y : Operand} {neq b : Bool} {k : NK} {d : TypeDesc} (hd : P.underlying t = some d) (hop : op = if neq then .neq else .eql) (hx : isNil k x = some b)
    (hy : nilKind d y = some k) : ∃ u, y = .const u ∧ (eqGuard op t xo y x u).run P w = .ok () w ∧ (Go.binOp op t x u).run P w = .ok (.bool (if neq then !b else b)) w := by
  have key : ∀ u, y = .const u → (Op.equal t x u).run P w = .ok b w := by
    rintro u rfl
    show (Op.equalIn (9999 + 1) t x u).run P w = _
    generalize 9999 = n
    cases d <;> try (simp [nilKind] at hy; done)
    all_goals (simp only [nilKind] at hy; split at hy <;> try (cases hy; done))
    all_goals simp_all only [TypeDesc.pointer.injEq, TypeDesc.slice.injEq, TypeDesc.map.injEq, TypeDesc.func.injEq, TypeDesc.interface.injEq, reduceCtorEq, Option.some.injEq, Operand.const.injEq]
    all_goals subst_vars
    all_goals (cases x <;> simp [isNil] at hx)
    all_goals first
      | (subst hx; simp [Op.equalIn, run_underlying_of hd]; done)
      | (rename_i a; cases a <;> simp at hx <;> subst hx <;> simp [Op.equalIn, run_underlying_of hd]; done)
      | (rename_i a _ _; cases a <;> simp at hx <;> subst hx <;> simp [Op.equalIn, run_underlying_of hd]; done)
  subst hop
  cases d <;> try (simp [nilKind] at hy; done)
  all_goals (simp only [nilKind] at hy; split at hy <;> try (cases hy; done))
  all_goals simp_all only [TypeDesc.pointer.injEq, TypeDesc.slice.injEq, TypeDesc.map.injEq, TypeDesc.func.injEq, TypeDesc.interface.injEq, reduceCtorEq, Option.some.injEq, Operand.const.injEq]
  all_goals subst_vars
  all_goals (refine ⟨_, rfl, ?_, ?_⟩)
  all_goals (have key' := key _ rfl; cases x <;> simp [isNil] at hx)
  all_goals first
    | (cases neq <;> simp [eqGuard]; done)
    | (cases neq <;> simp [Go.binOp, key']; done)
end
end Go.V

/-
  What is reckoned is what the model's operation gives.
-/
import Derived.Test.YtmlnoodopoaafaaDoorV1
set_option linter.unusedSimpArgs false
set_option linter.unusedVariables false
namespace Go.V
open Go
section
variable {P : Program} {ρ : Operand → Value} {w : World} {v : Value} {r : R}
theorem zero_of {t : TypeId} {z : List Value} (h : zeroOf P t = some z) : ∃ i u, P.info? t = some i ∧ i.zero = some u ∧ u.cells.toList = z := by
  simp only [zeroOf, Option.map_eq_some_iff, Option.bind_eq_some_iff] at h
  obtain ⟨u, ⟨i, h1, h2⟩, h3⟩ := h
  exact ⟨i, u, h1, h2, h3⟩
theorem run_zeroValue_of {t : TypeId} {i : TypeInfo} {u : Value} (h : P.info? t = some i) (hz : i.zero = some u) : (zeroValue t).run P w = .ok u w := by
  simp [zeroValue, run_typeInfo_of h, hz]
theorem run_places (fs : List Field) (hall : ∀ f ∈ fs, ∃ j, P.info? f.type = some j) : (fs.mapM fun f => do pure (f.offset, ← sizeOf f.type) : Sem (List (Nat × Nat))).run P w = .ok (placesOf P fs) w := by
  induction fs with
  | nil => simp [placesOf]
  | cons f fs ih =>
    obtain ⟨j, hj⟩ := hall f (by simp)
    have := ih (fun g hg => hall g (by simp [hg]))
    simp only [List.mapM_cons, Sem.run_bind, run_sizeOf_of hj, Result.andThen_ok, Sem.run_pure, this]
    simp [placesOf, Program.cellsOf, hj]
theorem isAgg_of {t : TypeId} {d : TypeDesc} (h : P.underlying t = some d) : (isAgg t).run P w = .ok (match d with | .struct _ | .array _ _ => true | _ => false) w := by
  cases d <;> simp [isAgg, run_underlying_of h]
set_option maxHeartbeats 1000000 in
theorem pure_sound {o : Oper} (hρ : ∀ u, ρ (.const u) = u) (hl : lowOp P o.op = some r) (hv : pureV ρ r = some v) : (execOp ρ o).run P w = .ok (.value v) w := by
  obtain ⟨dst, op, type, pos, after, guard⟩ := o
  simp only at hl
  cases op
  case move x => simp [lowOp] at hl; subst hl; simp [pureV] at hv; subst hv; simp [execOp]
  case assign x => simp [lowOp] at hl; subst hl; simp [pureV] at hv; subst hv; simp [execOp]
  case pick c a b =>
    simp [lowOp] at hl; subst hl; simp only [pureV] at hv
    split at hv <;> simp at hv; subst hv
    rename_i t ht
    simp [execOp, ht, asBool]
  case nilCheck x =>
    simp [lowOp] at hl; subst hl; simp only [pureV] at hv
    split at hv <;> simp at hv; subst hv
    rename_i a ha
    simp [execOp, ha]
  case extract x i =>
    simp [lowOp] at hl; subst hl; simp only [pureV] at hv
    split at hv <;> try (cases hv; done)
    rename_i vs hvs
    simp [execOp, Instr.extract, hvs, hv]
  case makeFunc fn f c =>
    simp [lowOp] at hl; subst hl; simp [pureV] at hv; subst hv
    obtain ⟨f⟩ := f; obtain ⟨c⟩ := c
    simp [execOp, Instr.makeFunc]
  case makeInterface t x =>
    simp only [lowOp] at hl
    split at hl <;> try (cases hl; done)
    rename_i d hni hd
    cases hl; simp [pureV] at hv; subst hv
    have : (Instr.makeInterface t (ρ x)).run P w = .ok (.iface t (ρ x)) w := by
      cases d <;> simp_all [Instr.makeInterface, underlying]
    simp [execOp, this]
  case unOp op t x =>
    simp [lowOp] at hl; subst hl
    cases op <;> simp only [pureV] at hv <;> try (cases hv; done)
    all_goals (split at hv <;> try (cases hv; done))
    all_goals (cases hv; rename_i hn; simp [execOp, Op.unary, hn, Op.intArith, Op.intBits])
  case convert s d x =>
    simp only [lowOp] at hl
    split at hl <;> try (cases hl; done)
    · rename_i hs hd
      cases hl; simp only [pureV] at hv
      split at hv <;> cases hv
      rename_i n hn
      simp [execOp, Go.convert, run_underlying_of hs, run_underlying_of hd, hn, Conv.intToInt]
    · rename_i hs hd
      cases hl; simp only [pureV] at hv
      split at hv <;> cases hv
      rename_i n hn
      simp [execOp, Go.convert, run_underlying_of hs, run_underlying_of hd, hn]
    · split at hl <;> cases hl <;> simp [pureV] at hv
    · split at hl <;> cases hl <;> simp [pureV] at hv
  case binOp op t x y yt =>
    have fin : ∀ {u : Value}, (Go.binOp op t (ρ x) (ρ y)).run P w = .ok u w → (eqGuard op t x y (ρ x) (ρ y)).run P w = .ok () w → (execOp ρ ⟨dst, .binOp op t x y yt, type, pos, after, guard⟩).run P w = .ok (.value u) w := by
      intro u h1 h2
      simp [execOp, h1, h2]
    have bin : binV op (ρ x) (ρ y) = some v → (execOp ρ ⟨dst, .binOp op t x y yt, type, pos, after, guard⟩).run P w = .ok (.value v) w := by
      intro h
      refine fin (run_binV h) (run_eqGuard_of ?_ ?_)
      · rintro ⟨h1, h2⟩; rw [h1, h2] at h; simp [binV] at h
      · rintro c d ⟨h1, h2⟩; rw [h1, h2] at h; simp [binV] at h
    simp only [lowOp] at hl
    split at hl
    · cases hl; exact bin hv
    · cases hl; exact bin hv
    · rename_i hd
      split at hl <;> cases hl
      all_goals
        simp only [pureV] at hv
        split at hv <;> cases hv
        rename_i a b ha hb
        refine fin ?_ (run_eqGuard_of (by simp [ha]) (by simp [ha]))
        have : (Op.equal t (.bool a) (.bool b)).run P w = .ok (a == b) w := run_equalIn_scal (n := 9999) hd rfl rfl
        simp [ha, hb, Go.binOp, this]
    · rename_i fs hd
      split at hl <;> try (cases hl; done)
      rename_i hg
      obtain ⟨hg, hst⟩ := hg
      have hfo : P.underlying t = some (.struct (P.fieldsOf t)) := by simp [Program.fieldsOf, hd]
      have hfs : P.fieldsOf t = fs := by simp [Program.fieldsOf, hd]
      split at hl <;> cases hl
      all_goals
        rename_i ks hks
        simp only [pureV] at hv
        split at hv <;> try (cases hv; done)
        rename_i a b ha hb
        split at hv <;> try (cases hv; done)
        simp only [Option.map_eq_some_iff] at hv
        obtain ⟨q, hq, rfl⟩ := hv
        have hr : (Op.equal t (.agg a) (.agg b)).run P w = .ok q w := by
          show (Op.equalIn (9999 + 1) t (.agg a) (.agg b)).run P w = _
          rw [run_equalIn_struct w 9999 t a b hfo hst, hfs]
          exact run_eqFields (n := 9998) fs.toList ks 0 q hks (by simpa using hq)
        refine fin ?_ ?_
        · simp [ha, hb, Go.binOp, hr]
        · rw [ha, hb]; exact run_eqGuard_agg w _ t x y a b hg
    · rename_i d _ _ _ _ hd
      split at hl <;> cases hl
      all_goals
        rename_i k hk
        simp only [pureV, Option.map_eq_some_iff] at hv
        obtain ⟨b, hb, rfl⟩ := hv
      · obtain ⟨u, rfl, h1, h2⟩ := run_isNil (w := w) (xo := x) (op := .eql) (neq := false) hd rfl hb hk
        exact fin (by rw [hρ]; exact h2) (by rw [hρ]; exact h1)
      · obtain ⟨u, rfl, h1, h2⟩ := run_isNil (w := w) (xo := x) (op := .neq) (neq := true) hd rfl hb hk
        exact fin (by rw [hρ]; exact h2) (by rw [hρ]; exact h1)
    · cases hl
  case fieldAddr s x f =>
    simp only [lowOp] at hl
    split at hl <;> try (cases hl; done)
    rename_i fs hs
    split at hl <;> try (cases hl; done)
    rename_i fd hf
    split at hl <;> try (cases hl; done)
    rename_i i hi
    split at hl <;> cases hl
    rename_i hz
    simp only [pureV] at hv
    split at hv <;> cases hv
    rename_i b o hx
    have h1 : (fieldPlace ⟨b, o, none⟩ fd).run P w = .ok ⟨b, o + fd.offset, none⟩ w := by
      simp [fieldPlace, run_sizeOf_of hi, hz, add_off]
    simp [execOp, Instr.fieldAt, run_underlying_of hs, hf, hx, Instr.sureAddr, h1]
  case field s x f =>
    simp only [lowOp] at hl
    split at hl <;> try (cases hl; done)
    rename_i fs hs
    split at hl <;> try (cases hl; done)
    rename_i fd hf
    split at hl <;> cases hl
    · rename_i _ j hu hj
      simp only [pureV] at hv
      split at hv <;> try (cases hv; done)
      rename_i cs hx
      simp at hv; subst hv
      simp [execOp, Instr.field, run_underlying_of hs, hf, hx, asAgg, part, isAgg_of hu, run_sizeOf_of hj]
    · rename_i _ _ j hu hj
      simp only [pureV] at hv
      split at hv <;> try (cases hv; done)
      rename_i cs hx
      simp at hv; subst hv
      simp [execOp, Instr.field, run_underlying_of hs, hf, hx, asAgg, part, isAgg_of hu, run_sizeOf_of hj]
    · rename_i d j h1 h2 hu hj
      simp only [pureV] at hv
      split at hv <;> try (cases hv; done)
      rename_i cs hx
      simp at hv
      have : (isAgg fd.type).run P w = .ok false w := by rw [isAgg_of hu]; cases d <;> simp_all
      simp [execOp, Instr.field, run_underlying_of hs, hf, hx, asAgg, part, this, hv]
  case indexAddr t x i =>
    simp only [lowOp] at hl
    split at hl <;> try (cases hl; done)
    · rename_i n e hs
      simp only [Option.map_eq_some_iff] at hl
      obtain ⟨j, hj, rfl⟩ := hl
      simp only [pureV] at hv
      split at hv <;> try (cases hv; done)
      rename_i b o k m hx hi
      split at hv <;> cases hv
      rename_i hb
      simp [execOp, Instr.indexAt, run_underlying_of hs, hx, hi, asIntOf, Instr.sureAddr, hb, run_sizeOf_of hj, add_off]
    · rename_i e hs
      simp only [Option.map_eq_some_iff] at hl
      obtain ⟨j, hj, rfl⟩ := hl
      simp only [pureV] at hv
      split at hv <;> try (cases hv; done)
      rename_i b o n c k m hx hi
      split at hv <;> cases hv
      rename_i hb
      simp [execOp, Instr.indexAt, run_underlying_of hs, hx, hi, asIntOf, hb, run_sizeOf_of hj, add_off]
  case index t x i =>
    simp only [lowOp] at hl
    split at hl <;> try (cases hl; done)
    · rename_i hs
      cases hl
      simp only [pureV] at hv
      split at hv <;> try (cases hv; done)
      rename_i s k m hx hi
      split at hv <;> try (cases hv; done)
      rename_i h0
      simp only [Option.map_eq_some_iff] at hv
      obtain ⟨b, hb, rfl⟩ := hv
      simp [execOp, Instr.index, run_underlying_of hs, hx, hi, asIntOf, h0, hb]
    · rename_i n e hs
      split at hl <;> cases hl
      · rename_i _ j hu hj
        simp only [pureV] at hv
        split at hv <;> try (cases hv; done)
        rename_i cs k m hx hi
        split at hv <;> try (cases hv; done)
        rename_i hb
        simp at hv; subst hv
        simp [execOp, Instr.index, run_underlying_of hs, hx, hi, asIntOf, hb, run_sizeOf_of hj, part, isAgg_of hu]
      · rename_i _ _ j hu hj
        simp only [pureV] at hv
        split at hv <;> try (cases hv; done)
        rename_i cs k m hx hi
        split at hv <;> try (cases hv; done)
        rename_i hb
        simp at hv; subst hv
        simp [execOp, Instr.index, run_underlying_of hs, hx, hi, asIntOf, hb, run_sizeOf_of hj, part, isAgg_of hu]
      · rename_i d j h1 h2 hu hj
        simp only [pureV] at hv
        split at hv <;> try (cases hv; done)
        rename_i cs k m hx hi
        split at hv <;> try (cases hv; done)
        rename_i hb
        simp at hv
        have : (isAgg e).run P w = .ok false w := by rw [isAgg_of hu]; cases d <;> simp_all
        simp [execOp, Instr.index, run_underlying_of hs, hx, hi, asIntOf, hb, run_sizeOf_of hj, part, this, hv]
  case slice t x lo hi mx =>
    simp only [lowOp] at hl
    split at hl <;> try (cases hl; done)
    · rename_i hs
      split at hl <;> cases hl
      rename_i hmx
      obtain rfl : mx = none := by simpa using hmx
      simp only [pureV] at hv
      split at hv <;> try (cases hv; done)
      rename_i s hx
      simp only [Option.map_eq_some_iff] at hv
      obtain ⟨⟨l, h, m⟩, hb, rfl⟩ := hv
      simp [execOp, Instr.sliceAt, Instr.slice, run_underlying_of hs, hx, run_sliceBounds hb]
    · rename_i e hs
      simp only [Option.map_eq_some_iff] at hl
      obtain ⟨j, hj, rfl⟩ := hl
      simp only [pureV] at hv
      split at hv <;> try (cases hv; done)
      · rename_i b o len cap hx
        simp only [Option.map_eq_some_iff] at hv
        obtain ⟨⟨l, h, m⟩, hb, rfl⟩ := hv
        simp only [execOp, Instr.sliceAt, Instr.slice, Sem.run_bind, run_underlying_of hs, hx, run_sliceBounds hb, run_sizeOf_of hj, Result.andThen_ok, Sem.run_pure, add_off, Option.map_some]
        by_cases e : m = l <;> simp [e]
      · rename_i len cap hx
        simp only [Option.map_eq_some_iff] at hv
        obtain ⟨⟨l, h, m⟩, hb, rfl⟩ := hv
        simp [execOp, Instr.sliceAt, Instr.slice, run_underlying_of hs, hx, run_sliceBounds hb, run_sizeOf_of hj]
    · rename_i n e hs
      split at hl <;> try (cases hl; done)
      rename_i hmx
      obtain rfl : mx = none := by simpa using hmx
      simp only [Option.map_eq_some_iff] at hl
      obtain ⟨j, hj, rfl⟩ := hl
      simp only [pureV] at hv
      split at hv <;> try (cases hv; done)
      rename_i b o hx
      simp only [Option.map_eq_some_iff] at hv
      obtain ⟨⟨l, h, m⟩, hb, rfl⟩ := hv
      simp only [execOp, Instr.sliceAt, Sem.run_bind, run_underlying_of hs, hx, Instr.sureAddr, run_sliceBounds hb, run_sizeOf_of hj, Result.andThen_ok, Sem.run_pure, add_off, Option.map_none]
      by_cases e : m = l <;> simp [e]
  case build t parts =>
    simp only [lowOp] at hl
    split at hl <;> try (cases hl; done)
    · rename_i fs z hs hz
      split at hl <;> try (cases hl; done)
      rename_i hall
      simp only [Option.map_eq_some_iff] at hl
      obtain ⟨l, hlp, rfl⟩ := hl
      obtain ⟨i, u, hi, hu, rfl⟩ := zero_of hz
      simp only [pureV, Option.map_eq_some_iff] at hv
      obtain ⟨out, ho, rfl⟩ := hv
      have hpl : (fs.mapM fun f => do pure (f.offset, ← sizeOf f.type) : Sem (Array (Nat × Nat))).run P w = .ok (placesOf P fs.toList).toArray w := by
        rw [Array.mapM_eq_mapM_toList]
        simp only [Sem.run_map]
        rw [run_places fs.toList (fun f hf => by
          have := List.all_eq_true.1 hall f hf
          exact Option.isSome_iff_exists.1 this)]
        simp
      have hfill := run_fill (ρ := ρ) (fun i => (placesOf P fs.toList)[i]?) parts.toList l u.cells.toList out hlp ho
      have hpe : (fun i : Nat => (placesOf P fs.toList).toArray[i]?) = fun i : Nat => (placesOf P fs.toList)[i]? := by funext i; simp
      have hparts : (parts.map fun p => (p.1, ρ p.2)).toList = parts.toList.map fun p => (p.1, ρ p.2) := by simp
      simp only [Array.toArray_toList] at hfill
      have : (Instr.build t (parts.map fun p => (p.1, ρ p.2))).run P w = .ok (.agg out.toArray) w := by
        simp only [Instr.build, Sem.run_bind, run_zeroValue_of hi hu, Result.andThen_ok, run_underlying_of hs, hpl, hparts]
        rw [hpe]
        simp [hfill]
      simp [execOp, this]
    · rename_i n e z hs hz
      split at hl <;> try (cases hl; done)
      rename_i j hj
      simp only [Option.map_eq_some_iff] at hl
      obtain ⟨l, hlp, rfl⟩ := hl
      obtain ⟨i, u, hi, hu, rfl⟩ := zero_of hz
      simp only [pureV, Option.map_eq_some_iff] at hv
      obtain ⟨out, ho, rfl⟩ := hv
      have hfill := run_fill (ρ := ρ) (fun i => some (i * j.size, j.size)) parts.toList l u.cells.toList out hlp ho
      have hparts : (parts.map fun p => (p.1, ρ p.2)).toList = parts.toList.map fun p => (p.1, ρ p.2) := by simp
      simp only [Array.toArray_toList] at hfill
      have : (Instr.build t (parts.map fun p => (p.1, ρ p.2))).run P w = .ok (.agg out.toArray) w := by
        simp only [Instr.build, Sem.run_bind, run_zeroValue_of hi hu, Result.andThen_ok, run_underlying_of hs, run_sizeOf_of hj, hparts]
        simp [hfill]
      simp [execOp, this]
  case typeAssert x xt t ok =>
    simp only [lowOp] at hl
    split at hl <;> try (cases hl; done)
    rename_i d hni hd
    simp only [Option.map_eq_some_iff, Option.bind_eq_some_iff] at hl
    obtain ⟨z, ⟨i, hi, hz⟩, rfl⟩ := hl
    simp only [pureV] at hv
    split at hv <;> try (cases hv; done)
    · rename_i hx
      split at hv <;> cases hv
      rename_i hok
      have : (Instr.typeAssert .nilIface xt t true).run P w = .ok (.tuple #[z, .bool false]) w := by
        cases d <;> simp_all [Instr.typeAssert, run_zeroValue_of hi hz, underlying]
      simp [execOp, hx, hok, this]
    · rename_i u y hx
      split at hv
      · rename_i hut
        cases hv
        have : (Instr.typeAssert (.iface u y) xt t ok).run P w = .ok (if ok = true then .tuple #[y, .bool true] else y) w := by
          cases d <;> simp_all [Instr.typeAssert, underlying]
        simp [execOp, hx, this]
      · rename_i hut
        split at hv <;> cases hv
        rename_i hok
        have : (Instr.typeAssert (.iface u y) xt t true).run P w = .ok (.tuple #[z, .bool false]) w := by
          cases d <;> simp_all [Instr.typeAssert, run_zeroValue_of hi hz, underlying]
        simp [execOp, hx, hok, this]
  case call c =>
    obtain ⟨callee, args, ats⟩ := c
    obtain ⟨args⟩ := args
    obtain ⟨ats⟩ := ats
    have fin : ∀ {b : Builtin} {s : Sem Value}, callee = .builtin b → (∀ cs, Go.builtin b ats.toArray type cs (args.map ρ).toArray = (do pure (.value (← s)))) → s.run P w = .ok v w →
        (execOp ρ ⟨dst, .call ⟨callee, args.toArray, ats.toArray⟩, type, pos, after, guard⟩).run P w = .ok (.value v) w := by
      rintro b s rfl h1 h2
      simp [execOp, resolve, invoke, h1, h2]
    simp only [lowOp] at hl
    split at hl
    · split at hl <;> cases hl; simp [pureV] at hv
    · cases hl; simp [pureV] at hv
    · split at hl <;> try (cases hl; done)
      rename_i x t
      split at hl <;> cases hl <;> simp only [pureV] at hv <;> try (cases hv; done)
      all_goals (rename_i hd; split at hv <;> cases hv)
      all_goals (rename_i hx; refine fin (s := Builtin.len_ #[t] type #[ρ x]) rfl (fun cs => by simp [Go.builtin]) ?_)
      · simp [Builtin.len_, run_underlying_of hd, hx, goInt]
      · simp [Builtin.len_, run_underlying_of hd, hx, goInt]
    · split at hl <;> try (cases hl; done)
      rename_i x t
      split at hl <;> cases hl <;> simp only [pureV] at hv <;> try (cases hv; done)
      all_goals (rename_i hd; split at hv <;> cases hv)
      all_goals (rename_i hx; refine fin (s := Builtin.cap_ #[t] type #[ρ x]) rfl (fun cs => by simp [Go.builtin]) ?_)
      · simp [Builtin.cap_, run_underlying_of hd, hx, goInt]
    · split at hl <;> cases hl
      rename_i x y
      simp only [pureV] at hv
      split at hv <;> cases hv
      rename_i hx hy
      refine fin (s := Builtin.min_ ats.toArray type #[ρ x, ρ y]) rfl (fun cs => by simp [Go.builtin]) ?_
      simp [Builtin.min_, Builtin.min2, hx, hy]
    · split at hl <;> cases hl
      rename_i x y
      simp only [pureV] at hv
      split at hv <;> cases hv
      rename_i hx hy
      refine fin (s := Builtin.max_ ats.toArray type #[ρ x, ρ y]) rfl (fun cs => by simp [Go.builtin]) ?_
      simp [Builtin.max_, Builtin.max2, hx, hy]
    all_goals (repeat' split at hl)
    all_goals first
      | (cases hl; done)
      | (cases hl; simp [pureV] at hv; done)
      | (simp only [Option.map_eq_some_iff] at hl; obtain ⟨_, _, rfl⟩ := hl; simp [pureV] at hv; done)
  all_goals (try simp only [lowOp] at hl)
  all_goals (repeat' split at hl)
  all_goals first
    | (cases hl; done)
    | (cases hl; simp [pureV] at hv; done)
    | (simp only [Option.map_eq_some_iff] at hl; obtain ⟨_, _, rfl⟩ := hl; simp [pureV] at hv; done)
end
def zeroRow (n : Nat) (zero : List Value) : List Value := (List.range (n * zero.length)).map fun i => zero[i % zero.length]!
def sameK : SK → Value → Value → Option Bool
  | .int, .int k a, .int k' b => if k = k' then some (a == b) else none
  | .str, .string a, .string b => some (decide (a = b))
  | .bool, .bool a, .bool b => some (a == b)
  | _, _, _ => none
def findK (sk : SK) (k : Value) : List MapEntry → Nat → Option (Option (Nat × Value))
  | [], _ => some none
  | e :: es, i =>
    match sameK sk k e.key with
    | some true => some (some (i, e.val))
    | some false => findK sk k es (i + 1)
    | none => none
def entriesOf : Value → Sem (Array MapEntry × Nat)
  | .map none => pure (#[], 0)
  | .map (some r) => do
    match ← getObj r with
    | .map es c => pure (es, c)
    | _ => stuck "map"
  | _ => stuck "map"
def lookRes (ok : Bool) (zero : Value) : Option (Nat × Value) → Value
  | some (_, v) => if ok then .tuple #[v, .bool true] else v
  | none => if ok then .tuple #[zero, .bool false] else zero
def seqLen : Value → Option Nat
  | .slice _ n _ => some n
  | .string s => some s.size
  | _ => none
def memS (ρ : Operand → Value) : R → Option (Sem Next)
  | .load1 x => some do let a ← Instr.sureAddr (ρ x); let v ← load a; pure (.value v)
  | .loadN n x => some do let a ← Instr.sureAddr (ρ x); let cs ← loadCells a n; pure (.value (.agg cs))
  | .mlen m => some do let (es, _) ← entriesOf (ρ m); pure (.value (.int .i64 es.size))
  | .lookup sk zero ok m key => some do
    let (es, _) ← entriesOf (ρ m)
    match findK sk (ρ key) es.toList 0 with
    | some r => pure (.value (lookRes ok zero r))
    | none => stuck "key"
  | .entry it => some do let v ← Instr.entry (ρ it); pure (.value v)
  | .b2s x => some do let v ← Conv.bytesToString (ρ x); pure (.value v)
  | .alloc t zero => some do let b ← newObj (.cells zero.toArray t); pure (.value (.pointer (some ⟨b, 0, none⟩)))
  | .box t x => some do let b ← newObj (.cells (ρ x).cells t); pure (.value (.pointer (some ⟨b, 0, none⟩)))
  | .bslice t len zero parts => some <| match putParts (zeroRow len zero) (evParts ρ parts) with
    | some out => do let b ← newObj (.cells out.toArray t); pure (.value (.slice (some ⟨b, 0, none⟩) len len))
    | none => stuck "parts"
  | .mkmap => some do let b ← newObj (.map #[] 0); pure (.value (.map (some b)))
  | .mkslice t size bytes zero l c => some <| match ρ l, ρ c with
    | .int _ l, .int _ c => if 0 ≤ l ∧ l ≤ c ∧ c ≤ 9223372036854775807 ∧ bytes * c ≤ 2 ^ 48 then if zero.length = size then do
        let b ← newObj (.cells (zeroRow c.toNat zero).toArray t); pure (.value (.slice (some ⟨b, 0, none⟩) l.toNat c.toNat))
      else stuck "size" else stuck "size"
    | _, _ => stuck "size"
  | .rangeS x => some <| match ρ x with
    | .string s => do let b ← newObj (.stringIter s 0); pure (.value (.pointer (some ⟨b, 0, none⟩)))
    | _ => stuck "string"
  | .rangeM x => some <| match ρ x with
    | .map none => do let b ← newObj (.mapIter none 0 #[] 0); pure (.value (.pointer (some ⟨b, 0, none⟩)))
    | .map (some m) => do let (_, clock) ← entriesOf (.map (some m)); let b ← newObj (.mapIter (some m) clock #[] clock); pure (.value (.pointer (some ⟨b, 0, none⟩)))
    | _ => stuck "map"
  | .s2b t x => some <| match ρ x with
    | .string s => do let v ← Conv.stringToBytes t s; pure (.value v)
    | _ => stuck "string"
  | .store n x v => some do let a ← Instr.sureAddr (ρ x); if (ρ v).cells.size = n then (do storeCells a (ρ v).cells.toList; pure .skip) else stuck "size"
  | .mapupd sk m key v => some <| match ρ m with
    | .map (some r) => do
      let (es, clock) ← entriesOf (.map (some r))
      match findK sk (ρ key) es.toList 0 with
      | some (some (i, _)) => do
        let key ← Instr.keyThatStays (((es[i]?).map (·.key)).getD (ρ key)) (ρ key)
        setObj r (.map (es.modify i fun e => { e with key, val := ρ v }) clock); pure .skip
      | some none => do setObj r (.map (es.push { key := ρ key, val := ρ v, born := clock }) (clock + 1)); pure .skip
      | none => stuck "key"
    | _ => stuck "map"
  | .delete sk m key => some <| match ρ m with
    | .map (some r) => do
      let (es, clock) ← entriesOf (.map (some r))
      match findK sk (ρ key) es.toList 0 with
      | some (some (i, _)) => do setObj r (.map (es.eraseIdxIfInBounds i) clock); pure (.value (.tuple #[]))
      | some none => do setObj r (.map es clock); pure (.value (.tuple #[]))
      | none => stuck "key"
    | .map none => pure (.value (.tuple #[]))
    | _ => stuck "map"
  | .append t size bytes zero s x => some <| match ρ s, seqLen (ρ x) with
    | .slice base n c, some m =>
      if n + m ≤ c then do
        let new ← Builtin.firstCells size m (ρ x)
        if let some a := base then storeCells (a.add (n * size)) new.toList
        pure (.value (.slice base (n + m) c))
      else if Builtin.nextslicecap (n + m) c * bytes > 2 ^ 48 ∨ bytes = 0 then stuck "size" else do
        let cap ← choose (.appendCap (n + m) c t)
        let old ← Builtin.firstCells size n (ρ s)
        let new ← Builtin.firstCells size m (ρ x)
        let b ← newObj (.cells (old ++ new ++ (zeroRow (cap - (n + m)) zero).toArray) t)
        pure (.value (.slice (some ⟨b, 0, none⟩) (n + m) cap))
    | _, _ => stuck "append"
  | .grow t size bytes zero s x => some <| match ρ s, ρ x with
    | .slice base n c, .int _ l =>
      if l < 0 ∨ l * bytes > 2 ^ 48 ∨ IntKind.i64.wrap l ≠ l ∨ size = 0 then stuck "grow" else
      if n + l.toNat ≤ c then do
        if let some a := base then storeCells (a.add (n * size)) (zeroRow l.toNat zero)
        pure (.value (.slice base (n + l.toNat) c))
      else if Builtin.nextslicecap (n + l.toNat) c * bytes > 2 ^ 48 ∨ bytes = 0 ∨ ((n + l.toNat : Nat) : Int) > IntKind.i64.max then stuck "size" else do
        let cap ← choose (.appendCap (n + l.toNat) c t)
        let old ← Builtin.firstCells size n (ρ s)
        let b ← newObj (.cells (old ++ (zeroRow l.toNat zero).toArray ++ (zeroRow (cap - (n + l.toNat)) zero).toArray) t)
        pure (.value (.slice (some ⟨b, 0, none⟩) (n + l.toNat) cap))
    | _, _ => stuck "grow"
  | .copy size d s => some <| match ρ d, seqLen (ρ s) with
    | .slice base n _, some m => do
      let cells ← Builtin.firstCells size (Nat.min m n) (ρ s)
      if let some a := base then storeCells a cells.toList
      pure (.value (.int .i64 (Nat.min m n)))
    | _, _ => stuck "copy"
  | .clr zero x => some <| match ρ x with
    | .slice base n _ => do
      if let some a := base then storeCells a (zeroRow n zero)
      pure (.value (.tuple #[]))
    | _ => stuck "clear"
  | .next it s => some do let v ← Instr.next (ρ it) s 0; pure (.value v)
  | _ => none
section
variable {P : Program} {ρ : Operand → Value} {w w' : World} {n : Next} {r : R} {s : Sem Next}
theorem sameNow_of {d : TypeDesc} {sk : SK} (h : skOf d = some sk) (a b : Value) : Instr.sameNow d a b = sameK sk a b := by
  cases d <;> simp [skOf] at h <;> subst h <;> cases a <;> cases b <;> simp [Instr.sameNow, sameK]
  rename_i a b; rw [beq_toListBytes, str_eq]
theorem findNow_of {d : TypeDesc} {sk : SK} (h : skOf d = some sk) (k : Value) : ∀ (es : List MapEntry) (i : Nat), Instr.findNow d k es i = findK sk k es i := by
  intro es
  induction es with
  | nil => intro i; rfl
  | cons e es ih =>
    intro i
    simp only [Instr.findNow, findK, sameNow_of h, ih]
    split <;> simp_all
theorem run_checkKey {t : TypeId} {d : TypeDesc} {sk : SK} (ht : P.underlying t = some d) (h : skOf d = some sk) (e : Bool) (v : Value) : (Instr.checkKey e 10000 t v).run P w = .ok () w := by
  show (Instr.checkKey e (9999 + 1) t v).run P w = _
  generalize 9999 = n
  cases d <;> simp [skOf] at h <;> cases v <;> simp [Instr.checkKey, run_underlying_of ht]
theorem run_findKey {t : TypeId} {d : TypeDesc} {sk : SK} (ht : P.underlying t = some d) (h : skOf d = some sk) {k : Value} {es : List MapEntry} {r : Option (Nat × Value)} (hf : findK sk k es 0 = some r) :
    (Instr.findKey t k es).run P w = .ok r w := by
  simp [Instr.findKey, run_underlying_of ht, findNow_of h, hf]
theorem sk_of {t : TypeId} {sk : SK} (h : (P.underlying t).bind skOf = some sk) : ∃ d, P.underlying t = some d ∧ skOf d = some sk := Option.bind_eq_some_iff.1 h
theorem zeroRow_eq (n : Nat) (z : Array Value) : (zeroRow n z.toList).toArray = (Array.range (n * z.size)).map (z[· % z.size]!) := by
  apply Array.toList_inj.1
  simp only [zeroRow, Array.toList_map, Array.toList_range, Array.length_toList]
  apply List.map_congr_left
  intro a _
  rw [getElem!_def, getElem!_def]
  simp
theorem zeroCells_eq (n : Nat) (z : Array Value) : (zeroRow n z.toList).toArray = Builtin.zeroCells z n := by
  rw [zeroRow_eq]; rfl
theorem run_entries {x : Value} {es : Array MapEntry} {c : Nat} (h : (entriesOf x).run P w = .ok (es, c) w') :
    w' = w ∧ ((x = .map none ∧ es = #[] ∧ c = 0) ∨ ∃ r, x = .map (some r) ∧ (getObj r).run P w = .ok (.map es c) w) := by
  unfold entriesOf at h
  split at h
  · simp at h; obtain ⟨⟨rfl, rfl⟩, rfl⟩ := h; exact ⟨rfl, .inl ⟨rfl, rfl, rfl⟩⟩
  · rename_i r
    simp only [Sem.run_bind] at h
    have hw : ∀ o w1, (getObj r).run P w = .ok o w1 → w1 = w := by
      intro o w1 h
      simp only [getObj, Sem.run] at h
      split at h <;> first | (cases h; done) | (cases h; rfl)
    cases hg : (getObj r).run P w with
    | halt x w1 => rw [hg] at h; simp at h
    | ok o w1 =>
      rw [hg] at h
      obtain rfl := hw _ _ hg
      simp only [Result.andThen_ok] at h
      cases o <;> simp at h
      obtain ⟨⟨rfl, rfl⟩, rfl⟩ := h
      exact ⟨rfl, .inr ⟨r, rfl, hg⟩⟩
  · simp at h
theorem andThen_ok_of {α β : Type} {x : Result α} {f : α → World → Result β} {b : β} {w2 : World} (h : x.andThen f = .ok b w2) : ∃ a w1, x = .ok a w1 ∧ f a w1 = .ok b w2 := by
  cases x with
  | ok a w1 => exact ⟨a, w1, rfl, h⟩
  | halt h w1 => simp at h
theorem andThen_assoc {α β γ : Type} (x : Result α) (f : α → World → Result β) (g : β → World → Result γ) : (x.andThen f).andThen g = x.andThen fun a w => (f a w).andThen g := by
  cases x <;> rfl
theorem upd_aux {t kt e : TypeId} {sk : SK} {d : TypeDesc} {m k v : Operand}
    (hu : P.underlying t = some (.map kt e)) (hd : P.underlying kt = some d) (hdk : skOf d = some sk) (hr : (match ρ m with
    | .map (some r) => do
      let (es, clock) ← entriesOf (.map (some r))
      match findK sk (ρ k) es.toList 0 with
      | some (some (i, _)) => do
        let key ← Instr.keyThatStays (((es[i]?).map (·.key)).getD (ρ k)) (ρ k)
        setObj r (.map (es.modify i fun e => { e with key, val := ρ v }) clock); pure .skip
      | some none => do setObj r (.map (es.push { key := ρ k, val := ρ v, born := clock }) (clock + 1)); pure .skip
      | none => stuck "key"
    | _ => stuck "map" : Sem Next).run P w = .ok n w') : (do Instr.mapUpdate t (ρ m) (ρ k) (ρ v); pure .skip : Sem Next).run P w = .ok n w' := by
  split at hr
  case h_2 => simp at hr
  rename_i q hx
  simp only [Sem.run_bind] at hr
  obtain ⟨⟨es, c⟩, w1, h1, h2⟩ := andThen_ok_of hr
  obtain ⟨rfl, hx2⟩ := run_entries h1
  simp at hx2
  simp only at h2
  split at h2
  · rename_i i v' hf
    simp only [Instr.mapUpdate, Sem.run_bind, run_underlying_of hu, Result.andThen_ok, hx, hx2, run_checkKey hd hdk, run_findKey hd hdk hf]
    simpa [andThen_assoc] using h2
  · rename_i hf
    simp only [Instr.mapUpdate, Sem.run_bind, run_underlying_of hu, Result.andThen_ok, hx, hx2, run_checkKey hd hdk, run_findKey hd hdk hf]
    simpa [andThen_assoc] using h2
  · simp at h2
set_option maxHeartbeats 1000000 in
theorem mem_sound {o : Oper} (hρ : ∀ u, ρ (.const u) = u) (hl : lowOp P o.op = some r) (hs : memS ρ r = some s) (hr : s.run P w = .ok n w') : (execOp ρ o).run P w = .ok n w' := by
  obtain ⟨dst, op, type, pos, after, guard⟩ := o
  simp only at hl
  cases op
  case load t x =>
    simp only [lowOp] at hl
    split at hl <;> cases hl
    · rename_i i hu hi
      simp only [memS, Option.some.injEq] at hs; subst hs
      simpa [execOp, Instr.loadAt, loadVar, isAgg_of hu, run_sizeOf_of hi, andThen_assoc] using hr
    · rename_i i hu hi
      simp only [memS, Option.some.injEq] at hs; subst hs
      simpa [execOp, Instr.loadAt, loadVar, isAgg_of hu, run_sizeOf_of hi, andThen_assoc] using hr
    · rename_i d j h1 h2 hu hj
      simp only [memS, Option.some.injEq] at hs; subst hs
      have ha : ∀ w, (isAgg t).run P w = .ok false w := by intro w; rw [isAgg_of hu]; cases d <;> simp_all
      simpa [execOp, Instr.loadAt, loadVar, ha] using hr
  case store t x v =>
    simp only [lowOp, Option.map_eq_some_iff] at hl
    obtain ⟨i, hi, rfl⟩ := hl
    simp only [memS, Option.some.injEq] at hs; subst hs
    simp only [Sem.run_bind] at hr
    obtain ⟨a, w1, h1, h2⟩ := andThen_ok_of hr
    split at h2
    · rename_i hz
      simp only [execOp, Instr.storeAt, storeVar, Sem.run_bind, h1, Result.andThen_ok, run_sizeOf_of hi, hz]
      simpa [hz] using h2
    · simp at h2
  case alloc t =>
    simp only [lowOp, Option.map_eq_some_iff] at hl
    obtain ⟨z, hz, rfl⟩ := hl
    obtain ⟨i, u, hi, hu, rfl⟩ := zero_of hz
    simp only [memS, Option.some.injEq] at hs; subst hs
    simpa [execOp, Instr.alloc, run_zeroValue_of hi hu, newVar, newRow] using hr
  case box t x =>
    simp only [lowOp, Option.some.injEq] at hl; subst hl
    simp only [memS, Option.some.injEq] at hs; subst hs
    simpa [execOp, Instr.box, newVar, newRow] using hr
  case buildSlice t len parts =>
    simp only [lowOp] at hl
    split at hl <;> try (cases hl; done)
    rename_i e hu
    split at hl <;> try (cases hl; done)
    rename_i i z hi hz
    split at hl <;> try (cases hl; done)
    rename_i hle
    obtain ⟨h24, hzl⟩ := hle
    simp only [Option.map_eq_some_iff] at hl
    obtain ⟨l, hlp, rfl⟩ := hl
    obtain ⟨i', u, hi', hu', rfl⟩ := zero_of hz
    rw [hi] at hi'; cases hi'
    simp only [memS, Option.some.injEq] at hs; subst hs
    split at hr
    case h_2 => simp at hr
    rename_i out ho
    have hfill := run_fill (ρ := ρ) (fun j => some (j * i.size, i.size)) parts.toList l _ out hlp ho
    have hparts : (parts.map fun p => (p.1, ρ p.2)).toList = parts.toList.map fun p => (p.1, ρ p.2) := by simp
    have hsz : u.cells.size = i.size := by simpa using hzl
    rw [zeroRow_eq, hsz] at hfill
    have hb : (Instr.buildSlice t len (parts.map fun p => (p.1, ρ p.2))).run P w = ((newObj (.cells out.toArray e)).run P w).andThen fun b w => .ok (.slice (some ⟨b, 0, none⟩) len len) w := by
      simp only [Instr.buildSlice, Sem.run_bind, run_underlying_of hu, Result.andThen_ok, run_sizeOf_of hi, show ¬ (len * i.size > 2 ^ 24) by omega, if_false, hparts]
      by_cases h0 : len * i.size = 0
      · have e1 : (Array.range (len * i.size)).map (u.cells[· % i.size]!) = (Array.range (len * i.size)).map ((#[] : Array Value)[· % (#[] : Array Value).size]!) := by rw [h0]; simp
        rw [e1] at hfill
        simp only [if_pos h0, Sem.run_bind, Sem.run_pure, Result.andThen_ok]
        rw [hfill]
        simp [newRow]
      · rw [← hsz] at hfill
        simp only [if_neg h0, Sem.run_bind, run_zeroValue_of hi hu', Sem.run_pure, Result.andThen_ok]
        rw [← hsz, hfill]
        simp [newRow]
    simp only [execOp, Sem.run_bind, hb]
    simpa [andThen_assoc] using hr
  case makeMap t h =>
    simp only [lowOp] at hl
    split at hl <;> try (cases hl; done)
    rename_i k e hu
    split at hl <;> cases hl
    · simp only [memS, Option.some.injEq] at hs; subst hs
      simpa [execOp, Instr.makeMap, andThen_assoc] using hr
    · simp only [memS, Option.some.injEq] at hs; subst hs
      simpa [execOp, Instr.makeMap, andThen_assoc, run_underlying_of hu, hρ, asInt, asIntOf] using hr
  case makeSlice t l c =>
    simp only [lowOp] at hl
    split at hl <;> try (cases hl; done)
    rename_i e hu
    split at hl <;> cases hl
    rename_i i z hi hz
    obtain ⟨i', u, hi', hu', rfl⟩ := zero_of hz
    rw [hi] at hi'; cases hi'
    simp only [memS, Option.some.injEq] at hs; subst hs
    split at hr
    case h_2 => simp at hr
    rename_i kl l' kc c' hl' hc'
    split at hr
    case isFalse => simp at hr
    rename_i hb
    obtain ⟨b1, b2, b3, b4⟩ := hb
    split at hr
    case isFalse => simp at hr
    rename_i hzl
    have wl : IntKind.i64.wrap l' = l' := by
      simp only [IntKind.wrap, IntKind.bits, IntKind.signed]; simp; omega
    have wc : IntKind.i64.wrap c' = c' := by
      simp only [IntKind.wrap, IntKind.bits, IntKind.signed]; simp; omega
    have hbig : ((decide (c' < 0) || decide ((i.bytes : Int) * c' > 2 ^ 48)) || decide (l' < 0) || decide (l' > c')) = false := by
      simp; omega
    have hsz : u.cells.size = i.size := by simpa using hzl
    have hm : (Instr.makeSlice t (ρ l) (ρ c)).run P w = ((newObj (.cells (zeroRow c'.toNat u.cells.toList).toArray e)).run P w).andThen fun b w => .ok (.slice (some ⟨b, 0, none⟩) l'.toNat c'.toNat) w := by
      simp only [Instr.makeSlice, Sem.run_bind, run_underlying_of hu, Result.andThen_ok, hl', hc', asInt, asIntOf, Sem.run_pure, run_typeInfo_of hi, wl, wc, hbig, Bool.false_eq_true, if_false, run_askRoom, run_sizeOf_of hi]
      rw [zeroRow_eq, hsz]
      by_cases h0 : c'.toNat * i.size = 0
      · simp only [if_pos h0, Sem.run_bind, Sem.run_pure, Result.andThen_ok]
        have e0 : Array.range (c'.toNat * i.size) = #[] := by rw [h0]; rfl
        simp only [e0]
        simp [newRow]
      · simp only [if_neg h0, Sem.run_bind, run_zeroValue_of hi hu', Sem.run_pure, Result.andThen_ok]
        simp [newRow, hsz]
    simp only [execOp, Sem.run_bind, hm]
    simpa [andThen_assoc] using hr
  case lookup t m k ok =>
    simp only [lowOp] at hl
    split at hl <;> try (cases hl; done)
    rename_i kt e hu
    split at hl <;> cases hl
    rename_i sk z hsk hz
    obtain ⟨d, hd, hdk⟩ := sk_of hsk
    obtain ⟨i, hi, hiz⟩ := Option.bind_eq_some_iff.1 hz
    simp only [memS, Option.some.injEq] at hs; subst hs
    simp only [Sem.run_bind] at hr
    obtain ⟨⟨es, c⟩, w1, h1, h2⟩ := andThen_ok_of hr
    obtain ⟨rfl, hx⟩ := run_entries h1
    simp only at h2
    split at h2
    case h_2 => simp at h2
    rename_i r hf
    have hl : (Instr.lookup t (ρ m) (ρ k) ok).run P w1 = .ok (lookRes ok z r) w1 := by
      rcases hx with ⟨hx, rfl, rfl⟩ | ⟨q, hx, hq⟩
      · rw [hx]
        simp only [Instr.lookup, Sem.run_bind, run_underlying_of hu, Result.andThen_ok, Sem.run_pure, run_checkKey hd hdk, run_findKey hd hdk hf]
        cases r with
        | none => simp [run_zeroValue_of hi hiz, lookRes]
        | some p => obtain ⟨j, v⟩ := p; simp [lookRes]
      · rw [hx]
        simp only [Instr.lookup, Sem.run_bind, run_underlying_of hu, Result.andThen_ok, Sem.run_pure, run_checkKey hd hdk, hq, run_findKey hd hdk hf]
        cases r with
        | none => simp [run_zeroValue_of hi hiz, lookRes]
        | some p => obtain ⟨j, v⟩ := p; simp [lookRes]
    simp only [execOp, Sem.run_bind, hl, Result.andThen_ok]
    exact h2
  case mapUpdate t m k v =>
    simp only [lowOp] at hl
    split at hl <;> try (cases hl; done)
    rename_i kt e hu
    simp only [Option.map_eq_some_iff] at hl
    obtain ⟨sk, hsk, rfl⟩ := hl
    obtain ⟨d, hd, hdk⟩ := sk_of hsk
    simp only [memS, Option.some.injEq] at hs; subst hs
    exact upd_aux hu hd hdk hr
  case insert t m k v =>
    simp only [lowOp] at hl
    split at hl <;> try (cases hl; done)
    rename_i kt e hu
    simp only [Option.map_eq_some_iff] at hl
    obtain ⟨sk, hsk, rfl⟩ := hl
    obtain ⟨d, hd, hdk⟩ := sk_of hsk
    simp only [memS, Option.some.injEq] at hs; subst hs
    exact upd_aux hu hd hdk hr
  case range t x =>
    simp only [lowOp] at hl
    split at hl <;> cases hl
    · rename_i hu
      simp only [memS, Option.some.injEq] at hs; subst hs
      split at hr
      case h_2 => simp at hr
      rename_i s hx
      simpa [execOp, Instr.range, run_underlying_of hu, hx, andThen_assoc] using hr
    · rename_i k e hu
      simp only [memS, Option.some.injEq] at hs; subst hs
      split at hr
      · rename_i hx
        simpa [execOp, Instr.range, run_underlying_of hu, hx, andThen_assoc] using hr
      · rename_i q hx
        simp only [Sem.run_bind] at hr
        obtain ⟨⟨es, c⟩, w1, h1, h2⟩ := andThen_ok_of hr
        obtain ⟨rfl, hx2⟩ := run_entries h1
        simp at hx2
        simpa [execOp, Instr.range, run_underlying_of hu, hx, andThen_assoc, hx2] using h2
      · simp at hr
  case next it s =>
    simp only [lowOp, Option.some.injEq] at hl; subst hl
    simp only [memS, Option.some.injEq] at hs; subst hs
    have : Instr.next (ρ it) s type = Instr.next (ρ it) s 0 := rfl
    simpa [execOp, this] using hr
  case entry it =>
    simp only [lowOp, Option.some.injEq] at hl; subst hl
    simp only [memS, Option.some.injEq] at hs; subst hs
    simpa [execOp] using hr
  case convert s d x =>
    simp only [lowOp] at hl
    split at hl <;> try (cases hl; done)
    · cases hl; simp [memS] at hs
    · cases hl; simp [memS] at hs
    · rename_i e hus hud
      split at hl <;> cases hl
      rename_i hue
      simp only [memS, Option.some.injEq] at hs; subst hs
      split at hr
      case h_2 => simp at hr
      rename_i b hx
      simpa [execOp, Go.convert, run_underlying_of hus, run_underlying_of hud, hx, run_underlying_of hue] using hr
    · rename_i e hus hud
      split at hl <;> cases hl
      rename_i hue
      simp only [memS, Option.some.injEq] at hs; subst hs
      simp only [Sem.run_bind] at hr
      obtain ⟨b, w1, h1, h2⟩ := andThen_ok_of hr
      have : (Go.convert s d (ρ x)).run P w = .ok b w1 := by
        cases hx : ρ x with
        | slice a n c => rw [hx] at h1; simpa [Go.convert, run_underlying_of hus, run_underlying_of hud, run_underlying_of hue] using h1
        | _ => rw [hx] at h1; simp [Conv.bytesToString] at h1
      simpa [execOp, this] using h2
  case call c =>
    obtain ⟨callee, args, ats⟩ := c
    obtain ⟨args⟩ := args
    obtain ⟨ats⟩ := ats
    simp only [lowOp] at hl
    split at hl
    · split at hl <;> cases hl; simp [memS] at hs
    · cases hl; simp [memS] at hs
    · split at hl <;> try (cases hl; done)
      rename_i x t
      split at hl <;> cases hl <;> simp only [memS] at hs <;> try (cases hs; done)
      rename_i k e hu
      simp only [Option.some.injEq] at hs; subst hs
      simp only [Sem.run_bind] at hr
      obtain ⟨⟨es, c⟩, w1, h1, h2⟩ := andThen_ok_of hr
      obtain ⟨rfl, hx⟩ := run_entries h1
      rcases hx with ⟨hx, rfl, rfl⟩ | ⟨q, hx, hq⟩
      · simpa [execOp, resolve, invoke, Go.builtin, Builtin.len_, run_underlying_of hu, hx, goInt] using h2
      · simpa [execOp, resolve, invoke, Go.builtin, Builtin.len_, run_underlying_of hu, hx, hq, goInt] using h2
    · split at hl <;> try (cases hl; done)
      split at hl <;> cases hl <;> simp [memS] at hs
    · split at hl <;> cases hl; simp [memS] at hs
    · split at hl <;> cases hl; simp [memS] at hs
    · split at hl <;> try (cases hl; done)
      rename_i sx x t xt
      split at hl <;> try (cases hl; done)
      rename_i e hu
      split at hl <;> try (cases hl; done)
      rename_i i z hi hz
      split at hl
      case isFalse =>
        split at hl
        case isFalse => cases hl
        rename_i hq
        cases hl
        obtain ⟨i', u, hi', hu', rfl⟩ := zero_of hz
        rw [hi] at hi'; cases hi'
        obtain ⟨ut, xr, k, hxt, hut⟩ : ∃ ut xr k, xt = ut :: xr ∧ P.underlying ut = some (.int k) := by
          cases xt with
          | nil => simp [isIntL] at hq
          | cons ut xr =>
            simp only [isIntL] at hq
            split at hq
            · rename_i k h; exact ⟨ut, xr, k, rfl, h⟩
            · cases hq
        subst hxt
        simp only [memS, Option.some.injEq] at hs; subst hs
        split at hr
        case h_2 => simp at hr
        rename_i base n0 c0 k0 l hsx hlx
        split at hr
        case isTrue => simp at hr
        rename_i hbad
        have hb0 : ¬ l < 0 := fun h => hbad (.inl h)
        have hb1 : ¬ (l * i.bytes > 2 ^ 48) := fun h => hbad (.inr (.inl h))
        have hb2 : IntKind.i64.wrap l = l := Classical.byContradiction fun h => hbad (.inr (.inr (.inl h)))
        have hsz : i.size ≠ 0 := fun h => hbad (.inr (.inr (.inr h)))
        have happ : ∀ (n : Nat) (w : World), (if n * i.size = 0 then pure #[] else do pure (Builtin.zeroCells (← zeroValue e).cells n) : Sem (Array Value)).run P w = .ok (zeroRow n u.cells.toList).toArray w := by
          intro n w
          by_cases h0 : n * i.size = 0
          · obtain rfl : n = 0 := by
              rcases Nat.mul_eq_zero.1 h0 with h | h
              · exact h
              · exact absurd h hsz
            simp [zeroRow]
          · simp [h0, run_zeroValue_of hi hu', zeroCells_eq]
        have hasint : (asInt (.int k0 l)).run P w = .ok l w := by simp [asInt, asIntOf]
        simp only [execOp, resolve, invoke, Go.builtin, Sem.run_bind, List.map_toArray, List.map_cons, List.map_nil, Sem.run_pure, Result.andThen_ok]
        simp only [Builtin.append_, List.getElem?_toArray, List.getElem?_cons_zero, List.getElem?_cons_succ, Sem.run_bind, run_underlying_of hu, run_underlying_of hut, Result.andThen_ok, hsx, hlx, hasint, Sem.run_pure, run_sizeOf_of hi, if_true, hb2]
        simp only [hb0, if_false, Sem.run_bind, run_typeInfo_of hi, Result.andThen_ok, hb1, Sem.run_pure, Bool.not_true, Bool.false_eq_true]
        by_cases hle : n0 + l.toNat ≤ c0
        · simp only [hle, if_true, Sem.run_bind] at hr ⊢
          rw [happ]
          cases base <;> simpa [andThen_assoc] using hr
        · simp only [hle, if_false] at hr ⊢
          split at hr
          case isTrue => simp at hr
          rename_i hbig
          have g1 : ¬ (Builtin.nextslicecap (n0 + l.toNat) c0 * i.bytes > 2 ^ 48) := fun h => hbig (.inl h)
          have g2 : ¬ (((n0 + l.toNat : Nat) : Int) > IntKind.i64.max) := fun h => hbig (.inr (.inr h))
          simp only [Sem.run_bind, run_typeInfo_of hi, Result.andThen_ok, g2, false_and, g1, if_false, run_askRoom]
          simp only [Sem.run_bind] at hr
          rw [← hsx]
          simp only [happ, Result.andThen_ok]
          simpa [andThen_assoc, newRow, run_zeroValue_of hi hu', ← zeroCells_eq] using hr
      cases hl
      rename_i hq
      obtain ⟨i', u, hi', hu', rfl⟩ := zero_of hz
      rw [hi] at hi'; cases hi'
      obtain ⟨ut, xr, hxt, hseq⟩ : ∃ ut xr, xt = ut :: xr ∧ ((∃ e', P.underlying ut = some (.slice e')) ∨ P.underlying ut = some .string) := by
        cases xt with
        | nil => simp [isSeq] at hq
        | cons ut xr =>
          refine ⟨ut, xr, rfl, ?_⟩
          simp only [isSeq] at hq
          split at hq
          · rename_i e' h; exact .inl ⟨e', h⟩
          · rename_i h; exact .inr h
          · cases hq
      subst hxt
      simp only [memS, Option.some.injEq] at hs; subst hs
      split at hr
      case h_2 => simp at hr
      rename_i base n0 c0 m0 hsx hlx
      have hlen : (Builtin.lenOf (ρ x)).run P w = .ok m0 w := by
        cases hx : ρ x <;> rw [hx] at hlx <;> simp [seqLen] at hlx <;> subst hlx <;> simp [Builtin.lenOf]
      have hz : (do pure ((← underlying ut) matches .int _) : Sem Bool).run P w = .ok false w := by
        rcases hseq with ⟨e', h⟩ | h <;> simp [run_underlying_of h]
      have happ : Builtin.append_ (t :: ut :: xr).toArray type #[ρ sx, ρ x] = Builtin.append_ (t :: ut :: xr).toArray type #[ρ sx, ρ x] := rfl
      simp only [execOp, resolve, invoke, Go.builtin, Sem.run_bind, List.map_toArray, List.map_cons, List.map_nil, Sem.run_pure, Result.andThen_ok]
      simp only [Builtin.append_, List.getElem?_toArray, List.getElem?_cons_zero, List.getElem?_cons_succ, Sem.run_bind, run_underlying_of hu, Result.andThen_ok, hsx, run_sizeOf_of hi]
      simp only [Sem.run_bind, Sem.run_pure] at hz
      have hfirst : ∀ n : Nat, (if (!false) = true then Builtin.firstCells i.size n (ρ x) else if n * i.size = 0 then pure #[] else do pure (Builtin.zeroCells (← zeroValue e).cells n) : Sem (Array Value)) = Builtin.firstCells i.size n (ρ x) := fun _ => rfl
      rcases hseq with ⟨e', hut⟩ | hut
      all_goals
        simp only [run_underlying_of hut, Result.andThen_ok, Sem.run_pure, Bool.false_eq_true, if_false, Sem.run_bind, hlen]
        by_cases hle : n0 + m0 ≤ c0
        · simp only [hle, if_true, Sem.run_bind] at hr ⊢
          simp only [Bool.not_false, if_true]
          cases base <;> simpa [andThen_assoc] using hr
        · simp only [hle, if_false] at hr ⊢
          split at hr
          case isTrue => simp at hr
          rename_i hbig
          have hb1 : ¬ (Builtin.nextslicecap (n0 + m0) c0 * i.bytes > 2 ^ 48) := fun h => hbig (.inl h)
          have hb2 : ¬ (i.bytes = 0) := fun h => hbig (.inr h)
          simp only [Sem.run_bind, run_typeInfo_of hi, Result.andThen_ok, false_or, hb2, and_false, hb1, if_false, Bool.not_false, if_true, run_askRoom, run_zeroValue_of hi hu', ← zeroCells_eq]
          simp only [Sem.run_bind] at hr
          rw [← hsx]
          simpa [andThen_assoc, newRow, run_zeroValue_of hi hu', ← zeroCells_eq] using hr
    · split at hl <;> try (cases hl; done)
      rename_i dx sx t xt
      split at hl <;> try (cases hl; done)
      rename_i e hu
      simp only [Option.map_eq_some_iff] at hl
      obtain ⟨i, hi, rfl⟩ := hl
      simp only [memS, Option.some.injEq] at hs; subst hs
      split at hr
      case h_2 => simp at hr
      rename_i base n0 c0 m0 hdx hlx
      have hlen : (Builtin.lenOf (ρ sx)).run P w = .ok m0 w := by
        cases hx : ρ sx <;> rw [hx] at hlx <;> simp [seqLen] at hlx <;> subst hlx <;> simp [Builtin.lenOf]
      simp only [execOp, resolve, invoke, Go.builtin, Sem.run_bind, List.map_toArray, List.map_cons, List.map_nil, Sem.run_pure, Result.andThen_ok]
      simp only [Builtin.copy_, List.getElem?_toArray, List.getElem?_cons_zero, List.getElem?_cons_succ, Sem.run_bind, run_underlying_of hu, Result.andThen_ok, hdx, run_sizeOf_of hi, hlen]
      simp only [Sem.run_bind] at hr
      cases base <;> simpa [andThen_assoc, goInt] using hr
    · split at hl <;> try (cases hl; done)
      rename_i cx t
      split at hl <;> try (cases hl; done)
      rename_i e hu
      simp only [Option.map_eq_some_iff] at hl
      obtain ⟨z, hz, rfl⟩ := hl
      obtain ⟨i', u, hi', hu', rfl⟩ := zero_of hz
      simp only [memS, Option.some.injEq] at hs; subst hs
      split at hr
      case h_2 => simp at hr
      rename_i base n0 c0 hcx
      simp only [execOp, resolve, invoke, Go.builtin, Sem.run_bind, List.map_toArray, List.map_cons, List.map_nil, Sem.run_pure, Result.andThen_ok]
      simp only [Builtin.clear_, List.getElem?_toArray, List.getElem?_cons_zero, Sem.run_bind, run_underlying_of hu, Result.andThen_ok, hcx]
      cases base with
      | none => simpa using hr
      | some a =>
        cases n0 with
        | zero => simpa [zeroRow, storeCells] using hr
        | succ m => simpa [run_zeroValue_of hi' hu', ← zeroCells_eq, andThen_assoc] using hr
    · split at hl <;> try (cases hl; done)
      rename_i mx kx t xt
      split at hl <;> try (cases hl; done)
      rename_i kt e hu
      simp only [Option.map_eq_some_iff] at hl
      obtain ⟨sk, hsk, rfl⟩ := hl
      obtain ⟨d, hd, hdk⟩ := sk_of hsk
      simp only [memS, Option.some.injEq] at hs; subst hs
      simp only [execOp, resolve, invoke, Go.builtin, Sem.run_bind, List.map_toArray, List.map_cons, List.map_nil, Sem.run_pure, Result.andThen_ok]
      simp only [Builtin.delete_, List.getElem?_toArray, List.getElem?_cons_zero, List.getElem?_cons_succ, Sem.run_bind, run_underlying_of hu, Result.andThen_ok]
      split at hr
      · rename_i q hx
        simp only [Sem.run_bind] at hr
        obtain ⟨⟨es, c⟩, w1, h1, h2⟩ := andThen_ok_of hr
        obtain ⟨rfl, hx2⟩ := run_entries h1
        simp at hx2
        simp only at h2
        split at h2
        · rename_i j v' hf
          simp only [hx, Sem.run_bind, hx2, Result.andThen_ok, run_checkKey hd hdk, run_findKey hd hdk hf]
          simpa [andThen_assoc] using h2
        · rename_i hf
          simp only [hx, Sem.run_bind, hx2, Result.andThen_ok, run_checkKey hd hdk, run_findKey hd hdk hf]
          simpa [andThen_assoc] using h2
        · simp at h2
      · rename_i hx
        simp only [hx, Sem.run_bind, run_checkKey hd hdk, Result.andThen_ok]
        simpa using hr
      · simp at hr
    · cases hl
  all_goals (try simp only [lowOp] at hl)
  all_goals (repeat' split at hl)
  all_goals first
    | (cases hl; done)
    | (cases hl; simp [memS] at hs; done)
    | (simp only [Option.map_eq_some_iff] at hl; obtain ⟨_, _, rfl⟩ := hl; simp [memS] at hs; done)
end
section
variable {P : Program} {ρ : Operand → Value} {H : List Atom} {K : Next → List Atom → Prop}
theorem cellsAt_append (b : Nat) (us vs : List Value) : ∀ o, cellsAt b o (us ++ vs) = cellsAt b o us ++ cellsAt b (o + us.length) vs := by
  induction us with
  | nil => intro o; simp [cellsAt]
  | cons u us ih => intro o; simp only [List.cons_append, cellsAt, ih, List.length_cons]; congr 3; omega
theorem swp_loadFrom {b o : Nat} {K : Array Value → List Atom → Prop} : ∀ (vs : List Value) (i : Nat) (acc : Array Value), (∀ x ∈ cellsAt b (o + i) vs, x ∈ H) → K (acc ++ vs.toArray) H →
    SWP P (loadCellsFrom ⟨b, o, none⟩ i vs.length acc) H K := by
  intro vs
  induction vs with
  | nil => intro i acc _ h; exact SWP.pure (by simpa using h)
  | cons v vs ih =>
    intro i acc hm h
    simp only [List.length_cons, loadCellsFrom, add_off]
    refine SWP.bind (SWP.load (v := v) (hm _ (by simp [cellsAt])) ?_)
    refine ih (i + 1) (acc.push v) (fun x hx => hm x (by simp only [cellsAt, List.mem_cons]; exact .inr hx)) ?_
    have : acc.push v ++ vs.toArray = acc ++ (v :: vs).toArray := by simp
    rw [this]; exact h
theorem SWP.loadCells {b o n : Nat} {vs : List Value} {K : Array Value → List Atom → Prop} (hn : vs.length = n) (hm : ∀ x ∈ cellsAt b o vs, x ∈ H) (h : K vs.toArray H) : SWP P (Go.loadCells ⟨b, o, none⟩ n) H K := by
  subst hn
  exact swp_loadFrom vs 0 #[] (by simpa using hm) (by simpa using h)
theorem swp_storeFrom {b o : Nat} {K : Unit → List Atom → Prop} : ∀ (vs us : List Value) (i : Nat) (L : List Atom), vs.length = us.length → (∀ v ∈ vs, oneCell v = true) →
    (∀ L', L'.Perm (cellsAt b (o + i) vs ++ L) → K () L') → ∀ M : List Atom, M.Perm (cellsAt b (o + i) us ++ L) → SWP P (storeCells ⟨b, o, none⟩ vs i) M K := by
  intro vs
  induction vs with
  | nil =>
    intro us i L hl _ h M hM
    cases us <;> simp at hl
    exact SWP.pure (h M (by simpa [cellsAt] using hM))
  | cons v vs ih =>
    intro us i L hl hone h M hM
    cases us with
    | nil => simp at hl
    | cons u us =>
      simp only [storeCells, add_off]
      refine SWP.perm hM (SWP.bind ?_)
      simp only [cellsAt, List.cons_append]
      refine SWP.store (hone v (by simp)) ?_
      refine ih us (i + 1) (.cell b (o + i) v :: L) (by simpa using hl) (fun x hx => hone x (by simp [hx])) (fun L' hL' => h L' ?_) _ ?_
      · refine hL'.trans ?_
        simp only [cellsAt, List.cons_append, Nat.add_assoc]
        exact List.perm_middle
      · simp only [Nat.add_assoc]
        exact List.perm_middle.symm
theorem SWP.storeCells {b o : Nat} {vs us : List Value} {R : List Atom} {K : Unit → List Atom → Prop} (hl : vs.length = us.length) (hone : ∀ v ∈ vs, oneCell v = true)
    (h : K () (cellsAt b o vs ++ R)) : SWP P (Go.storeCells ⟨b, o, none⟩ vs) (cellsAt b o us ++ R) K := by
  have := swp_storeFrom (P := P) (b := b) (o := o) (K := fun _ L => L.Perm (cellsAt b o vs ++ R)) vs us 0 R hl hone (fun L' hL' => by simpa using hL') (cellsAt b o us ++ R) (by simp)
  intro F w hs
  obtain ⟨v, w', H', h1, h2, h3, h4⟩ := this F w hs
  exact ⟨v, w', _, h1, h, h3.perm (h2.append_right F), h4⟩
def Src (H : List Atom) (size n : Nat) (vs : List Value) : Value → Prop
  | .slice (some ⟨b, o, none⟩) _ _ => vs.length = n * size ∧ ∀ x ∈ cellsAt b o vs, x ∈ H
  | .slice none _ _ => vs = []
  | .string s => vs = (s.data.toList.take n).map fun c => .int .u8 c.toNat
  | _ => False
theorem SWP.firstCells {size n : Nat} {x : Value} {vs : List Value} {K : Array Value → List Atom → Prop} (hx : Src H size n vs x) (h : K vs.toArray H) : SWP P (Builtin.firstCells size n x) H K := by
  unfold Src at hx
  split at hx
  · exact SWP.loadCells hx.1 hx.2 h
  · subst hx; exact SWP.pure h
  · rename_i s
    subst hx
    refine SWP.pure ?_
    have : (s.extract 0 n).data.map (fun b => Value.int .u8 b.toNat) = ((s.data.toList.take n).map fun c => Value.int .u8 c.toNat).toArray := by
      apply Array.toList_inj.1
      simp [ByteArray.data_extract, Array.toList_extract]
    rw [this]; exact h
  · exact hx.elim
theorem mem_store {n : Nat} {x v : Operand} {b o : Nat} {us : List Value} {R : List Atom} (hx : ρ x = .pointer (some ⟨b, o, none⟩)) (hn : (ρ v).cells.size = n) (hu : us.length = n) (hone : ∀ c ∈ (ρ v).cells.toList, oneCell c = true)
    (h : K .skip (cellsAt b o (ρ v).cells.toList ++ R)) :
    SWP P (do let a ← Instr.sureAddr (ρ x); if (ρ v).cells.size = n then (do storeCells a (ρ v).cells.toList; pure .skip) else stuck "size") (cellsAt b o us ++ R) K := by
  rw [hx]
  refine SWP.bind (SWP.pure ?_)
  rw [if_pos hn]
  exact SWP.bind (SWP.storeCells (by simp [hn, hu]) hone (SWP.pure h))
theorem mem_new {c : Array Value} {t : TypeId} {f : Nat → Next} (h : ∀ b, K (f b) (cellsAt b 0 c.toList ++ H)) : SWP P (do let b ← newObj (.cells c t); pure (f b)) H K :=
  SWP.bind (SWP.new_cells fun b => SWP.pure (h b))
theorem mem_newObj {o : Obj} {f : Nat → Next} (ho : isCells o = false) (h : ∀ b, K (f b) (.obj b o :: H)) : SWP P (do let b ← newObj o; pure (f b)) H K :=
  SWP.bind (SWP.new_obj ho fun b => SWP.pure (h b))
theorem swp_entries {m c : Nat} {es : Array MapEntry} {α : Type} {f : Array MapEntry × Nat → Sem α} {K : α → List Atom → Prop} (hm : Atom.obj m (.map es c) ∈ H) (h : SWP P (f (es, c)) H K) : SWP P (entriesOf (.map (some m)) >>= f) H K := by
  refine SWP.bind ?_
  unfold entriesOf
  exact SWP.bind (SWP.getObj hm (SWP.pure h))
theorem swp_key (old new : Value) {K : Value → List Atom → Prop} (h : ∀ k, k = old ∨ k = new → K k H) : SWP P (Instr.keyThatStays old new) H K := by
  unfold Instr.keyThatStays
  split
  · exact SWP.pure (h _ (.inr rfl))
  · refine SWP.bind (SWP.choose (fun _ => SWP.pure ?_) (fun n => SWP.pure ?_))
    · exact h _ (.inr rfl)
    · split
      · exact h _ (.inr rfl)
      · exact h _ (.inl rfl)
end
end Go.V

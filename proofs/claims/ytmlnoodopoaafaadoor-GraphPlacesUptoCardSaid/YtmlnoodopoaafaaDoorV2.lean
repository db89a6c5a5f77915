/-
  What is reckoned is what the model's operation gives.
-/
import Derived.Test.YtmlnoodopoaafaaDoorV1
set_option linter.unusedSimpArgs false
set_option linter.unusedVariables false
namespace Go.V
open Go
section
variable {P : Program} {ρ : Operand → Value} {w : World} {v : Value} {r : R}
theorem zero_of {t : TypeId} {z : List Value} (h : zeroOf P t = some z) : ∃ i u, P.info? t = some i ∧ i.zero = some u ∧ u.cells.toList = z := by
  simp only [zeroOf, Option.map_eq_some_iff, Option.bind_eq_some_iff] at h
  obtain ⟨u, ⟨i, h1, h2⟩, h3⟩ := h
  exact ⟨i, u, h1, h2, h3⟩
theorem run_zeroValue_of {t : TypeId} {i : TypeInfo} {u : Value} (h : P.info? t = some i) (hz : i.zero = some u) : (zeroValue t).run P w = .ok u w := by
  simp [zeroValue, run_typeInfo_of h, hz]
theorem run_places (fs : List Field) (hall : ∀ f ∈ fs, ∃ j, P.info? f.type = some j) : (fs.mapM fun f => do pure (f.offset, ← sizeOf f.type) : Sem (List (Nat × Nat))).run P w = .ok (placesOf P fs) w := by
  induction fs with
  | nil => simp [placesOf]
  | cons f fs ih =>
    obtain ⟨j, hj⟩ := hall f (by simp)
    have := ih (fun g hg => hall g (by simp [hg]))
    simp only [List.mapM_cons, Sem.run_bind, run_sizeOf_of hj, Result.andThen_ok, Sem.run_pure, this]
    simp [placesOf, Program.cellsOf, hj]
theorem isAgg_of {t : TypeId} {d : TypeDesc} (h : P.underlying t = some d) : (isAgg t).run P w = .ok (match d with | .struct _ | .array _ _ => true | _ => false) w := by
  cases d <;> simp [isAgg, run_underlying_of h]
set_option maxHeartbeats 1000000 in
theorem pure_sound {o : Oper} (hρ : ∀ u, ρ (.const u) = u) (hl : lowOp P o.op = some r) (hv : pureV ρ r = some v) : (execOp ρ o).run P w = .ok (.value v) w := by
  obtain ⟨dst, op, type, pos, after, guard⟩ := o
  simp only at hl
  cases op
  case move x => simp [lowOp] at hl; subst hl; simp [pureV] at hv; subst hv; simp [execOp]
  case assign x => simp [lowOp] at hl; subst hl; simp [pureV] at hv; subst hv; simp [execOp]
  case pick c a b =>
    simp [lowOp] at hl; subst hl; simp only [pureV] at hv
    split at hv <;> simp at hv; subst hv
    rename_i t ht
    simp [execOp, ht, asBool]
  case nilCheck x =>
    simp [lowOp] at hl; subst hl; simp only [pureV] at hv
    split at hv <;> simp at hv; subst hv
    rename_i a ha
    simp [execOp, ha]
  case extract x i =>
    simp [lowOp] at hl; subst hl; simp only [pureV] at hv
    split at hv <;> try (cases hv; done)
    rename_i vs hvs
    simp [execOp, Instr.extract, hvs, hv]
  case makeFunc fn f c =>
    simp [lowOp] at hl; subst hl; simp [pureV] at hv; subst hv
    obtain ⟨f⟩ := f; obtain ⟨c⟩ := c
    simp [execOp, Instr.makeFunc]
  case makeInterface t x =>
    simp only [lowOp] at hl
    split at hl <;> try (cases hl; done)
    rename_i d hni hd
    cases hl; simp [pureV] at hv; subst hv
    have : (Instr.makeInterface t (ρ x)).run P w = .ok (.iface t (ρ x)) w := by
      cases d <;> simp_all [Instr.makeInterface, underlying]
    simp [execOp, this]
  case unOp op t x =>
    simp [lowOp] at hl; subst hl
    cases op <;> simp only [pureV] at hv <;> try (cases hv; done)
    all_goals (split at hv <;> try (cases hv; done))
    all_goals (cases hv; rename_i hn; simp [execOp, Op.unary, hn, Op.intArith, Op.intBits])
  case convert s d x =>
    simp only [lowOp] at hl
    split at hl <;> try (cases hl; done)
    · rename_i hs hd
      cases hl; simp only [pureV] at hv
      split at hv <;> cases hv
      rename_i n hn
      simp [execOp, Go.convert, run_underlying_of hs, run_underlying_of hd, hn, Conv.intToInt]
    · rename_i hs hd
      cases hl; simp only [pureV] at hv
      split at hv <;> cases hv
      rename_i n hn
      simp [execOp, Go.convert, run_underlying_of hs, run_underlying_of hd, hn]
    · split at hl <;> cases hl <;> simp [pureV] at hv
    · split at hl <;> cases hl <;> simp [pureV] at hv
  case binOp op t x y yt =>
    have fin : ∀ {u : Value}, (Go.binOp op t (ρ x) (ρ y)).run P w = .ok u w → (eqGuard op t x y (ρ x) (ρ y)).run P w = .ok () w → (execOp ρ ⟨dst, .binOp op t x y yt, type, pos, after, guard⟩).run P w = .ok (.value u) w := by
      intro u h1 h2
      simp [execOp, h1, h2]
    have bin : binV op (ρ x) (ρ y) = some v → (execOp ρ ⟨dst, .binOp op t x y yt, type, pos, after, guard⟩).run P w = .ok (.value v) w := by
      intro h
      refine fin (run_binV h) (run_eqGuard_of ?_ ?_)
      · rintro ⟨h1, h2⟩; rw [h1, h2] at h; simp [binV] at h
      · rintro c d ⟨h1, h2⟩; rw [h1, h2] at h; simp [binV] at h
    simp only [lowOp] at hl
    split at hl
    · cases hl; exact bin hv
    · cases hl; exact bin hv
    · rename_i hd
      split at hl <;> cases hl
      all_goals
        simp only [pureV] at hv
        split at hv <;> cases hv
        rename_i a b ha hb
        refine fin ?_ (run_eqGuard_of (by simp [ha]) (by simp [ha]))
        have : (Op.equal t (.bool a) (.bool b)).run P w = .ok (a == b) w := run_equalIn_scal (n := 9999) hd rfl rfl
        simp [ha, hb, Go.binOp, this]
    · rename_i fs hd
      split at hl <;> try (cases hl; done)
      rename_i hg
      obtain ⟨hg, hst⟩ := hg
      have hfo : P.underlying t = some (.struct (P.fieldsOf t)) := by simp [Program.fieldsOf, hd]
      have hfs : P.fieldsOf t = fs := by simp [Program.fieldsOf, hd]
      split at hl <;> cases hl
      all_goals
        rename_i ks hks
        simp only [pureV] at hv
        split at hv <;> try (cases hv; done)
        rename_i a b ha hb
        split at hv <;> try (cases hv; done)
        simp only [Option.map_eq_some_iff] at hv
        obtain ⟨q, hq, rfl⟩ := hv
        have hr : (Op.equal t (.agg a) (.agg b)).run P w = .ok q w := by
          show (Op.equalIn (9999 + 1) t (.agg a) (.agg b)).run P w = _
          rw [run_equalIn_struct w 9999 t a b hfo hst, hfs]
          exact run_eqFields (n := 9998) fs.toList ks 0 q hks (by simpa using hq)
        refine fin ?_ ?_
        · simp [ha, hb, Go.binOp, hr]
        · rw [ha, hb]; exact run_eqGuard_agg w _ t x y a b hg
    · rename_i d _ _ _ _ hd
      split at hl <;> cases hl
      all_goals
        rename_i k hk
        simp only [pureV, Option.map_eq_some_iff] at hv
        obtain ⟨b, hb, rfl⟩ := hv
      · obtain ⟨u, rfl, h1, h2⟩ := run_isNil (w := w) (xo := x) (op := .eql) (neq := false) hd rfl hb hk
        exact fin (by rw [hρ]; exact h2) (by rw [hρ]; exact h1)
      · obtain ⟨u, rfl, h1, h2⟩ := run_isNil (w := w) (xo := x) (op := .neq) (neq := true) hd rfl hb hk
        exact fin (by rw [hρ]; exact h2) (by rw [hρ]; exact h1)
    · cases hl
  case fieldAddr s x f =>
    simp only [lowOp] at hl
    split at hl <;> try (cases hl; done)
    rename_i fs hs
    split at hl <;> try (cases hl; done)
    rename_i fd hf
    split at hl <;> try (cases hl; done)
    rename_i i hi
    split at hl <;> cases hl
    rename_i hz
    simp only [pureV] at hv
    split at hv <;> cases hv
    rename_i b o hx
    have h1 : (fieldPlace ⟨b, o, none⟩ fd).run P w = .ok ⟨b, o + fd.offset, none⟩ w := by
      simp [fieldPlace, run_sizeOf_of hi, hz, add_off]
    simp [execOp, Instr.fieldAt, run_underlying_of hs, hf, hx, Instr.sureAddr, h1]
  case field s x f =>
    simp only [lowOp] at hl
    split at hl <;> try (cases hl; done)
    rename_i fs hs
    split at hl <;> try (cases hl; done)
    rename_i fd hf
    split at hl <;> cases hl
    · rename_i _ j hu hj
      simp only [pureV] at hv
      split at hv <;> try (cases hv; done)
      rename_i cs hx
      simp at hv; subst hv
      simp [execOp, Instr.field, run_underlying_of hs, hf, hx, asAgg, part, isAgg_of hu, run_sizeOf_of hj]
    · rename_i _ _ j hu hj
      simp only [pureV] at hv
      split at hv <;> try (cases hv; done)
      rename_i cs hx
      simp at hv; subst hv
      simp [execOp, Instr.field, run_underlying_of hs, hf, hx, asAgg, part, isAgg_of hu, run_sizeOf_of hj]
    · rename_i d j h1 h2 hu hj
      simp only [pureV] at hv
      split at hv <;> try (cases hv; done)
      rename_i cs hx
      simp at hv
      have : (isAgg fd.type).run P w = .ok false w := by rw [isAgg_of hu]; cases d <;> simp_all
      simp [execOp, Instr.field, run_underlying_of hs, hf, hx, asAgg, part, this, hv]
  case indexAddr t x i =>
    simp only [lowOp] at hl
    split at hl <;> try (cases hl; done)
    · rename_i n e hs
      simp only [Option.map_eq_some_iff] at hl
      obtain ⟨j, hj, rfl⟩ := hl
      simp only [pureV] at hv
      split at hv <;> try (cases hv; done)
      rename_i b o k m hx hi
      split at hv <;> cases hv
      rename_i hb
      simp [execOp, Instr.indexAt, run_underlying_of hs, hx, hi, asIntOf, Instr.sureAddr, hb, run_sizeOf_of hj, add_off]
    · rename_i e hs
      simp only [Option.map_eq_some_iff] at hl
      obtain ⟨j, hj, rfl⟩ := hl
      simp only [pureV] at hv
      split at hv <;> try (cases hv; done)
      rename_i b o n c k m hx hi
      split at hv <;> cases hv
      rename_i hb
      simp [execOp, Instr.indexAt, run_underlying_of hs, hx, hi, asIntOf, hb, run_sizeOf_of hj, add_off]
  case index t x i =>
    simp only [lowOp] at hl
    split at hl <;> try (cases hl; done)
    · rename_i hs
      cases hl
      simp only [pureV] at hv
      split at hv <;> try (cases hv; done)
      rename_i s k m hx hi
      split at hv <;> try (cases hv; done)
      rename_i h0
      simp only [Option.map_eq_some_iff] at hv
      obtain ⟨b, hb, rfl⟩ := hv
      simp [execOp, Instr.index, run_underlying_of hs, hx, hi, asIntOf, h0, hb]
    · rename_i n e hs
      split at hl <;> cases hl
      · rename_i _ j hu hj
        simp only [pureV] at hv
        split at hv <;> try (cases hv; done)
        rename_i cs k m hx hi
        split at hv <;> try (cases hv; done)
        rename_i hb
        simp at hv; subst hv
        simp [execOp, Instr.index, run_underlying_of hs, hx, hi, asIntOf, hb, run_sizeOf_of hj, part, isAgg_of hu]
      · rename_i _ _ j hu hj
        simp only [pureV] at hv
        split at hv <;> try (cases hv; done)
        rename_i cs k m hx hi
        split at hv <;> try (cases hv; done)
        rename_i hb
        simp at hv; subst hv
        simp [execOp, Instr.index, run_underlying_of hs, hx, hi, asIntOf, hb, run_sizeOf_of hj, part, isAgg_of hu]
      · rename_i d j h1 h2 hu hj
        simp only [pureV] at hv
        split at hv <;> try (cases hv; done)
        rename_i cs k m hx hi
        split at hv <;> try (cases hv; done)
        rename_i hb
        simp at hv
        have : (isAgg e).run P w = .ok false w := by rw [isAgg_of hu]; cases d <;> simp_all
        simp [execOp, Instr.index, run_underlying_of hs, hx, hi, asIntOf, hb, run_sizeOf_of hj, part, this, hv]
  case slice t x lo hi mx =>
    simp only [lowOp] at hl
    split at hl <;> try (cases hl; done)
    · rename_i hs
      split at hl <;> cases hl
      rename_i hmx
      obtain rfl : mx = none := by simpa using hmx
      simp only [pureV] at hv
      split at hv <;> try (cases hv; done)
      rename_i s hx
      simp only [Option.map_eq_some_iff] at hv
      obtain ⟨⟨l, h, m⟩, hb, rfl⟩ := hv
      simp [execOp, Instr.sliceAt, Instr.slice, run_underlying_of hs, hx, run_sliceBounds hb]
    · rename_i e hs
      simp only [Option.map_eq_some_iff] at hl
      obtain ⟨j, hj, rfl⟩ := hl
      simp only [pureV] at hv
      split at hv <;> try (cases hv; done)
      · rename_i b o len cap hx
        simp only [Option.map_eq_some_iff] at hv
        obtain ⟨⟨l, h, m⟩, hb, rfl⟩ := hv
        simp only [execOp, Instr.sliceAt, Instr.slice, Sem.run_bind, run_underlying_of hs, hx, run_sliceBounds hb, run_sizeOf_of hj, Result.andThen_ok, Sem.run_pure, add_off, Option.map_some]
        by_cases e : m = l <;> simp [e]
      · rename_i len cap hx
        simp only [Option.map_eq_some_iff] at hv
        obtain ⟨⟨l, h, m⟩, hb, rfl⟩ := hv
        simp [execOp, Instr.sliceAt, Instr.slice, run_underlying_of hs, hx, run_sliceBounds hb, run_sizeOf_of hj]
    · rename_i n e hs
      split at hl <;> try (cases hl; done)
      rename_i hmx
      obtain rfl : mx = none := by simpa using hmx
      simp only [Option.map_eq_some_iff] at hl
      obtain ⟨j, hj, rfl⟩ := hl
      simp only [pureV] at hv
      split at hv <;> try (cases hv; done)
      rename_i b o hx
      simp only [Option.map_eq_some_iff] at hv
      obtain ⟨⟨l, h, m⟩, hb, rfl⟩ := hv
      simp only [execOp, Instr.sliceAt, Sem.run_bind, run_underlying_of hs, hx, Instr.sureAddr, run_sliceBounds hb, run_sizeOf_of hj, Result.andThen_ok, Sem.run_pure, add_off, Option.map_none]
      by_cases e : m = l <;> simp [e]
  case build t parts =>
    simp only [lowOp] at hl
    split at hl <;> try (cases hl; done)
    · rename_i fs z hs hz
      split at hl <;> try (cases hl; done)
      rename_i hall
      simp only [Option.map_eq_some_iff] at hl
      obtain ⟨l, hlp, rfl⟩ := hl
      obtain ⟨i, u, hi, hu, rfl⟩ := zero_of hz
      simp only [pureV, Option.map_eq_some_iff] at hv
      obtain ⟨out, ho, rfl⟩ := hv
      have hpl : (fs.mapM fun f => do pure (f.offset, ← sizeOf f.type) : Sem (Array (Nat × Nat))).run P w = .ok (placesOf P fs.toList).toArray w := by
        rw [Array.mapM_eq_mapM_toList]
        simp only [Sem.run_map]
        rw [run_places fs.toList (fun f hf => by
          have := List.all_eq_true.1 hall f hf
          exact Option.isSome_iff_exists.1 this)]
        simp
      have hfill := run_fill (ρ := ρ) (fun i => (placesOf P fs.toList)[i]?) parts.toList l u.cells.toList out hlp ho
      have hpe : (fun i : Nat => (placesOf P fs.toList).toArray[i]?) = fun i : Nat => (placesOf P fs.toList)[i]? := by funext i; simp
      have hparts : (parts.map fun p => (p.1, ρ p.2)).toList = parts.toList.map fun p => (p.1, ρ p.2) := by simp
      simp only [Array.toArray_toList] at hfill
      have : (Instr.build t (parts.map fun p => (p.1, ρ p.2))).run P w = .ok (.agg out.toArray) w := by
        simp only [Instr.build, Sem.run_bind, run_zeroValue_of hi hu, Result.andThen_ok, run_underlying_of hs, hpl, hparts]
        rw [hpe]
        simp [hfill]
      simp [execOp, this]
    · rename_i n e z hs hz
      split at hl <;> try (cases hl; done)
      rename_i j hj
      simp only [Option.map_eq_some_iff] at hl
      obtain ⟨l, hlp, rfl⟩ := hl
      obtain ⟨i, u, hi, hu, rfl⟩ := zero_of hz
      simp only [pureV, Option.map_eq_some_iff] at hv
      obtain ⟨out, ho, rfl⟩ := hv
      have hfill := run_fill (ρ := ρ) (fun i => some (i * j.size, j.size)) parts.toList l u.cells.toList out hlp ho
      have hparts : (parts.map fun p => (p.1, ρ p.2)).toList = parts.toList.map fun p => (p.1, ρ p.2) := by simp
      simp only [Array.toArray_toList] at hfill
      have : (Instr.build t (parts.map fun p => (p.1, ρ p.2))).run P w = .ok (.agg out.toArray) w := by
        simp only [Instr.build, Sem.run_bind, run_zeroValue_of hi hu, Result.andThen_ok, run_underlying_of hs, run_sizeOf_of hj, hparts]
        simp [hfill]
      simp [execOp, this]
  case typeAssert x xt t ok =>
    simp only [lowOp] at hl
    split at hl <;> try (cases hl; done)
    rename_i d hni hd
    simp only [Option.map_eq_some_iff, Option.bind_eq_some_iff] at hl
    obtain ⟨z, ⟨i, hi, hz⟩, rfl⟩ := hl
    simp only [pureV] at hv
    split at hv <;> try (cases hv; done)
    · rename_i hx
      split at hv <;> cases hv
      rename_i hok
      have : (Instr.typeAssert .nilIface xt t true).run P w = .ok (.tuple #[z, .bool false]) w := by
        cases d <;> simp_all [Instr.typeAssert, run_zeroValue_of hi hz, underlying]
      simp [execOp, hx, hok, this]
    · rename_i u y hx
      split at hv
      · rename_i hut
        cases hv
        have : (Instr.typeAssert (.iface u y) xt t ok).run P w = .ok (if ok = true then .tuple #[y, .bool true] else y) w := by
          cases d <;> simp_all [Instr.typeAssert, underlying]
        simp [execOp, hx, this]
      · rename_i hut
        split at hv <;> cases hv
        rename_i hok
        have : (Instr.typeAssert (.iface u y) xt t true).run P w = .ok (.tuple #[z, .bool false]) w := by
          cases d <;> simp_all [Instr.typeAssert, run_zeroValue_of hi hz, underlying]
        simp [execOp, hx, hok, this]
  case call c =>
    obtain ⟨callee, args, ats⟩ := c
    obtain ⟨args⟩ := args
    obtain ⟨ats⟩ := ats
    have fin : ∀ {b : Builtin} {s : Sem Value}, callee = .builtin b → (∀ cs, Go.builtin b ats.toArray type cs (args.map ρ).toArray = (do pure (.value (← s)))) → s.run P w = .ok v w →
        (execOp ρ ⟨dst, .call ⟨callee, args.toArray, ats.toArray⟩, type, pos, after, guard⟩).run P w = .ok (.value v) w := by
      rintro b s rfl h1 h2
      simp [execOp, resolve, invoke, h1, h2]
    simp only [lowOp] at hl
    split at hl
    · split at hl <;> cases hl; simp [pureV] at hv
    · cases hl; simp [pureV] at hv
    · split at hl <;> try (cases hl; done)
      rename_i x t
      split at hl <;> cases hl <;> simp only [pureV] at hv <;> try (cases hv; done)
      all_goals (rename_i hd; split at hv <;> cases hv)
      all_goals (rename_i hx; refine fin (s := Builtin.len_ #[t] type #[ρ x]) rfl (fun cs => by simp [Go.builtin]) ?_)
      · simp [Builtin.len_, run_underlying_of hd, hx, goInt]
      · simp [Builtin.len_, run_underlying_of hd, hx, goInt]
    · split at hl <;> try (cases hl; done)
      rename_i x t
      split at hl <;> cases hl <;> simp only [pureV] at hv <;> try (cases hv; done)
      all_goals (rename_i hd; split at hv <;> cases hv)
      all_goals (rename_i hx; refine fin (s := Builtin.cap_ #[t] type #[ρ x]) rfl (fun cs => by simp [Go.builtin]) ?_)
      · simp [Builtin.cap_, run_underlying_of hd, hx, goInt]
    · split at hl <;> cases hl
      rename_i x y
      simp only [pureV] at hv
      split at hv <;> cases hv
      rename_i hx hy
      refine fin (s := Builtin.min_ ats.toArray type #[ρ x, ρ y]) rfl (fun cs => by simp [Go.builtin]) ?_
      simp [Builtin.min_, Builtin.min2, hx, hy]
    · split at hl <;> cases hl
      rename_i x y
      simp only [pureV] at hv
      split at hv <;> cases hv
      rename_i hx hy
      refine fin (s := Builtin.max_ ats.toArray type #[ρ x, ρ y]) rfl (fun cs => by simp [Go.builtin]) ?_
      simp [Builtin.max_, Builtin.max2, hx, hy]
    all_goals (repeat' split at hl)
    all_goals first
      | (cases hl; done)
      | (cases hl; simp [pureV] at hv; done)
      | (simp only [Option.map_eq_some_iff] at hl; obtain ⟨_, _, rfl⟩ := hl; simp [pureV] at hv; done)
  all_goals (try simp only [lowOp] at hl)
  all_goals (repeat' split at hl)
  all_goals first
    | (cases hl; done)
    | (cases hl; simp [pureV] at hv; done)
    | (simp only [Option.map_eq_some_iff] at hl; obtain ⟨_, _, rfl⟩ := hl; simp [pureV] at hv; done)
end
end Go.V

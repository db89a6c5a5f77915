/-
  errors.As at the error types that the program has: closed facts on the model's entries for internal/reflectlite.
-/
import Derived.Test.YtmpdaalhafkgjaaGreatDoorV8
import Derived.Test.YtmpdaalhafkgjaaGreatDoorProg
import Derived.WalkKit
import Derived.LaidEql
import Derived.Stop.Asserts
import Derived.RowKitTokens
import Derived.KernelRfl
set_option linter.unusedSimpArgs false
set_option linter.unusedVariables false
namespace Go.Proofs.YtmpdaalhafkgjaaGreatDoor
open Go Go.RowKit Go.Extern.Stop Go.Stop Go.Extern
set_option maxRecDepth 100000
theorem methodKind (h : Value) (w : World) : (Go.method 408 82 (.agg #[h]) "Kind").run Tryz.prog w = .ok (210, h) w := by kernel_rfl
theorem methodElem (h : Value) (w : World) : (Go.method 408 82 (.agg #[h]) "Elem").run Tryz.prog w = .ok (223, .agg #[h]) w := by kernel_rfl
theorem methodImplements (h : Value) (w : World) : (Go.method 408 82 (.agg #[h]) "Implements").run Tryz.prog w = .ok (224, .agg #[h]) w := by kernel_rfl
theorem methodAssignableTo (h : Value) (w : World) : (Go.method 408 82 (.agg #[h]) "AssignableTo").run Tryz.prog w = .ok (221, .agg #[h]) w := by kernel_rfl
theorem rlm (z : Sem Value) (f : TypeId → Addr → Nat → Nat → Sem Value) (v : Value) :
    ReflectliteValue.method z f #[v] = (do match ← ReflectliteValue.parts v with | none => z | some (t, a, fl) => f t a fl (fl % 32)) := rfl
theorem rls (v x : Value) : ReflectliteValue.set #[v, x] = (do
    let (some (dst, a, fl), some (src, b, _)) := (← ReflectliteValue.parts v, ← ReflectliteValue.parts x)
      | unsupported (.noEntry "extern/(internal/reflectlite.Value).Set.zeroValue")
    if fl / ReflectliteValue.flagAddr % 2 == 0 then unsupported (.noEntry "extern/(internal/reflectlite.Value).Set.unaddressable")
    let val ← loadVar src b
    if ← Rtype.directlyAssignable dst src then storeVar dst a val
    else if ← Rtype.implements dst src then
      if (← Rtype.kind src) == 20 then
        match val with
        | .nilIface => unsupported (.noEntry "extern/reflectlite: a nil value of one interface type handed on as a value of another")
        | _ => storeVar dst a val
      else storeVar dst a (.iface src val)
    else panicString ("reflectlite.Set: value of type " ++ (← Rtype.spelt src) ++ " is not assignable to type " ++ (← Rtype.spelt dst))
    pure (.tuple #[])) := rfl
theorem valueOf48 (t : Addr) (w : World) : (ReflectliteValue.unpack (.iface 48 (.pointer (some t)))).run Tryz.prog w
    = .ok (.agg #[.pointer (some ⟨20, 48, none⟩), .pointer (some ⟨w.heap.size, 0, none⟩), .int .u64 150]) (w.alloc (.cells #[.pointer (some t)] 48)) := by kernel_rfl
theorem type48 (a : Addr) (w : World) : (ReflectliteValue.methodAny (ReflectliteValue.valueError "reflectlite.Value.Type" 0) (fun t _ _ _ => ReflectliteType.toType t) #[.agg #[.pointer (some ⟨20, 48, none⟩), .pointer (some a), .int .u64 150]]).run Tryz.prog w
    = .ok (.iface 82 (.agg #[.pointer (some ⟨20, 48, none⟩)])) w := by kernel_rfl
theorem kind48 (w : World) : ((ReflectliteType.abiMethod fun t => (fun a : Nat => Value.int IntKind.u8 (a : Int)) <$> Rtype.kind t) #[.pointer (some ⟨20, 48, none⟩)]).run Tryz.prog w = .ok (.int .u8 22) w := by kernel_rfl
theorem kind26 (w : World) : ((ReflectliteType.abiMethod fun t => (fun a : Nat => Value.int IntKind.u8 (a : Int)) <$> Rtype.kind t) #[.pointer (some ⟨20, 26, none⟩)]).run Tryz.prog w = .ok (.int .u8 22) w := by kernel_rfl
theorem parts48 (a : Addr) (w : World) : (ReflectliteValue.parts (.agg #[.pointer (some ⟨20, 48, none⟩), .pointer (some a), .int .u64 150])).run Tryz.prog w = .ok (some (48, a, 150)) w := by kernel_rfl
theorem und48 : Tryz.prog.underlying 48 = some (.pointer 26) := by kernel_rfl
theorem isNil48 (a p : Addr) (W : World) (ha : W.cell? a = some (.pointer (some p))) :
    (ReflectliteValue.method (ReflectliteValue.valueError "reflectlite.Value.IsNil" 0) ReflectliteValue.isNil #[.agg #[.pointer (some ⟨20, 48, none⟩), .pointer (some a), .int .u64 150]]).run Tryz.prog W = .ok (.bool false) W := by
  rw [rlm]
  simp only [Sem.run_bind, parts48, Result.andThen]
  simp [ReflectliteValue.isNil, loadVar, isAgg, underlying, und48, ha, Result.andThen]
theorem elem48 (w : World) : (ReflectliteType.method ReflectliteType.elem #[.agg #[.pointer (some ⟨20, 48, none⟩)]]).run Tryz.prog w = .ok (.iface 82 (.agg #[.pointer (some ⟨20, 26, none⟩)])) w := by kernel_rfl
theorem implements26 (w : World) : (ReflectliteType.relation "Implements" ReflectliteType.implements_ #[.agg #[.pointer (some ⟨20, 26, none⟩)], .iface 82 (.agg #[.pointer (some ⟨20, 28, none⟩)])]).run Tryz.prog w = .ok (.bool true) w := by kernel_rfl
theorem elemOf48 (w : World) : (Rtype.elem? 48).run Tryz.prog w = .ok (some 26) w := by kernel_rfl
theorem mk26 (p : Addr) (w : World) : (ReflectliteValue.mk 26 p ReflectliteValue.flagAddr).run Tryz.prog w = .ok (.agg #[.pointer (some ⟨20, 26, none⟩), .pointer (some p), .int .u64 406]) w := by kernel_rfl
theorem elemV48 (a p : Addr) (W : World) (ha : W.cell? a = some (.pointer (some p))) :
    (ReflectliteValue.method (ReflectliteValue.valueError "reflectlite.Value.Elem" 0) ReflectliteValue.elem #[.agg #[.pointer (some ⟨20, 48, none⟩), .pointer (some a), .int .u64 150]]).run Tryz.prog W
      = .ok (.agg #[.pointer (some ⟨20, 26, none⟩), .pointer (some p), .int .u64 406]) W := by
  rw [rlm]
  simp only [Sem.run_bind, parts48, Result.andThen]
  simp [ReflectliteValue.elem, loadVar, isAgg, underlying, und48, ha, Result.andThen, elemOf48, mk26]
theorem parts26a (a : Addr) (w : World) : (ReflectliteValue.parts (.agg #[.pointer (some ⟨20, 26, none⟩), .pointer (some a), .int .u64 406])).run Tryz.prog w = .ok (some (26, a, 406)) w := by kernel_rfl
theorem parts26 (a : Addr) (w : World) : (ReflectliteValue.parts (.agg #[.pointer (some ⟨20, 26, none⟩), .pointer (some a), .int .u64 150])).run Tryz.prog w = .ok (some (26, a, 150)) w := by kernel_rfl
theorem direct26 (w : World) : (Rtype.directlyAssignable 26 26).run Tryz.prog w = .ok true w := by kernel_rfl
theorem valueOf49 (t : Addr) (w : World) : (ReflectliteValue.unpack (.iface 49 (.pointer (some t)))).run Tryz.prog w
    = .ok (.agg #[.pointer (some ⟨20, 49, none⟩), .pointer (some ⟨w.heap.size, 0, none⟩), .int .u64 150]) (w.alloc (.cells #[.pointer (some t)] 49)) := by kernel_rfl
theorem type49 (a : Addr) (w : World) : (ReflectliteValue.methodAny (ReflectliteValue.valueError "reflectlite.Value.Type" 0) (fun t _ _ _ => ReflectliteType.toType t) #[.agg #[.pointer (some ⟨20, 49, none⟩), .pointer (some a), .int .u64 150]]).run Tryz.prog w
    = .ok (.iface 82 (.agg #[.pointer (some ⟨20, 49, none⟩)])) w := by kernel_rfl
theorem kind49 (w : World) : ((ReflectliteType.abiMethod fun t => (fun a : Nat => Value.int IntKind.u8 (a : Int)) <$> Rtype.kind t) #[.pointer (some ⟨20, 49, none⟩)]).run Tryz.prog w = .ok (.int .u8 22) w := by kernel_rfl
theorem kind23 (w : World) : ((ReflectliteType.abiMethod fun t => (fun a : Nat => Value.int IntKind.u8 (a : Int)) <$> Rtype.kind t) #[.pointer (some ⟨20, 23, none⟩)]).run Tryz.prog w = .ok (.int .u8 2) w := by kernel_rfl
theorem parts49 (a : Addr) (w : World) : (ReflectliteValue.parts (.agg #[.pointer (some ⟨20, 49, none⟩), .pointer (some a), .int .u64 150])).run Tryz.prog w = .ok (some (49, a, 150)) w := by kernel_rfl
theorem und49 : Tryz.prog.underlying 49 = some (.pointer 23) := by kernel_rfl
theorem isNil49 (a p : Addr) (W : World) (ha : W.cell? a = some (.pointer (some p))) :
    (ReflectliteValue.method (ReflectliteValue.valueError "reflectlite.Value.IsNil" 0) ReflectliteValue.isNil #[.agg #[.pointer (some ⟨20, 49, none⟩), .pointer (some a), .int .u64 150]]).run Tryz.prog W = .ok (.bool false) W := by
  rw [rlm]
  simp only [Sem.run_bind, parts49, Result.andThen]
  simp [ReflectliteValue.isNil, loadVar, isAgg, underlying, und49, ha, Result.andThen]
theorem elem49 (w : World) : (ReflectliteType.method ReflectliteType.elem #[.agg #[.pointer (some ⟨20, 49, none⟩)]]).run Tryz.prog w = .ok (.iface 82 (.agg #[.pointer (some ⟨20, 23, none⟩)])) w := by kernel_rfl
theorem implements23 (w : World) : (ReflectliteType.relation "Implements" ReflectliteType.implements_ #[.agg #[.pointer (some ⟨20, 23, none⟩)], .iface 82 (.agg #[.pointer (some ⟨20, 28, none⟩)])]).run Tryz.prog w = .ok (.bool true) w := by kernel_rfl
theorem elemOf49 (w : World) : (Rtype.elem? 49).run Tryz.prog w = .ok (some 23) w := by kernel_rfl
theorem mk23 (p : Addr) (w : World) : (ReflectliteValue.mk 23 p ReflectliteValue.flagAddr).run Tryz.prog w = .ok (.agg #[.pointer (some ⟨20, 23, none⟩), .pointer (some p), .int .u64 386]) w := by kernel_rfl
theorem elemV49 (a p : Addr) (W : World) (ha : W.cell? a = some (.pointer (some p))) :
    (ReflectliteValue.method (ReflectliteValue.valueError "reflectlite.Value.Elem" 0) ReflectliteValue.elem #[.agg #[.pointer (some ⟨20, 49, none⟩), .pointer (some a), .int .u64 150]]).run Tryz.prog W
      = .ok (.agg #[.pointer (some ⟨20, 23, none⟩), .pointer (some p), .int .u64 386]) W := by
  rw [rlm]
  simp only [Sem.run_bind, parts49, Result.andThen]
  simp [ReflectliteValue.elem, loadVar, isAgg, underlying, und49, ha, Result.andThen, elemOf49, mk23]
theorem parts23a (a : Addr) (w : World) : (ReflectliteValue.parts (.agg #[.pointer (some ⟨20, 23, none⟩), .pointer (some a), .int .u64 386])).run Tryz.prog w = .ok (some (23, a, 386)) w := by kernel_rfl
theorem parts23 (a : Addr) (w : World) : (ReflectliteValue.parts (.agg #[.pointer (some ⟨20, 23, none⟩), .pointer (some a), .int .u64 130])).run Tryz.prog w = .ok (some (23, a, 130)) w := by kernel_rfl
theorem direct23 (w : World) : (Rtype.directlyAssignable 23 23).run Tryz.prog w = .ok true w := by kernel_rfl
theorem typeOf26 (v : Value) (w : World) : (ReflectliteType.typeOf #[.iface 26 v]).run Tryz.prog w = .ok (.iface 82 (.agg #[.pointer (some ⟨20, 26, none⟩)])) w := by kernel_rfl
theorem assignable26_26 (w : World) : (ReflectliteType.relation "AssignableTo" ReflectliteType.assignableTo #[.agg #[.pointer (some ⟨20, 26, none⟩)], .iface 82 (.agg #[.pointer (some ⟨20, 26, none⟩)])]).run Tryz.prog w = .ok (.bool true) w := by kernel_rfl
theorem assignable26_23 (w : World) : (ReflectliteType.relation "AssignableTo" ReflectliteType.assignableTo #[.agg #[.pointer (some ⟨20, 26, none⟩)], .iface 82 (.agg #[.pointer (some ⟨20, 23, none⟩)])]).run Tryz.prog w = .ok (.bool false) w := by kernel_rfl
theorem valueOf26 (e : Addr) (w : World) : (ReflectliteValue.unpack (.iface 26 (.pointer (some e)))).run Tryz.prog w
    = .ok (.agg #[.pointer (some ⟨20, 26, none⟩), .pointer (some ⟨w.heap.size, 0, none⟩), .int .u64 150]) (w.alloc (.cells #[.pointer (some e)] 26)) := by kernel_rfl
theorem typeOf23 (v : Value) (w : World) : (ReflectliteType.typeOf #[.iface 23 v]).run Tryz.prog w = .ok (.iface 82 (.agg #[.pointer (some ⟨20, 23, none⟩)])) w := by kernel_rfl
theorem assignable23_26 (w : World) : (ReflectliteType.relation "AssignableTo" ReflectliteType.assignableTo #[.agg #[.pointer (some ⟨20, 23, none⟩)], .iface 82 (.agg #[.pointer (some ⟨20, 26, none⟩)])]).run Tryz.prog w = .ok (.bool false) w := by kernel_rfl
theorem assignable23_23 (w : World) : (ReflectliteType.relation "AssignableTo" ReflectliteType.assignableTo #[.agg #[.pointer (some ⟨20, 23, none⟩)], .iface 82 (.agg #[.pointer (some ⟨20, 23, none⟩)])]).run Tryz.prog w = .ok (.bool true) w := by kernel_rfl
theorem valueOf23 (n : Int) (w : World) : (ReflectliteValue.unpack (.iface 23 (.int .i64 n))).run Tryz.prog w
    = .ok (.agg #[.pointer (some ⟨20, 23, none⟩), .pointer (some ⟨w.heap.size, 0, none⟩), .int .u64 130]) (w.alloc (.cells #[.int .i64 n] 23)) := by kernel_rfl
theorem typeOf50 (v : Value) (w : World) : (ReflectliteType.typeOf #[.iface 50 v]).run Tryz.prog w = .ok (.iface 82 (.agg #[.pointer (some ⟨20, 50, none⟩)])) w := by kernel_rfl
theorem assignable50_23 (w : World) : (ReflectliteType.relation "AssignableTo" ReflectliteType.assignableTo #[.agg #[.pointer (some ⟨20, 50, none⟩)], .iface 82 (.agg #[.pointer (some ⟨20, 23, none⟩)])]).run Tryz.prog w = .ok (.bool false) w := by kernel_rfl
theorem ta26_87 (v : Value) (x : TypeId) (w : World) : (Instr.typeAssert (.iface 26 v) x 87 true).run Tryz.prog w = .ok (.tuple #[.nilIface, .bool false]) w := run_typeAssert_lacksB Tryz.underlying87 (by kernel_rfl) (by kernel_rfl) v x w
theorem ta26_90 (v : Value) (x : TypeId) (w : World) : (Instr.typeAssert (.iface 26 v) x 90 true).run Tryz.prog w = .ok (.tuple #[.iface 26 v, .bool true]) w := run_typeAssert_hasB Tryz.underlying90 (by kernel_rfl) v x w
theorem ta26_92 (v : Value) (x : TypeId) (w : World) : (Instr.typeAssert (.iface 26 v) x 92 true).run Tryz.prog w = .ok (.tuple #[.nilIface, .bool false]) w := run_typeAssert_lacksB Tryz.underlying92 (by kernel_rfl) (by kernel_rfl) v x w
theorem ta23_87 (v : Value) (x : TypeId) (w : World) : (Instr.typeAssert (.iface 23 v) x 87 true).run Tryz.prog w = .ok (.tuple #[.nilIface, .bool false]) w := run_typeAssert_lacksB Tryz.underlying87 (by kernel_rfl) (by kernel_rfl) v x w
theorem ta23_90 (v : Value) (x : TypeId) (w : World) : (Instr.typeAssert (.iface 23 v) x 90 true).run Tryz.prog w = .ok (.tuple #[.nilIface, .bool false]) w := run_typeAssert_lacksB Tryz.underlying90 (by kernel_rfl) (by kernel_rfl) v x w
theorem ta23_92 (v : Value) (x : TypeId) (w : World) : (Instr.typeAssert (.iface 23 v) x 92 true).run Tryz.prog w = .ok (.tuple #[.nilIface, .bool false]) w := run_typeAssert_lacksB Tryz.underlying92 (by kernel_rfl) (by kernel_rfl) v x w
theorem ta50_87 (v : Value) (x : TypeId) (w : World) : (Instr.typeAssert (.iface 50 v) x 87 true).run Tryz.prog w = .ok (.tuple #[.nilIface, .bool false]) w := run_typeAssert_lacksB Tryz.underlying87 (by kernel_rfl) (by kernel_rfl) v x w
theorem ta50_90 (v : Value) (x : TypeId) (w : World) : (Instr.typeAssert (.iface 50 v) x 90 true).run Tryz.prog w = .ok (.tuple #[.nilIface, .bool false]) w := run_typeAssert_lacksB Tryz.underlying90 (by kernel_rfl) (by kernel_rfl) v x w
theorem ta50_92 (v : Value) (x : TypeId) (w : World) : (Instr.typeAssert (.iface 50 v) x 92 true).run Tryz.prog w = .ok (.tuple #[.nilIface, .bool false]) w := run_typeAssert_lacksB Tryz.underlying92 (by kernel_rfl) (by kernel_rfl) v x w
theorem methodUnwrap (e : Addr) (w : World) : (Go.method 408 26 (.pointer (some e)) "Unwrap").run Tryz.prog w = .ok (215, .pointer (some e)) w := by kernel_rfl
theorem direct26s (ta b e : Addr) (old : Value) (W : World) (hb : W.cell? b = some (.pointer (some e))) (ht : W.cell? ta = some old) (hf : W.frozen? ta = false) :
    (ReflectliteValue.set #[.agg #[.pointer (some ⟨20, 26, none⟩), .pointer (some ta), .int .u64 406], .agg #[.pointer (some ⟨20, 26, none⟩), .pointer (some b), .int .u64 150]]).run Tryz.prog W
      = .ok (.tuple #[]) (W.setCell ta (.pointer (some e))) := by
  rw [rls]
  simp only [Sem.run_bind, parts26a, parts26, Result.andThen]
  simp [ReflectliteValue.flagAddr, loadVar, isAgg, underlying, Tryz.underlying26, hb, Result.andThen, direct26, storeVar, Value.cells, storeCells, Addr.add]
  rw [run_store Tryz.prog W ta _ _ (by rfl)]
  simp [ht, hf]
set_option maxHeartbeats 4000000 in
theorem as_fail (e t : Addr) (old : Value) (w : World) (hg : w.cell? ⟨0, 0, none⟩ = some (.iface 82 (.agg #[.pointer (some ⟨20, 28, none⟩)]))) (ht0 : w.cell? t = some old) (hf0 : w.frozen? t = false) :
    Calls Tryz.prog 9 #[.iface 26 (.pointer (some e)), .iface 48 (.pointer (some t))] w fun ev w' => ev = .returned (.bool true) ∧ w' = ((((w.alloc (.cells #[.pointer (some t)] 48)).alloc (.cells #[.pointer (some ⟨20, 48, none⟩), .pointer (some ⟨w.heap.size, 0, none⟩), .int .u64 150] 60)).alloc (.cells #[.pointer (some ⟨20, 48, none⟩), .pointer (some ⟨w.heap.size, 0, none⟩), .int .u64 150] 60)).alloc (.cells #[.pointer (some e)] 26)).setCell t (.pointer (some e)) := by
  have h6 := @run_callFunc_extern Tryz.prog 13 _ (fun args => ReflectliteValue.unpack (args.getD 0 (.tuple #[]))) Tryz.func13 (by kernel_rfl) (by kernel_rfl) (by kernel_rfl) (by kernel_rfl)
  have h7 := @run_callFunc_extern Tryz.prog 14 _ (ReflectliteValue.methodAny (ReflectliteValue.valueError "reflectlite.Value.Type" 0) (fun t _ _ _ => ReflectliteType.toType t)) Tryz.func14 (by kernel_rfl) (by kernel_rfl) (by kernel_rfl) (by kernel_rfl)
  have h8 := @run_callFunc_extern Tryz.prog 15 _ (ReflectliteValue.method (ReflectliteValue.valueError "reflectlite.Value.IsNil" 0) ReflectliteValue.isNil) Tryz.func15 (by kernel_rfl) (by kernel_rfl) (by kernel_rfl) (by kernel_rfl)
  have h27 := @run_callFunc_extern Tryz.prog 210 _ (ReflectliteType.abiMethod fun t => do pure (.int .u8 (← Rtype.kind t))) Tryz.func210 (by kernel_rfl) (by kernel_rfl) (by kernel_rfl) (by kernel_rfl)
  have h37 := @run_callFunc_extern Tryz.prog 223 _ (ReflectliteType.method ReflectliteType.elem) Tryz.func223 (by kernel_rfl) (by kernel_rfl) (by kernel_rfl) (by kernel_rfl)
  have h38 := @run_callFunc_extern Tryz.prog 224 _ (ReflectliteType.relation "Implements" ReflectliteType.implements_) Tryz.func224 (by kernel_rfl) (by kernel_rfl) (by kernel_rfl) (by kernel_rfl)
  have h10 := @run_callFunc_extern Tryz.prog 25 _ ReflectliteType.typeOf Tryz.func25 (by kernel_rfl) (by kernel_rfl) (by kernel_rfl) (by kernel_rfl)
  have h35 := @run_callFunc_extern Tryz.prog 221 _ (ReflectliteType.relation "AssignableTo" ReflectliteType.assignableTo) Tryz.func221 (by kernel_rfl) (by kernel_rfl) (by kernel_rfl) (by kernel_rfl)
  have h11 := @run_callFunc_extern Tryz.prog 26 _ (ReflectliteValue.method (ReflectliteValue.valueError "reflectlite.Value.Elem" 0) ReflectliteValue.elem) Tryz.func26 (by kernel_rfl) (by kernel_rfl) (by kernel_rfl) (by kernel_rfl)
  have h12 := @run_callFunc_extern Tryz.prog 27 _ ReflectliteValue.set Tryz.func27 (by kernel_rfl) (by kernel_rfl) (by kernel_rfl) (by kernel_rfl)
  have tO := typeOf26
  have mA := methodAssignableTo
  have a25 := assignable26_26
  have v25 := valueOf26
  have f6 := valueOf48
  have f7 := type48
  have mK := methodKind
  have mE := methodElem
  have mI := methodImplements
  have k27 := kind48
  have k25 := kind26
  have e27 := elem48
  have i25 := implements26
  have n8 := isNil48 ⟨w.heap.size, 0, none⟩ t ((w.alloc (.cells #[.pointer (some t)] 48)).alloc (.cells #[.pointer (some ⟨20, 48, none⟩), .pointer (some ⟨w.heap.size, 0, none⟩), .int .u64 150] 60)) (by simp)
  have hlt : 0 < w.heap.size := by
    rcases Nat.eq_zero_or_pos w.heap.size with h0 | h
    · simp [World.cell?, h0] at hg
    · exact h
  have hg2 : ((w.alloc (.cells #[.pointer (some t)] 48)).alloc (.cells #[.pointer (some ⟨20, 48, none⟩), .pointer (some ⟨w.heap.size, 0, none⟩), .int .u64 150] 60)).cell? ⟨0, 0, none⟩ = some (.iface 82 (.agg #[.pointer (some ⟨20, 28, none⟩)])) := by
    rw [World.cell?_alloc_lt _ _ ⟨0, 0, none⟩ (by simp), World.cell?_alloc_lt _ _ ⟨0, 0, none⟩ hlt]; exact hg
  have htl : t.block < w.heap.size := by
    rcases Nat.lt_or_ge t.block w.heap.size with h | h
    · exact h
    · simp [World.cell?, Array.getElem?_eq_none h] at ht0
  have el := elemV48 ⟨w.heap.size, 0, none⟩ t (((w.alloc (.cells #[.pointer (some t)] 48)).alloc (.cells #[.pointer (some ⟨20, 48, none⟩), .pointer (some ⟨w.heap.size, 0, none⟩), .int .u64 150] 60)).alloc (.cells #[.pointer (some ⟨20, 48, none⟩), .pointer (some ⟨w.heap.size, 0, none⟩), .int .u64 150] 60)) (by rw [World.cell?_alloc_lt _ _ ⟨w.heap.size, 0, none⟩ (by simp; omega)]; simp)
  have st := direct26s t ⟨w.heap.size + 1 + 1 + 1, 0, none⟩ e old ((((w.alloc (.cells #[.pointer (some t)] 48)).alloc (.cells #[.pointer (some ⟨20, 48, none⟩), .pointer (some ⟨w.heap.size, 0, none⟩), .int .u64 150] 60)).alloc (.cells #[.pointer (some ⟨20, 48, none⟩), .pointer (some ⟨w.heap.size, 0, none⟩), .int .u64 150] 60)).alloc (.cells #[.pointer (some e)] 26))
    (by rw [World.cell?_alloc_at _ _ _ _ (by simp)]; rfl)
    (by rw [World.cell?_alloc_lt _ _ t (by simp; omega), World.cell?_alloc_lt _ _ t (by simp; omega), World.cell?_alloc_lt _ _ t (by simp; omega), World.cell?_alloc_lt _ _ t htl]; exact ht0)
    (by rw [World.frozen?_alloc_old _ _ t (by simp; omega), World.frozen?_alloc_old _ _ t (by simp; omega), World.frozen?_alloc_old _ _ t (by simp; omega), World.frozen?_alloc_old _ _ t (Nat.ne_of_lt htl)]; exact hf0)
  go_enter Tryz.func9, Tryz.ntmps9
  go_wp2
  refine wp_loop_rounds 1 ?_
  rw [rounds_succ]
  go_wp2
  go_ret
  exact ⟨rfl, rfl⟩
theorem direct23s (ta b : Addr) (n : Int) (old : Value) (W : World) (hb : W.cell? b = some (.int .i64 n)) (ht : W.cell? ta = some old) (hf : W.frozen? ta = false) :
    (ReflectliteValue.set #[.agg #[.pointer (some ⟨20, 23, none⟩), .pointer (some ta), .int .u64 386], .agg #[.pointer (some ⟨20, 23, none⟩), .pointer (some b), .int .u64 130]]).run Tryz.prog W
      = .ok (.tuple #[]) (W.setCell ta (.int .i64 n)) := by
  rw [rls]
  simp only [Sem.run_bind, parts23a, parts23, Result.andThen]
  simp [ReflectliteValue.flagAddr, loadVar, isAgg, underlying, Tryz.underlying23, hb, Result.andThen, direct23, storeVar, Value.cells, storeCells, Addr.add]
  rw [run_store Tryz.prog W ta _ _ (by rfl)]
  simp [ht, hf]
set_option maxHeartbeats 4000000 in
theorem as_num (n : Int) (t : Addr) (old : Value) (w : World) (hg : w.cell? ⟨0, 0, none⟩ = some (.iface 82 (.agg #[.pointer (some ⟨20, 28, none⟩)]))) (ht0 : w.cell? t = some old) (hf0 : w.frozen? t = false) :
    Calls Tryz.prog 9 #[.iface 23 (.int .i64 n), .iface 49 (.pointer (some t))] w fun ev w' => ev = .returned (.bool true) ∧ w' = ((((w.alloc (.cells #[.pointer (some t)] 49)).alloc (.cells #[.pointer (some ⟨20, 49, none⟩), .pointer (some ⟨w.heap.size, 0, none⟩), .int .u64 150] 60)).alloc (.cells #[.pointer (some ⟨20, 49, none⟩), .pointer (some ⟨w.heap.size, 0, none⟩), .int .u64 150] 60)).alloc (.cells #[.int .i64 n] 23)).setCell t (.int .i64 n) := by
  have h6 := @run_callFunc_extern Tryz.prog 13 _ (fun args => ReflectliteValue.unpack (args.getD 0 (.tuple #[]))) Tryz.func13 (by kernel_rfl) (by kernel_rfl) (by kernel_rfl) (by kernel_rfl)
  have h7 := @run_callFunc_extern Tryz.prog 14 _ (ReflectliteValue.methodAny (ReflectliteValue.valueError "reflectlite.Value.Type" 0) (fun t _ _ _ => ReflectliteType.toType t)) Tryz.func14 (by kernel_rfl) (by kernel_rfl) (by kernel_rfl) (by kernel_rfl)
  have h8 := @run_callFunc_extern Tryz.prog 15 _ (ReflectliteValue.method (ReflectliteValue.valueError "reflectlite.Value.IsNil" 0) ReflectliteValue.isNil) Tryz.func15 (by kernel_rfl) (by kernel_rfl) (by kernel_rfl) (by kernel_rfl)
  have h27 := @run_callFunc_extern Tryz.prog 210 _ (ReflectliteType.abiMethod fun t => do pure (.int .u8 (← Rtype.kind t))) Tryz.func210 (by kernel_rfl) (by kernel_rfl) (by kernel_rfl) (by kernel_rfl)
  have h37 := @run_callFunc_extern Tryz.prog 223 _ (ReflectliteType.method ReflectliteType.elem) Tryz.func223 (by kernel_rfl) (by kernel_rfl) (by kernel_rfl) (by kernel_rfl)
  have h38 := @run_callFunc_extern Tryz.prog 224 _ (ReflectliteType.relation "Implements" ReflectliteType.implements_) Tryz.func224 (by kernel_rfl) (by kernel_rfl) (by kernel_rfl) (by kernel_rfl)
  have h10 := @run_callFunc_extern Tryz.prog 25 _ ReflectliteType.typeOf Tryz.func25 (by kernel_rfl) (by kernel_rfl) (by kernel_rfl) (by kernel_rfl)
  have h35 := @run_callFunc_extern Tryz.prog 221 _ (ReflectliteType.relation "AssignableTo" ReflectliteType.assignableTo) Tryz.func221 (by kernel_rfl) (by kernel_rfl) (by kernel_rfl) (by kernel_rfl)
  have h11 := @run_callFunc_extern Tryz.prog 26 _ (ReflectliteValue.method (ReflectliteValue.valueError "reflectlite.Value.Elem" 0) ReflectliteValue.elem) Tryz.func26 (by kernel_rfl) (by kernel_rfl) (by kernel_rfl) (by kernel_rfl)
  have h12 := @run_callFunc_extern Tryz.prog 27 _ ReflectliteValue.set Tryz.func27 (by kernel_rfl) (by kernel_rfl) (by kernel_rfl) (by kernel_rfl)
  have tO := typeOf23
  have mA := methodAssignableTo
  have a25 := assignable23_23
  have v25 := valueOf23
  have f6 := valueOf49
  have f7 := type49
  have mK := methodKind
  have mE := methodElem
  have mI := methodImplements
  have k27 := kind49
  have k25 := kind23
  have e27 := elem49
  have i25 := implements23
  have n8 := isNil49 ⟨w.heap.size, 0, none⟩ t ((w.alloc (.cells #[.pointer (some t)] 49)).alloc (.cells #[.pointer (some ⟨20, 49, none⟩), .pointer (some ⟨w.heap.size, 0, none⟩), .int .u64 150] 60)) (by simp)
  have hlt : 0 < w.heap.size := by
    rcases Nat.eq_zero_or_pos w.heap.size with h0 | h
    · simp [World.cell?, h0] at hg
    · exact h
  have hg2 : ((w.alloc (.cells #[.pointer (some t)] 49)).alloc (.cells #[.pointer (some ⟨20, 49, none⟩), .pointer (some ⟨w.heap.size, 0, none⟩), .int .u64 150] 60)).cell? ⟨0, 0, none⟩ = some (.iface 82 (.agg #[.pointer (some ⟨20, 28, none⟩)])) := by
    rw [World.cell?_alloc_lt _ _ ⟨0, 0, none⟩ (by simp), World.cell?_alloc_lt _ _ ⟨0, 0, none⟩ hlt]; exact hg
  have htl : t.block < w.heap.size := by
    rcases Nat.lt_or_ge t.block w.heap.size with h | h
    · exact h
    · simp [World.cell?, Array.getElem?_eq_none h] at ht0
  have el := elemV49 ⟨w.heap.size, 0, none⟩ t (((w.alloc (.cells #[.pointer (some t)] 49)).alloc (.cells #[.pointer (some ⟨20, 49, none⟩), .pointer (some ⟨w.heap.size, 0, none⟩), .int .u64 150] 60)).alloc (.cells #[.pointer (some ⟨20, 49, none⟩), .pointer (some ⟨w.heap.size, 0, none⟩), .int .u64 150] 60)) (by rw [World.cell?_alloc_lt _ _ ⟨w.heap.size, 0, none⟩ (by simp; omega)]; simp)
  have st := direct23s t ⟨w.heap.size + 1 + 1 + 1, 0, none⟩ n old ((((w.alloc (.cells #[.pointer (some t)] 49)).alloc (.cells #[.pointer (some ⟨20, 49, none⟩), .pointer (some ⟨w.heap.size, 0, none⟩), .int .u64 150] 60)).alloc (.cells #[.pointer (some ⟨20, 49, none⟩), .pointer (some ⟨w.heap.size, 0, none⟩), .int .u64 150] 60)).alloc (.cells #[.int .i64 n] 23))
    (by rw [World.cell?_alloc_at _ _ _ _ (by simp)]; rfl)
    (by rw [World.cell?_alloc_lt _ _ t (by simp; omega), World.cell?_alloc_lt _ _ t (by simp; omega), World.cell?_alloc_lt _ _ t (by simp; omega), World.cell?_alloc_lt _ _ t htl]; exact ht0)
    (by rw [World.frozen?_alloc_old _ _ t (by simp; omega), World.frozen?_alloc_old _ _ t (by simp; omega), World.frozen?_alloc_old _ _ t (by simp; omega), World.frozen?_alloc_old _ _ t (Nat.ne_of_lt htl)]; exact hf0)
  go_enter Tryz.func9, Tryz.ntmps9
  go_wp2
  refine wp_loop_rounds 1 ?_
  rw [rounds_succ]
  go_wp2
  go_ret
  exact ⟨rfl, rfl⟩
theorem direct23t (ta b : Addr) (n : Int) (old : Value) (W : World) (hb : W.cell? b = some (.int .i64 n)) (ht : W.cell? ta = some old) (hf : W.frozen? ta = false) :
    (ReflectliteValue.set #[.agg #[.pointer (some ⟨20, 23, none⟩), .pointer (some ta), .int .u64 386], .agg #[.pointer (some ⟨20, 23, none⟩), .pointer (some b), .int .u64 130]]).run Tryz.prog W
      = .ok (.tuple #[]) (W.setCell ta (.int .i64 n)) := by
  rw [rls]
  simp only [Sem.run_bind, parts23a, parts23, Result.andThen]
  simp [ReflectliteValue.flagAddr, loadVar, isAgg, underlying, Tryz.underlying23, hb, Result.andThen, direct23, storeVar, Value.cells, storeCells, Addr.add]
  rw [run_store Tryz.prog W ta _ _ (by rfl)]
  simp [ht, hf]
set_option maxHeartbeats 4000000 in
theorem as_in (e t : Addr) (n : Int) (old : Value) (w : World) (hg : w.cell? ⟨0, 0, none⟩ = some (.iface 82 (.agg #[.pointer (some ⟨20, 28, none⟩)]))) (ht0 : w.cell? t = some old) (hf0 : w.frozen? t = false) (he : w.cell? ⟨e.block, e.off + 2, none⟩ = some (.iface 23 (.int .i64 n))) (hes : e.spot = none) :
    Calls Tryz.prog 9 #[.iface 26 (.pointer (some e)), .iface 49 (.pointer (some t))] w fun ev w' => ev = .returned (.bool true) ∧ w' = ((((w.alloc (.cells #[.pointer (some t)] 49)).alloc (.cells #[.pointer (some ⟨20, 49, none⟩), .pointer (some ⟨w.heap.size, 0, none⟩), .int .u64 150] 60)).alloc (.cells #[.pointer (some ⟨20, 49, none⟩), .pointer (some ⟨w.heap.size, 0, none⟩), .int .u64 150] 60)).alloc (.cells #[.int .i64 n] 23)).setCell t (.int .i64 n) := by
  have h6 := @run_callFunc_extern Tryz.prog 13 _ (fun args => ReflectliteValue.unpack (args.getD 0 (.tuple #[]))) Tryz.func13 (by kernel_rfl) (by kernel_rfl) (by kernel_rfl) (by kernel_rfl)
  have h7 := @run_callFunc_extern Tryz.prog 14 _ (ReflectliteValue.methodAny (ReflectliteValue.valueError "reflectlite.Value.Type" 0) (fun t _ _ _ => ReflectliteType.toType t)) Tryz.func14 (by kernel_rfl) (by kernel_rfl) (by kernel_rfl) (by kernel_rfl)
  have h8 := @run_callFunc_extern Tryz.prog 15 _ (ReflectliteValue.method (ReflectliteValue.valueError "reflectlite.Value.IsNil" 0) ReflectliteValue.isNil) Tryz.func15 (by kernel_rfl) (by kernel_rfl) (by kernel_rfl) (by kernel_rfl)
  have h27 := @run_callFunc_extern Tryz.prog 210 _ (ReflectliteType.abiMethod fun t => do pure (.int .u8 (← Rtype.kind t))) Tryz.func210 (by kernel_rfl) (by kernel_rfl) (by kernel_rfl) (by kernel_rfl)
  have h37 := @run_callFunc_extern Tryz.prog 223 _ (ReflectliteType.method ReflectliteType.elem) Tryz.func223 (by kernel_rfl) (by kernel_rfl) (by kernel_rfl) (by kernel_rfl)
  have h38 := @run_callFunc_extern Tryz.prog 224 _ (ReflectliteType.relation "Implements" ReflectliteType.implements_) Tryz.func224 (by kernel_rfl) (by kernel_rfl) (by kernel_rfl) (by kernel_rfl)
  have h10 := @run_callFunc_extern Tryz.prog 25 _ ReflectliteType.typeOf Tryz.func25 (by kernel_rfl) (by kernel_rfl) (by kernel_rfl) (by kernel_rfl)
  have h35 := @run_callFunc_extern Tryz.prog 221 _ (ReflectliteType.relation "AssignableTo" ReflectliteType.assignableTo) Tryz.func221 (by kernel_rfl) (by kernel_rfl) (by kernel_rfl) (by kernel_rfl)
  have h11 := @run_callFunc_extern Tryz.prog 26 _ (ReflectliteValue.method (ReflectliteValue.valueError "reflectlite.Value.Elem" 0) ReflectliteValue.elem) Tryz.func26 (by kernel_rfl) (by kernel_rfl) (by kernel_rfl) (by kernel_rfl)
  have h12 := @run_callFunc_extern Tryz.prog 27 _ ReflectliteValue.set Tryz.func27 (by kernel_rfl) (by kernel_rfl) (by kernel_rfl) (by kernel_rfl)
  have tO := typeOf26
  have tO2 := typeOf23
  have ta26x87 := ta26_87
  have ta26x90 := ta26_90
  have ta26x92 := ta26_92
  have mU := methodUnwrap
  have mA := methodAssignableTo
  have a25 := assignable26_23
  have a26 := assignable23_23
  have v25 := valueOf23
  have f6 := valueOf49
  have f7 := type49
  have mK := methodKind
  have mE := methodElem
  have mI := methodImplements
  have k27 := kind49
  have k25 := kind23
  have e27 := elem49
  have i25 := implements23
  have n8 := isNil49 ⟨w.heap.size, 0, none⟩ t ((w.alloc (.cells #[.pointer (some t)] 49)).alloc (.cells #[.pointer (some ⟨20, 49, none⟩), .pointer (some ⟨w.heap.size, 0, none⟩), .int .u64 150] 60)) (by simp)
  have hlt : 0 < w.heap.size := by
    rcases Nat.eq_zero_or_pos w.heap.size with h0 | h
    · simp [World.cell?, h0] at hg
    · exact h
  have hg2 : ((w.alloc (.cells #[.pointer (some t)] 49)).alloc (.cells #[.pointer (some ⟨20, 49, none⟩), .pointer (some ⟨w.heap.size, 0, none⟩), .int .u64 150] 60)).cell? ⟨0, 0, none⟩ = some (.iface 82 (.agg #[.pointer (some ⟨20, 28, none⟩)])) := by
    rw [World.cell?_alloc_lt _ _ ⟨0, 0, none⟩ (by simp), World.cell?_alloc_lt _ _ ⟨0, 0, none⟩ hlt]; exact hg
  have htl : t.block < w.heap.size := by
    rcases Nat.lt_or_ge t.block w.heap.size with h | h
    · exact h
    · simp [World.cell?, Array.getElem?_eq_none h] at ht0
  have el := elemV49 ⟨w.heap.size, 0, none⟩ t (((w.alloc (.cells #[.pointer (some t)] 49)).alloc (.cells #[.pointer (some ⟨20, 49, none⟩), .pointer (some ⟨w.heap.size, 0, none⟩), .int .u64 150] 60)).alloc (.cells #[.pointer (some ⟨20, 49, none⟩), .pointer (some ⟨w.heap.size, 0, none⟩), .int .u64 150] 60)) (by rw [World.cell?_alloc_lt _ _ ⟨w.heap.size, 0, none⟩ (by simp; omega)]; simp)
  have st := direct23t t ⟨w.heap.size + 1 + 1 + 1, 0, none⟩ n old ((((w.alloc (.cells #[.pointer (some t)] 49)).alloc (.cells #[.pointer (some ⟨20, 49, none⟩), .pointer (some ⟨w.heap.size, 0, none⟩), .int .u64 150] 60)).alloc (.cells #[.pointer (some ⟨20, 49, none⟩), .pointer (some ⟨w.heap.size, 0, none⟩), .int .u64 150] 60)).alloc (.cells #[.int .i64 n] 23))
    (by rw [World.cell?_alloc_at _ _ _ _ (by simp)]; rfl)
    (by rw [World.cell?_alloc_lt _ _ t (by simp; omega), World.cell?_alloc_lt _ _ t (by simp; omega), World.cell?_alloc_lt _ _ t (by simp; omega), World.cell?_alloc_lt _ _ t htl]; exact ht0)
    (by rw [World.frozen?_alloc_old _ _ t (by simp; omega), World.frozen?_alloc_old _ _ t (by simp; omega), World.frozen?_alloc_old _ _ t (by simp; omega), World.frozen?_alloc_old _ _ t (Nat.ne_of_lt htl)]; exact hf0)
  have hexl : e.block < w.heap.size := by
    rcases Nat.lt_or_ge e.block w.heap.size with h | h
    · exact h
    · simp [World.cell?, Array.getElem?_eq_none h] at he
  have hex : (((w.alloc (.cells #[.pointer (some t)] 49)).alloc (.cells #[.pointer (some ⟨20, 49, none⟩), .pointer (some ⟨w.heap.size, 0, none⟩), .int .u64 150] 60)).alloc (.cells #[.pointer (some ⟨20, 49, none⟩), .pointer (some ⟨w.heap.size, 0, none⟩), .int .u64 150] 60)).cell? ⟨e.block, e.off + 2, none⟩ = some (.iface 23 (.int .i64 n)) := by
    rw [World.cell?_alloc_lt _ _ ⟨e.block, e.off + 2, none⟩ (by simp; omega), World.cell?_alloc_lt _ _ ⟨e.block, e.off + 2, none⟩ (by simp; omega), World.cell?_alloc_lt _ _ ⟨e.block, e.off + 2, none⟩ hexl]; exact he
  go_enter Tryz.func9, Tryz.ntmps9
  go_wp2
  refine wp_loop_rounds 2 ?_
  rw [rounds_succ]
  go_wp2
  rw [rounds_succ]
  go_wp2
  go_ret
  exact ⟨rfl, rfl⟩
set_option maxHeartbeats 4000000 in
theorem as_miss (n : Int) (t : Addr) (old : Value) (w : World) (hg : w.cell? ⟨0, 0, none⟩ = some (.iface 82 (.agg #[.pointer (some ⟨20, 28, none⟩)]))) (ht0 : w.cell? t = some old) (hf0 : w.frozen? t = false) :
    Calls Tryz.prog 9 #[.iface 23 (.int .i64 n), .iface 48 (.pointer (some t))] w fun ev w' => ev = .returned (.bool false) ∧ w' = (((w.alloc (.cells #[.pointer (some t)] 48)).alloc (.cells #[.pointer (some ⟨20, 48, none⟩), .pointer (some ⟨w.heap.size, 0, none⟩), .int .u64 150] 60)).alloc (.cells #[.pointer (some ⟨20, 48, none⟩), .pointer (some ⟨w.heap.size, 0, none⟩), .int .u64 150] 60)) := by
  have h6 := @run_callFunc_extern Tryz.prog 13 _ (fun args => ReflectliteValue.unpack (args.getD 0 (.tuple #[]))) Tryz.func13 (by kernel_rfl) (by kernel_rfl) (by kernel_rfl) (by kernel_rfl)
  have h7 := @run_callFunc_extern Tryz.prog 14 _ (ReflectliteValue.methodAny (ReflectliteValue.valueError "reflectlite.Value.Type" 0) (fun t _ _ _ => ReflectliteType.toType t)) Tryz.func14 (by kernel_rfl) (by kernel_rfl) (by kernel_rfl) (by kernel_rfl)
  have h8 := @run_callFunc_extern Tryz.prog 15 _ (ReflectliteValue.method (ReflectliteValue.valueError "reflectlite.Value.IsNil" 0) ReflectliteValue.isNil) Tryz.func15 (by kernel_rfl) (by kernel_rfl) (by kernel_rfl) (by kernel_rfl)
  have h27 := @run_callFunc_extern Tryz.prog 210 _ (ReflectliteType.abiMethod fun t => do pure (.int .u8 (← Rtype.kind t))) Tryz.func210 (by kernel_rfl) (by kernel_rfl) (by kernel_rfl) (by kernel_rfl)
  have h37 := @run_callFunc_extern Tryz.prog 223 _ (ReflectliteType.method ReflectliteType.elem) Tryz.func223 (by kernel_rfl) (by kernel_rfl) (by kernel_rfl) (by kernel_rfl)
  have h38 := @run_callFunc_extern Tryz.prog 224 _ (ReflectliteType.relation "Implements" ReflectliteType.implements_) Tryz.func224 (by kernel_rfl) (by kernel_rfl) (by kernel_rfl) (by kernel_rfl)
  have h10 := @run_callFunc_extern Tryz.prog 25 _ ReflectliteType.typeOf Tryz.func25 (by kernel_rfl) (by kernel_rfl) (by kernel_rfl) (by kernel_rfl)
  have h35 := @run_callFunc_extern Tryz.prog 221 _ (ReflectliteType.relation "AssignableTo" ReflectliteType.assignableTo) Tryz.func221 (by kernel_rfl) (by kernel_rfl) (by kernel_rfl) (by kernel_rfl)
  have h11 := @run_callFunc_extern Tryz.prog 26 _ (ReflectliteValue.method (ReflectliteValue.valueError "reflectlite.Value.Elem" 0) ReflectliteValue.elem) Tryz.func26 (by kernel_rfl) (by kernel_rfl) (by kernel_rfl) (by kernel_rfl)
  have h12 := @run_callFunc_extern Tryz.prog 27 _ ReflectliteValue.set Tryz.func27 (by kernel_rfl) (by kernel_rfl) (by kernel_rfl) (by kernel_rfl)
  have tO := typeOf23
  have ta23x87 := ta23_87
  have ta23x90 := ta23_90
  have ta23x92 := ta23_92
  have mA := methodAssignableTo
  have a25 := assignable23_26
  have f6 := valueOf48
  have f7 := type48
  have mK := methodKind
  have mE := methodElem
  have mI := methodImplements
  have k27 := kind48
  have k25 := kind26
  have e27 := elem48
  have i25 := implements26
  have n8 := isNil48 ⟨w.heap.size, 0, none⟩ t ((w.alloc (.cells #[.pointer (some t)] 48)).alloc (.cells #[.pointer (some ⟨20, 48, none⟩), .pointer (some ⟨w.heap.size, 0, none⟩), .int .u64 150] 60)) (by simp)
  have hlt : 0 < w.heap.size := by
    rcases Nat.eq_zero_or_pos w.heap.size with h0 | h
    · simp [World.cell?, h0] at hg
    · exact h
  have hg2 : ((w.alloc (.cells #[.pointer (some t)] 48)).alloc (.cells #[.pointer (some ⟨20, 48, none⟩), .pointer (some ⟨w.heap.size, 0, none⟩), .int .u64 150] 60)).cell? ⟨0, 0, none⟩ = some (.iface 82 (.agg #[.pointer (some ⟨20, 28, none⟩)])) := by
    rw [World.cell?_alloc_lt _ _ ⟨0, 0, none⟩ (by simp), World.cell?_alloc_lt _ _ ⟨0, 0, none⟩ hlt]; exact hg
  have htl : t.block < w.heap.size := by
    rcases Nat.lt_or_ge t.block w.heap.size with h | h
    · exact h
    · simp [World.cell?, Array.getElem?_eq_none h] at ht0
  go_enter Tryz.func9, Tryz.ntmps9
  go_wp2
  refine wp_loop_rounds 1 ?_
  rw [rounds_succ]
  go_wp2
  go_ret
  exact ⟨rfl, rfl⟩
theorem direct23u (ta b : Addr) (n : Int) (old : Value) (W : World) (hb : W.cell? b = some (.int .i64 n)) (ht : W.cell? ta = some old) (hf : W.frozen? ta = false) :
    (ReflectliteValue.set #[.agg #[.pointer (some ⟨20, 23, none⟩), .pointer (some ta), .int .u64 386], .agg #[.pointer (some ⟨20, 23, none⟩), .pointer (some b), .int .u64 130]]).run Tryz.prog W
      = .ok (.tuple #[]) (W.setCell ta (.int .i64 n)) := by
  rw [rls]
  simp only [Sem.run_bind, parts23a, parts23, Result.andThen]
  simp [ReflectliteValue.flagAddr, loadVar, isAgg, underlying, Tryz.underlying23, hb, Result.andThen, direct23, storeVar, Value.cells, storeCells, Addr.add]
  rw [run_store Tryz.prog W ta _ _ (by rfl)]
  simp [ht, hf]
set_option maxHeartbeats 4000000 in
theorem as_in2 (e e2 t : Addr) (n : Int) (old : Value) (w : World) (hg : w.cell? ⟨0, 0, none⟩ = some (.iface 82 (.agg #[.pointer (some ⟨20, 28, none⟩)]))) (ht0 : w.cell? t = some old) (hf0 : w.frozen? t = false) (he : w.cell? ⟨e.block, e.off + 2, none⟩ = some (.iface 26 (.pointer (some e2)))) (hes : e.spot = none) (he2 : w.cell? ⟨e2.block, e2.off + 2, none⟩ = some (.iface 23 (.int .i64 n))) (hes2 : e2.spot = none) :
    Calls Tryz.prog 9 #[.iface 26 (.pointer (some e)), .iface 49 (.pointer (some t))] w fun ev w' => ev = .returned (.bool true) ∧ w' = ((((w.alloc (.cells #[.pointer (some t)] 49)).alloc (.cells #[.pointer (some ⟨20, 49, none⟩), .pointer (some ⟨w.heap.size, 0, none⟩), .int .u64 150] 60)).alloc (.cells #[.pointer (some ⟨20, 49, none⟩), .pointer (some ⟨w.heap.size, 0, none⟩), .int .u64 150] 60)).alloc (.cells #[.int .i64 n] 23)).setCell t (.int .i64 n) := by
  have h6 := @run_callFunc_extern Tryz.prog 13 _ (fun args => ReflectliteValue.unpack (args.getD 0 (.tuple #[]))) Tryz.func13 (by kernel_rfl) (by kernel_rfl) (by kernel_rfl) (by kernel_rfl)
  have h7 := @run_callFunc_extern Tryz.prog 14 _ (ReflectliteValue.methodAny (ReflectliteValue.valueError "reflectlite.Value.Type" 0) (fun t _ _ _ => ReflectliteType.toType t)) Tryz.func14 (by kernel_rfl) (by kernel_rfl) (by kernel_rfl) (by kernel_rfl)
  have h8 := @run_callFunc_extern Tryz.prog 15 _ (ReflectliteValue.method (ReflectliteValue.valueError "reflectlite.Value.IsNil" 0) ReflectliteValue.isNil) Tryz.func15 (by kernel_rfl) (by kernel_rfl) (by kernel_rfl) (by kernel_rfl)
  have h27 := @run_callFunc_extern Tryz.prog 210 _ (ReflectliteType.abiMethod fun t => do pure (.int .u8 (← Rtype.kind t))) Tryz.func210 (by kernel_rfl) (by kernel_rfl) (by kernel_rfl) (by kernel_rfl)
  have h37 := @run_callFunc_extern Tryz.prog 223 _ (ReflectliteType.method ReflectliteType.elem) Tryz.func223 (by kernel_rfl) (by kernel_rfl) (by kernel_rfl) (by kernel_rfl)
  have h38 := @run_callFunc_extern Tryz.prog 224 _ (ReflectliteType.relation "Implements" ReflectliteType.implements_) Tryz.func224 (by kernel_rfl) (by kernel_rfl) (by kernel_rfl) (by kernel_rfl)
  have h10 := @run_callFunc_extern Tryz.prog 25 _ ReflectliteType.typeOf Tryz.func25 (by kernel_rfl) (by kernel_rfl) (by kernel_rfl) (by kernel_rfl)
  have h35 := @run_callFunc_extern Tryz.prog 221 _ (ReflectliteType.relation "AssignableTo" ReflectliteType.assignableTo) Tryz.func221 (by kernel_rfl) (by kernel_rfl) (by kernel_rfl) (by kernel_rfl)
  have h11 := @run_callFunc_extern Tryz.prog 26 _ (ReflectliteValue.method (ReflectliteValue.valueError "reflectlite.Value.Elem" 0) ReflectliteValue.elem) Tryz.func26 (by kernel_rfl) (by kernel_rfl) (by kernel_rfl) (by kernel_rfl)
  have h12 := @run_callFunc_extern Tryz.prog 27 _ ReflectliteValue.set Tryz.func27 (by kernel_rfl) (by kernel_rfl) (by kernel_rfl) (by kernel_rfl)
  have tO := typeOf26
  have tO2 := typeOf23
  have ta26x87 := ta26_87
  have ta26x90 := ta26_90
  have ta26x92 := ta26_92
  have mU := methodUnwrap
  have mA := methodAssignableTo
  have a25 := assignable26_23
  have a26 := assignable23_23
  have v25 := valueOf23
  have f6 := valueOf49
  have f7 := type49
  have mK := methodKind
  have mE := methodElem
  have mI := methodImplements
  have k27 := kind49
  have k25 := kind23
  have e27 := elem49
  have i25 := implements23
  have n8 := isNil49 ⟨w.heap.size, 0, none⟩ t ((w.alloc (.cells #[.pointer (some t)] 49)).alloc (.cells #[.pointer (some ⟨20, 49, none⟩), .pointer (some ⟨w.heap.size, 0, none⟩), .int .u64 150] 60)) (by simp)
  have hlt : 0 < w.heap.size := by
    rcases Nat.eq_zero_or_pos w.heap.size with h0 | h
    · simp [World.cell?, h0] at hg
    · exact h
  have hg2 : ((w.alloc (.cells #[.pointer (some t)] 49)).alloc (.cells #[.pointer (some ⟨20, 49, none⟩), .pointer (some ⟨w.heap.size, 0, none⟩), .int .u64 150] 60)).cell? ⟨0, 0, none⟩ = some (.iface 82 (.agg #[.pointer (some ⟨20, 28, none⟩)])) := by
    rw [World.cell?_alloc_lt _ _ ⟨0, 0, none⟩ (by simp), World.cell?_alloc_lt _ _ ⟨0, 0, none⟩ hlt]; exact hg
  have htl : t.block < w.heap.size := by
    rcases Nat.lt_or_ge t.block w.heap.size with h | h
    · exact h
    · simp [World.cell?, Array.getElem?_eq_none h] at ht0
  have el := elemV49 ⟨w.heap.size, 0, none⟩ t (((w.alloc (.cells #[.pointer (some t)] 49)).alloc (.cells #[.pointer (some ⟨20, 49, none⟩), .pointer (some ⟨w.heap.size, 0, none⟩), .int .u64 150] 60)).alloc (.cells #[.pointer (some ⟨20, 49, none⟩), .pointer (some ⟨w.heap.size, 0, none⟩), .int .u64 150] 60)) (by rw [World.cell?_alloc_lt _ _ ⟨w.heap.size, 0, none⟩ (by simp; omega)]; simp)
  have st := direct23u t ⟨w.heap.size + 1 + 1 + 1, 0, none⟩ n old ((((w.alloc (.cells #[.pointer (some t)] 49)).alloc (.cells #[.pointer (some ⟨20, 49, none⟩), .pointer (some ⟨w.heap.size, 0, none⟩), .int .u64 150] 60)).alloc (.cells #[.pointer (some ⟨20, 49, none⟩), .pointer (some ⟨w.heap.size, 0, none⟩), .int .u64 150] 60)).alloc (.cells #[.int .i64 n] 23))
    (by rw [World.cell?_alloc_at _ _ _ _ (by simp)]; rfl)
    (by rw [World.cell?_alloc_lt _ _ t (by simp; omega), World.cell?_alloc_lt _ _ t (by simp; omega), World.cell?_alloc_lt _ _ t (by simp; omega), World.cell?_alloc_lt _ _ t htl]; exact ht0)
    (by rw [World.frozen?_alloc_old _ _ t (by simp; omega), World.frozen?_alloc_old _ _ t (by simp; omega), World.frozen?_alloc_old _ _ t (by simp; omega), World.frozen?_alloc_old _ _ t (Nat.ne_of_lt htl)]; exact hf0)
  have hexl : e.block < w.heap.size := by
    rcases Nat.lt_or_ge e.block w.heap.size with h | h
    · exact h
    · simp [World.cell?, Array.getElem?_eq_none h] at he
  have hex : (((w.alloc (.cells #[.pointer (some t)] 49)).alloc (.cells #[.pointer (some ⟨20, 49, none⟩), .pointer (some ⟨w.heap.size, 0, none⟩), .int .u64 150] 60)).alloc (.cells #[.pointer (some ⟨20, 49, none⟩), .pointer (some ⟨w.heap.size, 0, none⟩), .int .u64 150] 60)).cell? ⟨e.block, e.off + 2, none⟩ = some (.iface 26 (.pointer (some e2))) := by
    rw [World.cell?_alloc_lt _ _ ⟨e.block, e.off + 2, none⟩ (by simp; omega), World.cell?_alloc_lt _ _ ⟨e.block, e.off + 2, none⟩ (by simp; omega), World.cell?_alloc_lt _ _ ⟨e.block, e.off + 2, none⟩ hexl]; exact he
  have heyl : e2.block < w.heap.size := by
    rcases Nat.lt_or_ge e2.block w.heap.size with h | h
    · exact h
    · simp [World.cell?, Array.getElem?_eq_none h] at he2
  have hey : (((w.alloc (.cells #[.pointer (some t)] 49)).alloc (.cells #[.pointer (some ⟨20, 49, none⟩), .pointer (some ⟨w.heap.size, 0, none⟩), .int .u64 150] 60)).alloc (.cells #[.pointer (some ⟨20, 49, none⟩), .pointer (some ⟨w.heap.size, 0, none⟩), .int .u64 150] 60)).cell? ⟨e2.block, e2.off + 2, none⟩ = some (.iface 23 (.int .i64 n)) := by
    rw [World.cell?_alloc_lt _ _ ⟨e2.block, e2.off + 2, none⟩ (by simp; omega), World.cell?_alloc_lt _ _ ⟨e2.block, e2.off + 2, none⟩ (by simp; omega), World.cell?_alloc_lt _ _ ⟨e2.block, e2.off + 2, none⟩ heyl]; exact he2
  go_enter Tryz.func9, Tryz.ntmps9
  go_wp2
  refine wp_loop_rounds 3 ?_
  rw [rounds_succ]
  go_wp2
  rw [rounds_succ]
  go_wp2
  rw [rounds_succ]
  go_wp2
  go_ret
  exact ⟨rfl, rfl⟩
set_option maxHeartbeats 4000000 in
theorem as_other (e e2 t : Addr) (old : Value) (w : World) (hg : w.cell? ⟨0, 0, none⟩ = some (.iface 82 (.agg #[.pointer (some ⟨20, 28, none⟩)]))) (ht0 : w.cell? t = some old) (hf0 : w.frozen? t = false) (he : w.cell? ⟨e.block, e.off + 2, none⟩ = some (.iface 50 (.pointer (some e2)))) (hes : e.spot = none) :
    Calls Tryz.prog 9 #[.iface 26 (.pointer (some e)), .iface 49 (.pointer (some t))] w fun ev w' => ev = .returned (.bool false) ∧ w' = (((w.alloc (.cells #[.pointer (some t)] 49)).alloc (.cells #[.pointer (some ⟨20, 49, none⟩), .pointer (some ⟨w.heap.size, 0, none⟩), .int .u64 150] 60)).alloc (.cells #[.pointer (some ⟨20, 49, none⟩), .pointer (some ⟨w.heap.size, 0, none⟩), .int .u64 150] 60)) := by
  have h6 := @run_callFunc_extern Tryz.prog 13 _ (fun args => ReflectliteValue.unpack (args.getD 0 (.tuple #[]))) Tryz.func13 (by kernel_rfl) (by kernel_rfl) (by kernel_rfl) (by kernel_rfl)
  have h7 := @run_callFunc_extern Tryz.prog 14 _ (ReflectliteValue.methodAny (ReflectliteValue.valueError "reflectlite.Value.Type" 0) (fun t _ _ _ => ReflectliteType.toType t)) Tryz.func14 (by kernel_rfl) (by kernel_rfl) (by kernel_rfl) (by kernel_rfl)
  have h8 := @run_callFunc_extern Tryz.prog 15 _ (ReflectliteValue.method (ReflectliteValue.valueError "reflectlite.Value.IsNil" 0) ReflectliteValue.isNil) Tryz.func15 (by kernel_rfl) (by kernel_rfl) (by kernel_rfl) (by kernel_rfl)
  have h27 := @run_callFunc_extern Tryz.prog 210 _ (ReflectliteType.abiMethod fun t => do pure (.int .u8 (← Rtype.kind t))) Tryz.func210 (by kernel_rfl) (by kernel_rfl) (by kernel_rfl) (by kernel_rfl)
  have h37 := @run_callFunc_extern Tryz.prog 223 _ (ReflectliteType.method ReflectliteType.elem) Tryz.func223 (by kernel_rfl) (by kernel_rfl) (by kernel_rfl) (by kernel_rfl)
  have h38 := @run_callFunc_extern Tryz.prog 224 _ (ReflectliteType.relation "Implements" ReflectliteType.implements_) Tryz.func224 (by kernel_rfl) (by kernel_rfl) (by kernel_rfl) (by kernel_rfl)
  have h10 := @run_callFunc_extern Tryz.prog 25 _ ReflectliteType.typeOf Tryz.func25 (by kernel_rfl) (by kernel_rfl) (by kernel_rfl) (by kernel_rfl)
  have h35 := @run_callFunc_extern Tryz.prog 221 _ (ReflectliteType.relation "AssignableTo" ReflectliteType.assignableTo) Tryz.func221 (by kernel_rfl) (by kernel_rfl) (by kernel_rfl) (by kernel_rfl)
  have h11 := @run_callFunc_extern Tryz.prog 26 _ (ReflectliteValue.method (ReflectliteValue.valueError "reflectlite.Value.Elem" 0) ReflectliteValue.elem) Tryz.func26 (by kernel_rfl) (by kernel_rfl) (by kernel_rfl) (by kernel_rfl)
  have h12 := @run_callFunc_extern Tryz.prog 27 _ ReflectliteValue.set Tryz.func27 (by kernel_rfl) (by kernel_rfl) (by kernel_rfl) (by kernel_rfl)
  have tO := typeOf26
  have tO2 := typeOf50
  have ta26x87 := ta26_87
  have ta26x90 := ta26_90
  have ta26x92 := ta26_92
  have ta50x87 := ta50_87
  have ta50x90 := ta50_90
  have ta50x92 := ta50_92
  have mU := methodUnwrap
  have mA := methodAssignableTo
  have a25 := assignable26_23
  have a26 := assignable50_23
  have f6 := valueOf49
  have f7 := type49
  have mK := methodKind
  have mE := methodElem
  have mI := methodImplements
  have k27 := kind49
  have k25 := kind23
  have e27 := elem49
  have i25 := implements23
  have n8 := isNil49 ⟨w.heap.size, 0, none⟩ t ((w.alloc (.cells #[.pointer (some t)] 49)).alloc (.cells #[.pointer (some ⟨20, 49, none⟩), .pointer (some ⟨w.heap.size, 0, none⟩), .int .u64 150] 60)) (by simp)
  have hlt : 0 < w.heap.size := by
    rcases Nat.eq_zero_or_pos w.heap.size with h0 | h
    · simp [World.cell?, h0] at hg
    · exact h
  have hg2 : ((w.alloc (.cells #[.pointer (some t)] 49)).alloc (.cells #[.pointer (some ⟨20, 49, none⟩), .pointer (some ⟨w.heap.size, 0, none⟩), .int .u64 150] 60)).cell? ⟨0, 0, none⟩ = some (.iface 82 (.agg #[.pointer (some ⟨20, 28, none⟩)])) := by
    rw [World.cell?_alloc_lt _ _ ⟨0, 0, none⟩ (by simp), World.cell?_alloc_lt _ _ ⟨0, 0, none⟩ hlt]; exact hg
  have htl : t.block < w.heap.size := by
    rcases Nat.lt_or_ge t.block w.heap.size with h | h
    · exact h
    · simp [World.cell?, Array.getElem?_eq_none h] at ht0
  have hexl : e.block < w.heap.size := by
    rcases Nat.lt_or_ge e.block w.heap.size with h | h
    · exact h
    · simp [World.cell?, Array.getElem?_eq_none h] at he
  have hex : (((w.alloc (.cells #[.pointer (some t)] 49)).alloc (.cells #[.pointer (some ⟨20, 49, none⟩), .pointer (some ⟨w.heap.size, 0, none⟩), .int .u64 150] 60)).alloc (.cells #[.pointer (some ⟨20, 49, none⟩), .pointer (some ⟨w.heap.size, 0, none⟩), .int .u64 150] 60)).cell? ⟨e.block, e.off + 2, none⟩ = some (.iface 50 (.pointer (some e2))) := by
    rw [World.cell?_alloc_lt _ _ ⟨e.block, e.off + 2, none⟩ (by simp; omega), World.cell?_alloc_lt _ _ ⟨e.block, e.off + 2, none⟩ (by simp; omega), World.cell?_alloc_lt _ _ ⟨e.block, e.off + 2, none⟩ hexl]; exact he
  go_enter Tryz.func9, Tryz.ntmps9
  go_wp2
  refine wp_loop_rounds 2 ?_
  rw [rounds_succ]
  go_wp2
  rw [rounds_succ]
  go_wp2
  go_ret
  exact ⟨rfl, rfl⟩
open Go Go.V
def ErA : Atom := .cell 0 0 (.iface 82 (.agg #[.pointer (some ⟨20, 28, none⟩)]))
theorem holds_cell {w : World} {b o : Nat} {v : Value} (h : (Atom.cell b o v).holds w) : w.cell? ⟨b, o, none⟩ = some v := by
  obtain ⟨c, t, lo, hi, hb, hc, hf⟩ := h
  simp [World.cell?, hb, hc]
def flP (b : Nat) : Value := .iface 26 (ptr0 b)
section
variable (A : List Atom) (hE : ErA ∈ A)
include hE
theorem As_fail (k : Nat) (b : Nat) (old : Value) : Fun Tryz.prog 9 [flP k, .iface 48 (ptr0 b)] [A, cellsAt b 0 [old]] (fun u Post => u = .bool true ∧ Post = [A, cellsAt b 0 [ptr0 k]]) :=
  Fun.of_hit (by kernel_rfl) fun w hA h1 h2 => (as_fail ⟨k, 0, none⟩ ⟨b, 0, none⟩ old w (holds_cell (hA _ hE)) h1 h2).mono fun _ _ ⟨h, h'⟩ => ⟨h, [_, _, _, _], h'⟩
theorem As_miss (n : Int) (b : Nat) (old : Value) : Fun Tryz.prog 9 [.iface 23 (.int .i64 n), .iface 48 (ptr0 b)] [A, cellsAt b 0 [old]] (fun u Post => u = .bool false ∧ Post = [A, cellsAt b 0 [old]]) :=
  Fun.of_miss (by kernel_rfl) fun w hA h1 h2 => (as_miss n ⟨b, 0, none⟩ old w (holds_cell (hA _ hE)) h1 h2).mono fun _ _ ⟨h, h'⟩ => ⟨h, [_, _, _], h'⟩
theorem As_num (n : Int) (b : Nat) (old : Value) : Fun Tryz.prog 9 [.iface 23 (.int .i64 n), .iface 49 (ptr0 b)] [A, cellsAt b 0 [old]] (fun u Post => u = .bool true ∧ Post = [A, cellsAt b 0 [.int .i64 n]]) :=
  Fun.of_hit (by kernel_rfl) fun w hA h1 h2 => (as_num n ⟨b, 0, none⟩ old w (holds_cell (hA _ hE)) h1 h2).mono fun _ _ ⟨h, h'⟩ => ⟨h, [_, _, _, _], h'⟩
theorem As_in (k : Nat) (n : Int) (hk : Atom.cell k 2 (.iface 23 (.int .i64 n)) ∈ A) (b : Nat) (old : Value) : Fun Tryz.prog 9 [flP k, .iface 49 (ptr0 b)] [A, cellsAt b 0 [old]] (fun u Post => u = .bool true ∧ Post = [A, cellsAt b 0 [.int .i64 n]]) :=
  Fun.of_hit (by kernel_rfl) fun w hA h1 h2 => (as_in ⟨k, 0, none⟩ ⟨b, 0, none⟩ n old w (holds_cell (hA _ hE)) h1 h2 (holds_cell (hA _ hk)) rfl).mono fun _ _ ⟨h, h'⟩ => ⟨h, [_, _, _, _], h'⟩
theorem As_in2 (k m : Nat) (n : Int) (hk : Atom.cell k 2 (flP m) ∈ A) (hm : Atom.cell m 2 (.iface 23 (.int .i64 n)) ∈ A) (b : Nat) (old : Value) : Fun Tryz.prog 9 [flP k, .iface 49 (ptr0 b)] [A, cellsAt b 0 [old]] (fun u Post => u = .bool true ∧ Post = [A, cellsAt b 0 [.int .i64 n]]) :=
  Fun.of_hit (by kernel_rfl) fun w hA h1 h2 => (as_in2 ⟨k, 0, none⟩ ⟨m, 0, none⟩ ⟨b, 0, none⟩ n old w (holds_cell (hA _ hE)) h1 h2 (holds_cell (hA _ hk)) rfl (holds_cell (hA _ hm)) rfl).mono fun _ _ ⟨h, h'⟩ => ⟨h, [_, _, _, _], h'⟩
theorem As_other (k m : Nat) (hk : Atom.cell k 2 (.iface 50 (ptr0 m)) ∈ A) (b : Nat) (old : Value) : Fun Tryz.prog 9 [flP k, .iface 49 (ptr0 b)] [A, cellsAt b 0 [old]] (fun u Post => u = .bool false ∧ Post = [A, cellsAt b 0 [old]]) :=
  Fun.of_miss (by kernel_rfl) fun w hA h1 h2 => (as_other ⟨k, 0, none⟩ ⟨m, 0, none⟩ ⟨b, 0, none⟩ old w (holds_cell (hA _ hE)) h1 h2 (holds_cell (hA _ hk)) rfl).mono fun _ _ ⟨h, h'⟩ => ⟨h, [_, _, _], h'⟩
end
end Go.Proofs.YtmpdaalhafkgjaaGreatDoor

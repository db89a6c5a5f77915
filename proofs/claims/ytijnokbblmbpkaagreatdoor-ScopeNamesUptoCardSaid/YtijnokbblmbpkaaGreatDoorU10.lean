/-
  A part of the proof.
-/
import Derived.Test.YtijnokbblmbpkaaGreatDoorU4
import Derived.Test.YtijnokbblmbpkaaGreatDoorProg
import Derived.WalkKit
import Derived.LaidEql
import Derived.Stop.Asserts
import Derived.RowKitTokens
import Derived.KernelRfl
import Derived.Test.YtijnokbblmbpkaaGreatDoorU6
import Derived.Test.YtijnokbblmbpkaaGreatDoorU5
import Derived.Test.YtijnokbblmbpkaaGreatDoorU3
import Derived.Shelf.SlMaps.Clone
import Derived.Shelf.Lay
set_option linter.all false
set_option maxRecDepth 100000
set_option maxHeartbeats 12800000
namespace Go.Proofs.YtijnokbblmbpkaaGreatDoor
open Go Go.RowKit Go.Extern.Stop Go.Stop Go.Extern
theorem qV (h : Value) (w : World) : (Go.method 543 242 (.agg #[h]) "Kind").run Tryz.prog w = .ok (360, h) w := by kernel_rfl
theorem qT (h : Value) (w : World) : (Go.method 543 242 (.agg #[h]) "Elem").run Tryz.prog w = .ok (372, .agg #[h]) w := by kernel_rfl
theorem dM (h : Value) (w : World) : (Go.method 543 242 (.agg #[h]) "Implements").run Tryz.prog w = .ok (373, .agg #[h]) w := by kernel_rfl
theorem yS (h : Value) (w : World) : (Go.method 543 242 (.agg #[h]) "AssignableTo").run Tryz.prog w = .ok (370, .agg #[h]) w := by kernel_rfl
theorem rlm(z:Sem Value)(f:TypeId->Addr->Nat->Nat->Sem Value)(v:Value):
 ReflectliteValue.method z f #[v]=(do match <- ReflectliteValue.parts v with|none=>z|some (t,a,fl)=>f t a fl (fl % 32)):=rfl
theorem rls(v x:Value):ReflectliteValue.set #[v,x]=(do
 let(some (dst,a,fl),some (src,b,_)):=(<- ReflectliteValue.parts v,<- ReflectliteValue.parts x)
  | unsupported (.noEntry "extern/(internal/reflectlite.Value).Set.zeroValue")
 if fl / ReflectliteValue.flagAddr % 2 == 0 then unsupported (.noEntry "extern/(internal/reflectlite.Value).Set.unaddressable")
 let val <- loadVar src b
 if <- Rtype.directlyAssignable dst src then storeVar dst a val
 else if <- Rtype.implements dst src then
  if(<- Rtype.kind src)==20 then
   match val with
   | .nilIface => unsupported (.noEntry "extern/reflectlite: a nil value of one interface type handed on as a value of another")
   |_=>storeVar dst a val
  else storeVar dst a (.iface src val)
 else panicString ("reflectlite.Set: value of type " ++ (← Rtype.spelt src) ++ " is not assignable to type " ++ (← Rtype.spelt dst))
 pure (.tuple #[])):=rfl
theorem Sb(t:Addr)(w:World):(ReflectliteValue.unpack (.iface 82 (.pointer (some t)))).run Tryz.prog w
 =.ok (.agg #[.pointer (some ⟨9,82,none⟩),.pointer (some ⟨w.heap.size,0,none⟩),.int .u64 150]) (w.alloc (.cells #[.pointer (some t)] 82)):=by kernel_rfl
theorem type82 (a : Addr) (w : World) : (ReflectliteValue.methodAny (ReflectliteValue.valueError "reflectlite.Value.Type" 0) (λt _ _ _ => ReflectliteType.toType t) #[.agg #[.pointer (some ⟨9, 82, none⟩), .pointer (some a), .int .u64 150]]).run Tryz.prog w
 =.ok (.iface 242 (.agg #[.pointer (some ⟨9,82,none⟩)])) w:=by kernel_rfl
theorem kind82(w:World):((ReflectliteType.abiMethod λt=>(λa:Nat=>Value.int IntKind.u8 (a:Int)) <$> Rtype.kind t) #[.pointer (some ⟨9,82,none⟩)]).run Tryz.prog w=.ok (.int .u8 22) w:=by kernel_rfl
theorem kind80(w:World):((ReflectliteType.abiMethod λt=>(λa:Nat=>Value.int IntKind.u8 (a:Int)) <$> Rtype.kind t) #[.pointer (some ⟨9,80,none⟩)]).run Tryz.prog w=.ok (.int .u8 22) w:=by kernel_rfl
theorem Nv(a:Addr)(w:World):(ReflectliteValue.parts (.agg #[.pointer (some ⟨9,82,none⟩),.pointer (some a),.int .u64 150])).run Tryz.prog w=.ok (some (82,a,150)) w:=by kernel_rfl
theorem und82:Tryz.prog.underlying 82=some (.pointer 80):=by kernel_rfl
theorem isNil82(a p:Addr)(W:World)(d:W.cell? a=some (.pointer (some p))):
 (ReflectliteValue.method (ReflectliteValue.valueError "reflectlite.Value.IsNil" 0) ReflectliteValue.isNil #[.agg #[.pointer (some ⟨9, 82, none⟩), .pointer (some a), .int .u64 150]]).run Tryz.prog W = .ok (.bool false) W := by
 rw[rlm];simp only[Sem.run_bind,Nv,Result.andThen];simp[ReflectliteValue.isNil,loadVar,isAgg,underlying,und82,d,Result.andThen]
theorem elem82(w:World):(ReflectliteType.method ReflectliteType.elem #[.agg #[.pointer (some ⟨9,82,none⟩)]]).run Tryz.prog w=.ok (.iface 242 (.agg #[.pointer (some ⟨9,80,none⟩)])) w:=by kernel_rfl
theorem F6 (w : World) : (ReflectliteType.relation "Implements" ReflectliteType.implements_ #[.agg #[.pointer (some ⟨9, 80, none⟩)], .iface 242 (.agg #[.pointer (some ⟨9, 50, none⟩)])]).run Tryz.prog w = .ok (.bool true) w := by kernel_rfl
theorem Ts(w:World):(Rtype.elem? 82).run Tryz.prog w=.ok (some 80) w:=by kernel_rfl
theorem mk80(p:Addr)(w:World):(ReflectliteValue.mk 80 p ReflectliteValue.flagAddr).run Tryz.prog w=.ok (.agg #[.pointer (some ⟨9,80,none⟩),.pointer (some p),.int .u64 406]) w:=by kernel_rfl
theorem ZX(a p:Addr)(W:World)(d:W.cell? a=some (.pointer (some p))):
 (ReflectliteValue.method (ReflectliteValue.valueError "reflectlite.Value.Elem" 0) ReflectliteValue.elem #[.agg #[.pointer (some ⟨9, 82, none⟩), .pointer (some a), .int .u64 150]]).run Tryz.prog W
   =.ok (.agg #[.pointer (some ⟨9,80,none⟩),.pointer (some p),.int .u64 406]) W:=by
 rw[rlm];simp only[Sem.run_bind,Nv,Result.andThen];simp[ReflectliteValue.elem,loadVar,isAgg,underlying,und82,d,Result.andThen,Ts,mk80]
theorem Xo(a:Addr)(w:World):(ReflectliteValue.parts (.agg #[.pointer (some ⟨9,80,none⟩),.pointer (some a),.int .u64 406])).run Tryz.prog w=.ok (some (80,a,406)) w:=by kernel_rfl
theorem parts80(a:Addr)(w:World):(ReflectliteValue.parts (.agg #[.pointer (some ⟨9,80,none⟩),.pointer (some a),.int .u64 150])).run Tryz.prog w=.ok (some (80,a,150)) w:=by kernel_rfl
theorem To(w:World):(Rtype.directlyAssignable 80 80).run Tryz.prog w=.ok true w:=by kernel_rfl
theorem Cy(t:Addr)(w:World):(ReflectliteValue.unpack (.iface 129 (.pointer (some t)))).run Tryz.prog w
 =.ok (.agg #[.pointer (some ⟨9,129,none⟩),.pointer (some ⟨w.heap.size,0,none⟩),.int .u64 150]) (w.alloc (.cells #[.pointer (some t)] 129)):=by kernel_rfl
theorem type129 (a : Addr) (w : World) : (ReflectliteValue.methodAny (ReflectliteValue.valueError "reflectlite.Value.Type" 0) (λt _ _ _ => ReflectliteType.toType t) #[.agg #[.pointer (some ⟨9, 129, none⟩), .pointer (some a), .int .u64 150]]).run Tryz.prog w
 =.ok (.iface 242 (.agg #[.pointer (some ⟨9,129,none⟩)])) w:=by kernel_rfl
theorem Nk(w:World):((ReflectliteType.abiMethod λt=>(λa:Nat=>Value.int IntKind.u8 (a:Int)) <$> Rtype.kind t) #[.pointer (some ⟨9,129,none⟩)]).run Tryz.prog w=.ok (.int .u8 22) w:=by kernel_rfl
theorem Wd(w:World):((ReflectliteType.abiMethod λt=>(λa:Nat=>Value.int IntKind.u8 (a:Int)) <$> Rtype.kind t) #[.pointer (some ⟨9,44,none⟩)]).run Tryz.prog w=.ok (.int .u8 2) w:=by kernel_rfl
theorem Ji(a:Addr)(w:World):(ReflectliteValue.parts (.agg #[.pointer (some ⟨9,129,none⟩),.pointer (some a),.int .u64 150])).run Tryz.prog w=.ok (some (129,a,150)) w:=by kernel_rfl
theorem Yn:Tryz.prog.underlying 129=some (.pointer 44):=by kernel_rfl
theorem IP(a p:Addr)(W:World)(d:W.cell? a=some (.pointer (some p))):
 (ReflectliteValue.method (ReflectliteValue.valueError "reflectlite.Value.IsNil" 0) ReflectliteValue.isNil #[.agg #[.pointer (some ⟨9, 129, none⟩), .pointer (some a), .int .u64 150]]).run Tryz.prog W = .ok (.bool false) W := by
 rw[rlm];simp only[Sem.run_bind,Ji,Result.andThen];simp[ReflectliteValue.isNil,loadVar,isAgg,underlying,Yn,d,Result.andThen]
theorem MV(w:World):(ReflectliteType.method ReflectliteType.elem #[.agg #[.pointer (some ⟨9,129,none⟩)]]).run Tryz.prog w=.ok (.iface 242 (.agg #[.pointer (some ⟨9,44,none⟩)])) w:=by kernel_rfl
theorem r8 (w : World) : (ReflectliteType.relation "Implements" ReflectliteType.implements_ #[.agg #[.pointer (some ⟨9, 44, none⟩)], .iface 242 (.agg #[.pointer (some ⟨9, 50, none⟩)])]).run Tryz.prog w = .ok (.bool true) w := by kernel_rfl
theorem Oq(w:World):(Rtype.elem? 129).run Tryz.prog w=.ok (some 44) w:=by kernel_rfl
theorem mk44(p:Addr)(w:World):(ReflectliteValue.mk 44 p ReflectliteValue.flagAddr).run Tryz.prog w=.ok (.agg #[.pointer (some ⟨9,44,none⟩),.pointer (some p),.int .u64 386]) w:=by kernel_rfl
theorem H6(a p:Addr)(W:World)(d:W.cell? a=some (.pointer (some p))):
 (ReflectliteValue.method (ReflectliteValue.valueError "reflectlite.Value.Elem" 0) ReflectliteValue.elem #[.agg #[.pointer (some ⟨9, 129, none⟩), .pointer (some a), .int .u64 150]]).run Tryz.prog W
   =.ok (.agg #[.pointer (some ⟨9,44,none⟩),.pointer (some p),.int .u64 386]) W:=by
 rw[rlm];simp only[Sem.run_bind,Ji,Result.andThen];simp[ReflectliteValue.elem,loadVar,isAgg,underlying,Yn,d,Result.andThen,Oq,mk44]
theorem Xn(a:Addr)(w:World):(ReflectliteValue.parts (.agg #[.pointer (some ⟨9,44,none⟩),.pointer (some a),.int .u64 386])).run Tryz.prog w=.ok (some (44,a,386)) w:=by kernel_rfl
theorem parts44(a:Addr)(w:World):(ReflectliteValue.parts (.agg #[.pointer (some ⟨9,44,none⟩),.pointer (some a),.int .u64 130])).run Tryz.prog w=.ok (some (44,a,130)) w:=by kernel_rfl
theorem Tn(w:World):(Rtype.directlyAssignable 44 44).run Tryz.prog w=.ok true w:=by kernel_rfl
theorem J0(v:Value)(w:World):(ReflectliteType.typeOf #[.iface 80 v]).run Tryz.prog w=.ok (.iface 242 (.agg #[.pointer (some ⟨9,80,none⟩)])) w:=by kernel_rfl
theorem xy (w : World) : (ReflectliteType.relation "AssignableTo" ReflectliteType.assignableTo #[.agg #[.pointer (some ⟨9, 80, none⟩)], .iface 242 (.agg #[.pointer (some ⟨9, 80, none⟩)])]).run Tryz.prog w = .ok (.bool true) w := by kernel_rfl
theorem xx (w : World) : (ReflectliteType.relation "AssignableTo" ReflectliteType.assignableTo #[.agg #[.pointer (some ⟨9, 80, none⟩)], .iface 242 (.agg #[.pointer (some ⟨9, 44, none⟩)])]).run Tryz.prog w = .ok (.bool false) w := by kernel_rfl
theorem Sa(e:Addr)(w:World):(ReflectliteValue.unpack (.iface 80 (.pointer (some e)))).run Tryz.prog w
 =.ok (.agg #[.pointer (some ⟨9,80,none⟩),.pointer (some ⟨w.heap.size,0,none⟩),.int .u64 150]) (w.alloc (.cells #[.pointer (some e)] 80)):=by kernel_rfl
theorem JZ(v:Value)(w:World):(ReflectliteType.typeOf #[.iface 44 v]).run Tryz.prog w=.ok (.iface 242 (.agg #[.pointer (some ⟨9,44,none⟩)])) w:=by kernel_rfl
theorem mR (w : World) : (ReflectliteType.relation "AssignableTo" ReflectliteType.assignableTo #[.agg #[.pointer (some ⟨9, 44, none⟩)], .iface 242 (.agg #[.pointer (some ⟨9, 44, none⟩)])]).run Tryz.prog w = .ok (.bool true) w := by kernel_rfl
theorem EZ(n:Int)(w:World):(ReflectliteValue.unpack (.iface 44 (.int .i64 n))).run Tryz.prog w
 =.ok (.agg #[.pointer (some ⟨9,44,none⟩),.pointer (some ⟨w.heap.size,0,none⟩),.int .u64 130]) (w.alloc (.cells #[.int .i64 n] 44)):=by kernel_rfl
theorem Yh(v:Value)(x:TypeId)(w:World):(Instr.typeAssert (.iface 80 v) x 247 true).run Tryz.prog w=.ok (.tuple #[.nilIface,.bool false]) w:=run_typeAssert_lacksB Tryz.underlying247 (by kernel_rfl) (by kernel_rfl) v x w
theorem Yi(v:Value)(x:TypeId)(w:World):(Instr.typeAssert (.iface 80 v) x 250 true).run Tryz.prog w=.ok (.tuple #[.iface 80 v,.bool true]) w:=run_typeAssert_hasB Tryz.underlying250 (by kernel_rfl) v x w
theorem Yj(v:Value)(x:TypeId)(w:World):(Instr.typeAssert (.iface 80 v) x 252 true).run Tryz.prog w=.ok (.tuple #[.nilIface,.bool false]) w:=run_typeAssert_lacksB Tryz.underlying252 (by kernel_rfl) (by kernel_rfl) v x w
theorem Gn (e : Addr) (w : World) : (Go.method 543 80 (.pointer (some e)) "Unwrap").run Tryz.prog w = .ok (365, .pointer (some e)) w := by kernel_rfl
theorem Om(d b e:Addr)(g:Value)(W:World)(j:W.cell? b=some (.pointer (some e)))(q:W.cell? d=some g)(m:W.frozen? d=false):
 (ReflectliteValue.set #[.agg #[.pointer (some ⟨9,80,none⟩),.pointer (some d),.int .u64 406],.agg #[.pointer (some ⟨9,80,none⟩),.pointer (some b),.int .u64 150]]).run Tryz.prog W
   =.ok (.tuple #[]) (W.setCell d (.pointer (some e))):=by
 rw[rls];simp only[Sem.run_bind,Xo,parts80,Result.andThen];simp[ReflectliteValue.flagAddr,loadVar,isAgg,underlying,Tryz.underlying80,j,Result.andThen,To,storeVar,Value.cells,storeCells,Addr.add];rw[run_store Tryz.prog W d _ _ Zr];simp[q,m]
set_option maxHeartbeats 4000000 in
theorem ZM(e t:Addr)(d:Value)(w:World)(hg:w.cell? ⟨0,0,none⟩=some (.iface 242 (.agg #[.pointer (some ⟨9,50,none⟩)])))(ht0:w.cell? t=some d)(hf0:w.frozen? t=false):
 Calls Tryz.prog 33 #[.iface 80 (.pointer (some e)),.iface 82 (.pointer (some t))] w λev w'=>ev=.returned (.bool true)/\w'=((((w.alloc (.cells #[.pointer (some t)] 82)).alloc (.cells #[.pointer (some ⟨9,82,none⟩),.pointer (some ⟨w.heap.size,0,none⟩),.int .u64 150] 162)).alloc (.cells #[.pointer (some ⟨9,82,none⟩),.pointer (some ⟨w.heap.size,0,none⟩),.int .u64 150] 162)).alloc (.cells #[.pointer (some e)] 80)).setCell t (.pointer (some e)):=by
 have h6 := @run_callFunc_extern Tryz.prog 81 _ (λargs => ReflectliteValue.unpack (args.getD 0 (.tuple #[]))) Tryz.func81 (by kernel_rfl) (by kernel_rfl) (by kernel_rfl) (by kernel_rfl);have h7 := @run_callFunc_extern Tryz.prog 82 _ (ReflectliteValue.methodAny (ReflectliteValue.valueError "reflectlite.Value.Type" 0) (λt _ _ _ => ReflectliteType.toType t)) Tryz.func82 (by kernel_rfl) (by kernel_rfl) (by kernel_rfl) (by kernel_rfl);have h8 := @run_callFunc_extern Tryz.prog 83 _ (ReflectliteValue.method (ReflectliteValue.valueError "reflectlite.Value.IsNil" 0) ReflectliteValue.isNil) Tryz.func83 (by kernel_rfl) (by kernel_rfl) (by kernel_rfl) (by kernel_rfl);have m := @run_callFunc_extern Tryz.prog 360 _ (ReflectliteType.abiMethod λt => do pure (.int .u8 (← Rtype.kind t))) Tryz.func360 (by kernel_rfl) (by kernel_rfl) (by kernel_rfl) (by kernel_rfl);have s := @run_callFunc_extern Tryz.prog 372 _ (ReflectliteType.method ReflectliteType.elem) Tryz.func372 (by kernel_rfl) (by kernel_rfl) (by kernel_rfl) (by kernel_rfl);have A := @run_callFunc_extern Tryz.prog 373 _ (ReflectliteType.relation "Implements" ReflectliteType.implements_) Tryz.func373 (by kernel_rfl) (by kernel_rfl) (by kernel_rfl) (by kernel_rfl);have AJ := @run_callFunc_extern Tryz.prog 141 _ ReflectliteType.typeOf Tryz.func141 (by kernel_rfl) (by kernel_rfl) (by kernel_rfl) (by kernel_rfl);have q := @run_callFunc_extern Tryz.prog 370 _ (ReflectliteType.relation "AssignableTo" ReflectliteType.assignableTo) Tryz.func370 (by kernel_rfl) (by kernel_rfl) (by kernel_rfl) (by kernel_rfl);have Ik := @run_callFunc_extern Tryz.prog 142 _ (ReflectliteValue.method (ReflectliteValue.valueError "reflectlite.Value.Elem" 0) ReflectliteValue.elem) Tryz.func142 (by kernel_rfl) (by kernel_rfl) (by kernel_rfl) (by kernel_rfl);have T7 := @run_callFunc_extern Tryz.prog 143 _ ReflectliteValue.set Tryz.func143 (by kernel_rfl) (by kernel_rfl) (by kernel_rfl) (by kernel_rfl);have tO := J0;have mA := yS;have g := xy;have F := Sa;have f6 := Sb;have f7 := type82;have mK := qV;have mE := qT;have mI := dM;have E := kind82;have D := kind80;have j := elem82;have C := F6;have n8 := isNil82 ⟨w.heap.size, 0, none⟩ t ((w.alloc (.cells #[.pointer (some t)] 82)).alloc (.cells #[.pointer (some ⟨9, 82, none⟩), .pointer (some ⟨w.heap.size, 0, none⟩), .int .u64 150] 162)) Zs;have aJ : 0 < w.heap.size := by
  exact zD8
 have B:((w.alloc (.cells #[.pointer (some t)] 82)).alloc (.cells #[.pointer (some ⟨9,82,none⟩),.pointer (some ⟨w.heap.size,0,none⟩),.int .u64 150] 162)).cell? ⟨0,0,none⟩=some (.iface 242 (.agg #[.pointer (some ⟨9,50,none⟩)])):=by
  exact zCR
 have rZ:t.block < w.heap.size:=by
  exact zCK
 have el:=ZX ⟨w.heap.size,0,none⟩ t (((w.alloc (.cells #[.pointer (some t)] 82)).alloc (.cells #[.pointer (some ⟨9,82,none⟩),.pointer (some ⟨w.heap.size,0,none⟩),.int .u64 150] 162)).alloc (.cells #[.pointer (some ⟨9,82,none⟩),.pointer (some ⟨w.heap.size,0,none⟩),.int .u64 150] 162)) (by rw[World.cell?_alloc_lt _ _ ⟨w.heap.size,0,none⟩ tj];simp);have st:=Om t ⟨w.heap.size+1+1+1,0,none⟩ e d ((((w.alloc (.cells #[.pointer (some t)] 82)).alloc (.cells #[.pointer (some ⟨9,82,none⟩),.pointer (some ⟨w.heap.size,0,none⟩),.int .u64 150] 162)).alloc (.cells #[.pointer (some ⟨9,82,none⟩),.pointer (some ⟨w.heap.size,0,none⟩),.int .u64 150] 162)).alloc (.cells #[.pointer (some e)] 80))
  (by rw[World.cell?_alloc_at _ _ _ _ Zs];rfl)
  Zav
  Zaw
 go_enter Tryz.func33,Tryz.ntmps33
 go_wp2
 refine wp_loop_rounds 1 ?_;rw[rounds_succ]
 go_wp2
 go_ret
 exact⟨rfl,rfl⟩
theorem Oj(ta b:Addr)(n:Int)(d:Value)(W:World)(hb:W.cell? b=some (.int .i64 n))(ht:W.cell? ta=some d)(hf:W.frozen? ta=false):
 (ReflectliteValue.set #[.agg #[.pointer (some ⟨9,44,none⟩),.pointer (some ta),.int .u64 386],.agg #[.pointer (some ⟨9,44,none⟩),.pointer (some b),.int .u64 130]]).run Tryz.prog W
   =.ok (.tuple #[]) (W.setCell ta (.int .i64 n)):=by
 exact zC4
set_option maxHeartbeats 4000000 in
theorem as_num(n:Int)(t:Addr)(d:Value)(w:World)(hg:w.cell? ⟨0,0,none⟩=some (.iface 242 (.agg #[.pointer (some ⟨9,50,none⟩)])))(ht0:w.cell? t=some d)(hf0:w.frozen? t=false):
 Calls Tryz.prog 33 #[.iface 44 (.int .i64 n),.iface 129 (.pointer (some t))] w λev w'=>ev=.returned (.bool true)/\w'=((((w.alloc (.cells #[.pointer (some t)] 129)).alloc (.cells #[.pointer (some ⟨9,129,none⟩),.pointer (some ⟨w.heap.size,0,none⟩),.int .u64 150] 162)).alloc (.cells #[.pointer (some ⟨9,129,none⟩),.pointer (some ⟨w.heap.size,0,none⟩),.int .u64 150] 162)).alloc (.cells #[.int .i64 n] 44)).setCell t (.int .i64 n):=by
 have h6 := @run_callFunc_extern Tryz.prog 81 _ (λargs => ReflectliteValue.unpack (args.getD 0 (.tuple #[]))) Tryz.func81 (by kernel_rfl) (by kernel_rfl) (by kernel_rfl) (by kernel_rfl);have h7 := @run_callFunc_extern Tryz.prog 82 _ (ReflectliteValue.methodAny (ReflectliteValue.valueError "reflectlite.Value.Type" 0) (λt _ _ _ => ReflectliteType.toType t)) Tryz.func82 (by kernel_rfl) (by kernel_rfl) (by kernel_rfl) (by kernel_rfl);have h8 := @run_callFunc_extern Tryz.prog 83 _ (ReflectliteValue.method (ReflectliteValue.valueError "reflectlite.Value.IsNil" 0) ReflectliteValue.isNil) Tryz.func83 (by kernel_rfl) (by kernel_rfl) (by kernel_rfl) (by kernel_rfl);have m := @run_callFunc_extern Tryz.prog 360 _ (ReflectliteType.abiMethod λt => do pure (.int .u8 (← Rtype.kind t))) Tryz.func360 (by kernel_rfl) (by kernel_rfl) (by kernel_rfl) (by kernel_rfl);have s := @run_callFunc_extern Tryz.prog 372 _ (ReflectliteType.method ReflectliteType.elem) Tryz.func372 (by kernel_rfl) (by kernel_rfl) (by kernel_rfl) (by kernel_rfl);have A := @run_callFunc_extern Tryz.prog 373 _ (ReflectliteType.relation "Implements" ReflectliteType.implements_) Tryz.func373 (by kernel_rfl) (by kernel_rfl) (by kernel_rfl) (by kernel_rfl);have AJ := @run_callFunc_extern Tryz.prog 141 _ ReflectliteType.typeOf Tryz.func141 (by kernel_rfl) (by kernel_rfl) (by kernel_rfl) (by kernel_rfl);have q := @run_callFunc_extern Tryz.prog 370 _ (ReflectliteType.relation "AssignableTo" ReflectliteType.assignableTo) Tryz.func370 (by kernel_rfl) (by kernel_rfl) (by kernel_rfl) (by kernel_rfl);have Ik := @run_callFunc_extern Tryz.prog 142 _ (ReflectliteValue.method (ReflectliteValue.valueError "reflectlite.Value.Elem" 0) ReflectliteValue.elem) Tryz.func142 (by kernel_rfl) (by kernel_rfl) (by kernel_rfl) (by kernel_rfl);have T7 := @run_callFunc_extern Tryz.prog 143 _ ReflectliteValue.set Tryz.func143 (by kernel_rfl) (by kernel_rfl) (by kernel_rfl) (by kernel_rfl);have tO := JZ;have mA := yS;have g := mR;have F := EZ;have f6 := Cy;have f7 := type129;have mK := qV;have mE := qT;have mI := dM;have E := Nk;have D := Wd;have j := MV;have C := r8;have n8 := IP ⟨w.heap.size, 0, none⟩ t ((w.alloc (.cells #[.pointer (some t)] 129)).alloc (.cells #[.pointer (some ⟨9, 129, none⟩), .pointer (some ⟨w.heap.size, 0, none⟩), .int .u64 150] 162)) Zs;have aJ : 0 < w.heap.size := by
  exact zD8
 have B:((w.alloc (.cells #[.pointer (some t)] 129)).alloc (.cells #[.pointer (some ⟨9,129,none⟩),.pointer (some ⟨w.heap.size,0,none⟩),.int .u64 150] 162)).cell? ⟨0,0,none⟩=some (.iface 242 (.agg #[.pointer (some ⟨9,50,none⟩)])):=by
  exact zCR
 have rZ:t.block < w.heap.size:=by
  exact zCK
 have el:=H6 ⟨w.heap.size,0,none⟩ t (((w.alloc (.cells #[.pointer (some t)] 129)).alloc (.cells #[.pointer (some ⟨9,129,none⟩),.pointer (some ⟨w.heap.size,0,none⟩),.int .u64 150] 162)).alloc (.cells #[.pointer (some ⟨9,129,none⟩),.pointer (some ⟨w.heap.size,0,none⟩),.int .u64 150] 162)) (by rw[World.cell?_alloc_lt _ _ ⟨w.heap.size,0,none⟩ tj];simp);have st:=Oj t ⟨w.heap.size+1+1+1,0,none⟩ n d ((((w.alloc (.cells #[.pointer (some t)] 129)).alloc (.cells #[.pointer (some ⟨9,129,none⟩),.pointer (some ⟨w.heap.size,0,none⟩),.int .u64 150] 162)).alloc (.cells #[.pointer (some ⟨9,129,none⟩),.pointer (some ⟨w.heap.size,0,none⟩),.int .u64 150] 162)).alloc (.cells #[.int .i64 n] 44))
  (by rw[World.cell?_alloc_at _ _ _ _ Zs];rfl)
  Zav
  Zaw
 go_enter Tryz.func33,Tryz.ntmps33
 go_wp2
 refine wp_loop_rounds 1 ?_;rw[rounds_succ]
 go_wp2
 go_ret
 exact⟨rfl,rfl⟩
theorem Ol(ta b:Addr)(n:Int)(d:Value)(W:World)(hb:W.cell? b=some (.int .i64 n))(ht:W.cell? ta=some d)(hf:W.frozen? ta=false):
 (ReflectliteValue.set #[.agg #[.pointer (some ⟨9,44,none⟩),.pointer (some ta),.int .u64 386],.agg #[.pointer (some ⟨9,44,none⟩),.pointer (some b),.int .u64 130]]).run Tryz.prog W
   =.ok (.tuple #[]) (W.setCell ta (.int .i64 n)):=by
 exact zC4
set_option maxHeartbeats 4000000 in
theorem as_in(e t:Addr)(n:Int)(q:Value)(w:World)(hg:w.cell? ⟨0,0,none⟩=some (.iface 242 (.agg #[.pointer (some ⟨9,50,none⟩)])))(ht0:w.cell? t=some q)(hf0:w.frozen? t=false)(s:w.cell? ⟨e.block,e.off+2,none⟩=some (.iface 44 (.int .i64 n)))(nk:e.spot=none):
 Calls Tryz.prog 33 #[.iface 80 (.pointer (some e)),.iface 129 (.pointer (some t))] w λev w'=>ev=.returned (.bool true)/\w'=((((w.alloc (.cells #[.pointer (some t)] 129)).alloc (.cells #[.pointer (some ⟨9,129,none⟩),.pointer (some ⟨w.heap.size,0,none⟩),.int .u64 150] 162)).alloc (.cells #[.pointer (some ⟨9,129,none⟩),.pointer (some ⟨w.heap.size,0,none⟩),.int .u64 150] 162)).alloc (.cells #[.int .i64 n] 44)).setCell t (.int .i64 n):=by
 have h6 := @run_callFunc_extern Tryz.prog 81 _ (λargs => ReflectliteValue.unpack (args.getD 0 (.tuple #[]))) Tryz.func81 (by kernel_rfl) (by kernel_rfl) (by kernel_rfl) (by kernel_rfl);have h7 := @run_callFunc_extern Tryz.prog 82 _ (ReflectliteValue.methodAny (ReflectliteValue.valueError "reflectlite.Value.Type" 0) (λt _ _ _ => ReflectliteType.toType t)) Tryz.func82 (by kernel_rfl) (by kernel_rfl) (by kernel_rfl) (by kernel_rfl);have h8 := @run_callFunc_extern Tryz.prog 83 _ (ReflectliteValue.method (ReflectliteValue.valueError "reflectlite.Value.IsNil" 0) ReflectliteValue.isNil) Tryz.func83 (by kernel_rfl) (by kernel_rfl) (by kernel_rfl) (by kernel_rfl);have D := @run_callFunc_extern Tryz.prog 360 _ (ReflectliteType.abiMethod λt => do pure (.int .u8 (← Rtype.kind t))) Tryz.func360 (by kernel_rfl) (by kernel_rfl) (by kernel_rfl) (by kernel_rfl);have F := @run_callFunc_extern Tryz.prog 372 _ (ReflectliteType.method ReflectliteType.elem) Tryz.func372 (by kernel_rfl) (by kernel_rfl) (by kernel_rfl) (by kernel_rfl);have G := @run_callFunc_extern Tryz.prog 373 _ (ReflectliteType.relation "Implements" ReflectliteType.implements_) Tryz.func373 (by kernel_rfl) (by kernel_rfl) (by kernel_rfl) (by kernel_rfl);have AJ := @run_callFunc_extern Tryz.prog 141 _ ReflectliteType.typeOf Tryz.func141 (by kernel_rfl) (by kernel_rfl) (by kernel_rfl) (by kernel_rfl);have E := @run_callFunc_extern Tryz.prog 370 _ (ReflectliteType.relation "AssignableTo" ReflectliteType.assignableTo) Tryz.func370 (by kernel_rfl) (by kernel_rfl) (by kernel_rfl) (by kernel_rfl);have Ik := @run_callFunc_extern Tryz.prog 142 _ (ReflectliteValue.method (ReflectliteValue.valueError "reflectlite.Value.Elem" 0) ReflectliteValue.elem) Tryz.func142 (by kernel_rfl) (by kernel_rfl) (by kernel_rfl) (by kernel_rfl);have T7 := @run_callFunc_extern Tryz.prog 143 _ ReflectliteValue.set Tryz.func143 (by kernel_rfl) (by kernel_rfl) (by kernel_rfl) (by kernel_rfl);have tO := J0;have M := JZ;have d := Yh;have g := Yi;have j := Yj;have mU := Gn;have mA := yS;have A := xx;have B := mR;have N := EZ;have f6 := Cy;have f7 := type129;have mK := qV;have mE := qT;have mI := dM;have L := Nk;have K := Wd;have C := MV;have J := r8;have n8 := IP ⟨w.heap.size, 0, none⟩ t ((w.alloc (.cells #[.pointer (some t)] 129)).alloc (.cells #[.pointer (some ⟨9, 129, none⟩), .pointer (some ⟨w.heap.size, 0, none⟩), .int .u64 150] 162)) Zs;have aJ : 0 < w.heap.size := by
  exact zD8
 have I:((w.alloc (.cells #[.pointer (some t)] 129)).alloc (.cells #[.pointer (some ⟨9,129,none⟩),.pointer (some ⟨w.heap.size,0,none⟩),.int .u64 150] 162)).cell? ⟨0,0,none⟩=some (.iface 242 (.agg #[.pointer (some ⟨9,50,none⟩)])):=by
  exact zCR
 have rZ:t.block < w.heap.size:=by
  exact zCK
 have el:=H6 ⟨w.heap.size,0,none⟩ t (((w.alloc (.cells #[.pointer (some t)] 129)).alloc (.cells #[.pointer (some ⟨9,129,none⟩),.pointer (some ⟨w.heap.size,0,none⟩),.int .u64 150] 162)).alloc (.cells #[.pointer (some ⟨9,129,none⟩),.pointer (some ⟨w.heap.size,0,none⟩),.int .u64 150] 162)) (by rw[World.cell?_alloc_lt _ _ ⟨w.heap.size,0,none⟩ tj];simp);have st:=Ol t ⟨w.heap.size+1+1+1,0,none⟩ n q ((((w.alloc (.cells #[.pointer (some t)] 129)).alloc (.cells #[.pointer (some ⟨9,129,none⟩),.pointer (some ⟨w.heap.size,0,none⟩),.int .u64 150] 162)).alloc (.cells #[.pointer (some ⟨9,129,none⟩),.pointer (some ⟨w.heap.size,0,none⟩),.int .u64 150] 162)).alloc (.cells #[.int .i64 n] 44))
  (by rw[World.cell?_alloc_at _ _ _ _ Zs];rfl)
  Zav
  Zaw
 have m:e.block < w.heap.size:=by
  rcases Nat.lt_or_ge e.block w.heap.size with h|h
  .exact h
  .simp[World.cell?,Array.getElem?_eq_none h]at s
 have H:(((w.alloc (.cells #[.pointer (some t)] 129)).alloc (.cells #[.pointer (some ⟨9,129,none⟩),.pointer (some ⟨w.heap.size,0,none⟩),.int .u64 150] 162)).alloc (.cells #[.pointer (some ⟨9,129,none⟩),.pointer (some ⟨w.heap.size,0,none⟩),.int .u64 150] 162)).cell? ⟨e.block,e.off+2,none⟩=some (.iface 44 (.int .i64 n)):=by
  rw[World.cell?_alloc_lt _ _ ⟨e.block,e.off+2,none⟩ tj,World.cell?_alloc_lt _ _ ⟨e.block,e.off+2,none⟩ tj,World.cell?_alloc_lt _ _ ⟨e.block,e.off+2,none⟩ m];exact s
 go_enter Tryz.func33,Tryz.ntmps33
 go_wp2
 refine wp_loop_rounds 2 ?_;rw[rounds_succ]
 go_wp2
 rw[rounds_succ]
 go_wp2
 go_ret
 exact⟨rfl,rfl⟩
open Go Go.V
def EtA:kC:=.cell 0 0 (.iface 242 (.agg #[.pointer (some ⟨9,50,none⟩)]))
theorem cz {w:World}{b o:Nat}{v:Value}(h:(kC.cell b o v).holds w):w.cell? ⟨b,o,none⟩=some v:=by
 obtain⟨c,t,lo,hi,d,g,hf⟩:=h;simp[World.cell?,d,g]
def flP(b:Nat):Value:=.iface 80 (kE b)
section
variable (A:List kC) (hE:EtA∈A)
include hE
theorem ZA(k:Nat)(b:Nat)(d:Value):au Tryz.prog 33 [flP k,.iface 82 (kE b)] [A,kA b 0 [d]] (λu Post=>u=.bool true/\Post=[A,kA b 0 [kE k]]):=
 au.LV (by kernel_rfl) λw q j m=>(ZM ⟨k,0,none⟩ ⟨b,0,none⟩ d w (cz (q _ hE)) j m).mono λ_ _ ⟨h,g⟩=>⟨h,[_,_,_,_],g⟩
theorem As_num(n:Int)(b:Nat)(d:Value):au Tryz.prog 33 [.iface 44 (.int .i64 n),.iface 129 (kE b)] [A,kA b 0 [d]] (λu Post=>u=.bool true/\Post=[A,kA b 0 [.int .i64 n]]):=
 au.LV (by kernel_rfl) λw q j m=>(as_num n ⟨b,0,none⟩ d w (cz (q _ hE)) j m).mono λ_ _ ⟨h,g⟩=>⟨h,[_,_,_,_],g⟩
theorem As_in(k:Nat)(n:Int)(s:kC.cell k 2 (.iface 44 (.int .i64 n))∈A)(b:Nat)(d:Value):au Tryz.prog 33 [flP k,.iface 129 (kE b)] [A,kA b 0 [d]] (λu Post=>u=.bool true/\Post=[A,kA b 0 [.int .i64 n]]):=
 au.LV (by kernel_rfl) λw g m q=>(as_in ⟨k,0,none⟩ ⟨b,0,none⟩ n d w (cz (g _ hE)) m q (cz (g _ s)) rfl).mono λ_ _ ⟨h,j⟩=>⟨h,[_,_,_,_],j⟩
end
noncomputable section
def F16:aO:=aZ (o:=gF pq Tryz.f16 [])
theorem low16:Zo9 16 [] F16:=Zx9
end
noncomputable section
def F136:aO:=aZ (o:=gF pq Tryz.f136 [])
theorem low136:Zo9 136 [] F136:=Zx9
def F70:aO:=aZ (o:=gF pq Tryz.f70 [(20,[[0,1,2,3,4,5,6,7,8,9,10,11,12,13,14,15,16,17,18,19,20,21,22,23]])])
theorem low70:Zo9 70 [(20,[[0,1,2,3,4,5,6,7,8,9,10,11,12,13,14,15,16,17,18,19,20,21,22,23]])] F70:=Zx9
def F26:aO:=aZ (o:=gF pq Tryz.f26 [])
theorem low26:Zo9 26 [] F26:=Zx9
def F208:aO:=aZ (o:=gF pq Tryz.f208 [(6,[[0,1,2,3,4,5,6,7],[0,2,3,1,4,5,6,7]])])
theorem low208:Zo9 208 [(6,[[0,1,2,3,4,5,6,7],[0,2,3,1,4,5,6,7]])] F208:=Zx9
def F113:aO:=aZ (o:=gF pq Tryz.f113 [])
theorem low113:Zo9 113 [] F113:=Zx9
def F111:aO:=aZ (o:=gF pq Tryz.f111 [])
theorem low111:Zo9 111 [] F111:=Zx9
def F232:aO:=aZ (o:=gF pq Tryz.f232 [(5,[[0,1,2,3,4,5,6,7,8,9,10,11,12,13,14,15,16,17],[0,1,2,3,4,5,6,7,8,9,10,11,12,15,13,14,16,17]])])
theorem low232:Zo9 232 [(5,[[0,1,2,3,4,5,6,7,8,9,10,11,12,13,14,15,16,17],[0,1,2,3,4,5,6,7,8,9,10,11,12,15,13,14,16,17]])] F232:=Zx9
def F115:aO:=aZ (o:=gF pq Tryz.f115 [])
theorem low115:Zo9 115 [] F115:=Zx9
def F116:aO:=aZ (o:=gF pq Tryz.f116 [(2,[[0,1,2,3,4,5,6,7,8,9,10,11,12],[0,1,2,3,5,6,7,8,9,10,4,11,12]]),(5,[[0,1,2,3,4,5,6,7,8,9,10,11]])])
theorem low116:Zo9 116 [(2,[[0,1,2,3,4,5,6,7,8,9,10,11,12],[0,1,2,3,5,6,7,8,9,10,4,11,12]]),(5,[[0,1,2,3,4,5,6,7,8,9,10,11]])] F116:=Zx9
def F175:aO:=aZ (o:=gF pq Tryz.f175 [(2,[[0,1,2,3,4,5,6,7,8,9,10,11,12]]),(4,[[0,1,2,3,4,5,6,7,8,9,10,11,12],[0,1,2,3,4,5,7,8,9,10,6,11,12]]),(5,[[0,1,2,3,4,5,6,7,8,9,10,11,12,13,14,15,16,17]])])
theorem low175:Zo9 175 [(2,[[0,1,2,3,4,5,6,7,8,9,10,11,12]]),(4,[[0,1,2,3,4,5,6,7,8,9,10,11,12],[0,1,2,3,4,5,7,8,9,10,6,11,12]]),(5,[[0,1,2,3,4,5,6,7,8,9,10,11,12,13,14,15,16,17]])] F175:=Zx9
def F117:aO:=aZ (o:=gF pq Tryz.f117 [(5,[[0,1,2,3,4,5,6,7,8],[0,2,3,4,1,5,6,7,8]]),(10,[[0,1,2,3,4,5,6,7,8],[0,2,3,4,1,5,6,7,8]])])
theorem low117:Zo9 117 [(5,[[0,1,2,3,4,5,6,7,8],[0,2,3,4,1,5,6,7,8]]),(10,[[0,1,2,3,4,5,6,7,8],[0,2,3,4,1,5,6,7,8]])] F117:=Zx9
def F174:aO:=aZ (o:=gF pq Tryz.f174 [(4,[[0,1,2,3,4,5]])])
theorem low174:Zo9 174 [(4,[[0,1,2,3,4,5]])] F174:=Zx9
end
noncomputable section
def F108:aO:=aZ (o:=gF pq Tryz.f108 [])
theorem low108:Zo9 108 [] F108:=Zx9
def F209:aO:=aZ (o:=gF pq Tryz.f209 [(17,[[0,1,2,3,4,5,6,7,8,9,10,11]]),(20,[[0,1,2,3,4,5,6,7]])])
theorem low209:Zo9 209 [(17,[[0,1,2,3,4,5,6,7,8,9,10,11]]),(20,[[0,1,2,3,4,5,6,7]])] F209:=Zx9
def F112:aO:=aZ (o:=gF pq Tryz.f112 [])
theorem low112:Zo9 112 [] F112:=Zx9
def F49:aO:=aZ (o:=gF pq Tryz.f49 [(3,[[0,1,2,3,4,5,6,7,8,9,10]]),(6,[[0,1,2,3,4,5,6,7,8,9],[1,2,3,4,5,6,0,7,8,9]])])
theorem low49:Zo9 49 [(3,[[0,1,2,3,4,5,6,7,8,9,10]]),(6,[[0,1,2,3,4,5,6,7,8,9],[1,2,3,4,5,6,0,7,8,9]])] F49:=Zx9
def F109:aO:=aZ (o:=gF pq Tryz.f109 [])
theorem low109:Zo9 109 [] F109:=Zx9
def F110:aO:=aZ (o:=gF pq Tryz.f110 [])
theorem low110:Zo9 110 [] F110:=Zx9
def F231:aO:=aZ (o:=gF pq Tryz.f231 [(6,[[0,1,2,3],[0,2,1,3]])])
theorem low231:Zo9 231 [(6,[[0,1,2,3],[0,2,1,3]])] F231:=Zx9
def F251:aO:=aZ (o:=gF pq Tryz.f251 [])
theorem low251:Zo9 251 [] F251:=Zx9
def F252:aO:=aZ (o:=gF pq Tryz.f252 [])
theorem low252:Zo9 252 [] F252:=Zx9
def F207:aO:=aZ (o:=gF pq Tryz.f207 [(10,[[0,1,2,3,4,5,6,7,8,9,10],[0,2,3,4,5,6,1,7,8,9,10]])])
theorem low207:Zo9 207 [(10,[[0,1,2,3,4,5,6,7,8,9,10],[0,2,3,4,5,6,1,7,8,9,10]])] F207:=Zx9
def F172:aO:=aZ (o:=gF pq Tryz.f172 [(29,[[0,1,2,3,4,5,6,7],[0,2,3,4,1,5,6,7]]),(8,[[0,1,2,3,4,5,6,7],[0,2,3,4,1,5,6,7]]),(10,[[0,1,2,3,4,5]])])
theorem low172:Zo9 172 [(29,[[0,1,2,3,4,5,6,7],[0,2,3,4,1,5,6,7]]),(8,[[0,1,2,3,4,5,6,7],[0,2,3,4,1,5,6,7]]),(10,[[0,1,2,3,4,5]])] F172:=Zx9
end
noncomputable section
def F114:aO:=aZ (o:=gF pq Tryz.f114 [(22,[[0,1,2,3,4,5,6]]),(23,[[0,1,2,3,4,5,6,7,8,9,10],[1,0,2,3,4,5,6,7,8,9,10],[1,2,3,4,0,5,6,7,8,9,10],[1,2,3,4,5,6,0,7,8,9,10],[1,2,3,4,5,6,7,0,8,9,10],[0,1,2,3,5,6,4,7,8,9,10],[1,0,2,3,5,6,4,7,8,9,10],[1,2,3,5,6,0,4,7,8,9,10],[1,2,3,5,6,4,0,7,8,9,10],[1,2,3,5,6,4,7,0,8,9,10],[0,5,6,1,2,3,4,7,8,9,10],[5,6,0,1,2,3,4,7,8,9,10],[5,6,1,0,2,3,4,7,8,9,10],[5,6,1,2,3,4,0,7,8,9,10],[5,6,1,2,3,4,7,0,8,9,10]])])
theorem low114:Zo9 114 [(22,[[0,1,2,3,4,5,6]]),(23,[[0,1,2,3,4,5,6,7,8,9,10],[1,0,2,3,4,5,6,7,8,9,10],[1,2,3,4,0,5,6,7,8,9,10],[1,2,3,4,5,6,0,7,8,9,10],[1,2,3,4,5,6,7,0,8,9,10],[0,1,2,3,5,6,4,7,8,9,10],[1,0,2,3,5,6,4,7,8,9,10],[1,2,3,5,6,0,4,7,8,9,10],[1,2,3,5,6,4,0,7,8,9,10],[1,2,3,5,6,4,7,0,8,9,10],[0,5,6,1,2,3,4,7,8,9,10],[5,6,0,1,2,3,4,7,8,9,10],[5,6,1,0,2,3,4,7,8,9,10],[5,6,1,2,3,4,0,7,8,9,10],[5,6,1,2,3,4,7,0,8,9,10]])] F114:=Zx9
def F173:aO:=aZ (o:=gF pq Tryz.f173 [])
theorem low173:Zo9 173 [] F173:=Zx9
def F210:aO:=aZ (o:=gF pq Tryz.f210 [])
theorem low210:Zo9 210 [] F210:=Zx9
def F50:aO:=aZ (o:=gF pq Tryz.f50 [(12,[[0,1,2,3,4,5,6,7,8,9,10,11,12,13,14,15,16,17,18]]),(14,[[0,1,2,3,4,5,6,7,8,9,10,11,12,13,14,15,16,17]]),(20,[[0,1,2,3,4,5,6,7,8,9,10,11,12],[0,2,3,4,5,6,7,1,8,9,10,11,12]]),(25,[[0,1,2,3,4,5,6,7,8],[0,2,3,4,1,5,6,7,8]])])
theorem low50:Zo9 50 [(12,[[0,1,2,3,4,5,6,7,8,9,10,11,12,13,14,15,16,17,18]]),(14,[[0,1,2,3,4,5,6,7,8,9,10,11,12,13,14,15,16,17]]),(20,[[0,1,2,3,4,5,6,7,8,9,10,11,12],[0,2,3,4,5,6,7,1,8,9,10,11,12]]),(25,[[0,1,2,3,4,5,6,7,8],[0,2,3,4,1,5,6,7,8]])] F50:=Zx9
def F15:DIR:=Eh (X:=⟨83,[.aI 6 3,.cq 7],[(.mY [qB 3 25 0,qo 6 (.alloc 43 Ne1),
 qo 7 (.alloc 50 [Value.nilIface])] [1,2,3,6,7]),(qS [qN 16 5 3,qx 17 47 [16],qm 8 17] [1,2,3,6,7,8] (qS [qm 18 8,qc 19 .neq 18 0] [1,2,3,6,7,8,19] (qC 19 (qS [qo 20 (.build Ne1 []),qm 21 8,qo 22 (.I2 44 (.tmp 21)),
 qo 23 (.build [.string ⟨#[]⟩,.int .i64 0,Value.nilIface] [(0,1,(.const (.string ⟨#[82,101,115,111,108,118,101]⟩))),(2,1,(.tmp 22))]),
 qB 24 84 23,qo 25 (.I2 80 (.tmp 24)),qs 3 6 20,qs 1 7 25] [6,7] .ret) .skip)))],⟨26,48,[(.tmp 6),(.tmp 7)]⟩,(qS [qo 27 (.pQ),qo 28 (.pQ),
 qo 29 (.build [(Value.map none),(Value.map none),.slice none 0 0] [(0,1,(.tmp 27)),(1,1,(.tmp 28))]),qB 30 122 29,qm 9 30] [1,2,3,6,7,9] (.seq (qS [qm 31 1,qL 32 31,qk 33 0] [2,3,6,7,9,31,32,33] (.block 0 (.loop (qS [qb 34 .lss 33 32] [2,3,6,7,9,31,32,33,34] (.seq (qC 34 .skip (.exit 0)) (.seq (.block 1 (qS [qm 35 33,qi 36 1 31 33,ql 37 36,qm 10 35,qm 11 37] [2,3,6,7,9,10,11,31,32,33] (qS [qm 39 9,qn 40 39,qf 41 0 40,ql 42 41,qm 43 11,qo 44 (.lookup .str (.int .i64 0) true (.tmp 42) (.tmp 43)),qm 38 44,
 qe 45 38 0,qe 46 38 1,qm 12 45,qm 13 46] [2,3,6,7,9,10,11,13,31,32,33] (qS [qm 47 13,qo 48 (.un .not (.tmp 47))] [2,3,6,7,9,10,11,31,32,33,48] (qC 48 (.mY [qm 49 9,qn 50 49,qf 51 0 50,ql 52 51,qm 53 11,qm 54 10,⟨none,none,.Bn .str (.tmp 52) (.tmp 53) (.tmp 54)⟩] [2,3,6,7,9,31,32,33]) .skip))))) (.mY [qc 55 .add 33 1,qm 33 55] [2,3,6,7,9,31,32,33]))))))) (.seq (qS [qm 56 2,qL 57 56,qk 58 0] [3,6,7,9,56,57,58] (.block 2 (.loop (qS [qb 59 .lss 58 57] [3,6,7,9,56,57,58,59] (.seq (qC 59 .skip (.exit 2)) (.seq (.block 3 (qS [qi 60 1 56 58,ql 61 60,qm 15 61] [3,6,7,9,15,56,57,58] (.mY [qm 62 9,qn 63 62,qf 64 1 63,ql 65 64,qm 66 15,qo 67 (.lookup .str (.int .i64 0) false (.tmp 65) (.tmp 66)),
 qc 68 .add 67 1,⟨none,none,.Bn .str (.tmp 65) (.tmp 66) (.tmp 68)⟩] [3,6,7,9,56,57,58]))) (.mY [qc 69 .add 58 1,qm 58 69] [3,6,7,9,56,57,58]))))))) (qS [qm 70 9,qf 71 1 3,ql 72 71,qf 73 2 3,ql 74 73,qf 75 4 3,ql 76 75,
 qo 77 (.build [.int .u8 0,.string ⟨#[]⟩,.int .u8 0,.int .i64 0,.int .u64 0,.string ⟨#[]⟩,.slice none 0 0,.slice none 0 0,.slice none 0 0,.slice none 0 0,.int .i64 0] [(7,1,(.tmp 72)),(8,1,(.tmp 74)),(9,1,(.tmp 76))]),
 qo 78 (.pQ),qo 79 (.call 49 [(.tmp 70),(.tmp 77),(.const (.pointer none)),(.tmp 78)])] [3,6,7,9] (qS [qm 80 9,qN 81 5 3,qx 82 50 [80,81],qs 3 6 82,⟨none,none,.store 1 (.tmp 7) (.const Value.nilIface)⟩] [6,7] .ret)))))⟩)
theorem low15:Np Tryz.prog (zW [(0,[1,2,3,6,7]),(1,[1,2,3,6,7,8]),(2,[1,2,3,6,7,8,19]),(3,[6,7]),(4,[1,2,3,6,7]),(5,[1,2,3,6,7,9]),(6,[2,3,6,7,9,31,32,33]),(7,[2,3,6,7,9,31,32,33,34]),(8,[2,3,6,7,9,10,11,31,32,33]),(9,[2,3,6,7,9,10,11,13,31,32,33]),(10,[2,3,6,7,9,10,11,31,32,33,48]),(11,[2,3,6,7,9,31,32,33]),(12,[2,3,6,7,9,31,32,33]),(13,[3,6,7,9,56,57,58]),(14,[3,6,7,9,56,57,58,59]),(15,[3,6,7,9,15,56,57,58]),(16,[3,6,7,9,56,57,58]),(17,[3,6,7,9,56,57,58]),(18,[3,6,7,9]),(19,[6,7])]) (zW []) 15=some F15:=by kernel_rfl
def F48:RIR:=Eh (X:=⟨13,[],5,[qo 6 (.iv 80 (.pointer none) true (.tmp 5)),qm 4 6,qe 7 4 0,qe 8 4 1,qm 2 7,qm 3 8],(qS [qm 9 3] [0,1,2,9] (qC 9 (.mY [qo 10 (.build Ne1 []),qm 11 2,qo 12 (.I2 80 (.tmp 11)),
 qs 3 0 10,qs 1 1 12] []) .skip))⟩)
theorem low48:Nq Tryz.prog (zW [(0,[0,1,2,3]),(1,[0,1,2,9]),(2,[])]) (zW []) 48=some F48:=by kernel_rfl
def F27:aO:=aZ (o:=gF pq Tryz.f27 [])
theorem low27:Zo9 27 [] F27:=Zx9
def F71:aO:=aZ (o:=gF pq Tryz.f71 [(9,[[0,1,2,3,4,5,6,7],[0,1,3,4,2,5,6,7]])])
theorem low71:Zo9 71 [(9,[[0,1,2,3,4,5,6,7],[0,1,3,4,2,5,6,7]])] F71:=Zx9
end
noncomputable def thF0:Field:=((Tryz.prog.fieldsOf 217)[0]?).getD default
noncomputable def thF1:Field:=((Tryz.prog.fieldsOf 217)[1]?).getD default
noncomputable def i206:TypeInfo:=(Tryz.prog.info? 206).getD default
noncomputable def i3:TypeInfo:=(Tryz.prog.info? 3).getD default
theorem thP:ThP Tryz.prog 217 199 206:=
 ⟨⟨thF0,thF1,by kernel_rfl,by kernel_rfl,by kernel_rfl,by decide+kernel,by decide+kernel,by kernel_rfl,by kernel_rfl⟩,⟨i206,by kernel_rfl,by decide+kernel⟩,by kernel_rfl,by kernel_rfl,⟨3,i3,by kernel_rfl,by kernel_rfl,by kernel_rfl⟩⟩
theorem u124:Tryz.prog.underlying 124=some (.pointer 206):=by kernel_rfl
theorem F4:Tryz.prog.info? 206=some i206:=by kernel_rfl
theorem F5:i206.size≠0:=by decide+kernel
theorem R9(st:ah)(U:List UC)(Vs:List ax)(D:df st U Vs)(i v:Nat)(u:UC)(y:ax)(hu:U[i]? =some u)(A:Vs[v]? =some y)(hl:st.af v∈st.line i)(hb:st.uses.length < 1073741824):
 au Tryz.prog 232 [kE u.q,kE y.q] [WK U Vs] (λr Post=>∃J L,(r=.tuple #[]/\df (st.use i v) J L/\J.map UC.q=U.map UC.q/\J.map UC.body=U.map UC.body/\L.map ax.q=Vs.map ax.q)/\Post=[WK J L]):=by
 have hwf:=D.wf;have cL:i < st.outer.length:=by have:=(Vt.1 hu).1;rw[D.ul]at this;exact this
 have F3:v < st.vars.length:=by have:=(Vt.1 A).1;rw[D.vl]at this;exact this
 obtain⟨x,hx⟩:∃x,st.vars[v]? =some x:=⟨_,Zg F3⟩;have huo:st.af v=x.unit:=by unfold ah.af;rw[hx];rfl
 have hoo:st.bt v=x.own:=by unfold ah.bt;rw[hx];rfl
 obtain⟨⟨w,hw,hyw⟩,hya,S,bF,mW⟩:=D.vn v x y hx A;have C9:=(hwf.vu v x hx).2;have O:w.q=u.q->x.unit=i:=λe=>cQ.Xs D hw hu e
 have G:z4 (WK U Vs) w.q:=iz hw;have F:z4 (WK U Vs) u.q:=iz hu;have T:kC.cell y.q 0 (kE w.q)∈WK U Vs:=mN A _ (kJ.2 ⟨0,_,by unfold ax.row;rw[hyw];rfl,rfl⟩);have m1:kC.cell y.q 1 (.int .i64 x.own)∈WK U Vs:=mN A _ (kJ.2 ⟨1,_,by unfold ax.row;rw[hya];rfl,rfl⟩);refine au.intro low232 Zn9 ?_;generalize K:WK U Vs=B at G F T m1|-;refine ae ?_;refine st_eqp u124 F4 F5 Zr Zr (F.more Zs) (G.more Zs) ?_;refine ae ?_;by_cases he:u.q=w.q
 .rw[Zt he];refine ae ?_;refine kG (Post:=[B]) (.inr rfl) .nil ⟨U,Vs,⟨rfl,?_,rfl,rfl,rfl⟩,by rw[K]⟩ ZI;have e1:i=st.af v:=by rw[huo];exact(O he.symm).symm
  refine cQ.congr (D.useS cL F3) (λj t=>?_) (λk=>?_) (λk=>?_)
  .rw[Ja,hwf.sV Zo e1];simp
  .rw[Nx];by_cases e:v=k
   .subst e;simp[<- e1]
   .simp[e]
  .show st.uses.length<=(st.uses++[(i,v)]).length;rw[Vy];omega
 rw[Zf he];refine ae ?_;have Q:i≠st.af v:=λe=>he (by
  rw[huo]at e;rw[<- e,hu]at hw;rw[XC hw])
 have N:∀k,(st.use i v).rem k=(st.rem k||(decide (v=k)&&decide (x.own < 0))):=λk=>by
  rw[Nx];by_cases e:v=k
  .subst e;rw[hoo,show decide (st.af v≠i)=true from Zt (λe=>Q e.symm),vI]
  .simp[e]
 by_cases ho:x.own < 0
 .rw[show decide (x.own < 0)=true from Zt ho];obtain⟨R,hp,M⟩:=Sf (U:=U) A;rw[<- K];refine VC.imp (H:=[WK U Vs]) (H':=[kA y.q 3 [.bool y.remote],R]) (ai.perm (by simpa using hp)) ?_;refine ae ?_;obtain⟨rK,g⟩:∃rK,rK=Vs.set v {y with remote:=true}:=⟨_,rfl⟩;refine VC.imp (H':=[WK U rK]) (ai.perm (by rw[g];simpa using(M true).symm)) ?_;have Sv:rK[v]? =some {y with remote:=true}:=by rw[g,Vw];simp[(Vt.1 A).1]
  obtain⟨y2,Sv,hyq2,hyu2,hya2⟩:∃y2,rK[v]? =some y2/\y2.q=y.q/\y2.unit=y.unit/\y2.arg=y.arg:=⟨_,Sv,rfl,rfl,rfl⟩;have hvq2:rK.map ax.q=Vs.map ax.q:=by
   rw[g,List.map_set];exact za (by rw[Vu,A];rfl)
  obtain⟨Sx,E⟩:∃Sx:Nat->Bool,Sx=λk=>st.rem k||decide (v=k):=⟨_,rfl⟩
  have hrem2:∀k,(st.use i v).rem k=Sx k:=λk=>by rw[N,E];simp[ho]
  have M5:cQ st (nG st v []) Sx (λk=>st.uses.length+(if k∈([]:List Nat)then 1 else 0)) U rK:=by
   rw[g,E];exact(cQ.far D A).congr (λk t=>DS st v k t) (λk=>rfl) (λk=>by simp)
  clear g E M;exact zA0
 .rw[show decide (x.own < 0)=false from Zf ho];refine ae ?_;obtain⟨rK,g⟩:∃rK,rK=Vs:=⟨_,rfl⟩;rw[<- K];refine VC.imp (H':=[WK U rK]) (ai.perm (by rw[g])) ?_;obtain⟨y2,Sv,hyq2,hyu2,hya2⟩:∃y2,rK[v]? =some y2/\y2.q=y.q/\y2.unit=y.unit/\y2.arg=y.arg:=⟨_,by rw[g];exact A,rfl,rfl,rfl⟩;have hvq2:rK.map ax.q=Vs.map ax.q:=by rw[g]
  obtain⟨Sx,E⟩:∃Sx:Nat->Bool,Sx=st.rem:=⟨_,rfl⟩;have hrem2:∀k,(st.use i v).rem k=Sx k:=λk=>by rw[N,E];simp[ho]
  have M5:cQ st (nG st v []) Sx (λk=>st.uses.length+(if k∈([]:List Nat)then 1 else 0)) U rK:=by
   rw[g,E];exact cQ.congr D (λk t=>DS st v k t) (λk=>rfl) (λk=>by simp)
  clear g E;exact zA0
def om(l:List Nat):List (Nat×Nat):=(List.range l.length).reverse.map λi=>(i,l.getD i 0)
theorem oq(l:List Nat):(om l).length=l.length:=by unfold om;simp
theorem Jx {l:List Nat}{d k:Nat}(h:d+k+1=l.length):(om l)[d]? =some (k,l.getD k 0):=by
 unfold om;rw[Vu,List.getElem?_reverse (by rw[List.length_range];omega),List.length_range,List.getElem?_range Zo];have e:l.length - 1 - d=k:=by omega
 rw[e];rfl
theorem Oa(q:Nat)(l:List Nat)(v:Value)(L:List kC)(K:zH L v l)(hl:l.length < 1073741824):
 Iter Tryz.prog (.func (.func 210) #[] #[kE q]) (λx:Nat×Nat=>[vi x.1,kE x.2]) [kA q 0 [v],L] [] (λg=>g=om l):=by
 intro y J SP W A H;obtain⟨a,c,rfl,S⟩:=K;refine eH.cB (first:=#[]) (cap:=#[kE q]) ?_;show au Tryz.prog 210 [y,kE q] _ _;refine au.intro low210 Zn9 ?_;simp only[aE];refine ae ?_;refine VC.loop (α:=Nat×List kC) (bg:=λs=>[(0,y),(1,kE q),(3,.int .i64 ((l.length:Int) - 1 - s.1))]) (Hf:=λs=>[kA q 0 [.slice a l.length c],L,s.2]) (I:=λs=>s.1<=l.length/\J ((om l).take s.1) s.2) (μ:=λs=>l.length - s.1) (0,A) ⟨X3 _,by simpa using H⟩ (by simp only[Int.natCast_zero,Int.sub_zero];exact C0) ZI ?_
 rintro⟨d,m⟩ ⟨O,j⟩
 simp only at O j;dsimp only;refine ae ?_;by_cases aJ:d < l.length;rotate_left
 .rw[show decide ((0:Int)<=(l.length:Int) - 1 - (d:Int))=false from Zf Zo];refine ae ?_;have G:(om l).take d=om l:=Ql (by rw[oq];omega);rw[G]at j;exact kG (Post:=[m]) (.inl rfl) .nil ⟨rfl,.inl ⟨om l,m,rfl,j,rfl⟩⟩ ZI
 obtain⟨k,Q⟩:∃k,d+k+1=l.length:=⟨l.length - 1 - d,Zo⟩;have E:(l.length:Int) - 1 - (d:Int)=(k:Int):=by omega
 rw[E];rw[show decide ((0:Int)<=(k:Int))=true from Zt Zo];have C:=Jx Q;obtain⟨x,F⟩:∃x,l[k]? =some x:=⟨_,Zg Zo⟩;obtain⟨b,o,rfl,M⟩:=S k x F;have D:l.getD k 0=x:=by rw[Vh,F];rfl
 rw[D]at C;have N:kC.cell b (o+k) (kE x)∈L:=M;refine ae ?_;have aN:OkC (λg=>g=om l) ((om l).take d++[(k,x)]):=⟨(om l).drop (d+1),by
  have B:d < (om l).length:=by rw[oq];exact aJ
  have e:=(Vt.1 C).2;rw[vm,List.singleton_append,<- e,<- vw B,Qj]⟩
 refine fj Zr (W ((om l).take d) (k,x) m aN j) Zr ZP (λv Post U=>?_);rcases U with⟨rfl,A',T8,rfl⟩|⟨rfl,B',hB',rfl⟩
 .simp only[aE];refine ae ?_;have T:(om l).take (d+1)=(om l).take d++[(k,x)]:=by rw[Qi,C];rfl
  refine⟨(d+1,A'),⟨by show d+1<=l.length;omega,by simp only[T];exact T8⟩,by simp only;omega,by simp only;rw[show(l.length:Int) - 1 - ((d+1:Nat):Int)=(k:Int) - 1 by omega];exact C0,ZI⟩
 .exact zE9
theorem Oc(v:Value)(L:List kC)(d:v.cells.toList=[v]):au Tryz.prog 173 [v] [L] (λr Post=>∃q,r=.func (.func 210) #[] #[kE q]/\Post=[kA q 0 [v],L]):=by
 refine au.intro low173 Zn9 ?_;refine ae ?_;refine kX Zr (λq=>?_);rw[d];refine ae ?_;exact kG (Post:=[kA q 0 [v],L]) (.inr rfl) (.tmp Zr .nil) ⟨q,rfl,rfl⟩ ZI
theorem MR(st:ah)(l:List Nat)(r:Bool):yi st l r<=l.length:=Q5 _ _
theorem HZ(st:ah)(i:Nat)(r:Bool):yi st (st.ab i) r=(st.locals i r).length:=by unfold yi;rw[sg]
theorem We(st:ah)(AK:Ph st)(U:List UC)(Vs:List ax)(i:Nat)(hR:gk st i U Vs)(u:UC)(Y:U[i]? =some u)(hb:st.vars.length<=1048576/\st.outer.length<=1048576/\∀j,st.args.getD j 0<=1048576):
 au Tryz.prog 114 [kE u.q] [WK U Vs] (λr Post=>∃U' po,(r=.tuple #[]/\gk st (i+1) U' po/\U'.map UC.q=U.map UC.q/\U'.map UC.body=U.map UC.body/\po.map ax.q=Vs.map ax.q)/\Post=[WK U' po]):=by
 obtain⟨hbv,η,hba⟩:=hb;have cL:i < st.outer.length:=by have:=(Vt.1 Y).1;rw[hR.ul]at this;exact this
 obtain⟨htm,bn⟩:=hR.tm i u Y;obtain⟨n1,n2,n3,n4,n5⟩:=hR.nl i u Y (Qt _);obtain⟨mm,t1,t2,t3,t4⟩:=hR.nd i u Y;obtain⟨B,L⟩:∃l,l=st.ab i:=⟨_,rfl⟩;have rZ:u.ab.length=B.length:=by rw[htm,Q6,L]
 have htb:B.length<=1048576:=by
  rw[L];unfold ah.ab;have J:=Q5 (λv=>decide (st.af v=i)&&decide (st.bt v < 0)) (List.range st.vars.length);rw[List.length_range]at J;omega
 have hpt:=lA rfl bn;obtain⟨ta,tc,bB⟩:=bn.form;obtain⟨U1,OV⟩:∃U1:Nat->List UC,U1=λj=>U.set i {u with locals:=yi st (B.take j) false,ay:=yi st (B.take j) true}:=⟨_,rfl⟩
 obtain⟨V1,W⟩:∃V1:Nat->List ax,V1=λj=>Mi st Vs (B.take j):=⟨_,rfl⟩
 have hU0:U1 0=U:=by
  rw[OV];simp only[Qm];have e:({u with locals:=yi st [] false,ay:=yi st [] true}:UC)=u:=by
   cases u;simp only at n1 n2;subst n1;subst n2;rfl
  rw[e];exact za Y
 have hV0:V1 0=Vs:=by
  rw[W];simp only[Qm];exact slV_nil st Vs
 have hUi:∀j,(U1 j)[i]? =some {u with locals:=yi st (B.take j) false,ay:=yi st (B.take j) true}:=λj=>by
  rw[OV];simp only;rw[Vw,if_pos rfl,if_pos (Vt.1 Y).1]
 refine au.intro low114 Zn9 ?_;refine VC.join (α:=Nat) (bg:=λq=>[(1,kE q)]) (Hf:=λq=>[kA q 0 [kE u.q],WK (U1 0) (V1 0)]) (I:=λ_=>True) ?_ (λG _=>?_)
 .refine ae ?_;refine kX Zr (λq=>?_);simp only[Value.cells];refine ae ?_;exact⟨q,trivial,ZU,by rw[hU0,hV0];exact bT⟩
 refine VC.scope ?_;refine VC.join (α:=Unit) (bg:=λ_=>[(1,kE G)]) (Hf:=λ_=>[kA G 0 [kE u.q],WK (U1 B.length) (V1 B.length)]) (I:=λ_=>True) ?_ (λ_ _=>?_)
 .have k5:kC.cell u.q 5 (.slice ta B.length tc)∈WK (U1 0) (V1 0):=by
   rw[hU0,hV0];exact yP Y _ (QJ _ (Zw _ (kJ.2 ⟨5,_,by unfold UC.row;rw[bB,rZ];rfl,rfl⟩)))
  refine ae ?_;refine VC.loop (α:=Nat) (bg:=λj=>[(1,kE G),(13,.slice ta B.length tc),(14,vi B.length),(15,vi j)]) (Hf:=λj=>[kA G 0 [kE u.q],WK (U1 j) (V1 j)]) (I:=λj=>j<=B.length) (μ:=λj=>B.length - j) 0 (X3 _) ZU ZI ?_;intro j hj;refine ae ?_;by_cases aJ:j < B.length;rotate_left
  .rw[show decide ((j:Int) < (B.length:Int))=false from Zf Zo];obtain rfl:j=B.length:=by omega
   exact Sk
  rw[show decide ((j:Int) < (B.length:Int))=true from Zt Zo];obtain⟨v,hv⟩:∃v,B[j]? =some v:=⟨_,Zg aJ⟩;have hvm:v∈st.ab i:=L ▸ Zv hv;have F3:=Cw hvm;obtain⟨y,hy⟩:∃y,Vs[v]? =some y:=⟨_,Zg (by rw[hR.vl];exact F3)⟩;obtain⟨x,K⟩:∃x,st.vars[v]? =some x:=⟨_,Zg F3⟩;obtain⟨_,_,bF,_⟩:=hR.vn v x y K hy;obtain⟨y1,Ze,T,hy1r⟩:∃y1,(V1 j)[v]? =some y1/\y1.q=y.q/\y1.remote=st.rem v:=⟨{y with slot:=if v∈B.take j then(st.bW v).toNat else y.slot},by rw[W];exact iu hy,rfl,bF⟩;obtain⟨R,X,hr⟩:=wk_lay (hUi j) Ze;simp only at X hr;rw[T]at X;have hpp:=X;rw[<- vm]at hpp;have hqj:u.ab[j]? =some y.q:=by
   rw[htm,<- L,Vu,hv];show some (Vs.getD v Cz).q=_;rw[Vh,hy];rfl
  obtain⟨ta',tc',A4,hpt'⟩:=hpt;rw[bB]at A4;simp only[Value.slice.injEq]at A4;obtain⟨tb,to,hta,htc⟩:=hpt' j y.q hqj;rw[<- A4.1]at hta;subst hta;have k1:kC.cell tb (to+j) (kO (some y.q))∈R:=iA hpp (yP (hUi j) _ (QJ _ (QH _ (Zw _ htc)))) (by simp[kA,kO]);have k1:kC.cell tb (to+j) (kE y.q)∈R:=k1;have k3:kC.cell y.q 3 (.bool (st.rem v))∈R:=iA hpp (mN Ze _ (kJ.2 ⟨3,_,by unfold ax.row;rw[hy1r];rfl,by rw[T]⟩)) MJ;have hso:st.bW v=(yi st (B.take j) (st.rem v):Int):=by
   have:=NL (L ▸ hv);rw[this,L];rfl
  have hUs:∀l n,(U1 j).set i {u with locals:=l,ay:=n}=U.set i {u with locals:=l,ay:=n}:=λl n=>by
   rw[OV];simp only[List.set_set]
  have hVn:(V1 j).set v {y1 with slot:=(st.bW v).toNat}=V1 (j+1):=by
   have e:B.take (j+1)=B.take j++[v]:=by rw[Qi,hv];rfl
   rw[W];simp only;rw[e];exact slV_set hy (by rw[<- Ze,W])
  have Up:=MR st (B.take j) true;have dE:=MR st (B.take j) false;have nO:=List.length_take_le j B;have nU:=DQ st hv true;have tQ:=DQ st hv false;have hUn:U1 (j+1)=U.set i {u with locals:=yi st (B.take (j+1)) false,ay:=yi st (B.take (j+1)) true}:=by rw[OV]
  refine VC.imp (H':=[kA G 0 [kE u.q],kA y.q 4 [.int .i64 y1.slot],kA u.q 1 [.int .i64 (yi st (B.take j) false),.int .i64 (yi st (B.take j) true)],R]) (ai.perm (by simp only[Vd,Ve,vp];exact vZ _ X)) ?_;cases nS:st.rem v with
  |true=>
   rw[nS]at k3 hso;rw[nS]at nU tQ;simp only[if_true,Bool.true_eq_false,if_false,Qp]at nU tQ;refine ae ?_;refine⟨j+1,Zo,Zo,ZU,?_⟩;have cP:=hr (yi st (B.take j) false) (yi st (B.take j) true+1) (st.bW v).toNat;rw[hVn,hUs,T]at cP;rw[hUn,nU,tQ];refine ai.cut (M:=[kA G 0 [kE u.q],kA y.q 4 [.int .i64 ((yi st (B.take j) true:Int))],kA u.q 1 [.int .i64 ((yi st (B.take j) false:Int)),.int .i64 ((yi st (B.take j) true:Int)+1)],R]) ZI (ai.perm ?_);simp only[Vd,Ve,vp];refine vZ _ ?_;have e:((st.bW v).toNat:Int)=(yi st (B.take j) true:Int):=by omega
   rw[e]at cP;simp only[Int.natCast_add,Int.natCast_one]at cP;exact cP.symm
  |false=>
   rw[nS]at k3 hso;rw[nS]at nU tQ;simp only[if_true,vM,if_false,Qp]at nU tQ;refine ae ?_;refine⟨j+1,Zo,Zo,ZU,?_⟩;have cP:=hr (yi st (B.take j) false+1) (yi st (B.take j) true) (st.bW v).toNat;rw[hVn,hUs,T]at cP;rw[hUn,nU,tQ];refine ai.cut (M:=[kA G 0 [kE u.q],kA y.q 4 [.int .i64 ((yi st (B.take j) false:Int))],kA u.q 1 [.int .i64 ((yi st (B.take j) false:Int)+1),.int .i64 ((yi st (B.take j) true:Int))],R]) ZI (ai.perm ?_);simp only[Vd,Ve,vp];refine vZ _ ?_;have e:((st.bW v).toNat:Int)=(yi st (B.take j) false:Int):=by omega
   rw[e]at cP;simp only[Int.natCast_add,Int.natCast_one]at cP;exact cP.symm
 obtain⟨E,hU2⟩:∃E,E=U1 B.length:=⟨_,rfl⟩;obtain⟨H,hV2⟩:∃H,H=V1 B.length:=⟨_,rfl⟩;rw[<- hU2,<- hV2];have cA:B.take B.length=B:=Qk;have T9:E=U.set i {u with locals:=(st.locals i false).length,ay:=(st.locals i true).length}:=by
  rw[hU2,OV];simp only;rw[cA,L,HZ,HZ]
 have hV2e:H=Mi st Vs (st.ab i):=by
  rw[hV2,W];simp only;rw[cA,L]
 have lR:E.map UC.q=U.map UC.q:=by rw[T9];exact zp Y rfl
 have UO:E[i]? =some {u with locals:=(st.locals i false).length,ay:=(st.locals i true).length}:=by
  rw[T9,Vw,if_pos rfl,if_pos (Vt.1 Y).1]
 clear OV W hU0 hV0 hUi hU2 hV2;have s5:∀x∈st.around i,x < i:=λx K=>by
  unfold ah.around at K;have nN:=AK.wf.fu i;rw[AK.wf.line Zo]at K;simp only[List.drop_succ_cons,vy]at K;split at K
  .cases K
  .have:=AK.wf.xW _ Zo x K;omega
 have aC:∀x∈st.around i,∃w,E[x]? =some w/\U[x]? =some w/\w.q=qU U x:=λx K=>by
  have J:=s5 x K;obtain⟨w,hw⟩:∃w,U[x]? =some w:=⟨_,Zg (by rw[hR.ul];omega)⟩;exact⟨w,by rw[T9,Vw,if_neg Zo];exact hw,hw,(gP hw).symm⟩
 have aj:=Ah st i;obtain⟨F,hpt2⟩:∃F,F=(st.around i).map (qU U):=⟨_,rfl⟩;have nQ:F.length=(st.around i).length:=by rw[hpt2,Q6]
 refine jH ?_;refine VC.join (α:=Value×List Value) (bg:=λs=>[(1,kE G),(4,s.1)]) (Hf:=λs=>[kA G 0 [kE u.q],WK E H,ao s.1 (F.map λb=>kO (some b)) s.2]) (I:=λs=>ky 1 s.1 F.length (F.map λb=>kO (some b)) s.2) ?_ ?_
 .have k3:kC.cell u.q 3 (xC U (st.around i) 0)∈WK E H:=by
   rw[<- hR.outerQ Y];exact yP UO _ (QJ _ (Zw _ (kJ.2 ⟨3,_,rfl,rfl⟩)))
  refine ae ?_;refine VC.loop (α:=Nat×Value×List Value) (bg:=λs=>[(1,kE G),(4,s.2.1),(5,xC U (st.around i) s.1)]) (Hf:=λs=>[kA G 0 [kE u.q],WK E H,ao s.2.1 ((F.take s.1).map λb=>kO (some b)) s.2.2]) (I:=λs=>s.1<=F.length/\ky 1 s.2.1 s.1 ((F.take s.1).map λb=>kO (some b)) s.2.2) (μ:=λs=>F.length - s.1) (0,Nz,[]) ⟨X3 _,.nil⟩ ZU (ai.cut (M:=[kA G 0 [kE u.q],WK E H]) ZI (ai.perm (by simp[ao]))) ?_
  rintro⟨d,sv,sp⟩ ⟨hd,iG⟩
  simp only at hd iG;dsimp only;obtain⟨sa,sc,rfl⟩:=iG.form;by_cases aJ:d < F.length;rotate_left
  .have he:xC U (st.around i) d=.pointer none:=by
    unfold xC;rw[Vp Zo]
   rw[he];have htk2:F.take d=F:=Ql Zo;have hde:d=F.length:=by omega
   rw[htk2]at iG|-;refine ae ?_;exact⟨(.slice sa d sc,sp),by rw[<- hde];exact iG,ZU,ZI⟩
  obtain⟨x,K⟩:∃x,(st.around i)[d]? =some x:=⟨_,Zg Zo⟩;obtain⟨w,UT,hw,rH⟩:=aC x (Zv K);have he:xC U (st.around i) d=kE w.q:=by
   unfold xC;rw[K,rH]
  have hon:=hR.outerN cL K hw;have k4:kC.cell w.q 3 (xC U (st.around i) (d+1))∈WK E H:=by
   rw[<- hon];exact yP UT _ (QJ _ (Zw _ (kJ.2 ⟨3,_,rfl,rfl⟩)))
  have hpd:F[d]? =some w.q:=by rw[hpt2,Vu,K,rH];rfl
  rw[he];obtain⟨nx,hnx⟩:∃nx,nx=xC U (st.around i) (d+1):=⟨_,rfl⟩;rw[<- hnx]at k4;refine ae ?_;refine j8 (out:=[kE w.q]) Zr Zr (λrr=>?_);refine ae ?_;refine kw (k:=d) (m:=1) (xs:=(F.take d).map λb=>kO (some b)) (sp:=sp) (ys:=[kE w.q]) Zr Zr iG ZK Zr ?_ rfl Zr Zr Zd Zo (λcw bA aH=>?_)
  .exact C2
  have hfv:((F.take d).map λb=>kO (some b))++[kE w.q]=(F.take (d+1)).map λb=>kO (some b):=by
   rw[Qi,hpd];simp[kO]
  rw[hfv]at aH|-;obtain⟨oV,oW,rfl⟩:=aH.form;refine ae ?_;exact⟨(d+1,.slice oV (d+1) oW,bA),⟨by simp only;omega,aH⟩,by simp only;omega,by simp only[<- hnx];exact C0,ZI⟩
 rintro⟨sv,sp⟩ iG
 simp only at iG;dsimp only;have hpr:=lA rfl iG;obtain⟨sa,sc,rfl⟩:=iG.form;refine VC.seq (VC.label ?_);refine ae ?_;refine kH (Oc (.slice sa F.length sc) (ao (.slice sa F.length sc) (F.map λb=>kO (some b)) sp) rfl) Zr ZP (λv Post hv=>?_);obtain⟨q2,rfl,rfl⟩:=hv;simp only[aE];refine ae ?_;obtain⟨D,S⟩:∃D:UC,D={u with locals:=(st.locals i false).length,ay:=(st.locals i true).length}:=⟨_,rfl⟩;rw[<- S]at UO T9;have hu2q:D.q=u.q:=by rw[S]
 have hu2n:D.nb=u.nb/\D.es=u.es/\D.cl=u.cl/\D.dZ=[]/\D.cv=Nz/\D.cC=[]:=by rw[S];exact⟨rfl,rfl,rfl,n3,n4,n5⟩
 have ψ:∀dZ cv C,dZ=zi U (st.copied i)->ky 2 cv dZ.length (dZ.flatMap ja) C->gk st (i+1) (E.set i {D with dZ:=dZ,cv:=cv,cC:=C}) H/\(E.set i {D with dZ:=dZ,cv:=cv,cC:=C}).map UC.q=U.map UC.q/\(E.set i {D with dZ:=dZ,cv:=cv,cC:=C}).map UC.body=U.map UC.body/\H.map ax.q=Vs.map ax.q:=λdZ cv C hc hs=>by
  have e:E.set i {D with dZ:=dZ,cv:=cv,cC:=C}=U.set i {u with locals:=(st.locals i false).length,ay:=(st.locals i true).length,dZ:=zi U (st.copied i),cv:=cv,cC:=C}:=by
   rw[T9,List.set_set,S,hc]
  rw[e,hV2e];subst hc;exact⟨hR.step Y hs,zp Y rfl,tZ Y rfl,slV_q _ _ _⟩
 obtain⟨WF,hWF⟩:∃WF:List (Nat×Int)->Value->List Value->List kC,WF=λc' v' p'=>WK (E.set i {D with dZ:=c',cv:=v',cC:=p'}) H:=⟨_,rfl⟩
 have OW:∀c' v' p',WK (E.set i {D with dZ:=c',cv:=v',cC:=p'}) H=WF c' v' p':=λc' v' p'=>by rw[hWF]
 refine VC.iM (α:=Nat×Nat) (enc:=λx=>[vi x.1,kE x.2]) (λd A=>∃cv C,ky 2 cv (zi U (st.nC i d.length)).length ((zi U (st.nC i d.length)).flatMap ja) C/\A=[kA G 0 [kE u.q],WK (E.set i {D with dZ:=zi U (st.nC i d.length),cv:=cv,cC:=C}) H].flatten) ([kA G 0 [kE u.q],WK E H].flatten) Zr (Oa q2 F _ _ hpr Zo) (R:=[kA G 0 [kE u.q],WK E H]) ZP (ai.perm Zs) ?_ (λ_=>rfl) ?_ ?_
 .refine⟨Nz,[],.nil,?_⟩;have e:({D with dZ:=zi U (st.nC i 0),cv:=Nz,cC:=[]}:UC)=D:=by
   obtain⟨_,_,_,J,h2,h3⟩:=hu2n;cases D;simp only at J h2 h3;subst J;subst h2;subst h3;rfl
  show _=[kA G 0 [kE u.q],WK (E.set i {D with dZ:=zi U (st.nC i 0),cv:=Nz,cC:=[]}) H].flatten;rw[e,za UO]
 .rintro c x A aN ⟨cv,C,Kh,rfl⟩
  obtain⟨rest,bR⟩:=aN;have pA:(om F)[c.length]? =some x:=by rw[<- bR];simp
  have hdl:c.length < F.length:=by have:=(Vt.1 pA).1;rwa [oq]at this
  obtain⟨k,hk⟩:∃k,c.length+k+1=F.length:=⟨F.length - 1 - c.length,Zo⟩;obtain⟨o,ho⟩:∃o,(st.around i)[k]? =some o:=⟨_,Zg Zo⟩;obtain⟨w,UT,hw,rH⟩:=aC o (Zv ho);have hoi:=s5 o (Zv ho);have Nh:x=(k,w.q):=by
   rw[Jx hk]at pA;rw[<- XC pA,hpt2,Vh,Vu,ho,rH];rfl
  subst Nh;have hor:(st.around i).reverse[c.length]? =some o:=by
   rw[List.getElem?_reverse Zo];have e:(st.around i).length - 1 - c.length=k:=by omega
   rw[e];exact ho
  have hsucc:=Oh st hor;have hwa:=(hR.ar o w hw).1;obtain⟨N,Eb⟩:∃N,N=st.args.getD o 0:=⟨_,rfl⟩;have hnab:=hba o;rw[<- Eb]at hwa hnab;obtain⟨g,hCK⟩:∃g:Nat->List (Nat×Int),g=λm=>zi U (st.nC i c.length++((st.things o).take m).filter (st.bi i)):=⟨_,rfl⟩
  have hC0:g 0=zi U (st.nC i c.length):=by rw[hCK];simp
  have hCe:g (N+1)=zi U (st.nC i (c.length+1)):=by
   rw[hCK];simp only;rw[hsucc,Ql (by rw[rE];omega)]
  have hCl:∀m,(g m).length<=1048577*1048577:=λm=>by
   rw[hCK];simp only;unfold zi;rw[Q6,Vy];have J:=Tj (st:=st) (u:=i) (k:=c.length) hba;have h2:=Q5 (st.bi i) ((st.things o).take m);have h3:=List.length_take_le' m (st.things o);rw[rE,<- Eb]at h3;omega
  have hCs:∀m,m < N+1->g (m+1)=g m++(if st.bi i (o,(m:Int) - 1)=true then [(w.q,(m:Int) - 1)]else []):=λm hm=>by
   rw[hCK];simp only;rw[D3 (Mw st (by rw[<- Eb];exact hm)),<- vm];unfold zi;rw[QB]
   congr 1
   split
   .simp[rH]
   .rfl
  simp only[Aj];refine VC.imp (H':=[kA G 0 [kE u.q],WK (E.set i {D with dZ:=zi U (st.nC i c.length),cv:=cv,cC:=C}) H]) (ai.perm Zs) ?_;refine VC.mY ?_;refine ae ?_;refine⟨trivial,?_⟩;refine ae ?_;refine VC.loop (α:=Nat×Value×List Value) (bg:=λs=>[(1,kE G),(7,kE w.q),(8,.int .i64 ((s.1:Int) - 1))]) (Hf:=λs=>[kA G 0 [kE u.q],WK (E.set i {D with dZ:=g s.1,cv:=s.2.1,cC:=s.2.2}) H]) (I:=λs=>s.1<=N+1/\ky 2 s.2.1 (g s.1).length ((g s.1).flatMap ja) s.2.2) (μ:=λs=>N+1 - s.1) (0,cv,C) ⟨X3 _,by simp only[hC0];exact Kh⟩ (by simp only[Int.natCast_zero,Int.zero_sub];exact C0) (by simp only[hC0];exact bT) ?_
  rintro⟨m,cv1,tC⟩ ⟨hm,OZ⟩
  simp only at hm OZ;dsimp only;obtain⟨O,Q,rfl⟩:=OZ.form;have hu3:(E.set i {D with dZ:=g m,cv:=.slice O (g m).length Q,cC:=tC})[i]? =some {D with dZ:=g m,cv:=.slice O (g m).length Q,cC:=tC}:=by
   rw[Vw,if_pos rfl,if_pos (Vt.1 UO).1]
  obtain⟨R,X,hr,hoth,C9,iF⟩:=wk_cop2 (V:=H) hu3;simp only[List.set_set]at X hr;simp only[OW]at X hr;simp only[hu2q,hu2n.2.1,hu2n.2.2.1]at X hr C9 iF;have K8:∀(j:Nat) z,j≠i->E[j]? =some z->∀a∈z.atoms,a∈R:=λj z hj hz=>hoth j z hj (by rw[Vw,if_neg (λe=>hj e.symm)];exact hz)
  have ka:kC.cell w.q 0 (.int .i64 N)∈R:=K8 o w Zo UT _ (QJ _ (Zw _ (kJ.2 ⟨0,_,by unfold UC.row;rw[hwa];rfl,rfl⟩)));have km:kC.cell u.q 6 (.map (some D.nb))∈R:=iF _ (kJ.2 ⟨6,_,rfl,rfl⟩);have Ft:∀(j:Nat) z,E[j]? =some z->z4 R z.q:=λj z hz=>by
   by_cases e:j=i
   .subst e;rw[UO]at hz;obtain rfl:=XC hz;rw[hu2q];exact⟨⟨9,C9⟩,⟨_,iF _ (kJ.2 ⟨0,_,rfl,rfl⟩)⟩⟩
   .exact⟨⟨9,K8 j z e hz _ (QK ..)⟩,⟨_,K8 j z e hz _ (QJ _ (Zw _ (kJ.2 ⟨0,_,rfl,rfl⟩)))⟩⟩
  have Na:=Ft o w UT;have hlm:∀p∈mm,z4 R p.1.1:=λp X=>by
   obtain⟨⟨j,z,J,h2⟩,_⟩:=t3 p X;have hq:=Fg lR j;rw[J]at hq;obtain⟨z2,h3,h4⟩:=X9.1 hq;rw[h2,<- h4];exact Ft j z2 h3
  have hCm:=hCl m;refine VC.imp (H':=[kA G 0 [kE u.q],[.obj D.nb (.map u.es u.cl)],kA u.q 7 [.slice O (g m).length Q],ao (.slice O (g m).length Q) ((g m).flatMap ja) tC,R]) (ai.perm (by simp only[Vd,Ve,vp];rw[OW];exact vZ _ X)) ?_;refine ae ?_;by_cases CU:m < N+1;rotate_left
  .rw[show decide ((m:Int) - 1 < (N:Int))=false from Zf Zo];obtain rfl:m=N+1:=by omega
   refine ae ?_;refine⟨_,⟨.slice O (g (N+1)).length Q,tC,?_,rfl⟩,?_⟩
   .rw[Vy,Q9,<- hCe];exact OZ
   .rw[Vy,Q9,<- hCe];have h9:=hr (g (N+1)) (.slice O (g (N+1)).length Q) tC;refine ai.cut (M:=[kA G 0 [kE u.q],[.obj D.nb (.map u.es u.cl)],kA u.q 7 [.slice O (g (N+1)).length Q],ao (.slice O (g (N+1)).length Q) ((g (N+1)).flatMap ja) tC,R]) ZI (ai.perm ?_);simp only[Vd,Ve,vp];rw[OW];exact vZ _ h9.symm
  rw[show decide ((m:Int) - 1 < (N:Int))=true from Zt Zo];refine ae ?_;refine RW Zr (.there .here) t1.of ?_;refine ae ?_;by_cases Y8:mm=[]
  .rw[show decide ((mm.length:Int)=0)=true from Zt (by rw[Y8];rfl)];have hz:∀Z∈st.around i,∀t∈st.things Z,¬st.bi i t=true:=λZ AU t ht hn=>by
    obtain⟨w',_,tS,_⟩:=aC Z AU;obtain⟨e1,_⟩:=me.1 ht;have J:=t4 Z w' t.2 tS;have e2:(Z,t.2)=t:=by rw[<- e1]
    rw[e2]at J;have:=J.2 hn;rw[Y8]at this;cases this
   have hf0:∀Z∈st.around i,(st.things Z).filter (st.bi i)=[]:=λZ AU=>V7.2 (hz Z AU)
   have hc0:st.copied i=[]:=by
    unfold ah.copied;rw[List.flatMap_eq_nil_iff];exact λZ AU=>hf0 Z (by unfold ah.around;simpa using AU)
   have D8:g m=[]:=by
    rw[hCK];simp only;have e1:st.nC i c.length=[]:=by
     unfold ah.nC;rw[List.flatMap_eq_nil_iff];exact λZ AU=>hf0 Z (by have:=QP AU;simpa using this)
    have e2:((st.things o).take m).filter (st.bi i)=[]:=V7.2 λt ht=>hz o (Zv ho) t (QP ht)
    rw[e1,e2];rfl
   obtain⟨J,h2,h3,h4⟩:=ψ (g m) _ _ (by rw[D8,hc0];rfl) OZ;have h9:=hr (g m) (.slice O (g m).length Q) tC;refine ae ?_;exact⟨(λl h=>by cases h),kG (Post:=[WK (E.set i {D with dZ:=g m,cv:=.slice O (g m).length Q,cC:=tC}) H]) (.inl rfl) .nil ⟨_,_,⟨rfl,J,h2,h3,h4⟩,rfl⟩ (by
    rw[OW];refine ai.cut (M:=[[.obj D.nb (.map u.es u.cl)],kA u.q 7 [.slice O (g m).length Q],ao (.slice O (g m).length Q) ((g m).flatMap ja) tC,R]) ZI (ai.perm ?_);simp only[Vd,Ve,vp];exact h9.symm)⟩
  have hmm0:0 < mm.length:=by
   cases mm with
   |nil=>exact absurd rfl Y8
   |cons _ _=>simp
  rw[show decide ((mm.length:Int)=0)=false from Zf Zo];refine ae ?_;refine kK (λq9=>?_);refine ae ?_;refine uC (k:=(w.q,(m:Int) - 1)) thP Zr Zr (.there (.there .here)) t1.of (Na.more (λ_ K=>by simp[K])) (λp X=>(hlm p X).more (λ_ K=>by simp[K])) ?_;have Hk:decide ((0:Int) < (jE (w.q,(m:Int) - 1) mm).getD 0)=st.bi i (o,(m:Int) - 1):=by
   have J:=t4 o w ((m:Int) - 1) hw;cases e:jE (w.q,(m:Int) - 1) mm with
   |none=>
    rw[e]at J;cases e2:st.bi i (o,(m:Int) - 1)with
    |false=>rfl
    |true=>have:=J.2 e2;cases this
   |some z=>
    rw[e]at J;rw[J.1 rfl];have:=(t3 _ (Bp e)).2.1;exact Zt this
  refine ae ?_;rw[Hk];have Il:=hCs m CU;cases hneed:st.bi i (o,(m:Int) - 1)with
  |false=>
   rw[hneed]at Il;simp only[vM,if_false,vp]at Il;have h9:=hr (g m) (.slice O (g m).length Q) tC;refine ae ?_;refine⟨(m+1,.slice O (g m).length Q,tC),⟨by simp only;omega,by simp only[Il];exact OZ⟩,by simp only;omega,by simp only;rw[show((m+1:Nat):Int) - 1=(m:Int) - 1+1 by omega];exact C0,?_⟩;simp only[Il];rw[OW];refine ai.cut (M:=[kA G 0 [kE u.q],[.obj D.nb (.map u.es u.cl)],kA u.q 7 [.slice O (g m).length Q],ao (.slice O (g m).length Q) ((g m).flatMap ja) tC,R]) ZI (ai.perm ?_);exact zEU
  |true=>
   rw[hneed]at Il;simp only[if_true]at Il;have Hp:(g m).flatMap ja++[kE w.q,.int .i64 ((m:Int) - 1)]=(g (m+1)).flatMap ja:=by
    rw[Il,VV,Vb];rfl
   have hcl1:(g (m+1)).length=(g m).length+1:=by rw[Il,Vy];rfl
   refine jH ?_;refine VC.draws ⟨?_,?_,?_,?_,?_,?_,?_,?_,?_,?_,?_,?_,?_,?_,?_,trivial⟩
   all_goals
    refine ae ?_;refine j8 (out:=[kE w.q,.int .i64 ((m:Int) - 1)]) Zr Zr (λrr=>?_);refine ae ?_;refine kw (k:=(g m).length) (m:=1) (xs:=(g m).flatMap ja) (sp:=tC) (ys:=[kE w.q,.int .i64 ((m:Int) - 1)]) Zr Zr OZ ZK Zr ?_ rfl Zr Zr Zd Zo (λcw bA aH=>?_)
    .exact C2
    rw[Hp,<- hcl1]at aH;rw[Hp];obtain⟨oV,oW,rfl⟩:=aH.form;have h9:=hr (g (m+1)) (.slice oV (g (m+1)).length oW) bA;refine ae ?_;refine⟨(m+1,.slice oV (g (m+1)).length oW,bA),⟨by simp only;omega,aH⟩,by simp only;omega,by simp only;rw[show((m+1:Nat):Int) - 1=(m:Int) - 1+1 by omega];exact C0,?_⟩;simp only;rw[OW];refine ai.cut (M:=[kA G 0 [kE u.q],[.obj D.nb (.map u.es u.cl)],kA u.q 7 [.slice oV (g (m+1)).length oW],ao (.slice oV (g (m+1)).length oW) ((g (m+1)).flatMap ja) bA,R]) ZI (ai.perm ?_);exact zEU
 .rintro full A rfl ⟨cv,C,Kh,rfl⟩
  rw[oq,nQ,H0 st i (Qt _)]at Kh;obtain⟨J,h2,h3,h4⟩:=ψ _ _ _ rfl Kh;rw[oq,nQ,H0 st i (Qt _)];exact⟨(λl h=>by cases h),kG (Post:=[WK (E.set i {D with dZ:=zi U (st.copied i),cv:=cv,cC:=C}) H]) (.inl rfl) .nil ⟨_,_,⟨rfl,J,h2,h3,h4⟩,rfl⟩ (ai.cut (M:=[kA G 0 [kE u.q],WK (E.set i {D with dZ:=zi U (st.copied i),cv:=cv,cC:=C}) H]) (ai.perm Zs) ZI)⟩
theorem EW(a l v c:Nat)(h:a < 1073741824/\l < 1073741824/\v < 1073741824/\c < 4398046511104):au Tryz.prog 115 [.agg #[vi a,vi l,vi v],vi c] [] (λr Post=>r=vi ((a+c+l+(if 0 < v then 1 else 0):Nat):Int)/\Post=[]):=by
 obtain⟨h1,h2,h3,h4⟩:=h;refine au.intro low115 Zn9 ?_;refine ae ?_;refine kX Zr (λq=>?_);simp only[Value.cells];refine ae ?_;by_cases hv:0 < v
 .rw[show decide ((0:Int) < (v:Int))=true from Zt Zo,if_pos hv];refine ae ?_;refine kG (Post:=[]) (.inr rfl) (.tmp (v:=vi ((a+c+l+1:Nat):Int)) Zr .nil) ⟨rfl,rfl⟩ ZI
 .rw[show decide ((0:Int) < (v:Int))=false from Zf Zo,if_neg hv];refine ae ?_;refine kG (Post:=[]) (.inr rfl) (.tmp (v:=vi ((a+c+l:Nat):Int)) Zr .nil) ⟨rfl,rfl⟩ ZI
theorem OL {α:Type}[DecidableEq α]{l:List α}{k:α}(h:∀i x,i < l.length->l[i]? =some x->x≠k):l.findIdx? (λy=>decide (y=k))=none:=by
 rw[List.findIdx?_eq_none_iff];intro x g;obtain⟨i,d⟩:=Vv g;exact Zf (h i x (Vt.1 d).1 d)
theorem OM {α:Type}[DecidableEq α]{l:List α}{k:α}{j:Nat}(d:l[j]? =some k)(h:∀i x,i < j->l[i]? =some x->x≠k):l.findIdx? (λy=>decide (y=k))=some j:=by
 have g:=(Vt.1 d).1;rw[List.findIdx?_eq_some_iff_getElem];refine⟨g,?_,λi q=>?_⟩
 .rw[Zg g]at d;exact Zt (XC d)
 .have m:i < l.length:=by omega
  simp only[Bool.not_eq_true,decide_eq_false_iff_not];exact h i _ q (Zg m)
theorem Lk(B:List kC)(l:List (Nat×Int))(a:Option Addr)(c:Nat)(O4:l.length < 4398046511104)(C:∀(i:Nat) t,l[i]? =some t->∃b o,a=some ⟨b,o,none⟩/\∀y∈kA b (o+i*2) [kE t.1,.int .i64 t.2],y∈B)(F:∀t∈l,z4 B t.1)(k:Nat×Int)(E:z4 B k.1):
 au Tryz.prog 174 [.slice a l.length c,iw k] [B] (λv Post=>v=.int .i64 (nW l k)/\Post=[B]):=by
 refine au.intro low174 Zn9 ?_;unfold iw;refine ae ?_;refine kX Zr (λq=>?_);simp only[Value.cells];refine ae ?_;refine VC.loop (α:=Nat) (bg:=λs=>[(0,.slice a l.length c),(3,kE q),(7,vi l.length),(8,vi s)]) (Hf:=λ_=>[kA q 0 [kE k.1,.int .i64 k.2],B]) (I:=λs=>s<=l.length/\∀i x,i < s->l[i]? =some x->x≠k) (μ:=λs=>l.length - s) 0 ⟨X3 _,λi x h=>by omega⟩ ZU ZI ?_
 rintro j ⟨hj,m⟩
 refine ae ?_;by_cases aJ:j < l.length;rotate_left
 .rw[show decide ((j:Int) < (l.length:Int))=false from Zf Zo];refine ae ?_;refine kG (Post:=[B]) (.inr rfl) (.tmp Zr .nil) ⟨?_,rfl⟩ ZI;unfold nW;rw[OL (λi x A d=>m i x Zo d)];rfl
 rw[show decide ((j:Int) < (l.length:Int))=true from Zt Zo];obtain⟨t,g⟩:∃t,l[j]? =some t:=⟨_,Zg aJ⟩;obtain⟨b,o,rfl,G⟩:=C j t g;refine ae ?_;refine kR (us:=[kE t.1,.int .i64 t.2]) Zr (λz H=>by have D:=G z H;simp[D]) rfl ?_;refine ae ?_;refine st_eqth (k:=k) (j:=t) thP Zr Zr (E.more (λ_ d=>by simp[d])) ((F t (Zv g)).more (λ_ d=>by simp[d])) ?_;refine ae ?_;by_cases he:k=t
 .rw[Zt he];refine ae ?_;refine kG (Post:=[B]) (.inr rfl) (.tmp (v:=vi j) Zr .nil) ⟨?_,rfl⟩ ZI;unfold nW;rw[OM (by rw[he];exact g) (λi x A d=>m i x A d)];rfl
 .rw[Zf he];refine ae ?_;refine⟨j+1,⟨Zo,λi x A d=>?_⟩,Zo,ZU,ZI⟩;by_cases O2:i < j
  .exact m i x O2 d
  .obtain rfl:i=j:=by omega
   rw[g]at d;rw[<- XC d];exact λe=>he e.symm
structure Ks (st:ah):Prop where
 v:st.vars.length<=1048576
 o:st.outer.length<=1048576
 a:∀j,st.args.getD j 0<=1048576
theorem Ks.dZ {st:ah}(h:Ks st)(u:Nat):(st.copied u).length<=1048576*(1048576+1):=by
 have d:=KK (st:=st) (u:=u) h.a;have g:=Ah st u;exact Qv d (Qy _ (Qv g h.o))
theorem Ks.loc {st:ah}(h:Ks st)(u:Nat)(r:Bool):(st.locals u r).length<=1048576:=by
 unfold ah.locals;have d:=Q5 (λv=>decide (st.af v=u)&&decide (st.bt v < 0)&&decide (st.rem v=r)) (List.range st.vars.length);rw[List.length_range]at d;have:=h.v;omega
theorem Ca(st:ah)(AK:Ph st)(F:Ks st)(U:List UC)(Vs:List ax)(hR:gk st st.outer.length U Vs)(i:Nat)(u:UC)(A:U[i]? =some u)(t:Nat×Int)(T:t.1 < st.outer.length)(hc:(t.1=i/\-1<=t.2/\t.2 < st.args.getD i 0/\(t.2 < 0->0 < (st.locals i true).length))∨(t.1≠i/\t∈st.copied i)):
 au Tryz.prog 116 [kE u.q,iw (qU U t.1,t.2)] [WK U Vs] (λv Post=>v=.int .i64 (st.place i t)/\Post=[WK U Vs]):=by
 have M:i < st.outer.length:=by have:=(Vt.1 A).1;rw[hR.ul]at this;exact this
 obtain⟨ca,cc,ς,W,IH,X,iF⟩:=hR.cells A;obtain⟨w,hw⟩:∃w,U[t.1]? =some w:=⟨_,Zg (by rw[hR.ul];exact T)⟩;have m:=gP hw;have hba:=F.a i;have hbc:=F.dZ i;have Hc:=F.loc i false;have hbv:=F.loc i true;have L:z4 (WK U Vs) w.q:=iz hw;have C:z4 (WK U Vs) u.q:=iz A;have Hj:∀k∈zi U (st.copied i),z4 (WK U Vs) k.1:=λk O=>by
  obtain⟨s,hs,rfl⟩:=QO.1 O;obtain⟨z,G⟩:∃z,U[s.1]? =some z:=⟨_,Zg (by rw[hR.ul];exact(AK.oF M hs).2.2.1)⟩;show z4 _ (qU U s.1);rw[gP G];exact iz G
 have J:∀(k:Nat) x,u.row[k]? =some x->kC.cell u.q k x∈WK U Vs:=λk x hx=>yP A _ (QJ _ (Zw _ (kJ.2 ⟨k,x,hx,by rw[X2]⟩)))
 have k0:kC.cell u.q 0 (.int .i64 (st.args.getD i 0))∈WK U Vs:=J 0 _ (by unfold UC.row;rw[W];rfl);have k1:kC.cell u.q 1 (.int .i64 (st.locals i false).length)∈WK U Vs:=J 1 _ (by unfold UC.row;rw[IH];rfl);have k2:kC.cell u.q 2 (.int .i64 (st.locals i true).length)∈WK U Vs:=J 2 _ (by unfold UC.row;rw[X];rfl);have k7:kC.cell u.q 7 (.slice ca (st.copied i).length cc)∈WK U Vs:=J 7 _ (by unfold UC.row;rw[ς];rfl);have pA:(zi U (st.copied i)).length=(st.copied i).length:=Q6 _;have K:=Lk (WK U Vs) (zi U (st.copied i)) ca cc (by rw[pA];omega) (λk s O=>by
  obtain⟨b,o,g,N⟩:=iF k s O;exact⟨b,o,g,λy hy=>yP A _ (N y hy)⟩) Hj (w.q,t.2) L
 rw[pA]at K;have nQ:t.1≠i->st.place i t=st.args.getD i 0+nW (zi U (st.copied i)) (w.q,t.2)/\0<=nW (zi U (st.copied i)) (w.q,t.2)/\nW (zi U (st.copied i)) (w.q,t.2) < (st.copied i).length:=λhn=>by
  rcases hc with⟨g,_⟩|⟨_,g⟩
  .exact absurd g hn
  obtain⟨k,xI,pL⟩:=nI g;unfold ah.place nW;rw[if_neg hn,<- m,hR.idx AK M T,pL];exact⟨rfl,by simp only;omega,by simp only;omega⟩
 generalize hix:nW (zi U (st.copied i)) (w.q,t.2)=ix at K nQ;generalize hW:WK U Vs=B at L C k0 k1 k2 k7 K|-;rw[m];generalize Eb:st.args.getD i 0=D at*;generalize Q:(st.copied i).length=nc at*;generalize S:(st.locals i false).length=E at*;generalize hnv:(st.locals i true).length=H at*;refine au.intro low116 Zn9 ?_;refine VC.join (α:=Nat) (bg:=λq=>[(0,kE u.q),(3,kE q)]) (Hf:=λq=>[kA q 0 [kE w.q,.int .i64 t.2],B]) (I:=λ_=>True) ?_ (λq3 _=>?_)
 .unfold iw;exact zED
 refine VC.join (α:=Unit) (bg:=λ_=>[(0,kE u.q),(3,kE q3)]) (Hf:=λ_=>[kA q3 0 [kE w.q,.int .i64 t.2],B]) (I:=λ_=>t.1=i/\t.2 < 0) ?_ (λ_ hI=>?_)
 .refine ae ?_;refine Yb u124 F4 F5 Zr Zr (L.more (λ_ hx=>by simp[hx])) (C.more (λ_ hx=>by simp[hx])) ?_;refine ae ?_;by_cases he:w.q=u.q
  .have d:t.1=i:=hR.Xr T M (by rw[m,gP A];exact he);rw[show decide (w.q=u.q)=true from Zt he];refine ae ?_;by_cases h0:0<=t.2
   .rw[show decide ((0:Int)<=t.2)=true from Zt h0];refine ae ?_;exact kG (Post:=[B]) (.inr rfl) (.tmp Zr .nil) ⟨by unfold ah.place;rw[if_pos d,if_pos h0];rfl,rfl⟩ ZI
   .rw[show decide ((0:Int)<=t.2)=false from Zf h0];refine ae ?_;exact⟨(),⟨d,Zo⟩,ZU,ZI⟩
  .have d:t.1≠i:=λe=>he (by
    have:=gP hw;rw[e,gP A]at this;exact this.symm)
   obtain⟨p1,p2,p3⟩:=nQ d;rw[show decide (w.q=u.q)=false from Zf he];refine jH ?_;refine VC.seq (VC.draws ⟨?_,?_,trivial⟩)
   all_goals
    refine ae ?_;refine kH K Zr ZP (λv Post Y=>?_);obtain⟨rfl,rfl⟩:=Y;simp only[aE];refine ae ?_;exact kG (Post:=[B]) (.inr rfl) (.tmp Zr .nil) ⟨by rw[p1];rfl,rfl⟩ ZI
 obtain⟨g,N⟩:=hI;have Z:0 < H:=by
  rcases hc with⟨_,_,_,c⟩|⟨c,_⟩
  .exact c N
  .exact absurd g c
 refine ae ?_;refine kR (us:=[.int .i64 D,.int .i64 E,.int .i64 H]) Zr (λz G=>?_) rfl ?_
 .obtain⟨j,x,hx,rfl⟩:=kJ.1 G;have hz3:j=0∨j=1∨j=2:=by
   exact zEV
  rcases hz3 with rfl|rfl|rfl
  .obtain rfl:(.int .i64 D:Value)=x:=by simpa using hx
   simp[k0]
  .obtain rfl:(.int .i64 E:Value)=x:=by simpa using hx
   simp[k1]
  .obtain rfl:(.int .i64 H:Value)=x:=by simpa using hx
   simp[k2]
 refine ae ?_;refine kH (EW D E H nc ⟨Zo,Zo,Zo,Zo⟩) Zr ZP (λv Post Y=>?_);obtain⟨rfl,rfl⟩:=Y;rw[if_pos Z];simp only[QV];refine ae ?_;refine kG (Post:=[B]) (.inr rfl) (.tmp Zr .nil) ⟨?_,rfl⟩ ZI;unfold ah.place;rw[if_pos g,if_neg Zo,Eb,Q,S];show Value.int .i64 (((D+nc+E+1:Nat):Int) - 1)=.int .i64 ((D:Int)+nc+E)
 congr 1
 omega
theorem XF(st:ah)(N:Ph st)(J:Ks st)(U:List UC)(Vs:List ax)(K:gk st st.outer.length U Vs)(i:Nat)(u:UC)(M:U[i]? =some u)(vv:Nat)(y:ax)(j:Vs[vv]? =some y)(G:nw st i vv=true):
 au Tryz.prog 175 [kE u.q,kE y.q] [WK U Vs] (λv Post=>v=.agg (kf (st.known i vv)).toArray/\Post=[WK U Vs]):=by
 have cL:i < st.outer.length:=by have:=(Vt.1 M).1;rw[K.ul]at this;exact this
 obtain⟨H,Z⟩:=N.nw G;obtain⟨w1,w2,w3⟩:=N.wf.var H;obtain⟨x,s⟩:∃x,st.vars[vv]? =some x:=⟨_,Zg H⟩;obtain⟨⟨w,hw,T⟩,S,bF,mW⟩:=K.vn vv x y s j;have F:=o8 s;have d:=By s;obtain⟨ca,cc,ς,Q,IH,huv,iF⟩:=K.cells M;have O:qU U (st.af vv)=w.q:=by rw[F];exact gP hw
 have hba:=J.a i;have hbc:=J.dZ i;have pB:∀(k:Nat) x,u.row[k]? =some x->kC.cell u.q k x∈WK U Vs:=λk x s=>yP M _ (QJ _ (Zw _ (kJ.2 ⟨k,x,s,by rw[X2]⟩)))
 have k0:kC.cell u.q 0 (.int .i64 (st.args.getD i 0))∈WK U Vs:=pB 0 _ (by unfold UC.row;rw[Q];rfl);have k7:kC.cell u.q 7 (.slice ca (st.copied i).length cc)∈WK U Vs:=pB 7 _ (by unfold UC.row;rw[ς];rfl);have I:∀(k:Nat) x,y.row[k]? =some x->kC.cell y.q k x∈WK U Vs:=λk x s=>mN j _ (kJ.2 ⟨k,x,s,by rw[X2]⟩)
 have y0:kC.cell y.q 0 (kE w.q)∈WK U Vs:=I 0 _ (by unfold ax.row;rw[T];rfl);have y1:kC.cell y.q 1 (.int .i64 x.own)∈WK U Vs:=I 1 _ (by unfold ax.row;rw[S];rfl);have Y:kC.cell y.q 3 (.bool (st.rem vv))∈WK U Vs:=I 3 _ (by unfold ax.row;rw[bF];rfl);have y4:kC.cell y.q 4 (.int .i64 y.slot)∈WK U Vs:=I 4 _ rfl;have bn:x.own < 0->(y.slot:Int)=st.bW vv:=λh=>mW h (by rw[<- F];exact w1)
 have g:∀a:Int,(0<=x.own->a=x.own)->(x.own < 0->a=-1/\st.rem vv=true)->(st.af vv=i/\-1<=a/\a < st.args.getD i 0/\(a < 0->0 < (st.locals i true).length))∨(st.af vv≠i/\(st.af vv,a)∈st.copied i):=λa ha hb=>by
  rw[d]at w2 w3;by_cases e:st.af vv=i
  .refine .inl ⟨e,?_⟩;by_cases c:x.own < 0
   .obtain⟨rfl,hr⟩:=hb c;exact⟨Zo,Zo,λ_=>List.length_pos_of_mem (ma.2 ⟨H,e,by rw[d];exact c,hr⟩)⟩
   .rw[ha Zo];exact⟨Zo,by rw[<- e];exact w3,λc2=>absurd c2 c⟩
  .rcases Z with k|k
   .exact absurd k e
   .refine .inr ⟨e,?_⟩;rw[d]at k;by_cases c:x.own < 0
    .obtain⟨rfl,_⟩:=hb c;have:x.own=-1:=by omega
     rw[<- this];exact k.1
    .rw[ha Zo];exact k.1
 have W:∀a:Int,((st.af vv=i/\-1<=a/\a < st.args.getD i 0/\(a < 0->0 < (st.locals i true).length))∨(st.af vv≠i/\(st.af vv,a)∈st.copied i))->au Tryz.prog 116 [kE u.q,iw (w.q,a)] [WK U Vs] (λv Post=>v=.int .i64 (st.place i (st.af vv,a))/\Post=[WK U Vs]):=λa h=>by
  have:=Ca st N J U Vs K i u M (st.af vv,a) w1 h
  rwa [O]at this
 generalize hW:WK U Vs=B at k0 k7 y0 y1 Y y4 W|-;refine au.intro low175 Zn9 ?_;refine ae ?_;refine kK (λq4=>?_);refine ae ?_;by_cases ho:0<=x.own
 .rw[show decide ((0:Int)<=x.own)=true from Zt ho];have m:=W x.own (g x.own (λ_=>rfl) (λc=>by omega));have A:st.known i vv=⟨5,st.place i (st.af vv,x.own),0,e0⟩:=by unfold ah.known;rw[d,if_pos ho]
  rw[A];generalize st.place i (st.af vv,x.own)=X at m;unfold iw at m;refine ae ?_;refine kH m Zr ZP (λv Post G=>?_);obtain⟨rfl,rfl⟩:=G;simp only[aE];refine ae ?_;exact⟨.inr rfl,_,[B],.aI (us:=kf ⟨5,X,0,e0⟩) Zr Zr (λy j=>by simp only[Vd,QG];repeat (first|exact Or.inl j|refine Or.inr ?_)) .nil,ZI,rfl,rfl⟩
 rw[show decide ((0:Int)<=x.own)=false from Zf ho];have L:x.own < 0:=by omega
 refine ae ?_;cases nS:st.rem vv with
 |true=>
  rw[nS]at Y;have m:=W (-1) (g (-1) (λc=>by omega) (λ_=>⟨rfl,nS⟩));have A:st.known i vv=⟨6,st.place i (st.af vv,-1),y.slot,e0⟩:=by
   unfold ah.known;rw[d,if_neg ho,if_pos nS,bn L];unfold ah.bW;rw[nS]
  rw[A];generalize st.place i (st.af vv,-1)=X at m;unfold iw at m;refine jH ?_;refine VC.seq (VC.draws ⟨?_,?_,trivial⟩)
  all_goals
   refine ae ?_;refine kH m Zr ZP (λv Post G=>?_);obtain⟨rfl,rfl⟩:=G;simp only[aE];refine ae ?_;exact⟨.inr rfl,_,[B],.aI (us:=kf ⟨6,X,y.slot,e0⟩) Zr Zr (λy j=>by simp only[Vd,QG];repeat (first|exact Or.inl j|refine Or.inr ?_)) .nil,ZI,rfl,rfl⟩
 |false=>
  rw[nS]at Y;have E:st.af vv=i:=by
   rcases Z with k|k
   .exact k
   .have:=k.2 (by rw[d];exact L);rw[nS]at this;cases this
  have hm:vv∈st.locals i false:=ma.2 ⟨H,E,by rw[d];exact L,nS⟩;have Hc:=J.loc i false;have D:=A5 hm;have C:(y.slot:Int)=nW (st.locals i false) vv:=by
   rw[bn L];unfold ah.bW;rw[nS,E]
  have A:st.known i vv=⟨5,st.args.getD i 0+(st.copied i).length+y.slot,0,e0⟩:=by
   unfold ah.known;rw[d,if_neg ho,if_neg (by rw[nS];simp),C]
  rw[A];rw[<- C]at D;generalize Eb:st.args.getD i 0=na at*;generalize hnc:(st.copied i).length=nc at*;refine ae ?_;exact⟨.inr rfl,_,[B],.aI (us:=kf ⟨5,(na:Int)+nc+y.slot,0,e0⟩) Zr Zr (λy j=>by simp only[Vd,QG];repeat (first|exact Or.inl j|refine Or.inr ?_)) .nil,ZI,rfl,rfl⟩
theorem tI(st:ah)(i:Nat):∀l:List PN,zv st i l=l.map (eM st i):=by
 intro l
 induction l with
 |nil=>rfl
 |cons x r ih=>rw[zv,ih];rfl
theorem KS(st:ah)(AK:Ph st)(hB:Ks st)(U:List UC)(Vs:List ax)(hR:gk st st.outer.length U Vs)(i:Nat)(u:UC)(hu:U[i]? =some u)(T:List kC):∀(N:Nat) (x:PN),PN.w x<=N->N<=1073741824->∀ws,yz T (Vs.map ax.q) x ws->de (nw st i) x=true->
 au Tryz.prog 117 [kE u.q,.agg ws.toArray] [WK U Vs,T] (λv Post=>∃ws' B,(v=.agg ws'.toArray/\DJ (T++B) (eM st i x) ws')/\Post=[WK U Vs,T,B]):=by
 intro N
 induction N with
 |zero=>intro x hx;have:=PN.iy x;omega
 |succ N ih=>
  intro x hx hN ws h Uv;cases h with
  |@mk k nm lit refs unit cf kids lv rv vv a c bk o us hl Q hv ok hz ha hm hs=>
  simp only[PN.w]at hx;have Fq:=PN.Lr kids;simp only[de,vG,vg,vT]at Uv;obtain⟨hraw1,hraw2⟩:=Uv;have Iz:=Q;have hv0:=hv;obtain⟨Z,rc,rfl,Ed⟩:=Q;obtain⟨va,vc,rfl,hvd⟩:=hv;have CT:=hl;obtain⟨g,A,C,D,E,F,G,rfl⟩:∃(g:Nat) (A:Int) (C:Nat) (D:ByteArray) (E:Option Addr) (F G:Nat),lv=[.int .u8 g,.int .i64 A,.int .u64 C,.string D,.slice E F G]:=by
   cases hl with
   |mk Se Im qK cP=>exact⟨_,_,_,_,_,_,_,rfl⟩
  obtain⟨S,O5⟩:∃S,S=(zQ refs).length:=⟨_,rfl⟩;obtain⟨n2,Fv⟩:∃n2,n2=((fG refs).map λr=>(Vs.map ax.q).getD r.index.toNat 0).length:=⟨_,rfl⟩;rw[<- O5]at Iz hz|-;rw[<- Fv]at hv0|-;simp only[aE];refine au.intro low117 Zn9 ?_;refine VC.join (α:=Nat×Nat×Nat) (bg:=λq=>[(0,kE u.q),(3,kE q.1),(4,kE q.2.1)]) (Hf:=λq=>[kA q.1 0 [.int .u8 k,.string nm,.int .u8 g,.int .i64 A,.int .u64 C,.string D,.slice E F G,.slice Z S rc,.int .i64 unit,.bool cf,.slice none 0 0,.slice va n2 vc,.slice a kids.length c],kA q.2.1 0 (rP 0 e0 0 0 0 e0 none 0 0 none 0 0 0 false none 0 0),WK U Vs,T]) (I:=λ_=>True) ?_ ?_
  .refine ae ?_;refine kX Zr (λW=>?_);simp only[Value.cells];refine kK (λJ=>?_);refine ae ?_;exact⟨(W,J,0),trivial,ZU,by unfold e0;exact bT⟩
  rintro⟨W,J,_⟩ _
  dsimp only;refine VC.join (α:=Nat) (bg:=λH=>[(0,kE u.q),(3,kE W),(4,kE J),(5,kE H)]) (Hf:=λH=>[kA H 0 (rP k nm g A C D E F G Z S rc unit cf none 0 0),kA W 0 [.int .u8 k,.string nm,.int .u8 g,.int .i64 A,.int .u64 C,.string D,.slice E F G,.slice Z S rc,.int .i64 unit,.bool cf,Nz,.slice va n2 vc,.slice a kids.length c],kA J 0 (rP 0 e0 0 0 0 e0 none 0 0 none 0 0 0 false none 0 0),WK U Vs,T]) (I:=λ_=>True) ?_ (λH _=>?_)
  .refine ae ?_;refine kK (λH=>?_);refine ae ?_;exact⟨H,trivial,ZU,ZI⟩
  refine VC.join (α:=Value×List kC) (bg:=λ_=>[(0,kE u.q),(3,kE W),(4,kE J),(5,kE H)]) (Hf:=λs=>[kA H 0 [.int .u8 k,.string nm,.int .u8 g,.int .i64 A,.int .u64 C,.string D,.slice E F G,s.1,.int .i64 unit,.bool cf,Nz],kA W 0 [.int .u8 k,.string nm,.int .u8 g,.int .i64 A,.int .u64 C,.string D,.slice E F G,.slice Z S rc,.int .i64 unit,.bool cf,Nz,.slice va n2 vc,.slice a kids.length c],kA J 0 (rP 0 e0 0 0 0 e0 none 0 0 none 0 0 0 false none 0 0),WK U Vs,T,s.2]) (I:=λs=>wA (T++s.2) s.1 (refs.map (st.fix i))) ?_ ?_
  .rcases ok.one with aj|aj
   rotate_left
   .have nQ:zQ refs=refs:=V8.2 λr Q=>Zt (aj r Q)
    have Za:fG refs=[]:=V7.2 λr Q=>by simpa using aj r Q
    rw[Za]at Fv;have hn20:n2=0:=by rw[Fv];rfl
    subst hn20;have hfx:refs.map (st.fix i)=refs:=by
     conv=>rhs;rw[<- List.map_id refs]
     exact QC λr Q=>by unfold ah.fix;rw[if_neg (aj r Q)];rfl
    rw[nQ]at Iz;refine ae ?_;refine VC.loop (α:=Unit) (bg:=λ_=>[(0,kE u.q),(3,kE W),(4,kE J),(5,kE H),(13,.slice va 0 vc),(14,vi 0),(15,vi 0)]) (Hf:=λ_=>[kA H 0 (rP k nm g A C D E F G Z S rc unit cf none 0 0),kA W 0 [.int .u8 k,.string nm,.int .u8 g,.int .i64 A,.int .u64 C,.string D,.slice E F G,.slice Z S rc,.int .i64 unit,.bool cf,Nz,.slice va 0 vc,.slice a kids.length c],kA J 0 (rP 0 e0 0 0 0 e0 none 0 0 none 0 0 0 false none 0 0),WK U Vs,T]) (I:=λ_=>True) (μ:=λ_=>0) () trivial ZU ZI ?_;intro _ _;refine ae ?_;rw[show decide ((0:Int) < 0)=false from rfl];refine ae ?_;exact⟨(.slice Z S rc,[]),by rw[hfx];exact Iz.more (λy hy=>Zw _ hy),ZU,ai.cut (M:=[kA H 0 (rP k nm g A C D E F G Z S rc unit cf none 0 0),kA W 0 [.int .u8 k,.string nm,.int .u8 g,.int .i64 A,.int .u64 C,.string D,.slice E F G,.slice Z S rc,.int .i64 unit,.bool cf,Nz,.slice va 0 vc,.slice a kids.length c],kA J 0 (rP 0 e0 0 0 0 e0 none 0 0 none 0 0 0 false none 0 0),WK U Vs,T]) ZI (ai.perm Zs)⟩
   have nQ:zQ refs=[]:=V7.2 λr Q=>by simpa using aj r Q
   have Za:fG refs=refs:=V8.2 λr Q=>Zt (aj r Q)
   rw[Za]at hvd Fv;have hnr:n2=refs.length:=by rw[Fv,Q6]
   subst hnr;have hz1:=hz nQ;have hn10:S=0:=by rw[O5,nQ];rfl
   subst hn10;rw[Value.slice.injEq]at hz1;obtain⟨rfl,_,rfl⟩:=hz1;refine ae ?_;refine VC.loop (α:=Nat×Value×List Value) (bg:=λs=>[(0,kE u.q),(3,kE W),(4,kE J),(5,kE H),(13,.slice va refs.length vc),(14,vi refs.length),(15,vi s.1)]) (Hf:=λs=>[kA H 0 [.int .u8 k,.string nm,.int .u8 g,.int .i64 A,.int .u64 C,.string D,.slice E F G,s.2.1,.int .i64 unit,.bool cf,Nz],ao s.2.1 ((((refs.take s.1).map (st.fix i))).flatMap kf) s.2.2,kA W 0 [.int .u8 k,.string nm,.int .u8 g,.int .i64 A,.int .u64 C,.string D,.slice E F G,Nz,.int .i64 unit,.bool cf,Nz,.slice va refs.length vc,.slice a kids.length c],kA J 0 (rP 0 e0 0 0 0 e0 none 0 0 none 0 0 0 false none 0 0),WK U Vs,T]) (I:=λs=>s.1<=refs.length/\ky 4 s.2.1 s.1 ((((refs.take s.1).map (st.fix i))).flatMap kf) s.2.2) (μ:=λs=>refs.length - s.1) (0,Nz,[]) ⟨X3 _,.nil⟩ ZU (ai.cut (M:=[kA H 0 (rP k nm g A C D E F G none 0 0 unit cf none 0 0),kA W 0 [.int .u8 k,.string nm,.int .u8 g,.int .i64 A,.int .u64 C,.string D,.slice E F G,Nz,.int .i64 unit,.bool cf,Nz,.slice va refs.length vc,.slice a kids.length c],kA J 0 (rP 0 e0 0 0 0 e0 none 0 0 none 0 0 0 false none 0 0),WK U Vs,T]) ZI (ai.perm (by simp[ao]))) ?_
   rintro⟨j,sv,sp⟩ ⟨hj,Y⟩
   simp only at hj Y;dsimp only;obtain⟨sa,sc,rfl⟩:=Y.form;refine ae ?_;by_cases aJ:j < refs.length;rotate_left
   .rw[show decide ((j:Int) < (refs.length:Int))=false from Zf Zo];have hje:j=refs.length:=by omega
    subst hje;rw[Qk]at Y|-;refine ae ?_;refine⟨(.slice sa refs.length sc,ao (.slice sa refs.length sc) ((refs.map (st.fix i)).flatMap kf) sp),?_,ZU,ZI⟩;have:=ux (B:=[]) (rs:=refs.map (st.fix i)) (by rw[Q6];exact Y);simp only[vp]at this;exact this.more λy hy=>QH _ hy
   rw[show decide ((j:Int) < (refs.length:Int))=true from Zt Zo];obtain⟨r,O⟩:∃r,refs[j]? =some r:=⟨_,Zg aJ⟩;obtain⟨v,Kp,UR⟩:=ok.raw r (Zv O) (aj r (Zv O));rw[Q6]at UR;obtain⟨y,hy⟩:∃y,Vs[v]? =some y:=⟨_,Zg UR⟩;have hokv:nw st i v=true:=by
    rcases hraw1 r (Zv O)with k|k
    .rw[aj r (Zv O)]at k;cases k
    .rw[Kp]at k;exact k
   obtain⟨vb,vo,rfl,hvc⟩:=hvd j y.q (by
    rw[Vu,O,Kp];show some ((Vs.map ax.q).getD v 0)=_;rw[Vh,Vu,hy];rfl)
   have hvc:kC.cell vb (vo+j) (kE y.q)∈T:=hvc;have Ux:=XF st AK hB U Vs hR i u hu v y hy hokv;have hfx:st.fix i r=st.known i v:=by
    rw[Kp];show(if(99:Nat)=99 then st.known i ((v:Int)).toNat else _)=_;rw[if_pos rfl,vX]
   have cA:(refs.take (j+1)).map (st.fix i)=(refs.take j).map (st.fix i)++[st.known i v]:=by
    rw[Qi,O,QB];simp only[Option.toList_some,QD,QF,hfx]
   obtain⟨L,hkr⟩:∃L,L=st.known i v:=⟨_,rfl⟩;rw[<- hkr]at Ux cA;unfold kf at Ux;refine ae ?_;refine VC.draws ⟨?_,?_,trivial⟩
   all_goals
    refine ae ?_;refine kH Ux Zr ZP (λv Post hv=>?_);obtain⟨rfl,rfl⟩:=hv;simp only[aE];refine ae ?_;refine j8 (out:=[.int .u8 L.kind,.int .i64 L.index,.int .i64 L.slot,.string L.name]) Zr Zr (λrr=>?_);refine ae ?_;refine kw (k:=j) (m:=1) (xs:=((refs.take j).map (st.fix i)).flatMap kf) (sp:=sp) (ys:=[.int .u8 L.kind,.int .i64 L.index,.int .i64 L.slot,.string L.name]) Zr Zr Y ZK Zr ?_ rfl Zr Zr Zd Zo (λcw bA aH=>?_)
    .exact C2
    have fS:((refs.take j).map (st.fix i)).flatMap kf++([.int .u8 L.kind,.int .i64 L.index,.int .i64 L.slot,.string L.name]:List Value)=((refs.take (j+1)).map (st.fix i)).flatMap kf:=by
     rw[cA,VV,Vb];rfl
    rw[fS]at aH|-;obtain⟨oV,oW,rfl⟩:=aH.form;refine ae ?_;exact⟨(j+1,.slice oV (j+1) oW,bA),⟨by simp only;omega,aH⟩,by simp only;omega,ZU,ZI⟩
  rintro⟨rv2,X⟩ K
  simp only at K;dsimp only;obtain⟨rb,rn,hrv2⟩:∃rb rn,rv2=.slice rb (refs.map (st.fix i)).length rn:=let⟨e1,e2,e3,_⟩:=K;⟨e1,e2,e3⟩;subst hrv2;generalize hnr:(refs.map (st.fix i)).length=nr at*;refine ae ?_;refine VC.loop (α:=Nat×Value×List (List Value)×List Value×List kC) (bg:=λs=>[(0,kE u.q),(4,kE J),(5,kE H),(29,.slice a kids.length c),(30,vi kids.length),(31,vi s.1)]) (Hf:=λs=>[kA H 0 [.int .u8 k,.string nm,.int .u8 g,.int .i64 A,.int .u64 C,.string D,.slice E F G,.slice rb nr rn,.int .i64 unit,.bool cf,s.2.1],ao s.2.1 s.2.2.1.flatten s.2.2.2.1,kA J 0 (rP 0 e0 0 0 0 e0 none 0 0 none 0 0 0 false none 0 0),WK U Vs,T,X,s.2.2.2.2]) (I:=λs=>s.1<=kids.length/\ky 11 s.2.1 s.1 s.2.2.1.flatten s.2.2.2.1/\eJ (T++(X++s.2.2.2.2)) ((kids.take s.1).map (eM st i)) s.2.2.1) (μ:=λs=>kids.length - s.1) (0,Nz,[],[],[]) ⟨X3 _,.nil,eJ.nil _⟩ ZU (ai.cut (M:=[kA H 0 (rP k nm g A C D E F G rb nr rn unit cf none 0 0),kA J 0 (rP 0 e0 0 0 0 e0 none 0 0 none 0 0 0 false none 0 0),WK U Vs,T,X]) ZI (ai.perm (by simp[ao]))) ?_
  rintro⟨j,sv,rows,sp,B2⟩ ⟨hj,Y,cu⟩
  simp only at hj Y cu;dsimp only;obtain⟨sa,sc,rfl⟩:=Y.form;refine ae ?_;by_cases aJ:j < kids.length;rotate_left
  .rw[show decide ((j:Int) < (kids.length:Int))=false from Zf Zo];have hje:j=kids.length:=by omega
   subst hje;rw[Qk,<- tI]at cu;have hlk:(zv st i kids).length=kids.length:=by rw[tI,Q6]
   have K9:=Gy (l:=zv st i kids) (by rw[hlk];exact Y) cu;have fM:∀y∈T++X,y∈T++(ao (.slice sa kids.length sc) rows.flatten sp++(X++B2)):=λy hy=>by
    rcases QG.1 hy with hy|hy
    .exact Zw _ hy
    .exact QH _ (QH _ (Zw _ hy))
   have Ko:=Xl (T:=T++(ao (.slice sa kids.length sc) rows.flatten sp++(X++B2))) (k:=k) (nm:=nm) (lit:=lit) (refs:=refs.map (st.fix i)) (unit:=unit) (cf:=cf) (kids:=zv st i kids) (CT.more λy hy=>Zw _ hy) (K.more fM) (K9.more λy hy=>by
    rcases QG.1 hy with hy|hy
    .exact QH _ (Zw _ hy)
    .rcases QG.1 hy with hy|hy
     .exact Zw _ hy
     .exact QH _ (QH _ hy))
   refine ae ?_;refine⟨.inr rfl,_,[WK U Vs,T,ao (.slice sa kids.length sc) rows.flatten sp++(X++B2)],.aI (us:=(rP k nm g A C D E F G rb nr rn unit cf sa kids.length sc)) Zr Zr (λy hy=>by simp only[Vd,QG];repeat (first|exact Or.inl hy|refine Or.inr ?_)) .nil,ai.cut (M:=[WK U Vs,T,ao (.slice sa kids.length sc) rows.flatten sp,X,B2]) ZI (ai.perm Zs),⟨_,_,⟨rfl,?_⟩,rfl⟩⟩;rw[eM];exact Ko
  rw[show decide ((j:Int) < (kids.length:Int))=true from Zt Zo];obtain rfl:=ha Zo;obtain⟨x,hxj⟩:∃x,kids[j]? =some x:=⟨_,Zg aJ⟩;have hxm:=Zv hxj;have Ss:=hm j aJ;have UN:=hs j x hxj;have az:=ih x (by have:=PN.E1 hxm;omega) Zo _ UN (sj hraw2 x hxm);generalize us j=uj at*;obtain⟨f1,f2,f3,f4,f5,f6,f7,r1,r2,r3,p1,p2,p3,k1,k2,k3,rfl⟩:=mf UN;have cA:(kids.take (j+1)).map (eM st i)=(kids.take j).map (eM st i)++[eM st i x]:=by
   rw[Qi,hxj,QB];rfl
  refine ae ?_;refine kR Zr (λz hz=>by have h9:=Ss z hz;simp[h9]) rfl ?_;refine ae ?_;refine kK (λq9=>?_);refine ae ?_;refine VC.draws ⟨?_,?_,trivial⟩
  all_goals
   refine ae ?_;refine kH az Zr ZP (λv Post hv=>?_);obtain⟨ws',B3,⟨rfl,hp⟩,rfl⟩:=hv;simp only[aE];obtain⟨d,Ec⟩:∃d,d=eM st i x:=⟨_,rfl⟩;rw[<- Ec]at hp cA;have rX:=hp;obtain⟨g1,g2,g3,g4,g5,g7,s1,s3,t1,t3,_,_,_,rfl,_⟩:=Xm rX;refine ae ?_;refine j8 (out:=(rP d.kind d.name g1 g2 g3 g4 g5 d.lit.items.length g7 s1 d.refs.length s3 d.unit d.super t1 d.kids.length t3)) Zr Zr (λrr=>?_);refine ae ?_;refine kw (k:=j) (m:=1) (xs:=rows.flatten) (sp:=sp) (ys:=(rP d.kind d.name g1 g2 g3 g4 g5 d.lit.items.length g7 s1 d.refs.length s3 d.unit d.super t1 d.kids.length t3)) Zr Zr Y ZK Zr ?_ rfl Zr Zr Zd Zo (λcw bA aH=>?_)
   .exact C2
   have fS:rows.flatten++((rP d.kind d.name g1 g2 g3 g4 g5 d.lit.items.length g7 s1 d.refs.length s3 d.unit d.super t1 d.kids.length t3):List Value)=(rows++[((rP d.kind d.name g1 g2 g3 g4 g5 d.lit.items.length g7 s1 d.refs.length s3 d.unit d.super t1 d.kids.length t3):List Value)]).flatten:=by simp
   rw[fS]at aH|-;obtain⟨oV,oW,rfl⟩:=aH.form;refine ae ?_;refine⟨(j+1,.slice oV (j+1) oW,rows++[(rP d.kind d.name g1 g2 g3 g4 g5 d.lit.items.length g7 s1 d.refs.length s3 d.unit d.super t1 d.kids.length t3)],bA,B2++B3),⟨by simp only;omega,aH,?_⟩,by simp only;omega,ZU,?_⟩
   .show eJ (T++(X++(B2++B3))) ((kids.take (j+1)).map (eM st i)) _;rw[cA];refine(cu.more λy hy=>?_).snoc (hp.more λy hy=>?_)
    .simp only[QG]at hy|-;rcases hy with hy|hy|hy
     .exact .inl hy
     .exact .inr (.inl hy)
     .exact .inr (.inr (.inl hy))
    .simp only[QG]at hy|-;rcases hy with hy|hy
     .exact .inl hy
     .exact .inr (.inr (.inr hy))
   .simp only;refine ai.cut (M:=[kA H 0 (rP k nm g A C D E F G rb nr rn unit cf oV (j+1) oW),ao (.slice oV (j+1) oW) (rows++[((rP d.kind d.name g1 g2 g3 g4 g5 d.lit.items.length g7 s1 d.refs.length s3 d.unit d.super t1 d.kids.length t3):List Value)]).flatten bA,kA J 0 (rP 0 e0 0 0 0 e0 none 0 0 none 0 0 0 false none 0 0),WK U Vs,T,X,B2,B3]) ZI (ai.perm Zs)
theorem uD(st:ah)(U:List UC)(Vs:List ax)(F:df st U Vs)(i:Nat)(u:UC)(A:U[i]? =some u)(j:Bool)(hb:st.vars.length < 1073741824):
 au Tryz.prog 111 [kE u.q,.bool j] [WK U Vs] (λr Post=>∃B y,(r=kE y.q/\(∀nm,df (st.aX ⟨nm,i,j,-1⟩) B (Vs++[y]))/\B.map UC.q=U.map UC.q/\B.map UC.body=U.map UC.body)/\Post=[WK B (Vs++[y])]):=by
 obtain⟨E,D⟩:=F.tm i u A;have IH:u.ab.length<=st.vars.length:=by
  rw[E,Q6];exact Qv (Q5 _ _) Zs
 obtain⟨R,L,N⟩:=YC (V:=Vs) A;refine au.intro low111 Zn9 ?_;refine VC.imp (H':=[kA u.q 5 [u.tv],ao u.tv (u.ab.map λb=>kO (some b)) u.lM,R]) (ai.perm (by simpa using L)) ?_;have G:u.ab.length=(u.ab.map λb=>kO (some b)).length:=by simp
 obtain⟨ta,tc,H⟩:=D.form;refine ae ?_;refine kX Zr (λq=>?_);simp only[Value.cells];refine ae ?_;refine j8 (out:=[kE q]) Zr Zr (λq2=>?_);rw[H]at D|-;refine kw (k:=u.ab.length) (m:=1) (xs:=u.ab.map λb=>kO (some b)) (sp:=u.lM) (ys:=[kE q]) Zr Zr D ZK Zr ?_ rfl Zr Zr Zd Zo (λcw s C=>?_)
 .exact C2
 obtain⟨d,g,rfl⟩:=C.form;have I:(u.ab.map λb=>kO (some b))++[kE q]=(u.ab++[q]).map λb=>kO (some b):=by simp[kO]
 rw[I]at C|-;refine ae ?_;refine kG (Post:=[WK (U.set i {u with ab:=u.ab++[q],tv:=.slice d (u.ab.length+1) g,lM:=s}) (Vs++[⟨q,u.q,-1,j,false,0⟩])]) (.inr rfl) (.tmp (v:=kE q) Zr .nil) ⟨U.set i {u with ab:=u.ab++[q],tv:=.slice d (u.ab.length+1) g,lM:=s},⟨q,u.q,-1,j,false,0⟩,⟨rfl,λnm=>?_,zp A rfl,tZ A rfl⟩,rfl⟩ ?_
 .exact cQ.aX F rfl A (by simp only;omega) ⟨rfl,rfl,rfl,rfl,rfl⟩ rfl rfl (by rw[if_pos (show(-1:Int) < 0 by decide)]) (by simpa using C)
 .refine ai.cut (M:=[kA q 0 [kE u.q,.int .i64 (-1),.bool j,.bool false,.int .i64 0],kA u.q 5 [.slice d (u.ab.length+1) g],ao (.slice d (u.ab.length+1) g) ((u.ab++[q]).map λb=>kO (some b)) s,R]) ZI (ai.perm ?_);have J:=J4 (U.set i {u with ab:=u.ab++[q],tv:=.slice d (u.ab.length+1) g,lM:=s}) Vs ⟨q,u.q,-1,j,false,0⟩;have K:=N (u.ab++[q]) (.slice d (u.ab.length+1) g) s;simp only[Vd,Ve,vp];refine List.Perm.trans ?_ J.symm;refine vZ _ ?_;rw[<- vm];exact K.symm
end Go.Proofs.YtijnokbblmbpkaaGreatDoor
namespace Go.Proofs
open Go.Shelf
shelf_lay_g SlLaysW.n5 Slmc 5 at Tryz 171 as Tryz.slcl1
end Go.Proofs
namespace Go.Proofs.YtijnokbblmbpkaaGreatDoor
open Go Go.V
theorem KJ(b:Nat)(es:Array MapEntry)(c:Nat):au Tryz.prog 171 [.map (some b)] [[.obj b (.map es c)]] (λv Post=>∃d,v=.map (some d)/\Post=[[.obj b (.map es c)],[.obj d (.map es c)]]):=by
 refine⟨by kernel_rfl,λF w hs=>?_⟩;have g:w.heap[b]? =some (.map es c):=(hs.obj (b:=b) (o:=.map es c) Zs).1;refine(AnyW.maps_Clone Tryz.slcl1 b es c w g).mono ?_;exact zBE
def H8(q:Nat):Value:=.iface 80 (kE q)
def qE(q:Nat):List PanicEntry:=[{v:=H8 q,recovered:=false}]
def W3:ByteArray:=⟨#[82,101,115,111,108,118,101]⟩
def jU(q:Nat)(e:Nat)(p:Int):List kC:=kA q 0 [.string W3,.int .i64 p,.iface 44 (.int .i64 e)]
theorem dW(e:Nat)(p:Int):ju Tryz.prog 113 [vi e,.int .i64 p] [] (λ_ _=>False) (λd Post=>∃q,d=qE q/\Post=[jU q e p]):=by
 refine ju.intro low113 Zn9 ?_;refine ae ?_;refine kX Zr (λq=>?_);simp only[Value.cells];refine ae ?_;refine Yc Zr ?_;refine⟨[jU q e p],?_,q,rfl,rfl⟩;unfold jU W3;exact bT
theorem N7 {st:ah}(g:st.f=none)(h1:st.outer.length<=255)(d:∀i,i < st.outer.length->(st.aB i).Ta=false):st.answer=((List.range st.outer.length).map st.aB,0,0):=by
 unfold ah.answer;rw[g];simp only;rw[if_neg Zo,if_neg];rw[Bool.not_eq_true,List.any_eq_false];intro x m;obtain⟨i,j,rfl⟩:=QO.1 m;rw[d i (QS.1 j)];simp
theorem Af {st:ah}(d:st.f=none){i:Nat}(g:i < st.outer.length)(h:(st.aB i).Ta=true):st.answer=([],183,0):=by
 unfold ah.answer;rw[d];simp only;split
 .rfl
 .rw[if_pos];rw[vj];exact⟨_,QO.2 ⟨i,QS.2 g,rfl⟩,h⟩
theorem HK {st:ah}(d:st.f=none)(h:255 < st.outer.length):st.answer=([],183,0):=by
 unfold ah.answer;rw[d];simp only;rw[if_pos h]
structure Bnds (st:ah):Prop where
 b:Ks st
 w:∀l∈st.bodies,PN.ws l<=4194304
theorem Me(st:ah)(AK:Ph st)(hBs:Bnds st)(hf:st.f=none)(U:List UC)(Vs:List ax)(hR:gk st 0 U Vs)(us:Value)(J:List Value)(bn:ky 1 us U.length (U.map λu=>kO (some u.q)) J)(T:List kC)(KZ:∀(i:Nat) u,U[i]? =some u->xq T (Vs.map ax.q) u.body (st.bodies.getD i []))
 (wq:Nat) (fv gv av tv bv:Value) (O:ByteArray) (N:Int):
 ju Tryz.prog 50 [kE wq,.agg #[.string O,av,tv,.int .i64 N,bv]] [kA wq 0 [fv,gv,us],ao us (U.map λu=>kO (some u.q)) J,WK U Vs,T]
  (λv Post=>∃yv B,(st.answer=((List.range st.outer.length).map st.aB,0,0)/\v=.agg #[.string O,.int .i64 N,yv]/\th B yv ((List.range st.outer.length).map st.aB))/\Post=[B])
  (λch Post=>∃q,st.answer=([],183,0)/\ch=qE q/\Post=[jU q 183 0]):=by
 obtain⟨hB,hBw⟩:=hBs;have IH:=hR.ul;have η:=hB.o;have hpt:zH (ao us ((U.map UC.q).map λb=>kO (some b)) J) us (U.map UC.q):=lA (by rw[Q6]) (by rw[QE];exact bn);have Y8:((U.map UC.q).map λb=>kO (some b))=U.map λu=>kO (some u.q):=by rw[QE];rfl
 rw[Y8]at hpt;obtain⟨ua,A,rfl⟩:=bn.form;obtain⟨ua',uc',hua,hptr⟩:=hpt;rw[Value.slice.injEq]at hua;obtain⟨rfl,_,rfl⟩:=hua;refine ju.intro low50 Zn9 ?_;have aC:∀(k:Nat) w,U[k]? =some w->∃b o,ua=some ⟨b,o,none⟩/\kC.cell b (o+k) (kE w.q)∈ao (.slice ua U.length A) (U.map λu=>kO (some u.q)) J:=λk w Y=>by
  obtain⟨b,o,h1,h2⟩:=hptr k w.q (by rw[Vu,Y];rfl);exact⟨b,o,h1,h2⟩
 refine ae ?_;refine kX Zr (λq3=>?_);simp only[Value.cells];refine kK (λD=>?_);refine ae ?_;refine kK (λE=>?_);refine jH ?_;refine VC.join (α:=Unit) (bg:=λ_=>[(0,kE wq),(4,kE D),(5,kE E)]) (Hf:=λ_=>[kA E 0 [.string O,.int .i64 N,Nz],kA D 0 [.string e0,.int .i64 0,Nz],kA wq 0 [fv,gv,.slice ua U.length A],ao (.slice ua U.length A) (U.map λu=>kO (some u.q)) J,WK U Vs,T]) (I:=λ_=>st.outer.length<=255) ?_ (λ_ tM=>?_)
 .refine ae ?_;by_cases hc:255 < U.length
  .rw[show decide ((255:Int) < (U.length:Int))=true from Zt Zo];refine ae ?_;refine kN (dW 183 0) Zr ZP (λv Post hv=>False.elim hv) (λch Post hz=>?_);obtain⟨q1,rfl,rfl⟩:=hz;exact⟨[jU q1 183 0],ZI,q1,HK hf Zo,rfl,rfl⟩
  .rw[show decide ((255:Int) < (U.length:Int))=false from Zf Zo];refine ae ?_;exact⟨(),by show st.outer.length<=255;omega,ZU,by unfold e0;exact bT⟩
 refine VC.join (α:=List UC×List ax) (bg:=λ_=>[(0,kE wq),(4,kE D),(5,kE E)]) (Hf:=λs=>[kA E 0 [.string O,.int .i64 N,Nz],kA D 0 [.string e0,.int .i64 0,Nz],kA wq 0 [fv,gv,.slice ua U.length A],ao (.slice ua U.length A) (U.map λu=>kO (some u.q)) J,WK s.1 s.2,T]) (I:=λs=>gk st st.outer.length s.1 s.2/\s.1.map UC.q=U.map UC.q/\s.1.map UC.body=U.map UC.body/\s.2.map ax.q=Vs.map ax.q) ?_ ?_
 .refine ae ?_;refine VC.loop (α:=Nat×List UC×List ax) (bg:=λs=>[(0,kE wq),(4,kE D),(5,kE E),(30,.slice ua U.length A),(31,vi U.length),(32,vi s.1)]) (Hf:=λs=>[kA E 0 [.string O,.int .i64 N,Nz],kA D 0 [.string e0,.int .i64 0,Nz],kA wq 0 [fv,gv,.slice ua U.length A],ao (.slice ua U.length A) (U.map λu=>kO (some u.q)) J,WK s.2.1 s.2.2,T]) (I:=λs=>s.1<=U.length/\gk st s.1 s.2.1 s.2.2/\s.2.1.map UC.q=U.map UC.q/\s.2.1.map UC.body=U.map UC.body/\s.2.2.map ax.q=Vs.map ax.q) (μ:=λs=>U.length - s.1) (0,U,Vs) ⟨X3 _,hR,rfl,rfl,rfl⟩ ZU ZI ?_
  rintro⟨k,Uk,Vk⟩ ⟨hk,hRk,Hm,lR,La⟩
  simp only at hk hRk Hm lR La;dsimp only;refine ae ?_;by_cases aJ:k < U.length;rotate_left
  .rw[show decide ((k:Int) < (U.length:Int))=false from Zf Zo];have hke:k=st.outer.length:=by omega
   rw[hke]at hRk;refine ae ?_;exact⟨(Uk,Vk),⟨hRk,Hm,lR,La⟩,ZU,ZI⟩
  rw[show decide ((k:Int) < (U.length:Int))=true from Zt Zo];obtain⟨w,Y⟩:∃w,Uk[k]? =some w:=⟨_,Zg (by rw[hRk.ul];omega)⟩;obtain⟨w0,hw0⟩:∃w0,U[k]? =some w0:=⟨_,Zg aJ⟩;have rH:w0.q=w.q:=by
   have:=Fg Hm k;rw[Y,hw0]at this;exact(XC this).symm
  obtain⟨W,X,hub,huc⟩:=aC k w0 hw0;subst hub;rw[rH]at huc;have hlay:=We st AK Uk Vk k hRk w Y ⟨hB.v,hB.o,hB.a⟩;refine ae ?_;refine kH hlay Zr ZP (λv Post hv=>?_);obtain⟨U',V',⟨rfl,h1,h2,h3,h4⟩,rfl⟩:=hv;simp only[aE];refine ae ?_;exact⟨(k+1,U',V'),⟨by simp only;omega,h1,h2.trans Hm,h3.trans lR,h4.trans La⟩,by simp only;omega,ZU,ZI⟩
 rintro⟨g,C⟩ ⟨YZ,Hm,lR,La⟩
 simp only at YZ Hm lR La;dsimp only;have hgetf:∀k,k < st.outer.length->∃w,g[k]? =some w/\∃b o,ua=some ⟨b,o,none⟩/\kC.cell b (o+k) (kE w.q)∈ao (.slice ua U.length A) (U.map λu=>kO (some u.q)) J:=λk hk=>by
  obtain⟨w,Y⟩:∃w,g[k]? =some w:=⟨_,Zg (by rw[YZ.ul];omega)⟩;obtain⟨w0,hw0⟩:∃w0,U[k]? =some w0:=⟨_,Zg Zo⟩;have rH:w0.q=w.q:=by
   have:=Fg Hm k;rw[Y,hw0]at this;exact(XC this).symm
  obtain⟨b,o,h1,h2⟩:=aC k w0 hw0;exact⟨w,Y,b,o,h1,rH ▸ h2⟩
 have hbodf:∀(k:Nat) w,g[k]? =some w->xq T (C.map ax.q) w.body (st.bodies.getD k []):=λk w Y=>by
  have h1:(U.map UC.body)[k]? =some w.body:=by rw[<- lR,Vu,Y];rfl
  rw[Vu]at h1;obtain⟨w0,hw0,he⟩:=X9.1 h1;rw[La,<- he];exact KZ k w0 hw0
 clear hR Hm lR La aC KZ;refine jH ?_;refine VC.join (α:=Value×List (List Value)×List Value×List kC) (bg:=λ_=>[(4,kE D),(5,kE E)]) (Hf:=λs=>[kA E 0 [.string O,.int .i64 N,s.1],ao (s.1) s.2.1.flatten s.2.2.1,kA D 0 [.string e0,.int .i64 0,Nz],ao (.slice ua U.length A) (U.map λu=>kO (some u.q)) J,WK g C,T,s.2.2.2]) (I:=λs=>st.answer=((List.range st.outer.length).map st.aB,0,0)/\ky 6 s.1 st.outer.length s.2.1.flatten s.2.2.1/\iT 6 (YU (T++s.2.2.2)) ((List.range st.outer.length).map st.aB) s.2.1) ?_ ?_
 .refine ae ?_;refine VC.loop (α:=Nat×Value×List (List Value)×List Value×List kC) (bg:=λs=>[(4,kE D),(5,kE E),(42,.slice ua U.length A),(43,vi U.length),(44,vi s.1)]) (Hf:=λs=>[kA E 0 [.string O,.int .i64 N,s.2.1],ao (s.2.1) s.2.2.1.flatten s.2.2.2.1,kA D 0 [.string e0,.int .i64 0,Nz],ao (.slice ua U.length A) (U.map λu=>kO (some u.q)) J,WK g C,T,s.2.2.2.2]) (I:=λs=>s.1<=U.length/\(∀i,i < s.1->(st.aB i).Ta=false)/\ky 6 s.2.1 s.1 s.2.2.1.flatten s.2.2.2.1/\iT 6 (YU (T++s.2.2.2.2)) ((List.range s.1).map st.aB) s.2.2.1) (μ:=λs=>U.length - s.1) (0,Nz,[],[],[]) ⟨X3 _,(λi h=>by omega),.nil,iT.nil⟩ ZU (ai.cut (M:=[kA E 0 [.string O,.int .i64 N,Nz],kA D 0 [.string e0,.int .i64 0,Nz],ao (.slice ua U.length A) (U.map λu=>kO (some u.q)) J,WK g C,T]) ZI (ai.perm (by simp[ao]))) ?_
  rintro⟨j,sv,rows,sp,B⟩ ⟨hj,hnb,iG,cu⟩
  simp only at hj hnb iG cu;dsimp only;obtain⟨K,L,rfl⟩:=iG.form;refine ae ?_;by_cases aJ:j < U.length;rotate_left
  .rw[show decide ((j:Int) < (U.length:Int))=false from Zf Zo];have hje:j=st.outer.length:=by omega
   rw[hje]at iG cu hnb|-;refine ae ?_;exact⟨(.slice K st.outer.length L,rows,sp,B),⟨N7 hf tM hnb,iG,cu⟩,ZU,ZI⟩
  rw[show decide ((j:Int) < (U.length:Int))=true from Zt Zo];have rW:j < st.outer.length:=by omega
  obtain⟨u,hu,W,X,hub,huc⟩:=hgetf j rW;subst hub;obtain⟨ca,cc,ς,hua,hulc,huv,iF⟩:=YZ.cells hu;have hba:=hB.a j;have hbc:=hB.dZ j;have Hc:=hB.loc j false;have hbv:=hB.loc j true;have pB:∀(k:Nat) x,u.row[k]? =some x->kC.cell u.q k x∈WK g C:=λk x hx=>yP hu _ (QJ _ (Zw _ (kJ.2 ⟨k,x,hx,by rw[X2]⟩)))
  have k0:kC.cell u.q 0 (.int .i64 (st.args.getD j 0))∈WK g C:=pB 0 _ (by unfold UC.row;rw[hua];rfl);have k1:kC.cell u.q 1 (.int .i64 (st.locals j false).length)∈WK g C:=pB 1 _ (by unfold UC.row;rw[hulc];rfl);have k2:kC.cell u.q 2 (.int .i64 (st.locals j true).length)∈WK g C:=pB 2 _ (by unfold UC.row;rw[huv];rfl);have k3:kC.cell u.q 3 (kO u.outer)∈WK g C:=pB 3 _ rfl;have k7:kC.cell u.q 7 (.slice ca (st.copied j).length cc)∈WK g C:=pB 7 _ (by unfold UC.row;rw[ς];rfl);have k8:kC.cell u.q 8 u.body∈WK g C:=pB 8 _ rfl;have cU:(st.aB j).Ta=(decide (63 < (((st.args.getD j 0+(st.copied j).length+(st.locals j false).length+(if 0 < (st.locals j true).length then 1 else 0):Nat):Int)))||decide (63 < ((st.locals j true).length:Int))):=by
   unfold jp.Ta;rw[oA]
   congr 1
   unfold ah.frame;exact decide_eq_decide.2 (by split <;> omega)
  obtain⟨F,Eb⟩:∃F,F=st.args.getD j 0:=⟨_,rfl⟩;obtain⟨Q,hnc⟩:∃Q,Q=(st.copied j).length:=⟨_,rfl⟩;obtain⟨H,hnl⟩:∃H,H=(st.locals j false).length:=⟨_,rfl⟩;obtain⟨G,hnv⟩:∃G,G=(st.locals j true).length:=⟨_,rfl⟩;rw[<- Eb]at hba k0 cU;rw[<- hnc]at hbc k7 cU;rw[<- hnl]at Hc k1 cU;rw[<- hnv]at hbv k2 cU;have hW3:∀z∈kA u.q 0 [.int .i64 F,.int .i64 H,.int .i64 G],z∈WK g C:=λz hz=>by
   obtain⟨jj,x,hx,rfl⟩:=kJ.1 hz;have hz3:jj=0∨jj=1∨jj=2:=by
    exact zEV
   rcases hz3 with rfl|rfl|rfl
   .obtain rfl:(.int .i64 F:Value)=x:=by simpa using hx
    exact k0
   .obtain rfl:(.int .i64 H:Value)=x:=by simpa using hx
    exact k1
   .obtain rfl:(.int .i64 G:Value)=x:=by simpa using hx
    exact k2
  refine jH ?_;refine VC.join (α:=Unit) (bg:=λ_=>[(4,kE D),(5,kE E),(9,kE u.q),(42,.slice (some ⟨W,X,none⟩) U.length A),(43,vi U.length),(44,vi j)]) (Hf:=λ_=>[kA E 0 [.string O,.int .i64 N,.slice K j L],ao (.slice K j L) rows.flatten sp,kA D 0 [.string e0,.int .i64 0,Nz],ao (.slice (some ⟨W,X,none⟩) U.length A) (U.map λu=>kO (some u.q)) J,WK g C,T,B]) (I:=λ_=>(st.aB j).Ta=false) ?_ (λ_ hnbj=>?_)
  .refine ae ?_;refine kR (us:=[.int .i64 F,.int .i64 H,.int .i64 G]) Zr (λz hz=>by have h9:=hW3 z hz;simp[h9]) rfl ?_;refine ae ?_;refine kH (EW F H G Q ⟨Zo,Zo,Zo,Zo⟩) Zr ZP (λv Post hv=>?_);obtain⟨rfl,rfl⟩:=hv;simp only[QV];refine ae ?_;by_cases c1:(63:Int) < ((F+Q+H+(if 0 < G then 1 else 0):Nat):Int)
   .rw[Zt c1];refine ae ?_;refine kN (dW 183 0) Zr ZP (λv Post hv=>False.elim hv) (λch Post hz=>?_);obtain⟨q1,rfl,rfl⟩:=hz;exact⟨[jU q1 183 0],ZI,q1,Af hf rW (by rw[cU,Zt c1];rfl),rfl,rfl⟩
   rw[Zf c1];refine ae ?_;by_cases c2:(63:Int) < (G:Int)
   .rw[Zt c2];refine ae ?_;refine kN (dW 183 0) Zr ZP (λv Post hv=>False.elim hv) (λch Post hz=>?_);obtain⟨q1,rfl,rfl⟩:=hz;exact⟨[jU q1 183 0],ZI,q1,Af hf rW (by rw[cU,Zt c2,Bool.or_true]),rfl,rfl⟩
   rw[Zf c2];refine ae ?_;exact⟨(),by rw[cU,Zf c1,Zf c2];rfl,ZU,ZI⟩
  refine VC.join (α:=Nat) (bg:=λS=>[(4,kE D),(5,kE E),(9,kE u.q),(10,kE S),(42,.slice (some ⟨W,X,none⟩) U.length A),(43,vi U.length),(44,vi j)]) (Hf:=λS=>[kA S 0 [.int .i64 (-1),.int .i64 F,Nz,.int .i64 H,.int .i64 G,Nz],kA E 0 [.string O,.int .i64 N,.slice K j L],ao (.slice K j L) rows.flatten sp,kA D 0 [.string e0,.int .i64 0,Nz],ao (.slice (some ⟨W,X,none⟩) U.length A) (U.map λu=>kO (some u.q)) J,WK g C,T,B]) (I:=λ_=>True) ?_ (λS _=>?_)
  .refine ae ?_;refine kK (λS=>?_);refine ae ?_;exact⟨S,trivial,ZU,ZI⟩
  refine VC.join (α:=Unit) (bg:=λ_=>[(4,kE D),(5,kE E),(9,kE u.q),(10,kE S),(42,.slice (some ⟨W,X,none⟩) U.length A),(43,vi U.length),(44,vi j)]) (Hf:=λ_=>[kA S 0 [.int .i64 (st.outer.getD j (-1)),.int .i64 F,Nz,.int .i64 H,.int .i64 G,Nz],kA E 0 [.string O,.int .i64 N,.slice K j L],ao (.slice K j L) rows.flatten sp,kA D 0 [.string e0,.int .i64 0,Nz],ao (.slice (some ⟨W,X,none⟩) U.length A) (U.map λu=>kO (some u.q)) J,WK g C,T,B]) (I:=λ_=>True) ?_ (λ_ _=>?_)
  .have Su:=YZ.ou j u hu;have nN:=AK.wf.fu j;by_cases hn:st.outer.getD j (-1) < 0
   .rw[if_pos hn]at Su;rw[Su]at k3;have CU:st.outer.getD j (-1)=-1:=by
     have e:st.outer[j]? =some st.outer[j]:=Zg rW;have h1:=AK.wf.low j _ e;have h2:st.outer.getD j (-1)=st.outer[j]:=by rw[Vh,e];rfl
     omega
    rw[CU];have k3:kC.cell u.q 3 (.pointer none)∈WK g C:=k3;exact Sk
   .rw[if_neg hn]at Su;obtain⟨w,Y⟩:∃w,g[(st.outer.getD j (-1)).toNat]? =some w:=⟨_,Zg (by rw[YZ.ul];omega)⟩;rw[Y]at Su;rw[Su]at k3;have k3:kC.cell u.q 3 (kE w.q)∈WK g C:=k3;have hwn:=(YZ.ar _ w Y).2;have k4:kC.cell w.q 4 (.int .i64 (st.outer.getD j (-1)))∈WK g C:=yP Y _ (QJ _ (Zw _ (kJ.2 ⟨4,_,by unfold UC.row;rw[hwn,show(((st.outer.getD j (-1)).toNat:Nat):Int)=st.outer.getD j (-1) by omega];rfl,rfl⟩)));exact Sk
  refine VC.join (α:=Value×List kC) (bg:=λ_=>[(4,kE D),(5,kE E),(9,kE u.q),(10,kE S),(42,.slice (some ⟨W,X,none⟩) U.length A),(43,vi U.length),(44,vi j)]) (Hf:=λs=>[kA S 0 [.int .i64 (st.outer.getD j (-1)),.int .i64 F,s.1,.int .i64 H,.int .i64 G,Nz],s.2,kA E 0 [.string O,.int .i64 N,.slice K j L],ao (.slice K j L) rows.flatten sp,kA D 0 [.string e0,.int .i64 0,Nz],ao (.slice (some ⟨W,X,none⟩) U.length A) (U.map λu=>kO (some u.q)) J,WK g C,T,B]) (I:=λs=>wA s.2 s.1 (st.aB j).copied) ?_ ?_
  .refine ae ?_;refine VC.loop (α:=Nat×Value×List Value) (bg:=λs=>[(4,kE D),(5,kE E),(9,kE u.q),(10,kE S),(42,.slice (some ⟨W,X,none⟩) U.length A),(43,vi U.length),(44,vi j),(100,.slice ca Q cc),(101,vi Q),(102,vi s.1)]) (Hf:=λs=>[kA S 0 [.int .i64 (st.outer.getD j (-1)),.int .i64 F,s.2.1,.int .i64 H,.int .i64 G,Nz],ao s.2.1 ((((st.aB j).copied).take s.1).flatMap kf) s.2.2,kA E 0 [.string O,.int .i64 N,.slice K j L],ao (.slice K j L) rows.flatten sp,kA D 0 [.string e0,.int .i64 0,Nz],ao (.slice (some ⟨W,X,none⟩) U.length A) (U.map λu=>kO (some u.q)) J,WK g C,T,B]) (I:=λs=>s.1<=Q/\ky 4 s.2.1 s.1 ((((st.aB j).copied).take s.1).flatMap kf) s.2.2) (μ:=λs=>Q - s.1) (0,Nz,[]) ⟨X3 _,.nil⟩ ZU (ai.cut (M:=[kA S 0 [.int .i64 (st.outer.getD j (-1)),.int .i64 F,Nz,.int .i64 H,.int .i64 G,Nz],kA E 0 [.string O,.int .i64 N,.slice K j L],ao (.slice K j L) rows.flatten sp,kA D 0 [.string e0,.int .i64 0,Nz],ao (.slice (some ⟨W,X,none⟩) U.length A) (U.map λu=>kO (some u.q)) J,WK g C,T,B]) ZI (ai.perm (by simp[ao]))) ?_;have hcpl:(st.aB j).copied.length=Q:=by rw[hnc];exact Q6 _
   rintro⟨k,rv,L8⟩ ⟨hk,Kp⟩
   simp only at hk Kp;dsimp only;obtain⟨ra,rc,rfl⟩:=Kp.form;refine ae ?_;by_cases Fq:k < Q;rotate_left
   .rw[show decide ((k:Int) < (Q:Int))=false from Zf Zo];have hke:Q=k:=by omega
    subst hke;have cA:(st.aB j).copied.take Q=(st.aB j).copied:=Ql Zo;rw[cA]at Kp|-;refine ae ?_;refine⟨(.slice ra Q rc,ao (.slice ra Q rc) ((st.aB j).copied.flatMap kf) L8),?_,ZU,ZI⟩;have:=ux (B:=[]) (rs:=(st.aB j).copied) (by rw[hcpl];exact Kp);simpa only[vp]using this
   rw[show decide ((k:Int) < (Q:Int))=true from Zt Zo];obtain⟨t,ht⟩:∃t,(st.copied j)[k]? =some t:=⟨_,Zg Zo⟩;have htm:=Zv ht;obtain⟨o0,o1,o2,o3,o4,o5⟩:=AK.oF rW htm;have nN:=AK.wf.fu j;obtain⟨w,Y⟩:∃w,g[(st.outer.getD j (-1)).toNat]? =some w:=⟨_,Zg (by rw[YZ.ul];omega)⟩;have Su:=YZ.ou j u hu;rw[if_neg Zo,Y]at Su;rw[Su]at k3;have k3:kC.cell u.q 3 (kE w.q)∈WK g C:=k3;have nR:=Ca st AK hB g C YZ _ w Y t o2 (by
    by_cases e:t.1=(st.outer.getD j (-1)).toNat
    .exact .inl ⟨e,o4,by rw[<- e];exact o5,λc=>by rw[<- e];exact AK.J3 htm c⟩
    .rcases o1 with c|c
     .exact absurd c e
     .exact .inr ⟨e,c⟩)
   obtain⟨cb,co,rfl,K0⟩:=iF k (qU g t.1,t.2) (by unfold zi;rw[Vu,ht];rfl);have hcm:∀z∈kA cb (co+k*2) [kE (qU g t.1),.int .i64 t.2],z∈WK g C:=λz hz=>yP hu _ (K0 z hz)
   have hrk:(st.aB j).copied[k]? =some ⟨5,st.place (st.outer.getD j (-1)).toNat t,0,e0⟩:=by
    show((st.copied j).map _)[k]? =_;rw[Vu,ht];rfl
   obtain⟨pl,nQ⟩:∃pl,pl=st.place (st.outer.getD j (-1)).toNat t:=⟨_,rfl⟩;rw[<- nQ]at nR hrk;have cA:(st.aB j).copied.take (k+1)=(st.aB j).copied.take k++[⟨5,pl,0,e0⟩]:=by rw[Qi,hrk];rfl
   generalize hqt:qU g t.1=qt at nR hcm;unfold iw at nR;refine ae ?_;refine kR (us:=[kE qt,.int .i64 t.2]) Zr (λz hz=>by have h9:=hcm z hz;simp[h9]) rfl ?_;refine ae ?_;refine kK (λcm=>?_);refine ae ?_;refine VC.draws ⟨?_,?_,trivial⟩
   all_goals
    refine ae ?_;refine kH nR Zr ZP (λv Post hv=>?_);obtain⟨rfl,rfl⟩:=hv;simp only[aE];refine ae ?_;refine j8 (out:=[.int .u8 5,.int .i64 pl,.int .i64 0,.string e0]) Zr Zr (λrr=>?_);refine ae ?_;refine kw (k:=k) (m:=1) (xs:=((st.aB j).copied.take k).flatMap kf) (sp:=L8) (ys:=[.int .u8 5,.int .i64 pl,.int .i64 0,.string e0]) Zr Zr Kp ZK Zr ?_ rfl Zr Zr Zd Zo (λcw bA aH=>?_)
    .exact C2
    have fS:((st.aB j).copied.take k).flatMap kf++([.int .u8 5,.int .i64 pl,.int .i64 0,.string e0]:List Value)=((st.aB j).copied.take (k+1)).flatMap kf:=by
     rw[cA,VV,Vb];rfl
    rw[fS]at aH|-;obtain⟨oV,oW,rfl⟩:=aH.form;refine ae ?_;exact⟨(k+1,.slice oV (k+1) oW,bA),⟨by simp only;omega,aH⟩,by simp only;omega,ZU,ZI⟩
  rintro⟨cv,Bc⟩ π
  simp only at π;dsimp only;obtain⟨Z,KM,hcve⟩:∃Z KM,cv=.slice Z (st.aB j).copied.length KM:=let⟨e1,e2,e3,_⟩:=π;⟨e1,e2,e3⟩;subst hcve;obtain⟨LR,hncp⟩:∃LR,LR=(st.aB j).copied.length:=⟨_,rfl⟩;rw[<- hncp]at π|-;have hbj:=hbodf j u hu;obtain⟨l,hl⟩:∃l,l=st.bodies.getD j []:=⟨_,rfl⟩;rw[<- hl]at hbj;have Ue:st.bodies[j]? =some l:=by
   rw[hl,Vh,Zg (by rw[AK.wf.bl];exact rW)];rfl
  have hlraw:=AK.bd j l Ue;have Na:=hBw l (Zv Ue);have O4:=PN.Lr l;have hub:(st.aB j).body=l.map (eM st j):=by
   show zv st j (st.bodies.getD j [])=_;rw[<- hl,tI]
  obtain⟨ba,bc,bk,bo,bus,hbv2,ζ,hbm,hbr⟩:=hbj;rw[hbv2]at k8;refine VC.join (α:=Value×List kC) (bg:=λ_=>[(4,kE D),(5,kE E),(9,kE u.q),(10,kE S),(42,.slice (some ⟨W,X,none⟩) U.length A),(43,vi U.length),(44,vi j)]) (Hf:=λs=>[kA S 0 [.int .i64 (st.outer.getD j (-1)),.int .i64 F,.slice Z LR KM,.int .i64 H,.int .i64 G,s.1],Bc,s.2,kA E 0 [.string O,.int .i64 N,.slice K j L],ao (.slice K j L) rows.flatten sp,kA D 0 [.string e0,.int .i64 0,Nz],ao (.slice (some ⟨W,X,none⟩) U.length A) (U.map λu=>kO (some u.q)) J,WK g C,T,B]) (I:=λs=>Aa (T++s.2) s.1 (st.aB j).body) ?_ ?_
  .refine ae ?_;refine VC.loop (α:=Nat×Value×List (List Value)×List Value×List kC) (bg:=λs=>[(4,kE D),(5,kE E),(9,kE u.q),(10,kE S),(42,.slice (some ⟨W,X,none⟩) U.length A),(43,vi U.length),(44,vi j),(122,.slice ba l.length bc),(123,vi l.length),(124,vi s.1)]) (Hf:=λs=>[kA S 0 [.int .i64 (st.outer.getD j (-1)),.int .i64 F,.slice Z LR KM,.int .i64 H,.int .i64 G,s.2.1],ao s.2.1 s.2.2.1.flatten s.2.2.2.1,Bc,s.2.2.2.2,kA E 0 [.string O,.int .i64 N,.slice K j L],ao (.slice K j L) rows.flatten sp,kA D 0 [.string e0,.int .i64 0,Nz],ao (.slice (some ⟨W,X,none⟩) U.length A) (U.map λu=>kO (some u.q)) J,WK g C,T,B]) (I:=λs=>s.1<=l.length/\ky 11 s.2.1 s.1 s.2.2.1.flatten s.2.2.2.1/\eJ (T++s.2.2.2.2) ((l.take s.1).map (eM st j)) s.2.2.1) (μ:=λs=>l.length - s.1) (0,Nz,[],[],[]) ⟨X3 _,.nil,eJ.nil _⟩ ZU (ai.cut (M:=[kA S 0 [.int .i64 (st.outer.getD j (-1)),.int .i64 F,.slice Z LR KM,.int .i64 H,.int .i64 G,Nz],Bc,kA E 0 [.string O,.int .i64 N,.slice K j L],ao (.slice K j L) rows.flatten sp,kA D 0 [.string e0,.int .i64 0,Nz],ao (.slice (some ⟨W,X,none⟩) U.length A) (U.map λu=>kO (some u.q)) J,WK g C,T,B]) ZI (ai.perm (by simp[ao]))) ?_
   rintro⟨k,pv,u5,psp,Bb⟩ ⟨hk,hpv,Fy⟩
   simp only at hk hpv Fy;dsimp only;obtain⟨pa,pc,rfl⟩:=hpv.form;refine ae ?_;by_cases Fq:k < l.length;rotate_left
   .rw[show decide ((k:Int) < (l.length:Int))=false from Zf Zo];have hke:k=l.length:=by omega
    subst hke;rw[Qk,<- hub]at Fy;have hlk:(st.aB j).body.length=l.length:=by rw[hub,Q6]
    have K9:=Gy (l:=(st.aB j).body) (by rw[hlk];exact hpv) Fy;refine ae ?_;refine⟨(.slice pa l.length pc,ao (.slice pa l.length pc) u5.flatten psp++Bb),?_,ZU,ai.cut (M:=[kA S 0 [.int .i64 (st.outer.getD j (-1)),.int .i64 F,.slice Z LR KM,.int .i64 H,.int .i64 G,.slice pa l.length pc],ao (.slice pa l.length pc) u5.flatten psp,Bc,Bb,kA E 0 [.string O,.int .i64 N,.slice K j L],ao (.slice K j L) rows.flatten sp,kA D 0 [.string e0,.int .i64 0,Nz],ao (.slice (some ⟨W,X,none⟩) U.length A) (U.map λu=>kO (some u.q)) J,WK g C,T,B]) ZI (ai.perm ?_)⟩
    .refine K9.more λy hy=>?_
     simp only[QG]at hy|-;rcases hy with hy|hy|hy
     .exact .inr (.inl hy)
     .exact .inl hy
     .exact .inr (.inr hy)
    .simp only[Vd,Ve,vp];refine vZ _ ?_;generalize ao (.slice pa l.length pc) u5.flatten psp=P;rw[vm];refine(Qc P Bc _).trans ?_;exact ve _
   rw[show decide ((k:Int) < (l.length:Int))=true from Zt Zo];obtain rfl:=ζ Zo;obtain⟨x,hxj⟩:∃x,l[k]? =some x:=⟨_,Zg Fq⟩;have hxm:=Zv hxj;have Ss:=hbm k Fq;have UN:=hbr k x hxj;have az:=KS st AK hB g C YZ j u hu T _ x (Qt _) (by have:=PN.E1 hxm;omega) _ UN (sj hlraw x hxm);generalize bus k=uj at*;obtain⟨f1,f2,f3,f4,f5,f6,f7,r1,r2,r3,p1,p2,p3,k1,k2,k3,rfl⟩:=mf UN;have cA:(l.take (k+1)).map (eM st j)=(l.take k).map (eM st j)++[eM st j x]:=by
    rw[Qi,hxj,QB];rfl
   refine ae ?_;refine kR Zr (λz hz=>by have h9:=Ss z hz;simp[h9]) rfl ?_;refine ae ?_;refine kK (λEH=>?_);refine ae ?_;refine VC.draws ⟨?_,?_,trivial⟩
   all_goals
    refine ae ?_;refine kH az Zr ZP (λv Post hv=>?_);obtain⟨ws',B3,⟨rfl,hp⟩,rfl⟩:=hv;simp only[aE];obtain⟨d,Ec⟩:∃d,d=eM st j x:=⟨_,rfl⟩;rw[<- Ec]at hp cA;have rX:=hp;obtain⟨g1,g2,g3,g4,g5,g7,s1,s3,t1,t3,_,_,_,rfl,_⟩:=Xm rX;refine ae ?_;refine j8 (out:=(rP d.kind d.name g1 g2 g3 g4 g5 d.lit.items.length g7 s1 d.refs.length s3 d.unit d.super t1 d.kids.length t3)) Zr Zr (λrr=>?_);refine ae ?_;refine kw (k:=k) (m:=1) (xs:=u5.flatten) (sp:=psp) (ys:=(rP d.kind d.name g1 g2 g3 g4 g5 d.lit.items.length g7 s1 d.refs.length s3 d.unit d.super t1 d.kids.length t3)) Zr Zr hpv ZK Zr ?_ rfl Zr Zr Zd Zo (λcw bA aH=>?_)
    .exact C2
    have fS:u5.flatten++((rP d.kind d.name g1 g2 g3 g4 g5 d.lit.items.length g7 s1 d.refs.length s3 d.unit d.super t1 d.kids.length t3):List Value)=(u5++[((rP d.kind d.name g1 g2 g3 g4 g5 d.lit.items.length g7 s1 d.refs.length s3 d.unit d.super t1 d.kids.length t3):List Value)]).flatten:=by simp
    rw[fS]at aH|-;obtain⟨oV,oW,rfl⟩:=aH.form;refine ae ?_;refine⟨(k+1,.slice oV (k+1) oW,u5++[(rP d.kind d.name g1 g2 g3 g4 g5 d.lit.items.length g7 s1 d.refs.length s3 d.unit d.super t1 d.kids.length t3)],bA,Bb++B3),⟨by simp only;omega,aH,?_⟩,by simp only;omega,ZU,?_⟩
    .show eJ (T++(Bb++B3)) ((l.take (k+1)).map (eM st j)) _;rw[cA];refine(Fy.more λy hy=>?_).snoc (hp.more λy hy=>?_)
     .simp only[QG]at hy|-;exact hy.elim .inl λh=>.inr (.inl h)
     .simp only[QG]at hy|-;exact hy.elim .inl λh=>.inr (.inr h)
    .simp only;refine ai.cut (M:=[kA S 0 [.int .i64 (st.outer.getD j (-1)),.int .i64 F,.slice Z LR KM,.int .i64 H,.int .i64 G,.slice oV (k+1) oW],ao (.slice oV (k+1) oW) (u5++[((rP d.kind d.name g1 g2 g3 g4 g5 d.lit.items.length g7 s1 d.refs.length s3 d.unit d.super t1 d.kids.length t3):List Value)]).flatten bA,Bc,Bb,B3,kA E 0 [.string O,.int .i64 N,.slice K j L],ao (.slice K j L) rows.flatten sp,kA D 0 [.string e0,.int .i64 0,Nz],ao (.slice (some ⟨W,X,none⟩) U.length A) (U.map λu=>kO (some u.q)) J,WK g C,T,B]) ZI (ai.perm Zs)
  rintro⟨bv2,Bb⟩ AM
  simp only at AM;dsimp only;obtain⟨xa,xc,hbv3⟩:∃xa xc,bv2=.slice xa (st.aB j).body.length xc:=let⟨e1,e2,_,_,_,e3,_⟩:=AM;⟨e1,e2,e3⟩;subst hbv3;obtain⟨nb,hnb2⟩:∃nb,nb=(st.aB j).body.length:=⟨_,rfl⟩;rw[<- hnb2]at AM|-;have hurow:YU (T++(B++(Bc++Bb))) (st.aB j) [.int .i64 (st.outer.getD j (-1)),.int .i64 F,.slice Z LR KM,.int .i64 H,.int .i64 G,.slice xa nb xc]:=by
   refine⟨.slice Z LR KM,.slice xa nb xc,?_,π.more λy hy=>?_,AM.more λy hy=>?_⟩
   .rw[Eb,hnl,hnv];rfl
   .simp only[QG];exact .inr (.inr (.inl hy))
   .simp only[QG]at hy|-;exact hy.elim .inl λh=>.inr (.inr (.inr h))
  have hrg:(List.range (j+1)).map st.aB=(List.range j).map st.aB++[st.aB j]:=by rw[List.range_succ,QB];rfl
  refine ae ?_;refine j8 (out:=[.int .i64 (st.outer.getD j (-1)),.int .i64 F,.slice Z LR KM,.int .i64 H,.int .i64 G,.slice xa nb xc]) Zr Zr (λrr=>?_);refine ae ?_;refine kw (k:=j) (m:=1) (xs:=rows.flatten) (sp:=sp) (ys:=[.int .i64 (st.outer.getD j (-1)),.int .i64 F,.slice Z LR KM,.int .i64 H,.int .i64 G,.slice xa nb xc]) Zr Zr iG ZK Zr ?_ rfl Zr Zr Zd Zo (λcw bA aH=>?_)
  .exact C2
  have fS:rows.flatten++([.int .i64 (st.outer.getD j (-1)),.int .i64 F,.slice Z LR KM,.int .i64 H,.int .i64 G,.slice xa nb xc]:List Value)=(rows++[([.int .i64 (st.outer.getD j (-1)),.int .i64 F,.slice Z LR KM,.int .i64 H,.int .i64 G,.slice xa nb xc]:List Value)]).flatten:=by simp
  rw[fS]at aH|-;obtain⟨oV,oW,rfl⟩:=aH.form;refine ae ?_;refine⟨(j+1,.slice oV (j+1) oW,rows++[[.int .i64 (st.outer.getD j (-1)),.int .i64 F,.slice Z LR KM,.int .i64 H,.int .i64 G,.slice xa nb xc]],bA,B++(Bc++Bb)),⟨by simp only;omega,?_,aH,?_⟩,by simp only;omega,ZU,?_⟩
  .intro i hi;by_cases e:i=j
   .subst e;exact hnbj
   .exact hnb i (by simp only at hi;omega)
  .show iT 6 (YU (T++(B++(Bc++Bb)))) ((List.range (j+1)).map st.aB) _;rw[hrg];refine(cu.imp λx r hx=>hx.more λy hy=>?_).snoc rfl hurow;simp only[QG]at hy|-;exact hy.elim .inl λh=>.inr (.inl h)
  .simp only;refine ai.cut (M:=[kA E 0 [.string O,.int .i64 N,.slice oV (j+1) oW],ao (.slice oV (j+1) oW) (rows++[([.int .i64 (st.outer.getD j (-1)),.int .i64 F,.slice Z LR KM,.int .i64 H,.int .i64 G,.slice xa nb xc]:List Value)]).flatten bA,kA D 0 [.string e0,.int .i64 0,Nz],ao (.slice (some ⟨W,X,none⟩) U.length A) (U.map λu=>kO (some u.q)) J,WK g C,T,B,Bc,Bb]) ZI (ai.perm Zs)
 rintro⟨yv,rows,sp,B⟩ ⟨Fj,husl,UP⟩
 simp only at Fj husl UP;dsimp only;have Us:((List.range st.outer.length).map st.aB).length=st.outer.length:=by simp
 have husr:th (ao yv rows.flatten sp++(T++B)) yv ((List.range st.outer.length).map st.aB):=Ab.imp (sl_made (B:=T++B) (by rw[Us];exact husl) UP) (λ_ h=>h) λx r hx=>hx.more λy hy=>QH _ hy
 obtain⟨F,Q,rfl⟩:=husl.form;refine ae ?_;refine jT ⟨.inr rfl,_,[ao (.slice F st.outer.length Q) rows.flatten sp++(T++B)],.aI (us:=[.string O,.int .i64 N,.slice F st.outer.length Q]) Zr Zr (λy hy=>by simp only[Vd,QG];repeat (first|exact Or.inl hy|refine Or.inr ?_)) .nil,ai.cut (M:=[ao (.slice F st.outer.length Q) rows.flatten sp,T,B]) ZI (ai.perm Zs),⟨_,_,⟨Fj,rfl,husr⟩,rfl⟩⟩
def SQ(qs:List Nat)(unit il:Nat)(arg own:Bool)(fv:Value)(len:Nat)(J:List Nat->List kC->Prop):Prop:=
 ∀(st:ah) U Vs ps A (k:Nat),df st U Vs->U.map UC.q=qs->unit < st.outer.length->st.args.getD unit 0=il->st.vars.length < 1073741824->J ps A->ps.length=k->k < len->
  eH Tryz.prog fv [vi k] [A,WK U Vs] (λr Post=>∃U' y A',(r=kE y.q/\(∀nm,df (st.aX ⟨nm,unit,arg,if arg&&own then k else -1⟩) U' (Vs++[y]))/\U'.map UC.q=U.map UC.q/\U'.map UC.body=U.map UC.body/\J (ps++[y.q]) A')/\Post=[A',WK U' (Vs++[y])])
theorem tD(unit:Nat)(arg own:Bool)(p:Int)(l:List ByteArray)(i:Nat)(st:ah)(env:List Nat){e:Nat×Int}(h:st.f=some e):(kP unit arg own p l i st env).1.f=some e:=(zr unit arg own p l i st env).f e h
theorem Oi(unit:Nat)(arg own:Bool)(p:Int)(nm:ByteArray)(r:List ByteArray)(i:Nat)(st:ah)(env:List Nat)(h:jk st.vars env nm=none):
 kP unit arg own p (nm::r) i st env=kP unit arg own p r (i+1) (st.aX ⟨nm,unit,arg,if arg&&own then i else -1⟩) (env++[st.vars.length]):=by
 rw[kP,h];rfl
theorem Tm(unit:Nat)(arg own:Bool)(p:Int)(nm:ByteArray)(r:List ByteArray)(i:Nat)(st:ah)(env:List Nat){v:Nat}(h:jk st.vars env nm=some v)(d:st.f=none):
 (kP unit arg own p (nm::r) i st env).1.f=some (180,p):=by
 rw[kP,h];refine tD _ _ _ _ _ _ _ _ ?_;simp only[Option.isSome_some,if_true,ah.wrong,d,Option.isNone_none]
theorem pd(S:List kC)(unit il:Nat)(arg own:Bool)(p:Int)(l:List ByteArray)(lv:Value)(hl:cO S lv l)(fv:Value)(J:List Nat->List kC->Prop)
 (st:ah) (U:List UC) (Vs:List ax) (hmk:SQ (U.map UC.q) unit il arg own fv l.length J) (g:df st U Vs) (hun:unit < st.outer.length) (Eb:st.args.getD unit 0=il) (F:st.f=none) (hb:st.vars.length+l.length < 1073741824) (A:List kC) (H:J [] A) (env:List Nat) (b:Nat) (es:Array MapEntry) (c:Nat) (B:zT st Vs env es c):
 ju Tryz.prog 108 [.map (some b),.int .i64 p,lv,fv] [A,WK U Vs,[.obj b (.map es c)],S]
  (λv Post=>∃C cT c' W O A',((kP unit arg own p l 0 st env).1.f=none/\v=.map (some C)/\df (kP unit arg own p l 0 st env).1 W O/\W.map UC.q=U.map UC.q/\W.map UC.body=U.map UC.body/\Vs.map ax.q <+:O.map ax.q/\zT (kP unit arg own p l 0 st env).1 O (kP unit arg own p l 0 st env).2 cT c'/\
    J ((O.map ax.q).drop Vs.length) A')/\Post=[A',WK W O,[.obj C (.map cT c')],[.obj b (.map es c)],S])
  (λch Post=>(kP unit arg own p l 0 st env).1.f=some (180,p)/\∃q,ch=qE q/\Post=[S,jU q 180 p]):=by
 obtain⟨la,lc,rfl,Up,dE⟩:=hl;refine ju.intro low108 Zn9 ?_;refine ae ?_;refine kH (KJ b es c) Zr ZP (λv Post M=>?_);obtain⟨C,rfl,rfl⟩:=M;simp only[aE];refine ae ?_;refine VC.loop (α:=Nat×ah×List Nat×List UC×List ax×List kC×Array MapEntry×Nat) (bg:=λs=>[(1,.int .i64 p),(3,fv),(9,.map (some C)),(14,.slice la l.length lc),(15,vi l.length),(16,vi s.1)])
  (Hf:=λs=>[s.2.2.2.2.2.1,WK s.2.2.2.1 s.2.2.2.2.1,[.obj C (.map s.2.2.2.2.2.2.1 s.2.2.2.2.2.2.2)],[.obj b (.map es c)],S])
  (I:=λs=>s.1<=l.length/\kP unit arg own p l 0 st env=kP unit arg own p (l.drop s.1) s.1 s.2.1 s.2.2.1/\df s.2.1 s.2.2.2.1 s.2.2.2.2.1/\s.2.1.f=none/\s.2.1.outer=st.outer/\s.2.1.args=st.args/\s.2.1.vars.length=st.vars.length+s.1/\s.2.2.2.1.map UC.q=U.map UC.q/\s.2.2.2.1.map UC.body=U.map UC.body/\Vs.map ax.q <+:s.2.2.2.2.1.map ax.q/\
    zT s.2.1 s.2.2.2.2.1 s.2.2.1 s.2.2.2.2.2.2.1 s.2.2.2.2.2.2.2/\J ((s.2.2.2.2.1.map ax.q).drop Vs.length) s.2.2.2.2.2.1) (μ:=λs=>l.length - s.1) (0,st,env,U,Vs,A,es,c)
  ⟨X3 _,rfl,g,F,rfl,rfl,rfl,rfl,rfl,Qg _,B,by simpa[vx]using H⟩ ZU ZI ?_
 have N:=g.vl;clear g F B H
 rintro⟨j,D,Q,U1,d,Y,K,c1⟩ ⟨hj,m,g,F,ho,ha,Z,X,G,T,B,H⟩
 simp only at hj m g F ho ha Z X G T B H;dsimp only;refine ae ?_;by_cases aJ:j < l.length;rotate_left
 .rw[show decide ((j:Int) < (l.length:Int))=false from Zf Zo];have rW:j=l.length:=by omega
  rw[rW,List.drop_length,kP]at m;refine ae ?_;refine jT (kG (Post:=[Y,WK U1 d,[.obj C (.map K c1)],[.obj b (.map es c)],S]) (.inr rfl) (.tmp (v:=.map (some C)) Zr .nil) ⟨C,K,c1,U1,d,Y,⟨?_,rfl,?_,X,G,T,?_,H⟩,rfl⟩ ZI)
  .rw[m];exact F
  .rw[m];exact g
  .rw[m];exact B
 rw[show decide ((j:Int) < (l.length:Int))=true from Zt Zo];obtain⟨nm,O6⟩:∃nm,l[j]? =some nm:=⟨_,Zg aJ⟩;obtain⟨lb,lo,rfl,hm,hms⟩:=dE j nm O6;have Ki:l.drop j=nm::l.drop (j+1):=by
  rw[vw aJ]
  congr 1
  rw[Zg aJ]at O6;exact XC O6
 rw[Ki]at m;obtain⟨hg1,hg2⟩:=B.find nm;refine ae ?_;refine zM (E:=yc) (V:=λb=>kO (some b)) (k:=nm) Zr Zr rfl (.there (.there .here)) B.is ?_;rw[hg1];cases K4:jk D.vars Q nm with
 |some v=>
  have iE:=Tm unit arg own p nm (l.drop (j+1)) j D Q K4 F;rw[<- m]at iE;simp only[ob,XB,kO,if_false,vM];refine ae ?_;refine kN (dW 180 p) Zr ZP (λv Post M=>M.elim) (λch Post hz=>?_);obtain⟨q,rfl,rfl⟩:=hz;exact⟨[S,jU q 180 p],ZI,iE,q,rfl,rfl⟩
 |none=>
  have cX:=Oi unit arg own p nm (l.drop (j+1)) j D Q K4;rw[cX]at m;simp only[ob,XA,if_false,vM];refine ae ?_;refine fj Zr (hmk D U1 d _ Y j g X (by rw[ho];exact hun) (by rw[ha];exact Eb) Zo H (by rw[Q0,Q6,g.vl,Z,N];omega) aJ) Zr ZP (λv Post M=>?_);obtain⟨U2,y,A2,⟨rfl,M5,lR,L,hJ2⟩,rfl⟩:=M;simp only[aE];refine ae ?_;refine zL (E:=yc) (V:=λb=>kO (some b)) (k:=nm) (v:=y.q) Zr Zr Zr rfl ZK B.is (λG8 c2 AN=>?_);refine ae ?_;have nQ:Vs.length<=d.length:=by
   obtain⟨r,hr⟩:=T;have:=congrArg List.length hr;simp only[Vy,Q6]at this;omega
  refine⟨(j+1,D.aX ⟨nm,unit,arg,if arg&&own then j else -1⟩,Q++[D.vars.length],U2,d++[y],A2,G8,c2),⟨by simp only;omega,m,M5 nm,F,ho,ha,?_,lR.trans X,L.trans G,?_,B.add g.vl K4 AN,?_⟩,by simp only;omega,ZU,ZI⟩
  .show(D.vars++[_]).length=_;rw[Vy,Z];rfl
  .simp only[QB];exact T.trans (Qf _ _)
  .simp only[QB,QD,QF];rw[List.drop_append_of_le_length (by rw[Q6];exact nQ)];exact hJ2
theorem mJ {qs:List Nat}{U:List UC}(h:U.map UC.q=qs){unit g:Nat}(d:qs[unit]? =some g):∃u,U[unit]? =some u/\u.q=g:=by
 rw[<- h,Vu]at d;obtain⟨u,j,m⟩:=X9.1 d;exact⟨u,j,m⟩
theorem mk_arg(qs:List Nat)(unit s D k:Nat)(G:qs[unit]? =some D)(hn:s < 1073741824):SQ qs unit s true true (.func (.func 109) #[] #[kE k]) s (λ_ A=>A=kA k 0 [kE D]):=by
 intro st U Vs ps A j C g H Eb hb E K9 hj;subst E;obtain⟨u,m,rfl⟩:=mJ g G;have F:au Tryz.prog 109 [vi j,kE k] [kA k 0 [kE u.q],WK U Vs] (λr Post=>∃d y B,(r=kE y.q/\(∀nm,df (st.aX ⟨nm,unit,true,if true&&true then j else -1⟩) d (Vs++[y]))/\d.map UC.q=U.map UC.q/\d.map UC.body=U.map UC.body/\B=kA k 0 [kE u.q])/\Post=[B,WK d (Vs++[y])]):=by
  refine au.intro low109 Zn9 ?_;refine ae ?_;refine kX Zr (λq=>?_);simp only[Value.cells];refine ae ?_;refine kG (Post:=[kA k 0 [kE u.q],WK U (Vs++[⟨q,u.q,j,true,false,0⟩])]) (.inr rfl) (.tmp (v:=kE q) Zr .nil) ⟨U,⟨q,u.q,j,true,false,0⟩,kA k 0 [kE u.q],⟨rfl,λnm=>?_,rfl,rfl,rfl⟩,rfl⟩ ?_
  .refine cQ.aX (u':=u) C rfl m (by simp only[Bool.and_self,if_true];omega) ⟨rfl,rfl,rfl,rfl,rfl⟩ (za m).symm rfl ?_ ?_
   .rw[if_neg (by simp only[Bool.and_self,if_true];omega),vp]
   .exact(C.tm unit u m).2
  .refine ai.cut (M:=[kA k 0 [kE u.q],kA q 0 [kE u.q,.int .i64 j,.bool true,.bool false,.int .i64 0],WK U Vs]) ZI (ai.perm ?_);simp only[Vd,Ve,vp];exact vZ _ (J4 U Vs ⟨q,u.q,j,true,false,0⟩).symm
 exact eH.cB (first:=#[]) (cap:=#[kE k]) F
theorem mk_temp(qs:List Nat)(unit M B k len:Nat)(I:qs[unit]? =some B):SQ qs unit M false true (.func (.func 110) #[] #[kE k]) len (λ_ A=>A=kA k 0 [kE B]):=by
 intro st U Vs ps A j F m K Eb G E K9 hj;subst E;obtain⟨u,J,rfl⟩:=mJ m I;have H:au Tryz.prog 110 [vi j,kE k] [kA k 0 [kE u.q],WK U Vs] (λr Post=>∃d y s,(r=kE y.q/\(∀nm,df (st.aX ⟨nm,unit,false,if false&&true then j else -1⟩) d (Vs++[y]))/\d.map UC.q=U.map UC.q/\d.map UC.body=U.map UC.body/\s=kA k 0 [kE u.q])/\Post=[s,WK d (Vs++[y])]):=by
  refine au.intro low110 Zn9 ?_;refine ae ?_;refine kH (uD st U Vs F unit u J false G) Zr ZP (λv Post L=>?_);obtain⟨d,y,⟨rfl,C,D,g⟩,rfl⟩:=L;simp only[aE];refine ae ?_;exact kG (Post:=[kA k 0 [kE u.q],WK d (Vs++[y])]) (.inr rfl) (.tmp (v:=kE y.q) Zr .nil) ⟨d,y,_,⟨rfl,C,D,g,rfl⟩,rfl⟩ ZI
 exact eH.cB (first:=#[]) (cap:=#[kE k]) H
def da(ps:List Nat):Value:=match ps.getLast? with|some q=>kE q|none=>.pointer none
theorem Wy(qs:List Nat)(unit Q D k d len:Nat)(K:qs[unit]? =some D):SQ qs unit Q true false (.func (.func 251) #[] #[kE k,kE d]) len (λm A=>A=kA k 0 [kE D]++kA d 0 [da m]):=by
 intro st U Vs m A j H B N Eb I G K9 hj;subst G;obtain⟨u,L,rfl⟩:=mJ B K;have J:au Tryz.prog 251 [vi j,kE k,kE d] [kA k 0 [kE u.q]++kA d 0 [da m],WK U Vs] (λr Post=>∃g y C,(r=kE y.q/\(∀nm,df (st.aX ⟨nm,unit,true,if true&&false then j else -1⟩) g (Vs++[y]))/\g.map UC.q=U.map UC.q/\g.map UC.body=U.map UC.body/\C=kA k 0 [kE u.q]++kA d 0 [da (m++[y.q])])/\Post=[C,WK g (Vs++[y])]):=by
  refine au.intro low251 Zn9 ?_;refine VC.imp (H':=[kA k 0 [kE u.q],kA d 0 [da m],WK U Vs]) (ai.perm Zs) ?_;refine ae ?_;refine kH (uD st U Vs H unit u L true I) Zr ZP (λv Post O=>?_);obtain⟨g,y,⟨rfl,E,F,s⟩,rfl⟩:=O;simp only[aE];refine ae ?_;refine kG (Post:=[kA k 0 [kE u.q]++kA d 0 [da (m++[y.q])],WK g (Vs++[y])]) (.inr rfl) (.tmp (v:=kE y.q) Zr .nil) ⟨g,y,_,⟨rfl,E,F,s,rfl⟩,rfl⟩ ?_;have e:da (m++[y.q])=kE y.q:=by unfold da;simp
  rw[e];exact ai.cut (M:=[kA k 0 [kE u.q],kA d 0 [kE y.q],WK g (Vs++[y])]) ZI (ai.perm Zs)
 exact eH.cB (first:=#[]) (cap:=#[kE k,kE d]) J
def jy(tv kv:Value):List Value:=[cv 14,.string e0,cv 0,.int .i64 0,.int .u64 0,.string e0,Nz,Nz,.int .i64 0,.bool false,Nz,tv,kv]
def SD(uq k k2:Nat)(ps:List Nat)(A:List kC):Prop:=∃tv lM,ky 1 tv ps.length (ps.map λb=>kO (some b)) lM/\A=kA k 0 [kE uq]++(kA k2 0 (jy tv Nz)++ao tv (ps.map λb=>kO (some b)) lM)
theorem mk_body(qs:List Nat)(unit il O k g len:Nat)(hq:qs[unit]? =some O)(N:len < 1073741824):SQ qs unit il false false (.func (.func 252) #[] #[kE k,kE g]) len (SD O k g):=by
 intro st U Vs d A j X I hun Eb Y W K9 hj;obtain⟨tv,J,L,rfl⟩:=W;obtain⟨u,hu,rfl⟩:=mJ I hq;obtain⟨D,E,rfl⟩:=L.form;have Z:au Tryz.prog 252 [vi j,kE k,kE g] [kA k 0 [kE u.q]++(kA g 0 (jy (.slice D d.length E) Nz)++ao (.slice D d.length E) (d.map λb=>kO (some b)) J),WK U Vs] (λr Post=>∃s y K,(r=kE y.q/\(∀nm,df (st.aX ⟨nm,unit,false,if false&&false then j else -1⟩) s (Vs++[y]))/\s.map UC.q=U.map UC.q/\s.map UC.body=U.map UC.body/\SD u.q k g (d++[y.q]) K)/\Post=[K,WK s (Vs++[y])]):=by
  refine au.intro low252 Zn9 ?_;refine VC.imp (H':=[kA k 0 [kE u.q],kA g 0 (jy (.slice D d.length E) Nz),ao (.slice D d.length E) (d.map λb=>kO (some b)) J,WK U Vs]) (ai.perm Zs) ?_;unfold jy;refine ae ?_;refine kH (uD st U Vs X unit u hu false Y) Zr ZP (λv Post hv=>?_);obtain⟨s,y,⟨rfl,S,T,H⟩,rfl⟩:=hv;simp only[aE];refine ae ?_;refine j8 (out:=[kE y.q]) Zr Zr (λq2=>?_);refine kw (k:=d.length) (m:=1) (xs:=d.map λb=>kO (some b)) (sp:=J) (ys:=[kE y.q]) Zr Zr L ZK Zr ?_ rfl Zr Zr Zd Zo (λcw G F=>?_)
  .exact C2
  obtain⟨B,C,rfl⟩:=F.form;have Q:(d.map λb=>kO (some b))++[kE y.q]=(d++[y.q]).map λb=>kO (some b):=by simp[kO]
  rw[Q]at F|-;refine ae ?_;refine kG (Post:=[kA k 0 [kE u.q]++(kA g 0 (jy (.slice B (d.length+1) C) (.slice none 0 0))++ao (.slice B (d.length+1) C) ((d++[y.q]).map λb=>kO (some b)) G),WK s (Vs++[y])]) (.inr rfl) (.tmp (v:=kE y.q) Zr .nil) ⟨s,y,_,⟨rfl,S,T,H,.slice B (d.length+1) C,G,by simpa using F,rfl⟩,rfl⟩ ?_;unfold jy;exact ai.cut (M:=[kA k 0 [kE u.q],kA g 0 (jy (.slice B (d.length+1) C) (.slice none 0 0)),ao (.slice B (d.length+1) C) ((d++[y.q]).map λb=>kO (some b)) G,WK s (Vs++[y])]) (by unfold jy;exact bT) (ai.perm (by simp[jy]))
 exact eH.cB (first:=#[]) (cap:=#[kE k,kE g]) Z
theorem MC(F G:List ByteArray)(wq fb gb:Nat)(us:Value)(bM bQ:Array MapEntry)(fc gc:Nat)(hF:rJ F bM fc)(hG:xR G bQ gc)(k:Nat)(nm:ByteArray)(l1 l2 l3 l4 l5 X Y Z:Value)(p:Int)
 (st:ah) (U:List UC) (Vs:List ax) (hR:df st U Vs) (i:Nat) (u:UC) (hu:U[i]? =some u) (hf:st.f=none) (hb:st.uses.length < 1073741824) (env:List Nat) (b:Nat) (es:Array MapEntry) (c:Nat) (W:zT st Vs env es c) (Hi:∀v∈env,st.af v∈st.line i):
 ju Tryz.prog 209 [kE wq,.agg #[cv k,.string nm,l1,l2,l3,l4,l5,X,Y,Z,.int .i64 p],kE u.q,.map (some b)] [kA wq 0 [.map (some fb),.map (some gb),us],[.obj fb (.map bM fc)],[.obj gb (.map bQ gc)],WK U Vs,[.obj b (.map es c)]]
  (λv Post=>∃U' po,((wC F G st env nm i p (decide (k=3))).2.f=none/\v=uw po (wC F G st env nm i p (decide (k=3))).1/\df (wC F G st env nm i p (decide (k=3))).2 U' po/\U'.map UC.q=U.map UC.q/\U'.map UC.body=U.map UC.body/\po.map ax.q=Vs.map ax.q)/\
    Post=[kA wq 0 [.map (some fb),.map (some gb),us],[.obj fb (.map bM fc)],[.obj gb (.map bQ gc)],WK U' po,[.obj b (.map es c)]])
  (λC Post=>∃q e,(wC F G st env nm i p (decide (k=3))).2.f=some (e,p)/\C=qE q/\Post=[jU q e p]):=by
 obtain⟨mF,D,H⟩:=hF.is;obtain⟨g,I,J⟩:=hG.is;refine ju.intro low209 Zn9 ?_;refine ae ?_;refine kX Zr (λq5=>?_);simp only[Value.cells];refine kK (λq8=>?_);refine ae ?_;by_cases h1:nm=⟨#[115,101,108,102]⟩
 .have hk:wV nm=1:=by rw[h1];decide
  rw[Zt h1];exact zAX
 rw[Zf h1];refine ae ?_;by_cases h2:nm=⟨#[115,117,112,101,114]⟩
 .have hk:wV nm=1:=by rw[h2];decide
  rw[Zt h2];exact zAX
 rw[Zf h2];refine ae ?_;by_cases h3:nm=⟨#[110,105,108]⟩
 .have hk:wV nm=2:=by rw[h3];decide
  rw[Zt h3];refine ae ?_;have hr:=sD (F:=F) (G:=G) (st:=st) (env:=env) (nm:=nm) (u:=i) (p:=p) (put:=decide (k=3)) (by rw[hk];decide);rw[hr,hk];exact jT ⟨.inr rfl,_,[kA wq 0 [.map (some fb),.map (some gb),us],[.obj fb (.map bM fc)],[.obj gb (.map bQ gc)],WK U Vs,[.obj b (.map es c)]],.aI (us:=kf ⟨2,0,0,e0⟩) Zr Zr (λy hy=>by simp only[Vd,QG];exact .inl hy) (.tmp Zr .nil),ZI,U,Vs,⟨hf,rfl,hR,rfl,rfl,rfl⟩,rfl⟩
 rw[Zf h3];refine ae ?_;by_cases h4:nm=⟨#[116,114,117,101]⟩
 .have hk:wV nm=3:=by rw[h4];decide
  rw[Zt h4];refine ae ?_;have hr:=sD (F:=F) (G:=G) (st:=st) (env:=env) (nm:=nm) (u:=i) (p:=p) (put:=decide (k=3)) (by rw[hk];decide);rw[hr,hk];exact jT ⟨.inr rfl,_,[kA wq 0 [.map (some fb),.map (some gb),us],[.obj fb (.map bM fc)],[.obj gb (.map bQ gc)],WK U Vs,[.obj b (.map es c)]],.aI (us:=kf ⟨3,0,0,e0⟩) Zr Zr (λy hy=>by simp only[Vd,QG];exact .inl hy) (.tmp Zr .nil),ZI,U,Vs,⟨hf,rfl,hR,rfl,rfl,rfl⟩,rfl⟩
 rw[Zf h4];refine ae ?_;by_cases h5:nm=⟨#[102,97,108,115,101]⟩
 .have hk:wV nm=4:=by rw[h5];decide
  rw[Zt h5];refine ae ?_;have hr:=sD (F:=F) (G:=G) (st:=st) (env:=env) (nm:=nm) (u:=i) (p:=p) (put:=decide (k=3)) (by rw[hk];decide);rw[hr,hk];exact jT ⟨.inr rfl,_,[kA wq 0 [.map (some fb),.map (some gb),us],[.obj fb (.map bM fc)],[.obj gb (.map bQ gc)],WK U Vs,[.obj b (.map es c)]],.aI (us:=kf ⟨4,0,0,e0⟩) Zr Zr (λy hy=>by simp only[Vd,QG];exact .inl hy) (.tmp Zr .nil),ZI,U,Vs,⟨hf,rfl,hR,rfl,rfl,rfl⟩,rfl⟩
 rw[Zf h5];refine ae ?_;have hk:=GH h1 h2 h3 h4 h5;obtain⟨L,M⟩:=W.find nm;refine zM (E:=yc) (V:=λb=>kO (some b)) (k:=nm) Zr Zr rfl Zax W.is ?_;rw[L];cases K4:jk st.vars env nm with
 |some v=>
  obtain⟨hg3,j,hg5⟩:=M v K4;obtain⟨x,Q⟩:∃x,st.vars[v]? =some x:=⟨_,Zg j⟩;obtain⟨y,hy⟩:∃y,Vs[v]? =some y:=⟨_,Zg (by rw[hR.vl];exact j)⟩;have hyq:y.q=xd Vs v:=by unfold xd;rw[Vh,hy];rfl
  have K:=(hR.vn v x y Q hy).2.2.1;have m2:kC.cell y.q 2 (.bool y.fixed)∈WK U Vs:=mN hy _ (kJ.2 ⟨2,.bool y.fixed,rfl,Zs⟩);rw[K]at m2;simp only[ob,XB,kO,if_false,vM];rw[<- hyq];generalize hB:WK U Vs=B at m2|-;cases hxa:x.arg with
  |true=>
   rw[hxa]at m2;by_cases qI:k=3
   .subst qI;have ii:(decide (3=3)&&((st.vars[v]?).map (·.arg)).getD false)=true:=by rw[Q];simp[hxa]
    have T:=Jp (F:=F) (G:=G) (env:=env) (u:=i) (p:=p) hk K4 ii hf;refine ae ?_;refine kN (dW 182 p) Zr ZP (λv Post N=>N.elim) (λC Post S=>?_);obtain⟨q,rfl,rfl⟩:=S;exact⟨[jU q 182 p],ZI,q,182,T,rfl,rfl⟩
   .have ii:(decide (k=3)&&((st.vars[v]?).map (·.arg)).getD false)=false:=by simp[qI]
    refine ae ?_;rw[show decide ((k:Int)=3)=false from Zf Zo];exact zAL
  |false=>
   rw[hxa]at m2;have ii:(decide (k=3)&&((st.vars[v]?).map (·.arg)).getD false)=false:=by rw[Q];simp[hxa]
   exact zAL
 |none=>
  simp only[ob,XA,if_false,vM];refine ae ?_;refine zM (E:=yc) (V:=λn:Nat=>.int .i64 n) (k:=nm) Zr Zr rfl Zax D ?_;rw[H];cases hfi:F.findIdx? (λs=>decide (s=nm))with
  |some fi=>
   simp only[ob,XB,if_true];refine ae ?_;rw[Ci hk K4 hfi];exact jT ⟨.inr rfl,_,[kA wq 0 [.map (some fb),.map (some gb),us],[.obj fb (.map bM fc)],[.obj gb (.map bQ gc)],WK U Vs,[.obj b (.map es c)]],.aI (us:=kf ⟨7,fi,0,e0⟩) Zr Zr (λy hy=>by simp only[Vd,QG];exact .inl hy) (.tmp Zr .nil),ZI,U,Vs,⟨hf,rfl,hR,rfl,rfl,rfl⟩,rfl⟩
  |none=>
   simp only[ob,XA,if_true];refine ae ?_;refine zM (E:=yc) (V:=λn:Nat=>.int .i64 n) (k:=nm) Zr Zr rfl Zax I ?_;have A:=J nm;cases hga:G.any (λs=>decide (s=nm))with
   |true=>
    rw[hga]at A;have m:(jE nm g).getD 0≠0:=by simpa using A
    obtain⟨n,hn⟩:∃n,jE nm g=some n:=by
     cases e:jE nm g with
     |none=>rw[e]at m;exact absurd rfl m
     |some n=>exact⟨n,rfl⟩
    rw[hn]at m|-;simp only[X7]at m;simp only[ob,XB,if_false,vM];refine ae ?_;rw[show decide ((n:Int)=0)=false from Zf Zo];refine ae ?_;rw[EL hk K4 hfi hga];exact jT ⟨.inr rfl,_,[kA wq 0 [.map (some fb),.map (some gb),us],[.obj fb (.map bM fc)],[.obj gb (.map bQ gc)],WK U Vs,[.obj b (.map es c)]],.aI (us:=kf ⟨8,0,0,nm⟩) Zr Zr (λy hy=>by simp only[Vd,QG];exact .inl hy) (.tmp Zr .nil),ZI,U,Vs,⟨hf,rfl,hR,rfl,rfl,rfl⟩,rfl⟩
   |false=>
    rw[hga]at A;have T:=EM (F:=F) (G:=G) (st:=st) (env:=env) (nm:=nm) (u:=i) (p:=p) (put:=decide (k=3)) hk K4 hfi hga hf;have d:(jE nm g).getD 0=0:=by simpa using A
    have O:ob false (.int .i64 0) ((jE nm g).map λn:Nat=>.int .i64 n)=.int .i64 0:=by
     cases e:jE nm g with
     |none=>rfl
     |some n=>rw[e]at d;simp only[X7]at d;rw[d];rfl
    rw[O];refine ae ?_;refine kN (dW 181 p) Zr ZP (λv Post N=>N.elim) (λC Post S=>?_);obtain⟨q,rfl,rfl⟩:=S;exact⟨[jU q 181 p],ZI,q,181,T,rfl,rfl⟩
end Go.Proofs.YtijnokbblmbpkaaGreatDoor

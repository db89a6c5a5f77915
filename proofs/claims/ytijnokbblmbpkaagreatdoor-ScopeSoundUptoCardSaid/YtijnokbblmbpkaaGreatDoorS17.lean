/-
  Contracts out of what a call makes of the world: blocks laid, a cell written.
-/
import Derived.Test.YtijnokbblmbpkaaGreatDoorS10
import Derived.Test.YtijnokbblmbpkaaGreatDoorProg
import Derived.WalkKit
import Derived.LaidEql
import Derived.Stop.Asserts
import Derived.RowKitTokens
import Derived.KernelRfl
set_option linter.unusedSimpArgs false
set_option linter.unusedVariables false
namespace Go.V
open Go
theorem Sat.alloc {w:World}{L:List kC}(h:Sat w L)(o:Obj):Sat (w.alloc o) L/\kg w (w.alloc o):=by
 have:=h.push o [] (fun x hx=>by cases hx) Zs;simpa using this
theorem Sat.set {w:World}{L R:List kC}{b off:Nat}{v u:Value}(h:Sat w L)(p:L.Perm (.cell b off v::R)):Sat (w.setCell ⟨b,off,none⟩ u) (.cell b off u::R)/\kg w (w.setCell ⟨b,off,none⟩ u):=(h.perm p).store
theorem Sat.allocs {L:List kC}:∀(os:List Obj) {w:World},Sat w L->Sat (os.foldl World.alloc w) L/\kg w (os.foldl World.alloc w):=by
 intro os
 induction os with
 |nil=>intro w h;exact⟨h,.refl w⟩
 |cons o os ih=>
  intro w h;obtain⟨h1,h2⟩:=h.alloc o;obtain⟨h3,h4⟩:=ih h1;exact⟨h3,h2.trans h4⟩
theorem Fun.of_hit {P:Program}{f:Nat}{args:List Value}{A:List kC}{b o:Nat}{old new v:Value}(hc:ji P f=true)
 (h:∀w,(∀a∈A,a.holds w)->w.cell? ⟨b,o,none⟩=some old->w.frozen? ⟨b,o,none⟩=false->Calls P f args.toArray w fun e w'=>e=.returned v/\∃os:List Obj,w'=(os.foldl World.alloc w).setCell ⟨b,o,none⟩ new):
 Fun P f args [A,[.cell b o old]] (fun u Post=>u=v/\Post=[A,[.cell b o new]]):=by
 refine⟨hc,fun F w hs=>?_⟩;have hs':Sat w ((.cell b o old)::(A++F)):=hs.perm (by simp only[vz,V0,vd,vZ,vf,QD];exact QK);obtain⟨c1,c2⟩:=hs'.cell (Q6 ..);refine(h w (fun a ha=>hs'.holds a (Q5 _ (Zw _ ha))) c1 c2).mono ?_
 rintro e w' ⟨rfl,os,rfl⟩
 obtain⟨s1,k1⟩:=hs'.allocs os;obtain⟨s2,k2⟩:=s1.set (u:=new) (.refl _);refine⟨_,_,rfl,⟨rfl,rfl⟩,s2.perm ?_,k1.trans k2⟩;simp only[vz,V0,vd,vZ,vf,QD];exact QK.symm
end Go.V
namespace Go.Proofs.YtijnokbblmbpkaaGreatDoor
open Go Go.RowKit Go.Extern.Stop Go.Stop Go.Extern
set_option maxRecDepth 100000
theorem methodKind (h : Value) (w : World) : (Go.method 543 242 (.agg #[h]) "Kind").run Tryz.prog w = .ok (360, h) w := by kernel_rfl
theorem methodElem (h : Value) (w : World) : (Go.method 543 242 (.agg #[h]) "Elem").run Tryz.prog w = .ok (372, .agg #[h]) w := by kernel_rfl
theorem methodImplements (h : Value) (w : World) : (Go.method 543 242 (.agg #[h]) "Implements").run Tryz.prog w = .ok (373, .agg #[h]) w := by kernel_rfl
theorem zO (h : Value) (w : World) : (Go.method 543 242 (.agg #[h]) "AssignableTo").run Tryz.prog w = .ok (370, .agg #[h]) w := by kernel_rfl
theorem rlm(z:Sem Value)(f:TypeId->Addr->Nat->Nat->Sem Value)(v:Value):
 ReflectliteValue.method z f #[v]=(do match <- ReflectliteValue.parts v with|none=>z|some (t,a,fl)=>f t a fl (fl % 32)):=rfl
theorem rls(v x:Value):ReflectliteValue.set #[v,x]=(do
 let(some (dst,a,fl),some (src,b,_)):=(<- ReflectliteValue.parts v,<- ReflectliteValue.parts x)
  | unsupported (.noEntry "extern/(internal/reflectlite.Value).Set.zeroValue")
 if fl / ReflectliteValue.flagAddr % 2 == 0 then unsupported (.noEntry "extern/(internal/reflectlite.Value).Set.unaddressable")
 let val <- loadVar src b
 if <- Rtype.directlyAssignable dst src then storeVar dst a val
 else if <- Rtype.implements dst src then
  if(<- Rtype.kind src)==20 then
   match val with
   | .nilIface => unsupported (.noEntry "extern/reflectlite: a nil value of one interface type handed on as a value of another")
   |_=>storeVar dst a val
  else storeVar dst a (.iface src val)
 else panicString ("reflectlite.Set: value of type " ++ (← Rtype.spelt src) ++ " is not assignable to type " ++ (← Rtype.spelt dst))
 pure (.tuple #[])):=rfl
theorem valueOf82(t:Addr)(w:World):(ReflectliteValue.unpack (.iface 82 (.pointer (some t)))).run Tryz.prog w
 =.ok (.agg #[.pointer (some ⟨9,82,none⟩),.pointer (some ⟨w.heap.size,0,none⟩),.int .u64 150]) (w.alloc (.cells #[.pointer (some t)] 82)):=by kernel_rfl
theorem type82 (a : Addr) (w : World) : (ReflectliteValue.methodAny (ReflectliteValue.valueError "reflectlite.Value.Type" 0) (fun t _ _ _ => ReflectliteType.toType t) #[.agg #[.pointer (some ⟨9, 82, none⟩), .pointer (some a), .int .u64 150]]).run Tryz.prog w
 =.ok (.iface 242 (.agg #[.pointer (some ⟨9,82,none⟩)])) w:=by kernel_rfl
theorem kind82(w:World):((ReflectliteType.abiMethod fun t=>(fun a:Nat=>Value.int IntKind.u8 (a:Int)) <$> Rtype.kind t) #[.pointer (some ⟨9,82,none⟩)]).run Tryz.prog w=.ok (.int .u8 22) w:=by kernel_rfl
theorem kind80(w:World):((ReflectliteType.abiMethod fun t=>(fun a:Nat=>Value.int IntKind.u8 (a:Int)) <$> Rtype.kind t) #[.pointer (some ⟨9,80,none⟩)]).run Tryz.prog w=.ok (.int .u8 22) w:=by kernel_rfl
theorem parts82(a:Addr)(w:World):(ReflectliteValue.parts (.agg #[.pointer (some ⟨9,82,none⟩),.pointer (some a),.int .u64 150])).run Tryz.prog w=.ok (some (82,a,150)) w:=by kernel_rfl
theorem und82:Tryz.prog.underlying 82=some (.pointer 80):=by kernel_rfl
theorem isNil82(a p:Addr)(W:World)(ha:W.cell? a=some (.pointer (some p))):
 (ReflectliteValue.method (ReflectliteValue.valueError "reflectlite.Value.IsNil" 0) ReflectliteValue.isNil #[.agg #[.pointer (some ⟨9, 82, none⟩), .pointer (some a), .int .u64 150]]).run Tryz.prog W = .ok (.bool false) W := by
 rw[rlm];simp only[Sem.run_bind,parts82,Result.andThen];simp[ReflectliteValue.isNil,loadVar,isAgg,underlying,und82,ha,Result.andThen]
theorem elem82(w:World):(ReflectliteType.method ReflectliteType.elem #[.agg #[.pointer (some ⟨9,82,none⟩)]]).run Tryz.prog w=.ok (.iface 242 (.agg #[.pointer (some ⟨9,80,none⟩)])) w:=by kernel_rfl
theorem implements80 (w : World) : (ReflectliteType.relation "Implements" ReflectliteType.implements_ #[.agg #[.pointer (some ⟨9, 80, none⟩)], .iface 242 (.agg #[.pointer (some ⟨9, 50, none⟩)])]).run Tryz.prog w = .ok (.bool true) w := by kernel_rfl
theorem elemOf82(w:World):(Rtype.elem? 82).run Tryz.prog w=.ok (some 80) w:=by kernel_rfl
theorem mk80(p:Addr)(w:World):(ReflectliteValue.mk 80 p ReflectliteValue.flagAddr).run Tryz.prog w=.ok (.agg #[.pointer (some ⟨9,80,none⟩),.pointer (some p),.int .u64 406]) w:=by kernel_rfl
theorem elemV82(a p:Addr)(W:World)(ha:W.cell? a=some (.pointer (some p))):
 (ReflectliteValue.method (ReflectliteValue.valueError "reflectlite.Value.Elem" 0) ReflectliteValue.elem #[.agg #[.pointer (some ⟨9, 82, none⟩), .pointer (some a), .int .u64 150]]).run Tryz.prog W
   =.ok (.agg #[.pointer (some ⟨9,80,none⟩),.pointer (some p),.int .u64 406]) W:=by
 rw[rlm];simp only[Sem.run_bind,parts82,Result.andThen];simp[ReflectliteValue.elem,loadVar,isAgg,underlying,und82,ha,Result.andThen,elemOf82,mk80]
theorem parts80a(a:Addr)(w:World):(ReflectliteValue.parts (.agg #[.pointer (some ⟨9,80,none⟩),.pointer (some a),.int .u64 406])).run Tryz.prog w=.ok (some (80,a,406)) w:=by kernel_rfl
theorem parts80(a:Addr)(w:World):(ReflectliteValue.parts (.agg #[.pointer (some ⟨9,80,none⟩),.pointer (some a),.int .u64 150])).run Tryz.prog w=.ok (some (80,a,150)) w:=by kernel_rfl
theorem direct80(w:World):(Rtype.directlyAssignable 80 80).run Tryz.prog w=.ok true w:=by kernel_rfl
theorem valueOf129(t:Addr)(w:World):(ReflectliteValue.unpack (.iface 129 (.pointer (some t)))).run Tryz.prog w
 =.ok (.agg #[.pointer (some ⟨9,129,none⟩),.pointer (some ⟨w.heap.size,0,none⟩),.int .u64 150]) (w.alloc (.cells #[.pointer (some t)] 129)):=by kernel_rfl
theorem type129 (a : Addr) (w : World) : (ReflectliteValue.methodAny (ReflectliteValue.valueError "reflectlite.Value.Type" 0) (fun t _ _ _ => ReflectliteType.toType t) #[.agg #[.pointer (some ⟨9, 129, none⟩), .pointer (some a), .int .u64 150]]).run Tryz.prog w
 =.ok (.iface 242 (.agg #[.pointer (some ⟨9,129,none⟩)])) w:=by kernel_rfl
theorem kind129(w:World):((ReflectliteType.abiMethod fun t=>(fun a:Nat=>Value.int IntKind.u8 (a:Int)) <$> Rtype.kind t) #[.pointer (some ⟨9,129,none⟩)]).run Tryz.prog w=.ok (.int .u8 22) w:=by kernel_rfl
theorem kind44(w:World):((ReflectliteType.abiMethod fun t=>(fun a:Nat=>Value.int IntKind.u8 (a:Int)) <$> Rtype.kind t) #[.pointer (some ⟨9,44,none⟩)]).run Tryz.prog w=.ok (.int .u8 2) w:=by kernel_rfl
theorem parts129(a:Addr)(w:World):(ReflectliteValue.parts (.agg #[.pointer (some ⟨9,129,none⟩),.pointer (some a),.int .u64 150])).run Tryz.prog w=.ok (some (129,a,150)) w:=by kernel_rfl
theorem und129:Tryz.prog.underlying 129=some (.pointer 44):=by kernel_rfl
theorem isNil129(a p:Addr)(W:World)(ha:W.cell? a=some (.pointer (some p))):
 (ReflectliteValue.method (ReflectliteValue.valueError "reflectlite.Value.IsNil" 0) ReflectliteValue.isNil #[.agg #[.pointer (some ⟨9, 129, none⟩), .pointer (some a), .int .u64 150]]).run Tryz.prog W = .ok (.bool false) W := by
 rw[rlm];simp only[Sem.run_bind,parts129,Result.andThen];simp[ReflectliteValue.isNil,loadVar,isAgg,underlying,und129,ha,Result.andThen]
theorem elem129(w:World):(ReflectliteType.method ReflectliteType.elem #[.agg #[.pointer (some ⟨9,129,none⟩)]]).run Tryz.prog w=.ok (.iface 242 (.agg #[.pointer (some ⟨9,44,none⟩)])) w:=by kernel_rfl
theorem implements44 (w : World) : (ReflectliteType.relation "Implements" ReflectliteType.implements_ #[.agg #[.pointer (some ⟨9, 44, none⟩)], .iface 242 (.agg #[.pointer (some ⟨9, 50, none⟩)])]).run Tryz.prog w = .ok (.bool true) w := by kernel_rfl
theorem elemOf129(w:World):(Rtype.elem? 129).run Tryz.prog w=.ok (some 44) w:=by kernel_rfl
theorem mk44(p:Addr)(w:World):(ReflectliteValue.mk 44 p ReflectliteValue.flagAddr).run Tryz.prog w=.ok (.agg #[.pointer (some ⟨9,44,none⟩),.pointer (some p),.int .u64 386]) w:=by kernel_rfl
theorem elemV129(a p:Addr)(W:World)(ha:W.cell? a=some (.pointer (some p))):
 (ReflectliteValue.method (ReflectliteValue.valueError "reflectlite.Value.Elem" 0) ReflectliteValue.elem #[.agg #[.pointer (some ⟨9, 129, none⟩), .pointer (some a), .int .u64 150]]).run Tryz.prog W
   =.ok (.agg #[.pointer (some ⟨9,44,none⟩),.pointer (some p),.int .u64 386]) W:=by
 rw[rlm];simp only[Sem.run_bind,parts129,Result.andThen];simp[ReflectliteValue.elem,loadVar,isAgg,underlying,und129,ha,Result.andThen,elemOf129,mk44]
theorem parts44a(a:Addr)(w:World):(ReflectliteValue.parts (.agg #[.pointer (some ⟨9,44,none⟩),.pointer (some a),.int .u64 386])).run Tryz.prog w=.ok (some (44,a,386)) w:=by kernel_rfl
theorem parts44(a:Addr)(w:World):(ReflectliteValue.parts (.agg #[.pointer (some ⟨9,44,none⟩),.pointer (some a),.int .u64 130])).run Tryz.prog w=.ok (some (44,a,130)) w:=by kernel_rfl
theorem direct44(w:World):(Rtype.directlyAssignable 44 44).run Tryz.prog w=.ok true w:=by kernel_rfl
theorem typeOf80(v:Value)(w:World):(ReflectliteType.typeOf #[.iface 80 v]).run Tryz.prog w=.ok (.iface 242 (.agg #[.pointer (some ⟨9,80,none⟩)])) w:=by kernel_rfl
theorem assignable80_80 (w : World) : (ReflectliteType.relation "AssignableTo" ReflectliteType.assignableTo #[.agg #[.pointer (some ⟨9, 80, none⟩)], .iface 242 (.agg #[.pointer (some ⟨9, 80, none⟩)])]).run Tryz.prog w = .ok (.bool true) w := by kernel_rfl
theorem assignable80_44 (w : World) : (ReflectliteType.relation "AssignableTo" ReflectliteType.assignableTo #[.agg #[.pointer (some ⟨9, 80, none⟩)], .iface 242 (.agg #[.pointer (some ⟨9, 44, none⟩)])]).run Tryz.prog w = .ok (.bool false) w := by kernel_rfl
theorem valueOf80(e:Addr)(w:World):(ReflectliteValue.unpack (.iface 80 (.pointer (some e)))).run Tryz.prog w
 =.ok (.agg #[.pointer (some ⟨9,80,none⟩),.pointer (some ⟨w.heap.size,0,none⟩),.int .u64 150]) (w.alloc (.cells #[.pointer (some e)] 80)):=by kernel_rfl
theorem typeOf44(v:Value)(w:World):(ReflectliteType.typeOf #[.iface 44 v]).run Tryz.prog w=.ok (.iface 242 (.agg #[.pointer (some ⟨9,44,none⟩)])) w:=by kernel_rfl
theorem assignable44_44 (w : World) : (ReflectliteType.relation "AssignableTo" ReflectliteType.assignableTo #[.agg #[.pointer (some ⟨9, 44, none⟩)], .iface 242 (.agg #[.pointer (some ⟨9, 44, none⟩)])]).run Tryz.prog w = .ok (.bool true) w := by kernel_rfl
theorem valueOf44(n:Int)(w:World):(ReflectliteValue.unpack (.iface 44 (.int .i64 n))).run Tryz.prog w
 =.ok (.agg #[.pointer (some ⟨9,44,none⟩),.pointer (some ⟨w.heap.size,0,none⟩),.int .u64 130]) (w.alloc (.cells #[.int .i64 n] 44)):=by kernel_rfl
theorem ta80_247(v:Value)(x:TypeId)(w:World):(Instr.typeAssert (.iface 80 v) x 247 true).run Tryz.prog w=.ok (.tuple #[.nilIface,.bool false]) w:=run_typeAssert_lacksB Tryz.underlying247 (by kernel_rfl) (by kernel_rfl) v x w
theorem ta80_250(v:Value)(x:TypeId)(w:World):(Instr.typeAssert (.iface 80 v) x 250 true).run Tryz.prog w=.ok (.tuple #[.iface 80 v,.bool true]) w:=run_typeAssert_hasB Tryz.underlying250 (by kernel_rfl) v x w
theorem ta80_252(v:Value)(x:TypeId)(w:World):(Instr.typeAssert (.iface 80 v) x 252 true).run Tryz.prog w=.ok (.tuple #[.nilIface,.bool false]) w:=run_typeAssert_lacksB Tryz.underlying252 (by kernel_rfl) (by kernel_rfl) v x w
theorem methodUnwrap (e : Addr) (w : World) : (Go.method 543 80 (.pointer (some e)) "Unwrap").run Tryz.prog w = .ok (365, .pointer (some e)) w := by kernel_rfl
end Go.Proofs.YtijnokbblmbpkaaGreatDoor
namespace Go.Proofs.YtijnokbblmbpkaaGreatDoor
open Go Go.RowKit Go.Extern.Stop Go.Stop Go.Extern
set_option maxRecDepth 100000
theorem direct80s(ta b e:Addr)(old:Value)(W:World)(hb:W.cell? b=some (.pointer (some e)))(ht:W.cell? ta=some old)(hf:W.frozen? ta=false):
 (ReflectliteValue.set #[.agg #[.pointer (some ⟨9,80,none⟩),.pointer (some ta),.int .u64 406],.agg #[.pointer (some ⟨9,80,none⟩),.pointer (some b),.int .u64 150]]).run Tryz.prog W
   =.ok (.tuple #[]) (W.setCell ta (.pointer (some e))):=by
 rw[rls];simp only[Sem.run_bind,parts80a,parts80,Result.andThen];simp[ReflectliteValue.flagAddr,loadVar,isAgg,underlying,Tryz.underlying80,hb,Result.andThen,direct80,storeVar,Value.cells,storeCells,Addr.add];rw[run_store Tryz.prog W ta _ _ Zr];simp[ht,hf]
set_option maxHeartbeats 4000000 in
theorem as_fail(e t:Addr)(old:Value)(w:World)(hg:w.cell? ⟨0,0,none⟩=some (.iface 242 (.agg #[.pointer (some ⟨9,50,none⟩)])))(ht0:w.cell? t=some old)(hf0:w.frozen? t=false):
 Calls Tryz.prog 33 #[.iface 80 (.pointer (some e)),.iface 82 (.pointer (some t))] w fun ev w'=>ev=.returned (.bool true)/\w'=((((w.alloc (.cells #[.pointer (some t)] 82)).alloc (.cells #[.pointer (some ⟨9,82,none⟩),.pointer (some ⟨w.heap.size,0,none⟩),.int .u64 150] 162)).alloc (.cells #[.pointer (some ⟨9,82,none⟩),.pointer (some ⟨w.heap.size,0,none⟩),.int .u64 150] 162)).alloc (.cells #[.pointer (some e)] 80)).setCell t (.pointer (some e)):=by
 have h6 := @run_callFunc_extern Tryz.prog 81 _ (fun args => ReflectliteValue.unpack (args.getD 0 (.tuple #[]))) Tryz.func81 (by kernel_rfl) (by kernel_rfl) (by kernel_rfl) (by kernel_rfl);have h7 := @run_callFunc_extern Tryz.prog 82 _ (ReflectliteValue.methodAny (ReflectliteValue.valueError "reflectlite.Value.Type" 0) (fun t _ _ _ => ReflectliteType.toType t)) Tryz.func82 (by kernel_rfl) (by kernel_rfl) (by kernel_rfl) (by kernel_rfl);have h8 := @run_callFunc_extern Tryz.prog 83 _ (ReflectliteValue.method (ReflectliteValue.valueError "reflectlite.Value.IsNil" 0) ReflectliteValue.isNil) Tryz.func83 (by kernel_rfl) (by kernel_rfl) (by kernel_rfl) (by kernel_rfl);have h27 := @run_callFunc_extern Tryz.prog 360 _ (ReflectliteType.abiMethod fun t => do pure (.int .u8 (← Rtype.kind t))) Tryz.func360 (by kernel_rfl) (by kernel_rfl) (by kernel_rfl) (by kernel_rfl);have h37 := @run_callFunc_extern Tryz.prog 372 _ (ReflectliteType.method ReflectliteType.elem) Tryz.func372 (by kernel_rfl) (by kernel_rfl) (by kernel_rfl) (by kernel_rfl);have h38 := @run_callFunc_extern Tryz.prog 373 _ (ReflectliteType.relation "Implements" ReflectliteType.implements_) Tryz.func373 (by kernel_rfl) (by kernel_rfl) (by kernel_rfl) (by kernel_rfl);have h10 := @run_callFunc_extern Tryz.prog 141 _ ReflectliteType.typeOf Tryz.func141 (by kernel_rfl) (by kernel_rfl) (by kernel_rfl) (by kernel_rfl);have h35 := @run_callFunc_extern Tryz.prog 370 _ (ReflectliteType.relation "AssignableTo" ReflectliteType.assignableTo) Tryz.func370 (by kernel_rfl) (by kernel_rfl) (by kernel_rfl) (by kernel_rfl);have h11 := @run_callFunc_extern Tryz.prog 142 _ (ReflectliteValue.method (ReflectliteValue.valueError "reflectlite.Value.Elem" 0) ReflectliteValue.elem) Tryz.func142 (by kernel_rfl) (by kernel_rfl) (by kernel_rfl) (by kernel_rfl);have h12 := @run_callFunc_extern Tryz.prog 143 _ ReflectliteValue.set Tryz.func143 (by kernel_rfl) (by kernel_rfl) (by kernel_rfl) (by kernel_rfl);have tO := typeOf80;have mA := zO;have a25 := assignable80_80;have v25 := valueOf80;have f6 := valueOf82;have f7 := type82;have mK := methodKind;have mE := methodElem;have mI := methodImplements;have k27 := kind82;have k25 := kind80;have e27 := elem82;have i25 := implements80;have n8 := isNil82 ⟨w.heap.size, 0, none⟩ t ((w.alloc (.cells #[.pointer (some t)] 82)).alloc (.cells #[.pointer (some ⟨9, 82, none⟩), .pointer (some ⟨w.heap.size, 0, none⟩), .int .u64 150] 162)) Zs;have hlt : 0 < w.heap.size := by
  exact zCQ
 have hg2:((w.alloc (.cells #[.pointer (some t)] 82)).alloc (.cells #[.pointer (some ⟨9,82,none⟩),.pointer (some ⟨w.heap.size,0,none⟩),.int .u64 150] 162)).cell? ⟨0,0,none⟩=some (.iface 242 (.agg #[.pointer (some ⟨9,50,none⟩)])):=by
  exact zCC
 have htl:t.block < w.heap.size:=by
  exact zC5
 have el:=elemV82 ⟨w.heap.size,0,none⟩ t (((w.alloc (.cells #[.pointer (some t)] 82)).alloc (.cells #[.pointer (some ⟨9,82,none⟩),.pointer (some ⟨w.heap.size,0,none⟩),.int .u64 150] 162)).alloc (.cells #[.pointer (some ⟨9,82,none⟩),.pointer (some ⟨w.heap.size,0,none⟩),.int .u64 150] 162)) (by rw[World.cell?_alloc_lt _ _ ⟨w.heap.size,0,none⟩ Zam];simp);have st:=direct80s t ⟨w.heap.size+1+1+1,0,none⟩ e old ((((w.alloc (.cells #[.pointer (some t)] 82)).alloc (.cells #[.pointer (some ⟨9,82,none⟩),.pointer (some ⟨w.heap.size,0,none⟩),.int .u64 150] 162)).alloc (.cells #[.pointer (some ⟨9,82,none⟩),.pointer (some ⟨w.heap.size,0,none⟩),.int .u64 150] 162)).alloc (.cells #[.pointer (some e)] 80))
  (by rw[World.cell?_alloc_at _ _ _ _ Zs];rfl)
  Zav
  Zaw
 go_enter Tryz.func33,Tryz.ntmps33
 go_wp2
 refine wp_loop_rounds 1 ?_;rw[rounds_succ]
 go_wp2
 go_ret
 exact⟨rfl,rfl⟩
end Go.Proofs.YtijnokbblmbpkaaGreatDoor
namespace Go.Proofs.YtijnokbblmbpkaaGreatDoor
open Go Go.RowKit Go.Extern.Stop Go.Stop Go.Extern
set_option maxRecDepth 100000
end Go.Proofs.YtijnokbblmbpkaaGreatDoor
namespace Go.Proofs.YtijnokbblmbpkaaGreatDoor
open Go Go.RowKit Go.Extern.Stop Go.Stop Go.Extern
set_option maxRecDepth 100000
theorem direct44s(ta b:Addr)(n:Int)(old:Value)(W:World)(hb:W.cell? b=some (.int .i64 n))(ht:W.cell? ta=some old)(hf:W.frozen? ta=false):
 (ReflectliteValue.set #[.agg #[.pointer (some ⟨9,44,none⟩),.pointer (some ta),.int .u64 386],.agg #[.pointer (some ⟨9,44,none⟩),.pointer (some b),.int .u64 130]]).run Tryz.prog W
   =.ok (.tuple #[]) (W.setCell ta (.int .i64 n)):=by
 exact zBS
set_option maxHeartbeats 4000000 in
theorem as_num(n:Int)(t:Addr)(old:Value)(w:World)(hg:w.cell? ⟨0,0,none⟩=some (.iface 242 (.agg #[.pointer (some ⟨9,50,none⟩)])))(ht0:w.cell? t=some old)(hf0:w.frozen? t=false):
 Calls Tryz.prog 33 #[.iface 44 (.int .i64 n),.iface 129 (.pointer (some t))] w fun ev w'=>ev=.returned (.bool true)/\w'=((((w.alloc (.cells #[.pointer (some t)] 129)).alloc (.cells #[.pointer (some ⟨9,129,none⟩),.pointer (some ⟨w.heap.size,0,none⟩),.int .u64 150] 162)).alloc (.cells #[.pointer (some ⟨9,129,none⟩),.pointer (some ⟨w.heap.size,0,none⟩),.int .u64 150] 162)).alloc (.cells #[.int .i64 n] 44)).setCell t (.int .i64 n):=by
 have h6 := @run_callFunc_extern Tryz.prog 81 _ (fun args => ReflectliteValue.unpack (args.getD 0 (.tuple #[]))) Tryz.func81 (by kernel_rfl) (by kernel_rfl) (by kernel_rfl) (by kernel_rfl);have h7 := @run_callFunc_extern Tryz.prog 82 _ (ReflectliteValue.methodAny (ReflectliteValue.valueError "reflectlite.Value.Type" 0) (fun t _ _ _ => ReflectliteType.toType t)) Tryz.func82 (by kernel_rfl) (by kernel_rfl) (by kernel_rfl) (by kernel_rfl);have h8 := @run_callFunc_extern Tryz.prog 83 _ (ReflectliteValue.method (ReflectliteValue.valueError "reflectlite.Value.IsNil" 0) ReflectliteValue.isNil) Tryz.func83 (by kernel_rfl) (by kernel_rfl) (by kernel_rfl) (by kernel_rfl);have h27 := @run_callFunc_extern Tryz.prog 360 _ (ReflectliteType.abiMethod fun t => do pure (.int .u8 (← Rtype.kind t))) Tryz.func360 (by kernel_rfl) (by kernel_rfl) (by kernel_rfl) (by kernel_rfl);have h37 := @run_callFunc_extern Tryz.prog 372 _ (ReflectliteType.method ReflectliteType.elem) Tryz.func372 (by kernel_rfl) (by kernel_rfl) (by kernel_rfl) (by kernel_rfl);have h38 := @run_callFunc_extern Tryz.prog 373 _ (ReflectliteType.relation "Implements" ReflectliteType.implements_) Tryz.func373 (by kernel_rfl) (by kernel_rfl) (by kernel_rfl) (by kernel_rfl);have h10 := @run_callFunc_extern Tryz.prog 141 _ ReflectliteType.typeOf Tryz.func141 (by kernel_rfl) (by kernel_rfl) (by kernel_rfl) (by kernel_rfl);have h35 := @run_callFunc_extern Tryz.prog 370 _ (ReflectliteType.relation "AssignableTo" ReflectliteType.assignableTo) Tryz.func370 (by kernel_rfl) (by kernel_rfl) (by kernel_rfl) (by kernel_rfl);have h11 := @run_callFunc_extern Tryz.prog 142 _ (ReflectliteValue.method (ReflectliteValue.valueError "reflectlite.Value.Elem" 0) ReflectliteValue.elem) Tryz.func142 (by kernel_rfl) (by kernel_rfl) (by kernel_rfl) (by kernel_rfl);have h12 := @run_callFunc_extern Tryz.prog 143 _ ReflectliteValue.set Tryz.func143 (by kernel_rfl) (by kernel_rfl) (by kernel_rfl) (by kernel_rfl);have tO := typeOf44;have mA := zO;have a25 := assignable44_44;have v25 := valueOf44;have f6 := valueOf129;have f7 := type129;have mK := methodKind;have mE := methodElem;have mI := methodImplements;have k27 := kind129;have k25 := kind44;have e27 := elem129;have i25 := implements44;have n8 := isNil129 ⟨w.heap.size, 0, none⟩ t ((w.alloc (.cells #[.pointer (some t)] 129)).alloc (.cells #[.pointer (some ⟨9, 129, none⟩), .pointer (some ⟨w.heap.size, 0, none⟩), .int .u64 150] 162)) Zs;have hlt : 0 < w.heap.size := by
  exact zCQ
 have hg2:((w.alloc (.cells #[.pointer (some t)] 129)).alloc (.cells #[.pointer (some ⟨9,129,none⟩),.pointer (some ⟨w.heap.size,0,none⟩),.int .u64 150] 162)).cell? ⟨0,0,none⟩=some (.iface 242 (.agg #[.pointer (some ⟨9,50,none⟩)])):=by
  exact zCC
 have htl:t.block < w.heap.size:=by
  exact zC5
 have el:=elemV129 ⟨w.heap.size,0,none⟩ t (((w.alloc (.cells #[.pointer (some t)] 129)).alloc (.cells #[.pointer (some ⟨9,129,none⟩),.pointer (some ⟨w.heap.size,0,none⟩),.int .u64 150] 162)).alloc (.cells #[.pointer (some ⟨9,129,none⟩),.pointer (some ⟨w.heap.size,0,none⟩),.int .u64 150] 162)) (by rw[World.cell?_alloc_lt _ _ ⟨w.heap.size,0,none⟩ Zam];simp);have st:=direct44s t ⟨w.heap.size+1+1+1,0,none⟩ n old ((((w.alloc (.cells #[.pointer (some t)] 129)).alloc (.cells #[.pointer (some ⟨9,129,none⟩),.pointer (some ⟨w.heap.size,0,none⟩),.int .u64 150] 162)).alloc (.cells #[.pointer (some ⟨9,129,none⟩),.pointer (some ⟨w.heap.size,0,none⟩),.int .u64 150] 162)).alloc (.cells #[.int .i64 n] 44))
  (by rw[World.cell?_alloc_at _ _ _ _ Zs];rfl)
  Zav
  Zaw
 go_enter Tryz.func33,Tryz.ntmps33
 go_wp2
 refine wp_loop_rounds 1 ?_;rw[rounds_succ]
 go_wp2
 go_ret
 exact⟨rfl,rfl⟩
end Go.Proofs.YtijnokbblmbpkaaGreatDoor
namespace Go.Proofs.YtijnokbblmbpkaaGreatDoor
open Go Go.RowKit Go.Extern.Stop Go.Stop Go.Extern
set_option maxRecDepth 100000
theorem direct44t(ta b:Addr)(n:Int)(old:Value)(W:World)(hb:W.cell? b=some (.int .i64 n))(ht:W.cell? ta=some old)(hf:W.frozen? ta=false):
 (ReflectliteValue.set #[.agg #[.pointer (some ⟨9,44,none⟩),.pointer (some ta),.int .u64 386],.agg #[.pointer (some ⟨9,44,none⟩),.pointer (some b),.int .u64 130]]).run Tryz.prog W
   =.ok (.tuple #[]) (W.setCell ta (.int .i64 n)):=by
 exact zBS
set_option maxHeartbeats 4000000 in
theorem as_in(e t:Addr)(n:Int)(old:Value)(w:World)(hg:w.cell? ⟨0,0,none⟩=some (.iface 242 (.agg #[.pointer (some ⟨9,50,none⟩)])))(ht0:w.cell? t=some old)(hf0:w.frozen? t=false)(he:w.cell? ⟨e.block,e.off+2,none⟩=some (.iface 44 (.int .i64 n)))(hes:e.spot=none):
 Calls Tryz.prog 33 #[.iface 80 (.pointer (some e)),.iface 129 (.pointer (some t))] w fun ev w'=>ev=.returned (.bool true)/\w'=((((w.alloc (.cells #[.pointer (some t)] 129)).alloc (.cells #[.pointer (some ⟨9,129,none⟩),.pointer (some ⟨w.heap.size,0,none⟩),.int .u64 150] 162)).alloc (.cells #[.pointer (some ⟨9,129,none⟩),.pointer (some ⟨w.heap.size,0,none⟩),.int .u64 150] 162)).alloc (.cells #[.int .i64 n] 44)).setCell t (.int .i64 n):=by
 have h6 := @run_callFunc_extern Tryz.prog 81 _ (fun args => ReflectliteValue.unpack (args.getD 0 (.tuple #[]))) Tryz.func81 (by kernel_rfl) (by kernel_rfl) (by kernel_rfl) (by kernel_rfl);have h7 := @run_callFunc_extern Tryz.prog 82 _ (ReflectliteValue.methodAny (ReflectliteValue.valueError "reflectlite.Value.Type" 0) (fun t _ _ _ => ReflectliteType.toType t)) Tryz.func82 (by kernel_rfl) (by kernel_rfl) (by kernel_rfl) (by kernel_rfl);have h8 := @run_callFunc_extern Tryz.prog 83 _ (ReflectliteValue.method (ReflectliteValue.valueError "reflectlite.Value.IsNil" 0) ReflectliteValue.isNil) Tryz.func83 (by kernel_rfl) (by kernel_rfl) (by kernel_rfl) (by kernel_rfl);have h27 := @run_callFunc_extern Tryz.prog 360 _ (ReflectliteType.abiMethod fun t => do pure (.int .u8 (← Rtype.kind t))) Tryz.func360 (by kernel_rfl) (by kernel_rfl) (by kernel_rfl) (by kernel_rfl);have h37 := @run_callFunc_extern Tryz.prog 372 _ (ReflectliteType.method ReflectliteType.elem) Tryz.func372 (by kernel_rfl) (by kernel_rfl) (by kernel_rfl) (by kernel_rfl);have h38 := @run_callFunc_extern Tryz.prog 373 _ (ReflectliteType.relation "Implements" ReflectliteType.implements_) Tryz.func373 (by kernel_rfl) (by kernel_rfl) (by kernel_rfl) (by kernel_rfl);have h10 := @run_callFunc_extern Tryz.prog 141 _ ReflectliteType.typeOf Tryz.func141 (by kernel_rfl) (by kernel_rfl) (by kernel_rfl) (by kernel_rfl);have h35 := @run_callFunc_extern Tryz.prog 370 _ (ReflectliteType.relation "AssignableTo" ReflectliteType.assignableTo) Tryz.func370 (by kernel_rfl) (by kernel_rfl) (by kernel_rfl) (by kernel_rfl);have h11 := @run_callFunc_extern Tryz.prog 142 _ (ReflectliteValue.method (ReflectliteValue.valueError "reflectlite.Value.Elem" 0) ReflectliteValue.elem) Tryz.func142 (by kernel_rfl) (by kernel_rfl) (by kernel_rfl) (by kernel_rfl);have h12 := @run_callFunc_extern Tryz.prog 143 _ ReflectliteValue.set Tryz.func143 (by kernel_rfl) (by kernel_rfl) (by kernel_rfl) (by kernel_rfl);have tO := typeOf80;have tO2 := typeOf44;have ta80x247 := ta80_247;have ta80x250 := ta80_250;have ta80x252 := ta80_252;have mU := methodUnwrap;have mA := zO;have a25 := assignable80_44;have a26 := assignable44_44;have v25 := valueOf44;have f6 := valueOf129;have f7 := type129;have mK := methodKind;have mE := methodElem;have mI := methodImplements;have k27 := kind129;have k25 := kind44;have e27 := elem129;have i25 := implements44;have n8 := isNil129 ⟨w.heap.size, 0, none⟩ t ((w.alloc (.cells #[.pointer (some t)] 129)).alloc (.cells #[.pointer (some ⟨9, 129, none⟩), .pointer (some ⟨w.heap.size, 0, none⟩), .int .u64 150] 162)) Zs;have hlt : 0 < w.heap.size := by
  exact zCQ
 have hg2:((w.alloc (.cells #[.pointer (some t)] 129)).alloc (.cells #[.pointer (some ⟨9,129,none⟩),.pointer (some ⟨w.heap.size,0,none⟩),.int .u64 150] 162)).cell? ⟨0,0,none⟩=some (.iface 242 (.agg #[.pointer (some ⟨9,50,none⟩)])):=by
  exact zCC
 have htl:t.block < w.heap.size:=by
  exact zC5
 have el:=elemV129 ⟨w.heap.size,0,none⟩ t (((w.alloc (.cells #[.pointer (some t)] 129)).alloc (.cells #[.pointer (some ⟨9,129,none⟩),.pointer (some ⟨w.heap.size,0,none⟩),.int .u64 150] 162)).alloc (.cells #[.pointer (some ⟨9,129,none⟩),.pointer (some ⟨w.heap.size,0,none⟩),.int .u64 150] 162)) (by rw[World.cell?_alloc_lt _ _ ⟨w.heap.size,0,none⟩ Zam];simp);have st:=direct44t t ⟨w.heap.size+1+1+1,0,none⟩ n old ((((w.alloc (.cells #[.pointer (some t)] 129)).alloc (.cells #[.pointer (some ⟨9,129,none⟩),.pointer (some ⟨w.heap.size,0,none⟩),.int .u64 150] 162)).alloc (.cells #[.pointer (some ⟨9,129,none⟩),.pointer (some ⟨w.heap.size,0,none⟩),.int .u64 150] 162)).alloc (.cells #[.int .i64 n] 44))
  (by rw[World.cell?_alloc_at _ _ _ _ Zs];rfl)
  Zav
  Zaw
 have hexl:e.block < w.heap.size:=by
  rcases Nat.lt_or_ge e.block w.heap.size with h|h
  ·exact h
  ·simp[World.cell?,Array.getElem?_eq_none h]at he
 have hex:(((w.alloc (.cells #[.pointer (some t)] 129)).alloc (.cells #[.pointer (some ⟨9,129,none⟩),.pointer (some ⟨w.heap.size,0,none⟩),.int .u64 150] 162)).alloc (.cells #[.pointer (some ⟨9,129,none⟩),.pointer (some ⟨w.heap.size,0,none⟩),.int .u64 150] 162)).cell? ⟨e.block,e.off+2,none⟩=some (.iface 44 (.int .i64 n)):=by
  rw[World.cell?_alloc_lt _ _ ⟨e.block,e.off+2,none⟩ Zam,World.cell?_alloc_lt _ _ ⟨e.block,e.off+2,none⟩ Zam,World.cell?_alloc_lt _ _ ⟨e.block,e.off+2,none⟩ hexl];exact he
 go_enter Tryz.func33,Tryz.ntmps33
 go_wp2
 refine wp_loop_rounds 2 ?_;rw[rounds_succ]
 go_wp2
 rw[rounds_succ]
 go_wp2
 go_ret
 exact⟨rfl,rfl⟩
end Go.Proofs.YtijnokbblmbpkaaGreatDoor
namespace Go.Proofs.YtijnokbblmbpkaaGreatDoor
open Go Go.V
set_option maxRecDepth 100000
def EtA:kC:=.cell 0 0 (.iface 242 (.agg #[.pointer (some ⟨9,50,none⟩)]))
theorem holds_cell {w:World}{b o:Nat}{v:Value}(h:(kC.cell b o v).holds w):w.cell? ⟨b,o,none⟩=some v:=by
 obtain⟨c,t,lo,hi,hb,hc,hf⟩:=h;simp[World.cell?,hb,hc]
def flP(b:Nat):Value:=.iface 80 (kE b)
section
variable (A:List kC) (hE:EtA∈A)
include hE
theorem As_fail(k:Nat)(b:Nat)(old:Value):Fun Tryz.prog 33 [flP k,.iface 82 (kE b)] [A,kA b 0 [old]] (fun u Post=>u=.bool true/\Post=[A,kA b 0 [kE k]]):=
 Fun.of_hit (by kernel_rfl) fun w hA h1 h2=>(as_fail ⟨k,0,none⟩ ⟨b,0,none⟩ old w (holds_cell (hA _ hE)) h1 h2).mono fun _ _ ⟨h,h'⟩=>⟨h,[_,_,_,_],h'⟩
theorem As_num(n:Int)(b:Nat)(old:Value):Fun Tryz.prog 33 [.iface 44 (.int .i64 n),.iface 129 (kE b)] [A,kA b 0 [old]] (fun u Post=>u=.bool true/\Post=[A,kA b 0 [.int .i64 n]]):=
 Fun.of_hit (by kernel_rfl) fun w hA h1 h2=>(as_num n ⟨b,0,none⟩ old w (holds_cell (hA _ hE)) h1 h2).mono fun _ _ ⟨h,h'⟩=>⟨h,[_,_,_,_],h'⟩
theorem As_in(k:Nat)(n:Int)(hk:kC.cell k 2 (.iface 44 (.int .i64 n))∈A)(b:Nat)(old:Value):Fun Tryz.prog 33 [flP k,.iface 129 (kE b)] [A,kA b 0 [old]] (fun u Post=>u=.bool true/\Post=[A,kA b 0 [.int .i64 n]]):=
 Fun.of_hit (by kernel_rfl) fun w hA h1 h2=>(as_in ⟨k,0,none⟩ ⟨b,0,none⟩ n old w (holds_cell (hA _ hE)) h1 h2 (holds_cell (hA _ hk)) rfl).mono fun _ _ ⟨h,h'⟩=>⟨h,[_,_,_,_],h'⟩
end
end Go.Proofs.YtijnokbblmbpkaaGreatDoor
namespace Go.Proofs.YtijnokbblmbpkaaGreatDoor
open Go Go.V
set_option maxRecDepth 100000
def F16:FIR:=laid (X:=⟨21,[.tmp 2,.tmp 3],(qS [qk 2 0,qk 3 0] [0] (.seq (qS [qm 7 0,qo 8 (.eqnil false .iface (.tmp 7))] [0,8] (qC 8 (qS [qk 2 0,qk 3 0] [2,3] .ret) .skip)) (qS [qo 4 (.alloc 44 [(.int .i64 0)]),⟨none,none,.store 1 (.tmp 4) (.const (.int .i64 (-1)))⟩,qk 5 0] [0,4,5] (qS [qo 6 (.alloc 80 [(.pointer none)])] [0,4,5,6] (.seq (qS [qm 9 0,qo 10 (.mkif 82 (.tmp 6)),qx 11 33 [9,10]] [0,4,5,6,11] (qC 11 (.reg [ql 12 6,qn 13 12,qf 14 1 13,ql 15 14,qm 5 15] [0,4,5]) .skip)) (qS [qm 16 0,qo 17 (.mkif 129 (.tmp 4)),qx 18 33 [16,17]] [4,5] (qS [ql 19 4,qm 20 5,qm 2 19,qm 3 20] [2,3] .ret)))))))⟩)
theorem n16:F16.n=21:=rfl
theorem low16:ki Tryz.prog (kpO F16) (kQ []) 16=some F16:=by kernel_rfl
end Go.Proofs.YtijnokbblmbpkaaGreatDoor
namespace Go.Proofs.YtijnokbblmbpkaaGreatDoor
open Go Go.V
set_option maxRecDepth 100000
def F136:FIR:=laid (X:=⟨12,[.tmp 2],(qS [qB 1 72 0,qz 2 false] [1] (qS [qf 3 0 1,ql 4 3,qo 5 (.bin .eql (.tmp 4) (.const (.int .u8 7))),qm 6 5,qt 6 (qf 7 7 1),qt 6 (ql 8 7),qt 6 (qL 9 8),
 qt 6 (qc 10 .eql 9 0),qa 11 6 10,qm 2 11] [2] .ret))⟩)
theorem n136:F136.n=12:=rfl
theorem low136:ki Tryz.prog (kpO F136) (kQ []) 136=some F136:=by kernel_rfl
def F70:FIR:=laid (X:=⟨94,[.tmp 2,.tmp 3,.tmp 4],(qS [qB 1 72 0,qk 2 0,qk 3 0,qz 4 false] [1] (.seq (qS [qf 9 0 1,ql 10 9,qo 11 (.bin .neq (.tmp 10) (.const (.int .u8 4))),qm 12 11,qu 12 (qf 13 9 1),qu 12 (ql 14 13),
 qu 12 (qL 15 14),qu 12 (qc 16 .eql 15 0),qr 17 12 16,qm 18 17,qu 18 (qf 19 9 1),qu 18 (ql 20 19),
 qu 18 (qo 21 (.idxL 11 (.tmp 20) (.const (.int .i64 0)))),qu 18 (qf 22 0 21),qu 18 (ql 23 22),
 qu 18 (qo 24 (.bin .eql (.tmp 23) (.const (.int .u8 2)))),qu 18 (qm 25 24),qt 25 (qf 26 9 1),qt 25 (ql 27 26),
 qt 25 (qo 28 (.idxL 11 (.tmp 27) (.const (.int .i64 0)))),qt 25 (qf 29 1 28),qt 25 (ql 30 29),
 qt 25 (qo 31 (.bin .eql (.tmp 30) (.const (.string ⟨#[115,117,112,101,114]⟩)))),qu 18 (qa 32 25 31),qr 33 18 32] [1,33] (qC 33 (qS [qk 2 0,qk 3 0,qz 4 false] [2,3,4] .ret) .skip)) (qS [qk 5 1,qk 6 2] [1,5,6] (.seq (qS [qf 34 1 1,ql 35 34] [1,5,6,35] (.block 0 (.seq (qS [qo 37 (.bin .eql (.tmp 35) (.const (.string ⟨#[105,102,84,114,117,101,58]⟩))),qm 36 37] [1,5,6,35,36] (qC 36 .skip (qS [qo 38 (.bin .eql (.tmp 35) (.const (.string ⟨#[105,102,70,97,108,115,101,58]⟩))),qm 36 38] [1,5,6,35,36] (qC 36 .skip (qS [qo 39 (.bin .eql (.tmp 35) (.const (.string ⟨#[97,110,100,58]⟩))),qm 36 39] [1,5,6,35,36] (qC 36 .skip (.reg [qo 40 (.bin .eql (.tmp 35) (.const (.string ⟨#[111,114,58]⟩))),qm 36 40] [1,5,6,35,36]))))))) (qC 36 .skip (.seq (qS [qo 42 (.bin .eql (.tmp 35) (.const (.string ⟨#[105,102,84,114,117,101,58,105,102,70,97,108,115,101,58]⟩))),
 qm 41 42] [1,5,6,35,41] (qC 41 .skip (.reg [qo 43 (.bin .eql (.tmp 35) (.const (.string ⟨#[105,102,70,97,108,115,101,58,105,102,84,114,117,101,58]⟩))),
 qm 41 43] [1,5,6,35,41]))) (qC 41 (.reg [qk 6 3] [1,5,6]) (.seq (qS [qo 45 (.bin .eql (.tmp 35) (.const (.string ⟨#[119,104,105,108,101,84,114,117,101,58]⟩))),qm 44 45] [1,6,35,44] (qC 44 .skip (.reg [qo 46 (.bin .eql (.tmp 35) (.const (.string ⟨#[119,104,105,108,101,70,97,108,115,101,58]⟩))),qm 44 46] [1,6,35,44]))) (qC 44 (.reg [qk 5 0] [1,5,6]) (.seq (qS [qo 48 (.bin .eql (.tmp 35) (.const (.string ⟨#[119,104,105,108,101,84,114,117,101]⟩))),qm 47 48] [1,35,47] (qC 47 .skip (.reg [qo 49 (.bin .eql (.tmp 35) (.const (.string ⟨#[119,104,105,108,101,70,97,108,115,101]⟩))),qm 47 49] [1,35,47]))) (qC 47 (.reg [qk 5 0,qk 6 1] [1,5,6]) (qS [qo 51 (.bin .eql (.tmp 35) (.const (.string ⟨#[116,111,58,100,111,58]⟩))),qm 50 51] [1,50] (qC 50 (.seq (qD [qf 52 9 1,ql 53 52,qL 54 53,qc 55 .eql 54 3,qm 56 55,qt 56 (qf 57 9 1),qt 56 (ql 58 57),
 qt 56 (qo 59 (.idxL 11 (.tmp 58) (.const (.int .i64 2)))),qt 56 (qf 60 0 59),qt 56 (ql 61 60),
 qt 56 (qo 62 (.bin .eql (.tmp 61) (.const (.int .u8 7)))),qa 63 56 62,qm 64 63,qt 64 (qf 65 9 1),qt 64 (ql 66 65),
 qt 64 (qo 67 (.idxL 11 (.tmp 66) (.const (.int .i64 2)))),qt 64 (qf 68 7 67),qt 64 (ql 69 68),qt 64 (qL 70 69),qt 64 (qc 71 .eql 70 1),
 qa 72 64 71,qk 2 2,qk 3 3,qm 4 72] [[0,1,2,3,4,5,6,7,8,9,10,11,12,13,14,15,16,17,18,19,20,21,22,23]] [2,3,4]) .ret) (qS [qk 2 0,qk 3 0,qz 4 false] [2,3,4] .ret))))))))))))) (.seq (qS [qf 73 9 1,ql 74 73,qL 75 74,qm 76 6,qb 77 .neq 75 76] [1,5,6,77] (qC 77 (qS [qk 2 0,qk 3 0,qz 4 false] [2,3,4] .ret) .skip)) (.seq (qS [qf 78 9 1,ql 79 78,qm 80 5,qm 81 6,qo 82 (.slcL 11 (.tmp 79) (some (.tmp 80)) (some (.tmp 81)) none),qL 83 82,qk 84 0] [5,6,82,83,84] (.block 1 (.loop (qS [qb 85 .lss 84 83] [5,6,82,83,84,85] (.seq (qC 85 .skip (.exit 1)) (.seq (.block 2 (qS [qi 86 11 82 84,qN 87 11 86,
 qo 8 (.alloc 72 [(.int .u8 0),(.string ⟨#[]⟩),(.int .u8 0),(.int .i64 0),(.int .u64 0),(.string ⟨#[]⟩),(.slice none 0 0),(.slice none 0 0),(.slice none 0 0),(.slice none 0 0),(.int .i64 0)]),
 qs 11 8 87] [5,6,8,82,83,84] (qS [qN 88 11 8,qx 89 136 [88],qo 90 (.un .not (.tmp 89))] [5,6,82,83,84,90] (qC 90 (qS [qk 2 0,qk 3 0,qz 4 false] [2,3,4] .ret) .skip)))) (.reg [qc 91 .add 84 1,qm 84 91] [5,6,82,83,84]))))))) (qS [qm 92 5,qm 93 6,qm 2 92,qm 3 93,qz 4 true] [2,3,4] .ret)))))))⟩)
theorem n70:F70.n=94:=rfl
theorem low70:ki Tryz.prog (kQ [(0,[1]),(1,[1,33]),(2,[2,3,4]),(3,[1,5,6]),(4,[1,5,6,35]),(5,[2,3,4]),(6,[1,5,6,35,36]),(7,[1,5,6,35,36]),(8,[1,5,6,35,36]),(9,[1,5,6,35,36]),(10,[1,5,6,35,41]),(11,[1,5,6,35,41]),(12,[1,5,6]),(13,[1,6,35,44]),(14,[1,6,35,44]),(15,[1,5,6]),(16,[1,35,47]),(17,[1,35,47]),(18,[1,5,6]),(19,[1,50]),(20,[2,3,4]),(21,[1,5,6,77]),(22,[2,3,4]),(23,[5,6,82,83,84]),(24,[5,6,82,83,84,85]),(25,[5,6,8,82,83,84]),(26,[5,6,82,83,84,90]),(27,[2,3,4]),(28,[5,6,82,83,84]),(29,[2,3,4])]) (kQ [(20,[[0,1,2,3,4,5,6,7,8,9,10,11,12,13,14,15,16,17,18,19,20,21,22,23]])]) 70=some F70:=by kernel_rfl
def F26:FIR:=laid (X:=⟨13,[.tmp 2],(qS [qB 1 72 0,qz 2 false] [1] (qS [qN 7 11 1,qx 8 70 [7],qm 6 8,qe 9 6 0,qe 10 6 1,qe 11 6 2,qm 3 9,qm 4 10,qm 5 11] [5] (qS [qm 12 5,qm 2 12] [2] .ret)))⟩)
theorem n26:F26.n=13:=rfl
theorem low26:ki Tryz.prog (kpO F26) (kQ []) 26=some F26:=by kernel_rfl
def F208:FIR:=laid (X:=⟨24,[.cellN 2 5],(qS [qB 1 70 0,
 qo 2 (.alloc 70 [(.int .u8 0),(.int .i64 0),(.int .u64 0),(.string ⟨#[]⟩),(.slice none 0 0)])] [1,2] (qS [qf 6 4 1,ql 7 6,qm 3 7] [1,2,3] (qS [qf 8 4 1,⟨none,none,.store 1 (.tmp 8) (.const (.slice none 0 0))⟩] [1,2,3] (.seq (qS [qm 9 3,qL 10 9,qk 11 0] [1,2,9,10,11] (.block 0 (.loop (qS [qb 12 .lss 11 10] [1,2,9,10,11,12] (.seq (qC 12 .skip (.exit 0)) (.seq (.block 1 (qS [qi 13 5 9 11,qN 14 5 13,
 qo 5 (.alloc 70 [(.int .u8 0),(.int .i64 0),(.int .u64 0),(.string ⟨#[]⟩),(.slice none 0 0)]),
 qs 5 5 14] [1,2,5,9,10,11] (qD [qf 15 4 1,ql 16 15,qN 17 5 5,qx 18 208 [17],
 qo 19 (.bslice 70 1 [(.int .u8 0),(.int .i64 0),(.int .u64 0),(.string ⟨#[]⟩),(.slice none 0 0)] [(0,5,(.tmp 18))]),
 qo 20 (.append 70 5 64 [(.int .u8 0),(.int .i64 0),(.int .u64 0),(.string ⟨#[]⟩),(.slice none 0 0)] (.tmp 16) (.tmp 19)),
 qf 21 4 1,qs 1 21 20] [[0,1,2,3,4,5,6,7],[0,2,3,1,4,5,6,7]] [1,2,9,10,11]))) (.reg [qc 22 .add 11 1,qm 11 22] [1,2,9,10,11]))))))) (qS [qN 23 5 1,qs 5 2 23] [2] .ret)))))⟩)
theorem n208:F208.n=24:=rfl
theorem low208:ki Tryz.prog (kpO F208) (kQ [(6,[[0,1,2,3,4,5,6,7],[0,2,3,1,4,5,6,7]])]) 208=some F208:=by kernel_rfl
def F113:FIR:=laid (X:=⟨10,[],(.reg [qm 4 1,qm 5 0,qo 6 (.mkif 44 (.tmp 5)),
 qo 7 (.build [(.string ⟨#[]⟩),(.int .i64 0),Value.nilIface] [(0,1,(.const (.string ⟨#[82,101,115,111,108,118,101]⟩))),(1,1,(.tmp 4)),(2,1,(.tmp 6))]),
 qB 8 84 7,qo 9 (.mkif 80 (.tmp 8)),⟨none,none,.pnc (.tmp 9)⟩] [])⟩)
theorem n113:F113.n=10:=rfl
theorem low113:ki Tryz.prog (kpO F113) (kQ []) 113=some F113:=by kernel_rfl
def F111:FIR:=laid (X:=⟨21,[.tmp 4],(qS [qo 4 (.mv (.const (.pointer none)))] [0,1] (qS [qm 6 0,qm 7 1,
 qo 8 (.build [(.pointer none),(.int .i64 0),(.bool false),(.bool false),(.int .i64 0)] [(0,1,(.tmp 6)),(1,1,(.const (.int .i64 (-1)))),(2,1,(.tmp 7))]),
 qB 9 210 8,qm 5 9] [0,5] (qS [qm 10 0,qm 11 0,qn 12 11,qf 13 5 12,ql 14 13,qm 15 5,qo 16 (.bslice 208 1 [(.pointer none)] [(0,1,(.tmp 15))]),
 qo 17 (.append 208 1 8 [(.pointer none)] (.tmp 14) (.tmp 16)),qn 18 10,qf 19 5 18,qs 1 19 17] [5] (qS [qm 20 5,qm 4 20] [4] .ret))))⟩)
theorem n111:F111.n=21:=rfl
theorem low111:ki Tryz.prog (kpO F111) (kQ []) 111=some F111:=by kernel_rfl
def F232:FIR:=laid (X:=⟨45,[],(.seq (qS [qm 4 0,qm 5 1,qn 6 5,qf 7 0 6,ql 8 7,qo 9 (.eqt .eql 124 (.tmp 4) (.tmp 8))] [0,1,9] (qC 9 .ret .skip)) (.seq (qS [qm 10 1,qn 11 10,qf 12 1 11,ql 13 12,qc 14 .lss 13 0] [0,1,14] (qC 14 (.reg [qm 15 1,qn 16 15,qf 17 3 16,⟨none,none,.store 1 (.tmp 17) (.const (.bool true))⟩] [0,1]) .skip)) (.block 0 (.loop (.seq (qS [qm 18 0,qm 19 1,qn 20 19,qf 21 0 20,ql 22 21,qo 23 (.eqt .neq 124 (.tmp 18) (.tmp 22))] [0,1,23] (qC 23 .skip (.exit 0))) (.seq (.block 1 (qD [qm 28 0,qn 29 28,qf 30 6 29,ql 31 30,qm 32 1,qn 33 32,qf 34 0 33,ql 35 34,qm 36 1,qn 37 36,qf 38 1 37,ql 39 38,
 qo 40 (.build [(.pointer none),(.int .i64 0)] [(0,1,(.tmp 35)),(1,1,(.tmp 39))]),qo 41 (.lookt 199 false (.tmp 31) (.tmp 40)),
 qc 42 .add 41 1,qo 43 (.ment 199 (.tmp 31) (.tmp 40)),qe 44 43 1,⟨none,none,.mst 199 (.tmp 31) (.tmp 44) (.tmp 42)⟩] [[0,1,2,3,4,5,6,7,8,9,10,11,12,13,14,15,16,17],[0,1,2,3,4,5,6,7,8,9,10,11,12,15,13,14,16,17]] [0,1])) (.reg [qm 24 0,qn 25 24,qf 26 3 25,ql 27 26,qm 0 27] [0,1])))))))⟩)
theorem n232:F232.n=45:=rfl
theorem low232:ki Tryz.prog (kpO F232) (kQ [(5,[[0,1,2,3,4,5,6,7,8,9,10,11,12,13,14,15,16,17],[0,1,2,3,4,5,6,7,8,9,10,11,12,15,13,14,16,17]])]) 232=some F232:=by kernel_rfl
def F115:FIR:=laid (X:=⟨19,[.tmp 4],(qS [qB 2 201 0,qk 4 0] [1,2] (qS [qf 6 0 2,ql 7 6,qm 8 1,qb 9 .add 7 8,qf 10 1 2,ql 11 10,qb 12 .add 9 11,qm 5 12] [2,5] (.seq (qS [qf 13 2 2,ql 14 13,qc 15 .gtr 14 0] [5,15] (qC 15 (.reg [qm 16 5,qc 17 .add 16 1,qm 5 17] [5]) .skip)) (qS [qm 18 5,qm 4 18] [4] .ret))))⟩)
theorem n115:F115.n=19:=rfl
theorem low115:ki Tryz.prog (kpO F115) (kQ []) 115=some F115:=by kernel_rfl
def F116:FIR:=laid (X:=⟨39,[.tmp 4],(qS [qB 3 217 1,qk 4 0] [0,3] (.seq (.block 0 (qS [qf 6 0 3,ql 7 6,qm 8 0,qo 9 (.eqt .neq 124 (.tmp 7) (.tmp 8)),qm 5 9] [0,3,5] (qC 5 (.seq (qD [qm 10 0,qn 11 10,qf 12 0 11,qf 13 0 12,ql 14 13,qm 15 0,qn 16 15,qf 17 7 16,ql 18 17,qN 19 2 3,qx 20 174 [18,19],qb 21 .add 14 20,
 qm 4 21] [[0,1,2,3,4,5,6,7,8,9,10,11,12],[0,1,2,3,5,6,7,8,9,10,4,11,12]] [4]) .ret) (qS [qf 23 1 3,ql 24 23,qc 25 .geq 24 0,qm 22 25] [0,3,22] (qC 22 (qS [qf 26 1 3,ql 27 26,qm 4 27] [4] .ret) .skip))))) (.seq (qD [qm 28 0,qn 29 28,qf 30 0 29,qN 31 3 30,qm 32 0,qn 33 32,qf 34 7 33,ql 35 34,qL 36 35,qx 37 115 [31,36],qc 38 .sub 37 1,qm 4 38] [[0,1,2,3,4,5,6,7,8,9,10,11]] [4]) .ret)))⟩)
theorem n116:F116.n=39:=rfl
theorem low116:ki Tryz.prog (kpO F116) (kQ [(2,[[0,1,2,3,4,5,6,7,8,9,10,11,12],[0,1,2,3,5,6,7,8,9,10,4,11,12]]),(5,[[0,1,2,3,4,5,6,7,8,9,10,11]])]) 116=some F116:=by kernel_rfl
def F175:FIR:=laid (X:=⟨57,[.cellN 4 4],(qS [qo 4 (.alloc 102 [(.int .u8 0),(.int .i64 0),(.int .i64 0),(.string ⟨#[]⟩)])] [0,1,4] (.seq (.block 0 (qS [qm 6 1,qn 7 6,qf 8 1 7,ql 9 8,qc 10 .geq 9 0,qm 5 10] [0,1,4,5] (qC 5 (.seq (qD [qm 11 0,qm 12 1,qn 13 12,qf 14 0 13,ql 15 14,qm 16 1,qn 17 16,qf 18 1 17,ql 19 18,
 qo 20 (.build [(.pointer none),(.int .i64 0)] [(0,1,(.tmp 15)),(1,1,(.tmp 19))]),qx 21 116 [11,20],
 qo 22 (.build [(.int .u8 0),(.int .i64 0),(.int .i64 0),(.string ⟨#[]⟩)] [(0,1,(.const (.int .u8 5))),(1,1,(.tmp 21))]),
 qs 4 4 22] [[0,1,2,3,4,5,6,7,8,9,10,11,12]] [4]) .ret) (qS [qm 24 1,qn 25 24,qf 26 3 25,ql 27 26,qm 23 27] [0,1,4,23] (qC 23 (.seq (qD [qm 28 0,qm 29 1,qn 30 29,qf 31 0 30,ql 32 31,
 qo 33 (.build [(.pointer none),(.int .i64 0)] [(0,1,(.tmp 32)),(1,1,(.const (.int .i64 (-1))))]),qx 34 116 [28,33],
 qm 35 1,qn 36 35,qf 37 4 36,ql 38 37,
 qo 39 (.build [(.int .u8 0),(.int .i64 0),(.int .i64 0),(.string ⟨#[]⟩)] [(0,1,(.const (.int .u8 6))),(1,1,(.tmp 34)),(2,1,(.tmp 38))]),
 qs 4 4 39] [[0,1,2,3,4,5,6,7,8,9,10,11,12],[0,1,2,3,4,5,7,8,9,10,6,11,12]] [4]) .ret) .skip))))) (.seq (qD [qm 40 0,qn 41 40,qf 42 0 41,qf 43 0 42,ql 44 43,qm 45 0,qn 46 45,qf 47 7 46,ql 48 47,qL 49 48,qb 50 .add 44 49,qm 51 1,qn 52 51,
 qf 53 4 52,ql 54 53,qb 55 .add 50 54,
 qo 56 (.build [(.int .u8 0),(.int .i64 0),(.int .i64 0),(.string ⟨#[]⟩)] [(0,1,(.const (.int .u8 5))),(1,1,(.tmp 55))]),
 qs 4 4 56] [[0,1,2,3,4,5,6,7,8,9,10,11,12,13,14,15,16,17]] [4]) .ret)))⟩)
theorem n175:F175.n=57:=rfl
theorem low175:ki Tryz.prog (kpO F175) (kQ [(2,[[0,1,2,3,4,5,6,7,8,9,10,11,12]]),(4,[[0,1,2,3,4,5,6,7,8,9,10,11,12],[0,1,2,3,4,5,7,8,9,10,6,11,12]]),(5,[[0,1,2,3,4,5,6,7,8,9,10,11,12,13,14,15,16,17]])]) 175=some F175:=by kernel_rfl
def F117:FIR:=laid (X:=⟨45,[.cellN 4 11],(qS [qB 3 220 1,
 qo 4 (.alloc 97 [(.int .u8 0),(.string ⟨#[]⟩),(.int .u8 0),(.int .i64 0),(.int .u64 0),(.string ⟨#[]⟩),(.slice none 0 0),(.slice none 0 0),(.int .i64 0),(.bool false),(.slice none 0 0)])] [0,3,4] (qS [qf 10 0 3,qN 11 11 10,
 qo 5 (.alloc 97 [(.int .u8 0),(.string ⟨#[]⟩),(.int .u8 0),(.int .i64 0),(.int .u64 0),(.string ⟨#[]⟩),(.slice none 0 0),(.slice none 0 0),(.int .i64 0),(.bool false),(.slice none 0 0)]),
 qs 11 5 11] [0,3,4,5] (.seq (qS [qf 12 11 3,ql 13 12,qL 14 13,qk 15 0] [0,3,4,5,13,14,15] (.block 0 (.loop (qS [qb 16 .lss 15 14] [0,3,4,5,13,14,15,16] (.seq (qC 16 .skip (.exit 0)) (.seq (.block 1 (qS [qi 17 1 13 15,ql 18 17,qm 7 18] [0,3,4,5,7,13,14,15] (qD [qf 19 7 5,ql 20 19,qm 21 0,qm 22 7,qx 23 175 [21,22],
 qo 24 (.bslice 102 1 [(.int .u8 0),(.int .i64 0),(.int .i64 0),(.string ⟨#[]⟩)] [(0,4,(.tmp 23))]),
 qo 25 (.append 102 4 40 [(.int .u8 0),(.int .i64 0),(.int .i64 0),(.string ⟨#[]⟩)] (.tmp 20) (.tmp 24)),
 qf 26 7 5,qs 1 26 25] [[0,1,2,3,4,5,6,7,8],[0,2,3,4,1,5,6,7,8]] [0,3,4,5,13,14,15]))) (.reg [qc 27 .add 15 1,qm 15 27] [0,3,4,5,13,14,15]))))))) (.seq (qS [qf 28 12 3,ql 29 28,qL 30 29,qk 31 0] [0,4,5,29,30,31] (.block 2 (.loop (qS [qb 32 .lss 31 30] [0,4,5,29,30,31,32] (.seq (qC 32 .skip (.exit 2)) (.seq (.block 3 (qS [qi 33 13 29 31,qN 34 13 33,
 qo 9 (.alloc 220 ([(.int .u8 0),(.string ⟨#[]⟩),(.int .u8 0),(.int .i64 0),(.int .u64 0),(.string ⟨#[]⟩),(.slice none 0 0),(.slice none 0 0),(.int .i64 0),(.bool false),(.slice none 0 0),(.slice none 0 0),(.slice none 0 0)])),
 qs 13 9 34] [0,4,5,9,29,30,31] (qD [qf 35 10 5,ql 36 35,qm 37 0,qN 38 13 9,qx 39 117 [37,38],
 qo 40 (.bslice 97 1 [(.int .u8 0),(.string ⟨#[]⟩),(.int .u8 0),(.int .i64 0),(.int .u64 0),(.string ⟨#[]⟩),(.slice none 0 0),(.slice none 0 0),(.int .i64 0),(.bool false),(.slice none 0 0)] [(0,11,(.tmp 39))]),
 qo 41 (.append 97 11 152 [(.int .u8 0),(.string ⟨#[]⟩),(.int .u8 0),(.int .i64 0),(.int .u64 0),(.string ⟨#[]⟩),(.slice none 0 0),(.slice none 0 0),(.int .i64 0),(.bool false),(.slice none 0 0)] (.tmp 36) (.tmp 40)),
 qf 42 10 5,qs 1 42 41] [[0,1,2,3,4,5,6,7,8],[0,2,3,4,1,5,6,7,8]] [0,4,5,29,30,31]))) (.reg [qc 43 .add 31 1,qm 31 43] [0,4,5,29,30,31]))))))) (qS [qN 44 11 5,qs 11 4 44] [4] .ret)))))⟩)
theorem n117:F117.n=45:=rfl
theorem low117:ki Tryz.prog (kpO F117) (kQ [(5,[[0,1,2,3,4,5,6,7,8],[0,2,3,4,1,5,6,7,8]]),(10,[[0,1,2,3,4,5,6,7,8],[0,2,3,4,1,5,6,7,8]])]) 117=some F117:=by kernel_rfl
def F174:FIR:=laid (X:=⟨19,[.tmp 4],(qS [qB 3 217 1,qk 4 0] [0,3] (.seq (qS [qm 6 0,qL 7 6,qk 8 0] [0,3,7,8] (.block 0 (.loop (qS [qb 9 .lss 8 7] [0,3,7,8,9] (.seq (qC 9 .skip (.exit 0)) (.seq (.block 1 (qS [qm 10 8,qm 5 10] [0,3,5,7,8] (.seq (qD [qN 11 2 3,qm 12 0,qm 13 5,qi 14 2 12 13,qN 15 2 14,qo 16 (.eqt .eql 217 (.tmp 11) (.tmp 15))] [[0,1,2,3,4,5]] [0,3,5,7,8,16]) (qC 16 (qS [qm 17 5,qm 4 17] [4] .ret) .skip)))) (.reg [qc 18 .add 8 1,qm 8 18] [0,3,7,8]))))))) (qS [qk 4 (-1)] [4] .ret)))⟩)
theorem n174:F174.n=19:=rfl
theorem low174:ki Tryz.prog (kpO F174) (kQ [(4,[[0,1,2,3,4,5]])]) 174=some F174:=by kernel_rfl
end Go.Proofs.YtijnokbblmbpkaaGreatDoor

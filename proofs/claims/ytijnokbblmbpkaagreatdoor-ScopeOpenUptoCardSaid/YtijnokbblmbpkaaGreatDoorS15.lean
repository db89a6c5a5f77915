/-
  Contracts out of what a call makes of the world: blocks laid, a cell written.
-/
import Derived.Test.YtijnokbblmbpkaaGreatDoorS9
import Derived.Test.YtijnokbblmbpkaaGreatDoorProg
import Derived.WalkKit
import Derived.LaidEql
import Derived.Stop.Asserts
import Derived.RowKitTokens
import Derived.KernelRfl
set_option linter.all false
namespace Go.V
open Go
theorem Sat.alloc {w:World}{L:List kC}(h:Sat w L)(o:Obj):Sat (w.alloc o) L/\ku w (w.alloc o):=by
 have:=h.push o [] (fun x hx=>by cases hx) Zs;simpa using this
theorem Sat.set {w:World}{L R:List kC}{b off:Nat}{v u:Value}(h:Sat w L)(p:L.Perm (.cell b off v::R)):Sat (w.setCell ⟨b,off,none⟩ u) (.cell b off u::R)/\ku w (w.setCell ⟨b,off,none⟩ u):=(h.perm p).store
theorem Sat.Yp {L:List kC}:∀(os:List Obj) {w:World},Sat w L->Sat (os.foldl World.alloc w) L/\ku w (os.foldl World.alloc w):=by
 intro os
 induction os with
 |nil=>intro w h;exact⟨h,.refl w⟩
 |cons o os ih=>
  intro w h;obtain⟨h1,h2⟩:=h.alloc o;obtain⟨h3,h4⟩:=ih h1;exact⟨h3,h2.trans h4⟩
theorem aq.Iz {P:Program}{f:Nat}{args:List Value}{A:List kC}{b o:Nat}{old new v:Value}(hc:jw P f=true)
 (h:∀w,(∀a∈A,a.holds w)->w.cell? ⟨b,o,none⟩=some old->w.frozen? ⟨b,o,none⟩=false->Calls P f args.toArray w fun e w'=>e=.returned v/\∃os:List Obj,w'=(os.foldl World.alloc w).setCell ⟨b,o,none⟩ new):
 aq P f args [A,[.cell b o old]] (fun u Post=>u=v/\Post=[A,[.cell b o new]]):=by
 refine⟨hc,fun F w hs=>?_⟩;have JJ:Sat w ((.cell b o old)::(A++F)):=hs.perm (by simp only[V9,VV,vg,vf,vj,QL];exact QT);obtain⟨c1,c2⟩:=JJ.cell (QE ..);refine(h w (fun a ha=>JJ.holds a (QD _ (Zw _ ha))) c1 c2).mono ?_
 rintro e w' ⟨rfl,os,rfl⟩
 obtain⟨s1,k1⟩:=JJ.Yp os;obtain⟨s2,k2⟩:=s1.set (u:=new) (.refl _);refine⟨_,_,rfl,⟨rfl,rfl⟩,s2.perm ?_,k1.trans k2⟩;simp only[V9,VV,vg,vf,vj,QL];exact QT.symm
end Go.V
namespace Go.Proofs.YtijnokbblmbpkaaGreatDoor
open Go Go.RowKit Go.Extern.Stop Go.Stop Go.Extern
set_option maxRecDepth 100000
theorem oQ (h : Value) (w : World) : (Go.method 543 242 (.agg #[h]) "Kind").run Tryz.prog w = .ok (360, h) w := by kernel_rfl
theorem oP (h : Value) (w : World) : (Go.method 543 242 (.agg #[h]) "Elem").run Tryz.prog w = .ok (372, .agg #[h]) w := by kernel_rfl
theorem cN (h : Value) (w : World) : (Go.method 543 242 (.agg #[h]) "Implements").run Tryz.prog w = .ok (373, .agg #[h]) w := by kernel_rfl
theorem zr (h : Value) (w : World) : (Go.method 543 242 (.agg #[h]) "AssignableTo").run Tryz.prog w = .ok (370, .agg #[h]) w := by kernel_rfl
theorem rlm(z:Sem Value)(f:TypeId->Addr->Nat->Nat->Sem Value)(v:Value):
 ReflectliteValue.method z f #[v]=(do match <- ReflectliteValue.parts v with|none=>z|some (t,a,fl)=>f t a fl (fl % 32)):=rfl
theorem rls(v x:Value):ReflectliteValue.set #[v,x]=(do
 let(some (dst,a,fl),some (src,b,_)):=(<- ReflectliteValue.parts v,<- ReflectliteValue.parts x)
  | unsupported (.noEntry "extern/(internal/reflectlite.Value).Set.zeroValue")
 if fl / ReflectliteValue.flagAddr % 2 == 0 then unsupported (.noEntry "extern/(internal/reflectlite.Value).Set.unaddressable")
 let val <- loadVar src b
 if <- Rtype.directlyAssignable dst src then storeVar dst a val
 else if <- Rtype.implements dst src then
  if(<- Rtype.kind src)==20 then
   match val with
   | .nilIface => unsupported (.noEntry "extern/reflectlite: a nil value of one interface type handed on as a value of another")
   |_=>storeVar dst a val
  else storeVar dst a (.iface src val)
 else panicString ("reflectlite.Set: value of type " ++ (← Rtype.spelt src) ++ " is not assignable to type " ++ (← Rtype.spelt dst))
 pure (.tuple #[])):=rfl
theorem Mf(t:Addr)(w:World):(ReflectliteValue.unpack (.iface 82 (.pointer (some t)))).run Tryz.prog w
 =.ok (.agg #[.pointer (some ⟨9,82,none⟩),.pointer (some ⟨w.heap.size,0,none⟩),.int .u64 150]) (w.alloc (.cells #[.pointer (some t)] 82)):=by kernel_rfl
theorem type82 (a : Addr) (w : World) : (ReflectliteValue.methodAny (ReflectliteValue.valueError "reflectlite.Value.Type" 0) (fun t _ _ _ => ReflectliteType.toType t) #[.agg #[.pointer (some ⟨9, 82, none⟩), .pointer (some a), .int .u64 150]]).run Tryz.prog w
 =.ok (.iface 242 (.agg #[.pointer (some ⟨9,82,none⟩)])) w:=by kernel_rfl
theorem ς(w:World):((ReflectliteType.abiMethod fun t=>(fun a:Nat=>Value.int IntKind.u8 (a:Int)) <$> Rtype.kind t) #[.pointer (some ⟨9,82,none⟩)]).run Tryz.prog w=.ok (.int .u8 22) w:=by kernel_rfl
theorem π(w:World):((ReflectliteType.abiMethod fun t=>(fun a:Nat=>Value.int IntKind.u8 (a:Int)) <$> Rtype.kind t) #[.pointer (some ⟨9,80,none⟩)]).run Tryz.prog w=.ok (.int .u8 22) w:=by kernel_rfl
theorem JY(a:Addr)(w:World):(ReflectliteValue.parts (.agg #[.pointer (some ⟨9,82,none⟩),.pointer (some a),.int .u64 150])).run Tryz.prog w=.ok (some (82,a,150)) w:=by kernel_rfl
theorem X1:Tryz.prog.underlying 82=some (.pointer 80):=by kernel_rfl
theorem Uj(a p:Addr)(W:World)(ha:W.cell? a=some (.pointer (some p))):
 (ReflectliteValue.method (ReflectliteValue.valueError "reflectlite.Value.IsNil" 0) ReflectliteValue.isNil #[.agg #[.pointer (some ⟨9, 82, none⟩), .pointer (some a), .int .u64 150]]).run Tryz.prog W = .ok (.bool false) W := by
 rw[rlm];simp only[Sem.run_bind,JY,Result.andThen];simp[ReflectliteValue.isNil,loadVar,isAgg,underlying,X1,ha,Result.andThen]
theorem YD(w:World):(ReflectliteType.method ReflectliteType.elem #[.agg #[.pointer (some ⟨9,82,none⟩)]]).run Tryz.prog w=.ok (.iface 242 (.agg #[.pointer (some ⟨9,80,none⟩)])) w:=by kernel_rfl
theorem C9 (w : World) : (ReflectliteType.relation "Implements" ReflectliteType.implements_ #[.agg #[.pointer (some ⟨9, 80, none⟩)], .iface 242 (.agg #[.pointer (some ⟨9, 50, none⟩)])]).run Tryz.prog w = .ok (.bool true) w := by kernel_rfl
theorem Ni(w:World):(Rtype.elem? 82).run Tryz.prog w=.ok (some 80) w:=by kernel_rfl
theorem mk80(p:Addr)(w:World):(ReflectliteValue.mk 80 p ReflectliteValue.flagAddr).run Tryz.prog w=.ok (.agg #[.pointer (some ⟨9,80,none⟩),.pointer (some p),.int .u64 406]) w:=by kernel_rfl
theorem S6(a p:Addr)(W:World)(ha:W.cell? a=some (.pointer (some p))):
 (ReflectliteValue.method (ReflectliteValue.valueError "reflectlite.Value.Elem" 0) ReflectliteValue.elem #[.agg #[.pointer (some ⟨9, 82, none⟩), .pointer (some a), .int .u64 150]]).run Tryz.prog W
   =.ok (.agg #[.pointer (some ⟨9,80,none⟩),.pointer (some p),.int .u64 406]) W:=by
 rw[rlm];simp only[Sem.run_bind,JY,Result.andThen];simp[ReflectliteValue.elem,loadVar,isAgg,underlying,X1,ha,Result.andThen,Ni,mk80]
theorem P8(a:Addr)(w:World):(ReflectliteValue.parts (.agg #[.pointer (some ⟨9,80,none⟩),.pointer (some a),.int .u64 406])).run Tryz.prog w=.ok (some (80,a,406)) w:=by kernel_rfl
theorem Wh(a:Addr)(w:World):(ReflectliteValue.parts (.agg #[.pointer (some ⟨9,80,none⟩),.pointer (some a),.int .u64 150])).run Tryz.prog w=.ok (some (80,a,150)) w:=by kernel_rfl
theorem Nf(w:World):(Rtype.directlyAssignable 80 80).run Tryz.prog w=.ok true w:=by kernel_rfl
theorem yO(t:Addr)(w:World):(ReflectliteValue.unpack (.iface 129 (.pointer (some t)))).run Tryz.prog w
 =.ok (.agg #[.pointer (some ⟨9,129,none⟩),.pointer (some ⟨w.heap.size,0,none⟩),.int .u64 150]) (w.alloc (.cells #[.pointer (some t)] 129)):=by kernel_rfl
theorem type129 (a : Addr) (w : World) : (ReflectliteValue.methodAny (ReflectliteValue.valueError "reflectlite.Value.Type" 0) (fun t _ _ _ => ReflectliteType.toType t) #[.agg #[.pointer (some ⟨9, 129, none⟩), .pointer (some a), .int .u64 150]]).run Tryz.prog w
 =.ok (.iface 242 (.agg #[.pointer (some ⟨9,129,none⟩)])) w:=by kernel_rfl
theorem JP(w:World):((ReflectliteType.abiMethod fun t=>(fun a:Nat=>Value.int IntKind.u8 (a:Int)) <$> Rtype.kind t) #[.pointer (some ⟨9,129,none⟩)]).run Tryz.prog w=.ok (.int .u8 22) w:=by kernel_rfl
theorem Oq(w:World):((ReflectliteType.abiMethod fun t=>(fun a:Nat=>Value.int IntKind.u8 (a:Int)) <$> Rtype.kind t) #[.pointer (some ⟨9,44,none⟩)]).run Tryz.prog w=.ok (.int .u8 2) w:=by kernel_rfl
theorem F4(a:Addr)(w:World):(ReflectliteValue.parts (.agg #[.pointer (some ⟨9,129,none⟩),.pointer (some a),.int .u64 150])).run Tryz.prog w=.ok (some (129,a,150)) w:=by kernel_rfl
theorem RS:Tryz.prog.underlying 129=some (.pointer 44):=by kernel_rfl
theorem Fe(a p:Addr)(W:World)(ha:W.cell? a=some (.pointer (some p))):
 (ReflectliteValue.method (ReflectliteValue.valueError "reflectlite.Value.IsNil" 0) ReflectliteValue.isNil #[.agg #[.pointer (some ⟨9, 129, none⟩), .pointer (some a), .int .u64 150]]).run Tryz.prog W = .ok (.bool false) W := by
 rw[rlm];simp only[Sem.run_bind,F4,Result.andThen];simp[ReflectliteValue.isNil,loadVar,isAgg,underlying,RS,ha,Result.andThen]
theorem Ju(w:World):(ReflectliteType.method ReflectliteType.elem #[.agg #[.pointer (some ⟨9,129,none⟩)]]).run Tryz.prog w=.ok (.iface 242 (.agg #[.pointer (some ⟨9,44,none⟩)])) w:=by kernel_rfl
theorem pN (w : World) : (ReflectliteType.relation "Implements" ReflectliteType.implements_ #[.agg #[.pointer (some ⟨9, 44, none⟩)], .iface 242 (.agg #[.pointer (some ⟨9, 50, none⟩)])]).run Tryz.prog w = .ok (.bool true) w := by kernel_rfl
theorem Kz(w:World):(Rtype.elem? 129).run Tryz.prog w=.ok (some 44) w:=by kernel_rfl
theorem mk44(p:Addr)(w:World):(ReflectliteValue.mk 44 p ReflectliteValue.flagAddr).run Tryz.prog w=.ok (.agg #[.pointer (some ⟨9,44,none⟩),.pointer (some p),.int .u64 386]) w:=by kernel_rfl
theorem Ez(a p:Addr)(W:World)(ha:W.cell? a=some (.pointer (some p))):
 (ReflectliteValue.method (ReflectliteValue.valueError "reflectlite.Value.Elem" 0) ReflectliteValue.elem #[.agg #[.pointer (some ⟨9, 129, none⟩), .pointer (some a), .int .u64 150]]).run Tryz.prog W
   =.ok (.agg #[.pointer (some ⟨9,44,none⟩),.pointer (some p),.int .u64 386]) W:=by
 rw[rlm];simp only[Sem.run_bind,F4,Result.andThen];simp[ReflectliteValue.elem,loadVar,isAgg,underlying,RS,ha,Result.andThen,Kz,mk44]
theorem P7(a:Addr)(w:World):(ReflectliteValue.parts (.agg #[.pointer (some ⟨9,44,none⟩),.pointer (some a),.int .u64 386])).run Tryz.prog w=.ok (some (44,a,386)) w:=by kernel_rfl
theorem Wg(a:Addr)(w:World):(ReflectliteValue.parts (.agg #[.pointer (some ⟨9,44,none⟩),.pointer (some a),.int .u64 130])).run Tryz.prog w=.ok (some (44,a,130)) w:=by kernel_rfl
theorem Nc(w:World):(Rtype.directlyAssignable 44 44).run Tryz.prog w=.ok true w:=by kernel_rfl
theorem GA(v:Value)(w:World):(ReflectliteType.typeOf #[.iface 80 v]).run Tryz.prog w=.ok (.iface 242 (.agg #[.pointer (some ⟨9,80,none⟩)])) w:=by kernel_rfl
theorem tA (w : World) : (ReflectliteType.relation "AssignableTo" ReflectliteType.assignableTo #[.agg #[.pointer (some ⟨9, 80, none⟩)], .iface 242 (.agg #[.pointer (some ⟨9, 80, none⟩)])]).run Tryz.prog w = .ok (.bool true) w := by kernel_rfl
theorem tz (w : World) : (ReflectliteType.relation "AssignableTo" ReflectliteType.assignableTo #[.agg #[.pointer (some ⟨9, 80, none⟩)], .iface 242 (.agg #[.pointer (some ⟨9, 44, none⟩)])]).run Tryz.prog w = .ok (.bool false) w := by kernel_rfl
theorem Me(e:Addr)(w:World):(ReflectliteValue.unpack (.iface 80 (.pointer (some e)))).run Tryz.prog w
 =.ok (.agg #[.pointer (some ⟨9,80,none⟩),.pointer (some ⟨w.heap.size,0,none⟩),.int .u64 150]) (w.alloc (.cells #[.pointer (some e)] 80)):=by kernel_rfl
theorem Gz(v:Value)(w:World):(ReflectliteType.typeOf #[.iface 44 v]).run Tryz.prog w=.ok (.iface 242 (.agg #[.pointer (some ⟨9,44,none⟩)])) w:=by kernel_rfl
theorem lh (w : World) : (ReflectliteType.relation "AssignableTo" ReflectliteType.assignableTo #[.agg #[.pointer (some ⟨9, 44, none⟩)], .iface 242 (.agg #[.pointer (some ⟨9, 44, none⟩)])]).run Tryz.prog w = .ok (.bool true) w := by kernel_rfl
theorem Cn(n:Int)(w:World):(ReflectliteValue.unpack (.iface 44 (.int .i64 n))).run Tryz.prog w
 =.ok (.agg #[.pointer (some ⟨9,44,none⟩),.pointer (some ⟨w.heap.size,0,none⟩),.int .u64 130]) (w.alloc (.cells #[.int .i64 n] 44)):=by kernel_rfl
theorem RJ(v:Value)(x:TypeId)(w:World):(Instr.typeAssert (.iface 80 v) x 247 true).run Tryz.prog w=.ok (.tuple #[.nilIface,.bool false]) w:=run_typeAssert_lacksB Tryz.underlying247 (by kernel_rfl) (by kernel_rfl) v x w
theorem RL(v:Value)(x:TypeId)(w:World):(Instr.typeAssert (.iface 80 v) x 250 true).run Tryz.prog w=.ok (.tuple #[.iface 80 v,.bool true]) w:=run_typeAssert_hasB Tryz.underlying250 (by kernel_rfl) v x w
theorem RM(v:Value)(x:TypeId)(w:World):(Instr.typeAssert (.iface 80 v) x 252 true).run Tryz.prog w=.ok (.tuple #[.nilIface,.bool false]) w:=run_typeAssert_lacksB Tryz.underlying252 (by kernel_rfl) (by kernel_rfl) v x w
theorem Dq (e : Addr) (w : World) : (Go.method 543 80 (.pointer (some e)) "Unwrap").run Tryz.prog w = .ok (365, .pointer (some e)) w := by kernel_rfl
theorem Kw(ta b e:Addr)(old:Value)(W:World)(hb:W.cell? b=some (.pointer (some e)))(ht:W.cell? ta=some old)(hf:W.frozen? ta=false):
 (ReflectliteValue.set #[.agg #[.pointer (some ⟨9,80,none⟩),.pointer (some ta),.int .u64 406],.agg #[.pointer (some ⟨9,80,none⟩),.pointer (some b),.int .u64 150]]).run Tryz.prog W
   =.ok (.tuple #[]) (W.setCell ta (.pointer (some e))):=by
 rw[rls];simp only[Sem.run_bind,P8,Wh,Result.andThen];simp[ReflectliteValue.flagAddr,loadVar,isAgg,underlying,Tryz.underlying80,hb,Result.andThen,Nf,storeVar,Value.cells,storeCells,Addr.add];rw[run_store Tryz.prog W ta _ _ Zr];simp[ht,hf]
set_option maxHeartbeats 4000000 in
theorem SX(e t:Addr)(old:Value)(w:World)(hg:w.cell? ⟨0,0,none⟩=some (.iface 242 (.agg #[.pointer (some ⟨9,50,none⟩)])))(T7:w.cell? t=some old)(hf0:w.frozen? t=false):
 Calls Tryz.prog 33 #[.iface 80 (.pointer (some e)),.iface 82 (.pointer (some t))] w fun ev w'=>ev=.returned (.bool true)/\w'=((((w.alloc (.cells #[.pointer (some t)] 82)).alloc (.cells #[.pointer (some ⟨9,82,none⟩),.pointer (some ⟨w.heap.size,0,none⟩),.int .u64 150] 162)).alloc (.cells #[.pointer (some ⟨9,82,none⟩),.pointer (some ⟨w.heap.size,0,none⟩),.int .u64 150] 162)).alloc (.cells #[.pointer (some e)] 80)).setCell t (.pointer (some e)):=by
 have h6 := @run_callFunc_extern Tryz.prog 81 _ (fun args => ReflectliteValue.unpack (args.getD 0 (.tuple #[]))) Tryz.func81 (by kernel_rfl) (by kernel_rfl) (by kernel_rfl) (by kernel_rfl);have h7 := @run_callFunc_extern Tryz.prog 82 _ (ReflectliteValue.methodAny (ReflectliteValue.valueError "reflectlite.Value.Type" 0) (fun t _ _ _ => ReflectliteType.toType t)) Tryz.func82 (by kernel_rfl) (by kernel_rfl) (by kernel_rfl) (by kernel_rfl);have h8 := @run_callFunc_extern Tryz.prog 83 _ (ReflectliteValue.method (ReflectliteValue.valueError "reflectlite.Value.IsNil" 0) ReflectliteValue.isNil) Tryz.func83 (by kernel_rfl) (by kernel_rfl) (by kernel_rfl) (by kernel_rfl);have h27 := @run_callFunc_extern Tryz.prog 360 _ (ReflectliteType.abiMethod fun t => do pure (.int .u8 (← Rtype.kind t))) Tryz.func360 (by kernel_rfl) (by kernel_rfl) (by kernel_rfl) (by kernel_rfl);have h37 := @run_callFunc_extern Tryz.prog 372 _ (ReflectliteType.method ReflectliteType.elem) Tryz.func372 (by kernel_rfl) (by kernel_rfl) (by kernel_rfl) (by kernel_rfl);have h38 := @run_callFunc_extern Tryz.prog 373 _ (ReflectliteType.relation "Implements" ReflectliteType.implements_) Tryz.func373 (by kernel_rfl) (by kernel_rfl) (by kernel_rfl) (by kernel_rfl);have xn := @run_callFunc_extern Tryz.prog 141 _ ReflectliteType.typeOf Tryz.func141 (by kernel_rfl) (by kernel_rfl) (by kernel_rfl) (by kernel_rfl);have h35 := @run_callFunc_extern Tryz.prog 370 _ (ReflectliteType.relation "AssignableTo" ReflectliteType.assignableTo) Tryz.func370 (by kernel_rfl) (by kernel_rfl) (by kernel_rfl) (by kernel_rfl);have Nu := @run_callFunc_extern Tryz.prog 142 _ (ReflectliteValue.method (ReflectliteValue.valueError "reflectlite.Value.Elem" 0) ReflectliteValue.elem) Tryz.func142 (by kernel_rfl) (by kernel_rfl) (by kernel_rfl) (by kernel_rfl);have YX := @run_callFunc_extern Tryz.prog 143 _ ReflectliteValue.set Tryz.func143 (by kernel_rfl) (by kernel_rfl) (by kernel_rfl) (by kernel_rfl);have tO := GA;have mA := zr;have a25 := tA;have v25 := Me;have f6 := Mf;have f7 := type82;have mK := oQ;have mE := oP;have mI := cN;have k27 := ς;have k25 := π;have e27 := YD;have i25 := C9;have n8 := Uj ⟨w.heap.size, 0, none⟩ t ((w.alloc (.cells #[.pointer (some t)] 82)).alloc (.cells #[.pointer (some ⟨9, 82, none⟩), .pointer (some ⟨w.heap.size, 0, none⟩), .int .u64 150] 162)) Zs;have aO : 0 < w.heap.size := by
  exact zD4
 have hg2:((w.alloc (.cells #[.pointer (some t)] 82)).alloc (.cells #[.pointer (some ⟨9,82,none⟩),.pointer (some ⟨w.heap.size,0,none⟩),.int .u64 150] 162)).cell? ⟨0,0,none⟩=some (.iface 242 (.agg #[.pointer (some ⟨9,50,none⟩)])):=by
  exact zCN
 have ue:t.block < w.heap.size:=by
  exact zCH
 have el:=S6 ⟨w.heap.size,0,none⟩ t (((w.alloc (.cells #[.pointer (some t)] 82)).alloc (.cells #[.pointer (some ⟨9,82,none⟩),.pointer (some ⟨w.heap.size,0,none⟩),.int .u64 150] 162)).alloc (.cells #[.pointer (some ⟨9,82,none⟩),.pointer (some ⟨w.heap.size,0,none⟩),.int .u64 150] 162)) (by rw[World.cell?_alloc_lt _ _ ⟨w.heap.size,0,none⟩ ru];simp);have st:=Kw t ⟨w.heap.size+1+1+1,0,none⟩ e old ((((w.alloc (.cells #[.pointer (some t)] 82)).alloc (.cells #[.pointer (some ⟨9,82,none⟩),.pointer (some ⟨w.heap.size,0,none⟩),.int .u64 150] 162)).alloc (.cells #[.pointer (some ⟨9,82,none⟩),.pointer (some ⟨w.heap.size,0,none⟩),.int .u64 150] 162)).alloc (.cells #[.pointer (some e)] 80))
  (by rw[World.cell?_alloc_at _ _ _ _ Zs];rfl)
  Zav
  Zaw
 go_enter Tryz.func33,Tryz.ntmps33
 go_wp2
 refine wp_loop_rounds 1 ?_;rw[rounds_succ]
 go_wp2
 go_ret
 exact⟨rfl,rfl⟩
theorem Ku(ta b:Addr)(n:Int)(old:Value)(W:World)(hb:W.cell? b=some (.int .i64 n))(ht:W.cell? ta=some old)(hf:W.frozen? ta=false):
 (ReflectliteValue.set #[.agg #[.pointer (some ⟨9,44,none⟩),.pointer (some ta),.int .u64 386],.agg #[.pointer (some ⟨9,44,none⟩),.pointer (some b),.int .u64 130]]).run Tryz.prog W
   =.ok (.tuple #[]) (W.setCell ta (.int .i64 n)):=by
 exact zC1
set_option maxHeartbeats 4000000 in
theorem Ys(n:Int)(t:Addr)(old:Value)(w:World)(hg:w.cell? ⟨0,0,none⟩=some (.iface 242 (.agg #[.pointer (some ⟨9,50,none⟩)])))(T7:w.cell? t=some old)(hf0:w.frozen? t=false):
 Calls Tryz.prog 33 #[.iface 44 (.int .i64 n),.iface 129 (.pointer (some t))] w fun ev w'=>ev=.returned (.bool true)/\w'=((((w.alloc (.cells #[.pointer (some t)] 129)).alloc (.cells #[.pointer (some ⟨9,129,none⟩),.pointer (some ⟨w.heap.size,0,none⟩),.int .u64 150] 162)).alloc (.cells #[.pointer (some ⟨9,129,none⟩),.pointer (some ⟨w.heap.size,0,none⟩),.int .u64 150] 162)).alloc (.cells #[.int .i64 n] 44)).setCell t (.int .i64 n):=by
 have h6 := @run_callFunc_extern Tryz.prog 81 _ (fun args => ReflectliteValue.unpack (args.getD 0 (.tuple #[]))) Tryz.func81 (by kernel_rfl) (by kernel_rfl) (by kernel_rfl) (by kernel_rfl);have h7 := @run_callFunc_extern Tryz.prog 82 _ (ReflectliteValue.methodAny (ReflectliteValue.valueError "reflectlite.Value.Type" 0) (fun t _ _ _ => ReflectliteType.toType t)) Tryz.func82 (by kernel_rfl) (by kernel_rfl) (by kernel_rfl) (by kernel_rfl);have h8 := @run_callFunc_extern Tryz.prog 83 _ (ReflectliteValue.method (ReflectliteValue.valueError "reflectlite.Value.IsNil" 0) ReflectliteValue.isNil) Tryz.func83 (by kernel_rfl) (by kernel_rfl) (by kernel_rfl) (by kernel_rfl);have h27 := @run_callFunc_extern Tryz.prog 360 _ (ReflectliteType.abiMethod fun t => do pure (.int .u8 (← Rtype.kind t))) Tryz.func360 (by kernel_rfl) (by kernel_rfl) (by kernel_rfl) (by kernel_rfl);have h37 := @run_callFunc_extern Tryz.prog 372 _ (ReflectliteType.method ReflectliteType.elem) Tryz.func372 (by kernel_rfl) (by kernel_rfl) (by kernel_rfl) (by kernel_rfl);have h38 := @run_callFunc_extern Tryz.prog 373 _ (ReflectliteType.relation "Implements" ReflectliteType.implements_) Tryz.func373 (by kernel_rfl) (by kernel_rfl) (by kernel_rfl) (by kernel_rfl);have xn := @run_callFunc_extern Tryz.prog 141 _ ReflectliteType.typeOf Tryz.func141 (by kernel_rfl) (by kernel_rfl) (by kernel_rfl) (by kernel_rfl);have h35 := @run_callFunc_extern Tryz.prog 370 _ (ReflectliteType.relation "AssignableTo" ReflectliteType.assignableTo) Tryz.func370 (by kernel_rfl) (by kernel_rfl) (by kernel_rfl) (by kernel_rfl);have Nu := @run_callFunc_extern Tryz.prog 142 _ (ReflectliteValue.method (ReflectliteValue.valueError "reflectlite.Value.Elem" 0) ReflectliteValue.elem) Tryz.func142 (by kernel_rfl) (by kernel_rfl) (by kernel_rfl) (by kernel_rfl);have YX := @run_callFunc_extern Tryz.prog 143 _ ReflectliteValue.set Tryz.func143 (by kernel_rfl) (by kernel_rfl) (by kernel_rfl) (by kernel_rfl);have tO := Gz;have mA := zr;have a25 := lh;have v25 := Cn;have f6 := yO;have f7 := type129;have mK := oQ;have mE := oP;have mI := cN;have k27 := JP;have k25 := Oq;have e27 := Ju;have i25 := pN;have n8 := Fe ⟨w.heap.size, 0, none⟩ t ((w.alloc (.cells #[.pointer (some t)] 129)).alloc (.cells #[.pointer (some ⟨9, 129, none⟩), .pointer (some ⟨w.heap.size, 0, none⟩), .int .u64 150] 162)) Zs;have aO : 0 < w.heap.size := by
  exact zD4
 have hg2:((w.alloc (.cells #[.pointer (some t)] 129)).alloc (.cells #[.pointer (some ⟨9,129,none⟩),.pointer (some ⟨w.heap.size,0,none⟩),.int .u64 150] 162)).cell? ⟨0,0,none⟩=some (.iface 242 (.agg #[.pointer (some ⟨9,50,none⟩)])):=by
  exact zCN
 have ue:t.block < w.heap.size:=by
  exact zCH
 have el:=Ez ⟨w.heap.size,0,none⟩ t (((w.alloc (.cells #[.pointer (some t)] 129)).alloc (.cells #[.pointer (some ⟨9,129,none⟩),.pointer (some ⟨w.heap.size,0,none⟩),.int .u64 150] 162)).alloc (.cells #[.pointer (some ⟨9,129,none⟩),.pointer (some ⟨w.heap.size,0,none⟩),.int .u64 150] 162)) (by rw[World.cell?_alloc_lt _ _ ⟨w.heap.size,0,none⟩ ru];simp);have st:=Ku t ⟨w.heap.size+1+1+1,0,none⟩ n old ((((w.alloc (.cells #[.pointer (some t)] 129)).alloc (.cells #[.pointer (some ⟨9,129,none⟩),.pointer (some ⟨w.heap.size,0,none⟩),.int .u64 150] 162)).alloc (.cells #[.pointer (some ⟨9,129,none⟩),.pointer (some ⟨w.heap.size,0,none⟩),.int .u64 150] 162)).alloc (.cells #[.int .i64 n] 44))
  (by rw[World.cell?_alloc_at _ _ _ _ Zs];rfl)
  Zav
  Zaw
 go_enter Tryz.func33,Tryz.ntmps33
 go_wp2
 refine wp_loop_rounds 1 ?_;rw[rounds_succ]
 go_wp2
 go_ret
 exact⟨rfl,rfl⟩
theorem Kv(ta b:Addr)(n:Int)(old:Value)(W:World)(hb:W.cell? b=some (.int .i64 n))(ht:W.cell? ta=some old)(hf:W.frozen? ta=false):
 (ReflectliteValue.set #[.agg #[.pointer (some ⟨9,44,none⟩),.pointer (some ta),.int .u64 386],.agg #[.pointer (some ⟨9,44,none⟩),.pointer (some b),.int .u64 130]]).run Tryz.prog W
   =.ok (.tuple #[]) (W.setCell ta (.int .i64 n)):=by
 exact zC1
set_option maxHeartbeats 4000000 in
theorem as_in(e t:Addr)(n:Int)(old:Value)(w:World)(hg:w.cell? ⟨0,0,none⟩=some (.iface 242 (.agg #[.pointer (some ⟨9,50,none⟩)])))(T7:w.cell? t=some old)(hf0:w.frozen? t=false)(he:w.cell? ⟨e.block,e.off+2,none⟩=some (.iface 44 (.int .i64 n)))(lE:e.spot=none):
 Calls Tryz.prog 33 #[.iface 80 (.pointer (some e)),.iface 129 (.pointer (some t))] w fun ev w'=>ev=.returned (.bool true)/\w'=((((w.alloc (.cells #[.pointer (some t)] 129)).alloc (.cells #[.pointer (some ⟨9,129,none⟩),.pointer (some ⟨w.heap.size,0,none⟩),.int .u64 150] 162)).alloc (.cells #[.pointer (some ⟨9,129,none⟩),.pointer (some ⟨w.heap.size,0,none⟩),.int .u64 150] 162)).alloc (.cells #[.int .i64 n] 44)).setCell t (.int .i64 n):=by
 have h6 := @run_callFunc_extern Tryz.prog 81 _ (fun args => ReflectliteValue.unpack (args.getD 0 (.tuple #[]))) Tryz.func81 (by kernel_rfl) (by kernel_rfl) (by kernel_rfl) (by kernel_rfl);have h7 := @run_callFunc_extern Tryz.prog 82 _ (ReflectliteValue.methodAny (ReflectliteValue.valueError "reflectlite.Value.Type" 0) (fun t _ _ _ => ReflectliteType.toType t)) Tryz.func82 (by kernel_rfl) (by kernel_rfl) (by kernel_rfl) (by kernel_rfl);have h8 := @run_callFunc_extern Tryz.prog 83 _ (ReflectliteValue.method (ReflectliteValue.valueError "reflectlite.Value.IsNil" 0) ReflectliteValue.isNil) Tryz.func83 (by kernel_rfl) (by kernel_rfl) (by kernel_rfl) (by kernel_rfl);have h27 := @run_callFunc_extern Tryz.prog 360 _ (ReflectliteType.abiMethod fun t => do pure (.int .u8 (← Rtype.kind t))) Tryz.func360 (by kernel_rfl) (by kernel_rfl) (by kernel_rfl) (by kernel_rfl);have h37 := @run_callFunc_extern Tryz.prog 372 _ (ReflectliteType.method ReflectliteType.elem) Tryz.func372 (by kernel_rfl) (by kernel_rfl) (by kernel_rfl) (by kernel_rfl);have h38 := @run_callFunc_extern Tryz.prog 373 _ (ReflectliteType.relation "Implements" ReflectliteType.implements_) Tryz.func373 (by kernel_rfl) (by kernel_rfl) (by kernel_rfl) (by kernel_rfl);have xn := @run_callFunc_extern Tryz.prog 141 _ ReflectliteType.typeOf Tryz.func141 (by kernel_rfl) (by kernel_rfl) (by kernel_rfl) (by kernel_rfl);have h35 := @run_callFunc_extern Tryz.prog 370 _ (ReflectliteType.relation "AssignableTo" ReflectliteType.assignableTo) Tryz.func370 (by kernel_rfl) (by kernel_rfl) (by kernel_rfl) (by kernel_rfl);have Nu := @run_callFunc_extern Tryz.prog 142 _ (ReflectliteValue.method (ReflectliteValue.valueError "reflectlite.Value.Elem" 0) ReflectliteValue.elem) Tryz.func142 (by kernel_rfl) (by kernel_rfl) (by kernel_rfl) (by kernel_rfl);have YX := @run_callFunc_extern Tryz.prog 143 _ ReflectliteValue.set Tryz.func143 (by kernel_rfl) (by kernel_rfl) (by kernel_rfl) (by kernel_rfl);have tO := GA;have tO2 := Gz;have ta80x247 := RJ;have ta80x250 := RL;have ta80x252 := RM;have mU := Dq;have mA := zr;have a25 := tz;have a26 := lh;have v25 := Cn;have f6 := yO;have f7 := type129;have mK := oQ;have mE := oP;have mI := cN;have k27 := JP;have k25 := Oq;have e27 := Ju;have i25 := pN;have n8 := Fe ⟨w.heap.size, 0, none⟩ t ((w.alloc (.cells #[.pointer (some t)] 129)).alloc (.cells #[.pointer (some ⟨9, 129, none⟩), .pointer (some ⟨w.heap.size, 0, none⟩), .int .u64 150] 162)) Zs;have aO : 0 < w.heap.size := by
  exact zD4
 have hg2:((w.alloc (.cells #[.pointer (some t)] 129)).alloc (.cells #[.pointer (some ⟨9,129,none⟩),.pointer (some ⟨w.heap.size,0,none⟩),.int .u64 150] 162)).cell? ⟨0,0,none⟩=some (.iface 242 (.agg #[.pointer (some ⟨9,50,none⟩)])):=by
  exact zCN
 have ue:t.block < w.heap.size:=by
  exact zCH
 have el:=Ez ⟨w.heap.size,0,none⟩ t (((w.alloc (.cells #[.pointer (some t)] 129)).alloc (.cells #[.pointer (some ⟨9,129,none⟩),.pointer (some ⟨w.heap.size,0,none⟩),.int .u64 150] 162)).alloc (.cells #[.pointer (some ⟨9,129,none⟩),.pointer (some ⟨w.heap.size,0,none⟩),.int .u64 150] 162)) (by rw[World.cell?_alloc_lt _ _ ⟨w.heap.size,0,none⟩ ru];simp);have st:=Kv t ⟨w.heap.size+1+1+1,0,none⟩ n old ((((w.alloc (.cells #[.pointer (some t)] 129)).alloc (.cells #[.pointer (some ⟨9,129,none⟩),.pointer (some ⟨w.heap.size,0,none⟩),.int .u64 150] 162)).alloc (.cells #[.pointer (some ⟨9,129,none⟩),.pointer (some ⟨w.heap.size,0,none⟩),.int .u64 150] 162)).alloc (.cells #[.int .i64 n] 44))
  (by rw[World.cell?_alloc_at _ _ _ _ Zs];rfl)
  Zav
  Zaw
 have hexl:e.block < w.heap.size:=by
  rcases Nat.lt_or_ge e.block w.heap.size with h|h
  ·exact h
  ·simp[World.cell?,Array.getElem?_eq_none h]at he
 have hex:(((w.alloc (.cells #[.pointer (some t)] 129)).alloc (.cells #[.pointer (some ⟨9,129,none⟩),.pointer (some ⟨w.heap.size,0,none⟩),.int .u64 150] 162)).alloc (.cells #[.pointer (some ⟨9,129,none⟩),.pointer (some ⟨w.heap.size,0,none⟩),.int .u64 150] 162)).cell? ⟨e.block,e.off+2,none⟩=some (.iface 44 (.int .i64 n)):=by
  rw[World.cell?_alloc_lt _ _ ⟨e.block,e.off+2,none⟩ ru,World.cell?_alloc_lt _ _ ⟨e.block,e.off+2,none⟩ ru,World.cell?_alloc_lt _ _ ⟨e.block,e.off+2,none⟩ hexl];exact he
 go_enter Tryz.func33,Tryz.ntmps33
 go_wp2
 refine wp_loop_rounds 2 ?_;rw[rounds_succ]
 go_wp2
 rw[rounds_succ]
 go_wp2
 go_ret
 exact⟨rfl,rfl⟩
open Go Go.V
def X7:kC:=.cell 0 0 (.iface 242 (.agg #[.pointer (some ⟨9,50,none⟩)]))
theorem bX {w:World}{b o:Nat}{v:Value}(h:(kC.cell b o v).holds w):w.cell? ⟨b,o,none⟩=some v:=by
 obtain⟨c,t,lo,hi,hb,hc,hf⟩:=h;simp[World.cell?,hb,hc]
def flP(b:Nat):Value:=.iface 80 (kF b)
section
variable (A:List kC) (hE:X7∈A)
include hE
theorem SN(k:Nat)(b:Nat)(old:Value):aq Tryz.prog 33 [flP k,.iface 82 (kF b)] [A,kA b 0 [old]] (fun u Post=>u=.bool true/\Post=[A,kA b 0 [kF k]]):=
 aq.Iz (by kernel_rfl) fun w hA h1 h2=>(SX ⟨k,0,none⟩ ⟨b,0,none⟩ old w (bX (hA _ hE)) h1 h2).mono fun _ _ ⟨h,h'⟩=>⟨h,[_,_,_,_],h'⟩
theorem As_num(n:Int)(b:Nat)(old:Value):aq Tryz.prog 33 [.iface 44 (.int .i64 n),.iface 129 (kF b)] [A,kA b 0 [old]] (fun u Post=>u=.bool true/\Post=[A,kA b 0 [.int .i64 n]]):=
 aq.Iz (by kernel_rfl) fun w hA h1 h2=>(Ys n ⟨b,0,none⟩ old w (bX (hA _ hE)) h1 h2).mono fun _ _ ⟨h,h'⟩=>⟨h,[_,_,_,_],h'⟩
theorem As_in(k:Nat)(n:Int)(hk:kC.cell k 2 (.iface 44 (.int .i64 n))∈A)(b:Nat)(old:Value):aq Tryz.prog 33 [flP k,.iface 129 (kF b)] [A,kA b 0 [old]] (fun u Post=>u=.bool true/\Post=[A,kA b 0 [.int .i64 n]]):=
 aq.Iz (by kernel_rfl) fun w hA h1 h2=>(as_in ⟨k,0,none⟩ ⟨b,0,none⟩ n old w (bX (hA _ hE)) h1 h2 (bX (hA _ hk)) rfl).mono fun _ _ ⟨h,h'⟩=>⟨h,[_,_,_,_],h'⟩
end
noncomputable def F16:aQ:=bb (o:=gF pq Tryz.f16 [])
theorem n16:F16.n=21:=rfl
theorem XO:aZ Tryz.prog 16 []=some F16:=by kernel_rfl
noncomputable def F136:aQ:=bb (o:=gF pq Tryz.f136 [])
theorem n136:F136.n=12:=rfl
theorem aan:aZ Tryz.prog 136 []=some F136:=by kernel_rfl
noncomputable def F70:aQ:=bb (o:=gF pq Tryz.f70 [(20,[[0,1,2,3,4,5,6,7,8,9,10,11,12,13,14,15,16,17,18,19,20,21,22,23]])])
theorem n70:F70.n=94:=rfl
theorem low70:aZ Tryz.prog 70 [(20,[[0,1,2,3,4,5,6,7,8,9,10,11,12,13,14,15,16,17,18,19,20,21,22,23]])]=some F70:=by kernel_rfl
noncomputable def F26:aQ:=bb (o:=gF pq Tryz.f26 [])
theorem n26:F26.n=13:=rfl
theorem low26:aZ Tryz.prog 26 []=some F26:=by kernel_rfl
noncomputable def F208:aQ:=bb (o:=gF pq Tryz.f208 [(6,[[0,1,2,3,4,5,6,7],[0,2,3,1,4,5,6,7]])])
theorem n208:F208.n=24:=rfl
theorem abb:aZ Tryz.prog 208 [(6,[[0,1,2,3,4,5,6,7],[0,2,3,1,4,5,6,7]])]=some F208:=by kernel_rfl
noncomputable def F113:aQ:=bb (o:=gF pq Tryz.f113 [])
theorem n113:F113.n=10:=rfl
theorem aah:aZ Tryz.prog 113 []=some F113:=by kernel_rfl
noncomputable def F111:aQ:=bb (o:=gF pq Tryz.f111 [])
theorem n111:F111.n=21:=rfl
theorem aaf:aZ Tryz.prog 111 []=some F111:=by kernel_rfl
noncomputable def F232:aQ:=bb (o:=gF pq Tryz.f232 [(5,[[0,1,2,3,4,5,6,7,8,9,10,11,12,13,14,15,16,17],[0,1,2,3,4,5,6,7,8,9,10,11,12,15,13,14,16,17]])])
theorem n232:F232.n=45:=rfl
theorem abq:aZ Tryz.prog 232 [(5,[[0,1,2,3,4,5,6,7,8,9,10,11,12,13,14,15,16,17],[0,1,2,3,4,5,6,7,8,9,10,11,12,15,13,14,16,17]])]=some F232:=by kernel_rfl
noncomputable def F115:aQ:=bb (o:=gF pq Tryz.f115 [])
theorem n115:F115.n=19:=rfl
theorem aaj:aZ Tryz.prog 115 []=some F115:=by kernel_rfl
noncomputable def F116:aQ:=bb (o:=gF pq Tryz.f116 [(2,[[0,1,2,3,4,5,6,7,8,9,10,11,12],[0,1,2,3,5,6,7,8,9,10,4,11,12]]),(5,[[0,1,2,3,4,5,6,7,8,9,10,11]])])
theorem n116:F116.n=39:=rfl
theorem aak:aZ Tryz.prog 116 [(2,[[0,1,2,3,4,5,6,7,8,9,10,11,12],[0,1,2,3,5,6,7,8,9,10,4,11,12]]),(5,[[0,1,2,3,4,5,6,7,8,9,10,11]])]=some F116:=by kernel_rfl
noncomputable def F175:aQ:=bb (o:=gF pq Tryz.f175 [(2,[[0,1,2,3,4,5,6,7,8,9,10,11,12]]),(4,[[0,1,2,3,4,5,6,7,8,9,10,11,12],[0,1,2,3,4,5,7,8,9,10,6,11,12]]),(5,[[0,1,2,3,4,5,6,7,8,9,10,11,12,13,14,15,16,17]])])
theorem n175:F175.n=57:=rfl
theorem aaL:aZ Tryz.prog 175 [(2,[[0,1,2,3,4,5,6,7,8,9,10,11,12]]),(4,[[0,1,2,3,4,5,6,7,8,9,10,11,12],[0,1,2,3,4,5,7,8,9,10,6,11,12]]),(5,[[0,1,2,3,4,5,6,7,8,9,10,11,12,13,14,15,16,17]])]=some F175:=by kernel_rfl
noncomputable def F117:aQ:=bb (o:=gF pq Tryz.f117 [(5,[[0,1,2,3,4,5,6,7,8],[0,2,3,4,1,5,6,7,8]]),(10,[[0,1,2,3,4,5,6,7,8],[0,2,3,4,1,5,6,7,8]])])
theorem n117:F117.n=45:=rfl
theorem aal:aZ Tryz.prog 117 [(5,[[0,1,2,3,4,5,6,7,8],[0,2,3,4,1,5,6,7,8]]),(10,[[0,1,2,3,4,5,6,7,8],[0,2,3,4,1,5,6,7,8]])]=some F117:=by kernel_rfl
noncomputable def F174:aQ:=bb (o:=gF pq Tryz.f174 [(4,[[0,1,2,3,4,5]])])
theorem n174:F174.n=19:=rfl
theorem aaK:aZ Tryz.prog 174 [(4,[[0,1,2,3,4,5]])]=some F174:=by kernel_rfl
noncomputable def F108:aQ:=bb (o:=gF pq Tryz.f108 [])
theorem n108:F108.n=34:=rfl
theorem aab:aZ Tryz.prog 108 []=some F108:=by kernel_rfl
noncomputable def F209:aQ:=bb (o:=gF pq Tryz.f209 [(17,[[0,1,2,3,4,5,6,7,8,9,10,11]]),(20,[[0,1,2,3,4,5,6,7]])])
theorem n209:F209.n=78:=rfl
theorem abc:aZ Tryz.prog 209 [(17,[[0,1,2,3,4,5,6,7,8,9,10,11]]),(20,[[0,1,2,3,4,5,6,7]])]=some F209:=by kernel_rfl
noncomputable def F112:aQ:=bb (o:=gF pq Tryz.f112 [])
theorem n112:F112.n=28:=rfl
theorem aag:aZ Tryz.prog 112 []=some F112:=by kernel_rfl
noncomputable def F49:aQ:=bb (o:=gF pq Tryz.f49 [(3,[[0,1,2,3,4,5,6,7,8,9,10]]),(6,[[0,1,2,3,4,5,6,7,8,9],[1,2,3,4,5,6,0,7,8,9]])])
theorem n49:F49.n=60:=rfl
theorem low49:aZ Tryz.prog 49 [(3,[[0,1,2,3,4,5,6,7,8,9,10]]),(6,[[0,1,2,3,4,5,6,7,8,9],[1,2,3,4,5,6,0,7,8,9]])]=some F49:=by kernel_rfl
noncomputable def F109:aQ:=bb (o:=gF pq Tryz.f109 [])
theorem n109:F109.n=8:=rfl
theorem aad:aZ Tryz.prog 109 []=some F109:=by kernel_rfl
noncomputable def F110:aQ:=bb (o:=gF pq Tryz.f110 [])
theorem n110:F110.n=6:=rfl
theorem aae:aZ Tryz.prog 110 []=some F110:=by kernel_rfl
noncomputable def F231:aQ:=bb (o:=gF pq Tryz.f231 [(6,[[0,1,2,3],[0,2,1,3]])])
theorem n231:F231.n=37:=rfl
theorem abp:aZ Tryz.prog 231 [(6,[[0,1,2,3],[0,2,1,3]])]=some F231:=by kernel_rfl
noncomputable def F251:aQ:=bb (o:=gF pq Tryz.f251 [])
theorem n251:F251.n=8:=rfl
theorem abx:aZ Tryz.prog 251 []=some F251:=by kernel_rfl
noncomputable def F252:aQ:=bb (o:=gF pq Tryz.f252 [])
theorem n252:F252.n=15:=rfl
theorem aby:aZ Tryz.prog 252 []=some F252:=by kernel_rfl
noncomputable def F207:aQ:=bb (o:=gF pq Tryz.f207 [(10,[[0,1,2,3,4,5,6,7,8,9,10],[0,2,3,4,5,6,1,7,8,9,10]])])
theorem n207:F207.n=85:=rfl
theorem aba:aZ Tryz.prog 207 [(10,[[0,1,2,3,4,5,6,7,8,9,10],[0,2,3,4,5,6,1,7,8,9,10]])]=some F207:=by kernel_rfl
noncomputable def F172:aQ:=bb (o:=gF pq Tryz.f172 [(29,[[0,1,2,3,4,5,6,7],[0,2,3,4,1,5,6,7]]),(8,[[0,1,2,3,4,5,6,7],[0,2,3,4,1,5,6,7]]),(10,[[0,1,2,3,4,5]])])
theorem n172:F172.n=158:=rfl
theorem aaI:aZ Tryz.prog 172 [(29,[[0,1,2,3,4,5,6,7],[0,2,3,4,1,5,6,7]]),(8,[[0,1,2,3,4,5,6,7],[0,2,3,4,1,5,6,7]]),(10,[[0,1,2,3,4,5]])]=some F172:=by kernel_rfl
noncomputable def F114:aQ:=bb (o:=gF pq Tryz.f114 [(22,[[0,1,2,3,4,5,6]]),(23,[[0,1,2,3,4,5,6,7,8,9,10],[1,0,2,3,4,5,6,7,8,9,10],[1,2,3,4,0,5,6,7,8,9,10],[1,2,3,4,5,6,0,7,8,9,10],[1,2,3,4,5,6,7,0,8,9,10],[0,1,2,3,5,6,4,7,8,9,10],[1,0,2,3,5,6,4,7,8,9,10],[1,2,3,5,6,0,4,7,8,9,10],[1,2,3,5,6,4,0,7,8,9,10],[1,2,3,5,6,4,7,0,8,9,10],[0,5,6,1,2,3,4,7,8,9,10],[5,6,0,1,2,3,4,7,8,9,10],[5,6,1,0,2,3,4,7,8,9,10],[5,6,1,2,3,4,0,7,8,9,10],[5,6,1,2,3,4,7,0,8,9,10]])])
theorem n114:F114.n=111:=rfl
theorem aai:aZ Tryz.prog 114 [(22,[[0,1,2,3,4,5,6]]),(23,[[0,1,2,3,4,5,6,7,8,9,10],[1,0,2,3,4,5,6,7,8,9,10],[1,2,3,4,0,5,6,7,8,9,10],[1,2,3,4,5,6,0,7,8,9,10],[1,2,3,4,5,6,7,0,8,9,10],[0,1,2,3,5,6,4,7,8,9,10],[1,0,2,3,5,6,4,7,8,9,10],[1,2,3,5,6,0,4,7,8,9,10],[1,2,3,5,6,4,0,7,8,9,10],[1,2,3,5,6,4,7,0,8,9,10],[0,5,6,1,2,3,4,7,8,9,10],[5,6,0,1,2,3,4,7,8,9,10],[5,6,1,0,2,3,4,7,8,9,10],[5,6,1,2,3,4,0,7,8,9,10],[5,6,1,2,3,4,7,0,8,9,10]])]=some F114:=by kernel_rfl
noncomputable def F173:aQ:=bb (o:=gF pq Tryz.f173 [])
theorem n173:F173.n=4:=rfl
theorem aaJ:aZ Tryz.prog 173 []=some F173:=by kernel_rfl
noncomputable def F210:aQ:=bb (o:=gF pq Tryz.f210 [])
theorem n210:F210.n=19:=rfl
theorem abd:aZ Tryz.prog 210 []=some F210:=by kernel_rfl
noncomputable def F50:aQ:=bb (o:=gF pq Tryz.f50 [(12,[[0,1,2,3,4,5,6,7,8,9,10,11,12,13,14,15,16,17,18]]),(14,[[0,1,2,3,4,5,6,7,8,9,10,11,12,13,14,15,16,17]]),(20,[[0,1,2,3,4,5,6,7,8,9,10,11,12],[0,2,3,4,5,6,7,1,8,9,10,11,12]]),(25,[[0,1,2,3,4,5,6,7,8],[0,2,3,4,1,5,6,7,8]])])
theorem n50:F50.n=145:=rfl
theorem low50:aZ Tryz.prog 50 [(12,[[0,1,2,3,4,5,6,7,8,9,10,11,12,13,14,15,16,17,18]]),(14,[[0,1,2,3,4,5,6,7,8,9,10,11,12,13,14,15,16,17]]),(20,[[0,1,2,3,4,5,6,7,8,9,10,11,12],[0,2,3,4,5,6,7,1,8,9,10,11,12]]),(25,[[0,1,2,3,4,5,6,7,8],[0,2,3,4,1,5,6,7,8]])]=some F50:=by kernel_rfl
def F15:DIR:=Bi (X:=⟨83,[.aJ 6 3,.bT 7],[(.ly [qB 3 25 0,qo 6 (.alloc 43 Ne1),
 qo 7 (.alloc 50 [Value.nilIface])] [1,2,3,6,7]),(qS [qN 16 5 3,qx 17 47 [16],qm 8 17] [1,2,3,6,7,8] (qS [qm 18 8,qc 19 .neq 18 0] [1,2,3,6,7,8,19] (qC 19 (qS [qo 20 (.build Ne1 []),qm 21 8,qo 22 (.Fo 44 (.tmp 21)),
 qo 23 (.build [.string ⟨#[]⟩,.int .i64 0,Value.nilIface] [(0,1,(.const (.string ⟨#[82,101,115,111,108,118,101]⟩))),(2,1,(.tmp 22))]),
 qB 24 84 23,qo 25 (.Fo 80 (.tmp 24)),qs 3 6 20,qs 1 7 25] [6,7] .ret) .skip)))],⟨26,48,[(.tmp 6),(.tmp 7)]⟩,(qS [qo 27 (.oi),qo 28 (.oi),
 qo 29 (.build [(Value.map none),(Value.map none),.slice none 0 0] [(0,1,(.tmp 27)),(1,1,(.tmp 28))]),qB 30 122 29,qm 9 30] [1,2,3,6,7,9] (.seq (qS [qm 31 1,qL 32 31,qk 33 0] [2,3,6,7,9,31,32,33] (.block 0 (.loop (qS [qb 34 .lss 33 32] [2,3,6,7,9,31,32,33,34] (.seq (qC 34 .skip (.exit 0)) (.seq (.block 1 (qS [qm 35 33,qi 36 1 31 33,ql 37 36,qm 10 35,qm 11 37] [2,3,6,7,9,10,11,31,32,33] (qS [qm 39 9,qn 40 39,qf 41 0 40,ql 42 41,qm 43 11,qo 44 (.lookup .str (.int .i64 0) true (.tmp 42) (.tmp 43)),qm 38 44,
 qe 45 38 0,qe 46 38 1,qm 12 45,qm 13 46] [2,3,6,7,9,10,11,13,31,32,33] (qS [qm 47 13,qo 48 (.un .not (.tmp 47))] [2,3,6,7,9,10,11,31,32,33,48] (qC 48 (.ly [qm 49 9,qn 50 49,qf 51 0 50,ql 52 51,qm 53 11,qm 54 10,⟨none,none,.xV .str (.tmp 52) (.tmp 53) (.tmp 54)⟩] [2,3,6,7,9,31,32,33]) .skip))))) (.ly [qc 55 .add 33 1,qm 33 55] [2,3,6,7,9,31,32,33]))))))) (.seq (qS [qm 56 2,qL 57 56,qk 58 0] [3,6,7,9,56,57,58] (.block 2 (.loop (qS [qb 59 .lss 58 57] [3,6,7,9,56,57,58,59] (.seq (qC 59 .skip (.exit 2)) (.seq (.block 3 (qS [qi 60 1 56 58,ql 61 60,qm 15 61] [3,6,7,9,15,56,57,58] (.ly [qm 62 9,qn 63 62,qf 64 1 63,ql 65 64,qm 66 15,qo 67 (.lookup .str (.int .i64 0) false (.tmp 65) (.tmp 66)),
 qc 68 .add 67 1,⟨none,none,.xV .str (.tmp 65) (.tmp 66) (.tmp 68)⟩] [3,6,7,9,56,57,58]))) (.ly [qc 69 .add 58 1,qm 58 69] [3,6,7,9,56,57,58]))))))) (qS [qm 70 9,qf 71 1 3,ql 72 71,qf 73 2 3,ql 74 73,qf 75 4 3,ql 76 75,
 qo 77 (.build [.int .u8 0,.string ⟨#[]⟩,.int .u8 0,.int .i64 0,.int .u64 0,.string ⟨#[]⟩,.slice none 0 0,.slice none 0 0,.slice none 0 0,.slice none 0 0,.int .i64 0] [(7,1,(.tmp 72)),(8,1,(.tmp 74)),(9,1,(.tmp 76))]),
 qo 78 (.oi),qo 79 (.call 49 [(.tmp 70),(.tmp 77),(.const (.pointer none)),(.tmp 78)])] [3,6,7,9] (qS [qm 80 9,qN 81 5 3,qx 82 50 [80,81],qs 3 6 82,⟨none,none,.store 1 (.tmp 7) (.const Value.nilIface)⟩] [6,7] .ret)))))⟩)
theorem n15:F15.n=83:=rfl
theorem low15:JR Tryz.prog (zA [(0,[1,2,3,6,7]),(1,[1,2,3,6,7,8]),(2,[1,2,3,6,7,8,19]),(3,[6,7]),(4,[1,2,3,6,7]),(5,[1,2,3,6,7,9]),(6,[2,3,6,7,9,31,32,33]),(7,[2,3,6,7,9,31,32,33,34]),(8,[2,3,6,7,9,10,11,31,32,33]),(9,[2,3,6,7,9,10,11,13,31,32,33]),(10,[2,3,6,7,9,10,11,31,32,33,48]),(11,[2,3,6,7,9,31,32,33]),(12,[2,3,6,7,9,31,32,33]),(13,[3,6,7,9,56,57,58]),(14,[3,6,7,9,56,57,58,59]),(15,[3,6,7,9,15,56,57,58]),(16,[3,6,7,9,56,57,58]),(17,[3,6,7,9,56,57,58]),(18,[3,6,7,9]),(19,[6,7])]) (zA []) 15=some F15:=by kernel_rfl
def F48:RIR:=Bi (X:=⟨13,[],5,[qo 6 (.fX 80 (.pointer none) true (.tmp 5)),qm 4 6,qe 7 4 0,qe 8 4 1,qm 2 7,qm 3 8],(qS [qm 9 3] [0,1,2,9] (qC 9 (.ly [qo 10 (.build Ne1 []),qm 11 2,qo 12 (.Fo 80 (.tmp 11)),
 qs 3 0 10,qs 1 1 12] []) .skip))⟩)
theorem n48:F48.n=13:=rfl
theorem XP:JS Tryz.prog (zA [(0,[0,1,2,3]),(1,[0,1,2,9]),(2,[])]) (zA []) 48=some F48:=by kernel_rfl
noncomputable def F27:aQ:=bb (o:=gF pq Tryz.f27 [])
theorem n27:F27.n=14:=rfl
theorem low27:aZ Tryz.prog 27 []=some F27:=by kernel_rfl
noncomputable def F71:aQ:=bb (o:=gF pq Tryz.f71 [(9,[[0,1,2,3,4,5,6,7],[0,1,3,4,2,5,6,7]])])
theorem n71:F71.n=70:=rfl
theorem low71:aZ Tryz.prog 71 [(9,[[0,1,2,3,4,5,6,7],[0,1,3,4,2,5,6,7]])]=some F71:=by kernel_rfl
end Go.Proofs.YtijnokbblmbpkaaGreatDoor
namespace Go.V
open Go
structure fF where
 name:ByteArray
 unit:Nat
 arg:Bool
 own:Int
structure zj where
 kind:Nat
 index:Int
 slot:Int
 name:ByteArray
inductive PN where
 |mk (kind:Nat) (name:ByteArray) (lit:Lt) (refs:List zj) (unit:Int) (super:Bool) (kids:List PN)
def PN.kind:PN->Nat|.mk k _ _ _ _ _ _=>k
def PN.name:PN->ByteArray|.mk _ s _ _ _ _ _=>s
def PN.lit:PN->Lt|.mk _ _ l _ _ _ _=>l
def PN.refs:PN->List zj|.mk _ _ _ r _ _ _=>r
def PN.unit:PN->Int|.mk _ _ _ _ u _ _=>u
def PN.super:PN->Bool|.mk _ _ _ _ _ b _=>b
def PN.kids:PN->List PN|.mk _ _ _ _ _ _ l=>l
def PN.yu(b:Bool):PN->PN|.mk k s l r u _ ks=>.mk k s l r u b ks
structure ah where
 vars:List fF
 outer:List Int
 args:List Nat
 uses:List (Nat×Nat)
 aj:List (List PN)
 f:Option (Nat×Int)
def e0:ByteArray:=⟨#[]⟩
abbrev lI:List Value:=[.int .u8 0,.string e0,.int .u8 0,.int .i64 0,.int .u64 0,.string e0,.slice none 0 0,.slice none 0 0,.int .i64 0,.bool false,.slice none 0 0,.slice none 0 0,.slice none 0 0]
abbrev Sf:List Value:=[.int .u8 0,.string e0,.int .u8 0,.int .i64 0,.int .u64 0,.string e0,.slice none 0 0,.slice none 0 0,.int .i64 0,.bool false,.slice none 0 0]
abbrev qY:List Value:=[.string e0,.int .i64 0,.slice none 0 0]
def fP:Lt:=.mk 0 0 0 e0 []
def ah.wrong(st:ah)(e:Nat)(at_:Int):ah:=if st.f.isNone then {st with f:=some (e,at_)}else st
def nmIfT:ByteArray:=⟨#[105,102,84,114,117,101,58]⟩
def nmIfF:ByteArray:=⟨#[105,102,70,97,108,115,101,58]⟩
def nmAnd:ByteArray:=⟨#[97,110,100,58]⟩
def nmOr:ByteArray:=⟨#[111,114,58]⟩
def nmTF:ByteArray:=⟨#[105,102,84,114,117,101,58,105,102,70,97,108,115,101,58]⟩
def nmFT:ByteArray:=⟨#[105,102,70,97,108,115,101,58,105,102,84,114,117,101,58]⟩
def nmWT1:ByteArray:=⟨#[119,104,105,108,101,84,114,117,101,58]⟩
def nmWF1:ByteArray:=⟨#[119,104,105,108,101,70,97,108,115,101,58]⟩
def nmWT:ByteArray:=⟨#[119,104,105,108,101,84,114,117,101]⟩
def nmWF:ByteArray:=⟨#[119,104,105,108,101,70,97,108,115,101]⟩
def nmTo:ByteArray:=⟨#[116,111,58,100,111,58]⟩
def jP(s:ByteArray):Nat:=
 if s=nmIfT∨s=nmIfF∨s=nmAnd∨s=nmOr then 1
 else if s=nmTF∨s=nmFT then 2
 else if s=nmWT1∨s=nmWF1 then 3
 else if s=nmWT∨s=nmWF then 4
 else if s=nmTo then 5 else 0
def jq(x:Nd):Bool:=decide (x.kind=7)&&decide (x.args.length=0)
def jW:List Nd->Bool
 |r::_=>jQ r
 |[]=>false
def ej(n:Nat)(kids:List Nd):Bool:=
 match n with
 |1=>match kids with|[_,b]=>jq b|_=>false
 |2=>match kids with|[_,b,c]=>jq b&&jq c|_=>false
 |3=>match kids with|[a,b]=>jq a&&jq b|_=>false
 |4=>match kids with|[a]=>jq a|_=>false
 |5=>match kids with|[_,_,b]=>decide (b.kind=7)&&decide (b.args.length=1)|_=>false
 |_=>false
def iD(k:Nat)(s:ByteArray)(kids:List Nd):Bool:=decide (k=4)&&!jW kids&&ej (jP s) kids
def gw(x:Nd):Bool:=iD x.kind x.name x.kids
def dU(s:ByteArray)(i:Nat):Bool:=
 match jP s with
 |3=>true
 |4=>true
 |5=>decide (i=2)
 |_=>decide (0 < i)
def iS(s:ByteArray):Nat:=match jP s with|3=>12|4=>12|5=>13|_=>11
def iT(s:ByteArray):ByteArray:=if jP s=5 then e0 else s
def x8:ByteArray:=⟨#[115,101,108,102]⟩
def nh:ByteArray:=⟨#[115,117,112,101,114]⟩
def Fv:ByteArray:=⟨#[110,105,108]⟩
def x9:ByteArray:=⟨#[116,114,117,101]⟩
def qg:ByteArray:=⟨#[102,97,108,115,101]⟩
def zY(s:ByteArray):Nat:=if s=x8∨s=nh then 1 else if s=Fv then 2 else if s=x9 then 3 else if s=qg then 4 else 0
def w9(vs:List fF)(env:List Nat)(nm:ByteArray):Option Nat:=env.reverse.find? fun v=>decide ((vs[v]?).map (·.name)=some nm)
def dH(v:Nat):zj:=⟨99,v,0,e0⟩
def kQ(unit:Nat)(arg own:Bool)(at_:Int):List ByteArray->Nat->ah->List Nat->ah×List Nat
 |[],_,st,env=>(st,env)
 |nm::r,i,st,env=>
  kQ unit arg own at_ r (i+1) {(if(w9 st.vars env nm).isSome then st.wrong 180 at_ else st)with vars:=st.vars++[⟨nm,unit,arg,if arg&&own then i else -1⟩]} (env++[st.vars.length])
def wQ(F G:List ByteArray)(st:ah)(env:List Nat)(nm:ByteArray)(u:Nat)(at_:Int)(put:Bool):zj×ah:=
 if zY nm≠0 then(⟨zY nm,0,0,e0⟩,st)
 else match w9 st.vars env nm with
  |some v=>(dH v,{(if put&&((st.vars[v]?).map (·.arg)).getD false then st.wrong 182 at_ else st)with uses:=st.uses++[(u,v)]})
  |none=>match F.findIdx? (fun s=>decide (s=nm))with
   |some i=>(⟨7,i,0,e0⟩,st)
   |none=>(⟨8,0,0,nm⟩,if G.any (fun s=>decide (s=nm))then st else st.wrong 181 at_)
def zX(b:Bool):List PN->List PN
 |x::r=>x::r.map (PN.yu b)
 |[]=>[]
mutual
def jH(F G:List ByteArray):Nd->ah->List Nat->Nat->PN×ah
 |.mk k s lit args ab kids p,st,env,u=>
  if iD k s kids then
   match jA F G s kids 0 st env u with
   |(ks,rs,bN)=>(.mk (iS s) (iT s) fP rs 0 false ks,bN)
  else if k=1 then(.mk 1 e0 lit [] 0 false [],st)
  else if k=2 then
   match wQ F G st env s u p false with
   |(r,bN)=>(.mk 2 e0 fP [r] 0 false [],bN)
  else if k=3 then
   match wQ F G st env s u p true with
   |(r,bN)=>match kV F G kids bN env u with
    |(ks,L4)=>(.mk 3 e0 fP [r] 0 false ks,L4)
  else if k=7 then
   match kQ st.outer.length true true p args 0 {st with outer:=st.outer++[(u:Int)],args:=st.args++[args.length],aj:=st.aj++[[]]} env with
   |(bN,Ad)=>match kQ st.outer.length false true p ab 0 bN Ad with
    |(L4,Nk)=>match kV F G kids L4 Nk st.outer.length with
     |(b,st3)=>(.mk 8 e0 fP [] st.outer.length false [],{st3 with aj:=st3.aj.set st.outer.length b})
  else if k=8 then match kV F G kids st env u with|(ks,bN)=>(.mk 9 e0 fP [] 0 false ks,bN)
  else if k=9 then match kV F G kids st env u with|(ks,bN)=>(.mk 10 e0 fP [] 0 false ks,bN)
  else if k=6 then match kV F G kids st env u with|(ks,bN)=>(.mk 7 s fP [] 0 false ks,bN)
  else if k=5 then match kV F G kids st env u with|(ks,bN)=>(.mk 6 e0 fP [] 0 false (zX (jW kids) ks),bN)
  else if jW kids then match kids with
   |[]=>(.mk 5 s fP [] 0 false [],st)
   |_::r=>match kV F G r st env u with|(ks,bN)=>(.mk 5 s fP [] 0 false ks,bN)
  else match kV F G kids st env u with|(ks,bN)=>(.mk 4 s fP [] 0 false ks,bN)
def kV(F G:List ByteArray):List Nd->ah->List Nat->Nat->List PN×ah
 |[],st,_,_=>([],st)
 |x::r,st,env,u=>
  match jH F G x st env u with
  |(q,bN)=>match kV F G r bN env u with
   |(qs,L4)=>(q::qs,L4)
def jA(F G:List ByteArray)(s:ByteArray):List Nd->Nat->ah->List Nat->Nat->List PN×List zj×ah
 |[],_,st,_,_=>([],[],st)
 |x::r,i,st,env,u=>
  if dU s i then
   match cI F G x st env u with
   |(q,bN)=>match jA F G s r (i+1) bN env u with
    |(qs,fs,L4)=>(q::qs,(if jP s=5 then dH st.vars.length::fs else fs),L4)
  else match jH F G x st env u with
   |(q,bN)=>match jA F G s r (i+1) bN env u with
    |(qs,fs,L4)=>(q::qs,fs,L4)
def cI(F G:List ByteArray):Nd->ah->List Nat->Nat->PN×ah
 |.mk _ _ _ args ab kids p,st,env,u=>
  match kQ u true false p args 0 st env with
  |(bN,Ad)=>match kQ u false false p ab 0 bN Ad with
   |(L4,Nk)=>match kV F G kids L4 Nk u with
    |(ks,st3)=>(.mk 14 e0 fP ((List.range' bN.vars.length ab.length).map dH) 0 false ks,st3)
end
def oj(F G:List ByteArray)(args ab:List ByteArray)(kids:List Nd)(p:Int)(st:ah)(env:List Nat)(o:Int):ah:=
 match kQ st.outer.length true true p args 0 {st with outer:=st.outer++[o],args:=st.args++[args.length],aj:=st.aj++[[]]} env with
 |(bN,Ad)=>match kQ st.outer.length false true p ab 0 bN Ad with
  |(L4,Nk)=>match kV F G kids L4 Nk st.outer.length with
   |(b,st3)=>{st3 with aj:=st3.aj.set st.outer.length b}
def qJ:ah:=⟨[],[],[],[],[],none⟩
def mC(F G:List ByteArray)(args ab:List ByteArray)(kids:List Nd):ah:=oj F G args ab kids 0 qJ [] (-1)
def yN(outer:List Int):Nat->Int->List Nat
 |0,_=>[]
 |n+1,u=>if u < 0 then []else u.toNat::yN outer n (outer.getD u.toNat (-1))
def ah.line(st:ah)(u:Nat):List Nat:=yN st.outer (st.outer.length+1) u
def ah.af(st:ah)(v:Nat):Nat:=((st.vars[v]?).map (·.unit)).getD 0
def ah.bC(st:ah)(v:Nat):Int:=((st.vars[v]?).map (·.own)).getD 0
def ah.rem(st:ah)(v:Nat):Bool:=st.uses.any fun q=>decide (q.2=v)&&decide (st.bC v < 0)&&decide (st.af v≠q.1)
def ah.way(st:ah)(u v:Nat):List Nat:=(st.line u).takeWhile fun w=>decide (w≠st.af v)
def ah.bg(st:ah)(u:Nat)(t:Nat×Int):Bool:=st.uses.any fun q=>decide ((st.af q.2,st.bC q.2)=t)&&decide (u∈st.way q.1 q.2)
def ah.things(st:ah)(o:Nat):List (Nat×Int):=(List.range (st.args.getD o 0+1)).map fun i:Nat=>(o,(i:Int) - 1)
def ah.copied(st:ah)(u:Nat):List (Nat×Int):=((st.line u).drop 1).reverse.flatMap fun o=>(st.things o).filter (st.bg u)
def ah.locals(st:ah)(u:Nat)(r:Bool):List Nat:=(List.range st.vars.length).filter fun v=>decide (st.af v=u)&&decide (st.bC v < 0)&&decide (st.rem v=r)
def ma {α:Type}[DecidableEq α](l:List α)(x:α):Int:=match l.findIdx? (fun y=>decide (y=x))with|some i=>i|none=>-1
def ah.place(st:ah)(u:Nat)(t:Nat×Int):Int:=
 if t.1=u then(if 0<=t.2 then t.2 else st.args.getD u 0+(st.copied u).length+(st.locals u false).length)
 else match(st.copied u).findIdx? (fun y=>decide (y=t))with
  |some i=>st.args.getD u 0+i
  |none=>-1
def ah.known(st:ah)(u v:Nat):zj:=
 if 0<=st.bC v then⟨5,st.place u (st.af v,st.bC v),0,e0⟩
 else if st.rem v then⟨6,st.place u (st.af v,-1),ma (st.locals (st.af v) true) v,e0⟩
 else⟨5,st.args.getD u 0+(st.copied u).length+ma (st.locals u false) v,0,e0⟩
def ah.fix(st:ah)(u:Nat)(r:zj):zj:=if r.kind=99 then st.known u r.index.toNat else r
mutual
def lT(st:ah)(u:Nat):PN->PN
 |.mk k s l rs n b kids=>.mk k s l (rs.map (st.fix u)) n b (pH st u kids)
def pH(st:ah)(u:Nat):List PN->List PN
 |[]=>[]
 |x::r=>lT st u x::pH st u r
end
structure yJ where
 outer:Int
 args:Int
 copied:List zj
 locals:Int
 aB:Int
 body:List PN
def ah.aL(st:ah)(u:Nat):yJ:=
 ⟨st.outer.getD u (-1),st.args.getD u 0,(st.copied u).map fun t=>⟨5,st.place (st.outer.getD u (-1)).toNat t,0,e0⟩,(st.locals u false).length,(st.locals u true).length,pH st u (st.aj.getD u [])⟩
def yJ.frame(x:yJ):Int:=x.args+x.copied.length+x.locals+(if 0 < x.aB then 1 else 0)
def yJ.Yw(x:yJ):Bool:=decide (63 < x.frame)||decide (63 < x.aB)
def ah.answer(st:ah):List yJ×Nat×Int:=
 match st.f with
 |some f=>([],f)
 |none=>if 255 < st.outer.length then([],183,0)
  else if((List.range st.outer.length).map st.aL).any yJ.Yw then([],183,0)
  else((List.range st.outer.length).map st.aL,0,0)
end Go.V

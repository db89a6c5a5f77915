/-
  Contracts out of what a call makes of the world: blocks laid, a cell written.
-/
import Derived.Test.YtijnokbblmbpkaaGreatDoorN9
import Derived.Test.YtijnokbblmbpkaaGreatDoorProg
import Derived.WalkKit
import Derived.LaidEql
import Derived.Stop.Asserts
import Derived.RowKitTokens
import Derived.KernelRfl
set_option linter.all false
namespace Go.V
open Go
theorem Sat.alloc {w:World}{L:List kB}(h:Sat w L)(o:Obj):Sat (w.alloc o) L/\ki w (w.alloc o):=by
 have:=h.push o [] (fun x hx=>by cases hx) Zs;simpa using this
theorem Sat.set {w:World}{L R:List kB}{b off:Nat}{v u:Value}(h:Sat w L)(p:L.Perm (.cell b off v::R)):Sat (w.setCell ⟨b,off,none⟩ u) (.cell b off u::R)/\ki w (w.setCell ⟨b,off,none⟩ u):=(h.perm p).store
theorem Sat.Y4 {L:List kB}:∀(os:List Obj) {w:World},Sat w L->Sat (os.foldl World.alloc w) L/\ki w (os.foldl World.alloc w):=by
 intro os
 induction os with
 |nil=>intro w h;exact⟨h,.refl w⟩
 |cons o os ih=>
  intro w h;obtain⟨h1,h2⟩:=h.alloc o;obtain⟨h3,h4⟩:=ih h1;exact⟨h3,h2.trans h4⟩
theorem ao.IB {P:Program}{f:Nat}{args:List Value}{A:List kB}{b o:Nat}{old new v:Value}(hc:jo P f=true)
 (h:∀w,(∀a∈A,a.holds w)->w.cell? ⟨b,o,none⟩=some old->w.frozen? ⟨b,o,none⟩=false->Calls P f args.toArray w fun e w'=>e=.returned v/\∃os:List Obj,w'=(os.foldl World.alloc w).setCell ⟨b,o,none⟩ new):
 ao P f args [A,[.cell b o old]] (fun u Post=>u=v/\Post=[A,[.cell b o new]]):=by
 refine⟨hc,fun F w hs=>?_⟩;have DD:Sat w ((.cell b o old)::(A++F)):=hs.perm (by simp only[V6,V7,vd,vZ,vf,QJ];exact QR);obtain⟨c1,c2⟩:=DD.cell (QB ..);refine(h w (fun a ha=>DD.holds a (QA _ (Zw _ ha))) c1 c2).mono ?_
 rintro e w' ⟨rfl,os,rfl⟩
 obtain⟨s1,k1⟩:=DD.Y4 os;obtain⟨s2,k2⟩:=s1.set (u:=new) (.refl _);refine⟨_,_,rfl,⟨rfl,rfl⟩,s2.perm ?_,k1.trans k2⟩;simp only[V6,V7,vd,vZ,vf,QJ];exact QR.symm
end Go.V
namespace Go.Proofs.YtijnokbblmbpkaaGreatDoor
open Go Go.RowKit Go.Extern.Stop Go.Stop Go.Extern
set_option maxRecDepth 100000
theorem oU (h : Value) (w : World) : (Go.method 543 242 (.agg #[h]) "Kind").run Tryz.prog w = .ok (360, h) w := by kernel_rfl
theorem oT (h : Value) (w : World) : (Go.method 543 242 (.agg #[h]) "Elem").run Tryz.prog w = .ok (372, .agg #[h]) w := by kernel_rfl
theorem cM (h : Value) (w : World) : (Go.method 543 242 (.agg #[h]) "Implements").run Tryz.prog w = .ok (373, .agg #[h]) w := by kernel_rfl
theorem zd (h : Value) (w : World) : (Go.method 543 242 (.agg #[h]) "AssignableTo").run Tryz.prog w = .ok (370, .agg #[h]) w := by kernel_rfl
theorem rlm(z:Sem Value)(f:TypeId->Addr->Nat->Nat->Sem Value)(v:Value):
 ReflectliteValue.method z f #[v]=(do match <- ReflectliteValue.parts v with|none=>z|some (t,a,fl)=>f t a fl (fl % 32)):=rfl
theorem rls(v x:Value):ReflectliteValue.set #[v,x]=(do
 let(some (dst,a,fl),some (src,b,_)):=(<- ReflectliteValue.parts v,<- ReflectliteValue.parts x)
  | unsupported (.noEntry "extern/(internal/reflectlite.Value).Set.zeroValue")
 if fl / ReflectliteValue.flagAddr % 2 == 0 then unsupported (.noEntry "extern/(internal/reflectlite.Value).Set.unaddressable")
 let val <- loadVar src b
 if <- Rtype.directlyAssignable dst src then storeVar dst a val
 else if <- Rtype.implements dst src then
  if(<- Rtype.kind src)==20 then
   match val with
   | .nilIface => unsupported (.noEntry "extern/reflectlite: a nil value of one interface type handed on as a value of another")
   |_=>storeVar dst a val
  else storeVar dst a (.iface src val)
 else panicString ("reflectlite.Set: value of type " ++ (← Rtype.spelt src) ++ " is not assignable to type " ++ (← Rtype.spelt dst))
 pure (.tuple #[])):=rfl
theorem M7(t:Addr)(w:World):(ReflectliteValue.unpack (.iface 82 (.pointer (some t)))).run Tryz.prog w
 =.ok (.agg #[.pointer (some ⟨9,82,none⟩),.pointer (some ⟨w.heap.size,0,none⟩),.int .u64 150]) (w.alloc (.cells #[.pointer (some t)] 82)):=by kernel_rfl
theorem type82 (a : Addr) (w : World) : (ReflectliteValue.methodAny (ReflectliteValue.valueError "reflectlite.Value.Type" 0) (fun t _ _ _ => ReflectliteType.toType t) #[.agg #[.pointer (some ⟨9, 82, none⟩), .pointer (some a), .int .u64 150]]).run Tryz.prog w
 =.ok (.iface 242 (.agg #[.pointer (some ⟨9,82,none⟩)])) w:=by kernel_rfl
theorem kind82(w:World):((ReflectliteType.abiMethod fun t=>(fun a:Nat=>Value.int IntKind.u8 (a:Int)) <$> Rtype.kind t) #[.pointer (some ⟨9,82,none⟩)]).run Tryz.prog w=.ok (.int .u8 22) w:=by kernel_rfl
theorem kind80(w:World):((ReflectliteType.abiMethod fun t=>(fun a:Nat=>Value.int IntKind.u8 (a:Int)) <$> Rtype.kind t) #[.pointer (some ⟨9,80,none⟩)]).run Tryz.prog w=.ok (.int .u8 22) w:=by kernel_rfl
theorem Kg(a:Addr)(w:World):(ReflectliteValue.parts (.agg #[.pointer (some ⟨9,82,none⟩),.pointer (some a),.int .u64 150])).run Tryz.prog w=.ok (some (82,a,150)) w:=by kernel_rfl
theorem YL:Tryz.prog.underlying 82=some (.pointer 80):=by kernel_rfl
theorem U5(a p:Addr)(W:World)(ha:W.cell? a=some (.pointer (some p))):
 (ReflectliteValue.method (ReflectliteValue.valueError "reflectlite.Value.IsNil" 0) ReflectliteValue.isNil #[.agg #[.pointer (some ⟨9, 82, none⟩), .pointer (some a), .int .u64 150]]).run Tryz.prog W = .ok (.bool false) W := by
 rw[rlm];simp only[Sem.run_bind,Kg,Result.andThen];simp[ReflectliteValue.isNil,loadVar,isAgg,underlying,YL,ha,Result.andThen]
theorem Zk(w:World):(ReflectliteType.method ReflectliteType.elem #[.agg #[.pointer (some ⟨9,82,none⟩)]]).run Tryz.prog w=.ok (.iface 242 (.agg #[.pointer (some ⟨9,80,none⟩)])) w:=by kernel_rfl
theorem CU (w : World) : (ReflectliteType.relation "Implements" ReflectliteType.implements_ #[.agg #[.pointer (some ⟨9, 80, none⟩)], .iface 242 (.agg #[.pointer (some ⟨9, 50, none⟩)])]).run Tryz.prog w = .ok (.bool true) w := by kernel_rfl
theorem Oj(w:World):(Rtype.elem? 82).run Tryz.prog w=.ok (some 80) w:=by kernel_rfl
theorem mk80(p:Addr)(w:World):(ReflectliteValue.mk 80 p ReflectliteValue.flagAddr).run Tryz.prog w=.ok (.agg #[.pointer (some ⟨9,80,none⟩),.pointer (some p),.int .u64 406]) w:=by kernel_rfl
theorem Ua(a p:Addr)(W:World)(ha:W.cell? a=some (.pointer (some p))):
 (ReflectliteValue.method (ReflectliteValue.valueError "reflectlite.Value.Elem" 0) ReflectliteValue.elem #[.agg #[.pointer (some ⟨9, 82, none⟩), .pointer (some a), .int .u64 150]]).run Tryz.prog W
   =.ok (.agg #[.pointer (some ⟨9,80,none⟩),.pointer (some p),.int .u64 406]) W:=by
 rw[rlm];simp only[Sem.run_bind,Kg,Result.andThen];simp[ReflectliteValue.elem,loadVar,isAgg,underlying,YL,ha,Result.andThen,Oj,mk80]
theorem RI(a:Addr)(w:World):(ReflectliteValue.parts (.agg #[.pointer (some ⟨9,80,none⟩),.pointer (some a),.int .u64 406])).run Tryz.prog w=.ok (some (80,a,406)) w:=by kernel_rfl
theorem W1(a:Addr)(w:World):(ReflectliteValue.parts (.agg #[.pointer (some ⟨9,80,none⟩),.pointer (some a),.int .u64 150])).run Tryz.prog w=.ok (some (80,a,150)) w:=by kernel_rfl
theorem Oe(w:World):(Rtype.directlyAssignable 80 80).run Tryz.prog w=.ok true w:=by kernel_rfl
theorem yL(t:Addr)(w:World):(ReflectliteValue.unpack (.iface 129 (.pointer (some t)))).run Tryz.prog w
 =.ok (.agg #[.pointer (some ⟨9,129,none⟩),.pointer (some ⟨w.heap.size,0,none⟩),.int .u64 150]) (w.alloc (.cells #[.pointer (some t)] 129)):=by kernel_rfl
theorem type129 (a : Addr) (w : World) : (ReflectliteValue.methodAny (ReflectliteValue.valueError "reflectlite.Value.Type" 0) (fun t _ _ _ => ReflectliteType.toType t) #[.agg #[.pointer (some ⟨9, 129, none⟩), .pointer (some a), .int .u64 150]]).run Tryz.prog w
 =.ok (.iface 242 (.agg #[.pointer (some ⟨9,129,none⟩)])) w:=by kernel_rfl
theorem J8(w:World):((ReflectliteType.abiMethod fun t=>(fun a:Nat=>Value.int IntKind.u8 (a:Int)) <$> Rtype.kind t) #[.pointer (some ⟨9,129,none⟩)]).run Tryz.prog w=.ok (.int .u8 22) w:=by kernel_rfl
theorem Ps(w:World):((ReflectliteType.abiMethod fun t=>(fun a:Nat=>Value.int IntKind.u8 (a:Int)) <$> Rtype.kind t) #[.pointer (some ⟨9,44,none⟩)]).run Tryz.prog w=.ok (.int .u8 2) w:=by kernel_rfl
theorem Fo(a:Addr)(w:World):(ReflectliteValue.parts (.agg #[.pointer (some ⟨9,129,none⟩),.pointer (some a),.int .u64 150])).run Tryz.prog w=.ok (some (129,a,150)) w:=by kernel_rfl
theorem SB:Tryz.prog.underlying 129=some (.pointer 44):=by kernel_rfl
theorem EV(a p:Addr)(W:World)(ha:W.cell? a=some (.pointer (some p))):
 (ReflectliteValue.method (ReflectliteValue.valueError "reflectlite.Value.IsNil" 0) ReflectliteValue.isNil #[.agg #[.pointer (some ⟨9, 129, none⟩), .pointer (some a), .int .u64 150]]).run Tryz.prog W = .ok (.bool false) W := by
 rw[rlm];simp only[Sem.run_bind,Fo,Result.andThen];simp[ReflectliteValue.isNil,loadVar,isAgg,underlying,SB,ha,Result.andThen]
theorem JE(w:World):(ReflectliteType.method ReflectliteType.elem #[.agg #[.pointer (some ⟨9,129,none⟩)]]).run Tryz.prog w=.ok (.iface 242 (.agg #[.pointer (some ⟨9,44,none⟩)])) w:=by kernel_rfl
theorem pW (w : World) : (ReflectliteType.relation "Implements" ReflectliteType.implements_ #[.agg #[.pointer (some ⟨9, 44, none⟩)], .iface 242 (.agg #[.pointer (some ⟨9, 50, none⟩)])]).run Tryz.prog w = .ok (.bool true) w := by kernel_rfl
theorem KT(w:World):(Rtype.elem? 129).run Tryz.prog w=.ok (some 44) w:=by kernel_rfl
theorem mk44(p:Addr)(w:World):(ReflectliteValue.mk 44 p ReflectliteValue.flagAddr).run Tryz.prog w=.ok (.agg #[.pointer (some ⟨9,44,none⟩),.pointer (some p),.int .u64 386]) w:=by kernel_rfl
theorem Eh(a p:Addr)(W:World)(ha:W.cell? a=some (.pointer (some p))):
 (ReflectliteValue.method (ReflectliteValue.valueError "reflectlite.Value.Elem" 0) ReflectliteValue.elem #[.agg #[.pointer (some ⟨9, 129, none⟩), .pointer (some a), .int .u64 150]]).run Tryz.prog W
   =.ok (.agg #[.pointer (some ⟨9,44,none⟩),.pointer (some p),.int .u64 386]) W:=by
 rw[rlm];simp only[Sem.run_bind,Fo,Result.andThen];simp[ReflectliteValue.elem,loadVar,isAgg,underlying,SB,ha,Result.andThen,KT,mk44]
theorem RH(a:Addr)(w:World):(ReflectliteValue.parts (.agg #[.pointer (some ⟨9,44,none⟩),.pointer (some a),.int .u64 386])).run Tryz.prog w=.ok (some (44,a,386)) w:=by kernel_rfl
theorem W0(a:Addr)(w:World):(ReflectliteValue.parts (.agg #[.pointer (some ⟨9,44,none⟩),.pointer (some a),.int .u64 130])).run Tryz.prog w=.ok (some (44,a,130)) w:=by kernel_rfl
theorem Od(w:World):(Rtype.directlyAssignable 44 44).run Tryz.prog w=.ok true w:=by kernel_rfl
theorem Gs(v:Value)(w:World):(ReflectliteType.typeOf #[.iface 80 v]).run Tryz.prog w=.ok (.iface 242 (.agg #[.pointer (some ⟨9,80,none⟩)])) w:=by kernel_rfl
theorem tu (w : World) : (ReflectliteType.relation "AssignableTo" ReflectliteType.assignableTo #[.agg #[.pointer (some ⟨9, 80, none⟩)], .iface 242 (.agg #[.pointer (some ⟨9, 80, none⟩)])]).run Tryz.prog w = .ok (.bool true) w := by kernel_rfl
theorem tq (w : World) : (ReflectliteType.relation "AssignableTo" ReflectliteType.assignableTo #[.agg #[.pointer (some ⟨9, 80, none⟩)], .iface 242 (.agg #[.pointer (some ⟨9, 44, none⟩)])]).run Tryz.prog w = .ok (.bool false) w := by kernel_rfl
theorem M6(e:Addr)(w:World):(ReflectliteValue.unpack (.iface 80 (.pointer (some e)))).run Tryz.prog w
 =.ok (.agg #[.pointer (some ⟨9,80,none⟩),.pointer (some ⟨w.heap.size,0,none⟩),.int .u64 150]) (w.alloc (.cells #[.pointer (some e)] 80)):=by kernel_rfl
theorem Gq(v:Value)(w:World):(ReflectliteType.typeOf #[.iface 44 v]).run Tryz.prog w=.ok (.iface 242 (.agg #[.pointer (some ⟨9,44,none⟩)])) w:=by kernel_rfl
theorem iZ (w : World) : (ReflectliteType.relation "AssignableTo" ReflectliteType.assignableTo #[.agg #[.pointer (some ⟨9, 44, none⟩)], .iface 242 (.agg #[.pointer (some ⟨9, 44, none⟩)])]).run Tryz.prog w = .ok (.bool true) w := by kernel_rfl
theorem Ce(n:Int)(w:World):(ReflectliteValue.unpack (.iface 44 (.int .i64 n))).run Tryz.prog w
 =.ok (.agg #[.pointer (some ⟨9,44,none⟩),.pointer (some ⟨w.heap.size,0,none⟩),.int .u64 130]) (w.alloc (.cells #[.int .i64 n] 44)):=by kernel_rfl
theorem Sq(v:Value)(x:TypeId)(w:World):(Instr.typeAssert (.iface 80 v) x 247 true).run Tryz.prog w=.ok (.tuple #[.nilIface,.bool false]) w:=run_typeAssert_lacksB Tryz.underlying247 (by kernel_rfl) (by kernel_rfl) v x w
theorem Sr(v:Value)(x:TypeId)(w:World):(Instr.typeAssert (.iface 80 v) x 250 true).run Tryz.prog w=.ok (.tuple #[.iface 80 v,.bool true]) w:=run_typeAssert_hasB Tryz.underlying250 (by kernel_rfl) v x w
theorem Ss(v:Value)(x:TypeId)(w:World):(Instr.typeAssert (.iface 80 v) x 252 true).run Tryz.prog w=.ok (.tuple #[.nilIface,.bool false]) w:=run_typeAssert_lacksB Tryz.underlying252 (by kernel_rfl) (by kernel_rfl) v x w
theorem C4 (e : Addr) (w : World) : (Go.method 543 80 (.pointer (some e)) "Unwrap").run Tryz.prog w = .ok (365, .pointer (some e)) w := by kernel_rfl
theorem KQ(ta b e:Addr)(old:Value)(W:World)(hb:W.cell? b=some (.pointer (some e)))(ht:W.cell? ta=some old)(hf:W.frozen? ta=false):
 (ReflectliteValue.set #[.agg #[.pointer (some ⟨9,80,none⟩),.pointer (some ta),.int .u64 406],.agg #[.pointer (some ⟨9,80,none⟩),.pointer (some b),.int .u64 150]]).run Tryz.prog W
   =.ok (.tuple #[]) (W.setCell ta (.pointer (some e))):=by
 rw[rls];simp only[Sem.run_bind,RI,W1,Result.andThen];simp[ReflectliteValue.flagAddr,loadVar,isAgg,underlying,Tryz.underlying80,hb,Result.andThen,Oe,storeVar,Value.cells,storeCells,Addr.add];rw[run_store Tryz.prog W ta _ _ Zr];simp[ht,hf]
set_option maxHeartbeats 4000000 in
theorem TT(e t:Addr)(old:Value)(w:World)(hg:w.cell? ⟨0,0,none⟩=some (.iface 242 (.agg #[.pointer (some ⟨9,50,none⟩)])))(ht0:w.cell? t=some old)(hf0:w.frozen? t=false):
 Calls Tryz.prog 33 #[.iface 80 (.pointer (some e)),.iface 82 (.pointer (some t))] w fun ev w'=>ev=.returned (.bool true)/\w'=((((w.alloc (.cells #[.pointer (some t)] 82)).alloc (.cells #[.pointer (some ⟨9,82,none⟩),.pointer (some ⟨w.heap.size,0,none⟩),.int .u64 150] 162)).alloc (.cells #[.pointer (some ⟨9,82,none⟩),.pointer (some ⟨w.heap.size,0,none⟩),.int .u64 150] 162)).alloc (.cells #[.pointer (some e)] 80)).setCell t (.pointer (some e)):=by
 have h6 := @run_callFunc_extern Tryz.prog 81 _ (fun args => ReflectliteValue.unpack (args.getD 0 (.tuple #[]))) Tryz.func81 (by kernel_rfl) (by kernel_rfl) (by kernel_rfl) (by kernel_rfl);have h7 := @run_callFunc_extern Tryz.prog 82 _ (ReflectliteValue.methodAny (ReflectliteValue.valueError "reflectlite.Value.Type" 0) (fun t _ _ _ => ReflectliteType.toType t)) Tryz.func82 (by kernel_rfl) (by kernel_rfl) (by kernel_rfl) (by kernel_rfl);have h8 := @run_callFunc_extern Tryz.prog 83 _ (ReflectliteValue.method (ReflectliteValue.valueError "reflectlite.Value.IsNil" 0) ReflectliteValue.isNil) Tryz.func83 (by kernel_rfl) (by kernel_rfl) (by kernel_rfl) (by kernel_rfl);have h27 := @run_callFunc_extern Tryz.prog 360 _ (ReflectliteType.abiMethod fun t => do pure (.int .u8 (← Rtype.kind t))) Tryz.func360 (by kernel_rfl) (by kernel_rfl) (by kernel_rfl) (by kernel_rfl);have h37 := @run_callFunc_extern Tryz.prog 372 _ (ReflectliteType.method ReflectliteType.elem) Tryz.func372 (by kernel_rfl) (by kernel_rfl) (by kernel_rfl) (by kernel_rfl);have h38 := @run_callFunc_extern Tryz.prog 373 _ (ReflectliteType.relation "Implements" ReflectliteType.implements_) Tryz.func373 (by kernel_rfl) (by kernel_rfl) (by kernel_rfl) (by kernel_rfl);have Dz := @run_callFunc_extern Tryz.prog 141 _ ReflectliteType.typeOf Tryz.func141 (by kernel_rfl) (by kernel_rfl) (by kernel_rfl) (by kernel_rfl);have h35 := @run_callFunc_extern Tryz.prog 370 _ (ReflectliteType.relation "AssignableTo" ReflectliteType.assignableTo) Tryz.func370 (by kernel_rfl) (by kernel_rfl) (by kernel_rfl) (by kernel_rfl);have Hw := @run_callFunc_extern Tryz.prog 142 _ (ReflectliteValue.method (ReflectliteValue.valueError "reflectlite.Value.Elem" 0) ReflectliteValue.elem) Tryz.func142 (by kernel_rfl) (by kernel_rfl) (by kernel_rfl) (by kernel_rfl);have Nj := @run_callFunc_extern Tryz.prog 143 _ ReflectliteValue.set Tryz.func143 (by kernel_rfl) (by kernel_rfl) (by kernel_rfl) (by kernel_rfl);have tO := Gs;have mA := zd;have a25 := tu;have v25 := M6;have f6 := M7;have f7 := type82;have mK := oU;have mE := oT;have mI := cM;have k27 := kind82;have k25 := kind80;have e27 := Zk;have i25 := CU;have n8 := U5 ⟨w.heap.size, 0, none⟩ t ((w.alloc (.cells #[.pointer (some t)] 82)).alloc (.cells #[.pointer (some ⟨9, 82, none⟩), .pointer (some ⟨w.heap.size, 0, none⟩), .int .u64 150] 162)) Zs;have aI : 0 < w.heap.size := by
  exact zD5
 have hg2:((w.alloc (.cells #[.pointer (some t)] 82)).alloc (.cells #[.pointer (some ⟨9,82,none⟩),.pointer (some ⟨w.heap.size,0,none⟩),.int .u64 150] 162)).cell? ⟨0,0,none⟩=some (.iface 242 (.agg #[.pointer (some ⟨9,50,none⟩)])):=by
  exact zCN
 have tI:t.block < w.heap.size:=by
  exact zCG
 have el:=Ua ⟨w.heap.size,0,none⟩ t (((w.alloc (.cells #[.pointer (some t)] 82)).alloc (.cells #[.pointer (some ⟨9,82,none⟩),.pointer (some ⟨w.heap.size,0,none⟩),.int .u64 150] 162)).alloc (.cells #[.pointer (some ⟨9,82,none⟩),.pointer (some ⟨w.heap.size,0,none⟩),.int .u64 150] 162)) (by rw[World.cell?_alloc_lt _ _ ⟨w.heap.size,0,none⟩ tj];simp);have st:=KQ t ⟨w.heap.size+1+1+1,0,none⟩ e old ((((w.alloc (.cells #[.pointer (some t)] 82)).alloc (.cells #[.pointer (some ⟨9,82,none⟩),.pointer (some ⟨w.heap.size,0,none⟩),.int .u64 150] 162)).alloc (.cells #[.pointer (some ⟨9,82,none⟩),.pointer (some ⟨w.heap.size,0,none⟩),.int .u64 150] 162)).alloc (.cells #[.pointer (some e)] 80))
  (by rw[World.cell?_alloc_at _ _ _ _ Zs];rfl)
  Zav
  Zaw
 go_enter Tryz.func33,Tryz.ntmps33
 go_wp2
 refine wp_loop_rounds 1 ?_;rw[rounds_succ]
 go_wp2
 go_ret
 exact⟨rfl,rfl⟩
theorem KO(ta b:Addr)(n:Int)(old:Value)(W:World)(hb:W.cell? b=some (.int .i64 n))(ht:W.cell? ta=some old)(hf:W.frozen? ta=false):
 (ReflectliteValue.set #[.agg #[.pointer (some ⟨9,44,none⟩),.pointer (some ta),.int .u64 386],.agg #[.pointer (some ⟨9,44,none⟩),.pointer (some b),.int .u64 130]]).run Tryz.prog W
   =.ok (.tuple #[]) (W.setCell ta (.int .i64 n)):=by
 exact zC1
set_option maxHeartbeats 4000000 in
theorem Y7(n:Int)(t:Addr)(old:Value)(w:World)(hg:w.cell? ⟨0,0,none⟩=some (.iface 242 (.agg #[.pointer (some ⟨9,50,none⟩)])))(ht0:w.cell? t=some old)(hf0:w.frozen? t=false):
 Calls Tryz.prog 33 #[.iface 44 (.int .i64 n),.iface 129 (.pointer (some t))] w fun ev w'=>ev=.returned (.bool true)/\w'=((((w.alloc (.cells #[.pointer (some t)] 129)).alloc (.cells #[.pointer (some ⟨9,129,none⟩),.pointer (some ⟨w.heap.size,0,none⟩),.int .u64 150] 162)).alloc (.cells #[.pointer (some ⟨9,129,none⟩),.pointer (some ⟨w.heap.size,0,none⟩),.int .u64 150] 162)).alloc (.cells #[.int .i64 n] 44)).setCell t (.int .i64 n):=by
 have h6 := @run_callFunc_extern Tryz.prog 81 _ (fun args => ReflectliteValue.unpack (args.getD 0 (.tuple #[]))) Tryz.func81 (by kernel_rfl) (by kernel_rfl) (by kernel_rfl) (by kernel_rfl);have h7 := @run_callFunc_extern Tryz.prog 82 _ (ReflectliteValue.methodAny (ReflectliteValue.valueError "reflectlite.Value.Type" 0) (fun t _ _ _ => ReflectliteType.toType t)) Tryz.func82 (by kernel_rfl) (by kernel_rfl) (by kernel_rfl) (by kernel_rfl);have h8 := @run_callFunc_extern Tryz.prog 83 _ (ReflectliteValue.method (ReflectliteValue.valueError "reflectlite.Value.IsNil" 0) ReflectliteValue.isNil) Tryz.func83 (by kernel_rfl) (by kernel_rfl) (by kernel_rfl) (by kernel_rfl);have h27 := @run_callFunc_extern Tryz.prog 360 _ (ReflectliteType.abiMethod fun t => do pure (.int .u8 (← Rtype.kind t))) Tryz.func360 (by kernel_rfl) (by kernel_rfl) (by kernel_rfl) (by kernel_rfl);have h37 := @run_callFunc_extern Tryz.prog 372 _ (ReflectliteType.method ReflectliteType.elem) Tryz.func372 (by kernel_rfl) (by kernel_rfl) (by kernel_rfl) (by kernel_rfl);have h38 := @run_callFunc_extern Tryz.prog 373 _ (ReflectliteType.relation "Implements" ReflectliteType.implements_) Tryz.func373 (by kernel_rfl) (by kernel_rfl) (by kernel_rfl) (by kernel_rfl);have Dz := @run_callFunc_extern Tryz.prog 141 _ ReflectliteType.typeOf Tryz.func141 (by kernel_rfl) (by kernel_rfl) (by kernel_rfl) (by kernel_rfl);have h35 := @run_callFunc_extern Tryz.prog 370 _ (ReflectliteType.relation "AssignableTo" ReflectliteType.assignableTo) Tryz.func370 (by kernel_rfl) (by kernel_rfl) (by kernel_rfl) (by kernel_rfl);have Hw := @run_callFunc_extern Tryz.prog 142 _ (ReflectliteValue.method (ReflectliteValue.valueError "reflectlite.Value.Elem" 0) ReflectliteValue.elem) Tryz.func142 (by kernel_rfl) (by kernel_rfl) (by kernel_rfl) (by kernel_rfl);have Nj := @run_callFunc_extern Tryz.prog 143 _ ReflectliteValue.set Tryz.func143 (by kernel_rfl) (by kernel_rfl) (by kernel_rfl) (by kernel_rfl);have tO := Gq;have mA := zd;have a25 := iZ;have v25 := Ce;have f6 := yL;have f7 := type129;have mK := oU;have mE := oT;have mI := cM;have k27 := J8;have k25 := Ps;have e27 := JE;have i25 := pW;have n8 := EV ⟨w.heap.size, 0, none⟩ t ((w.alloc (.cells #[.pointer (some t)] 129)).alloc (.cells #[.pointer (some ⟨9, 129, none⟩), .pointer (some ⟨w.heap.size, 0, none⟩), .int .u64 150] 162)) Zs;have aI : 0 < w.heap.size := by
  exact zD5
 have hg2:((w.alloc (.cells #[.pointer (some t)] 129)).alloc (.cells #[.pointer (some ⟨9,129,none⟩),.pointer (some ⟨w.heap.size,0,none⟩),.int .u64 150] 162)).cell? ⟨0,0,none⟩=some (.iface 242 (.agg #[.pointer (some ⟨9,50,none⟩)])):=by
  exact zCN
 have tI:t.block < w.heap.size:=by
  exact zCG
 have el:=Eh ⟨w.heap.size,0,none⟩ t (((w.alloc (.cells #[.pointer (some t)] 129)).alloc (.cells #[.pointer (some ⟨9,129,none⟩),.pointer (some ⟨w.heap.size,0,none⟩),.int .u64 150] 162)).alloc (.cells #[.pointer (some ⟨9,129,none⟩),.pointer (some ⟨w.heap.size,0,none⟩),.int .u64 150] 162)) (by rw[World.cell?_alloc_lt _ _ ⟨w.heap.size,0,none⟩ tj];simp);have st:=KO t ⟨w.heap.size+1+1+1,0,none⟩ n old ((((w.alloc (.cells #[.pointer (some t)] 129)).alloc (.cells #[.pointer (some ⟨9,129,none⟩),.pointer (some ⟨w.heap.size,0,none⟩),.int .u64 150] 162)).alloc (.cells #[.pointer (some ⟨9,129,none⟩),.pointer (some ⟨w.heap.size,0,none⟩),.int .u64 150] 162)).alloc (.cells #[.int .i64 n] 44))
  (by rw[World.cell?_alloc_at _ _ _ _ Zs];rfl)
  Zav
  Zaw
 go_enter Tryz.func33,Tryz.ntmps33
 go_wp2
 refine wp_loop_rounds 1 ?_;rw[rounds_succ]
 go_wp2
 go_ret
 exact⟨rfl,rfl⟩
theorem KP(ta b:Addr)(n:Int)(old:Value)(W:World)(hb:W.cell? b=some (.int .i64 n))(ht:W.cell? ta=some old)(hf:W.frozen? ta=false):
 (ReflectliteValue.set #[.agg #[.pointer (some ⟨9,44,none⟩),.pointer (some ta),.int .u64 386],.agg #[.pointer (some ⟨9,44,none⟩),.pointer (some b),.int .u64 130]]).run Tryz.prog W
   =.ok (.tuple #[]) (W.setCell ta (.int .i64 n)):=by
 exact zC1
set_option maxHeartbeats 4000000 in
theorem as_in(e t:Addr)(n:Int)(old:Value)(w:World)(hg:w.cell? ⟨0,0,none⟩=some (.iface 242 (.agg #[.pointer (some ⟨9,50,none⟩)])))(ht0:w.cell? t=some old)(hf0:w.frozen? t=false)(he:w.cell? ⟨e.block,e.off+2,none⟩=some (.iface 44 (.int .i64 n)))(ly:e.spot=none):
 Calls Tryz.prog 33 #[.iface 80 (.pointer (some e)),.iface 129 (.pointer (some t))] w fun ev w'=>ev=.returned (.bool true)/\w'=((((w.alloc (.cells #[.pointer (some t)] 129)).alloc (.cells #[.pointer (some ⟨9,129,none⟩),.pointer (some ⟨w.heap.size,0,none⟩),.int .u64 150] 162)).alloc (.cells #[.pointer (some ⟨9,129,none⟩),.pointer (some ⟨w.heap.size,0,none⟩),.int .u64 150] 162)).alloc (.cells #[.int .i64 n] 44)).setCell t (.int .i64 n):=by
 have h6 := @run_callFunc_extern Tryz.prog 81 _ (fun args => ReflectliteValue.unpack (args.getD 0 (.tuple #[]))) Tryz.func81 (by kernel_rfl) (by kernel_rfl) (by kernel_rfl) (by kernel_rfl);have h7 := @run_callFunc_extern Tryz.prog 82 _ (ReflectliteValue.methodAny (ReflectliteValue.valueError "reflectlite.Value.Type" 0) (fun t _ _ _ => ReflectliteType.toType t)) Tryz.func82 (by kernel_rfl) (by kernel_rfl) (by kernel_rfl) (by kernel_rfl);have h8 := @run_callFunc_extern Tryz.prog 83 _ (ReflectliteValue.method (ReflectliteValue.valueError "reflectlite.Value.IsNil" 0) ReflectliteValue.isNil) Tryz.func83 (by kernel_rfl) (by kernel_rfl) (by kernel_rfl) (by kernel_rfl);have h27 := @run_callFunc_extern Tryz.prog 360 _ (ReflectliteType.abiMethod fun t => do pure (.int .u8 (← Rtype.kind t))) Tryz.func360 (by kernel_rfl) (by kernel_rfl) (by kernel_rfl) (by kernel_rfl);have h37 := @run_callFunc_extern Tryz.prog 372 _ (ReflectliteType.method ReflectliteType.elem) Tryz.func372 (by kernel_rfl) (by kernel_rfl) (by kernel_rfl) (by kernel_rfl);have h38 := @run_callFunc_extern Tryz.prog 373 _ (ReflectliteType.relation "Implements" ReflectliteType.implements_) Tryz.func373 (by kernel_rfl) (by kernel_rfl) (by kernel_rfl) (by kernel_rfl);have Dz := @run_callFunc_extern Tryz.prog 141 _ ReflectliteType.typeOf Tryz.func141 (by kernel_rfl) (by kernel_rfl) (by kernel_rfl) (by kernel_rfl);have h35 := @run_callFunc_extern Tryz.prog 370 _ (ReflectliteType.relation "AssignableTo" ReflectliteType.assignableTo) Tryz.func370 (by kernel_rfl) (by kernel_rfl) (by kernel_rfl) (by kernel_rfl);have Hw := @run_callFunc_extern Tryz.prog 142 _ (ReflectliteValue.method (ReflectliteValue.valueError "reflectlite.Value.Elem" 0) ReflectliteValue.elem) Tryz.func142 (by kernel_rfl) (by kernel_rfl) (by kernel_rfl) (by kernel_rfl);have Nj := @run_callFunc_extern Tryz.prog 143 _ ReflectliteValue.set Tryz.func143 (by kernel_rfl) (by kernel_rfl) (by kernel_rfl) (by kernel_rfl);have tO := Gs;have tO2 := Gq;have ta80x247 := Sq;have ta80x250 := Sr;have ta80x252 := Ss;have mU := C4;have mA := zd;have a25 := tq;have a26 := iZ;have v25 := Ce;have f6 := yL;have f7 := type129;have mK := oU;have mE := oT;have mI := cM;have k27 := J8;have k25 := Ps;have e27 := JE;have i25 := pW;have n8 := EV ⟨w.heap.size, 0, none⟩ t ((w.alloc (.cells #[.pointer (some t)] 129)).alloc (.cells #[.pointer (some ⟨9, 129, none⟩), .pointer (some ⟨w.heap.size, 0, none⟩), .int .u64 150] 162)) Zs;have aI : 0 < w.heap.size := by
  exact zD5
 have hg2:((w.alloc (.cells #[.pointer (some t)] 129)).alloc (.cells #[.pointer (some ⟨9,129,none⟩),.pointer (some ⟨w.heap.size,0,none⟩),.int .u64 150] 162)).cell? ⟨0,0,none⟩=some (.iface 242 (.agg #[.pointer (some ⟨9,50,none⟩)])):=by
  exact zCN
 have tI:t.block < w.heap.size:=by
  exact zCG
 have el:=Eh ⟨w.heap.size,0,none⟩ t (((w.alloc (.cells #[.pointer (some t)] 129)).alloc (.cells #[.pointer (some ⟨9,129,none⟩),.pointer (some ⟨w.heap.size,0,none⟩),.int .u64 150] 162)).alloc (.cells #[.pointer (some ⟨9,129,none⟩),.pointer (some ⟨w.heap.size,0,none⟩),.int .u64 150] 162)) (by rw[World.cell?_alloc_lt _ _ ⟨w.heap.size,0,none⟩ tj];simp);have st:=KP t ⟨w.heap.size+1+1+1,0,none⟩ n old ((((w.alloc (.cells #[.pointer (some t)] 129)).alloc (.cells #[.pointer (some ⟨9,129,none⟩),.pointer (some ⟨w.heap.size,0,none⟩),.int .u64 150] 162)).alloc (.cells #[.pointer (some ⟨9,129,none⟩),.pointer (some ⟨w.heap.size,0,none⟩),.int .u64 150] 162)).alloc (.cells #[.int .i64 n] 44))
  (by rw[World.cell?_alloc_at _ _ _ _ Zs];rfl)
  Zav
  Zaw
 have hexl:e.block < w.heap.size:=by
  rcases Nat.lt_or_ge e.block w.heap.size with h|h
  ·exact h
  ·simp[World.cell?,Array.getElem?_eq_none h]at he
 have hex:(((w.alloc (.cells #[.pointer (some t)] 129)).alloc (.cells #[.pointer (some ⟨9,129,none⟩),.pointer (some ⟨w.heap.size,0,none⟩),.int .u64 150] 162)).alloc (.cells #[.pointer (some ⟨9,129,none⟩),.pointer (some ⟨w.heap.size,0,none⟩),.int .u64 150] 162)).cell? ⟨e.block,e.off+2,none⟩=some (.iface 44 (.int .i64 n)):=by
  rw[World.cell?_alloc_lt _ _ ⟨e.block,e.off+2,none⟩ tj,World.cell?_alloc_lt _ _ ⟨e.block,e.off+2,none⟩ tj,World.cell?_alloc_lt _ _ ⟨e.block,e.off+2,none⟩ hexl];exact he
 go_enter Tryz.func33,Tryz.ntmps33
 go_wp2
 refine wp_loop_rounds 2 ?_;rw[rounds_succ]
 go_wp2
 rw[rounds_succ]
 go_wp2
 go_ret
 exact⟨rfl,rfl⟩
open Go Go.V
def YQ:kB:=.cell 0 0 (.iface 242 (.agg #[.pointer (some ⟨9,50,none⟩)]))
theorem bW {w:World}{b o:Nat}{v:Value}(h:(kB.cell b o v).holds w):w.cell? ⟨b,o,none⟩=some v:=by
 obtain⟨c,t,lo,hi,hb,hc,hf⟩:=h;simp[World.cell?,hb,hc]
def flP(b:Nat):Value:=.iface 80 (kE b)
section
variable (A:List kB) (hE:YQ∈A)
include hE
theorem Tt(k:Nat)(b:Nat)(old:Value):ao Tryz.prog 33 [flP k,.iface 82 (kE b)] [A,kA b 0 [old]] (fun u Post=>u=.bool true/\Post=[A,kA b 0 [kE k]]):=
 ao.IB (by kernel_rfl) fun w hA h1 h2=>(TT ⟨k,0,none⟩ ⟨b,0,none⟩ old w (bW (hA _ hE)) h1 h2).mono fun _ _ ⟨h,h'⟩=>⟨h,[_,_,_,_],h'⟩
theorem As_num(n:Int)(b:Nat)(old:Value):ao Tryz.prog 33 [.iface 44 (.int .i64 n),.iface 129 (kE b)] [A,kA b 0 [old]] (fun u Post=>u=.bool true/\Post=[A,kA b 0 [.int .i64 n]]):=
 ao.IB (by kernel_rfl) fun w hA h1 h2=>(Y7 n ⟨b,0,none⟩ old w (bW (hA _ hE)) h1 h2).mono fun _ _ ⟨h,h'⟩=>⟨h,[_,_,_,_],h'⟩
theorem As_in(k:Nat)(n:Int)(hk:kB.cell k 2 (.iface 44 (.int .i64 n))∈A)(b:Nat)(old:Value):ao Tryz.prog 33 [flP k,.iface 129 (kE b)] [A,kA b 0 [old]] (fun u Post=>u=.bool true/\Post=[A,kA b 0 [.int .i64 n]]):=
 ao.IB (by kernel_rfl) fun w hA h1 h2=>(as_in ⟨k,0,none⟩ ⟨b,0,none⟩ n old w (bW (hA _ hE)) h1 h2 (bW (hA _ hk)) rfl).mono fun _ _ ⟨h,h'⟩=>⟨h,[_,_,_,_],h'⟩
end
noncomputable def F16:aR:=bj (o:=gF pq Tryz.f16 [])
theorem n16:F16.n=21:=rfl
theorem low16:bi Tryz.prog 16 []=some F16:=by kernel_rfl
noncomputable def F136:aR:=bj (o:=gF pq Tryz.f136 [])
theorem n136:F136.n=12:=rfl
theorem low136:bi Tryz.prog 136 []=some F136:=by kernel_rfl
noncomputable def F70:aR:=bj (o:=gF pq Tryz.f70 [(20,[[0,1,2,3,4,5,6,7,8,9,10,11,12,13,14,15,16,17,18,19,20,21,22,23]])])
theorem n70:F70.n=94:=rfl
theorem low70:bi Tryz.prog 70 [(20,[[0,1,2,3,4,5,6,7,8,9,10,11,12,13,14,15,16,17,18,19,20,21,22,23]])]=some F70:=by kernel_rfl
noncomputable def F26:aR:=bj (o:=gF pq Tryz.f26 [])
theorem n26:F26.n=13:=rfl
theorem low26:bi Tryz.prog 26 []=some F26:=by kernel_rfl
noncomputable def F208:aR:=bj (o:=gF pq Tryz.f208 [(6,[[0,1,2,3,4,5,6,7],[0,2,3,1,4,5,6,7]])])
theorem n208:F208.n=24:=rfl
theorem low208:bi Tryz.prog 208 [(6,[[0,1,2,3,4,5,6,7],[0,2,3,1,4,5,6,7]])]=some F208:=by kernel_rfl
noncomputable def F113:aR:=bj (o:=gF pq Tryz.f113 [])
theorem n113:F113.n=10:=rfl
theorem low113:bi Tryz.prog 113 []=some F113:=by kernel_rfl
noncomputable def F111:aR:=bj (o:=gF pq Tryz.f111 [])
theorem n111:F111.n=21:=rfl
theorem low111:bi Tryz.prog 111 []=some F111:=by kernel_rfl
noncomputable def F232:aR:=bj (o:=gF pq Tryz.f232 [(5,[[0,1,2,3,4,5,6,7,8,9,10,11,12,13,14,15,16,17],[0,1,2,3,4,5,6,7,8,9,10,11,12,15,13,14,16,17]])])
theorem n232:F232.n=45:=rfl
theorem low232:bi Tryz.prog 232 [(5,[[0,1,2,3,4,5,6,7,8,9,10,11,12,13,14,15,16,17],[0,1,2,3,4,5,6,7,8,9,10,11,12,15,13,14,16,17]])]=some F232:=by kernel_rfl
noncomputable def F115:aR:=bj (o:=gF pq Tryz.f115 [])
theorem n115:F115.n=19:=rfl
theorem low115:bi Tryz.prog 115 []=some F115:=by kernel_rfl
noncomputable def F116:aR:=bj (o:=gF pq Tryz.f116 [(2,[[0,1,2,3,4,5,6,7,8,9,10,11,12],[0,1,2,3,5,6,7,8,9,10,4,11,12]]),(5,[[0,1,2,3,4,5,6,7,8,9,10,11]])])
theorem n116:F116.n=39:=rfl
theorem low116:bi Tryz.prog 116 [(2,[[0,1,2,3,4,5,6,7,8,9,10,11,12],[0,1,2,3,5,6,7,8,9,10,4,11,12]]),(5,[[0,1,2,3,4,5,6,7,8,9,10,11]])]=some F116:=by kernel_rfl
noncomputable def F175:aR:=bj (o:=gF pq Tryz.f175 [(2,[[0,1,2,3,4,5,6,7,8,9,10,11,12]]),(4,[[0,1,2,3,4,5,6,7,8,9,10,11,12],[0,1,2,3,4,5,7,8,9,10,6,11,12]]),(5,[[0,1,2,3,4,5,6,7,8,9,10,11,12,13,14,15,16,17]])])
theorem n175:F175.n=57:=rfl
theorem low175:bi Tryz.prog 175 [(2,[[0,1,2,3,4,5,6,7,8,9,10,11,12]]),(4,[[0,1,2,3,4,5,6,7,8,9,10,11,12],[0,1,2,3,4,5,7,8,9,10,6,11,12]]),(5,[[0,1,2,3,4,5,6,7,8,9,10,11,12,13,14,15,16,17]])]=some F175:=by kernel_rfl
noncomputable def F117:aR:=bj (o:=gF pq Tryz.f117 [(5,[[0,1,2,3,4,5,6,7,8],[0,2,3,4,1,5,6,7,8]]),(10,[[0,1,2,3,4,5,6,7,8],[0,2,3,4,1,5,6,7,8]])])
theorem n117:F117.n=45:=rfl
theorem low117:bi Tryz.prog 117 [(5,[[0,1,2,3,4,5,6,7,8],[0,2,3,4,1,5,6,7,8]]),(10,[[0,1,2,3,4,5,6,7,8],[0,2,3,4,1,5,6,7,8]])]=some F117:=by kernel_rfl
noncomputable def F174:aR:=bj (o:=gF pq Tryz.f174 [(4,[[0,1,2,3,4,5]])])
theorem n174:F174.n=19:=rfl
theorem low174:bi Tryz.prog 174 [(4,[[0,1,2,3,4,5]])]=some F174:=by kernel_rfl
noncomputable def F108:aR:=bj (o:=gF pq Tryz.f108 [])
theorem n108:F108.n=34:=rfl
theorem low108:bi Tryz.prog 108 []=some F108:=by kernel_rfl
noncomputable def F209:aR:=bj (o:=gF pq Tryz.f209 [(17,[[0,1,2,3,4,5,6,7,8,9,10,11]]),(20,[[0,1,2,3,4,5,6,7]])])
theorem n209:F209.n=78:=rfl
theorem low209:bi Tryz.prog 209 [(17,[[0,1,2,3,4,5,6,7,8,9,10,11]]),(20,[[0,1,2,3,4,5,6,7]])]=some F209:=by kernel_rfl
noncomputable def F112:aR:=bj (o:=gF pq Tryz.f112 [])
theorem n112:F112.n=28:=rfl
theorem low112:bi Tryz.prog 112 []=some F112:=by kernel_rfl
noncomputable def F49:aR:=bj (o:=gF pq Tryz.f49 [(3,[[0,1,2,3,4,5,6,7,8,9,10]]),(6,[[0,1,2,3,4,5,6,7,8,9],[1,2,3,4,5,6,0,7,8,9]])])
theorem n49:F49.n=60:=rfl
theorem low49:bi Tryz.prog 49 [(3,[[0,1,2,3,4,5,6,7,8,9,10]]),(6,[[0,1,2,3,4,5,6,7,8,9],[1,2,3,4,5,6,0,7,8,9]])]=some F49:=by kernel_rfl
noncomputable def F109:aR:=bj (o:=gF pq Tryz.f109 [])
theorem n109:F109.n=8:=rfl
theorem low109:bi Tryz.prog 109 []=some F109:=by kernel_rfl
noncomputable def F110:aR:=bj (o:=gF pq Tryz.f110 [])
theorem n110:F110.n=6:=rfl
theorem low110:bi Tryz.prog 110 []=some F110:=by kernel_rfl
noncomputable def F231:aR:=bj (o:=gF pq Tryz.f231 [(6,[[0,1,2,3],[0,2,1,3]])])
theorem n231:F231.n=37:=rfl
theorem low231:bi Tryz.prog 231 [(6,[[0,1,2,3],[0,2,1,3]])]=some F231:=by kernel_rfl
noncomputable def F251:aR:=bj (o:=gF pq Tryz.f251 [])
theorem n251:F251.n=8:=rfl
theorem low251:bi Tryz.prog 251 []=some F251:=by kernel_rfl
noncomputable def F252:aR:=bj (o:=gF pq Tryz.f252 [])
theorem n252:F252.n=15:=rfl
theorem low252:bi Tryz.prog 252 []=some F252:=by kernel_rfl
noncomputable def F207:aR:=bj (o:=gF pq Tryz.f207 [(10,[[0,1,2,3,4,5,6,7,8,9,10],[0,2,3,4,5,6,1,7,8,9,10]])])
theorem n207:F207.n=85:=rfl
theorem low207:bi Tryz.prog 207 [(10,[[0,1,2,3,4,5,6,7,8,9,10],[0,2,3,4,5,6,1,7,8,9,10]])]=some F207:=by kernel_rfl
noncomputable def F172:aR:=bj (o:=gF pq Tryz.f172 [(29,[[0,1,2,3,4,5,6,7],[0,2,3,4,1,5,6,7]]),(8,[[0,1,2,3,4,5,6,7],[0,2,3,4,1,5,6,7]]),(10,[[0,1,2,3,4,5]])])
theorem n172:F172.n=158:=rfl
theorem low172:bi Tryz.prog 172 [(29,[[0,1,2,3,4,5,6,7],[0,2,3,4,1,5,6,7]]),(8,[[0,1,2,3,4,5,6,7],[0,2,3,4,1,5,6,7]]),(10,[[0,1,2,3,4,5]])]=some F172:=by kernel_rfl
noncomputable def F114:aR:=bj (o:=gF pq Tryz.f114 [(22,[[0,1,2,3,4,5,6]]),(23,[[0,1,2,3,4,5,6,7,8,9,10],[1,0,2,3,4,5,6,7,8,9,10],[1,2,3,4,0,5,6,7,8,9,10],[1,2,3,4,5,6,0,7,8,9,10],[1,2,3,4,5,6,7,0,8,9,10],[0,1,2,3,5,6,4,7,8,9,10],[1,0,2,3,5,6,4,7,8,9,10],[1,2,3,5,6,0,4,7,8,9,10],[1,2,3,5,6,4,0,7,8,9,10],[1,2,3,5,6,4,7,0,8,9,10],[0,5,6,1,2,3,4,7,8,9,10],[5,6,0,1,2,3,4,7,8,9,10],[5,6,1,0,2,3,4,7,8,9,10],[5,6,1,2,3,4,0,7,8,9,10],[5,6,1,2,3,4,7,0,8,9,10]])])
theorem n114:F114.n=111:=rfl
theorem low114:bi Tryz.prog 114 [(22,[[0,1,2,3,4,5,6]]),(23,[[0,1,2,3,4,5,6,7,8,9,10],[1,0,2,3,4,5,6,7,8,9,10],[1,2,3,4,0,5,6,7,8,9,10],[1,2,3,4,5,6,0,7,8,9,10],[1,2,3,4,5,6,7,0,8,9,10],[0,1,2,3,5,6,4,7,8,9,10],[1,0,2,3,5,6,4,7,8,9,10],[1,2,3,5,6,0,4,7,8,9,10],[1,2,3,5,6,4,0,7,8,9,10],[1,2,3,5,6,4,7,0,8,9,10],[0,5,6,1,2,3,4,7,8,9,10],[5,6,0,1,2,3,4,7,8,9,10],[5,6,1,0,2,3,4,7,8,9,10],[5,6,1,2,3,4,0,7,8,9,10],[5,6,1,2,3,4,7,0,8,9,10]])]=some F114:=by kernel_rfl
noncomputable def F173:aR:=bj (o:=gF pq Tryz.f173 [])
theorem n173:F173.n=4:=rfl
theorem low173:bi Tryz.prog 173 []=some F173:=by kernel_rfl
noncomputable def F210:aR:=bj (o:=gF pq Tryz.f210 [])
theorem n210:F210.n=19:=rfl
theorem low210:bi Tryz.prog 210 []=some F210:=by kernel_rfl
noncomputable def F50:aR:=bj (o:=gF pq Tryz.f50 [(12,[[0,1,2,3,4,5,6,7,8,9,10,11,12,13,14,15,16,17,18]]),(14,[[0,1,2,3,4,5,6,7,8,9,10,11,12,13,14,15,16,17]]),(20,[[0,1,2,3,4,5,6,7,8,9,10,11,12],[0,2,3,4,5,6,7,1,8,9,10,11,12]]),(25,[[0,1,2,3,4,5,6,7,8],[0,2,3,4,1,5,6,7,8]])])
theorem n50:F50.n=145:=rfl
theorem low50:bi Tryz.prog 50 [(12,[[0,1,2,3,4,5,6,7,8,9,10,11,12,13,14,15,16,17,18]]),(14,[[0,1,2,3,4,5,6,7,8,9,10,11,12,13,14,15,16,17]]),(20,[[0,1,2,3,4,5,6,7,8,9,10,11,12],[0,2,3,4,5,6,7,1,8,9,10,11,12]]),(25,[[0,1,2,3,4,5,6,7,8],[0,2,3,4,1,5,6,7,8]])]=some F50:=by kernel_rfl
def F15:DIR:=Ba (X:=⟨83,[.aS 6 3,.bT 7],[(.lE [qB 3 25 0,qo 6 (.alloc 43 Ne1),
 qo 7 (.alloc 50 [Value.nilIface])] [1,2,3,6,7]),(qS [qN 16 5 3,qx 17 47 [16],qm 8 17] [1,2,3,6,7,8] (qS [qm 18 8,qc 19 .neq 18 0] [1,2,3,6,7,8,19] (qC 19 (qS [qo 20 (.build Ne1 []),qm 21 8,qo 22 (.E2 44 (.tmp 21)),
 qo 23 (.build [.string ⟨#[]⟩,.int .i64 0,Value.nilIface] [(0,1,(.const (.string ⟨#[82,101,115,111,108,118,101]⟩))),(2,1,(.tmp 22))]),
 qB 24 84 23,qo 25 (.E2 80 (.tmp 24)),qs 3 6 20,qs 1 7 25] [6,7] .ret) .skip)))],⟨26,48,[(.tmp 6),(.tmp 7)]⟩,(qS [qo 27 (.og),qo 28 (.og),
 qo 29 (.build [(Value.map none),(Value.map none),.slice none 0 0] [(0,1,(.tmp 27)),(1,1,(.tmp 28))]),qB 30 122 29,qm 9 30] [1,2,3,6,7,9] (.seq (qS [qm 31 1,qL 32 31,qk 33 0] [2,3,6,7,9,31,32,33] (.block 0 (.loop (qS [qb 34 .lss 33 32] [2,3,6,7,9,31,32,33,34] (.seq (qC 34 .skip (.exit 0)) (.seq (.block 1 (qS [qm 35 33,qi 36 1 31 33,ql 37 36,qm 10 35,qm 11 37] [2,3,6,7,9,10,11,31,32,33] (qS [qm 39 9,qn 40 39,qf 41 0 40,ql 42 41,qm 43 11,qo 44 (.lookup .str (.int .i64 0) true (.tmp 42) (.tmp 43)),qm 38 44,
 qe 45 38 0,qe 46 38 1,qm 12 45,qm 13 46] [2,3,6,7,9,10,11,13,31,32,33] (qS [qm 47 13,qo 48 (.un .not (.tmp 47))] [2,3,6,7,9,10,11,31,32,33,48] (qC 48 (.lE [qm 49 9,qn 50 49,qf 51 0 50,ql 52 51,qm 53 11,qm 54 10,⟨none,none,.xP .str (.tmp 52) (.tmp 53) (.tmp 54)⟩] [2,3,6,7,9,31,32,33]) .skip))))) (.lE [qc 55 .add 33 1,qm 33 55] [2,3,6,7,9,31,32,33]))))))) (.seq (qS [qm 56 2,qL 57 56,qk 58 0] [3,6,7,9,56,57,58] (.block 2 (.loop (qS [qb 59 .lss 58 57] [3,6,7,9,56,57,58,59] (.seq (qC 59 .skip (.exit 2)) (.seq (.block 3 (qS [qi 60 1 56 58,ql 61 60,qm 15 61] [3,6,7,9,15,56,57,58] (.lE [qm 62 9,qn 63 62,qf 64 1 63,ql 65 64,qm 66 15,qo 67 (.lookup .str (.int .i64 0) false (.tmp 65) (.tmp 66)),
 qc 68 .add 67 1,⟨none,none,.xP .str (.tmp 65) (.tmp 66) (.tmp 68)⟩] [3,6,7,9,56,57,58]))) (.lE [qc 69 .add 58 1,qm 58 69] [3,6,7,9,56,57,58]))))))) (qS [qm 70 9,qf 71 1 3,ql 72 71,qf 73 2 3,ql 74 73,qf 75 4 3,ql 76 75,
 qo 77 (.build [.int .u8 0,.string ⟨#[]⟩,.int .u8 0,.int .i64 0,.int .u64 0,.string ⟨#[]⟩,.slice none 0 0,.slice none 0 0,.slice none 0 0,.slice none 0 0,.int .i64 0] [(7,1,(.tmp 72)),(8,1,(.tmp 74)),(9,1,(.tmp 76))]),
 qo 78 (.og),qo 79 (.call 49 [(.tmp 70),(.tmp 77),(.const (.pointer none)),(.tmp 78)])] [3,6,7,9] (qS [qm 80 9,qN 81 5 3,qx 82 50 [80,81],qs 3 6 82,⟨none,none,.store 1 (.tmp 7) (.const Value.nilIface)⟩] [6,7] .ret)))))⟩)
theorem n15:F15.n=83:=rfl
theorem low15:Ka Tryz.prog (assoc [(0,[1,2,3,6,7]),(1,[1,2,3,6,7,8]),(2,[1,2,3,6,7,8,19]),(3,[6,7]),(4,[1,2,3,6,7]),(5,[1,2,3,6,7,9]),(6,[2,3,6,7,9,31,32,33]),(7,[2,3,6,7,9,31,32,33,34]),(8,[2,3,6,7,9,10,11,31,32,33]),(9,[2,3,6,7,9,10,11,13,31,32,33]),(10,[2,3,6,7,9,10,11,31,32,33,48]),(11,[2,3,6,7,9,31,32,33]),(12,[2,3,6,7,9,31,32,33]),(13,[3,6,7,9,56,57,58]),(14,[3,6,7,9,56,57,58,59]),(15,[3,6,7,9,15,56,57,58]),(16,[3,6,7,9,56,57,58]),(17,[3,6,7,9,56,57,58]),(18,[3,6,7,9]),(19,[6,7])]) (assoc []) 15=some F15:=by kernel_rfl
def F48:RIR:=Ba (X:=⟨13,[],5,[qo 6 (.fS 80 (.pointer none) true (.tmp 5)),qm 4 6,qe 7 4 0,qe 8 4 1,qm 2 7,qm 3 8],(qS [qm 9 3] [0,1,2,9] (qC 9 (.lE [qo 10 (.build Ne1 []),qm 11 2,qo 12 (.E2 80 (.tmp 11)),
 qs 3 0 10,qs 1 1 12] []) .skip))⟩)
theorem n48:F48.n=13:=rfl
theorem Yx:Kb Tryz.prog (assoc [(0,[0,1,2,3]),(1,[0,1,2,9]),(2,[])]) (assoc []) 48=some F48:=by kernel_rfl
noncomputable def F27:aR:=bj (o:=gF pq Tryz.f27 [])
theorem n27:F27.n=14:=rfl
theorem low27:bi Tryz.prog 27 []=some F27:=by kernel_rfl
noncomputable def F71:aR:=bj (o:=gF pq Tryz.f71 [(9,[[0,1,2,3,4,5,6,7],[0,1,3,4,2,5,6,7]])])
theorem n71:F71.n=70:=rfl
theorem low71:bi Tryz.prog 71 [(9,[[0,1,2,3,4,5,6,7],[0,1,3,4,2,5,6,7]])]=some F71:=by kernel_rfl
end Go.Proofs.YtijnokbblmbpkaaGreatDoor
namespace Go.V
open Go
structure eQ where
 name:ByteArray
 unit:Nat
 arg:Bool
 own:Int
structure zV where
 kind:Nat
 index:Int
 slot:Int
 name:ByteArray
inductive PN where
 |mk (kind:Nat) (name:ByteArray) (lit:Lt) (refs:List zV) (unit:Int) (super:Bool) (kids:List PN)
def PN.kind:PN->Nat|.mk k _ _ _ _ _ _=>k
def PN.name:PN->ByteArray|.mk _ s _ _ _ _ _=>s
def PN.lit:PN->Lt|.mk _ _ l _ _ _ _=>l
def PN.refs:PN->List zV|.mk _ _ _ r _ _ _=>r
def PN.unit:PN->Int|.mk _ _ _ _ u _ _=>u
def PN.super:PN->Bool|.mk _ _ _ _ _ b _=>b
def PN.kids:PN->List PN|.mk _ _ _ _ _ _ l=>l
def PN.ym(b:Bool):PN->PN|.mk k s l r u _ ks=>.mk k s l r u b ks
structure ah where
 vars:List eQ
 outer:List Int
 args:List Nat
 uses:List (Nat×Nat)
 bodies:List (List PN)
 f:Option (Nat×Int)
def e0:ByteArray:=⟨#[]⟩
def ij:Lt:=.mk 0 0 0 e0 []
def ah.wrong(st:ah)(e:Nat)(at_:Int):ah:=if st.f.isNone then {st with f:=some (e,at_)}else st
def YE:ByteArray:=⟨#[105,102,84,114,117,101,58]⟩
def YD:ByteArray:=⟨#[105,102,70,97,108,115,101,58]⟩
def Yz:ByteArray:=⟨#[97,110,100,58]⟩
def nmOr:ByteArray:=⟨#[111,114,58]⟩
def nmTF:ByteArray:=⟨#[105,102,84,114,117,101,58,105,102,70,97,108,115,101,58]⟩
def nmFT:ByteArray:=⟨#[105,102,70,97,108,115,101,58,105,102,84,114,117,101,58]⟩
def YG:ByteArray:=⟨#[119,104,105,108,101,84,114,117,101,58]⟩
def YF:ByteArray:=⟨#[119,104,105,108,101,70,97,108,115,101,58]⟩
def nmWT:ByteArray:=⟨#[119,104,105,108,101,84,114,117,101]⟩
def nmWF:ByteArray:=⟨#[119,104,105,108,101,70,97,108,115,101]⟩
def nmTo:ByteArray:=⟨#[116,111,58,100,111,58]⟩
def kb(s:ByteArray):Nat:=
 if s=YE∨s=YD∨s=Yz∨s=nmOr then 1
 else if s=nmTF∨s=nmFT then 2
 else if s=YG∨s=YF then 3
 else if s=nmWT∨s=nmWF then 4
 else if s=nmTo then 5 else 0
def jK(x:Nd):Bool:=decide (x.kind=7)&&decide (x.args.length=0)
def jM:List Nd->Bool
 |r::_=>jh r
 |[]=>false
def zl(n:Nat)(kids:List Nd):Bool:=
 match n with
 |1=>match kids with|[_,b]=>jK b|_=>false
 |2=>match kids with|[_,b,c]=>jK b&&jK c|_=>false
 |3=>match kids with|[a,b]=>jK a&&jK b|_=>false
 |4=>match kids with|[a]=>jK a|_=>false
 |5=>match kids with|[_,_,b]=>decide (b.kind=7)&&decide (b.args.length=1)|_=>false
 |_=>false
def fD(k:Nat)(s:ByteArray)(kids:List Nd):Bool:=decide (k=4)&&!jM kids&&zl (kb s) kids
def wM(x:Nd):Bool:=fD x.kind x.name x.kids
def dX(s:ByteArray)(i:Nat):Bool:=
 match kb s with
 |3=>true
 |4=>true
 |5=>decide (i=2)
 |_=>decide (0 < i)
def iL(s:ByteArray):Nat:=match kb s with|3=>12|4=>12|5=>13|_=>11
def iM(s:ByteArray):ByteArray:=if kb s=5 then e0 else s
def x5:ByteArray:=⟨#[115,101,108,102]⟩
def nj:ByteArray:=⟨#[115,117,112,101,114]⟩
def Fb:ByteArray:=⟨#[110,105,108]⟩
def x6:ByteArray:=⟨#[116,114,117,101]⟩
def qd:ByteArray:=⟨#[102,97,108,115,101]⟩
def wS(s:ByteArray):Nat:=if s=x5∨s=nj then 1 else if s=Fb then 2 else if s=x6 then 3 else if s=qd then 4 else 0
def jt(vs:List eQ)(env:List Nat)(nm:ByteArray):Option Nat:=env.reverse.find? fun v=>decide ((vs[v]?).map (·.name)=some nm)
def dL(v:Nat):zV:=⟨99,v,0,e0⟩
def kO(unit:Nat)(arg own:Bool)(at_:Int):List ByteArray->Nat->ah->List Nat->ah×List Nat
 |[],_,st,env=>(st,env)
 |nm::r,i,st,env=>
  kO unit arg own at_ r (i+1) {(if(jt st.vars env nm).isSome then st.wrong 180 at_ else st)with vars:=st.vars++[⟨nm,unit,arg,if arg&&own then i else -1⟩]} (env++[st.vars.length])
def wF(F G:List ByteArray)(st:ah)(env:List Nat)(nm:ByteArray)(u:Nat)(at_:Int)(put:Bool):zV×ah:=
 if wS nm≠0 then(⟨wS nm,0,0,e0⟩,st)
 else match jt st.vars env nm with
  |some v=>(dL v,{(if put&&((st.vars[v]?).map (·.arg)).getD false then st.wrong 182 at_ else st)with uses:=st.uses++[(u,v)]})
  |none=>match F.findIdx? (fun s=>decide (s=nm))with
   |some i=>(⟨7,i,0,e0⟩,st)
   |none=>(⟨8,0,0,nm⟩,if G.any (fun s=>decide (s=nm))then st else st.wrong 181 at_)
def zK(b:Bool):List PN->List PN
 |x::r=>x::r.map (PN.ym b)
 |[]=>[]
mutual
def jF(F G:List ByteArray):Nd->ah->List Nat->Nat->PN×ah
 |.mk k s lit args ab kids p,st,env,u=>
  if fD k s kids then
   match jB F G s kids 0 st env u with
   |(ks,rs,bJ)=>(.mk (iL s) (iM s) ij rs 0 false ks,bJ)
  else if k=1 then(.mk 1 e0 lit [] 0 false [],st)
  else if k=2 then
   match wF F G st env s u p false with
   |(r,bJ)=>(.mk 2 e0 ij [r] 0 false [],bJ)
  else if k=3 then
   match wF F G st env s u p true with
   |(r,bJ)=>match kT F G kids bJ env u with
    |(ks,MV)=>(.mk 3 e0 ij [r] 0 false ks,MV)
  else if k=7 then
   match kO st.outer.length true true p args 0 {st with outer:=st.outer++[(u:Int)],args:=st.args++[args.length],bodies:=st.bodies++[[]]} env with
   |(bJ,Aa)=>match kO st.outer.length false true p ab 0 bJ Aa with
    |(MV,Ol)=>match kT F G kids MV Ol st.outer.length with
     |(b,st3)=>(.mk 8 e0 ij [] st.outer.length false [],{st3 with bodies:=st3.bodies.set st.outer.length b})
  else if k=8 then match kT F G kids st env u with|(ks,bJ)=>(.mk 9 e0 ij [] 0 false ks,bJ)
  else if k=9 then match kT F G kids st env u with|(ks,bJ)=>(.mk 10 e0 ij [] 0 false ks,bJ)
  else if k=6 then match kT F G kids st env u with|(ks,bJ)=>(.mk 7 s ij [] 0 false ks,bJ)
  else if k=5 then match kT F G kids st env u with|(ks,bJ)=>(.mk 6 e0 ij [] 0 false (zK (jM kids) ks),bJ)
  else if jM kids then match kids with
   |[]=>(.mk 5 s ij [] 0 false [],st)
   |_::r=>match kT F G r st env u with|(ks,bJ)=>(.mk 5 s ij [] 0 false ks,bJ)
  else match kT F G kids st env u with|(ks,bJ)=>(.mk 4 s ij [] 0 false ks,bJ)
def kT(F G:List ByteArray):List Nd->ah->List Nat->Nat->List PN×ah
 |[],st,_,_=>([],st)
 |x::r,st,env,u=>
  match jF F G x st env u with
  |(q,bJ)=>match kT F G r bJ env u with
   |(qs,MV)=>(q::qs,MV)
def jB(F G:List ByteArray)(s:ByteArray):List Nd->Nat->ah->List Nat->Nat->List PN×List zV×ah
 |[],_,st,_,_=>([],[],st)
 |x::r,i,st,env,u=>
  if dX s i then
   match cH F G x st env u with
   |(q,bJ)=>match jB F G s r (i+1) bJ env u with
    |(qs,fs,MV)=>(q::qs,(if kb s=5 then dL st.vars.length::fs else fs),MV)
  else match jF F G x st env u with
   |(q,bJ)=>match jB F G s r (i+1) bJ env u with
    |(qs,fs,MV)=>(q::qs,fs,MV)
def cH(F G:List ByteArray):Nd->ah->List Nat->Nat->PN×ah
 |.mk _ _ _ args ab kids p,st,env,u=>
  match kO u true false p args 0 st env with
  |(bJ,Aa)=>match kO u false false p ab 0 bJ Aa with
   |(MV,Ol)=>match kT F G kids MV Ol u with
    |(ks,st3)=>(.mk 14 e0 ij ((List.range' bJ.vars.length ab.length).map dL) 0 false ks,st3)
end
def oj(F G:List ByteArray)(args ab:List ByteArray)(kids:List Nd)(p:Int)(st:ah)(env:List Nat)(o:Int):ah:=
 match kO st.outer.length true true p args 0 {st with outer:=st.outer++[o],args:=st.args++[args.length],bodies:=st.bodies++[[]]} env with
 |(bJ,Aa)=>match kO st.outer.length false true p ab 0 bJ Aa with
  |(MV,Ol)=>match kT F G kids MV Ol st.outer.length with
   |(b,st3)=>{st3 with bodies:=st3.bodies.set st.outer.length b}
def qK:ah:=⟨[],[],[],[],[],none⟩
def s8(F G:List ByteArray)(args ab:List ByteArray)(kids:List Nd):ah:=oj F G args ab kids 0 qK [] (-1)
def yK(outer:List Int):Nat->Int->List Nat
 |0,_=>[]
 |n+1,u=>if u < 0 then []else u.toNat::yK outer n (outer.getD u.toNat (-1))
def ah.line(st:ah)(u:Nat):List Nat:=yK st.outer (st.outer.length+1) u
def ah.af(st:ah)(v:Nat):Nat:=((st.vars[v]?).map (·.unit)).getD 0
def ah.bD(st:ah)(v:Nat):Int:=((st.vars[v]?).map (·.own)).getD 0
def ah.rem(st:ah)(v:Nat):Bool:=st.uses.any fun q=>decide (q.2=v)&&decide (st.bD v < 0)&&decide (st.af v≠q.1)
def ah.way(st:ah)(u v:Nat):List Nat:=(st.line u).takeWhile fun w=>decide (w≠st.af v)
def ah.bg(st:ah)(u:Nat)(t:Nat×Int):Bool:=st.uses.any fun q=>decide ((st.af q.2,st.bD q.2)=t)&&decide (u∈st.way q.1 q.2)
def ah.things(st:ah)(o:Nat):List (Nat×Int):=(List.range (st.args.getD o 0+1)).map fun i:Nat=>(o,(i:Int) - 1)
def ah.copied(st:ah)(u:Nat):List (Nat×Int):=((st.line u).drop 1).reverse.flatMap fun o=>(st.things o).filter (st.bg u)
def ah.locals(st:ah)(u:Nat)(r:Bool):List Nat:=(List.range st.vars.length).filter fun v=>decide (st.af v=u)&&decide (st.bD v < 0)&&decide (st.rem v=r)
def mg {α:Type}[DecidableEq α](l:List α)(x:α):Int:=match l.findIdx? (fun y=>decide (y=x))with|some i=>i|none=>-1
def ah.place(st:ah)(u:Nat)(t:Nat×Int):Int:=
 if t.1=u then(if 0<=t.2 then t.2 else st.args.getD u 0+(st.copied u).length+(st.locals u false).length)
 else match(st.copied u).findIdx? (fun y=>decide (y=t))with
  |some i=>st.args.getD u 0+i
  |none=>-1
def ah.known(st:ah)(u v:Nat):zV:=
 if 0<=st.bD v then⟨5,st.place u (st.af v,st.bD v),0,e0⟩
 else if st.rem v then⟨6,st.place u (st.af v,-1),mg (st.locals (st.af v) true) v,e0⟩
 else⟨5,st.args.getD u 0+(st.copied u).length+mg (st.locals u false) v,0,e0⟩
def ah.fix(st:ah)(u:Nat)(r:zV):zV:=if r.kind=99 then st.known u r.index.toNat else r
mutual
def lR(st:ah)(u:Nat):PN->PN
 |.mk k s l rs n b kids=>.mk k s l (rs.map (st.fix u)) n b (pM st u kids)
def pM(st:ah)(u:Nat):List PN->List PN
 |[]=>[]
 |x::r=>lR st u x::pM st u r
end
structure yA where
 outer:Int
 args:Int
 copied:List zV
 locals:Int
 ay:Int
 body:List PN
def ah.aK(st:ah)(u:Nat):yA:=
 ⟨st.outer.getD u (-1),st.args.getD u 0,(st.copied u).map fun t=>⟨5,st.place (st.outer.getD u (-1)).toNat t,0,e0⟩,(st.locals u false).length,(st.locals u true).length,pM st u (st.bodies.getD u [])⟩
def yA.frame(x:yA):Int:=x.args+x.copied.length+x.locals+(if 0 < x.ay then 1 else 0)
def yA.Za(x:yA):Bool:=decide (63 < x.frame)||decide (63 < x.ay)
def ah.answer(st:ah):List yA×Nat×Int:=
 match st.f with
 |some f=>([],f)
 |none=>if 255 < st.outer.length then([],183,0)
  else if((List.range st.outer.length).map st.aK).any yA.Za then([],183,0)
  else((List.range st.outer.length).map st.aK,0,0)
end Go.V

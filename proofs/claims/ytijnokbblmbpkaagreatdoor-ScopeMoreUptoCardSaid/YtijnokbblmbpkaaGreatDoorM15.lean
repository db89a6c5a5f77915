/-
  Contracts out of what a call makes of the world: blocks laid, a cell written.
-/
import Derived.Test.YtijnokbblmbpkaaGreatDoorM9
import Derived.Test.YtijnokbblmbpkaaGreatDoorProg
import Derived.WalkKit
import Derived.LaidEql
import Derived.Stop.Asserts
import Derived.RowKitTokens
import Derived.KernelRfl
set_option linter.all false
namespace Go.V
open Go
theorem Sat.alloc {w:World}{L:List kC}(h:Sat w L)(o:Obj):Sat (w.alloc o) L/\kg w (w.alloc o):=by
 have:=h.push o [] (fun x hx=>by cases hx) Zs;simpa using this
theorem Sat.set {w:World}{L R:List kC}{b off:Nat}{v u:Value}(h:Sat w L)(p:L.Perm (.cell b off v::R)):Sat (w.setCell ⟨b,off,none⟩ u) (.cell b off u::R)/\kg w (w.setCell ⟨b,off,none⟩ u):=(h.perm p).store
theorem Sat.ζ {L:List kC}:∀(os:List Obj) {w:World},Sat w L->Sat (os.foldl World.alloc w) L/\kg w (os.foldl World.alloc w):=by
 intro os
 induction os with
 |nil=>intro w h;exact⟨h,.refl w⟩
 |cons o os ih=>
  intro w h;obtain⟨h1,h2⟩:=h.alloc o;obtain⟨h3,h4⟩:=ih h1;exact⟨h3,h2.trans h4⟩
theorem aw.JA {P:Program}{f:Nat}{args:List Value}{A:List kC}{b o:Nat}{old new v:Value}(hc:wE P f=true)
 (h:∀w,(∀a∈A,a.holds w)->w.cell? ⟨b,o,none⟩=some old->w.frozen? ⟨b,o,none⟩=false->Calls P f args.toArray w fun e w'=>e=.returned v/\∃os:List Obj,w'=(os.foldl World.alloc w).setCell ⟨b,o,none⟩ new):
 aw P f args [A,[.cell b o old]] (fun u Post=>u=v/\Post=[A,[.cell b o new]]):=by
 refine⟨hc,fun F w hs=>?_⟩;have sB:Sat w ((.cell b o old)::(A++F)):=hs.perm (by simp only[Vd,Ve,vm,vj,vr,QS];exact QZ);obtain⟨c1,c2⟩:=sB.cell (QJ ..);refine(h w (fun a ha=>sB.holds a (QI _ (Zw _ ha))) c1 c2).mono ?_
 rintro e w' ⟨rfl,os,rfl⟩
 obtain⟨s1,k1⟩:=sB.ζ os;obtain⟨s2,k2⟩:=s1.set (u:=new) (.refl _);refine⟨_,_,rfl,⟨rfl,rfl⟩,s2.perm ?_,k1.trans k2⟩;simp only[Vd,Ve,vm,vj,vr,QS];exact QZ.symm
end Go.V
namespace Go.Proofs.YtijnokbblmbpkaaGreatDoor
open Go Go.RowKit Go.Extern.Stop Go.Stop Go.Extern
set_option maxRecDepth 100000
theorem pd (h : Value) (w : World) : (Go.method 543 242 (.agg #[h]) "Kind").run Tryz.prog w = .ok (360, h) w := by kernel_rfl
theorem pb (h : Value) (w : World) : (Go.method 543 242 (.agg #[h]) "Elem").run Tryz.prog w = .ok (372, .agg #[h]) w := by kernel_rfl
theorem cW (h : Value) (w : World) : (Go.method 543 242 (.agg #[h]) "Implements").run Tryz.prog w = .ok (373, .agg #[h]) w := by kernel_rfl
theorem y9 (h : Value) (w : World) : (Go.method 543 242 (.agg #[h]) "AssignableTo").run Tryz.prog w = .ok (370, .agg #[h]) w := by kernel_rfl
theorem rlm(z:Sem Value)(f:TypeId->Addr->Nat->Nat->Sem Value)(v:Value):
 ReflectliteValue.method z f #[v]=(do match <- ReflectliteValue.parts v with|none=>z|some (t,a,fl)=>f t a fl (fl % 32)):=rfl
theorem rls(v x:Value):ReflectliteValue.set #[v,x]=(do
 let(some (dst,a,fl),some (src,b,_)):=(<- ReflectliteValue.parts v,<- ReflectliteValue.parts x)
  | unsupported (.noEntry "extern/(internal/reflectlite.Value).Set.zeroValue")
 if fl / ReflectliteValue.flagAddr % 2 == 0 then unsupported (.noEntry "extern/(internal/reflectlite.Value).Set.unaddressable")
 let val <- loadVar src b
 if <- Rtype.directlyAssignable dst src then storeVar dst a val
 else if <- Rtype.implements dst src then
  if(<- Rtype.kind src)==20 then
   match val with
   | .nilIface => unsupported (.noEntry "extern/reflectlite: a nil value of one interface type handed on as a value of another")
   |_=>storeVar dst a val
  else storeVar dst a (.iface src val)
 else panicString ("reflectlite.Set: value of type " ++ (← Rtype.spelt src) ++ " is not assignable to type " ++ (← Rtype.spelt dst))
 pure (.tuple #[])):=rfl
theorem Ni(t:Addr)(w:World):(ReflectliteValue.unpack (.iface 82 (.pointer (some t)))).run Tryz.prog w
 =.ok (.agg #[.pointer (some ⟨9,82,none⟩),.pointer (some ⟨w.heap.size,0,none⟩),.int .u64 150]) (w.alloc (.cells #[.pointer (some t)] 82)):=by kernel_rfl
theorem type82 (a : Addr) (w : World) : (ReflectliteValue.methodAny (ReflectliteValue.valueError "reflectlite.Value.Type" 0) (fun t _ _ _ => ReflectliteType.toType t) #[.agg #[.pointer (some ⟨9, 82, none⟩), .pointer (some a), .int .u64 150]]).run Tryz.prog w
 =.ok (.iface 242 (.agg #[.pointer (some ⟨9,82,none⟩)])) w:=by kernel_rfl
theorem kind82(w:World):((ReflectliteType.abiMethod fun t=>(fun a:Nat=>Value.int IntKind.u8 (a:Int)) <$> Rtype.kind t) #[.pointer (some ⟨9,82,none⟩)]).run Tryz.prog w=.ok (.int .u8 22) w:=by kernel_rfl
theorem kind80(w:World):((ReflectliteType.abiMethod fun t=>(fun a:Nat=>Value.int IntKind.u8 (a:Int)) <$> Rtype.kind t) #[.pointer (some ⟨9,80,none⟩)]).run Tryz.prog w=.ok (.int .u8 22) w:=by kernel_rfl
theorem KU(a:Addr)(w:World):(ReflectliteValue.parts (.agg #[.pointer (some ⟨9,82,none⟩),.pointer (some a),.int .u64 150])).run Tryz.prog w=.ok (some (82,a,150)) w:=by kernel_rfl
theorem ZL:Tryz.prog.underlying 82=some (.pointer 80):=by kernel_rfl
theorem WQ(a p:Addr)(W:World)(ha:W.cell? a=some (.pointer (some p))):
 (ReflectliteValue.method (ReflectliteValue.valueError "reflectlite.Value.IsNil" 0) ReflectliteValue.isNil #[.agg #[.pointer (some ⟨9, 82, none⟩), .pointer (some a), .int .u64 150]]).run Tryz.prog W = .ok (.bool false) W := by
 rw[rlm];simp only[Sem.run_bind,KU,Result.andThen];simp[ReflectliteValue.isNil,loadVar,isAgg,underlying,ZL,ha,Result.andThen]
theorem ω(w:World):(ReflectliteType.method ReflectliteType.elem #[.agg #[.pointer (some ⟨9,82,none⟩)]]).run Tryz.prog w=.ok (.iface 242 (.agg #[.pointer (some ⟨9,80,none⟩)])) w:=by kernel_rfl
theorem DY (w : World) : (ReflectliteType.relation "Implements" ReflectliteType.implements_ #[.agg #[.pointer (some ⟨9, 80, none⟩)], .iface 242 (.agg #[.pointer (some ⟨9, 50, none⟩)])]).run Tryz.prog w = .ok (.bool true) w := by kernel_rfl
theorem OL(w:World):(Rtype.elem? 82).run Tryz.prog w=.ok (some 80) w:=by kernel_rfl
theorem mk80(p:Addr)(w:World):(ReflectliteValue.mk 80 p ReflectliteValue.flagAddr).run Tryz.prog w=.ok (.agg #[.pointer (some ⟨9,80,none⟩),.pointer (some p),.int .u64 406]) w:=by kernel_rfl
theorem UR(a p:Addr)(W:World)(ha:W.cell? a=some (.pointer (some p))):
 (ReflectliteValue.method (ReflectliteValue.valueError "reflectlite.Value.Elem" 0) ReflectliteValue.elem #[.agg #[.pointer (some ⟨9, 82, none⟩), .pointer (some a), .int .u64 150]]).run Tryz.prog W
   =.ok (.agg #[.pointer (some ⟨9,80,none⟩),.pointer (some p),.int .u64 406]) W:=by
 rw[rlm];simp only[Sem.run_bind,KU,Result.andThen];simp[ReflectliteValue.elem,loadVar,isAgg,underlying,ZL,ha,Result.andThen,OL,mk80]
theorem Sr(a:Addr)(w:World):(ReflectliteValue.parts (.agg #[.pointer (some ⟨9,80,none⟩),.pointer (some a),.int .u64 406])).run Tryz.prog w=.ok (some (80,a,406)) w:=by kernel_rfl
theorem XE(a:Addr)(w:World):(ReflectliteValue.parts (.agg #[.pointer (some ⟨9,80,none⟩),.pointer (some a),.int .u64 150])).run Tryz.prog w=.ok (some (80,a,150)) w:=by kernel_rfl
theorem Oy(w:World):(Rtype.directlyAssignable 80 80).run Tryz.prog w=.ok true w:=by kernel_rfl
theorem Az(t:Addr)(w:World):(ReflectliteValue.unpack (.iface 129 (.pointer (some t)))).run Tryz.prog w
 =.ok (.agg #[.pointer (some ⟨9,129,none⟩),.pointer (some ⟨w.heap.size,0,none⟩),.int .u64 150]) (w.alloc (.cells #[.pointer (some t)] 129)):=by kernel_rfl
theorem type129 (a : Addr) (w : World) : (ReflectliteValue.methodAny (ReflectliteValue.valueError "reflectlite.Value.Type" 0) (fun t _ _ _ => ReflectliteType.toType t) #[.agg #[.pointer (some ⟨9, 129, none⟩), .pointer (some a), .int .u64 150]]).run Tryz.prog w
 =.ok (.iface 242 (.agg #[.pointer (some ⟨9,129,none⟩)])) w:=by kernel_rfl
theorem KL(w:World):((ReflectliteType.abiMethod fun t=>(fun a:Nat=>Value.int IntKind.u8 (a:Int)) <$> Rtype.kind t) #[.pointer (some ⟨9,129,none⟩)]).run Tryz.prog w=.ok (.int .u8 22) w:=by kernel_rfl
theorem P9(w:World):((ReflectliteType.abiMethod fun t=>(fun a:Nat=>Value.int IntKind.u8 (a:Int)) <$> Rtype.kind t) #[.pointer (some ⟨9,44,none⟩)]).run Tryz.prog w=.ok (.int .u8 2) w:=by kernel_rfl
theorem G9(a:Addr)(w:World):(ReflectliteValue.parts (.agg #[.pointer (some ⟨9,129,none⟩),.pointer (some a),.int .u64 150])).run Tryz.prog w=.ok (some (129,a,150)) w:=by kernel_rfl
theorem Tj:Tryz.prog.underlying 129=some (.pointer 44):=by kernel_rfl
theorem GH(a p:Addr)(W:World)(ha:W.cell? a=some (.pointer (some p))):
 (ReflectliteValue.method (ReflectliteValue.valueError "reflectlite.Value.IsNil" 0) ReflectliteValue.isNil #[.agg #[.pointer (some ⟨9, 129, none⟩), .pointer (some a), .int .u64 150]]).run Tryz.prog W = .ok (.bool false) W := by
 rw[rlm];simp only[Sem.run_bind,G9,Result.andThen];simp[ReflectliteValue.isNil,loadVar,isAgg,underlying,Tj,ha,Result.andThen]
theorem Kn(w:World):(ReflectliteType.method ReflectliteType.elem #[.agg #[.pointer (some ⟨9,129,none⟩)]]).run Tryz.prog w=.ok (.iface 242 (.agg #[.pointer (some ⟨9,44,none⟩)])) w:=by kernel_rfl
theorem qh (w : World) : (ReflectliteType.relation "Implements" ReflectliteType.implements_ #[.agg #[.pointer (some ⟨9, 44, none⟩)], .iface 242 (.agg #[.pointer (some ⟨9, 50, none⟩)])]).run Tryz.prog w = .ok (.bool true) w := by kernel_rfl
theorem LC(w:World):(Rtype.elem? 129).run Tryz.prog w=.ok (some 44) w:=by kernel_rfl
theorem mk44(p:Addr)(w:World):(ReflectliteValue.mk 44 p ReflectliteValue.flagAddr).run Tryz.prog w=.ok (.agg #[.pointer (some ⟨9,44,none⟩),.pointer (some p),.int .u64 386]) w:=by kernel_rfl
theorem F3(a p:Addr)(W:World)(ha:W.cell? a=some (.pointer (some p))):
 (ReflectliteValue.method (ReflectliteValue.valueError "reflectlite.Value.Elem" 0) ReflectliteValue.elem #[.agg #[.pointer (some ⟨9, 129, none⟩), .pointer (some a), .int .u64 150]]).run Tryz.prog W
   =.ok (.agg #[.pointer (some ⟨9,44,none⟩),.pointer (some p),.int .u64 386]) W:=by
 rw[rlm];simp only[Sem.run_bind,G9,Result.andThen];simp[ReflectliteValue.elem,loadVar,isAgg,underlying,Tj,ha,Result.andThen,LC,mk44]
theorem Sq(a:Addr)(w:World):(ReflectliteValue.parts (.agg #[.pointer (some ⟨9,44,none⟩),.pointer (some a),.int .u64 386])).run Tryz.prog w=.ok (some (44,a,386)) w:=by kernel_rfl
theorem XD(a:Addr)(w:World):(ReflectliteValue.parts (.agg #[.pointer (some ⟨9,44,none⟩),.pointer (some a),.int .u64 130])).run Tryz.prog w=.ok (some (44,a,130)) w:=by kernel_rfl
theorem Ox(w:World):(Rtype.directlyAssignable 44 44).run Tryz.prog w=.ok true w:=by kernel_rfl
theorem HK(v:Value)(w:World):(ReflectliteType.typeOf #[.iface 80 v]).run Tryz.prog w=.ok (.iface 242 (.agg #[.pointer (some ⟨9,80,none⟩)])) w:=by kernel_rfl
theorem tX (w : World) : (ReflectliteType.relation "AssignableTo" ReflectliteType.assignableTo #[.agg #[.pointer (some ⟨9, 80, none⟩)], .iface 242 (.agg #[.pointer (some ⟨9, 80, none⟩)])]).run Tryz.prog w = .ok (.bool true) w := by kernel_rfl
theorem tW (w : World) : (ReflectliteType.relation "AssignableTo" ReflectliteType.assignableTo #[.agg #[.pointer (some ⟨9, 80, none⟩)], .iface 242 (.agg #[.pointer (some ⟨9, 44, none⟩)])]).run Tryz.prog w = .ok (.bool false) w := by kernel_rfl
theorem Nh(e:Addr)(w:World):(ReflectliteValue.unpack (.iface 80 (.pointer (some e)))).run Tryz.prog w
 =.ok (.agg #[.pointer (some ⟨9,80,none⟩),.pointer (some ⟨w.heap.size,0,none⟩),.int .u64 150]) (w.alloc (.cells #[.pointer (some e)] 80)):=by kernel_rfl
theorem HI(v:Value)(w:World):(ReflectliteType.typeOf #[.iface 44 v]).run Tryz.prog w=.ok (.iface 242 (.agg #[.pointer (some ⟨9,44,none⟩)])) w:=by kernel_rfl
theorem lP (w : World) : (ReflectliteType.relation "AssignableTo" ReflectliteType.assignableTo #[.agg #[.pointer (some ⟨9, 44, none⟩)], .iface 242 (.agg #[.pointer (some ⟨9, 44, none⟩)])]).run Tryz.prog w = .ok (.bool true) w := by kernel_rfl
theorem Dk(n:Int)(w:World):(ReflectliteValue.unpack (.iface 44 (.int .i64 n))).run Tryz.prog w
 =.ok (.agg #[.pointer (some ⟨9,44,none⟩),.pointer (some ⟨w.heap.size,0,none⟩),.int .u64 130]) (w.alloc (.cells #[.int .i64 n] 44)):=by kernel_rfl
theorem Td(v:Value)(x:TypeId)(w:World):(Instr.typeAssert (.iface 80 v) x 247 true).run Tryz.prog w=.ok (.tuple #[.nilIface,.bool false]) w:=run_typeAssert_lacksB Tryz.underlying247 (by kernel_rfl) (by kernel_rfl) v x w
theorem Te(v:Value)(x:TypeId)(w:World):(Instr.typeAssert (.iface 80 v) x 250 true).run Tryz.prog w=.ok (.tuple #[.iface 80 v,.bool true]) w:=run_typeAssert_hasB Tryz.underlying250 (by kernel_rfl) v x w
theorem Tf(v:Value)(x:TypeId)(w:World):(Instr.typeAssert (.iface 80 v) x 252 true).run Tryz.prog w=.ok (.tuple #[.nilIface,.bool false]) w:=run_typeAssert_lacksB Tryz.underlying252 (by kernel_rfl) (by kernel_rfl) v x w
theorem Eh (e : Addr) (w : World) : (Go.method 543 80 (.pointer (some e)) "Unwrap").run Tryz.prog w = .ok (365, .pointer (some e)) w := by kernel_rfl
theorem Lx(ta b e:Addr)(old:Value)(W:World)(hb:W.cell? b=some (.pointer (some e)))(ht:W.cell? ta=some old)(hf:W.frozen? ta=false):
 (ReflectliteValue.set #[.agg #[.pointer (some ⟨9,80,none⟩),.pointer (some ta),.int .u64 406],.agg #[.pointer (some ⟨9,80,none⟩),.pointer (some b),.int .u64 150]]).run Tryz.prog W
   =.ok (.tuple #[]) (W.setCell ta (.pointer (some e))):=by
 rw[rls];simp only[Sem.run_bind,Sr,XE,Result.andThen];simp[ReflectliteValue.flagAddr,loadVar,isAgg,underlying,Tryz.underlying80,hb,Result.andThen,Oy,storeVar,Value.cells,storeCells,Addr.add];rw[run_store Tryz.prog W ta _ _ Zr];simp[ht,hf]
set_option maxHeartbeats 4000000 in
theorem UH(e t:Addr)(old:Value)(w:World)(hg:w.cell? ⟨0,0,none⟩=some (.iface 242 (.agg #[.pointer (some ⟨9,50,none⟩)])))(Wv:w.cell? t=some old)(hf0:w.frozen? t=false):
 Calls Tryz.prog 33 #[.iface 80 (.pointer (some e)),.iface 82 (.pointer (some t))] w fun ev w'=>ev=.returned (.bool true)/\w'=((((w.alloc (.cells #[.pointer (some t)] 82)).alloc (.cells #[.pointer (some ⟨9,82,none⟩),.pointer (some ⟨w.heap.size,0,none⟩),.int .u64 150] 162)).alloc (.cells #[.pointer (some ⟨9,82,none⟩),.pointer (some ⟨w.heap.size,0,none⟩),.int .u64 150] 162)).alloc (.cells #[.pointer (some e)] 80)).setCell t (.pointer (some e)):=by
 have h6 := @run_callFunc_extern Tryz.prog 81 _ (fun args => ReflectliteValue.unpack (args.getD 0 (.tuple #[]))) Tryz.func81 (by kernel_rfl) (by kernel_rfl) (by kernel_rfl) (by kernel_rfl);have h7 := @run_callFunc_extern Tryz.prog 82 _ (ReflectliteValue.methodAny (ReflectliteValue.valueError "reflectlite.Value.Type" 0) (fun t _ _ _ => ReflectliteType.toType t)) Tryz.func82 (by kernel_rfl) (by kernel_rfl) (by kernel_rfl) (by kernel_rfl);have h8 := @run_callFunc_extern Tryz.prog 83 _ (ReflectliteValue.method (ReflectliteValue.valueError "reflectlite.Value.IsNil" 0) ReflectliteValue.isNil) Tryz.func83 (by kernel_rfl) (by kernel_rfl) (by kernel_rfl) (by kernel_rfl);have h27 := @run_callFunc_extern Tryz.prog 360 _ (ReflectliteType.abiMethod fun t => do pure (.int .u8 (← Rtype.kind t))) Tryz.func360 (by kernel_rfl) (by kernel_rfl) (by kernel_rfl) (by kernel_rfl);have h37 := @run_callFunc_extern Tryz.prog 372 _ (ReflectliteType.method ReflectliteType.elem) Tryz.func372 (by kernel_rfl) (by kernel_rfl) (by kernel_rfl) (by kernel_rfl);have h38 := @run_callFunc_extern Tryz.prog 373 _ (ReflectliteType.relation "Implements" ReflectliteType.implements_) Tryz.func373 (by kernel_rfl) (by kernel_rfl) (by kernel_rfl) (by kernel_rfl);have xL := @run_callFunc_extern Tryz.prog 141 _ ReflectliteType.typeOf Tryz.func141 (by kernel_rfl) (by kernel_rfl) (by kernel_rfl) (by kernel_rfl);have h35 := @run_callFunc_extern Tryz.prog 370 _ (ReflectliteType.relation "AssignableTo" ReflectliteType.assignableTo) Tryz.func370 (by kernel_rfl) (by kernel_rfl) (by kernel_rfl) (by kernel_rfl);have OX := @run_callFunc_extern Tryz.prog 142 _ (ReflectliteValue.method (ReflectliteValue.valueError "reflectlite.Value.Elem" 0) ReflectliteValue.elem) Tryz.func142 (by kernel_rfl) (by kernel_rfl) (by kernel_rfl) (by kernel_rfl);have h12 := @run_callFunc_extern Tryz.prog 143 _ ReflectliteValue.set Tryz.func143 (by kernel_rfl) (by kernel_rfl) (by kernel_rfl) (by kernel_rfl);have tO := HK;have mA := y9;have a25 := tX;have v25 := Nh;have f6 := Ni;have f7 := type82;have mK := pd;have mE := pb;have mI := cW;have k27 := kind82;have k25 := kind80;have e27 := ω;have i25 := DY;have n8 := WQ ⟨w.heap.size, 0, none⟩ t ((w.alloc (.cells #[.pointer (some t)] 82)).alloc (.cells #[.pointer (some ⟨9, 82, none⟩), .pointer (some ⟨w.heap.size, 0, none⟩), .int .u64 150] 162)) Zs;have aS : 0 < w.heap.size := by
  exact zDB
 have hg2:((w.alloc (.cells #[.pointer (some t)] 82)).alloc (.cells #[.pointer (some ⟨9,82,none⟩),.pointer (some ⟨w.heap.size,0,none⟩),.int .u64 150] 162)).cell? ⟨0,0,none⟩=some (.iface 242 (.agg #[.pointer (some ⟨9,50,none⟩)])):=by
  exact zCS
 have sE:t.block < w.heap.size:=by
  exact zCL
 have el:=UR ⟨w.heap.size,0,none⟩ t (((w.alloc (.cells #[.pointer (some t)] 82)).alloc (.cells #[.pointer (some ⟨9,82,none⟩),.pointer (some ⟨w.heap.size,0,none⟩),.int .u64 150] 162)).alloc (.cells #[.pointer (some ⟨9,82,none⟩),.pointer (some ⟨w.heap.size,0,none⟩),.int .u64 150] 162)) (by rw[World.cell?_alloc_lt _ _ ⟨w.heap.size,0,none⟩ pJ];simp);have st:=Lx t ⟨w.heap.size+1+1+1,0,none⟩ e old ((((w.alloc (.cells #[.pointer (some t)] 82)).alloc (.cells #[.pointer (some ⟨9,82,none⟩),.pointer (some ⟨w.heap.size,0,none⟩),.int .u64 150] 162)).alloc (.cells #[.pointer (some ⟨9,82,none⟩),.pointer (some ⟨w.heap.size,0,none⟩),.int .u64 150] 162)).alloc (.cells #[.pointer (some e)] 80))
  (by rw[World.cell?_alloc_at _ _ _ _ Zs];rfl)
  Zaw
  Zax
 go_enter Tryz.func33,Tryz.ntmps33
 go_wp2
 refine wp_loop_rounds 1 ?_;rw[rounds_succ]
 go_wp2
 go_ret
 exact⟨rfl,rfl⟩
theorem Lv(ta b:Addr)(n:Int)(old:Value)(W:World)(hb:W.cell? b=some (.int .i64 n))(ht:W.cell? ta=some old)(hf:W.frozen? ta=false):
 (ReflectliteValue.set #[.agg #[.pointer (some ⟨9,44,none⟩),.pointer (some ta),.int .u64 386],.agg #[.pointer (some ⟨9,44,none⟩),.pointer (some b),.int .u64 130]]).run Tryz.prog W
   =.ok (.tuple #[]) (W.setCell ta (.int .i64 n)):=by
 exact zC5
set_option maxHeartbeats 4000000 in
theorem ι(n:Int)(t:Addr)(old:Value)(w:World)(hg:w.cell? ⟨0,0,none⟩=some (.iface 242 (.agg #[.pointer (some ⟨9,50,none⟩)])))(Wv:w.cell? t=some old)(hf0:w.frozen? t=false):
 Calls Tryz.prog 33 #[.iface 44 (.int .i64 n),.iface 129 (.pointer (some t))] w fun ev w'=>ev=.returned (.bool true)/\w'=((((w.alloc (.cells #[.pointer (some t)] 129)).alloc (.cells #[.pointer (some ⟨9,129,none⟩),.pointer (some ⟨w.heap.size,0,none⟩),.int .u64 150] 162)).alloc (.cells #[.pointer (some ⟨9,129,none⟩),.pointer (some ⟨w.heap.size,0,none⟩),.int .u64 150] 162)).alloc (.cells #[.int .i64 n] 44)).setCell t (.int .i64 n):=by
 have h6 := @run_callFunc_extern Tryz.prog 81 _ (fun args => ReflectliteValue.unpack (args.getD 0 (.tuple #[]))) Tryz.func81 (by kernel_rfl) (by kernel_rfl) (by kernel_rfl) (by kernel_rfl);have h7 := @run_callFunc_extern Tryz.prog 82 _ (ReflectliteValue.methodAny (ReflectliteValue.valueError "reflectlite.Value.Type" 0) (fun t _ _ _ => ReflectliteType.toType t)) Tryz.func82 (by kernel_rfl) (by kernel_rfl) (by kernel_rfl) (by kernel_rfl);have h8 := @run_callFunc_extern Tryz.prog 83 _ (ReflectliteValue.method (ReflectliteValue.valueError "reflectlite.Value.IsNil" 0) ReflectliteValue.isNil) Tryz.func83 (by kernel_rfl) (by kernel_rfl) (by kernel_rfl) (by kernel_rfl);have h27 := @run_callFunc_extern Tryz.prog 360 _ (ReflectliteType.abiMethod fun t => do pure (.int .u8 (← Rtype.kind t))) Tryz.func360 (by kernel_rfl) (by kernel_rfl) (by kernel_rfl) (by kernel_rfl);have h37 := @run_callFunc_extern Tryz.prog 372 _ (ReflectliteType.method ReflectliteType.elem) Tryz.func372 (by kernel_rfl) (by kernel_rfl) (by kernel_rfl) (by kernel_rfl);have h38 := @run_callFunc_extern Tryz.prog 373 _ (ReflectliteType.relation "Implements" ReflectliteType.implements_) Tryz.func373 (by kernel_rfl) (by kernel_rfl) (by kernel_rfl) (by kernel_rfl);have xL := @run_callFunc_extern Tryz.prog 141 _ ReflectliteType.typeOf Tryz.func141 (by kernel_rfl) (by kernel_rfl) (by kernel_rfl) (by kernel_rfl);have h35 := @run_callFunc_extern Tryz.prog 370 _ (ReflectliteType.relation "AssignableTo" ReflectliteType.assignableTo) Tryz.func370 (by kernel_rfl) (by kernel_rfl) (by kernel_rfl) (by kernel_rfl);have OX := @run_callFunc_extern Tryz.prog 142 _ (ReflectliteValue.method (ReflectliteValue.valueError "reflectlite.Value.Elem" 0) ReflectliteValue.elem) Tryz.func142 (by kernel_rfl) (by kernel_rfl) (by kernel_rfl) (by kernel_rfl);have h12 := @run_callFunc_extern Tryz.prog 143 _ ReflectliteValue.set Tryz.func143 (by kernel_rfl) (by kernel_rfl) (by kernel_rfl) (by kernel_rfl);have tO := HI;have mA := y9;have a25 := lP;have v25 := Dk;have f6 := Az;have f7 := type129;have mK := pd;have mE := pb;have mI := cW;have k27 := KL;have k25 := P9;have e27 := Kn;have i25 := qh;have n8 := GH ⟨w.heap.size, 0, none⟩ t ((w.alloc (.cells #[.pointer (some t)] 129)).alloc (.cells #[.pointer (some ⟨9, 129, none⟩), .pointer (some ⟨w.heap.size, 0, none⟩), .int .u64 150] 162)) Zs;have aS : 0 < w.heap.size := by
  exact zDB
 have hg2:((w.alloc (.cells #[.pointer (some t)] 129)).alloc (.cells #[.pointer (some ⟨9,129,none⟩),.pointer (some ⟨w.heap.size,0,none⟩),.int .u64 150] 162)).cell? ⟨0,0,none⟩=some (.iface 242 (.agg #[.pointer (some ⟨9,50,none⟩)])):=by
  exact zCS
 have sE:t.block < w.heap.size:=by
  exact zCL
 have el:=F3 ⟨w.heap.size,0,none⟩ t (((w.alloc (.cells #[.pointer (some t)] 129)).alloc (.cells #[.pointer (some ⟨9,129,none⟩),.pointer (some ⟨w.heap.size,0,none⟩),.int .u64 150] 162)).alloc (.cells #[.pointer (some ⟨9,129,none⟩),.pointer (some ⟨w.heap.size,0,none⟩),.int .u64 150] 162)) (by rw[World.cell?_alloc_lt _ _ ⟨w.heap.size,0,none⟩ pJ];simp);have st:=Lv t ⟨w.heap.size+1+1+1,0,none⟩ n old ((((w.alloc (.cells #[.pointer (some t)] 129)).alloc (.cells #[.pointer (some ⟨9,129,none⟩),.pointer (some ⟨w.heap.size,0,none⟩),.int .u64 150] 162)).alloc (.cells #[.pointer (some ⟨9,129,none⟩),.pointer (some ⟨w.heap.size,0,none⟩),.int .u64 150] 162)).alloc (.cells #[.int .i64 n] 44))
  (by rw[World.cell?_alloc_at _ _ _ _ Zs];rfl)
  Zaw
  Zax
 go_enter Tryz.func33,Tryz.ntmps33
 go_wp2
 refine wp_loop_rounds 1 ?_;rw[rounds_succ]
 go_wp2
 go_ret
 exact⟨rfl,rfl⟩
theorem Lw(ta b:Addr)(n:Int)(old:Value)(W:World)(hb:W.cell? b=some (.int .i64 n))(ht:W.cell? ta=some old)(hf:W.frozen? ta=false):
 (ReflectliteValue.set #[.agg #[.pointer (some ⟨9,44,none⟩),.pointer (some ta),.int .u64 386],.agg #[.pointer (some ⟨9,44,none⟩),.pointer (some b),.int .u64 130]]).run Tryz.prog W
   =.ok (.tuple #[]) (W.setCell ta (.int .i64 n)):=by
 exact zC5
set_option maxHeartbeats 4000000 in
theorem as_in(e t:Addr)(n:Int)(old:Value)(w:World)(hg:w.cell? ⟨0,0,none⟩=some (.iface 242 (.agg #[.pointer (some ⟨9,50,none⟩)])))(Wv:w.cell? t=some old)(hf0:w.frozen? t=false)(he:w.cell? ⟨e.block,e.off+2,none⟩=some (.iface 44 (.int .i64 n)))(l6:e.spot=none):
 Calls Tryz.prog 33 #[.iface 80 (.pointer (some e)),.iface 129 (.pointer (some t))] w fun ev w'=>ev=.returned (.bool true)/\w'=((((w.alloc (.cells #[.pointer (some t)] 129)).alloc (.cells #[.pointer (some ⟨9,129,none⟩),.pointer (some ⟨w.heap.size,0,none⟩),.int .u64 150] 162)).alloc (.cells #[.pointer (some ⟨9,129,none⟩),.pointer (some ⟨w.heap.size,0,none⟩),.int .u64 150] 162)).alloc (.cells #[.int .i64 n] 44)).setCell t (.int .i64 n):=by
 have h6 := @run_callFunc_extern Tryz.prog 81 _ (fun args => ReflectliteValue.unpack (args.getD 0 (.tuple #[]))) Tryz.func81 (by kernel_rfl) (by kernel_rfl) (by kernel_rfl) (by kernel_rfl);have h7 := @run_callFunc_extern Tryz.prog 82 _ (ReflectliteValue.methodAny (ReflectliteValue.valueError "reflectlite.Value.Type" 0) (fun t _ _ _ => ReflectliteType.toType t)) Tryz.func82 (by kernel_rfl) (by kernel_rfl) (by kernel_rfl) (by kernel_rfl);have h8 := @run_callFunc_extern Tryz.prog 83 _ (ReflectliteValue.method (ReflectliteValue.valueError "reflectlite.Value.IsNil" 0) ReflectliteValue.isNil) Tryz.func83 (by kernel_rfl) (by kernel_rfl) (by kernel_rfl) (by kernel_rfl);have h27 := @run_callFunc_extern Tryz.prog 360 _ (ReflectliteType.abiMethod fun t => do pure (.int .u8 (← Rtype.kind t))) Tryz.func360 (by kernel_rfl) (by kernel_rfl) (by kernel_rfl) (by kernel_rfl);have h37 := @run_callFunc_extern Tryz.prog 372 _ (ReflectliteType.method ReflectliteType.elem) Tryz.func372 (by kernel_rfl) (by kernel_rfl) (by kernel_rfl) (by kernel_rfl);have h38 := @run_callFunc_extern Tryz.prog 373 _ (ReflectliteType.relation "Implements" ReflectliteType.implements_) Tryz.func373 (by kernel_rfl) (by kernel_rfl) (by kernel_rfl) (by kernel_rfl);have xL := @run_callFunc_extern Tryz.prog 141 _ ReflectliteType.typeOf Tryz.func141 (by kernel_rfl) (by kernel_rfl) (by kernel_rfl) (by kernel_rfl);have h35 := @run_callFunc_extern Tryz.prog 370 _ (ReflectliteType.relation "AssignableTo" ReflectliteType.assignableTo) Tryz.func370 (by kernel_rfl) (by kernel_rfl) (by kernel_rfl) (by kernel_rfl);have OX := @run_callFunc_extern Tryz.prog 142 _ (ReflectliteValue.method (ReflectliteValue.valueError "reflectlite.Value.Elem" 0) ReflectliteValue.elem) Tryz.func142 (by kernel_rfl) (by kernel_rfl) (by kernel_rfl) (by kernel_rfl);have h12 := @run_callFunc_extern Tryz.prog 143 _ ReflectliteValue.set Tryz.func143 (by kernel_rfl) (by kernel_rfl) (by kernel_rfl) (by kernel_rfl);have tO := HK;have tO2 := HI;have ta80x247 := Td;have ta80x250 := Te;have ta80x252 := Tf;have mU := Eh;have mA := y9;have a25 := tW;have a26 := lP;have v25 := Dk;have f6 := Az;have f7 := type129;have mK := pd;have mE := pb;have mI := cW;have k27 := KL;have k25 := P9;have e27 := Kn;have i25 := qh;have n8 := GH ⟨w.heap.size, 0, none⟩ t ((w.alloc (.cells #[.pointer (some t)] 129)).alloc (.cells #[.pointer (some ⟨9, 129, none⟩), .pointer (some ⟨w.heap.size, 0, none⟩), .int .u64 150] 162)) Zs;have aS : 0 < w.heap.size := by
  exact zDB
 have hg2:((w.alloc (.cells #[.pointer (some t)] 129)).alloc (.cells #[.pointer (some ⟨9,129,none⟩),.pointer (some ⟨w.heap.size,0,none⟩),.int .u64 150] 162)).cell? ⟨0,0,none⟩=some (.iface 242 (.agg #[.pointer (some ⟨9,50,none⟩)])):=by
  exact zCS
 have sE:t.block < w.heap.size:=by
  exact zCL
 have el:=F3 ⟨w.heap.size,0,none⟩ t (((w.alloc (.cells #[.pointer (some t)] 129)).alloc (.cells #[.pointer (some ⟨9,129,none⟩),.pointer (some ⟨w.heap.size,0,none⟩),.int .u64 150] 162)).alloc (.cells #[.pointer (some ⟨9,129,none⟩),.pointer (some ⟨w.heap.size,0,none⟩),.int .u64 150] 162)) (by rw[World.cell?_alloc_lt _ _ ⟨w.heap.size,0,none⟩ pJ];simp);have st:=Lw t ⟨w.heap.size+1+1+1,0,none⟩ n old ((((w.alloc (.cells #[.pointer (some t)] 129)).alloc (.cells #[.pointer (some ⟨9,129,none⟩),.pointer (some ⟨w.heap.size,0,none⟩),.int .u64 150] 162)).alloc (.cells #[.pointer (some ⟨9,129,none⟩),.pointer (some ⟨w.heap.size,0,none⟩),.int .u64 150] 162)).alloc (.cells #[.int .i64 n] 44))
  (by rw[World.cell?_alloc_at _ _ _ _ Zs];rfl)
  Zaw
  Zax
 have hexl:e.block < w.heap.size:=by
  rcases Nat.lt_or_ge e.block w.heap.size with h|h
  ·exact h
  ·simp[World.cell?,Array.getElem?_eq_none h]at he
 have hex:(((w.alloc (.cells #[.pointer (some t)] 129)).alloc (.cells #[.pointer (some ⟨9,129,none⟩),.pointer (some ⟨w.heap.size,0,none⟩),.int .u64 150] 162)).alloc (.cells #[.pointer (some ⟨9,129,none⟩),.pointer (some ⟨w.heap.size,0,none⟩),.int .u64 150] 162)).cell? ⟨e.block,e.off+2,none⟩=some (.iface 44 (.int .i64 n)):=by
  rw[World.cell?_alloc_lt _ _ ⟨e.block,e.off+2,none⟩ pJ,World.cell?_alloc_lt _ _ ⟨e.block,e.off+2,none⟩ pJ,World.cell?_alloc_lt _ _ ⟨e.block,e.off+2,none⟩ hexl];exact he
 go_enter Tryz.func33,Tryz.ntmps33
 go_wp2
 refine wp_loop_rounds 2 ?_;rw[rounds_succ]
 go_wp2
 rw[rounds_succ]
 go_wp2
 go_ret
 exact⟨rfl,rfl⟩
open Go Go.V
def Ys:kC:=.cell 0 0 (.iface 242 (.agg #[.pointer (some ⟨9,50,none⟩)]))
theorem cj {w:World}{b o:Nat}{v:Value}(h:(kC.cell b o v).holds w):w.cell? ⟨b,o,none⟩=some v:=by
 obtain⟨c,t,lo,hi,hb,hc,hf⟩:=h;simp[World.cell?,hb,hc]
def flP(b:Nat):Value:=.iface 80 (kF b)
section
variable (A:List kC) (hE:Ys∈A)
include hE
theorem Ux(k:Nat)(b:Nat)(old:Value):aw Tryz.prog 33 [flP k,.iface 82 (kF b)] [A,kA b 0 [old]] (fun u Post=>u=.bool true/\Post=[A,kA b 0 [kF k]]):=
 aw.JA (by kernel_rfl) fun w hA h1 h2=>(UH ⟨k,0,none⟩ ⟨b,0,none⟩ old w (cj (hA _ hE)) h1 h2).mono fun _ _ ⟨h,h'⟩=>⟨h,[_,_,_,_],h'⟩
theorem As_num(n:Int)(b:Nat)(old:Value):aw Tryz.prog 33 [.iface 44 (.int .i64 n),.iface 129 (kF b)] [A,kA b 0 [old]] (fun u Post=>u=.bool true/\Post=[A,kA b 0 [.int .i64 n]]):=
 aw.JA (by kernel_rfl) fun w hA h1 h2=>(ι n ⟨b,0,none⟩ old w (cj (hA _ hE)) h1 h2).mono fun _ _ ⟨h,h'⟩=>⟨h,[_,_,_,_],h'⟩
theorem As_in(k:Nat)(n:Int)(hk:kC.cell k 2 (.iface 44 (.int .i64 n))∈A)(b:Nat)(old:Value):aw Tryz.prog 33 [flP k,.iface 129 (kF b)] [A,kA b 0 [old]] (fun u Post=>u=.bool true/\Post=[A,kA b 0 [.int .i64 n]]):=
 aw.JA (by kernel_rfl) fun w hA h1 h2=>(as_in ⟨k,0,none⟩ ⟨b,0,none⟩ n old w (cj (hA _ hE)) h1 h2 (cj (hA _ hk)) rfl).mono fun _ _ ⟨h,h'⟩=>⟨h,[_,_,_,_],h'⟩
end
noncomputable def F16:aQ:=bb (o:=gF pq Tryz.f16 [])
theorem n16:F16.n=21:=rfl
theorem Zu:aY Tryz.prog 16 []=some F16:=by kernel_rfl
noncomputable def F136:aQ:=bb (o:=gF pq Tryz.f136 [])
theorem n136:F136.n=12:=rfl
theorem low136:aY Tryz.prog 136 []=some F136:=by kernel_rfl
noncomputable def F70:aQ:=bb (o:=gF pq Tryz.f70 [(20,[[0,1,2,3,4,5,6,7,8,9,10,11,12,13,14,15,16,17,18,19,20,21,22,23]])])
theorem n70:F70.n=94:=rfl
theorem low70:aY Tryz.prog 70 [(20,[[0,1,2,3,4,5,6,7,8,9,10,11,12,13,14,15,16,17,18,19,20,21,22,23]])]=some F70:=by kernel_rfl
noncomputable def F26:aQ:=bb (o:=gF pq Tryz.f26 [])
theorem n26:F26.n=13:=rfl
theorem low26:aY Tryz.prog 26 []=some F26:=by kernel_rfl
noncomputable def F208:aQ:=bb (o:=gF pq Tryz.f208 [(6,[[0,1,2,3,4,5,6,7],[0,2,3,1,4,5,6,7]])])
theorem n208:F208.n=24:=rfl
theorem low208:aY Tryz.prog 208 [(6,[[0,1,2,3,4,5,6,7],[0,2,3,1,4,5,6,7]])]=some F208:=by kernel_rfl
noncomputable def F113:aQ:=bb (o:=gF pq Tryz.f113 [])
theorem n113:F113.n=10:=rfl
theorem low113:aY Tryz.prog 113 []=some F113:=by kernel_rfl
noncomputable def F111:aQ:=bb (o:=gF pq Tryz.f111 [])
theorem n111:F111.n=21:=rfl
theorem low111:aY Tryz.prog 111 []=some F111:=by kernel_rfl
noncomputable def F232:aQ:=bb (o:=gF pq Tryz.f232 [(5,[[0,1,2,3,4,5,6,7,8,9,10,11,12,13,14,15,16,17],[0,1,2,3,4,5,6,7,8,9,10,11,12,15,13,14,16,17]])])
theorem n232:F232.n=45:=rfl
theorem low232:aY Tryz.prog 232 [(5,[[0,1,2,3,4,5,6,7,8,9,10,11,12,13,14,15,16,17],[0,1,2,3,4,5,6,7,8,9,10,11,12,15,13,14,16,17]])]=some F232:=by kernel_rfl
noncomputable def F115:aQ:=bb (o:=gF pq Tryz.f115 [])
theorem n115:F115.n=19:=rfl
theorem low115:aY Tryz.prog 115 []=some F115:=by kernel_rfl
noncomputable def F116:aQ:=bb (o:=gF pq Tryz.f116 [(2,[[0,1,2,3,4,5,6,7,8,9,10,11,12],[0,1,2,3,5,6,7,8,9,10,4,11,12]]),(5,[[0,1,2,3,4,5,6,7,8,9,10,11]])])
theorem n116:F116.n=39:=rfl
theorem low116:aY Tryz.prog 116 [(2,[[0,1,2,3,4,5,6,7,8,9,10,11,12],[0,1,2,3,5,6,7,8,9,10,4,11,12]]),(5,[[0,1,2,3,4,5,6,7,8,9,10,11]])]=some F116:=by kernel_rfl
noncomputable def F175:aQ:=bb (o:=gF pq Tryz.f175 [(2,[[0,1,2,3,4,5,6,7,8,9,10,11,12]]),(4,[[0,1,2,3,4,5,6,7,8,9,10,11,12],[0,1,2,3,4,5,7,8,9,10,6,11,12]]),(5,[[0,1,2,3,4,5,6,7,8,9,10,11,12,13,14,15,16,17]])])
theorem n175:F175.n=57:=rfl
theorem low175:aY Tryz.prog 175 [(2,[[0,1,2,3,4,5,6,7,8,9,10,11,12]]),(4,[[0,1,2,3,4,5,6,7,8,9,10,11,12],[0,1,2,3,4,5,7,8,9,10,6,11,12]]),(5,[[0,1,2,3,4,5,6,7,8,9,10,11,12,13,14,15,16,17]])]=some F175:=by kernel_rfl
noncomputable def F117:aQ:=bb (o:=gF pq Tryz.f117 [(5,[[0,1,2,3,4,5,6,7,8],[0,2,3,4,1,5,6,7,8]]),(10,[[0,1,2,3,4,5,6,7,8],[0,2,3,4,1,5,6,7,8]])])
theorem n117:F117.n=45:=rfl
theorem low117:aY Tryz.prog 117 [(5,[[0,1,2,3,4,5,6,7,8],[0,2,3,4,1,5,6,7,8]]),(10,[[0,1,2,3,4,5,6,7,8],[0,2,3,4,1,5,6,7,8]])]=some F117:=by kernel_rfl
noncomputable def F174:aQ:=bb (o:=gF pq Tryz.f174 [(4,[[0,1,2,3,4,5]])])
theorem n174:F174.n=19:=rfl
theorem low174:aY Tryz.prog 174 [(4,[[0,1,2,3,4,5]])]=some F174:=by kernel_rfl
noncomputable def F108:aQ:=bb (o:=gF pq Tryz.f108 [])
theorem n108:F108.n=34:=rfl
theorem low108:aY Tryz.prog 108 []=some F108:=by kernel_rfl
noncomputable def F209:aQ:=bb (o:=gF pq Tryz.f209 [(17,[[0,1,2,3,4,5,6,7,8,9,10,11]]),(20,[[0,1,2,3,4,5,6,7]])])
theorem n209:F209.n=78:=rfl
theorem low209:aY Tryz.prog 209 [(17,[[0,1,2,3,4,5,6,7,8,9,10,11]]),(20,[[0,1,2,3,4,5,6,7]])]=some F209:=by kernel_rfl
noncomputable def F112:aQ:=bb (o:=gF pq Tryz.f112 [])
theorem n112:F112.n=28:=rfl
theorem low112:aY Tryz.prog 112 []=some F112:=by kernel_rfl
noncomputable def F49:aQ:=bb (o:=gF pq Tryz.f49 [(3,[[0,1,2,3,4,5,6,7,8,9,10]]),(6,[[0,1,2,3,4,5,6,7,8,9],[1,2,3,4,5,6,0,7,8,9]])])
theorem n49:F49.n=60:=rfl
theorem low49:aY Tryz.prog 49 [(3,[[0,1,2,3,4,5,6,7,8,9,10]]),(6,[[0,1,2,3,4,5,6,7,8,9],[1,2,3,4,5,6,0,7,8,9]])]=some F49:=by kernel_rfl
noncomputable def F109:aQ:=bb (o:=gF pq Tryz.f109 [])
theorem n109:F109.n=8:=rfl
theorem low109:aY Tryz.prog 109 []=some F109:=by kernel_rfl
noncomputable def F110:aQ:=bb (o:=gF pq Tryz.f110 [])
theorem n110:F110.n=6:=rfl
theorem low110:aY Tryz.prog 110 []=some F110:=by kernel_rfl
noncomputable def F231:aQ:=bb (o:=gF pq Tryz.f231 [(6,[[0,1,2,3],[0,2,1,3]])])
theorem n231:F231.n=37:=rfl
theorem low231:aY Tryz.prog 231 [(6,[[0,1,2,3],[0,2,1,3]])]=some F231:=by kernel_rfl
noncomputable def F251:aQ:=bb (o:=gF pq Tryz.f251 [])
theorem n251:F251.n=8:=rfl
theorem low251:aY Tryz.prog 251 []=some F251:=by kernel_rfl
noncomputable def F252:aQ:=bb (o:=gF pq Tryz.f252 [])
theorem n252:F252.n=15:=rfl
theorem low252:aY Tryz.prog 252 []=some F252:=by kernel_rfl
noncomputable def F207:aQ:=bb (o:=gF pq Tryz.f207 [(10,[[0,1,2,3,4,5,6,7,8,9,10],[0,2,3,4,5,6,1,7,8,9,10]])])
theorem n207:F207.n=85:=rfl
theorem low207:aY Tryz.prog 207 [(10,[[0,1,2,3,4,5,6,7,8,9,10],[0,2,3,4,5,6,1,7,8,9,10]])]=some F207:=by kernel_rfl
noncomputable def F172:aQ:=bb (o:=gF pq Tryz.f172 [(29,[[0,1,2,3,4,5,6,7],[0,2,3,4,1,5,6,7]]),(8,[[0,1,2,3,4,5,6,7],[0,2,3,4,1,5,6,7]]),(10,[[0,1,2,3,4,5]])])
theorem n172:F172.n=158:=rfl
theorem low172:aY Tryz.prog 172 [(29,[[0,1,2,3,4,5,6,7],[0,2,3,4,1,5,6,7]]),(8,[[0,1,2,3,4,5,6,7],[0,2,3,4,1,5,6,7]]),(10,[[0,1,2,3,4,5]])]=some F172:=by kernel_rfl
noncomputable def F114:aQ:=bb (o:=gF pq Tryz.f114 [(22,[[0,1,2,3,4,5,6]]),(23,[[0,1,2,3,4,5,6,7,8,9,10],[1,0,2,3,4,5,6,7,8,9,10],[1,2,3,4,0,5,6,7,8,9,10],[1,2,3,4,5,6,0,7,8,9,10],[1,2,3,4,5,6,7,0,8,9,10],[0,1,2,3,5,6,4,7,8,9,10],[1,0,2,3,5,6,4,7,8,9,10],[1,2,3,5,6,0,4,7,8,9,10],[1,2,3,5,6,4,0,7,8,9,10],[1,2,3,5,6,4,7,0,8,9,10],[0,5,6,1,2,3,4,7,8,9,10],[5,6,0,1,2,3,4,7,8,9,10],[5,6,1,0,2,3,4,7,8,9,10],[5,6,1,2,3,4,0,7,8,9,10],[5,6,1,2,3,4,7,0,8,9,10]])])
theorem n114:F114.n=111:=rfl
theorem low114:aY Tryz.prog 114 [(22,[[0,1,2,3,4,5,6]]),(23,[[0,1,2,3,4,5,6,7,8,9,10],[1,0,2,3,4,5,6,7,8,9,10],[1,2,3,4,0,5,6,7,8,9,10],[1,2,3,4,5,6,0,7,8,9,10],[1,2,3,4,5,6,7,0,8,9,10],[0,1,2,3,5,6,4,7,8,9,10],[1,0,2,3,5,6,4,7,8,9,10],[1,2,3,5,6,0,4,7,8,9,10],[1,2,3,5,6,4,0,7,8,9,10],[1,2,3,5,6,4,7,0,8,9,10],[0,5,6,1,2,3,4,7,8,9,10],[5,6,0,1,2,3,4,7,8,9,10],[5,6,1,0,2,3,4,7,8,9,10],[5,6,1,2,3,4,0,7,8,9,10],[5,6,1,2,3,4,7,0,8,9,10]])]=some F114:=by kernel_rfl
noncomputable def F173:aQ:=bb (o:=gF pq Tryz.f173 [])
theorem n173:F173.n=4:=rfl
theorem low173:aY Tryz.prog 173 []=some F173:=by kernel_rfl
noncomputable def F210:aQ:=bb (o:=gF pq Tryz.f210 [])
theorem n210:F210.n=19:=rfl
theorem low210:aY Tryz.prog 210 []=some F210:=by kernel_rfl
noncomputable def F50:aQ:=bb (o:=gF pq Tryz.f50 [(12,[[0,1,2,3,4,5,6,7,8,9,10,11,12,13,14,15,16,17,18]]),(14,[[0,1,2,3,4,5,6,7,8,9,10,11,12,13,14,15,16,17]]),(20,[[0,1,2,3,4,5,6,7,8,9,10,11,12],[0,2,3,4,5,6,7,1,8,9,10,11,12]]),(25,[[0,1,2,3,4,5,6,7,8],[0,2,3,4,1,5,6,7,8]])])
theorem n50:F50.n=145:=rfl
theorem low50:aY Tryz.prog 50 [(12,[[0,1,2,3,4,5,6,7,8,9,10,11,12,13,14,15,16,17,18]]),(14,[[0,1,2,3,4,5,6,7,8,9,10,11,12,13,14,15,16,17]]),(20,[[0,1,2,3,4,5,6,7,8,9,10,11,12],[0,2,3,4,5,6,7,1,8,9,10,11,12]]),(25,[[0,1,2,3,4,5,6,7,8],[0,2,3,4,1,5,6,7,8]])]=some F50:=by kernel_rfl
def F15:DIR:=Cz (X:=⟨83,[.aN 6 3,.bV 7],[(.lU [qB 3 25 0,qo 6 (.alloc 43 Ne1),
 qo 7 (.alloc 50 [Value.nilIface])] [1,2,3,6,7]),(qS [qN 16 5 3,qx 17 47 [16],qm 8 17] [1,2,3,6,7,8] (qS [qm 18 8,qc 19 .neq 18 0] [1,2,3,6,7,8,19] (qC 19 (qS [qo 20 (.build Ne1 []),qm 21 8,qo 22 (.GU 44 (.tmp 21)),
 qo 23 (.build [.string ⟨#[]⟩,.int .i64 0,Value.nilIface] [(0,1,(.const (.string ⟨#[82,101,115,111,108,118,101]⟩))),(2,1,(.tmp 22))]),
 qB 24 84 23,qo 25 (.GU 80 (.tmp 24)),qs 3 6 20,qs 1 7 25] [6,7] .ret) .skip)))],⟨26,48,[(.tmp 6),(.tmp 7)]⟩,(qS [qo 27 (.oF),qo 28 (.oF),
 qo 29 (.build [(Value.map none),(Value.map none),.slice none 0 0] [(0,1,(.tmp 27)),(1,1,(.tmp 28))]),qB 30 122 29,qm 9 30] [1,2,3,6,7,9] (.seq (qS [qm 31 1,qL 32 31,qk 33 0] [2,3,6,7,9,31,32,33] (.block 0 (.loop (qS [qb 34 .lss 33 32] [2,3,6,7,9,31,32,33,34] (.seq (qC 34 .skip (.exit 0)) (.seq (.block 1 (qS [qm 35 33,qi 36 1 31 33,ql 37 36,qm 10 35,qm 11 37] [2,3,6,7,9,10,11,31,32,33] (qS [qm 39 9,qn 40 39,qf 41 0 40,ql 42 41,qm 43 11,qo 44 (.lookup .str (.int .i64 0) true (.tmp 42) (.tmp 43)),qm 38 44,
 qe 45 38 0,qe 46 38 1,qm 12 45,qm 13 46] [2,3,6,7,9,10,11,13,31,32,33] (qS [qm 47 13,qo 48 (.un .not (.tmp 47))] [2,3,6,7,9,10,11,31,32,33,48] (qC 48 (.lU [qm 49 9,qn 50 49,qf 51 0 50,ql 52 51,qm 53 11,qm 54 10,⟨none,none,.yk .str (.tmp 52) (.tmp 53) (.tmp 54)⟩] [2,3,6,7,9,31,32,33]) .skip))))) (.lU [qc 55 .add 33 1,qm 33 55] [2,3,6,7,9,31,32,33]))))))) (.seq (qS [qm 56 2,qL 57 56,qk 58 0] [3,6,7,9,56,57,58] (.block 2 (.loop (qS [qb 59 .lss 58 57] [3,6,7,9,56,57,58,59] (.seq (qC 59 .skip (.exit 2)) (.seq (.block 3 (qS [qi 60 1 56 58,ql 61 60,qm 15 61] [3,6,7,9,15,56,57,58] (.lU [qm 62 9,qn 63 62,qf 64 1 63,ql 65 64,qm 66 15,qo 67 (.lookup .str (.int .i64 0) false (.tmp 65) (.tmp 66)),
 qc 68 .add 67 1,⟨none,none,.yk .str (.tmp 65) (.tmp 66) (.tmp 68)⟩] [3,6,7,9,56,57,58]))) (.lU [qc 69 .add 58 1,qm 58 69] [3,6,7,9,56,57,58]))))))) (qS [qm 70 9,qf 71 1 3,ql 72 71,qf 73 2 3,ql 74 73,qf 75 4 3,ql 76 75,
 qo 77 (.build [.int .u8 0,.string ⟨#[]⟩,.int .u8 0,.int .i64 0,.int .u64 0,.string ⟨#[]⟩,.slice none 0 0,.slice none 0 0,.slice none 0 0,.slice none 0 0,.int .i64 0] [(7,1,(.tmp 72)),(8,1,(.tmp 74)),(9,1,(.tmp 76))]),
 qo 78 (.oF),qo 79 (.call 49 [(.tmp 70),(.tmp 77),(.const (.pointer none)),(.tmp 78)])] [3,6,7,9] (qS [qm 80 9,qN 81 5 3,qx 82 50 [80,81],qs 3 6 82,⟨none,none,.store 1 (.tmp 7) (.const Value.nilIface)⟩] [6,7] .ret)))))⟩)
theorem n15:F15.n=83:=rfl
theorem low15:KO Tryz.prog (zK [(0,[1,2,3,6,7]),(1,[1,2,3,6,7,8]),(2,[1,2,3,6,7,8,19]),(3,[6,7]),(4,[1,2,3,6,7]),(5,[1,2,3,6,7,9]),(6,[2,3,6,7,9,31,32,33]),(7,[2,3,6,7,9,31,32,33,34]),(8,[2,3,6,7,9,10,11,31,32,33]),(9,[2,3,6,7,9,10,11,13,31,32,33]),(10,[2,3,6,7,9,10,11,31,32,33,48]),(11,[2,3,6,7,9,31,32,33]),(12,[2,3,6,7,9,31,32,33]),(13,[3,6,7,9,56,57,58]),(14,[3,6,7,9,56,57,58,59]),(15,[3,6,7,9,15,56,57,58]),(16,[3,6,7,9,56,57,58]),(17,[3,6,7,9,56,57,58]),(18,[3,6,7,9]),(19,[6,7])]) (zK []) 15=some F15:=by kernel_rfl
def F48:RIR:=Cz (X:=⟨13,[],5,[qo 6 (.gD 80 (.pointer none) true (.tmp 5)),qm 4 6,qe 7 4 0,qe 8 4 1,qm 2 7,qm 3 8],(qS [qm 9 3] [0,1,2,9] (qC 9 (.lU [qo 10 (.build Ne1 []),qm 11 2,qo 12 (.GU 80 (.tmp 11)),
 qs 3 0 10,qs 1 1 12] []) .skip))⟩)
theorem n48:F48.n=13:=rfl
theorem Zx:KP Tryz.prog (zK [(0,[0,1,2,3]),(1,[0,1,2,9]),(2,[])]) (zK []) 48=some F48:=by kernel_rfl
noncomputable def F27:aQ:=bb (o:=gF pq Tryz.f27 [])
theorem n27:F27.n=14:=rfl
theorem low27:aY Tryz.prog 27 []=some F27:=by kernel_rfl
noncomputable def F71:aQ:=bb (o:=gF pq Tryz.f71 [(9,[[0,1,2,3,4,5,6,7],[0,1,3,4,2,5,6,7]])])
theorem n71:F71.n=70:=rfl
theorem low71:aY Tryz.prog 71 [(9,[[0,1,2,3,4,5,6,7],[0,1,3,4,2,5,6,7]])]=some F71:=by kernel_rfl
end Go.Proofs.YtijnokbblmbpkaaGreatDoor
namespace Go.V
open Go
structure fS where
 name:ByteArray
 unit:Nat
 arg:Bool
 own:Int
structure zY where
 kind:Nat
 index:Int
 slot:Int
 name:ByteArray
inductive PN where
 |mk (kind:Nat) (name:ByteArray) (lit:Lt) (refs:List zY) (unit:Int) (super:Bool) (kids:List PN)
def PN.kind:PN->Nat|.mk k _ _ _ _ _ _=>k
def PN.name:PN->ByteArray|.mk _ s _ _ _ _ _=>s
def PN.lit:PN->Lt|.mk _ _ l _ _ _ _=>l
def PN.refs:PN->List zY|.mk _ _ _ r _ _ _=>r
def PN.unit:PN->Int|.mk _ _ _ _ u _ _=>u
def PN.super:PN->Bool|.mk _ _ _ _ _ b _=>b
def PN.kids:PN->List PN|.mk _ _ _ _ _ _ l=>l
def PN.Am(b:Bool):PN->PN|.mk k s l r u _ ks=>.mk k s l r u b ks
structure ah where
 vars:List fS
 outer:List Int
 args:List Nat
 uses:List (Nat×Nat)
 ai:List (List PN)
 f:Option (Nat×Int)
def e0:ByteArray:=⟨#[]⟩
def fV:Lt:=.mk 0 0 0 e0 []
def ah.wrong(st:ah)(e:Nat)(at_:Int):ah:=if st.f.isNone then {st with f:=some (e,at_)}else st
def nmIfT:ByteArray:=⟨#[105,102,84,114,117,101,58]⟩
def nmIfF:ByteArray:=⟨#[105,102,70,97,108,115,101,58]⟩
def nmAnd:ByteArray:=⟨#[97,110,100,58]⟩
def nmOr:ByteArray:=⟨#[111,114,58]⟩
def nmTF:ByteArray:=⟨#[105,102,84,114,117,101,58,105,102,70,97,108,115,101,58]⟩
def nmFT:ByteArray:=⟨#[105,102,70,97,108,115,101,58,105,102,84,114,117,101,58]⟩
def nmWT1:ByteArray:=⟨#[119,104,105,108,101,84,114,117,101,58]⟩
def nmWF1:ByteArray:=⟨#[119,104,105,108,101,70,97,108,115,101,58]⟩
def nmWT:ByteArray:=⟨#[119,104,105,108,101,84,114,117,101]⟩
def nmWF:ByteArray:=⟨#[119,104,105,108,101,70,97,108,115,101]⟩
def nmTo:ByteArray:=⟨#[116,111,58,100,111,58]⟩
def jQ(s:ByteArray):Nat:=
 if s=nmIfT∨s=nmIfF∨s=nmAnd∨s=nmOr then 1
 else if s=nmTF∨s=nmFT then 2
 else if s=nmWT1∨s=nmWF1 then 3
 else if s=nmWT∨s=nmWF then 4
 else if s=nmTo then 5 else 0
def jt(x:Nd):Bool:=decide (x.kind=7)&&decide (x.args.length=0)
def jS:List Nd->Bool
 |r::_=>jR r
 |[]=>false
def eA(n:Nat)(kids:List Nd):Bool:=
 match n with
 |1=>match kids with|[_,b]=>jt b|_=>false
 |2=>match kids with|[_,b,c]=>jt b&&jt c|_=>false
 |3=>match kids with|[a,b]=>jt a&&jt b|_=>false
 |4=>match kids with|[a]=>jt a|_=>false
 |5=>match kids with|[_,_,b]=>decide (b.kind=7)&&decide (b.args.length=1)|_=>false
 |_=>false
def fU(k:Nat)(s:ByteArray)(kids:List Nd):Bool:=decide (k=4)&&!jS kids&&eA (jQ s) kids
def gV(x:Nd):Bool:=fU x.kind x.name x.kids
def yM(s:ByteArray)(i:Nat):Bool:=
 match jQ s with
 |3=>true
 |4=>true
 |5=>decide (i=2)
 |_=>decide (0 < i)
def ib(s:ByteArray):Nat:=match jQ s with|3=>12|4=>12|5=>13|_=>11
def lG(s:ByteArray):ByteArray:=if jQ s=5 then e0 else s
def yv:ByteArray:=⟨#[115,101,108,102]⟩
def nP:ByteArray:=⟨#[115,117,112,101,114]⟩
def G3:ByteArray:=⟨#[110,105,108]⟩
def yw:ByteArray:=⟨#[116,114,117,101]⟩
def qP:ByteArray:=⟨#[102,97,108,115,101]⟩
def wx(s:ByteArray):Nat:=if s=yv∨s=nP then 1 else if s=G3 then 2 else if s=yw then 3 else if s=qP then 4 else 0
def jw(vs:List fS)(env:List Nat)(nm:ByteArray):Option Nat:=env.reverse.find? fun v=>decide ((vs[v]?).map (·.name)=some nm)
def cG(v:Nat):zY:=⟨99,v,0,e0⟩
def kP(unit:Nat)(arg own:Bool)(at_:Int):List ByteArray->Nat->ah->List Nat->ah×List Nat
 |[],_,st,env=>(st,env)
 |nm::r,i,st,env=>
  kP unit arg own at_ r (i+1) {(if(jw st.vars env nm).isSome then st.wrong 180 at_ else st)with vars:=st.vars++[⟨nm,unit,arg,if arg&&own then i else -1⟩]} (env++[st.vars.length])
def wD(F G:List ByteArray)(st:ah)(env:List Nat)(nm:ByteArray)(u:Nat)(at_:Int)(put:Bool):zY×ah:=
 if wx nm≠0 then(⟨wx nm,0,0,e0⟩,st)
 else match jw st.vars env nm with
  |some v=>(cG v,{(if put&&((st.vars[v]?).map (·.arg)).getD false then st.wrong 182 at_ else st)with uses:=st.uses++[(u,v)]})
  |none=>match F.findIdx? (fun s=>decide (s=nm))with
   |some i=>(⟨7,i,0,e0⟩,st)
   |none=>(⟨8,0,0,nm⟩,if G.any (fun s=>decide (s=nm))then st else st.wrong 181 at_)
def zD(b:Bool):List PN->List PN
 |x::r=>x::r.map (PN.Am b)
 |[]=>[]
mutual
def j9(F G:List ByteArray):Nd->ah->List Nat->Nat->PN×ah
 |.mk k s lit args ab kids p,st,env,u=>
  if fU k s kids then
   match kf F G s kids 0 st env u with
   |(ks,rs,bN)=>(.mk (ib s) (lG s) fV rs 0 false ks,bN)
  else if k=1 then(.mk 1 e0 lit [] 0 false [],st)
  else if k=2 then
   match wD F G st env s u p false with
   |(r,bN)=>(.mk 2 e0 fV [r] 0 false [],bN)
  else if k=3 then
   match wD F G st env s u p true with
   |(r,bN)=>match kT F G kids bN env u with
    |(ks,M6)=>(.mk 3 e0 fV [r] 0 false ks,M6)
  else if k=7 then
   match kP st.outer.length true true p args 0 {st with outer:=st.outer++[(u:Int)],args:=st.args++[args.length],ai:=st.ai++[[]]} env with
   |(bN,AT)=>match kP st.outer.length false true p ab 0 bN AT with
    |(M6,ON)=>match kT F G kids M6 ON st.outer.length with
     |(b,st3)=>(.mk 8 e0 fV [] st.outer.length false [],{st3 with ai:=st3.ai.set st.outer.length b})
  else if k=8 then match kT F G kids st env u with|(ks,bN)=>(.mk 9 e0 fV [] 0 false ks,bN)
  else if k=9 then match kT F G kids st env u with|(ks,bN)=>(.mk 10 e0 fV [] 0 false ks,bN)
  else if k=6 then match kT F G kids st env u with|(ks,bN)=>(.mk 7 s fV [] 0 false ks,bN)
  else if k=5 then match kT F G kids st env u with|(ks,bN)=>(.mk 6 e0 fV [] 0 false (zD (jS kids) ks),bN)
  else if jS kids then match kids with
   |[]=>(.mk 5 s fV [] 0 false [],st)
   |_::r=>match kT F G r st env u with|(ks,bN)=>(.mk 5 s fV [] 0 false ks,bN)
  else match kT F G kids st env u with|(ks,bN)=>(.mk 4 s fV [] 0 false ks,bN)
def kT(F G:List ByteArray):List Nd->ah->List Nat->Nat->List PN×ah
 |[],st,_,_=>([],st)
 |x::r,st,env,u=>
  match j9 F G x st env u with
  |(q,bN)=>match kT F G r bN env u with
   |(qs,M6)=>(q::qs,M6)
def kf(F G:List ByteArray)(s:ByteArray):List Nd->Nat->ah->List Nat->Nat->List PN×List zY×ah
 |[],_,st,_,_=>([],[],st)
 |x::r,i,st,env,u=>
  if yM s i then
   match zo F G x st env u with
   |(q,bN)=>match kf F G s r (i+1) bN env u with
    |(qs,fs,M6)=>(q::qs,(if jQ s=5 then cG st.vars.length::fs else fs),M6)
  else match j9 F G x st env u with
   |(q,bN)=>match kf F G s r (i+1) bN env u with
    |(qs,fs,M6)=>(q::qs,fs,M6)
def zo(F G:List ByteArray):Nd->ah->List Nat->Nat->PN×ah
 |.mk _ _ _ args ab kids p,st,env,u=>
  match kP u true false p args 0 st env with
  |(bN,AT)=>match kP u false false p ab 0 bN AT with
   |(M6,ON)=>match kT F G kids M6 ON u with
    |(ks,st3)=>(.mk 14 e0 fV ((List.range' bN.vars.length ab.length).map cG) 0 false ks,st3)
end
def oH(F G:List ByteArray)(args ab:List ByteArray)(kids:List Nd)(p:Int)(st:ah)(env:List Nat)(o:Int):ah:=
 match kP st.outer.length true true p args 0 {st with outer:=st.outer++[o],args:=st.args++[args.length],ai:=st.ai++[[]]} env with
 |(bN,AT)=>match kP st.outer.length false true p ab 0 bN AT with
  |(M6,ON)=>match kT F G kids M6 ON st.outer.length with
   |(b,st3)=>{st3 with ai:=st3.ai.set st.outer.length b}
def mg:ah:=⟨[],[],[],[],[],none⟩
def dU(F G:List ByteArray)(args ab:List ByteArray)(kids:List Nd):ah:=oH F G args ab kids 0 mg [] (-1)
def Ay(outer:List Int):Nat->Int->List Nat
 |0,_=>[]
 |n+1,u=>if u < 0 then []else u.toNat::Ay outer n (outer.getD u.toNat (-1))
def ah.line(st:ah)(u:Nat):List Nat:=Ay st.outer (st.outer.length+1) u
def ah.af(st:ah)(v:Nat):Nat:=((st.vars[v]?).map (·.unit)).getD 0
def ah.bt(st:ah)(v:Nat):Int:=((st.vars[v]?).map (·.own)).getD 0
def ah.rem(st:ah)(v:Nat):Bool:=st.uses.any fun q=>decide (q.2=v)&&decide (st.bt v < 0)&&decide (st.af v≠q.1)
def ah.way(st:ah)(u v:Nat):List Nat:=(st.line u).takeWhile fun w=>decide (w≠st.af v)
def ah.bg(st:ah)(u:Nat)(t:Nat×Int):Bool:=st.uses.any fun q=>decide ((st.af q.2,st.bt q.2)=t)&&decide (u∈st.way q.1 q.2)
def ah.things(st:ah)(o:Nat):List (Nat×Int):=(List.range (st.args.getD o 0+1)).map fun i:Nat=>(o,(i:Int) - 1)
def ah.copied(st:ah)(u:Nat):List (Nat×Int):=((st.line u).drop 1).reverse.flatMap fun o=>(st.things o).filter (st.bg u)
def ah.locals(st:ah)(u:Nat)(r:Bool):List Nat:=(List.range st.vars.length).filter fun v=>decide (st.af v=u)&&decide (st.bt v < 0)&&decide (st.rem v=r)
def mW {α:Type}[DecidableEq α](l:List α)(x:α):Int:=match l.findIdx? (fun y=>decide (y=x))with|some i=>i|none=>-1
def ah.place(st:ah)(u:Nat)(t:Nat×Int):Int:=
 if t.1=u then(if 0<=t.2 then t.2 else st.args.getD u 0+(st.copied u).length+(st.locals u false).length)
 else match(st.copied u).findIdx? (fun y=>decide (y=t))with
  |some i=>st.args.getD u 0+i
  |none=>-1
def ah.known(st:ah)(u v:Nat):zY:=
 if 0<=st.bt v then⟨5,st.place u (st.af v,st.bt v),0,e0⟩
 else if st.rem v then⟨6,st.place u (st.af v,-1),mW (st.locals (st.af v) true) v,e0⟩
 else⟨5,st.args.getD u 0+(st.copied u).length+mW (st.locals u false) v,0,e0⟩
def ah.fix(st:ah)(u:Nat)(r:zY):zY:=if r.kind=99 then st.known u r.index.toNat else r
mutual
def gN(st:ah)(u:Nat):PN->PN
 |.mk k s l rs n b kids=>.mk k s l (rs.map (st.fix u)) n b (fw st u kids)
def fw(st:ah)(u:Nat):List PN->List PN
 |[]=>[]
 |x::r=>gN st u x::fw st u r
end
structure wY where
 outer:Int
 args:Int
 copied:List zY
 locals:Int
 aA:Int
 body:List PN
def ah.aG(st:ah)(u:Nat):wY:=
 ⟨st.outer.getD u (-1),st.args.getD u 0,(st.copied u).map fun t=>⟨5,st.place (st.outer.getD u (-1)).toNat t,0,e0⟩,(st.locals u false).length,(st.locals u true).length,fw st u (st.ai.getD u [])⟩
def wY.frame(x:wY):Int:=x.args+x.copied.length+x.locals+(if 0 < x.aA then 1 else 0)
def wY.UJ(x:wY):Bool:=decide (63 < x.frame)||decide (63 < x.aA)
def ah.answer(st:ah):List wY×Nat×Int:=
 match st.f with
 |some f=>([],f)
 |none=>if 255 < st.outer.length then([],183,0)
  else if((List.range st.outer.length).map st.aG).any wY.UJ then([],183,0)
  else((List.range st.outer.length).map st.aG,0,0)
end Go.V

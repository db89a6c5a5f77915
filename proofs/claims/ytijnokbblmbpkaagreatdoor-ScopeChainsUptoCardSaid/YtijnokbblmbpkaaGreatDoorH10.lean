/-
  A part of the proof.
-/
import Derived.Test.YtijnokbblmbpkaaGreatDoorH4
import Derived.Test.YtijnokbblmbpkaaGreatDoorProg
import Derived.WalkKit
import Derived.LaidEql
import Derived.Stop.Asserts
import Derived.RowKitTokens
import Derived.KernelRfl
import Derived.Test.YtijnokbblmbpkaaGreatDoorH6
import Derived.Test.YtijnokbblmbpkaaGreatDoorH5
import Derived.Test.YtijnokbblmbpkaaGreatDoorH3
import Derived.Shelf.SlMaps.Clone
import Derived.Shelf.Lay
set_option linter.all false
set_option maxRecDepth 100000
set_option maxHeartbeats 12800000
namespace Go.Proofs.YtijnokbblmbpkaaGreatDoor
open Go Go.RowKit Go.Extern.Stop Go.Stop Go.Extern
def rq (h w) : (Go.method 543 242 (.agg #[h]) "Kind").run Tryz.prog w = .ok (360, h) w := by kernel_rfl
def rp (h w) : (Go.method 543 242 (.agg #[h]) "Elem").run Tryz.prog w = .ok (372, .agg #[h]) w := by kernel_rfl
def dJ (h w) : (Go.method 543 242 (.agg #[h]) "Implements").run Tryz.prog w = .ok (373, .agg #[h]) w := by kernel_rfl
def yY (h w) : (Go.method 543 242 (.agg #[h]) "AssignableTo").run Tryz.prog w = .ok (370, .agg #[h]) w := by kernel_rfl
def rlm(z:Sem Value)(f:TypeId->Addr->Nat->Nat->Sem Value)(v):
 ReflectliteValue.method z f #[v]=(do match <- ReflectliteValue.parts v with|none=>z|some (t,a,fl)=>f t a fl (fl%32)):=rfl
def rls(v x):ReflectliteValue.set #[v,x]=(do
 let(some (dst,a,fl),some (src,b,_)):=(<- ReflectliteValue.parts v,<- ReflectliteValue.parts x)
  | unsupported (.noEntry "extern/(internal/reflectlite.Value).Set.zeroValue")
 if fl/ReflectliteValue.flagAddr%2 == 0 then unsupported (.noEntry "extern/(internal/reflectlite.Value).Set.unaddressable")
 let val <- loadVar src b
 if <- Rtype.directlyAssignable dst src then storeVar dst a val
 else if <- Rtype.implements dst src then
  if(<- Rtype.kind src)==20 then
   match val with
   | .nilIface => unsupported (.noEntry "extern/reflectlite: a nil value of one interface type handed on as a value of another")
   |_=>storeVar dst a val
  else storeVar dst a (.iface src val)
 else panicString ("reflectlite.Set: value of type " ++ (← Rtype.spelt src) ++ " is not assignable to type " ++ (← Rtype.spelt dst))
 pure (.tuple #[])):=rfl
def SF(t w):(ReflectliteValue.unpack (.iface 82 (.pointer (some t)))).run Tryz.prog w
 =.ok (.agg #[.pointer (some ⟨9,82,none⟩),.pointer (some ⟨w.heap.size,0,none⟩),.int .u64 150]) (w.alloc (.cells #[.pointer (some t)] 82)):=by kernel_rfl
def type82 (a w) : (ReflectliteValue.methodAny (ReflectliteValue.valueError "reflectlite.Value.Type" 0) (λt _ _ _ => ReflectliteType.toType t) #[.agg #[.pointer (some ⟨9, 82, none⟩), .pointer (some a), .int .u64 150]]).run Tryz.prog w
 =.ok (.iface 242 (.agg #[.pointer (some ⟨9,82,none⟩)])) w:=by kernel_rfl
def kind82(w):((ReflectliteType.abiMethod λt=>(λa:Nat=>Value.int IntKind.u8 (a:Int)) <$> Rtype.kind t) #[.pointer (some ⟨9,82,none⟩)]).run Tryz.prog w=.ok (.int .u8 22) w:=by kernel_rfl
def kind80(w):((ReflectliteType.abiMethod λt=>(λa:Nat=>Value.int IntKind.u8 (a:Int)) <$> Rtype.kind t) #[.pointer (some ⟨9,80,none⟩)]).run Tryz.prog w=.ok (.int .u8 22) w:=by kernel_rfl
def Oo(a w):(ReflectliteValue.parts (.agg #[.pointer (some ⟨9,82,none⟩),.pointer (some a),.int .u64 150])).run Tryz.prog w=.ok (some (82,a,150)) w:=by kernel_rfl
def und82:Tryz.prog.underlying 82=some (.pointer 80):=by kernel_rfl
def isNil82(a p W)(d:W.cell? a=some (.pointer (some p))):
 (ReflectliteValue.method (ReflectliteValue.valueError "reflectlite.Value.IsNil" 0) ReflectliteValue.isNil #[.agg #[.pointer (some ⟨9, 82, none⟩), .pointer (some a), .int .u64 150]]).run Tryz.prog W = .ok (.bool false) W := by
 rw[rlm];simp only[Sem.run_bind,Oo,Result.andThen];simp[ReflectliteValue.isNil,loadVar,isAgg,underlying,und82,d,Result.andThen]
def elem82(w):(ReflectliteType.method ReflectliteType.elem #[.agg #[.pointer (some ⟨9,82,none⟩)]]).run Tryz.prog w=.ok (.iface 242 (.agg #[.pointer (some ⟨9,80,none⟩)])) w:=by kernel_rfl
def GY (w) : (ReflectliteType.relation "Implements" ReflectliteType.implements_ #[.agg #[.pointer (some ⟨9, 80, none⟩)], .iface 242 (.agg #[.pointer (some ⟨9, 50, none⟩)])]).run Tryz.prog w = .ok (.bool true) w := by kernel_rfl
def Uw(w):(Rtype.elem? 82).run Tryz.prog w=.ok (some 80) w:=by kernel_rfl
def mk80(p w):(ReflectliteValue.mk 80 p ReflectliteValue.flagAddr).run Tryz.prog w=.ok (.agg #[.pointer (some ⟨9,80,none⟩),.pointer (some p),.int .u64 406]) w:=by kernel_rfl
def ω(a p W)(d:W.cell? a=some (.pointer (some p))):
 (ReflectliteValue.method (ReflectliteValue.valueError "reflectlite.Value.Elem" 0) ReflectliteValue.elem #[.agg #[.pointer (some ⟨9, 82, none⟩), .pointer (some a), .int .u64 150]]).run Tryz.prog W
   =.ok (.agg #[.pointer (some ⟨9,80,none⟩),.pointer (some p),.int .u64 406]) W:=by
 rw[rlm];simp only[Sem.run_bind,Oo,Result.andThen];simp[ReflectliteValue.elem,loadVar,isAgg,underlying,und82,d,Result.andThen,Uw,mk80]
def XF(a w):(ReflectliteValue.parts (.agg #[.pointer (some ⟨9,80,none⟩),.pointer (some a),.int .u64 406])).run Tryz.prog w=.ok (some (80,a,406)) w:=by kernel_rfl
def parts80(a w):(ReflectliteValue.parts (.agg #[.pointer (some ⟨9,80,none⟩),.pointer (some a),.int .u64 150])).run Tryz.prog w=.ok (some (80,a,150)) w:=by kernel_rfl
def Up(w):(Rtype.directlyAssignable 80 80).run Tryz.prog w=.ok true w:=by kernel_rfl
def Dm(t w):(ReflectliteValue.unpack (.iface 129 (.pointer (some t)))).run Tryz.prog w
 =.ok (.agg #[.pointer (some ⟨9,129,none⟩),.pointer (some ⟨w.heap.size,0,none⟩),.int .u64 150]) (w.alloc (.cells #[.pointer (some t)] 129)):=by kernel_rfl
def type129 (a w) : (ReflectliteValue.methodAny (ReflectliteValue.valueError "reflectlite.Value.Type" 0) (λt _ _ _ => ReflectliteType.toType t) #[.agg #[.pointer (some ⟨9, 129, none⟩), .pointer (some a), .int .u64 150]]).run Tryz.prog w
 =.ok (.iface 242 (.agg #[.pointer (some ⟨9,129,none⟩)])) w:=by kernel_rfl
def Oe(w):((ReflectliteType.abiMethod λt=>(λa:Nat=>Value.int IntKind.u8 (a:Int)) <$> Rtype.kind t) #[.pointer (some ⟨9,129,none⟩)]).run Tryz.prog w=.ok (.int .u8 22) w:=by kernel_rfl
def WU(w):((ReflectliteType.abiMethod λt=>(λa:Nat=>Value.int IntKind.u8 (a:Int)) <$> Rtype.kind t) #[.pointer (some ⟨9,44,none⟩)]).run Tryz.prog w=.ok (.int .u8 2) w:=by kernel_rfl
def JP(a w):(ReflectliteValue.parts (.agg #[.pointer (some ⟨9,129,none⟩),.pointer (some a),.int .u64 150])).run Tryz.prog w=.ok (some (129,a,150)) w:=by kernel_rfl
def YY:Tryz.prog.underlying 129=some (.pointer 44):=by kernel_rfl
def Jq(a p W)(d:W.cell? a=some (.pointer (some p))):
 (ReflectliteValue.method (ReflectliteValue.valueError "reflectlite.Value.IsNil" 0) ReflectliteValue.isNil #[.agg #[.pointer (some ⟨9, 129, none⟩), .pointer (some a), .int .u64 150]]).run Tryz.prog W = .ok (.bool false) W := by
 rw[rlm];simp only[Sem.run_bind,JP,Result.andThen];simp[ReflectliteValue.isNil,loadVar,isAgg,underlying,YY,d,Result.andThen]
def NO(w):(ReflectliteType.method ReflectliteType.elem #[.agg #[.pointer (some ⟨9,129,none⟩)]]).run Tryz.prog w=.ok (.iface 242 (.agg #[.pointer (some ⟨9,44,none⟩)])) w:=by kernel_rfl
def sw (w) : (ReflectliteType.relation "Implements" ReflectliteType.implements_ #[.agg #[.pointer (some ⟨9, 44, none⟩)], .iface 242 (.agg #[.pointer (some ⟨9, 50, none⟩)])]).run Tryz.prog w = .ok (.bool true) w := by kernel_rfl
def Pu(w):(Rtype.elem? 129).run Tryz.prog w=.ok (some 44) w:=by kernel_rfl
def mk44(p w):(ReflectliteValue.mk 44 p ReflectliteValue.flagAddr).run Tryz.prog w=.ok (.agg #[.pointer (some ⟨9,44,none⟩),.pointer (some p),.int .u64 386]) w:=by kernel_rfl
def IQ(a p W)(d:W.cell? a=some (.pointer (some p))):
 (ReflectliteValue.method (ReflectliteValue.valueError "reflectlite.Value.Elem" 0) ReflectliteValue.elem #[.agg #[.pointer (some ⟨9, 129, none⟩), .pointer (some a), .int .u64 150]]).run Tryz.prog W
   =.ok (.agg #[.pointer (some ⟨9,44,none⟩),.pointer (some p),.int .u64 386]) W:=by
 rw[rlm];simp only[Sem.run_bind,JP,Result.andThen];simp[ReflectliteValue.elem,loadVar,isAgg,underlying,YY,d,Result.andThen,Pu,mk44]
def XE(a w):(ReflectliteValue.parts (.agg #[.pointer (some ⟨9,44,none⟩),.pointer (some a),.int .u64 386])).run Tryz.prog w=.ok (some (44,a,386)) w:=by kernel_rfl
def parts44(a w):(ReflectliteValue.parts (.agg #[.pointer (some ⟨9,44,none⟩),.pointer (some a),.int .u64 130])).run Tryz.prog w=.ok (some (44,a,130)) w:=by kernel_rfl
def Uo(w):(Rtype.directlyAssignable 44 44).run Tryz.prog w=.ok true w:=by kernel_rfl
def Kk(v w):(ReflectliteType.typeOf #[.iface 80 v]).run Tryz.prog w=.ok (.iface 242 (.agg #[.pointer (some ⟨9,80,none⟩)])) w:=by kernel_rfl
def x5 (w) : (ReflectliteType.relation "AssignableTo" ReflectliteType.assignableTo #[.agg #[.pointer (some ⟨9, 80, none⟩)], .iface 242 (.agg #[.pointer (some ⟨9, 80, none⟩)])]).run Tryz.prog w = .ok (.bool true) w := by kernel_rfl
def x4 (w) : (ReflectliteType.relation "AssignableTo" ReflectliteType.assignableTo #[.agg #[.pointer (some ⟨9, 80, none⟩)], .iface 242 (.agg #[.pointer (some ⟨9, 44, none⟩)])]).run Tryz.prog w = .ok (.bool false) w := by kernel_rfl
def SE(e w):(ReflectliteValue.unpack (.iface 80 (.pointer (some e)))).run Tryz.prog w
 =.ok (.agg #[.pointer (some ⟨9,80,none⟩),.pointer (some ⟨w.heap.size,0,none⟩),.int .u64 150]) (w.alloc (.cells #[.pointer (some e)] 80)):=by kernel_rfl
def Kj(v w):(ReflectliteType.typeOf #[.iface 44 v]).run Tryz.prog w=.ok (.iface 242 (.agg #[.pointer (some ⟨9,44,none⟩)])) w:=by kernel_rfl
def np (w) : (ReflectliteType.relation "AssignableTo" ReflectliteType.assignableTo #[.agg #[.pointer (some ⟨9, 44, none⟩)], .iface 242 (.agg #[.pointer (some ⟨9, 44, none⟩)])]).run Tryz.prog w = .ok (.bool true) w := by kernel_rfl
def F0(n:Int)(w:World):(ReflectliteValue.unpack (.iface 44 (.int .i64 n))).run Tryz.prog w
 =.ok (.agg #[.pointer (some ⟨9,44,none⟩),.pointer (some ⟨w.heap.size,0,none⟩),.int .u64 130]) (w.alloc (.cells #[.int .i64 n] 44)):=by kernel_rfl
def YH(v x w):(Instr.typeAssert (.iface 80 v) x 247 true).run Tryz.prog w=.ok (.tuple #[.nilIface,.bool false]) w:=run_typeAssert_lacksB Tryz.underlying247 (by kernel_rfl) (by kernel_rfl) v x w
def YR(v x w):(Instr.typeAssert (.iface 80 v) x 250 true).run Tryz.prog w=.ok (.tuple #[.iface 80 v,.bool true]) w:=run_typeAssert_hasB Tryz.underlying250 (by kernel_rfl) v x w
def YS(v x w):(Instr.typeAssert (.iface 80 v) x 252 true).run Tryz.prog w=.ok (.tuple #[.nilIface,.bool false]) w:=run_typeAssert_lacksB Tryz.underlying252 (by kernel_rfl) (by kernel_rfl) v x w
def Hj (e w) : (Go.method 543 80 (.pointer (some e)) "Unwrap").run Tryz.prog w = .ok (365, .pointer (some e)) w := by kernel_rfl
def Pr(d b e g W)(j:W.cell? b=some (.pointer (some e)))(q:W.cell? d=some g)(m:W.frozen? d=false):
 (ReflectliteValue.set #[.agg #[.pointer (some ⟨9,80,none⟩),.pointer (some d),.int .u64 406],.agg #[.pointer (some ⟨9,80,none⟩),.pointer (some b),.int .u64 150]]).run Tryz.prog W
   =.ok (.tuple #[]) (W.setCell d (.pointer (some e))):=by
 rw[rls];simp only[Sem.run_bind,XF,parts80,Result.andThen];simp[ReflectliteValue.flagAddr,loadVar,isAgg,underlying,Tryz.underlying80,j,Result.andThen,Up,storeVar,Value.cells,storeCells,Addr.add];rw[run_store Tryz.prog W d _ _ Zr];simp[q,m]
set_option maxHeartbeats 4000000 in
def θ(e t d w)(hg:w.cell? ⟨0,0,none⟩=some (.iface 242 (.agg #[.pointer (some ⟨9,50,none⟩)])))(ht0:w.cell? t=some d)(hf0:w.frozen? t=false):
 Calls Tryz.prog 33 #[.iface 80 (.pointer (some e)),.iface 82 (.pointer (some t))] w λev w'=>ev=.returned (.bool true)/\w'=((((w.alloc (.cells #[.pointer (some t)] 82)).alloc (.cells #[.pointer (some ⟨9,82,none⟩),.pointer (some ⟨w.heap.size,0,none⟩),.int .u64 150] 162)).alloc (.cells #[.pointer (some ⟨9,82,none⟩),.pointer (some ⟨w.heap.size,0,none⟩),.int .u64 150] 162)).alloc (.cells #[.pointer (some e)] 80)).setCell t (.pointer (some e)):=by
 have h6 := @run_callFunc_extern Tryz.prog 81 _ (λa5 => ReflectliteValue.unpack (a5.getD 0 (.tuple #[]))) Tryz.func81 (by kernel_rfl) (by kernel_rfl) (by kernel_rfl) (by kernel_rfl);have h7 := @run_callFunc_extern Tryz.prog 82 _ (ReflectliteValue.methodAny (ReflectliteValue.valueError "reflectlite.Value.Type" 0) (λt _ _ _ => ReflectliteType.toType t)) Tryz.func82 (by kernel_rfl) (by kernel_rfl) (by kernel_rfl) (by kernel_rfl);have h8 := @run_callFunc_extern Tryz.prog 83 _ (ReflectliteValue.method (ReflectliteValue.valueError "reflectlite.Value.IsNil" 0) ReflectliteValue.isNil) Tryz.func83 (by kernel_rfl) (by kernel_rfl) (by kernel_rfl) (by kernel_rfl);have m := @run_callFunc_extern Tryz.prog 360 _ (ReflectliteType.abiMethod λt => do pure (.int .u8 (← Rtype.kind t))) Tryz.func360 (by kernel_rfl) (by kernel_rfl) (by kernel_rfl) (by kernel_rfl);have s := @run_callFunc_extern Tryz.prog 372 _ (ReflectliteType.method ReflectliteType.elem) Tryz.func372 (by kernel_rfl) (by kernel_rfl) (by kernel_rfl) (by kernel_rfl);have A := @run_callFunc_extern Tryz.prog 373 _ (ReflectliteType.relation "Implements" ReflectliteType.implements_) Tryz.func373 (by kernel_rfl) (by kernel_rfl) (by kernel_rfl) (by kernel_rfl);have tz := @run_callFunc_extern Tryz.prog 141 _ ReflectliteType.typeOf Tryz.func141 (by kernel_rfl) (by kernel_rfl) (by kernel_rfl) (by kernel_rfl);have q := @run_callFunc_extern Tryz.prog 370 _ (ReflectliteType.relation "AssignableTo" ReflectliteType.assignableTo) Tryz.func370 (by kernel_rfl) (by kernel_rfl) (by kernel_rfl) (by kernel_rfl);have I3 := @run_callFunc_extern Tryz.prog 142 _ (ReflectliteValue.method (ReflectliteValue.valueError "reflectlite.Value.Elem" 0) ReflectliteValue.elem) Tryz.func142 (by kernel_rfl) (by kernel_rfl) (by kernel_rfl) (by kernel_rfl);have SW := @run_callFunc_extern Tryz.prog 143 _ ReflectliteValue.set Tryz.func143 (by kernel_rfl) (by kernel_rfl) (by kernel_rfl) (by kernel_rfl);have tO := Kk;have mA := yY;have g := x5;have F := SE;have f6 := SF;have f7 := type82;have mK := rq;have mE := rp;have mI := dJ;have E := kind82;have D := kind80;have j := elem82;have C := GY;have n8 := isNil82 ⟨w.heap.size, 0, none⟩ t ((w.alloc (.cells #[.pointer (some t)] 82)).alloc (.cells #[.pointer (some ⟨9, 82, none⟩), .pointer (some ⟨w.heap.size, 0, none⟩), .int .u64 150] 162)) Zs;have aI : 0<w.heap.size := by
  exact zDZ
 have B:((w.alloc (.cells #[.pointer (some t)] 82)).alloc (.cells #[.pointer (some ⟨9,82,none⟩),.pointer (some ⟨w.heap.size,0,none⟩),.int .u64 150] 162)).cell? ⟨0,0,none⟩=some (.iface 242 (.agg #[.pointer (some ⟨9,50,none⟩)])):=zDE
 have sr:t.block<w.heap.size:=zD7
 have el:=ω ⟨w.heap.size,0,none⟩ t (((w.alloc (.cells #[.pointer (some t)] 82)).alloc (.cells #[.pointer (some ⟨9,82,none⟩),.pointer (some ⟨w.heap.size,0,none⟩),.int .u64 150] 162)).alloc (.cells #[.pointer (some ⟨9,82,none⟩),.pointer (some ⟨w.heap.size,0,none⟩),.int .u64 150] 162)) (by rw[World.cell?_alloc_lt _ _ ⟨w.heap.size,0,none⟩ tK];simp);have st:=Pr t ⟨w.heap.size+1+1+1,0,none⟩ e d ((((w.alloc (.cells #[.pointer (some t)] 82)).alloc (.cells #[.pointer (some ⟨9,82,none⟩),.pointer (some ⟨w.heap.size,0,none⟩),.int .u64 150] 162)).alloc (.cells #[.pointer (some ⟨9,82,none⟩),.pointer (some ⟨w.heap.size,0,none⟩),.int .u64 150] 162)).alloc (.cells #[.pointer (some e)] 80))
  (by rw[World.cell?_alloc_at _ _ _ _ Zs];rfl)
  Zav
  Zaw
 go_enter Tryz.func33,Tryz.ntmps33
 go_wp2
 refine wp_loop_rounds 1 ?_;rw[rounds_succ]
 go_wp2
 go_ret
 exact⟨rfl,rfl⟩
def Po(ta b:Addr)(n:Int)(d:Value)(W:World)(hb:W.cell? b=some (.int .i64 n))(ht:W.cell? ta=some d)(hf:W.frozen? ta=false):
 (ReflectliteValue.set #[.agg #[.pointer (some ⟨9,44,none⟩),.pointer (some ta),.int .u64 386],.agg #[.pointer (some ⟨9,44,none⟩),.pointer (some b),.int .u64 130]]).run Tryz.prog W
   =.ok (.tuple #[]) (W.setCell ta (.int .i64 n)):=zCN
set_option maxHeartbeats 4000000 in
def as_num(n:Int)(t:Addr)(d:Value)(w:World)(hg:w.cell? ⟨0,0,none⟩=some (.iface 242 (.agg #[.pointer (some ⟨9,50,none⟩)])))(ht0:w.cell? t=some d)(hf0:w.frozen? t=false):
 Calls Tryz.prog 33 #[.iface 44 (.int .i64 n),.iface 129 (.pointer (some t))] w λev w'=>ev=.returned (.bool true)/\w'=((((w.alloc (.cells #[.pointer (some t)] 129)).alloc (.cells #[.pointer (some ⟨9,129,none⟩),.pointer (some ⟨w.heap.size,0,none⟩),.int .u64 150] 162)).alloc (.cells #[.pointer (some ⟨9,129,none⟩),.pointer (some ⟨w.heap.size,0,none⟩),.int .u64 150] 162)).alloc (.cells #[.int .i64 n] 44)).setCell t (.int .i64 n):=by
 have h6 := @run_callFunc_extern Tryz.prog 81 _ (λa5 => ReflectliteValue.unpack (a5.getD 0 (.tuple #[]))) Tryz.func81 (by kernel_rfl) (by kernel_rfl) (by kernel_rfl) (by kernel_rfl);have h7 := @run_callFunc_extern Tryz.prog 82 _ (ReflectliteValue.methodAny (ReflectliteValue.valueError "reflectlite.Value.Type" 0) (λt _ _ _ => ReflectliteType.toType t)) Tryz.func82 (by kernel_rfl) (by kernel_rfl) (by kernel_rfl) (by kernel_rfl);have h8 := @run_callFunc_extern Tryz.prog 83 _ (ReflectliteValue.method (ReflectliteValue.valueError "reflectlite.Value.IsNil" 0) ReflectliteValue.isNil) Tryz.func83 (by kernel_rfl) (by kernel_rfl) (by kernel_rfl) (by kernel_rfl);have m := @run_callFunc_extern Tryz.prog 360 _ (ReflectliteType.abiMethod λt => do pure (.int .u8 (← Rtype.kind t))) Tryz.func360 (by kernel_rfl) (by kernel_rfl) (by kernel_rfl) (by kernel_rfl);have s := @run_callFunc_extern Tryz.prog 372 _ (ReflectliteType.method ReflectliteType.elem) Tryz.func372 (by kernel_rfl) (by kernel_rfl) (by kernel_rfl) (by kernel_rfl);have A := @run_callFunc_extern Tryz.prog 373 _ (ReflectliteType.relation "Implements" ReflectliteType.implements_) Tryz.func373 (by kernel_rfl) (by kernel_rfl) (by kernel_rfl) (by kernel_rfl);have tz := @run_callFunc_extern Tryz.prog 141 _ ReflectliteType.typeOf Tryz.func141 (by kernel_rfl) (by kernel_rfl) (by kernel_rfl) (by kernel_rfl);have q := @run_callFunc_extern Tryz.prog 370 _ (ReflectliteType.relation "AssignableTo" ReflectliteType.assignableTo) Tryz.func370 (by kernel_rfl) (by kernel_rfl) (by kernel_rfl) (by kernel_rfl);have I3 := @run_callFunc_extern Tryz.prog 142 _ (ReflectliteValue.method (ReflectliteValue.valueError "reflectlite.Value.Elem" 0) ReflectliteValue.elem) Tryz.func142 (by kernel_rfl) (by kernel_rfl) (by kernel_rfl) (by kernel_rfl);have SW := @run_callFunc_extern Tryz.prog 143 _ ReflectliteValue.set Tryz.func143 (by kernel_rfl) (by kernel_rfl) (by kernel_rfl) (by kernel_rfl);have tO := Kj;have mA := yY;have g := np;have F := F0;have f6 := Dm;have f7 := type129;have mK := rq;have mE := rp;have mI := dJ;have E := Oe;have D := WU;have j := NO;have C := sw;have n8 := Jq ⟨w.heap.size, 0, none⟩ t ((w.alloc (.cells #[.pointer (some t)] 129)).alloc (.cells #[.pointer (some ⟨9, 129, none⟩), .pointer (some ⟨w.heap.size, 0, none⟩), .int .u64 150] 162)) Zs;have aI : 0<w.heap.size := by
  exact zDZ
 have B:((w.alloc (.cells #[.pointer (some t)] 129)).alloc (.cells #[.pointer (some ⟨9,129,none⟩),.pointer (some ⟨w.heap.size,0,none⟩),.int .u64 150] 162)).cell? ⟨0,0,none⟩=some (.iface 242 (.agg #[.pointer (some ⟨9,50,none⟩)])):=zDE
 have sr:t.block<w.heap.size:=zD7
 have el:=IQ ⟨w.heap.size,0,none⟩ t (((w.alloc (.cells #[.pointer (some t)] 129)).alloc (.cells #[.pointer (some ⟨9,129,none⟩),.pointer (some ⟨w.heap.size,0,none⟩),.int .u64 150] 162)).alloc (.cells #[.pointer (some ⟨9,129,none⟩),.pointer (some ⟨w.heap.size,0,none⟩),.int .u64 150] 162)) (by rw[World.cell?_alloc_lt _ _ ⟨w.heap.size,0,none⟩ tK];simp);have st:=Po t ⟨w.heap.size+1+1+1,0,none⟩ n d ((((w.alloc (.cells #[.pointer (some t)] 129)).alloc (.cells #[.pointer (some ⟨9,129,none⟩),.pointer (some ⟨w.heap.size,0,none⟩),.int .u64 150] 162)).alloc (.cells #[.pointer (some ⟨9,129,none⟩),.pointer (some ⟨w.heap.size,0,none⟩),.int .u64 150] 162)).alloc (.cells #[.int .i64 n] 44))
  (by rw[World.cell?_alloc_at _ _ _ _ Zs];rfl)
  Zav
  Zaw
 go_enter Tryz.func33,Tryz.ntmps33
 go_wp2
 refine wp_loop_rounds 1 ?_;rw[rounds_succ]
 go_wp2
 go_ret
 exact⟨rfl,rfl⟩
def Pq(ta b:Addr)(n:Int)(d:Value)(W:World)(hb:W.cell? b=some (.int .i64 n))(ht:W.cell? ta=some d)(hf:W.frozen? ta=false):
 (ReflectliteValue.set #[.agg #[.pointer (some ⟨9,44,none⟩),.pointer (some ta),.int .u64 386],.agg #[.pointer (some ⟨9,44,none⟩),.pointer (some b),.int .u64 130]]).run Tryz.prog W
   =.ok (.tuple #[]) (W.setCell ta (.int .i64 n)):=zCN
set_option maxHeartbeats 4000000 in
def as_in(e t:Addr)(n:Int)(q:Value)(w:World)(hg:w.cell? ⟨0,0,none⟩=some (.iface 242 (.agg #[.pointer (some ⟨9,50,none⟩)])))(ht0:w.cell? t=some q)(hf0:w.frozen? t=false)(s:w.cell? ⟨e.block,e.off+2,none⟩=some (.iface 44 (.int .i64 n)))(nF:e.spot=none):
 Calls Tryz.prog 33 #[.iface 80 (.pointer (some e)),.iface 129 (.pointer (some t))] w λev w'=>ev=.returned (.bool true)/\w'=((((w.alloc (.cells #[.pointer (some t)] 129)).alloc (.cells #[.pointer (some ⟨9,129,none⟩),.pointer (some ⟨w.heap.size,0,none⟩),.int .u64 150] 162)).alloc (.cells #[.pointer (some ⟨9,129,none⟩),.pointer (some ⟨w.heap.size,0,none⟩),.int .u64 150] 162)).alloc (.cells #[.int .i64 n] 44)).setCell t (.int .i64 n):=by
 have h6 := @run_callFunc_extern Tryz.prog 81 _ (λa5 => ReflectliteValue.unpack (a5.getD 0 (.tuple #[]))) Tryz.func81 (by kernel_rfl) (by kernel_rfl) (by kernel_rfl) (by kernel_rfl);have h7 := @run_callFunc_extern Tryz.prog 82 _ (ReflectliteValue.methodAny (ReflectliteValue.valueError "reflectlite.Value.Type" 0) (λt _ _ _ => ReflectliteType.toType t)) Tryz.func82 (by kernel_rfl) (by kernel_rfl) (by kernel_rfl) (by kernel_rfl);have h8 := @run_callFunc_extern Tryz.prog 83 _ (ReflectliteValue.method (ReflectliteValue.valueError "reflectlite.Value.IsNil" 0) ReflectliteValue.isNil) Tryz.func83 (by kernel_rfl) (by kernel_rfl) (by kernel_rfl) (by kernel_rfl);have D := @run_callFunc_extern Tryz.prog 360 _ (ReflectliteType.abiMethod λt => do pure (.int .u8 (← Rtype.kind t))) Tryz.func360 (by kernel_rfl) (by kernel_rfl) (by kernel_rfl) (by kernel_rfl);have F := @run_callFunc_extern Tryz.prog 372 _ (ReflectliteType.method ReflectliteType.elem) Tryz.func372 (by kernel_rfl) (by kernel_rfl) (by kernel_rfl) (by kernel_rfl);have G := @run_callFunc_extern Tryz.prog 373 _ (ReflectliteType.relation "Implements" ReflectliteType.implements_) Tryz.func373 (by kernel_rfl) (by kernel_rfl) (by kernel_rfl) (by kernel_rfl);have tz := @run_callFunc_extern Tryz.prog 141 _ ReflectliteType.typeOf Tryz.func141 (by kernel_rfl) (by kernel_rfl) (by kernel_rfl) (by kernel_rfl);have E := @run_callFunc_extern Tryz.prog 370 _ (ReflectliteType.relation "AssignableTo" ReflectliteType.assignableTo) Tryz.func370 (by kernel_rfl) (by kernel_rfl) (by kernel_rfl) (by kernel_rfl);have I3 := @run_callFunc_extern Tryz.prog 142 _ (ReflectliteValue.method (ReflectliteValue.valueError "reflectlite.Value.Elem" 0) ReflectliteValue.elem) Tryz.func142 (by kernel_rfl) (by kernel_rfl) (by kernel_rfl) (by kernel_rfl);have SW := @run_callFunc_extern Tryz.prog 143 _ ReflectliteValue.set Tryz.func143 (by kernel_rfl) (by kernel_rfl) (by kernel_rfl) (by kernel_rfl);have tO := Kk;have M := Kj;have d := YH;have g := YR;have j := YS;have mU := Hj;have mA := yY;have A := x4;have B := np;have N := F0;have f6 := Dm;have f7 := type129;have mK := rq;have mE := rp;have mI := dJ;have L := Oe;have K := WU;have C := NO;have J := sw;have n8 := Jq ⟨w.heap.size, 0, none⟩ t ((w.alloc (.cells #[.pointer (some t)] 129)).alloc (.cells #[.pointer (some ⟨9, 129, none⟩), .pointer (some ⟨w.heap.size, 0, none⟩), .int .u64 150] 162)) Zs;have aI : 0<w.heap.size := by
  exact zDZ
 have I:((w.alloc (.cells #[.pointer (some t)] 129)).alloc (.cells #[.pointer (some ⟨9,129,none⟩),.pointer (some ⟨w.heap.size,0,none⟩),.int .u64 150] 162)).cell? ⟨0,0,none⟩=some (.iface 242 (.agg #[.pointer (some ⟨9,50,none⟩)])):=zDE
 have sr:t.block<w.heap.size:=zD7
 have el:=IQ ⟨w.heap.size,0,none⟩ t (((w.alloc (.cells #[.pointer (some t)] 129)).alloc (.cells #[.pointer (some ⟨9,129,none⟩),.pointer (some ⟨w.heap.size,0,none⟩),.int .u64 150] 162)).alloc (.cells #[.pointer (some ⟨9,129,none⟩),.pointer (some ⟨w.heap.size,0,none⟩),.int .u64 150] 162)) (by rw[World.cell?_alloc_lt _ _ ⟨w.heap.size,0,none⟩ tK];simp);have st:=Pq t ⟨w.heap.size+1+1+1,0,none⟩ n q ((((w.alloc (.cells #[.pointer (some t)] 129)).alloc (.cells #[.pointer (some ⟨9,129,none⟩),.pointer (some ⟨w.heap.size,0,none⟩),.int .u64 150] 162)).alloc (.cells #[.pointer (some ⟨9,129,none⟩),.pointer (some ⟨w.heap.size,0,none⟩),.int .u64 150] 162)).alloc (.cells #[.int .i64 n] 44))
  (by rw[World.cell?_alloc_at _ _ _ _ Zs];rfl)
  Zav
  Zaw
 have m:e.block<w.heap.size:=by
  rcases Nat.lt_or_ge e.block w.heap.size with h|h
  .exact h
  .simp[World.cell?,Array.getElem?_eq_none h]at s
 have H:(((w.alloc (.cells #[.pointer (some t)] 129)).alloc (.cells #[.pointer (some ⟨9,129,none⟩),.pointer (some ⟨w.heap.size,0,none⟩),.int .u64 150] 162)).alloc (.cells #[.pointer (some ⟨9,129,none⟩),.pointer (some ⟨w.heap.size,0,none⟩),.int .u64 150] 162)).cell? ⟨e.block,e.off+2,none⟩=some (.iface 44 (.int .i64 n)):=by
  rw[World.cell?_alloc_lt _ _ ⟨e.block,e.off+2,none⟩ tK,World.cell?_alloc_lt _ _ ⟨e.block,e.off+2,none⟩ tK,World.cell?_alloc_lt _ _ ⟨e.block,e.off+2,none⟩ m];exact s
 go_enter Tryz.func33,Tryz.ntmps33
 go_wp2
 refine wp_loop_rounds 2 ?_;rw[rounds_succ]
 go_wp2
 rw[rounds_succ]
 go_wp2
 go_ret
 exact⟨rfl,rfl⟩
open Go Go.V
def EtA:kC:=.cell 0 0 (.iface 242 (.agg #[.pointer (some ⟨9,50,none⟩)]))
def cH {w b o v}(h:(kC.cell b o v).holds w):w.cell? ⟨b,o,none⟩=some v:=by
 obtain⟨c,t,lo,hi,d,g,hf⟩:=h;simp[World.cell?,d,g]
def flP(b:Nat):Value:=.iface 80 (kE b)
section
variable (A:List kC) (hE:EtA∈A)
include hE
def Np(k:Nat)(b:Nat)(d:Value):aq Tryz.prog 33 [flP k,.iface 82 (kE b)] [A,kA b 0 [d]] (λu dl=>u=.bool true/\dl=[A,kA b 0 [kE k]]):=
 aq.MK (by kernel_rfl) λw q j m=>(θ ⟨k,0,none⟩ ⟨b,0,none⟩ d w (cH (q _ hE)) j m).mono λ_ _ ⟨h,g⟩=>⟨h,[_,_,_,_],g⟩
def As_num(n:Int)(b:Nat)(d:Value):aq Tryz.prog 33 [.iface 44 (vi n),.iface 129 (kE b)] [A,kA b 0 [d]] (λu dl=>u=.bool true/\dl=[A,kA b 0 [vi n]]):=
 aq.MK (by kernel_rfl) λw q j m=>(as_num n ⟨b,0,none⟩ d w (cH (q _ hE)) j m).mono λ_ _ ⟨h,g⟩=>⟨h,[_,_,_,_],g⟩
def As_in(k:Nat)(n:Int)(s:kC.cell k 2 (.iface 44 (vi n))∈A)(b:Nat)(d:Value):aq Tryz.prog 33 [flP k,.iface 129 (kE b)] [A,kA b 0 [d]] (λu dl=>u=.bool true/\dl=[A,kA b 0 [vi n]]):=
 aq.MK (by kernel_rfl) λw g m q=>(as_in ⟨k,0,none⟩ ⟨b,0,none⟩ n d w (cH (g _ hE)) m q (cH (g _ s)) rfl).mono λ_ _ ⟨h,j⟩=>⟨h,[_,_,_,_],j⟩
end
noncomputable section
def F16:aP:=aZ (o:=gF pq Tryz.f16 [])
def low16:Zo9 16 [] F16:=Zx9
end
noncomputable section
def F136:aP:=aZ (o:=gF pq Tryz.f136 [])
def low136:Zo9 136 [] F136:=Zx9
def F70:aP:=aZ (o:=gF pq Tryz.f70 [(20,[.range 24])])
def low70:Zo9 70 [(20,[.range 24])] F70:=Zx9
def F26:aP:=aZ (o:=gF pq Tryz.f26 [])
def low26:Zo9 26 [] F26:=Zx9
abbrev o208:Zo8:=[(6,[.range 8,[0,2,3,1,4,5,6,7]])]
def F208:aP:=aZ (o:=gF pq Tryz.f208 o208)
def low208:Zo9 208 o208 F208:=Zx9
def F113:aP:=aZ (o:=gF pq Tryz.f113 [])
def low113:Zo9 113 [] F113:=Zx9
def F111:aP:=aZ (o:=gF pq Tryz.f111 [])
def low111:Zo9 111 [] F111:=Zx9
abbrev o232:Zo8:=[(5,[.range 18,[0,1,2,3,4,5,6,7,8,9,10,11,12,15,13,14,16,17]])]
def F232:aP:=aZ (o:=gF pq Tryz.f232 o232)
def low232:Zo9 232 o232 F232:=Zx9
def F115:aP:=aZ (o:=gF pq Tryz.f115 [])
def low115:Zo9 115 [] F115:=Zx9
abbrev o116:Zo8:=[(2,[.range 13,[0,1,2,3,5,6,7,8,9,10,4,11,12]]),(5,[.range 12])]
def F116:aP:=aZ (o:=gF pq Tryz.f116 o116)
def low116:Zo9 116 o116 F116:=Zx9
abbrev o175:Zo8:=[(2,[.range 13]),(4,[.range 13,[0,1,2,3,4,5,7,8,9,10,6,11,12]]),(5,[.range 18])]
def F175:aP:=aZ (o:=gF pq Tryz.f175 o175)
def low175:Zo9 175 o175 F175:=Zx9
abbrev o117:Zo8:=[(5,[.range 9,[0,2,3,4,1,5,6,7,8]]),(10,[.range 9,[0,2,3,4,1,5,6,7,8]])]
def F117:aP:=aZ (o:=gF pq Tryz.f117 o117)
def low117:Zo9 117 o117 F117:=Zx9
def F174:aP:=aZ (o:=gF pq Tryz.f174 [(4,[.range 6])])
def low174:Zo9 174 [(4,[.range 6])] F174:=Zx9
end
noncomputable section
def F108:aP:=aZ (o:=gF pq Tryz.f108 [])
def low108:Zo9 108 [] F108:=Zx9
abbrev o209:Zo8:=[(17,[.range 12]),(20,[.range 8])]
def F209:aP:=aZ (o:=gF pq Tryz.f209 o209)
def low209:Zo9 209 o209 F209:=Zx9
def F112:aP:=aZ (o:=gF pq Tryz.f112 [])
def low112:Zo9 112 [] F112:=Zx9
abbrev o49:Zo8:=[(3,[.range 11]),(6,[.range 10,[1,2,3,4,5,6,0,7,8,9]])]
def F49:aP:=aZ (o:=gF pq Tryz.f49 o49)
def low49:Zo9 49 o49 F49:=Zx9
def F109:aP:=aZ (o:=gF pq Tryz.f109 [])
def low109:Zo9 109 [] F109:=Zx9
def F110:aP:=aZ (o:=gF pq Tryz.f110 [])
def low110:Zo9 110 [] F110:=Zx9
abbrev o231:Zo8:=[(6,[[0,1,2,3],[0,2,1,3]])]
def F231:aP:=aZ (o:=gF pq Tryz.f231 o231)
def low231:Zo9 231 o231 F231:=Zx9
def F251:aP:=aZ (o:=gF pq Tryz.f251 [])
def low251:Zo9 251 [] F251:=Zx9
def F252:aP:=aZ (o:=gF pq Tryz.f252 [])
def low252:Zo9 252 [] F252:=Zx9
abbrev o207:Zo8:=[(10,[.range 11,[0,2,3,4,5,6,1,7,8,9,10]])]
def F207:aP:=aZ (o:=gF pq Tryz.f207 o207)
def low207:Zo9 207 o207 F207:=Zx9
abbrev o172:Zo8:=[(29,[.range 8,[0,2,3,4,1,5,6,7]]),(8,[.range 8,[0,2,3,4,1,5,6,7]]),(10,[.range 6])]
def F172:aP:=aZ (o:=gF pq Tryz.f172 o172)
def low172:Zo9 172 o172 F172:=Zx9
end
noncomputable section
abbrev o114:Zo8:=[(22,[.range 7]),(23,[.range 11,[1,0,2,3,4,5,6,7,8,9,10],[1,2,3,4,0,5,6,7,8,9,10],[1,2,3,4,5,6,0,7,8,9,10],[1,2,3,4,5,6,7,0,8,9,10],[0,1,2,3,5,6,4,7,8,9,10],[1,0,2,3,5,6,4,7,8,9,10],[1,2,3,5,6,0,4,7,8,9,10],[1,2,3,5,6,4,0,7,8,9,10],[1,2,3,5,6,4,7,0,8,9,10],[0,5,6,1,2,3,4,7,8,9,10],[5,6,0,1,2,3,4,7,8,9,10],[5,6,1,0,2,3,4,7,8,9,10],[5,6,1,2,3,4,0,7,8,9,10],[5,6,1,2,3,4,7,0,8,9,10]])]
def F114:aP:=aZ (o:=gF pq Tryz.f114 o114)
def low114:Zo9 114 o114 F114:=Zx9
def F173:aP:=aZ (o:=gF pq Tryz.f173 [])
def low173:Zo9 173 [] F173:=Zx9
def F210:aP:=aZ (o:=gF pq Tryz.f210 [])
def low210:Zo9 210 [] F210:=Zx9
abbrev o50:Zo8:=[(12,[.range 19]),(14,[.range 18]),(20,[.range 13,[0,2,3,4,5,6,7,1,8,9,10,11,12]]),(25,[.range 9,[0,2,3,4,1,5,6,7,8]])]
def F50:aP:=aZ (o:=gF pq Tryz.f50 o50)
def low50:Zo9 50 o50 F50:=Zx9
def F15:DIR:=EV (X:=⟨83,[.az 6 3,.cC 7],[(.oJ [qB 3 25 0,qo 6 (.alloc 43 Ne1),
 qo 7 (.alloc 50 [Value.nilIface])] [1,2,3,6,7]),(qS [qN 16 5 3,qx 17 47 [16],qm 8 17] [1,2,3,6,7,8] (qS [qm 18 8,qc 19 .neq 18 0] [1,2,3,6,7,8,19] (qC 19 (qS [qo 20 (.build Ne1 []),qm 21 8,qo 22 (.JB 44 (.tmp 21)),
 qo 23 (.build [.string ⟨#[]⟩,.int .i64 0,Value.nilIface] [(0,1,(.const (.string ⟨#[82,101,115,111,108,118,101]⟩))),(2,1,(.tmp 22))]),
 qB 24 84 23,qo 25 (.JB 80 (.tmp 24)),qs 3 6 20,qs 1 7 25] [6,7] .ret) .skip)))],⟨26,48,[(.tmp 6),(.tmp 7)]⟩,(qS [qo 27 (.p8),qo 28 (.p8),
 qo 29 (.build [(Value.map none),(Value.map none),.slice none 0 0] [(0,1,(.tmp 27)),(1,1,(.tmp 28))]),qB 30 122 29,qm 9 30] [1,2,3,6,7,9] (.seq (qS [qm 31 1,qL 32 31,qk 33 0] [2,3,6,7,9,31,32,33] (.block 0 (.loop (qS [qb 34 .lss 33 32] [2,3,6,7,9,31,32,33,34] (.seq (qC 34 .skip (.exit 0)) (.seq (.block 1 (qS [qm 35 33,qi 36 1 31 33,ql 37 36,qm 10 35,qm 11 37] [2,3,6,7,9,10,11,31,32,33] (qS [qm 39 9,qn 40 39,qf 41 0 40,ql 42 41,qm 43 11,qo 44 (.lookup .str (.int .i64 0) true (.tmp 42) (.tmp 43)),qm 38 44,
 qe 45 38 0,qe 46 38 1,qm 12 45,qm 13 46] [2,3,6,7,9,10,11,13,31,32,33] (qS [qm 47 13,qo 48 (.un .not (.tmp 47))] [2,3,6,7,9,10,11,31,32,33,48] (qC 48 (.oJ [qm 49 9,qn 50 49,qf 51 0 50,ql 52 51,qm 53 11,qm 54 10,⟨none,none,.Cv .str (.tmp 52) (.tmp 53) (.tmp 54)⟩] [2,3,6,7,9,31,32,33]) .skip))))) (.oJ [qc 55 .add 33 1,qm 33 55] [2,3,6,7,9,31,32,33]))))))) (.seq (qS [qm 56 2,qL 57 56,qk 58 0] [3,6,7,9,56,57,58] (.block 2 (.loop (qS [qb 59 .lss 58 57] [3,6,7,9,56,57,58,59] (.seq (qC 59 .skip (.exit 2)) (.seq (.block 3 (qS [qi 60 1 56 58,ql 61 60,qm 15 61] [3,6,7,9,15,56,57,58] (.oJ [qm 62 9,qn 63 62,qf 64 1 63,ql 65 64,qm 66 15,qo 67 (.lookup .str (.int .i64 0) false (.tmp 65) (.tmp 66)),
 qc 68 .add 67 1,⟨none,none,.Cv .str (.tmp 65) (.tmp 66) (.tmp 68)⟩] [3,6,7,9,56,57,58]))) (.oJ [qc 69 .add 58 1,qm 58 69] [3,6,7,9,56,57,58]))))))) (qS [qm 70 9,qf 71 1 3,ql 72 71,qf 73 2 3,ql 74 73,qf 75 4 3,ql 76 75,
 qo 77 (.build [.int .u8 0,.string ⟨#[]⟩,.int .u8 0,.int .i64 0,.int .u64 0,.string ⟨#[]⟩,.slice none 0 0,.slice none 0 0,.slice none 0 0,.slice none 0 0,.int .i64 0] [(7,1,(.tmp 72)),(8,1,(.tmp 74)),(9,1,(.tmp 76))]),
 qo 78 (.p8),qo 79 (.call 49 [(.tmp 70),(.tmp 77),(.const (.pointer none)),(.tmp 78)])] [3,6,7,9] (qS [qm 80 9,qN 81 5 3,qx 82 50 [80,81],qs 3 6 82,⟨none,none,.store 1 (.tmp 7) (.const Value.nilIface)⟩] [6,7] .ret)))))⟩)
def low15:Og pg9 (assoc [(0,[1,2,3,6,7]),(1,[1,2,3,6,7,8]),(2,[1,2,3,6,7,8,19]),(3,[6,7]),(4,[1,2,3,6,7]),(5,[1,2,3,6,7,9]),(6,[2,3,6,7,9,31,32,33]),(7,[2,3,6,7,9,31,32,33,34]),(8,[2,3,6,7,9,10,11,31,32,33]),(9,[2,3,6,7,9,10,11,13,31,32,33]),(10,[2,3,6,7,9,10,11,31,32,33,48]),(11,[2,3,6,7,9,31,32,33]),(12,[2,3,6,7,9,31,32,33]),(13,[3,6,7,9,56,57,58]),(14,[3,6,7,9,56,57,58,59]),(15,[3,6,7,9,15,56,57,58]),(16,[3,6,7,9,56,57,58]),(17,[3,6,7,9,56,57,58]),(18,[3,6,7,9]),(19,[6,7])]) (assoc []) 15=some F15:=by kernel_rfl
def F48:RIR:=EV (X:=⟨13,[],5,[qo 6 (.iB 80 (.pointer none) true (.tmp 5)),qm 4 6,qe 7 4 0,qe 8 4 1,qm 2 7,qm 3 8],(qS [qm 9 3] [0,1,2,9] (qC 9 (.oJ [qo 10 (.build Ne1 []),qm 11 2,qo 12 (.JB 80 (.tmp 11)),
 qs 3 0 10,qs 1 1 12] []) .skip))⟩)
def low48:Oh pg9 (assoc [(0,[0,1,2,3]),(1,[0,1,2,9]),(2,[])]) (assoc []) 48=some F48:=by kernel_rfl
def F27:aP:=aZ (o:=gF pq Tryz.f27 [])
def low27:Zo9 27 [] F27:=Zx9
abbrev o71:Zo8:=[(9,[.range 8,[0,1,3,4,2,5,6,7]])]
def F71:aP:=aZ (o:=gF pq Tryz.f71 o71)
def low71:Zo9 71 o71 F71:=Zx9
end
noncomputable def thF0:Field:=((pg9.fieldsOf 217)[0]?).getD default
noncomputable def thF1:Field:=((pg9.fieldsOf 217)[1]?).getD default
noncomputable def i206:TypeInfo:=(pg9.info? 206).getD default
noncomputable def i3:TypeInfo:=(pg9.info? 3).getD default
def thP:ThP pg9 217 199 206:=
 ⟨⟨thF0,thF1,by kernel_rfl,by kernel_rfl,by kernel_rfl,by decide+kernel,by decide+kernel,by kernel_rfl,by kernel_rfl⟩,⟨i206,by kernel_rfl,by decide+kernel⟩,by kernel_rfl,by kernel_rfl,⟨3,i3,by kernel_rfl,by kernel_rfl,by kernel_rfl⟩⟩
def u124:Tryz.prog.underlying 124=some (.pointer 206):=by kernel_rfl
def GU:Tryz.prog.info? 206=some i206:=by kernel_rfl
def GW:i206.size≠0:=by decide+kernel
def SD(st U Vs)(D:di st U Vs)(i v u y)(hu:U[i]? =some u)(A:Vs[v]? =some y)(hl:st.ah v∈st.line i)(hb:st.dg.length < 1073741824):
 aq pg9 232 [kE u.q,kE y.q] [WK U Vs] (λr dl=>∃J L,(r=.tuple #[]/\di (st.use i v) J L/\J.map UC.q=U.map UC.q/\J.map UC.body=U.map UC.body/\L.map aC.q=Vs.map aC.q)/\dl=[WK J L]):=by
 have hwf:=D.wf;have cm:i<st.a7.length:=by have:=(Vt.1 hu).1;rw[D.ul]at this;exact this
 have xE:v<st.vars.length:=by have:=(Vt.1 A).1;rw[D.vl]at this;exact this
 obtain⟨x,hx⟩:∃x,st.vars[v]? =some x:=⟨_,Zg xE⟩;have huo:st.ah v=x.cg:=by unfold ai.ah;rw[hx];rfl
 have hoo:st.aT v=x.own:=by unfold ai.aT;rw[hx];rfl
 obtain⟨⟨w,hw,hyw⟩,hya,T,bQ,l6⟩:=D.vn v x y hx A;have M:=(hwf.vu v x hx).2;have Q:w.q=u.q->x.cg=i:=λe=>cT.XK D hw hu e
 have G:z7 (WK U Vs) w.q:=iE hw;have F:z7 (WK U Vs) u.q:=iE hu;have W:kC.cell y.q 0 (kE w.q)∈WK U Vs:=nh A _ (kI.2 ⟨0,_,by unfold aC.row;rw[hyw];rfl,rfl⟩);have m1:kC.cell y.q 1 (vi x.own)∈WK U Vs:=nh A _ (kI.2 ⟨1,_,by unfold aC.row;rw[hya];rfl,rfl⟩);refine aq.intro low232 Zn9 ?_;generalize K:WK U Vs=B at G F W m1|-;refine af ?_;refine st_eqp u124 GU GW Zr Zr (F.more Zs) (G.more Zs) ?_;refine af ?_;by_cases he:u.q=w.q
 .rw[Zt he];refine af ?_;refine kG (dl:=[B]) (.inr rfl) .nil ⟨U,Vs,⟨rfl,?_,rfl,rfl,rfl⟩,by rw[K]⟩ ZI;have e1:i=st.ah v:=by rw[huo];exact(Q he.symm).symm
  refine cT.congr (D.useS cm xE) (λj t=>?_) (λk=>?_) (λk=>?_)
  .rw[CR,hwf.oO Zo e1];simp
  .rw[Hv];by_cases e:v=k
   .subst e;simp[<- e1]
   .simp[e]
  .show st.dg.length<=(st.dg++[(i,v)]).length;rw[Vz];omega
 rw[Zf he];refine af ?_;have S:i≠st.ah v:=λe=>he (by
  rw[huo]at e;rw[<- e,hu]at hw;rw[X8 hw])
 have O:∀k,(st.use i v).rem k=(st.rem k||(decide (v=k)&&decide (x.own<0))):=λk=>by
  rw[Hv];by_cases e:v=k
  .subst e;rw[hoo,show decide (st.ah v≠i)=true from Zt (λe=>S e.symm),vI]
  .simp[e]
 by_cases ho:x.own<0
 .rw[show decide (x.own<0)=true from Zt ho];obtain⟨R,hp,N⟩:=SJ (U:=U) A;rw[<- K];refine VC.imp (H:=[WK U Vs]) (H':=[kA y.q 3 [.bool y.dp],R]) (ap.perm (by simpa using hp)) ?_;refine af ?_;obtain⟨rX,g⟩:∃rX,rX=Vs.set v {y with dp:=true}:=⟨_,rfl⟩;refine VC.imp (H':=[WK U rX]) (ap.perm (by rw[g];simpa using(N true).symm)) ?_;have ZX:rX[v]? =some {y with dp:=true}:=by rw[g,Vx];simp[(Vt.1 A).1]
  obtain⟨y2,ZX,hyq2,hyu2,hya2⟩:∃y2,rX[v]? =some y2/\y2.q=y.q/\y2.cg=y.cg/\y2.arg=y.arg:=⟨_,ZX,rfl,rfl,rfl⟩;have hvq2:rX.map aC.q=Vs.map aC.q:=by
   rw[g,List.map_set];exact zf (by rw[Vu,A];rfl)
  obtain⟨Tf,E⟩:∃Tf:Nat->Bool,Tf=λk=>st.rem k||decide (v=k):=⟨_,rfl⟩
  have hrem2:∀k,(st.use i v).rem k=Tf k:=λk=>by rw[O,E];simp[ho]
  have NU:cT st (nU st v []) Tf (λk=>st.dg.length+(if k∈([]:List Nat)then 1 else 0)) U rX:=by
   rw[g,E];exact(cT.far D A).congr (λk t=>Ey st v k t) (λk=>rfl) (λk=>by simp)
  clear g E N;exact zA0
 .rw[show decide (x.own<0)=false from Zf ho];refine af ?_;obtain⟨rX,g⟩:∃rX,rX=Vs:=⟨_,rfl⟩;rw[<- K];refine VC.imp (H':=[WK U rX]) (ap.perm (by rw[g])) ?_;obtain⟨y2,ZX,hyq2,hyu2,hya2⟩:∃y2,rX[v]? =some y2/\y2.q=y.q/\y2.cg=y.cg/\y2.arg=y.arg:=⟨_,by rw[g];exact A,rfl,rfl,rfl⟩;have hvq2:rX.map aC.q=Vs.map aC.q:=by rw[g]
  obtain⟨Tf,E⟩:∃Tf:Nat->Bool,Tf=st.rem:=⟨_,rfl⟩;have hrem2:∀k,(st.use i v).rem k=Tf k:=λk=>by rw[O,E];simp[ho]
  have NU:cT st (nU st v []) Tf (λk=>st.dg.length+(if k∈([]:List Nat)then 1 else 0)) U rX:=by
   rw[g,E];exact cT.congr D (λk t=>Ey st v k t) (λk=>rfl) (λk=>by simp)
  clear g E;exact zA0
def oK(l:List Nat):List (Nat×Nat):=(List.range l.length).reverse.map λi=>(i,l.getD i 0)
def oL(l):(oK l).length=l.length:=by unfold oK;simp
def J1 {l d k}(h:d+k+1=l.length):(oK l)[d]? =some (k,l.getD k 0):=by
 unfold oK;rw[Vu,List.getElem?_reverse (by rw[Q8];omega),Q8,Vw Zo];have e:l.length-1-d=k:=by omega
 rw[e];rfl
def O4(q l v L)(K:zH L v l)(hl:l.length < 1073741824):
 Iter pg9 (.func (.func 210) #[] #[kE q]) (λx:Nat×Nat=>[vi x.1,kE x.2]) [kA q 0 [v],L] [] (λg=>g=oK l):=by
 intro y J SP W A H;obtain⟨a,c,rfl,S⟩:=K;refine eo.cI (first:=#[]) (cap:=#[kE q]) ?_;show aq pg9 210 [y,kE q] _ _;refine aq.intro low210 Zn9 ?_;simp only[aE];refine af ?_;refine VC.loop (α:=Nat×List kC) (bg:=λs=>[(0,y),(1,kE q),(3,vi ((l.length:Int)-1-s.1))]) (Hf:=λs=>[kA q 0 [.slice a l.length c],L,s.2]) (I:=λs=>s.1<=l.length/\J ((oK l).take s.1) s.2) (μ:=λs=>l.length-s.1) (0,A) ⟨X0 _,by simpa using H⟩ (by simp only[Int.natCast_zero,Int.sub_zero];exact Du) ZI ?_
 rintro⟨d,m⟩ ⟨O,j⟩
 simp only at O j;dsimp only;refine af ?_;by_cases aI:d<l.length;rotate_left
 .rw[A1 ((0:Int)<=(l.length:Int) - 1 - (d:Int))];refine af ?_;have F:(oK l).take d=oK l:=Ql (by rw[oL];omega);rw[F]at j;exact kG (dl:=[m]) (.inl rfl) .nil ⟨rfl,.inl ⟨oK l,m,rfl,j,rfl⟩⟩ ZI
 obtain⟨k,Q⟩:∃k,d+k+1=l.length:=⟨l.length-1-d,Zo⟩;have D:(l.length:Int)-1-(d:Int)=(k:Int):=by omega
 rw[D];rw[A0 ((0:Int)<=(k:Int))];have B:=J1 Q;obtain⟨x,E⟩:∃x,l[k]? =some x:=⟨_,Zg Zo⟩;obtain⟨b,o,rfl,M⟩:=S k x E;have C:l.getD k 0=x:=by rw[Vh,E];rfl
 rw[C]at B;have N:kC.cell b (o+k) (kE x)∈L:=M;refine af ?_;have aR:OkC (λg=>g=oK l) ((oK l).take d++[(k,x)]):=⟨(oK l).drop (d+1),by
  have G:d<(oK l).length:=by rw[oL];exact aI
  have e:=(Vt.1 B).2;rw[vj,Qg,<- e,<- vt G,Qj]⟩
 refine eO Zr (W ((oK l).take d) (k,x) m aR j) Zr ZP (λv dl U=>?_);rcases U with⟨rfl,A',ZB,rfl⟩|⟨rfl,B',hB',rfl⟩
 .simp only[aE];refine af ?_;have T:(oK l).take (d+1)=(oK l).take d++[(k,x)]:=by rw[Qi,B];rfl
  refine⟨(d+1,A'),⟨by show d+1<=l.length;omega,by simp only[T];exact ZB⟩,by simp only;omega,by simp only;rw[show(l.length:Int)-1-((d+1:Nat):Int)=(k:Int)-1 by omega];exact Du,ZI⟩
 .exact zF2
def O5(v L)(d:v.cells.toList=[v]):aq pg9 173 [v] [L] (λr dl=>∃q,r=.func (.func 210) #[] #[kE q]/\dl=[kA q 0 [v],L]):=by
 refine aq.intro low173 Zn9 ?_;refine af ?_;refine kZ Zr (λq=>?_);rw[d];refine af ?_;exact kG (dl:=[kA q 0 [v],L]) (.inr rfl) zT1 ⟨q,rfl,rfl⟩ ZI
def NI(st l r):u7 st l r<=l.length:=Q5 _ _
def IH(st i r):u7 st (st.ae i) r=(st.bi i r).length:=by unfold u7;rw[sH]
def WV(st)(qW:Ph st)(U Vs i)(hR:fT st i U Vs)(u)(Y:U[i]? =some u)(hb:st.vars.length<=1048576/\st.a7.length<=1048576/\∀j,st.a5.getD j 0<=1048576):
 aq pg9 114 [kE u.q] [WK U Vs] (λr dl=>∃U' pG,(r=.tuple #[]/\fT st (i+1) U' pG/\U'.map UC.q=U.map UC.q/\U'.map UC.body=U.map UC.body/\pG.map aC.q=Vs.map aC.q)/\dl=[WK U' pG]):=by
 obtain⟨hbv,hbo,ZE⟩:=hb;have cm:i<st.a7.length:=by have:=(Vt.1 Y).1;rw[hR.ul]at this;exact this
 obtain⟨htm,aM⟩:=hR.tm i u Y;obtain⟨n1,n2,n3,n4,n5⟩:=hR.nl i u Y (Qs _);obtain⟨mm,t1,t2,t3,t4⟩:=hR.nd i u Y;obtain⟨B,L⟩:∃l,l=st.ae i:=⟨_,rfl⟩;have sr:u.ae.length=B.length:=by rw[htm,Q6,L]
 have htb:B.length<=1048576:=by
  rw[L];unfold ai.ae;have J:=Q5 (λv=>decide (st.ah v=i)&&decide (st.aT v<0)) (List.range st.vars.length);rw[Q8]at J;omega
 have hpt:=lJ rfl aM;obtain⟨ta,tc,bL⟩:=aM.form;obtain⟨U1,Rc⟩:∃U1:Nat->List UC,U1=λj=>U.set i {u with bi:=u7 st (B.take j) false,aA:=u7 st (B.take j) true}:=⟨_,rfl⟩
 obtain⟨V1,W⟩:∃V1:Nat->List aC,V1=λj=>M1 st Vs (B.take j):=⟨_,rfl⟩
 have hU0:U1 0=U:=by
  rw[Rc];simp only[Qm];have e:({u with bi:=u7 st [] false,aA:=u7 st [] true}:UC)=u:=by
   cases u;simp only at n1 n2;subst n1;subst n2;rfl
  rw[e];exact zf Y
 have hV0:V1 0=Vs:=by
  rw[W];simp only[Qm];exact slV_nil st Vs
 have hUi:∀j,(U1 j)[i]? =some {u with bi:=u7 st (B.take j) false,aA:=u7 st (B.take j) true}:=λj=>by
  rw[Rc];simp only;rw[Vx,if_pos rfl,if_pos (Vt.1 Y).1]
 refine aq.intro low114 Zn9 ?_;refine VC.join (α:=Nat) (bg:=λq=>[(1,kE q)]) (Hf:=λq=>[kA q 0 [kE u.q],WK (U1 0) (V1 0)]) (I:=λ_=>True) ?_ (λG _=>?_)
 .refine af ?_;refine kZ Zr (λq=>?_);simp only[Value.cells];refine af ?_;exact⟨q,trivial,ZU,by rw[hU0,hV0];exact bH⟩
 apply VC.scope;refine VC.join (α:=Unit) (bg:=λ_=>[(1,kE G)]) (Hf:=λ_=>[kA G 0 [kE u.q],WK (U1 B.length) (V1 B.length)]) (I:=λ_=>True) ?_ (λ_ _=>?_)
 .have k5:kC.cell u.q 5 (.slice ta B.length tc)∈WK (U1 0) (V1 0):=by
   rw[hU0,hV0];exact yV Y _ (QK _ (Zw _ (kI.2 ⟨5,_,by unfold UC.row;rw[bL,sr];rfl,rfl⟩)))
  refine af ?_;refine VC.loop (α:=Nat) (bg:=λj=>[(1,kE G),(13,.slice ta B.length tc),(14,vi B.length),(15,vi j)]) (Hf:=λj=>[kA G 0 [kE u.q],WK (U1 j) (V1 j)]) (I:=λj=>j<=B.length) (μ:=λj=>B.length-j) 0 (X0 _) ZU ZI ?_;intro j hj;refine af ?_;by_cases aI:j<B.length;rotate_left
  .rw[A1 ((j:Int) < (B.length:Int))];obtain rfl:j=B.length:=by omega
   exact Ds
  rw[A0 ((j:Int) < (B.length:Int))];obtain⟨v,hv⟩:∃v,B[j]? =some v:=⟨_,Zg aI⟩;have hvm:v∈st.ae i:=L ▸ Zv hv;have xE:=Di hvm;obtain⟨y,hy⟩:∃y,Vs[v]? =some y:=⟨_,Zg (by rw[hR.vl];exact xE)⟩;obtain⟨x,K⟩:∃x,st.vars[v]? =some x:=⟨_,Zg xE⟩;obtain⟨_,_,bQ,_⟩:=hR.vn v x y K hy;obtain⟨y1,ZW,T,hy1r⟩:∃y1,(V1 j)[v]? =some y1/\y1.q=y.q/\y1.dp=st.rem v:=⟨{y with slot:=if v∈B.take j then(st.cj v).toNat else y.slot},by rw[W];exact iz hy,rfl,bQ⟩;obtain⟨R,X,hr⟩:=wk_lay (hUi j) ZW;simp only at X hr;rw[T]at X;have hpp:=X;rw[<- vj]at hpp;have hqj:u.ae[j]? =some y.q:=by
   rw[htm,<- L,Vu,hv];show some (Vs.getD v Dn).q=_;rw[Vh,hy];rfl
  obtain⟨ta',tc',GP,hpt'⟩:=hpt;rw[bL]at GP;simp only[Value.slice.injEq]at GP;obtain⟨tb,to,hta,htc⟩:=hpt' j y.q hqj;rw[<- GP.1]at hta;subst hta;have k1:kC.cell tb (to+j) (kN (some y.q))∈R:=iF hpp (yV (hUi j) _ (QK _ (QI _ (Zw _ htc)))) (by simp[kA,kN]);have k1:kC.cell tb (to+j) (kE y.q)∈R:=k1;have k3:kC.cell y.q 3 (.bool (st.rem v))∈R:=iF hpp (nh ZW _ (kI.2 ⟨3,_,by unfold aC.row;rw[hy1r];rfl,by rw[T]⟩)) Nt;have hso:st.cj v=(u7 st (B.take j) (st.rem v):Int):=by
   have:=Oy (L ▸ hv);rw[this,L];rfl
  have hUs:∀l n,(U1 j).set i {u with bi:=l,aA:=n}=U.set i {u with bi:=l,aA:=n}:=λl n=>by
   rw[Rc];simp only[List.set_set]
  have hVn:(V1 j).set v {y1 with slot:=(st.cj v).toNat}=V1 (j+1):=by
   have e:B.take (j+1)=B.take j++[v]:=by rw[Qi,hv];rfl
   rw[W];simp only;rw[e];exact slV_set hy (by rw[<- ZW,W])
  have H6:=NI st (B.take j) true;have fj:=NI st (B.take j) false;have Ae:=List.length_take_le j B;have Ay:=Ev st hv true;have Al:=Ev st hv false;have hUn:U1 (j+1)=U.set i {u with bi:=u7 st (B.take (j+1)) false,aA:=u7 st (B.take (j+1)) true}:=by rw[Rc]
  refine VC.imp (H':=[kA G 0 [kE u.q],kA y.q 4 [vi y1.slot],kA u.q 1 [vi (u7 st (B.take j) false),vi (u7 st (B.take j) true)],R]) (ap.perm (by simp only[Vd,Ve,vm];exact vY _ X)) ?_;cases mu:st.rem v with
  |true=>
   rw[mu]at k3 hso;rw[mu]at Ay Al;simp only[if_true,Bool.true_eq_false,if_false,Qo]at Ay Al;refine af ?_;refine⟨j+1,Zo,Zo,ZU,?_⟩;have de:=hr (u7 st (B.take j) false) (u7 st (B.take j) true+1) (st.cj v).toNat;rw[hVn,hUs,T]at de;rw[hUn,Ay,Al];refine ap.cut (M:=[kA G 0 [kE u.q],kA y.q 4 [vi ((u7 st (B.take j) true:Int))],kA u.q 1 [vi ((u7 st (B.take j) false:Int)),vi ((u7 st (B.take j) true:Int)+1)],R]) ZI (ap.perm ?_);simp only[Vd,Ve,vm];refine vY _ ?_;have e:((st.cj v).toNat:Int)=(u7 st (B.take j) true:Int):=by omega
   rw[e]at de;simp only[Int.natCast_add,Int.natCast_one]at de;exact de.symm
  |false=>
   rw[mu]at k3 hso;rw[mu]at Ay Al;simp only[if_true,vN,if_false,Qo]at Ay Al;refine af ?_;refine⟨j+1,Zo,Zo,ZU,?_⟩;have de:=hr (u7 st (B.take j) false+1) (u7 st (B.take j) true) (st.cj v).toNat;rw[hVn,hUs,T]at de;rw[hUn,Ay,Al];refine ap.cut (M:=[kA G 0 [kE u.q],kA y.q 4 [vi ((u7 st (B.take j) false:Int))],kA u.q 1 [vi ((u7 st (B.take j) false:Int)+1),vi ((u7 st (B.take j) true:Int))],R]) ZI (ap.perm ?_);simp only[Vd,Ve,vm];refine vY _ ?_;have e:((st.cj v).toNat:Int)=(u7 st (B.take j) false:Int):=by omega
   rw[e]at de;simp only[Int.natCast_add,Int.natCast_one]at de;exact de.symm
 obtain⟨E,hU2⟩:∃E,E=U1 B.length:=⟨_,rfl⟩;obtain⟨H,hV2⟩:∃H,H=V1 B.length:=⟨_,rfl⟩;rw[<- hU2,<- hV2];have df:B.take B.length=B:=Qk;have UJ:E=U.set i {u with bi:=(st.bi i false).length,aA:=(st.bi i true).length}:=by
  rw[hU2,Rc];simp only;rw[df,L,IH,IH]
 have hV2e:H=M1 st Vs (st.ae i):=by
  rw[hV2,W];simp only;rw[df,L]
 have lY:E.map UC.q=U.map UC.q:=by rw[UJ];exact zu Y rfl
 have hu2:E[i]? =some {u with bi:=(st.bi i false).length,aA:=(st.bi i true).length}:=by
  rw[UJ,Vx,if_pos rfl,if_pos (Vt.1 Y).1]
 clear Rc W hU0 hV0 hUi hU2 hV2;have oU:∀x∈st.around i,x<i:=λx K=>by
  unfold ai.around at K;have mq:=qW.wf.gk i;rw[qW.wf.line Zo]at K;simp only[List.drop_succ_cons,vx]at K;split at K
  .cases K
  .have:=qW.wf.sG _ Zo x K;omega
 have aL:∀x∈st.around i,∃w,E[x]? =some w/\U[x]? =some w/\w.q=qU U x:=λx K=>by
  have J:=oU x K;obtain⟨w,hw⟩:∃w,U[x]? =some w:=⟨_,Zg (by rw[hR.ul];omega)⟩;exact⟨w,by rw[UJ,Vx,if_neg Zo];exact hw,hw,(gB hw).symm⟩
 have aw:=qH st i;obtain⟨F,hpt2⟩:∃F,F=(st.around i).map (qU U):=⟨_,rfl⟩;have mr:F.length=(st.around i).length:=by rw[hpt2,Q6]
 refine jB ?_;refine VC.join (α:=Value×List Value) (bg:=λs=>[(1,kE G),(4,s.1)]) (Hf:=λs=>[kA G 0 [kE u.q],WK E H,aj s.1 (F.map λb=>kN (some b)) s.2]) (I:=λs=>ke 1 s.1 F.length (F.map λb=>kN (some b)) s.2) ?_ ?_
 .have k3:kC.cell u.q 3 (Aa U (st.around i) 0)∈WK E H:=by
   rw[<- hR.outerQ Y];exact yV hu2 _ (QK _ (Zw _ (kI.2 ⟨3,_,rfl,rfl⟩)))
  refine af ?_;refine VC.loop (α:=Nat×Value×List Value) (bg:=λs=>[(1,kE G),(4,s.2.1),(5,Aa U (st.around i) s.1)]) (Hf:=λs=>[kA G 0 [kE u.q],WK E H,aj s.2.1 ((F.take s.1).map λb=>kN (some b)) s.2.2]) (I:=λs=>s.1<=F.length/\ke 1 s.2.1 s.1 ((F.take s.1).map λb=>kN (some b)) s.2.2) (μ:=λs=>F.length-s.1) (0,Nz,[]) ⟨X0 _,.nil⟩ ZU (ap.cut (M:=[kA G 0 [kE u.q],WK E H]) ZI (ap.perm A4)) ?_
  rintro⟨d,sv,sp⟩ ⟨hd,gP⟩
  simp only at hd gP;dsimp only;obtain⟨sa,sc,rfl⟩:=gP.form;by_cases aI:d<F.length;rotate_left
  .have he:Aa U (st.around i) d=.pointer none:=by
    unfold Aa;rw[Vp Zo]
   rw[he];have htk2:F.take d=F:=Ql Zo;have hde:d=F.length:=by omega
   rw[htk2]at gP|-;refine af ?_;exact⟨(.slice sa d sc,sp),by rw[<- hde];exact gP,ZU,ZI⟩
  obtain⟨x,K⟩:∃x,(st.around i)[d]? =some x:=⟨_,Zg Zo⟩;obtain⟨w,lE,hw,rV⟩:=aL x (Zv K);have he:Aa U (st.around i) d=kE w.q:=by
   unfold Aa;rw[K,rV]
  have ZT:=hR.outerN cm K hw;have k4:kC.cell w.q 3 (Aa U (st.around i) (d+1))∈WK E H:=by
   rw[<- ZT];exact yV lE _ (QK _ (Zw _ (kI.2 ⟨3,_,rfl,rfl⟩)))
  have hpd:F[d]? =some w.q:=by rw[hpt2,Vu,K,rV];rfl
  rw[he];obtain⟨nx,hnx⟩:∃nx,nx=Aa U (st.around i) (d+1):=⟨_,rfl⟩;rw[<- hnx]at k4;refine af ?_;refine kV (out:=[kE w.q]) Zr Zr (λrr=>?_);refine af ?_;refine kX (k:=d) (m:=1) (xs:=(F.take d).map λb=>kN (some b)) (sp:=sp) (ys:=[kE w.q]) Zr Zr gP ZK Zr ?_ rfl Zr Zr Zd Zo (λbZ bf ax=>?_)
  .exact l9
  have hfv:((F.take d).map λb=>kN (some b))++[kE w.q]=(F.take (d+1)).map λb=>kN (some b):=by
   rw[Qi,hpd];simp[kN]
  rw[hfv]at ax|-;obtain⟨dZ,ed,rfl⟩:=ax.form;refine af ?_;exact⟨(d+1,.slice dZ (d+1) ed,bf),⟨by simp only;omega,ax⟩,by simp only;omega,by simp only[<- hnx];exact Du,ZI⟩
 rintro⟨sv,sp⟩ gP
 simp only at gP;dsimp only;have hpr:=lJ rfl gP;obtain⟨sa,sc,rfl⟩:=gP.form;refine VC.seq (VC.label ?_);refine af ?_;refine kH (O5 (.slice sa F.length sc) (aj (.slice sa F.length sc) (F.map λb=>kN (some b)) sp) rfl) Zr ZP (λv dl hv=>?_);obtain⟨q2,rfl,rfl⟩:=hv;simp only[aE];refine af ?_;obtain⟨D,S⟩:∃D:UC,D={u with bi:=(st.bi i false).length,aA:=(st.bi i true).length}:=⟨_,rfl⟩;rw[<- S]at hu2 UJ;have hu2q:D.q=u.q:=by rw[S]
 have hu2n:D.nb=u.nb/\D.es=u.es/\D.cl=u.cl/\D.dW=[]/\D.cv=Nz/\D.cw=[]:=by rw[S];exact⟨rfl,rfl,rfl,n3,n4,n5⟩
 have hend:∀dW cv C,dW=zn U (st.a9 i)->ke 2 cv dW.length (dW.flatMap jZ) C->fT st (i+1) (E.set i {D with dW:=dW,cv:=cv,cw:=C}) H/\(E.set i {D with dW:=dW,cv:=cv,cw:=C}).map UC.q=U.map UC.q/\(E.set i {D with dW:=dW,cv:=cv,cw:=C}).map UC.body=U.map UC.body/\H.map aC.q=Vs.map aC.q:=λdW cv C hc hs=>by
  have e:E.set i {D with dW:=dW,cv:=cv,cw:=C}=U.set i {u with bi:=(st.bi i false).length,aA:=(st.bi i true).length,dW:=zn U (st.a9 i),cv:=cv,cw:=C}:=by
   rw[UJ,List.set_set,S,hc]
  rw[e,hV2e];subst hc;exact⟨hR.step Y hs,zu Y rfl,uG Y rfl,slV_q _ _ _⟩
 obtain⟨WF,hWF⟩:∃WF:List (Nat×Int)->Value->List Value->List kC,WF=λc' v' p'=>WK (E.set i {D with dW:=c',cv:=v',cw:=p'}) H:=⟨_,rfl⟩
 have Re:∀c' v' p',WK (E.set i {D with dW:=c',cv:=v',cw:=p'}) H=WF c' v' p':=λc' v' p'=>by rw[hWF]
 refine VC.iR (α:=Nat×Nat) (enc:=λx=>[vi x.1,kE x.2]) (λd A=>∃cv C,ke 2 cv (zn U (st.nS i d.length)).length ((zn U (st.nS i d.length)).flatMap jZ) C/\A=[kA G 0 [kE u.q],WK (E.set i {D with dW:=zn U (st.nS i d.length),cv:=cv,cw:=C}) H].flatten) ([kA G 0 [kE u.q],WK E H].flatten) Zr (O4 q2 F _ _ hpr Zo) (R:=[kA G 0 [kE u.q],WK E H]) ZP (ap.perm Zs) ?_ (λ_=>rfl) ?_ ?_
 .refine⟨Nz,[],.nil,?_⟩;have e:({D with dW:=zn U (st.nS i 0),cv:=Nz,cw:=[]}:UC)=D:=by
   obtain⟨_,_,_,J,h2,h3⟩:=hu2n;cases D;simp only at J h2 h3;subst J;subst h2;subst h3;rfl
  show _=[kA G 0 [kE u.q],WK (E.set i {D with dW:=zn U (st.nS i 0),cv:=Nz,cw:=[]}) H].flatten;rw[e,zf hu2]
 .rintro c x A aR ⟨cv,C,H4,rfl⟩
  obtain⟨rest,bY⟩:=aR;have n9:(oK F)[c.length]? =some x:=by rw[<- bY];simp
  have ZM:c.length<F.length:=by have:=(Vt.1 n9).1;rwa [oL]at this
  obtain⟨k,hk⟩:∃k,c.length+k+1=F.length:=⟨F.length-1-c.length,Zo⟩;obtain⟨o,ho⟩:∃o,(st.around i)[k]? =some o:=⟨_,Zg Zo⟩;obtain⟨w,lE,hw,rV⟩:=aL o (Zv ho);have hoi:=oU o (Zv ho);have Oc:x=(k,w.q):=by
   rw[J1 hk]at n9;rw[<- X8 n9,hpt2,Vh,Vu,ho,rV];rfl
  subst Oc;have hor:(st.around i).reverse[c.length]? =some o:=by
   rw[List.getElem?_reverse Zo];have e:(st.around i).length-1-c.length=k:=by omega
   rw[e];exact ho
  have hsucc:=Pm st hor;have hwa:=(hR.ar o w hw).1;obtain⟨N,H8⟩:∃N,N=st.a5.getD o 0:=⟨_,rfl⟩;have hnab:=ZE o;rw[<- H8]at hwa hnab;obtain⟨g,hCK⟩:∃g:Nat->List (Nat×Int),g=λm=>zn U (st.nS i c.length++((st.things o).take m).filter (st.aD i)):=⟨_,rfl⟩
  have hC0:g 0=zn U (st.nS i c.length):=by rw[hCK];simp
  have hCe:g (N+1)=zn U (st.nS i (c.length+1)):=by
   rw[hCK];simp only;rw[hsucc,Ql (by rw[gK];omega)]
  have hCl:∀m,(g m).length<=1048577*1048577:=λm=>by
   rw[hCK];simp only;unfold zn;rw[Q6,Vz];have J:=Ul (st:=st) (u:=i) (k:=c.length) ZE;have h2:=Q5 (st.aD i) ((st.things o).take m);have h3:=List.length_take_le' m (st.things o);rw[gK,<- H8]at h3;omega
  have hCs:∀m,m<N+1->g (m+1)=g m++(if st.aD i (o,(m:Int)-1)=true then [(w.q,(m:Int)-1)]else []):=λm hm=>by
   rw[hCK];simp only;rw[EL (Ng st (by rw[<- H8];exact hm)),<- vj];unfold zn;rw[QC]
   congr 1
   split
   .simp[rV]
   .rfl
  simp only[A8];refine VC.imp (H':=[kA G 0 [kE u.q],WK (E.set i {D with dW:=zn U (st.nS i c.length),cv:=cv,cw:=C}) H]) (ap.perm Zs) ?_;apply VC.oJ;refine af ?_;refine⟨trivial,?_⟩;refine af ?_;refine VC.loop (α:=Nat×Value×List Value) (bg:=λs=>[(1,kE G),(7,kE w.q),(8,vi ((s.1:Int)-1))]) (Hf:=λs=>[kA G 0 [kE u.q],WK (E.set i {D with dW:=g s.1,cv:=s.2.1,cw:=s.2.2}) H]) (I:=λs=>s.1<=N+1/\ke 2 s.2.1 (g s.1).length ((g s.1).flatMap jZ) s.2.2) (μ:=λs=>N+1-s.1) (0,cv,C) ⟨X0 _,by simp only[hC0];exact H4⟩ (by simp only[Int.natCast_zero,Int.zero_sub];exact Du) (by simp only[hC0];exact bH) ?_
  rintro⟨m,cv1,tU⟩ ⟨hm,Rh⟩
  simp only at hm Rh;dsimp only;obtain⟨O,Q,rfl⟩:=Rh.form;have hu3:(E.set i {D with dW:=g m,cv:=.slice O (g m).length Q,cw:=tU})[i]? =some {D with dW:=g m,cv:=.slice O (g m).length Q,cw:=tU}:=by
   rw[Vx,if_pos rfl,if_pos (Vt.1 hu2).1]
  obtain⟨R,X,hr,hoth,hown,cO⟩:=wk_cop2 (V:=H) hu3;simp only[List.set_set]at X hr;simp only[Re]at X hr;simp only[hu2q,hu2n.2.1,hu2n.2.2.1]at X hr hown cO;have Mf:∀(j:Nat) z,j≠i->E[j]? =some z->∀a∈z.atoms,a∈R:=λj z hj hz=>hoth j z hj (by rw[Vx,if_neg (λe=>hj e.symm)];exact hz)
  have ka:kC.cell w.q 0 (vi N)∈R:=Mf o w Zo lE _ (QK _ (Zw _ (kI.2 ⟨0,_,by unfold UC.row;rw[hwa];rfl,rfl⟩)));have km:kC.cell u.q 6 (.map (some D.nb))∈R:=cO _ (kI.2 ⟨6,_,rfl,rfl⟩);have GH:∀(j:Nat) z,E[j]? =some z->z7 R z.q:=λj z hz=>by
   by_cases e:j=i
   .subst e;rw[hu2]at hz;obtain rfl:=X8 hz;rw[hu2q];exact⟨⟨9,hown⟩,⟨_,cO _ (kI.2 ⟨0,_,rfl,rfl⟩)⟩⟩
   .exact⟨⟨9,Mf j z e hz _ (QL ..)⟩,⟨_,Mf j z e hz _ (QK _ (Zw _ (kI.2 ⟨0,_,rfl,rfl⟩)))⟩⟩
  have N3:=GH o w lE;have hlm:∀p∈mm,z7 R p.1.1:=λp X=>by
   obtain⟨⟨j,z,J,h2⟩,_⟩:=t3 p X;have hq:=Gl lY j;rw[J]at hq;obtain⟨z2,h3,h4⟩:=X5.1 hq;rw[h2,<- h4];exact GH j z2 h3
  have hCm:=hCl m;refine VC.imp (H':=[kA G 0 [kE u.q],[.obj D.nb (.map u.es u.cl)],kA u.q 7 [.slice O (g m).length Q],aj (.slice O (g m).length Q) ((g m).flatMap jZ) tU,R]) (ap.perm (by simp only[Vd,Ve,vm];rw[Re];exact vY _ X)) ?_;refine af ?_;by_cases tB:m<N+1;rotate_left
  .rw[A1 ((m:Int) - 1 < (N:Int))];obtain rfl:m=N+1:=by omega
   refine af ?_;refine⟨_,⟨.slice O (g (N+1)).length Q,tU,?_,rfl⟩,?_⟩
   .rw[Vz,QA,<- hCe];exact Rh
   .rw[Vz,QA,<- hCe];have h9:=hr (g (N+1)) (.slice O (g (N+1)).length Q) tU;refine ap.cut (M:=[kA G 0 [kE u.q],[.obj D.nb (.map u.es u.cl)],kA u.q 7 [.slice O (g (N+1)).length Q],aj (.slice O (g (N+1)).length Q) ((g (N+1)).flatMap jZ) tU,R]) ZI (ap.perm ?_);simp only[Vd,Ve,vm];rw[Re];exact vY _ h9.symm
  rw[A0 ((m:Int) - 1 < (N:Int))];refine af ?_;refine St Zr (.there .here) t1.of ?_;refine af ?_;by_cases ZR:mm=[]
  .rw[show decide ((mm.length:Int)=0)=true from Zt (by rw[ZR];rfl)];have hz:∀Z∈st.around i,∀t∈st.things Z,¬st.aD i t=true:=λZ si t ht hn=>by
    obtain⟨w',_,uy,_⟩:=aL Z si;obtain⟨e1,_⟩:=mN.1 ht;have J:=t4 Z w' t.2 uy;have e2:(Z,t.2)=t:=by rw[<- e1]
    rw[e2]at J;have:=J.2 hn;rw[ZR]at this;cases this
   have hf0:∀Z∈st.around i,(st.things Z).filter (st.aD i)=[]:=λZ si=>V6.2 (hz Z si)
   have hc0:st.a9 i=[]:=by
    unfold ai.a9;rw[List.flatMap_eq_nil_iff];exact λZ si=>hf0 Z (by unfold ai.around;simpa using si)
   have pR:g m=[]:=by
    rw[hCK];simp only;have e1:st.nS i c.length=[]:=by
     unfold ai.nS;rw[List.flatMap_eq_nil_iff];exact λZ si=>hf0 Z (by have:=QP si;simpa using this)
    have e2:((st.things o).take m).filter (st.aD i)=[]:=V6.2 λt ht=>hz o (Zv ho) t (QP ht)
    rw[e1,e2];rfl
   obtain⟨J,h2,h3,h4⟩:=hend (g m) _ _ (by rw[pR,hc0];rfl) Rh;have h9:=hr (g m) (.slice O (g m).length Q) tU;refine af ?_;exact⟨(λl h=>by cases h),kG (dl:=[WK (E.set i {D with dW:=g m,cv:=.slice O (g m).length Q,cw:=tU}) H]) (.inl rfl) .nil ⟨_,_,⟨rfl,J,h2,h3,h4⟩,rfl⟩ (by
    rw[Re];refine ap.cut (M:=[[.obj D.nb (.map u.es u.cl)],kA u.q 7 [.slice O (g m).length Q],aj (.slice O (g m).length Q) ((g m).flatMap jZ) tU,R]) ZI (ap.perm ?_);simp only[Vd,Ve,vm];exact h9.symm)⟩
  have hmm0:0<mm.length:=by
   cases mm with
   |nil=>exact absurd rfl ZR
   |cons _ _=>simp
  rw[A1 ((mm.length:Int)=0)];refine af ?_;refine kJ (λq9=>?_);refine af ?_;refine uW (k:=(w.q,(m:Int)-1)) thP Zr Zr (.there (.there .here)) t1.of (N3.more (λ_ K=>by simp[K])) (λp X=>(hlm p X).more (λ_ K=>by simp[K])) ?_;have rU:decide ((0:Int)<(jI (w.q,(m:Int)-1) mm).getD 0)=st.aD i (o,(m:Int)-1):=by
   have J:=t4 o w ((m:Int)-1) hw;cases e:jI (w.q,(m:Int)-1) mm with
   |none=>
    rw[e]at J;cases e2:st.aD i (o,(m:Int)-1)with
    |false=>rfl
    |true=>have:=J.2 e2;cases this
   |some z=>
    rw[e]at J;rw[J.1 rfl];have:=(t3 _ (Cz e)).2.1;exact Zt this
  refine af ?_;rw[rU];have I4:=hCs m tB;cases pT:st.aD i (o,(m:Int)-1)with
  |false=>
   rw[pT]at I4;simp only[vN,if_false,vm]at I4;have h9:=hr (g m) (.slice O (g m).length Q) tU;refine af ?_;refine⟨(m+1,.slice O (g m).length Q,tU),⟨by simp only;omega,by simp only[I4];exact Rh⟩,by simp only;omega,by simp only;rw[show((m+1:Nat):Int)-1=(m:Int)-1+1 by omega];exact Du,?_⟩;simp only[I4];rw[Re];refine ap.cut (M:=[kA G 0 [kE u.q],[.obj D.nb (.map u.es u.cl)],kA u.q 7 [.slice O (g m).length Q],aj (.slice O (g m).length Q) ((g m).flatMap jZ) tU,R]) ZI (ap.perm ?_);exact zFS
  |true=>
   rw[pT]at I4;simp only[if_true]at I4;have Jl:(g m).flatMap jZ++[kE w.q,vi ((m:Int)-1)]=(g (m+1)).flatMap jZ:=by
    rw[I4,V9,Vb];rfl
   have hcl1:(g (m+1)).length=(g m).length+1:=by rw[I4,Vz];rfl
   refine jB ?_;refine VC.draws ⟨?_,?_,?_,?_,?_,?_,?_,?_,?_,?_,?_,?_,?_,?_,?_,trivial⟩
   all_goals
    refine af ?_;refine kV (out:=[kE w.q,vi ((m:Int)-1)]) Zr Zr (λrr=>?_);refine af ?_;refine kX (k:=(g m).length) (m:=1) (xs:=(g m).flatMap jZ) (sp:=tU) (ys:=[kE w.q,vi ((m:Int)-1)]) Zr Zr Rh ZK Zr ?_ rfl Zr Zr Zd Zo (λbZ bf ax=>?_)
    .exact l9
    rw[Jl,<- hcl1]at ax;rw[Jl];obtain⟨dZ,ed,rfl⟩:=ax.form;have h9:=hr (g (m+1)) (.slice dZ (g (m+1)).length ed) bf;refine af ?_;refine⟨(m+1,.slice dZ (g (m+1)).length ed,bf),⟨by simp only;omega,ax⟩,by simp only;omega,by simp only;rw[show((m+1:Nat):Int)-1=(m:Int)-1+1 by omega];exact Du,?_⟩;simp only;rw[Re];refine ap.cut (M:=[kA G 0 [kE u.q],[.obj D.nb (.map u.es u.cl)],kA u.q 7 [.slice dZ (g (m+1)).length ed],aj (.slice dZ (g (m+1)).length ed) ((g (m+1)).flatMap jZ) bf,R]) ZI (ap.perm ?_);exact zFS
 .rintro full A rfl ⟨cv,C,H4,rfl⟩
  rw[oL,mr,II st i (Qs _)]at H4;obtain⟨J,h2,h3,h4⟩:=hend _ _ _ rfl H4;rw[oL,mr,II st i (Qs _)];exact⟨(λl h=>by cases h),kG (dl:=[WK (E.set i {D with dW:=zn U (st.a9 i),cv:=cv,cw:=C}) H]) (.inl rfl) .nil ⟨_,_,⟨rfl,J,h2,h3,h4⟩,rfl⟩ (ap.cut (M:=[kA G 0 [kE u.q],WK (E.set i {D with dW:=zn U (st.a9 i),cv:=cv,cw:=C}) H]) (ap.perm Zs) ZI)⟩
def Fv(a l v c:Nat)(h:a < 1073741824/\l < 1073741824/\v < 1073741824/\c < 4398046511104):aq pg9 115 [.agg #[vi a,vi l,vi v],vi c] [] (λr dl=>r=vi ((a+c+l+(if 0<v then 1 else 0):Nat):Int)/\dl=[]):=by
 obtain⟨h1,h2,h3,h4⟩:=h;refine aq.intro low115 Zn9 ?_;refine af ?_;refine kZ Zr (λq=>?_);simp only[Value.cells];refine af ?_;by_cases hv:0<v
 .rw[A0 ((0:Int) < (v:Int)),if_pos hv];refine af ?_;refine kG (dl:=[]) (.inr rfl) (.tmp (v:=vi ((a+c+l+1:Nat):Int)) Zr .nil) ⟨rfl,rfl⟩ ZI
 .rw[A1 ((0:Int) < (v:Int)),if_neg hv];refine af ?_;refine kG (dl:=[]) (.inr rfl) (.tmp (v:=vi ((a+c+l:Nat):Int)) Zr .nil) ⟨rfl,rfl⟩ ZI
def P0 {α:Type}[DecidableEq α]{l:List α}{k:α}(h:∀i x,i<l.length->l[i]? =some x->x≠k):l.findIdx? (λy=>decide (y=k))=none:=by
 rw[List.findIdx?_eq_none_iff];intro x g;obtain⟨i,d⟩:=Vv g;exact Zf (h i x (Vt.1 d).1 d)
def P1 {α:Type}[DecidableEq α]{l:List α}{k:α}{j}(d:l[j]? =some k)(h:∀i x,i < j->l[i]? =some x->x≠k):l.findIdx? (λy=>decide (y=k))=some j:=by
 have g:=(Vt.1 d).1;rw[List.findIdx?_eq_some_iff_getElem];refine⟨g,?_,λi q=>?_⟩
 .rw[Zg g]at d;exact Zt (X8 d)
 .have m:i<l.length:=by omega
  simp only[Bool.not_eq_true,decide_eq_false_iff_not];exact h i _ q (Zg m)
def Mo(B l a c)(GA:l.length < 4398046511104)(C:∀(i:Nat) t,l[i]? =some t->∃b o,a=some ⟨b,o,none⟩/\∀y∈kA b (o+i*2) [kE t.1,.int .i64 t.2],y∈B)(F:∀t∈l,z7 B t.1)(k)(E:z7 B k.1):
 aq pg9 174 [.slice a l.length c,iC k] [B] (λv dl=>v=vi (dC l k)/\dl=[B]):=by
 refine aq.intro low174 Zn9 ?_;unfold iC;refine af ?_;refine kZ Zr (λq=>?_);simp only[Value.cells];refine af ?_;refine VC.loop (α:=Nat) (bg:=λs=>[(0,.slice a l.length c),(3,kE q),(7,vi l.length),(8,vi s)]) (Hf:=λ_=>[kA q 0 [kE k.1,vi k.2],B]) (I:=λs=>s<=l.length/\∀i x,i<s->l[i]? =some x->x≠k) (μ:=λs=>l.length-s) 0 ⟨X0 _,λi x h=>by omega⟩ ZU ZI ?_
 rintro j ⟨hj,m⟩
 refine af ?_;by_cases aI:j<l.length;rotate_left
 .rw[A1 ((j:Int) < (l.length:Int))];refine af ?_;refine kG (dl:=[B]) (.inr rfl) zT1 ⟨?_,rfl⟩ ZI;unfold dC;rw[P0 (λi x A d=>m i x Zo d)];rfl
 rw[A0 ((j:Int) < (l.length:Int))];obtain⟨t,g⟩:∃t,l[j]? =some t:=⟨_,Zg aI⟩;obtain⟨b,o,rfl,G⟩:=C j t g;refine af ?_;refine kR (us:=[kE t.1,vi t.2]) Zr (λz H=>by have D:=G z H;simp[D]) rfl ?_;refine af ?_;refine st_eqth (k:=k) (j:=t) thP Zr Zr (E.more (λ_ d=>by simp[d])) ((F t (Zv g)).more (λ_ d=>by simp[d])) ?_;refine af ?_;by_cases he:k=t
 .rw[Zt he];refine af ?_;refine kG (dl:=[B]) (.inr rfl) (.tmp (v:=vi j) Zr .nil) ⟨?_,rfl⟩ ZI;unfold dC;rw[P1 (by rw[he];exact g) (λi x A d=>m i x A d)];rfl
 .rw[Zf he];refine af ?_;refine⟨j+1,⟨Zo,λi x A d=>?_⟩,Zo,ZU,ZI⟩;by_cases Gx:i<j
  .exact m i x Gx d
  .obtain rfl:i=j:=by omega
   rw[g]at d;rw[<- X8 d];exact λe=>he e.symm
structure K1 (st:ai):Prop where
 v:st.vars.length<=1048576
 o:st.a7.length<=1048576
 a:∀j,st.a5.getD j 0<=1048576
def K1.dW {st}(h:K1 st)(u):(st.a9 u).length<=1048576*(1048576+1):=by
 have d:=Bi (st:=st) (u:=u) h.a;have g:=qH st u;exact Qu d (Qx _ (Qu g h.o))
def K1.loc {st}(h:K1 st)(u r):(st.bi u r).length<=1048576:=by
 unfold ai.bi;have d:=Q5 (λv=>decide (st.ah v=u)&&decide (st.aT v<0)&&decide (st.rem v=r)) (List.range st.vars.length);rw[Q8]at d;have:=h.v;omega
def CY(st:ai)(qW:Ph st)(H:K1 st)(U:List UC)(Vs:List aC)(hR:fT st st.a7.length U Vs)(i:Nat)(u:UC)(C:U[i]? =some u)(t:Nat×Int)(T:t.1 < st.a7.length)(hc:(t.1=i/\-1<=t.2/\t.2 < st.a5.getD i 0/\(t.2 < 0->0 < (st.bi i true).length))∨(t.1≠i/\t∈st.a9 i)):
 aq Tryz.prog 116 [kE u.q,iC (qU U t.1,t.2)] [WK U Vs] (λv dl=>v=.int .i64 (st.place i t)/\dl=[WK U Vs]):=by
 have M:i<st.a7.length:=by have:=(Vt.1 C).1;rw[hR.ul]at this;exact this
 obtain⟨ca,cc,UQ,W,S9,KW,cO⟩:=hR.cells C;obtain⟨w,Y⟩:∃w,U[t.1]? =some w:=⟨_,Zg (by rw[hR.ul];exact T)⟩;have A:=gB Y;have ZE:=H.a i;have hbc:=H.dW i;have I5:=H.loc i false;have hbv:=H.loc i true;have L:z7 (WK U Vs) w.q:=iE Y;have D:z7 (WK U Vs) u.q:=iE C;have xC:∀k∈zn U (st.a9 i),z7 (WK U Vs) k.1:=λk O=>by
  obtain⟨s,hs,rfl⟩:=QO.1 O;obtain⟨z,J⟩:∃z,U[s.1]? =some z:=⟨_,Zg (by rw[hR.ul];exact(qW.oS M hs).2.2.1)⟩;show z7 _ (qU U s.1);rw[gB J];exact iE J
 have G:∀(k:Nat) x,u.row[k]? =some x->kC.cell u.q k x∈WK U Vs:=λk x hx=>yV C _ (QK _ (Zw _ (kI.2 ⟨k,x,hx,by rw[Qz]⟩)))
 have k0:kC.cell u.q 0 (vi (st.a5.getD i 0))∈WK U Vs:=G 0 _ (by unfold UC.row;rw[W];rfl);have k1:kC.cell u.q 1 (vi (st.bi i false).length)∈WK U Vs:=G 1 _ (by unfold UC.row;rw[S9];rfl);have k2:kC.cell u.q 2 (vi (st.bi i true).length)∈WK U Vs:=G 2 _ (by unfold UC.row;rw[KW];rfl);have k7:kC.cell u.q 7 (.slice ca (st.a9 i).length cc)∈WK U Vs:=G 7 _ (by unfold UC.row;rw[UQ];rfl);have n9:(zn U (st.a9 i)).length=(st.a9 i).length:=Q6 _;have d:=Mo (WK U Vs) (zn U (st.a9 i)) ca cc (by rw[n9];omega) (λk s O=>by
  obtain⟨b,o,m,N⟩:=cO k s O;exact⟨b,o,m,λy hy=>yV C _ (N y hy)⟩) xC (w.q,t.2) L
 rw[n9]at d;have mr:t.1≠i->st.place i t=st.a5.getD i 0+dC (zn U (st.a9 i)) (w.q,t.2)/\0<=dC (zn U (st.a9 i)) (w.q,t.2)/\dC (zn U (st.a9 i)) (w.q,t.2)<(st.a9 i).length:=λhn=>by
  rcases hc with⟨m,_⟩|⟨_,m⟩
  .exact absurd m hn
  obtain⟨k,sg,Ca⟩:=xx m;unfold ai.place dC;rw[if_neg hn,<- A,hR.idx qW M T,Ca];exact⟨rfl,by simp only;omega,by simp only;omega⟩
 generalize hix:dC (zn U (st.a9 i)) (w.q,t.2)=ix at d mr;generalize hW:WK U Vs=B at L D k0 k1 k2 k7 d|-;rw[A];generalize H8:st.a5.getD i 0=E at*;generalize Q:(st.a9 i).length=nc at*;generalize S:(st.bi i false).length=F at*;generalize hnv:(st.bi i true).length=K at*;refine aq.intro low116 Zn9 ?_;refine VC.join (α:=Nat) (bg:=λq=>[(0,kE u.q),(3,kE q)]) (Hf:=λq=>[kA q 0 [kE w.q,vi t.2],B]) (I:=λ_=>True) ?_ (λq3 _=>?_)
 .unfold iC;refine af ?_;exact zDM
 refine VC.join (α:=Unit) (bg:=λ_=>[(0,kE u.q),(3,kE q3)]) (Hf:=λ_=>[kA q3 0 [kE w.q,vi t.2],B]) (I:=λ_=>t.1=i/\t.2<0) ?_ (λ_ hI=>?_)
 .refine af ?_;refine Yw u124 GU GW Zr Zr (L.more (λ_ hx=>by simp[hx])) (D.more (λ_ hx=>by simp[hx])) ?_;refine af ?_;by_cases he:w.q=u.q
  .have g:t.1=i:=hR.XJ T M (by rw[A,gB C];exact he);rw[show decide (w.q=u.q)=true from Zt he];refine af ?_;by_cases h0:0<=t.2
   .rw[show decide ((0:Int)<=t.2)=true from Zt h0];refine af ?_;exact kG (dl:=[B]) (.inr rfl) zT1 ⟨by unfold ai.place;rw[if_pos g,if_pos h0];rfl,rfl⟩ ZI
   .rw[show decide ((0:Int)<=t.2)=false from Zf h0];refine af ?_;exact⟨(),⟨g,Zo⟩,ZU,ZI⟩
  .have g:t.1≠i:=λe=>he (by
    have:=gB Y;rw[e,gB C]at this;exact this.symm)
   obtain⟨p1,p2,p3⟩:=mr g;rw[show decide (w.q=u.q)=false from Zf he];refine jB ?_;refine VC.seq (VC.draws ⟨?_,?_,trivial⟩)
   all_goals
    refine af ?_;refine kH d Zr ZP (λv dl X=>?_);obtain⟨rfl,rfl⟩:=X;simp only[aE];refine af ?_;exact kG (dl:=[B]) (.inr rfl) zT1 ⟨by rw[p1];rfl,rfl⟩ ZI
 obtain⟨m,N⟩:=hI;have N9:0<K:=by
  rcases hc with⟨_,_,_,c⟩|⟨c,_⟩
  .exact c N
  .exact absurd m c
 refine af ?_;refine kR (us:=[vi E,vi F,vi K]) Zr (λz J=>?_) rfl ?_
 .obtain⟨j,x,hx,rfl⟩:=kI.1 J;have Z:j=0∨j=1∨j=2:=zFT
  rcases Z with rfl|rfl|rfl
  .obtain rfl:(vi E:Value)=x:=by simpa using hx
   simp[k0]
  .obtain rfl:(vi F:Value)=x:=by simpa using hx
   simp[k1]
  .obtain rfl:(vi K:Value)=x:=by simpa using hx
   simp[k2]
 refine af ?_;refine kH (Fv E F K nc ⟨Zo,Zo,Zo,Zo⟩) Zr ZP (λv dl X=>?_);obtain⟨rfl,rfl⟩:=X;rw[if_pos N9];simp only[QV];refine af ?_;refine kG (dl:=[B]) (.inr rfl) zT1 ⟨?_,rfl⟩ ZI;unfold ai.place;rw[if_pos m,if_neg Zo,H8,Q,S];show Value.int .i64 (((E+nc+F+1:Nat):Int)-1)=vi ((E:Int)+nc+F)
 congr 1
 omega
def XW(st)(X:Ph st)(I:K1 st)(U Vs)(J:fT st st.a7.length U Vs)(i u)(L:U[i]? =some u)(vv y)(j:Vs[vv]? =some y)(G:pd st i vv=true):
 aq pg9 175 [kE u.q,kE y.q] [WK U Vs] (λv dl=>v=.agg (kS (st.known i vv)).toArray/\dl=[WK U Vs]):=by
 have cm:i<st.a7.length:=by have:=(Vt.1 L).1;rw[J.ul]at this;exact this
 obtain⟨M,Z⟩:=X.pd G;obtain⟨w1,w2,w3⟩:=X.wf.var M;obtain⟨x,s⟩:∃x,st.vars[vv]? =some x:=⟨_,Zg M⟩;obtain⟨⟨w,hw,S⟩,Q,bQ,l6⟩:=J.vn vv x y s j;have F:=ye s;have g:=gu s;obtain⟨ca,cc,UQ,O,S9,KW,cO⟩:=J.cells L;have N:qU U (st.ah vv)=w.q:=by rw[F];exact gB hw
 have ZE:=I.a i;have hbc:=I.dW i;have cZ:∀(k:Nat) x,u.row[k]? =some x->kC.cell u.q k x∈WK U Vs:=λk x s=>yV L _ (QK _ (Zw _ (kI.2 ⟨k,x,s,by rw[Qz]⟩)))
 have k0:kC.cell u.q 0 (vi (st.a5.getD i 0))∈WK U Vs:=cZ 0 _ (by unfold UC.row;rw[O];rfl);have k7:kC.cell u.q 7 (.slice ca (st.a9 i).length cc)∈WK U Vs:=cZ 7 _ (by unfold UC.row;rw[UQ];rfl);have H:∀(k:Nat) x,y.row[k]? =some x->kC.cell y.q k x∈WK U Vs:=λk x s=>nh j _ (kI.2 ⟨k,x,s,by rw[Qz]⟩)
 have y0:kC.cell y.q 0 (kE w.q)∈WK U Vs:=H 0 _ (by unfold aC.row;rw[S];rfl);have y1:kC.cell y.q 1 (vi x.own)∈WK U Vs:=H 1 _ (by unfold aC.row;rw[Q];rfl);have Y:kC.cell y.q 3 (.bool (st.rem vv))∈WK U Vs:=H 3 _ (by unfold aC.row;rw[bQ];rfl);have y4:kC.cell y.q 4 (vi y.slot)∈WK U Vs:=H 4 _ rfl;have aM:x.own<0->(y.slot:Int)=st.cj vv:=λh=>l6 h (by rw[<- F];exact w1)
 have d:∀a:Int,(0<=x.own->a=x.own)->(x.own<0->a=-1/\st.rem vv=true)->(st.ah vv=i/\-1<=a/\a<st.a5.getD i 0/\(a<0->0<(st.bi i true).length))∨(st.ah vv≠i/\(st.ah vv,a)∈st.a9 i):=λa ha hb=>by
  rw[g]at w2 w3;by_cases e:st.ah vv=i
  .refine .inl ⟨e,?_⟩;by_cases c:x.own<0
   .obtain⟨rfl,hr⟩:=hb c;exact⟨Zo,Zo,λ_=>List.length_pos_of_mem (Cy.2 ⟨M,e,by rw[g];exact c,hr⟩)⟩
   .rw[ha Zo];exact⟨Zo,by rw[<- e];exact w3,λc2=>absurd c2 c⟩
  .rcases Z with k|k
   .exact absurd k e
   .refine .inr ⟨e,?_⟩;rw[g]at k;by_cases c:x.own<0
    .obtain⟨rfl,_⟩:=hb c;have:x.own=-1:=by omega
     rw[<- this];exact k.1
    .rw[ha Zo];exact k.1
 have T:∀a:Int,((st.ah vv=i/\-1<=a/\a<st.a5.getD i 0/\(a<0->0<(st.bi i true).length))∨(st.ah vv≠i/\(st.ah vv,a)∈st.a9 i))->aq pg9 116 [kE u.q,iC (w.q,a)] [WK U Vs] (λv dl=>v=vi (st.place i (st.ah vv,a))/\dl=[WK U Vs]):=λa h=>by
  have:=CY st X I U Vs J i u L (st.ah vv,a) w1 h
  rwa [N]at this
 generalize hW:WK U Vs=B at k0 k7 y0 y1 Y y4 T|-;refine aq.intro low175 Zn9 ?_;refine af ?_;refine kJ (λq4=>?_);refine af ?_;by_cases ho:0<=x.own
 .rw[show decide ((0:Int)<=x.own)=true from Zt ho];have m:=T x.own (d x.own (λ_=>rfl) (λc=>by omega));have A:st.known i vv=⟨5,st.place i (st.ah vv,x.own),0,e0⟩:=by unfold ai.known;rw[g,if_pos ho]
  rw[A];generalize st.place i (st.ah vv,x.own)=W at m;unfold iC at m;refine af ?_;refine kH m Zr ZP (λv dl G=>?_);obtain⟨rfl,rfl⟩:=G;simp only[aE];refine af ?_;exact⟨.inr rfl,_,[B],.az (us:=kS ⟨5,W,0,e0⟩) Zr Zr zSb .nil,ZI,rfl,rfl⟩
 rw[show decide ((0:Int)<=x.own)=false from Zf ho];have K:x.own<0:=by omega
 refine af ?_;cases mu:st.rem vv with
 |true=>
  rw[mu]at Y;have m:=T (-1) (d (-1) (λc=>by omega) (λ_=>⟨rfl,mu⟩));have A:st.known i vv=⟨6,st.place i (st.ah vv,-1),y.slot,e0⟩:=by
   unfold ai.known;rw[g,if_neg ho,if_pos mu,aM K];unfold ai.cj;rw[mu]
  rw[A];generalize st.place i (st.ah vv,-1)=W at m;unfold iC at m;refine jB ?_;refine VC.seq (VC.draws ⟨?_,?_,trivial⟩)
  all_goals
   refine af ?_;refine kH m Zr ZP (λv dl G=>?_);obtain⟨rfl,rfl⟩:=G;simp only[aE];refine af ?_;exact⟨.inr rfl,_,[B],.az (us:=kS ⟨6,W,y.slot,e0⟩) Zr Zr zSb .nil,ZI,rfl,rfl⟩
 |false=>
  rw[mu]at Y;have E:st.ah vv=i:=by
   rcases Z with k|k
   .exact k
   .have:=k.2 (by rw[g];exact K);rw[mu]at this;cases this
  have hm:vv∈st.bi i false:=Cy.2 ⟨M,E,by rw[g];exact K,mu⟩;have I5:=I.loc i false;have D:=Wx hm;have C:(y.slot:Int)=dC (st.bi i false) vv:=by
   rw[aM K];unfold ai.cj;rw[mu,E]
  have A:st.known i vv=⟨5,st.a5.getD i 0+(st.a9 i).length+y.slot,0,e0⟩:=by
   unfold ai.known;rw[g,if_neg ho,if_neg (by rw[mu];simp),C]
  rw[A];rw[<- C]at D;generalize H8:st.a5.getD i 0=na at*;generalize hnc:(st.a9 i).length=nc at*;refine af ?_;exact⟨.inr rfl,_,[B],.az (us:=kS ⟨5,(na:Int)+nc+y.slot,0,e0⟩) Zr Zr zSb .nil,ZI,rfl,rfl⟩
def ug(st i):∀l:List PN,eu st i l=l.map (eW st i):=by
 intro l
 induction l with
 |nil=>rfl
 |cons x r ih=>rw[eu,ih];rfl
def LR(st)(qW:Ph st)(hB:K1 st)(U Vs)(hR:fT st st.a7.length U Vs)(i u)(hu:U[i]? =some u)(T):∀(N:Nat) (x:PN),PN.w x<=N->N<=1073741824->∀ws,AX T (Vs.map aC.q) x ws->yH (pd st i) x=true->
 aq pg9 117 [kE u.q,.agg ws.toArray] [WK U Vs,T] (λv dl=>∃ws' B,(v=.agg ws'.toArray/\rS (T++B) (eW st i x) ws')/\dl=[WK U Vs,T,B]):=by
 intro N
 induction N with
 |zero=>intro x hx;have:=PN.nC x;omega
 |succ N ih=>
  intro x hx hN ws h U9;cases h with
  |@mk k nm lit refs cg fP ak lv rv vv a c bk o us hl Q hv ok hz ha hm hs=>
  simp only[PN.w]at hx;have Gy:=PN.G5 ak;simp only[yH,vG,vf,vS]at U9;obtain⟨hraw1,hraw2⟩:=U9;have sq:=Q;have N9:=hv;obtain⟨ra,rc,rfl,Aj⟩:=Q;obtain⟨va,vc,rfl,hvd⟩:=hv;have EQ:=hl;obtain⟨g,A,C,D,E,F,G,rfl⟩:∃(g:Nat) (A:Int) (C:Nat) (D:ByteArray) (E:Option Addr) (F G:Nat),lv=[.int .u8 g,vi A,.int .u64 C,.string D,.slice E F G]:=by
   cases hl with
   |mk Tj Gp rT de=>exact⟨_,_,_,_,_,_,_,rfl⟩
  obtain⟨S,Rk⟩:∃S,S=(zS refs).length:=⟨_,rfl⟩;obtain⟨n2,Cd⟩:∃n2,n2=((fk refs).map λr=>(Vs.map aC.q).getD r.index.toNat 0).length:=⟨_,rfl⟩;rw[<- Rk]at sq hz|-;rw[<- Cd]at N9|-;simp only[aE];refine aq.intro low117 Zn9 ?_;refine VC.join (α:=Nat×Nat×Nat) (bg:=λq=>[(0,kE u.q),(3,kE q.1),(4,kE q.2.1)]) (Hf:=λq=>[kA q.1 0 [.int .u8 k,.string nm,.int .u8 g,vi A,.int .u64 C,.string D,.slice E F G,.slice ra S rc,vi cg,.bool fP,.slice none 0 0,.slice va n2 vc,.slice a ak.length c],kA q.2.1 0 (rP 0 e0 0 0 0 e0 none 0 0 none 0 0 0 false none 0 0),WK U Vs,T]) (I:=λ_=>True) ?_ ?_
  .refine af ?_;refine kZ Zr (λW=>?_);simp only[Value.cells];refine kJ (λJ=>?_);refine af ?_;exact⟨(W,J,0),trivial,ZU,by unfold e0;exact bH⟩
  rintro⟨W,J,_⟩ _
  dsimp only;refine VC.join (α:=Nat) (bg:=λH=>[(0,kE u.q),(3,kE W),(4,kE J),(5,kE H)]) (Hf:=λH=>[kA H 0 (rP k nm g A C D E F G ra S rc cg fP none 0 0),kA W 0 [.int .u8 k,.string nm,.int .u8 g,vi A,.int .u64 C,.string D,.slice E F G,.slice ra S rc,vi cg,.bool fP,Nz,.slice va n2 vc,.slice a ak.length c],kA J 0 (rP 0 e0 0 0 0 e0 none 0 0 none 0 0 0 false none 0 0),WK U Vs,T]) (I:=λ_=>True) ?_ (λH _=>?_)
  .refine af ?_;refine kJ (λH=>?_);refine af ?_;exact⟨H,trivial,ZU,ZI⟩
  refine VC.join (α:=Value×List kC) (bg:=λ_=>[(0,kE u.q),(3,kE W),(4,kE J),(5,kE H)]) (Hf:=λs=>[kA H 0 [.int .u8 k,.string nm,.int .u8 g,vi A,.int .u64 C,.string D,.slice E F G,s.1,vi cg,.bool fP,Nz],kA W 0 [.int .u8 k,.string nm,.int .u8 g,vi A,.int .u64 C,.string D,.slice E F G,.slice ra S rc,vi cg,.bool fP,Nz,.slice va n2 vc,.slice a ak.length c],kA J 0 (rP 0 e0 0 0 0 e0 none 0 0 none 0 0 0 false none 0 0),WK U Vs,T,s.2]) (I:=λs=>jd (T++s.2) s.1 (refs.map (st.fix i))) ?_ ?_
  .rcases ok.one with aw|aw
   rotate_left
   .have mr:zS refs=refs:=V7.2 λr Q=>Zt (aw r Q)
    have hrw:fk refs=[]:=V6.2 λr Q=>by simpa using aw r Q
    rw[hrw]at Cd;have hn20:n2=0:=by rw[Cd];rfl
    subst hn20;have hfx:refs.map (st.fix i)=refs:=by
     conv=>rhs;rw[<- List.map_id refs]
     exact QD λr Q=>by unfold ai.fix;rw[if_neg (aw r Q)];rfl
    rw[mr]at sq;refine af ?_;refine VC.loop (α:=Unit) (bg:=λ_=>[(0,kE u.q),(3,kE W),(4,kE J),(5,kE H),(13,.slice va 0 vc),(14,vi 0),(15,vi 0)]) (Hf:=λ_=>[kA H 0 (rP k nm g A C D E F G ra S rc cg fP none 0 0),kA W 0 [.int .u8 k,.string nm,.int .u8 g,vi A,.int .u64 C,.string D,.slice E F G,.slice ra S rc,vi cg,.bool fP,Nz,.slice va 0 vc,.slice a ak.length c],kA J 0 (rP 0 e0 0 0 0 e0 none 0 0 none 0 0 0 false none 0 0),WK U Vs,T]) (I:=λ_=>True) (μ:=λ_=>0) () trivial ZU ZI ?_;intro _ _;refine af ?_;rw[show decide ((0:Int)<0)=false from rfl];refine af ?_;exact⟨(.slice ra S rc,[]),by rw[hfx];exact sq.more (λy hy=>Zw _ hy),ZU,ap.cut (M:=[kA H 0 (rP k nm g A C D E F G ra S rc cg fP none 0 0),kA W 0 [.int .u8 k,.string nm,.int .u8 g,vi A,.int .u64 C,.string D,.slice E F G,.slice ra S rc,vi cg,.bool fP,Nz,.slice va 0 vc,.slice a ak.length c],kA J 0 (rP 0 e0 0 0 0 e0 none 0 0 none 0 0 0 false none 0 0),WK U Vs,T]) ZI (ap.perm Zs)⟩
   have mr:zS refs=[]:=V6.2 λr Q=>by simpa using aw r Q
   have hrw:fk refs=refs:=V7.2 λr Q=>Zt (aw r Q)
   rw[hrw]at hvd Cd;have hnr:n2=refs.length:=by rw[Cd,Q6]
   subst hnr;have hz1:=hz mr;have hn10:S=0:=by rw[Rk,mr];rfl
   subst hn10;rw[Value.slice.injEq]at hz1;obtain⟨rfl,_,rfl⟩:=hz1;refine af ?_;refine VC.loop (α:=Nat×Value×List Value) (bg:=λs=>[(0,kE u.q),(3,kE W),(4,kE J),(5,kE H),(13,.slice va refs.length vc),(14,vi refs.length),(15,vi s.1)]) (Hf:=λs=>[kA H 0 [.int .u8 k,.string nm,.int .u8 g,vi A,.int .u64 C,.string D,.slice E F G,s.2.1,vi cg,.bool fP,Nz],aj s.2.1 ((((refs.take s.1).map (st.fix i))).flatMap kS) s.2.2,kA W 0 [.int .u8 k,.string nm,.int .u8 g,vi A,.int .u64 C,.string D,.slice E F G,Nz,vi cg,.bool fP,Nz,.slice va refs.length vc,.slice a ak.length c],kA J 0 (rP 0 e0 0 0 0 e0 none 0 0 none 0 0 0 false none 0 0),WK U Vs,T]) (I:=λs=>s.1<=refs.length/\ke 4 s.2.1 s.1 ((((refs.take s.1).map (st.fix i))).flatMap kS) s.2.2) (μ:=λs=>refs.length-s.1) (0,Nz,[]) ⟨X0 _,.nil⟩ ZU (ap.cut (M:=[kA H 0 (rP k nm g A C D E F G none 0 0 cg fP none 0 0),kA W 0 [.int .u8 k,.string nm,.int .u8 g,vi A,.int .u64 C,.string D,.slice E F G,Nz,vi cg,.bool fP,Nz,.slice va refs.length vc,.slice a ak.length c],kA J 0 (rP 0 e0 0 0 0 e0 none 0 0 none 0 0 0 false none 0 0),WK U Vs,T]) ZI (ap.perm A4)) ?_
   rintro⟨j,sv,sp⟩ ⟨hj,Z⟩
   simp only at hj Z;dsimp only;obtain⟨sa,sc,rfl⟩:=Z.form;refine af ?_;by_cases aI:j<refs.length;rotate_left
   .rw[A1 ((j:Int) < (refs.length:Int))];have hje:j=refs.length:=by omega
    subst hje;rw[Qk]at Z|-;refine af ?_;refine⟨(.slice sa refs.length sc,aj (.slice sa refs.length sc) ((refs.map (st.fix i)).flatMap kS) sp),?_,ZU,ZI⟩;have:=fL (B:=[]) (rs:=refs.map (st.fix i)) (by rw[Q6];exact Z);simp only[vm]at this;exact this.more λy hy=>QI _ hy
   rw[A0 ((j:Int) < (refs.length:Int))];obtain⟨r,O⟩:∃r,refs[j]? =some r:=⟨_,Zg aI⟩;obtain⟨v,Ak,Wp⟩:=ok.raw r (Zv O) (aw r (Zv O));rw[Q6]at Wp;obtain⟨y,hy⟩:∃y,Vs[v]? =some y:=⟨_,Zg Wp⟩;have hokv:pd st i v=true:=by
    rcases hraw1 r (Zv O)with k|k
    .rw[aw r (Zv O)]at k;cases k
    .rw[Ak]at k;exact k
   obtain⟨vb,vo,rfl,Rv⟩:=hvd j y.q (by
    rw[Vu,O,Ak];show some ((Vs.map aC.q).getD v 0)=_;rw[Vh,Vu,hy];rfl)
   have Rv:kC.cell vb (vo+j) (kE y.q)∈T:=Rv;have X:=XW st qW hB U Vs hR i u hu v y hy hokv;have hfx:st.fix i r=st.known i v:=by
    rw[Ak];show(if(99:Nat)=99 then st.known i ((v:Int)).toNat else _)=_;rw[if_pos rfl,vW]
   have df:(refs.take (j+1)).map (st.fix i)=(refs.take j).map (st.fix i)++[st.known i v]:=by
    rw[Qi,O,QC];simp only[Option.toList_some,QE,QG,hfx]
   obtain⟨L,hkr⟩:∃L,L=st.known i v:=⟨_,rfl⟩;rw[<- hkr]at X df;unfold kS at X;refine af ?_;refine VC.draws ⟨?_,?_,trivial⟩
   all_goals
    refine af ?_;refine kH X Zr ZP (λv dl hv=>?_);obtain⟨rfl,rfl⟩:=hv;simp only[aE];refine af ?_;refine kV (out:=[.int .u8 L.kind,vi L.index,vi L.slot,.string L.name]) Zr Zr (λrr=>?_);refine af ?_;refine kX (k:=j) (m:=1) (xs:=((refs.take j).map (st.fix i)).flatMap kS) (sp:=sp) (ys:=[.int .u8 L.kind,vi L.index,vi L.slot,.string L.name]) Zr Zr Z ZK Zr ?_ rfl Zr Zr Zd Zo (λbZ bf ax=>?_)
    .exact l9
    have cf:((refs.take j).map (st.fix i)).flatMap kS++([.int .u8 L.kind,vi L.index,vi L.slot,.string L.name]:List Value)=((refs.take (j+1)).map (st.fix i)).flatMap kS:=by
     rw[df,V9,Vb];rfl
    rw[cf]at ax|-;exact zB8
  rintro⟨rv2,Y⟩ K
  simp only at K;dsimp only;obtain⟨rb,rn,hrv2⟩:∃rb rn,rv2=.slice rb (refs.map (st.fix i)).length rn:=let⟨e1,e2,e3,_⟩:=K;⟨e1,e2,e3⟩;subst hrv2;generalize hnr:(refs.map (st.fix i)).length=nr at*;refine af ?_;refine VC.loop (α:=Nat×Value×List (List Value)×List Value×List kC) (bg:=λs=>[(0,kE u.q),(4,kE J),(5,kE H),(29,.slice a ak.length c),(30,vi ak.length),(31,vi s.1)]) (Hf:=λs=>[kA H 0 [.int .u8 k,.string nm,.int .u8 g,vi A,.int .u64 C,.string D,.slice E F G,.slice rb nr rn,vi cg,.bool fP,s.2.1],aj s.2.1 s.2.2.1.flatten s.2.2.2.1,kA J 0 (rP 0 e0 0 0 0 e0 none 0 0 none 0 0 0 false none 0 0),WK U Vs,T,Y,s.2.2.2.2]) (I:=λs=>s.1<=ak.length/\ke 11 s.2.1 s.1 s.2.2.1.flatten s.2.2.2.1/\wk (T++(Y++s.2.2.2.2)) ((ak.take s.1).map (eW st i)) s.2.2.1) (μ:=λs=>ak.length-s.1) (0,Nz,[],[],[]) ⟨X0 _,.nil,wk.nil _⟩ ZU (ap.cut (M:=[kA H 0 (rP k nm g A C D E F G rb nr rn cg fP none 0 0),kA J 0 (rP 0 e0 0 0 0 e0 none 0 0 none 0 0 0 false none 0 0),WK U Vs,T,Y]) ZI (ap.perm A4)) ?_
  rintro⟨j,sv,rows,sp,B2⟩ ⟨hj,Z,bA⟩
  simp only at hj Z bA;dsimp only;obtain⟨sa,sc,rfl⟩:=Z.form;refine af ?_;by_cases aI:j<ak.length;rotate_left
  .rw[A1 ((j:Int) < (ak.length:Int))];have hje:j=ak.length:=by omega
   subst hje;rw[Qk,<- ug]at bA;have hlk:(eu st i ak).length=ak.length:=by rw[ug,Q6]
   have KU:=zZ (l:=eu st i ak) (by rw[hlk];exact Z) bA;have dc:∀y∈T++Y,y∈T++(aj (.slice sa ak.length sc) rows.flatten sp++(Y++B2)):=λy hy=>by
    rcases QH.1 hy with hy|hy
    .exact Zw _ hy
    .exact QI _ (QI _ (Zw _ hy))
   have KT:=yq (T:=T++(aj (.slice sa ak.length sc) rows.flatten sp++(Y++B2))) (k:=k) (nm:=nm) (lit:=lit) (refs:=refs.map (st.fix i)) (cg:=cg) (fP:=fP) (ak:=eu st i ak) (EQ.more λy hy=>Zw _ hy) (K.more dc) (KU.more λy hy=>by
    rcases QH.1 hy with hy|hy
    .exact QI _ (Zw _ hy)
    .rcases QH.1 hy with hy|hy
     .exact Zw _ hy
     .exact QI _ (QI _ hy))
   refine af ?_;refine⟨.inr rfl,_,[WK U Vs,T,aj (.slice sa ak.length sc) rows.flatten sp++(Y++B2)],.az (us:=(rP k nm g A C D E F G rb nr rn cg fP sa ak.length sc)) Zr Zr zSb .nil,ap.cut (M:=[WK U Vs,T,aj (.slice sa ak.length sc) rows.flatten sp,Y,B2]) ZI (ap.perm Zs),⟨_,_,⟨rfl,?_⟩,rfl⟩⟩;rw[eW];exact KT
  rw[A0 ((j:Int) < (ak.length:Int))];obtain rfl:=ha Zo;obtain⟨x,hxj⟩:∃x,ak[j]? =some x:=⟨_,Zg aI⟩;have hxm:=Zv hxj;have S5:=hm j aI;have Wn:=hs j x hxj;have aK:=ih x (by have:=PN.OQ hxm;omega) Zo _ Wn (sJ hraw2 x hxm);generalize us j=uj at*;obtain⟨f1,f2,f3,f4,f5,f6,f7,r1,r2,r3,p1,p2,p3,k1,k2,k3,rfl⟩:=mO Wn;have df:(ak.take (j+1)).map (eW st i)=(ak.take j).map (eW st i)++[eW st i x]:=by
   rw[Qi,hxj,QC];rfl
  refine af ?_;refine kR Zr (λz hz=>by have h9:=S5 z hz;simp[h9]) rfl ?_;refine af ?_;refine kJ (λq9=>?_);refine af ?_;refine VC.draws ⟨?_,?_,trivial⟩
  all_goals
   refine af ?_;refine kH aK Zr ZP (λv dl hv=>?_);obtain⟨ws',B3,⟨rfl,hp⟩,rfl⟩:=hv;simp only[aE];obtain⟨d,oV⟩:∃d,d=eW st i x:=⟨_,rfl⟩;rw[<- oV]at hp df;have sj:=hp;obtain⟨g1,g2,g3,g4,g5,g7,s1,s3,t1,t3,_,_,_,rfl,_⟩:=oD sj;refine af ?_;refine kV (out:=(rP d.kind d.name g1 g2 g3 g4 g5 d.lit.ci.length g7 s1 d.refs.length s3 d.cg d.super t1 d.ak.length t3)) Zr Zr (λrr=>?_);refine af ?_;refine kX (k:=j) (m:=1) (xs:=rows.flatten) (sp:=sp) (ys:=(rP d.kind d.name g1 g2 g3 g4 g5 d.lit.ci.length g7 s1 d.refs.length s3 d.cg d.super t1 d.ak.length t3)) Zr Zr Z ZK Zr ?_ rfl Zr Zr Zd Zo (λbZ bf ax=>?_)
   .exact l9
   have cf:rows.flatten++((rP d.kind d.name g1 g2 g3 g4 g5 d.lit.ci.length g7 s1 d.refs.length s3 d.cg d.super t1 d.ak.length t3):List Value)=(rows++[((rP d.kind d.name g1 g2 g3 g4 g5 d.lit.ci.length g7 s1 d.refs.length s3 d.cg d.super t1 d.ak.length t3):List Value)]).flatten:=by simp
   rw[cf]at ax|-;obtain⟨dZ,ed,rfl⟩:=ax.form;refine af ?_;refine⟨(j+1,.slice dZ (j+1) ed,rows++[(rP d.kind d.name g1 g2 g3 g4 g5 d.lit.ci.length g7 s1 d.refs.length s3 d.cg d.super t1 d.ak.length t3)],bf,B2++B3),⟨by simp only;omega,ax,?_⟩,by simp only;omega,ZU,?_⟩
   .show wk (T++(Y++(B2++B3))) ((ak.take (j+1)).map (eW st i)) _;rw[df];refine(bA.more λy hy=>?_).snoc (hp.more λy hy=>?_)
    .simp only[QH]at hy|-;rcases hy with hy|hy|hy
     .exact .inl hy
     .exact .inr (.inl hy)
     .exact .inr (.inr (.inl hy))
    .simp only[QH]at hy|-;rcases hy with hy|hy
     .exact .inl hy
     .exact .inr (.inr (.inr hy))
   .simp only;refine ap.cut (M:=[kA H 0 (rP k nm g A C D E F G rb nr rn cg fP dZ (j+1) ed),aj (.slice dZ (j+1) ed) (rows++[((rP d.kind d.name g1 g2 g3 g4 g5 d.lit.ci.length g7 s1 d.refs.length s3 d.cg d.super t1 d.ak.length t3):List Value)]).flatten bf,kA J 0 (rP 0 e0 0 0 0 e0 none 0 0 none 0 0 0 false none 0 0),WK U Vs,T,Y,B2,B3]) ZI (ap.perm Zs)
def uZ(st U Vs)(F:di st U Vs)(i u)(A:U[i]? =some u)(j)(hb:st.vars.length < 1073741824):
 aq pg9 111 [kE u.q,.bool j] [WK U Vs] (λr dl=>∃B y,(r=kE y.q/\(∀nm,di (st.bu ⟨nm,i,j,-1⟩) B (Vs++[y]))/\B.map UC.q=U.map UC.q/\B.map UC.body=U.map UC.body)/\dl=[WK B (Vs++[y])]):=by
 obtain⟨E,C⟩:=F.tm i u A;have S9:u.ae.length<=st.vars.length:=by
  rw[E,Q6];exact Qu (Q5 _ _) Zs
 obtain⟨R,L,N⟩:=Zk (V:=Vs) A;refine aq.intro low111 Zn9 ?_;refine VC.imp (H':=[kA u.q 5 [u.tv],aj u.tv (u.ae.map λb=>kN (some b)) u.lS,R]) (ap.perm (by simpa using L)) ?_;have G:u.ae.length=(u.ae.map λb=>kN (some b)).length:=by simp
 obtain⟨ta,tc,H⟩:=C.form;refine af ?_;refine kZ Zr (λq=>?_);simp only[Value.cells];refine af ?_;refine kV (out:=[kE q]) Zr Zr (λq2=>?_);rw[H]at C|-;refine kX (k:=u.ae.length) (m:=1) (xs:=u.ae.map λb=>kN (some b)) (sp:=u.lS) (ys:=[kE q]) Zr Zr C ZK Zr ?_ rfl Zr Zr Zd Zo (λbZ s D=>?_)
 .exact l9
 obtain⟨d,g,rfl⟩:=D.form;have I:(u.ae.map λb=>kN (some b))++[kE q]=(u.ae++[q]).map λb=>kN (some b):=by simp[kN]
 rw[I]at D|-;refine af ?_;refine kG (dl:=[WK (U.set i {u with ae:=u.ae++[q],tv:=.slice d (u.ae.length+1) g,lS:=s}) (Vs++[⟨q,u.q,-1,j,false,0⟩])]) (.inr rfl) (.tmp (v:=kE q) Zr .nil) ⟨U.set i {u with ae:=u.ae++[q],tv:=.slice d (u.ae.length+1) g,lS:=s},⟨q,u.q,-1,j,false,0⟩,⟨rfl,λnm=>?_,zu A rfl,uG A rfl⟩,rfl⟩ ?_
 .exact cT.bu F rfl A (by simp only;omega) ⟨rfl,rfl,rfl,rfl,rfl⟩ rfl rfl (by rw[if_pos (show(-1:Int)<0 by decide)]) (by simpa using D)
 .refine ap.cut (M:=[kA q 0 [kE u.q,vi (-1),.bool j,.bool false,vi 0],kA u.q 5 [.slice d (u.ae.length+1) g],aj (.slice d (u.ae.length+1) g) ((u.ae++[q]).map λb=>kN (some b)) s,R]) ZI (ap.perm ?_);have J:=Kp (U.set i {u with ae:=u.ae++[q],tv:=.slice d (u.ae.length+1) g,lS:=s}) Vs ⟨q,u.q,-1,j,false,0⟩;have K:=N (u.ae++[q]) (.slice d (u.ae.length+1) g) s;simp only[Vd,Ve,vm];refine List.Perm.trans ?_ J.symm;refine vY _ ?_;rw[<- vj];exact K.symm
end Go.Proofs.YtijnokbblmbpkaaGreatDoor
namespace Go.Proofs
open Go.Shelf
shelf_lay_g SlLaysW.n5 Slmc 5 at Tryz 171 as Tryz.slcl1
end Go.Proofs
namespace Go.Proofs.YtijnokbblmbpkaaGreatDoor
open Go Go.V
def LG(b es c):aq pg9 171 [.map (some b)] [[.obj b (.map es c)]] (λv dl=>∃d,v=.map (some d)/\dl=[[.obj b (.map es c)],[.obj d (.map es c)]]):=by
 refine⟨by kernel_rfl,λF w hs=>?_⟩;have g:w.heap[b]? =some (.map es c):=(hs.obj (b:=b) (o:=.map es c) Zs).1;refine(AnyW.maps_Clone Tryz.slcl1 b es c w g).mono ?_;exact zBW
def IT(q:Nat):Value:=.iface 80 (kE q)
def qQ(q:Nat):List PanicEntry:=[{v:=IT q,recovered:=false}]
def Ol:ByteArray:=⟨#[82,101,115,111,108,118,101]⟩
def jT(q:Nat)(e:Nat)(p:Int):List kC:=kA q 0 [.string Ol,.int .i64 p,.iface 44 (.int .i64 e)]
def dS(e:Nat)(p:Int):jr pg9 113 [vi e,vi p] [] (λ_ _=>False) (λd dl=>∃q,d=qQ q/\dl=[jT q e p]):=by
 refine jr.intro low113 Zn9 ?_;refine af ?_;refine kZ Zr (λq=>?_);simp only[Value.cells];refine af ?_;refine Yx Zr ?_;refine⟨[jT q e p],?_,q,rfl,rfl⟩;unfold jT Ol;exact bH
def O1 {st:ai}(g:st.f=none)(h1:st.a7.length<=255)(d:∀i,i < st.a7.length->(st.aG i).SU=false):st.answer=((List.range st.a7.length).map st.aG,0,0):=by
 unfold ai.answer;rw[g];simp only;rw[if_neg Zo,if_neg];rw[Bool.not_eq_true,List.any_eq_false];intro x m;obtain⟨i,j,rfl⟩:=QO.1 m;rw[d i (QS.1 j)];simp
def A6 {st:ai}(d:st.f=none){i:Nat}(g:i < st.a7.length)(h:(st.aG i).SU=true):st.answer=([],183,0):=by
 unfold ai.answer;rw[d];simp only;split
 .rfl
 .rw[if_pos];rw[vh];exact⟨_,QO.2 ⟨i,QS.2 g,rfl⟩,h⟩
def Iw {st:ai}(d:st.f=none)(h:255 < st.a7.length):st.answer=([],183,0):=by
 unfold ai.answer;rw[d];simp only;rw[if_pos h]
structure Bnds (st:ai):Prop where
 b:K1 st
 w:∀l∈st.a8,PN.ws l<=4194304
def MX(st)(qW:Ph st)(hBs:Bnds st)(hf:st.f=none)(U Vs)(hR:fT st 0 U Vs)(us J)(aM:ke 1 us U.length (U.map λu=>kN (some u.q)) J)(T)(L3:∀(i:Nat) u,U[i]? =some u->xZ T (Vs.map aC.q) u.body (st.a8.getD i []))(wq fv gv av tv bv O N):
 jr pg9 50 [kE wq,.agg #[.string O,av,tv,vi N,bv]] [kA wq 0 [fv,gv,us],aj us (U.map λu=>kN (some u.q)) J,WK U Vs,T]
  (λv dl=>∃Ei B,(st.answer=((List.range st.a7.length).map st.aG,0,0)/\v=.agg #[.string O,vi N,Ei]/\O0 B Ei ((List.range st.a7.length).map st.aG))/\dl=[B])
  (λch dl=>∃q,st.answer=([],183,0)/\ch=qQ q/\dl=[jT q 183 0]):=by
 obtain⟨hB,hBw⟩:=hBs;have S9:=hR.ul;have hbo:=hB.o;have hpt:zH (aj us ((U.map UC.q).map λb=>kN (some b)) J) us (U.map UC.q):=lJ (by rw[Q6]) (by rw[QF];exact aM);have ZR:((U.map UC.q).map λb=>kN (some b))=U.map λu=>kN (some u.q):=by rw[QF];rfl
 rw[ZR]at hpt;obtain⟨ua,A,rfl⟩:=aM.form;obtain⟨ua',uc',hua,hptr⟩:=hpt;rw[Value.slice.injEq]at hua;obtain⟨rfl,_,rfl⟩:=hua;refine jr.intro low50 Zn9 ?_;have aL:∀(k:Nat) w,U[k]? =some w->∃b o,ua=some ⟨b,o,none⟩/\kC.cell b (o+k) (kE w.q)∈aj (.slice ua U.length A) (U.map λu=>kN (some u.q)) J:=λk w Y=>by
  obtain⟨b,o,h1,h2⟩:=hptr k w.q (by rw[Vu,Y];rfl);exact⟨b,o,h1,h2⟩
 refine af ?_;refine kZ Zr (λq3=>?_);simp only[Value.cells];refine kJ (λD=>?_);refine af ?_;refine kJ (λE=>?_);refine jB ?_;refine VC.join (α:=Unit) (bg:=λ_=>[(0,kE wq),(4,kE D),(5,kE E)]) (Hf:=λ_=>[kA E 0 [.string O,vi N,Nz],kA D 0 [.string e0,vi 0,Nz],kA wq 0 [fv,gv,.slice ua U.length A],aj (.slice ua U.length A) (U.map λu=>kN (some u.q)) J,WK U Vs,T]) (I:=λ_=>st.a7.length<=255) ?_ (λ_ qV=>?_)
 .refine af ?_;by_cases hc:255<U.length
  .rw[A0 ((255:Int) < (U.length:Int))];refine af ?_;refine kM (dS 183 0) Zr ZP (λv dl hv=>False.elim hv) (λch dl hz=>?_);obtain⟨q1,rfl,rfl⟩:=hz;exact⟨[jT q1 183 0],ZI,q1,Iw hf Zo,rfl,rfl⟩
  .rw[A1 ((255:Int) < (U.length:Int))];refine af ?_;exact⟨(),by show st.a7.length<=255;omega,ZU,by unfold e0;exact bH⟩
 refine VC.join (α:=List UC×List aC) (bg:=λ_=>[(0,kE wq),(4,kE D),(5,kE E)]) (Hf:=λs=>[kA E 0 [.string O,vi N,Nz],kA D 0 [.string e0,vi 0,Nz],kA wq 0 [fv,gv,.slice ua U.length A],aj (.slice ua U.length A) (U.map λu=>kN (some u.q)) J,WK s.1 s.2,T]) (I:=λs=>fT st st.a7.length s.1 s.2/\s.1.map UC.q=U.map UC.q/\s.1.map UC.body=U.map UC.body/\s.2.map aC.q=Vs.map aC.q) ?_ ?_
 .refine af ?_;refine VC.loop (α:=Nat×List UC×List aC) (bg:=λs=>[(0,kE wq),(4,kE D),(5,kE E),(30,.slice ua U.length A),(31,vi U.length),(32,vi s.1)]) (Hf:=λs=>[kA E 0 [.string O,vi N,Nz],kA D 0 [.string e0,vi 0,Nz],kA wq 0 [fv,gv,.slice ua U.length A],aj (.slice ua U.length A) (U.map λu=>kN (some u.q)) J,WK s.2.1 s.2.2,T]) (I:=λs=>s.1<=U.length/\fT st s.1 s.2.1 s.2.2/\s.2.1.map UC.q=U.map UC.q/\s.2.1.map UC.body=U.map UC.body/\s.2.2.map aC.q=Vs.map aC.q) (μ:=λs=>U.length-s.1) (0,U,Vs) ⟨X0 _,hR,rfl,rfl,rfl⟩ ZU ZI ?_
  rintro⟨k,Uk,Vk⟩ ⟨hk,hRk,Ia,lY,Mg⟩
  simp only at hk hRk Ia lY Mg;dsimp only;refine af ?_;by_cases aI:k<U.length;rotate_left
  .rw[A1 ((k:Int) < (U.length:Int))];have hke:k=st.a7.length:=by omega
   rw[hke]at hRk;refine af ?_;exact⟨(Uk,Vk),⟨hRk,Ia,lY,Mg⟩,ZU,ZI⟩
  rw[A0 ((k:Int) < (U.length:Int))];obtain⟨w,Y⟩:∃w,Uk[k]? =some w:=⟨_,Zg (by rw[hRk.ul];omega)⟩;obtain⟨w0,Ta⟩:∃w0,U[k]? =some w0:=⟨_,Zg aI⟩;have rV:w0.q=w.q:=by
   have:=Gl Ia k;rw[Y,Ta]at this;exact(X8 this).symm
  obtain⟨W,X,hub,huc⟩:=aL k w0 Ta;subst hub;rw[rV]at huc;have hlay:=WV st qW Uk Vk k hRk w Y ⟨hB.v,hB.o,hB.a⟩;refine af ?_;refine kH hlay Zr ZP (λv dl hv=>?_);obtain⟨U',V',⟨rfl,h1,h2,h3,h4⟩,rfl⟩:=hv;simp only[aE];refine af ?_;exact⟨(k+1,U',V'),⟨by simp only;omega,h1,h2.trans Ia,h3.trans lY,h4.trans Mg⟩,by simp only;omega,ZU,ZI⟩
 rintro⟨g,C⟩ ⟨ZC,Ia,lY,Mg⟩
 simp only at ZC Ia lY Mg;dsimp only;have hgetf:∀k,k<st.a7.length->∃w,g[k]? =some w/\∃b o,ua=some ⟨b,o,none⟩/\kC.cell b (o+k) (kE w.q)∈aj (.slice ua U.length A) (U.map λu=>kN (some u.q)) J:=λk hk=>by
  obtain⟨w,Y⟩:∃w,g[k]? =some w:=⟨_,Zg (by rw[ZC.ul];omega)⟩;obtain⟨w0,Ta⟩:∃w0,U[k]? =some w0:=⟨_,Zg Zo⟩;have rV:w0.q=w.q:=by
   have:=Gl Ia k;rw[Y,Ta]at this;exact(X8 this).symm
  obtain⟨b,o,h1,h2⟩:=aL k w0 Ta;exact⟨w,Y,b,o,h1,rV ▸ h2⟩
 have hbodf:∀(k:Nat) w,g[k]? =some w->xZ T (C.map aC.q) w.body (st.a8.getD k []):=λk w Y=>by
  have h1:(U.map UC.body)[k]? =some w.body:=by rw[<- lY,Vu,Y];rfl
  rw[Vu]at h1;obtain⟨w0,Ta,he⟩:=X5.1 h1;rw[Mg,<- he];exact L3 k w0 Ta
 clear hR Ia lY Mg aL L3;refine jB ?_;refine VC.join (α:=Value×List (List Value)×List Value×List kC) (bg:=λ_=>[(4,kE D),(5,kE E)]) (Hf:=λs=>[kA E 0 [.string O,vi N,s.1],aj (s.1) s.2.1.flatten s.2.2.1,kA D 0 [.string e0,vi 0,Nz],aj (.slice ua U.length A) (U.map λu=>kN (some u.q)) J,WK g C,T,s.2.2.2]) (I:=λs=>st.answer=((List.range st.a7.length).map st.aG,0,0)/\ke 6 s.1 st.a7.length s.2.1.flatten s.2.2.1/\fg 6 (SS (T++s.2.2.2)) ((List.range st.a7.length).map st.aG) s.2.1) ?_ ?_
 .refine af ?_;refine VC.loop (α:=Nat×Value×List (List Value)×List Value×List kC) (bg:=λs=>[(4,kE D),(5,kE E),(42,.slice ua U.length A),(43,vi U.length),(44,vi s.1)]) (Hf:=λs=>[kA E 0 [.string O,vi N,s.2.1],aj (s.2.1) s.2.2.1.flatten s.2.2.2.1,kA D 0 [.string e0,vi 0,Nz],aj (.slice ua U.length A) (U.map λu=>kN (some u.q)) J,WK g C,T,s.2.2.2.2]) (I:=λs=>s.1<=U.length/\(∀i,i<s.1->(st.aG i).SU=false)/\ke 6 s.2.1 s.1 s.2.2.1.flatten s.2.2.2.1/\fg 6 (SS (T++s.2.2.2.2)) ((List.range s.1).map st.aG) s.2.2.1) (μ:=λs=>U.length-s.1) (0,Nz,[],[],[]) ⟨X0 _,(λi h=>by omega),.nil,fg.nil⟩ ZU (ap.cut (M:=[kA E 0 [.string O,vi N,Nz],kA D 0 [.string e0,vi 0,Nz],aj (.slice ua U.length A) (U.map λu=>kN (some u.q)) J,WK g C,T]) ZI (ap.perm A4)) ?_
  rintro⟨j,sv,rows,sp,B⟩ ⟨hj,hnb,gP,bA⟩
  simp only at hj hnb gP bA;dsimp only;obtain⟨K,L,rfl⟩:=gP.form;refine af ?_;by_cases aI:j<U.length;rotate_left
  .rw[A1 ((j:Int) < (U.length:Int))];have hje:j=st.a7.length:=by omega
   rw[hje]at gP bA hnb|-;refine af ?_;exact⟨(.slice K st.a7.length L,rows,sp,B),⟨O1 hf qV hnb,gP,bA⟩,ZU,ZI⟩
  rw[A0 ((j:Int) < (U.length:Int))];have gh:j<st.a7.length:=by omega
  obtain⟨u,hu,W,X,hub,huc⟩:=hgetf j gh;subst hub;obtain⟨ca,cc,UQ,hua,hulc,KW,cO⟩:=ZC.cells hu;have ZE:=hB.a j;have hbc:=hB.dW j;have I5:=hB.loc j false;have hbv:=hB.loc j true;have cZ:∀(k:Nat) x,u.row[k]? =some x->kC.cell u.q k x∈WK g C:=λk x hx=>yV hu _ (QK _ (Zw _ (kI.2 ⟨k,x,hx,by rw[Qz]⟩)))
  have k0:kC.cell u.q 0 (vi (st.a5.getD j 0))∈WK g C:=cZ 0 _ (by unfold UC.row;rw[hua];rfl);have k1:kC.cell u.q 1 (vi (st.bi j false).length)∈WK g C:=cZ 1 _ (by unfold UC.row;rw[hulc];rfl);have k2:kC.cell u.q 2 (vi (st.bi j true).length)∈WK g C:=cZ 2 _ (by unfold UC.row;rw[KW];rfl);have k3:kC.cell u.q 3 (kN u.a7)∈WK g C:=cZ 3 _ rfl;have k7:kC.cell u.q 7 (.slice ca (st.a9 j).length cc)∈WK g C:=cZ 7 _ (by unfold UC.row;rw[UQ];rfl);have k8:kC.cell u.q 8 u.body∈WK g C:=cZ 8 _ rfl;have cY:(st.aG j).SU=(decide (63<(((st.a5.getD j 0+(st.a9 j).length+(st.bi j false).length+(if 0<(st.bi j true).length then 1 else 0):Nat):Int)))||decide (63<((st.bi j true).length:Int))):=by
   unfold zM.SU;rw[Kl]
   congr 1
   unfold ai.frame;exact decide_eq_decide.2 (by split<;>omega)
  obtain⟨F,H8⟩:∃F,F=st.a5.getD j 0:=⟨_,rfl⟩;obtain⟨S,hnc⟩:∃S,S=(st.a9 j).length:=⟨_,rfl⟩;obtain⟨H,hnl⟩:∃H,H=(st.bi j false).length:=⟨_,rfl⟩;obtain⟨G,hnv⟩:∃G,G=(st.bi j true).length:=⟨_,rfl⟩;rw[<- H8]at ZE k0 cY;rw[<- hnc]at hbc k7 cY;rw[<- hnl]at I5 k1 cY;rw[<- hnv]at hbv k2 cY;have hW3:∀z∈kA u.q 0 [vi F,vi H,vi G],z∈WK g C:=λz hz=>by
   obtain⟨jj,x,hx,rfl⟩:=kI.1 hz;have hz3:jj=0∨jj=1∨jj=2:=zFT
   rcases hz3 with rfl|rfl|rfl
   .obtain rfl:(vi F:Value)=x:=by simpa using hx
    exact k0
   .obtain rfl:(vi H:Value)=x:=by simpa using hx
    exact k1
   .obtain rfl:(vi G:Value)=x:=by simpa using hx
    exact k2
  refine jB ?_;refine VC.join (α:=Unit) (bg:=λ_=>[(4,kE D),(5,kE E),(9,kE u.q),(42,.slice (some ⟨W,X,none⟩) U.length A),(43,vi U.length),(44,vi j)]) (Hf:=λ_=>[kA E 0 [.string O,vi N,.slice K j L],aj (.slice K j L) rows.flatten sp,kA D 0 [.string e0,vi 0,Nz],aj (.slice (some ⟨W,X,none⟩) U.length A) (U.map λu=>kN (some u.q)) J,WK g C,T,B]) (I:=λ_=>(st.aG j).SU=false) ?_ (λ_ hnbj=>?_)
  .refine af ?_;refine kR (us:=[vi F,vi H,vi G]) Zr (λz hz=>by have h9:=hW3 z hz;simp[h9]) rfl ?_;refine af ?_;refine kH (Fv F H G S ⟨Zo,Zo,Zo,Zo⟩) Zr ZP (λv dl hv=>?_);obtain⟨rfl,rfl⟩:=hv;simp only[QV];refine af ?_;by_cases c1:(63:Int)<((F+S+H+(if 0<G then 1 else 0):Nat):Int)
   .rw[Zt c1];refine af ?_;refine kM (dS 183 0) Zr ZP (λv dl hv=>False.elim hv) (λch dl hz=>?_);obtain⟨q1,rfl,rfl⟩:=hz;exact⟨[jT q1 183 0],ZI,q1,A6 hf gh (by rw[cY,Zt c1];rfl),rfl,rfl⟩
   rw[Zf c1];refine af ?_;by_cases c2:(63:Int)<(G:Int)
   .rw[Zt c2];refine af ?_;refine kM (dS 183 0) Zr ZP (λv dl hv=>False.elim hv) (λch dl hz=>?_);obtain⟨q1,rfl,rfl⟩:=hz;exact⟨[jT q1 183 0],ZI,q1,A6 hf gh (by rw[cY,Zt c2,Bool.or_true]),rfl,rfl⟩
   rw[Zf c2];refine af ?_;exact⟨(),by rw[cY,Zf c1,Zf c2];rfl,ZU,ZI⟩
  refine VC.join (α:=Nat) (bg:=λQ=>[(4,kE D),(5,kE E),(9,kE u.q),(10,kE Q),(42,.slice (some ⟨W,X,none⟩) U.length A),(43,vi U.length),(44,vi j)]) (Hf:=λQ=>[kA Q 0 [vi (-1),vi F,Nz,vi H,vi G,Nz],kA E 0 [.string O,vi N,.slice K j L],aj (.slice K j L) rows.flatten sp,kA D 0 [.string e0,vi 0,Nz],aj (.slice (some ⟨W,X,none⟩) U.length A) (U.map λu=>kN (some u.q)) J,WK g C,T,B]) (I:=λ_=>True) ?_ (λQ _=>?_)
  .refine af ?_;refine kJ (λQ=>?_);refine af ?_;exact⟨Q,trivial,ZU,ZI⟩
  refine VC.join (α:=Unit) (bg:=λ_=>[(4,kE D),(5,kE E),(9,kE u.q),(10,kE Q),(42,.slice (some ⟨W,X,none⟩) U.length A),(43,vi U.length),(44,vi j)]) (Hf:=λ_=>[kA Q 0 [vi (st.a7.getD j (-1)),vi F,Nz,vi H,vi G,Nz],kA E 0 [.string O,vi N,.slice K j L],aj (.slice K j L) rows.flatten sp,kA D 0 [.string e0,vi 0,Nz],aj (.slice (some ⟨W,X,none⟩) U.length A) (U.map λu=>kN (some u.q)) J,WK g C,T,B]) (I:=λ_=>True) ?_ (λ_ _=>?_)
  .have S8:=ZC.ou j u hu;have mq:=qW.wf.gk j;by_cases hn:st.a7.getD j (-1)<0
   .rw[if_pos hn]at S8;rw[S8]at k3;have tB:st.a7.getD j (-1)=-1:=by
     have e:st.a7[j]? =some st.a7[j]:=Zg gh;have h1:=qW.wf.low j _ e;have h2:st.a7.getD j (-1)=st.a7[j]:=by rw[Vh,e];rfl
     omega
    rw[tB];have k3:kC.cell u.q 3 (.pointer none)∈WK g C:=k3;exact Ds
   .rw[if_neg hn]at S8;obtain⟨w,Y⟩:∃w,g[(st.a7.getD j (-1)).toNat]? =some w:=⟨_,Zg (by rw[ZC.ul];omega)⟩;rw[Y]at S8;rw[S8]at k3;have k3:kC.cell u.q 3 (kE w.q)∈WK g C:=k3;have hwn:=(ZC.ar _ w Y).2;have k4:kC.cell w.q 4 (vi (st.a7.getD j (-1)))∈WK g C:=yV Y _ (QK _ (Zw _ (kI.2 ⟨4,_,by unfold UC.row;rw[hwn,show(((st.a7.getD j (-1)).toNat:Nat):Int)=st.a7.getD j (-1) by omega];rfl,rfl⟩)));exact Ds
  refine VC.join (α:=Value×List kC) (bg:=λ_=>[(4,kE D),(5,kE E),(9,kE u.q),(10,kE Q),(42,.slice (some ⟨W,X,none⟩) U.length A),(43,vi U.length),(44,vi j)]) (Hf:=λs=>[kA Q 0 [vi (st.a7.getD j (-1)),vi F,s.1,vi H,vi G,Nz],s.2,kA E 0 [.string O,vi N,.slice K j L],aj (.slice K j L) rows.flatten sp,kA D 0 [.string e0,vi 0,Nz],aj (.slice (some ⟨W,X,none⟩) U.length A) (U.map λu=>kN (some u.q)) J,WK g C,T,B]) (I:=λs=>jd s.2 s.1 (st.aG j).a9) ?_ ?_
  .refine af ?_;refine VC.loop (α:=Nat×Value×List Value) (bg:=λs=>[(4,kE D),(5,kE E),(9,kE u.q),(10,kE Q),(42,.slice (some ⟨W,X,none⟩) U.length A),(43,vi U.length),(44,vi j),(100,.slice ca S cc),(101,vi S),(102,vi s.1)]) (Hf:=λs=>[kA Q 0 [vi (st.a7.getD j (-1)),vi F,s.2.1,vi H,vi G,Nz],aj s.2.1 ((((st.aG j).a9).take s.1).flatMap kS) s.2.2,kA E 0 [.string O,vi N,.slice K j L],aj (.slice K j L) rows.flatten sp,kA D 0 [.string e0,vi 0,Nz],aj (.slice (some ⟨W,X,none⟩) U.length A) (U.map λu=>kN (some u.q)) J,WK g C,T,B]) (I:=λs=>s.1<=S/\ke 4 s.2.1 s.1 ((((st.aG j).a9).take s.1).flatMap kS) s.2.2) (μ:=λs=>S-s.1) (0,Nz,[]) ⟨X0 _,.nil⟩ ZU (ap.cut (M:=[kA Q 0 [vi (st.a7.getD j (-1)),vi F,Nz,vi H,vi G,Nz],kA E 0 [.string O,vi N,.slice K j L],aj (.slice K j L) rows.flatten sp,kA D 0 [.string e0,vi 0,Nz],aj (.slice (some ⟨W,X,none⟩) U.length A) (U.map λu=>kN (some u.q)) J,WK g C,T,B]) ZI (ap.perm A4)) ?_;have hcpl:(st.aG j).a9.length=S:=by rw[hnc];exact Q6 _
   rintro⟨k,rv,Yb⟩ ⟨hk,Ak⟩
   simp only at hk Ak;dsimp only;obtain⟨ra,rc,rfl⟩:=Ak.form;refine af ?_;by_cases Gy:k<S;rotate_left
   .rw[A1 ((k:Int) < (S:Int))];have hke:S=k:=by omega
    subst hke;have df:(st.aG j).a9.take S=(st.aG j).a9:=Ql Zo;rw[df]at Ak|-;refine af ?_;refine⟨(.slice ra S rc,aj (.slice ra S rc) ((st.aG j).a9.flatMap kS) Yb),?_,ZU,ZI⟩;have:=fL (B:=[]) (rs:=(st.aG j).a9) (by rw[hcpl];exact Ak);simpa only[vm]using this
   rw[A0 ((k:Int) < (S:Int))];obtain⟨t,ht⟩:∃t,(st.a9 j)[k]? =some t:=⟨_,Zg Zo⟩;have htm:=Zv ht;obtain⟨o0,o1,o2,o3,o4,o5⟩:=qW.oS gh htm;have mq:=qW.wf.gk j;obtain⟨w,Y⟩:∃w,g[(st.a7.getD j (-1)).toNat]? =some w:=⟨_,Zg (by rw[ZC.ul];omega)⟩;have S8:=ZC.ou j u hu;rw[if_neg Zo,Y]at S8;rw[S8]at k3;have k3:kC.cell u.q 3 (kE w.q)∈WK g C:=k3;have oh:=CY st qW hB g C ZC _ w Y t o2 (by
    by_cases e:t.1=(st.a7.getD j (-1)).toNat
    .exact .inl ⟨e,o4,by rw[<- e];exact o5,λc=>by rw[<- e];exact qW.Y8 htm c⟩
    .rcases o1 with c|c
     .exact absurd c e
     .exact .inr ⟨e,c⟩)
   obtain⟨cb,co,rfl,L4⟩:=cO k (qU g t.1,t.2) (by unfold zn;rw[Vu,ht];rfl);have hcm:∀z∈kA cb (co+k*2) [kE (qU g t.1),vi t.2],z∈WK g C:=λz hz=>yV hu _ (L4 z hz)
   have hrk:(st.aG j).a9[k]? =some ⟨5,st.place (st.a7.getD j (-1)).toNat t,0,e0⟩:=by
    show((st.a9 j).map _)[k]? =_;rw[Vu,ht];rfl
   obtain⟨pl,mr⟩:∃pl,pl=st.place (st.a7.getD j (-1)).toNat t:=⟨_,rfl⟩;rw[<- mr]at oh hrk;have df:(st.aG j).a9.take (k+1)=(st.aG j).a9.take k++[⟨5,pl,0,e0⟩]:=by rw[Qi,hrk];rfl
   generalize hqt:qU g t.1=qt at oh hcm;unfold iC at oh;refine af ?_;refine kR (us:=[kE qt,vi t.2]) Zr (λz hz=>by have h9:=hcm z hz;simp[h9]) rfl ?_;refine af ?_;refine kJ (λdN=>?_);refine af ?_;refine VC.draws ⟨?_,?_,trivial⟩
   all_goals
    refine af ?_;refine kH oh Zr ZP (λv dl hv=>?_);obtain⟨rfl,rfl⟩:=hv;simp only[aE];refine af ?_;refine kV (out:=[.int .u8 5,vi pl,vi 0,.string e0]) Zr Zr (λrr=>?_);refine af ?_;refine kX (k:=k) (m:=1) (xs:=((st.aG j).a9.take k).flatMap kS) (sp:=Yb) (ys:=[.int .u8 5,vi pl,vi 0,.string e0]) Zr Zr Ak ZK Zr ?_ rfl Zr Zr Zd Zo (λbZ bf ax=>?_)
    .exact l9
    have cf:((st.aG j).a9.take k).flatMap kS++([.int .u8 5,vi pl,vi 0,.string e0]:List Value)=((st.aG j).a9.take (k+1)).flatMap kS:=by
     rw[df,V9,Vb];rfl
    rw[cf]at ax|-;obtain⟨dZ,ed,rfl⟩:=ax.form;refine af ?_;exact⟨(k+1,.slice dZ (k+1) ed,bf),⟨by simp only;omega,ax⟩,by simp only;omega,ZU,ZI⟩
  rintro⟨cv,Bc⟩ hcop
  simp only at hcop;dsimp only;obtain⟨Z,LI,hcve⟩:∃Z LI,cv=.slice Z (st.aG j).a9.length LI:=let⟨e1,e2,e3,_⟩:=hcop;⟨e1,e2,e3⟩;subst hcve;obtain⟨MI,hncp⟩:∃MI,MI=(st.aG j).a9.length:=⟨_,rfl⟩;rw[<- hncp]at hcop|-;have hbj:=hbodf j u hu;obtain⟨l,hl⟩:∃l,l=st.a8.getD j []:=⟨_,rfl⟩;rw[<- hl]at hbj;have UN:st.a8[j]? =some l:=by
   rw[hl,Vh,Zg (by rw[qW.wf.bl];exact gh)];rfl
  have hlraw:=qW.bd j l UN;have N3:=hBw l (Zv UN);have GA:=PN.G5 l;have hub:(st.aG j).body=l.map (eW st j):=by
   show eu st j (st.a8.getD j [])=_;rw[<- hl,ug]
  obtain⟨ba,bc,bk,bo,bus,hbv2,hba2,hbm,hbr⟩:=hbj;rw[hbv2]at k8;refine VC.join (α:=Value×List kC) (bg:=λ_=>[(4,kE D),(5,kE E),(9,kE u.q),(10,kE Q),(42,.slice (some ⟨W,X,none⟩) U.length A),(43,vi U.length),(44,vi j)]) (Hf:=λs=>[kA Q 0 [vi (st.a7.getD j (-1)),vi F,.slice Z MI LI,vi H,vi G,s.1],Bc,s.2,kA E 0 [.string O,vi N,.slice K j L],aj (.slice K j L) rows.flatten sp,kA D 0 [.string e0,vi 0,Nz],aj (.slice (some ⟨W,X,none⟩) U.length A) (U.map λu=>kN (some u.q)) J,WK g C,T,B]) (I:=λs=>iZ (T++s.2) s.1 (st.aG j).body) ?_ ?_
  .refine af ?_;refine VC.loop (α:=Nat×Value×List (List Value)×List Value×List kC) (bg:=λs=>[(4,kE D),(5,kE E),(9,kE u.q),(10,kE Q),(42,.slice (some ⟨W,X,none⟩) U.length A),(43,vi U.length),(44,vi j),(122,.slice ba l.length bc),(123,vi l.length),(124,vi s.1)]) (Hf:=λs=>[kA Q 0 [vi (st.a7.getD j (-1)),vi F,.slice Z MI LI,vi H,vi G,s.2.1],aj s.2.1 s.2.2.1.flatten s.2.2.2.1,Bc,s.2.2.2.2,kA E 0 [.string O,vi N,.slice K j L],aj (.slice K j L) rows.flatten sp,kA D 0 [.string e0,vi 0,Nz],aj (.slice (some ⟨W,X,none⟩) U.length A) (U.map λu=>kN (some u.q)) J,WK g C,T,B]) (I:=λs=>s.1<=l.length/\ke 11 s.2.1 s.1 s.2.2.1.flatten s.2.2.2.1/\wk (T++s.2.2.2.2) ((l.take s.1).map (eW st j)) s.2.2.1) (μ:=λs=>l.length-s.1) (0,Nz,[],[],[]) ⟨X0 _,.nil,wk.nil _⟩ ZU (ap.cut (M:=[kA Q 0 [vi (st.a7.getD j (-1)),vi F,.slice Z MI LI,vi H,vi G,Nz],Bc,kA E 0 [.string O,vi N,.slice K j L],aj (.slice K j L) rows.flatten sp,kA D 0 [.string e0,vi 0,Nz],aj (.slice (some ⟨W,X,none⟩) U.length A) (U.map λu=>kN (some u.q)) J,WK g C,T,B]) ZI (ap.perm A4)) ?_
   rintro⟨k,pv,xN,psp,Bb⟩ ⟨hk,hpv,GL⟩
   simp only at hk hpv GL;dsimp only;obtain⟨pa,pc,rfl⟩:=hpv.form;refine af ?_;by_cases Gy:k<l.length;rotate_left
   .rw[A1 ((k:Int) < (l.length:Int))];have hke:k=l.length:=by omega
    subst hke;rw[Qk,<- hub]at GL;have hlk:(st.aG j).body.length=l.length:=by rw[hub,Q6]
    have KU:=zZ (l:=(st.aG j).body) (by rw[hlk];exact hpv) GL;refine af ?_;refine⟨(.slice pa l.length pc,aj (.slice pa l.length pc) xN.flatten psp++Bb),?_,ZU,ap.cut (M:=[kA Q 0 [vi (st.a7.getD j (-1)),vi F,.slice Z MI LI,vi H,vi G,.slice pa l.length pc],aj (.slice pa l.length pc) xN.flatten psp,Bc,Bb,kA E 0 [.string O,vi N,.slice K j L],aj (.slice K j L) rows.flatten sp,kA D 0 [.string e0,vi 0,Nz],aj (.slice (some ⟨W,X,none⟩) U.length A) (U.map λu=>kN (some u.q)) J,WK g C,T,B]) ZI (ap.perm ?_)⟩
    .refine KU.more λy hy=>?_
     simp only[QH]at hy|-;rcases hy with hy|hy|hy
     .exact .inr (.inl hy)
     .exact .inl hy
     .exact .inr (.inr hy)
    .simp only[Vd,Ve,vm];refine vY _ ?_;generalize aj (.slice pa l.length pc) xN.flatten psp=P;rw[vj];refine(Qa P Bc _).trans ?_;exact vd _
   rw[A0 ((k:Int) < (l.length:Int))];obtain rfl:=hba2 Zo;obtain⟨x,hxj⟩:∃x,l[k]? =some x:=⟨_,Zg Gy⟩;have hxm:=Zv hxj;have S5:=hbm k Gy;have Wn:=hbr k x hxj;have aK:=LR st qW hB g C ZC j u hu T _ x (Qs _) (by have:=PN.OQ hxm;omega) _ Wn (sJ hlraw x hxm);generalize bus k=uj at*;obtain⟨f1,f2,f3,f4,f5,f6,f7,r1,r2,r3,p1,p2,p3,k1,k2,k3,rfl⟩:=mO Wn;have df:(l.take (k+1)).map (eW st j)=(l.take k).map (eW st j)++[eW st j x]:=by
    rw[Qi,hxj,QC];rfl
   refine af ?_;refine kR Zr (λz hz=>by have h9:=S5 z hz;simp[h9]) rfl ?_;refine af ?_;refine kJ (λq14=>?_);refine af ?_;refine VC.draws ⟨?_,?_,trivial⟩
   all_goals
    refine af ?_;refine kH aK Zr ZP (λv dl hv=>?_);obtain⟨ws',B3,⟨rfl,hp⟩,rfl⟩:=hv;simp only[aE];obtain⟨d,oV⟩:∃d,d=eW st j x:=⟨_,rfl⟩;rw[<- oV]at hp df;have sj:=hp;obtain⟨g1,g2,g3,g4,g5,g7,s1,s3,t1,t3,_,_,_,rfl,_⟩:=oD sj;refine af ?_;refine kV (out:=(rP d.kind d.name g1 g2 g3 g4 g5 d.lit.ci.length g7 s1 d.refs.length s3 d.cg d.super t1 d.ak.length t3)) Zr Zr (λrr=>?_);refine af ?_;refine kX (k:=k) (m:=1) (xs:=xN.flatten) (sp:=psp) (ys:=(rP d.kind d.name g1 g2 g3 g4 g5 d.lit.ci.length g7 s1 d.refs.length s3 d.cg d.super t1 d.ak.length t3)) Zr Zr hpv ZK Zr ?_ rfl Zr Zr Zd Zo (λbZ bf ax=>?_)
    .exact l9
    have cf:xN.flatten++((rP d.kind d.name g1 g2 g3 g4 g5 d.lit.ci.length g7 s1 d.refs.length s3 d.cg d.super t1 d.ak.length t3):List Value)=(xN++[((rP d.kind d.name g1 g2 g3 g4 g5 d.lit.ci.length g7 s1 d.refs.length s3 d.cg d.super t1 d.ak.length t3):List Value)]).flatten:=by simp
    rw[cf]at ax|-;obtain⟨dZ,ed,rfl⟩:=ax.form;refine af ?_;refine⟨(k+1,.slice dZ (k+1) ed,xN++[(rP d.kind d.name g1 g2 g3 g4 g5 d.lit.ci.length g7 s1 d.refs.length s3 d.cg d.super t1 d.ak.length t3)],bf,Bb++B3),⟨by simp only;omega,ax,?_⟩,by simp only;omega,ZU,?_⟩
    .show wk (T++(Bb++B3)) ((l.take (k+1)).map (eW st j)) _;rw[df];refine(GL.more λy hy=>?_).snoc (hp.more λy hy=>?_)
     .simp only[QH]at hy|-;exact hy.elim .inl λh=>.inr (.inl h)
     .simp only[QH]at hy|-;exact hy.elim .inl λh=>.inr (.inr h)
    .simp only;refine ap.cut (M:=[kA Q 0 [vi (st.a7.getD j (-1)),vi F,.slice Z MI LI,vi H,vi G,.slice dZ (k+1) ed],aj (.slice dZ (k+1) ed) (xN++[((rP d.kind d.name g1 g2 g3 g4 g5 d.lit.ci.length g7 s1 d.refs.length s3 d.cg d.super t1 d.ak.length t3):List Value)]).flatten bf,Bc,Bb,B3,kA E 0 [.string O,vi N,.slice K j L],aj (.slice K j L) rows.flatten sp,kA D 0 [.string e0,vi 0,Nz],aj (.slice (some ⟨W,X,none⟩) U.length A) (U.map λu=>kN (some u.q)) J,WK g C,T,B]) ZI (ap.perm Zs)
  rintro⟨bv2,Bb⟩ B6
  simp only at B6;dsimp only;obtain⟨xa,xc,hbv3⟩:∃xa xc,bv2=.slice xa (st.aG j).body.length xc:=let⟨e1,e2,_,_,_,e3,_⟩:=B6;⟨e1,e2,e3⟩;subst hbv3;obtain⟨nb,hnb2⟩:∃nb,nb=(st.aG j).body.length:=⟨_,rfl⟩;rw[<- hnb2]at B6|-;have hurow:SS (T++(B++(Bc++Bb))) (st.aG j) [vi (st.a7.getD j (-1)),vi F,.slice Z MI LI,vi H,vi G,.slice xa nb xc]:=by
   refine⟨.slice Z MI LI,.slice xa nb xc,?_,hcop.more λy hy=>?_,B6.more λy hy=>?_⟩
   .rw[H8,hnl,hnv];rfl
   .simp only[QH];exact .inr (.inr (.inl hy))
   .simp only[QH]at hy|-;exact hy.elim .inl λh=>.inr (.inr (.inr h))
  have hrg:(List.range (j+1)).map st.aG=(List.range j).map st.aG++[st.aG j]:=by rw[List.range_succ,QC];rfl
  refine af ?_;refine kV (out:=[vi (st.a7.getD j (-1)),vi F,.slice Z MI LI,vi H,vi G,.slice xa nb xc]) Zr Zr (λrr=>?_);refine af ?_;refine kX (k:=j) (m:=1) (xs:=rows.flatten) (sp:=sp) (ys:=[vi (st.a7.getD j (-1)),vi F,.slice Z MI LI,vi H,vi G,.slice xa nb xc]) Zr Zr gP ZK Zr ?_ rfl Zr Zr Zd Zo (λbZ bf ax=>?_)
  .exact l9
  have cf:rows.flatten++([vi (st.a7.getD j (-1)),vi F,.slice Z MI LI,vi H,vi G,.slice xa nb xc]:List Value)=(rows++[([vi (st.a7.getD j (-1)),vi F,.slice Z MI LI,vi H,vi G,.slice xa nb xc]:List Value)]).flatten:=by simp
  rw[cf]at ax|-;obtain⟨dZ,ed,rfl⟩:=ax.form;refine af ?_;refine⟨(j+1,.slice dZ (j+1) ed,rows++[[vi (st.a7.getD j (-1)),vi F,.slice Z MI LI,vi H,vi G,.slice xa nb xc]],bf,B++(Bc++Bb)),⟨by simp only;omega,?_,ax,?_⟩,by simp only;omega,ZU,?_⟩
  .intro i hi;by_cases e:i=j
   .subst e;exact hnbj
   .exact hnb i (by simp only at hi;omega)
  .show fg 6 (SS (T++(B++(Bc++Bb)))) ((List.range (j+1)).map st.aG) _;rw[hrg];refine(bA.imp λx r hx=>hx.more λy hy=>?_).snoc rfl hurow;simp only[QH]at hy|-;exact hy.elim .inl λh=>.inr (.inl h)
  .simp only;refine ap.cut (M:=[kA E 0 [.string O,vi N,.slice dZ (j+1) ed],aj (.slice dZ (j+1) ed) (rows++[([vi (st.a7.getD j (-1)),vi F,.slice Z MI LI,vi H,vi G,.slice xa nb xc]:List Value)]).flatten bf,kA D 0 [.string e0,vi 0,Nz],aj (.slice (some ⟨W,X,none⟩) U.length A) (U.map λu=>kN (some u.q)) J,WK g C,T,B,Bc,Bb]) ZI (ap.perm Zs)
 rintro⟨Ei,rows,sp,B⟩ ⟨DH,husl,Wo⟩
 simp only at DH husl Wo;dsimp only;have U0:((List.range st.a7.length).map st.aG).length=st.a7.length:=by simp
 have husr:O0 (aj Ei rows.flatten sp++(T++B)) Ei ((List.range st.a7.length).map st.aG):=wn.imp (td (B:=T++B) (by rw[U0];exact husl) Wo) (λ_ h=>h) λx r hx=>hx.more λy hy=>QI _ hy
 obtain⟨F,S,rfl⟩:=husl.form;refine af ?_;refine jU ⟨.inr rfl,_,[aj (.slice F st.a7.length S) rows.flatten sp++(T++B)],.az (us:=[.string O,vi N,.slice F st.a7.length S]) Zr Zr zSb .nil,ap.cut (M:=[aj (.slice F st.a7.length S) rows.flatten sp,T,B]) ZI (ap.perm Zs),⟨_,_,⟨DH,rfl,husr⟩,rfl⟩⟩
def Tx(qs:List Nat)(cg ie:Nat)(arg own:Bool)(fv:Value)(len:Nat)(J:List Nat->List kC->Prop):Prop:=
 ∀(st:ai) U Vs ps A (k:Nat),di st U Vs->U.map UC.q=qs->cg<st.a7.length->st.a5.getD cg 0=ie->st.vars.length<1073741824->J ps A->ps.length=k->k<len->
  eo pg9 fv [vi k] [A,WK U Vs] (λr dl=>∃U' y A',(r=kE y.q/\(∀nm,di (st.bu ⟨nm,cg,arg,if arg&&own then k else -1⟩) U' (Vs++[y]))/\U'.map UC.q=U.map UC.q/\U'.map UC.body=U.map UC.body/\J (ps++[y.q]) A')/\dl=[A',WK U' (Vs++[y])])
def tV(cg arg own p l i st a6){e}(h:st.f=some e):(kO cg arg own p l i st a6).1.f=some e:=(zv cg arg own p l i st a6).f e h
def Pn(cg arg own p nm r i st a6)(h:jQ st.vars a6 nm=none):
 kO cg arg own p (nm::r) i st a6=kO cg arg own p r (i+1) (st.bu ⟨nm,cg,arg,if arg&&own then i else -1⟩) (a6++[st.vars.length]):=by
 rw[kO,h];rfl
def Un(cg arg own p nm r i st a6){v}(h:jQ st.vars a6 nm=some v)(d:st.f=none):
 (kO cg arg own p (nm::r) i st a6).1.f=some (180,p):=by
 rw[kO,h];refine tV _ _ _ _ _ _ _ _ ?_;simp only[Option.isSome_some,if_true,ai.wrong,d,Option.isNone_none]
def pE(S cg ie arg own p l lv)(hl:dU S lv l)(fv J st U Vs)(hmk:Tx (U.map UC.q) cg ie arg own fv l.length J)(g:di st U Vs)(hun:cg < st.a7.length)(H8:st.a5.getD cg 0=ie)(F:st.f=none)(hb:st.vars.length+l.length < 1073741824)(A)(H:J [] A)(a6 b es c)(B:zX st Vs a6 es c):
 jr pg9 108 [.map (some b),vi p,lv,fv] [A,WK U Vs,[.obj b (.map es c)],S]
  (λv dl=>∃C cX c' T O A',((kO cg arg own p l 0 st a6).1.f=none/\v=.map (some C)/\di (kO cg arg own p l 0 st a6).1 T O/\T.map UC.q=U.map UC.q/\T.map UC.body=U.map UC.body/\Vs.map aC.q <+:O.map aC.q/\zX (kO cg arg own p l 0 st a6).1 O (kO cg arg own p l 0 st a6).2 cX c'/\
    J ((O.map aC.q).drop Vs.length) A')/\dl=[A',WK T O,[.obj C (.map cX c')],[.obj b (.map es c)],S])
  (λch dl=>(kO cg arg own p l 0 st a6).1.f=some (180,p)/\∃q,ch=qQ q/\dl=[S,jT q 180 p]):=by
 obtain⟨la,lc,rfl,H6,fj⟩:=hl;refine jr.intro low108 Zn9 ?_;refine af ?_;refine kH (LG b es c) Zr ZP (λv dl M=>?_);obtain⟨C,rfl,rfl⟩:=M;simp only[aE];refine af ?_;refine VC.loop (α:=Nat×ai×List Nat×List UC×List aC×List kC×Array MapEntry×Nat) (bg:=λs=>[(1,vi p),(3,fv),(9,.map (some C)),(14,.slice la l.length lc),(15,vi l.length),(16,vi s.1)])
  (Hf:=λs=>[s.2.2.2.2.2.1,WK s.2.2.2.1 s.2.2.2.2.1,[.obj C (.map s.2.2.2.2.2.2.1 s.2.2.2.2.2.2.2)],[.obj b (.map es c)],S])
  (I:=λs=>s.1<=l.length/\kO cg arg own p l 0 st a6=kO cg arg own p (l.drop s.1) s.1 s.2.1 s.2.2.1/\di s.2.1 s.2.2.2.1 s.2.2.2.2.1/\s.2.1.f=none/\s.2.1.a7=st.a7/\s.2.1.a5=st.a5/\s.2.1.vars.length=st.vars.length+s.1/\s.2.2.2.1.map UC.q=U.map UC.q/\s.2.2.2.1.map UC.body=U.map UC.body/\Vs.map aC.q <+:s.2.2.2.2.1.map aC.q/\
    zX s.2.1 s.2.2.2.2.1 s.2.2.1 s.2.2.2.2.2.2.1 s.2.2.2.2.2.2.2/\J ((s.2.2.2.2.1.map aC.q).drop Vs.length) s.2.2.2.2.2.1) (μ:=λs=>l.length-s.1) (0,st,a6,U,Vs,A,es,c)
  ⟨X0 _,rfl,g,F,rfl,rfl,rfl,rfl,rfl,Qf _,B,by simpa[vw]using H⟩ ZU ZI ?_
 have N:=g.vl;clear g F B H
 rintro⟨j,D,W,U1,d,Y,K,c1⟩ ⟨hj,m,g,F,ho,ha,xE,X,G,Q,B,H⟩
 simp only at hj m g F ho ha xE X G Q B H;dsimp only;refine af ?_;by_cases aI:j<l.length;rotate_left
 .rw[A1 ((j:Int) < (l.length:Int))];have gh:j=l.length:=by omega
  rw[gh,List.drop_length,kO]at m;refine af ?_;refine jU (kG (dl:=[Y,WK U1 d,[.obj C (.map K c1)],[.obj b (.map es c)],S]) (.inr rfl) (.tmp (v:=.map (some C)) Zr .nil) ⟨C,K,c1,U1,d,Y,⟨?_,rfl,?_,X,G,Q,?_,H⟩,rfl⟩ ZI)
  .rw[m];exact F
  .rw[m];exact g
  .rw[m];exact B
 rw[A0 ((j:Int) < (l.length:Int))];obtain⟨nm,Z⟩:∃nm,l[j]? =some nm:=⟨_,Zg aI⟩;obtain⟨lb,lo,rfl,hm,hms⟩:=fj j nm Z;have Aw:l.drop j=nm::l.drop (j+1):=by
  rw[vt aI]
  congr 1
  rw[Zg aI]at Z;exact X8 Z
 rw[Aw]at m;obtain⟨hg1,hg2⟩:=B.find nm;refine af ?_;refine zO (E:=yw) (V:=λb=>kN (some b)) (k:=nm) Zr Zr rfl (.there (.there .here)) B.is ?_;rw[hg1];cases L7:jQ D.vars W nm with
 |some v=>
  have iK:=Un cg arg own p nm (l.drop (j+1)) j D W L7 F;rw[<- m]at iK;simp only[oA,X7,kN,if_false,vN];refine af ?_;refine kM (dS 180 p) Zr ZP (λv dl M=>M.elim) (λch dl hz=>?_);obtain⟨q,rfl,rfl⟩:=hz;exact⟨[S,jT q 180 p],ZI,iK,q,rfl,rfl⟩
 |none=>
  have nu:=Pn cg arg own p nm (l.drop (j+1)) j D W L7;rw[nu]at m;simp only[oA,X6,if_false,vN];refine af ?_;refine eO Zr (hmk D U1 d _ Y j g X (by rw[ho];exact hun) (by rw[ha];exact H8) Zo H (by rw[Q1,Q6,g.vl,xE,N];omega) aI) Zr ZP (λv dl M=>?_);obtain⟨U2,y,A2,⟨rfl,NU,lY,L,hJ2⟩,rfl⟩:=M;simp only[aE];refine af ?_;refine zN (E:=yw) (V:=λb=>kN (some b)) (k:=nm) (v:=y.q) Zr Zr Zr rfl ZK B.is (λHZ c2 B7=>?_);refine af ?_;have mr:Vs.length<=d.length:=by
   obtain⟨r,hr⟩:=Q;have:=congrArg List.length hr;simp only[Vz,Q6]at this;omega
  refine⟨(j+1,D.bu ⟨nm,cg,arg,if arg&&own then j else -1⟩,W++[D.vars.length],U2,d++[y],A2,HZ,c2),⟨by simp only;omega,m,NU nm,F,ho,ha,?_,lY.trans X,L.trans G,?_,B.add g.vl L7 B7,?_⟩,by simp only;omega,ZU,ZI⟩
  .show(D.vars++[_]).length=_;rw[Vz,xE];rfl
  .simp only[QC];exact Q.trans (Qe _ _)
  .simp only[QC,QE,QG];rw[List.drop_append_of_le_length (by rw[Q6];exact mr)];exact hJ2
def mZ {qs:List Nat}{U:List UC}(h:U.map UC.q=qs){cg g:Nat}(d:qs[cg]? =some g):∃u,U[cg]? =some u/\u.q=g:=by
 rw[<- h,Vu]at d;obtain⟨u,j,m⟩:=X5.1 d;exact⟨u,j,m⟩
def mk_arg(qs cg s D k)(G:qs[cg]? =some D)(hn:s < 1073741824):Tx qs cg s true true (.func (.func 109) #[] #[kE k]) s (λ_ A=>A=kA k 0 [kE D]):=by
 intro st U Vs ps A j C g H H8 hb E KU hj;subst E;obtain⟨u,m,rfl⟩:=mZ g G;have F:aq pg9 109 [vi j,kE k] [kA k 0 [kE u.q],WK U Vs] (λr dl=>∃d y B,(r=kE y.q/\(∀nm,di (st.bu ⟨nm,cg,true,if true&&true then j else -1⟩) d (Vs++[y]))/\d.map UC.q=U.map UC.q/\d.map UC.body=U.map UC.body/\B=kA k 0 [kE u.q])/\dl=[B,WK d (Vs++[y])]):=by
  refine aq.intro low109 Zn9 ?_;refine af ?_;refine kZ Zr (λq=>?_);simp only[Value.cells];refine af ?_;refine kG (dl:=[kA k 0 [kE u.q],WK U (Vs++[⟨q,u.q,j,true,false,0⟩])]) (.inr rfl) (.tmp (v:=kE q) Zr .nil) ⟨U,⟨q,u.q,j,true,false,0⟩,kA k 0 [kE u.q],⟨rfl,λnm=>?_,rfl,rfl,rfl⟩,rfl⟩ ?_
  .refine cT.bu (u':=u) C rfl m (by simp only[Bool.and_self,if_true];omega) ⟨rfl,rfl,rfl,rfl,rfl⟩ (zf m).symm rfl ?_ ?_
   .rw[if_neg (by simp only[Bool.and_self,if_true];omega),vm]
   .exact(C.tm cg u m).2
  .refine ap.cut (M:=[kA k 0 [kE u.q],kA q 0 [kE u.q,vi j,.bool true,.bool false,vi 0],WK U Vs]) ZI (ap.perm ?_);simp only[Vd,Ve,vm];exact vY _ (Kp U Vs ⟨q,u.q,j,true,false,0⟩).symm
 exact eo.cI (first:=#[]) (cap:=#[kE k]) F
def mk_temp(qs cg M B k len)(I:qs[cg]? =some B):Tx qs cg M false true (.func (.func 110) #[] #[kE k]) len (λ_ A=>A=kA k 0 [kE B]):=by
 intro st U Vs ps A j F m K H8 G E KU hj;subst E;obtain⟨u,J,rfl⟩:=mZ m I;have H:aq pg9 110 [vi j,kE k] [kA k 0 [kE u.q],WK U Vs] (λr dl=>∃d y s,(r=kE y.q/\(∀nm,di (st.bu ⟨nm,cg,false,if false&&true then j else -1⟩) d (Vs++[y]))/\d.map UC.q=U.map UC.q/\d.map UC.body=U.map UC.body/\s=kA k 0 [kE u.q])/\dl=[s,WK d (Vs++[y])]):=by
  refine aq.intro low110 Zn9 ?_;refine af ?_;refine kH (uZ st U Vs F cg u J false G) Zr ZP (λv dl L=>?_);obtain⟨d,y,⟨rfl,C,D,g⟩,rfl⟩:=L;simp only[aE];refine af ?_;exact kG (dl:=[kA k 0 [kE u.q],WK d (Vs++[y])]) (.inr rfl) (.tmp (v:=kE y.q) Zr .nil) ⟨d,y,_,⟨rfl,C,D,g,rfl⟩,rfl⟩ ZI
 exact eo.cI (first:=#[]) (cap:=#[kE k]) H
def dh(ps:List Nat):Value:=match ps.getLast? with|some q=>kE q|none=>.pointer none
def W9(qs cg Q D k d len)(K:qs[cg]? =some D):Tx qs cg Q true false (.func (.func 251) #[] #[kE k,kE d]) len (λm A=>A=kA k 0 [kE D]++kA d 0 [dh m]):=by
 intro st U Vs m A j H B N H8 I G KU hj;subst G;obtain⟨u,L,rfl⟩:=mZ B K;have J:aq pg9 251 [vi j,kE k,kE d] [kA k 0 [kE u.q]++kA d 0 [dh m],WK U Vs] (λr dl=>∃g y C,(r=kE y.q/\(∀nm,di (st.bu ⟨nm,cg,true,if true&&false then j else -1⟩) g (Vs++[y]))/\g.map UC.q=U.map UC.q/\g.map UC.body=U.map UC.body/\C=kA k 0 [kE u.q]++kA d 0 [dh (m++[y.q])])/\dl=[C,WK g (Vs++[y])]):=by
  refine aq.intro low251 Zn9 ?_;refine VC.imp (H':=[kA k 0 [kE u.q],kA d 0 [dh m],WK U Vs]) (ap.perm Zs) ?_;refine af ?_;refine kH (uZ st U Vs H cg u L true I) Zr ZP (λv dl O=>?_);obtain⟨g,y,⟨rfl,E,F,s⟩,rfl⟩:=O;simp only[aE];refine af ?_;refine kG (dl:=[kA k 0 [kE u.q]++kA d 0 [dh (m++[y.q])],WK g (Vs++[y])]) (.inr rfl) (.tmp (v:=kE y.q) Zr .nil) ⟨g,y,_,⟨rfl,E,F,s,rfl⟩,rfl⟩ ?_;have e:dh (m++[y.q])=kE y.q:=by unfold dh;simp
  rw[e];exact ap.cut (M:=[kA k 0 [kE u.q],kA d 0 [kE y.q],WK g (Vs++[y])]) ZI (ap.perm Zs)
 exact eo.cI (first:=#[]) (cap:=#[kE k,kE d]) J
def jv(tv kv:Value):List Value:=[cv 14,.string e0,cv 0,.int .i64 0,.int .u64 0,.string e0,Nz,Nz,.int .i64 0,.bool false,Nz,tv,kv]
def Tp(uq k k2:Nat)(ps:List Nat)(A:List kC):Prop:=∃tv lS,ke 1 tv ps.length (ps.map λb=>kN (some b)) lS/\A=kA k 0 [kE uq]++(kA k2 0 (jv tv Nz)++aj tv (ps.map λb=>kN (some b)) lS)
def mk_body(qs cg ie O k g len)(hq:qs[cg]? =some O)(N:len < 1073741824):Tx qs cg ie false false (.func (.func 252) #[] #[kE k,kE g]) len (Tp O k g):=by
 intro st U Vs d A j X I hun H8 Y W KU hj;obtain⟨tv,J,L,rfl⟩:=W;obtain⟨u,hu,rfl⟩:=mZ I hq;obtain⟨D,E,rfl⟩:=L.form;have Z:aq pg9 252 [vi j,kE k,kE g] [kA k 0 [kE u.q]++(kA g 0 (jv (.slice D d.length E) Nz)++aj (.slice D d.length E) (d.map λb=>kN (some b)) J),WK U Vs] (λr dl=>∃s y K,(r=kE y.q/\(∀nm,di (st.bu ⟨nm,cg,false,if false&&false then j else -1⟩) s (Vs++[y]))/\s.map UC.q=U.map UC.q/\s.map UC.body=U.map UC.body/\Tp u.q k g (d++[y.q]) K)/\dl=[K,WK s (Vs++[y])]):=by
  refine aq.intro low252 Zn9 ?_;refine VC.imp (H':=[kA k 0 [kE u.q],kA g 0 (jv (.slice D d.length E) Nz),aj (.slice D d.length E) (d.map λb=>kN (some b)) J,WK U Vs]) (ap.perm Zs) ?_;unfold jv;refine af ?_;refine kH (uZ st U Vs X cg u hu false Y) Zr ZP (λv dl hv=>?_);obtain⟨s,y,⟨rfl,S,T,H⟩,rfl⟩:=hv;simp only[aE];refine af ?_;refine kV (out:=[kE y.q]) Zr Zr (λq2=>?_);refine kX (k:=d.length) (m:=1) (xs:=d.map λb=>kN (some b)) (sp:=J) (ys:=[kE y.q]) Zr Zr L ZK Zr ?_ rfl Zr Zr Zd Zo (λbZ G F=>?_)
  .exact l9
  obtain⟨B,C,rfl⟩:=F.form;have Q:(d.map λb=>kN (some b))++[kE y.q]=(d++[y.q]).map λb=>kN (some b):=by simp[kN]
  rw[Q]at F|-;refine af ?_;refine kG (dl:=[kA k 0 [kE u.q]++(kA g 0 (jv (.slice B (d.length+1) C) (.slice none 0 0))++aj (.slice B (d.length+1) C) ((d++[y.q]).map λb=>kN (some b)) G),WK s (Vs++[y])]) (.inr rfl) (.tmp (v:=kE y.q) Zr .nil) ⟨s,y,_,⟨rfl,S,T,H,.slice B (d.length+1) C,G,by simpa using F,rfl⟩,rfl⟩ ?_;unfold jv;exact ap.cut (M:=[kA k 0 [kE u.q],kA g 0 (jv (.slice B (d.length+1) C) (.slice none 0 0)),aj (.slice B (d.length+1) C) ((d++[y.q]).map λb=>kN (some b)) G,WK s (Vs++[y])]) (by unfold jv;exact bH) (ap.perm (by simp[jv]))
 exact eo.cI (first:=#[]) (cap:=#[kE k,kE g]) Z
def Nk(F G wq fb gb us bS bW fc gc)(hF:rW F bS fc)(hG:Aq G bW gc)(k nm l1 l2 l3 l4 l5 X Y Z p st U Vs)(hR:di st U Vs)(i u)(hu:U[i]? =some u)(hf:st.f=none)(hb:st.dg.length < 1073741824)(a6 b es c)(T:zX st Vs a6 es c)(H7:∀v∈a6,st.ah v∈st.line i):
 jr pg9 209 [kE wq,.agg #[cv k,.string nm,l1,l2,l3,l4,l5,X,Y,Z,vi p],kE u.q,.map (some b)] [kA wq 0 [.map (some fb),.map (some gb),us],[.obj fb (.map bS fc)],[.obj gb (.map bW gc)],WK U Vs,[.obj b (.map es c)]]
  (λv dl=>∃U' pG,((jx F G st a6 nm i p (decide (k=3))).2.f=none/\v=uQ pG (jx F G st a6 nm i p (decide (k=3))).1/\di (jx F G st a6 nm i p (decide (k=3))).2 U' pG/\U'.map UC.q=U.map UC.q/\U'.map UC.body=U.map UC.body/\pG.map aC.q=Vs.map aC.q)/\
    dl=[kA wq 0 [.map (some fb),.map (some gb),us],[.obj fb (.map bS fc)],[.obj gb (.map bW gc)],WK U' pG,[.obj b (.map es c)]])
  (λC dl=>∃q e,(jx F G st a6 nm i p (decide (k=3))).2.f=some (e,p)/\C=qQ q/\dl=[jT q e p]):=by
 obtain⟨mF,D,H⟩:=hF.is;obtain⟨g,I,J⟩:=hG.is;refine jr.intro low209 Zn9 ?_;refine af ?_;refine kZ Zr (λq5=>?_);simp only[Value.cells];refine kJ (λq8=>?_);refine af ?_;by_cases h1:nm=⟨#[115,101,108,102]⟩
 .have hk:wm nm=1:=by rw[h1];decide
  rw[Zt h1];exact zBH
 rw[Zf h1];refine af ?_;by_cases h2:nm=⟨#[115,117,112,101,114]⟩
 .have hk:wm nm=1:=by rw[h2];decide
  rw[Zt h2];exact zBH
 rw[Zf h2];refine af ?_;by_cases h3:nm=⟨#[110,105,108]⟩
 .have hk:wm nm=2:=by rw[h3];decide
  rw[Zt h3];refine af ?_;have hr:=fG (F:=F) (G:=G) (st:=st) (a6:=a6) (nm:=nm) (u:=i) (p:=p) (put:=decide (k=3)) (by rw[hk];decide);rw[hr,hk];exact jU ⟨.inr rfl,_,[kA wq 0 [.map (some fb),.map (some gb),us],[.obj fb (.map bS fc)],[.obj gb (.map bW gc)],WK U Vs,[.obj b (.map es c)]],.az (us:=kS ⟨2,0,0,e0⟩) Zr Zr (λy hy=>by simp only[Vd,QH];exact .inl hy) zT1,ZI,U,Vs,⟨hf,rfl,hR,rfl,rfl,rfl⟩,rfl⟩
 rw[Zf h3];refine af ?_;by_cases h4:nm=⟨#[116,114,117,101]⟩
 .have hk:wm nm=3:=by rw[h4];decide
  rw[Zt h4];refine af ?_;have hr:=fG (F:=F) (G:=G) (st:=st) (a6:=a6) (nm:=nm) (u:=i) (p:=p) (put:=decide (k=3)) (by rw[hk];decide);rw[hr,hk];exact jU ⟨.inr rfl,_,[kA wq 0 [.map (some fb),.map (some gb),us],[.obj fb (.map bS fc)],[.obj gb (.map bW gc)],WK U Vs,[.obj b (.map es c)]],.az (us:=kS ⟨3,0,0,e0⟩) Zr Zr (λy hy=>by simp only[Vd,QH];exact .inl hy) zT1,ZI,U,Vs,⟨hf,rfl,hR,rfl,rfl,rfl⟩,rfl⟩
 rw[Zf h4];refine af ?_;by_cases h5:nm=⟨#[102,97,108,115,101]⟩
 .have hk:wm nm=4:=by rw[h5];decide
  rw[Zt h5];refine af ?_;have hr:=fG (F:=F) (G:=G) (st:=st) (a6:=a6) (nm:=nm) (u:=i) (p:=p) (put:=decide (k=3)) (by rw[hk];decide);rw[hr,hk];exact jU ⟨.inr rfl,_,[kA wq 0 [.map (some fb),.map (some gb),us],[.obj fb (.map bS fc)],[.obj gb (.map bW gc)],WK U Vs,[.obj b (.map es c)]],.az (us:=kS ⟨4,0,0,e0⟩) Zr Zr (λy hy=>by simp only[Vd,QH];exact .inl hy) zT1,ZI,U,Vs,⟨hf,rfl,hR,rfl,rfl,rfl⟩,rfl⟩
 rw[Zf h5];refine af ?_;have hk:=XR h1 h2 h3 h4 h5;obtain⟨L,M⟩:=T.find nm;refine zO (E:=yw) (V:=λb=>kN (some b)) (k:=nm) Zr Zr rfl Zay T.is ?_;rw[L];cases L7:jQ st.vars a6 nm with
 |some v=>
  obtain⟨hg3,j,hg5⟩:=M v L7;obtain⟨x,O⟩:∃x,st.vars[v]? =some x:=⟨_,Zg j⟩;obtain⟨y,hy⟩:∃y,Vs[v]? =some y:=⟨_,Zg (by rw[hR.vl];exact j)⟩;have hyq:y.q=xP Vs v:=by unfold xP;rw[Vh,hy];rfl
  have K:=(hR.vn v x y O hy).2.2.1;have m2:kC.cell y.q 2 (.bool y.fixed)∈WK U Vs:=nh hy _ (kI.2 ⟨2,.bool y.fixed,rfl,Zs⟩);rw[K]at m2;simp only[oA,X7,kN,if_false,vN];rw[<- hyq];generalize hB:WK U Vs=B at m2|-;cases hxa:x.arg with
  |true=>
   rw[hxa]at m2;by_cases tA:k=3
   .subst tA;have gY:(decide (3=3)&&((st.vars[v]?).map (·.arg)).getD false)=true:=by rw[O];simp[hxa]
    have S:=JX (F:=F) (G:=G) (a6:=a6) (u:=i) (p:=p) hk L7 gY hf;refine af ?_;refine kM (dS 182 p) Zr ZP (λv dl N=>N.elim) (λC dl Q=>?_);obtain⟨q,rfl,rfl⟩:=Q;exact⟨[jT q 182 p],ZI,q,182,S,rfl,rfl⟩
   .have gY:(decide (k=3)&&((st.vars[v]?).map (·.arg)).getD false)=false:=by simp[tA]
    refine af ?_;rw[A1 ((k:Int)=3)];exact zAX
  |false=>
   rw[hxa]at m2;have gY:(decide (k=3)&&((st.vars[v]?).map (·.arg)).getD false)=false:=by rw[O];simp[hxa]
   exact zAX
 |none=>
  simp only[oA,X6,if_false,vN];refine af ?_;refine zO (E:=yw) (V:=λn:Nat=>vi n) (k:=nm) Zr Zr rfl Zay D ?_;rw[H];cases hfi:F.findIdx? (λs=>decide (s=nm))with
  |some fi=>
   simp only[oA,X7,if_true];refine af ?_;rw[rI hk L7 hfi];exact jU ⟨.inr rfl,_,[kA wq 0 [.map (some fb),.map (some gb),us],[.obj fb (.map bS fc)],[.obj gb (.map bW gc)],WK U Vs,[.obj b (.map es c)]],.az (us:=kS ⟨7,fi,0,e0⟩) Zr Zr (λy hy=>by simp only[Vd,QH];exact .inl hy) zT1,ZI,U,Vs,⟨hf,rfl,hR,rfl,rfl,rfl⟩,rfl⟩
  |none=>
   simp only[oA,X6,if_true];refine af ?_;refine zO (E:=yw) (V:=λn:Nat=>vi n) (k:=nm) Zr Zr rfl Zay I ?_;have A:=J nm;cases hga:G.any (λs=>decide (s=nm))with
   |true=>
    rw[hga]at A;have m:(jI nm g).getD 0≠0:=by simpa using A
    obtain⟨n,hn⟩:∃n,jI nm g=some n:=by
     cases e:jI nm g with
     |none=>rw[e]at m;exact absurd rfl m
     |some n=>exact⟨n,rfl⟩
    rw[hn]at m|-;simp only[X3]at m;simp only[oA,X7,if_false,vN];refine af ?_;rw[A1 ((n:Int)=0)];refine af ?_;rw[Fh hk L7 hfi hga];exact jU ⟨.inr rfl,_,[kA wq 0 [.map (some fb),.map (some gb),us],[.obj fb (.map bS fc)],[.obj gb (.map bW gc)],WK U Vs,[.obj b (.map es c)]],.az (us:=kS ⟨8,0,0,nm⟩) Zr Zr (λy hy=>by simp only[Vd,QH];exact .inl hy) zT1,ZI,U,Vs,⟨hf,rfl,hR,rfl,rfl,rfl⟩,rfl⟩
   |false=>
    rw[hga]at A;have S:=Fi (F:=F) (G:=G) (st:=st) (a6:=a6) (nm:=nm) (u:=i) (p:=p) (put:=decide (k=3)) hk L7 hfi hga hf;have d:(jI nm g).getD 0=0:=by simpa using A
    have W:oA false (vi 0) ((jI nm g).map λn:Nat=>vi n)=vi 0:=by
     cases e:jI nm g with
     |none=>rfl
     |some n=>rw[e]at d;simp only[X3]at d;rw[d];rfl
    rw[W];refine af ?_;refine kM (dS 181 p) Zr ZP (λv dl N=>N.elim) (λC dl Q=>?_);obtain⟨q,rfl,rfl⟩:=Q;exact⟨[jT q 181 p],ZI,q,181,S,rfl,rfl⟩
structure Fix where
 F:List ByteArray
 G:List ByteArray
 wq:Nat
 fb:Nat
 gb:Nat
 bS:Array MapEntry
 bW:Array MapEntry
 fc:Nat
 gc:Nat
 S:List kC
abbrev xf1(X:Fix):List kC:=[.obj X.fb (.map X.bS X.fc)]
abbrev xg1(X:Fix):List kC:=[.obj X.gb (.map X.bW X.gc)]
abbrev xm1(X:Fix)(u:Value):List Value:=[.map (some X.fb),.map (some X.gb),u]
structure Tt (X:Fix):Prop where
 f:rW X.F X.bS X.fc
 g:Aq X.G X.bW X.gc
def tI(X:Fix)(f:Nat)(a5:List Value)(st K0:ai)(us:Value)(bM:List Value)(U:List UC)(Vs:List aC)(T:List kC)(b:Nat)(es:Array MapEntry)(c:Nat)(R:Value->List Nat->List kC->Prop):Prop:=
 jr pg9 f a5 [kA X.wq 0 (xm1 X us),aj us (U.map λu=>kN (some u.q)) bM,xf1 X,xg1 X,WK U Vs,T,[.obj b (.map es c)],X.S]
  (λv dl=>∃Z5 Y6 U' pG T' B,(lf K0 Z5 Y6 U' pG T'/\U.map UC.q <+:U'.map UC.q/\Vs.map aC.q <+:pG.map aC.q/\R v (pG.map aC.q) B)/\
    dl=[kA X.wq 0 (xm1 X Z5),aj Z5 (U'.map λu=>kN (some u.q)) Y6,xf1 X,xg1 X,WK U' pG,T',[.obj b (.map es c)],X.S,B])
  (λch dl=>∃q e p,K0.f=some (e,p)/\ch=qQ q/\dl=[X.S,jT q e p])
def PartR(pn:PN)(v:Value)(qs:List Nat)(B:List kC):Prop:=∃ws,v=.agg ws.toArray/\AX B qs pn ws
def AllR(l:List PN)(v:Value)(qs:List Nat)(B:List kC):Prop:=∃rows sp B',ke 13 v l.length rows.flatten sp/\zz B' qs l rows/\B=aj v rows.flatten sp++B'
def qq(X:Fix)(x:Nd)(vs:List Value):Prop:=
 ∀st us bM U Vs T,lf st us bM U Vs T->∀(i:Nat) (u:UC),U[i]? =some u->∀a6 b es c,zX st Vs a6 es c->(∀v∈a6,st.ah v∈st.line i)->yP st (cV x)->
  tI X 172 [kE X.wq,.agg vs.toArray,kE u.q,.map (some b)] st (jF X.F X.G x st a6 i).2 us bM U Vs T b es c (PartR (jF X.F X.G x st a6 i).1)
def uU {st d}(h:Gr st d)(j:Wf st)(A:Wf d){i}(m:i < st.a7.length){v}(s:v < st.vars.length):d.line i=st.line i/\d.ah v=st.ah v:=by
 refine⟨?_,?_⟩
 .induction i using Nat.strongRecOn with
  |_ i ih=>
   have q:d.a7.getD i (-1)=st.a7.getD i (-1):=by
    obtain⟨t,g⟩:=h.a7;rw[<- g,Vh,Vh,Vj m]
   have hl:=h.a7.length_le;rw[A.line Zo,j.line Zo,q]
   congr 1
   split
   .rfl
   .have:=j.gk i;exact ih _ Zo Zo
 .obtain⟨t,g⟩:=h.vars;unfold ai.ah;rw[<- g,Vj s]
def A5(X:Fix)(l:List Nd)(a:Option Addr)(ac bk o:Nat)(ks:Nat->List Value)(GA:l.length < 1073741824)(ha:0 < l.length->a=some ⟨bk,o,none⟩)(hm:∀i,i < l.length->∀y∈kA bk (o+i*11) (ks i),y∈X.S)(hr:∀i x,l[i]? =some x->jD X.S x (ks i))(aR:∀i x,l[i]? =some x->qq X x (ks i))
 (st:ai) (us:Value) (bM:List Value) (U:List UC) (Vs:List aC) (T:List kC) (hS:lf st us bM U Vs T) (i:Nat) (u:UC) (hu:U[i]? =some u) (a6:List Nat) (b:Nat) (es:Array MapEntry) (c:Nat) (hs:zX st Vs a6 es c) (H7:∀v∈a6,st.ah v∈st.line i) (bn:yP st (kf l)):
 tI X 112 [kE X.wq,.slice a l.length ac,kE u.q,.map (some b)] st (kQ X.F X.G l st a6 i).2 us bM U Vs T b es c (AllR (kQ X.F X.G l st a6 i).1):=by
 refine jr.intro low112 Zn9 ?_;refine af ?_;refine VC.loop (α:=Nat×ai×Value×List Value×List UC×List aC×List kC×Value×List (List Value)×List Value×List kC×List PN) (bg:=λs=>[(0,kE X.wq),(2,kE u.q),(3,.map (some b)),(9,s.2.2.2.2.2.2.2.1),(12,.slice a l.length ac),(13,vi l.length),(14,vi s.1)])
  (Hf:=λs=>[kA X.wq 0 [.map (some X.fb),.map (some X.gb),s.2.2.1],aj s.2.2.1 (s.2.2.2.2.1.map λu=>kN (some u.q)) s.2.2.2.1,xf1 X,xg1 X,WK s.2.2.2.2.1 s.2.2.2.2.2.1,s.2.2.2.2.2.2.1,[.obj b (.map es c)],X.S,aj s.2.2.2.2.2.2.2.1 s.2.2.2.2.2.2.2.2.1.flatten s.2.2.2.2.2.2.2.2.2.1,s.2.2.2.2.2.2.2.2.2.2.1])
  (I:=λs=>s.1<=l.length/\(∃w,s.2.2.2.2.1[i]? =some w/\w.q=u.q)/\lf s.2.1 s.2.2.1 s.2.2.2.1 s.2.2.2.2.1 s.2.2.2.2.2.1 s.2.2.2.2.2.2.1/\Gr st s.2.1/\U.map UC.q <+:s.2.2.2.2.1.map UC.q/\Vs.map aC.q <+:s.2.2.2.2.2.1.map aC.q/\yP s.2.1 (kf (l.drop s.1))/\
    (kQ X.F X.G l st a6 i).2=(kQ X.F X.G (l.drop s.1) s.2.1 a6 i).2/\(kQ X.F X.G l st a6 i).1=s.2.2.2.2.2.2.2.2.2.2.2++(kQ X.F X.G (l.drop s.1) s.2.1 a6 i).1/\s.2.2.2.2.2.2.2.2.2.2.2.length=s.1/\
    ke 13 s.2.2.2.2.2.2.2.1 s.1 s.2.2.2.2.2.2.2.2.1.flatten s.2.2.2.2.2.2.2.2.2.1/\zz s.2.2.2.2.2.2.2.2.2.2.1 (s.2.2.2.2.2.1.map aC.q) s.2.2.2.2.2.2.2.2.2.2.2 s.2.2.2.2.2.2.2.2.1) (μ:=λs=>l.length-s.1) (0,st,us,bM,U,Vs,T,Nz,[],[],[],[])
  ⟨X0 _,⟨u,hu,rfl⟩,hS,Gr.refl st,Qf _,Qf _,bn,rfl,rfl,rfl,.nil,zz.nil _ _⟩ ZU (ap.cut (M:=[kA X.wq 0 (xm1 X us),aj us (U.map λu=>kN (some u.q)) bM,xf1 X,xg1 X,WK U Vs,T,[.obj b (.map es c)],X.S]) ZI (ap.perm A4)) ?_
 rintro⟨j,bx,K,pN,H,V1,T1,sv,rows,sp,B,Ic⟩ ⟨hj,⟨w,hw,rV⟩,Ra,Ac,J,C,qY,A,g,mr,aM,bA⟩
 simp only at hj hw rV Ra Ac J C qY A g mr aM bA;dsimp only;obtain⟨sa,sc,gP⟩:=aM.form;subst gP;refine af ?_;by_cases aI:j<l.length;rotate_left
 .rw[A1 ((j:Int) < (l.length:Int))];have gh:j=l.length:=by omega
  rw[gh,List.drop_length,kQ]at g A;simp only[vm]at g A;have hpl2:Ic.length=j:=mr;refine af ?_;refine jU (kG (dl:=[kA X.wq 0 (xm1 X K),aj K (H.map λu=>kN (some u.q)) pN,xf1 X,xg1 X,WK H V1,T1,[.obj b (.map es c)],X.S,aj (.slice sa j sc) rows.flatten sp++B]) (.inr rfl) (.tmp (v:=.slice sa j sc) Zr .nil)
   ⟨K,pN,H,V1,T1,_,⟨?_,J,C,rows,sp,B,?_,?_,rfl⟩,rfl⟩ (ap.cut (M:=[kA X.wq 0 (xm1 X K),aj K (H.map λu=>kN (some u.q)) pN,xf1 X,xg1 X,WK H V1,T1,[.obj b (.map es c)],X.S,aj (.slice sa j sc) rows.flatten sp,B]) ZI (ap.perm Zs)))
  .rw[A];exact Ra
  .rw[g,hpl2];exact aM
  .rw[g];exact bA
 obtain rfl:=ha Zo;rw[A0 ((j:Int) < (l.length:Int))];obtain⟨y,hy⟩:∃y,l[j]? =some y:=⟨_,Zg aI⟩;have Aw:l.drop j=y::l.drop (j+1):=by
  rw[vt aI]
  congr 1
  rw[Zg aI]at hy;exact X8 hy
 rw[Aw]at g A qY;simp only[kf]at qY;rw[wE]at g A;simp only at g A;have cA:=hm j aI;have bQ:=hr j y hy;have cm:i<st.a7.length:=by have:=(Vt.1 hu).1;rw[hS.rep.ul]at this;exact this
 have aK:=aR j y hy bx K pN H V1 T1 Ra i w hw a6 b es c (hs.more Ac.vars C hS.rep.vl) (λv hv=>by
  obtain⟨D,E⟩:=uU Ac hS.rep.wf Ra.rep.wf cm (hs.lt v hv);rw[D,E];exact H7 v hv) (qY.mono Zo)
 have hgp:=(wt X.F X.G _ y (Qs _) bx a6 i).1;have hlp:=(dD X.F X.G _ y (Qs _) bx a6 i).1;rw[rV]at aK;generalize ks j=kj at*;obtain⟨e1,e2,e3,e4,e5,e6,e7,e8,e9,xl,xm,xn,xp,IM,IN,IP,rfl⟩:=yv bQ;refine af ?_;refine kR Zr (λz hz=>by have h9:=cA z hz;simp[h9]) rfl ?_;refine af ?_;refine kJ (λuN=>?_);refine af ?_;refine kM aK Zr ZP (λv dl hv=>?_) (λch dl hz=>?_);rotate_left
 .obtain⟨q,e,p,iK,rfl,rfl⟩:=hz;refine⟨[X.S,jT q e p],ZI,q,e,p,?_,rfl,rfl⟩;rw[A];exact(wa X.F X.G (l.drop (j+1)) _ a6 i).f _ iK
 obtain⟨Dl,lU,U2,V2,T2,B2,⟨Ky,Ah,Ai,ws,rfl,hn⟩,rfl⟩:=hv;simp only[aE];obtain⟨L,N,O,Q,W,Y,Z,r1,r2,r3,p1,p2,p3,D,E,k3,Az⟩:=mO hn;subst Az;generalize oV:(jF X.F X.G y bx a6 i).1=d at hn g|-;refine kV (out:=[.int .u8 d.kind,.string d.name,.int .u8 L,vi N,.int .u64 O,.string Q,.slice W Y Z,.slice r1 r2 r3,vi d.cg,.bool d.super,.slice none 0 0,.slice p1 p2 p3,.slice D E k3]) Zr Zr (λr=>?_);refine kX (k:=j) (m:=1) (xs:=rows.flatten) (sp:=sp) (ys:=[.int .u8 d.kind,.string d.name,.int .u8 L,vi N,.int .u64 O,.string Q,.slice W Y Z,.slice r1 r2 r3,vi d.cg,.bool d.super,.slice none 0 0,.slice p1 p2 p3,.slice D E k3]) Zr Zr aM ZK Zr ?_ rfl Zr Zr Zd Zo (λbZ bf ax=>?_)
 .exact l9
 have cf:rows.flatten++([.int .u8 d.kind,.string d.name,.int .u8 L,vi N,.int .u64 O,.string Q,.slice W Y Z,.slice r1 r2 r3,vi d.cg,.bool d.super,Nz,.slice p1 p2 p3,.slice D E k3]:List Value)=(rows++[([.int .u8 d.kind,.string d.name,.int .u8 L,vi N,.int .u64 O,.string Q,.slice W Y Z,.slice r1 r2 r3,vi d.cg,.bool d.super,Nz,.slice p1 p2 p3,.slice D E k3]:List Value)]).flatten:=by simp
 rw[cf]at ax|-;obtain⟨dZ,ed,rfl⟩:=ax.form;refine af ?_;refine⟨(j+1,_,Dl,lU,U2,V2,T2,.slice dZ (j+1) ed,rows++[[.int .u8 d.kind,.string d.name,.int .u8 L,vi N,.int .u64 O,.string Q,.slice W Y Z,.slice r1 r2 r3,vi d.cg,.bool d.super,Nz,.slice p1 p2 p3,.slice D E k3]],bf,B++B2,Ic++[d]),⟨by simp only;omega,?_,Ky,Ac.trans hgp,J.trans Ah,C.trans Ai,qY.less hlp,A,by simp only;rw[g];simp,by simp[mr],ax,?_⟩,by simp only;omega,ZU,?_⟩
 .obtain⟨t,ht⟩:=Ah;have h1:(H.map UC.q)[i]? =some w.q:=by rw[Vu,hw];rfl
  have h2:(U2.map UC.q)[i]? =some w.q:=by
   rw[<- ht,Vj (Vt.1 h1).1];exact h1
  rw[Vu]at h2;obtain⟨w',h3,h4⟩:=X5.1 h2;exact⟨w',h3,h4.trans rV⟩
 .exact(bA.more (λx hx=>Zw _ hx) Ai).snoc (hn.more (λx hx=>QI _ hx) (Qf _))
 .simp only;refine ap.cut (M:=[kA X.wq 0 (xm1 X Dl),aj Dl (U2.map λu=>kN (some u.q)) lU,xf1 X,xg1 X,WK U2 V2,T2,[.obj b (.map es c)],X.S,aj (.slice dZ (j+1) ed) (rows++[([.int .u8 d.kind,.string d.name,.int .u8 L,vi N,.int .u64 O,.string Q,.slice W Y Z,.slice r1 r2 r3,vi d.cg,.bool d.super,Nz,.slice p1 p2 p3,.slice D E k3]:List Value)]).flatten bf,B,B2]) ZI (ap.perm Zs)
end Go.Proofs.YtijnokbblmbpkaaGreatDoor

/-
  What is gone through only grows; what is wrong first stays so.
-/
import Derived.Test.YtijnokbblmbpkaaGreatDoorN15
import Derived.Test.YtijnokbblmbpkaaGreatDoorN5
import Derived.Test.YtijnokbblmbpkaaGreatDoorN6
set_option linter.all false
namespace Go.V
open Go
structure Gr (a b:ah):Prop where
 f:∀e,a.f=some e->b.f=some e
 vars:a.vars <+:b.vars
 outer:a.outer <+:b.outer
 args:a.args <+:b.args
 uses:a.uses <+:b.uses
 XS:b.bodies.length=b.outer.length↔a.bodies.length=a.outer.length
theorem Gr.refl(a:ah):Gr a a:=⟨fun _ h=>h,QT _,QT _,QT _,QT _,Iff.rfl⟩
theorem Gr.trans {a b c:ah}(h:Gr a b)(k:Gr b c):Gr a c:=
 ⟨fun e he=>k.f e (h.f e he),h.vars.trans k.vars,h.outer.trans k.outer,h.args.trans k.args,h.uses.trans k.uses,k.XS.trans h.XS⟩
theorem xk(a:ah)(e:Nat)(p:Int):Gr a (a.wrong e p):=by
 unfold ah.wrong;split
 ·rename_i h;refine⟨fun x hx=>?_,QT _,QT _,QT _,QT _,Iff.rfl⟩;rw[hx]at h;cases h
 ·exact Gr.refl a
theorem Ct(a:ah)(l:List eQ):Gr a {a with vars:=a.vars++l}:=⟨fun _ h=>h,QS _ _,QT _,QT _,QT _,Iff.rfl⟩
theorem Cs(a:ah)(l:List (Nat×Nat)):Gr a {a with uses:=a.uses++l}:=⟨fun _ h=>h,QT _,QT _,QT _,QS _ _,Iff.rfl⟩
theorem JH(a:ah)(o:Int)(n:Nat):Gr a {a with outer:=a.outer++[o],args:=a.args++[n],bodies:=a.bodies++[[]]}:=
 ⟨fun _ h=>h,QT _,QS _ _,QS _ _,QT _,Zs⟩
theorem Ul(a:ah)(i:Nat)(b:List PN):Gr a {a with bodies:=a.bodies.set i b}:=
 ⟨fun _ h=>h,QT _,QT _,QT _,QT _,Zs⟩
theorem cY(a:ah)(e:Nat)(p:Int):(a.wrong e p).vars=a.vars:=by unfold ah.wrong;split <;> rfl
theorem yP(a:ah)(e:Nat)(p:Int):(a.wrong e p).uses=a.uses:=by unfold ah.wrong;split <;> rfl
theorem mS(a:ah)(e:Nat)(p:Int):(a.wrong e p).outer=a.outer:=by unfold ah.wrong;split <;> rfl
theorem zE(unit:Nat)(arg own:Bool)(p:Int):∀(l:List ByteArray) (i:Nat) (st:ah) (env:List Nat),Gr st (kO unit arg own p l i st env).1
 |[],_,st,_=>Gr.refl st
 |nm::r,i,st,env=>by
  unfold kO;refine Gr.trans ?_ (zE unit arg own p r _ _ _);split
  ·refine Gr.trans (xk st 180 p) ?_;have:=Ct (st.wrong 180 p) [⟨nm,unit,arg,if arg&&own then i else -1⟩];rw[cY]at this;exact this
  ·exact Ct st _
theorem xj(F G:List ByteArray)(st:ah)(env:List Nat)(nm:ByteArray)(u:Nat)(p:Int)(put:Bool):Gr st (wF F G st env nm u p put).2:=by
 unfold wF;split
 ·exact Gr.refl st
 ·split
  ·rename_i v _;simp only;split
   ·refine Gr.trans (xk st 182 p) ?_;have:=Cs (st.wrong 182 p) [(u,v)];rw[yP]at this;exact this
   ·exact Cs st _
  ·split
   ·exact Gr.refl st
   ·simp only;split
    ·exact Gr.refl st
    ·exact xk st 181 p
section
variable (F G:List ByteArray) (k:Nat) (s:ByteArray) (lit:Lt) (args ab:List ByteArray) (kids:List Nd) (p:Int) (st:ah) (env:List Nat) (u:Nat)
theorem wL(x:Nd)(r:List Nd):kT F G (x::r) st env u=((jF F G x st env u).1::(kT F G r (jF F G x st env u).2 env u).1,(kT F G r (jF F G x st env u).2 env u).2):=by rw[kT]
theorem dQ(x:Nd)(r:List Nd)(i:Nat)(h:dX s i=true):jB F G s (x::r) i st env u=((cH F G x st env u).1::(jB F G s r (i+1) (cH F G x st env u).2 env u).1,
 (if kb s=5 then dL st.vars.length::(jB F G s r (i+1) (cH F G x st env u).2 env u).2.1 else(jB F G s r (i+1) (cH F G x st env u).2 env u).2.1),(jB F G s r (i+1) (cH F G x st env u).2 env u).2.2):=by rw[jB,if_pos h]
theorem zi(x:Nd)(r:List Nd)(i:Nat)(h:dX s i=false):jB F G s (x::r) i st env u=((jF F G x st env u).1::(jB F G s r (i+1) (jF F G x st env u).2 env u).1,
 (jB F G s r (i+1) (jF F G x st env u).2 env u).2.1,(jB F G s r (i+1) (jF F G x st env u).2 env u).2.2):=by rw[jB,if_neg (by rw[h];simp)]
theorem eE(h:fD k s kids=true):jF F G (.mk k s lit args ab kids p) st env u=(.mk (iL s) (iM s) ij (jB F G s kids 0 st env u).2.1 0 false (jB F G s kids 0 st env u).1,(jB F G s kids 0 st env u).2.2):=by
 unfold jF;rw[if_pos h]
def bn(o:Int):ah×List Nat:=
 kO st.outer.length false true p ab 0 (kO st.outer.length true true p args 0 (({st with outer:=st.outer++[o],args:=st.args++[args.length],bodies:=st.bodies++[[]]}:ah)) env).1 (kO st.outer.length true true p args 0 (({st with outer:=st.outer++[o],args:=st.args++[args.length],bodies:=st.bodies++[[]]}:ah)) env).2
theorem zP(o:Int):oj F G args ab kids p st env o={(kT F G kids (bn args ab p st env o).1 (bn args ab p st env o).2 st.outer.length).2 with bodies:=(kT F G kids (bn args ab p st env o).1 (bn args ab p st env o).2 st.outer.length).2.bodies.set st.outer.length (kT F G kids (bn args ab p st env o).1 (bn args ab p st env o).2 st.outer.length).1}:=by
 unfold oj bn;rfl
section
variable (h:fD k s kids=false)
include h
theorem nk(hk:k=1):jF F G (.mk k s lit args ab kids p) st env u=(.mk 1 e0 lit [] 0 false [],st):=by
 unfold jF;rw[if_neg (by rw[h];simp),if_pos hk]
theorem np(hk:k=2):jF F G (.mk k s lit args ab kids p) st env u=(.mk 2 e0 ij [(wF F G st env s u p false).1] 0 false [],(wF F G st env s u p false).2):=by
 unfold jF;rw[if_neg (by rw[h];simp),if_neg Zo,if_pos hk]
theorem nq(hk:k=3):jF F G (.mk k s lit args ab kids p) st env u=(.mk 3 e0 ij [(wF F G st env s u p true).1] 0 false (kT F G kids (wF F G st env s u p true).2 env u).1,(kT F G kids (wF F G st env s u p true).2 env u).2):=by
 unfold jF;rw[if_neg (by rw[h];simp),if_neg Zo,if_neg Zo,if_pos hk]
theorem ny(hk:k=7):jF F G (.mk k s lit args ab kids p) st env u=(.mk 8 e0 ij [] st.outer.length false [],oj F G args ab kids p st env u):=by
 unfold jF;rw[if_neg (by rw[h];simp),if_neg Zo,if_neg Zo,if_neg Zo,if_pos hk];rfl
theorem nz(hk:k=8):jF F G (.mk k s lit args ab kids p) st env u=(.mk 9 e0 ij [] 0 false (kT F G kids st env u).1,(kT F G kids st env u).2):=by
 unfold jF;rw[if_neg (by rw[h];simp),if_neg Zo,if_neg Zo,if_neg Zo,if_neg Zo,if_pos hk]
theorem nA(hk:k=9):jF F G (.mk k s lit args ab kids p) st env u=(.mk 10 e0 ij [] 0 false (kT F G kids st env u).1,(kT F G kids st env u).2):=by
 unfold jF;rw[if_neg (by rw[h];simp),if_neg Zo,if_neg Zo,if_neg Zo,if_neg Zo,if_neg Zo,if_pos hk]
theorem nw(hk:k=6):jF F G (.mk k s lit args ab kids p) st env u=(.mk 7 s ij [] 0 false (kT F G kids st env u).1,(kT F G kids st env u).2):=by
 unfold jF;rw[if_neg (by rw[h];simp),if_neg Zo,if_neg Zo,if_neg Zo,if_neg Zo,if_neg Zo,if_neg Zo,if_pos hk]
theorem nu(hk:k=5):jF F G (.mk k s lit args ab kids p) st env u=(.mk 6 e0 ij [] 0 false (zK (jM kids) (kT F G kids st env u).1),(kT F G kids st env u).2):=by
 unfold jF;rw[if_neg (by rw[h];simp),if_neg Zo,if_neg Zo,if_neg Zo,if_neg Zo,if_neg Zo,if_neg Zo,if_neg Zo,if_pos hk]
theorem gX(hk:k≠1/\k≠2/\k≠3/\k≠5/\k≠6/\k≠7/\k≠8/\k≠9)(hs:jM kids=true):jF F G (.mk k s lit args ab kids p) st env u=(.mk 5 s ij [] 0 false (kT F G kids.tail st env u).1,(kT F G kids.tail st env u).2):=by
 obtain⟨h1,h2,h3,h5,h6,h7,h8,h9⟩:=hk;unfold jF;rw[if_neg (by rw[h];simp),if_neg h1,if_neg h2,if_neg h3,if_neg h7,if_neg h8,if_neg h9,if_neg h6,if_neg h5,if_pos hs];cases kids with
 |nil=>cases hs
 |cons x r=>rfl
theorem nt(hk:k≠1/\k≠2/\k≠3/\k≠5/\k≠6/\k≠7/\k≠8/\k≠9)(hs:jM kids=false):jF F G (.mk k s lit args ab kids p) st env u=(.mk 4 s ij [] 0 false (kT F G kids st env u).1,(kT F G kids st env u).2):=by
 obtain⟨h1,h2,h3,h5,h6,h7,h8,h9⟩:=hk;unfold jF;rw[if_neg (by rw[h];simp),if_neg h1,if_neg h2,if_neg h3,if_neg h7,if_neg h8,if_neg h9,if_neg h6,if_neg h5,if_neg (by rw[hs];simp)]
end
theorem iz:cH F G (.mk k s lit args ab kids p) st env u=
 (.mk 14 e0 ij ((List.range' (kO u true false p args 0 st env).1.vars.length ab.length).map dL) 0 false
   (kT F G kids (kO u false false p ab 0 (kO u true false p args 0 st env).1 (kO u true false p args 0 st env).2).1 (kO u false false p ab 0 (kO u true false p args 0 st env).1 (kO u true false p args 0 st env).2).2 u).1,
  (kT F G kids (kO u false false p ab 0 (kO u true false p args 0 st env).1 (kO u true false p args 0 st env).2).1 (kO u false false p ab 0 (kO u true false p args 0 st env).1 (kO u true false p args 0 st env).2).2 u).2):=by rw[cH]
end
theorem zZ(F G:List ByteArray):∀(N:Nat) (x:Nd),x.size<=N->∀st env u,Gr st (jF F G x st env u).2/\Gr st (cH F G x st env u).2:=by
 intro N
 induction N with
 |zero=>intro x hx;have:=x.size_pos;omega
 |succ N ih=>
  have ap:∀l:List Nd,Nd.aq l<=N->∀st env u,Gr st (kT F G l st env u).2:=by
   intro l
   induction l with
   |nil=>intro _ st env u;rw[kT];exact Gr.refl st
   |cons x r xB=>
    exact zEE
  have pS:∀(s:ByteArray) (l:List Nd),Nd.aq l<=N->∀i st env u,Gr st (jB F G s l i st env u).2.2:=by
   intro s l
   induction l with
   |nil=>intro _ i st env u;rw[jB];exact Gr.refl st
   |cons x r xB=>
    exact zC0
  intro x hx st env u;cases x with
  |mk k s lit args ab kids p=>
  simp only[Nd.size]at hx;have hk:Nd.aq kids<=N:=by omega
  refine⟨?_,?_⟩
  ·cases h:fD k s kids with
   |true=>rw[eE _ _ _ _ _ _ _ _ _ _ _ _ h];exact pS s kids hk 0 st env u
   |false=>
    by_cases h1:k=1
    ·rw[nk _ _ _ _ _ _ _ _ _ _ _ _ h h1];exact Gr.refl st
    by_cases h2:k=2
    ·rw[np _ _ _ _ _ _ _ _ _ _ _ _ h h2];exact xj F G st env s u p false
    by_cases h3:k=3
    ·rw[nq _ _ _ _ _ _ _ _ _ _ _ _ h h3];exact(xj F G st env s u p true).trans (ap kids hk _ env u)
    by_cases h7:k=7
    ·rw[ny _ _ _ _ _ _ _ _ _ _ _ _ h h7];simp only;rw[zP];refine Gr.trans ?_ (Gr.trans (ap kids hk _ _ _) (Ul _ _ _));exact Gr.trans (JH st _ _) (Gr.trans (zE _ _ _ _ _ _ _ _) (zE _ _ _ _ _ _ _ _))
    by_cases h8:k=8
    ·rw[nz _ _ _ _ _ _ _ _ _ _ _ _ h h8];exact ap kids hk st env u
    by_cases h9:k=9
    ·rw[nA _ _ _ _ _ _ _ _ _ _ _ _ h h9];exact ap kids hk st env u
    by_cases h6:k=6
    ·rw[nw _ _ _ _ _ _ _ _ _ _ _ _ h h6];exact ap kids hk st env u
    by_cases h5:k=5
    ·rw[nu _ _ _ _ _ _ _ _ _ _ _ _ h h5];exact ap kids hk st env u
    cases hs:jM kids with
    |true=>
     rw[gX _ _ _ _ _ _ _ _ _ _ _ _ h ⟨h1,h2,h3,h5,h6,h7,h8,h9⟩ hs];refine ap kids.tail ?_ st env u;exact zEF
    |false=>rw[nt _ _ _ _ _ _ _ _ _ _ _ _ h ⟨h1,h2,h3,h5,h6,h7,h8,h9⟩ hs];exact ap kids hk st env u
  ·rw[iz];exact Gr.trans (zE _ _ _ _ _ _ _ _) (Gr.trans (zE _ _ _ _ _ _ _ _) (ap kids hk _ _ _))
structure Wf (st:ah):Prop where
 al:st.args.length=st.outer.length
 bl:st.bodies.length=st.outer.length
 low:∀(i:Nat) o,st.outer[i]? =some o->-1<=o/\o < i
 vu:∀(v:Nat) x,st.vars[v]? =some x->x.unit < st.outer.length/\-1<=x.own/\x.own < st.args.getD x.unit 0
 uu:∀q∈st.uses,q.1 < st.outer.length/\q.2 < st.vars.length
theorem Wf.eZ {st:ah}(h:Wf st)(i:Nat):st.outer.getD i (-1) < i:=by
 rw[V8];cases e:st.outer[i]? with
 |none=>simp only[Option.getD_none];omega
 |some o=>exact(h.low i o e).2
theorem Dv(o:List Int)(n:Nat){u:Int}(h:u < 0):yK o n u=[]:=by
 cases n with
 |zero=>rfl
 |succ n=>simp only[yK];rw[if_pos h]
theorem SI {o:List Int}(h:∀i,o.getD i (-1) < (i:Int)):∀(u n m:Nat),u < n->u < m->yK o n u=yK o m u:=by
 intro u
 induction u using Nat.strongRecOn with
 |_ u ih=>
  intro n m hn hm;cases n with
  |zero=>omega
  |succ n=>
   cases m with
   |zero=>omega
   |succ m=>
    simp only[yK];rw[if_neg Zo,if_neg Zo]
    congr 1
    rw[vS];have hl:=h u;by_cases c:o.getD u (-1) < 0
    ·rw[Dv o n c,Dv o m c]
    ·have e:o.getD u (-1)=((o.getD u (-1)).toNat:Int):=by omega
     rw[e];exact ih _ Zo n m Zo Zo
theorem Wf.line {st:ah}(h:Wf st){u:Nat}(hu:u<=st.outer.length):st.line u=u::(if st.outer.getD u (-1) < 0 then []else st.line (st.outer.getD u (-1)).toNat):=by
 unfold ah.line;have hl:=h.eZ u;rw[yK,if_neg Zo,vS]
 congr 1
 by_cases c:st.outer.getD u (-1) < 0
 ·rw[if_pos c,Dv _ _ c]
 ·rw[if_neg c];have e:st.outer.getD u (-1)=((st.outer.getD u (-1)).toNat:Int):=by omega
  have:=SI h.eZ (st.outer.getD u (-1)).toNat st.outer.length (st.outer.length+1) Zo Zo;rw[<- e]at this;rw[<- e];exact this
theorem Wf.qT {st:ah}(h:Wf st){u v:Nat}(hu:u<=st.outer.length)(e:u=st.af v):st.way u v=[]:=by
 unfold ah.way;rw[h.line hu,List.takeWhile_cons,if_neg (by simp[e])]
theorem Wf.qV {st:ah}(h:Wf st){u v:Nat}(hu:u<=st.outer.length)(e:u≠st.af v):st.way u v=u::(if st.outer.getD u (-1) < 0 then []else st.way (st.outer.getD u (-1)).toNat v):=by
 unfold ah.way;rw[h.line hu,List.takeWhile_cons,if_pos (by simp[e])]
 congr 1
 split <;> rfl
theorem Wf.ue {st:ah}(h:Wf st):∀(u:Nat),u<=st.outer.length->∀w∈st.line u,w<=u:=by
 intro u
 induction u using Nat.strongRecOn with
 |_ u ih=>
  intro hu w hw;rw[h.line hu]at hw;rcases Q9.1 hw with rfl|hw
  ·exact Qj _
  ·have hl:=h.eZ u;split at hw
   ·cases hw
   ·have:=ih (st.outer.getD u (-1)).toNat Zo Zo w hw;omega
def ah.use(st:ah)(u v:Nat):ah:={st with uses:=st.uses++[(u,v)]}
theorem Kj(st:ah)(u v w:Nat):(st.use u v).rem w=(st.rem w||(decide (v=w)&&decide (st.bD w < 0)&&decide (st.af w≠u))):=by
 unfold ah.rem ah.use;simp only[List.any_append,List.any_cons,List.any_nil,vQ];rfl
theorem E8(st:ah)(u v j:Nat)(t:Nat×Int):(st.use u v).bg j t=(st.bg j t||(decide ((st.af v,st.bD v)=t)&&decide (j∈st.way u v))):=by
 unfold ah.bg ah.use;simp only[List.any_append,List.any_cons,List.any_nil,vQ];rfl
theorem Wf.use {st:ah}(h:Wf st){u v:Nat}(hu:u < st.outer.length)(hv:v < st.vars.length):Wf (st.use u v):=
 ⟨h.al,h.bl,h.low,h.vu,fun q hq=>by
   rcases Q7.1 hq with hq|hq
   ·exact h.uu q hq
   ·obtain rfl:=QI.1 hq;exact⟨hu,hv⟩⟩
def ah.aZ(st:ah)(x:eQ):ah:={st with vars:=st.vars++[x]}
theorem cV(st:ah)(x:eQ){v:Nat}(hv:v < st.vars.length):(st.aZ x).af v=st.af v:=by
 unfold ah.af ah.aZ;simp only;rw[VV hv]
theorem sd(st:ah)(x:eQ){v:Nat}(hv:v < st.vars.length):(st.aZ x).bD v=st.bD v:=by
 unfold ah.bD ah.aZ;simp only;rw[VV hv]
theorem any_congr {α:Type}{l:List α}{p q:α->Bool}(h:∀x∈l,p x=q x):l.any p=l.any q:=by
 induction l with
 |nil=>rfl
 |cons x l ih=>rw[List.any_cons,List.any_cons,h x Zs,ih (fun y hy=>h y (by simp[hy]))]
theorem XE(st:ah)(x:eQ)(u:Nat){v:Nat}(hv:v < st.vars.length):(st.aZ x).way u v=st.way u v:=by
 unfold ah.way;rw[cV st x hv];rfl
theorem Wf.P7 {st:ah}(h:Wf st)(x:eQ)(j:Nat)(t:Nat×Int):(st.aZ x).bg j t=st.bg j t:=by
 unfold ah.bg;refine any_congr (l:=st.uses) (fun q hq=>?_);have:=(h.uu q hq).2;rw[cV st x this,sd st x this,XE st x _ this]
theorem Wf.Xb {st:ah}(h:Wf st)(x:eQ){v:Nat}(hv:v < st.vars.length):(st.aZ x).rem v=st.rem v:=by
 unfold ah.rem;refine any_congr (l:=st.uses) (fun q hq=>?_);rw[cV st x hv,sd st x hv]
theorem Wf.Xc {st:ah}(h:Wf st)(x:eQ):(st.aZ x).rem st.vars.length=false:=by
 unfold ah.rem;rw[List.any_eq_false];intro q hq;have:=(h.uu q hq).2;simp only[vF,decide_eq_true_eq,not_and];intro e;omega
theorem Wf.aZ {st:ah}(h:Wf st){x:eQ}(hx:x.unit < st.outer.length)(ho:-1<=x.own/\x.own < st.args.getD x.unit 0):Wf (st.aZ x):=
 ⟨h.al,h.bl,h.low,fun v y hy=>by
   unfold ah.aZ at hy;simp only at hy;rw[V9]at hy;split at hy
   ·exact h.vu v y hy
   ·have:=(Vh.1 hy).1;simp only[Vy]at this;have e:v - st.vars.length=0:=by omega
    rw[e]at hy;obtain rfl:x=y:=by simpa using hy
    exact⟨hx,ho⟩,fun q hq=>⟨(h.uu q hq).1,by have:=(h.uu q hq).2;show q.2 < (st.vars++[x]).length;rw[Vo];omega⟩⟩
def ah.aM(st:ah)(o:Int)(n:Nat):ah:={st with outer:=st.outer++[o],args:=st.args++[n],bodies:=st.bodies++[[]]}
theorem cB {α:Type}{l:List α}{x d:α}{i:Nat}(h:i < l.length):(l++[x]).getD i d=l.getD i d:=by
 rw[V8,V8,VV h]
theorem Wf.aM {st:ah}(h:Wf st){o:Int}{n:Nat}(ho:-1<=o/\o < st.outer.length):Wf (st.aM o n):=by
 refine⟨?_,?_,fun i p hp=>?_,fun v x hx=>?_,fun q hq=>?_⟩
 ·unfold ah.aM;simp only[Vo,Vy];rw[h.al]
 ·unfold ah.aM;simp only[Vo,Vy];rw[h.bl]
 ·unfold ah.aM at hp;simp only at hp;rw[V9]at hp;split at hp
  ·exact h.low i p hp
  ·have:=(Vh.1 hp).1;simp only[Vy]at this;have e:i - st.outer.length=0:=by omega
   rw[e]at hp;obtain rfl:o=p:=by simpa using hp
   omega
 ·obtain⟨h1,h2,h3⟩:=h.vu v x hx;refine⟨?_,h2,?_⟩
  ·show x.unit < (st.outer++[o]).length;rw[Vo];omega
  ·show x.own < (st.args++[n]).getD x.unit 0;rw[cB (by rw[h.al];exact h1)];exact h3
 ·obtain⟨h1,h2⟩:=h.uu q hq;refine⟨?_,h2⟩;show q.1 < (st.outer++[o]).length;rw[Vo];omega
theorem Wf.pX {st:ah}(h:Wf st){o:Int}{n:Nat}(ho:-1<=o/\o < st.outer.length):∀(u:Nat),u < st.outer.length->(st.aM o n).line u=st.line u:=by
 intro u
 induction u using Nat.strongRecOn with
 |_ u ih=>
  intro hu;have h':=h.aM (n:=n) ho;have e:(st.aM o n).outer.getD u (-1)=st.outer.getD u (-1):=cB hu;have hl:=h.eZ u;rw[h'.line (by show u<=(st.outer++[o]).length;rw[Vo];omega),h.line Zo,e]
  congr 1
  split
  ·rfl
  ·exact ih _ Zo Zo
theorem Wf.SO {st:ah}(h:Wf st){o:Int}{n:Nat}(ho:-1<=o/\o < st.outer.length){u v:Nat}(hu:u < st.outer.length):(st.aM o n).way u v=st.way u v:=by
 unfold ah.way;rw[h.pX ho u hu];rfl
theorem Wf.Bj {st:ah}(h:Wf st){o:Int}{n:Nat}(ho:-1<=o/\o < st.outer.length)(j:Nat)(t:Nat×Int):(st.aM o n).bg j t=st.bg j t:=by
 unfold ah.bg;refine any_congr (l:=st.uses) (fun q hq=>?_);rw[h.SO ho (h.uu q hq).1];rfl
theorem Wf.P8 {st:ah}(h:Wf st)(j:Nat)(hj:st.outer.length<=j)(t:Nat×Int):st.bg j t=false:=by
 unfold ah.bg;rw[List.any_eq_false];intro q hq;simp only[vF,decide_eq_true_eq,not_and];intro _ hm;have h1:=(h.uu q hq).1;have:=h.ue q.1 Zo j ((List.takeWhile_prefix _).subset hm);omega
def wO(L:List kB)(b:Nat):Prop:=(∃n,kB.own b n∈L)/\∃v,kB.cell b 0 v∈L
theorem wO.more {L M:List kB}{b:Nat}(h:wO L b)(hs:∀x∈L,x∈M):wO M b:=⟨h.1.imp fun _ k=>hs _ k,h.2.imp fun _ k=>hs _ k⟩
section
variable {P:Program} {w:World} {L:List kB}
theorem F7(hs:Sat w L){b:Nat}(h:wO L b):(frozen ⟨b,0,none⟩).run P w=.ok false w/\(noView ⟨b,0,none⟩).run P w=.ok () w/\(stringish ⟨b,0,none⟩).run P w=.ok false w/\∃r:Bool,(do pure ((<- shape b) matches some (_,0)):Sem Bool).run P w=.ok r w:=by
 obtain⟨⟨n,h1⟩,⟨v,h2⟩⟩:=h;obtain⟨c,t,lo,hi,hb,hn,hf⟩:=hs.holds _ h1;obtain⟨_,f2⟩:=hs.cell h2;have e1:(frozen ⟨b,0,none⟩).run P w=.ok false w:=by
  simp only[frozen,Sem.run,f2]
 have hsh:w.shape? b=some (t,c.size):=by simp[World.shape?,hb]
 have e2:(shape b).run P w=.ok (some (t,c.size)) w:=by simp only[shape,Sem.run,hsh]
 have f3:w.frozen? ⟨b,c.size,none⟩=false:=by
  simp only[World.frozen?,hb];simp only[Bool.and_eq_false_iff,decide_eq_false_iff_not];by_cases h:lo<=n
  ·right;intro h';exact hf ⟨h,Zo⟩
  ·left;omega
 refine⟨e1,?_,?_,?_⟩
 ·simp[noView,viewAt,e2]
 ·simp only[stringish,Sem.run_bind,e1,Result.andThen_ok];simp only[vJ,if_false,Sem.run_bind,e2,Result.andThen_ok];simp only[frozen,Sem.run,f3]
 ·simp only[Sem.run_bind,e2,Result.andThen_ok];exact⟨_,rfl⟩
theorem Dk(hs:Sat w L){a b:Nat}(ha:wO L a)(hb:wO L b):(sameAddr ⟨a,0,none⟩ ⟨b,0,none⟩).run P w=.ok (decide (a=b)) w:=by
 unfold sameAddr;by_cases h:a=b
 ·subst h;simp
 ·obtain⟨a1,a2,a3,ra,a4⟩:=F7 (P:=P) hs ha;obtain⟨b1,b2,b3,rb,b4⟩:=F7 (P:=P) hs hb;have cF:(a==b)=false:=by simpa using h
  simp[cF,a1,b1,a2,b2,mayBeOne,a3,b3,h]
theorem By(hs:Sat w L){t e:TypeId}{i:TypeInfo}(ht:P.underlying t=some (.pointer e))(hi:P.info? e=some i)(hz:i.size≠0){a b:Nat}(ha:wO L a)(hb:wO L b)(n:Nat):
 (Op.equalIn (n+1) t (.pointer (some ⟨a,0,none⟩)) (.pointer (some ⟨b,0,none⟩))).run P w=.ok (decide (a=b)) w:=by
 simp[Op.equalIn,kC ht,kZ hi,hz,Dk hs ha hb]
end
structure XN (P:Program)(t mt e:TypeId):Prop where
 fs : ∃ f0 f1 : Field, P.underlying t = some (.struct #[f0, f1]) ∧ f0.offset = 0 ∧ f1.offset = 1 ∧ f0.name ≠ "_" ∧ f1.name ≠ "_" ∧ P.underlying f0.type = some (.pointer e) ∧ P.underlying f1.type = some (.int .i64)
 sz:∃i,P.info? e=some i/\i.size≠0
 stood:P.stoodInHeld t=false
 guard:P.eqGuardType P.depth t=false
 map:∃it i,P.underlying mt=some (.map t it)/\P.info? it=some i/\i.zero=some (.int .i64 0)
def fT(k:Nat×Int):Value:=.agg #[.pointer (some ⟨k.1,0,none⟩),.int .i64 k.2]
def yQ(es:List MapEntry)(m:List ((Nat×Int)×Int)):Prop:=es.map (fun e=>(e.key,e.val))=m.map fun p=>(fT p.1,.int .i64 p.2)
def zp(k:Nat×Int):List ((Nat×Int)×Int)->Nat->Option (Nat×Value)
 |[],_=>none
 |p::r,i=>if k=p.1 then some (i,.int .i64 p.2)else zp k r (i+1)
section
variable {P:Program} {w:World} {L:List kB} {t mt e:TypeId}
theorem F6(hs:Sat w L)(h:XN P t mt e){k j:Nat×Int}(hk:wO L k.1)(hj:wO L j.1):(Op.equal t (fT k) (fT j)).run P w=.ok (decide (k=j)) w:=by
 obtain⟨f0,f1,hf,o0,o1,n0,n1,u0,u1⟩:=h.fs;obtain⟨i,hi,hz⟩:=h.sz;have hfo:P.underlying t=some (.struct (P.fieldsOf t)):=by simp[Program.fieldsOf,hf]
 have Ev:P.fieldsOf t=#[f0,f1]:=by simp[Program.fieldsOf,hf]
 show(Op.equalIn (9999+1) t (fT k) (fT j)).run P w=_;unfold fT;rw[run_equalIn_struct w 9999 t _ _ hfo h.stood,Ev];have p0:∀x y:Value,(part f0.type #[x,y] f0.offset).run P w=.ok x w:=fun x y=>by
  simp[part,isAgg,kC u0,o0]
 have p1:∀x y:Value,(part f1.type #[x,y] f1.offset).run P w=.ok y w:=fun x y=>by
  simp[part,isAgg,kC u1,o1]
 have q1:∀x y:Int,(Op.equalIn 9999 f1.type (.int .i64 x) (.int .i64 y)).run P w=.ok (decide (x=y)) w:=fun x y=>cQ (n:=9998) u1 rfl rfl
 simp only[Op.eqFields,ne_eq,n0,n1,not_false_eq_true,if_true,Sem.run_bind,p0,p1,Result.andThen_ok,By (n:=9998) hs u0 hi hz hk hj,q1];have e1:decide (k=j)=(decide (k.1=j.1)&&decide (k.2=j.2)):=by
  rw[<- Bool.decide_and];exact decide_eq_decide.2 ⟨fun h=>h ▸ ⟨rfl,rfl⟩,fun h=>Prod.ext h.1 h.2⟩
 rw[e1];by_cases c1:k.1=j.1 <;> by_cases c2:k.2=j.2 <;> simp[c1,c2,p1,q1]
theorem IU(hs:Sat w L)(h:XN P t mt e){k:Nat×Int}(hk:wO L k.1):∀(es:List MapEntry) (m:List ((Nat×Int)×Int)) (i:Nat),yQ es m->(∀p∈m,wO L p.1.1)->(Instr.findAsking t (fT k) es i).run P w=.ok (zp k m i) w:=by
 intro es
 induction es with
 |nil=>
  intro m i hm _;cases m with
  |nil=>simp[Instr.findAsking,zp]
  |cons p r=>simp[yQ]at hm
 |cons q es ih=>
  intro m i hm hl;cases m with
  |nil=>simp[yQ]at hm
  |cons p r=>
   simp only[yQ,Q3,ve,X2]at hm;obtain⟨⟨h1,h2⟩,h3⟩:=hm;simp only[Instr.findAsking,Sem.run_bind,h1,F6 hs h hk (hl p Zs),Result.andThen_ok,zp];by_cases c:k=p.1
   ·simp[c,h2]
   ·simp only[c,decide_false,vJ,if_false];exact ih r (i+1) h3 (fun p hp=>hl p (by simp[hp]))
theorem td(hs:Sat w L)(h:XN P t mt e){k:Nat×Int}(hk:wO L k.1){es:List MapEntry}{m:List ((Nat×Int)×Int)}(hm:yQ es m)(hl:∀p∈m,wO L p.1.1):(Instr.findKey t (fT k) es).run P w=.ok (zp k m 0) w:=by
 obtain⟨f0,f1,hf,_⟩:=h.fs;unfold Instr.findKey;simp only[Sem.run_bind,kC hf,Result.andThen_ok];cases es with
 |nil=>
  cases m with
  |nil=>simp[Instr.findNow,zp]
  |cons p r=>simp[yQ]at hm
 |cons q es=>
  have:Instr.findNow (.struct #[f0,f1]) (fT k) (q::es) 0=none:=by simp[Instr.findNow,Instr.sameNow]
  rw[this];exact IU hs h hk _ _ _ hm hl
theorem s9(h:XN P t mt e)(b:Bool)(k:Nat×Int):(Instr.checkKey b 10000 t (fT k)).run P w=.ok () w:=by
 obtain⟨f0,f1,hf,o0,o1,n0,n1,u0,u1⟩:=h.fs;have p0:∀x y:Value,(part f0.type #[x,y] f0.offset).run P w=.ok x w:=fun x y=>by
  simp[part,isAgg,kC u0,o0]
 have p1:∀x y:Value,(part f1.type #[x,y] f1.offset).run P w=.ok y w:=fun x y=>by
  simp[part,isAgg,kC u1,o1]
 show(Instr.checkKey b (9998+1+1) t (fT k)).run P w=_;unfold fT;generalize 9998=N;simp[Instr.checkKey,kC hf,n0,n1,p0,p1,kC u0,kC u1]
end
theorem pw {k:Nat×Int}:∀{m:List ((Nat×Int)×Int)} {i:Nat},(zp k m i).map (·.2)=(ky k m).map (Value.int .i64):=by
 intro m
 induction m with
 |nil=>intro i;rfl
 |cons p r ih=>
  intro i;obtain⟨a,v⟩:=p;simp only[zp,ky];by_cases h:k=a
  ·rw[if_pos h,if_pos h.symm];rfl
  ·rw[if_neg h,if_neg (fun e=>h e.symm)];exact ih
theorem Jc {k:Nat×Int}{v:Int}{u:Value}{q:MapEntry}(hq:q.key=fT k)(hv:q.val=.int .i64 v):∀{m:List ((Nat×Int)×Int)} {es:List MapEntry} {i j:Nat},yQ es m->zp k m i=some (j,u)->
 i<=j/\(∃x,es[j - i]? =some x/\x.key=fT k)/\yQ (es.set (j - i) q) (jc k v m):=by
 intro m
 induction m with
 |nil=>intro es i j _ h;cases h
 |cons p r ih=>
  intro es i j hm h;obtain⟨a,w⟩:=p;cases es with
  |nil=>simp[yQ]at hm
  |cons x es=>
   simp only[yQ,Q3,ve,X2]at hm;obtain⟨⟨h1,h2⟩,h3⟩:=hm;simp only[zp]at h;by_cases c:k=a
   ·rw[if_pos c]at h;simp only[X1,X2]at h;obtain⟨rfl,rfl⟩:=h;subst c;refine⟨Qj _,⟨x,Zs,h1⟩,?_⟩;simp only[Qp,List.set_cons_zero,jc,if_true,yQ,Q3,hq,hv,h3]
   ·rw[if_neg c]at h;obtain⟨g1,⟨y,g2,g3⟩,g4⟩:=ih h3 h;have e:j - i=(j - (i+1))+1:=by omega
    refine⟨Zo,⟨y,by rw[e];simpa using g2,g3⟩,?_⟩;rw[e];simp only[QV,jc];rw[if_neg (fun e=>c e.symm)];simp only[yQ,Q3,h1,h2,ve,true_and];exact g4
theorem tg {k:Nat×Int}:∀{m:List ((Nat×Int)×Int)} {i:Nat},zp k m i=none->ky k m=none:=fun {m i} h=>by
 have:=pw (k:=k) (m:=m) (i:=i);rw[h]at this;cases e:ky k m with
 |none=>rfl
 |some x=>rw[e]at this;cases this
theorem az.step {P:Program}{α β:Type}{H:List kB}{K:β->List kB->Prop}{s:Sem α}{f:α->Sem β}{v:α}(h:∀F w,Sat w (H++F)->s.run P w=.ok v w)(k:az P (f v) H K):az P (s >>=f) H K:=
 az.bind (fun F w hs=>⟨v,w,H,h F w hs,k,hs,.refl w⟩)
section
variable {P:Program} {n:Nat} {rs:List RO} {Γ:Env} {H R:SH} {Z:List PanicEntry->Env->SH->Prop} {K:Env->SH->Prop} {d:Option Nat} {t mt e:TypeId}
theorem st_eqp {x y:Operand}{a b:Nat}{i:TypeInfo}(ht:P.underlying t=some (.pointer e))(hi:P.info? e=some i)(hz:i.size≠0)(hx:ev Γ x=some (.pointer (some ⟨a,0,none⟩)))(hy:ev Γ y=some (.pointer (some ⟨b,0,none⟩)))(ha:wO H.flatten a)(hb:wO H.flatten b)
 (h:VO P n rs (ak d (.bool (decide (a=b))) Γ) H Z K):VO P n (⟨d,none,.S0 .eql t x y⟩::rs) Γ H Z K:=by
 exact zB6
theorem Sk {x y:Operand}{a b:Nat}{i:TypeInfo}(ht:P.underlying t=some (.pointer e))(hi:P.info? e=some i)(hz:i.size≠0)(hx:ev Γ x=some (.pointer (some ⟨a,0,none⟩)))(hy:ev Γ y=some (.pointer (some ⟨b,0,none⟩)))(ha:wO H.flatten a)(hb:wO H.flatten b)
 (h:VO P n rs (ak d (.bool (!decide (a=b))) Γ) H Z K):VO P n (⟨d,none,.S0 .neq t x y⟩::rs) Γ H Z K:=by
 exact zB6
theorem Xt {x y:Operand}{k j:Nat×Int}(hT:XN P t mt e)(hx:ev Γ x=some (fT k))(hy:ev Γ y=some (fT j))(ha:wO H.flatten k.1)(hb:wO H.flatten j.1)
 (h:VO P n rs (ak d (.bool (decide (k=j))) Γ) H Z K):VO P n (⟨d,none,.S0 .eql t x y⟩::rs) Γ H Z K:=by
 refine VO.read rfl rfl (fun ρ aG=>⟨_,rfl,fun F w hs=>?_⟩) h;rw[aG _ _ hx,aG _ _ hy];have hm:∀c∈H.flatten,c∈H.flatten++F:=fun c hc=>Zw _ hc
 have h2:=F6 (P:=P) hs hT (ha.more hm) (hb.more hm);rw[Sem.run_bind];have hg:(eqGuard .eql t x y (fT k) (fT j)).run P w=.ok () w:=run_eqGuard_agg w _ t x y _ _ hT.guard;rw[hg];simp only[Result.andThen_ok,Sem.run_bind,Go.binOp,fT]at*;simp[h2]
theorem sr {m x:Operand}{b c:Nat}{es:Array MapEntry}{k:Nat×Int}{l:List ((Nat×Int)×Int)}(hT:XN P t mt e)(hm:ev Γ m=some (.map (some b)))(hx:ev Γ x=some (fT k))
 (ho:uG H b (.map es c)) (hl:yQ es.toList l) (hk:wO H.flatten k.1) (EI:∀p∈l,wO H.flatten p.1.1) (h:VO P n rs (ak d (.int .i64 ((ky k l).getD 0)) Γ) H Z K):VO P n (⟨d,none,.EY mt false m x⟩::rs) Γ H Z K:=by
 refine VO.read rfl rfl (fun ρ aG=>⟨_,rfl,fun F w hs=>?_⟩) h;rw[aG _ _ hm,aG _ _ hx];have eA:∀c∈H.flatten,c∈H.flatten++F:=fun c hc=>Zw _ hc
 obtain⟨it,i,hmt,hi,hiz⟩:=hT.map;have hg:=gu (P:=P) ho.mem hs;have hf:=td (P:=P) hs hT (hk.more eA) hl (fun p hp=>(EI p hp).more eA);have GM:=pw (k:=k) (m:=l) (i:=0);simp only[Instr.lookup,Sem.run_bind,kC hmt,Result.andThen_ok,hg,Sem.run_pure,s9 hT,hf];cases HC:zp k l 0 with
 |none=>
  rw[tg HC];simp[ke hi hiz]
 |some q=>
  obtain⟨j,u⟩:=q;rw[HC]at GM;cases HD:ky k l with
  |none=>rw[HD]at GM;cases GM
  |some z=>
   rw[HD]at GM;simp only[Qz,X1]at GM;simp[GM]
theorem st_allocO {t:TypeId}{z:List Value}(h:∀b,VO P n rs (ak d (.pointer (some ⟨b,0,none⟩)) Γ) ((.own b z.length::kA b 0 z)::H) Z K):VO P n (⟨d,none,.alloc t z⟩::rs) Γ H Z K:=by
 refine VO.act rfl rfl (fun ρ aG=>⟨_,rfl,?_⟩);intro F w hs;refine⟨_,_,(.own w.heap.size z.length::kA w.heap.size 0 z)++H.flatten,rfl,⟨_,(.own w.heap.size z.length::kA w.heap.size 0 z)::H,.inl rfl,?_,h _⟩,?_⟩
 ·simp
 ·have hp:=Sat.push hs (.cells z.toArray t (0,0)) (.own w.heap.size z.length::kA w.heap.size 0 z) (fun x hx=>?_) ?_
  ·rw[vZ];exact hp
  ·have hb:({w with heap:=w.heap.push (.cells z.toArray t (0,0))}:World).heap[w.heap.size]? =some (.cells z.toArray t (0,0)):=by simp
   exact zCT
  ·rw[Q3,QL];refine⟨fun hm=>?_,?_⟩
   ·exact zCK
   ·exact df _ _ _
structure fY (es:Array MapEntry)(c:Nat)(m:List ((Nat×Int)×Int)):Prop where
 of:yQ es.toList m
 born:es.toList.Pairwise fun a b=>a.born < b.born
 clock:∀e∈es.toList,e.born < c
theorem fY.nil:fY #[] 0 []:=⟨rfl,.nil,Zs⟩
theorem fY.push {es:Array MapEntry}{c:Nat}{m:List ((Nat×Int)×Int)}(h:fY es c m){k:Nat×Int}{v:Int}(hn:ky k m=none):fY (es.push {key:=fT k,val:=.int .i64 v,born:=c}) (c+1) (jc k v m):=by
 refine⟨?_,?_,?_⟩
 ·rw[fh hn];have:=h.of;simp only[yQ]at this|-;simp[this]
 ·exact zDM
 ·exact zD3
def NO(es:Array MapEntry)(s:Nat)(k:Nat×Int):Prop:=∃(i:Nat) (e:MapEntry),es[i]? =some e/\e.born=s/\e.key=fT k
theorem MY {es:Array MapEntry}{c:Nat}{m:List ((Nat×Int)×Int)}(h:fY es c m){s:Nat}{k:Nat×Int}(hs:NO es s k):∃(i:Nat) (e:MapEntry),es.findIdx? (fun e=>((e.born:Int)==(s:Int)))=some i/\es[i]? =some e/\e.key=fT k:=by
 obtain⟨i,e,he,hb,hk⟩:=hs;have hl:=(v8.1 he).1;refine⟨i,e,?_,he,hk⟩;rw[Array.findIdx?_eq_some_iff_getElem];have hei:es[i]=e:=by rw[v7 hl]at he;exact X0 he
 refine⟨hl,by simp[hei,hb],fun j hj=>?_⟩;have hp:=List.pairwise_iff_getElem.1 h.born j i (by simpa using Nat.lt_trans hj hl) (by simpa using hl) hj;simp only[Array.getElem_toList]at hp;rw[hei,hb]at hp;have:((es[j].born:Int)==(s:Int))=false:=by
  rw[beq_eq_false_iff_ne];omega
 simp[this]
theorem fY.at_ {es:Array MapEntry}{c:Nat}{m:List ((Nat×Int)×Int)}(h:fY es c m){k:Nat×Int}{v:Int}{i:Nat}{e:MapEntry}(he:es[i]? =some e)(hk:e.key=fT k)(hu:(m.map (·.1)).Nodup):
 fY (es.modify i fun e=>{e with val:=.int .i64 v}) c (jc k v m):=by
 have hl:=(v8.1 he).1;have hei:es[i]=e:=by rw[v7 hl]at he;exact X0 he
 have hle:(es.modify i fun e=>{e with val:=.int .i64 v}).toList=es.toList.set i {e with val:=.int .i64 v}:=by
  apply vm;intro j;rw[vC,vA,Vl];by_cases hj:i=j
  ·subst hj;simp[hl,hei]
  ·simp[hj]
 have Et:(es.toList.set i {e with val:=.int .i64 v}).map MapEntry.born=es.toList.map MapEntry.born:=by
  apply vm;intro j;simp only[Vi,Vl];by_cases hj:i=j
  ·subst hj;simp[hl,hei]
  ·simp[hj]
 have xz:∀(es:List MapEntry) (m:List ((Nat×Int)×Int)) (i:Nat),yQ es m->es[i]? =some e->(m.map (·.1)).Nodup->yQ (es.set i {e with val:=.int .i64 v}) (jc k v m):=by
  intro es
  induction es with
  |nil=>intro m i _ h;simp at h
  |cons x es ih=>
   intro m i hm hx hn;cases m with
   |nil=>simp[yQ]at hm
   |cons p r=>
    obtain⟨a,w⟩:=p;simp only[yQ,Q3,ve,X2]at hm;obtain⟨⟨h1,h2⟩,h3⟩:=hm;have hthV:∀a b:Nat×Int,fT a=fT b->a=b:=fun a b hab=>by
     simp only[fT,Value.agg.injEq]at hab;simp at hab;exact Prod.ext hab.1 hab.2
    simp only[Q3,QL]at hn;cases i with
    |zero=>
     obtain rfl:x=e:=by simpa using hx
     have:a=k:=hthV _ _ (h1.symm.trans hk);subst this;simp only[List.set_cons_zero,jc,if_true,yQ,Q3,h1,h3]
    |succ i=>
     have ob:es[i]? =some e:=by simpa using hx
     have cF:a≠k:=by
      rintro rfl
      have:(e.key,e.val)∈es.map (fun e=>(e.key,e.val)):=QE.2 ⟨e,Zv ob,rfl⟩;rw[h3]at this;obtain⟨q,hq,l7⟩:=QE.1 this;simp only[X2]at l7;exact hn.1 (QE.2 ⟨q,hq,hthV _ _ (l7.1.trans hk)⟩)
     simp only[QV,jc];rw[if_neg cF];simp only[yQ,Q3,h1,h2,ve,true_and];exact ih r i h3 ob hn.2
 refine⟨?_,?_,?_⟩
 ·rw[hle];exact xz _ _ _ h.of (by simpa using he) hu
 ·rw[hle];have hp:=h.born;have e1:∀l:List MapEntry,l.Pairwise (fun a b=>a.born < b.born)↔(l.map MapEntry.born).Pairwise (·< ·):=fun l=>List.pairwise_map.symm
  rw[e1]at hp|-;rw[Et];exact hp
 ·rw[hle];intro x hx;have:x.born∈(es.toList.set i {e with val:=.int .i64 v}).map MapEntry.born:=QE.2 ⟨x,hx,rfl⟩;rw[Et]at this;obtain⟨y,hy,hyb⟩:=QE.1 this;rw[<- hyb];exact h.clock y hy
theorem Kr {m x:Operand}{b c:Nat}{es:Array MapEntry}{k:Nat×Int}{l:List ((Nat×Int)×Int)}(hT:XN P t mt e)(hm:ev Γ m=some (.map (some b)))(hx:ev Γ x=some (fT k))
 (ht:Tk H [.obj b (.map es c)] R) (hl:fY es c l) (hk:wO R.flatten k.1) (EI:∀p∈l,wO R.flatten p.1.1)
 (h:∀cp c' s,fY cp c' (if(ky k l).isSome then l else jc k 0 l)->NO cp s k->c'<=c+1->VO P n rs (ak d (.tuple #[.int .i64 ((ky k l).getD 0),.int .i64 s]) Γ) ([.obj b (.map cp c')]::R) Z K):VO P n (⟨d,none,.ment mt m x⟩::rs) Γ H Z K:=by
 refine VO.act rfl rfl (fun ρ aG=>⟨_,rfl,?_⟩);rw[aG _ _ hm,aG _ _ hx];refine az.perm ht.perm ?_;obtain⟨it,i,hmt,hi,hiz⟩:=hT.map;have eA:∀(F:List kB) (c':kB),c'∈R.flatten->c'∈([kB.obj b (.map es c)]++R.flatten)++F:=fun F c' h'=>Zw _ (Q8 _ h')
 refine az.bind ?_;unfold Instr.mapEntry;refine az.step (v:=.map t it) (fun F w _=>kC hmt) ?_;simp only;refine az.bind (az.getObj (o:=.map es c) Zs ?_);simp only;refine az.step (v:=()) (fun F w _=>s9 hT false k) ?_;refine az.step (v:=zp k l 0) (fun F w hs=>td hs hT (hk.more (eA F)) hl.of (fun p hp=>(EI p hp).more (eA F))) ?_;have GM:=pw (k:=k) (m:=l) (i:=0);cases hf:zp k l 0 with
 |none=>
  have hn:=tg hf;refine az.step (v:=.int .i64 0) (fun F w _=>ke hi hiz) ?_;refine az.bind (az.setObj rfl (az.pure (az.pure ⟨_,[.obj b (.map (es.push {key:=fT k,val:=.int .i64 0,born:=c}) (c+1))]::R,.inl rfl,?_,?_⟩)))
  ·simp
  ·have:=h (es.push {key:=fT k,val:=.int .i64 0,born:=c}) (c+1) c (by rw[hn];exact hl.push hn) ⟨es.size,{key:=fT k,val:=.int .i64 0,born:=c},Zs,rfl,rfl⟩ (Qj _);rw[hn]at this;exact this
 |some q=>
  obtain⟨j,u⟩:=q;obtain⟨_,⟨z,hz,UX⟩,_⟩:=Jc (q:=⟨fT k,.int .i64 0,0⟩) rfl rfl hl.of hf;simp only[Nat.sub_zero]at hz;have HY:es[j]? =some z:=by simpa using hz
  rw[hf]at GM;cases HD:ky k l with
  |none=>rw[HD]at GM;cases GM
  |some y=>
  rw[HD]at GM;simp only[Qz,X1]at GM;have Z3:((es[j]?).map (·.key)).getD (fT k)=fT k:=by simp[HY,UX]
  refine az.bind (Kt _ _ (fun kk iy=>?_));have Z4:kk=fT k:=by rcases iy with h'|h';rw[h',Z3];exact h'
  subst Z4;have J2:(es.modify j fun e=>{e with key:=fT k})=es:=by
   apply Array.ext_getElem?;intro i;rw[vA];by_cases Ey:j=i
   ·subst Ey;rw[HY];simp;rw[<- UX]
   ·simp[Ey]
  rw[J2];have hb:z.born < c:=hl.clock z (by have:=Zv hz;exact this);refine az.bind (az.setObj rfl (az.pure (az.pure ⟨_,[.obj b (.map es c)]::R,.inl rfl,?_,?_⟩)))
  ·simp
  ·have:=h es c z.born (by rw[HD];exact hl) ⟨j,z,HY,rfl,UX⟩ (Qk _);rw[HD]at this;have e2:goInt (((es[j]?).map (·.born)).getD 0)=.int .i64 (z.born:Int):=by
    rw[HY];rfl
   rw[e2,GM];exact this
theorem Sj {m x y:Operand}{b c s:Nat}{es:Array MapEntry}{k:Nat×Int}{v:Int}{l:List ((Nat×Int)×Int)}(hm:ev Γ m=some (.map (some b)))(hx:ev Γ x=some (.int .i64 s))(hy:ev Γ y=some (.int .i64 v))
 (ht:Tk H [.obj b (.map es c)] R) (hl:fY es c l) (hs:NO es s k) (hu:(l.map (·.1)).Nodup)
 (h:∀cp,fY cp c (jc k v l)->VO P n rs (ak d undef Γ) ([.obj b (.map cp c)]::R) Z K):VO P n (⟨d,none,.mst mt m x y⟩::rs) Γ H Z K:=by
 refine VO.act rfl rfl (fun ρ aG=>⟨_,rfl,?_⟩);rw[aG _ _ hm,aG _ _ hx,aG _ _ hy];refine az.perm ht.perm ?_;obtain⟨i,z,h1,h2,h3⟩:=MY hl hs;refine az.bind ?_;unfold Instr.entryStore;simp only;refine az.bind (az.getObj (o:=.map es c) Zs ?_);simp only;refine az.step (v:=(s:Int)) (fun F w _=>by simp[asInt,asIntOf]) ?_;rw[h1];refine(az.setObj rfl (az.pure ⟨undef,[.obj b (.map (es.modify i fun e=>{e with val:=.int .i64 v}) c)]::R,.inr ⟨rfl,rfl⟩,?_,h _ (hl.at_ h2 h3 hu)⟩));simp
theorem Xr {t:TypeId}{x:Operand}{u:Value}(hx:ev Γ x=some u)(h:∀b,VO P n rs (ak d (.pointer (some ⟨b,0,none⟩)) Γ) ((.own b u.cells.toList.length::kA b 0 u.cells.toList)::H) Z K):VO P n (⟨d,none,.box t x⟩::rs) Γ H Z K:=by
 refine VO.act rfl rfl (fun ρ aG=>⟨_,rfl,?_⟩);rw[aG _ _ hx];intro F w hs;refine⟨_,_,(.own w.heap.size u.cells.toList.length::kA w.heap.size 0 u.cells.toList)++H.flatten,rfl,⟨_,(.own w.heap.size u.cells.toList.length::kA w.heap.size 0 u.cells.toList)::H,.inl rfl,?_,h _⟩,?_⟩
 ·simp
 ·have hp:=Sat.push hs (.cells u.cells t (0,0)) (.own w.heap.size u.cells.toList.length::kA w.heap.size 0 u.cells.toList) (fun x hx=>?_) ?_
  ·rw[vZ];exact hp
  ·have hb:({w with heap:=w.heap.push (.cells u.cells t (0,0))}:World).heap[w.heap.size]? =some (.cells u.cells t (0,0)):=by simp
   exact zCT
  ·rw[Q3,QL];refine⟨fun hm=>?_,df _ _ _⟩;exact zCK
end
structure UC where
 q:Nat
 args:Nat
 locals:Nat
 ay:Nat
 outer:Option Nat
 num:Nat
 ab:List Nat
 tv:Value
 ic:List Value
 nb:Nat
 es:Array MapEntry
 cl:Nat
 de:List (Nat×Int)
 cv:Value
 bZ:List Value
 body:Value
structure au where
 q:Nat
 unit:Nat
 arg:Int
 fixed:Bool
 remote:Bool
 slot:Nat
def kL:Option Nat->Value
 |some b=>.pointer (some ⟨b,0,none⟩)
 |none=>.pointer none
def jP(t:Nat×Int):List Value:=[.pointer (some ⟨t.1,0,none⟩),.int .i64 t.2]
def UC.row(u:UC):List Value:=[.int .i64 u.args,.int .i64 u.locals,.int .i64 u.ay,kL u.outer,.int .i64 u.num,u.tv,.map (some u.nb),u.cv,u.body]
def UC.atoms(u:UC):List kB:=.own u.q 9::(kA u.q 0 u.row++(ai u.tv (u.ab.map fun b=>kL (some b)) u.ic++(ai u.cv (u.de.flatMap jP) u.bZ++[.obj u.nb (.map u.es u.cl)])))
def au.row(v:au):List Value:=[kL (some v.unit),.int .i64 v.arg,.bool v.fixed,.bool v.remote,.int .i64 v.slot]
def au.atoms(v:au):List kB:=kA v.q 0 v.row
def WK(U:List UC)(V:List au):List kB:=U.flatMap UC.atoms++V.flatMap au.atoms
theorem ir {α β:Type}(f:α->List β){l:List α}{i:Nat}{x:α}(h:l[i]? =some x):∃R,∀y,((l.set i y).flatMap f).Perm (f y++R):=by
 induction l generalizing i with
 |nil=>simp at h
 |cons a l ih=>
  cases i with
  |zero=>
   exact⟨l.flatMap f,fun y=>by simp⟩
  |succ i=>
   obtain⟨R,hR⟩:=ih (i:=i) (by simpa using h);refine⟨f a++R,fun y=>?_⟩;simp only[QV,vy];refine(vU _ (hR y)).trans ?_;exact zAV
theorem wt {α:Type}{l:List α}{i:Nat}{x:α}(h:l[i]? =some x):l.set i x=l:=by
 apply vm;intro k;rw[Vl];by_cases e:i=k
 ·subst e;have:=(Vh.1 h).1;rw[if_pos rfl,if_pos this,h]
 ·rw[if_neg e]
theorem XI {U:List UC}{V:List au}{i:Nat}{u:UC}(h:U[i]? =some u):∃R,(WK U V).Perm (u.atoms++R)/\∀u',(WK (U.set i u') V).Perm (u'.atoms++R):=by
 obtain⟨R,hR⟩:=ir UC.atoms h;have hr:∀u',(WK (U.set i u') V).Perm (u'.atoms++(R++V.flatMap au.atoms)):=fun u'=>by
  unfold WK;rw[<- vZ];exact vV _ (hR u')
 refine⟨R++V.flatMap au.atoms,?_,hr⟩;have:=hr u
 rwa [wt h]at this
theorem wk_var {U:List UC}{V:List au}{i:Nat}{v:au}(h:V[i]? =some v):∃R,(WK U V).Perm (v.atoms++R)/\∀v',(WK U (V.set i v')).Perm (v'.atoms++R):=by
 obtain⟨R,hR⟩:=ir au.atoms h;have hr:∀v',(WK U (V.set i v')).Perm (v'.atoms++(U.flatMap UC.atoms++R)):=fun v'=>by
  unfold WK;refine(vU _ (hR v')).trans ?_;exact zAV
 refine⟨U.flatMap UC.atoms++R,?_,hr⟩;have:=hr v
 rwa [wt h]at this
theorem za {U:List UC}{V:List au}{i:Nat}{u:UC}(h:U[i]? =some u):∀x∈u.atoms,x∈WK U V:=fun _ hx=>Zw _ (QD.2 ⟨u,Zv h,hx⟩)
theorem iU {U:List UC}{V:List au}{i:Nat}{v:au}(h:V[i]? =some v):∀x∈v.atoms,x∈WK U V:=fun _ hx=>Q8 _ (QD.2 ⟨v,Zv h,hx⟩)
theorem fV {U:List UC}{V:List au}{i:Nat}{u:UC}(h:U[i]? =some u):wO (WK U V) u.q:=
 ⟨⟨9,za h _ (QB ..)⟩,⟨_,za h _ (QA _ (Zw _ (kH.2 ⟨0,_,rfl,rfl⟩)))⟩⟩
theorem SS(U:List UC)(V:List au)(u:UC):(WK (U++[u]) V).Perm (u.atoms++WK U V):=by
 unfold WK;rw[vx,V0,vZ,<- vZ];refine(vV _ QN).trans ?_;rw[vZ]
theorem Gx(U:List UC)(V:List au)(v:au):(WK U (V++[v])).Perm (v.atoms++WK U V):=by
 unfold WK;rw[vx,V0,<- vZ];exact QN
def yM:au:=⟨0,0,0,false,false,0⟩
def ah.ab(st:ah)(i:Nat):List Nat:=(List.range st.vars.length).filter fun v=>decide (st.af v=i)&&decide (st.bD v < 0)
structure cm (st:ah)(nf:Nat->Nat×Int->Bool)(rf:Nat->Bool)(N:Nat->Nat)(U:List UC)(V:List au):Prop where
 wf:Wf st
 ul:U.length=st.outer.length
 vl:V.length=st.vars.length
 inj:(U.map UC.q).Nodup
 un:∀(i:Nat) u,U[i]? =some u->u.args=st.args.getD i 0/\u.locals=0/\u.ay=0/\u.num=i/\u.de=[]/\u.cv=Nz/\u.bZ=[]
 ou:∀(i:Nat) u,U[i]? =some u->u.outer=(if st.outer.getD i (-1) < 0 then none else(U[(st.outer.getD i (-1)).toNat]?).map UC.q)
 tm:∀(i:Nat) u,U[i]? =some u->u.ab=(st.ab i).map (fun v=>(V.getD v yM).q)/\kY 1 u.tv u.ab.length (u.ab.map fun b=>kL (some b)) u.ic
 nd:∀(i:Nat) u,U[i]? =some u->∃m:List ((Nat×Int)×Int),fY u.es u.cl m/\(m.map (·.1)).Nodup/\(∀p∈m,(∃(j:Nat) (w:UC),U[j]? =some w/\p.1.1=w.q)/\0 < p.2/\p.2<=N i)/\
  ∀(j:Nat) (w:UC) (a:Int),U[j]? =some w->((ky (w.q,a) m).isSome=true↔nf i (j,a)=true)
 vn:∀(v:Nat) x y,st.vars[v]? =some x->V[v]? =some y->(∃w,U[x.unit]? =some w/\y.unit=w.q)/\y.arg=x.own/\y.fixed=x.arg/\y.remote=rf v/\y.slot=0
def cy(st:ah)(U:List UC)(V:List au):Prop:=cm st st.bg st.rem (fun _=>st.uses.length) U V
theorem Dw {U:List UC}{V:List au}{i:Nat}{u:UC}(h:U[i]? =some u){X Y:List kB}(hx:u.atoms.Perm (X++Y)):∃R,(WK U V).Perm (X++R)/\∀u' X',u'.atoms.Perm (X'++Y)->(WK (U.set i u') V).Perm (X'++R):=by
 obtain⟨R,h1,h2⟩:=XI (V:=V) h;exact zCP
theorem SR {U:List UC}{V:List au}{i:Nat}{v:au}(h:V[i]? =some v){X Y:List kB}(hx:v.atoms.Perm (X++Y)):∃R,(WK U V).Perm (X++R)/\∀v' X',v'.atoms.Perm (X'++Y)->(WK U (V.set i v')).Perm (X'++R):=by
 obtain⟨R,h1,h2⟩:=wk_var (U:=U) h;exact zCP
theorem SQ {U:List UC}{V:List au}{i:Nat}{u:UC}(h:U[i]? =some u):∃R,(WK U V).Perm ([.obj u.nb (.map u.es u.cl)]++R)/\∀cp nN,(WK (U.set i {u with es:=cp,cl:=nN}) V).Perm ([.obj u.nb (.map cp nN)]++R):=by
 have hx:∀cp nN,({u with es:=cp,cl:=nN}:UC).atoms.Perm ([.obj u.nb (.map cp nN)]++(.own u.q 9::(kA u.q 0 u.row++(ai u.tv (u.ab.map fun b=>kL (some b)) u.ic++ai u.cv (u.de.flatMap jP) u.bZ)))):=fun cp nN=>by
  unfold UC.atoms;show(kB.own u.q 9::(kA u.q 0 u.row++(ai u.tv (u.ab.map fun b=>kL (some b)) u.ic++(ai u.cv (u.de.flatMap jP) u.bZ++[.obj u.nb (.map cp nN)])))).Perm _;rw[<- vZ,<- vZ,<- vZ,<- vf];refine QN.trans ?_;simp only[vZ];exact vW _
 obtain⟨R,h1,h2⟩:=Dw (V:=V) h (hx u.es u.cl);exact⟨R,h1,fun cp nN=>h2 _ _ (hx cp nN)⟩
theorem Na {U:List UC}{V:List au}{i:Nat}{v:au}(h:V[i]? =some v):∃R,(WK U V).Perm (kA v.q 3 [.bool v.remote]++R)/\∀b,(WK U (V.set i {v with remote:=b})).Perm (kA v.q 3 [.bool b]++R):=by
 have hx:∀b,({v with remote:=b}:au).atoms.Perm (kA v.q 3 [.bool b]++(kA v.q 0 [kL (some v.unit),.int .i64 v.arg,.bool v.fixed]++kA v.q 4 [.int .i64 v.slot])):=fun b=>by
  unfold au.atoms au.row;simp only[kA,vf,QJ];exact(List.Perm.swap _ _ _).trans (vW _)|>.trans (by
   refine List.Perm.trans (List.Perm.swap _ _ _) ?_;exact QR (l₁:=[_,_,_])|>.trans (vW _))
 obtain⟨R,h1,h2⟩:=SR (U:=U) h (hx v.remote);exact⟨R,h1,fun b=>h2 _ _ (hx b)⟩
theorem fW {A R X:List kB}(hp:A.Perm (X++R)){x:kB}(hx:x∈A)(hn:x∉X):x∈R:=by
 rcases Q7.1 (hp.mem_iff.1 hx)with h|h
 ·exact absurd h hn
 ·exact h
theorem cm.congr {st:ah}{nf nf':Nat->Nat×Int->Bool}{rf rf':Nat->Bool}{N N':Nat->Nat}{U:List UC}{V:List au}(h:cm st nf rf N U V)(hn:∀i t,nf' i t=nf i t)(hr:∀v,rf' v=rf v)(hN:∀i,N i<=N' i):cm st nf' rf' N' U V:=by
 refine⟨h.wf,h.ul,h.vl,h.inj,h.un,h.ou,h.tm,fun i u hu=>?_,fun v x y hx hy=>?_⟩
 ·obtain⟨m,h1,h2,h3,h4⟩:=h.nd i u hu;exact⟨m,h1,h2,fun p hp=>⟨(h3 p hp).1,(h3 p hp).2.1,by have:=(h3 p hp).2.2;have:=hN i;omega⟩,fun j w a hw=>by rw[hn];exact h4 j w a hw⟩
 ·rw[hr];exact h.vn v x y hx hy
theorem iK {α:Type}{l:List α}{c:Nat}{x y:α}(hc:l[c]? =some x){i:Nat}{z:α}(h:(l.set c y)[i]? =some z):(i=c/\z=y)∨(i≠c/\l[i]? =some z):=by
 rw[Vl]at h;by_cases e:c=i
 ·subst e;rw[if_pos rfl,if_pos (Vh.1 hc).1]at h;exact .inl ⟨rfl,(X0 h).symm⟩
 ·rw[if_neg e]at h;exact .inr ⟨fun e'=>e e'.symm,h⟩
theorem zD {U:List UC}{c:Nat}{w w':UC}(hc:U[c]? =some w)(hq:w'.q=w.q):(U.set c w').map UC.q=U.map UC.q:=by
 rw[List.map_set,hq];exact wt (by rw[Vi,hc];rfl)
theorem rX {U:List UC}{c:Nat}{w w':UC}(hc:U[c]? =some w)(hq:w'.body=w.body):(U.set c w').map UC.body=U.map UC.body:=by
 rw[List.map_set,hq];exact wt (by rw[Vi,hc];rfl)
theorem Cr {U U':List UC}(h:U'.map UC.q=U.map UC.q)(i:Nat):(U'[i]?).map UC.q=(U[i]?).map UC.q:=by
 have:=congrArg (fun l=>l[i]?) h;simpa using this
theorem cm.RQ {st:ah}{nf:Nat->Nat×Int->Bool}{rf:Nat->Bool}{N:Nat->Nat}{U:List UC}{V:List au}(h:cm st nf rf N U V){i j:Nat}{u w:UC}(hi:U[i]? =some u)(hj:U[j]? =some w)(e:u.q=w.q):i=j:=by
 have h1:(U.map UC.q)[i]? =some u.q:=by rw[Vi,hi];rfl
 have h2:(U.map UC.q)[j]? =some u.q:=by rw[Vi,hj,e];rfl
 have hl:=(Vh.1 h1).1;have dz:=(Vh.1 h2).1;have e1:(U.map UC.q)[i]=(U.map UC.q)[j]:=by
  rw[Zg hl]at h1;rw[Zg dz]at h2;rw[X0 h1,X0 h2]
 have hp:=List.pairwise_iff_getElem.1 h.inj;rcases Nat.lt_trichotomy i j with c|c|c
 ·exact absurd e1 (hp i j hl dz c)
 ·exact c
 ·exact absurd e1.symm (hp j i dz hl c)
theorem cm.put {st:ah}{nf:Nat->Nat×Int->Bool}{rf:Nat->Bool}{N:Nat->Nat}{U:List UC}{V:List au}(h:cm st nf rf N U V){c j0:Nat}{w x0:UC}{a:Int}(hc:U[c]? =some w)(hx:U[j0]? =some x0){m:List ((Nat×Int)×Int)}
 (hu:(m.map (·.1)).Nodup) (hm:∀p∈m,(∃(j:Nat) (w:UC),U[j]? =some w/\p.1.1=w.q)/\0 < p.2/\p.2<=N c) (hn:∀(j:Nat) (w:UC) (a:Int),U[j]? =some w->((ky (w.q,a) m).isSome=true↔nf c (j,a)=true))
 {n:Int} {cp:Array MapEntry} {nN:Nat} (ly:fY cp nN (jc (x0.q,a) n m)) (hn0:0 < n) (Nl:n<=N c+1):
 cm st (fun i t=>nf i t||(decide ((j0,a)=t)&&decide (i=c))) rf (fun i=>N i+(if i=c then 1 else 0)) (U.set c {w with es:=cp,cl:=nN}) V:=by
 have hq:=zD (w':={w with es:=cp,cl:=nN}) hc rfl;have Lk:=Cr hq;have aC:∀{i:Nat} {u:UC},(U.set c {w with es:=cp,cl:=nN})[i]? =some u->∃u0,U[i]? =some u0/\(u=u0∨(i=c/\u={u0 with es:=cp,cl:=nN})):=fun {i u} hi=>by
  rcases iK hc hi with⟨rfl,rfl⟩|⟨_,h'⟩
  ·exact⟨w,hc,.inr ⟨rfl,rfl⟩⟩
  ·exact⟨u,h',.inl rfl⟩
 refine⟨h.wf,by rw[Vx];exact h.ul,h.vl,by rw[hq];exact h.inj,fun i u hi=>?_,fun i u hi=>?_,fun i u hi=>?_,fun i u hi=>?_,fun v x y hvx hvy=>?_⟩
 ·obtain⟨u0,h0,e|⟨_,e⟩⟩:=aC hi
  ·rw[e];exact h.un i u0 h0
  ·rw[e];exact h.un i u0 h0
 ·rw[Lk];obtain⟨u0,h0,e|⟨_,e⟩⟩:=aC hi
  ·rw[e];exact h.ou i u0 h0
  ·rw[e];exact h.ou i u0 h0
 ·obtain⟨u0,h0,e|⟨_,e⟩⟩:=aC hi
  ·rw[e];exact h.tm i u0 h0
  ·rw[e];exact h.tm i u0 h0
 ·have ej:∀{j:Nat} {u:UC},U[j]? =some u->∃u',(U.set c {w with es:=cp,cl:=nN})[j]? =some u'/\u'.q=u.q:=fun {j u} hj=>by
   have:=Lk j;rw[hj]at this;cases e:(U.set c {w with es:=cp,cl:=nN})[j]? with
   |none=>rw[e]at this;cases this
   |some u'=>rw[e]at this;exact⟨u',rfl,X0 this⟩
  have Lj:∀{j:Nat} {u:UC},(U.set c {w with es:=cp,cl:=nN})[j]? =some u->∃u',U[j]? =some u'/\u.q=u'.q:=fun {j u} hj=>by
   obtain⟨u0,h0,e|⟨_,e⟩⟩:=aC hj
   ·exact⟨u0,h0,by rw[e]⟩
   ·exact⟨u0,h0,by rw[e]⟩
  rcases iK hc hi with⟨rfl,rfl⟩|⟨cF,h'⟩
  ·refine⟨_,ly,oV hu,fun p hp=>?_,fun j w1 a1 hj=>?_⟩
   ·rcases E4 hp with rfl|hp
    ·obtain⟨u',h1,h2⟩:=ej hx;exact⟨⟨j0,u',h1,h2.symm⟩,hn0,by rw[if_pos rfl];omega⟩
    ·obtain⟨⟨j,w1,h1,h2⟩,h3,h4⟩:=hm p hp;obtain⟨u',h5,h6⟩:=ej h1;exact⟨⟨j,u',h5,h2.trans h6.symm⟩,h3,by rw[if_pos rfl];omega⟩
   ·obtain⟨u',h5,h6⟩:=Lj hj;rw[jv,h6];have hk:((x0.q,a)=(u'.q,a1))↔((j0,a)=(j,a1)):=by
     simp only[X2];constructor
     ·rintro⟨e1,e2⟩;exact⟨h.RQ hx h5 e1,e2⟩
     ·rintro⟨e1,e2⟩
      subst e1;rw[hx]at h5;exact⟨by rw[X0 h5],e2⟩
    by_cases e:(j0,a)=(j,a1)
    ·rw[if_pos (hk.2 e)];simp[e]
    ·rw[if_neg (fun e'=>e (hk.1 e'))];simp only[e,decide_false,vI,vQ];exact hn j u' a1 h5
  ·obtain⟨m',h1,h2,h3,h4⟩:=h.nd i u h';refine⟨m',h1,h2,fun p hp=>?_,fun j w1 a1 hj=>?_⟩
   ·obtain⟨⟨j,w1,h5,h6⟩,h7,h8⟩:=h3 p hp;obtain⟨u',h9,Dz⟩:=ej h5;exact⟨⟨j,u',h9,h6.trans Dz.symm⟩,h7,by simp only[if_neg cF];omega⟩
   ·obtain⟨u',h5,h6⟩:=Lj hj;rw[h6,h4 j u' a1 h5];simp[cF]
 ·obtain⟨⟨u,h1,h2⟩,h3⟩:=h.vn v x y hvx hvy;refine⟨?_,h3⟩;have:=Lk x.unit;rw[h1]at this;cases e:(U.set c {w with es:=cp,cl:=nN})[x.unit]? with
  |none=>rw[e]at this;cases this
  |some u'=>rw[e]at this;exact⟨u',rfl,h2.trans (X0 this).symm⟩
theorem cm.far {st:ah}{nf:Nat->Nat×Int->Bool}{rf:Nat->Bool}{N:Nat->Nat}{U:List UC}{V:List au}(h:cm st nf rf N U V){v:Nat}{y:au}(hv:V[v]? =some y):
 cm st nf (fun w=>rf w||decide (v=w)) N U (V.set v {y with remote:=true}):=by
 have hq:∀w,((V.set v {y with remote:=true}).getD w yM).q=(V.getD w yM).q:=fun w=>by
  rw[V8,V8,Vl];by_cases e:v=w
  ·subst e;rw[if_pos rfl,if_pos (Vh.1 hv).1,hv];rfl
  ·rw[if_neg e]
 refine⟨h.wf,h.ul,by rw[Vx];exact h.vl,h.inj,h.un,h.ou,fun i u hi=>?_,h.nd,fun w x z hx hz=>?_⟩
 ·obtain⟨h1,h2⟩:=h.tm i u hi;refine⟨?_,h2⟩;rw[h1];exact Q1 fun w _=>(hq w).symm
 ·rcases iK hv hz with⟨rfl,rfl⟩|⟨cF,h'⟩
  ·obtain⟨h1,h2,h3,h4,h5⟩:=h.vn w x y hx hv;exact⟨h1,h2,h3,Zs,h5⟩
  ·obtain⟨h1,h2,h3,h4,h5⟩:=h.vn w x z hx h';refine⟨h1,h2,h3,?_,h5⟩;rw[h4];have:decide (v=w)=false:=Zf (fun e=>cF e.symm);rw[this,vQ]
theorem cm.useS {st:ah}{nf:Nat->Nat×Int->Bool}{rf:Nat->Bool}{N:Nat->Nat}{U:List UC}{V:List au}(h:cm st nf rf N U V){u v:Nat}(hu:u < st.outer.length)(hv:v < st.vars.length):cm (st.use u v) nf rf N U V:=
 ⟨h.wf.use hu hv,h.ul,h.vl,h.inj,h.un,h.ou,h.tm,h.nd,h.vn⟩
def lP(st:ah)(v:Nat)(l:List Nat)(i:Nat)(t:Nat×Int):Bool:=st.bg i t||(decide ((st.af v,st.bD v)=t)&&decide (i∈l))
theorem AN(st:ah)(v i:Nat)(t:Nat×Int):lP st v [] i t=st.bg i t:=by simp[lP]
theorem Hk(st:ah)(v:Nat)(l:List Nat)(c i:Nat)(t:Nat×Int):lP st v (l++[c]) i t=(lP st v l i t||(decide ((st.af v,st.bD v)=t)&&decide (i=c))):=by
 unfold lP;rw[vN,<- Bool.and_or_distrib_left]
 congr 2
 rw[<- Bool.decide_or];simp
theorem KR(st:ah)(v u i:Nat)(t:Nat×Int):(st.use u v).bg i t=lP st v (st.way u v) i t:=E8 st u v i t
theorem MZ(st:ah)(x:eQ)(i:Nat):(st.aZ x).ab i=st.ab i++(if x.unit=i/\x.own < 0 then [st.vars.length]else []):=by
 unfold ah.ab;have hl:(st.aZ x).vars.length=st.vars.length+1:=by unfold ah.aZ;simp
 rw[hl,List.range_succ,vp]
 congr 1
 ·refine List.filter_congr fun v hv=>?_
  have:=QG.1 hv;rw[cV st x this,sd st x this]
 ·have e1:(st.aZ x).af st.vars.length=x.unit:=by unfold ah.af ah.aZ;simp
  have e2:(st.aZ x).bD st.vars.length=x.own:=by unfold ah.bD ah.aZ;simp
  simp only[vq,List.filter_nil,e1,e2];by_cases h1:x.unit=i <;> by_cases h2:x.own < 0 <;> simp[h1,h2]
theorem yJ {st:ah}{i v:Nat}(h:v∈st.ab i):v < st.vars.length:=by
 unfold ah.ab at h;exact QG.1 (QC.1 h).1
theorem cm.aZ {st:ah}{U U':List UC}{V:List au}(h:cy st U V){x:eQ}{y:au}{i:Nat}{u u':UC}(hx:x.unit=i)(hu:U[i]? =some u)(ho:-1<=x.own/\x.own < st.args.getD i 0)
 (hy:y.unit=u.q/\y.arg=x.own/\y.fixed=x.arg/\y.remote=false/\y.slot=0) (hU:U'=U.set i u') (n9:u'={u with ab:=u'.ab,tv:=u'.tv,ic:=u'.ic}) (ht:u'.ab=u.ab++(if x.own < 0 then [y.q]else [])) (hs:kY 1 u'.tv u'.ab.length (u'.ab.map fun b=>kL (some b)) u'.ic):
 cy (st.aZ x) U' (V++[y]):=by
 have hq':u'.q=u.q:=by rw[n9]
 have GP:U'.map UC.q=U.map UC.q:=by rw[hU];exact zD hu hq'
 have Lk:=Cr GP;have cf:i < st.outer.length:=by have:=(Vh.1 hu).1;rw[h.ul]at this;exact this
 have aC:∀{j:Nat} {w:UC},U'[j]? =some w->(j≠i/\U[j]? =some w)∨(j=i/\w=u'):=fun {j w} hj=>by
  rw[hU]at hj;rcases iK hu hj with⟨rfl,rfl⟩|⟨h1,h2⟩
  ·exact .inr ⟨rfl,rfl⟩
  ·exact .inl ⟨h1,h2⟩
 have ej:∀{j:Nat} {w:UC},U[j]? =some w->∃w',U'[j]? =some w'/\w'.q=w.q:=fun {j w} hj=>by
  have:=Lk j;rw[hj]at this;cases e:U'[j]? with
  |none=>rw[e]at this;cases this
  |some w'=>rw[e]at this;exact⟨w',rfl,X0 this⟩
 have Lj:∀{j:Nat} {w:UC},U'[j]? =some w->∃w',U[j]? =some w'/\w.q=w'.q:=fun {j w} hj=>by
  rcases aC hj with⟨_,h'⟩|⟨rfl,rfl⟩
  ·exact⟨w,h',rfl⟩
  ·exact⟨u,hu,hq'⟩
 have hold:∀{v:Nat},v < st.vars.length->(V++[y]).getD v yM=V.getD v yM:=fun {v} hv=>cB (by rw[h.vl];exact hv)
 have tE:(V++[y]).getD st.vars.length yM=y:=by
  rw[V8,Va (by rw[h.vl];exact Qj _),h.vl,Qp];rfl
 refine⟨h.wf.aZ (by rw[hx];exact cf) (by rw[hx];exact ho),by rw[hU,Vx];exact h.ul,?_,by rw[GP];exact h.inj,fun j w hj=>?_,fun j w hj=>?_,fun j w hj=>?_,fun j w hj=>?_,fun v a b ha hb=>?_⟩
 ·show(V++[y]).length=(st.vars++[x]).length;rw[Vo,Vo,h.vl];rfl
 ·rcases aC hj with⟨_,h'⟩|⟨rfl,rfl⟩
  ·exact h.un j w h'
  ·rw[n9];exact h.un j u hu
 ·show w.outer=(if st.outer.getD j (-1) < 0 then none else(U'[(st.outer.getD j (-1)).toNat]?).map UC.q);rw[Lk];rcases aC hj with⟨_,h'⟩|⟨rfl,rfl⟩
  ·exact h.ou j w h'
  ·rw[n9];exact h.ou j u hu
 ·rw[MZ,Q0];have CM:(st.ab j).map (fun v=>((V++[y]).getD v yM).q)=(st.ab j).map (fun v=>(V.getD v yM).q):=Q1 fun v hv=>by rw[hold (yJ hv)]
  rw[CM];rcases aC hj with⟨cF,h'⟩|⟨rfl,rfl⟩
  ·rw[if_neg (by rintro⟨e,_⟩;exact cF (e.symm.trans hx))];rw[Q6,vd];exact h.tm j w h'
  ·refine⟨?_,hs⟩;rw[ht,(h.tm j u hu).1]
   congr 1
   by_cases hn:x.own < 0
   ·rw[if_pos hn,if_pos ⟨hx,hn⟩,List.map_singleton,tE]
   ·rw[if_neg hn,if_neg (fun e=>hn e.2)];rfl
 ·have CN:∃m:List ((Nat×Int)×Int),fY w.es w.cl m/\(m.map (·.1)).Nodup/\(∀p∈m,(∃(j:Nat) (w:UC),U[j]? =some w/\p.1.1=w.q)/\0 < p.2/\p.2<=st.uses.length)/\∀(k:Nat) (w:UC) (a:Int),U[k]? =some w->((ky (w.q,a) m).isSome=true↔st.bg j (k,a)=true):=by
   rcases aC hj with⟨_,h'⟩|⟨rfl,rfl⟩
   ·exact h.nd j w h'
   ·rw[n9];exact h.nd j u hu
  obtain⟨m,h1,h2,h3,h4⟩:=CN;refine⟨m,h1,h2,fun p hp=>?_,fun k z a hk=>?_⟩
  ·obtain⟨⟨k,z,h5,h6⟩,h7⟩:=h3 p hp;obtain⟨z',h8,h9⟩:=ej h5;exact⟨⟨k,z',h8,h6.trans h9.symm⟩,h7⟩
  ·obtain⟨z',h8,h9⟩:=Lj hk;rw[h9,h4 k z' a h8,h.wf.P7]
 ·have Cv:(st.vars++[x])[v]? =some a:=ha;rw[V9]at Cv;split at Cv
  ·rename_i hv;rw[VV (by rw[h.vl];exact hv)]at hb;obtain⟨⟨z,h1,h2⟩,h3,h4,h5,h6⟩:=h.vn v a b Cv hb;obtain⟨z',h8,h9⟩:=ej h1;exact⟨⟨z',h8,h2.trans h9.symm⟩,h3,h4,by rw[h5,h.wf.Xb x hv],h6⟩
  ·rename_i hv;have hlen:=(Vh.1 Cv).1;simp only[Vy]at hlen;have e:v=st.vars.length:=by omega
   subst e;rw[Qp]at Cv;obtain rfl:x=a:=by simpa using Cv
   rw[Va (by rw[h.vl];exact Qj _),h.vl,Qp]at hb;obtain rfl:y=b:=by simpa using hb
   obtain⟨y1,y2,y3,y4,y5⟩:=hy;obtain⟨z',h8,h9⟩:=ej hu;exact⟨⟨z',by rw[hx];exact h8,y1.trans h9.symm⟩,y2,y3,by rw[y4,h.wf.Xc],y5⟩
theorem SU {U:List UC}{V:List au}{i:Nat}{u:UC}(h:U[i]? =some u):∃R,(WK U V).Perm ((kA u.q 5 [u.tv]++ai u.tv (u.ab.map fun b=>kL (some b)) u.ic)++R)/\
 ∀l M1 Du,(WK (U.set i {u with ab:=l,tv:=M1,ic:=Du}) V).Perm ((kA u.q 5 [M1]++ai M1 (l.map fun b=>kL (some b)) Du)++R):=by
 have hx:∀l M1 Du,({u with ab:=l,tv:=M1,ic:=Du}:UC).atoms.Perm ((kA u.q 5 [M1]++ai M1 (l.map fun b=>kL (some b)) Du)++
  (.own u.q 9::(kA u.q 0 [.int .i64 u.args,.int .i64 u.locals,.int .i64 u.ay,kL u.outer,.int .i64 u.num]++(kA u.q 6 [.map (some u.nb),u.cv,u.body]++(ai u.cv (u.de.flatMap jP) u.bZ++[.obj u.nb (.map u.es u.cl)]))))):=fun l M1 Du=>by
  unfold UC.atoms UC.row;simp only[kA,vf,QJ,vZ];generalize ai M1 (l.map fun b=>kL (some b)) Du=S1;generalize ai u.cv (u.de.flatMap jP) u.bZ++[.obj u.nb (.map u.es u.cl)]=S2;have h6:∀(a b c d e f g:kB) (X Y:List kB),(a::b::c::d::e::f::g::(X++Y)).Perm (g::X++(a::b::c::d::e::f::Y)):=fun a b c d e f g X Y=>by
   have e1:(a::b::c::d::e::f::g::(X++Y))=[a,b,c,d,e,f]++((g::X)++Y):=rfl;rw[e1,<- vZ];exact zCJ
  have h3:∀(a b c:kB) (X Y:List kB),(a::b::c::(X++Y)).Perm (X++(a::b::c::Y)):=fun a b c X Y=>by
   have e1:(a::b::c::(X++Y))=[a,b,c]++(X++Y):=rfl;rw[e1,<- vZ];exact zCJ
  have:=h6 (.own u.q 9) (.cell u.q 0 (.int .i64 u.args)) (.cell u.q (0+1) (.int .i64 u.locals)) (.cell u.q (0+1+1) (.int .i64 u.ay)) (.cell u.q (0+1+1+1) (kL u.outer)) (.cell u.q (0+1+1+1+1) (.int .i64 u.num)) (.cell u.q 5 M1) S1 (.cell u.q 6 (.map (some u.nb)):: .cell u.q 7 u.cv:: .cell u.q 8 u.body::S2);refine List.Perm.trans ?_ this;refine List.Perm.cons _ (List.Perm.cons _ (List.Perm.cons _ (List.Perm.cons _ (List.Perm.cons _ (List.Perm.cons _ (List.Perm.cons _ ?_))))));exact h3 _ _ _ _ _
 obtain⟨R,h1,h2⟩:=Dw (V:=V) h (hx u.ab u.tv u.ic);exact⟨R,h1,fun l M1 Du=>h2 _ _ (hx l M1 Du)⟩
end Go.V

/-
  What is gone through only grows; what is wrong first stays so.
-/
import Derived.Test.YtijnokbblmbpkaaGreatDoorS15
import Derived.Test.YtijnokbblmbpkaaGreatDoorS5
import Derived.Test.YtijnokbblmbpkaaGreatDoorS6
set_option linter.all false
namespace Go.V
open Go
structure Gr (a b:ah):Prop where
 f:∀e,a.f=some e->b.f=some e
 vars:a.vars <+:b.vars
 outer:a.outer <+:b.outer
 args:a.args <+:b.args
 uses:a.uses <+:b.uses
 Xg:b.aj.length=b.outer.length↔a.aj.length=a.outer.length
theorem Gr.refl(a:ah):Gr a a:=⟨fun _ h=>h,QV _,QV _,QV _,QV _,Iff.rfl⟩
theorem Gr.trans {a b c:ah}(h:Gr a b)(k:Gr b c):Gr a c:=
 ⟨fun e he=>k.f e (h.f e he),h.vars.trans k.vars,h.outer.trans k.outer,h.args.trans k.args,h.uses.trans k.uses,k.Xg.trans h.Xg⟩
theorem xm(a:ah)(e:Nat)(p:Int):Gr a (a.wrong e p):=by
 unfold ah.wrong;split
 ·rename_i h;refine⟨fun x hx=>?_,QV _,QV _,QV _,QV _,Iff.rfl⟩;rw[hx]at h;cases h
 ·exact Gr.refl a
theorem CP(a:ah)(l:List fF):Gr a {a with vars:=a.vars++l}:=⟨fun _ h=>h,QU _ _,QV _,QV _,QV _,Iff.rfl⟩
theorem CO(a:ah)(l:List (Nat×Nat)):Gr a {a with uses:=a.uses++l}:=⟨fun _ h=>h,QV _,QV _,QV _,QU _ _,Iff.rfl⟩
theorem Jy(a:ah)(o:Int)(n:Nat):Gr a {a with outer:=a.outer++[o],args:=a.args++[n],aj:=a.aj++[[]]}:=
 ⟨fun _ h=>h,QV _,QU _ _,QU _ _,QV _,Zs⟩
theorem Tc(a:ah)(i:Nat)(b:List PN):Gr a {a with aj:=a.aj.set i b}:=
 ⟨fun _ h=>h,QV _,QV _,QV _,QV _,Zs⟩
theorem cX(a:ah)(e:Nat)(p:Int):(a.wrong e p).vars=a.vars:=by unfold ah.wrong;split <;> rfl
theorem yS(a:ah)(e:Nat)(p:Int):(a.wrong e p).uses=a.uses:=by unfold ah.wrong;split <;> rfl
theorem mP(a:ah)(e:Nat)(p:Int):(a.wrong e p).outer=a.outer:=by unfold ah.wrong;split <;> rfl
theorem zT(unit:Nat)(arg own:Bool)(p:Int):∀(l:List ByteArray) (i:Nat) (st:ah) (env:List Nat),Gr st (kQ unit arg own p l i st env).1
 |[],_,st,_=>Gr.refl st
 |nm::r,i,st,env=>by
  unfold kQ;refine Gr.trans ?_ (zT unit arg own p r _ _ _);split
  ·refine Gr.trans (xm st 180 p) ?_;have:=CP (st.wrong 180 p) [⟨nm,unit,arg,if arg&&own then i else -1⟩];rw[cX]at this;exact this
  ·exact CP st _
theorem xl(F G:List ByteArray)(st:ah)(env:List Nat)(nm:ByteArray)(u:Nat)(p:Int)(put:Bool):Gr st (wQ F G st env nm u p put).2:=by
 unfold wQ;split
 ·exact Gr.refl st
 ·split
  ·rename_i v _;simp only;split
   ·refine Gr.trans (xm st 182 p) ?_;have:=CO (st.wrong 182 p) [(u,v)];rw[yS]at this;exact this
   ·exact CO st _
  ·split
   ·exact Gr.refl st
   ·simp only;split
    ·exact Gr.refl st
    ·exact xm st 181 p
section
variable (F G:List ByteArray) (k:Nat) (s:ByteArray) (lit:Lt) (args ab:List ByteArray) (kids:List Nd) (p:Int) (st:ah) (env:List Nat) (u:Nat)
theorem wX(x:Nd)(r:List Nd):kV F G (x::r) st env u=((jH F G x st env u).1::(kV F G r (jH F G x st env u).2 env u).1,(kV F G r (jH F G x st env u).2 env u).2):=by rw[kV]
theorem dM(x:Nd)(r:List Nd)(i:Nat)(h:dU s i=true):jA F G s (x::r) i st env u=((cI F G x st env u).1::(jA F G s r (i+1) (cI F G x st env u).2 env u).1,
 (if jP s=5 then dH st.vars.length::(jA F G s r (i+1) (cI F G x st env u).2 env u).2.1 else(jA F G s r (i+1) (cI F G x st env u).2 env u).2.1),(jA F G s r (i+1) (cI F G x st env u).2 env u).2.2):=by rw[jA,if_pos h]
theorem zy(x:Nd)(r:List Nd)(i:Nat)(h:dU s i=false):jA F G s (x::r) i st env u=((jH F G x st env u).1::(jA F G s r (i+1) (jH F G x st env u).2 env u).1,
 (jA F G s r (i+1) (jH F G x st env u).2 env u).2.1,(jA F G s r (i+1) (jH F G x st env u).2 env u).2.2):=by rw[jA,if_neg (by rw[h];simp)]
theorem eE(h:iD k s kids=true):jH F G (.mk k s lit args ab kids p) st env u=(.mk (iS s) (iT s) fP (jA F G s kids 0 st env u).2.1 0 false (jA F G s kids 0 st env u).1,(jA F G s kids 0 st env u).2.2):=by
 unfold jH;rw[if_pos h]
def bi(o:Int):ah×List Nat:=
 kQ st.outer.length false true p ab 0 (kQ st.outer.length true true p args 0 (({st with outer:=st.outer++[o],args:=st.args++[args.length],aj:=st.aj++[[]]}:ah)) env).1 (kQ st.outer.length true true p args 0 (({st with outer:=st.outer++[o],args:=st.args++[args.length],aj:=st.aj++[[]]}:ah)) env).2
theorem zc(o:Int):oj F G args ab kids p st env o={(kV F G kids (bi args ab p st env o).1 (bi args ab p st env o).2 st.outer.length).2 with aj:=(kV F G kids (bi args ab p st env o).1 (bi args ab p st env o).2 st.outer.length).2.aj.set st.outer.length (kV F G kids (bi args ab p st env o).1 (bi args ab p st env o).2 st.outer.length).1}:=by
 unfold oj bi;rfl
section
variable (h:iD k s kids=false)
include h
theorem nj(hk:k=1):jH F G (.mk k s lit args ab kids p) st env u=(.mk 1 e0 lit [] 0 false [],st):=by
 unfold jH;rw[if_neg (by rw[h];simp),if_pos hk]
theorem nk(hk:k=2):jH F G (.mk k s lit args ab kids p) st env u=(.mk 2 e0 fP [(wQ F G st env s u p false).1] 0 false [],(wQ F G st env s u p false).2):=by
 unfold jH;rw[if_neg (by rw[h];simp),if_neg Zo,if_pos hk]
theorem np(hk:k=3):jH F G (.mk k s lit args ab kids p) st env u=(.mk 3 e0 fP [(wQ F G st env s u p true).1] 0 false (kV F G kids (wQ F G st env s u p true).2 env u).1,(kV F G kids (wQ F G st env s u p true).2 env u).2):=by
 unfold jH;rw[if_neg (by rw[h];simp),if_neg Zo,if_neg Zo,if_pos hk]
theorem nw(hk:k=7):jH F G (.mk k s lit args ab kids p) st env u=(.mk 8 e0 fP [] st.outer.length false [],oj F G args ab kids p st env u):=by
 unfold jH;rw[if_neg (by rw[h];simp),if_neg Zo,if_neg Zo,if_neg Zo,if_pos hk];rfl
theorem ny(hk:k=8):jH F G (.mk k s lit args ab kids p) st env u=(.mk 9 e0 fP [] 0 false (kV F G kids st env u).1,(kV F G kids st env u).2):=by
 unfold jH;rw[if_neg (by rw[h];simp),if_neg Zo,if_neg Zo,if_neg Zo,if_neg Zo,if_pos hk]
theorem nz(hk:k=9):jH F G (.mk k s lit args ab kids p) st env u=(.mk 10 e0 fP [] 0 false (kV F G kids st env u).1,(kV F G kids st env u).2):=by
 unfold jH;rw[if_neg (by rw[h];simp),if_neg Zo,if_neg Zo,if_neg Zo,if_neg Zo,if_neg Zo,if_pos hk]
theorem nu(hk:k=6):jH F G (.mk k s lit args ab kids p) st env u=(.mk 7 s fP [] 0 false (kV F G kids st env u).1,(kV F G kids st env u).2):=by
 unfold jH;rw[if_neg (by rw[h];simp),if_neg Zo,if_neg Zo,if_neg Zo,if_neg Zo,if_neg Zo,if_neg Zo,if_pos hk]
theorem nt(hk:k=5):jH F G (.mk k s lit args ab kids p) st env u=(.mk 6 e0 fP [] 0 false (zX (jW kids) (kV F G kids st env u).1),(kV F G kids st env u).2):=by
 unfold jH;rw[if_neg (by rw[h];simp),if_neg Zo,if_neg Zo,if_neg Zo,if_neg Zo,if_neg Zo,if_neg Zo,if_neg Zo,if_pos hk]
theorem gY(hk:k≠1/\k≠2/\k≠3/\k≠5/\k≠6/\k≠7/\k≠8/\k≠9)(hs:jW kids=true):jH F G (.mk k s lit args ab kids p) st env u=(.mk 5 s fP [] 0 false (kV F G kids.tail st env u).1,(kV F G kids.tail st env u).2):=by
 obtain⟨h1,h2,h3,h5,h6,h7,h8,h9⟩:=hk;unfold jH;rw[if_neg (by rw[h];simp),if_neg h1,if_neg h2,if_neg h3,if_neg h7,if_neg h8,if_neg h9,if_neg h6,if_neg h5,if_pos hs];cases kids with
 |nil=>cases hs
 |cons x r=>rfl
theorem nq(hk:k≠1/\k≠2/\k≠3/\k≠5/\k≠6/\k≠7/\k≠8/\k≠9)(hs:jW kids=false):jH F G (.mk k s lit args ab kids p) st env u=(.mk 4 s fP [] 0 false (kV F G kids st env u).1,(kV F G kids st env u).2):=by
 obtain⟨h1,h2,h3,h5,h6,h7,h8,h9⟩:=hk;unfold jH;rw[if_neg (by rw[h];simp),if_neg h1,if_neg h2,if_neg h3,if_neg h7,if_neg h8,if_neg h9,if_neg h6,if_neg h5,if_neg (by rw[hs];simp)]
end
theorem iE:cI F G (.mk k s lit args ab kids p) st env u=
 (.mk 14 e0 fP ((List.range' (kQ u true false p args 0 st env).1.vars.length ab.length).map dH) 0 false
   (kV F G kids (kQ u false false p ab 0 (kQ u true false p args 0 st env).1 (kQ u true false p args 0 st env).2).1 (kQ u false false p ab 0 (kQ u true false p args 0 st env).1 (kQ u true false p args 0 st env).2).2 u).1,
  (kV F G kids (kQ u false false p ab 0 (kQ u true false p args 0 st env).1 (kQ u true false p args 0 st env).2).1 (kQ u false false p ab 0 (kQ u true false p args 0 st env).1 (kQ u true false p args 0 st env).2).2 u).2):=by rw[cI]
end
theorem zo(F G:List ByteArray):∀(N:Nat) (x:Nd),x.size<=N->∀st env u,Gr st (jH F G x st env u).2/\Gr st (cI F G x st env u).2:=by
 intro N
 induction N with
 |zero=>intro x hx;have:=x.size_pos;omega
 |succ N ih=>
  have au:∀l:List Nd,Nd.aw l<=N->∀st env u,Gr st (kV F G l st env u).2:=by
   intro l
   induction l with
   |nil=>intro _ st env u;rw[kV];exact Gr.refl st
   |cons x r xI=>
    exact zEF
  have pM:∀(s:ByteArray) (l:List Nd),Nd.aw l<=N->∀i st env u,Gr st (jA F G s l i st env u).2.2:=by
   intro s l
   induction l with
   |nil=>intro _ i st env u;rw[jA];exact Gr.refl st
   |cons x r xI=>
    exact zC0
  intro x hx st env u;cases x with
  |mk k s lit args ab kids p=>
  simp only[Nd.size]at hx;have hk:Nd.aw kids<=N:=by omega
  refine⟨?_,?_⟩
  ·cases h:iD k s kids with
   |true=>rw[eE _ _ _ _ _ _ _ _ _ _ _ _ h];exact pM s kids hk 0 st env u
   |false=>
    by_cases h1:k=1
    ·rw[nj _ _ _ _ _ _ _ _ _ _ _ _ h h1];exact Gr.refl st
    by_cases h2:k=2
    ·rw[nk _ _ _ _ _ _ _ _ _ _ _ _ h h2];exact xl F G st env s u p false
    by_cases h3:k=3
    ·rw[np _ _ _ _ _ _ _ _ _ _ _ _ h h3];exact(xl F G st env s u p true).trans (au kids hk _ env u)
    by_cases h7:k=7
    ·rw[nw _ _ _ _ _ _ _ _ _ _ _ _ h h7];simp only;rw[zc];refine Gr.trans ?_ (Gr.trans (au kids hk _ _ _) (Tc _ _ _));exact Gr.trans (Jy st _ _) (Gr.trans (zT _ _ _ _ _ _ _ _) (zT _ _ _ _ _ _ _ _))
    by_cases h8:k=8
    ·rw[ny _ _ _ _ _ _ _ _ _ _ _ _ h h8];exact au kids hk st env u
    by_cases h9:k=9
    ·rw[nz _ _ _ _ _ _ _ _ _ _ _ _ h h9];exact au kids hk st env u
    by_cases h6:k=6
    ·rw[nu _ _ _ _ _ _ _ _ _ _ _ _ h h6];exact au kids hk st env u
    by_cases h5:k=5
    ·rw[nt _ _ _ _ _ _ _ _ _ _ _ _ h h5];exact au kids hk st env u
    cases hs:jW kids with
    |true=>
     rw[gY _ _ _ _ _ _ _ _ _ _ _ _ h ⟨h1,h2,h3,h5,h6,h7,h8,h9⟩ hs];refine au kids.tail ?_ st env u;exact zEG
    |false=>rw[nq _ _ _ _ _ _ _ _ _ _ _ _ h ⟨h1,h2,h3,h5,h6,h7,h8,h9⟩ hs];exact au kids hk st env u
  ·rw[iE];exact Gr.trans (zT _ _ _ _ _ _ _ _) (Gr.trans (zT _ _ _ _ _ _ _ _) (au kids hk _ _ _))
structure Wf (st:ah):Prop where
 al:st.args.length=st.outer.length
 bl:st.aj.length=st.outer.length
 low:∀(i:Nat) o,st.outer[i]? =some o->-1<=o/\o < i
 vu:∀(v:Nat) x,st.vars[v]? =some x->x.unit < st.outer.length/\-1<=x.own/\x.own < st.args.getD x.unit 0
 uu:∀q∈st.uses,q.1 < st.outer.length/\q.2 < st.vars.length
theorem Wf.ff {st:ah}(h:Wf st)(i:Nat):st.outer.getD i (-1) < i:=by
 rw[Vb];cases e:st.outer[i]? with
 |none=>simp only[Option.getD_none];omega
 |some o=>exact(h.low i o e).2
theorem DS(o:List Int)(n:Nat){u:Int}(h:u < 0):yN o n u=[]:=by
 cases n with
 |zero=>rfl
 |succ n=>simp only[yN];rw[if_pos h]
theorem RZ {o:List Int}(h:∀i,o.getD i (-1) < (i:Int)):∀(u n m:Nat),u < n->u < m->yN o n u=yN o m u:=by
 intro u
 induction u using Nat.strongRecOn with
 |_ u ih=>
  intro n m hn hm;cases n with
  |zero=>omega
  |succ n=>
   cases m with
   |zero=>omega
   |succ m=>
    simp only[yN];rw[if_neg Zo,if_neg Zo]
    congr 1
    rw[vT];have hl:=h u;by_cases c:o.getD u (-1) < 0
    ·rw[DS o n c,DS o m c]
    ·have e:o.getD u (-1)=((o.getD u (-1)).toNat:Int):=by omega
     rw[e];exact ih _ Zo n m Zo Zo
theorem Wf.line {st:ah}(h:Wf st){u:Nat}(hu:u<=st.outer.length):st.line u=u::(if st.outer.getD u (-1) < 0 then []else st.line (st.outer.getD u (-1)).toNat):=by
 unfold ah.line;have hl:=h.ff u;rw[yN,if_neg Zo,vT]
 congr 1
 by_cases c:st.outer.getD u (-1) < 0
 ·rw[if_pos c,DS _ _ c]
 ·rw[if_neg c];have e:st.outer.getD u (-1)=((st.outer.getD u (-1)).toNat:Int):=by omega
  have:=RZ h.ff (st.outer.getD u (-1)).toNat st.outer.length (st.outer.length+1) Zo Zo;rw[<- e]at this;rw[<- e];exact this
theorem Wf.qW {st:ah}(h:Wf st){u v:Nat}(hu:u<=st.outer.length)(e:u=st.af v):st.way u v=[]:=by
 unfold ah.way;rw[h.line hu,List.takeWhile_cons,if_neg (by simp[e])]
theorem Wf.qX {st:ah}(h:Wf st){u v:Nat}(hu:u<=st.outer.length)(e:u≠st.af v):st.way u v=u::(if st.outer.getD u (-1) < 0 then []else st.way (st.outer.getD u (-1)).toNat v):=by
 unfold ah.way;rw[h.line hu,List.takeWhile_cons,if_pos (by simp[e])]
 congr 1
 split <;> rfl
theorem Wf.uf {st:ah}(h:Wf st):∀(u:Nat),u<=st.outer.length->∀w∈st.line u,w<=u:=by
 intro u
 induction u using Nat.strongRecOn with
 |_ u ih=>
  intro hu w hw;rw[h.line hu]at hw;rcases QC.1 hw with rfl|hw
  ·exact Qh _
  ·have hl:=h.ff u;split at hw
   ·cases hw
   ·have:=ih (st.outer.getD u (-1)).toNat Zo Zo w hw;omega
def ah.use(st:ah)(u v:Nat):ah:={st with uses:=st.uses++[(u,v)]}
theorem J1(st:ah)(u v w:Nat):(st.use u v).rem w=(st.rem w||(decide (v=w)&&decide (st.bC w < 0)&&decide (st.af w≠u))):=by
 unfold ah.rem ah.use;simp only[List.any_append,vd,List.any_nil,vR];rfl
theorem Ft(st:ah)(u v j:Nat)(t:Nat×Int):(st.use u v).bg j t=(st.bg j t||(decide ((st.af v,st.bC v)=t)&&decide (j∈st.way u v))):=by
 unfold ah.bg ah.use;simp only[List.any_append,vd,List.any_nil,vR];rfl
theorem Wf.use {st:ah}(h:Wf st){u v:Nat}(hu:u < st.outer.length)(hv:v < st.vars.length):Wf (st.use u v):=
 ⟨h.al,h.bl,h.low,h.vu,fun q hq=>by
   rcases QA.1 hq with hq|hq
   ·exact h.uu q hq
   ·obtain rfl:=QK.1 hq;exact⟨hu,hv⟩⟩
def ah.aX(st:ah)(x:fF):ah:={st with vars:=st.vars++[x]}
theorem cU(st:ah)(x:fF){v:Nat}(hv:v < st.vars.length):(st.aX x).af v=st.af v:=by
 unfold ah.af ah.aX;simp only;rw[Vd hv]
theorem sj(st:ah)(x:fF){v:Nat}(hv:v < st.vars.length):(st.aX x).bC v=st.bC v:=by
 unfold ah.bC ah.aX;simp only;rw[Vd hv]
theorem any_congr {α:Type}{l:List α}{p q:α->Bool}(h:∀x∈l,p x=q x):l.any p=l.any q:=by
 induction l with
 |nil=>rfl
 |cons x l ih=>rw[vd,vd,h x Zs,ih (fun y hy=>h y (by simp[hy]))]
theorem W3(st:ah)(x:fF)(u:Nat){v:Nat}(hv:v < st.vars.length):(st.aX x).way u v=st.way u v:=by
 unfold ah.way;rw[cU st x hv];rfl
theorem Wf.OX {st:ah}(h:Wf st)(x:fF)(j:Nat)(t:Nat×Int):(st.aX x).bg j t=st.bg j t:=by
 unfold ah.bg;refine any_congr (l:=st.uses) (fun q hq=>?_);have:=(h.uu q hq).2;rw[cU st x this,sj st x this,W3 st x _ this]
theorem Wf.Wq {st:ah}(h:Wf st)(x:fF){v:Nat}(hv:v < st.vars.length):(st.aX x).rem v=st.rem v:=by
 unfold ah.rem;refine any_congr (l:=st.uses) (fun q hq=>?_);rw[cU st x hv,sj st x hv]
theorem Wf.Ws {st:ah}(h:Wf st)(x:fF):(st.aX x).rem st.vars.length=false:=by
 unfold ah.rem;rw[List.any_eq_false];intro q hq;have:=(h.uu q hq).2;simp only[vF,decide_eq_true_eq,not_and];intro e;omega
theorem Wf.aX {st:ah}(h:Wf st){x:fF}(hx:x.unit < st.outer.length)(ho:-1<=x.own/\x.own < st.args.getD x.unit 0):Wf (st.aX x):=
 ⟨h.al,h.bl,h.low,fun v y hy=>by
   unfold ah.aX at hy;simp only at hy;rw[Vc]at hy;split at hy
   ·exact h.vu v y hy
   ·have:=(Vm.1 hy).1;simp only[Q3]at this;have e:v - st.vars.length=0:=by omega
    rw[e]at hy;obtain rfl:x=y:=by simpa using hy
    exact⟨hx,ho⟩,fun q hq=>⟨(h.uu q hq).1,by have:=(h.uu q hq).2;show q.2 < (st.vars++[x]).length;rw[Vt];omega⟩⟩
def ah.aN(st:ah)(o:Int)(n:Nat):ah:={st with outer:=st.outer++[o],args:=st.args++[n],aj:=st.aj++[[]]}
theorem cC {α:Type}{l:List α}{x d:α}{i:Nat}(h:i < l.length):(l++[x]).getD i d=l.getD i d:=by
 rw[Vb,Vb,Vd h]
theorem Wf.aN {st:ah}(h:Wf st){o:Int}{n:Nat}(ho:-1<=o/\o < st.outer.length):Wf (st.aN o n):=by
 refine⟨?_,?_,fun i p hp=>?_,fun v x hx=>?_,fun q hq=>?_⟩
 ·unfold ah.aN;simp only[Vt,Q3];rw[h.al]
 ·unfold ah.aN;simp only[Vt,Q3];rw[h.bl]
 ·unfold ah.aN at hp;simp only at hp;rw[Vc]at hp;split at hp
  ·exact h.low i p hp
  ·have:=(Vm.1 hp).1;simp only[Q3]at this;have e:i - st.outer.length=0:=by omega
   rw[e]at hp;obtain rfl:o=p:=by simpa using hp
   omega
 ·obtain⟨h1,h2,h3⟩:=h.vu v x hx;refine⟨?_,h2,?_⟩
  ·show x.unit < (st.outer++[o]).length;rw[Vt];omega
  ·show x.own < (st.args++[n]).getD x.unit 0;rw[cC (by rw[h.al];exact h1)];exact h3
 ·obtain⟨h1,h2⟩:=h.uu q hq;refine⟨?_,h2⟩;show q.1 < (st.outer++[o]).length;rw[Vt];omega
theorem Wf.pR {st:ah}(h:Wf st){o:Int}{n:Nat}(ho:-1<=o/\o < st.outer.length):∀(u:Nat),u < st.outer.length->(st.aN o n).line u=st.line u:=by
 intro u
 induction u using Nat.strongRecOn with
 |_ u ih=>
  intro hu;have h':=h.aN (n:=n) ho;have e:(st.aN o n).outer.getD u (-1)=st.outer.getD u (-1):=cC hu;have hl:=h.ff u;rw[h'.line (by show u<=(st.outer++[o]).length;rw[Vt];omega),h.line Zo,e]
  congr 1
  split
  ·rfl
  ·exact ih _ Zo Zo
theorem Wf.R4 {st:ah}(h:Wf st){o:Int}{n:Nat}(ho:-1<=o/\o < st.outer.length){u v:Nat}(hu:u < st.outer.length):(st.aN o n).way u v=st.way u v:=by
 unfold ah.way;rw[h.pR ho u hu];rfl
theorem Wf.Bs {st:ah}(h:Wf st){o:Int}{n:Nat}(ho:-1<=o/\o < st.outer.length)(j:Nat)(t:Nat×Int):(st.aN o n).bg j t=st.bg j t:=by
 unfold ah.bg;refine any_congr (l:=st.uses) (fun q hq=>?_);rw[h.R4 ho (h.uu q hq).1];rfl
theorem Wf.OY {st:ah}(h:Wf st)(j:Nat)(hj:st.outer.length<=j)(t:Nat×Int):st.bg j t=false:=by
 unfold ah.bg;rw[List.any_eq_false];intro q hq;simp only[vF,decide_eq_true_eq,not_and];intro _ hm;have h1:=(h.uu q hq).1;have:=h.uf q.1 Zo j ((List.takeWhile_prefix _).subset hm);omega
def wZ(L:List kC)(b:Nat):Prop:=(∃n,kC.own b n∈L)/\∃v,kC.cell b 0 v∈L
theorem wZ.more {L M:List kC}{b:Nat}(h:wZ L b)(hs:∀x∈L,x∈M):wZ M b:=⟨h.1.imp fun _ k=>hs _ k,h.2.imp fun _ k=>hs _ k⟩
section
variable {P:Program} {w:World} {L:List kC}
theorem Gl(hs:Sat w L){b:Nat}(h:wZ L b):(frozen ⟨b,0,none⟩).run P w=.ok false w/\(noView ⟨b,0,none⟩).run P w=.ok () w/\(stringish ⟨b,0,none⟩).run P w=.ok false w/\∃r:Bool,(do pure ((<- shape b) matches some (_,0)):Sem Bool).run P w=.ok r w:=by
 obtain⟨⟨n,h1⟩,⟨v,h2⟩⟩:=h;obtain⟨c,t,lo,hi,hb,hn,hf⟩:=hs.holds _ h1;obtain⟨_,f2⟩:=hs.cell h2;have e1:(frozen ⟨b,0,none⟩).run P w=.ok false w:=by
  simp only[frozen,Sem.run,f2]
 have hsh:w.shape? b=some (t,c.size):=by simp[World.shape?,hb]
 have e2:(shape b).run P w=.ok (some (t,c.size)) w:=by simp only[shape,Sem.run,hsh]
 have f3:w.frozen? ⟨b,c.size,none⟩=false:=by
  simp only[World.frozen?,hb];simp only[vE,decide_eq_false_iff_not];by_cases h:lo<=n
  ·right;intro h';exact hf ⟨h,Zo⟩
  ·left;omega
 refine⟨e1,?_,?_,?_⟩
 ·simp[noView,viewAt,e2]
 ·simp only[stringish,Sem.run_bind,e1,Result.andThen_ok];simp only[vK,if_false,Sem.run_bind,e2,Result.andThen_ok];simp only[frozen,Sem.run,f3]
 ·simp only[Sem.run_bind,e2,Result.andThen_ok];exact⟨_,rfl⟩
theorem DA(hs:Sat w L){a b:Nat}(ha:wZ L a)(hb:wZ L b):(sameAddr ⟨a,0,none⟩ ⟨b,0,none⟩).run P w=.ok (decide (a=b)) w:=by
 unfold sameAddr;by_cases h:a=b
 ·subst h;simp
 ·obtain⟨a1,a2,a3,ra,a4⟩:=Gl (P:=P) hs ha;obtain⟨b1,b2,b3,rb,b4⟩:=Gl (P:=P) hs hb;have ck:(a==b)=false:=by simpa using h
  simp[ck,a1,b1,a2,b2,mayBeOne,a3,b3,h]
theorem Cd(hs:Sat w L){t e:TypeId}{i:TypeInfo}(ht:P.underlying t=some (.pointer e))(hi:P.info? e=some i)(hz:i.size≠0){a b:Nat}(ha:wZ L a)(hb:wZ L b)(n:Nat):
 (Op.equalIn (n+1) t (.pointer (some ⟨a,0,none⟩)) (.pointer (some ⟨b,0,none⟩))).run P w=.ok (decide (a=b)) w:=by
 simp[Op.equalIn,kE ht,kZ hi,hz,DA hs ha hb]
end
structure Xc (P:Program)(t mt e:TypeId):Prop where
 fs : ∃ f0 f1 : Field, P.underlying t = some (.struct #[f0, f1]) ∧ f0.offset = 0 ∧ f1.offset = 1 ∧ f0.name ≠ "_" ∧ f1.name ≠ "_" ∧ P.underlying f0.type = some (.pointer e) ∧ P.underlying f1.type = some (.int .i64)
 sz:∃i,P.info? e=some i/\i.size≠0
 stood:P.stoodInHeld t=false
 guard:P.eqGuardType P.depth t=false
 map:∃it i,P.underlying mt=some (.map t it)/\P.info? it=some i/\i.zero=some (.int .i64 0)
def fY(k:Nat×Int):Value:=.agg #[.pointer (some ⟨k.1,0,none⟩),.int .i64 k.2]
def yU(es:List MapEntry)(m:List ((Nat×Int)×Int)):Prop:=es.map (fun e=>(e.key,e.val))=m.map fun p=>(fY p.1,.int .i64 p.2)
def yA(k:Nat×Int):List ((Nat×Int)×Int)->Nat->Option (Nat×Value)
 |[],_=>none
 |p::r,i=>if k=p.1 then some (i,.int .i64 p.2)else yA k r (i+1)
section
variable {P:Program} {w:World} {L:List kC} {t mt e:TypeId}
theorem Gk(hs:Sat w L)(h:Xc P t mt e){k j:Nat×Int}(hk:wZ L k.1)(hj:wZ L j.1):(Op.equal t (fY k) (fY j)).run P w=.ok (decide (k=j)) w:=by
 obtain⟨f0,f1,hf,o0,o1,n0,n1,u0,u1⟩:=h.fs;obtain⟨i,hi,hz⟩:=h.sz;have hfo:P.underlying t=some (.struct (P.fieldsOf t)):=by simp[Program.fieldsOf,hf]
 have EY:P.fieldsOf t=#[f0,f1]:=by simp[Program.fieldsOf,hf]
 show(Op.equalIn (9999+1) t (fY k) (fY j)).run P w=_;unfold fY;rw[run_equalIn_struct w 9999 t _ _ hfo h.stood,EY];have p0:∀x y:Value,(part f0.type #[x,y] f0.offset).run P w=.ok x w:=fun x y=>by
  simp[part,isAgg,kE u0,o0]
 have p1:∀x y:Value,(part f1.type #[x,y] f1.offset).run P w=.ok y w:=fun x y=>by
  simp[part,isAgg,kE u1,o1]
 have q1:∀x y:Int,(Op.equalIn 9999 f1.type (.int .i64 x) (.int .i64 y)).run P w=.ok (decide (x=y)) w:=fun x y=>cS (n:=9998) u1 rfl rfl
 simp only[Op.eqFields,ne_eq,n0,n1,not_false_eq_true,if_true,Sem.run_bind,p0,p1,Result.andThen_ok,Cd (n:=9998) hs u0 hi hz hk hj,q1];have e1:decide (k=j)=(decide (k.1=j.1)&&decide (k.2=j.2)):=by
  rw[<- Bool.decide_and];exact decide_eq_decide.2 ⟨fun h=>h ▸ ⟨rfl,rfl⟩,fun h=>Prod.ext h.1 h.2⟩
 rw[e1];by_cases c1:k.1=j.1 <;> by_cases c2:k.2=j.2 <;> simp[c1,c2,p1,q1]
theorem IM(hs:Sat w L)(h:Xc P t mt e){k:Nat×Int}(hk:wZ L k.1):∀(es:List MapEntry) (m:List ((Nat×Int)×Int)) (i:Nat),yU es m->(∀p∈m,wZ L p.1.1)->(Instr.findAsking t (fY k) es i).run P w=.ok (yA k m i) w:=by
 intro es
 induction es with
 |nil=>
  intro m i hm _;cases m with
  |nil=>simp[Instr.findAsking,yA]
  |cons p r=>simp[yU]at hm
 |cons q es ih=>
  intro m i hm hl;cases m with
  |nil=>simp[yU]at hm
  |cons p r=>
   simp only[yU,Q7,vh,Qz]at hm;obtain⟨⟨h1,h2⟩,h3⟩:=hm;simp only[Instr.findAsking,Sem.run_bind,h1,Gk hs h hk (hl p Zs),Result.andThen_ok,yA];by_cases c:k=p.1
   ·simp[c,h2]
   ·simp only[c,decide_false,vK,if_false];exact ih r (i+1) h3 (fun p hp=>hl p (by simp[hp]))
theorem th(hs:Sat w L)(h:Xc P t mt e){k:Nat×Int}(hk:wZ L k.1){es:List MapEntry}{m:List ((Nat×Int)×Int)}(hm:yU es m)(hl:∀p∈m,wZ L p.1.1):(Instr.findKey t (fY k) es).run P w=.ok (yA k m 0) w:=by
 obtain⟨f0,f1,hf,_⟩:=h.fs;unfold Instr.findKey;simp only[Sem.run_bind,kE hf,Result.andThen_ok];cases es with
 |nil=>
  cases m with
  |nil=>simp[Instr.findNow,yA]
  |cons p r=>simp[yU]at hm
 |cons q es=>
  have:Instr.findNow (.struct #[f0,f1]) (fY k) (q::es) 0=none:=by simp[Instr.findNow,Instr.sameNow]
  rw[this];exact IM hs h hk _ _ _ hm hl
theorem tg(h:Xc P t mt e)(b:Bool)(k:Nat×Int):(Instr.checkKey b 10000 t (fY k)).run P w=.ok () w:=by
 obtain⟨f0,f1,hf,o0,o1,n0,n1,u0,u1⟩:=h.fs;have p0:∀x y:Value,(part f0.type #[x,y] f0.offset).run P w=.ok x w:=fun x y=>by
  simp[part,isAgg,kE u0,o0]
 have p1:∀x y:Value,(part f1.type #[x,y] f1.offset).run P w=.ok y w:=fun x y=>by
  simp[part,isAgg,kE u1,o1]
 show(Instr.checkKey b (9998+1+1) t (fY k)).run P w=_;unfold fY;generalize 9998=N;simp[Instr.checkKey,kE hf,n0,n1,p0,p1,kE u0,kE u1]
end
theorem o9 {k:Nat×Int}:∀{m:List ((Nat×Int)×Int)} {i:Nat},(yA k m i).map (·.2)=(ky k m).map (Value.int .i64):=by
 intro m
 induction m with
 |nil=>intro i;rfl
 |cons p r ih=>
  intro i;obtain⟨a,v⟩:=p;simp only[yA,ky];by_cases h:k=a
  ·rw[if_pos h,if_pos h.symm];rfl
  ·rw[if_neg h,if_neg (fun e=>h e.symm)];exact ih
theorem I7 {k:Nat×Int}{v:Int}{u:Value}{q:MapEntry}(hq:q.key=fY k)(hv:q.val=.int .i64 v):∀{m:List ((Nat×Int)×Int)} {es:List MapEntry} {i j:Nat},yU es m->yA k m i=some (j,u)->
 i<=j/\(∃x,es[j - i]? =some x/\x.key=fY k)/\yU (es.set (j - i) q) (jg k v m):=by
 intro m
 induction m with
 |nil=>intro es i j _ h;cases h
 |cons p r ih=>
  intro es i j hm h;obtain⟨a,w⟩:=p;cases es with
  |nil=>simp[yU]at hm
  |cons x es=>
   simp only[yU,Q7,vh,Qz]at hm;obtain⟨⟨h1,h2⟩,h3⟩:=hm;simp only[yA]at h;by_cases c:k=a
   ·rw[if_pos c]at h;simp only[Qy,Qz]at h;obtain⟨rfl,rfl⟩:=h;subst c;refine⟨Qh _,⟨x,Zs,h1⟩,?_⟩;simp only[Qn,List.set_cons_zero,jg,if_true,yU,Q7,hq,hv,h3]
   ·rw[if_neg c]at h;obtain⟨g1,⟨y,g2,g3⟩,g4⟩:=ih h3 h;have e:j - i=(j - (i+1))+1:=by omega
    refine⟨Zo,⟨y,by rw[e];simpa using g2,g3⟩,?_⟩;rw[e];simp only[List.set_cons_succ,jg];rw[if_neg (fun e=>c e.symm)];simp only[yU,Q7,h1,h2,vh,true_and];exact g4
theorem tw {k:Nat×Int}:∀{m:List ((Nat×Int)×Int)} {i:Nat},yA k m i=none->ky k m=none:=fun {m i} h=>by
 have:=o9 (k:=k) (m:=m) (i:=i);rw[h]at this;cases e:ky k m with
 |none=>rfl
 |some x=>rw[e]at this;cases this
theorem aG.step {P:Program}{α β:Type}{H:List kC}{K:β->List kC->Prop}{s:Sem α}{f:α->Sem β}{v:α}(h:∀F w,Sat w (H++F)->s.run P w=.ok v w)(k:aG P (f v) H K):aG P (s >>=f) H K:=
 aG.bind (fun F w hs=>⟨v,w,H,h F w hs,k,hs,.refl w⟩)
section
variable {P:Program} {n:Nat} {rs:List RO} {Γ:Env} {H R:SH} {Z:List PanicEntry->Env->SH->Prop} {K:Env->SH->Prop} {d:Option Nat} {t mt e:TypeId}
theorem st_eqp {x y:Operand}{a b:Nat}{i:TypeInfo}(ht:P.underlying t=some (.pointer e))(hi:P.info? e=some i)(hz:i.size≠0)(hx:ev Γ x=some (.pointer (some ⟨a,0,none⟩)))(hy:ev Γ y=some (.pointer (some ⟨b,0,none⟩)))(ha:wZ H.flatten a)(hb:wZ H.flatten b)
 (h:VO P n rs (ap d (.bool (decide (a=b))) Γ) H Z K):VO P n (⟨d,none,.Sj .eql t x y⟩::rs) Γ H Z K:=by
 exact zB5
theorem RC {x y:Operand}{a b:Nat}{i:TypeInfo}(ht:P.underlying t=some (.pointer e))(hi:P.info? e=some i)(hz:i.size≠0)(hx:ev Γ x=some (.pointer (some ⟨a,0,none⟩)))(hy:ev Γ y=some (.pointer (some ⟨b,0,none⟩)))(ha:wZ H.flatten a)(hb:wZ H.flatten b)
 (h:VO P n rs (ap d (.bool (!decide (a=b))) Γ) H Z K):VO P n (⟨d,none,.Sj .neq t x y⟩::rs) Γ H Z K:=by
 exact zB5
theorem WS {x y:Operand}{k j:Nat×Int}(hT:Xc P t mt e)(hx:ev Γ x=some (fY k))(hy:ev Γ y=some (fY j))(ha:wZ H.flatten k.1)(hb:wZ H.flatten j.1)
 (h:VO P n rs (ap d (.bool (decide (k=j))) Γ) H Z K):VO P n (⟨d,none,.Sj .eql t x y⟩::rs) Γ H Z K:=by
 refine VO.read rfl rfl (fun ρ aK=>⟨_,rfl,fun F w hs=>?_⟩) h;rw[aK _ _ hx,aK _ _ hy];have hm:∀c∈H.flatten,c∈H.flatten++F:=fun c hc=>Zw _ hc
 have h2:=Gk (P:=P) hs hT (ha.more hm) (hb.more hm);rw[Sem.run_bind];have hg:(eqGuard .eql t x y (fY k) (fY j)).run P w=.ok () w:=run_eqGuard_agg w _ t x y _ _ hT.guard;rw[hg];simp only[Result.andThen_ok,Sem.run_bind,Go.binOp,fY]at*;simp[h2]
theorem sB {m x:Operand}{b c:Nat}{es:Array MapEntry}{k:Nat×Int}{l:List ((Nat×Int)×Int)}(hT:Xc P t mt e)(hm:ev Γ m=some (.map (some b)))(hx:ev Γ x=some (fY k))
 (ho:uH H b (.map es c)) (hl:yU es.toList l) (hk:wZ H.flatten k.1) (DZ:∀p∈l,wZ H.flatten p.1.1) (h:VO P n rs (ap d (.int .i64 ((ky k l).getD 0)) Γ) H Z K):VO P n (⟨d,none,.Fj mt false m x⟩::rs) Γ H Z K:=by
 refine VO.read rfl rfl (fun ρ aK=>⟨_,rfl,fun F w hs=>?_⟩) h;rw[aK _ _ hm,aK _ _ hx];have iC:∀c∈H.flatten,c∈H.flatten++F:=fun c hc=>Zw _ hc
 obtain⟨it,i,hmt,hi,hiz⟩:=hT.map;have hg:=gH (P:=P) ho.mem hs;have hf:=th (P:=P) hs hT (hk.more iC) hl (fun p hp=>(DZ p hp).more iC);have JF:=o9 (k:=k) (m:=l) (i:=0);simp only[Instr.lookup,Sem.run_bind,kE hmt,Result.andThen_ok,hg,Sem.run_pure,tg hT,hf];cases HT:yA k l 0 with
 |none=>
  rw[tw HT];simp[kb hi hiz]
 |some q=>
  obtain⟨j,u⟩:=q;rw[HT]at JF;cases HU:ky k l with
  |none=>rw[HU]at JF;cases JF
  |some z=>
   rw[HU]at JF;simp only[Qw,Qy]at JF;simp[JF]
theorem st_allocO {t:TypeId}{z:List Value}(h:∀b,VO P n rs (ap d (.pointer (some ⟨b,0,none⟩)) Γ) ((.own b z.length::kA b 0 z)::H) Z K):VO P n (⟨d,none,.alloc t z⟩::rs) Γ H Z K:=by
 refine VO.act rfl rfl (fun ρ aK=>⟨_,rfl,?_⟩);intro F w hs;refine⟨_,_,(.own w.heap.size z.length::kA w.heap.size 0 z)++H.flatten,rfl,⟨_,(.own w.heap.size z.length::kA w.heap.size 0 z)::H,.inl rfl,?_,h _⟩,?_⟩
 ·simp
 ·have hp:=Sat.push hs (.cells z.toArray t (0,0)) (.own w.heap.size z.length::kA w.heap.size 0 z) (fun x hx=>?_) ?_
  ·rw[vf];exact hp
  ·have hb:({w with heap:=w.heap.push (.cells z.toArray t (0,0))}:World).heap[w.heap.size]? =some (.cells z.toArray t (0,0)):=by simp
   exact zCT
  ·rw[Q7,QN];refine⟨fun hm=>?_,?_⟩
   ·exact zCK
   ·exact de _ _ _
structure gh (es:Array MapEntry)(c:Nat)(m:List ((Nat×Int)×Int)):Prop where
 of:yU es.toList m
 born:es.toList.Pairwise fun a b=>a.born < b.born
 clock:∀e∈es.toList,e.born < c
theorem gh.nil:gh #[] 0 []:=⟨rfl,.nil,Zs⟩
theorem gh.push {es:Array MapEntry}{c:Nat}{m:List ((Nat×Int)×Int)}(h:gh es c m){k:Nat×Int}{v:Int}(hn:ky k m=none):gh (es.push {key:=fY k,val:=.int .i64 v,born:=c}) (c+1) (jg k v m):=by
 refine⟨?_,?_,?_⟩
 ·rw[fh hn];have:=h.of;simp only[yU]at this|-;simp[this]
 ·exact zDO
 ·exact zD2
def MS(es:Array MapEntry)(s:Nat)(k:Nat×Int):Prop:=∃(i:Nat) (e:MapEntry),es[i]? =some e/\e.born=s/\e.key=fY k
theorem L7 {es:Array MapEntry}{c:Nat}{m:List ((Nat×Int)×Int)}(h:gh es c m){s:Nat}{k:Nat×Int}(hs:MS es s k):∃(i:Nat) (e:MapEntry),es.findIdx? (fun e=>((e.born:Int)==(s:Int)))=some i/\es[i]? =some e/\e.key=fY k:=by
 obtain⟨i,e,he,hb,hk⟩:=hs;have hl:=(v8.1 he).1;refine⟨i,e,?_,he,hk⟩;rw[Array.findIdx?_eq_some_iff_getElem];have hei:es[i]=e:=by rw[v7 hl]at he;exact Qx he
 refine⟨hl,by simp[hei,hb],fun j hj=>?_⟩;have hp:=List.pairwise_iff_getElem.1 h.born j i (by simpa using Nat.lt_trans hj hl) (by simpa using hl) hj;simp only[Array.getElem_toList]at hp;rw[hei,hb]at hp;have:((es[j].born:Int)==(s:Int))=false:=by
  rw[beq_eq_false_iff_ne];omega
 simp[this]
theorem gh.at_ {es:Array MapEntry}{c:Nat}{m:List ((Nat×Int)×Int)}(h:gh es c m){k:Nat×Int}{v:Int}{i:Nat}{e:MapEntry}(he:es[i]? =some e)(hk:e.key=fY k)(hu:(m.map (·.1)).Nodup):
 gh (es.modify i fun e=>{e with val:=.int .i64 v}) c (jg k v m):=by
 have hl:=(v8.1 he).1;have hei:es[i]=e:=by rw[v7 hl]at he;exact Qx he
 have hle:(es.modify i fun e=>{e with val:=.int .i64 v}).toList=es.toList.set i {e with val:=.int .i64 v}:=by
  apply vw;intro j;rw[vB,v9,Vp];by_cases hj:i=j
  ·subst hj;simp[hl,hei]
  ·simp[hj]
 have EU:(es.toList.set i {e with val:=.int .i64 v}).map MapEntry.born=es.toList.map MapEntry.born:=by
  apply vw;intro j;simp only[Vn,Vp];by_cases hj:i=j
  ·subst hj;simp[hl,hei]
  ·simp[hj]
 have C2:∀(es:List MapEntry) (m:List ((Nat×Int)×Int)) (i:Nat),yU es m->es[i]? =some e->(m.map (·.1)).Nodup->yU (es.set i {e with val:=.int .i64 v}) (jg k v m):=by
  intro es
  induction es with
  |nil=>intro m i _ h;simp at h
  |cons x es ih=>
   intro m i hm hx hn;cases m with
   |nil=>simp[yU]at hm
   |cons p r=>
    obtain⟨a,w⟩:=p;simp only[yU,Q7,vh,Qz]at hm;obtain⟨⟨h1,h2⟩,h3⟩:=hm;have hthV:∀a b:Nat×Int,fY a=fY b->a=b:=fun a b hab=>by
     simp only[fY,Value.agg.injEq]at hab;simp at hab;exact Prod.ext hab.1 hab.2
    simp only[Q7,QN]at hn;cases i with
    |zero=>
     obtain rfl:x=e:=by simpa using hx
     have:a=k:=hthV _ _ (h1.symm.trans hk);subst this;simp only[List.set_cons_zero,jg,if_true,yU,Q7,h1,h3]
    |succ i=>
     have oh:es[i]? =some e:=by simpa using hx
     have ck:a≠k:=by
      rintro rfl
      have:(e.key,e.val)∈es.map (fun e=>(e.key,e.val)):=QH.2 ⟨e,Zv oh,rfl⟩;rw[h3]at this;obtain⟨q,hq,im⟩:=QH.1 this;simp only[Qz]at im;exact hn.1 (QH.2 ⟨q,hq,hthV _ _ (im.1.trans hk)⟩)
     simp only[List.set_cons_succ,jg];rw[if_neg ck];simp only[yU,Q7,h1,h2,vh,true_and];exact ih r i h3 oh hn.2
 refine⟨?_,?_,?_⟩
 ·rw[hle];exact C2 _ _ _ h.of (by simpa using he) hu
 ·rw[hle];have hp:=h.born;have e1:∀l:List MapEntry,l.Pairwise (fun a b=>a.born < b.born)↔(l.map MapEntry.born).Pairwise (·< ·):=fun l=>List.pairwise_map.symm
  rw[e1]at hp|-;rw[EU];exact hp
 ·rw[hle];intro x hx;have:x.born∈(es.toList.set i {e with val:=.int .i64 v}).map MapEntry.born:=QH.2 ⟨x,hx,rfl⟩;rw[EU]at this;obtain⟨y,hy,hyb⟩:=QH.1 this;rw[<- hyb];exact h.clock y hy
theorem J6 {m x:Operand}{b c:Nat}{es:Array MapEntry}{k:Nat×Int}{l:List ((Nat×Int)×Int)}(hT:Xc P t mt e)(hm:ev Γ m=some (.map (some b)))(hx:ev Γ x=some (fY k))
 (ht:Tk H [.obj b (.map es c)] R) (hl:gh es c l) (hk:wZ R.flatten k.1) (DZ:∀p∈l,wZ R.flatten p.1.1)
 (h:∀cw c' s,gh cw c' (if(ky k l).isSome then l else jg k 0 l)->MS cw s k->c'<=c+1->VO P n rs (ap d (.tuple #[.int .i64 ((ky k l).getD 0),.int .i64 s]) Γ) ([.obj b (.map cw c')]::R) Z K):VO P n (⟨d,none,.abG mt m x⟩::rs) Γ H Z K:=by
 refine VO.act rfl rfl (fun ρ aK=>⟨_,rfl,?_⟩);rw[aK _ _ hm,aK _ _ hx];refine aG.perm ht.perm ?_;obtain⟨it,i,hmt,hi,hiz⟩:=hT.map;have iC:∀(F:List kC) (c':kC),c'∈R.flatten->c'∈([kC.obj b (.map es c)]++R.flatten)++F:=fun F c' h'=>Zw _ (QB _ h')
 refine aG.bind ?_;unfold Instr.mapEntry;refine aG.step (v:=.map t it) (fun F w _=>kE hmt) ?_;simp only;refine aG.bind (aG.getObj (o:=.map es c) Zs ?_);simp only;refine aG.step (v:=()) (fun F w _=>tg hT false k) ?_;refine aG.step (v:=yA k l 0) (fun F w hs=>th hs hT (hk.more (iC F)) hl.of (fun p hp=>(DZ p hp).more (iC F))) ?_;have JF:=o9 (k:=k) (m:=l) (i:=0);cases hf:yA k l 0 with
 |none=>
  have hn:=tw hf;refine aG.step (v:=.int .i64 0) (fun F w _=>kb hi hiz) ?_;refine aG.bind (aG.setObj rfl (aG.pure (aG.pure ⟨_,[.obj b (.map (es.push {key:=fY k,val:=.int .i64 0,born:=c}) (c+1))]::R,.inl rfl,?_,?_⟩)))
  ·simp
  ·have:=h (es.push {key:=fY k,val:=.int .i64 0,born:=c}) (c+1) c (by rw[hn];exact hl.push hn) ⟨es.size,{key:=fY k,val:=.int .i64 0,born:=c},Zs,rfl,rfl⟩ (Qh _);rw[hn]at this;exact this
 |some q=>
  obtain⟨j,u⟩:=q;obtain⟨_,⟨z,hz,hzk⟩,_⟩:=I7 (q:=⟨fY k,.int .i64 0,0⟩) rfl rfl hl.of hf;simp only[Nat.sub_zero]at hz;have H7:es[j]? =some z:=by simpa using hz
  rw[hf]at JF;cases HU:ky k l with
  |none=>rw[HU]at JF;cases JF
  |some y=>
  rw[HU]at JF;simp only[Qw,Qy]at JF;have Zy:((es[j]?).map (·.key)).getD (fY k)=fY k:=by simp[H7,hzk]
  refine aG.bind (J8 _ _ (fun kk mT=>?_));have ZA:kk=fY k:=by rcases mT with h'|h';rw[h',Zy];exact h'
  subst ZA;have hsame:(es.modify j fun e=>{e with key:=fY k})=es:=by
   apply Array.ext_getElem?;intro i;rw[v9];by_cases hij:j=i
   ·subst hij;rw[H7];simp;rw[<- hzk]
   ·simp[hij]
  rw[hsame];have hb:z.born < c:=hl.clock z (by have:=Zv hz;exact this);refine aG.bind (aG.setObj rfl (aG.pure (aG.pure ⟨_,[.obj b (.map es c)]::R,.inl rfl,?_,?_⟩)))
  ·simp
  ·have:=h es c z.born (by rw[HU];exact hl) ⟨j,z,H7,rfl,hzk⟩ (Qi _);rw[HU]at this;have e2:goInt (((es[j]?).map (·.born)).getD 0)=.int .i64 (z.born:Int):=by
    rw[H7];rfl
   rw[e2,JF];exact this
theorem RB {m x y:Operand}{b c s:Nat}{es:Array MapEntry}{k:Nat×Int}{v:Int}{l:List ((Nat×Int)×Int)}(hm:ev Γ m=some (.map (some b)))(hx:ev Γ x=some (.int .i64 s))(hy:ev Γ y=some (.int .i64 v))
 (ht:Tk H [.obj b (.map es c)] R) (hl:gh es c l) (hs:MS es s k) (hu:(l.map (·.1)).Nodup)
 (h:∀cw,gh cw c (jg k v l)->VO P n rs (ap d undef Γ) ([.obj b (.map cw c)]::R) Z K):VO P n (⟨d,none,.mst mt m x y⟩::rs) Γ H Z K:=by
 refine VO.act rfl rfl (fun ρ aK=>⟨_,rfl,?_⟩);rw[aK _ _ hm,aK _ _ hx,aK _ _ hy];refine aG.perm ht.perm ?_;obtain⟨i,z,h1,h2,h3⟩:=L7 hl hs;refine aG.bind ?_;unfold Instr.entryStore;simp only;refine aG.bind (aG.getObj (o:=.map es c) Zs ?_);simp only;refine aG.step (v:=(s:Int)) (fun F w _=>by simp[asInt,asIntOf]) ?_;rw[h1];refine(aG.setObj rfl (aG.pure ⟨undef,[.obj b (.map (es.modify i fun e=>{e with val:=.int .i64 v}) c)]::R,.inr ⟨rfl,rfl⟩,?_,h _ (hl.at_ h2 h3 hu)⟩));simp
theorem WL {t:TypeId}{x:Operand}{u:Value}(hx:ev Γ x=some u)(h:∀b,VO P n rs (ap d (.pointer (some ⟨b,0,none⟩)) Γ) ((.own b u.cells.toList.length::kA b 0 u.cells.toList)::H) Z K):VO P n (⟨d,none,.box t x⟩::rs) Γ H Z K:=by
 refine VO.act rfl rfl (fun ρ aK=>⟨_,rfl,?_⟩);rw[aK _ _ hx];intro F w hs;refine⟨_,_,(.own w.heap.size u.cells.toList.length::kA w.heap.size 0 u.cells.toList)++H.flatten,rfl,⟨_,(.own w.heap.size u.cells.toList.length::kA w.heap.size 0 u.cells.toList)::H,.inl rfl,?_,h _⟩,?_⟩
 ·simp
 ·have hp:=Sat.push hs (.cells u.cells t (0,0)) (.own w.heap.size u.cells.toList.length::kA w.heap.size 0 u.cells.toList) (fun x hx=>?_) ?_
  ·rw[vf];exact hp
  ·have hb:({w with heap:=w.heap.push (.cells u.cells t (0,0))}:World).heap[w.heap.size]? =some (.cells u.cells t (0,0)):=by simp
   exact zCT
  ·rw[Q7,QN];refine⟨fun hm=>?_,de _ _ _⟩;exact zCK
end
structure UC where
 q:Nat
 args:Nat
 locals:Nat
 aB:Nat
 outer:Option Nat
 num:Nat
 ab:List Nat
 tv:Value
 ig:List Value
 nb:Nat
 es:Array MapEntry
 cl:Nat
 da:List (Nat×Int)
 cv:Value
 bZ:List Value
 body:Value
structure ax where
 q:Nat
 unit:Nat
 arg:Int
 fixed:Bool
 remote:Bool
 slot:Nat
def kM:Option Nat->Value
 |some b=>.pointer (some ⟨b,0,none⟩)
 |none=>.pointer none
def jT(t:Nat×Int):List Value:=[.pointer (some ⟨t.1,0,none⟩),.int .i64 t.2]
def UC.row(u:UC):List Value:=[.int .i64 u.args,.int .i64 u.locals,.int .i64 u.aB,kM u.outer,.int .i64 u.num,u.tv,.map (some u.nb),u.cv,u.body]
def UC.atoms(u:UC):List kC:=.own u.q 9::(kA u.q 0 u.row++(ai u.tv (u.ab.map fun b=>kM (some b)) u.ig++(ai u.cv (u.da.flatMap jT) u.bZ++[.obj u.nb (.map u.es u.cl)])))
def ax.row(v:ax):List Value:=[kM (some v.unit),.int .i64 v.arg,.bool v.fixed,.bool v.remote,.int .i64 v.slot]
def ax.atoms(v:ax):List kC:=kA v.q 0 v.row
def WK(U:List UC)(V:List ax):List kC:=U.flatMap UC.atoms++V.flatMap ax.atoms
theorem iz {α β:Type}(f:α->List β){l:List α}{i:Nat}{x:α}(h:l[i]? =some x):∃R,∀y,((l.set i y).flatMap f).Perm (f y++R):=by
 induction l generalizing i with
 |nil=>simp at h
 |cons a l ih=>
  cases i with
  |zero=>
   exact⟨l.flatMap f,fun y=>by simp⟩
  |succ i=>
   obtain⟨R,hR⟩:=ih (i:=i) (by simpa using h);refine⟨f a++R,fun y=>?_⟩;simp only[List.set_cons_succ,List.flatMap_cons];refine(vV _ (hR y)).trans ?_;exact zAT
theorem zE {α:Type}{l:List α}{i:Nat}{x:α}(h:l[i]? =some x):l.set i x=l:=by
 apply vw;intro k;rw[Vp];by_cases e:i=k
 ·subst e;have:=(Vm.1 h).1;rw[if_pos rfl,if_pos this,h]
 ·rw[if_neg e]
theorem W7 {U:List UC}{V:List ax}{i:Nat}{u:UC}(h:U[i]? =some u):∃R,(WK U V).Perm (u.atoms++R)/\∀u',(WK (U.set i u') V).Perm (u'.atoms++R):=by
 obtain⟨R,hR⟩:=iz UC.atoms h;have hr:∀u',(WK (U.set i u') V).Perm (u'.atoms++(R++V.flatMap ax.atoms)):=fun u'=>by
  unfold WK;rw[<- vf];exact vW _ (hR u')
 refine⟨R++V.flatMap ax.atoms,?_,hr⟩;have:=hr u
 rwa [zE h]at this
theorem wk_var {U:List UC}{V:List ax}{i:Nat}{v:ax}(h:V[i]? =some v):∃R,(WK U V).Perm (v.atoms++R)/\∀v',(WK U (V.set i v')).Perm (v'.atoms++R):=by
 obtain⟨R,hR⟩:=iz ax.atoms h;have hr:∀v',(WK U (V.set i v')).Perm (v'.atoms++(U.flatMap UC.atoms++R)):=fun v'=>by
  unfold WK;refine(vV _ (hR v')).trans ?_;exact zAT
 refine⟨U.flatMap UC.atoms++R,?_,hr⟩;have:=hr v
 rwa [zE h]at this
theorem zp {U:List UC}{V:List ax}{i:Nat}{u:UC}(h:U[i]? =some u):∀x∈u.atoms,x∈WK U V:=fun _ hx=>Zw _ (QG.2 ⟨u,Zv h,hx⟩)
theorem iY {U:List UC}{V:List ax}{i:Nat}{v:ax}(h:V[i]? =some v):∀x∈v.atoms,x∈WK U V:=fun _ hx=>QB _ (QG.2 ⟨v,Zv h,hx⟩)
theorem fZ {U:List UC}{V:List ax}{i:Nat}{u:UC}(h:U[i]? =some u):wZ (WK U V) u.q:=
 ⟨⟨9,zp h _ (QE ..)⟩,⟨_,zp h _ (QD _ (Zw _ (kI.2 ⟨0,_,rfl,rfl⟩)))⟩⟩
theorem R8(U:List UC)(V:List ax)(u:UC):(WK (U++[u]) V).Perm (u.atoms++WK U V):=by
 unfold WK;rw[V6,V7,vf,<- vf];refine(vW _ QP).trans ?_;rw[vf]
theorem GL(U:List UC)(V:List ax)(v:ax):(WK U (V++[v])).Perm (v.atoms++WK U V):=by
 unfold WK;rw[V6,V7,<- vf];exact QP
def yP:ax:=⟨0,0,0,false,false,0⟩
def ah.ab(st:ah)(i:Nat):List Nat:=(List.range st.vars.length).filter fun v=>decide (st.af v=i)&&decide (st.bC v < 0)
structure cr (st:ah)(nf:Nat->Nat×Int->Bool)(rf:Nat->Bool)(N:Nat->Nat)(U:List UC)(V:List ax):Prop where
 wf:Wf st
 ul:U.length=st.outer.length
 vl:V.length=st.vars.length
 inj:(U.map UC.q).Nodup
 un:∀(i:Nat) u,U[i]? =some u->u.args=st.args.getD i 0/\u.locals=0/\u.aB=0/\u.num=i/\u.da=[]/\u.cv=Nz/\u.bZ=[]
 ou:∀(i:Nat) u,U[i]? =some u->u.outer=(if st.outer.getD i (-1) < 0 then none else(U[(st.outer.getD i (-1)).toNat]?).map UC.q)
 tm:∀(i:Nat) u,U[i]? =some u->u.ab=(st.ab i).map (fun v=>(V.getD v yP).q)/\jG 1 u.tv u.ab.length (u.ab.map fun b=>kM (some b)) u.ig
 nd:∀(i:Nat) u,U[i]? =some u->∃m:List ((Nat×Int)×Int),gh u.es u.cl m/\(m.map (·.1)).Nodup/\(∀p∈m,(∃(j:Nat) (w:UC),U[j]? =some w/\p.1.1=w.q)/\0 < p.2/\p.2<=N i)/\
  ∀(j:Nat) (w:UC) (a:Int),U[j]? =some w->((ky (w.q,a) m).isSome=true↔nf i (j,a)=true)
 vn:∀(v:Nat) x y,st.vars[v]? =some x->V[v]? =some y->(∃w,U[x.unit]? =some w/\y.unit=w.q)/\y.arg=x.own/\y.fixed=x.arg/\y.remote=rf v/\y.slot=0
def cA(st:ah)(U:List UC)(V:List ax):Prop:=cr st st.bg st.rem (fun _=>st.uses.length) U V
theorem DT {U:List UC}{V:List ax}{i:Nat}{u:UC}(h:U[i]? =some u){X Y:List kC}(hx:u.atoms.Perm (X++Y)):∃R,(WK U V).Perm (X++R)/\∀u' X',u'.atoms.Perm (X'++Y)->(WK (U.set i u') V).Perm (X'++R):=by
 obtain⟨R,h1,h2⟩:=W7 (V:=V) h;exact zCO
theorem R7 {U:List UC}{V:List ax}{i:Nat}{v:ax}(h:V[i]? =some v){X Y:List kC}(hx:v.atoms.Perm (X++Y)):∃R,(WK U V).Perm (X++R)/\∀v' X',v'.atoms.Perm (X'++Y)->(WK U (V.set i v')).Perm (X'++R):=by
 obtain⟨R,h1,h2⟩:=wk_var (U:=U) h;exact zCO
theorem R6 {U:List UC}{V:List ax}{i:Nat}{u:UC}(h:U[i]? =some u):∃R,(WK U V).Perm ([.obj u.nb (.map u.es u.cl)]++R)/\∀cw nP,(WK (U.set i {u with es:=cw,cl:=nP}) V).Perm ([.obj u.nb (.map cw nP)]++R):=by
 have hx:∀cw nP,({u with es:=cw,cl:=nP}:UC).atoms.Perm ([.obj u.nb (.map cw nP)]++(.own u.q 9::(kA u.q 0 u.row++(ai u.tv (u.ab.map fun b=>kM (some b)) u.ig++ai u.cv (u.da.flatMap jT) u.bZ)))):=fun cw nP=>by
  unfold UC.atoms;show(kC.own u.q 9::(kA u.q 0 u.row++(ai u.tv (u.ab.map fun b=>kM (some b)) u.ig++(ai u.cv (u.da.flatMap jT) u.bZ++[.obj u.nb (.map cw nP)])))).Perm _;rw[<- vf,<- vf,<- vf,<- vj];refine QP.trans ?_;simp only[vf];exact vX _
 obtain⟨R,h1,h2⟩:=DT (V:=V) h (hx u.es u.cl);exact⟨R,h1,fun cw nP=>h2 _ _ (hx cw nP)⟩
theorem Mj {U:List UC}{V:List ax}{i:Nat}{v:ax}(h:V[i]? =some v):∃R,(WK U V).Perm (kA v.q 3 [.bool v.remote]++R)/\∀b,(WK U (V.set i {v with remote:=b})).Perm (kA v.q 3 [.bool b]++R):=by
 have hx:∀b,({v with remote:=b}:ax).atoms.Perm (kA v.q 3 [.bool b]++(kA v.q 0 [kM (some v.unit),.int .i64 v.arg,.bool v.fixed]++kA v.q 4 [.int .i64 v.slot])):=fun b=>by
  unfold ax.atoms ax.row;simp only[kA,vj,QL];exact(List.Perm.swap _ _ _).trans (vX _)|>.trans (by
   refine List.Perm.trans (List.Perm.swap _ _ _) ?_;exact QT (l₁:=[_,_,_])|>.trans (vX _))
 obtain⟨R,h1,h2⟩:=R7 (U:=U) h (hx v.remote);exact⟨R,h1,fun b=>h2 _ _ (hx b)⟩
theorem gf {A R X:List kC}(hp:A.Perm (X++R)){x:kC}(hx:x∈A)(hn:x∉X):x∈R:=by
 rcases QA.1 (hp.mem_iff.1 hx)with h|h
 ·exact absurd h hn
 ·exact h
theorem cr.congr {st:ah}{nf nf':Nat->Nat×Int->Bool}{rf rf':Nat->Bool}{N N':Nat->Nat}{U:List UC}{V:List ax}(h:cr st nf rf N U V)(hn:∀i t,nf' i t=nf i t)(hr:∀v,rf' v=rf v)(hN:∀i,N i<=N' i):cr st nf' rf' N' U V:=by
 refine⟨h.wf,h.ul,h.vl,h.inj,h.un,h.ou,h.tm,fun i u hu=>?_,fun v x y hx hy=>?_⟩
 ·obtain⟨m,h1,h2,h3,h4⟩:=h.nd i u hu;exact⟨m,h1,h2,fun p hp=>⟨(h3 p hp).1,(h3 p hp).2.1,by have:=(h3 p hp).2.2;have:=hN i;omega⟩,fun j w a hw=>by rw[hn];exact h4 j w a hw⟩
 ·rw[hr];exact h.vn v x y hx hy
theorem iR {α:Type}{l:List α}{c:Nat}{x y:α}(hc:l[c]? =some x){i:Nat}{z:α}(h:(l.set c y)[i]? =some z):(i=c/\z=y)∨(i≠c/\l[i]? =some z):=by
 rw[Vp]at h;by_cases e:c=i
 ·subst e;rw[if_pos rfl,if_pos (Vm.1 hc).1]at h;exact .inl ⟨rfl,(Qx h).symm⟩
 ·rw[if_neg e]at h;exact .inr ⟨fun e'=>e e'.symm,h⟩
theorem zS {U:List UC}{c:Nat}{w w':UC}(hc:U[c]? =some w)(hq:w'.q=w.q):(U.set c w').map UC.q=U.map UC.q:=by
 rw[List.map_set,hq];exact zE (by rw[Vn,hc];rfl)
theorem se {U:List UC}{c:Nat}{w w':UC}(hc:U[c]? =some w)(hq:w'.body=w.body):(U.set c w').map UC.body=U.map UC.body:=by
 rw[List.map_set,hq];exact zE (by rw[Vn,hc];rfl)
theorem CN {U U':List UC}(h:U'.map UC.q=U.map UC.q)(i:Nat):(U'[i]?).map UC.q=(U[i]?).map UC.q:=by
 have:=congrArg (fun l=>l[i]?) h;simpa using this
theorem cr.Re {st:ah}{nf:Nat->Nat×Int->Bool}{rf:Nat->Bool}{N:Nat->Nat}{U:List UC}{V:List ax}(h:cr st nf rf N U V){i j:Nat}{u w:UC}(hi:U[i]? =some u)(hj:U[j]? =some w)(e:u.q=w.q):i=j:=by
 have h1:(U.map UC.q)[i]? =some u.q:=by rw[Vn,hi];rfl
 have h2:(U.map UC.q)[j]? =some u.q:=by rw[Vn,hj,e];rfl
 have hl:=(Vm.1 h1).1;have fE:=(Vm.1 h2).1;have e1:(U.map UC.q)[i]=(U.map UC.q)[j]:=by
  rw[Zg hl]at h1;rw[Zg fE]at h2;rw[Qx h1,Qx h2]
 have hp:=List.pairwise_iff_getElem.1 h.inj;rcases Nat.lt_trichotomy i j with c|c|c
 ·exact absurd e1 (hp i j hl fE c)
 ·exact c
 ·exact absurd e1.symm (hp j i fE hl c)
theorem cr.put {st:ah}{nf:Nat->Nat×Int->Bool}{rf:Nat->Bool}{N:Nat->Nat}{U:List UC}{V:List ax}(h:cr st nf rf N U V){c j0:Nat}{w x0:UC}{a:Int}(hc:U[c]? =some w)(hx:U[j0]? =some x0){m:List ((Nat×Int)×Int)}
 (hu:(m.map (·.1)).Nodup) (hm:∀p∈m,(∃(j:Nat) (w:UC),U[j]? =some w/\p.1.1=w.q)/\0 < p.2/\p.2<=N c) (hn:∀(j:Nat) (w:UC) (a:Int),U[j]? =some w->((ky (w.q,a) m).isSome=true↔nf c (j,a)=true))
 {n:Int} {cw:Array MapEntry} {nP:Nat} (lE:gh cw nP (jg (x0.q,a) n m)) (hn0:0 < n) (K4:n<=N c+1):
 cr st (fun i t=>nf i t||(decide ((j0,a)=t)&&decide (i=c))) rf (fun i=>N i+(if i=c then 1 else 0)) (U.set c {w with es:=cw,cl:=nP}) V:=by
 have hq:=zS (w':={w with es:=cw,cl:=nP}) hc rfl;have K0:=CN hq;have aA:∀{i:Nat} {u:UC},(U.set c {w with es:=cw,cl:=nP})[i]? =some u->∃u0,U[i]? =some u0/\(u=u0∨(i=c/\u={u0 with es:=cw,cl:=nP})):=fun {i u} hi=>by
  rcases iR hc hi with⟨rfl,rfl⟩|⟨_,h'⟩
  ·exact⟨w,hc,.inr ⟨rfl,rfl⟩⟩
  ·exact⟨u,h',.inl rfl⟩
 refine⟨h.wf,by rw[Q1];exact h.ul,h.vl,by rw[hq];exact h.inj,fun i u hi=>?_,fun i u hi=>?_,fun i u hi=>?_,fun i u hi=>?_,fun v x y hvx hvy=>?_⟩
 ·obtain⟨u0,h0,e|⟨_,e⟩⟩:=aA hi
  ·rw[e];exact h.un i u0 h0
  ·rw[e];exact h.un i u0 h0
 ·rw[K0];obtain⟨u0,h0,e|⟨_,e⟩⟩:=aA hi
  ·rw[e];exact h.ou i u0 h0
  ·rw[e];exact h.ou i u0 h0
 ·obtain⟨u0,h0,e|⟨_,e⟩⟩:=aA hi
  ·rw[e];exact h.tm i u0 h0
  ·rw[e];exact h.tm i u0 h0
 ·have dY:∀{j:Nat} {u:UC},U[j]? =some u->∃u',(U.set c {w with es:=cw,cl:=nP})[j]? =some u'/\u'.q=u.q:=fun {j u} hj=>by
   have:=K0 j;rw[hj]at this;cases e:(U.set c {w with es:=cw,cl:=nP})[j]? with
   |none=>rw[e]at this;cases this
   |some u'=>rw[e]at this;exact⟨u',rfl,Qx this⟩
  have KZ:∀{j:Nat} {u:UC},(U.set c {w with es:=cw,cl:=nP})[j]? =some u->∃u',U[j]? =some u'/\u.q=u'.q:=fun {j u} hj=>by
   obtain⟨u0,h0,e|⟨_,e⟩⟩:=aA hj
   ·exact⟨u0,h0,by rw[e]⟩
   ·exact⟨u0,h0,by rw[e]⟩
  rcases iR hc hi with⟨rfl,rfl⟩|⟨ck,h'⟩
  ·refine⟨_,lE,oR hu,fun p hp=>?_,fun j w1 a1 hj=>?_⟩
   ·rcases Fq hp with rfl|hp
    ·obtain⟨u',h1,h2⟩:=dY hx;exact⟨⟨j0,u',h1,h2.symm⟩,hn0,by rw[if_pos rfl];omega⟩
    ·obtain⟨⟨j,w1,h1,h2⟩,h3,h4⟩:=hm p hp;obtain⟨u',h5,h6⟩:=dY h1;exact⟨⟨j,u',h5,h2.trans h6.symm⟩,h3,by rw[if_pos rfl];omega⟩
   ·obtain⟨u',h5,h6⟩:=KZ hj;rw[wC,h6];have hk:((x0.q,a)=(u'.q,a1))↔((j0,a)=(j,a1)):=by
     simp only[Qz];constructor
     ·rintro⟨e1,e2⟩;exact⟨h.Re hx h5 e1,e2⟩
     ·rintro⟨e1,e2⟩
      subst e1;rw[hx]at h5;exact⟨by rw[Qx h5],e2⟩
    by_cases e:(j0,a)=(j,a1)
    ·rw[if_pos (hk.2 e)];simp[e]
    ·rw[if_neg (fun e'=>e (hk.1 e'))];simp only[e,decide_false,vJ,vR];exact hn j u' a1 h5
  ·obtain⟨m',h1,h2,h3,h4⟩:=h.nd i u h';refine⟨m',h1,h2,fun p hp=>?_,fun j w1 a1 hj=>?_⟩
   ·obtain⟨⟨j,w1,h5,h6⟩,h7,h8⟩:=h3 p hp;obtain⟨u',h9,xn⟩:=dY h5;exact⟨⟨j,u',h9,h6.trans xn.symm⟩,h7,by simp only[if_neg ck];omega⟩
   ·obtain⟨u',h5,h6⟩:=KZ hj;rw[h6,h4 j u' a1 h5];simp[ck]
 ·obtain⟨⟨u,h1,h2⟩,h3⟩:=h.vn v x y hvx hvy;refine⟨?_,h3⟩;have:=K0 x.unit;rw[h1]at this;cases e:(U.set c {w with es:=cw,cl:=nP})[x.unit]? with
  |none=>rw[e]at this;cases this
  |some u'=>rw[e]at this;exact⟨u',rfl,h2.trans (Qx this).symm⟩
theorem cr.far {st:ah}{nf:Nat->Nat×Int->Bool}{rf:Nat->Bool}{N:Nat->Nat}{U:List UC}{V:List ax}(h:cr st nf rf N U V){v:Nat}{y:ax}(hv:V[v]? =some y):
 cr st nf (fun w=>rf w||decide (v=w)) N U (V.set v {y with remote:=true}):=by
 have hq:∀w,((V.set v {y with remote:=true}).getD w yP).q=(V.getD w yP).q:=fun w=>by
  rw[Vb,Vb,Vp];by_cases e:v=w
  ·subst e;rw[if_pos rfl,if_pos (Vm.1 hv).1,hv];rfl
  ·rw[if_neg e]
 refine⟨h.wf,h.ul,by rw[Q1];exact h.vl,h.inj,h.un,h.ou,fun i u hi=>?_,h.nd,fun w x z hx hz=>?_⟩
 ·obtain⟨h1,h2⟩:=h.tm i u hi;refine⟨?_,h2⟩;rw[h1];exact Q6 fun w _=>(hq w).symm
 ·rcases iR hv hz with⟨rfl,rfl⟩|⟨ck,h'⟩
  ·obtain⟨h1,h2,h3,h4,h5⟩:=h.vn w x y hx hv;exact⟨h1,h2,h3,Zs,h5⟩
  ·obtain⟨h1,h2,h3,h4,h5⟩:=h.vn w x z hx h';refine⟨h1,h2,h3,?_,h5⟩;rw[h4];have:decide (v=w)=false:=Zf (fun e=>ck e.symm);rw[this,vR]
theorem cr.useS {st:ah}{nf:Nat->Nat×Int->Bool}{rf:Nat->Bool}{N:Nat->Nat}{U:List UC}{V:List ax}(h:cr st nf rf N U V){u v:Nat}(hu:u < st.outer.length)(hv:v < st.vars.length):cr (st.use u v) nf rf N U V:=
 ⟨h.wf.use hu hv,h.ul,h.vl,h.inj,h.un,h.ou,h.tm,h.nd,h.vn⟩
def lR(st:ah)(v:Nat)(l:List Nat)(i:Nat)(t:Nat×Int):Bool:=st.bg i t||(decide ((st.af v,st.bC v)=t)&&decide (i∈l))
theorem AT(st:ah)(v i:Nat)(t:Nat×Int):lR st v [] i t=st.bg i t:=by simp[lR]
theorem Hx(st:ah)(v:Nat)(l:List Nat)(c i:Nat)(t:Nat×Int):lR st v (l++[c]) i t=(lR st v l i t||(decide ((st.af v,st.bC v)=t)&&decide (i=c))):=by
 unfold lR;rw[vO,<- Bool.and_or_distrib_left]
 congr 2
 rw[<- Bool.decide_or];simp
theorem Kx(st:ah)(v u i:Nat)(t:Nat×Int):(st.use u v).bg i t=lR st v (st.way u v) i t:=Ft st u v i t
theorem L9(st:ah)(x:fF)(i:Nat):(st.aX x).ab i=st.ab i++(if x.unit=i/\x.own < 0 then [st.vars.length]else []):=by
 unfold ah.ab;have hl:(st.aX x).vars.length=st.vars.length+1:=by unfold ah.aX;simp
 rw[hl,List.range_succ,vx]
 congr 1
 ·refine List.filter_congr fun v hv=>?_
  have:=QJ.1 hv;rw[cU st x this,sj st x this]
 ·have e1:(st.aX x).af st.vars.length=x.unit:=by unfold ah.af ah.aX;simp
  have e2:(st.aX x).bC st.vars.length=x.own:=by unfold ah.bC ah.aX;simp
  simp only[vy,List.filter_nil,e1,e2];by_cases h1:x.unit=i <;> by_cases h2:x.own < 0 <;> simp[h1,h2]
theorem yL {st:ah}{i v:Nat}(h:v∈st.ab i):v < st.vars.length:=by
 unfold ah.ab at h;exact QJ.1 (QF.1 h).1
theorem cr.aX {st:ah}{U U':List UC}{V:List ax}(h:cA st U V){x:fF}{y:ax}{i:Nat}{u u':UC}(hx:x.unit=i)(hu:U[i]? =some u)(ho:-1<=x.own/\x.own < st.args.getD i 0)
 (hy:y.unit=u.q/\y.arg=x.own/\y.fixed=x.arg/\y.remote=false/\y.slot=0) (hU:U'=U.set i u') (og:u'={u with ab:=u'.ab,tv:=u'.tv,ig:=u'.ig}) (ht:u'.ab=u.ab++(if x.own < 0 then [y.q]else [])) (hs:jG 1 u'.tv u'.ab.length (u'.ab.map fun b=>kM (some b)) u'.ig):
 cA (st.aX x) U' (V++[y]):=by
 have hq':u'.q=u.q:=by rw[og]
 have G4:U'.map UC.q=U.map UC.q:=by rw[hU];exact zS hu hq'
 have K0:=CN G4;have et:i < st.outer.length:=by have:=(Vm.1 hu).1;rw[h.ul]at this;exact this
 have aA:∀{j:Nat} {w:UC},U'[j]? =some w->(j≠i/\U[j]? =some w)∨(j=i/\w=u'):=fun {j w} hj=>by
  rw[hU]at hj;rcases iR hu hj with⟨rfl,rfl⟩|⟨h1,h2⟩
  ·exact .inr ⟨rfl,rfl⟩
  ·exact .inl ⟨h1,h2⟩
 have dY:∀{j:Nat} {w:UC},U[j]? =some w->∃w',U'[j]? =some w'/\w'.q=w.q:=fun {j w} hj=>by
  have:=K0 j;rw[hj]at this;cases e:U'[j]? with
  |none=>rw[e]at this;cases this
  |some w'=>rw[e]at this;exact⟨w',rfl,Qx this⟩
 have KZ:∀{j:Nat} {w:UC},U'[j]? =some w->∃w',U[j]? =some w'/\w.q=w'.q:=fun {j w} hj=>by
  rcases aA hj with⟨_,h'⟩|⟨rfl,rfl⟩
  ·exact⟨w,h',rfl⟩
  ·exact⟨u,hu,hq'⟩
 have hold:∀{v:Nat},v < st.vars.length->(V++[y]).getD v yP=V.getD v yP:=fun {v} hv=>cC (by rw[h.vl];exact hv)
 have tQ:(V++[y]).getD st.vars.length yP=y:=by
  rw[Vb,Ve (by rw[h.vl];exact Qh _),h.vl,Qn];rfl
 refine⟨h.wf.aX (by rw[hx];exact et) (by rw[hx];exact ho),by rw[hU,Q1];exact h.ul,?_,by rw[G4];exact h.inj,fun j w hj=>?_,fun j w hj=>?_,fun j w hj=>?_,fun j w hj=>?_,fun v a b ha hb=>?_⟩
 ·show(V++[y]).length=(st.vars++[x]).length;rw[Vt,Vt,h.vl];rfl
 ·rcases aA hj with⟨_,h'⟩|⟨rfl,rfl⟩
  ·exact h.un j w h'
  ·rw[og];exact h.un j u hu
 ·show w.outer=(if st.outer.getD j (-1) < 0 then none else(U'[(st.outer.getD j (-1)).toNat]?).map UC.q);rw[K0];rcases aA hj with⟨_,h'⟩|⟨rfl,rfl⟩
  ·exact h.ou j w h'
  ·rw[og];exact h.ou j u hu
 ·rw[L9,Q5];have CX:(st.ab j).map (fun v=>((V++[y]).getD v yP).q)=(st.ab j).map (fun v=>(V.getD v yP).q):=Q6 fun v hv=>by rw[hold (yL hv)]
  rw[CX];rcases aA hj with⟨ck,h'⟩|⟨rfl,rfl⟩
  ·rw[if_neg (by rintro⟨e,_⟩;exact ck (e.symm.trans hx))];rw[Q9,vg];exact h.tm j w h'
  ·refine⟨?_,hs⟩;rw[ht,(h.tm j u hu).1]
   congr 1
   by_cases hn:x.own < 0
   ·rw[if_pos hn,if_pos ⟨hx,hn⟩,List.map_singleton,tQ]
   ·rw[if_neg hn,if_neg (fun e=>hn e.2)];rfl
 ·have Mw:∃m:List ((Nat×Int)×Int),gh w.es w.cl m/\(m.map (·.1)).Nodup/\(∀p∈m,(∃(j:Nat) (w:UC),U[j]? =some w/\p.1.1=w.q)/\0 < p.2/\p.2<=st.uses.length)/\∀(k:Nat) (w:UC) (a:Int),U[k]? =some w->((ky (w.q,a) m).isSome=true↔st.bg j (k,a)=true):=by
   rcases aA hj with⟨_,h'⟩|⟨rfl,rfl⟩
   ·exact h.nd j w h'
   ·rw[og];exact h.nd j u hu
  obtain⟨m,h1,h2,h3,h4⟩:=Mw;refine⟨m,h1,h2,fun p hp=>?_,fun k z a hk=>?_⟩
  ·obtain⟨⟨k,z,h5,h6⟩,h7⟩:=h3 p hp;obtain⟨z',h8,h9⟩:=dY h5;exact⟨⟨k,z',h8,h6.trans h9.symm⟩,h7⟩
  ·obtain⟨z',h8,h9⟩:=KZ hk;rw[h9,h4 k z' a h8,h.wf.OX]
 ·have Sl:(st.vars++[x])[v]? =some a:=ha;rw[Vc]at Sl;split at Sl
  ·rename_i hv;rw[Vd (by rw[h.vl];exact hv)]at hb;obtain⟨⟨z,h1,h2⟩,h3,h4,h5,h6⟩:=h.vn v a b Sl hb;obtain⟨z',h8,h9⟩:=dY h1;exact⟨⟨z',h8,h2.trans h9.symm⟩,h3,h4,by rw[h5,h.wf.Wq x hv],h6⟩
  ·rename_i hv;have hlen:=(Vm.1 Sl).1;simp only[Q3]at hlen;have e:v=st.vars.length:=by omega
   subst e;rw[Qn]at Sl;obtain rfl:x=a:=by simpa using Sl
   rw[Ve (by rw[h.vl];exact Qh _),h.vl,Qn]at hb;obtain rfl:y=b:=by simpa using hb
   obtain⟨y1,y2,y3,y4,y5⟩:=hy;obtain⟨z',h8,h9⟩:=dY hu;exact⟨⟨z',by rw[hx];exact h8,y1.trans h9.symm⟩,y2,y3,by rw[y4,h.wf.Ws],y5⟩
theorem R9 {U:List UC}{V:List ax}{i:Nat}{u:UC}(h:U[i]? =some u):∃R,(WK U V).Perm ((kA u.q 5 [u.tv]++ai u.tv (u.ab.map fun b=>kM (some b)) u.ig)++R)/\
 ∀l MF DQ,(WK (U.set i {u with ab:=l,tv:=MF,ig:=DQ}) V).Perm ((kA u.q 5 [MF]++ai MF (l.map fun b=>kM (some b)) DQ)++R):=by
 have hx:∀l MF DQ,({u with ab:=l,tv:=MF,ig:=DQ}:UC).atoms.Perm ((kA u.q 5 [MF]++ai MF (l.map fun b=>kM (some b)) DQ)++
  (.own u.q 9::(kA u.q 0 [.int .i64 u.args,.int .i64 u.locals,.int .i64 u.aB,kM u.outer,.int .i64 u.num]++(kA u.q 6 [.map (some u.nb),u.cv,u.body]++(ai u.cv (u.da.flatMap jT) u.bZ++[.obj u.nb (.map u.es u.cl)]))))):=fun l MF DQ=>by
  unfold UC.atoms UC.row;simp only[kA,vj,QL,vf];generalize ai MF (l.map fun b=>kM (some b)) DQ=S1;generalize ai u.cv (u.da.flatMap jT) u.bZ++[.obj u.nb (.map u.es u.cl)]=S2;have h6:∀(a b c d e f g:kC) (X Y:List kC),(a::b::c::d::e::f::g::(X++Y)).Perm (g::X++(a::b::c::d::e::f::Y)):=fun a b c d e f g X Y=>by
   have e1:(a::b::c::d::e::f::g::(X++Y))=[a,b,c,d,e,f]++((g::X)++Y):=rfl;rw[e1,<- vf];exact zCJ
  have h3:∀(a b c:kC) (X Y:List kC),(a::b::c::(X++Y)).Perm (X++(a::b::c::Y)):=fun a b c X Y=>by
   have e1:(a::b::c::(X++Y))=[a,b,c]++(X++Y):=rfl;rw[e1,<- vf];exact zCJ
  have:=h6 (.own u.q 9) (.cell u.q 0 (.int .i64 u.args)) (.cell u.q (0+1) (.int .i64 u.locals)) (.cell u.q (0+1+1) (.int .i64 u.aB)) (.cell u.q (0+1+1+1) (kM u.outer)) (.cell u.q (0+1+1+1+1) (.int .i64 u.num)) (.cell u.q 5 MF) S1 (.cell u.q 6 (.map (some u.nb)):: .cell u.q 7 u.cv:: .cell u.q 8 u.body::S2);refine List.Perm.trans ?_ this;refine List.Perm.cons _ (List.Perm.cons _ (List.Perm.cons _ (List.Perm.cons _ (List.Perm.cons _ (List.Perm.cons _ (List.Perm.cons _ ?_))))));exact h3 _ _ _ _ _
 obtain⟨R,h1,h2⟩:=DT (V:=V) h (hx u.ab u.tv u.ig);exact⟨R,h1,fun l MF DQ=>h2 _ _ (hx l MF DQ)⟩
end Go.V

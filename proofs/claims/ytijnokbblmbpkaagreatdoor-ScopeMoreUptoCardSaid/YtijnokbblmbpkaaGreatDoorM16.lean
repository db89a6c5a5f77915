/-
  What is gone through only grows; what is wrong first stays so.
-/
import Derived.Test.YtijnokbblmbpkaaGreatDoorM15
import Derived.Test.YtijnokbblmbpkaaGreatDoorM5
import Derived.Test.YtijnokbblmbpkaaGreatDoorM6
set_option linter.all false
namespace Go.V
open Go
structure Gr (a b:ah):Prop where
 f:∀e,a.f=some e->b.f=some e
 vars:a.vars <+:b.vars
 outer:a.outer <+:b.outer
 args:a.args <+:b.args
 uses:a.uses <+:b.uses
 Yz:b.ai.length=b.outer.length↔a.ai.length=a.outer.length
theorem Gr.refl(a:ah):Gr a a:=⟨fun _ h=>h,Qc _,Qc _,Qc _,Qc _,Iff.rfl⟩
theorem Gr.trans {a b c:ah}(h:Gr a b)(k:Gr b c):Gr a c:=
 ⟨fun e he=>k.f e (h.f e he),h.vars.trans k.vars,h.outer.trans k.outer,h.args.trans k.args,h.uses.trans k.uses,k.Yz.trans h.Yz⟩
theorem xK(a:ah)(e:Nat)(p:Int):Gr a (a.wrong e p):=by
 unfold ah.wrong;split
 ·rename_i h;refine⟨fun x hx=>?_,Qc _,Qc _,Qc _,Qc _,Iff.rfl⟩;rw[hx]at h;cases h
 ·exact Gr.refl a
theorem DC(a:ah)(l:List fS):Gr a {a with vars:=a.vars++l}:=⟨fun _ h=>h,Qa _ _,Qc _,Qc _,Qc _,Iff.rfl⟩
theorem DB(a:ah)(l:List (Nat×Nat)):Gr a {a with uses:=a.uses++l}:=⟨fun _ h=>h,Qc _,Qc _,Qc _,Qa _ _,Iff.rfl⟩
theorem Kr(a:ah)(o:Int)(n:Nat):Gr a {a with outer:=a.outer++[o],args:=a.args++[n],ai:=a.ai++[[]]}:=
 ⟨fun _ h=>h,Qc _,Qa _ _,Qa _ _,Qc _,Zs⟩
theorem UY(a:ah)(i:Nat)(b:List PN):Gr a {a with ai:=a.ai.set i b}:=
 ⟨fun _ h=>h,Qc _,Qc _,Qc _,Qc _,Zs⟩
theorem dh(a:ah)(e:Nat)(p:Int):(a.wrong e p).vars=a.vars:=by unfold ah.wrong;split <;> rfl
theorem AE(a:ah)(e:Nat)(p:Int):(a.wrong e p).uses=a.uses:=by unfold ah.wrong;split <;> rfl
theorem dZ(a:ah)(e:Nat)(p:Int):(a.wrong e p).outer=a.outer:=by unfold ah.wrong;split <;> rfl
theorem zf(unit:Nat)(arg own:Bool)(p:Int):∀(l:List ByteArray) (i:Nat) (st:ah) (env:List Nat),Gr st (kP unit arg own p l i st env).1
 |[],_,st,_=>Gr.refl st
 |nm::r,i,st,env=>by
  unfold kP;refine Gr.trans ?_ (zf unit arg own p r _ _ _);split
  ·refine Gr.trans (xK st 180 p) ?_;have:=DC (st.wrong 180 p) [⟨nm,unit,arg,if arg&&own then i else -1⟩];rw[dh]at this;exact this
  ·exact DC st _
theorem sn(F G:List ByteArray)(st:ah)(env:List Nat)(nm:ByteArray)(u:Nat)(p:Int)(put:Bool):Gr st (wD F G st env nm u p put).2:=by
 unfold wD;split
 ·exact Gr.refl st
 ·split
  ·rename_i v _;simp only;split
   ·refine Gr.trans (xK st 182 p) ?_;have:=DB (st.wrong 182 p) [(u,v)];rw[AE]at this;exact this
   ·exact DB st _
  ·split
   ·exact Gr.refl st
   ·simp only;split
    ·exact Gr.refl st
    ·exact xK st 181 p
section
variable (F G:List ByteArray) (k:Nat) (s:ByteArray) (lit:Lt) (args ab:List ByteArray) (kids:List Nd) (p:Int) (st:ah) (env:List Nat) (u:Nat)
theorem je(x:Nd)(r:List Nd):kT F G (x::r) st env u=((j9 F G x st env u).1::(kT F G r (j9 F G x st env u).2 env u).1,(kT F G r (j9 F G x st env u).2 env u).2):=by rw[kT]
theorem zN(x:Nd)(r:List Nd)(i:Nat)(h:yM s i=true):kf F G s (x::r) i st env u=((zo F G x st env u).1::(kf F G s r (i+1) (zo F G x st env u).2 env u).1,
 (if jQ s=5 then cG st.vars.length::(kf F G s r (i+1) (zo F G x st env u).2 env u).2.1 else(kf F G s r (i+1) (zo F G x st env u).2 env u).2.1),(kf F G s r (i+1) (zo F G x st env u).2 env u).2.2):=by rw[kf,if_pos h]
theorem we(x:Nd)(r:List Nd)(i:Nat)(h:yM s i=false):kf F G s (x::r) i st env u=((j9 F G x st env u).1::(kf F G s r (i+1) (j9 F G x st env u).2 env u).1,
 (kf F G s r (i+1) (j9 F G x st env u).2 env u).2.1,(kf F G s r (i+1) (j9 F G x st env u).2 env u).2.2):=by rw[kf,if_neg (by rw[h];simp)]
theorem zd(h:fU k s kids=true):j9 F G (.mk k s lit args ab kids p) st env u=(.mk (ib s) (lG s) fV (kf F G s kids 0 st env u).2.1 0 false (kf F G s kids 0 st env u).1,(kf F G s kids 0 st env u).2.2):=by
 unfold j9;rw[if_pos h]
def aW(o:Int):ah×List Nat:=
 kP st.outer.length false true p ab 0 (kP st.outer.length true true p args 0 (({st with outer:=st.outer++[o],args:=st.args++[args.length],ai:=st.ai++[[]]}:ah)) env).1 (kP st.outer.length true true p args 0 (({st with outer:=st.outer++[o],args:=st.args++[args.length],ai:=st.ai++[[]]}:ah)) env).2
theorem wC(o:Int):oH F G args ab kids p st env o={(kT F G kids (aW args ab p st env o).1 (aW args ab p st env o).2 st.outer.length).2 with ai:=(kT F G kids (aW args ab p st env o).1 (aW args ab p st env o).2 st.outer.length).2.ai.set st.outer.length (kT F G kids (aW args ab p st env o).1 (aW args ab p st env o).2 st.outer.length).1}:=by
 unfold oH aW;rfl
section
variable (h:fU k s kids=false)
include h
theorem eF(hk:k=1):j9 F G (.mk k s lit args ab kids p) st env u=(.mk 1 e0 lit [] 0 false [],st):=by
 unfold j9;rw[if_neg (by rw[h];simp),if_pos hk]
theorem eG(hk:k=2):j9 F G (.mk k s lit args ab kids p) st env u=(.mk 2 e0 fV [(wD F G st env s u p false).1] 0 false [],(wD F G st env s u p false).2):=by
 unfold j9;rw[if_neg (by rw[h];simp),if_neg Zo,if_pos hk]
theorem eH(hk:k=3):j9 F G (.mk k s lit args ab kids p) st env u=(.mk 3 e0 fV [(wD F G st env s u p true).1] 0 false (kT F G kids (wD F G st env s u p true).2 env u).1,(kT F G kids (wD F G st env s u p true).2 env u).2):=by
 unfold j9;rw[if_neg (by rw[h];simp),if_neg Zo,if_neg Zo,if_pos hk]
theorem eL(hk:k=7):j9 F G (.mk k s lit args ab kids p) st env u=(.mk 8 e0 fV [] st.outer.length false [],oH F G args ab kids p st env u):=by
 unfold j9;rw[if_neg (by rw[h];simp),if_neg Zo,if_neg Zo,if_neg Zo,if_pos hk];rfl
theorem eM(hk:k=8):j9 F G (.mk k s lit args ab kids p) st env u=(.mk 9 e0 fV [] 0 false (kT F G kids st env u).1,(kT F G kids st env u).2):=by
 unfold j9;rw[if_neg (by rw[h];simp),if_neg Zo,if_neg Zo,if_neg Zo,if_neg Zo,if_pos hk]
theorem eN(hk:k=9):j9 F G (.mk k s lit args ab kids p) st env u=(.mk 10 e0 fV [] 0 false (kT F G kids st env u).1,(kT F G kids st env u).2):=by
 unfold j9;rw[if_neg (by rw[h];simp),if_neg Zo,if_neg Zo,if_neg Zo,if_neg Zo,if_neg Zo,if_pos hk]
theorem eK(hk:k=6):j9 F G (.mk k s lit args ab kids p) st env u=(.mk 7 s fV [] 0 false (kT F G kids st env u).1,(kT F G kids st env u).2):=by
 unfold j9;rw[if_neg (by rw[h];simp),if_neg Zo,if_neg Zo,if_neg Zo,if_neg Zo,if_neg Zo,if_neg Zo,if_pos hk]
theorem eJ(hk:k=5):j9 F G (.mk k s lit args ab kids p) st env u=(.mk 6 e0 fV [] 0 false (zD (jS kids) (kT F G kids st env u).1),(kT F G kids st env u).2):=by
 unfold j9;rw[if_neg (by rw[h];simp),if_neg Zo,if_neg Zo,if_neg Zo,if_neg Zo,if_neg Zo,if_neg Zo,if_neg Zo,if_pos hk]
theorem yJ(hk:k≠1/\k≠2/\k≠3/\k≠5/\k≠6/\k≠7/\k≠8/\k≠9)(hs:jS kids=true):j9 F G (.mk k s lit args ab kids p) st env u=(.mk 5 s fV [] 0 false (kT F G kids.tail st env u).1,(kT F G kids.tail st env u).2):=by
 obtain⟨h1,h2,h3,h5,h6,h7,h8,h9⟩:=hk;unfold j9;rw[if_neg (by rw[h];simp),if_neg h1,if_neg h2,if_neg h3,if_neg h7,if_neg h8,if_neg h9,if_neg h6,if_neg h5,if_pos hs];cases kids with
 |nil=>cases hs
 |cons x r=>rfl
theorem eI(hk:k≠1/\k≠2/\k≠3/\k≠5/\k≠6/\k≠7/\k≠8/\k≠9)(hs:jS kids=false):j9 F G (.mk k s lit args ab kids p) st env u=(.mk 4 s fV [] 0 false (kT F G kids st env u).1,(kT F G kids st env u).2):=by
 obtain⟨h1,h2,h3,h5,h6,h7,h8,h9⟩:=hk;unfold j9;rw[if_neg (by rw[h];simp),if_neg h1,if_neg h2,if_neg h3,if_neg h7,if_neg h8,if_neg h9,if_neg h6,if_neg h5,if_neg (by rw[hs];simp)]
end
theorem dw:zo F G (.mk k s lit args ab kids p) st env u=
 (.mk 14 e0 fV ((List.range' (kP u true false p args 0 st env).1.vars.length ab.length).map cG) 0 false
   (kT F G kids (kP u false false p ab 0 (kP u true false p args 0 st env).1 (kP u true false p args 0 st env).2).1 (kP u false false p ab 0 (kP u true false p args 0 st env).1 (kP u true false p args 0 st env).2).2 u).1,
  (kT F G kids (kP u false false p ab 0 (kP u true false p args 0 st env).1 (kP u true false p args 0 st env).2).1 (kP u false false p ab 0 (kP u true false p args 0 st env).1 (kP u true false p args 0 st env).2).2 u).2):=by rw[zo]
end
theorem wd(F G:List ByteArray):∀(N:Nat) (x:Nd),x.size<=N->∀st env u,Gr st (j9 F G x st env u).2/\Gr st (zo F G x st env u).2:=by
 intro N
 induction N with
 |zero=>intro x hx;have:=x.size_pos;omega
 |succ N ih=>
  have au:∀l:List Nd,Nd.aq l<=N->∀st env u,Gr st (kT F G l st env u).2:=by
   intro l
   induction l with
   |nil=>intro _ st env u;rw[kT];exact Gr.refl st
   |cons x r oj=>
    exact zEM
  have iy:∀(s:ByteArray) (l:List Nd),Nd.aq l<=N->∀i st env u,Gr st (kf F G s l i st env u).2.2:=by
   intro s l
   induction l with
   |nil=>intro _ i st env u;rw[kf];exact Gr.refl st
   |cons x r oj=>
    exact zC4
  intro x hx st env u;cases x with
  |mk k s lit args ab kids p=>
  simp only[Nd.size]at hx;have hk:Nd.aq kids<=N:=by omega
  refine⟨?_,?_⟩
  ·cases h:fU k s kids with
   |true=>rw[zd _ _ _ _ _ _ _ _ _ _ _ _ h];exact iy s kids hk 0 st env u
   |false=>
    by_cases h1:k=1
    ·rw[eF _ _ _ _ _ _ _ _ _ _ _ _ h h1];exact Gr.refl st
    by_cases h2:k=2
    ·rw[eG _ _ _ _ _ _ _ _ _ _ _ _ h h2];exact sn F G st env s u p false
    by_cases h3:k=3
    ·rw[eH _ _ _ _ _ _ _ _ _ _ _ _ h h3];exact(sn F G st env s u p true).trans (au kids hk _ env u)
    by_cases h7:k=7
    ·rw[eL _ _ _ _ _ _ _ _ _ _ _ _ h h7];simp only;rw[wC];refine Gr.trans ?_ (Gr.trans (au kids hk _ _ _) (UY _ _ _));exact Gr.trans (Kr st _ _) (Gr.trans (zf _ _ _ _ _ _ _ _) (zf _ _ _ _ _ _ _ _))
    by_cases h8:k=8
    ·rw[eM _ _ _ _ _ _ _ _ _ _ _ _ h h8];exact au kids hk st env u
    by_cases h9:k=9
    ·rw[eN _ _ _ _ _ _ _ _ _ _ _ _ h h9];exact au kids hk st env u
    by_cases h6:k=6
    ·rw[eK _ _ _ _ _ _ _ _ _ _ _ _ h h6];exact au kids hk st env u
    by_cases h5:k=5
    ·rw[eJ _ _ _ _ _ _ _ _ _ _ _ _ h h5];exact au kids hk st env u
    cases hs:jS kids with
    |true=>
     rw[yJ _ _ _ _ _ _ _ _ _ _ _ _ h ⟨h1,h2,h3,h5,h6,h7,h8,h9⟩ hs];refine au kids.tail ?_ st env u;exact zCP
    |false=>rw[eI _ _ _ _ _ _ _ _ _ _ _ _ h ⟨h1,h2,h3,h5,h6,h7,h8,h9⟩ hs];exact au kids hk st env u
  ·rw[dw];exact Gr.trans (zf _ _ _ _ _ _ _ _) (Gr.trans (zf _ _ _ _ _ _ _ _) (au kids hk _ _ _))
structure Wf (st:ah):Prop where
 al:st.args.length=st.outer.length
 bl:st.ai.length=st.outer.length
 low:∀(i:Nat) o,st.outer[i]? =some o->-1<=o/\o < i
 vu:∀(v:Nat) x,st.vars[v]? =some x->x.unit < st.outer.length/\-1<=x.own/\x.own < st.args.getD x.unit 0
 uu:∀q∈st.uses,q.1 < st.outer.length/\q.2 < st.vars.length
theorem Wf.ef {st:ah}(h:Wf st)(i:Nat):st.outer.getD i (-1) < i:=by
 rw[Vh];cases e:st.outer[i]? with
 |none=>simp only[Option.getD_none];omega
 |some o=>exact(h.low i o e).2
theorem ER(o:List Int)(n:Nat){u:Int}(h:u < 0):Ay o n u=[]:=by
 cases n with
 |zero=>rfl
 |succ n=>simp only[Ay];rw[if_pos h]
theorem Tp {o:List Int}(h:∀i,o.getD i (-1) < (i:Int)):∀(u n m:Nat),u < n->u < m->Ay o n u=Ay o m u:=by
 intro u
 induction u using Nat.strongRecOn with
 |_ u ih=>
  intro n m hn hm;cases n with
  |zero=>omega
  |succ n=>
   cases m with
   |zero=>omega
   |succ m=>
    simp only[Ay];rw[if_neg Zo,if_neg Zo]
    congr 1
    rw[vV];have hl:=h u;by_cases c:o.getD u (-1) < 0
    ·rw[ER o n c,ER o m c]
    ·have e:o.getD u (-1)=((o.getD u (-1)).toNat:Int):=by omega
     rw[e];exact ih _ Zo n m Zo Zo
theorem Wf.line {st:ah}(h:Wf st){u:Nat}(hu:u<=st.outer.length):st.line u=u::(if st.outer.getD u (-1) < 0 then []else st.line (st.outer.getD u (-1)).toNat):=by
 unfold ah.line;have hl:=h.ef u;rw[Ay,if_neg Zo,vV]
 congr 1
 by_cases c:st.outer.getD u (-1) < 0
 ·rw[if_pos c,ER _ _ c]
 ·rw[if_neg c];have e:st.outer.getD u (-1)=((st.outer.getD u (-1)).toNat:Int):=by omega
  have:=Tp h.ef (st.outer.getD u (-1)).toNat st.outer.length (st.outer.length+1) Zo Zo;rw[<- e]at this;rw[<- e];exact this
theorem Wf.rE {st:ah}(h:Wf st){u v:Nat}(hu:u<=st.outer.length)(e:u=st.af v):st.way u v=[]:=by
 unfold ah.way;rw[h.line hu,List.takeWhile_cons,if_neg (by simp[e])]
theorem Wf.rF {st:ah}(h:Wf st){u v:Nat}(hu:u<=st.outer.length)(e:u≠st.af v):st.way u v=u::(if st.outer.getD u (-1) < 0 then []else st.way (st.outer.getD u (-1)).toNat v):=by
 unfold ah.way;rw[h.line hu,List.takeWhile_cons,if_pos (by simp[e])]
 congr 1
 split <;> rfl
theorem Wf.uH {st:ah}(h:Wf st):∀(u:Nat),u<=st.outer.length->∀w∈st.line u,w<=u:=by
 intro u
 induction u using Nat.strongRecOn with
 |_ u ih=>
  intro hu w hw;rw[h.line hu]at hw;rcases QH.1 hw with rfl|hw
  ·exact Qn _
  ·have hl:=h.ef u;split at hw
   ·cases hw
   ·have:=ih (st.outer.getD u (-1)).toNat Zo Zo w hw;omega
def ah.use(st:ah)(u v:Nat):ah:={st with uses:=st.uses++[(u,v)]}
theorem KW(st:ah)(u v w:Nat):(st.use u v).rem w=(st.rem w||(decide (v=w)&&decide (st.bt w < 0)&&decide (st.af w≠u))):=by
 unfold ah.rem ah.use;simp only[List.any_append,vf,List.any_nil,vT];rfl
theorem G1(st:ah)(u v j:Nat)(t:Nat×Int):(st.use u v).bg j t=(st.bg j t||(decide ((st.af v,st.bt v)=t)&&decide (j∈st.way u v))):=by
 unfold ah.bg ah.use;simp only[List.any_append,vf,List.any_nil,vT];rfl
theorem Wf.use {st:ah}(h:Wf st){u v:Nat}(hu:u < st.outer.length)(hv:v < st.vars.length):Wf (st.use u v):=
 ⟨h.al,h.bl,h.low,h.vu,fun q hq=>by
   rcases QF.1 hq with hq|hq
   ·exact h.uu q hq
   ·obtain rfl:=QR.1 hq;exact⟨hu,hv⟩⟩
def ah.bf(st:ah)(x:fS):ah:={st with vars:=st.vars++[x]}
theorem dc(st:ah)(x:fS){v:Nat}(hv:v < st.vars.length):(st.bf x).af v=st.af v:=by
 unfold ah.af ah.bf;simp only;rw[Vj hv]
theorem sQ(st:ah)(x:fS){v:Nat}(hv:v < st.vars.length):(st.bf x).bt v=st.bt v:=by
 unfold ah.bt ah.bf;simp only;rw[Vj hv]
theorem any_congr {α:Type}{l:List α}{p q:α->Bool}(h:∀x∈l,p x=q x):l.any p=l.any q:=by
 induction l with
 |nil=>rfl
 |cons x l ih=>rw[vf,vf,h x Zs,ih (fun y hy=>h y B9)]
theorem Yl(st:ah)(x:fS)(u:Nat){v:Nat}(hv:v < st.vars.length):(st.bf x).way u v=st.way u v:=by
 unfold ah.way;rw[dc st x hv];rfl
theorem Wf.R3 {st:ah}(h:Wf st)(x:fS)(j:Nat)(t:Nat×Int):(st.bf x).bg j t=st.bg j t:=by
 unfold ah.bg;refine any_congr (l:=st.uses) (fun q hq=>?_);have:=(h.uu q hq).2;rw[dc st x this,sQ st x this,Yl st x _ this]
theorem Wf.XO {st:ah}(h:Wf st)(x:fS){v:Nat}(hv:v < st.vars.length):(st.bf x).rem v=st.rem v:=by
 unfold ah.rem;refine any_congr (l:=st.uses) (fun q hq=>?_);rw[dc st x hv,sQ st x hv]
theorem Wf.XP {st:ah}(h:Wf st)(x:fS):(st.bf x).rem st.vars.length=false:=by
 unfold ah.rem;rw[vg];intro q hq;have:=(h.uu q hq).2;simp only[vF,decide_eq_true_eq,not_and];intro e;omega
theorem Wf.bf {st:ah}(h:Wf st){x:fS}(hx:x.unit < st.outer.length)(ho:-1<=x.own/\x.own < st.args.getD x.unit 0):Wf (st.bf x):=
 ⟨h.al,h.bl,h.low,fun v y hy=>by
   unfold ah.bf at hy;simp only at hy;rw[Vi]at hy;split at hy
   ·exact h.vu v y hy
   ·have:=(Vt.1 hy).1;simp only[Q8]at this;have e:v - st.vars.length=0:=by omega
    rw[e]at hy;obtain rfl:x=y:=by simpa using hy
    exact⟨hx,ho⟩,fun q hq=>⟨(h.uu q hq).1,by have:=(h.uu q hq).2;show q.2 < (st.vars++[x]).length;rw[Vy];omega⟩⟩
def ah.aF(st:ah)(o:Int)(n:Nat):ah:={st with outer:=st.outer++[o],args:=st.args++[n],ai:=st.ai++[[]]}
theorem cN {α:Type}{l:List α}{x d:α}{i:Nat}(h:i < l.length):(l++[x]).getD i d=l.getD i d:=by
 rw[Vh,Vh,Vj h]
theorem Wf.aF {st:ah}(h:Wf st){o:Int}{n:Nat}(ho:-1<=o/\o < st.outer.length):Wf (st.aF o n):=by
 refine⟨?_,?_,fun i p hp=>?_,fun v x hx=>?_,fun q hq=>?_⟩
 ·unfold ah.aF;simp only[Vy,Q8];rw[h.al]
 ·unfold ah.aF;simp only[Vy,Q8];rw[h.bl]
 ·unfold ah.aF at hp;simp only at hp;rw[Vi]at hp;split at hp
  ·exact h.low i p hp
  ·have:=(Vt.1 hp).1;simp only[Q8]at this;have e:i - st.outer.length=0:=by omega
   rw[e]at hp;obtain rfl:o=p:=by simpa using hp
   omega
 ·obtain⟨h1,h2,h3⟩:=h.vu v x hx;refine⟨?_,h2,?_⟩
  ·show x.unit < (st.outer++[o]).length;rw[Vy];omega
  ·show x.own < (st.args++[n]).getD x.unit 0;rw[cN (by rw[h.al];exact h1)];exact h3
 ·obtain⟨h1,h2⟩:=h.uu q hq;refine⟨?_,h2⟩;show q.1 < (st.outer++[o]).length;rw[Vy];omega
theorem Wf.qA {st:ah}(h:Wf st){o:Int}{n:Nat}(ho:-1<=o/\o < st.outer.length):∀(u:Nat),u < st.outer.length->(st.aF o n).line u=st.line u:=by
 intro u
 induction u using Nat.strongRecOn with
 |_ u ih=>
  intro hu;have h':=h.aF (n:=n) ho;have e:(st.aF o n).outer.getD u (-1)=st.outer.getD u (-1):=cN hu;have hl:=h.ef u;rw[h'.line (by show u<=(st.outer++[o]).length;rw[Vy];omega),h.line Zo,e]
  congr 1
  split
  ·rfl
  ·exact ih _ Zo Zo
theorem Wf.Ts {st:ah}(h:Wf st){o:Int}{n:Nat}(ho:-1<=o/\o < st.outer.length){u v:Nat}(hu:u < st.outer.length):(st.aF o n).way u v=st.way u v:=by
 unfold ah.way;rw[h.qA ho u hu];rfl
theorem Wf.CS {st:ah}(h:Wf st){o:Int}{n:Nat}(ho:-1<=o/\o < st.outer.length)(j:Nat)(t:Nat×Int):(st.aF o n).bg j t=st.bg j t:=by
 unfold ah.bg;refine any_congr (l:=st.uses) (fun q hq=>?_);rw[h.Ts ho (h.uu q hq).1];rfl
theorem Wf.R4 {st:ah}(h:Wf st)(j:Nat)(hj:st.outer.length<=j)(t:Nat×Int):st.bg j t=false:=by
 unfold ah.bg;rw[vg];intro q hq;simp only[vF,decide_eq_true_eq,not_and];intro _ hm;have h1:=(h.uu q hq).1;have:=h.uH q.1 Zo j ((List.takeWhile_prefix _).subset hm);omega
def wm(L:List kC)(b:Nat):Prop:=(∃n,kC.own b n∈L)/\∃v,kC.cell b 0 v∈L
theorem wm.more {L M:List kC}{b:Nat}(h:wm L b)(hs:∀x∈L,x∈M):wm M b:=⟨h.1.imp fun _ k=>hs _ k,h.2.imp fun _ k=>hs _ k⟩
section
variable {P:Program} {w:World} {L:List kC}
theorem Hr(hs:Sat w L){b:Nat}(h:wm L b):(frozen ⟨b,0,none⟩).run P w=.ok false w/\(noView ⟨b,0,none⟩).run P w=.ok () w/\(stringish ⟨b,0,none⟩).run P w=.ok false w/\∃r:Bool,(do pure ((<- shape b) matches some (_,0)):Sem Bool).run P w=.ok r w:=by
 obtain⟨⟨n,h1⟩,⟨v,h2⟩⟩:=h;obtain⟨c,t,lo,hi,hb,hn,hf⟩:=hs.holds _ h1;obtain⟨_,f2⟩:=hs.cell h2;have e1:(frozen ⟨b,0,none⟩).run P w=.ok false w:=by
  simp only[frozen,Sem.run,f2]
 have hsh:w.shape? b=some (t,c.size):=by simp[World.shape?,hb]
 have e2:(shape b).run P w=.ok (some (t,c.size)) w:=by simp only[shape,Sem.run,hsh]
 have f3:w.frozen? ⟨b,c.size,none⟩=false:=by
  simp only[World.frozen?,hb];simp only[vE,decide_eq_false_iff_not];by_cases h:lo<=n
  ·right;intro h';exact hf ⟨h,Zo⟩
  ·left;omega
 refine⟨e1,?_,?_,?_⟩
 ·simp[noView,viewAt,e2]
 ·simp only[stringish,Sem.run_bind,e1,Result.andThen_ok];simp only[vL,if_false,Sem.run_bind,e2,Result.andThen_ok];simp only[frozen,Sem.run,f3]
 ·simp only[Sem.run_bind,e2,Result.andThen_ok];exact⟨_,rfl⟩
theorem Eu(hs:Sat w L){a b:Nat}(ha:wm L a)(hb:wm L b):(sameAddr ⟨a,0,none⟩ ⟨b,0,none⟩).run P w=.ok (decide (a=b)) w:=by
 unfold sameAddr;by_cases h:a=b
 ·subst h;simp
 ·obtain⟨a1,a2,a3,ra,a4⟩:=Hr (P:=P) hs ha;obtain⟨b1,b2,b3,rb,b4⟩:=Hr (P:=P) hs hb;have bZ:(a==b)=false:=by simpa using h
  simp[bZ,a1,b1,a2,b2,mayBeOne,a3,b3,h]
theorem Da(hs:Sat w L){t e:TypeId}{i:TypeInfo}(ht:P.underlying t=some (.pointer e))(hi:P.info? e=some i)(hz:i.size≠0){a b:Nat}(ha:wm L a)(hb:wm L b)(n:Nat):
 (Op.equalIn (n+1) t (.pointer (some ⟨a,0,none⟩)) (.pointer (some ⟨b,0,none⟩))).run P w=.ok (decide (a=b)) w:=by
 simp[Op.equalIn,kE ht,kZ hi,hz,Eu hs ha hb]
end
structure Yw (P:Program)(t mt e:TypeId):Prop where
 fs : ∃ f0 f1 : Field, P.underlying t = some (.struct #[f0, f1]) ∧ f0.offset = 0 ∧ f1.offset = 1 ∧ f0.name ≠ "_" ∧ f1.name ≠ "_" ∧ P.underlying f0.type = some (.pointer e) ∧ P.underlying f1.type = some (.int .i64)
 sz:∃i,P.info? e=some i/\i.size≠0
 stood:P.stoodInHeld t=false
 guard:P.eqGuardType P.depth t=false
 map:∃it i,P.underlying mt=some (.map t it)/\P.info? it=some i/\i.zero=some (.int .i64 0)
def gE(k:Nat×Int):Value:=.agg #[.pointer (some ⟨k.1,0,none⟩),.int .i64 k.2]
def AI(es:List MapEntry)(m:List ((Nat×Int)×Int)):Prop:=es.map (fun e=>(e.key,e.val))=m.map fun p=>(gE p.1,.int .i64 p.2)
def yG(k:Nat×Int):List ((Nat×Int)×Int)->Nat->Option (Nat×Value)
 |[],_=>none
 |p::r,i=>if k=p.1 then some (i,.int .i64 p.2)else yG k r (i+1)
section
variable {P:Program} {w:World} {L:List kC} {t mt e:TypeId}
theorem Hq(hs:Sat w L)(h:Yw P t mt e){k j:Nat×Int}(hk:wm L k.1)(hj:wm L j.1):(Op.equal t (gE k) (gE j)).run P w=.ok (decide (k=j)) w:=by
 obtain⟨f0,f1,hf,o0,o1,n0,n1,u0,u1⟩:=h.fs;obtain⟨i,hi,hz⟩:=h.sz;have hfo:P.underlying t=some (.struct (P.fieldsOf t)):=by simp[Program.fieldsOf,hf]
 have Gl:P.fieldsOf t=#[f0,f1]:=by simp[Program.fieldsOf,hf]
 show(Op.equalIn (9999+1) t (gE k) (gE j)).run P w=_;unfold gE;rw[run_equalIn_struct w 9999 t _ _ hfo h.stood,Gl];have p0:∀x y:Value,(part f0.type #[x,y] f0.offset).run P w=.ok x w:=fun x y=>by
  simp[part,isAgg,kE u0,o0]
 have p1:∀x y:Value,(part f1.type #[x,y] f1.offset).run P w=.ok y w:=fun x y=>by
  simp[part,isAgg,kE u1,o1]
 have q1:∀x y:Int,(Op.equalIn 9999 f1.type (.int .i64 x) (.int .i64 y)).run P w=.ok (decide (x=y)) w:=fun x y=>da (n:=9998) u1 rfl rfl
 simp only[Op.eqFields,ne_eq,n0,n1,not_false_eq_true,if_true,Sem.run_bind,p0,p1,Result.andThen_ok,Da (n:=9998) hs u0 hi hz hk hj,q1];have e1:decide (k=j)=(decide (k.1=j.1)&&decide (k.2=j.2)):=by
  rw[<- Bool.decide_and];exact decide_eq_decide.2 ⟨fun h=>h ▸ ⟨rfl,rfl⟩,fun h=>Prod.ext h.1 h.2⟩
 rw[e1];by_cases c1:k.1=j.1 <;> by_cases c2:k.2=j.2 <;> simp[c1,c2,p1,q1]
theorem JI(hs:Sat w L)(h:Yw P t mt e){k:Nat×Int}(hk:wm L k.1):∀(es:List MapEntry) (m:List ((Nat×Int)×Int)) (i:Nat),AI es m->(∀p∈m,wm L p.1.1)->(Instr.findAsking t (gE k) es i).run P w=.ok (yG k m i) w:=by
 intro es
 induction es with
 |nil=>
  intro m i hm _;cases m with
  |nil=>simp[Instr.findAsking,yG]
  |cons p r=>simp[AI]at hm
 |cons q es ih=>
  intro m i hm hl;cases m with
  |nil=>simp[AI]at hm
  |cons p r=>
   simp only[AI,QC,vq,X5]at hm;obtain⟨⟨h1,h2⟩,h3⟩:=hm;simp only[Instr.findAsking,Sem.run_bind,h1,Hq hs h hk (hl p Zs),Result.andThen_ok,yG];by_cases c:k=p.1
   ·simp[c,h2]
   ·simp only[c,decide_false,vL,if_false];exact ih r (i+1) h3 (fun p hp=>hl p (by simp[hp]))
theorem tN(hs:Sat w L)(h:Yw P t mt e){k:Nat×Int}(hk:wm L k.1){es:List MapEntry}{m:List ((Nat×Int)×Int)}(hm:AI es m)(hl:∀p∈m,wm L p.1.1):(Instr.findKey t (gE k) es).run P w=.ok (yG k m 0) w:=by
 obtain⟨f0,f1,hf,_⟩:=h.fs;unfold Instr.findKey;simp only[Sem.run_bind,kE hf,Result.andThen_ok];cases es with
 |nil=>
  cases m with
  |nil=>simp[Instr.findNow,yG]
  |cons p r=>simp[AI]at hm
 |cons q es=>
  have:Instr.findNow (.struct #[f0,f1]) (gE k) (q::es) 0=none:=by simp[Instr.findNow,Instr.sameNow]
  rw[this];exact JI hs h hk _ _ _ hm hl
theorem tM(h:Yw P t mt e)(b:Bool)(k:Nat×Int):(Instr.checkKey b 10000 t (gE k)).run P w=.ok () w:=by
 obtain⟨f0,f1,hf,o0,o1,n0,n1,u0,u1⟩:=h.fs;have p0:∀x y:Value,(part f0.type #[x,y] f0.offset).run P w=.ok x w:=fun x y=>by
  simp[part,isAgg,kE u0,o0]
 have p1:∀x y:Value,(part f1.type #[x,y] f1.offset).run P w=.ok y w:=fun x y=>by
  simp[part,isAgg,kE u1,o1]
 show(Instr.checkKey b (9998+1+1) t (gE k)).run P w=_;unfold gE;generalize 9998=N;simp[Instr.checkKey,kE hf,n0,n1,p0,p1,kE u0,kE u1]
end
theorem pG {k:Nat×Int}:∀{m:List ((Nat×Int)×Int)} {i:Nat},(yG k m i).map (·.2)=(kz k m).map (Value.int .i64):=by
 intro m
 induction m with
 |nil=>intro i;rfl
 |cons p r ih=>
  intro i;obtain⟨a,v⟩:=p;simp only[yG,kz];by_cases h:k=a
  ·rw[if_pos h,if_pos h.symm];rfl
  ·rw[if_neg h,if_neg (fun e=>h e.symm)];exact ih
theorem JZ {k:Nat×Int}{v:Int}{u:Value}{q:MapEntry}(hq:q.key=gE k)(hv:q.val=.int .i64 v):∀{m:List ((Nat×Int)×Int)} {es:List MapEntry} {i j:Nat},AI es m->yG k m i=some (j,u)->
 i<=j/\(∃x,es[j - i]? =some x/\x.key=gE k)/\AI (es.set (j - i) q) (jk k v m):=by
 intro m
 induction m with
 |nil=>intro es i j _ h;cases h
 |cons p r ih=>
  intro es i j hm h;obtain⟨a,w⟩:=p;cases es with
  |nil=>simp[AI]at hm
  |cons x es=>
   simp only[AI,QC,vq,X5]at hm;obtain⟨⟨h1,h2⟩,h3⟩:=hm;simp only[yG]at h;by_cases c:k=a
   ·rw[if_pos c]at h;simp only[X4,X5]at h;obtain⟨rfl,rfl⟩:=h;subst c;refine⟨Qn _,⟨x,Zs,h1⟩,?_⟩;simp only[Qt,List.set_cons_zero,jk,if_true,AI,QC,hq,hv,h3]
   ·rw[if_neg c]at h;obtain⟨g1,⟨y,g2,g3⟩,g4⟩:=ih h3 h;have e:j - i=(j - (i+1))+1:=by omega
    refine⟨Zo,⟨y,by rw[e];simpa using g2,g3⟩,?_⟩;rw[e];simp only[List.set_cons_succ,jk];rw[if_neg (fun e=>c e.symm)];simp only[AI,QC,h1,h2,vq,true_and];exact g4
theorem tU {k:Nat×Int}:∀{m:List ((Nat×Int)×Int)} {i:Nat},yG k m i=none->kz k m=none:=fun {m i} h=>by
 have:=pG (k:=k) (m:=m) (i:=i);rw[h]at this;cases e:kz k m with
 |none=>rfl
 |some x=>rw[e]at this;cases this
theorem aK.step {P:Program}{α β:Type}{H:List kC}{K:β->List kC->Prop}{s:Sem α}{f:α->Sem β}{v:α}(h:∀F w,Sat w (H++F)->s.run P w=.ok v w)(k:aK P (f v) H K):aK P (s >>=f) H K:=
 aK.bind (fun F w hs=>⟨v,w,H,h F w hs,k,hs,.refl w⟩)
section
variable {P:Program} {n:Nat} {rs:List RO} {Γ:Env} {H R:SH} {Z:List PanicEntry->Env->SH->Prop} {K:Env->SH->Prop} {d:Option Nat} {t mt e:TypeId}
theorem st_eqp {x y:Operand}{a b:Nat}{i:TypeInfo}(ht:P.underlying t=some (.pointer e))(hi:P.info? e=some i)(hz:i.size≠0)(hx:ev Γ x=some (.pointer (some ⟨a,0,none⟩)))(hy:ev Γ y=some (.pointer (some ⟨b,0,none⟩)))(ha:wm H.flatten a)(hb:wm H.flatten b)
 (h:VO P n rs (ap d (.bool (decide (a=b))) Γ) H Z K):VO P n (⟨d,none,.T6 .eql t x y⟩::rs) Γ H Z K:=by
 exact zB8
theorem S5 {x y:Operand}{a b:Nat}{i:TypeInfo}(ht:P.underlying t=some (.pointer e))(hi:P.info? e=some i)(hz:i.size≠0)(hx:ev Γ x=some (.pointer (some ⟨a,0,none⟩)))(hy:ev Γ y=some (.pointer (some ⟨b,0,none⟩)))(ha:wm H.flatten a)(hb:wm H.flatten b)
 (h:VO P n rs (ap d (.bool (!decide (a=b))) Γ) H Z K):VO P n (⟨d,none,.T6 .neq t x y⟩::rs) Γ H Z K:=by
 exact zB8
theorem Yb {x y:Operand}{k j:Nat×Int}(hT:Yw P t mt e)(hx:ev Γ x=some (gE k))(hy:ev Γ y=some (gE j))(ha:wm H.flatten k.1)(hb:wm H.flatten j.1)
 (h:VO P n rs (ap d (.bool (decide (k=j))) Γ) H Z K):VO P n (⟨d,none,.T6 .eql t x y⟩::rs) Γ H Z K:=by
 refine VO.read rfl rfl (fun ρ aO=>⟨_,rfl,fun F w hs=>?_⟩) h;rw[aO _ _ hx,aO _ _ hy];have hm:∀c∈H.flatten,c∈H.flatten++F:=fun c hc=>Zw _ hc
 have h2:=Hq (P:=P) hs hT (ha.more hm) (hb.more hm);rw[Sem.run_bind];have hg:(eqGuard .eql t x y (gE k) (gE j)).run P w=.ok () w:=run_eqGuard_agg w _ t x y _ _ hT.guard;rw[hg];simp only[Result.andThen_ok,Sem.run_bind,Go.binOp,gE]at*;simp[h2]
theorem sY {m x:Operand}{b c:Nat}{es:Array MapEntry}{k:Nat×Int}{l:List ((Nat×Int)×Int)}(hT:Yw P t mt e)(hm:ev Γ m=some (.map (some b)))(hx:ev Γ x=some (gE k))
 (ho:u5 H b (.map es c)) (hl:AI es.toList l) (hk:wm H.flatten k.1) (EY:∀p∈l,wm H.flatten p.1.1) (h:VO P n rs (ap d (.int .i64 ((kz k l).getD 0)) Γ) H Z K):VO P n (⟨d,none,.GM mt false m x⟩::rs) Γ H Z K:=by
 refine VO.read rfl rfl (fun ρ aO=>⟨_,rfl,fun F w hs=>?_⟩) h;rw[aO _ _ hm,aO _ _ hx];have iZ:∀c∈H.flatten,c∈H.flatten++F:=fun c hc=>Zw _ hc
 obtain⟨it,i,hmt,hi,hiz⟩:=hT.map;have hg:=ia (P:=P) ho.mem hs;have hf:=tN (P:=P) hs hT (hk.more iZ) hl (fun p hp=>(EY p hp).more iZ);have Kz:=pG (k:=k) (m:=l) (i:=0);simp only[Instr.lookup,Sem.run_bind,kE hmt,Result.andThen_ok,hg,Sem.run_pure,tM hT,hf];cases IY:yG k l 0 with
 |none=>
  rw[tU IY];simp[kb hi hiz]
 |some q=>
  obtain⟨j,u⟩:=q;rw[IY]at Kz;cases IZ:kz k l with
  |none=>rw[IZ]at Kz;cases Kz
  |some z=>
   rw[IZ]at Kz;simp only[X2,X4]at Kz;simp[Kz]
theorem st_allocO {t:TypeId}{z:List Value}(h:∀b,VO P n rs (ap d (.pointer (some ⟨b,0,none⟩)) Γ) ((.own b z.length::kA b 0 z)::H) Z K):VO P n (⟨d,none,.alloc t z⟩::rs) Γ H Z K:=by
 refine VO.act rfl rfl (fun ρ aO=>⟨_,rfl,?_⟩);intro F w hs;refine⟨_,_,(.own w.heap.size z.length::kA w.heap.size 0 z)++H.flatten,rfl,⟨_,(.own w.heap.size z.length::kA w.heap.size 0 z)::H,.inl rfl,?_,h _⟩,?_⟩
 ·simp
 ·have hp:=Sat.push hs (.cells z.toArray t (0,0)) (.own w.heap.size z.length::kA w.heap.size 0 z) (fun x hx=>?_) ?_
  ·rw[vj];exact hp
  ·have hb:({w with heap:=w.heap.push (.cells z.toArray t (0,0))}:World).heap[w.heap.size]? =some (.cells z.toArray t (0,0)):=by simp
   exact zCZ
  ·rw[QC,QU];refine⟨fun hm=>?_,?_⟩
   ·exact zCO
   ·exact dB _ _ _
structure gJ (es:Array MapEntry)(c:Nat)(m:List ((Nat×Int)×Int)):Prop where
 of:AI es.toList m
 born:es.toList.Pairwise fun a b=>a.born < b.born
 clock:∀e∈es.toList,e.born < c
theorem gJ.nil:gJ #[] 0 []:=⟨rfl,.nil,Zs⟩
theorem gJ.push {es:Array MapEntry}{c:Nat}{m:List ((Nat×Int)×Int)}(h:gJ es c m){k:Nat×Int}{v:Int}(hn:kz k m=none):gJ (es.push {key:=gE k,val:=.int .i64 v,born:=c}) (c+1) (jk k v m):=by
 refine⟨?_,?_,?_⟩
 ·rw[fD hn];have:=h.of;simp only[AI]at this|-;simp[this]
 ·exact zDU
 ·exact zD9
def N5(es:Array MapEntry)(s:Nat)(k:Nat×Int):Prop:=∃(i:Nat) (e:MapEntry),es[i]? =some e/\e.born=s/\e.key=gE k
theorem M9 {es:Array MapEntry}{c:Nat}{m:List ((Nat×Int)×Int)}(h:gJ es c m){s:Nat}{k:Nat×Int}(hs:N5 es s k):∃(i:Nat) (e:MapEntry),es.findIdx? (fun e=>((e.born:Int)==(s:Int)))=some i/\es[i]? =some e/\e.key=gE k:=by
 obtain⟨i,e,he,hb,hk⟩:=hs;have hl:=(v8.1 he).1;refine⟨i,e,?_,he,hk⟩;rw[Array.findIdx?_eq_some_iff_getElem];have hei:es[i]=e:=by rw[v7 hl]at he;exact X3 he
 refine⟨hl,by simp[hei,hb],fun j hj=>?_⟩;have hp:=List.pairwise_iff_getElem.1 h.born j i (by simpa using Nat.lt_trans hj hl) (by simpa using hl) hj;simp only[Array.getElem_toList]at hp;rw[hei,hb]at hp;have:((es[j].born:Int)==(s:Int))=false:=by
  rw[beq_eq_false_iff_ne];omega
 simp[this]
theorem gJ.at_ {es:Array MapEntry}{c:Nat}{m:List ((Nat×Int)×Int)}(h:gJ es c m){k:Nat×Int}{v:Int}{i:Nat}{e:MapEntry}(he:es[i]? =some e)(hk:e.key=gE k)(hu:(m.map (·.1)).Nodup):
 gJ (es.modify i fun e=>{e with val:=.int .i64 v}) c (jk k v m):=by
 have hl:=(v8.1 he).1;have hei:es[i]=e:=by rw[v7 hl]at he;exact X3 he
 have hle:(es.modify i fun e=>{e with val:=.int .i64 v}).toList=es.toList.set i {e with val:=.int .i64 v}:=by
  apply V0;intro j;rw[vB,v9,Vw];by_cases hj:i=j
  ·subst hj;simp[hl,hei]
  ·simp[hj]
 have Gg:(es.toList.set i {e with val:=.int .i64 v}).map MapEntry.born=es.toList.map MapEntry.born:=by
  apply V0;intro j;simp only[Vu,Vw];by_cases hj:i=j
  ·subst hj;simp[hl,hei]
  ·simp[hj]
 have DQ:∀(es:List MapEntry) (m:List ((Nat×Int)×Int)) (i:Nat),AI es m->es[i]? =some e->(m.map (·.1)).Nodup->AI (es.set i {e with val:=.int .i64 v}) (jk k v m):=by
  intro es
  induction es with
  |nil=>intro m i _ h;simp at h
  |cons x es ih=>
   intro m i hm hx hn;cases m with
   |nil=>simp[AI]at hm
   |cons p r=>
    obtain⟨a,w⟩:=p;simp only[AI,QC,vq,X5]at hm;obtain⟨⟨h1,h2⟩,h3⟩:=hm;have hthV:∀a b:Nat×Int,gE a=gE b->a=b:=fun a b hab=>by
     simp only[gE,Value.agg.injEq]at hab;simp at hab;exact Prod.ext hab.1 hab.2
    simp only[QC,QU]at hn;cases i with
    |zero=>
     obtain rfl:x=e:=by simpa using hx
     have:a=k:=hthV _ _ (h1.symm.trans hk);subst this;simp only[List.set_cons_zero,jk,if_true,AI,QC,h1,h3]
    |succ i=>
     have oE:es[i]? =some e:=by simpa using hx
     have bZ:a≠k:=by
      rintro rfl
      have:(e.key,e.val)∈es.map (fun e=>(e.key,e.val)):=QM.2 ⟨e,Zv oE,rfl⟩;rw[h3]at this;obtain⟨q,hq,iN⟩:=QM.1 this;simp only[X5]at iN;exact hn.1 (QM.2 ⟨q,hq,hthV _ _ (iN.1.trans hk)⟩)
     simp only[List.set_cons_succ,jk];rw[if_neg bZ];simp only[AI,QC,h1,h2,vq,true_and];exact ih r i h3 oE hn.2
 refine⟨?_,?_,?_⟩
 ·rw[hle];exact DQ _ _ _ h.of (by simpa using he) hu
 ·rw[hle];have hp:=h.born;have e1:∀l:List MapEntry,l.Pairwise (fun a b=>a.born < b.born)↔(l.map MapEntry.born).Pairwise (·< ·):=fun l=>List.pairwise_map.symm
  rw[e1]at hp|-;rw[Gg];exact hp
 ·rw[hle];intro x hx;have:x.born∈(es.toList.set i {e with val:=.int .i64 v}).map MapEntry.born:=QM.2 ⟨x,hx,rfl⟩;rw[Gg]at this;obtain⟨y,hy,hyb⟩:=QM.1 this;rw[<- hyb];exact h.clock y hy
theorem K2 {m x:Operand}{b c:Nat}{es:Array MapEntry}{k:Nat×Int}{l:List ((Nat×Int)×Int)}(hT:Yw P t mt e)(hm:ev Γ m=some (.map (some b)))(hx:ev Γ x=some (gE k))
 (ht:Tk H [.obj b (.map es c)] R) (hl:gJ es c l) (hk:wm R.flatten k.1) (EY:∀p∈l,wm R.flatten p.1.1)
 (h:∀cB c' s,gJ cB c' (if(kz k l).isSome then l else jk k 0 l)->N5 cB s k->c'<=c+1->VO P n rs (ap d (.tuple #[.int .i64 ((kz k l).getD 0),.int .i64 s]) Γ) ([.obj b (.map cB c')]::R) Z K):VO P n (⟨d,none,.ment mt m x⟩::rs) Γ H Z K:=by
 refine VO.act rfl rfl (fun ρ aO=>⟨_,rfl,?_⟩);rw[aO _ _ hm,aO _ _ hx];refine aK.perm ht.perm ?_;obtain⟨it,i,hmt,hi,hiz⟩:=hT.map;have iZ:∀(F:List kC) (c':kC),c'∈R.flatten->c'∈([kC.obj b (.map es c)]++R.flatten)++F:=fun F c' h'=>Zw _ (QG _ h')
 refine aK.bind ?_;unfold Instr.mapEntry;refine aK.step (v:=.map t it) (fun F w _=>kE hmt) ?_;simp only;refine aK.bind (aK.getObj (o:=.map es c) Zs ?_);simp only;refine aK.step (v:=()) (fun F w _=>tM hT false k) ?_;refine aK.step (v:=yG k l 0) (fun F w hs=>tN hs hT (hk.more (iZ F)) hl.of (fun p hp=>(EY p hp).more (iZ F))) ?_;have Kz:=pG (k:=k) (m:=l) (i:=0);cases hf:yG k l 0 with
 |none=>
  have hn:=tU hf;refine aK.step (v:=.int .i64 0) (fun F w _=>kb hi hiz) ?_;refine aK.bind (aK.setObj rfl (aK.pure (aK.pure ⟨_,[.obj b (.map (es.push {key:=gE k,val:=.int .i64 0,born:=c}) (c+1))]::R,.inl rfl,?_,?_⟩)))
  ·simp
  ·have:=h (es.push {key:=gE k,val:=.int .i64 0,born:=c}) (c+1) c (by rw[hn];exact hl.push hn) ⟨es.size,{key:=gE k,val:=.int .i64 0,born:=c},Zs,rfl,rfl⟩ (Qn _);rw[hn]at this;exact this
 |some q=>
  obtain⟨j,u⟩:=q;obtain⟨_,⟨z,hz,hzk⟩,_⟩:=JZ (q:=⟨gE k,.int .i64 0,0⟩) rfl rfl hl.of hf;simp only[Nat.sub_zero]at hz;have Ja:es[j]? =some z:=by simpa using hz
  rw[hf]at Kz;cases IZ:kz k l with
  |none=>rw[IZ]at Kz;cases Kz
  |some y=>
  rw[IZ]at Kz;simp only[X2,X4]at Kz;have hkey:((es[j]?).map (·.key)).getD (gE k)=gE k:=by simp[Ja,hzk]
  refine aK.bind (K4 _ _ (fun kk ir=>?_));have hkk':kk=gE k:=by rcases ir with h'|h';rw[h',hkey];exact h'
  subst hkk';have hsame:(es.modify j fun e=>{e with key:=gE k})=es:=by
   apply Array.ext_getElem?;intro i;rw[v9];by_cases O9:j=i
   ·subst O9;rw[Ja];simp;rw[<- hzk]
   ·simp[O9]
  rw[hsame];have hb:z.born < c:=hl.clock z (by have:=Zv hz;exact this);refine aK.bind (aK.setObj rfl (aK.pure (aK.pure ⟨_,[.obj b (.map es c)]::R,.inl rfl,?_,?_⟩)))
  ·simp
  ·have:=h es c z.born (by rw[IZ];exact hl) ⟨j,z,Ja,rfl,hzk⟩ (Qo _);rw[IZ]at this;have e2:goInt (((es[j]?).map (·.born)).getD 0)=.int .i64 (z.born:Int):=by
    rw[Ja];rfl
   rw[e2,Kz];exact this
theorem S4 {m x y:Operand}{b c s:Nat}{es:Array MapEntry}{k:Nat×Int}{v:Int}{l:List ((Nat×Int)×Int)}(hm:ev Γ m=some (.map (some b)))(hx:ev Γ x=some (.int .i64 s))(hy:ev Γ y=some (.int .i64 v))
 (ht:Tk H [.obj b (.map es c)] R) (hl:gJ es c l) (hs:N5 es s k) (hu:(l.map (·.1)).Nodup)
 (h:∀cB,gJ cB c (jk k v l)->VO P n rs (ap d undef Γ) ([.obj b (.map cB c)]::R) Z K):VO P n (⟨d,none,.mst mt m x y⟩::rs) Γ H Z K:=by
 refine VO.act rfl rfl (fun ρ aO=>⟨_,rfl,?_⟩);rw[aO _ _ hm,aO _ _ hx,aO _ _ hy];refine aK.perm ht.perm ?_;obtain⟨i,z,h1,h2,h3⟩:=M9 hl hs;refine aK.bind ?_;unfold Instr.entryStore;simp only;refine aK.bind (aK.getObj (o:=.map es c) Zs ?_);simp only;refine aK.step (v:=(s:Int)) (fun F w _=>by simp[asInt,asIntOf]) ?_;rw[h1];refine(aK.setObj rfl (aK.pure ⟨undef,[.obj b (.map (es.modify i fun e=>{e with val:=.int .i64 v}) c)]::R,.inr ⟨rfl,rfl⟩,?_,h _ (hl.at_ h2 h3 hu)⟩));simp
theorem X9 {t:TypeId}{x:Operand}{u:Value}(hx:ev Γ x=some u)(h:∀b,VO P n rs (ap d (.pointer (some ⟨b,0,none⟩)) Γ) ((.own b u.cells.toList.length::kA b 0 u.cells.toList)::H) Z K):VO P n (⟨d,none,.box t x⟩::rs) Γ H Z K:=by
 refine VO.act rfl rfl (fun ρ aO=>⟨_,rfl,?_⟩);rw[aO _ _ hx];intro F w hs;refine⟨_,_,(.own w.heap.size u.cells.toList.length::kA w.heap.size 0 u.cells.toList)++H.flatten,rfl,⟨_,(.own w.heap.size u.cells.toList.length::kA w.heap.size 0 u.cells.toList)::H,.inl rfl,?_,h _⟩,?_⟩
 ·simp
 ·have hp:=Sat.push hs (.cells u.cells t (0,0)) (.own w.heap.size u.cells.toList.length::kA w.heap.size 0 u.cells.toList) (fun x hx=>?_) ?_
  ·rw[vj];exact hp
  ·have hb:({w with heap:=w.heap.push (.cells u.cells t (0,0))}:World).heap[w.heap.size]? =some (.cells u.cells t (0,0)):=by simp
   exact zCZ
  ·rw[QC,QU];refine⟨fun hm=>?_,dB _ _ _⟩;exact zCO
end
structure UC where
 q:Nat
 args:Nat
 locals:Nat
 aA:Nat
 outer:Option Nat
 num:Nat
 ab:List Nat
 tv:Value
 iJ:List Value
 nb:Nat
 es:Array MapEntry
 cl:Nat
 dk:List (Nat×Int)
 cv:Value
 cm:List Value
 body:Value
structure az where
 q:Nat
 unit:Nat
 arg:Int
 fixed:Bool
 remote:Bool
 slot:Nat
def kM:Option Nat->Value
 |some b=>.pointer (some ⟨b,0,none⟩)
 |none=>.pointer none
def jV(t:Nat×Int):List Value:=[.pointer (some ⟨t.1,0,none⟩),.int .i64 t.2]
def UC.row(u:UC):List Value:=[.int .i64 u.args,.int .i64 u.locals,.int .i64 u.aA,kM u.outer,.int .i64 u.num,u.tv,.map (some u.nb),u.cv,u.body]
def UC.atoms(u:UC):List kC:=.own u.q 9::(kA u.q 0 u.row++(aj u.tv (u.ab.map fun b=>kM (some b)) u.iJ++(aj u.cv (u.dk.flatMap jV) u.cm++[.obj u.nb (.map u.es u.cl)])))
def az.row(v:az):List Value:=[kM (some v.unit),.int .i64 v.arg,.bool v.fixed,.bool v.remote,.int .i64 v.slot]
def az.atoms(v:az):List kC:=kA v.q 0 v.row
def WK(U:List UC)(V:List az):List kC:=U.flatMap UC.atoms++V.flatMap az.atoms
theorem iW {α β:Type}(f:α->List β){l:List α}{i:Nat}{x:α}(h:l[i]? =some x):∃R,∀y,((l.set i y).flatMap f).Perm (f y++R):=by
 induction l generalizing i with
 |nil=>simp at h
 |cons a l ih=>
  cases i with
  |zero=>
   exact⟨l.flatMap f,fun y=>by simp⟩
  |succ i=>
   obtain⟨R,hR⟩:=ih (i:=i) (by simpa using h);refine⟨f a++R,fun y=>?_⟩;simp only[List.set_cons_succ,List.flatMap_cons];refine(vX _ (hR y)).trans ?_;exact zAT
theorem zO {α:Type}{l:List α}{i:Nat}{x:α}(h:l[i]? =some x):l.set i x=l:=by
 apply V0;intro k;rw[Vw];by_cases e:i=k
 ·subst e;have:=(Vt.1 h).1;rw[if_pos rfl,if_pos this,h]
 ·rw[if_neg e]
theorem Yp {U:List UC}{V:List az}{i:Nat}{u:UC}(h:U[i]? =some u):∃R,(WK U V).Perm (u.atoms++R)/\∀u',(WK (U.set i u') V).Perm (u'.atoms++R):=by
 obtain⟨R,hR⟩:=iW UC.atoms h;have hr:∀u',(WK (U.set i u') V).Perm (u'.atoms++(R++V.flatMap az.atoms)):=fun u'=>by
  unfold WK;rw[<- vj];exact vY _ (hR u')
 refine⟨R++V.flatMap az.atoms,?_,hr⟩;have:=hr u
 rwa [zO h]at this
theorem wk_var {U:List UC}{V:List az}{i:Nat}{v:az}(h:V[i]? =some v):∃R,(WK U V).Perm (v.atoms++R)/\∀v',(WK U (V.set i v')).Perm (v'.atoms++R):=by
 obtain⟨R,hR⟩:=iW az.atoms h;have hr:∀v',(WK U (V.set i v')).Perm (v'.atoms++(U.flatMap UC.atoms++R)):=fun v'=>by
  unfold WK;refine(vX _ (hR v')).trans ?_;exact zAT
 refine⟨U.flatMap UC.atoms++R,?_,hr⟩;have:=hr v
 rwa [zO h]at this
theorem zy {U:List UC}{V:List az}{i:Nat}{u:UC}(h:U[i]? =some u):∀x∈u.atoms,x∈WK U V:=fun _ hx=>Zw _ (QL.2 ⟨u,Zv h,hx⟩)
theorem lL {U:List UC}{V:List az}{i:Nat}{v:az}(h:V[i]? =some v):∀x∈v.atoms,x∈WK U V:=fun _ hx=>QG _ (QL.2 ⟨v,Zv h,hx⟩)
theorem gG {U:List UC}{V:List az}{i:Nat}{u:UC}(h:U[i]? =some u):wm (WK U V) u.q:=
 ⟨⟨9,zy h _ (QJ ..)⟩,⟨_,zy h _ (QI _ (Zw _ (kJ.2 ⟨0,_,rfl,rfl⟩)))⟩⟩
theorem Tw(U:List UC)(V:List az)(u:UC):(WK (U++[u]) V).Perm (u.atoms++WK U V):=by
 unfold WK;rw[VV,Vb,vj,<- vj];refine(vY _ QW).trans ?_;rw[vj]
theorem HQ(U:List UC)(V:List az)(v:az):(WK U (V++[v])).Perm (v.atoms++WK U V):=by
 unfold WK;rw[VV,Vb,<- vj];exact QW
def AA:az:=⟨0,0,0,false,false,0⟩
def ah.ab(st:ah)(i:Nat):List Nat:=(List.range st.vars.length).filter fun v=>decide (st.af v=i)&&decide (st.bt v < 0)
structure cz (st:ah)(nf:Nat->Nat×Int->Bool)(rf:Nat->Bool)(N:Nat->Nat)(U:List UC)(V:List az):Prop where
 wf:Wf st
 ul:U.length=st.outer.length
 vl:V.length=st.vars.length
 inj:(U.map UC.q).Nodup
 un:∀(i:Nat) u,U[i]? =some u->u.args=st.args.getD i 0/\u.locals=0/\u.aA=0/\u.num=i/\u.dk=[]/\u.cv=Nz/\u.cm=[]
 ou:∀(i:Nat) u,U[i]? =some u->u.outer=(if st.outer.getD i (-1) < 0 then none else(U[(st.outer.getD i (-1)).toNat]?).map UC.q)
 tm:∀(i:Nat) u,U[i]? =some u->u.ab=(st.ab i).map (fun v=>(V.getD v AA).q)/\jA 1 u.tv u.ab.length (u.ab.map fun b=>kM (some b)) u.iJ
 nd:∀(i:Nat) u,U[i]? =some u->∃m:List ((Nat×Int)×Int),gJ u.es u.cl m/\(m.map (·.1)).Nodup/\(∀p∈m,(∃(j:Nat) (w:UC),U[j]? =some w/\p.1.1=w.q)/\0 < p.2/\p.2<=N i)/\
  ∀(j:Nat) (w:UC) (a:Int),U[j]? =some w->((kz (w.q,a) m).isSome=true↔nf i (j,a)=true)
 vn:∀(v:Nat) x y,st.vars[v]? =some x->V[v]? =some y->(∃w,U[x.unit]? =some w/\y.unit=w.q)/\y.arg=x.own/\y.fixed=x.arg/\y.remote=rf v/\y.slot=0
def cK(st:ah)(U:List UC)(V:List az):Prop:=cz st st.bg st.rem (fun _=>st.uses.length) U V
theorem ES {U:List UC}{V:List az}{i:Nat}{u:UC}(h:U[i]? =some u){X Y:List kC}(hx:u.atoms.Perm (X++Y)):∃R,(WK U V).Perm (X++R)/\∀u' X',u'.atoms.Perm (X'++Y)->(WK (U.set i u') V).Perm (X'++R):=by
 obtain⟨R,h1,h2⟩:=Yp (V:=V) h;exact zCT
theorem Tv {U:List UC}{V:List az}{i:Nat}{v:az}(h:V[i]? =some v){X Y:List kC}(hx:v.atoms.Perm (X++Y)):∃R,(WK U V).Perm (X++R)/\∀v' X',v'.atoms.Perm (X'++Y)->(WK U (V.set i v')).Perm (X'++R):=by
 obtain⟨R,h1,h2⟩:=wk_var (U:=U) h;exact zCT
theorem Tu {U:List UC}{V:List az}{i:Nat}{u:UC}(h:U[i]? =some u):∃R,(WK U V).Perm ([.obj u.nb (.map u.es u.cl)]++R)/\∀cB oh,(WK (U.set i {u with es:=cB,cl:=oh}) V).Perm ([.obj u.nb (.map cB oh)]++R):=by
 have hx:∀cB oh,({u with es:=cB,cl:=oh}:UC).atoms.Perm ([.obj u.nb (.map cB oh)]++(.own u.q 9::(kA u.q 0 u.row++(aj u.tv (u.ab.map fun b=>kM (some b)) u.iJ++aj u.cv (u.dk.flatMap jV) u.cm)))):=fun cB oh=>by
  unfold UC.atoms;show(kC.own u.q 9::(kA u.q 0 u.row++(aj u.tv (u.ab.map fun b=>kM (some b)) u.iJ++(aj u.cv (u.dk.flatMap jV) u.cm++[.obj u.nb (.map cB oh)])))).Perm _;rw[<- vj,<- vj,<- vj,<- vr];refine QW.trans ?_;simp only[vj];exact vZ _
 obtain⟨R,h1,h2⟩:=ES (V:=V) h (hx u.es u.cl);exact⟨R,h1,fun cB oh=>h2 _ _ (hx cB oh)⟩
theorem Nn {U:List UC}{V:List az}{i:Nat}{v:az}(h:V[i]? =some v):∃R,(WK U V).Perm (kA v.q 3 [.bool v.remote]++R)/\∀b,(WK U (V.set i {v with remote:=b})).Perm (kA v.q 3 [.bool b]++R):=by
 have hx:∀b,({v with remote:=b}:az).atoms.Perm (kA v.q 3 [.bool b]++(kA v.q 0 [kM (some v.unit),.int .i64 v.arg,.bool v.fixed]++kA v.q 4 [.int .i64 v.slot])):=fun b=>by
  unfold az.atoms az.row;simp only[kA,vr,QS];exact(List.Perm.swap _ _ _).trans (vZ _)|>.trans (by
   refine List.Perm.trans (List.Perm.swap _ _ _) ?_;exact QZ (l₁:=[_,_,_])|>.trans (vZ _))
 obtain⟨R,h1,h2⟩:=Tv (U:=U) h (hx v.remote);exact⟨R,h1,fun b=>h2 _ _ (hx b)⟩
theorem gH {A R X:List kC}(hp:A.Perm (X++R)){x:kC}(hx:x∈A)(hn:x∉X):x∈R:=by
 rcases QF.1 (hp.mem_iff.1 hx)with h|h
 ·exact absurd h hn
 ·exact h
theorem cz.congr {st:ah}{nf nf':Nat->Nat×Int->Bool}{rf rf':Nat->Bool}{N N':Nat->Nat}{U:List UC}{V:List az}(h:cz st nf rf N U V)(hn:∀i t,nf' i t=nf i t)(hr:∀v,rf' v=rf v)(hN:∀i,N i<=N' i):cz st nf' rf' N' U V:=by
 refine⟨h.wf,h.ul,h.vl,h.inj,h.un,h.ou,h.tm,fun i u hu=>?_,fun v x y hx hy=>?_⟩
 ·obtain⟨m,h1,h2,h3,h4⟩:=h.nd i u hu;exact⟨m,h1,h2,fun p hp=>⟨(h3 p hp).1,(h3 p hp).2.1,by have:=(h3 p hp).2.2;have:=hN i;omega⟩,fun j w a hw=>by rw[hn];exact h4 j w a hw⟩
 ·rw[hr];exact h.vn v x y hx hy
theorem lF {α:Type}{l:List α}{c:Nat}{x y:α}(hc:l[c]? =some x){i:Nat}{z:α}(h:(l.set c y)[i]? =some z):(i=c/\z=y)∨(i≠c/\l[i]? =some z):=by
 rw[Vw]at h;by_cases e:c=i
 ·subst e;rw[if_pos rfl,if_pos (Vt.1 hc).1]at h;exact .inl ⟨rfl,(X3 h).symm⟩
 ·rw[if_neg e]at h;exact .inr ⟨fun e'=>e e'.symm,h⟩
theorem ze {U:List UC}{c:Nat}{w w':UC}(hc:U[c]? =some w)(hq:w'.q=w.q):(U.set c w').map UC.q=U.map UC.q:=by
 rw[List.map_set,hq];exact zO (by rw[Vu,hc];rfl)
theorem sL {U:List UC}{c:Nat}{w w':UC}(hc:U[c]? =some w)(hq:w'.body=w.body):(U.set c w').map UC.body=U.map UC.body:=by
 rw[List.map_set,hq];exact zO (by rw[Vu,hc];rfl)
theorem DA {U U':List UC}(h:U'.map UC.q=U.map UC.q)(i:Nat):(U'[i]?).map UC.q=(U[i]?).map UC.q:=by
 have:=congrArg (fun l=>l[i]?) h;simpa using this
theorem cz.Sv {st:ah}{nf:Nat->Nat×Int->Bool}{rf:Nat->Bool}{N:Nat->Nat}{U:List UC}{V:List az}(h:cz st nf rf N U V){i j:Nat}{u w:UC}(hi:U[i]? =some u)(hj:U[j]? =some w)(e:u.q=w.q):i=j:=by
 have h1:(U.map UC.q)[i]? =some u.q:=by rw[Vu,hi];rfl
 have h2:(U.map UC.q)[j]? =some u.q:=by rw[Vu,hj,e];rfl
 have hl:=(Vt.1 h1).1;have fQ:=(Vt.1 h2).1;have e1:(U.map UC.q)[i]=(U.map UC.q)[j]:=by
  rw[Zg hl]at h1;rw[Zg fQ]at h2;rw[X3 h1,X3 h2]
 have hp:=List.pairwise_iff_getElem.1 h.inj;rcases Nat.lt_trichotomy i j with c|c|c
 ·exact absurd e1 (hp i j hl fQ c)
 ·exact c
 ·exact absurd e1.symm (hp j i fQ hl c)
theorem cz.put {st:ah}{nf:Nat->Nat×Int->Bool}{rf:Nat->Bool}{N:Nat->Nat}{U:List UC}{V:List az}(h:cz st nf rf N U V){c j0:Nat}{w x0:UC}{a:Int}(hc:U[c]? =some w)(hx:U[j0]? =some x0){m:List ((Nat×Int)×Int)}
 (hu:(m.map (·.1)).Nodup) (hm:∀p∈m,(∃(j:Nat) (w:UC),U[j]? =some w/\p.1.1=w.q)/\0 < p.2/\p.2<=N c) (hn:∀(j:Nat) (w:UC) (a:Int),U[j]? =some w->((kz (w.q,a) m).isSome=true↔nf c (j,a)=true))
 {n:Int} {cB:Array MapEntry} {oh:Nat} (l6:gJ cB oh (jk (x0.q,a) n m)) (hn0:0 < n) (L7:n<=N c+1):
 cz st (fun i t=>nf i t||(decide ((j0,a)=t)&&decide (i=c))) rf (fun i=>N i+(if i=c then 1 else 0)) (U.set c {w with es:=cB,cl:=oh}) V:=by
 have hq:=ze (w':={w with es:=cB,cl:=oh}) hc rfl;have L5:=DA hq;have aB:∀{i:Nat} {u:UC},(U.set c {w with es:=cB,cl:=oh})[i]? =some u->∃u0,U[i]? =some u0/\(u=u0∨(i=c/\u={u0 with es:=cB,cl:=oh})):=fun {i u} hi=>by
  rcases lF hc hi with⟨rfl,rfl⟩|⟨_,h'⟩
  ·exact⟨w,hc,.inr ⟨rfl,rfl⟩⟩
  ·exact⟨u,h',.inl rfl⟩
 refine⟨h.wf,by rw[Q7];exact h.ul,h.vl,by rw[hq];exact h.inj,fun i u hi=>?_,fun i u hi=>?_,fun i u hi=>?_,fun i u hi=>?_,fun v x y hvx hvy=>?_⟩
 ·obtain⟨u0,h0,e|⟨_,e⟩⟩:=aB hi
  ·rw[e];exact h.un i u0 h0
  ·rw[e];exact h.un i u0 h0
 ·rw[L5];obtain⟨u0,h0,e|⟨_,e⟩⟩:=aB hi
  ·rw[e];exact h.ou i u0 h0
  ·rw[e];exact h.ou i u0 h0
 ·obtain⟨u0,h0,e|⟨_,e⟩⟩:=aB hi
  ·rw[e];exact h.tm i u0 h0
  ·rw[e];exact h.tm i u0 h0
 ·have et:∀{j:Nat} {u:UC},U[j]? =some u->∃u',(U.set c {w with es:=cB,cl:=oh})[j]? =some u'/\u'.q=u.q:=fun {j u} hj=>by
   have:=L5 j;rw[hj]at this;cases e:(U.set c {w with es:=cB,cl:=oh})[j]? with
   |none=>rw[e]at this;cases this
   |some u'=>rw[e]at this;exact⟨u',rfl,X3 this⟩
  have L4:∀{j:Nat} {u:UC},(U.set c {w with es:=cB,cl:=oh})[j]? =some u->∃u',U[j]? =some u'/\u.q=u'.q:=fun {j u} hj=>by
   obtain⟨u0,h0,e|⟨_,e⟩⟩:=aB hj
   ·exact⟨u0,h0,by rw[e]⟩
   ·exact⟨u0,h0,by rw[e]⟩
  rcases lF hc hi with⟨rfl,rfl⟩|⟨bZ,h'⟩
  ·refine⟨_,l6,pg hu,fun p hp=>?_,fun j w1 a1 hj=>?_⟩
   ·rcases GY hp with rfl|hp
    ·obtain⟨u',h1,h2⟩:=et hx;exact⟨⟨j0,u',h1,h2.symm⟩,hn0,by rw[if_pos rfl];omega⟩
    ·obtain⟨⟨j,w1,h1,h2⟩,h3,h4⟩:=hm p hp;obtain⟨u',h5,h6⟩:=et h1;exact⟨⟨j,u',h5,h2.trans h6.symm⟩,h3,by rw[if_pos rfl];omega⟩
   ·obtain⟨u',h5,h6⟩:=L4 hj;rw[wK,h6];have hk:((x0.q,a)=(u'.q,a1))↔((j0,a)=(j,a1)):=by
     simp only[X5];constructor
     ·rintro⟨e1,e2⟩;exact⟨h.Sv hx h5 e1,e2⟩
     ·rintro⟨e1,e2⟩
      subst e1;rw[hx]at h5;exact⟨by rw[X3 h5],e2⟩
    by_cases e:(j0,a)=(j,a1)
    ·rw[if_pos (hk.2 e)];simp[e]
    ·rw[if_neg (fun e'=>e (hk.1 e'))];simp only[e,decide_false,vK,vT];exact hn j u' a1 h5
  ·obtain⟨m',h1,h2,h3,h4⟩:=h.nd i u h';refine⟨m',h1,h2,fun p hp=>?_,fun j w1 a1 hj=>?_⟩
   ·obtain⟨⟨j,w1,h5,h6⟩,h7,h8⟩:=h3 p hp;obtain⟨u',h9,xL⟩:=et h5;exact⟨⟨j,u',h9,h6.trans xL.symm⟩,h7,by simp only[if_neg bZ];omega⟩
   ·obtain⟨u',h5,h6⟩:=L4 hj;rw[h6,h4 j u' a1 h5];simp[bZ]
 ·obtain⟨⟨u,h1,h2⟩,h3⟩:=h.vn v x y hvx hvy;refine⟨?_,h3⟩;have:=L5 x.unit;rw[h1]at this;cases e:(U.set c {w with es:=cB,cl:=oh})[x.unit]? with
  |none=>rw[e]at this;cases this
  |some u'=>rw[e]at this;exact⟨u',rfl,h2.trans (X3 this).symm⟩
theorem cz.far {st:ah}{nf:Nat->Nat×Int->Bool}{rf:Nat->Bool}{N:Nat->Nat}{U:List UC}{V:List az}(h:cz st nf rf N U V){v:Nat}{y:az}(hv:V[v]? =some y):
 cz st nf (fun w=>rf w||decide (v=w)) N U (V.set v {y with remote:=true}):=by
 have hq:∀w,((V.set v {y with remote:=true}).getD w AA).q=(V.getD w AA).q:=fun w=>by
  rw[Vh,Vh,Vw];by_cases e:v=w
  ·subst e;rw[if_pos rfl,if_pos (Vt.1 hv).1,hv];rfl
  ·rw[if_neg e]
 refine⟨h.wf,h.ul,by rw[Q7];exact h.vl,h.inj,h.un,h.ou,fun i u hi=>?_,h.nd,fun w x z hx hz=>?_⟩
 ·obtain⟨h1,h2⟩:=h.tm i u hi;refine⟨?_,h2⟩;rw[h1];exact QB fun w _=>(hq w).symm
 ·rcases lF hv hz with⟨rfl,rfl⟩|⟨bZ,h'⟩
  ·obtain⟨h1,h2,h3,h4,h5⟩:=h.vn w x y hx hv;exact⟨h1,h2,h3,Zs,h5⟩
  ·obtain⟨h1,h2,h3,h4,h5⟩:=h.vn w x z hx h';refine⟨h1,h2,h3,?_,h5⟩;rw[h4];have:decide (v=w)=false:=Zf (fun e=>bZ e.symm);rw[this,vT]
theorem cz.useS {st:ah}{nf:Nat->Nat×Int->Bool}{rf:Nat->Bool}{N:Nat->Nat}{U:List UC}{V:List az}(h:cz st nf rf N U V){u v:Nat}(hu:u < st.outer.length)(hv:v < st.vars.length):cz (st.use u v) nf rf N U V:=
 ⟨h.wf.use hu hv,h.ul,h.vl,h.inj,h.un,h.ou,h.tm,h.nd,h.vn⟩
def mr(st:ah)(v:Nat)(l:List Nat)(i:Nat)(t:Nat×Int):Bool:=st.bg i t||(decide ((st.af v,st.bt v)=t)&&decide (i∈l))
theorem Cf(st:ah)(v i:Nat)(t:Nat×Int):mr st v [] i t=st.bg i t:=by simp[mr]
theorem ID(st:ah)(v:Nat)(l:List Nat)(c i:Nat)(t:Nat×Int):mr st v (l++[c]) i t=(mr st v l i t||(decide ((st.af v,st.bt v)=t)&&decide (i=c))):=by
 unfold mr;rw[vP,<- Bool.and_or_distrib_left]
 congr 2
 rw[<- Bool.decide_or];simp
theorem Ly(st:ah)(v u i:Nat)(t:Nat×Int):(st.use u v).bg i t=mr st v (st.way u v) i t:=G1 st u v i t
theorem Nb(st:ah)(x:fS)(i:Nat):(st.bf x).ab i=st.ab i++(if x.unit=i/\x.own < 0 then [st.vars.length]else []):=by
 unfold ah.ab;have hl:(st.bf x).vars.length=st.vars.length+1:=by unfold ah.bf;simp
 rw[hl,List.range_succ,V5]
 congr 1
 ·refine List.filter_congr fun v hv=>?_
  have:=QO.1 hv;rw[dc st x this,sQ st x this]
 ·have e1:(st.bf x).af st.vars.length=x.unit:=by unfold ah.af ah.bf;simp
  have e2:(st.bf x).bt st.vars.length=x.own:=by unfold ah.bt ah.bf;simp
  simp only[V6,List.filter_nil,e1,e2];by_cases h1:x.unit=i <;> by_cases h2:x.own < 0 <;> simp[h1,h2]
theorem Av {st:ah}{i v:Nat}(h:v∈st.ab i):v < st.vars.length:=by
 unfold ah.ab at h;exact QO.1 (QK.1 h).1
theorem cz.bf {st:ah}{U U':List UC}{V:List az}(h:cK st U V){x:fS}{y:az}{i:Nat}{u u':UC}(hx:x.unit=i)(hu:U[i]? =some u)(ho:-1<=x.own/\x.own < st.args.getD i 0)
 (hy:y.unit=u.q/\y.arg=x.own/\y.fixed=x.arg/\y.remote=false/\y.slot=0) (hU:U'=U.set i u') (oD:u'={u with ab:=u'.ab,tv:=u'.tv,iJ:=u'.iJ}) (ht:u'.ab=u.ab++(if x.own < 0 then [y.q]else [])) (hs:jA 1 u'.tv u'.ab.length (u'.ab.map fun b=>kM (some b)) u'.iJ):
 cK (st.bf x) U' (V++[y]):=by
 have hq':u'.q=u.q:=by rw[oD]
 have Ia:U'.map UC.q=U.map UC.q:=by rw[hU];exact ze hu hq'
 have L5:=DA Ia;have cF:i < st.outer.length:=by have:=(Vt.1 hu).1;rw[h.ul]at this;exact this
 have aB:∀{j:Nat} {w:UC},U'[j]? =some w->(j≠i/\U[j]? =some w)∨(j=i/\w=u'):=fun {j w} hj=>by
  rw[hU]at hj;rcases lF hu hj with⟨rfl,rfl⟩|⟨h1,h2⟩
  ·exact .inr ⟨rfl,rfl⟩
  ·exact .inl ⟨h1,h2⟩
 have et:∀{j:Nat} {w:UC},U[j]? =some w->∃w',U'[j]? =some w'/\w'.q=w.q:=fun {j w} hj=>by
  have:=L5 j;rw[hj]at this;cases e:U'[j]? with
  |none=>rw[e]at this;cases this
  |some w'=>rw[e]at this;exact⟨w',rfl,X3 this⟩
 have L4:∀{j:Nat} {w:UC},U'[j]? =some w->∃w',U[j]? =some w'/\w.q=w'.q:=fun {j w} hj=>by
  rcases aB hj with⟨_,h'⟩|⟨rfl,rfl⟩
  ·exact⟨w,h',rfl⟩
  ·exact⟨u,hu,hq'⟩
 have hold:∀{v:Nat},v < st.vars.length->(V++[y]).getD v AA=V.getD v AA:=fun {v} hv=>cN (by rw[h.vl];exact hv)
 have uw:(V++[y]).getD st.vars.length AA=y:=by
  rw[Vh,Vl (by rw[h.vl];exact Qn _),h.vl,Qt];rfl
 refine⟨h.wf.bf (by rw[hx];exact cF) (by rw[hx];exact ho),by rw[hU,Q7];exact h.ul,?_,by rw[Ia];exact h.inj,fun j w hj=>?_,fun j w hj=>?_,fun j w hj=>?_,fun j w hj=>?_,fun v a b ha hb=>?_⟩
 ·show(V++[y]).length=(st.vars++[x]).length;rw[Vy,Vy,h.vl];rfl
 ·rcases aB hj with⟨_,h'⟩|⟨rfl,rfl⟩
  ·exact h.un j w h'
  ·rw[oD];exact h.un j u hu
 ·show w.outer=(if st.outer.getD j (-1) < 0 then none else(U'[(st.outer.getD j (-1)).toNat]?).map UC.q);rw[L5];rcases aB hj with⟨_,h'⟩|⟨rfl,rfl⟩
  ·exact h.ou j w h'
  ·rw[oD];exact h.ou j u hu
 ·rw[Nb,QA];have DL:(st.ab j).map (fun v=>((V++[y]).getD v AA).q)=(st.ab j).map (fun v=>(V.getD v AA).q):=QB fun v hv=>by rw[hold (Av hv)]
  rw[DL];rcases aB hj with⟨bZ,h'⟩|⟨rfl,rfl⟩
  ·rw[if_neg (by rintro⟨e,_⟩;exact bZ (e.symm.trans hx))];rw[QE,vm];exact h.tm j w h'
  ·refine⟨?_,hs⟩;rw[ht,(h.tm j u hu).1]
   congr 1
   by_cases hn:x.own < 0
   ·rw[if_pos hn,if_pos ⟨hx,hn⟩,List.map_singleton,uw]
   ·rw[if_neg hn,if_neg (fun e=>hn e.2)];rfl
 ·have E1:∃m:List ((Nat×Int)×Int),gJ w.es w.cl m/\(m.map (·.1)).Nodup/\(∀p∈m,(∃(j:Nat) (w:UC),U[j]? =some w/\p.1.1=w.q)/\0 < p.2/\p.2<=st.uses.length)/\∀(k:Nat) (w:UC) (a:Int),U[k]? =some w->((kz (w.q,a) m).isSome=true↔st.bg j (k,a)=true):=by
   rcases aB hj with⟨_,h'⟩|⟨rfl,rfl⟩
   ·exact h.nd j w h'
   ·rw[oD];exact h.nd j u hu
  obtain⟨m,h1,h2,h3,h4⟩:=E1;refine⟨m,h1,h2,fun p hp=>?_,fun k z a hk=>?_⟩
  ·obtain⟨⟨k,z,h5,h6⟩,h7⟩:=h3 p hp;obtain⟨z',h8,h9⟩:=et h5;exact⟨⟨k,z',h8,h6.trans h9.symm⟩,h7⟩
  ·obtain⟨z',h8,h9⟩:=L4 hk;rw[h9,h4 k z' a h8,h.wf.R3]
 ·have Cr:(st.vars++[x])[v]? =some a:=ha;rw[Vi]at Cr;split at Cr
  ·rename_i hv;rw[Vj (by rw[h.vl];exact hv)]at hb;obtain⟨⟨z,h1,h2⟩,h3,h4,h5,h6⟩:=h.vn v a b Cr hb;obtain⟨z',h8,h9⟩:=et h1;exact⟨⟨z',h8,h2.trans h9.symm⟩,h3,h4,by rw[h5,h.wf.XO x hv],h6⟩
  ·rename_i hv;have hlen:=(Vt.1 Cr).1;simp only[Q8]at hlen;have e:v=st.vars.length:=by omega
   subst e;rw[Qt]at Cr;obtain rfl:x=a:=by simpa using Cr
   rw[Vl (by rw[h.vl];exact Qn _),h.vl,Qt]at hb;obtain rfl:y=b:=by simpa using hb
   obtain⟨y1,y2,y3,y4,y5⟩:=hy;obtain⟨z',h8,h9⟩:=et hu;exact⟨⟨z',by rw[hx];exact h8,y1.trans h9.symm⟩,y2,y3,by rw[y4,h.wf.XP],y5⟩
theorem Tx {U:List UC}{V:List az}{i:Nat}{u:UC}(h:U[i]? =some u):∃R,(WK U V).Perm ((kA u.q 5 [u.tv]++aj u.tv (u.ab.map fun b=>kM (some b)) u.iJ)++R)/\
 ∀l NR EQ,(WK (U.set i {u with ab:=l,tv:=NR,iJ:=EQ}) V).Perm ((kA u.q 5 [NR]++aj NR (l.map fun b=>kM (some b)) EQ)++R):=by
 have hx:∀l NR EQ,({u with ab:=l,tv:=NR,iJ:=EQ}:UC).atoms.Perm ((kA u.q 5 [NR]++aj NR (l.map fun b=>kM (some b)) EQ)++
  (.own u.q 9::(kA u.q 0 [.int .i64 u.args,.int .i64 u.locals,.int .i64 u.aA,kM u.outer,.int .i64 u.num]++(kA u.q 6 [.map (some u.nb),u.cv,u.body]++(aj u.cv (u.dk.flatMap jV) u.cm++[.obj u.nb (.map u.es u.cl)]))))):=fun l NR EQ=>by
  unfold UC.atoms UC.row;simp only[kA,vr,QS,vj];generalize aj NR (l.map fun b=>kM (some b)) EQ=S1;generalize aj u.cv (u.dk.flatMap jV) u.cm++[.obj u.nb (.map u.es u.cl)]=S2;have h6:∀(a b c d e f g:kC) (X Y:List kC),(a::b::c::d::e::f::g::(X++Y)).Perm (g::X++(a::b::c::d::e::f::Y)):=fun a b c d e f g X Y=>by
   have e1:(a::b::c::d::e::f::g::(X++Y))=[a,b,c,d,e,f]++((g::X)++Y):=rfl;rw[e1,<- vj];exact zCN
  have h3:∀(a b c:kC) (X Y:List kC),(a::b::c::(X++Y)).Perm (X++(a::b::c::Y)):=fun a b c X Y=>by
   have e1:(a::b::c::(X++Y))=[a,b,c]++(X++Y):=rfl;rw[e1,<- vj];exact zCN
  have:=h6 (.own u.q 9) (.cell u.q 0 (.int .i64 u.args)) (.cell u.q (0+1) (.int .i64 u.locals)) (.cell u.q (0+1+1) (.int .i64 u.aA)) (.cell u.q (0+1+1+1) (kM u.outer)) (.cell u.q (0+1+1+1+1) (.int .i64 u.num)) (.cell u.q 5 NR) S1 (.cell u.q 6 (.map (some u.nb)):: .cell u.q 7 u.cv:: .cell u.q 8 u.body::S2);refine List.Perm.trans ?_ this;refine List.Perm.cons _ (List.Perm.cons _ (List.Perm.cons _ (List.Perm.cons _ (List.Perm.cons _ (List.Perm.cons _ (List.Perm.cons _ ?_))))));exact h3 _ _ _ _ _
 obtain⟨R,h1,h2⟩:=ES (V:=V) h (hx u.ab u.tv u.iJ);exact⟨R,h1,fun l NR EQ=>h2 _ _ (hx l NR EQ)⟩
end Go.V

/-
  What is gone through only grows; what is wrong first stays so.
-/
import Derived.Test.YtijnokbblmbpkaaGreatDoorS18
import Derived.Test.YtijnokbblmbpkaaGreatDoorS6
import Derived.Test.YtijnokbblmbpkaaGreatDoorS7
set_option linter.unusedSimpArgs false
set_option linter.unusedVariables false
namespace Go.V
open Go
def errW(e:Nat):Prop:=e=180∨e=181∨e=182
structure Gr (a b:SSt):Prop where
 f:∀e,a.f=some e->b.f=some e
 vars:a.vars <+:b.vars
 outer:a.outer <+:b.outer
 args:a.args <+:b.args
 uses:a.uses <+:b.uses
 bod:b.bodies.length=b.outer.length↔a.bodies.length=a.outer.length
 err:∀e,b.f=some e->a.f=some e∨errW e.1
theorem Gr.refl(a:SSt):Gr a a:=⟨fun _ h=>h,QM _,QM _,QM _,QM _,Iff.rfl,fun _ h=>.inl h⟩
theorem Gr.trans {a b c:SSt}(h:Gr a b)(k:Gr b c):Gr a c:=
 ⟨fun e he=>k.f e (h.f e he),h.vars.trans k.vars,h.outer.trans k.outer,h.args.trans k.args,h.uses.trans k.uses,k.bod.trans h.bod,fun e he=>(k.err e he).elim (h.err e) .inr⟩
theorem gr_wrong(a:SSt)(e:Nat)(p:Int)(he:errW e):Gr a (a.wrong e p):=by
 unfold SSt.wrong;split
 ·rename_i h;refine⟨fun x hx=>?_,QM _,QM _,QM _,QM _,Iff.rfl,fun x hx=>.inr (by cases hx;exact he)⟩;rw[hx]at h;cases h
 ·exact Gr.refl a
theorem gr_vars(a:SSt)(l:List SVar):Gr a {a with vars:=a.vars++l}:=⟨fun _ h=>h,QL _ _,QM _,QM _,QM _,Iff.rfl,fun _ h=>.inl h⟩
theorem gr_uses(a:SSt)(l:List (Nat×Nat)):Gr a {a with uses:=a.uses++l}:=⟨fun _ h=>h,QM _,QM _,QM _,QL _ _,Iff.rfl,fun _ h=>.inl h⟩
theorem gr_unit(a:SSt)(o:Int)(n:Nat):Gr a {a with outer:=a.outer++[o],args:=a.args++[n],bodies:=a.bodies++[[]]}:=
 ⟨fun _ h=>h,QM _,QL _ _,QL _ _,QM _,Zs,fun _ h=>.inl h⟩
theorem gr_body(a:SSt)(i:Nat)(b:List PN):Gr a {a with bodies:=a.bodies.set i b}:=
 ⟨fun _ h=>h,QM _,QM _,QM _,QM _,Zs,fun _ h=>.inl h⟩
theorem wrong_vars(a:SSt)(e:Nat)(p:Int):(a.wrong e p).vars=a.vars:=by unfold SSt.wrong;split <;> rfl
theorem wrong_uses(a:SSt)(e:Nat)(p:Int):(a.wrong e p).uses=a.uses:=by unfold SSt.wrong;split <;> rfl
theorem wrong_outer(a:SSt)(e:Nat)(p:Int):(a.wrong e p).outer=a.outer:=by unfold SSt.wrong;split <;> rfl
theorem zZ(unit:Nat)(arg own:Bool)(p:Int):∀(l:List ByteArray) (i:Nat) (st:SSt) (env:List Nat),Gr st (kN unit arg own p l i st env).1
 |[],_,st,_=>Gr.refl st
 |nm::r,i,st,env=>by
  unfold kN;refine Gr.trans ?_ (zZ unit arg own p r _ _ _);split
  ·refine Gr.trans (gr_wrong st 180 p (.inl rfl)) ?_;have:=gr_vars (st.wrong 180 p) [⟨nm,unit,arg,if arg&&own then i else -1⟩];rw[wrong_vars]at this;exact this
  ·exact gr_vars st _
theorem gr_ref(F G:List ByteArray)(st:SSt)(env:List Nat)(nm:ByteArray)(u:Nat)(p:Int)(put:Bool):Gr st (jv F G st env nm u p put).2:=by
 unfold jv;split
 ·exact Gr.refl st
 ·split
  ·rename_i v _;simp only;split
   ·refine Gr.trans (gr_wrong st 182 p (.inr (.inr rfl))) ?_;have:=gr_uses (st.wrong 182 p) [(u,v)];rw[wrong_uses]at this;exact this
   ·exact gr_uses st _
  ·split
   ·exact Gr.refl st
   ·simp only;split
    ·exact Gr.refl st
    ·exact gr_wrong st 181 p (.inr (.inl rfl))
section
variable (F G:List ByteArray) (k:Nat) (s:ByteArray) (lit:Lt) (args temps:List ByteArray) (kids:List Nd) (p:Int) (st:SSt) (env:List Nat) (u:Nat)
theorem wE(x:Nd)(r:List Nd):kR F G (x::r) st env u=((jD F G x st env u).1::(kR F G r (jD F G x st env u).2 env u).1,(kR F G r (jD F G x st env u).2 env u).2):=by rw[kR]
theorem specS_in(x:Nd)(r:List Nd)(i:Nat)(h:inlK s i=true):ky F G s (x::r) i st env u=((inlS F G x st env u).1::(ky F G s r (i+1) (inlS F G x st env u).2 env u).1,
 (if jM s=5 then rawR st.vars.length::(ky F G s r (i+1) (inlS F G x st env u).2 env u).2.1 else(ky F G s r (i+1) (inlS F G x st env u).2 env u).2.1),(ky F G s r (i+1) (inlS F G x st env u).2 env u).2.2):=by rw[ky,if_pos h]
theorem specS_out(x:Nd)(r:List Nd)(i:Nat)(h:inlK s i=false):ky F G s (x::r) i st env u=((jD F G x st env u).1::(ky F G s r (i+1) (jD F G x st env u).2 env u).1,
 (ky F G s r (i+1) (jD F G x st env u).2 env u).2.1,(ky F G s r (i+1) (jD F G x st env u).2 env u).2.2):=by rw[ky,if_neg (by rw[h];simp)]
theorem partS_inl(h:inlP k s kids=true):jD F G (.mk k s lit args temps kids p) st env u=(.mk (speK s) (speN s) lt0 (ky F G s kids 0 st env u).2.1 0 false (ky F G s kids 0 st env u).1,(ky F G s kids 0 st env u).2.2):=by
 unfold jD;rw[if_pos h]
def inS(o:Int):SSt×List Nat:=
 kN st.outer.length false true p temps 0 (kN st.outer.length true true p args 0 (({st with outer:=st.outer++[o],args:=st.args++[args.length],bodies:=st.bodies++[[]]}:SSt)) env).1 (kN st.outer.length true true p args 0 (({st with outer:=st.outer++[o],args:=st.args++[args.length],bodies:=st.bodies++[[]]}:SSt)) env).2
theorem we(o:Int):unitS F G args temps kids p st env o={(kR F G kids (inS args temps p st env o).1 (inS args temps p st env o).2 st.outer.length).2 with bodies:=(kR F G kids (inS args temps p st env o).1 (inS args temps p st env o).2 st.outer.length).2.bodies.set st.outer.length (kR F G kids (inS args temps p st env o).1 (inS args temps p st env o).2 st.outer.length).1}:=by
 unfold unitS inS;rfl
section
variable (h:inlP k s kids=false)
include h
theorem partS_1(hk:k=1):jD F G (.mk k s lit args temps kids p) st env u=(.mk 1 e0 lit [] 0 false [],st):=by
 unfold jD;rw[if_neg (by rw[h];simp),if_pos hk]
theorem partS_2(hk:k=2):jD F G (.mk k s lit args temps kids p) st env u=(.mk 2 e0 lt0 [(jv F G st env s u p false).1] 0 false [],(jv F G st env s u p false).2):=by
 unfold jD;rw[if_neg (by rw[h];simp),if_neg Zo,if_pos hk]
theorem partS_3(hk:k=3):jD F G (.mk k s lit args temps kids p) st env u=(.mk 3 e0 lt0 [(jv F G st env s u p true).1] 0 false (kR F G kids (jv F G st env s u p true).2 env u).1,(kR F G kids (jv F G st env s u p true).2 env u).2):=by
 unfold jD;rw[if_neg (by rw[h];simp),if_neg Zo,if_neg Zo,if_pos hk]
theorem partS_7(hk:k=7):jD F G (.mk k s lit args temps kids p) st env u=(.mk 8 e0 lt0 [] st.outer.length false [],unitS F G args temps kids p st env u):=by
 unfold jD;rw[if_neg (by rw[h];simp),if_neg Zo,if_neg Zo,if_neg Zo,if_pos hk];rfl
theorem partS_8(hk:k=8):jD F G (.mk k s lit args temps kids p) st env u=(.mk 9 e0 lt0 [] 0 false (kR F G kids st env u).1,(kR F G kids st env u).2):=by
 unfold jD;rw[if_neg (by rw[h];simp),if_neg Zo,if_neg Zo,if_neg Zo,if_neg Zo,if_pos hk]
theorem partS_9(hk:k=9):jD F G (.mk k s lit args temps kids p) st env u=(.mk 10 e0 lt0 [] 0 false (kR F G kids st env u).1,(kR F G kids st env u).2):=by
 unfold jD;rw[if_neg (by rw[h];simp),if_neg Zo,if_neg Zo,if_neg Zo,if_neg Zo,if_neg Zo,if_pos hk]
theorem partS_6(hk:k=6):jD F G (.mk k s lit args temps kids p) st env u=(.mk 7 s lt0 [] 0 false (kR F G kids st env u).1,(kR F G kids st env u).2):=by
 unfold jD;rw[if_neg (by rw[h];simp),if_neg Zo,if_neg Zo,if_neg Zo,if_neg Zo,if_neg Zo,if_neg Zo,if_pos hk]
theorem partS_5(hk:k=5):jD F G (.mk k s lit args temps kids p) st env u=(.mk 6 e0 lt0 [] 0 false (wR (jS kids) (kR F G kids st env u).1),(kR F G kids st env u).2):=by
 unfold jD;rw[if_neg (by rw[h];simp),if_neg Zo,if_neg Zo,if_neg Zo,if_neg Zo,if_neg Zo,if_neg Zo,if_neg Zo,if_pos hk]
theorem partS_4s(hk:k≠1/\k≠2/\k≠3/\k≠5/\k≠6/\k≠7/\k≠8/\k≠9)(hs:jS kids=true):jD F G (.mk k s lit args temps kids p) st env u=(.mk 5 s lt0 [] 0 false (kR F G kids.tail st env u).1,(kR F G kids.tail st env u).2):=by
 obtain⟨h1,h2,h3,h5,h6,h7,h8,h9⟩:=hk;unfold jD;rw[if_neg (by rw[h];simp),if_neg h1,if_neg h2,if_neg h3,if_neg h7,if_neg h8,if_neg h9,if_neg h6,if_neg h5,if_pos hs];cases kids with
 |nil=>cases hs
 |cons x r=>rfl
theorem partS_4(hk:k≠1/\k≠2/\k≠3/\k≠5/\k≠6/\k≠7/\k≠8/\k≠9)(hs:jS kids=false):jD F G (.mk k s lit args temps kids p) st env u=(.mk 4 s lt0 [] 0 false (kR F G kids st env u).1,(kR F G kids st env u).2):=by
 obtain⟨h1,h2,h3,h5,h6,h7,h8,h9⟩:=hk;unfold jD;rw[if_neg (by rw[h];simp),if_neg h1,if_neg h2,if_neg h3,if_neg h7,if_neg h8,if_neg h9,if_neg h6,if_neg h5,if_neg (by rw[hs];simp)]
end
theorem inlS_eq:inlS F G (.mk k s lit args temps kids p) st env u=
 (.mk 14 e0 lt0 ((List.range' (kN u true false p args 0 st env).1.vars.length temps.length).map rawR) 0 false
   (kR F G kids (kN u false false p temps 0 (kN u true false p args 0 st env).1 (kN u true false p args 0 st env).2).1 (kN u false false p temps 0 (kN u true false p args 0 st env).1 (kN u true false p args 0 st env).2).2 u).1,
  (kR F G kids (kN u false false p temps 0 (kN u true false p args 0 st env).1 (kN u true false p args 0 st env).2).1 (kN u false false p temps 0 (kN u true false p args 0 st env).1 (kN u true false p args 0 st env).2).2 u).2):=by rw[inlS]
end
theorem gr_part(F G:List ByteArray):∀(N:Nat) (x:Nd),x.size<=N->∀st env u,Gr st (jD F G x st env u).2/\Gr st (inlS F G x st env u).2:=by
 intro N
 induction N with
 |zero=>intro x hx;have:=x.size_pos;omega
 |succ N ih=>
  have hall:∀l:List Nd,Nd.sizes l<=N->∀st env u,Gr st (kR F G l st env u).2:=by
   intro l
   induction l with
   |nil=>intro _ st env u;rw[kR];exact Gr.refl st
   |cons x r ihl=>
    exact zDY
  have hspec:∀(s:ByteArray) (l:List Nd),Nd.sizes l<=N->∀i st env u,Gr st (ky F G s l i st env u).2.2:=by
   intro s l
   induction l with
   |nil=>intro _ i st env u;rw[ky];exact Gr.refl st
   |cons x r ihl=>
    exact zBR
  intro x hx st env u;cases x with
  |mk k s lit args temps kids p=>
  simp only[Nd.size]at hx;have hk:Nd.sizes kids<=N:=by omega
  refine⟨?_,?_⟩
  ·cases h:inlP k s kids with
   |true=>rw[partS_inl _ _ _ _ _ _ _ _ _ _ _ _ h];exact hspec s kids hk 0 st env u
   |false=>
    by_cases h1:k=1
    ·rw[partS_1 _ _ _ _ _ _ _ _ _ _ _ _ h h1];exact Gr.refl st
    by_cases h2:k=2
    ·rw[partS_2 _ _ _ _ _ _ _ _ _ _ _ _ h h2];exact gr_ref F G st env s u p false
    by_cases h3:k=3
    ·rw[partS_3 _ _ _ _ _ _ _ _ _ _ _ _ h h3];exact(gr_ref F G st env s u p true).trans (hall kids hk _ env u)
    by_cases h7:k=7
    ·rw[partS_7 _ _ _ _ _ _ _ _ _ _ _ _ h h7];simp only;rw[we];refine Gr.trans ?_ (Gr.trans (hall kids hk _ _ _) (gr_body _ _ _));exact Gr.trans (gr_unit st _ _) (Gr.trans (zZ _ _ _ _ _ _ _ _) (zZ _ _ _ _ _ _ _ _))
    by_cases h8:k=8
    ·rw[partS_8 _ _ _ _ _ _ _ _ _ _ _ _ h h8];exact hall kids hk st env u
    by_cases h9:k=9
    ·rw[partS_9 _ _ _ _ _ _ _ _ _ _ _ _ h h9];exact hall kids hk st env u
    by_cases h6:k=6
    ·rw[partS_6 _ _ _ _ _ _ _ _ _ _ _ _ h h6];exact hall kids hk st env u
    by_cases h5:k=5
    ·rw[partS_5 _ _ _ _ _ _ _ _ _ _ _ _ h h5];exact hall kids hk st env u
    cases hs:jS kids with
    |true=>
     rw[partS_4s _ _ _ _ _ _ _ _ _ _ _ _ h ⟨h1,h2,h3,h5,h6,h7,h8,h9⟩ hs];refine hall kids.tail ?_ st env u;exact zC9
    |false=>rw[partS_4 _ _ _ _ _ _ _ _ _ _ _ _ h ⟨h1,h2,h3,h5,h6,h7,h8,h9⟩ hs];exact hall kids hk st env u
  ·rw[inlS_eq];exact Gr.trans (zZ _ _ _ _ _ _ _ _) (Gr.trans (zZ _ _ _ _ _ _ _ _) (hall kids hk _ _ _))
end Go.V
namespace Go.V
open Go
structure Wf (st:SSt):Prop where
 al:st.args.length=st.outer.length
 bl:st.bodies.length=st.outer.length
 low:∀(i:Nat) o,st.outer[i]? =some o->-1<=o/\o < i
 vu:∀(v:Nat) x,st.vars[v]? =some x->x.unit < st.outer.length/\-1<=x.own/\x.own < st.args.getD x.unit 0
 uu:∀q∈st.uses,q.1 < st.outer.length/\q.2 < st.vars.length
theorem Wf.lowD {st:SSt}(h:Wf st)(i:Nat):st.outer.getD i (-1) < i:=by
 rw[V5];cases e:st.outer[i]? with
 |none=>simp only[Option.getD_none];omega
 |some o=>exact(h.low i o e).2
theorem ups_neg(o:List Int)(n:Nat){u:Int}(h:u < 0):upsO o n u=[]:=by
 cases n with
 |zero=>rfl
 |succ n=>simp only[upsO];rw[if_pos h]
theorem ups_fuel {o:List Int}(h:∀i,o.getD i (-1) < (i:Int)):∀(u n m:Nat),u < n->u < m->upsO o n u=upsO o m u:=by
 intro u
 induction u using Nat.strongRecOn with
 |_ u ih=>
  intro n m hn hm;cases n with
  |zero=>omega
  |succ n=>
   cases m with
   |zero=>omega
   |succ m=>
    simp only[upsO];rw[if_neg Zo,if_neg Zo]
    congr 1
    rw[vS];have hl:=h u;by_cases c:o.getD u (-1) < 0
    ·rw[ups_neg o n c,ups_neg o m c]
    ·have e:o.getD u (-1)=((o.getD u (-1)).toNat:Int):=by omega
     rw[e];exact ih _ Zo n m Zo Zo
theorem Wf.line {st:SSt}(h:Wf st){u:Nat}(hu:u<=st.outer.length):st.line u=u::(if st.outer.getD u (-1) < 0 then []else st.line (st.outer.getD u (-1)).toNat):=by
 unfold SSt.line;have hl:=h.lowD u;rw[upsO,if_neg Zo,vS]
 congr 1
 by_cases c:st.outer.getD u (-1) < 0
 ·rw[if_pos c,ups_neg _ _ c]
 ·rw[if_neg c];have e:st.outer.getD u (-1)=((st.outer.getD u (-1)).toNat:Int):=by omega
  have:=ups_fuel h.lowD (st.outer.getD u (-1)).toNat st.outer.length (st.outer.length+1) Zo Zo;rw[<- e]at this;rw[<- e];exact this
theorem Wf.way_here {st:SSt}(h:Wf st){u v:Nat}(hu:u<=st.outer.length)(e:u=st.unitOf v):st.way u v=[]:=by
 unfold SSt.way;rw[h.line hu,List.takeWhile_cons,if_neg (by simp[e])]
theorem Wf.way_step {st:SSt}(h:Wf st){u v:Nat}(hu:u<=st.outer.length)(e:u≠st.unitOf v):st.way u v=u::(if st.outer.getD u (-1) < 0 then []else st.way (st.outer.getD u (-1)).toNat v):=by
 unfold SSt.way;rw[h.line hu,List.takeWhile_cons,if_pos (by simp[e])]
 congr 1
 split <;> rfl
theorem Wf.line_le {st:SSt}(h:Wf st):∀(u:Nat),u<=st.outer.length->∀w∈st.line u,w<=u:=by
 intro u
 induction u using Nat.strongRecOn with
 |_ u ih=>
  intro hu w hw;rw[h.line hu]at hw;rcases Q4.1 hw with rfl|hw
  ·exact QW _
  ·have hl:=h.lowD u;split at hw
   ·cases hw
   ·have:=ih (st.outer.getD u (-1)).toNat Zo Zo w hw;omega
def SSt.use(st:SSt)(u v:Nat):SSt:={st with uses:=st.uses++[(u,v)]}
theorem rem_use(st:SSt)(u v w:Nat):(st.use u v).rem w=(st.rem w||(decide (v=w)&&decide (st.ownOf w < 0)&&decide (st.unitOf w≠u))):=by
 unfold SSt.rem SSt.use;simp only[List.any_append,List.any_cons,List.any_nil,vQ];rfl
theorem need_use(st:SSt)(u v j:Nat)(t:Nat×Int):(st.use u v).need j t=(st.need j t||(decide ((st.unitOf v,st.ownOf v)=t)&&decide (j∈st.way u v))):=by
 unfold SSt.need SSt.use;simp only[List.any_append,List.any_cons,List.any_nil,vQ];rfl
theorem Wf.use {st:SSt}(h:Wf st){u v:Nat}(hu:u < st.outer.length)(hv:v < st.vars.length):Wf (st.use u v):=
 ⟨h.al,h.bl,h.low,h.vu,fun q hq=>by
   rcases Q1.1 hq with hq|hq
   ·exact h.uu q hq
   ·obtain rfl:=QC.1 hq;exact⟨hu,hv⟩⟩
def SSt.addV(st:SSt)(x:SVar):SSt:={st with vars:=st.vars++[x]}
theorem unitOf_add(st:SSt)(x:SVar){v:Nat}(hv:v < st.vars.length):(st.addV x).unitOf v=st.unitOf v:=by
 unfold SSt.unitOf SSt.addV;simp only;rw[V7 hv]
theorem ownOf_add(st:SSt)(x:SVar){v:Nat}(hv:v < st.vars.length):(st.addV x).ownOf v=st.ownOf v:=by
 unfold SSt.ownOf SSt.addV;simp only;rw[V7 hv]
theorem any_congr {α:Type}{l:List α}{p q:α->Bool}(h:∀x∈l,p x=q x):l.any p=l.any q:=by
 induction l with
 |nil=>rfl
 |cons x l ih=>rw[List.any_cons,List.any_cons,h x Zs,ih (fun y hy=>h y (by simp[hy]))]
theorem way_add(st:SSt)(x:SVar)(u:Nat){v:Nat}(hv:v < st.vars.length):(st.addV x).way u v=st.way u v:=by
 unfold SSt.way;rw[unitOf_add st x hv];rfl
theorem Wf.need_add {st:SSt}(h:Wf st)(x:SVar)(j:Nat)(t:Nat×Int):(st.addV x).need j t=st.need j t:=by
 unfold SSt.need;refine any_congr (l:=st.uses) (fun q hq=>?_);have:=(h.uu q hq).2;rw[unitOf_add st x this,ownOf_add st x this,way_add st x _ this]
theorem Wf.rem_add {st:SSt}(h:Wf st)(x:SVar){v:Nat}(hv:v < st.vars.length):(st.addV x).rem v=st.rem v:=by
 unfold SSt.rem;refine any_congr (l:=st.uses) (fun q hq=>?_);rw[unitOf_add st x hv,ownOf_add st x hv]
theorem Wf.rem_new {st:SSt}(h:Wf st)(x:SVar):(st.addV x).rem st.vars.length=false:=by
 unfold SSt.rem;rw[List.any_eq_false];intro q hq;have:=(h.uu q hq).2;simp only[vF,decide_eq_true_eq,not_and];intro e;omega
theorem Wf.addV {st:SSt}(h:Wf st){x:SVar}(hx:x.unit < st.outer.length)(ho:-1<=x.own/\x.own < st.args.getD x.unit 0):Wf (st.addV x):=
 ⟨h.al,h.bl,h.low,fun v y hy=>by
   unfold SSt.addV at hy;simp only at hy;rw[V6]at hy;split at hy
   ·exact h.vu v y hy
   ·have:=(Vd.1 hy).1;simp only[Vu]at this;have e:v - st.vars.length=0:=by omega
    rw[e]at hy;obtain rfl:x=y:=by simpa using hy
    exact⟨hx,ho⟩,fun q hq=>⟨(h.uu q hq).1,by have:=(h.uu q hq).2;show q.2 < (st.vars++[x]).length;rw[Vj];omega⟩⟩
def SSt.addU(st:SSt)(o:Int)(n:Nat):SSt:={st with outer:=st.outer++[o],args:=st.args++[n],bodies:=st.bodies++[[]]}
theorem getD_snoc {α:Type}{l:List α}{x d:α}{i:Nat}(h:i < l.length):(l++[x]).getD i d=l.getD i d:=by
 rw[V5,V5,V7 h]
theorem Wf.addU {st:SSt}(h:Wf st){o:Int}{n:Nat}(ho:-1<=o/\o < st.outer.length):Wf (st.addU o n):=by
 refine⟨?_,?_,fun i p hp=>?_,fun v x hx=>?_,fun q hq=>?_⟩
 ·unfold SSt.addU;simp only[Vj,Vu];rw[h.al]
 ·unfold SSt.addU;simp only[Vj,Vu];rw[h.bl]
 ·unfold SSt.addU at hp;simp only at hp;rw[V6]at hp;split at hp
  ·exact h.low i p hp
  ·have:=(Vd.1 hp).1;simp only[Vu]at this;have e:i - st.outer.length=0:=by omega
   rw[e]at hp;obtain rfl:o=p:=by simpa using hp
   omega
 ·obtain⟨h1,h2,h3⟩:=h.vu v x hx;refine⟨?_,h2,?_⟩
  ·show x.unit < (st.outer++[o]).length;rw[Vj];omega
  ·show x.own < (st.args++[n]).getD x.unit 0;rw[getD_snoc (by rw[h.al];exact h1)];exact h3
 ·obtain⟨h1,h2⟩:=h.uu q hq;refine⟨?_,h2⟩;show q.1 < (st.outer++[o]).length;rw[Vj];omega
theorem Wf.line_add {st:SSt}(h:Wf st){o:Int}{n:Nat}(ho:-1<=o/\o < st.outer.length):∀(u:Nat),u < st.outer.length->(st.addU o n).line u=st.line u:=by
 intro u
 induction u using Nat.strongRecOn with
 |_ u ih=>
  intro hu;have h':=h.addU (n:=n) ho;have e:(st.addU o n).outer.getD u (-1)=st.outer.getD u (-1):=getD_snoc hu;have hl:=h.lowD u;rw[h'.line (by show u<=(st.outer++[o]).length;rw[Vj];omega),h.line Zo,e]
  congr 1
  split
  ·rfl
  ·exact ih _ Zo Zo
theorem Wf.way_addU {st:SSt}(h:Wf st){o:Int}{n:Nat}(ho:-1<=o/\o < st.outer.length){u v:Nat}(hu:u < st.outer.length):(st.addU o n).way u v=st.way u v:=by
 unfold SSt.way;rw[h.line_add ho u hu];rfl
theorem Wf.need_addU {st:SSt}(h:Wf st){o:Int}{n:Nat}(ho:-1<=o/\o < st.outer.length)(j:Nat)(t:Nat×Int):(st.addU o n).need j t=st.need j t:=by
 unfold SSt.need;refine any_congr (l:=st.uses) (fun q hq=>?_);rw[h.way_addU ho (h.uu q hq).1];rfl
theorem Wf.need_new {st:SSt}(h:Wf st)(j:Nat)(hj:st.outer.length<=j)(t:Nat×Int):st.need j t=false:=by
 unfold SSt.need;rw[List.any_eq_false];intro q hq;simp only[vF,decide_eq_true_eq,not_and];intro _ hm;have h1:=(h.uu q hq).1;have:=h.line_le q.1 Zo j ((List.takeWhile_prefix _).subset hm);omega
end Go.V
namespace Go.V
open Go
def wF(L:List kC)(b:Nat):Prop:=(∃n,kC.own b n∈L)/\∃v,kC.cell b 0 v∈L
theorem wF.more {L M:List kC}{b:Nat}(h:wF L b)(hs:∀x∈L,x∈M):wF M b:=⟨h.1.imp fun _ k=>hs _ k,h.2.imp fun _ k=>hs _ k⟩
section
variable {P:Program} {w:World} {L:List kC}
theorem run_lies(hs:Sat w L){b:Nat}(h:wF L b):(frozen ⟨b,0,none⟩).run P w=.ok false w/\(noView ⟨b,0,none⟩).run P w=.ok () w/\(stringish ⟨b,0,none⟩).run P w=.ok false w/\∃r:Bool,(do pure ((<- shape b) matches some (_,0)):Sem Bool).run P w=.ok r w:=by
 obtain⟨⟨n,h1⟩,⟨v,h2⟩⟩:=h;obtain⟨c,t,lo,hi,hb,hn,hf⟩:=hs.holds _ h1;obtain⟨_,f2⟩:=hs.cell h2;have e1:(frozen ⟨b,0,none⟩).run P w=.ok false w:=by
  simp only[frozen,Sem.run,f2]
 have hsh:w.shape? b=some (t,c.size):=by simp[World.shape?,hb]
 have e2:(shape b).run P w=.ok (some (t,c.size)) w:=by simp only[shape,Sem.run,hsh]
 have f3:w.frozen? ⟨b,c.size,none⟩=false:=by
  simp only[World.frozen?,hb];simp only[vE,decide_eq_false_iff_not];by_cases h:lo<=n
  ·right;intro h';exact hf ⟨h,Zo⟩
  ·left;omega
 refine⟨e1,?_,?_,?_⟩
 ·simp[noView,viewAt,e2]
 ·simp only[stringish,Sem.run_bind,e1,Result.andThen_ok];simp only[vI,if_false,Sem.run_bind,e2,Result.andThen_ok];simp only[frozen,Sem.run,f3]
 ·simp only[Sem.run_bind,e2,Result.andThen_ok];exact⟨_,rfl⟩
theorem run_sameAddr(hs:Sat w L){a b:Nat}(ha:wF L a)(hb:wF L b):(sameAddr ⟨a,0,none⟩ ⟨b,0,none⟩).run P w=.ok (decide (a=b)) w:=by
 unfold sameAddr;by_cases h:a=b
 ·subst h;simp
 ·obtain⟨a1,a2,a3,ra,a4⟩:=run_lies (P:=P) hs ha;obtain⟨b1,b2,b3,rb,b4⟩:=run_lies (P:=P) hs hb;have hne:(a==b)=false:=by simpa using h
  simp[hne,a1,b1,a2,b2,mayBeOne,a3,b3,h]
theorem run_eqptr(hs:Sat w L){t e:TypeId}{i:TypeInfo}(ht:P.underlying t=some (.pointer e))(hi:P.info? e=some i)(hz:i.size≠0){a b:Nat}(ha:wF L a)(hb:wF L b)(n:Nat):
 (Op.equalIn (n+1) t (.pointer (some ⟨a,0,none⟩)) (.pointer (some ⟨b,0,none⟩))).run P w=.ok (decide (a=b)) w:=by
 simp[Op.equalIn,kB ht,kW hi,hz,run_sameAddr hs ha hb]
end
structure ThP (P:Program)(t mt e:TypeId):Prop where
 fs : ∃ f0 f1 : Field, P.underlying t = some (.struct #[f0, f1]) ∧ f0.offset = 0 ∧ f1.offset = 1 ∧ f0.name ≠ "_" ∧ f1.name ≠ "_" ∧ P.underlying f0.type = some (.pointer e) ∧ P.underlying f1.type = some (.int .i64)
 sz:∃i,P.info? e=some i/\i.size≠0
 stood:P.stoodInHeld t=false
 guard:P.eqGuardType P.depth t=false
 map:∃it i,P.underlying mt=some (.map t it)/\P.info? it=some i/\i.zero=some (.int .i64 0)
def thV(k:Nat×Int):Value:=.agg #[.pointer (some ⟨k.1,0,none⟩),.int .i64 k.2]
def ThM(es:List MapEntry)(m:List ((Nat×Int)×Int)):Prop:=es.map (fun e=>(e.key,e.val))=m.map fun p=>(thV p.1,.int .i64 p.2)
def zU(k:Nat×Int):List ((Nat×Int)×Int)->Nat->Option (Nat×Value)
 |[],_=>none
 |p::r,i=>if k=p.1 then some (i,.int .i64 p.2)else zU k r (i+1)
section
variable {P:Program} {w:World} {L:List kC} {t mt e:TypeId}
theorem run_eqth(hs:Sat w L)(h:ThP P t mt e){k j:Nat×Int}(hk:wF L k.1)(hj:wF L j.1):(Op.equal t (thV k) (thV j)).run P w=.ok (decide (k=j)) w:=by
 obtain⟨f0,f1,hf,o0,o1,n0,n1,u0,u1⟩:=h.fs;obtain⟨i,hi,hz⟩:=h.sz;have hfo:P.underlying t=some (.struct (P.fieldsOf t)):=by simp[Program.fieldsOf,hf]
 have hfs:P.fieldsOf t=#[f0,f1]:=by simp[Program.fieldsOf,hf]
 show(Op.equalIn (9999+1) t (thV k) (thV j)).run P w=_;unfold thV;rw[run_equalIn_struct w 9999 t _ _ hfo h.stood,hfs];have p0:∀x y:Value,(part f0.type #[x,y] f0.offset).run P w=.ok x w:=fun x y=>by
  simp[part,isAgg,kB u0,o0]
 have p1:∀x y:Value,(part f1.type #[x,y] f1.offset).run P w=.ok y w:=fun x y=>by
  simp[part,isAgg,kB u1,o1]
 have q1:∀x y:Int,(Op.equalIn 9999 f1.type (.int .i64 x) (.int .i64 y)).run P w=.ok (decide (x=y)) w:=fun x y=>run_equalIn_scal (n:=9998) u1 rfl rfl
 simp only[Op.eqFields,ne_eq,n0,n1,not_false_eq_true,if_true,Sem.run_bind,p0,p1,Result.andThen_ok,run_eqptr (n:=9998) hs u0 hi hz hk hj,q1];have e1:decide (k=j)=(decide (k.1=j.1)&&decide (k.2=j.2)):=by
  rw[<- Bool.decide_and];exact decide_eq_decide.2 ⟨fun h=>h ▸ ⟨rfl,rfl⟩,fun h=>Prod.ext h.1 h.2⟩
 rw[e1];by_cases c1:k.1=j.1 <;> by_cases c2:k.2=j.2 <;> simp[c1,c2,p1,q1]
theorem run_findth(hs:Sat w L)(h:ThP P t mt e){k:Nat×Int}(hk:wF L k.1):∀(es:List MapEntry) (m:List ((Nat×Int)×Int)) (i:Nat),ThM es m->(∀p∈m,wF L p.1.1)->(Instr.findAsking t (thV k) es i).run P w=.ok (zU k m i) w:=by
 intro es
 induction es with
 |nil=>
  intro m i hm _;cases m with
  |nil=>simp[Instr.findAsking,zU]
  |cons p r=>simp[ThM]at hm
 |cons q es ih=>
  intro m i hm hl;cases m with
  |nil=>simp[ThM]at hm
  |cons p r=>
   simp only[ThM,Vy,ve,Qp]at hm;obtain⟨⟨h1,h2⟩,h3⟩:=hm;simp only[Instr.findAsking,Sem.run_bind,h1,run_eqth hs h hk (hl p Zs),Result.andThen_ok,zU];by_cases c:k=p.1
   ·simp[c,h2]
   ·simp only[c,decide_false,vI,if_false];exact ih r (i+1) h3 (fun p hp=>hl p (by simp[hp]))
theorem run_findkey(hs:Sat w L)(h:ThP P t mt e){k:Nat×Int}(hk:wF L k.1){es:List MapEntry}{m:List ((Nat×Int)×Int)}(hm:ThM es m)(hl:∀p∈m,wF L p.1.1):(Instr.findKey t (thV k) es).run P w=.ok (zU k m 0) w:=by
 obtain⟨f0,f1,hf,_⟩:=h.fs;unfold Instr.findKey;simp only[Sem.run_bind,kB hf,Result.andThen_ok];cases es with
 |nil=>
  cases m with
  |nil=>simp[Instr.findNow,zU]
  |cons p r=>simp[ThM]at hm
 |cons q es=>
  have:Instr.findNow (.struct #[f0,f1]) (thV k) (q::es) 0=none:=by simp[Instr.findNow,Instr.sameNow]
  rw[this];exact run_findth hs h hk _ _ _ hm hl
theorem run_checkth(h:ThP P t mt e)(b:Bool)(k:Nat×Int):(Instr.checkKey b 10000 t (thV k)).run P w=.ok () w:=by
 obtain⟨f0,f1,hf,o0,o1,n0,n1,u0,u1⟩:=h.fs;have p0:∀x y:Value,(part f0.type #[x,y] f0.offset).run P w=.ok x w:=fun x y=>by
  simp[part,isAgg,kB u0,o0]
 have p1:∀x y:Value,(part f1.type #[x,y] f1.offset).run P w=.ok y w:=fun x y=>by
  simp[part,isAgg,kB u1,o1]
 show(Instr.checkKey b (9998+1+1) t (thV k)).run P w=_;unfold thV;generalize 9998=N;simp[Instr.checkKey,kB hf,n0,n1,p0,p1,kB u0,kB u1]
end
theorem thFind_get {k:Nat×Int}:∀{m:List ((Nat×Int)×Int)} {i:Nat},(zU k m i).map (·.2)=(kq k m).map (Value.int .i64):=by
 intro m
 induction m with
 |nil=>intro i;rfl
 |cons p r ih=>
  intro i;obtain⟨a,v⟩:=p;simp only[zU,kq];by_cases h:k=a
  ·rw[if_pos h,if_pos h.symm];rfl
  ·rw[if_neg h,if_neg (fun e=>h e.symm)];exact ih
theorem thFind_set {k:Nat×Int}{v:Int}{u:Value}{q:MapEntry}(hq:q.key=thV k)(hv:q.val=.int .i64 v):∀{m:List ((Nat×Int)×Int)} {es:List MapEntry} {i j:Nat},ThM es m->zU k m i=some (j,u)->
 i<=j/\(∃x,es[j - i]? =some x/\x.key=thV k)/\ThM (es.set (j - i) q) (jZ k v m):=by
 intro m
 induction m with
 |nil=>intro es i j _ h;cases h
 |cons p r ih=>
  intro es i j hm h;obtain⟨a,w⟩:=p;cases es with
  |nil=>simp[ThM]at hm
  |cons x es=>
   simp only[ThM,Vy,ve,Qp]at hm;obtain⟨⟨h1,h2⟩,h3⟩:=hm;simp only[zU]at h;by_cases c:k=a
   ·rw[if_pos c]at h;simp only[Qo,Qp]at h;obtain⟨rfl,rfl⟩:=h;subst c;refine⟨QW _,⟨x,Zs,h1⟩,?_⟩;simp only[Qd,List.set_cons_zero,jZ,if_true,ThM,Vy,hq,hv,h3]
   ·rw[if_neg c]at h;obtain⟨g1,⟨y,g2,g3⟩,g4⟩:=ih h3 h;have e:j - i=(j - (i+1))+1:=by omega
    refine⟨Zo,⟨y,by rw[e];simpa using g2,g3⟩,?_⟩;rw[e];simp only[List.set_cons_succ,jZ];rw[if_neg (fun e=>c e.symm)];simp only[ThM,Vy,h1,h2,ve,true_and];exact g4
theorem thFind_none {k:Nat×Int}:∀{m:List ((Nat×Int)×Int)} {i:Nat},zU k m i=none->kq k m=none:=fun {m i} h=>by
 have:=thFind_get (k:=k) (m:=m) (i:=i);rw[h]at this;cases e:kq k m with
 |none=>rfl
 |some x=>rw[e]at this;cases this
theorem SWP.step {P:Program}{α β:Type}{H:List kC}{K:β->List kC->Prop}{s:Sem α}{f:α->Sem β}{v:α}(h:∀F w,Sat w (H++F)->s.run P w=.ok v w)(k:SWP P (f v) H K):SWP P (s >>=f) H K:=
 SWP.bind (fun F w hs=>⟨v,w,H,h F w hs,k,hs,.refl w⟩)
section
variable {P:Program} {n:Nat} {rs:List RO} {Γ:Env} {H R:SH} {Z:List PanicEntry->Env->SH->Prop} {K:Env->SH->Prop} {d:Option Nat} {t mt e:TypeId}
theorem st_eqp {x y:Operand}{a b:Nat}{i:TypeInfo}(ht:P.underlying t=some (.pointer e))(hi:P.info? e=some i)(hz:i.size≠0)(hx:ev Γ x=some (.pointer (some ⟨a,0,none⟩)))(hy:ev Γ y=some (.pointer (some ⟨b,0,none⟩)))(ha:wF H.flatten a)(hb:wF H.flatten b)
 (h:VO P n rs (putE d (.bool (decide (a=b))) Γ) H Z K):VO P n (⟨d,none,.eqt .eql t x y⟩::rs) Γ H Z K:=by
 exact zB1
theorem st_nep {x y:Operand}{a b:Nat}{i:TypeInfo}(ht:P.underlying t=some (.pointer e))(hi:P.info? e=some i)(hz:i.size≠0)(hx:ev Γ x=some (.pointer (some ⟨a,0,none⟩)))(hy:ev Γ y=some (.pointer (some ⟨b,0,none⟩)))(ha:wF H.flatten a)(hb:wF H.flatten b)
 (h:VO P n rs (putE d (.bool (!decide (a=b))) Γ) H Z K):VO P n (⟨d,none,.eqt .neq t x y⟩::rs) Γ H Z K:=by
 exact zB1
theorem st_eqth {x y:Operand}{k j:Nat×Int}(hT:ThP P t mt e)(hx:ev Γ x=some (thV k))(hy:ev Γ y=some (thV j))(ha:wF H.flatten k.1)(hb:wF H.flatten j.1)
 (h:VO P n rs (putE d (.bool (decide (k=j))) Γ) H Z K):VO P n (⟨d,none,.eqt .eql t x y⟩::rs) Γ H Z K:=by
 refine VO.read rfl rfl (fun ρ hρ=>⟨_,rfl,fun F w hs=>?_⟩) h;rw[hρ _ _ hx,hρ _ _ hy];have hm:∀c∈H.flatten,c∈H.flatten++F:=fun c hc=>Zw _ hc
 have h2:=run_eqth (P:=P) hs hT (ha.more hm) (hb.more hm);rw[Sem.run_bind];have hg:(eqGuard .eql t x y (thV k) (thV j)).run P w=.ok () w:=run_eqGuard_agg w _ t x y _ _ hT.guard;rw[hg];simp only[Result.andThen_ok,Sem.run_bind,Go.binOp,thV]at*;simp[h2]
theorem st_lookth {m x:Operand}{b c:Nat}{es:Array MapEntry}{k:Nat×Int}{l:List ((Nat×Int)×Int)}(hT:ThP P t mt e)(hm:ev Γ m=some (.map (some b)))(hx:ev Γ x=some (thV k))
 (ho:HasO H b (.map es c)) (hl:ThM es.toList l) (hk:wF H.flatten k.1) (hls:∀p∈l,wF H.flatten p.1.1) (h:VO P n rs (putE d (.int .i64 ((kq k l).getD 0)) Γ) H Z K):VO P n (⟨d,none,.lookt mt false m x⟩::rs) Γ H Z K:=by
 refine VO.read rfl rfl (fun ρ hρ=>⟨_,rfl,fun F w hs=>?_⟩) h;rw[hρ _ _ hm,hρ _ _ hx];have hsub:∀c∈H.flatten,c∈H.flatten++F:=fun c hc=>Zw _ hc
 obtain⟨it,i,hmt,hi,hiz⟩:=hT.map;have hg:=run_getObj_of (P:=P) ho.mem hs;have hf:=run_findkey (P:=P) hs hT (hk.more hsub) hl (fun p hp=>(hls p hp).more hsub);have hge:=thFind_get (k:=k) (m:=l) (i:=0);simp only[Instr.lookup,Sem.run_bind,kB hmt,Result.andThen_ok,hg,Sem.run_pure,run_checkth hT,hf];cases hfe:zU k l 0 with
 |none=>
  rw[thFind_none hfe];simp[kX hi hiz]
 |some q=>
  obtain⟨j,u⟩:=q;rw[hfe]at hge;cases hge2:kq k l with
  |none=>rw[hge2]at hge;cases hge
  |some z=>
   rw[hge2]at hge;simp only[Qm,Qo]at hge;simp[hge]
theorem st_allocO {t:TypeId}{z:List Value}(h:∀b,VO P n rs (putE d (.pointer (some ⟨b,0,none⟩)) Γ) ((.own b z.length::kA b 0 z)::H) Z K):VO P n (⟨d,none,.alloc t z⟩::rs) Γ H Z K:=by
 refine VO.act rfl rfl (fun ρ hρ=>⟨_,rfl,?_⟩);intro F w hs;refine⟨_,_,(.own w.heap.size z.length::kA w.heap.size 0 z)++H.flatten,rfl,⟨_,(.own w.heap.size z.length::kA w.heap.size 0 z)::H,.inl rfl,?_,h _⟩,?_⟩
 ·simp
 ·have hp:=Sat.push hs (.cells z.toArray t (0,0)) (.own w.heap.size z.length::kA w.heap.size 0 z) (fun x hx=>?_) ?_
  ·rw[vZ];exact hp
  ·have hb:({w with heap:=w.heap.push (.cells z.toArray t (0,0))}:World).heap[w.heap.size]? =some (.cells z.toArray t (0,0)):=by simp
   exact zCG
  ·rw[Vy,QF];refine⟨fun hm=>?_,?_⟩
   ·exact zC8
   ·exact nodup_cellsAt _ _ _
structure ThIs (es:Array MapEntry)(c:Nat)(m:List ((Nat×Int)×Int)):Prop where
 of:ThM es.toList m
 born:es.toList.Pairwise fun a b=>a.born < b.born
 clock:∀e∈es.toList,e.born < c
theorem ThIs.nil:ThIs #[] 0 []:=⟨rfl,.nil,Zs⟩
theorem ThIs.push {es:Array MapEntry}{c:Nat}{m:List ((Nat×Int)×Int)}(h:ThIs es c m){k:Nat×Int}{v:Int}(hn:kq k m=none):ThIs (es.push {key:=thV k,val:=.int .i64 v,born:=c}) (c+1) (jZ k v m):=by
 refine⟨?_,?_,?_⟩
 ·rw[mget_none_mset hn];have:=h.of;simp only[ThM]at this|-;simp[this]
 ·exact zD8
 ·exact zCO
def Stamp(es:Array MapEntry)(s:Nat)(k:Nat×Int):Prop:=∃(i:Nat) (e:MapEntry),es[i]? =some e/\e.born=s/\e.key=thV k
theorem stamp_idx {es:Array MapEntry}{c:Nat}{m:List ((Nat×Int)×Int)}(h:ThIs es c m){s:Nat}{k:Nat×Int}(hs:Stamp es s k):∃(i:Nat) (e:MapEntry),es.findIdx? (fun e=>((e.born:Int)==(s:Int)))=some i/\es[i]? =some e/\e.key=thV k:=by
 obtain⟨i,e,he,hb,hk⟩:=hs;have hl:=(v8.1 he).1;refine⟨i,e,?_,he,hk⟩;rw[Array.findIdx?_eq_some_iff_getElem];have hei:es[i]=e:=by rw[v7 hl]at he;exact Qn he
 refine⟨hl,by simp[hei,hb],fun j hj=>?_⟩;have hp:=List.pairwise_iff_getElem.1 h.born j i (by simpa using Nat.lt_trans hj hl) (by simpa using hl) hj;simp only[Array.getElem_toList]at hp;rw[hei,hb]at hp;have:((es[j].born:Int)==(s:Int))=false:=by
  rw[beq_eq_false_iff_ne];omega
 simp[this]
theorem ThIs.at_ {es:Array MapEntry}{c:Nat}{m:List ((Nat×Int)×Int)}(h:ThIs es c m){k:Nat×Int}{v:Int}{i:Nat}{e:MapEntry}(he:es[i]? =some e)(hk:e.key=thV k)(hu:(m.map (·.1)).Nodup):
 ThIs (es.modify i fun e=>{e with val:=.int .i64 v}) c (jZ k v m):=by
 have hl:=(v8.1 he).1;have hei:es[i]=e:=by rw[v7 hl]at he;exact Qn he
 have hle:(es.modify i fun e=>{e with val:=.int .i64 v}).toList=es.toList.set i {e with val:=.int .i64 v}:=by
  apply vm;intro j;rw[vB,v9,Vh];by_cases hj:i=j
  ·subst hj;simp[hl,hei]
  ·simp[hj]
 have hborn:(es.toList.set i {e with val:=.int .i64 v}).map MapEntry.born=es.toList.map MapEntry.born:=by
  apply vm;intro j;simp only[Ve,Vh];by_cases hj:i=j
  ·subst hj;simp[hl,hei]
  ·simp[hj]
 have hset:∀(es:List MapEntry) (m:List ((Nat×Int)×Int)) (i:Nat),ThM es m->es[i]? =some e->(m.map (·.1)).Nodup->ThM (es.set i {e with val:=.int .i64 v}) (jZ k v m):=by
  intro es
  induction es with
  |nil=>intro m i _ h;simp at h
  |cons x es ih=>
   intro m i hm hx hn;cases m with
   |nil=>simp[ThM]at hm
   |cons p r=>
    obtain⟨a,w⟩:=p;simp only[ThM,Vy,ve,Qp]at hm;obtain⟨⟨h1,h2⟩,h3⟩:=hm;have hthV:∀a b:Nat×Int,thV a=thV b->a=b:=fun a b hab=>by
     simp only[thV,Value.agg.injEq]at hab;simp at hab;exact Prod.ext hab.1 hab.2
    simp only[Vy,QF]at hn;cases i with
    |zero=>
     obtain rfl:x=e:=by simpa using hx
     have:a=k:=hthV _ _ (h1.symm.trans hk);subst this;simp only[List.set_cons_zero,jZ,if_true,ThM,Vy,h1,h3]
    |succ i=>
     have hx':es[i]? =some e:=by simpa using hx
     have hne:a≠k:=by
      rintro rfl
      have:(e.key,e.val)∈es.map (fun e=>(e.key,e.val)):=Q9.2 ⟨e,Zv hx',rfl⟩;rw[h3]at this;obtain⟨q,hq,hq2⟩:=Q9.1 this;simp only[Qp]at hq2;exact hn.1 (Q9.2 ⟨q,hq,hthV _ _ (hq2.1.trans hk)⟩)
     simp only[List.set_cons_succ,jZ];rw[if_neg hne];simp only[ThM,Vy,h1,h2,ve,true_and];exact ih r i h3 hx' hn.2
 refine⟨?_,?_,?_⟩
 ·rw[hle];exact hset _ _ _ h.of (by simpa using he) hu
 ·rw[hle];have hp:=h.born;have e1:∀l:List MapEntry,l.Pairwise (fun a b=>a.born < b.born)↔(l.map MapEntry.born).Pairwise (·< ·):=fun l=>List.pairwise_map.symm
  rw[e1]at hp|-;rw[hborn];exact hp
 ·rw[hle];intro x hx;have:x.born∈(es.toList.set i {e with val:=.int .i64 v}).map MapEntry.born:=Q9.2 ⟨x,hx,rfl⟩;rw[hborn]at this;obtain⟨y,hy,hyb⟩:=Q9.1 this;rw[<- hyb];exact h.clock y hy
theorem st_ment {m x:Operand}{b c:Nat}{es:Array MapEntry}{k:Nat×Int}{l:List ((Nat×Int)×Int)}(hT:ThP P t mt e)(hm:ev Γ m=some (.map (some b)))(hx:ev Γ x=some (thV k))
 (ht:Tk H [.obj b (.map es c)] R) (hl:ThIs es c l) (hk:wF R.flatten k.1) (hls:∀p∈l,wF R.flatten p.1.1)
 (h:∀es' c' s,ThIs es' c' (if(kq k l).isSome then l else jZ k 0 l)->Stamp es' s k->c'<=c+1->VO P n rs (putE d (.tuple #[.int .i64 ((kq k l).getD 0),.int .i64 s]) Γ) ([.obj b (.map es' c')]::R) Z K):VO P n (⟨d,none,.ment mt m x⟩::rs) Γ H Z K:=by
 refine VO.act rfl rfl (fun ρ hρ=>⟨_,rfl,?_⟩);rw[hρ _ _ hm,hρ _ _ hx];refine SWP.perm ht.perm ?_;obtain⟨it,i,hmt,hi,hiz⟩:=hT.map;have hsub:∀(F:List kC) (c':kC),c'∈R.flatten->c'∈([kC.obj b (.map es c)]++R.flatten)++F:=fun F c' h'=>Zw _ (Q3 _ h')
 refine SWP.bind ?_;unfold Instr.mapEntry;refine SWP.step (v:=.map t it) (fun F w _=>kB hmt) ?_;simp only;refine SWP.bind (SWP.getObj (o:=.map es c) Zs ?_);simp only;refine SWP.step (v:=()) (fun F w _=>run_checkth hT false k) ?_;refine SWP.step (v:=zU k l 0) (fun F w hs=>run_findkey hs hT (hk.more (hsub F)) hl.of (fun p hp=>(hls p hp).more (hsub F))) ?_;have hge:=thFind_get (k:=k) (m:=l) (i:=0);cases hf:zU k l 0 with
 |none=>
  have hn:=thFind_none hf;refine SWP.step (v:=.int .i64 0) (fun F w _=>kX hi hiz) ?_;refine SWP.bind (SWP.setObj rfl (SWP.pure (SWP.pure ⟨_,[.obj b (.map (es.push {key:=thV k,val:=.int .i64 0,born:=c}) (c+1))]::R,.inl rfl,?_,?_⟩)))
  ·simp
  ·have:=h (es.push {key:=thV k,val:=.int .i64 0,born:=c}) (c+1) c (by rw[hn];exact hl.push hn) ⟨es.size,{key:=thV k,val:=.int .i64 0,born:=c},Zs,rfl,rfl⟩ (QW _);rw[hn]at this;exact this
 |some q=>
  obtain⟨j,u⟩:=q;obtain⟨_,⟨z,hz,hzk⟩,_⟩:=thFind_set (q:=⟨thV k,.int .i64 0,0⟩) rfl rfl hl.of hf;simp only[Nat.sub_zero]at hz;have hz':es[j]? =some z:=by simpa using hz
  rw[hf]at hge;cases hge2:kq k l with
  |none=>rw[hge2]at hge;cases hge
  |some y=>
  rw[hge2]at hge;simp only[Qm,Qo]at hge;have hkey:((es[j]?).map (·.key)).getD (thV k)=thV k:=by simp[hz',hzk]
  refine SWP.bind (swp_key _ _ (fun kk hkk=>?_));have hkk':kk=thV k:=by rcases hkk with h'|h';rw[h',hkey];exact h'
  subst hkk';have hsame:(es.modify j fun e=>{e with key:=thV k})=es:=by
   apply Array.ext_getElem?;intro i;rw[v9];by_cases hij:j=i
   ·subst hij;rw[hz'];simp;rw[<- hzk]
   ·simp[hij]
  rw[hsame];have hb:z.born < c:=hl.clock z (by have:=Zv hz;exact this);refine SWP.bind (SWP.setObj rfl (SWP.pure (SWP.pure ⟨_,[.obj b (.map es c)]::R,.inl rfl,?_,?_⟩)))
  ·simp
  ·have:=h es c z.born (by rw[hge2];exact hl) ⟨j,z,hz',rfl,hzk⟩ (QX _);rw[hge2]at this;have e2:goInt (((es[j]?).map (·.born)).getD 0)=.int .i64 (z.born:Int):=by
    rw[hz'];rfl
   rw[e2,hge];exact this
theorem st_mst {m x y:Operand}{b c s:Nat}{es:Array MapEntry}{k:Nat×Int}{v:Int}{l:List ((Nat×Int)×Int)}(hm:ev Γ m=some (.map (some b)))(hx:ev Γ x=some (.int .i64 s))(hy:ev Γ y=some (.int .i64 v))
 (ht:Tk H [.obj b (.map es c)] R) (hl:ThIs es c l) (hs:Stamp es s k) (hu:(l.map (·.1)).Nodup)
 (h:∀es',ThIs es' c (jZ k v l)->VO P n rs (putE d undef Γ) ([.obj b (.map es' c)]::R) Z K):VO P n (⟨d,none,.mst mt m x y⟩::rs) Γ H Z K:=by
 refine VO.act rfl rfl (fun ρ hρ=>⟨_,rfl,?_⟩);rw[hρ _ _ hm,hρ _ _ hx,hρ _ _ hy];refine SWP.perm ht.perm ?_;obtain⟨i,z,h1,h2,h3⟩:=stamp_idx hl hs;refine SWP.bind ?_;unfold Instr.entryStore;simp only;refine SWP.bind (SWP.getObj (o:=.map es c) Zs ?_);simp only;refine SWP.step (v:=(s:Int)) (fun F w _=>by simp[asInt,asIntOf]) ?_;rw[h1];refine(SWP.setObj rfl (SWP.pure ⟨undef,[.obj b (.map (es.modify i fun e=>{e with val:=.int .i64 v}) c)]::R,.inr ⟨rfl,rfl⟩,?_,h _ (hl.at_ h2 h3 hu)⟩));simp
theorem st_boxO {t:TypeId}{x:Operand}{u:Value}(hx:ev Γ x=some u)(h:∀b,VO P n rs (putE d (.pointer (some ⟨b,0,none⟩)) Γ) ((.own b u.cells.toList.length::kA b 0 u.cells.toList)::H) Z K):VO P n (⟨d,none,.box t x⟩::rs) Γ H Z K:=by
 refine VO.act rfl rfl (fun ρ hρ=>⟨_,rfl,?_⟩);rw[hρ _ _ hx];intro F w hs;refine⟨_,_,(.own w.heap.size u.cells.toList.length::kA w.heap.size 0 u.cells.toList)++H.flatten,rfl,⟨_,(.own w.heap.size u.cells.toList.length::kA w.heap.size 0 u.cells.toList)::H,.inl rfl,?_,h _⟩,?_⟩
 ·simp
 ·have hp:=Sat.push hs (.cells u.cells t (0,0)) (.own w.heap.size u.cells.toList.length::kA w.heap.size 0 u.cells.toList) (fun x hx=>?_) ?_
  ·rw[vZ];exact hp
  ·have hb:({w with heap:=w.heap.push (.cells u.cells t (0,0))}:World).heap[w.heap.size]? =some (.cells u.cells t (0,0)):=by simp
   exact zCG
  ·rw[Vy,QF];refine⟨fun hm=>?_,nodup_cellsAt _ _ _⟩;exact zC8
end
end Go.V
namespace Go.V
open Go
structure UC where
 q:Nat
 args:Nat
 locals:Nat
 vector:Nat
 outer:Option Nat
 num:Nat
 temps:List Nat
 tv:Value
 tsp:List Value
 nb:Nat
 es:Array MapEntry
 cl:Nat
 cop:List (Nat×Int)
 cv:Value
 csp:List Value
 body:Value
structure VCl where
 q:Nat
 unit:Nat
 arg:Int
 fixed:Bool
 remote:Bool
 slot:Nat
def kK:Option Nat->Value
 |some b=>.pointer (some ⟨b,0,none⟩)
 |none=>.pointer none
def jN(t:Nat×Int):List Value:=[.pointer (some ⟨t.1,0,none⟩),.int .i64 t.2]
def UC.row(u:UC):List Value:=[.int .i64 u.args,.int .i64 u.locals,.int .i64 u.vector,kK u.outer,.int .i64 u.num,u.tv,.map (some u.nb),u.cv,u.body]
def UC.atoms(u:UC):List kC:=.own u.q 9::(kA u.q 0 u.row++(slA u.tv (u.temps.map fun b=>kK (some b)) u.tsp++(slA u.cv (u.cop.flatMap jN) u.csp++[.obj u.nb (.map u.es u.cl)])))
def VCl.row(v:VCl):List Value:=[kK (some v.unit),.int .i64 v.arg,.bool v.fixed,.bool v.remote,.int .i64 v.slot]
def VCl.atoms(v:VCl):List kC:=kA v.q 0 v.row
def WK(U:List UC)(V:List VCl):List kC:=U.flatMap UC.atoms++V.flatMap VCl.atoms
theorem flat_focus {α β:Type}(f:α->List β){l:List α}{i:Nat}{x:α}(h:l[i]? =some x):∃R,∀y,((l.set i y).flatMap f).Perm (f y++R):=by
 induction l generalizing i with
 |nil=>simp at h
 |cons a l ih=>
  cases i with
  |zero=>
   exact⟨l.flatMap f,fun y=>by simp⟩
  |succ i=>
   obtain⟨R,hR⟩:=ih (i:=i) (by simpa using h);refine⟨f a++R,fun y=>?_⟩;simp only[List.set_cons_succ,List.flatMap_cons];refine(vU _ (hR y)).trans ?_;exact zAS
theorem wi {α:Type}{l:List α}{i:Nat}{x:α}(h:l[i]? =some x):l.set i x=l:=by
 apply vm;intro k;rw[Vh];by_cases e:i=k
 ·subst e;have:=(Vd.1 h).1;rw[if_pos rfl,if_pos this,h]
 ·rw[if_neg e]
theorem wk_unit {U:List UC}{V:List VCl}{i:Nat}{u:UC}(h:U[i]? =some u):∃R,(WK U V).Perm (u.atoms++R)/\∀u',(WK (U.set i u') V).Perm (u'.atoms++R):=by
 obtain⟨R,hR⟩:=flat_focus UC.atoms h;have hr:∀u',(WK (U.set i u') V).Perm (u'.atoms++(R++V.flatMap VCl.atoms)):=fun u'=>by
  unfold WK;rw[<- vZ];exact vV _ (hR u')
 refine⟨R++V.flatMap VCl.atoms,?_,hr⟩;have:=hr u
 rwa [wi h]at this
theorem wk_var {U:List UC}{V:List VCl}{i:Nat}{v:VCl}(h:V[i]? =some v):∃R,(WK U V).Perm (v.atoms++R)/\∀v',(WK U (V.set i v')).Perm (v'.atoms++R):=by
 obtain⟨R,hR⟩:=flat_focus VCl.atoms h;have hr:∀v',(WK U (V.set i v')).Perm (v'.atoms++(U.flatMap UC.atoms++R)):=fun v'=>by
  unfold WK;refine(vU _ (hR v')).trans ?_;exact zAS
 refine⟨U.flatMap UC.atoms++R,?_,hr⟩;have:=hr v
 rwa [wi h]at this
theorem zL {U:List UC}{V:List VCl}{i:Nat}{u:UC}(h:U[i]? =some u):∀x∈u.atoms,x∈WK U V:=fun _ hx=>Zw _ (Q8.2 ⟨u,Zv h,hx⟩)
theorem wk_memv {U:List UC}{V:List VCl}{i:Nat}{v:VCl}(h:V[i]? =some v):∀x∈v.atoms,x∈WK U V:=fun _ hx=>Q3 _ (Q8.2 ⟨v,Zv h,hx⟩)
theorem wk_lies {U:List UC}{V:List VCl}{i:Nat}{u:UC}(h:U[i]? =some u):wF (WK U V) u.q:=
 ⟨⟨9,zL h _ (Q6 ..)⟩,⟨_,zL h _ (Q5 _ (Zw _ (kI.2 ⟨0,_,rfl,rfl⟩)))⟩⟩
theorem wk_snocU(U:List UC)(V:List VCl)(u:UC):(WK (U++[u]) V).Perm (u.atoms++WK U V):=by
 unfold WK;rw[vw,vx,vZ,<- vZ];refine(vV _ QH).trans ?_;rw[vZ]
theorem wk_snocV(U:List UC)(V:List VCl)(v:VCl):(WK U (V++[v])).Perm (v.atoms++WK U V):=by
 unfold WK;rw[vw,vx,<- vZ];exact QH
def vcl0:VCl:=⟨0,0,0,false,false,0⟩
def SSt.temps(st:SSt)(i:Nat):List Nat:=(List.range st.vars.length).filter fun v=>decide (st.unitOf v=i)&&decide (st.ownOf v < 0)
structure RepG (st:SSt)(nf:Nat->Nat×Int->Bool)(rf:Nat->Bool)(N:Nat->Nat)(U:List UC)(V:List VCl):Prop where
 wf:Wf st
 ul:U.length=st.outer.length
 vl:V.length=st.vars.length
 inj:(U.map UC.q).Nodup
 un:∀(i:Nat) u,U[i]? =some u->u.args=st.args.getD i 0/\u.locals=0/\u.vector=0/\u.num=i/\u.cop=[]/\u.cv=.slice none 0 0/\u.csp=[]
 ou:∀(i:Nat) u,U[i]? =some u->u.outer=(if st.outer.getD i (-1) < 0 then none else(U[(st.outer.getD i (-1)).toNat]?).map UC.q)
 tm:∀(i:Nat) u,U[i]? =some u->u.temps=(st.temps i).map (fun v=>(V.getD v vcl0).q)/\jC 1 u.tv u.temps.length (u.temps.map fun b=>kK (some b)) u.tsp
 nd:∀(i:Nat) u,U[i]? =some u->∃m:List ((Nat×Int)×Int),ThIs u.es u.cl m/\(m.map (·.1)).Nodup/\(∀p∈m,(∃(j:Nat) (w:UC),U[j]? =some w/\p.1.1=w.q)/\0 < p.2/\p.2<=N i)/\
  ∀(j:Nat) (w:UC) (a:Int),U[j]? =some w->((kq (w.q,a) m).isSome=true↔nf i (j,a)=true)
 vn:∀(v:Nat) x y,st.vars[v]? =some x->V[v]? =some y->(∃w,U[x.unit]? =some w/\y.unit=w.q)/\y.arg=x.own/\y.fixed=x.arg/\y.remote=rf v/\y.slot=0
def RepS(st:SSt)(U:List UC)(V:List VCl):Prop:=RepG st st.need st.rem (fun _=>st.uses.length) U V
theorem wk_part {U:List UC}{V:List VCl}{i:Nat}{u:UC}(h:U[i]? =some u){X Y:List kC}(hx:u.atoms.Perm (X++Y)):∃R,(WK U V).Perm (X++R)/\∀u' X',u'.atoms.Perm (X'++Y)->(WK (U.set i u') V).Perm (X'++R):=by
 obtain⟨R,h1,h2⟩:=wk_unit (V:=V) h;exact zCD
theorem wk_partV {U:List UC}{V:List VCl}{i:Nat}{v:VCl}(h:V[i]? =some v){X Y:List kC}(hx:v.atoms.Perm (X++Y)):∃R,(WK U V).Perm (X++R)/\∀v' X',v'.atoms.Perm (X'++Y)->(WK U (V.set i v')).Perm (X'++R):=by
 obtain⟨R,h1,h2⟩:=wk_var (U:=U) h;exact zCD
theorem wk_needs {U:List UC}{V:List VCl}{i:Nat}{u:UC}(h:U[i]? =some u):∃R,(WK U V).Perm ([.obj u.nb (.map u.es u.cl)]++R)/\∀es' cl',(WK (U.set i {u with es:=es',cl:=cl'}) V).Perm ([.obj u.nb (.map es' cl')]++R):=by
 have hx:∀es' cl',({u with es:=es',cl:=cl'}:UC).atoms.Perm ([.obj u.nb (.map es' cl')]++(.own u.q 9::(kA u.q 0 u.row++(slA u.tv (u.temps.map fun b=>kK (some b)) u.tsp++slA u.cv (u.cop.flatMap jN) u.csp)))):=fun es' cl'=>by
  unfold UC.atoms;show(kC.own u.q 9::(kA u.q 0 u.row++(slA u.tv (u.temps.map fun b=>kK (some b)) u.tsp++(slA u.cv (u.cop.flatMap jN) u.csp++[.obj u.nb (.map es' cl')])))).Perm _;rw[<- vZ,<- vZ,<- vZ,<- vf];refine QH.trans ?_;simp only[vZ];exact vW _
 obtain⟨R,h1,h2⟩:=wk_part (V:=V) h (hx u.es u.cl);exact⟨R,h1,fun es' cl'=>h2 _ _ (hx es' cl')⟩
theorem wk_remote {U:List UC}{V:List VCl}{i:Nat}{v:VCl}(h:V[i]? =some v):∃R,(WK U V).Perm (kA v.q 3 [.bool v.remote]++R)/\∀b,(WK U (V.set i {v with remote:=b})).Perm (kA v.q 3 [.bool b]++R):=by
 have hx:∀b,({v with remote:=b}:VCl).atoms.Perm (kA v.q 3 [.bool b]++(kA v.q 0 [kK (some v.unit),.int .i64 v.arg,.bool v.fixed]++kA v.q 4 [.int .i64 v.slot])):=fun b=>by
  unfold VCl.atoms VCl.row;simp only[kA,vf,QD];exact(List.Perm.swap _ _ _).trans (vW _)|>.trans (by
   refine List.Perm.trans (List.Perm.swap _ _ _) ?_;exact QK (l₁:=[_,_,_])|>.trans (vW _))
 obtain⟨R,h1,h2⟩:=wk_partV (U:=U) h (hx v.remote);exact⟨R,h1,fun b=>h2 _ _ (hx b)⟩
theorem wk_pick {A R X:List kC}(hp:A.Perm (X++R)){x:kC}(hx:x∈A)(hn:x∉X):x∈R:=by
 rcases Q1.1 (hp.mem_iff.1 hx)with h|h
 ·exact absurd h hn
 ·exact h
theorem RepG.congr {st:SSt}{nf nf':Nat->Nat×Int->Bool}{rf rf':Nat->Bool}{N N':Nat->Nat}{U:List UC}{V:List VCl}(h:RepG st nf rf N U V)(hn:∀i t,nf' i t=nf i t)(hr:∀v,rf' v=rf v)(hN:∀i,N i<=N' i):RepG st nf' rf' N' U V:=by
 refine⟨h.wf,h.ul,h.vl,h.inj,h.un,h.ou,h.tm,fun i u hu=>?_,fun v x y hx hy=>?_⟩
 ·obtain⟨m,h1,h2,h3,h4⟩:=h.nd i u hu;exact⟨m,h1,h2,fun p hp=>⟨(h3 p hp).1,(h3 p hp).2.1,by have:=(h3 p hp).2.2;have:=hN i;omega⟩,fun j w a hw=>by rw[hn];exact h4 j w a hw⟩
 ·rw[hr];exact h.vn v x y hx hy
end Go.V
namespace Go.V
open Go
theorem set_get {α:Type}{l:List α}{c:Nat}{x y:α}(hc:l[c]? =some x){i:Nat}{z:α}(h:(l.set c y)[i]? =some z):(i=c/\z=y)∨(i≠c/\l[i]? =some z):=by
 rw[Vh]at h;by_cases e:c=i
 ·subst e;rw[if_pos rfl,if_pos (Vd.1 hc).1]at h;exact .inl ⟨rfl,(Qn h).symm⟩
 ·rw[if_neg e]at h;exact .inr ⟨fun e'=>e e'.symm,h⟩
theorem z5 {U:List UC}{c:Nat}{w w':UC}(hc:U[c]? =some w)(hq:w'.q=w.q):(U.set c w').map UC.q=U.map UC.q:=by
 rw[List.map_set,hq];exact wi (by rw[Ve,hc];rfl)
theorem map_b_set {U:List UC}{c:Nat}{w w':UC}(hc:U[c]? =some w)(hq:w'.body=w.body):(U.set c w').map UC.body=U.map UC.body:=by
 rw[List.map_set,hq];exact wi (by rw[Ve,hc];rfl)
theorem getq {U U':List UC}(h:U'.map UC.q=U.map UC.q)(i:Nat):(U'[i]?).map UC.q=(U[i]?).map UC.q:=by
 have:=congrArg (fun l=>l[i]?) h;simpa using this
theorem RepG.q_inj {st:SSt}{nf:Nat->Nat×Int->Bool}{rf:Nat->Bool}{N:Nat->Nat}{U:List UC}{V:List VCl}(h:RepG st nf rf N U V){i j:Nat}{u w:UC}(hi:U[i]? =some u)(hj:U[j]? =some w)(e:u.q=w.q):i=j:=by
 have h1:(U.map UC.q)[i]? =some u.q:=by rw[Ve,hi];rfl
 have h2:(U.map UC.q)[j]? =some u.q:=by rw[Ve,hj,e];rfl
 have hl:=(Vd.1 h1).1;have hl2:=(Vd.1 h2).1;have e1:(U.map UC.q)[i]=(U.map UC.q)[j]:=by
  rw[Zg hl]at h1;rw[Zg hl2]at h2;rw[Qn h1,Qn h2]
 have hp:=List.pairwise_iff_getElem.1 h.inj;rcases Nat.lt_trichotomy i j with c|c|c
 ·exact absurd e1 (hp i j hl hl2 c)
 ·exact c
 ·exact absurd e1.symm (hp j i hl2 hl c)
theorem RepG.put {st:SSt}{nf:Nat->Nat×Int->Bool}{rf:Nat->Bool}{N:Nat->Nat}{U:List UC}{V:List VCl}(h:RepG st nf rf N U V){c j0:Nat}{w x0:UC}{a:Int}(hc:U[c]? =some w)(hx:U[j0]? =some x0){m:List ((Nat×Int)×Int)}
 (hu:(m.map (·.1)).Nodup) (hm:∀p∈m,(∃(j:Nat) (w:UC),U[j]? =some w/\p.1.1=w.q)/\0 < p.2/\p.2<=N c) (hn:∀(j:Nat) (w:UC) (a:Int),U[j]? =some w->((kq (w.q,a) m).isSome=true↔nf c (j,a)=true))
 {n:Int} {es':Array MapEntry} {cl':Nat} (hes:ThIs es' cl' (jZ (x0.q,a) n m)) (hn0:0 < n) (hn1:n<=N c+1):
 RepG st (fun i t=>nf i t||(decide ((j0,a)=t)&&decide (i=c))) rf (fun i=>N i+(if i=c then 1 else 0)) (U.set c {w with es:=es',cl:=cl'}) V:=by
 have hq:=z5 (w':={w with es:=es',cl:=cl'}) hc rfl;have hgq:=getq hq;have hget:∀{i:Nat} {u:UC},(U.set c {w with es:=es',cl:=cl'})[i]? =some u->∃u0,U[i]? =some u0/\(u=u0∨(i=c/\u={u0 with es:=es',cl:=cl'})):=fun {i u} hi=>by
  rcases set_get hc hi with⟨rfl,rfl⟩|⟨_,h'⟩
  ·exact⟨w,hc,.inr ⟨rfl,rfl⟩⟩
  ·exact⟨u,h',.inl rfl⟩
 refine⟨h.wf,by rw[Vt];exact h.ul,h.vl,by rw[hq];exact h.inj,fun i u hi=>?_,fun i u hi=>?_,fun i u hi=>?_,fun i u hi=>?_,fun v x y hvx hvy=>?_⟩
 ·obtain⟨u0,h0,e|⟨_,e⟩⟩:=hget hi
  ·rw[e];exact h.un i u0 h0
  ·rw[e];exact h.un i u0 h0
 ·rw[hgq];obtain⟨u0,h0,e|⟨_,e⟩⟩:=hget hi
  ·rw[e];exact h.ou i u0 h0
  ·rw[e];exact h.ou i u0 h0
 ·obtain⟨u0,h0,e|⟨_,e⟩⟩:=hget hi
  ·rw[e];exact h.tm i u0 h0
  ·rw[e];exact h.tm i u0 h0
 ·have hback:∀{j:Nat} {u:UC},U[j]? =some u->∃u',(U.set c {w with es:=es',cl:=cl'})[j]? =some u'/\u'.q=u.q:=fun {j u} hj=>by
   have:=hgq j;rw[hj]at this;cases e:(U.set c {w with es:=es',cl:=cl'})[j]? with
   |none=>rw[e]at this;cases this
   |some u'=>rw[e]at this;exact⟨u',rfl,Qn this⟩
  have hfwd:∀{j:Nat} {u:UC},(U.set c {w with es:=es',cl:=cl'})[j]? =some u->∃u',U[j]? =some u'/\u.q=u'.q:=fun {j u} hj=>by
   obtain⟨u0,h0,e|⟨_,e⟩⟩:=hget hj
   ·exact⟨u0,h0,by rw[e]⟩
   ·exact⟨u0,h0,by rw[e]⟩
  rcases set_get hc hi with⟨rfl,rfl⟩|⟨hne,h'⟩
  ·refine⟨_,hes,mset_nodup hu,fun p hp=>?_,fun j w1 a1 hj=>?_⟩
   ·rcases mset_mem hp with rfl|hp
    ·obtain⟨u',h1,h2⟩:=hback hx;exact⟨⟨j0,u',h1,h2.symm⟩,hn0,by rw[if_pos rfl];omega⟩
    ·obtain⟨⟨j,w1,h1,h2⟩,h3,h4⟩:=hm p hp;obtain⟨u',h5,h6⟩:=hback h1;exact⟨⟨j,u',h5,h2.trans h6.symm⟩,h3,by rw[if_pos rfl];omega⟩
   ·obtain⟨u',h5,h6⟩:=hfwd hj;rw[jo,h6];have hk:((x0.q,a)=(u'.q,a1))↔((j0,a)=(j,a1)):=by
     simp only[Qp];constructor
     ·rintro⟨e1,e2⟩;exact⟨h.q_inj hx h5 e1,e2⟩
     ·rintro⟨e1,e2⟩
      subst e1;rw[hx]at h5;exact⟨by rw[Qn h5],e2⟩
    by_cases e:(j0,a)=(j,a1)
    ·rw[if_pos (hk.2 e)];simp[e]
    ·rw[if_neg (fun e'=>e (hk.1 e'))];simp only[e,decide_false,vH,vQ];exact hn j u' a1 h5
  ·obtain⟨m',h1,h2,h3,h4⟩:=h.nd i u h';refine⟨m',h1,h2,fun p hp=>?_,fun j w1 a1 hj=>?_⟩
   ·obtain⟨⟨j,w1,h5,h6⟩,h7,h8⟩:=h3 p hp;obtain⟨u',h9,h10⟩:=hback h5;exact⟨⟨j,u',h9,h6.trans h10.symm⟩,h7,by simp only[if_neg hne];omega⟩
   ·obtain⟨u',h5,h6⟩:=hfwd hj;rw[h6,h4 j u' a1 h5];simp[hne]
 ·obtain⟨⟨u,h1,h2⟩,h3⟩:=h.vn v x y hvx hvy;refine⟨?_,h3⟩;have:=hgq x.unit;rw[h1]at this;cases e:(U.set c {w with es:=es',cl:=cl'})[x.unit]? with
  |none=>rw[e]at this;cases this
  |some u'=>rw[e]at this;exact⟨u',rfl,h2.trans (Qn this).symm⟩
theorem RepG.far {st:SSt}{nf:Nat->Nat×Int->Bool}{rf:Nat->Bool}{N:Nat->Nat}{U:List UC}{V:List VCl}(h:RepG st nf rf N U V){v:Nat}{y:VCl}(hv:V[v]? =some y):
 RepG st nf (fun w=>rf w||decide (v=w)) N U (V.set v {y with remote:=true}):=by
 have hq:∀w,((V.set v {y with remote:=true}).getD w vcl0).q=(V.getD w vcl0).q:=fun w=>by
  rw[V5,V5,Vh];by_cases e:v=w
  ·subst e;rw[if_pos rfl,if_pos (Vd.1 hv).1,hv];rfl
  ·rw[if_neg e]
 refine⟨h.wf,h.ul,by rw[Vt];exact h.vl,h.inj,h.un,h.ou,fun i u hi=>?_,h.nd,fun w x z hx hz=>?_⟩
 ·obtain⟨h1,h2⟩:=h.tm i u hi;refine⟨?_,h2⟩;rw[h1];exact Vx fun w _=>(hq w).symm
 ·rcases set_get hv hz with⟨rfl,rfl⟩|⟨hne,h'⟩
  ·obtain⟨h1,h2,h3,h4,h5⟩:=h.vn w x y hx hv;exact⟨h1,h2,h3,Zs,h5⟩
  ·obtain⟨h1,h2,h3,h4,h5⟩:=h.vn w x z hx h';refine⟨h1,h2,h3,?_,h5⟩;rw[h4];have:decide (v=w)=false:=Zf (fun e=>hne e.symm);rw[this,vQ]
theorem RepG.useS {st:SSt}{nf:Nat->Nat×Int->Bool}{rf:Nat->Bool}{N:Nat->Nat}{U:List UC}{V:List VCl}(h:RepG st nf rf N U V){u v:Nat}(hu:u < st.outer.length)(hv:v < st.vars.length):RepG (st.use u v) nf rf N U V:=
 ⟨h.wf.use hu hv,h.ul,h.vl,h.inj,h.un,h.ou,h.tm,h.nd,h.vn⟩
def doneF(st:SSt)(v:Nat)(l:List Nat)(i:Nat)(t:Nat×Int):Bool:=st.need i t||(decide ((st.unitOf v,st.ownOf v)=t)&&decide (i∈l))
theorem doneF_nil(st:SSt)(v i:Nat)(t:Nat×Int):doneF st v [] i t=st.need i t:=by simp[doneF]
theorem doneF_snoc(st:SSt)(v:Nat)(l:List Nat)(c i:Nat)(t:Nat×Int):doneF st v (l++[c]) i t=(doneF st v l i t||(decide ((st.unitOf v,st.ownOf v)=t)&&decide (i=c))):=by
 unfold doneF;rw[vM,<- Bool.and_or_distrib_left]
 congr 2
 rw[<- Bool.decide_or];simp
theorem doneF_all(st:SSt)(v u i:Nat)(t:Nat×Int):(st.use u v).need i t=doneF st v (st.way u v) i t:=need_use st u v i t
end Go.V

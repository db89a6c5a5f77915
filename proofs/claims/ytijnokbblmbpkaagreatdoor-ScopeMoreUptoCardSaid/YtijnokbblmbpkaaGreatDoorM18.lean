/-
  Frames: what is copied into a unit, and where a variable is.
-/
import Derived.Test.YtijnokbblmbpkaaGreatDoorM17
set_option linter.all false
namespace Go.V
open Go
theorem lq {st:ah}{o:Nat}{t:Nat×Int}:t∈st.things o↔t.1=o/\-1<=t.2/\t.2 < st.args.getD o 0:=by
 unfold ah.things;rw[QM];constructor
 ·rintro⟨i,hi,rfl⟩
  have:=QO.1 hi;exact⟨rfl,by simp only;omega,by simp only;omega⟩
 ·rintro⟨h1,h2,h3⟩
  obtain⟨a,b⟩:=t;simp only at h1 h2 h3;subst h1;exact⟨(b+1).toNat,QO.2 Zo,by rw[X5];exact⟨rfl,Zo⟩⟩
theorem lj {st:ah}{u:Nat}{t:Nat×Int}:t∈st.copied u↔t.1∈(st.line u).drop 1/\t∈st.things t.1/\st.bg u t=true:=by
 unfold ah.copied;rw[QL];constructor
 ·rintro⟨o,h1,h2⟩
  obtain⟨h3,h4⟩:=QK.1 h2;obtain rfl:=(lq.1 h3).1;exact⟨by simpa using h1,h3,h4⟩
 ·rintro⟨h1,h2,h3⟩
  exact⟨t.1,by simpa using h1,QK.2 ⟨h2,h3⟩⟩
theorem n9 {st:ah}{v:Nat}{x:fS}(h:st.vars[v]? =some x):st.af v=x.unit:=by unfold ah.af;rw[h];rfl
theorem yz {st:ah}{v:Nat}{x:fS}(h:st.vars[v]? =some x):st.bt v=x.own:=by unfold ah.bt;rw[h];rfl
theorem Wf.var {st:ah}(h:Wf st){v:Nat}(hv:v < st.vars.length):st.af v < st.outer.length/\-1<=st.bt v/\st.bt v < st.args.getD (st.af v) 0:=by
 have e:st.vars[v]? =some st.vars[v]:=Zg hv;rw[n9 e,yz e];exact h.vu v _ e
theorem Wf.Ym {st:ah}(h:Wf st){u v:Nat}(ho:0<=st.outer.getD u (-1))(hn:(st.outer.getD u (-1)).toNat≠st.af v):∀(w:Nat),w < st.outer.length->u∈st.way w v->(st.outer.getD u (-1)).toNat∈st.way w v:=by
 intro w
 induction w using Nat.strongRecOn with
 |_ w ih=>
  intro hw hm;by_cases e:w=st.af v
  ·rw[h.rE Zo e]at hm;cases hm
  ·have hl:=h.ef w;rw[h.rF Zo e]at hm|-;rcases QH.1 hm with rfl|hm
   ·rw[if_neg Zo,h.rF Zo hn];exact QI _ (QJ ..)
   ·by_cases c:st.outer.getD w (-1) < 0
    ·rw[if_pos c]at hm;cases hm
    ·rw[if_neg c]at hm|-;exact QI _ (ih _ Zo Zo hm)
section
variable {st:ah} (h:Ph st)
include h
theorem Ph.Ck {u o:Nat}(hu:u < st.outer.length)(ho:o∈st.line u)(hn:o≠u):o∈(st.line u).drop 1:=by
 rw[h.wf.line Zo]at ho|-;rcases QH.1 ho with k|k
 ·exact absurd k hn
 ·simpa using k
theorem Ph.J1 {u v:Nat}(hq:(u,v)∈st.uses)(hn:st.af v≠u):(st.af v,st.bt v)∈st.copied u/\(st.bt v < 0->st.rem v=true):=by
 obtain⟨h1,h2⟩:=h.wf.uu _ hq;obtain⟨k1,k2,k3⟩:=h.wf.var h2;have hl:=h.us _ hq;refine⟨lj.2 ⟨h.Ck h1 hl hn,lq.2 ⟨rfl,k2,k3⟩,?_⟩,fun hneg=>?_⟩
 ·unfold ah.bg;rw[vh];refine⟨_,hq,?_⟩;simp only[vF,decide_eq_true_eq,true_and];rw[h.wf.rF (by have:=h1;simp only at this;omega) (fun e=>hn e.symm)];exact QJ ..
 ·unfold ah.rem;rw[vh];refine⟨_,hq,?_⟩;simp only[vF,decide_eq_true_eq,true_and];exact⟨hneg,hn⟩
theorem Ph.nH {u:Nat}(hu:u < st.outer.length){t:Nat×Int}(ht:t∈st.copied u):0<=st.outer.getD u (-1)/\(t.1=(st.outer.getD u (-1)).toNat∨t∈st.copied (st.outer.getD u (-1)).toNat)/\t.1 < st.outer.length/\t.1≠u/\-1<=t.2/\t.2 < st.args.getD t.1 0:=by
 obtain⟨h1,h2,h3⟩:=lj.1 ht;obtain⟨_,h4,h5⟩:=lq.1 h2;have mP:=h.wf.ef u;rw[h.wf.line Zo]at h1;simp only[List.drop_succ_cons,vy]at h1;by_cases c:st.outer.getD u (-1) < 0
 ·rw[if_pos c]at h1;cases h1
 rw[if_neg c]at h1;have hle:=h.wf.uH _ Zo _ h1;refine⟨Zo,?_,Zo,Zo,h4,h5⟩;by_cases e:t.1=(st.outer.getD u (-1)).toNat
 ·exact .inl e
 refine .inr (lj.2 ⟨h.Ck Zo h1 e,h2,?_⟩);unfold ah.bg at h3|-;rw[vh]at h3|-;obtain⟨q,hq,k⟩:=h3;refine⟨q,hq,?_⟩;simp only[vF,decide_eq_true_eq]at k|-;refine⟨k.1,h.wf.Ym Zo ?_ q.1 (h.wf.uu q hq).1 k.2⟩;have:=congrArg Prod.fst k.1;simp only at this;rw[this];exact fun e2=>e e2.symm
theorem Ph.HP {u:Nat}{t:Nat×Int}(ht:t∈st.copied u)(hn:t.2 < 0):0 < (st.locals t.1 true).length:=by
 obtain⟨h1,h2,h3⟩:=lj.1 ht;unfold ah.bg at h3;rw[vh]at h3;obtain⟨q,hq,k⟩:=h3;simp only[vF,decide_eq_true_eq]at k;obtain⟨h5,h6⟩:=h.wf.uu q hq;have e1:st.af q.2=t.1:=congrArg Prod.fst k.1;have e2:st.bt q.2=t.2:=congrArg Prod.snd k.1;have bZ:st.af q.2≠q.1:=fun e=>by
  have k2:=k.2;rw[h.wf.rE Zo e.symm]at k2;cases k2
 have hr:st.rem q.2=true:=by
  unfold ah.rem;rw[vh];refine⟨q,hq,?_⟩;simp only[vF,decide_eq_true_eq,true_and];exact⟨Zo,bZ⟩
 apply List.length_pos_of_mem (a:=q.2);unfold ah.locals;rw[QK];refine⟨QO.2 h6,?_⟩;simp only[vF,decide_eq_true_eq];exact⟨⟨e1,Zo⟩,hr⟩
theorem Ph.me {i v:Nat}(hv:me st i v=true):v < st.vars.length/\(st.af v=i∨((st.af v,st.bt v)∈st.copied i/\(st.bt v < 0->st.rem v=true))):=by
 unfold V.me at hv;simp only[vF,vR,decide_eq_true_eq]at hv;obtain⟨h1,h2⟩:=hv;refine⟨h1,?_⟩;by_cases e:st.af v=i
 ·exact .inl e
 ·rcases h2 with h2|h2
  ·exact .inl h2
  ·exact .inr (h.J1 h2 e)
end
theorem qF(st:ah)(i:Nat)(r:Bool):st.locals i r=(st.ab i).filter fun v=>decide (st.rem v=r):=by
 unfold ah.locals ah.ab;rw[List.filter_filter];refine List.filter_congr fun v _=>?_
 rw[Bool.and_comm]
theorem HH(st:ah)(i:Nat):(st.ab i).Nodup:=List.Pairwise.filter _ QV
theorem F6 {α:Type}[DecidableEq α]{a b:List α}{x:α}(h:x∉a):(a++x::b).findIdx? (fun y=>decide (y=x))=some a.length:=by
 induction a with
 |nil=>simp[V9]
 |cons y a ih=>
  have h1:y≠x:=fun e=>h (by simp[e])
  rw[vr,V9,Zf h1];simp only[vL,if_false];rw[ih (fun e=>h (by simp[e]))];rfl
theorem PX {α:Type}[DecidableEq α]{a b:List α}{x:α}(h:x∉a):mW (a++x::b) x=a.length:=by
 unfold mW;rw[F6 h]
def ah.bP(st:ah)(v:Nat):Int:=mW (st.locals (st.af v) (st.rem v)) v
theorem K0 {st:ah}{i j v:Nat}(hj:(st.ab i)[j]? =some v):st.bP v=(((st.ab i).take j).filter fun w=>decide (st.rem w=st.rem v)).length:=by
 have hm:v∈st.ab i:=Zv hj;have hu:st.af v=i:=by
  unfold ah.ab at hm;have:=(QK.1 hm).2;simp only[vF,decide_eq_true_eq]at this;exact this.1
 have hl:=(Vt.1 hj).1;have hs:st.ab i=(st.ab i).take j++v::(st.ab i).drop (j+1):=by
  have e:=(Vt.1 hj).2;rw[<- e,<- vw hl,Qf]
 have hn:=HH st i;rw[hs,QT]at hn;unfold ah.bP;rw[hu,qF]
 conv=>lhs;rw[hs]
 rw[V5,V6,if_pos Zs];exact PX fun hv=>hn.2.2 v (QK.1 hv).1 v Zs rfl
def qU(U:List UC)(j:Nat):Nat:=((U[j]?).map UC.q).getD 0
def zW(U:List UC)(l:List (Nat×Int)):List (Nat×Int):=l.map fun t=>(qU U t.1,t.2)
structure fg (st:ah)(L:Nat)(U:List UC)(V:List az):Prop where
 wf:Wf st
 ul:U.length=st.outer.length
 vl:V.length=st.vars.length
 inj:(U.map UC.q).Nodup
 ar:∀(i:Nat) u,U[i]? =some u->u.args=st.args.getD i 0/\u.num=i
 ou:∀(i:Nat) u,U[i]? =some u->u.outer=(if st.outer.getD i (-1) < 0 then none else(U[(st.outer.getD i (-1)).toNat]?).map UC.q)
 tm:∀(i:Nat) u,U[i]? =some u->u.ab=(st.ab i).map (fun v=>(V.getD v AA).q)/\jA 1 u.tv u.ab.length (u.ab.map fun b=>kM (some b)) u.iJ
 nd:∀(i:Nat) u,U[i]? =some u->∃m:List ((Nat×Int)×Int),gJ u.es u.cl m/\(m.map (·.1)).Nodup/\(∀p∈m,(∃(j:Nat) (w:UC),U[j]? =some w/\p.1.1=w.q)/\0 < p.2/\p.2<=st.uses.length)/\
  ∀(j:Nat) (w:UC) (a:Int),U[j]? =some w->((kz (w.q,a) m).isSome=true↔st.bg i (j,a)=true)
 vn:∀(v:Nat) x y,st.vars[v]? =some x->V[v]? =some y->(∃w,U[x.unit]? =some w/\y.unit=w.q)/\y.arg=x.own/\y.remote=st.rem v/\(x.own < 0->x.unit < L->(y.slot:Int)=st.bP v)
 nl:∀(i:Nat) u,U[i]? =some u->L<=i->u.locals=0/\u.aA=0/\u.dk=[]/\u.cv=Nz/\u.cm=[]
 la:∀(i:Nat) u,U[i]? =some u->i < L->u.locals=(st.locals i false).length/\u.aA=(st.locals i true).length/\u.dk=zW U (st.copied i)/\jA 2 u.cv u.dk.length (u.dk.flatMap jV) u.cm
theorem cK.laid {st:ah}{U:List UC}{V:List az}(h:cK st U V):fg st 0 U V:=
 ⟨h.wf,h.ul,h.vl,h.inj,fun i u hu=>⟨(h.un i u hu).1,(h.un i u hu).2.2.2.1⟩,h.ou,h.tm,h.nd,fun v x y hx hy=>by
   obtain⟨h1,h2,h3,h4,h5⟩:=h.vn v x y hx hy;exact⟨h1,h2,h4,fun _ hl=>by omega⟩,fun i u hu _=>by
   obtain⟨_,h1,h2,_,h3,h4,h5⟩:=h.un i u hu;exact⟨h1,h2,h3,h4,h5⟩,fun i u hu hl=>by omega⟩
def JQ(st:ah)(V:List az)(l:List Nat):List az:=V.mapIdx fun v y=>{y with slot:=if v∈l then(st.bP v).toNat else y.slot}
theorem gB {st:ah}{V:List az}{l:List Nat}{v:Nat}{y:az}(h:V[v]? =some y):(JQ st V l)[v]? =some {y with slot:=if v∈l then(st.bP v).toNat else y.slot}:=by
 unfold JQ;rw[List.getElem?_mapIdx,h];rfl
theorem ri(st:ah)(V:List az)(l:List Nat):(JQ st V l).length=V.length:=by unfold JQ;simp
theorem XZ(st:ah)(V:List az):JQ st V []=V:=by
 apply V0;intro v;cases h:V[v]? with
 |none=>
  rw[Vr]at h|-;rw[ri];exact h
 |some y=>rw[gB h];simp
theorem Hv {st:ah}{V:List az}{l:List Nat}{v:Nat}{y:az}(h:(JQ st V l)[v]? =some y):∃y0,V[v]? =some y0/\y={y0 with slot:=if v∈l then(st.bP v).toNat else y0.slot}:=by
 cases h0:V[v]? with
 |none=>
  rw[Vr]at h0;have:=(Vt.1 h).1;rw[ri]at this;omega
 |some y0=>
  rw[gB h0]at h;exact⟨y0,rfl,(X3 h).symm⟩
theorem ZF(st:ah)(V:List az)(l:List Nat):(JQ st V l).map az.q=V.map az.q:=by
 apply V0;intro v;rw[Vu,Vu];cases h:V[v]? with
 |none=>
  have:(JQ st V l)[v]? =none:=by
   rw[Vr]at h|-;rw[ri];exact h
  rw[this]
 |some y=>rw[gB h];rfl
theorem X6 {st:ah}{V:List az}{l:List Nat}{v:Nat}{y:az}(h:V[v]? =some y){y':az}(hy':(JQ st V l)[v]? =some y'):(JQ st V l).set v {y' with slot:=(st.bP v).toNat}=JQ st V (l++[v]):=by
 have hb:=Hv hy';obtain⟨y0,h0,h1⟩:=hb;rw[h]at h0;obtain rfl:=X3 h0;apply V0;intro w;rw[Vw];by_cases e:v=w
 ·subst e;rw[if_pos rfl,if_pos (Vt.1 hy').1,gB h,h1];have hm:v∈l++[v]:=by simp
  rw[if_pos hm]
 ·rw[if_neg e];cases hw:V[w]? with
  |none=>
   have h2:∀m:List Nat,(JQ st V m)[w]? =none:=fun m=>by
    rw[Vr]at hw|-;rw[ri];exact hw
   rw[h2,h2]
  |some z=>
   rw[gB hw,gB hw];have:(w∈l++[v])↔w∈l:=by
    rw[QF,QR];exact⟨fun k=>k.elim id fun k=>absurd k.symm e,.inl⟩
   by_cases c:w∈l
   ·rw[if_pos c,if_pos (this.2 c)]
   ·rw[if_neg c,if_neg fun k=>c (this.1 k)]
def yQ(st:ah)(l:List Nat)(r:Bool):Nat:=(l.filter fun w=>decide (st.rem w=r)).length
theorem wk_lay {U:List UC}{V:List az}{i v:Nat}{u:UC}{y:az}(hu:U[i]? =some u)(hv:V[v]? =some y):∃R,(WK U V).Perm (kA y.q 4 [.int .i64 y.slot]++(kA u.q 1 [.int .i64 u.locals,.int .i64 u.aA]++R))/\
 ∀(l' n' s':Nat),(WK (U.set i {u with locals:=l',aA:=n'}) (V.set v {y with slot:=s'})).Perm (kA y.q 4 [.int .i64 s']++(kA u.q 1 [.int .i64 l',.int .i64 n']++R)):=by
 obtain⟨RU,h1⟩:=iW UC.atoms hu;obtain⟨RV,h2⟩:=iW az.atoms hv;have hA:∀(l' n':Nat),({u with locals:=l',aA:=n'}:UC).atoms.Perm (kA u.q 1 [.int .i64 l',.int .i64 n']++(.own u.q 9::(kA u.q 0 [.int .i64 u.args]++(kA u.q 3 [kM u.outer,.int .i64 u.num,u.tv,.map (some u.nb),u.cv,u.body]++(aj u.tv (u.ab.map fun b=>kM (some b)) u.iJ++(aj u.cv (u.dk.flatMap jV) u.cm++[.obj u.nb (.map u.es u.cl)])))))):=fun l' n'=>by
  unfold UC.atoms UC.row;have e:kA u.q 0 [.int .i64 u.args,.int .i64 l',.int .i64 n',kM u.outer,.int .i64 u.num,u.tv,.map (some u.nb),u.cv,u.body]=kA u.q 0 [.int .i64 u.args]++(kA u.q 1 [.int .i64 l',.int .i64 n']++kA u.q 3 [kM u.outer,.int .i64 u.num,u.tv,.map (some u.nb),u.cv,u.body]):=rfl;simp only;rw[e,vj,vj];exact QX (kC.own u.q 9::kA u.q 0 [.int .i64 u.args]) _ _
 have hB:∀s':Nat,({y with slot:=s'}:az).atoms.Perm (kA y.q 4 [.int .i64 s']++kA y.q 0 [kM (some y.unit),.int .i64 y.arg,.bool y.fixed,.bool y.remote]):=fun s'=>by
  unfold az.atoms az.row;have e:kA y.q 0 [kM (some y.unit),.int .i64 y.arg,.bool y.fixed,.bool y.remote,.int .i64 s']=kA y.q 0 [kM (some y.unit),.int .i64 y.arg,.bool y.fixed,.bool y.remote]++kA y.q 4 [.int .i64 s']:=rfl;simp only;rw[e];exact QW
 obtain⟨XU,hXU⟩:∃X,X=(kC.own u.q 9::(kA u.q 0 [.int .i64 u.args]++(kA u.q 3 [kM u.outer,.int .i64 u.num,u.tv,.map (some u.nb),u.cv,u.body]++(aj u.tv (u.ab.map fun b=>kM (some b)) u.iJ++(aj u.cv (u.dk.flatMap jV) u.cm++[.obj u.nb (.map u.es u.cl)]))))):=⟨_,rfl⟩;obtain⟨XV,hXV⟩:∃X,X=kA y.q 0 [kM (some y.unit),.int .i64 y.arg,.bool y.fixed,.bool y.remote]:=⟨_,rfl⟩;rw[<- hXU]at hA;rw[<- hXV]at hB;have key:∀(l' n' s':Nat),(WK (U.set i {u with locals:=l',aA:=n'}) (V.set v {y with slot:=s'})).Perm (kA y.q 4 [.int .i64 s']++(kA u.q 1 [.int .i64 l',.int .i64 n']++(XU++(RU++(XV++RV))))):=fun l' n' s'=>by
  unfold WK;refine List.Perm.trans (List.Perm.append ((h1 _).trans (vY _ (hA l' n'))) ((h2 _).trans (vY _ (hB s')))) ?_;generalize kA y.q 4 [.int .i64 s']=A;generalize kA u.q 1 [.int .i64 l',.int .i64 n']=B;simp only[vj];refine List.Perm.trans (l₂:=(B++(XU++RU))++(A++(XV++RV))) (by simp only[vj];exact vZ _) ?_;refine QX _ _ _|>.trans ?_
  refine vX _ ?_;simp only[vj];exact vZ _
 refine⟨_,?_,key⟩;have:=key u.locals u.aA y.slot;have e1:U.set i {u with locals:=u.locals,aA:=u.aA}=U:=zO hu;have e2:V.set v {y with slot:=y.slot}=V:=zO hv
 rwa [e1,e2]at this
theorem fg.step {st:ah}{U:List UC}{V:List az}{i:Nat}{u:UC}(h:fg st i U V)(hu:U[i]? =some u){cv:Value}{cm:List Value}(hc:jA 2 cv (zW U (st.copied i)).length ((zW U (st.copied i)).flatMap jV) cm):
 fg st (i+1) (U.set i {u with locals:=(st.locals i false).length,aA:=(st.locals i true).length,dk:=zW U (st.copied i),cv:=cv,cm:=cm}) (JQ st V (st.ab i)):=by
 obtain⟨u',oD⟩:∃u':UC,u'={u with locals:=(st.locals i false).length,aA:=(st.locals i true).length,dk:=zW U (st.copied i),cv:=cv,cm:=cm}:=⟨_,rfl⟩;rw[<- oD];have Ia:(U.set i u').map UC.q=U.map UC.q:=ze hu (by rw[oD]);have L5:=DA Ia;have Wp:∀l,zW (U.set i u') l=zW U l:=fun l=>QB fun t _=>by unfold qU;rw[L5]
 have aB:∀{j:Nat} {w:UC},(U.set i u')[j]? =some w->(j=i/\w=u')∨(j≠i/\U[j]? =some w):=fun hj=>lF hu hj
 have hfw:∀{j:Nat} {w:UC},(U.set i u')[j]? =some w->∃w0,U[j]? =some w0/\w.q=w0.q/\w.args=w0.args/\w.num=w0.num/\w.outer=w0.outer/\w.ab=w0.ab/\w.tv=w0.tv/\w.iJ=w0.iJ/\w.es=w0.es/\w.cl=w0.cl:=fun {j w} hj=>by
  rcases aB hj with⟨rfl,rfl⟩|⟨_,h2⟩
  ·exact⟨u,hu,by rw[oD],by rw[oD],by rw[oD],by rw[oD],by rw[oD],by rw[oD],by rw[oD],by rw[oD],by rw[oD]⟩
  ·exact⟨w,h2,rfl,rfl,rfl,rfl,rfl,rfl,rfl,rfl,rfl⟩
 have et:∀{j:Nat} {w:UC},U[j]? =some w->∃w',(U.set i u')[j]? =some w'/\w'.q=w.q:=fun {j w} hj=>by
  have:=L5 j;rw[hj]at this;cases e:(U.set i u')[j]? with
  |none=>rw[e]at this;cases this
  |some w'=>rw[e]at this;exact⟨w',rfl,X3 this⟩
 refine⟨h.wf,by rw[Q7];exact h.ul,by rw[ri];exact h.vl,by rw[Ia];exact h.inj,fun j w hj=>?_,fun j w hj=>?_,fun j w hj=>?_,fun j w hj=>?_,fun v x y hx hy=>?_,fun j w hj hl=>?_,fun j w hj hl=>?_⟩
 ·obtain⟨w0,h1,_,h3,h4,_⟩:=hfw hj;rw[h3,h4];exact h.ar j w0 h1
 ·obtain⟨w0,h1,_,_,_,h5,_⟩:=hfw hj;rw[h5,L5];exact h.ou j w0 h1
 ·obtain⟨w0,h1,_,_,_,_,h6,h7,h8,_⟩:=hfw hj;rw[h6,h7,h8];refine⟨(h.tm j w0 h1).1.trans (QB fun v hv=>?_),(h.tm j w0 h1).2⟩;have hl:=Av hv;have e:=congrArg (fun l=>l[v]?) (ZF st V (st.ab i));simp only[Vu]at e;obtain⟨y,hy⟩:∃y,V[v]? =some y:=⟨_,Zg (by rw[h.vl];exact hl)⟩;rw[Vh,Vh,hy,gB hy];rfl
 ·obtain⟨w0,h1,_,_,_,_,_,_,_,h9,xL⟩:=hfw hj;rw[h9,xL];obtain⟨m,k1,k2,k3,k4⟩:=h.nd j w0 h1;refine⟨m,k1,k2,fun p hp=>?_,fun a z b ha=>?_⟩
  ·exact zDZ
  ·obtain⟨z',k8,k9,_⟩:=hfw ha;rw[k9];exact k4 a z' b k8
 ·obtain⟨y0,k1,k2⟩:=Hv hy;obtain⟨⟨z,h1,h2⟩,h3,h4,h5⟩:=h.vn v x y0 hx k1;obtain⟨z',k8,k9⟩:=et h1;rw[k2];refine⟨⟨z',k8,h2.trans k9.symm⟩,h3,h4,fun ho hl=>?_⟩;simp only;have DV:=(Vt.1 hx).1;by_cases e:x.unit=i
  ·have hm:v∈st.ab i:=by
    unfold ah.ab;rw[QK];refine⟨QO.2 DV,?_⟩;simp only[vF,decide_eq_true_eq];rw[n9 hx,yz hx];exact⟨e,ho⟩
   rw[if_pos hm];obtain⟨j,hj⟩:=Vv hm;have:=K0 hj;omega
  ·have hm:v∉st.ab i:=fun hm=>e (by
    unfold ah.ab at hm;have:=(QK.1 hm).2;simp only[vF,decide_eq_true_eq]at this;rw[n9 hx]at this;exact this.1)
   rw[if_neg hm];exact h5 ho Zo
 ·rcases aB hj with⟨rfl,_⟩|⟨_,h2⟩
  ·omega
  ·exact h.nl j w h2 Zo
 ·rw[Wp];rcases aB hj with⟨rfl,rfl⟩|⟨bZ,h2⟩
  ·rw[oD];exact⟨rfl,rfl,rfl,hc⟩
  ·exact h.la j w h2 Zo
inductive HX (T:List kC):PN->List Value->Prop
 |mk {k:Nat} {nm:ByteArray} {lit:Lt} {refs:List zY} {unit:Int} {fM:Bool} {kids:List PN} {lv:List Value} {rv:Value} {a:Option Addr} {c bk o:Nat} {us:Nat->List Value} (hl:zk T lit lv) (hr:jy T rv refs)
   (ha:0 < kids.length->a=some ⟨bk,o,none⟩) (hm:∀i,i < kids.length->∀y∈kA bk (o+i*11) (us i),y∈T) (hs:∀i x,kids[i]? =some x->HX T x (us i)):
   HX T (.mk k nm lit refs unit fM kids) ([cv k,.string nm]++lv++[rv,.int .i64 unit,.bool fM,.slice a kids.length c])
theorem HX.len {T:List kC}{x:PN}{vs:List Value}(h:HX T x vs):vs.length=11:=by
 cases h with
 |mk hl=>simp[hl.len]
theorem HX.more {T T':List kC}(hs:∀x∈T,x∈T'){x:PN}{vs:List Value}(h:HX T x vs):HX T' x vs:=by
 induction h with
 |mk hl hr ha hm hk ih=>exact .mk (hl.more hs) (hr.more hs) ha (fun i hi y hy=>hs _ (hm i hi y hy)) ih
structure ff (T:List kC)(l:List PN)(rows:List (List Value)):Prop where
 len:rows.length=l.length
 w:∀r∈rows,r.length=11
 rd:∀(i:Nat) x r,l[i]? =some x->rows[i]? =some r->HX T x r
theorem ff.nil(T:List kC):ff T [] []:=⟨rfl,Zs,fun i x r h=>by simp at h⟩
theorem ff.more {T T':List kC}{l:List PN}{rows:List (List Value)}(h:ff T l rows)(hs:∀x∈T,x∈T'):ff T' l rows:=⟨h.len,h.w,fun i x r hx hr=>(h.rd i x r hx hr).more hs⟩
theorem ff.snoc {T:List kC}{l:List PN}{rows:List (List Value)}{x:PN}{r:List Value}(h:ff T l rows)(hx:HX T x r):ff T (l++[x]) (rows++[r]):=by
 refine⟨by simp[h.len],fun r' AK=>?_,fun i y s hy hs=>?_⟩
 ·exact zEP
 ·exact zAO
def AN(T:List kC)(v:Value)(l:List PN):Prop:=∃(a:Option Addr) (c bk o:Nat) (us:Nat->List Value),v=.slice a l.length c/\(0 < l.length->a=some ⟨bk,o,none⟩)/\(∀i,i < l.length->∀y∈kA bk (o+i*11) (us i),y∈T)/\∀i x,l[i]? =some x->HX T x (us i)
theorem AN.nil(T:List kC):AN T Nz []:=⟨none,0,0,0,fun _=>[],rfl,fun h=>absurd h Zs,fun i hi=>absurd hi Zs,fun i x h=>by simp at h⟩
theorem AN.more {T T':List kC}{v:Value}{l:List PN}(h:AN T v l)(hs:∀x∈T,x∈T'):AN T' v l:=by
 obtain⟨a,c,bk,o,us,h1,h2,h3,h4⟩:=h;exact⟨a,c,bk,o,us,h1,h2,fun i hi y hy=>hs _ (h3 i hi y hy),fun i x hx=>(h4 i x hx).more hs⟩
theorem KV {B:List kC}{l:List PN}{sv:Value}{rows:List (List Value)}{sp:List Value}(bD:jA 11 sv l.length rows.flatten sp)(hr:ff B l rows):AN (aj sv rows.flatten sp++B) sv l:=by
 have aB:∀i,i < l.length->rows[i]? =some (rows.getD i []):=fun i hi=>by
  exact zE5
 have iZ:∀y∈B,y∈aj sv rows.flatten sp++B:=fun y hy=>QG _ hy
 generalize hm:l.length=m at bD;generalize Ie:rows.flatten=xs at bD|-;cases bD with
 |@mk bk o _ c _ _ h1 h2 h3=>
  rw[<- hm];subst Ie;refine⟨_,c,bk,o,fun i=>rows.getD i [],rfl,fun _=>rfl,fun i hi y hy=>?_,fun i x hx=>?_⟩
  ·exact zDD
  ·have hi:=(Vt.1 hx).1;exact(hr.rd i x _ hx (aB i hi)).more iZ
 |nil=>
  have h0:l=[]:=vz hm;subst h0;exact AN.nil _
theorem p_made {T:List kC}{k:Nat}{nm:ByteArray}{lit:Lt}{refs:List zY}{unit:Int}{fM:Bool}{kids:List PN}{lv:List Value}{rv sv:Value}(aS:zk T lit lv)(Ic:jy T rv refs)(hk:AN T sv kids):
 HX T (.mk k nm lit refs unit fM kids) ([cv k,.string nm]++lv++[rv,.int .i64 unit,.bool fM,sv]):=by
 obtain⟨a,c,bk,o,us,rfl,h2,h3,h4⟩:=hk;exact .mk (bk:=bk) (o:=o) (us:=us) aS Ic h2 h3 h4
theorem Sp {T:List kC}{x:PN}{ws:List Value}(h:HX T x ws):∃(e1:Nat) (e2:Int) (e3:Nat) (e4:ByteArray) (e5:Option Addr) (e7:Nat) (r1:Option Addr) (r3:Nat) (k1:Option Addr) (k3 bk o:Nat) (us:Nat->List Value),
 ws=(rP x.kind x.name e1 e2 e3 e4 e5 x.lit.items.length e7 r1 x.refs.length r3 x.unit x.super k1 x.kids.length k3)/\
 zk T x.lit [.int .u8 e1,.int .i64 e2,.int .u64 e3,.string e4,.slice e5 x.lit.items.length e7]/\jy T (.slice r1 x.refs.length r3) x.refs/\(0 < x.kids.length->k1=some ⟨bk,o,none⟩)/\(∀i,i < x.kids.length->∀y∈kA bk (o+i*11) (us i),y∈T)/\∀i y,x.kids[i]? =some y->HX T y (us i):=by
 cases h with
 |@mk k nm lit refs unit fM kids lv rv a c bk o us hl hr ha hm hs=>
  have AK:=hr;obtain⟨r1,r3,rfl,_⟩:=hr;have rJ:=hl;cases hl with
  |mk Tt IS p8 du=>exact⟨_,_,_,_,_,_,r1,r3,a,c,bk,o,us,rfl,rJ,AK,ha,hm,hs⟩
theorem C6 {B:List kC}{sv:Value}{rs:List zY}{sp:List Value}(bD:jA 4 sv rs.length (rs.flatMap jN) sp):jy (aj sv (rs.flatMap jN) sp++B) sv rs:=by
 generalize hm:rs.length=m at bD;generalize Ie:rs.flatMap jN=xs at bD|-;cases bD with
 |@mk bk o _ c _ _ h1 h2 h3=>
  rw[<- hm];subst Ie;refine⟨_,c,rfl,fun i r hi=>⟨bk,o,rfl,fun y hy=>?_⟩⟩;refine Zw _ ?_;simp only[aj,j8];refine Zw _ ?_;rw[Va];exact nG (rows:=rs.map jN) (fun r hr=>by obtain⟨z,_,rfl⟩:=QM.1 hr;rfl) (by rw[Vu,hi];rfl) y hy
 |nil=>
  have h0:rs=[]:=vz hm;subst h0;exact jy.nil _
mutual
def PN.w:PN->Nat
 |.mk _ _ _ rs _ _ kids=>1+rs.length+PN.ws kids
def PN.ws:List PN->Nat
 |[]=>0
 |x::r=>PN.w x+PN.ws r
end
theorem PN.K9 {x:PN}:∀{l:List PN},x∈l->PN.w x<=PN.ws l:=by
 intro l
 induction l with
 |nil=>intro h;cases h
 |cons y r ih=>
  intro h;simp only[PN.ws];exact zCC
theorem PN.nC(x:PN):0 < PN.w x:=by cases x;simp only[PN.w];omega
theorem PN.Rc:∀l:List PN,l.length<=PN.ws l:=by
 intro l
 induction l with
 |nil=>exact Qn _
 |cons x r ih=>have:=PN.nC x;simp only[PN.ws,Vz];omega
theorem Nq(b:Bool)(l:List PN):PN.ws (zD b l)=PN.ws l:=by
 have key:∀r:List PN,PN.ws (r.map (PN.Am b))=PN.ws r:=by
  intro r
  induction r with
  |nil=>rfl
  |cons x r ih=>cases x;simp only[QC,PN.ws,ih];rfl
 cases l with
 |nil=>rfl
 |cons x r=>simp only[zD,PN.ws,key]
structure Bw (st:ah)(M:Nat):Prop where
 bd:∀l∈st.ai,PN.ws l<=2*M
 ar:∀a∈st.args,a<=M
theorem Bw.of {a b:ah}{M:Nat}(h:Bw a M)(e:b.ai=a.ai)(e2:b.args=a.args):Bw b M:=⟨fun l hl=>h.bd l (by rw[<- e];exact hl),by rw[e2];exact h.ar⟩
theorem Hl(F G:List ByteArray)(st:ah)(env:List Nat)(nm:ByteArray)(u:Nat)(p:Int)(put:Bool):(wD F G st env nm u p put).2.args=st.args:=by
 have hw:∀(e:Nat),(st.wrong e p).args=st.args:=fun e=>by unfold ah.wrong;split <;> rfl
 unfold wD;exact zDM
theorem fI(F G:List ByteArray)(st:ah)(env:List Nat)(nm:ByteArray)(u:Nat)(p:Int)(put:Bool):(wD F G st env nm u p put).2.ai=st.ai:=by
 have hw:∀(e:Nat),(st.wrong e p).ai=st.ai:=fun e=>by unfold ah.wrong;split <;> rfl
 unfold wD;exact zDM
theorem w_part(F G:List ByteArray)(M:Nat):∀(N:Nat) (x:Nd),x.size<=N->pW x<=M->∀st env u,Bw st M->
 (Bw (j9 F G x st env u).2 M/\PN.w (j9 F G x st env u).1<=2*pW x)/\(Bw (zo F G x st env u).2 M/\PN.w (zo F G x st env u).1+x.args.length<=2*pW x):=by
 intro N
 induction N with
 |zero=>intro x hx;have:=x.size_pos;omega
 |succ N ih=>
  have au:∀l:List Nd,Nd.aq l<=N->jM l<=M->∀st env u,Bw st M->Bw (kT F G l st env u).2 M/\PN.ws (kT F G l st env u).1<=2*jM l:=by
   intro l
   induction l with
   |nil=>intro _ _ st env u h;rw[kT];exact⟨h,Qn _⟩
   |cons x r oj=>
    intro hl hM st env u h;simp only[Nd.aq]at hl;simp only[jM]at hM;rw[je];obtain⟨h1,h2⟩:=(ih x Zo Zo st env u h).1;obtain⟨h3,h4⟩:=oj Zo Zo _ env u h1;refine⟨h3,?_⟩;simp only[PN.ws,jM];omega
  have iy:∀(s:ByteArray) (l:List Nd),Nd.aq l<=N->jM l<=M->∀i st env u,Bw st M->(∀k y,l[k]? =some y->jQ s=5->yM s (i+k)=true->y.args.length=1)->
   Bw (kf F G s l i st env u).2.2 M/\PN.ws (kf F G s l i st env u).1+(kf F G s l i st env u).2.1.length<=2*jM l:=by
   intro s l
   induction l with
   |nil=>intro _ _ i st env u h _;rw[kf];exact⟨h,Qn _⟩
   |cons x r oj=>
    intro hl hM i st env u h ha;simp only[Nd.aq]at hl;simp only[jM]at hM;obtain⟨⟨h1,h2⟩,h3,h4⟩:=ih x Zo Zo st env u h;have ec:∀k y,r[k]? =some y->jQ s=5->yM s (i+1+k)=true->y.args.length=1:=fun k y hy e1 e2=>ha (k+1) y (by simpa using hy) e1 (by rw[show i+(k+1)=i+1+k from by omega];exact e2)
    cases hi:yM s i with
    |true=>
     rw[zN _ _ _ _ _ _ _ _ _ hi];obtain⟨k1,k2⟩:=oj Zo Zo (i+1) _ env u h3 ec;refine⟨k1,?_⟩;simp only[PN.ws,jM];split
     ·rename_i e5;have:=ha 0 x rfl e5 hi;rw[Vz];omega
     ·omega
    |false=>
     rw[we _ _ _ _ _ _ _ _ _ hi];obtain⟨k1,k2⟩:=oj Zo Zo (i+1) _ env u h1 ec;refine⟨k1,?_⟩;simp only[PN.ws,jM];omega
  intro x hx hM st env u h;cases x with
  |mk k s lit args ab kids p=>
  simp only[Nd.size]at hx;simp only[pW,iV]at hM;have hk:Nd.aq kids<=N:=by omega
  have hkM:jM kids<=M:=by omega
  simp only[pW,iV];refine⟨?_,?_⟩
  ·cases aL:fU k s kids with
   |true=>
    rw[zd _ _ _ _ _ _ _ _ _ _ _ _ aL];have hf:eA (jQ s) kids=true:=by
     unfold fU at aL;simp only[vF]at aL;exact aL.2
    obtain⟨k1,k2⟩:=iy s kids hk hkM 0 st env u h (fun j y hy e5 hi=>by
     rw[e5]at hf;obtain⟨hl,b,hb,_,p7⟩:=OU hf;have:j=2:=by
      unfold yM at hi;rw[e5]at hi;simp only[decide_eq_true_eq]at hi;omega
     subst this;rw[hb]at hy;obtain rfl:=X3 hy;exact p7)
    refine⟨k1,?_⟩;simp only[PN.w];omega
   |false=>
    obtain⟨a1,a2⟩:=au kids hk hkM st env u h;by_cases h1:k=1
    ·rw[eF _ _ _ _ _ _ _ _ _ _ _ _ aL h1];exact⟨h,by simp only[PN.w,PN.ws,Q6];omega⟩
    by_cases h2:k=2
    ·rw[eG _ _ _ _ _ _ _ _ _ _ _ _ aL h2];exact⟨h.of (fI _ _ _ _ _ _ _ _) (Hl _ _ _ _ _ _ _ _),by simp only[PN.w,PN.ws,Vz,Q6];omega⟩
    by_cases h3:k=3
    ·rw[eH _ _ _ _ _ _ _ _ _ _ _ _ aL h3];obtain⟨k3,k4⟩:=au kids hk hkM (wD F G st env s u p true).2 env u (h.of (fI _ _ _ _ _ _ _ _) (Hl _ _ _ _ _ _ _ _));exact⟨k3,by simp only[PN.w,Vz,Q6];omega⟩
    by_cases h7:k=7
    ·rw[eL _ _ _ _ _ _ _ _ _ _ _ _ aL h7];refine⟨?_,by simp only[PN.w,PN.ws,Q6];omega⟩;simp only;rw[wC];obtain⟨f1,f2,f3,f4⟩:=jZ st.outer.length true true p args 0 (st.aF (u:Int) args.length) env;obtain⟨f5,f6,f7,f8⟩:=jZ st.outer.length false true p ab 0 (kP st.outer.length true true p args 0 (st.aF (u:Int) args.length) env).1 (kP st.outer.length true true p args 0 (st.aF (u:Int) args.length) env).2;have hB:Bw (aW args ab p st env (u:Int)).1 M:=⟨fun l hl=>by
      have hl:l∈(kP st.outer.length false true p ab 0 (kP st.outer.length true true p args 0 (st.aF (u:Int) args.length) env).1 (kP st.outer.length true true p args 0 (st.aF (u:Int) args.length) env).2).1.ai:=hl;rw[f7,f3]at hl;have hl:l∈st.ai++[[]]:=hl;rcases QF.1 hl with hl|hl
      ·exact h.bd l hl
      ·rw[QR.1 hl];exact Qv _,fun a ha=>by
      have ha:a∈(kP st.outer.length false true p ab 0 (kP st.outer.length true true p args 0 (st.aF (u:Int) args.length) env).1 (kP st.outer.length true true p args 0 (st.aF (u:Int) args.length) env).2).1.args:=ha;rw[f6,f2]at ha;have ha:a∈st.args++[args.length]:=ha;rcases QF.1 ha with ha|ha
      ·exact h.ar a ha
      ·rw[QR.1 ha];omega⟩
     obtain⟨d5,d6⟩:=au kids hk hkM (aW args ab p st env (u:Int)).1 (aW args ab p st env (u:Int)).2 st.outer.length hB;refine⟨fun l hl=>?_,d5.ar⟩;rcases List.mem_or_eq_of_mem_set hl with hl|rfl
     ·exact d5.bd l hl
     ·omega
    by_cases h8:k=8
    ·rw[eM _ _ _ _ _ _ _ _ _ _ _ _ aL h8];exact zDN
    by_cases h9:k=9
    ·rw[eN _ _ _ _ _ _ _ _ _ _ _ _ aL h9];exact zDN
    by_cases h6:k=6
    ·rw[eK _ _ _ _ _ _ _ _ _ _ _ _ aL h6];exact zDN
    by_cases h5:k=5
    ·rw[eJ _ _ _ _ _ _ _ _ _ _ _ _ aL h5];exact⟨a1,by simp only[PN.w,Q6,Nq];omega⟩
    cases hs:jS kids with
    |true=>
     rw[yJ _ _ _ _ _ _ _ _ _ _ _ _ aL ⟨h1,h2,h3,h5,h6,h7,h8,h9⟩ hs];have ht:Nd.aq kids.tail<=N/\jM kids.tail<=jM kids:=by
      cases kids with
      |nil=>exact⟨hk,Qn _⟩
      |cons x r=>simp only[Nd.aq]at hk;simp only[List.tail_cons,jM];exact⟨Zo,Zo⟩
     obtain⟨k1,k2⟩:=au kids.tail ht.1 Zo st env u h;exact⟨k1,by simp only[PN.w,Q6];omega⟩
    |false=>
     rw[eI _ _ _ _ _ _ _ _ _ _ _ _ aL ⟨h1,h2,h3,h5,h6,h7,h8,h9⟩ hs];exact zDN
  ·rw[dw];obtain⟨f1,f2,f3,f4⟩:=jZ u true false p args 0 st env;obtain⟨f5,f6,f7,f8⟩:=jZ u false false p ab 0 (kP u true false p args 0 st env).1 (kP u true false p args 0 st env).2;obtain⟨d5,d6⟩:=au kids hk hkM _ (kP u false false p ab 0 (kP u true false p args 0 st env).1 (kP u true false p args 0 st env).2).2 u (h.of (f7.trans f3) (f6.trans f2));refine⟨d5,?_⟩;simp only[PN.w,Q5,List.length_range',Nd.args];omega
theorem wa {b:Bool}{r:Rs}(h:kQ b r≠none):b=true/\r≠none:=by
 unfold kQ at h;split at h
 ·exact⟨by assumption,h⟩
 ·exact absurd rfl h
theorem uJ {b:Bool}{r:Rs}(h:wo b r≠none):r≠none:=by
 rintro rfl;exact h rfl
theorem sd {r:Rs}(h:wi r≠none):r≠none:=by
 rintro rfl;exact h rfl
theorem Kg {r q:Rs}(h:zr r q≠none):r≠none/\q≠none:=by
 cases r with
 |none=>exact absurd rfl h
 |some a=>cases q with
  |none=>exact absurd rfl h
  |some b=>exact⟨(fun e=>by cases e),(fun e=>by cases e)⟩
theorem yl:∀{l:List Rs},jc l≠none->∀r∈l,r≠none:=by
 intro l
 induction l with
 |nil=>intro _ r hr;cases hr
 |cons x l ih=>
  intro h r hr;have h2:x≠none/\jc l≠none:=by
   cases x with
   |none=>exact absurd rfl h
   |some a=>
    refine⟨(fun e=>by cases e),fun e=>h ?_⟩;simp only[jc,e]
  rcases QH.1 hr with rfl|hr
  ·exact h2.1
  ·exact ih h2.2 r hr
theorem XB {x:Nd}{p:Nat}{r:Rs}(h:yS x p r≠none):r≠none:=by
 unfold yS at h;have h2:=(wa h).2;split at h2
 ·exact sd h2
 ·exact h2
theorem rD {x:Nd}{p:Nat}{r:Rs}(h:ja x p r≠none):r≠none:=by
 unfold ja at h;exact XB (wa h).2
theorem F8 {x:Nd}{s:ByteArray}{r:Rs}(h:zV x s r≠none):r≠none:=by
 unfold zV at h;split at h
 ·exact h
 ·exact rD h
theorem Dl {p:Nat}:∀{l:List Nd},(∀r∈eP p l (zi l),r≠none)->∀y∈l,kN y≠none:=by
 intro l
 induction l with
 |nil=>intro _ y hy;cases hy
 |cons x l ih=>
  intro h y hy;simp only[zi,eP]at h;exact zDR
theorem Xf:∀{l:List Nd},(∀r∈qJ l (zi l),r≠none)->∀y∈l,kN y≠none:=by
 intro l
 induction l with
 |nil=>intro _ y hy;cases hy
 |cons x l ih=>
  intro h y hy;simp only[zi,qJ]at h;rcases QH.1 hy with rfl|hy
  ·exact(wa (h _ (QJ ..))).2
  ·exact ih (fun r hr=>h r (QI _ hr)) y hy
theorem HC:∀{l:List Nd},(∀r∈wp l (zi l),r≠none)->∀y∈l,kN y≠none:=by
 intro l
 induction l with
 |nil=>intro _ y hy;cases hy
 |cons x l ih=>
  intro h y hy;cases l with
  |nil=>
   simp only[zi,wp]at h;obtain rfl:=QR.1 hy;have:=h _ (QJ ..);split at this
   ·exact this
   ·exact rD this
  |cons z l=>
   simp only[zi,wp]at h;exact zDR
theorem Ke {s:ByteArray}{l:List Nd}(h:ik s l (zi l)≠none):∀y∈l,kN y≠none:=by
 unfold ik at h;exact Dl (yl (uJ (wa h).2))
theorem qK {n:Nat}{l:List ByteArray}{r:Rs}(h:wy n l r≠none):(∀s∈l,jO s=true)/\r≠none:=by
 unfold wy at h;exact⟨ve.1 (wa h).1,uJ (wa h).2⟩
theorem Si {l:List Nd}(h:(match l,zi l with|[x],[r]=>ja x 1 r|_,_=>none)≠none):l.length=1/\∀y∈l,kN y≠none:=by
 match l,h with
 |[],h=>exact absurd rfl h
 |[x],h=>
  simp only[zi]at h;refine⟨rfl,fun y hy=>?_⟩;obtain rfl:=QR.1 hy;exact rD h
 |_::_::_,h=>exact absurd rfl h
theorem GZ {s:ByteArray}(h:zn s=true):s≠e0:=by
 rintro rfl
 revert h;decide
theorem IM {s:ByteArray}(h:jO s=true):zn s=true:=by
 unfold jO at h;rw[vF]at h;exact h.2
structure Dr (k:Nat)(s:ByteArray)(args ab:List ByteArray)(kids:List Nd):Prop where
 kind:1<=k/\k<=9
 KS:k=1∨k=2->kids=[]
 onekid:k=3∨k=9->kids.length=1
 send:k=4->0 < kids.length
 casc:k=5->2 < kids.length
 name:k=2∨k=3->zn s=true
 free:k=3->jO s=true
 noargs:k≠7->args=[]/\ab=[]
 free2:k=7->(∀a∈args,jO a=true)/\∀a∈ab,jO a=true
 cq:∀y∈kids,kN y≠none
theorem qQ {k:Nat}{s:ByteArray}{lit:Lt}{args ab:List ByteArray}{kids:List Nd}{p:Int}(h:kN (.mk k s lit args ab kids p)≠none):Dr k s args ab kids:=by
 have hn:∀{l:List ByteArray},l.length=0->l=[]:=fun e=>vz e
 rw[kN]at h;unfold ju at h;split at h
 ·obtain⟨h1,h2⟩:=wa h;simp only[decide_eq_true_eq]at h1;have hk:kids=[]:=vz h1.1;exact⟨Zo,fun _=>hk,Zo,Zo,Zo,Zo,Zo,fun _=>⟨hn h1.2.2.1,hn h1.2.2.2⟩,Zo,fun y hy=>by rw[hk]at hy;cases hy⟩
 split at h
 ·obtain⟨h1,h2⟩:=wa h;simp only[vF,decide_eq_true_eq]at h1;have hk:kids=[]:=vz h1.1.1.1;exact⟨Zo,fun _=>hk,Zo,Zo,Zo,fun _=>h1.1.2,Zo,fun _=>⟨hn h1.1.1.2.1,hn h1.1.1.2.2⟩,Zo,fun y hy=>by rw[hk]at hy;cases hy⟩
 split at h
 ·obtain⟨h1,h2⟩:=wa h;simp only[vF,decide_eq_true_eq]at h1;obtain⟨h3,h4⟩:=Si h2;exact⟨Zo,Zo,fun _=>h3,Zo,Zo,fun _=>IM h1.2,fun _=>h1.2,fun _=>⟨hn h1.1.1.1,hn h1.1.1.2⟩,Zo,h4⟩
 split at h
 ·obtain⟨h1,h2⟩:=wa h;simp only[vF,decide_eq_true_eq]at h1
  match kids,h2 with
  |[],h2=>exact absurd rfl h2
  |x::l,h2=>
   simp only[zi]at h2;obtain⟨h3,h4⟩:=Kg h2;refine⟨Zo,Zo,Zo,fun _=>by simp,Zo,Zo,Zo,fun _=>⟨hn h1.1.1.1,hn h1.1.1.2⟩,Zo,fun y hy=>?_⟩;rcases QH.1 hy with rfl|hy
   ·exact F8 h3
   ·exact Ke h4 y hy
 split at h
 ·obtain⟨h1,h2⟩:=wa h;simp only[vF,decide_eq_true_eq]at h1;exact⟨Zo,Zo,Zo,Zo,Zo,Zo,Zo,fun _=>⟨hn h1.1.1,hn h1.1.2⟩,Zo,Ke h2⟩
 split at h
 ·obtain⟨h1,h2⟩:=wa h;simp only[vF,decide_eq_true_eq]at h1
  match kids,h1,h2 with
  |[],_,h2=>exact absurd rfl h2
  |[_],_,h2=>exact absurd rfl h2
  |x::y::l,h1,h2=>
   simp only[zi]at h2;obtain⟨h3,h4⟩:=Kg (uJ h2);refine⟨Zo,Zo,Zo,Zo,fun _=>h1.1.2.2.2,Zo,Zo,fun _=>⟨hn h1.1.2.1,hn h1.1.2.2.1⟩,Zo,fun z hz=>?_⟩;rcases QH.1 hz with rfl|hz
   ·exact F8 h4
   ·exact Xf (l:=y::l) (yl h3) z hz
 split at h
 ·obtain⟨h1,h2⟩:=wa h;obtain⟨h3,h4⟩:=qK h2;obtain⟨h5,h6⟩:=qK h4;exact⟨Zo,Zo,Zo,Zo,Zo,Zo,Zo,fun e=>absurd (by assumption) e,fun _=>⟨h3,h5⟩,HC (yl (sd h6))⟩
 split at h
 ·obtain⟨h1,h2⟩:=wa h;simp only[vF,decide_eq_true_eq]at h1;exact⟨Zo,Zo,Zo,Zo,Zo,Zo,Zo,fun _=>⟨hn h1.1.2.1,hn h1.1.2.2⟩,Zo,Dl (yl (uJ (sd h2)))⟩
 split at h
 ·obtain⟨h1,h2⟩:=wa h;simp only[vF,decide_eq_true_eq]at h1;obtain⟨h3,h4⟩:=Si h2;exact⟨Zo,Zo,fun _=>h3,Zo,Zo,Zo,Zo,fun _=>⟨hn h1.1.2.1,hn h1.1.2.2⟩,Zo,h4⟩
 ·exact absurd rfl h
theorem R8 {Q:Nd->Prop}(hQ:∀k s lit args ab kids p,Dr k s args ab kids->(∀y∈kids,Q y)->Q (.mk k s lit args ab kids p)):∀x,kN x≠none->Q x:=by
 have key:∀(N:Nat) (x:Nd),x.size<=N->kN x≠none->Q x:=by
  intro N
  induction N with
  |zero=>intro x hx;have:=x.size_pos;omega
  |succ N ih=>
   intro x hx h;cases x with
   |mk k s lit args ab kids p=>
   simp only[Nd.size]at hx;have hi:=qQ h;exact hQ k s lit args ab kids p hi fun y hy=>ih y (by have:=Nd.aD hy;omega) (hi.cq y hy)
 exact fun x=>key _ x (Qn _)
theorem Dr.okK {k:Nat}{s:ByteArray}{args ab:List ByteArray}{kids:List Nd}(h:Dr k s args ab kids):okK k kids=true:=by
 unfold V.okK;simp only[vF,vR,vN,decide_eq_true_eq,decide_eq_false_iff_not];refine⟨⟨⟨?_,?_⟩,h.kind⟩,?_⟩
 ·by_cases e:k=1∨k=2
  ·exact .inr (by rw[h.KS e];rfl)
  ·exact .inl e
 ·by_cases e:k=5
  ·exact .inr (by have:=h.casc e;omega)
  ·exact .inl e
 ·by_cases e:k=4
  ·exact .inr (h.send e)
  ·exact .inl e
theorem KT {l:List Nd}(h:∀y∈l,Se y=true):qR l=true:=by
 induction l with
 |nil=>rfl
 |cons x r ih=>
  simp only[qR,vF];exact⟨h x Zs,ih fun y hy=>h y B9⟩
theorem R7:∀x,kN x≠none->x.w<=274877906944->Se x=true:=R8 fun k s lit args ab kids p h hk hw=>by
 simp only[Nd.w]at hw;simp only[Se,vF,decide_eq_true_eq];exact⟨⟨h.okK,Zo⟩,KT fun y hy=>hk y hy (by have:=Nd.cy hy;omega)⟩
def Ab(r:zY):Bool:=decide (0<=r.index)&&decide (0<=r.slot)&&decide (r.kind≠5/\r.kind≠6)&&decide (r.kind=8↔r.name≠e0)
mutual
def dR(n:Nat):PN->Bool
 |.mk k _ _ rs un _ kids=>rs.all Ab&&(!decide (k=8)||decide (1<=un/\un < n))&&wH n kids
def wH(n:Nat):List PN->Bool
 |[]=>true
 |x::r=>dR n x&&wH n r
end
mutual
theorem ly {n m:Nat}(h:n<=m):∀x:PN,dR n x=true->dR m x=true
 |.mk k s l rs u b kids,hx=>by
  simp only[dR,vF,vR,decide_eq_true_eq]at hx|-;exact⟨⟨hx.1.1,hx.1.2.imp_right fun k=>⟨k.1,Zo⟩⟩,nj h kids hx.2⟩
theorem nj {n m:Nat}(h:n<=m):∀l:List PN,wH n l=true->wH m l=true
 |[],_=>rfl
 |x::r,hx=>by
  simp only[wH,vF]at hx|-;exact⟨ly h x hx.1,nj h r hx.2⟩
end
theorem yT {n:Nat}:∀{l:List PN},wH n l=true->∀x∈l,dR n x=true
 |y::r,h,x,hx=>by
  simp only[wH,vF]at h;rcases QH.1 hx with rfl|hx
  ·exact h.1
  ·exact yT h.2 x hx
theorem CV {n:Nat}:∀{l:List PN},(∀x∈l,dR n x=true)->wH n l=true
 |[],_=>rfl
 |x::r,h=>by
  simp only[wH,vF];exact⟨h x Zs,CV fun y hy=>h y B9⟩
theorem Bm {n:Nat}(b:Bool){l:List PN}(h:wH n l=true):wH n (zD b l)=true:=by
 cases l with
 |nil=>rfl
 |cons x r=>
  simp only[wH,vF]at h;simp only[zD,wH,vF];refine⟨h.1,CV fun y hy=>?_⟩;obtain⟨z,hz,rfl⟩:=QM.1 hy;have:=yT h.2 z hz;cases z;exact this
structure Pp (st:ah):Prop where
 pos:0 < st.outer.length
 bd:∀l∈st.ai,wH st.outer.length l=true
 ro:∀(i:Nat) o,st.outer[i]? =some o->0 < i->0<=o
theorem Pp.of {a b:ah}(h:Pp a)(e1:b.ai=a.ai)(e2:b.outer=a.outer):Pp b:=⟨by rw[e2];exact h.pos,fun l hl=>by rw[e2];exact h.bd l (by rw[<- e1];exact hl),by rw[e2];exact h.ro⟩
theorem C5(F G:List ByteArray)(st:ah)(env:List Nat)(nm:ByteArray)(u:Nat)(p:Int)(put:Bool):(wD F G st env nm u p put).2.outer=st.outer:=by
 unfold wD;split
 ·rfl
 ·split
  ·simp only;split
   ·exact dZ _ _ _
   ·rfl
  ·split
   ·rfl
   ·simp only;split
    ·rfl
    ·exact dZ _ _ _
theorem rawP(v:Nat):Ab (cG v)=true:=by
 unfold Ab cG;simp only[vF,decide_eq_true_eq];refine⟨⟨⟨Zo,Zo⟩,Zo⟩,?_⟩;exact⟨fun e=>by omega,fun e=>absurd rfl e⟩
theorem SE(F G:List ByteArray)(st:ah)(env:List Nat){nm:ByteArray}(u:Nat)(p:Int)(put:Bool)(hn:nm≠e0):Ab (wD F G st env nm u p put).1=true:=by
 have h0:∀(k:Nat) (i:Nat),k≠5/\k≠6/\k≠8->Ab ⟨k,i,0,e0⟩=true:=fun k i hk=>by
  unfold Ab;simp only[vF,decide_eq_true_eq];refine⟨⟨⟨Zo,Zo⟩,hk.1,hk.2.1⟩,?_⟩;exact⟨fun e=>absurd e hk.2.2,fun e=>absurd rfl e⟩
 unfold wD;split
 ·have:=Er nm;exact h0 (wx nm) 0 ⟨Zo,Zo,Zo⟩
 ·split
  ·exact rawP _
  ·split
   ·exact h0 7 _ ⟨Zo,Zo,Zo⟩
   ·unfold Ab;simp only[vF,decide_eq_true_eq];exact⟨⟨⟨Zo,Zo⟩,Zo,Zo⟩,fun _=>hn,fun _=>trivial⟩
theorem XH(F G:List ByteArray):∀(N:Nat) (x:Nd),x.size<=N->kN x≠none->∀st env u,Pp st->
 (Pp (j9 F G x st env u).2/\dR (j9 F G x st env u).2.outer.length (j9 F G x st env u).1=true)/\(Pp (zo F G x st env u).2/\dR (zo F G x st env u).2.outer.length (zo F G x st env u).1=true):=by
 intro N
 induction N with
 |zero=>intro x hx;have:=x.size_pos;omega
 |succ N ih=>
  have au:∀l:List Nd,Nd.aq l<=N->(∀y∈l,kN y≠none)->∀st env u,Pp st->Pp (kT F G l st env u).2/\wH (kT F G l st env u).2.outer.length (kT F G l st env u).1=true:=by
   intro l
   induction l with
   |nil=>intro _ _ st env u h;rw[kT];exact⟨h,rfl⟩
   |cons x r oj=>
    intro hl hd st env u h;simp only[Nd.aq]at hl;rw[je];obtain⟨h1,h2⟩:=(ih x Zo (hd x Zs) st env u h).1;obtain⟨h3,h4⟩:=oj Zo (fun y hy=>hd y B9) _ env u h1;exact zE2
  have iy:∀(s:ByteArray) (l:List Nd),Nd.aq l<=N->(∀y∈l,kN y≠none)->∀i st env u,Pp st->
   Pp (kf F G s l i st env u).2.2/\wH (kf F G s l i st env u).2.2.outer.length (kf F G s l i st env u).1=true/\(kf F G s l i st env u).2.1.all Ab=true/\Gr st (kf F G s l i st env u).2.2:=by
   intro s l
   induction l with
   |nil=>intro _ _ i st env u h;rw[kf];exact⟨h,rfl,rfl,Gr.refl _⟩
   |cons x r oj=>
    intro hl hd i st env u h;simp only[Nd.aq]at hl;obtain⟨g1,g2⟩:=wd F G N x Zo st env u;obtain⟨⟨h1,h2⟩,h3,h4⟩:=ih x Zo (hd x Zs) st env u h;cases hi:yM s i with
    |true=>
     rw[zN _ _ _ _ _ _ _ _ _ hi];obtain⟨k1,k2,k3,k4⟩:=oj Zo (fun y hy=>hd y B9) (i+1) _ env u h3;refine⟨k1,?_,?_,g2.trans k4⟩
     ·simp only[wH,vF];exact⟨ly k4.outer.length_le _ h4,k2⟩
     ·simp only;split
      ·simp only[vd,vF];exact⟨rawP _,k3⟩
      ·exact k3
    |false=>
     rw[we _ _ _ _ _ _ _ _ _ hi];obtain⟨k1,k2,k3,k4⟩:=oj Zo (fun y hy=>hd y B9) (i+1) _ env u h1;refine⟨k1,?_,k3,g1.trans k4⟩;simp only[wH,vF];exact⟨ly k4.outer.length_le _ h2,k2⟩
  intro x hx hd st env u h;cases x with
  |mk k s lit args ab kids p=>
  have hi:=qQ hd;simp only[Nd.size]at hx;have hk:Nd.aq kids<=N:=by omega
  have bR:∀(n kk:Nat) (nm:ByteArray) (l0:Lt) (un:Int) (b:Bool) (ks:List PN),kk≠8->wH n ks=true->dR n (.mk kk nm l0 [] un b ks)=true:=fun n kk nm l0 un b ks hk hh=>by
   simp only[dR,List.all_nil,vU,vF,vR];exact⟨.inl (by rw[Zf hk];rfl),hh⟩
  have qT:∀(n kk:Nat) (r:zY) (ks:List PN),kk≠8->Ab r=true->wH n ks=true->dR n (.mk kk e0 fV [r] 0 false ks)=true:=fun n kk r ks hk hr hh=>by
   simp only[dR,vd,List.all_nil,vH,vF,vR];exact⟨⟨hr,.inl (by rw[Zf hk];rfl)⟩,hh⟩
  refine⟨?_,?_⟩
  ·cases aL:fU k s kids with
   |true=>
    rw[zd _ _ _ _ _ _ _ _ _ _ _ _ aL];obtain⟨k1,k2,k3,_⟩:=iy s kids hk hi.cq 0 st env u h;refine⟨k1,?_⟩;simp only[dR,vF,vR];refine⟨⟨k3,.inl ?_⟩,k2⟩;have:ib s≠8:=by unfold ib;split <;> omega
    rw[Zf this];rfl
   |false=>
    obtain⟨a1,a2⟩:=au kids hk hi.cq st env u h;by_cases h1:k=1
    ·rw[eF _ _ _ _ _ _ _ _ _ _ _ _ aL h1];exact⟨h,bR _ _ _ _ _ _ _ Zo rfl⟩
    by_cases h2:k=2
    ·rw[eG _ _ _ _ _ _ _ _ _ _ _ _ aL h2];exact⟨h.of (fI _ _ _ _ _ _ _ _) (C5 _ _ _ _ _ _ _ _),qT _ _ _ _ Zo (SE _ _ _ _ _ _ _ (GZ (hi.name (.inl h2)))) rfl⟩
    by_cases h3:k=3
    ·rw[eH _ _ _ _ _ _ _ _ _ _ _ _ aL h3];obtain⟨k3,k4⟩:=au kids hk hi.cq (wD F G st env s u p true).2 env u (h.of (fI _ _ _ _ _ _ _ _) (C5 _ _ _ _ _ _ _ _));exact⟨k3,qT _ _ _ _ Zo (SE _ _ _ _ _ _ _ (GZ (hi.name (.inr h3)))) k4⟩
    by_cases h7:k=7
    ·rw[eL _ _ _ _ _ _ _ _ _ _ _ _ aL h7];simp only;rw[wC];obtain⟨f1,f2,f3,f4⟩:=jZ st.outer.length true true p args 0 (st.aF (u:Int) args.length) env;obtain⟨f5,f6,f7,f8⟩:=jZ st.outer.length false true p ab 0 (kP st.outer.length true true p args 0 (st.aF (u:Int) args.length) env).1 (kP st.outer.length true true p args 0 (st.aF (u:Int) args.length) env).2;have hol:(aW args ab p st env (u:Int)).1.outer.length=st.outer.length+1:=by
      show(kP st.outer.length false true p ab 0 (kP st.outer.length true true p args 0 (st.aF (u:Int) args.length) env).1 (kP st.outer.length true true p args 0 (st.aF (u:Int) args.length) env).2).1.outer.length=_;rw[f5,f1];unfold ah.aF;simp
     have hB:Pp (aW args ab p st env (u:Int)).1:=⟨Zo,fun l hl=>by
      have hl:l∈(kP st.outer.length false true p ab 0 (kP st.outer.length true true p args 0 (st.aF (u:Int) args.length) env).1 (kP st.outer.length true true p args 0 (st.aF (u:Int) args.length) env).2).1.ai:=hl;rw[f7,f3]at hl;have hl:l∈st.ai++[[]]:=hl;rcases QF.1 hl with hl|hl
      ·exact nj Zo l (h.bd l hl)
      ·rw[QR.1 hl];rfl,fun i o hi hp=>by
      have hi:(kP st.outer.length false true p ab 0 (kP st.outer.length true true p args 0 (st.aF (u:Int) args.length) env).1 (kP st.outer.length true true p args 0 (st.aF (u:Int) args.length) env).2).1.outer[i]? =some o:=hi;rw[f5,f1]at hi;have hi:(st.outer++[(u:Int)])[i]? =some o:=hi;rw[Vi]at hi;split at hi
      ·exact h.ro i o hi hp
      ·have:=(Vt.1 hi).1;simp only[Q8]at this;have e:i - st.outer.length=0:=by omega
       rw[e]at hi;obtain rfl:(u:Int)=o:=by simpa using hi
       omega⟩
     obtain⟨d5,d6⟩:=au kids hk hi.cq (aW args ab p st env (u:Int)).1 (aW args ab p st env (u:Int)).2 st.outer.length hB;have gA:=(wV F G kids (aW args ab p st env (u:Int)).1 (aW args ab p st env (u:Int)).2 st.outer.length).outer.length_le;refine⟨⟨d5.pos,fun l hl=>?_,d5.ro⟩,?_⟩
     ·rcases List.mem_or_eq_of_mem_set hl with hl|rfl
      ·exact d5.bd l hl
      ·exact d6
     ·simp only[dR,List.all_nil,vU,vF,vR,decide_eq_true_eq];have:=h.pos;exact⟨.inr ⟨Zo,Zo⟩,rfl⟩
    by_cases h8:k=8
    ·rw[eM _ _ _ _ _ _ _ _ _ _ _ _ aL h8];exact zEB
    by_cases h9:k=9
    ·rw[eN _ _ _ _ _ _ _ _ _ _ _ _ aL h9];exact zEB
    by_cases h6:k=6
    ·rw[eK _ _ _ _ _ _ _ _ _ _ _ _ aL h6];exact zEB
    by_cases h5:k=5
    ·rw[eJ _ _ _ _ _ _ _ _ _ _ _ _ aL h5];exact⟨a1,bR _ _ _ _ _ _ _ Zo (Bm _ a2)⟩
    cases hs:jS kids with
    |true=>
     rw[yJ _ _ _ _ _ _ _ _ _ _ _ _ aL ⟨h1,h2,h3,h5,h6,h7,h8,h9⟩ hs];have ht:Nd.aq kids.tail<=N:=by
      exact zCP
     obtain⟨k1,k2⟩:=au kids.tail ht (fun y hy=>hi.cq y (List.mem_of_mem_tail hy)) st env u h;exact⟨k1,bR _ _ _ _ _ _ _ Zo k2⟩
    |false=>
     rw[eI _ _ _ _ _ _ _ _ _ _ _ _ aL ⟨h1,h2,h3,h5,h6,h7,h8,h9⟩ hs];exact zEB
  ·rw[dw];obtain⟨f1,f2,f3,f4⟩:=jZ u true false p args 0 st env;obtain⟨f5,f6,f7,f8⟩:=jZ u false false p ab 0 (kP u true false p args 0 st env).1 (kP u true false p args 0 st env).2;obtain⟨d5,d6⟩:=au kids hk hi.cq _ (kP u false false p ab 0 (kP u true false p args 0 st env).1 (kP u true false p args 0 st env).2).2 u (h.of (f7.trans f3) (f5.trans f1));refine⟨d5,?_⟩;simp only[dR,vF,vR];refine⟨⟨?_,.inl rfl⟩,d6⟩;rw[ve];intro r hr;obtain⟨v,_,rfl⟩:=QM.1 hr;exact rawP v
theorem mw {α:Type}[DecidableEq α]{l:List α}{x:α}(h:x∈l):∃i,i < l.length/\l.findIdx? (fun y=>decide (y=x))=some i:=by
 cases e:l.findIdx? (fun y=>decide (y=x))with
 |none=>
  rw[List.findIdx?_eq_none_iff]at e;have:=e x h;simp at this
 |some i=>
  obtain⟨h1,_⟩:=List.findIdx?_eq_some_iff_getElem.1 e;exact⟨i,h1,rfl⟩
theorem x6 {α:Type}[DecidableEq α]{l:List α}{x:α}(h:x∈l):0<=mW l x/\mW l x < l.length:=by
 obtain⟨i,h1,h2⟩:=mw h;unfold mW;rw[h2];simp only;omega
theorem lp {st:ah}{u v:Nat}{r:Bool}:v∈st.locals u r↔v < st.vars.length/\st.af v=u/\st.bt v < 0/\st.rem v=r:=by
 unfold ah.locals;rw[QK,QO];simp only[vF,decide_eq_true_eq,and_assoc]
def ah.frame(st:ah)(u:Nat):Int:=st.args.getD u 0+(st.copied u).length+(st.locals u false).length+(if 0 < (st.locals u true).length then 1 else 0)
theorem Em {st:ah}{u:Nat}{t:Nat×Int}(hn:t.1≠u)(ht:t∈st.copied u):0<=st.place u t/\st.place u t < st.frame u:=by
 obtain⟨i,h1,h2⟩:=mw ht;unfold ah.place ah.frame;rw[if_neg hn,h2];simp only;split <;> omega
theorem yV {st:ah}{u:Nat}{t:Nat×Int}(ht:(t.1=u/\t.2 < st.args.getD u 0/\(t.2 < 0->0 < (st.locals u true).length))∨(t.1≠u/\t∈st.copied u)):0<=st.place u t/\st.place u t < st.frame u:=by
 rcases ht with⟨h1,h2,h3⟩|⟨h1,h2⟩
 ·unfold ah.place ah.frame;rw[if_pos h1];by_cases c:0<=t.2
  ·rw[if_pos c];split <;> omega
  ·rw[if_neg c,if_pos (h3 Zo)];omega
 ·exact Em h1 h2
theorem Ph.known {st:ah}(h:Ph st){i v:Nat}(hv:V.me st i v=true):0<=(st.known i v).index/\(st.known i v).index < st.frame i/\0<=(st.known i v).slot/\((st.known i v).kind=5∨(st.known i v).kind=6)/\(st.known i v).name=e0:=by
 obtain⟨h1,h2⟩:=h.me hv;obtain⟨k1,k2,k3⟩:=h.wf.var h1;unfold ah.known;by_cases c:0<=st.bt v
 ·rw[if_pos c];have:=yV (st:=st) (u:=i) (t:=(st.af v,st.bt v)) (by
   by_cases e:st.af v=i
   ·exact .inl ⟨e,by rw[<- e];exact k3,fun c2=>by simp only at c2;omega⟩
   ·rcases h2 with h2|h2
    ·exact absurd h2 e
    ·exact .inr ⟨e,h2.1⟩)
  exact⟨this.1,this.2,Zs,.inl rfl,rfl⟩
 rw[if_neg c];cases hr:st.rem v with
 |true=>
  simp only[if_true];have hm:v∈st.locals (st.af v) true:=lp.2 ⟨h1,rfl,Zo,hr⟩;have e1:st.bt v=-1:=by omega
  have:=yV (st:=st) (u:=i) (t:=(st.af v,-1)) (by
   by_cases e:st.af v=i
   ·exact .inl ⟨e,by simp only;omega,fun _=>by rw[<- e];exact List.length_pos_of_mem hm⟩
   ·rcases h2 with h2|h2
    ·exact absurd h2 e
    ·rw[e1]at h2;exact .inr ⟨e,h2.1⟩)
  exact⟨this.1,this.2,(x6 hm).1,.inr trivial,trivial⟩
 |false=>
  simp only[vL,if_false];have hu:st.af v=i:=by
   rcases h2 with h2|h2
   ·exact h2
   ·have:=h2.2 Zo;rw[hr]at this;cases this
  have hm:v∈st.locals i false:=lp.2 ⟨h1,hu,Zo,hr⟩;have:=x6 hm;unfold ah.frame;refine⟨Zo,?_,Zs,Zs,trivial⟩;split <;> omega
def KM(n:Int)(r:zY):Bool:=!(decide (r.index < 0)||decide (r.slot < 0)||(decide (r.kind=5∨r.kind=6)&&decide (n<=r.index))||(decide (r.kind=8) !=decide (r.name≠e0)))
mutual
def Rf(n m:Int):PN->Bool
 |.mk k _ _ rs un _ kids=>rs.all (KM n)&&!(decide (k=8)&&(decide (un < 1)||decide (m<=un)))&&yd n m kids
def yd(n m:Int):List PN->Bool
 |[]=>true
 |x::r=>Rf n m x&&yd n m r
end
theorem Ph.fix {st:ah}(h:Ph st){i:Nat}{r:zY}(h1:Ab r=true)(h2:(!decide (r.kind=99)||V.me st i r.index.toNat)=true):KM (st.frame i) (st.fix i r)=true:=by
 unfold Ab at h1;simp only[vF,decide_eq_true_eq]at h1;obtain⟨⟨⟨h3,h4⟩,h5⟩,h6⟩:=h1;unfold ah.fix;by_cases c:r.kind=99
 ·rw[if_pos c];rw[Zt c]at h2;simp only[Bool.not_true,vM]at h2;obtain⟨k1,k2,k3,k4,k5⟩:=h.known h2;unfold KM;simp only[vN,vQ,vE,decide_eq_false_iff_not];refine⟨⟨⟨Zo,Zo⟩,.inr Zo⟩,?_⟩;rw[k5,Zf (show ¬(e0≠e0)from fun e=>e rfl),Zf (show ¬(st.known i r.index.toNat).kind=8 by omega)];rfl
 ·rw[if_neg c];unfold KM;simp only[vN,vQ,vE,decide_eq_false_iff_not];refine⟨⟨⟨Zo,Zo⟩,.inl Zo⟩,?_⟩;rw[decide_eq_decide.2 h6];cases decide (r.name≠e0) <;> rfl
mutual
theorem Ph.lies {st:ah}(h:Ph st){i:Nat}:∀x:PN,dR st.outer.length x=true->cJ (V.me st i) x=true->Rf (st.frame i) st.outer.length (gN st i x)=true
 |.mk k s l rs u b kids,h1,h2=>by
  simp only[dR,cJ,vF,vR,ve,decide_eq_true_eq]at h1 h2;simp only[gN,Rf,vF];refine⟨⟨?_,?_⟩,Ph.Rg h kids h1.2 h2.2⟩
  ·rw[ve];intro r hr;obtain⟨z,hz,rfl⟩:=QM.1 hr;exact h.fix (h1.1.1 z hz) (by rw[vR];exact h2.1 z hz)
  ·rcases h1.1.2 with e|e
   ·have:¬k=8:=by simpa using e
    rw[Zf this];rfl
   ·rw[Zf (show ¬u < 1 by omega),Zf (show ¬(st.outer.length:Int)<=u by omega)];simp
theorem Ph.Rg {st:ah}(h:Ph st){i:Nat}:∀l:List PN,wH st.outer.length l=true->w9 (V.me st i) l=true->yd (st.frame i) st.outer.length (fw st i l)=true
 |[],_,_=>rfl
 |x::r,h1,h2=>by
  simp only[wH,w9,vF]at h1 h2;simp only[fw,yd,vF];exact⟨Ph.lies h x h1.1 h2.1,Ph.Rg h r h1.2 h2.2⟩
end
theorem nB(st:ah)(u:Nat):(st.aG u).frame=st.frame u:=by
 unfold wY.frame ah.aG ah.frame;simp only[Q5]
 congr 1
 by_cases c:0 < (st.locals u true).length
 ·rw[if_pos c,if_pos Zo]
 ·rw[if_neg c,if_neg Zo]
structure N6 (l:List wY)(i:Nat)(x:wY):Prop where
 args:0<=x.args
 locals:0<=x.locals
 outer:0 < i->0<=x.outer/\x.outer < i
 dk:∀r∈x.copied,r.kind=5/\0<=r.index/\∃(o:Nat) (y:wY),x.outer=(o:Int)/\l[o]? =some y/\r.index < y.frame
 body:yd x.frame l.length x.body=true
theorem Ph.unit {st:ah}(h:Ph st)(hp:Pp st){i:Nat}(hi:i < st.outer.length):N6 ((List.range st.outer.length).map st.aG) i (st.aG i):=by
 have hb:st.ai[i]? =some (st.ai.getD i []):=by
  rw[Vh,Zg (by rw[h.wf.bl];exact hi)];rfl
 have Pk:0 < i->0<=st.outer.getD i (-1):=fun h0=>by
  have e:st.outer[i]? =some st.outer[i]:=Zg hi;rw[Vh,e];exact hp.ro i _ e h0
 refine⟨by show(0:Int)<=(st.args.getD i 0:Nat);omega,by show(0:Int)<=((st.locals i false).length:Nat);omega,fun h0=>⟨Pk h0,h.wf.ef i⟩,fun r hr=>?_,?_⟩
 ·obtain⟨t,ht,rfl⟩:=QM.1 hr;obtain⟨k1,k2,k3,k4,k5,k6⟩:=h.nH hi ht;have mP:=h.wf.ef i;have oC:=yV (st:=st) (u:=(st.outer.getD i (-1)).toNat) (t:=t) (by
   by_cases e:t.1=(st.outer.getD i (-1)).toNat
   ·refine .inl ⟨e,by rw[<- e];exact k6,fun c=>by rw[<- e];exact h.HP ht c⟩
   ·rcases k2 with k2|k2
    ·exact absurd k2 e
    ·exact .inr ⟨e,k2⟩)
  refine⟨rfl,oC.1,(st.outer.getD i (-1)).toNat,st.aG (st.outer.getD i (-1)).toNat,?_,?_,?_⟩
  ·show st.outer.getD i (-1)=_;omega
  ·rw[Vu,List.getElem?_range Zo];rfl
  ·rw[nB];exact oC.2
 ·rw[nB];have:=h.Rg (i:=i) (st.ai.getD i []) (hp.bd _ (Zv hb)) (h.bd i _ hb);rw[Q5,List.length_range];exact this
structure Ds (st:ah)(n:Nat)(args:Nat):Prop where
 ph:Ph st
 first:st.outer[0]? =some (-1)/\st.args[0]? =some args
 bw:Bw st n
 less:st.vars.length<=n/\st.uses.length<=n/\st.outer.length<=n
def iU(args ab:List ByteArray)(kids:List Nd):Nat:=iV args ab (jM kids)
theorem N9(F G:List ByteArray):∀(l:List Nd) st env u,Ph st->u < st.outer.length->lN st env u->Ph (kT F G l st env u).2/\w9 (me (kT F G l st env u).2 u) (kT F G l st env u).1=true:=by
 intro l
 induction l with
 |nil=>intro st env u h hu he;rw[kT];exact⟨h,rfl⟩
 |cons x r ih=>
  intro st env u h hu he;rw[je];have g1:=(wd F G _ x (Qn _) st env u).1;obtain⟨h1,h2⟩:=(XF F G _ x (Qn _) st env u h hu he).1;obtain⟨h3,h4⟩:=ih _ env u h1 (Qq hu g1.outer.length_le) (he.gr g1 h.wf h1.wf hu);exact zDT
theorem δ(F G:List ByteArray)(M:Nat):∀(l:List Nd),jM l<=M->∀st env u,Bw st M->Bw (kT F G l st env u).2 M/\PN.ws (kT F G l st env u).1<=2*jM l:=by
 intro l
 induction l with
 |nil=>intro _ st env u h;rw[kT];exact⟨h,Qn _⟩
 |cons x r ih=>
  intro hM st env u h;simp only[jM]at hM;rw[je];obtain⟨h1,h2⟩:=(w_part F G M _ x (Qn _) Zo st env u h).1;obtain⟨h3,h4⟩:=ih Zo _ env u h1;refine⟨h3,?_⟩;simp only[PN.ws,jM];omega
theorem Oa(F G:List ByteArray):∀(l:List Nd) st env u,zl st (kT F G l st env u).2 (jM l):=by
 intro l
 induction l with
 |nil=>intro st env u;rw[kT];exact zl.refl st
 |cons x r ih=>
  intro st env u;rw[je];exact(nM F G _ x (Qn _) st env u).1.trans (ih _ env u)
theorem ε(F G:List ByteArray):∀(l:List Nd),(∀y∈l,kN y≠none)->∀st env u,Pp st->Pp (kT F G l st env u).2/\wH (kT F G l st env u).2.outer.length (kT F G l st env u).1=true:=by
 intro l
 induction l with
 |nil=>intro _ st env u h;rw[kT];exact⟨h,rfl⟩
 |cons x r ih=>
  intro hd st env u h;rw[je];obtain⟨h1,h2⟩:=(XH F G _ x (Qn _) (hd x Zs) st env u h).1;obtain⟨h3,h4⟩:=ih (fun y hy=>hd y B9) _ env u h1;exact zE2
theorem ph0:Ph mg:=⟨⟨rfl,rfl,fun i o h=>by simp[mg]at h,fun v x h=>by simp[mg]at h,fun q h=>by simp[mg]at h⟩,fun q h=>by simp[mg]at h,fun i l h=>by simp[mg]at h⟩
theorem KY(F G args ab:List ByteArray)(kids:List Nd):Ds (dU F G args ab kids) (iU args ab kids) args.length:=by
 unfold dU;rw[wC];have hU:Ph (mg.aF (-1) args.length):=ph0.aF ⟨Zo,Zd⟩;obtain⟨d1,d2⟩:=lA 0 true true 0 args 0 (mg.aF (-1) args.length) [] hU (Nat.zero_lt_one) (fun _=>by show 0+args.length<=args.length;omega) (fun v hv=>by cases hv);obtain⟨f1,f2,f3,f4⟩:=jZ 0 true true 0 args 0 (mg.aF (-1) args.length) [];obtain⟨d3,d4⟩:=lA 0 false true 0 ab 0 _ _ d1 (by rw[f1];exact Nat.zero_lt_one) (fun e=>by cases e) d2;obtain⟨f5,f6,f7,f8⟩:=jZ 0 false true 0 ab 0 (kP 0 true true 0 args 0 (mg.aF (-1) args.length) []).1 (kP 0 true true 0 args 0 (mg.aF (-1) args.length) []).2;obtain⟨D,hD⟩:∃D,D=aW args ab 0 mg [] (-1):=⟨_,rfl⟩;have Ks:Ph D.1:=by rw[hD];exact d3
 have Kt:lN D.1 D.2 0:=by rw[hD];exact d4
 have hDo:D.1.outer=[-1]:=by rw[hD];exact f5.trans f1
 have hDa:D.1.args=[args.length]:=by rw[hD];exact f6.trans f2
 have hDb:D.1.ai=[[]]:=by rw[hD];exact f7.trans f3
 have hDl:zl mg D.1 (1+(args.length+ab.length)):=by
  rw[hD];exact(sI mg (-1) args.length).trans ((wh _ _ _ _ _ _ _ _).trans (wh _ _ _ _ _ _ _ _))
 rw[<- hD];show Ds ({(kT F G kids D.1 D.2 0).2 with ai:=(kT F G kids D.1 D.2 0).2.ai.set 0 (kT F G kids D.1 D.2 0).1}) _ _;obtain⟨h1,h2⟩:=N9 F G kids D.1 D.2 0 Ks (by rw[hDo];decide) Kt;have g:=wV F G kids D.1 D.2 0;obtain⟨b1,b2⟩:=δ F G (iU args ab kids) kids (by unfold iU iV;omega) D.1 D.2 0 ⟨fun l hl=>by
  rw[hDb,QR]at hl;rw[hl];exact Qv _,fun a ha=>by
  rw[hDa,QR]at ha;rw[ha];unfold iU iV;omega⟩
 have hL:=hDl.trans (Oa F G kids D.1 D.2 0);refine⟨h1.body 0 h2,⟨?_,?_⟩,⟨fun l hl=>?_,b1.ar⟩,?_⟩
 ·obtain⟨t,ht⟩:=g.outer;show(kT F G kids D.1 D.2 0).2.outer[0]? =_;rw[<- ht,hDo];rfl
 ·obtain⟨t,ht⟩:=g.args;show(kT F G kids D.1 D.2 0).2.args[0]? =_;rw[<- ht,hDa];rfl
 ·rcases List.mem_or_eq_of_mem_set hl with hl|rfl
  ·exact b1.bd l hl
  ·unfold iU iV;omega
 ·obtain⟨l1,l2,l3⟩:=hL;have e1:mg.vars.length=0:=rfl;have e2:mg.uses.length=0:=rfl;have e3:mg.outer.length=0:=rfl;unfold iU iV;exact⟨by show(kT F G kids D.1 D.2 0).2.vars.length<=_;omega,by show(kT F G kids D.1 D.2 0).2.uses.length<=_;omega,by show(kT F G kids D.1 D.2 0).2.outer.length<=_;omega⟩
theorem XQ(F G args ab:List ByteArray)(kids:List Nd)(hk:∀y∈kids,kN y≠none):Pp (dU F G args ab kids):=by
 unfold dU;rw[wC];obtain⟨f1,f2,f3,f4⟩:=jZ 0 true true 0 args 0 (mg.aF (-1) args.length) [];obtain⟨f5,f6,f7,f8⟩:=jZ 0 false true 0 ab 0 (kP 0 true true 0 args 0 (mg.aF (-1) args.length) []).1 (kP 0 true true 0 args 0 (mg.aF (-1) args.length) []).2;obtain⟨D,hD⟩:∃D,D=aW args ab 0 mg [] (-1):=⟨_,rfl⟩;have hDo:D.1.outer=[-1]:=by rw[hD];exact f5.trans f1
 have hDb:D.1.ai=[[]]:=by rw[hD];exact f7.trans f3
 rw[<- hD];show Pp ({(kT F G kids D.1 D.2 0).2 with ai:=(kT F G kids D.1 D.2 0).2.ai.set 0 (kT F G kids D.1 D.2 0).1});obtain⟨h1,h2⟩:=ε F G kids hk D.1 D.2 0 ⟨by rw[hDo];decide,fun l hl=>by
  rw[hDb,QR]at hl;rw[hl];rfl,fun i o hi hp=>by
  rw[hDo]at hi;have:=(Vt.1 hi).1;simp only[Q8]at this;omega⟩
 refine⟨h1.pos,fun l hl=>?_,h1.ro⟩;rcases List.mem_or_eq_of_mem_set hl with hl|rfl
 ·exact h1.bd l hl
 ·exact h2
theorem Ds.UO {st:ah}{n a:Nat}(h:Ds st n a):st.copied 0=[]:=by
 have h1:=h.first.1
 have hl:=(Vt.1 h1).1;have:st.outer.getD 0 (-1)=-1:=by rw[Vh,h1];rfl
 unfold ah.copied;rw[h.ph.wf.line Zo,this];rfl
end Go.V

/-
  Frames: what is copied into a unit, and where a variable is.
-/
import Derived.Test.YtijnokbblmbpkaaGreatDoorS17
import Derived.Test.YtijnokbblmbpkaaGreatDoorS6
set_option linter.all false
namespace Go.V
open Go
theorem iJ {st:ah}{o:Nat}{t:Nat×Int}:t∈st.things o↔t.1=o/\-1<=t.2/\t.2 < st.args.getD o 0:=by
 unfold ah.things;rw[QH];constructor
 ·rintro⟨i,hi,rfl⟩
  have:=QJ.1 hi;exact⟨rfl,by simp only;omega,by simp only;omega⟩
 ·rintro⟨h1,h2,h3⟩
  obtain⟨a,b⟩:=t;simp only at h1 h2 h3;subst h1;exact⟨(b+1).toNat,QJ.2 Zo,by rw[Qz];exact⟨rfl,Zo⟩⟩
theorem iI {st:ah}{u:Nat}{t:Nat×Int}:t∈st.copied u↔t.1∈(st.line u).drop 1/\t∈st.things t.1/\st.bg u t=true:=by
 unfold ah.copied;rw[QG];constructor
 ·rintro⟨o,h1,h2⟩
  obtain⟨h3,h4⟩:=QF.1 h2;obtain rfl:=(iJ.1 h3).1;exact⟨by simpa using h1,h3,h4⟩
 ·rintro⟨h1,h2,h3⟩
  exact⟨t.1,by simpa using h1,QF.2 ⟨h2,h3⟩⟩
theorem nJ {st:ah}{v:Nat}{x:fF}(h:st.vars[v]? =some x):st.af v=x.unit:=by unfold ah.af;rw[h];rfl
theorem yb {st:ah}{v:Nat}{x:fF}(h:st.vars[v]? =some x):st.bC v=x.own:=by unfold ah.bC;rw[h];rfl
theorem Wf.var {st:ah}(h:Wf st){v:Nat}(hv:v < st.vars.length):st.af v < st.outer.length/\-1<=st.bC v/\st.bC v < st.args.getD (st.af v) 0:=by
 have e:st.vars[v]? =some st.vars[v]:=Zg hv;rw[nJ e,yb e];exact h.vu v _ e
theorem Wf.W4 {st:ah}(h:Wf st){u v:Nat}(ho:0<=st.outer.getD u (-1))(hn:(st.outer.getD u (-1)).toNat≠st.af v):∀(w:Nat),w < st.outer.length->u∈st.way w v->(st.outer.getD u (-1)).toNat∈st.way w v:=by
 intro w
 induction w using Nat.strongRecOn with
 |_ w ih=>
  intro hw hm;by_cases e:w=st.af v
  ·rw[h.qW Zo e]at hm;cases hm
  ·have hl:=h.ff w;rw[h.qX Zo e]at hm|-;rcases QC.1 hm with rfl|hm
   ·rw[if_neg Zo,h.qX Zo hn];exact QD _ (QE ..)
   ·by_cases c:st.outer.getD w (-1) < 0
    ·rw[if_pos c]at hm;cases hm
    ·rw[if_neg c]at hm|-;exact QD _ (ih _ Zo Zo hm)
section
variable {st:ah} (h:Ph st)
include h
theorem Ph.AY {u o:Nat}(hu:u < st.outer.length)(ho:o∈st.line u)(hn:o≠u):o∈(st.line u).drop 1:=by
 rw[h.wf.line Zo]at ho|-;rcases QC.1 ho with k|k
 ·exact absurd k hn
 ·simpa using k
theorem Ph.I9 {u v:Nat}(hq:(u,v)∈st.uses)(hn:st.af v≠u):(st.af v,st.bC v)∈st.copied u/\(st.bC v < 0->st.rem v=true):=by
 obtain⟨h1,h2⟩:=h.wf.uu _ hq;obtain⟨k1,k2,k3⟩:=h.wf.var h2;have hl:=h.us _ hq;refine⟨iI.2 ⟨h.AY h1 hl hn,iJ.2 ⟨rfl,k2,k3⟩,?_⟩,fun hneg=>?_⟩
 ·unfold ah.bg;rw[ve];refine⟨_,hq,?_⟩;simp only[vF,decide_eq_true_eq,true_and];rw[h.wf.qX (by have:=h1;simp only at this;omega) (fun e=>hn e.symm)];exact QE ..
 ·unfold ah.rem;rw[ve];refine⟨_,hq,?_⟩;simp only[vF,decide_eq_true_eq,true_and];exact⟨hneg,hn⟩
theorem Ph.rH {u:Nat}(hu:u < st.outer.length){t:Nat×Int}(ht:t∈st.copied u):0<=st.outer.getD u (-1)/\(t.1=(st.outer.getD u (-1)).toNat∨t∈st.copied (st.outer.getD u (-1)).toNat)/\t.1 < st.outer.length/\t.1≠u/\-1<=t.2/\t.2 < st.args.getD t.1 0:=by
 obtain⟨h1,h2,h3⟩:=iI.1 ht;obtain⟨_,h4,h5⟩:=iJ.1 h2;have tN:=h.wf.ff u;rw[h.wf.line Zo]at h1;simp only[List.drop_succ_cons,vr]at h1;by_cases c:st.outer.getD u (-1) < 0
 ·rw[if_pos c]at h1;cases h1
 rw[if_neg c]at h1;have hle:=h.wf.uf _ Zo _ h1;refine⟨Zo,?_,Zo,Zo,h4,h5⟩;by_cases e:t.1=(st.outer.getD u (-1)).toNat
 ·exact .inl e
 refine .inr (iI.2 ⟨h.AY Zo h1 e,h2,?_⟩);unfold ah.bg at h3|-;rw[ve]at h3|-;obtain⟨q,hq,k⟩:=h3;refine⟨q,hq,?_⟩;simp only[vF,decide_eq_true_eq]at k|-;refine⟨k.1,h.wf.W4 Zo ?_ q.1 (h.wf.uu q hq).1 k.2⟩;have:=congrArg Prod.fst k.1;simp only at this;rw[this];exact fun e2=>e e2.symm
theorem Ph.R1 {u:Nat}{t:Nat×Int}(ht:t∈st.copied u)(hn:t.2 < 0):0 < (st.locals t.1 true).length:=by
 obtain⟨h1,h2,h3⟩:=iI.1 ht;unfold ah.bg at h3;rw[ve]at h3;obtain⟨q,hq,k⟩:=h3;simp only[vF,decide_eq_true_eq]at k;obtain⟨h5,h6⟩:=h.wf.uu q hq;have e1:st.af q.2=t.1:=congrArg Prod.fst k.1;have e2:st.bC q.2=t.2:=congrArg Prod.snd k.1;have ck:st.af q.2≠q.1:=fun e=>by
  have k2:=k.2;rw[h.wf.qW Zo e.symm]at k2;cases k2
 have hr:st.rem q.2=true:=by
  unfold ah.rem;rw[ve];refine⟨q,hq,?_⟩;simp only[vF,decide_eq_true_eq,true_and];exact⟨Zo,ck⟩
 apply List.length_pos_of_mem (a:=q.2);unfold ah.locals;rw[QF];refine⟨QJ.2 h6,?_⟩;simp only[vF,decide_eq_true_eq];exact⟨⟨e1,Zo⟩,hr⟩
theorem Ph.oT {i v:Nat}(hv:oT st i v=true):v < st.vars.length/\(st.af v=i∨((st.af v,st.bC v)∈st.copied i/\(st.bC v < 0->st.rem v=true))):=by
 unfold V.oT at hv;simp only[vF,vP,decide_eq_true_eq]at hv;obtain⟨h1,h2⟩:=hv;refine⟨h1,?_⟩;by_cases e:st.af v=i
 ·exact .inl e
 ·rcases h2 with h2|h2
  ·exact .inl h2
  ·exact .inr (h.I9 h2 e)
end
theorem pT(st:ah)(i:Nat)(r:Bool):st.locals i r=(st.ab i).filter fun v=>decide (st.rem v=r):=by
 unfold ah.locals ah.ab;rw[List.filter_filter];refine List.filter_congr fun v _=>?_
 rw[Bool.and_comm]
theorem Gy(st:ah)(i:Nat):(st.ab i).Nodup:=List.Pairwise.filter _ QO
theorem EJ {α:Type}[DecidableEq α]{a b:List α}{x:α}(h:x∉a):(a++x::b).findIdx? (fun y=>decide (y=x))=some a.length:=by
 induction a with
 |nil=>simp[V5]
 |cons y a ih=>
  have h1:y≠x:=fun e=>h (by simp[e])
  rw[vj,V5,Zf h1];simp only[vK,if_false];rw[ih (fun e=>h (by simp[e]))];rfl
theorem Oe {α:Type}[DecidableEq α]{a b:List α}{x:α}(h:x∉a):ma (a++x::b) x=a.length:=by
 unfold ma;rw[EJ h]
def ah.bP(st:ah)(v:Nat):Int:=ma (st.locals (st.af v) (st.rem v)) v
theorem J4 {st:ah}{i j v:Nat}(hj:(st.ab i)[j]? =some v):st.bP v=(((st.ab i).take j).filter fun w=>decide (st.rem w=st.rem v)).length:=by
 have hm:v∈st.ab i:=Zv hj;have hu:st.af v=i:=by
  unfold ah.ab at hm;have:=(QF.1 hm).2;simp only[vF,decide_eq_true_eq]at this;exact this.1
 have hl:=(Vm.1 hj).1;have hs:st.ab i=(st.ab i).take j++v::(st.ab i).drop (j+1):=by
  have e:=(Vm.1 hj).2;rw[<- e,<- vp hl,QY]
 have hn:=Gy st i;rw[hs,QM]at hn;unfold ah.bP;rw[hu,pT]
 conv=>lhs;rw[hs]
 rw[vx,vy,if_pos Zs];exact Oe fun hv=>hn.2.2 v (QF.1 hv).1 v Zs rfl
def qU(U:List UC)(j:Nat):Nat:=((U[j]?).map UC.q).getD 0
def zM(U:List UC)(l:List (Nat×Int)):List (Nat×Int):=l.map fun t=>(qU U t.1,t.2)
structure eO (st:ah)(L:Nat)(U:List UC)(V:List ax):Prop where
 wf:Wf st
 ul:U.length=st.outer.length
 vl:V.length=st.vars.length
 inj:(U.map UC.q).Nodup
 ar:∀(i:Nat) u,U[i]? =some u->u.args=st.args.getD i 0/\u.num=i
 ou:∀(i:Nat) u,U[i]? =some u->u.outer=(if st.outer.getD i (-1) < 0 then none else(U[(st.outer.getD i (-1)).toNat]?).map UC.q)
 tm:∀(i:Nat) u,U[i]? =some u->u.ab=(st.ab i).map (fun v=>(V.getD v yP).q)/\jG 1 u.tv u.ab.length (u.ab.map fun b=>kM (some b)) u.ig
 nd:∀(i:Nat) u,U[i]? =some u->∃m:List ((Nat×Int)×Int),gh u.es u.cl m/\(m.map (·.1)).Nodup/\(∀p∈m,(∃(j:Nat) (w:UC),U[j]? =some w/\p.1.1=w.q)/\0 < p.2/\p.2<=st.uses.length)/\
  ∀(j:Nat) (w:UC) (a:Int),U[j]? =some w->((ky (w.q,a) m).isSome=true↔st.bg i (j,a)=true)
 vn:∀(v:Nat) x y,st.vars[v]? =some x->V[v]? =some y->(∃w,U[x.unit]? =some w/\y.unit=w.q)/\y.arg=x.own/\y.remote=st.rem v/\(x.own < 0->x.unit < L->(y.slot:Int)=st.bP v)
 nl:∀(i:Nat) u,U[i]? =some u->L<=i->u.locals=0/\u.aB=0/\u.da=[]/\u.cv=Nz/\u.bZ=[]
 la:∀(i:Nat) u,U[i]? =some u->i < L->u.locals=(st.locals i false).length/\u.aB=(st.locals i true).length/\u.da=zM U (st.copied i)/\jG 2 u.cv u.da.length (u.da.flatMap jT) u.bZ
theorem cA.laid {st:ah}{U:List UC}{V:List ax}(h:cA st U V):eO st 0 U V:=
 ⟨h.wf,h.ul,h.vl,h.inj,fun i u hu=>⟨(h.un i u hu).1,(h.un i u hu).2.2.2.1⟩,h.ou,h.tm,h.nd,fun v x y hx hy=>by
   obtain⟨h1,h2,h3,h4,h5⟩:=h.vn v x y hx hy;exact⟨h1,h2,h4,fun _ hl=>by omega⟩,fun i u hu _=>by
   obtain⟨_,h1,h2,_,h3,h4,h5⟩:=h.un i u hu;exact⟨h1,h2,h3,h4,h5⟩,fun i u hu hl=>by omega⟩
def IW(st:ah)(V:List ax)(l:List Nat):List ax:=V.mapIdx fun v y=>{y with slot:=if v∈l then(st.bP v).toNat else y.slot}
theorem fW {st:ah}{V:List ax}{l:List Nat}{v:Nat}{y:ax}(h:V[v]? =some y):(IW st V l)[v]? =some {y with slot:=if v∈l then(st.bP v).toNat else y.slot}:=by
 unfold IW;rw[List.getElem?_mapIdx,h];rfl
theorem qH(st:ah)(V:List ax)(l:List Nat):(IW st V l).length=V.length:=by unfold IW;simp
theorem WE(st:ah)(V:List ax):IW st V []=V:=by
 apply vw;intro v;cases h:V[v]? with
 |none=>
  rw[Vl]at h|-;rw[qH];exact h
 |some y=>rw[fW h];simp
theorem Gp {st:ah}{V:List ax}{l:List Nat}{v:Nat}{y:ax}(h:(IW st V l)[v]? =some y):∃y0,V[v]? =some y0/\y={y0 with slot:=if v∈l then(st.bP v).toNat else y0.slot}:=by
 cases h0:V[v]? with
 |none=>
  rw[Vl]at h0;have:=(Vm.1 h).1;rw[qH]at this;omega
 |some y0=>
  rw[fW h0]at h;exact⟨y0,rfl,(Qx h).symm⟩
theorem XY(st:ah)(V:List ax)(l:List Nat):(IW st V l).map ax.q=V.map ax.q:=by
 apply vw;intro v;rw[Vn,Vn];cases h:V[v]? with
 |none=>
  have:(IW st V l)[v]? =none:=by
   rw[Vl]at h|-;rw[qH];exact h
  rw[this]
 |some y=>rw[fW h];rfl
theorem WH {st:ah}{V:List ax}{l:List Nat}{v:Nat}{y:ax}(h:V[v]? =some y){y':ax}(hy':(IW st V l)[v]? =some y'):(IW st V l).set v {y' with slot:=(st.bP v).toNat}=IW st V (l++[v]):=by
 have hb:=Gp hy';obtain⟨y0,h0,h1⟩:=hb;rw[h]at h0;obtain rfl:=Qx h0;apply vw;intro w;rw[Vp];by_cases e:v=w
 ·subst e;rw[if_pos rfl,if_pos (Vm.1 hy').1,fW h,h1];have hm:v∈l++[v]:=by simp
  rw[if_pos hm]
 ·rw[if_neg e];cases hw:V[w]? with
  |none=>
   have h2:∀m:List Nat,(IW st V m)[w]? =none:=fun m=>by
    rw[Vl]at hw|-;rw[qH];exact hw
   rw[h2,h2]
  |some z=>
   rw[fW hw,fW hw];have:(w∈l++[v])↔w∈l:=by
    rw[QA,QK];exact⟨fun k=>k.elim id fun k=>absurd k.symm e,.inl⟩
   by_cases c:w∈l
   ·rw[if_pos c,if_pos (this.2 c)]
   ·rw[if_neg c,if_neg fun k=>c (this.1 k)]
def yH(st:ah)(l:List Nat)(r:Bool):Nat:=(l.filter fun w=>decide (st.rem w=r)).length
theorem wk_lay {U:List UC}{V:List ax}{i v:Nat}{u:UC}{y:ax}(hu:U[i]? =some u)(hv:V[v]? =some y):∃R,(WK U V).Perm (kA y.q 4 [.int .i64 y.slot]++(kA u.q 1 [.int .i64 u.locals,.int .i64 u.aB]++R))/\
 ∀(l' n' s':Nat),(WK (U.set i {u with locals:=l',aB:=n'}) (V.set v {y with slot:=s'})).Perm (kA y.q 4 [.int .i64 s']++(kA u.q 1 [.int .i64 l',.int .i64 n']++R)):=by
 obtain⟨RU,h1⟩:=iz UC.atoms hu;obtain⟨RV,h2⟩:=iz ax.atoms hv;have hA:∀(l' n':Nat),({u with locals:=l',aB:=n'}:UC).atoms.Perm (kA u.q 1 [.int .i64 l',.int .i64 n']++(.own u.q 9::(kA u.q 0 [.int .i64 u.args]++(kA u.q 3 [kM u.outer,.int .i64 u.num,u.tv,.map (some u.nb),u.cv,u.body]++(ai u.tv (u.ab.map fun b=>kM (some b)) u.ig++(ai u.cv (u.da.flatMap jT) u.bZ++[.obj u.nb (.map u.es u.cl)])))))):=fun l' n'=>by
  unfold UC.atoms UC.row;have e:kA u.q 0 [.int .i64 u.args,.int .i64 l',.int .i64 n',kM u.outer,.int .i64 u.num,u.tv,.map (some u.nb),u.cv,u.body]=kA u.q 0 [.int .i64 u.args]++(kA u.q 1 [.int .i64 l',.int .i64 n']++kA u.q 3 [kM u.outer,.int .i64 u.num,u.tv,.map (some u.nb),u.cv,u.body]):=rfl;simp only;rw[e,vf,vf];exact QR (kC.own u.q 9::kA u.q 0 [.int .i64 u.args]) _ _
 have hB:∀s':Nat,({y with slot:=s'}:ax).atoms.Perm (kA y.q 4 [.int .i64 s']++kA y.q 0 [kM (some y.unit),.int .i64 y.arg,.bool y.fixed,.bool y.remote]):=fun s'=>by
  unfold ax.atoms ax.row;have e:kA y.q 0 [kM (some y.unit),.int .i64 y.arg,.bool y.fixed,.bool y.remote,.int .i64 s']=kA y.q 0 [kM (some y.unit),.int .i64 y.arg,.bool y.fixed,.bool y.remote]++kA y.q 4 [.int .i64 s']:=rfl;simp only;rw[e];exact QP
 obtain⟨XU,hXU⟩:∃X,X=(kC.own u.q 9::(kA u.q 0 [.int .i64 u.args]++(kA u.q 3 [kM u.outer,.int .i64 u.num,u.tv,.map (some u.nb),u.cv,u.body]++(ai u.tv (u.ab.map fun b=>kM (some b)) u.ig++(ai u.cv (u.da.flatMap jT) u.bZ++[.obj u.nb (.map u.es u.cl)]))))):=⟨_,rfl⟩;obtain⟨XV,hXV⟩:∃X,X=kA y.q 0 [kM (some y.unit),.int .i64 y.arg,.bool y.fixed,.bool y.remote]:=⟨_,rfl⟩;rw[<- hXU]at hA;rw[<- hXV]at hB;have key:∀(l' n' s':Nat),(WK (U.set i {u with locals:=l',aB:=n'}) (V.set v {y with slot:=s'})).Perm (kA y.q 4 [.int .i64 s']++(kA u.q 1 [.int .i64 l',.int .i64 n']++(XU++(RU++(XV++RV))))):=fun l' n' s'=>by
  unfold WK;refine List.Perm.trans (List.Perm.append ((h1 _).trans (vW _ (hA l' n'))) ((h2 _).trans (vW _ (hB s')))) ?_;generalize kA y.q 4 [.int .i64 s']=A;generalize kA u.q 1 [.int .i64 l',.int .i64 n']=B;simp only[vf];refine List.Perm.trans (l₂:=(B++(XU++RU))++(A++(XV++RV))) (by simp only[vf];exact vX _) ?_;refine QR _ _ _|>.trans ?_
  refine vV _ ?_;simp only[vf];exact vX _
 refine⟨_,?_,key⟩;have:=key u.locals u.aB y.slot;have e1:U.set i {u with locals:=u.locals,aB:=u.aB}=U:=zE hu;have e2:V.set v {y with slot:=y.slot}=V:=zE hv
 rwa [e1,e2]at this
theorem eO.step {st:ah}{U:List UC}{V:List ax}{i:Nat}{u:UC}(h:eO st i U V)(hu:U[i]? =some u){cv:Value}{bZ:List Value}(hc:jG 2 cv (zM U (st.copied i)).length ((zM U (st.copied i)).flatMap jT) bZ):
 eO st (i+1) (U.set i {u with locals:=(st.locals i false).length,aB:=(st.locals i true).length,da:=zM U (st.copied i),cv:=cv,bZ:=bZ}) (IW st V (st.ab i)):=by
 obtain⟨u',og⟩:∃u':UC,u'={u with locals:=(st.locals i false).length,aB:=(st.locals i true).length,da:=zM U (st.copied i),cv:=cv,bZ:=bZ}:=⟨_,rfl⟩;rw[<- og];have G4:(U.set i u').map UC.q=U.map UC.q:=zS hu (by rw[og]);have K0:=CN G4;have TZ:∀l,zM (U.set i u') l=zM U l:=fun l=>Q6 fun t _=>by unfold qU;rw[K0]
 have aA:∀{j:Nat} {w:UC},(U.set i u')[j]? =some w->(j=i/\w=u')∨(j≠i/\U[j]? =some w):=fun hj=>iR hu hj
 have hfw:∀{j:Nat} {w:UC},(U.set i u')[j]? =some w->∃w0,U[j]? =some w0/\w.q=w0.q/\w.args=w0.args/\w.num=w0.num/\w.outer=w0.outer/\w.ab=w0.ab/\w.tv=w0.tv/\w.ig=w0.ig/\w.es=w0.es/\w.cl=w0.cl:=fun {j w} hj=>by
  rcases aA hj with⟨rfl,rfl⟩|⟨_,h2⟩
  ·exact⟨u,hu,by rw[og],by rw[og],by rw[og],by rw[og],by rw[og],by rw[og],by rw[og],by rw[og],by rw[og]⟩
  ·exact⟨w,h2,rfl,rfl,rfl,rfl,rfl,rfl,rfl,rfl,rfl⟩
 have dY:∀{j:Nat} {w:UC},U[j]? =some w->∃w',(U.set i u')[j]? =some w'/\w'.q=w.q:=fun {j w} hj=>by
  have:=K0 j;rw[hj]at this;cases e:(U.set i u')[j]? with
  |none=>rw[e]at this;cases this
  |some w'=>rw[e]at this;exact⟨w',rfl,Qx this⟩
 refine⟨h.wf,by rw[Q1];exact h.ul,by rw[qH];exact h.vl,by rw[G4];exact h.inj,fun j w hj=>?_,fun j w hj=>?_,fun j w hj=>?_,fun j w hj=>?_,fun v x y hx hy=>?_,fun j w hj hl=>?_,fun j w hj hl=>?_⟩
 ·obtain⟨w0,h1,_,h3,h4,_⟩:=hfw hj;rw[h3,h4];exact h.ar j w0 h1
 ·obtain⟨w0,h1,_,_,_,h5,_⟩:=hfw hj;rw[h5,K0];exact h.ou j w0 h1
 ·obtain⟨w0,h1,_,_,_,_,h6,h7,h8,_⟩:=hfw hj;rw[h6,h7,h8];refine⟨(h.tm j w0 h1).1.trans (Q6 fun v hv=>?_),(h.tm j w0 h1).2⟩;have hl:=yL hv;have e:=congrArg (fun l=>l[v]?) (XY st V (st.ab i));simp only[Vn]at e;obtain⟨y,hy⟩:∃y,V[v]? =some y:=⟨_,Zg (by rw[h.vl];exact hl)⟩;rw[Vb,Vb,hy,fW hy];rfl
 ·obtain⟨w0,h1,_,_,_,_,_,_,_,h9,xn⟩:=hfw hj;rw[h9,xn];obtain⟨m,k1,k2,k3,k4⟩:=h.nd j w0 h1;refine⟨m,k1,k2,fun p hp=>?_,fun a z b ha=>?_⟩
  ·exact zDT
  ·obtain⟨z',k8,k9,_⟩:=hfw ha;rw[k9];exact k4 a z' b k8
 ·obtain⟨y0,k1,k2⟩:=Gp hy;obtain⟨⟨z,h1,h2⟩,h3,h4,h5⟩:=h.vn v x y0 hx k1;obtain⟨z',k8,k9⟩:=dY h1;rw[k2];refine⟨⟨z',k8,h2.trans k9.symm⟩,h3,h4,fun ho hl=>?_⟩;simp only;have C6:=(Vm.1 hx).1;by_cases e:x.unit=i
  ·have hm:v∈st.ab i:=by
    unfold ah.ab;rw[QF];refine⟨QJ.2 C6,?_⟩;simp only[vF,decide_eq_true_eq];rw[nJ hx,yb hx];exact⟨e,ho⟩
   rw[if_pos hm];obtain⟨j,hj⟩:=Vo hm;have:=J4 hj;omega
  ·have hm:v∉st.ab i:=fun hm=>e (by
    unfold ah.ab at hm;have:=(QF.1 hm).2;simp only[vF,decide_eq_true_eq]at this;rw[nJ hx]at this;exact this.1)
   rw[if_neg hm];exact h5 ho Zo
 ·rcases aA hj with⟨rfl,_⟩|⟨_,h2⟩
  ·omega
  ·exact h.nl j w h2 Zo
 ·rw[TZ];rcases aA hj with⟨rfl,rfl⟩|⟨ck,h2⟩
  ·rw[og];exact⟨rfl,rfl,rfl,hc⟩
  ·exact h.la j w h2 Zo
inductive Jg (T:List kC):PN->List Value->Prop
 |mk {k:Nat} {nm:ByteArray} {lit:Lt} {refs:List zj} {unit:Int} {iU:Bool} {kids:List PN} {lv:List Value} {rv:Value} {a:Option Addr} {c bk o:Nat} {us:Nat->List Value} (hl:zw T lit lv) (hr:w8 T rv refs)
   (ha:0 < kids.length->a=some ⟨bk,o,none⟩) (hm:∀i,i < kids.length->∀y∈kA bk (o+i*11) (us i),y∈T) (hs:∀i x,kids[i]? =some x->Jg T x (us i)):
   Jg T (.mk k nm lit refs unit iU kids) ([cv k,.string nm]++lv++[rv,.int .i64 unit,.bool iU,.slice a kids.length c])
theorem Jg.len {T:List kC}{x:PN}{vs:List Value}(h:Jg T x vs):vs.length=11:=by
 cases h with
 |mk hl=>simp[hl.len]
theorem Jg.more {T T':List kC}(hs:∀x∈T,x∈T'){x:PN}{vs:List Value}(h:Jg T x vs):Jg T' x vs:=by
 induction h with
 |mk hl hr ha hm hk ih=>exact .mk (hl.more hs) (hr.more hs) ha (fun i hi y hy=>hs _ (hm i hi y hy)) ih
structure eN (T:List kC)(l:List PN)(rows:List (List Value)):Prop where
 len:rows.length=l.length
 w:∀r∈rows,r.length=11
 rd:∀(i:Nat) x r,l[i]? =some x->rows[i]? =some r->Jg T x r
theorem eN.nil(T:List kC):eN T [] []:=⟨rfl,Zs,fun i x r h=>by simp at h⟩
theorem eN.more {T T':List kC}{l:List PN}{rows:List (List Value)}(h:eN T l rows)(hs:∀x∈T,x∈T'):eN T' l rows:=⟨h.len,h.w,fun i x r hx hr=>(h.rd i x r hx hr).more hs⟩
theorem eN.snoc {T:List kC}{l:List PN}{rows:List (List Value)}{x:PN}{r:List Value}(h:eN T l rows)(hx:Jg T x r):eN T (l++[x]) (rows++[r]):=by
 refine⟨by simp[h.len],fun r' G7=>?_,fun i y s hy hs=>?_⟩
 ·exact zEJ
 ·exact zAO
def yY(T:List kC)(v:Value)(l:List PN):Prop:=∃(a:Option Addr) (c bk o:Nat) (us:Nat->List Value),v=.slice a l.length c/\(0 < l.length->a=some ⟨bk,o,none⟩)/\(∀i,i < l.length->∀y∈kA bk (o+i*11) (us i),y∈T)/\∀i x,l[i]? =some x->Jg T x (us i)
theorem yY.nil(T:List kC):yY T Nz []:=⟨none,0,0,0,fun _=>[],rfl,fun h=>absurd h Zs,fun i hi=>absurd hi Zs,fun i x h=>by simp at h⟩
theorem yY.more {T T':List kC}{v:Value}{l:List PN}(h:yY T v l)(hs:∀x∈T,x∈T'):yY T' v l:=by
 obtain⟨a,c,bk,o,us,h1,h2,h3,h4⟩:=h;exact⟨a,c,bk,o,us,h1,h2,fun i hi y hy=>hs _ (h3 i hi y hy),fun i x hx=>(h4 i x hx).more hs⟩
theorem JZ {B:List kC}{l:List PN}{sv:Value}{rows:List (List Value)}{sp:List Value}(bF:jG 11 sv l.length rows.flatten sp)(hr:eN B l rows):yY (ai sv rows.flatten sp++B) sv l:=by
 have aA:∀i,i < l.length->rows[i]? =some (rows.getD i []):=fun i hi=>by
  exact zDY
 have iC:∀y∈B,y∈ai sv rows.flatten sp++B:=fun y hy=>QB _ hy
 generalize hm:l.length=m at bF;generalize Hb:rows.flatten=xs at bF|-;cases bF with
 |@mk bk o _ c _ _ h1 h2 h3=>
  rw[<- hm];subst Hb;refine⟨_,c,bk,o,fun i=>rows.getD i [],rfl,fun _=>rfl,fun i hi y hy=>?_,fun i x hx=>?_⟩
  ·exact zD6
  ·have hi:=(Vm.1 hx).1;exact(hr.rd i x _ hx (aA i hi)).more iC
 |nil=>
  have h0:l=[]:=vt hm;subst h0;exact yY.nil _
theorem p_made {T:List kC}{k:Nat}{nm:ByteArray}{lit:Lt}{refs:List zj}{unit:Int}{iU:Bool}{kids:List PN}{lv:List Value}{rv sv:Value}(aO:zw T lit lv)(G8:w8 T rv refs)(hk:yY T sv kids):
 Jg T (.mk k nm lit refs unit iU kids) ([cv k,.string nm]++lv++[rv,.int .i64 unit,.bool iU,sv]):=by
 obtain⟨a,c,bk,o,us,rfl,h2,h3,h4⟩:=hk;exact .mk (bk:=bk) (o:=o) (us:=us) aO G8 h2 h3 h4
theorem P6 {T:List kC}{x:PN}{ws:List Value}(h:Jg T x ws):∃(e1:Nat) (e2:Int) (e3:Nat) (e4:ByteArray) (e5:Option Addr) (e7:Nat) (r1:Option Addr) (r3:Nat) (k1:Option Addr) (k3 bk o:Nat) (us:Nat->List Value),
 ws=(rP x.kind x.name e1 e2 e3 e4 e5 x.lit.items.length e7 r1 x.refs.length r3 x.unit x.super k1 x.kids.length k3)/\
 zw T x.lit [.int .u8 e1,.int .i64 e2,.int .u64 e3,.string e4,.slice e5 x.lit.items.length e7]/\w8 T (.slice r1 x.refs.length r3) x.refs/\(0 < x.kids.length->k1=some ⟨bk,o,none⟩)/\(∀i,i < x.kids.length->∀y∈kA bk (o+i*11) (us i),y∈T)/\∀i y,x.kids[i]? =some y->Jg T y (us i):=by
 cases h with
 |@mk k nm lit refs unit iU kids lv rv a c bk o us hl hr ha hm hs=>
  have G7:=hr;obtain⟨r1,r3,rfl,_⟩:=hr;have tM:=hl;cases hl with
  |mk R5 HP rV dS=>exact⟨_,_,_,_,_,_,r1,r3,a,c,bk,o,us,rfl,tM,G7,ha,hm,hs⟩
theorem B9 {B:List kC}{sv:Value}{rs:List zj}{sp:List Value}(bF:jG 4 sv rs.length (rs.flatMap jX) sp):w8 (ai sv (rs.flatMap jX) sp++B) sv rs:=by
 generalize hm:rs.length=m at bF;generalize Hb:rs.flatMap jX=xs at bF|-;cases bF with
 |@mk bk o _ c _ _ h1 h2 h3=>
  rw[<- hm];subst Hb;refine⟨_,c,rfl,fun i r hi=>⟨bk,o,rfl,fun y hy=>?_⟩⟩;refine Zw _ ?_;simp only[ai,j7];refine Zw _ ?_;rw[List.flatMap_def];exact mS (rows:=rs.map jX) (fun r hr=>by obtain⟨z,_,rfl⟩:=QH.1 hr;rfl) (by rw[Vn,hi];rfl) y hy
 |nil=>
  have h0:rs=[]:=vt hm;subst h0;exact w8.nil _
mutual
def PN.w:PN->Nat
 |.mk _ _ _ rs _ _ kids=>1+rs.length+PN.ws kids
def PN.ws:List PN->Nat
 |[]=>0
 |x::r=>PN.w x+PN.ws r
end
theorem PN.X2 {x:PN}:∀{l:List PN},x∈l->PN.w x<=PN.ws l:=by
 intro l
 induction l with
 |nil=>intro h;cases h
 |cons y r ih=>
  intro h;simp only[PN.ws];exact zC8
theorem PN.mN(x:PN):0 < PN.w x:=by cases x;simp only[PN.w];omega
theorem PN.Ou:∀l:List PN,l.length<=PN.ws l:=by
 intro l
 induction l with
 |nil=>exact Qh _
 |cons x r ih=>have:=PN.mN x;simp only[PN.ws,Vu];omega
theorem Mm(b:Bool)(l:List PN):PN.ws (zX b l)=PN.ws l:=by
 have key:∀r:List PN,PN.ws (r.map (PN.yu b))=PN.ws r:=by
  intro r
  induction r with
  |nil=>rfl
  |cons x r ih=>cases x;simp only[Q7,PN.ws,ih];rfl
 cases l with
 |nil=>rfl
 |cons x r=>simp only[zX,PN.ws,key]
structure Bw (st:ah)(M:Nat):Prop where
 bd:∀l∈st.aj,PN.ws l<=2*M
 ar:∀a∈st.args,a<=M
theorem Bw.of {a b:ah}{M:Nat}(h:Bw a M)(e:b.aj=a.aj)(e2:b.args=a.args):Bw b M:=⟨fun l hl=>h.bd l (by rw[<- e];exact hl),by rw[e2];exact h.ar⟩
theorem Gg(F G:List ByteArray)(st:ah)(env:List Nat)(nm:ByteArray)(u:Nat)(p:Int)(put:Bool):(wQ F G st env nm u p put).2.args=st.args:=by
 have hw:∀(e:Nat),(st.wrong e p).args=st.args:=fun e=>by unfold ah.wrong;split <;> rfl
 unfold wQ;exact zDG
theorem oY(F G:List ByteArray)(st:ah)(env:List Nat)(nm:ByteArray)(u:Nat)(p:Int)(put:Bool):(wQ F G st env nm u p put).2.aj=st.aj:=by
 have hw:∀(e:Nat),(st.wrong e p).aj=st.aj:=fun e=>by unfold ah.wrong;split <;> rfl
 unfold wQ;exact zDG
theorem w_part(F G:List ByteArray)(M:Nat):∀(N:Nat) (x:Nd),x.size<=N->pE x<=M->∀st env u,Bw st M->
 (Bw (jH F G x st env u).2 M/\PN.w (jH F G x st env u).1<=2*pE x)/\(Bw (cI F G x st env u).2 M/\PN.w (cI F G x st env u).1+x.args.length<=2*pE x):=by
 intro N
 induction N with
 |zero=>intro x hx;have:=x.size_pos;omega
 |succ N ih=>
  have au:∀l:List Nd,Nd.aw l<=N->jN l<=M->∀st env u,Bw st M->Bw (kV F G l st env u).2 M/\PN.ws (kV F G l st env u).1<=2*jN l:=by
   intro l
   induction l with
   |nil=>intro _ _ st env u h;rw[kV];exact⟨h,Qh _⟩
   |cons x r xI=>
    intro hl hM st env u h;simp only[Nd.aw]at hl;simp only[jN]at hM;rw[wX];obtain⟨h1,h2⟩:=(ih x Zo Zo st env u h).1;obtain⟨h3,h4⟩:=xI Zo Zo _ env u h1;refine⟨h3,?_⟩;simp only[PN.ws,jN];omega
  have pM:∀(s:ByteArray) (l:List Nd),Nd.aw l<=N->jN l<=M->∀i st env u,Bw st M->(∀k y,l[k]? =some y->jP s=5->dU s (i+k)=true->y.args.length=1)->
   Bw (jA F G s l i st env u).2.2 M/\PN.ws (jA F G s l i st env u).1+(jA F G s l i st env u).2.1.length<=2*jN l:=by
   intro s l
   induction l with
   |nil=>intro _ _ i st env u h _;rw[jA];exact⟨h,Qh _⟩
   |cons x r xI=>
    intro hl hM i st env u h ha;simp only[Nd.aw]at hl;simp only[jN]at hM;obtain⟨⟨h1,h2⟩,h3,h4⟩:=ih x Zo Zo st env u h;have dQ:∀k y,r[k]? =some y->jP s=5->dU s (i+1+k)=true->y.args.length=1:=fun k y hy e1 e2=>ha (k+1) y (by simpa using hy) e1 (by rw[show i+(k+1)=i+1+k from by omega];exact e2)
    cases hi:dU s i with
    |true=>
     rw[dM _ _ _ _ _ _ _ _ _ hi];obtain⟨k1,k2⟩:=xI Zo Zo (i+1) _ env u h3 dQ;refine⟨k1,?_⟩;simp only[PN.ws,jN];split
     ·rename_i e5;have:=ha 0 x rfl e5 hi;rw[Vu];omega
     ·omega
    |false=>
     rw[zy _ _ _ _ _ _ _ _ _ hi];obtain⟨k1,k2⟩:=xI Zo Zo (i+1) _ env u h1 dQ;refine⟨k1,?_⟩;simp only[PN.ws,jN];omega
  intro x hx hM st env u h;cases x with
  |mk k s lit args ab kids p=>
  simp only[Nd.size]at hx;simp only[pE,iy]at hM;have hk:Nd.aw kids<=N:=by omega
  have hkM:jN kids<=M:=by omega
  simp only[pE,iy];refine⟨?_,?_⟩
  ·cases aY:iD k s kids with
   |true=>
    rw[eE _ _ _ _ _ _ _ _ _ _ _ _ aY];have hf:ej (jP s) kids=true:=by
     unfold iD at aY;simp only[vF]at aY;exact aY.2
    obtain⟨k1,k2⟩:=pM s kids hk hkM 0 st env u h (fun j y hy e5 hi=>by
     rw[e5]at hf;obtain⟨hl,b,hb,_,sR⟩:=Nr hf;have:j=2:=by
      unfold dU at hi;rw[e5]at hi;simp only[decide_eq_true_eq]at hi;omega
     subst this;rw[hb]at hy;obtain rfl:=Qx hy;exact sR)
    refine⟨k1,?_⟩;simp only[PN.w];omega
   |false=>
    obtain⟨a1,a2⟩:=au kids hk hkM st env u h;by_cases h1:k=1
    ·rw[nj _ _ _ _ _ _ _ _ _ _ _ _ aY h1];exact⟨h,by simp only[PN.w,PN.ws,Q0];omega⟩
    by_cases h2:k=2
    ·rw[nk _ _ _ _ _ _ _ _ _ _ _ _ aY h2];exact⟨h.of (oY _ _ _ _ _ _ _ _) (Gg _ _ _ _ _ _ _ _),by simp only[PN.w,PN.ws,Vu,Q0];omega⟩
    by_cases h3:k=3
    ·rw[np _ _ _ _ _ _ _ _ _ _ _ _ aY h3];obtain⟨k3,k4⟩:=au kids hk hkM (wQ F G st env s u p true).2 env u (h.of (oY _ _ _ _ _ _ _ _) (Gg _ _ _ _ _ _ _ _));exact⟨k3,by simp only[PN.w,Vu,Q0];omega⟩
    by_cases h7:k=7
    ·rw[nw _ _ _ _ _ _ _ _ _ _ _ _ aY h7];refine⟨?_,by simp only[PN.w,PN.ws,Q0];omega⟩;simp only;rw[zc];obtain⟨f1,f2,f3,f4⟩:=jv st.outer.length true true p args 0 (st.aN (u:Int) args.length) env;obtain⟨f5,f6,f7,f8⟩:=jv st.outer.length false true p ab 0 (kQ st.outer.length true true p args 0 (st.aN (u:Int) args.length) env).1 (kQ st.outer.length true true p args 0 (st.aN (u:Int) args.length) env).2;have hB:Bw (bi args ab p st env (u:Int)).1 M:=⟨fun l hl=>by
      have hl:l∈(kQ st.outer.length false true p ab 0 (kQ st.outer.length true true p args 0 (st.aN (u:Int) args.length) env).1 (kQ st.outer.length true true p args 0 (st.aN (u:Int) args.length) env).2).1.aj:=hl;rw[f7,f3]at hl;have hl:l∈st.aj++[[]]:=hl;rcases QA.1 hl with hl|hl
      ·exact h.bd l hl
      ·rw[QK.1 hl];exact Qp _,fun a ha=>by
      have ha:a∈(kQ st.outer.length false true p ab 0 (kQ st.outer.length true true p args 0 (st.aN (u:Int) args.length) env).1 (kQ st.outer.length true true p args 0 (st.aN (u:Int) args.length) env).2).1.args:=ha;rw[f6,f2]at ha;have ha:a∈st.args++[args.length]:=ha;rcases QA.1 ha with ha|ha
      ·exact h.ar a ha
      ·rw[QK.1 ha];omega⟩
     obtain⟨d5,d6⟩:=au kids hk hkM (bi args ab p st env (u:Int)).1 (bi args ab p st env (u:Int)).2 st.outer.length hB;refine⟨fun l hl=>?_,d5.ar⟩;rcases List.mem_or_eq_of_mem_set hl with hl|rfl
     ·exact d5.bd l hl
     ·omega
    by_cases h8:k=8
    ·rw[ny _ _ _ _ _ _ _ _ _ _ _ _ aY h8];exact zDH
    by_cases h9:k=9
    ·rw[nz _ _ _ _ _ _ _ _ _ _ _ _ aY h9];exact zDH
    by_cases h6:k=6
    ·rw[nu _ _ _ _ _ _ _ _ _ _ _ _ aY h6];exact zDH
    by_cases h5:k=5
    ·rw[nt _ _ _ _ _ _ _ _ _ _ _ _ aY h5];exact⟨a1,by simp only[PN.w,Q0,Mm];omega⟩
    cases hs:jW kids with
    |true=>
     rw[gY _ _ _ _ _ _ _ _ _ _ _ _ aY ⟨h1,h2,h3,h5,h6,h7,h8,h9⟩ hs];have ht:Nd.aw kids.tail<=N/\jN kids.tail<=jN kids:=by
      cases kids with
      |nil=>exact⟨hk,Qh _⟩
      |cons x r=>simp only[Nd.aw]at hk;simp only[List.tail_cons,jN];exact⟨Zo,Zo⟩
     obtain⟨k1,k2⟩:=au kids.tail ht.1 Zo st env u h;exact⟨k1,by simp only[PN.w,Q0];omega⟩
    |false=>
     rw[nq _ _ _ _ _ _ _ _ _ _ _ _ aY ⟨h1,h2,h3,h5,h6,h7,h8,h9⟩ hs];exact zDH
  ·rw[iE];obtain⟨f1,f2,f3,f4⟩:=jv u true false p args 0 st env;obtain⟨f5,f6,f7,f8⟩:=jv u false false p ab 0 (kQ u true false p args 0 st env).1 (kQ u true false p args 0 st env).2;obtain⟨d5,d6⟩:=au kids hk hkM _ (kQ u false false p ab 0 (kQ u true false p args 0 st env).1 (kQ u true false p args 0 st env).2).2 u (h.of (f7.trans f3) (f6.trans f2));refine⟨d5,?_⟩;simp only[PN.w,Vz,List.length_range',Nd.args];omega
theorem wS {b:Bool}{r:Rs}(h:kP b r≠none):b=true/\r≠none:=by
 unfold kP at h;split at h
 ·exact⟨by assumption,h⟩
 ·exact absurd rfl h
theorem uh {b:Bool}{r:Rs}(h:wd b r≠none):r≠none:=by
 rintro rfl;exact h rfl
theorem rK {r:Rs}(h:wV r≠none):r≠none:=by
 rintro rfl;exact h rfl
theorem Jo {r q:Rs}(h:zh r q≠none):r≠none/\q≠none:=by
 cases r with
 |none=>exact absurd rfl h
 |some a=>cases q with
  |none=>exact absurd rfl h
  |some b=>exact⟨(fun e=>by cases e),(fun e=>by cases e)⟩
theorem xW:∀{l:List Rs},jb l≠none->∀r∈l,r≠none:=by
 intro l
 induction l with
 |nil=>intro _ r hr;cases hr
 |cons x l ih=>
  intro h r hr;have h2:x≠none/\jb l≠none:=by
   cases x with
   |none=>exact absurd rfl h
   |some a=>
    refine⟨(fun e=>by cases e),fun e=>h ?_⟩;simp only[jb,e]
  rcases QC.1 hr with rfl|hr
  ·exact h2.1
  ·exact ih h2.2 r hr
theorem Wd {x:Nd}{p:Nat}{r:Rs}(h:yc x p r≠none):r≠none:=by
 unfold yc at h;have h2:=(wS h).2;split at h2
 ·exact rK h2
 ·exact h2
theorem qV {x:Nd}{p:Nat}{r:Rs}(h:jY x p r≠none):r≠none:=by
 unfold jY at h;exact Wd (wS h).2
theorem EL {x:Nd}{s:ByteArray}{r:Rs}(h:zL x s r≠none):r≠none:=by
 unfold zL at h;split at h
 ·exact h
 ·exact qV h
theorem Co {p:Nat}:∀{l:List Nd},(∀r∈eB p l (zZ l),r≠none)->∀y∈l,kO y≠none:=by
 intro l
 induction l with
 |nil=>intro _ y hy;cases hy
 |cons x l ih=>
  intro h y hy;simp only[zZ,eB]at h;exact zDL
theorem UB:∀{l:List Nd},(∀r∈pZ l (zZ l),r≠none)->∀y∈l,kO y≠none:=by
 intro l
 induction l with
 |nil=>intro _ y hy;cases hy
 |cons x l ih=>
  intro h y hy;simp only[zZ,pZ]at h;rcases QC.1 hy with rfl|hy
  ·exact(wS (h _ (QE ..))).2
  ·exact ih (fun r hr=>h r (QD _ hr)) y hy
theorem Gv:∀{l:List Nd},(∀r∈we l (zZ l),r≠none)->∀y∈l,kO y≠none:=by
 intro l
 induction l with
 |nil=>intro _ y hy;cases hy
 |cons x l ih=>
  intro h y hy;cases l with
  |nil=>
   simp only[zZ,we]at h;obtain rfl:=QK.1 hy;have:=h _ (QE ..);split at this
   ·exact this
   ·exact qV this
  |cons z l=>
   simp only[zZ,we]at h;exact zDL
theorem Jm {s:ByteArray}{l:List Nd}(h:gN s l (zZ l)≠none):∀y∈l,kO y≠none:=by
 unfold gN at h;exact Co (xW (uh (wS h).2))
theorem p7 {n:Nat}{l:List ByteArray}{r:Rs}(h:wk n l r≠none):(∀s∈l,jO s=true)/\r≠none:=by
 unfold wk at h;exact⟨vZ.1 (wS h).1,uh (wS h).2⟩
theorem Pb {l:List Nd}(h:(match l,zZ l with|[x],[r]=>jY x 1 r|_,_=>none)≠none):l.length=1/\∀y∈l,kO y≠none:=by
 match l,h with
 |[],h=>exact absurd rfl h
 |[x],h=>
  simp only[zZ]at h;refine⟨rfl,fun y hy=>?_⟩;obtain rfl:=QK.1 hy;exact qV h
 |_::_::_,h=>exact absurd rfl h
theorem HL {s:ByteArray}(h:jO s=true):zz s=true:=by
 unfold jO at h;rw[vF]at h;exact h.2
structure Ct (k:Nat)(s:ByteArray)(args ab:List ByteArray)(kids:List Nd):Prop where
 kind:1<=k/\k<=9
 JU:k=1∨k=2->kids=[]
 onekid:k=3∨k=9->kids.length=1
 send:k=4->0 < kids.length
 casc:k=5->2 < kids.length
 name:k=2∨k=3->zz s=true
 free:k=3->jO s=true
 noargs:k≠7->args=[]/\ab=[]
 free2:k=7->(∀a∈args,jO a=true)/\∀a∈ab,jO a=true
 sV:∀y∈kids,kO y≠none
theorem Dt {k:Nat}{s:ByteArray}{lit:Lt}{args ab:List ByteArray}{kids:List Nd}{p:Int}(h:kO (.mk k s lit args ab kids p)≠none):Ct k s args ab kids:=by
 have hn:∀{l:List ByteArray},l.length=0->l=[]:=fun e=>vt e
 rw[kO]at h;unfold jr at h;split at h
 ·obtain⟨h1,h2⟩:=wS h;simp only[decide_eq_true_eq]at h1;have hk:kids=[]:=vt h1.1;exact⟨Zo,fun _=>hk,Zo,Zo,Zo,Zo,Zo,fun _=>⟨hn h1.2.2.1,hn h1.2.2.2⟩,Zo,fun y hy=>by rw[hk]at hy;cases hy⟩
 split at h
 ·obtain⟨h1,h2⟩:=wS h;simp only[vF,decide_eq_true_eq]at h1;have hk:kids=[]:=vt h1.1.1.1;exact⟨Zo,fun _=>hk,Zo,Zo,Zo,fun _=>h1.1.2,Zo,fun _=>⟨hn h1.1.1.2.1,hn h1.1.1.2.2⟩,Zo,fun y hy=>by rw[hk]at hy;cases hy⟩
 split at h
 ·obtain⟨h1,h2⟩:=wS h;simp only[vF,decide_eq_true_eq]at h1;obtain⟨h3,h4⟩:=Pb h2;exact⟨Zo,Zo,fun _=>h3,Zo,Zo,fun _=>HL h1.2,fun _=>h1.2,fun _=>⟨hn h1.1.1.1,hn h1.1.1.2⟩,Zo,h4⟩
 split at h
 ·obtain⟨h1,h2⟩:=wS h;simp only[vF,decide_eq_true_eq]at h1
  match kids,h2 with
  |[],h2=>exact absurd rfl h2
  |x::l,h2=>
   simp only[zZ]at h2;obtain⟨h3,h4⟩:=Jo h2;refine⟨Zo,Zo,Zo,fun _=>by simp,Zo,Zo,Zo,fun _=>⟨hn h1.1.1.1,hn h1.1.1.2⟩,Zo,fun y hy=>?_⟩;rcases QC.1 hy with rfl|hy
   ·exact EL h3
   ·exact Jm h4 y hy
 split at h
 ·obtain⟨h1,h2⟩:=wS h;simp only[vF,decide_eq_true_eq]at h1;exact⟨Zo,Zo,Zo,Zo,Zo,Zo,Zo,fun _=>⟨hn h1.1.1,hn h1.1.2⟩,Zo,Jm h2⟩
 split at h
 ·obtain⟨h1,h2⟩:=wS h;simp only[vF,decide_eq_true_eq]at h1
  match kids,h1,h2 with
  |[],_,h2=>exact absurd rfl h2
  |[_],_,h2=>exact absurd rfl h2
  |x::y::l,h1,h2=>
   simp only[zZ]at h2;obtain⟨h3,h4⟩:=Jo (uh h2);refine⟨Zo,Zo,Zo,Zo,fun _=>h1.1.2.2.2,Zo,Zo,fun _=>⟨hn h1.1.2.1,hn h1.1.2.2.1⟩,Zo,fun z hz=>?_⟩;rcases QC.1 hz with rfl|hz
   ·exact EL h4
   ·exact UB (l:=y::l) (xW h3) z hz
 split at h
 ·obtain⟨h1,h2⟩:=wS h;obtain⟨h3,h4⟩:=p7 h2;obtain⟨h5,h6⟩:=p7 h4;exact⟨Zo,Zo,Zo,Zo,Zo,Zo,Zo,fun e=>absurd (by assumption) e,fun _=>⟨h3,h5⟩,Gv (xW (rK h6))⟩
 split at h
 ·obtain⟨h1,h2⟩:=wS h;simp only[vF,decide_eq_true_eq]at h1;exact⟨Zo,Zo,Zo,Zo,Zo,Zo,Zo,fun _=>⟨hn h1.1.2.1,hn h1.1.2.2⟩,Zo,Co (xW (uh (rK h2)))⟩
 split at h
 ·obtain⟨h1,h2⟩:=wS h;simp only[vF,decide_eq_true_eq]at h1;obtain⟨h3,h4⟩:=Pb h2;exact⟨Zo,Zo,fun _=>h3,Zo,Zo,Zo,Zo,fun _=>⟨hn h1.1.2.1,hn h1.1.2.2⟩,Zo,h4⟩
 ·exact absurd rfl h
theorem O2 {Q:Nd->Prop}(hQ:∀k s lit args ab kids p,Ct k s args ab kids->(∀y∈kids,Q y)->Q (.mk k s lit args ab kids p)):∀x,kO x≠none->Q x:=by
 have key:∀(N:Nat) (x:Nd),x.size<=N->kO x≠none->Q x:=by
  intro N
  induction N with
  |zero=>intro x hx;have:=x.size_pos;omega
  |succ N ih=>
   intro x hx h;cases x with
   |mk k s lit args ab kids p=>
   simp only[Nd.size]at hx;have hi:=Dt h;exact hQ k s lit args ab kids p hi fun y hy=>ih y (by have:=Nd.aD hy;omega) (hi.sV y hy)
 exact fun x=>key _ x (Qh _)
theorem Ct.okK {k:Nat}{s:ByteArray}{args ab:List ByteArray}{kids:List Nd}(h:Ct k s args ab kids):okK k kids=true:=by
 unfold V.okK;simp only[vF,vP,vM,decide_eq_true_eq,decide_eq_false_iff_not];refine⟨⟨⟨?_,?_⟩,h.kind⟩,?_⟩
 ·by_cases e:k=1∨k=2
  ·exact .inr (by rw[h.JU e];rfl)
  ·exact .inl e
 ·by_cases e:k=5
  ·exact .inr (by have:=h.casc e;omega)
  ·exact .inl e
 ·by_cases e:k=4
  ·exact .inr (h.send e)
  ·exact .inl e
theorem JV {l:List Nd}(h:∀y∈l,O8 y=true):qh l=true:=by
 induction l with
 |nil=>rfl
 |cons x r ih=>
  simp only[qh,vF];exact⟨h x Zs,ih fun y hy=>h y (by simp[hy])⟩
theorem O1:∀x,kO x≠none->x.w<=274877906944->O8 x=true:=O2 fun k s lit args ab kids p h hk hw=>by
 simp only[Nd.w]at hw;simp only[O8,vF,decide_eq_true_eq];exact⟨⟨h.okK,Zo⟩,JV fun y hy=>hk y hy (by have:=Nd.cq hy;omega)⟩
def refP(r:zj):Bool:=decide (0<=r.index)&&decide (0<=r.slot)&&decide (r.kind≠5/\r.kind≠6)&&decide (r.kind=8↔r.name≠e0)
mutual
def partP(n:Nat):PN->Bool
 |.mk k _ _ rs un _ kids=>rs.all refP&&(!decide (k=8)||decide (1<=un/\un < n))&&IF n kids
def IF(n:Nat):List PN->Bool
 |[]=>true
 |x::r=>partP n x&&IF n r
end
structure Pp (st:ah):Prop where
 pos:0 < st.outer.length
 bd:∀l∈st.aj,IF st.outer.length l=true
 ro:∀(i:Nat) o,st.outer[i]? =some o->0 < i->0<=o
theorem sP {α:Type}[DecidableEq α]{l:List α}{x:α}(h:x∈l):∃i,i < l.length/\l.findIdx? (fun y=>decide (y=x))=some i:=by
 cases e:l.findIdx? (fun y=>decide (y=x))with
 |none=>
  rw[List.findIdx?_eq_none_iff]at e;have:=e x h;simp at this
 |some i=>
  obtain⟨h1,_⟩:=List.findIdx?_eq_some_iff_getElem.1 e;exact⟨i,h1,rfl⟩
theorem Od {α:Type}[DecidableEq α]{l:List α}{x:α}(h:x∈l):0<=ma l x/\ma l x < l.length:=by
 obtain⟨i,h1,h2⟩:=sP h;unfold ma;rw[h2];simp only;omega
theorem xY {st:ah}{u v:Nat}{r:Bool}:v∈st.locals u r↔v < st.vars.length/\st.af v=u/\st.bC v < 0/\st.rem v=r:=by
 unfold ah.locals;rw[QF,QJ];simp only[vF,decide_eq_true_eq,and_assoc]
def ah.frame(st:ah)(u:Nat):Int:=st.args.getD u 0+(st.copied u).length+(st.locals u false).length+(if 0 < (st.locals u true).length then 1 else 0)
def liesR(n:Int)(r:zj):Bool:=!(decide (r.index < 0)||decide (r.slot < 0)||(decide (r.kind=5∨r.kind=6)&&decide (n<=r.index))||(decide (r.kind=8) !=decide (r.name≠e0)))
mutual
def liesP(n m:Int):PN->Bool
 |.mk k _ _ rs un _ kids=>rs.all (liesR n)&&!(decide (k=8)&&(decide (un < 1)||decide (m<=un)))&&Im n m kids
def Im(n m:Int):List PN->Bool
 |[]=>true
 |x::r=>liesP n m x&&Im n m r
end
theorem GH(st:ah)(u:Nat):(st.aL u).frame=st.frame u:=by
 unfold yJ.frame ah.aL ah.frame;simp only[Vz]
 congr 1
 by_cases c:0 < (st.locals u true).length
 ·rw[if_pos c,if_pos Zo]
 ·rw[if_neg c,if_neg Zo]
structure Yk (l:List yJ)(i:Nat)(x:yJ):Prop where
 args:0<=x.args
 locals:0<=x.locals
 outer:0 < i->0<=x.outer/\x.outer < i
 da:∀r∈x.copied,r.kind=5/\0<=r.index/\∃(o:Nat) (y:yJ),x.outer=(o:Int)/\l[o]? =some y/\r.index < y.frame
 body:Im x.frame l.length x.body=true
structure MR (st:ah)(n:Nat)(args:Nat):Prop where
 ph:Ph st
 first:st.outer[0]? =some (-1)/\st.args[0]? =some args
 bw:Bw st n
 less:st.vars.length<=n/\st.uses.length<=n/\st.outer.length<=n
def oC(args ab:List ByteArray)(kids:List Nd):Nat:=iy args ab (jN kids)
theorem MW(F G:List ByteArray):∀(l:List Nd) st env u,Ph st->u < st.outer.length->lf st env u->Ph (kV F G l st env u).2/\wE (oT (kV F G l st env u).2 u) (kV F G l st env u).1=true:=by
 intro l
 induction l with
 |nil=>intro st env u h hu he;rw[kV];exact⟨h,rfl⟩
 |cons x r ih=>
  intro st env u h hu he;rw[wX];have g1:=(zo F G _ x (Qh _) st env u).1;obtain⟨h1,h2⟩:=(Wi F G _ x (Qh _) st env u h hu he).1;obtain⟨h3,h4⟩:=ih _ env u h1 (Qk hu g1.outer.length_le) (he.gr g1 h.wf h1.wf hu);exact zDN
theorem Yo(F G:List ByteArray)(M:Nat):∀(l:List Nd),jN l<=M->∀st env u,Bw st M->Bw (kV F G l st env u).2 M/\PN.ws (kV F G l st env u).1<=2*jN l:=by
 intro l
 induction l with
 |nil=>intro _ st env u h;rw[kV];exact⟨h,Qh _⟩
 |cons x r ih=>
  intro hM st env u h;simp only[jN]at hM;rw[wX];obtain⟨h1,h2⟩:=(w_part F G M _ x (Qh _) Zo st env u h).1;obtain⟨h3,h4⟩:=ih Zo _ env u h1;refine⟨h3,?_⟩;simp only[PN.ws,jN];omega
theorem MX(F G:List ByteArray):∀(l:List Nd) st env u,zb st (kV F G l st env u).2 (jN l):=by
 intro l
 induction l with
 |nil=>intro st env u;rw[kV];exact zb.refl st
 |cons x r ih=>
  intro st env u;rw[wX];exact(mY F G _ x (Qh _) st env u).1.trans (ih _ env u)
theorem ph0:Ph qJ:=⟨⟨rfl,rfl,fun i o h=>by simp[qJ]at h,fun v x h=>by simp[qJ]at h,fun q h=>by simp[qJ]at h⟩,fun q h=>by simp[qJ]at h,fun i l h=>by simp[qJ]at h⟩
theorem Wu(F G args ab:List ByteArray)(kids:List Nd):MR (mC F G args ab kids) (oC args ab kids) args.length:=by
 unfold mC;rw[zc];have hU:Ph (qJ.aN (-1) args.length):=ph0.aN ⟨Zo,Zd⟩;obtain⟨d1,d2⟩:=iM 0 true true 0 args 0 (qJ.aN (-1) args.length) [] hU (Nat.zero_lt_one) (fun _=>by show 0+args.length<=args.length;omega) (fun v hv=>by cases hv);obtain⟨f1,f2,f3,f4⟩:=jv 0 true true 0 args 0 (qJ.aN (-1) args.length) [];obtain⟨d3,d4⟩:=iM 0 false true 0 ab 0 _ _ d1 (by rw[f1];exact Nat.zero_lt_one) (fun e=>by cases e) d2;obtain⟨f5,f6,f7,f8⟩:=jv 0 false true 0 ab 0 (kQ 0 true true 0 args 0 (qJ.aN (-1) args.length) []).1 (kQ 0 true true 0 args 0 (qJ.aN (-1) args.length) []).2;obtain⟨D,hD⟩:∃D,D=bi args ab 0 qJ [] (-1):=⟨_,rfl⟩;have Jz:Ph D.1:=by rw[hD];exact d3
 have JA:lf D.1 D.2 0:=by rw[hD];exact d4
 have hDo:D.1.outer=[-1]:=by rw[hD];exact f5.trans f1
 have hDa:D.1.args=[args.length]:=by rw[hD];exact f6.trans f2
 have hDb:D.1.aj=[[]]:=by rw[hD];exact f7.trans f3
 have hDl:zb qJ D.1 (1+(args.length+ab.length)):=by
  rw[hD];exact(r8 qJ (-1) args.length).trans ((wU _ _ _ _ _ _ _ _).trans (wU _ _ _ _ _ _ _ _))
 rw[<- hD];show MR ({(kV F G kids D.1 D.2 0).2 with aj:=(kV F G kids D.1 D.2 0).2.aj.set 0 (kV F G kids D.1 D.2 0).1}) _ _;obtain⟨h1,h2⟩:=MW F G kids D.1 D.2 0 Jz (by rw[hDo];decide) JA;have g:=wn F G kids D.1 D.2 0;obtain⟨b1,b2⟩:=Yo F G (oC args ab kids) kids (by unfold oC iy;omega) D.1 D.2 0 ⟨fun l hl=>by
  rw[hDb,QK]at hl;rw[hl];exact Qp _,fun a ha=>by
  rw[hDa,QK]at ha;rw[ha];unfold oC iy;omega⟩
 have hL:=hDl.trans (MX F G kids D.1 D.2 0);refine⟨h1.body 0 h2,⟨?_,?_⟩,⟨fun l hl=>?_,b1.ar⟩,?_⟩
 ·obtain⟨t,ht⟩:=g.outer;show(kV F G kids D.1 D.2 0).2.outer[0]? =_;rw[<- ht,hDo];rfl
 ·obtain⟨t,ht⟩:=g.args;show(kV F G kids D.1 D.2 0).2.args[0]? =_;rw[<- ht,hDa];rfl
 ·rcases List.mem_or_eq_of_mem_set hl with hl|rfl
  ·exact b1.bd l hl
  ·unfold oC iy;omega
 ·obtain⟨l1,l2,l3⟩:=hL;have e1:qJ.vars.length=0:=rfl;have e2:qJ.uses.length=0:=rfl;have e3:qJ.outer.length=0:=rfl;unfold oC iy;exact⟨by show(kV F G kids D.1 D.2 0).2.vars.length<=_;omega,by show(kV F G kids D.1 D.2 0).2.uses.length<=_;omega,by show(kV F G kids D.1 D.2 0).2.outer.length<=_;omega⟩
instance memDec (s:ByteArray)(l:List ByteArray):Decidable (s∈l):=decidable_of_iff (l.any (fun t=>decide (t=s))=true) (by
 rw[ve];exact⟨fun⟨t,h1,h2⟩=>of_decide_eq_true h2 ▸ h1,fun h=>⟨s,h,Zt rfl⟩⟩)
mutual
def lV(seen out:List ByteArray):Nd->List ByteArray
 |.mk k s _ args ab kids _=>wJ (if k=7 then seen++args++ab else seen) (if(k=2∨k=3)/\zY s=0/\s∉seen/\s∉out then out++[s]else out) kids
def wJ(seen out:List ByteArray):List Nd->List ByteArray
 |[]=>out
 |x::r=>wJ seen (lV seen out x) r
end
def kn(F G:List ByteArray)(s:ByteArray):Bool:=F.any (fun t=>decide (t=s))||G.any (fun t=>decide (t=s))
structure zV (st:ah)(env:List Nat)(seen:List ByteArray):Prop where
 lt:∀v∈env,v < st.vars.length
 iff:∀nm,(w9 st.vars env nm).isSome=true↔nm∈seen
theorem eV {vs:List fF}{env:List Nat}{nm:ByteArray}:(w9 vs env nm).isSome=true↔∃v∈env,(vs[v]?).map (·.name)=some nm:=by
 unfold w9;rw[List.find?_isSome];constructor
 ·rintro⟨v,h1,h2⟩
  exact⟨v,by simpa using h1,of_decide_eq_true h2⟩
 ·rintro⟨v,h1,h2⟩
  exact⟨v,by simpa using h1,Zt h2⟩
theorem zV.gr {a b:ah}{env:List Nat}{seen:List ByteArray}(h:zV a env seen)(g:a.vars <+:b.vars):zV b env seen:=by
 obtain⟨t,ht⟩:=g;refine⟨fun v hv=>?_,fun nm=>?_⟩
 ·have:=h.lt v hv;rw[<- ht,Vt];omega
 ·rw[<- h.iff nm,eV,eV];constructor
  ·rintro⟨v,h1,h2⟩
   rw[<- ht,Vd (h.lt v h1)]at h2;exact⟨v,h1,h2⟩
  ·rintro⟨v,h1,h2⟩
   rw[<- ht];exact⟨v,h1,by rw[Vd (h.lt v h1)];exact h2⟩
theorem zV.decl(unit:Nat)(arg own:Bool)(p:Int):∀(l:List ByteArray) (i:Nat) (st:ah) (env:List Nat) (seen:List ByteArray),zV st env seen->zV (kQ unit arg own p l i st env).1 (kQ unit arg own p l i st env).2 (seen++l)
 |[],_,st,env,seen,h=>by rw[vg];exact h
 |nm::r,i,st,env,seen,h=>by
  rw[kQ,u7];obtain⟨s,hs⟩:∃s,s=(if(w9 st.vars env nm).isSome=true then st.wrong 180 p else st):=⟨_,rfl⟩;have hv:s.vars=st.vars:=by
   rw[hs];split
   ·exact cX _ _ _
   ·rfl
  rw[<- hs];have dz:zV (s.aX ⟨nm,unit,arg,if(arg&&own)=true then i else -1⟩) (env++[st.vars.length]) (seen++[nm]):=by
   have hl:(s.aX ⟨nm,unit,arg,if(arg&&own)=true then i else -1⟩).vars=st.vars++[⟨nm,unit,arg,if(arg&&own)=true then i else -1⟩]:=by
    show s.vars++_=_;rw[hv]
   refine⟨fun v k=>?_,fun n=>?_⟩
   ·rw[hl,Vt,Q3];rcases QA.1 k with k|k
    ·have:=h.lt v k;omega
    ·rw[QK.1 k];omega
   ·rw[eV,hl,QA,<- h.iff n,eV,QK];constructor
    ·rintro⟨v,h1,h2⟩
     rcases QA.1 h1 with k|k
     ·rw[Vd (h.lt v k)]at h2;exact .inl ⟨v,k,h2⟩
     ·rw[QK.1 k,Ve (Qh _),Qn]at h2;exact .inr (by simpa using h2.symm)
    ·rintro(⟨v,h1,h2⟩|rfl)
     ·exact⟨v,Zw _ h1,by rw[Vd (h.lt v h1)];exact h2⟩
     ·exact⟨st.vars.length,Zs,Zs⟩
  have:=zV.decl unit arg own p r (i+1) _ _ _ dz
  rwa [vf,List.singleton_append]at this
mutual
theorem S9(seen:List ByteArray):∀(x:Nd) (out:List ByteArray),∀s∈out,s∈lV seen out x
 |.mk k s lit args ab kids p,out,t,ht=>by
  rw[lV];refine zf _ kids _ t ?_;split
  ·exact Zw _ ht
  ·exact ht
theorem zf(seen:List ByteArray):∀(l:List Nd) (out:List ByteArray),∀s∈out,s∈wJ seen out l
 |[],_,_,ht=>ht
 |x::r,out,t,ht=>by
  rw[wJ];exact zf seen r _ t (S9 seen x out t ht)
end
def errW(e:Nat):Prop:=e=180∨e=181∨e=182
structure jh (F G:List ByteArray)(b:ah)(out bH:List ByteArray):Prop where
 ok:b.f=none->∀s∈bH,s∈out∨kn F G s=true
 bad:∀p,b.f=some (181,p)->∃s∈bH,kn F G s=false
 err:∀e p,b.f=some (e,p)->errW e
theorem jh.refl {F G:List ByteArray}{b:ah}{out:List ByteArray}(h:b.f=none):jh F G b out out:=⟨fun _ _ hs=>.inl hs,(fun p e=>by rw[h]at e;cases e),fun _ p e=>by rw[h]at e;cases e⟩
theorem jh.comp {F G:List ByteArray}{b c:ah}{out mid bH:List ByteArray}(h:jh F G b out mid)(k:b.f=none->jh F G c mid bH)(g:Gr b c)(hs:∀s∈mid,s∈bH):jh F G c out bH:=by
 cases e:b.f with
 |none=>
  have k:=k e;refine⟨fun hc s hm=>?_,k.bad,k.err⟩;rcases k.ok hc s hm with h1|h1
  ·exact h.ok e s h1
  ·exact .inr h1
 |some x=>
  have hc:=g.f x e;refine⟨fun hn=>(by rw[hc]at hn;cases hn),fun p hp=>?_,fun y p hp=>?_⟩
  ·rw[hc]at hp;obtain⟨s,h1,h2⟩:=h.bad p (by rw[e,hp]);exact⟨s,hs s h1,h2⟩
  ·rw[hc]at hp;exact h.err y p (by rw[e,hp])
theorem jh.of {F G:List ByteArray}{b c:ah}{out bH:List ByteArray}(h:jh F G b out bH)(e:c.f=b.f):jh F G c out bH:=⟨by rw[e];exact h.ok,by rw[e];exact h.bad,by rw[e];exact h.err⟩
theorem cP {F G:List ByteArray}(unit:Nat)(arg own:Bool)(p:Int):∀(l:List ByteArray) (i:Nat) (st:ah) (env:List Nat) (out:List ByteArray),st.f=none->jh F G (kQ unit arg own p l i st env).1 out out
 |[],_,_,_,_,h=>jh.refl h
 |nm::r,i,st,env,out,h=>by
  rw[kQ,u7];have h1:jh F G ((if(w9 st.vars env nm).isSome=true then st.wrong 180 p else st).aX ⟨nm,unit,arg,if(arg&&own)=true then i else -1⟩) out out:=by
   split
   ·have hf:((st.wrong 180 p).aX ⟨nm,unit,arg,if(arg&&own)=true then i else -1⟩).f=some (180,p):=Kc h 180 p;exact⟨(fun e=>by rw[hf]at e;cases e),(fun q e=>by rw[hf]at e;cases e),fun e q k=>by rw[hf]at k;cases k;exact .inl rfl⟩
   ·exact jh.refl h
  exact h1.comp (fun hf=>cP unit arg own p r (i+1) _ _ out hf) (zT _ _ _ _ _ _ _ _) (fun _ hs=>hs)
theorem sO {l:List ByteArray}{s:ByteArray}:(l.findIdx? fun t=>decide (t=s)).isSome=l.any fun t=>decide (t=s):=by
 induction l with
 |nil=>rfl
 |cons x r ih=>
  rw[V5,vd];cases decide (x=s)with
  |true=>rfl
  |false=>simp only[vL,vK,if_false,<- ih,Option.isSome_map]
theorem Fz {F G:List ByteArray}{st:ah}{env:List Nat}{seen out:List ByteArray}(s:ByteArray)(u:Nat)(p:Int)(put:Bool)(h:st.f=none)(hs:zV st env seen):
 jh F G (wQ F G st env s u p put).2 out (if zY s=0/\s∉seen/\s∉out then out++[s]else out):=by
 by_cases hk:zY s=0;rotate_left
 ·rw[qq hk,if_neg (by simp[hk])];exact jh.refl h
 cases hv:w9 st.vars env s with
 |some v=>
  have aY:s∈seen:=(hs.iff s).1 (by rw[hv];rfl);rw[if_neg (fun k=>k.2.1 aY)];cases hp:(put&&((st.vars[v]?).map (·.arg)).getD false)with
  |false=>rw[Gf hk hv hp];exact jh.refl h
  |true=>
   have hf:=Ge (F:=F) (G:=G) (u:=u) (p:=p) hk hv hp h;exact⟨(fun e=>by rw[hf]at e;cases e),(fun q e=>by rw[hf]at e;cases e),fun e q k=>by rw[hf]at k;cases k;exact .inr (.inr rfl)⟩
 |none=>
  have aY:s∉seen:=fun k=>by
   have:=(hs.iff s).2 k;rw[hv]at this;cases this
  have cF:s∈(if zY s=0/\s∉seen/\s∉out then out++[s]else out):=by
   by_cases c:s∈out
   ·rw[if_neg (fun k=>k.2.2 c)];exact c
   ·rw[if_pos ⟨hk,aY,c⟩];simp
  have aM:kn F G s=true->st.f=none->∀t∈(if zY s=0/\s∉seen/\s∉out then out++[s]else out),t∈out∨kn F G t=true:=fun Su _ t ht=>by
   split at ht
   ·rcases QA.1 ht with ht|ht
    ·exact .inl ht
    ·rw[QK.1 ht];exact .inr Su
   ·exact .inl ht
  cases hi:F.findIdx? (fun t=>decide (t=s))with
  |some i=>
   rw[yj hk hv hi];have Su:kn F G s=true:=by
    unfold kn;rw[<- sO,hi];rfl
   exact⟨fun e=>aM Su e,(fun q e=>by rw[h]at e;cases e),fun _ q e=>by rw[h]at e;cases e⟩
  |none=>
   have Su:kn F G s=G.any fun t=>decide (t=s):=by
    unfold kn;rw[<- sO,hi];rfl
   cases hg:G.any (fun t=>decide (t=s))with
   |true=>
    rw[B7 hk hv hi hg];exact⟨fun e=>aM (Su.trans hg) e,(fun q e=>by rw[h]at e;cases e),fun _ q e=>by rw[h]at e;cases e⟩
   |false=>
    have hf:=B8 (u:=u) (p:=p) (put:=put) hk hv hi hg h;exact⟨fun e=>(by rw[hf]at e;cases e),fun q _=>⟨s,cF,Su.trans hg⟩,fun e q k=>by rw[hf]at k;cases k;exact .inr (.inl rfl)⟩
theorem Ld {s:ByteArray}{kids:List Nd}(hf:ej (jP s) kids=true){i:Nat}{y:Nd}(hy:kids[i]? =some y)(hi:dU s i=true):y.kind=7:=by
 have hl:=(Vm.1 hy).1;rw[xK hf hl]at hi;simp only[vF,decide_eq_true_eq]at hi;have hle:=ur s;generalize jP s=n at hf hi hle;have hn:n=0∨n=5∨(n=1∨n=2∨n=3∨n=4):=by omega
 rcases hn with rfl|rfl|hn
 ·cases hf
 ·obtain⟨h1,b,h2,h3,_⟩:=Nr hf;simp only[jB,io]at hi;obtain rfl:i=2:=by omega
  rw[hy]at h2;rw[Qx h2];exact h3
 ·cases hp:jq y with
  |true=>exact(yg hp).1
  |false=>
   have:=CM hn hi.1 hy hp;rw[hf]at this;cases this
theorem LF(F G:List ByteArray):∀(N:Nat) (x:Nd),x.size<=N->kO x≠none->∀st env u seen out,st.f=none->zV st env seen->
 jh F G (jH F G x st env u).2 out (lV seen out x)/\(x.kind=7->jh F G (cI F G x st env u).2 out (lV seen out x)):=by
 intro N
 induction N with
 |zero=>intro x hx;have:=x.size_pos;omega
 |succ N ih=>
  have au:∀l:List Nd,Nd.aw l<=N->(∀y∈l,kO y≠none)->∀st env u seen out,st.f=none->zV st env seen->jh F G (kV F G l st env u).2 out (wJ seen out l):=by
   intro l
   induction l with
   |nil=>intro _ _ st env u seen out h hs;rw[kV,wJ];exact jh.refl h
   |cons x r xI=>
    intro hl hd st env u seen out h hs;simp only[Nd.aw]at hl;rw[wX,wJ];have g:=(zo F G N x Zo st env u).1;exact(ih x Zo (hd x Zs) st env u seen out h hs).1.comp (fun hf=>xI Zo (fun y hy=>hd y (by simp[hy])) _ env u seen _ hf (hs.gr g.vars)) (wn F G r _ env u) (zf seen r _)
  have pM:∀(s:ByteArray) (l:List Nd),Nd.aw l<=N->(∀y∈l,kO y≠none)->∀i,(∀k y,l[k]? =some y->dU s (i+k)=true->y.kind=7)->∀st env u seen out,st.f=none->zV st env seen->
   jh F G (jA F G s l i st env u).2.2 out (wJ seen out l)/\Gr st (jA F G s l i st env u).2.2:=by
   intro s l
   induction l with
   |nil=>intro _ _ i _ st env u seen out h hs;rw[jA,wJ];exact⟨jh.refl h,Gr.refl _⟩
   |cons x r xI=>
    intro hl hd i hkd st env u seen out h hs;simp only[Nd.aw]at hl;obtain⟨g1,g2⟩:=zo F G N x Zo st env u;obtain⟨h1,h2⟩:=ih x Zo (hd x Zs) st env u seen out h hs;have hkr:∀k y,r[k]? =some y->dU s (i+1+k)=true->y.kind=7:=fun k y hy e2=>hkd (k+1) y (by simpa using hy) (by rw[show i+(k+1)=i+1+k from by omega];exact e2)
    have DW:∀(l:List Nd) (i:Nat) (st:ah),Nd.aw l<=N->Gr st (jA F G s l i st env u).2.2:=by
     intro l
     induction l with
     |nil=>intro i st _;rw[jA];exact Gr.refl _
     |cons y q ihq=>
      intro i st hq;simp only[Nd.aw]at hq;obtain⟨k1,k2⟩:=zo F G N y Zo st env u;cases hi:dU s i with
      |true=>rw[dM _ _ _ _ _ _ _ _ _ hi];exact k2.trans (ihq _ _ Zo)
      |false=>rw[zy _ _ _ _ _ _ _ _ _ hi];exact k1.trans (ihq _ _ Zo)
    rw[wJ];cases hi:dU s i with
    |true=>
     rw[dM _ _ _ _ _ _ _ _ _ hi];have hg:=DW r (i+1) (cI F G x st env u).2 Zo;exact⟨(h2 (hkd 0 x rfl hi)).comp (fun hf=>(xI Zo (fun y hy=>hd y (by simp[hy])) (i+1) hkr _ env u seen _ hf (hs.gr g2.vars)).1) hg (zf seen r _),g2.trans hg⟩
    |false=>
     rw[zy _ _ _ _ _ _ _ _ _ hi];have hg:=DW r (i+1) (jH F G x st env u).2 Zo;exact⟨h1.comp (fun hf=>(xI Zo (fun y hy=>hd y (by simp[hy])) (i+1) hkr _ env u seen _ hf (hs.gr g1.vars)).1) hg (zf seen r _),g1.trans hg⟩
  intro x hx hd st env u seen out h hs;cases x with
  |mk k s lit args ab kids p=>
  have hi:=Dt hd;simp only[Nd.size]at hx;have hk:Nd.aw kids<=N:=by omega
  rw[lV];refine⟨?_,fun h7=>?_⟩
  ·cases aY:iD k s kids with
   |true=>
    rw[eE _ _ _ _ _ _ _ _ _ _ _ _ aY];have Zq:=aY;unfold iD at Zq;simp only[vF,decide_eq_true_eq]at Zq;rw[if_neg Zo,if_neg Zo];exact(pM s kids hk hi.sV 0 (fun j y hy e=>Ld Zq.2 hy (by rwa [Qo]at e)) st env u seen out h hs).1
   |false=>
    by_cases h1:k=1
    ·rw[nj _ _ _ _ _ _ _ _ _ _ _ _ aY h1,if_neg Zo,if_neg Zo,hi.JU (.inl h1),wJ];exact jh.refl h
    by_cases h2:k=2
    ·rw[nk _ _ _ _ _ _ _ _ _ _ _ _ aY h2,if_neg Zo,hi.JU (.inr h2),wJ];have:=Fz (F:=F) (G:=G) (out:=out) s u p false h hs;simp only[h2,true_or,true_and];exact this
    by_cases h3:k=3
    ·rw[np _ _ _ _ _ _ _ _ _ _ _ _ aY h3,if_neg Zo];have h4:=Fz (F:=F) (G:=G) (out:=out) s u p true h hs;simp only[h3,or_true,true_and];have g:=xl F G st env s u p true;exact h4.comp (fun hf=>au kids hk hi.sV _ env u seen _ hf (hs.gr g.vars)) (wn F G kids _ env u) (zf seen kids _)
    have dR:¬((k=2∨k=3)/\zY s=0/\s∉seen/\s∉out):=by omega
    rw[if_neg dR];by_cases h7:k=7
    ·rw[nw _ _ _ _ _ _ _ _ _ _ _ _ aY h7,if_pos h7];simp only;rw[zc];have Jz:=cP (F:=F) (G:=G) st.outer.length true true p args 0 (st.aN (u:Int) args.length) env out h;have hE:zV (st.aN (u:Int) args.length) env seen:=hs.gr (QV _);have Te:=zV.decl st.outer.length true true p args 0 _ env seen hE;have Tf:=zV.decl st.outer.length false true p ab 0 _ _ _ Te;have JA:jh F G (bi args ab p st env (u:Int)).1 out out:=Jz.comp (fun hf=>cP st.outer.length false true p ab 0 _ _ out hf) (zT _ _ _ _ _ _ _ _) (fun _ k=>k);exact(JA.comp (fun hf=>au kids hk hi.sV (bi args ab p st env (u:Int)).1 (bi args ab p st env (u:Int)).2 st.outer.length _ out hf Tf) (wn F G kids _ _ _) (zf _ kids _)).of rfl
    rw[if_neg h7];have ha:=au kids hk hi.sV st env u seen out h hs;by_cases h8:k=8
    ·rw[ny _ _ _ _ _ _ _ _ _ _ _ _ aY h8];exact ha
    by_cases h9:k=9
    ·rw[nz _ _ _ _ _ _ _ _ _ _ _ _ aY h9];exact ha
    by_cases h6:k=6
    ·rw[nu _ _ _ _ _ _ _ _ _ _ _ _ aY h6];exact ha
    by_cases h5:k=5
    ·rw[nt _ _ _ _ _ _ _ _ _ _ _ _ aY h5];exact ha
    cases G9:jW kids with
    |true=>
     rw[gY _ _ _ _ _ _ _ _ _ _ _ _ aY ⟨h1,h2,h3,h5,h6,h7,h8,h9⟩ G9];cases mT:kids with
     |nil=>rw[mT]at G9;cases G9
     |cons y r=>
      rw[mT]at G9 hk hi;simp only[Nd.aw]at hk;have hy:jQ y=true:=G9;have δ:=hi.sV y Zs;rw[wJ];have e:lV seen out y=out:=by
       cases y with
       |mk k' s' lit' args' temps' kids' p'=>
       unfold jQ at hy;rw[vF,decide_eq_true_eq,decide_eq_true_eq]at hy;have hy:k'=2/\kB s'=[115,117,112,101,114]:=hy;have cj:=Dt δ;have JJ:s'=nh:=iV.1 hy.2;rw[lV,if_neg Zo,cj.JU (.inr hy.1),if_neg (by rw[JJ];exact fun k=>by have:=k.2.1;revert this;decide),wJ]
      rw[e];exact au r Zo (fun z hz=>hi.sV z (by simp[hz])) st env u seen out h hs
    |false=>
     rw[nq _ _ _ _ _ _ _ _ _ _ _ _ aY ⟨h1,h2,h3,h5,h6,h7,h8,h9⟩ G9];exact ha
  ·have h7:k=7:=h7;rw[iE,if_pos h7,if_neg Zo];have Jz:=cP (F:=F) (G:=G) u true false p args 0 st env out h;have Te:=zV.decl u true false p args 0 _ env seen hs;have Tf:=zV.decl u false false p ab 0 _ _ _ Te;have JA:=Jz.comp (fun hf=>cP u false false p ab 0 _ (kQ u true false p args 0 st env).2 out hf) (zT _ _ _ _ _ _ _ _) (fun _ k=>k);exact JA.comp (fun hf=>au kids hk hi.sV _ _ u _ out hf Tf) (wn F G kids _ _ _) (zf _ kids _)
section
variable (st:ah)
end
theorem Bg {w n:Nat}{v:Value}{xs sp:List Value}(h:jG w v n xs sp)(hn:0 < n):∃b o c,v=.slice (some ⟨b,o,none⟩) n c/\n<=c/\∀ys zs,ai v ys zs=kA b o (ys++zs):=by
 cases h with
 |@mk b o _ c _ _ h1 h2 h3=>exact⟨b,o,c,rfl,h3,fun _ _=>rfl⟩
 |nil=>omega
def wh(b:Bool)(rows:List (List Value))(j:Nat):List (List Value):=rows.mapIdx fun i r=>if 1<=i/\i<=j then r.set 9 (.bool b)else r
theorem zF {b:Bool}{rows:List (List Value)}{j i:Nat}{r:List Value}(h:rows[i]? =some r):(wh b rows j)[i]? =some (if 1<=i/\i<=j then r.set 9 (.bool b)else r):=by
 unfold wh;rw[List.getElem?_mapIdx,h];rfl
theorem wO(b:Bool)(rows:List (List Value))(j:Nat):(wh b rows j).length=rows.length:=by unfold wh;simp
theorem LY(b:Bool)(rows:List (List Value)):wh b rows 0=rows:=by
 apply vw;intro i;cases h:rows[i]? with
 |none=>
  rw[Vl]at h|-;rw[wO];exact h
 |some r=>rw[zF h,if_neg Zo]
theorem hO {b:Bool}{rows:List (List Value)}{j w:Nat}(h:∀r∈rows,r.length=w):∀r∈wh b rows j,r.length=w:=by
 intro r hr;obtain⟨i,hi⟩:=Vo hr;cases h0:rows[i]? with
 |none=>
  rw[Vl]at h0;have:=(Vm.1 hi).1;rw[wO]at this;omega
 |some r0=>
  rw[zF h0]at hi;have:=h r0 (Zv h0);rw[<- Qx hi];split
  ·rw[Q1];exact this
  ·exact this
theorem DC {b:Bool}{rows:List (List Value)}{j:Nat}{r:List Value}(h:rows[j+1]? =some r):(wh b rows j).set (j+1) (r.set 9 (.bool b))=wh b rows (j+1):=by
 apply vw;intro i;rw[Vp];by_cases e:j+1=i
 ·subst e;rw[if_pos rfl,if_pos (by rw[wO];exact(Vm.1 h).1),zF h,if_pos Zo]
 ·rw[if_neg e];cases h0:rows[i]? with
  |none=>
   have key:∀m,(wh b rows m)[i]? =none:=fun m=>by
    rw[Vl]at h0|-;rw[wO];exact h0
   rw[key,key]
  |some r0=>
   rw[zF h0,zF h0];by_cases c:1<=i/\i<=j
   ·rw[if_pos c,if_pos Zo]
   ·rw[if_neg c,if_neg Zo]
theorem Ns {w:Nat}:∀{rows:List (List Value)},(∀r∈rows,r.length=w)->∀{j c:Nat} {r:List Value} {u:Value},rows[j]? =some r->c < w->rows.flatten.set (j*w+c) u=(rows.set j (r.set c u)).flatten:=by
 intro rows
 induction rows with
 |nil=>intro _ j c r u h;simp at h
 |cons x l ih=>
  intro hw j c r u hj hc;have hx:=hw x Zs;cases j with
  |zero=>
   obtain rfl:x=r:=by simpa using hj
   rw[V9,Qq,Qo,List.set_append_left _ _ Zo];rfl
  |succ j=>
   have h2:=ih (fun r hr=>hw r (by simp[hr])) (j:=j) (c:=c) (r:=r) (u:=u) (by simpa using hj) hc;rw[V9,List.set_append_right _ _ (by rw[hx,Nat.succ_mul];omega),hx];have e:(j+1)*w+c - w=j*w+c:=by rw[Nat.succ_mul];omega
   rw[e,h2];rfl
theorem pI {w:Nat}:∀{rows:List (List Value)},(∀r∈rows,r.length=w)->rows.flatten.length=rows.length*w:=by
 intro rows
 induction rows with
 |nil=>intro _;simp
 |cons x l ih=>
  intro h;rw[V9,Vt,ih (fun r hr=>h r (by simp[hr])),h x Zs,Vu,Nat.succ_mul];omega
theorem uJ.super {T:List kC}{qs:List Nat}{x:PN}{ws:List Value}(h:uJ T qs x ws)(b:Bool):uJ T qs (x.yu b) (ws.set 9 (.bool b)):=by
 cases h with
 |@mk k nm lit refs unit iU kids lv rv vv a c bk o us hl hr hv ok hz ha hm hs=>
  have h5:=hl.len
  match lv,h5,hl with
  |[v1,v2,v3,v4,v5],_,hl=>exact .mk (iU:=b) hl hr hv ok hz ha hm hs
theorem Du {T:List kC}{qs:List Nat}{l:List PN}{rows:List (List Value)}(h:zW T qs l rows)(b:Bool):zW T qs (zX b l) (wh b rows (l.length - 1)):=by
 cases l with
 |nil=>
  have:rows=[]:=vt h.len;subst this;exact zW.nil T qs
 |cons x l=>
  refine⟨?_,hO h.w,fun i y r hy hr=>?_⟩
  ·rw[wO,h.len];simp[zX]
  ·cases h0:rows[i]? with
   |none=>
    rw[Vl]at h0;have:=(Vm.1 hr).1;rw[wO]at this;omega
   |some r0=>
    rw[zF h0]at hr;have et:=(Vm.1 h0).1;rw[h.len,Vu]at et;cases i with
    |zero=>
     obtain rfl:x=y:=by simpa[zX]using hy
     rw[if_neg Zo]at hr;rw[<- Qx hr];exact h.rd 0 x r0 rfl h0
    |succ i=>
     rw[if_pos ⟨Zo,by rw[Vu];omega⟩]at hr;rw[<- Qx hr];simp only[zX,Vg,Vn]at hy;obtain⟨z,hz,rfl⟩:=Qu.1 hy;exact(h.rd (i+1) z r0 (by simpa using hz) h0).super b
theorem MV(F G:List ByteArray):∀(l:List Nd) st env u,(kV F G l st env u).1.length=l.length:=by
 intro l
 induction l with
 |nil=>intro st env u;rw[kV];rfl
 |cons x r ih=>intro st env u;rw[wX];simp only[Vu,ih]
theorem I3(b:Bool)(l:List PN):(zX b l).length=l.length:=by cases l <;> simp[zX]
end Go.V

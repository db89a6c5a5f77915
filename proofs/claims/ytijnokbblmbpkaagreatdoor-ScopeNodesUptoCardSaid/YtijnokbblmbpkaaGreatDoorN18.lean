/-
  Frames: what is copied into a unit, and where a variable is.
-/
import Derived.Test.YtijnokbblmbpkaaGreatDoorN17
import Derived.Test.YtijnokbblmbpkaaGreatDoorN6
set_option linter.all false
namespace Go.V
open Go
theorem iF {st:ah}{o:Nat}{t:Nat×Int}:t∈st.things o↔t.1=o/\-1<=t.2/\t.2 < st.args.getD o 0:=by
 unfold ah.things;rw[QE];constructor
 ·rintro⟨i,hi,rfl⟩
  have:=QG.1 hi;exact⟨rfl,by simp only;omega,by simp only;omega⟩
 ·rintro⟨h1,h2,h3⟩
  obtain⟨a,b⟩:=t;simp only at h1 h2 h3;subst h1;exact⟨(b+1).toNat,QG.2 Zo,by rw[X2];exact⟨rfl,Zo⟩⟩
theorem iE {st:ah}{u:Nat}{t:Nat×Int}:t∈st.copied u↔t.1∈(st.line u).drop 1/\t∈st.things t.1/\st.bg u t=true:=by
 unfold ah.copied;rw[QD];constructor
 ·rintro⟨o,h1,h2⟩
  obtain⟨h3,h4⟩:=QC.1 h2;obtain rfl:=(iF.1 h3).1;exact⟨by simpa using h1,h3,h4⟩
 ·rintro⟨h1,h2,h3⟩
  exact⟨t.1,by simpa using h1,QC.2 ⟨h2,h3⟩⟩
theorem nI {st:ah}{v:Nat}{x:eQ}(h:st.vars[v]? =some x):st.af v=x.unit:=by unfold ah.af;rw[h];rfl
theorem x9 {st:ah}{v:Nat}{x:eQ}(h:st.vars[v]? =some x):st.bD v=x.own:=by unfold ah.bD;rw[h];rfl
theorem Wf.var {st:ah}(h:Wf st){v:Nat}(hv:v < st.vars.length):st.af v < st.outer.length/\-1<=st.bD v/\st.bD v < st.args.getD (st.af v) 0:=by
 have e:st.vars[v]? =some st.vars[v]:=Zg hv;rw[nI e,x9 e];exact h.vu v _ e
theorem Wf.XF {st:ah}(h:Wf st){u v:Nat}(ho:0<=st.outer.getD u (-1))(hn:(st.outer.getD u (-1)).toNat≠st.af v):∀(w:Nat),w < st.outer.length->u∈st.way w v->(st.outer.getD u (-1)).toNat∈st.way w v:=by
 intro w
 induction w using Nat.strongRecOn with
 |_ w ih=>
  intro hw hm;by_cases e:w=st.af v
  ·rw[h.qT Zo e]at hm;cases hm
  ·have hl:=h.eZ w;rw[h.qV Zo e]at hm|-;rcases Q9.1 hm with rfl|hm
   ·rw[if_neg Zo,h.qV Zo hn];exact QA _ (QB ..)
   ·by_cases c:st.outer.getD w (-1) < 0
    ·rw[if_pos c]at hm;cases hm
    ·rw[if_neg c]at hm|-;exact QA _ (ih _ Zo Zo hm)
section
variable {st:ah} (h:Ph st)
include h
theorem Ph.AP {u o:Nat}(hu:u < st.outer.length)(ho:o∈st.line u)(hn:o≠u):o∈(st.line u).drop 1:=by
 rw[h.wf.line Zo]at ho|-;rcases Q9.1 ho with k|k
 ·exact absurd k hn
 ·simpa using k
theorem Ph.Je {u v:Nat}(hq:(u,v)∈st.uses)(hn:st.af v≠u):(st.af v,st.bD v)∈st.copied u/\(st.bD v < 0->st.rem v=true):=by
 obtain⟨h1,h2⟩:=h.wf.uu _ hq;obtain⟨k1,k2,k3⟩:=h.wf.var h2;have hl:=h.us _ hq;refine⟨iE.2 ⟨h.AP h1 hl hn,iF.2 ⟨rfl,k2,k3⟩,?_⟩,fun hneg=>?_⟩
 ·unfold ah.bg;rw[vY];refine⟨_,hq,?_⟩;simp only[vF,decide_eq_true_eq,true_and];rw[h.wf.qV (by have:=h1;simp only at this;omega) (fun e=>hn e.symm)];exact QB ..
 ·unfold ah.rem;rw[vY];refine⟨_,hq,?_⟩;simp only[vF,decide_eq_true_eq,true_and];exact⟨hneg,hn⟩
theorem Ph.rF {u:Nat}(hu:u < st.outer.length){t:Nat×Int}(ht:t∈st.copied u):0<=st.outer.getD u (-1)/\(t.1=(st.outer.getD u (-1)).toNat∨t∈st.copied (st.outer.getD u (-1)).toNat)/\t.1 < st.outer.length/\t.1≠u/\-1<=t.2/\t.2 < st.args.getD t.1 0:=by
 obtain⟨h1,h2,h3⟩:=iE.1 ht;obtain⟨_,h4,h5⟩:=iF.1 h2;have nP:=h.wf.eZ u;rw[h.wf.line Zo]at h1;simp only[List.drop_succ_cons,List.drop_zero]at h1;by_cases c:st.outer.getD u (-1) < 0
 ·rw[if_pos c]at h1;cases h1
 rw[if_neg c]at h1;have hle:=h.wf.ue _ Zo _ h1;refine⟨Zo,?_,Zo,Zo,h4,h5⟩;by_cases e:t.1=(st.outer.getD u (-1)).toNat
 ·exact .inl e
 refine .inr (iE.2 ⟨h.AP Zo h1 e,h2,?_⟩);unfold ah.bg at h3|-;rw[vY]at h3|-;obtain⟨q,hq,k⟩:=h3;refine⟨q,hq,?_⟩;simp only[vF,decide_eq_true_eq]at k|-;refine⟨k.1,h.wf.XF Zo ?_ q.1 (h.wf.uu q hq).1 k.2⟩;have:=congrArg Prod.fst k.1;simp only at this;rw[this];exact fun e2=>e e2.symm
theorem Ph.SM {u:Nat}{t:Nat×Int}(ht:t∈st.copied u)(hn:t.2 < 0):0 < (st.locals t.1 true).length:=by
 obtain⟨h1,h2,h3⟩:=iE.1 ht;unfold ah.bg at h3;rw[vY]at h3;obtain⟨q,hq,k⟩:=h3;simp only[vF,decide_eq_true_eq]at k;obtain⟨h5,h6⟩:=h.wf.uu q hq;have e1:st.af q.2=t.1:=congrArg Prod.fst k.1;have e2:st.bD q.2=t.2:=congrArg Prod.snd k.1;have cF:st.af q.2≠q.1:=fun e=>by
  have k2:=k.2;rw[h.wf.qT Zo e.symm]at k2;cases k2
 have hr:st.rem q.2=true:=by
  unfold ah.rem;rw[vY];refine⟨q,hq,?_⟩;simp only[vF,decide_eq_true_eq,true_and];exact⟨Zo,cF⟩
 apply List.length_pos_of_mem (a:=q.2);unfold ah.locals;rw[QC];refine⟨QG.2 h6,?_⟩;simp only[vF,decide_eq_true_eq];exact⟨⟨e1,Zo⟩,hr⟩
theorem Ph.oX {i v:Nat}(hv:oX st i v=true):v < st.vars.length/\(st.af v=i∨((st.af v,st.bD v)∈st.copied i/\(st.bD v < 0->st.rem v=true))):=by
 unfold V.oX at hv;simp only[vF,vO,decide_eq_true_eq]at hv;obtain⟨h1,h2⟩:=hv;refine⟨h1,?_⟩;by_cases e:st.af v=i
 ·exact .inl e
 ·rcases h2 with h2|h2
  ·exact .inl h2
  ·exact .inr (h.Je h2 e)
end
theorem pY(st:ah)(i:Nat)(r:Bool):st.locals i r=(st.ab i).filter fun v=>decide (st.rem v=r):=by
 unfold ah.locals ah.ab;rw[List.filter_filter];refine List.filter_congr fun v _=>?_
 rw[Bool.and_comm]
theorem Gn(st:ah)(i:Nat):(st.ab i).Nodup:=List.Pairwise.filter _ QM
theorem Ek {α:Type}[DecidableEq α]{a b:List α}{x:α}(h:x∉a):(a++x::b).findIdx? (fun y=>decide (y=x))=some a.length:=by
 induction a with
 |nil=>simp[vw]
 |cons y a ih=>
  have h1:y≠x:=fun e=>h (by simp[e])
  rw[vf,vw,Zf h1];simp only[vJ,if_false];rw[ih (fun e=>h (by simp[e]))];rfl
theorem Pf {α:Type}[DecidableEq α]{a b:List α}{x:α}(h:x∉a):mg (a++x::b) x=a.length:=by
 unfold mg;rw[Ek h]
def ah.bN(st:ah)(v:Nat):Int:=mg (st.locals (st.af v) (st.rem v)) v
theorem Ko {st:ah}{i j v:Nat}(hj:(st.ab i)[j]? =some v):st.bN v=(((st.ab i).take j).filter fun w=>decide (st.rem w=st.rem v)).length:=by
 have hm:v∈st.ab i:=Zv hj;have hu:st.af v=i:=by
  unfold ah.ab at hm;have:=(QC.1 hm).2;simp only[vF,decide_eq_true_eq]at this;exact this.1
 have hl:=(Vh.1 hj).1;have hs:st.ab i=(st.ab i).take j++v::(st.ab i).drop (j+1):=by
  have e:=(Vh.1 hj).2;rw[<- e,<- vh hl,QZ]
 have hn:=Gn st i;rw[hs,QK]at hn;unfold ah.bN;rw[hu,pY]
 conv=>lhs;rw[hs]
 rw[vp,vq,if_pos Zs];exact Pf fun hv=>hn.2.2 v (QC.1 hv).1 v Zs rfl
def qU(U:List UC)(j:Nat):Nat:=((U[j]?).map UC.q).getD 0
def z4(U:List UC)(l:List (Nat×Int)):List (Nat×Int):=l.map fun t=>(qU U t.1,t.2)
structure eP (st:ah)(L:Nat)(U:List UC)(V:List au):Prop where
 wf:Wf st
 ul:U.length=st.outer.length
 vl:V.length=st.vars.length
 inj:(U.map UC.q).Nodup
 ar:∀(i:Nat) u,U[i]? =some u->u.args=st.args.getD i 0/\u.num=i
 ou:∀(i:Nat) u,U[i]? =some u->u.outer=(if st.outer.getD i (-1) < 0 then none else(U[(st.outer.getD i (-1)).toNat]?).map UC.q)
 tm:∀(i:Nat) u,U[i]? =some u->u.ab=(st.ab i).map (fun v=>(V.getD v yM).q)/\kY 1 u.tv u.ab.length (u.ab.map fun b=>kL (some b)) u.ic
 nd:∀(i:Nat) u,U[i]? =some u->∃m:List ((Nat×Int)×Int),fY u.es u.cl m/\(m.map (·.1)).Nodup/\(∀p∈m,(∃(j:Nat) (w:UC),U[j]? =some w/\p.1.1=w.q)/\0 < p.2/\p.2<=st.uses.length)/\
  ∀(j:Nat) (w:UC) (a:Int),U[j]? =some w->((ky (w.q,a) m).isSome=true↔st.bg i (j,a)=true)
 vn:∀(v:Nat) x y,st.vars[v]? =some x->V[v]? =some y->(∃w,U[x.unit]? =some w/\y.unit=w.q)/\y.arg=x.own/\y.remote=st.rem v/\(x.own < 0->x.unit < L->(y.slot:Int)=st.bN v)
 nl:∀(i:Nat) u,U[i]? =some u->L<=i->u.locals=0/\u.ay=0/\u.de=[]/\u.cv=Nz/\u.bZ=[]
 la:∀(i:Nat) u,U[i]? =some u->i < L->u.locals=(st.locals i false).length/\u.ay=(st.locals i true).length/\u.de=z4 U (st.copied i)/\kY 2 u.cv u.de.length (u.de.flatMap jP) u.bZ
theorem cy.laid {st:ah}{U:List UC}{V:List au}(h:cy st U V):eP st 0 U V:=
 ⟨h.wf,h.ul,h.vl,h.inj,fun i u hu=>⟨(h.un i u hu).1,(h.un i u hu).2.2.2.1⟩,h.ou,h.tm,h.nd,fun v x y hx hy=>by
   obtain⟨h1,h2,h3,h4,h5⟩:=h.vn v x y hx hy;exact⟨h1,h2,h4,fun _ hl=>by omega⟩,fun i u hu _=>by
   obtain⟨_,h1,h2,_,h3,h4,h5⟩:=h.un i u hu;exact⟨h1,h2,h3,h4,h5⟩,fun i u hu hl=>by omega⟩
def I2(st:ah)(V:List au)(l:List Nat):List au:=V.mapIdx fun v y=>{y with slot:=if v∈l then(st.bN v).toNat else y.slot}
theorem fQ {st:ah}{V:List au}{l:List Nat}{v:Nat}{y:au}(h:V[v]? =some y):(I2 st V l)[v]? =some {y with slot:=if v∈l then(st.bN v).toNat else y.slot}:=by
 unfold I2;rw[List.getElem?_mapIdx,h];rfl
theorem qJ(st:ah)(V:List au)(l:List Nat):(I2 st V l).length=V.length:=by unfold I2;simp
theorem Xm(st:ah)(V:List au):I2 st V []=V:=by
 apply vm;intro v;cases h:V[v]? with
 |none=>
  rw[Vg]at h|-;rw[qJ];exact h
 |some y=>rw[fQ h];simp
theorem Ge {st:ah}{V:List au}{l:List Nat}{v:Nat}{y:au}(h:(I2 st V l)[v]? =some y):∃y0,V[v]? =some y0/\y={y0 with slot:=if v∈l then(st.bN v).toNat else y0.slot}:=by
 cases h0:V[v]? with
 |none=>
  rw[Vg]at h0;have:=(Vh.1 h).1;rw[qJ]at this;omega
 |some y0=>
  rw[fQ h0]at h;exact⟨y0,rfl,(X0 h).symm⟩
theorem YK(st:ah)(V:List au)(l:List Nat):(I2 st V l).map au.q=V.map au.q:=by
 apply vm;intro v;rw[Vi,Vi];cases h:V[v]? with
 |none=>
  have:(I2 st V l)[v]? =none:=by
   rw[Vg]at h|-;rw[qJ];exact h
  rw[this]
 |some y=>rw[fQ h];rfl
theorem Xn {st:ah}{V:List au}{l:List Nat}{v:Nat}{y:au}(h:V[v]? =some y){y':au}(hy':(I2 st V l)[v]? =some y'):(I2 st V l).set v {y' with slot:=(st.bN v).toNat}=I2 st V (l++[v]):=by
 have hb:=Ge hy';obtain⟨y0,h0,h1⟩:=hb;rw[h]at h0;obtain rfl:=X0 h0;apply vm;intro w;rw[Vl];by_cases e:v=w
 ·subst e;rw[if_pos rfl,if_pos (Vh.1 hy').1,fQ h,h1];have hm:v∈l++[v]:=by simp
  rw[if_pos hm]
 ·rw[if_neg e];cases hw:V[w]? with
  |none=>
   have h2:∀m:List Nat,(I2 st V m)[w]? =none:=fun m=>by
    rw[Vg]at hw|-;rw[qJ];exact hw
   rw[h2,h2]
  |some z=>
   rw[fQ hw,fQ hw];have:(w∈l++[v])↔w∈l:=by
    rw[Q7,QI];exact⟨fun k=>k.elim id fun k=>absurd k.symm e,.inl⟩
   by_cases c:w∈l
   ·rw[if_pos c,if_pos (this.2 c)]
   ·rw[if_neg c,if_neg fun k=>c (this.1 k)]
def y8(st:ah)(l:List Nat)(r:Bool):Nat:=(l.filter fun w=>decide (st.rem w=r)).length
theorem wk_lay {U:List UC}{V:List au}{i v:Nat}{u:UC}{y:au}(hu:U[i]? =some u)(hv:V[v]? =some y):∃R,(WK U V).Perm (kA y.q 4 [.int .i64 y.slot]++(kA u.q 1 [.int .i64 u.locals,.int .i64 u.ay]++R))/\
 ∀(l' n' s':Nat),(WK (U.set i {u with locals:=l',ay:=n'}) (V.set v {y with slot:=s'})).Perm (kA y.q 4 [.int .i64 s']++(kA u.q 1 [.int .i64 l',.int .i64 n']++R)):=by
 obtain⟨RU,h1⟩:=ir UC.atoms hu;obtain⟨RV,h2⟩:=ir au.atoms hv;have hA:∀(l' n':Nat),({u with locals:=l',ay:=n'}:UC).atoms.Perm (kA u.q 1 [.int .i64 l',.int .i64 n']++(.own u.q 9::(kA u.q 0 [.int .i64 u.args]++(kA u.q 3 [kL u.outer,.int .i64 u.num,u.tv,.map (some u.nb),u.cv,u.body]++(ai u.tv (u.ab.map fun b=>kL (some b)) u.ic++(ai u.cv (u.de.flatMap jP) u.bZ++[.obj u.nb (.map u.es u.cl)])))))):=fun l' n'=>by
  unfold UC.atoms UC.row;have e:kA u.q 0 [.int .i64 u.args,.int .i64 l',.int .i64 n',kL u.outer,.int .i64 u.num,u.tv,.map (some u.nb),u.cv,u.body]=kA u.q 0 [.int .i64 u.args]++(kA u.q 1 [.int .i64 l',.int .i64 n']++kA u.q 3 [kL u.outer,.int .i64 u.num,u.tv,.map (some u.nb),u.cv,u.body]):=rfl;simp only;rw[e,vZ,vZ];exact QO (kB.own u.q 9::kA u.q 0 [.int .i64 u.args]) _ _
 have hB:∀s':Nat,({y with slot:=s'}:au).atoms.Perm (kA y.q 4 [.int .i64 s']++kA y.q 0 [kL (some y.unit),.int .i64 y.arg,.bool y.fixed,.bool y.remote]):=fun s'=>by
  unfold au.atoms au.row;have e:kA y.q 0 [kL (some y.unit),.int .i64 y.arg,.bool y.fixed,.bool y.remote,.int .i64 s']=kA y.q 0 [kL (some y.unit),.int .i64 y.arg,.bool y.fixed,.bool y.remote]++kA y.q 4 [.int .i64 s']:=rfl;simp only;rw[e];exact QN
 obtain⟨XU,hXU⟩:∃X,X=(kB.own u.q 9::(kA u.q 0 [.int .i64 u.args]++(kA u.q 3 [kL u.outer,.int .i64 u.num,u.tv,.map (some u.nb),u.cv,u.body]++(ai u.tv (u.ab.map fun b=>kL (some b)) u.ic++(ai u.cv (u.de.flatMap jP) u.bZ++[.obj u.nb (.map u.es u.cl)]))))):=⟨_,rfl⟩;obtain⟨XV,hXV⟩:∃X,X=kA y.q 0 [kL (some y.unit),.int .i64 y.arg,.bool y.fixed,.bool y.remote]:=⟨_,rfl⟩;rw[<- hXU]at hA;rw[<- hXV]at hB;have key:∀(l' n' s':Nat),(WK (U.set i {u with locals:=l',ay:=n'}) (V.set v {y with slot:=s'})).Perm (kA y.q 4 [.int .i64 s']++(kA u.q 1 [.int .i64 l',.int .i64 n']++(XU++(RU++(XV++RV))))):=fun l' n' s'=>by
  unfold WK;refine List.Perm.trans (List.Perm.append ((h1 _).trans (vV _ (hA l' n'))) ((h2 _).trans (vV _ (hB s')))) ?_;generalize kA y.q 4 [.int .i64 s']=A;generalize kA u.q 1 [.int .i64 l',.int .i64 n']=B;simp only[vZ];refine List.Perm.trans (l₂:=(B++(XU++RU))++(A++(XV++RV))) (by simp only[vZ];exact vW _) ?_;refine QO _ _ _|>.trans ?_
  refine vU _ ?_;simp only[vZ];exact vW _
 refine⟨_,?_,key⟩;have:=key u.locals u.ay y.slot;have e1:U.set i {u with locals:=u.locals,ay:=u.ay}=U:=wt hu;have e2:V.set v {y with slot:=y.slot}=V:=wt hv
 rwa [e1,e2]at this
theorem eP.step {st:ah}{U:List UC}{V:List au}{i:Nat}{u:UC}(h:eP st i U V)(hu:U[i]? =some u){cv:Value}{bZ:List Value}(hc:kY 2 cv (z4 U (st.copied i)).length ((z4 U (st.copied i)).flatMap jP) bZ):
 eP st (i+1) (U.set i {u with locals:=(st.locals i false).length,ay:=(st.locals i true).length,de:=z4 U (st.copied i),cv:=cv,bZ:=bZ}) (I2 st V (st.ab i)):=by
 obtain⟨u',n9⟩:∃u':UC,u'={u with locals:=(st.locals i false).length,ay:=(st.locals i true).length,de:=z4 U (st.copied i),cv:=cv,bZ:=bZ}:=⟨_,rfl⟩;rw[<- n9];have GP:(U.set i u').map UC.q=U.map UC.q:=zD hu (by rw[n9]);have Lk:=Cr GP;have UJ:∀l,z4 (U.set i u') l=z4 U l:=fun l=>Q1 fun t _=>by unfold qU;rw[Lk]
 have aC:∀{j:Nat} {w:UC},(U.set i u')[j]? =some w->(j=i/\w=u')∨(j≠i/\U[j]? =some w):=fun hj=>iK hu hj
 have hfw:∀{j:Nat} {w:UC},(U.set i u')[j]? =some w->∃w0,U[j]? =some w0/\w.q=w0.q/\w.args=w0.args/\w.num=w0.num/\w.outer=w0.outer/\w.ab=w0.ab/\w.tv=w0.tv/\w.ic=w0.ic/\w.es=w0.es/\w.cl=w0.cl:=fun {j w} hj=>by
  rcases aC hj with⟨rfl,rfl⟩|⟨_,h2⟩
  ·exact⟨u,hu,by rw[n9],by rw[n9],by rw[n9],by rw[n9],by rw[n9],by rw[n9],by rw[n9],by rw[n9],by rw[n9]⟩
  ·exact⟨w,h2,rfl,rfl,rfl,rfl,rfl,rfl,rfl,rfl,rfl⟩
 have ej:∀{j:Nat} {w:UC},U[j]? =some w->∃w',(U.set i u')[j]? =some w'/\w'.q=w.q:=fun {j w} hj=>by
  have:=Lk j;rw[hj]at this;cases e:(U.set i u')[j]? with
  |none=>rw[e]at this;cases this
  |some w'=>rw[e]at this;exact⟨w',rfl,X0 this⟩
 refine⟨h.wf,by rw[Vx];exact h.ul,by rw[qJ];exact h.vl,by rw[GP];exact h.inj,fun j w hj=>?_,fun j w hj=>?_,fun j w hj=>?_,fun j w hj=>?_,fun v x y hx hy=>?_,fun j w hj hl=>?_,fun j w hj hl=>?_⟩
 ·obtain⟨w0,h1,_,h3,h4,_⟩:=hfw hj;rw[h3,h4];exact h.ar j w0 h1
 ·obtain⟨w0,h1,_,_,_,h5,_⟩:=hfw hj;rw[h5,Lk];exact h.ou j w0 h1
 ·obtain⟨w0,h1,_,_,_,_,h6,h7,h8,_⟩:=hfw hj;rw[h6,h7,h8];refine⟨(h.tm j w0 h1).1.trans (Q1 fun v hv=>?_),(h.tm j w0 h1).2⟩;have hl:=yJ hv;have e:=congrArg (fun l=>l[v]?) (YK st V (st.ab i));simp only[Vi]at e;obtain⟨y,hy⟩:∃y,V[v]? =some y:=⟨_,Zg (by rw[h.vl];exact hl)⟩;rw[V8,V8,hy,fQ hy];rfl
 ·obtain⟨w0,h1,_,_,_,_,_,_,_,h9,Dz⟩:=hfw hj;rw[h9,Dz];obtain⟨m,k1,k2,k3,k4⟩:=h.nd j w0 h1;refine⟨m,k1,k2,fun p hp=>?_,fun a z b ha=>?_⟩
  ·exact zDS
  ·obtain⟨z',k8,k9,_⟩:=hfw ha;rw[k9];exact k4 a z' b k8
 ·obtain⟨y0,k1,k2⟩:=Ge hy;obtain⟨⟨z,h1,h2⟩,h3,h4,h5⟩:=h.vn v x y0 hx k1;obtain⟨z',k8,k9⟩:=ej h1;rw[k2];refine⟨⟨z',k8,h2.trans k9.symm⟩,h3,h4,fun ho hl=>?_⟩;simp only;have CR:=(Vh.1 hx).1;by_cases e:x.unit=i
  ·have hm:v∈st.ab i:=by
    unfold ah.ab;rw[QC];refine⟨QG.2 CR,?_⟩;simp only[vF,decide_eq_true_eq];rw[nI hx,x9 hx];exact⟨e,ho⟩
   rw[if_pos hm];obtain⟨j,hj⟩:=Vj hm;have:=Ko hj;omega
  ·have hm:v∉st.ab i:=fun hm=>e (by
    unfold ah.ab at hm;have:=(QC.1 hm).2;simp only[vF,decide_eq_true_eq]at this;rw[nI hx]at this;exact this.1)
   rw[if_neg hm];exact h5 ho Zo
 ·rcases aC hj with⟨rfl,_⟩|⟨_,h2⟩
  ·omega
  ·exact h.nl j w h2 Zo
 ·rw[UJ];rcases aC hj with⟨rfl,rfl⟩|⟨cF,h2⟩
  ·rw[n9];exact⟨rfl,rfl,rfl,hc⟩
  ·exact h.la j w h2 Zo
inductive Jm (T:List kB):PN->List Value->Prop
 |mk {k:Nat} {nm:ByteArray} {lit:Lt} {refs:List zV} {unit:Int} {iQ:Bool} {kids:List PN} {lv:List Value} {rv:Value} {a:Option Addr} {c bk o:Nat} {us:Nat->List Value} (hl:zN T lit lv) (hr:js T rv refs)
   (ha:0 < kids.length->a=some ⟨bk,o,none⟩) (hm:∀i,i < kids.length->∀y∈kA bk (o+i*11) (us i),y∈T) (hs:∀i x,kids[i]? =some x->Jm T x (us i)):
   Jm T (.mk k nm lit refs unit iQ kids) ([cv k,.string nm]++lv++[rv,.int .i64 unit,.bool iQ,.slice a kids.length c])
theorem Jm.len {T:List kB}{x:PN}{vs:List Value}(h:Jm T x vs):vs.length=11:=by
 cases h with
 |mk hl=>simp[hl.len]
theorem Jm.more {T T':List kB}(hs:∀x∈T,x∈T'){x:PN}{vs:List Value}(h:Jm T x vs):Jm T' x vs:=by
 induction h with
 |mk hl hr ha hm hk ih=>exact .mk (hl.more hs) (hr.more hs) ha (fun i hi y hy=>hs _ (hm i hi y hy)) ih
structure eO (T:List kB)(l:List PN)(rows:List (List Value)):Prop where
 len:rows.length=l.length
 w:∀r∈rows,r.length=11
 rd:∀(i:Nat) x r,l[i]? =some x->rows[i]? =some r->Jm T x r
theorem eO.nil(T:List kB):eO T [] []:=⟨rfl,Zs,fun i x r h=>by simp at h⟩
theorem eO.more {T T':List kB}{l:List PN}{rows:List (List Value)}(h:eO T l rows)(hs:∀x∈T,x∈T'):eO T' l rows:=⟨h.len,h.w,fun i x r hx hr=>(h.rd i x r hx hr).more hs⟩
theorem eO.snoc {T:List kB}{l:List PN}{rows:List (List Value)}{x:PN}{r:List Value}(h:eO T l rows)(hx:Jm T x r):eO T (l++[x]) (rows++[r]):=by
 refine⟨by simp[h.len],fun r' sN=>?_,fun i y s hy hs=>?_⟩
 ·exact zEH
 ·exact zAR
def uK(T:List kB)(v:Value)(l:List PN):Prop:=∃(a:Option Addr) (c bk o:Nat) (us:Nat->List Value),v=.slice a l.length c/\(0 < l.length->a=some ⟨bk,o,none⟩)/\(∀i,i < l.length->∀y∈kA bk (o+i*11) (us i),y∈T)/\∀i x,l[i]? =some x->Jm T x (us i)
theorem uK.nil(T:List kB):uK T Nz []:=⟨none,0,0,0,fun _=>[],rfl,fun h=>absurd h Zs,fun i hi=>absurd hi Zs,fun i x h=>by simp at h⟩
theorem uK.more {T T':List kB}{v:Value}{l:List PN}(h:uK T v l)(hs:∀x∈T,x∈T'):uK T' v l:=by
 obtain⟨a,c,bk,o,us,h1,h2,h3,h4⟩:=h;exact⟨a,c,bk,o,us,h1,h2,fun i hi y hy=>hs _ (h3 i hi y hy),fun i x hx=>(h4 i x hx).more hs⟩
theorem Kh {B:List kB}{l:List PN}{sv:Value}{rows:List (List Value)}{sp:List Value}(bh:kY 11 sv l.length rows.flatten sp)(hr:eO B l rows):uK (ai sv rows.flatten sp++B) sv l:=by
 have aC:∀i,i < l.length->rows[i]? =some (rows.getD i []):=fun i hi=>by
  exact zDZ
 have eA:∀y∈B,y∈ai sv rows.flatten sp++B:=fun y hy=>Q8 _ hy
 generalize hm:l.length=m at bh;generalize A7:rows.flatten=xs at bh|-;cases bh with
 |@mk bk o _ c _ _ h1 h2 h3=>
  rw[<- hm];subst A7;refine⟨_,c,bk,o,fun i=>rows.getD i [],rfl,fun _=>rfl,fun i hi y hy=>?_,fun i x hx=>?_⟩
  ·exact zD7
  ·have hi:=(Vh.1 hx).1;exact(hr.rd i x _ hx (aC i hi)).more eA
 |nil=>
  have h0:l=[]:=vj hm;subst h0;exact uK.nil _
theorem p_made {T:List kB}{k:Nat}{nm:ByteArray}{lit:Lt}{refs:List zV}{unit:Int}{iQ:Bool}{kids:List PN}{lv:List Value}{rv sv:Value}(aI:zN T lit lv)(GU:js T rv refs)(hk:uK T sv kids):
 Jm T (.mk k nm lit refs unit iQ kids) ([cv k,.string nm]++lv++[rv,.int .i64 unit,.bool iQ,sv]):=by
 obtain⟨a,c,bk,o,us,rfl,h2,h3,h4⟩:=hk;exact .mk (bk:=bk) (o:=o) (us:=us) aI GU h2 h3 h4
theorem RG {T:List kB}{x:PN}{ws:List Value}(h:Jm T x ws):∃(e1:Nat) (e2:Int) (e3:Nat) (e4:ByteArray) (e5:Option Addr) (e7:Nat) (r1:Option Addr) (r3:Nat) (k1:Option Addr) (k3 bk o:Nat) (us:Nat->List Value),
 ws=(rP x.kind x.name e1 e2 e3 e4 e5 x.lit.items.length e7 r1 x.refs.length r3 x.unit x.super k1 x.kids.length k3)/\
 zN T x.lit [.int .u8 e1,.int .i64 e2,.int .u64 e3,.string e4,.slice e5 x.lit.items.length e7]/\js T (.slice r1 x.refs.length r3) x.refs/\(0 < x.kids.length->k1=some ⟨bk,o,none⟩)/\(∀i,i < x.kids.length->∀y∈kA bk (o+i*11) (us i),y∈T)/\∀i y,x.kids[i]? =some y->Jm T y (us i):=by
 cases h with
 |@mk k nm lit refs unit iQ kids lv rv a c bk o us hl hr ha hm hs=>
  have sN:=hr;obtain⟨r1,r3,rfl,_⟩:=hr;have qZ:=hl;cases hl with
  |mk Nw GL pC ez=>exact⟨_,_,_,_,_,_,r1,r3,a,c,bk,o,us,rfl,qZ,sN,ha,hm,hs⟩
theorem Bu {B:List kB}{sv:Value}{rs:List zV}{sp:List Value}(bh:kY 4 sv rs.length (rs.flatMap jS) sp):js (ai sv (rs.flatMap jS) sp++B) sv rs:=by
 generalize hm:rs.length=m at bh;generalize A7:rs.flatMap jS=xs at bh|-;cases bh with
 |@mk bk o _ c _ _ h1 h2 h3=>
  rw[<- hm];subst A7;refine⟨_,c,rfl,fun i r hi=>⟨bk,o,rfl,fun y hy=>?_⟩⟩;refine Zw _ ?_;simp only[ai,kd];refine Zw _ ?_;rw[vz];exact eD (rows:=rs.map jS) (fun r hr=>by obtain⟨z,_,rfl⟩:=QE.1 hr;rfl) (by rw[Vi,hi];rfl) y hy
 |nil=>
  have h0:rs=[]:=vj hm;subst h0;exact js.nil _
mutual
def PN.w:PN->Nat
 |.mk _ _ _ rs _ _ kids=>1+rs.length+PN.ws kids
def PN.ws:List PN->Nat
 |[]=>0
 |x::r=>PN.w x+PN.ws r
end
theorem PN.YM {x:PN}:∀{l:List PN},x∈l->PN.w x<=PN.ws l:=by
 intro l
 induction l with
 |nil=>intro h;cases h
 |cons y r ih=>
  intro h;simp only[PN.ws];exact zC9
theorem PN.fw(x:PN):0 < PN.w x:=by cases x;simp only[PN.w];omega
theorem PN.Pv:∀l:List PN,l.length<=PN.ws l:=by
 intro l
 induction l with
 |nil=>exact Qj _
 |cons x r ih=>have:=PN.fw x;simp only[PN.ws,Vp];omega
theorem Nc(b:Bool)(l:List PN):PN.ws (zK b l)=PN.ws l:=by
 have key:∀r:List PN,PN.ws (r.map (PN.ym b))=PN.ws r:=by
  intro r
  induction r with
  |nil=>rfl
  |cons x r ih=>cases x;simp only[Q3,PN.ws,ih];rfl
 cases l with
 |nil=>rfl
 |cons x r=>simp only[zK,PN.ws,key]
structure Bw (st:ah)(M:Nat):Prop where
 bd:∀l∈st.bodies,PN.ws l<=2*M
 ar:∀a∈st.args,a<=M
theorem Bw.of {a b:ah}{M:Nat}(h:Bw a M)(e:b.bodies=a.bodies)(e2:b.args=a.args):Bw b M:=⟨fun l hl=>h.bd l (by rw[<- e];exact hl),by rw[e2];exact h.ar⟩
theorem F0(F G:List ByteArray)(st:ah)(env:List Nat)(nm:ByteArray)(u:Nat)(p:Int)(put:Bool):(wF F G st env nm u p put).2.args=st.args:=by
 have hw:∀(e:Nat),(st.wrong e p).args=st.args:=fun e=>by unfold ah.wrong;split <;> rfl
 unfold wF;exact zDF
theorem o8(F G:List ByteArray)(st:ah)(env:List Nat)(nm:ByteArray)(u:Nat)(p:Int)(put:Bool):(wF F G st env nm u p put).2.bodies=st.bodies:=by
 have hw:∀(e:Nat),(st.wrong e p).bodies=st.bodies:=fun e=>by unfold ah.wrong;split <;> rfl
 unfold wF;exact zDF
theorem w_part(F G:List ByteArray)(M:Nat):∀(N:Nat) (x:Nd),x.size<=N->tA x<=M->∀st env u,Bw st M->
 (Bw (jF F G x st env u).2 M/\PN.w (jF F G x st env u).1<=2*tA x)/\(Bw (cH F G x st env u).2 M/\PN.w (cH F G x st env u).1+x.args.length<=2*tA x):=by
 intro N
 induction N with
 |zero=>intro x hx;have:=x.size_pos;omega
 |succ N ih=>
  have ap:∀l:List Nd,Nd.aq l<=N->jO l<=M->∀st env u,Bw st M->Bw (kT F G l st env u).2 M/\PN.ws (kT F G l st env u).1<=2*jO l:=by
   intro l
   induction l with
   |nil=>intro _ _ st env u h;rw[kT];exact⟨h,Qj _⟩
   |cons x r xB=>
    intro hl hM st env u h;simp only[Nd.aq]at hl;simp only[jO]at hM;rw[wL];obtain⟨h1,h2⟩:=(ih x Zo Zo st env u h).1;obtain⟨h3,h4⟩:=xB Zo Zo _ env u h1;refine⟨h3,?_⟩;simp only[PN.ws,jO];omega
  have pS:∀(s:ByteArray) (l:List Nd),Nd.aq l<=N->jO l<=M->∀i st env u,Bw st M->(∀k y,l[k]? =some y->kb s=5->dX s (i+k)=true->y.args.length=1)->
   Bw (jB F G s l i st env u).2.2 M/\PN.ws (jB F G s l i st env u).1+(jB F G s l i st env u).2.1.length<=2*jO l:=by
   intro s l
   induction l with
   |nil=>intro _ _ i st env u h _;rw[jB];exact⟨h,Qj _⟩
   |cons x r xB=>
    intro hl hM i st env u h ha;simp only[Nd.aq]at hl;simp only[jO]at hM;obtain⟨⟨h1,h2⟩,h3,h4⟩:=ih x Zo Zo st env u h;have iv:∀k y,r[k]? =some y->kb s=5->dX s (i+1+k)=true->y.args.length=1:=fun k y hy e1 e2=>ha (k+1) y (by simpa using hy) e1 (by rw[show i+(k+1)=i+1+k from by omega];exact e2)
    cases hi:dX s i with
    |true=>
     rw[dQ _ _ _ _ _ _ _ _ _ hi];obtain⟨k1,k2⟩:=xB Zo Zo (i+1) _ env u h3 iv;refine⟨k1,?_⟩;simp only[PN.ws,jO];split
     ·rename_i e5;have:=ha 0 x rfl e5 hi;rw[Vp];omega
     ·omega
    |false=>
     rw[zi _ _ _ _ _ _ _ _ _ hi];obtain⟨k1,k2⟩:=xB Zo Zo (i+1) _ env u h1 iv;refine⟨k1,?_⟩;simp only[PN.ws,jO];omega
  intro x hx hM st env u h;cases x with
  |mk k s lit args ab kids p=>
  simp only[Nd.size]at hx;simp only[tA,lN]at hM;have hk:Nd.aq kids<=N:=by omega
  have hkM:jO kids<=M:=by omega
  simp only[tA,lN];refine⟨?_,?_⟩
  ·cases bf:fD k s kids with
   |true=>
    rw[eE _ _ _ _ _ _ _ _ _ _ _ _ bf];have hf:zl (kb s) kids=true:=by
     unfold fD at bf;simp only[vF]at bf;exact bf.2
    obtain⟨k1,k2⟩:=pS s kids hk hkM 0 st env u h (fun j y hy e5 hi=>by
     rw[e5]at hf;obtain⟨hl,b,hb,_,sK⟩:=K4 hf;have:j=2:=by
      unfold dX at hi;rw[e5]at hi;simp only[decide_eq_true_eq]at hi;omega
     subst this;rw[hb]at hy;obtain rfl:=X0 hy;exact sK)
    refine⟨k1,?_⟩;simp only[PN.w];omega
   |false=>
    obtain⟨a1,a2⟩:=ap kids hk hkM st env u h;by_cases h1:k=1
    ·rw[nk _ _ _ _ _ _ _ _ _ _ _ _ bf h1];exact⟨h,by simp only[PN.w,PN.ws,Vw];omega⟩
    by_cases h2:k=2
    ·rw[np _ _ _ _ _ _ _ _ _ _ _ _ bf h2];exact⟨h.of (o8 _ _ _ _ _ _ _ _) (F0 _ _ _ _ _ _ _ _),by simp only[PN.w,PN.ws,Vp,Vw];omega⟩
    by_cases h3:k=3
    ·rw[nq _ _ _ _ _ _ _ _ _ _ _ _ bf h3];obtain⟨k3,k4⟩:=ap kids hk hkM (wF F G st env s u p true).2 env u (h.of (o8 _ _ _ _ _ _ _ _) (F0 _ _ _ _ _ _ _ _));exact⟨k3,by simp only[PN.w,Vp,Vw];omega⟩
    by_cases h7:k=7
    ·rw[ny _ _ _ _ _ _ _ _ _ _ _ _ bf h7];refine⟨?_,by simp only[PN.w,PN.ws,Vw];omega⟩;simp only;rw[zP];obtain⟨f1,f2,f3,f4⟩:=jn st.outer.length true true p args 0 (st.aM (u:Int) args.length) env;obtain⟨f5,f6,f7,f8⟩:=jn st.outer.length false true p ab 0 (kO st.outer.length true true p args 0 (st.aM (u:Int) args.length) env).1 (kO st.outer.length true true p args 0 (st.aM (u:Int) args.length) env).2;have hB:Bw (bn args ab p st env (u:Int)).1 M:=⟨fun l hl=>by
      have hl:l∈(kO st.outer.length false true p ab 0 (kO st.outer.length true true p args 0 (st.aM (u:Int) args.length) env).1 (kO st.outer.length true true p args 0 (st.aM (u:Int) args.length) env).2).1.bodies:=hl;rw[f7,f3]at hl;have hl:l∈st.bodies++[[]]:=hl;rcases Q7.1 hl with hl|hl
      ·exact h.bd l hl
      ·rw[QI.1 hl];exact Qs _,fun a ha=>by
      have ha:a∈(kO st.outer.length false true p ab 0 (kO st.outer.length true true p args 0 (st.aM (u:Int) args.length) env).1 (kO st.outer.length true true p args 0 (st.aM (u:Int) args.length) env).2).1.args:=ha;rw[f6,f2]at ha;have ha:a∈st.args++[args.length]:=ha;rcases Q7.1 ha with ha|ha
      ·exact h.ar a ha
      ·rw[QI.1 ha];omega⟩
     obtain⟨d5,d6⟩:=ap kids hk hkM (bn args ab p st env (u:Int)).1 (bn args ab p st env (u:Int)).2 st.outer.length hB;refine⟨fun l hl=>?_,d5.ar⟩;rcases List.mem_or_eq_of_mem_set hl with hl|rfl
     ·exact d5.bd l hl
     ·omega
    by_cases h8:k=8
    ·rw[nz _ _ _ _ _ _ _ _ _ _ _ _ bf h8];exact zDG
    by_cases h9:k=9
    ·rw[nA _ _ _ _ _ _ _ _ _ _ _ _ bf h9];exact zDG
    by_cases h6:k=6
    ·rw[nw _ _ _ _ _ _ _ _ _ _ _ _ bf h6];exact zDG
    by_cases h5:k=5
    ·rw[nu _ _ _ _ _ _ _ _ _ _ _ _ bf h5];exact⟨a1,by simp only[PN.w,Vw,Nc];omega⟩
    cases hs:jM kids with
    |true=>
     rw[gX _ _ _ _ _ _ _ _ _ _ _ _ bf ⟨h1,h2,h3,h5,h6,h7,h8,h9⟩ hs];have ht:Nd.aq kids.tail<=N/\jO kids.tail<=jO kids:=by
      cases kids with
      |nil=>exact⟨hk,Qj _⟩
      |cons x r=>simp only[Nd.aq]at hk;simp only[List.tail_cons,jO];exact⟨Zo,Zo⟩
     obtain⟨k1,k2⟩:=ap kids.tail ht.1 Zo st env u h;exact⟨k1,by simp only[PN.w,Vw];omega⟩
    |false=>
     rw[nt _ _ _ _ _ _ _ _ _ _ _ _ bf ⟨h1,h2,h3,h5,h6,h7,h8,h9⟩ hs];exact zDG
  ·rw[iz];obtain⟨f1,f2,f3,f4⟩:=jn u true false p args 0 st env;obtain⟨f5,f6,f7,f8⟩:=jn u false false p ab 0 (kO u true false p args 0 st env).1 (kO u true false p args 0 st env).2;obtain⟨d5,d6⟩:=ap kids hk hkM _ (kO u false false p ab 0 (kO u true false p args 0 st env).1 (kO u true false p args 0 st env).2).2 u (h.of (f7.trans f3) (f6.trans f2));refine⟨d5,?_⟩;simp only[PN.w,Vv,List.length_range',Nd.args];omega
theorem wH {b:Bool}{r:Rs}(h:kP b r≠none):b=true/\r≠none:=by
 unfold kP at h;split at h
 ·exact⟨by assumption,h⟩
 ·exact absurd rfl h
theorem ug {b:Bool}{r:Rs}(h:wy b r≠none):r≠none:=by
 rintro rfl;exact h rfl
theorem rI {r:Rs}(h:wm r≠none):r≠none:=by
 rintro rfl;exact h rfl
theorem Jt {r q:Rs}(h:nZ r q≠none):r≠none/\q≠none:=by
 cases r with
 |none=>exact absurd rfl h
 |some a=>cases q with
  |none=>exact absurd rfl h
  |some b=>exact⟨(fun e=>by cases e),(fun e=>by cases e)⟩
theorem xR:∀{l:List Rs},wZ l≠none->∀r∈l,r≠none:=by
 intro l
 induction l with
 |nil=>intro _ r hr;cases hr
 |cons x l ih=>
  intro h r hr;have h2:x≠none/\wZ l≠none:=by
   cases x with
   |none=>exact absurd rfl h
   |some a=>
    refine⟨(fun e=>by cases e),fun e=>h ?_⟩;simp only[wZ,e]
  rcases Q9.1 hr with rfl|hr
  ·exact h2.1
  ·exact ih h2.2 r hr
theorem WY {x:Nd}{p:Nat}{r:Rs}(h:Bm x p r≠none):r≠none:=by
 unfold Bm at h;have h2:=(wH h).2;split at h2
 ·exact rI h2
 ·exact h2
theorem qR {x:Nd}{p:Nat}{r:Rs}(h:jm x p r≠none):r≠none:=by
 unfold jm at h;exact WY (wH h).2
theorem El {x:Nd}{s:ByteArray}{r:Rs}(h:ze x s r≠none):r≠none:=by
 unfold ze at h;split at h
 ·exact h
 ·exact qR h
theorem Cf {p:Nat}:∀{l:List Nd},(∀r∈zo p l (wh l),r≠none)->∀y∈l,kN y≠none:=by
 intro l
 induction l with
 |nil=>intro _ y hy;cases hy
 |cons x l ih=>
  intro h y hy;simp only[wh,zo]at h;exact zDK
theorem Wk:∀{l:List Nd},(∀r∈oh l (wh l),r≠none)->∀y∈l,kN y≠none:=by
 intro l
 induction l with
 |nil=>intro _ y hy;cases hy
 |cons x l ih=>
  intro h y hy;simp only[wh,oh]at h;rcases Q9.1 hy with rfl|hy
  ·exact(wH (h _ (QB ..))).2
  ·exact ih (fun r hr=>h r (QA _ hr)) y hy
theorem Gk:∀{l:List Nd},(∀r∈wP l (wh l),r≠none)->∀y∈l,kN y≠none:=by
 intro l
 induction l with
 |nil=>intro _ y hy;cases hy
 |cons x l ih=>
  intro h y hy;cases l with
  |nil=>
   simp only[wh,wP]at h;obtain rfl:=QI.1 hy;have:=h _ (QB ..);split at this
   ·exact this
   ·exact qR this
  |cons z l=>
   simp only[wh,wP]at h;exact zDK
theorem Js {s:ByteArray}{l:List Nd}(h:gE s l (wh l)≠none):∀y∈l,kN y≠none:=by
 unfold gE at h;exact Cf (xR (ug (wH h).2))
theorem p8 {n:Nat}{l:List ByteArray}{r:Rs}(h:wx n l r≠none):(∀s∈l,wK s=true)/\r≠none:=by
 unfold wx at h;exact⟨vX.1 (wH h).1,ug (wH h).2⟩
theorem Rz {l:List Nd}(h:(match l,wh l with|[x],[r]=>jm x 1 r|_,_=>none)≠none):l.length=1/\∀y∈l,kN y≠none:=by
 match l,h with
 |[],h=>exact absurd rfl h
 |[x],h=>
  simp only[wh]at h;refine⟨rfl,fun y hy=>?_⟩;obtain rfl:=QI.1 hy;exact qR h
 |_::_::_,h=>exact absurd rfl h
theorem Hu {s:ByteArray}(h:wK s=true):oi s=true:=by
 unfold wK at h;rw[vF]at h;exact h.2
structure Cj (k:Nat)(s:ByteArray)(args ab:List ByteArray)(kids:List Nd):Prop where
 kind:1<=k/\k<=9
 Kd:k=1∨k=2->kids=[]
 onekid:k=3∨k=9->kids.length=1
 send:k=4->0 < kids.length
 casc:k=5->2 < kids.length
 name:k=2∨k=3->oi s=true
 free:k=3->wK s=true
 noargs:k≠7->args=[]/\ab=[]
 free2:k=7->(∀a∈args,wK a=true)/\∀a∈ab,wK a=true
 sP:∀y∈kids,kN y≠none
theorem C7 {k:Nat}{s:ByteArray}{lit:Lt}{args ab:List ByteArray}{kids:List Nd}{p:Int}(h:kN (.mk k s lit args ab kids p)≠none):Cj k s args ab kids:=by
 have hn:∀{l:List ByteArray},l.length=0->l=[]:=fun e=>vj e
 rw[kN]at h;unfold jU at h;split at h
 ·obtain⟨h1,h2⟩:=wH h;simp only[decide_eq_true_eq]at h1;have hk:kids=[]:=vj h1.1;exact⟨Zo,fun _=>hk,Zo,Zo,Zo,Zo,Zo,fun _=>⟨hn h1.2.2.1,hn h1.2.2.2⟩,Zo,fun y hy=>by rw[hk]at hy;cases hy⟩
 split at h
 ·obtain⟨h1,h2⟩:=wH h;simp only[vF,decide_eq_true_eq]at h1;have hk:kids=[]:=vj h1.1.1.1;exact⟨Zo,fun _=>hk,Zo,Zo,Zo,fun _=>h1.1.2,Zo,fun _=>⟨hn h1.1.1.2.1,hn h1.1.1.2.2⟩,Zo,fun y hy=>by rw[hk]at hy;cases hy⟩
 split at h
 ·obtain⟨h1,h2⟩:=wH h;simp only[vF,decide_eq_true_eq]at h1;obtain⟨h3,h4⟩:=Rz h2;exact⟨Zo,Zo,fun _=>h3,Zo,Zo,fun _=>Hu h1.2,fun _=>h1.2,fun _=>⟨hn h1.1.1.1,hn h1.1.1.2⟩,Zo,h4⟩
 split at h
 ·obtain⟨h1,h2⟩:=wH h;simp only[vF,decide_eq_true_eq]at h1
  match kids,h2 with
  |[],h2=>exact absurd rfl h2
  |x::l,h2=>
   simp only[wh]at h2;obtain⟨h3,h4⟩:=Jt h2;refine⟨Zo,Zo,Zo,fun _=>by simp,Zo,Zo,Zo,fun _=>⟨hn h1.1.1.1,hn h1.1.1.2⟩,Zo,fun y hy=>?_⟩;rcases Q9.1 hy with rfl|hy
   ·exact El h3
   ·exact Js h4 y hy
 split at h
 ·obtain⟨h1,h2⟩:=wH h;simp only[vF,decide_eq_true_eq]at h1;exact⟨Zo,Zo,Zo,Zo,Zo,Zo,Zo,fun _=>⟨hn h1.1.1,hn h1.1.2⟩,Zo,Js h2⟩
 split at h
 ·obtain⟨h1,h2⟩:=wH h;simp only[vF,decide_eq_true_eq]at h1
  match kids,h1,h2 with
  |[],_,h2=>exact absurd rfl h2
  |[_],_,h2=>exact absurd rfl h2
  |x::y::l,h1,h2=>
   simp only[wh]at h2;obtain⟨h3,h4⟩:=Jt (ug h2);refine⟨Zo,Zo,Zo,Zo,fun _=>h1.1.2.2.2,Zo,Zo,fun _=>⟨hn h1.1.2.1,hn h1.1.2.2.1⟩,Zo,fun z hz=>?_⟩;rcases Q9.1 hz with rfl|hz
   ·exact El h4
   ·exact Wk (l:=y::l) (xR h3) z hz
 split at h
 ·obtain⟨h1,h2⟩:=wH h;obtain⟨h3,h4⟩:=p8 h2;obtain⟨h5,h6⟩:=p8 h4;exact⟨Zo,Zo,Zo,Zo,Zo,Zo,Zo,fun e=>absurd (by assumption) e,fun _=>⟨h3,h5⟩,Gk (xR (rI h6))⟩
 split at h
 ·obtain⟨h1,h2⟩:=wH h;simp only[vF,decide_eq_true_eq]at h1;exact⟨Zo,Zo,Zo,Zo,Zo,Zo,Zo,fun _=>⟨hn h1.1.2.1,hn h1.1.2.2⟩,Zo,Cf (xR (ug (rI h2)))⟩
 split at h
 ·obtain⟨h1,h2⟩:=wH h;simp only[vF,decide_eq_true_eq]at h1;obtain⟨h3,h4⟩:=Rz h2;exact⟨Zo,Zo,fun _=>h3,Zo,Zo,Zo,Zo,fun _=>⟨hn h1.1.2.1,hn h1.1.2.2⟩,Zo,h4⟩
 ·exact absurd rfl h
theorem Rf {Q:Nd->Prop}(hQ:∀k s lit args ab kids p,Cj k s args ab kids->(∀y∈kids,Q y)->Q (.mk k s lit args ab kids p)):∀x,kN x≠none->Q x:=by
 have key:∀(N:Nat) (x:Nd),x.size<=N->kN x≠none->Q x:=by
  intro N
  induction N with
  |zero=>intro x hx;have:=x.size_pos;omega
  |succ N ih=>
   intro x hx h;cases x with
   |mk k s lit args ab kids p=>
   simp only[Nd.size]at hx;have hi:=C7 h;exact hQ k s lit args ab kids p hi fun y hy=>ih y (by have:=Nd.aH hy;omega) (hi.sP y hy)
 exact fun x=>key _ x (Qj _)
theorem Cj.okK {k:Nat}{s:ByteArray}{args ab:List ByteArray}{kids:List Nd}(h:Cj k s args ab kids):okK k kids=true:=by
 unfold V.okK;simp only[vF,vO,vL,decide_eq_true_eq,decide_eq_false_iff_not];refine⟨⟨⟨?_,?_⟩,h.kind⟩,?_⟩
 ·by_cases e:k=1∨k=2
  ·exact .inr (by rw[h.Kd e];rfl)
  ·exact .inl e
 ·by_cases e:k=5
  ·exact .inr (by have:=h.casc e;omega)
  ·exact .inl e
 ·by_cases e:k=4
  ·exact .inr (h.send e)
  ·exact .inl e
theorem Ke {l:List Nd}(h:∀y∈l,Rw y=true):qg l=true:=by
 induction l with
 |nil=>rfl
 |cons x r ih=>
  simp only[qg,vF];exact⟨h x Zs,ih fun y hy=>h y (by simp[hy])⟩
theorem Re:∀x,kN x≠none->x.w<=274877906944->Rw x=true:=Rf fun k s lit args ab kids p h hk hw=>by
 simp only[Nd.w]at hw;simp only[Rw,vF,decide_eq_true_eq];exact⟨⟨h.okK,Zo⟩,Ke fun y hy=>hk y hy (by have:=Nd.bY hy;omega)⟩
def refP(r:zV):Bool:=decide (0<=r.index)&&decide (0<=r.slot)&&decide (r.kind≠5/\r.kind≠6)&&decide (r.kind=8↔r.name≠e0)
mutual
def partP(n:Nat):PN->Bool
 |.mk k _ _ rs un _ kids=>rs.all refP&&(!decide (k=8)||decide (1<=un/\un < n))&&IG n kids
def IG(n:Nat):List PN->Bool
 |[]=>true
 |x::r=>partP n x&&IG n r
end
structure Pp (st:ah):Prop where
 pos:0 < st.outer.length
 bd:∀l∈st.bodies,IG st.outer.length l=true
 ro:∀(i:Nat) o,st.outer[i]? =some o->0 < i->0<=o
theorem sJ {α:Type}[DecidableEq α]{l:List α}{x:α}(h:x∈l):∃i,i < l.length/\l.findIdx? (fun y=>decide (y=x))=some i:=by
 cases e:l.findIdx? (fun y=>decide (y=x))with
 |none=>
  rw[List.findIdx?_eq_none_iff]at e;have:=e x h;simp at this
 |some i=>
  obtain⟨h1,_⟩:=List.findIdx?_eq_some_iff_getElem.1 e;exact⟨i,h1,rfl⟩
theorem Pe {α:Type}[DecidableEq α]{l:List α}{x:α}(h:x∈l):0<=mg l x/\mg l x < l.length:=by
 obtain⟨i,h1,h2⟩:=sJ h;unfold mg;rw[h2];simp only;omega
theorem xT {st:ah}{u v:Nat}{r:Bool}:v∈st.locals u r↔v < st.vars.length/\st.af v=u/\st.bD v < 0/\st.rem v=r:=by
 unfold ah.locals;rw[QC,QG];simp only[vF,decide_eq_true_eq,and_assoc]
def ah.frame(st:ah)(u:Nat):Int:=st.args.getD u 0+(st.copied u).length+(st.locals u false).length+(if 0 < (st.locals u true).length then 1 else 0)
def liesR(n:Int)(r:zV):Bool:=!(decide (r.index < 0)||decide (r.slot < 0)||(decide (r.kind=5∨r.kind=6)&&decide (n<=r.index))||(decide (r.kind=8) !=decide (r.name≠e0)))
mutual
def liesP(n m:Int):PN->Bool
 |.mk k _ _ rs un _ kids=>rs.all (liesR n)&&!(decide (k=8)&&(decide (un < 1)||decide (m<=un)))&&Ic n m kids
def Ic(n m:Int):List PN->Bool
 |[]=>true
 |x::r=>liesP n m x&&Ic n m r
end
theorem Gt(st:ah)(u:Nat):(st.aK u).frame=st.frame u:=by
 unfold yA.frame ah.aK ah.frame;simp only[Vv]
 congr 1
 by_cases c:0 < (st.locals u true).length
 ·rw[if_pos c,if_pos Zo]
 ·rw[if_neg c,if_neg Zo]
structure YZ (l:List yA)(i:Nat)(x:yA):Prop where
 args:0<=x.args
 locals:0<=x.locals
 outer:0 < i->0<=x.outer/\x.outer < i
 de:∀r∈x.copied,r.kind=5/\0<=r.index/\∃(o:Nat) (y:yA),x.outer=(o:Int)/\l[o]? =some y/\r.index < y.frame
 body:Ic x.frame l.length x.body=true
structure NN (st:ah)(n:Nat)(args:Nat):Prop where
 ph:Ph st
 first:st.outer[0]? =some (-1)/\st.args[0]? =some args
 bw:Bw st n
 less:st.vars.length<=n/\st.uses.length<=n/\st.outer.length<=n
def tz(args ab:List ByteArray)(kids:List Nd):Nat:=lN args ab (jO kids)
theorem NU(F G:List ByteArray):∀(l:List Nd) st env u,Ph st->u < st.outer.length->iW st env u->Ph (kT F G l st env u).2/\jy (oX (kT F G l st env u).2 u) (kT F G l st env u).1=true:=by
 intro l
 induction l with
 |nil=>intro st env u h hu he;rw[kT];exact⟨h,rfl⟩
 |cons x r ih=>
  intro st env u h hu he;rw[wL];have g1:=(zZ F G _ x (Qj _) st env u).1;obtain⟨h1,h2⟩:=(W3 F G _ x (Qj _) st env u h hu he).1;obtain⟨h3,h4⟩:=ih _ env u h1 (Qm hu g1.outer.length_le) (he.gr g1 h.wf h1.wf hu);exact zDL
theorem Y3(F G:List ByteArray)(M:Nat):∀(l:List Nd),jO l<=M->∀st env u,Bw st M->Bw (kT F G l st env u).2 M/\PN.ws (kT F G l st env u).1<=2*jO l:=by
 intro l
 induction l with
 |nil=>intro _ st env u h;rw[kT];exact⟨h,Qj _⟩
 |cons x r ih=>
  intro hM st env u h;simp only[jO]at hM;rw[wL];obtain⟨h1,h2⟩:=(w_part F G M _ x (Qj _) Zo st env u h).1;obtain⟨h3,h4⟩:=ih Zo _ env u h1;refine⟨h3,?_⟩;simp only[PN.ws,jO];omega
theorem NW(F G:List ByteArray):∀(l:List Nd) st env u,zO st (kT F G l st env u).2 (jO l):=by
 intro l
 induction l with
 |nil=>intro st env u;rw[kT];exact zO.refl st
 |cons x r ih=>
  intro st env u;rw[wL];exact(mY F G _ x (Qj _) st env u).1.trans (ih _ env u)
theorem ph0:Ph qK:=⟨⟨rfl,rfl,fun i o h=>by simp[qK]at h,fun v x h=>by simp[qK]at h,fun q h=>by simp[qK]at h⟩,fun q h=>by simp[qK]at h,fun i l h=>by simp[qK]at h⟩
theorem Xe(F G args ab:List ByteArray)(kids:List Nd):NN (s8 F G args ab kids) (tz args ab kids) args.length:=by
 unfold s8;rw[zP];have hU:Ph (qK.aM (-1) args.length):=ph0.aM ⟨Zo,Zd⟩;obtain⟨d1,d2⟩:=iH 0 true true 0 args 0 (qK.aM (-1) args.length) [] hU (Nat.zero_lt_one) (fun _=>by show 0+args.length<=args.length;omega) (fun v hv=>by cases hv);obtain⟨f1,f2,f3,f4⟩:=jn 0 true true 0 args 0 (qK.aM (-1) args.length) [];obtain⟨d3,d4⟩:=iH 0 false true 0 ab 0 _ _ d1 (by rw[f1];exact Nat.zero_lt_one) (fun e=>by cases e) d2;obtain⟨f5,f6,f7,f8⟩:=jn 0 false true 0 ab 0 (kO 0 true true 0 args 0 (qK.aM (-1) args.length) []).1 (kO 0 true true 0 args 0 (qK.aM (-1) args.length) []).2;obtain⟨D,hD⟩:∃D,D=bn args ab 0 qK [] (-1):=⟨_,rfl⟩;have JI:Ph D.1:=by rw[hD];exact d3
 have JJ:iW D.1 D.2 0:=by rw[hD];exact d4
 have hDo:D.1.outer=[-1]:=by rw[hD];exact f5.trans f1
 have hDa:D.1.args=[args.length]:=by rw[hD];exact f6.trans f2
 have hDb:D.1.bodies=[[]]:=by rw[hD];exact f7.trans f3
 have hDl:zO qK D.1 (1+(args.length+ab.length)):=by
  rw[hD];exact(rV qK (-1) args.length).trans ((wJ _ _ _ _ _ _ _ _).trans (wJ _ _ _ _ _ _ _ _))
 rw[<- hD];show NN ({(kT F G kids D.1 D.2 0).2 with bodies:=(kT F G kids D.1 D.2 0).2.bodies.set 0 (kT F G kids D.1 D.2 0).1}) _ _;obtain⟨h1,h2⟩:=NU F G kids D.1 D.2 0 JI (by rw[hDo];decide) JJ;have g:=wU F G kids D.1 D.2 0;obtain⟨b1,b2⟩:=Y3 F G (tz args ab kids) kids (by unfold tz lN;omega) D.1 D.2 0 ⟨fun l hl=>by
  rw[hDb,QI]at hl;rw[hl];exact Qs _,fun a ha=>by
  rw[hDa,QI]at ha;rw[ha];unfold tz lN;omega⟩
 have hL:=hDl.trans (NW F G kids D.1 D.2 0);refine⟨h1.body 0 h2,⟨?_,?_⟩,⟨fun l hl=>?_,b1.ar⟩,?_⟩
 ·obtain⟨t,ht⟩:=g.outer;show(kT F G kids D.1 D.2 0).2.outer[0]? =_;rw[<- ht,hDo];rfl
 ·obtain⟨t,ht⟩:=g.args;show(kT F G kids D.1 D.2 0).2.args[0]? =_;rw[<- ht,hDa];rfl
 ·rcases List.mem_or_eq_of_mem_set hl with hl|rfl
  ·exact b1.bd l hl
  ·unfold tz lN;omega
 ·obtain⟨l1,l2,l3⟩:=hL;have e1:qK.vars.length=0:=rfl;have e2:qK.uses.length=0:=rfl;have e3:qK.outer.length=0:=rfl;unfold tz lN;exact⟨by show(kT F G kids D.1 D.2 0).2.vars.length<=_;omega,by show(kT F G kids D.1 D.2 0).2.uses.length<=_;omega,by show(kT F G kids D.1 D.2 0).2.outer.length<=_;omega⟩
instance memDec (s:ByteArray)(l:List ByteArray):Decidable (s∈l):=decidable_of_iff (l.any (fun t=>decide (t=s))=true) (by
 rw[vY];exact⟨fun⟨t,h1,h2⟩=>of_decide_eq_true h2 ▸ h1,fun h=>⟨s,h,Zt rfl⟩⟩)
mutual
def fH(seen out:List ByteArray):Nd->List ByteArray
 |.mk k s _ args ab kids _=>jp (if k=7 then seen++args++ab else seen) (if(k=2∨k=3)/\wS s=0/\s∉seen/\s∉out then out++[s]else out) kids
def jp(seen out:List ByteArray):List Nd->List ByteArray
 |[]=>out
 |x::r=>jp seen (fH seen out x) r
end
def kn(F G:List ByteArray)(s:ByteArray):Bool:=F.any (fun t=>decide (t=s))||G.any (fun t=>decide (t=s))
structure zI (st:ah)(env:List Nat)(seen:List ByteArray):Prop where
 lt:∀v∈env,v < st.vars.length
 iff:∀nm,(jt st.vars env nm).isSome=true↔nm∈seen
theorem eV {vs:List eQ}{env:List Nat}{nm:ByteArray}:(jt vs env nm).isSome=true↔∃v∈env,(vs[v]?).map (·.name)=some nm:=by
 unfold jt;rw[List.find?_isSome];constructor
 ·rintro⟨v,h1,h2⟩
  exact⟨v,by simpa using h1,of_decide_eq_true h2⟩
 ·rintro⟨v,h1,h2⟩
  exact⟨v,by simpa using h1,Zt h2⟩
theorem zI.gr {a b:ah}{env:List Nat}{seen:List ByteArray}(h:zI a env seen)(g:a.vars <+:b.vars):zI b env seen:=by
 obtain⟨t,ht⟩:=g;refine⟨fun v hv=>?_,fun nm=>?_⟩
 ·have:=h.lt v hv;rw[<- ht,Vo];omega
 ·rw[<- h.iff nm,eV,eV];constructor
  ·rintro⟨v,h1,h2⟩
   rw[<- ht,VV (h.lt v h1)]at h2;exact⟨v,h1,h2⟩
  ·rintro⟨v,h1,h2⟩
   rw[<- ht];exact⟨v,h1,by rw[VV (h.lt v h1)];exact h2⟩
theorem zI.decl(unit:Nat)(arg own:Bool)(p:Int):∀(l:List ByteArray) (i:Nat) (st:ah) (env:List Nat) (seen:List ByteArray),zI st env seen->zI (kO unit arg own p l i st env).1 (kO unit arg own p l i st env).2 (seen++l)
 |[],_,st,env,seen,h=>by rw[vd];exact h
 |nm::r,i,st,env,seen,h=>by
  rw[kO,uY];obtain⟨s,hs⟩:∃s,s=(if(jt st.vars env nm).isSome=true then st.wrong 180 p else st):=⟨_,rfl⟩;have hv:s.vars=st.vars:=by
   rw[hs];split
   ·exact cY _ _ _
   ·rfl
  rw[<- hs];have pT:zI (s.aZ ⟨nm,unit,arg,if(arg&&own)=true then i else -1⟩) (env++[st.vars.length]) (seen++[nm]):=by
   have hl:(s.aZ ⟨nm,unit,arg,if(arg&&own)=true then i else -1⟩).vars=st.vars++[⟨nm,unit,arg,if(arg&&own)=true then i else -1⟩]:=by
    show s.vars++_=_;rw[hv]
   refine⟨fun v k=>?_,fun n=>?_⟩
   ·rw[hl,Vo,Vy];rcases Q7.1 k with k|k
    ·have:=h.lt v k;omega
    ·rw[QI.1 k];omega
   ·rw[eV,hl,Q7,<- h.iff n,eV,QI];constructor
    ·rintro⟨v,h1,h2⟩
     rcases Q7.1 h1 with k|k
     ·rw[VV (h.lt v k)]at h2;exact .inl ⟨v,k,h2⟩
     ·rw[QI.1 k,Va (Qj _),Qp]at h2;exact .inr (by simpa using h2.symm)
    ·rintro(⟨v,h1,h2⟩|rfl)
     ·exact⟨v,Zw _ h1,by rw[VV (h.lt v h1)];exact h2⟩
     ·exact⟨st.vars.length,Zs,Zs⟩
  have:=zI.decl unit arg own p r (i+1) _ _ _ pT
  rwa [vZ,QW]at this
mutual
theorem Uh(seen:List ByteArray):∀(x:Nd) (out:List ByteArray),∀s∈out,s∈fH seen out x
 |.mk k s lit args ab kids p,out,t,ht=>by
  rw[fH];refine zU _ kids _ t ?_;split
  ·exact Zw _ ht
  ·exact ht
theorem zU(seen:List ByteArray):∀(l:List Nd) (out:List ByteArray),∀s∈out,s∈jp seen out l
 |[],_,_,ht=>ht
 |x::r,out,t,ht=>by
  rw[jp];exact zU seen r _ t (Uh seen x out t ht)
end
def errW(e:Nat):Prop:=e=180∨e=181∨e=182
structure jd (F G:List ByteArray)(b:ah)(out bG:List ByteArray):Prop where
 ok:b.f=none->∀s∈bG,s∈out∨kn F G s=true
 bad:∀p,b.f=some (181,p)->∃s∈bG,kn F G s=false
 err:∀e p,b.f=some (e,p)->errW e
theorem jd.refl {F G:List ByteArray}{b:ah}{out:List ByteArray}(h:b.f=none):jd F G b out out:=⟨fun _ _ hs=>.inl hs,(fun p e=>by rw[h]at e;cases e),fun _ p e=>by rw[h]at e;cases e⟩
theorem jd.comp {F G:List ByteArray}{b c:ah}{out mid bG:List ByteArray}(h:jd F G b out mid)(k:b.f=none->jd F G c mid bG)(g:Gr b c)(hs:∀s∈mid,s∈bG):jd F G c out bG:=by
 cases e:b.f with
 |none=>
  have k:=k e;refine⟨fun hc s hm=>?_,k.bad,k.err⟩;rcases k.ok hc s hm with h1|h1
  ·exact h.ok e s h1
  ·exact .inr h1
 |some x=>
  have hc:=g.f x e;refine⟨fun hn=>(by rw[hc]at hn;cases hn),fun p hp=>?_,fun y p hp=>?_⟩
  ·rw[hc]at hp;obtain⟨s,h1,h2⟩:=h.bad p (by rw[e,hp]);exact⟨s,hs s h1,h2⟩
  ·rw[hc]at hp;exact h.err y p (by rw[e,hp])
theorem jd.of {F G:List ByteArray}{b c:ah}{out bG:List ByteArray}(h:jd F G b out bG)(e:c.f=b.f):jd F G c out bG:=⟨by rw[e];exact h.ok,by rw[e];exact h.bad,by rw[e];exact h.err⟩
theorem cO {F G:List ByteArray}(unit:Nat)(arg own:Bool)(p:Int):∀(l:List ByteArray) (i:Nat) (st:ah) (env:List Nat) (out:List ByteArray),st.f=none->jd F G (kO unit arg own p l i st env).1 out out
 |[],_,_,_,_,h=>jd.refl h
 |nm::r,i,st,env,out,h=>by
  rw[kO,uY];have h1:jd F G ((if(jt st.vars env nm).isSome=true then st.wrong 180 p else st).aZ ⟨nm,unit,arg,if(arg&&own)=true then i else -1⟩) out out:=by
   split
   ·have hf:((st.wrong 180 p).aZ ⟨nm,unit,arg,if(arg&&own)=true then i else -1⟩).f=some (180,p):=Ky h 180 p;exact⟨(fun e=>by rw[hf]at e;cases e),(fun q e=>by rw[hf]at e;cases e),fun e q k=>by rw[hf]at k;cases k;exact .inl rfl⟩
   ·exact jd.refl h
  exact h1.comp (fun hf=>cO unit arg own p r (i+1) _ _ out hf) (zE _ _ _ _ _ _ _ _) (fun _ hs=>hs)
theorem sI {l:List ByteArray}{s:ByteArray}:(l.findIdx? fun t=>decide (t=s)).isSome=l.any fun t=>decide (t=s):=by
 induction l with
 |nil=>rfl
 |cons x r ih=>
  rw[vw,List.any_cons];cases decide (x=s)with
  |true=>rfl
  |false=>simp only[vK,vJ,if_false,<- ih,Option.isSome_map]
theorem Fj {F G:List ByteArray}{st:ah}{env:List Nat}{seen out:List ByteArray}(s:ByteArray)(u:Nat)(p:Int)(put:Bool)(h:st.f=none)(hs:zI st env seen):
 jd F G (wF F G st env s u p put).2 out (if wS s=0/\s∉seen/\s∉out then out++[s]else out):=by
 by_cases hk:wS s=0;rotate_left
 ·rw[qq hk,if_neg (by simp[hk])];exact jd.refl h
 cases hv:jt st.vars env s with
 |some v=>
  have bf:s∈seen:=(hs.iff s).1 (by rw[hv];rfl);rw[if_neg (fun k=>k.2.1 bf)];cases hp:(put&&((st.vars[v]?).map (·.arg)).getD false)with
  |false=>rw[Fz hk hv hp];exact jd.refl h
  |true=>
   have hf:=Fy (F:=F) (G:=G) (u:=u) (p:=p) hk hv hp h;exact⟨(fun e=>by rw[hf]at e;cases e),(fun q e=>by rw[hf]at e;cases e),fun e q k=>by rw[hf]at k;cases k;exact .inr (.inr rfl)⟩
 |none=>
  have bf:s∉seen:=fun k=>by
   have:=(hs.iff s).2 k;rw[hv]at this;cases this
  have bM:s∈(if wS s=0/\s∉seen/\s∉out then out++[s]else out):=by
   by_cases c:s∈out
   ·rw[if_neg (fun k=>k.2.2 c)];exact c
   ·rw[if_pos ⟨hk,bf,c⟩];simp
  have aN:kn F G s=true->st.f=none->∀t∈(if wS s=0/\s∉seen/\s∉out then out++[s]else out),t∈out∨kn F G t=true:=fun S9 _ t ht=>by
   split at ht
   ·rcases Q7.1 ht with ht|ht
    ·exact .inl ht
    ·rw[QI.1 ht];exact .inr S9
   ·exact .inl ht
  cases hi:F.findIdx? (fun t=>decide (t=s))with
  |some i=>
   rw[ye hk hv hi];have S9:kn F G s=true:=by
    unfold kn;rw[<- sI,hi];rfl
   exact⟨fun e=>aN S9 e,(fun q e=>by rw[h]at e;cases e),fun _ q e=>by rw[h]at e;cases e⟩
  |none=>
   have S9:kn F G s=G.any fun t=>decide (t=s):=by
    unfold kn;rw[<- sI,hi];rfl
   cases hg:G.any (fun t=>decide (t=s))with
   |true=>
    rw[Bs hk hv hi hg];exact⟨fun e=>aN (S9.trans hg) e,(fun q e=>by rw[h]at e;cases e),fun _ q e=>by rw[h]at e;cases e⟩
   |false=>
    have hf:=Bt (u:=u) (p:=p) (put:=put) hk hv hi hg h;exact⟨fun e=>(by rw[hf]at e;cases e),fun q _=>⟨s,bM,S9.trans hg⟩,fun e q k=>by rw[hf]at k;cases k;exact .inr (.inl rfl)⟩
theorem Ly {s:ByteArray}{kids:List Nd}(hf:zl (kb s) kids=true){i:Nat}{y:Nd}(hy:kids[i]? =some y)(hi:dX s i=true):y.kind=7:=by
 have hl:=(Vh.1 hy).1;rw[xD hf hl]at hi;simp only[vF,decide_eq_true_eq]at hi;have hle:=qH s;generalize kb s=n at hf hi hle;have hn:n=0∨n=5∨(n=1∨n=2∨n=3∨n=4):=by omega
 rcases hn with rfl|rfl|hn
 ·cases hf
 ·obtain⟨h1,b,h2,h3,_⟩:=K4 hf;simp only[jC,ib]at hi;obtain rfl:i=2:=by omega
  rw[hy]at h2;rw[X0 h2];exact h3
 ·cases hp:jK y with
  |true=>exact(yb hp).1
  |false=>
   have:=Cq hn hi.1 hy hp;rw[hf]at this;cases this
theorem Mv(F G:List ByteArray):∀(N:Nat) (x:Nd),x.size<=N->kN x≠none->∀st env u seen out,st.f=none->zI st env seen->
 jd F G (jF F G x st env u).2 out (fH seen out x)/\(x.kind=7->jd F G (cH F G x st env u).2 out (fH seen out x)):=by
 intro N
 induction N with
 |zero=>intro x hx;have:=x.size_pos;omega
 |succ N ih=>
  have ap:∀l:List Nd,Nd.aq l<=N->(∀y∈l,kN y≠none)->∀st env u seen out,st.f=none->zI st env seen->jd F G (kT F G l st env u).2 out (jp seen out l):=by
   intro l
   induction l with
   |nil=>intro _ _ st env u seen out h hs;rw[kT,jp];exact jd.refl h
   |cons x r xB=>
    intro hl hd st env u seen out h hs;simp only[Nd.aq]at hl;rw[wL,jp];have g:=(zZ F G N x Zo st env u).1;exact(ih x Zo (hd x Zs) st env u seen out h hs).1.comp (fun hf=>xB Zo (fun y hy=>hd y (by simp[hy])) _ env u seen _ hf (hs.gr g.vars)) (wU F G r _ env u) (zU seen r _)
  have pS:∀(s:ByteArray) (l:List Nd),Nd.aq l<=N->(∀y∈l,kN y≠none)->∀i,(∀k y,l[k]? =some y->dX s (i+k)=true->y.kind=7)->∀st env u seen out,st.f=none->zI st env seen->
   jd F G (jB F G s l i st env u).2.2 out (jp seen out l)/\Gr st (jB F G s l i st env u).2.2:=by
   intro s l
   induction l with
   |nil=>intro _ _ i _ st env u seen out h hs;rw[jB,jp];exact⟨jd.refl h,Gr.refl _⟩
   |cons x r xB=>
    intro hl hd i hkd st env u seen out h hs;simp only[Nd.aq]at hl;obtain⟨g1,g2⟩:=zZ F G N x Zo st env u;obtain⟨h1,h2⟩:=ih x Zo (hd x Zs) st env u seen out h hs;have hkr:∀k y,r[k]? =some y->dX s (i+1+k)=true->y.kind=7:=fun k y hy e2=>hkd (k+1) y (by simpa using hy) (by rw[show i+(k+1)=i+1+k from by omega];exact e2)
    have Ew:∀(l:List Nd) (i:Nat) (st:ah),Nd.aq l<=N->Gr st (jB F G s l i st env u).2.2:=by
     intro l
     induction l with
     |nil=>intro i st _;rw[jB];exact Gr.refl _
     |cons y q ihq=>
      intro i st hq;simp only[Nd.aq]at hq;obtain⟨k1,k2⟩:=zZ F G N y Zo st env u;cases hi:dX s i with
      |true=>rw[dQ _ _ _ _ _ _ _ _ _ hi];exact k2.trans (ihq _ _ Zo)
      |false=>rw[zi _ _ _ _ _ _ _ _ _ hi];exact k1.trans (ihq _ _ Zo)
    rw[jp];cases hi:dX s i with
    |true=>
     rw[dQ _ _ _ _ _ _ _ _ _ hi];have hg:=Ew r (i+1) (cH F G x st env u).2 Zo;exact⟨(h2 (hkd 0 x rfl hi)).comp (fun hf=>(xB Zo (fun y hy=>hd y (by simp[hy])) (i+1) hkr _ env u seen _ hf (hs.gr g2.vars)).1) hg (zU seen r _),g2.trans hg⟩
    |false=>
     rw[zi _ _ _ _ _ _ _ _ _ hi];have hg:=Ew r (i+1) (jF F G x st env u).2 Zo;exact⟨h1.comp (fun hf=>(xB Zo (fun y hy=>hd y (by simp[hy])) (i+1) hkr _ env u seen _ hf (hs.gr g1.vars)).1) hg (zU seen r _),g1.trans hg⟩
  intro x hx hd st env u seen out h hs;cases x with
  |mk k s lit args ab kids p=>
  have hi:=C7 hd;simp only[Nd.size]at hx;have hk:Nd.aq kids<=N:=by omega
  rw[fH];refine⟨?_,fun h7=>?_⟩
  ·cases bf:fD k s kids with
   |true=>
    rw[eE _ _ _ _ _ _ _ _ _ _ _ _ bf];have Ez:=bf;unfold fD at Ez;simp only[vF,decide_eq_true_eq]at Ez;rw[if_neg Zo,if_neg Zo];exact(pS s kids hk hi.sP 0 (fun j y hy e=>Ly Ez.2 hy (by rwa [Qr]at e)) st env u seen out h hs).1
   |false=>
    by_cases h1:k=1
    ·rw[nk _ _ _ _ _ _ _ _ _ _ _ _ bf h1,if_neg Zo,if_neg Zo,hi.Kd (.inl h1),jp];exact jd.refl h
    by_cases h2:k=2
    ·rw[np _ _ _ _ _ _ _ _ _ _ _ _ bf h2,if_neg Zo,hi.Kd (.inr h2),jp];have:=Fj (F:=F) (G:=G) (out:=out) s u p false h hs;simp only[h2,true_or,true_and];exact this
    by_cases h3:k=3
    ·rw[nq _ _ _ _ _ _ _ _ _ _ _ _ bf h3,if_neg Zo];have h4:=Fj (F:=F) (G:=G) (out:=out) s u p true h hs;simp only[h3,or_true,true_and];have g:=xj F G st env s u p true;exact h4.comp (fun hf=>ap kids hk hi.sP _ env u seen _ hf (hs.gr g.vars)) (wU F G kids _ env u) (zU seen kids _)
    have bQ:¬((k=2∨k=3)/\wS s=0/\s∉seen/\s∉out):=by omega
    rw[if_neg bQ];by_cases h7:k=7
    ·rw[ny _ _ _ _ _ _ _ _ _ _ _ _ bf h7,if_pos h7];simp only;rw[zP];have JI:=cO (F:=F) (G:=G) st.outer.length true true p args 0 (st.aM (u:Int) args.length) env out h;have hE:zI (st.aM (u:Int) args.length) env seen:=hs.gr (QT _);have Up:=zI.decl st.outer.length true true p args 0 _ env seen hE;have Ur:=zI.decl st.outer.length false true p ab 0 _ _ _ Up;have JJ:jd F G (bn args ab p st env (u:Int)).1 out out:=JI.comp (fun hf=>cO st.outer.length false true p ab 0 _ _ out hf) (zE _ _ _ _ _ _ _ _) (fun _ k=>k);exact(JJ.comp (fun hf=>ap kids hk hi.sP (bn args ab p st env (u:Int)).1 (bn args ab p st env (u:Int)).2 st.outer.length _ out hf Ur) (wU F G kids _ _ _) (zU _ kids _)).of rfl
    rw[if_neg h7];have ha:=ap kids hk hi.sP st env u seen out h hs;by_cases h8:k=8
    ·rw[nz _ _ _ _ _ _ _ _ _ _ _ _ bf h8];exact ha
    by_cases h9:k=9
    ·rw[nA _ _ _ _ _ _ _ _ _ _ _ _ bf h9];exact ha
    by_cases h6:k=6
    ·rw[nw _ _ _ _ _ _ _ _ _ _ _ _ bf h6];exact ha
    by_cases h5:k=5
    ·rw[nu _ _ _ _ _ _ _ _ _ _ _ _ bf h5];exact ha
    cases Lu:jM kids with
    |true=>
     rw[gX _ _ _ _ _ _ _ _ _ _ _ _ bf ⟨h1,h2,h3,h5,h6,h7,h8,h9⟩ Lu];cases iy:kids with
     |nil=>rw[iy]at Lu;cases Lu
     |cons y r=>
      rw[iy]at Lu hk hi;simp only[Nd.aq]at hk;have hy:jh y=true:=Lu;have hyd:=hi.sP y Zs;rw[jp];have e:fH seen out y=out:=by
       cases y with
       |mk k' s' EX sB mP ml p'=>
       unfold jh at hy;rw[vF,decide_eq_true_eq,decide_eq_true_eq]at hy;have hy:k'=2/\kF s'=[115,117,112,101,114]:=hy;have bO:=C7 hyd;have DD:s'=nj:=cT.1 hy.2;rw[fH,if_neg Zo,bO.Kd (.inr hy.1),if_neg (by rw[DD];exact fun k=>by have:=k.2.1;revert this;decide),jp]
      rw[e];exact ap r Zo (fun z hz=>hi.sP z (by simp[hz])) st env u seen out h hs
    |false=>
     rw[nt _ _ _ _ _ _ _ _ _ _ _ _ bf ⟨h1,h2,h3,h5,h6,h7,h8,h9⟩ Lu];exact ha
  ·have h7:k=7:=h7;rw[iz,if_pos h7,if_neg Zo];have JI:=cO (F:=F) (G:=G) u true false p args 0 st env out h;have Up:=zI.decl u true false p args 0 _ env seen hs;have Ur:=zI.decl u false false p ab 0 _ _ _ Up;have JJ:=JI.comp (fun hf=>cO u false false p ab 0 _ (kO u true false p args 0 st env).2 out hf) (zE _ _ _ _ _ _ _ _) (fun _ k=>k);exact JJ.comp (fun hf=>ap kids hk hi.sP _ _ u _ out hf Ur) (wU F G kids _ _ _) (zU _ kids _)
section
variable (st:ah)
end
theorem A8 {w n:Nat}{v:Value}{xs sp:List Value}(h:kY w v n xs sp)(hn:0 < n):∃b o c,v=.slice (some ⟨b,o,none⟩) n c/\n<=c/\∀ys zs,ai v ys zs=kA b o (ys++zs):=by
 cases h with
 |@mk b o _ c _ _ h1 h2 h3=>exact⟨b,o,c,rfl,h3,fun _ _=>rfl⟩
 |nil=>omega
def wQ(b:Bool)(rows:List (List Value))(j:Nat):List (List Value):=rows.mapIdx fun i r=>if 1<=i/\i<=j then r.set 9 (.bool b)else r
theorem wu {b:Bool}{rows:List (List Value)}{j i:Nat}{r:List Value}(h:rows[i]? =some r):(wQ b rows j)[i]? =some (if 1<=i/\i<=j then r.set 9 (.bool b)else r):=by
 unfold wQ;rw[List.getElem?_mapIdx,h];rfl
theorem wC(b:Bool)(rows:List (List Value))(j:Nat):(wQ b rows j).length=rows.length:=by unfold wQ;simp
theorem MQ(b:Bool)(rows:List (List Value)):wQ b rows 0=rows:=by
 apply vm;intro i;cases h:rows[i]? with
 |none=>
  rw[Vg]at h|-;rw[wC];exact h
 |some r=>rw[wu h,if_neg Zo]
theorem hZ {b:Bool}{rows:List (List Value)}{j w:Nat}(h:∀r∈rows,r.length=w):∀r∈wQ b rows j,r.length=w:=by
 intro r hr;obtain⟨i,hi⟩:=Vj hr;cases h0:rows[i]? with
 |none=>
  rw[Vg]at h0;have:=(Vh.1 hi).1;rw[wC]at this;omega
 |some r0=>
  rw[wu h0]at hi;have:=h r0 (Zv h0);rw[<- X0 hi];split
  ·rw[Vx];exact this
  ·exact this
theorem Dm {b:Bool}{rows:List (List Value)}{j:Nat}{r:List Value}(h:rows[j+1]? =some r):(wQ b rows j).set (j+1) (r.set 9 (.bool b))=wQ b rows (j+1):=by
 apply vm;intro i;rw[Vl];by_cases e:j+1=i
 ·subst e;rw[if_pos rfl,if_pos (by rw[wC];exact(Vh.1 h).1),wu h,if_pos Zo]
 ·rw[if_neg e];cases h0:rows[i]? with
  |none=>
   have key:∀m,(wQ b rows m)[i]? =none:=fun m=>by
    rw[Vg]at h0|-;rw[wC];exact h0
   rw[key,key]
  |some r0=>
   rw[wu h0,wu h0];by_cases c:1<=i/\i<=j
   ·rw[if_pos c,if_pos Zo]
   ·rw[if_neg c,if_neg Zo]
theorem Ot {w:Nat}:∀{rows:List (List Value)},(∀r∈rows,r.length=w)->∀{j c:Nat} {r:List Value} {u:Value},rows[j]? =some r->c < w->rows.flatten.set (j*w+c) u=(rows.set j (r.set c u)).flatten:=by
 intro rows
 induction rows with
 |nil=>intro _ j c r u h;simp at h
 |cons x l ih=>
  intro hw j c r u hj hc;have hx:=hw x Zs;cases j with
  |zero=>
   obtain rfl:x=r:=by simpa using hj
   rw[V6,Qt,Qr,List.set_append_left _ _ Zo];rfl
  |succ j=>
   have h2:=ih (fun r hr=>hw r (by simp[hr])) (j:=j) (c:=c) (r:=r) (u:=u) (by simpa using hj) hc;rw[V6,QU _ _ (by rw[hx,Qq];omega),hx];have e:(j+1)*w+c - w=j*w+c:=by rw[Qq];omega
   rw[e,h2];rfl
theorem pN {w:Nat}:∀{rows:List (List Value)},(∀r∈rows,r.length=w)->rows.flatten.length=rows.length*w:=by
 intro rows
 induction rows with
 |nil=>intro _;simp
 |cons x l ih=>
  intro h;rw[V6,Vo,ih (fun r hr=>h r (by simp[hr])),h x Zs,Vp,Qq];omega
theorem uJ.super {T:List kB}{qs:List Nat}{x:PN}{ws:List Value}(h:uJ T qs x ws)(b:Bool):uJ T qs (x.ym b) (ws.set 9 (.bool b)):=by
 cases h with
 |@mk k nm lit refs unit iQ kids lv rv vv a c bk o us hl hr hv ok hz ha hm hs=>
  have h5:=hl.len
  match lv,h5,hl with
  |[v1,v2,v3,v4,v5],_,hl=>exact .mk (iQ:=b) hl hr hv ok hz ha hm hs
theorem Da {T:List kB}{qs:List Nat}{l:List PN}{rows:List (List Value)}(h:zJ T qs l rows)(b:Bool):zJ T qs (zK b l) (wQ b rows (l.length - 1)):=by
 cases l with
 |nil=>
  have:rows=[]:=vj h.len;subst this;exact zJ.nil T qs
 |cons x l=>
  refine⟨?_,hZ h.w,fun i y r hy hr=>?_⟩
  ·rw[wC,h.len];simp[zK]
  ·cases h0:rows[i]? with
   |none=>
    rw[Vg]at h0;have:=(Vh.1 hr).1;rw[wC]at this;omega
   |some r0=>
    rw[wu h0]at hr;have cf:=(Vh.1 h0).1;rw[h.len,Vp]at cf;cases i with
    |zero=>
     obtain rfl:x=y:=by simpa[zK]using hy
     rw[if_neg Zo]at hr;rw[<- X0 hr];exact h.rd 0 x r0 rfl h0
    |succ i=>
     rw[if_pos ⟨Zo,by rw[Vp];omega⟩]at hr;rw[<- X0 hr];simp only[zK,Vb,Vi]at hy;obtain⟨z,hz,rfl⟩:=Qx.1 hy;exact(h.rd (i+1) z r0 (by simpa using hz) h0).super b
theorem NT(F G:List ByteArray):∀(l:List Nd) st env u,(kT F G l st env u).1.length=l.length:=by
 intro l
 induction l with
 |nil=>intro st env u;rw[kT];rfl
 |cons x r ih=>intro st env u;rw[wL];simp only[Vp,ih]
theorem Ja(b:Bool)(l:List PN):(zK b l).length=l.length:=by cases l <;> simp[zK]
end Go.V

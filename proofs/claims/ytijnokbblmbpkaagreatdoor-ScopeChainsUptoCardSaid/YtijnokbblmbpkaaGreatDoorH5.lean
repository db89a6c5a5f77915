/-
  A part of the proof.
-/
import Derived.Test.YtijnokbblmbpkaaGreatDoorH4
import Derived.Test.YtijnokbblmbpkaaGreatDoorH3
import Derived.Test.YtijnokbblmbpkaaGreatDoorH2
set_option linter.all false
namespace Go.V
open Go
structure UC where
 q:Nat
 a5:Nat
 bi:Nat
 aA:Nat
 a7:Option Nat
 num:Nat
 ae:List Nat
 tv:Value
 lS:List Value
 nb:Nat
 es:Array MapEntry
 cl:Nat
 dW:List (Nat×Int)
 cv:Value
 cw:List Value
 body:Value
structure aC where
 q:Nat
 cg:Nat
 arg:Int
 fixed:Bool
 dp:Bool
 slot:Nat
def kN:Option Nat->Value
 |some b=>.pointer (some ⟨b,0,none⟩)
 |none=>.pointer none
def jZ(t:Nat×Int):List Value:=[.pointer (some ⟨t.1,0,none⟩),.int .i64 t.2]
def UC.row(u:UC):List Value:=[.int .i64 u.a5,.int .i64 u.bi,.int .i64 u.aA,kN u.a7,.int .i64 u.num,u.tv,.map (some u.nb),u.cv,u.body]
def UC.atoms(u:UC):List kC:=.own u.q 9::(kA u.q 0 u.row++(aj u.tv (u.ae.map λb=>kN (some b)) u.lS++(aj u.cv (u.dW.flatMap jZ) u.cw++[.obj u.nb (.map u.es u.cl)])))
def aC.row(v:aC):List Value:=[kN (some v.cg),.int .i64 v.arg,.bool v.fixed,.bool v.dp,.int .i64 v.slot]
def aC.atoms(v:aC):List kC:=kA v.q 0 v.row
def WK(U:List UC)(V:List aC):List kC:=U.flatMap UC.atoms++V.flatMap aC.atoms
def mh {α g:Type}(f:α->List g){l:List α}{i}{x:α}(h:l[i]? =some x):∃R,∀y,((l.set i y).flatMap f).Perm (f y++R):=by
 induction l generalizing i with
 |nil=>simp at h
 |cons a l ih=>
  cases i with
  |zero=>
   exact⟨l.flatMap f,λy=>by simp⟩
  |succ i=>
   obtain⟨R,d⟩:=ih (i:=i) (by simpa using h);refine⟨f a++R,λy=>?_⟩;simp only[List.set_cons_succ,VV];refine(vY _ (d y)).trans ?_;exact zBE
def zf {α:Type}{l:List α}{i}{x:α}(h:l[i]? =some x):l.set i x=l:=by
 apply vz;intro k;rw[Vx];by_cases e:i=k
 .subst e;have:=(Vt.1 h).1;rw[if_pos rfl,if_pos this,h]
 .rw[if_neg e]
def wk_unit {U V i u}(h:U[i]? =some u):∃R,(WK U V).Perm (u.atoms++R)/\∀u',(WK (U.set i u') V).Perm (u'.atoms++R):=by
 obtain⟨R,g⟩:=mh UC.atoms h;have d:∀u',(WK (U.set i u') V).Perm (u'.atoms++(R++V.flatMap aC.atoms)):=λu'=>by
  unfold WK;rw[<- vj];exact vZ _ (g u')
 refine⟨R++V.flatMap aC.atoms,?_,d⟩;have:=d u
 rwa [zf h]at this
def wk_var {U V i v}(h:V[i]? =some v):∃R,(WK U V).Perm (v.atoms++R)/\∀d,(WK U (V.set i d)).Perm (d.atoms++R):=by
 obtain⟨R,j⟩:=mh aC.atoms h;have g:∀d,(WK U (V.set i d)).Perm (d.atoms++(U.flatMap UC.atoms++R)):=λd=>by
  unfold WK;refine(vY _ (j d)).trans ?_;exact zBE
 refine⟨U.flatMap UC.atoms++R,?_,g⟩;have:=g v
 rwa [zf h]at this
def yV {U:List UC}{V:List aC}{i:Nat}{u:UC}(h:U[i]? =some u):∀x∈u.atoms,x∈WK U V:=λ_ d=>Zw _ (QN.2 ⟨u,Zv h,d⟩)
def nh {U:List UC}{V:List aC}{i:Nat}{v:aC}(h:V[i]? =some v):∀x∈v.atoms,x∈WK U V:=λ_ d=>QI _ (QN.2 ⟨v,Zv h,d⟩)
def iE {U:List UC}{V:List aC}{i:Nat}{u:UC}(h:U[i]? =some u):z7 (WK U V) u.q:=
 ⟨⟨9,yV h _ (QL ..)⟩,⟨_,yV h _ (QK _ (Zw _ (kI.2 ⟨0,_,rfl,rfl⟩)))⟩⟩
def Zj(U V u):(WK (U++[u]) V).Perm (u.atoms++WK U V):=by
 unfold WK;rw[V9,Vb,vj,<- vj];refine(vZ _ QZ).trans ?_;rw[vj]
def Kp(U V v):(WK U (V++[v])).Perm (v.atoms++WK U V):=by
 unfold WK;rw[V9,Vb,<- vj];exact QZ
def Dn:aC:=⟨0,0,0,false,false,0⟩
def ai.ae(st:ai)(i:Nat):List Nat:=(List.range st.vars.length).filter λv=>decide (st.ah v=i)&&decide (st.aT v<0)
structure cT (st:ai)(nf:Nat->Nat×Int->Bool)(rf:Nat->Bool)(N:Nat->Nat)(U:List UC)(V:List aC):Prop where
 wf:Wf st
 ul:U.length=st.a7.length
 vl:V.length=st.vars.length
 inj:(U.map UC.q).Nodup
 un:∀(i:Nat) u,U[i]? =some u->u.a5=st.a5.getD i 0/\u.bi=0/\u.aA=0/\u.num=i/\u.dW=[]/\u.cv=Nz/\u.cw=[]
 ou:∀(i:Nat) u,U[i]? =some u->u.a7=(if st.a7.getD i (-1)<0 then none else(U[(st.a7.getD i (-1)).toNat]?).map UC.q)
 tm:∀(i:Nat) u,U[i]? =some u->u.ae=(st.ae i).map (λv=>(V.getD v Dn).q)/\ke 1 u.tv u.ae.length (u.ae.map λb=>kN (some b)) u.lS
 nd:∀(i:Nat) u,U[i]? =some u->∃m:List ((Nat×Int)×Int),iH u.es u.cl m/\(m.map (·.1)).Nodup/\(∀p∈m,(∃(j:Nat) (w:UC),U[j]? =some w/\p.1.1=w.q)/\0<p.2/\p.2<=N i)/\
  ∀(j:Nat) (w:UC) (a:Int),U[j]? =some w->((jI (w.q,a) m).isSome=true↔nf i (j,a)=true)
 vn:∀(v:Nat) x y,st.vars[v]? =some x->V[v]? =some y->(∃w,U[x.cg]? =some w/\y.cg=w.q)/\y.arg=x.own/\y.fixed=x.arg/\y.dp=rf v/\y.slot=0
def di(st:ai)(U:List UC)(V:List aC):Prop:=cT st st.aD st.rem (λ_=>st.dg.length) U V
def HX {U V i u}(h:U[i]? =some u){X Y}(hx:u.atoms.Perm (X++Y)):∃R,(WK U V).Perm (X++R)/\∀u' X',u'.atoms.Perm (X'++Y)->(WK (U.set i u') V).Perm (X'++R):=by
 obtain⟨R,h1,h2⟩:=wk_unit (V:=V) h;exact zDG
def Ze {U V i v}(h:V[i]? =some v){X Y}(hx:v.atoms.Perm (X++Y)):∃R,(WK U V).Perm (X++R)/\∀d X',d.atoms.Perm (X'++Y)->(WK U (V.set i d)).Perm (X'++R):=by
 obtain⟨R,h1,h2⟩:=wk_var (U:=U) h;exact zDG
def Zc {U V i u}(h:U[i]? =some u):∃R,(WK U V).Perm ([.obj u.nb (.map u.es u.cl)]++R)/\∀d g,(WK (U.set i {u with es:=d,cl:=g}) V).Perm ([.obj u.nb (.map d g)]++R):=by
 have j:∀d g,({u with es:=d,cl:=g}:UC).atoms.Perm ([.obj u.nb (.map d g)]++(.own u.q 9::(kA u.q 0 u.row++(aj u.tv (u.ae.map λb=>kN (some b)) u.lS++aj u.cv (u.dW.flatMap jZ) u.cw)))):=λd g=>by
  unfold UC.atoms;show(kC.own u.q 9::(kA u.q 0 u.row++(aj u.tv (u.ae.map λb=>kN (some b)) u.lS++(aj u.cv (u.dW.flatMap jZ) u.cw++[.obj u.nb (.map d g)])))).Perm _;rw[<- vj,<- vj,<- vj,<- vq];refine QZ.trans ?_;simp only[vj];exact vd _
 obtain⟨R,m,s⟩:=HX (V:=V) h (j u.es u.cl);exact⟨R,m,λd g=>s _ _ (j d g)⟩
def SJ {U V i v}(h:V[i]? =some v):∃R,(WK U V).Perm (kA v.q 3 [.bool v.dp]++R)/\∀b,(WK U (V.set i {v with dp:=b})).Perm (kA v.q 3 [.bool b]++R):=by
 have d:∀b,({v with dp:=b}:aC).atoms.Perm (kA v.q 3 [.bool b]++(kA v.q 0 [kN (some v.cg),vi v.arg,.bool v.fixed]++kA v.q 4 [vi v.slot])):=λb=>by
  unfold aC.atoms aC.row;simp only[kA,vq,QV];exact(List.Perm.swap _ _ _).trans (vd _)|>.trans (by
   refine List.Perm.trans (List.Perm.swap _ _ _) ?_;exact Qd (l₁:=[_,_,_])|>.trans (vd _))
 obtain⟨R,g,j⟩:=Ze (U:=U) h (d v.dp);exact⟨R,g,λb=>j _ _ (d b)⟩
def iF {A R X:List kC}(g:A.Perm (X++R)){x:kC}(j:x∈A)(d:x∉X):x∈R:=by
 rcases QH.1 (g.mem_iff.1 j)with h|h
 .exact absurd h d
 .exact h
def cT.congr {st B d C g N A U V}(h:cT st B C N U V)(H:∀i t,d i t=B i t)(I:∀v,g v=C v)(G:∀i,N i<=A i):cT st d g A U V:=by
 refine⟨h.wf,h.ul,h.vl,h.inj,h.un,h.ou,h.tm,λi u J=>?_,λv x y L M=>?_⟩
 .obtain⟨m,D,E,q,F⟩:=h.nd i u J;exact⟨m,D,E,λp s=>⟨(q p s).1,(q p s).2.1,by have:=(q p s).2.2;have:=G i;omega⟩,λj w a K=>by rw[H];exact F j w a K⟩
 .rw[I];exact h.vn v x y L M
def mX {α:Type}{l:List α}{c}{x y:α}(g:l[c]? =some x){i}{z:α}(h:(l.set c y)[i]? =some z):(i=c/\z=y)∨(i≠c/\l[i]? =some z):=by
 rw[Vx]at h;by_cases e:c=i
 .subst e;rw[if_pos rfl,if_pos (Vt.1 g).1]at h;exact .inl ⟨rfl,(X8 h).symm⟩
 .rw[if_neg e]at h;exact .inr ⟨λd=>e d.symm,h⟩
def zu {U:List UC}{c:Nat}{w w':UC}(d:U[c]? =some w)(g:w'.q=w.q):(U.set c w').map UC.q=U.map UC.q:=by
 rw[List.map_set,g];exact zf (by rw[Vu,d];rfl)
def uG {U:List UC}{c:Nat}{w w':UC}(d:U[c]? =some w)(g:w'.body=w.body):(U.set c w').map UC.body=U.map UC.body:=by
 rw[List.map_set,g];exact zf (by rw[Vu,d];rfl)
def Gl {U d:List UC}(h:d.map UC.q=U.map UC.q)(i:Nat):(d[i]?).map UC.q=(U[i]?).map UC.q:=by
 have:=congrArg (λl=>l[i]?) h;simpa using this
def cT.XK {st:ai}{E:Nat->Nat×Int->Bool}{F:Nat->Bool}{N:Nat->Nat}{U:List UC}{V:List aC}(h:cT st E F N U V){i j:Nat}{u w:UC}(C:U[i]? =some u)(D:U[j]? =some w)(e:u.q=w.q):i=j:=by
 have g:(U.map UC.q)[i]? =some u.q:=by rw[Vu,C];rfl
 have m:(U.map UC.q)[j]? =some u.q:=by rw[Vu,D,e];rfl
 have s:=(Vt.1 g).1;have d:=(Vt.1 m).1;have A:(U.map UC.q)[i]=(U.map UC.q)[j]:=by
  rw[Zg s]at g;rw[Zg d]at m;rw[X8 g,X8 m]
 have B:=List.pairwise_iff_getElem.1 h.inj;rcases Nat.lt_trichotomy i j with c|c|c
 .exact absurd A (B i j s d c)
 .exact c
 .exact absurd A.symm (B j i d s c)
def cT.put {st:ai}{Y:Nat->Nat×Int->Bool}{rf:Nat->Bool}{N:Nat->Nat}{U:List UC}{V:List aC}(h:cT st Y rf N U V){c J:Nat}{w x0:UC}{a:Int}(L:U[c]? =some w)(X:U[J]? =some x0){m:List ((Nat×Int)×Int)}
 (hu:(m.map (·.1)).Nodup) (hm:∀p∈m,(∃(j:Nat) (w:UC),U[j]? =some w/\p.1.1=w.q)/\0 < p.2/\p.2<=N c) (hn:∀(j:Nat) (w:UC) (a:Int),U[j]? =some w->((jI (w.q,a) m).isSome=true↔Y c (j,a)=true))
 {n:Int} {A:Array MapEntry} {C:Nat} (nF:iH A C (js (x0.q,a) n m)) (S:0 < n) (Rk:n<=N c+1):
 cT st (λi t=>Y i t||(decide ((J,a)=t)&&decide (i=c))) rf (λi=>N i+(if i=c then 1 else 0)) (U.set c {w with es:=A,cl:=C}) V:=by
 have hq:=zu (w':={w with es:=A,cl:=C}) L rfl;have M:=Gl hq;have K:∀{i:Nat} {u:UC},(U.set c {w with es:=A,cl:=C})[i]? =some u->∃d,U[i]? =some d/\(u=d∨(i=c/\u={d with es:=A,cl:=C})):=λ{i u} B=>by
  rcases mX L B with⟨rfl,rfl⟩|⟨_,h'⟩
  .exact⟨w,L,.inr ⟨rfl,rfl⟩⟩
  .exact⟨u,h',.inl rfl⟩
 refine⟨h.wf,by rw[Q9];exact h.ul,h.vl,by rw[hq];exact h.inj,λi u B=>?_,λi u B=>?_,λi u B=>?_,λi u B=>?_,λv x y T W=>?_⟩
 .obtain⟨d,g,e|⟨_,e⟩⟩:=K B
  .rw[e];exact h.un i d g
  .rw[e];exact h.un i d g
 .rw[M];obtain⟨d,g,e|⟨_,e⟩⟩:=K B
  .rw[e];exact h.ou i d g
  .rw[e];exact h.ou i d g
 .obtain⟨d,g,e|⟨_,e⟩⟩:=K B
  .rw[e];exact h.tm i d g
  .rw[e];exact h.tm i d g
 .have Q:∀{j:Nat} {u:UC},U[j]? =some u->∃u',(U.set c {w with es:=A,cl:=C})[j]? =some u'/\u'.q=u.q:=λ{j u} G=>by
   have:=M j;rw[G]at this;cases e:(U.set c {w with es:=A,cl:=C})[j]? with
   |none=>rw[e]at this;cases this
   |some u'=>rw[e]at this;exact⟨u',rfl,X8 this⟩
  have Ri:∀{j:Nat} {u:UC},(U.set c {w with es:=A,cl:=C})[j]? =some u->∃u',U[j]? =some u'/\u.q=u'.q:=λ{j u} G=>by
   obtain⟨d,g,e|⟨_,e⟩⟩:=K G
   .exact⟨d,g,by rw[e]⟩
   .exact⟨d,g,by rw[e]⟩
  rcases mX L B with⟨rfl,rfl⟩|⟨cz,h'⟩
  .refine⟨_,nF,ru hu,λp hp=>?_,λj Z H G=>?_⟩
   .rcases JD hp with rfl|hp
    .obtain⟨u',D,E⟩:=Q X;exact⟨⟨J,u',D,E.symm⟩,S,by rw[if_pos rfl];omega⟩
    .obtain⟨⟨j,Z,D,E⟩,I,h4⟩:=hm p hp;obtain⟨u',s,F⟩:=Q D;exact⟨⟨j,u',s,E.trans F.symm⟩,I,by rw[if_pos rfl];omega⟩
   .obtain⟨u',s,F⟩:=Ri G;rw[wT,F];have hk:((x0.q,a)=(u'.q,H))↔((J,a)=(j,H)):=by
     simp only[XA];constructor
     .rintro⟨O,P⟩;exact⟨h.XK X s O,P⟩
     .rintro⟨O,P⟩
      subst O;rw[X]at s;exact⟨by rw[X8 s],P⟩
    by_cases e:(J,a)=(j,H)
    .rw[if_pos (hk.2 e)];simp[e]
    .rw[if_neg (λe'=>e (hk.1 e'))];simp only[e,decide_false,vM,vU];exact hn j u' H s
  .obtain⟨m',D,E,I,h4⟩:=h.nd i u h';refine⟨m',D,E,λp hp=>?_,λj Z H G=>?_⟩
   .obtain⟨⟨j,Z,s,F⟩,h7,h8⟩:=I p hp;obtain⟨u',h9,tz⟩:=Q s;exact⟨⟨j,u',h9,F.trans tz.symm⟩,h7,by simp only[if_neg cz];omega⟩
   .obtain⟨u',s,F⟩:=Ri G;rw[F,h4 j u' H s];simp[cz]
 .obtain⟨⟨u,D,E⟩,I⟩:=h.vn v x y T W;refine⟨?_,I⟩;have:=M x.cg;rw[D]at this;cases e:(U.set c {w with es:=A,cl:=C})[x.cg]? with
  |none=>rw[e]at this;cases this
  |some u'=>rw[e]at this;exact⟨u',rfl,E.trans (X8 this).symm⟩
def cT.far {st C D N U V}(h:cT st C D N U V){v y}(j:V[v]? =some y):
 cT st C (λw=>D w||decide (v=w)) N U (V.set v {y with dp:=true}):=by
 have F:∀w,((V.set v {y with dp:=true}).getD w Dn).q=(V.getD w Dn).q:=λw=>by
  rw[Vh,Vh,Vx];by_cases e:v=w
  .subst e;rw[if_pos rfl,if_pos (Vt.1 j).1,j];rfl
  .rw[if_neg e]
 refine⟨h.wf,h.ul,by rw[Q9];exact h.vl,h.inj,h.un,h.ou,λi u E=>?_,h.nd,λw x z B G=>?_⟩
 .obtain⟨d,g⟩:=h.tm i u E;refine⟨?_,g⟩;rw[d];exact QD λw _=>(F w).symm
 .rcases mX j G with⟨rfl,rfl⟩|⟨cz,h'⟩
  .obtain⟨d,g,m,A,s⟩:=h.vn w x y B j;exact⟨d,g,m,Zs,s⟩
  .obtain⟨d,g,m,A,s⟩:=h.vn w x z B h';refine⟨d,g,m,?_,s⟩;rw[A];have:decide (v=w)=false:=Zf (λe=>cz e.symm);rw[this,vU]
def cT.useS {st d g N U V}(h:cT st d g N U V){u v}(j:u < st.a7.length)(m:v < st.vars.length):cT (st.use u v) d g N U V:=
 ⟨h.wf.use j m,h.ul,h.vl,h.inj,h.un,h.ou,h.tm,h.nd,h.vn⟩
def nU(st:ai)(v:Nat)(l:List Nat)(i:Nat)(t:Nat×Int):Bool:=st.aD i t||(decide ((st.ah v,st.aT v)=t)&&decide (i∈l))
def Ey(st v i t):nU st v [] i t=st.aD i t:=by simp[nU]
def LK(st v l c i t):nU st v (l++[c]) i t=(nU st v l i t||(decide ((st.ah v,st.aT v)=t)&&decide (i=c))):=by
 unfold nU;rw[vR,<- Bool.and_or_distrib_left]
 congr 2
 rw[<- Bool.decide_or];simp
def Ps(st v u i t):(st.use u v).aD i t=nU st v (st.way u v) i t:=CR st u v i t
def Sx(st:ai)(x:yj)(i:Nat):(st.bu x).ae i=st.ae i++(if x.cg=i/\x.own < 0 then [st.vars.length]else []):=by
 unfold ai.ae;have h:(st.bu x).vars.length=st.vars.length+1:=by unfold ai.bu;simp
 rw[h,List.range_succ,V0]
 congr 1
 .refine List.filter_congr λv j=>?_
  have:=QS.1 j;rw[dQ st x this,uM st x this]
 .have d:(st.bu x).ah st.vars.length=x.cg:=by unfold ai.ah ai.bu;simp
  have g:(st.bu x).aT st.vars.length=x.own:=by unfold ai.aT ai.bu;simp
  simp only[V5,List.filter_nil,d,g];by_cases h1:x.cg=i<;>by_cases h2:x.own<0<;>simp[h1,h2]
def Di {st:ai}{i v:Nat}(h:v∈st.ae i):v < st.vars.length:=by
 unfold ai.ae at h;exact QS.1 (QM.1 h).1
def cT.bu {st:ai}{U s:List UC}{V:List aC}(h:di st U V){x:yj}{y:aC}{i:Nat}{u u':UC}(L:x.cg=i)(g:U[i]? =some u)(ho:-1<=x.own/\x.own<st.a5.getD i 0)
 (hy:y.cg=u.q/\y.arg=x.own/\y.fixed=x.arg/\y.dp=false/\y.slot=0) (W:s=U.set i u') (N:u'={u with ae:=u'.ae,tv:=u'.tv,lS:=u'.lS}) (ht:u'.ae=u.ae++(if x.own<0 then [y.q]else [])) (hs:ke 1 u'.tv u'.ae.length (u'.ae.map λb=>kN (some b)) u'.lS):
 di (st.bu x) s (V++[y]):=by
 have K:u'.q=u.q:=by rw[N]
 have X:s.map UC.q=U.map UC.q:=by rw[W];exact zu g K
 have Y:=Gl X;have cm:i<st.a7.length:=by have:=(Vt.1 g).1;rw[h.ul]at this;exact this
 have F:∀{j:Nat} {w:UC},s[j]? =some w->(j≠i/\U[j]? =some w)∨(j=i/\w=u'):=λ{j w} d=>by
  rw[W]at d;rcases mX g d with⟨rfl,rfl⟩|⟨G,H⟩
  .exact .inr ⟨rfl,rfl⟩
  .exact .inl ⟨G,H⟩
 have O:∀{j:Nat} {w:UC},U[j]? =some w->∃w',s[j]? =some w'/\w'.q=w.q:=λ{j w} d=>by
  have:=Y j;rw[d]at this;cases e:s[j]? with
  |none=>rw[e]at this;cases this
  |some w'=>rw[e]at this;exact⟨w',rfl,X8 this⟩
 have Ri:∀{j:Nat} {w:UC},s[j]? =some w->∃w',U[j]? =some w'/\w.q=w'.q:=λ{j w} d=>by
  rcases F d with⟨_,h'⟩|⟨rfl,rfl⟩
  .exact⟨w,h',rfl⟩
  .exact⟨u,g,K⟩
 have J:∀{v:Nat},v<st.vars.length->(V++[y]).getD v Dn=V.getD v Dn:=λ{v} C=>dt (by rw[h.vl];exact C)
 have Z:(V++[y]).getD st.vars.length Dn=y:=by
  rw[Vh,Vl (by rw[h.vl];exact Qs _),h.vl,Qy];rfl
 refine⟨h.wf.bu (by rw[L];exact cm) (by rw[L];exact ho),by rw[W,Q9];exact h.ul,?_,by rw[X];exact h.inj,λj w d=>?_,λj w d=>?_,λj w d=>?_,λj w d=>?_,λv a b ha M=>?_⟩
 .show(V++[y]).length=(st.vars++[x]).length;rw[Vz,Vz,h.vl];rfl
 .rcases F d with⟨_,h'⟩|⟨rfl,rfl⟩
  .exact h.un j w h'
  .rw[N];exact h.un j u g
 .show w.a7=(if st.a7.getD j (-1)<0 then none else(s[(st.a7.getD j (-1)).toNat]?).map UC.q);rw[Y];rcases F d with⟨_,h'⟩|⟨rfl,rfl⟩
  .exact h.ou j w h'
  .rw[N];exact h.ou j u g
 .rw[Sx,QC];have GI:(st.ae j).map (λv=>((V++[y]).getD v Dn).q)=(st.ae j).map (λv=>(V.getD v Dn).q):=QD λv C=>by rw[J (Di C)]
  rw[GI];rcases F d with⟨cz,h'⟩|⟨rfl,rfl⟩
  .rw[if_neg (by rintro⟨e,_⟩;exact cz (e.symm.trans L))];rw[QG,vm];exact h.tm j w h'
  .refine⟨?_,hs⟩;rw[ht,(h.tm j u g).1]
   congr 1
   by_cases hn:x.own<0
   .rw[if_pos hn,if_pos ⟨L,hn⟩,List.map_singleton,Z]
   .rw[if_neg hn,if_neg (λe=>hn e.2)];rfl
 .have rU:∃m:List ((Nat×Int)×Int),iH w.es w.cl m/\(m.map (·.1)).Nodup/\(∀p∈m,(∃(j:Nat) (w:UC),U[j]? =some w/\p.1.1=w.q)/\0<p.2/\p.2<=st.dg.length)/\∀(k:Nat) (w:UC) (a:Int),U[k]? =some w->((jI (w.q,a) m).isSome=true↔st.aD j (k,a)=true):=by
   rcases F d with⟨_,h'⟩|⟨rfl,rfl⟩
   .exact h.nd j w h'
   .rw[N];exact h.nd j u g
  obtain⟨m,G,H,P,Q⟩:=rU;refine⟨m,G,H,λp hp=>?_,λk z a hk=>?_⟩
  .obtain⟨⟨k,z,S,T⟩,h7⟩:=P p hp;obtain⟨D,A,B⟩:=O S;exact⟨⟨k,D,A,T.trans B.symm⟩,h7⟩
  .obtain⟨D,A,B⟩:=Ri hk;rw[B,Q k D a A,h.wf.Xg]
 .have E:(st.vars++[x])[v]? =some a:=ha;rw[Vi]at E;split at E
  .rename_i C;rw[Vj (by rw[h.vl];exact C)]at M;obtain⟨⟨z,G,H⟩,P,Q,S,T⟩:=h.vn v a b E M;obtain⟨D,A,B⟩:=O G;exact⟨⟨D,A,H.trans B.symm⟩,P,Q,by rw[S,h.wf.rem_add x C],T⟩
  .rename_i C;have I:=(Vt.1 E).1;simp only[QA]at I;have e:v=st.vars.length:=by omega
   subst e;rw[Qy]at E;obtain rfl:x=a:=by simpa using E
   rw[Vl (by rw[h.vl];exact Qs _),h.vl,Qy]at M;obtain rfl:y=b:=by simpa using M
   obtain⟨y1,y2,y3,y4,y5⟩:=hy;obtain⟨D,A,B⟩:=O g;exact⟨⟨D,by rw[L];exact A,y1.trans B.symm⟩,y2,y3,by rw[y4,h.wf.rem_new],y5⟩
def Zk {U V i u}(h:U[i]? =some u):∃R,(WK U V).Perm ((kA u.q 5 [u.tv]++aj u.tv (u.ae.map λb=>kN (some b)) u.lS)++R)/\
 ∀l j m,(WK (U.set i {u with ae:=l,tv:=j,lS:=m}) V).Perm ((kA u.q 5 [j]++aj j (l.map λb=>kN (some b)) m)++R):=by
 have A:∀l j m,({u with ae:=l,tv:=j,lS:=m}:UC).atoms.Perm ((kA u.q 5 [j]++aj j (l.map λb=>kN (some b)) m)++
  (.own u.q 9::(kA u.q 0 [vi u.a5,vi u.bi,vi u.aA,kN u.a7,vi u.num]++(kA u.q 6 [.map (some u.nb),u.cv,u.body]++(aj u.cv (u.dW.flatMap jZ) u.cw++[.obj u.nb (.map u.es u.cl)]))))):=λl j m=>by
  unfold UC.atoms UC.row;simp only[kA,vq,QV,vj];generalize aj j (l.map λb=>kN (some b)) m=B;generalize aj u.cv (u.dW.flatMap jZ) u.cw++[.obj u.nb (.map u.es u.cl)]=C;have G:∀(a b c d e f g:kC) (X Y:List kC),(a::b::c::d::e::f::g::(X++Y)).Perm (g::X++(a::b::c::d::e::f::Y)):=λa b c d e f g X Y=>by
   have s:(a::b::c::d::e::f::g::(X++Y))=[a,b,c,d,e,f]++((g::X)++Y):=rfl;rw[s,<- vj];exact zD9
  have F:∀(a b c:kC) (X Y:List kC),(a::b::c::(X++Y)).Perm (X++(a::b::c::Y)):=λa b c X Y=>by
   have s:(a::b::c::(X++Y))=[a,b,c]++(X++Y):=rfl;rw[s,<- vj];exact zD9
  have:=G (.own u.q 9) (.cell u.q 0 (vi u.a5)) (.cell u.q (0+1) (vi u.bi)) (.cell u.q (0+1+1) (vi u.aA)) (.cell u.q (0+1+1+1) (kN u.a7)) (.cell u.q (0+1+1+1+1) (vi u.num)) (.cell u.q 5 j) B (.cell u.q 6 (.map (some u.nb)):: .cell u.q 7 u.cv:: .cell u.q 8 u.body::C);refine List.Perm.trans ?_ this;refine List.Perm.cons _ (List.Perm.cons _ (List.Perm.cons _ (List.Perm.cons _ (List.Perm.cons _ (List.Perm.cons _ (List.Perm.cons _ ?_))))));exact F _ _ _ _ _
 obtain⟨R,D,E⟩:=HX (V:=V) h (A u.ae u.tv u.lS);exact⟨R,D,λl j m=>E _ _ (A l j m)⟩
def ai.nameOf(st:ai)(v:Nat):ByteArray:=((st.vars[v]?).map (·.name)).getD e0
def xP(V:List aC)(v:Nat):Nat:=(V.getD v Dn).q
def nA(st:ai)(V:List aC)(a6:List Nat):List (ByteArray×Nat):=a6.map λv=>(st.nameOf v,xP V v)
structure zX (st:ai)(V:List aC)(a6:List Nat)(es:Array MapEntry)(c:Nat):Prop where
 is:yQ yw (λb=>kN (some b)) es c (nA st V a6)
 lt:∀v∈a6,v<st.vars.length
 one:(a6.map st.nameOf).Nodup
def UH {α:Type}(p:α->Bool):∀{l:List α} {x:α},x∈l->p x=true->(∀y∈l,p y=true->y=x)->l.reverse.find? p=some x:=λ{l x} q j m=>by
 cases h:l.reverse.find? p with
 |none=>
  have:=List.find?_eq_none.1 h x (by simpa using q);exact absurd j this
 |some y=>
  have d:=List.find?_some h;have g:=List.mem_of_find?_eq_some h;rw[m y (by simpa using g) d]
def D0 {α j:Type}{f:α->j}:∀{l:List α},(l.map f).Nodup->∀{x y:α},x∈l->y∈l->f x=f y->x=y:=by
 intro l
 induction l with
 |nil=>intro _ x y d;cases d
 |cons a l ih=>
  intro h x y d g e;simp only[QE,QX]at h;rcases QJ.1 d with h1|h1
  .rcases QJ.1 g with h2|h2
   .exact h1.trans h2.symm
   .exact absurd (QO.2 ⟨y,h2,by rw[<- e,h1]⟩:f a∈l.map f) h.1
  .rcases QJ.1 g with h2|h2
   .exact absurd (QO.2 ⟨x,h1,by rw[e,h2]⟩:f a∈l.map f) h.1
   .exact ih h.2 h1 h2 e
def RP {st V nm}:∀{a6:List Nat},jI nm (nA st V a6)=((a6.find? λv=>decide (st.nameOf v=nm)).map (xP V)):=by
 intro a6
 induction a6 with
 |nil=>rfl
 |cons v r ih=>
  show jI nm ((st.nameOf v,xP V v)::nA st V r)=_;simp only[jI,List.find?_cons];by_cases h:st.nameOf v=nm
  .rw[if_pos h,Zt h];rfl
  .rw[if_neg h,Zf h];exact ih
def zX.find {st V a6 es c}(h:zX st V a6 es c)(nm):jI nm (nA st V a6)=(jQ st.vars a6 nm).map (xP V)/\∀v,jQ st.vars a6 nm=some v->v∈a6/\v<st.vars.length/\st.nameOf v=nm:=by
 have q:∀v∈a6,(decide ((st.vars[v]?).map (·.name)=some nm)=decide (st.nameOf v=nm)):=λv d=>by
  have C:=h.lt v d;unfold ai.nameOf;rw[Zg C];simp
 have A:jQ st.vars a6 nm=a6.find? λv=>decide (st.nameOf v=nm):=by
  unfold jQ;cases e:a6.find? (λv=>decide (st.nameOf v=nm))with
  |none=>
   rw[List.find?_eq_none]at e|-;intro v d;have s:v∈a6:=by simpa using d
   rw[q v s];exact e v s
  |some v=>
   have j:=List.find?_some e;have g:=List.mem_of_find?_eq_some e;refine UH _ g (by rw[q v g];exact j) (λy B m=>?_);rw[q y B]at m;simp only[decide_eq_true_eq]at j m;exact D0 h.one B g (m.trans j.symm)
 refine⟨by rw[RP,A],λv d=>?_⟩;rw[A]at d;have g:=List.mem_of_find?_eq_some d;exact⟨g,h.lt v g,by simpa using List.find?_some d⟩
def CN(st:ai)(x:yj){v:Nat}(d:v < st.vars.length):(st.bu x).nameOf v=st.nameOf v:=by
 unfold ai.nameOf ai.bu;simp only;rw[Vj d]
def CQ(st:ai)(x:yj):(st.bu x).nameOf st.vars.length=x.name:=by
 unfold ai.nameOf ai.bu;simp
def qOf_add {V}(y){v}(d:v < V.length):xP (V++[y]) v=xP V v:=by
 unfold xP;rw[dt d]
def qOf_new(V y):xP (V++[y]) V.length=y.q:=by
 unfold xP;exact zCR
def zX.add {st V a6 es A c s}(h:zX st V a6 es c)(H:V.length=st.vars.length){x y}(G:jQ st.vars a6 x.name=none)(E:yQ yw (λb=>kN (some b)) A s (js x.name y.q (nA st V a6))):zX (st.bu x) (V++[y]) (a6++[st.vars.length]) A s:=by
 have g:nA (st.bu x) (V++[y]) a6=nA st V a6:=QD λv d=>by
  have:=h.lt v d;rw[CN st x this,qOf_add y Zo]
 have j:=(h.find x.name).1;rw[G]at j;refine⟨?_,λv d=>?_,?_⟩
 .have e:nA (st.bu x) (V++[y]) (a6++[st.vars.length])=nA st V a6++[(x.name,y.q)]:=by
   show List.map _ (a6++[st.vars.length])=_;rw[QC];have:=g;unfold nA at this;rw[this];simp only[QE,QG];rw[CQ,<- H,qOf_new];rfl
  rw[e,<- gp j];exact E
 .show v<(st.vars++[x]).length;rw[Vz,QA];rcases QH.1 d with h1|h1
  .have:=h.lt v h1;omega
  .rw[QU.1 h1];omega
 .rw[QC];have F:a6.map (st.bu x).nameOf=a6.map st.nameOf:=QD λv d=>CN st x (h.lt v d)
  rw[F,List.map_singleton,CQ,QW];refine⟨h.one,Zs,λa C b D=>?_⟩;obtain⟨v,m,rfl⟩:=QO.1 C;rw[QU.1 D];intro e;have B:=RN.1 j;exact B (QO.2 ⟨(st.nameOf v,xP V v),QO.2 ⟨v,m,rfl⟩,e⟩)
def zX.more {st m V g a6 es c}(h:zX st V a6 es c)(s:st.vars <+:m.vars)(C:V.map aC.q <+:g.map aC.q)(hv:V.length=st.vars.length):zX m g a6 es c:=by
 have A:∀v∈a6,m.nameOf v=st.nameOf v:=λv d=>by
  obtain⟨r,j⟩:=s;unfold ai.nameOf;rw[<- j,Vj (h.lt v d)]
 have E:∀v∈a6,xP g v=xP V v:=λv d=>by
  obtain⟨r,j⟩:=C;have hl:=h.lt v d;have e:∀W:List aC,v<W.length->xP W v=((W.map aC.q)[v]?).getD 0:=λW D=>by
   unfold xP;rw[Vh,Vu,Zg D];rfl
  have B:v<g.length:=by
   have:=congrArg List.length j;simp only[Vz,Q6]at this;omega
  rw[e g B,e V Zo,<- j,Vj (by rw[Q6];omega)]
 refine⟨?_,λv d=>?_,?_⟩
 .have:nA m g a6=nA st V a6:=QD λv d=>by rw[A v d,E v d]
  rw[this];exact h.is
 .obtain⟨r,j⟩:=s;have:=h.lt v d;rw[<- j,Vz];omega
 .rw[QD A];exact h.one
structure rW (F:List ByteArray)(es:Array MapEntry)(c:Nat):Prop where
 is:∃m:List (ByteArray×Nat),yQ yw (λn:Nat=>.int .i64 n) es c m/\∀nm,jI nm m=F.findIdx? (λs=>decide (s=nm))
structure Aq (G:List ByteArray)(es:Array MapEntry)(c:Nat):Prop where
 is:∃m:List (ByteArray×Nat),yQ yw (λn:Nat=>.int .i64 n) es c m/\∀nm,decide ((jI nm m).getD 0=0)=!G.any (λs=>decide (s=nm))
def kS(r:wY):List Value:=[.int .u8 r.kind,.int .i64 r.index,.int .i64 r.slot,.string r.name]
def rz:List Value:=[.int .u8 0,.int .i64 0,.int .i64 0,.string e0]
def uQ(V:List aC)(r:wY):Value:=if r.kind=99 then .tuple #[.agg rz.toArray,kN (some (xP V r.index.toNat))]else .tuple #[.agg (kS r).toArray,.pointer none]
def XR {s}(h1:s≠CT)(h2:s≠o8)(d:s≠JI)(g:s≠CU)(j:s≠sO):wm s=0:=by
 unfold wm;rw[if_neg (by rintro(h|h)<;>contradiction),if_neg d,if_neg g,if_neg j]
def OT {st:ai}(h:st.f=none)(e:Nat)(p:Int):(st.wrong e p).f=some (e,p):=by
 unfold ai.wrong;rw[h];rfl
section
variable {F G:List ByteArray} {st:ai} {a6:List Nat} {nm:ByteArray} {u:Nat} {p:Int} {put:Bool}
def fG(h:wm nm≠0):jx F G st a6 nm u p put=(⟨wm nm,0,0,e0⟩,st):=by unfold jx;rw[if_pos h]
def JY(h:wm nm=0){v:Nat}(g:jQ st.vars a6 nm=some v)(d:(put&&((st.vars[v]?).map (·.arg)).getD false)=false):jx F G st a6 nm u p put=(wM v,st.use u v):=by
 unfold jx;rw[if_neg Zo,g];simp only[d];rfl
def JX(h:wm nm=0){v:Nat}(j:jQ st.vars a6 nm=some v)(g:(put&&((st.vars[v]?).map (·.arg)).getD false)=true)(d:st.f=none):(jx F G st a6 nm u p put).2.f=some (182,p):=by
 unfold jx;rw[if_neg Zo,j];simp only[g,if_true,ai.wrong,d,Option.isNone_none]
def rI(h:wm nm=0)(g:jQ st.vars a6 nm=none){i:Nat}(d:F.findIdx? (λs=>decide (s=nm))=some i):jx F G st a6 nm u p put=(⟨7,i,0,e0⟩,st):=by
 unfold jx;rw[if_neg Zo,g];simp only[d]
def Fh(h:wm nm=0)(j:jQ st.vars a6 nm=none)(g:F.findIdx? (λs=>decide (s=nm))=none)(d:G.any (λs=>decide (s=nm))=true):jx F G st a6 nm u p put=(⟨8,0,0,nm⟩,st):=by
 unfold jx;rw[if_neg Zo,j];simp only[g,d,if_true]
def Fi(h:wm nm=0)(m:jQ st.vars a6 nm=none)(j:F.findIdx? (λs=>decide (s=nm))=none)(g:G.any (λs=>decide (s=nm))=false)(d:st.f=none):(jx F G st a6 nm u p put).2.f=some (181,p):=by
 unfold jx;rw[if_neg Zo,m];simp only[j,g,vN,if_false];exact OT d 181 p
end
def jd(T:List kC)(v:Value)(rs:List wY):Prop:=∃a c,v=.slice a rs.length c/\∀(i:Nat) r,rs[i]? =some r->∃b o,a=some ⟨b,o,none⟩/\∀y∈kA b (o+i*4) (kS r),y∈T
def zH(T:List kC)(v:Value)(l:List Nat):Prop:=∃a c,v=.slice a l.length c/\∀(i:Nat) q,l[i]? =some q->∃b o,a=some ⟨b,o,none⟩/\kC.cell b (o+i) (kN (some q))∈T
def jd.more {T T' v rs}(h:jd T v rs)(m:∀x∈T,x∈T'):jd T' v rs:=by
 obtain⟨a,c,d,g⟩:=h;exact⟨a,c,d,λi r j=>let⟨b,o,k1,k2⟩:=g i r j;⟨b,o,k1,λy q=>m _ (k2 y q)⟩⟩
def zH.more {T T' v l}(h:zH T v l)(m:∀x∈T,x∈T'):zH T' v l:=by
 obtain⟨a,c,d,g⟩:=h;exact⟨a,c,d,λi r j=>let⟨b,o,k1,k2⟩:=g i r j;⟨b,o,k1,m _ k2⟩⟩
def jd.nil(T):jd T Nz []:=⟨none,0,rfl,λi r h=>by simp at h⟩
def zH.nil(T):zH T Nz []:=⟨none,0,rfl,λi r h=>by simp at h⟩
def zS(rs:List wY):List wY:=rs.filter λr=>decide (r.kind≠99)
def fk(rs:List wY):List wY:=rs.filter λr=>decide (r.kind=99)
structure yb (qs:List Nat)(rs:List wY):Prop where
 one:(∀r∈rs,r.kind=99)∨∀r∈rs,r.kind≠99
 raw:∀r∈rs,r.kind=99->∃v,r=wM v/\v<qs.length
inductive AX (T:List kC)(qs:List Nat):PN->List Value->Prop
 |mk {k:Nat} {nm:ByteArray} {lit:Lt} {refs:List wY} {cg:Int} {fP:Bool} {ak:List PN} {lv:List Value} {rv vv:Value} {a:Option Addr} {c bk o:Nat} {us:Nat->List Value} (hl:yc T lit lv) (hr:jd T rv (zS refs))
   (hv:zH T vv ((fk refs).map λr=>qs.getD r.index.toNat 0)) (ok:yb qs refs) (hz:zS refs=[]->rv=Nz) (ha:0<ak.length->a=some ⟨bk,o,none⟩) (hm:∀i,i<ak.length->∀y∈kA bk (o+i*13) (us i),y∈T) (hs:∀i x,ak[i]? =some x->AX T qs x (us i)):
   AX T qs (.mk k nm lit refs cg fP ak) ([cv k,.string nm]++lv++[rv,.int .i64 cg,.bool fP,Nz,vv,.slice a ak.length c])
def AX.len {T qs x vs}(h:AX T qs x vs):vs.length=13:=by
 cases h with
 |mk hl=>simp[hl.len]
def yb.more {qs d rs}(h:yb qs rs)(j:qs <+:d):yb d rs:=
 ⟨h.one,λr m g=>let⟨v,h1,h2⟩:=h.raw r m g;⟨v,h1,Qv h2 j.length_le⟩⟩
def Ff {qs d rs}(h:yb qs rs)(hq:qs <+:d):(fk rs).map (λr=>d.getD r.index.toNat 0)=(fk rs).map λr=>qs.getD r.index.toNat 0:=by
 refine QD λr m=>?_
 obtain⟨g,j⟩:=QM.1 m;obtain⟨v,rfl,hv⟩:=h.raw r g (of_decide_eq_true j);exact zEG
def AX.more {T T' qs g}(d:∀x∈T,x∈T')(j:qs <+:g){x vs}(h:AX T qs x vs):AX T' g x vs:=by
 induction h with
 |mk hl hr hv ok hz ha hm hk ih=>
  refine .mk (hl.more d) (hr.more d) ?_ (ok.more j) hz ha (λi m y q=>d _ (hm i m y q)) ih;rw[Ff ok j];exact hv.more d
structure zz (T:List kC)(qs:List Nat)(l:List PN)(rows:List (List Value)):Prop where
 len:rows.length=l.length
 w:∀r∈rows,r.length=13
 rd:∀(i:Nat) x r,l[i]? =some x->rows[i]? =some r->AX T qs x r
def zz.nil(T qs):zz T qs [] []:=⟨rfl,Zs,λi x r h=>by simp at h⟩
def zz.more {T T' qs d l rows}(h:zz T qs l rows)(m:∀x∈T,x∈T')(g:qs <+:d):zz T' d l rows:=⟨h.len,h.w,λi x r q j=>(h.rd i x r q j).more m g⟩
def zz.snoc {T qs l rows x r}(h:zz T qs l rows)(hx:AX T qs x r):zz T qs (l++[x]) (rows++[r]):=by
 refine⟨by simp[h.len],λr' KV=>?_,λi y s hy hs=>?_⟩
 .exact zFN
 .exact zB5
def CM {B:List kC}{qs:List Nat}{k:Nat}{nm:ByteArray}{lit:Lt}{refs:List wY}{cg:Int}{fP:Bool}{ak:List PN}{lv:List Value}{rv vv sv:Value}{rows:List (List Value)}{sp:List Value}(s:ke 13 sv ak.length rows.flatten sp)(hr:zz B qs ak rows)
 (E:yc B lit lv) (C:jd B rv (zS refs)) (D:zH B vv ((fk refs).map λr=>qs.getD r.index.toNat 0)) (ok:yb qs refs) (G:zS refs=[]->rv=Nz:=by intro _;rfl):
 AX (aj sv rows.flatten sp++B) qs (.mk k nm lit refs cg fP ak) ([cv k,.string nm]++lv++[rv,vi cg,.bool fP,Nz,vv,sv]):=by
 have aL:∀i,i<ak.length->rows[i]? =some (rows.getD i []):=λi hi=>by
  exact zEX
 have j:∀y∈B,y∈aj sv rows.flatten sp++B:=λy hy=>QI _ hy
 have A:=E.more j;have d:=C.more j;have g:=D.more j;clear E C D;generalize F:ak.length=m at s;generalize H:rows.flatten=xs at s|-;cases s with
 |@mk bk o _ c _ _ h1 h2 h3=>
  rw[<- F];subst H;refine .mk (bk:=bk) (o:=o) (us:=λi=>rows.getD i []) A d g ok G (λ_=>rfl) (λi hi y hy=>?_) (λi x q=>?_)
  .exact zE1
  .have hi:=(Vt.1 q).1;exact(hr.rd i x _ q (aL i hi)).more j (Qf _)
 |nil=>
  have I:ak=[]:=vy F;subst I;exact .mk (bk:=0) (o:=0) (us:=λ_=>[]) A d g ok G (λh=>absurd h Zs) (λi hi=>absurd hi Zs) (λi x q=>by simp at q)
def lz:List Value:=[cv 0,.int .i64 0,.int .u64 0,.string e0,Nz]
def zT(B):yc B fD lz:=.mk (bk:=0) (o:=0) (us:=λ_=>[]) ⟨Zd,Zd,Zd,Zd,Zd⟩ (λh=>absurd h Zs) (λi d=>absurd d Zs) (λi x g=>by simp at g)
def yb.nil(qs):yb qs []:=⟨.inl Zs,Zs⟩
def xZ(T:List kC)(qs:List Nat)(v:Value)(l:List PN):Prop:=∃(a:Option Addr) (c bk o:Nat) (us:Nat->List Value),v=.slice a l.length c/\(0<l.length->a=some ⟨bk,o,none⟩)/\(∀i,i<l.length->∀y∈kA bk (o+i*13) (us i),y∈T)/\∀i x,l[i]? =some x->AX T qs x (us i)
def xZ.nil(T qs):xZ T qs Nz []:=⟨none,0,0,0,λ_=>[],rfl,λh=>absurd h Zs,λi d=>absurd d Zs,λi x h=>by simp at h⟩
def xZ.more {T T' qs d v l}(h:xZ T qs v l)(g:∀x∈T,x∈T')(B:qs <+:d):xZ T' d v l:=by
 obtain⟨a,c,bk,o,us,j,m,q,s⟩:=h;exact⟨a,c,bk,o,us,j,m,λi A y D=>g _ (q i A y D),λi x C=>(s i x C).more g B⟩
def ns_made {B qs l sv rows sp}(j:ke 13 sv l.length rows.flatten sp)(m:zz B qs l rows):xZ (aj sv rows.flatten sp++B) qs sv l:=by
 have h:=CM (k:=0) (nm:=e0) (cg:=0) (fP:=false) j m (zT B) (jd.nil B) (zH.nil B) (yb.nil qs);generalize g:PN.mk 0 e0 fD [] 0 false l=x at h;generalize q:([cv 0,.string e0]++lz++[Nz,vi 0,.bool false,Nz,Nz,sv]:List Value)=ws at h;cases h with
 |@mk k nm lit refs cg fP ak lv rv vv a c bk o us hl KV hv ok hz ha hm hs=>
  simp only[PN.mk.injEq]at g;obtain⟨_,_,_,_,_,_,rfl⟩:=g;have e:sv=.slice a l.length c:=by
   have d:=congrArg List.reverse q;simp only[List.reverse_append,List.reverse_cons,List.reverse_nil,QV,vq,vj]at d;exact(List.cons.inj d).1
  exact⟨a,c,bk,o,us,e,ha,hm,hs⟩
structure lf (st:ai)(us:Value)(bM:List Value)(U:List UC)(V:List aC)(T:List kC):Prop where
 rep:di st U V
 ok:st.f=none
 sl:ke 1 us U.length (U.map λu=>kN (some u.q)) bM
 bod:∀(i:Nat) u,U[i]? =some u->xZ T (V.map aC.q) u.body (st.a8.getD i [])
def cW(a5 ae:List ByteArray)(n:Nat):Nat:=1+a5.length+ae.length+n
mutual
def cV:Nd->Nat
 |.mk _ _ _ a5 ae ak _=>cW a5 ae (kf ak)
def kf:List Nd->Nat
 |[]=>0
 |x::r=>cV x+kf r
end
def yP(st:ai)(n:Nat):Prop:=st.vars.length+n<1073741824/\st.dg.length+n<1073741824/\st.a7.length+n<1073741824
def yE(a b:ai)(n:Nat):Prop:=b.vars.length<=a.vars.length+n/\b.dg.length<=a.dg.length+n/\b.a7.length<=a.a7.length+n
def yE.trans {a b c n m}(h:yE a b n)(k:yE b c m):yE a c (n+m):=by
 obtain⟨h1,h2,h3⟩:=h;obtain⟨k1,k2,k3⟩:=k;exact⟨Zo,Zo,Zo⟩
def yE.mono {a b n m}(h:yE a b n)(hm:n<=m):yE a b m:=by
 obtain⟨h1,h2,h3⟩:=h;exact⟨Zo,Zo,Zo⟩
def yE.refl(a):yE a a 0:=⟨Qs _,Qs _,Qs _⟩
def yP.less {a b n m}(h:yP a (n+m))(k:yE a b n):yP b m:=by
 obtain⟨h1,h2,h3⟩:=h;obtain⟨k1,k2,k3⟩:=k;exact⟨Zo,Zo,Zo⟩
def yP.mono {a n m}(h:yP a n)(hm:m<=n):yP a m:=by
 obtain⟨h1,h2,h3⟩:=h;exact⟨Zo,Zo,Zo⟩
def Mw(a e p):yE a (a.wrong e p) 0:=by
 unfold ai.wrong;split<;>exact⟨Qs _,Qs _,Qs _⟩
def w7(cg:Nat)(arg own:Bool)(p:Int):∀(l:List ByteArray) (i:Nat) (st:ai) (a6:List Nat),yE st (kO cg arg own p l i st a6).1 l.length
 |[],_,st,_=>yE.refl st
 |nm::r,i,st,a6=>by
  unfold kO;have d:yE st {(if(jQ st.vars a6 nm).isSome then st.wrong 180 p else st)with vars:=st.vars++[⟨nm,cg,arg,if arg&&own then i else -1⟩]} 1:=by
   refine⟨Zs,?_,?_⟩
   .split
    .show(st.wrong 180 p).dg.length<=_;rw[Dr];omega
    .show st.dg.length<=_;omega
   .split
    .show(st.wrong 180 p).a7.length<=_;rw[eR];omega
    .show st.a7.length<=_;omega
  have g:=d.trans (w7 cg arg own p r (i+1) _ (a6++[st.vars.length]));exact g.mono (by rw[Q0];omega)
def sD(F G st a6 nm u p put):yE st (jx F G st a6 nm u p put).2 1:=by
 unfold jx;split
 .exact(yE.refl st).mono Zo
 .split
  .rename_i v _;simp only;split
   .refine⟨?_,?_,?_⟩
    .show(st.wrong 182 p).vars.length<=_;rw[dT];omega
    .show(st.dg++[(u,v)]).length<=_;simp
    .show(st.wrong 182 p).a7.length<=_;rw[eR];omega
   .exact⟨Qt _,Zs,Qt _⟩
  .split
   .exact(yE.refl st).mono Zo
   .simp only;split
    .exact(yE.refl st).mono Zo
    .exact(Mw st 181 p).mono Zo
def uD(a o n):yE a {a with a7:=a.a7++[o],a5:=a.a5++[n],a8:=a.a8++[[]]} 1:=⟨Qt _,Qt _,Zs⟩
def dD(F G):∀(N:Nat) (x:Nd),x.size<=N->∀st a6 u,yE st (jF F G x st a6 u).2 (cV x)/\yE st (zW F G x st a6 u).2 (cV x):=by
 intro N
 induction N with
 |zero=>intro x j;have:=x.size_pos;omega
 |succ N ih=>
  have g:∀l:List Nd,Nd.ay l<=N->∀st a6 u,yE st (kQ F G l st a6 u).2 (kf l):=by
   intro l
   induction l with
   |nil=>intro _ st a6 u;rw[kQ];exact yE.refl st
   |cons x r tC=>
    exact zFJ
  have A:∀(s:ByteArray) (l:List Nd),Nd.ay l<=N->∀i st a6 u,yE st (ku F G s l i st a6 u).2.2 (kf l):=by
   intro s l
   induction l with
   |nil=>intro _ i st a6 u;rw[ku];exact yE.refl st
   |cons x r tC=>
    exact zCM
  intro x j st a6 u;cases x with
  |mk k s lit a5 ae ak p=>
  simp only[Nd.size]at j;have d:Nd.ay ak<=N:=by omega
  simp only[cV,cW];refine⟨?_,?_⟩
  .cases h:fA k s ak with
   |true=>rw[yf _ _ _ _ _ _ _ _ _ _ _ _ h];exact(A s ak d 0 st a6 u).mono Zo
   |false=>
    by_cases h1:k=1
    .rw[ig _ _ _ _ _ _ _ _ _ _ _ _ h h1];exact(yE.refl st).mono Zo
    by_cases h2:k=2
    .rw[ii _ _ _ _ _ _ _ _ _ _ _ _ h h2];exact(sD F G st a6 s u p false).mono Zo
    by_cases h3:k=3
    .rw[ij _ _ _ _ _ _ _ _ _ _ _ _ h h3];exact((sD F G st a6 s u p true).trans (g ak d _ a6 u)).mono Zo
    by_cases h7:k=7
    .rw[iq _ _ _ _ _ _ _ _ _ _ _ _ h h7];simp only;rw[wu];have m:=g ak d (bq a5 ae p st a6 (u:Int)).1 (bq a5 ae p st a6 (u:Int)).2 st.a7.length;have q:yE st (bq a5 ae p st a6 (u:Int)).1 (1+(a5.length+ae.length)):=(uD st (u:Int) a5.length).trans ((w7 _ _ _ _ _ _ _ _).trans (w7 _ _ _ _ _ _ _ _));exact yE.mono (b:={(kQ F G ak (bq a5 ae p st a6 (u:Int)).1 (bq a5 ae p st a6 (u:Int)).2 st.a7.length).2 with a8:=_}) (q.trans m) Zo
    by_cases h8:k=8
    .rw[ir _ _ _ _ _ _ _ _ _ _ _ _ h h8];exact(g ak d st a6 u).mono Zo
    by_cases h9:k=9
    .rw[iu _ _ _ _ _ _ _ _ _ _ _ _ h h9];exact(g ak d st a6 u).mono Zo
    by_cases h6:k=6
    .rw[io _ _ _ _ _ _ _ _ _ _ _ _ h h6];exact(g ak d st a6 u).mono Zo
    by_cases h5:k=5
    .rw[im _ _ _ _ _ _ _ _ _ _ _ _ h h5];exact(g ak d st a6 u).mono Zo
    cases hs:jR ak with
    |true=>
     rw[eI _ _ _ _ _ _ _ _ _ _ _ _ h ⟨h1,h2,h3,h5,h6,h7,h8,h9⟩ hs];cases ak with
     |nil=>cases hs
     |cons x r=>
      simp only[Nd.ay]at d;simp only[List.tail_cons,kf];exact(g r Zo st a6 u).mono Zo
    |false=>rw[il _ _ _ _ _ _ _ _ _ _ _ _ h ⟨h1,h2,h3,h5,h6,h7,h8,h9⟩ hs];exact(g ak d st a6 u).mono Zo
  .rw[fB];exact((w7 _ _ _ _ _ _ _ _).trans ((w7 _ _ _ _ _ _ _ _).trans (g ak d _ _ _))).mono Zo
def wa(F G):∀(l:List Nd) st a6 u,Gr st (kQ F G l st a6 u).2:=by
 intro l
 induction l with
 |nil=>intro st a6 u;rw[kQ];exact Gr.refl st
 |cons x r ih=>
  intro st a6 u;rw[wE];exact(wt F G _ x (Qs _) st a6 u).1.trans (ih _ a6 u)
def yv {A y vs}(h:jD A y vs):∃(m:Nat) (q:Int) (s:Nat) (B:ByteArray) (C:Option Addr) (D E:Nat) (F:Option Addr) (G H:Nat) (I:Option Addr) (J K:Nat) (d:Option Addr) (g j:Nat),
 vs=(rN y.kind y.name m q s B C D E F G H I J K d g j y.at_):=zD8
def mO {T qs x ws}(h:AX T qs x ws):∃(d:Nat) (g:Int) (j:Nat) (m:ByteArray) (q:Option Addr) (s A:Nat) (E:Option Addr) (F G:Nat) (H:Option Addr) (I J:Nat) (B:Option Addr) (C D:Nat),
 ws=[.int .u8 x.kind,.string x.name,.int .u8 d,vi g,.int .u64 j,.string m,.slice q s A,.slice E F G,vi x.cg,.bool x.super,Nz,.slice H I J,.slice B C D]:=by
 cases h with
 |mk hl hr hv ok hz ha hm hs=>
  obtain⟨_,_,rfl,_⟩:=hr;obtain⟨_,_,rfl,_⟩:=hv;cases hl with
  |mk Tj Gp rT de=>exact⟨_,_,_,_,_,_,_,_,_,_,_,_,_,_,_,_,rfl⟩
def CS(q n:Nat)(o:Option Nat)(i nb:Nat):UC:=⟨q,n,0,0,o,i,[],Nz,[],nb,#[],0,[],Nz,[],Nz⟩
def oC(U:List UC)(o:Int):Option Nat:=if o<0 then none else(U[o.toNat]?).map UC.q
def di.aF {st:ai}{U:List UC}{V:List aC}(h:di st U V){o:Int}{n:Nat}(I:-1<=o/\o < st.a7.length){q G:Nat}(O:q∉U.map UC.q):di (st.aF o n) (U++[CS q n (oC U o) st.a7.length G]) V:=by
 have A:∀{j:Nat} {w:UC},(U++[CS q n (oC U o) st.a7.length G])[j]? =some w->(j<st.a7.length/\U[j]? =some w)∨(j=st.a7.length/\w=CS q n (oC U o) st.a7.length G):=λ{j w} d=>by
  rw[Vi]at d;split at d
  .rename_i H;exact .inl ⟨by rw[<- h.ul];exact H,d⟩
  .rename_i H;have:=(Vt.1 d).1;simp only[QA]at this;have S9:=h.ul;have e:j-U.length=0:=by omega
   rw[e]at d;exact .inr ⟨Zo,by simpa using d.symm⟩
 have g:∀{j:Nat},j<st.a7.length->(U++[CS q n (oC U o) st.a7.length G])[j]? =U[j]?:=λ{j} d=>Vj (by rw[h.ul];exact d)
 have uy:=h.wf.aF (n:=n) I;have Q:(st.aF o n).a7.length=st.a7.length+1:=by unfold ai.aF;simp
 refine⟨uy,by rw[Vz,Q,h.ul];rfl,h.vl,?_,λj w d=>?_,λj w d=>?_,λj w d=>?_,λj w d=>?_,λv x y s D=>?_⟩
 .rw[QC,QW];refine⟨h.inj,Zs,λa L b M=>?_⟩;rw[List.map_singleton,QU]at M
  rintro rfl
  rw[M]at L;exact O L
 .rcases A d with⟨h1,h2⟩|⟨rfl,rfl⟩
  .have:=h.un j w h2;show w.a5=(st.a5++[n]).getD j 0/\_;rw[dt (by rw[h.wf.al];exact h1)];exact this
  .refine⟨?_,rfl,rfl,rfl,rfl,rfl,rfl⟩;show n=(st.a5++[n]).getD st.a7.length 0;rw[Vh,<- h.wf.al,Vl (Qs _),Qy];rfl
 .rcases A d with⟨h1,h2⟩|⟨rfl,rfl⟩
  .have e:(st.aF o n).a7.getD j (-1)=st.a7.getD j (-1):=dt h1;rw[e,h.ou j w h2];have H:=h.wf.gk j;split
   .rfl
   .rw[g Zo]
  .have e:(st.aF o n).a7.getD st.a7.length (-1)=o:=by
    show(st.a7++[o]).getD st.a7.length (-1)=o;exact zCR
   rw[e];show oC U o=_;by_cases hn:o<0
   .rw[if_pos hn];unfold oC;rw[if_pos hn]
   .rw[if_neg hn,g Zo];unfold oC;rw[if_neg hn]
 .have ht:(st.aF o n).ae j=st.ae j:=rfl;rw[ht];rcases A d with⟨h1,h2⟩|⟨rfl,rfl⟩
  .exact h.tm j w h2
  .have T:st.ae st.a7.length=[]:=by
    unfold ai.ae;rw[V6];intro v J;have J:=QS.1 J;obtain⟨x,s⟩:∃x,st.vars[v]? =some x:=⟨_,Zg J⟩;have:=(h.wf.vu v x s).1;have e:st.ah v=x.cg:=by unfold ai.ah;rw[s];rfl
    rw[e];simp only[vG,decide_eq_true_eq,not_and];intro e2;omega
   rw[T];exact⟨rfl,.nil⟩
 .rcases A d with⟨h1,h2⟩|⟨rfl,rfl⟩
  .obtain⟨m,E,K,F,k4⟩:=h.nd j w h2;refine⟨m,E,K,λp Z=>?_,λi z a N=>?_⟩
   .obtain⟨⟨i,z,B,C⟩,k7⟩:=F p Z;exact⟨⟨i,z,by rw[g (by rw[<- h.ul];exact(Vt.1 B).1)];exact B,C⟩,k7⟩
   .rw[h.wf.E4 I];rcases A N with⟨B,C⟩|⟨rfl,rfl⟩
    .exact k4 i z a C
    .have S:st.aD j (st.a7.length,a)=false:=by
      unfold ai.aD;rw[List.any_eq_false];intro x s;simp only[vG,decide_eq_true_eq,not_and,XA]
      rintro⟨e1,_⟩
      have hu:=(h.wf.uu x s).2;obtain⟨y,D⟩:∃y,st.vars[x.2]? =some y:=⟨_,Zg hu⟩;have:=(h.wf.vu _ y D).1;have e:st.ah x.2=y.cg:=by unfold ai.ah;rw[D];rfl
      omega
     rw[S];constructor
     .intro Y;obtain⟨c,W⟩:=X4.1 Y;obtain⟨⟨i,z,B,C⟩,_⟩:=F _ (Cz W);exact absurd (QO.2 ⟨z,Zv B,C.symm⟩) O
     .intro X;cases X
  .refine⟨[],.nil,Zs,Zs,λi z a N=>?_⟩;rw[h.wf.E4 I,h.wf.Xi _ (Qs _)];simp[jI]
 .obtain⟨⟨z,E,K⟩,F⟩:=h.vn v x y s D;exact⟨⟨z,by rw[g (by rw[<- h.ul];exact(Vt.1 E).1)];exact E,K⟩,F⟩
def di.body {st U V}(h:di st U V){i u}(C:U[i]? =some u)(A H):di {st with a8:=st.a8.set i H} (U.set i {u with body:=A}) V:=by
 have F:=zu (w':={u with body:=A}) C rfl;have G:=Gl F;have B:∀{j:Nat} {w:UC},(U.set i {u with body:=A})[j]? =some w->∃w0,U[j]? =some w0/\w={w0 with body:=w.body}:=λ{j w} d=>by
  rcases mX C d with⟨rfl,rfl⟩|⟨_,g⟩
  .exact⟨u,C,rfl⟩
  .exact⟨w,g,rfl⟩
 have fh:∀{j:Nat} {w:UC},U[j]? =some w->∃w',(U.set i {u with body:=A})[j]? =some w'/\w'.q=w.q:=λ{j w} d=>by
  have:=G j;rw[d]at this;cases e:(U.set i {u with body:=A})[j]? with
  |none=>rw[e]at this;cases this
  |some w'=>rw[e]at this;exact⟨w',rfl,X8 this⟩
 have I:∀{j:Nat} {w:UC},(U.set i {u with body:=A})[j]? =some w->∃w',U[j]? =some w'/\w.q=w'.q:=λ{j w} d=>by
  obtain⟨w0,s,g⟩:=B d;exact⟨w0,s,by rw[g]⟩
 refine⟨⟨h.wf.al,by show(st.a8.set i H).length=_;rw[Q9];exact h.wf.bl,h.wf.low,h.wf.vu,h.wf.uu⟩,by rw[Q9];exact h.ul,h.vl,by rw[F];exact h.inj,λj w d=>?_,λj w d=>?_,λj w d=>?_,λj w d=>?_,λv x y K L=>?_⟩
 .obtain⟨w0,s,g⟩:=B d;rw[g];exact h.un j w0 s
 .rw[G];obtain⟨w0,s,g⟩:=B d;rw[g];exact h.ou j w0 s
 .obtain⟨w0,s,g⟩:=B d;rw[g];exact h.tm j w0 s
 .obtain⟨w0,s,g⟩:=B d;obtain⟨m,D,E,k3,M⟩:=h.nd j w0 s;rw[g];refine⟨m,D,E,λp hp=>?_,λa z b J=>?_⟩
  .exact zER
  .obtain⟨z',k8,k9⟩:=I J;rw[k9];exact M a z' b k8
 .obtain⟨⟨z,D,E⟩,k3⟩:=h.vn v x y K L;obtain⟨z',k8,k9⟩:=fh D;exact⟨⟨z',k8,E.trans k9.symm⟩,k3⟩
def wk_body {U V i u}(h:U[i]? =some u):∃R,(WK U V).Perm (kA u.q 8 [u.body]++R)/\∀d,(WK (U.set i {u with body:=d}) V).Perm (kA u.q 8 [d]++R):=by
 have g:∀d,({u with body:=d}:UC).atoms.Perm (kA u.q 8 [d]++(.own u.q 9::(kA u.q 0 [vi u.a5,vi u.bi,vi u.aA,kN u.a7,vi u.num,u.tv,.map (some u.nb),u.cv]++(aj u.tv (u.ae.map λb=>kN (some b)) u.lS++(aj u.cv (u.dW.flatMap jZ) u.cw++[.obj u.nb (.map u.es u.cl)]))))):=λd=>by
  unfold UC.atoms UC.row;have e:kA u.q 0 [vi u.a5,vi u.bi,vi u.aA,kN u.a7,vi u.num,u.tv,.map (some u.nb),u.cv,d]=kA u.q 0 [vi u.a5,vi u.bi,vi u.aA,kN u.a7,vi u.num,u.tv,.map (some u.nb),u.cv]++kA u.q 8 [d]:=rfl;simp only;rw[e,vj,<- vq,<- vj];exact zD9
 obtain⟨R,j,m⟩:=HX (V:=V) h (g u.body);exact⟨R,j,λd=>m _ _ (g d)⟩
def OU {α:Type}(p:α->Prop):List α->Prop
 |[]=>True
 |x::r=>p x/\OU p r
def OU.mem {α:Type}{p:α->Prop}:∀{l:List α},OU p l->∀x∈l,p x
 |x::r,h,y,hy=>by
  rcases QJ.1 hy with rfl|hy
  .exact h.1
  .exact OU.mem h.2 y hy
def VC.EF {P n Γ H Q m s}(h:OU (λrs=>∃j d f xs g,rs=j++⟨d,none,.call f xs⟩::g/\OU (λS=>VO P n S Γ H (λ_ _ _=>False) λq H'=>VO P n [⟨d,none,.call f xs⟩] q H' (λA _ E=>Q (.panic A) [] E) (λ_ _=>False)) (Ea (dK xs) d.toList [] (j.map (λx=>(x,false))++g.map (λx=>(x,true))))) m):VC P n (.draw m s) Γ H Q:=
 VC.Ut λrs B=>by
  obtain⟨j,d,f,xs,g,C,D⟩:=h.mem rs B;exact⟨j,d,f,xs,g,C,D.mem⟩
def lJ {d l sp n}(h:n=l.length)(g:ke 1 d n (l.map λb=>kN (some b)) sp):zH (aj d (l.map λb=>kN (some b)) sp) d l:=by
 generalize s:(l.map λb=>kN (some b))=xs at g;cases g with
 |@mk bk o _ c _ _ h1 h2 h3=>
  subst s;rw[h];refine⟨_,c,rfl,λi q m=>⟨bk,o,rfl,?_⟩⟩;simp only[aj,j7];exact Zw _ (kI.2 ⟨i,kN (some q),by rw[Vu,m];rfl,rfl⟩)
 |nil=>
  have j:l=[]:=vy h.symm;subst j;exact zH.nil _
def MQ(a n):fk ((List.range' a n).map wM)=(List.range' a n).map wM:=by
 unfold fk;rw[V7];intro r d;obtain⟨v,_,rfl⟩:=QO.1 d;rfl
def Hp(a n):zS ((List.range' a n).map wM)=[]:=by
 unfold zS;rw[V6];intro r d;obtain⟨v,_,rfl⟩:=QO.1 d;simp[wM]
def MR {qs a n}(h:a+n<=qs.length):yb qs ((List.range' a n).map wM):=by
 refine⟨.inl λr d=>?_,λr d _=>?_⟩
 .obtain⟨v,_,rfl⟩:=QO.1 d;rfl
 .obtain⟨v,g,rfl⟩:=QO.1 d;have:=QT.1 g;exact⟨v,rfl,Zo⟩
def Ni {qs:List Nat}{a n:Nat}(h:a+n<=qs.length):((List.range' a n).map wM).map (λr=>qs.getD r.index.toNat 0)=(qs.drop a).take n:=by
 apply vz;intro i;rw[Vu,Vu,List.getElem?_take,Vo];by_cases hi:i<n
 .rw[List.getElem?_range' hi,if_pos hi];have:a+i<qs.length:=by omega
  rw[Zg this];show some (qs.getD ((a+1*i:Nat):Int).toNat 0)=_;rw[vW,Nat.one_mul,Vh,Zg this];rfl
 .rw[if_neg hi,Vp (by simpa using hi)];rfl
def drop_take {qs d:List Nat}{a n:Nat}(h:qs <+:d)(hl:qs.length=a+n):(d.drop a).take n=qs.drop a:=by
 obtain⟨t,rfl⟩:=h;rw[List.drop_append_of_le_length Zo,List.take_append_of_le_length (by rw[Q1];omega),Ql (by rw[Q1];omega)]
def w9 {A y vs}(h:jD A y vs):∃(B:Nat) (C:Int) (D:Nat) (E:ByteArray) (F:Option Addr) (G H:Nat) (d:Option Addr) (j:Nat) (g:Option Addr) (m:Nat) (q:Option Addr) (c3 bk o:Nat) (us:Nat->List Value),
 vs=(rN y.kind y.name B C D E F G H d y.a5.length j g y.ae.length m q y.ak.length c3 y.at_)/\
 yc A y.lit [.int .u8 B,vi C,.int .u64 D,.string E,.slice F G H]/\dU A (.slice d y.a5.length j) y.a5/\dU A (.slice g y.ae.length m) y.ae/\y.kind<256/\
 (0<y.ak.length->q=some ⟨bk,o,none⟩)/\(∀i,i<y.ak.length->∀z∈kA bk (o+i*11) (us i),z∈A)/\(∀i x,y.ak[i]? =some x->jD A x (us i))/\y.ak.length<=c3:=by
 cases h with
 |@mk k s lit a5 ae ak p lv av tv a c bk o us wf hl bI bL ha hm hr lW=>
  have K:=bI;have J:=bL;obtain⟨d,j,rfl,_⟩:=bI;obtain⟨g,m,rfl,_⟩:=bL;have I:=hl;cases hl with
  |mk Tj Gp rT de=>exact⟨_,_,_,_,_,_,_,d,j,g,m,a,c,bk,o,us,rfl,I,K,J,wf.kind,ha,hm,hr,lW⟩
def ze {s}:kB s=[115,117,112,101,114]↔s=⟨#[115,117,112,101,114]⟩:=by
 constructor
 .intro h;have d:kB s=kB ⟨#[115,117,112,101,114]⟩:=h.trans Zd;exact jY d
 .rintro rfl;decide
section
variable {P:Program} {n:Nat} {rs:List RO} {Γ:Env} {H:SH} {Z:List PanicEntry->Env->SH->Prop} {K:Env->SH->Prop} {d:Option Nat}
def Yy {size len cap l h b o:Nat}{x C s:Operand}{B A:IntKind}{q m:Int}(J:ev Γ x=some (.slice (some ⟨b,o,none⟩) len cap))(D:ev Γ C=some (.int B q))(j:ev Γ s=some (.int A m))(F:q=(l:Int))(E:m=(h:Int))(hr:l<=h/\h<=cap)
 (k:VO P n rs (au d (.slice (some ⟨b,if cap=l then o else o+l*size,none⟩) (h-l) (cap-l)) Γ) H Z K):VO P n (⟨d,none,.tf size x (some C) (some s) none⟩::rs) Γ H Z K:=by
 subst F E;refine VO.pure rfl (λρ g=>?_) k;have G:bound (Value.int A (h:Int)) cap=some h:=by simp[bound];omega
 have I:bound (Value.int B (l:Int)) h=some l:=by simp[bound];omega
 simp[kb,g _ _ J,g _ _ D,g _ _ j,yD,G,I,wX]
end
def jL(n:Nat):Nat:=match n with|3=>0|4=>0|5=>2|_=>1
def lR(n:Nat):Nat:=match n with|2=>3|4=>1|5=>3|_=>2
def Av {n}(d:n=1∨n=2∨n=3∨n=4){l}(h:yi n l=true):l.length=lR n:=by
 rcases d with rfl|rfl|rfl|rfl
 all_goals
  unfold yi at h;simp only at h;split at h
  .rfl
  .cases h
def fit_of {n}(g:n=1∨n=2∨n=3∨n=4){l}(d:l.length=lR n)(h:∀i y,jL n<=i->l[i]? =some y->jV y=true):yi n l=true:=by
 rcases g with rfl|rfl|rfl|rfl
 .match l,d with
  |[a,b],_=>exact h 1 b Zd rfl
 .match l,d with
  |[a,b,c],_=>show(jV b&&jV c)=true;rw[h 1 b Zd rfl,h 2 c Zd rfl];rfl
 .match l,d with
  |[a,b],_=>show(jV a&&jV b)=true;rw[h 0 a Zd rfl,h 1 b Zd rfl];rfl
 .match l,d with
  |[a],_=>exact h 0 a Zd rfl
def Gk {n}(s:n=1∨n=2∨n=3∨n=4){l i y}(q:jL n<=i)(g:l[i]? =some y)(j:jV y=false):yi n l=false:=by
 cases e:yi n l with
 |false=>rfl
 |true=>
  exfalso;have m:=Av s e;have h:=(Vt.1 g).1;rcases s with rfl|rfl|rfl|rfl
  .match l,m,e,g,h with
   |[a,b],_,e,g,h=>
    simp only[Q0,Q7]at h;simp only[jL]at q;obtain rfl:i=1:=by omega
    obtain rfl:b=y:=by simpa using g
    have d:jV b=true:=e;rw[j]at d;cases d
  .match l,m,e,g,h with
   |[a,b,c],_,e,g,h=>
    have d:(jV b&&jV c)=true:=e;simp only[Q0,Q7]at h;simp only[jL]at q;obtain rfl|rfl:i=1∨i=2:=by omega
    .obtain rfl:b=y:=by simpa using g
     rw[j]at d;cases d
    .obtain rfl:c=y:=by simpa using g
     rw[j,Bool.and_false]at d;cases d
  .match l,m,e,g,h with
   |[a,b],_,e,g,h=>
    have d:(jV a&&jV b)=true:=e;simp only[Q0,Q7]at h;obtain rfl|rfl:i=0∨i=1:=by omega
    .obtain rfl:a=y:=by simpa using g
     rw[j]at d;cases d
    .obtain rfl:b=y:=by simpa using g
     rw[j,Bool.and_false]at d;cases d
  .match l,m,e,g,h with
   |[a],_,e,g,h=>
    simp only[Q0,Q7]at h;obtain rfl:i=0:=by omega
    obtain rfl:a=y:=by simpa using g
    have d:jV a=true:=e;rw[j]at d;cases d
def sV(s):kd s<=5:=by
 unfold kd
 repeat' split
 all_goals omega
def P2 {l}(h:yi 5 l=true):l.length=3/\∃b,l[2]? =some b/\b.kind=7/\b.a5.length=1:=by
 match l,h with
 |[_,_,b],h=>
  have e:(decide (b.kind=7)&&decide (b.a5.length=1))=true:=h;rw[vG,decide_eq_true_eq,decide_eq_true_eq]at e;exact⟨rfl,b,rfl,e.1,e.2⟩
def Cj {s ak}(h:yi (kd s) ak=true){i}(hi:i < ak.length):zc s i=(decide (jL (kd s)<=i)&&decide (i<lR (kd s))):=by
 have g:=sV s;unfold zc;generalize kd s=n at h g;have q:n=0∨n=1∨n=2∨n=3∨n=4∨n=5:=by omega
 have d:∀m:Nat,m=1∨m=2∨m=3∨m=4->n=m->ak.length=lR m:=λm j e=>by subst e;exact Av j h
 rcases q with rfl|rfl|rfl|rfl|rfl|rfl
 .cases h
 .have:=d 1 Zs rfl;simp only[lR,jL]at this|-;rw[<- vJ];exact decide_eq_decide.2 Zo
 .have:=d 2 Zs rfl;simp only[lR,jL]at this|-;rw[<- vJ];exact decide_eq_decide.2 Zo
 .have:=d 3 Zs rfl;simp only[lR,jL]at this|-;rw[<- vJ];exact(Zt Zo).symm
 .have:=d 4 Zs rfl;simp only[lR,jL]at this|-;rw[<- vJ];exact(Zt Zo).symm
 .have:=(P2 h).1;simp only[lR,jL];rw[<- vJ];exact decide_eq_decide.2 Zo
def C0 {x}(h:jV x=true):x.kind=7/\x.a5.length=0:=by
 unfold jV at h
 rwa [vG,decide_eq_true_eq,decide_eq_true_eq]at h
def okK(k:Nat)(ak:List Nd):Bool:=(!decide (k=1∨k=2)||decide (ak.length=0))&&(!decide (k=5)||decide (0<ak.length))&&decide (1<=k/\k<=9)&&(!decide (k=4)||decide (0<ak.length))
mutual
def ML:Nd->Bool
 |.mk k _ lit _ _ ak _=>okK k ak&&decide (lit.size<=274877906944)&&rC ak
def rC:List Nd->Bool
 |[]=>true
 |x::r=>ML x&&rC r
end
def yu {x}:∀{l:List Nd},rC l=true->x∈l->ML x=true:=by
 intro l
 induction l with
 |nil=>intro _ h;cases h
 |cons y r ih=>
  intro h hx;simp only[rC,vG]at h;rcases QJ.1 hx with rfl|hx
  .exact h.1
  .exact ih h.2 hx
def jO(cg:Nat)(arg own:Bool)(p:Int):∀(l:List ByteArray) (i:Nat) (st:ai) (a6:List Nat),(kO cg arg own p l i st a6).1.a7=st.a7/\(kO cg arg own p l i st a6).1.a5=st.a5/\(kO cg arg own p l i st a6).1.a8=st.a8/\(kO cg arg own p l i st a6).1.vars.length=st.vars.length+l.length
 |[],_,st,_=>⟨rfl,rfl,rfl,rfl⟩
 |nm::r,i,st,a6=>by
  rw[kO];obtain⟨g,h,j,m⟩:=jO cg arg own p r (i+1) {(if(jQ st.vars a6 nm).isSome then st.wrong 180 p else st)with vars:=st.vars++[⟨nm,cg,arg,if arg&&own then i else -1⟩]} (a6++[st.vars.length]);have d:(if(jQ st.vars a6 nm).isSome then st.wrong 180 p else st).a7=st.a7/\(if(jQ st.vars a6 nm).isSome then st.wrong 180 p else st).a5=st.a5/\(if(jQ st.vars a6 nm).isSome then st.wrong 180 p else st).a8=st.a8:=by
   split
   .unfold ai.wrong;split<;>exact⟨rfl,rfl,rfl⟩
   .exact⟨rfl,rfl,rfl⟩
  refine⟨g.trans d.1,h.trans d.2.1,j.trans d.2.2,?_⟩;rw[m,Q0];simp only[Vz,QA];omega
def zm(cg:Nat)(arg own:Bool)(p:Int):∀(l:List ByteArray) (i:Nat) (st:ai) (a6:List Nat),(∀v∈a6,v<st.vars.length)->∀v∈(kO cg arg own p l i st a6).2,v<(kO cg arg own p l i st a6).1.vars.length/\((v∈a6/\(kO cg arg own p l i st a6).1.ah v=st.ah v)∨(kO cg arg own p l i st a6).1.ah v=cg)
 |[],_,st,a6,h=>λv g=>⟨h v g,.inl ⟨g,rfl⟩⟩
 |nm::r,i,st,a6,h=>by
  intro v g;rw[kO]at g|-;have d:({(if(jQ st.vars a6 nm).isSome then st.wrong 180 p else st)with vars:=st.vars++[⟨nm,cg,arg,if arg&&own then i else -1⟩]}:ai).vars.length=st.vars.length+1:=by simp
  obtain⟨j,m⟩:=zm cg arg own p r (i+1) {(if(jQ st.vars a6 nm).isSome then st.wrong 180 p else st)with vars:=st.vars++[⟨nm,cg,arg,if arg&&own then i else -1⟩]} (a6++[st.vars.length]) (λw q=>by
   rw[d];rcases QH.1 q with h'|h'
   .have:=h w h';omega
   .rw[QU.1 h'];omega) v g
  refine⟨j,?_⟩;rcases m with⟨h3,h4⟩|h3
  .rcases QH.1 h3 with h5|h5
   .refine .inl ⟨h5,h4.trans ?_⟩;unfold ai.ah;simp only;rw[Vj (h v h5)]
   .refine .inr (h4.trans ?_);rw[QU.1 h5];unfold ai.ah;simp
  .exact .inr h3
mutual
def yH(p:Nat->Bool):PN->Bool
 |.mk _ _ _ rs _ _ ak=>(rs.all λr=>!decide (r.kind=99)||p r.index.toNat)&&wH p ak
def wH(p:Nat->Bool):List PN->Bool
 |[]=>true
 |x::r=>yH p x&&wH p r
end
mutual
def mT {p q:Nat->Bool}(h:∀v,p v=true->q v=true):∀x:PN,yH p x=true->yH q x=true
 |.mk k s l rs u b ak,hx=>by
  simp only[yH,vG,vf,vS]at hx|-;exact⟨λr d=>(hx.1 r d).imp_right (h _),eK h ak hx.2⟩
def eK {p q:Nat->Bool}(h:∀v,p v=true->q v=true):∀l:List PN,wH p l=true->wH q l=true
 |[],_=>rfl
 |x::r,hx=>by
  simp only[wH,vG]at hx|-;exact⟨mT h x hx.1,eK h r hx.2⟩
end
def JU {p:Nat->Bool}:∀{l:List PN},(∀x∈l,yH p x=true)->wH p l=true
 |[],_=>rfl
 |x::r,h=>by
  simp only[wH,vG];exact⟨h x Zs,JU λy d=>h y (by simp[d])⟩
def sJ {p:Nat->Bool}:∀{l:List PN},wH p l=true->∀x∈l,yH p x=true
 |y::r,h,x,hx=>by
  simp only[wH,vG]at h;rcases QJ.1 hx with rfl|hx
  .exact h.1
  .exact sJ h.2 x hx
def pd(st:ai)(i v:Nat):Bool:=decide (v<st.vars.length)&&(decide (st.ah v=i)||decide ((i,v)∈st.dg))
def iP {a b}(h:Gr a b)(i v)(d:pd a i v=true):pd b i v=true:=by
 unfold pd at d|-;simp only[vG,vS,decide_eq_true_eq]at d|-;obtain⟨g,j⟩:=d;obtain⟨t,m⟩:=h.vars;have q:b.ah v=a.ah v:=by
  unfold ai.ah;rw[<- m,Vj g]
 refine⟨Qv g h.vars.length_le,?_⟩;rw[q];exact j.imp_right λk=>h.dg.subset k
structure Ph (st:ai):Prop where
 wf:Wf st
 us:∀q∈st.dg,st.ah q.2∈st.line q.1
 bd:∀(i:Nat) l,st.a8[i]? =some l->wH (pd st i) l=true
def nj(st:ai)(a6:List Nat)(u:Nat):Prop:=∀v∈a6,v<st.vars.length/\st.ah v∈st.line u
def Ph.setF {st}(h:Ph st)(f):Ph {st with f:=f}:=⟨⟨h.wf.al,h.wf.bl,h.wf.low,h.wf.vu,h.wf.uu⟩,h.us,h.bd⟩
def Ph.wrong {st}(h:Ph st)(e p):Ph (st.wrong e p):=by
 unfold ai.wrong;split
 .exact h.setF _
 .exact h
def Ph.bu {st:ai}(h:Ph st){x:yj}(s:x.cg < st.a7.length)(j:-1<=x.own/\x.own < st.a5.getD x.cg 0):Ph (st.bu x):=
 ⟨h.wf.bu s j,λq d=>by
   rw[dQ st x (h.wf.uu q d).2];exact h.us q d,λi l g=>eK (λv m=>iP (Gn st [x]) i v m) l (h.bd i l g)⟩
def Ph.aF {st:ai}(h:Ph st){o:Int}{n:Nat}(g:-1<=o/\o < st.a7.length):Ph (st.aF o n):=
 ⟨h.wf.aF g,λq j=>by
   rw[h.wf.sF g _ (h.wf.uu q j).1];exact h.us q j,λi l d=>by
   have d:(st.a8++[[]])[i]? =some l:=d;rw[Vi]at d;split at d
   .exact eK (λv m=>iP (NS st o n) i v m) l (h.bd i l d)
   .have:=(Vt.1 d).1;simp only[QA]at this;have e:i-st.a8.length=0:=by omega
    rw[e]at d;obtain rfl:[]=l:=by simpa using d
    rfl⟩
def Ph.use {st}(h:Ph st){u v}(j:u < st.a7.length)(m:v < st.vars.length)(d:st.ah v∈st.line u):Ph (st.use u v):=
 ⟨h.wf.use j m,λq g=>by
   have g:q∈st.dg++[(u,v)]:=g;rcases QH.1 g with k|k
   .exact h.us q k
   .rw[QU.1 k];exact d,λi l d=>eK (λw s=>iP (Gm st [(u,v)]) i w s) l (h.bd i l d)⟩
def Ph.body {st}(h:Ph st)(i){l}(q:wH (pd st i) l=true):Ph {st with a8:=st.a8.set i l}:=
 ⟨⟨h.wf.al,by show(st.a8.set i l).length=_;rw[Q9];exact h.wf.bl,h.wf.low,h.wf.vu,h.wf.uu⟩,h.us,λj m g=>by
   have d:(st.a8.set i l)[j]? =some m:=g;clear g;rw[Vx]at d;by_cases e:i=j
   .subst e;rw[if_pos rfl]at d;split at d
    .obtain rfl:l=m:=by simpa using d
     exact q
    .cases d
   .rw[if_neg e]at d;exact h.bd j m d⟩
def line_f {st d:ai}(h:d.a7=st.a7)(u:Nat):d.line u=st.line u:=by unfold ai.line;rw[h]
def Bn(a:ai)(c:Bool)(x:yj)(p:Int):({(if c=true then a.wrong 180 p else a)with vars:=a.vars++[x]}:ai)=(if c=true then a.wrong 180 p else a).bu x:=by
 unfold ai.bu;split
 .rw[dT]
 .rfl
def mR(cg:Nat)(arg own:Bool)(p:Int):∀(l:List ByteArray) (i:Nat) (st:ai) (a6:List Nat),Ph st->cg<st.a7.length->((arg&&own)=true->i+l.length<=st.a5.getD cg 0)->nj st a6 cg->
 Ph (kO cg arg own p l i st a6).1/\nj (kO cg arg own p l i st a6).1 (kO cg arg own p l i st a6).2 cg
 |[],_,st,a6,h,_,_,he=>⟨h,he⟩
 |nm::r,i,st,a6,h,hu,ha,he=>by
  rw[kO,Bn];obtain⟨s,q⟩:∃s,s=(if(jQ st.vars a6 nm).isSome=true then st.wrong 180 p else st):=⟨_,rfl⟩;have F:Ph s/\s.a7=st.a7/\s.a5=st.a5/\s.vars=st.vars:=by
   rw[q];split
   .refine⟨h.wrong _ _,eR _ _ _,?_,dT _ _ _⟩;unfold ai.wrong;split<;>rfl
   .exact⟨h,rfl,rfl,rfl⟩
  obtain⟨J,A,B,d⟩:=F;rw[<- q];rw[Q0]at ha;have K:∀t:ai,Ph t->cg<t.a7.length->cg∈t.line cg:=λt H G=>by rw[H.wf.line Zo];exact QL ..
  have g:(s.bu ⟨nm,cg,arg,if(arg&&own)=true then i else -1⟩).a7=st.a7:=A;have m:Ph (s.bu ⟨nm,cg,arg,if(arg&&own)=true then i else -1⟩):=by
   refine J.bu (by rw[A];exact hu) ?_;rw[B];simp only;split
   .rename_i c;have:=ha c;omega
   .omega
  refine mR cg arg own p r (i+1) _ _ m (by rw[g];exact hu) (λc=>?_) (λv I=>?_)
  .have:=ha c;show i+1+r.length<=s.a5.getD cg 0;rw[B];omega
  .have G:(s.bu ⟨nm,cg,arg,if(arg&&own)=true then i else -1⟩).vars.length=st.vars.length+1:=by
    show(s.vars++[_]).length=_;rw[Vz,d];rfl
   rcases QH.1 I with h1|h1
   .obtain⟨C,D⟩:=he v h1;refine⟨Zo,?_⟩;rw[dQ s _ (by rw[d];exact C)];have j:s.ah v=st.ah v:=by unfold ai.ah;rw[d]
    have E:(s.bu ⟨nm,cg,arg,if(arg&&own)=true then i else -1⟩).line cg=st.line cg:=line_f g cg;rw[j,E];exact D
   .rw[QU.1 h1];refine⟨Zo,?_⟩;have j:(s.bu ⟨nm,cg,arg,if(arg&&own)=true then i else -1⟩).ah st.vars.length=cg:=by
     rw[<- d];unfold ai.ah ai.bu;simp
    rw[j];exact K _ m (by rw[g];exact hu)
def ud {vs a6 nm v}(h:jQ vs a6 nm=some v):v∈a6:=by
 have:=List.mem_of_find?_eq_some h;simpa using this
def Hu(s):wm s<5:=by
 unfold wm
 repeat' split
 all_goals omega
def XG(F G){st a6 u}(nm p put)(h:Ph st)(B:u < st.a7.length)(q:nj st a6 u):
 Ph (jx F G st a6 nm u p put).2/\((jx F G st a6 nm u p put).1.kind=99->pd (jx F G st a6 nm u p put).2 u (jx F G st a6 nm u p put).1.index.toNat=true):=by
 unfold jx;split
 .refine⟨h,λk=>?_⟩;have:=Hu nm;simp only at k;omega
 .split
  .rename_i v C;obtain⟨d,m⟩:=q v (ud C);have j:Ph (st.use u v):=h.use B d m;have g:∀s:ai,s.vars=st.vars->pd {s with dg:=st.dg++[(u,v)]} u v=true:=λs A=>by
    unfold pd;simp only[vG,vS,decide_eq_true_eq];exact⟨by rw[A];exact d,.inr Zs⟩
   refine⟨?_,λ_=>?_⟩
   .simp only;split
    .have e:({st.wrong 182 p with dg:=st.dg++[(u,v)]}:ai)={st.use u v with f:=(st.wrong 182 p).f}:=by
      unfold ai.wrong ai.use;split<;>rfl
     rw[e];exact j.setF _
    .exact j
   .show pd _ u ((v:Int)).toNat=true;rw[vW];simp only;split
    .exact g _ (dT _ _ _)
    .exact g _ rfl
  .split
   .exact⟨h,λk=>by simp at k⟩
   .refine⟨?_,λk=>by simp at k⟩;simp only;split
    .exact h
    .exact h.wrong _ _
def nj.gr {a b a6 u}(h:nj a a6 u)(g:Gr a b)(m:Wf a)(B:Wf b)(D:u < a.a7.length):nj b a6 u:=λv E=>by
 obtain⟨j,A⟩:=h v E;refine⟨Qv j g.vars.length_le,?_⟩;have q:b.ah v=a.ah v:=by
  obtain⟨t,d⟩:=g.vars;unfold ai.ah;rw[<- d,Vj j]
 have s:∀w:Nat,w<a.a7.length->b.line w=a.line w:=by
  intro w
  induction w using Nat.strongRecOn with
  |_ w ih=>
   intro F;have C:b.a7.getD w (-1)=a.a7.getD w (-1):=by
    obtain⟨t,d⟩:=g.a7;rw[<- d,Vh,Vh,Vj F]
   have hl:=g.a7.length_le;rw[B.line Zo,m.line Zo,C]
   congr 1
   split
   .rfl
   .have:=m.gk w;exact ih _ Zo Zo
 rw[q,s u D];exact A
def MP {p}(b){l}(h:wH p l=true):wH p (we b l)=true:=by
 cases l with
 |nil=>rfl
 |cons x r=>
  simp only[wH,vG]at h;simp only[we,wH,vG];refine⟨h.1,JU λy d=>?_⟩;obtain⟨z,g,rfl⟩:=QO.1 d;have:=sJ h.2 z g;cases z;exact this
def Sd {p:Nat->Bool}{a n:Nat}(h:∀v,a<=v->v < a+n->p v=true):((List.range' a n).map wM).all (λr=>!decide (r.kind=99)||p r.index.toNat)=true:=by
 rw[vf];intro r d;obtain⟨v,g,rfl⟩:=QO.1 d;have:=QT.1 g;show(!decide ((99:Nat)=99)||p ((v:Int)).toNat)=true;rw[vW,h v this.1 this.2,Bool.or_true]
def qO(cg:Nat)(arg own:Bool)(p:Int):∀(l:List ByteArray) (i:Nat) (st:ai) (a6:List Nat) (v:Nat),st.vars.length<=v->v<st.vars.length+l.length->(kO cg arg own p l i st a6).1.ah v=cg
 |[],_,_,_,v,h1,h2=>by simp only[Q7]at h2;omega
 |nm::r,i,st,a6,v,h1,h2=>by
  rw[kO];rw[Q0]at h2;by_cases e:v=st.vars.length
  .have g:=zv cg arg own p r (i+1) {(if(jQ st.vars a6 nm).isSome then st.wrong 180 p else st)with vars:=st.vars++[⟨nm,cg,arg,if arg&&own then i else -1⟩]} (a6++[st.vars.length]);obtain⟨t,d⟩:=g.vars;unfold ai.ah;rw[<- d,Vj (by simp[e]),e];simp
  .exact qO cg arg own p r (i+1) _ _ v tK tK
def ph_part(F G):∀(N:Nat) (x:Nd),x.size<=N->∀st a6 u,Ph st->u<st.a7.length->nj st a6 u->
 (Ph (jF F G x st a6 u).2/\yH (pd (jF F G x st a6 u).2 u) (jF F G x st a6 u).1=true)/\(Ph (zW F G x st a6 u).2/\yH (pd (zW F G x st a6 u).2 u) (zW F G x st a6 u).1=true/\(x.a5.length=1->pd (zW F G x st a6 u).2 u st.vars.length=true)):=by
 intro N
 induction N with
 |zero=>intro x hx;have:=x.size_pos;omega
 |succ N ih=>
  have aw:∀l:List Nd,Nd.ay l<=N->∀st a6 u,Ph st->u<st.a7.length->nj st a6 u->Ph (kQ F G l st a6 u).2/\wH (pd (kQ F G l st a6 u).2 u) (kQ F G l st a6 u).1=true:=by
   intro l
   induction l with
   |nil=>intro _ st a6 u h hu he;rw[kQ];exact⟨h,rfl⟩
   |cons x r tC=>
    intro O st a6 u h hu he;simp only[Nd.ay]at O;rw[wE];have H:=(wt F G N x Zo st a6 u).1;obtain⟨d,h2⟩:=(ih x Zo st a6 u h hu he).1;obtain⟨h3,h4⟩:=tC Zo _ a6 u d (Qv hu H.a7.length_le) (he.gr H h.wf d.wf hu);exact zEJ
  have oq:∀(s:ByteArray) (l:List Nd),Nd.ay l<=N->∀i st a6 u,Ph st->u<st.a7.length->nj st a6 u->(∀k y,l[k]? =some y->kd s=5->zc s (i+k)=true->y.a5.length=1)->
   Ph (ku F G s l i st a6 u).2.2/\wH (pd (ku F G s l i st a6 u).2.2 u) (ku F G s l i st a6 u).1=true/\((ku F G s l i st a6 u).2.1.all λr=>!decide (r.kind=99)||pd (ku F G s l i st a6 u).2.2 u r.index.toNat)=true/\Gr st (ku F G s l i st a6 u).2.2:=by
   intro s l
   induction l with
   |nil=>intro _ i st a6 u h hu he _;rw[ku];exact⟨h,rfl,rfl,Gr.refl _⟩
   |cons x r tC=>
    intro O i st a6 u h hu he K;simp only[Nd.ay]at O;obtain⟨H,g2⟩:=wt F G N x Zo st a6 u;obtain⟨⟨d,h2⟩,h3,h4,J⟩:=ih x Zo st a6 u h hu he;have eS:∀k y,r[k]? =some y->kd s=5->zc s (i+1+k)=true->y.a5.length=1:=λk y Q B m=>K (k+1) y (by simpa using Q) B (by rw[show i+(k+1)=i+1+k from by omega];exact m)
    cases D:zc s i with
    |true=>
     rw[yF _ _ _ _ _ _ _ _ _ D];obtain⟨k1,k2,q,A⟩:=tC Zo (i+1) _ a6 u h3 (Qv hu g2.a7.length_le) (he.gr g2 h.wf h3.wf hu) eS;refine⟨k1,?_,?_,g2.trans A⟩
     .simp only[wH,vG];exact⟨mT (λv hv=>iP A u v hv) _ h4,k2⟩
     .simp only;split
      .rename_i M;simp only[ve,vG,vS];refine⟨.inr ?_,q⟩;have:=iP A u _ (J (K 0 x rfl M D));show pd _ u ((st.vars.length:Int)).toNat=true;rw[vW];exact this
      .exact q
    |false=>
     rw[zP _ _ _ _ _ _ _ _ _ D];obtain⟨k1,k2,q,A⟩:=tC Zo (i+1) _ a6 u d (Qv hu H.a7.length_le) (he.gr H h.wf d.wf hu) eS;refine⟨k1,?_,q,H.trans A⟩;simp only[wH,vG];exact⟨mT (λv hv=>iP A u v hv) _ h2,k2⟩
  intro x hx st a6 u h hu he;cases x with
  |mk k s lit a5 ae ak p=>
  simp only[Nd.size]at hx;have hk:Nd.ay ak<=N:=by omega
  have cq:∀(L:Nat) (nm:ByteArray) (l0:Lt) (un:Int) (b:Bool) (E:List PN) (t:ai),wH (pd t u) E=true->yH (pd t u) (.mk L nm l0 [] un b E)=true:=λL nm l0 un b E t hh=>by
   simp only[yH,List.all_nil,vV];exact hh
  have sP:∀(L:Nat) (r:wY) (E:List PN) (t:ai),(r.kind=99->pd t u r.index.toNat=true)->wH (pd t u) E=true->yH (pd t u) (.mk L e0 fD [r] 0 false E)=true:=λL r E t hr hh=>by
   simp only[yH,ve,List.all_nil,vI,vG,vS];refine⟨?_,hh⟩;by_cases e:r.kind=99
   .exact .inr (hr e)
   .exact .inl (by rw[Zf e];rfl)
  refine⟨?_,?_⟩
  .cases aW:fA k s ak with
   |true=>
    rw[yf _ _ _ _ _ _ _ _ _ _ _ _ aW];have hf:yi (kd s) ak=true:=by
     unfold fA at aW;simp only[vG]at aW;exact aW.2
    obtain⟨k1,k2,q,_⟩:=oq s ak hk 0 st a6 u h hu he (λj y Q M D=>by
     rw[M]at hf;obtain⟨O,b,hb,_,mo⟩:=P2 hf;have:j=2:=by
      unfold zc at D;rw[M]at D;simp only[decide_eq_true_eq]at D;omega
     subst this;rw[hb]at Q;obtain rfl:=X8 Q;exact mo)
    refine⟨k1,?_⟩;simp only[yH,vG];exact⟨q,k2⟩
   |false=>
    by_cases d:k=1
    .rw[ig _ _ _ _ _ _ _ _ _ _ _ _ aW d];exact⟨h,rfl⟩
    by_cases h2:k=2
    .rw[ii _ _ _ _ _ _ _ _ _ _ _ _ aW h2];obtain⟨k1,k2⟩:=XG F G s p false h hu he;exact⟨k1,sP _ _ _ _ k2 rfl⟩
    by_cases h3:k=3
    .rw[ij _ _ _ _ _ _ _ _ _ _ _ _ aW h3];obtain⟨k1,k2⟩:=XG F G s p true h hu he;have g:=uk F G st a6 s u p true;obtain⟨q,A⟩:=aw ak hk _ a6 u k1 (Qv hu g.a7.length_le) (he.gr g h.wf k1.wf hu);exact⟨q,sP _ _ _ _ (λe=>iP (wa F G ak _ a6 u) u _ (k2 e)) A⟩
    by_cases h7:k=7
    .rw[iq _ _ _ _ _ _ _ _ _ _ _ _ aW h7];refine⟨?_,cq _ _ _ _ _ _ _ rfl⟩;simp only;rw[wu];have hU:Ph (st.aF (u:Int) a5.length):=h.aF ⟨Zo,Zo⟩;have S9:(st.aF (u:Int) a5.length).a7.length=st.a7.length+1:=by unfold ai.aF;simp
     have C:nj (st.aF (u:Int) a5.length) a6 st.a7.length:=λv hv=>by
      obtain⟨B,m⟩:=he v hv;refine⟨B,?_⟩;have e3:(st.aF (u:Int) a5.length).a7.getD st.a7.length (-1)=(u:Int):=by
       show(st.a7++[(u:Int)]).getD st.a7.length (-1)=(u:Int);exact zCR
      rw[hU.wf.line Zo,e3,if_neg Zo,vW,h.wf.sF ⟨Zo,Zo⟩ u hu];exact QK _ m
     have ha0:(st.aF (u:Int) a5.length).a5.getD st.a7.length 0=a5.length:=by
      show(st.a5++[a5.length]).getD st.a7.length 0=_;rw[<- h.wf.al,Vh,Vl (Qs _),Qy];rfl
     obtain⟨S,T⟩:=mR st.a7.length true true p a5 0 _ a6 hU Zo (λ_=>by rw[ha0];omega) C;obtain⟨I,f2,f3,f4⟩:=jO st.a7.length true true p a5 0 (st.aF (u:Int) a5.length) a6;obtain⟨U,W⟩:=mR st.a7.length false true p ae 0 _ _ S (by rw[I];omega) (λe=>by cases e) T;obtain⟨Z,f6,f7,f8⟩:=jO st.a7.length false true p ae 0 (kO st.a7.length true true p a5 0 (st.aF (u:Int) a5.length) a6).1 (kO st.a7.length true true p a5 0 (st.aF (u:Int) a5.length) a6).2;obtain⟨X,Y⟩:=aw ak hk (bq a5 ae p st a6 (u:Int)).1 (bq a5 ae p st a6 (u:Int)).2 st.a7.length U (by
      show st.a7.length<(kO st.a7.length false true p ae 0 (kO st.a7.length true true p a5 0 (st.aF (u:Int) a5.length) a6).1 (kO st.a7.length true true p a5 0 (st.aF (u:Int) a5.length) a6).2).1.a7.length;rw[Z,I];omega) W
     exact X.body _ Y
    by_cases h8:k=8
    .rw[ir _ _ _ _ _ _ _ _ _ _ _ _ aW h8];exact zCQ
    by_cases h9:k=9
    .rw[iu _ _ _ _ _ _ _ _ _ _ _ _ aW h9];exact zCQ
    by_cases h6:k=6
    .rw[io _ _ _ _ _ _ _ _ _ _ _ _ aW h6];exact zCQ
    by_cases J:k=5
    .rw[im _ _ _ _ _ _ _ _ _ _ _ _ aW J];obtain⟨k1,k2⟩:=aw ak hk st a6 u h hu he;exact⟨k1,cq _ _ _ _ _ _ _ (MP _ k2)⟩
    cases hs:jR ak with
    |true=>
     rw[eI _ _ _ _ _ _ _ _ _ _ _ _ aW ⟨d,h2,h3,J,h6,h7,h8,h9⟩ hs];have ht:Nd.ay ak.tail<=N:=zDB
     obtain⟨k1,k2⟩:=aw ak.tail ht st a6 u h hu he;exact⟨k1,cq _ _ _ _ _ _ _ k2⟩
    |false=>
     rw[il _ _ _ _ _ _ _ _ _ _ _ _ aW ⟨d,h2,h3,J,h6,h7,h8,h9⟩ hs];exact zCQ
  .rw[fB];obtain⟨S,T⟩:=mR u true false p a5 0 st a6 h hu (λe=>by cases e) he;obtain⟨I,f2,f3,f4⟩:=jO u true false p a5 0 st a6;obtain⟨U,W⟩:=mR u false false p ae 0 _ _ S (by rw[I];exact hu) (λe=>by cases e) T;obtain⟨Z,f6,f7,f8⟩:=jO u false false p ae 0 (kO u true false p a5 0 st a6).1 (kO u true false p a5 0 st a6).2;obtain⟨X,Y⟩:=aw ak hk _ _ u U (by rw[Z,I];exact hu) W;have g:=wa F G ak (kO u false false p ae 0 (kO u true false p a5 0 st a6).1 (kO u true false p a5 0 st a6).2).1 (kO u false false p ae 0 (kO u true false p a5 0 st a6).1 (kO u true false p a5 0 st a6).2).2 u;have gt:=zv u false false p ae 0 (kO u true false p a5 0 st a6).1 (kO u true false p a5 0 st a6).2;have sg:∀(t:ai) (v:Nat),v<t.vars.length->t.ah v=u->pd t u v=true:=λt v B m=>by
    unfold pd;simp only[vG,vS,decide_eq_true_eq];exact⟨B,.inl m⟩
   refine⟨X,?_,λK=>?_⟩
   .simp only[yH,vG];refine⟨Sd λv B m=>?_,Y⟩;exact iP g u v (sg _ v (by rw[f8];exact m) (qO u false false p ae 0 _ _ v B m))
   .have K:a5.length=1:=K;exact iP (gt.trans g) u _ (sg _ _ (by rw[f4];omega) (qO u true false p a5 0 st a6 _ (Qs _) Zo))
def mN {st:ai}{o:Nat}{t:Nat×Int}:t∈st.things o↔t.1=o/\-1<=t.2/\t.2 < st.a5.getD o 0:=by
 unfold ai.things;rw[QO];constructor
 .rintro⟨i,m,rfl⟩
  have:=QS.1 m;exact⟨rfl,by simp only;omega,by simp only;omega⟩
 .rintro⟨d,g,j⟩
  obtain⟨a,b⟩:=t;simp only at d g j;subst d;exact⟨(b+1).toNat,QS.2 Zo,by rw[XA];exact⟨rfl,Zo⟩⟩
def mL {st:ai}{u:Nat}{t:Nat×Int}:t∈st.a9 u↔t.1∈(st.line u).drop 1/\t∈st.things t.1/\st.aD u t=true:=by
 unfold ai.a9;rw[QN];constructor
 .rintro⟨o,g,h⟩
  obtain⟨d,j⟩:=QM.1 h;obtain rfl:=(mN.1 d).1;exact⟨by simpa using g,d,j⟩
 .rintro⟨g,h,d⟩
  exact⟨t.1,by simpa using g,QM.2 ⟨h,d⟩⟩
def ye {st:ai}{v:Nat}{x:yj}(h:st.vars[v]? =some x):st.ah v=x.cg:=by unfold ai.ah;rw[h];rfl
def gu {st:ai}{v:Nat}{x:yj}(h:st.vars[v]? =some x):st.aT v=x.own:=by unfold ai.aT;rw[h];rfl
def Wf.var {st}(h:Wf st){v}(d:v < st.vars.length):st.ah v<st.a7.length/\-1<=st.aT v/\st.aT v<st.a5.getD (st.ah v) 0:=by
 have e:st.vars[v]? =some st.vars[v]:=Zg d;rw[ye e,gu e];exact h.vu v _ e
def Wf.way_out {st}(h:Wf st){u v}(ho:0<=st.a7.getD u (-1))(d:(st.a7.getD u (-1)).toNat≠st.ah v):∀(w:Nat),w<st.a7.length->u∈st.way w v->(st.a7.getD u (-1)).toNat∈st.way w v:=by
 intro w
 induction w using Nat.strongRecOn with
 |_ w ih=>
  intro hw hm;by_cases e:w=st.ah v
  .rw[h.oO Zo e]at hm;cases hm
  .have hl:=h.gk w;rw[h.oP Zo e]at hm|-;rcases QJ.1 hm with rfl|hm
   .rw[if_neg Zo,h.oP Zo d];exact QK _ (QL ..)
   .by_cases c:st.a7.getD w (-1)<0
    .rw[if_pos c]at hm;cases hm
    .rw[if_neg c]at hm|-;exact QK _ (ih _ Zo Zo hm)
section
variable {st:ai} (h:Ph st)
include h
def Ph.EI {u o:Nat}(hu:u<st.a7.length)(d:o∈st.line u)(g:o≠u):o∈(st.line u).drop 1:=by
 rw[h.wf.line Zo]at d|-;rcases QJ.1 d with k|k
 .exact absurd k g
 .simpa using k
def Ph.Nh {u v:Nat}(g:(u,v)∈st.dg)(j:st.ah v≠u):(st.ah v,st.aT v)∈st.a9 u/\(st.aT v<0->st.rem v=true):=by
 obtain⟨m,q⟩:=h.wf.uu _ g;obtain⟨k1,A,B⟩:=h.wf.var q;have s:=h.us _ g;refine⟨mL.2 ⟨h.EI m s j,mN.2 ⟨rfl,A,B⟩,?_⟩,λd=>?_⟩
 .unfold ai.aD;rw[vh];refine⟨_,g,?_⟩;simp only[vG,decide_eq_true_eq,true_and];rw[h.wf.oP (by have:=m;simp only at this;omega) (λe=>j e.symm)];exact QL ..
 .unfold ai.rem;rw[vh];refine⟨_,g,?_⟩;simp only[vG,decide_eq_true_eq,true_and];exact⟨d,j⟩
def Ph.oS {u:Nat}(hu:u<st.a7.length){t:Nat×Int}(D:t∈st.a9 u):0<=st.a7.getD u (-1)/\(t.1=(st.a7.getD u (-1)).toNat∨t∈st.a9 (st.a7.getD u (-1)).toNat)/\t.1<st.a7.length/\t.1≠u/\-1<=t.2/\t.2<st.a5.getD t.1 0:=by
 obtain⟨d,j,g⟩:=mL.1 D;obtain⟨_,A,B⟩:=mN.1 j;have mq:=h.wf.gk u;rw[h.wf.line Zo]at d;simp only[List.drop_succ_cons,vx]at d;by_cases c:st.a7.getD u (-1)<0
 .rw[if_pos c]at d;cases d
 rw[if_neg c]at d;have C:=h.wf.sG _ Zo _ d;refine⟨Zo,?_,Zo,Zo,A,B⟩;by_cases e:t.1=(st.a7.getD u (-1)).toNat
 .exact .inl e
 refine .inr (mL.2 ⟨h.EI Zo d e,j,?_⟩);unfold ai.aD at g|-;rw[vh]at g|-;obtain⟨q,m,k⟩:=g;refine⟨q,m,?_⟩;simp only[vG,decide_eq_true_eq]at k|-;refine⟨k.1,h.wf.way_out Zo ?_ q.1 (h.wf.uu q m).1 k.2⟩;have:=congrArg Prod.fst k.1;simp only at this;rw[this];exact λs=>e s.symm
def Ph.Y8 {u:Nat}{t:Nat×Int}(C:t∈st.a9 u)(hn:t.2<0):0<(st.bi t.1 true).length:=by
 obtain⟨h1,h2,d⟩:=mL.1 C;unfold ai.aD at d;rw[vh]at d;obtain⟨q,g,k⟩:=d;simp only[vG,decide_eq_true_eq]at k;obtain⟨h5,A⟩:=h.wf.uu q g;have s:st.ah q.2=t.1:=congrArg Prod.fst k.1;have e2:st.aT q.2=t.2:=congrArg Prod.snd k.1;have m:st.ah q.2≠q.1:=λe=>by
  have j:=k.2;rw[h.wf.oO Zo e.symm]at j;cases j
 have B:st.rem q.2=true:=by
  unfold ai.rem;rw[vh];refine⟨q,g,?_⟩;simp only[vG,decide_eq_true_eq,true_and];exact⟨Zo,m⟩
 apply List.length_pos_of_mem (a:=q.2);unfold ai.bi;rw[QM];refine⟨QS.2 A,?_⟩;simp only[vG,decide_eq_true_eq];exact⟨⟨s,Zo⟩,B⟩
def Ph.pd {i v:Nat}(d:pd st i v=true):v<st.vars.length/\(st.ah v=i∨((st.ah v,st.aT v)∈st.a9 i/\(st.aT v<0->st.rem v=true))):=by
 unfold V.pd at d;simp only[vG,vS,decide_eq_true_eq]at d;obtain⟨g,h2⟩:=d;refine⟨g,?_⟩;by_cases e:st.ah v=i
 .exact .inl e
 .rcases h2 with h2|h2
  .exact .inl h2
  .exact .inr (h.Nh h2 e)
end
def sH(st:ai)(i:Nat)(r:Bool):st.bi i r=(st.ae i).filter λv=>decide (st.rem v=r):=by
 unfold ai.bi ai.ae;rw[List.filter_filter];refine List.filter_congr λv _=>?_
 rw[Bool.and_comm]
def Kh(st:ai)(i:Nat):(st.ae i).Nodup:=List.Pairwise.filter _ QY
def IV {α:Type}[DecidableEq α]{a b:List α}{x:α}(h:x∉a):(a++x::b).findIdx? (λy=>decide (y=x))=some a.length:=by
 induction a with
 |nil=>simp[V8]
 |cons y a ih=>
  have d:y≠x:=λe=>h (by simp[e])
  rw[vq,V8,Zf d];simp only[vN,if_false];rw[ih (λe=>h (by simp[e]))];rfl
def Wy {α:Type}[DecidableEq α]{a b:List α}{x:α}(h:x∉a):dC (a++x::b) x=a.length:=by
 unfold dC;rw[IV h]
def ai.cj(st:ai)(v:Nat):Int:=dC (st.bi (st.ah v) (st.rem v)) v
def Oy {st:ai}{i j v:Nat}(d:(st.ae i)[j]? =some v):st.cj v=(((st.ae i).take j).filter λw=>decide (st.rem w=st.rem v)).length:=by
 have g:v∈st.ae i:=Zv d;have A:st.ah v=i:=by
  unfold ai.ae at g;have:=(QM.1 g).2;simp only[vG,decide_eq_true_eq]at this;exact this.1
 have s:=(Vt.1 d).1;have q:st.ae i=(st.ae i).take j++v::(st.ae i).drop (j+1):=by
  have e:=(Vt.1 d).2;rw[<- e,<- vt s,Qj]
 have m:=Kh st i;rw[q,QW]at m;unfold ai.cj;rw[A,sH]
 conv=>lhs;rw[q]
 rw[V0,V5,if_pos Zs];exact Wy λB=>m.2.2 v (QM.1 B).1 v Zs rfl
def qU(U:List UC)(j:Nat):Nat:=((U[j]?).map UC.q).getD 0
def zn(U:List UC)(l:List (Nat×Int)):List (Nat×Int):=l.map λt=>(qU U t.1,t.2)
structure fT (st:ai)(L:Nat)(U:List UC)(V:List aC):Prop where
 wf:Wf st
 ul:U.length=st.a7.length
 vl:V.length=st.vars.length
 inj:(U.map UC.q).Nodup
 ar:∀(i:Nat) u,U[i]? =some u->u.a5=st.a5.getD i 0/\u.num=i
 ou:∀(i:Nat) u,U[i]? =some u->u.a7=(if st.a7.getD i (-1)<0 then none else(U[(st.a7.getD i (-1)).toNat]?).map UC.q)
 tm:∀(i:Nat) u,U[i]? =some u->u.ae=(st.ae i).map (λv=>(V.getD v Dn).q)/\ke 1 u.tv u.ae.length (u.ae.map λb=>kN (some b)) u.lS
 nd:∀(i:Nat) u,U[i]? =some u->∃m:List ((Nat×Int)×Int),iH u.es u.cl m/\(m.map (·.1)).Nodup/\(∀p∈m,(∃(j:Nat) (w:UC),U[j]? =some w/\p.1.1=w.q)/\0<p.2/\p.2<=st.dg.length)/\
  ∀(j:Nat) (w:UC) (a:Int),U[j]? =some w->((jI (w.q,a) m).isSome=true↔st.aD i (j,a)=true)
 vn:∀(v:Nat) x y,st.vars[v]? =some x->V[v]? =some y->(∃w,U[x.cg]? =some w/\y.cg=w.q)/\y.arg=x.own/\y.dp=st.rem v/\(x.own<0->x.cg<L->(y.slot:Int)=st.cj v)
 nl:∀(i:Nat) u,U[i]? =some u->L<=i->u.bi=0/\u.aA=0/\u.dW=[]/\u.cv=Nz/\u.cw=[]
 la:∀(i:Nat) u,U[i]? =some u->i<L->u.bi=(st.bi i false).length/\u.aA=(st.bi i true).length/\u.dW=zn U (st.a9 i)/\ke 2 u.cv u.dW.length (u.dW.flatMap jZ) u.cw
def di.laid {st U V}(h:di st U V):fT st 0 U V:=
 ⟨h.wf,h.ul,h.vl,h.inj,λi u d=>⟨(h.un i u d).1,(h.un i u d).2.2.2.1⟩,h.ou,h.tm,h.nd,λv x y B C=>by
   obtain⟨g,j,q,m,s⟩:=h.vn v x y B C;exact⟨g,j,m,λ_ A=>by omega⟩,λi u d _=>by
   obtain⟨_,g,j,_,q,m,s⟩:=h.un i u d;exact⟨g,j,q,m,s⟩,λi u d A=>by omega⟩
def M1(st:ai)(V:List aC)(l:List Nat):List aC:=V.mapIdx λv y=>{y with slot:=if v∈l then(st.cj v).toNat else y.slot}
def iz {st:ai}{V:List aC}{l:List Nat}{v:Nat}{y:aC}(h:V[v]? =some y):(M1 st V l)[v]? =some {y with slot:=if v∈l then(st.cj v).toNat else y.slot}:=by
 unfold M1;rw[List.getElem?_mapIdx,h];rfl
def s8(st V l):(M1 st V l).length=V.length:=by unfold M1;simp
def slV_nil(st V):M1 st V []=V:=by
 apply vz;intro v;cases h:V[v]? with
 |none=>
  rw[Vr]at h|-;rw[s8];exact h
 |some y=>rw[iz h];simp
def J8 {st:ai}{V:List aC}{l:List Nat}{v:Nat}{y:aC}(h:(M1 st V l)[v]? =some y):∃d,V[v]? =some d/\y={d with slot:=if v∈l then(st.cj v).toNat else d.slot}:=by
 cases h0:V[v]? with
 |none=>
  rw[Vr]at h0;have:=(Vt.1 h).1;rw[s8]at this;omega
 |some d=>
  rw[iz h0]at h;exact⟨d,rfl,(X8 h).symm⟩
def slV_q(st V l):(M1 st V l).map aC.q=V.map aC.q:=by
 apply vz;intro v;rw[Vu,Vu];cases h:V[v]? with
 |none=>
  have:(M1 st V l)[v]? =none:=by
   rw[Vr]at h|-;rw[s8];exact h
  rw[this]
 |some y=>rw[iz h];rfl
def slV_set {st V l v y}(h:V[v]? =some y){q}(d:(M1 st V l)[v]? =some q):(M1 st V l).set v {q with slot:=(st.cj v).toNat}=M1 st V (l++[v]):=by
 have A:=J8 d;obtain⟨y0,g,s⟩:=A;rw[h]at g;obtain rfl:=X8 g;apply vz;intro w;rw[Vx];by_cases e:v=w
 .subst e;rw[if_pos rfl,if_pos (Vt.1 d).1,iz h,s];have B:v∈l++[v]:=by simp
  rw[if_pos B]
 .rw[if_neg e];cases hw:V[w]? with
  |none=>
   have j:∀m:List Nat,(M1 st V m)[w]? =none:=λm=>by
    rw[Vr]at hw|-;rw[s8];exact hw
   rw[j,j]
  |some z=>
   rw[iz hw,iz hw];have:(w∈l++[v])↔w∈l:=by
    rw[QH,QU];exact⟨λk=>k.elim id λk=>absurd k.symm e,.inl⟩
   by_cases c:w∈l
   .rw[if_pos c,if_pos (this.2 c)]
   .rw[if_neg c,if_neg λk=>c (this.1 k)]
def u7(st:ai)(l:List Nat)(r:Bool):Nat:=(l.filter λw=>decide (st.rem w=r)).length
def wk_lay {U V i v u y}(H:U[i]? =some u)(I:V[v]? =some y):∃R,(WK U V).Perm (kA y.q 4 [vi y.slot]++(kA u.q 1 [vi u.bi,vi u.aA]++R))/\
 ∀(d g h:Nat),(WK (U.set i {u with bi:=d,aA:=g}) (V.set v {y with slot:=h})).Perm (kA y.q 4 [vi h]++(kA u.q 1 [vi d,vi g]++R)):=by
 obtain⟨C,L⟩:=mh UC.atoms H;obtain⟨RV,M⟩:=mh aC.atoms I;have F:∀(d g:Nat),({u with bi:=d,aA:=g}:UC).atoms.Perm (kA u.q 1 [vi d,vi g]++(.own u.q 9::(kA u.q 0 [vi u.a5]++(kA u.q 3 [kN u.a7,vi u.num,u.tv,.map (some u.nb),u.cv,u.body]++(aj u.tv (u.ae.map λb=>kN (some b)) u.lS++(aj u.cv (u.dW.flatMap jZ) u.cw++[.obj u.nb (.map u.es u.cl)])))))):=λd g=>by
  unfold UC.atoms UC.row;have e:kA u.q 0 [vi u.a5,vi d,vi g,kN u.a7,vi u.num,u.tv,.map (some u.nb),u.cv,u.body]=kA u.q 0 [vi u.a5]++(kA u.q 1 [vi d,vi g]++kA u.q 3 [kN u.a7,vi u.num,u.tv,.map (some u.nb),u.cv,u.body]):=rfl;simp only;rw[e,vj,vj];exact Qa (kC.own u.q 9::kA u.q 0 [vi u.a5]) _ _
 have G:∀h:Nat,({y with slot:=h}:aC).atoms.Perm (kA y.q 4 [vi h]++kA y.q 0 [kN (some y.cg),vi y.arg,.bool y.fixed,.bool y.dp]):=λh=>by
  unfold aC.atoms aC.row;have e:kA y.q 0 [kN (some y.cg),vi y.arg,.bool y.fixed,.bool y.dp,vi h]=kA y.q 0 [kN (some y.cg),vi y.arg,.bool y.fixed,.bool y.dp]++kA y.q 4 [vi h]:=rfl;simp only;rw[e];exact QZ
 obtain⟨D,m⟩:∃X,X=(kC.own u.q 9::(kA u.q 0 [vi u.a5]++(kA u.q 3 [kN u.a7,vi u.num,u.tv,.map (some u.nb),u.cv,u.body]++(aj u.tv (u.ae.map λb=>kN (some b)) u.lS++(aj u.cv (u.dW.flatMap jZ) u.cw++[.obj u.nb (.map u.es u.cl)]))))):=⟨_,rfl⟩;obtain⟨E,s⟩:∃X,X=kA y.q 0 [kN (some y.cg),vi y.arg,.bool y.fixed,.bool y.dp]:=⟨_,rfl⟩;rw[<- m]at F;rw[<- s]at G;have j:∀(d g h:Nat),(WK (U.set i {u with bi:=d,aA:=g}) (V.set v {y with slot:=h})).Perm (kA y.q 4 [vi h]++(kA u.q 1 [vi d,vi g]++(D++(C++(E++RV))))):=λd g h=>by
  unfold WK;refine List.Perm.trans (List.Perm.append ((L _).trans (vZ _ (F d g))) ((M _).trans (vZ _ (G h)))) ?_;generalize kA y.q 4 [vi h]=A;generalize kA u.q 1 [vi d,vi g]=B;simp only[vj];refine List.Perm.trans (l₂:=(B++(D++C))++(A++(E++RV))) (by simp only[vj];exact vd _) ?_;refine Qa _ _ _|>.trans ?_
  refine vY _ ?_;simp only[vj];exact vd _
 refine⟨_,?_,j⟩;have:=j u.bi u.aA y.slot;have J:U.set i {u with bi:=u.bi,aA:=u.aA}=U:=zf H;have K:V.set v {y with slot:=y.slot}=V:=zf I
 rwa [J,K]at this
def fT.step {st U V i u}(h:fT st i U V)(N:U[i]? =some u){cv D}(hc:ke 2 cv (zn U (st.a9 i)).length ((zn U (st.a9 i)).flatMap jZ) D):
 fT st (i+1) (U.set i {u with bi:=(st.bi i false).length,aA:=(st.bi i true).length,dW:=zn U (st.a9 i),cv:=cv,cw:=D}) (M1 st V (st.ae i)):=by
 obtain⟨u',g⟩:∃u':UC,u'={u with bi:=(st.bi i false).length,aA:=(st.bi i true).length,dW:=zn U (st.a9 i),cv:=cv,cw:=D}:=⟨_,rfl⟩;rw[<- g];have S:(U.set i u').map UC.q=U.map UC.q:=zu N (by rw[g]);have H:=Gl S;have M:∀l,zn (U.set i u') l=zn U l:=λl=>QD λt _=>by unfold qU;rw[H]
 have I:∀{j:Nat} {w:UC},(U.set i u')[j]? =some w->(j=i/\w=u')∨(j≠i/\U[j]? =some w):=λd=>mX N d
 have s:∀{j:Nat} {w:UC},(U.set i u')[j]? =some w->∃w0,U[j]? =some w0/\w.q=w0.q/\w.a5=w0.a5/\w.num=w0.num/\w.a7=w0.a7/\w.ae=w0.ae/\w.tv=w0.tv/\w.lS=w0.lS/\w.es=w0.es/\w.cl=w0.cl:=λ{j w} d=>by
  rcases I d with⟨rfl,rfl⟩|⟨_,B⟩
  .exact⟨u,N,by rw[g],by rw[g],by rw[g],by rw[g],by rw[g],by rw[g],by rw[g],by rw[g],by rw[g]⟩
  .exact⟨w,B,rfl,rfl,rfl,rfl,rfl,rfl,rfl,rfl,rfl⟩
 have fh:∀{j:Nat} {w:UC},U[j]? =some w->∃w',(U.set i u')[j]? =some w'/\w'.q=w.q:=λ{j w} d=>by
  have:=H j;rw[d]at this;cases e:(U.set i u')[j]? with
  |none=>rw[e]at this;cases this
  |some w'=>rw[e]at this;exact⟨w',rfl,X8 this⟩
 refine⟨h.wf,by rw[Q9];exact h.ul,by rw[s8];exact h.vl,by rw[S];exact h.inj,λj w d=>?_,λj w d=>?_,λj w d=>?_,λj w d=>?_,λv x y E G=>?_,λj w d F=>?_,λj w d F=>?_⟩
 .obtain⟨w0,A,_,J,K,_⟩:=s d;rw[J,K];exact h.ar j w0 A
 .obtain⟨w0,A,_,_,_,L,_⟩:=s d;rw[L,H];exact h.ou j w0 A
 .obtain⟨w0,A,_,_,_,_,W,X,Y,_⟩:=s d;rw[W,X,Y];refine⟨(h.tm j w0 A).1.trans (QD λv hv=>?_),(h.tm j w0 A).2⟩;have F:=Di hv;have e:=congrArg (λl=>l[v]?) (slV_q st V (st.ae i));simp only[Vu]at e;obtain⟨y,G⟩:∃y,V[v]? =some y:=⟨_,Zg (by rw[h.vl];exact F)⟩;rw[Vh,Vh,G,iz G];rfl
 .obtain⟨w0,A,_,_,_,_,_,_,_,Z,tz⟩:=s d;rw[Z,tz];obtain⟨m,O,Q,k3,k4⟩:=h.nd j w0 A;refine⟨m,O,Q,λp hp=>?_,λa z b ha=>?_⟩
  .exact zER
  .obtain⟨z',k8,k9,_⟩:=s ha;rw[k9];exact k4 a z' b k8
 .obtain⟨y0,O,Q⟩:=J8 G;obtain⟨⟨z,A,B⟩,J,K,L⟩:=h.vn v x y0 E O;obtain⟨z',k8,k9⟩:=fh A;rw[Q];refine⟨⟨z',k8,B.trans k9.symm⟩,J,K,λT F=>?_⟩;simp only;have xE:=(Vt.1 E).1;by_cases e:x.cg=i
  .have C:v∈st.ae i:=by
    unfold ai.ae;rw[QM];refine⟨QS.2 xE,?_⟩;simp only[vG,decide_eq_true_eq];rw[ye E,gu E];exact⟨e,T⟩
   rw[if_pos C];obtain⟨j,d⟩:=Vv C;have:=Oy d;omega
  .have C:v∉st.ae i:=λC=>e (by
    unfold ai.ae at C;have:=(QM.1 C).2;simp only[vG,decide_eq_true_eq]at this;rw[ye E]at this;exact this.1)
   rw[if_neg C];exact L T Zo
 .rcases I d with⟨rfl,_⟩|⟨_,B⟩
  .omega
  .exact h.nl j w B Zo
 .rw[M];rcases I d with⟨rfl,rfl⟩|⟨cz,B⟩
  .rw[g];exact⟨rfl,rfl,rfl,hc⟩
  .exact h.la j w B Zo
inductive rS (T:List kC):PN->List Value->Prop
 |mk {k:Nat} {nm:ByteArray} {lit:Lt} {refs:List wY} {cg:Int} {fP:Bool} {ak:List PN} {lv:List Value} {rv:Value} {a:Option Addr} {c bk o:Nat} {us:Nat->List Value} (hl:yc T lit lv) (hr:jd T rv refs)
   (ha:0<ak.length->a=some ⟨bk,o,none⟩) (hm:∀i,i<ak.length->∀y∈kA bk (o+i*11) (us i),y∈T) (hs:∀i x,ak[i]? =some x->rS T x (us i)):
   rS T (.mk k nm lit refs cg fP ak) ([cv k,.string nm]++lv++[rv,.int .i64 cg,.bool fP,.slice a ak.length c])
def rS.len {T x vs}(h:rS T x vs):vs.length=11:=by
 cases h with
 |mk hl=>simp[hl.len]
def rS.more {T T'}(d:∀x∈T,x∈T'){x vs}(h:rS T x vs):rS T' x vs:=by
 induction h with
 |mk hl hr ha hm hk ih=>exact .mk (hl.more d) (hr.more d) ha (λi g y j=>d _ (hm i g y j)) ih
structure wk (T:List kC)(l:List PN)(rows:List (List Value)):Prop where
 len:rows.length=l.length
 w:∀r∈rows,r.length=11
 rd:∀(i:Nat) x r,l[i]? =some x->rows[i]? =some r->rS T x r
def wk.nil(T):wk T [] []:=⟨rfl,Zs,λi x r h=>by simp at h⟩
def wk.more {T T' l rows}(h:wk T l rows)(g:∀x∈T,x∈T'):wk T' l rows:=⟨h.len,h.w,λi x r j d=>(h.rd i x r j d).more g⟩
def wk.snoc {T l rows x r}(h:wk T l rows)(hx:rS T x r):wk T (l++[x]) (rows++[r]):=by
 refine⟨by simp[h.len],λr' KV=>?_,λi y s hy hs=>?_⟩
 .exact zFN
 .exact zB5
def iZ(T:List kC)(v:Value)(l:List PN):Prop:=∃(a:Option Addr) (c bk o:Nat) (us:Nat->List Value),v=.slice a l.length c/\(0<l.length->a=some ⟨bk,o,none⟩)/\(∀i,i<l.length->∀y∈kA bk (o+i*11) (us i),y∈T)/\∀i x,l[i]? =some x->rS T x (us i)
def iZ.nil(T):iZ T Nz []:=⟨none,0,0,0,λ_=>[],rfl,λh=>absurd h Zs,λi d=>absurd d Zs,λi x h=>by simp at h⟩
def iZ.more {T T' v l}(h:iZ T v l)(d:∀x∈T,x∈T'):iZ T' v l:=by
 obtain⟨a,c,bk,o,us,g,j,m,q⟩:=h;exact⟨a,c,bk,o,us,g,j,λi s y B=>d _ (m i s y B),λi x A=>(q i x A).more d⟩
def zZ {B l sv rows sp}(d:ke 11 sv l.length rows.flatten sp)(hr:wk B l rows):iZ (aj sv rows.flatten sp++B) sv l:=by
 have aL:∀i,i<l.length->rows[i]? =some (rows.getD i []):=λi hi=>by
  exact zEX
 have s:∀y∈B,y∈aj sv rows.flatten sp++B:=λy hy=>QI _ hy
 generalize g:l.length=m at d;generalize q:rows.flatten=xs at d|-;cases d with
 |@mk bk o _ c _ _ h1 h2 h3=>
  rw[<- g];subst q;refine⟨_,c,bk,o,λi=>rows.getD i [],rfl,λ_=>rfl,λi hi y hy=>?_,λi x j=>?_⟩
  .exact zE1
  .have hi:=(Vt.1 j).1;exact(hr.rd i x _ j (aL i hi)).more s
 |nil=>
  have A:l=[]:=vy g;subst A;exact iZ.nil _
def yq {T k nm lit refs cg fP ak lv rv sv}(g:yc T lit lv)(d:jd T rv refs)(q:iZ T sv ak):
 rS T (.mk k nm lit refs cg fP ak) ([cv k,.string nm]++lv++[rv,vi cg,.bool fP,sv]):=by
 obtain⟨a,c,bk,o,us,rfl,h,j,m⟩:=q;exact .mk (bk:=bk) (o:=o) (us:=us) g d h j m
def oD {T x ws}(h:rS T x ws):∃(j:Nat) (m:Int) (q:Nat) (s:ByteArray) (A:Option Addr) (B:Nat) (d:Option Addr) (g:Nat) (C:Option Addr) (F bk o:Nat) (us:Nat->List Value),
 ws=(rP x.kind x.name j m q s A x.lit.ci.length B d x.refs.length g x.cg x.super C x.ak.length F)/\
 yc T x.lit [.int .u8 j,vi m,.int .u64 q,.string s,.slice A x.lit.ci.length B]/\jd T (.slice d x.refs.length g) x.refs/\(0<x.ak.length->C=some ⟨bk,o,none⟩)/\(∀i,i<x.ak.length->∀y∈kA bk (o+i*11) (us i),y∈T)/\∀i y,x.ak[i]? =some y->rS T y (us i):=by
 cases h with
 |@mk k nm lit refs cg fP ak lv rv a c bk o us hl hr ha hm hs=>
  have E:=hr;obtain⟨d,g,rfl,_⟩:=hr;have D:=hl;cases hl with
  |mk Tj Gp rT de=>exact⟨_,_,_,_,_,_,d,g,a,c,bk,o,us,rfl,D,E,ha,hm,hs⟩
def fL {B sv rs sp}(d:ke 4 sv rs.length (rs.flatMap kS) sp):jd (aj sv (rs.flatMap kS) sp++B) sv rs:=by
 generalize g:rs.length=m at d;generalize h:rs.flatMap kS=xs at d|-;cases d with
 |@mk bk o _ c _ _ h1 h2 h3=>
  rw[<- g];subst h;refine⟨_,c,rfl,λi r q=>⟨bk,o,rfl,λy A=>?_⟩⟩;refine Zw _ ?_;simp only[aj,j7];refine Zw _ ?_;rw[Va];exact lp (rows:=rs.map kS) (λr s=>by obtain⟨z,_,rfl⟩:=QO.1 s;rfl) (by rw[Vu,q];rfl) y A
 |nil=>
  have j:rs=[]:=vy g;subst j;exact jd.nil _
mutual
def PN.w:PN->Nat
 |.mk _ _ _ rs _ _ ak=>1+rs.length+PN.ws ak
def PN.ws:List PN->Nat
 |[]=>0
 |x::r=>PN.w x+PN.ws r
end
def PN.OQ {x}:∀{l:List PN},x∈l->PN.w x<=PN.ws l:=by
 intro l
 induction l with
 |nil=>intro h;cases h
 |cons y r ih=>
  intro h;simp only[PN.ws];exact zCW
def PN.nC(x):0<PN.w x:=by cases x;simp only[PN.w];omega
def PN.G5:∀l:List PN,l.length<=PN.ws l:=by
 intro l
 induction l with
 |nil=>exact Qs _
 |cons x r ih=>have:=PN.nC x;simp only[PN.ws,Q0];omega
def SN(b l):PN.ws (we b l)=PN.ws l:=by
 have d:∀r:List PN,PN.ws (r.map (PN.sZ b))=PN.ws r:=by
  intro r
  induction r with
  |nil=>rfl
  |cons x r ih=>cases x;simp only[QE,PN.ws,ih];rfl
 cases l with
 |nil=>rfl
 |cons x r=>simp only[we,PN.ws,d]
structure Bw (st:ai)(M:Nat):Prop where
 bd:∀l∈st.a8,PN.ws l<=2*M
 ar:∀a∈st.a5,a<=M
def Bw.of {a b M}(h:Bw a M)(e:b.a8=a.a8)(d:b.a5=a.a5):Bw b M:=⟨λl g=>h.bd l (by rw[<- e];exact g),by rw[d];exact h.ar⟩
def JZ(F G st a6 nm u p put):(jx F G st a6 nm u p put).2.a5=st.a5:=by
 have hw:∀(e:Nat),(st.wrong e p).a5=st.a5:=λe=>by unfold ai.wrong;split<;>rfl
 unfold jx;exact zEC
def gE(F G st a6 nm u p put):(jx F G st a6 nm u p put).2.a8=st.a8:=by
 have hw:∀(e:Nat),(st.wrong e p).a8=st.a8:=λe=>by unfold ai.wrong;split<;>rfl
 unfold jx;exact zEC
def w_part(F G M):∀(N:Nat) (x:Nd),x.size<=N->cV x<=M->∀st a6 u,Bw st M->
 (Bw (jF F G x st a6 u).2 M/\PN.w (jF F G x st a6 u).1<=2*cV x)/\(Bw (zW F G x st a6 u).2 M/\PN.w (zW F G x st a6 u).1+x.a5.length<=2*cV x):=by
 intro N
 induction N with
 |zero=>intro x W;have:=x.size_pos;omega
 |succ N ih=>
  have C:∀l:List Nd,Nd.ay l<=N->kf l<=M->∀st a6 u,Bw st M->Bw (kQ F G l st a6 u).2 M/\PN.ws (kQ F G l st a6 u).1<=2*kf l:=by
   intro l
   induction l with
   |nil=>intro _ _ st a6 u h;rw[kQ];exact⟨h,Qs _⟩
   |cons x r tC=>
    intro hl E st a6 u h;simp only[Nd.ay]at hl;simp only[kf]at E;rw[wE];obtain⟨g,D⟩:=(ih x Zo Zo st a6 u h).1;obtain⟨m,h4⟩:=tC Zo Zo _ a6 u g;refine⟨m,?_⟩;simp only[PN.ws,kf];omega
  have oq:∀(s:ByteArray) (l:List Nd),Nd.ay l<=N->kf l<=M->∀i st a6 u,Bw st M->(∀k y,l[k]? =some y->kd s=5->zc s (i+k)=true->y.a5.length=1)->
   Bw (ku F G s l i st a6 u).2.2 M/\PN.ws (ku F G s l i st a6 u).1+(ku F G s l i st a6 u).2.1.length<=2*kf l:=by
   intro s l
   induction l with
   |nil=>intro _ _ i st a6 u h _;rw[ku];exact⟨h,Qs _⟩
   |cons x r tC=>
    intro hl E i st a6 u h ha;simp only[Nd.ay]at hl;simp only[kf]at E;obtain⟨⟨g,D⟩,m,h4⟩:=ih x Zo Zo st a6 u h;have T:∀k y,r[k]? =some y->kd s=5->zc s (i+1+k)=true->y.a5.length=1:=λk y J Y Z=>ha (k+1) y (by simpa using J) Y (by rw[show i+(k+1)=i+1+k from by omega];exact Z)
    cases q:zc s i with
    |true=>
     rw[yF _ _ _ _ _ _ _ _ _ q];obtain⟨B,S⟩:=tC Zo Zo (i+1) _ a6 u m T;refine⟨B,?_⟩;simp only[PN.ws,kf];split
     .rename_i I;have:=ha 0 x rfl I q;rw[Q0];omega
     .omega
    |false=>
     rw[zP _ _ _ _ _ _ _ _ _ q];obtain⟨B,S⟩:=tC Zo Zo (i+1) _ a6 u g T;refine⟨B,?_⟩;simp only[PN.ws,kf];omega
  intro x W E st a6 u h;cases x with
  |mk k s lit a5 ae ak p=>
  simp only[Nd.size]at W;simp only[cV,cW]at E;have A:Nd.ay ak<=N:=by omega
  have d:kf ak<=M:=by omega
  simp only[cV,cW];refine⟨?_,?_⟩
  .cases aW:fA k s ak with
   |true=>
    rw[yf _ _ _ _ _ _ _ _ _ _ _ _ aW];have U:yi (kd s) ak=true:=by
     unfold fA at aW;simp only[vG]at aW;exact aW.2
    obtain⟨B,S⟩:=oq s ak A d 0 st a6 u h (λj y J I q=>by
     rw[I]at U;obtain⟨hl,b,hb,_,mo⟩:=P2 U;have:j=2:=by
      unfold zc at q;rw[I]at q;simp only[decide_eq_true_eq]at q;omega
     subst this;rw[hb]at J;obtain rfl:=X8 J;exact mo)
    refine⟨B,?_⟩;simp only[PN.w];omega
   |false=>
    obtain⟨a1,a2⟩:=C ak A d st a6 u h;by_cases g:k=1
    .rw[ig _ _ _ _ _ _ _ _ _ _ _ _ aW g];exact⟨h,by simp only[PN.w,PN.ws,Q7];omega⟩
    by_cases D:k=2
    .rw[ii _ _ _ _ _ _ _ _ _ _ _ _ aW D];exact⟨h.of (gE _ _ _ _ _ _ _ _) (JZ _ _ _ _ _ _ _ _),by simp only[PN.w,PN.ws,Q0,Q7];omega⟩
    by_cases m:k=3
    .rw[ij _ _ _ _ _ _ _ _ _ _ _ _ aW m];obtain⟨k3,k4⟩:=C ak A d (jx F G st a6 s u p true).2 a6 u (h.of (gE _ _ _ _ _ _ _ _) (JZ _ _ _ _ _ _ _ _));exact⟨k3,by simp only[PN.w,Q0,Q7];omega⟩
    by_cases h7:k=7
    .rw[iq _ _ _ _ _ _ _ _ _ _ _ _ aW h7];refine⟨?_,by simp only[PN.w,PN.ws,Q7];omega⟩;simp only;rw[wu];obtain⟨f1,K,L,f4⟩:=jO st.a7.length true true p a5 0 (st.aF (u:Int) a5.length) a6;obtain⟨f5,O,Q,f8⟩:=jO st.a7.length false true p ae 0 (kO st.a7.length true true p a5 0 (st.aF (u:Int) a5.length) a6).1 (kO st.a7.length true true p a5 0 (st.aF (u:Int) a5.length) a6).2;have hB:Bw (bq a5 ae p st a6 (u:Int)).1 M:=⟨λl hl=>by
      have hl:l∈(kO st.a7.length false true p ae 0 (kO st.a7.length true true p a5 0 (st.aF (u:Int) a5.length) a6).1 (kO st.a7.length true true p a5 0 (st.aF (u:Int) a5.length) a6).2).1.a8:=hl;rw[Q,L]at hl;have hl:l∈st.a8++[[]]:=hl;rcases QH.1 hl with hl|hl
      .exact h.bd l hl
      .rw[QU.1 hl];exact X0 _,λa ha=>by
      have ha:a∈(kO st.a7.length false true p ae 0 (kO st.a7.length true true p a5 0 (st.aF (u:Int) a5.length) a6).1 (kO st.a7.length true true p a5 0 (st.aF (u:Int) a5.length) a6).2).1.a5:=ha;rw[O,K]at ha;have ha:a∈st.a5++[a5.length]:=ha;rcases QH.1 ha with ha|ha
      .exact h.ar a ha
      .rw[QU.1 ha];omega⟩
     obtain⟨H,X⟩:=C ak A d (bq a5 ae p st a6 (u:Int)).1 (bq a5 ae p st a6 (u:Int)).2 st.a7.length hB;refine⟨λl hl=>?_,H.ar⟩;rcases QR hl with hl|rfl
     .exact H.bd l hl
     .omega
    by_cases h8:k=8
    .rw[ir _ _ _ _ _ _ _ _ _ _ _ _ aW h8];exact zED
    by_cases h9:k=9
    .rw[iu _ _ _ _ _ _ _ _ _ _ _ _ aW h9];exact zED
    by_cases h6:k=6
    .rw[io _ _ _ _ _ _ _ _ _ _ _ _ aW h6];exact zED
    by_cases h5:k=5
    .rw[im _ _ _ _ _ _ _ _ _ _ _ _ aW h5];exact⟨a1,by simp only[PN.w,Q7,SN];omega⟩
    cases hs:jR ak with
    |true=>
     rw[eI _ _ _ _ _ _ _ _ _ _ _ _ aW ⟨g,D,m,h5,h6,h7,h8,h9⟩ hs];have ht:Nd.ay ak.tail<=N/\kf ak.tail<=kf ak:=by
      cases ak with
      |nil=>exact⟨A,Qs _⟩
      |cons x r=>simp only[Nd.ay]at A;simp only[List.tail_cons,kf];exact⟨Zo,Zo⟩
     obtain⟨B,S⟩:=C ak.tail ht.1 Zo st a6 u h;exact⟨B,by simp only[PN.w,Q7];omega⟩
    |false=>
     rw[il _ _ _ _ _ _ _ _ _ _ _ _ aW ⟨g,D,m,h5,h6,h7,h8,h9⟩ hs];exact zED
  .rw[fB];obtain⟨f1,K,L,f4⟩:=jO u true false p a5 0 st a6;obtain⟨f5,O,Q,f8⟩:=jO u false false p ae 0 (kO u true false p a5 0 st a6).1 (kO u true false p a5 0 st a6).2;obtain⟨H,X⟩:=C ak A d _ (kO u false false p ae 0 (kO u true false p a5 0 st a6).1 (kO u true false p a5 0 st a6).2).2 u (h.of (Q.trans L) (O.trans K));refine⟨H,?_⟩;simp only[PN.w,Q6,List.length_range',Nd.a5];omega
def wp {b r}(h:kT b r≠none):b=true/\r≠none:=by
 unfold kT at h;split at h
 .exact⟨by assumption,h⟩
 .exact absurd rfl h
def AB {b r}(h:z9 b r≠none):r≠none:=by
 rintro rfl;exact h rfl
def tW {r}(h:wz r≠none):r≠none:=by
 rintro rfl;exact h rfl
def NG {r q}(h:yN r q≠none):r≠none/\q≠none:=by
 cases r with
 |none=>exact absurd rfl h
 |some a=>cases q with
  |none=>exact absurd rfl h
  |some b=>exact⟨(λe=>by cases e),(λe=>by cases e)⟩
def Cw:∀{l:List Rs},jh l≠none->∀r∈l,r≠none:=by
 intro l
 induction l with
 |nil=>intro _ r hr;cases hr
 |cons x l ih=>
  intro h r hr;have d:x≠none/\jh l≠none:=by
   cases x with
   |none=>exact absurd rfl h
   |some a=>
    refine⟨(λe=>by cases e),λe=>h ?_⟩;simp only[jh,e]
  rcases QJ.1 hr with rfl|hr
  .exact d.1
  .exact ih d.2 r hr
def part_ne {x p r}(h:CW x p r≠none):r≠none:=by
 unfold CW at h;have d:=(wp h).2;split at d
 .exact tW d
 .exact d
def tq {x p r}(h:je x p r≠none):r≠none:=by
 unfold je at h;exact part_ne (wp h).2
def IX {x s r}(h:zl x s r≠none):r≠none:=by
 unfold zl at h;split at h
 .exact h
 .exact tq h
def F2 {p}:∀{l:List Nd},(∀r∈fH p l (yB l),r≠none)->∀y∈l,kP y≠none:=by
 intro l
 induction l with
 |nil=>intro _ y hy;cases hy
 |cons x l ih=>
  intro h y hy;simp only[yB,fH]at h;exact zEH
def msgs_ne:∀{l:List Nd},(∀r∈sL l (yB l),r≠none)->∀y∈l,kP y≠none:=by
 intro l
 induction l with
 |nil=>intro _ y hy;cases hy
 |cons x l ih=>
  intro h y hy;simp only[yB,sL]at h;rcases QJ.1 hy with rfl|hy
  .exact(wp (h _ (QL ..))).2
  .exact ih (λr d=>h r (QK _ d)) y hy
def Ke:∀{l:List Nd},(∀r∈zA l (yB l),r≠none)->∀y∈l,kP y≠none:=by
 intro l
 induction l with
 |nil=>intro _ y hy;cases hy
 |cons x l ih=>
  intro h y hy;cases l with
  |nil=>
   simp only[yB,zA]at h;obtain rfl:=QU.1 hy;have:=h _ (QL ..);split at this
   .exact this
   .exact tq this
  |cons z l=>
   simp only[yB,zA]at h;exact zEH
def Nx {s l}(h:lj s l (yB l)≠none):∀y∈l,kP y≠none:=by
 unfold lj at h;exact F2 (Cw (AB (wp h).2))
def sM {n l r}(h:zE n l r≠none):(∀s∈l,jW s=true)/\r≠none:=by
 unfold zE at h;exact⟨vf.1 (wp h).1,AB (wp h).2⟩
def Xv {l}(h:(match l,yB l with|[x],[r]=>je x 1 r|_,_=>none)≠none):l.length=1/\∀y∈l,kP y≠none:=by
 match l,h with
 |[],h=>exact absurd rfl h
 |[x],h=>
  simp only[yB]at h;refine⟨rfl,λy d=>?_⟩;obtain rfl:=QU.1 d;exact tq h
 |_::_::_,h=>exact absurd rfl h
def JE {s}(h:yJ s=true):s≠e0:=by
 rintro rfl
 revert h;decide
def L0 {s}(h:jW s=true):yJ s=true:=by
 unfold jW at h;rw[vG]at h;exact h.2
structure F8 (k:Nat)(s:ByteArray)(a5 ae:List ByteArray)(ak:List Nd):Prop where
 kind:1<=k/\k<=9
 Om:k=1∨k=2->ak=[]
 onekid:k=3∨k=9->ak.length=1
 send:k=4->0<ak.length
 casc:k=5->2<ak.length
 name:k=2∨k=3->yJ s=true
 free:k=3->jW s=true
 noargs:k≠7->a5=[]/\ae=[]
 free2:k=7->(∀a∈a5,jW a=true)/\∀a∈ae,jW a=true
 gZ:∀y∈ak,kP y≠none
def AE {k s lit a5 ae ak p}(h:kP (.mk k s lit a5 ae ak p)≠none):F8 k s a5 ae ak:=by
 have j:∀{l:List ByteArray},l.length=0->l=[]:=λe=>vy e
 rw[kP]at h;unfold w8 at h;split at h
 .obtain⟨d,g⟩:=wp h;simp only[decide_eq_true_eq]at d;have A:ak=[]:=vy d.1;exact⟨Zo,λ_=>A,Zo,Zo,Zo,Zo,Zo,λ_=>⟨j d.2.2.1,j d.2.2.2⟩,Zo,λy hy=>by rw[A]at hy;cases hy⟩
 split at h
 .obtain⟨d,g⟩:=wp h;simp only[vG,decide_eq_true_eq]at d;have A:ak=[]:=vy d.1.1.1;exact⟨Zo,λ_=>A,Zo,Zo,Zo,λ_=>d.1.2,Zo,λ_=>⟨j d.1.1.2.1,j d.1.1.2.2⟩,Zo,λy hy=>by rw[A]at hy;cases hy⟩
 split at h
 .obtain⟨d,g⟩:=wp h;simp only[vG,decide_eq_true_eq]at d;obtain⟨m,q⟩:=Xv g;exact⟨Zo,Zo,λ_=>m,Zo,Zo,λ_=>L0 d.2,λ_=>d.2,λ_=>⟨j d.1.1.1,j d.1.1.2⟩,Zo,q⟩
 split at h
 .obtain⟨d,g⟩:=wp h;simp only[vG,decide_eq_true_eq]at d
  match ak,g with
  |[],g=>exact absurd rfl g
  |x::l,g=>
   simp only[yB]at g;obtain⟨m,q⟩:=NG g;refine⟨Zo,Zo,Zo,λ_=>by simp,Zo,Zo,Zo,λ_=>⟨j d.1.1.1,j d.1.1.2⟩,Zo,λy hy=>?_⟩;rcases QJ.1 hy with rfl|hy
   .exact IX m
   .exact Nx q y hy
 split at h
 .obtain⟨d,g⟩:=wp h;simp only[vG,decide_eq_true_eq]at d;exact⟨Zo,Zo,Zo,Zo,Zo,Zo,Zo,λ_=>⟨j d.1.1,j d.1.2⟩,Zo,Nx g⟩
 split at h
 .obtain⟨d,g⟩:=wp h;simp only[vG,decide_eq_true_eq]at d
  match ak,d,g with
  |[],_,g=>exact absurd rfl g
  |[_],_,g=>exact absurd rfl g
  |x::y::l,d,g=>
   simp only[yB]at g;obtain⟨m,q⟩:=NG (AB g);refine⟨Zo,Zo,Zo,Zo,λ_=>d.1.2.2.2,Zo,Zo,λ_=>⟨j d.1.2.1,j d.1.2.2.1⟩,Zo,λz hz=>?_⟩;rcases QJ.1 hz with rfl|hz
   .exact IX q
   .exact msgs_ne (l:=y::l) (Cw m) z hz
 split at h
 .obtain⟨d,g⟩:=wp h;obtain⟨m,q⟩:=sM g;obtain⟨B,C⟩:=sM q;exact⟨Zo,Zo,Zo,Zo,Zo,Zo,Zo,λe=>absurd (by assumption) e,λ_=>⟨m,B⟩,Ke (Cw (tW C))⟩
 split at h
 .obtain⟨d,g⟩:=wp h;simp only[vG,decide_eq_true_eq]at d;exact⟨Zo,Zo,Zo,Zo,Zo,Zo,Zo,λ_=>⟨j d.1.2.1,j d.1.2.2⟩,Zo,F2 (Cw (AB (tW g)))⟩
 split at h
 .obtain⟨d,g⟩:=wp h;simp only[vG,decide_eq_true_eq]at d;obtain⟨m,q⟩:=Xv g;exact⟨Zo,Zo,λ_=>m,Zo,Zo,Zo,Zo,λ_=>⟨j d.1.2.1,j d.1.2.2⟩,Zo,q⟩
 .exact absurd rfl h
def Xn {Q:Nd->Prop}(q:∀k s lit a5 ae ak p,F8 k s a5 ae ak->(∀y∈ak,Q y)->Q (.mk k s lit a5 ae ak p)):∀x,kP x≠none->Q x:=by
 have d:∀(N:Nat) (x:Nd),x.size<=N->kP x≠none->Q x:=by
  intro N
  induction N with
  |zero=>intro x j;have:=x.size_pos;omega
  |succ N ih=>
   intro x j h;cases x with
   |mk k s lit a5 ae ak p=>
   simp only[Nd.size]at j;have g:=AE h;exact q k s lit a5 ae ak p g λy m=>ih y (by have:=Nd.aJ m;omega) (g.gZ y m)
 exact λx=>d _ x (Qs _)
def F8.okK {k s a5 ae ak}(h:F8 k s a5 ae ak):okK k ak=true:=by
 unfold V.okK;simp only[vG,vS,vP,decide_eq_true_eq,decide_eq_false_iff_not];refine⟨⟨⟨?_,?_⟩,h.kind⟩,?_⟩
 .by_cases e:k=1∨k=2
  .exact .inr (by rw[h.Om e];rfl)
  .exact .inl e
 .by_cases e:k=5
  .exact .inr (by have:=h.casc e;omega)
  .exact .inl e
 .by_cases e:k=4
  .exact .inr (h.send e)
  .exact .inl e
def On {l}(h:∀y∈l,ML y=true):rC l=true:=by
 induction l with
 |nil=>rfl
 |cons x r ih=>
  simp only[rC,vG];exact⟨h x Zs,ih λy d=>h y (by simp[d])⟩
def Xm:∀x,kP x≠none->x.w<=274877906944->ML x=true:=Xn λk s lit a5 ae ak p h g j=>by
 simp only[Nd.w]at j;simp only[ML,vG,decide_eq_true_eq];exact⟨⟨h.okK,Zo⟩,On λy d=>g y d (by have:=Nd.cQ d;omega)⟩
def D8(r:wY):Bool:=decide (0<=r.index)&&decide (0<=r.slot)&&decide (r.kind≠5/\r.kind≠6)&&decide (r.kind=8↔r.name≠e0)
mutual
def yg(n:Nat):PN->Bool
 |.mk k _ _ rs un _ ak=>rs.all D8&&(!decide (k=8)||decide (1<=un/\un<n))&&wP n ak
def wP(n:Nat):List PN->Bool
 |[]=>true
 |x::r=>yg n x&&wP n r
end
mutual
def mQ {n m:Nat}(h:n<=m):∀x:PN,yg n x=true->yg m x=true
 |.mk k s l rs u b ak,hx=>by
  simp only[yg,vG,vS,decide_eq_true_eq]at hx|-;exact⟨⟨hx.1.1,hx.1.2.imp_right λk=>⟨k.1,Zo⟩⟩,oE h ak hx.2⟩
def oE {n m:Nat}(h:n<=m):∀l:List PN,wP n l=true->wP m l=true
 |[],_=>rfl
 |x::r,hx=>by
  simp only[wP,vG]at hx|-;exact⟨mQ h x hx.1,oE h r hx.2⟩
end
def dM {n:Nat}:∀{l:List PN},wP n l=true->∀x∈l,yg n x=true
 |y::r,h,x,hx=>by
  simp only[wP,vG]at h;rcases QJ.1 hx with rfl|hx
  .exact h.1
  .exact dM h.2 x hx
def E9 {n:Nat}:∀{l:List PN},(∀x∈l,yg n x=true)->wP n l=true
 |[],_=>rfl
 |x::r,h=>by
  simp only[wP,vG];exact⟨h x Zs,E9 λy d=>h y (by simp[d])⟩
def D6 {n}(b){l}(h:wP n l=true):wP n (we b l)=true:=by
 cases l with
 |nil=>rfl
 |cons x r=>
  simp only[wP,vG]at h;simp only[we,wP,vG];refine⟨h.1,E9 λy d=>?_⟩;obtain⟨z,g,rfl⟩:=QO.1 d;have:=dM h.2 z g;cases z;exact this
structure Pp (st:ai):Prop where
 pos:0<st.a7.length
 bd:∀l∈st.a8,wP st.a7.length l=true
 ro:∀(i:Nat) o,st.a7[i]? =some o->0<i->0<=o
def Pp.of {a b}(h:Pp a)(g:b.a8=a.a8)(d:b.a7=a.a7):Pp b:=⟨by rw[d];exact h.pos,λl j=>by rw[d];exact h.bd l (by rw[<- g];exact j),by rw[d];exact h.ro⟩
def Fj(F G st a6 nm u p put):(jx F G st a6 nm u p put).2.a7=st.a7:=by
 unfold jx;split
 .rfl
 .split
  .simp only;split
   .exact eR _ _ _
   .rfl
  .split
   .rfl
   .simp only;split
    .rfl
    .exact eR _ _ _
def rawP(v):D8 (wM v)=true:=by
 unfold D8 wM;simp only[vG,decide_eq_true_eq];refine⟨⟨⟨Zo,Zo⟩,Zo⟩,?_⟩;exact⟨λe=>by omega,λe=>absurd rfl e⟩
def XS(F G st a6){nm}(u p put)(j:nm≠e0):D8 (jx F G st a6 nm u p put).1=true:=by
 have g:∀(k:Nat) (i:Nat),k≠5/\k≠6/\k≠8->D8 ⟨k,i,0,e0⟩=true:=λk i d=>by
  unfold D8;simp only[vG,decide_eq_true_eq];refine⟨⟨⟨Zo,Zo⟩,d.1,d.2.1⟩,?_⟩;exact⟨λe=>absurd e d.2.2,λe=>absurd rfl e⟩
 unfold jx;split
 .have:=Hu nm;exact g (wm nm) 0 ⟨Zo,Zo,Zo⟩
 .split
  .exact rawP _
  .split
   .exact g 7 _ ⟨Zo,Zo,Zo⟩
   .unfold D8;simp only[vG,decide_eq_true_eq];exact⟨⟨⟨Zo,Zo⟩,Zo,Zo⟩,λ_=>j,λ_=>trivial⟩
def pp_part(F G):∀(N:Nat) (x:Nd),x.size<=N->kP x≠none->∀st a6 u,Pp st->
 (Pp (jF F G x st a6 u).2/\yg (jF F G x st a6 u).2.a7.length (jF F G x st a6 u).1=true)/\(Pp (zW F G x st a6 u).2/\yg (zW F G x st a6 u).2.a7.length (zW F G x st a6 u).1=true):=by
 intro N
 induction N with
 |zero=>intro x T;have:=x.size_pos;omega
 |succ N ih=>
  have H:∀l:List Nd,Nd.ay l<=N->(∀y∈l,kP y≠none)->∀st a6 u,Pp st->Pp (kQ F G l st a6 u).2/\wP (kQ F G l st a6 u).2.a7.length (kQ F G l st a6 u).1=true:=by
   intro l
   induction l with
   |nil=>intro _ _ st a6 u h;rw[kQ];exact⟨h,rfl⟩
   |cons x r tC=>
    intro hl g st a6 u h;simp only[Nd.ay]at hl;rw[wE];obtain⟨m,h2⟩:=(ih x Zo (g x Zs) st a6 u h).1;obtain⟨h3,h4⟩:=tC Zo (λy q=>g y (by simp[q])) _ a6 u m;exact zEU
  have oq:∀(s:ByteArray) (l:List Nd),Nd.ay l<=N->(∀y∈l,kP y≠none)->∀i st a6 u,Pp st->
   Pp (ku F G s l i st a6 u).2.2/\wP (ku F G s l i st a6 u).2.2.a7.length (ku F G s l i st a6 u).1=true/\(ku F G s l i st a6 u).2.1.all D8=true/\Gr st (ku F G s l i st a6 u).2.2:=by
   intro s l
   induction l with
   |nil=>intro _ _ i st a6 u h;rw[ku];exact⟨h,rfl,rfl,Gr.refl _⟩
   |cons x r tC=>
    intro hl g i st a6 u h;simp only[Nd.ay]at hl;obtain⟨g1,g2⟩:=wt F G N x Zo st a6 u;obtain⟨⟨m,h2⟩,h3,h4⟩:=ih x Zo (g x Zs) st a6 u h;cases d:zc s i with
    |true=>
     rw[yF _ _ _ _ _ _ _ _ _ d];obtain⟨A,B,j,C⟩:=tC Zo (λy q=>g y (by simp[q])) (i+1) _ a6 u h3;refine⟨A,?_,?_,g2.trans C⟩
     .simp only[wP,vG];exact⟨mQ C.a7.length_le _ h4,B⟩
     .simp only;split
      .simp only[ve,vG];exact⟨rawP _,j⟩
      .exact j
    |false=>
     rw[zP _ _ _ _ _ _ _ _ _ d];obtain⟨A,B,j,C⟩:=tC Zo (λy q=>g y (by simp[q])) (i+1) _ a6 u m;refine⟨A,?_,j,g1.trans C⟩;simp only[wP,vG];exact⟨mQ C.a7.length_le _ h2,B⟩
  intro x T g st a6 u h;cases x with
  |mk k s lit a5 ae ak p=>
  have d:=AE g;simp only[Nd.size]at T;have hk:Nd.ay ak<=N:=by omega
  have cq:∀(n D:Nat) (nm:ByteArray) (U:Lt) (un:Int) (b:Bool) (E:List PN),D≠8->wP n E=true->yg n (.mk D nm U [] un b E)=true:=λn D nm U un b E hk Q=>by
   simp only[yg,List.all_nil,vV,vG,vS];exact⟨.inl (by rw[Zf hk];rfl),Q⟩
  have W:∀(n D:Nat) (r:wY) (E:List PN),D≠8->D8 r=true->wP n E=true->yg n (.mk D e0 fD [r] 0 false E)=true:=λn D r E hk S Q=>by
   simp only[yg,ve,List.all_nil,vI,vG,vS];exact⟨⟨S,.inl (by rw[Zf hk];rfl)⟩,Q⟩
  refine⟨?_,?_⟩
  .cases aW:fA k s ak with
   |true=>
    rw[yf _ _ _ _ _ _ _ _ _ _ _ _ aW];obtain⟨A,B,j,_⟩:=oq s ak hk d.gZ 0 st a6 u h;refine⟨A,?_⟩;simp only[yg,vG,vS];refine⟨⟨j,.inl ?_⟩,B⟩;have:zB s≠8:=by unfold zB;split<;>omega
    rw[Zf this];rfl
   |false=>
    obtain⟨a1,a2⟩:=H ak hk d.gZ st a6 u h;by_cases m:k=1
    .rw[ig _ _ _ _ _ _ _ _ _ _ _ _ aW m];exact⟨h,cq _ _ _ _ _ _ _ Zo rfl⟩
    by_cases h2:k=2
    .rw[ii _ _ _ _ _ _ _ _ _ _ _ _ aW h2];exact⟨h.of (gE _ _ _ _ _ _ _ _) (Fj _ _ _ _ _ _ _ _),W _ _ _ _ Zo (XS _ _ _ _ _ _ _ (JE (d.name (.inl h2)))) rfl⟩
    by_cases h3:k=3
    .rw[ij _ _ _ _ _ _ _ _ _ _ _ _ aW h3];obtain⟨j,C⟩:=H ak hk d.gZ (jx F G st a6 s u p true).2 a6 u (h.of (gE _ _ _ _ _ _ _ _) (Fj _ _ _ _ _ _ _ _));exact⟨j,W _ _ _ _ Zo (XS _ _ _ _ _ _ _ (JE (d.name (.inr h3)))) C⟩
    by_cases h7:k=7
    .rw[iq _ _ _ _ _ _ _ _ _ _ _ _ aW h7];simp only;rw[wu];obtain⟨J,X,M,Y⟩:=jO st.a7.length true true p a5 0 (st.aF (u:Int) a5.length) a6;obtain⟨K,Z,O,f8⟩:=jO st.a7.length false true p ae 0 (kO st.a7.length true true p a5 0 (st.aF (u:Int) a5.length) a6).1 (kO st.a7.length true true p a5 0 (st.aF (u:Int) a5.length) a6).2;have ZS:(bq a5 ae p st a6 (u:Int)).1.a7.length=st.a7.length+1:=by
      show(kO st.a7.length false true p ae 0 (kO st.a7.length true true p a5 0 (st.aF (u:Int) a5.length) a6).1 (kO st.a7.length true true p a5 0 (st.aF (u:Int) a5.length) a6).2).1.a7.length=_;rw[K,J];unfold ai.aF;simp
     have hB:Pp (bq a5 ae p st a6 (u:Int)).1:=⟨Zo,λl hl=>by
      have hl:l∈(kO st.a7.length false true p ae 0 (kO st.a7.length true true p a5 0 (st.aF (u:Int) a5.length) a6).1 (kO st.a7.length true true p a5 0 (st.aF (u:Int) a5.length) a6).2).1.a8:=hl;rw[O,M]at hl;have hl:l∈st.a8++[[]]:=hl;rcases QH.1 hl with hl|hl
      .exact oE Zo l (h.bd l hl)
      .rw[QU.1 hl];rfl,λi o d hp=>by
      have d:(kO st.a7.length false true p ae 0 (kO st.a7.length true true p a5 0 (st.aF (u:Int) a5.length) a6).1 (kO st.a7.length true true p a5 0 (st.aF (u:Int) a5.length) a6).2).1.a7[i]? =some o:=d;rw[K,J]at d;have d:(st.a7++[(u:Int)])[i]? =some o:=d;rw[Vi]at d;split at d
      .exact h.ro i o d hp
      .have:=(Vt.1 d).1;simp only[QA]at this;have e:i-st.a7.length=0:=by omega
       rw[e]at d;obtain rfl:(u:Int)=o:=by simpa using d
       omega⟩
     obtain⟨I,L⟩:=H ak hk d.gZ (bq a5 ae p st a6 (u:Int)).1 (bq a5 ae p st a6 (u:Int)).2 st.a7.length hB;have gA:=(wa F G ak (bq a5 ae p st a6 (u:Int)).1 (bq a5 ae p st a6 (u:Int)).2 st.a7.length).a7.length_le;refine⟨⟨I.pos,λl hl=>?_,I.ro⟩,?_⟩
     .rcases QR hl with hl|rfl
      .exact I.bd l hl
      .exact L
     .simp only[yg,List.all_nil,vV,vG,vS,decide_eq_true_eq];have:=h.pos;exact⟨.inr ⟨Zo,Zo⟩,rfl⟩
    by_cases h8:k=8
    .rw[ir _ _ _ _ _ _ _ _ _ _ _ _ aW h8];exact zF5
    by_cases h9:k=9
    .rw[iu _ _ _ _ _ _ _ _ _ _ _ _ aW h9];exact zF5
    by_cases h6:k=6
    .rw[io _ _ _ _ _ _ _ _ _ _ _ _ aW h6];exact zF5
    by_cases h5:k=5
    .rw[im _ _ _ _ _ _ _ _ _ _ _ _ aW h5];exact⟨a1,cq _ _ _ _ _ _ _ Zo (D6 _ a2)⟩
    cases hs:jR ak with
    |true=>
     rw[eI _ _ _ _ _ _ _ _ _ _ _ _ aW ⟨m,h2,h3,h5,h6,h7,h8,h9⟩ hs];have ht:Nd.ay ak.tail<=N:=zDB
     obtain⟨A,B⟩:=H ak.tail ht (λy q=>d.gZ y (List.mem_of_mem_tail q)) st a6 u h;exact⟨A,cq _ _ _ _ _ _ _ Zo B⟩
    |false=>
     rw[il _ _ _ _ _ _ _ _ _ _ _ _ aW ⟨m,h2,h3,h5,h6,h7,h8,h9⟩ hs];exact zF5
  .rw[fB];obtain⟨J,X,M,Y⟩:=jO u true false p a5 0 st a6;obtain⟨K,Z,O,f8⟩:=jO u false false p ae 0 (kO u true false p a5 0 st a6).1 (kO u true false p a5 0 st a6).2;obtain⟨I,L⟩:=H ak hk d.gZ _ (kO u false false p ae 0 (kO u true false p a5 0 st a6).1 (kO u true false p a5 0 st a6).2).2 u (h.of (O.trans M) (K.trans J));refine⟨I,?_⟩;simp only[yg,vG,vS];refine⟨⟨?_,.inl rfl⟩,L⟩;rw[vf];intro r S;obtain⟨v,_,rfl⟩:=QO.1 S;exact rawP v
def xx {α:Type}[DecidableEq α]{l:List α}{x:α}(h:x∈l):∃i,i<l.length/\l.findIdx? (λy=>decide (y=x))=some i:=by
 cases e:l.findIdx? (λy=>decide (y=x))with
 |none=>
  rw[List.findIdx?_eq_none_iff]at e;have:=e x h;simp at this
 |some i=>
  obtain⟨d,_⟩:=List.findIdx?_eq_some_iff_getElem.1 e;exact⟨i,d,rfl⟩
def Wx {α:Type}[DecidableEq α]{l:List α}{x:α}(h:x∈l):0<=dC l x/\dC l x<l.length:=by
 obtain⟨i,h1,d⟩:=xx h;unfold dC;rw[d];simp only;omega
def Cy {st:ai}{u v:Nat}{r:Bool}:v∈st.bi u r↔v < st.vars.length/\st.ah v=u/\st.aT v < 0/\st.rem v=r:=by
 unfold ai.bi;rw[QM,QS];simp only[vG,decide_eq_true_eq,and_assoc]
def ai.frame(st:ai)(u:Nat):Int:=st.a5.getD u 0+(st.a9 u).length+(st.bi u false).length+(if 0<(st.bi u true).length then 1 else 0)
def liesR(n:Int)(r:wY):Bool:=!(decide (r.index<0)||decide (r.slot<0)||(decide (r.kind=5∨r.kind=6)&&decide (n<=r.index))||(decide (r.kind=8) !=decide (r.name≠e0)))
mutual
def liesP(n m:Int):PN->Bool
 |.mk k _ _ rs un _ ak=>rs.all (liesR n)&&!(decide (k=8)&&(decide (un<1)||decide (m<=un)))&&My n m ak
def My(n m:Int):List PN->Bool
 |[]=>true
 |x::r=>liesP n m x&&My n m r
end
def Kl(st:ai)(u:Nat):(st.aG u).frame=st.frame u:=by
 unfold zM.frame ai.aG ai.frame;simp only[Q6]
 congr 1
 by_cases c:0<(st.bi u true).length
 .rw[if_pos c,if_pos Zo]
 .rw[if_neg c,if_neg Zo]
structure UnitOk (l:List zM)(i:Nat)(x:zM):Prop where
 a5:0<=x.a5
 bi:0<=x.bi
 a7:0<i->0<=x.a7/\x.a7<i
 dW:∀r∈x.a9,r.kind=5/\0<=r.index/\∃(o:Nat) (y:zM),x.a7=(o:Int)/\l[o]? =some y/\r.index<y.frame
 body:My x.frame l.length x.body=true
structure Ty (st:ai)(n:Nat)(a5:Nat):Prop where
 ph:Ph st
 first:st.a7[0]? =some (-1)/\st.a5[0]? =some a5
 bw:Bw st n
 less:st.vars.length<=n/\st.dg.length<=n/\st.a7.length<=n
def nE(a5 ae:List ByteArray)(ak:List Nd):Nat:=cW a5 ae (kf ak)
def T3(F G):∀(l:List Nd) st a6 u,Ph st->u<st.a7.length->nj st a6 u->Ph (kQ F G l st a6 u).2/\wH (pd (kQ F G l st a6 u).2 u) (kQ F G l st a6 u).1=true:=by
 intro l
 induction l with
 |nil=>intro st a6 u h d g;rw[kQ];exact⟨h,rfl⟩
 |cons x r ih=>
  intro st a6 u h d g;rw[wE];have j:=(wt F G _ x (Qs _) st a6 u).1;obtain⟨m,h2⟩:=(ph_part F G _ x (Qs _) st a6 u h d g).1;obtain⟨h3,h4⟩:=ih _ a6 u m (Qv d j.a7.length_le) (g.gr j h.wf m.wf d);exact zEJ
def all_bw(F G M):∀(l:List Nd),kf l<=M->∀st a6 u,Bw st M->Bw (kQ F G l st a6 u).2 M/\PN.ws (kQ F G l st a6 u).1<=2*kf l:=by
 intro l
 induction l with
 |nil=>intro _ st a6 u h;rw[kQ];exact⟨h,Qs _⟩
 |cons x r ih=>
  intro j st a6 u h;simp only[kf]at j;rw[wE];obtain⟨d,h2⟩:=(w_part F G M _ x (Qs _) Zo st a6 u h).1;obtain⟨g,h4⟩:=ih Zo _ a6 u d;refine⟨g,?_⟩;simp only[PN.ws,kf];omega
def T5(F G):∀(l:List Nd) st a6 u,yE st (kQ F G l st a6 u).2 (kf l):=by
 intro l
 induction l with
 |nil=>intro st a6 u;rw[kQ];exact yE.refl st
 |cons x r ih=>
  intro st a6 u;rw[wE];exact(dD F G _ x (Qs _) st a6 u).1.trans (ih _ a6 u)
def all_pp(F G):∀(l:List Nd),(∀y∈l,kP y≠none)->∀st a6 u,Pp st->Pp (kQ F G l st a6 u).2/\wP (kQ F G l st a6 u).2.a7.length (kQ F G l st a6 u).1=true:=by
 intro l
 induction l with
 |nil=>intro _ st a6 u h;rw[kQ];exact⟨h,rfl⟩
 |cons x r ih=>
  intro d st a6 u h;rw[wE];obtain⟨g,h2⟩:=(pp_part F G _ x (Qs _) (d x Zs) st a6 u h).1;obtain⟨h3,h4⟩:=ih (λy j=>d y (by simp[j])) _ a6 u g;exact zEU
def ph0:Ph iU:=⟨⟨rfl,rfl,λi o h=>by simp[iU]at h,λv x h=>by simp[iU]at h,λq h=>by simp[iU]at h⟩,λq h=>by simp[iU]at h,λi l h=>by simp[iU]at h⟩
def Ot(F G a5 ae ak):Ty (lM F G a5 ae ak) (nE a5 ae ak) a5.length:=by
 unfold lM;rw[wu];have Z:Ph (iU.aF (-1) a5.length):=ph0.aF ⟨Zo,Zd⟩;obtain⟨K,L⟩:=mR 0 true true 0 a5 0 (iU.aF (-1) a5.length) [] Z (Nat.zero_lt_one) (λ_=>by show 0+a5.length<=a5.length;omega) (λv hv=>by cases hv);obtain⟨E,O,Q,f4⟩:=jO 0 true true 0 a5 0 (iU.aF (-1) a5.length) [];obtain⟨M,N⟩:=mR 0 false true 0 ae 0 _ _ K (by rw[E];exact Nat.zero_lt_one) (λe=>by cases e) L;obtain⟨S,T,U,f8⟩:=jO 0 false true 0 ae 0 (kO 0 true true 0 a5 0 (iU.aF (-1) a5.length) []).1 (kO 0 true true 0 a5 0 (iU.aF (-1) a5.length) []).2;obtain⟨D,d⟩:∃D,D=bq a5 ae 0 iU [] (-1):=⟨_,rfl⟩;have I:Ph D.1:=by rw[d];exact M
 have J:nj D.1 D.2 0:=by rw[d];exact N
 have q:D.1.a7=[-1]:=by rw[d];exact S.trans E
 have m:D.1.a5=[a5.length]:=by rw[d];exact T.trans O
 have s:D.1.a8=[[]]:=by rw[d];exact U.trans Q
 have A:yE iU D.1 (1+(a5.length+ae.length)):=by
  rw[d];exact(uD iU (-1) a5.length).trans ((w7 _ _ _ _ _ _ _ _).trans (w7 _ _ _ _ _ _ _ _))
 rw[<- d];show Ty ({(kQ F G ak D.1 D.2 0).2 with a8:=(kQ F G ak D.1 D.2 0).2.a8.set 0 (kQ F G ak D.1 D.2 0).1}) _ _;obtain⟨W,X⟩:=T3 F G ak D.1 D.2 0 I (by rw[q];decide) J;have g:=wa F G ak D.1 D.2 0;obtain⟨C,b2⟩:=all_bw F G (nE a5 ae ak) ak (by unfold nE cW;omega) D.1 D.2 0 ⟨λl j=>by
  rw[s,QU]at j;rw[j];exact X0 _,λa H=>by
  rw[m,QU]at H;rw[H];unfold nE cW;omega⟩
 have Y:=A.trans (T5 F G ak D.1 D.2 0);refine⟨W.body 0 X,⟨?_,?_⟩,⟨λl j=>?_,C.ar⟩,?_⟩
 .obtain⟨t,B⟩:=g.a7;show(kQ F G ak D.1 D.2 0).2.a7[0]? =_;rw[<- B,q];rfl
 .obtain⟨t,B⟩:=g.a5;show(kQ F G ak D.1 D.2 0).2.a5[0]? =_;rw[<- B,m];rfl
 .rcases QR j with j|rfl
  .exact C.bd l j
  .unfold nE cW;omega
 .obtain⟨l1,l2,l3⟩:=Y;have e1:iU.vars.length=0:=rfl;have e2:iU.dg.length=0:=rfl;have e3:iU.a7.length=0:=rfl;unfold nE cW;exact⟨by show(kQ F G ak D.1 D.2 0).2.vars.length<=_;omega,by show(kQ F G ak D.1 D.2 0).2.dg.length<=_;omega,by show(kQ F G ak D.1 D.2 0).2.a7.length<=_;omega⟩
def root_pp(F G a5 ae ak)(H:∀y∈ak,kP y≠none):Pp (lM F G a5 ae ak):=by
 unfold lM;rw[wu];obtain⟨s,f2,A,f4⟩:=jO 0 true true 0 a5 0 (iU.aF (-1) a5.length) [];obtain⟨B,f6,C,f8⟩:=jO 0 false true 0 ae 0 (kO 0 true true 0 a5 0 (iU.aF (-1) a5.length) []).1 (kO 0 true true 0 a5 0 (iU.aF (-1) a5.length) []).2;obtain⟨D,j⟩:∃D,D=bq a5 ae 0 iU [] (-1):=⟨_,rfl⟩;have g:D.1.a7=[-1]:=by rw[j];exact B.trans s
 have m:D.1.a8=[[]]:=by rw[j];exact C.trans A
 rw[<- j];show Pp ({(kQ F G ak D.1 D.2 0).2 with a8:=(kQ F G ak D.1 D.2 0).2.a8.set 0 (kQ F G ak D.1 D.2 0).1});obtain⟨h,E⟩:=all_pp F G ak H D.1 D.2 0 ⟨by rw[g];decide,λl d=>by
  rw[m,QU]at d;rw[d];rfl,λi o q hp=>by
  rw[g]at q;have:=(Vt.1 q).1;simp only[QA]at this;omega⟩
 refine⟨h.pos,λl d=>?_,h.ro⟩;rcases QR d with d|rfl
 .exact h.bd l d
 .exact E
instance memDec (s:ByteArray)(l:List ByteArray):Decidable (s∈l):=decidable_of_iff (l.any (λt=>decide (t=s))=true) (by
 rw[vh];exact⟨λ⟨t,h1,h2⟩=>of_decide_eq_true h2 ▸ h1,λh=>⟨s,h,Zt rfl⟩⟩)
mutual
def pI(seen out:List ByteArray):Nd->List ByteArray
 |.mk k s _ a5 ae ak _=>wy (if k=7 then seen++a5++ae else seen) (if(k=2∨k=3)/\wm s=0/\s∉seen/\s∉out then out++[s]else out) ak
def wy(seen out:List ByteArray):List Nd->List ByteArray
 |[]=>out
 |x::r=>wy seen (pI seen out x) r
end
def nX {l:List ByteArray}{s:ByteArray}:(l.findIdx? λt=>decide (t=s)).isSome=l.any λt=>decide (t=s):=by
 induction l with
 |nil=>rfl
 |cons x r ih=>
  rw[V8,vg];cases decide (x=s)with
  |true=>rfl
  |false=>simp only[vO,vN,if_false,<- ih,Option.isSome_map]
section
variable (st:ai)
end
def ET {w n v xs sp}(h:ke w v n xs sp)(hn:0 < n):∃b o c,v=.slice (some ⟨b,o,none⟩) n c/\n<=c/\∀ys d,aj v ys d=kA b o (ys++d):=by
 cases h with
 |@mk b o _ c _ _ h1 h2 h3=>exact⟨b,o,c,rfl,h3,λ_ _=>rfl⟩
 |nil=>omega
def jn(b:Bool)(rows:List (List Value))(j:Nat):List (List Value):=rows.mapIdx λi r=>if 1<=i/\i<=j then r.set 9 (.bool b)else r
def wh {b rows j i r}(h:rows[i]? =some r):(jn b rows j)[i]? =some (if 1<=i/\i<=j then r.set 9 (.bool b)else r):=by
 unfold jn;rw[List.getElem?_mapIdx,h];rfl
def jg(b rows j):(jn b rows j).length=rows.length:=by unfold jn;simp
def Ft(b rows):jn b rows 0=rows:=by
 apply vz;intro i;cases h:rows[i]? with
 |none=>
  rw[Vr]at h|-;rw[jg];exact h
 |some r=>rw[wh h,if_neg Zo]
def zQ {b rows j w}(h:∀r∈rows,r.length=w):∀r∈jn b rows j,r.length=w:=by
 intro r g;obtain⟨i,d⟩:=Vv g;cases h0:rows[i]? with
 |none=>
  rw[Vr]at h0;have:=(Vt.1 d).1;rw[jg]at this;omega
 |some r0=>
  rw[wh h0]at d;have:=h r0 (Zv h0);rw[<- X8 d];split
  .rw[Q9];exact this
  .exact this
def sY {b rows j r}(h:rows[j+1]? =some r):(jn b rows j).set (j+1) (r.set 9 (.bool b))=jn b rows (j+1):=by
 apply vz;intro i;rw[Vx];by_cases e:j+1=i
 .subst e;rw[if_pos rfl,if_pos (by rw[jg];exact(Vt.1 h).1),wh h,if_pos Zo]
 .rw[if_neg e];cases h0:rows[i]? with
  |none=>
   have d:∀m,(jn b rows m)[i]? =none:=λm=>by
    rw[Vr]at h0|-;rw[jg];exact h0
   rw[d,d]
  |some r0=>
   rw[wh h0,wh h0];by_cases c:1<=i/\i<=j
   .rw[if_pos c,if_pos Zo]
   .rw[if_neg c,if_neg Zo]
def IZ {w}:∀{rows:List (List Value)},(∀r∈rows,r.length=w)->∀{j c:Nat} {r:List Value} {u:Value},rows[j]? =some r->c<w->rows.flatten.set (j*w+c) u=(rows.set j (r.set c u)).flatten:=by
 intro rows
 induction rows with
 |nil=>intro _ j c r u h;simp at h
 |cons x l ih=>
  intro g j c r u d s;have m:=g x Zs;cases j with
  |zero=>
   obtain rfl:x=r:=by simpa using d
   rw[Vd,X1,Qz,List.set_append_left _ _ Zo];rfl
  |succ j=>
   have q:=ih (λr A=>g r (by simp[A])) (j:=j) (c:=c) (r:=r) (u:=u) (by simpa using d) s;rw[Vd,List.set_append_right _ _ (by rw[m,Nat.succ_mul];omega),m];have e:(j+1)*w+c-w=j*w+c:=by rw[Nat.succ_mul];omega
   rw[e,q];rfl
def ew {w}:∀{rows:List (List Value)},(∀r∈rows,r.length=w)->rows.flatten.length=rows.length*w:=by
 intro rows
 induction rows with
 |nil=>intro _;simp
 |cons x l ih=>
  intro h;rw[Vd,Vz,ih (λr d=>h r (by simp[d])),h x Zs,Q0,Nat.succ_mul];omega
def AX.super {T qs x ws}(h:AX T qs x ws)(b):AX T qs (x.sZ b) (ws.set 9 (.bool b)):=by
 cases h with
 |@mk k nm lit refs cg fP ak lv rv vv a c bk o us hl hr hv ok hz ha hm hs=>
  have d:=hl.len
  match lv,d,hl with
  |[v1,v2,v3,v4,v5],_,hl=>exact .mk (fP:=b) hl hr hv ok hz ha hm hs
def Hn {T qs l rows}(h:zz T qs l rows)(b):zz T qs (we b l) (jn b rows (l.length-1)):=by
 cases l with
 |nil=>
  have:rows=[]:=vy h.len;subst this;exact zz.nil T qs
 |cons x l=>
  refine⟨?_,zQ h.w,λi y r hy hr=>?_⟩
  .rw[jg,h.len];simp[we]
  .cases h0:rows[i]? with
   |none=>
    exact zFA
   |some r0=>
    rw[wh h0]at hr;have d:=(Vt.1 h0).1;rw[h.len,Q0]at d;cases i with
    |zero=>
     exact zF1
    |succ i=>
     rw[if_pos ⟨Zo,by rw[Q0];omega⟩]at hr;rw[<- X8 hr];simp only[we,Vm,Vu]at hy;obtain⟨z,g,rfl⟩:=X5.1 hy;exact(h.rd (i+1) z r0 (by simpa using g) h0).super b
def It(F G):∀(l:List Nd) st a6 u,(kQ F G l st a6 u).1.length=l.length:=by
 intro l
 induction l with
 |nil=>intro st a6 u;rw[kQ];rfl
 |cons x r ih=>intro st a6 u;rw[wE];simp only[Q0,ih]
def Dh(b l):(we b l).length=l.length:=by cases l<;>simp[we]
def Wf.EX {st}(h:Wf st):∀(k u:Nat),u<=st.a7.length->∀x,(st.line u)[k]? =some x->(st.line u)[k+1]? =if st.a7.getD x (-1)<0 then none else some (st.a7.getD x (-1)).toNat:=by
 intro k
 induction k with
 |zero=>
  intro u g x d;have j:=h.gk u;rw[h.line g]at d|-;obtain rfl:u=x:=by simpa using d
  rw[Vm];split
  .rfl
  .rw[h.line Zo];rfl
 |succ k ih=>
  intro u g x d;have j:=h.gk u;rw[h.line g]at d|-;rw[Vm]at d|-;split at d
  .simp at d
  .rename_i c;rw[if_neg c];exact ih _ Zo x d
def Wf.line_lt {st}(h:Wf st){u}(hu:u < st.a7.length):∀w∈st.line u,w<st.a7.length:=λw d=>by
 have:=h.sG u Zo w d;omega
def ai.around(st:ai)(u:Nat):List Nat:=(st.line u).drop 1
def Aa(U:List UC)(l:List Nat)(d:Nat):Value:=match l[d]? with|some x=>kE (qU U x)|none=>.pointer none
def qG(st:ai)(u d:Nat):(st.around u)[d]? =(st.line u)[d+1]?:=by
 unfold ai.around;rw[Vo,Nat.add_comm]
def gB {U x w}(h:U[x]? =some w):qU U x=w.q:=by unfold qU;rw[h];rfl
def fT.outerQ {st L U V}(h:fT st L U V){i u}(d:U[i]? =some u):kN u.a7=Aa U (st.around i) 0:=by
 have cm:i<st.a7.length:=by have:=(Vt.1 d).1;rw[h.ul]at this;exact this
 have mq:=h.wf.gk i;have j:(st.line i)[0]? =some i:=by rw[h.wf.line Zo];rfl
 have m:=h.wf.EX 0 i Zo i j;rw[h.ou i u d];unfold Aa;rw[qG,m];by_cases c:st.a7.getD i (-1)<0
 .rw[if_pos c,if_pos c];rfl
 .rw[if_neg c,if_neg c];obtain⟨w,g⟩:∃w,U[(st.a7.getD i (-1)).toNat]? =some w:=⟨_,Zg (by rw[h.ul];omega)⟩;rw[g];simp only[gB g];rfl
def fT.outerN {st L U V}(h:fT st L U V){i d x w}(m:i < st.a7.length)(g:(st.around i)[d]? =some x)(s:U[x]? =some w):kN w.a7=Aa U (st.around i) (d+1):=by
 rw[qG]at g;have q:=h.wf.EX (d+1) i Zo x g;have A:=h.wf.line_lt m x (Zv g);have mq:=h.wf.gk x;rw[h.ou x w s];unfold Aa;rw[qG,q];by_cases c:st.a7.getD x (-1)<0
 .rw[if_pos c,if_pos c];rfl
 .rw[if_neg c,if_neg c];obtain⟨w',j⟩:∃w',U[(st.a7.getD x (-1)).toNat]? =some w':=⟨_,Zg (by rw[h.ul];omega)⟩;rw[j];simp only[gB j];rfl
def Y2(o):∀n u,(Dj o n u).length<=n:=by
 intro n
 induction n with
 |zero=>intro u;simp[Dj]
 |succ n ih=>
  intro u;simp only[Dj];split
  .simp
  .have:=ih (o.getD u.toNat (-1));rw[Q0];omega
def qH(st:ai)(u:Nat):(st.around u).length<=st.a7.length:=by
 have:=Y2 st.a7 (st.a7.length+1) u;unfold ai.around ai.line;rw[Q1];omega
def ai.nS(st:ai)(u k:Nat):List (Nat×Int):=((st.around u).reverse.take k).flatMap λo=>(st.things o).filter (st.aD u)
def II(st:ai)(u:Nat){k:Nat}(h:(st.around u).length<=k):st.nS u k=st.a9 u:=by
 unfold ai.nS ai.a9 ai.around;rw[Ql (by rw[List.length_reverse];exact h)]
def Pm(st:ai){u k o:Nat}(h:(st.around u).reverse[k]? =some o):st.nS u (k+1)=st.nS u k++(st.things o).filter (st.aD u):=by
 unfold ai.nS;have hl:=(Vt.1 h).1;rw[Qi,h];simp
def Ng(st:ai){o m:Nat}(h:m < st.a5.getD o 0+1):(st.things o)[m]? =some (o,(m:Int) - 1):=by
 unfold ai.things;rw[Vu,Vw h];rfl
def gK(st:ai)(o:Nat):(st.things o).length=st.a5.getD o 0+1:=by unfold ai.things;simp
def EL {α:Type}{l:List α}{p:α->Bool}{m}{x:α}(h:l[m]? =some x):(l.take (m+1)).filter p=(l.take m).filter p++(if p x=true then [x]else []):=by
 rw[Qi,h,V0];simp only[Option.toList_some]
 congr 1
 by_cases c:p x=true
 .rw[if_pos c,V5,if_pos c];rfl
 .rw[if_neg c,V5,if_neg c];rfl
def Bi {st:ai}{u M:Nat}(h:∀j,st.a5.getD j 0<=M):(st.a9 u).length<=(st.around u).length*(M+1):=by
 have d:∀l:List Nat,(l.flatMap λo=>(st.things o).filter (st.aD u)).length<=l.length*(M+1):=zCY
 have:=d (st.around u).reverse;rw[List.length_reverse]at this;exact this
def Ul {st:ai}{u M k:Nat}(h:∀j,st.a5.getD j 0<=M):(st.nS u k).length<=(st.around u).length*(M+1):=by
 have d:∀l:List Nat,(l.flatMap λo=>(st.things o).filter (st.aD u)).length<=l.length*(M+1):=zCY
 have h1:=d ((st.around u).reverse.take k);have g:((st.around u).reverse.take k).length<=(st.around u).length:=by
  have:=List.length_take_le' k (st.around u).reverse;rw[List.length_reverse]at this;exact this
 exact Qu h1 (Qx _ g)
def IY {α s:Type}(f:α->List s){l:List α}{i}{x:α}(h:l[i]? =some x):∃R,(∀y,((l.set i y).flatMap f).Perm (f y++R))/\∀(k:Nat) z,k≠i->l[k]? =some z->∀a∈f z,a∈R:=by
 induction l generalizing i with
 |nil=>simp at h
 |cons a l ih=>
  cases i with
  |zero=>
   refine⟨l.flatMap f,λy=>by simp,λk z j g b d=>?_⟩;cases k with
   |zero=>exact absurd rfl j
   |succ k=>exact QN.2 ⟨z,Zv (by simpa using g),d⟩
  |succ i=>
   obtain⟨R,m,q⟩:=ih (i:=i) (by simpa using h);refine⟨f a++R,λy=>?_,λk z j g b d=>?_⟩
   .simp only[List.set_cons_succ,VV];refine(vY _ (m y)).trans ?_;exact zBE
   .cases k with
    |zero=>
     obtain rfl:a=z:=by simpa using g
     exact Zw _ d
    |succ k=>exact QI _ (q k z Zo (by simpa using g) b d)
def wk_cop2 {U V i u}(G:U[i]? =some u):∃R,(WK U V).Perm ([.obj u.nb (.map u.es u.cl)]++(kA u.q 7 [u.cv]++(aj u.cv (u.dW.flatMap jZ) u.cw++R)))/\
 (∀g d h,(WK (U.set i {u with dW:=g,cv:=d,cw:=h}) V).Perm ([.obj u.nb (.map u.es u.cl)]++(kA u.q 7 [d]++(aj d (g.flatMap jZ) h++R))))/\
 (∀(k:Nat) z,k≠i->U[k]? =some z->∀a∈z.atoms,a∈R)/\kC.own u.q 9∈R/\∀a∈kA u.q 0 [vi u.a5,vi u.bi,vi u.aA,kN u.a7,vi u.num,u.tv,.map (some u.nb)],a∈R:=by
 obtain⟨F,I,L⟩:=IY UC.atoms G;obtain⟨X,m⟩:∃X,X=(kC.own u.q 9::(kA u.q 0 [vi u.a5,vi u.bi,vi u.aA,kN u.a7,vi u.num,u.tv,.map (some u.nb)]++(kA u.q 8 [u.body]++aj u.tv (u.ae.map λb=>kN (some b)) u.lS))):=⟨_,rfl⟩;have J:∀g d h,({u with dW:=g,cv:=d,cw:=h}:UC).atoms.Perm (([.obj u.nb (.map u.es u.cl)]++(kA u.q 7 [d]++aj d (g.flatMap jZ) h))++X):=λg d h=>by
  unfold UC.atoms UC.row;rw[m];have e:kA u.q 0 [vi u.a5,vi u.bi,vi u.aA,kN u.a7,vi u.num,u.tv,.map (some u.nb),d,u.body]=kA u.q 0 [vi u.a5,vi u.bi,vi u.aA,kN u.a7,vi u.num,u.tv,.map (some u.nb)]++(kA u.q 7 [d]++kA u.q 8 [u.body]):=rfl;simp only;rw[e];generalize kA u.q 0 [vi u.a5,vi u.bi,vi u.aA,kN u.a7,vi u.num,u.tv,.map (some u.nb)]=A;generalize kA u.q 7 [d]=B;generalize kA u.q 8 [u.body]=C;generalize aj u.tv (u.ae.map λb=>kN (some b)) u.lS=D;generalize aj d (g.flatMap jZ) h=E;generalize kC.obj u.nb (.map u.es u.cl)=o;generalize kC.own u.q 9=w;simp only[vj,vq];have N:(A++(B++(C++(D++(E++[o]))))).Perm (o::(B++(E++(A++(C++D))))):=by
   refine List.Perm.trans (l₂:=(A++(B++(C++(D++E))))++[o]) (by simp only[vj];exact vd _) ?_;refine QZ.trans (List.Perm.cons o ?_);refine(Qa A B _).trans (vY _ ?_);refine List.Perm.trans (l₂:=(A++(C++D))++E) (by simp only[vj];exact vd _) ?_;exact QZ
  refine(List.Perm.cons w N).trans ?_;refine(List.Perm.swap _ _ _).trans (List.Perm.cons o ?_);refine List.Perm.trans (l₂:=[w]++(B++(E++(A++(C++D))))) (vd _) ?_;refine(Qa _ B _).trans (vY _ ?_);exact(Qa _ E _)
 have j:∀g d h,(WK (U.set i {u with dW:=g,cv:=d,cw:=h}) V).Perm ([.obj u.nb (.map u.es u.cl)]++(kA u.q 7 [d]++(aj d (g.flatMap jZ) h++(X++(F++V.flatMap aC.atoms))))):=λg d h=>by
  unfold WK;refine(vZ _ ((I _).trans (vZ _ (J g d h)))).trans ?_;simp only[vj];exact vd _
 refine⟨X++(F++V.flatMap aC.atoms),?_,j,λk z K M a s=>QI _ (Zw _ (L k z K M a s)),Zw _ (by rw[m];exact QL ..),λa s=>Zw _ (by rw[m];exact QK _ (Zw _ s))⟩;have:=j u.dW u.cv u.cw;have H:U.set i {u with dW:=u.dW,cv:=u.cv,cw:=u.cw}=U:=zf G
 rwa [H]at this
def Ev(st:ai){l:List Nat}{j v:Nat}(h:l[j]? =some v)(r:Bool):u7 st (l.take (j+1)) r=u7 st (l.take j) r+(if st.rem v=r then 1 else 0):=by
 unfold u7;rw[EL h,Vz];by_cases c:st.rem v=r
 .rw[if_pos (Zt c),if_pos c];rfl
 .rw[if_neg (by simpa using c),if_neg c];rfl
section
variable {P:Program} {n:Nat} {Γ:Env} {H:SH} {Z:List PanicEntry->Env->SH->Prop} {K:Env->SH->Prop} {rs:List RO} {d:Option Nat}
def St {m:Operand}{b c:Nat}{es:Array MapEntry}{l:List ((Nat×Int)×Int)}(A:ev Γ m=some (.map (some b)))(B:AU H b (.map es c))(s:Dv es.toList l)
 (h:VO P n rs (au d (vi l.length) Γ) H Z K):VO P n (⟨d,none,.Xa m⟩::rs) Γ H Z K:=by
 refine VO.read rfl rfl (λρ j=>⟨_,rfl,λF w C=>?_⟩) h;rw[j _ _ A];have q:=iT (P:=P) B.mem C;have g:es.size=l.length:=by
  have:=congrArg List.length s;simpa using this
 simp[wg,q,g]
end
def idx_map {α d:Type}[DecidableEq α][DecidableEq d]{f:α->d}{x:α}:∀{l:List α},(∀y∈l,f y=f x->y=x)->(l.map f).findIdx? (λy=>decide (y=f x))=l.findIdx? λy=>decide (y=x):=by
 intro l
 induction l with
 |nil=>intro _;rfl
 |cons y l ih=>
  intro h;rw[QE,V8,V8,ih (λz g=>h z (by simp[g]))];have e:decide (f y=f x)=decide (y=x):=decide_eq_decide.2 ⟨h y Zs,λe=>by rw[e]⟩;rw[e]
def fT.XJ {st L U V}(h:fT st L U V){i j}(E:i < st.a7.length)(F:j < st.a7.length)(e:qU U i=qU U j):i=j:=by
 obtain⟨u,C⟩:∃u,U[i]? =some u:=⟨_,Zg (by rw[h.ul];exact E)⟩;obtain⟨w,D⟩:∃w,U[j]? =some w:=⟨_,Zg (by rw[h.ul];exact F)⟩;rw[gB C,gB D]at e;have s:(U.map UC.q)[i]? =some u.q:=by rw[Vu,C];rfl
 have d:(U.map UC.q)[j]? =some w.q:=by rw[Vu,D];rfl
 rw[<- e]at d;have g:=(Vt.1 s).1;have m:=(Vt.1 d).1;have A:(U.map UC.q)[i]=(U.map UC.q)[j]:=by
  rw[Zg g]at s;rw[Zg m]at d;rw[X8 s,X8 d]
 have B:=List.pairwise_iff_getElem.1 h.inj;rcases Nat.lt_trichotomy i j with c|c|c
 .exact absurd A (B i j g m c)
 .exact c
 .exact absurd A.symm (B j i m g c)
def fT.idx {st L U V}(h:fT st L U V)(j:Ph st){i}(g:i < st.a7.length){t}(m:t.1 < st.a7.length):
 (zn U (st.a9 i)).findIdx? (λy=>decide (y=(qU U t.1,t.2)))=(st.a9 i).findIdx? λy=>decide (y=t):=by
 unfold zn;exact idx_map (f:=λt:Nat×Int=>(qU U t.1,t.2)) (x:=t) λy q e=>by
  have d:=(j.oS g q).2.2.1;simp only[XA]at e;exact Prod.ext (h.XJ d m e.1) e.2
def fT.cells {st U V}(h:fT st st.a7.length U V){i u}(A:U[i]? =some u):∃g m,u.cv=.slice g (st.a9 i).length m/\u.a5=st.a5.getD i 0/\u.bi=(st.bi i false).length/\u.aA=(st.bi i true).length/\
 ∀(k:Nat) t,(zn U (st.a9 i))[k]? =some t->∃b o,g=some ⟨b,o,none⟩/\∀y∈kA b (o+k*2) [kE t.1,vi t.2],y∈u.atoms:=by
 have B:=(Vt.1 A).1;rw[h.ul]at B;obtain⟨F,G,q,C⟩:=h.la i u A B;have d:(zn U (st.a9 i)).length=(st.a9 i).length:=Q6 _;obtain⟨g,m,j⟩:=C.form;rw[q,d]at j;refine⟨g,m,j,(h.ar i u A).1,F,G,λk t D=>?_⟩;have Gy:=(Vt.1 D).1;obtain⟨b,o,c,E,_,s⟩:=ET C (by rw[q];omega);rw[j,Value.slice.injEq]at E;refine⟨b,o,E.1,λy I=>?_⟩;unfold UC.atoms;refine QK _ (QI _ (QI _ (Zw _ ?_)));rw[s,j7];refine Zw _ ?_;rw[q,Va];exact lp (rows:=(zn U (st.a9 i)).map jZ) (λr H=>by obtain⟨z,_,rfl⟩:=QO.1 H;rfl) (by rw[Vu,D];rfl) y I
def wn {α:Type}(w:Nat)(Rd:α->List Value->Prop)(T:List kC)(v:Value)(l:List α):Prop:=∃(a:Option Addr) (c bk o:Nat) (us:Nat->List Value),v=.slice a l.length c/\(0<l.length->a=some ⟨bk,o,none⟩)/\(∀i,i<l.length->∀y∈kA bk (o+i*w) (us i),y∈T)/\∀(i:Nat) x,l[i]? =some x->Rd x (us i)
structure fg {α:Type}(w:Nat)(Rd:α->List Value->Prop)(l:List α)(rows:List (List Value)):Prop where
 len:rows.length=l.length
 w:∀r∈rows,r.length=w
 rd:∀(i:Nat) x r,l[i]? =some x->rows[i]? =some r->Rd x r
section
variable {α:Type} {w:Nat} {Rd Rd':α->List Value->Prop}
def fg.nil:fg w Rd [] []:=⟨rfl,Zs,λi x r h=>by simp at h⟩
def fg.imp {l:List α}{rows:List (List Value)}(h:fg w Rd l rows)(g:∀x r,Rd x r->Rd' x r):fg w Rd' l rows:=⟨h.len,h.w,λi x r j d=>g _ _ (h.rd i x r j d)⟩
def fg.snoc {l:List α}{rows:List (List Value)}{x:α}{r:List Value}(h:fg w Rd l rows)(g:r.length=w)(hx:Rd x r):fg w Rd (l++[x]) (rows++[r]):=by
 refine⟨by simp[h.len],λj d=>?_,λi y s hy hs=>?_⟩
 .rcases QH.1 d with h1|h1
  .exact h.w j h1
  .rw[QU.1 h1];exact g
 .exact zB5
def wn.nil(T:List kC):wn w Rd T Nz []:=⟨none,0,0,0,λ_=>[],rfl,λh=>absurd h Zs,λi d=>absurd d Zs,λi x h=>by simp at h⟩
def wn.imp {T T':List kC}{v:Value}{l:List α}(h:wn w Rd T v l)(A:∀x∈T,x∈T')(s:∀x r,Rd x r->Rd' x r):wn w Rd' T' v l:=by
 obtain⟨a,c,bk,o,us,d,g,j,m⟩:=h;exact⟨a,c,bk,o,us,d,g,λi q y C=>A _ (j i q y C),λi x B=>s _ _ (m i x B)⟩
def td {B:List kC}{l:List α}{sv:Value}{rows:List (List Value)}{sp:List Value}(d:ke w sv l.length rows.flatten sp)(hr:fg w Rd l rows):wn w Rd (aj sv rows.flatten sp++B) sv l:=by
 have aL:∀i,i<l.length->rows[i]? =some (rows.getD i []):=λi hi=>by
  exact zEX
 generalize g:l.length=m at d;generalize q:rows.flatten=xs at d|-;cases d with
 |@mk bk o _ c _ _ h1 h2 h3=>
  rw[<- g];subst q;refine⟨_,c,bk,o,λi=>rows.getD i [],rfl,λ_=>rfl,λi hi y hy=>?_,λi x j=>?_⟩
  .exact zE1
  .have hi:=(Vt.1 j).1;exact hr.rd i x _ j (aL i hi)
 |nil=>
  have s:l=[]:=vy g;subst s;exact wn.nil _
end
def OP(x:zM)(cv bv:Value):List Value:=[.int .i64 x.a7,.int .i64 x.a5,cv,.int .i64 x.bi,.int .i64 x.aA,bv]
def SS(T:List kC)(x:zM)(vs:List Value):Prop:=∃cv bv,vs=OP x cv bv/\jd T cv x.a9/\iZ T bv x.body
def SS.more {T T'}(d:∀x∈T,x∈T'){x:zM}{vs}(h:SS T x vs):SS T' x vs:=by
 obtain⟨cv,g,j,m,q⟩:=h;exact⟨cv,g,j,m.more d,q.more d⟩
def O0(T:List kC)(v:Value)(l:List zM):Prop:=wn 6 (SS T) T v l
section
variable {P:Program} {n:Nat} {Γ:Env} {H:SH} {Q:Exit->Env->SH->Prop}
end
abbrev NV:=Nd×List Value
def Xe {A x vs}(h:jD A x vs):∃(d:Nat) (g:Int) (j:Nat) (m:ByteArray) (q:Option Addr) (s B:Nat) (C:Option Addr) (D E:Nat) (F:Option Addr) (G H:Nat) (a:Option Addr) (c bk o:Nat) (us:Nat->List Value),
 vs=(rA x.kind x.name d g j m q s B C D E F G H a x.ak.length c x.at_)/\x.ak.length<=140737488355328/\(0<x.ak.length->a=some ⟨bk,o,none⟩)/\
 (∀i,i<x.ak.length->∀y∈kA bk (o+i*11) (us i),y∈A)/\∀i y,x.ak[i]? =some y->jD A y (us i):=by
 cases h with
 |mk wf hl bI bL ha hm hr lW=>
  obtain⟨_,_,rfl,_⟩:=bI;obtain⟨_,_,rfl,_⟩:=bL;cases hl with
  |mk Tj Gp rT de=>exact⟨_,_,_,_,_,_,_,_,_,_,_,_,_,_,_,_,_,_,rfl,wf.many,ha,hm,hr⟩
inductive iY:Lt->List Value->List kC->Prop
 |mk {k:Nat} {n:Int} {b:Nat} {t:ByteArray} {ci:List Lt} {sv:Value} {rows:List (List Value)} {sp:List Value} {Ls:Nat->List kC} {L:List kC} (aM:ke 5 sv ci.length rows.flatten sp) (hl:rows.length=ci.length) (h5:∀r∈rows,r.length=5)
   (hr:∀(i:Nat) x r,ci[i]? =some x->rows[i]? =some r->iY x r (Ls i)) (wf:Tw k n b t ci.length) (hL:L.Perm (aj sv rows.flatten sp++(List.range ci.length).flatMap Ls)):iY (.mk k n b t ci) [cv k,vi n,uv b,.string t,sv] L
def AZ(v:Value)(l:List ByteArray)(L:List kC):Prop:=∃sp,ke 1 v l.length (l.map Value.string) sp/\L=aj v (l.map Value.string) sp/\l.length<=1099511627776/\∀t∈l,t.size<=140737488355328
inductive Ip:Nd->List Value->List kC->Prop
 |mk {k:Nat} {s:ByteArray} {lit:Lt} {a5 ae:List ByteArray} {ak:List Nd} {p:Int} {lv:List Value} {av tv sv:Value} {rows:List (List Value)} {sp:List Value} {Ls:Nat->List kC} {LL LA LT L:List kC} (aM:ke 11 sv ak.length rows.flatten sp) (hl:rows.length=ak.length) (I3:∀r∈rows,r.length=11)
   (hr:∀(i:Nat) x r,ak[i]? =some x->rows[i]? =some r->Ip x r (Ls i)) (wf:NdWf k s ak.length p) (aI:iY lit lv LL) (bI:AZ av a5 LA) (bL:AZ tv ae LT)
   (hL:L.Perm (LL++(LA++(LT++(aj sv rows.flatten sp++(List.range ak.length).flatMap Ls))))):Ip (.mk k s lit a5 ae ak p) ([cv k,.string s]++lv++[av,tv,sv,vi p]) L
def iY.rd {x vs L}(h:iY x vs L):yc L x vs:=by
 induction h with
 |@mk k n b t ci sv rows sp Ls L aM hl h5 hr wf hL ih=>
  have:=lt_made (B:=(List.range ci.length).flatMap Ls) (k:=k) (n:=n) (b:=b) (t:=t) aM hl h5 (λi x r g j=>(ih i x r g j).more λz d=>QN.2 ⟨i,QS.2 (Vt.1 g).1,d⟩) wf;exact this.more λz d=>hL.symm.subset d
def AZ.rd {v l L}(h:AZ v l L):dU L v l:=by
 obtain⟨sp,d,rfl,g,j⟩:=h;exact Nc rfl d g j
def Dc {P n rs Γ H Z K d t size bytes zero s x a j}(m:ev Γ s=some Nz)(q:ev Γ x=some (.slice a 0 j))(h:VO P n rs (au d Nz Γ) H Z K):VO P n (⟨d,none,.append t size bytes zero s x⟩::rs) Γ H Z K:=by
 refine VO.act' rfl rfl (λρ g=>⟨_,rfl,?_⟩);rw[g _ _ m,g _ _ q];simp only[eZ];rw[if_pos (show 0+0<=0 by omega)];cases a with
 |none=>
  refine aS.bind (aS.pure ?_);exact aS.pure ⟨_,H,[],.inl rfl,Zs,h⟩
 |some ad=>
  have e0:(Builtin.firstCells size 0 (.slice (some ad) 0 j):Sem (Array Value))=pure #[]:=by
   simp only[Builtin.firstCells,X1];rfl
  rw[e0];refine aS.bind (aS.pure ?_);exact aS.pure ⟨_,H,[],.inl rfl,Zs,h⟩
def P3(h g j):∃d:Nat->List kC,(∀i,i<j->d i=h i)/\d j=g/\(List.range (j+1)).flatMap d=(List.range j).flatMap h++g:=by
 refine⟨λi=>if i<j then h i else g,λi m=>if_pos m,if_neg (Nat.lt_irrefl _),?_⟩;rw[List.range_succ,V9];simp only[VV,List.flatMap_nil,vm,Nat.lt_irrefl,if_false]
 congr 1
 rw[Va,Va]
 congr 1
 exact QD λi m=>if_pos (QS.1 m)
def l7(l:List Lt)(rows:List (List Value))(K:List kC):Prop:=rows.length=l.length/\(∀r∈rows,r.length=5)/\∃Ls,K=(List.range l.length).flatMap Ls/\∀(i:Nat) x r,l[i]? =some x->rows[i]? =some r->iY x r (Ls i)
def l7.nil:l7 [] [] []:=⟨rfl,λr d=>(by cases d),λ_=>[],rfl,λi x r h=>(by simp at h)⟩
def HC {α:Type}{l:List α}{z x:α}{i}(h:(l++[z])[i]? =some x):(i<l.length/\l[i]? =some x)∨(i=l.length/\x=z):=by
 have d:=(Vt.1 h).1;rw[Vz,QA]at d;by_cases e:i<l.length
 .rw[Vj e]at h;exact .inl ⟨e,h⟩
 .have:i=l.length:=by omega
  subst this;rw[Vl (Qs _),Qy]at h;simp only[Vn,X9]at h;exact .inr ⟨rfl,h.symm⟩
def l7.snoc {l rows K}(h:l7 l rows K){x r L}(q:iY x r L):l7 (l++[x]) (rows++[r]) (K++L):=by
 obtain⟨D,E,s,rfl,F⟩:=h;obtain⟨g,A,B,C⟩:=P3 s L l.length;refine⟨by simp[D],λm d=>?_,g,by rw[Vz,QA,C],λi y m j d=>?_⟩
 .rcases QH.1 d with h|h
  .exact E m h
  .rw[QU.1 h];exact q.rd.len
 .rcases HC j with⟨hi,j⟩|⟨rfl,rfl⟩
  .rcases HC d with⟨_,d⟩|⟨e,_⟩
   .rw[A i hi];exact F i y m j d
   .omega
  .rcases HC d with⟨e,_⟩|⟨_,rfl⟩
   .omega
   .rw[B];exact q
def iY.of {k n b t ci sv rows sp K}(d:ke 5 sv ci.length rows.flatten sp)(h:l7 ci rows K)(q:Tw k n b t ci.length):
 iY (.mk k n b t ci) [cv k,vi n,uv b,.string t,sv] (aj sv rows.flatten sp++K):=by
 obtain⟨g,j,Ls,rfl,m⟩:=h;exact .mk d g j m q (vd _)
def iY.parts {x vs L}(h:iY x vs L):∃sv rows sp K,vs=[cv x.kind,vi x.n,uv x.bits,.string x.text,sv]/\ke 5 sv x.ci.length rows.flatten sp/\l7 x.ci rows K/\Tw x.kind x.n x.bits x.text x.ci.length/\L.Perm (aj sv rows.flatten sp++K):=by
 cases h with
 |mk aM hl h5 hr wf hL=>exact⟨_,_,_,_,rfl,aM,⟨hl,h5,_,rfl,hr⟩,wf,hL⟩
structure Foc (p9:Nat)(x0:Nd)(M:List kC)(b o:Nat)(x:Nd)(vs:List Value)(L R:List kC):Prop where
 own:Ip x vs L
 here:M.Perm (kA b o vs++(L++R))
 w:x.w<=x0.w
 back:∀y ws L',Ip y ws L'->Xd x y=false->Xd y x=false->∃z us Lz,Xd x0 z=false/\Xd z x0=false/\Ip z us Lz/\(kA b o ws++(L'++R)).Perm (kA p9 0 us++Lz)
section
variable {H:Type} {enc:TypeId×Value->H} {P:Program} {bulk:DataW H->Nat}
open Go.ChangeShapes Go.WideShapes Go.Deep
end
structure En (F:List ByteArray)(j:Nat)(es:Array MapEntry)(c:Nat):Prop where
 is:∃m:List (ByteArray×Nat),yQ yw (λn:Nat=>.int .i64 n) es c m/\∀nm,jI nm m=(F.take j).findIdx? (λs=>decide (s=nm))
structure Eo (G:List ByteArray)(j:Nat)(es:Array MapEntry)(c:Nat):Prop where
 is:∃m:List (ByteArray×Nat),yQ yw (λn:Nat=>.int .i64 n) es c m/\(∀nm,decide ((jI nm m).getD 0=0)=!(G.take j).any (λs=>decide (s=nm)))/\∀nm,(jI nm m).getD 0<=j
def En.nil(F):En F 0 #[] 0:=⟨[],.nil,λ_=>by rw[Qm];rfl⟩
def Eo.nil(G):Eo G 0 #[] 0:=⟨[],.nil,λ_=>by rw[Qm];rfl,λ_=>X0 _⟩
def En.all {F j es c}(h:En F j es c)(q:F.length<=j):rW F es c:=by
 obtain⟨m,g,d⟩:=h.is;rw[Ql q]at d;exact⟨m,g,d⟩
def Eo.all {G j es c}(h:Eo G j es c)(q:G.length<=j):Aq G es c:=by
 obtain⟨m,g,d,_⟩:=h.is;rw[Ql q]at d;exact⟨m,g,d⟩
def Bv {F:List ByteArray}{j:Nat}{s:ByteArray}(d:F[j]? =some s)(nm:ByteArray):(F.take (j+1)).findIdx? (λt=>decide (t=nm))=((F.take j).findIdx? (λt=>decide (t=nm))).or (if s=nm then some j else none):=by
 have hl:=(Vt.1 d).1;have e:F.take (j+1)=F.take j++[s]:=by rw[Qi,d];rfl
 rw[e,List.findIdx?_append,QB,Nat.min_eq_left Zo]
 congr 1
 rw[V8,List.findIdx?_nil];by_cases c:s=nm
 .rw[Zt c,if_pos c];simp
 .rw[Zf c,if_neg c];simp
def UI {G:List ByteArray}{j:Nat}{s:ByteArray}(d:G[j]? =some s)(nm:ByteArray):(G.take (j+1)).any (λt=>decide (t=nm))=((G.take j).any (λt=>decide (t=nm))||decide (s=nm)):=by
 have e:G.take (j+1)=G.take j++[s]:=by rw[Qi,d];rfl
 rw[e,List.any_append,vg,List.any_nil,vU]
def Sk(F G a5 ae ak e p)(h:(lM F G a5 ae ak).f=some (e,p)):errW e:=by
 unfold lM at h;rw[wu]at h;have g:Gr iU (kQ F G ak (bq a5 ae 0 iU [] (-1)).1 (bq a5 ae 0 iU [] (-1)).2 iU.a7.length).2:=(NS iU (-1) a5.length).trans ((zv _ _ _ _ _ _ _ _).trans ((zv _ _ _ _ _ _ _ _).trans (wa F G ak _ _ _)));exact(g.err _ h).elim (λk=>by cases k) id
def Iv {st:ai}{e:Nat}{p:Int}(h:st.f=some (e,p)):st.answer=([],e,p):=by
 unfold ai.answer;rw[h]
structure AV (out:List ByteArray)(es:Array MapEntry)(c:Nat):Prop where
 is:∃m,yQ yw (λn:Nat=>.int .i64 n) es c m/\∀s,((jI s m).getD 0=0↔wm s=0/\s∉out)
structure tF (seen:List ByteArray)(es:Array MapEntry)(c:Nat):Prop where
 is:∃m,yQ yw (λn:Nat=>.int .i64 n) es c m/\(∀s,((jI s m).getD 0=0↔s∉seen))/\∀s,(jI s m).getD 0<=seen.length
def tF.nil:tF [] #[] 0:=⟨⟨[],.nil,λs=>by simp[jI],λs=>by simp[jI]⟩⟩
def Of {m:List (ByteArray×Nat)}{s:ByteArray}:oA false (.int .i64 0) ((jI s m).map λn:Nat=>.int .i64 n)=.int .i64 ((jI s m).getD 0:Nat):=by cases jI s m<;>rfl
def met_put {out m k s}(h:∀s,((jI s m).getD 0=0↔wm s=0/\s∉out)):∀t,((jI t (js s (k+1) m)).getD 0=0↔wm t=0/\t∉out++[s]):=by
 intro t;rw[wT,QH,QU];by_cases e:s=t
 .rw[if_pos e];exact⟨λh=>absurd h Zs,λh=>absurd (.inr e.symm) h.2⟩
 .rw[if_neg e,h t];exact⟨λg=>⟨g.1,λc=>c.elim g.2 (λc=>e c.symm)⟩,λg=>⟨g.1,λc=>g.2 (.inl c)⟩⟩
def UT {seen:List ByteArray}{m:List (ByteArray×Nat)}{s:ByteArray}(h:∀s,((jI s m).getD 0=0↔s∉seen))(d:∀s,(jI s m).getD 0<=seen.length):
 (∀t,((jI t (js s ((jI s m).getD 0+1) m)).getD 0=0↔t∉seen++[s]))/\∀t,(jI t (js s ((jI s m).getD 0+1) m)).getD 0<=(seen++[s]).length:=by
 refine⟨λt=>?_,λt=>?_⟩
 .rw[wT,QH,QU];by_cases e:s=t
  .rw[if_pos e];exact⟨λh=>absurd h Zs,λh=>absurd (.inr e.symm) h⟩
  .rw[if_neg e,h t];exact⟨λg c=>c.elim g (λc=>e c.symm),λg c=>g (.inl c)⟩
 .rw[wT,Vz,QA];have:=d s;have:=d t;by_cases e:s=t
  .rw[if_pos e];show(jI s m).getD 0+1<=_;omega
  .rw[if_neg e];omega
def W8:∀s,((jI s (js sO 1 (js CU 1 (js JI 1 (js o8 1 (js CT 1 ([]:List (ByteArray×Nat)))))))).getD 0=0↔wm s=0/\s∉([]:List ByteArray)):=by
 intro s;rw[wT,wT,wT,wT,wT];by_cases a:sO=s
 .rw[if_pos a];subst a;exact⟨λh=>absurd h Zs,λh=>absurd h.1 Zd⟩
 rw[if_neg a];by_cases b:CU=s
 .rw[if_pos b];subst b;exact⟨λh=>absurd h Zs,λh=>absurd h.1 Zd⟩
 rw[if_neg b];by_cases c:JI=s
 .rw[if_pos c];subst c;exact⟨λh=>absurd h Zs,λh=>absurd h.1 Zd⟩
 rw[if_neg c];by_cases d:o8=s
 .rw[if_pos d];subst d;exact⟨λh=>absurd h Zs,λh=>absurd h.1 Zd⟩
 rw[if_neg d];by_cases e:CT=s
 .rw[if_pos e];subst e;exact⟨λh=>absurd h Zs,λh=>absurd h.1 Zd⟩
 rw[if_neg e];have g:wm s=0:=by
  unfold wm;rw[if_neg (λk=>k.elim (λk=>e k.symm) (λk=>d k.symm)),if_neg (λk=>c k.symm),if_neg (λk=>b k.symm),if_neg (λk=>a k.symm)]
 exact⟨λ_=>⟨g,Zs⟩,λ_=>rfl⟩
mutual
def NQ(seen:List ByteArray):∀(x:Nd) (out:List ByteArray),(pI seen out x).length<=out.length+x.w
 |.mk k s lit a5 ae ak p,out=>by
  rw[pI];have:=Bx (if k=7 then seen++a5++ae else seen) ak (if(k=2∨k=3)/\wm s=0/\s∉seen/\s∉out then out++[s]else out);have h2:(if(k=2∨k=3)/\wm s=0/\s∉seen/\s∉out then out++[s]else out).length<=out.length+1:=by
   split
   .rw[Vz,QA];exact Qs _
   .omega
  simp only[Nd.w];omega
def Bx(seen:List ByteArray):∀(l:List Nd) (out:List ByteArray),(wy seen out l).length<=out.length+Nd.ws l
 |[],out=>by rw[wy];simp only[Nd.ws];omega
 |x::r,out=>by
  rw[wy];have h1:=NQ seen x out;have h2:=Bx seen r (pI seen out x);simp only[Nd.ws];omega
end
mutual
def I1(seen:List ByteArray)(B:Nat):∀(x:Nd) (out:List ByteArray),x.w<=B->(∀t∈out,t.size<=B)->∀t∈pI seen out x,t.size<=B
 |.mk k s lit a5 ae ak p,out,hw,ho=>by
  rw[pI];simp only[Nd.w]at hw;refine EO _ B ak _ Zo ?_;split
  .intro t d;rcases QH.1 d with h|h
   .exact ho t h
   .rw[QU.1 h];omega
  .exact ho
def EO(seen:List ByteArray)(B:Nat):∀(l:List Nd) (out:List ByteArray),Nd.ws l<=B->(∀t∈out,t.size<=B)->∀t∈wy seen out l,t.size<=B
 |[],out,hw,ho=>by rw[wy];exact ho
 |x::r,out,hw,ho=>by
  rw[wy];simp only[Nd.ws]at hw;exact EO seen B r _ Zo (I1 seen B x out Zo ho)
end
def Ho(b:List Nd):∀(a:List Nd),Nd.ws (a++b)=Nd.ws a+Nd.ws b
 |[]=>by rw[QV,Nd.ws,Qz]
 |x::r=>by rw[vq,Nd.ws,Nd.ws,Ho b r,Qn]
def EP(seen:List ByteArray)(z:Nd):∀(l:List Nd) (out:List ByteArray),wy seen out (l++[z])=pI seen (wy seen out l) z
 |[],out=>by rw[QV,wy,wy,wy]
 |x::r,out=>by rw[vq,wy,wy,EP seen z r]
structure FrOk (seen out:List ByteArray)(DZ:Array MapEntry)(mc:Nat)(nF:Array MapEntry)(hc:Nat)(sv:Value)(sp:List Value):Prop where
 met:AV out DZ mc
 held:tF seen nF hc
 sl:ke 1 sv out.length (out.map Value.string) sp
def Sr {A a c l}(h:dU A (.slice a l.length c) l)(g:0 < l.length):Src A 1 l.length (l.map Value.string) (.slice a l.length c):=by
 obtain⟨a',c',e,_,hr⟩:=h;cases e;obtain⟨t,j⟩:∃t,l[0]? =some t:=⟨_,Zg g⟩;obtain⟨b,o,d,_⟩:=hr 0 t j;cases d;exact zD2
def Cq(b:List Lt):∀(a:List Lt),Lt.ay (a++b)=Lt.ay a+Lt.ay b
 |[]=>by rw[QV,Lt.ay,Qz]
 |x::r=>by rw[vq,Lt.ay,Lt.ay,Cq b r,Qn]
def lt_take {l:List Lt}{j:Nat}{y:Lt}(h:l[j]? =some y):Lt.ay (l.take (j+1))=Lt.ay (l.take j)+y.size:=by
 rw[Qi,h,Cq];simp only[Option.toList,Lt.ay];omega
def Oj {l:List Nd}{j:Nat}{y:Nd}(h:l[j]? =some y):Nd.ws (l.take (j+1))=Nd.ws (l.take j)+y.w:=by
 rw[Qi,h,Ho];simp only[Option.toList,Nd.ws];omega
mutual
def size_w:∀(x:Nd),x.size<=x.w
 |.mk k s lit a5 ae ak p=>by
  have:=C9 ak;simp only[Nd.size,Nd.w];omega
def C9:∀(l:List Nd),Nd.ay l<=Nd.ws l
 |[]=>Qs _
 |x::r=>by
  have h1:=size_w x;have h2:=C9 r;simp only[Nd.ay,Nd.ws];omega
end
mutual
def cntN_w:∀(x:Nd),cV x<=x.w
 |.mk k s lit a5 ae ak p=>by
  have:=Bh ak;simp only[cV,cW,Nd.w];omega
def Bh:∀(l:List Nd),kf l<=Nd.ws l
 |[]=>Qs _
 |x::r=>by
  have h1:=cntN_w x;have h2:=Bh r;simp only[kf,Nd.ws];omega
end
structure SoundL (l:List zM)(n c:Nat):Prop where
 pos:0<l.length
 many:l.length<=255
 first:∃y,l[0]? =some y/\y.a7=-1/\y.a9=[]/\y.a5=(n:Int)
 cg:∀i x,l[i]? =some x->UnitOk l i x/\x.frame<=63/\x.aA<=63/\PN.ws x.body<=2*c
end Go.V
